/- Layer 44: the reference's Same. -/
import Derived.Test.YteconepbhajjeaaOvA
namespace Go.Proofs.Yteconepbhajjeaa
open Go.RowKit

/-- Element k of a slice of parts. -/
theorem laid_at {w : World} {A : Option Addr} {n c : Nat} {l : List Ld} (h : SA laidE w A n c l) {k : Nat} (hk : k < l.length) {s : Ld} (hs : l[k] = s) : ∃ b o, A = some ⟨b, o, none⟩ ∧ b < w.heap.size ∧
    w.cell? ⟨b, o + k * 4, none⟩ = some (.int .i64 s.frm) ∧ w.cell? ⟨b, o + k * 4 + 1, none⟩ = some (.int .i64 s.len) ∧ w.cell? ⟨b, o + k * 4 + 2, none⟩ = some (.int .i64 s.at_) ∧
    w.cell? ⟨b, o + k * 4 + 3, none⟩ = some (.int .i64 s.pass) := by
  subst hs
  obtain ⟨b, o, e, hb, hc⟩ := h.at_ hk
  exact ⟨b, o, e, hb, hc 0 _ rfl, hc 1 _ rfl, hc 2 _ rfl, hc 3 _ rfl⟩
set_option maxHeartbeats 4000000 in
theorem rsame_any (A B : Option Addr) (n c m d : Nat) (a b : List Ld) (w : World) (ha : SA laidE w A n c a) (hb : SA laidE w B m d b) :
    Calls Try.prog 12 #[.slice A n c, .slice B m d] w fun e w' => e = .returned (.bool (decide (a = b))) ∧ Below w.heap.size w w' := by
  have hla := ha.len
  have hlb := hb.len
  have HA := Lib.hid ha.n_eq
  have HB := Lib.hid hb.n_eq
  by_cases hl : n = m
  · subst hl
    have e0 : ((n : Int) != (n : Int)) = false := by simp
    go_enter Try.func12, Try.ntmps12
    go_wp2
    go_loopw [5] (fun i wr => ∃ k : Nat, k ≤ n ∧ i = .int .i64 k ∧ a.take k = b.take k ∧ Below w.heap.size w wr) (fun i _ => n - (intOf i).toNat)
    case atStart => exact ⟨0, Nat.zero_le _, rfl, by simp, Below.refl _ _⟩
    case round =>
      obtain ⟨k, hk, rfl, he, hbel⟩ := hrel
      by_cases hlt : k < n
      · have ka : k < a.length := by rw [HA.out]; exact hlt
        have kb : k < b.length := by rw [HB.out]; exact hlt
        obtain ⟨x, hx⟩ : ∃ x, a[k] = x := ⟨_, rfl⟩
        obtain ⟨y, hy⟩ : ∃ y, b[k] = y := ⟨_, rfl⟩
        obtain ⟨ba, oa, rfl, hba, c0, c1, c2, c3⟩ := laid_at (ha.below hbel) ka hx
        obtain ⟨bb, ob, rfl, hbb, d0, d1, d2, d3⟩ := laid_at (hb.below hbel) kb hy
        have hT : a.take (k + 1) = a.take k ++ [x] := by rw [take_succ_get ka, hx]
        have hU : b.take (k + 1) = b.take k ++ [y] := by rw [take_succ_get kb, hy]
        have hne : x ≠ y → decide (a = b) = false := by
          intro h
          simp only [decide_eq_false_iff_not]
          rintro rfl
          exact h (hx.symm.trans hy)
        clear hx hy
        obtain ⟨x0, x1, x2, x3⟩ := x
        obtain ⟨y0, y1, y2, y3⟩ := y
        dsimp only at c0 c1 c2 c3 d0 d1 d2 d3
        by_cases hab : x0 = y0 ∧ x1 = y1 ∧ x2 = y2 ∧ x3 = y3
        · obtain ⟨rfl, rfl, rfl, rfl⟩ := hab
          have HN := Lib.hid (show a.take (k + 1) = b.take (k + 1) by rw [hT, hU, he])
          clear hT hU hne he
          go_wp2
          refine wp_region_still_lit (by kernel_rfl) (by kernel_rfl) ?_
          repeat still_step
          refine wpStill_nil ?_
          go_wp2
          exact ⟨⟨k + 1, by omega, by simp, HN.out, hbel.drew⟩, by simp only [intOf]; omega⟩
        · have HN := Lib.hid (hne (fun h => hab (by injection h with h1 h2 h3 h4; exact ⟨h1, h2, h3, h4⟩)))
          have hc : ¬ x0 = y0 ∨ (x0 = y0 ∧ ¬ x1 = y1) ∨ (x0 = y0 ∧ x1 = y1 ∧ ¬ x2 = y2) ∨ (x0 = y0 ∧ x1 = y1 ∧ x2 = y2 ∧ ¬ x3 = y3) := by omega
          clear hT hU hne he hab
          rcases hc with h | ⟨rfl, h⟩ | ⟨rfl, rfl, h⟩ | ⟨rfl, rfl, rfl, h⟩
          all_goals
            go_wp2
            refine wp_region_still_lit (by kernel_rfl) (by kernel_rfl) ?_
            repeat still_step
            refine wpStill_nil ?_
            go_wp2
            go_ret
            exact ⟨ret_bool HN.out.symm, hbel.drew⟩
      · obtain rfl : k = n := by omega
        have HN := Lib.hid (show decide (a = b) = true by
          rw [List.take_of_length_le (by rw [HA.out]; omega), List.take_of_length_le (by rw [HB.out]; omega)] at he
          simpa using he)
        clear he
        go_wp2
        go_ret
        exact ⟨ret_bool HN.out.symm, hbel⟩
  · have e0 : ((n : Int) != (m : Int)) = true := by simp; omega
    have H := Lib.hid (show decide (a = b) = false by
      simp only [decide_eq_false_iff_not]
      rintro rfl
      exact hl (HA.out.symm.trans HB.out))
    go_enter Try.func12, Try.ntmps12
    go_wp2
    go_ret
    exact ⟨ret_bool H.out.symm, Below.refl _ _⟩
end Go.Proofs.Yteconepbhajjeaa
