/- Layer 27's reference, first part: Gain, long, Few, Same. -/
import Derived.Test.YteljglhfimhmlaaFadesA
import Derived.Test.YteljglhfimhmlaaFadesB
import Derived.Test.YteljglhfimhmlaaTail
import Derived.Test.YteljglhfimhmlaaAppend
namespace Go.Proofs.Yteljglhfimhmlaa
open Go.RowKit

theorem rgain_any (i n : Int) (w : World) (hi : 0 ≤ i) (hi2 : i ≤ 16777216) (hn : 0 ≤ n) (hn2 : n ≤ 16777216) : Calls Try.prog 64 #[.int .i64 i, .int .i64 n] w fun e w' => e = .returned (.int .i64 (gainS i n)) ∧ w = w' := by
  have hq := IntWalk.tdiv_le ((i + 1) * 65536) (n + 1) (by omega) (by omega)
  have hz : (n + 1 == 0) = false := by simp; omega
  go_enter Try.func64, Try.ntmps64
  go_wp2
  go_ret
  exact ⟨rfl, rfl⟩
theorem rGain_any (i n : Int) (w : World) (hi : I64 i) (hn : I64 n) : Calls Try.prog 38 #[.int .i64 i, .int .i64 n] w fun e w' => e = .returned (.tuple #[.int .i64 (gainR i n).1, .int .i64 (gainR i n).2]) ∧ w = w' := by
  obtain ⟨hi1, hi2⟩ := hi
  obtain ⟨hn1, hn2⟩ := hn
  by_cases h : GainOk i n
  · simp only [gainR, if_pos h]
    obtain ⟨h1, h2, h3⟩ := h
    go_enter Try.func38, Try.ntmps38
    go_wp2_with (go_at_call 64; refine (rgain_any i n _ (by omega) (by omega) (by omega) (by omega)).mono ?_; rintro e w' ⟨rfl, rfl⟩)
    go_ret2
    exact ⟨rfl, rfl⟩
  · simp only [gainR, if_neg h]
    have h' : i < 0 ∨ (0 ≤ i ∧ n ≤ i) ∨ (0 ≤ i ∧ i < n ∧ 16777216 < n) := by unfold GainOk at h; omega
    clear h
    rcases h' with h1 | ⟨h1, h2⟩ | ⟨h1, h2, h3⟩
    all_goals
      go_enter Try.func38, Try.ntmps38
      go_wp2
      go_ret2
      exact ⟨rfl, rfl⟩
theorem long_any (A : Option Addr) (m c : Nat) (l : List Int) (n : Int) (w : World) (h : SL w A m c l) : Calls Try.prog 67 #[.slice A m c, .int .i64 n] w fun e w' => e = .returned (.bool (!rightB m n)) ∧ w = w' := by
  have hl := h.len
  have hc : (16777216 < m) ∨ (m ≤ 16777216 ∧ n < 0) ∨ (m ≤ 16777216 ∧ 0 ≤ n ∧ m < n) ∨ (m ≤ 16777216 ∧ 0 ≤ n ∧ n ≤ m) := by omega
  clear h
  rcases hc with h1 | ⟨h1, h2⟩ | ⟨h1, h2, h3⟩ | ⟨h1, h2, h3⟩
  · have H := Lib.hid (show (!rightB m n) = true by unfold rightB; simp; omega)
    have k1 : (16777216 : Int) < m := by omega
    go_enter Try.func67, Try.ntmps67
    go_wp2
    go_ret
    exact ⟨ret_bool H.out.symm, rfl⟩
  · have H := Lib.hid (show (!rightB m n) = true by unfold rightB; simp; omega)
    have k1 : (m : Int) ≤ 16777216 := by omega
    go_enter Try.func67, Try.ntmps67
    go_wp2
    go_ret
    exact ⟨ret_bool H.out.symm, rfl⟩
  · have H := Lib.hid (show (!rightB m n) = true by unfold rightB; simp; omega)
    have k1 : (m : Int) ≤ 16777216 := by omega
    go_enter Try.func67, Try.ntmps67
    go_wp2
    go_ret
    exact ⟨ret_bool (by rw [H.out]; try (simp; try omega)), rfl⟩
  · have H := Lib.hid (show (!rightB m n) = false by unfold rightB; simp; omega)
    have k1 : (m : Int) ≤ 16777216 := by omega
    go_enter Try.func67, Try.ntmps67
    go_wp2
    go_ret
    exact ⟨ret_bool (by rw [H.out]; try (simp; try omega)), rfl⟩
theorem few_any (A : Option Addr) (m c : Nat) (w : World) (h : (m : Int) ≤ 9223372036854775807) : Calls Try.prog 39 #[.slice A m c] w fun e w' => e = .returned (.bool (decide (m ≤ 1000))) ∧ w = w' := by
  have H := Lib.hid (show decide (m ≤ 1000) = decide ((m : Int) ≤ 1000) by simp; omega)
  go_enter Try.func39, Try.ntmps39
  go_wp2
  go_ret
  exact ⟨ret_bool H.out.symm, rfl⟩
theorem same_any (A B : Option Addr) (n c m d : Nat) (a b : List Int) (w : World) (ha : SL w A n c a) (hb : SL w B m d b) :
    Calls Try.prog 44 #[.slice A n c, .slice B m d] w fun e w' => e = .returned (.bool (decide (a = b))) ∧ Below w.heap.size w w' := by
  have hla := ha.len
  have hlb := hb.len
  have HA := Lib.hid ha.n_eq
  have HB := Lib.hid hb.n_eq
  by_cases hl : n = m
  · subst hl
    have e0 : ((n : Int) != (n : Int)) = false := by simp
    go_enter Try.func44, Try.ntmps44
    go_wp2
    go_loopw [5] (fun i wr => ∃ k : Nat, k ≤ n ∧ i = .int .i64 k ∧ a.take k = b.take k ∧ Below w.heap.size w wr) (fun i _ => n - (intOf i).toNat)
    case atStart => exact ⟨0, Nat.zero_le _, rfl, by simp, Below.refl _ _⟩
    case round =>
      obtain ⟨k, hk, rfl, he, hbel⟩ := hrel
      by_cases hlt : k < n
      · obtain ⟨ba, oa, rfl, hba, ca⟩ := (ha.below hbel).at_ (show k < a.length by rw [HA.out]; exact hlt)
        obtain ⟨bb, ob, rfl, hbb, cb⟩ := (hb.below hbel).at_ (show k < b.length by rw [HB.out]; exact hlt)
        obtain ⟨x, hx⟩ : ∃ x, a[k]'(by rw [HA.out]; exact hlt) = x := ⟨_, rfl⟩
        obtain ⟨y, hy⟩ : ∃ y, b[k]'(by rw [HB.out]; exact hlt) = y := ⟨_, rfl⟩
        rw [hx] at ca
        rw [hy] at cb
        by_cases hab : x = y
        · have e1 : (x != y) = false := by simpa using hab
          have HN := Lib.hid (show a.take (k + 1) = b.take (k + 1) by
            rw [take_succ_get (show k < a.length by rw [HA.out]; exact hlt), take_succ_get (show k < b.length by rw [HB.out]; exact hlt), he, hx, hy, hab])
          clear hx hy hab he
          go_wp2
          go_still (by kernel_rfl)
          go_wp2
          exact ⟨⟨k + 1, by omega, by simp, HN.out, hbel.drew⟩, by simp only [intOf]; omega⟩
        · have e1 : (x != y) = true := by simpa using hab
          have HN := Lib.hid (show decide (a = b) = false by
            simp only [decide_eq_false_iff_not]
            rintro rfl
            exact hab (hx.symm.trans hy))
          clear hx hy hab he
          go_wp2
          go_still (by kernel_rfl)
          go_wp2
          go_ret
          exact ⟨ret_bool HN.out.symm, hbel.drew⟩
      · obtain rfl : k = n := by omega
        have HN := Lib.hid (show decide (a = b) = true by
          rw [List.take_of_length_le (by rw [HA.out]; omega), List.take_of_length_le (by rw [HB.out]; omega)] at he
          simpa using he)
        clear he
        go_wp2
        go_ret
        exact ⟨ret_bool HN.out.symm, hbel⟩
  · have e0 : ((n : Int) != (m : Int)) = true := by simp; omega
    have H := Lib.hid (show decide (a = b) = false by
      simp only [decide_eq_false_iff_not]
      rintro rfl
      exact hl (HA.out.symm.trans HB.out))
    go_enter Try.func44, Try.ntmps44
    go_wp2
    go_ret
    exact ⟨ret_bool H.out.symm, Below.refl _ _⟩
end Go.Proofs.Yteljglhfimhmlaa
