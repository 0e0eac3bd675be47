/- Layer 44: the law's same. -/
import Derived.Test.YteconepbhajjeaaOvH
import Derived.Test.YteconepbhajjeaaCSame
import Derived.Test.YteconepbhajjeaaCalG
namespace Go.Proofs.Yteconepbhajjeaa
open Go.RowKit

set_option maxHeartbeats 2000000 in
theorem lsame_any (A B : Option Addr) (n c m d : Nat) (a b : List Int) (w : World) (ha : SA intE w A n c a) (hb : SA intE w B m d b) :
    Calls Try.prog 21 #[.slice A n c, .slice B m d] w fun e w' => e = .returned (.bool (decide (a = b))) ∧ Below w.heap.size w w' := by
  have hla := ha.len
  have hlb := hb.len
  have HA := Lib.hid ha.n_eq
  have HB := Lib.hid hb.n_eq
  by_cases hl : n = m
  · subst hl
    have e0 : ((n : Int) != (n : Int)) = false := by simp
    go_enter Try.func21, Try.ntmps21
    go_wp2
    go_loopw [13] (fun i wr => ∃ k : Nat, k ≤ n ∧ i = .int .i64 k ∧ a.take k = b.take k ∧ Below w.heap.size w wr) (fun i _ => n - (intOf i).toNat)
    case atStart => exact ⟨0, Nat.zero_le _, rfl, by simp, Below.refl _ _⟩
    case round =>
      obtain ⟨k, hk, rfl, he, hbel⟩ := hrel
      by_cases hlt : k < n
      · have ka : k < a.length := by rw [HA.out]; exact hlt
        have kb : k < b.length := by rw [HB.out]; exact hlt
        obtain ⟨x, hx⟩ : ∃ x, a[k] = x := ⟨_, rfl⟩
        obtain ⟨y, hy⟩ : ∃ y, b[k] = y := ⟨_, rfl⟩
        obtain ⟨ba, oa, rfl, hba, ca⟩ := int_at (ha.below hbel) ka hx
        obtain ⟨bb, ob, rfl, hbb, cb⟩ := int_at (hb.below hbel) kb hy
        by_cases hab : x = y
        · have e1 : (x != y) = false := by simpa using hab
          have HN := Lib.hid (show a.take (k + 1) = b.take (k + 1) by rw [take_succ_get ka, take_succ_get kb, he, hx, hy, hab])
          clear hx hy hab he
          go_wp2
          go_still (by kernel_rfl)
          go_wp2
          exact ⟨⟨k + 1, by omega, by simp, HN.out, hbel.drew⟩, by simp only [intOf]; omega⟩
        · have e1 : (x != y) = true := by simpa using hab
          have HN := Lib.hid (show decide (a = b) = false by
            simp only [decide_eq_false_iff_not]
            rintro rfl
            exact hab (hx.symm.trans hy))
          clear hx hy hab he
          go_wp2
          go_still (by kernel_rfl)
          go_wp2
          go_ret
          exact ⟨ret_bool HN.out.symm, hbel.drew⟩
      · obtain rfl : k = n := by omega
        have HN := Lib.hid (show decide (a = b) = true by
          rw [List.take_of_length_le (by rw [HA.out]; omega), List.take_of_length_le (by rw [HB.out]; omega)] at he
          simpa using he)
        clear he
        go_wp2
        go_ret
        exact ⟨ret_bool HN.out.symm, hbel⟩
  · have e0 : ((n : Int) != (m : Int)) = true := by simp; omega
    have H := Lib.hid (show decide (a = b) = false by
      simp only [decide_eq_false_iff_not]
      rintro rfl
      exact hl (HA.out.symm.trans HB.out))
    go_enter Try.func21, Try.ntmps21
    go_wp2
    go_ret
    exact ⟨ret_bool H.out.symm, Below.refl _ _⟩
theorem lsame_eq {A B : Option Addr} {n c m d : Nat} {a b : List Int} {w : World} (ha : SA intE w A n c a) (hb : SA intE w B m d b) (e : a = b) :
    Calls Try.prog 21 #[.slice A n c, .slice B m d] w fun e w' => e = .returned (.bool true) ∧ Below w.heap.size w w' := by
  have := lsame_any A B n c m d a b w ha hb; rw [decide_eq_true e] at this; exact this
theorem wpList_append_eqW {P : Program} {ops : Array Oper} {rest : List Oper} {o : Oper} {a : Act} {Q : Exit → Act → World → Prop} {w w' : World} {v v1 v2 : Value} (hw : Region.wanted o (yielded ops a.tmps) = true) (s x : Operand) (t : TypeId) (ho : o.op = .call { callee := .builtin .append, args := #[s, x], argTypes := #[t, t] }) (hs : a.eval s = v1) (hx : a.eval x = v2)
    (hrun : (Builtin.append_ #[t, t] o.type #[v1, v2]).run P w = .ok v w') (h : wpList P ops Q rest (a.put o.dst v) w') : wpList P ops Q (o :: rest) a w :=
  wpList_wanted hw fun _ hK => wp_append_eq s x t ho hs hx hrun (hK _ _ h)
/-- Where latencies count they are those of a valid record. -/
theorem atR_bounds {l : List Rcd} {dev pos known i o : Int} (h : atR l dev pos known = (i, o, true, 0)) : 0 ≤ i ∧ i ≤ 1048576 ∧ 0 ≤ o ∧ o ≤ 1048576 := by
  unfold atR at h
  by_cases hc : checkR l = 0
  · rw [if_neg (by omega)] at h
    by_cases hk : AtOk dev pos known
    · rw [if_pos hk] at h
      cases hf : findS l dev pos known with
      | none => rw [hf] at h; simp [fOut] at h
      | some r =>
        rw [hf] at h
        simp only [fOut, Prod.mk.injEq] at h
        obtain ⟨rfl, rfl, _⟩ := h
        have hm : r ∈ l := by
          unfold findS at hf
          exact (List.mem_filter.1 (List.mem_of_getLast? hf)).1
        obtain ⟨j, hj⟩ := List.mem_iff_getElem?.1 hm
        have hall : rcdsOk l l.length := by
          unfold checkR at hc
          by_cases h1 : 256 < l.length
          · rw [if_pos h1] at hc; omega
          · rw [if_neg h1] at hc
            by_cases h2 : rcdsOk l l.length
            · exact h2
            · rw [if_neg h2] at hc; omega
        have := (hall j r (List.getElem?_eq_some_iff.1 hj).1 hj).1
        unfold RcdOk at this
        omega
    · rw [if_neg hk] at h; simp at h
  · rw [if_pos hc] at h; simp at h
/-- A recording that is divided. -/
theorem exp_divide {l : List Spn} {h : Int} {n k : Nat} (ho : Ordered 0 l) (hk : k ≤ n) : padTo n (expL (layS l h n)) = padTo k (expL (layS l h k)) ++ padTo (n - k) (expL (layS l (h + k) (n - k))) := by
  rw [(lay_exp ho).1, (lay_exp ho).1, (lay_exp ho).1]
  obtain ⟨d, rfl⟩ : ∃ d, n = k + d := ⟨n - k, by omega⟩
  rw [Nat.add_sub_cancel_left, List.range_add, List.map_append, List.map_map]
  congr 1
  apply List.map_congr_left
  intro i _
  show heardS l (h + ((k + i : Nat) : Int)) = heardS l (h + (k : Int) + (i : Int))
  congr 1
  omega
theorem lay_expOk {l : List Spn} {h : Int} {n : Nat} (hl : inOrdS l = true) : ExpOk (layS l h n) n := by
  obtain ⟨ho, _⟩ := ordTo_of hl
  have hord : Ordered 0 l := ordL_ordered (by unfold inOrdS at hl; rw [Bool.and_eq_true] at hl; exact hl.1)
  refine expOk_of (adj_lay hord) (fun y hy => ?_)
  have := layRuns_ok (m := n) (runsS l h n) (fun r hr => runs_ok ho r hr) y hy
  exact ⟨this.2.2.1, this.2.2.2.2.1⟩
end Go.Proofs.Yteconepbhajjeaa
