/- Plain laws: the order of what is mixed does not matter (layer 8). -/
import Derived.Test.YteljglhfimhmlaaPlainFixed
namespace Go.Proofs.Yteljglhfimhmlaa

theorem sum_perm {l l' : List Int} (h : l.Perm l') : l.sum = l'.sum := by
  induction h with
  | nil => rfl
  | cons x _ ih => simp [ih]
  | swap x y l => simp only [List.sum_cons]; omega
  | trans _ _ h1 h2 => exact h1.trans h2
theorem mixS_perm {l l' : List Int} (h : l.Perm l') : mixS l = mixS l' := by
  unfold mixS; rw [sum_perm (h.map clipS)]
theorem mixS_bd (l : List Int) : -2147483648 ≤ mixS l ∧ mixS l ≤ 2147483647 := clipS_bd _
theorem mixS_rev (l : List Int) : mixS l.reverse = mixS l := mixS_perm (List.reverse_perm l)
theorem mixS_rot (l : List Int) (k : Nat) : mixS (l.drop k ++ l.take k) = mixS l := mixS_perm (by
  have := List.perm_append_comm (l₁ := l.drop k) (l₂ := l.take k)
  rwa [List.take_append_drop] at this)
theorem mixS_neg {x : Int} (h1 : -2147483647 ≤ x) (h2 : x ≤ 2147483647) (l : List Int) : mixS (-x :: l ++ [x]) = mixS l := by
  unfold mixS
  simp only [List.cons_append, List.map_cons, List.map_append, List.map_nil, List.sum_cons, List.sum_append, List.sum_nil]
  rw [clipS_id (x := x) (by omega) (by omega), clipS_id (x := -x) (by omega) (by omega)]
  congr 1; omega
theorem mixS_two (a b : Int) : mixS [a, b] = addS (clipS a) (clipS b) := by
  unfold mixS addS; simp
end Go.Proofs.Yteljglhfimhmlaa
