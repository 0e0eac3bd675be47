/- The walks of layer 8's laws on gains, ends, order. -/
import Derived.Test.YteljglhfimhmlaaSane08
namespace Go.Proofs.Yteljglhfimhmlaa
open Go.RowKit

theorem mulS_comm (a g : Int) : mulS g a = mulS a g := by unfold mulS; rw [Int.mul_comm]
theorem mulS_unity (a : Int) : mulS a 65536 = clipS a := by
  unfold mulS
  rw [show clipS 65536 = 65536 by decide, Int.mul_ediv_cancel _ (by decide)]
  exact clipS_clipS a
theorem mulS_zero (a : Int) : mulS a 0 = 0 := by
  unfold mulS
  rw [show clipS 0 = 0 by decide]; simp; decide
theorem mulS_facts (a g p : Int) (hp : clipS a * clipS g = p) :
    (mulS a g = -2147483648 ∧ p < -140737488289792) ∨ (mulS a g = 2147483647 ∧ 140737488289792 ≤ p) ∨
    (-2147483648 < mulS a g ∧ mulS a g < 2147483647 ∧ mulS a g * 65536 ≤ p ∧ p < (mulS a g + 1) * 65536) := by
  unfold mulS
  rw [hp]
  rcases clipS_cases (p / 65536) with ⟨h1, h2⟩ | ⟨h1, h2⟩ | ⟨h1, h2, h3⟩
  · rw [h2]; omega
  · rw [h2]; omega
  · rw [h3]; omega

set_option maxHeartbeats 4000000 in
theorem gains_core (a g x y p z : Int) (w : World) (ha : I64 a) (hx : clipS a = x) (hy : clipS g = y) (hp : x * y = p) (hpb : -4611686018427387904 ≤ p ∧ p ≤ 4611686018427387904) (hz : mulS a g = z)
    (k1 : clipS x = x) (k2 : mulS a 65536 = x) (k3 : mulS a 0 = 0) (k4 : mulS g a = z) (k5 : -2147483648 ≤ x) (k6 : x ≤ 2147483647) (k7 : -2147483648 ≤ y) (k8 : y ≤ 2147483647)
    (hc : a < -2147483648 ∨ 2147483647 < a ∨ (-2147483648 ≤ a ∧ a ≤ 2147483647 ∧ (x != a) = false))
    (hq : ((z == -2147483648) = true ∧ -2147483648 ≤ z ∧ z ≤ 2147483647 ∧ p < (z + 1) * 65536) ∨ ((z == -2147483648) = false ∧ (z == 2147483647) = true ∧ -2147483648 ≤ z ∧ z ≤ 2147483647 ∧ z * 65536 ≤ p) ∨
      ((z == -2147483648) = false ∧ (z == 2147483647) = false ∧ -2147483648 ≤ z ∧ z ≤ 2147483647 ∧ z * 65536 ≤ p ∧ p < (z + 1) * 65536)) :
    Calls Try.prog 7 #[.int .i64 a, .int .i64 g] w fun e w' => e = .returned (.bool true) ∧ Below w.heap.size w w' := by
  obtain ⟨ha1, ha2⟩ := ha
  have hB := Below.refl w.heap.size w
  rcases hc with c1 | c1 | ⟨c1, c2, c3⟩ <;> rcases hq with ⟨e1, e2, e3, e4⟩ | ⟨e1, e2, e3, e4, e5⟩ | ⟨e1, e2, e3, e4, e5, e6⟩
  all_goals
    go_enter Try.func7, Try.ntmps7
    go_wp2_with (first
      | (go_at_call 23; refine (sane08_any _).mono ?_; rintro e w1 ⟨rfl, hb⟩; replace hB := bstep hB hb; clear hb)
      | (go_at_call 24; refine (clip_any _ _).mono ?_; rintro e w1 ⟨rfl, rfl⟩)
      | (go_at_call 28; refine (mul_any _ _ _).mono ?_; rintro e w1 ⟨rfl, rfl⟩))
    go_ret
    exact ⟨rfl, hB⟩
theorem walkFixedGains (a g : Int) (w : World) (ha : I64 a) (_ : I64 g) : Calls Try.prog 7 #[.int .i64 a, .int .i64 g] w fun e w' => e = .returned (.bool true) ∧ Below w.heap.size w w' := by
  have k9 := mulS_facts a g _ rfl
  have hpb := clip_mul_bd a (y := clipS g) (N := 2147483648) (by have := clipS_lo g; omega) (by have := clipS_hi g; omega) (by omega)
  refine gains_core a g _ _ _ _ w ha rfl rfl rfl (by omega) rfl (clipS_clipS a) (mulS_unity a) (mulS_zero a) (mulS_comm a g) (clipS_lo a) (clipS_hi a) (clipS_lo g) (clipS_hi g) ?_ ?_
  · rcases clipS_cases a with ⟨c1, _⟩ | ⟨c1, _⟩ | ⟨c1, c2, c3⟩
    · exact .inl c1
    · exact .inr (.inl c1)
    · exact .inr (.inr ⟨c1, c2, by simp [c3]⟩)
  · simp only [beq_iff_eq, beq_eq_false_iff_ne, ne_eq]
    omega
end Go.Proofs.Yteljglhfimhmlaa
