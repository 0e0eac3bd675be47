/- Plain integers: what package fixed computes ('clipS', 'addS', 'mulS', 'mixS', 'lineS', 'bendS'), and the laws that these meet. No program in sight. -/
import Derived.Test.YteljglhfimhmlaaRows
namespace Go.Proofs.Yteljglhfimhmlaa

def clipS (x : Int) : Int := if x < -2147483648 then -2147483648 else if 2147483647 < x then 2147483647 else x
def addS (a b : Int) : Int := clipS (a + b)
def mulS (a g : Int) : Int := clipS (clipS a * clipS g / 65536)
def mixS (l : List Int) : Int := clipS (l.map clipS).sum
def lineS (a b n d : Int) : Int := (clipS a * (d - n) + clipS b * n) / d
def bendS (a b n d wa wb : Int) : Int := (clipS a * ((d - n) * wa) + clipS b * (n * wb)) / (n * wb + (d - n) * wa)
def LineOk (n d : Int) : Prop := 1 ≤ d ∧ d ≤ 16777216 ∧ 0 ≤ n ∧ n ≤ d
def BendOk (wa wb : Int) : Prop := 1 ≤ wa ∧ wa ≤ 16 ∧ 1 ≤ wb ∧ wb ≤ 16
instance (n d : Int) : Decidable (LineOk n d) := by unfold LineOk; infer_instance
instance (n d : Int) : Decidable (BendOk n d) := by unfold BendOk; infer_instance
def lineR (a b n d : Int) : Int × Int := if LineOk n d then (lineS a b n d, 0) else (0, 1)
def bendR (a b n d wa wb : Int) : Int × Int := if LineOk n d ∧ BendOk wa wb then (bendS a b n d wa wb, 0) else (0, 1)

theorem clipS_bd (x : Int) : -2147483648 ≤ clipS x ∧ clipS x ≤ 2147483647 := by unfold clipS; split <;> (try split) <;> omega
theorem clipS_lo (x : Int) : -2147483648 ≤ clipS x := (clipS_bd x).1
theorem clipS_hi (x : Int) : clipS x ≤ 2147483647 := (clipS_bd x).2
theorem clipS_id {x : Int} (h : -2147483648 ≤ x) (h' : x ≤ 2147483647) : clipS x = x := by unfold clipS; rw [if_neg (by omega), if_neg (by omega)]
theorem clipS_clipS (x : Int) : clipS (clipS x) = clipS x := clipS_id (clipS_lo x) (clipS_hi x)
theorem clipS_mono {x y : Int} (h : x ≤ y) : clipS x ≤ clipS y := by unfold clipS; split <;> split <;> (try split) <;> (try split) <;> omega
theorem clipS_min {x : Int} (h : x ≤ -2147483648) : clipS x = -2147483648 := by unfold clipS; split <;> (try split) <;> omega
theorem clipS_max {x : Int} (h : 2147483647 ≤ x) : clipS x = 2147483647 := by unfold clipS; split <;> (try split) <;> omega
theorem clipS_cases (x : Int) : (x < -2147483648 ∧ clipS x = -2147483648) ∨ (2147483647 < x ∧ clipS x = 2147483647) ∨ (-2147483648 ≤ x ∧ x ≤ 2147483647 ∧ clipS x = x) := by
  unfold clipS; split
  · exact .inl ⟨by omega, rfl⟩
  · split
    · exact .inr (.inl ⟨by omega, rfl⟩)
    · exact .inr (.inr ⟨by omega, by omega, rfl⟩)

/-- A product of two bounded numbers. -/
theorem mul_bd {x y : Int} {M N : Int} (hx : -M ≤ x) (hx' : x ≤ M) (hy : -N ≤ y) (hy' : y ≤ N) (hM : 0 ≤ M) (hN : 0 ≤ N) : -(M * N) ≤ x * y ∧ x * y ≤ M * N := by
  have h1 : 0 ≤ (M - x) * (N + y) := Int.mul_nonneg (by omega) (by omega)
  have h2 : 0 ≤ (M + x) * (N - y) := Int.mul_nonneg (by omega) (by omega)
  have h3 : 0 ≤ (M - x) * (N - y) := Int.mul_nonneg (by omega) (by omega)
  have h4 : 0 ≤ (M + x) * (N + y) := Int.mul_nonneg (by omega) (by omega)
  simp only [Int.sub_mul, Int.add_mul, Int.mul_sub, Int.mul_add] at h1 h2 h3 h4
  omega
theorem clip_mul_bd (a : Int) {y N : Int} (hy : -N ≤ y) (hy' : y ≤ N) (hN : 0 ≤ N) : -(2147483648 * N) ≤ clipS a * y ∧ clipS a * y ≤ 2147483648 * N :=
  mul_bd (by have := clipS_lo a; omega) (by have := clipS_hi a; omega) hy hy' (by omega) hN

/-- Rounding down, as the program does it below nought. -/
theorem down_neg {a b : Int} (_ha : a < 0) (hb : 1 ≤ b) : -((-a + b - 1) / b) = a / b := by
  have h1 := Int.mul_ediv_add_emod a b
  have h2 := Int.emod_nonneg a (show b ≠ 0 by omega)
  have h3 := Int.emod_lt_of_pos a (show 0 < b by omega)
  have : (-a + b - 1) / b = -(a / b) := by
    rw [Int.ediv_eq_iff_of_pos (by omega)]
    rw [show -(a / b) * b = -(b * (a / b)) by rw [Int.neg_mul, Int.mul_comm]]
    omega
  rw [this]; omega
/-- Rounding down, as the reference does it. -/
theorem floor_tdiv {a b : Int} (hb : 1 ≤ b) : (if a.tmod b < 0 then a.tdiv b - 1 else a.tdiv b) = a / b := by
  have h0 := Int.mul_tdiv_add_tmod a b
  have h4 : (a.tmod b).natAbs < b.natAbs := by rw [Int.natAbs_tmod]; exact Nat.mod_lt _ (by omega)
  split
  · rename_i h
    symm
    rw [Int.ediv_eq_iff_of_pos (by omega)]
    rw [Int.sub_mul, Int.mul_comm (a.tdiv b) b]
    omega
  · rename_i h
    symm
    rw [Int.ediv_eq_iff_of_pos (by omega)]
    rw [Int.mul_comm (a.tdiv b) b]
    omega
theorem tdiv_bd {a b M : Int} (hb : 1 ≤ b) (ha : -M ≤ a ∧ a ≤ M) : -M ≤ a.tdiv b ∧ a.tdiv b ≤ M := by
  have h : (a.tdiv b).natAbs ≤ a.natAbs := by rw [Int.natAbs_tdiv]; exact Nat.div_le_self _ _
  omega
end Go.Proofs.Yteljglhfimhmlaa
