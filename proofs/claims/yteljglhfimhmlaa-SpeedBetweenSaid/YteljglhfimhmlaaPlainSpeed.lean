/- Plain integers and lists: what package speed computes (layer 26). No program in sight. -/
import Derived.Test.YteljglhfimhmlaaPlainFixed
namespace Go.Proofs.Yteljglhfimhmlaa

def SpeedOk (a b : Int) : Prop := 1 ≤ a ∧ a ≤ 64 ∧ 1 ≤ b ∧ b ≤ 64 ∧ Nat.gcd a.toNat b.toNat = 1
instance (a b : Int) : Decidable (SpeedOk a b) := by unfold SpeedOk; infer_instance
def speedB (a b : Int) : Bool := decide (SpeedOk a b)
def cntS (n a b : Int) : Int := if n = 0 then 0 else 1 + (n - 1) * b / a
def lenR (n a b : Int) : Int × Int := if SpeedOk a b ∧ 0 ≤ n ∧ n ≤ 16777216 then (cntS n a b, 0) else (0, 1)
def readS (l : List Int) (q r b : Int) : Int := if r = 0 then clipS (l[q.toNat]?.getD 0) else lineS (l[q.toNat]?.getD 0) (l[q.toNat + 1]?.getD 0) r b
def sampS (l : List Int) (a b i : Int) : Int := readS l (i * a / b) (i * a % b) b
def atR (l : List Int) (a b i : Int) : Int × Int := if SpeedOk a b ∧ (l.length : Int) ≤ 16777216 ∧ 0 ≤ i ∧ i < cntS l.length a b then (sampS l a b i, 0) else (0, 1)
def convS (l : List Int) (a b : Int) : List Int := (List.range (cntS l.length a b).toNat).map fun (i : Nat) => sampS l a b i
def convR (l : List Int) (a b : Int) : List Int × Int :=
  if SpeedOk a b ∧ (l.length : Int) ≤ 16777216 then (if cntS l.length a b ≤ 16777216 then (convS l a b, 0) else ([], 2)) else ([], 1)

theorem cntS_pos {n a b : Int} (hn : 1 ≤ n) (h : SpeedOk a b) : 1 ≤ cntS n a b ∧ (cntS n a b - 1) * a ≤ (n - 1) * b ∧ (n - 1) * b < cntS n a b * a := by
  obtain ⟨h1, h2, h3, h4, _⟩ := h
  unfold cntS
  rw [if_neg (by omega)]
  have hp : 0 ≤ (n - 1) * b := Int.mul_nonneg (by omega) (by omega)
  obtain ⟨p, hp'⟩ : ∃ p, (n - 1) * b = p := ⟨_, rfl⟩
  rw [hp'] at hp ⊢
  have e1 := Int.mul_ediv_add_emod p a
  have e2 := Int.emod_nonneg p (show a ≠ 0 by omega)
  have e3 := Int.emod_lt_of_pos p (show 0 < a by omega)
  have e4 := Int.ediv_nonneg hp (show 0 ≤ a by omega)
  obtain ⟨d, hd⟩ : ∃ d, p / a = d := ⟨_, rfl⟩
  rw [hd] at e1 e4 ⊢
  rw [show (1 + d - 1) * a = a * d by rw [show 1 + d - 1 = d by omega, Int.mul_comm], show (1 + d) * a = a + a * d by rw [Int.add_mul, Int.one_mul, Int.mul_comm d]]
  omega
theorem cntS_le {n a b : Int} (hn : 0 ≤ n) (h : SpeedOk a b) : 0 ≤ cntS n a b ∧ cntS n a b ≤ n * 64 := by
  rcases (show n = 0 ∨ 1 ≤ n by omega) with rfl | h1
  · simp [cntS]
  · obtain ⟨k1, k2, k3⟩ := cntS_pos h1 h
    obtain ⟨h2, h3, h4, h5, _⟩ := h
    refine ⟨by omega, ?_⟩
    have a1 : (n - 1) * b ≤ (n - 1) * 64 := Int.mul_le_mul_of_nonneg_left h5 (by omega)
    have a2 : (cntS n a b - 1) * 1 ≤ (cntS n a b - 1) * a := Int.mul_le_mul_of_nonneg_left h2 (by omega)
    omega
theorem cntS_mono {n m a b : Int} (hn : 0 ≤ n) (hm : n ≤ m) (h : SpeedOk a b) : cntS n a b ≤ cntS m a b := by
  rcases (show n = 0 ∨ 1 ≤ n by omega) with rfl | h1
  · exact (cntS_le (by omega) h).1
  · unfold cntS
    rw [if_neg (by omega), if_neg (by omega)]
    have := Int.ediv_le_ediv (show 0 < a from by have := h.1; omega) (Int.mul_le_mul_of_nonneg_right (show n - 1 ≤ m - 1 by omega) (show 0 ≤ b by have := h.2.2.1; omega))
    omega
/-- The place of a sample lies within. -/
theorem place_in {n a b i : Int} (h : SpeedOk a b) (h0 : 0 ≤ i) (hi : i < cntS n a b) (hn : 0 ≤ n) :
    0 ≤ i * a / b ∧ i * a / b < n ∧ 0 ≤ i * a % b ∧ i * a % b < b ∧ (i * a % b ≠ 0 → i * a / b + 1 < n) ∧ 0 ≤ i * a ∧ i * a ≤ (n - 1) * b := by
  have hn1 : 1 ≤ n := by
    rcases (show n = 0 ∨ 1 ≤ n by omega) with rfl | h1
    · simp [cntS] at hi; omega
    · exact h1
  obtain ⟨k1, k2, k3⟩ := cntS_pos hn1 h
  obtain ⟨h2, h3, h4, h5, _⟩ := h
  have a1 : i * a ≤ (cntS n a b - 1) * a := Int.mul_le_mul_of_nonneg_right (by omega) (by omega)
  have a0 : 0 ≤ i * a := Int.mul_nonneg h0 (by omega)
  obtain ⟨p, hp⟩ : ∃ p, i * a = p := ⟨_, rfl⟩
  rw [hp] at a0 a1 ⊢
  have e1 := Int.mul_ediv_add_emod p b
  have e2 := Int.emod_nonneg p (show b ≠ 0 by omega)
  have e3 := Int.emod_lt_of_pos p (show 0 < b by omega)
  have e4 := Int.ediv_nonneg a0 (show 0 ≤ b by omega)
  have a2 : p ≤ (n - 1) * b := by omega
  obtain ⟨d, hd⟩ : ∃ d, p / b = d := ⟨_, rfl⟩
  rw [hd] at e1 e4 ⊢
  have f1 : b * d ≤ b * (n - 1) := by rw [Int.mul_comm b (n - 1)]; omega
  have f2 : d ≤ n - 1 := Int.le_of_mul_le_mul_left f1 (by omega)
  refine ⟨e4, by omega, e2, e3, fun hr => ?_, a0, a2⟩
  have f3 : b * d < b * (n - 1) := by rw [Int.mul_comm b (n - 1)]; omega
  have f4 := Int.lt_of_mul_lt_mul_left f3 (by omega)
  omega
/-- The next place. -/
theorem place_next {a b i : Int} (hb : 1 ≤ b) : (i + 1) * a / b = i * a / b + (i * a % b + a) / b ∧ (i + 1) * a % b = (i * a % b + a) % b := by
  have e1 := Int.mul_ediv_add_emod (i * a) b
  have e : (i + 1) * a = (i * a % b + a) + b * (i * a / b) := by rw [Int.add_mul, Int.one_mul]; omega
  constructor
  · rw [e, Int.add_mul_ediv_left _ _ (by omega)]; omega
  · rw [e, Int.add_mul_emod_self_left]
theorem convS_len (l : List Int) (a b : Int) : (convS l a b).length = (cntS l.length a b).toNat := by simp [convS]
theorem readS_bd (l : List Int) (q r b : Int) (hb : 1 ≤ b) (hr : 0 ≤ r) (hrb : r < b) : -2147483648 ≤ readS l q r b ∧ readS l q r b ≤ 2147483647 := by
  unfold readS
  split
  · exact clipS_bd _
  · unfold lineS
    have c1 := clipS_bd (l[q.toNat]?.getD 0)
    have c2 := clipS_bd (l[q.toNat + 1]?.getD 0)
    generalize clipS (l[q.toNat]?.getD 0) = x at c1 ⊢
    generalize clipS (l[q.toNat + 1]?.getD 0) = y at c2 ⊢
    have m1 : -2147483648 * (b - r) ≤ x * (b - r) := Int.mul_le_mul_of_nonneg_right c1.1 (by omega)
    have m2 : x * (b - r) ≤ 2147483647 * (b - r) := Int.mul_le_mul_of_nonneg_right c1.2 (by omega)
    have m3 : -2147483648 * r ≤ y * r := Int.mul_le_mul_of_nonneg_right c2.1 hr
    have m4 : y * r ≤ 2147483647 * r := Int.mul_le_mul_of_nonneg_right c2.2 hr
    constructor
    · exact Int.le_ediv_of_mul_le (by omega) (by omega)
    · exact Int.ediv_le_of_le_mul (by omega) (by omega)
end Go.Proofs.Yteljglhfimhmlaa
