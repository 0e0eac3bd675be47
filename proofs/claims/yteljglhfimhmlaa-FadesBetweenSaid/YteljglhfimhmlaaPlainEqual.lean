/- Plain laws: a crossfade between equal samples (layer 27). -/
import Derived.Test.YteljglhfimhmlaaPlainFades
namespace Go.Proofs.Yteljglhfimhmlaa

theorem clipS_in {x : Int} (h1 : -2147483648 ≤ x) (h2 : x ≤ 2147483647) : clipS x = x := by
  unfold clipS; rw [if_neg (by omega), if_neg (by omega)]
theorem gains_sum {n k : Int} (h1 : 0 ≤ k) (h2 : k < n) : 0 ≤ gainS k n ∧ gainS k n ≤ 65536 ∧ 0 ≤ gainS (n - 1 - k) n ∧ gainS (n - 1 - k) n ≤ 65536 ∧ (gainS (n - 1 - k) n + gainS k n = 65536 ∨ gainS (n - 1 - k) n + gainS k n = 65535) := by
  unfold gainS
  obtain ⟨d, hd⟩ : ∃ d, n + 1 = d := ⟨_, rfl⟩
  obtain ⟨q1, hq1⟩ : ∃ q, (k + 1) * 65536 / d = q := ⟨_, rfl⟩
  obtain ⟨q2, hq2⟩ : ∃ q, (n - 1 - k + 1) * 65536 / d = q := ⟨_, rfl⟩
  have hd0 : 0 < d := by omega
  have a1 := Int.emod_add_mul_ediv ((k + 1) * 65536) d
  have b1 := Int.emod_nonneg ((k + 1) * 65536) (show d ≠ 0 by omega)
  have c1 := Int.emod_lt_of_pos ((k + 1) * 65536) hd0
  have a2 := Int.emod_add_mul_ediv ((n - 1 - k + 1) * 65536) d
  have b2 := Int.emod_nonneg ((n - 1 - k + 1) * 65536) (show d ≠ 0 by omega)
  have c2 := Int.emod_lt_of_pos ((n - 1 - k + 1) * 65536) hd0
  rw [hq1] at a1
  rw [hq2] at a2
  rw [hd, hq1, hq2]
  have e : d * q1 + d * q2 = d * (q1 + q2) := by rw [Int.mul_add]
  have s1 : d * (q1 + q2) ≤ d * 65536 := by omega
  have s2 : d * 65534 < d * (q1 + q2) := by omega
  have t1 := Int.le_of_mul_le_mul_left s1 hd0
  have t2 := Int.lt_of_mul_lt_mul_left s2 (by omega)
  have p1 : 0 ≤ q1 := by rw [← hq1]; exact Int.ediv_nonneg (by omega) (by omega)
  have p2 : 0 ≤ q2 := by rw [← hq2]; exact Int.ediv_nonneg (by omega) (by omega)
  omega
theorem near_v {v g1 g2 : Int} (hv1 : -2147483648 ≤ v) (hv2 : v ≤ 2147483647) (h1 : 0 ≤ g1) (h2 : g1 ≤ 65536) (h3 : 0 ≤ g2) (h4 : g2 ≤ 65536) (hs : g1 + g2 = 65536 ∨ g1 + g2 = 65535) :
    addS (mulS v g1) (mulS v g2) - v ≤ (if 0 ≤ v then v else -v) / 65536 + 3 ∧ -((if 0 ≤ v then v else -v) / 65536) - 3 ≤ addS (mulS v g1) (mulS v g2) - v := by
  have m1 : mulS v g1 = clipS (v * g1 / 65536) := by unfold mulS; rw [clipS_in hv1 hv2, clipS_in (x := g1) (by omega) (by omega)]
  have m2 : mulS v g2 = clipS (v * g2 / 65536) := by unfold mulS; rw [clipS_in hv1 hv2, clipS_in (x := g2) (by omega) (by omega)]
  rw [m1, m2]
  have e : v * g1 + v * g2 = v * (g1 + g2) := by rw [Int.mul_add]
  obtain ⟨p1, hp1⟩ : ∃ p, v * g1 = p := ⟨_, rfl⟩
  obtain ⟨p2, hp2⟩ : ∃ p, v * g2 = p := ⟨_, rfl⟩
  have b : (0 ≤ v → 0 ≤ p1 ∧ p1 ≤ v * 65536 ∧ 0 ≤ p2 ∧ p2 ≤ v * 65536) ∧ (v < 0 → v * 65536 ≤ p1 ∧ p1 ≤ 0 ∧ v * 65536 ≤ p2 ∧ p2 ≤ 0) := by
    rw [← hp1, ← hp2]
    refine ⟨fun h => ⟨Int.mul_nonneg h h1, Int.mul_le_mul_of_nonneg_left h2 h, Int.mul_nonneg h h3, Int.mul_le_mul_of_nonneg_left h4 h⟩, fun h => ⟨?_, ?_, ?_, ?_⟩⟩
    · exact Int.mul_le_mul_of_nonpos_left (by omega) h2
    · exact Int.mul_nonpos_of_nonpos_of_nonneg (by omega) h1
    · exact Int.mul_le_mul_of_nonpos_left (by omega) h4
    · exact Int.mul_nonpos_of_nonpos_of_nonneg (by omega) h3
  rw [hp1, hp2] at e ⊢
  rw [clipS_in (x := p1 / 65536) (by omega) (by omega), clipS_in (x := p2 / 65536) (by omega) (by omega)]
  have hs' : p1 + p2 = v * 65536 ∨ p1 + p2 = v * 65535 := by rcases hs with h | h <;> rw [h] at e <;> simp [e]
  unfold addS clipS
  split
  · split <;> omega
  · split
    · split <;> omega
    · split <;> omega
end Go.Proofs.Yteljglhfimhmlaa
