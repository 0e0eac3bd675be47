/- Plain integers: lines and bends begin at a, end at b, stay between, do not turn back. -/
import Derived.Test.YteljglhfimhmlaaPlainFixed
namespace Go.Proofs.Yteljglhfimhmlaa

/-- Rounded quotients keep the order of the exact ones. -/
theorem ediv_le_cross {p1 s1 p2 s2 : Int} (h1 : 0 < s1) (h2 : 0 < s2) (h : p1 * s2 ≤ p2 * s1) : p1 / s1 ≤ p2 / s2 := by
  rw [Int.le_ediv_iff_mul_le h2]
  have hq : p1 / s1 * s1 ≤ p1 := Int.ediv_mul_le _ (by omega)
  have h3 : p1 / s1 * s1 * s2 ≤ p1 * s2 := Int.mul_le_mul_of_nonneg_right hq (by omega)
  have h4 : p1 / s1 * s2 * s1 ≤ p2 * s1 := by
    have : p1 / s1 * s2 * s1 = p1 / s1 * s1 * s2 := by grind
    omega
  exact Int.le_of_mul_le_mul_right h4 h1
/-- The general form of a line and of a bend: A at weight v, B at weight u. -/
def avgS (A B u v : Int) : Int := (A * v + B * u) / (u + v)
theorem avgS_lo {A B u v m : Int} (hu : 0 ≤ u) (hv : 0 ≤ v) (hs : 0 < u + v) (hA : m ≤ A) (hB : m ≤ B) : m ≤ avgS A B u v := by
  unfold avgS
  rw [Int.le_ediv_iff_mul_le hs]
  have h1 : m * v ≤ A * v := Int.mul_le_mul_of_nonneg_right hA hv
  have h2 : m * u ≤ B * u := Int.mul_le_mul_of_nonneg_right hB hu
  rw [Int.mul_add]; omega
theorem avgS_hi {A B u v m : Int} (hu : 0 ≤ u) (hv : 0 ≤ v) (hs : 0 < u + v) (hA : A ≤ m) (hB : B ≤ m) : avgS A B u v ≤ m := by
  unfold avgS
  have h1 : A * v ≤ m * v := Int.mul_le_mul_of_nonneg_right hA hv
  have h2 : B * u ≤ m * u := Int.mul_le_mul_of_nonneg_right hB hu
  have h3 : (A * v + B * u) / (u + v) ≤ m * (u + v) / (u + v) := Int.ediv_le_ediv hs (by rw [Int.mul_add]; omega)
  rwa [Int.mul_ediv_cancel _ (by omega)] at h3
theorem avgS_cross {A B u1 v1 u2 v2 : Int} : (A * v2 + B * u2) * (u1 + v1) - (A * v1 + B * u1) * (u2 + v2) = (B - A) * (u2 * v1 - u1 * v2) := by grind
theorem avgS_up {A B u1 v1 u2 v2 : Int} (h1 : 0 < u1 + v1) (h2 : 0 < u2 + v2) (hAB : A ≤ B) (hx : u1 * v2 ≤ u2 * v1) : avgS A B u1 v1 ≤ avgS A B u2 v2 := by
  refine ediv_le_cross h1 h2 ?_
  have := avgS_cross (A := A) (B := B) (u1 := u1) (v1 := v1) (u2 := u2) (v2 := v2)
  have h3 : 0 ≤ (B - A) * (u2 * v1 - u1 * v2) := Int.mul_nonneg (by omega) (by omega)
  omega
theorem avgS_down {A B u1 v1 u2 v2 : Int} (h1 : 0 < u1 + v1) (h2 : 0 < u2 + v2) (hAB : B ≤ A) (hx : u1 * v2 ≤ u2 * v1) : avgS A B u2 v2 ≤ avgS A B u1 v1 := by
  refine ediv_le_cross h2 h1 ?_
  have := avgS_cross (A := A) (B := B) (u1 := u1) (v1 := v1) (u2 := u2) (v2 := v2)
  have h3 : 0 ≤ (A - B) * (u2 * v1 - u1 * v2) := Int.mul_nonneg (by omega) (by omega)
  have h4 : (B - A) * (u2 * v1 - u1 * v2) = -((A - B) * (u2 * v1 - u1 * v2)) := by grind
  omega
theorem lineS_avg (a b n d : Int) : lineS a b n d = avgS (clipS a) (clipS b) n (d - n) := by
  unfold lineS avgS; congr 1; omega
theorem bendS_avg (a b n d wa wb : Int) : bendS a b n d wa wb = avgS (clipS a) (clipS b) (n * wb) ((d - n) * wa) := rfl
theorem lineS_first (a b d : Int) (hd : 1 ≤ d) : lineS a b 0 d = clipS a := by
  unfold lineS; simp; exact Int.mul_ediv_cancel _ (by omega)
theorem lineS_last (a b d : Int) (hd : 1 ≤ d) : lineS a b d d = clipS b := by
  unfold lineS; simp; exact Int.mul_ediv_cancel _ (by omega)
theorem bendS_five (a b n d : Int) : bendS a b n d 5 5 = lineS a b n d := by
  unfold bendS lineS
  rw [show clipS a * ((d - n) * 5) + clipS b * (n * 5) = 5 * (clipS a * (d - n) + clipS b * n) by grind, show n * 5 + (d - n) * 5 = 5 * d by omega]
  exact Int.mul_ediv_mul_of_pos _ _ (by decide)
theorem bendS_first (a b d wa wb : Int) (hd : 1 ≤ d) (hw : 1 ≤ wa) : bendS a b 0 d wa wb = clipS a := by
  unfold bendS; simp
  exact Int.mul_ediv_cancel _ (by have := Int.mul_pos (show 0 < d by omega) (show 0 < wa by omega); omega)

theorem line_mono (a b n d : Int) (h : LineOk n d) (hn : 1 ≤ n) :
    (clipS a ≤ clipS b → lineS a b (n - 1) d ≤ lineS a b n d) ∧ (clipS b ≤ clipS a → lineS a b n d ≤ lineS a b (n - 1) d) := by
  obtain ⟨h1, h2, h3, h4⟩ := h
  rw [lineS_avg, lineS_avg]
  have hx : (n - 1) * (d - n) ≤ n * (d - (n - 1)) := by
    have : n * (d - (n - 1)) - (n - 1) * (d - n) = d := by grind
    omega
  exact ⟨fun h => avgS_up (by omega) (by omega) h hx, fun h => avgS_down (by omega) (by omega) h hx⟩
theorem bend_pos (n d wa wb : Int) (h : LineOk n d) (h' : BendOk wa wb) : 0 ≤ n * wb ∧ 0 ≤ (d - n) * wa ∧ 0 < n * wb + (d - n) * wa := by
  obtain ⟨h1, h2, h3, h4⟩ := h
  obtain ⟨k1, k2, k3, k4⟩ := h'
  have a1 : 0 ≤ n * wb := Int.mul_nonneg h3 (by omega)
  have b1 : 0 ≤ (d - n) * wa := Int.mul_nonneg (by omega) (by omega)
  refine ⟨a1, b1, ?_⟩
  by_cases e : n = 0
  · have : 0 < (d - n) * wa := Int.mul_pos (by omega) (by omega)
    omega
  · have : 0 < n * wb := Int.mul_pos (by omega) (by omega)
    omega
theorem bend_mono (a b n d wa wb : Int) (h : LineOk n d) (h' : BendOk wa wb) (hn : 1 ≤ n) :
    (clipS a ≤ clipS b → bendS a b (n - 1) d wa wb ≤ bendS a b n d wa wb) ∧ (clipS b ≤ clipS a → bendS a b n d wa wb ≤ bendS a b (n - 1) d wa wb) := by
  have p1 := bend_pos n d wa wb h h'
  have p2 := bend_pos (n - 1) d wa wb (by unfold LineOk at *; omega) h'
  obtain ⟨h1, h2, h3, h4⟩ := h
  obtain ⟨k1, k2, k3, k4⟩ := h'
  rw [bendS_avg, bendS_avg]
  have hx : (n - 1) * wb * ((d - n) * wa) ≤ n * wb * ((d - (n - 1)) * wa) := by
    have e : n * wb * ((d - (n - 1)) * wa) - (n - 1) * wb * ((d - n) * wa) = wb * wa * d := by grind
    have : 0 ≤ wb * wa * d := Int.mul_nonneg (Int.mul_nonneg (by omega) (by omega)) (by omega)
    omega
  exact ⟨fun h => avgS_up p2.2.2 p1.2.2 h hx, fun h => avgS_down p2.2.2 p1.2.2 h hx⟩
end Go.Proofs.Yteljglhfimhmlaa
