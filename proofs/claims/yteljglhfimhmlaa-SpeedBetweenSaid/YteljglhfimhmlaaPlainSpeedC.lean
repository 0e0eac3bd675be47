/- Plain laws of layer 26: samples lie between their neighbours and depend on these alone; straight lines. -/
import Derived.Test.YteljglhfimhmlaaPlainSpeedB
import Derived.Test.YteljglhfimhmlaaPlainEnds
namespace Go.Proofs.Yteljglhfimhmlaa

theorem line_between {d e r b lo hi : Int} (h0 : 0 ≤ r) (h1 : r < b) (l1 : lo ≤ clipS d) (l2 : lo ≤ clipS e) (u1 : clipS d ≤ hi) (u2 : clipS e ≤ hi) : lo ≤ lineS d e r b ∧ lineS d e r b ≤ hi := by
  rw [lineS_avg]
  exact ⟨avgS_lo (by omega) (by omega) (by omega) l1 l2, avgS_hi (by omega) (by omega) (by omega) u1 u2⟩
/-- The place q and its neighbour p; the elements d, e there. -/
theorem samp_between {l : List Int} {a b : Int} {i q p : Nat} {d e lo hi : Int} (h : SpeedOk a b) (hi' : (i : Int) < cntS l.length a b) (hq : (i : Int) * a / b = q) (hp : p = min (q + 1) (l.length - 1)) (hd : l[q]? = some d) (he : l[p]? = some e)
    (l1 : lo ≤ d) (l2 : lo ≤ e) (u1 : d ≤ hi) (u2 : e ≤ hi) : clipS lo ≤ sampS l a b i ∧ sampS l a b i ≤ clipS hi := by
  obtain ⟨p1, p2, p3, p4, p5, _, _⟩ := place_in h (by omega) hi' (by omega)
  unfold sampS readS
  rw [hq] at p5 ⊢
  rw [Int.toNat_natCast, hd]
  have c1 := clipS_mono l1
  have c2 := clipS_mono l2
  have c3 := clipS_mono u1
  have c4 := clipS_mono u2
  split
  · exact ⟨c1, c3⟩
  · rename_i hr
    have h5 := p5 hr
    rw [show q + 1 = p by omega, he]
    exact line_between p3 p4 c1 c2 c3 c4
theorem samp_near {l l' : List Int} {a b : Int} {i q p : Nat} (h : SpeedOk a b) (hi' : (i : Int) < cntS l.length a b) (hq : (i : Int) * a / b = q) (hp : p = min (q + 1) (l.length - 1)) (h1 : l'[q]? = l[q]?) (h2 : l'[p]? = l[p]?) :
    sampS l' a b i = sampS l a b i := by
  obtain ⟨p1, p2, p3, p4, p5, _, _⟩ := place_in h (by omega) hi' (by omega)
  rw [hq] at p5
  unfold sampS
  rw [hq]
  refine readS_congr (by rw [Int.toNat_natCast]; exact h1) (fun hr => ?_)
  have h5 := p5 hr
  rw [Int.toNat_natCast, show q + 1 = p by omega]
  exact h2
/-- l, whose first k elements but q and p are those of o, where o has them. -/
def nearS (l o : List Int) (q p k : Nat) : List Int := l.mapIdx fun j x => if j < k ∧ j ≠ q ∧ j ≠ p then o[j]?.getD x else x
theorem nearS_len (l o : List Int) (q p k : Nat) : (nearS l o q p k).length = l.length := by simp [nearS]
theorem nearS_zero (l o : List Int) (q p : Nat) : nearS l o q p 0 = l := by
  unfold nearS
  apply List.ext_getElem
  · simp
  · intro i h1 h2; simp
theorem nearS_get {l o : List Int} {q p k j : Nat} (h : j = q ∨ j = p) : (nearS l o q p k)[j]? = l[j]? := by
  unfold nearS
  rw [List.getElem?_mapIdx]
  cases l[j]? with
  | none => rfl
  | some x => simp only [Option.map_some]; rw [if_neg (by omega)]
theorem nearS_keep {l o : List Int} {q p k : Nat} (h : k = q ∨ k = p ∨ o.length ≤ k) : nearS l o q p (k + 1) = nearS l o q p k := by
  unfold nearS
  apply List.ext_getElem
  · simp
  · intro i h1 h2
    simp only [List.getElem_mapIdx]
    by_cases hi : i = k
    · subst hi
      rcases h with h | h | h
      · rw [if_neg (by omega), if_neg (by omega)]
      · rw [if_neg (by omega), if_neg (by omega)]
      · rw [List.getElem?_eq_none h]; simp
    · by_cases h5 : i < k ∧ i ≠ q ∧ i ≠ p
      · rw [if_pos (by omega), if_pos h5]
      · rw [if_neg (by omega), if_neg h5]
theorem nearS_set {l o : List Int} {q p k : Nat} {x : Int} (h1 : k ≠ q) (h2 : k ≠ p) (hx : o[k]? = some x) : nearS l o q p (k + 1) = (nearS l o q p k).set k x := by
  unfold nearS
  apply List.ext_getElem
  · simp
  · intro i h3 h4
    rw [List.getElem_set]
    simp only [List.getElem_mapIdx]
    by_cases hi : k = i
    · subst hi
      rw [if_pos rfl, if_pos (by omega), hx]; rfl
    · rw [if_neg hi]
      by_cases h5 : i < k ∧ i ≠ q ∧ i ≠ p
      · rw [if_pos (by omega), if_pos h5]
      · rw [if_neg (by omega), if_neg h5]

def lineL (s r : Int) (m : Nat) : List Int := (List.range m).map fun (j : Nat) => s + j * r
theorem lineL_get {s r : Int} {m j : Nat} (h : j < m) : (lineL s r m)[j]? = some (s + j * r) := by unfold lineL; rw [List.getElem?_map, List.getElem?_range h]; rfl
theorem lineL_succ (s r : Int) (m : Nat) : lineL s r (m + 1) = lineL s r m ++ [s + m * r] := by unfold lineL; rw [List.range_succ, List.map_append]; rfl
theorem samp_line {s r a b : Int} {m i : Nat} (h : SpeedOk a b) (hi : (i : Int) < cntS m a b) (hin : ∀ j : Nat, j < m → -2147483648 ≤ s + j * r ∧ s + j * r ≤ 2147483647) :
    sampS (lineL s r m) a b i * b ≤ s * b + r * i * a ∧ s * b + r * i * a < (sampS (lineL s r m) a b i + 1) * b := by
  obtain ⟨p1, p2, p3, p4, p5, _, _⟩ := place_in h (by omega) hi (by omega)
  have hb : 1 ≤ b := h.2.2.1
  have e1 := Int.mul_ediv_add_emod ((i : Int) * a) b
  obtain ⟨q, hq⟩ : ∃ q : Nat, (i : Int) * a / b = q := ⟨((i : Int) * a / b).toNat, by omega⟩
  obtain ⟨t, ht⟩ : ∃ t, (i : Int) * a % b = t := ⟨_, rfl⟩
  have key : sampS (lineL s r m) a b i = (s * b + r * i * a) / b := by
    unfold sampS readS
    rw [hq] at p2 p5 e1 ⊢
    rw [ht] at p3 p4 p5 e1 ⊢
    rw [Int.toNat_natCast, lineL_get (by omega)]
    have c1 := hin q (by omega)
    have hm : r * i * a = r * (b * q) + r * t := by rw [Int.mul_assoc, ← e1, Int.mul_add]
    split
    · rename_i h0
      rw [Option.getD_some, clipS_id c1.1 c1.2, hm, h0, Int.mul_zero, Int.add_zero, show s * b + r * (b * q) = (s + q * r) * b by rw [Int.add_mul, Int.mul_comm (q : Int) r, Int.mul_assoc r, Int.mul_comm b]]
      rw [Int.mul_ediv_cancel _ (by omega)]
    · rename_i h0
      have h5 := p5 h0
      rw [lineL_get (show q + 1 < m by omega), Option.getD_some, Option.getD_some]
      have c2 := hin (q + 1) (by omega)
      unfold lineS
      rw [clipS_id c1.1 c1.2, clipS_id c2.1 c2.2, hm]
      congr 1
      rw [show ((q + 1 : Nat) : Int) = (q : Int) + 1 by omega]
      grind
  have f1 := Int.mul_ediv_add_emod (s * b + r * i * a) b
  have f2 := Int.emod_nonneg (s * b + r * i * a) (show b ≠ 0 by omega)
  have f3 := Int.emod_lt_of_pos (s * b + r * i * a) (show 0 < b by omega)
  rw [key, Int.add_mul, Int.mul_comm _ b]
  omega
end Go.Proofs.Yteljglhfimhmlaa
