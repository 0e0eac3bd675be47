/- Plain laws of fades (layer 27): element by element; backwards. -/
import Derived.Test.YteljglhfimhmlaaFadesJ
namespace Go.Proofs.Yteljglhfimhmlaa
open Go.RowKit

theorem crossS_eq (a b : List Int) (m : Nat) : crossS a b m = a.take (a.length - m) ++ crossT a b m := rfl
theorem fadeOut_get {l : List Int} {m i : Nat} {x : Int} (h : l[i]? = some x) : (fadeOutS l m)[i]? = some (if l.length - 1 - i < m then mulS x (gainS (l.length - 1 - i : Nat) m) else x) := by
  obtain ⟨hi, he⟩ := List.getElem?_eq_some_iff.1 h
  simp only [fadeOutS, updR, List.getElem?_mapIdx, h, Option.map_some]
theorem fadeIn_get {l : List Int} {m i : Nat} {x : Int} (h : l[i]? = some x) : (fadeInS l m)[i]? = some (if i < m then mulS x (gainS i m) else x) := by
  obtain ⟨hi, he⟩ := List.getElem?_eq_some_iff.1 h
  simp only [fadeInS, upd, List.getElem?_mapIdx, h, Option.map_some]
theorem cross_lo {a b : List Int} {m i : Nat} (h : i < a.length - m) : (crossS a b m)[i]? = a[i]? := by
  rw [crossS_eq, List.getElem?_append_left (by simp; omega), List.getElem?_take, if_pos h]
theorem cross_mid {a b : List Int} {m i k : Nat} {x y : Int} (ha : m ≤ a.length) (hb : m ≤ b.length) (hk : a.length - m + k = i) (h2 : k < m) (hx : a[i]? = some x) (hy : b[k]? = some y) :
    (crossS a b m)[i]? = some (addS (mulS x (gainS ((m : Int) - 1 - k) m)) (mulS y (gainS k m))) := by
  rw [crossS_eq, List.getElem?_append_right (by simp; omega), show i - (List.take (a.length - m) a).length = k by simp; omega]
  exact crossT_get h2 ha hb hk hx hy
theorem cross_hi {a b : List Int} {m i k : Nat} (ha : m ≤ a.length) (hk : a.length - m + k = i) (h2 : m ≤ k) : (crossS a b m)[i]? = b[k]? := by
  rw [crossS_eq, List.getElem?_append_right (by simp; omega), show i - (List.take (a.length - m) a).length = k by simp; omega]
  have := congrArg (fun l => l[k - m]?) (crossT_drop a b m)
  simpa [List.getElem?_drop, show m + (k - m) = k by omega] using this
theorem addS_comm (x y : Int) : addS x y = addS y x := by unfold addS; rw [Int.add_comm]

theorem rev_get {l : List Int} {i : Nat} (h : i < l.length) : l.reverse[i]? = l[l.length - 1 - i]? := List.getElem?_reverse h
theorem fadeOut_back (l : List Int) (m : Nat) : fadeOutS l m = (fadeInS l.reverse m).reverse := by
  apply List.ext_getElem?
  intro i
  by_cases hi : i < l.length
  · have h1 : l[i]? = some l[i] := List.getElem?_eq_getElem hi
    rw [fadeOut_get h1, rev_get (by simp [fadeInS, upd_len]; exact hi)]
    have h2 : (fadeInS l.reverse m).length = l.length := by simp [fadeInS, upd_len]
    rw [h2]
    have h3 : l.reverse[l.length - 1 - i]? = some l[i] := by
      rw [rev_get (by omega), show l.length - 1 - (l.length - 1 - i) = i by omega, h1]
    rw [fadeIn_get h3]
  · rw [List.getElem?_eq_none (by simp [fadeOutS, updR_len]; omega), List.getElem?_eq_none (by simp [fadeInS, upd_len]; omega)]
theorem cross_back {a b : List Int} {m : Nat} (ha : m ≤ a.length) (hb : m ≤ b.length) : crossS a b m = (crossS b.reverse a.reverse m).reverse := by
  have hl : (crossS b.reverse a.reverse m).length = a.length - m + b.length := by rw [crossS_len (by simpa using hb)]; simp; omega
  apply List.ext_getElem?
  intro i
  by_cases hi : i < a.length - m + b.length
  · rw [rev_get (by rw [hl]; exact hi), hl]
    by_cases h1 : i < a.length - m
    · rw [cross_lo h1, cross_hi (k := a.length - 1 - i) (by simpa using hb) (by simp; omega) (by omega), rev_get (by omega), show a.length - 1 - (a.length - 1 - i) = i by omega]
    · by_cases h2 : i < a.length
      · have hx : a[i]? = some a[i] := List.getElem?_eq_getElem h2
        have hk : i - (a.length - m) < b.length := by omega
        have hy : b[i - (a.length - m)]? = some b[i - (a.length - m)] := List.getElem?_eq_getElem hk
        have hx' : a.reverse[a.length - 1 - i]? = some a[i] := by rw [rev_get (by omega), show a.length - 1 - (a.length - 1 - i) = i by omega, hx]
        have hy' : b.reverse[a.length - m + b.length - 1 - i]? = some b[i - (a.length - m)] := by
          rw [rev_get (by omega), show b.length - 1 - (a.length - m + b.length - 1 - i) = i - (a.length - m) by omega, hy]
        rw [cross_mid ha hb (k := i - (a.length - m)) (by omega) (by omega) hx hy, cross_mid (a := b.reverse) (b := a.reverse) (k := a.length - 1 - i) (by simpa using hb) (by simpa using ha) (by simp; omega) (by omega) hy' hx', addS_comm]
        rw [show ((a.length - 1 - i : Nat) : Int) = (m : Int) - 1 - ((i - (a.length - m) : Nat) : Int) by omega, show (m : Int) - 1 - ((m : Int) - 1 - ((i - (a.length - m) : Nat) : Int)) = ((i - (a.length - m) : Nat) : Int) by omega]
      · rw [cross_hi (k := i - (a.length - m)) ha (by omega) (by omega), cross_lo (by simp; omega), rev_get (by omega), show b.length - 1 - (a.length - m + b.length - 1 - i) = i - (a.length - m) by omega]
  · rw [List.getElem?_eq_none (by rw [crossS_len ha]; omega), List.getElem?_eq_none (by simp only [List.length_reverse]; rw [hl]; omega)]

theorem outR_back (l : List Int) (m : Int) : (outR l m).1 = (inR l.reverse m).1.reverse ∧ (outR l m).2 = (inR l.reverse m).2 := by
  unfold outR inR
  rw [List.length_reverse]
  cases rightB l.length m
  · simp
  · simp [fadeOut_back]
theorem crossR_back (a b : List Int) (m : Int) : (crossR a b m).1 = (crossR b.reverse a.reverse m).1.reverse ∧ (crossR a b m).2 = (crossR b.reverse a.reverse m).2 := by
  unfold crossR
  rw [List.length_reverse, List.length_reverse]
  cases h1 : rightB a.length m <;> cases h2 : rightB b.length m
  · simp
  · simp
  · simp
  · have k1 := (rightB_spec h1).2.2.1
    have k2 := (rightB_spec h2).2.2.1
    simp [← cross_back k1 k2]
end Go.Proofs.Yteljglhfimhmlaa
