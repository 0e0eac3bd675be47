/- Plain integers and lists: what package fades computes. -/
import Derived.Test.YteljglhfimhmlaaPlainFixed
namespace Go.Proofs.Yteljglhfimhmlaa

def gainS (i n : Int) : Int := (i + 1) * 65536 / (n + 1)
def GainOk (i n : Int) : Prop := 0 ≤ i ∧ i < n ∧ n ≤ 16777216
instance (i n : Int) : Decidable (GainOk i n) := by unfold GainOk; infer_instance
def gainR (i n : Int) : Int × Int := if GainOk i n then (gainS i n, 0) else (0, 1)
theorem gainS_bd {i n : Int} (h : GainOk i n) : 0 ≤ gainS i n ∧ gainS i n ≤ 65535 := by
  obtain ⟨h1, h2, h3⟩ := h
  unfold gainS
  refine ⟨Int.ediv_nonneg (by omega) (by omega), ?_⟩
  have : (i + 1) * 65536 / (n + 1) < 65536 := by
    rw [Int.ediv_lt_iff_lt_mul (by omega)]; omega
  omega

/-- The first k elements turned by F. -/
def upd (F : Nat → Int → Int) (k : Nat) (l : List Int) : List Int := l.mapIdx fun j x => if j < k then F j x else x
/-- The last k elements turned by F. -/
def updR (F : Nat → Int → Int) (k : Nat) (l : List Int) : List Int := l.mapIdx fun j x => if l.length - 1 - j < k then F j x else x
theorem upd_len (F : Nat → Int → Int) (k : Nat) (l : List Int) : (upd F k l).length = l.length := by simp [upd]
theorem updR_len (F : Nat → Int → Int) (k : Nat) (l : List Int) : (updR F k l).length = l.length := by simp [updR]
theorem upd_zero (F : Nat → Int → Int) (l : List Int) : upd F 0 l = l := by
  apply List.ext_getElem <;> simp [upd]
theorem updR_zero (F : Nat → Int → Int) (l : List Int) : updR F 0 l = l := by
  apply List.ext_getElem <;> simp [updR]
theorem upd_get (F : Nat → Int → Int) {k : Nat} {l : List Int} {j : Nat} (h : j < l.length) : (upd F k l)[j]?.getD 0 = if j < k then F j l[j] else l[j] := by
  simp [upd, h]
theorem updR_get (F : Nat → Int → Int) {k : Nat} {l : List Int} {j : Nat} (h : j < l.length) : (updR F k l)[j]?.getD 0 = if l.length - 1 - j < k then F j l[j] else l[j] := by
  simp [updR, h]
theorem upd_succ (F : Nat → Int → Int) {k : Nat} {l : List Int} (h : k < l.length) : (upd F k l).set k (F k ((upd F k l)[k]?.getD 0)) = upd F (k + 1) l := by
  rw [upd_get F h, if_neg (by omega)]
  apply List.ext_getElem
  · simp [upd]
  · intro i h1 h2
    simp only [List.length_set, upd, List.length_mapIdx] at h1
    simp only [List.getElem_set, upd, List.getElem_mapIdx]
    by_cases e : k = i
    · subst e; simp
    · rw [if_neg e]
      by_cases hk : i < k
      · rw [if_pos hk, if_pos (by omega)]
      · rw [if_neg hk, if_neg (by omega)]
theorem updR_succ (F : Nat → Int → Int) {k : Nat} {l : List Int} (h : k < l.length) : (updR F k l).set (l.length - 1 - k) (F (l.length - 1 - k) ((updR F k l)[l.length - 1 - k]?.getD 0)) = updR F (k + 1) l := by
  rw [updR_get F (by omega), if_neg (by omega)]
  apply List.ext_getElem
  · simp [updR]
  · intro i h1 h2
    simp only [List.length_set, updR, List.length_mapIdx] at h1
    simp only [List.getElem_set, updR, List.getElem_mapIdx]
    by_cases e : l.length - 1 - k = i
    · subst e; rw [if_pos rfl, if_pos (by omega)]
    · rw [if_neg e]
      by_cases hk : l.length - 1 - i < k
      · rw [if_pos hk, if_pos (by omega)]
      · rw [if_neg hk, if_neg (by omega)]
def fadeInS (l : List Int) (m : Nat) : List Int := upd (fun j x => mulS x (gainS j m)) m l
def fadeOutS (l : List Int) (m : Nat) : List Int := updR (fun j x => mulS x (gainS (l.length - 1 - j : Nat) m)) m l
def crossS (a b : List Int) (m : Nat) : List Int :=
  a.take (a.length - m) ++ upd (fun j x => addS ((fadeOutS a m)[a.length - m + j]?.getD 0) x) m (fadeInS b m)
theorem mulS_bd (a g : Int) : -2147483648 ≤ mulS a g ∧ mulS a g ≤ 2147483647 := clipS_bd _
end Go.Proofs.Yteljglhfimhmlaa
