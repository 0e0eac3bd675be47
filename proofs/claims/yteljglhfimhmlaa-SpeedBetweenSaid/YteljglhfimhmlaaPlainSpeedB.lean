/- Plain laws of layer 26: back at the reciprocal speed, each k-th sample, parts. -/
import Derived.Test.YteljglhfimhmlaaPlainSpeed
namespace Go.Proofs.Yteljglhfimhmlaa

theorem speed_one {m : Int} (h1 : 1 ≤ m) (h2 : m ≤ 64) : SpeedOk 1 m := ⟨by omega, by omega, h1, h2, Nat.gcd_one_left _⟩
theorem one_speed {m : Int} (h1 : 1 ≤ m) (h2 : m ≤ 64) : SpeedOk m 1 := ⟨h1, h2, by omega, by omega, Nat.gcd_one_right _⟩
theorem convS_get {l : List Int} {a b : Int} {i : Nat} (h : (i : Int) < cntS l.length a b) : (convS l a b)[i]? = some (sampS l a b i) := by
  unfold convS
  rw [List.getElem?_map, List.getElem?_range (by omega)]
  rfl
theorem cnt_up (n m : Nat) (hn : 1 ≤ n) : cntS n 1 m = 1 + ((n - 1) * m : Nat) := by
  unfold cntS; rw [if_neg (by omega), Int.ediv_one]
  congr 1
  rw [Int.natCast_mul]; congr 1; omega
theorem cnt_down (n k : Nat) (hn : 1 ≤ n) : cntS n k 1 = 1 + ((n - 1) / k : Nat) := by
  unfold cntS; rw [if_neg (by omega), Int.mul_one]
  congr 1
  rw [Int.natCast_ediv]; congr 1; omega
theorem samp_down (l : List Int) (k i : Nat) : sampS l k 1 i = clipS (l[i * k]?.getD 0) := by
  unfold sampS readS
  rw [Int.ediv_one, Int.emod_one, if_pos rfl, show ((i : Int) * (k : Int)).toNat = i * k by rw [← Int.natCast_mul, Int.toNat_natCast]]
theorem samp_up (l : List Int) (m i : Nat) (hm : 1 ≤ m) : sampS l 1 m ((i * m : Nat) : Int) = clipS (l[i]?.getD 0) := by
  unfold sampS readS
  rw [Int.mul_one, show (((i * m : Nat) : Int) / (m : Int)) = i by rw [← Int.natCast_ediv, Nat.mul_div_cancel _ hm], show (((i * m : Nat) : Int) % (m : Int)) = 0 by rw [← Int.natCast_emod, Nat.mul_mod_left]; rfl, if_pos rfl, Int.toNat_natCast]
theorem map_clip_range (l : List Int) : (List.range l.length).map (fun i => clipS (l[i]?.getD 0)) = l.map clipS := by
  apply List.ext_getElem
  · simp
  · intro i h1 h2
    simp at h1 h2 ⊢
    simp [h1]
theorem conv_back (l : List Int) (m : Nat) (hm : 1 ≤ m) : convS (convS l 1 m) m 1 = l.map clipS := by
  rcases Nat.eq_zero_or_pos l.length with h0 | h0
  · obtain rfl := List.eq_nil_of_length_eq_zero h0
    simp [convS, cntS]
  · have hn := cnt_up l.length m h0
    have hlen : (convS l 1 m).length = 1 + (l.length - 1) * m := by rw [convS_len, hn]; omega
    have hn2 : cntS (convS l 1 m).length m 1 = l.length := by
      rw [cnt_down _ m (by omega), hlen, show (1 + (l.length - 1) * m - 1) = (l.length - 1) * m by omega, Nat.mul_div_cancel _ hm]; omega
    rw [← map_clip_range]
    unfold convS at hn2 ⊢
    rw [hn2, Int.toNat_natCast]
    apply List.map_congr_left
    intro i hi
    have hil : i < l.length := by simpa using hi
    have hm2 : i * m ≤ (l.length - 1) * m := Nat.mul_le_mul_right _ (by omega)
    have hg := convS_get (l := l) (a := 1) (b := m) (i := i * m) (by rw [hn]; omega)
    have := samp_down (convS l 1 m) m i
    unfold convS at this hg
    rw [this, hg, Option.getD_some, samp_up l m i hm, clipS_clipS]
theorem conv_one (l : List Int) : convS l 1 1 = l.map clipS := by
  have h := map_clip_range l
  rw [← h]
  rcases Nat.eq_zero_or_pos l.length with h0 | h0
  · obtain rfl := List.eq_nil_of_length_eq_zero h0
    simp [convS, cntS]
  · unfold convS
    have := cnt_down l.length 1 h0
    rw [show ((1 : Nat) : Int) = 1 from rfl] at this
    rw [this, show (1 + ((l.length - 1) / 1 : Nat) : Int).toNat = l.length by rw [Nat.div_one]; omega]
    apply List.map_congr_left
    intro i _
    have := samp_down l 1 i
    rw [show ((1 : Nat) : Int) = 1 from rfl] at this
    rw [this, Nat.mul_one]
/-- Each k-th sample. -/
def eachS (l : List Int) (k j : Nat) : List Int := (List.range j).map fun i => clipS (l[i * k]?.getD 0)
theorem conv_each (l : List Int) (k : Nat) (hk : 1 ≤ k) : ∃ j, convS l k 1 = eachS l k j ∧ l.length ≤ j * k ∧ ∀ i, i < j → i * k < l.length := by
  refine ⟨(cntS l.length k 1).toNat, ?_, ?_, ?_⟩
  · unfold convS eachS
    apply List.map_congr_left
    intro i _
    exact samp_down l k i
  · rcases Nat.eq_zero_or_pos l.length with h0 | h0
    · omega
    · rw [cnt_down _ k h0, show (1 + ((l.length - 1) / k : Nat) : Int).toNat = 1 + (l.length - 1) / k by generalize (l.length - 1) / k = d; omega, Nat.add_mul, Nat.one_mul]
      have := Nat.div_add_mod (l.length - 1) k
      have h3 := Nat.mod_lt (l.length - 1) hk
      rw [Nat.mul_comm] at this
      omega
  · intro i hi
    rcases Nat.eq_zero_or_pos l.length with h0 | h0
    · rw [h0] at hi; simp [cntS] at hi
    · rw [cnt_down _ k h0, show (1 + ((l.length - 1) / k : Nat) : Int).toNat = 1 + (l.length - 1) / k by generalize (l.length - 1) / k = d; omega] at hi
      have h4 : i * k ≤ (l.length - 1) / k * k := Nat.mul_le_mul_right _ (by omega)
      have := Nat.div_mul_le_self (l.length - 1) k
      omega
theorem eachS_succ (l : List Int) (k j : Nat) : eachS l k (j + 1) = eachS l k j ++ [clipS (l[j * k]?.getD 0)] := by unfold eachS; rw [List.range_succ, List.map_append]; rfl

theorem readS_congr {l l' : List Int} {q r b : Int} (h0 : l[q.toNat]? = l'[q.toNat]?) (h1 : r ≠ 0 → l[q.toNat + 1]? = l'[q.toNat + 1]?) : readS l q r b = readS l' q r b := by
  unfold readS
  split
  · rw [h0]
  · rename_i h; rw [h0, h1 h]
theorem samp_more {l m : List Int} {a b : Int} {i : Nat} (h : SpeedOk a b) (hi : (i : Int) < cntS l.length a b) : sampS (l ++ m) a b i = sampS l a b i := by
  obtain ⟨p1, p2, p3, p4, p5, _, _⟩ := place_in h (by omega) hi (by omega)
  refine readS_congr (List.getElem?_append_left (by omega)) (fun hr => List.getElem?_append_left ?_)
  have := p5 hr
  omega
theorem conv_parts {l m : List Int} {a b : Int} (h : SpeedOk a b) : (convS (l ++ m) a b).take (convS l a b).length = convS l a b ∧ (convS l a b).length ≤ (convS (l ++ m) a b).length := by
  have hm := cntS_mono (n := l.length) (m := (l ++ m).length) (by omega) (by simp; omega) h
  rw [convS_len, convS_len]
  refine ⟨?_, by omega⟩
  unfold convS
  rw [← List.map_take, List.take_range, Nat.min_eq_left (by omega)]
  apply List.map_congr_left
  intro i hi
  have : i < (cntS l.length a b).toNat := by simpa using hi
  exact samp_more h (by omega)
end Go.Proofs.Yteljglhfimhmlaa
