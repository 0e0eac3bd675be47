/- Layer 27's reference, third part: Cross. -/
import Derived.Test.YteljglhfimhmlaaFadesI
namespace Go.Proofs.Yteljglhfimhmlaa
open Go.RowKit

/-- What a crossfade holds from where b begins. -/
def crossT (a b : List Int) (m : Nat) : List Int := upd (fun j x => addS ((fadeOutS a m)[a.length - m + j]?.getD 0) x) m (fadeInS b m)
theorem crossT_len (a b : List Int) (m : Nat) : (crossT a b m).length = b.length := by simp [crossT, upd_len, fadeInS]
theorem crossT_get {a b : List Int} {m k : Nat} (hk : k < m) (ha : m ≤ a.length) (hb : m ≤ b.length) {p : Nat} (hp : a.length - m + k = p) {x y : Int} (hx : a[p]? = some x) (hy : b[k]? = some y) :
    (crossT a b m)[k]? = some (addS (mulS x (gainS ((m : Int) - 1 - k) m)) (mulS y (gainS k m))) := by
  have h1 : p < a.length := by omega
  have h2 : k < b.length := by omega
  have e1 : a[p] = x := by rw [List.getElem?_eq_getElem h1] at hx; exact Option.some.inj hx
  have e2 : b[k] = y := by rw [List.getElem?_eq_getElem h2] at hy; exact Option.some.inj hy
  have h3 : k < (fadeInS b m).length := by rw [fadeInS, upd_len]; exact h2
  have h4 : k < (crossT a b m).length := by rw [crossT_len]; exact h2
  have h5 := upd_get (fun j x => addS ((fadeOutS a m)[a.length - m + j]?.getD 0) x) (k := m) h3
  rw [if_pos hk] at h5
  have h6 := upd_get (fun j x => mulS x (gainS j m)) (k := m) h2
  rw [if_pos hk, e2] at h6
  have h7 := updR_get (fun j x => mulS x (gainS (a.length - 1 - j : Nat) m)) (k := m) h1
  rw [if_pos (by omega), e1] at h7
  have h8 : (fadeInS b m)[k] = mulS y (gainS k m) := by
    have h11 : (fadeInS b m)[k]?.getD 0 = (fadeInS b m)[k] := by rw [List.getElem?_eq_getElem h3]; rfl
    rw [← h11, ← h6]; rfl
  have h9 : (fadeOutS a m)[p]?.getD 0 = mulS x (gainS ((m : Int) - 1 - k) m) := by
    unfold fadeOutS
    rw [h7, show ((a.length - 1 - p : Nat) : Int) = (m : Int) - 1 - k by omega]
  rw [List.getElem?_eq_getElem h4]
  have h10 : (crossT a b m)[k]?.getD 0 = (crossT a b m)[k] := by rw [List.getElem?_eq_getElem h4]; rfl
  rw [← h10]
  unfold crossT
  rw [h5, h8, hp, h9]
theorem crossT_drop (a b : List Int) (m : Nat) : (crossT a b m).drop m = b.drop m := by
  apply List.ext_getElem
  · simp [crossT_len]
  · intro i h1 h2
    simp only [List.getElem_drop, crossT, fadeInS, upd, List.getElem_mapIdx]
    rw [if_neg (by omega), if_neg (by omega)]

set_option maxHeartbeats 2000000 in
theorem rcross_any (A B : Option Addr) (na ca nb cb : Nat) (a b : List Int) (m : Int) (w : World) (ha : SL w A na ca a) (hb : SL w B nb cb b) (hna : na ≤ 1000000) (hnb : nb ≤ 1000000) :
    Calls Try.prog 46 #[.slice A na ca, .slice B nb cb, .int .i64 m] w (RetSl w (crossR a b m)) := by
  have HLA := Lib.hid ha.n_eq
  have HLB := Lib.hid hb.n_eq
  have CA := long_any A na ca a m w ha
  have CB := long_any B nb cb b m w hb
  unfold crossR
  rw [HLA.out, HLB.out]
  cases hra : rightB na m with
  | false =>
    rw [hra] at CA
    have HCA := Lib.hid CA
    clear CA CB
    go_enter Try.func46, Try.ntmps46
    go_wp2_with (go_at_call 67; (with_reducible refine HCA.out.mono ?_); rintro e w' ⟨rfl, rfl⟩)
    go_ret2
    exact ⟨none, 0, 0, rfl, SL.nil, Below.refl _ _⟩
  | true =>
    rw [hra] at CA
    cases hrb : rightB nb m with
    | false =>
      rw [hrb] at CB
      have HCA := Lib.hid CA
      have HCB := Lib.hid CB
      clear CA CB
      go_enter Try.func46, Try.ntmps46
      go_wp2_with (first
        | (go_at_call 67; (with_reducible refine HCA.out.mono ?_); rintro e w' ⟨rfl, rfl⟩)
        | (go_at_call 67; (with_reducible refine HCB.out.mono ?_); rintro e w' ⟨rfl, rfl⟩))
      go_ret2
      exact ⟨none, 0, 0, rfl, SL.nil, Below.refl _ _⟩
    | true =>
      rw [hrb] at CB
      have HCA := Lib.hid CA
      have HCB := Lib.hid CB
      clear CA CB
      obtain ⟨h1, h2, h3, h4⟩ := rightB_spec hra
      have h5 := (rightB_spec hrb).2.2.1
      obtain ⟨q, hq⟩ : ∃ q, m.toNat = q := ⟨_, rfl⟩
      rw [hq] at h3 h4 h5
      subst h4
      rw [if_pos (show (true && true) = true from rfl), hq]
      clear hq hra hrb
      obtain ⟨K, hK⟩ : ∃ K, na - q = K := ⟨_, rfl⟩
      have gK : (na : Int) - (q : Int) = (K : Int) := by omega
      have hX : crossS a b q = a.take K ++ crossT a b q := by rw [← hK, ← HLA.out]; rfl
      have HX := Lib.hid hX
      have HK := Lib.hid hK
      obtain ⟨T, hT⟩ : ∃ T, crossT a b q = T := ⟨_, rfl⟩
      have HT := Lib.hid hT
      have hB0 : Below w.heap.size w (w.alloc (.cells #[] 3)) := (Below.refl _ w).alloc (Nat.le_refl _) _
      obtain ⟨A1, c1, eT, sT⟩ := (ha.below hB0).cutTo (j := (K : Int)) (hi := K) rfl (by omega)
      obtain ⟨A', c', w1, eA, hO, hB1, _⟩ := (OL.lit w (Nat.le_refl w.heap.size)).app sT (by simp) (by omega)
      rw [Nat.zero_add] at eA hO
      rw [List.nil_append] at hO
      have hB2 := hB0.trans hB1
      clear hX hK hT hB0 hB1 sT
      go_enter Try.func46, Try.ntmps46
      go_wp2_with (first
        | (go_at_call 67; (with_reducible refine HCA.out.mono ?_); rintro e w' ⟨rfl, rfl⟩)
        | (go_at_call 67; (with_reducible refine HCB.out.mono ?_); rintro e w' ⟨rfl, rfl⟩)
        | (at_builtin; refine wpList_append_eq rfl _ _ _ rfl rfl rfl eA ?_; clear eA))
      clear eT
      go_loopw [9, 10, 11, 12] (fun o i _ _ wr => ∃ k A' c', k ≤ q ∧ i = .int .i64 (k : Nat) ∧ o = .slice A' (K + k) c' ∧ OL wr w.heap.size A' (K + k) c' (a.take K ++ T.take k) ∧ Below w.heap.size w wr) (fun _ i _ _ _ => q - (intOf i).toNat)
      case atStart => exact ⟨0, A', c', Nat.zero_le _, rfl, rfl, by simpa using hO, hB2⟩
      case round =>
        obtain ⟨k, A', c', hk, rfl, rfl, hOw, hbel⟩ := hrel
        clear hO hB2
        by_cases hlt : k < q
        · obtain ⟨p, hp⟩ : ∃ p : Nat, K + k = p := ⟨_, rfl⟩
          have g4 : IntKind.i64.wrap ((K : Int) + (k : Int)) = (p : Int) := by rw [IntWalk.i64_in _ (by have := HK.out; omega)]; omega
          have g8 : IntKind.i64.wrap ((q : Int) - 1) = (q : Int) - 1 := IntWalk.i64_in _ (by omega)
          have g9 : IntKind.i64.wrap ((q : Int) - 1 - (k : Int)) = (q : Int) - 1 - (k : Int) := IntWalk.i64_in _ (by omega)
          have g6 : (p : Int) < (na : Int) := by have := HK.out; omega
          have g7 : (k : Int) < (nb : Int) := by omega
          have hpl : p < a.length := by rw [HLA.out]; omega
          have hkl : k < b.length := by rw [HLB.out]; omega
          obtain ⟨ba, oa, rfl, hba, cA⟩ := (ha.below hbel).at_ hpl
          obtain ⟨bb, ob, rfl, hbb, cB⟩ := (hb.below hbel).at_ hkl
          obtain ⟨x, hx⟩ : ∃ x, a[p] = x := ⟨_, rfl⟩
          obtain ⟨y, hy⟩ : ∃ y, b[k] = y := ⟨_, rfl⟩
          rw [hx] at cA
          rw [hy] at cB
          have hG := crossT_get (a := a) (b := b) (m := q) hlt (by rw [HLA.out]; omega) (by rw [HLB.out]; omega) (p := p) (by rw [HLA.out, HK.out]; exact hp) (x := x) (y := y) (by rw [List.getElem?_eq_getElem hpl, hx]) (by rw [List.getElem?_eq_getElem hkl, hy])
          rw [HT.out] at hG
          obtain ⟨s, hs⟩ : ∃ s, addS (mulS x (gainS ((q : Int) - 1 - k) q)) (mulS y (gainS k q)) = s := ⟨_, rfl⟩
          rw [hs] at hG
          have hTk : T.take (k + 1) = T.take k ++ [s] := by rw [List.take_add_one, hG]; rfl
          have hs64 : I64 s := by rw [← hs]; exact I64_clipS _
          have HOw := Lib.hid hOw
          have HP := Lib.hid hp
          have HTk := Lib.hid hTk
          have HS := Lib.hid hs
          clear hOw hp hx hy hTk hG hs hpl hkl
          go_wp2
          go_big_quiet (first | exact quiet_left (rgain_any _ q _ (by omega) (by omega) (by omega) (by omega)) | exact quiet_left (rmul_any _ _ _) | exact quiet_add_left (rgain_any _ q _ (by omega) (by omega) (by omega) (by omega)) | exact quiet_add_left (rmul_any _ _ _))
          rename Nat => n1
          go_wp2
          go_big_quiet (first | exact quiet_left (rgain_any _ q _ (by omega) (by omega) (by omega) (by omega)) | exact quiet_left (rmul_any _ _ _) | exact quiet_add_left (rgain_any _ q _ (by omega) (by omega) (by omega) (by omega)) | exact quiet_add_left (rmul_any _ _ _))
          have hOd : OL ((wr.drewN n1).drewN nq) w.heap.size A' (K + k) c' (a.take K ++ T.take k) := ⟨HOw.out.own, HOw.out.i64⟩
          have hbd : Below w.heap.size w ((wr.drewN n1).drewN nq) := below_drewN (below_drewN hbel n1) nq
          obtain ⟨W, hW⟩ : ∃ W, (wr.drewN n1).drewN nq = W := ⟨_, rfl⟩
          rw [hW] at hOd hbd ⊢
          obtain ⟨A2, c2, w2, eA, hO2, hB2, _⟩ := (hOd.alloc (.cells #[vint s] 3)).app (SL.lit W 3 [s] _ rfl (by simp [maxLen]) (by simpa using hs64)) (by have := hbd.size; simp; omega) (by simp; omega)
          rw [List.append_assoc, ← HTk.out] at hO2
          rw [← HS.out] at eA
          have hbel2 := (hbd.alloc (hbd.size) (.cells #[vint s] 3)).trans hB2
          go_wp2_with (first
            | (go_at_call 27; refine (radd_any _ _ _ (I64_clipS _) (I64_clipS _)).mono ?_; rintro e w4 ⟨rfl, rfl⟩)
            | (at_builtin; refine wpList_append_eq rfl _ _ _ rfl rfl rfl eA ?_; clear eA))
          refine ⟨⟨k + 1, A2, c2, by omega, by simp, rfl, by simpa [Nat.add_assoc] using hO2, hbel2⟩, by simp only [intOf]; omega⟩
        · obtain rfl : k = q := by omega
          obtain ⟨B1, d1, eT, sT⟩ := (hb.below hbel).cutFrom (i := (k : Int)) (lo := k) rfl h5 rfl
          obtain ⟨A2, c2, w2, eA, hO2, hB2, _⟩ := hOw.app sT hbel.size (by omega)
          have hres : a.take K ++ T.take k ++ b.drop k = crossS a b k := by
            rw [HX.out, List.append_assoc, ← crossT_drop a b k, HT.out, List.take_append_drop]
          rw [hres] at hO2
          go_wp2_with (at_builtin; refine wpList_append_eq rfl _ _ _ rfl rfl rfl eA ?_; clear eA)
          go_ret2
          exact ⟨_, _, _, rfl, hO2.sl, hbel.trans hB2⟩
end Go.Proofs.Yteljglhfimhmlaa
