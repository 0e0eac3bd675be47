/- The walk of FadesOverlap (layer 27). -/
import Derived.Test.YteljglhfimhmlaaW27b
namespace Go.Proofs.Yteljglhfimhmlaa
open Go.RowKit

theorem over_lo {a b : List Int} {m i : Nat} (h : i < a.length - m) : (crossS a b m)[i]? = (fadeOutS a m)[i]? := by
  have h1 : a[i]? = some a[i] := List.getElem?_eq_getElem (by omega)
  rw [cross_lo h, fadeOut_get h1, if_neg (by omega), h1]
theorem over_hi {a b : List Int} {m i k : Nat} (ha : m ≤ a.length) (hk : a.length - m + k = i) (h2 : a.length ≤ i) (hb : k < b.length) : (crossS a b m)[i]? = (fadeInS b m)[k]? := by
  have h1 : b[k]? = some b[k] := List.getElem?_eq_getElem hb
  rw [cross_hi ha hk (by omega), fadeIn_get h1, if_neg (by omega), h1]
theorem over_mid {a b : List Int} {m i k : Nat} {x y : Int} (ha : m ≤ a.length) (hb : m ≤ b.length) (hk : a.length - m + k = i) (h2 : i < a.length) (hx : (fadeOutS a m)[i]? = some x) (hy : (fadeInS b m)[k]? = some y) :
    (crossS a b m)[i]? = some (addS x y) := by
  have h1 : a[i]? = some a[i] := List.getElem?_eq_getElem h2
  have h3 : b[k]? = some b[k] := List.getElem?_eq_getElem (by omega)
  rw [cross_mid ha hb hk (by omega) h1 h3]
  rw [fadeOut_get h1, if_pos (by omega)] at hx
  rw [fadeIn_get h3, if_pos (by omega)] at hy
  injection hx with hx
  injection hy with hy
  rw [← hx, ← hy, show ((a.length - 1 - i : Nat) : Int) = (m : Int) - 1 - k by omega]

set_option maxHeartbeats 2000000 in
set_option maxRecDepth 100000 in
theorem walkFadesOverlap (A : Option Addr) (na ca : Nat) (a : List Int) (B : Option Addr) (nb cb : Nat) (b : List Int) (m : Int) (w : World) (ha : SL w A na ca a) (hb : SL w B nb cb b) (hm : I64 m) :
    Calls Try.prog 15 #[.slice A na ca, .slice B nb cb, .int .i64 m] w fun e w' => e = .returned (.bool true) ∧ Below w.heap.size w w' := by
  have HA := Lib.hid (fun w => few_any A na ca w ha.len)
  have HB := Lib.hid (fun w => few_any B nb cb w hb.len)
  have hB := Below.refl w.heap.size w
  by_cases hn : na ≤ 1000
  · rw [show decide (na ≤ 1000) = true by simpa using hn] at HA
    by_cases hn2 : nb ≤ 1000
    · rw [show decide (nb ≤ 1000) = true by simpa using hn2] at HB
      have LA := Lib.hid ha.n_eq
      have LB := Lib.hid hb.n_eq
      cases hra : rightB na m with
      | false =>
        obtain ⟨ys, k, hI⟩ : ∃ ys k, inR b m = (ys, k) := ⟨_, _, rfl⟩
        have hO : outR a m = ([], 1) := by unfold outR; rw [LA.out, hra]; rfl
        have hC : crossR a b m = ([], 1) := by unfold crossR; rw [LA.out, hra]; rfl
        go_enter Try.func15, Try.ntmps15
        go_wp2_with (first
          | (go_at_call 36; refine (sane27_any _).mono ?_; rintro e w1 ⟨rfl, hh⟩; ((try first | replace ha := SL.below ha hh | replace ha := SL.on1 ha hh | replace ha := SL.on2 ha hh); (try first | replace hb := SL.below hb hh | replace hb := SL.on1 hb hh | replace hb := SL.on2 hb hh); (try first | replace hs1 := SL.below hs1 hh | replace hs1 := SL.on1 hs1 hh | replace hs1 := SL.on2 hs1 hh); (try first | replace hs2 := SL.below hs2 hh | replace hs2 := SL.on1 hs2 hh | replace hs2 := SL.on2 hs2 hh); (try first | replace hs3 := SL.below hs3 hh | replace hs3 := SL.on1 hs3 hh | replace hs3 := SL.on2 hs3 hh); (try first | replace hB := Bel.on0 hB hh | replace hB := Bel.on1 hB hh | replace hB := Bel.on2 hB hh); clear hh))
          | (go_at_call 39; (with_reducible refine (HA.out _).mono ?_); rintro e w1 ⟨rfl, rfl⟩)
          | (go_at_call 39; (with_reducible refine (HB.out _).mono ?_); rintro e w1 ⟨rfl, rfl⟩)
          | (go_at_call 45; refine (cross_eq hC ha hb).mono ?_; rintro e w1 ⟨A1, n1, c1, rfl, hs1, hh⟩; ((try first | replace ha := SL.below ha hh | replace ha := SL.on1 ha hh | replace ha := SL.on2 ha hh); (try first | replace hb := SL.below hb hh | replace hb := SL.on1 hb hh | replace hb := SL.on2 hb hh); (try first | replace hs1 := SL.below hs1 hh | replace hs1 := SL.on1 hs1 hh | replace hs1 := SL.on2 hs1 hh); (try first | replace hs2 := SL.below hs2 hh | replace hs2 := SL.on1 hs2 hh | replace hs2 := SL.on2 hs2 hh); (try first | replace hs3 := SL.below hs3 hh | replace hs3 := SL.on1 hs3 hh | replace hs3 := SL.on2 hs3 hh); (try first | replace hB := Bel.on0 hB hh | replace hB := Bel.on1 hB hh | replace hB := Bel.on2 hB hh); clear hh); obtain rfl : n1 = 0 := by simpa using hs1.n_eq.symm)
          | (go_at_call 42; refine (out_eq hO ha).mono ?_; rintro e w1 ⟨A2, n2, c2, rfl, hs2, hh⟩; ((try first | replace ha := SL.below ha hh | replace ha := SL.on1 ha hh | replace ha := SL.on2 ha hh); (try first | replace hb := SL.below hb hh | replace hb := SL.on1 hb hh | replace hb := SL.on2 hb hh); (try first | replace hs1 := SL.below hs1 hh | replace hs1 := SL.on1 hs1 hh | replace hs1 := SL.on2 hs1 hh); (try first | replace hs2 := SL.below hs2 hh | replace hs2 := SL.on1 hs2 hh | replace hs2 := SL.on2 hs2 hh); (try first | replace hs3 := SL.below hs3 hh | replace hs3 := SL.on1 hs3 hh | replace hs3 := SL.on2 hs3 hh); (try first | replace hB := Bel.on0 hB hh | replace hB := Bel.on1 hB hh | replace hB := Bel.on2 hB hh); clear hh))
          | (go_at_call 40; refine (in_eq hI hb).mono ?_; rintro e w1 ⟨A3, n3, c3, rfl, hs3, hh⟩; ((try first | replace ha := SL.below ha hh | replace ha := SL.on1 ha hh | replace ha := SL.on2 ha hh); (try first | replace hb := SL.below hb hh | replace hb := SL.on1 hb hh | replace hb := SL.on2 hb hh); (try first | replace hs1 := SL.below hs1 hh | replace hs1 := SL.on1 hs1 hh | replace hs1 := SL.on2 hs1 hh); (try first | replace hs2 := SL.below hs2 hh | replace hs2 := SL.on1 hs2 hh | replace hs2 := SL.on2 hs2 hh); (try first | replace hs3 := SL.below hs3 hh | replace hs3 := SL.on1 hs3 hh | replace hs3 := SL.on2 hs3 hh); (try first | replace hB := Bel.on0 hB hh | replace hB := Bel.on1 hB hh | replace hB := Bel.on2 hB hh); clear hh)))
        go_ret
        exact ⟨rfl, hB⟩
      | true =>
        cases hrb : rightB nb m with
        | false =>
          obtain ⟨ys, k, hO⟩ : ∃ ys k, outR a m = (ys, k) := ⟨_, _, rfl⟩
          have hk : k = 0 := by unfold outR at hO; rw [LA.out, hra] at hO; simp at hO; exact hO.2.symm
          subst hk
          have hI : inR b m = ([], 1) := by unfold inR; rw [LB.out, hrb]; rfl
          have hC : crossR a b m = ([], 1) := by unfold crossR; rw [LA.out, LB.out, hra, hrb]; rfl
          go_enter Try.func15, Try.ntmps15
          go_wp2_with (first
            | (go_at_call 36; refine (sane27_any _).mono ?_; rintro e w1 ⟨rfl, hh⟩; ((try first | replace ha := SL.below ha hh | replace ha := SL.on1 ha hh | replace ha := SL.on2 ha hh); (try first | replace hb := SL.below hb hh | replace hb := SL.on1 hb hh | replace hb := SL.on2 hb hh); (try first | replace hs1 := SL.below hs1 hh | replace hs1 := SL.on1 hs1 hh | replace hs1 := SL.on2 hs1 hh); (try first | replace hs2 := SL.below hs2 hh | replace hs2 := SL.on1 hs2 hh | replace hs2 := SL.on2 hs2 hh); (try first | replace hs3 := SL.below hs3 hh | replace hs3 := SL.on1 hs3 hh | replace hs3 := SL.on2 hs3 hh); (try first | replace hB := Bel.on0 hB hh | replace hB := Bel.on1 hB hh | replace hB := Bel.on2 hB hh); clear hh))
            | (go_at_call 39; (with_reducible refine (HA.out _).mono ?_); rintro e w1 ⟨rfl, rfl⟩)
            | (go_at_call 39; (with_reducible refine (HB.out _).mono ?_); rintro e w1 ⟨rfl, rfl⟩)
            | (go_at_call 45; refine (cross_eq hC ha hb).mono ?_; rintro e w1 ⟨A1, n1, c1, rfl, hs1, hh⟩; ((try first | replace ha := SL.below ha hh | replace ha := SL.on1 ha hh | replace ha := SL.on2 ha hh); (try first | replace hb := SL.below hb hh | replace hb := SL.on1 hb hh | replace hb := SL.on2 hb hh); (try first | replace hs1 := SL.below hs1 hh | replace hs1 := SL.on1 hs1 hh | replace hs1 := SL.on2 hs1 hh); (try first | replace hs2 := SL.below hs2 hh | replace hs2 := SL.on1 hs2 hh | replace hs2 := SL.on2 hs2 hh); (try first | replace hs3 := SL.below hs3 hh | replace hs3 := SL.on1 hs3 hh | replace hs3 := SL.on2 hs3 hh); (try first | replace hB := Bel.on0 hB hh | replace hB := Bel.on1 hB hh | replace hB := Bel.on2 hB hh); clear hh); obtain rfl : n1 = 0 := by simpa using hs1.n_eq.symm)
            | (go_at_call 42; refine (out_eq hO ha).mono ?_; rintro e w1 ⟨A2, n2, c2, rfl, hs2, hh⟩; ((try first | replace ha := SL.below ha hh | replace ha := SL.on1 ha hh | replace ha := SL.on2 ha hh); (try first | replace hb := SL.below hb hh | replace hb := SL.on1 hb hh | replace hb := SL.on2 hb hh); (try first | replace hs1 := SL.below hs1 hh | replace hs1 := SL.on1 hs1 hh | replace hs1 := SL.on2 hs1 hh); (try first | replace hs2 := SL.below hs2 hh | replace hs2 := SL.on1 hs2 hh | replace hs2 := SL.on2 hs2 hh); (try first | replace hs3 := SL.below hs3 hh | replace hs3 := SL.on1 hs3 hh | replace hs3 := SL.on2 hs3 hh); (try first | replace hB := Bel.on0 hB hh | replace hB := Bel.on1 hB hh | replace hB := Bel.on2 hB hh); clear hh))
            | (go_at_call 40; refine (in_eq hI hb).mono ?_; rintro e w1 ⟨A3, n3, c3, rfl, hs3, hh⟩; ((try first | replace ha := SL.below ha hh | replace ha := SL.on1 ha hh | replace ha := SL.on2 ha hh); (try first | replace hb := SL.below hb hh | replace hb := SL.on1 hb hh | replace hb := SL.on2 hb hh); (try first | replace hs1 := SL.below hs1 hh | replace hs1 := SL.on1 hs1 hh | replace hs1 := SL.on2 hs1 hh); (try first | replace hs2 := SL.below hs2 hh | replace hs2 := SL.on1 hs2 hh | replace hs2 := SL.on2 hs2 hh); (try first | replace hs3 := SL.below hs3 hh | replace hs3 := SL.on1 hs3 hh | replace hs3 := SL.on2 hs3 hh); (try first | replace hB := Bel.on0 hB hh | replace hB := Bel.on1 hB hh | replace hB := Bel.on2 hB hh); clear hh)))
          go_ret
          exact ⟨rfl, hB⟩
        | true =>
          obtain ⟨_, h2, h3, h4⟩ := rightB_spec hra
          have h5 := (rightB_spec hrb).2.2.1
          obtain ⟨q, hq⟩ : ∃ q, m.toNat = q := ⟨_, rfl⟩
          rw [hq] at h3 h4 h5
          subst h4
          have hO : outR a q = (fadeOutS a q, 0) := by unfold outR; rw [LA.out, hra]; rfl
          have hI : inR b q = (fadeInS b q, 0) := by unfold inR; rw [LB.out, hrb]; rfl
          have hC : crossR a b q = (crossS a b q, 0) := by unfold crossR; rw [LA.out, LB.out, hra, hrb]; rfl
          have lX : (fadeOutS a q).length = na := by rw [fadeOutS, updR_len, LA.out]
          have lY : (fadeInS b q).length = nb := by rw [fadeInS, upd_len, LB.out]
          obtain ⟨T, hT⟩ : ∃ T, na - q + nb = T := ⟨_, rfl⟩
          have lV : (crossS a b q).length = T := by rw [crossS_len (by rw [LA.out]; exact h3), LA.out, LB.out, hT]
          obtain ⟨K, hK⟩ : ∃ K, na - q = K := ⟨_, rfl⟩
          have gK : (na : Int) - (q : Int) = (K : Int) := by omega
          have gT : (na : Int) + (nb : Int) - (q : Int) = (T : Int) := by omega
          have oLo : ∀ i, i < K → (crossS a b q)[i]? = (fadeOutS a q)[i]? := fun i hi => over_lo (by rw [LA.out]; omega)
          have oHi : ∀ i k, K + k = i → na ≤ i → k < nb → (crossS a b q)[i]? = (fadeInS b q)[k]? := fun i k h1 h2 h3 => over_hi (by rw [LA.out]; omega) (by rw [LA.out]; omega) (by rw [LA.out]; omega) (by rw [LB.out]; omega)
          have oMid : ∀ i k x y, K + k = i → i < na → (fadeOutS a q)[i]? = some x → (fadeInS b q)[k]? = some y → (crossS a b q)[i]? = some (addS x y) :=
            fun i k x y h1 h2 hx hy => over_mid (by rw [LA.out]; omega) (by rw [LB.out]; omega) (by rw [LA.out]; omega) (by rw [LA.out]; omega) hx hy
          have HC := Lib.hid hC
          have HO := Lib.hid hO
          have HI := Lib.hid hI
          clear hC hO hI hra hrb
          obtain ⟨V, hV⟩ : ∃ V, crossS a b q = V := ⟨_, rfl⟩
          obtain ⟨X, hX⟩ : ∃ X, fadeOutS a q = X := ⟨_, rfl⟩
          obtain ⟨Y, hY⟩ : ∃ Y, fadeInS b q = Y := ⟨_, rfl⟩
          rw [hV] at HC oLo oHi oMid lV
          rw [hX] at HO oLo oMid lX
          rw [hY] at HI oHi oMid lY
          clear hV hX hY
          have OLo := Lib.hid oLo
          have OHi := Lib.hid oHi
          have OMid := Lib.hid oMid
          clear oLo oHi oMid
          go_enter Try.func15, Try.ntmps15
          go_wp2_with (first
            | (go_at_call 36; refine (sane27_any _).mono ?_; rintro e w1 ⟨rfl, hh⟩; ((try first | replace ha := SL.below ha hh | replace ha := SL.on1 ha hh | replace ha := SL.on2 ha hh); (try first | replace hb := SL.below hb hh | replace hb := SL.on1 hb hh | replace hb := SL.on2 hb hh); (try first | replace hs1 := SL.below hs1 hh | replace hs1 := SL.on1 hs1 hh | replace hs1 := SL.on2 hs1 hh); (try first | replace hs2 := SL.below hs2 hh | replace hs2 := SL.on1 hs2 hh | replace hs2 := SL.on2 hs2 hh); (try first | replace hs3 := SL.below hs3 hh | replace hs3 := SL.on1 hs3 hh | replace hs3 := SL.on2 hs3 hh); (try first | replace hB := Bel.on0 hB hh | replace hB := Bel.on1 hB hh | replace hB := Bel.on2 hB hh); clear hh))
            | (go_at_call 39; (with_reducible refine (HA.out _).mono ?_); rintro e w1 ⟨rfl, rfl⟩)
            | (go_at_call 39; (with_reducible refine (HB.out _).mono ?_); rintro e w1 ⟨rfl, rfl⟩)
            | (go_at_call 45; refine (cross_eq HC.out ha hb).mono ?_; rintro e w1 ⟨A1, n1, c1, rfl, hs1, hh⟩; ((try first | replace ha := SL.below ha hh | replace ha := SL.on1 ha hh | replace ha := SL.on2 ha hh); (try first | replace hb := SL.below hb hh | replace hb := SL.on1 hb hh | replace hb := SL.on2 hb hh); (try first | replace hs1 := SL.below hs1 hh | replace hs1 := SL.on1 hs1 hh | replace hs1 := SL.on2 hs1 hh); (try first | replace hs2 := SL.below hs2 hh | replace hs2 := SL.on1 hs2 hh | replace hs2 := SL.on2 hs2 hh); (try first | replace hs3 := SL.below hs3 hh | replace hs3 := SL.on1 hs3 hh | replace hs3 := SL.on2 hs3 hh); (try first | replace hB := Bel.on0 hB hh | replace hB := Bel.on1 hB hh | replace hB := Bel.on2 hB hh); clear hh); obtain rfl : T = n1 := by (have := hs1.n_eq; omega))
            | (go_at_call 42; refine (out_eq HO.out ha).mono ?_; rintro e w1 ⟨A2, n2, c2, rfl, hs2, hh⟩; ((try first | replace ha := SL.below ha hh | replace ha := SL.on1 ha hh | replace ha := SL.on2 ha hh); (try first | replace hb := SL.below hb hh | replace hb := SL.on1 hb hh | replace hb := SL.on2 hb hh); (try first | replace hs1 := SL.below hs1 hh | replace hs1 := SL.on1 hs1 hh | replace hs1 := SL.on2 hs1 hh); (try first | replace hs2 := SL.below hs2 hh | replace hs2 := SL.on1 hs2 hh | replace hs2 := SL.on2 hs2 hh); (try first | replace hs3 := SL.below hs3 hh | replace hs3 := SL.on1 hs3 hh | replace hs3 := SL.on2 hs3 hh); (try first | replace hB := Bel.on0 hB hh | replace hB := Bel.on1 hB hh | replace hB := Bel.on2 hB hh); clear hh); obtain rfl : na = n2 := by (have := hs2.n_eq; omega))
            | (go_at_call 40; refine (in_eq HI.out hb).mono ?_; rintro e w1 ⟨A3, n3, c3, rfl, hs3, hh⟩; ((try first | replace ha := SL.below ha hh | replace ha := SL.on1 ha hh | replace ha := SL.on2 ha hh); (try first | replace hb := SL.below hb hh | replace hb := SL.on1 hb hh | replace hb := SL.on2 hb hh); (try first | replace hs1 := SL.below hs1 hh | replace hs1 := SL.on1 hs1 hh | replace hs1 := SL.on2 hs1 hh); (try first | replace hs2 := SL.below hs2 hh | replace hs2 := SL.on1 hs2 hh | replace hs2 := SL.on2 hs2 hh); (try first | replace hs3 := SL.below hs3 hh | replace hs3 := SL.on1 hs3 hh | replace hs3 := SL.on2 hs3 hh); (try first | replace hB := Bel.on0 hB hh | replace hB := Bel.on1 hB hh | replace hB := Bel.on2 hB hh); clear hh); obtain rfl : nb = n3 := by (have := hs3.n_eq; omega)))
          go_loopw [92] (fun i wr => ∃ k : Nat, k ≤ T ∧ i = .int .i64 k ∧ SL wr A1 T c1 V ∧ SL wr A2 na c2 X ∧ SL wr A3 nb c3 Y ∧ Below w.heap.size w wr) (fun i _ => T - (intOf i).toNat)
          case atStart => exact ⟨0, Nat.zero_le _, rfl, hs1, hs2, hs3, hB⟩
          case round =>
            clear hs1 hs2 hs3 hB
            obtain ⟨i, hi, rfl, hs1, hs2, hs3, hB⟩ := hrel
            by_cases hlt : i < T
            · have hVl : i < V.length := by rw [lV]; exact hlt
              obtain ⟨b1, o1, rfl, _, c1v⟩ := hs1.at_ hVl
              have hVi : V[i]? = some V[i] := List.getElem?_eq_getElem hVl
              obtain ⟨v, hv⟩ : ∃ v, V[i] = v := ⟨_, rfl⟩
              rw [hv] at c1v hVi
              by_cases h1 : i < K
              · have hXl : i < X.length := by rw [lX]; omega
                obtain ⟨b2, o2, rfl, _, c2v⟩ := hs2.at_ hXl
                have e1 := OLo.out i h1
                rw [hVi, List.getElem?_eq_getElem hXl] at e1
                injection e1 with e1
                rw [← e1] at c2v
                have g1 : (i : Int) < (K : Int) := by omega
                have g2 : (i : Int) < (na : Int) := by omega
                clear hv hVi e1
                go_wp2
                exact ⟨⟨i + 1, by omega, by simp, hs1, hs2, hs3, hB⟩, by simp only [intOf]; omega⟩
              · obtain ⟨k, hk⟩ : ∃ k, i - K = k := ⟨_, rfl⟩
                have gk : (i : Int) - (K : Int) = (k : Int) := by omega
                have hkb : k < nb := by omega
                have gkb : (k : Int) < (nb : Int) := by omega
                have hYl : k < Y.length := by rw [lY]; exact hkb
                obtain ⟨b3, o3, rfl, _, c3v⟩ := hs3.at_ hYl
                obtain ⟨y, hy⟩ : ∃ y, Y[k] = y := ⟨_, rfl⟩
                rw [hy] at c3v
                have hYk : Y[k]? = some y := by rw [List.getElem?_eq_getElem hYl, hy]
                by_cases h2 : na ≤ i
                · have e1 := OHi.out i k (by omega) h2 hkb
                  rw [hVi, hYk] at e1
                  injection e1 with e1
                  subst e1
                  have g2 : (na : Int) ≤ (i : Int) := by omega
                  clear hv hVi hk hYk hy
                  go_wp2
                  exact ⟨⟨i + 1, by omega, by simp, hs1, hs2, hs3, hB⟩, by simp only [intOf]; omega⟩
                · have hXl : i < X.length := by rw [lX]; omega
                  obtain ⟨b2, o2, rfl, _, c2v⟩ := hs2.at_ hXl
                  obtain ⟨x, hx⟩ : ∃ x, X[i] = x := ⟨_, rfl⟩
                  rw [hx] at c2v
                  have e1 := OMid.out i k x y (by omega) (by omega) (by rw [List.getElem?_eq_getElem hXl, hx]) hYk
                  rw [hVi] at e1
                  injection e1 with e1
                  have g2 : (i : Int) < (na : Int) := by omega
                  have hx64 : I64 x := by rw [← hx]; exact hs2.i64 _ (List.getElem_mem hXl)
                  have hy64 : I64 y := by rw [← hy]; exact hs3.i64 _ (List.getElem_mem hYl)
                  have E1 := Lib.hid e1
                  clear hv hVi hk hYk hy hx e1
                  have eX : ∀ z : Ext wr, z.W.cell? ⟨b2, o2 + i, none⟩ = some (.int .i64 x) := fun z => z.cell c2v
                  have eY : ∀ z : Ext wr, z.W.cell? ⟨b3, o3 + k, none⟩ = some (.int .i64 y) := fun z => z.cell c3v
                  go_wp2
                  refine wp_region_ext (by kernel_rfl) (by kernel_rfl) ?_
                  repeat (go_big_quiet_step (first | exact Ext.quiet (add_any x y _ hx64 hy64)))
                  refine wpQuiet_nil ?_
                  rintro _ ⟨z, rfl⟩
                  have cz := z.cell c1v
                  have hw := E1.out
                  subst hw
                  go_wp2
                  exact ⟨⟨i + 1, by omega, by simp, hs1.below z.h, hs2.below z.h, hs3.below z.h, hB.trans (z.h.mono hB.size)⟩, by simp only [intOf]; omega⟩
            · obtain rfl : i = T := by omega
              go_wp2
              go_ret
              exact ⟨rfl, hB⟩
    · rw [show decide (nb ≤ 1000) = false by simpa using hn2] at HB
      go_enter Try.func15, Try.ntmps15
      go_wp2_with (first
        | (go_at_call 36; refine (sane27_any _).mono ?_; rintro e w1 ⟨rfl, hh⟩; ((try first | replace ha := SL.below ha hh | replace ha := SL.on1 ha hh | replace ha := SL.on2 ha hh); (try first | replace hb := SL.below hb hh | replace hb := SL.on1 hb hh | replace hb := SL.on2 hb hh); (try first | replace hs1 := SL.below hs1 hh | replace hs1 := SL.on1 hs1 hh | replace hs1 := SL.on2 hs1 hh); (try first | replace hs2 := SL.below hs2 hh | replace hs2 := SL.on1 hs2 hh | replace hs2 := SL.on2 hs2 hh); (try first | replace hs3 := SL.below hs3 hh | replace hs3 := SL.on1 hs3 hh | replace hs3 := SL.on2 hs3 hh); (try first | replace hB := Bel.on0 hB hh | replace hB := Bel.on1 hB hh | replace hB := Bel.on2 hB hh); clear hh))
        | (go_at_call 39; (with_reducible refine (HA.out _).mono ?_); rintro e w1 ⟨rfl, rfl⟩)
        | (go_at_call 39; (with_reducible refine (HB.out _).mono ?_); rintro e w1 ⟨rfl, rfl⟩))
      go_ret
      exact ⟨rfl, hB⟩
  · rw [show decide (na ≤ 1000) = false by simpa using hn] at HA
    go_enter Try.func15, Try.ntmps15
    go_wp2_with (first
      | (go_at_call 36; refine (sane27_any _).mono ?_; rintro e w1 ⟨rfl, hh⟩; ((try first | replace ha := SL.below ha hh | replace ha := SL.on1 ha hh | replace ha := SL.on2 ha hh); (try first | replace hb := SL.below hb hh | replace hb := SL.on1 hb hh | replace hb := SL.on2 hb hh); (try first | replace hs1 := SL.below hs1 hh | replace hs1 := SL.on1 hs1 hh | replace hs1 := SL.on2 hs1 hh); (try first | replace hs2 := SL.below hs2 hh | replace hs2 := SL.on1 hs2 hh | replace hs2 := SL.on2 hs2 hh); (try first | replace hs3 := SL.below hs3 hh | replace hs3 := SL.on1 hs3 hh | replace hs3 := SL.on2 hs3 hh); (try first | replace hB := Bel.on0 hB hh | replace hB := Bel.on1 hB hh | replace hB := Bel.on2 hB hh); clear hh))
      | (go_at_call 39; (with_reducible refine (HA.out _).mono ?_); rintro e w1 ⟨rfl, rfl⟩))
    go_ret
    exact ⟨rfl, hB⟩
end Go.Proofs.Yteljglhfimhmlaa
