/- The walk of SpeedBetween (layer 26). -/
import Derived.Test.YteljglhfimhmlaaSpeedD
import Derived.Test.YteljglhfimhmlaaPlainSpeedC
namespace Go.Proofs.Yteljglhfimhmlaa
open Go.RowKit

theorem atR_eq {l : List Int} {a b : Int} {i : Nat} (h : SpeedOk a b) (hl : (l.length : Int) ≤ 16777216) (hi : (i : Int) < cntS l.length a b) : atR l a b i = (sampS l a b i, 0) := by
  unfold atR; rw [if_pos ⟨h, hl, by omega, hi⟩]

set_option maxHeartbeats 8000000 in
set_option maxRecDepth 100000 in
theorem walkSpeedBetween (A : Option Addr) (n c : Nat) (l : List Int) (A' : Option Addr) (n' c' : Nat) (o : List Int) (a b : Int) (w : World) (h : SL w A n c l) (ho : SL w A' n' c' o) (_ : I64 a) (_ : I64 b) :
    Calls Try.prog 20 #[.slice A n c, .slice A' n' c', .int .i64 a, .int .i64 b] w fun e w' => e = .returned (.bool true) ∧ Below w.heap.size w w' := by
  have HA := Lib.hid (fun w => few26_any A n c w h.len)
  have HA' := Lib.hid (fun w => few26_any A' n' c' w ho.len)
  have HL := Lib.hid h.n_eq
  have HO := Lib.hid ho.n_eq
  have hB := Below.refl w.heap.size w
  by_cases hl : n ≤ 60
  · rw [show decide (n ≤ 60) = true by simpa using hl] at HA
    by_cases hl2 : n' ≤ 60
    · rw [show decide (n' ≤ 60) = true by simpa using hl2] at HA'
      by_cases hs : SpeedOk a b
      · have h3 := cntS_le (n := (n : Int)) (by omega) hs
        obtain ⟨q, hq⟩ : ∃ q : Nat, cntS n a b = q := ⟨(cntS n a b).toNat, by omega⟩
        have hC : convR l a b = (convS l a b, 0) := by unfold convR; rw [HL.out, if_pos ⟨hs, by omega⟩, if_pos (by omega)]
        have hLn : lenR n a b = ((q : Int), 0) := by unfold lenR; rw [if_pos ⟨hs, by omega, by omega⟩, hq]
        have hXl : (convS l a b).length = q := by rw [convS_len, HL.out, hq]; omega
        have hXg : ∀ i : Nat, i < q → (convS l a b)[i]? = some (sampS l a b i) := fun i hi => convS_get (by rw [HL.out, hq]; omega)
        rw [hq] at h3
        obtain ⟨a1, a2, b1, b2, _⟩ := id hs
        have hq2 : q ≤ 3840 := by omega
        have hq3 : (q : Int) ≤ 3840 := by omega
        obtain ⟨X, hX⟩ : ∃ X, convS l a b = X := ⟨_, rfl⟩
        rw [hX] at hC hXl hXg
        have HC := Lib.hid hC
        have HLn := Lib.hid hLn
        have HXl := Lib.hid hXl
        have HXg := Lib.hid hXg
        have HS := Lib.hid hs
        have HQ := Lib.hid hq
        clear hC hLn hXl hXg hs hq hX h3
        go_enter Try.func20, Try.ntmps20
        go_wp2_with (first
          | (go_at_call 48; refine (sane26_any _).mono ?_; rintro e w1 ⟨rfl, hh⟩; ((try first | replace h := SL.below h hh | replace h := SL.on1 h hh | replace h := SL.on2 h hh); (try first | replace ho := SL.below ho hh | replace ho := SL.on1 ho hh | replace ho := SL.on2 ho hh); (try first | replace hs1 := SL.below hs1 hh | replace hs1 := SL.on1 hs1 hh | replace hs1 := SL.on2 hs1 hh); (try first | replace hB := Bel.on0 hB hh | replace hB := Bel.on1 hB hh | replace hB := Bel.on2 hB hh); clear hh))
          | (go_at_call 49; (with_reducible refine (HA.out _).mono ?_); rintro e w1 ⟨rfl, rfl⟩)
          | (go_at_call 49; (with_reducible refine (HA'.out _).mono ?_); rintro e w1 ⟨rfl, rfl⟩)
          | (go_at_call 54; (with_reducible refine (conv_eq HC.out h).mono ?_); rintro e w1 ⟨A1, n1, c1, rfl, hs1, hh⟩; ((try first | replace h := SL.below h hh | replace h := SL.on1 h hh | replace h := SL.on2 h hh); (try first | replace ho := SL.below ho hh | replace ho := SL.on1 ho hh | replace ho := SL.on2 ho hh); (try first | replace hs1 := SL.below hs1 hh | replace hs1 := SL.on1 hs1 hh | replace hs1 := SL.on2 hs1 hh); (try first | replace hB := Bel.on0 hB hh | replace hB := Bel.on1 hB hh | replace hB := Bel.on2 hB hh); clear hh); obtain rfl : q = n1 := HXl.out.symm.trans hs1.n_eq)
          | (go_at_call 50; (with_reducible refine (len_eq HLn.out (by unfold I64; omega)).mono ?_); rintro e w1 ⟨rfl, hh⟩; ((try first | replace h := SL.below h hh | replace h := SL.on1 h hh | replace h := SL.on2 h hh); (try first | replace ho := SL.below ho hh | replace ho := SL.on1 ho hh | replace ho := SL.on2 ho hh); (try first | replace hs1 := SL.below hs1 hh | replace hs1 := SL.on1 hs1 hh | replace hs1 := SL.on2 hs1 hh); (try first | replace hB := Bel.on0 hB hh | replace hB := Bel.on1 hB hh | replace hB := Bel.on2 hB hh); clear hh)))
        go_loopw [77] (fun i wr => ∃ j : Nat, j ≤ q ∧ i = .int .i64 j ∧ SL wr A1 q c1 X ∧ SL wr A n c l ∧ SL wr A' n' c' o ∧ Below w.heap.size w wr) (fun i _ => q - (intOf i).toNat)
        case atStart => exact ⟨0, Nat.zero_le _, rfl, hs1, h, ho, hB⟩
        case round =>
          clear hs1 h ho hB
          obtain ⟨j, hj, rfl, hs1, h, ho, hB⟩ := hrel
          by_cases hlt : j < q
          · have hi : (j : Int) < cntS n a b := by rw [HQ.out]; omega
            obtain ⟨p1, p2, p3, p4, p5, p6, p7⟩ := place_in HS.out (show (0 : Int) ≤ j by omega) hi (by omega)
            have hXj := HXg.out j hlt
            have hjX : j < X.length := by rw [HXl.out]; exact hlt
            obtain ⟨bx, ox, rfl, _, cX⟩ := hs1.at_ hjX
            rw [List.getElem?_eq_getElem hjX] at hXj
            injection hXj with hXj
            rw [hXj] at cX
            have hg5 : (n - 1 : Int) * b ≤ 60 * 64 := Int.le_trans (Int.mul_le_mul_of_nonneg_left b2 (by omega)) (Int.mul_le_mul_of_nonneg_right (by omega) (by omega))
            obtain ⟨k, hk⟩ : ∃ k : Nat, (j : Int) * a / b = k := ⟨((j : Int) * a / b).toNat, by omega⟩
            rw [hk] at p1 p2 p5
            obtain ⟨p, hp⟩ : ∃ p, min (k + 1) (n - 1) = p := ⟨_, rfl⟩
            have hkl : k < l.length := by rw [HL.out]; omega
            have hpl : p < l.length := by rw [HL.out]; omega
            obtain ⟨bl, ol, rfl, _, cL⟩ := h.all_ (by omega)
            have cd := cL k hkl
            have ce := cL p hpl
            obtain ⟨d, hd⟩ : ∃ d, l[k] = d := ⟨_, rfl⟩
            obtain ⟨e, he⟩ : ∃ e, l[p] = e := ⟨_, rfl⟩
            rw [hd] at cd
            rw [he] at ce
            have hbt := fun lo hi' l1 l2 u1 u2 => samp_between (l := l) (a := a) (b := b) (i := j) (q := k) (p := p) (d := d) (e := e) (lo := lo) (hi := hi') HS.out (by rw [HL.out]; exact hi) hk (by rw [HL.out]; exact hp.symm) (by rw [List.getElem?_eq_getElem hkl, hd]) (by rw [List.getElem?_eq_getElem hpl, he]) l1 l2 u1 u2
            have hat : atR l a b j = (sampS l a b j, 0) := atR_eq HS.out (by rw [HL.out]; omega) (by rw [HL.out]; exact hi)
            have hat2 : atR (nearS l o k p n) a b j = (sampS l a b j, 0) := by
              rw [atR_eq HS.out (by rw [nearS_len, HL.out]; omega) (by rw [nearS_len, HL.out]; exact hi)]
              rw [samp_near (l := l) HS.out (by rw [HL.out]; exact hi) hk (by rw [HL.out]; exact hp.symm) (nearS_get (.inl rfl)) (nearS_get (.inr rfl))]
            obtain ⟨y, hy⟩ : ∃ y, sampS l a b j = y := ⟨_, rfl⟩
            rw [hy] at cX hbt hat hat2
            have HAt := Lib.hid hat
            have HAt2 := Lib.hid hat2
            obtain ⟨m0, hm0⟩ : ∃ m0, (j : Int) * a = m0 := ⟨_, rfl⟩
            rw [hm0] at p6 p7 hk
            have gm0 : m0 ≤ 3840 := by omega
            have hz : (b == 0) = false := by simp; omega
            have hz2 : ¬ b = 0 := by omega
            have g1 : (j : Int) < q := by omega
            have g7 : ((j : Int) % 7 != 0) = true ∨ ((j : Int) % 7 != 0) = false := by cases ((j : Int) % 7 != 0) <;> simp
            have eD : ∀ z : Ext wr, z.W.cell? ⟨bl, ol + k, none⟩ = some (.int .i64 d) := fun z => z.cell cd
            have eE : ∀ z : Ext wr, z.W.cell? ⟨bl, ol + p, none⟩ = some (.int .i64 e) := fun z => z.cell ce
            have hcase : ((k : Int) + 1 = p ∧ (p : Int) ≤ n - 1) ∨ ((n : Int) - 1 = p ∧ (n : Int) - 1 < k + 1 ∧ d = e) := by
              rcases (show k + 1 < n ∨ k + 1 = n by omega) with h5 | h5
              · exact .inl (by omega)
              · refine .inr ⟨by omega, by omega, ?_⟩
                rw [← hd, ← he]; congr 1; omega
            have hord : d < e ∨ e < d ∨ d = e := by omega
            have HJ := Lib.hid hp
            have HXj := Lib.hid hXj
            have HD := Lib.hid hd
            have HE := Lib.hid he
            clear hp hd he hy hat hat2 cL p5 p3 p4 hXj cd ce hi
            have fin : ∀ lo hi' : Int, ((k : Int) + 1 = p ∧ (p : Int) ≤ n - 1) ∨ ((n : Int) - 1 = p ∧ (n : Int) - 1 < k + 1 ∧ d = e) → (lo = d ∧ hi' = e ∧ d < e) ∨ (lo = e ∧ hi' = d ∧ e < d) ∨ (lo = d ∧ hi' = d ∧ d = e) → clipS lo ≤ y ∧ y ≤ clipS hi' := by
              rintro lo hi' _ (⟨rfl, rfl, h5⟩ | ⟨rfl, rfl, h5⟩ | ⟨rfl, rfl, h5⟩)
              · exact hbt lo hi' (by omega) (by omega) (by omega) (by omega)
              · exact hbt lo hi' (by omega) (by omega) (by omega) (by omega)
              · exact hbt _ _ (by omega) (by omega) (by omega) (by omega)
            rcases hcase with ⟨gp, gp2⟩ | ⟨gp, gp2, gp3⟩
            · rcases hord with go | go | go
              · obtain ⟨y1, y2⟩ := fin d e (.inl ⟨gp, gp2⟩) (.inl ⟨rfl, rfl, go⟩)
                clear hbt fin
                go_wp2
                refine wp_region_ext (by kernel_rfl) (by kernel_rfl) ?_
                repeat (go_big_quiet_step (first | exact Ext.quietS (clip_any _ _)))
                refine wpQuiet_nil ?_
                rintro _ ⟨z, rfl⟩
                replace h := h.below z.h
                replace ho := ho.below z.h
                replace hs1 := hs1.below z.h
                replace hB := Bel.on0 hB z.h
                clear eD eE
                rcases g7 with g7 | g7
                · go_wp2_with (go_at_call 52; (with_reducible refine (at_eq HAt.out h).mono ?_); rintro e w1 ⟨rfl, hh⟩; ((try first | replace h := SL.below h hh | replace h := SL.on1 h hh | replace h := SL.on2 h hh); (try first | replace ho := SL.below ho hh | replace ho := SL.on1 ho hh | replace ho := SL.on2 ho hh); (try first | replace hs1 := SL.below hs1 hh | replace hs1 := SL.on1 hs1 hh | replace hs1 := SL.on2 hs1 hh); (try first | replace hB := Bel.on0 hB hh | replace hB := Bel.on1 hB hh | replace hB := Bel.on2 hB hh); clear hh))
                  exact ⟨⟨j + 1, by omega, by simp, hs1, h, ho, hB⟩, by simp only [intOf]; omega⟩
                · go_wp2_with (first
                    | (go_at_call 52; (with_reducible refine (at_eq HAt.out h).mono ?_); rintro e w1 ⟨rfl, hh⟩; ((try first | replace h := SL.below h hh | replace h := SL.on1 h hh | replace h := SL.on2 h hh); (try first | replace ho := SL.below ho hh | replace ho := SL.on1 ho hh | replace ho := SL.on2 ho hh); (try first | replace hs1 := SL.below hs1 hh | replace hs1 := SL.on1 hs1 hh | replace hs1 := SL.on2 hs1 hh); (try first | replace hB := Bel.on0 hB hh | replace hB := Bel.on1 hB hh | replace hB := Bel.on2 hB hh); clear hh); (obtain ⟨A3, c3, w3, eA, hO3, hB3, _⟩ := (OL.lit w1 (Nat.le_refl w1.heap.size)).app (h.alloc (.cells #[] 3)) (by simp) (by omega)); (rw [Nat.zero_add, List.nil_append] at hO3); (rw [Nat.zero_add] at eA);
                        (have hK3 := ((Below.refl w1.heap.size w1).alloc (Nat.le_refl _) (.cells #[] 3)).trans hB3))
                    | (at_builtin; refine wpList_append_eq rfl _ _ _ rfl rfl rfl eA ?_; clear eA))
                  go_loopw [154] (fun i wi => ∃ t : Nat, t ≤ n ∧ i = .int .i64 t ∧ OL wi w1.heap.size A3 n c3 (nearS l o k p t) ∧ Below w1.heap.size w1 wi) (fun i _ => n - (intOf i).toNat)
                  case atStart => exact ⟨0, Nat.zero_le _, rfl, by rw [nearS_zero]; exact hO3, hK3⟩
                  case round =>
                    clear hO3 hK3 hB3
                    obtain ⟨t, ht, rfl, hOt, hKt⟩ := hrel
                    by_cases htn : t < n
                    · have gt : (t : Int) < n := by omega
                      by_cases t1 : t = k
                      · have hN := nearS_keep (l := l) (o := o) (q := k) (p := p) (k := t) (.inl t1)
                        have f1 : ((t : Int) != (k : Int)) = false := by simp; omega
                        rw [← hN] at hOt
                        clear hN t1
                        go_wp2
                        exact ⟨⟨t + 1, by omega, by simp, hOt, hKt⟩, by simp only [intOf]; omega⟩
                      · have f1 : ((t : Int) != (k : Int)) = true := by simp; omega
                        by_cases t2 : t = p
                        · have hN := nearS_keep (l := l) (o := o) (q := k) (p := p) (k := t) (.inr (.inl t2))
                          have f2 : ((t : Int) != (p : Int)) = false := by simp; omega
                          rw [← hN] at hOt
                          clear hN t1 t2
                          go_wp2
                          exact ⟨⟨t + 1, by omega, by simp, hOt, hKt⟩, by simp only [intOf]; omega⟩
                        · have f2 : ((t : Int) != (p : Int)) = true := by simp; omega
                          by_cases t3 : n' ≤ t
                          · have hN := nearS_keep (l := l) (o := o) (q := k) (p := p) (k := t) (.inr (.inr (by rw [HO.out]; exact t3)))
                            have f3 : (n' : Int) ≤ (t : Int) := by omega
                            rw [← hN] at hOt
                            clear hN t1 t2
                            go_wp2
                            exact ⟨⟨t + 1, by omega, by simp, hOt, hKt⟩, by simp only [intOf]; omega⟩
                          · have f3 : (t : Int) < (n' : Int) := by omega
                            have hto : t < o.length := by rw [HO.out]; omega
                            obtain ⟨bo, oo, rfl, _, cO⟩ := (ho.below hKt).at_ hto
                            have hx64 := ho.i64 _ (List.getElem_mem hto)
                            have hxo : o[t]? = some o[t] := List.getElem?_eq_getElem hto
                            obtain ⟨x, hx⟩ : ∃ x, o[t] = x := ⟨_, rfl⟩
                            rw [hx] at cO hx64 hxo
                            have hN := nearS_set (l := l) (o := o) (q := k) (p := p) (k := t) t1 t2 hxo
                            have htl : t < (nearS l o k p t).length := by rw [nearS_len, HL.out]; exact htn
                            obtain ⟨g, rfl, hg1, hg2, hg3, cG, fG, sG⟩ := hOt.at_ htn
                            have cG1 := cG _ (List.getElem?_eq_getElem htl)
                            have hS := sG x hx64
                            rw [← hN] at hS
                            obtain ⟨v, hv⟩ : ∃ v, (nearS l o k p t)[t] = v := ⟨_, rfl⟩
                            rw [hv] at cG1
                            have HS2 := Lib.hid hS
                            clear hN hx hxo t1 t2 sG cG hS hv htl hto
                            go_wp2
                            exact ⟨⟨t + 1, by omega, by simp, HS2.out, hKt.setCell (by show w1.heap.size ≤ g; omega) _⟩, by simp only [intOf]; omega⟩
                    · obtain rfl : t = n := by omega
                      have hsN := hOt.sl
                      replace h := h.below hKt
                      replace ho := ho.below hKt
                      replace hs1 := hs1.below hKt
                      replace hB := Bel.on0 hB hKt
                      clear hOt hKt
                      go_wp2_with (go_at_call 52; (with_reducible refine (at_eq HAt2.out hsN).mono ?_); rintro e w1 ⟨rfl, hh⟩; ((try first | replace h := SL.below h hh | replace h := SL.on1 h hh | replace h := SL.on2 h hh); (try first | replace ho := SL.below ho hh | replace ho := SL.on1 ho hh | replace ho := SL.on2 ho hh); (try first | replace hs1 := SL.below hs1 hh | replace hs1 := SL.on1 hs1 hh | replace hs1 := SL.on2 hs1 hh); (try first | replace hB := Bel.on0 hB hh | replace hB := Bel.on1 hB hh | replace hB := Bel.on2 hB hh); clear hh))
                      exact ⟨⟨j + 1, by omega, by simp, hs1, h, ho, hB⟩, by simp only [intOf]; omega⟩
              · obtain ⟨y1, y2⟩ := fin e d (.inl ⟨gp, gp2⟩) (.inr (.inl ⟨rfl, rfl, go⟩))
                clear hbt fin
                go_wp2
                refine wp_region_ext (by kernel_rfl) (by kernel_rfl) ?_
                repeat (go_big_quiet_step (first | exact Ext.quietS (clip_any _ _)))
                refine wpQuiet_nil ?_
                rintro _ ⟨z, rfl⟩
                replace h := h.below z.h
                replace ho := ho.below z.h
                replace hs1 := hs1.below z.h
                replace hB := Bel.on0 hB z.h
                clear eD eE
                rcases g7 with g7 | g7
                · go_wp2_with (go_at_call 52; (with_reducible refine (at_eq HAt.out h).mono ?_); rintro e w1 ⟨rfl, hh⟩; ((try first | replace h := SL.below h hh | replace h := SL.on1 h hh | replace h := SL.on2 h hh); (try first | replace ho := SL.below ho hh | replace ho := SL.on1 ho hh | replace ho := SL.on2 ho hh); (try first | replace hs1 := SL.below hs1 hh | replace hs1 := SL.on1 hs1 hh | replace hs1 := SL.on2 hs1 hh); (try first | replace hB := Bel.on0 hB hh | replace hB := Bel.on1 hB hh | replace hB := Bel.on2 hB hh); clear hh))
                  exact ⟨⟨j + 1, by omega, by simp, hs1, h, ho, hB⟩, by simp only [intOf]; omega⟩
                · go_wp2_with (first
                    | (go_at_call 52; (with_reducible refine (at_eq HAt.out h).mono ?_); rintro e w1 ⟨rfl, hh⟩; ((try first | replace h := SL.below h hh | replace h := SL.on1 h hh | replace h := SL.on2 h hh); (try first | replace ho := SL.below ho hh | replace ho := SL.on1 ho hh | replace ho := SL.on2 ho hh); (try first | replace hs1 := SL.below hs1 hh | replace hs1 := SL.on1 hs1 hh | replace hs1 := SL.on2 hs1 hh); (try first | replace hB := Bel.on0 hB hh | replace hB := Bel.on1 hB hh | replace hB := Bel.on2 hB hh); clear hh); (obtain ⟨A3, c3, w3, eA, hO3, hB3, _⟩ := (OL.lit w1 (Nat.le_refl w1.heap.size)).app (h.alloc (.cells #[] 3)) (by simp) (by omega)); (rw [Nat.zero_add, List.nil_append] at hO3); (rw [Nat.zero_add] at eA);
                        (have hK3 := ((Below.refl w1.heap.size w1).alloc (Nat.le_refl _) (.cells #[] 3)).trans hB3))
                    | (at_builtin; refine wpList_append_eq rfl _ _ _ rfl rfl rfl eA ?_; clear eA))
                  go_loopw [154] (fun i wi => ∃ t : Nat, t ≤ n ∧ i = .int .i64 t ∧ OL wi w1.heap.size A3 n c3 (nearS l o k p t) ∧ Below w1.heap.size w1 wi) (fun i _ => n - (intOf i).toNat)
                  case atStart => exact ⟨0, Nat.zero_le _, rfl, by rw [nearS_zero]; exact hO3, hK3⟩
                  case round =>
                    clear hO3 hK3 hB3
                    obtain ⟨t, ht, rfl, hOt, hKt⟩ := hrel
                    by_cases htn : t < n
                    · have gt : (t : Int) < n := by omega
                      by_cases t1 : t = k
                      · have hN := nearS_keep (l := l) (o := o) (q := k) (p := p) (k := t) (.inl t1)
                        have f1 : ((t : Int) != (k : Int)) = false := by simp; omega
                        rw [← hN] at hOt
                        clear hN t1
                        go_wp2
                        exact ⟨⟨t + 1, by omega, by simp, hOt, hKt⟩, by simp only [intOf]; omega⟩
                      · have f1 : ((t : Int) != (k : Int)) = true := by simp; omega
                        by_cases t2 : t = p
                        · have hN := nearS_keep (l := l) (o := o) (q := k) (p := p) (k := t) (.inr (.inl t2))
                          have f2 : ((t : Int) != (p : Int)) = false := by simp; omega
                          rw [← hN] at hOt
                          clear hN t1 t2
                          go_wp2
                          exact ⟨⟨t + 1, by omega, by simp, hOt, hKt⟩, by simp only [intOf]; omega⟩
                        · have f2 : ((t : Int) != (p : Int)) = true := by simp; omega
                          by_cases t3 : n' ≤ t
                          · have hN := nearS_keep (l := l) (o := o) (q := k) (p := p) (k := t) (.inr (.inr (by rw [HO.out]; exact t3)))
                            have f3 : (n' : Int) ≤ (t : Int) := by omega
                            rw [← hN] at hOt
                            clear hN t1 t2
                            go_wp2
                            exact ⟨⟨t + 1, by omega, by simp, hOt, hKt⟩, by simp only [intOf]; omega⟩
                          · have f3 : (t : Int) < (n' : Int) := by omega
                            have hto : t < o.length := by rw [HO.out]; omega
                            obtain ⟨bo, oo, rfl, _, cO⟩ := (ho.below hKt).at_ hto
                            have hx64 := ho.i64 _ (List.getElem_mem hto)
                            have hxo : o[t]? = some o[t] := List.getElem?_eq_getElem hto
                            obtain ⟨x, hx⟩ : ∃ x, o[t] = x := ⟨_, rfl⟩
                            rw [hx] at cO hx64 hxo
                            have hN := nearS_set (l := l) (o := o) (q := k) (p := p) (k := t) t1 t2 hxo
                            have htl : t < (nearS l o k p t).length := by rw [nearS_len, HL.out]; exact htn
                            obtain ⟨g, rfl, hg1, hg2, hg3, cG, fG, sG⟩ := hOt.at_ htn
                            have cG1 := cG _ (List.getElem?_eq_getElem htl)
                            have hS := sG x hx64
                            rw [← hN] at hS
                            obtain ⟨v, hv⟩ : ∃ v, (nearS l o k p t)[t] = v := ⟨_, rfl⟩
                            rw [hv] at cG1
                            have HS2 := Lib.hid hS
                            clear hN hx hxo t1 t2 sG cG hS hv htl hto
                            go_wp2
                            exact ⟨⟨t + 1, by omega, by simp, HS2.out, hKt.setCell (by show w1.heap.size ≤ g; omega) _⟩, by simp only [intOf]; omega⟩
                    · obtain rfl : t = n := by omega
                      have hsN := hOt.sl
                      replace h := h.below hKt
                      replace ho := ho.below hKt
                      replace hs1 := hs1.below hKt
                      replace hB := Bel.on0 hB hKt
                      clear hOt hKt
                      go_wp2_with (go_at_call 52; (with_reducible refine (at_eq HAt2.out hsN).mono ?_); rintro e w1 ⟨rfl, hh⟩; ((try first | replace h := SL.below h hh | replace h := SL.on1 h hh | replace h := SL.on2 h hh); (try first | replace ho := SL.below ho hh | replace ho := SL.on1 ho hh | replace ho := SL.on2 ho hh); (try first | replace hs1 := SL.below hs1 hh | replace hs1 := SL.on1 hs1 hh | replace hs1 := SL.on2 hs1 hh); (try first | replace hB := Bel.on0 hB hh | replace hB := Bel.on1 hB hh | replace hB := Bel.on2 hB hh); clear hh))
                      exact ⟨⟨j + 1, by omega, by simp, hs1, h, ho, hB⟩, by simp only [intOf]; omega⟩
              · obtain ⟨y1, y2⟩ := fin d d (.inl ⟨gp, gp2⟩) (.inr (.inr ⟨rfl, rfl, go⟩))
                clear hbt fin
                subst go
                go_wp2
                refine wp_region_ext (by kernel_rfl) (by kernel_rfl) ?_
                repeat (go_big_quiet_step (first | exact Ext.quietS (clip_any _ _)))
                refine wpQuiet_nil ?_
                rintro _ ⟨z, rfl⟩
                replace h := h.below z.h
                replace ho := ho.below z.h
                replace hs1 := hs1.below z.h
                replace hB := Bel.on0 hB z.h
                clear eD eE
                rcases g7 with g7 | g7
                · go_wp2_with (go_at_call 52; (with_reducible refine (at_eq HAt.out h).mono ?_); rintro e w1 ⟨rfl, hh⟩; ((try first | replace h := SL.below h hh | replace h := SL.on1 h hh | replace h := SL.on2 h hh); (try first | replace ho := SL.below ho hh | replace ho := SL.on1 ho hh | replace ho := SL.on2 ho hh); (try first | replace hs1 := SL.below hs1 hh | replace hs1 := SL.on1 hs1 hh | replace hs1 := SL.on2 hs1 hh); (try first | replace hB := Bel.on0 hB hh | replace hB := Bel.on1 hB hh | replace hB := Bel.on2 hB hh); clear hh))
                  exact ⟨⟨j + 1, by omega, by simp, hs1, h, ho, hB⟩, by simp only [intOf]; omega⟩
                · go_wp2_with (first
                    | (go_at_call 52; (with_reducible refine (at_eq HAt.out h).mono ?_); rintro e w1 ⟨rfl, hh⟩; ((try first | replace h := SL.below h hh | replace h := SL.on1 h hh | replace h := SL.on2 h hh); (try first | replace ho := SL.below ho hh | replace ho := SL.on1 ho hh | replace ho := SL.on2 ho hh); (try first | replace hs1 := SL.below hs1 hh | replace hs1 := SL.on1 hs1 hh | replace hs1 := SL.on2 hs1 hh); (try first | replace hB := Bel.on0 hB hh | replace hB := Bel.on1 hB hh | replace hB := Bel.on2 hB hh); clear hh); (obtain ⟨A3, c3, w3, eA, hO3, hB3, _⟩ := (OL.lit w1 (Nat.le_refl w1.heap.size)).app (h.alloc (.cells #[] 3)) (by simp) (by omega)); (rw [Nat.zero_add, List.nil_append] at hO3); (rw [Nat.zero_add] at eA);
                        (have hK3 := ((Below.refl w1.heap.size w1).alloc (Nat.le_refl _) (.cells #[] 3)).trans hB3))
                    | (at_builtin; refine wpList_append_eq rfl _ _ _ rfl rfl rfl eA ?_; clear eA))
                  go_loopw [154] (fun i wi => ∃ t : Nat, t ≤ n ∧ i = .int .i64 t ∧ OL wi w1.heap.size A3 n c3 (nearS l o k p t) ∧ Below w1.heap.size w1 wi) (fun i _ => n - (intOf i).toNat)
                  case atStart => exact ⟨0, Nat.zero_le _, rfl, by rw [nearS_zero]; exact hO3, hK3⟩
                  case round =>
                    clear hO3 hK3 hB3
                    obtain ⟨t, ht, rfl, hOt, hKt⟩ := hrel
                    by_cases htn : t < n
                    · have gt : (t : Int) < n := by omega
                      by_cases t1 : t = k
                      · have hN := nearS_keep (l := l) (o := o) (q := k) (p := p) (k := t) (.inl t1)
                        have f1 : ((t : Int) != (k : Int)) = false := by simp; omega
                        rw [← hN] at hOt
                        clear hN t1
                        go_wp2
                        exact ⟨⟨t + 1, by omega, by simp, hOt, hKt⟩, by simp only [intOf]; omega⟩
                      · have f1 : ((t : Int) != (k : Int)) = true := by simp; omega
                        by_cases t2 : t = p
                        · have hN := nearS_keep (l := l) (o := o) (q := k) (p := p) (k := t) (.inr (.inl t2))
                          have f2 : ((t : Int) != (p : Int)) = false := by simp; omega
                          rw [← hN] at hOt
                          clear hN t1 t2
                          go_wp2
                          exact ⟨⟨t + 1, by omega, by simp, hOt, hKt⟩, by simp only [intOf]; omega⟩
                        · have f2 : ((t : Int) != (p : Int)) = true := by simp; omega
                          by_cases t3 : n' ≤ t
                          · have hN := nearS_keep (l := l) (o := o) (q := k) (p := p) (k := t) (.inr (.inr (by rw [HO.out]; exact t3)))
                            have f3 : (n' : Int) ≤ (t : Int) := by omega
                            rw [← hN] at hOt
                            clear hN t1 t2
                            go_wp2
                            exact ⟨⟨t + 1, by omega, by simp, hOt, hKt⟩, by simp only [intOf]; omega⟩
                          · have f3 : (t : Int) < (n' : Int) := by omega
                            have hto : t < o.length := by rw [HO.out]; omega
                            obtain ⟨bo, oo, rfl, _, cO⟩ := (ho.below hKt).at_ hto
                            have hx64 := ho.i64 _ (List.getElem_mem hto)
                            have hxo : o[t]? = some o[t] := List.getElem?_eq_getElem hto
                            obtain ⟨x, hx⟩ : ∃ x, o[t] = x := ⟨_, rfl⟩
                            rw [hx] at cO hx64 hxo
                            have hN := nearS_set (l := l) (o := o) (q := k) (p := p) (k := t) t1 t2 hxo
                            have htl : t < (nearS l o k p t).length := by rw [nearS_len, HL.out]; exact htn
                            obtain ⟨g, rfl, hg1, hg2, hg3, cG, fG, sG⟩ := hOt.at_ htn
                            have cG1 := cG _ (List.getElem?_eq_getElem htl)
                            have hS := sG x hx64
                            rw [← hN] at hS
                            obtain ⟨v, hv⟩ : ∃ v, (nearS l o k p t)[t] = v := ⟨_, rfl⟩
                            rw [hv] at cG1
                            have HS2 := Lib.hid hS
                            clear hN hx hxo t1 t2 sG cG hS hv htl hto
                            go_wp2
                            exact ⟨⟨t + 1, by omega, by simp, HS2.out, hKt.setCell (by show w1.heap.size ≤ g; omega) _⟩, by simp only [intOf]; omega⟩
                    · obtain rfl : t = n := by omega
                      have hsN := hOt.sl
                      replace h := h.below hKt
                      replace ho := ho.below hKt
                      replace hs1 := hs1.below hKt
                      replace hB := Bel.on0 hB hKt
                      clear hOt hKt
                      go_wp2_with (go_at_call 52; (with_reducible refine (at_eq HAt2.out hsN).mono ?_); rintro e w1 ⟨rfl, hh⟩; ((try first | replace h := SL.below h hh | replace h := SL.on1 h hh | replace h := SL.on2 h hh); (try first | replace ho := SL.below ho hh | replace ho := SL.on1 ho hh | replace ho := SL.on2 ho hh); (try first | replace hs1 := SL.below hs1 hh | replace hs1 := SL.on1 hs1 hh | replace hs1 := SL.on2 hs1 hh); (try first | replace hB := Bel.on0 hB hh | replace hB := Bel.on1 hB hh | replace hB := Bel.on2 hB hh); clear hh))
                      exact ⟨⟨j + 1, by omega, by simp, hs1, h, ho, hB⟩, by simp only [intOf]; omega⟩
            · obtain ⟨y1, y2⟩ := fin d d (.inr ⟨gp, gp2, gp3⟩) (.inr (.inr ⟨rfl, rfl, gp3⟩))
              clear hbt fin
              subst gp3
              go_wp2
              refine wp_region_ext (by kernel_rfl) (by kernel_rfl) ?_
              repeat (go_big_quiet_step (first | exact Ext.quietS (clip_any _ _)))
              refine wpQuiet_nil ?_
              rintro _ ⟨z, rfl⟩
              replace h := h.below z.h
              replace ho := ho.below z.h
              replace hs1 := hs1.below z.h
              replace hB := Bel.on0 hB z.h
              clear eD eE
              rcases g7 with g7 | g7
              · go_wp2_with (go_at_call 52; (with_reducible refine (at_eq HAt.out h).mono ?_); rintro e w1 ⟨rfl, hh⟩; ((try first | replace h := SL.below h hh | replace h := SL.on1 h hh | replace h := SL.on2 h hh); (try first | replace ho := SL.below ho hh | replace ho := SL.on1 ho hh | replace ho := SL.on2 ho hh); (try first | replace hs1 := SL.below hs1 hh | replace hs1 := SL.on1 hs1 hh | replace hs1 := SL.on2 hs1 hh); (try first | replace hB := Bel.on0 hB hh | replace hB := Bel.on1 hB hh | replace hB := Bel.on2 hB hh); clear hh))
                exact ⟨⟨j + 1, by omega, by simp, hs1, h, ho, hB⟩, by simp only [intOf]; omega⟩
              · go_wp2_with (first
                  | (go_at_call 52; (with_reducible refine (at_eq HAt.out h).mono ?_); rintro e w1 ⟨rfl, hh⟩; ((try first | replace h := SL.below h hh | replace h := SL.on1 h hh | replace h := SL.on2 h hh); (try first | replace ho := SL.below ho hh | replace ho := SL.on1 ho hh | replace ho := SL.on2 ho hh); (try first | replace hs1 := SL.below hs1 hh | replace hs1 := SL.on1 hs1 hh | replace hs1 := SL.on2 hs1 hh); (try first | replace hB := Bel.on0 hB hh | replace hB := Bel.on1 hB hh | replace hB := Bel.on2 hB hh); clear hh); (obtain ⟨A3, c3, w3, eA, hO3, hB3, _⟩ := (OL.lit w1 (Nat.le_refl w1.heap.size)).app (h.alloc (.cells #[] 3)) (by simp) (by omega)); (rw [Nat.zero_add, List.nil_append] at hO3); (rw [Nat.zero_add] at eA);
                      (have hK3 := ((Below.refl w1.heap.size w1).alloc (Nat.le_refl _) (.cells #[] 3)).trans hB3))
                  | (at_builtin; refine wpList_append_eq rfl _ _ _ rfl rfl rfl eA ?_; clear eA))
                go_loopw [154] (fun i wi => ∃ t : Nat, t ≤ n ∧ i = .int .i64 t ∧ OL wi w1.heap.size A3 n c3 (nearS l o k p t) ∧ Below w1.heap.size w1 wi) (fun i _ => n - (intOf i).toNat)
                case atStart => exact ⟨0, Nat.zero_le _, rfl, by rw [nearS_zero]; exact hO3, hK3⟩
                case round =>
                  clear hO3 hK3 hB3
                  obtain ⟨t, ht, rfl, hOt, hKt⟩ := hrel
                  by_cases htn : t < n
                  · have gt : (t : Int) < n := by omega
                    by_cases t1 : t = k
                    · have hN := nearS_keep (l := l) (o := o) (q := k) (p := p) (k := t) (.inl t1)
                      have f1 : ((t : Int) != (k : Int)) = false := by simp; omega
                      rw [← hN] at hOt
                      clear hN t1
                      go_wp2
                      exact ⟨⟨t + 1, by omega, by simp, hOt, hKt⟩, by simp only [intOf]; omega⟩
                    · have f1 : ((t : Int) != (k : Int)) = true := by simp; omega
                      by_cases t2 : t = p
                      · have hN := nearS_keep (l := l) (o := o) (q := k) (p := p) (k := t) (.inr (.inl t2))
                        have f2 : ((t : Int) != (p : Int)) = false := by simp; omega
                        rw [← hN] at hOt
                        clear hN t1 t2
                        go_wp2
                        exact ⟨⟨t + 1, by omega, by simp, hOt, hKt⟩, by simp only [intOf]; omega⟩
                      · have f2 : ((t : Int) != (p : Int)) = true := by simp; omega
                        by_cases t3 : n' ≤ t
                        · have hN := nearS_keep (l := l) (o := o) (q := k) (p := p) (k := t) (.inr (.inr (by rw [HO.out]; exact t3)))
                          have f3 : (n' : Int) ≤ (t : Int) := by omega
                          rw [← hN] at hOt
                          clear hN t1 t2
                          go_wp2
                          exact ⟨⟨t + 1, by omega, by simp, hOt, hKt⟩, by simp only [intOf]; omega⟩
                        · have f3 : (t : Int) < (n' : Int) := by omega
                          have hto : t < o.length := by rw [HO.out]; omega
                          obtain ⟨bo, oo, rfl, _, cO⟩ := (ho.below hKt).at_ hto
                          have hx64 := ho.i64 _ (List.getElem_mem hto)
                          have hxo : o[t]? = some o[t] := List.getElem?_eq_getElem hto
                          obtain ⟨x, hx⟩ : ∃ x, o[t] = x := ⟨_, rfl⟩
                          rw [hx] at cO hx64 hxo
                          have hN := nearS_set (l := l) (o := o) (q := k) (p := p) (k := t) t1 t2 hxo
                          have htl : t < (nearS l o k p t).length := by rw [nearS_len, HL.out]; exact htn
                          obtain ⟨g, rfl, hg1, hg2, hg3, cG, fG, sG⟩ := hOt.at_ htn
                          have cG1 := cG _ (List.getElem?_eq_getElem htl)
                          have hS := sG x hx64
                          rw [← hN] at hS
                          obtain ⟨v, hv⟩ : ∃ v, (nearS l o k p t)[t] = v := ⟨_, rfl⟩
                          rw [hv] at cG1
                          have HS2 := Lib.hid hS
                          clear hN hx hxo t1 t2 sG cG hS hv htl hto
                          go_wp2
                          exact ⟨⟨t + 1, by omega, by simp, HS2.out, hKt.setCell (by show w1.heap.size ≤ g; omega) _⟩, by simp only [intOf]; omega⟩
                  · obtain rfl : t = n := by omega
                    have hsN := hOt.sl
                    replace h := h.below hKt
                    replace ho := ho.below hKt
                    replace hs1 := hs1.below hKt
                    replace hB := Bel.on0 hB hKt
                    clear hOt hKt
                    go_wp2_with (go_at_call 52; (with_reducible refine (at_eq HAt2.out hsN).mono ?_); rintro e w1 ⟨rfl, hh⟩; ((try first | replace h := SL.below h hh | replace h := SL.on1 h hh | replace h := SL.on2 h hh); (try first | replace ho := SL.below ho hh | replace ho := SL.on1 ho hh | replace ho := SL.on2 ho hh); (try first | replace hs1 := SL.below hs1 hh | replace hs1 := SL.on1 hs1 hh | replace hs1 := SL.on2 hs1 hh); (try first | replace hB := Bel.on0 hB hh | replace hB := Bel.on1 hB hh | replace hB := Bel.on2 hB hh); clear hh))
                    exact ⟨⟨j + 1, by omega, by simp, hs1, h, ho, hB⟩, by simp only [intOf]; omega⟩
          · obtain rfl : j = q := by omega
            go_wp2
            go_ret
            exact ⟨rfl, hB⟩
      · have hC : convR l a b = ([], 1) := by unfold convR; rw [if_neg (fun h => hs h.1)]
        have HC := Lib.hid hC
        clear hC hs
        go_enter Try.func20, Try.ntmps20
        go_wp2_with (first
          | (go_at_call 48; refine (sane26_any _).mono ?_; rintro e w1 ⟨rfl, hh⟩; ((try first | replace h := SL.below h hh | replace h := SL.on1 h hh | replace h := SL.on2 h hh); (try first | replace ho := SL.below ho hh | replace ho := SL.on1 ho hh | replace ho := SL.on2 ho hh); (try first | replace hs1 := SL.below hs1 hh | replace hs1 := SL.on1 hs1 hh | replace hs1 := SL.on2 hs1 hh); (try first | replace hB := Bel.on0 hB hh | replace hB := Bel.on1 hB hh | replace hB := Bel.on2 hB hh); clear hh))
          | (go_at_call 49; (with_reducible refine (HA.out _).mono ?_); rintro e w1 ⟨rfl, rfl⟩)
          | (go_at_call 49; (with_reducible refine (HA'.out _).mono ?_); rintro e w1 ⟨rfl, rfl⟩)
          | (go_at_call 54; (with_reducible refine (conv_eq HC.out h).mono ?_); rintro e w1 ⟨A1, n1, c1, rfl, hs1, hh⟩; ((try first | replace h := SL.below h hh | replace h := SL.on1 h hh | replace h := SL.on2 h hh); (try first | replace ho := SL.below ho hh | replace ho := SL.on1 ho hh | replace ho := SL.on2 ho hh); (try first | replace hs1 := SL.below hs1 hh | replace hs1 := SL.on1 hs1 hh | replace hs1 := SL.on2 hs1 hh); (try first | replace hB := Bel.on0 hB hh | replace hB := Bel.on1 hB hh | replace hB := Bel.on2 hB hh); clear hh); obtain rfl : 0 = n1 := hs1.n_eq))
        go_ret
        exact ⟨rfl, hB⟩
    · rw [show decide (n' ≤ 60) = false by simpa using hl2] at HA'
      go_enter Try.func20, Try.ntmps20
      go_wp2_with (first
        | (go_at_call 48; refine (sane26_any _).mono ?_; rintro e w1 ⟨rfl, hh⟩; ((try first | replace h := SL.below h hh | replace h := SL.on1 h hh | replace h := SL.on2 h hh); (try first | replace ho := SL.below ho hh | replace ho := SL.on1 ho hh | replace ho := SL.on2 ho hh); (try first | replace hs1 := SL.below hs1 hh | replace hs1 := SL.on1 hs1 hh | replace hs1 := SL.on2 hs1 hh); (try first | replace hB := Bel.on0 hB hh | replace hB := Bel.on1 hB hh | replace hB := Bel.on2 hB hh); clear hh))
        | (go_at_call 49; (with_reducible refine (HA.out _).mono ?_); rintro e w1 ⟨rfl, rfl⟩)
        | (go_at_call 49; (with_reducible refine (HA'.out _).mono ?_); rintro e w1 ⟨rfl, rfl⟩))
      go_ret
      exact ⟨rfl, hB⟩
  · rw [show decide (n ≤ 60) = false by simpa using hl] at HA
    go_enter Try.func20, Try.ntmps20
    go_wp2_with (first
      | (go_at_call 48; refine (sane26_any _).mono ?_; rintro e w1 ⟨rfl, hh⟩; ((try first | replace h := SL.below h hh | replace h := SL.on1 h hh | replace h := SL.on2 h hh); (try first | replace ho := SL.below ho hh | replace ho := SL.on1 ho hh | replace ho := SL.on2 ho hh); (try first | replace hs1 := SL.below hs1 hh | replace hs1 := SL.on1 hs1 hh | replace hs1 := SL.on2 hs1 hh); (try first | replace hB := Bel.on0 hB hh | replace hB := Bel.on1 hB hh | replace hB := Bel.on2 hB hh); clear hh))
      | (go_at_call 49; (with_reducible refine (HA.out _).mono ?_); rintro e w1 ⟨rfl, rfl⟩))
    go_ret
    exact ⟨rfl, hB⟩
end Go.Proofs.Yteljglhfimhmlaa
