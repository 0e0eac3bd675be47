/- The walk of FadesBetween (layer 27). -/
import Derived.Test.YteljglhfimhmlaaW27b
import Derived.Test.YteljglhfimhmlaaPlainEqual
import Derived.Test.YteljglhfimhmlaaFixedD
namespace Go.Proofs.Yteljglhfimhmlaa
open Go.RowKit

theorem gainS_range {i n : Int} (h1 : 0 ≤ i) (h2 : i < n) : 0 ≤ gainS i n ∧ gainS i n ≤ 65536 := ⟨(gains_sum h1 h2).1, (gains_sum h1 h2).2.1⟩
theorem gainS_mono {i n : Int} (h2 : 0 ≤ n) : gainS i n ≤ gainS (i + 1) n := by
  unfold gainS
  exact Int.ediv_le_ediv (by omega) (by omega)
theorem clipS_i32 (x : Int) : -2147483648 ≤ clipS x ∧ clipS x ≤ 2147483647 := clipS_bd x
theorem mulS_eq {x g : Int} (h1 : 0 ≤ g) (h2 : g ≤ 65536) : mulS x g = clipS x * g / 65536 ∧ (0 ≤ clipS x → 0 ≤ mulS x g ∧ mulS x g ≤ clipS x) ∧ (clipS x < 0 → clipS x ≤ mulS x g ∧ mulS x g ≤ 0) := by
  have hb := clipS_i32 x
  obtain ⟨v, hv⟩ : ∃ v, clipS x = v := ⟨_, rfl⟩
  have m1 : mulS x g = clipS (v * g / 65536) := by unfold mulS; rw [hv, clipS_in (x := g) (by omega) (by omega)]
  rw [hv] at hb
  have b : (0 ≤ v → 0 ≤ v * g ∧ v * g ≤ v * 65536) ∧ (v < 0 → v * 65536 ≤ v * g ∧ v * g ≤ 0) :=
    ⟨fun h => ⟨Int.mul_nonneg h h1, Int.mul_le_mul_of_nonneg_left h2 h⟩, fun h => ⟨Int.mul_le_mul_of_nonpos_left (by omega) h2, Int.mul_nonpos_of_nonpos_of_nonneg (by omega) h1⟩⟩
  rw [m1, hv]
  obtain ⟨p, hp⟩ : ∃ p, v * g = p := ⟨_, rfl⟩
  rw [hp] at b ⊢
  rw [clipS_in (x := p / 65536) (by omega) (by omega)]
  omega
theorem mulS_mono {x g g' : Int} (h1 : 0 ≤ g) (hg : g ≤ g') (h2 : g' ≤ 65536) : (0 ≤ clipS x → mulS x g ≤ mulS x g') ∧ (clipS x < 0 → mulS x g' ≤ mulS x g) := by
  rw [(mulS_eq (x := x) h1 (by omega)).1, (mulS_eq (x := x) (g := g') (by omega) h2).1]
  exact ⟨fun h => Int.ediv_le_ediv (by omega) (Int.mul_le_mul_of_nonneg_left hg h), fun h => Int.ediv_le_ediv (by omega) (Int.mul_le_mul_of_nonpos_left (by omega) hg)⟩

set_option maxHeartbeats 20000000 in
set_option maxRecDepth 100000 in
theorem walkFadesBetween (A : Option Addr) (n c : Nat) (l : List Int) (m : Int) (w : World) (h : SL w A n c l) (hm : I64 m) :
    Calls Try.prog 13 #[.slice A n c, .int .i64 m] w fun e w' => e = .returned (.bool true) ∧ Below w.heap.size w w' := by
  have HA := Lib.hid (fun w => few_any A n c w h.len)
  have hB := Below.refl w.heap.size w
  obtain ⟨hm1, hm2⟩ := hm
  by_cases hn : n ≤ 1000
  · rw [show decide (n ≤ 1000) = true by simpa using hn] at HA
    have LA := Lib.hid h.n_eq
    cases hra : rightB n m with
    | false =>
      have hI : inR l m = ([], 1) := by unfold inR; rw [LA.out, hra]; rfl
      have hc : m < 0 ∨ (0 ≤ m ∧ (n : Int) < m) := by unfold rightB at hra; simp at hra; omega
      rcases hc with hc | ⟨hc, hc2⟩
      all_goals
        go_enter Try.func13, Try.ntmps13
        go_wp2_with (first
          | (go_at_call 36; refine (sane27_any _).mono ?_; rintro e w1 ⟨rfl, hh⟩; ((try first | replace h := SL.below h hh | replace h := SL.on1 h hh | replace h := SL.on2 h hh); (try first | replace hs1 := SL.below hs1 hh | replace hs1 := SL.on1 hs1 hh | replace hs1 := SL.on2 hs1 hh); (try first | replace hB := Bel.on0 hB hh | replace hB := Bel.on1 hB hh | replace hB := Bel.on2 hB hh); clear hh))
          | (go_at_call 39; (with_reducible refine (HA.out _).mono ?_); rintro e w1 ⟨rfl, rfl⟩)
          | (go_at_call 40; refine (in_eq hI h).mono ?_; rintro e w1 ⟨A1, n1, c1, rfl, hs1, hh⟩; ((try first | replace h := SL.below h hh | replace h := SL.on1 h hh | replace h := SL.on2 h hh); (try first | replace hs1 := SL.below hs1 hh | replace hs1 := SL.on1 hs1 hh | replace hs1 := SL.on2 hs1 hh); (try first | replace hB := Bel.on0 hB hh | replace hB := Bel.on1 hB hh | replace hB := Bel.on2 hB hh); clear hh); obtain rfl : n1 = 0 := by simpa using hs1.n_eq.symm))
        go_ret
        exact ⟨rfl, hB⟩
    | true =>
      obtain ⟨_, h2, h3, h4⟩ := rightB_spec hra
      obtain ⟨q, hq⟩ : ∃ q, m.toNat = q := ⟨_, rfl⟩
      rw [hq] at h3 h4
      subst h4
      have hI : inR l q = (fadeInS l q, 0) := by unfold inR; rw [LA.out, hra]; rfl
      have lX : (fadeInS l q).length = n := by rw [fadeInS, upd_len, LA.out]
      have HI := Lib.hid hI
      clear hI hra
      have k53 : decide (n < q) = false := by simp; omega
      have k54 : decide ((n : Int) < (q : Int)) = false := by simp; omega
      go_enter Try.func13, Try.ntmps13
      go_wp2_with (first
        | (go_at_call 36; refine (sane27_any _).mono ?_; rintro e w1 ⟨rfl, hh⟩; ((try first | replace h := SL.below h hh | replace h := SL.on1 h hh | replace h := SL.on2 h hh); (try first | replace hs1 := SL.below hs1 hh | replace hs1 := SL.on1 hs1 hh | replace hs1 := SL.on2 hs1 hh); (try first | replace hB := Bel.on0 hB hh | replace hB := Bel.on1 hB hh | replace hB := Bel.on2 hB hh); clear hh))
        | (go_at_call 39; (with_reducible refine (HA.out _).mono ?_); rintro e w1 ⟨rfl, rfl⟩)
        | (go_at_call 40; refine (in_eq HI.out h).mono ?_; rintro e w1 ⟨A1, n1, c1, rfl, hs1, hh⟩; ((try first | replace h := SL.below h hh | replace h := SL.on1 h hh | replace h := SL.on2 h hh); (try first | replace hs1 := SL.below hs1 hh | replace hs1 := SL.on1 hs1 hh | replace hs1 := SL.on2 hs1 hh); (try first | replace hB := Bel.on0 hB hh | replace hB := Bel.on1 hB hh | replace hB := Bel.on2 hB hh); clear hh); obtain rfl : n = n1 := by (have := hs1.n_eq; omega)))
      go_loopw [57] (fun i wr => ∃ k : Nat, k ≤ n ∧ i = .int .i64 k ∧ SL wr A n c l ∧ SL wr A1 n c1 (fadeInS l q) ∧ Below w.heap.size w wr) (fun i _ => n - (intOf i).toNat)
      case atStart => exact ⟨0, Nat.zero_le _, rfl, h, hs1, hB⟩
      case round =>
        clear hs1 h hB
        obtain ⟨i, hi, rfl, h, hs1, hB⟩ := hrel
        by_cases hlt : i < n
        · have hl : i < l.length := by rw [LA.out]; exact hlt
          have hx : i < (fadeInS l q).length := by rw [lX]; exact hlt
          obtain ⟨b1, o1, rfl, _, cD⟩ := h.at_ hl
          obtain ⟨b2, o2, rfl, _, cX⟩ := hs1.at_ hx
          obtain ⟨d, hd⟩ : ∃ d, l[i] = d := ⟨_, rfl⟩
          rw [hd] at cD
          have hld : l[i]? = some d := by rw [List.getElem?_eq_getElem hl, hd]
          have hg := fadeIn_get (m := q) hld
          rw [List.getElem?_eq_getElem hx] at hg
          injection hg with hg
          rw [hg] at cX
          by_cases hiq : i < q
          · rw [if_pos hiq] at cX
            obtain ⟨g1, g2⟩ := gainS_range (i := i) (n := q) (by omega) (by omega)
            obtain ⟨_, e1, e2⟩ := mulS_eq (x := d) g1 g2
            have hv := clipS_i32 d
            obtain ⟨v, hv0⟩ : ∃ v, clipS d = v := ⟨_, rfl⟩
            obtain ⟨y, hy0⟩ : ∃ y, mulS d (gainS i q) = y := ⟨_, rfl⟩
            rw [hv0] at hv e1 e2
            rw [hy0] at e1 e2 cX
            have k1 : (i : Int) < (q : Int) := by omega
            have k2 : (i : Int) < (n : Int) := by omega
            obtain ⟨hv1, hv2⟩ := hv
            have fin : ∀ nq, (∃ k : Nat, k ≤ n ∧ Value.int .i64 ((i : Int) + 1) = .int .i64 k ∧ SL (wr.drewN nq) (some ⟨b1, o1, none⟩) n c l ∧ SL (wr.drewN nq) (some ⟨b2, o2, none⟩) n c1 (fadeInS l q) ∧ Below w.heap.size w (wr.drewN nq)) ∧ n - (intOf (.int .i64 ((i : Int) + 1))).toNat < n - (intOf (.int .i64 (i : Int))).toNat := by
              intro nq
              exact ⟨⟨i + 1, by omega, by simp, h.below (below_drewN (Below.refl _ _) nq), hs1.below (below_drewN (Below.refl _ _) nq), below_drewN hB nq⟩, by simp only [intOf]; omega⟩
            have FIN := Lib.hid fin
            have hd2 : i = 0 ∨ (0 < i ∧ ∃ d2, l[i - 1]? = some d2 ∧ d2 ≠ d ∧ wr.cell? ⟨b1, o1 + (i - 1), none⟩ = some (.int .i64 d2)) ∨
                (0 < i ∧ wr.cell? ⟨b1, o1 + (i - 1), none⟩ = some (.int .i64 d) ∧ ∃ y2, wr.cell? ⟨b2, o2 + (i - 1), none⟩ = some (.int .i64 y2) ∧ (0 ≤ v → y2 ≤ y) ∧ (v < 0 → y ≤ y2)) := by
              rcases Nat.eq_zero_or_pos i with h0 | h0
              · exact .inl h0
              · have hl2 : i - 1 < l.length := by omega
                have hx2 : i - 1 < (fadeInS l q).length := by rw [lX]; omega
                obtain ⟨b3, o3, e3, _, cD3⟩ := h.at_ hl2
                obtain ⟨b4, o4, e4, _, cX4⟩ := hs1.at_ hx2
                cases e3; cases e4
                by_cases he : l[i - 1] = d
                · refine .inr (.inr ⟨h0, by rw [he] at cD3; exact cD3, _, cX4, ?_⟩)
                  have hg2 := fadeIn_get (m := q) (show l[i - 1]? = some d by rw [List.getElem?_eq_getElem hl2, he])
                  rw [List.getElem?_eq_getElem hx2, if_pos (by omega)] at hg2
                  injection hg2 with hg2
                  rw [hg2]
                  obtain ⟨z1, z2⟩ := gainS_range (i := ((i - 1 : Nat) : Int)) (n := q) (by omega) (by omega)
                  have hmo := mulS_mono (x := d) (g := gainS ((i - 1 : Nat) : Int) q) (g' := gainS i q) z1 (by have := gainS_mono (i := ((i - 1 : Nat) : Int)) (n := q) (by omega); rwa [show ((i - 1 : Nat) : Int) + 1 = i by omega] at this) g2
                  rw [hv0, hy0] at hmo
                  exact hmo
                · exact .inr (.inl ⟨h0, _, List.getElem?_eq_getElem hl2, he, cD3⟩)
            have hsub : 0 < i → ∃ p : Nat, (i : Int) - 1 = p ∧ i - 1 = p := fun h => ⟨i - 1, by omega, rfl⟩
            clear fin hld hg hd g1 g2
            have HSub := Lib.hid hsub
            have HE1 := Lib.hid e1
            have HE2 := Lib.hid e2
            clear hsub e1 e2
            rcases Int.lt_or_le v 0 with hv3 | hv3
            · obtain ⟨e3, e4⟩ := HE2.out hv3
              rcases hd2 with hz | ⟨hz, d2, _, hne, cD2⟩ | ⟨hz, cD2, y2, cY2, _, hm2⟩
              · have k0 : decide ((0 : Int) < (i : Int)) = false := by simp; omega
                have k00 : decide (0 < i) = false := by simp; omega
                clear hz
                go_wp2_with (go_at_call 24; refine (clip_any _ _).mono ?_; rintro e w1 ⟨rfl, rfl⟩; rw [hv0])
                (refine wp_region_quiet_lit (by kernel_rfl) (by kernel_rfl) ?_
                 repeat (go_big_quiet_step (fail))
                 first | (refine wpQuiet_nil ?_; intro _ hw'; obtain ⟨nq, hw''⟩ := hw'; subst hw'') | (go_big_quiet_want; go_big_quiet_op) | fail)
                go_wp2
                exact FIN.out _
              · obtain ⟨p, hp1, hp2⟩ := HSub.out hz
                rw [hp2] at cD2
                have k0 : decide ((0 : Int) < (i : Int)) = true := by simp; omega
                have k00 : decide (0 < i) = true := by simp; omega
                have k3 : (0 : Int) ≤ (p : Int) ∧ (p : Int) < (n : Int) := by omega
                obtain ⟨k3, k4⟩ := k3
                have k5 : IntKind.i64.wrap (p : Int) = p := IntWalk.i64_in _ (by omega)
                have k6 : (d == d2) = false := by simp; exact fun h => hne h.symm
                clear hz hp2 hne
                go_wp2_with (go_at_call 24; refine (clip_any _ _).mono ?_; rintro e w1 ⟨rfl, rfl⟩; rw [hv0])
                (refine wp_region_quiet_lit (by kernel_rfl) (by kernel_rfl) ?_
                 repeat (go_big_quiet_step (fail))
                 first | (refine wpQuiet_nil ?_; intro _ hw'; obtain ⟨nq, hw''⟩ := hw'; subst hw'') | (go_big_quiet_want; go_big_quiet_op) | fail)
                go_wp2
                exact FIN.out _
              · obtain ⟨p, hp1, hp2⟩ := HSub.out hz
                rw [hp2] at cD2 cY2
                have k0 : decide ((0 : Int) < (i : Int)) = true := by simp; omega
                have k00 : decide (0 < i) = true := by simp; omega
                have k3 : (0 : Int) ≤ (p : Int) ∧ (p : Int) < (n : Int) := by omega
                obtain ⟨k3, k4⟩ := k3
                have k5 : IntKind.i64.wrap (p : Int) = p := IntWalk.i64_in _ (by omega)
                have k6 := hm2 hv3
                have k7 : decide (y2 < y) = false := by simp; omega
                have k8 : decide (0 ≤ v) = false := by simp; omega
                have k9 : decide (v < 0) = true := by simp; omega
                clear hz hp2 hm2
                go_wp2_with (go_at_call 24; refine (clip_any _ _).mono ?_; rintro e w1 ⟨rfl, rfl⟩; rw [hv0])
                go_quiet (fail)
                go_wp2
                exact FIN.out _
            · obtain ⟨e3, e4⟩ := HE1.out hv3
              rcases hd2 with hz | ⟨hz, d2, _, hne, cD2⟩ | ⟨hz, cD2, y2, cY2, hm2, _⟩
              · have k0 : decide ((0 : Int) < (i : Int)) = false := by simp; omega
                have k00 : decide (0 < i) = false := by simp; omega
                clear hz
                go_wp2_with (go_at_call 24; refine (clip_any _ _).mono ?_; rintro e w1 ⟨rfl, rfl⟩; rw [hv0])
                all_goals go_quiet (fail)
                all_goals go_wp2
                all_goals exact FIN.out _
              · obtain ⟨p, hp1, hp2⟩ := HSub.out hz
                rw [hp2] at cD2
                have k0 : decide ((0 : Int) < (i : Int)) = true := by simp; omega
                have k00 : decide (0 < i) = true := by simp; omega
                have k3 : (0 : Int) ≤ (p : Int) ∧ (p : Int) < (n : Int) := by omega
                obtain ⟨k3, k4⟩ := k3
                have k5 : IntKind.i64.wrap (p : Int) = p := IntWalk.i64_in _ (by omega)
                have k6 : (d == d2) = false := by simp; exact fun h => hne h.symm
                clear hz hp2 hne
                go_wp2_with (go_at_call 24; refine (clip_any _ _).mono ?_; rintro e w1 ⟨rfl, rfl⟩; rw [hv0])
                all_goals go_quiet (fail)
                all_goals go_wp2
                all_goals exact FIN.out _
              · obtain ⟨p, hp1, hp2⟩ := HSub.out hz
                rw [hp2] at cD2 cY2
                have k0 : decide ((0 : Int) < (i : Int)) = true := by simp; omega
                have k00 : decide (0 < i) = true := by simp; omega
                have k3 : (0 : Int) ≤ (p : Int) ∧ (p : Int) < (n : Int) := by omega
                obtain ⟨k3, k4⟩ := k3
                have k5 : IntKind.i64.wrap (p : Int) = p := IntWalk.i64_in _ (by omega)
                have k6 := hm2 hv3
                have k7 : decide (y < y2) = false := by simp; omega
                have k8 : decide (v < 0) = false := by simp; omega
                have k9 : decide (0 ≤ v) = true := by simp; omega
                clear hz hp2 hm2
                go_wp2_with (go_at_call 24; refine (clip_any _ _).mono ?_; rintro e w1 ⟨rfl, rfl⟩; rw [hv0])
                all_goals go_quiet (fail)
                all_goals go_wp2
                all_goals exact FIN.out _
          · rw [if_neg hiq] at cX
            have k1 : (q : Int) ≤ (i : Int) := by omega
            have k2 : (i : Int) < (n : Int) := by omega
            clear hd hld hg
            go_wp2
            exact ⟨⟨i + 1, by omega, by simp, h, hs1, hB⟩, by simp only [intOf]; omega⟩
        · obtain rfl : i = n := by omega
          go_wp2
          go_ret
          exact ⟨rfl, hB⟩
  · rw [show decide (n ≤ 1000) = false by simpa using hn] at HA
    have k1 : (1000 : Int) < n := by omega
    go_enter Try.func13, Try.ntmps13
    go_wp2_with (first
      | (go_at_call 36; refine (sane27_any _).mono ?_; rintro e w1 ⟨rfl, hh⟩; ((try first | replace h := SL.below h hh | replace h := SL.on1 h hh | replace h := SL.on2 h hh); (try first | replace hs1 := SL.below hs1 hh | replace hs1 := SL.on1 hs1 hh | replace hs1 := SL.on2 hs1 hh); (try first | replace hB := Bel.on0 hB hh | replace hB := Bel.on1 hB hh | replace hB := Bel.on2 hB hh); clear hh))
      | (go_at_call 39; (with_reducible refine (HA.out _).mono ?_); rintro e w1 ⟨rfl, rfl⟩))
    go_ret
    exact ⟨rfl, hB⟩
end Go.Proofs.Yteljglhfimhmlaa
