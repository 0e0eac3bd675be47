/- Layer 50: ends. -/
import Derived.Test.YtmfdflfjllpceaaZMvM
namespace Go.Proofs.Ytmfdflfjllpceaa
open Go.RowKit

set_option maxHeartbeats 4000000 in
set_option maxRecDepth 100000 in
theorem ends_any (A : Option Addr) (n c : Nat) (l : List Ev) (w : World) (h : SA evE w A n c l) (hI : ∀ e ∈ l, EvI e) (hm : n ≤ 34359738368) :
    Calls Try.prog 37 #[.slice A n c] w fun e w' => ∃ A' n' c', e = .returned (.slice A' n' c') ∧ OA noteE w' w.heap.size A' n' c' (eAt l l.length).notes ∧ Below w.heap.size w w' := by
  have hlen := h.len
  have HL := Lib.hid h.n_eq
  have HS := Lib.hid h
  have HI := Lib.hid hI
  have h0 : EM w (w.alloc (.map #[] 0)) w.heap.size none 0 0 (eAt l 0) := ⟨MB.made NumV w, OA.nil _ _ _, Bel.al (Below.refl _ w) _, by rw [World.size_alloc]; omega⟩
  have hmk : ∀ W, (Instr.makeMap 78 none).run Try.prog W = .ok (.map (some W.heap.size)) (W.alloc (.map #[] 0)) := fun W => run_makeMap _ W
  clear h hI
  go_enter Try.func37, Try.ntmps37
  go_wp2
  go_loopw [2, 12] (fun o i wr => ∃ (k : Nat) (A' : Option Addr) (n' c' : Nat), k ≤ n ∧ i = .int .i64 k ∧ o = .slice A' n' c' ∧ Hid (EM w wr w.heap.size A' n' c' (eAt l k))) (fun _ i _ => n - (intOf i).toNat)
  case atStart => exact ⟨0, none, 0, 0, Nat.zero_le _, rfl, rfl, Lib.hid h0⟩
  case round =>
    clear h0
    obtain ⟨k, A', n', c', hk, rfl, rfl, hE⟩ := hrel
    by_cases hlt : k < n
    · have hkl : k < l.length := by rw [HL.out]; exact hlt
      obtain ⟨s, hs⟩ : ∃ s, l[k] = s := ⟨_, rfl⟩
      have hs' : l[k]? = some s := by rw [List.getElem?_eq_getElem hkl, hs]
      have hSW : SA evE wr A n c l := HS.out.below hE.out.2.2.1
      obtain ⟨b, o, rfl, hb, c0, c1, c2, c3, c4, c5⟩ := ev_at hSW hkl hs
      have hsI : EvI s := HI.out s (List.mem_of_getElem? hs')
      have HSt := Lib.hid (eAt_succ hs')
      obtain ⟨hok, hnk⟩ := eAt_ok l k
      have hnl : n' ≤ 34359738368 := by have := hE.out.2.1.n_eq; omega
      have hnl2 := hE.out.2.1.n_eq
      have HOK := Lib.hid hok
      have g3 : (0 : Int) ≤ (k : Int) := by omega
      have g4 : (k : Int) < (n : Int) := by omega
      clear hs hs' hSW hok hnk
      have hx1 := Blk.new wr 40 (evA s)
      have HX := Lib.hid hx1
      have HsI := Lib.hid hsI
      have hE1 := Lib.hid (hE.out.below ((Below.refl _ wr).alloc (Nat.le_refl _) (.cells (evA s) 40)))
      obtain ⟨t, q, ch, ke, va, no⟩ := s
      dsimp only [evA] at c0 c1 c2 c3 c4 c5 hx1 hE1
      by_cases hq : q = 2
      · subst hq
        have HN := Lib.hid (show EM w (wr.alloc (.cells #[.int .i64 t, .int .i64 2, .int .i64 ch, .int .i64 ke, .int .i64 va, .int .i64 no] 40)) w.heap.size A' n' c' (eAt l (k + 1)) by
          rw [HSt.out]; exact hE1.out)
        clear hx1 hsI hnl hnl2
        go_wp2
        exact ⟨⟨k + 1, A', n', c', by omega, by simp, rfl, HN⟩, by simp only [intOf]; omega⟩
      · have CV := Lib.hid fun W => voiceOf_at t q ch ke va no W
        have hq2 : (q == 2) = false := by simpa using hq
        cases hsd : (eAt l k).snd (ch, ke) with
        | none =>
          have HSD := Lib.hid hsd
          clear hsd
          by_cases hq3 : q = 3
          · subst hq3
            have HN0 := Lib.hid (show eAt l (k + 1) = eOn (eAt l k) k ⟨t, 3, ch, ke, va, no⟩ by
              rw [HSt.out]; unfold eStep
              rw [if_neg hq, if_pos rfl]; unfold eEnd
              rw [show voiceOf ⟨t, 3, ch, ke, va, no⟩ = (ch, ke) from rfl, HSD.out])
            have HNL := Lib.hid hnl
            clear hq hx1 hsI hnl hnl2
            go_wp2_with (first
              | (go_at_call 52; (with_reducible refine (CV.out _).mono ?_); rintro e w1 ⟨rfl, hb1⟩;
                  (have hx := HX.out.belowAll hb1);
                  (have hEw := Lib.hid ((hE1.out.below hb1).below ((Below.refl _ w1).alloc (Nat.le_refl _) (.cells #[.int .i64 ch, .int .i64 ke] 80))));
                  (have d1 : w1.cell? ⟨wr.heap.size, 1, none⟩ = some (.int .i64 3) := hx.cell 1); (have d2 := cell_al d1 (.cells #[.int .i64 ch, .int .i64 ke] 80)); (clear d1);
                  (have eL : (Instr.lookup 78 (.map (some w.heap.size)) (.agg #[.int .i64 ch, .int .i64 ke]) true).run Try.prog (w1.alloc (.cells #[.int .i64 ch, .int .i64 ke] 80)) = .ok (.tuple #[.int .i64 0, .bool false]) (w1.alloc (.cells #[.int .i64 ch, .int .i64 ke] 80)) := (hEw.out.1.look Try.underlying78 (Try.zeroValue3 _) HsI.out.voice).1 HSD.out);
                  (obtain ⟨W3, A2, c2, W4, eU, zU, _, eA, hE4⟩ := hEw.out.on ⟨t, 3, ch, ke, va, no⟩ HsI.out k HNL.out);
                  (rw [zU] at eA);
                  (have HE4 := Lib.hid hE4);
                  (clear hb1 hx hE4))
              | (at_lookup; refine wpList_lookup_eq (v1 := .map (some w.heap.size)) (v2 := .agg #[.int .i64 ch, .int .i64 ke]) rfl (.tmp 23) (.tmp 24) 78 true rfl rfl rfl eL ?_; clear eL)
              | (at_mapUpdate; refine wpList_mapUpdate_eq (v1 := .map (some w.heap.size)) (v2 := .agg #[.int .i64 ch, .int .i64 ke]) (v3 := .int .i64 (n' : Int)) rfl (.tmp 39) (.tmp 40) (.tmp 42) 78 rfl rfl rfl rfl eU ?_; clear eU)
              | (at_builtin; refine wpList_append_eq (v1 := .slice A' n' c') (v2 := .slice (some ⟨W3.heap.size, 0, none⟩) 1 1) rfl (.tmp 43) (.tmp 46) 32 rfl rfl rfl eA ?_; clear eA))
            exact ⟨⟨k + 1, _, _, _, by omega, by simp, rfl, by rw [HN0.out]; exact HE4⟩, by simp only [intOf]; omega⟩
          · have hq4 : (q == 3) = false := by simpa using hq3
            have HN0 := Lib.hid (show eAt l (k + 1) = eAt l k by
              rw [HSt.out]; unfold eStep
              rw [if_neg hq, if_neg hq3]; unfold eEnd
              rw [show voiceOf ⟨t, q, ch, ke, va, no⟩ = (ch, ke) from rfl, HSD.out])
            clear hq hq3 hx1 hsI hnl hnl2
            go_wp2_with (first
              | (go_at_call 52; (with_reducible refine (CV.out _).mono ?_); rintro e w1 ⟨rfl, hb1⟩;
                  (have hx := HX.out.belowAll hb1);
                  (have hEw := Lib.hid ((hE1.out.below hb1).below ((Below.refl _ w1).alloc (Nat.le_refl _) (.cells #[.int .i64 ch, .int .i64 ke] 80))));
                  (have d1 : w1.cell? ⟨wr.heap.size, 1, none⟩ = some (.int .i64 q) := hx.cell 1); (have d2 := cell_al d1 (.cells #[.int .i64 ch, .int .i64 ke] 80)); (clear d1);
                  (have eL : (Instr.lookup 78 (.map (some w.heap.size)) (.agg #[.int .i64 ch, .int .i64 ke]) true).run Try.prog (w1.alloc (.cells #[.int .i64 ch, .int .i64 ke] 80)) = .ok (.tuple #[.int .i64 0, .bool false]) (w1.alloc (.cells #[.int .i64 ch, .int .i64 ke] 80)) := (hEw.out.1.look Try.underlying78 (Try.zeroValue3 _) HsI.out.voice).1 HSD.out);
                  (clear hb1 hx))
              | (at_lookup; refine wpList_lookup_eq (v1 := .map (some w.heap.size)) (v2 := .agg #[.int .i64 ch, .int .i64 ke]) rfl (.tmp 23) (.tmp 24) 78 true rfl rfl rfl eL ?_; clear eL))
            exact ⟨⟨k + 1, _, _, _, by omega, by simp, rfl, by rw [HN0.out]; exact hEw⟩, by simp only [intOf]; omega⟩
        | some p =>
          have HSD := Lib.hid hsd
          have hpn : p < n' := by have := HOK.out _ _ hsd; omega
          have HPN := Lib.hid hpn
          have gp : (0 : Int) ≤ (p : Int) := by omega
          have gpn : (p : Int) < (n' : Int) := by omega
          clear hsd
          by_cases hq3 : q = 3
          · subst hq3
            have HN0 := Lib.hid (show eAt l (k + 1) = eOn (eEnd (eAt l k) k ⟨t, 3, ch, ke, va, no⟩) k ⟨t, 3, ch, ke, va, no⟩ by
              rw [HSt.out]; unfold eStep
              rw [if_neg hq, if_pos rfl])
            have HNL := Lib.hid hnl
            clear hq hx1 hsI hnl hnl2 hpn
            go_wp2_with (first
              | (go_at_call 52; (with_reducible refine (CV.out _).mono ?_); rintro e w1 ⟨rfl, hb1⟩;
                  (have hx := HX.out.belowAll hb1);
                  (have hEw := Lib.hid ((hE1.out.below hb1).below ((Below.refl _ w1).alloc (Nat.le_refl _) (.cells #[.int .i64 ch, .int .i64 ke] 80))));
                  (have d1 : w1.cell? ⟨wr.heap.size, 1, none⟩ = some (.int .i64 3) := hx.cell 1); (have d2 := cell_al d1 (.cells #[.int .i64 ch, .int .i64 ke] 80)); (clear d1);
                  (have eL : (Instr.lookup 78 (.map (some w.heap.size)) (.agg #[.int .i64 ch, .int .i64 ke]) true).run Try.prog (w1.alloc (.cells #[.int .i64 ch, .int .i64 ke] 80)) = .ok (.tuple #[.int .i64 (p : Int), .bool true]) (w1.alloc (.cells #[.int .i64 ch, .int .i64 ke] 80)) := (hEw.out.1.look Try.underlying78 (Try.zeroValue3 _) HsI.out.voice).2 _ HSD.out);
                  (have dv := (Blk.new w1 80 #[.int .i64 ch, .int .i64 ke]));
                  (have dx := hx.alloc (.cells #[.int .i64 ch, .int .i64 ke] 80));
                  (obtain ⟨g, old, W2, hA, zc, zf, eD, zD, hoth, hbg, hE3⟩ := hEw.out.end_ ⟨t, 3, ch, ke, va, no⟩ HsI.out k HSD.out HPN.out);
                  (have hgb : g < w1.heap.size ∧ g ≠ wr.heap.size := by
                    have := (hE1.out.2.1.blk hA).2
                    have h5 := hE.out.2.1.blk hA
                    have h6 := hb1.size
                    rw [World.size_alloc] at this h6
                    dsimp only at this h5
                    exact ⟨by omega, by omega⟩);
                  (have hwb : w.heap.size ≠ w1.heap.size ∧ w.heap.size ≠ wr.heap.size := by
                    have h5 := hE.out.1.lt
                    have h6 := hb1.size
                    rw [World.size_alloc] at h6
                    exact ⟨by omega, by omega⟩);
                  (have dv3 : Blk W2 w1.heap.size 80 #[.int .i64 ch, .int .i64 ke] := (hoth _ (Ne.symm hwb.1) (by omega)).trans dv);
                  (have dx3 : Blk W2 wr.heap.size 40 (evA ⟨t, 3, ch, ke, va, no⟩) := (hoth _ (Ne.symm hwb.2) (Ne.symm hgb.2)).trans dx);
                  (have k0 : W2.cell? ⟨w1.heap.size, 0, none⟩ = some (.int .i64 ch) := dv3.cell 0);
                  (have k1 : W2.cell? ⟨w1.heap.size, 1, none⟩ = some (.int .i64 ke) := dv3.cell 1);
                  (have k2 : W2.cell? ⟨wr.heap.size, 1, none⟩ = some (.int .i64 3) := dx3.cell 1);
                  (have j0 : ((w1.alloc (.cells #[.int .i64 ch, .int .i64 ke] 80)).setCell ⟨g, p * 2 + 1, none⟩ (.int .i64 (k : Int))).cell? ⟨w1.heap.size, 0, none⟩ = some (.int .i64 ch) := (dv.far (p := ⟨g, p * 2 + 1, none⟩) (by show w1.heap.size ≠ g; omega) _).cell 0);
                  (have j1 : ((w1.alloc (.cells #[.int .i64 ch, .int .i64 ke] 80)).setCell ⟨g, p * 2 + 1, none⟩ (.int .i64 (k : Int))).cell? ⟨w1.heap.size, 1, none⟩ = some (.int .i64 ke) := (dv.far (p := ⟨g, p * 2 + 1, none⟩) (by show w1.heap.size ≠ g; omega) _).cell 1);
                  (subst hA);
                  (obtain ⟨W3, A2, c2, W4, eU, zU, _, eA, hE4⟩ := hE3.on ⟨t, 3, ch, ke, va, no⟩ HsI.out k HNL.out);
                  (rw [zU] at eA);
                  (have HE4 := Lib.hid hE4);
                  (clear hb1 hx hE4 dv dx dv3 dx3 hoth hgb hwb hbg zD))
              | (at_lookup; refine wpList_lookup_eq (v1 := .map (some w.heap.size)) (v2 := .agg #[.int .i64 ch, .int .i64 ke]) rfl (.tmp 23) (.tmp 24) 78 true rfl rfl rfl eL ?_; clear eL)
              | (at_delete; refine wpList_delete_eq (v1 := .map (some w.heap.size)) (v2 := .agg #[.int .i64 ch, .int .i64 ke]) rfl (.tmp 34) (.tmp 35) 78 80 rfl rfl rfl (eD _) ?_; clear eD)
              | (at_mapUpdate; refine wpList_mapUpdate_eq (v1 := .map (some w.heap.size)) (v2 := .agg #[.int .i64 ch, .int .i64 ke]) (v3 := .int .i64 (n' : Int)) rfl (.tmp 39) (.tmp 40) (.tmp 42) 78 rfl rfl rfl rfl eU ?_; clear eU)
              | (at_builtin; refine wpList_append_eq (v1 := .slice (some ⟨g, 0, none⟩) n' c') (v2 := .slice (some ⟨W3.heap.size, 0, none⟩) 1 1) rfl (.tmp 43) (.tmp 46) 32 rfl rfl rfl eA ?_; clear eA))
            exact ⟨⟨k + 1, _, _, _, by omega, by simp, rfl, by rw [HN0.out]; exact HE4⟩, by simp only [intOf]; omega⟩
          · have hq4 : (q == 3) = false := by simpa using hq3
            have HN0 := Lib.hid (show eAt l (k + 1) = eEnd (eAt l k) k ⟨t, q, ch, ke, va, no⟩ by
              rw [HSt.out]; unfold eStep
              rw [if_neg hq, if_neg hq3])
            clear hq hq3 hx1 hsI hnl hnl2 hpn
            go_wp2_with (first
              | (go_at_call 52; (with_reducible refine (CV.out _).mono ?_); rintro e w1 ⟨rfl, hb1⟩;
                  (have hx := HX.out.belowAll hb1);
                  (have hEw := Lib.hid ((hE1.out.below hb1).below ((Below.refl _ w1).alloc (Nat.le_refl _) (.cells #[.int .i64 ch, .int .i64 ke] 80))));
                  (have d1 : w1.cell? ⟨wr.heap.size, 1, none⟩ = some (.int .i64 q) := hx.cell 1); (have d2 := cell_al d1 (.cells #[.int .i64 ch, .int .i64 ke] 80)); (clear d1);
                  (have eL : (Instr.lookup 78 (.map (some w.heap.size)) (.agg #[.int .i64 ch, .int .i64 ke]) true).run Try.prog (w1.alloc (.cells #[.int .i64 ch, .int .i64 ke] 80)) = .ok (.tuple #[.int .i64 (p : Int), .bool true]) (w1.alloc (.cells #[.int .i64 ch, .int .i64 ke] 80)) := (hEw.out.1.look Try.underlying78 (Try.zeroValue3 _) HsI.out.voice).2 _ HSD.out);
                  (have dv := (Blk.new w1 80 #[.int .i64 ch, .int .i64 ke]));
                  (have dx := hx.alloc (.cells #[.int .i64 ch, .int .i64 ke] 80));
                  (obtain ⟨g, old, W2, hA, zc, zf, eD, zD, hoth, hbg, hE3⟩ := hEw.out.end_ ⟨t, q, ch, ke, va, no⟩ HsI.out k HSD.out HPN.out);
                  (have hgb : g < w1.heap.size ∧ g ≠ wr.heap.size := by
                    have := (hE1.out.2.1.blk hA).2
                    have h5 := hE.out.2.1.blk hA
                    have h6 := hb1.size
                    rw [World.size_alloc] at this h6
                    dsimp only at this h5
                    exact ⟨by omega, by omega⟩);
                  (have hwb : w.heap.size ≠ w1.heap.size ∧ w.heap.size ≠ wr.heap.size := by
                    have h5 := hE.out.1.lt
                    have h6 := hb1.size
                    rw [World.size_alloc] at h6
                    exact ⟨by omega, by omega⟩);
                  (have dx3 : Blk W2 wr.heap.size 40 (evA ⟨t, q, ch, ke, va, no⟩) := (hoth _ (Ne.symm hwb.2) (Ne.symm hgb.2)).trans dx);
                  (have k2 : W2.cell? ⟨wr.heap.size, 1, none⟩ = some (.int .i64 q) := dx3.cell 1);
                  (have j0 : ((w1.alloc (.cells #[.int .i64 ch, .int .i64 ke] 80)).setCell ⟨g, p * 2 + 1, none⟩ (.int .i64 (k : Int))).cell? ⟨w1.heap.size, 0, none⟩ = some (.int .i64 ch) := (dv.far (p := ⟨g, p * 2 + 1, none⟩) (by show w1.heap.size ≠ g; omega) _).cell 0);
                  (have j1 : ((w1.alloc (.cells #[.int .i64 ch, .int .i64 ke] 80)).setCell ⟨g, p * 2 + 1, none⟩ (.int .i64 (k : Int))).cell? ⟨w1.heap.size, 1, none⟩ = some (.int .i64 ke) := (dv.far (p := ⟨g, p * 2 + 1, none⟩) (by show w1.heap.size ≠ g; omega) _).cell 1);
                  (subst hA);
                  (have HE3 := Lib.hid hE3);
                  (clear hb1 hx hE3 dv dx dx3 hoth hgb hwb hbg zD))
              | (at_lookup; refine wpList_lookup_eq (v1 := .map (some w.heap.size)) (v2 := .agg #[.int .i64 ch, .int .i64 ke]) rfl (.tmp 23) (.tmp 24) 78 true rfl rfl rfl eL ?_; clear eL)
              | (at_delete; refine wpList_delete_eq (v1 := .map (some w.heap.size)) (v2 := .agg #[.int .i64 ch, .int .i64 ke]) rfl (.tmp 34) (.tmp 35) 78 80 rfl rfl rfl (eD _) ?_; clear eD))
            exact ⟨⟨k + 1, _, _, _, by omega, by simp, rfl, by rw [HN0.out]; exact HE3⟩, by simp only [intOf]; omega⟩
    · obtain rfl : k = n := by omega
      have HN := Lib.hid (show eAt l k = eAt l l.length by rw [HL.out])
      go_wp2
      go_ret
      exact ⟨A', n', c', rfl, by rw [← HN.out]; exact hE.out.2.1.mono (by omega), hE.out.2.2.1⟩
end Go.Proofs.Ytmfdflfjllpceaa
