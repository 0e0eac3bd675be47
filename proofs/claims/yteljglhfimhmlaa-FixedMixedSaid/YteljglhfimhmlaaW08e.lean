/- The walk of FixedMixed (layer 8). -/
import Derived.Test.YteljglhfimhmlaaSane08
import Derived.Test.YteljglhfimhmlaaPlainMixed
import Derived.Test.YteljglhfimhmlaaPlainFadesB
import Derived.Test.YteljglhfimhmlaaLit
import Derived.Test.YteljglhfimhmlaaTail
import Derived.Deep.RegionHeld3
import Derived.Deep.DrawnRows
namespace Go.Proofs.Yteljglhfimhmlaa
open Go.RowKit
attribute [local go_sem ↓] Go.wp_at_zero Go.wp_at_succ

theorem mix_eq {A : Option Addr} {n c : Nat} {l : List Int} {y : Int} {w : World} (e : mixS l = y) (h : SL w A n c l) (hn : n ≤ 1048576) : Calls Try.prog 30 #[.slice A n c] w fun e w' => e = .returned (.int .i64 y) ∧ Below w.heap.size w w' := by
  have := mix_any A n c l w h hn; rw [e] at this; exact this
/-- A literal of the call's own. -/
theorem OL.litL {w : World} {B n : Nat} (l : List Int) (cs : Array Value) (hB : B ≤ w.heap.size) (hn : l.length = n) (hcs : cs = (l.map vint).toArray) (hm : n ≤ 1000000) (hf : ∀ x ∈ l, I64 x) :
    OL (w.alloc (.cells cs 3)) B (some ⟨w.heap.size, 0, none⟩) n n l := by
  subst hn hcs
  exact ⟨⟨by simp, .inr ⟨w.heap.size, l.length, (l.map vint).toArray, rfl, hB, Blk.new w _ _, Nat.le_refl _, by simp [maxLen]; omega, by simp, by simp [List.take_of_length_le]⟩⟩, hf⟩

set_option maxHeartbeats 8000000 in
set_option maxRecDepth 100000 in
theorem walkFixedMixed (A : Option Addr) (n c : Nat) (l : List Int) (t x : Int) (w : World) (h : SL w A n c l) (ht : 0 ≤ t ∧ t ≤ 65535) (hx : I64 x) :
    Calls Try.prog 6 #[.slice A n c, .int .u16 t, .int .i64 x] w fun e w' => e = .returned (.bool true) ∧ Below w.heap.size w w' := by
  have hlen := h.len
  have HL := Lib.hid h.n_eq
  have hB := Below.refl w.heap.size w
  obtain ⟨ht1, ht2⟩ := ht
  obtain ⟨hx1, hx2⟩ := hx
  by_cases hn : n ≤ 300
  · have hn' : (n : Int) ≤ 300 := by omega
    obtain ⟨y, hy⟩ : ∃ y, mixS l = y := ⟨_, rfl⟩
    have hyb := mixS_bd l
    rw [hy] at hyb
    obtain ⟨hy1, hy2⟩ := hyb
    have HY := Lib.hid hy
    clear hy
    have h0 := Lib.hid h
    go_enter Try.func6, Try.ntmps6
    go_wp2_with (first
      | (go_at_call 23; refine (sane08_any _).mono ?_; rintro e w1 ⟨rfl, hh⟩; ((try first | replace h := SL.below h hh | replace h := SL.on1 h hh | replace h := SL.on2 h hh); (try first | replace hB := Bel.on0 hB hh | replace hB := Bel.on1 hB hh | replace hB := Bel.on2 hB hh); clear hh))
      | (go_at_call 30; (with_reducible refine (mix_eq HY.out h (by omega)).mono ?_); rintro e w2 ⟨rfl, hh⟩; ((try first | replace h := SL.below h hh | replace h := SL.on1 h hh | replace h := SL.on2 h hh); (try first | replace hB := Bel.on0 hB hh | replace hB := Bel.on1 hB hh | replace hB := Bel.on2 hB hh); clear hh)))
    clear h
    go_loopw [8, 9] (fun o i wr => ∃ k A' c', k ≤ n ∧ i = .int .i64 ((n : Int) - 1 - (k : Nat)) ∧ o = .slice A' k c' ∧ OL wr w.heap.size A' k c' (l.reverse.take k) ∧ Below w.heap.size w wr) (fun _ i _ => (intOf i + 1).toNat)
    case atStart => exact ⟨0, none, 0, Nat.zero_le _, by simp, rfl, OL.nil _ _, hB⟩
    case round =>
      clear hB
      obtain ⟨k, A', c', hk, rfl, rfl, hOw, hbel⟩ := hrel
      by_cases hlt : k < n
      · obtain ⟨p, hp⟩ : ∃ p : Nat, n - 1 - k = p := ⟨_, rfl⟩
        have g4 : (n : Int) - 1 - (k : Int) = (p : Int) := by omega
        rw [g4]
        have hpl : p < l.length := by rw [HL.out]; omega
        have g6 : (p : Int) < (n : Int) := by omega
        have g5 : (0 : Int) ≤ (p : Int) := by omega
        obtain ⟨b, o, rfl, hb, cA⟩ := (h0.out.below hbel).at_ hpl
        obtain ⟨v, hv⟩ : ∃ v, l[p] = v := ⟨_, rfl⟩
        rw [hv] at cA
        have hv64 : I64 v := by rw [← hv]; exact h0.out.i64 _ (List.getElem_mem hpl)
        have hrev : l.reverse.take (k + 1) = l.reverse.take k ++ [v] := by
          rw [List.take_add_one, rev_get (by rw [HL.out]; omega), show l.length - 1 - k = p by rw [HL.out]; exact hp, List.getElem?_eq_getElem hpl, hv]; rfl
        obtain ⟨A2, c2, w2, eA, hO2, hB2, _⟩ := (hOw.alloc (.cells #[vint v] 3)).app (SL.lit wr 3 [v] _ rfl (by simp [maxLen]) (by simpa using hv64)) (by have := hbel.size; simp; omega) (by simp; omega)
        rw [← hrev] at hO2
        have hbel2 := (hbel.alloc (hbel.size) (.cells #[vint v] 3)).trans hB2
        have HP := Lib.hid hp
        clear hrev hv hp hOw hpl h0
        go_wp2_with (at_builtin; refine wpList_append_eq rfl _ _ _ rfl rfl rfl eA ?_; clear eA)
        refine ⟨⟨k + 1, A2, c2, by omega, ?_, by simp, by simpa using hO2, hbel2⟩, by simp only [intOf]; omega⟩
        simp; omega
      · obtain rfl : k = n := by omega
        have g4 : (k : Int) - 1 - (k : Int) = -1 := by omega
        rw [g4]
        rw [List.take_of_length_le (by rw [List.length_reverse, HL.out]; omega)] at hOw
        have HR := Lib.hid ((mixS_rev l).trans HY.out)
        by_cases hk0 : k = 0
        · have hR := hOw.sl
          have HR2 := HR
          have h := h0.out.below hbel
          have hB := hbel
          have hk00 : decide (0 < k) = false := by simp; omega
          have hk01 : decide ((0 : Int) < (k : Int)) = false := by simp; omega
          clear hOw hbel hk0
          have hcl : (2147483647 < x) ∨ (x ≤ 2147483647 ∧ -2147483647 < x) ∨ (x ≤ 2147483647 ∧ x ≤ -2147483647) := by omega
          rcases hcl with gx | ⟨gx, gx2⟩ | ⟨gx, gx2⟩
          · have hx64 : I64 2147483647 := by unfold I64; omega
            have hn64 : I64 (-2147483647) := by unfold I64; omega
            go_wp2_with (first
              | (go_at_call 30; (with_reducible refine (mix_eq HR2.out hR (by omega)).mono ?_); rintro e w5 ⟨rfl, hh⟩; ((try first | replace h := SL.below h hh | replace h := SL.on1 h hh | replace h := SL.on2 h hh); (try first | replace hB := Bel.on0 hB hh | replace hB := Bel.on1 hB hh | replace hB := Bel.on2 hB hh); clear hh);
                  (have O5 := OL.litL (w := w5) (B := w5.heap.size) (n := 1) [(-2147483647)] #[vint (-2147483647)] (Nat.le_refl _) rfl rfl (by omega) (by simpa using hn64));
                  (obtain ⟨A6, c6, w6, eB1, hO6, hB6, _⟩ := O5.app (h.alloc (.cells #[vint (-2147483647)] 3)) (by simp) (by omega));
                  (have hK6 := ((Below.refl w5.heap.size w5).alloc (Nat.le_refl _) (.cells #[vint (-2147483647)] 3)).trans hB6);
                  (obtain ⟨A7, c7, w7, eB2, hO7, hB7, _⟩ := (hO6.alloc (.cells #[vint 2147483647] 3)).app (SL.lit' (n := 1) w6 [2147483647] #[vint 2147483647] rfl rfl (by omega) (by simpa using hx64)) (by have := hK6.size; simp only [World.size_alloc]; omega) (by omega));
                  (have hK7 := (hK6.alloc hK6.size (.cells #[vint 2147483647] 3)).trans hB7);
                  (have hs7 := hO7.sl);
                  (replace hB := hB.trans (hK7.mono hB.size)); (replace h := h.below hK7);
                  (have hm7 : mixS ([(-2147483647)] ++ l ++ [2147483647]) = y := by have := mixS_neg (x := 2147483647) (by omega) (by omega) l; rw [HY.out] at this; simpa using this))
              | (at_builtin; refine wpList_append_eq rfl _ _ _ rfl rfl rfl eB1 ?_; clear eB1)
              | (at_builtin; refine wpList_append_eq rfl _ _ _ rfl rfl rfl eB2 ?_; clear eB2)
              | (go_at_call 30; (with_reducible refine (mix_eq hm7 hs7 (by simp; omega)).mono ?_); rintro e w8 ⟨rfl, hh⟩; ((try first | replace h := SL.below h hh | replace h := SL.on1 h hh | replace h := SL.on2 h hh); (try first | replace hB := Bel.on0 hB hh | replace hB := Bel.on1 hB hh | replace hB := Bel.on2 hB hh); clear hh)))
            go_loopw [11] (fun i wr => ∃ p : Nat, p ≤ k ∧ i = .int .i64 ((p : Int) + 1) ∧ SL wr A k c l ∧ Below w.heap.size w wr) (fun i _ => k - (intOf i - 1).toNat)
            case atStart => exact ⟨0, Nat.zero_le _, by simp, h, hB⟩
            case round =>
              clear h hB
              obtain ⟨p, hp, rfl, h, hB⟩ := hrel
              by_cases hpk : p + 1 < k
              · have gp : (p : Int) + 1 < (k : Int) := by omega
                obtain ⟨A9, c9, eS, hs9⟩ := h.cut (i := (p : Int)) (j := (p : Int) + 1 + 1) (lo := p) (hi := p + 1 + 1) (m := 2) rfl (by omega) (by omega) (by omega) (by omega)
                have hp1 : p < l.length := by rw [HL.out]; omega
                have hp2 : p + 1 < l.length := by rw [HL.out]; omega
                have hcut : (l.take (p + 1 + 1)).drop p = [l[p], l[p + 1]] := by
                  rw [take_succ_get hp2, take_succ_get hp1, List.append_assoc, List.drop_left' (by simp; omega)]; rfl
                rw [hcut] at hs9
                obtain ⟨bb, o, rfl, hbb, hc⟩ := h.all_ (by omega)
                have ca := hc p hp1
                have cb := hc (p + 1) hp2
                obtain ⟨a, ha⟩ : ∃ a, l[p] = a := ⟨_, rfl⟩
                obtain ⟨b, hb⟩ : ∃ b, l[p + 1] = b := ⟨_, rfl⟩
                rw [ha] at ca hs9
                rw [hb] at cb hs9
                have hmx := mixS_two a b
                have eA : ∀ z : Ext wr, z.W.cell? ⟨bb, o + p, none⟩ = some (.int .i64 a) := fun z => z.cell ca
                have eB : ∀ z : Ext wr, z.W.cell? ⟨bb, o + (p + 1), none⟩ = some (.int .i64 b) := fun z => z.cell cb
                have g1 : IntKind.i64.wrap ((p : Int) + 1 - 1) = p := by rw [IntWalk.i64_in _ (by omega)]; omega
                have g2 : IntKind.i64.wrap ((p : Int) + 1 + 1) = (p : Int) + 1 + 1 := IntWalk.i64_in _ (by omega)
                have ia := clipS_bd a
                have ib := clipS_bd b
                have CM := Lib.hid (fun z : Ext wr => mix_eq (w := z.W) hmx (z.sl hs9) (by omega))
                have CA := Lib.hid (fun z : Ext wr => add_any (clipS a) (clipS b) z.W (by unfold I64; omega) (by unfold I64; omega))
                clear ha hb hcut hmx hc ca cb hp1 hp2
                go_wp2
                refine wp_region_ext (by kernel_rfl) (by kernel_rfl) ?_
                repeat (go_big_quiet_step (first | exact Ext.quiet (CM.out _) | exact Ext.quiet (CA.out _) | exact Ext.quietS (clip_any _ _)))
                refine wpQuiet_nil ?_
                rintro _ ⟨z, rfl⟩
                go_wp2
                exact ⟨⟨p + 1, by omega, by simp, h.below z.h, Bel.on0 hB z.h⟩, by simp only [intOf]; omega⟩
              · have gp : (k : Int) ≤ (p : Int) + 1 := by omega
                go_wp2
                go_ret
                exact ⟨rfl, hB⟩
          · have hx64 : I64 x := by unfold I64; omega
            have hn64 : I64 (-x) := by unfold I64; omega
            go_wp2_with (first
              | (go_at_call 30; (with_reducible refine (mix_eq HR2.out hR (by omega)).mono ?_); rintro e w5 ⟨rfl, hh⟩; ((try first | replace h := SL.below h hh | replace h := SL.on1 h hh | replace h := SL.on2 h hh); (try first | replace hB := Bel.on0 hB hh | replace hB := Bel.on1 hB hh | replace hB := Bel.on2 hB hh); clear hh);
                  (have O5 := OL.litL (w := w5) (B := w5.heap.size) (n := 1) [(-x)] #[vint (-x)] (Nat.le_refl _) rfl rfl (by omega) (by simpa using hn64));
                  (obtain ⟨A6, c6, w6, eB1, hO6, hB6, _⟩ := O5.app (h.alloc (.cells #[vint (-x)] 3)) (by simp) (by omega));
                  (have hK6 := ((Below.refl w5.heap.size w5).alloc (Nat.le_refl _) (.cells #[vint (-x)] 3)).trans hB6);
                  (obtain ⟨A7, c7, w7, eB2, hO7, hB7, _⟩ := (hO6.alloc (.cells #[vint x] 3)).app (SL.lit' (n := 1) w6 [x] #[vint x] rfl rfl (by omega) (by simpa using hx64)) (by have := hK6.size; simp only [World.size_alloc]; omega) (by omega));
                  (have hK7 := (hK6.alloc hK6.size (.cells #[vint x] 3)).trans hB7);
                  (have hs7 := hO7.sl);
                  (replace hB := hB.trans (hK7.mono hB.size)); (replace h := h.below hK7);
                  (have hm7 : mixS ([(-x)] ++ l ++ [x]) = y := by have := mixS_neg (x := x) (by omega) (by omega) l; rw [HY.out] at this; simpa using this))
              | (at_builtin; refine wpList_append_eq rfl _ _ _ rfl rfl rfl eB1 ?_; clear eB1)
              | (at_builtin; refine wpList_append_eq rfl _ _ _ rfl rfl rfl eB2 ?_; clear eB2)
              | (go_at_call 30; (with_reducible refine (mix_eq hm7 hs7 (by simp; omega)).mono ?_); rintro e w8 ⟨rfl, hh⟩; ((try first | replace h := SL.below h hh | replace h := SL.on1 h hh | replace h := SL.on2 h hh); (try first | replace hB := Bel.on0 hB hh | replace hB := Bel.on1 hB hh | replace hB := Bel.on2 hB hh); clear hh)))
            go_loopw [11] (fun i wr => ∃ p : Nat, p ≤ k ∧ i = .int .i64 ((p : Int) + 1) ∧ SL wr A k c l ∧ Below w.heap.size w wr) (fun i _ => k - (intOf i - 1).toNat)
            case atStart => exact ⟨0, Nat.zero_le _, by simp, h, hB⟩
            case round =>
              clear h hB
              obtain ⟨p, hp, rfl, h, hB⟩ := hrel
              by_cases hpk : p + 1 < k
              · have gp : (p : Int) + 1 < (k : Int) := by omega
                obtain ⟨A9, c9, eS, hs9⟩ := h.cut (i := (p : Int)) (j := (p : Int) + 1 + 1) (lo := p) (hi := p + 1 + 1) (m := 2) rfl (by omega) (by omega) (by omega) (by omega)
                have hp1 : p < l.length := by rw [HL.out]; omega
                have hp2 : p + 1 < l.length := by rw [HL.out]; omega
                have hcut : (l.take (p + 1 + 1)).drop p = [l[p], l[p + 1]] := by
                  rw [take_succ_get hp2, take_succ_get hp1, List.append_assoc, List.drop_left' (by simp; omega)]; rfl
                rw [hcut] at hs9
                obtain ⟨bb, o, rfl, hbb, hc⟩ := h.all_ (by omega)
                have ca := hc p hp1
                have cb := hc (p + 1) hp2
                obtain ⟨a, ha⟩ : ∃ a, l[p] = a := ⟨_, rfl⟩
                obtain ⟨b, hb⟩ : ∃ b, l[p + 1] = b := ⟨_, rfl⟩
                rw [ha] at ca hs9
                rw [hb] at cb hs9
                have hmx := mixS_two a b
                have eA : ∀ z : Ext wr, z.W.cell? ⟨bb, o + p, none⟩ = some (.int .i64 a) := fun z => z.cell ca
                have eB : ∀ z : Ext wr, z.W.cell? ⟨bb, o + (p + 1), none⟩ = some (.int .i64 b) := fun z => z.cell cb
                have g1 : IntKind.i64.wrap ((p : Int) + 1 - 1) = p := by rw [IntWalk.i64_in _ (by omega)]; omega
                have g2 : IntKind.i64.wrap ((p : Int) + 1 + 1) = (p : Int) + 1 + 1 := IntWalk.i64_in _ (by omega)
                have ia := clipS_bd a
                have ib := clipS_bd b
                have CM := Lib.hid (fun z : Ext wr => mix_eq (w := z.W) hmx (z.sl hs9) (by omega))
                have CA := Lib.hid (fun z : Ext wr => add_any (clipS a) (clipS b) z.W (by unfold I64; omega) (by unfold I64; omega))
                clear ha hb hcut hmx hc ca cb hp1 hp2
                go_wp2
                refine wp_region_ext (by kernel_rfl) (by kernel_rfl) ?_
                repeat (go_big_quiet_step (first | exact Ext.quiet (CM.out _) | exact Ext.quiet (CA.out _) | exact Ext.quietS (clip_any _ _)))
                refine wpQuiet_nil ?_
                rintro _ ⟨z, rfl⟩
                go_wp2
                exact ⟨⟨p + 1, by omega, by simp, h.below z.h, Bel.on0 hB z.h⟩, by simp only [intOf]; omega⟩
              · have gp : (k : Int) ≤ (p : Int) + 1 := by omega
                go_wp2
                go_ret
                exact ⟨rfl, hB⟩
          · have hx64 : I64 (-2147483647) := by unfold I64; omega
            have hn64 : I64 2147483647 := by unfold I64; omega
            go_wp2_with (first
              | (go_at_call 30; (with_reducible refine (mix_eq HR2.out hR (by omega)).mono ?_); rintro e w5 ⟨rfl, hh⟩; ((try first | replace h := SL.below h hh | replace h := SL.on1 h hh | replace h := SL.on2 h hh); (try first | replace hB := Bel.on0 hB hh | replace hB := Bel.on1 hB hh | replace hB := Bel.on2 hB hh); clear hh);
                  (have O5 := OL.litL (w := w5) (B := w5.heap.size) (n := 1) [2147483647] #[vint 2147483647] (Nat.le_refl _) rfl rfl (by omega) (by simpa using hn64));
                  (obtain ⟨A6, c6, w6, eB1, hO6, hB6, _⟩ := O5.app (h.alloc (.cells #[vint 2147483647] 3)) (by simp) (by omega));
                  (have hK6 := ((Below.refl w5.heap.size w5).alloc (Nat.le_refl _) (.cells #[vint 2147483647] 3)).trans hB6);
                  (obtain ⟨A7, c7, w7, eB2, hO7, hB7, _⟩ := (hO6.alloc (.cells #[vint (-2147483647)] 3)).app (SL.lit' (n := 1) w6 [(-2147483647)] #[vint (-2147483647)] rfl rfl (by omega) (by simpa using hx64)) (by have := hK6.size; simp only [World.size_alloc]; omega) (by omega));
                  (have hK7 := (hK6.alloc hK6.size (.cells #[vint (-2147483647)] 3)).trans hB7);
                  (have hs7 := hO7.sl);
                  (replace hB := hB.trans (hK7.mono hB.size)); (replace h := h.below hK7);
                  (have hm7 : mixS ([2147483647] ++ l ++ [(-2147483647)]) = y := by have := mixS_neg (x := (-2147483647)) (by omega) (by omega) l; rw [HY.out] at this; simpa using this))
              | (at_builtin; refine wpList_append_eq rfl _ _ _ rfl rfl rfl eB1 ?_; clear eB1)
              | (at_builtin; refine wpList_append_eq rfl _ _ _ rfl rfl rfl eB2 ?_; clear eB2)
              | (go_at_call 30; (with_reducible refine (mix_eq hm7 hs7 (by simp; omega)).mono ?_); rintro e w8 ⟨rfl, hh⟩; ((try first | replace h := SL.below h hh | replace h := SL.on1 h hh | replace h := SL.on2 h hh); (try first | replace hB := Bel.on0 hB hh | replace hB := Bel.on1 hB hh | replace hB := Bel.on2 hB hh); clear hh)))
            go_loopw [11] (fun i wr => ∃ p : Nat, p ≤ k ∧ i = .int .i64 ((p : Int) + 1) ∧ SL wr A k c l ∧ Below w.heap.size w wr) (fun i _ => k - (intOf i - 1).toNat)
            case atStart => exact ⟨0, Nat.zero_le _, by simp, h, hB⟩
            case round =>
              clear h hB
              obtain ⟨p, hp, rfl, h, hB⟩ := hrel
              by_cases hpk : p + 1 < k
              · have gp : (p : Int) + 1 < (k : Int) := by omega
                obtain ⟨A9, c9, eS, hs9⟩ := h.cut (i := (p : Int)) (j := (p : Int) + 1 + 1) (lo := p) (hi := p + 1 + 1) (m := 2) rfl (by omega) (by omega) (by omega) (by omega)
                have hp1 : p < l.length := by rw [HL.out]; omega
                have hp2 : p + 1 < l.length := by rw [HL.out]; omega
                have hcut : (l.take (p + 1 + 1)).drop p = [l[p], l[p + 1]] := by
                  rw [take_succ_get hp2, take_succ_get hp1, List.append_assoc, List.drop_left' (by simp; omega)]; rfl
                rw [hcut] at hs9
                obtain ⟨bb, o, rfl, hbb, hc⟩ := h.all_ (by omega)
                have ca := hc p hp1
                have cb := hc (p + 1) hp2
                obtain ⟨a, ha⟩ : ∃ a, l[p] = a := ⟨_, rfl⟩
                obtain ⟨b, hb⟩ : ∃ b, l[p + 1] = b := ⟨_, rfl⟩
                rw [ha] at ca hs9
                rw [hb] at cb hs9
                have hmx := mixS_two a b
                have eA : ∀ z : Ext wr, z.W.cell? ⟨bb, o + p, none⟩ = some (.int .i64 a) := fun z => z.cell ca
                have eB : ∀ z : Ext wr, z.W.cell? ⟨bb, o + (p + 1), none⟩ = some (.int .i64 b) := fun z => z.cell cb
                have g1 : IntKind.i64.wrap ((p : Int) + 1 - 1) = p := by rw [IntWalk.i64_in _ (by omega)]; omega
                have g2 : IntKind.i64.wrap ((p : Int) + 1 + 1) = (p : Int) + 1 + 1 := IntWalk.i64_in _ (by omega)
                have ia := clipS_bd a
                have ib := clipS_bd b
                have CM := Lib.hid (fun z : Ext wr => mix_eq (w := z.W) hmx (z.sl hs9) (by omega))
                have CA := Lib.hid (fun z : Ext wr => add_any (clipS a) (clipS b) z.W (by unfold I64; omega) (by unfold I64; omega))
                clear ha hb hcut hmx hc ca cb hp1 hp2
                go_wp2
                refine wp_region_ext (by kernel_rfl) (by kernel_rfl) ?_
                repeat (go_big_quiet_step (first | exact Ext.quiet (CM.out _) | exact Ext.quiet (CA.out _) | exact Ext.quietS (clip_any _ _)))
                refine wpQuiet_nil ?_
                rintro _ ⟨z, rfl⟩
                go_wp2
                exact ⟨⟨p + 1, by omega, by simp, h.below z.h, Bel.on0 hB z.h⟩, by simp only [intOf]; omega⟩
              · have gp : (k : Int) ≤ (p : Int) + 1 := by omega
                go_wp2
                go_ret
                exact ⟨rfl, hB⟩
        · have hk1 : (0 : Int) < (k : Int) := by omega
          have hz : ((k : Int) == 0) = false := by simp; omega
          obtain ⟨q, hq⟩ : ∃ q : Nat, t % (k : Int) = q := ⟨(t % (k : Int)).toNat, by have := Int.emod_nonneg t (show (k : Int) ≠ 0 by omega); omega⟩
          have hqk : q < k := by have := Int.emod_lt_of_pos t hk1; omega
          obtain ⟨A1, c1, e1, hs1⟩ := hOw.sl.cutFrom (i := (q : Int)) (m := k - q) rfl (by omega) rfl
          obtain ⟨A2, c2, e2, hs2⟩ := hOw.sl.cutTo (j := (q : Int)) (hi := q) rfl (by omega)
          have O1 := (OL.lit wr (Nat.le_refl wr.heap.size)).drew
          obtain ⟨A3, c3, w3, eA1, hO3, hB3, _⟩ := O1.app ((hs1.alloc (.cells #[] 3)).below (Below.refl _ _).drew) (by show wr.heap.size ≤ (wr.alloc (.cells #[] 3)).heap.size; simp) (by omega)
          rw [Nat.zero_add] at eA1 hO3
          rw [List.nil_append] at hO3
          have hK3 := (((Below.refl wr.heap.size wr).alloc (Nat.le_refl _) (.cells #[] 3)).drew).trans hB3
          obtain ⟨A4, c4, w4, eA2, hO4, hB4, _⟩ := hO3.app (hs2.below hK3) hK3.size (by omega)
          rw [Nat.sub_add_cancel (by omega)] at eA2 hO4
          have hK4 := hK3.trans hB4
          have hR := hO4.sl
          have HR2 := Lib.hid ((mixS_rot l.reverse q).trans HR.out)
          have hB := hbel.trans (hK4.mono hbel.size)
          have h := h0.out.below hB
          have q0 : (0 : Int) ≤ (q : Int) := by omega
          have q1 : (q : Int) ≤ (k : Int) := by omega
          clear hOw hO3 hO4 hB3 hB4 hs1 hs2 O1
          go_wp2
          go_region_held3 (fun _ => True) (trivial) (first
            | (refine wp_append_eq (v1 := .slice (some ⟨wr.heap.size, 0, none⟩) 0 0) (v2 := .slice A1 (k - q) c1) (.tmp 41) (.tmp 44) 26 (by rfl) (by rfl) (by rfl) eA1 ?_)
            | (refine wp_append_eq (v1 := .slice A3 (k - q) c3) (v2 := .slice A2 q c2) (.tmp 45) (.tmp 48) 26 (by rfl) (by rfl) (by rfl) eA2 ?_))
          clear eA1 eA2 e1 e2 hK3 hK4
          have hcl : (2147483647 < x) ∨ (x ≤ 2147483647 ∧ -2147483647 < x) ∨ (x ≤ 2147483647 ∧ x ≤ -2147483647) := by omega
          rcases hcl with gx | ⟨gx, gx2⟩ | ⟨gx, gx2⟩
          · have hx64 : I64 2147483647 := by unfold I64; omega
            have hn64 : I64 (-2147483647) := by unfold I64; omega
            go_wp2_with (first
              | (go_at_call 30; (with_reducible refine (mix_eq HR2.out hR (by omega)).mono ?_); rintro e w5 ⟨rfl, hh⟩; ((try first | replace h := SL.below h hh | replace h := SL.on1 h hh | replace h := SL.on2 h hh); (try first | replace hB := Bel.on0 hB hh | replace hB := Bel.on1 hB hh | replace hB := Bel.on2 hB hh); clear hh);
                  (have O5 := OL.litL (w := w5) (B := w5.heap.size) (n := 1) [(-2147483647)] #[vint (-2147483647)] (Nat.le_refl _) rfl rfl (by omega) (by simpa using hn64));
                  (obtain ⟨A6, c6, w6, eB1, hO6, hB6, _⟩ := O5.app (h.alloc (.cells #[vint (-2147483647)] 3)) (by simp) (by omega));
                  (have hK6 := ((Below.refl w5.heap.size w5).alloc (Nat.le_refl _) (.cells #[vint (-2147483647)] 3)).trans hB6);
                  (obtain ⟨A7, c7, w7, eB2, hO7, hB7, _⟩ := (hO6.alloc (.cells #[vint 2147483647] 3)).app (SL.lit' (n := 1) w6 [2147483647] #[vint 2147483647] rfl rfl (by omega) (by simpa using hx64)) (by have := hK6.size; simp only [World.size_alloc]; omega) (by omega));
                  (have hK7 := (hK6.alloc hK6.size (.cells #[vint 2147483647] 3)).trans hB7);
                  (have hs7 := hO7.sl);
                  (replace hB := hB.trans (hK7.mono hB.size)); (replace h := h.below hK7);
                  (have hm7 : mixS ([(-2147483647)] ++ l ++ [2147483647]) = y := by have := mixS_neg (x := 2147483647) (by omega) (by omega) l; rw [HY.out] at this; simpa using this))
              | (at_builtin; refine wpList_append_eq rfl _ _ _ rfl rfl rfl eB1 ?_; clear eB1)
              | (at_builtin; refine wpList_append_eq rfl _ _ _ rfl rfl rfl eB2 ?_; clear eB2)
              | (go_at_call 30; (with_reducible refine (mix_eq hm7 hs7 (by simp; omega)).mono ?_); rintro e w8 ⟨rfl, hh⟩; ((try first | replace h := SL.below h hh | replace h := SL.on1 h hh | replace h := SL.on2 h hh); (try first | replace hB := Bel.on0 hB hh | replace hB := Bel.on1 hB hh | replace hB := Bel.on2 hB hh); clear hh)))
            go_loopw [11] (fun i wr => ∃ p : Nat, p ≤ k ∧ i = .int .i64 ((p : Int) + 1) ∧ SL wr A k c l ∧ Below w.heap.size w wr) (fun i _ => k - (intOf i - 1).toNat)
            case atStart => exact ⟨0, Nat.zero_le _, by simp, h, hB⟩
            case round =>
              clear h hB
              obtain ⟨p, hp, rfl, h, hB⟩ := hrel
              by_cases hpk : p + 1 < k
              · have gp : (p : Int) + 1 < (k : Int) := by omega
                obtain ⟨A9, c9, eS, hs9⟩ := h.cut (i := (p : Int)) (j := (p : Int) + 1 + 1) (lo := p) (hi := p + 1 + 1) (m := 2) rfl (by omega) (by omega) (by omega) (by omega)
                have hp1 : p < l.length := by rw [HL.out]; omega
                have hp2 : p + 1 < l.length := by rw [HL.out]; omega
                have hcut : (l.take (p + 1 + 1)).drop p = [l[p], l[p + 1]] := by
                  rw [take_succ_get hp2, take_succ_get hp1, List.append_assoc, List.drop_left' (by simp; omega)]; rfl
                rw [hcut] at hs9
                obtain ⟨bb, o, rfl, hbb, hc⟩ := h.all_ (by omega)
                have ca := hc p hp1
                have cb := hc (p + 1) hp2
                obtain ⟨a, ha⟩ : ∃ a, l[p] = a := ⟨_, rfl⟩
                obtain ⟨b, hb⟩ : ∃ b, l[p + 1] = b := ⟨_, rfl⟩
                rw [ha] at ca hs9
                rw [hb] at cb hs9
                have hmx := mixS_two a b
                have eA : ∀ z : Ext wr, z.W.cell? ⟨bb, o + p, none⟩ = some (.int .i64 a) := fun z => z.cell ca
                have eB : ∀ z : Ext wr, z.W.cell? ⟨bb, o + (p + 1), none⟩ = some (.int .i64 b) := fun z => z.cell cb
                have g1 : IntKind.i64.wrap ((p : Int) + 1 - 1) = p := by rw [IntWalk.i64_in _ (by omega)]; omega
                have g2 : IntKind.i64.wrap ((p : Int) + 1 + 1) = (p : Int) + 1 + 1 := IntWalk.i64_in _ (by omega)
                have ia := clipS_bd a
                have ib := clipS_bd b
                have CM := Lib.hid (fun z : Ext wr => mix_eq (w := z.W) hmx (z.sl hs9) (by omega))
                have CA := Lib.hid (fun z : Ext wr => add_any (clipS a) (clipS b) z.W (by unfold I64; omega) (by unfold I64; omega))
                clear ha hb hcut hmx hc ca cb hp1 hp2
                go_wp2
                refine wp_region_ext (by kernel_rfl) (by kernel_rfl) ?_
                repeat (go_big_quiet_step (first | exact Ext.quiet (CM.out _) | exact Ext.quiet (CA.out _) | exact Ext.quietS (clip_any _ _)))
                refine wpQuiet_nil ?_
                rintro _ ⟨z, rfl⟩
                go_wp2
                exact ⟨⟨p + 1, by omega, by simp, h.below z.h, Bel.on0 hB z.h⟩, by simp only [intOf]; omega⟩
              · have gp : (k : Int) ≤ (p : Int) + 1 := by omega
                go_wp2
                go_ret
                exact ⟨rfl, hB⟩
          · have hx64 : I64 x := by unfold I64; omega
            have hn64 : I64 (-x) := by unfold I64; omega
            go_wp2_with (first
              | (go_at_call 30; (with_reducible refine (mix_eq HR2.out hR (by omega)).mono ?_); rintro e w5 ⟨rfl, hh⟩; ((try first | replace h := SL.below h hh | replace h := SL.on1 h hh | replace h := SL.on2 h hh); (try first | replace hB := Bel.on0 hB hh | replace hB := Bel.on1 hB hh | replace hB := Bel.on2 hB hh); clear hh);
                  (have O5 := OL.litL (w := w5) (B := w5.heap.size) (n := 1) [(-x)] #[vint (-x)] (Nat.le_refl _) rfl rfl (by omega) (by simpa using hn64));
                  (obtain ⟨A6, c6, w6, eB1, hO6, hB6, _⟩ := O5.app (h.alloc (.cells #[vint (-x)] 3)) (by simp) (by omega));
                  (have hK6 := ((Below.refl w5.heap.size w5).alloc (Nat.le_refl _) (.cells #[vint (-x)] 3)).trans hB6);
                  (obtain ⟨A7, c7, w7, eB2, hO7, hB7, _⟩ := (hO6.alloc (.cells #[vint x] 3)).app (SL.lit' (n := 1) w6 [x] #[vint x] rfl rfl (by omega) (by simpa using hx64)) (by have := hK6.size; simp only [World.size_alloc]; omega) (by omega));
                  (have hK7 := (hK6.alloc hK6.size (.cells #[vint x] 3)).trans hB7);
                  (have hs7 := hO7.sl);
                  (replace hB := hB.trans (hK7.mono hB.size)); (replace h := h.below hK7);
                  (have hm7 : mixS ([(-x)] ++ l ++ [x]) = y := by have := mixS_neg (x := x) (by omega) (by omega) l; rw [HY.out] at this; simpa using this))
              | (at_builtin; refine wpList_append_eq rfl _ _ _ rfl rfl rfl eB1 ?_; clear eB1)
              | (at_builtin; refine wpList_append_eq rfl _ _ _ rfl rfl rfl eB2 ?_; clear eB2)
              | (go_at_call 30; (with_reducible refine (mix_eq hm7 hs7 (by simp; omega)).mono ?_); rintro e w8 ⟨rfl, hh⟩; ((try first | replace h := SL.below h hh | replace h := SL.on1 h hh | replace h := SL.on2 h hh); (try first | replace hB := Bel.on0 hB hh | replace hB := Bel.on1 hB hh | replace hB := Bel.on2 hB hh); clear hh)))
            go_loopw [11] (fun i wr => ∃ p : Nat, p ≤ k ∧ i = .int .i64 ((p : Int) + 1) ∧ SL wr A k c l ∧ Below w.heap.size w wr) (fun i _ => k - (intOf i - 1).toNat)
            case atStart => exact ⟨0, Nat.zero_le _, by simp, h, hB⟩
            case round =>
              clear h hB
              obtain ⟨p, hp, rfl, h, hB⟩ := hrel
              by_cases hpk : p + 1 < k
              · have gp : (p : Int) + 1 < (k : Int) := by omega
                obtain ⟨A9, c9, eS, hs9⟩ := h.cut (i := (p : Int)) (j := (p : Int) + 1 + 1) (lo := p) (hi := p + 1 + 1) (m := 2) rfl (by omega) (by omega) (by omega) (by omega)
                have hp1 : p < l.length := by rw [HL.out]; omega
                have hp2 : p + 1 < l.length := by rw [HL.out]; omega
                have hcut : (l.take (p + 1 + 1)).drop p = [l[p], l[p + 1]] := by
                  rw [take_succ_get hp2, take_succ_get hp1, List.append_assoc, List.drop_left' (by simp; omega)]; rfl
                rw [hcut] at hs9
                obtain ⟨bb, o, rfl, hbb, hc⟩ := h.all_ (by omega)
                have ca := hc p hp1
                have cb := hc (p + 1) hp2
                obtain ⟨a, ha⟩ : ∃ a, l[p] = a := ⟨_, rfl⟩
                obtain ⟨b, hb⟩ : ∃ b, l[p + 1] = b := ⟨_, rfl⟩
                rw [ha] at ca hs9
                rw [hb] at cb hs9
                have hmx := mixS_two a b
                have eA : ∀ z : Ext wr, z.W.cell? ⟨bb, o + p, none⟩ = some (.int .i64 a) := fun z => z.cell ca
                have eB : ∀ z : Ext wr, z.W.cell? ⟨bb, o + (p + 1), none⟩ = some (.int .i64 b) := fun z => z.cell cb
                have g1 : IntKind.i64.wrap ((p : Int) + 1 - 1) = p := by rw [IntWalk.i64_in _ (by omega)]; omega
                have g2 : IntKind.i64.wrap ((p : Int) + 1 + 1) = (p : Int) + 1 + 1 := IntWalk.i64_in _ (by omega)
                have ia := clipS_bd a
                have ib := clipS_bd b
                have CM := Lib.hid (fun z : Ext wr => mix_eq (w := z.W) hmx (z.sl hs9) (by omega))
                have CA := Lib.hid (fun z : Ext wr => add_any (clipS a) (clipS b) z.W (by unfold I64; omega) (by unfold I64; omega))
                clear ha hb hcut hmx hc ca cb hp1 hp2
                go_wp2
                refine wp_region_ext (by kernel_rfl) (by kernel_rfl) ?_
                repeat (go_big_quiet_step (first | exact Ext.quiet (CM.out _) | exact Ext.quiet (CA.out _) | exact Ext.quietS (clip_any _ _)))
                refine wpQuiet_nil ?_
                rintro _ ⟨z, rfl⟩
                go_wp2
                exact ⟨⟨p + 1, by omega, by simp, h.below z.h, Bel.on0 hB z.h⟩, by simp only [intOf]; omega⟩
              · have gp : (k : Int) ≤ (p : Int) + 1 := by omega
                go_wp2
                go_ret
                exact ⟨rfl, hB⟩
          · have hx64 : I64 (-2147483647) := by unfold I64; omega
            have hn64 : I64 2147483647 := by unfold I64; omega
            go_wp2_with (first
              | (go_at_call 30; (with_reducible refine (mix_eq HR2.out hR (by omega)).mono ?_); rintro e w5 ⟨rfl, hh⟩; ((try first | replace h := SL.below h hh | replace h := SL.on1 h hh | replace h := SL.on2 h hh); (try first | replace hB := Bel.on0 hB hh | replace hB := Bel.on1 hB hh | replace hB := Bel.on2 hB hh); clear hh);
                  (have O5 := OL.litL (w := w5) (B := w5.heap.size) (n := 1) [2147483647] #[vint 2147483647] (Nat.le_refl _) rfl rfl (by omega) (by simpa using hn64));
                  (obtain ⟨A6, c6, w6, eB1, hO6, hB6, _⟩ := O5.app (h.alloc (.cells #[vint 2147483647] 3)) (by simp) (by omega));
                  (have hK6 := ((Below.refl w5.heap.size w5).alloc (Nat.le_refl _) (.cells #[vint 2147483647] 3)).trans hB6);
                  (obtain ⟨A7, c7, w7, eB2, hO7, hB7, _⟩ := (hO6.alloc (.cells #[vint (-2147483647)] 3)).app (SL.lit' (n := 1) w6 [(-2147483647)] #[vint (-2147483647)] rfl rfl (by omega) (by simpa using hx64)) (by have := hK6.size; simp only [World.size_alloc]; omega) (by omega));
                  (have hK7 := (hK6.alloc hK6.size (.cells #[vint (-2147483647)] 3)).trans hB7);
                  (have hs7 := hO7.sl);
                  (replace hB := hB.trans (hK7.mono hB.size)); (replace h := h.below hK7);
                  (have hm7 : mixS ([2147483647] ++ l ++ [(-2147483647)]) = y := by have := mixS_neg (x := (-2147483647)) (by omega) (by omega) l; rw [HY.out] at this; simpa using this))
              | (at_builtin; refine wpList_append_eq rfl _ _ _ rfl rfl rfl eB1 ?_; clear eB1)
              | (at_builtin; refine wpList_append_eq rfl _ _ _ rfl rfl rfl eB2 ?_; clear eB2)
              | (go_at_call 30; (with_reducible refine (mix_eq hm7 hs7 (by simp; omega)).mono ?_); rintro e w8 ⟨rfl, hh⟩; ((try first | replace h := SL.below h hh | replace h := SL.on1 h hh | replace h := SL.on2 h hh); (try first | replace hB := Bel.on0 hB hh | replace hB := Bel.on1 hB hh | replace hB := Bel.on2 hB hh); clear hh)))
            go_loopw [11] (fun i wr => ∃ p : Nat, p ≤ k ∧ i = .int .i64 ((p : Int) + 1) ∧ SL wr A k c l ∧ Below w.heap.size w wr) (fun i _ => k - (intOf i - 1).toNat)
            case atStart => exact ⟨0, Nat.zero_le _, by simp, h, hB⟩
            case round =>
              clear h hB
              obtain ⟨p, hp, rfl, h, hB⟩ := hrel
              by_cases hpk : p + 1 < k
              · have gp : (p : Int) + 1 < (k : Int) := by omega
                obtain ⟨A9, c9, eS, hs9⟩ := h.cut (i := (p : Int)) (j := (p : Int) + 1 + 1) (lo := p) (hi := p + 1 + 1) (m := 2) rfl (by omega) (by omega) (by omega) (by omega)
                have hp1 : p < l.length := by rw [HL.out]; omega
                have hp2 : p + 1 < l.length := by rw [HL.out]; omega
                have hcut : (l.take (p + 1 + 1)).drop p = [l[p], l[p + 1]] := by
                  rw [take_succ_get hp2, take_succ_get hp1, List.append_assoc, List.drop_left' (by simp; omega)]; rfl
                rw [hcut] at hs9
                obtain ⟨bb, o, rfl, hbb, hc⟩ := h.all_ (by omega)
                have ca := hc p hp1
                have cb := hc (p + 1) hp2
                obtain ⟨a, ha⟩ : ∃ a, l[p] = a := ⟨_, rfl⟩
                obtain ⟨b, hb⟩ : ∃ b, l[p + 1] = b := ⟨_, rfl⟩
                rw [ha] at ca hs9
                rw [hb] at cb hs9
                have hmx := mixS_two a b
                have eA : ∀ z : Ext wr, z.W.cell? ⟨bb, o + p, none⟩ = some (.int .i64 a) := fun z => z.cell ca
                have eB : ∀ z : Ext wr, z.W.cell? ⟨bb, o + (p + 1), none⟩ = some (.int .i64 b) := fun z => z.cell cb
                have g1 : IntKind.i64.wrap ((p : Int) + 1 - 1) = p := by rw [IntWalk.i64_in _ (by omega)]; omega
                have g2 : IntKind.i64.wrap ((p : Int) + 1 + 1) = (p : Int) + 1 + 1 := IntWalk.i64_in _ (by omega)
                have ia := clipS_bd a
                have ib := clipS_bd b
                have CM := Lib.hid (fun z : Ext wr => mix_eq (w := z.W) hmx (z.sl hs9) (by omega))
                have CA := Lib.hid (fun z : Ext wr => add_any (clipS a) (clipS b) z.W (by unfold I64; omega) (by unfold I64; omega))
                clear ha hb hcut hmx hc ca cb hp1 hp2
                go_wp2
                refine wp_region_ext (by kernel_rfl) (by kernel_rfl) ?_
                repeat (go_big_quiet_step (first | exact Ext.quiet (CM.out _) | exact Ext.quiet (CA.out _) | exact Ext.quietS (clip_any _ _)))
                refine wpQuiet_nil ?_
                rintro _ ⟨z, rfl⟩
                go_wp2
                exact ⟨⟨p + 1, by omega, by simp, h.below z.h, Bel.on0 hB z.h⟩, by simp only [intOf]; omega⟩
              · have gp : (k : Int) ≤ (p : Int) + 1 := by omega
                go_wp2
                go_ret
                exact ⟨rfl, hB⟩
  · have hn' : (300 : Int) < n := by omega
    go_enter Try.func6, Try.ntmps6
    go_wp2_with (first
      | (go_at_call 23; refine (sane08_any _).mono ?_; rintro e w1 ⟨rfl, hh⟩; ((try first | replace h := SL.below h hh | replace h := SL.on1 h hh | replace h := SL.on2 h hh); (try first | replace hB := Bel.on0 hB hh | replace hB := Bel.on1 hB hh | replace hB := Bel.on2 hB hh); clear hh)))
    go_ret
    exact ⟨rfl, hB⟩
end Go.Proofs.Yteljglhfimhmlaa
