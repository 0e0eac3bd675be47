/- The law OverdubPlacesSpec: its walk. -/
import Derived.Test.YteconepbhajjeaaSane44b
import Derived.Test.YteconepbhajjeaaOvI
namespace Go.Proofs.Yteconepbhajjeaa
open Go.RowKit

theorem digOf_blk {W : World} {g : Nat} {b : Nat → Int} (h : Blk W g 34 (digA b)) : DigIn W g 0 ∧ digOf W g 0 = digA b := by
  have e : (digA b).toList = (List.range 32).map fun j => Value.int .u8 (b j) := rfl
  have hc : ∀ j, j < 32 → W.cell? ⟨g, 0 + j, none⟩ = some (.int .u8 (b j)) := fun j hj => by
    rw [Nat.zero_add, h.cell, ← Array.getElem?_toList, e]
    simp [hj]
  refine ⟨fun j hj => by rw [hc j hj]; rfl, ?_⟩
  unfold digOf
  have : (List.range 32).map (fun j => (W.cell? ⟨g, 0 + j, none⟩).getD undef) = (List.range 32).map fun j => Value.int .u8 (b j) := List.map_congr_left fun j hj => by rw [hc j (by simpa using hj)]; rfl
  rw [this]
  rfl
theorem wpQuiet_load_clip {ops : Array Oper} {rest : List Oper} {o : Oper} {a : Act} {C : World → Prop} {Q : Act → Prop} (hw : Region.wanted o (yielded ops a.tmps) = true) (x : Operand) (ho : o.op = .load 41 x)
    (g i : Nat) (hx : a.eval x = .pointer (some ⟨g, i, none⟩)) (b : Nat → Int) (f n : Int) (hc : ∀ w, C w → ∀ j v, (clipA b f n)[j]? = some v → w.cell? ⟨g, i + j, none⟩ = some v) (h : wpQuiet Try.prog ops C Q rest (a.put o.dst (.agg (clipA b f n)))) :
    wpQuiet Try.prog ops C Q (o :: rest) a := by
  unfold wpQuiet
  rw [if_pos hw]
  refine ⟨.agg (clipA b f n), fun w hw' => ?_, h⟩
  have := run_loadAt_mid (P := Try.prog) w g i 41 (clipA b f n).toList _ (fun j v hv => hc w hw' j v (by simpa using hv)) Try.underlying41 rfl (by kernel_rfl)
  rw [Array.toArray_toList] at this
  unfold Oper.quietAt execOp
  simp only [ho, hx, this, Result.andThen_ok, Sem.run_bind]
  exact ⟨rfl, rfl⟩
theorem plc_at {b : Nat → Int} {w : World} {A : Option Addr} {n c : Nat} {l : List Plc} (h : SA (plcE b) w A n c l) {k : Nat} (hk : k < l.length) {p : Plc} (hp : l[k] = p) : ∃ bb o, A = some ⟨bb, o, none⟩ ∧ bb < w.heap.size ∧
    w.cell? ⟨bb, o + k * 42, none⟩ = some (.int .i64 p.id) ∧ w.cell? ⟨bb, o + k * 42 + 1, none⟩ = some (.int .i64 0) ∧ w.cell? ⟨bb, o + k * 42 + 2, none⟩ = some (.int .i64 p.off) ∧
    ∀ j v, (clipA b p.frm p.len)[j]? = some v → w.cell? ⟨bb, o + k * 42 + 3 + j, none⟩ = some v := by
  subst hp
  obtain ⟨bb, o, e, hb, hc⟩ := h.at_ hk
  refine ⟨bb, o, e, hb, hc 0 _ rfl, hc 1 _ rfl, hc 2 _ rfl, fun j v hv => ?_⟩
  rw [Nat.add_assoc]
  refine hc (3 + j) v ?_
  rw [Nat.add_comm 3 j]
  show (clipL b l[k])[j]? = some v
  have e : (clipA b l[k].frm l[k].len).toList = clipL b l[k] := rfl
  rw [← e, Array.getElem?_toList]
  exact hv
def RetP (w : World) (b : Nat → Int) (r : List Plc) (k : Int) (e : Ending) (w' : World) : Prop :=
  ∃ A c, e = .returned (.tuple #[.slice A r.length c, .int .i64 k]) ∧ SA (plcE b) w' A r.length c r ∧ Below w.heap.size w w'
theorem retP_of {w w' : World} {b : Nat → Int} {x : List Plc × Int} {e : Ending} (h : PlcRet w b x e w') : RetP w b x.1 x.2 e w' := by
  obtain ⟨A, n, c, rfl, ho, hb⟩ := h
  have := ho.n_eq
  subst this
  exact ⟨A, c, rfl, ho.sa, hb⟩
theorem places_eqn {A : Option Addr} {n c : Nat} {l : List Ld} {b : Nat → Int} {r : List Plc} {k : Int} {w : World} (e : placesR l = (r, k)) (h : SA laidE w A n c l) : Calls Try.prog 15 #[.slice A n c, .agg (digA b)] w (RetP w b r k) := by
  have := places_any A n c l b w h
  exact this.mono fun e' w' h' => by have := retP_of h'; rw [e] at this; exact this
theorem rplaces_eqn {A : Option Addr} {n c : Nat} {l : List Ld} {b : Nat → Int} {r : List Plc} {k : Int} {w : World} (e : placesR l = (r, k)) (h : SA laidE w A n c l) : Calls Try.prog 16 #[.slice A n c, .agg (digA b)] w (RetP w b r k) := by
  have := rplaces_any A n c l b w h
  exact this.mono fun e' w' h' => by have := retP_of h'; rw [e] at this; exact this
set_option maxHeartbeats 2000000 in
set_option maxRecDepth 100000 in
theorem walkOverdubPlacesSpec (A : Option Addr) (n c : Nat) (l : List Ld) (b : Nat → Int) (w : World) (h : SA laidE w A n c l) :
    Calls Try.prog 5 #[.slice A n c, .agg (digA b)] w fun e w' => e = .returned (.bool true) ∧ Below w.heap.size w w' := by
  have hlen := h.len
  have B0 := Blk.new w 34 (digA b)
  have hB0 := Bel.al (Below.refl _ w) (.cells (digA b) 34)
  have CS := sane44_any (w.alloc (.cells (digA b) 34))
  obtain ⟨⟨r, z⟩, hr⟩ : ∃ x, placesR l = x := ⟨_, rfl⟩
  have C1 := Lib.hid fun (w' : World) (hb : Below w.heap.size w w') => places_eqn (b := b) hr (h.below hb)
  have C2 := Lib.hid fun (w' : World) (hb : Below w.heap.size w w') => rplaces_eqn (b := b) hr (h.below hb)
  clear hr
  obtain ⟨dg, hdg⟩ : ∃ dg, digA b = dg := ⟨_, rfl⟩
  have HDG := Lib.hid hdg
  rw [hdg] at B0 hB0 CS C1 C2 ⊢
  have HB0 := Lib.hid B0
  have HBel := Lib.hid hB0
  clear hdg B0 hB0
  by_cases g1 : (300 : Int) < n
  · go_enter Try.func5, Try.ntmps5
    go_wp2_with (go_at_call 9; (with_reducible refine CS.mono ?_); rintro e w1 ⟨rfl, b1⟩)
    go_ret
    exact ⟨rfl, Bel.on0 HBel.out b1⟩
  · have g1' : (n : Int) ≤ 300 := by omega
    clear g1
    go_enter Try.func5, Try.ntmps5
    go_wp2_with (first
      | (go_at_call 9; (with_reducible refine CS.mono ?_); rintro e w1 ⟨rfl, b1⟩; have HB1 := Lib.hid (Bel.on0 HBel.out b1); have HK1 := Lib.hid (HB0.out.belowAll b1); clear b1)
      | (refine wpList_load_dig (by first | rfl | simp [Region.wanted, yielded]) (.tmp 3) rfl w.heap.size 0 rfl (digOf_blk (b := b) (by rw [HDG.out]; exact HK1.out)).1 dg (by rw [(digOf_blk (b := b) (by rw [HDG.out]; exact HK1.out)).2, HDG.out]) ?_))
    refine (C1.out _ HB1.out).mono ?_
    rintro e w2 ⟨A2, c2, rfl, h2, b2⟩
    have HB2 := Lib.hid (Bel.on0 HB1.out b2)
    have HK2 := Lib.hid (HK1.out.belowAll b2)
    clear b2
    go_wp2_with (refine wpList_load_dig (by first | rfl | simp [Region.wanted, yielded]) (.tmp 3) rfl w.heap.size 0 rfl (digOf_blk (b := b) (by rw [HDG.out]; exact HK2.out)).1 dg (by rw [(digOf_blk (b := b) (by rw [HDG.out]; exact HK2.out)).2, HDG.out]) ?_)
    refine (C2.out _ HB2.out).mono ?_
    rintro e w3 ⟨A3, c3, rfl, h3, b3⟩
    have HB3 := Lib.hid (Bel.on0 HB2.out b3)
    have hlr := h3.len
    have H2 := Lib.hid (h2.below b3)
    have H3 := Lib.hid h3
    clear b3 h2 h3 C1 C2 CS
    go_wp2
    go_loopw [39] (fun v wr => ∃ k : Nat, k ≤ r.length ∧ v = .int .i64 k ∧ Hid (Below w3.heap.size w3 wr)) (fun v _ => r.length - (intOf v).toNat)
    case atStart => exact ⟨0, Nat.zero_le _, rfl, Lib.hid (Below.refl _ _)⟩
    case round =>
      obtain ⟨k, hk, rfl, HBr⟩ := hrel
      by_cases hlt : k < r.length
      · obtain ⟨p, hp⟩ : ∃ p, r[k] = p := ⟨_, rfl⟩
        obtain ⟨b2, o2, rfl, _, x0, x1, x2, x3⟩ := plc_at (H2.out.below HBr.out) hlt hp
        obtain ⟨b3, o3, rfl, _, y0, y1, y2, y3⟩ := plc_at (H3.out.below HBr.out) hlt hp
        have X3 := Lib.hid x3
        have Y3 := Lib.hid y3
        have CC := Lib.hid fun z : Ext wr => csame_eq b p.frm p.len z.W
        have e0 : ∀ z : Ext wr, z.W.cell? ⟨b2, o2 + k * 42, none⟩ = some (.int .i64 p.id) := fun z => z.cell x0
        have e1 : ∀ z : Ext wr, z.W.cell? ⟨b2, o2 + k * 42 + 1, none⟩ = some (.int .i64 0) := fun z => z.cell x1
        have e2 : ∀ z : Ext wr, z.W.cell? ⟨b2, o2 + k * 42 + 2, none⟩ = some (.int .i64 p.off) := fun z => z.cell x2
        have f0 : ∀ z : Ext wr, z.W.cell? ⟨b3, o3 + k * 42, none⟩ = some (.int .i64 p.id) := fun z => z.cell y0
        have f1 : ∀ z : Ext wr, z.W.cell? ⟨b3, o3 + k * 42 + 1, none⟩ = some (.int .i64 0) := fun z => z.cell y1
        have f2 : ∀ z : Ext wr, z.W.cell? ⟨b3, o3 + k * 42 + 2, none⟩ = some (.int .i64 p.off) := fun z => z.cell y2
        have g5 : (0 : Int) ≤ (k : Int) := by omega
        have g6 : (k : Int) < (r.length : Int) := by omega
        clear x0 x1 x2 x3 y0 y1 y2 y3 hp
        go_wp2
        refine wp_region_ext (by kernel_rfl) (by kernel_rfl) ?_
        repeat (first
          | (refine wpQuiet_load_clip (by first | rfl | simp [Region.wanted, yielded]) (.tmp 83) rfl b2 (o2 + k * 42 + 3) rfl b p.frm p.len (by rintro _ ⟨z, rfl⟩ j v hv; exact z.cell (X3.out j v hv)) ?_; simp only [Act.put, List.setIfInBounds_toArray, List.set_cons_succ, List.set_cons_zero])
          | (refine wpQuiet_load_clip (by first | rfl | simp [Region.wanted, yielded]) (.tmp 88) rfl b3 (o3 + k * 42 + 3) rfl b p.frm p.len (by rintro _ ⟨z, rfl⟩ j v hv; exact z.cell (Y3.out j v hv)) ?_; simp only [Act.put, List.setIfInBounds_toArray, List.set_cons_succ, List.set_cons_zero])
          | go_big_quiet_step (first | with_reducible exact Ext.quiet (CC.out _)))
        refine wpQuiet_nil ?_
        rintro _ ⟨z, rfl⟩
        have HBz := Lib.hid (HBr.out.trans (z.h.mono HBr.out.size))
        go_wp2
        exact ⟨⟨k + 1, by omega, by simp, HBz⟩, by simp only [intOf]; omega⟩
      · obtain rfl : k = r.length := by omega
        go_wp2
        go_ret
        exact ⟨rfl, HB3.out.trans (HBr.out.mono HB3.out.size)⟩
end Go.Proofs.Yteconepbhajjeaa
