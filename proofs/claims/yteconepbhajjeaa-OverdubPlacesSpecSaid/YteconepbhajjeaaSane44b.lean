/- 'sane' of layer 44: the chapter's examples come out as they should. (Written by wip/mksane44.py.) -/
import Derived.Test.YteconepbhajjeaaSane44
namespace Go.Proofs.Yteconepbhajjeaa
open Go.RowKit

/-- Places with the digest of the chapter's example. -/
theorem places_eq7 {A : Option Addr} {c : Nat} {w : World} (h : SA laidE w A 1 c [⟨2, 8, 0, 0⟩]) :
    Calls Try.prog 15 #[.slice A 1 c, .agg #[.int .u8 7, .int .u8 0, .int .u8 0, .int .u8 0, .int .u8 0, .int .u8 0, .int .u8 0, .int .u8 0, .int .u8 0, .int .u8 0, .int .u8 0, .int .u8 0, .int .u8 0, .int .u8 0, .int .u8 0, .int .u8 0, .int .u8 0, .int .u8 0, .int .u8 0, .int .u8 0, .int .u8 0, .int .u8 0, .int .u8 0, .int .u8 0, .int .u8 0, .int .u8 0, .int .u8 0, .int .u8 0, .int .u8 0, .int .u8 0, .int .u8 0, .int .u8 0]] w fun e w' =>
      ∃ A' c', e = .returned (.tuple #[.slice A' 1 c', .int .i64 0]) ∧ SA (plcE dig7) w' A' 1 c' [⟨1, 0, 2, 8⟩] ∧ Below w.heap.size w w' := by
  have := places_any A 1 c [⟨2, 8, 0, 0⟩] dig7 w h
  refine this.mono ?_
  unfold PlcRet
  rw [sPlaces]
  rintro e w' ⟨A', n', c', rfl, ho, hb⟩
  obtain rfl : n' = 1 := ho.n_eq.symm
  exact ⟨A', c', rfl, ho.sa, hb⟩
theorem wpList_load_clip {ops : Array Oper} {rest : List Oper} {o : Oper} {a : Act} {w : World} {Q : Exit → Act → World → Prop} (hw : Region.wanted o (yielded ops a.tmps) = true) (x : Operand) (ho : o.op = .load 41 x)
    (g i : Nat) (hx : a.eval x = .pointer (some ⟨g, i, none⟩)) (b : Nat → Int) (f n : Int) (hc : ∀ j v, (clipA b f n)[j]? = some v → w.cell? ⟨g, i + j, none⟩ = some v) (h : wpList Try.prog ops Q rest (a.put o.dst (.agg (clipA b f n))) w) :
    wpList Try.prog ops Q (o :: rest) a w := by
  refine wpList_wanted hw fun K hK => ?_
  have := run_loadAt_mid (P := Try.prog) w g i 41 (clipA b f n).toList _ (fun j v hv => hc j v (by simpa using hv)) Try.underlying41 rfl (by kernel_rfl)
  rw [Array.toArray_toList] at this
  unfold Oper.wp execOp
  simp only [ho, hx, this, Result.andThen_ok, Sem.run_bind]
  exact hK _ _ h
theorem plc_clip {b : Nat → Int} {w : World} {bb o c : Nat} {p : Plc} (h : SA (plcE b) w (some ⟨bb, o, none⟩) 1 c [p]) :
    w.cell? ⟨bb, o, none⟩ = some (.int .i64 p.id) ∧ w.cell? ⟨bb, o + 2, none⟩ = some (.int .i64 p.off) ∧ ∀ j v, (clipA b p.frm p.len)[j]? = some v → w.cell? ⟨bb, o + 3 + j, none⟩ = some v := by
  obtain ⟨b', o', e, _, hc⟩ := h.at_ (k := 0) (by simp)
  injection e with e
  injection e with e1 e2 _
  subst e1 e2
  simp only [Nat.zero_mul, Nat.add_zero] at hc
  refine ⟨by simpa using hc 0 _ rfl, hc 2 _ rfl, fun j v hv => ?_⟩
  rw [Nat.add_assoc]
  refine hc (3 + j) v ?_
  rw [Nat.add_comm 3 j]
  show (clipL b p)[j]? = some v
  have e : (clipA b p.frm p.len).toList = clipL b p := rfl
  rw [← e, Array.getElem?_toList]
  exact hv
set_option maxHeartbeats 4000000 in
set_option maxRecDepth 100000 in
theorem sane44_any (w : World) : Calls Try.prog 9 #[] w fun e w' => e = .returned (.bool true) ∧ Below w.heap.size w w' := by
  go_enter Try.func9, Try.ntmps9
  go_wp2_with fail
  refine (span_any _ _ _ _ _).mono ?_
  rintro e w1 ⟨rfl, b1⟩
  go_wp2_with fail
  refine (span_any _ _ _ _ _).mono ?_
  rintro e w2 ⟨rfl, b2⟩
  have hB := b1.trans (b2.mono b1.size)
  clear b1 b2
  have hL := (SA.lit (e := spanE) (l := [⟨0, 4, 0, true, true⟩, ⟨4, 4, 0, true, true⟩]) (n := 2) (cs := #[.int .i64 0, .int .i64 4, .int .i64 0, .bool true, .bool true, .int .i64 4, .int .i64 4, .int .i64 0, .bool true, .bool true]) w2 rfl rfl (by omega))
  have hT := (SA.lit (e := laidE) (l := [⟨0, 4, 0, 0⟩, ⟨4, 4, 0, 1⟩]) (n := 2) (cs := #[.int .i64 0, .int .i64 4, .int .i64 0, .int .i64 0, .int .i64 4, .int .i64 4, .int .i64 0, .int .i64 1]) (w2.alloc (.cells #[.int .i64 0, .int .i64 4, .int .i64 0, .bool true, .bool true, .int .i64 4, .int .i64 4, .int .i64 0, .bool true, .bool true] 50)) rfl rfl (by omega))
  rw [World.size_alloc] at hT
  replace hL := hL.alloc (.cells #[.int .i64 0, .int .i64 4, .int .i64 0, .int .i64 0, .int .i64 4, .int .i64 4, .int .i64 0, .int .i64 1] 52)
  replace hB := Bel.al (Bel.al hB (.cells #[.int .i64 0, .int .i64 4, .int .i64 0, .bool true, .bool true, .int .i64 4, .int .i64 4, .int .i64 0, .bool true, .bool true] 50)) (.cells #[.int .i64 0, .int .i64 4, .int .i64 0, .int .i64 0, .int .i64 4, .int .i64 4, .int .i64 0, .int .i64 1] 52)
  go_wp2_with fail
  refine (span_any _ _ _ _ _).mono ?_
  rintro e w3 ⟨rfl, hbe⟩
  replace hL := hL.below hbe
  replace hT := hT.below hbe
  replace hB := Bel.on0 hB hbe
  clear hbe
  have hx := SA.lit (e := spanE) (l := [⟨100, 50, 0, true, true⟩]) (n := 1) (cs := #[.int .i64 100, .int .i64 50, .int .i64 0, .bool true, .bool true]) w3 rfl rfl (by omega)
  replace hL := hL.alloc (.cells #[.int .i64 100, .int .i64 50, .int .i64 0, .bool true, .bool true] 50)
  replace hT := hT.alloc (.cells #[.int .i64 100, .int .i64 50, .int .i64 0, .bool true, .bool true] 50)
  replace hB := Bel.al hB (.cells #[.int .i64 100, .int .i64 50, .int .i64 0, .bool true, .bool true] 50)
  go_wp2_with fail
  refine (lay_eqn sLay1 hx).mono ?_
  rintro e w4 ⟨Aa, ca, rfl, ha, hbe⟩
  dsimp only [List.length_cons, List.length_nil, Nat.reduceAdd] at ha ⊢
  replace hL := hL.below hbe
  replace hT := hT.below hbe
  replace hB := Bel.on0 hB hbe
  clear hbe
  clear hx
  go_wp2_with fail
  refine (lay_eqn sLay2 hL).mono ?_
  rintro e w5 ⟨Ab, cb, rfl, hb, hbe⟩
  dsimp only [List.length_cons, List.length_nil, Nat.reduceAdd] at hb ⊢
  replace hL := hL.below hbe
  replace hT := hT.below hbe
  replace ha := ha.below hbe
  replace hB := Bel.on0 hB hbe
  clear hbe
  go_wp2_with fail
  refine (lay_eqn sLay3 hL).mono ?_
  rintro e w6 ⟨Ac, cc, rfl, hc, hbe⟩
  dsimp only [List.length_cons, List.length_nil, Nat.reduceAdd] at hc ⊢
  replace hL := hL.below hbe
  replace hT := hT.below hbe
  replace ha := ha.below hbe
  replace hb := hb.below hbe
  replace hB := Bel.on0 hB hbe
  clear hbe
  clear hL
  go_wp2_with fail
  refine (span_any _ _ _ _ _).mono ?_
  rintro e w7 ⟨rfl, hbe⟩
  replace hT := hT.below hbe
  replace ha := ha.below hbe
  replace hb := hb.below hbe
  replace hc := hc.below hbe
  replace hB := Bel.on0 hB hbe
  clear hbe
  go_wp2_with fail
  refine (span_any _ _ _ _ _).mono ?_
  rintro e w8 ⟨rfl, hbe⟩
  replace hT := hT.below hbe
  replace ha := ha.below hbe
  replace hb := hb.below hbe
  replace hc := hc.below hbe
  replace hB := Bel.on0 hB hbe
  clear hbe
  have hx := SA.lit (e := spanE) (l := [⟨0, 4, 0, true, true⟩, ⟨4, 4, 4, true, true⟩]) (n := 2) (cs := #[.int .i64 0, .int .i64 4, .int .i64 0, .bool true, .bool true, .int .i64 4, .int .i64 4, .int .i64 4, .bool true, .bool true]) w8 rfl rfl (by omega)
  replace hT := hT.alloc (.cells #[.int .i64 0, .int .i64 4, .int .i64 0, .bool true, .bool true, .int .i64 4, .int .i64 4, .int .i64 4, .bool true, .bool true] 50)
  replace ha := ha.alloc (.cells #[.int .i64 0, .int .i64 4, .int .i64 0, .bool true, .bool true, .int .i64 4, .int .i64 4, .int .i64 4, .bool true, .bool true] 50)
  replace hb := hb.alloc (.cells #[.int .i64 0, .int .i64 4, .int .i64 0, .bool true, .bool true, .int .i64 4, .int .i64 4, .int .i64 4, .bool true, .bool true] 50)
  replace hc := hc.alloc (.cells #[.int .i64 0, .int .i64 4, .int .i64 0, .bool true, .bool true, .int .i64 4, .int .i64 4, .int .i64 4, .bool true, .bool true] 50)
  replace hB := Bel.al hB (.cells #[.int .i64 0, .int .i64 4, .int .i64 0, .bool true, .bool true, .int .i64 4, .int .i64 4, .int .i64 4, .bool true, .bool true] 50)
  go_wp2_with fail
  refine (lay_eqn sLay4 hx).mono ?_
  rintro e w9 ⟨Ad, cd, rfl, hd, hbe⟩
  dsimp only [List.length_cons, List.length_nil, Nat.reduceAdd] at hd ⊢
  replace hT := hT.below hbe
  replace ha := ha.below hbe
  replace hb := hb.below hbe
  replace hc := hc.below hbe
  replace hB := Bel.on0 hB hbe
  clear hbe
  clear hx
  go_wp2_with fail
  refine (span_any _ _ _ _ _).mono ?_
  rintro e w10 ⟨rfl, hbe⟩
  replace hT := hT.below hbe
  replace ha := ha.below hbe
  replace hb := hb.below hbe
  replace hc := hc.below hbe
  replace hd := hd.below hbe
  replace hB := Bel.on0 hB hbe
  clear hbe
  go_wp2_with fail
  refine (span_any _ _ _ _ _).mono ?_
  rintro e w11 ⟨rfl, hbe⟩
  replace hT := hT.below hbe
  replace ha := ha.below hbe
  replace hb := hb.below hbe
  replace hc := hc.below hbe
  replace hd := hd.below hbe
  replace hB := Bel.on0 hB hbe
  clear hbe
  have hx := SA.lit (e := spanE) (l := [⟨0, 4, 0, true, true⟩, ⟨4, 4, 4, true, false⟩]) (n := 2) (cs := #[.int .i64 0, .int .i64 4, .int .i64 0, .bool true, .bool true, .int .i64 4, .int .i64 4, .int .i64 4, .bool true, .bool false]) w11 rfl rfl (by omega)
  replace hT := hT.alloc (.cells #[.int .i64 0, .int .i64 4, .int .i64 0, .bool true, .bool true, .int .i64 4, .int .i64 4, .int .i64 4, .bool true, .bool false] 50)
  replace ha := ha.alloc (.cells #[.int .i64 0, .int .i64 4, .int .i64 0, .bool true, .bool true, .int .i64 4, .int .i64 4, .int .i64 4, .bool true, .bool false] 50)
  replace hb := hb.alloc (.cells #[.int .i64 0, .int .i64 4, .int .i64 0, .bool true, .bool true, .int .i64 4, .int .i64 4, .int .i64 4, .bool true, .bool false] 50)
  replace hc := hc.alloc (.cells #[.int .i64 0, .int .i64 4, .int .i64 0, .bool true, .bool true, .int .i64 4, .int .i64 4, .int .i64 4, .bool true, .bool false] 50)
  replace hd := hd.alloc (.cells #[.int .i64 0, .int .i64 4, .int .i64 0, .bool true, .bool true, .int .i64 4, .int .i64 4, .int .i64 4, .bool true, .bool false] 50)
  replace hB := Bel.al hB (.cells #[.int .i64 0, .int .i64 4, .int .i64 0, .bool true, .bool true, .int .i64 4, .int .i64 4, .int .i64 4, .bool true, .bool false] 50)
  go_wp2_with fail
  refine (lay_eqn sLay5 hx).mono ?_
  rintro e w12 ⟨An, cn, rfl, hn, hbe⟩
  dsimp only [List.length_cons, List.length_nil, Nat.reduceAdd] at hn ⊢
  replace hT := hT.below hbe
  replace ha := ha.below hbe
  replace hb := hb.below hbe
  replace hc := hc.below hbe
  replace hd := hd.below hbe
  replace hB := Bel.on0 hB hbe
  clear hbe
  clear hx
  go_wp2_with fail
  refine (lay_eqn sLay6 SA.nil).mono ?_
  rintro e w13 ⟨Aj, cj, rfl, hj, hbe⟩
  dsimp only [List.length_cons, List.length_nil, Nat.reduceAdd] at hj ⊢
  replace hT := hT.below hbe
  replace ha := ha.below hbe
  replace hb := hb.below hbe
  replace hc := hc.below hbe
  replace hd := hd.below hbe
  replace hn := hn.below hbe
  replace hB := Bel.on0 hB hbe
  clear hbe
  clear hj
  have hR := SA.lit (e := rcdE) (l := sRecs) (n := 2) (cs := #[.int .i64 0, .int .i64 0, .int .i64 5, .int .i64 2, .int .i64 3, .int .i64 0, .int .i64 0, .int .i64 9, .int .i64 2, .int .i64 2]) w13 rfl rfl (by omega)
  replace hT := hT.alloc (.cells #[.int .i64 0, .int .i64 0, .int .i64 5, .int .i64 2, .int .i64 3, .int .i64 0, .int .i64 0, .int .i64 9, .int .i64 2, .int .i64 2] 62)
  replace ha := ha.alloc (.cells #[.int .i64 0, .int .i64 0, .int .i64 5, .int .i64 2, .int .i64 3, .int .i64 0, .int .i64 0, .int .i64 9, .int .i64 2, .int .i64 2] 62)
  replace hb := hb.alloc (.cells #[.int .i64 0, .int .i64 0, .int .i64 5, .int .i64 2, .int .i64 3, .int .i64 0, .int .i64 0, .int .i64 9, .int .i64 2, .int .i64 2] 62)
  replace hc := hc.alloc (.cells #[.int .i64 0, .int .i64 0, .int .i64 5, .int .i64 2, .int .i64 3, .int .i64 0, .int .i64 0, .int .i64 9, .int .i64 2, .int .i64 2] 62)
  replace hd := hd.alloc (.cells #[.int .i64 0, .int .i64 0, .int .i64 5, .int .i64 2, .int .i64 3, .int .i64 0, .int .i64 0, .int .i64 9, .int .i64 2, .int .i64 2] 62)
  replace hn := hn.alloc (.cells #[.int .i64 0, .int .i64 0, .int .i64 5, .int .i64 2, .int .i64 3, .int .i64 0, .int .i64 0, .int .i64 9, .int .i64 2, .int .i64 2] 62)
  replace hB := Bel.al hB (.cells #[.int .i64 0, .int .i64 0, .int .i64 5, .int .i64 2, .int .i64 3, .int .i64 0, .int .i64 0, .int .i64 9, .int .i64 2, .int .i64 2] 62)
  go_wp2_with fail
  refine (span_any _ _ _ _ _).mono ?_
  rintro e w14 ⟨rfl, hbe⟩
  replace hT := hT.below hbe
  replace ha := ha.below hbe
  replace hb := hb.below hbe
  replace hc := hc.below hbe
  replace hd := hd.below hbe
  replace hn := hn.below hbe
  replace hR := hR.below hbe
  replace hB := Bel.on0 hB hbe
  clear hbe
  have hx := SA.lit (e := spanE) (l := [⟨100, 50, 0, true, true⟩]) (n := 1) (cs := #[.int .i64 100, .int .i64 50, .int .i64 0, .bool true, .bool true]) w14 rfl rfl (by omega)
  replace hT := hT.alloc (.cells #[.int .i64 100, .int .i64 50, .int .i64 0, .bool true, .bool true] 50)
  replace ha := ha.alloc (.cells #[.int .i64 100, .int .i64 50, .int .i64 0, .bool true, .bool true] 50)
  replace hb := hb.alloc (.cells #[.int .i64 100, .int .i64 50, .int .i64 0, .bool true, .bool true] 50)
  replace hc := hc.alloc (.cells #[.int .i64 100, .int .i64 50, .int .i64 0, .bool true, .bool true] 50)
  replace hd := hd.alloc (.cells #[.int .i64 100, .int .i64 50, .int .i64 0, .bool true, .bool true] 50)
  replace hn := hn.alloc (.cells #[.int .i64 100, .int .i64 50, .int .i64 0, .bool true, .bool true] 50)
  replace hR := hR.alloc (.cells #[.int .i64 100, .int .i64 50, .int .i64 0, .bool true, .bool true] 50)
  replace hB := Bel.al hB (.cells #[.int .i64 100, .int .i64 50, .int .i64 0, .bool true, .bool true] 50)
  go_wp2_with fail
  refine (again_eqn sAgain1 (hR) hx).mono ?_
  rintro e w15 ⟨Ao, co, rfl, ho, hbe⟩
  dsimp only [List.length_cons, List.length_nil, Nat.reduceAdd] at ho ⊢
  replace hT := hT.below hbe
  replace ha := ha.below hbe
  replace hb := hb.below hbe
  replace hc := hc.below hbe
  replace hd := hd.below hbe
  replace hn := hn.below hbe
  replace hR := hR.below hbe
  replace hB := Bel.on0 hB hbe
  clear hbe
  clear hx
  go_wp2_with fail
  refine (again_eqn sAgain2 hR SA.nil).mono ?_
  rintro e w16 ⟨Am, cm, rfl, hm, hbe⟩
  dsimp only [List.length_cons, List.length_nil, Nat.reduceAdd] at hm ⊢
  replace hT := hT.below hbe
  replace ha := ha.below hbe
  replace hb := hb.below hbe
  replace hc := hc.below hbe
  replace hd := hd.below hbe
  replace hn := hn.below hbe
  replace hR := hR.below hbe
  replace ho := ho.below hbe
  replace hB := Bel.on0 hB hbe
  clear hbe
  clear hm hR
  go_wp2_with fail
  refine (places_eq7 ha).mono ?_
  rintro e w17 ⟨Ap, cp, rfl, hp, hbe⟩
  replace hT := hT.below hbe
  replace ha := ha.below hbe
  replace hb := hb.below hbe
  replace hc := hc.below hbe
  replace hd := hd.below hbe
  replace hn := hn.below hbe
  replace ho := ho.below hbe
  replace hB := Bel.on0 hB hbe
  clear hbe
  have hy := SA.lit (e := laidE) (l := [⟨2, 8, 0, 0⟩]) (n := 1) (cs := #[.int .i64 2, .int .i64 8, .int .i64 0, .int .i64 0]) w17 rfl rfl (by omega)
  replace hT := hT.alloc (.cells #[.int .i64 2, .int .i64 8, .int .i64 0, .int .i64 0] 52)
  replace ha := ha.alloc (.cells #[.int .i64 2, .int .i64 8, .int .i64 0, .int .i64 0] 52)
  replace hb := hb.alloc (.cells #[.int .i64 2, .int .i64 8, .int .i64 0, .int .i64 0] 52)
  replace hc := hc.alloc (.cells #[.int .i64 2, .int .i64 8, .int .i64 0, .int .i64 0] 52)
  replace hd := hd.alloc (.cells #[.int .i64 2, .int .i64 8, .int .i64 0, .int .i64 0] 52)
  replace hn := hn.alloc (.cells #[.int .i64 2, .int .i64 8, .int .i64 0, .int .i64 0] 52)
  replace ho := ho.alloc (.cells #[.int .i64 2, .int .i64 8, .int .i64 0, .int .i64 0] 52)
  replace hp := hp.alloc (.cells #[.int .i64 2, .int .i64 8, .int .i64 0, .int .i64 0] 52)
  replace hB := Bel.al hB (.cells #[.int .i64 2, .int .i64 8, .int .i64 0, .int .i64 0] 52)
  go_wp2_with fail
  refine (rsame_eq ha hy rfl).mono ?_
  rintro e w18 ⟨rfl, hbe⟩
  clear hy
  replace hT := hT.below hbe
  replace ha := ha.below hbe
  replace hb := hb.below hbe
  replace hc := hc.below hbe
  replace hd := hd.below hbe
  replace hn := hn.below hbe
  replace ho := ho.below hbe
  replace hp := hp.below hbe
  replace hB := Bel.on0 hB hbe
  clear hbe
  go_wp2_with fail
  refine (rsame_eq hb hT rfl).mono ?_
  rintro e w19 ⟨rfl, hbe⟩
  replace hT := hT.below hbe
  replace ha := ha.below hbe
  replace hb := hb.below hbe
  replace hc := hc.below hbe
  replace hd := hd.below hbe
  replace hn := hn.below hbe
  replace ho := ho.below hbe
  replace hp := hp.below hbe
  replace hB := Bel.on0 hB hbe
  clear hbe
  go_wp2_with fail
  refine (rsame_eq hc hT rfl).mono ?_
  rintro e w20 ⟨rfl, hbe⟩
  replace hT := hT.below hbe
  replace ha := ha.below hbe
  replace hb := hb.below hbe
  replace hc := hc.below hbe
  replace hd := hd.below hbe
  replace hn := hn.below hbe
  replace ho := ho.below hbe
  replace hp := hp.below hbe
  replace hB := Bel.on0 hB hbe
  clear hbe
  have hy := SA.lit (e := laidE) (l := [⟨0, 8, 0, 0⟩]) (n := 1) (cs := #[.int .i64 0, .int .i64 8, .int .i64 0, .int .i64 0]) w20 rfl rfl (by omega)
  replace hT := hT.alloc (.cells #[.int .i64 0, .int .i64 8, .int .i64 0, .int .i64 0] 52)
  replace ha := ha.alloc (.cells #[.int .i64 0, .int .i64 8, .int .i64 0, .int .i64 0] 52)
  replace hb := hb.alloc (.cells #[.int .i64 0, .int .i64 8, .int .i64 0, .int .i64 0] 52)
  replace hc := hc.alloc (.cells #[.int .i64 0, .int .i64 8, .int .i64 0, .int .i64 0] 52)
  replace hd := hd.alloc (.cells #[.int .i64 0, .int .i64 8, .int .i64 0, .int .i64 0] 52)
  replace hn := hn.alloc (.cells #[.int .i64 0, .int .i64 8, .int .i64 0, .int .i64 0] 52)
  replace ho := ho.alloc (.cells #[.int .i64 0, .int .i64 8, .int .i64 0, .int .i64 0] 52)
  replace hp := hp.alloc (.cells #[.int .i64 0, .int .i64 8, .int .i64 0, .int .i64 0] 52)
  replace hB := Bel.al hB (.cells #[.int .i64 0, .int .i64 8, .int .i64 0, .int .i64 0] 52)
  go_wp2_with fail
  refine (rsame_eq hd hy rfl).mono ?_
  rintro e w21 ⟨rfl, hbe⟩
  clear hy
  replace hT := hT.below hbe
  replace ha := ha.below hbe
  replace hb := hb.below hbe
  replace hc := hc.below hbe
  replace hd := hd.below hbe
  replace hn := hn.below hbe
  replace ho := ho.below hbe
  replace hp := hp.below hbe
  replace hB := Bel.on0 hB hbe
  clear hbe
  have hy := SA.lit (e := laidE) (l := [⟨0, 4, 0, 0⟩]) (n := 1) (cs := #[.int .i64 0, .int .i64 4, .int .i64 0, .int .i64 0]) w21 rfl rfl (by omega)
  replace hT := hT.alloc (.cells #[.int .i64 0, .int .i64 4, .int .i64 0, .int .i64 0] 52)
  replace ha := ha.alloc (.cells #[.int .i64 0, .int .i64 4, .int .i64 0, .int .i64 0] 52)
  replace hb := hb.alloc (.cells #[.int .i64 0, .int .i64 4, .int .i64 0, .int .i64 0] 52)
  replace hc := hc.alloc (.cells #[.int .i64 0, .int .i64 4, .int .i64 0, .int .i64 0] 52)
  replace hd := hd.alloc (.cells #[.int .i64 0, .int .i64 4, .int .i64 0, .int .i64 0] 52)
  replace hn := hn.alloc (.cells #[.int .i64 0, .int .i64 4, .int .i64 0, .int .i64 0] 52)
  replace ho := ho.alloc (.cells #[.int .i64 0, .int .i64 4, .int .i64 0, .int .i64 0] 52)
  replace hp := hp.alloc (.cells #[.int .i64 0, .int .i64 4, .int .i64 0, .int .i64 0] 52)
  replace hB := Bel.al hB (.cells #[.int .i64 0, .int .i64 4, .int .i64 0, .int .i64 0] 52)
  go_wp2_with fail
  refine (rsame_eq hn hy rfl).mono ?_
  rintro e w22 ⟨rfl, hbe⟩
  clear hy
  replace hT := hT.below hbe
  replace ha := ha.below hbe
  replace hb := hb.below hbe
  replace hc := hc.below hbe
  replace hd := hd.below hbe
  replace hn := hn.below hbe
  replace ho := ho.below hbe
  replace hp := hp.below hbe
  replace hB := Bel.on0 hB hbe
  clear hbe
  go_wp2_with fail
  refine (rsame_eq ho ha rfl).mono ?_
  rintro e w23 ⟨rfl, hbe⟩
  replace hT := hT.below hbe
  replace ha := ha.below hbe
  replace hb := hb.below hbe
  replace hc := hc.below hbe
  replace hd := hd.below hbe
  replace hn := hn.below hbe
  replace ho := ho.below hbe
  replace hp := hp.below hbe
  replace hB := Bel.on0 hB hbe
  clear hbe
  obtain ⟨bb, oo, rfl, _, _⟩ := hp.at_ (k := 0) (by simp)
  obtain ⟨p0, p1, p2⟩ := plc_clip hp
  have HP2 := Lib.hid p2
  clear p2 hp
  go_wp2_with (first
    | (refine wpList_load_clip (by first | rfl | simp [Region.wanted, yielded]) (.tmp 174) rfl bb (oo + 3) rfl dig7 2 8 HP2.out ?_)
    | fail)
  refine (csame_eq dig7 2 8 _).mono ?_
  rintro e w99 ⟨rfl, hb⟩
  replace hB := Bel.on0 hB hb
  clear hb
  go_wp2
  go_ret
  exact ⟨rfl, hB⟩
end Go.Proofs.Yteconepbhajjeaa
