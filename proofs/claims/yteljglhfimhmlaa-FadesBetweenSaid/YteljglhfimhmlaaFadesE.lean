/- Package fades (layer 27), fifth part: faded by Out's closure. (The text of 'faded_in', turned.) -/
import Derived.Test.YteljglhfimhmlaaFadesD
namespace Go.Proofs.Yteljglhfimhmlaa
open Go.RowKit Go.Shelf
attribute [local go_sem] Oper.semAt_some

set_option maxHeartbeats 4000000 in
set_option maxRecDepth 100000 in
theorem faded_out (A : Option Addr) (n c m D0 : Nat) (l : List Int) (w : World) (hD0 : w.cell? ⟨D0, 0, none⟩ = some (.slice A n c)) (h : SL w A n c l) (hr : rightB n m = true) :
    Calls Try.prog 65 #[.slice A n c, .int .i64 m, .func (.func 68) #[] #[.pointer (some ⟨D0, 0, none⟩)]] w fun e w' => ∃ g, e = .returned (.tuple #[.slice (some ⟨g, 0, none⟩) n n, .int .i64 0]) ∧ w.heap.size ≤ g ∧
      Blk w' g 3 ((fadeL (fun i => l.length - 1 - i) m l (List.range m)).map vint).toArray ∧ Below w.heap.size w w' := by
  obtain rfl := h.n_eq
  have hr' : l.length ≤ 16777216 ∧ m ≤ l.length := by unfold rightB at hr; simp at hr; omega
  obtain ⟨hr1, hr2⟩ := hr'
  refine (callsIn_wide (n := 3)).1 ?_
  refine callsIn_of_wp_marks Try.func65 rfl trivial ?_ rfl
  simp only [Try.ntmps65, List.size_toArray, List.length_cons, List.length_nil, Nat.reduceAdd, Nat.reduceSub, Array.replicate_succ, Array.replicate_zero, List.push_toArray, List.append_toArray, List.nil_append, List.cons_append]
  obtain ⟨W, hW⟩ : ∃ W, (w.alloc (.cells #[.func (.func 68) #[] #[.pointer (some ⟨D0, 0, none⟩)]] 23)).alloc (.cells #[.slice none 0 0] 26) = W := ⟨_, rfl⟩
  have hWb : Below w.heap.size w W := by rw [← hW]; exact ((Below.refl _ w).alloc (Nat.le_refl _) _).alloc (by simp) _
  have hWs : W.heap.size = w.heap.size + 1 + 1 := by rw [← hW]; simp
  have hp0 : Blk W w.heap.size 23 #[.func (.func 68) #[] #[.pointer (some ⟨D0, 0, none⟩)]] := by rw [← hW]; exact (Blk.new w _ _).alloc _
  have hx0 : Blk W (w.heap.size + 1) 26 #[.slice none 0 0] := by rw [← hW]; have := Blk.new (w.alloc (.cells #[.func (.func 68) #[] #[.pointer (some ⟨D0, 0, none⟩)]] 23)) 26 #[.slice none 0 0]; simpa using this
  have CJ := joined_one A l.length c l W (h.below hWb) (by omega)
  rw [hWs, ← hW] at CJ
  have HW := Lib.hid hW
  have HWs := Lib.hid hWs
  have CR := right_any A l.length c l m W (h.below hWb)
  rw [hr, ← hW] at CR
  clear hW hWs
  gi_wp2_with (first
    | (refine ⟨trivial, ?_⟩; gi_at_call 69; refine (callsIn_wide.2 CR).mono ?_; rintro e w' ⟨rfl, rfl⟩)
    | (refine ⟨trivial, ?_⟩; gi_at_call 70; refine (callsIn_wide.2 CJ).mono ?_; rintro e w3 ⟨rfl, hblk, hb3, hb4⟩; rw [HW.out] at hb3 hb4; have hp3 := hp0.below hb3 (by omega); have hx3 := hx0.below hb3 (by omega); have hc6 : w3.cell? ⟨w.heap.size + 1, 0, none⟩ = some (.slice none 0 0) := hx3.cell 0; have hf6 := hx3.frozen 0; clear CJ CR)
    | (refine ⟨trivial, ?_⟩; gi_at_call 78; refine (callsIn_wide.2 (gains_any _ _)).mono ?_; rintro e w' ⟨rfl, rfl⟩))
  obtain ⟨W4, hW4⟩ : ∃ W4, (w3.setCell ⟨w.heap.size + 1, 0, none⟩ (.slice (some ⟨w.heap.size + 1 + 1 + 1, 0, none⟩) l.length l.length)).alloc (.cells #[.int .i64 (m : Int)] 3) = W4 := ⟨_, rfl⟩
  have s3 := hblk.lt
  have hWs := HWs.out
  have p4 : Blk W4 w.heap.size 23 #[.func (.func 68) #[] #[.pointer (some ⟨D0, 0, none⟩)]] := by rw [← hW4]; exact (hp3.far (by show w.heap.size ≠ w.heap.size + 1; omega) _).alloc _
  have x4 : Blk W4 (w.heap.size + 1) 26 #[.slice (some ⟨w.heap.size + 1 + 1 + 1, 0, none⟩) l.length l.length] := by rw [← hW4]; exact (hx3.set_ 0 _).alloc _
  have d4 : Blk W4 (w.heap.size + 1 + 1 + 1) 3 (l.map vint).toArray := by rw [← hW4]; exact (hblk.far (by show w.heap.size + 1 + 1 + 1 ≠ w.heap.size + 1; omega) _).alloc _
  have n4 : W4.cell? ⟨w3.heap.size, 0, none⟩ = some (.int .i64 (m : Int)) := by
    have := Blk.new (w3.setCell ⟨w.heap.size + 1, 0, none⟩ (.slice (some ⟨w.heap.size + 1 + 1 + 1, 0, none⟩) l.length l.length)) 3 #[.int .i64 (m : Int)]
    rw [hW4] at this
    have := this.cell 0
    simpa [World.setCell] using this
  have b4 : Below w.heap.size w W4 := by
    rw [← hW4]
    have h1 : Below w.heap.size w w3 := hWb.trans (hb3.mono (by omega))
    exact (h1.setCell (by show w.heap.size ≤ w.heap.size + 1; omega) _).alloc (by have := h1.size; simp [World.setCell]; omega) _
  have s4 : w3.heap.size < W4.heap.size := by rw [← hW4]; simp [World.setCell]
  rw [hW4]
  clear hW4 HW HWs hb4 hb3 hWb hx0 hp0 hc6 hf6 hx3 hp3 hblk hWs h
  refine wpIn_rangeFunc_ownF (α := Fin m) rfl (by omega) (gf := 81) (lb := #[.pointer (some ⟨w3.heap.size, 0, none⟩)]) rfl trivial (enters_of Try.func81 (by kernel_rfl) rfl)
    (gains_stops 2 m w3.heap.size (by omega) (by omega) W4 n4) KCell.t (KCell.b s4) (Below.refl _ _) (fun _ => rfl)
    (fun pre W => (Blk W w.heap.size 23 #[.func (.func 68) #[] #[.pointer (some ⟨D0, 0, none⟩)]] ∧ Blk W (w.heap.size + 1) 26 #[.slice (some ⟨w.heap.size + 1 + 1 + 1, 0, none⟩) l.length l.length] ∧
      Blk W (w.heap.size + 1 + 1 + 1) 3 ((fadeL (fun i => l.length - 1 - i) m l (vals pre)).map vint).toArray) ∧ Below w.heap.size w W)
    (fun _ _ _ => False)
    ?own (fun _ _ _ _ _ hs _ _ => hs) ⟨⟨p4, x4, d4⟩, b4⟩
    (fun x => { tmps := #[.slice A l.length c, .int .i64 (m : Int), .func (.func 68) #[] #[.pointer (some ⟨D0, 0, none⟩)], undef, undef, .pointer (some ⟨w.heap.size, 0, none⟩), .pointer (some ⟨w.heap.size + 1, 0, none⟩), .int .i64 0, .int .i64 (x.val : Int), .int .i64 (gainS x.val m),
      .slice A l.length c, .int .i64 (m : Int), .bool true, .bool false, .slice A l.length c, .slice (some ⟨w.heap.size + 1 + 1, 0, none⟩) 1 1, .slice (some ⟨w.heap.size + 1 + 1 + 1, 0, none⟩) l.length l.length, .int .i64 (m : Int), .func (.func 81) #[] #[.pointer (some ⟨w3.heap.size, 0, none⟩)], .int .i64 (x.val : Int), .int .i64 (gainS x.val m),
      undef, undef, undef, undef, undef, undef, undef, undef, undef, undef, undef, undef, undef, undef], defers := [] }) ?assign ?body ?done ?stop
  case own =>
    exact fun s X Y row hs hgr hrow => ⟨⟨blk_grown hs.1.1 hgr hrow (by omega), blk_grown hs.1.2.1 hgr hrow (by omega), blk_grown hs.1.2.2 hgr hrow (by omega)⟩, ownFrom_below (Nat.le_refl _) (by omega) s X Y row hs.2 hgr hrow⟩
  case assign =>
    intro l x W K hK
    dsimp only [gEncs]
    gi_wp2
    exact hK
  case body =>
    rintro l' pre x W ⟨⟨hp, hx, hd⟩, hb⟩ _
    obtain ⟨i, hi⟩ := x
    have hlen := fadeL_len (fun i => l.length - 1 - i) m l (vals pre)
    have hil : i < l.length := by omega
    have hsnoc : fadeL (fun i => l.length - 1 - i) m l (vals (pre ++ [⟨i, hi⟩])) = fadeStep (fun i => l.length - 1 - i) m (fadeL (fun i => l.length - 1 - i) m l (vals pre)) i := by rw [vals_snoc]; exact fadeL_snoc _ _ _ _ _
    have HN := Lib.hid hsnoc
    obtain ⟨ys, hys⟩ : ∃ ys, fadeL (fun i => l.length - 1 - i) m l (vals pre) = ys := ⟨_, rfl⟩
    rw [hys] at hd hlen HN
    have c5 : W.cell? ⟨w.heap.size, 0, none⟩ = some (.func (.func 68) #[] #[.pointer (some ⟨D0, 0, none⟩)]) := hp.cell 0
    have c6 : W.cell? ⟨w.heap.size + 1, 0, none⟩ = some (.slice (some ⟨w.heap.size + 1 + 1 + 1, 0, none⟩) l.length l.length) := hx.cell 0
    obtain ⟨q, hq⟩ : ∃ q, l.length - 1 - i = q := ⟨_, rfl⟩
    have hql : q < l.length := by omega
    have cd := blk_int hd (k := q) (by omega)
    have fd := hd.frozen q
    obtain ⟨y, hy⟩ : ∃ y, ys[q]?.getD 0 = y := ⟨_, rfl⟩
    rw [hy] at cd
    have hd2 := blk_set hd q (mulS y (gainS i m))
    have H2 := Lib.hid hd2
    have HY := Lib.hid hy
    have HP := Lib.hid hp
    have HX := Lib.hid hx
    have hi1 : (0 : Int) ≤ (q : Int) := by omega
    have hi2 : (q : Int) < (l.length : Int) := by omega
    have cD := (hb.cell (lt_of_cell hD0)).trans hD0
    have CO := outF_any i D0 l.length c A W.drew cD hil hr1
    rw [hq] at CO
    have HQ := Lib.hid hq
    clear hq
    clear hd2 hy hp hx hd p4 x4 d4 n4 b4 hys hsnoc hlen
    refine wpIn_block ?_
    refine wpIn_region_still_tail 13 (by kernel_rfl) (by kernel_rfl) rfl (by rintro ⟨_, _, h⟩; exact h) ?_
    simp only [List.take_succ_cons, List.take_zero, List.drop_succ_cons, List.drop_zero]
    repeat (first | still_step | still_call (CO.mono fun _ _ h => ⟨h.1, h.2.symm⟩) | still_call ((mul_any _ _ _).mono fun _ _ h => ⟨h.1, h.2.symm⟩))
    refine wpStill_nil ?_
    go_wp2
    refine ⟨(KeepsOthers.setCell _ _ _).trans (KeepsOthers.drew _), World.cell?_setCell_other _ _ _ _ (by simp), ⟨⟨(HP.out.far (by show w.heap.size ≠ w.heap.size + 1 + 1 + 1; omega) _).drew, (HX.out.far (by show w.heap.size + 1 ≠ w.heap.size + 1 + 1 + 1; omega) _).drew, ?_⟩, (hb.setCell (by show w.heap.size ≤ w.heap.size + 1 + 1 + 1; omega) _).drew⟩⟩
    rw [HN.out]
    have H3 := H2.out
    unfold fadeStep
    dsimp only
    rw [HQ.out, HY.out]
    exact H3
  case done =>
    rintro D xs W hD rfl ⟨⟨hp, hx, hd⟩, hb⟩ hK
    rw [vals_all] at hd
    have c6 : W.cell? ⟨w.heap.size + 1, 0, none⟩ = some (.slice (some ⟨w.heap.size + 1 + 1 + 1, 0, none⟩) l.length l.length) := hx.cell 0
    have f6 := hx.frozen 0
    have b4s := b4.size
    clear p4 x4 d4 n4 b4 hp
    gi_wp2
    obtain ⟨W5, hW5⟩ : ∃ W5, W.setCell ⟨w.heap.size + 1, 0, none⟩ (.slice (some ⟨w.heap.size + 1 + 1 + 1, 0, none⟩) l.length l.length) = W5 := ⟨_, rfl⟩
    have x5 : Blk W5 (w.heap.size + 1) 26 #[.slice (some ⟨w.heap.size + 1 + 1 + 1, 0, none⟩) l.length l.length] := by rw [← hW5]; exact hx.set_ 0 _
    have d5 := hd.far (p := ⟨w.heap.size + 1, 0, none⟩) (by show w.heap.size + 1 + 1 + 1 ≠ w.heap.size + 1; omega) (.slice (some ⟨w.heap.size + 1 + 1 + 1, 0, none⟩) l.length l.length)
    have b5 := hb.setCell (p := ⟨w.heap.size + 1, 0, none⟩) (by show w.heap.size ≤ w.heap.size + 1; omega) (.slice (some ⟨w.heap.size + 1 + 1 + 1, 0, none⟩) l.length l.length)
    have K5 := (KeepsOthers.setCell W ⟨w.heap.size + 1, 0, none⟩ (.slice (some ⟨w.heap.size + 1 + 1 + 1, 0, none⟩) l.length l.length)).same D _ hK rfl
    rw [hW5] at d5 b5 K5 ⊢
    refine ⟨by simp, .inl ⟨_, _, rfl, run_takeDeferred K5, ?_⟩⟩
    have x6 := blk_putObj x5 (D := D) (by omega) (.deferred none)
    have c7 : (W5.putObj D (.deferred none)).cell? ⟨w.heap.size + 1, 0, none⟩ = some (.slice (some ⟨w.heap.size + 1 + 1 + 1, 0, none⟩) l.length l.length) := x6.cell 0
    refine ⟨.tuple #[.slice (some ⟨w.heap.size + 1 + 1 + 1, 0, none⟩) l.length l.length, .int .i64 0], by simp [results, Try.results65, go_sem, c7], _, rfl, by omega, blk_putObj d5 (by omega) _, ?_⟩
    exact b5.trans (belowK_b (w := W4) b4s W5 D _ _ hD K5 rfl rfl)
  case stop =>
    rintro D c pre W _ _ h _
    exact h.elim
end Go.Proofs.Yteljglhfimhmlaa
