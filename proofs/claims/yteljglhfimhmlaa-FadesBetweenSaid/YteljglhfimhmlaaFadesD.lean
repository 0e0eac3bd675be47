/- Package fades (layer 27), fourth part: faded. -/
import Derived.Test.YteljglhfimhmlaaFadesC
import Derived.Test.YteljglhfimhmlaaRound
namespace Go.Proofs.Yteljglhfimhmlaa
open Go.RowKit Go.Shelf
attribute [local go_sem] Oper.semAt_some

theorem gains_any (m : Int) (w : World) : Calls Try.prog 78 #[.int .i64 m] w fun e w' => e = .returned (.func (.func 81) #[] #[.pointer (some ⟨w.heap.size, 0, none⟩)]) ∧ w.alloc (.cells #[.int .i64 m] 3) = w' := by
  go_enter Try.func78, Try.ntmps78
  go_wp2
  go_ret
  exact ⟨rfl, rfl⟩
theorem inF_any (i : Int) (w : World) : Calls Try.prog 66 #[.int .i64 i] w fun e w' => e = .returned (.int .i64 i) ∧ w = w' := by
  go_enter Try.func66, Try.ntmps66
  go_wp2
  go_ret
  exact ⟨rfl, rfl⟩
theorem outF_any (i : Nat) (D n c : Nat) (A : Option Addr) (w : World) (h : w.cell? ⟨D, 0, none⟩ = some (.slice A n c)) (hi : i < n) (hn : n ≤ 16777216) :
    Calls Try.prog 68 #[.int .i64 (i : Int), .pointer (some ⟨D, 0, none⟩)] w fun e w' => e = .returned (.int .i64 ((n - 1 - i : Nat) : Int)) ∧ w = w' := by
  go_enter Try.func68, Try.ntmps68
  go_wp2
  go_ret
  exact ⟨ret_int (by omega), rfl⟩

/-- One step of a fade: element number p by gain number i of m. -/
def fadeStep (pl : Nat → Nat) (m : Nat) (xs : List Int) (i : Nat) : List Int := xs.set (pl i) (mulS (xs[pl i]?.getD 0) (gainS i m))
def fadeL (pl : Nat → Nat) (m : Nat) (l : List Int) (is : List Nat) : List Int := is.foldl (fadeStep pl m) l
theorem fadeL_snoc (pl : Nat → Nat) (m : Nat) (l : List Int) (is : List Nat) (i : Nat) : fadeL pl m l (is ++ [i]) = fadeStep pl m (fadeL pl m l is) i := by simp [fadeL]
def vals {m : Nat} (pre : List (Fin m)) : List Nat := pre.map Fin.val
theorem vals_snoc {m : Nat} (pre : List (Fin m)) (x : Fin m) : vals (pre ++ [x]) = vals pre ++ [x.val] := by simp [vals]
theorem vals_all (m : Nat) : vals (List.finRange m) = List.range m := by
  unfold vals
  apply List.ext_getElem
  · simp
  · intro i h1 h2; simp
theorem fadeStep_len (pl : Nat → Nat) (m : Nat) (xs : List Int) (i : Nat) : (fadeStep pl m xs i).length = xs.length := by simp [fadeStep]
theorem fadeL_len (pl : Nat → Nat) (m : Nat) (l : List Int) : ∀ is : List Nat, (fadeL pl m l is).length = l.length := by
  intro is
  unfold fadeL
  induction is generalizing l with
  | nil => rfl
  | cons i is ih => rw [List.foldl_cons, ih, fadeStep_len]

theorem blk_int {w : World} {g : Nat} {t : TypeId} {l : List Int} (h : Blk w g t (l.map vint).toArray) {k : Nat} (hk : k < l.length) : w.cell? ⟨g, k, none⟩ = some (.int .i64 (l[k]?.getD 0)) := by
  rw [h.cell]; simp [hk]
theorem blk_set {w : World} {g : Nat} {t : TypeId} {l : List Int} (h : Blk w g t (l.map vint).toArray) (k : Nat) (v : Int) : Blk (w.setCell ⟨g, k, none⟩ (.int .i64 v)) g t ((l.set k v).map vint).toArray := by
  have := h.set_ k (.int .i64 v)
  rwa [show ((l.set k v).map vint).toArray = ((l.map vint).toArray).setIfInBounds k (.int .i64 v) by simp [List.map_set]]

theorem joined_one (A : Option Addr) (n c : Nat) (l : List Int) (W : World) (h : SL W A n c l) (hn : n ≤ 16777216) :
    Calls Try.prog 70 #[.slice (some ⟨W.heap.size, 0, none⟩) 1 1] (W.alloc (.cells #[.slice A n c] 26)) fun e w' => e = .returned (.slice (some ⟨W.heap.size + 1, 0, none⟩) n n) ∧ Blk w' (W.heap.size + 1) 3 (l.map vint).toArray ∧ Below W.heap.size W w' ∧
      Below (W.alloc (.cells #[.slice A n c] 26)).heap.size (W.alloc (.cells #[.slice A n c] 26)) w' := by
  have hRD := RD.lit W 26 1 1 #[.slice A n c] rfl
  have C := joined_any (some ⟨W.heap.size, 0, none⟩) 1 1 [⟨A, n, c, l⟩] (W.alloc (.cells #[.slice A n c] 26)) hRD (by simp only [List.mem_singleton]; rintro s rfl; exact h.below ((Below.refl _ _).alloc (Nat.le_refl _) _)) (by simp [total]; omega) (by omega)
  refine C.mono fun e w' ⟨he, hb, hbel⟩ => ⟨?_, ?_, ?_, hbel⟩
  · rw [he]; simp [total]
  · simpa [conc] using hb
  · exact ((Below.refl _ _).alloc (Nat.le_refl _) _).trans (hbel.mono (by simp))
theorem blk_grown {B g : Nat} {t : TypeId} {cs : Array Value} {X Y : World} {row : Option Nat} {R : Nat → Prop} (hs : Blk X g t cs) (hgr : X.grownBy Y row) (hrow : ∀ r, row = some r → B ≤ r ∧ R r) (hg : g < B) : Blk Y g t cs := by
  unfold Blk at hs ⊢
  rw [hgr.block g (Blk.lt (t := t) (cs := cs) hs) (fun e => by have := (hrow g e.symm).1; omega)]
  exact hs
theorem blk_putObj {w : World} {g D : Nat} {t : TypeId} {cs : Array Value} (h : Blk w g t cs) (hne : g ≠ D) (o : Obj) : Blk (w.putObj D o) g t cs := (World.putObj_heap_other hne).trans h
theorem faded_bad (A : Option Addr) (n c : Nat) (l : List Int) (m : Int) (gf : Fn) (lb : Array Value) (w : World) (h : SL w A n c l) (hr : rightB n m = false) :
    Calls Try.prog 65 #[.slice A n c, .int .i64 m, .func gf #[] lb] w fun e w' => e = .returned (.tuple #[.slice none 0 0, .int .i64 1]) ∧ Below w.heap.size w w' := by
  have hWb : Below w.heap.size w ((w.alloc (.cells #[.func gf #[] lb] 23)).alloc (.cells #[.slice none 0 0] 26)) := ((Below.refl _ w).alloc (Nat.le_refl _) _).alloc (by simp) _
  have CR := right_any A n c l m _ (h.below hWb)
  rw [hr] at CR
  go_enter Try.func65, Try.ntmps65
  go_wp2_with (go_at_call 69; refine CR.mono ?_; rintro e w' ⟨rfl, rfl⟩)
  exact bodyPost_ret (v := .tuple #[.slice none 0 0, .int .i64 1]) (by simp [results, Try.results65, go_sem]) rfl ⟨rfl, hWb⟩
set_option maxHeartbeats 4000000 in
set_option maxRecDepth 100000 in
theorem faded_in (A : Option Addr) (n c m : Nat) (l : List Int) (w : World) (h : SL w A n c l) (hr : rightB n m = true) :
    Calls Try.prog 65 #[.slice A n c, .int .i64 m, .func (.func 66) #[] #[]] w fun e w' => ∃ g, e = .returned (.tuple #[.slice (some ⟨g, 0, none⟩) n n, .int .i64 0]) ∧ w.heap.size ≤ g ∧
      Blk w' g 3 ((fadeL (fun i => i) m l (List.range m)).map vint).toArray ∧ Below w.heap.size w w' := by
  obtain rfl := h.n_eq
  have hr' : l.length ≤ 16777216 ∧ m ≤ l.length := by unfold rightB at hr; simp at hr; omega
  obtain ⟨hr1, hr2⟩ := hr'
  refine (callsIn_wide (n := 3)).1 ?_
  refine callsIn_of_wp_marks Try.func65 rfl trivial ?_ rfl
  simp only [Try.ntmps65, List.size_toArray, List.length_cons, List.length_nil, Nat.reduceAdd, Nat.reduceSub, Array.replicate_succ, Array.replicate_zero, List.push_toArray, List.append_toArray, List.nil_append, List.cons_append]
  obtain ⟨W, hW⟩ : ∃ W, (w.alloc (.cells #[.func (.func 66) #[] #[]] 23)).alloc (.cells #[.slice none 0 0] 26) = W := ⟨_, rfl⟩
  have hWb : Below w.heap.size w W := by rw [← hW]; exact ((Below.refl _ w).alloc (Nat.le_refl _) _).alloc (by simp) _
  have hWs : W.heap.size = w.heap.size + 1 + 1 := by rw [← hW]; simp
  have hp0 : Blk W w.heap.size 23 #[.func (.func 66) #[] #[]] := by rw [← hW]; exact (Blk.new w _ _).alloc _
  have hx0 : Blk W (w.heap.size + 1) 26 #[.slice none 0 0] := by rw [← hW]; have := Blk.new (w.alloc (.cells #[.func (.func 66) #[] #[]] 23)) 26 #[.slice none 0 0]; simpa using this
  have CJ := joined_one A l.length c l W (h.below hWb) (by omega)
  rw [hWs, ← hW] at CJ
  have HW := Lib.hid hW
  have HWs := Lib.hid hWs
  have CR := right_any A l.length c l m W (h.below hWb)
  rw [hr, ← hW] at CR
  clear hW hWs
  gi_wp2_with (first
    | (refine ⟨trivial, ?_⟩; gi_at_call 69; refine (callsIn_wide.2 CR).mono ?_; rintro e w' ⟨rfl, rfl⟩)
    | (refine ⟨trivial, ?_⟩; gi_at_call 70; refine (callsIn_wide.2 CJ).mono ?_; rintro e w3 ⟨rfl, hblk, hb3, hb4⟩; rw [HW.out] at hb3 hb4; have hp3 := hp0.below hb3 (by omega); have hx3 := hx0.below hb3 (by omega); have hc6 : w3.cell? ⟨w.heap.size + 1, 0, none⟩ = some (.slice none 0 0) := hx3.cell 0; have hf6 := hx3.frozen 0; clear CJ CR)
    | (refine ⟨trivial, ?_⟩; gi_at_call 78; refine (callsIn_wide.2 (gains_any _ _)).mono ?_; rintro e w' ⟨rfl, rfl⟩))
  obtain ⟨W4, hW4⟩ : ∃ W4, (w3.setCell ⟨w.heap.size + 1, 0, none⟩ (.slice (some ⟨w.heap.size + 1 + 1 + 1, 0, none⟩) l.length l.length)).alloc (.cells #[.int .i64 (m : Int)] 3) = W4 := ⟨_, rfl⟩
  have s3 := hblk.lt
  have hWs := HWs.out
  have p4 : Blk W4 w.heap.size 23 #[.func (.func 66) #[] #[]] := by rw [← hW4]; exact (hp3.far (by show w.heap.size ≠ w.heap.size + 1; omega) _).alloc _
  have x4 : Blk W4 (w.heap.size + 1) 26 #[.slice (some ⟨w.heap.size + 1 + 1 + 1, 0, none⟩) l.length l.length] := by rw [← hW4]; exact (hx3.set_ 0 _).alloc _
  have d4 : Blk W4 (w.heap.size + 1 + 1 + 1) 3 (l.map vint).toArray := by rw [← hW4]; exact (hblk.far (by show w.heap.size + 1 + 1 + 1 ≠ w.heap.size + 1; omega) _).alloc _
  have n4 : W4.cell? ⟨w3.heap.size, 0, none⟩ = some (.int .i64 (m : Int)) := by
    have := Blk.new (w3.setCell ⟨w.heap.size + 1, 0, none⟩ (.slice (some ⟨w.heap.size + 1 + 1 + 1, 0, none⟩) l.length l.length)) 3 #[.int .i64 (m : Int)]
    rw [hW4] at this
    have := this.cell 0
    simpa [World.setCell] using this
  have b4 : Below w.heap.size w W4 := by
    rw [← hW4]
    have h1 : Below w.heap.size w w3 := hWb.trans (hb3.mono (by omega))
    exact (h1.setCell (by show w.heap.size ≤ w.heap.size + 1; omega) _).alloc (by have := h1.size; simp [World.setCell]; omega) _
  have s4 : w3.heap.size < W4.heap.size := by rw [← hW4]; simp [World.setCell]
  rw [hW4]
  clear hW4 HW HWs hb4 hb3 hWb hx0 hp0 hc6 hf6 hx3 hp3 hblk hWs h
  refine wpIn_rangeFunc_ownF (α := Fin m) rfl (by omega) (gf := 81) (lb := #[.pointer (some ⟨w3.heap.size, 0, none⟩)]) rfl trivial (enters_of Try.func81 (by kernel_rfl) rfl)
    (gains_stops 2 m w3.heap.size (by omega) (by omega) W4 n4) KCell.t (KCell.b s4) (Below.refl _ _) (fun _ => rfl)
    (fun pre W => (Blk W w.heap.size 23 #[.func (.func 66) #[] #[]] ∧ Blk W (w.heap.size + 1) 26 #[.slice (some ⟨w.heap.size + 1 + 1 + 1, 0, none⟩) l.length l.length] ∧
      Blk W (w.heap.size + 1 + 1 + 1) 3 ((fadeL (fun i => i) m l (vals pre)).map vint).toArray) ∧ Below w.heap.size w W)
    (fun _ _ _ => False)
    ?own (fun _ _ _ _ _ hs _ _ => hs) ⟨⟨p4, x4, d4⟩, b4⟩
    (fun x => { tmps := #[.slice A l.length c, .int .i64 (m : Int), .func (.func 66) #[] #[], undef, undef, .pointer (some ⟨w.heap.size, 0, none⟩), .pointer (some ⟨w.heap.size + 1, 0, none⟩), .int .i64 0, .int .i64 (x.val : Int), .int .i64 (gainS x.val m),
      .slice A l.length c, .int .i64 (m : Int), .bool true, .bool false, .slice A l.length c, .slice (some ⟨w.heap.size + 1 + 1, 0, none⟩) 1 1, .slice (some ⟨w.heap.size + 1 + 1 + 1, 0, none⟩) l.length l.length, .int .i64 (m : Int), .func (.func 81) #[] #[.pointer (some ⟨w3.heap.size, 0, none⟩)], .int .i64 (x.val : Int), .int .i64 (gainS x.val m),
      undef, undef, undef, undef, undef, undef, undef, undef, undef, undef, undef, undef, undef, undef], defers := [] }) ?assign ?body ?done ?stop
  case own =>
    exact fun s X Y row hs hgr hrow => ⟨⟨blk_grown hs.1.1 hgr hrow (by omega), blk_grown hs.1.2.1 hgr hrow (by omega), blk_grown hs.1.2.2 hgr hrow (by omega)⟩, ownFrom_below (Nat.le_refl _) (by omega) s X Y row hs.2 hgr hrow⟩
  case assign =>
    intro l x W K hK
    dsimp only [gEncs]
    gi_wp2
    exact hK
  case body =>
    rintro l' pre x W ⟨⟨hp, hx, hd⟩, hb⟩ _
    obtain ⟨i, hi⟩ := x
    have hlen := fadeL_len (fun i => i) m l (vals pre)
    have hil : i < l.length := by omega
    have hsnoc : fadeL (fun i => i) m l (vals (pre ++ [⟨i, hi⟩])) = fadeStep (fun i => i) m (fadeL (fun i => i) m l (vals pre)) i := by rw [vals_snoc]; exact fadeL_snoc _ _ _ _ _
    have HN := Lib.hid hsnoc
    obtain ⟨ys, hys⟩ : ∃ ys, fadeL (fun i => i) m l (vals pre) = ys := ⟨_, rfl⟩
    rw [hys] at hd hlen HN
    have c5 : W.cell? ⟨w.heap.size, 0, none⟩ = some (.func (.func 66) #[] #[]) := hp.cell 0
    have c6 : W.cell? ⟨w.heap.size + 1, 0, none⟩ = some (.slice (some ⟨w.heap.size + 1 + 1 + 1, 0, none⟩) l.length l.length) := hx.cell 0
    have cd := blk_int hd (k := i) (by omega)
    have fd := hd.frozen i
    obtain ⟨y, hy⟩ : ∃ y, ys[i]?.getD 0 = y := ⟨_, rfl⟩
    rw [hy] at cd
    have hd2 := blk_set hd i (mulS y (gainS i m))
    have H2 := Lib.hid hd2
    have HY := Lib.hid hy
    have HP := Lib.hid hp
    have HX := Lib.hid hx
    have hi1 : (0 : Int) ≤ (i : Int) := by omega
    have hi2 : (i : Int) < (l.length : Int) := by omega
    clear hd2 hy hp hx hd p4 x4 d4 n4 b4 hys hsnoc hlen
    refine wpIn_block ?_
    refine wpIn_region_still_tail 13 (by kernel_rfl) (by kernel_rfl) rfl (by rintro ⟨_, _, h⟩; exact h) ?_
    simp only [List.take_succ_cons, List.take_zero, List.drop_succ_cons, List.drop_zero]
    repeat (first | still_step | still_call ((inF_any _ _).mono fun _ _ h => ⟨h.1, h.2.symm⟩) | still_call ((mul_any _ _ _).mono fun _ _ h => ⟨h.1, h.2.symm⟩))
    refine wpStill_nil ?_
    go_wp2
    refine ⟨(KeepsOthers.setCell _ _ _).trans (KeepsOthers.drew _), World.cell?_setCell_other _ _ _ _ (by simp), ⟨⟨(HP.out.far (by show w.heap.size ≠ w.heap.size + 1 + 1 + 1; omega) _).drew, (HX.out.far (by show w.heap.size + 1 ≠ w.heap.size + 1 + 1 + 1; omega) _).drew, ?_⟩, (hb.setCell (by show w.heap.size ≤ w.heap.size + 1 + 1 + 1; omega) _).drew⟩⟩
    rw [HN.out]
    have H3 := H2.out
    unfold fadeStep
    rw [HY.out]
    exact H3
  case done =>
    rintro D xs W hD rfl ⟨⟨hp, hx, hd⟩, hb⟩ hK
    rw [vals_all] at hd
    have c6 : W.cell? ⟨w.heap.size + 1, 0, none⟩ = some (.slice (some ⟨w.heap.size + 1 + 1 + 1, 0, none⟩) l.length l.length) := hx.cell 0
    have f6 := hx.frozen 0
    have b4s := b4.size
    clear p4 x4 d4 n4 b4 hp
    gi_wp2
    obtain ⟨W5, hW5⟩ : ∃ W5, W.setCell ⟨w.heap.size + 1, 0, none⟩ (.slice (some ⟨w.heap.size + 1 + 1 + 1, 0, none⟩) l.length l.length) = W5 := ⟨_, rfl⟩
    have x5 : Blk W5 (w.heap.size + 1) 26 #[.slice (some ⟨w.heap.size + 1 + 1 + 1, 0, none⟩) l.length l.length] := by rw [← hW5]; exact hx.set_ 0 _
    have d5 := hd.far (p := ⟨w.heap.size + 1, 0, none⟩) (by show w.heap.size + 1 + 1 + 1 ≠ w.heap.size + 1; omega) (.slice (some ⟨w.heap.size + 1 + 1 + 1, 0, none⟩) l.length l.length)
    have b5 := hb.setCell (p := ⟨w.heap.size + 1, 0, none⟩) (by show w.heap.size ≤ w.heap.size + 1; omega) (.slice (some ⟨w.heap.size + 1 + 1 + 1, 0, none⟩) l.length l.length)
    have K5 := (KeepsOthers.setCell W ⟨w.heap.size + 1, 0, none⟩ (.slice (some ⟨w.heap.size + 1 + 1 + 1, 0, none⟩) l.length l.length)).same D _ hK rfl
    rw [hW5] at d5 b5 K5 ⊢
    refine ⟨by simp, .inl ⟨_, _, rfl, run_takeDeferred K5, ?_⟩⟩
    have x6 := blk_putObj x5 (D := D) (by omega) (.deferred none)
    have c7 : (W5.putObj D (.deferred none)).cell? ⟨w.heap.size + 1, 0, none⟩ = some (.slice (some ⟨w.heap.size + 1 + 1 + 1, 0, none⟩) l.length l.length) := x6.cell 0
    refine ⟨.tuple #[.slice (some ⟨w.heap.size + 1 + 1 + 1, 0, none⟩) l.length l.length, .int .i64 0], by simp [results, Try.results65, go_sem, c7], _, rfl, by omega, blk_putObj d5 (by omega) _, ?_⟩
    exact b5.trans (belowK_b (w := W4) b4s W5 D _ _ hD K5 rfl rfl)
  case stop =>
    rintro D c pre W _ _ h _
    exact h.elim
end Go.Proofs.Yteljglhfimhmlaa
