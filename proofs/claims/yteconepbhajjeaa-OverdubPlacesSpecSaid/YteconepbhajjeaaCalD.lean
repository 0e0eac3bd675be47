/- Layer 42: find, At. -/
import Derived.Test.YteconepbhajjeaaCalC
namespace Go.Proofs.Yteconepbhajjeaa
open Go.RowKit Go.Shelf
attribute [local go_sem] Oper.semAt_some

def fOut : Option Rcd → Int × Int × Bool
  | some r => (r.inn, r.out, true)
  | none => (0, 0, false)
theorem findS_none {l : List Rcd} {dev pos known : Int} (h : ∀ (j : Nat) s, l[j]? = some s → rcdFits dev pos known s = false) : findS l dev pos known = none := by
  unfold findS
  rw [List.filter_eq_nil_iff.2 (fun s hs => by obtain ⟨j, hj⟩ := List.mem_iff_getElem?.1 hs; simp [h j s hj])]
  rfl
theorem findS_hit {l : List Rcd} {dev pos known : Int} {q : Nat} {r : Rcd} (hq : l[q]? = some r) (hr : rcdFits dev pos known r = true) (h : ∀ (j : Nat) s, q < j → l[j]? = some s → rcdFits dev pos known s = false) : findS l dev pos known = some r := by
  have hql : q < l.length := (List.getElem?_eq_some_iff.1 hq).1
  have hd : l.drop q = r :: l.drop (q + 1) := by
    rw [List.drop_eq_getElem_cons hql]
    rw [List.getElem?_eq_getElem hql] at hq
    injection hq with hq
    rw [hq]
  have h2 : (l.drop (q + 1)).filter (rcdFits dev pos known) = [] := List.filter_eq_nil_iff.2 (fun s hs => by
    obtain ⟨j, hj⟩ := List.mem_iff_getElem?.1 hs
    rw [List.getElem?_drop] at hj
    simp [h (q + 1 + j) s (by omega) hj])
  unfold findS
  rw [← List.take_append_drop q l, hd, List.filter_append, List.filter_cons, if_pos hr, h2]
  simp
/-- What find's loop keeps: the boxes of its parameters, its result. -/
def FindJ (w : World) (S : Nat) (dev pos known : Int) (l : List Rcd) (pre : List (Nat × Rcd)) (W : World) : Prop :=
  Blk W S 3 #[.int .i64 dev] ∧ Blk W (S + 1) 3 #[.int .i64 pos] ∧ Blk W (S + 1 + 1) 3 #[.int .i64 known] ∧ Blk W (S + 1 + 1 + 1) 71 #[.int .i64 0, .int .i64 0, .bool false] ∧ Below S w W ∧
    ∀ (j : Nat) s, l.length ≤ j + pre.length → l[j]? = some s → rcdFits dev pos known s = false
theorem FindJ.keep {w : World} {S : Nat} {dev pos known : Int} {l : List Rcd} {pre : List (Nat × Rcd)} {W W' : World} (h : FindJ w S dev pos known l pre W) (hb : Below (S + 1 + 1 + 1 + 1) W W') : FindJ w S dev pos known l pre W' :=
  ⟨h.1.below hb (by omega), h.2.1.below hb (by omega), h.2.2.1.below hb (by omega), h.2.2.2.1.below hb (by omega), h.2.2.2.2.1.trans (hb.mono (by omega)), h.2.2.2.2.2⟩
def FindX (w : World) (S : Nat) (dev pos known : Int) (l : List Rcd) (W : World) : Prop :=
  ∃ r, findS l dev pos known = some r ∧ Blk W (S + 1 + 1 + 1) 71 #[.int .i64 r.inn, .int .i64 r.out, .bool true] ∧ Below S w W
theorem FindX.keep {w : World} {S : Nat} {dev pos known : Int} {l : List Rcd} {W W' : World} (h : FindX w S dev pos known l W) (hb : Below (S + 1 + 1 + 1 + 1) W W') : FindX w S dev pos known l W' := by
  obtain ⟨r, h1, h2, h3⟩ := h
  exact ⟨r, h1, h2.below hb (by omega), h3.trans (hb.mono (by omega))⟩
set_option maxHeartbeats 4000000 in
theorem find_any (A : Option Addr) (n c : Nat) (l : List Rcd) (dev pos known : Int) (w : World) (h : SA rcdE w A n c l) :
    Calls Try.prog 28 #[.slice A n c, .int .i64 dev, .int .i64 pos, .int .i64 known] w fun e w' =>
      e = .returned (.agg #[.int .i64 (fOut (findS l dev pos known)).1, .int .i64 (fOut (findS l dev pos known)).2.1, .bool (fOut (findS l dev pos known)).2.2]) ∧ Below w.heap.size w w' := by
  have HL := Lib.hid h.n_eq
  have HS := Lib.hid h
  obtain ⟨W4, hW4⟩ : ∃ W4, ((((w.alloc (.cells #[.int .i64 dev] 3)).alloc (.cells #[.int .i64 pos] 3)).alloc (.cells #[.int .i64 known] 3)).alloc (.cells #[.int .i64 0, .int .i64 0, .bool false] 71)) = W4 := ⟨_, rfl⟩
  have z4 : W4.heap.size = w.heap.size + 1 + 1 + 1 + 1 := by rw [← hW4]; simp
  have b4 : Below w.heap.size w W4 := by rw [← hW4]; exact Bel.al (Bel.al (Bel.al (Bel.al (Below.refl _ w) _) _) _) _
  have s4 := h.below b4
  have y0 : Blk W4 w.heap.size 3 #[.int .i64 dev] := by rw [← hW4]; exact (((Blk.new w _ _).alloc _).alloc _).alloc _
  have y1 : Blk W4 (w.heap.size + 1) 3 #[.int .i64 pos] := by
    have := Blk.new (w.alloc (.cells #[.int .i64 dev] 3)) 3 #[.int .i64 pos]
    rw [World.size_alloc] at this; rw [← hW4]; exact (this.alloc _).alloc _
  have y2 : Blk W4 (w.heap.size + 1 + 1) 3 #[.int .i64 known] := by
    have := Blk.new ((w.alloc (.cells #[.int .i64 dev] 3)).alloc (.cells #[.int .i64 pos] 3)) 3 #[.int .i64 known]
    rw [World.size_alloc, World.size_alloc] at this; rw [← hW4]; exact this.alloc _
  have y3 : Blk W4 (w.heap.size + 1 + 1 + 1) 71 #[.int .i64 0, .int .i64 0, .bool false] := by
    have := Blk.new (((w.alloc (.cells #[.int .i64 dev] 3)).alloc (.cells #[.int .i64 pos] 3)).alloc (.cells #[.int .i64 known] 3)) 71 #[.int .i64 0, .int .i64 0, .bool false]
    rw [World.size_alloc, World.size_alloc, World.size_alloc] at this; rw [← hW4]; exact this
  clear h
  obtain ⟨S, hSe⟩ : ∃ S, w.heap.size = S := ⟨_, rfl⟩
  refine (callsIn_wide (n := 3)).1 ?_
  refine callsIn_of_wp_marks Try.func28 rfl trivial ?_ rfl
  simp only [Try.ntmps28, List.size_toArray, List.length_cons, List.length_nil, Nat.reduceAdd, Nat.reduceSub, Array.replicate_succ, Array.replicate_zero, List.push_toArray, List.append_toArray, List.nil_append, List.cons_append]
  have CB := back_any A n c
  gi_wp2_with (refine ⟨trivial, ?_⟩; gi_at_call 37; refine (callsIn_wide.2 (CB _)).mono ?_; rintro e w2 ⟨rfl, rfl⟩)
  rw [hSe] at z4 b4 y0 y1 y2 y3
  obtain ⟨W5, hW5⟩ : ∃ W5, W4.alloc (.cells #[.slice A n c] 30) = W5 := ⟨_, rfl⟩
  have b5 : Below W4.heap.size W4 W5 := by rw [← hW5]; exact Bel.al (Below.refl _ _) _
  have z5 : W5.heap.size = S + 1 + 1 + 1 + 1 + 1 := by rw [← hW5, World.size_alloc, z4]
  have cl5 : W5.cell? ⟨S + 1 + 1 + 1 + 1, 0, none⟩ = some (.slice A n c) := by rw [← hW5, ← z4]; exact (Blk.new W4 30 #[.slice A n c]).cell 0
  have s5 := s4.below b5
  have hAb : ∀ a, A = some a → 0 < n → a.block < S := by
    intro a ha hn0
    obtain ⟨b, o, e1, hb, _⟩ := HS.out.all_ hn0
    rw [ha] at e1
    injection e1 with e1
    rw [e1, ← hSe]
    exact hb
  rw [hW5]
  have hseq := back_seq 2 n c (S + 1 + 1 + 1 + 1) A l W5 s5 (by omega) cl5
  refine wpIn_rangeFunc_X rfl (by omega) (gf := 42) (lb := #[.pointer (some ⟨S + 1 + 1 + 1 + 1, 0, none⟩)]) rfl trivial (enters_of Try.func42 (by kernel_rfl) rfl)
    hseq (by rintro k (rfl | ⟨a, ha, hn0, rfl⟩) <;> first | omega | (have := hAb a ha hn0; omega)) (Below.refl _ _) (fun _ => rfl)
    (fun pre X W => FindJ w S dev pos known l pre W ∧ S + 1 + 1 + 1 + 1 ≤ W.heap.size ∧ ∀ k, X k → S + 1 + 1 + 1 + 1 ≤ k ∧ k < W.heap.size)
    (fun cc pre X W => (fun _ W => cc = .ret ∧ FindX w S dev pos known l W) pre W ∧ S + 1 + 1 + 1 + 1 ≤ W.heap.size ∧ ∀ k, X k → S + 1 + 1 + 1 + 1 ≤ k ∧ k < W.heap.size)
    (abides_below (fun s W W' h hb => h.keep hb)) (fun cc => abides_below (fun s W W' h hb => ⟨h.1, h.2.keep hb⟩)) ⟨?_, by omega, fun k hk => hk.elim⟩ ?round ?done ?stop
  · have b5' : Below (S + 1 + 1 + 1 + 1) W4 W5 := by rw [← z4]; exact b5
    refine FindJ.keep ⟨y0, y1, y2, y3, b4, ?_⟩ b5'
    intro j s hj hs
    have := (List.getElem?_eq_some_iff.1 hs).1
    simp at hj; omega
  case stop =>
    rintro D cc pre X W hD _ ⟨⟨rfl, r, hr, hbr, hbel⟩, hsz, hX⟩ hXD hDef
    have hDB : D ≠ S + 1 + 1 + 1 := by have := (hX D hXD).1; omega
    have hbp := hbr.putObj (D := D) (by omega) (.deferred none)
    have q0 := hbp.cell 0
    have q1 := hbp.cell 1
    have q2 := hbp.cell 2
    simp at q0 q1 q2
    gi_wp2
    refine ⟨by simp, .inl ⟨_, _, rfl, run_takeDeferred hDef, ?_⟩⟩
    refine ⟨.agg #[.int .i64 r.inn, .int .i64 r.out, .bool true], by simp [results, Try.results28, go_sem, q0, q1, q2], by rw [hr]; rfl, ?_⟩
    rw [hSe]
    exact below_putObj hbel (by have := (hX D hXD).1; omega) (by omega) _
  case done =>
    rintro D xs X W hD hxs ⟨⟨i0, i1, i2, i3, i4, i5⟩, hsz, hX⟩ hXD hDef
    have q0 := i3.cell 0
    have q1 := i3.cell 1
    have q2 := i3.cell 2
    have f0 := i3.frozen 0
    have f1 := i3.frozen 1
    have f2 := i3.frozen 2
    have hDB : D ≠ S + 1 + 1 + 1 := by have := (hX D hXD).1; omega
    have hbr := ((i3.set_ 0 (.int .i64 0)).set_ 1 (.int .i64 0)).set_ 2 (.bool false)
    have hD' : (((W.setCell ⟨S + 1 + 1 + 1, 0, none⟩ (.int .i64 0)).setCell ⟨S + 1 + 1 + 1, 1, none⟩ (.int .i64 0)).setCell ⟨S + 1 + 1 + 1, 2, none⟩ (.bool false)).heap[D]? = some (.deferred (some [])) :=
      ((Below.heap_setCell _ _ _ D hDB).trans (Below.heap_setCell _ _ _ D hDB)).trans ((Below.heap_setCell _ _ _ D hDB).trans hDef)
    have hbp := hbr.putObj (D := D) (by omega) (.deferred none)
    have r0 := hbp.cell 0
    have r1 := hbp.cell 1
    have r2 := hbp.cell 2
    simp at r0 r1 r2
    have HDB := Lib.hid hDB
    clear hDB hbr hbp
    gi_wp2
    refine ⟨by simp, .inl ⟨_, _, rfl, run_takeDeferred hD', ?_⟩⟩
    have hnone := findS_none (l := l) (dev := dev) (pos := pos) (known := known) (fun j s hs => i5 j s (by rw [hxs, HL.out]; omega) hs)
    refine ⟨.agg #[.int .i64 0, .int .i64 0, .bool false], by simp [results, Try.results28, go_sem, r0, r1, r2], by rw [hnone]; rfl, ?_⟩
    rw [hSe]
    exact below_putObj (((i4.setCell (by show S ≤ S + 1 + 1 + 1; omega) _).setCell (by show S ≤ S + 1 + 1 + 1; omega) _).setCell (by show S ≤ S + 1 + 1 + 1; omega) _) (by have := (hX D hXD).1; omega) (by omega) _
  case round =>
    rintro lp D pre x X W hJW hXl hXD hlD hrec hDef ⟨hp1, hp2, hp3⟩
    obtain ⟨xi, xr⟩ := x
    dsimp only [bwEnc, rAgg] at hp1 hp2 hp3 ⊢
    gi_wp2
    have hp0 := Blk.new W 62 #[.int .i64 xr.dev, .int .i64 xr.frm, .int .i64 xr.known, .int .i64 xr.inn, .int .i64 xr.out]
    have hAbi := abides_below (m := S + 1 + 1 + 1 + 1) (I := FindJ w S dev pos known l) (fun s W W' h hb => h.keep hb)
    have J0 := hAbi _ _ _ _ _ hJW (Stp.of_below ((Below.refl _ W).alloc (Nat.le_refl _) (.cells #[.int .i64 xr.dev, .int .i64 xr.frm, .int .i64 xr.known, .int .i64 xr.inn, .int .i64 xr.out] 62)))
    refine ⟨Keep.below ((Below.refl _ _).alloc (Nat.le_refl _) _), fun W2 hs2 => ?_⟩
    have hp2 := hs2.blk (fun hx => by have := (hJW.2.2 _ hx).2; omega) hp0
    have J2 := hAbi _ _ _ _ _ J0 hs2
    obtain ⟨⟨i0, i1, i2, i3, i4, i5⟩, hsz, hX⟩ := J2
    have c0 := hp2.cell 0
    have c1 := hp2.cell 1
    have c2 := hp2.cell 2
    have c3 := hp2.cell 3
    have c4 := hp2.cell 4
    have d0 := i0.cell 0
    have d1 := i1.cell 0
    have d2 := i2.cell 0
    have q0 := i3.cell 0
    have q1 := i3.cell 1
    have q2 := i3.cell 2
    have f0 := i3.frozen 0
    have f1 := i3.frozen 1
    have f2 := i3.frozen 2
    simp only [List.getElem?_toArray, List.getElem?_cons_zero, List.getElem?_cons_succ] at c0 c1 c2 c3 c4 d0 d1 d2 q0 q1 q2
    have hbr := ((i3.set_ 0 (.int .i64 xr.inn)).set_ 1 (.int .i64 xr.out)).set_ 2 (.bool true)
    have HBR := Lib.hid hbr
    have HBel := Lib.hid i4
    have HI5 := Lib.hid i5
    have HP3 := Lib.hid hp3
    have HP2 := Lib.hid hp2
    have HI0 := Lib.hid (And.intro i0 (And.intro i1 (And.intro i2 i3)))
    have hlast : pre.length + xi + 1 = n := by omega
    clear hbr i4 i5 hp3 J0 hp0 hJW i0 i1 i2 i3 hp2 HP2 y0 y1 y2 y3 hW4 hW5 b4 b5 z4 z5 cl5 s5 s4 hseq hAbi hrec hDef
    by_cases hfit : rcdFits dev pos known xr = true
    · have HF := Lib.hid (findS_hit HP3.out hfit (fun j s hj hs => HI5.out j s (by rw [HL.out]; omega) hs))
      simp only [rcdFits, decide_eq_true_eq] at hfit
      obtain ⟨g1, g2, g3⟩ := hfit
      gi_wp2
      have hnY : ¬ ((S + 1 + 1 + 1 = S + 1 + 1 + 1 + 1 ∨ ∃ a, A = some a ∧ 0 < n ∧ S + 1 + 1 + 1 = a.block) ∨ X (S + 1 + 1 + 1)) := by
        rintro ((h5 | ⟨a, ha, hn0, h5⟩) | h5)
        · omega
        · have := hAb a ha hn0; omega
        · have := (hX _ h5).1; omega
      refine ⟨((Keep.setCell (Y := fun k => (k = S + 1 + 1 + 1 + 1 ∨ ∃ a, A = some a ∧ 0 < n ∧ k = a.block) ∨ X k) _ hnY).trans (Keep.setCell _ hnY)).trans (Keep.setCell _ hnY), ⟨rfl, xr, HF.out, by simpa using HBR.out, ?_⟩, by simpa [World.setCell] using hsz, by simpa [World.setCell] using hX⟩
      exact ((HBel.out.setCell (by show S ≤ S + 1 + 1 + 1; omega) _).setCell (by show S ≤ S + 1 + 1 + 1; omega) _).setCell (by show S ≤ S + 1 + 1 + 1; omega) _
    · have HF := Lib.hid hfit
      have hc : ¬ xr.dev = dev ∨ (xr.dev = dev ∧ pos < xr.frm) ∨ (xr.dev = dev ∧ xr.frm ≤ pos ∧ known < xr.known) := by
        simp only [rcdFits, decide_eq_true_eq] at hfit; omega
      clear hfit
      rcases hc with g1 | ⟨g1, g2⟩ | ⟨g1, g2, g3⟩
      all_goals
        gi_wp2
        refine ⟨Keep.refl _ _, ⟨HI0.out.1, HI0.out.2.1, HI0.out.2.2.1, HI0.out.2.2.2, HBel.out, fun j s hj hs => ?_⟩, hsz, hX⟩
        rw [List.length_append, List.length_singleton, HL.out] at hj
        by_cases hjx : j = xi
        · subst hjx; rw [HP3.out] at hs; injection hs with hs; rw [← hs]; exact Bool.eq_false_iff.2 HF.out
        · exact HI5.out j s (by rw [HL.out]; omega) hs
end Go.Proofs.Yteconepbhajjeaa
