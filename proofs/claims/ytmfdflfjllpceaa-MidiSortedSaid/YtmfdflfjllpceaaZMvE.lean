/- Layer 50: Check. -/
import Derived.Test.YtmfdflfjllpceaaZMvB
import Derived.Test.YtmfdflfjllpceaaZMvC
/- Layer 50: Check. -/
namespace Go.Proofs.Ytmfdflfjllpceaa
open Go.RowKit

/-- The first n events are valid and rise. -/
def evsOk (l : List Ev) (n : Nat) : Prop := ∀ k e, k < n → l[k]? = some e → EvOk e ∧ ∀ j q, j + 1 = k → l[j]? = some q → evLt q e
open Classical in
/-- What Check answers. -/
noncomputable def checkM (l : List Ev) : Int := if 4096 < l.length then 2 else if evsOk l l.length then 0 else 500
theorem EvOk.key64 {e : Ev} (h : EvOk e) : ∀ x ∈ ekey e, I64 x := by
  obtain ⟨h1, h2, h3, h4, h5, h6, h7, h8, h9, h10, h11, h12⟩ := h
  have hv : 0 ≤ e.val ∧ e.val ≤ 127 := by
    refine ⟨Int.le_trans (by split <;> omega) h11, Int.le_trans h12 (by split <;> omega)⟩
  obtain ⟨h13, h14⟩ := hv
  unfold ekey
  intro x hx
  simp only [List.mem_cons, List.not_mem_nil, or_false] at hx
  rcases hx with rfl | rfl | rfl | rfl | rfl | rfl <;> exact ⟨by omega, by omega⟩
theorem compare_at (d f k i o m d2 f2 k2 i2 o2 m2 : Int) (h : EvOk ⟨d, f, k, i, o, m⟩) (h2 : EvOk ⟨d2, f2, k2, i2, o2, m2⟩) (w : World) : Calls Try.prog 29 #[.agg #[.int .i64 d, .int .i64 f, .int .i64 k, .int .i64 i, .int .i64 o, .int .i64 m], .agg #[.int .i64 d2, .int .i64 f2, .int .i64 k2, .int .i64 i2, .int .i64 o2, .int .i64 m2]] w fun e w' =>
    e = .returned (.int .i64 (lcmp (ekey ⟨d, f, k, i, o, m⟩) (ekey ⟨d2, f2, k2, i2, o2, m2⟩))) ∧ Below w.heap.size w w' := compare_any ⟨d, f, k, i, o, m⟩ ⟨d2, f2, k2, i2, o2, m2⟩ w h.key64 h2.key64 |>.mono fun _ _ h => ⟨h.1, h.2.1⟩
theorem cell_alw {w : World} {a : Addr} {v : Value} (h : w.cell? a = some v) (o : Obj) : (w.alloc o).cell? a = some v := cell_al h o
theorem evLt_iff (a b : Ev) : lcmp (ekey a) (ekey b) < 0 ↔ evLt a b := Iff.rfl
theorem evsOk_succ {l : List Ev} {k : Nat} {r : Ev} (h : evsOk l k) (hr : l[k]? = some r) (ok : EvOk r) (hq : ∀ j q, j + 1 = k → l[j]? = some q → evLt q r) : evsOk l (k + 1) := by
  intro i s hi hs
  by_cases e : i = k
  · subst e; rw [hr] at hs; injection hs with hs; subst hs; exact ⟨ok, hq⟩
  · exact h i s (by omega) hs
theorem checkM_no {l : List Ev} {k : Nat} {r : Ev} (hl : ¬ 4096 < l.length) (hr : l[k]? = some r) (h : ¬ (EvOk r ∧ ∀ j q, j + 1 = k → l[j]? = some q → evLt q r)) : checkM l = 500 := by
  unfold checkM
  rw [if_neg hl, if_neg (fun h5 => h (h5 k r (List.getElem?_eq_some_iff.1 hr).1 hr))]
theorem checkM_yes {l : List Ev} (hl : ¬ 4096 < l.length) (h : evsOk l l.length) : checkM l = 0 := by
  unfold checkM
  rw [if_neg hl, if_pos h]
theorem checkM_more {l : List Ev} (hl : 4096 < l.length) : checkM l = 2 := by
  unfold checkM
  rw [if_pos hl]
set_option maxHeartbeats 4000000 in
theorem mcheck_any (A : Option Addr) (n c : Nat) (l : List Ev) (w : World) (h : SA evE w A n c l) :
    Calls Try.prog 12 #[.slice A n c] w fun e w' => e = .returned (.int .i64 (checkM l)) ∧ Below w.heap.size w w' := by
  have hlen := h.len
  have HL := Lib.hid h.n_eq
  have HH := Lib.hid h
  by_cases hn : n ≤ 4096
  · have hn' : (n : Int) ≤ 4096 := by omega
    have HN := Lib.hid (show ¬ 4096 < l.length by rw [HL.out]; omega)
    clear h
    go_enter Try.func12, Try.ntmps12
    go_wp2
    go_loopw [10] (fun i wr => ∃ k : Nat, k ≤ n ∧ i = .int .i64 k ∧ Hid (evsOk l k) ∧ Below w.heap.size w wr) (fun i _ => n - (intOf i).toNat)
    case atStart => exact ⟨0, Nat.zero_le _, rfl, Lib.hid (fun j s hj _ => by omega), Below.refl _ _⟩
    case round =>
      obtain ⟨k, hk, rfl, hord, hB⟩ := hrel
      by_cases hlt : k < n
      · have hkl : k < l.length := by rw [HL.out]; exact hlt
        obtain ⟨s, hs⟩ : ∃ s, l[k] = s := ⟨_, rfl⟩
        have hs' : l[k]? = some s := by rw [List.getElem?_eq_getElem hkl, hs]
        obtain ⟨b, o, rfl, hb, c0, c1, c2, c3, c4, c5⟩ := ev_at (HH.out.below hB) hkl hs
        have HS := Lib.hid hs'
        have hF := fun h => checkM_no HN.out hs' h
        have HF := Lib.hid hF
        clear hs hs' hF
        obtain ⟨sd, sf, sk, si, so, sm⟩ := s
        dsimp only at c0 c1 c2 c3 c4 c5
        have hbx := Blk.new wr 40 #[.int .i64 sd, .int .i64 sf, .int .i64 sk, .int .i64 si, .int .i64 so, .int .i64 sm]
        obtain ⟨Wb, hWb⟩ : ∃ Wb, wr.alloc (.cells #[.int .i64 sd, .int .i64 sf, .int .i64 sk, .int .i64 si, .int .i64 so, .int .i64 sm] 40) = Wb := ⟨_, rfl⟩
        have b0 := hbx.cell 0
        have b1 := hbx.cell 1
        have b2 := hbx.cell 2
        have b3 := hbx.cell 3
        have b4 := hbx.cell 4
        have b5 := hbx.cell 5
        simp only [List.getElem?_toArray, List.getElem?_cons_zero, List.getElem?_cons_succ] at b0 b1 b2 b3 b4 b5
        have hBW := Lib.hid (Bel.al hB (.cells #[.int .i64 sd, .int .i64 sf, .int .i64 sk, .int .i64 si, .int .i64 so, .int .i64 sm] 40))
        rw [hWb] at b0 b1 b2 b3 b4 b5 hBW
        have e0 : ∀ z : Ext Wb, z.W.cell? ⟨wr.heap.size, 0, none⟩ = some (.int .i64 sd) := fun z => z.cell b0
        have e1 : ∀ z : Ext Wb, z.W.cell? ⟨wr.heap.size, 1, none⟩ = some (.int .i64 sf) := fun z => z.cell b1
        have e2 : ∀ z : Ext Wb, z.W.cell? ⟨wr.heap.size, 2, none⟩ = some (.int .i64 sk) := fun z => z.cell b2
        have e3 : ∀ z : Ext Wb, z.W.cell? ⟨wr.heap.size, 3, none⟩ = some (.int .i64 si) := fun z => z.cell b3
        have e4 : ∀ z : Ext Wb, z.W.cell? ⟨wr.heap.size, 4, none⟩ = some (.int .i64 so) := fun z => z.cell b4
        have e5 : ∀ z : Ext Wb, z.W.cell? ⟨wr.heap.size, 5, none⟩ = some (.int .i64 sm) := fun z => z.cell b5
        have CV := fun z : Ext Wb => mvalid_at sd sf sk si so sm z.W
        clear b0 b1 b2 b3 b4 b5 hbx
        by_cases ok : EvOk ⟨sd, sf, sk, si, so, sm⟩
        · have HOk := Lib.hid ok
          rw [decide_eq_true ok] at CV
          have HCV := Lib.hid CV
          clear CV ok
          by_cases hk0 : k = 0
          · have HN2 := Lib.hid (evsOk_succ hord.out HS.out HOk.out (fun j q hj => by omega))
            have k0 : decide ((0 : Int) < (k : Int)) = false := by simp; omega
            have k1 : decide (0 < k) = false := by simp; omega
            clear hk0
            go_wp2
            refine wp_region_ext (by kernel_rfl) (by kernel_rfl) ?_
            repeat (go_big_quiet_step (first | with_reducible exact Ext.quiet (HCV.out _)))
            refine wpQuiet_nil ?_
            rintro _ ⟨z, rfl⟩
            go_wp2
            exact ⟨⟨k + 1, by omega, by simp, HN2, Bel.on0 hBW.out z.h⟩, by simp only [intOf]; omega⟩
          · obtain ⟨p, rfl⟩ : ∃ p, k = p + 1 := ⟨k - 1, by omega⟩
            have hpl : p < l.length := by omega
            obtain ⟨t, ht⟩ : ∃ t, l[p] = t := ⟨_, rfl⟩
            have ht' : l[p]? = some t := by rw [List.getElem?_eq_getElem hpl, ht]
            obtain ⟨b', o', e', _, d0, d1, d2, d3, d4, d5⟩ := ev_at (HH.out.below hB) hpl ht
            injection e' with e'
            injection e' with e5 e6 _
            subst e5 e6
            have okt := (hord.out p t (by omega) ht').1
            have HT := Lib.hid ht'
            have HOkt := Lib.hid okt
            obtain ⟨td, tf, tk, ti, to_, tm⟩ := t
            dsimp only at d0 d1 d2 d3 d4 d5
            have x0 : ∀ z : Ext Wb, z.W.cell? ⟨b, o + p * 6, none⟩ = some (.int .i64 td) := fun z => z.cell (by rw [← hWb]; exact cell_alw d0 _)
            have x1 : ∀ z : Ext Wb, z.W.cell? ⟨b, o + p * 6 + 1, none⟩ = some (.int .i64 tf) := fun z => z.cell (by rw [← hWb]; exact cell_alw d1 _)
            have x2 : ∀ z : Ext Wb, z.W.cell? ⟨b, o + p * 6 + 2, none⟩ = some (.int .i64 tk) := fun z => z.cell (by rw [← hWb]; exact cell_alw d2 _)
            have x3 : ∀ z : Ext Wb, z.W.cell? ⟨b, o + p * 6 + 3, none⟩ = some (.int .i64 ti) := fun z => z.cell (by rw [← hWb]; exact cell_alw d3 _)
            have x4 : ∀ z : Ext Wb, z.W.cell? ⟨b, o + p * 6 + 4, none⟩ = some (.int .i64 to_) := fun z => z.cell (by rw [← hWb]; exact cell_alw d4 _)
            have x5 : ∀ z : Ext Wb, z.W.cell? ⟨b, o + p * 6 + 5, none⟩ = some (.int .i64 tm) := fun z => z.cell (by rw [← hWb]; exact cell_alw d5 _)
            have CC := fun z : Ext Wb => compare_at td tf tk ti to_ tm sd sf sk si so sm okt HOk.out z.W
            have hkl2 := evLt_iff ⟨td, tf, tk, ti, to_, tm⟩ ⟨sd, sf, sk, si, so, sm⟩
            obtain ⟨r, hr⟩ : ∃ r, lcmp (ekey ⟨td, tf, tk, ti, to_, tm⟩) (ekey ⟨sd, sf, sk, si, so, sm⟩) = r := ⟨_, rfl⟩
            rw [hr] at CC hkl2
            have HCC := Lib.hid CC
            clear CC hr okt ht ht' hk0
            have k0 : decide ((0 : Int) < (p : Int) + 1) = true := by simp <;> omega
            have k1 : decide (0 < p + 1) = true := by simp
            have g3 : (0 : Int) ≤ (p : Int) := by omega
            have g4 : (p : Int) < (n : Int) := by omega
            have gw : IntKind.i64.wrap (p : Int) = p := IntWalk.i64_in _ (by omega)
            by_cases hlt2 : evLt ⟨td, tf, tk, ti, to_, tm⟩ ⟨sd, sf, sk, si, so, sm⟩
            · have HN2 := Lib.hid (evsOk_succ hord.out HS.out HOk.out (fun j q hj hq => by
                obtain rfl : j = p := by omega
                rw [HT.out] at hq; injection hq with hq; subst hq; exact hlt2))
              have r1 : decide (0 ≤ r) = false := by simp; exact hkl2.2 hlt2
              clear hkl2 hlt2
              go_wp2
              refine wp_region_ext (by kernel_rfl) (by kernel_rfl) ?_
              repeat (go_big_quiet_step (first | with_reducible exact Ext.quiet (HCV.out _) | with_reducible exact Ext.quiet (HCC.out _)))
              refine wpQuiet_nil ?_
              rintro _ ⟨z, rfl⟩
              go_wp2
              exact ⟨⟨p + 1 + 1, by omega, by simp, HN2, Bel.on0 hBW.out z.h⟩, by simp only [intOf]; omega⟩
            · have HN2 := Lib.hid (HF.out (fun h5 => hlt2 (h5.2 p _ rfl HT.out)))
              have r1 : decide (0 ≤ r) = true := by simp; have := mt hkl2.1 hlt2; omega
              clear hkl2 hlt2
              go_wp2
              refine wp_region_ext (by kernel_rfl) (by kernel_rfl) ?_
              repeat (go_big_quiet_step (first | with_reducible exact Ext.quiet (HCV.out _) | with_reducible exact Ext.quiet (HCC.out _)))
              refine wpQuiet_nil ?_
              rintro _ ⟨z, rfl⟩
              go_wp2
              go_ret
              exact ⟨ret_int HN2.out.symm, Bel.on0 hBW.out z.h⟩
        · have HN2 := Lib.hid (HF.out (fun h5 => ok h5.1))
          rw [decide_eq_false ok] at CV
          have HCV := Lib.hid CV
          clear CV ok
          go_wp2
          refine wp_region_ext (by kernel_rfl) (by kernel_rfl) ?_
          repeat (go_big_quiet_step (first | with_reducible exact Ext.quiet (HCV.out _)))
          refine wpQuiet_nil ?_
          rintro _ ⟨z, rfl⟩
          go_wp2
          go_ret
          exact ⟨ret_int HN2.out.symm, Bel.on0 hBW.out z.h⟩
      · obtain rfl : k = n := by omega
        have HF := Lib.hid (checkM_yes HN.out (by rw [HL.out]; exact hord.out))
        go_wp2
        go_ret
        exact ⟨ret_int HF.out.symm, hB⟩
  · have hn' : (4096 : Int) < n := by omega
    have HF := Lib.hid (checkM_more (show 4096 < l.length by rw [HL.out]; omega))
    go_enter Try.func12, Try.ntmps12
    go_wp2
    go_ret
    exact ⟨ret_int HF.out.symm, Below.refl _ _⟩
end Go.Proofs.Ytmfdflfjllpceaa

/- Layer 50: the reference's Less. -/
namespace Go.Proofs.Ytmfdflfjllpceaa
open Go.RowKit

theorem below_drewN {B : Nat} {a w : World} (h : Below B a w) (n : Nat) : Below B a (w.drewN n) := ⟨h.os, h.tape, h.output, h.size, h.block⟩
/-- All six numbers are ints. -/
def EvI (e : Ev) : Prop := ∀ z ∈ ekey e, I64 z
theorem ccmp_neg {a b : Int} : ccmp a b < 0 ↔ a < b := by
  unfold ccmp
  by_cases h1 : a < b
  · rw [if_pos h1]; omega
  · rw [if_neg h1]; by_cases h2 : b < a
    · rw [if_pos h2]; omega
    · rw [if_neg h2]; omega
set_option maxHeartbeats 2000000 in
theorem rless_at (d f k i o m d2 f2 k2 i2 o2 m2 : Int) (hx : EvI ⟨d, f, k, i, o, m⟩) (hy : EvI ⟨d2, f2, k2, i2, o2, m2⟩) (w : World) : Calls Try.prog 23 #[.agg #[.int .i64 d, .int .i64 f, .int .i64 k, .int .i64 i, .int .i64 o, .int .i64 m], .agg #[.int .i64 d2, .int .i64 f2, .int .i64 k2, .int .i64 i2, .int .i64 o2, .int .i64 m2]] w fun e w' =>
    e = .returned (.bool (decide (evLt ⟨d, f, k, i, o, m⟩ ⟨d2, f2, k2, i2, o2, m2⟩))) ∧ Below w.heap.size w w' := by
  obtain ⟨W2, hW2⟩ : ∃ W2, (w.alloc (.cells #[.int .i64 d, .int .i64 f, .int .i64 k, .int .i64 i, .int .i64 o, .int .i64 m] 40)).alloc (.cells #[.int .i64 d2, .int .i64 f2, .int .i64 k2, .int .i64 i2, .int .i64 o2, .int .i64 m2] 40) = W2 := ⟨_, rfl⟩
  have B1 := (Blk.new w 40 #[.int .i64 d, .int .i64 f, .int .i64 k, .int .i64 i, .int .i64 o, .int .i64 m]).alloc (.cells #[.int .i64 d2, .int .i64 f2, .int .i64 k2, .int .i64 i2, .int .i64 o2, .int .i64 m2] 40)
  have B2 := (Blk.new (w.alloc (.cells #[.int .i64 d, .int .i64 f, .int .i64 k, .int .i64 i, .int .i64 o, .int .i64 m] 40)) 40 #[.int .i64 d2, .int .i64 f2, .int .i64 k2, .int .i64 i2, .int .i64 o2, .int .i64 m2]).alloc (.cells #[.int .i64 d, .int .i64 f, .int .i64 k, .int .i64 i, .int .i64 o, .int .i64 m] 3)
  rw [hW2] at B1 B2
  rw [World.size_alloc] at B2
  have p0 : W2.cell? ⟨w.heap.size, 0, none⟩ = some (.int .i64 d) := B1.cell 0
  have p1 : W2.cell? ⟨w.heap.size, 1, none⟩ = some (.int .i64 f) := B1.cell 1
  have p2 : W2.cell? ⟨w.heap.size, 2, none⟩ = some (.int .i64 k) := B1.cell 2
  have p3 : W2.cell? ⟨w.heap.size, 3, none⟩ = some (.int .i64 i) := B1.cell 3
  have p4 : W2.cell? ⟨w.heap.size, 4, none⟩ = some (.int .i64 o) := B1.cell 4
  have p5 : W2.cell? ⟨w.heap.size, 5, none⟩ = some (.int .i64 m) := B1.cell 5
  have q0 : (W2.alloc (.cells #[.int .i64 d, .int .i64 f, .int .i64 k, .int .i64 i, .int .i64 o, .int .i64 m] 3)).cell? ⟨w.heap.size + 1, 0, none⟩ = some (.int .i64 d2) := B2.cell 0
  have q1 : (W2.alloc (.cells #[.int .i64 d, .int .i64 f, .int .i64 k, .int .i64 i, .int .i64 o, .int .i64 m] 3)).cell? ⟨w.heap.size + 1, 1, none⟩ = some (.int .i64 f2) := B2.cell 1
  have q2 : (W2.alloc (.cells #[.int .i64 d, .int .i64 f, .int .i64 k, .int .i64 i, .int .i64 o, .int .i64 m] 3)).cell? ⟨w.heap.size + 1, 2, none⟩ = some (.int .i64 k2) := B2.cell 2
  have q3 : (W2.alloc (.cells #[.int .i64 d, .int .i64 f, .int .i64 k, .int .i64 i, .int .i64 o, .int .i64 m] 3)).cell? ⟨w.heap.size + 1, 3, none⟩ = some (.int .i64 i2) := B2.cell 3
  have q4 : (W2.alloc (.cells #[.int .i64 d, .int .i64 f, .int .i64 k, .int .i64 i, .int .i64 o, .int .i64 m] 3)).cell? ⟨w.heap.size + 1, 4, none⟩ = some (.int .i64 o2) := B2.cell 4
  have q5 : (W2.alloc (.cells #[.int .i64 d, .int .i64 f, .int .i64 k, .int .i64 i, .int .i64 o, .int .i64 m] 3)).cell? ⟨w.heap.size + 1, 5, none⟩ = some (.int .i64 m2) := B2.cell 5
  clear B1 B2
  have S1 := SL.litA W2 (ekey ⟨d, f, k, i, o, m⟩) (n := 6) #[.int .i64 d, .int .i64 f, .int .i64 k, .int .i64 i, .int .i64 o, .int .i64 m] (.cells #[.int .i64 d2, .int .i64 f2, .int .i64 k2, .int .i64 i2, .int .i64 o2, .int .i64 m2] 3) rfl rfl (by omega) hx
  have S2 := SL.lit2 W2 (ekey ⟨d2, f2, k2, i2, o2, m2⟩) (n := 6) #[.int .i64 d2, .int .i64 f2, .int .i64 k2, .int .i64 i2, .int .i64 o2, .int .i64 m2] (.cells #[.int .i64 d, .int .i64 f, .int .i64 k, .int .i64 i, .int .i64 o, .int .i64 m] 3) rfl rfl (by omega) hy
  have hB : Below w.heap.size w ((W2.alloc (.cells #[.int .i64 d, .int .i64 f, .int .i64 k, .int .i64 i, .int .i64 o, .int .i64 m] 3)).alloc (.cells #[.int .i64 d2, .int .i64 f2, .int .i64 k2, .int .i64 i2, .int .i64 o2, .int .i64 m2] 3)) := by
    rw [← hW2]
    exact Bel.al (Bel.al (Bel.al (Bel.al (Below.refl _ w) _) _) _) _
  have hz2 : W2.heap.size = w.heap.size + 2 := by rw [← hW2]; simp
  obtain ⟨W3, hW3⟩ : ∃ W3, W2.alloc (.cells #[.int .i64 d, .int .i64 f, .int .i64 k, .int .i64 i, .int .i64 o, .int .i64 m] 3) = W3 := ⟨_, rfl⟩
  rw [hW3] at S1 S2 hB q0 q1 q2 q3 q4 q5
  have hz3 : W3.heap.size = w.heap.size + 3 := by rw [← hW3, World.size_alloc, hz2]
  obtain ⟨W4, hW4⟩ : ∃ W4, W3.alloc (.cells #[.int .i64 d2, .int .i64 f2, .int .i64 k2, .int .i64 i2, .int .i64 o2, .int .i64 m2] 3) = W4 := ⟨_, rfl⟩
  rw [hW4] at S1 S2 hB
  rw [hz2] at S1 S2
  have l1 : (ekey ⟨d, f, k, i, o, m⟩).length = 6 := rfl
  have l2 : (ekey ⟨d2, f2, k2, i2, o2, m2⟩).length = 6 := rfl
  have HLT := Lib.hid (evLt_iff ⟨d, f, k, i, o, m⟩ ⟨d2, f2, k2, i2, o2, m2⟩)
  have HS := Lib.hid (And.intro S1 S2)
  have HB := Lib.hid hB
  have HL1 := Lib.hid l1
  have HL2 := Lib.hid l2
  clear S1 S2 hB l1 l2 hx hy
  obtain ⟨a, ha⟩ : ∃ a, ekey ⟨d, f, k, i, o, m⟩ = a := ⟨_, rfl⟩
  obtain ⟨b, hb⟩ : ∃ b, ekey ⟨d2, f2, k2, i2, o2, m2⟩ = b := ⟨_, rfl⟩
  rw [ha] at HS HL1 HLT
  rw [hb] at HS HL2 HLT
  clear ha hb
  go_enter Try.func23, Try.ntmps23
  go_wp2
  go_loopw [7] (fun v wr => ∃ q : Nat, q ≤ 6 ∧ v = .int .i64 q ∧ Hid (lcmp a b = lcmp (a.drop q) (b.drop q)) ∧ Below W4.heap.size W4 wr) (fun v _ => 6 - (intOf v).toNat)
  case atStart => exact ⟨0, Nat.zero_le _, rfl, Lib.hid rfl, Below.refl _ _⟩
  case round =>
    obtain ⟨q, hq, rfl, he, hBr⟩ := hrel
    have HBr := Lib.hid hBr
    clear hBr
    by_cases hlt : q < 6
    · have ka : q < a.length := by rw [HL1.out]; exact hlt
      have kb : q < b.length := by rw [HL2.out]; exact hlt
      obtain ⟨ba, oa, e1, hba, ca⟩ := (HS.out.1.below HBr.out).at_ ka
      obtain ⟨bb, ob, e2, hbb, cb⟩ := (HS.out.2.below HBr.out).at_ kb
      injection e1 with e1
      injection e1 with e3 e4 _
      injection e2 with e2
      injection e2 with e5 e6 _
      subst e3 e4 e5 e6
      have hst := lcmp_drop ka kb
      obtain ⟨x, hx⟩ : ∃ x, a[q] = x := ⟨_, rfl⟩
      obtain ⟨y, hy⟩ : ∃ y, b[q] = y := ⟨_, rfl⟩
      rw [hx, Nat.zero_add] at ca
      rw [hy, Nat.zero_add] at cb
      rw [hx, hy] at hst
      by_cases hxy : x = y
      · have HN := Lib.hid (show lcmp a b = lcmp (a.drop (q + 1)) (b.drop (q + 1)) by rw [he.out, hst, if_pos hxy])
        subst hxy
        clear hst hx hy he
        go_wp2
        go_quiet (fail)
        rename Nat => z
        go_wp2
        exact ⟨⟨q + 1, by omega, by simp, HN, (below_drewN HBr.out _)⟩, by simp only [intOf]; omega⟩
      · have HN := Lib.hid (show decide (x < y) = decide (evLt ⟨d, f, k, i, o, m⟩ ⟨d2, f2, k2, i2, o2, m2⟩) by
          rw [decide_eq_decide, ← HLT.out, he.out, hst, if_neg hxy, ccmp_neg])
        have hz1 : (x != y) = true := by simpa using hxy
        clear hst hx hy he hxy
        go_wp2
        go_quiet (fail)
        rename Nat => z
        go_wp2
        go_quiet (fail)
        rename Nat => z2
        go_wp2
        go_ret
        exact ⟨ret_bool HN.out, Bel.on0 HB.out (below_drewN (below_drewN HBr.out _) _)⟩
    · obtain rfl : q = 6 := by omega
      have HN := Lib.hid (show false = decide (evLt ⟨d, f, k, i, o, m⟩ ⟨d2, f2, k2, i2, o2, m2⟩) by
        symm
        rw [decide_eq_false_iff_not, ← HLT.out, he.out, List.drop_of_length_le (by rw [HL1.out]; omega), List.drop_of_length_le (by rw [HL2.out]; omega)]
        decide)
      clear he
      go_wp2
      go_ret
      exact ⟨ret_bool HN.out, Bel.on0 HB.out HBr.out⟩
end Go.Proofs.Ytmfdflfjllpceaa
