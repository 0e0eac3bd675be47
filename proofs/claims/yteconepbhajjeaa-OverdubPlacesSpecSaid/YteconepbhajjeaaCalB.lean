/- Layer 42: Check. -/
import Derived.Test.YteconepbhajjeaaCalA
namespace Go.Proofs.Yteconepbhajjeaa
open Go.RowKit

theorem valid_at (d f k i o : Int) (w : World) : Calls Try.prog 34 #[.agg #[.int .i64 d, .int .i64 f, .int .i64 k, .int .i64 i, .int .i64 o]] w fun e w' => e = .returned (.bool (decide (RcdOk ⟨d, f, k, i, o⟩))) ∧ Below w.heap.size w w' := valid_any ⟨d, f, k, i, o⟩ w
theorem keyOf_at (d f k i o : Int) (w : World) : Calls Try.prog 35 #[.agg #[.int .i64 d, .int .i64 f, .int .i64 k, .int .i64 i, .int .i64 o]] w fun e w' => e = .returned (.agg #[.int .i64 d, .int .i64 f, .int .i64 k]) ∧ Below w.heap.size w w' := keyOf_any ⟨d, f, k, i, o⟩ w
theorem RcdOk.key64 {r : Rcd} (h : RcdOk r) : ∀ x ∈ rkey r, I64 x := by
  obtain ⟨h1, h2, h3, h4, h5, h6, _⟩ := h
  unfold rkey
  intro x hx
  simp only [List.mem_cons, List.not_mem_nil, or_false] at hx
  rcases hx with rfl | rfl | rfl <;> exact ⟨by omega, by omega⟩
theorem keycmp_at (d f k i o d2 f2 k2 i2 o2 : Int) (h : RcdOk ⟨d, f, k, i, o⟩) (h2 : RcdOk ⟨d2, f2, k2, i2, o2⟩) (w : World) : Calls Try.prog 36 #[.agg #[.int .i64 d, .int .i64 f, .int .i64 k], .agg #[.int .i64 d2, .int .i64 f2, .int .i64 k2]] w fun e w' =>
    e = .returned (.int .i64 (lcmp (rkey ⟨d, f, k, i, o⟩) (rkey ⟨d2, f2, k2, i2, o2⟩))) ∧ Below w.heap.size w w' := keycmp_any ⟨d, f, k, i, o⟩ ⟨d2, f2, k2, i2, o2⟩ h.key64 h2.key64 w
theorem rcd_at {w : World} {A : Option Addr} {n c : Nat} {l : List Rcd} (h : SA rcdE w A n c l) {k : Nat} (hk : k < l.length) {s : Rcd} (hs : l[k] = s) : ∃ b o, A = some ⟨b, o, none⟩ ∧ b < w.heap.size ∧
    w.cell? ⟨b, o + k * 5, none⟩ = some (.int .i64 s.dev) ∧ w.cell? ⟨b, o + k * 5 + 1, none⟩ = some (.int .i64 s.frm) ∧ w.cell? ⟨b, o + k * 5 + 2, none⟩ = some (.int .i64 s.known) ∧
    w.cell? ⟨b, o + k * 5 + 3, none⟩ = some (.int .i64 s.inn) ∧ w.cell? ⟨b, o + k * 5 + 4, none⟩ = some (.int .i64 s.out) := by
  subst hs
  obtain ⟨b, o, e, hb, hc⟩ := h.at_ hk
  exact ⟨b, o, e, hb, hc 0 _ rfl, hc 1 _ rfl, hc 2 _ rfl, hc 3 _ rfl, hc 4 _ rfl⟩
theorem rcdsOk_succ {l : List Rcd} {k : Nat} {r : Rcd} (h : rcdsOk l k) (hr : l[k]? = some r) (ok : RcdOk r) (hq : ∀ j q, j + 1 = k → l[j]? = some q → RcdLt q r) : rcdsOk l (k + 1) := by
  intro i s hi hs
  by_cases e : i = k
  · subst e; rw [hr] at hs; injection hs with hs; subst hs; exact ⟨ok, hq⟩
  · exact h i s (by omega) hs
theorem checkR_no {l : List Rcd} {k : Nat} {r : Rcd} (hl : ¬ 256 < l.length) (hr : l[k]? = some r) (h : ¬ (RcdOk r ∧ ∀ j q, j + 1 = k → l[j]? = some q → RcdLt q r)) : checkR l = 420 := by
  unfold checkR
  rw [if_neg hl, if_neg (fun h5 => h (h5 k r (List.getElem?_eq_some_iff.1 hr).1 hr))]
theorem checkR_yes {l : List Rcd} (hl : ¬ 256 < l.length) (h : rcdsOk l l.length) : checkR l = 0 := by
  unfold checkR
  rw [if_neg hl, if_pos h]
theorem checkR_more {l : List Rcd} (hl : 256 < l.length) : checkR l = 2 := by
  unfold checkR
  rw [if_pos hl]
set_option maxHeartbeats 4000000 in
theorem ccheck_any (A : Option Addr) (n c : Nat) (l : List Rcd) (w : World) (h : SA rcdE w A n c l) :
    Calls Try.prog 27 #[.slice A n c] w fun e w' => e = .returned (.int .i64 (checkR l)) ∧ Below w.heap.size w w' := by
  have hlen := h.len
  have HL := Lib.hid h.n_eq
  have HH := Lib.hid h
  by_cases hn : n ≤ 256
  · have hn' : (n : Int) ≤ 256 := by omega
    have HN := Lib.hid (show ¬ 256 < l.length by rw [HL.out]; omega)
    clear h
    go_enter Try.func27, Try.ntmps27
    go_wp2
    go_loopw [10] (fun i wr => ∃ k : Nat, k ≤ n ∧ i = .int .i64 k ∧ Hid (rcdsOk l k) ∧ Below w.heap.size w wr) (fun i _ => n - (intOf i).toNat)
    case atStart => exact ⟨0, Nat.zero_le _, rfl, Lib.hid (fun j s hj _ => by omega), Below.refl _ _⟩
    case round =>
      obtain ⟨k, hk, rfl, hord, hB⟩ := hrel
      by_cases hlt : k < n
      · have hkl : k < l.length := by rw [HL.out]; exact hlt
        obtain ⟨s, hs⟩ : ∃ s, l[k] = s := ⟨_, rfl⟩
        have hs' : l[k]? = some s := by rw [List.getElem?_eq_getElem hkl, hs]
        obtain ⟨b, o, rfl, hb, c0, c1, c2, c3, c4⟩ := rcd_at (HH.out.below hB) hkl hs
        have HS := Lib.hid hs'
        have hF := fun h => checkR_no HN.out hs' h
        have HF := Lib.hid hF
        clear hs hs' hF
        obtain ⟨sd, sf, sk, si, so⟩ := s
        dsimp only at c0 c1 c2 c3 c4
        have hbx := Blk.new wr 62 #[.int .i64 sd, .int .i64 sf, .int .i64 sk, .int .i64 si, .int .i64 so]
        obtain ⟨Wb, hWb⟩ : ∃ Wb, wr.alloc (.cells #[.int .i64 sd, .int .i64 sf, .int .i64 sk, .int .i64 si, .int .i64 so] 62) = Wb := ⟨_, rfl⟩
        have b0 := hbx.cell 0
        have b1 := hbx.cell 1
        have b2 := hbx.cell 2
        have b3 := hbx.cell 3
        have b4 := hbx.cell 4
        simp only [List.getElem?_toArray, List.getElem?_cons_zero, List.getElem?_cons_succ] at b0 b1 b2 b3 b4
        have hBW := Lib.hid (Bel.al hB (.cells #[.int .i64 sd, .int .i64 sf, .int .i64 sk, .int .i64 si, .int .i64 so] 62))
        rw [hWb] at b0 b1 b2 b3 b4 hBW
        have e0 : ∀ z : Ext Wb, z.W.cell? ⟨wr.heap.size, 0, none⟩ = some (.int .i64 sd) := fun z => z.cell b0
        have e1 : ∀ z : Ext Wb, z.W.cell? ⟨wr.heap.size, 1, none⟩ = some (.int .i64 sf) := fun z => z.cell b1
        have e2 : ∀ z : Ext Wb, z.W.cell? ⟨wr.heap.size, 2, none⟩ = some (.int .i64 sk) := fun z => z.cell b2
        have e3 : ∀ z : Ext Wb, z.W.cell? ⟨wr.heap.size, 3, none⟩ = some (.int .i64 si) := fun z => z.cell b3
        have e4 : ∀ z : Ext Wb, z.W.cell? ⟨wr.heap.size, 4, none⟩ = some (.int .i64 so) := fun z => z.cell b4
        have CV := fun z : Ext Wb => valid_at sd sf sk si so z.W
        have CK := Lib.hid fun z : Ext Wb => keyOf_at sd sf sk si so z.W
        clear b0 b1 b2 b3 b4 hbx
        by_cases ok : RcdOk ⟨sd, sf, sk, si, so⟩
        · have HOk := Lib.hid ok
          rw [decide_eq_true ok] at CV
          have HCV := Lib.hid CV
          clear CV ok
          by_cases hk0 : k = 0
          · have HN2 := Lib.hid (rcdsOk_succ hord.out HS.out HOk.out (fun j q hj => by omega))
            have k0 : decide ((0 : Int) < (k : Int)) = false := by simp; omega
            have k1 : decide (0 < k) = false := by simp; omega
            clear hk0
            go_wp2
            refine wp_region_ext (by kernel_rfl) (by kernel_rfl) ?_
            repeat (go_big_quiet_step (first | with_reducible exact Ext.quiet (HCV.out _)))
            refine wpQuiet_nil ?_
            rintro _ ⟨z, rfl⟩
            go_wp2
            exact ⟨⟨k + 1, by omega, by simp, HN2, Bel.on0 hBW.out z.h⟩, by simp only [intOf]; omega⟩
          · obtain ⟨p, rfl⟩ : ∃ p, k = p + 1 := ⟨k - 1, by omega⟩
            have hpl : p < l.length := by omega
            obtain ⟨t, ht⟩ : ∃ t, l[p] = t := ⟨_, rfl⟩
            have ht' : l[p]? = some t := by rw [List.getElem?_eq_getElem hpl, ht]
            obtain ⟨b', o', e', _, d0, d1, d2, d3, d4⟩ := rcd_at (HH.out.below hB) hpl ht
            injection e' with e'
            injection e' with e5 e6 _
            subst e5 e6
            have okt := (hord.out p t (by omega) ht').1
            have HT := Lib.hid ht'
            have HOkt := Lib.hid okt
            obtain ⟨td, tf, tk, ti, to_⟩ := t
            dsimp only at d0 d1 d2 d3 d4
            have x0 : ∀ z : Ext Wb, z.W.cell? ⟨b, o + p * 5, none⟩ = some (.int .i64 td) := fun z => z.cell (by rw [← hWb]; exact cell_alw d0 _)
            have x1 : ∀ z : Ext Wb, z.W.cell? ⟨b, o + p * 5 + 1, none⟩ = some (.int .i64 tf) := fun z => z.cell (by rw [← hWb]; exact cell_alw d1 _)
            have x2 : ∀ z : Ext Wb, z.W.cell? ⟨b, o + p * 5 + 2, none⟩ = some (.int .i64 tk) := fun z => z.cell (by rw [← hWb]; exact cell_alw d2 _)
            have x3 : ∀ z : Ext Wb, z.W.cell? ⟨b, o + p * 5 + 3, none⟩ = some (.int .i64 ti) := fun z => z.cell (by rw [← hWb]; exact cell_alw d3 _)
            have x4 : ∀ z : Ext Wb, z.W.cell? ⟨b, o + p * 5 + 4, none⟩ = some (.int .i64 to_) := fun z => z.cell (by rw [← hWb]; exact cell_alw d4 _)
            have CT := Lib.hid fun z : Ext Wb => keyOf_at td tf tk ti to_ z.W
            have CC := fun z : Ext Wb => keycmp_at td tf tk ti to_ sd sf sk si so okt HOk.out z.W
            have hkl2 := key_lt ⟨td, tf, tk, ti, to_⟩ ⟨sd, sf, sk, si, so⟩
            obtain ⟨r, hr⟩ : ∃ r, lcmp (rkey ⟨td, tf, tk, ti, to_⟩) (rkey ⟨sd, sf, sk, si, so⟩) = r := ⟨_, rfl⟩
            rw [hr] at CC hkl2
            have HCC := Lib.hid CC
            clear CC hr okt ht ht' hk0
            have k0 : decide ((0 : Int) < (p : Int) + 1) = true := by simp <;> omega
            have k1 : decide (0 < p + 1) = true := by simp
            have g3 : (0 : Int) ≤ (p : Int) := by omega
            have g4 : (p : Int) < (n : Int) := by omega
            have gw : IntKind.i64.wrap (p : Int) = p := IntWalk.i64_in _ (by omega)
            by_cases hlt2 : RcdLt ⟨td, tf, tk, ti, to_⟩ ⟨sd, sf, sk, si, so⟩
            · have HN2 := Lib.hid (rcdsOk_succ hord.out HS.out HOk.out (fun j q hj hq => by
                obtain rfl : j = p := by omega
                rw [HT.out] at hq; injection hq with hq; subst hq; exact hlt2))
              have r1 : decide (0 ≤ r) = false := by simp; exact hkl2.2 hlt2
              clear hkl2 hlt2
              go_wp2
              refine wp_region_ext (by kernel_rfl) (by kernel_rfl) ?_
              repeat (go_big_quiet_step (first | with_reducible exact Ext.quiet (HCV.out _) | with_reducible exact Ext.quiet (HCC.out _) | with_reducible exact Ext.quiet (CK.out _) | with_reducible exact Ext.quiet (CT.out _)))
              refine wpQuiet_nil ?_
              rintro _ ⟨z, rfl⟩
              go_wp2
              exact ⟨⟨p + 1 + 1, by omega, by simp, HN2, Bel.on0 hBW.out z.h⟩, by simp only [intOf]; omega⟩
            · have HN2 := Lib.hid (HF.out (fun h5 => hlt2 (h5.2 p _ rfl HT.out)))
              have r1 : decide (0 ≤ r) = true := by simp; have := mt hkl2.1 hlt2; omega
              clear hkl2 hlt2
              go_wp2
              refine wp_region_ext (by kernel_rfl) (by kernel_rfl) ?_
              repeat (go_big_quiet_step (first | with_reducible exact Ext.quiet (HCV.out _) | with_reducible exact Ext.quiet (HCC.out _) | with_reducible exact Ext.quiet (CK.out _) | with_reducible exact Ext.quiet (CT.out _)))
              refine wpQuiet_nil ?_
              rintro _ ⟨z, rfl⟩
              go_wp2
              go_ret
              exact ⟨ret_int HN2.out.symm, Bel.on0 hBW.out z.h⟩
        · have HN2 := Lib.hid (HF.out (fun h5 => ok h5.1))
          rw [decide_eq_false ok] at CV
          have HCV := Lib.hid CV
          clear CV ok
          go_wp2
          refine wp_region_ext (by kernel_rfl) (by kernel_rfl) ?_
          repeat (go_big_quiet_step (first | with_reducible exact Ext.quiet (HCV.out _)))
          refine wpQuiet_nil ?_
          rintro _ ⟨z, rfl⟩
          go_wp2
          go_ret
          exact ⟨ret_int HN2.out.symm, Bel.on0 hBW.out z.h⟩
      · obtain rfl : k = n := by omega
        have HF := Lib.hid (checkR_yes HN.out (by rw [HL.out]; exact hord.out))
        go_wp2
        go_ret
        exact ⟨ret_int HF.out.symm, hB⟩
  · have hn' : (256 : Int) < n := by omega
    have HF := Lib.hid (checkR_more (show 256 < l.length by rw [HL.out]; omega))
    go_enter Try.func27, Try.ntmps27
    go_wp2
    go_ret
    exact ⟨ret_int HF.out.symm, Below.refl _ _⟩
end Go.Proofs.Yteconepbhajjeaa
