/- Layer 42: At, the reference's Valid, Less, Check. -/
import Derived.Test.YteconepbhajjeaaCalD
namespace Go.Proofs.Yteconepbhajjeaa
open Go.RowKit

def AtOk (dev pos known : Int) : Prop := 0 ≤ dev ∧ dev ≤ 15 ∧ 0 ≤ pos ∧ pos ≤ 1099511627776 ∧ 0 ≤ known ∧ known ≤ 16777216
instance (dev pos known : Int) : Decidable (AtOk dev pos known) := by unfold AtOk; infer_instance
/-- What At answers. -/
noncomputable def atR (l : List Rcd) (dev pos known : Int) : Int × Int × Bool × Int :=
  if checkR l ≠ 0 then (0, 0, false, checkR l) else if AtOk dev pos known then ((fOut (findS l dev pos known)).1, (fOut (findS l dev pos known)).2.1, (fOut (findS l dev pos known)).2.2, 0) else (0, 0, false, 1)
def AtRet (w : World) (l : List Rcd) (dev pos known : Int) (e : Ending) (w' : World) : Prop :=
  e = .returned (.tuple #[.int .i64 (atR l dev pos known).1, .int .i64 (atR l dev pos known).2.1, .bool (atR l dev pos known).2.2.1, .int .i64 (atR l dev pos known).2.2.2]) ∧ Below w.heap.size w w'
theorem not_atOk {dev pos known : Int} (h : ¬ AtOk dev pos known) : dev < 0 ∨ (0 ≤ dev ∧ 15 < dev) ∨ (0 ≤ dev ∧ dev ≤ 15 ∧ pos < 0) ∨ (0 ≤ dev ∧ dev ≤ 15 ∧ 0 ≤ pos ∧ 1099511627776 < pos) ∨
    (0 ≤ dev ∧ dev ≤ 15 ∧ 0 ≤ pos ∧ pos ≤ 1099511627776 ∧ known < 0) ∨ (0 ≤ dev ∧ dev ≤ 15 ∧ 0 ≤ pos ∧ pos ≤ 1099511627776 ∧ 0 ≤ known ∧ 16777216 < known) := by
  unfold AtOk at h; omega
set_option maxHeartbeats 2000000 in
theorem at_any (A : Option Addr) (n c : Nat) (l : List Rcd) (dev pos known : Int) (w : World) (h : SA rcdE w A n c l) :
    Calls Try.prog 20 #[.slice A n c, .int .i64 dev, .int .i64 pos, .int .i64 known] w (AtRet w l dev pos known) := by
  have C := ccheck_any A n c l w h
  have CF := Lib.hid fun (w' : World) (hb : Below w.heap.size w w') => find_any A n c l dev pos known w' (h.below hb)
  clear h
  by_cases hc : checkR l = 0
  · rw [hc] at C
    by_cases hk : AtOk dev pos known
    · have HR := Lib.hid (show atR l dev pos known = ((fOut (findS l dev pos known)).1, (fOut (findS l dev pos known)).2.1, (fOut (findS l dev pos known)).2.2, 0) by unfold atR; rw [if_neg (by omega), if_pos hk])
      obtain ⟨h1, h2, h3, h4, h5, h6⟩ := hk
      obtain ⟨fi, fo, fb, hf⟩ : ∃ fi fo fb, fOut (findS l dev pos known) = (fi, fo, fb) := ⟨_, _, _, rfl⟩
      rw [hf] at HR CF
      clear hc hf
      go_enter Try.func20, Try.ntmps20
      go_wp2_with (first
        | (go_at_call 27; ((with_reducible refine C.mono ?_); rintro e w1 ⟨rfl, hh1⟩))
        | (go_at_call 28; ((with_reducible refine (CF.out _ hh1).mono ?_); rintro e w2 ⟨rfl, hh2⟩)))
      go_quiet (fail)
      rename Nat => q
      go_wp2
      exact bodyPost_ret (v := .tuple #[.int .i64 fi, .int .i64 fo, .bool fb, .int .i64 0]) (by simp [results, Try.results20, go_sem]) rfl ⟨by rw [HR.out], below_drewN (Bel.al (Bel.on0 hh1 hh2) _) _⟩
    · have HR := Lib.hid (show atR l dev pos known = (0, 0, false, 1) by unfold atR; rw [if_neg (by omega), if_neg hk])
      have hc2 := not_atOk hk
      clear hk hc CF
      rcases hc2 with h1 | ⟨h1, h2⟩ | ⟨h1, h2, h3⟩ | ⟨h1, h2, h3, h4⟩ | ⟨h1, h2, h3, h4, h5⟩ | ⟨h1, h2, h3, h4, h5, h6⟩
      all_goals
        go_enter Try.func20, Try.ntmps20
        go_wp2_with (go_at_call 27; ((with_reducible refine C.mono ?_); rintro e w1 ⟨rfl, hh1⟩))
        exact bodyPost_ret (v := .tuple #[.int .i64 0, .int .i64 0, .bool false, .int .i64 1]) (by simp [results, Try.results20, go_sem]) rfl ⟨by rw [HR.out], hh1⟩
  · have HR := Lib.hid (show atR l dev pos known = (0, 0, false, checkR l) by unfold atR; rw [if_pos hc])
    have hc1 : (checkR l != 0) = true := by simpa using hc
    obtain ⟨z, hz⟩ : ∃ z, checkR l = z := ⟨_, rfl⟩
    rw [hz] at HR C hc1
    clear hc hz CF
    go_enter Try.func20, Try.ntmps20
    go_wp2_with (go_at_call 27; ((with_reducible refine C.mono ?_); rintro e w1 ⟨rfl, hh1⟩))
    exact bodyPost_ret (v := .tuple #[.int .i64 0, .int .i64 0, .bool false, .int .i64 z]) (by simp [results, Try.results20, go_sem]) rfl ⟨by rw [HR.out], hh1⟩

theorem not_rcdOk2 {r : Rcd} (h : ¬ RcdOk r) : r.dev < 0 ∨ (0 ≤ r.dev ∧ 15 < r.dev) ∨ (0 ≤ r.dev ∧ r.dev ≤ 15 ∧ r.frm < 0) ∨ (0 ≤ r.dev ∧ r.dev ≤ 15 ∧ 0 ≤ r.frm ∧ 1099511627776 < r.frm) ∨
    (0 ≤ r.dev ∧ r.dev ≤ 15 ∧ 0 ≤ r.frm ∧ r.frm ≤ 1099511627776 ∧ r.known < 1) ∨ (0 ≤ r.dev ∧ r.dev ≤ 15 ∧ 0 ≤ r.frm ∧ r.frm ≤ 1099511627776 ∧ 1 ≤ r.known ∧ 16777216 < r.known) ∨
    (0 ≤ r.dev ∧ r.dev ≤ 15 ∧ 0 ≤ r.frm ∧ r.frm ≤ 1099511627776 ∧ 1 ≤ r.known ∧ r.known ≤ 16777216 ∧ r.inn < 0) ∨ (0 ≤ r.dev ∧ r.dev ≤ 15 ∧ 0 ≤ r.frm ∧ r.frm ≤ 1099511627776 ∧ 1 ≤ r.known ∧ r.known ≤ 16777216 ∧ 0 ≤ r.inn ∧ 1048576 < r.inn) ∨
    (0 ≤ r.dev ∧ r.dev ≤ 15 ∧ 0 ≤ r.frm ∧ r.frm ≤ 1099511627776 ∧ 1 ≤ r.known ∧ r.known ≤ 16777216 ∧ 0 ≤ r.inn ∧ r.inn ≤ 1048576 ∧ r.out < 0) ∨
    (0 ≤ r.dev ∧ r.dev ≤ 15 ∧ 0 ≤ r.frm ∧ r.frm ≤ 1099511627776 ∧ 1 ≤ r.known ∧ r.known ≤ 16777216 ∧ 0 ≤ r.inn ∧ r.inn ≤ 1048576 ∧ 0 ≤ r.out ∧ 1048576 < r.out) := by
  unfold RcdOk at h
  by_cases h0 : r.dev < 0
  · exact .inl h0
  refine .inr ?_
  by_cases h1 : 15 < r.dev
  · exact .inl ⟨by omega, h1⟩
  refine .inr ?_
  by_cases h2 : r.frm < 0
  · exact .inl ⟨by omega, by omega, h2⟩
  refine .inr ?_
  by_cases h3 : 1099511627776 < r.frm
  · exact .inl ⟨by omega, by omega, by omega, h3⟩
  refine .inr ?_
  by_cases h4 : r.known < 1
  · exact .inl ⟨by omega, by omega, by omega, by omega, h4⟩
  refine .inr ?_
  by_cases h5 : 16777216 < r.known
  · exact .inl ⟨by omega, by omega, by omega, by omega, by omega, h5⟩
  refine .inr ?_
  by_cases h6 : r.inn < 0
  · exact .inl ⟨by omega, by omega, by omega, by omega, by omega, by omega, h6⟩
  refine .inr ?_
  by_cases h7 : 1048576 < r.inn
  · exact .inl ⟨by omega, by omega, by omega, by omega, by omega, by omega, by omega, h7⟩
  refine .inr ?_
  by_cases h8 : r.out < 0
  · exact .inl ⟨by omega, by omega, by omega, by omega, by omega, by omega, by omega, by omega, h8⟩
  refine .inr ?_
  exact ⟨by omega, by omega, by omega, by omega, by omega, by omega, by omega, by omega, by omega, by omega⟩
set_option maxHeartbeats 2000000 in
theorem rvalid_at (d f k i o : Int) (w : World) : Calls Try.prog 38 #[.agg #[.int .i64 d, .int .i64 f, .int .i64 k, .int .i64 i, .int .i64 o]] w fun e w' => e = .returned (.bool (decide (RcdOk ⟨d, f, k, i, o⟩))) ∧ Below w.heap.size w w' := by
  by_cases hr : RcdOk ⟨d, f, k, i, o⟩
  · have HD := Lib.hid (show decide (RcdOk ⟨d, f, k, i, o⟩) = true from decide_eq_true hr)
    unfold RcdOk at hr
    dsimp only at hr
    obtain ⟨h1, h2, h3, h4, h5, h6, h7, h8, h9, h10⟩ := hr
    have h16 : d < 16 := by omega
    have d10 : decide (o ≤ 1048576) = true := by simpa using h10
    go_enter Try.func38, Try.ntmps38
    go_wp2
    go_ret
    exact ⟨ret_bool (by rw [HD.out]; try rfl), (Below.refl _ w).alloc (Nat.le_refl _) _⟩
  · have HD := Lib.hid (show decide (RcdOk ⟨d, f, k, i, o⟩) = false from decide_eq_false hr)
    have hc := not_rcdOk2 hr
    clear hr
    dsimp only at hc
    rcases hc with h1 | ⟨h1, h2⟩ | ⟨h1, h2, h3⟩ | ⟨h1, h2, h3, h4⟩ | ⟨h1, h2, h3, h4, h5⟩ | ⟨h1, h2, h3, h4, h5, h6⟩ | ⟨h1, h2, h3, h4, h5, h6, h7⟩ | ⟨h1, h2, h3, h4, h5, h6, h7, h8⟩ | ⟨h1, h2, h3, h4, h5, h6, h7, h8, h9⟩ | ⟨h1, h2, h3, h4, h5, h6, h7, h8, h9, h10⟩
    all_goals
      go_enter Try.func38, Try.ntmps38
      go_wp2
      go_ret
      exact ⟨ret_bool (by rw [HD.out]; try (first | rfl | (simp <;> omega))), (Below.refl _ w).alloc (Nat.le_refl _) _⟩
set_option maxHeartbeats 2000000 in
theorem rless_at (d f k i o d2 f2 k2 i2 o2 : Int) (w : World) : Calls Try.prog 39 #[.agg #[.int .i64 d, .int .i64 f, .int .i64 k, .int .i64 i, .int .i64 o], .agg #[.int .i64 d2, .int .i64 f2, .int .i64 k2, .int .i64 i2, .int .i64 o2]] w fun e w' =>
    e = .returned (.bool (decide (RcdLt ⟨d, f, k, i, o⟩ ⟨d2, f2, k2, i2, o2⟩))) ∧ Below w.heap.size w w' := by
  by_cases h1 : d = d2
  · subst h1
    by_cases h2 : f = f2
    · subst h2
      have H := Lib.hid (show decide (k < k2) = decide (RcdLt ⟨d, f, k, i, o⟩ ⟨d, f, k2, i2, o2⟩) by unfold RcdLt; simp)
      go_enter Try.func39, Try.ntmps39
      go_wp2
      go_ret
      exact ⟨ret_bool H.out, ((Below.refl _ w).alloc (Nat.le_refl _) _).alloc (by simp) _⟩
    · have H := Lib.hid (show decide (f < f2) = decide (RcdLt ⟨d, f, k, i, o⟩ ⟨d, f2, k2, i2, o2⟩) by unfold RcdLt; simp [h2])
      have hb : (f != f2) = true := by simpa using h2
      clear h2
      go_enter Try.func39, Try.ntmps39
      go_wp2
      go_ret
      exact ⟨ret_bool H.out, ((Below.refl _ w).alloc (Nat.le_refl _) _).alloc (by simp) _⟩
  · have H := Lib.hid (show decide (d < d2) = decide (RcdLt ⟨d, f, k, i, o⟩ ⟨d2, f2, k2, i2, o2⟩) by unfold RcdLt; simp [h1])
    have hb : (d != d2) = true := by simpa using h1
    clear h1
    go_enter Try.func39, Try.ntmps39
    go_wp2
    go_ret
    exact ⟨ret_bool H.out, ((Below.refl _ w).alloc (Nat.le_refl _) _).alloc (by simp) _⟩
set_option maxHeartbeats 4000000 in
theorem rcheck_any (A : Option Addr) (n c : Nat) (l : List Rcd) (w : World) (h : SA rcdE w A n c l) :
    Calls Try.prog 32 #[.slice A n c] w fun e w' => e = .returned (.int .i64 (checkR l)) ∧ Below w.heap.size w w' := by
  have hlen := h.len
  have HL := Lib.hid h.n_eq
  have HH := Lib.hid h
  by_cases hn : n ≤ 256
  · have hn' : (n : Int) ≤ 256 := by omega
    have HN := Lib.hid (show ¬ 256 < l.length by rw [HL.out]; omega)
    clear h
    go_enter Try.func32, Try.ntmps32
    go_wp2
    go_loopw [3] (fun i wr => ∃ k : Nat, k ≤ n ∧ i = .int .i64 k ∧ Hid (rcdsOk l k) ∧ Below w.heap.size w wr) (fun i _ => n - (intOf i).toNat)
    case atStart => exact ⟨0, Nat.zero_le _, rfl, Lib.hid (fun j s hj _ => by omega), Below.refl _ _⟩
    case round =>
      obtain ⟨k, hk, rfl, hord, hB⟩ := hrel
      by_cases hlt : k < n
      · have hkl : k < l.length := by rw [HL.out]; exact hlt
        obtain ⟨s, hs⟩ : ∃ s, l[k] = s := ⟨_, rfl⟩
        have hs' : l[k]? = some s := by rw [List.getElem?_eq_getElem hkl, hs]
        obtain ⟨b, o, rfl, hb, c0, c1, c2, c3, c4⟩ := rcd_at (HH.out.below hB) hkl hs
        have HS := Lib.hid hs'
        have hF := fun h => checkR_no HN.out hs' h
        have HF := Lib.hid hF
        clear hs hs' hF
        obtain ⟨sd, sf, sk, si, so⟩ := s
        dsimp only at c0 c1 c2 c3 c4
        have e0 : ∀ z : Ext wr, z.W.cell? ⟨b, o + k * 5, none⟩ = some (.int .i64 sd) := fun z => z.cell c0
        have e1 : ∀ z : Ext wr, z.W.cell? ⟨b, o + k * 5 + 1, none⟩ = some (.int .i64 sf) := fun z => z.cell c1
        have e2 : ∀ z : Ext wr, z.W.cell? ⟨b, o + k * 5 + 2, none⟩ = some (.int .i64 sk) := fun z => z.cell c2
        have e3 : ∀ z : Ext wr, z.W.cell? ⟨b, o + k * 5 + 3, none⟩ = some (.int .i64 si) := fun z => z.cell c3
        have e4 : ∀ z : Ext wr, z.W.cell? ⟨b, o + k * 5 + 4, none⟩ = some (.int .i64 so) := fun z => z.cell c4
        have CV := fun z : Ext wr => rvalid_at sd sf sk si so z.W
        have g5 : (0 : Int) ≤ (k : Int) := by omega
        have g6 : (k : Int) < (n : Int) := by omega
        clear c0 c1 c2 c3 c4
        by_cases ok : RcdOk ⟨sd, sf, sk, si, so⟩
        · have HOk := Lib.hid ok
          rw [decide_eq_true ok] at CV
          have HCV := Lib.hid CV
          clear CV ok
          by_cases hk0 : k = 0
          · have HN2 := Lib.hid (rcdsOk_succ hord.out HS.out HOk.out (fun j q hj => by omega))
            have k0 : decide ((0 : Int) < (k : Int)) = false := by simp; omega
            have k1 : decide (0 < k) = false := by simp; omega
            clear hk0
            go_wp2
            refine wp_region_ext (by kernel_rfl) (by kernel_rfl) ?_
            repeat (go_big_quiet_step (first | with_reducible exact Ext.quiet (HCV.out _)))
            refine wpQuiet_nil ?_
            rintro _ ⟨z, rfl⟩
            go_wp2
            exact ⟨⟨k + 1, by omega, by simp, HN2, Bel.on0 hB z.h⟩, by simp only [intOf]; omega⟩
          · obtain ⟨p, rfl⟩ : ∃ p, k = p + 1 := ⟨k - 1, by omega⟩
            have hpl : p < l.length := by omega
            obtain ⟨t, ht⟩ : ∃ t, l[p] = t := ⟨_, rfl⟩
            have ht' : l[p]? = some t := by rw [List.getElem?_eq_getElem hpl, ht]
            obtain ⟨b', o', e', _, d0, d1, d2, d3, d4⟩ := rcd_at (HH.out.below hB) hpl ht
            injection e' with e'
            injection e' with e5 e6 _
            subst e5 e6
            have HT := Lib.hid ht'
            obtain ⟨td, tf, tk, ti, to_⟩ := t
            dsimp only at d0 d1 d2 d3 d4
            have x0 : ∀ z : Ext wr, z.W.cell? ⟨b, o + p * 5, none⟩ = some (.int .i64 td) := fun z => z.cell d0
            have x1 : ∀ z : Ext wr, z.W.cell? ⟨b, o + p * 5 + 1, none⟩ = some (.int .i64 tf) := fun z => z.cell d1
            have x2 : ∀ z : Ext wr, z.W.cell? ⟨b, o + p * 5 + 2, none⟩ = some (.int .i64 tk) := fun z => z.cell d2
            have x3 : ∀ z : Ext wr, z.W.cell? ⟨b, o + p * 5 + 3, none⟩ = some (.int .i64 ti) := fun z => z.cell d3
            have x4 : ∀ z : Ext wr, z.W.cell? ⟨b, o + p * 5 + 4, none⟩ = some (.int .i64 to_) := fun z => z.cell d4
            have CC := fun z : Ext wr => rless_at td tf tk ti to_ sd sf sk si so z.W
            clear ht ht' hk0 d0 d1 d2 d3 d4
            have k0 : decide ((0 : Int) < (p : Int) + 1) = true := by simp <;> omega
            have k1 : decide (0 < p + 1) = true := by simp
            have g3 : (0 : Int) ≤ (p : Int) := by omega
            have g4 : (p : Int) < (n : Int) := by omega
            have gw : IntKind.i64.wrap (p : Int) = p := IntWalk.i64_in _ (by omega)
            by_cases hlt2 : RcdLt ⟨td, tf, tk, ti, to_⟩ ⟨sd, sf, sk, si, so⟩
            · have HN2 := Lib.hid (rcdsOk_succ hord.out HS.out HOk.out (fun j q hj hq => by
                obtain rfl : j = p := by omega
                rw [HT.out] at hq; injection hq with hq; subst hq; exact hlt2))
              rw [decide_eq_true hlt2] at CC
              have HCC := Lib.hid CC
              clear CC hlt2
              go_wp2
              refine wp_region_ext (by kernel_rfl) (by kernel_rfl) ?_
              repeat (go_big_quiet_step (first | with_reducible exact Ext.quiet (HCV.out _) | with_reducible exact Ext.quiet (HCC.out _)))
              refine wpQuiet_nil ?_
              rintro _ ⟨z, rfl⟩
              go_wp2
              exact ⟨⟨p + 1 + 1, by omega, by simp, HN2, Bel.on0 hB z.h⟩, by simp only [intOf]; omega⟩
            · have HN2 := Lib.hid (HF.out (fun h5 => hlt2 (h5.2 p _ rfl HT.out)))
              rw [decide_eq_false hlt2] at CC
              have HCC := Lib.hid CC
              clear CC hlt2
              go_wp2
              refine wp_region_ext (by kernel_rfl) (by kernel_rfl) ?_
              repeat (go_big_quiet_step (first | with_reducible exact Ext.quiet (HCV.out _) | with_reducible exact Ext.quiet (HCC.out _)))
              refine wpQuiet_nil ?_
              rintro _ ⟨z, rfl⟩
              go_wp2
              go_ret
              exact ⟨ret_int HN2.out.symm, Bel.on0 hB z.h⟩
        · have HN2 := Lib.hid (HF.out (fun h5 => ok h5.1))
          rw [decide_eq_false ok] at CV
          have HCV := Lib.hid CV
          clear CV ok
          go_wp2
          refine wp_region_ext (by kernel_rfl) (by kernel_rfl) ?_
          repeat (go_big_quiet_step (first | with_reducible exact Ext.quiet (HCV.out _)))
          refine wpQuiet_nil ?_
          rintro _ ⟨z, rfl⟩
          go_wp2
          go_ret
          exact ⟨ret_int HN2.out.symm, Bel.on0 hB z.h⟩
      · obtain rfl : k = n := by omega
        have HF := Lib.hid (checkR_yes HN.out (by rw [HL.out]; exact hord.out))
        go_wp2
        go_ret
        exact ⟨ret_int HF.out.symm, hB⟩
  · have hn' : (256 : Int) < n := by omega
    have HF := Lib.hid (checkR_more (show 256 < l.length by rw [HL.out]; omega))
    go_enter Try.func32, Try.ntmps32
    go_wp2
    go_ret
    exact ⟨ret_int HF.out.symm, Below.refl _ _⟩
end Go.Proofs.Yteconepbhajjeaa
