/- Layer 50: the reference's Valid, Check. -/
import Derived.Test.YtmfdflfjllpceaaZMvE
namespace Go.Proofs.Ytmfdflfjllpceaa
open Go.RowKit

theorem not_evOk {t q c k v n : Int} (h : ¬ EvOk ⟨t, q, c, k, v, n⟩) : t < 0 ∨ (0 ≤ t ∧ 1099511627776 < t) ∨ (0 ≤ t ∧ t ≤ 1099511627776 ∧ c < 0) ∨ (0 ≤ t ∧ t ≤ 1099511627776 ∧ 0 ≤ c ∧ 15 < c) ∨
    (0 ≤ t ∧ t ≤ 1099511627776 ∧ 0 ≤ c ∧ c ≤ 15 ∧ k < 0) ∨ (0 ≤ t ∧ t ≤ 1099511627776 ∧ 0 ≤ c ∧ c ≤ 15 ∧ 0 ≤ k ∧ 127 < k) ∨
    (0 ≤ t ∧ t ≤ 1099511627776 ∧ 0 ≤ c ∧ c ≤ 15 ∧ 0 ≤ k ∧ k ≤ 127 ∧ n < 0) ∨ (0 ≤ t ∧ t ≤ 1099511627776 ∧ 0 ≤ c ∧ c ≤ 15 ∧ 0 ≤ k ∧ k ≤ 127 ∧ 0 ≤ n ∧ 4095 < n) ∨
    ((0 ≤ t ∧ t ≤ 1099511627776 ∧ 0 ≤ c ∧ c ≤ 15 ∧ 0 ≤ k ∧ k ≤ 127 ∧ 0 ≤ n ∧ n ≤ 4095) ∧ ((q = 1 ∧ v ≠ 0) ∨ (q = 2 ∧ (v < 0 ∨ (0 ≤ v ∧ 127 < v))) ∨ (q = 3 ∧ (v < 1 ∨ (1 ≤ v ∧ 127 < v))) ∨ (q ≠ 1 ∧ q ≠ 2 ∧ q ≠ 3))) := by
  by_cases h0 : t < 0
  · exact .inl h0
  refine .inr ?_
  by_cases h1 : 1099511627776 < t
  · exact .inl ⟨by omega, h1⟩
  refine .inr ?_
  by_cases h2 : c < 0
  · exact .inl ⟨by omega, by omega, h2⟩
  refine .inr ?_
  by_cases h3 : 15 < c
  · exact .inl ⟨by omega, by omega, by omega, h3⟩
  refine .inr ?_
  by_cases h4 : k < 0
  · exact .inl ⟨by omega, by omega, by omega, by omega, h4⟩
  refine .inr ?_
  by_cases h5 : 127 < k
  · exact .inl ⟨by omega, by omega, by omega, by omega, by omega, h5⟩
  refine .inr ?_
  by_cases h6 : n < 0
  · exact .inl ⟨by omega, by omega, by omega, by omega, by omega, by omega, h6⟩
  refine .inr ?_
  by_cases h7 : 4095 < n
  · exact .inl ⟨by omega, by omega, by omega, by omega, by omega, by omega, by omega, h7⟩
  refine .inr ⟨⟨by omega, by omega, by omega, by omega, by omega, by omega, by omega, by omega⟩, ?_⟩
  by_cases k1 : q = 1
  · refine .inl ⟨k1, fun hv => h ?_⟩
    subst k1 hv
    exact ⟨by simp, by simp, by simp; omega, by simp; omega, by simp; omega, by simp; omega, by simp; omega, by simp; omega, by simp; omega, by simp; omega, by simp, by simp⟩
  refine .inr ?_
  by_cases k2 : q = 2
  · refine .inl ⟨k2, ?_⟩
    by_cases v0 : v < 0
    · exact .inl v0
    by_cases v1 : 127 < v
    · exact .inr ⟨by omega, v1⟩
    subst k2
    exact absurd ⟨by simp, by simp, by simp; omega, by simp; omega, by simp; omega, by simp; omega, by simp; omega, by simp; omega, by simp; omega, by simp; omega, by simp; omega, by simp; omega⟩ h
  refine .inr ?_
  by_cases k3 : q = 3
  · refine .inl ⟨k3, ?_⟩
    by_cases v0 : v < 1
    · exact .inl v0
    by_cases v1 : 127 < v
    · exact .inr ⟨by omega, v1⟩
    subst k3
    exact absurd ⟨by simp, by simp, by simp; omega, by simp; omega, by simp; omega, by simp; omega, by simp; omega, by simp; omega, by simp; omega, by simp; omega, by simp; omega, by simp; omega⟩ h
  exact .inr ⟨k1, k2, k3⟩
set_option maxHeartbeats 4000000 in
theorem rvalid_at (t q c k v n : Int) (w : World) : Calls Try.prog 24 #[.agg #[.int .i64 t, .int .i64 q, .int .i64 c, .int .i64 k, .int .i64 v, .int .i64 n]] w fun e w' => e = .returned (.bool (decide (EvOk ⟨t, q, c, k, v, n⟩))) ∧ Below w.heap.size w w' := by
  by_cases hr : EvOk ⟨t, q, c, k, v, n⟩
  · have HD := Lib.hid (show decide (EvOk ⟨t, q, c, k, v, n⟩) = true from decide_eq_true hr)
    unfold EvOk at hr
    dsimp only at hr
    obtain ⟨h1, h2, h3, h4, h5, h6, h7, h8, h9, h10, h11, h12⟩ := hr
    have hq : q = 1 ∨ q = 2 ∨ q = 3 := by omega
    rcases hq with rfl | rfl | rfl
    · obtain rfl : v = 0 := by simp at h11 h12; omega
      clear h11 h12
      go_enter Try.func24, Try.ntmps24
      go_wp2
      go_ret
      exact ⟨ret_bool (by rw [HD.out]; try rfl), (Below.refl _ w).alloc (Nat.le_refl _) _⟩
    all_goals
      simp at h11 h12
      have d10 : decide (v ≤ 127) = true := by simpa using h12
      go_enter Try.func24, Try.ntmps24
      go_wp2
      go_ret
      exact ⟨ret_bool (by rw [HD.out]; try rfl), (Below.refl _ w).alloc (Nat.le_refl _) _⟩
  · have HD := Lib.hid (show decide (EvOk ⟨t, q, c, k, v, n⟩) = false from decide_eq_false hr)
    have hc := not_evOk hr
    clear hr
    rcases hc with h1 | ⟨h1, h2⟩ | ⟨h1, h2, h3⟩ | ⟨h1, h2, h3, h4⟩ | ⟨h1, h2, h3, h4, h5⟩ | ⟨h1, h2, h3, h4, h5, h6⟩ | ⟨h1, h2, h3, h4, h5, h6, h7⟩ | ⟨h1, h2, h3, h4, h5, h6, h7, h8⟩ | ⟨⟨h1, h2, h3, h4, h5, h6, h7, h8⟩, ⟨rfl, h9⟩ | ⟨rfl, h9 | ⟨h9, h10⟩⟩ | ⟨rfl, h9 | ⟨h9, h10⟩⟩ | ⟨h9, h10, h11⟩⟩
    all_goals
      try (have d9 : (v == 0) = false := by simpa using h9)
      try (have d9 : (q == 1) = false := by simpa using h9)
      try (have d10 : (q == 2) = false := by simpa using h10)
      try (have d11 : (q == 3) = false := by simpa using h11)
      go_enter Try.func24, Try.ntmps24
      go_wp2
      go_ret
      exact ⟨ret_bool (by rw [HD.out]; try (first | rfl | (simp <;> omega))), (Below.refl _ w).alloc (Nat.le_refl _) _⟩
set_option maxHeartbeats 4000000 in
theorem rcheck_any (A : Option Addr) (n c : Nat) (l : List Ev) (w : World) (h : SA evE w A n c l) :
    Calls Try.prog 13 #[.slice A n c] w fun e w' => e = .returned (.int .i64 (checkM l)) ∧ Below w.heap.size w w' := by
  have hlen := h.len
  have HL := Lib.hid h.n_eq
  have HH := Lib.hid h
  by_cases hn : n ≤ 4096
  · have hn' : (n : Int) ≤ 4096 := by omega
    have HN := Lib.hid (show ¬ 4096 < l.length by rw [HL.out]; omega)
    clear h
    go_enter Try.func13, Try.ntmps13
    go_wp2
    go_loopw [3] (fun i wr => ∃ k : Nat, k ≤ n ∧ i = .int .i64 k ∧ Hid (evsOk l k) ∧ Below w.heap.size w wr) (fun i _ => n - (intOf i).toNat)
    case atStart => exact ⟨0, Nat.zero_le _, rfl, Lib.hid (fun j s hj _ => by omega), Below.refl _ _⟩
    case round =>
      obtain ⟨k, hk, rfl, hord, hB⟩ := hrel
      by_cases hlt : k < n
      · have hkl : k < l.length := by rw [HL.out]; exact hlt
        obtain ⟨s, hs⟩ : ∃ s, l[k] = s := ⟨_, rfl⟩
        have hs' : l[k]? = some s := by rw [List.getElem?_eq_getElem hkl, hs]
        obtain ⟨b, o, rfl, hb, c0, c1, c2, c3, c4, c5⟩ := ev_at (HH.out.below hB) hkl hs
        have HS := Lib.hid hs'
        have hF := fun h => checkM_no HN.out hs' h
        have HF := Lib.hid hF
        clear hs hs' hF
        obtain ⟨sd, sf, sk, si, so, sm⟩ := s
        dsimp only at c0 c1 c2 c3 c4 c5
        have e0 : ∀ z : Ext wr, z.W.cell? ⟨b, o + k * 6, none⟩ = some (.int .i64 sd) := fun z => z.cell c0
        have e1 : ∀ z : Ext wr, z.W.cell? ⟨b, o + k * 6 + 1, none⟩ = some (.int .i64 sf) := fun z => z.cell c1
        have e2 : ∀ z : Ext wr, z.W.cell? ⟨b, o + k * 6 + 2, none⟩ = some (.int .i64 sk) := fun z => z.cell c2
        have e3 : ∀ z : Ext wr, z.W.cell? ⟨b, o + k * 6 + 3, none⟩ = some (.int .i64 si) := fun z => z.cell c3
        have e4 : ∀ z : Ext wr, z.W.cell? ⟨b, o + k * 6 + 4, none⟩ = some (.int .i64 so) := fun z => z.cell c4
        have e5 : ∀ z : Ext wr, z.W.cell? ⟨b, o + k * 6 + 5, none⟩ = some (.int .i64 sm) := fun z => z.cell c5
        have CV := fun z : Ext wr => rvalid_at sd sf sk si so sm z.W
        have g5 : (0 : Int) ≤ (k : Int) := by omega
        have g6 : (k : Int) < (n : Int) := by omega
        clear c0 c1 c2 c3 c4 c5
        by_cases ok : EvOk ⟨sd, sf, sk, si, so, sm⟩
        · have HOk := Lib.hid ok
          rw [decide_eq_true ok] at CV
          have HCV := Lib.hid CV
          clear CV ok
          by_cases hk0 : k = 0
          · have HN2 := Lib.hid (evsOk_succ hord.out HS.out HOk.out (fun j q hj => by omega))
            have k0 : decide ((0 : Int) < (k : Int)) = false := by simp; omega
            have k1 : decide (0 < k) = false := by simp; omega
            clear hk0
            go_wp2
            refine wp_region_ext (by kernel_rfl) (by kernel_rfl) ?_
            repeat (go_big_quiet_step (first | with_reducible exact Ext.quiet (HCV.out _)))
            refine wpQuiet_nil ?_
            rintro _ ⟨z, rfl⟩
            go_wp2
            exact ⟨⟨k + 1, by omega, by simp, HN2, Bel.on0 hB z.h⟩, by simp only [intOf]; omega⟩
          · obtain ⟨p, rfl⟩ : ∃ p, k = p + 1 := ⟨k - 1, by omega⟩
            have hpl : p < l.length := by omega
            obtain ⟨t, ht⟩ : ∃ t, l[p] = t := ⟨_, rfl⟩
            have ht' : l[p]? = some t := by rw [List.getElem?_eq_getElem hpl, ht]
            obtain ⟨b', o', e', _, d0, d1, d2, d3, d4, d5⟩ := ev_at (HH.out.below hB) hpl ht
            injection e' with e'
            injection e' with e5 e6 _
            subst e5 e6
            have HT := Lib.hid ht'
            have okt : EvI t := (hord.out p t (by omega) ht').1.key64
            obtain ⟨td, tf, tk, ti, to_, tm⟩ := t
            dsimp only at d0 d1 d2 d3 d4 d5
            have x0 : ∀ z : Ext wr, z.W.cell? ⟨b, o + p * 6, none⟩ = some (.int .i64 td) := fun z => z.cell d0
            have x1 : ∀ z : Ext wr, z.W.cell? ⟨b, o + p * 6 + 1, none⟩ = some (.int .i64 tf) := fun z => z.cell d1
            have x2 : ∀ z : Ext wr, z.W.cell? ⟨b, o + p * 6 + 2, none⟩ = some (.int .i64 tk) := fun z => z.cell d2
            have x3 : ∀ z : Ext wr, z.W.cell? ⟨b, o + p * 6 + 3, none⟩ = some (.int .i64 ti) := fun z => z.cell d3
            have x4 : ∀ z : Ext wr, z.W.cell? ⟨b, o + p * 6 + 4, none⟩ = some (.int .i64 to_) := fun z => z.cell d4
            have x5 : ∀ z : Ext wr, z.W.cell? ⟨b, o + p * 6 + 5, none⟩ = some (.int .i64 tm) := fun z => z.cell d5
            have CC := fun z : Ext wr => rless_at td tf tk ti to_ tm sd sf sk si so sm okt HOk.out.key64 z.W
            clear ht ht' hk0 d0 d1 d2 d3 d4 d5
            have k0 : decide ((0 : Int) < (p : Int) + 1) = true := by simp <;> omega
            have k1 : decide (0 < p + 1) = true := by simp
            have g3 : (0 : Int) ≤ (p : Int) := by omega
            have g4 : (p : Int) < (n : Int) := by omega
            have gw : IntKind.i64.wrap (p : Int) = p := IntWalk.i64_in _ (by omega)
            by_cases hlt2 : evLt ⟨td, tf, tk, ti, to_, tm⟩ ⟨sd, sf, sk, si, so, sm⟩
            · have HN2 := Lib.hid (evsOk_succ hord.out HS.out HOk.out (fun j q hj hq => by
                obtain rfl : j = p := by omega
                rw [HT.out] at hq; injection hq with hq; subst hq; exact hlt2))
              rw [decide_eq_true hlt2] at CC
              have HCC := Lib.hid CC
              clear CC hlt2
              go_wp2
              refine wp_region_ext (by kernel_rfl) (by kernel_rfl) ?_
              repeat (go_big_quiet_step (first | with_reducible exact Ext.quiet (HCV.out _) | with_reducible exact Ext.quiet (HCC.out _)))
              refine wpQuiet_nil ?_
              rintro _ ⟨z, rfl⟩
              go_wp2
              exact ⟨⟨p + 1 + 1, by omega, by simp, HN2, Bel.on0 hB z.h⟩, by simp only [intOf]; omega⟩
            · have HN2 := Lib.hid (HF.out (fun h5 => hlt2 (h5.2 p _ rfl HT.out)))
              rw [decide_eq_false hlt2] at CC
              have HCC := Lib.hid CC
              clear CC hlt2
              go_wp2
              refine wp_region_ext (by kernel_rfl) (by kernel_rfl) ?_
              repeat (go_big_quiet_step (first | with_reducible exact Ext.quiet (HCV.out _) | with_reducible exact Ext.quiet (HCC.out _)))
              refine wpQuiet_nil ?_
              rintro _ ⟨z, rfl⟩
              go_wp2
              go_ret
              exact ⟨ret_int HN2.out.symm, Bel.on0 hB z.h⟩
        · have HN2 := Lib.hid (HF.out (fun h5 => ok h5.1))
          rw [decide_eq_false ok] at CV
          have HCV := Lib.hid CV
          clear CV ok
          go_wp2
          refine wp_region_ext (by kernel_rfl) (by kernel_rfl) ?_
          repeat (go_big_quiet_step (first | with_reducible exact Ext.quiet (HCV.out _)))
          refine wpQuiet_nil ?_
          rintro _ ⟨z, rfl⟩
          go_wp2
          go_ret
          exact ⟨ret_int HN2.out.symm, Bel.on0 hB z.h⟩
      · obtain rfl : k = n := by omega
        have HF := Lib.hid (checkM_yes HN.out (by rw [HL.out]; exact hord.out))
        go_wp2
        go_ret
        exact ⟨ret_int HF.out.symm, hB⟩
  · have hn' : (4096 : Int) < n := by omega
    have HF := Lib.hid (checkM_more (show 4096 < l.length by rw [HL.out]; omega))
    go_enter Try.func13, Try.ntmps13
    go_wp2
    go_ret
    exact ⟨ret_int HF.out.symm, Below.refl _ _⟩
end Go.Proofs.Ytmfdflfjllpceaa
