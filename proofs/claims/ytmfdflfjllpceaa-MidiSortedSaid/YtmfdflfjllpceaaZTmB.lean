/- Layer 9: the reference's point, Check. -/
import Derived.Test.YtmfdflfjllpceaaZTmA
namespace Go.Proofs.Ytmfdflfjllpceaa
open Go.RowKit

/-- What the reference's point answers. -/
def ptB (m : List Tm) (k : Nat) : Prop := ∃ t, m[k]? = some t ∧ TmOk t ∧ 0 ≤ t.tick ∧ (k = 0 → t.tick = 0) ∧ ∀ j q, j + 1 = k → m[j]? = some q → TmNx q t
open Classical in
set_option maxHeartbeats 4000000 in
theorem point_any (A : Option Addr) (n c k : Nat) (m : List Tm) (w : World) (h : SA tmE w A n c m) (hk : k < n) (hn : n ≤ 64) (hpre : ∀ j q, j < k → m[j]? = some q → 0 ≤ q.tick) :
    Calls Try.prog 50 #[.slice A n c, .int .i64 (k : Int)] w fun e w' => e = .returned (.bool (decide (ptB m k))) ∧ Below w.heap.size w w' := by
  have hlen := h.len
  have HL := Lib.hid h.n_eq
  have HH := Lib.hid h
  have hkl : k < m.length := by rw [HL.out]; exact hk
  obtain ⟨s, hs⟩ : ∃ s, m[k] = s := ⟨_, rfl⟩
  have hs' : m[k]? = some s := by rw [List.getElem?_eq_getElem hkl, hs]
  obtain ⟨b, o, rfl, hb, c0, c1, c2, c3⟩ := tm_at h hkl hs
  have HS := Lib.hid hs'
  have HPRE := Lib.hid hpre
  clear hs hs' h hpre
  obtain ⟨st, sn, sd, sr⟩ := s
  dsimp only at c0 c1 c2 c3
  have hB := Bel.al (Below.refl _ w) (.cells #[.int .i64 st, .int .i64 sn, .int .i64 sd, .bool sr] 53)
  have g3 : (0 : Int) ≤ (k : Int) := by omega
  have g4 : (k : Int) < (n : Int) := by omega
  by_cases hneg : st < 0
  · have HF := Lib.hid (show decide (ptB m k) = false from decide_eq_false (fun ⟨t, ht, _, h0, _⟩ => by rw [HS.out] at ht; injection ht with ht; subst ht; have : 0 ≤ st := h0; omega))
    go_enter Try.func50, Try.ntmps50
    go_wp2
    go_ret
    exact ⟨ret_bool HF.out.symm, hB⟩
  · have hneg1 : 0 ≤ st := by omega
    by_cases ok : TmOk ⟨st, sn, sd, sr⟩
    · have HOk := Lib.hid ok
      obtain ⟨o1, o2, o3, o4, o5⟩ := ok
      dsimp only at o1 o2 o3 o4 o5
      rcases Nat.eq_zero_or_pos k with hk0 | hk0
      · subst hk0
        simp only [Nat.zero_mul, Nat.add_zero] at c0 c1 c2 c3
        by_cases hz : st = 0
        · subst hz
          have HF := Lib.hid (show decide (ptB m 0) = true from decide_eq_true ⟨_, HS.out, HOk.out, Int.le_refl _, fun _ => rfl, fun j q hj => by omega⟩)
          go_enter Try.func50, Try.ntmps50
          go_wp2
          go_ret
          exact ⟨ret_bool (by rw [HF.out]; try rfl), hB⟩
        · have HF := Lib.hid (show decide (ptB m 0) = false from decide_eq_false (fun ⟨t, ht, _, _, h0, _⟩ => by rw [HS.out] at ht; injection ht with ht; subst ht; exact hz (h0 rfl)))
          have hz1 : (st == 0) = false := by simpa using hz
          go_enter Try.func50, Try.ntmps50
          go_wp2
          go_ret
          exact ⟨ret_bool (by rw [HF.out]; try (first | rfl | exact hz1)), hB⟩
      · obtain ⟨j, rfl⟩ : ∃ j, k = j + 1 := ⟨k - 1, by omega⟩
        have hjl : j < m.length := by omega
        obtain ⟨q, hq⟩ : ∃ q, m[j] = q := ⟨_, rfl⟩
        have hq' : m[j]? = some q := by rw [List.getElem?_eq_getElem hjl, hq]
        obtain ⟨b9, o9, e9, _, d0, d1, d2, d3⟩ := tm_at HH.out hjl hq
        injection e9 with e9
        injection e9 with e7 e8 _
        subst e7 e8
        have hq0 := HPRE.out j q (by omega) hq'
        have HQ := Lib.hid hq'
        clear hq hq'
        obtain ⟨qt, qn, qd, qr⟩ := q
        dsimp only at d0 d1 d2 d3 hq0
        have x0 := cell_al d0 (.cells #[.int .i64 st, .int .i64 sn, .int .i64 sd, .bool sr] 53)
        have x1 := cell_al d1 (.cells #[.int .i64 st, .int .i64 sn, .int .i64 sd, .bool sr] 53)
        have x2 := cell_al d2 (.cells #[.int .i64 st, .int .i64 sn, .int .i64 sd, .bool sr] 53)
        have x3 := cell_al d3 (.cells #[.int .i64 st, .int .i64 sn, .int .i64 sd, .bool sr] 53)
        have hB2 := Bel.al hB (.cells #[.int .i64 qt, .int .i64 qn, .int .i64 qd, .bool qr] 53)
        have gj : IntKind.i64.wrap (j : Int) = j := IntWalk.i64_in _ (by omega)
        have gj0 : (0 : Int) ≤ (j : Int) := by omega
        have gj1 : (j : Int) < (n : Int) := by omega
        have gk1 : ((j : Int) + 1 == 0) = false := by simp; omega
        clear d0 d1 d2 d3 hk0
        rcases tmNx_cases ⟨qt, qn, qd, qr⟩ ⟨st, sn, sd, sr⟩ with ⟨hnx, h1, h2⟩ | ⟨hnx, h1⟩
        · have HF := Lib.hid (show decide (ptB m (j + 1)) = true from decide_eq_true ⟨_, HS.out, HOk.out, hneg1, fun h => by omega, fun i q hi hq => by
            obtain rfl : i = j := by omega
            rw [HQ.out] at hq; injection hq with hq; subst hq; exact hnx⟩)
          clear hnx
          dsimp only at h1 h2
          rcases h2 with rfl | ⟨rfl, h2⟩
          · go_enter Try.func50, Try.ntmps50
            go_wp2
            go_ret
            exact ⟨ret_bool (by rw [HF.out]; try rfl), hB2⟩
          · have gsb : IntKind.i64.wrap (st - qt) = st - qt := IntWalk.i64_in _ (by omega)
            have h2' : decide (st - qt ≤ 65536) = true := by simpa using h2
            go_enter Try.func50, Try.ntmps50
            go_wp2
            go_ret
            exact ⟨ret_bool (by rw [HF.out]; try (first | rfl | exact h2')), hB2⟩
        · have HF := Lib.hid (show decide (ptB m (j + 1)) = false from decide_eq_false (fun ⟨t, ht, _, _, _, h5⟩ => by rw [HS.out] at ht; injection ht with ht; subst ht; exact hnx (h5 j _ rfl HQ.out)))
          clear hnx
          dsimp only at h1
          rcases h1 with h1 | ⟨h1, rfl, h2⟩
          · have h1' : decide (qt < st) = false := by simpa using h1
            go_enter Try.func50, Try.ntmps50
            go_wp2
            go_ret
            exact ⟨ret_bool (by rw [HF.out]; try rfl), hB2⟩
          · have gsb : IntKind.i64.wrap (st - qt) = st - qt := IntWalk.i64_in _ (by omega)
            have h2' : decide (st - qt ≤ 65536) = false := by simpa using h2
            go_enter Try.func50, Try.ntmps50
            go_wp2
            go_ret
            exact ⟨ret_bool (by rw [HF.out]; try (first | rfl | exact h2')), hB2⟩
    · have HF := Lib.hid (show decide (ptB m k) = false from decide_eq_false (fun ⟨t, ht, h5, _⟩ => by rw [HS.out] at ht; injection ht with ht; subst ht; exact ok h5))
      have hc := not_tmOk ok
      clear ok
      dsimp only at hc
      rcases hc with h1 | ⟨h1, h2⟩ | ⟨h1, h2, h3⟩ | ⟨h1, h2, h3, h4⟩ | ⟨h1, h2, h3, h4, h5⟩
      all_goals
        go_enter Try.func50, Try.ntmps50
        go_wp2
        go_ret
        exact ⟨ret_bool HF.out.symm, hB⟩
theorem ptB_succ {m : List Tm} {k : Nat} (h : ∀ i, i < k → ptB m i) (hk : ptB m k) : ∀ i, i < k + 1 → ptB m i := fun i hi => by
  by_cases e : i = k
  · rw [e]; exact hk
  · exact h i (by omega)
/-- The reference's conditions are the program's. -/
theorem checkT_pt {m : List Tm} (h : ∀ i, i < m.length → ptB m i) (hl : m.length ≤ 64) (hp : 0 < m.length) (hr : tmLast m) : checkT m = 0 := by
  refine checkT_yes ⟨hl, ?_, hr, fun i t hi ht => ?_⟩
  · obtain ⟨t, ht, _, _, h0, _⟩ := h 0 hp
    exact ⟨t, ht, h0 rfl⟩
  · obtain ⟨u, hu, h1, _, _, h2⟩ := h i hi
    rw [hu] at ht; injection ht with ht; subst ht
    exact ⟨h1, h2⟩
theorem pt_of_tmP {m : List Tm} {k : Nat} (hh : tmHead m) (h : tmP m m.length) (hk : k < m.length) : ptB m k := by
  obtain ⟨t, ht⟩ : ∃ t, m[k]? = some t := ⟨_, List.getElem?_eq_getElem hk⟩
  obtain ⟨h1, h2⟩ := h k t hk ht
  refine ⟨t, ht, h1, tmP_nonneg hh h k t hk ht, fun h0 => ?_, h2⟩
  subst h0
  obtain ⟨u, hu, h0⟩ := hh
  rw [hu] at ht; injection ht with ht; subst ht; exact h0
theorem checkT_not_pt {m : List Tm} {k : Nat} (hk : k < m.length) (h : ¬ ptB m k) : checkT m = 90 := checkT_no fun h5 => h (pt_of_tmP h5.2.1 h5.2.2.2 hk)
open Classical in
set_option maxHeartbeats 4000000 in
set_option maxRecDepth 100000 in
theorem r9check_any (A : Option Addr) (n c : Nat) (m : List Tm) (w : World) (h : SA tmE w A n c m) :
    Calls Try.prog 35 #[.slice A n c] w fun e w' => e = .returned (.int .i64 (checkT m)) ∧ Below w.heap.size w w' := by
  have hlen := h.len
  have HL := Lib.hid h.n_eq
  have HH := Lib.hid h
  by_cases h0 : n = 0
  · subst h0
    have HF := Lib.hid (checkT_no (m := m) (fun h5 => by
      obtain ⟨t, ht, _⟩ := h5.2.1
      have := (List.getElem?_eq_some_iff.1 ht).1
      have := HL.out; omega))
    clear h
    go_enter Try.func35, Try.ntmps35
    go_wp2
    go_ret
    exact ⟨ret_int HF.out.symm, Below.refl _ _⟩
  · by_cases h64 : 64 < n
    · have h64' : (64 : Int) < (n : Int) := by omega
      have hn1 : decide ((n : Int) < 1) = false := by simp; omega
      have HF := Lib.hid (checkT_no (m := m) (fun h5 => by have := HL.out; have := h5.1; omega))
      clear h h0
      go_enter Try.func35, Try.ntmps35
      go_wp2
      go_ret
      exact ⟨ret_int HF.out.symm, Below.refl _ _⟩
    · have hnl : n - 1 < m.length := by rw [HL.out]; omega
      obtain ⟨s1, hs1⟩ : ∃ s, m[n - 1] = s := ⟨_, rfl⟩
      have hs1' : m[m.length - 1]? = some s1 := by rw [HL.out, List.getElem?_eq_getElem hnl, hs1]
      obtain ⟨b, o, rfl, _, _, _, _, c3⟩ := tm_at h hnl hs1
      obtain ⟨p, rfl⟩ : ∃ p, n = p + 1 := ⟨n - 1, by omega⟩
      rw [Nat.add_sub_cancel] at c3
      have gp : IntKind.i64.wrap (p : Int) = p := IntWalk.i64_in _ (by omega)
      have gp0 : (0 : Int) ≤ (p : Int) := by omega
      have hz1 : decide ((p : Int) + 1 < 1) = false := by simp; omega
      have hz2 : decide ((64 : Int) < (p : Int) + 1) = false := by simp; omega
      have hp4 : (1 : Int) ≤ (p : Int) + 1 := by omega
      have hp5 : (p : Int) < (p : Int) + 1 := by omega
      have hp6 : (p : Int) + 1 ≤ 64 := by omega
      have HS1 := Lib.hid hs1'
      have H64 := Lib.hid (show p + 1 ≤ 64 by omega)
      clear hs1 hs1' hnl h h0 h64 hlen
      obtain ⟨t1, n1, d1, r1⟩ := s1
      dsimp only at c3
      cases r1 with
      | true =>
        have HF := Lib.hid (checkT_no (m := m) (fun h5 => by
          obtain ⟨t, ht, hr⟩ := h5.2.2.1
          rw [HS1.out] at ht; injection ht with ht; subst ht; cases hr))
        go_enter Try.func35, Try.ntmps35
        go_wp2
        go_ret
        exact ⟨ret_int HF.out.symm, Below.refl _ _⟩
      | false =>
        have HHD := Lib.hid (show tmLast m from ⟨_, HS1.out, rfl⟩)
        go_enter Try.func35, Try.ntmps35
        go_wp2
        clear c3
        go_loopw [3] (fun i wr => ∃ k : Nat, k ≤ p + 1 ∧ i = .int .i64 k ∧ Hid (∀ i, i < k → ptB m i) ∧ Below w.heap.size w wr) (fun i _ => p + 1 - (intOf i).toNat)
        case atStart => exact ⟨0, Nat.zero_le _, rfl, Lib.hid (fun i hi => by omega), Below.refl _ _⟩
        case round =>
          obtain ⟨k, hk, rfl, hord, hB⟩ := hrel
          by_cases hlt : k < p + 1
          · have hkl : k < m.length := by rw [HL.out]; exact hlt
            have CP := point_any _ _ _ k m wr (HH.out.below hB) hlt H64.out (fun j q hj hq => by
              obtain ⟨t, ht, _, h0, _⟩ := hord.out j hj
              rw [ht] at hq; injection hq with hq; subst hq; exact h0)
            have g4 : (k : Int) < (p : Int) + 1 := by omega
            have gw : IntKind.i64.wrap ((k : Int) + 1) = (k : Int) + 1 := IntWalk.i64_in _ (by have := H64.out; omega)
            by_cases hpt : ptB m k
            · have HN := Lib.hid (ptB_succ hord.out hpt)
              rw [decide_eq_true hpt] at CP
              have HCP := Lib.hid CP
              clear CP hpt
              go_wp2_with (go_at_call 50; ((with_reducible refine HCP.out.mono ?_); rintro e w2 ⟨rfl, hh2⟩))
              exact ⟨⟨k + 1, by omega, by simp <;> omega, HN, Bel.on0 hB hh2⟩, by simp only [intOf]; omega⟩
            · have HN := Lib.hid (checkT_not_pt hkl hpt)
              rw [decide_eq_false hpt] at CP
              have HCP := Lib.hid CP
              clear CP hpt
              go_wp2_with (go_at_call 50; ((with_reducible refine HCP.out.mono ?_); rintro e w2 ⟨rfl, hh2⟩))
              go_ret
              exact ⟨ret_int HN.out.symm, Bel.on0 hB hh2⟩
          · obtain rfl : k = p + 1 := by omega
            have HF := Lib.hid (checkT_pt (m := m) (by rw [HL.out]; exact hord.out) (by rw [HL.out]; exact H64.out) (by rw [HL.out]; omega) HHD.out)
            go_wp2
            go_ret
            exact ⟨ret_int HF.out.symm, hB⟩
end Go.Proofs.Ytmfdflfjllpceaa
