/- Layer 9: tempo maps: how they lie in memory; Check. -/
import Derived.Test.YtmfdflfjllpceaaZSt
import Derived.Test.YtmfdflfjllpceaaZTail
import Derived.Test.YtmfdflfjllpceaaZMvE
import Derived.BigQuiet
namespace Go.Proofs.Ytmfdflfjllpceaa
open Go.RowKit

structure Tm where
  tick : Int
  n : Int
  d : Int
  ramp : Bool
  deriving DecidableEq
def tmA (t : Tm) : Array Value := #[.int .i64 t.tick, .int .i64 t.n, .int .i64 t.d, .bool t.ramp]
theorem tm_info : (Try.prog.info? 53).map (fun i => (i.zero, i.size, i.bytes)) = some (some (.agg #[.int .i64 0, .int .i64 0, .int .i64 0, .bool false]), 4, 32) := by kernel_rfl
def tmE : Enc Tm where
  S := 29
  E := 53
  sz := 4
  bytes := 32
  enc := fun s => [.int .i64 s.tick, .int .i64 s.n, .int .i64 s.d, .bool s.ramp]
  pos := by decide
  len := fun _ => rfl
  one := by simp [Value.oneCell']
  hS := Try.underlying29
  info := by
    obtain ⟨i0, hi, hz0, hz1, hz2⟩ := info_parts tm_info
    exact ⟨i0, _, hi, hz0, hz1, hz2, rfl⟩
  hb := by decide
theorem tm_at {w : World} {A : Option Addr} {n c : Nat} {l : List Tm} (h : SA tmE w A n c l) {k : Nat} (hk : k < l.length) {s : Tm} (hs : l[k] = s) : ∃ b o, A = some ⟨b, o, none⟩ ∧ b < w.heap.size ∧
    w.cell? ⟨b, o + k * 4, none⟩ = some (.int .i64 s.tick) ∧ w.cell? ⟨b, o + k * 4 + 1, none⟩ = some (.int .i64 s.n) ∧ w.cell? ⟨b, o + k * 4 + 2, none⟩ = some (.int .i64 s.d) ∧ w.cell? ⟨b, o + k * 4 + 3, none⟩ = some (.bool s.ramp) := by
  subst hs
  obtain ⟨b, o, e, hb, hc⟩ := h.at_ hk
  exact ⟨b, o, e, hb, hc 0 _ rfl, hc 1 _ rfl, hc 2 _ rfl, hc 3 _ rfl⟩
/-- A point by itself; behind another one. -/
def TmOk (t : Tm) : Prop := t.tick ≤ 16777216 ∧ 1 ≤ t.n ∧ t.n ≤ 1048576 ∧ 1 ≤ t.d ∧ t.d ≤ 256
def TmNx (q t : Tm) : Prop := q.tick < t.tick ∧ (q.ramp = true → t.tick - q.tick ≤ 65536)
/-- The first k points. -/
def tmP (m : List Tm) (k : Nat) : Prop := ∀ i t, i < k → m[i]? = some t → TmOk t ∧ ∀ j q, j + 1 = i → m[j]? = some q → TmNx q t
def tmHead (m : List Tm) : Prop := ∃ t, m[0]? = some t ∧ t.tick = 0
def tmLast (m : List Tm) : Prop := ∃ t, m[m.length - 1]? = some t ∧ t.ramp = false
open Classical in
noncomputable def checkT (m : List Tm) : Int := if m.length ≤ 64 ∧ tmHead m ∧ tmLast m ∧ tmP m m.length then 0 else 90
theorem tmP_succ {l : List Tm} {k : Nat} {r : Tm} (h : tmP l k) (hr : l[k]? = some r) (ok : TmOk r) (hq : ∀ j q, j + 1 = k → l[j]? = some q → TmNx q r) : tmP l (k + 1) := by
  intro i s hi hs
  by_cases e : i = k
  · subst e; rw [hr] at hs; injection hs with hs; subst hs; exact ⟨ok, hq⟩
  · exact h i s (by omega) hs
theorem checkT_no {m : List Tm} (h : ¬ (m.length ≤ 64 ∧ tmHead m ∧ tmLast m ∧ tmP m m.length)) : checkT m = 90 := by unfold checkT; rw [if_neg h]
theorem checkT_yes {m : List Tm} (h : m.length ≤ 64 ∧ tmHead m ∧ tmLast m ∧ tmP m m.length) : checkT m = 0 := by unfold checkT; rw [if_pos h]
theorem checkT_bad {m : List Tm} {k : Nat} {r : Tm} (hr : m[k]? = some r) (h : ¬ (TmOk r ∧ ∀ j q, j + 1 = k → m[j]? = some q → TmNx q r)) : checkT m = 90 :=
  checkT_no fun h5 => h (h5.2.2.2 k r (List.getElem?_eq_some_iff.1 hr).1 hr)
/-- Ticks do not fall below the head's. -/
theorem tmP_nonneg {m : List Tm} (hh : tmHead m) : ∀ {k : Nat}, tmP m k → ∀ i t, i < k → m[i]? = some t → 0 ≤ t.tick
  | k, h, 0, t, _, ht => by
    obtain ⟨u, hu, h0⟩ := hh
    rw [hu] at ht; injection ht with ht; subst ht; omega
  | k, h, i + 1, t, hi, ht => by
    have hl := (List.getElem?_eq_some_iff.1 ht).1
    obtain ⟨q, hq⟩ : ∃ q, m[i]? = some q := ⟨_, List.getElem?_eq_getElem (by omega)⟩
    have h1 := tmP_nonneg hh h i q (by omega) hq
    have h2 := (h (i + 1) t hi ht).2 i q rfl hq
    have := h2.1
    omega
theorem not_tmOk {t : Tm} (h : ¬ TmOk t) : 16777216 < t.tick ∨ (t.tick ≤ 16777216 ∧ t.n < 1) ∨ (t.tick ≤ 16777216 ∧ 1 ≤ t.n ∧ 1048576 < t.n) ∨ (t.tick ≤ 16777216 ∧ 1 ≤ t.n ∧ t.n ≤ 1048576 ∧ t.d < 1) ∨ (t.tick ≤ 16777216 ∧ 1 ≤ t.n ∧ t.n ≤ 1048576 ∧ 1 ≤ t.d ∧ 256 < t.d) := by
  unfold TmOk at h; omega
theorem tmNx_cases (q t : Tm) : (TmNx q t ∧ q.tick < t.tick ∧ (q.ramp = false ∨ (q.ramp = true ∧ t.tick - q.tick ≤ 65536))) ∨ (¬ TmNx q t ∧ (t.tick ≤ q.tick ∨ (q.tick < t.tick ∧ q.ramp = true ∧ 65536 < t.tick - q.tick))) := by
  unfold TmNx
  cases hr : q.ramp
  · simp only [Bool.false_eq_true, false_imp_iff, and_true]
    by_cases h : q.tick < t.tick
    · exact .inl ⟨h, h, .inl trivial⟩
    · exact .inr ⟨h, .inl (by omega)⟩
  · simp only [true_imp_iff, true_and, Bool.true_eq_false, false_or]
    omega
set_option maxHeartbeats 4000000 in
set_option maxRecDepth 100000 in
theorem tcheck_any (A : Option Addr) (n c : Nat) (m : List Tm) (w : World) (h : SA tmE w A n c m) :
    Calls Try.prog 33 #[.slice A n c] w fun e w' => e = .returned (.int .i64 (checkT m)) ∧ Below w.heap.size w w' := by
  have hlen := h.len
  have HL := Lib.hid h.n_eq
  have HH := Lib.hid h
  by_cases h0 : n = 0
  · subst h0
    have HF := Lib.hid (checkT_no (m := m) (fun h5 => by
      obtain ⟨t, ht, _⟩ := h5.2.1
      have := (List.getElem?_eq_some_iff.1 ht).1
      have := HL.out; omega))
    clear h
    go_enter Try.func33, Try.ntmps33
    go_wp2
    go_ret
    exact ⟨ret_int HF.out.symm, Below.refl _ _⟩
  · have hnz : ((n : Int) == 0) = false := by simp; omega
    by_cases h64 : 64 < n
    · have h64' : (64 : Int) < (n : Int) := by omega
      have HF := Lib.hid (checkT_no (m := m) (fun h5 => by have := HL.out; have := h5.1; omega))
      clear h h0
      go_enter Try.func33, Try.ntmps33
      go_wp2
      go_ret
      exact ⟨ret_int HF.out.symm, Below.refl _ _⟩
    · have h64' : (n : Int) ≤ 64 := by omega
      have h64d : decide ((64 : Int) < (n : Int)) = false := by simpa using h64'
      have h0l : 0 < m.length := by rw [HL.out]; omega
      have hnl : n - 1 < m.length := by rw [HL.out]; omega
      obtain ⟨s0, hs0⟩ : ∃ s, m[0] = s := ⟨_, rfl⟩
      obtain ⟨s1, hs1⟩ : ∃ s, m[n - 1] = s := ⟨_, rfl⟩
      have hs0' : m[0]? = some s0 := by rw [List.getElem?_eq_getElem h0l, hs0]
      have hs1' : m[m.length - 1]? = some s1 := by rw [HL.out, List.getElem?_eq_getElem hnl, hs1]
      obtain ⟨b, o, rfl, hb, c0, _⟩ := tm_at h h0l hs0
      obtain ⟨b', o', e', _, _, _, _, c3⟩ := tm_at h hnl hs1
      injection e' with e'
      injection e' with e5 e6 _
      subst e5 e6
      rw [Nat.zero_mul, Nat.add_zero] at c0
      obtain ⟨p, rfl⟩ : ∃ p, n = p + 1 := ⟨n - 1, by omega⟩
      rw [Nat.add_sub_cancel] at c3
      have gp : IntKind.i64.wrap (p : Int) = p := IntWalk.i64_in _ (by omega)
      have gpp := Lib.hid gp
      have gp0 : (0 : Int) ≤ (p : Int) := by omega
      have HS0 := Lib.hid hs0'
      have HS1 := Lib.hid hs1'
      clear hs0 hs1 hs0' hs1' hnl h
      have hz1 : ((p : Int) + 1 == 0) = false := by simp; omega
      have hz2 : decide ((64 : Int) < (p : Int) + 1) = false := by simp; omega
      have hp4 : (0 : Int) < (p : Int) + 1 := by omega
      have hp5 : (p : Int) < (p : Int) + 1 := by omega
      have H64 := Lib.hid (show p + 1 ≤ 64 by omega)
      clear h0 h64 hnz h64' h64d hlen
      obtain ⟨t0, n0, d0, r0⟩ := s0
      obtain ⟨t1, n1, d1, r1⟩ := s1
      dsimp only at c0 c3
      by_cases ht : t0 = 0
      · subst ht
        cases r1 with
        | true =>
          have HF := Lib.hid (checkT_no (m := m) (fun h5 => by
            obtain ⟨t, ht, hr⟩ := h5.2.2.1
            rw [HS1.out] at ht; injection ht with ht; subst ht; cases hr))
          go_enter Try.func33, Try.ntmps33
          go_wp2
          go_ret
          exact ⟨ret_int HF.out.symm, Below.refl _ _⟩
        | false =>
          have HHD := Lib.hid (show tmHead m ∧ tmLast m from ⟨⟨_, HS0.out, rfl⟩, ⟨_, HS1.out, rfl⟩⟩)
          go_enter Try.func33, Try.ntmps33
          go_wp2
          clear c0 c3
          go_loopw [31] (fun i wr => ∃ k : Nat, k ≤ p + 1 ∧ i = .int .i64 k ∧ Hid (tmP m k) ∧ Below w.heap.size w wr) (fun i _ => p + 1 - (intOf i).toNat)
          case atStart => exact ⟨0, Nat.zero_le _, rfl, Lib.hid (fun j s hj _ => by omega), Below.refl _ _⟩
          case round =>
            obtain ⟨k, hk, rfl, hord, hB⟩ := hrel
            by_cases hlt : k < p + 1
            · have hkl : k < m.length := by rw [HL.out]; exact hlt
              obtain ⟨s, hs⟩ : ∃ s, m[k] = s := ⟨_, rfl⟩
              have hs' : m[k]? = some s := by rw [List.getElem?_eq_getElem hkl, hs]
              obtain ⟨b9, o9, e9, _, c0, c1, c2, c3⟩ := tm_at (HH.out.below hB) hkl hs
              injection e9 with e9
              injection e9 with e7 e8 _
              subst e7 e8
              have HS := Lib.hid hs'
              have HF := Lib.hid (fun h => checkT_bad (m := m) hs' h)
              have hnn := Lib.hid (tmP_nonneg HHD.out.1 (k := k) hord.out)
              clear hs hs'
              obtain ⟨st, sn, sd, sr⟩ := s
              dsimp only at c0 c1 c2 c3
              have hBW := Lib.hid (Bel.al hB (.cells #[.int .i64 st, .int .i64 sn, .int .i64 sd, .bool sr] 53))
              have g3 : (0 : Int) ≤ (k : Int) := by omega
              have g4 : (k : Int) < (p : Int) + 1 := by omega
              by_cases ok : TmOk ⟨st, sn, sd, sr⟩
              · have HOk := Lib.hid ok
                obtain ⟨o1, o2, o3, o4, o5⟩ := ok
                dsimp only at o1 o2 o3 o4 o5
                rcases Nat.eq_zero_or_pos k with hk0 | hk0
                · subst hk0
                  simp only [Nat.zero_mul, Nat.add_zero] at c0 c1 c2 c3
                  have HN2 := Lib.hid (tmP_succ hord.out HS.out HOk.out (fun j q hj => by omega))
                  go_wp2_with fail
                  go_quiet (fail)
                  rename Nat => qd
                  go_wp2
                  exact ⟨⟨0 + 1, by omega, by simp, HN2, below_drewN hBW.out _⟩, by simp only [intOf]; omega⟩
                · obtain ⟨j, rfl⟩ : ∃ j, k = j + 1 := ⟨k - 1, by omega⟩
                  have hjl : j < m.length := by omega
                  obtain ⟨q, hq⟩ : ∃ q, m[j] = q := ⟨_, rfl⟩
                  have hq' : m[j]? = some q := by rw [List.getElem?_eq_getElem hjl, hq]
                  obtain ⟨b9, o9, e9, _, d0, d1, d2, d3⟩ := tm_at (HH.out.below hB) hjl hq
                  injection e9 with e9
                  injection e9 with e7 e8 _
                  subst e7 e8
                  have hq0 := hnn.out j q (by omega) hq'
                  have HQ := Lib.hid hq'
                  have HOq := Lib.hid (hord.out j q (by omega) hq').1
                  clear hq hq'
                  obtain ⟨qt, qn, qd, qr⟩ := q
                  dsimp only at d0 d1 d2 d3 hq0
                  have x0 := cell_al d0 (.cells #[.int .i64 st, .int .i64 sn, .int .i64 sd, .bool sr] 53)
                  have x3 := cell_al d3 (.cells #[.int .i64 st, .int .i64 sn, .int .i64 sd, .bool sr] 53)
                  have gj : IntKind.i64.wrap (j : Int) = j := IntWalk.i64_in _ (by have := H64.out; omega)
                  have gj0 : (0 : Int) ≤ (j : Int) := by omega
                  have gw2 : IntKind.i64.wrap ((j : Int) + 1 + 1) = (j : Int) + 1 + 1 := IntWalk.i64_in _ (by have := H64.out; omega)
                  have gj1 : (j : Int) < (p : Int) + 1 := by omega
                  have gk0 : (0 : Int) < (j : Int) + 1 := by omega
                  have gk1 : decide ((0 : Int) < (j : Int) + 1) = true := decide_eq_true gk0
                  have oq := HOq.out.1
                  dsimp only at oq
                  clear d0 d1 d2 d3 hk0
                  rcases tmNx_cases ⟨qt, qn, qd, qr⟩ ⟨st, sn, sd, sr⟩ with ⟨hnx, h1, h2⟩ | ⟨hnx, h1⟩
                  · have HN2 := Lib.hid (tmP_succ hord.out HS.out HOk.out (fun i q hi hq => by
                      obtain rfl : i = j := by omega
                      rw [HQ.out] at hq; injection hq with hq; subst hq; exact hnx))
                    have h1' : decide (st ≤ qt) = false := by simpa using h1
                    clear hnx
                    dsimp only at h1 h2
                    rcases h2 with rfl | ⟨rfl, h2⟩
                    · go_wp2_with fail
                      go_quiet (fail)
                      rename Nat => qdr
                      go_wp2
                      exact ⟨⟨j + 1 + 1, by omega, by simp <;> omega, HN2, below_drewN hBW.out _⟩, by simp only [intOf]; omega⟩
                    · have gsb : IntKind.i64.wrap (st - qt) = st - qt := IntWalk.i64_in _ (by omega)
                      have h2' : decide (65536 < st - qt) = false := by simpa using h2
                      go_wp2_with fail
                      go_quiet (fail)
                      rename Nat => qdr
                      go_wp2
                      exact ⟨⟨j + 1 + 1, by omega, by simp <;> omega, HN2, below_drewN hBW.out _⟩, by simp only [intOf]; omega⟩
                  · have HN2 := Lib.hid (HF.out (fun h5 => hnx (h5.2 j _ rfl HQ.out)))
                    clear hnx
                    dsimp only at h1
                    rcases h1 with h1 | ⟨h1, rfl, h2⟩
                    · have h1' : decide (st ≤ qt) = true := by simpa using h1
                      go_wp2_with fail
                      go_quiet (fail)
                      rename Nat => qdr
                      go_wp2
                      go_ret
                      exact ⟨ret_int HN2.out.symm, below_drewN hBW.out _⟩
                    · have h1' : decide (st ≤ qt) = false := by simpa using h1
                      have gsb : IntKind.i64.wrap (st - qt) = st - qt := IntWalk.i64_in _ (by omega)
                      have h2' : decide (65536 < st - qt) = true := by simpa using h2
                      go_wp2_with fail
                      go_quiet (fail)
                      rename Nat => qdr
                      go_wp2
                      go_ret
                      exact ⟨ret_int HN2.out.symm, below_drewN hBW.out _⟩
              · have HN2 := Lib.hid (HF.out (fun h5 => ok h5.1))
                have hc := not_tmOk ok
                clear ok
                dsimp only at hc
                rcases hc with h1 | ⟨h1, h2⟩ | ⟨h1, h2, h3⟩ | ⟨h1, h2, h3, h4⟩ | ⟨h1, h2, h3, h4, h5⟩
                all_goals
                  go_wp2
                  go_ret
                  exact ⟨ret_int HN2.out.symm, hBW.out⟩
            · obtain rfl : k = p + 1 := by omega
              have HF := Lib.hid (checkT_yes (m := m) ⟨by rw [HL.out]; exact H64.out, HHD.out.1, HHD.out.2, by rw [HL.out]; exact hord.out⟩)
              go_wp2
              go_ret
              exact ⟨ret_int HF.out.symm, hB⟩
      · have ht1 : (t0 != 0) = true := by simpa using ht
        have HF := Lib.hid (checkT_no (m := m) (fun h5 => by
          obtain ⟨t, ht2, hr⟩ := h5.2.1
          rw [HS0.out] at ht2; injection ht2 with ht2; subst ht2; exact ht hr))
        clear ht
        go_enter Try.func33, Try.ntmps33
        go_wp2
        go_ret
        exact ⟨ret_int HF.out.symm, Below.refl _ _⟩
end Go.Proofs.Ytmfdflfjllpceaa
