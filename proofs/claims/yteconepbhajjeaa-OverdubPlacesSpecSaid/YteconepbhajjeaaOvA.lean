/- Layer 44: how its structs lie in memory; inOrder and the reference's InOrder. -/
import Derived.Test.YteconepbhajjeaaSt
import Derived.Test.YteconepbhajjeaaTail
import Derived.Test.YteconepbhajjeaaPlainOverdubC
namespace Go.Proofs.Yteconepbhajjeaa
open Go.RowKit

theorem below_drewN {B : Nat} {a w : World} (h : Below B a w) (n : Nat) : Below B a (w.drewN n) := ⟨h.os, h.tape, h.output, h.size, h.block⟩
theorem cell_alw {W : World} {p : Addr} {v : Value} (h : W.cell? p = some v) (o : Obj) : (W.alloc o).cell? p = some v := (((Below.refl _ W).alloc (Nat.le_refl _) o).cell (lt_of_cell h)).trans h
theorem span_info : (Try.prog.info? 50).map (fun i => (i.zero, i.size, i.bytes)) = some (some (.agg #[.int .i64 0, .int .i64 0, .int .i64 0, .bool false, .bool false]), 5, 32) := by kernel_rfl
theorem laid_info : (Try.prog.info? 52).map (fun i => (i.zero, i.size, i.bytes)) = some (some (.agg #[.int .i64 0, .int .i64 0, .int .i64 0, .int .i64 0]), 4, 32) := by kernel_rfl
theorem rcd_info : (Try.prog.info? 62).map (fun i => (i.zero, i.size, i.bytes)) = some (some (.agg #[.int .i64 0, .int .i64 0, .int .i64 0, .int .i64 0, .int .i64 0]), 5, 40) := by kernel_rfl
def spanE : Enc Spn where
  S := 22
  E := 50
  sz := 5
  bytes := 32
  enc := fun s => [.int .i64 s.eng, .int .i64 s.len, .int .i64 s.song, .bool s.roll, .bool s.rcd]
  pos := by decide
  len := fun _ => rfl
  one := by simp [Value.oneCell']
  hS := Try.underlying22
  info := by
    obtain ⟨i0, hi, hz0, hz1, hz2⟩ := info_parts span_info
    exact ⟨i0, _, hi, hz0, hz1, hz2, rfl⟩
  hb := by decide
def laidE : Enc Ld where
  S := 24
  E := 52
  sz := 4
  bytes := 32
  enc := fun s => [.int .i64 s.frm, .int .i64 s.len, .int .i64 s.at_, .int .i64 s.pass]
  pos := by decide
  len := fun _ => rfl
  one := by simp [Value.oneCell']
  hS := Try.underlying24
  info := by
    obtain ⟨i0, hi, hz0, hz1, hz2⟩ := info_parts laid_info
    exact ⟨i0, _, hi, hz0, hz1, hz2, rfl⟩
  hb := by decide
def rcdE : Enc Rcd where
  S := 30
  E := 62
  sz := 5
  bytes := 40
  enc := fun s => [.int .i64 s.dev, .int .i64 s.frm, .int .i64 s.known, .int .i64 s.inn, .int .i64 s.out]
  pos := by decide
  len := fun _ => rfl
  one := by simp [Value.oneCell']
  hS := Try.underlying30
  info := by
    obtain ⟨i0, hi, hz0, hz1, hz2⟩ := info_parts rcd_info
    exact ⟨i0, _, hi, hz0, hz1, hz2, rfl⟩
  hb := by decide

/-- Element k of a slice of spans. -/
theorem span_at {w : World} {A : Option Addr} {n c : Nat} {l : List Spn} (h : SA spanE w A n c l) {k : Nat} (hk : k < l.length) {s : Spn} (hs : l[k] = s) : ∃ b o, A = some ⟨b, o, none⟩ ∧ b < w.heap.size ∧
    w.cell? ⟨b, o + k * 5, none⟩ = some (.int .i64 s.eng) ∧ w.cell? ⟨b, o + k * 5 + 1, none⟩ = some (.int .i64 s.len) ∧ w.cell? ⟨b, o + k * 5 + 2, none⟩ = some (.int .i64 s.song) ∧
    w.cell? ⟨b, o + k * 5 + 3, none⟩ = some (.bool s.roll) ∧ w.cell? ⟨b, o + k * 5 + 4, none⟩ = some (.bool s.rcd) := by
  subst hs
  obtain ⟨b, o, e, hb, hc⟩ := h.at_ hk
  exact ⟨b, o, e, hb, hc 0 _ rfl, hc 1 _ rfl, hc 2 _ rfl, hc 3 _ rfl, hc 4 _ rfl⟩
theorem not_spanOk {E : Int} {s : Spn} (h : ¬ SpanOk E s) : s.eng < E ∨ (E ≤ s.eng ∧ 1099511627776 < s.eng) ∨ (E ≤ s.eng ∧ s.eng ≤ 1099511627776 ∧ s.song < 0) ∨ (E ≤ s.eng ∧ s.eng ≤ 1099511627776 ∧ 0 ≤ s.song ∧ 1099511627776 < s.song) ∨
    (E ≤ s.eng ∧ s.eng ≤ 1099511627776 ∧ 0 ≤ s.song ∧ s.song ≤ 1099511627776 ∧ s.len < 1) ∨ (E ≤ s.eng ∧ s.eng ≤ 1099511627776 ∧ 0 ≤ s.song ∧ s.song ≤ 1099511627776 ∧ 1 ≤ s.len ∧ 1099511627776 < s.len) := by
  unfold SpanOk at h; omega
/-- The first k spans are in order. -/
def OrdTo (l : List Spn) (k : Nat) : Prop := ∀ j s, j < k → l[j]? = some s → SpanOk (endAt l j) s
theorem ordL_to (l : List Spn) : ordL 0 l = true ↔ OrdTo l l.length := by
  rw [ordL_iff]
  have e : ∀ k, (if k = 0 then (0 : Int) else endAt l k) = endAt l k := fun k => by cases k <;> simp [endAt]
  constructor
  · intro h j s _ hs; have := h j s hs; rwa [e] at this
  · intro h k s hs
    rw [e]
    exact h k s (List.getElem?_eq_some_iff.1 hs).1 hs
theorem OrdTo.succ {l : List Spn} {k : Nat} {s : Spn} (h : OrdTo l k) (hs : l[k]? = some s) (ok : SpanOk (endAt l k) s) : OrdTo l (k + 1) := by
  intro j t hj ht
  by_cases e : j = k
  · subst e; rw [hs] at ht; injection ht with ht; rw [← ht]; exact ok
  · exact h j t (by omega) ht
theorem endAt_succ {l : List Spn} {k : Nat} {s : Spn} (hs : l[k]? = some s) : endAt l (k + 1) = s.eng + s.len := by simp [endAt, hs]

theorem endAt_nonneg {l : List Spn} : ∀ {k : Nat}, OrdTo l k → 0 ≤ endAt l k := by
  intro k
  induction k with
  | zero => intro _; simp [endAt]
  | succ k ih =>
    intro h
    have h0 := ih (fun j s hj hs => h j s (by omega) hs)
    cases hs : l[k]? with
    | none => simp [endAt, hs]
    | some s =>
      have := h k s (by omega) hs
      unfold SpanOk at this
      simp only [endAt, hs]
      omega

set_option maxHeartbeats 2000000 in
theorem inOrder_any (A : Option Addr) (n c : Nat) (l : List Spn) (w : World) (h : SA spanE w A n c l) :
    Calls Try.prog 23 #[.slice A n c] w fun e w' => e = .returned (.bool (inOrdS l)) ∧ Below w.heap.size w w' := by
  have hlen := h.len
  have HL := Lib.hid h.n_eq
  go_enter Try.func23, Try.ntmps23
  go_wp2
  go_loopw [3, 8] (fun d i wr => ∃ k : Nat, k ≤ n ∧ i = .int .i64 k ∧ d = .int .i64 (endAt l k) ∧ Hid (OrdTo l k) ∧ Below w.heap.size w wr) (fun _ i _ => n - (intOf i).toNat)
  case atStart => exact ⟨0, Nat.zero_le _, rfl, rfl, Lib.hid (fun j s hj _ => by omega), Below.refl _ _⟩
  case round =>
    obtain ⟨k, hk, rfl, rfl, hord, hB⟩ := hrel
    by_cases hlt : k < n
    · have hkl : k < l.length := by rw [HL.out]; exact hlt
      obtain ⟨s, hs⟩ : ∃ s, l[k] = s := ⟨_, rfl⟩
      have hs' : l[k]? = some s := by rw [List.getElem?_eq_getElem hkl, hs]
      obtain ⟨b, o, rfl, hb, c0, c1, c2, c3, c4⟩ := span_at (h.below hB) hkl hs
      have HE := Lib.hid (endAt_succ hs')
      have HS := Lib.hid hs'
      obtain ⟨E, hE⟩ : ∃ E, endAt l k = E := ⟨_, rfl⟩
      rw [hE]
      have HEk := Lib.hid hE
      have hE0 : 0 ≤ E := by rw [← hE]; exact endAt_nonneg hord.out
      by_cases ok : SpanOk E s
      · have HOk := Lib.hid ok
        obtain ⟨o1, o2, o3, o4, o5, o6⟩ := ok
        clear hs hs' hE
        go_wp2
        exact ⟨⟨k + 1, by omega, by simp, by rw [HE.out], Lib.hid (hord.out.succ HS.out (by rw [HEk.out]; exact HOk.out)), Bel.al hB _⟩, by simp only [intOf]; omega⟩
      · have HF : Hid (inOrdS l = false) := Lib.hid (by
          unfold inOrdS
          rw [Bool.and_eq_false_iff]
          refine .inl ?_
          rw [← Bool.not_eq_true, ordL_to]
          intro h5
          have := h5 k s hkl hs'
          rw [hE] at this
          exact ok this)
        clear hs hs' hE
        rcases not_spanOk ok with k1 | ⟨k1, k2⟩ | ⟨k1, k2, k3⟩ | ⟨k1, k2, k3, k4⟩ | ⟨k1, k2, k3, k4, k5⟩ | ⟨k1, k2, k3, k4, k5, k6⟩
        all_goals
          clear ok
          go_wp2
          go_ret
          exact ⟨ret_bool HF.out.symm, Bel.al hB _⟩
    · obtain rfl : k = n := by omega
      have HF : Hid (inOrdS l = decide ((k : Int) ≤ 65536)) := Lib.hid (by
        unfold inOrdS
        have : ordL 0 l = true := (ordL_to l).2 (by rw [HL.out]; exact hord.out)
        rw [this, HL.out, Bool.true_and, Bool.eq_iff_iff, decide_eq_true_iff, decide_eq_true_iff]
        omega)
      go_wp2
      go_ret
      exact ⟨ret_bool HF.out.symm, hB⟩

set_option maxHeartbeats 4000000 in
theorem rinOrder_any (A : Option Addr) (n c : Nat) (l : List Spn) (w : World) (h : SA spanE w A n c l) :
    Calls Try.prog 18 #[.slice A n c] w fun e w' => e = .returned (.bool (inOrdS l)) ∧ Below w.heap.size w w' := by
  have hlen := h.len
  have HL := Lib.hid h.n_eq
  have HH := Lib.hid h
  by_cases hn : n ≤ 65536
  · have hn' : (n : Int) ≤ 65536 := by omega
    clear h
    go_enter Try.func18, Try.ntmps18
    go_wp2
    go_loopw [3] (fun i wr => ∃ k : Nat, k ≤ n ∧ i = .int .i64 k ∧ Hid (OrdTo l k) ∧ Below w.heap.size w wr) (fun i _ => n - (intOf i).toNat)
    case atStart => exact ⟨0, Nat.zero_le _, rfl, Lib.hid (fun j s hj _ => by omega), Below.refl _ _⟩
    case round =>
      obtain ⟨k, hk, rfl, hord, hB⟩ := hrel
      by_cases hlt : k < n
      · have hkl : k < l.length := by rw [HL.out]; exact hlt
        obtain ⟨s, hs⟩ : ∃ s, l[k] = s := ⟨_, rfl⟩
        have hs' : l[k]? = some s := by rw [List.getElem?_eq_getElem hkl, hs]
        obtain ⟨b, o, rfl, hb, c0, c1, c2, c3, c4⟩ := span_at (HH.out.below hB) hkl hs
        have HS := Lib.hid hs'
        have hF : ∀ E, endAt l k = E → ¬ SpanOk E s → inOrdS l = false := by
          intro E hE hno
          unfold inOrdS
          rw [Bool.and_eq_false_iff]
          refine .inl ?_
          rw [← Bool.not_eq_true, ordL_to]
          intro h5
          have := h5 k s hkl hs'
          rw [hE] at this
          exact hno this
        have hE0 := endAt_nonneg hord.out
        obtain ⟨E, hE⟩ : ∃ E, endAt l k = E := ⟨_, rfl⟩
        rw [hE] at hE0
        -- the test that does not ask for the span ahead
        by_cases ok0 : SpanOk 0 s
        · -- the span ahead
          have hprev : k = 0 ∨ ∃ p t, k = p + 1 ∧ l[p]? = some t ∧ p < l.length ∧ E = t.eng + t.len ∧ 0 ≤ t.eng ∧ t.eng ≤ 1099511627776 ∧ 1 ≤ t.len ∧ t.len ≤ 1099511627776 := by
            have ho := hord.out
            clear hs hs' c0 c1 c2 c3 c4 HS hF
            cases k with
            | zero => exact .inl rfl
            | succ q =>
              have hql : q < l.length := by omega
              refine .inr ⟨q, l[q], rfl, List.getElem?_eq_getElem hql, hql, ?_, ?_⟩
              · rw [← hE, endAt_succ (List.getElem?_eq_getElem hql)]
              · have h1 := ho q _ (by omega) (List.getElem?_eq_getElem hql)
                have h2 := endAt_nonneg (l := l) (k := q) (fun j s hj hs => ho j s (by omega) hs)
                unfold SpanOk at h1
                omega
          have HF := Lib.hid hF
          have HEk := Lib.hid hE
          obtain ⟨o1, o2, o3, o4, o5, o6⟩ := ok0
          rcases hprev with h0 | ⟨p, t, hp, ht, hpl, hEt, t1, t2, t3, t4⟩
          · have HN : Hid (OrdTo l (k + 1)) := Lib.hid (hord.out.succ hs' (by rw [hE]; rw [h0] at hE; simp only [endAt] at hE; subst hE; exact ⟨o1, o2, o3, o4, o5, o6⟩))
            have k0 : decide ((0 : Int) < (k : Int)) = false := by simp; omega
            have k1 : decide (0 < k) = false := by simp; omega
            clear hs hs' hE hF h0
            go_wp2
            go_quiet (fail)
            go_wp2
            exact ⟨⟨k + 1, by omega, by simp, HN.out, below_drewN (Bel.al hB _) _⟩, by simp only [intOf]; omega⟩
          · obtain ⟨b', o', e', _, d0, d1, _, _, _⟩ := span_at (HH.out.below hB) hpl (s := t) (by rw [List.getElem?_eq_getElem hpl] at ht; injection ht)
            injection e' with e'
            injection e' with e1 e2 _
            subst e1 e2
            have k0 : decide ((0 : Int) < (k : Int)) = true := by simp; omega
            have k1 : decide (0 < k) = true := by simp; omega
            have gp : (k : Int) - 1 = (p : Int) := by omega
            have gw : IntKind.i64.wrap (p : Int) = p := IntWalk.i64_in _ (by omega)
            have g3 : (0 : Int) ≤ (p : Int) := by omega
            have g4 : (p : Int) < (n : Int) := by omega
            have gE : t.eng + t.len = E := hEt.symm
            have gE2 : IntKind.i64.wrap E = E := IntWalk.i64_in _ (by omega)
            have d0' := cell_alw d0 (.cells #[.int .i64 s.eng, .int .i64 s.len, .int .i64 s.song, .bool s.roll, .bool s.rcd] 50)
            have d1' := cell_alw d1 (.cells #[.int .i64 s.eng, .int .i64 s.len, .int .i64 s.song, .bool s.roll, .bool s.rcd] 50)
            by_cases hcmp : s.eng < E
            · have HF2 := Lib.hid (HF.out E HEk.out (fun h => by have := h.1; omega))
              have k2 : decide (s.eng < E) = true := by simpa using hcmp
              clear hs hs' hE hF hp ht hEt hcmp d0 d1
              go_wp2
              go_quiet (fail)
              go_wp2
              go_ret
              exact ⟨ret_bool HF2.out.symm, below_drewN (Bel.al hB _) _⟩
            · have HN : Hid (OrdTo l (k + 1)) := Lib.hid (hord.out.succ hs' (by rw [hE]; exact ⟨by omega, o2, o3, o4, o5, o6⟩))
              have k2 : decide (s.eng < E) = false := by simpa using hcmp
              clear hs hs' hE hF hp ht hEt hcmp d0 d1
              go_wp2
              go_quiet (fail)
              go_wp2
              exact ⟨⟨k + 1, by omega, by simp, HN.out, below_drewN (Bel.al hB _) _⟩, by simp only [intOf]; omega⟩
        · have HF : Hid (inOrdS l = false) := Lib.hid (hF E hE (fun h => ok0 ⟨by have := h.1; omega, h.2⟩))
          clear hs hs' hE hF
          rcases not_spanOk ok0 with k1 | ⟨k1, k2⟩ | ⟨k1, k2, k3⟩ | ⟨k1, k2, k3, k4⟩ | ⟨k1, k2, k3, k4, k5⟩ | ⟨k1, k2, k3, k4, k5, k6⟩
          all_goals
            clear ok0
            go_wp2
            go_ret
            exact ⟨ret_bool HF.out.symm, Bel.al hB _⟩
      · obtain rfl : k = n := by omega
        have HF : Hid (inOrdS l = true) := Lib.hid (by
          unfold inOrdS
          have : ordL 0 l = true := (ordL_to l).2 (by rw [HL.out]; exact hord.out)
          rw [this, HL.out, Bool.true_and, decide_eq_true_iff]
          exact hn)
        go_wp2
        go_ret
        exact ⟨ret_bool HF.out.symm, hB⟩
  · have hn' : (65536 : Int) < n := by omega
    have HF : Hid (inOrdS l = false) := Lib.hid (by
      unfold inOrdS
      rw [Bool.and_eq_false_iff, HL.out]
      exact .inr (by simp; omega))
    go_enter Try.func18, Try.ntmps18
    go_wp2
    go_ret
    exact ⟨ret_bool HF.out.symm, Below.refl _ _⟩
end Go.Proofs.Yteconepbhajjeaa
