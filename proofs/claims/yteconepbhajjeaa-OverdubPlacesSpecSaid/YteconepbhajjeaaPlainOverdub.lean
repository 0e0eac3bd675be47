/- Plain lists: where the parts of a recording were heard (layer 44). No program in sight. -/
import Derived.Test.YteconepbhajjeaaRows
namespace Go.Proofs.Yteconepbhajjeaa

structure Spn where
  eng : Int
  len : Int
  song : Int
  roll : Bool
  rcd : Bool
structure Ld where
  frm : Int
  len : Int
  at_ : Int
  pass : Int
  deriving DecidableEq
structure Rn where
  frm : Int
  many : Int
  song : Int
def maxPos : Int := 1099511627776

/-- Spans in order, the first not ahead of e0. -/
def Ordered : Int → List Spn → Prop
  | _, [] => True
  | e0, s :: l => e0 ≤ s.eng ∧ 1 ≤ s.len ∧ 0 ≤ s.song ∧ Ordered (s.eng + s.len) l
def on (s : Spn) : Bool := s.roll && s.rcd
/-- The song's sample at an engine sample, or -1. -/
def heardS : List Spn → Int → Int
  | [], _ => -1
  | s :: l, at_ => if on s = true ∧ s.eng ≤ at_ ∧ at_ < s.eng + s.len then s.song + at_ - s.eng else heardS l at_
/-- The runs of the samples from p on, n behind; the sample 0 was heard at h. -/
def runOf (h n : Int) (s : Spn) : Option Rn :=
  if max s.eng h < min (s.eng + s.len) (h + n) ∧ on s = true then some ⟨max s.eng h - h, min (s.eng + s.len) (h + n) - max s.eng h, s.song + max s.eng h - s.eng⟩ else none
def runsS (l : List Spn) (h n : Int) : List Rn := l.filterMap (runOf h n)

/-- One run behind what is laid. -/
def addRun (x : List Ld) (r : Rn) : List Ld :=
  match x.getLast? with
  | none => [⟨r.frm, r.many, r.song, 0⟩]
  | some b => if r.frm = b.frm + b.len ∧ r.song = b.at_ + b.len then x.dropLast ++ [⟨b.frm, b.len + r.many, b.at_, b.pass⟩]
    else x ++ [⟨r.frm, r.many, r.song, if r.song < b.at_ + b.len then b.pass + 1 else b.pass⟩]
def layRuns (rs : List Rn) : List Ld := rs.foldl addRun []

/-- The reference: one sample behind what is laid. The state: what is laid, and the song's sample with which the last part goes on. -/
def addSample (st : List Ld × Int) (k t : Int) : List Ld × Int :=
  (match st.1.getLast? with
    | none => if t < 0 then st.1 else [⟨k, 1, t, 0⟩]
    | some b => if t < 0 then st.1 else if t = st.2 then st.1.dropLast ++ [⟨b.frm, b.len + 1, b.at_, b.pass⟩]
      else if t < b.at_ + b.len then st.1 ++ [⟨k, 1, t, b.pass + 1⟩] else st.1 ++ [⟨k, 1, t, b.pass⟩],
   if 0 ≤ t then t + 1 else -1)
/-- The samples k .. k + m - 1, whose song's samples f says. -/
def layFrom (f : Int → Int) (st : List Ld × Int) (k : Int) : Nat → List Ld × Int
  | 0 => st
  | m + 1 => layFrom f (addSample st k (f k)) (k + 1) m
theorem layFrom_add (f : Int → Int) (st : List Ld × Int) (k : Int) (a b : Nat) : layFrom f st k (a + b) = layFrom f (layFrom f st k a) (k + a) b := by
  induction a generalizing st k with
  | zero => simp [layFrom]
  | succ a ih =>
    rw [show a + 1 + b = (a + b) + 1 by omega]
    simp only [layFrom]
    rw [ih]
    congr 1
    omega
theorem layFrom_congr {f g : Int → Int} {m : Nat} (st : List Ld × Int) (k : Int) (h : ∀ i, k ≤ i → i < k + m → f i = g i) : layFrom f st k m = layFrom g st k m := by
  induction m generalizing st k with
  | zero => rfl
  | succ m ih =>
    simp only [layFrom]
    rw [h k (by omega) (by omega)]
    exact ih _ _ (fun i h1 h2 => h i (by omega) (by omega))
/-- What the state says behind sample k - 1. -/
def StOk (st : List Ld × Int) (k : Int) : Prop :=
  (∀ b, st.1.getLast? = some b → b.frm + b.len ≤ k ∧ 0 ≤ b.at_ ∧ 1 ≤ b.len ∧ st.2 = if b.frm + b.len = k then b.at_ + b.len else -1) ∧ (st.1.getLast? = none → st.2 = -1)
theorem layFrom_gap {f : Int → Int} {m : Nat} : ∀ (st : List Ld × Int) (k : Int), (∀ i, k ≤ i → i < k + m → f i < 0) → StOk st k → (layFrom f st k m).1 = st.1 ∧ StOk (layFrom f st k m) (k + m) := by
  induction m with
  | zero => intro st k _ hs; simp [layFrom]; exact hs
  | succ m ih =>
    intro st k hf hs
    have h0 := hf k (by omega) (by omega)
    have h1 : addSample st k (f k) = (st.1, -1) := by
      unfold addSample
      rw [if_neg (show ¬ 0 ≤ f k by omega)]
      cases st.1.getLast? with
      | none => simp [h0]
      | some b => simp [h0]
    simp only [layFrom]
    rw [h1]
    have h2 : StOk (st.1, -1) (k + 1) := by
      refine ⟨fun b hb => ?_, fun _ => rfl⟩
      have := hs.1 b hb
      refine ⟨by omega, by omega, by omega, ?_⟩
      rw [if_neg (by omega)]
    have := ih (st.1, -1) (k + 1) (fun i h3 h4 => hf i (by omega) (by omega)) h2
    rw [show k + 1 + (m : Int) = k + ((m + 1 : Nat) : Int) by omega] at this
    exact this
theorem getLast_snoc (x : List Ld) (b : Ld) : (x ++ [b]).getLast? = some b := by simp
theorem dropLast_snoc (x : List Ld) (b : Ld) : (x ++ [b]).dropLast = x := by simp
/-- Further samples of a run. -/
theorem layFrom_more {f : Int → Int} {m : Nat} : ∀ (x : List Ld) (b : Ld) (t k : Int), (∀ i, k ≤ i → i < k + m → f i = t + (i - k)) → b.frm + b.len = k → b.at_ + b.len = t → 0 ≤ t →
    layFrom f (x ++ [b], t) k m = (x ++ [⟨b.frm, b.len + m, b.at_, b.pass⟩], t + m) := by
  induction m with
  | zero => intro x b t k _ _ _ _; simp [layFrom]
  | succ m ih =>
    intro x b t k hf h1 h2 h3
    have h0 := hf k (by omega) (by omega)
    simp only [layFrom]
    have h4 : addSample (x ++ [b], t) k (f k) = (x ++ [⟨b.frm, b.len + 1, b.at_, b.pass⟩], t + 1) := by
      unfold addSample
      rw [show f k = t by omega]
      simp only [getLast_snoc, dropLast_snoc]
      rw [if_neg (by omega)]
      simp [h3]
    rw [h4, ih x ⟨b.frm, b.len + 1, b.at_, b.pass⟩ (t + 1) (k + 1) (fun i h5 h6 => by rw [hf i (by omega) (by omega)]; omega) (by simp; omega) (by simp; omega) (by omega)]
    simp only [Prod.mk.injEq, List.append_cancel_left_eq, List.cons.injEq, Ld.mk.injEq, and_true, true_and]
    omega
/-- A run: what the samples make of it. -/
theorem layFrom_run {f : Int → Int} {m : Nat} (st : List Ld × Int) (k t : Int) (hm : 1 ≤ m) (hf : ∀ i, k ≤ i → i < k + m → f i = t + (i - k)) (ht : 0 ≤ t) (hs : StOk st k) :
    (layFrom f st k m).1 = addRun st.1 ⟨k, m, t⟩ ∧ StOk (layFrom f st k m) (k + m) := by
  obtain ⟨q, rfl⟩ : ∃ q, m = q + 1 := ⟨m - 1, by omega⟩
  have h0 : f k = t := by rw [hf k (by omega) (by omega)]; omega
  obtain ⟨x, nx⟩ := st
  -- whatever the first sample makes: a list with a last part b that ends at k + 1
  have key : ∃ y b, addSample (x, nx) k t = (y ++ [b], t + 1) ∧ b.frm + b.len = k + 1 ∧ b.at_ + b.len = t + 1 ∧ 0 ≤ b.at_ ∧ 1 ≤ b.len ∧ y ++ [⟨b.frm, b.len + q, b.at_, b.pass⟩] = addRun x ⟨k, ((q + 1 : Nat) : Int), t⟩ := by
    unfold addSample addRun
    simp only
    rw [if_pos ht]
    cases hx : x.getLast? with
    | none =>
      simp only
      rw [if_neg (by omega)]
      exact ⟨[], ⟨k, 1, t, 0⟩, rfl, rfl, rfl, ht, Int.le_refl _, by simp; omega⟩
    | some b =>
      simp only
      obtain ⟨h1, h2, h3, h4⟩ := hs.1 b hx
      simp only at h4
      rw [if_neg (by omega)]
      by_cases hn : t = nx
      · rw [if_pos hn]
        have h5 : b.frm + b.len = k := by
          rcases Classical.em (b.frm + b.len = k) with h | h
          · exact h
          · rw [if_neg h] at h4; omega
        rw [if_pos h5] at h4
        rw [if_pos ⟨by omega, by omega⟩]
        refine ⟨x.dropLast, ⟨b.frm, b.len + 1, b.at_, b.pass⟩, rfl, by simp; omega, by simp; omega, h2, by simp; omega, ?_⟩
        simp only [List.append_cancel_left_eq, List.cons.injEq, Ld.mk.injEq, and_true, true_and]
        omega
      · rw [if_neg hn]
        have h5 : ¬ (k = b.frm + b.len ∧ t = b.at_ + b.len) := by
          rintro ⟨h5, h6⟩
          rw [if_pos h5.symm] at h4
          omega
        rw [if_neg h5]
        by_cases h6 : t < b.at_ + b.len
        · rw [if_pos h6, if_pos h6]
          exact ⟨x, ⟨k, 1, t, b.pass + 1⟩, rfl, rfl, rfl, ht, Int.le_refl _, by simp; omega⟩
        · rw [if_neg h6, if_neg h6]
          exact ⟨x, ⟨k, 1, t, b.pass⟩, rfl, rfl, rfl, ht, Int.le_refl _, by simp; omega⟩
  obtain ⟨y, b, e1, e2, e3, e4, e5, e6⟩ := key
  simp only [layFrom]
  rw [h0, e1, layFrom_more y b (t + 1) (k + 1) (fun i h1 h2 => by rw [hf i (by omega) (by omega)]; omega) e2 e3 (by omega)]
  refine ⟨e6, fun b' hb' => ?_, fun hb' => ?_⟩
  · simp only [getLast_snoc] at hb'
    injection hb' with hb'
    subst hb'
    simp only
    refine ⟨by omega, e4, by omega, ?_⟩
    rw [if_pos (by omega)]
    omega
  · simp only [getLast_snoc] at hb'
    cases hb'
theorem heardS_before {l : List Spn} : ∀ {e0 a : Int}, Ordered e0 l → a < e0 → heardS l a = -1 := by
  induction l with
  | nil => intros; rfl
  | cons s l ih =>
    intro e0 a ho ha
    obtain ⟨h1, h2, h3, h4⟩ := ho
    unfold heardS
    rw [if_neg (by omega)]
    exact ih h4 (by omega)
theorem Ordered.mono {l : List Spn} {a b : Int} (h : Ordered b l) (hab : a ≤ b) : Ordered a l := by
  cases l with
  | nil => trivial
  | cons s l => exact ⟨by have := h.1; omega, h.2⟩
/-- Where an engine sample lies within the recording. -/
def posN (h : Int) (n : Nat) (a : Int) : Nat := (min (n : Int) (max 0 (a - h))).toNat
/-- What the program lays is what the reference lays. -/
theorem lay_runs {h : Int} {n : Nat} : ∀ {l : List Spn} {e0 : Int} (st : List Ld × Int), Ordered e0 l → StOk st (posN h n e0) →
    (layFrom (fun k => heardS l (h + k)) st (posN h n e0) (n - posN h n e0)).1 = (runsS l h n).foldl addRun st.1 := by
  intro l
  induction l with
  | nil =>
    intro e0 st _ hs
    exact (layFrom_gap st _ (fun i _ _ => by show heardS [] _ < 0; unfold heardS; omega) hs).1
  | cons s l ih =>
    intro e0 st ho hs
    obtain ⟨h1, h2, h3, h4⟩ := ho
    have ho' : Ordered s.eng (s :: l) := ⟨Int.le_refl _, h2, h3, h4⟩
    -- the three stretches
    obtain ⟨p0, hp0⟩ : ∃ p, posN h n e0 = p := ⟨_, rfl⟩
    obtain ⟨p1, hp1⟩ : ∃ p, posN h n s.eng = p := ⟨_, rfl⟩
    obtain ⟨p2, hp2⟩ : ∃ p, posN h n (s.eng + s.len) = p := ⟨_, rfl⟩
    have ih' := fun st hs => ih (e0 := s.eng + s.len) st h4 hs
    rw [hp2] at ih'
    rw [hp0] at hs ⊢
    unfold posN at hp0 hp1 hp2
    have b01 : p0 ≤ p1 := by omega
    have b12 : p1 ≤ p2 := by omega
    have b2 : p2 ≤ n := by omega
    obtain ⟨c1, c2⟩ := layFrom_gap (f := fun k => heardS (s :: l) (h + k)) (m := p1 - p0) st p0 (fun i i1 i2 => by show heardS (s :: l) (h + i) < 0; rw [heardS_before ho' (by omega)]; omega) hs
    rw [show (p0 : Int) + ((p1 - p0 : Nat) : Int) = p1 by omega] at c2
    have e1 : layFrom (fun k => heardS (s :: l) (h + k)) st p0 (n - p0) = layFrom (fun k => heardS (s :: l) (h + k)) (layFrom (fun k => heardS (s :: l) (h + k)) (layFrom (fun k => heardS (s :: l) (h + k)) st p0 (p1 - p0)) p1 (p2 - p1)) p2 (n - p2) := by
      rw [show n - p0 = (p1 - p0) + ((p2 - p1) + (n - p2)) by omega, layFrom_add, layFrom_add]
      rw [show (p0 : Int) + ((p1 - p0 : Nat) : Int) = p1 by omega, show (p1 : Int) + ((p2 - p1 : Nat) : Int) = p2 by omega]
    rw [e1]
    obtain ⟨st1, hst1⟩ : ∃ st1, layFrom (fun k => heardS (s :: l) (h + k)) st p0 (p1 - p0) = st1 := ⟨_, rfl⟩
    rw [hst1] at c1 c2 ⊢
    have d : (layFrom (fun k => heardS (s :: l) (h + k)) st1 p1 (p2 - p1)).1 = (match runOf h n s with | some r => addRun st1.1 r | none => st1.1) ∧ StOk (layFrom (fun k => heardS (s :: l) (h + k)) st1 p1 (p2 - p1)) p2 := by
      by_cases hon : on s = true
      · by_cases hlt : p1 < p2
        · obtain ⟨q1, q2⟩ := layFrom_run (f := fun k => heardS (s :: l) (h + k)) (m := p2 - p1) st1 p1 (s.song + (h + p1) - s.eng) (by omega)
            (fun i i1 i2 => by show heardS (s :: l) (h + i) = _; unfold heardS; rw [if_pos ⟨hon, by omega, by omega⟩]; omega) (by omega) c2
          rw [show (p1 : Int) + ((p2 - p1 : Nat) : Int) = p2 by omega] at q2
          refine ⟨?_, q2⟩
          have hr : runOf h n s = some ⟨p1, ((p2 - p1 : Nat) : Int), s.song + (h + p1) - s.eng⟩ := by
            unfold runOf
            rw [if_pos ⟨by omega, hon⟩]
            simp only [Option.some.injEq, Rn.mk.injEq]
            omega
          rw [hr]; exact q1
        · have hr : runOf h n s = none := by
            unfold runOf
            rw [if_neg (by rintro ⟨h5, _⟩; omega)]
          rw [hr, show p2 - p1 = 0 by omega]
          rw [show p2 = p1 by omega]
          exact ⟨rfl, c2⟩
      · have hr : runOf h n s = none := by unfold runOf; rw [if_neg (fun h5 => hon h5.2)]
        rw [hr]
        obtain ⟨q1, q2⟩ := layFrom_gap (f := fun k => heardS (s :: l) (h + k)) (m := p2 - p1) st1 p1 (fun i i1 i2 => by
          show heardS (s :: l) (h + i) < 0
          unfold heardS
          rw [if_neg (fun h5 => hon h5.1), heardS_before h4 (by omega)]; omega) c2
        rw [show (p1 : Int) + ((p2 - p1 : Nat) : Int) = p2 by omega] at q2
        exact ⟨q1, q2⟩
    obtain ⟨d1, d2⟩ := d
    obtain ⟨st2, hst2⟩ : ∃ st2, layFrom (fun k => heardS (s :: l) (h + k)) st1 p1 (p2 - p1) = st2 := ⟨_, rfl⟩
    rw [hst2] at d1 d2 ⊢
    rw [layFrom_congr (g := fun k => heardS l (h + k)) st2 p2 (fun i i1 i2 => by
      show heardS (s :: l) (h + i) = heardS l (h + i)
      conv => lhs; unfold heardS
      rw [if_neg (by omega)]), ih' st2 d2, d1]
    unfold runsS
    rw [List.filterMap_cons]
    cases runOf h n s with
    | none => simp only; rw [c1]
    | some r => simp only [List.foldl_cons]; rw [c1]
/-- The reference's Lay is the program's. -/
theorem lay_eq {l : List Spn} {h : Int} {n : Nat} (ho : Ordered 0 l) : (layFrom (fun k => heardS l (h + k)) ([], -1) 0 n).1 = layRuns (runsS l h n) := by
  have h0 : StOk ([], -1) (posN h n (min 0 h)) := ⟨(fun b hb => by simp at hb), fun _ => rfl⟩
  have := lay_runs (h := h) (n := n) (l := l) (e0 := min 0 h) ([], -1) (ho.mono (by omega)) h0
  have hp : posN h n (min 0 h) = 0 := by unfold posN; omega
  rw [hp] at this
  exact this
end Go.Proofs.Yteconepbhajjeaa
