/- Plain lists: what the functions of layers 42 and 44 hand back. -/
import Derived.Test.YteconepbhajjeaaPlainOverdubB
namespace Go.Proofs.Yteconepbhajjeaa

/-- A span that is valid, not ahead of e0. -/
def SpanOk (e0 : Int) (s : Spn) : Prop := e0 ≤ s.eng ∧ s.eng ≤ 1099511627776 ∧ 0 ≤ s.song ∧ s.song ≤ 1099511627776 ∧ 1 ≤ s.len ∧ s.len ≤ 1099511627776
instance (e0 : Int) (s : Spn) : Decidable (SpanOk e0 s) := by unfold SpanOk; infer_instance
def ordL : Int → List Spn → Bool
  | _, [] => true
  | e0, s :: l => decide (SpanOk e0 s) && ordL (s.eng + s.len) l
def inOrdS (l : List Spn) : Bool := ordL 0 l && decide (l.length ≤ 65536)
theorem ordL_ordered {l : List Spn} : ∀ {e0 : Int}, ordL e0 l = true → Ordered e0 l := by
  induction l with
  | nil => intros; trivial
  | cons s l ih =>
    intro e0 h
    simp only [ordL, Bool.and_eq_true, decide_eq_true_eq] at h
    obtain ⟨⟨h1, h2, h3, h4, h5, h6⟩, h7⟩ := h
    exact ⟨h1, h5, h3, ih h7⟩
/-- The end of the spans ahead of number k. -/
def endAt (l : List Spn) (k : Nat) : Int := match k with
  | 0 => 0
  | k + 1 => match l[k]? with
    | some s => s.eng + s.len
    | none => 0
theorem ordL_iff (l : List Spn) : ∀ (e0 : Int), ordL e0 l = true ↔ ∀ (k : Nat) (s : Spn), l[k]? = some s → SpanOk (if k = 0 then e0 else endAt l k) s := by
  induction l with
  | nil => intro e0; simp [ordL]
  | cons x l ih =>
    intro e0
    simp only [ordL, Bool.and_eq_true, decide_eq_true_eq, ih]
    constructor
    · rintro ⟨h1, h2⟩ k s hs
      cases k with
      | zero => simp only [List.getElem?_cons_zero, Option.some.injEq] at hs; subst hs; simpa using h1
      | succ k =>
        rw [List.getElem?_cons_succ] at hs
        have := h2 k s hs
        cases k with
        | zero => simpa [endAt] using this
        | succ k => simpa [endAt] using this
    · intro h
      refine ⟨by simpa using h 0 x rfl, fun k s hs => ?_⟩
      have := h (k + 1) s (by rw [List.getElem?_cons_succ]; exact hs)
      cases k with
      | zero => simpa [endAt] using this
      | succ k => simpa [endAt] using this
def LayOk (l : List Spn) (start n i o : Int) : Prop := inOrdS l = true ∧ 0 ≤ start ∧ start ≤ 1099511627776 ∧ 0 ≤ n ∧ n ≤ 16777216 ∧ 0 ≤ i ∧ i ≤ 1048576 ∧ 0 ≤ o ∧ o ≤ 1048576
instance (l : List Spn) (start n i o : Int) : Decidable (LayOk l start n i o) := by unfold LayOk; infer_instance
def layR (l : List Spn) (start n i o : Int) : List Ld × Int := if LayOk l start n i o then (layS l (start - i - o) n.toNat, 0) else ([], 1)

structure Rcd where
  dev : Int
  frm : Int
  known : Int
  inn : Int
  out : Int
def RcdOk (r : Rcd) : Prop := 0 ≤ r.dev ∧ r.dev ≤ 15 ∧ 0 ≤ r.frm ∧ r.frm ≤ 1099511627776 ∧ 1 ≤ r.known ∧ r.known ≤ 16777216 ∧ 0 ≤ r.inn ∧ r.inn ≤ 1048576 ∧ 0 ≤ r.out ∧ r.out ≤ 1048576
instance (r : Rcd) : Decidable (RcdOk r) := by unfold RcdOk; infer_instance
def RcdLt (a b : Rcd) : Prop := a.dev < b.dev ∨ (a.dev = b.dev ∧ (a.frm < b.frm ∨ (a.frm = b.frm ∧ a.known < b.known)))
instance (a b : Rcd) : Decidable (RcdLt a b) := by unfold RcdLt; infer_instance
/-- The first k records are right. -/
def rcdsOk (l : List Rcd) (k : Nat) : Prop := ∀ i r, i < k → l[i]? = some r → RcdOk r ∧ ∀ j q, j + 1 = i → l[j]? = some q → RcdLt q r
open Classical in
noncomputable def checkR (l : List Rcd) : Int := if 256 < l.length then 2 else if rcdsOk l l.length then 0 else 420
def rcdFits (dev pos known : Int) (r : Rcd) : Bool := decide (r.dev = dev ∧ r.frm ≤ pos ∧ r.known ≤ known)
def findS (l : List Rcd) (dev pos known : Int) : Option Rcd := (l.filter (rcdFits dev pos known)).getLast?

/-- How parts follow each other; e: where the ones ahead end, b: the last of them. -/
def Chain : Option Ld → Int → List Ld → Prop
  | _, _, [] => True
  | b, e, y :: l => e ≤ y.frm ∧ 1 ≤ y.len ∧ 0 ≤ y.at_ ∧
      (match b with
        | none => y.pass = 0
        | some b => ¬ (b.frm + b.len = y.frm ∧ b.at_ + b.len = y.at_) ∧ y.pass = if y.at_ < b.at_ + b.len then b.pass + 1 else b.pass) ∧ Chain (some y) (y.frm + y.len) l
end Go.Proofs.Yteconepbhajjeaa
