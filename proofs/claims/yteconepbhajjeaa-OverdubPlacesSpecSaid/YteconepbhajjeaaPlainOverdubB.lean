/- Plain lists: the parts of a recording, sample by sample (layer 44). -/
import Derived.Test.YteconepbhajjeaaPlainOverdub
namespace Go.Proofs.Yteconepbhajjeaa

def padTo (k : Nat) (a : List Int) : List Int := a ++ List.replicate (k - a.length) (-1)
theorem padTo_len {k : Nat} {a : List Int} (h : a.length ≤ k) : (padTo k a).length = k := by unfold padTo; simp; omega
def upS (at_ : Int) (n : Nat) : List Int := (List.range n).map fun i : Nat => at_ + i
/-- One part behind what is expanded. -/
def expStep (acc : List Int) (y : Ld) : List Int := padTo y.frm.toNat acc ++ upS y.at_ y.len.toNat
def expL (x : List Ld) : List Int := x.foldl expStep []
theorem expL_snoc (x : List Ld) (b : Ld) : expL (x ++ [b]) = expStep (expL x) b := by simp [expL]
theorem upS_succ (a : Int) (n : Nat) : upS a (n + 1) = upS a n ++ [a + n] := by unfold upS; rw [List.range_succ, List.map_append]; rfl
theorem upS_len (a : Int) (n : Nat) : (upS a n).length = n := by simp [upS]
theorem padTo_succ {k : Nat} {a : List Int} (h : a.length ≤ k) : padTo (k + 1) a = padTo k a ++ [-1] := by
  unfold padTo
  rw [show k + 1 - a.length = (k - a.length) + 1 by omega, List.replicate_succ', List.append_assoc]
theorem padTo_self {k : Nat} {a : List Int} (h : a.length = k) : padTo k a = a := by unfold padTo; simp [h]
/-- What the parts laid so far say, when k samples are done. -/
structure ExOk (f : Int → Int) (st : List Ld × Int) (k : Nat) : Prop where
  ok : StOk st k
  le : (expL st.1).length ≤ k
  eq : padTo k (expL st.1) = (List.range k).map fun i : Nat => f i
  fit : ∀ b, st.1.getLast? = some b → 0 ≤ b.frm ∧ (expL st.1).length = (b.frm + b.len).toNat
theorem snoc_of_last {x : List Ld} {b : Ld} (h : x.getLast? = some b) : x = x.dropLast ++ [b] := by
  rcases List.eq_nil_or_concat x with rfl | ⟨y, c, rfl⟩
  · simp at h
  · rw [List.concat_eq_append] at h ⊢
    rw [getLast_snoc] at h
    injection h with h
    rw [dropLast_snoc, h]
theorem exOk_step {f : Int → Int} {st : List Ld × Int} {k : Nat} (h : ExOk f st k) (hf : ∀ i : Int, 0 ≤ i → f i = -1 ∨ 0 ≤ f i) : ExOk f (addSample st k (f k)) (k + 1) := by
  obtain ⟨x, nx⟩ := st
  have hr : (List.range (k + 1)).map (fun i : Nat => f i) = (List.range k).map (fun i : Nat => f i) ++ [f k] := by rw [List.range_succ, List.map_append]; rfl
  rcases hf k (by omega) with ht | ht
  · have e : addSample (x, nx) k (f k) = (x, -1) := by
      unfold addSample
      rw [if_neg (show ¬ 0 ≤ f k by omega)]
      cases x.getLast? with
      | none => simp [ht]
      | some b => simp [ht]
    rw [e]
    refine ⟨⟨fun b hb => ?_, fun _ => rfl⟩, ?_, ?_, h.fit⟩
    · have := h.ok.1 b hb
      refine ⟨by omega, by omega, by omega, ?_⟩
      rw [if_neg (by omega)]
    · have := h.le; simp only at this ⊢; omega
    · have := h.eq
      simp only at this ⊢
      rw [padTo_succ h.le, this, hr, ht]
  · have hk := layFrom_run (f := f) (m := 1) (x, nx) k (f k) (Nat.le_refl _) (fun i h1 h2 => by rw [show i = (k : Int) by omega]; omega) ht h.ok
    simp only [layFrom] at hk
    obtain ⟨k1, k2⟩ := hk
    -- the new last part
    have key : ∃ y b, (addSample (x, nx) k (f k)).1 = y ++ [b] ∧ 0 ≤ b.frm ∧ b.frm + b.len = (k : Int) + 1 ∧ expL (y ++ [b]) = padTo k (expL x) ++ [f k] := by
      rw [k1]
      unfold addRun
      cases hx : x.getLast? with
      | none =>
        have hx0 : x = [] := by cases x with
          | nil => rfl
          | cons a l => simp [List.getLast?_cons] at hx
        subst hx0
        refine ⟨[], ⟨k, 1, f k, 0⟩, rfl, by simp, by simp, ?_⟩
        simp [expL, expStep, upS]
      | some b =>
        simp only
        have hfit := h.fit b hx
        have hok := h.ok.1 b hx
        have hxs := snoc_of_last hx
        simp only at hfit hok
        split
        · rename_i hc
          refine ⟨x.dropLast, ⟨b.frm, b.len + 1, b.at_, b.pass⟩, rfl, hfit.1, by simp; omega, ?_⟩
          have e1 : expL x = expStep (expL x.dropLast) b := by conv => lhs; rw [hxs, expL_snoc]
          have hl : (expL x).length = k := by omega
          rw [padTo_self hl, expL_snoc, e1]
          unfold expStep
          simp only
          rw [show (b.len + 1).toNat = b.len.toNat + 1 by omega, upS_succ, List.append_assoc, show b.at_ + (b.len.toNat : Int) = f k by omega]
        · split
          · refine ⟨x, ⟨k, 1, f k, b.pass + 1⟩, rfl, by simp, by simp, ?_⟩
            rw [expL_snoc]; simp [expStep, upS]
          · refine ⟨x, ⟨k, 1, f k, b.pass⟩, rfl, by simp, by simp, ?_⟩
            rw [expL_snoc]; simp [expStep, upS]
    obtain ⟨y, b, e1, e2, e3, e4⟩ := key
    have hlen : (padTo k (expL x)).length = k := padTo_len h.le
    refine ⟨by exact_mod_cast k2, ?_, ?_, ?_⟩
    · rw [e1, e4, List.length_append, hlen]; simp
    · rw [e1, e4, padTo_self (by rw [List.length_append, hlen]; rfl), hr, h.eq]
    · intro b' hb'
      rw [e1] at hb' ⊢
      rw [getLast_snoc] at hb'
      injection hb' with hb'
      subst hb'
      refine ⟨e2, ?_⟩
      rw [e4, List.length_append, hlen, e3]
      simp
theorem exOk_all {f : Int → Int} (hf : ∀ i : Int, 0 ≤ i → f i = -1 ∨ 0 ≤ f i) : ∀ (m : Nat) (st : List Ld × Int) (k : Nat), ExOk f st k → ExOk f (layFrom f st k m) (k + m) := by
  intro m
  induction m with
  | zero => intro st k h; exact h
  | succ m ih =>
    intro st k h
    simp only [layFrom]
    have := ih _ (k + 1) (exOk_step h hf)
    rw [show k + (m + 1) = k + 1 + m by omega]
    exact this
theorem ex_start (f : Int → Int) : ExOk f ([], -1) 0 := ⟨⟨(fun b hb => by simp at hb), fun _ => rfl⟩, by simp [expL], by simp [padTo, expL], fun b hb => by simp at hb⟩
theorem heardS_vals {l : List Spn} {a e0 : Int} (ho : Ordered e0 l) : heardS l a = -1 ∨ 0 ≤ heardS l a := by
  induction l generalizing e0 with
  | nil => exact .inl rfl
  | cons s l ih =>
    obtain ⟨h1, h2, h3, h4⟩ := ho
    unfold heardS
    split
    · exact .inr (by omega)
    · exact ih h4
def layS (l : List Spn) (h : Int) (n : Nat) : List Ld := layRuns (runsS l h n)
/-- The parts, expanded, are the samples that were heard. -/
theorem lay_exp {l : List Spn} {h : Int} {n : Nat} (ho : Ordered 0 l) : padTo n (expL (layS l h n)) = (List.range n).map (fun i : Nat => heardS l (h + i)) ∧ (expL (layS l h n)).length ≤ n := by
  have := exOk_all (f := fun k => heardS l (h + k)) (fun i _ => heardS_vals ho) n ([], -1) 0 (ex_start _)
  rw [Nat.zero_add] at this
  have e := lay_eq (l := l) (h := h) (n := n) ho
  unfold layS
  rw [← e]
  exact ⟨this.eq, this.le⟩
end Go.Proofs.Yteconepbhajjeaa
