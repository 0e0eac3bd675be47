/- Plain lists: how the parts that Lay hands back follow each other (layer 44). -/
import Derived.Test.YteconepbhajjeaaPlainOverdubC
namespace Go.Proofs.Yteconepbhajjeaa

def AdjP (prev : Option Ld) (y : Ld) : Prop := 1 ≤ y.len ∧ 0 ≤ y.at_ ∧ 0 ≤ y.frm ∧ match prev with
  | none => y.pass = 0
  | some b => b.frm + b.len ≤ y.frm ∧ ¬ (b.frm + b.len = y.frm ∧ b.at_ + b.len = y.at_) ∧ y.pass = if y.at_ < b.at_ + b.len then b.pass + 1 else b.pass
/-- Each part follows the one before it as it should. -/
def Adj (x : List Ld) : Prop := ∀ (i : Nat) (y : Ld), x[i]? = some y → AdjP (if i = 0 then none else x[i - 1]?) y
theorem adj_nil : Adj [] := fun i y h => by simp at h
theorem adj_snoc {x : List Ld} {y : Ld} : Adj (x ++ [y]) ↔ Adj x ∧ AdjP x.getLast? y := by
  constructor
  · intro h
    refine ⟨fun i z hz => ?_, ?_⟩
    · have hi := (List.getElem?_eq_some_iff.1 hz).1
      have := h i z (by rw [List.getElem?_append_left hi]; exact hz)
      by_cases h0 : i = 0
      · rw [if_pos h0] at this ⊢; exact this
      · rw [if_neg h0] at this ⊢
        rwa [List.getElem?_append_left (by omega)] at this
    · have := h x.length y (by simp)
      by_cases h0 : x.length = 0
      · rw [if_pos h0] at this
        obtain rfl : x = [] := List.eq_nil_of_length_eq_zero h0
        simpa using this
      · rw [if_neg h0, List.getElem?_append_left (by omega)] at this
        rwa [List.getLast?_eq_getElem?]
  · rintro ⟨h1, h2⟩ i z hz
    by_cases hi : i < x.length
    · rw [List.getElem?_append_left hi] at hz
      have := h1 i z hz
      by_cases h0 : i = 0
      · rw [if_pos h0] at this ⊢; exact this
      · rw [if_neg h0] at this ⊢
        rwa [List.getElem?_append_left (by omega)]
    · have hi2 : i = x.length := by
        have := (List.getElem?_eq_some_iff.1 hz).1
        simp at this; omega
      subst hi2
      simp at hz
      subst hz
      by_cases h0 : x.length = 0
      · rw [if_pos h0]
        obtain rfl : x = [] := List.eq_nil_of_length_eq_zero h0
        simpa using h2
      · rw [if_neg h0, List.getElem?_append_left (by omega)]
        rwa [List.getLast?_eq_getElem?] at h2
theorem adj_step {f : Int → Int} {st : List Ld × Int} {k : Nat} (h : ExOk f st k) (ha : Adj st.1) : Adj (addSample st k (f k)).1 := by
  obtain ⟨x, nx⟩ := st
  dsimp only at ha
  unfold addSample
  dsimp only
  cases hx : x.getLast? with
  | none =>
    have hx0 : x = [] := by cases x with
      | nil => rfl
      | cons a l => simp [List.getLast?_cons] at hx
    dsimp only
    split
    · exact ha
    · rename_i ht
      have := adj_snoc (x := []) (y := ⟨k, 1, f k, 0⟩)
      rw [List.nil_append] at this
      exact this.2 ⟨adj_nil, Int.le_refl 1, by show 0 ≤ f k; omega, by show (0 : Int) ≤ (k : Int); omega, rfl⟩
  | some b =>
    have hxs := snoc_of_last hx
    have hok := h.ok.1 b hx
    have hfit := h.fit b hx
    dsimp only at hok hfit ⊢
    obtain ⟨o1, o2, o3, o4⟩ := hok
    split
    · exact ha
    · rename_i ht
      split
      · rw [hxs] at ha
        obtain ⟨a1, a2, a3, a4, a5⟩ := adj_snoc.1 ha
        refine adj_snoc.2 ⟨a1, ?_, a3, a4, a5⟩
        show 1 ≤ b.len + 1
        omega
      · rename_i hne
        have key : ∀ p, p = (if f k < b.at_ + b.len then b.pass + 1 else b.pass) → AdjP (some b) ⟨k, 1, f k, p⟩ := by
          intro p hp
          refine ⟨Int.le_refl 1, by show 0 ≤ f k; omega, by show (0 : Int) ≤ (k : Int); omega, by show b.frm + b.len ≤ (k : Int); omega, ?_, hp⟩
          rintro ⟨h1, h2⟩
          dsimp only at h1 h2
          rw [if_pos h1] at o4
          omega
        split
        · rename_i hlt
          exact adj_snoc.2 ⟨ha, by rw [hx]; exact key _ (by rw [if_pos hlt])⟩
        · rename_i hlt
          exact adj_snoc.2 ⟨ha, by rw [hx]; exact key _ (by rw [if_neg hlt])⟩
theorem adj_from {f : Int → Int} (hf : ∀ i : Int, 0 ≤ i → f i = -1 ∨ 0 ≤ f i) : ∀ (m : Nat) (st : List Ld × Int) (k : Nat), ExOk f st k → Adj st.1 → Adj (layFrom f st k m).1 := by
  intro m
  induction m with
  | zero => intro st k _ h; exact h
  | succ m ih =>
    intro st k h ha
    simp only [layFrom]
    exact ih _ (k + 1) (exOk_step h hf) (adj_step h ha)
theorem adj_lay {l : List Spn} {h : Int} {n : Nat} (ho : Ordered 0 l) : Adj (layS l h n) := by
  have := adj_from (f := fun k => heardS l (h + k)) (fun i _ => heardS_vals ho) n ([], -1) 0 (ex_start _) adj_nil
  have e := lay_eq (l := l) (h := h) (n := n) ho
  unfold layS
  rw [← e]
  exact_mod_cast this
theorem expL_len {x : List Ld} (h : Adj x) : ∀ k : Nat, k ≤ x.length → (expL (x.take k)).length = match (if k = 0 then none else x[k - 1]?) with | none => 0 | some b => (b.frm + b.len).toNat := by
  intro k
  induction k with
  | zero => intro _; simp [expL]
  | succ k ih =>
    intro hk
    have hk' : k < x.length := by omega
    obtain ⟨y, hy⟩ : ∃ y, x[k]? = some y := ⟨_, List.getElem?_eq_getElem hk'⟩
    have ha := h k y hy
    have hi := ih (by omega)
    rw [if_neg (by omega), Nat.add_sub_cancel, hy, List.take_add_one, hy]
    show (expL (x.take k ++ [y])).length = (y.frm + y.len).toNat
    rw [expL_snoc]
    obtain ⟨a1, a2, a3, a4⟩ := ha
    have hle : (expL (x.take k)).length ≤ y.frm.toNat := by
      rw [hi]
      by_cases h0 : k = 0
      · rw [if_pos h0]; exact Nat.zero_le _
      · rw [if_neg h0] at a4 ⊢
        obtain ⟨b, hb⟩ : ∃ b, x[k - 1]? = some b := ⟨_, List.getElem?_eq_getElem (by omega)⟩
        rw [hb] at a4 ⊢
        have := a4.1
        show (b.frm + b.len).toNat ≤ _
        omega
    show (padTo y.frm.toNat (expL (x.take k)) ++ upS y.at_ y.len.toNat).length = _
    rw [List.length_append, padTo_len hle, upS_len]
    omega
/-- What 'expand' asks of parts, all within n samples. -/
def ExpOk (x : List Ld) (n : Int) : Prop := ∀ (k : Nat) (y : Ld), x[k]? = some y → ((expL (x.take k)).length : Int) ≤ y.frm ∧ 1 ≤ y.len ∧ 0 ≤ y.at_ ∧ y.at_ ≤ 2199023255552 ∧ y.frm + y.len ≤ n
theorem expOk_of {x : List Ld} {n : Int} (h : Adj x) (hb : ∀ y ∈ x, y.frm + y.len ≤ n ∧ y.at_ ≤ 2199023255552) : ExpOk x n := by
  intro k y hy
  have hk := (List.getElem?_eq_some_iff.1 hy).1
  obtain ⟨a1, a2, a3, a4⟩ := h k y hy
  have hn := hb y (List.mem_of_getElem? hy)
  refine ⟨?_, a1, a2, hn.2, hn.1⟩
  rw [expL_len h k (by omega)]
  by_cases h0 : k = 0
  · rw [if_pos h0]; simpa using a3
  · rw [if_neg h0] at a4 ⊢
    obtain ⟨b, hb⟩ : ∃ b, x[k - 1]? = some b := ⟨_, List.getElem?_eq_getElem (by omega)⟩
    rw [hb] at a4 ⊢
    have := a4.1
    show (((b.frm + b.len).toNat : Nat) : Int) ≤ y.frm
    omega
end Go.Proofs.Yteconepbhajjeaa
