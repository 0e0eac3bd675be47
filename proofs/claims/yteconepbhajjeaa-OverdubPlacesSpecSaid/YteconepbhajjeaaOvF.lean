/- Layer 44: the reference's Lay. -/
import Derived.Test.YteconepbhajjeaaOvE
namespace Go.Proofs.Yteconepbhajjeaa
open Go.RowKit

/-- Bounds on what the reference has laid behind sample k - 1. -/
def StB (st : List Ld × Int) (k : Nat) : Prop := (∀ b ∈ st.1, 0 ≤ b.frm ∧ b.frm ≤ k ∧ 1 ≤ b.len ∧ b.len ≤ k ∧ 0 ≤ b.at_ ∧ b.at_ ≤ 4398046511104 ∧ 0 ≤ b.pass ∧ b.pass ≤ k) ∧ -1 ≤ st.2 ∧ st.2 ≤ 4398046511105 ∧ st.1.length ≤ k
theorem StB.add {st : List Ld × Int} {k : Nat} {t : Int} (h : StB st k) (h1 : -1 ≤ t) (h2 : t ≤ 4398046511104) : StB (addSample st k t) (k + 1) := by
  obtain ⟨x, nx⟩ := st
  obtain ⟨hb, hn1, hn2, hl⟩ := h
  dsimp only at hb hn1 hn2 hl
  have hup : ∀ b ∈ x, 0 ≤ b.frm ∧ b.frm ≤ (k + 1 : Nat) ∧ 1 ≤ b.len ∧ b.len ≤ (k + 1 : Nat) ∧ 0 ≤ b.at_ ∧ b.at_ ≤ 4398046511104 ∧ 0 ≤ b.pass ∧ b.pass ≤ (k + 1 : Nat) := by
    intro b h; have := hb b h; omega
  unfold addSample StB
  dsimp only
  refine ⟨?_, by split <;> omega, by split <;> omega, ?_⟩
  · cases hg : x.getLast? with
    | none =>
      dsimp only
      split
      · exact hup
      · intro b h; rw [List.mem_singleton] at h; subst h; dsimp only; omega
    | some y =>
      have hy := hb y (List.mem_of_getLast? hg)
      dsimp only
      split
      · exact hup
      · split
        · intro b h
          rcases List.mem_append.1 h with h | h
          · exact hup b ((List.dropLast_sublist x).subset h)
          · rw [List.mem_singleton] at h; subst h; dsimp only; omega
        · split
          all_goals
            intro b h
            rcases List.mem_append.1 h with h | h
            · exact hup b h
            · rw [List.mem_singleton] at h; subst h; dsimp only; omega
  · cases hg : x.getLast? with
    | none => dsimp only; split; · omega
              · simp
    | some y =>
      dsimp only
      split
      · omega
      · split
        · have : x.length ≠ 0 := by intro h; rw [List.length_eq_zero_iff] at h; subst h; cases hg
          simp; omega
        · split <;> simp <;> omega
theorem layFrom_snoc (f : Int → Int) (k : Nat) : layFrom f ([], -1) 0 (k + 1) = addSample (layFrom f ([], -1) 0 k) k (f k) := by
  rw [layFrom_add f ([], -1) 0 k 1]
  simp [layFrom]
theorem stB_all {f : Int → Int} {n : Nat} (hf : ∀ k : Nat, k < n → -1 ≤ f k ∧ f k ≤ 4398046511104) : ∀ k : Nat, k ≤ n → StB (layFrom f ([], -1) 0 k) k := by
  intro k
  induction k with
  | zero => intro _; exact ⟨by intro b hb; simp [layFrom] at hb, by simp [layFrom], by simp [layFrom], by simp [layFrom]⟩
  | succ k ih =>
    intro hk
    rw [layFrom_snoc]
    exact (ih (by omega)).add (hf k (by omega)).1 (hf k (by omega)).2
theorem heardS_le {l : List Spn} {a : Int} (h : ∀ s ∈ l, 0 ≤ s.song ∧ s.song ≤ 1099511627776 ∧ s.len ≤ 1099511627776) : -1 ≤ heardS l a ∧ heardS l a ≤ 4398046511104 := by
  induction l with
  | nil => simp [heardS]
  | cons s l ih =>
    have h1 := h s (List.mem_cons_self ..)
    have h2 := ih (fun s hs => h s (List.mem_cons_of_mem _ hs))
    unfold heardS
    split
    · omega
    · exact h2
theorem addSample_neg (x : List Ld) (nx : Int) {k t : Int} (h : t < 0) : addSample (x, nx) k t = (x, -1) := by
  unfold addSample
  dsimp only
  cases x.getLast? <;> simp [h, show ¬ 0 ≤ t by omega]
theorem addSample_first (nx : Int) {k t : Int} (h : 0 ≤ t) : addSample ([], nx) k t = ([⟨k, 1, t, 0⟩], t + 1) := by
  unfold addSample
  dsimp only [List.getLast?_nil]
  rw [if_pos h, if_neg (by omega)]
theorem getLast_at {x : List Ld} {q : Nat} {b : Ld} (h : x[q]? = some b) (hl : x.length = q + 1) : x.getLast? = some b := by
  rw [List.getLast?_eq_getElem?, hl]; exact h
theorem addSample_more {x : List Ld} {q : Nat} {b : Ld} (hb : x[q]? = some b) (hl : x.length = q + 1) {k t : Int} (h : 0 ≤ t) : addSample (x, t) k t = (x.set q ⟨b.frm, b.len + 1, b.at_, b.pass⟩, t + 1) := by
  unfold addSample
  dsimp only
  rw [getLast_at hb hl]
  dsimp only
  rw [if_pos h, if_neg (by omega), if_pos rfl, set_last hl]
theorem addSample_new {x : List Ld} {q : Nat} {b : Ld} (hb : x[q]? = some b) (hl : x.length = q + 1) {nx k t : Int} (h : 0 ≤ t) (hn : t ≠ nx) :
    addSample (x, nx) k t = (x ++ [⟨k, 1, t, if t < b.at_ + b.len then b.pass + 1 else b.pass⟩], t + 1) := by
  unfold addSample
  dsimp only
  rw [getLast_at hb hl]
  dsimp only
  rw [if_pos h, if_neg (by omega), if_neg hn]
  split <;> rfl

set_option maxHeartbeats 4000000 in
theorem rlay_bad (A : Option Addr) (n c : Nat) (l : List Spn) (st nn i o : Int) (w : World) (h : SA spanE w A n c l) (hb : ¬ LayOk l st nn i o) :
    Calls Try.prog 11 #[.slice A n c, .int .i64 st, .int .i64 nn, .int .i64 i, .int .i64 o] w (LayRet w l st nn i o) := by
  have C := rinOrder_any A n c l w h
  have HR := Lib.hid (show layR l st nn i o = ([], 1) by unfold layR; rw [if_neg hb])
  have hc : inOrdS l = false ∨ (inOrdS l = true ∧ st < 0) ∨ (inOrdS l = true ∧ 0 ≤ st ∧ 1099511627776 < st) ∨ (inOrdS l = true ∧ 0 ≤ st ∧ st ≤ 1099511627776 ∧ nn < 0) ∨ (inOrdS l = true ∧ 0 ≤ st ∧ st ≤ 1099511627776 ∧ 0 ≤ nn ∧ 16777216 < nn) ∨
      (inOrdS l = true ∧ 0 ≤ st ∧ st ≤ 1099511627776 ∧ 0 ≤ nn ∧ nn ≤ 16777216 ∧ i < 0) ∨ (inOrdS l = true ∧ 0 ≤ st ∧ st ≤ 1099511627776 ∧ 0 ≤ nn ∧ nn ≤ 16777216 ∧ 0 ≤ i ∧ 1048576 < i) ∨
      (inOrdS l = true ∧ 0 ≤ st ∧ st ≤ 1099511627776 ∧ 0 ≤ nn ∧ nn ≤ 16777216 ∧ 0 ≤ i ∧ i ≤ 1048576 ∧ o < 0) ∨ (inOrdS l = true ∧ 0 ≤ st ∧ st ≤ 1099511627776 ∧ 0 ≤ nn ∧ nn ≤ 16777216 ∧ 0 ≤ i ∧ i ≤ 1048576 ∧ 0 ≤ o ∧ 1048576 < o) := by
    unfold LayOk at hb
    by_cases h1 : inOrdS l = true
    · right; simp only [h1, true_and] at hb ⊢; omega
    · left; simpa using h1
  clear hb
  obtain ⟨bb, hbb⟩ : ∃ bb, inOrdS l = bb := ⟨_, rfl⟩
  rw [hbb] at C hc
  clear hbb
  rcases hc with rfl | ⟨rfl, h1⟩ | ⟨rfl, h1, h2⟩ | ⟨rfl, h1, h2, h3⟩ | ⟨rfl, h1, h2, h3, h4⟩ | ⟨rfl, h1, h2, h3, h4, h5⟩ | ⟨rfl, h1, h2, h3, h4, h5, h6⟩ | ⟨rfl, h1, h2, h3, h4, h5, h6, h7⟩ | ⟨rfl, h1, h2, h3, h4, h5, h6, h7, h8⟩
  all_goals
    go_enter Try.func11, Try.ntmps11
    go_wp2_with (go_at_call 18; refine C.mono ?_; rintro e w1 ⟨rfl, hh⟩)
    go_ret2
    exact ⟨none, 0, 0, by rw [HR.out]; rfl, by rw [HR.out]; exact OA.nil _ _ _, hh⟩
end Go.Proofs.Yteconepbhajjeaa
