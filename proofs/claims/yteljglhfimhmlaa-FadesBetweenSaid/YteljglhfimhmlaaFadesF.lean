/- Package fades (layer 27), sixth part: In, Out, Cross. -/
import Derived.Test.YteljglhfimhmlaaFadesE
import Derived.Deep.RegionHeld3
namespace Go.Proofs.Yteljglhfimhmlaa
open Go.RowKit

theorem fadeL_in (m : Nat) (l : List Int) : ∀ k, k ≤ l.length → fadeL (fun i => i) m l (List.range k) = upd (fun j x => mulS x (gainS j m)) k l
  | 0, _ => (upd_zero _ _).symm
  | k + 1, h => by
    rw [List.range_succ, fadeL_snoc, fadeL_in m l k (by omega), ← upd_succ (fun j x => mulS x (gainS j m)) (by omega)]
    rfl
theorem fadeL_out (m : Nat) (l : List Int) : ∀ k, k ≤ l.length → fadeL (fun i => l.length - 1 - i) m l (List.range k) = updR (fun j x => mulS x (gainS (l.length - 1 - j : Nat) m)) k l
  | 0, _ => (updR_zero _ _).symm
  | k + 1, h => by
    rw [List.range_succ, fadeL_snoc, fadeL_out m l k (by omega), ← updR_succ (fun j x => mulS x (gainS (l.length - 1 - j : Nat) m)) (by omega)]
    unfold fadeStep
    dsimp only
    rw [show l.length - 1 - (l.length - 1 - k) = k by omega]

/-- What is handed back: a slice of the call's own that reads as xs. -/
def RetOwn (w : World) (xs : List Int) (e : Ending) (w' : World) : Prop :=
  ∃ g, e = .returned (.tuple #[.slice (some ⟨g, 0, none⟩) xs.length xs.length, .int .i64 0]) ∧ w.heap.size ≤ g ∧ Blk w' g 3 (xs.map vint).toArray ∧ Below w.heap.size w w'

theorem in_ok (A : Option Addr) (n c m : Nat) (l : List Int) (w : World) (h : SL w A n c l) (hr : rightB n m = true) :
    Calls Try.prog 40 #[.slice A n c, .int .i64 m] w (RetOwn w (fadeInS l m)) := by
  have hm : m ≤ l.length := by have := h.n_eq; unfold rightB at hr; simp at hr; omega
  have hn := h.n_eq
  refine Calls.mono (R := fun e w' => ∃ g, e = .returned (.tuple #[.slice (some ⟨g, 0, none⟩) n n, .int .i64 0]) ∧ w.heap.size ≤ g ∧ Blk w' g 3 ((fadeInS l m).map vint).toArray ∧ Below w.heap.size w w') ?_ (fun e w' h => by unfold RetOwn; rw [show (fadeInS l m).length = n by rw [fadeInS, upd_len, hn]]; exact h)
  have C := faded_in A n c m l w h hr
  rw [fadeL_in m l m hm] at C
  have HC := Lib.hid C
  clear C hn
  go_enter Try.func40, Try.ntmps40
  go_wp2_with (go_at_call 65; refine (HC.out).mono ?_; rintro e w' ⟨g, rfl, hg, hb, hbel⟩)
  go_ret2
  exact ⟨g, rfl, hg, hb, hbel⟩
theorem in_bad (A : Option Addr) (n c : Nat) (m : Int) (l : List Int) (w : World) (h : SL w A n c l) (hr : rightB n m = false) :
    Calls Try.prog 40 #[.slice A n c, .int .i64 m] w fun e w' => e = .returned (.tuple #[.slice none 0 0, .int .i64 1]) ∧ Below w.heap.size w w' := by
  have HC := Lib.hid (faded_bad A n c l m (.func 66) #[] w h hr)
  go_enter Try.func40, Try.ntmps40
  go_wp2_with (go_at_call 65; refine (HC.out).mono ?_; rintro e w' ⟨rfl, hbel⟩)
  go_ret2
  exact ⟨rfl, hbel⟩
theorem out_ok (A : Option Addr) (n c m : Nat) (l : List Int) (w : World) (h : SL w A n c l) (hr : rightB n m = true) :
    Calls Try.prog 42 #[.slice A n c, .int .i64 m] w (RetOwn w (fadeOutS l m)) := by
  have hm : m ≤ l.length := by have := h.n_eq; unfold rightB at hr; simp at hr; omega
  have hn := h.n_eq
  have hB : Below w.heap.size w (w.alloc (.cells #[.slice A n c] 26)) := (Below.refl _ w).alloc (Nat.le_refl _) _
  refine Calls.mono (R := fun e w' => ∃ g, e = .returned (.tuple #[.slice (some ⟨g, 0, none⟩) n n, .int .i64 0]) ∧ w.heap.size ≤ g ∧ Blk w' g 3 ((fadeOutS l m).map vint).toArray ∧ Below w.heap.size w w') ?_ (fun e w' h => by unfold RetOwn; rw [show (fadeOutS l m).length = n by rw [fadeOutS, updR_len, hn]]; exact h)
  have C := faded_out A n c m w.heap.size l (w.alloc (.cells #[.slice A n c] 26)) (by simp [go_sem]) (h.below hB) hr
  rw [fadeL_out m l m hm] at C
  have HC := Lib.hid C
  have HN := Lib.hid hn
  clear C hn
  go_enter Try.func42, Try.ntmps42
  go_wp2_with (go_at_call 65; refine (HC.out).mono ?_; rintro e w' ⟨g, rfl, hg, hb, hbel⟩)
  go_ret2
  exact ⟨g, rfl, by simp at hg; omega, hb, hB.trans (hbel.mono (by simp))⟩
theorem out_bad (A : Option Addr) (n c : Nat) (m : Int) (l : List Int) (w : World) (h : SL w A n c l) (hr : rightB n m = false) :
    Calls Try.prog 42 #[.slice A n c, .int .i64 m] w fun e w' => e = .returned (.tuple #[.slice none 0 0, .int .i64 1]) ∧ Below w.heap.size w w' := by
  have hB : Below w.heap.size w (w.alloc (.cells #[.slice A n c] 26)) := (Below.refl _ w).alloc (Nat.le_refl _) _
  have HC := Lib.hid (faded_bad A n c l m (.func 68) #[.pointer (some ⟨w.heap.size, 0, none⟩)] (w.alloc (.cells #[.slice A n c] 26)) (h.below hB) hr)
  go_enter Try.func42, Try.ntmps42
  go_wp2_with (go_at_call 65; refine (HC.out).mono ?_; rintro e w' ⟨rfl, hbel⟩)
  go_ret2
  exact ⟨rfl, hB.trans (hbel.mono (by simp))⟩

theorem sl_of_own {w : World} {g : Nat} {xs : List Int} (h : Blk w g 3 (xs.map vint).toArray) (hm : xs.length ≤ 67108864) (hf : ∀ x ∈ xs, I64 x) : SL w (some ⟨g, 0, none⟩) xs.length xs.length xs :=
  h.sl (by simp [maxLen]; omega) hf
theorem upd_mem {F : Nat → Int → Int} {k : Nat} {l : List Int} (hF : ∀ j x, I64 (F j x)) (hl : ∀ x ∈ l, I64 x) : ∀ x ∈ upd F k l, I64 x := by
  intro x hx
  simp only [upd, List.mem_mapIdx] at hx
  obtain ⟨j, hj, rfl⟩ := hx
  split
  · exact hF _ _
  · exact hl _ (List.getElem_mem hj)
theorem updR_mem {F : Nat → Int → Int} {k : Nat} {l : List Int} (hF : ∀ j x, I64 (F j x)) (hl : ∀ x ∈ l, I64 x) : ∀ x ∈ updR F k l, I64 x := by
  intro x hx
  simp only [updR, List.mem_mapIdx] at hx
  obtain ⟨j, hj, rfl⟩ := hx
  split
  · exact hF _ _
  · exact hl _ (List.getElem_mem hj)
theorem I64_clipS (x : Int) : I64 (clipS x) := by have := clipS_bd x; exact ⟨by omega, by omega⟩
theorem fadeInS_i64 {l : List Int} {m : Nat} (hl : ∀ x ∈ l, I64 x) : ∀ x ∈ fadeInS l m, I64 x := upd_mem (fun _ _ => I64_clipS _) hl
theorem fadeOutS_i64 {l : List Int} {m : Nat} (hl : ∀ x ∈ l, I64 x) : ∀ x ∈ fadeOutS l m, I64 x := updR_mem (fun _ _ => I64_clipS _) hl
end Go.Proofs.Yteljglhfimhmlaa
