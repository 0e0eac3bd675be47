/- Slices of ints: cuts, appends; what is yielded in every later world ('Ext'), for regions that draw their order. -/
import Derived.Test.YteconepbhajjeaaMem
namespace Go.Proofs.Yteconepbhajjeaa
open Go.RowKit

theorem add_off (b o n : Nat) : (⟨b, o, none⟩ : Addr).add n = ⟨b, o + n, none⟩ := by
  unfold Addr.add; split
  · rename_i h; simp [h]
  · rfl
theorem RD.cut {w : World} {sz n : Nat} {A : Option Addr} {xs : List Value} (h : RD w sz A n xs) {lo hi c : Nat} (h1 : lo ≤ hi) (h2 : hi ≤ n) (hc : n ≤ c) :
    RD w sz (if c = lo then A else A.map (·.add (lo * sz))) (hi - lo) ((xs.take (hi * sz)).drop (lo * sz)) := by
  have hle : hi * sz ≤ n * sz := Nat.mul_le_mul_right _ h2
  refine ⟨by simp only [List.length_drop, List.length_take, h.1, Nat.sub_mul]; omega, fun hp => ?_⟩
  obtain ⟨b, o, rfl, hb, hcell⟩ := h.2 (by omega)
  rw [if_neg (by omega)]
  refine ⟨b, o + lo * sz, by simp [add_off], hb, fun j u hu => ?_⟩
  rw [Nat.add_assoc]
  refine hcell _ u ?_
  rw [List.getElem?_drop, List.getElem?_take] at hu
  split at hu
  · exact hu
  · cases hu
theorem drop_take_map (l : List Int) (lo hi : Nat) : ((l.map vint).take (hi * 1)).drop (lo * 1) = ((l.take hi).drop lo).map vint := by
  simp [List.map_drop, List.map_take]
section
variable {w : World} {A : Option Addr} {n c : Nat} {l : List Int}
/-- s[i:j] -/
theorem SL.cut (h : SL w A n c l) {i j : Int} {lo hi m : Nat} (ei : i = lo) (ej : j = hi) (h1 : lo ≤ hi) (h2 : hi ≤ n) (em : m = hi - lo) :
    ∃ A' c', (∀ W, (Instr.slice 38 (.slice A n c) (some (.int .i64 i)) (some (.int .i64 j)) none).run Try.prog W = .ok (.slice A' m c') W) ∧ SL w A' m c' ((l.take hi).drop lo) := by
  have hc := h.le
  have hu := Try.underlying38
  refine ⟨if c = lo then A else A.map (·.add lo), c - lo, fun W => ?_, ?_⟩
  · subst ei ej em
    simp [Instr.slice, go_sem, Instr.sliceBounds, Instr.sliceBound, show hi ≤ c by omega, h1]
  · obtain ⟨e, _, hm, hf, hr⟩ := h
    subst em
    have := hr.cut (lo := lo) (hi := hi) (c := c) h1 h2 hc
    rw [drop_take_map] at this
    exact ⟨by simp; omega, by omega, by omega, fun x hx => hf x (List.mem_of_mem_take (List.mem_of_mem_drop hx)), by simpa using this⟩
/-- s[i:] -/
theorem SL.cutFrom (h : SL w A n c l) {i : Int} {lo m : Nat} (ei : i = lo) (h1 : lo ≤ n) (em : m = n - lo) :
    ∃ A' c', (∀ W, (Instr.slice 38 (.slice A n c) (some (.int .i64 i)) none none).run Try.prog W = .ok (.slice A' m c') W) ∧ SL w A' m c' (l.drop lo) := by
  have hc := h.le
  have hu := Try.underlying38
  refine ⟨if c = lo then A else A.map (·.add lo), c - lo, fun W => ?_, ?_⟩
  · subst ei em
    simp [Instr.slice, go_sem, Instr.sliceBounds, Instr.sliceBound, h1]
  · obtain ⟨e, _, hm, hf, hr⟩ := h
    subst em
    have := hr.cut (lo := lo) (hi := n) (c := c) h1 (Nat.le_refl _) hc
    rw [drop_take_map, List.take_of_length_le (by omega)] at this
    exact ⟨by simp; omega, by omega, by omega, fun x hx => hf x (List.mem_of_mem_drop hx), by simpa using this⟩
/-- s[:j] -/
theorem SL.cutTo (h : SL w A n c l) {j : Int} {hi : Nat} (ej : j = hi) (h2 : hi ≤ n) :
    ∃ A' c', (∀ W, (Instr.slice 38 (.slice A n c) none (some (.int .i64 j)) none).run Try.prog W = .ok (.slice A' hi c') W) ∧ SL w A' hi c' (l.take hi) := by
  have hc := h.le
  have hu := Try.underlying38
  refine ⟨if c = 0 then A else A.map (·.add 0), c, fun W => ?_, ?_⟩
  · subst ej
    by_cases h0 : c = 0
    · simp [Instr.slice, go_sem, Instr.sliceBounds, Instr.sliceBound, h0, show hi = 0 by omega]
    · simp [Instr.slice, go_sem, Instr.sliceBounds, Instr.sliceBound, show hi ≤ c by omega, h0]
  · obtain ⟨e, _, hm, hf, hr⟩ := h
    have := hr.cut (lo := 0) (hi := hi) (c := c) (Nat.zero_le _) h2 hc
    rw [drop_take_map] at this
    exact ⟨by simp; omega, by omega, by omega, fun x hx => hf x (List.mem_of_mem_take hx), by simpa using this⟩
end

/-- A world that w0 has come to with nothing of the old turned. -/
structure Ext (w0 : World) where
  W : World
  h : Below w0.heap.size w0 W
namespace Ext
variable {P : Program} {f : FuncId} {args : Array Value} {w0 : World} {x : Ext w0} {v : Value}
theorem sl {A : Option Addr} {n c : Nat} {l : List Int} (h : SL w0 A n c l) (x : Ext w0) : SL x.W A n c l := h.below x.h
theorem cell {p : Addr} {v : Value} (h : w0.cell? p = some v) (x : Ext w0) : x.W.cell? p = some v := (x.h.cell (lt_of_cell h)).trans h
theorem quiet (h : Calls P f args x.W fun e w' => e = .returned v ∧ Below x.W.heap.size x.W w') : Calls P f args x.W fun e w'' => e = .returned v ∧ ∃ y : Ext w0, w'' = y.W :=
  h.mono fun _ w' ⟨he, hb⟩ => ⟨he, ⟨w', x.h.trans (hb.mono x.h.size)⟩, rfl⟩
theorem quietS (h : Calls P f args x.W fun e w' => e = .returned v ∧ x.W = w') : Calls P f args x.W fun e w'' => e = .returned v ∧ ∃ y : Ext w0, w'' = y.W :=
  h.mono fun _ w' ⟨he, hb⟩ => ⟨he, x, hb.symm⟩
end Ext
/-- A region that draws its order, whose operations yield one value each in every later world: walked once. -/
theorem wp_region_ext {P : Program} {id : Nat} {Q : Exit → Act → World → Prop} {a : Act} {w : World} {l : List Oper} (hm : P.follows .mixedOrders = true) (hB : Region.lexB .any l.toArray = true)
    (h : wpQuiet P l.toArray (fun w' => ∃ x : Ext w, w' = x.W) (fun a' => ∀ w', (∃ x : Ext w, w' = x.W) → Q .normal a' w') l a) : (Code.region id l.toArray true).wp P Q a w :=
  wp_region_quiet (C := fun w' => ∃ x : Ext w, w' = x.W) hm hB ⟨⟨_, Below.refl _ w |>.drew⟩, rfl⟩ (by simpa using h)
end Go.Proofs.Yteconepbhajjeaa
