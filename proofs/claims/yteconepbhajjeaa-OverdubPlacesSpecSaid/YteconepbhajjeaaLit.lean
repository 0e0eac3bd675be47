/- Literal slices as arguments; facts carried over a step. -/
import Derived.Test.YteconepbhajjeaaAppend
namespace Go.Proofs.Yteconepbhajjeaa
open Go.RowKit

/-- A slice and a code are handed back: the slice reads as r. -/
def RetS (w : World) (r : List Int) (k : Int) (e : Ending) (w' : World) : Prop :=
  ∃ A n c, e = .returned (.tuple #[.slice A n c, .int .i64 k]) ∧ SL w' A n c r ∧ Below w.heap.size w w'
section
variable {w w' : World} {A : Option Addr} {n c : Nat} {l : List Int} {o o' : Obj}
theorem SL.alloc (h : SL w A n c l) (o : Obj) : SL (w.alloc o) A n c l := h.below ((Below.refl _ w).alloc (Nat.le_refl _) _)
theorem SL.lit' (w : World) (l : List Int) {n : Nat} (cs : Array Value) (hn : l.length = n) (hcs : cs = (l.map vint).toArray) (hm : n ≤ 1000000) (hf : ∀ x ∈ l, I64 x) :
    SL (w.alloc (.cells cs 3)) (some ⟨w.heap.size, 0, none⟩) n n l := by
  subst hn
  exact SL.lit w 3 l cs hcs (by simp [maxLen]; omega) hf
theorem SL.litA (w : World) (l : List Int) {n : Nat} (cs : Array Value) (o : Obj) (hn : l.length = n) (hcs : cs = (l.map vint).toArray) (hm : n ≤ 1000000) (hf : ∀ x ∈ l, I64 x) :
    SL ((w.alloc (.cells cs 3)).alloc o) (some ⟨w.heap.size, 0, none⟩) n n l := (SL.lit' w l cs hn hcs hm hf).alloc o
theorem SL.lit2 (w : World) (l : List Int) {n : Nat} (cs : Array Value) (o : Obj) (hn : l.length = n) (hcs : cs = (l.map vint).toArray) (hm : n ≤ 1000000) (hf : ∀ x ∈ l, I64 x) :
    SL ((w.alloc o).alloc (.cells cs 3)) (some ⟨w.heap.size + 1, 0, none⟩) n n l := by
  have := SL.lit' (w.alloc o) l cs hn hcs hm hf
  simpa using this
theorem SL.on1 (h : SL w A n c l) (hb : Below (w.alloc o).heap.size (w.alloc o) w') : SL w' A n c l := (h.alloc o).below hb
theorem SL.on2 (h : SL w A n c l) (hb : Below ((w.alloc o).alloc o').heap.size ((w.alloc o).alloc o') w') : SL w' A n c l := ((h.alloc o).alloc o').below hb
theorem bstep0 {B : Nat} {w0 : World} (h : Below B w0 w) (hB : B ≤ w.heap.size) (k : Below w.heap.size w w') : Below B w0 w' := h.trans (k.mono hB)
theorem Bel.on0 {w0 : World} (h : Below w0.heap.size w0 w) (k : Below w.heap.size w w') : Below w0.heap.size w0 w' := h.trans (k.mono h.size)
theorem Bel.al {w0 : World} (h : Below w0.heap.size w0 w) (o : Obj) : Below w0.heap.size w0 (w.alloc o) := h.alloc h.size o
theorem Bel.on1 {w0 : World} (h : Below w0.heap.size w0 w) (k : Below (w.alloc o).heap.size (w.alloc o) w') : Below w0.heap.size w0 w' := Bel.on0 (Bel.al h o) k
theorem Bel.on2 {w0 : World} (h : Below w0.heap.size w0 w) (k : Below ((w.alloc o).alloc o').heap.size ((w.alloc o).alloc o') w') : Below w0.heap.size w0 w' := Bel.on0 (Bel.al (Bel.al h o) o') k
theorem small_i64 {l : List Int} (h : ∀ x ∈ l, -1000000000000 ≤ x ∧ x ≤ 1000000000000) : ∀ x ∈ l, I64 x := fun x hx => by have := h x hx; exact ⟨by omega, by omega⟩
end
end Go.Proofs.Yteconepbhajjeaa
