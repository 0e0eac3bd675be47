/- A store inside a fence (trial). -/
import Derived.Test.YteconepbhajjeaaOvC
import Derived.Test.YteconepbhajjeaaAppend
namespace Go.Proofs.Yteconepbhajjeaa
open Go.RowKit Go.Shelf
attribute [local go_sem] Oper.semAt_some
/-- A store whose cell is known, inside a fence. -/
theorem wpListIn_store_eq {F : Fence} {n : Nat} {P : Program} {w : World} {ops : Array Oper} {rest : List Oper} {o : Oper} {a : Act} {Q : Exit → Act → World → Prop} {p : Addr} {v : Value}
    (hg : o.guard = none) (s x : Operand) (t : TypeId) (hop : o.op = .store t s x) (hs : a.eval s = .pointer (some p)) (hx : a.eval x = v)
    (hrun : (execOp a.eval o).run P w = .ok .skip (w.setCell p v)) (h : wpListIn F n P ops Q rest (a.put o.dst undef) (w.setCell p v)) : wpListIn F n P ops Q (o :: rest) a w := by
  refine wpListIn_plain hg fun K hK' => ?_
  unfold Oper.wpIn
  refine ⟨?_, ?_⟩
  · simp [Oper.about, hop]
  · rw [Oper.semAt_eq _ _ _ (by rw [hop]; intro c hc'; cases hc')]
    rw [hrun]
    exact hK' _ _ h
theorem wpListIn_store_cell {F : Fence} {n : Nat} {P : Program} {w : World} {ops : Array Oper} {rest : List Oper} {o : Oper} {a : Act} {Q : Exit → Act → World → Prop} {p : Addr} {v old : Value}
    (hg : o.guard = none) (s x : Operand) (t : TypeId) (hop : o.op = .store t s x) (hs : a.eval s = .pointer (some p)) (hx : a.eval x = v) (h1 : ∃ A n c, v = .slice A n c) (hc : w.cell? p = some old) (hf : w.frozen? p = false) (hz : (sizeOf t).run P w = .ok 1 w)
    (h : wpListIn F n P ops Q rest (a.put o.dst undef) (w.setCell p v)) : wpListIn F n P ops Q (o :: rest) a w := by
  refine wpListIn_store_eq hg s x t hop hs hx ?_ h
  obtain ⟨A, m, c, rfl⟩ := h1
  unfold execOp
  simp only [hop, hs, hx]
  simp [go_sem, storeCells, hc, hf, hz]
theorem size_laids (w : World) : (sizeOf 24).run Try.prog w = .ok 1 w := by
  simp [go_sem]
end Go.Proofs.Yteconepbhajjeaa
