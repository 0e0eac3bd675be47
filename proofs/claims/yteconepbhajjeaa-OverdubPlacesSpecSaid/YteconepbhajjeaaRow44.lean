/- The structs of layer 44 as elements of slices that came in. -/
import Derived.Test.YteconepbhajjeaaRow
import Derived.Test.YteconepbhajjeaaOvA
namespace Go.Proofs.Yteconepbhajjeaa
open Go.RowKit Go.ChangeShapes Go.WideShapes

theorem list_of5 {cs : List Value} (h : cs.length = 5) : ∃ a b c d e, cs = [a, b, c, d, e] := by
  match cs, h with
  | [a, b, c, d, e], _ => exact ⟨a, b, c, d, e, rfl⟩
theorem list_of4 {cs : List Value} (h : cs.length = 4) : ∃ a b c d, cs = [a, b, c, d] := by
  match cs, h with
  | [a, b, c, d], _ => exact ⟨a, b, c, d, rfl⟩
section
variable {H : Type} {enc : TypeId × Value → H} {w : World}
theorem lt_some {α : Type} {xs : List α} {i n : Nat} (h : xs.length = n) (hi : i < n) : ∃ y, xs[i]? = some y := ⟨xs[i]'(by omega), List.getElem?_eq_getElem (by omega)⟩
theorem fld_int {n : Nat} {cs : List Value} {y : DataW H × List MemPlace} (h : DataW.trod enc Try.prog w 0 (fun _ => true) true n 3 cs = some y) : ∃ x : Int, cs = [.int .i64 x] := by
  obtain ⟨x, rfl, _⟩ := DataW.trod_int Try.underlying3 h
  exact ⟨x, rfl⟩
theorem fld_bool {n : Nat} {cs : List Value} {y : DataW H × List MemPlace} (h : DataW.trod enc Try.prog w 0 (fun _ => true) true n 4 cs = some y) : ∃ x : Bool, cs = [.bool x] := by
  obtain ⟨x, rfl, _⟩ := DataW.trod_bool Try.underlying4 h
  exact ⟨x, rfl⟩
theorem int_cells : Try.prog.cellsOf 3 = 1 := by kernel_rfl
theorem bool_cells : Try.prog.cellsOf 4 = 1 := by kernel_rfl
theorem span_elem : ∀ n cs' y, DataW.trod enc Try.prog w 0 (fun _ => true) true n spanE.E cs' = some y → ∃ a : Spn, cs' = spanE.enc a := by
  intro n cs' y h
  obtain ⟨xs, m, _, rfl, hl, hlen, hf⟩ := DataW.trod_struct Try.underlying50 h
  rw [show Try.prog.cellsOf 50 = 5 by kernel_rfl] at hl
  obtain ⟨a, b, c, d, e, rfl⟩ := list_of5 hl
  have hlen5 : xs.length = 5 := hlen
  obtain ⟨y0, h0⟩ := lt_some hlen5 (i := 0) (by omega)
  obtain ⟨y1, h1⟩ := lt_some hlen5 (i := 1) (by omega)
  obtain ⟨y2, h2⟩ := lt_some hlen5 (i := 2) (by omega)
  obtain ⟨y3, h3⟩ := lt_some hlen5 (i := 3) (by omega)
  obtain ⟨y4, h4⟩ := lt_some hlen5 (i := 4) (by omega)
  obtain ⟨x0, e0⟩ := fld_int ((hf 0 _ rfl).trans h0)
  obtain ⟨x1, e1⟩ := fld_int ((hf 1 _ rfl).trans h1)
  obtain ⟨x2, e2⟩ := fld_int ((hf 2 _ rfl).trans h2)
  obtain ⟨x3, e3⟩ := fld_bool ((hf 3 _ rfl).trans h3)
  obtain ⟨x4, e4⟩ := fld_bool ((hf 4 _ rfl).trans h4)
  simp [int_cells, bool_cells] at e0 e1 e2 e3 e4
  subst e0 e1 e2 e3 e4
  exact ⟨⟨x0, x1, x2, x3, x4⟩, rfl⟩
theorem rcd_elem : ∀ n cs' y, DataW.trod enc Try.prog w 0 (fun _ => true) true n rcdE.E cs' = some y → ∃ a : Rcd, cs' = rcdE.enc a := by
  intro n cs' y h
  obtain ⟨xs, m, _, rfl, hl, hlen, hf⟩ := DataW.trod_struct Try.underlying62 h
  rw [show Try.prog.cellsOf 62 = 5 by kernel_rfl] at hl
  obtain ⟨a, b, c, d, e, rfl⟩ := list_of5 hl
  have hlen5 : xs.length = 5 := hlen
  obtain ⟨y0, h0⟩ := lt_some hlen5 (i := 0) (by omega)
  obtain ⟨y1, h1⟩ := lt_some hlen5 (i := 1) (by omega)
  obtain ⟨y2, h2⟩ := lt_some hlen5 (i := 2) (by omega)
  obtain ⟨y3, h3⟩ := lt_some hlen5 (i := 3) (by omega)
  obtain ⟨y4, h4⟩ := lt_some hlen5 (i := 4) (by omega)
  obtain ⟨x0, e0⟩ := fld_int ((hf 0 _ rfl).trans h0)
  obtain ⟨x1, e1⟩ := fld_int ((hf 1 _ rfl).trans h1)
  obtain ⟨x2, e2⟩ := fld_int ((hf 2 _ rfl).trans h2)
  obtain ⟨x3, e3⟩ := fld_int ((hf 3 _ rfl).trans h3)
  obtain ⟨x4, e4⟩ := fld_int ((hf 4 _ rfl).trans h4)
  simp [int_cells] at e0 e1 e2 e3 e4
  subst e0 e1 e2 e3 e4
  exact ⟨⟨x0, x1, x2, x3, x4⟩, rfl⟩
theorem laid_elem : ∀ n cs' y, DataW.trod enc Try.prog w 0 (fun _ => true) true n laidE.E cs' = some y → ∃ a : Ld, cs' = laidE.enc a := by
  intro n cs' y h
  obtain ⟨xs, m, _, rfl, hl, hlen, hf⟩ := DataW.trod_struct Try.underlying52 h
  rw [show Try.prog.cellsOf 52 = 4 by kernel_rfl] at hl
  obtain ⟨a, b, c, d, rfl⟩ := list_of4 hl
  have hlen4 : xs.length = 4 := hlen
  obtain ⟨y0, h0⟩ := lt_some hlen4 (i := 0) (by omega)
  obtain ⟨y1, h1⟩ := lt_some hlen4 (i := 1) (by omega)
  obtain ⟨y2, h2⟩ := lt_some hlen4 (i := 2) (by omega)
  obtain ⟨y3, h3⟩ := lt_some hlen4 (i := 3) (by omega)
  obtain ⟨x0, e0⟩ := fld_int ((hf 0 _ rfl).trans h0)
  obtain ⟨x1, e1⟩ := fld_int ((hf 1 _ rfl).trans h1)
  obtain ⟨x2, e2⟩ := fld_int ((hf 2 _ rfl).trans h2)
  obtain ⟨x3, e3⟩ := fld_int ((hf 3 _ rfl).trans h3)
  simp [int_cells] at e0 e1 e2 e3
  subst e0 e1 e2 e3
  exact ⟨⟨x0, x1, x2, x3⟩, rfl⟩
end
end Go.Proofs.Yteconepbhajjeaa
