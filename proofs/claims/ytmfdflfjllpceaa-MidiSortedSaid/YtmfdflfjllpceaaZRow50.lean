/- The structs of layer 50 as elements of slices that came in. -/
import Derived.Test.YtmfdflfjllpceaaZRow
import Derived.Test.YtmfdflfjllpceaaZMvG
import Derived.Test.YtmfdflfjllpceaaZTmA
namespace Go.Proofs.Ytmfdflfjllpceaa
open Go.RowKit Go.ChangeShapes Go.WideShapes

/-- Events whose numbers are ints, by their cells. -/
def evES : Enc EvS where
  S := evE.S
  E := evE.E
  sz := 6
  bytes := 48
  enc := fun s => evE.enc s.1
  pos := evE.pos
  len := fun s => evE.len s.1
  one := fun s => evE.one s.1
  hS := evE.hS
  info := evE.info
  hb := evE.hb
theorem evES_cells : ∀ l : List EvS, evES.cells l = evE.cells (l.map (·.1))
  | [] => rfl
  | x :: l => by
    have := evES_cells l
    unfold Enc.cells at *
    rw [List.map_cons, List.flatMap_cons, List.flatMap_cons, this]
    rfl
theorem SA.evs {w : World} {A : Option Addr} {n c : Nat} {l : List EvS} (h : SA evES w A n c l) : SA evE w A n c (l.map (·.1)) ∧ ∀ e ∈ l.map (·.1), EvI e := by
  obtain ⟨h1, h2, h3, h4⟩ := h
  refine ⟨⟨by rw [List.length_map]; exact h1, h2, h3, by rw [← evES_cells]; exact h4⟩, fun e he => ?_⟩
  obtain ⟨s, _, rfl⟩ := List.mem_map.1 he
  exact s.2
theorem list_of6 {cs : List Value} (h : cs.length = 6) : ∃ a b c d e f, cs = [a, b, c, d, e, f] := by
  match cs, h with
  | [a, b, c, d, e, f], _ => exact ⟨a, b, c, d, e, f, rfl⟩
theorem list_of4 {cs : List Value} (h : cs.length = 4) : ∃ a b c d, cs = [a, b, c, d] := by
  match cs, h with
  | [a, b, c, d], _ => exact ⟨a, b, c, d, rfl⟩
/-- Bytes. -/
abbrev U8 := { x : Int // 0 ≤ x ∧ x ≤ 255 }
theorem u8_info : (Try.prog.info? 5).map (fun i => (i.zero, i.size, i.bytes)) = some (some (.int .u8 0), 1, 1) := by kernel_rfl
def u8E : Enc U8 where
  S := 38
  E := 5
  sz := 1
  bytes := 1
  enc := fun s => [.int .u8 s.1]
  pos := by decide
  len := fun _ => rfl
  one := by simp [Value.oneCell']
  hS := Try.underlying38
  info := by
    obtain ⟨i0, hi, hz0, hz1, hz2⟩ := info_parts u8_info
    exact ⟨i0, _, hi, hz0, hz1, hz2, rfl⟩
  hb := by decide
section
variable {H : Type} {enc : TypeId × Value → H} {w : World}
theorem lt_some {α : Type} {xs : List α} {i n : Nat} (h : xs.length = n) (hi : i < n) : ∃ y, xs[i]? = some y := ⟨xs[i]'(by omega), List.getElem?_eq_getElem (by omega)⟩
theorem fld_int {n : Nat} {cs : List Value} {y : DataW H × List MemPlace} (h : DataW.trod enc Try.prog w 0 (fun _ => true) true n 3 cs = some y) : ∃ x : Int, cs = [.int .i64 x] ∧ I64 x := by
  obtain ⟨x, rfl, _, hw⟩ := DataW.trod_int Try.underlying3 h
  exact ⟨x, rfl, I64.wf hw⟩
theorem fld_bool {n : Nat} {cs : List Value} {y : DataW H × List MemPlace} (h : DataW.trod enc Try.prog w 0 (fun _ => true) true n 4 cs = some y) : ∃ x : Bool, cs = [.bool x] := by
  obtain ⟨x, rfl, _⟩ := DataW.trod_bool Try.underlying4 h
  exact ⟨x, rfl⟩
theorem int_cells : Try.prog.cellsOf 3 = 1 := by kernel_rfl
theorem bool_cells : Try.prog.cellsOf 4 = 1 := by kernel_rfl
theorem ev_elem : ∀ n cs' y, DataW.trod enc Try.prog w 0 (fun _ => true) true n evES.E cs' = some y → ∃ a : EvS, cs' = evES.enc a := by
  intro n cs' y h
  obtain ⟨xs, m, _, rfl, hl, hlen, hf⟩ := DataW.trod_struct Try.underlying40 h
  rw [show Try.prog.cellsOf 40 = 6 by kernel_rfl] at hl
  obtain ⟨a, b, c, d, e, f, rfl⟩ := list_of6 hl
  have hlen5 : xs.length = 6 := hlen
  obtain ⟨y0, h0⟩ := lt_some hlen5 (i := 0) (by omega)
  obtain ⟨y1, h1⟩ := lt_some hlen5 (i := 1) (by omega)
  obtain ⟨y2, h2⟩ := lt_some hlen5 (i := 2) (by omega)
  obtain ⟨y3, h3⟩ := lt_some hlen5 (i := 3) (by omega)
  obtain ⟨y4, h4⟩ := lt_some hlen5 (i := 4) (by omega)
  obtain ⟨y5, h5⟩ := lt_some hlen5 (i := 5) (by omega)
  obtain ⟨x0, e0, i0⟩ := fld_int ((hf 0 _ rfl).trans h0)
  obtain ⟨x1, e1, i1⟩ := fld_int ((hf 1 _ rfl).trans h1)
  obtain ⟨x2, e2, i2⟩ := fld_int ((hf 2 _ rfl).trans h2)
  obtain ⟨x3, e3, i3⟩ := fld_int ((hf 3 _ rfl).trans h3)
  obtain ⟨x4, e4, i4⟩ := fld_int ((hf 4 _ rfl).trans h4)
  obtain ⟨x5, e5, i5⟩ := fld_int ((hf 5 _ rfl).trans h5)
  simp [int_cells] at e0 e1 e2 e3 e4 e5
  subst e0 e1 e2 e3 e4 e5
  refine ⟨⟨⟨x0, x1, x2, x3, x4, x5⟩, fun z hz => ?_⟩, rfl⟩
  simp only [ekey, List.mem_cons, List.not_mem_nil, or_false] at hz
  rcases hz with rfl | rfl | rfl | rfl | rfl | rfl
  · exact i0
  · exact i1
  · exact i2
  · exact i3
  · exact i4
  · exact i5
theorem tm_elem : ∀ n cs' y, DataW.trod enc Try.prog w 0 (fun _ => true) true n tmE.E cs' = some y → ∃ a : Tm, cs' = tmE.enc a := by
  intro n cs' y h
  obtain ⟨xs, m, _, rfl, hl, hlen, hf⟩ := DataW.trod_struct Try.underlying53 h
  rw [show Try.prog.cellsOf 53 = 4 by kernel_rfl] at hl
  obtain ⟨a, b, c, d, rfl⟩ := list_of4 hl
  have hlen5 : xs.length = 4 := hlen
  obtain ⟨y0, h0⟩ := lt_some hlen5 (i := 0) (by omega)
  obtain ⟨y1, h1⟩ := lt_some hlen5 (i := 1) (by omega)
  obtain ⟨y2, h2⟩ := lt_some hlen5 (i := 2) (by omega)
  obtain ⟨y3, h3⟩ := lt_some hlen5 (i := 3) (by omega)
  obtain ⟨x0, e0, _⟩ := fld_int ((hf 0 _ rfl).trans h0)
  obtain ⟨x1, e1, _⟩ := fld_int ((hf 1 _ rfl).trans h1)
  obtain ⟨x2, e2, _⟩ := fld_int ((hf 2 _ rfl).trans h2)
  obtain ⟨x3, e3⟩ := fld_bool ((hf 3 _ rfl).trans h3)
  simp [int_cells, bool_cells] at e0 e1 e2 e3
  subst e0 e1 e2 e3
  exact ⟨⟨x0, x1, x2, x3⟩, rfl⟩
theorem u8_elem : ∀ n cs' y, DataW.trod enc Try.prog w 0 (fun _ => true) true n u8E.E cs' = some y → ∃ a : U8, cs' = u8E.enc a := by
  intro n cs' y h
  obtain ⟨x, rfl, _, hw⟩ := DataW.trod_int Try.underlying5 h
  have := bounds_u8 hw
  exact ⟨⟨x, by omega⟩, rfl⟩
end
end Go.Proofs.Ytmfdflfjllpceaa
