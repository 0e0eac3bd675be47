/- An array of 32 bytes that came in. -/
import Derived.Test.YteconepbhajjeaaRow44
import Derived.Test.YteconepbhajjeaaCSame
import Derived.OpenShut
namespace Go.Proofs.Yteconepbhajjeaa
open Go.RowKit Go.ChangeShapes Go.WideShapes

theorem okWide_array_agg {w : World} {r : Reach} {base n : Nat} {t e : TypeId} {v : Value} (ht : Try.prog.underlying t = some (.array n e)) (h : Value.okWide Try.prog w r base t v) : ∃ cs, v = .agg cs := by
  simp only [Value.okWide, ht] at h
  obtain ⟨cs, h1, _⟩ := h
  exact ⟨cs, h1⟩
theorem u8_cells : Try.prog.cellsOf 5 = 1 := by kernel_rfl
theorem dig_of_trod {H : Type} {enc : TypeId × Value → H} {w : World} {fuel : Nat} {cs : Array Value} {x : DataW H × List MemPlace}
    (h : DataW.trod enc Try.prog w 0 (fun _ => true) true fuel 34 (Value.agg cs).cells.toList = some x) : ∃ b : Nat → Int, cs = digA b := by
  obtain ⟨xs, m, _, _, hl, hlen, hf⟩ := DataW.trod_array Try.underlying34 h
  rw [show Try.prog.cellsOf 34 = 32 by kernel_rfl] at hl
  simp only [Value.cells] at hl hf
  rw [u8_cells] at hf
  have hel : ∀ i, i < 32 → ∃ y : Int, cs.toList[i]? = some (.int .u8 y) := by
    intro i hi
    obtain ⟨y, hy⟩ : ∃ y, xs[i]? = some y := ⟨xs[i]'(by omega), List.getElem?_eq_getElem (by omega)⟩
    have h1 := (hf i (by omega)).trans hy
    rw [Nat.mul_one] at h1
    obtain ⟨n, hn, _⟩ := DataW.trod_int Try.underlying5 h1
    have h2 : ((cs.toList.drop i).take 1)[0]? = some (.int .u8 n) := by rw [hn]; rfl
    rw [List.getElem?_take, if_pos (by omega), List.getElem?_drop, Nat.add_zero] at h2
    exact ⟨n, h2⟩
  refine ⟨fun i => match cs.toList[i]? with | some (.int _ y) => y | _ => 0, ?_⟩
  apply Array.ext'
  have e : ∀ b, (digA b).toList = (List.range 32).map fun j => Value.int .u8 (b j) := fun _ => rfl
  rw [e]
  apply List.ext_getElem?
  intro i
  by_cases hi : i < 32
  · obtain ⟨y, hy⟩ := hel i hi
    rw [hy, List.getElem?_map, List.getElem?_range hi, Option.map_some, hy]
  · rw [List.getElem?_eq_none (by rw [hl]; omega), List.getElem?_eq_none (by simp; omega)]
end Go.Proofs.Yteconepbhajjeaa
