/- A slice of structs that came in, opened as a list: over an encoding. -/
import Derived.Test.YtmfdflfjllpceaaZSt
import Derived.Deep.Slices
import Derived.Deep.Strs
namespace Go.Proofs.Ytmfdflfjllpceaa
open Go.RowKit Go.ChangeShapes Go.WideShapes

theorem cellsOf_info {t : TypeId} {i : TypeInfo} (h : Try.prog.info? t = some i) : Try.prog.cellsOf t = i.size := by simp [Program.cellsOf, h]
theorem SA.of_trod {α : Type} (e : Enc α) {H : Type} {enc : TypeId × Value → H} {w : World} {fuel : Nat} {A : Option Addr} {len cap : Nat} {x : DataW H × List MemPlace}
    (helem : ∀ n cs' y, DataW.trod enc Try.prog w 0 (fun _ => true) true n e.E cs' = some y → ∃ a : α, cs' = e.enc a)
    (h : DataW.trod enc Try.prog w 0 (fun _ => true) true fuel e.S (Value.slice A len cap).cells.toList = some x) : ∃ l : List α, SA e w A len cap l := by
  have hsz : Try.prog.cellsOf e.E = e.sz := by
    obtain ⟨i, z, hi, _, hs, _⟩ := e.info
    rw [cellsOf_info hi, hs]
  rcases Go.Deep.open_slice e.hS h with ⟨hcs, _⟩ | ⟨a, l, c, m, n, D, Pl, hcs, hb, hl, hm, hmm, _, hel⟩
  · simp [Value.cells] at hcs
    obtain ⟨rfl, rfl, rfl⟩ := hcs
    exact ⟨[], SA.nil⟩
  · simp at hmm
    subst hmm
    simp [Value.cells] at hcs
    obtain ⟨rfl, rfl, rfl⟩ := hcs
    rw [hsz] at hel
    have hel2 : ∀ i, i < cap → ∃ y : α, w.cells? 0 (a.add (i * e.sz)) e.sz = some (e.enc y) := by
      intro i hi
      obtain ⟨cs', h1, h2⟩ := hel i hi
      obtain ⟨y, rfl⟩ := helem _ _ _ h2
      exact ⟨y, h1⟩
    have key : ∀ k, k ≤ len → ∃ L : List α, L.length = k ∧ ∀ i y, L[i]? = some y → w.cells? 0 (a.add (i * e.sz)) e.sz = some (e.enc y) := by
      intro k
      induction k with
      | zero => intro _; exact ⟨[], rfl, fun i y hy => by simp at hy⟩
      | succ k ih =>
        intro hk
        obtain ⟨L, hL, hc⟩ := ih (by omega)
        obtain ⟨y, hy⟩ := hel2 k (by omega)
        refine ⟨L ++ [y], by simp [hL], fun i z hz => ?_⟩
        by_cases hi : i < L.length
        · rw [List.getElem?_append_left hi] at hz; exact hc i z hz
        · have hik : i = k := by
            have := (List.getElem?_eq_some_iff.1 hz).1
            simp at this; omega
          subst hik
          rw [List.getElem?_append_right (by omega), hL, Nat.sub_self] at hz
          simp at hz
          subst hz
          exact hy
    obtain ⟨L, hL, hc⟩ := key len (Nat.le_refl _)
    refine ⟨L, hL, hl, hm, by rw [e.cells_len, hL], fun hp => ?_⟩
    obtain ⟨bb, o, s⟩ := a
    have h0 := World.cells?_some (hc 0 L[0] (List.getElem?_eq_getElem (by omega)))
    have hc0 := h0.2.2 0 e.pos
    have hs : s = none := by
      have hz : (e.enc L[0])[0]? ≠ none := by rw [ne_eq, List.getElem?_eq_none_iff, e.len]; have := e.pos; omega
      cases hv : (e.enc L[0])[0]? with
      | none => exact absurd hv hz
      | some v => rw [hv] at hc0; simpa [Addr.add] using World.cell?_spot hc0
    subst hs
    have hcell : ∀ i (hi : i < L.length) r v, (e.enc L[i])[r]? = some v → w.cell? ⟨bb, o + (i * e.sz + r), none⟩ = some v := by
      intro i hi r v hv
      have h1 := World.cells?_some (hc i L[i] (List.getElem?_eq_getElem hi))
      have hr := e.lt hv
      have h2 := h1.2.2 r hr
      rw [hv, add_off, add_off] at h2
      rw [← Nat.add_assoc]
      exact h2
    have hfirst : w.cell? ⟨bb, o + (0 * e.sz + 0), none⟩ = some ((e.enc (L[0]'(by omega)))[0]'(by rw [e.len]; exact e.pos)) := hcell 0 (by omega) 0 _ (List.getElem?_eq_getElem (by rw [e.len]; exact e.pos))
    refine ⟨bb, o, rfl, lt_of_cell hfirst, fun j u hu => ?_⟩
    have hj : j < L.length * e.sz := by
      have := (List.getElem?_eq_some_iff.1 hu).1
      rwa [e.cells_len] at this
    have hpos := e.pos
    have hq : j / e.sz < L.length := Nat.div_lt_of_lt_mul (by rwa [Nat.mul_comm] at hj)
    have hr : j % e.sz < e.sz := Nat.mod_lt _ hpos
    have hjq : j = j / e.sz * e.sz + j % e.sz := by rw [Nat.mul_comm]; exact (Nat.div_add_mod j e.sz).symm
    rw [hjq] at hu ⊢
    rw [e.cells_get hq hr] at hu
    exact hcell _ hq _ _ hu
end Go.Proofs.Ytmfdflfjllpceaa
