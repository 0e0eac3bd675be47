/- Stores of whole elements into a slice that the call owns; clearing its tail. -/
import Derived.Test.YtmfdflfjllpceaaZOwn
import Derived.Laws.IdiomCopy
namespace Go.Proofs.Ytmfdflfjllpceaa
open Go.RowKit

theorem blk_setCells {g : Nat} {t : TypeId} : ∀ (vs : List Value) (o : Nat) {cur : Array Value} {W : World}, Blk W g t cur → o + vs.length ≤ cur.size → Blk (W.setCells g o vs) g t (cur.toList.take o ++ vs ++ cur.toList.drop (o + vs.length)).toArray
  | [], o, cur, W, h, _ => by
    simp only [World.setCells, List.append_nil, List.length_nil, Nat.add_zero, List.take_append_drop, Array.toArray_toList]
    exact h
  | v :: r, o, cur, W, h, hl => by
    rw [List.length_cons] at hl
    have ih := blk_setCells r (o + 1) (h.set_ o v) (by rw [Array.size_setIfInBounds]; omega)
    rw [World.setCells]
    have e : (cur.setIfInBounds o v).toList.take (o + 1) ++ r ++ (cur.setIfInBounds o v).toList.drop (o + 1 + r.length) = cur.toList.take o ++ v :: r ++ cur.toList.drop (o + (v :: r).length) := by
      have hol : o < cur.toList.length := by rw [Array.length_toList]; omega
      rw [Array.toList_setIfInBounds, List.take_set, List.drop_set_of_lt (by omega), List.take_succ_eq_append_getElem hol, List.set_append_right _ _ (by simp; omega)]
      rw [show o - (cur.toList.take o).length = 0 by rw [List.length_take]; omega]
      simp only [List.set_cons_zero, List.append_assoc, List.cons_append, List.nil_append, List.length_cons]
      rw [show o + 1 + r.length = o + (r.length + 1) by omega]
    rw [e] at ih
    exact ih
theorem below_setCells {B g : Nat} (hg : B ≤ g) : ∀ (vs : List Value) (o : Nat) {A W : World}, Below B A W → Below B A (W.setCells g o vs)
  | [], _, _, _, h => h
  | v :: r, o, _, _, h => below_setCells hg r (o + 1) (h.setCell (p := ⟨g, o, none⟩) hg v)
theorem size_setCells {g : Nat} : ∀ (vs : List Value) (o : Nat) (W : World), (W.setCells g o vs).heap.size = W.heap.size
  | [], _, _ => rfl
  | v :: r, o, W => by rw [World.setCells, size_setCells r (o + 1)]; simp [World.setCell]
section
variable {α : Type} {e : Enc α} {W : World} {B n c g k : Nat} {l : List α}
theorem OA.full (h : OA e W B (some ⟨g, 0, none⟩) n c l) : ∃ cur, B ≤ g ∧ (0 < n → Blk W g e.E cur ∧ n ≤ c ∧ c ≤ maxLen ∧ cur.size = c * e.sz ∧ cur.toList.take (n * e.sz) = e.cells l) ∧ (n = 0 → B ≤ g) := by
  by_cases hn : 0 < n
  · obtain ⟨g', cur, e1, hb, hh, h1, h2, h3, h4⟩ := h.pos hn
    injection e1 with e1
    injection e1 with e1
    subst e1
    exact ⟨cur, hb, fun _ => ⟨hh, h1, h2, h3, h4⟩, fun _ => hb⟩
  · have := (h.blk rfl).1
    exact ⟨#[], this, fun h => absurd h hn, fun _ => this⟩
/-- Element k is stored whole. -/
theorem OA.put (h : OA e W B (some ⟨g, 0, none⟩) n c l) (hk : k < n) (y : α) : ∃ W', (∀ L, L = e.enc y → (storeCells ⟨g, k * e.sz, none⟩ L).run Try.prog W = .ok () W') ∧ OA e W' B (some ⟨g, 0, none⟩) n c (l.set k y) ∧ Below B W W' := by
  have hn := h.n_eq
  obtain ⟨cur, hb, hf, _⟩ := h.full
  obtain ⟨hh, h1, h2, h3, h4⟩ := hf (by omega)
  have hkn : (k + 1) * e.sz ≤ n * e.sz := Nat.mul_le_mul_right _ hk
  have hnc : n * e.sz ≤ c * e.sz := Nat.mul_le_mul_right _ h1
  have hk1 : (k + 1) * e.sz = k * e.sz + e.sz := by rw [Nat.add_mul, Nat.one_mul]
  have hlen := e.len y
  have hr := run_storeCells_cells (P := Try.prog) g (k * e.sz) (e.enc y) 0 W (fun j hj => by
    rw [hh.cell, Nat.add_zero, Array.getElem?_eq_getElem (by omega)]; rfl) (fun j _ => hh.frozen _) (e.one y)
  rw [Nat.add_zero] at hr
  have hB := blk_setCells (e.enc y) (k * e.sz) hh (by omega)
  refine ⟨W.setCells g (k * e.sz) (e.enc y), fun L hL => by rw [hL]; exact hr, ⟨⟨by rw [e.cells_len, List.length_set, hn], .inr ⟨g, c, _, rfl, hb, hB, h1, h2, ?_, ?_⟩⟩⟩, below_setCells hb _ _ (Below.refl _ _)⟩
  · simp only [List.size_toArray, List.length_append, List.length_take, List.length_drop, Array.length_toList]; omega
  · rw [List.append_assoc, List.take_append]
    have ht : (cur.toList.take (k * e.sz)).length = k * e.sz := by rw [List.length_take, Array.length_toList]; omega
    rw [ht, List.take_of_length_le (l := cur.toList.take (k * e.sz)) (by rw [ht]; omega), List.take_append, hlen, List.take_of_length_le (l := e.enc y) (by rw [hlen]; omega)]
    have e1 : cur.toList.take (k * e.sz) = e.cells (l.take k) := by
      rw [← e.cells_take, ← h4, List.take_take, Nat.min_eq_left (by omega)]
    have e2 : (cur.toList.drop (k * e.sz + e.sz)).take (n * e.sz - k * e.sz - e.sz) = e.cells (l.drop (k + 1)) := by
      rw [← e.cells_drop, ← h4, List.drop_take, hk1]
      congr 1
      omega
    rw [e1, e2]
    have hkl : k < l.length := by omega
    rw [List.set_eq_take_append_cons_drop, if_pos hkl, show l.take k ++ y :: l.drop (k + 1) = l.take k ++ ([y] ++ l.drop (k + 1)) by rfl, e.cells_append, e.cells_append, e.cells_one]
/-- s[k:] of such a slice. -/
theorem OA.cutFrom' (h : OA e W B (some ⟨g, 0, none⟩) n c l) (hk : k < n) : ∀ W', (Instr.slice e.S (.slice (some ⟨g, 0, none⟩) n c) (some (.int .i64 (k : Int))) none none).run Try.prog W' = .ok (.slice (some ⟨g, k * e.sz, none⟩) (n - k) (c - k)) W' := by
  intro W'
  obtain ⟨cur, hb, hf, _⟩ := h.full
  obtain ⟨hh, h1, h2, h3, h4⟩ := hf (by omega)
  have hu : ∀ W, (underlying e.S).run Try.prog W = .ok (.slice e.E) W := fun W => by simp [run_underlying e.hS]
  have hz := e.size_of
  have hkn : ¬ n < k := by omega
  have hck : ¬ c = k := by omega
  simp [Instr.slice, go_sem, Instr.sliceBounds, Instr.sliceBound, hu, hz, show k ≤ n by omega, hck]
/-- s[:k]. -/
theorem OA.cutTo' (h : OA e W B (some ⟨g, 0, none⟩) n c l) (hk : k < n) : ∀ W', (Instr.slice e.S (.slice (some ⟨g, 0, none⟩) n c) none (some (.int .i64 (k : Int))) none).run Try.prog W' = .ok (.slice (some ⟨g, 0, none⟩) k c) W' := by
  intro W'
  obtain ⟨cur, hb, hf, _⟩ := h.full
  obtain ⟨hh, h1, h2, h3, h4⟩ := hf (by omega)
  have hu : ∀ W, (underlying e.S).run Try.prog W = .ok (.slice e.E) W := fun W => by simp [run_underlying e.hS]
  have hz := e.size_of
  have h0 : ¬ c = 0 := by omega
  simp [Instr.slice, go_sem, Instr.sliceBounds, Instr.sliceBound, hu, hz, show k ≤ c by omega]
/-- clear(s[k:]); what is left is s[:k]. -/
theorem OA.clear_ (h : OA e W B (some ⟨g, 0, none⟩) n c l) (hk : k < n) {z : Value} (hv : ∀ w, (zeroValue e.E).run Try.prog w = .ok z w) (hz : z.cells.size = e.sz) (h1z : ∀ v ∈ z.cells, v.oneCell' = true) :
    ∃ W', (∀ ty, (Builtin.clear_ #[e.S] ty #[.slice (some ⟨g, k * e.sz, none⟩) (n - k) (c - k)]).run Try.prog W = .ok (.tuple #[]) W') ∧ OA e W' B (some ⟨g, 0, none⟩) k c (l.take k) ∧ Below B W W' := by
  have hn := h.n_eq
  obtain ⟨cur, hb, hf, _⟩ := h.full
  obtain ⟨hh, h1, h2, h3, h4⟩ := hf (by omega)
  have hnc : n * e.sz ≤ c * e.sz := Nat.mul_le_mul_right _ h1
  have hkn : k * e.sz + (n - k) * e.sz = n * e.sz := by rw [← Nat.add_mul]; congr 1; omega
  obtain ⟨vs, hvs⟩ : ∃ vs, (Builtin.zeroCells z.cells (n - k)).toList = vs := ⟨_, rfl⟩
  have hl : vs.length = (n - k) * e.sz := by rw [← hvs, Array.length_toList]; simp [Builtin.zeroCells, hz]
  have ho : ∀ v ∈ vs, v.oneCell' = true := by
    intro v hv'
    rw [← hvs] at hv'
    simp only [Builtin.zeroCells, Array.toList_map, List.mem_map, Array.mem_toList_iff, Array.mem_range] at hv'
    obtain ⟨i, hi, rfl⟩ := hv'
    have hp := e.pos
    have : i % z.cells.size < z.cells.size := Nat.mod_lt _ (by omega)
    rw [getElem!_pos z.cells _ this]
    exact h1z _ (Array.getElem_mem this)
  have hr := run_storeCells_cells (P := Try.prog) g (k * e.sz) vs 0 W (fun j hj => by
    rw [hh.cell, Nat.add_zero, Array.getElem?_eq_getElem (by omega)]; rfl) (fun j _ => hh.frozen _) ho
  rw [Nat.add_zero] at hr
  have hB := blk_setCells vs (k * e.sz) hh (by omega)
  have ht : (cur.toList.take (k * e.sz)).length = k * e.sz := by rw [List.length_take, Array.length_toList]; omega
  refine ⟨W.setCells g (k * e.sz) vs, fun ty => ?_, ⟨⟨by rw [e.cells_len, List.length_take, Nat.min_eq_left (by omega)], .inr ⟨g, c, _, rfl, hb, hB, by omega, h2, ?_, ?_⟩⟩⟩, below_setCells hb _ _ (Below.refl _ _)⟩
  · obtain ⟨m, hm⟩ : ∃ m, n - k = m + 1 := ⟨n - k - 1, by omega⟩
    rw [hm] at hvs ⊢
    simp [Builtin.clear_, run_underlying e.hS, hv, hvs, hr, Sem.run_bind, Result.andThen]
  · simp only [List.size_toArray, List.length_append, List.length_take, List.length_drop, Array.length_toList]; omega
  · rw [List.append_assoc, List.take_append, ht, List.take_of_length_le (l := cur.toList.take (k * e.sz)) (by rw [ht]; omega), Nat.sub_self, List.take_zero, List.append_nil, ← e.cells_take, ← h4, List.take_take, Nat.min_eq_left (by omega)]
end
section
variable {P : Program} {ops : Array Oper} {rest : List Oper} {o : Oper} {a : Act} {Q : Exit → Act → World → Prop} {K : Act → World → Prop} {w w' : World} {cs : Array Value} {p : Addr}
/-- A store of a whole struct whose run is known. -/
theorem run_storeAgg {t : TypeId} (hz : (sizeOf t).run P w = .ok cs.size w) (hst : (storeCells p cs.toList).run P w = .ok () w') : (Instr.storeAt t (.pointer (some p)) (.agg cs)).run P w = .ok () w' := by
  have hs : (Instr.sureAddr (.pointer (some p))).run P w = .ok p w := by simp [Instr.sureAddr, go_sem]
  simp only [Instr.storeAt, storeVar, Value.cells, Sem.run_bind, Result.andThen_ok, hs, hz, ne_eq, not_true_eq_false, if_false, hst]
theorem wp_store_agg (s x : Operand) (t : TypeId) (ho : o.op = .store t s x) (hs : a.eval s = .pointer (some p)) (hx : a.eval x = .agg cs) (hz : (sizeOf t).run P w = .ok cs.size w)
    (hst : (storeCells p cs.toList).run P w = .ok () w') (h : K (a.put o.dst undef) w') : o.wp P a w K Q := by
  have := run_storeAgg (P := P) (t := t) hz hst
  unfold Oper.wp execOp
  simp only [ho, hs, hx, Sem.run_bind, this, Result.andThen_ok]
  exact h
theorem wpList_store_agg (hgd : o.guard = none) (s x : Operand) (t : TypeId) (ho : o.op = .store t s x) (hs : a.eval s = .pointer (some p)) (hx : a.eval x = .agg cs) (hz : (sizeOf t).run P w = .ok cs.size w)
    (hst : (storeCells p cs.toList).run P w = .ok () w') (h : wpList P ops Q rest (a.put o.dst undef) w') : wpList P ops Q (o :: rest) a w :=
  wpList_plain hgd fun _ hK => wp_store_agg s x t ho hs hx hz hst (hK _ _ h)
end
end Go.Proofs.Ytmfdflfjllpceaa
