/- Slices of structs (elements of any fixed number of cells): reading, cuts, appends, stores of a field. -/
import Derived.Test.YtmfdflfjllpceaaZLit
namespace Go.Proofs.Ytmfdflfjllpceaa
open Go.RowKit

/-- How an element lies in memory: its slice's type, its own, its cells. -/
structure Enc (α : Type) where
  S : TypeId
  E : TypeId
  sz : Nat
  bytes : Nat
  enc : α → List Value
  pos : 0 < sz
  len : ∀ x, (enc x).length = sz
  one : ∀ x, ∀ v ∈ enc x, v.oneCell' = true
  hS : Try.prog.underlying S = some (.slice E)
  info : ∃ i z, Try.prog.info? E = some i ∧ i.zero = some z ∧ i.size = sz ∧ i.bytes = bytes ∧ z.cells.size = sz
  hb : bytes ≤ 1024

section
variable {α : Type} (e : Enc α)
def Enc.cells (l : List α) : List Value := l.flatMap e.enc
theorem Enc.cells_len (l : List α) : (e.cells l).length = l.length * e.sz := by
  unfold Enc.cells
  induction l with
  | nil => simp
  | cons x l ih => simp only [List.flatMap_cons, List.length_append, List.length_cons, e.len, ih, Nat.add_mul, Nat.one_mul]; omega
theorem Enc.cells_nil : e.cells [] = [] := rfl
theorem Enc.cells_one (x : α) : e.cells [x] = e.enc x := by simp [Enc.cells]
theorem Enc.cells_append (l m : List α) : e.cells (l ++ m) = e.cells l ++ e.cells m := by simp [Enc.cells]
theorem Enc.cells_take (l : List α) (k : Nat) : (e.cells l).take (k * e.sz) = e.cells (l.take k) := by
  induction l generalizing k with
  | nil => simp [Enc.cells]
  | cons x l ih =>
    cases k with
    | zero => simp [Enc.cells]
    | succ k =>
      rw [List.take_succ_cons]
      have := ih k
      simp only [Enc.cells, List.flatMap_cons] at this ⊢
      rw [List.take_append, e.len, List.take_of_length_le (by rw [e.len, Nat.add_mul]; omega), show (k + 1) * e.sz - e.sz = k * e.sz by rw [Nat.add_mul]; omega, this]
theorem Enc.cells_drop (l : List α) (k : Nat) : (e.cells l).drop (k * e.sz) = e.cells (l.drop k) := by
  induction l generalizing k with
  | nil => simp [Enc.cells]
  | cons x l ih =>
    cases k with
    | zero => simp [Enc.cells]
    | succ k =>
      rw [List.drop_succ_cons]
      have := ih k
      simp only [Enc.cells, List.flatMap_cons] at this ⊢
      rw [List.drop_append, e.len, List.drop_of_length_le (by rw [e.len, Nat.add_mul]; omega), show (k + 1) * e.sz - e.sz = k * e.sz by rw [Nat.add_mul]; omega, this, List.nil_append]
theorem Enc.cells_get {l : List α} {k j : Nat} (hk : k < l.length) (hj : j < e.sz) : (e.cells l)[k * e.sz + j]? = (e.enc l[k])[j]? := by
  have h : (e.cells l)[k * e.sz + j]? = ((e.cells l).drop (k * e.sz))[j]? := by rw [List.getElem?_drop]
  rw [h, e.cells_drop, List.drop_eq_getElem_cons hk]
  simp only [Enc.cells, List.flatMap_cons]
  rw [List.getElem?_append_left (by rw [e.len]; exact hj)]
theorem Enc.cells_one' (l : List α) : ∀ v ∈ e.cells l, v.oneCell' = true := by
  intro v hv
  obtain ⟨x, _, hx⟩ := List.mem_flatMap.1 hv
  exact e.one x v hx
theorem Enc.lt {x : α} {j : Nat} {v : Value} (h : (e.enc x)[j]? = some v) : j < e.sz := by
  have := (List.getElem?_eq_some_iff.1 h).1; rwa [e.len] at this
theorem Enc.cells_set {l : List α} {k j : Nat} {x : α} {v : Value} (hk : k < l.length) (hj : j < e.sz) (hx : e.enc x = (e.enc l[k]).set j v) : (e.cells l).set (k * e.sz + j) v = e.cells (l.set k x) := by
  induction l generalizing k with
  | nil => simp at hk
  | cons y l ih =>
    cases k with
    | zero =>
      simp only [List.getElem_cons_zero] at hx
      simp only [List.set_cons_zero, Enc.cells, List.flatMap_cons, Nat.zero_mul, Nat.zero_add, hx]
      rw [List.set_append_left _ _ (by rw [e.len]; exact hj)]
    | succ k =>
      have hk' : k < l.length := by simpa using hk
      have := ih hk' (by simpa using hx)
      simp only [List.set_cons_succ, Enc.cells, List.flatMap_cons] at this ⊢
      rw [List.set_append_right _ _ (by rw [e.len, Nat.add_mul]; omega), e.len, show (k + 1) * e.sz + j - e.sz = k * e.sz + j by rw [Nat.add_mul]; omega, this]

/-- A slice of such elements that reads as l. -/
def SA (w : World) (A : Option Addr) (n c : Nat) (l : List α) : Prop := l.length = n ∧ n ≤ c ∧ c ≤ maxLen ∧ RD w e.sz A n (e.cells l)
variable {e} {w w' : World} {A A2 : Option Addr} {n c m d B : Nat} {l l2 : List α}
theorem SA.n_eq (h : SA e w A n c l) : l.length = n := h.1
theorem SA.le (h : SA e w A n c l) : n ≤ c := h.2.1
theorem SA.len (h : SA e w A n c l) : (n : Int) ≤ 9223372036854775807 := by have h1 := h.2.1; have h2 := h.2.2.1; unfold maxLen at h2; omega
theorem SA.nil : SA e w none 0 0 ([] : List α) := ⟨rfl, Nat.le_refl _, by simp [maxLen], by simpa [Enc.cells] using RD.nil⟩
theorem SA.below (h : SA e w A n c l) (hb : Below w.heap.size w w') : SA e w' A n c l := ⟨h.1, h.2.1, h.2.2.1, h.2.2.2.below hb⟩
theorem SA.alloc (h : SA e w A n c l) (o : Obj) : SA e (w.alloc o) A n c l := h.below ((Below.refl _ w).alloc (Nat.le_refl _) _)
theorem SA.all_ (h : SA e w A n c l) (hp : 0 < n) : ∃ b o, A = some ⟨b, o, none⟩ ∧ b < w.heap.size ∧ ∀ k (hk : k < l.length) j v, (e.enc l[k])[j]? = some v → w.cell? ⟨b, o + k * e.sz + j, none⟩ = some v := by
  obtain ⟨b, o, rfl, hb, hc⟩ := h.2.2.2.2 hp
  refine ⟨b, o, rfl, hb, fun k hk j v hv => ?_⟩
  rw [Nat.add_assoc]
  exact hc _ _ (by rw [e.cells_get hk (e.lt hv)]; exact hv)
theorem SA.at_ (h : SA e w A n c l) {k : Nat} (hk : k < l.length) : ∃ b o, A = some ⟨b, o, none⟩ ∧ b < w.heap.size ∧ ∀ j v, (e.enc l[k])[j]? = some v → w.cell? ⟨b, o + k * e.sz + j, none⟩ = some v := by
  have := h.n_eq
  obtain ⟨b, o, e1, hb, hc⟩ := h.all_ (by omega)
  exact ⟨b, o, e1, hb, hc k hk⟩
theorem SA.lit {l : List α} {n : Nat} {cs : Array Value} (w : World) (hn : l.length = n) (hcs : cs = (e.cells l).toArray) (hm : n ≤ 1000000) : SA e (w.alloc (.cells cs e.E)) (some ⟨w.heap.size, 0, none⟩) n n l := by
  subst hn hcs
  refine ⟨rfl, Nat.le_refl _, by simp [maxLen]; omega, ?_⟩
  have := RD.lit w e.E e.sz l.length (e.cells l).toArray (by simp [e.cells_len])
  simpa using this
theorem SA.cut_rd (h : SA e w A n c l) {lo hi : Nat} (h1 : lo ≤ hi) (h2 : hi ≤ n) : SA e w (if c = lo then A else A.map (·.add (lo * e.sz))) (hi - lo) (c - lo) ((l.take hi).drop lo) := by
  have hc := h.le
  obtain ⟨e0, _, hm, hr⟩ := h
  have := hr.cut (lo := lo) (hi := hi) (c := c) h1 h2 hc
  rw [e.cells_take, e.cells_drop] at this
  exact ⟨by simp; omega, by omega, by omega, this⟩
theorem Enc.size_of (e : Enc α) (W : World) : (sizeOf e.E).run Try.prog W = .ok e.sz W := by
  obtain ⟨i, z, hi, hz, hs, _, _⟩ := e.info
  simp [sizeOf, typeInfo, hi, hs]
/-- s[i:j] -/
theorem SA.cut (h : SA e w A n c l) {i j : Int} {lo hi m : Nat} (ei : i = lo) (ej : j = hi) (h1 : lo ≤ hi) (h2 : hi ≤ n) (em : m = hi - lo) :
    ∃ A' c', (∀ W, (Instr.slice e.S (.slice A n c) (some (.int .i64 i)) (some (.int .i64 j)) none).run Try.prog W = .ok (.slice A' m c') W) ∧ SA e w A' m c' ((l.take hi).drop lo) := by
  have hc := h.le
  have hu : ∀ W, (underlying e.S).run Try.prog W = .ok (.slice e.E) W := fun W => by simp [run_underlying e.hS]
  have hz := e.size_of
  refine ⟨_, c - lo, fun W => ?_, by subst em; exact h.cut_rd h1 h2⟩
  subst ei ej em
  simp [Instr.slice, go_sem, Instr.sliceBounds, Instr.sliceBound, hu, hz, show hi ≤ c by omega, h1]
/-- s[i:] -/
theorem SA.cutFrom (h : SA e w A n c l) {i : Int} {lo m : Nat} (ei : i = lo) (h1 : lo ≤ n) (em : m = n - lo) :
    ∃ A' c', (∀ W, (Instr.slice e.S (.slice A n c) (some (.int .i64 i)) none none).run Try.prog W = .ok (.slice A' m c') W) ∧ SA e w A' m c' (l.drop lo) := by
  have hc := h.le
  have hu : ∀ W, (underlying e.S).run Try.prog W = .ok (.slice e.E) W := fun W => by simp [run_underlying e.hS]
  have hz := e.size_of
  have hn := h.n_eq
  refine ⟨_, c - lo, fun W => ?_, by
    subst em; have := h.cut_rd (lo := lo) (hi := n) h1 (Nat.le_refl _); rwa [List.take_of_length_le (by omega)] at this⟩
  subst ei em
  simp [Instr.slice, go_sem, Instr.sliceBounds, Instr.sliceBound, hu, hz, h1]
/-- s[:j] -/
theorem SA.cutTo (h : SA e w A n c l) {j : Int} {hi : Nat} (ej : j = hi) (h2 : hi ≤ n) :
    ∃ A' c', (∀ W, (Instr.slice e.S (.slice A n c) none (some (.int .i64 j)) none).run Try.prog W = .ok (.slice A' hi c') W) ∧ SA e w A' hi c' (l.take hi) := by
  have hc := h.le
  have hu : ∀ W, (underlying e.S).run Try.prog W = .ok (.slice e.E) W := fun W => by simp [run_underlying e.hS]
  have hz := e.size_of
  refine ⟨_, c - 0, fun W => ?_, by have := h.cut_rd (lo := 0) (hi := hi) (Nat.zero_le _) h2; simpa using this⟩
  subst ej
  by_cases h0 : c = 0
  · simp [Instr.slice, go_sem, Instr.sliceBounds, Instr.sliceBound, hu, hz, h0, show hi = 0 by omega]
  · simp [Instr.slice, go_sem, Instr.sliceBounds, Instr.sliceBound, hu, hz, show hi ≤ c by omega, h0]

/-- The same, in a block of the call's own (from B on, or nil). -/
structure OA (e : Enc α) (w : World) (B : Nat) (A : Option Addr) (n c : Nat) (l : List α) : Prop where
  own : w.ownsRow B e.E e.sz (.slice A n c) n (e.cells l)
theorem OA.nil (e : Enc α) (w : World) (B : Nat) : OA e w B none 0 0 [] := ⟨⟨by simp [Enc.cells], .inl ⟨rfl, rfl⟩⟩⟩
theorem OA.n_eq (h : OA e w B A n c l) : l.length = n := by
  have h1 := h.own.1
  rw [e.cells_len] at h1
  exact Nat.eq_of_mul_eq_mul_right e.pos h1
theorem OA.litL {l : List α} {n : Nat} {cs : Array Value} (w : World) (hB : B ≤ w.heap.size) (hn : l.length = n) (hcs : cs = (e.cells l).toArray) (hm : n ≤ 1000000) :
    OA e (w.alloc (.cells cs e.E)) B (some ⟨w.heap.size, 0, none⟩) n n l := by
  subst hn hcs
  have hl := e.cells_len l
  exact ⟨⟨hl, .inr ⟨w.heap.size, l.length, (e.cells l).toArray, rfl, hB, Blk.new w _ _, Nat.le_refl _, by simp [maxLen]; omega, by simp [hl], by simp [List.take_of_length_le, hl]⟩⟩⟩
theorem OA.pos (h : OA e w B A n c l) (hp : 0 < n) : ∃ g cur, A = some ⟨g, 0, none⟩ ∧ B ≤ g ∧ Blk w g e.E cur ∧ n ≤ c ∧ c ≤ maxLen ∧ cur.size = c * e.sz ∧ cur.toList.take (n * e.sz) = e.cells l := by
  rcases h.own.2 with ⟨_, rfl⟩ | ⟨g, cap, cur, hv, hb, hh, h1, h2, h3, h4⟩
  · omega
  · injection hv with e1 e2 e3
    subst e3
    exact ⟨g, cur, e1, hb, hh, h1, h2, h3, h4⟩
theorem OA.sa (h : OA e w B A n c l) : SA e w A n c l := by
  have hl := h.n_eq
  rcases h.own.2 with ⟨hv, rfl⟩ | ⟨g, cap, cur, hv, hb, hh, h1, h2, h3, h4⟩
  · injection hv with e1 e2 e3
    subst e1 e3
    obtain rfl : l = [] := List.eq_nil_of_length_eq_zero hl
    exact SA.nil
  · injection hv with e1 e2 e3
    subst e1 e3
    refine ⟨hl, h1, h2, by rw [e.cells_len, hl], fun hp => ⟨g, 0, rfl, Blk.lt (t := e.E) (cs := cur) hh, fun j u hu => ?_⟩⟩
    rw [Nat.zero_add, Blk.cell (t := e.E) (cs := cur) hh]
    rw [← h4, List.getElem?_take] at hu
    split at hu
    · simpa using hu
    · cases hu
theorem OA.below (h : OA e w B A n c l) (hb : Below w.heap.size w w') : OA e w' B A n c l := by
  refine ⟨⟨h.own.1, ?_⟩⟩
  rcases h.own.2 with h2 | ⟨g, cap, cur, hv, hB, hh, h3⟩
  · exact .inl h2
  · exact .inr ⟨g, cap, cur, hv, hB, Blk.belowAll (t := e.E) (cs := cur) hh hb, h3⟩
theorem OA.drew (h : OA e w B A n c l) : OA e w.drew B A n c l := ⟨h.own⟩
theorem OA.alloc (h : OA e w B A n c l) (o : Obj) : OA e (w.alloc o) B A n c l := h.below ((Below.refl _ w).alloc (Nat.le_refl _) _)
/-- Element k: where it lies, how its field j is stored. -/
theorem OA.at_ (h : OA e w B A n c l) {k : Nat} (hk : k < n) : ∃ g, A = some ⟨g, 0, none⟩ ∧ B ≤ g ∧ g < w.heap.size ∧ n ≤ c ∧ (∀ x j v, l[k]? = some x → (e.enc x)[j]? = some v → w.cell? ⟨g, k * e.sz + j, none⟩ = some v) ∧ (∀ j, w.frozen? ⟨g, k * e.sz + j, none⟩ = false) ∧
    ∀ x y j v, l[k]? = some x → j < e.sz → e.enc y = (e.enc x).set j v → OA e (w.setCell ⟨g, k * e.sz + j, none⟩ v) B A n c (l.set k y) := by
  have hl := h.n_eq
  have hkl : k < l.length := by omega
  obtain ⟨g, cur, rfl, hb, hB, h1, h2, h3, h4⟩ := h.pos (by omega)
  have hkn : ∀ j, j < e.sz → k * e.sz + j < n * e.sz := fun j hj => by
    have : (k + 1) * e.sz ≤ n * e.sz := Nat.mul_le_mul_right _ hk
    rw [Nat.add_mul] at this; omega
  refine ⟨g, rfl, hb, hB.lt, h1, fun x j v hx hv => ?_, fun j => hB.frozen _, fun x y j v hx hj hy => ⟨⟨by rw [e.cells_len, List.length_set, hl], .inr ⟨g, c, cur.setIfInBounds (k * e.sz + j) v, rfl, hb, hB.set_ _ _, h1, h2, by simpa using h3, ?_⟩⟩⟩⟩
  · rw [hB.cell]
    have hj := e.lt hv
    have h5 : (cur.toList.take (n * e.sz))[k * e.sz + j]? = some v := by
      rw [h4, e.cells_get hkl hj]
      rw [List.getElem?_eq_getElem hkl] at hx
      injection hx with hx
      rw [hx]; exact hv
    rw [List.getElem?_take, if_pos (hkn j hj)] at h5
    simpa using h5
  · rw [List.getElem?_eq_getElem hkl] at hx
    injection hx with hx
    rw [Array.toList_setIfInBounds, List.take_set, h4]
    exact e.cells_set hkl hj (by rw [hx]; exact hy)
set_option maxRecDepth 100000 in
/-- append(own, other...): the step's equation. -/
theorem OA.app (h : OA e w B A n c l) (hs : SA e w A2 m d l2) (hB : B ≤ w.heap.size) (hm : n + m ≤ 68719476736) :
    ∃ A' c' w', (Builtin.append_ #[e.S, e.S] e.S #[.slice A n c, .slice A2 m d]).run Try.prog w = .ok (.slice A' (n + m) c') w' ∧ OA e w' B A' (n + m) c' (l ++ l2) ∧ Below B w w' ∧
      (∀ k, k < w.heap.size → (∀ a, A = some a → k ≠ a.block) → w'.heap[k]? = w.heap[k]?) ∧ (∀ a', A' = some a' → (∃ a, A = some a ∧ a'.block = a.block) ∨ w.heap.size ≤ a'.block) := by
  obtain ⟨i0, z0, hi, hz0, hz1, hz2, hz3⟩ := e.info
  have hbt := e.hb
  have hform : ∀ (v : Value) (w' : World), w'.ownsRow B e.E e.sz v (n + m) (e.cells l ++ e.cells l2) → ∃ A' c', v = .slice A' (n + m) c' := by
    intro v w' hv
    rcases hv.2 with ⟨e1, e0⟩ | ⟨g, cap, cur, e1, _⟩
    · exact ⟨none, 0, by rw [e1, e0]⟩
    · exact ⟨_, _, e1⟩
  have hown : ∀ g, (Value.slice A n c).ownBlock = some g → B ≤ g := by
    intro g hg
    rcases h.own.2 with ⟨e1, _⟩ | ⟨g', cap, cur, e1, hb, _⟩
    · rw [e1] at hg; simp [Value.ownBlock] at hg
    · rw [e1] at hg; simp [Value.ownBlock] at hg; omega
  have key : ∃ v' w', (Builtin.append_ #[e.S, e.S] e.S #[.slice A n c, .slice A2 m d]).run Try.prog w = .ok v' w' ∧ w'.ownsRow B e.E e.sz v' (n + m) (e.cells l ++ e.cells l2) ∧ w.grownBy w' (Value.slice A n c).ownBlock ∧
      (v'.ownBlock = (Value.slice A n c).ownBlock ∨ v'.ownBlock = some w.heap.size) := by
    rcases A2 with _ | ad
    · have hm0 : m = 0 := by
        rcases Nat.eq_zero_or_pos m with h0 | h0
        · exact h0
        · obtain ⟨_, _, e1, _⟩ := hs.2.2.2.2 h0
          cases e1
      subst hm0
      obtain rfl : l2 = [] := List.eq_nil_of_length_eq_zero hs.n_eq
      refine ⟨.slice A n c, w, ?_, by simpa [Enc.cells] using h.own, World.grownBy.refl w _, .inl rfl⟩
      have hz := e.hS
      rcases h.own.2 with ⟨e1, _⟩ | ⟨g, cap, cur, e1, _, _, hnc, _⟩
      · rw [e1]; simp [Builtin.append_, run_underlying hz, sizeOf, typeInfo, hi, Builtin.lenOf, Builtin.firstCells]
      · rw [e1]; simp [Builtin.append_, run_underlying hz, sizeOf, typeInfo, hi, Builtin.lenOf, Builtin.firstCells, hnc, storeCells]
    · have hsrc : ∀ j u, (e.cells l2)[j]? = some u → w.cell? (ad.add j) = some u := by
        intro j u hu
        have hj : j < (e.cells l2).length := (List.getElem?_eq_some_iff.1 hu).1
        rw [e.cells_len] at hj
        have hm0 : 0 < m := by
          rw [← hs.n_eq]
          rcases Nat.eq_zero_or_pos l2.length with h0 | h0
          · rw [h0] at hj; omega
          · exact h0
        obtain ⟨b, o, e1, _, hc⟩ := hs.2.2.2.2 hm0
        injection e1 with e1
        rw [e1, add_off]
        exact hc j u hu
      obtain ⟨v', w', hrun, h2, h3, _, h5⟩ := run_append_own_at (P := Try.prog) w B e.S e.S e.E i0 z0 e.sz e.bytes e.hS hi hz0 hz1 hz2 hz3 e.pos (.slice A n c) n _ h.own ad m d (e.cells l2) (by rw [e.cells_len, hs.n_eq]) hsrc (e.cells_one' l2)
        (by simp only [maxLen]; omega) (Nat.le_trans (Nat.mul_le_mul hm hbt) (by omega)) hB
      exact ⟨v', w', hrun, h2, h3, h5⟩
  obtain ⟨v', w', hrun, h2, h3, h5⟩ := key
  obtain ⟨A', c', rfl⟩ := hform v' w' h2
  refine ⟨A', c', w', hrun, ⟨by rw [e.cells_append]; exact h2⟩, (Below.refl B w).grown h3 hB hown, fun k hk hne => ?_, fun a' hA' => ?_⟩
  · refine h3.block k hk (fun he => ?_)
    cases A with
    | none => simp [Value.ownBlock] at he
    | some a => simp [Value.ownBlock] at he; exact hne a rfl (by omega)
  · subst hA'
    cases A with
    | none => simp [Value.ownBlock] at h5; exact .inr (by omega)
    | some a =>
      simp [Value.ownBlock] at h5
      rcases h5 with h5 | h5
      · exact .inl ⟨a, rfl, h5⟩
      · exact .inr (by omega)
end
end Go.Proofs.Ytmfdflfjllpceaa
