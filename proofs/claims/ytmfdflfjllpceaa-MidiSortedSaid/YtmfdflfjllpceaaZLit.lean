/- Append onto a row of the call's own: slices of ints ('OL'). -/
import Derived.Test.YtmfdflfjllpceaaZSlice
/- Append onto a row of the call's own: slices of ints ('OL'). -/
namespace Go.Proofs.Ytmfdflfjllpceaa
open Go.RowKit

/-- The slice value '.slice A n c' lies in a block of the call's own (numbered from B on, or nil) and reads as l. -/
structure OL (w : World) (B : Nat) (A : Option Addr) (n c : Nat) (l : List Int) : Prop where
  own : w.ownsRow B 3 1 (.slice A n c) n (l.map vint)
  i64 : ∀ x ∈ l, I64 x

section
variable {w w' : World} {B B' : Nat} {A A2 : Option Addr} {n c m d : Nat} {l l2 : List Int}
theorem OL.nil (w : World) (B : Nat) : OL w B none 0 0 [] := ⟨⟨by simp, .inl ⟨rfl, rfl⟩⟩, by simp⟩
theorem OL.len (h : OL w B A n c l) : l.length = n := by have := h.own.1; simpa using this
theorem OL.lit (w : World) {B : Nat} (hB : B ≤ w.heap.size) : OL (w.alloc (.cells #[] 3)) B (some ⟨w.heap.size, 0, none⟩) 0 0 [] :=
  ⟨⟨by simp, .inr ⟨w.heap.size, 0, #[], rfl, hB, Blk.new w _ _, by omega, by simp [maxLen], by simp, by simp⟩⟩, by simp⟩
theorem OL.pos (h : OL w B A n c l) (hp : 0 < n) : ∃ g cur, A = some ⟨g, 0, none⟩ ∧ B ≤ g ∧ Blk w g 3 cur ∧ n ≤ c ∧ c ≤ maxLen ∧ cur.size = c ∧ cur.toList.take n = l.map vint := by
  rcases h.own.2 with ⟨_, rfl⟩ | ⟨g, cap, cur, hv, hb, hh, h1, h2, h3, h4⟩
  · omega
  · injection hv with e1 e2 e3
    subst e3
    exact ⟨g, cur, e1, hb, hh, h1, h2, by simpa using h3, by simpa using h4⟩
theorem OL.sl (h : OL w B A n c l) : SL w A n c l := by
  have hl := h.len
  rcases h.own.2 with ⟨hv, rfl⟩ | ⟨g, cap, cur, hv, hb, hh, h1, h2, h3, h4⟩
  · injection hv with e1 e2 e3
    subst e1 e3
    obtain rfl : l = [] := List.eq_nil_of_length_eq_zero hl
    exact SL.nil
  · injection hv with e1 e2 e3
    subst e1 e3
    refine ⟨hl, h1, h2, h.i64, by simpa using hl, fun hp => ⟨g, 0, rfl, Blk.lt (t := 3) (cs := cur) hh, fun j u hu => ?_⟩⟩
    rw [Nat.zero_add, Blk.cell (t := 3) (cs := cur) hh]
    rw [← h4, List.getElem?_take] at hu
    split at hu
    · simpa using hu
    · cases hu
theorem OL.below (h : OL w B A n c l) (hb : Below w.heap.size w w') : OL w' B A n c l := by
  refine ⟨⟨h.own.1, ?_⟩, h.i64⟩
  rcases h.own.2 with h2 | ⟨g, cap, cur, hv, hB, hh, h3⟩
  · exact .inl h2
  · exact .inr ⟨g, cap, cur, hv, hB, Blk.belowAll (t := 3) (cs := cur) hh hb, h3⟩
theorem OL.drew (h : OL w B A n c l) : OL w.drew B A n c l := ⟨h.own, h.i64⟩
theorem OL.base (h : OL w B A n c l) (hB : B' ≤ B) : OL w B' A n c l := by
  refine ⟨⟨h.own.1, ?_⟩, h.i64⟩
  rcases h.own.2 with h2 | ⟨g, cap, cur, hv, hB, hh, h3⟩
  · exact .inl h2
  · exact .inr ⟨g, cap, cur, hv, by omega, hh, h3⟩
theorem OL.alloc (h : OL w B A n c l) (o : Obj) : OL (w.alloc o) B A n c l := h.below ((Below.refl _ w).alloc (Nat.le_refl _) _)
/-- Element k: where it lies. -/
theorem OL.at_ (h : OL w B A n c l) {k : Nat} (hk : k < n) : ∃ g, A = some ⟨g, 0, none⟩ ∧ B ≤ g ∧ g < w.heap.size ∧ n ≤ c ∧ (∀ x, l[k]? = some x → w.cell? ⟨g, k, none⟩ = some (.int .i64 x)) ∧ w.frozen? ⟨g, k, none⟩ = false ∧
    ∀ x, I64 x → OL (w.setCell ⟨g, k, none⟩ (.int .i64 x)) B A n c (l.set k x) := by
  have hl := h.len
  obtain ⟨g, cur, rfl, hb, hB, h1, h2, h3, h4⟩ := h.pos (by omega)
  refine ⟨g, rfl, hb, hB.lt, h1, fun x hx => ?_, hB.frozen k, fun x hx => ⟨⟨by simpa using hl, .inr ⟨g, c, cur.setIfInBounds k (.int .i64 x), rfl, hb, hB.set_ k _, h1, h2, by simpa using h3, ?_⟩⟩, fun y hy => ?_⟩⟩
  · rw [hB.cell k]
    have : (cur.toList.take n)[k]? = some (.int .i64 x) := by rw [h4]; simp [hx]
    rw [List.getElem?_take, if_pos hk] at this
    simpa using this
  · rw [List.map_set, ← h4, Array.toList_setIfInBounds, Nat.mul_one, List.take_set]
  · rcases List.mem_or_eq_of_mem_set hy with h5 | rfl
    · exact h.i64 _ h5
    · exact hx

theorem SL.addrs (h : SL w A n c l) : ∀ ad, A = some ad → ∀ j u, (l.map vint)[j]? = some u → w.cell? (ad.add j) = some u := by
  intro ad e j u hu
  have hj : j < l.length := by have := (List.getElem?_eq_some_iff.1 hu).1; simpa using this
  obtain ⟨b, o, e2, _, hc⟩ := h.at_ hj
  rw [e2] at e
  injection e with e
  subst e
  rw [add_off, hc]
  rw [List.getElem?_map, List.getElem?_eq_getElem hj] at hu
  exact hu
theorem int_one {l : List Int} : ∀ u ∈ l.map vint, u.oneCell' = true := by
  intro u hu
  obtain ⟨x, _, rfl⟩ := List.mem_map.1 hu
  rfl
/-- append(own, other...): the step's equation. -/
theorem OL.app (h : OL w B A n c l) (hs : SL w A2 m d l2) (hB : B ≤ w.heap.size) (hm : n + m ≤ 1099511627776) :
    ∃ A' c' w', (Builtin.append_ #[66, 66] 66 #[.slice A n c, .slice A2 m d]).run Try.prog w = .ok (.slice A' (n + m) c') w' ∧ OL w' B A' (n + m) c' (l ++ l2) ∧ Below B w w' ∧
      (∀ g, A = some ⟨g, 0, none⟩ → ∀ p : Addr, p.block < w.heap.size → p.block ≠ g → w'.cell? p = w.cell? p) := by
  obtain ⟨i0, hi, hz0, hz1, hz2⟩ := info_parts int_info
  have hfi : ∀ x ∈ l ++ l2, I64 x := by
    intro x hx
    rcases List.mem_append.1 hx with h5 | h5
    · exact h.i64 _ h5
    · exact hs.i64 _ h5
  have hform : ∀ (v : Value) (w' : World), w'.ownsRow B 3 1 v (n + m) (l.map vint ++ l2.map vint) → ∃ A' c', v = .slice A' (n + m) c' := by
    intro v w' hv
    rcases hv.2 with ⟨e, e0⟩ | ⟨g, cap, cur, e, _⟩
    · exact ⟨none, 0, by rw [e, e0]⟩
    · exact ⟨_, _, e⟩
  have hown : ∀ g, (Value.slice A n c).ownBlock = some g → B ≤ g := by
    intro g hg
    rcases h.own.2 with ⟨e, _⟩ | ⟨g', cap, cur, e, hb, _⟩
    · rw [e] at hg; simp [Value.ownBlock] at hg
    · rw [e] at hg; simp [Value.ownBlock] at hg; omega
  have key : ∃ v' w', (Builtin.append_ #[66, 66] 66 #[.slice A n c, .slice A2 m d]).run Try.prog w = .ok v' w' ∧ w'.ownsRow B 3 1 v' (n + m) (l.map vint ++ l2.map vint) ∧ w.grownBy w' (Value.slice A n c).ownBlock := by
    rcases A2 with _ | ad
    · have hm0 : m = 0 := by
        rcases Nat.eq_zero_or_pos m with h0 | h0
        · exact h0
        · obtain ⟨_, _, e, _⟩ := hs.2.2.2.2.2 h0
          cases e
      subst hm0
      obtain rfl : l2 = [] := List.eq_nil_of_length_eq_zero hs.n_eq
      refine ⟨.slice A n c, w, ?_, by simpa using h.own, World.grownBy.refl w _⟩
      rcases h.own.2 with ⟨e, _⟩ | ⟨g, cap, cur, e, _, _, hnc, _⟩
      · rw [e]; simp [Builtin.append_, run_underlying Try.underlying66, sizeOf, typeInfo, hi, Builtin.lenOf, Builtin.firstCells]
      · rw [e]; simp [Builtin.append_, run_underlying Try.underlying66, sizeOf, typeInfo, hi, Builtin.lenOf, Builtin.firstCells, hnc, storeCells]
    · obtain ⟨v', w', hrun, h2, h3, _, _⟩ := run_append_own_at (P := Try.prog) w B 66 66 3 i0 _ 1 8 Try.underlying66 hi hz0 hz1 hz2 rfl (by omega) (.slice A n c) n _ h.own ad m d (l2.map vint) (by simpa using hs.n_eq) (hs.addrs ad rfl) int_one
        (by simp only [maxLen]; omega) (by omega) hB
      exact ⟨v', w', hrun, h2, h3⟩
  obtain ⟨v', w', hrun, h2, h3⟩ := key
  obtain ⟨A', c', rfl⟩ := hform v' w' h2
  refine ⟨A', c', w', hrun, ⟨by rw [List.map_append]; exact h2, hfi⟩, (Below.refl _ w).grown h3 hB hown, fun g hg p hp hne => ?_⟩
  subst hg
  exact World.cell?_of_block (h3.block p.block hp (by simp [Value.ownBlock]; exact hne))
end
section
variable {P : Program} {ops : Array Oper} {rest : List Oper} {o : Oper} {a : Act} {Q : Exit → Act → World → Prop} {K : Act → World → Prop} {w w' : World} {v v1 v2 : Value}
theorem wp_append_eq (s x : Operand) (t : TypeId) (ho : o.op = .call { callee := .builtin .append, args := #[s, x], argTypes := #[t, t] }) (hs : a.eval s = v1) (hx : a.eval x = v2)
    (hrun : (Builtin.append_ #[t, t] o.type #[v1, v2]).run P w = .ok v w') (h : K (a.put o.dst v) w') : o.wp P a w K Q := by
  unfold Oper.wp execOp
  simp only [ho, resolve, invoke, builtin, Sem.run_bind, Sem.run_pure, Result.andThen_ok, List.map_toArray, List.map_cons, List.map_nil, hs, hx, hrun]
  exact h
theorem wpList_append_eq (hgd : o.guard = none) (s x : Operand) (t : TypeId) (ho : o.op = .call { callee := .builtin .append, args := #[s, x], argTypes := #[t, t] }) (hs : a.eval s = v1) (hx : a.eval x = v2)
    (hrun : (Builtin.append_ #[t, t] o.type #[v1, v2]).run P w = .ok v w') (h : wpList P ops Q rest (a.put o.dst v) w') : wpList P ops Q (o :: rest) a w :=
  wpList_plain hgd fun _ hK => wp_append_eq s x t ho hs hx hrun (hK _ _ h)
end
end Go.Proofs.Ytmfdflfjllpceaa

/- Literal slices as arguments; facts carried over a step. -/
namespace Go.Proofs.Ytmfdflfjllpceaa
open Go.RowKit

/-- A slice and a code are handed back: the slice reads as r. -/
def RetS (w : World) (r : List Int) (k : Int) (e : Ending) (w' : World) : Prop :=
  ∃ A n c, e = .returned (.tuple #[.slice A n c, .int .i64 k]) ∧ SL w' A n c r ∧ Below w.heap.size w w'
section
variable {w w' : World} {A : Option Addr} {n c : Nat} {l : List Int} {o o' : Obj}
theorem SL.alloc (h : SL w A n c l) (o : Obj) : SL (w.alloc o) A n c l := h.below ((Below.refl _ w).alloc (Nat.le_refl _) _)
theorem SL.lit' (w : World) (l : List Int) {n : Nat} (cs : Array Value) (hn : l.length = n) (hcs : cs = (l.map vint).toArray) (hm : n ≤ 1000000) (hf : ∀ x ∈ l, I64 x) :
    SL (w.alloc (.cells cs 3)) (some ⟨w.heap.size, 0, none⟩) n n l := by
  subst hn
  exact SL.lit w 3 l cs hcs (by simp [maxLen]; omega) hf
theorem SL.litA (w : World) (l : List Int) {n : Nat} (cs : Array Value) (o : Obj) (hn : l.length = n) (hcs : cs = (l.map vint).toArray) (hm : n ≤ 1000000) (hf : ∀ x ∈ l, I64 x) :
    SL ((w.alloc (.cells cs 3)).alloc o) (some ⟨w.heap.size, 0, none⟩) n n l := (SL.lit' w l cs hn hcs hm hf).alloc o
theorem SL.lit2 (w : World) (l : List Int) {n : Nat} (cs : Array Value) (o : Obj) (hn : l.length = n) (hcs : cs = (l.map vint).toArray) (hm : n ≤ 1000000) (hf : ∀ x ∈ l, I64 x) :
    SL ((w.alloc o).alloc (.cells cs 3)) (some ⟨w.heap.size + 1, 0, none⟩) n n l := by
  have := SL.lit' (w.alloc o) l cs hn hcs hm hf
  simpa using this
theorem SL.on1 (h : SL w A n c l) (hb : Below (w.alloc o).heap.size (w.alloc o) w') : SL w' A n c l := (h.alloc o).below hb
theorem SL.on2 (h : SL w A n c l) (hb : Below ((w.alloc o).alloc o').heap.size ((w.alloc o).alloc o') w') : SL w' A n c l := ((h.alloc o).alloc o').below hb
theorem bstep0 {B : Nat} {w0 : World} (h : Below B w0 w) (hB : B ≤ w.heap.size) (k : Below w.heap.size w w') : Below B w0 w' := h.trans (k.mono hB)
theorem Bel.on0 {w0 : World} (h : Below w0.heap.size w0 w) (k : Below w.heap.size w w') : Below w0.heap.size w0 w' := h.trans (k.mono h.size)
theorem Bel.al {w0 : World} (h : Below w0.heap.size w0 w) (o : Obj) : Below w0.heap.size w0 (w.alloc o) := h.alloc h.size o
theorem Bel.on1 {w0 : World} (h : Below w0.heap.size w0 w) (k : Below (w.alloc o).heap.size (w.alloc o) w') : Below w0.heap.size w0 w' := Bel.on0 (Bel.al h o) k
theorem Bel.on2 {w0 : World} (h : Below w0.heap.size w0 w) (k : Below ((w.alloc o).alloc o').heap.size ((w.alloc o).alloc o') w') : Below w0.heap.size w0 w' := Bel.on0 (Bel.al (Bel.al h o) o') k
theorem small_i64 {l : List Int} (h : ∀ x ∈ l, -1000000000000 ≤ x ∧ x ≤ 1000000000000) : ∀ x ∈ l, I64 x := fun x hx => by have := h x hx; exact ⟨by omega, by omega⟩
end
end Go.Proofs.Ytmfdflfjllpceaa
