/- Slices that the call owns: carried over a store, over an iterator's step; appends and stores inside a fence; a box that holds such a slice while an iterator runs. -/
import Derived.Test.YtmfdflfjllpceaaZSt
import Derived.Test.YtmfdflfjllpceaaZRoundW
import Derived.Laws.EntriesVeiled
namespace Go.Proofs.Ytmfdflfjllpceaa
open Go.RowKit Go.Shelf
attribute [local go_sem] Oper.semAt_some

theorem SA.keep {α : Type} {e : Enc α} {w w' : World} {A : Option Addr} {n c : Nat} {l : List α} {Y : Nat → Prop} (h : SA e w A n c l) (hk : Keep Y w w') (hY : ∀ a, A = some a → 0 < n → Y a.block) : SA e w' A n c l :=
  ⟨h.1, h.2.1, h.2.2.1, h.2.2.2.1, fun hn => by
    obtain ⟨b, o, e1, hb, hc⟩ := h.2.2.2.2 hn
    exact ⟨b, o, e1, Nat.lt_of_lt_of_le hb hk.1, fun j u hu => hk.cell (p := ⟨b, o + j, none⟩) (show Y b from hY ⟨b, o, none⟩ e1 hn) (hc j u hu)⟩⟩
/-- An append whose equation is known, inside a fence. -/
theorem wpListIn_append_eq {F : Fence} {n : Nat} {P : Program} {w w' : World} {ops : Array Oper} {rest : List Oper} {o : Oper} {a : Act} {Q : Exit → Act → World → Prop} {v v1 v2 : Value}
    (hg : o.guard = none) (s x : Operand) (t : TypeId) (hop : o.op = Op.call { callee := Callee.builtin Builtin.append, args := #[s, x], argTypes := #[t, t] }) (hs : a.eval s = v1) (hx : a.eval x = v2)
    (hrun : (Builtin.append_ #[t, t] o.type #[v1, v2]).run P w = .ok v w') (h : wpListIn F n P ops Q rest (a.put o.dst v) w') : wpListIn F n P ops Q (o :: rest) a w := by
  refine wpListIn_plain hg fun K hK' => ?_
  unfold Oper.wpIn
  refine ⟨?_, ?_⟩
  · simp [Oper.about, hop, resolve, Target.leads, Sem.run_pure]
  · rw [Oper.semAt_eq _ _ _ (by rw [hop]; intro c hc'; cases hc')]
    simp [execOp, hop, resolve, invoke, builtin, hs, hx, hrun, Result.andThen]
    exact hK' _ _ h
theorem wpIn_region_still_tailR {P : Program} {Q : Exit → Act → World → Prop} {id n l : Nat} {l' : List Oper} {a : Act} {w : World} (m : Nat) (hm : P.follows .mixedOrders = true) (hB : Region.lexTailB .any l'.toArray m = true) (hd : noDefer l' = true) (hQ : ¬ LetsOut Q)
    (h : wpStill P l'.toArray w.drew (fun a' => wpList P l'.toArray Q (l'.drop m) a' w.drew) (l'.take m) a) : (Code.region id l'.toArray true).wpIn (FW.inRound l) n P Q a w := by
  simp only [Region.lexTailB, Bool.and_eq_true, decide_eq_true_eq] at hB
  obtain ⟨⟨⟨⟨hsel, hn⟩, hs⟩, hc⟩, hlex⟩ := hB
  have hn' : m < l'.length := by simpa using hn
  have htl : (l'.take m).length = m := by simp; omega
  have hdl : (l'.drop m).length = l'.toArray.size - m := by simp
  have inv0 : HeadInv .any l'.toArray m (Array.replicate l'.toArray.size false) :=
    ⟨by simp, fun j oj _ hl => (by rw [getD_replicate_false] at hl; cases hl), fun t _ ht => getD_in (by simpa using ht) (getD_replicate_false _ _)⟩
  have H := wpAnyL_lex (md := .any) (g := l'.toArray.size - m) hsel hs hc hn (l'.take m) 0 _ a (fun j hj => by
    have hj' : j < m := by rw [htl] at hj; exact hj
    simp [hj']) (by simpa using htl) inv0 (by rw [htl]; exact hlex) h
  refine wpIn_region_any hm (noDefer_spec hd) hQ ?_
  have := wpAny_of_head (Q' := Q) (g := l'.toArray.size - m) (fun listed a' hL => by
    have := wpAny_of_seq (md := .any) (Q' := Q) (l'.drop m) m listed a' { w with drawn := w.drawn + 1 } (fun j => by simp [List.getElem?_drop]) (by rw [hdl]; exact hL.1) hL.2
    rwa [hdl] at this) _ _ _ H
  rw [htl, show m + (l'.toArray.size - m) = l'.toArray.size by omega] at this
  exact this
theorem OA.far {α : Type} {e : Enc α} {w : World} {B : Nat} {A : Option Addr} {n c : Nat} {l : List α} (h : OA e w B A n c l) {p : Addr} (hp : p.block < B) (v : Value) : OA e (w.setCell p v) B A n c l := by
  refine ⟨⟨h.own.1, ?_⟩⟩
  rcases h.own.2 with h2 | ⟨g, cap, cur, hv, hB, hh, h3⟩
  · exact .inl h2
  · exact .inr ⟨g, cap, cur, hv, hB, (Below.heap_setCell _ _ _ g (by omega)).trans hh, h3⟩
theorem OA.mono {α : Type} {e : Enc α} {w : World} {B C : Nat} {A : Option Addr} {n c : Nat} {l : List α} (h : OA e w B A n c l) (hc : C ≤ B) : OA e w C A n c l := by
  refine ⟨⟨h.own.1, ?_⟩⟩
  rcases h.own.2 with h2 | ⟨g, cap, cur, hv, hB, hh, h3⟩
  · exact .inl h2
  · exact .inr ⟨g, cap, cur, hv, Nat.le_trans hc hB, hh, h3⟩
theorem OA.stp {α : Type} {e : Enc α} {W W' : World} {X X' : Nat → Prop} {B : Nat} {A : Option Addr} {n c : Nat} {l : List α} (h : OA e W B A n c l) (hs : Stp X X' W W') (hX : ∀ a, A = some a → ¬ X a.block) : OA e W' B A n c l := by
  refine ⟨⟨h.own.1, ?_⟩⟩
  rcases h.own.2 with h2 | ⟨g, cap, cur, hv, hB, hh, h3⟩
  · exact .inl h2
  · refine .inr ⟨g, cap, cur, hv, hB, ?_, h3⟩
    injection hv with e1 e2 e3
    subst e1
    exact hs.blk (t := e.E) (cs := cur) (hX _ rfl) hh
/-- A store whose cell is known, inside a fence. -/
theorem wpListIn_store_eq {F : Fence} {n : Nat} {P : Program} {w : World} {ops : Array Oper} {rest : List Oper} {o : Oper} {a : Act} {Q : Exit → Act → World → Prop} {p : Addr} {v : Value}
    (hg : o.guard = none) (s x : Operand) (t : TypeId) (hop : o.op = .store t s x) (_hs : a.eval s = .pointer (some p)) (_hx : a.eval x = v)
    (hrun : (execOp a.eval o).run P w = .ok .skip (w.setCell p v)) (h : wpListIn F n P ops Q rest (a.put o.dst undef) (w.setCell p v)) : wpListIn F n P ops Q (o :: rest) a w := by
  refine wpListIn_plain hg fun K hK' => ?_
  unfold Oper.wpIn
  refine ⟨?_, ?_⟩
  · simp [Oper.about, hop]
  · rw [Oper.semAt_eq _ _ _ (by rw [hop]; intro c hc'; cases hc')]
    rw [hrun]
    exact hK' _ _ h
section
variable {α : Type} {e : Enc α}
/-- A block of the own slice. -/
theorem OA.blk {W : World} {B n c : Nat} {A : Option Addr} {l : List α} (h : OA e W B A n c l) {a : Addr} (ha : A = some a) : B ≤ a.block ∧ a.block < W.heap.size := by
  rcases h.own.2 with ⟨hv, _⟩ | ⟨g, cap, cur, hv, hB, hh, _⟩
  · injection hv with e1; rw [e1] at ha; cases ha
  · injection hv with e1
    rw [e1] at ha
    injection ha with ha
    subst ha
    exact ⟨hB, Blk.lt (t := e.E) (cs := cur) hh⟩
/-- While an iterator runs: box Bx holds a slice of the call's own (its block from S3 on, none of the iterator's) that reads as x. -/
def BoxJ (e : Enc α) (w : World) (Bx S3 : Nat) (x : List α) (X : Nat → Prop) (W : World) : Prop :=
  (∃ A n c, Blk W Bx e.S #[.slice A n c] ∧ OA e W S3 A n c x ∧ ∀ a, A = some a → ¬ X a.block) ∧ Below Bx w W ∧ S3 ≤ W.heap.size ∧ ∀ k, X k → S3 ≤ k ∧ k < W.heap.size
theorem BoxJ.abides (w : World) (Bx S3 : Nat) (h : Bx < S3) : AbidesX (BoxJ e w Bx S3) := by
  rintro pre X X' W W' ⟨⟨A, n, c, h1, h2, h3⟩, h4, h5, h6⟩ hp
  have hb : Below S3 W W' := hp.below (fun k hk => (h6 k hk).1) h5
  refine ⟨⟨A, n, c, h1.below hb h, h2.stp hp h3, fun a ha hx => ?_⟩, h4.trans (hb.mono (by omega)), Nat.le_trans h5 hp.size, fun k hk => (hp.new k hk).elim (fun h => ⟨(h6 k h).1, Nat.lt_of_lt_of_le (h6 k h).2 hp.size⟩) (fun h => ⟨Nat.le_trans h5 h.1, h.2⟩)⟩
  rcases hp.new _ hx with h7 | ⟨h7, _⟩
  · exact h3 a ha h7
  · have := (h2.blk ha).2; omega
theorem box_app {w W2 W3 : World} {Bx S3 no co : Nat} {Ao Al : Option Addr} {x : List α} {y : α} {X Y : Nat → Prop} (hBS : Bx < S3) (hBx : Blk W2 Bx e.S #[.slice Ao no co]) (hOA : OA e W2 S3 Ao no co x) (hnX : ∀ a, Ao = some a → ¬ X a.block)
    (hBel : Below Bx w W2) (hS3 : S3 ≤ W2.heap.size) (hXr : ∀ k, X k → S3 ≤ k ∧ k < W2.heap.size) (hb : Below W2.heap.size W2 W3) (hs : SA e W3 Al 1 1 [y]) (hno : no ≤ 34359738368) (_hw : Bx ≤ w.heap.size)
    (hY : ∀ k, Y k → (k < S3 ∧ k ≠ Bx) ∨ X k) :
    ∃ A' c' w', (Builtin.append_ #[e.S, e.S] e.S #[.slice Ao no co, .slice Al 1 1]).run Try.prog W3 = .ok (.slice A' (no + 1) c') w' ∧ Blk w' Bx e.S #[.slice Ao no co] ∧
      Keep Y W2 (w'.setCell ⟨Bx, 0, none⟩ (.slice A' (no + 1) c')) ∧ BoxJ e w Bx S3 (x ++ [y]) X (w'.setCell ⟨Bx, 0, none⟩ (.slice A' (no + 1) c')) := by
  have h3 : S3 ≤ W3.heap.size := Nat.le_trans hS3 hb.size
  obtain ⟨A', c', w', e1, e2, e3, e4, e5⟩ := (hOA.below hb).app hs h3 (by omega)
  have hblk : ∀ k, k < W2.heap.size → (∀ a, Ao = some a → k ≠ a.block) → w'.heap[k]? = W2.heap[k]? := fun k hk hne => (e4 k (Nat.lt_of_lt_of_le hk hb.size) hne).trans (hb.block k hk)
  have hB' : Blk w' Bx e.S #[.slice Ao no co] := (hblk Bx (by omega) (fun a ha => by have := (hOA.blk ha).1; omega)).trans hBx
  have hsz : (w'.setCell ⟨Bx, 0, none⟩ (.slice A' (no + 1) c')).heap.size = w'.heap.size := by simp [World.setCell]
  refine ⟨A', c', w', e1, hB', ⟨by rw [hsz]; exact Nat.le_trans hb.size e3.size, fun k hk hkl => ?_⟩, ⟨A', no + 1, c', ?_, ?_, ?_⟩, ?_, ?_, ?_⟩
  · have hkB : k ≠ Bx := by
      rcases hY k hk with h5 | h5
      · exact h5.2
      · have := (hXr k h5).1; omega
    rw [Below.heap_setCell _ _ _ k hkB]
    refine hblk k hkl (fun a ha hka => ?_)
    rcases hY k hk with h5 | h5
    · have := (hOA.blk ha).1; omega
    · exact hnX a ha (hka ▸ h5)
  · have := hB'.set_ 0 (.slice A' (no + 1) c')
    simpa using this
  · exact e2.far (by show Bx < S3; exact hBS) _
  · intro a' ha' hX
    rcases e5 a' ha' with ⟨a, ha, hab⟩ | h5
    · exact hnX a ha (hab ▸ hX)
    · have h6 := (hXr _ hX).2
      have h7 := hb.size
      omega
  · have h8 : Below Bx w W3 := hBel.trans (hb.mono (by omega))
    exact (h8.trans (e3.mono (by omega))).setCell (by show Bx ≤ Bx; omega) _
  · rw [hsz]; exact Nat.le_trans h3 e3.size
  · intro k hk
    refine ⟨(hXr k hk).1, ?_⟩
    rw [hsz]
    exact Nat.lt_of_lt_of_le (hXr k hk).2 (Nat.le_trans hb.size e3.size)
end
end Go.Proofs.Ytmfdflfjllpceaa
