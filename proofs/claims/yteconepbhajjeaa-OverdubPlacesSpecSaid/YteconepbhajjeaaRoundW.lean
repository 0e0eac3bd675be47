/- Regions that draw their order in the wide fence, outside of a round (an iterator's own code). Over any program. -/
import Derived.Test.YteconepbhajjeaaTail
namespace Go.Proofs.Yteconepbhajjeaa
open Go.RowKit
variable {P : Program} {n l : Nat} {ops : Array Oper} {Q : Exit → Act → World → Prop} {a : Act} {w : World}

theorem wpInW_of_wp_op {o : Oper} {K : Act → World → Prop} (hd : ∀ c, o.op ≠ .defer c) (h : o.wp P a w K Q) : o.wpIn FW n P a w K Q := by
  refine ⟨fun _ _ => trivial, ?_⟩
  rw [Oper.semAt_eq _ _ _ hd]
  unfold Oper.wp at h
  generalize (execOp a.eval o).run P w = r at h ⊢
  cases r with
  | ok x w' =>
    cases x with
    | enter f args => exact ⟨fun h => by simp [Fence.wide] at h, callsIn_wide.2 h⟩
    | row r args => exact ⟨fun h => by simp [Fence.wide] at h, fun c cs _ => let ⟨v, w', r, s⟩ := h c cs; ⟨v, w', r, stepsIn_wide.2 s⟩⟩
    | round => exact (show False from h).elim
    | _ => exact h
  | halt x w' => cases x <;> exact h
theorem wpOpsInW_of_wpOps (hd : ∀ (i : Nat) (o : Oper), ops[i]? = some o → ∀ c, o.op ≠ .defer c) (hQ : ¬ LetsOut Q) (is : List Nat) : ∀ (a : Act) (w : World), wpOps P ops Q is a w → wpOpsIn FW n P ops Q is a w := by
  induction is with
  | nil => exact fun _ _ h => h
  | cons i is hK =>
    intro a w h
    unfold wpOps at h
    unfold wpOpsIn
    cases ho : ops[i]? with
    | none => simp only [ho] at h ⊢; exact hK a w h
    | some o =>
      simp only [ho] at h ⊢
      split
      · rename_i hw
        rw [if_pos hw] at h
        rcases h with h | h
        · exact Oper.wpIn_mono hK (wpInW_of_wp_op (hd i o ho) h)
        · exact absurd h.2 hQ
      · rename_i hw
        rw [if_neg hw] at h
        exact ⟨fun _ _ => trivial, hK _ _ h⟩
theorem wpInW_region_any {id : Nat} (hm : P.follows .mixedOrders = true) (hd : ∀ (i : Nat) (o : Oper), ops[i]? = some o → ∀ c, o.op ≠ .defer c) (hQ : ¬ LetsOut Q)
    (h : wpAny P .any ops Q ops.size (Array.replicate ops.size false) a { w with drawn := w.drawn + 1 }) : (Code.region id ops true).wpIn FW n P Q a w :=
  wpIn_region_draw fun t => by
    simp only [Region.schedule, hm, Bool.true_or, if_true]
    exact wpOpsInW_of_wpOps hd hQ _ _ _ (wpAny_sound ops.size t _ a _ h)
/-- The law of Derived/StillTail.lean (a quiet head, then a tail whose order is forced), in a round. -/
theorem wpInW_region_still_tail {id : Nat} {l' : List Oper} (m : Nat) (hm : P.follows .mixedOrders = true) (hB : Region.lexTailB .any l'.toArray m = true) (hd : noDefer l' = true) (hQ : ¬ LetsOut Q)
    (h : wpStill P l'.toArray w.drew (fun a' => wpList P l'.toArray Q (l'.drop m) a' w.drew) (l'.take m) a) : (Code.region id l'.toArray true).wpIn FW n P Q a w := by
  simp only [Region.lexTailB, Bool.and_eq_true, decide_eq_true_eq] at hB
  obtain ⟨⟨⟨⟨hsel, hn⟩, hs⟩, hc⟩, hlex⟩ := hB
  have hn' : m < l'.length := by simpa using hn
  have htl : (l'.take m).length = m := by simp; omega
  have hdl : (l'.drop m).length = l'.toArray.size - m := by simp
  have inv0 : HeadInv .any l'.toArray m (Array.replicate l'.toArray.size false) :=
    ⟨by simp, fun j oj _ hl => (by rw [getD_replicate_false] at hl; cases hl), fun t _ ht => getD_in (by simpa using ht) (getD_replicate_false _ _)⟩
  have H := wpAnyL_lex (md := .any) (g := l'.toArray.size - m) hsel hs hc hn (l'.take m) 0 _ a (fun j hj => by
    have hj' : j < m := by rw [htl] at hj; exact hj
    simp [hj']) (by simpa using htl) inv0 (by rw [htl]; exact hlex) h
  refine wpInW_region_any hm (noDefer_spec hd) hQ ?_
  have := wpAny_of_head (Q' := Q) (g := l'.toArray.size - m) (fun listed a' hL => by
    have := wpAny_of_seq (md := .any) (Q' := Q) (l'.drop m) m listed a' { w with drawn := w.drawn + 1 } (fun j => by simp [List.getElem?_drop]) (by rw [hdl]; exact hL.1) hL.2
    rwa [hdl] at this) _ _ _ H
  rw [htl, show m + (l'.toArray.size - m) = l'.toArray.size by omega] at this
  exact this
/-- The law of 'wp_region_ext', in a round. -/
theorem wpInW_region_ext {id : Nat} {l' : List Oper} (hm : P.follows .mixedOrders = true) (hB : Region.lexB .any l'.toArray = true) (hd : noDefer l' = true) (hQ : ¬ LetsOut Q)
    (h : wpQuiet P l'.toArray (fun w' => ∃ x : Ext w, w' = x.W) (fun a' => ∀ w', (∃ x : Ext w, w' = x.W) → Q .normal a' w') l' a) : (Code.region id l'.toArray true).wpIn FW n P Q a w := by
  simp only [Region.lexB, Bool.and_eq_true] at hB
  refine wpInW_region_any hm (noDefer_spec hd) hQ (wpAny_of_quiet (C := fun w' => ∃ x : Ext w, w' = x.W) (Q := fun a' => ∀ w', (∃ x : Ext w, w' = x.W) → Q .normal a' w') (fun _ w' hw' h => h w' hw') _ _ _ _ ⟨⟨_, (Below.refl _ w).drew⟩, rfl⟩ ?_)
  have := wpAnyQ_lex (C := fun w' => ∃ x : Ext w, w' = x.W) (md := .any) hB.1 l' 0 (Array.replicate l'.toArray.size false) a (by simp) (by simpa using hB.2) h
  simpa using this
/-- In the wide fence. -/
theorem wpInW_region_ext_tail {P : Program} {Q : Exit → Act → World → Prop} (n : Nat) {id m l : Nat} {l' : List Oper} {a : Act} {w : World} (hm : P.follows .mixedOrders = true) (hB : tailB (l'.take n) (l'.drop n) = true)
    (hd : noDefer l' = true) (hQ : ¬ LetsOut Q)
    (h : wpQuiet P (l'.take n).toArray (fun w' => ∃ x : Ext w, w' = x.W) (fun a' => ∀ w', (∃ x : Ext w, w' = x.W) → wpList P l'.toArray Q (l'.drop n) a' w') (l'.take n) a) :
    (Code.region id l'.toArray true).wpIn FW m P Q a w := wpInW_region_any hm (noDefer_spec hd) hQ (wpAny_ext_tail n hB h)

/-- Whatever the post says of other ways out: a region whose operations go through. -/
theorem wpInW_region_still_tail' {id : Nat} {l' : List Oper} (m : Nat) (hm : P.follows .mixedOrders = true) (hB : Region.lexTailB .any l'.toArray m = true) (hd : noDefer l' = true)
    (h : wpStill P l'.toArray w.drew (fun a' => wpList P l'.toArray (Exit.then (fun a w => Q .normal a w) (fun _ _ _ => False)) (l'.drop m) a' w.drew) (l'.take m) a) : (Code.region id l'.toArray true).wpIn FW n P Q a w :=
  wpIn_mono (wpInW_region_still_tail (Q := Exit.then (fun a w => Q .normal a w) (fun _ _ _ => False)) m hm hB hd (by rintro ⟨_, _, h⟩; exact h) h) (fun e a w h => by cases e <;> first | exact h | exact (h : False).elim)
theorem wpInW_region_ext_tail' {id : Nat} {l' : List Oper} (m : Nat) (hm : P.follows .mixedOrders = true) (hB : tailB (l'.take m) (l'.drop m) = true) (hd : noDefer l' = true)
    (h : wpQuiet P (l'.take m).toArray (fun w' => ∃ x : Ext w, w' = x.W) (fun a' => ∀ w', (∃ x : Ext w, w' = x.W) → wpList P l'.toArray (Exit.then (fun a w => Q .normal a w) (fun _ _ _ => False)) (l'.drop m) a' w') (l'.take m) a) :
    (Code.region id l'.toArray true).wpIn FW n P Q a w :=
  wpIn_mono (wpInW_region_ext_tail (l := 0) (Q := Exit.then (fun a w => Q .normal a w) (fun _ _ _ => False)) m hm hB hd (by rintro ⟨_, _, h⟩; exact h) h) (fun e a w h => by cases e <;> first | exact h | exact (h : False).elim)
theorem wpInW_region_ext' {id : Nat} {l' : List Oper} (hm : P.follows .mixedOrders = true) (hB : Region.lexB .any l'.toArray = true) (hd : noDefer l' = true)
    (h : wpQuiet P l'.toArray (fun w' => ∃ x : Ext w, w' = x.W) (fun a' => ∀ w', (∃ x : Ext w, w' = x.W) → Q .normal a' w') l' a) : (Code.region id l'.toArray true).wpIn FW n P Q a w :=
  wpIn_mono (wpInW_region_ext (Q := Exit.then (fun a w => Q .normal a w) (fun _ _ _ => False)) hm hB hd (by rintro ⟨_, _, h⟩; exact h) h) (fun e a w h => by cases e <;> first | exact h | exact (h : False).elim)
end Go.Proofs.Yteconepbhajjeaa
