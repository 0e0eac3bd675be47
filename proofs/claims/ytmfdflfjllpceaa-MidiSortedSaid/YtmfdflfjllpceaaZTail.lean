/- Regions that draw their order inside a round of a range over a function: the laws of the plain walk, lifted to the wide fence. Over any program. -/
import Derived.Test.YtmfdflfjllpceaaZSlice
import Derived.RangeFuncNested
import Derived.RangeFuncBound
import Derived.RangeFuncCalls
import Derived.RangeFuncLeaves
import Derived.Shelf.Abstract
import Derived.Shelf.RegionOpen
import Derived.OwnWalkIn
import Derived.TacticsInMore
import Derived.LoopNIn
import Derived.LoopIn
import Derived.StillTailTactics
/- Regions that draw their order inside a round of a range over a function: the laws of the plain walk, lifted to the wide fence. Over any program. -/
namespace Go.Proofs.Ytmfdflfjllpceaa
open Go.RowKit

abbrev FW : Fence := Fence.wide
variable {P : Program} {n l : Nat} {ops : Array Oper} {Q : Exit → Act → World → Prop} {a : Act} {w : World}

theorem wpIn_of_wp_op {o : Oper} {K : Act → World → Prop} (hd : ∀ c, o.op ≠ .defer c) (h : o.wp P a w K Q) : o.wpIn (FW.inRound l) n P a w K Q := by
  refine ⟨fun _ _ => trivial, ?_⟩
  rw [Oper.semAt_eq _ _ _ hd]
  unfold Oper.wp at h
  generalize (execOp a.eval o).run P w = r at h ⊢
  cases r with
  | ok x w' =>
    cases x with
    | enter f args => exact ⟨fun h => by simp [Fence.wide] at h, CallsIn.inRound l (callsIn_wide.2 h)⟩
    | row r args => exact ⟨fun h => by simp [Fence.wide] at h, fun c cs _ => let ⟨v, w', r, s⟩ := h c cs; ⟨v, w', r, stepsIn_wide.2 s⟩⟩
    | round => exact (show False from h).elim
    | _ => exact h
  | halt x w' => cases x <;> exact h
theorem wpOpsIn_of_wpOps (hd : ∀ (i : Nat) (o : Oper), ops[i]? = some o → ∀ c, o.op ≠ .defer c) (hQ : ¬ LetsOut Q) (is : List Nat) : ∀ (a : Act) (w : World), wpOps P ops Q is a w → wpOpsIn (FW.inRound l) n P ops Q is a w := by
  induction is with
  | nil => exact fun _ _ h => h
  | cons i is hK =>
    intro a w h
    unfold wpOps at h
    unfold wpOpsIn
    cases ho : ops[i]? with
    | none => simp only [ho] at h ⊢; exact hK a w h
    | some o =>
      simp only [ho] at h ⊢
      split
      · rename_i hw
        rw [if_pos hw] at h
        rcases h with h | h
        · exact Oper.wpIn_mono hK (wpIn_of_wp_op (hd i o ho) h)
        · exact absurd h.2 hQ
      · rename_i hw
        rw [if_neg hw] at h
        exact ⟨fun _ _ => trivial, hK _ _ h⟩
theorem wpIn_region_any {id : Nat} (hm : P.follows .mixedOrders = true) (hd : ∀ (i : Nat) (o : Oper), ops[i]? = some o → ∀ c, o.op ≠ .defer c) (hQ : ¬ LetsOut Q)
    (h : wpAny P .any ops Q ops.size (Array.replicate ops.size false) a { w with drawn := w.drawn + 1 }) : (Code.region id ops true).wpIn (FW.inRound l) n P Q a w :=
  wpIn_region_draw fun t => by
    simp only [Region.schedule, hm, Bool.true_or, if_true]
    exact wpOpsIn_of_wpOps hd hQ _ _ _ (wpAny_sound ops.size t _ a _ h)
def noDefer (l : List Oper) : Bool := l.all fun o => match o.op with | .defer _ => false | _ => true
theorem noDefer_spec {l : List Oper} (h : noDefer l = true) : ∀ (i : Nat) (o : Oper), l.toArray[i]? = some o → ∀ c, o.op ≠ .defer c := by
  intro i o ho c hc
  have hm : o ∈ l := by
    rw [List.getElem?_toArray] at ho
    exact List.mem_of_getElem? ho
  have := List.all_eq_true.1 h o hm
  simp [hc] at this
/-- The law of Derived/StillTail.lean (a quiet head, then a tail whose order is forced), in a round. -/
theorem wpIn_region_still_tail {id : Nat} {l' : List Oper} (m : Nat) (hm : P.follows .mixedOrders = true) (hB : Region.lexTailB .any l'.toArray m = true) (hd : noDefer l' = true) (hQ : ¬ LetsOut Q)
    (h : wpStill P l'.toArray w.drew (fun a' => wpList P l'.toArray Q (l'.drop m) a' w.drew) (l'.take m) a) : (Code.region id l'.toArray true).wpIn (FW.inRound l) n P Q a w := by
  simp only [Region.lexTailB, Bool.and_eq_true, decide_eq_true_eq] at hB
  obtain ⟨⟨⟨⟨hsel, hn⟩, hs⟩, hc⟩, hlex⟩ := hB
  have hn' : m < l'.length := by simpa using hn
  have htl : (l'.take m).length = m := by simp; omega
  have hdl : (l'.drop m).length = l'.toArray.size - m := by simp
  have inv0 : HeadInv .any l'.toArray m (Array.replicate l'.toArray.size false) :=
    ⟨by simp, fun j oj _ hl => (by rw [getD_replicate_false] at hl; cases hl), fun t _ ht => getD_in (by simpa using ht) (getD_replicate_false _ _)⟩
  have H := wpAnyL_lex (md := .any) (g := l'.toArray.size - m) hsel hs hc hn (l'.take m) 0 _ a (fun j hj => by
    have hj' : j < m := by rw [htl] at hj; exact hj
    simp [hj']) (by simpa using htl) inv0 (by rw [htl]; exact hlex) h
  refine wpIn_region_any hm (noDefer_spec hd) hQ ?_
  have := wpAny_of_head (Q' := Q) (g := l'.toArray.size - m) (fun listed a' hL => by
    have := wpAny_of_seq (md := .any) (Q' := Q) (l'.drop m) m listed a' { w with drawn := w.drawn + 1 } (fun j => by simp [List.getElem?_drop]) (by rw [hdl]; exact hL.1) hL.2
    rwa [hdl] at this) _ _ _ H
  rw [htl, show m + (l'.toArray.size - m) = l'.toArray.size by omega] at this
  exact this
/-- The law of 'wp_region_ext', in a round. -/
theorem wpIn_region_ext {id : Nat} {l' : List Oper} (hm : P.follows .mixedOrders = true) (hB : Region.lexB .any l'.toArray = true) (hd : noDefer l' = true) (hQ : ¬ LetsOut Q)
    (h : wpQuiet P l'.toArray (fun w' => ∃ x : Ext w, w' = x.W) (fun a' => ∀ w', (∃ x : Ext w, w' = x.W) → Q .normal a' w') l' a) : (Code.region id l'.toArray true).wpIn (FW.inRound l) n P Q a w := by
  simp only [Region.lexB, Bool.and_eq_true] at hB
  refine wpIn_region_any hm (noDefer_spec hd) hQ (wpAny_of_quiet (C := fun w' => ∃ x : Ext w, w' = x.W) (Q := fun a' => ∀ w', (∃ x : Ext w, w' = x.W) → Q .normal a' w') (fun _ w' hw' h => h w' hw') _ _ _ _ ⟨⟨_, (Below.refl _ w).drew⟩, rfl⟩ ?_)
  have := wpAnyQ_lex (C := fun w' => ∃ x : Ext w, w' = x.W) (md := .any) hB.1 l' 0 (Array.replicate l'.toArray.size false) a (by simp) (by simpa using hB.2) h
  simpa using this
end Go.Proofs.Ytmfdflfjllpceaa

/- A region that draws its order: the head's operations yield one value each in every later world, the tail's wait for all of them, one behind another: one walk. Over any program. -/
namespace Go.Proofs.Ytmfdflfjllpceaa
open Go.RowKit

instance {w : World} : Nonempty (Ext w) := ⟨⟨w, Below.refl _ w⟩⟩
/-- No guard; each head operation waits for earlier ones alone; the first of the tail for every head operation, each later one for the one before it; the tail's order is forced. -/
def tailB (l tl : List Oper) : Bool :=
  (l.zipIdx.all fun (x, i) => x.guard.isNone && x.after.toList.all fun e => decide (e.on < i)) && Region.noSelect l.toArray &&
  ((List.range l.length).all fun j => (tl[0]?.map fun o => o.after.toList.any fun e => Region.binds .any e && decide (e.on = j)).getD true) &&
  ((List.range tl.length).all fun t => decide (t = 0) || (tl[t]?.map fun o => o.after.toList.any fun e => Region.binds .any e && decide (e.on + 1 = l.length + t)).getD true) &&
  Region.lexB .any l.toArray &&
  Region.seqB .any (l ++ tl).toArray tl.length l.length (Array.replicate l.length true ++ Array.replicate tl.length false)
section
variable {P : Program} {l tl : List Oper} {C : World → Prop} {Q : Exit → Act → World → Prop}
structure TailOk (l tl : List Oper) : Prop where
  none : ∀ (i : Nat) (hi : i < l.length), l[i].guard = none
  early : ∀ (i : Nat) (hi : i < l.length), ∀ e ∈ l[i].after, e.on < i
  all : ∀ o, tl[0]? = some o → ∀ j, j < l.length → ∃ e ∈ o.after, Region.binds .any e = true ∧ e.on = j
  chain : ∀ t o, 0 < t → tl[t]? = some o → ∃ e ∈ o.after, Region.binds .any e = true ∧ e.on + 1 = l.length + t
  lex : Region.lexB .any l.toArray = true
  seq : Region.seqB .any (l ++ tl).toArray tl.length l.length (Array.replicate l.length true ++ Array.replicate tl.length false) = true
theorem tailB_spec (h : tailB l tl = true) : TailOk l tl := by
  simp only [tailB, Bool.and_eq_true, List.all_eq_true, decide_eq_true_eq, List.mem_range, Option.isNone_iff_eq_none, Array.mem_toList_iff] at h
  obtain ⟨⟨⟨⟨⟨h1, _⟩, h2⟩, h3⟩, h4⟩, h5⟩ := h
  refine ⟨fun i hi => ?_, fun i hi => ?_, fun o ho j hj => ?_, fun t o ht ho => ?_, h4, h5⟩
  · exact (h1 (l[i], i) (by rw [List.mem_zipIdx_iff_getElem?]; simp [hi])).1
  · exact (h1 (l[i], i) (by rw [List.mem_zipIdx_iff_getElem?]; simp [hi])).2
  · have := h2 j hj
    simp only [ho, Option.map_some, Option.getD_some, List.any_eq_true, Bool.and_eq_true, decide_eq_true_eq, Array.mem_toList_iff] at this
    exact this
  · have h6 := h3 t (List.getElem?_eq_some_iff.1 ho).1
    simp only [ho, Option.map_some, Option.getD_some, List.any_eq_true, Bool.and_eq_true, decide_eq_true_eq, Array.mem_toList_iff, Bool.or_eq_true] at h6
    rcases h6 with h6 | h6
    · omega
    · exact h6

theorem wpAny_more {ops : Array Oper} : ∀ (f : Nat) (listed : Array Bool) (a : Act) (w : World), wpAny P .any ops Q f listed a w → wpAny P .any ops Q (f + 1) listed a w
  | 0, listed, a, w, h => ⟨fun _ => h.2, fun i hi => by rw [h.1] at hi; cases hi⟩
  | f + 1, listed, a, w, h => ⟨h.1, fun i hi => wpOp_mono (fun a' w' h' => wpAny_more f _ a' w' h') (h.2 i hi)⟩
theorem wpAny_plus {ops : Array Oper} (g : Nat) {f : Nat} {listed : Array Bool} {a : Act} {w : World} (h : wpAny P .any ops Q g listed a w) : wpAny P .any ops Q (f + g) listed a w := by
  induction f with
  | zero => rwa [Nat.zero_add]
  | succ f ih => rw [show f + 1 + g = (f + g) + 1 by omega]; exact wpAny_more _ _ _ _ ih

theorem all_listed (T : TailOk l tl) {listed : Array Bool} (hs : listed.size = l.length) (h : Region.ready .any l.toArray listed = []) : listed = Array.replicate l.length true := by
  have key : ∀ j, j < l.length → listed.getD j false = true := by
    intro j
    induction j using Nat.strongRecOn with
    | _ j ih =>
      intro hj
      cases hc : listed.getD j false with
      | true => rfl
      | false =>
        have hm : j ∈ Region.ready .any l.toArray listed := by
          rw [mem_ready]
          refine ⟨?_, l[j], by simp [hj], fun e he _ => ih e.on (T.early j hj e he) (by have := T.early j hj e he; omega)⟩
          have hj' : j < listed.size := by omega
          simp [hj'] at hc ⊢
          exact hc
        rw [h] at hm
        cases hm
  apply Array.ext
  · simp [hs]
  · intro i hi _
    have := key i (by omega)
    simp [hi] at this ⊢
    exact this

theorem wpAny_tail (T : TailOk l tl) : ∀ (f : Nat) (listed : Array Bool) (a : Act) (w : World), listed.size = l.length → C w →
    wpAnyQ P .any l.toArray C (fun a' => ∀ w', C w' → wpList P (l ++ tl).toArray Q tl a' w') f listed a →
    wpAny P .any (l ++ tl).toArray Q (f + tl.length) (listed ++ Array.replicate tl.length false) a w := by
  have hdone : ∀ (f : Nat) (listed : Array Bool) (a : Act) (w : World), listed.size = l.length → C w → Region.ready .any l.toArray listed = [] →
      (∀ w', C w' → wpList P (l ++ tl).toArray Q tl a w') → wpAny P .any (l ++ tl).toArray Q (f + tl.length) (listed ++ Array.replicate tl.length false) a w := by
    intro f listed a w hs hw h0 hK
    rw [all_listed T hs h0]
    exact wpAny_plus _ (wpAny_of_seq tl l.length _ a w (fun j => by simp [List.getElem?_append_right]) T.seq (hK w hw))
  intro f
  induction f with
  | zero =>
    intro listed a w hs hw h
    exact hdone 0 listed a w hs hw h.1 h.2
  | succ f ih =>
    intro listed a w hs hw h
    by_cases h0 : Region.ready .any l.toArray listed = []
    · exact hdone (f + 1) listed a w hs hw h0 (h.1 h0)
    · obtain ⟨r, hr⟩ := List.exists_mem_of_ne_nil _ h0
      have hle : ∀ i, i < l.length → (listed ++ Array.replicate tl.length false).getD i true = listed.getD i true := fun i hi => by
        have : i < listed.size := by omega
        simp [Array.getElem?_append_left this]
      have hle' : ∀ i, i < l.length → (listed ++ Array.replicate tl.length false).getD i false = listed.getD i false := fun i hi => by
        have : i < listed.size := by omega
        simp [Array.getElem?_append_left this]
      have hrt : ∀ i, l.length ≤ i → (listed ++ Array.replicate tl.length false).getD i false = false := fun i hi => by
        have h5 : listed.size ≤ i := by omega
        rw [Array.getD_eq_getD_getElem?, Array.getElem?_append_right h5]
        by_cases h6 : i - listed.size < tl.length
        · simp [h6]
        · simp [Nat.le_of_not_lt h6]
      have hrd := mem_ready.1 hr
      obtain ⟨hr0, ro, hro, hra⟩ := hrd
      have hrl : r < l.length := by
        have := (List.getElem?_eq_some_iff.1 (by simpa using hro)).1
        exact this
      have hrun : listed.getD r false = false := getD_both hr0
      have hto : ∀ i, i ∈ Region.ready .any (l ++ tl).toArray (listed ++ Array.replicate tl.length false) → i < l.length ∧ i ∈ Region.ready .any l.toArray listed := by
        intro i hi
        obtain ⟨hi0, o, ho, hall⟩ := mem_ready.1 hi
        have ho' : (l ++ tl)[i]? = some o := by simpa using ho
        by_cases hil : i < l.length
        · have hol : l[i] = o := by rw [List.getElem?_append_left hil, List.getElem?_eq_getElem hil] at ho'; exact Option.some.inj ho'
          refine ⟨hil, mem_ready.2 ⟨by rw [← hle i hil]; exact hi0, o, by simp [hil, hol], fun e he hb => ?_⟩⟩
          have h5 := hall e he hb
          rwa [hle' e.on (by have := T.early i hil e (by rw [hol]; exact he); omega)] at h5
        · exfalso
          rw [List.getElem?_append_right (by omega)] at ho'
          by_cases hi1 : i = l.length
          · obtain ⟨e, he, hb, hon⟩ := T.all o (by rw [← ho', hi1]; simp) r hrl
            have h5 := hall e he hb
            rw [hon, hle' r hrl, hrun] at h5
            cases h5
          · obtain ⟨e, he, hb, hon⟩ := T.chain (i - l.length) o (by omega) ho'
            have h5 := hall e he hb
            rw [hrt e.on (by omega)] at h5
            cases h5
      have hfrom : r ∈ Region.ready .any (l ++ tl).toArray (listed ++ Array.replicate tl.length false) := by
        refine mem_ready.2 ⟨by rw [hle r hrl]; exact hr0, ro, ?_, fun e he hb => ?_⟩
        · have : l[r]? = some ro := by simpa using hro
          simp [List.getElem?_append_left hrl, this]
        · have hol : l[r] = ro := by have : l[r]? = some ro := by simpa using hro
                                     rw [List.getElem?_eq_getElem hrl] at this; exact Option.some.inj this
          rw [hle' e.on (by have := T.early r hrl e (by rw [hol]; exact he); omega)]
          exact hra e he hb
      rw [show f + 1 + tl.length = (f + tl.length) + 1 by omega]
      refine ⟨fun h5 => (by rw [h5] at hfrom; cases hfrom), fun i hi => ?_⟩
      obtain ⟨hil, hih⟩ := hto i hi
      have hq := h.2 i hih
      have hset : (listed ++ Array.replicate tl.length false).setIfInBounds i true = listed.setIfInBounds i true ++ Array.replicate tl.length false := by
        rw [Array.setIfInBounds_append_left (by omega)]
      rw [hset]
      have hg : ∀ y, Region.wanted l[i] y = true := fun y => by simp [Region.wanted, T.none i hil]
      unfold qOp at hq
      have h6 : l.toArray[i]? = some l[i] := by simp [hil]
      have h7 : (l ++ tl).toArray[i]? = some l[i] := by simp [List.getElem?_append_left hil, hil]
      simp only [h6, hg, if_true] at hq
      unfold wpOp
      simp only [h7, hg, if_true]
      exact .inl (Oper.wp_of_quiet hw (fun a' w' hw' hk => ih _ a' w' (by simp [hs]) hw' hk) hq)

theorem wpAny_ext_tail (n : Nat) {l' : List Oper} {a : Act} {w : World} (hB : tailB (l'.take n) (l'.drop n) = true)
    (h : wpQuiet P (l'.take n).toArray (fun w' => ∃ x : Ext w, w' = x.W) (fun a' => ∀ w', (∃ x : Ext w, w' = x.W) → wpList P l'.toArray Q (l'.drop n) a' w') (l'.take n) a) :
    wpAny P .any l'.toArray Q l'.toArray.size (Array.replicate l'.toArray.size false) a { w with drawn := w.drawn + 1 } := by
  have T := tailB_spec hB
  have hlex := T.lex
  simp only [Region.lexB, Bool.and_eq_true] at hlex
  have hs : l'.take n ++ l'.drop n = l' := List.take_append_drop n l'
  have hlen : (l'.take n).length + (l'.drop n).length = l'.length := by rw [← List.length_append, hs]
  have H := wpAny_tail (P := P) (Q := Q) (C := fun w' => ∃ x : Ext w, w' = x.W) T (l'.take n).length (Array.replicate (l'.take n).length false) a { w with drawn := w.drawn + 1 } (by simp) ⟨⟨_, (Below.refl _ w).drew⟩, rfl⟩
    (wpAnyQ_lex (md := .any) hlex.1 (l'.take n) 0 _ a (by simp) (by simpa using hlex.2) (by rw [hs]; exact h))
  rw [hs, hlen, Array.replicate_append_replicate, hlen] at H
  simpa using H
end
/-- The plain walk. -/
theorem wp_region_ext_tail {P : Program} {Q : Exit → Act → World → Prop} (n : Nat) {id : Nat} {l' : List Oper} {a : Act} {w : World} (hm : P.follows .mixedOrders = true) (hB : tailB (l'.take n) (l'.drop n) = true)
    (h : wpQuiet P (l'.take n).toArray (fun w' => ∃ x : Ext w, w' = x.W) (fun a' => ∀ w', (∃ x : Ext w, w' = x.W) → wpList P l'.toArray Q (l'.drop n) a' w') (l'.take n) a) :
    (Code.region id l'.toArray true).wp P Q a w := wp_region_any hm (wpAny_ext_tail n hB h)
/-- In a round of a range over a function. -/
theorem wpIn_region_ext_tail {P : Program} {Q : Exit → Act → World → Prop} (n : Nat) {id m l : Nat} {l' : List Oper} {a : Act} {w : World} (hm : P.follows .mixedOrders = true) (hB : tailB (l'.take n) (l'.drop n) = true)
    (hd : noDefer l' = true) (hQ : ¬ LetsOut Q)
    (h : wpQuiet P (l'.take n).toArray (fun w' => ∃ x : Ext w, w' = x.W) (fun a' => ∀ w', (∃ x : Ext w, w' = x.W) → wpList P l'.toArray Q (l'.drop n) a' w') (l'.take n) a) :
    (Code.region id l'.toArray true).wpIn (FW.inRound l) m P Q a w := wpIn_region_any hm (noDefer_spec hd) hQ (wpAny_ext_tail n hB h)
end Go.Proofs.Ytmfdflfjllpceaa
