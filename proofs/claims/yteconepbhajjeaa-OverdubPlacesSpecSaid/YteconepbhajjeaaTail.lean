/- A region that draws its order: the head's operations yield one value each in every later world, the tail's wait for all of them, one behind another: one walk. Over any program. -/
import Derived.Test.YteconepbhajjeaaRound
namespace Go.Proofs.Yteconepbhajjeaa
open Go.RowKit

instance {w : World} : Nonempty (Ext w) := ⟨⟨w, Below.refl _ w⟩⟩
/-- No guard; each head operation waits for earlier ones alone; the first of the tail for every head operation, each later one for the one before it; the tail's order is forced. -/
def tailB (l tl : List Oper) : Bool :=
  (l.zipIdx.all fun (x, i) => x.guard.isNone && x.after.toList.all fun e => decide (e.on < i)) && Region.noSelect l.toArray &&
  ((List.range l.length).all fun j => (tl[0]?.map fun o => o.after.toList.any fun e => Region.binds .any e && decide (e.on = j)).getD true) &&
  ((List.range tl.length).all fun t => decide (t = 0) || (tl[t]?.map fun o => o.after.toList.any fun e => Region.binds .any e && decide (e.on + 1 = l.length + t)).getD true) &&
  Region.lexB .any l.toArray &&
  Region.seqB .any (l ++ tl).toArray tl.length l.length (Array.replicate l.length true ++ Array.replicate tl.length false)
section
variable {P : Program} {l tl : List Oper} {C : World → Prop} {Q : Exit → Act → World → Prop}
structure TailOk (l tl : List Oper) : Prop where
  none : ∀ (i : Nat) (hi : i < l.length), l[i].guard = none
  early : ∀ (i : Nat) (hi : i < l.length), ∀ e ∈ l[i].after, e.on < i
  all : ∀ o, tl[0]? = some o → ∀ j, j < l.length → ∃ e ∈ o.after, Region.binds .any e = true ∧ e.on = j
  chain : ∀ t o, 0 < t → tl[t]? = some o → ∃ e ∈ o.after, Region.binds .any e = true ∧ e.on + 1 = l.length + t
  lex : Region.lexB .any l.toArray = true
  seq : Region.seqB .any (l ++ tl).toArray tl.length l.length (Array.replicate l.length true ++ Array.replicate tl.length false) = true
theorem tailB_spec (h : tailB l tl = true) : TailOk l tl := by
  simp only [tailB, Bool.and_eq_true, List.all_eq_true, decide_eq_true_eq, List.mem_range, Option.isNone_iff_eq_none, Array.mem_toList_iff] at h
  obtain ⟨⟨⟨⟨⟨h1, _⟩, h2⟩, h3⟩, h4⟩, h5⟩ := h
  refine ⟨fun i hi => ?_, fun i hi => ?_, fun o ho j hj => ?_, fun t o ht ho => ?_, h4, h5⟩
  · exact (h1 (l[i], i) (by rw [List.mem_zipIdx_iff_getElem?]; simp [hi])).1
  · exact (h1 (l[i], i) (by rw [List.mem_zipIdx_iff_getElem?]; simp [hi])).2
  · have := h2 j hj
    simp only [ho, Option.map_some, Option.getD_some, List.any_eq_true, Bool.and_eq_true, decide_eq_true_eq, Array.mem_toList_iff] at this
    exact this
  · have h6 := h3 t (List.getElem?_eq_some_iff.1 ho).1
    simp only [ho, Option.map_some, Option.getD_some, List.any_eq_true, Bool.and_eq_true, decide_eq_true_eq, Array.mem_toList_iff, Bool.or_eq_true] at h6
    rcases h6 with h6 | h6
    · omega
    · exact h6

theorem wpAny_more {ops : Array Oper} : ∀ (f : Nat) (listed : Array Bool) (a : Act) (w : World), wpAny P .any ops Q f listed a w → wpAny P .any ops Q (f + 1) listed a w
  | 0, listed, a, w, h => ⟨fun _ => h.2, fun i hi => by rw [h.1] at hi; cases hi⟩
  | f + 1, listed, a, w, h => ⟨h.1, fun i hi => wpOp_mono (fun a' w' h' => wpAny_more f _ a' w' h') (h.2 i hi)⟩
theorem wpAny_plus {ops : Array Oper} (g : Nat) {f : Nat} {listed : Array Bool} {a : Act} {w : World} (h : wpAny P .any ops Q g listed a w) : wpAny P .any ops Q (f + g) listed a w := by
  induction f with
  | zero => rwa [Nat.zero_add]
  | succ f ih => rw [show f + 1 + g = (f + g) + 1 by omega]; exact wpAny_more _ _ _ _ ih

theorem all_listed (T : TailOk l tl) {listed : Array Bool} (hs : listed.size = l.length) (h : Region.ready .any l.toArray listed = []) : listed = Array.replicate l.length true := by
  have key : ∀ j, j < l.length → listed.getD j false = true := by
    intro j
    induction j using Nat.strongRecOn with
    | _ j ih =>
      intro hj
      cases hc : listed.getD j false with
      | true => rfl
      | false =>
        have hm : j ∈ Region.ready .any l.toArray listed := by
          rw [mem_ready]
          refine ⟨?_, l[j], by simp [hj], fun e he _ => ih e.on (T.early j hj e he) (by have := T.early j hj e he; omega)⟩
          have hj' : j < listed.size := by omega
          simp [hj'] at hc ⊢
          exact hc
        rw [h] at hm
        cases hm
  apply Array.ext
  · simp [hs]
  · intro i hi _
    have := key i (by omega)
    simp [hi] at this ⊢
    exact this

theorem wpAny_tail (T : TailOk l tl) : ∀ (f : Nat) (listed : Array Bool) (a : Act) (w : World), listed.size = l.length → C w →
    wpAnyQ P .any l.toArray C (fun a' => ∀ w', C w' → wpList P (l ++ tl).toArray Q tl a' w') f listed a →
    wpAny P .any (l ++ tl).toArray Q (f + tl.length) (listed ++ Array.replicate tl.length false) a w := by
  have hdone : ∀ (f : Nat) (listed : Array Bool) (a : Act) (w : World), listed.size = l.length → C w → Region.ready .any l.toArray listed = [] →
      (∀ w', C w' → wpList P (l ++ tl).toArray Q tl a w') → wpAny P .any (l ++ tl).toArray Q (f + tl.length) (listed ++ Array.replicate tl.length false) a w := by
    intro f listed a w hs hw h0 hK
    rw [all_listed T hs h0]
    exact wpAny_plus _ (wpAny_of_seq tl l.length _ a w (fun j => by simp [List.getElem?_append_right]) T.seq (hK w hw))
  intro f
  induction f with
  | zero =>
    intro listed a w hs hw h
    exact hdone 0 listed a w hs hw h.1 h.2
  | succ f ih =>
    intro listed a w hs hw h
    by_cases h0 : Region.ready .any l.toArray listed = []
    · exact hdone (f + 1) listed a w hs hw h0 (h.1 h0)
    · obtain ⟨r, hr⟩ := List.exists_mem_of_ne_nil _ h0
      have hle : ∀ i, i < l.length → (listed ++ Array.replicate tl.length false).getD i true = listed.getD i true := fun i hi => by
        have : i < listed.size := by omega
        simp [Array.getElem?_append_left this]
      have hle' : ∀ i, i < l.length → (listed ++ Array.replicate tl.length false).getD i false = listed.getD i false := fun i hi => by
        have : i < listed.size := by omega
        simp [Array.getElem?_append_left this]
      have hrt : ∀ i, l.length ≤ i → (listed ++ Array.replicate tl.length false).getD i false = false := fun i hi => by
        have h5 : listed.size ≤ i := by omega
        rw [Array.getD_eq_getD_getElem?, Array.getElem?_append_right h5]
        by_cases h6 : i - listed.size < tl.length
        · simp [h6]
        · simp [Nat.le_of_not_lt h6]
      have hrd := mem_ready.1 hr
      obtain ⟨hr0, ro, hro, hra⟩ := hrd
      have hrl : r < l.length := by
        have := (List.getElem?_eq_some_iff.1 (by simpa using hro)).1
        exact this
      have hrun : listed.getD r false = false := getD_both hr0
      have hto : ∀ i, i ∈ Region.ready .any (l ++ tl).toArray (listed ++ Array.replicate tl.length false) → i < l.length ∧ i ∈ Region.ready .any l.toArray listed := by
        intro i hi
        obtain ⟨hi0, o, ho, hall⟩ := mem_ready.1 hi
        have ho' : (l ++ tl)[i]? = some o := by simpa using ho
        by_cases hil : i < l.length
        · have hol : l[i] = o := by rw [List.getElem?_append_left hil, List.getElem?_eq_getElem hil] at ho'; exact Option.some.inj ho'
          refine ⟨hil, mem_ready.2 ⟨by rw [← hle i hil]; exact hi0, o, by simp [hil, hol], fun e he hb => ?_⟩⟩
          have h5 := hall e he hb
          rwa [hle' e.on (by have := T.early i hil e (by rw [hol]; exact he); omega)] at h5
        · exfalso
          rw [List.getElem?_append_right (by omega)] at ho'
          by_cases hi1 : i = l.length
          · obtain ⟨e, he, hb, hon⟩ := T.all o (by rw [← ho', hi1]; simp) r hrl
            have h5 := hall e he hb
            rw [hon, hle' r hrl, hrun] at h5
            cases h5
          · obtain ⟨e, he, hb, hon⟩ := T.chain (i - l.length) o (by omega) ho'
            have h5 := hall e he hb
            rw [hrt e.on (by omega)] at h5
            cases h5
      have hfrom : r ∈ Region.ready .any (l ++ tl).toArray (listed ++ Array.replicate tl.length false) := by
        refine mem_ready.2 ⟨by rw [hle r hrl]; exact hr0, ro, ?_, fun e he hb => ?_⟩
        · have : l[r]? = some ro := by simpa using hro
          simp [List.getElem?_append_left hrl, this]
        · have hol : l[r] = ro := by have : l[r]? = some ro := by simpa using hro
                                     rw [List.getElem?_eq_getElem hrl] at this; exact Option.some.inj this
          rw [hle' e.on (by have := T.early r hrl e (by rw [hol]; exact he); omega)]
          exact hra e he hb
      rw [show f + 1 + tl.length = (f + tl.length) + 1 by omega]
      refine ⟨fun h5 => (by rw [h5] at hfrom; cases hfrom), fun i hi => ?_⟩
      obtain ⟨hil, hih⟩ := hto i hi
      have hq := h.2 i hih
      have hset : (listed ++ Array.replicate tl.length false).setIfInBounds i true = listed.setIfInBounds i true ++ Array.replicate tl.length false := by
        rw [Array.setIfInBounds_append_left (by omega)]
      rw [hset]
      have hg : ∀ y, Region.wanted l[i] y = true := fun y => by simp [Region.wanted, T.none i hil]
      unfold qOp at hq
      have h6 : l.toArray[i]? = some l[i] := by simp [hil]
      have h7 : (l ++ tl).toArray[i]? = some l[i] := by simp [List.getElem?_append_left hil, hil]
      simp only [h6, hg, if_true] at hq
      unfold wpOp
      simp only [h7, hg, if_true]
      exact .inl (Oper.wp_of_quiet hw (fun a' w' hw' hk => ih _ a' w' (by simp [hs]) hw' hk) hq)

theorem wpAny_ext_tail (n : Nat) {l' : List Oper} {a : Act} {w : World} (hB : tailB (l'.take n) (l'.drop n) = true)
    (h : wpQuiet P (l'.take n).toArray (fun w' => ∃ x : Ext w, w' = x.W) (fun a' => ∀ w', (∃ x : Ext w, w' = x.W) → wpList P l'.toArray Q (l'.drop n) a' w') (l'.take n) a) :
    wpAny P .any l'.toArray Q l'.toArray.size (Array.replicate l'.toArray.size false) a { w with drawn := w.drawn + 1 } := by
  have T := tailB_spec hB
  have hlex := T.lex
  simp only [Region.lexB, Bool.and_eq_true] at hlex
  have hs : l'.take n ++ l'.drop n = l' := List.take_append_drop n l'
  have hlen : (l'.take n).length + (l'.drop n).length = l'.length := by rw [← List.length_append, hs]
  have H := wpAny_tail (P := P) (Q := Q) (C := fun w' => ∃ x : Ext w, w' = x.W) T (l'.take n).length (Array.replicate (l'.take n).length false) a { w with drawn := w.drawn + 1 } (by simp) ⟨⟨_, (Below.refl _ w).drew⟩, rfl⟩
    (wpAnyQ_lex (md := .any) hlex.1 (l'.take n) 0 _ a (by simp) (by simpa using hlex.2) (by rw [hs]; exact h))
  rw [hs, hlen, Array.replicate_append_replicate, hlen] at H
  simpa using H
end
/-- The plain walk. -/
theorem wp_region_ext_tail {P : Program} {Q : Exit → Act → World → Prop} (n : Nat) {id : Nat} {l' : List Oper} {a : Act} {w : World} (hm : P.follows .mixedOrders = true) (hB : tailB (l'.take n) (l'.drop n) = true)
    (h : wpQuiet P (l'.take n).toArray (fun w' => ∃ x : Ext w, w' = x.W) (fun a' => ∀ w', (∃ x : Ext w, w' = x.W) → wpList P l'.toArray Q (l'.drop n) a' w') (l'.take n) a) :
    (Code.region id l'.toArray true).wp P Q a w := wp_region_any hm (wpAny_ext_tail n hB h)
/-- In a round of a range over a function. -/
theorem wpIn_region_ext_tail {P : Program} {Q : Exit → Act → World → Prop} (n : Nat) {id m l : Nat} {l' : List Oper} {a : Act} {w : World} (hm : P.follows .mixedOrders = true) (hB : tailB (l'.take n) (l'.drop n) = true)
    (hd : noDefer l' = true) (hQ : ¬ LetsOut Q)
    (h : wpQuiet P (l'.take n).toArray (fun w' => ∃ x : Ext w, w' = x.W) (fun a' => ∀ w', (∃ x : Ext w, w' = x.W) → wpList P l'.toArray Q (l'.drop n) a' w') (l'.take n) a) :
    (Code.region id l'.toArray true).wpIn (FW.inRound l) m P Q a w := wpIn_region_any hm (noDefer_spec hd) hQ (wpAny_ext_tail n hB h)
end Go.Proofs.Yteconepbhajjeaa
