/- A region that draws its order, by an invariant on what has been done. Over any program. -/
import Derived.Test.YtmfdflfjllpceaaZTail
namespace Go.Proofs.Ytmfdflfjllpceaa
open Go.RowKit

theorem count_set_true {l : List Bool} {i : Nat} (h : l[i]? = some false) : (l.set i true).count false + 1 = l.count false := by
  induction l generalizing i with
  | nil => simp at h
  | cons b l ih =>
    cases i with
    | zero =>
      simp only [List.getElem?_cons_zero, Option.some.injEq] at h
      subst h
      simp
    | succ i =>
      rw [List.getElem?_cons_succ] at h
      have := ih h
      rw [List.set_cons_succ]
      cases b <;> simp <;> omega
theorem inv_listed {ops : Array Oper} {listed : Array Bool} (hb : (ops.toList.zipIdx.all fun p => p.1.after.all fun e => decide (e.on < p.2)) = true) (hs : listed.size = ops.size) (h0 : Region.ready .any ops listed = []) :
    ∀ i, i < ops.size → listed.getD i false = true := by
  intro i
  induction i using Nat.strongRecOn with
  | _ i ih =>
    intro hi
    rcases hq : listed.getD i true with _ | _
    · exfalso
      have hm : i ∈ Region.ready .any ops listed := by
        refine mem_ready.2 ⟨hq, ops[i], Array.getElem?_eq_getElem hi, fun e he _ => ?_⟩
        have h1 := List.all_eq_true.1 hb (ops[i], i) (by
          rw [List.mem_zipIdx_iff_getElem?]
          simp [hi])
        have h2 := Array.all_eq_true'.1 h1 e he
        have h3 : e.on < i := by simpa using h2
        exact ih _ h3 (by omega)
      rw [h0] at hm
      cases hm
    · have hl : i < listed.size := by omega
      rw [Array.getD_eq_getD_getElem?, Array.getElem?_eq_getElem hl] at hq ⊢
      simpa using hq
theorem inv_any {P : Program} {ops : Array Oper} {Q : Exit → Act → World → Prop} (Inv : Array Bool → Act → World → Prop)
    (hstep : ∀ (i : Nat) (listed : Array Bool) (a : Act) (w : World), i ∈ Region.ready .any ops listed → Inv listed a w → wpOp P ops Q i (Inv (listed.setIfInBounds i true)) a w)
    (hend : ∀ (listed : Array Bool) (a : Act) (w : World), Region.ready .any ops listed = [] → Inv listed a w → Q .normal a w) :
    ∀ (f : Nat) (listed : Array Bool) (a : Act) (w : World), listed.toList.count false ≤ f → Inv listed a w → wpAny P .any ops Q f listed a w := by
  have hget : ∀ (listed : Array Bool) (i : Nat), listed.getD i true = false → listed.toList[i]? = some false := by
    intro listed i h
    rw [Array.getD_eq_getD_getElem?] at h
    rw [Array.getElem?_toList]
    cases hc : listed[i]? with
    | none => rw [hc] at h; simp at h
    | some b => rw [hc] at h; simp at h; rw [h]
  intro f
  induction f with
  | zero =>
    intro listed a w hf hI
    have h0 : Region.ready .any ops listed = [] := by
      rw [List.eq_nil_iff_forall_not_mem]
      intro i hi
      have h1 := hget listed i (mem_ready.1 hi).1
      have : false ∈ listed.toList := List.mem_of_getElem? h1
      have := List.count_pos_iff.2 this
      omega
    exact ⟨h0, hend _ _ _ h0 hI⟩
  | succ f ih =>
    intro listed a w hf hI
    refine ⟨fun h0 => hend _ _ _ h0 hI, fun i hi => wpOp_mono (fun a' w' h' => ih _ a' w' ?_ h') (hstep i listed a w hi hI)⟩
    have h1 := count_set_true (hget listed i (mem_ready.1 hi).1)
    rw [Array.toList_setIfInBounds]
    omega
theorem wp_region_inv {P : Program} {id : Nat} {Q : Exit → Act → World → Prop} {a : Act} {w : World} {l : List Oper} (hm : P.follows .mixedOrders = true) (Inv : Array Bool → Act → World → Prop)
    (h0 : Inv (Array.replicate l.toArray.size false) a w.drew)
    (hstep : ∀ (i : Nat) (listed : Array Bool) (a : Act) (w : World), i ∈ Region.ready .any l.toArray listed → Inv listed a w → wpOp P l.toArray Q i (Inv (listed.setIfInBounds i true)) a w)
    (hend : ∀ (listed : Array Bool) (a : Act) (w : World), Region.ready .any l.toArray listed = [] → Inv listed a w → Q .normal a w) : (Code.region id l.toArray true).wp P Q a w :=
  wp_region_any hm (inv_any Inv hstep hend _ _ _ _ (by simp) h0)
end Go.Proofs.Ytmfdflfjllpceaa
