/- Layer 50: maps by voice (channel, key): lookup, delete, store, range. -/
import Derived.Test.YtmfdflfjllpceaaZPut
import Derived.Maps.Keyed
import Derived.Maps.Range
import Derived.Maps.RangeRun
import Derived.DeepKeys5
import Derived.Test.YtmfdflfjllpceaaZMvL
import Derived.Maps.OwnOps
import Derived.Maps.OwnSet
/- Layer 50: maps by voice (channel, key): lookup, delete, store, range. -/
namespace Go.Proofs.Ytmfdflfjllpceaa
open Go.RowKit Go Go.MapKept
open Go.ChangeMaps (setBlock)
open Go.ChangeMaps

theorem prog_laid : laidOutB Try.prog = true := by kernel_rfl
theorem vk_keyed : Maps.Keyed Try.prog 80 := Maps.Keyed.of_law (deep_law_gate prog_laid (of_decide_eq_true (by kernel_rfl)) (of_decide_eq_true (by kernel_rfl)) (by kernel_rfl) (by rw [Try.underlying80]))
/-- A voice. -/
abbrev Vc := Int × Int
def vK (v : Vc) : Value := .agg #[.int .i64 v.1, .int .i64 v.2]
def VI (v : Vc) : Prop := I64 v.1 ∧ I64 v.2
theorem vK_inj {a b : Vc} (h : vK a = vK b) : a = b := by
  unfold vK at h
  simp only [Value.agg.injEq, Array.mk.injEq, List.cons.injEq, Value.int.injEq, true_and, and_true] at h
  exact Prod.ext h.1 h.2
theorem I64.wf' {x : Int} (h : I64 x) : (Lit.int .i64 x).wf = true := by
  unfold I64 at h
  simp only [Lit.wf, Bool.and_eq_true, decide_eq_true_eq]
  exact ⟨h.1, h.2⟩
theorem vk_key {v : Vc} (h : VI v) : ∃ l, keyOf Try.prog 80 (vK v) = some l := by
  obtain ⟨c, k⟩ := v
  unfold keyOf vK
  rw [Try.underlying80]
  dsimp only
  have h1 : Try.prog.keyType 80 = true := by kernel_rfl
  have h2 : (Value.agg #[.int .i64 c, .int .i64 k]).formed Try.prog 80 = true := by kernel_rfl
  have h3 : ∃ ls, Try.prog.keyLits (Try.prog.types.size + 1) 80 (Value.agg #[.int .i64 c, .int .i64 k]).cells.toList = some ls := by
    obtain ⟨N, hN⟩ : ∃ N, Try.prog.types.size = N + 1 := ⟨Try.prog.types.size - 1, by kernel_rfl⟩
    have w1 : (Lit.int .i64 c).wf = true := h.1.wf'
    have w2 : (Lit.int .i64 k).wf = true := h.2.wf'
    have c1 : Try.prog.cellsOf 3 = 1 := by kernel_rfl
    have c2 : Try.prog.cellsOf 80 = 2 := by kernel_rfl
    rw [hN]
    simp [Program.keyLits, Try.underlying80, Try.underlying3, Value.cells, c1, c2, w1, w2]
  obtain ⟨ls, h3⟩ := h3
  rw [h1, h2, h3]
  exact ⟨_, rfl⟩

section
variable {ν : Type} (ev : ν → Value)
/-- What the entries say. -/
def Rds (es : Array MapEntry) (f : Vc → Option ν) : Prop :=
  (∀ x ∈ es.toList, ∃ k v, VI k ∧ x.key = vK k ∧ x.val = ev v ∧ f k = some v) ∧ ∀ k v, f k = some v → ∃ x ∈ es.toList, x.key = vK k ∧ x.val = ev v
/-- Block b is a map by voices that holds what f says. -/
def MB (w : World) (b : Nat) (f : Vc → Option ν) : Prop := ∃ es clock, w.heap[b]? = some (.map es clock) ∧ Stamped es clock ∧ Rds ev es f
variable {ev} {w w' : World} {b : Nat} {f : Vc → Option ν} {t e : TypeId}
theorem MB.lt (h : MB ev w b f) : b < w.heap.size := by
  obtain ⟨es, clock, hb, _⟩ := h
  exact (Array.getElem?_eq_some_iff.1 hb).1
theorem MB.same (h : MB ev w b f) (hb : w'.heap[b]? = w.heap[b]?) : MB ev w' b f := by
  obtain ⟨es, clock, h1, h2⟩ := h
  exact ⟨es, clock, hb.trans h1, h2⟩
theorem MB.below (h : MB ev w b f) (hb : Below w.heap.size w w') : MB ev w' b f := h.same (hb.block b h.lt)
theorem MB.made (ev : ν → Value) (w : World) : MB ev (w.alloc (.map #[] 0)) w.heap.size (fun _ => none) :=
  ⟨#[], 0, (MapKept.heap_alloc w _).1, stamped_empty 0, ⟨fun x hx => by simp at hx, fun k v h => by cases h⟩⟩
theorem Rds.keys {es : Array MapEntry} (h : Rds ev es f) : ∀ x ∈ es.toList, ∃ l, keyOf Try.prog 80 x.key = some l := fun x hx => by
  obtain ⟨k, v, hk, hx1, _⟩ := h.1 x hx
  rw [hx1]
  exact vk_key hk
set_option maxRecDepth 100000 in
theorem MB.look (h : MB ev w b f) (ht : Try.prog.underlying t = some (.map 80 e)) {z : Value} (hz : (zeroValue e).run Try.prog w = .ok z w) {k : Vc} (hk : VI k) :
    (f k = none → (Instr.lookup t (.map (some b)) (vK k) true).run Try.prog w = .ok (.tuple #[z, .bool false]) w) ∧ (∀ v, f k = some v → (Instr.lookup t (.map (some b)) (vK k) true).run Try.prog w = .ok (.tuple #[ev v, .bool true]) w) := by
  obtain ⟨es, clock, hb, hst, hr⟩ := h
  obtain ⟨l, hl⟩ := vk_key hk
  rcases vk_keyed.find w hl es.toList hr.keys with ⟨h1, h2⟩ | ⟨j, e0, h1, h2, h3⟩
  · refine ⟨fun _ => ?_, fun v hv => ?_⟩
    · simp [Instr.lookup, run_underlying ht, MapKept.run_getObj_map hb, vk_keyed.check w _ hl, h1, hz, Result.andThen]
    · obtain ⟨x, hx, hx1, _⟩ := hr.2 k v hv
      exact absurd hx1 (h2 x hx)
  · obtain ⟨k', v', hk', hx1, hx2, hf⟩ := hr.1 e0 (List.mem_of_getElem? h2)
    have := vK_inj (hx1.symm.trans h3)
    subst this
    refine ⟨fun h => (by rw [hf] at h; cases h), fun v hv => ?_⟩
    rw [hf] at hv
    injection hv with hv
    subst hv
    simp [Instr.lookup, run_underlying ht, MapKept.run_getObj_map hb, vk_keyed.check w _ hl, h1, hx2, Result.andThen]
def put (f : Vc → Option ν) (k : Vc) (o : Option ν) : Vc → Option ν := fun j => if j = k then o else f j
theorem one_of_key {es : Array MapEntry} {clock : Nat} (hst : Stamped es clock) {x y : MapEntry} (hx : x ∈ es.toList) (hy : y ∈ es.toList) (h : x.key = y.key) : x = y :=
  Go.entry_eq_of_key ((stamped_iff es clock).1 hst).2.2 hx hy h
/-- Only block b turns. -/
theorem below_setBlock {B : Nat} {es : Array MapEntry} {clock : Nat} (hb : w.heap[b]? = some (.map es clock)) (o : Obj) (hB : B ≤ b) : Below B w (setBlock w b o) :=
  ⟨rfl, rfl, rfl, by simp [setBlock], fun k hk => heap_setBlock_other hb o (by omega)⟩
set_option maxRecDepth 100000 in
theorem MB.upd (h : MB ev w b f) (ht : Try.prog.underlying t = some (.map 80 e)) {k : Vc} (hk : VI k) (v : ν) :
    ∃ w', (Instr.mapUpdate t (.map (some b)) (vK k) (ev v)).run Try.prog w = .ok () w' ∧ MB ev w' b (put f k (some v)) ∧ w.grownBy w' (some b) ∧ w'.heap.size = w.heap.size := by
  obtain ⟨es, clock, hb, hst, hr⟩ := h
  obtain ⟨l, hl⟩ := vk_key hk
  rcases vk_keyed.find w hl es.toList hr.keys with ⟨h1, h2⟩ | ⟨j, e0, h1, h2, h3⟩
  · refine ⟨setBlock w b (.map (es.push ⟨vK k, ev v, clock⟩) (clock + 1)), ?_, ⟨_, _, heap_setBlock_same hb _, stamped_push hst h2, ?_, ?_⟩, ⟨rfl, rfl, rfl, by simp [setBlock], fun i _ hi => heap_setBlock_other hb _ (fun e1 => hi (by rw [e1]))⟩, by simp [setBlock]⟩
    · simp [Instr.mapUpdate, run_underlying ht, MapKept.run_getObj_map hb, vk_keyed.check w _ hl, h1, MapKept.run_setObj_map _ hb, Result.andThen, setBlock]
    · intro x hx
      rw [Array.toList_push, List.mem_append, List.mem_singleton] at hx
      rcases hx with hx | rfl
      · obtain ⟨k', v', hk', hx1, hx2, hf⟩ := hr.1 x hx
        refine ⟨k', v', hk', hx1, hx2, ?_⟩
        unfold put
        rw [if_neg (fun e1 => h2 x hx (by rw [hx1, e1])), hf]
      · exact ⟨k, v, hk, rfl, rfl, by simp [put]⟩
    · intro k' v' hf
      unfold put at hf
      split at hf
      · rename_i e1
        injection hf with hf
        subst e1 hf
        exact ⟨_, by rw [Array.toList_push]; exact List.mem_append.2 (.inr (List.mem_singleton.2 rfl)), rfl, rfl⟩
      · obtain ⟨x, hx, hx1, hx2⟩ := hr.2 k' v' hf
        exact ⟨x, by rw [Array.toList_push]; exact List.mem_append.2 (.inl hx), hx1, hx2⟩
  · have hm0 : e0 ∈ es.toList := List.mem_of_getElem? h2
    have h2' : es[j]? = some e0 := by rw [← Array.getElem?_toList]; exact h2
    have hst' : Stamped (es.modify j fun x => { x with key := vK k, val := ev v }) clock := stamped_modify hst j _ (fun _ _ => rfl) (fun x hx hj => by rw [h2'] at hj; injection hj with hj; rw [← hj, h3])
    have hmem : ∀ x, x ∈ (es.modify j fun x => { x with key := vK k, val := ev v }).toList ↔ (x ∈ es.toList ∧ x.key ≠ vK k) ∨ x = { e0 with key := vK k, val := ev v } := by
      intro x
      have hj : j < es.toList.length := (List.getElem?_eq_some_iff.1 h2).1
      rw [List.mem_iff_getElem?]
      constructor
      · rintro ⟨i, hi⟩
        rw [Array.getElem?_toList, Array.getElem?_modify] at hi
        split at hi
        · rename_i e1
          subst e1
          rw [h2'] at hi
          simp only [Option.map_some, Option.some.injEq] at hi
          exact .inr hi.symm
        · rename_i hne
          have hxm : x ∈ es.toList := by rw [← Array.getElem?_toList] at hi; exact List.mem_of_getElem? hi
          refine .inl ⟨hxm, fun e1 => hne ?_⟩
          have hx0 := one_of_key hst hxm hm0 (e1.trans h3.symm)
          have hnd : es.toList.Pairwise (fun x y => x.key ≠ y.key) := ((stamped_iff es clock).1 hst).2.2
          rw [← Array.getElem?_toList] at hi
          have hi' := List.getElem?_eq_some_iff.1 hi
          have hj' := List.getElem?_eq_some_iff.1 h2
          obtain ⟨hi1, hi2⟩ := hi'
          obtain ⟨hj1, hj2⟩ := hj'
          rcases Nat.lt_trichotomy i j with h5 | h5 | h5
          · have := List.pairwise_iff_getElem.1 hnd i j hi1 hj1 h5
            rw [hi2, hj2, hx0] at this
            exact absurd rfl this
          · exact h5.symm
          · have := List.pairwise_iff_getElem.1 hnd j i hj1 hi1 h5
            rw [hi2, hj2, hx0] at this
            exact absurd rfl this
      · rintro (⟨hxm, hne⟩ | rfl)
        · obtain ⟨i, hi⟩ := List.mem_iff_getElem?.1 hxm
          refine ⟨i, ?_⟩
          rw [Array.getElem?_toList, Array.getElem?_modify]
          split
          · rename_i e1
            subst e1
            rw [h2] at hi
            injection hi with hi
            exact absurd (hi ▸ h3) hne
          · rw [← Array.getElem?_toList]; exact hi
        · exact ⟨j, by rw [Array.getElem?_toList, Array.getElem?_modify, if_pos rfl, h2']; rfl⟩
    refine ⟨setBlock w b (.map (es.modify j fun x => { x with key := vK k, val := ev v }) clock), ?_, ⟨_, _, heap_setBlock_same hb _, hst', ?_, ?_⟩, ⟨rfl, rfl, rfl, by simp [setBlock], fun i _ hi => heap_setBlock_other hb _ (fun e1 => hi (by rw [e1]))⟩, by simp [setBlock]⟩
    · have hks := vk_keyed.stays w hl
      simp [Instr.mapUpdate, run_underlying ht, MapKept.run_getObj_map hb, vk_keyed.check w _ hl, h1, h2', h3, hks, MapKept.run_setObj_map _ hb, Result.andThen, setBlock]
    · intro x hx
      rcases (hmem x).1 hx with ⟨hxm, hne⟩ | rfl
      · obtain ⟨k', v', hk', hx1, hx2, hf⟩ := hr.1 x hxm
        refine ⟨k', v', hk', hx1, hx2, ?_⟩
        unfold put
        rw [if_neg (fun e1 => hne (by rw [hx1, e1])), hf]
      · exact ⟨k, v, hk, rfl, rfl, by simp [put]⟩
    · intro k' v' hf
      unfold put at hf
      split at hf
      · rename_i e1
        injection hf with hf
        subst e1 hf
        exact ⟨_, (hmem _).2 (.inr rfl), rfl, rfl⟩
      · rename_i hne
        obtain ⟨x, hx, hx1, hx2⟩ := hr.2 k' v' hf
        exact ⟨x, (hmem x).2 (.inl ⟨hx, fun e1 => hne (vK_inj (hx1.symm.trans e1))⟩), hx1, hx2⟩
set_option maxRecDepth 100000 in
theorem MB.del (h : MB ev w b f) (ht : Try.prog.underlying t = some (.map 80 e)) {k : Vc} (hk : VI k) :
    ∃ w', (∀ ty, (Builtin.delete_ #[t, 80] ty #[.map (some b), vK k]).run Try.prog w = .ok (.tuple #[]) w') ∧ MB ev w' b (put f k none) ∧ w.grownBy w' (some b) ∧ w'.heap.size = w.heap.size := by
  obtain ⟨es, clock, hb, hst, hr⟩ := h
  obtain ⟨l, hl⟩ := vk_key hk
  rcases vk_keyed.find w hl es.toList hr.keys with ⟨h1, h2⟩ | ⟨j, e0, h1, h2, h3⟩
  · refine ⟨setBlock w b (.map es clock), fun ty => ?_, ⟨_, _, heap_setBlock_same hb _, hst, ?_, ?_⟩, ⟨rfl, rfl, rfl, by simp [setBlock], fun i _ hi => heap_setBlock_other hb _ (fun e1 => hi (by rw [e1]))⟩, by simp [setBlock]⟩
    · simp [Builtin.delete_, run_underlying ht, MapKept.run_getObj_map hb, vk_keyed.check w _ hl, h1, MapKept.run_setObj_map _ hb, Result.andThen, setBlock]
    · intro x hx
      obtain ⟨k', v', hk', hx1, hx2, hf⟩ := hr.1 x hx
      refine ⟨k', v', hk', hx1, hx2, ?_⟩
      unfold put
      rw [if_neg (fun e1 => h2 x hx (by rw [hx1, e1])), hf]
    · intro k' v' hf
      unfold put at hf
      split at hf
      · cases hf
      · exact hr.2 k' v' hf
  · have hm0 : e0 ∈ es.toList := List.mem_of_getElem? h2
    have hj : j < es.toList.length := (List.getElem?_eq_some_iff.1 h2).1
    have hjs : j < es.size := by simpa using hj
    have hsub : (es.eraseIdxIfInBounds j).toList = es.toList.eraseIdx j := by
      unfold Array.eraseIdxIfInBounds
      rw [dif_pos hjs]
      simp
    have hnd : es.toList.Pairwise (fun x y => x.key ≠ y.key) := ((stamped_iff es clock).1 hst).2.2
    have hmem : ∀ x, x ∈ es.toList.eraseIdx j ↔ x ∈ es.toList ∧ x.key ≠ vK k := by
      intro x
      have hsplit : es.toList = es.toList.take j ++ e0 :: es.toList.drop (j + 1) := by
        rw [← (List.getElem?_eq_some_iff.1 h2).2, ← List.drop_eq_getElem_cons hj, List.take_append_drop]
      have he : es.toList.eraseIdx j = es.toList.take j ++ es.toList.drop (j + 1) := List.eraseIdx_eq_take_drop_succ ..
      rw [he, List.mem_append]
      rw [hsplit] at hnd
      obtain ⟨p1, p2, p3⟩ := List.pairwise_append.1 hnd
      constructor
      · rintro (hx | hx)
        · exact ⟨List.mem_of_mem_take hx, fun e1 => p3 x hx e0 (List.mem_cons_self ..) (e1.trans h3.symm)⟩
        · exact ⟨List.mem_of_mem_drop hx, fun e1 => (List.pairwise_cons.1 p2).1 x hx (h3.trans e1.symm)⟩
      · rintro ⟨hx, hne⟩
        rw [hsplit, List.mem_append, List.mem_cons] at hx
        rcases hx with hx | rfl | hx
        · exact .inl hx
        · exact absurd h3 hne
        · exact .inr hx
    refine ⟨setBlock w b (.map (es.eraseIdxIfInBounds j) clock), fun ty => ?_, ⟨_, _, heap_setBlock_same hb _, stamped_erase hst j, ?_, ?_⟩, ⟨rfl, rfl, rfl, by simp [setBlock], fun i _ hi => heap_setBlock_other hb _ (fun e1 => hi (by rw [e1]))⟩, by simp [setBlock]⟩
    · simp [Builtin.delete_, run_underlying ht, MapKept.run_getObj_map hb, vk_keyed.check w _ hl, h1, MapKept.run_setObj_map _ hb, Result.andThen, setBlock]
    · intro x hx
      rw [hsub] at hx
      obtain ⟨hxm, hne⟩ := (hmem x).1 hx
      obtain ⟨k', v', hk', hx1, hx2, hf⟩ := hr.1 x hxm
      refine ⟨k', v', hk', hx1, hx2, ?_⟩
      unfold put
      rw [if_neg (fun e1 => hne (by rw [hx1, e1])), hf]
    · intro k' v' hf
      unfold put at hf
      split at hf
      · cases hf
      · rename_i hne
        obtain ⟨x, hx, hx1, hx2⟩ := hr.2 k' v' hf
        exact ⟨x, by rw [hsub]; exact (hmem x).2 ⟨hx, fun e1 => hne (vK_inj (hx1.symm.trans e1))⟩, hx1, hx2⟩

/-- A range over such a map under way: dn has been handed out. -/
def MIt (ev : ν → Value) (w : World) (b r : Nat) (f : Vc → Option ν) (dn : Vc → Prop) : Prop :=
  ∃ es clock seen, w.heap[b]? = some (.map es clock) ∧ Stamped es clock ∧ Rds ev es f ∧ w.heap[r]? = some (.mapIter (some b) clock seen clock) ∧ ∀ x ∈ es.toList, ∀ k, x.key = vK k → (dn k ↔ seen.contains x.born = true)
theorem MIt.mb {r : Nat} {dn : Vc → Prop} (h : MIt ev w b r f dn) : MB ev w b f := by
  obtain ⟨es, clock, seen, h1, h2, h3, _⟩ := h
  exact ⟨es, clock, h1, h2, h3⟩
theorem MIt.lt {r : Nat} {dn : Vc → Prop} (h : MIt ev w b r f dn) : b < w.heap.size ∧ r < w.heap.size ∧ r ≠ b := by
  obtain ⟨es, clock, seen, h1, h2, h3, h4, _⟩ := h
  refine ⟨(Array.getElem?_eq_some_iff.1 h1).1, (Array.getElem?_eq_some_iff.1 h4).1, ?_⟩
  rintro rfl
  rw [h1] at h4
  cases h4
theorem MIt.same {r : Nat} {dn : Vc → Prop} (h : MIt ev w b r f dn) (hb : w'.heap[b]? = w.heap[b]?) (hr : w'.heap[r]? = w.heap[r]?) : MIt ev w' b r f dn ∧ w'.rangeLeft b r = w.rangeLeft b r := by
  refine ⟨?_, by unfold World.rangeLeft; rw [hb, hr]⟩
  obtain ⟨es, clock, seen, h1, h2, h3, h4, h5⟩ := h
  exact ⟨es, clock, seen, hb.trans h1, h2, h3, hr.trans h4, h5⟩
theorem MB.range (h : MB ev w b f) (ht : Try.prog.underlying t = some (.map 80 e)) :
    ∃ w', (Instr.range t (.map (some b))).run Try.prog w = .ok (.pointer (some ⟨w.heap.size, 0, none⟩)) w' ∧ MIt ev w' b w.heap.size f (fun _ => False) ∧ w.grownBy w' none ∧ w'.heap.size = w.heap.size + 1 := by
  have hlt := h.lt
  obtain ⟨es, clock, hb, hst, hr⟩ := h
  exact ⟨_, run_range_map w t 80 e b es clock ht hb, ⟨es, clock, #[], ((MapKept.heap_alloc w _).2 b hlt).trans hb, hst, hr, (MapKept.heap_alloc w _).1, fun x hx k hk => by simp⟩, World.grownBy_alloc w _ none, by simp⟩
theorem MIt.next {r : Nat} {dn : Vc → Prop} (h : MIt ev w b r f dn) :
    ((∀ k v, f k = some v → dn k) ∧ ∀ ty, (Instr.next (.pointer (some ⟨r, 0, none⟩)) false ty).run Try.prog w = .ok (.tuple #[.bool false]) w) ∨
    ∃ k v w', VI k ∧ f k = some v ∧ ¬ dn k ∧ (∀ ty, (Instr.next (.pointer (some ⟨r, 0, none⟩)) false ty).run Try.prog w = .ok (.tuple #[.bool true, vK k, ev v]) w') ∧ (Instr.entry (.pointer (some ⟨r, 0, none⟩))).run Try.prog w' = .ok (.tuple #[vK k, ev v]) w' ∧
      MIt ev w' b r f (fun j => dn j ∨ j = k) ∧ w'.rangeLeft b r < w.rangeLeft b r ∧ w.grownBy w' (some r) ∧ w'.heap.size = w.heap.size := by
  have hne := h.lt.2.2
  obtain ⟨es, clock, seen, hb, hst, hr, hit, hd⟩ := h
  rcases run_next_at (P := Try.prog) w 0 r b clock clock seen es clock hit hb hst.1 (Nat.le_refl _) with ⟨h0, hrun⟩ | ⟨e0, he, w1, hal, hrun⟩
  · refine .inl ⟨fun k v hf => ?_, fun ty => hrun⟩
    obtain ⟨x, hx, hx1, _⟩ := hr.2 k v hf
    exact (hd x hx k hx1).2 (all_seen es seen h0 x hx)
  · obtain ⟨hem, hes⟩ := mem_left he
    obtain ⟨k, v, hk, hx1, hx2, hf⟩ := hr.1 e0 hem
    have hr1 : w1.heap[r]? = some (.mapIter (some b) clock seen clock) := by rcases hal with rfl | rfl <;> exact hit
    have hb1 : w1.heap[b]? = some (.map es clock) := by rcases hal with rfl | rfl <;> exact hb
    have hset := heap_set (o' := .mapIter (some b) clock (seen.push e0.born) clock) hr1
    have hb' : (setBlock w1 r (.mapIter (some b) clock (seen.push e0.born) clock)).heap[b]? = some (.map es clock) := (hset.2 b (fun e1 => hne e1.symm)).trans hb1
    have hsr : (setBlock w1 r (.mapIter (some b) clock (seen.push e0.born) clock)).heap[r]? = some (.mapIter (some b) clock (seen.push e0.born) clock) := hset.1
    have hent := run_entry_at (P := Try.prog) _ r b clock seen es clock e0 hset.1 hb' hem ((stamped_iff es clock).1 hst).2.1
    rw [hx1, hx2] at hrun hent
    refine .inr ⟨k, v, _, hk, hf, fun hdk => ?_, fun ty => hrun, hent, ⟨es, clock, seen.push e0.born, hb', hst, hr, hset.1, fun x hx j hj => ?_⟩, ?_, ?_, ?_⟩
    · have := (hd e0 hem k hx1).1 hdk
      rw [hes] at this
      cases this
    · rw [contains_push, Bool.or_eq_true, ← hd x hx j hj]
      constructor
      · rintro (h | rfl)
        · exact .inl h
        · have := one_of_key hst hx hem (hj.trans hx1.symm)
          exact .inr (by rw [this]; simp)
      · rintro (h | h)
        · exact .inl h
        · have hbe : x.born = e0.born := by simpa using h
          have := born_inj ((stamped_iff es clock).1 hst).2.1 hx hem hbe
          subst this
          exact .inr (vK_inj (hj.symm.trans hx1))
    · unfold World.rangeLeft
      rw [hb', hsr, hb, hit]
      exact left_shrinks es seen e0 he
    · rcases hal with rfl | rfl <;> exact ⟨rfl, rfl, rfl, by simp [setBlock], fun i _ hi => hset.2 i (fun e1 => hi (by rw [e1]))⟩
    · rcases hal with rfl | rfl <;> simp [setBlock]
end
end Go.Proofs.Ytmfdflfjllpceaa

/- Layer 50: voiceOf, ends, Notes. -/
namespace Go.Proofs.Ytmfdflfjllpceaa
open Go.RowKit

section
variable {P : Program} {ops : Array Oper} {rest : List Oper} {o : Oper} {a : Act} {Q : Exit → Act → World → Prop} {K : Act → World → Prop} {w w' : World} {v v1 v2 v3 : Value}
theorem wp_lookup_eq (m x : Operand) (t : TypeId) (b : Bool) (ho : o.op = .lookup t m x b) (hm : a.eval m = v1) (hx : a.eval x = v2) (hrun : (Instr.lookup t v1 v2 b).run P w = .ok v w') (h : K (a.put o.dst v) w') : o.wp P a w K Q := by
  unfold Oper.wp execOp
  simp only [ho, hm, hx, Sem.run_bind, hrun, Result.andThen_ok]
  exact h
theorem wpList_lookup_eq (hgd : o.guard = none) (m x : Operand) (t : TypeId) (b : Bool) (ho : o.op = .lookup t m x b) (hm : a.eval m = v1) (hx : a.eval x = v2) (hrun : (Instr.lookup t v1 v2 b).run P w = .ok v w')
    (h : wpList P ops Q rest (a.put o.dst v) w') : wpList P ops Q (o :: rest) a w := wpList_plain hgd fun _ hK => wp_lookup_eq m x t b ho hm hx hrun (hK _ _ h)
theorem wp_mapUpdate_eq (m x y : Operand) (t : TypeId) (ho : o.op = .mapUpdate t m x y) (hm : a.eval m = v1) (hx : a.eval x = v2) (hy : a.eval y = v3) (hrun : (Instr.mapUpdate t v1 v2 v3).run P w = .ok () w') (h : K (a.put o.dst undef) w') : o.wp P a w K Q := by
  unfold Oper.wp execOp
  simp only [ho, hm, hx, hy, Sem.run_bind, hrun, Result.andThen_ok]
  exact h
theorem wpList_mapUpdate_eq (hgd : o.guard = none) (m x y : Operand) (t : TypeId) (ho : o.op = .mapUpdate t m x y) (hm : a.eval m = v1) (hx : a.eval x = v2) (hy : a.eval y = v3) (hrun : (Instr.mapUpdate t v1 v2 v3).run P w = .ok () w')
    (h : wpList P ops Q rest (a.put o.dst undef) w') : wpList P ops Q (o :: rest) a w := wpList_plain hgd fun _ hK => wp_mapUpdate_eq m x y t ho hm hx hy hrun (hK _ _ h)
theorem wp_delete_eq (m x : Operand) (t k : TypeId) (ho : o.op = .call { callee := .builtin .delete, args := #[m, x], argTypes := #[t, k] }) (hm : a.eval m = v1) (hx : a.eval x = v2)
    (hrun : (Builtin.delete_ #[t, k] o.type #[v1, v2]).run P w = .ok v w') (h : K (a.put o.dst v) w') : o.wp P a w K Q := by
  unfold Oper.wp execOp
  simp only [ho, resolve, invoke, builtin, Sem.run_bind, Sem.run_pure, Result.andThen_ok, List.map_toArray, List.map_cons, List.map_nil, hm, hx, hrun]
  exact h
theorem wpList_delete_eq (hgd : o.guard = none) (m x : Operand) (t k : TypeId) (ho : o.op = .call { callee := .builtin .delete, args := #[m, x], argTypes := #[t, k] }) (hm : a.eval m = v1) (hx : a.eval x = v2)
    (hrun : (Builtin.delete_ #[t, k] o.type #[v1, v2]).run P w = .ok v w') (h : wpList P ops Q rest (a.put o.dst v) w') : wpList P ops Q (o :: rest) a w :=
  wpList_plain hgd fun _ hK => wp_delete_eq m x t k ho hm hx hrun (hK _ _ h)
end
def voiceOf (e : Ev) : Vc := (e.ch, e.key)
theorem EvI.voice {e : Ev} (h : EvI e) : VI (voiceOf e) := ⟨h e.ch (by simp [ekey]), h e.key (by simp [ekey])⟩
theorem voiceOf_at (t q c k v n : Int) (w : World) : Calls Try.prog 52 #[.agg #[.int .i64 t, .int .i64 q, .int .i64 c, .int .i64 k, .int .i64 v, .int .i64 n]] w fun e w' => e = .returned (.agg #[.int .i64 c, .int .i64 k]) ∧ Below w.heap.size w w' := by
  go_enter Try.func52, Try.ntmps52
  go_wp2
  exact bodyPost_ret (v := .agg #[.int .i64 c, .int .i64 k]) (by simp [results, Try.results52, go_sem]) rfl ⟨rfl, ((Below.refl _ w).alloc (Nat.le_refl _) _).alloc (by simp) _⟩
/-- A note: where it begins, where it ends (-1: nowhere). -/
theorem note_info : (Try.prog.info? 36).map (fun i => (i.zero, i.size, i.bytes)) = some (some (.agg #[.int .i64 0, .int .i64 0]), 2, 16) := by kernel_rfl
def noteE : Enc (Int × Int) where
  S := 32
  E := 36
  sz := 2
  bytes := 16
  enc := fun s => [.int .i64 s.1, .int .i64 s.2]
  pos := by decide
  len := fun _ => rfl
  one := by simp [Value.oneCell']
  hS := Try.underlying32
  info := by
    obtain ⟨i0, hi, hz0, hz1, hz2⟩ := info_parts note_info
    exact ⟨i0, _, hi, hz0, hz1, hz2, rfl⟩
  hb := by decide
/-- The state of ends. -/
structure ESt where
  notes : List (Int × Int)
  snd : Vc → Option Nat
def eEnd (s : ESt) (i : Nat) (x : Ev) : ESt :=
  match s.snd (voiceOf x) with
  | some n => ⟨s.notes.set n ((s.notes.getD n (0, 0)).1, (i : Int)), put s.snd (voiceOf x) none⟩
  | none => s
def eOn (s : ESt) (i : Nat) (x : Ev) : ESt := ⟨s.notes ++ [((i : Int), -1)], put s.snd (voiceOf x) (some s.notes.length)⟩
def eStep (s : ESt) (i : Nat) (x : Ev) : ESt :=
  if x.kind = 2 then s else if x.kind = 3 then eOn (eEnd s i x) i x else eEnd s i x
def eAt (l : List Ev) : Nat → ESt
  | 0 => ⟨[], fun _ => none⟩
  | k + 1 => match l[k]? with
    | some x => eStep (eAt l k) k x
    | none => eAt l k
theorem eAt_succ {l : List Ev} {k : Nat} {x : Ev} (h : l[k]? = some x) : eAt l (k + 1) = eStep (eAt l k) k x := by
  rw [eAt, h]
def EOk (s : ESt) : Prop := ∀ v n, s.snd v = some n → n < s.notes.length
theorem EOk.end_ {s : ESt} (h : EOk s) (i : Nat) (x : Ev) : EOk (eEnd s i x) ∧ (eEnd s i x).notes.length = s.notes.length := by
  unfold eEnd
  split
  · refine ⟨fun v n hv => ?_, by simp⟩
    dsimp only at hv ⊢
    unfold put at hv
    split at hv
    · cases hv
    · rw [List.length_set]; exact h v n hv
  · exact ⟨h, rfl⟩
theorem EOk.on {s : ESt} (h : EOk s) (i : Nat) (x : Ev) : EOk (eOn s i x) := by
  intro v n hv
  unfold eOn at hv ⊢
  dsimp only at hv ⊢
  unfold put at hv
  rw [List.length_append, List.length_singleton]
  split at hv
  · injection hv with hv; omega
  · have := h v n hv; omega
theorem EOk.step {s : ESt} (h : EOk s) (i : Nat) (x : Ev) : EOk (eStep s i x) ∧ (eStep s i x).notes.length ≤ s.notes.length + 1 := by
  unfold eStep
  have h1 := h.end_ i x
  split
  · exact ⟨h, by omega⟩
  · split
    · refine ⟨h1.1.on i x, ?_⟩
      unfold eOn
      rw [List.length_append, List.length_singleton]; omega
    · exact ⟨h1.1, by omega⟩
theorem eAt_ok (l : List Ev) : ∀ k, EOk (eAt l k) ∧ (eAt l k).notes.length ≤ k
  | 0 => ⟨fun v n h => (by cases h), Nat.le_refl _⟩
  | k + 1 => by
    obtain ⟨h1, h2⟩ := eAt_ok l k
    unfold eAt
    split
    · rename_i x _
      obtain ⟨h3, h4⟩ := h1.step k x
      exact ⟨h3, by omega⟩
    · exact ⟨h1, by omega⟩
/-- What memory says of the state: the map at block b, the notes from b + 1 on. -/
def NumV (n : Nat) : Value := .int .i64 (n : Int)
def EM (w wr : World) (b : Nat) (A : Option Addr) (n c : Nat) (s : ESt) : Prop := MB NumV wr b s.snd ∧ OA noteE wr (b + 1) A n c s.notes ∧ Below b w wr ∧ b + 1 ≤ wr.heap.size
theorem OA.same {α : Type} {e : Enc α} {w w' : World} {B : Nat} {A : Option Addr} {n c : Nat} {l : List α} (h : OA e w B A n c l) (hs : ∀ a, A = some a → w'.heap[a.block]? = w.heap[a.block]?) : OA e w' B A n c l := by
  refine ⟨⟨h.own.1, ?_⟩⟩
  rcases h.own.2 with h2 | ⟨g, cap, cur, hv, hB, hh, h3⟩
  · exact .inl h2
  · refine .inr ⟨g, cap, cur, hv, hB, ?_, h3⟩
    injection hv with e1
    exact (hs _ e1).trans hh
theorem EM.below {w wr wr' : World} {b n c : Nat} {A : Option Addr} {s : ESt} (h : EM w wr b A n c s) (hb : Below wr.heap.size wr wr') : EM w wr' b A n c s := by
  obtain ⟨h1, h2, h3, h4⟩ := h
  exact ⟨h1.below hb, h2.below hb, h3.trans (hb.mono (by omega)), Nat.le_trans h4 hb.size⟩
/-- sounds[v] = len(notes); notes = append(notes, {i, -1}) -/
theorem EM.on {w wr : World} {b n c : Nat} {A : Option Addr} {s : ESt} (h : EM w wr b A n c s) (x : Ev) (hx : EvI x) (i : Nat) (hn : n ≤ 34359738368) :
    ∃ W1 A' c' W2, (Instr.mapUpdate 78 (.map (some b)) (vK (voiceOf x)) (.int .i64 (n : Int))).run Try.prog wr = .ok () W1 ∧ wr.heap.size = W1.heap.size ∧
      (∀ k, k ≠ b → W1.heap[k]? = wr.heap[k]?) ∧
      (Builtin.append_ #[32, 32] 32 #[.slice A n c, .slice (some ⟨wr.heap.size, 0, none⟩) 1 1]).run Try.prog (W1.alloc (.cells #[.int .i64 (i : Int), .int .i64 (-1)] 36)) = .ok (.slice A' (n + 1) c') W2 ∧
      EM w W2 b A' (n + 1) c' (eOn s i x) := by
  obtain ⟨h1, h2, h3, h4⟩ := h
  obtain ⟨W1, e1, m1, g1, z1⟩ := h1.upd Try.underlying78 hx.voice n
  have hnb : ∀ a, A = some a → b + 1 ≤ a.block := fun a ha => (h2.blk ha).1
  have ho : ∀ k, k ≠ b → k < wr.heap.size → W1.heap[k]? = wr.heap[k]? := fun k hk hl => g1.block k hl (fun e => hk (by first | exact Option.some.inj e | exact (Option.some.inj e).symm))
  have ho' : ∀ k, k ≠ b → W1.heap[k]? = wr.heap[k]? := fun k hk => by
    by_cases hl : k < wr.heap.size
    · exact ho k hk hl
    · rw [Array.getElem?_eq_none (by omega), Array.getElem?_eq_none (by omega)]
  have o1 : OA noteE W1 (b + 1) A n c s.notes := h2.same (fun a ha => ho' _ (by have := hnb a ha; omega))
  have hs := SA.lit (e := noteE) (l := [((i : Int), -1)]) (n := 1) (cs := #[.int .i64 (i : Int), .int .i64 (-1)]) W1 rfl (by rw [Enc.cells_one]; rfl) (by omega)
  rw [z1] at hs
  obtain ⟨A', c', W2, e2, o2, b2, _, _⟩ := (o1.alloc (.cells #[.int .i64 (i : Int), .int .i64 (-1)] 36)).app hs (by rw [World.size_alloc]; omega) (by omega)
  have hlen := h2.n_eq
  refine ⟨W1, A', c', W2, e1, z1.symm, ho', e2, ⟨?_, o2, ?_, ?_⟩⟩
  · have m2 : MB NumV (W1.alloc (.cells #[.int .i64 (i : Int), .int .i64 (-1)] 36)) b (put s.snd (voiceOf x) (some n)) := m1.below ((Below.refl _ _).alloc (Nat.le_refl _) _)
    have := m2.same (b2.block b (by omega))
    unfold eOn
    rw [hlen]
    exact this
  · have hb1 : Below b wr W1 := ⟨g1.os, g1.tape, g1.output, g1.size, fun k hk => ho' k (by omega)⟩
    exact (h3.trans (hb1.alloc (by omega) _)).trans (b2.mono (by omega))
  · have := b2.size; rw [World.size_alloc] at this; omega
/-- notes[n][1] = i; delete(sounds, v) -/
theorem EM.end_ {w wr : World} {b m c n : Nat} {A : Option Addr} {s : ESt} (h : EM w wr b A m c s) (x : Ev) (hx : EvI x) (i : Nat) (hs : s.snd (voiceOf x) = some n) (hn : n < m) :
    ∃ g old W1, A = some ⟨g, 0, none⟩ ∧ wr.cell? ⟨g, n * 2 + 1, none⟩ = some old ∧ wr.frozen? ⟨g, n * 2 + 1, none⟩ = false ∧
      (∀ ty, (Builtin.delete_ #[78, 80] ty #[.map (some b), vK (voiceOf x)]).run Try.prog (wr.setCell ⟨g, n * 2 + 1, none⟩ (.int .i64 (i : Int))) = .ok (.tuple #[]) W1) ∧ wr.heap.size = W1.heap.size ∧
      (∀ k, k ≠ b → k ≠ g → W1.heap[k]? = wr.heap[k]?) ∧ b < g ∧ EM w W1 b A m c (eEnd s i x) := by
  obtain ⟨h1, h2, h3, h4⟩ := h
  have hlen := h2.n_eq
  obtain ⟨p, hp⟩ : ∃ p, s.notes[n]? = some p := ⟨_, List.getElem?_eq_getElem (by omega)⟩
  obtain ⟨g, rfl, hg, hgs, hmc, hc, hf, hset⟩ := h2.at_ hn
  have o1 := hset p (p.1, (i : Int)) 1 (.int .i64 (i : Int)) hp (by show 1 < 2; omega) rfl
  have m1 : MB NumV (wr.setCell ⟨g, n * 2 + 1, none⟩ (.int .i64 (i : Int))) b s.snd := h1.same (Below.heap_setCell _ _ _ b (by show b ≠ g; omega))
  obtain ⟨W1, e1, m2, g1, z1⟩ := m1.del Try.underlying78 hx.voice
  have sz : (wr.setCell ⟨g, n * 2 + 1, none⟩ (.int .i64 (i : Int))).heap.size = wr.heap.size := by simp [World.setCell]
  have ho' : ∀ k, k ≠ b → W1.heap[k]? = (wr.setCell ⟨g, n * 2 + 1, none⟩ (.int .i64 (i : Int))).heap[k]? := fun k hk => by
    by_cases hl : k < (wr.setCell ⟨g, n * 2 + 1, none⟩ (.int .i64 (i : Int))).heap.size
    · exact g1.block k hl (fun e => hk (by first | exact Option.some.inj e | exact (Option.some.inj e).symm))
    · rw [Array.getElem?_eq_none (by omega), Array.getElem?_eq_none (by omega)]
  have hw1 : Below b wr (wr.setCell ⟨g, n * 2 + 1, none⟩ (.int .i64 (i : Int))) := (Below.refl b wr).setCell (by show b ≤ g; omega) _
  refine ⟨g, _, W1, rfl, hc p 1 _ hp rfl, hf 1, e1, by omega, fun k hk hkg => (ho' k hk).trans (Below.heap_setCell _ _ _ k hkg), by omega, ⟨?_, ?_, ?_, by omega⟩⟩
  · unfold eEnd; rw [hs]; exact m2
  · have : (eEnd s i x).notes = s.notes.set n (p.1, (i : Int)) := by
      unfold eEnd
      rw [hs]
      dsimp only
      rw [List.getD_eq_getElem?_getD, hp]; rfl
    rw [this]
    exact o1.same (fun a ha => ho' _ (by injection ha with ha; subst ha; show g ≠ b; omega))
  · refine h3.trans (hw1.trans ⟨g1.os, g1.tape, g1.output, g1.size, fun k hk => ho' k (by omega)⟩)
end Go.Proofs.Ytmfdflfjllpceaa
