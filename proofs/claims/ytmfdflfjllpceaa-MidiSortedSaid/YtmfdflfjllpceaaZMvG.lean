/- The shelf's law of slices.SortFunc, laid at this program (the text that the kit's tool prints). -/
import Derived.Test.YtmfdflfjllpceaaRows
import Derived.Shelf.SlSortCmp.KitK
import Derived.Shelf.SlGeneric
import Derived.Test.YtmfdflfjllpceaaZMvF
import Derived.Shelf.SlSortCmp.NoneTotal
import Derived.Shelf.Lay
/- The shelf's law of slices.SortFunc, laid at this program (the text that the kit's tool prints). -/
namespace Go.Proofs.Ytmfdflfjllpceaa
open Go.Shelf Go.Proofs
def sortEv_ren : Go.Shelf.Ren := ⟨fun | 6 => 48 | 15 => 59 | 14 => 58 | 28 => 71 | 29 => 72 | 20 => 63 | 21 => 64 | 22 => 65 | 23 => 66 | 24 => 67 | 25 => 68 | 26 => 69 | 27 => 70 | 46 => 73 | 47 => 74 | 48 => 75 | 49 => 76 | 50 => 77 | 57 => 78 | n => n, fun | 22 => 22 | 24 => 40 | 25 => 54 | 3 => 3 | 39 => 94 | 0 => 0 | 53 => 106 | 55 => 108 | 4 => 4 | 46 => 100 | 45 => 99 | 50 => 82 | 5 => 5 | 9 => 9 | 66 => 109 | 70 => 113 | 76 => 115 | 77 => 116 | n => n, fun | n => n⟩
theorem sortEv : Go.Proofs.SlLaysF0.n6 Try.prog sortEv_ren := {
  mixed := by kernel_rfl
  f6 := ⟨Try.f48.name, by decide, Try.func48.trans (congrArg some (by kernel_rfl))⟩
  f14 := ⟨Try.f58.name, by decide, Try.func58.trans (congrArg some (by kernel_rfl))⟩
  f15 := Try.func59.trans (congrArg some (by kernel_rfl))
  f20 := ⟨Try.f63.name, by decide, Try.func63.trans (congrArg some (by kernel_rfl))⟩
  f21 := ⟨Try.f64.name, by decide, Try.func64.trans (congrArg some (by kernel_rfl))⟩
  f22 := ⟨Try.f65.name, by decide, Try.func65.trans (congrArg some (by kernel_rfl))⟩
  f23 := ⟨Try.f66.name, by decide, Try.func66.trans (congrArg some (by kernel_rfl))⟩
  f24 := ⟨Try.f67.name, by decide, Try.func67.trans (congrArg some (by kernel_rfl))⟩
  f25 := ⟨Try.f68.name, by decide, Try.func68.trans (congrArg some (by kernel_rfl))⟩
  f26 := ⟨Try.f69.name, by decide, Try.func69.trans (congrArg some (by kernel_rfl))⟩
  f27 := ⟨Try.f70.name, by decide, Try.func70.trans (congrArg some (by kernel_rfl))⟩
  f28 := Try.func71.trans (congrArg some (by kernel_rfl))
  f29 := Try.func72.trans (congrArg some (by kernel_rfl))
  f46 := ⟨Try.f73.name, by decide, Try.func73.trans (congrArg some (by kernel_rfl))⟩
  f47 := Try.func74.trans (congrArg some (by kernel_rfl))
  f48 := Try.func75.trans (congrArg some (by kernel_rfl))
  f49 := ⟨Try.f76.name, by decide, Try.func76.trans (congrArg some (by kernel_rfl))⟩
  f50 := ⟨Try.f77.name, by decide, Try.func77.trans (congrArg some (by kernel_rfl))⟩
  f57 := ⟨Try.f78.name, by decide, Try.func78.trans (congrArg some (by kernel_rfl))⟩
  t0 := Try.underlying0
  a0 := Try.isAgg0
  z0 := Try.sizeOf0
  v0 := Try.zeroValue0
  t3 := Try.underlying3
  a3 := Try.isAgg3
  z3 := Try.sizeOf3
  v3 := Try.zeroValue3
  t4 := Try.underlying4
  a4 := Try.isAgg4
  z4 := Try.sizeOf4
  v4 := Try.zeroValue4
  t5 := Try.underlying5
  a5 := Try.isAgg5
  z5 := Try.sizeOf5
  v5 := Try.zeroValue5
  t9 := Try.underlying9
  a9 := Try.isAgg9
  z9 := Try.sizeOf9
  v9 := Try.zeroValue9
  t22 := Try.underlying22
  a22 := Try.isAgg22
  z22 := Try.sizeOf22
  v22 := Try.zeroValue22
  t25 := Try.underlying54
  a25 := Try.isAgg54
  z25 := Try.sizeOf54
  v25 := Try.zeroValue54
  t39 := Try.underlying94
  a39 := Try.isAgg94
  z39 := Try.sizeOf94
  v39 := Try.zeroValue94
  t45 := Try.underlying99
  a45 := Try.isAgg99
  z45 := Try.sizeOf99
  v45 := Try.zeroValue99
  t46 := Try.underlying100
  a46 := Try.isAgg100
  z46 := Try.sizeOf100
  v46 := Try.zeroValue100
  t50 := Try.underlying82
  a50 := Try.isAgg82
  z50 := Try.sizeOf82
  v50 := Try.zeroValue82
  t53 := Try.underlying106
  a53 := Try.isAgg106
  z53 := Try.sizeOf106
  v53 := Try.zeroValue106
  t55 := Try.underlying108
  a55 := Try.isAgg108
  z55 := Try.sizeOf108
  v55 := Try.zeroValue108
  t66 := Try.underlying109
  a66 := Try.isAgg109
  z66 := Try.sizeOf109
  v66 := Try.zeroValue109
  t70 := Try.underlying113
  a70 := Try.isAgg113
  z70 := Try.sizeOf113
  v70 := Try.zeroValue113
  t76 := Try.underlying115
  a76 := Try.isAgg115
  z76 := Try.sizeOf115
  v76 := Try.zeroValue115
  t77 := Try.underlying116
  a77 := Try.isAgg116
  z77 := Try.sizeOf116
  v77 := Try.zeroValue116 }
end Go.Proofs.Ytmfdflfjllpceaa

/- Layer 50: slices.SortFunc at events. -/
namespace Go.Proofs.Ytmfdflfjllpceaa
open Go.RowKit Go.Shelf Go.Sort Go.Lib

theorem ccmp_swap (a b : Int) : ccmp b a = - ccmp a b := by
  unfold ccmp
  repeat' split
  all_goals omega
theorem lcmp_neg : ∀ a b : List Int, lcmp b a = - lcmp a b
  | [], [] => rfl
  | [], _ :: _ => rfl
  | _ :: _, [] => rfl
  | x :: a, y :: b => by
    unfold lcmp
    by_cases h : x = y
    · rw [if_pos h, if_pos h.symm, lcmp_neg a b]
    · rw [if_neg h, if_neg (fun e => h e.symm), ccmp_swap]
theorem lcmp_self (a : List Int) : lcmp a a = 0 := by have := lcmp_neg a a; omega
theorem lcmp_trans : ∀ a b c : List Int, a.length = b.length → b.length = c.length → lcmp a b ≤ 0 → lcmp b c ≤ 0 → lcmp a c ≤ 0
  | [], _, _, _, _, _, _ => Int.le_refl _
  | _ :: _, [], _, h, _, _, _ => by simp at h
  | _ :: _, _ :: _, [], _, h, _, _ => by simp at h
  | x :: a, y :: b, z :: c, h1, h2, h3, h4 => by
    unfold lcmp at h3 h4 ⊢
    unfold ccmp at h3 h4 ⊢
    have ih := lcmp_trans a b c (by simpa using h1) (by simpa using h2)
    by_cases e1 : x = y
    · subst e1
      rw [if_pos rfl] at h3
      by_cases e2 : x = z
      · subst e2
        rw [if_pos rfl] at h4 ⊢
        exact ih h3 h4
      · rw [if_neg e2] at h4 ⊢
        exact h4
    · rw [if_neg e1] at h3
      have l1 : x < y := by
        by_cases q : x < y
        · exact q
        · rw [if_neg q] at h3
          by_cases q2 : y < x
          · rw [if_pos q2] at h3; omega
          · omega
      by_cases e2 : y = z
      · subst e2
        rw [if_neg e1, if_pos l1]; omega
      · rw [if_neg e2] at h4
        have l2 : y < z := by
          by_cases q : y < z
          · exact q
          · rw [if_neg q] at h4
            by_cases q2 : z < y
            · rw [if_pos q2] at h4; omega
            · omega
        rw [if_neg (by omega), if_pos (by omega)]; omega
theorem lcmp_zero : ∀ a b : List Int, a.length = b.length → lcmp a b = 0 → a = b
  | [], [], _, _ => rfl
  | [], _ :: _, h, _ => by simp at h
  | _ :: _, [], h, _ => by simp at h
  | x :: a, y :: b, h, h2 => by
    unfold lcmp at h2
    by_cases e : x = y
    · rw [if_pos e] at h2
      rw [e, lcmp_zero a b (by simpa using h) h2]
    · rw [if_neg e] at h2
      exact absurd (ccmp_zero.1 h2) e
theorem ekey_inj {a b : Ev} (h : ekey a = ekey b) : a = b := by
  obtain ⟨a1, a2, a3, a4, a5, a6⟩ := a
  obtain ⟨b1, b2, b3, b4, b5, b6⟩ := b
  simp only [ekey, List.cons.injEq, and_true] at h
  obtain ⟨rfl, rfl, rfl, rfl, rfl, rfl⟩ := h
  rfl
/-- The sign of the comparison of two events. -/
def evc (a b : Ev) : Int := lcmp (ekey a) (ekey b)
theorem evc_neg (a b : Ev) : evc b a = - evc a b := lcmp_neg _ _
theorem evc_trans {a b c : Ev} (h1 : evc a b ≤ 0) (h2 : evc b c ≤ 0) : evc a c ≤ 0 := lcmp_trans (ekey a) (ekey b) (ekey c) rfl rfl h1 h2
theorem evc_zero {a b : Ev} (h : evc a b = 0) : a = b := ekey_inj (lcmp_zero _ _ rfl h)
theorem evc_self (a : Ev) : evc a a = 0 := lcmp_self _
/-- An event whose numbers are all ints. -/
abbrev EvS := { e : Ev // EvI e }
instance : Inhabited EvS := ⟨⟨⟨0, 0, 0, 0, 0, 0⟩, by
  intro z hz
  simp only [ekey, List.mem_cons, List.not_mem_nil, or_false] at hz
  rcases hz with rfl | rfl | rfl | rfl | rfl | rfl <;> exact ⟨by omega, by omega⟩⟩⟩
def encS (x : EvS) : List Value := evE.enc x.1
def cfS (x y : EvS) : Int := evc x.1 y.1
theorem ltS (x y : EvS) : (ltOf cfS) x y = true ↔ evc x.1 y.1 < 0 := decide_eq_true_iff
theorem ltS_not (x y : EvS) : (ltOf cfS) x y = false ↔ ¬ evc x.1 y.1 < 0 := decide_eq_false_iff_not
theorem swoS : SWO (ltOf cfS) where
  irrefl x := by rw [ltS_not, evc_self]; omega
  trans x y z h1 h2 := by
    rw [ltS] at *
    have h3 := evc_trans (Int.le_of_lt h1) (Int.le_of_lt h2)
    by_cases h4 : evc x.1 z.1 = 0
    · have := evc_zero h4
      rw [this] at h1
      have := evc_neg y.1 z.1
      omega
    · omega
  ntrans x y z h1 h2 := by
    rw [ltS_not] at *
    have e1 := evc_neg x.1 y.1
    have e2 := evc_neg y.1 z.1
    have e3 := evc_neg x.1 z.1
    have := evc_trans (a := z.1) (b := y.1) (c := x.1) (by omega) (by omega)
    omega
theorem totS (x y : EvS) (h1 : (ltOf cfS) x y = false) (h2 : (ltOf cfS) y x = false) : x = y := by
  rw [ltS_not] at h1 h2
  have e1 := evc_neg x.1 y.1
  exact Subtype.ext (evc_zero (by omega))
/-- Sorted. -/
def msort (l : List Ev) : List Ev := l.mergeSort fun x y => decide (evc x y ≤ 0)
theorem flat_cells (d : Array EvS) : flatK encS 6 d = (evE.cells (d.toList.map (·.1))).toArray := by
  apply Array.ext
  · rw [size_flatK]
    show d.size * 6 = (evE.cells _).length
    rw [Enc.cells_len, List.length_map, Array.length_toList]; rfl
  · intro t h1 h2
    rw [size_flatK] at h1
    have hq : t / 6 < d.size := by omega
    have hr : t % 6 < 6 := Nat.mod_lt _ (by omega)
    have e1 := get_flatK encS 6 d t h1
    have hk : t / 6 < (d.toList.map (·.1)).length := by simpa using hq
    have e2 := evE.cells_get (l := d.toList.map (·.1)) (k := t / 6) (j := t % 6) hk hr
    have e3 : t / 6 * evE.sz + t % 6 = t := by show t / 6 * 6 + t % 6 = t; omega
    rw [e3] at e2
    rw [getElem!_pos (flatK encS 6 d) t (by rw [size_flatK]; exact h1)] at e1
    rw [e1, List.getElem_toArray]
    have h3 : t < (evE.cells (d.toList.map (·.1))).length := by simpa using h2
    rw [List.getElem?_eq_getElem h3] at e2
    have e4 : encS d[t / 6]! = evE.enc (d.toList.map (·.1))[t / 6] := by
      rw [getElem!_pos d _ hq]
      simp [encS]
    rw [e4]
    have h4 : t % 6 < (evE.enc (d.toList.map (·.1))[t / 6]).length := by rw [evE.len]; exact hr
    rw [List.getElem?_eq_getElem h4] at e2
    injection e2 with e2
    rw [getElem!_pos (evE.enc (d.toList.map (·.1))[t / 6]) (t % 6) h4, e2]
theorem grow_of_below {w w' : World} (h : Below w.heap.size w w') (hd : w.drawn ≤ w'.drawn) : ∃ q os', w' = grow (w.drewN q) os' := by
  refine ⟨w'.drawn - w.drawn, w'.heap.extract w.heap.size w'.heap.size, ?_⟩
  have hh : w'.heap = w.heap ++ w'.heap.extract w.heap.size w'.heap.size := by
    apply Array.ext_getElem?
    intro i
    by_cases hi : i < w.heap.size
    · rw [Array.getElem?_append_left hi]; exact h.block i hi
    · rw [Array.getElem?_append_right (by omega), Array.getElem?_extract]
      by_cases h2 : i - w.heap.size < min w'.heap.size w'.heap.size - w.heap.size
      · rw [if_pos h2]; congr 1; omega
      · rw [if_neg h2, Array.getElem?_eq_none (by have := h.size; omega)]
  obtain ⟨h1, h2, h3, h4, h5⟩ := h
  obtain ⟨hp, tp, dr, os, out⟩ := w'
  obtain ⟨hp0, tp0, dr0, os0, out0⟩ := w
  dsimp only at h1 h2 h3 hd hh ⊢
  subst h1 h2 h3
  unfold grow World.drewN
  rw [← hh]
  congr 1
  dsimp only
  omega
def liftS (l : List Ev) (h : ∀ e ∈ l, EvI e) : List EvS := l.attach.map fun e => ⟨e.1, h e.1 e.2⟩
theorem liftS_val (l : List Ev) (h : ∀ e ∈ l, EvI e) : (liftS l h).map (·.1) = l := by
  unfold liftS
  rw [List.map_map]
  exact List.attach_map_subtype_val l
theorem msort_cf (L : List EvS) : (L.mergeSort fun x y => !(ltOf cfS) y x).map (·.1) = msort (L.map (·.1)) := by
  unfold msort
  refine List.map_mergeSort (fun a _ b _ => ?_)
  have e := evc_neg b.1 a.1
  by_cases h : evc b.1 a.1 < 0
  · rw [(ltS b a).2 h, decide_eq_false (by omega)]; rfl
  · rw [(ltS_not b a).2 h, decide_eq_true (by omega)]; rfl
theorem msort_len (l : List Ev) : (msort l).length = l.length := List.length_mergeSort l
theorem msort_mem {l : List Ev} {e : Ev} : e ∈ msort l ↔ e ∈ l := List.mem_mergeSort
/-- slices.SortFunc over events that the call owns. -/
theorem slsort_any (w : World) (B : Nat) (A : Option Addr) (n c : Nat) (l : List Ev) (h : OA evE w B A n c l) (hI : ∀ e ∈ l, EvI e) (hm : n ≤ 68719476736) :
    Calls Try.prog 48 #[.slice A n c, .func (.func 29) #[] #[]] w fun e w' => e = .returned (.tuple #[]) ∧ OA evE w' B A n c (msort l) ∧ Below B w w' := by
  have hn := h.n_eq
  by_cases h0 : n = 0
  · subst h0
    obtain rfl : l = [] := List.eq_nil_of_length_eq_zero hn
    refine Calls.mono (AnyF.slices_SortFunc_none sortEv A c (.func (.func 29) #[] #[]) w) ?_
    rintro e w' ⟨rfl, rfl⟩
    exact ⟨rfl, by simpa [msort] using h, Below.refl _ _⟩
  · obtain ⟨g, cur, rfl, hb, hB, h1, h2, h3, h4⟩ := h.pos (by omega)
    obtain ⟨L, hL⟩ : ∃ L, liftS l hI = L := ⟨_, rfl⟩
    have hv : L.map (·.1) = l := by rw [← hL]; exact liftS_val l hI
    have hLs : L.toArray.size = n := by rw [List.size_toArray, ← hn, ← hv, List.length_map]
    have hcl : (evE.cells l).length = n * 6 := by rw [evE.cells_len, hn]; rfl
    have hc6 : n * 6 ≤ cur.size := by rw [h3]; exact Nat.mul_le_mul_right _ h1
    have hF : flatK encS 6 L.toArray = (evE.cells l).toArray := by rw [flat_cells, List.toList_toArray, hv]
    have hH : HoldsK encS 6 w g 0 L.toArray := by
      intro j hj
      rw [hF] at hj ⊢
      rw [List.size_toArray] at hj
      refine ⟨?_, hB.frozen _⟩
      rw [Nat.zero_add, hB.cell, getElem!_pos _ j (by rw [List.size_toArray]; exact hj), List.getElem_toArray]
      show _ = some ((evE.cells l)[j])
      rw [← List.getElem?_eq_getElem hj, ← h4, List.getElem?_take, if_pos (by rw [hcl] at hj; exact hj)]
      simp
    have eg : ∀ args w, (callFunc 29 args).run Try.prog w = .ok (.enter 29 args) w := enters_of Try.func29 (by kernel_rfl) rfl
    have hcmp : CmpLays Try.prog 29 #[] encS 6 cfS g 0 L.toArray.size w := fun m os dk _ x y =>
      (compare_any x.1 y.1 _ x.2 y.2).mono fun e w' ⟨he, hb', hd⟩ => ⟨he, grow_of_below hb' hd⟩
    have := AnyQ.slices_SortFunc_total sortEv 6 (fun w => Try.isAgg40 w) (fun w => Try.sizeOf40 w) encS (fun _ => rfl) (fun x v hv => evE.one x.1 v hv) cfS swoS 29 #[] g 0 c L.toArray w eg hcmp hH hB.lt
      (by rw [hLs]; omega) totS
    rw [hLs] at this
    refine Calls.mono this ?_
    rintro e w' ⟨rfl, m, os, rfl⟩
    obtain ⟨D, hD⟩ : ∃ D, (L.toArray.toList.mergeSort fun x y => !(ltOf cfS) y x) = D := ⟨_, rfl⟩
    have hDv : D.map (·.1) = msort l := by rw [← hD, List.toList_toArray, msort_cf, hv]
    rw [hD]
    have hFD : flatK encS 6 D.toArray = (evE.cells (msort l)).toArray := by rw [flat_cells, List.toList_toArray, hDv]
    have hcl2 : (evE.cells (msort l)).length = n * 6 := by rw [evE.cells_len, msort_len, hn]; rfl
    refine ⟨rfl, ⟨⟨by rw [evE.cells_len, msort_len, hn], .inr ⟨g, c, putCells id 0 (evE.cells (msort l)).toArray cur, rfl, hb, ?_, h1, h2, by simp [putCells, h3], ?_⟩⟩⟩, ?_⟩
    · show (grow _ os).heap[g]? = _
      unfold grow
      rw [Array.getElem?_append_left (by simpa [sortWorldK, putRowK] using hB.lt)]
      show (w.heap.modify g (onCells _))[g]? = _
      rw [Array.getElem?_modify, if_pos rfl, hFD]
      have hB' := hB
      unfold Blk at hB'
      rw [hB']
      rfl
    · show (List.take (n * 6) _) = _
      apply List.ext_getElem?
      intro t
      rw [List.getElem?_take]
      split
      · rename_i ht
        have ht2 : t < (evE.cells (msort l)).toArray.size := by rw [List.size_toArray, hcl2]; exact ht
        rw [Array.getElem?_toList, putCells, Array.getElem?_mapIdx, Array.getElem?_eq_getElem (by omega : t < cur.size)]
        simp only [Option.map_some, Nat.zero_le, true_and, Nat.zero_add, Nat.sub_zero, id]
        rw [if_pos ht2, getElem!_pos _ t ht2, List.getElem_toArray, List.getElem?_eq_getElem]
      · rename_i ht
        rw [List.getElem?_eq_none (by rw [hcl2]; omega)]
    · refine ⟨rfl, rfl, rfl, ?_, fun k hk => ?_⟩
      · simp [sortWorldK, putRowK]
      · show (grow _ os).heap[k]? = _
        unfold grow
        have hgl := hB.lt
        rw [Array.getElem?_append_left (by simp [putRowK]; omega)]
        show (w.heap.modify g (onCells _))[k]? = _
        rw [Array.getElem?_modify, if_neg (by omega)]
end Go.Proofs.Ytmfdflfjllpceaa
