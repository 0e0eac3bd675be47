/- Layer 50: Slice. -/
import Derived.Test.YtmfdflfjllpceaaZMvR
namespace Go.Proofs.Ytmfdflfjllpceaa
open Go.RowKit Go.Shelf

theorem part_any (A : Option Addr) (n c : Nat) (fr hi : Int) (w : World) : Calls Try.prog 39 #[.slice A n c, .int .i64 fr, .int .i64 hi] w fun e w' =>
    e = .returned (.func (.func 53) #[] #[.pointer (some ⟨w.heap.size, 0, none⟩), .pointer (some ⟨w.heap.size + 1, 0, none⟩), .pointer (some ⟨w.heap.size + 1 + 1, 0, none⟩)]) ∧
      ((w.alloc (.cells #[.slice A n c] 22)).alloc (.cells #[.int .i64 fr] 3)).alloc (.cells #[.int .i64 hi] 3) = w' := by
  go_enter Try.func39, Try.ntmps39
  go_wp2
  go_ret
  exact ⟨rfl, rfl⟩
/-- The events of a part, in some order. -/
def partL (l : List Ev) (fr hi : Int) : List Ev := inE l fr hi l.length ++ (l.map voiceOf).filterMap (cAt l fr l.length) ++ offE l fr hi (notesM l).length
theorem partL_mem {l : List Ev} {fr hi : Int} {e : Ev} : e ∈ partL l fr hi ↔ e ∈ inE l fr hi l.length ∨ (∃ v, cAt l fr l.length v = some e) ∨ e ∈ offE l fr hi (notesM l).length := by
  unfold partL
  rw [List.mem_append, List.mem_append, List.mem_filterMap, or_assoc]
  constructor
  · rintro (h | ⟨v, _, h⟩ | h)
    · exact .inl h
    · exact .inr (.inl ⟨v, h⟩)
    · exact .inr (.inr h)
  · rintro (h | ⟨v, h⟩ | h)
    · exact .inl h
    · obtain ⟨x, hx, hv, _⟩ := cAt_mem h
      exact .inr (.inl ⟨v, List.mem_map.2 ⟨x, hx, hv⟩, h⟩)
    · exact .inr (.inr h)
theorem offE_mem {l : List Ev} {fr hi : Int} {p : Nat} {e : Ev} (h : e ∈ offE l fr hi p) : ∃ x ∈ l, e = ⟨hi, 1, x.ch, x.key, 0, x.no⟩ := by
  unfold offE at h
  obtain ⟨q, _, h⟩ := List.mem_filterMap.1 h
  unfold offOf at h
  cases hx : l[q.1.toNat]? with
  | none => rw [hx] at h; cases h
  | some x =>
    rw [hx] at h
    dsimp only at h
    split at h
    · injection h with h; exact ⟨x, List.mem_of_getElem? hx, h.symm⟩
    · cases h
theorem partL_evI {l : List Ev} {fr hi : Int} (hI : ∀ e ∈ l, EvI e) (hfr : I64 fr) (hhi : I64 hi) : ∀ e ∈ partL l fr hi, EvI e := by
  intro e he
  rcases partL_mem.1 he with h | ⟨v, h⟩ | h
  · unfold inE at h
    exact hI e (List.mem_of_mem_take (List.mem_filter.1 h).1)
  · exact cAt_evI hI hfr h
  · obtain ⟨x, hx, rfl⟩ := offE_mem h
    have h2 := hI x hx
    intro y hy
    simp only [ekey, List.mem_cons, List.not_mem_nil, or_false] at hy
    rcases hy with rfl | rfl | rfl | rfl | rfl | rfl
    · exact hhi
    · exact ⟨by omega, by omega⟩
    · exact h2 _ (by simp [ekey])
    · exact h2 _ (by simp [ekey])
    · exact ⟨by omega, by omega⟩
    · exact h2 _ (by simp [ekey])
def PtOk (fr hi : Int) : Prop := 0 ≤ fr ∧ fr ≤ hi ∧ hi ≤ 1099511627776
instance (fr hi : Int) : Decidable (PtOk fr hi) := by unfold PtOk; infer_instance
/-- What Slice answers. -/
noncomputable def sliceM (l : List Ev) (fr hi : Int) : List Ev × Int :=
  if checkM l ≠ 0 then ([], checkM l) else if ¬ PtOk fr hi then ([], 1) else if 4096 < (csort (partL l fr hi)).length then ([], 2) else (csort (partL l fr hi), 0)
/-- Events and a code are handed back. -/
def ERet (w : World) (r : List Ev × Int) (e : Ending) (w' : World) : Prop :=
  ∃ A n c, e = .returned (.tuple #[.slice A n c, .int .i64 r.2]) ∧ SA evE w' A n c r.1 ∧ Below w.heap.size w w'
theorem partseq_any (A : Option Addr) (n c : Nat) (l : List Ev) (fr hi : Int) (w : World) (h : SA evE w A n c l) (hI : ∀ e ∈ l, EvI e) (hfr : I64 fr) (hhi : I64 hi) (hm : n ≤ 4294967296) (w2 : World)
    (hw2 : ((w.alloc (.cells #[.slice A n c] 22)).alloc (.cells #[.int .i64 fr] 3)).alloc (.cells #[.int .i64 hi] 3) = w2) :
    Calls Try.prog 30 #[.func (.func 53) #[] #[.pointer (some ⟨w.heap.size, 0, none⟩), .pointer (some ⟨w.heap.size + 1, 0, none⟩), .pointer (some ⟨w.heap.size + 1 + 1, 0, none⟩)], .func (.func 29) #[] #[]] w2 fun e w' =>
      ∃ A n c, e = .returned (.slice A n c) ∧ (∃ xs, OA evE w' w.heap.size A n c (msort xs) ∧ (∀ e, e ∈ xs ↔ e ∈ partL l fr hi) ∧ n ≤ 34359738368) ∧ Below w.heap.size w w' := by
  have hn := h.n_eq
  have cl : w2.cell? ⟨w.heap.size, 0, none⟩ = some (.slice A n c) := by rw [← hw2]; exact cell_al (cell_al ((Blk.new w 22 #[.slice A n c]).cell 0) _) _
  have cf : w2.cell? ⟨w.heap.size + 1, 0, none⟩ = some (.int .i64 fr) := by
    rw [← hw2]; have := (Blk.new (w.alloc (.cells #[.slice A n c] 22)) 3 #[.int .i64 fr]).cell 0; rw [World.size_alloc] at this; exact cell_al this _
  have ct : w2.cell? ⟨w.heap.size + 1 + 1, 0, none⟩ = some (.int .i64 hi) := by
    rw [← hw2]; have := (Blk.new ((w.alloc (.cells #[.slice A n c] 22)).alloc (.cells #[.int .i64 fr] 3)) 3 #[.int .i64 hi]).cell 0; rw [World.size_alloc, World.size_alloc] at this; exact this
  have hb : Below w.heap.size w w2 := by rw [← hw2]; exact Bel.al (Bel.al (Bel.al (Below.refl _ w) _) _) _
  have z2 : w2.heap.size = w.heap.size + 1 + 1 + 1 := by rw [← hw2]; simp
  have hs := h.below hb
  have hseq := part_seq 2 n c w.heap.size (w.heap.size + 1) (w.heap.size + 1 + 1) A l fr hi w2 hs hI hfr hhi (by omega) hm cl cf ct
  refine Calls.mono (sortedf_any 53 #[.pointer (some ⟨w.heap.size, 0, none⟩), .pointer (some ⟨w.heap.size + 1, 0, none⟩), .pointer (some ⟨w.heap.size + 1 + 1, 0, none⟩)] _ _ _ _ hseq ?_ (fun _ _ h => h) ?_
    (enters_of Try.func53 (by kernel_rfl) rfl)) ?_
  · rintro k (rfl | rfl | rfl | ⟨a, ha, hn0, rfl⟩)
    · omega
    · omega
    · omega
    · obtain ⟨b, o, e1, hb, _⟩ := h.all_ hn0
      rw [ha] at e1; injection e1 with e1
      rw [e1]; show b < _; omega
  · rintro xs ⟨h1, h2⟩
    exact ⟨fun e he => partL_evI hI hfr hhi e (partL_mem.2 ((h2 e).1 he)), by omega⟩
  · rintro e w' ⟨A', n', c', xs, rfl, h1, ⟨h2, h3⟩, h4⟩
    refine ⟨A', n', c', rfl, ⟨xs, h1.mono (by omega), fun e => (h3 e).trans partL_mem.symm, ?_⟩, hb.trans (h4.mono (by omega))⟩
    have := h1.n_eq
    rw [msort_len] at this
    omega
theorem not_ptOk {fr hi : Int} (h : ¬ PtOk fr hi) : fr < 0 ∨ (0 ≤ fr ∧ hi < fr) ∨ (0 ≤ fr ∧ fr ≤ hi ∧ 1099511627776 < hi) := by unfold PtOk at h; omega
set_option maxHeartbeats 2000000 in
theorem mslice_any (A : Option Addr) (n c : Nat) (l : List Ev) (fr hi : Int) (w : World) (h : SA evE w A n c l) (hI : ∀ e ∈ l, EvI e) (hfr : I64 fr) (hhi : I64 hi) :
    Calls Try.prog 21 #[.slice A n c, .int .i64 fr, .int .i64 hi] w (ERet w (sliceM l fr hi)) := by
  have C := mcheck_any A n c l w h
  by_cases hc : checkM l = 0
  · have hm : n ≤ 4294967296 := by
      rw [← h.n_eq]
      unfold checkM at hc
      by_cases h4 : 4096 < l.length
      · rw [if_pos h4] at hc; omega
      · omega
    rw [hc] at C
    by_cases hp : PtOk fr hi
    · have CS := Lib.hid fun (w1 : World) (hb : Below w.heap.size w w1) => partseq_any A n c l fr hi w1 (h.below hb) hI hfr hhi hm _ rfl
      have CP := Lib.hid fun (w1 : World) => part_any A n c fr hi w1
      have CC := Lib.hid fun (w1 : World) (A : Option Addr) (B n c : Nat) (l : List Ev) => compact_any A B n c l w1
      have HR := Lib.hid (show sliceM l fr hi = if 4096 < (csort (partL l fr hi)).length then ([], 2) else (csort (partL l fr hi), 0) by
        unfold sliceM; rw [if_neg (by simpa using hc), if_neg (by simpa using hp)])
      obtain ⟨p1, p2, p3⟩ := hp
      clear h hI hc hm
      go_enter Try.func21, Try.ntmps21
      go_wp2_with (first
        | (go_at_call 12; ((with_reducible refine C.mono ?_); rintro e w1 ⟨rfl, hh1⟩))
        | (go_at_call 39; refine (CP.out _).mono ?_; rintro e w2 ⟨rfl, rfl⟩)
        | (go_at_call 30; refine (CS.out _ hh1).mono ?_; rintro e w3 ⟨A3, n3, c3, rfl, ⟨xs, ho, hx, hn3⟩, hh3⟩)
        | (go_at_call 34; refine (CC.out _ _ _ _ _ _ ho hn3).mono ?_; rintro e w4 ⟨A4, n4, c4, rfl, ho4, hh4⟩;
            (have hR4 : compS (msort xs) = csort (partL l fr hi) := csort_eq hx);
            (rw [hR4] at ho4);
            (have hB4 := (Bel.on0 hh1 hh3).trans (hh4.mono hh1.size));
            (have HB4 := Lib.hid hB4);
            (have HO4 := Lib.hid ho4.sa);
            (have HN4 := Lib.hid ho4.n_eq);
            (clear hR4 ho4 hB4 hh4 hh3 ho hx)))
      · rename_i hgt
        have HZ := Lib.hid (show sliceM l fr hi = ([], 2) by rw [HR.out, if_pos (by have := HN4.out; omega)])
        exact bodyPost_ret (v := .tuple #[.slice none 0 0, .int .i64 2]) (by simp [results, Try.results21, go_sem]) rfl ⟨none, 0, 0, by rw [HZ.out], by rw [HZ.out]; exact SA.nil, HB4.out⟩
      · rename_i hgt
        have HZ := Lib.hid (show sliceM l fr hi = (csort (partL l fr hi), 0) by rw [HR.out, if_neg (by have := HN4.out; omega)])
        exact bodyPost_ret (v := .tuple #[.slice A4 n4 c4, .int .i64 0]) (by simp [results, Try.results21, go_sem]) rfl ⟨A4, n4, c4, by rw [HZ.out], by rw [HZ.out]; exact HO4.out, HB4.out⟩
    · have HR := Lib.hid (show sliceM l fr hi = ([], 1) by unfold sliceM; rw [if_neg (by simpa using hc), if_pos hp])
      have hc2 := not_ptOk hp
      clear hp hc h hI hm
      rcases hc2 with h1 | ⟨h1, h2⟩ | ⟨h1, h2, h3⟩
      all_goals
        go_enter Try.func21, Try.ntmps21
        go_wp2_with (go_at_call 12; ((with_reducible refine C.mono ?_); rintro e w1 ⟨rfl, hh1⟩))
        exact bodyPost_ret (v := .tuple #[.slice none 0 0, .int .i64 1]) (by simp [results, Try.results21, go_sem]) rfl ⟨none, 0, 0, by rw [HR.out], by rw [HR.out]; exact SA.nil, hh1⟩
  · have HR := Lib.hid (show sliceM l fr hi = ([], checkM l) by unfold sliceM; rw [if_pos hc])
    have hc1 : (checkM l != 0) = true := by simpa using hc
    obtain ⟨z, hz⟩ : ∃ z, checkM l = z := ⟨_, rfl⟩
    rw [hz] at HR C hc1
    clear hc hz h hI
    go_enter Try.func21, Try.ntmps21
    go_wp2_with (go_at_call 12; ((with_reducible refine C.mono ?_); rintro e w1 ⟨rfl, hh1⟩))
    exact bodyPost_ret (v := .tuple #[.slice none 0 0, .int .i64 z]) (by simp [results, Try.results21, go_sem]) rfl ⟨none, 0, 0, by rw [HR.out], by rw [HR.out]; exact SA.nil, hh1⟩
end Go.Proofs.Ytmfdflfjllpceaa
