/- Layer 50, plain: sorted lists of events, insertion, compaction. No program in sight. -/
import Derived.Test.YtmfdflfjllpceaaZMvJ
/- Layer 50, plain: sorted lists of events, insertion, compaction. No program in sight. -/
namespace Go.Proofs.Ytmfdflfjllpceaa
open Go.RowKit

abbrev WS (l : List Ev) : Prop := l.Pairwise fun a b => evc a b ≤ 0
abbrev SS (l : List Ev) : Prop := l.Pairwise evLt
theorem evLt_evc {a b : Ev} : evLt a b ↔ evc a b < 0 := Iff.rfl
theorem evLt_of_le_of_lt {a b c : Ev} (h : evc a b ≤ 0) (k : evLt b c) : evLt a c := by
  rw [evLt_evc] at *
  have h1 := evc_trans h (Int.le_of_lt k)
  by_cases h2 : evc a c = 0
  · have := evc_zero h2
    subst this
    have := evc_neg a b
    omega
  · omega
theorem evLt_of_lt_of_le {a b c : Ev} (h : evLt a b) (k : evc b c ≤ 0) : evLt a c := by
  rw [evLt_evc] at *
  have h1 := evc_trans (Int.le_of_lt h) k
  by_cases h2 : evc a c = 0
  · have := evc_zero h2
    subst this
    have := evc_neg a b
    omega
  · omega
theorem evLt_irrefl (a : Ev) : ¬ evLt a a := by rw [evLt_evc, evc_self]; omega
theorem evLt_trans {a b c : Ev} (h : evLt a b) (k : evLt b c) : evLt a c := evLt_of_le_of_lt (Int.le_of_lt h) k
theorem evLe_of_not {a b : Ev} (h : ¬ evLt a b) : evc b a ≤ 0 := by
  rw [evLt_evc] at h
  have := evc_neg a b
  omega
theorem evLt_or {a b : Ev} (h : a ≠ b) : evLt a b ∨ evLt b a := by
  by_cases h1 : evLt a b
  · exact .inl h1
  · have h2 := evLe_of_not h1
    refine .inr ?_
    rw [evLt_evc]
    by_cases h3 : evc b a = 0
    · exact absurd (evc_zero h3).symm h
    · omega
theorem SS.ws {l : List Ev} (h : SS l) : WS l := h.imp fun hab => Int.le_of_lt hab
theorem msort_perm (l : List Ev) : (msort l).Perm l := List.mergeSort_perm l _
theorem msort_ws (l : List Ev) : WS (msort l) := by
  have := List.pairwise_mergeSort (le := fun x y : Ev => decide (evc x y ≤ 0)) (fun a b c h1 h2 => by simp only [decide_eq_true_eq] at *; exact evc_trans h1 h2) (fun a b => by
    have := evc_neg a b
    simp only [Bool.or_eq_true, decide_eq_true_eq]
    omega) l
  exact this.imp fun h => of_decide_eq_true h
theorem ws_unique {l m : List Ev} (h : l.Perm m) (hl : WS l) (hm : WS m) : l = m :=
  List.Perm.eq_of_pairwise (le := fun a b => evc a b ≤ 0) (fun a b _ _ h1 h2 => by
    have := evc_neg a b
    exact evc_zero (by omega)) hl hm h
theorem msort_perm_eq {l m : List Ev} (h : l.Perm m) : msort l = msort m := ws_unique ((msort_perm l).trans (h.trans (msort_perm m).symm)) (msort_ws l) (msort_ws m)
theorem msort_of_ws {l : List Ev} (h : WS l) : msort l = l := ws_unique (msort_perm l) (msort_ws l) h
theorem ss_nodup {l : List Ev} (h : SS l) : l.Nodup := List.Pairwise.imp (fun {a b} (hab : evLt a b) (e : a = b) => evLt_irrefl b (e ▸ hab)) h
theorem mem_tw {α : Type} {p : α → Bool} : ∀ {l : List α} {a : α}, a ∈ l.takeWhile p → p a = true
  | [], _, h => by simp at h
  | b :: l, a, h => by
    rw [List.takeWhile_cons] at h
    split at h
    · rename_i hb
      rcases List.mem_cons.1 h with rfl | h
      · exact hb
      · exact mem_tw h
    · cases h
theorem ss_unique {l m : List Ev} (hl : SS l) (hm : SS m) (h : ∀ e, e ∈ l ↔ e ∈ m) : l = m :=
  ws_unique ((List.perm_ext_iff_of_nodup (ss_nodup hl) (ss_nodup hm)).2 h) hl.ws hm.ws

/-- What lies ahead of and behind the place of x. -/
theorem insAt_take {x : Ev} {l : List Ev} : ∀ y ∈ l.take (insAt x l), evc y x ≤ 0 := by
  intro y hy
  have h1 : l.take (insAt x l) = l.takeWhile (fun y => !decide (evLt x y)) := (List.prefix_iff_eq_take.1 (List.takeWhile_prefix _)).symm
  rw [h1] at hy
  have := mem_tw hy
  simp only [Bool.not_eq_true', decide_eq_false_iff_not] at this
  exact evLe_of_not this
theorem insAt_next {x : Ev} {l : List Ev} {y : Ev} (h : l[insAt x l]? = some y) : evLt x y := by
  have h1 : l.take (insAt x l) = l.takeWhile (fun y => !decide (evLt x y)) := (List.prefix_iff_eq_take.1 (List.takeWhile_prefix _)).symm
  by_cases hc : evLt x y
  · exact hc
  · exfalso
    have hk := (List.getElem?_eq_some_iff.1 h).1
    have h2 : l = l.take (insAt x l) ++ y :: l.drop (insAt x l + 1) := by
      rw [List.getElem?_eq_getElem hk] at h
      injection h with h
      rw [← h, ← List.drop_eq_getElem_cons hk, List.take_append_drop]
    have h3 : insAt x l = (l.takeWhile fun y => !decide (evLt x y)).length := rfl
    rw [h2, List.takeWhile_append_of_pos (fun z hz => by
      rw [h1] at hz
      exact mem_tw (p := fun y => !decide (evLt x y)) hz), List.length_append, List.takeWhile_cons, if_pos (by simp [hc])] at h3
    rw [← h2] at h3
    have h4 := insAt_le x l
    simp only [List.length_take, List.length_cons] at h3
    omega
theorem insAt_drop {x : Ev} {l : List Ev} (hl : WS l) : ∀ y ∈ l.drop (insAt x l), evLt x y := by
  intro y hy
  by_cases hk : insAt x l < l.length
  · rw [List.drop_eq_getElem_cons hk] at hy
    have h1 := insAt_next (List.getElem?_eq_getElem hk)
    rcases List.mem_cons.1 hy with rfl | hy
    · exact h1
    · refine evLt_of_lt_of_le h1 ?_
      have h2 : (l.drop (insAt x l)).Pairwise fun a b => evc a b ≤ 0 := List.Pairwise.sublist (List.drop_sublist _ _) hl
      rw [List.drop_eq_getElem_cons hk] at h2
      exact List.rel_of_pairwise_cons h2 hy
  · rw [List.drop_of_length_le (by omega)] at hy
    cases hy
theorem insS_false_perm (x : Ev) (l : List Ev) : (insS false x l).Perm (x :: l) := by
  unfold insS
  rw [if_neg (by simp)]
  have : (l.take (insAt x l) ++ [x] ++ l.drop (insAt x l)).Perm (x :: (l.take (insAt x l) ++ l.drop (insAt x l))) := by
    rw [List.append_assoc]; exact List.perm_middle
  rwa [List.take_append_drop] at this
theorem insS_false_ws {x : Ev} {l : List Ev} (h : WS l) : WS (insS false x l) := by
  unfold insS
  rw [if_neg (by simp), List.append_assoc]
  have ht : WS (l.take (insAt x l)) := List.Pairwise.sublist (List.take_sublist _ _) h
  have hd : WS (l.drop (insAt x l)) := List.Pairwise.sublist (List.drop_sublist _ _) h
  refine List.pairwise_append.2 ⟨ht, ?_, ?_⟩
  · exact List.pairwise_cons.2 ⟨fun y hy => Int.le_of_lt (insAt_drop h y hy), hd⟩
  · intro a ha b hb
    have h1 := insAt_take a ha
    rcases List.mem_cons.1 hb with rfl | hb
    · exact h1
    · exact evc_trans h1 (Int.le_of_lt (insAt_drop h b hb))
theorem insS_len (o : Bool) (x : Ev) (l : List Ev) : (insS o x l).length ≤ l.length + 1 := by
  unfold insS
  split
  · omega
  · simp only [List.length_append, List.length_take, List.length_singleton, List.length_drop]; omega
theorem insS_mem_le {o : Bool} {x : Ev} {l : List Ev} {e : Ev} (h : e ∈ insS o x l) : e = x ∨ e ∈ l := by
  unfold insS at h
  split at h
  · exact .inr h
  · simp only [List.mem_append, List.mem_singleton] at h
    rcases h with (h | h) | h
    · exact .inr (List.mem_of_mem_take h)
    · exact .inl h
    · exact .inr (List.mem_of_mem_drop h)
theorem insS_mem {o : Bool} {x : Ev} {l : List Ev} {e : Ev} : e ∈ insS o x l ↔ e = x ∨ e ∈ l := by
  refine ⟨insS_mem_le, fun h => ?_⟩
  unfold insS
  split
  · rename_i hc
    rcases h with rfl | h
    · exact List.mem_of_getElem? hc.2.2
    · exact h
  · simp only [List.mem_append, List.mem_singleton]
    rcases h with rfl | h
    · exact .inl (.inr rfl)
    · rw [← List.take_append_drop (insAt x l) l, List.mem_append] at h
      rcases h with h | h
      · exact .inl (.inl h)
      · exact .inr h
theorem insS_true_ss {x : Ev} {l : List Ev} (h : SS l) : SS (insS true x l) := by
  unfold insS
  split
  · exact h
  · rename_i hc
    rw [List.append_assoc]
    have ht : SS (l.take (insAt x l)) := List.Pairwise.sublist (List.take_sublist _ _) h
    have hd : SS (l.drop (insAt x l)) := List.Pairwise.sublist (List.drop_sublist _ _) h
    have hlt : ∀ y ∈ l.take (insAt x l), evLt y x := by
      intro y hy
      have h1 := insAt_take y hy
      by_cases hyx : y = x
      · exfalso
        subst hyx
        obtain ⟨j, hj⟩ := List.mem_iff_getElem?.1 hy
        rw [List.getElem?_take] at hj
        split at hj
        · rename_i hjk
          have hle := insAt_le y l
          refine hc ⟨rfl, by omega, ?_⟩
          by_cases hj2 : j = insAt y l - 1
          · rw [← hj2]; exact hj
          · exfalso
            have hpl : insAt y l - 1 < l.length := by omega
            have h3 := List.pairwise_iff_getElem.1 h j (insAt y l - 1) (by omega) hpl (by omega)
            obtain ⟨hjl, hjj⟩ := List.getElem?_eq_some_iff.1 hj
            rw [hjj] at h3
            have h4 : l[insAt y l - 1] ∈ l.take (insAt y l) := by
              rw [List.mem_take_iff_getElem]
              exact ⟨insAt y l - 1, by omega, rfl⟩
            have h5 := insAt_take _ h4
            have h6 := evc_neg y l[insAt y l - 1]
            rw [evLt_evc] at h3
            omega
        · cases hj
      · rcases evLt_or hyx with h2 | h2
        · exact h2
        · exfalso
          have := evc_neg y x
          rw [evLt_evc] at h2
          omega
    refine List.pairwise_append.2 ⟨ht, List.pairwise_cons.2 ⟨fun y hy => insAt_drop h.ws y hy, hd⟩, ?_⟩
    intro a ha b hb
    rcases List.mem_cons.1 hb with rfl | hb
    · exact hlt a ha
    · exact evLt_trans (hlt a ha) (insAt_drop h.ws b hb)

/-- The reference's Sort; its lists without repetitions. -/
def foldI (o : Bool) (l : List Ev) (acc : List Ev) : List Ev := l.foldl (fun a x => insS o x a) acc
theorem foldI_snoc (o : Bool) (l : List Ev) (x : Ev) (acc : List Ev) : foldI o (l ++ [x]) acc = insS o x (foldI o l acc) := by simp [foldI]
theorem foldI_len (o : Bool) : ∀ (l acc : List Ev), (foldI o l acc).length ≤ acc.length + l.length
  | [], acc => by simp [foldI]
  | x :: l, acc => by
    have h1 := foldI_len o l (insS o x acc)
    have h2 := insS_len o x acc
    simp only [foldI, List.foldl_cons, List.length_cons] at *
    omega
theorem foldI_mem {o : Bool} {e : Ev} : ∀ {l acc : List Ev}, e ∈ foldI o l acc ↔ e ∈ acc ∨ e ∈ l
  | [], acc => by simp [foldI]
  | x :: l, acc => by
    have h1 := foldI_mem (o := o) (e := e) (l := l) (acc := insS o x acc)
    simp only [foldI, List.foldl_cons, List.mem_cons] at *
    rw [h1, insS_mem, or_assoc]
    constructor
    · rintro (h | h | h)
      · exact .inr (.inl h)
      · exact .inl h
      · exact .inr (.inr h)
    · rintro (h | h | h)
      · exact .inr (.inl h)
      · exact .inl h
      · exact .inr (.inr h)
theorem foldI_ss : ∀ {l acc : List Ev}, SS acc → SS (foldI true l acc)
  | [], _, h => h
  | _ :: l, _, h => foldI_ss (l := l) (insS_true_ss h)
theorem foldI_ws : ∀ {l acc : List Ev}, WS acc → WS (foldI false l acc)
  | [], _, h => h
  | _ :: l, _, h => foldI_ws (l := l) (insS_false_ws h)
theorem foldI_perm : ∀ {l acc : List Ev}, (foldI false l acc).Perm (acc ++ l)
  | [], acc => by simp [foldI]
  | x :: l, acc => by
    have h1 := foldI_perm (l := l) (acc := insS false x acc)
    refine h1.trans ?_
    refine ((insS_false_perm x acc).append_right l).trans ?_
    rw [List.cons_append]
    exact List.perm_middle.symm
theorem rsort_eq (l : List Ev) : foldI false l [] = msort l := ws_unique (foldI_perm.trans (by simpa using (msort_perm l).symm)) (foldI_ws List.Pairwise.nil) (msort_ws l)

/-- Compact. -/
def compS : List Ev → List Ev
  | [] => []
  | [x] => [x]
  | x :: y :: l => if x = y then compS (y :: l) else x :: compS (y :: l)
theorem compS_mem {e : Ev} : ∀ {l : List Ev}, e ∈ compS l ↔ e ∈ l
  | [] => by simp [compS]
  | [x] => by simp [compS]
  | x :: y :: l => by
    have ih := compS_mem (e := e) (l := y :: l)
    unfold compS
    split
    · rename_i h
      subst h
      rw [ih]
      simp
    · rw [List.mem_cons, ih, List.mem_cons (a := e) (b := x)]
theorem compS_len : ∀ (l : List Ev), (compS l).length ≤ l.length
  | [] => by simp [compS]
  | [x] => by simp [compS]
  | x :: y :: l => by
    have ih := compS_len (y :: l)
    unfold compS
    split
    · simp only [List.length_cons] at *; omega
    · simp only [List.length_cons] at *; omega
theorem compS_ss : ∀ {l : List Ev}, WS l → SS (compS l)
  | [], _ => by simp [compS]
  | [x], _ => by simp [compS]
  | x :: y :: l, h => by
    obtain ⟨h1, h2⟩ := List.pairwise_cons.1 h
    have ih := compS_ss (l := y :: l) h2
    unfold compS
    split
    · exact ih
    · rename_i hne
      refine List.pairwise_cons.2 ⟨fun e he => ?_, ih⟩
      rw [compS_mem] at he
      have h3 : evLt x y := by
        rw [evLt_evc]
        have := h1 y (List.mem_cons_self ..)
        by_cases h4 : evc x y = 0
        · exact absurd (evc_zero h4) hne
        · omega
      rcases List.mem_cons.1 he with rfl | he
      · exact h3
      · exact evLt_of_lt_of_le h3 (List.rel_of_pairwise_cons h2 he)
/-- Sorted, without repetitions. -/
def csort (l : List Ev) : List Ev := compS (msort l)
theorem csort_ss (l : List Ev) : SS (csort l) := compS_ss (msort_ws l)
theorem csort_mem {l : List Ev} {e : Ev} : e ∈ csort l ↔ e ∈ l := compS_mem.trans msort_mem
theorem csort_len (l : List Ev) : (csort l).length ≤ l.length := Nat.le_trans (compS_len _) (by rw [msort_len]; exact Nat.le_refl _)
theorem csort_eq {l m : List Ev} (h : ∀ e, e ∈ l ↔ e ∈ m) : csort l = csort m := ss_unique (csort_ss l) (csort_ss m) (fun e => by rw [csort_mem, csort_mem]; exact h e)
theorem foldI_csort {l m : List Ev} (h : ∀ e, e ∈ l ↔ e ∈ m) : foldI true l [] = csort m := ss_unique (foldI_ss List.Pairwise.nil) (csort_ss m) (fun e => by rw [foldI_mem, csort_mem, ← h e]; simp)
end Go.Proofs.Ytmfdflfjllpceaa

/- Layer 50: the reference's Sort, Same. -/
namespace Go.Proofs.Ytmfdflfjllpceaa
open Go.RowKit

theorem foldI_evI {o : Bool} {l acc : List Ev} (h : ∀ e ∈ l, EvI e) (ha : ∀ e ∈ acc, EvI e) : ∀ e ∈ foldI o l acc, EvI e := fun e he => by
  rcases foldI_mem.1 he with h1 | h1
  · exact ha e h1
  · exact h e h1
theorem insert_at (A : Option Addr) (n c : Nat) (l : List Ev) (t q c2 k v no : Int) (once : Bool) (w : World) (h : SA evE w A n c l) (hI : ∀ e ∈ l, EvI e) (hx : EvI ⟨t, q, c2, k, v, no⟩) (hm : n ≤ 34359738368) :
    Calls Try.prog 32 #[.slice A n c, .agg #[.int .i64 t, .int .i64 q, .int .i64 c2, .int .i64 k, .int .i64 v, .int .i64 no], .bool once] w (SRet w (insS once ⟨t, q, c2, k, v, no⟩ l)) := insert_any A n c l ⟨t, q, c2, k, v, no⟩ once w h hI hx hm
set_option maxHeartbeats 2000000 in
theorem rsort_any (A : Option Addr) (n c : Nat) (l : List Ev) (w : World) (h : SA evE w A n c l) (hI : ∀ e ∈ l, EvI e) (hm : n ≤ 34359738368) :
    Calls Try.prog 16 #[.slice A n c] w (SRet w (msort l)) := by
  have hlen := h.len
  have HL := Lib.hid h.n_eq
  have HS := Lib.hid h
  have HI := Lib.hid hI
  have hs0 := SA.lit (e := evE) (l := []) (n := 0) (cs := #[]) w rfl rfl (by omega)
  have hb0 := Bel.al (Below.refl _ w) (.cells #[] 40)
  replace hs0 : SA evE (w.alloc (.cells #[] 40)) (some ⟨w.heap.size, 0, none⟩) 0 0 [] := hs0
  clear h hI
  go_enter Try.func16, Try.ntmps16
  go_wp2
  go_loopw [3, 4] (fun o i wr => ∃ (k : Nat) (A' : Option Addr) (n' c' : Nat), k ≤ n ∧ i = .int .i64 k ∧ o = .slice A' n' c' ∧ Hid (SA evE wr A' n' c' (foldI false (l.take k) [])) ∧ Below w.heap.size w wr) (fun _ i _ => n - (intOf i).toNat)
  case atStart => exact ⟨0, some ⟨w.heap.size, 0, none⟩, 0, 0, Nat.zero_le _, rfl, rfl, Lib.hid hs0, hb0⟩
  case round =>
    clear hs0 hb0
    obtain ⟨k, A', n', c', hk, rfl, rfl, hO, hB⟩ := hrel
    by_cases hlt : k < n
    · have hkl : k < l.length := by rw [HL.out]; exact hlt
      obtain ⟨s, hs⟩ : ∃ s, l[k] = s := ⟨_, rfl⟩
      obtain ⟨b, o, rfl, hb, c0, c1, c2, c3, c4, c5⟩ := ev_at (HS.out.below hB) hkl hs
      have hT : foldI false (l.take (k + 1)) [] = insS false s (foldI false (l.take k) []) := by rw [take_succ_get hkl, hs, foldI_snoc]
      have hsI : EvI s := HI.out s (by rw [← hs]; exact List.getElem_mem hkl)
      have hn' : n' ≤ 34359738368 := by
        have h1 := foldI_len false (l.take k) []
        rw [hO.out.n_eq] at h1
        simp at h1
        have := HL.out
        omega
      have g3 : (0 : Int) ≤ (k : Int) := by omega
      have g4 : (k : Int) < (n : Int) := by omega
      have hCI : ∀ e ∈ foldI false (l.take k) [], EvI e := foldI_evI (fun e he => HI.out e (List.mem_of_mem_take he)) (fun e he => by cases he)
      obtain ⟨st, sk, sc, se, sv, sn⟩ := s
      dsimp only at c0 c1 c2 c3 c4 c5
      have CI := insert_at A' n' c' _ st sk sc se sv sn false wr hO.out hCI hsI hn'
      rw [← hT] at CI
      have HCI := Lib.hid CI
      clear hs hT hsI hn' hCI CI hO
      go_wp2_with (go_at_call 32; (with_reducible refine HCI.out.mono ?_); rintro e w2 ⟨A2, n2, c2, rfl, h2, b2⟩; have H2 := Lib.hid h2; clear h2)
      exact ⟨⟨k + 1, _, _, _, by omega, by simp, rfl, H2, Bel.on0 hB b2⟩, by simp only [intOf]; omega⟩
    · obtain rfl : k = n := by omega
      have HN := Lib.hid (show foldI false (l.take k) [] = msort l by rw [List.take_of_length_le (by rw [HL.out]; omega), rsort_eq])
      go_wp2
      go_ret
      exact ⟨A', n', c', rfl, by rw [← HN.out]; exact hO.out, hB⟩
set_option maxHeartbeats 4000000 in
set_option maxRecDepth 100000 in
theorem rsame_any (A B : Option Addr) (n c m d : Nat) (a b : List Ev) (w : World) (ha : SA evE w A n c a) (hb : SA evE w B m d b) :
    Calls Try.prog 14 #[.slice A n c, .slice B m d] w fun e w' => e = .returned (.bool (decide (a = b))) ∧ Below w.heap.size w w' := by
  have hla := ha.len
  have hlb := hb.len
  have HA := Lib.hid ha.n_eq
  have HB := Lib.hid hb.n_eq
  by_cases hl : n = m
  · subst hl
    have e0 : ((n : Int) != (n : Int)) = false := by simp
    go_enter Try.func14, Try.ntmps14
    go_wp2
    go_loopw [5] (fun i wr => ∃ k : Nat, k ≤ n ∧ i = .int .i64 k ∧ a.take k = b.take k ∧ Below w.heap.size w wr) (fun i _ => n - (intOf i).toNat)
    case atStart => exact ⟨0, Nat.zero_le _, rfl, by simp, Below.refl _ _⟩
    case round =>
      obtain ⟨k, hk, rfl, he, hbel⟩ := hrel
      by_cases hlt : k < n
      · have ka : k < a.length := by rw [HA.out]; exact hlt
        have kb : k < b.length := by rw [HB.out]; exact hlt
        obtain ⟨x, hx⟩ : ∃ x, a[k] = x := ⟨_, rfl⟩
        obtain ⟨y, hy⟩ : ∃ y, b[k] = y := ⟨_, rfl⟩
        obtain ⟨ba, oa, rfl, hba, c0, c1, c2, c3, c4, c5⟩ := ev_at (ha.below hbel) ka hx
        obtain ⟨bb, ob, rfl, hbb, d0, d1, d2, d3, d4, d5⟩ := ev_at (hb.below hbel) kb hy
        have hT : a.take (k + 1) = a.take k ++ [x] := by rw [take_succ_get ka, hx]
        have hU : b.take (k + 1) = b.take k ++ [y] := by rw [take_succ_get kb, hy]
        have hne : x ≠ y → decide (a = b) = false := by
          intro h
          simp only [decide_eq_false_iff_not]
          rintro rfl
          exact h (hx.symm.trans hy)
        clear hx hy
        obtain ⟨x0, x1, x2, x3, x4, x5⟩ := x
        obtain ⟨y0, y1, y2, y3, y4, y5⟩ := y
        dsimp only at c0 c1 c2 c3 c4 c5 d0 d1 d2 d3 d4 d5
        by_cases hab : x0 = y0 ∧ x1 = y1 ∧ x2 = y2 ∧ x3 = y3 ∧ x4 = y4 ∧ x5 = y5
        · obtain ⟨rfl, rfl, rfl, rfl, rfl, rfl⟩ := hab
          have HN := Lib.hid (show a.take (k + 1) = b.take (k + 1) by rw [hT, hU, he])
          clear hT hU hne he
          go_wp2
          refine wp_region_still_lit (by kernel_rfl) (by kernel_rfl) ?_
          repeat still_step
          refine wpStill_nil ?_
          go_wp2
          exact ⟨⟨k + 1, by omega, by simp, HN.out, hbel.drew⟩, by simp only [intOf]; omega⟩
        · have HN := Lib.hid (hne (fun h => hab (by injection h with h1 h2 h3 h4 h5 h6; exact ⟨h1, h2, h3, h4, h5, h6⟩)))
          have hc : ¬ x0 = y0 ∨ (x0 = y0 ∧ ¬ x1 = y1) ∨ (x0 = y0 ∧ x1 = y1 ∧ ¬ x2 = y2) ∨ (x0 = y0 ∧ x1 = y1 ∧ x2 = y2 ∧ ¬ x3 = y3) ∨ (x0 = y0 ∧ x1 = y1 ∧ x2 = y2 ∧ x3 = y3 ∧ ¬ x4 = y4) ∨ (x0 = y0 ∧ x1 = y1 ∧ x2 = y2 ∧ x3 = y3 ∧ x4 = y4 ∧ ¬ x5 = y5) := by omega
          clear hT hU hne he hab
          rcases hc with h | ⟨rfl, h⟩ | ⟨rfl, rfl, h⟩ | ⟨rfl, rfl, rfl, h⟩ | ⟨rfl, rfl, rfl, rfl, h⟩ | ⟨rfl, rfl, rfl, rfl, rfl, h⟩
          all_goals
            go_wp2
            refine wp_region_still_lit (by kernel_rfl) (by kernel_rfl) ?_
            repeat still_step
            refine wpStill_nil ?_
            go_wp2
            go_ret
            exact ⟨ret_bool HN.out.symm, hbel.drew⟩
      · obtain rfl : k = n := by omega
        have HN := Lib.hid (show decide (a = b) = true by
          rw [List.take_of_length_le (by rw [HA.out]; omega), List.take_of_length_le (by rw [HB.out]; omega)] at he
          simpa using he)
        clear he
        go_wp2
        go_ret
        exact ⟨ret_bool HN.out.symm, hbel⟩
  · have e0 : ((n : Int) != (m : Int)) = true := by simp; omega
    have H := Lib.hid (show decide (a = b) = false by
      simp only [decide_eq_false_iff_not]
      rintro rfl
      exact hl (HA.out.symm.trans HB.out))
    go_enter Try.func14, Try.ntmps14
    go_wp2
    go_ret
    exact ⟨ret_bool H.out.symm, Below.refl _ _⟩
theorem rsame_eq {A B : Option Addr} {n c m d : Nat} {a b : List Ev} {w : World} (ha : SA evE w A n c a) (hb : SA evE w B m d b) (e : a = b) :
    Calls Try.prog 14 #[.slice A n c, .slice B m d] w fun e w' => e = .returned (.bool true) ∧ Below w.heap.size w w' := by
  have := rsame_any A B n c m d a b w ha hb; rw [decide_eq_true e] at this; exact this
end Go.Proofs.Ytmfdflfjllpceaa
