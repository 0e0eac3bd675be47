/- Layer 50, plain: the notes of a valid list, on both sides; the events of a part, on both sides. No program in sight. -/
import Derived.Test.YtmfdflfjllpceaaZMvU
import Derived.Test.YtmfdflfjllpceaaZTmL
/- Layer 50, plain: the notes of a valid list, on both sides; the events of a part, on both sides. No program in sight. -/
namespace Go.Proofs.Ytmfdflfjllpceaa
open Go.RowKit

/-! The notes. -/
theorem endF_cons (y x : Ev) (r : List Ev) (i : Nat) : endF y (x :: r) i = if isEnd y x = true then (i : Int) else endF y r (i + 1) := rfl
theorem endF_yes {y x : Ev} (h : isEnd y x = true) (r : List Ev) (i : Nat) : endF y (x :: r) i = (i : Int) := by rw [endF_cons, if_pos h]
theorem endF_no {y x : Ev} (h : ¬ isEnd y x = true) (r : List Ev) (i : Nat) : endF y (x :: r) i = endF y r (i + 1) := by rw [endF_cons, if_neg h]
theorem endF_cases (y : Ev) : ∀ (r : List Ev) (i : Nat), endF y r i = -1 ∨ ((i : Int) ≤ endF y r i ∧ endF y r i < i + r.length)
  | [], _ => .inl rfl
  | x :: r, i => by
    unfold endF
    split
    · exact .inr ⟨Int.le_refl _, by rw [List.length_cons]; omega⟩
    · rcases endF_cases y r (i + 1) with h | ⟨h1, h2⟩
      · exact .inl h
      · exact .inr ⟨by omega, by rw [List.length_cons]; omega⟩
theorem endF_snoc (y x : Ev) : ∀ (r : List Ev) (i : Nat), endF y (r ++ [x]) i = if endF y r i = -1 then (if isEnd y x = true then ((i + r.length : Nat) : Int) else -1) else endF y r i
  | [], i => by
    simp only [List.nil_append, endF, List.length_nil, Nat.add_zero]
    rfl
  | z :: r, i => by
    have ih := endF_snoc y x r (i + 1)
    rw [List.cons_append]
    by_cases hz : isEnd y z = true
    · rw [endF_yes hz, endF_yes hz, if_neg (by omega)]
    · rw [endF_no hz, endF_no hz, ih, List.length_cons, show i + 1 + r.length = i + (r.length + 1) by omega]
/-- Does x end the note that begins at i? -/
def endsAt (l : List Ev) (i : Int) (x : Ev) : Bool := match l[i.toNat]? with
  | some y => isEnd y x
  | none => false
def updN (l : List Ev) (x : Ev) (q : Int × Int) : Int × Int := if q.2 = -1 ∧ endsAt l q.1 x = true then (q.1, (l.length : Int)) else q
theorem rN_left (l : List Ev) (x : Ev) : ∀ k, k ≤ l.length → rN (l ++ [x]) k = (rN l k).map (updN l x)
  | 0, _ => rfl
  | k + 1, hk => by
    have ih := rN_left l x k (by omega)
    have hkl : k < l.length := by omega
    have e1 : l[k]? = some l[k] := List.getElem?_eq_getElem hkl
    rw [rN, rN, ih, List.getElem?_append_left hkl, e1]
    dsimp only
    rw [List.map_append]
    congr 1
    split
    · rename_i h3
      rw [List.map_singleton]
      congr 1
      unfold updN endsAt
      dsimp only
      rw [Int.toNat_natCast, e1]
      dsimp only
      unfold endS
      rw [List.getElem?_append_left hkl, e1]
      dsimp only
      rw [List.drop_append_of_le_length (by omega), endF_snoc]
      by_cases h5 : endF l[k] (l.drop (k + 1)) (k + 1) = -1
      · rw [if_pos h5]
        by_cases h6 : isEnd l[k] x = true
        · rw [if_pos h6, if_pos ⟨h5, h6⟩, List.length_drop, show k + 1 + (l.length - (k + 1)) = l.length by omega]
        · rw [if_neg h6, if_neg (fun h => h6 h.2), h5]
      · rw [if_neg h5, if_neg (fun h => h5 h.1)]
    · rfl
theorem rN_snoc (l : List Ev) (x : Ev) : rN (l ++ [x]) (l ++ [x]).length = (rN l l.length).map (updN l x) ++ if x.kind = 3 then [((l.length : Int), -1)] else [] := by
  have e1 : (l ++ [x])[l.length]? = some x := by simp
  rw [List.length_append, List.length_singleton, rN, rN_left l x _ (Nat.le_refl _), e1]
  congr 1
  dsimp only
  congr 2
  unfold endS
  rw [e1]
  dsimp only
  rw [List.drop_of_length_le (by simp)]
  rfl
theorem eAt_left (l : List Ev) (x : Ev) : ∀ k, k ≤ l.length → eAt (l ++ [x]) k = eAt l k
  | 0, _ => rfl
  | k + 1, hk => by
    rw [eAt, eAt, eAt_left l x k (by omega), List.getElem?_append_left (by omega)]
theorem eAt_snoc (l : List Ev) (x : Ev) : eAt (l ++ [x]) (l ++ [x]).length = eStep (eAt l l.length) l.length x := by
  have e1 : (l ++ [x])[l.length]? = some x := by simp
  rw [List.length_append, List.length_singleton, eAt_succ e1, eAt_left l x _ (Nat.le_refl _)]
theorem rN_mem {l : List Ev} {q : Int × Int} : ∀ {n : Nat}, q ∈ rN l n ↔ ∃ (k : Nat) (x : Ev), k < n ∧ l[k]? = some x ∧ x.kind = 3 ∧ q = ((k : Int), endS l k)
  | 0 => by simp [rN]
  | n + 1 => by
    rw [rN, List.mem_append, rN_mem]
    constructor
    · rintro (⟨k, x, h1, h2⟩ | h)
      · exact ⟨k, x, by omega, h2⟩
      · cases hx : l[n]? with
        | none => rw [hx] at h; cases h
        | some x =>
          rw [hx] at h
          dsimp only at h
          split at h
          · rename_i h3
            rw [List.mem_singleton] at h
            exact ⟨n, x, by omega, hx, h3, h⟩
          · cases h
    · rintro ⟨k, x, h1, h2, h3, h4⟩
      by_cases hk : k < n
      · exact .inl ⟨k, x, hk, h2, h3, h4⟩
      · obtain rfl : k = n := by omega
        refine .inr ?_
        rw [h2]
        dsimp only
        rw [if_pos h3]
        exact List.mem_singleton.2 h4
/-- What the map of the sounding notes says of the notes. -/
structure NInv (l : List Ev) (s : ESt) : Prop where
  notes : s.notes = rN l l.length
  opn : ∀ n q y, s.notes[n]? = some q → q.2 = -1 → l[q.1.toNat]? = some y → s.snd (voiceOf y) = some n
  snd : ∀ v n, s.snd v = some n → ∃ q y, s.notes[n]? = some q ∧ q.2 = -1 ∧ l[q.1.toNat]? = some y ∧ voiceOf y = v
theorem isEnd_voice {y x : Ev} (hk : x.kind = 1 ∨ x.kind = 3) : isEnd y x = true ↔ voiceOf y = voiceOf x := by
  unfold isEnd voiceOf
  rw [decide_eq_true_iff, Prod.mk.injEq]
  constructor
  · rintro ⟨_, h1, h2⟩; exact ⟨h1.symm, h2.symm⟩
  · rintro ⟨h1, h2⟩; exact ⟨hk, h1.symm, h2.symm⟩
theorem NInv.bound {l : List Ev} {s : ESt} (h : NInv l s) {n : Nat} {q : Int × Int} (hq : s.notes[n]? = some q) : ∃ (k : Nat) (y : Ev), q.1 = (k : Int) ∧ l[k]? = some y := by
  rw [h.notes] at hq
  obtain ⟨k, x, _, h2, _, rfl⟩ := rN_mem.1 (List.mem_of_getElem? hq)
  exact ⟨k, x, rfl, h2⟩
/-- The state behind an event that ends notes: all open notes of its voice are closed. -/
theorem NInv.end_ {l : List Ev} {s : ESt} (h : NInv l s) (x : Ev) (hk : x.kind = 1 ∨ x.kind = 3) :
    (eEnd s l.length x).notes = (rN l l.length).map (updN l x) ∧
    (∀ n q y, (eEnd s l.length x).notes[n]? = some q → q.2 = -1 → l[q.1.toNat]? = some y → (eEnd s l.length x).snd (voiceOf y) = some n ∧ voiceOf y ≠ voiceOf x) ∧
    (∀ v n, (eEnd s l.length x).snd v = some n → v ≠ voiceOf x ∧ ∃ q y, (eEnd s l.length x).notes[n]? = some q ∧ q.2 = -1 ∧ l[q.1.toNat]? = some y ∧ voiceOf y = v) := by
  have hupd : ∀ n q, s.notes[n]? = some q → updN l x q = if s.snd (voiceOf x) = some n then (q.1, (l.length : Int)) else q := by
    intro n q hq
    obtain ⟨k, y, e1, hy⟩ := h.bound hq
    have hea : endsAt l q.1 x = true ↔ voiceOf y = voiceOf x := by
      unfold endsAt
      rw [e1, Int.toNat_natCast, hy]
      exact isEnd_voice hk
    unfold updN
    by_cases hc : s.snd (voiceOf x) = some n
    · rw [if_pos hc]
      obtain ⟨q2, y2, g1, g2, g3, g4⟩ := h.snd _ _ hc
      rw [hq] at g1
      injection g1 with g1
      subst g1
      rw [e1, Int.toNat_natCast, hy] at g3
      injection g3 with g3
      subst g3
      rw [if_pos ⟨g2, hea.2 g4⟩]
    · rw [if_neg hc, if_neg]
      rintro ⟨g1, g2⟩
      have := h.opn n q y hq g1 (by rw [e1, Int.toNat_natCast]; exact hy)
      rw [hea.1 g2] at this
      exact hc this
  cases hs : s.snd (voiceOf x) with
  | none =>
    have e0 : eEnd s l.length x = s := by unfold eEnd; rw [hs]
    rw [e0]
    refine ⟨?_, ?_, ?_⟩
    · rw [← h.notes]
      refine (List.ext_getElem? fun n => ?_).symm
      rw [List.getElem?_map]
      cases hq : s.notes[n]? with
      | none => rfl
      | some q => rw [Option.map_some, hupd n q hq, hs, if_neg (by simp)]
    · intro n q y hq h1 hy
      have := h.opn n q y hq h1 hy
      refine ⟨this, fun e => ?_⟩
      rw [e, hs] at this
      cases this
    · intro v n hv
      refine ⟨fun e => ?_, h.snd v n hv⟩
      subst e
      rw [hs] at hv
      cases hv
  | some m =>
    obtain ⟨q2, y2, g1, g2, g3, g4⟩ := h.snd _ _ hs
    have hml := (List.getElem?_eq_some_iff.1 g1).1
    have e0 : eEnd s l.length x = ⟨s.notes.set m (q2.1, (l.length : Int)), put s.snd (voiceOf x) none⟩ := by
      unfold eEnd
      rw [hs]
      dsimp only
      rw [List.getD_eq_getElem?_getD, g1]
      rfl
    rw [e0]
    refine ⟨?_, ?_, ?_⟩
    · dsimp only
      rw [← h.notes]
      refine (List.ext_getElem? fun n => ?_).symm
      rw [List.getElem?_map, List.getElem?_set]
      by_cases hmn : m = n
      · subst hmn
        rw [if_pos rfl, g1, if_pos hml, Option.map_some, hupd m q2 g1, hs, if_pos rfl]
      · rw [if_neg hmn]
        cases hq : s.notes[n]? with
        | none => rfl
        | some q => rw [Option.map_some, hupd n q hq, hs, if_neg (by simpa using hmn)]
    · intro n q y hq h1 hy
      dsimp only at hq ⊢
      rw [List.getElem?_set] at hq
      by_cases hmn : m = n
      · subst hmn
        rw [if_pos rfl, if_pos hml] at hq
        injection hq with hq
        subst hq
        dsimp only at h1
        omega
      · rw [if_neg hmn] at hq
        have h5 := h.opn n q y hq h1 hy
        have h6 : voiceOf y ≠ voiceOf x := by
          intro e
          rw [e, hs] at h5
          injection h5 with h5
          exact hmn h5
        refine ⟨?_, h6⟩
        unfold put
        rw [if_neg h6]
        exact h5
    · intro v n hv
      dsimp only at hv ⊢
      unfold put at hv
      split at hv
      · cases hv
      · rename_i hvx
        refine ⟨hvx, ?_⟩
        obtain ⟨q, y, k1, k2, k3, k4⟩ := h.snd v n hv
        refine ⟨q, y, ?_, k2, k3, k4⟩
        rw [List.getElem?_set, if_neg, k1]
        rintro rfl
        rw [g1] at k1
        injection k1 with k1
        subst k1
        rw [g3] at k3
        injection k3 with k3
        subst k3
        exact hvx (k4.symm.trans g4)
theorem isEnd_two {y x : Ev} (h : x.kind = 2) : isEnd y x = false := by
  unfold isEnd
  rw [decide_eq_false_iff_not]
  rintro ⟨h1, _⟩
  omega
theorem updN_two {l : List Ev} {x : Ev} (h : x.kind = 2) (q : Int × Int) : updN l x q = q := by
  unfold updN endsAt
  rw [if_neg]
  rintro ⟨_, h2⟩
  split at h2
  · rw [isEnd_two h] at h2; cases h2
  · cases h2
theorem get_snoc_left {l : List Ev} {x y : Ev} {k : Nat} (h : l[k]? = some y) : (l ++ [x])[k]? = some y := by
  rw [List.getElem?_append_left (List.getElem?_eq_some_iff.1 h).1]; exact h
theorem ninv : ∀ (r : List Ev), (∀ e ∈ r, 1 ≤ e.kind ∧ e.kind ≤ 3) → NInv r.reverse (eAt r.reverse r.reverse.length)
  | [], _ => ⟨rfl, fun _ _ _ hq => (by cases hq), fun _ _ hv => (by cases hv)⟩
  | x :: r, hK => by
    have ih := ninv r fun e he => hK e (List.mem_cons_of_mem _ he)
    obtain ⟨hk1, hk2⟩ := hK x (List.mem_cons_self ..)
    rw [List.reverse_cons]
    generalize r.reverse = l at ih ⊢
    rw [eAt_snoc]
    obtain ⟨s, hs⟩ : ∃ s, eAt l l.length = s := ⟨_, rfl⟩
    rw [hs] at ih ⊢
    by_cases h2 : x.kind = 2
    · have e0 : eStep s l.length x = s := by unfold eStep; rw [if_pos h2]
      rw [e0]
      refine ⟨?_, ?_, ?_⟩
      · rw [rN_snoc, if_neg (by omega), List.append_nil, ih.notes]
        have : (rN l l.length).map (updN l x) = (rN l l.length).map id := List.map_congr_left fun q _ => updN_two h2 q
        rw [this, List.map_id]
      · intro n q y hq h1 hy
        obtain ⟨k, z, e1, hz⟩ := ih.bound hq
        rw [e1, Int.toNat_natCast] at hy
        rw [get_snoc_left hz] at hy
        injection hy with hy
        subst hy
        exact ih.opn n q z hq h1 (by rw [e1, Int.toNat_natCast]; exact hz)
      · intro v n hv
        obtain ⟨q, y, k1, k2, k3, k4⟩ := ih.snd v n hv
        exact ⟨q, y, k1, k2, get_snoc_left k3, k4⟩
    · have hk : x.kind = 1 ∨ x.kind = 3 := by omega
      obtain ⟨n1, n2, n3⟩ := ih.end_ x hk
      have hb : ∀ (n : Nat) (q : Int × Int), (eEnd s l.length x).notes[n]? = some q → ∃ (k : Nat) (y : Ev), q.1 = (k : Int) ∧ l[k]? = some y := by
        intro n q hq
        rw [n1] at hq
        obtain ⟨q0, hq0, rfl⟩ := List.mem_map.1 (List.mem_of_getElem? hq)
        obtain ⟨k, y, _, h3, _, rfl⟩ := rN_mem.1 hq0
        refine ⟨k, y, ?_, h3⟩
        unfold updN
        split <;> rfl
      by_cases h3 : x.kind = 3
      · have e0 : eStep s l.length x = eOn (eEnd s l.length x) l.length x := by unfold eStep; rw [if_neg h2, if_pos h3]
        rw [e0]
        obtain ⟨t, ht⟩ : ∃ t, eEnd s l.length x = t := ⟨_, rfl⟩
        rw [ht] at n1 n2 n3 hb ⊢
        unfold eOn
        refine ⟨?_, ?_, ?_⟩
        · dsimp only
          rw [rN_snoc, if_pos h3, n1]
        · intro n q y hq h1 hy
          dsimp only at hq ⊢
          by_cases hn : n < t.notes.length
          · rw [List.getElem?_append_left hn] at hq
            obtain ⟨k, z, e1, hz⟩ := hb n q hq
            rw [e1, Int.toNat_natCast, get_snoc_left hz] at hy
            injection hy with hy
            subst hy
            obtain ⟨h5, h6⟩ := n2 n q z hq h1 (by rw [e1, Int.toNat_natCast]; exact hz)
            unfold put
            rw [if_neg h6]
            exact h5
          · rw [List.getElem?_append_right (by omega)] at hq
            have hn0 : n - t.notes.length = 0 := by
              have := (List.getElem?_eq_some_iff.1 hq).1
              simp at this
              omega
            rw [hn0, List.getElem?_cons_zero] at hq
            injection hq with hq
            subst hq
            dsimp only at hy
            rw [Int.toNat_natCast, List.getElem?_append_right (Nat.le_refl _), Nat.sub_self, List.getElem?_cons_zero] at hy
            injection hy with hy
            subst hy
            unfold put
            rw [if_pos rfl]
            congr 1
            omega
        · intro v n hv
          dsimp only at hv ⊢
          unfold put at hv
          split at hv
          · rename_i hvx
            injection hv with hv
            subst hv
            refine ⟨((l.length : Int), -1), x, ?_, rfl, ?_, hvx.symm⟩
            · rw [List.getElem?_append_right (Nat.le_refl _), Nat.sub_self]; rfl
            · dsimp only
              rw [Int.toNat_natCast, List.getElem?_append_right (Nat.le_refl _), Nat.sub_self]; rfl
          · obtain ⟨_, q, y, k1, k2, k3, k4⟩ := n3 v n hv
            exact ⟨q, y, by rw [List.getElem?_append_left (List.getElem?_eq_some_iff.1 k1).1]; exact k1, k2, get_snoc_left k3, k4⟩
      · have e0 : eStep s l.length x = eEnd s l.length x := by unfold eStep; rw [if_neg h2, if_neg h3]
        rw [e0]
        refine ⟨?_, ?_, ?_⟩
        · rw [rN_snoc, if_neg h3, List.append_nil, n1]
        · intro n q y hq h1 hy
          obtain ⟨k, z, e1, hz⟩ := hb n q hq
          rw [e1, Int.toNat_natCast, get_snoc_left hz] at hy
          injection hy with hy
          subst hy
          exact (n2 n q z hq h1 (by rw [e1, Int.toNat_natCast]; exact hz)).1
        · intro v n hv
          obtain ⟨_, q, y, k1, k2, k3, k4⟩ := n3 v n hv
          exact ⟨q, y, k1, k2, get_snoc_left k3, k4⟩
theorem notesM_rN {l : List Ev} (hK : ∀ e ∈ l, 1 ≤ e.kind ∧ e.kind ≤ 3) : notesM l = rN l l.length := by
  have := (ninv l.reverse fun e he => hK e (List.mem_reverse.1 he)).notes
  rw [List.reverse_reverse] at this
  exact this

/-! Valid lists. -/
theorem checkM_ok {l : List Ev} (h : checkM l = 0) : l.length ≤ 4096 ∧ (∀ e ∈ l, EvOk e) ∧ SS l := by
  unfold checkM at h
  split at h
  · omega
  · split at h
    · rename_i h1 h2
      refine ⟨by omega, fun e he => ?_, ?_⟩
      · obtain ⟨k, hk⟩ := List.mem_iff_getElem?.1 he
        exact (h2 k e (List.getElem?_eq_some_iff.1 hk).1 hk).1
      · rw [SS, List.pairwise_iff_getElem]
        intro i j hi hj hij
        have : ∀ d, ∀ (hd : i + d + 1 < l.length), evLt l[i] l[i + d + 1] := by
          intro d
          induction d with
          | zero => intro hd; exact (h2 (i + 0 + 1) _ hd (List.getElem?_eq_getElem hd)).2 i _ rfl (List.getElem?_eq_getElem hi)
          | succ d ih =>
            intro hd
            have h5 := ih (by omega)
            have h6 := (h2 (i + (d + 1) + 1) _ hd (List.getElem?_eq_getElem hd)).2 (i + d + 1) _ rfl (List.getElem?_eq_getElem (by omega))
            exact evLt_trans h5 h6
        have h7 := this (j - i - 1) (by omega)
        have e : i + (j - i - 1) + 1 = j := by omega
        simpa only [e] using h7
    · omega
theorem checkM_of {l : List Ev} (h1 : l.length ≤ 4096) (h2 : ∀ e ∈ l, EvOk e) (h3 : SS l) : checkM l = 0 :=
  checkM_yes (by omega) fun k e hk he => ⟨h2 e (List.mem_of_getElem? he), fun j q hj hq => by
    obtain ⟨a1, a2⟩ := List.getElem?_eq_some_iff.1 hq
    obtain ⟨b1, b2⟩ := List.getElem?_eq_some_iff.1 he
    have := List.pairwise_iff_getElem.1 h3 j k a1 b1 (by omega)
    rwa [a2, b2] at this⟩
theorem EvOk.kinds {e : Ev} (h : EvOk e) : 1 ≤ e.kind ∧ e.kind ≤ 3 := ⟨h.1, h.2.1⟩
theorem EvOk.evI {e : Ev} (h : EvOk e) : EvI e := h.key64
theorem evLt_tick {a b : Ev} (h : evLt a b) : a.tick ≤ b.tick := by
  unfold evLt ekey at h
  unfold lcmp at h
  split at h
  · omega
  · unfold ccmp at h
    split at h
    · omega
    · split at h <;> omega
theorem notes_eq {l : List Ev} (h : checkM l = 0) : notesM l = rN l l.length := notesM_rN fun e he => ((checkM_ok h).2.1 e he).kinds

/-! The events of a part. -/
theorem cAt_eq {l : List Ev} {fr : Int} (hS : SS l) (v : Vc) : ∀ k, k ≤ l.length → cAt l fr k v = if (l.take k).any (isSet v.1 v.2 fr) = true then none else (ctlS l v.1 v.2 fr k).map (atTick · fr)
  | 0, _ => rfl
  | k + 1, hk => by
    have ih := cAt_eq (fr := fr) hS v k (by omega)
    have hkl : k < l.length := by omega
    have hx : l[k]? = some l[k] := List.getElem?_eq_getElem hkl
    have hbe : ∀ z ∈ l.take k, z.tick ≤ l[k].tick := by
      intro z hz
      obtain ⟨j, hj, rfl⟩ := List.mem_take_iff_getElem.1 hz
      exact evLt_tick (List.pairwise_iff_getElem.1 hS j k (by omega) hkl (by omega))
    rw [cAt_succ hx, ctlS_succ hx, take_succ_get hkl, List.any_append]
    generalize l[k] = x at hbe
    obtain ⟨c, ke⟩ := v
    dsimp only at ih ⊢
    have hany1 : [x].any (isSet c ke fr) = isSet c ke fr x := by simp
    rw [hany1]
    unfold cStep
    by_cases h1 : x.kind = 2 ∧ x.tick ≤ fr
    · rw [if_pos h1]
      by_cases h2 : x.tick < fr
      · rw [if_pos h2]
        unfold put
        by_cases h3 : (c, ke) = voiceOf x
        · rw [if_pos h3]
          unfold voiceOf at h3
          injection h3 with h3 h4
          have e1 : isSet c ke fr x = false := by unfold isSet; rw [decide_eq_false_iff_not]; omega
          have e2 : isCtl c ke fr x = true := by unfold isCtl; rw [decide_eq_true_iff]; exact ⟨h1.1, h3.symm, h4.symm, h2⟩
          have e3 : (l.take k).any (isSet c ke fr) = false := by
            rw [List.any_eq_false]
            intro z hz
            unfold isSet
            rw [decide_eq_true_iff]
            have := hbe z hz
            omega
          rw [e1, e2, e3]
          rfl
        · rw [if_neg h3, ih]
          unfold voiceOf at h3
          have h4 : ¬ (x.ch = c ∧ x.key = ke) := fun ⟨h5, h6⟩ => h3 (by rw [h5, h6])
          have e1 : isSet c ke fr x = false := by unfold isSet; rw [decide_eq_false_iff_not]; omega
          have e2 : isCtl c ke fr x = false := by unfold isCtl; rw [decide_eq_false_iff_not]; omega
          rw [e1, e2, Bool.or_false]
          rfl
      · rw [if_neg h2]
        unfold put
        by_cases h3 : (c, ke) = voiceOf x
        · rw [if_pos h3]
          unfold voiceOf at h3
          injection h3 with h3 h4
          have e1 : isSet c ke fr x = true := by unfold isSet; rw [decide_eq_true_iff]; exact ⟨h1.1, h3.symm, h4.symm, by omega⟩
          rw [e1, Bool.or_true, if_pos rfl]
        · rw [if_neg h3, ih]
          unfold voiceOf at h3
          have h4 : ¬ (x.ch = c ∧ x.key = ke) := fun ⟨h5, h6⟩ => h3 (by rw [h5, h6])
          have e1 : isSet c ke fr x = false := by unfold isSet; rw [decide_eq_false_iff_not]; omega
          have e2 : isCtl c ke fr x = false := by unfold isCtl; rw [decide_eq_false_iff_not]; omega
          rw [e1, e2, Bool.or_false]
          rfl
    · rw [if_neg h1, ih]
      have e1 : isSet c ke fr x = false := by unfold isSet; rw [decide_eq_false_iff_not]; omega
      have e2 : isCtl c ke fr x = false := by unfold isCtl; rw [decide_eq_false_iff_not]; omega
      rw [e1, e2, Bool.or_false]
      rfl
theorem ctlS_some {l : List Ev} {ch key tick : Int} {x : Ev} (hc : isCtl ch key tick x = true) : ∀ {n j : Nat}, j < n → l[j]? = some x → ∃ y, ctlS l ch key tick n = some y
  | 0, j, h, _ => by omega
  | n + 1, j, h, hx => by
    cases hy : l[n]? with
    | none =>
      rw [ctlS, hy]
      by_cases hj : j = n
      · subst hj; rw [hx] at hy; cases hy
      · exact ctlS_some hc (by omega) hx
    | some y =>
      rw [ctlS_succ hy]
      split
      · exact ⟨y, rfl⟩
      · rename_i hn
        by_cases hj : j = n
        · subst hj
          rw [hx] at hy
          injection hy with hy
          subst hy
          exact absurd hc hn
        · exact ctlS_some hc (by omega) hx
theorem cAt_full {l : List Ev} {fr : Int} (hS : SS l) (v : Vc) : cAt l fr l.length v = if setS l v.1 v.2 fr = true then none else (ctlS l v.1 v.2 fr l.length).map (atTick · fr) := by
  rw [cAt_eq hS v _ (Nat.le_refl _), List.take_length]; rfl
theorem rsL_mem {l : List Ev} {fr hi : Int} {e : Ev} : ∀ {n : Nat}, e ∈ rsL l fr hi n ↔ ∃ (k : Nat) (x : Ev), k < n ∧ l[k]? = some x ∧ e ∈ rsIns l fr hi k x
  | 0 => by simp [rsL]
  | n + 1 => by
    rw [rsL, List.mem_append, rsL_mem]
    constructor
    · rintro (⟨k, x, h1, h2⟩ | h)
      · exact ⟨k, x, by omega, h2⟩
      · cases hx : l[n]? with
        | none => rw [hx] at h; cases h
        | some x => rw [hx] at h; exact ⟨n, x, by omega, hx, h⟩
    · rintro ⟨k, x, h1, h2, h3⟩
      by_cases hk : k < n
      · exact .inl ⟨k, x, hk, h2, h3⟩
      · obtain rfl : k = n := by omega
        refine .inr ?_
        rw [h2]
        exact h3
/-- Of what a part is made: the reference's words. -/
theorem partL_iff {l : List Ev} {fr hi : Int} (hc : checkM l = 0) {e : Ev} : e ∈ partL l fr hi ↔
    (e ∈ l ∧ fr ≤ e.tick ∧ e.tick < hi) ∨ (∃ v : Vc, setS l v.1 v.2 fr = false ∧ ∃ x, ctlS l v.1 v.2 fr l.length = some x ∧ e = atTick x fr) ∨
    (∃ (k : Nat) (x : Ev), l[k]? = some x ∧ x.kind = 3 ∧ fr ≤ x.tick ∧ x.tick < hi ∧ endsB l hi (endS l k) = false ∧ e = offEv hi x) := by
  obtain ⟨_, _, hS⟩ := checkM_ok hc
  rw [partL_mem]
  refine or_congr ?_ (or_congr ?_ ?_)
  · unfold inE
    rw [List.take_length, List.mem_filter, decide_eq_true_iff]
  · refine exists_congr fun v => ?_
    rw [cAt_full hS v]
    cases hs : setS l v.1 v.2 fr with
    | true => rw [if_pos rfl]; exact ⟨fun h => (by cases h), fun h => (by cases h.1)⟩
    | false =>
      rw [if_neg (by simp), Option.map_eq_some_iff]
      exact ⟨fun ⟨x, h1, h2⟩ => ⟨rfl, x, h1, h2.symm⟩, fun ⟨_, x, h1, h2⟩ => ⟨x, h1, h2.symm⟩⟩
  · unfold offE
    rw [List.take_length, List.mem_filterMap, notes_eq hc]
    constructor
    · rintro ⟨q, h1, h2⟩
      obtain ⟨k, x, _, h3, h4, rfl⟩ := rN_mem.1 h1
      unfold offOf at h2
      dsimp only at h2
      rw [Int.toNat_natCast, h3] at h2
      dsimp only at h2
      split at h2
      · rename_i h5
        injection h2 with h2
        exact ⟨k, x, h3, h4, h5.1, h5.2.1, h5.2.2, h2.symm⟩
      · cases h2
    · rintro ⟨k, x, h3, h4, h5, h6, h7, rfl⟩
      refine ⟨((k : Int), endS l k), rN_mem.2 ⟨k, x, (List.getElem?_eq_some_iff.1 h3).1, h3, h4, rfl⟩, ?_⟩
      unfold offOf
      dsimp only
      rw [Int.toNat_natCast, h3]
      dsimp only
      rw [if_pos ⟨h5, h6, h7⟩]
      rfl
theorem rsL_iff {l : List Ev} {fr hi : Int} (hc : checkM l = 0) {e : Ev} : e ∈ rsL l fr hi l.length ↔ e ∈ partL l fr hi := by
  rw [partL_iff hc, rsL_mem]
  constructor
  · rintro ⟨k, x, hk, hx, he⟩
    unfold rsIns at he
    rcases List.mem_append.1 he with h | h
    · split at h
      · rename_i h1
        rw [List.mem_singleton] at h
        have hct : isCtl x.ch x.key fr x = true := by unfold isCtl; rw [decide_eq_true_iff]; exact ⟨h1.1, rfl, rfl, h1.2.1⟩
        obtain ⟨y, hy⟩ := ctlS_some hct hk hx
        refine .inr (.inl ⟨(x.ch, x.key), h1.2.2, y, hy, ?_⟩)
        rw [h, hy]
        rfl
      · cases h
    · split at h
      · rename_i h1
        rcases List.mem_cons.1 h with rfl | h
        · exact .inl ⟨List.mem_of_getElem? hx, h1⟩
        · split at h
          · rename_i h2
            rw [List.mem_singleton] at h
            exact .inr (.inr ⟨k, x, hx, h2.1, h1.1, h1.2, h2.2, h⟩)
          · cases h
      · cases h
  · rintro (⟨h1, h2⟩ | ⟨v, hs, x, hx, rfl⟩ | ⟨k, x, hx, h1, h2, h3, h4, rfl⟩)
    · obtain ⟨k, hk⟩ := List.mem_iff_getElem?.1 h1
      refine ⟨k, e, (List.getElem?_eq_some_iff.1 hk).1, hk, ?_⟩
      unfold rsIns
      rw [if_pos h2]
      exact List.mem_append.2 (.inr (List.mem_cons_self ..))
    · obtain ⟨h1, h2⟩ := ctlS_mem hx
      unfold isCtl at h2
      rw [decide_eq_true_iff] at h2
      obtain ⟨g1, g2, g3, g4⟩ := h2
      obtain ⟨k, hk⟩ := List.mem_iff_getElem?.1 h1
      refine ⟨k, x, (List.getElem?_eq_some_iff.1 hk).1, hk, ?_⟩
      unfold rsIns
      rw [g2, g3, if_pos ⟨g1, g4, hs⟩, hx]
      exact List.mem_append.2 (.inl (List.mem_singleton.2 rfl))
    · refine ⟨k, x, (List.getElem?_eq_some_iff.1 hx).1, hx, ?_⟩
      unfold rsIns
      refine List.mem_append.2 (.inr ?_)
      rw [if_pos ⟨h2, h3⟩, if_pos ⟨h1, h4⟩]
      exact List.mem_cons_of_mem _ (List.mem_singleton.2 rfl)
theorem rslice_eq (l : List Ev) (fr hi : Int) : rsliceM l fr hi = sliceM l fr hi := by
  unfold rsliceM sliceM
  split
  · rfl
  · rename_i hc
    rw [foldI_csort fun e => rsL_iff (Classical.not_not.1 hc)]
end Go.Proofs.Ytmfdflfjllpceaa

/- 'sane' of layer 50: the chapter's examples, plain. -/
namespace Go.Proofs.Ytmfdflfjllpceaa
open Go.RowKit

theorem csort_of_ss {l : List Ev} (h : SS l) : csort l = l := ss_unique (csort_ss l) h fun _ => csort_mem
def xOn : Ev := ⟨5, 3, 0, 60, 100, 7⟩
def xOff : Ev := ⟨15, 1, 0, 60, 0, 0⟩
def xEarly : Ev := ⟨5, 1, 0, 60, 0, 0⟩
def xSec : Ev := ⟨8, 3, 0, 60, 100, 7⟩
def xSil : Ev := ⟨5, 3, 0, 60, 0, 7⟩
def x4 : Ev := ⟨4, 3, 0, 0, 1, 0⟩
def x5 : Ev := ⟨5, 3, 0, 0, 1, 0⟩
def xHalf : Ev := ⟨2, 3, 0, 0, 1, 0⟩
def xCut : Ev := ⟨10, 1, 0, 60, 0, 7⟩
def xMap : List Tm := [⟨0, 1, 2, false⟩]
theorem ss2 {a b : Ev} (h : evLt a b) : SS [a, b] := by simp [SS, h]
theorem sSort : msort [xOn, xEarly] = [xEarly, xOn] :=
  (msort_perm_eq (List.Perm.swap xEarly xOn [])).trans (msort_of_ws (ss2 (by decide)).ws)
theorem sChk0 : checkM [] = 0 := checkM_of (by simp) (by simp) List.Pairwise.nil
theorem sChk1 : checkM [xSil] = 500 := checkM_no (k := 0) (r := xSil) (by simp) rfl fun h => absurd h.1 (by decide)
theorem sChk2 : checkM [xOn, xOn] = 500 := checkM_no (k := 1) (r := xOn) (by simp) rfl fun h => absurd (h.2 0 xOn rfl rfl) (by decide)
theorem sChk3 : checkM [xOn, xOff] = 0 := checkM_of (by simp) (by decide) (ss2 (by decide))
theorem sChk4 : checkM [xOn, xSec, xOff] = 0 := checkM_of (by simp) (by decide) (by
  have h1 : evLt xOn xSec := by decide
  have h2 : evLt xOn xOff := by decide
  have h3 : evLt xSec xOff := by decide
  simp [SS, h1, h2, h3])
theorem sChk5 : checkM [x4, x5] = 0 := checkM_of (by simp) (by decide) (ss2 (by decide))
theorem sNotes : notesM [xOn, xSec, xOff] = [(0, 1), (1, 2)] := by decide
theorem sNotes0 : notesM [] = [] := rfl
theorem sPart : partL [xOn, xOff] 0 10 = [xOn, xCut] := by decide
theorem sSlice : sliceM [xOn, xOff] 0 10 = ([xOn, xCut], 0) := by
  have h : csort (partL [xOn, xOff] 0 10) = [xOn, xCut] := by rw [sPart]; exact csort_of_ss (ss2 (by decide))
  unfold sliceM
  rw [if_neg (by rw [sChk3]; simp), if_neg (by decide), h, if_neg (by simp)]
theorem sSlice0 : sliceM [] 5 4 = ([], 1) := by
  unfold sliceM
  rw [if_neg (by rw [sChk0]; simp), if_pos (by decide)]
theorem sMap : checkT xMap = 0 := checkT_yes ⟨by simp [xMap], ⟨⟨0, 1, 2, false⟩, rfl, rfl⟩, ⟨⟨0, 1, 2, false⟩, rfl, rfl⟩, fun k s hk hs => by
  have h1 : xMap.length = 1 := rfl
  obtain rfl : k = 0 := by omega
  injection hs with hs
  subst hs
  exact ⟨by unfold TmOk; decide, fun j q hj => by omega⟩⟩
theorem sSamp {t : Int} (h0 : 0 ≤ t) (h1 : t ≤ 5) : sampT xMap t = (t.tdiv 2, 0) := by
  have hv : AtV xMap t (t.tdiv 2) := ⟨0, ⟨0, 1, 2, false⟩, ⟨0, 1, 2, false⟩, ⟨rfl, rfl⟩, h0, fun h => by have : xMap.length = 1 := rfl; omega, by
    show _ = 0 + segQ _ _ (t - 0)
    unfold segQ
    rw [if_neg (by simp)]
    show _ = 0 + ((t - 0) * 1).tdiv 2
    rw [Int.sub_zero, Int.mul_one, Int.zero_add]⟩
  have ha := atT_eq (mapOk_of sMap) hv
  have h2 : t.tdiv 2 ≤ 5 := by rw [Int.tdiv_eq_ediv_of_nonneg h0]; omega
  unfold sampT
  rw [if_neg (by rw [sMap]; simp), if_neg (by omega), if_neg (by rw [ha]; omega), ha]
theorem sRes : resM xMap [x4, x5] = ([xHalf], 0) := by
  have e4 : sampT xMap x4.tick = (2, 0) := sSamp (by decide) (by decide)
  have e5 : sampT xMap x5.tick = (2, 0) := sSamp (by decide) (by decide)
  have hb : badE xMap [x4, x5] = none := badE_none fun j y hj => by
    have hl := (List.getElem?_eq_some_iff.1 hj).1
    have hc : j = 0 ∨ j = 1 := by simp at hl; omega
    rcases hc with rfl | rfl
    · injection hj with hj; subst hj; rw [e4]
    · injection hj with hj; subst hj; rw [e5]
  have m4 : mapE xMap x4 = xHalf := by unfold mapE; rw [e4]; rfl
  have m5 : mapE xMap x5 = xHalf := by unfold mapE; rw [e5]; rfl
  unfold resM
  rw [if_neg (by rw [sChk5]; simp), if_neg (by rw [sMap]; simp)]
  unfold resB
  rw [hb]
  dsimp only
  rw [List.map_cons, List.map_cons, List.map_nil, m4, m5]
  congr 1
  rw [csort_eq (m := [xHalf]) (by simp)]
  exact csort_of_ss (by simp [SS])
end Go.Proofs.Ytmfdflfjllpceaa

/- Layer 50, plain: what the laws say of a part's events, of notes, of events at samples. No program in sight. -/
namespace Go.Proofs.Ytmfdflfjllpceaa
open Go.RowKit

/-! Where a note ends. -/
theorem endF_spec (y : Ev) : ∀ (r : List Ev) (i : Nat), (endF y r i = -1 ∧ ∀ x ∈ r, isEnd y x = false) ∨ (∃ (j : Nat) (x : Ev), endF y r i = ((i + j : Nat) : Int) ∧ r[j]? = some x ∧ isEnd y x = true ∧ ∀ (k : Nat) (z : Ev), k < j → r[k]? = some z → isEnd y z = false)
  | [], _ => .inl ⟨rfl, fun x h => by cases h⟩
  | x :: r, i => by
    unfold endF
    by_cases hx : isEnd y x = true
    · rw [if_pos hx]
      exact .inr ⟨0, x, rfl, rfl, hx, fun k z hk => by omega⟩
    · rw [if_neg hx]
      rcases endF_spec y r (i + 1) with ⟨h1, h2⟩ | ⟨j, z, h1, h2, h3, h4⟩
      · refine .inl ⟨h1, fun u hu => ?_⟩
        rcases List.mem_cons.1 hu with rfl | hu
        · simpa using hx
        · exact h2 u hu
      · refine .inr ⟨j + 1, z, by rw [h1]; congr 1; omega, h2, h3, fun k u hk hu => ?_⟩
        cases k with
        | zero => injection hu with hu; subst hu; simpa using hx
        | succ k => exact h4 k u (by omega) hu
theorem endS_spec {l : List Ev} {i : Nat} {y : Ev} (hy : l[i]? = some y) : (endS l i = -1 ∧ ∀ (k : Nat) (x : Ev), i < k → l[k]? = some x → isEnd y x = false) ∨
    (∃ (j : Nat) (x : Ev), endS l i = (j : Int) ∧ i < j ∧ l[j]? = some x ∧ isEnd y x = true ∧ ∀ (k : Nat) (z : Ev), i < k → k < j → l[k]? = some z → isEnd y z = false) := by
  unfold endS
  rw [hy]
  dsimp only
  rcases endF_spec y (l.drop (i + 1)) (i + 1) with ⟨h1, h2⟩ | ⟨j, x, h1, h2, h3, h4⟩
  · refine .inl ⟨h1, fun k x hk hx => h2 x (List.mem_of_getElem? (i := k - (i + 1)) ?_)⟩
    rw [List.getElem?_drop, show i + 1 + (k - (i + 1)) = k by omega]
    exact hx
  · rw [List.getElem?_drop] at h2
    refine .inr ⟨i + 1 + j, x, h1, by omega, h2, h3, fun k z hk hkj hz => h4 (k - (i + 1)) z (by omega) ?_⟩
    rw [List.getElem?_drop, show i + 1 + (k - (i + 1)) = k by omega]
    exact hz
theorem rN_mono {l : List Ev} {i : Nat} : ∀ (d : Nat), ∃ r, rN l (i + d) = rN l i ++ r
  | 0 => ⟨[], by simp⟩
  | d + 1 => by
    obtain ⟨r, h⟩ := rN_mono (l := l) (i := i) d
    rw [show i + (d + 1) = i + d + 1 by omega, rN, h, List.append_assoc]
    exact ⟨_, rfl⟩
theorem rN_at {l : List Ev} {i n : Nat} {x : Ev} (hi : l[i]? = some x) (hk : x.kind = 3) (hn : i < n) : (rN l n)[(rN l i).length]? = some ((i : Int), endS l i) ∧ (rN l (i + 1)).length = (rN l i).length + 1 := by
  obtain ⟨r, hr⟩ := rN_mono (l := l) (i := i + 1) (n - (i + 1))
  have e1 : rN l (i + 1) = rN l i ++ [((i : Int), endS l i)] := by rw [rN, hi]; dsimp only; rw [if_pos hk]
  rw [show i + 1 + (n - (i + 1)) = n by omega, e1, List.append_assoc] at hr
  refine ⟨?_, by rw [e1, List.length_append]; rfl⟩
  rw [hr, List.getElem?_append_right (Nat.le_refl _), Nat.sub_self]
  rfl
theorem rN_skip {l : List Ev} {i : Nat} {x : Ev} (hi : l[i]? = some x) (hk : ¬ x.kind = 3) : rN l (i + 1) = rN l i := by rw [rN, hi]; dsimp only; rw [if_neg hk, List.append_nil]

/-! What a part has. -/
def sIn (l : List Ev) (fr hi : Int) (e : Ev) : Prop := e ∈ l ∧ fr ≤ e.tick ∧ e.tick < hi
def sCt (l : List Ev) (fr : Int) (e : Ev) : Prop := ∃ v : Vc, setS l v.1 v.2 fr = false ∧ ∃ x, ctlS l v.1 v.2 fr l.length = some x ∧ e = atTick x fr
def sOf (l : List Ev) (fr hi : Int) (e : Ev) : Prop := ∃ (k : Nat) (x : Ev), l[k]? = some x ∧ x.kind = 3 ∧ fr ≤ x.tick ∧ x.tick < hi ∧ endsB l hi (endS l k) = false ∧ e = offEv hi x
theorem part_mem {l : List Ev} {fr hi : Int} (hc : checkM l = 0) {e : Ev} : e ∈ csort (partL l fr hi) ↔ sIn l fr hi e ∨ sCt l fr e ∨ sOf l fr hi e := csort_mem.trans (partL_iff hc)
theorem part_len {l : List Ev} {fr hi : Int} (hc : checkM l = 0) : (csort (partL l fr hi)).length ≤ 3 * l.length := by
  rw [← foldI_csort (l := rsL l fr hi l.length) fun e => rsL_iff hc]
  have h1 := foldI_len true (rsL l fr hi l.length) []
  have h2 := rsL_len l fr hi l.length
  simp at h1
  omega
theorem sCt_ok {l : List Ev} {fr : Int} {e : Ev} (h : sCt l fr e) : ∃ x ∈ l, x.kind = 2 ∧ x.tick < fr ∧ e = atTick x fr ∧ setS l x.ch x.key fr = false ∧ ctlS l x.ch x.key fr l.length = some x := by
  obtain ⟨v, h1, x, h2, rfl⟩ := h
  obtain ⟨h3, h4⟩ := ctlS_mem h2
  unfold isCtl at h4
  rw [decide_eq_true_iff] at h4
  obtain ⟨g1, g2, g3, g4⟩ := h4
  exact ⟨x, h3, g1, g4, rfl, by rw [g2, g3]; exact h1, by rw [g2, g3]; exact h2⟩
theorem EvOk.at_ {x : Ev} {t : Int} (h : EvOk x) (h0 : 0 ≤ t) (h1 : t ≤ 1099511627776) : EvOk (atTick x t) := by
  obtain ⟨a1, a2, a3, a4, a5⟩ := h
  exact ⟨a1, a2, h0, h1, a5⟩
theorem EvOk.off {x : Ev} {t : Int} (h : EvOk x) (h0 : 0 ≤ t) (h1 : t ≤ 1099511627776) : EvOk (offEv t x) := by
  obtain ⟨a1, a2, a3, a4, a5, a6, a7, a8, a9, a10, _, _⟩ := h
  exact ⟨by show (1 : Int) ≤ 1; omega, by show (1 : Int) ≤ 3; omega, h0, h1, a5, a6, a7, a8, a9, a10, by show (if (1 : Int) = 3 then (1 : Int) else 0) ≤ 0; decide, by show (0 : Int) ≤ if (1 : Int) = 1 then 0 else 127; decide⟩
/-- A part in order: valid. -/
theorem part_ok {l : List Ev} {fr hi : Int} (hc : checkM l = 0) (hl : l.length ≤ 60) (hp : PtOk fr hi) : checkM (csort (partL l fr hi)) = 0 := by
  obtain ⟨_, h2, h3⟩ := checkM_ok hc
  obtain ⟨p1, p2, p3⟩ := hp
  refine checkM_of (by have := part_len (fr := fr) (hi := hi) hc; omega) (fun e he => ?_) (csort_ss _)
  rcases (part_mem hc).1 he with h | h | ⟨k, x, hk, _, _, _, _, rfl⟩
  · exact h2 e h.1
  · obtain ⟨x, hx, _, _, rfl, _⟩ := sCt_ok h
    exact (h2 x hx).at_ p1 (by omega)
  · exact (h2 x (List.mem_of_getElem? hk)).off (by omega) p3
theorem slice_code {l : List Ev} {fr hi : Int} (hc : checkM l = 0) (hl : l.length ≤ 60) : sliceM l fr hi = if PtOk fr hi then (csort (partL l fr hi), 0) else ([], 1) := by
  unfold sliceM
  rw [if_neg (by rw [hc]; simp)]
  by_cases hp : PtOk fr hi
  · rw [if_neg (by simpa using hp), if_neg (by have := part_len (fr := fr) (hi := hi) hc; omega), if_pos hp]
  · rw [if_pos hp, if_neg hp]
/-- Each element of a part lies within it; at its end there are only ends of notes. -/
theorem part_in {l : List Ev} {fr hi : Int} (hc : checkM l = 0) (hp : PtOk fr hi) {e : Ev} (he : e ∈ csort (partL l fr hi)) : fr ≤ e.tick ∧ e.tick ≤ hi ∧ (e.tick = hi → fr < hi → e.kind = 1) := by
  obtain ⟨p1, p2, p3⟩ := hp
  rcases (part_mem hc).1 he with h | h | ⟨k, x, hk, _, _, _, _, rfl⟩
  · obtain ⟨_, h1, h2⟩ := h
    exact ⟨h1, by omega, fun h => by omega⟩
  · obtain ⟨x, hx, _, _, rfl, _⟩ := sCt_ok h
    exact ⟨Int.le_refl _, p2, fun (h : fr = hi) h2 => by omega⟩
  · exact ⟨p2, Int.le_refl _, fun _ _ => rfl⟩
theorem part_has {l : List Ev} {fr hi : Int} (hc : checkM l = 0) {e : Ev} (he : e ∈ l) (h1 : fr ≤ e.tick) (h2 : e.tick < hi) : e ∈ csort (partL l fr hi) := (part_mem hc).2 (.inl ⟨he, h1, h2⟩)
theorem part_three {l : List Ev} {fr hi : Int} (hc : checkM l = 0) {e : Ev} (he : e ∈ csort (partL l fr hi)) (hk : e.kind = 3) : sIn l fr hi e := by
  rcases (part_mem hc).1 he with h | h | ⟨k, x, _, _, _, _, _, rfl⟩
  · exact h
  · obtain ⟨x, hx, hx2, _, rfl, _⟩ := sCt_ok h
    exfalso
    have : x.kind = 3 := hk
    omega
  · exfalso
    have : (1 : Int) = 3 := hk
    omega
def on3 (e : Ev) : Bool := decide (e.kind = 3)
theorem part_many {l : List Ev} {fr hi : Int} (hc : checkM l = 0) : ((csort (partL l fr hi)).filter on3) = ((l.filter fun e => decide (fr ≤ e.tick ∧ e.tick < hi)).filter on3) := by
  obtain ⟨_, _, hS⟩ := checkM_ok hc
  refine ss_unique (List.Pairwise.sublist List.filter_sublist (csort_ss _)) (List.Pairwise.sublist List.filter_sublist (List.Pairwise.sublist List.filter_sublist hS)) fun e => ?_
  unfold on3
  rw [List.mem_filter, List.mem_filter, List.mem_filter, decide_eq_true_iff, decide_eq_true_iff]
  constructor
  · rintro ⟨h1, h2⟩
    obtain ⟨g1, g2, g3⟩ := part_three hc h1 h2
    exact ⟨⟨g1, g2, g3⟩, h2⟩
  · rintro ⟨⟨h1, h2, h3⟩, h4⟩
    exact ⟨part_has hc h1 h2 h3, h4⟩
/-- Every note in a part ends. -/
theorem part_ends {l : List Ev} {fr hi : Int} (hc : checkM l = 0) {q : Int × Int} (hq : q ∈ rN (csort (partL l fr hi)) (csort (partL l fr hi)).length) : 0 ≤ q.2 := by
  obtain ⟨_, _, hS⟩ := checkM_ok hc
  obtain ⟨k, y, hk, hy, hy3, rfl⟩ := rN_mem.1 hq
  have hX := csort_ss (partL l fr hi)
  rcases endS_spec hy with ⟨_, hno⟩ | ⟨j, x, h1, _⟩
  · exfalso
    have hbad : ∀ z, z ∈ csort (partL l fr hi) → evLt y z → isEnd y z = true → False := by
      intro z hz hyz hez
      obtain ⟨j, hj⟩ := List.mem_iff_getElem?.1 hz
      have hkj : k < j := by
        obtain ⟨a1, a2⟩ := List.getElem?_eq_some_iff.1 hj
        obtain ⟨b1, b2⟩ := List.getElem?_eq_some_iff.1 hy
        by_cases h : k < j
        · exact h
        · exfalso
          by_cases h2 : k = j
          · subst h2
            rw [a2] at b2
            subst b2
            exact evLt_irrefl _ hyz
          · have := List.pairwise_iff_getElem.1 hX j k a1 b1 (by omega)
            rw [a2, b2] at this
            exact evLt_irrefl _ (evLt_trans hyz this)
      rw [hno j z hkj hj] at hez
      cases hez
    obtain ⟨g1, g2, g3⟩ := part_three hc (List.mem_of_getElem? hy) hy3
    obtain ⟨i, hi'⟩ := List.mem_iff_getElem?.1 g1
    have hoff : endsB l hi (endS l i) = false → False := fun h => by
      refine hbad (offEv hi y) ((part_mem hc).2 (.inr (.inr ⟨i, y, hi', hy3, g2, g3, h, rfl⟩))) ?_ ?_
      · unfold evLt ekey lcmp
        have : ¬ y.tick = (offEv hi y).tick := by show ¬ y.tick = hi; omega
        rw [if_neg this]
        unfold ccmp
        rw [if_pos (show y.tick < (offEv hi y).tick from g3)]
        omega
      · unfold isEnd
        rw [decide_eq_true_iff]
        exact ⟨.inl rfl, rfl, rfl⟩
    rcases endS_spec hi' with ⟨e1, _⟩ | ⟨j, x, e1, hij, hx, hex, _⟩
    · exact hoff (by rw [e1]; rfl)
    · by_cases ht : x.tick < hi
      · have hyx : evLt y x := by
          obtain ⟨a1, a2⟩ := List.getElem?_eq_some_iff.1 hx
          obtain ⟨b1, b2⟩ := List.getElem?_eq_some_iff.1 hi'
          have := List.pairwise_iff_getElem.1 hS i j b1 a1 hij
          rwa [a2, b2] at this
        refine hbad x (part_has hc (List.mem_of_getElem? hx) ?_ ht) hyx hex
        have := evLt_tick hyx
        omega
      · refine hoff ?_
        unfold endsB
        rw [e1, Int.toNat_natCast, hx]
        simp only [Option.map_some, Option.getD_some, decide_eq_false ht, Bool.and_false]
  · show 0 ≤ endS _ k
    rw [h1]
    omega

/-! The value of a control. -/
/-- What 'value' answers. -/
def valS (l : List Ev) (ch key tick : Int) : Int := ((ctlS l ch key (tick + 1) l.length).map (·.val)).getD (-1)
theorem ctlS_last {l : List Ev} {ch key t : Int} (hS : SS l) : ∀ {n : Nat} {y : Ev}, n ≤ l.length → ctlS l ch key t n = some y → ∀ z ∈ l.take n, isCtl ch key t z = true → evc z y ≤ 0
  | 0, _, _, h, _, _, _ => by cases h
  | n + 1, y, hn, h, z, hz, hzc => by
    have hx : l[n]? = some l[n] := List.getElem?_eq_getElem (by omega)
    rw [ctlS_succ hx] at h
    rw [take_succ_get (by omega)] at hz
    split at h
    · injection h with h
      subst h
      rcases List.mem_append.1 hz with hz | hz
      · obtain ⟨j, hj, rfl⟩ := List.mem_take_iff_getElem.1 hz
        exact Int.le_of_lt (List.pairwise_iff_getElem.1 hS j n (by omega) (by omega) (by omega))
      · rw [List.mem_singleton] at hz
        rw [hz, evc_self]
        omega
    · rename_i hn2
      rcases List.mem_append.1 hz with hz | hz
      · exact ctlS_last hS (by omega) h z hz hzc
      · rw [List.mem_singleton] at hz
        rw [hz] at hzc
        exact absurd hzc hn2
theorem ctlS_iff {l : List Ev} {ch key t : Int} (hS : SS l) {y : Ev} : ctlS l ch key t l.length = some y ↔ y ∈ l ∧ isCtl ch key t y = true ∧ ∀ z ∈ l, isCtl ch key t z = true → evc z y ≤ 0 := by
  constructor
  · intro h
    obtain ⟨h1, h2⟩ := ctlS_mem h
    exact ⟨h1, h2, fun z hz => ctlS_last hS (Nat.le_refl _) h z (by rw [List.take_length]; exact hz)⟩
  · rintro ⟨h1, h2, h3⟩
    obtain ⟨j, hj⟩ := List.mem_iff_getElem?.1 h1
    obtain ⟨x, hx⟩ := ctlS_some h2 (List.getElem?_eq_some_iff.1 hj).1 hj
    obtain ⟨g1, g2⟩ := ctlS_mem hx
    have g3 := ctlS_last hS (Nat.le_refl _) hx y (by rw [List.take_length]; exact h1) h2
    have g4 := h3 x g1 g2
    have := evc_neg x y
    rw [hx, evc_zero (a := x) (b := y) (by omega)]
theorem ctlS_none {l : List Ev} {ch key t : Int} : ctlS l ch key t l.length = none ↔ ∀ z ∈ l, isCtl ch key t z = false := by
  constructor
  · intro h z hz
    cases hc : isCtl ch key t z with
    | false => rfl
    | true =>
      obtain ⟨j, hj⟩ := List.mem_iff_getElem?.1 hz
      obtain ⟨y, hy⟩ := ctlS_some hc (List.getElem?_eq_some_iff.1 hj).1 hj
      rw [h] at hy
      cases hy
  · intro h
    cases hc : ctlS l ch key t l.length with
    | none => rfl
    | some y =>
      obtain ⟨h1, h2⟩ := ctlS_mem hc
      rw [h y h1] at h2
      cases h2
theorem isCtl_iff {ch key t : Int} {z : Ev} : isCtl ch key t z = true ↔ z.kind = 2 ∧ z.ch = ch ∧ z.key = key ∧ z.tick < t := decide_eq_true_iff
theorem isSet_iff {ch key t : Int} {z : Ev} : isSet ch key t z = true ↔ z.kind = 2 ∧ z.ch = ch ∧ z.key = key ∧ z.tick = t := decide_eq_true_iff
theorem evLt_of_tick {a b : Ev} (h : a.tick < b.tick) : evLt a b := by
  unfold evLt ekey lcmp
  rw [if_neg (by omega)]
  unfold ccmp
  rw [if_pos h]
  omega
/-- At each tick of a part a control has the value that it has in the whole. -/
theorem part_value {l : List Ev} {fr hi : Int} (hc : checkM l = 0) {ch key tick : Int} (h1 : fr ≤ tick) (h2 : tick < hi) : valS (csort (partL l fr hi)) ch key tick = valS l ch key tick := by
  obtain ⟨_, _, hS⟩ := checkM_ok hc
  have hX := csort_ss (partL l fr hi)
  have hsrc : ∀ z, z ∈ csort (partL l fr hi) → isCtl ch key (tick + 1) z = true → sIn l fr hi z ∨ (setS l ch key fr = false ∧ ∃ c, ctlS l ch key fr l.length = some c ∧ z = atTick c fr) := by
    intro z hz hzc
    rw [isCtl_iff] at hzc
    rcases (part_mem hc).1 hz with h | h | ⟨k, x, _, _, _, _, _, rfl⟩
    · exact .inl h
    · obtain ⟨c, _, _, _, rfl, h5, h6⟩ := sCt_ok h
      have e1 : c.ch = ch := hzc.2.1
      have e2 : c.key = key := hzc.2.2.1
      rw [e1, e2] at h5 h6
      exact .inr ⟨h5, c, h6, rfl⟩
    · exfalso
      have : (1 : Int) = 2 := hzc.1
      omega
  cases hy : ctlS l ch key (tick + 1) l.length with
  | none =>
    have hno := ctlS_none.1 hy
    have : ctlS (csort (partL l fr hi)) ch key (tick + 1) (csort (partL l fr hi)).length = none := by
      rw [ctlS_none]
      intro z hz
      cases hzc : isCtl ch key (tick + 1) z with
      | false => rfl
      | true =>
        exfalso
        rcases hsrc z hz hzc with h | ⟨_, c, h6, rfl⟩
        · rw [hno z h.1] at hzc; cases hzc
        · obtain ⟨g1, g2⟩ := ctlS_mem h6
          have g3 := hno c g1
          rw [isCtl_iff] at g2
          have : isCtl ch key (tick + 1) c = true := isCtl_iff.2 ⟨g2.1, g2.2.1, g2.2.2.1, by omega⟩
          rw [g3] at this
          cases this
    unfold valS
    rw [hy, this]
  | some y =>
    obtain ⟨y1, y2, y3⟩ := (ctlS_iff hS).1 hy
    have y2' := isCtl_iff.1 y2
    by_cases hyf : fr ≤ y.tick
    · have : ctlS (csort (partL l fr hi)) ch key (tick + 1) (csort (partL l fr hi)).length = some y := by
        refine (ctlS_iff hX).2 ⟨part_has hc y1 hyf (by omega), y2, fun z hz hzc => ?_⟩
        rcases hsrc z hz hzc with h | ⟨h5, c, h6, rfl⟩
        · exact y3 z h.1 hzc
        · by_cases hyt : y.tick = fr
          · exfalso
            have : setS l ch key fr = true := List.any_eq_true.2 ⟨y, y1, isSet_iff.2 ⟨y2'.1, y2'.2.1, y2'.2.2.1, hyt⟩⟩
            rw [h5] at this
            cases this
          · exact Int.le_of_lt (evLt_of_tick (show fr < y.tick by omega))
      unfold valS
      rw [hy, this]
    · have hset : setS l ch key fr = false := by
        cases hs : setS l ch key fr with
        | false => rfl
        | true =>
          exfalso
          obtain ⟨z, hz, hzs⟩ := List.any_eq_true.1 hs
          rw [isSet_iff] at hzs
          have h5 := y3 z hz (isCtl_iff.2 ⟨hzs.1, hzs.2.1, hzs.2.2.1, by omega⟩)
          have h6 : evLt y z := evLt_of_tick (by omega)
          have := evc_neg z y
          rw [evLt_evc] at h6
          omega
      have hcf : ctlS l ch key fr l.length = some y := (ctlS_iff hS).2 ⟨y1, isCtl_iff.2 ⟨y2'.1, y2'.2.1, y2'.2.2.1, by omega⟩, fun z hz hzc => y3 z hz (by rw [isCtl_iff] at hzc ⊢; exact ⟨hzc.1, hzc.2.1, hzc.2.2.1, by omega⟩)⟩
      have : ctlS (csort (partL l fr hi)) ch key (tick + 1) (csort (partL l fr hi)).length = some (atTick y fr) := by
        refine (ctlS_iff hX).2 ⟨(part_mem hc).2 (.inr (.inl ⟨(ch, key), hset, y, hcf, rfl⟩)), isCtl_iff.2 ⟨y2'.1, y2'.2.1, y2'.2.2.1, show fr < tick + 1 by omega⟩, fun z hz hzc => ?_⟩
        rcases hsrc z hz hzc with h | ⟨_, c, h6, rfl⟩
        · exfalso
          have h5 := y3 z h.1 hzc
          have h6 : evLt y z := evLt_of_tick (by have := h.2.1; omega)
          have := evc_neg z y
          rw [evLt_evc] at h6
          omega
        · rw [hcf] at h6
          injection h6 with h6
          subst h6
          rw [evc_self]
          omega
      unfold valS
      rw [hy, this]
      rfl

/-! A part that is divided. -/
theorem div_whole {l : List Ev} {fr mid hi : Int} (hc : checkM l = 0) {e : Ev} (he : e ∈ csort (partL l fr hi)) : e ∈ csort (partL l fr mid) ∨ e ∈ csort (partL l mid hi) ∨ (e.kind = 1 ∧ e.tick = hi) := by
  rcases (part_mem hc).1 he with h | h | ⟨k, x, _, _, _, _, _, rfl⟩
  · by_cases hm : e.tick < mid
    · exact .inl (part_has hc h.1 h.2.1 hm)
    · exact .inr (.inl (part_has hc h.1 (by omega) h.2.2))
  · exact .inl ((part_mem hc).2 (.inr (.inl h)))
  · exact .inr (.inr ⟨rfl, rfl⟩)
theorem div_first {l : List Ev} {fr mid hi : Int} (hc : checkM l = 0) (hm : mid ≤ hi) {e : Ev} (he : e ∈ csort (partL l fr mid)) : e ∈ csort (partL l fr hi) ∨ (e.tick = mid ∧ e.kind ≠ 3) := by
  rcases (part_mem hc).1 he with h | h | ⟨k, x, _, _, _, _, _, rfl⟩
  · exact .inl (part_has hc h.1 h.2.1 (by have := h.2.2; omega))
  · exact .inl ((part_mem hc).2 (.inr (.inl h)))
  · exact .inr ⟨rfl, by show (1 : Int) ≠ 3; omega⟩
theorem div_second {l : List Ev} {fr mid hi : Int} (hc : checkM l = 0) (hm : fr ≤ mid) {e : Ev} (he : e ∈ csort (partL l mid hi)) : e ∈ csort (partL l fr hi) ∨ (e.tick = mid ∧ e.kind ≠ 3) ∨ (e.tick = hi ∧ e.kind = 1) := by
  rcases (part_mem hc).1 he with h | h | ⟨k, x, _, _, _, _, _, rfl⟩
  · exact .inl (part_has hc h.1 (by have := h.2.1; omega) h.2.2)
  · obtain ⟨c, _, c2, _, rfl, _⟩ := sCt_ok h
    exact .inr (.inl ⟨rfl, by show c.kind ≠ 3; omega⟩)
  · exact .inr (.inr ⟨rfl, rfl⟩)

/-! Events at samples. -/
theorem sampT_ok {m : List Tm} {t : Int} (h : (sampT m t).2 = 0) : 0 ≤ (sampT m t).1 ∧ (sampT m t).1 ≤ 1099511627776 := by
  unfold sampT at h ⊢
  split at h
  · omega
  · rename_i hc
    split at h
    · omega
    · rename_i ht
      split at h
      · omega
      · rename_i hv
        rw [if_neg hc, if_neg ht, if_neg hv]
        exact ⟨atT_nonneg (mapOk_of (Classical.not_not.1 hc)) (by omega), by dsimp only; omega⟩
theorem mapE_ok {m : List Tm} {x : Ev} (hx : EvOk x) (h : (sampT m x.tick).2 = 0) : EvOk (mapE m x) := by
  have h2 := sampT_ok h
  obtain ⟨a1, a2, _, _, a5⟩ := hx
  exact ⟨a1, a2, h2.1, h2.2, a5⟩
theorem badE_no {m : List Tm} {l : List Ev} (h : badE m l = none) {x : Ev} (hx : x ∈ l) : (sampT m x.tick).2 = 0 := by
  unfold badE at h
  have := List.find?_eq_none.1 h x hx
  simpa using this
theorem resM_cases (m : List Tm) (l : List Ev) : (∃ z, resM m l = ([], z) ∧ z ≠ 0) ∨
    (resM m l = (csort (l.map (mapE m)), 0) ∧ checkM l = 0 ∧ checkM (csort (l.map (mapE m))) = 0 ∧ (csort (l.map (mapE m))).length ≤ l.length ∧ ∀ x ∈ l, (sampT m x.tick).2 = 0) := by
  unfold resM
  by_cases hc : checkM l = 0
  · rw [if_neg (by simpa using hc)]
    by_cases ht : checkT m = 0
    · rw [if_neg (by simpa using ht)]
      unfold resB
      cases hb : badE m l with
      | some x =>
        refine .inl ⟨_, rfl, ?_⟩
        unfold badE at hb
        have := List.find?_some hb
        simpa using this
      | none =>
        obtain ⟨h1, h2, _⟩ := checkM_ok hc
        have hl := csort_len (l.map (mapE m))
        rw [List.length_map] at hl
        refine .inr ⟨rfl, hc, checkM_of (by omega) (fun e he => ?_) (csort_ss _), hl, fun x hx => badE_no hb hx⟩
        rw [csort_mem] at he
        obtain ⟨x, hx, rfl⟩ := List.mem_map.1 he
        exact mapE_ok (h2 x hx) (badE_no hb hx)
    · rw [if_pos (by simpa using ht)]
      exact .inl ⟨_, rfl, by omega⟩
  · rw [if_pos (by simpa using hc)]
    exact .inl ⟨_, rfl, hc⟩
end Go.Proofs.Ytmfdflfjllpceaa
