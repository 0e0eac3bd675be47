/- Layer 50: the reference's Slice (written by wip/mkrs.py). -/
import Derived.Test.YtmfdflfjllpceaaZMvT
namespace Go.Proofs.Ytmfdflfjllpceaa
open Go.RowKit

def offEv (hi : Int) (x : Ev) : Ev := ⟨hi, 1, x.ch, x.key, 0, x.no⟩
/-- What is inserted for event x, at place k. -/
def rsIns (l : List Ev) (fr hi : Int) (k : Nat) (x : Ev) : List Ev :=
  (if x.kind = 2 ∧ x.tick < fr ∧ setS l x.ch x.key fr = false then [atTick ((ctlS l x.ch x.key fr l.length).getD zEv) fr] else []) ++
  (if fr ≤ x.tick ∧ x.tick < hi then x :: (if x.kind = 3 ∧ endsB l hi (endS l k) = false then [offEv hi x] else []) else [])
def rsL (l : List Ev) (fr hi : Int) : Nat → List Ev
  | 0 => []
  | k + 1 => rsL l fr hi k ++ match l[k]? with
    | some x => rsIns l fr hi k x
    | none => []
theorem foldI_append (o : Bool) (a b acc : List Ev) : foldI o (a ++ b) acc = foldI o b (foldI o a acc) := by simp [foldI]
theorem rsIns_len (l : List Ev) (fr hi : Int) (k : Nat) (x : Ev) : (rsIns l fr hi k x).length ≤ 3 := by
  unfold rsIns
  rw [List.length_append]
  split <;> split
  all_goals first
    | (split <;> simp)
    | simp
theorem rsL_len (l : List Ev) (fr hi : Int) : ∀ k, (rsL l fr hi k).length ≤ 3 * k
  | 0 => Nat.le_refl _
  | k + 1 => by
    have h1 := rsL_len l fr hi k
    rw [rsL, List.length_append]
    split
    · have := rsIns_len l fr hi k (by assumption); omega
    · simp; omega
theorem ctlS_mem {l : List Ev} {ch key tick : Int} : ∀ {k : Nat} {x : Ev}, ctlS l ch key tick k = some x → x ∈ l ∧ isCtl ch key tick x = true
  | 0, _, h => by cases h
  | k + 1, x, h => by
    cases hx : l[k]? with
    | none => rw [ctlS, hx] at h; exact ctlS_mem h
    | some y =>
      rw [ctlS_succ hx] at h
      split at h
      · rename_i hc
        injection h with h
        subst h
        exact ⟨List.mem_of_getElem? hx, hc⟩
      · exact ctlS_mem h
theorem evI_of {e x : Ev} {fr : Int} (hx : EvI x) (hfr : I64 fr) (h : e = atTick x fr) : EvI e := by
  subst h
  intro z hz
  simp only [atTick, ekey, List.mem_cons, List.not_mem_nil, or_false] at hz
  rcases hz with rfl | rfl | rfl | rfl | rfl | rfl
  · exact hfr
  all_goals exact hx _ (by simp [ekey])
theorem off_evI {x : Ev} {hi : Int} (hx : EvI x) (hhi : I64 hi) : EvI (offEv hi x) := by
  intro y hy
  simp only [offEv, ekey, List.mem_cons, List.not_mem_nil, or_false] at hy
  rcases hy with rfl | rfl | rfl | rfl | rfl | rfl
  · exact hhi
  · exact ⟨by omega, by omega⟩
  · exact hx _ (by simp [ekey])
  · exact hx _ (by simp [ekey])
  · exact ⟨by omega, by omega⟩
  · exact hx _ (by simp [ekey])
theorem zEv_evI : EvI zEv := by
  intro z hz
  simp only [zEv, ekey, List.mem_cons, List.not_mem_nil, or_false] at hz
  rcases hz with rfl | rfl | rfl | rfl | rfl | rfl <;> exact ⟨by omega, by omega⟩
theorem ctlS_evI {l : List Ev} (hI : ∀ e ∈ l, EvI e) (ch key tick : Int) (k : Nat) : EvI ((ctlS l ch key tick k).getD zEv) := by
  cases h : ctlS l ch key tick k with
  | none => exact zEv_evI
  | some x => exact hI x (ctlS_mem h).1
theorem rsIns_evI {l : List Ev} {fr hi : Int} (hI : ∀ e ∈ l, EvI e) (hfr : I64 fr) (hhi : I64 hi) {k : Nat} {x : Ev} (hx : EvI x) : ∀ e ∈ rsIns l fr hi k x, EvI e := by
  intro e he
  unfold rsIns at he
  rcases List.mem_append.1 he with h | h
  · split at h
    · rw [List.mem_singleton] at h
      exact evI_of (ctlS_evI hI _ _ _ _) hfr h
    · cases h
  · split at h
    · rcases List.mem_cons.1 h with rfl | h
      · exact hx
      · split at h
        · rw [List.mem_singleton] at h
          subst h
          exact off_evI hx hhi
        · cases h
    · cases h
theorem rsL_evI {l : List Ev} {fr hi : Int} (hI : ∀ e ∈ l, EvI e) (hfr : I64 fr) (hhi : I64 hi) : ∀ k, ∀ e ∈ rsL l fr hi k, EvI e
  | 0, e, h => by cases h
  | k + 1, e, h => by
    rw [rsL] at h
    rcases List.mem_append.1 h with h | h
    · exact rsL_evI hI hfr hhi k e h
    · cases hx : l[k]? with
      | none => rw [hx] at h; cases h
      | some x =>
        rw [hx] at h
        exact rsIns_evI hI hfr hhi (hI x (List.mem_of_getElem? hx)) e h
/-- What the reference's Slice answers. -/
noncomputable def rsliceM (l : List Ev) (fr hi : Int) : List Ev × Int :=
  if checkM l ≠ 0 then ([], checkM l) else if ¬ PtOk fr hi then ([], 1) else if 4096 < (foldI true (rsL l fr hi l.length) []).length then ([], 2) else (foldI true (rsL l fr hi l.length) [], 0)
theorem endS_ok {l : List Ev} {on : Nat} : endS l on = -1 ∨ ∃ j : Nat, endS l on = (j : Int) ∧ j < l.length := by
  have key : ∀ (y : Ev) (r : List Ev) (i : Nat), endF y r i = -1 ∨ ∃ j : Nat, endF y r i = (j : Int) ∧ j < i + r.length := by
    intro y r
    induction r with
    | nil => intro i; exact .inl rfl
    | cons x r ih =>
      intro i
      unfold endF
      split
      · exact .inr ⟨i, rfl, by rw [List.length_cons]; omega⟩
      · rcases ih (i + 1) with h | ⟨j, h, h2⟩
        · exact .inl h
        · exact .inr ⟨j, h, by simp; omega⟩
  unfold endS
  cases hx : l[on]? with
  | none => exact .inl rfl
  | some y =>
    have hl := (List.getElem?_eq_some_iff.1 hx).1
    dsimp only
    rcases key y (l.drop (on + 1)) (on + 1) with h | ⟨j, h, h2⟩
    · exact .inl h
    · exact .inr ⟨j, h, by rw [List.length_drop] at h2; omega⟩
/-- One insertion. -/
theorem ins_step {W : World} {A : Option Addr} {n c : Nat} {acc : List Ev} (h : SA evE W A n c acc) (hI : ∀ e ∈ acc, EvI e) (x : Ev) (hx : EvI x) (hm : n ≤ 34359738368) :
    Calls Try.prog 32 #[.slice A n c, .agg (evA x), .bool true] W fun e w' => ∃ A' n' c', e = .returned (.slice A' n' c') ∧ SA evE w' A' n' c' (insS true x acc) ∧ n' ≤ n + 1 ∧ (∀ e ∈ insS true x acc, EvI e) ∧ Below W.heap.size W w' :=
  (insert_any A n c acc x true W h hI hx hm).mono fun _ _ ⟨A', n', c', he, h1, h2⟩ => ⟨A', n', c', he, h1, by have := insS_len true x acc; rw [h1.n_eq, h.n_eq] at this; exact this, fun e he => by
    rcases insS_mem.1 he with rfl | h5
    · exact hx
    · exact hI e h5, h2⟩
set_option maxHeartbeats 8000000 in
set_option maxRecDepth 100000 in
theorem rslice_any (A : Option Addr) (n c : Nat) (l : List Ev) (fr hi : Int) (w : World) (h : SA evE w A n c l) (hI : ∀ e ∈ l, EvI e) (hfr : I64 fr) (hhi : I64 hi) :
    Calls Try.prog 22 #[.slice A n c, .int .i64 fr, .int .i64 hi] w (ERet w (rsliceM l fr hi)) := by
  have C := rcheck_any A n c l w h
  by_cases hc : checkM l = 0
  · have hm : n ≤ 4096 := by
      rw [← h.n_eq]
      unfold checkM at hc
      by_cases h4 : 4096 < l.length
      · rw [if_pos h4] at hc; omega
      · omega
    rw [hc] at C
    by_cases hp : PtOk fr hi
    · have HR := Lib.hid (show rsliceM l fr hi = if 4096 < (foldI true (rsL l fr hi l.length) []).length then ([], 2) else (foldI true (rsL l fr hi l.length) [], 0) by
        unfold rsliceM; rw [if_neg (by simpa using hc), if_neg (by simpa using hp)])
      obtain ⟨p1, p2, p3⟩ := hp
      have hlen := h.len
      have HL := Lib.hid h.n_eq
      have HS := Lib.hid h
      have HI := Lib.hid hI
      have hlit : ∀ W : World, SA evE (W.alloc (.cells #[] 40)) (some ⟨W.heap.size, 0, none⟩) 0 0 ([] : List Ev) := fun W => SA.lit (e := evE) (l := []) (n := 0) (cs := #[]) W rfl rfl (by omega)
      clear h hI hc
      go_enter Try.func22, Try.ntmps22
      go_wp2_with (go_at_call 13; ((with_reducible refine C.mono ?_); rintro e w1 ⟨rfl, hh1⟩))
      have h0 := hlit w1
      have h0b := Bel.al hh1 (.cells #[] 40)
      clear hlit C
      go_loopw [9, 10] (fun o i wr => ∃ (k : Nat) (A' : Option Addr) (n' c' : Nat), k ≤ n ∧ i = .int .i64 k ∧ o = .slice A' n' c' ∧ Hid (SA evE wr A' n' c' (foldI true (rsL l fr hi k) [])) ∧ Below w.heap.size w wr) (fun _ i _ => n - (intOf i).toNat)
      case atStart => exact ⟨0, _, 0, 0, Nat.zero_le _, rfl, rfl, Lib.hid h0, h0b⟩
      case round =>
        clear h0 h0b
        obtain ⟨k, A', n', c', hk, rfl, rfl, hO, hB⟩ := hrel
        by_cases hlt : k < n
        · have hkl : k < l.length := by rw [HL.out]; exact hlt
          obtain ⟨s, hs⟩ : ∃ s, l[k] = s := ⟨_, rfl⟩
          have hs' : l[k]? = some s := by rw [List.getElem?_eq_getElem hkl, hs]
          obtain ⟨b, o, hAe, hb, c0, c1, c2, c3, c4, c5⟩ := ev_at (HS.out.below hB) hkl hs
          have hSt : rsL l fr hi (k + 1) = rsL l fr hi k ++ rsIns l fr hi k s := by rw [rsL, hs']
          have HsI := Lib.hid (HI.out s (List.mem_of_getElem? hs'))
          have HNL := Lib.hid (show n' ≤ 12300 by
            have h1 := hO.out.n_eq; have h2 := rsL_len l fr hi k; have h3 := foldI_len true (rsL l fr hi k) []; simp at h3; omega)
          have HAI := Lib.hid (foldI_evI (o := true) (acc := []) (rsL_evI HI.out hfr hhi k) (fun e he => by cases he))
          have hal : Below wr.heap.size wr (wr.alloc (.cells (evA s) 40)) := (Below.refl _ wr).alloc (Nat.le_refl _) _
          have HO1 := Lib.hid (hO.out.below hal)
          have HB1 := Lib.hid (Bel.on0 hB hal)
          have HBX := Lib.hid (Blk.new wr 40 (evA s))
          have HSt := Lib.hid hSt
          subst hAe
          clear hs hs' hO hal hSt
          obtain ⟨st, sk, sc, se, sv, sn⟩ := s
          dsimp only at c0 c1 c2 c3 c4 c5
          have HSt2 := Lib.hid (show foldI true (rsL l fr hi (k + 1)) [] = foldI true (rsIns l fr hi k ⟨st, sk, sc, se, sv, sn⟩) (foldI true (rsL l fr hi k) []) by rw [HSt.out, foldI_append])
          clear HSt
          obtain ⟨acc, hacc⟩ : ∃ acc, foldI true (rsL l fr hi k) [] = acc := ⟨_, rfl⟩
          rw [hacc] at HO1 HAI HSt2
          clear hacc
          have hbx := HBX.out
          dsimp only [evA] at *
          have g3 : (0 : Int) ≤ (k : Int) := by omega
          have g4 : (k : Int) < (n : Int) := by omega
          have CSET := Lib.hid fun W' (hb' : Below w.heap.size w W') => rset_any (some ⟨b, o, none⟩) n c l sc se fr W' (HS.out.below hb')
          by_cases hlo : st < fr
          · by_cases hq : sk = 2
            · subst hq
              cases hset : setS l sc se fr with
              | true =>
                rw [hset] at CSET
                have HN := Lib.hid (show foldI true (rsL l fr hi (k + 1)) [] = acc by rw [HSt2.out]; unfold rsIns; rw [if_neg (fun h => by have := h.2.2; rw [hset] at this; cases this), if_neg (fun h => by have : fr ≤ st := h.1; omega)]; rfl)
                clear hset
                go_wp2_with (first
                  | (go_at_call 40; ((with_reducible refine (CSET.out _ HB1.out).mono ?_); rintro e w2 ⟨rfl, hh2⟩);
                      (replace hbx := hbx.belowAll hh2); (have d0 : w2.cell? ⟨wr.heap.size, 0, none⟩ = some (.int .i64 st) := hbx.cell 0); (have d1 : w2.cell? ⟨wr.heap.size, 1, none⟩ = some (.int .i64 2) := hbx.cell 1); (have d2 : w2.cell? ⟨wr.heap.size, 2, none⟩ = some (.int .i64 sc) := hbx.cell 2); (have d3 : w2.cell? ⟨wr.heap.size, 3, none⟩ = some (.int .i64 se) := hbx.cell 3); (have d4 : w2.cell? ⟨wr.heap.size, 4, none⟩ = some (.int .i64 sv) := hbx.cell 4); (have d5 : w2.cell? ⟨wr.heap.size, 5, none⟩ = some (.int .i64 sn) := hbx.cell 5); (have HB2 := Lib.hid (Bel.on0 HB1.out hh2)); (have HO2 := Lib.hid (HO1.out.below hh2)); (clear hh2)))
                exact ⟨⟨k + 1, _, _, _, by omega, by simp, rfl, Lib.hid (by rw [HN.out]; exact HO2.out), HB2.out⟩, by simp only [intOf]; omega⟩
              | false =>
                rw [hset] at CSET
                have HN := Lib.hid (show foldI true (rsL l fr hi (k + 1)) [] = insS true (atTick ((ctlS l sc se fr l.length).getD zEv) fr) acc by rw [HSt2.out]; unfold rsIns; rw [if_pos ⟨rfl, hlo, hset⟩, if_neg (fun h => by have : fr ≤ st := h.1; omega)]; rfl)
                have CCT := Lib.hid fun W' (hb' : Below w.heap.size w W') => rcontrol_any (some ⟨b, o, none⟩) n c l sc se fr W' (HS.out.below hb')
                have HYI := Lib.hid (ctlS_evI HI.out sc se fr l.length)
                obtain ⟨y, hy⟩ : ∃ y, (ctlS l sc se fr l.length).getD zEv = y := ⟨_, rfl⟩
                rw [hy] at HN CCT HYI
                have HYI2 := Lib.hid (evI_of HYI.out hfr rfl)
                clear hset hy HYI
                obtain ⟨yt, yk, yc, ye, yv, yn⟩ := y
                dsimp only [evA] at CCT
                have CI := Lib.hid fun (W' : World) (A'' : Option Addr) (n'' c'' : Nat) (h' : SA evE W' A'' n'' c'' acc) (hm' : n'' ≤ 34359738368) => ins_step h' HAI.out ⟨fr, yk, yc, ye, yv, yn⟩ HYI2.out hm'
                dsimp only [evA] at CI
                go_wp2_with (first
                  | (go_at_call 40; ((with_reducible refine (CSET.out _ HB1.out).mono ?_); rintro e w2 ⟨rfl, hh2⟩);
                      (replace hbx := hbx.belowAll hh2); (have d0 : w2.cell? ⟨wr.heap.size, 0, none⟩ = some (.int .i64 st) := hbx.cell 0); (have d1 : w2.cell? ⟨wr.heap.size, 1, none⟩ = some (.int .i64 2) := hbx.cell 1); (have d2 : w2.cell? ⟨wr.heap.size, 2, none⟩ = some (.int .i64 sc) := hbx.cell 2); (have d3 : w2.cell? ⟨wr.heap.size, 3, none⟩ = some (.int .i64 se) := hbx.cell 3); (have d4 : w2.cell? ⟨wr.heap.size, 4, none⟩ = some (.int .i64 sv) := hbx.cell 4); (have d5 : w2.cell? ⟨wr.heap.size, 5, none⟩ = some (.int .i64 sn) := hbx.cell 5); (have HB2 := Lib.hid (Bel.on0 HB1.out hh2)); (have HO2 := Lib.hid (HO1.out.below hh2)); (clear hh2))
                  | (go_at_call 41; (refine (CCT.out _ HB2.out).mono ?_); rintro e w3 ⟨rfl, hh3⟩;
                      (replace hbx := (hbx.belowAll hh3)); (have e0 : w3.cell? ⟨wr.heap.size, 0, none⟩ = some (.int .i64 st) := hbx.cell 0); (have e1 : w3.cell? ⟨wr.heap.size, 1, none⟩ = some (.int .i64 2) := hbx.cell 1); (have e2 : w3.cell? ⟨wr.heap.size, 2, none⟩ = some (.int .i64 sc) := hbx.cell 2); (have e3 : w3.cell? ⟨wr.heap.size, 3, none⟩ = some (.int .i64 se) := hbx.cell 3); (have e4 : w3.cell? ⟨wr.heap.size, 4, none⟩ = some (.int .i64 sv) := hbx.cell 4); (have e5 : w3.cell? ⟨wr.heap.size, 5, none⟩ = some (.int .i64 sn) := hbx.cell 5); (have HB3 := Lib.hid (Bel.on0 HB2.out hh3)); (have HO3 := Lib.hid (HO2.out.below hh3)); (clear hh3);
                      (have hbx4 := (hbx.alloc (.cells #[.int .i64 fr, .int .i64 yk, .int .i64 yc, .int .i64 ye, .int .i64 yv, .int .i64 yn] 40)));
                      (have HBX4 := Lib.hid hbx4);
                      (have HO4 := Lib.hid (HO3.out.below ((Below.refl w3.heap.size w3).alloc (Nat.le_refl _) (.cells #[.int .i64 fr, .int .i64 yk, .int .i64 yc, .int .i64 ye, .int .i64 yv, .int .i64 yn] 40))));
                      (have HB4 := Lib.hid (Bel.on0 HB3.out ((Below.refl w3.heap.size w3).alloc (Nat.le_refl _) (.cells #[.int .i64 fr, .int .i64 yk, .int .i64 yc, .int .i64 ye, .int .i64 yv, .int .i64 yn] 40))));
                      (clear hbx4))
                  | (go_at_call 32; (refine (CI.out _ _ _ _ HO4.out (by have := HNL.out; omega)).mono ?_); rintro e w5 ⟨A5, n5, c5, rfl, h5, _, _, hh5⟩;
                      (have hbx := HBX4.out.belowAll hh5); (have f0 : w5.cell? ⟨wr.heap.size, 0, none⟩ = some (.int .i64 st) := hbx.cell 0); (have f1 : w5.cell? ⟨wr.heap.size, 1, none⟩ = some (.int .i64 2) := hbx.cell 1); (have f2 : w5.cell? ⟨wr.heap.size, 2, none⟩ = some (.int .i64 sc) := hbx.cell 2); (have f3 : w5.cell? ⟨wr.heap.size, 3, none⟩ = some (.int .i64 se) := hbx.cell 3); (have f4 : w5.cell? ⟨wr.heap.size, 4, none⟩ = some (.int .i64 sv) := hbx.cell 4); (have f5 : w5.cell? ⟨wr.heap.size, 5, none⟩ = some (.int .i64 sn) := hbx.cell 5); (have HB5 := Lib.hid (Bel.on0 HB4.out hh5)); (have HO5 := Lib.hid h5); (clear h5 hh5)))
                exact ⟨⟨k + 1, _, _, _, by omega, by simp, rfl, Lib.hid (by rw [HN.out]; exact HO5.out), HB5.out⟩, by simp only [intOf]; omega⟩
            · have hq1 : (sk == 2) = false := by simpa using hq
              have HN := Lib.hid (show foldI true (rsL l fr hi (k + 1)) [] = acc by rw [HSt2.out]; unfold rsIns; rw [if_neg (fun h => hq h.1), if_neg (fun h => by have : fr ≤ st := h.1; omega)]; rfl)
              clear hq
              go_wp2
              exact ⟨⟨k + 1, _, _, _, by omega, by simp, rfl, Lib.hid (by rw [HN.out]; exact HO1.out), HB1.out⟩, by simp only [intOf]; omega⟩
          · have hlo1 : fr ≤ st := by omega
            have hlo2 : decide (st < fr) = false := by simpa using hlo1
            by_cases hup : hi ≤ st
            · by_cases hq : sk = 2
              · subst hq
                have HN := Lib.hid (show foldI true (rsL l fr hi (k + 1)) [] = acc by rw [HSt2.out]; unfold rsIns; rw [if_neg (fun h => by have : st < fr := h.2.1; omega), if_neg (fun h => by have : st < hi := h.2; omega)]; rfl)
                go_wp2
                exact ⟨⟨k + 1, _, _, _, by omega, by simp, rfl, Lib.hid (by rw [HN.out]; exact HO1.out), HB1.out⟩, by simp only [intOf]; omega⟩
              · have hq1 : (sk == 2) = false := by simpa using hq
                have HN := Lib.hid (show foldI true (rsL l fr hi (k + 1)) [] = acc by rw [HSt2.out]; unfold rsIns; rw [if_neg (fun h => hq h.1), if_neg (fun h => by have : st < hi := h.2; omega)]; rfl)
                clear hq
                go_wp2
                exact ⟨⟨k + 1, _, _, _, by omega, by simp, rfl, Lib.hid (by rw [HN.out]; exact HO1.out), HB1.out⟩, by simp only [intOf]; omega⟩
            · have hup1 : st < hi := by omega
              have hup2 : decide (hi ≤ st) = false := by simpa using hup1
              by_cases hq : sk = 2
              · subst hq
                have HN := Lib.hid (show foldI true (rsL l fr hi (k + 1)) [] = insS true ⟨st, 2, sc, se, sv, sn⟩ acc by rw [HSt2.out]; unfold rsIns; rw [if_neg (fun h => by have : st < fr := h.2.1; omega), if_pos ⟨hlo1, hup1⟩, if_neg (fun h => by have : (2 : Int) = 3 := h.1; omega)]; rfl)
                have CI := Lib.hid fun (W' : World) (A'' : Option Addr) (n'' c'' : Nat) (h' : SA evE W' A'' n'' c'' acc) (hm' : n'' ≤ 34359738368) => ins_step h' HAI.out ⟨st, 2, sc, se, sv, sn⟩ HsI.out hm'
                dsimp only [evA] at CI
                go_wp2_with (first
                  | (go_at_call 32; (refine (CI.out _ _ _ _ HO1.out (by have := HNL.out; omega)).mono ?_); rintro e w2 ⟨A2, n2, c2, rfl, h2, hn2, hI2, hh2⟩;
                      (replace hbx := hbx.belowAll hh2); (have d0 : w2.cell? ⟨wr.heap.size, 0, none⟩ = some (.int .i64 st) := hbx.cell 0); (have d1 : w2.cell? ⟨wr.heap.size, 1, none⟩ = some (.int .i64 2) := hbx.cell 1); (have d2 : w2.cell? ⟨wr.heap.size, 2, none⟩ = some (.int .i64 sc) := hbx.cell 2); (have d3 : w2.cell? ⟨wr.heap.size, 3, none⟩ = some (.int .i64 se) := hbx.cell 3); (have d4 : w2.cell? ⟨wr.heap.size, 4, none⟩ = some (.int .i64 sv) := hbx.cell 4); (have d5 : w2.cell? ⟨wr.heap.size, 5, none⟩ = some (.int .i64 sn) := hbx.cell 5); (have HB2 := Lib.hid (Bel.on0 HB1.out hh2)); (have HO2 := Lib.hid h2); (have HN2 := Lib.hid hn2); (have HI2 := Lib.hid hI2); (clear h2 hh2 hn2 hI2 CI)))
                exact ⟨⟨k + 1, _, _, _, by omega, by simp, rfl, Lib.hid (by rw [HN.out]; exact HO2.out), HB2.out⟩, by simp only [intOf]; omega⟩
              · have hq1 : (sk == 2) = false := by simpa using hq
                by_cases hq3 : sk = 3
                · subst hq3
                  have CE := rend_any (some ⟨b, o, none⟩) n c k l
                  obtain ⟨z, hz⟩ : ∃ z, endS l k = z := ⟨_, rfl⟩
                  have hEO := endS_ok (l := l) (on := k)
                  rw [hz] at CE hEO
                  have HZ := Lib.hid hz
                  have HCE := Lib.hid fun W' (hb' : Below w.heap.size w W') => CE W' (HS.out.below hb') hlt (by omega)
                  clear CE hz
                  rcases hEO with rfl | ⟨j, rfl, hjl⟩
                  · have HEB := Lib.hid (show endsB l hi (endS l k) = false by rw [HZ.out]; rfl)
                    have HN := Lib.hid (show foldI true (rsL l fr hi (k + 1)) [] = insS true (offEv hi ⟨st, 3, sc, se, sv, sn⟩) (insS true ⟨st, 3, sc, se, sv, sn⟩ acc) by rw [HSt2.out]; unfold rsIns; rw [if_neg (fun h => by have : st < fr := h.2.1; omega), if_pos ⟨hlo1, hup1⟩, if_pos ⟨rfl, HEB.out⟩]; rfl)
                    have CI := Lib.hid fun (W' : World) (A'' : Option Addr) (n'' c'' : Nat) (h' : SA evE W' A'' n'' c'' acc) (hm' : n'' ≤ 34359738368) => ins_step h' HAI.out ⟨st, 3, sc, se, sv, sn⟩ HsI.out hm'
                    dsimp only [evA] at CI
                    have CJ := Lib.hid fun (W' : World) (A'' : Option Addr) (n'' c'' : Nat) (hI' : ∀ e ∈ insS true ⟨st, 3, sc, se, sv, sn⟩ acc, EvI e) (h' : SA evE W' A'' n'' c'' (insS true ⟨st, 3, sc, se, sv, sn⟩ acc)) (hm' : n'' ≤ 34359738368) => ins_step h' hI' (offEv hi ⟨st, 3, sc, se, sv, sn⟩) (off_evI HsI.out hhi) hm'
                    dsimp only [evA, offEv] at CJ
                    clear hq
                    go_wp2_with (first
                      | (go_at_call 32; (refine (CI.out _ _ _ _ HO1.out (by have := HNL.out; omega)).mono ?_); rintro e w2 ⟨A2, n2, c2, rfl, h2, hn2, hI2, hh2⟩;
                          (replace hbx := hbx.belowAll hh2); (have d0 : w2.cell? ⟨wr.heap.size, 0, none⟩ = some (.int .i64 st) := hbx.cell 0); (have d1 : w2.cell? ⟨wr.heap.size, 1, none⟩ = some (.int .i64 3) := hbx.cell 1); (have d2 : w2.cell? ⟨wr.heap.size, 2, none⟩ = some (.int .i64 sc) := hbx.cell 2); (have d3 : w2.cell? ⟨wr.heap.size, 3, none⟩ = some (.int .i64 se) := hbx.cell 3); (have d4 : w2.cell? ⟨wr.heap.size, 4, none⟩ = some (.int .i64 sv) := hbx.cell 4); (have d5 : w2.cell? ⟨wr.heap.size, 5, none⟩ = some (.int .i64 sn) := hbx.cell 5); (have HB2 := Lib.hid (Bel.on0 HB1.out hh2)); (have HO2 := Lib.hid h2); (have HN2 := Lib.hid hn2); (have HI2 := Lib.hid hI2); (clear h2 hh2 hn2 hI2 CI))
                      | (go_at_call 38; ((with_reducible refine (HCE.out _ HB2.out).mono ?_); rintro e w3 ⟨rfl, hh3⟩);
                          (replace hbx := hbx.belowAll hh3); (have e0 : w3.cell? ⟨wr.heap.size, 0, none⟩ = some (.int .i64 st) := hbx.cell 0); (have e1 : w3.cell? ⟨wr.heap.size, 1, none⟩ = some (.int .i64 3) := hbx.cell 1); (have e2 : w3.cell? ⟨wr.heap.size, 2, none⟩ = some (.int .i64 sc) := hbx.cell 2); (have e3 : w3.cell? ⟨wr.heap.size, 3, none⟩ = some (.int .i64 se) := hbx.cell 3); (have e4 : w3.cell? ⟨wr.heap.size, 4, none⟩ = some (.int .i64 sv) := hbx.cell 4); (have e5 : w3.cell? ⟨wr.heap.size, 5, none⟩ = some (.int .i64 sn) := hbx.cell 5); (have HB3 := Lib.hid (Bel.on0 HB2.out hh3)); (have HO3 := Lib.hid (HO2.out.below hh3)); (clear hh3))
                      | (go_at_call 32; (refine (CJ.out _ _ _ _ HI2.out HO3.out (by have := HNL.out; have := HN2.out; omega)).mono ?_); rintro e w4 ⟨A4, n4, c4, rfl, h4, _, _, hh4⟩;
                          (have HB4 := Lib.hid (Bel.on0 HB3.out hh4)); (have HO4 := Lib.hid h4); (clear h4 hh4)))
                    exact ⟨⟨k + 1, _, _, _, by omega, by simp, rfl, Lib.hid (by rw [HN.out]; exact HO4.out), HB4.out⟩, by simp only [intOf]; omega⟩
                  · obtain ⟨y, hy⟩ : ∃ y, l[j] = y := ⟨_, rfl⟩
                    have HY := Lib.hid fun W' (hb' : Below w.heap.size w W') => ev_at (HS.out.below hb') hjl hy
                    have hEB : endsB l hi (endS l k) = decide (y.tick < hi) := by
                      rw [HZ.out]; unfold endsB
                      rw [Int.toNat_natCast, List.getElem?_eq_getElem hjl, hy]
                      simp
                    have hj0 : (0 : Int) ≤ (j : Int) := by omega
                    have hj1 : (j : Int) < (n : Int) := by have := HL.out; omega
                    have hj2 : decide ((j : Int) < 0) = false := by simp
                    clear hy
                    by_cases hyt : y.tick < hi
                    · have HEB := Lib.hid (show endsB l hi (endS l k) = true by rw [hEB]; simpa using hyt)
                      clear hEB
                      have HN := Lib.hid (show foldI true (rsL l fr hi (k + 1)) [] = insS true ⟨st, 3, sc, se, sv, sn⟩ acc by rw [HSt2.out]; unfold rsIns; rw [if_neg (fun h => by have : st < fr := h.2.1; omega), if_pos ⟨hlo1, hup1⟩, if_neg (fun h => by have := h.2; rw [HEB.out] at this; cases this)]; rfl)
                      have CI := Lib.hid fun (W' : World) (A'' : Option Addr) (n'' c'' : Nat) (h' : SA evE W' A'' n'' c'' acc) (hm' : n'' ≤ 34359738368) => ins_step h' HAI.out ⟨st, 3, sc, se, sv, sn⟩ HsI.out hm'
                      dsimp only [evA] at CI
                      have hy4 : decide (hi ≤ y.tick) = false := by simpa using hyt
                      obtain ⟨yt, hyt2⟩ : ∃ yt, y.tick = yt := ⟨_, rfl⟩
                      rw [hyt2] at hy4 hyt
                      have HYT := Lib.hid hyt2
                      clear hyt2 hq
                      go_wp2_with (first
                        | (go_at_call 32; (refine (CI.out _ _ _ _ HO1.out (by have := HNL.out; omega)).mono ?_); rintro e w2 ⟨A2, n2, c2, rfl, h2, hn2, hI2, hh2⟩;
                            (replace hbx := hbx.belowAll hh2); (have d0 : w2.cell? ⟨wr.heap.size, 0, none⟩ = some (.int .i64 st) := hbx.cell 0); (have d1 : w2.cell? ⟨wr.heap.size, 1, none⟩ = some (.int .i64 3) := hbx.cell 1); (have d2 : w2.cell? ⟨wr.heap.size, 2, none⟩ = some (.int .i64 sc) := hbx.cell 2); (have d3 : w2.cell? ⟨wr.heap.size, 3, none⟩ = some (.int .i64 se) := hbx.cell 3); (have d4 : w2.cell? ⟨wr.heap.size, 4, none⟩ = some (.int .i64 sv) := hbx.cell 4); (have d5 : w2.cell? ⟨wr.heap.size, 5, none⟩ = some (.int .i64 sn) := hbx.cell 5); (have HB2 := Lib.hid (Bel.on0 HB1.out hh2)); (have HO2 := Lib.hid h2); (have HN2 := Lib.hid hn2); (have HI2 := Lib.hid hI2); (clear h2 hh2 hn2 hI2 CI))
                        | (go_at_call 38; ((with_reducible refine (HCE.out _ HB2.out).mono ?_); rintro e w3 ⟨rfl, hh3⟩);
                            (replace hbx := hbx.belowAll hh3); (have e0 : w3.cell? ⟨wr.heap.size, 0, none⟩ = some (.int .i64 st) := hbx.cell 0); (have e1 : w3.cell? ⟨wr.heap.size, 1, none⟩ = some (.int .i64 3) := hbx.cell 1); (have e2 : w3.cell? ⟨wr.heap.size, 2, none⟩ = some (.int .i64 sc) := hbx.cell 2); (have e3 : w3.cell? ⟨wr.heap.size, 3, none⟩ = some (.int .i64 se) := hbx.cell 3); (have e4 : w3.cell? ⟨wr.heap.size, 4, none⟩ = some (.int .i64 sv) := hbx.cell 4); (have e5 : w3.cell? ⟨wr.heap.size, 5, none⟩ = some (.int .i64 sn) := hbx.cell 5); (have HB3 := Lib.hid (Bel.on0 HB2.out hh3)); (have HO3 := Lib.hid (HO2.out.below hh3)); (clear hh3); (obtain ⟨b9, o9, e9, _, y0, _⟩ := HY.out _ HB3.out); (injection e9 with e9); (injection e9 with e7 e8 _); (subst e7 e8); (rw [HYT.out] at y0)))
                      exact ⟨⟨k + 1, _, _, _, by omega, by simp, rfl, Lib.hid (by rw [HN.out]; exact HO3.out), HB3.out⟩, by simp only [intOf]; omega⟩
                    · have HEB := Lib.hid (show endsB l hi (endS l k) = false by rw [hEB]; simpa using hyt)
                      clear hEB
                      have HN := Lib.hid (show foldI true (rsL l fr hi (k + 1)) [] = insS true (offEv hi ⟨st, 3, sc, se, sv, sn⟩) (insS true ⟨st, 3, sc, se, sv, sn⟩ acc) by rw [HSt2.out]; unfold rsIns; rw [if_neg (fun h => by have : st < fr := h.2.1; omega), if_pos ⟨hlo1, hup1⟩, if_pos ⟨rfl, HEB.out⟩]; rfl)
                      have CI := Lib.hid fun (W' : World) (A'' : Option Addr) (n'' c'' : Nat) (h' : SA evE W' A'' n'' c'' acc) (hm' : n'' ≤ 34359738368) => ins_step h' HAI.out ⟨st, 3, sc, se, sv, sn⟩ HsI.out hm'
                      dsimp only [evA] at CI
                      have CJ := Lib.hid fun (W' : World) (A'' : Option Addr) (n'' c'' : Nat) (hI' : ∀ e ∈ insS true ⟨st, 3, sc, se, sv, sn⟩ acc, EvI e) (h' : SA evE W' A'' n'' c'' (insS true ⟨st, 3, sc, se, sv, sn⟩ acc)) (hm' : n'' ≤ 34359738368) => ins_step h' hI' (offEv hi ⟨st, 3, sc, se, sv, sn⟩) (off_evI HsI.out hhi) hm'
                      dsimp only [evA, offEv] at CJ
                      have hy3 : hi ≤ y.tick := by omega
                      have hy4 : decide (hi ≤ y.tick) = true := by simpa using hy3
                      obtain ⟨yt, hyt2⟩ : ∃ yt, y.tick = yt := ⟨_, rfl⟩
                      rw [hyt2] at hy4 hyt hy3
                      have HYT := Lib.hid hyt2
                      clear hyt2 hq hyt
                      go_wp2_with (first
                        | (go_at_call 32; (refine (CI.out _ _ _ _ HO1.out (by have := HNL.out; omega)).mono ?_); rintro e w2 ⟨A2, n2, c2, rfl, h2, hn2, hI2, hh2⟩;
                            (replace hbx := hbx.belowAll hh2); (have d0 : w2.cell? ⟨wr.heap.size, 0, none⟩ = some (.int .i64 st) := hbx.cell 0); (have d1 : w2.cell? ⟨wr.heap.size, 1, none⟩ = some (.int .i64 3) := hbx.cell 1); (have d2 : w2.cell? ⟨wr.heap.size, 2, none⟩ = some (.int .i64 sc) := hbx.cell 2); (have d3 : w2.cell? ⟨wr.heap.size, 3, none⟩ = some (.int .i64 se) := hbx.cell 3); (have d4 : w2.cell? ⟨wr.heap.size, 4, none⟩ = some (.int .i64 sv) := hbx.cell 4); (have d5 : w2.cell? ⟨wr.heap.size, 5, none⟩ = some (.int .i64 sn) := hbx.cell 5); (have HB2 := Lib.hid (Bel.on0 HB1.out hh2)); (have HO2 := Lib.hid h2); (have HN2 := Lib.hid hn2); (have HI2 := Lib.hid hI2); (clear h2 hh2 hn2 hI2 CI))
                        | (go_at_call 38; ((with_reducible refine (HCE.out _ HB2.out).mono ?_); rintro e w3 ⟨rfl, hh3⟩);
                            (replace hbx := hbx.belowAll hh3); (have e0 : w3.cell? ⟨wr.heap.size, 0, none⟩ = some (.int .i64 st) := hbx.cell 0); (have e1 : w3.cell? ⟨wr.heap.size, 1, none⟩ = some (.int .i64 3) := hbx.cell 1); (have e2 : w3.cell? ⟨wr.heap.size, 2, none⟩ = some (.int .i64 sc) := hbx.cell 2); (have e3 : w3.cell? ⟨wr.heap.size, 3, none⟩ = some (.int .i64 se) := hbx.cell 3); (have e4 : w3.cell? ⟨wr.heap.size, 4, none⟩ = some (.int .i64 sv) := hbx.cell 4); (have e5 : w3.cell? ⟨wr.heap.size, 5, none⟩ = some (.int .i64 sn) := hbx.cell 5); (have HB3 := Lib.hid (Bel.on0 HB2.out hh3)); (have HO3 := Lib.hid (HO2.out.below hh3)); (clear hh3); (obtain ⟨b9, o9, e9, _, y0, _⟩ := HY.out _ HB3.out); (injection e9 with e9); (injection e9 with e7 e8 _); (subst e7 e8); (rw [HYT.out] at y0))
                        | (go_at_call 32; (refine (CJ.out _ _ _ _ HI2.out HO3.out (by have := HNL.out; have := HN2.out; omega)).mono ?_); rintro e w4 ⟨A4, n4, c4, rfl, h4, _, _, hh4⟩;
                            (have HB4 := Lib.hid (Bel.on0 HB3.out hh4)); (have HO4 := Lib.hid h4); (clear h4 hh4)))
                      exact ⟨⟨k + 1, _, _, _, by omega, by simp, rfl, Lib.hid (by rw [HN.out]; exact HO4.out), HB4.out⟩, by simp only [intOf]; omega⟩
                · have hq3' : (sk == 3) = false := by simpa using hq3
                  have HN := Lib.hid (show foldI true (rsL l fr hi (k + 1)) [] = insS true ⟨st, sk, sc, se, sv, sn⟩ acc by rw [HSt2.out]; unfold rsIns; rw [if_neg (fun h => by have : st < fr := h.2.1; omega), if_pos ⟨hlo1, hup1⟩, if_neg (fun h => hq3 h.1)]; rfl)
                  have CI := Lib.hid fun (W' : World) (A'' : Option Addr) (n'' c'' : Nat) (h' : SA evE W' A'' n'' c'' acc) (hm' : n'' ≤ 34359738368) => ins_step h' HAI.out ⟨st, sk, sc, se, sv, sn⟩ HsI.out hm'
                  dsimp only [evA] at CI
                  clear hq hq3
                  go_wp2_with (first
                    | (go_at_call 32; (refine (CI.out _ _ _ _ HO1.out (by have := HNL.out; omega)).mono ?_); rintro e w2 ⟨A2, n2, c2, rfl, h2, hn2, hI2, hh2⟩;
                        (replace hbx := hbx.belowAll hh2); (have d0 : w2.cell? ⟨wr.heap.size, 0, none⟩ = some (.int .i64 st) := hbx.cell 0); (have d1 : w2.cell? ⟨wr.heap.size, 1, none⟩ = some (.int .i64 sk) := hbx.cell 1); (have d2 : w2.cell? ⟨wr.heap.size, 2, none⟩ = some (.int .i64 sc) := hbx.cell 2); (have d3 : w2.cell? ⟨wr.heap.size, 3, none⟩ = some (.int .i64 se) := hbx.cell 3); (have d4 : w2.cell? ⟨wr.heap.size, 4, none⟩ = some (.int .i64 sv) := hbx.cell 4); (have d5 : w2.cell? ⟨wr.heap.size, 5, none⟩ = some (.int .i64 sn) := hbx.cell 5); (have HB2 := Lib.hid (Bel.on0 HB1.out hh2)); (have HO2 := Lib.hid h2); (have HN2 := Lib.hid hn2); (have HI2 := Lib.hid hI2); (clear h2 hh2 hn2 hI2 CI)))
                  exact ⟨⟨k + 1, _, _, _, by omega, by simp, rfl, Lib.hid (by rw [HN.out]; exact HO2.out), HB2.out⟩, by simp only [intOf]; omega⟩
        · obtain rfl : k = n := by omega
          have HN := Lib.hid (show rsL l fr hi k = rsL l fr hi l.length by rw [HL.out])
          have hOn := hO.out.n_eq
          by_cases hgt : 4096 < n'
          · have HZ := Lib.hid (show rsliceM l fr hi = ([], 2) by rw [HR.out, if_pos (by rw [← HN.out]; omega)])
            go_wp2
            exact bodyPost_ret (v := .tuple #[.slice none 0 0, .int .i64 2]) (by simp [results, Try.results22, go_sem]) rfl ⟨none, 0, 0, by rw [HZ.out], by rw [HZ.out]; exact SA.nil, hB⟩
          · have HZ := Lib.hid (show rsliceM l fr hi = (foldI true (rsL l fr hi k) [], 0) by rw [HR.out, if_neg (by rw [← HN.out]; omega), HN.out])
            have hgt' : (n' : Int) ≤ 4096 := by omega
            go_wp2
            exact bodyPost_ret (v := .tuple #[.slice A' n' c', .int .i64 0]) (by simp [results, Try.results22, go_sem]) rfl ⟨A', n', c', by rw [HZ.out], by rw [HZ.out]; exact hO.out, hB⟩
    · have HR := Lib.hid (show rsliceM l fr hi = ([], 1) by unfold rsliceM; rw [if_neg (by simpa using hc), if_pos hp])
      have hc2 := not_ptOk hp
      clear hp hc h hI hm
      rcases hc2 with h1 | ⟨h1, h2⟩ | ⟨h1, h2, h3⟩
      all_goals
        go_enter Try.func22, Try.ntmps22
        go_wp2_with (go_at_call 13; ((with_reducible refine C.mono ?_); rintro e w1 ⟨rfl, hh1⟩))
        exact bodyPost_ret (v := .tuple #[.slice none 0 0, .int .i64 1]) (by simp [results, Try.results22, go_sem]) rfl ⟨none, 0, 0, by rw [HR.out], by rw [HR.out]; exact SA.nil, hh1⟩
  · have HR := Lib.hid (show rsliceM l fr hi = ([], checkM l) by unfold rsliceM; rw [if_pos hc])
    have hc1 : (checkM l != 0) = true := by simpa using hc
    obtain ⟨z, hz⟩ : ∃ z, checkM l = z := ⟨_, rfl⟩
    rw [hz] at HR C hc1
    clear hc hz h hI
    go_enter Try.func22, Try.ntmps22
    go_wp2_with (go_at_call 13; ((with_reducible refine C.mono ?_); rintro e w1 ⟨rfl, hh1⟩))
    exact bodyPost_ret (v := .tuple #[.slice none 0 0, .int .i64 z]) (by simp [results, Try.results22, go_sem]) rfl ⟨none, 0, 0, by rw [HR.out], by rw [HR.out]; exact SA.nil, hh1⟩
end Go.Proofs.Ytmfdflfjllpceaa
