/- Layer 50: midi's Resolve. -/
import Derived.Test.YtmfdflfjllpceaaZTmI
import Derived.Test.YtmfdflfjllpceaaZMvU
/- Layer 50: midi's Resolve. -/
namespace Go.Proofs.Ytmfdflfjllpceaa
open Go.RowKit

/-- An event laid into samples. -/
noncomputable def mapE (m : List Tm) (x : Ev) : Ev := ⟨(sampT m x.tick).1, x.kind, x.ch, x.key, x.val, x.no⟩
noncomputable def mapL (m : List Tm) (l : List Ev) (k : Nat) : List Ev := (l.take k).map (mapE m)
theorem mapL_succ {m : List Tm} {l : List Ev} {k : Nat} {x : Ev} (h : l[k]? = some x) : mapL m l (k + 1) = mapL m l k ++ [mapE m x] := by
  unfold mapL
  rw [List.take_add_one, h, List.map_append]
  rfl
/-- The first code that a sample gives. -/
noncomputable def badE (m : List Tm) (l : List Ev) : Option Ev := l.find? fun x => decide ((sampT m x.tick).2 ≠ 0)
theorem badE_some {m : List Tm} {l : List Ev} {k : Nat} {x : Ev} (h : l[k]? = some x) (hx : (sampT m x.tick).2 ≠ 0) (hb : ∀ (j : Nat) (y : Ev), j < k → l[j]? = some y → (sampT m y.tick).2 = 0) : badE m l = some x := by
  unfold badE
  induction l generalizing k with
  | nil => simp at h
  | cons y l ih =>
    cases k with
    | zero =>
      rw [List.getElem?_cons_zero] at h; injection h with h; subst h
      rw [List.find?_cons_of_pos (by simpa using hx)]
    | succ k =>
      rw [List.getElem?_cons_succ] at h
      have h0 := hb 0 y (by omega) rfl
      rw [List.find?_cons_of_neg (by simpa using h0)]
      exact ih h fun j z hj hz => hb (j + 1) z (by omega) (by rw [List.getElem?_cons_succ]; exact hz)
theorem badE_none {m : List Tm} {l : List Ev} (hb : ∀ (j : Nat) (y : Ev), l[j]? = some y → (sampT m y.tick).2 = 0) : badE m l = none := by
  unfold badE
  rw [List.find?_eq_none]
  intro y hy
  obtain ⟨j, hj⟩ := List.mem_iff_getElem?.1 hy
  simp [hb j y hj]
noncomputable def resB (m : List Tm) (l : List Ev) : List Ev × Int :=
  match badE m l with
  | some x => ([], (sampT m x.tick).2)
  | none => (csort (l.map (mapE m)), 0)
/-- What Resolve answers. -/
noncomputable def resM (m : List Tm) (l : List Ev) : List Ev × Int :=
  if checkM l ≠ 0 then ([], checkM l) else if checkT m ≠ 0 then ([], 90) else resB m l
theorem atT_nonneg {m : List Tm} (hm : MapOk m) {t : Int} (h1 : t ≤ 16777216) : 0 ≤ atT m t := by
  unfold atT
  split
  · rename_i h
    obtain ⟨k, s, q, hp, a1, a2, e⟩ := h.choose_spec
    rw [e]
    have h2 := posT_le hm (Nat.le_of_lt hp.lt)
    have h3 := segQ_bounds (hm.seg hp a1 h1 a2)
    omega
  · exact Int.le_refl _
theorem sampT_I64 {m : List Tm} (hm : MapOk m) (t : Int) : I64 (sampT m t).1 := by
  have h90 : I64 (0 : Int) := by unfold I64; omega
  unfold sampT
  split
  · exact h90
  · split
    · exact h90
    · split
      · exact h90
      · have := atT_nonneg hm (t := t) (by omega)
        unfold I64
        dsimp only
        omega
theorem mapE_evI {m : List Tm} (hm : MapOk m) {x : Ev} (hx : EvI x) : EvI (mapE m x) := by
  intro z hz
  have h2 := sampT_I64 hm x.tick
  simp only [mapE, ekey, List.mem_cons, List.not_mem_nil, or_false] at hz
  rcases hz with rfl | rfl | rfl | rfl | rfl | rfl
  · exact h2
  all_goals exact hx _ (by simp [ekey])
end Go.Proofs.Ytmfdflfjllpceaa

/- Layer 50: midi's Resolve: the walk. -/
namespace Go.Proofs.Ytmfdflfjllpceaa
open Go.RowKit

theorem mapL_evI {m : List Tm} (hm : MapOk m) {l : List Ev} (hI : ∀ e ∈ l, EvI e) (k : Nat) : ∀ e ∈ mapL m l k, EvI e := by
  intro e he
  unfold mapL at he
  obtain ⟨x, hx, rfl⟩ := List.mem_map.1 he
  exact mapE_evI hm (hI x (List.mem_of_mem_take hx))
theorem mapL_len (m : List Tm) (l : List Ev) (k : Nat) : (mapL m l k).length ≤ k := by
  unfold mapL
  rw [List.length_map, List.length_take]
  omega
set_option maxHeartbeats 8000000 in
set_option maxRecDepth 100000 in
theorem mresolve_any (A1 A : Option Addr) (n1 c1 n c : Nat) (m : List Tm) (l : List Ev) (w : World) (hT : SA tmE w A1 n1 c1 m) (h : SA evE w A n c l) (hI : ∀ e ∈ l, EvI e) :
    Calls Try.prog 17 #[.slice A1 n1 c1, .slice A n c] w (ERet w (resM m l)) := by
  have C := mcheck_any A n c l w h
  have CT := Lib.hid fun (w1 : World) (hb : Below w.heap.size w w1) => tcheck_any A1 n1 c1 m w1 (hT.below hb)
  by_cases hc : checkM l = 0
  · have hm : n ≤ 4096 := by
      rw [← h.n_eq]
      unfold checkM at hc
      by_cases h4 : 4096 < l.length
      · rw [if_pos h4] at hc; omega
      · omega
    rw [hc] at C
    by_cases hct : checkT m = 0
    · have hmo := mapOk_of hct
      rw [hct] at CT
      have HL := Lib.hid h.n_eq
      have HH := Lib.hid h
      have HT := Lib.hid hT
      have HI := Lib.hid hI
      have HMO := Lib.hid hmo
      have HR := Lib.hid (show resM m l = resB m l by unfold resM; rw [if_neg (by simpa using hc), if_neg (by simpa using hct)])
      clear h hT hI hmo hc hct
      go_enter Try.func17, Try.ntmps17
      go_wp2_with (first
        | (go_at_call 12; ((with_reducible refine C.mono ?_); rintro e w1 ⟨rfl, hh1⟩))
        | (go_at_call 33; refine (CT.out _ hh1).mono ?_; rintro e w2 ⟨rfl, hh2⟩; have hB0 := Bel.on0 hh1 hh2; clear hh2))
      go_loopw [4, 20] (fun v i wr => ∃ (k : Nat) (A' : Option Addr) (c' : Nat), k ≤ n ∧ v = .slice A' k c' ∧ i = .int .i64 (k : Int) ∧ Hid (OA evE wr w.heap.size A' k c' (mapL m l k)) ∧ Hid (∀ (j : Nat) (y : Ev), j < k → l[j]? = some y → (sampT m y.tick).2 = 0) ∧ Below w.heap.size w wr) (fun _ i _ => n - (intOf i).toNat)
      case atStart => exact ⟨0, none, 0, Nat.zero_le _, rfl, rfl, Lib.hid (OA.nil _ _ _), Lib.hid (fun j y hj _ => by omega), hB0⟩
      case round =>
        obtain ⟨k, A', c', hk, rfl, rfl, HO, HP, hB⟩ := hrel
        by_cases hlt : k < n
        · have hkl : k < l.length := by rw [HL.out]; exact hlt
          obtain ⟨s, hs⟩ : ∃ s, l[k] = s := ⟨_, rfl⟩
          have hs' : l[k]? = some s := by rw [List.getElem?_eq_getElem hkl, hs]
          obtain ⟨bb, oo, hAe, _, a0, a1, a2, a3, a4, a5⟩ := ev_at (HH.out.below hB) hkl hs
          have HN := Lib.hid (mapL_succ (m := m) hs')
          have HS := Lib.hid hs'
          subst hAe
          obtain ⟨st, sk, sc, se, sv, sn⟩ := s
          dsimp only at a0 a1 a2 a3 a4 a5
          have g3 : (0 : Int) ≤ (k : Int) := by omega
          have g4 : (k : Int) < (n : Int) := by omega
          have gw : IntKind.i64.wrap ((k : Int) + 1) = (k : Int) + 1 := IntWalk.i64_in _ (by omega)
          have hbx := Blk.new wr 40 #[.int .i64 st, .int .i64 sk, .int .i64 sc, .int .i64 se, .int .i64 sv, .int .i64 sn]
          have hb1 := Bel.al hB (.cells #[.int .i64 st, .int .i64 sk, .int .i64 sc, .int .i64 se, .int .i64 sv, .int .i64 sn] 40)
          have CS := Lib.hid fun (w3 : World) (hb : Below w.heap.size w w3) => tsample_any A1 n1 c1 m st w3 (HT.out.below hb)
          obtain ⟨v, hv⟩ : ∃ v, (sampT m st).1 = v := ⟨_, rfl⟩
          obtain ⟨z, hz⟩ : ∃ z, (sampT m st).2 = z := ⟨_, rfl⟩
          rw [hv, hz] at CS
          have HV := Lib.hid hv
          have HZ := Lib.hid hz
          clear hs hs' hkl hv hz
          by_cases h0 : z = 0
          · subst h0
            go_wp2_with (first
              | (go_at_call 25; refine (CS.out _ hb1).mono ?_; rintro e w3 ⟨rfl, hh3⟩;
                  (have hx3 := hbx.belowAll hh3);
                  (have hb3 := Bel.on0 hb1 hh3);
                  (have hb4 : Below w.heap.size w (w3.setCell ⟨wr.heap.size, 0, none⟩ (.int .i64 v)) := hb3.setCell (by show w.heap.size ≤ wr.heap.size; exact hB.size) _);
                  (have ho4 : OA evE (w3.setCell ⟨wr.heap.size, 0, none⟩ (.int .i64 v)) w.heap.size A' k c' (mapL m l k) := ((HO.out.alloc _).below hh3).same (fun a ha => Below.heap_setCell _ _ _ _ (by have := (HO.out.blk ha).2; show a.block ≠ wr.heap.size; omega)));
                  (have hs4 := SA.lit (e := evE) (l := [mapE m ⟨st, sk, sc, se, sv, sn⟩]) (n := 1) (cs := #[.int .i64 v, .int .i64 sk, .int .i64 sc, .int .i64 se, .int .i64 sv, .int .i64 sn]) (w3.setCell ⟨wr.heap.size, 0, none⟩ (.int .i64 v)) rfl (by rw [Enc.cells_one]; show _ = #[Value.int .i64 (sampT m st).1, .int .i64 sk, .int .i64 sc, .int .i64 se, .int .i64 sv, .int .i64 sn]; rw [HV.out]) (by omega));
                  (have hz4 : (w3.setCell ⟨wr.heap.size, 0, none⟩ (.int .i64 v)).heap.size = w3.heap.size := by simp [World.setCell]);
                  (rw [hz4] at hs4);
                  (obtain ⟨A2, c2, W2, eA, hO2, hB2, _⟩ := (ho4.alloc _).app hs4 (by have h5 := hb4.size; rw [World.size_alloc]; omega) (by omega));
                  (have HO2 := Lib.hid hO2);
                  (have HB2 := Lib.hid ((Bel.al hb4 _).trans hB2));
                  (have d0 : w3.cell? ⟨wr.heap.size, 0, none⟩ = some (.int .i64 st) := hx3.cell 0);
                  (have d1 : w3.cell? ⟨wr.heap.size, 1, none⟩ = some (.int .i64 sk) := hx3.cell 1);
                  (have d2 : w3.cell? ⟨wr.heap.size, 2, none⟩ = some (.int .i64 sc) := hx3.cell 2);
                  (have d3 : w3.cell? ⟨wr.heap.size, 3, none⟩ = some (.int .i64 se) := hx3.cell 3);
                  (have d4 : w3.cell? ⟨wr.heap.size, 4, none⟩ = some (.int .i64 sv) := hx3.cell 4);
                  (have d5 : w3.cell? ⟨wr.heap.size, 5, none⟩ = some (.int .i64 sn) := hx3.cell 5);
                  (have f0 := hx3.frozen 0);
                  (clear hx3 hh3 hb3 hb4 ho4 hs4 hz4 hO2 hB2))
              | (at_builtin; refine wpList_append_eq (v1 := .slice A' k c') (v2 := .slice (some ⟨w3.heap.size, 0, none⟩) 1 1) rfl (.tmp 35) (.tmp 37) 22 rfl rfl rfl eA ?_; clear eA))
            refine ⟨⟨k + 1, A2, c2, by omega, rfl, by simp, by rw [HN.out]; exact HO2, Lib.hid (fun j y hj hy => ?_), HB2.out⟩, by simp only [intOf]; omega⟩
            by_cases hjk : j < k
            · exact HP.out j y hjk hy
            · obtain rfl : j = k := by omega
              have h5 := HS.out
              rw [hy] at h5
              injection h5 with h5
              rw [h5]
              exact HZ.out
          · have h0' : (z != 0) = true := by simpa using h0
            have HRR := Lib.hid (show resM m l = ([], z) by
              rw [HR.out]
              unfold resB
              rw [badE_some HS.out (by rw [HZ.out]; exact h0) HP.out]
              show ([], (sampT m st).2) = _
              rw [HZ.out])
            clear h0
            go_wp2_with (first
              | (go_at_call 25; refine (CS.out _ hb1).mono ?_; rintro e w3 ⟨rfl, hh3⟩;
                  (have hx3 := hbx.belowAll hh3);
                  (have hb3 := Bel.on0 hb1 hh3);
                  (have hb4 : Below w.heap.size w (w3.setCell ⟨wr.heap.size, 0, none⟩ (.int .i64 v)) := hb3.setCell (by show w.heap.size ≤ wr.heap.size; exact hB.size) _);
                  (have HB4 := Lib.hid hb4);
                  (have d0 : w3.cell? ⟨wr.heap.size, 0, none⟩ = some (.int .i64 st) := hx3.cell 0);
                  (have f0 := hx3.frozen 0);
                  (clear hx3 hh3 hb3 hb4)))
            exact bodyPost_ret (v := .tuple #[.slice none 0 0, .int .i64 z]) (by simp [results, Try.results17, go_sem]) rfl ⟨none, 0, 0, by rw [HRR.out], by rw [HRR.out]; exact SA.nil, HB4.out⟩
        · obtain rfl : k = n := by omega
          have CSo := Lib.hid (sort_any A' k c' _ wr HO.out.sa (mapL_evI HMO.out HI.out k) (by omega))
          have CC := Lib.hid fun (w1 : World) (A : Option Addr) (B n c : Nat) (l : List Ev) => compact_any A B n c l w1
          have hfull : mapL m l k = l.map (mapE m) := by unfold mapL; rw [List.take_of_length_le (by rw [HL.out]; omega)]
          have HRR := Lib.hid (show resM m l = (compS (msort (mapL m l k)), 0) by
            rw [HR.out]
            unfold resB
            rw [badE_none (fun j y hj => HP.out j y (by have := (List.getElem?_eq_some_iff.1 hj).1; rw [HL.out] at this; exact this) hj), hfull]
            rfl)
          have HLm := Lib.hid (mapL_len m l k)
          clear hfull
          go_wp2_with (first
            | (go_at_call 15; (with_reducible refine CSo.out.mono ?_); rintro e w3 ⟨A3, n3, c3, rfl, ho3, hh3⟩)
            | (go_at_call 34; refine (CC.out _ _ _ _ _ _ ho3 (by have h1 := ho3.n_eq; rw [msort_len] at h1; have h2 := HLm.out; omega)).mono ?_; rintro e w4 ⟨A4, n4, c4, rfl, ho4, hh4⟩;
                (have HB4 := Lib.hid (Bel.on0 hB (hh3.trans hh4)));
                (have HO4 := Lib.hid ho4.sa);
                (clear ho4 hh4 hh3 ho3)))
          exact bodyPost_ret (v := .tuple #[.slice A4 n4 c4, .int .i64 0]) (by simp [results, Try.results17, go_sem]) rfl ⟨A4, n4, c4, by rw [HRR.out], by rw [HRR.out]; exact HO4.out, HB4.out⟩
    · have HR := Lib.hid (show resM m l = ([], 90) by unfold resM; rw [if_neg (by simpa using hc), if_pos (by simpa using hct)])
      rw [checkT_90 hct] at CT
      clear hct hc h hT hI
      go_enter Try.func17, Try.ntmps17
      go_wp2_with (first
        | (go_at_call 12; ((with_reducible refine C.mono ?_); rintro e w1 ⟨rfl, hh1⟩))
        | (go_at_call 33; refine (CT.out _ hh1).mono ?_; rintro e w2 ⟨rfl, hh2⟩; have hB0 := Bel.on0 hh1 hh2; clear hh2))
      exact bodyPost_ret (v := .tuple #[.slice none 0 0, .int .i64 90]) (by simp [results, Try.results17, go_sem]) rfl ⟨none, 0, 0, by rw [HR.out], by rw [HR.out]; exact SA.nil, hB0⟩
  · have HR := Lib.hid (show resM m l = ([], checkM l) by unfold resM; rw [if_pos hc])
    have hc1 : (checkM l != 0) = true := by simpa using hc
    obtain ⟨z, hz⟩ : ∃ z, checkM l = z := ⟨_, rfl⟩
    rw [hz] at HR C hc1
    clear hc hz h hT hI
    go_enter Try.func17, Try.ntmps17
    go_wp2_with (go_at_call 12; ((with_reducible refine C.mono ?_); rintro e w1 ⟨rfl, hh1⟩))
    exact bodyPost_ret (v := .tuple #[.slice none 0 0, .int .i64 z]) (by simp [results, Try.results17, go_sem]) rfl ⟨none, 0, 0, by rw [HR.out], by rw [HR.out]; exact SA.nil, hh1⟩
end Go.Proofs.Ytmfdflfjllpceaa

/- Layer 50: the reference's Resolve: the walk. -/
namespace Go.Proofs.Ytmfdflfjllpceaa
open Go.RowKit

set_option maxHeartbeats 8000000 in
set_option maxRecDepth 100000 in
theorem rresolve_any (A1 A : Option Addr) (n1 c1 n c : Nat) (m : List Tm) (l : List Ev) (w : World) (hT : SA tmE w A1 n1 c1 m) (h : SA evE w A n c l) (hI : ∀ e ∈ l, EvI e) :
    Calls Try.prog 18 #[.slice A1 n1 c1, .slice A n c] w (ERet w (resM m l)) := by
  have C := rcheck_any A n c l w h
  have CT := Lib.hid fun (w1 : World) (hb : Below w.heap.size w w1) => r9check_any A1 n1 c1 m w1 (hT.below hb)
  by_cases hc : checkM l = 0
  · have hm : n ≤ 4096 := by
      rw [← h.n_eq]
      unfold checkM at hc
      by_cases h4 : 4096 < l.length
      · rw [if_pos h4] at hc; omega
      · omega
    rw [hc] at C
    by_cases hct : checkT m = 0
    · have hmo := mapOk_of hct
      rw [hct] at CT
      have HL := Lib.hid h.n_eq
      have HH := Lib.hid h
      have HT := Lib.hid hT
      have HI := Lib.hid hI
      have HMO := Lib.hid hmo
      have HR := Lib.hid (show resM m l = resB m l by unfold resM; rw [if_neg (by simpa using hc), if_neg (by simpa using hct)])
      have hlen := h.len
      clear h hT hI hmo hc hct
      go_enter Try.func18, Try.ntmps18
      go_wp2_with (first
        | (go_at_call 13; ((with_reducible refine C.mono ?_); rintro e w1 ⟨rfl, hh1⟩))
        | (go_at_call 35; refine (CT.out _ hh1).mono ?_; rintro e w2 ⟨rfl, hh2⟩; have hB0 := Bel.on0 hh1 hh2; clear hh2))
      have hs0 := SA.lit (e := evE) (l := []) (n := 0) (cs := #[]) w2 rfl rfl (by omega)
      have hb0 := Bel.al hB0 (.cells #[] 40)
      go_loopw [7, 8] (fun o i wr => ∃ (k : Nat) (A' : Option Addr) (n' c' : Nat), k ≤ n ∧ i = .int .i64 k ∧ o = .slice A' n' c' ∧ Hid (SA evE wr A' n' c' (foldI true (mapL m l k) [])) ∧ Hid (∀ (j : Nat) (y : Ev), j < k → l[j]? = some y → (sampT m y.tick).2 = 0) ∧ Below w.heap.size w wr) (fun _ i _ => n - (intOf i).toNat)
      case atStart => exact ⟨0, _, 0, 0, Nat.zero_le _, rfl, rfl, Lib.hid hs0, Lib.hid (fun j y hj _ => by omega), hb0⟩
      case round =>
        clear hs0 hb0
        obtain ⟨k, A', n', c', hk, rfl, rfl, HO, HP, hB⟩ := hrel
        by_cases hlt : k < n
        · have hkl : k < l.length := by rw [HL.out]; exact hlt
          obtain ⟨s, hs⟩ : ∃ s, l[k] = s := ⟨_, rfl⟩
          have hs' : l[k]? = some s := by rw [List.getElem?_eq_getElem hkl, hs]
          obtain ⟨bb, oo, hAe, hbb, a0, a1, a2, a3, a4, a5⟩ := ev_at (HH.out.below hB) hkl hs
          have HN := Lib.hid (mapL_succ (m := m) hs')
          have HS := Lib.hid hs'
          have hn' : n' ≤ 34359738368 := by
            have h1 := foldI_len true (mapL m l k) []
            have h2 := mapL_len m l k
            rw [HO.out.n_eq] at h1
            simp at h1
            omega
          have hCI : ∀ e ∈ foldI true (mapL m l k) [], EvI e := foldI_evI (mapL_evI HMO.out HI.out k) (fun e he => by cases he)
          have hxI := mapE_evI HMO.out (HI.out s (List.mem_of_getElem? hs'))
          subst hAe
          obtain ⟨st, sk, sc, se, sv, sn⟩ := s
          dsimp only at a0 a1 a2 a3 a4 a5
          have g3 : (0 : Int) ≤ (k : Int) := by omega
          have g4 : (k : Int) < (n : Int) := by omega
          have hbx := Blk.new wr 40 #[.int .i64 st, .int .i64 sk, .int .i64 sc, .int .i64 se, .int .i64 sv, .int .i64 sn]
          have hb1 := Bel.al hB (.cells #[.int .i64 st, .int .i64 sk, .int .i64 sc, .int .i64 se, .int .i64 sv, .int .i64 sn] 40)
          have CS := Lib.hid fun (w3 : World) (hb : Below w.heap.size w w3) => rsample_any A1 n1 c1 m st w3 (HT.out.below hb)
          have hxe : mapE m ⟨st, sk, sc, se, sv, sn⟩ = ⟨(sampT m st).1, sk, sc, se, sv, sn⟩ := rfl
          rw [hxe] at hxI HN
          obtain ⟨v, hv⟩ : ∃ v, (sampT m st).1 = v := ⟨_, rfl⟩
          obtain ⟨z, hz⟩ : ∃ z, (sampT m st).2 = z := ⟨_, rfl⟩
          rw [hv, hz] at CS
          rw [hv] at hxI HN
          have HZ := Lib.hid hz
          have HCI := Lib.hid fun (w3 : World) (hb : Below (wr.alloc (.cells #[.int .i64 st, .int .i64 sk, .int .i64 sc, .int .i64 se, .int .i64 sv, .int .i64 sn] 40)).heap.size (wr.alloc (.cells #[.int .i64 st, .int .i64 sk, .int .i64 sc, .int .i64 se, .int .i64 sv, .int .i64 sn] 40)) w3) =>
            insert_at A' n' c' _ v sk sc se sv sn true (w3.setCell ⟨wr.heap.size, 0, none⟩ (.int .i64 v)) (HO.out.below ((Bel.on0 (Bel.al (Below.refl _ wr) _) hb).setCell (Nat.le_refl _) _)) hCI hxI hn'
          clear hs hs' hkl hv hz hCI hxI hn' hxe
          by_cases h0 : z = 0
          · subst h0
            go_wp2_with (first
              | (go_at_call 36; refine (CS.out _ hb1).mono ?_; rintro e w3 ⟨rfl, hh3⟩;
                  (have hx3 := hbx.belowAll hh3);
                  (have hb3 := Bel.on0 hb1 hh3);
                  (have hb4 : Below w.heap.size w (w3.setCell ⟨wr.heap.size, 0, none⟩ (.int .i64 v)) := hb3.setCell (by show w.heap.size ≤ wr.heap.size; exact hB.size) _);
                  (have d0 : w3.cell? ⟨wr.heap.size, 0, none⟩ = some (.int .i64 st) := hx3.cell 0);
                  (have d1 : w3.cell? ⟨wr.heap.size, 1, none⟩ = some (.int .i64 sk) := hx3.cell 1);
                  (have d2 : w3.cell? ⟨wr.heap.size, 2, none⟩ = some (.int .i64 sc) := hx3.cell 2);
                  (have d3 : w3.cell? ⟨wr.heap.size, 3, none⟩ = some (.int .i64 se) := hx3.cell 3);
                  (have d4 : w3.cell? ⟨wr.heap.size, 4, none⟩ = some (.int .i64 sv) := hx3.cell 4);
                  (have d5 : w3.cell? ⟨wr.heap.size, 5, none⟩ = some (.int .i64 sn) := hx3.cell 5);
                  (have f0 := hx3.frozen 0);
                  (have CI := HCI.out _ hh3);
                  (have HB4 := Lib.hid hb4);
                  (clear hx3 hh3 hb3 hb4))
              | (go_at_call 32; (with_reducible refine CI.mono ?_); rintro e w5 ⟨A5, n5, c5, rfl, h5, b5⟩; (have H5 := Lib.hid h5); (have HB5 := Lib.hid (Bel.on0 HB4.out b5)); (clear h5 b5 CI)))
            refine ⟨⟨k + 1, A5, n5, c5, by omega, by simp, rfl, by rw [HN.out, foldI_snoc]; exact H5, Lib.hid (fun j y hj hy => ?_), HB5.out⟩, by simp only [intOf]; omega⟩
            by_cases hjk : j < k
            · exact HP.out j y hjk hy
            · obtain rfl : j = k := by omega
              have h5 := HS.out
              rw [hy] at h5
              injection h5 with h5
              rw [h5]
              exact HZ.out
          · have h0' : (z != 0) = true := by simpa using h0
            have HRR := Lib.hid (show resM m l = ([], z) by
              rw [HR.out]
              unfold resB
              rw [badE_some HS.out (by rw [HZ.out]; exact h0) HP.out]
              show ([], (sampT m st).2) = _
              rw [HZ.out])
            clear h0 HCI
            go_wp2_with (first
              | (go_at_call 36; refine (CS.out _ hb1).mono ?_; rintro e w3 ⟨rfl, hh3⟩;
                  (have hx3 := hbx.belowAll hh3);
                  (have hb3 := Bel.on0 hb1 hh3);
                  (have hb4 : Below w.heap.size w (w3.setCell ⟨wr.heap.size, 0, none⟩ (.int .i64 v)) := hb3.setCell (by show w.heap.size ≤ wr.heap.size; exact hB.size) _);
                  (have HB4 := Lib.hid hb4);
                  (have d0 : w3.cell? ⟨wr.heap.size, 0, none⟩ = some (.int .i64 st) := hx3.cell 0);
                  (have f0 := hx3.frozen 0);
                  (clear hx3 hh3 hb3 hb4)))
            exact bodyPost_ret (v := .tuple #[.slice none 0 0, .int .i64 z]) (by simp [results, Try.results18, go_sem]) rfl ⟨none, 0, 0, by rw [HRR.out], by rw [HRR.out]; exact SA.nil, HB4.out⟩
        · obtain rfl : k = n := by omega
          have hfull : mapL m l k = l.map (mapE m) := by unfold mapL; rw [List.take_of_length_le (by rw [HL.out]; omega)]
          have HRR := Lib.hid (show resM m l = (foldI true (mapL m l k) [], 0) by
            rw [HR.out]
            unfold resB
            rw [badE_none (fun j y hj => HP.out j y (by have := (List.getElem?_eq_some_iff.1 hj).1; rw [HL.out] at this; exact this) hj), hfull, foldI_csort (m := l.map (mapE m)) (fun _ => Iff.rfl)])
          clear hfull
          go_wp2
          exact bodyPost_ret (v := .tuple #[.slice A' n' c', .int .i64 0]) (by simp [results, Try.results18, go_sem]) rfl ⟨A', n', c', by rw [HRR.out], by rw [HRR.out]; exact HO.out, hB⟩
    · have HR := Lib.hid (show resM m l = ([], 90) by unfold resM; rw [if_neg (by simpa using hc), if_pos (by simpa using hct)])
      rw [checkT_90 hct] at CT
      clear hct hc h hT hI
      go_enter Try.func18, Try.ntmps18
      go_wp2_with (first
        | (go_at_call 13; ((with_reducible refine C.mono ?_); rintro e w1 ⟨rfl, hh1⟩))
        | (go_at_call 35; refine (CT.out _ hh1).mono ?_; rintro e w2 ⟨rfl, hh2⟩; have hB0 := Bel.on0 hh1 hh2; clear hh2))
      exact bodyPost_ret (v := .tuple #[.slice none 0 0, .int .i64 90]) (by simp [results, Try.results18, go_sem]) rfl ⟨none, 0, 0, by rw [HR.out], by rw [HR.out]; exact SA.nil, hB0⟩
  · have HR := Lib.hid (show resM m l = ([], checkM l) by unfold resM; rw [if_pos hc])
    have hc1 : (checkM l != 0) = true := by simpa using hc
    obtain ⟨z, hz⟩ : ∃ z, checkM l = z := ⟨_, rfl⟩
    rw [hz] at HR C hc1
    clear hc hz h hT hI
    go_enter Try.func18, Try.ntmps18
    go_wp2_with (go_at_call 13; ((with_reducible refine C.mono ?_); rintro e w1 ⟨rfl, hh1⟩))
    exact bodyPost_ret (v := .tuple #[.slice none 0 0, .int .i64 z]) (by simp [results, Try.results18, go_sem]) rfl ⟨none, 0, 0, by rw [HR.out], by rw [HR.out]; exact SA.nil, hh1⟩
end Go.Proofs.Ytmfdflfjllpceaa
