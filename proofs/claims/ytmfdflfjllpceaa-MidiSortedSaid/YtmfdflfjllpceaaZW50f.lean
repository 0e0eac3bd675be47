/- The law MidiNotes: its walk. -/
import Derived.Test.YtmfdflfjllpceaaZW50e
namespace Go.Proofs.Ytmfdflfjllpceaa
open Go.RowKit

theorem isEnd_valid {y x : Ev} (hx : EvOk x) : (isEnd y x = true ∧ (x.kind == 2) = false ∧ ¬ x.kind = 2 ∧ x.ch = y.ch ∧ x.key = y.key) ∨
    (isEnd y x = false ∧ (x.kind = 2 ∨ ((x.kind == 2) = false ∧ ¬ x.kind = 2 ∧ (x.ch == y.ch) = false ∧ ¬ x.ch = y.ch) ∨ ((x.kind == 2) = false ∧ ¬ x.kind = 2 ∧ x.ch = y.ch ∧ (x.key == y.key) = false ∧ ¬ x.key = y.key))) := by
  obtain ⟨h1, h2, _⟩ := hx
  by_cases hk : x.kind = 2
  · exact .inr ⟨isEnd_two hk, .inl hk⟩
  · have hk' : (x.kind == 2) = false := by simpa using hk
    by_cases hc : x.ch = y.ch
    · by_cases hq : x.key = y.key
      · exact .inl ⟨by unfold isEnd; rw [decide_eq_true_iff]; exact ⟨by omega, hc, hq⟩, hk', hk, hc, hq⟩
      · exact .inr ⟨by unfold isEnd; rw [decide_eq_false_iff_not]; exact fun h => hq h.2.2, .inr (.inr ⟨hk', hk, hc, by simpa using hq, hq⟩)⟩
    · exact .inr ⟨by unfold isEnd; rw [decide_eq_false_iff_not]; exact fun h => hc h.2.1, .inr (.inl ⟨hk', hk, by simpa using hc, hc⟩)⟩
/-- Where the search for a note's end stands at k: there, or not yet. -/
theorem end_at {l : List Ev} {i : Nat} {y : Ev} (hy : l[i]? = some y) (hv : ∀ e ∈ l, EvOk e) : (endS l i = -1 ∨ ((i : Int) < endS l i ∧ endS l i < l.length)) ∧
    ∀ (k : Nat) (x : Ev), i < k → l[k]? = some x → (endS l i = -1 ∨ (k : Int) ≤ endS l i) →
      (endS l i = (k : Int) ∧ (x.kind == 2) = false ∧ ¬ x.kind = 2 ∧ x.ch = y.ch ∧ x.key = y.key) ∨
      (((k : Int) == endS l i) = false ∧ ¬ (k : Int) = endS l i ∧ (endS l i = -1 ∨ (k : Int) + 1 ≤ endS l i) ∧ (x.kind = 2 ∨ ((x.kind == 2) = false ∧ ¬ x.kind = 2 ∧ (x.ch == y.ch) = false ∧ ¬ x.ch = y.ch) ∨ ((x.kind == 2) = false ∧ ¬ x.kind = 2 ∧ x.ch = y.ch ∧ (x.key == y.key) = false ∧ ¬ x.key = y.key))) := by
  rcases endS_spec hy with ⟨h1, h2⟩ | ⟨j, z, h1, h2, h3, h4, h5⟩
  · rw [h1]
    refine ⟨.inl rfl, fun k x hk hx _ => .inr ?_⟩
    have h6 := h2 k x hk hx
    rcases isEnd_valid (y := y) (hv x (List.mem_of_getElem? hx)) with ⟨h7, _⟩ | ⟨_, h7⟩
    · rw [h6] at h7; cases h7
    · have : ¬ (k : Int) = -1 := by omega
      exact ⟨by rw [beq_eq_false_iff_ne]; exact this, this, .inl rfl, h7⟩
  · rw [h1]
    have hj := (List.getElem?_eq_some_iff.1 h3).1
    refine ⟨.inr ⟨by omega, by omega⟩, fun k x hk hx hor => ?_⟩
    by_cases hkj : k = j
    · subst hkj
      rw [h3] at hx
      injection hx with hx
      subst hx
      rcases isEnd_valid (y := y) (hv z (List.mem_of_getElem? h3)) with ⟨_, h7⟩ | ⟨h7, _⟩
      · exact .inl ⟨rfl, h7⟩
      · rw [h4] at h7; cases h7
    · have hlt : k < j := by omega
      have h6 := h5 k x hk hlt hx
      rcases isEnd_valid (y := y) (hv x (List.mem_of_getElem? hx)) with ⟨h7, _⟩ | ⟨_, h7⟩
      · rw [h6] at h7; cases h7
      · have : ¬ (k : Int) = (j : Int) := by omega
        exact .inr ⟨by simpa using this, this, .inr (by omega), h7⟩
set_option maxHeartbeats 8000000 in
set_option maxRecDepth 100000 in
theorem walkMidiNotes (A : Option Addr) (n c : Nat) (L : List EvS) (w : World) (h : SA evES w A n c L) :
    Calls Try.prog 7 #[.slice A n c] w fun e w' => e = .returned (.bool true) ∧ Below w.heap.size w w' := by
  obtain ⟨hs, hI⟩ := h.evs
  clear h
  generalize (L.map (·.1)) = l at hs hI
  have hlen := hs.len
  have CS := sane50_any w
  by_cases hn : (n : Int) ≤ 60
  · have CF := Lib.hid fun w' => few_yes (A := A) (c := c) hn w'
    by_cases hc : checkM l = 0
    · obtain ⟨_, hv, _⟩ := checkM_ok hc
      have hN : notesA l = rN l l.length := by unfold notesA; rw [if_pos hc, notes_eq hc]
      have S1 := Lib.hid fun (w' : World) (hb : Below w.heap.size w w') => mnotes_p hs hI (by omega) hN hc hb
      have HV := Lib.hid hv
      have HS := Lib.hid hs
      have hnl := hs.n_eq
      clear hs hI hc hN hv
      go_enter Try.func7, Try.ntmps7
      go_wp2_with fail
      refine CS.mono ?_; rintro e w1 ⟨rfl, b1⟩
      go_wp2_with fail
      refine (CF.out _).mono ?_; rintro e w2 ⟨rfl, rfl⟩
      go_wp2_with fail
      refine (S1.out _ b1).mono ?_; rintro e w3 ⟨A3, c3, rfl, h3, b3⟩; have hB3 := Bel.on0 b1 b3
      have H3 := Lib.hid h3
      have hNn := rN_len l l.length
      clear h3 b1 b3 CS CF S1
      go_wp2_with fail
      go_loopw [5, 34] (fun v i wr2 => ∃ k : Nat, k ≤ n ∧ i = .int .i64 k ∧ v = .int .i64 ((rN l k).length : Int) ∧ Below w3.heap.size w3 wr2) (fun _ i _ => n - (intOf i).toNat)
      case atStart => exact ⟨0, Nat.zero_le _, rfl, rfl, Below.refl _ _⟩
      case round =>
        obtain ⟨k, hk, rfl, rfl, hB⟩ := hrel
        by_cases hlt : k < n
        · have hkl : k < l.length := by omega
          obtain ⟨s, hs⟩ : ∃ s, l[k] = s := ⟨_, rfl⟩
          have hs' : l[k]? = some s := by rw [List.getElem?_eq_getElem hkl, hs]
          have HEN := Lib.hid (end_at hs' HV.out)
          have HSK := Lib.hid fun h => rN_skip hs' h
          have HAT := Lib.hid fun h => rN_at hs' h hkl
          obtain ⟨bb, oo, hAe, hbb, a0, a1, a2, a3, a4, a5⟩ := ev_at (HS.out.below (Bel.on0 hB3 hB)) hkl hs
          subst hAe
          clear hs hs'
          obtain ⟨y0, y1, y2, y3, y4, y5⟩ := s
          dsimp only at a0 a1 a2 a3 a4 a5 HEN HSK HAT
          have g3 : (0 : Int) ≤ (k : Int) := by omega
          have g4 : (k : Int) < (n : Int) := by omega
          have gw : IntKind.i64.wrap ((k : Int) + 1) = (k : Int) + 1 := IntWalk.i64_in _ (by omega)
          have hb1 := Bel.al hB (.cells #[.int .i64 y0, .int .i64 y1, .int .i64 y2, .int .i64 y3, .int .i64 y4, .int .i64 y5] 40)
          have hbx := Blk.new wr 40 #[.int .i64 y0, .int .i64 y1, .int .i64 y2, .int .i64 y3, .int .i64 y4, .int .i64 y5]
          obtain ⟨v, hv⟩ : ∃ v, (rN l k).length = v := ⟨_, rfl⟩
          rw [hv]
          by_cases h3 : y1 = 3
          · subst h3
            obtain ⟨hat, hat2⟩ := HAT.out rfl
            rw [hv] at hat hat2
            obtain ⟨hvl, hvs⟩ := List.getElem?_eq_some_iff.1 hat
            obtain ⟨bc, oc, rfl, hbc, d0, d1⟩ := note_at (H3.out.below hB) hvl hvs
            have HNX := Lib.hid hat2
            obtain ⟨hen1, hen2⟩ := HEN.out
            dsimp only at d0 d1
            obtain ⟨z, hz⟩ : ∃ z, endS l k = z := ⟨_, rfl⟩
            rw [hz] at d1 hen1 hen2
            have HE2 := Lib.hid hen2
            have k5 : (v : Int) < ((rN l l.length).length : Int) := by omega
            have k1 : decide (((rN l l.length).length : Int) ≤ (v : Int)) = false := decide_eq_false (by omega)
            have k1' : decide ((rN l n).length ≤ v) = false := decide_eq_false (by rw [hnl] at k5; omega)
            have k1'' : decide (((rN l n).length : Int) ≤ (v : Int)) = false := by rw [← hnl]; exact k1
            have k5' : (v : Int) < ((rN l n).length : Int) := by rw [← hnl]; exact k5
            have k2 : decide ((n : Int) ≤ z) = false := decide_eq_false (by omega)
            have k3 : decide (z < -1) = false := decide_eq_false (by omega)
            have k4 : (0 : Int) ≤ (v : Int) := by omega
            have k6 : ((k : Int) != (k : Int)) = false := by simp
            have gv : IntKind.i64.wrap ((v : Int) + 1) = (v : Int) + 1 := IntWalk.i64_in _ (by omega)
            have HH1 := Lib.hid hen1
            clear hat hat2 hvs hvl hen1 hen2 hv hz HEN HSK HAT
            have e0 := hbx
            go_wp2_with fail
            clear d0 d1 a0 a1 a2 a3 a4 a5 hbb hbc
            go_loopw [9] (fun i wr2 => ∃ q : Nat, k + 1 ≤ q ∧ q ≤ n ∧ i = .int .i64 q ∧ (z = -1 ∨ (q : Int) ≤ z) ∧ Hid (Blk wr2 wr.heap.size 40 #[.int .i64 y0, .int .i64 3, .int .i64 y2, .int .i64 y3, .int .i64 y4, .int .i64 y5]) ∧ Below w3.heap.size w3 wr2) (fun i _ => n - (intOf i).toNat)
            case atStart => exact ⟨k + 1, Nat.le_refl _, by omega, by simp, by have := HH1.out; omega, Lib.hid hbx, hb1⟩
            case round =>
              clear hbx hb1 e0 hB
              obtain ⟨q, hq1, hq, rfl, hor, hY, hC⟩ := hrel
              by_cases hlt2 : q < n
              · have hql : q < l.length := by omega
                obtain ⟨s, hs⟩ : ∃ s, l[q] = s := ⟨_, rfl⟩
                have hcase := HE2.out q s (by omega) (by rw [List.getElem?_eq_getElem hql, hs]) hor
                obtain ⟨bd, od, hAe, hbd, a0, a1, a2, a3, a4, a5⟩ := ev_at (HS.out.below (Bel.on0 hB3 hC)) hql hs
                injection hAe with hAe
                injection hAe with hA1 hA2 _
                subst hA1 hA2
                clear hs hql
                obtain ⟨x0, x1, x2, x3, x4, x5⟩ := s
                dsimp only at a0 a1 a2 a3 a4 a5 hcase
                have f2 := hY.out.cell 2
                have f3 := hY.out.cell 3
                simp only [List.getElem?_toArray, List.getElem?_cons_zero, List.getElem?_cons_succ] at f2 f3
                have m3 : (0 : Int) ≤ (q : Int) := by omega
                have m4 : (q : Int) < (n : Int) := by omega
                have mw : IntKind.i64.wrap ((q : Int) + 1) = (q : Int) + 1 := IntWalk.i64_in _ (by omega)
                rcases hcase with ⟨hz, hk1, hk2, hk3, hk4⟩ | ⟨hz1, hz2, hz3, hcase⟩
                · subst hz
                  subst hk3 hk4
                  have hk5 : decide (x1 = 2) = false := by simpa using hk2
                  have hk7 : (x1 != 2) = true := by simpa using hk2
                  have p1 : decide ((q : Int) ≤ (k : Int)) = false := decide_eq_false (by omega)
                  go_wp2_with fail
                  go_quiet (fail)
                  rename Nat => qd
                  go_wp2_with fail
                  exact ⟨⟨k + 1, by omega, by simp, by rw [HNX.out]; simp, below_drewN hC _⟩, by simp only [intOf]; omega⟩
                · rcases hcase with rfl | ⟨hk1, hk2, hk3, hk4⟩ | ⟨hk1, hk2, rfl, hk3, hk4⟩
                  · go_wp2_with fail
                    go_quiet (fail)
                    rename Nat => qd
                    go_wp2_with fail
                    exact ⟨⟨q + 1, by omega, by omega, by simp, hz3, Lib.hid (hY.out.drewN _), below_drewN hC _⟩, by simp only [intOf]; omega⟩
                  · have hk5 : decide (x1 = 2) = false := by simpa using hk2
                    have hk7 : (x1 != 2) = true := by simpa using hk2
                    have hk6 : decide (x2 = y2) = false := by simpa using hk4
                    go_wp2_with fail
                    go_quiet (fail)
                    rename Nat => qd
                    go_wp2_with fail
                    exact ⟨⟨q + 1, by omega, by omega, by simp, hz3, Lib.hid (hY.out.drewN _), below_drewN hC _⟩, by simp only [intOf]; omega⟩
                  · have hk5 : decide (x1 = 2) = false := by simpa using hk2
                    have hk7 : (x1 != 2) = true := by simpa using hk2
                    have hk6 : decide (x3 = y3) = false := by simpa using hk4
                    go_wp2_with fail
                    go_quiet (fail)
                    rename Nat => qd
                    go_wp2_with fail
                    exact ⟨⟨q + 1, by omega, by omega, by simp, hz3, Lib.hid (hY.out.drewN _), below_drewN hC _⟩, by simp only [intOf]; omega⟩
              · obtain rfl : q = n := by omega
                obtain rfl : z = -1 := by have := HH1.out; omega
                go_wp2_with fail
                exact ⟨⟨k + 1, by omega, by simp, by rw [HNX.out]; simp, hC⟩, by simp only [intOf]; omega⟩
          · have h31 : (y1 == 3) = false := by simpa using h3
            have HSt := Lib.hid (show (rN l (k + 1)).length = v by rw [HSK.out h3, hv])
            clear HEN HSK HAT hv
            go_wp2_with fail
            exact ⟨⟨k + 1, by omega, by simp, by rw [HSt.out], hb1⟩, by simp only [intOf]; omega⟩
        · obtain rfl : k = n := by omega
          have HBW := Lib.hid (Bel.on0 hB3 hB)
          go_wp2_with fail
          go_ret
          exact ⟨rfl, HBW.out⟩
    · obtain ⟨z, hz⟩ : ∃ z, checkM l = z := ⟨_, rfl⟩
      have hN : notesA l = [] := by unfold notesA; rw [if_neg hc]
      have S1 := Lib.hid fun (w' : World) (hb : Below w.heap.size w w') => mnotes_p hs hI (by omega) hN hz hb
      have S2 := Lib.hid fun (w' : World) (hb : Below w.heap.size w w') => check_eq hz (hs.below hb)
      have hz1 : (z != 0) = true := by rw [← hz]; simpa using hc
      clear hs hI hn hc hz hN
      go_enter Try.func7, Try.ntmps7
      go_wp2_with fail
      refine CS.mono ?_; rintro e w1 ⟨rfl, b1⟩
      go_wp2_with fail
      refine (CF.out _).mono ?_; rintro e w2 ⟨rfl, rfl⟩
      go_wp2_with fail
      refine (S1.out _ b1).mono ?_; rintro e w3 ⟨A3, c3, rfl, _, b3⟩; have hB3 := Bel.on0 b1 b3
      dsimp only [List.length_nil]
      go_wp2_with fail
      refine (S2.out _ hB3).mono ?_; rintro e w4 ⟨rfl, b4⟩; have hB4 := Bel.on0 hB3 b4
      go_wp2_with fail
      go_ret
      exact ⟨rfl, hB4⟩
  · have CF := Lib.hid fun w' => few_no (A := A) (c := c) hn hlen w'
    go_enter Try.func7, Try.ntmps7
    go_wp2_with (first
      | (go_at_call 10; (with_reducible refine CS.mono ?_); rintro e w1 ⟨rfl, b1⟩)
      | (go_at_call 11; (with_reducible refine (CF.out _).mono ?_); rintro e w2 ⟨rfl, rfl⟩))
    go_ret
    exact ⟨rfl, b1⟩
end Go.Proofs.Ytmfdflfjllpceaa
