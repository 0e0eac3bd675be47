/- The law MidiPartsSpec: its walk. -/
import Derived.Test.YtmfdflfjllpceaaZW50c
import Derived.BigQuiet
namespace Go.Proofs.Ytmfdflfjllpceaa
open Go.RowKit

/-- What Notes answers, on both sides. -/
noncomputable def notesA (l : List Ev) : List (Int × Int) := if checkM l = 0 then notesM l else []
theorem notes_both (l : List Ev) : (if checkM l = 0 then rN l l.length else []) = notesA l := by
  unfold notesA
  split
  · rename_i h; exact (notes_eq h).symm
  · rfl
section
variable {A B : Option Addr} {n c n1 c1 : Nat} {l r : List Ev} {m : List Tm} {fr hi k : Int} {w w' : World} {x : List (Int × Int)}
theorem nret_eq {ev : Ending} {r' : List (Int × Int)} (e : x = r') (h : NRet w x k ev w') : ∃ A' c', ev = .returned (.tuple #[.slice A' r'.length c', .int .i64 k]) ∧ SA noteE w' A' r'.length c' r' ∧ Below w.heap.size w w' := by
  subst e
  obtain ⟨A', n', c', he, ho, hb⟩ := h
  have := ho.n_eq
  subst this
  exact ⟨A', c', he, ho, hb⟩
theorem mnotes_p (h : SA evE w A n c l) (hI : ∀ e ∈ l, EvI e) (hm : n ≤ 34359738368) (e1 : notesA l = x) (e2 : checkM l = k) (hb : Below w.heap.size w w') :
    Calls Try.prog 19 #[.slice A n c] w' fun e w'' => ∃ A' c', e = .returned (.tuple #[.slice A' x.length c', .int .i64 k]) ∧ SA noteE w'' A' x.length c' x ∧ Below w'.heap.size w' w'' := by
  subst e2
  exact (mnotes_any A n c l w' (h.below hb) hI hm).mono fun _ _ => nret_eq e1
theorem rnotes_p (h : SA evE w A n c l) (hm : n ≤ 34359738368) (e1 : notesA l = x) (e2 : checkM l = k) (hb : Below w.heap.size w w') :
    Calls Try.prog 20 #[.slice A n c] w' fun e w'' => ∃ A' c', e = .returned (.tuple #[.slice A' x.length c', .int .i64 k]) ∧ SA noteE w'' A' x.length c' x ∧ Below w'.heap.size w' w'' := by
  subst e2
  exact (rnotes_any A n c l w' (h.below hb) hm).mono fun _ _ => nret_eq ((notes_both l).trans e1)
theorem mslice_p (h : SA evE w A n c l) (hI : ∀ e ∈ l, EvI e) (h1 : I64 fr) (h2 : I64 hi) (e : sliceM l fr hi = (r, k)) (hb : Below w.heap.size w w') :
    Calls Try.prog 21 #[.slice A n c, .int .i64 fr, .int .i64 hi] w' fun e w'' => ∃ A' c', e = .returned (.tuple #[.slice A' r.length c', .int .i64 k]) ∧ SA evE w'' A' r.length c' r ∧ Below w'.heap.size w' w'' :=
  (mslice_any A n c l fr hi w' (h.below hb) hI h1 h2).mono fun _ _ => eret_eq e
theorem rslice_p (h : SA evE w A n c l) (hI : ∀ e ∈ l, EvI e) (h1 : I64 fr) (h2 : I64 hi) (e : sliceM l fr hi = (r, k)) (hb : Below w.heap.size w w') :
    Calls Try.prog 22 #[.slice A n c, .int .i64 fr, .int .i64 hi] w' fun e w'' => ∃ A' c', e = .returned (.tuple #[.slice A' r.length c', .int .i64 k]) ∧ SA evE w'' A' r.length c' r ∧ Below w'.heap.size w' w'' :=
  (rslice_any A n c l fr hi w' (h.below hb) hI h1 h2).mono fun _ _ => eret_eq ((rslice_eq l fr hi).trans e)
theorem mresolve_p (hT : SA tmE w B n1 c1 m) (h : SA evE w A n c l) (hI : ∀ e ∈ l, EvI e) (e : resM m l = (r, k)) (hb : Below w.heap.size w w') :
    Calls Try.prog 17 #[.slice B n1 c1, .slice A n c] w' fun e w'' => ∃ A' c', e = .returned (.tuple #[.slice A' r.length c', .int .i64 k]) ∧ SA evE w'' A' r.length c' r ∧ Below w'.heap.size w' w'' :=
  (mresolve_any B A n1 c1 n c m l w' (hT.below hb) (h.below hb) hI).mono fun _ _ => eret_eq e
theorem rresolve_p (hT : SA tmE w B n1 c1 m) (h : SA evE w A n c l) (hI : ∀ e ∈ l, EvI e) (e : resM m l = (r, k)) (hb : Below w.heap.size w w') :
    Calls Try.prog 18 #[.slice B n1 c1, .slice A n c] w' fun e w'' => ∃ A' c', e = .returned (.tuple #[.slice A' r.length c', .int .i64 k]) ∧ SA evE w'' A' r.length c' r ∧ Below w'.heap.size w' w'' :=
  (rresolve_any B A n1 c1 n c m l w' (hT.below hb) (h.below hb) hI).mono fun _ _ => eret_eq e
end
theorem note_at {w : World} {A : Option Addr} {n c : Nat} {l : List (Int × Int)} (h : SA noteE w A n c l) {k : Nat} (hk : k < l.length) {s : Int × Int} (hs : l[k] = s) : ∃ b o, A = some ⟨b, o, none⟩ ∧ b < w.heap.size ∧
    w.cell? ⟨b, o + k * 2, none⟩ = some (.int .i64 s.1) ∧ w.cell? ⟨b, o + k * 2 + 1, none⟩ = some (.int .i64 s.2) := by
  subst hs
  obtain ⟨b, o, e, hb, hc⟩ := h.at_ hk
  exact ⟨b, o, e, hb, hc 0 _ rfl, hc 1 _ rfl⟩
set_option maxHeartbeats 4000000 in
set_option maxRecDepth 100000 in
theorem walkMidiPartsSpec (B : Option Addr) (n1 c1 : Nat) (M : List Tm) (A : Option Addr) (n c : Nat) (L : List EvS) (fr hi : Int) (w : World) (hT : SA tmE w B n1 c1 M) (h : SA evES w A n c L) (i1 : I64 fr) (i2 : I64 hi) :
    Calls Try.prog 4 #[.slice B n1 c1, .slice A n c, .int .i64 fr, .int .i64 hi] w fun e w' => e = .returned (.bool true) ∧ Below w.heap.size w w' := by
  obtain ⟨hs, hI⟩ := h.evs
  clear h
  generalize (L.map (·.1)) = l at hs hI
  have hlen := hs.len
  have hlen1 := hT.len
  have CS := sane50_any w
  by_cases hn : (n : Int) ≤ 60
  · have CF := Lib.hid fun w' => few_yes (A := A) (c := c) hn w'
    by_cases hn1 : (100 : Int) < n1
    · clear hs hI hn hT
      go_enter Try.func4, Try.ntmps4
      go_wp2_with (first
        | (go_at_call 10; (with_reducible refine CS.mono ?_); rintro e w1 ⟨rfl, b1⟩)
        | (go_at_call 11; (with_reducible refine (CF.out _).mono ?_); rintro e w2 ⟨rfl, rfl⟩))
      go_ret
      exact ⟨rfl, b1⟩
    · have hn1' : decide ((100 : Int) < n1) = false := decide_eq_false hn1
      have hn1'' : (n1 : Int) ≤ 100 := by omega
      obtain ⟨⟨R, kr⟩, hR⟩ : ∃ x, resM M l = x := ⟨_, rfl⟩
      obtain ⟨⟨Y, ky⟩, hY⟩ : ∃ x, sliceM l fr hi = x := ⟨_, rfl⟩
      obtain ⟨N, hN⟩ : ∃ x, notesA l = x := ⟨_, rfl⟩
      obtain ⟨kc, hkc⟩ : ∃ x, checkM l = x := ⟨_, rfl⟩
      have S1 := Lib.hid fun (w' : World) (hb : Below w.heap.size w w') => mresolve_p hT hs hI hR hb
      have S2 := Lib.hid fun (w' : World) (hb : Below w.heap.size w w') => rresolve_p hT hs hI hR hb
      have S3 := Lib.hid fun (w' : World) (hb : Below w.heap.size w w') => mnotes_p hs hI (by omega) hN hkc hb
      have S4 := Lib.hid fun (w' : World) (hb : Below w.heap.size w w') => rnotes_p hs (by omega) hN hkc hb
      have S5 := Lib.hid fun (w' : World) (hb : Below w.heap.size w w') => mslice_p hs hI i1 i2 hY hb
      have S6 := Lib.hid fun (w' : World) (hb : Below w.heap.size w w') => rslice_p hs hI i1 i2 hY hb
      clear hs hI hn hT hn1 i1 i2 hR hY hN hkc
      go_enter Try.func4, Try.ntmps4
      go_wp2_with fail
      refine CS.mono ?_; rintro e w1 ⟨rfl, b1⟩
      go_wp2_with fail
      refine (CF.out _).mono ?_; rintro e w2 ⟨rfl, rfl⟩
      go_wp2_with fail
      refine (S1.out _ b1).mono ?_; rintro e v1 ⟨P1, q1, rfl, h1, d1⟩; have hB1 := Bel.on0 b1 d1
      go_wp2_with fail
      refine (S2.out _ hB1).mono ?_; rintro e v2 ⟨P2, q2, rfl, h2, d2⟩; have hB2 := Bel.on0 hB1 d2; replace h1 := h1.below d2
      go_wp2_with fail
      refine (S3.out _ hB2).mono ?_; rintro e v3 ⟨P3, q3, rfl, h3, d3⟩; have hB3 := Bel.on0 hB2 d3; replace h1 := h1.below d3; replace h2 := h2.below d3
      go_wp2_with fail
      refine (S4.out _ hB3).mono ?_; rintro e v4 ⟨P4, q4, rfl, h4, d4⟩; have hB4 := Bel.on0 hB3 d4; replace h1 := h1.below d4; replace h2 := h2.below d4; replace h3 := h3.below d4
      go_wp2_with fail
      refine (S5.out _ hB4).mono ?_; rintro e v5 ⟨P5, q5, rfl, h5, d5⟩; have hB5 := Bel.on0 hB4 d5; replace h1 := h1.below d5; replace h2 := h2.below d5; replace h3 := h3.below d5; replace h4 := h4.below d5
      go_wp2_with fail
      refine (S6.out _ hB5).mono ?_; rintro e v6 ⟨P6, q6, rfl, h6, d6⟩; have hB6 := Bel.on0 hB5 d6; replace h1 := h1.below d6; replace h2 := h2.below d6; replace h3 := h3.below d6; replace h4 := h4.below d6; replace h5 := h5.below d6
      have H1 := Lib.hid h1
      have H2 := Lib.hid h2
      have H3 := Lib.hid h3
      have H4 := Lib.hid h4
      have H5 := Lib.hid h5
      have H6 := Lib.hid h6
      have hNl := h3.len
      have e0 : ((N.length : Int) != (N.length : Int)) = false := by simp
      clear h1 h2 h3 h4 h5 h6 d1 d2 d3 d4 d5 d6 b1 hB1 hB2 hB3 hB4 hB5 S1 S2 S3 S4 S5 S6 CS CF
      go_wp2_with fail
      go_loopw [75] (fun i wr => ∃ k : Nat, k ≤ N.length ∧ i = .int .i64 k ∧ Below v6.heap.size v6 wr) (fun i _ => N.length - (intOf i).toNat)
      case atStart => exact ⟨0, Nat.zero_le _, rfl, Below.refl _ _⟩
      case round =>
        obtain ⟨k, hk, rfl, hB⟩ := hrel
        by_cases hlt : k < N.length
        · obtain ⟨s, hs⟩ : ∃ s, N[k] = s := ⟨_, rfl⟩
          obtain ⟨bb, oo, rfl, hbb, a0, a1⟩ := note_at (H3.out.below hB) hlt hs
          obtain ⟨bc, oc, rfl, hbc, e0, e1⟩ := note_at (H4.out.below hB) hlt hs
          clear hs
          obtain ⟨y0, y1⟩ := s
          dsimp only at a0 a1 e0 e1
          have g3 : (0 : Int) ≤ (k : Int) := by omega
          have g4 : (k : Int) < (N.length : Int) := by omega
          have gw : IntKind.i64.wrap ((k : Int) + 1) = (k : Int) + 1 := IntWalk.i64_in _ (by omega)
          go_wp2_with fail
          go_quiet (fail)
          rename Nat => qd
          go_wp2_with fail
          exact ⟨⟨k + 1, by omega, by simp, below_drewN hB _⟩, by simp only [intOf]; omega⟩
        · obtain rfl : k = N.length := by omega
          have G1 := Lib.hid (rsame_eq (H1.out.below hB) (H2.out.below hB) rfl)
          have HB := Lib.hid (Bel.on0 hB6 hB)
          have G2 := Lib.hid fun (w9 : World) (hb : Below v6.heap.size v6 w9) => rsame_eq (H5.out.below hb) (H6.out.below hb) rfl
          go_wp2_with fail
          refine G1.out.mono ?_; rintro e u1 ⟨rfl, f1⟩
          have HB1 := Lib.hid (Bel.on0 HB.out f1)
          have f1' := Bel.on0 hB f1
          go_wp2_with fail
          refine (G2.out _ f1').mono ?_; rintro e u2 ⟨rfl, f2⟩
          have HB2 := Lib.hid (Bel.on0 HB1.out f2)
          go_wp2_with fail
          go_ret
          exact ⟨rfl, HB2.out⟩
  · have CF := Lib.hid fun w' => few_no (A := A) (c := c) hn hlen w'
    go_enter Try.func4, Try.ntmps4
    go_wp2_with (first
      | (go_at_call 10; (with_reducible refine CS.mono ?_); rintro e w1 ⟨rfl, b1⟩)
      | (go_at_call 11; (with_reducible refine (CF.out _).mono ?_); rintro e w2 ⟨rfl, rfl⟩))
    go_ret
    exact ⟨rfl, b1⟩
end Go.Proofs.Ytmfdflfjllpceaa
