/- Layer 50: Notes; the reference's End, Notes. -/
import Derived.Test.YtmfdflfjllpceaaZMvN
import Derived.BigQuiet
namespace Go.Proofs.Ytmfdflfjllpceaa
open Go.RowKit

def notesM (l : List Ev) : List (Int × Int) := (eAt l l.length).notes
/-- A slice and a code are handed back. -/
def NRet (w : World) (x : List (Int × Int)) (k : Int) (e : Ending) (w' : World) : Prop :=
  ∃ A n c, e = .returned (.tuple #[.slice A n c, .int .i64 k]) ∧ SA noteE w' A n c x ∧ Below w.heap.size w w'
theorem mnotes_any (A : Option Addr) (n c : Nat) (l : List Ev) (w : World) (h : SA evE w A n c l) (hI : ∀ e ∈ l, EvI e) (hm : n ≤ 34359738368) :
    Calls Try.prog 19 #[.slice A n c] w (NRet w (if checkM l = 0 then notesM l else []) (checkM l)) := by
  have C := mcheck_any A n c l w h
  have CE := Lib.hid fun (w' : World) (hb : Below w.heap.size w w') => ends_any A n c l w' (h.below hb) hI hm
  clear h hI
  by_cases hc : checkM l = 0
  · have HR := Lib.hid (show (if checkM l = 0 then notesM l else []) = notesM l from if_pos hc)
    rw [hc] at C HR ⊢
    clear hc
    go_enter Try.func19, Try.ntmps19
    go_wp2_with (first
      | (go_at_call 12; ((with_reducible refine C.mono ?_); rintro e w1 ⟨rfl, hh1⟩))
      | (go_at_call 37; ((with_reducible refine (CE.out _ hh1).mono ?_); rintro e w2 ⟨A2, n2, c2, rfl, h2, hh2⟩)))
    exact bodyPost_ret (v := .tuple #[.slice A2 n2 c2, .int .i64 0]) (by simp [results, Try.results19, go_sem]) rfl ⟨A2, n2, c2, rfl, h2.sa, Bel.on0 hh1 hh2⟩
  · have HR := Lib.hid (show (if checkM l = 0 then notesM l else []) = [] from if_neg hc)
    have hc1 : (checkM l != 0) = true := by simpa using hc
    obtain ⟨x, hx⟩ : ∃ x, (if checkM l = 0 then notesM l else []) = x := ⟨_, rfl⟩
    rw [hx] at HR ⊢
    obtain ⟨z, hz⟩ : ∃ z, checkM l = z := ⟨_, rfl⟩
    rw [hz] at C hc1 ⊢
    clear hc hz CE hx
    go_enter Try.func19, Try.ntmps19
    go_wp2_with (go_at_call 12; ((with_reducible refine C.mono ?_); rintro e w1 ⟨rfl, hh1⟩))
    exact bodyPost_ret (v := .tuple #[.slice none 0 0, .int .i64 z]) (by simp [results, Try.results19, go_sem]) rfl ⟨none, 0, 0, rfl, by rw [HR.out]; exact SA.nil, hh1⟩

/-- Does x end a note that y begins? -/
def isEnd (y x : Ev) : Bool := decide ((x.kind = 1 ∨ x.kind = 3) ∧ x.ch = y.ch ∧ x.key = y.key)
def endF (y : Ev) : List Ev → Nat → Int
  | [], _ => -1
  | x :: r, i => if isEnd y x = true then (i : Int) else endF y r (i + 1)
def endS (l : List Ev) (on : Nat) : Int := match l[on]? with
  | some y => endF y (l.drop (on + 1)) (on + 1)
  | none => -1
theorem isEnd_cases (y x : Ev) : (isEnd y x = true ∧ (x.kind = 1 ∨ (¬ x.kind = 1 ∧ x.kind = 3)) ∧ x.ch = y.ch ∧ x.key = y.key) ∨
    (isEnd y x = false ∧ ((¬ x.kind = 1 ∧ ¬ x.kind = 3) ∨ (x.kind = 1 ∧ ¬ x.ch = y.ch) ∨ ((¬ x.kind = 1 ∧ x.kind = 3) ∧ ¬ x.ch = y.ch) ∨ (x.kind = 1 ∧ x.ch = y.ch ∧ ¬ x.key = y.key) ∨ ((¬ x.kind = 1 ∧ x.kind = 3) ∧ x.ch = y.ch ∧ ¬ x.key = y.key))) := by
  unfold isEnd
  simp only [decide_eq_true_eq, decide_eq_false_iff_not]
  omega
set_option maxHeartbeats 4000000 in
set_option maxRecDepth 100000 in
theorem rend_any (A : Option Addr) (n c on : Nat) (l : List Ev) (w : World) (h : SA evE w A n c l) (hon : on < n) (hm : n ≤ 34359738368) :
    Calls Try.prog 38 #[.slice A n c, .int .i64 (on : Int)] w fun e w' => e = .returned (.int .i64 (endS l on)) ∧ Below w.heap.size w w' := by
  have hlen := h.len
  have HL := Lib.hid h.n_eq
  have HS := Lib.hid h
  have hol : on < l.length := by rw [h.n_eq]; exact hon
  obtain ⟨y, hy⟩ : ∃ y, l[on] = y := ⟨_, rfl⟩
  have hy' : l[on]? = some y := by rw [List.getElem?_eq_getElem (by rw [h.n_eq]; exact hon), hy]
  have HE := Lib.hid (show endS l on = endF y (l.drop (on + 1)) (on + 1) by unfold endS; rw [hy'])
  have HY := Lib.hid hy
  have HON := Lib.hid hon
  have gw : IntKind.i64.wrap ((on : Int) + 1) = (on : Int) + 1 := IntWalk.i64_in _ (by omega)
  clear h hy hy'
  obtain ⟨yt, yq, yc, yk, yv, yn⟩ := y
  go_enter Try.func38, Try.ntmps38
  go_wp2
  go_loopw [5] (fun i wr => ∃ k : Nat, on + 1 ≤ k ∧ k ≤ n ∧ i = .int .i64 k ∧ Hid (endS l on = endF ⟨yt, yq, yc, yk, yv, yn⟩ (l.drop k) k) ∧ Below w.heap.size w wr) (fun i _ => n - (intOf i).toNat)
  case atStart => exact ⟨on + 1, Nat.le_refl _, hon, by simp, HE, Below.refl _ _⟩
  case round =>
    clear HE
    obtain ⟨k, hk1, hk, rfl, hE, hB⟩ := hrel
    by_cases hlt : k < n
    · have hkl : k < l.length := by rw [HL.out]; exact hlt
      obtain ⟨s, hs⟩ : ∃ s, l[k] = s := ⟨_, rfl⟩
      have hSt : endF ⟨yt, yq, yc, yk, yv, yn⟩ (l.drop k) k = if isEnd ⟨yt, yq, yc, yk, yv, yn⟩ s = true then (k : Int) else endF ⟨yt, yq, yc, yk, yv, yn⟩ (l.drop (k + 1)) (k + 1) := by
        rw [List.drop_eq_getElem_cons hkl, hs]; rfl
      obtain ⟨b, o, rfl, hb, c0, c1, c2, c3, c4, c5⟩ := ev_at (HS.out.below hB) hkl hs
      obtain ⟨b', o', e', _, d0, d1, d2, d3, d4, d5⟩ := ev_at (HS.out.below hB) hol HY.out
      injection e' with e'
      injection e' with e5 e6 _
      subst e5 e6
      clear hs
      obtain ⟨st, sq, sc, sk, sv, sn⟩ := s
      dsimp only at c0 c1 c2 c3 c4 c5 d0 d1 d2 d3 d4 d5
      have g3 : (0 : Int) ≤ (k : Int) := by omega
      have g4 : (k : Int) < (n : Int) := by omega
      have g5 : (0 : Int) ≤ (on : Int) := by omega
      have g6 : (on : Int) < (n : Int) := by omega
      rcases isEnd_cases ⟨yt, yq, yc, yk, yv, yn⟩ ⟨st, sq, sc, sk, sv, sn⟩ with ⟨hb, hc⟩ | ⟨hb, hc⟩
      · have HN := Lib.hid (show endS l on = (k : Int) by rw [hE.out, hSt, if_pos hb])
        clear hSt hb hE
        obtain ⟨hq, rfl, rfl⟩ := hc
        dsimp only at hq
        rcases hq with rfl | ⟨hq, rfl⟩
        all_goals
          go_wp2_with fail
          go_quiet (fail)
          rename Nat => qd
          go_wp2
          go_ret
          exact ⟨ret_int HN.out.symm, below_drewN hB _⟩
      · have HN := Lib.hid (show endS l on = endF ⟨yt, yq, yc, yk, yv, yn⟩ (l.drop (k + 1)) (k + 1) by rw [hE.out, hSt, if_neg (by rw [hb]; simp)])
        have gk : IntKind.i64.wrap ((k : Int) + 1) = (k : Int) + 1 := IntWalk.i64_in _ (by omega)
        clear hSt hb hE
        dsimp only at hc
        rcases hc with ⟨hq, hr⟩ | ⟨rfl, h1⟩ | ⟨⟨hq, rfl⟩, h1⟩ | ⟨rfl, rfl, h1⟩ | ⟨⟨hq, rfl⟩, rfl, h1⟩
        · have hq1 : (sq == 1) = false := by simpa using hq
          have hq2 : decide (sq = 1) = false := by simpa using hq
          have hr1 : (sq == 3) = false := by simpa using hr
          have hr2 : decide (sq = 3) = false := by simpa using hr
          go_wp2_with fail
          go_quiet (fail)
          rename Nat => qd
          go_wp2
          exact ⟨⟨k + 1, by omega, by omega, by simp <;> omega, HN, below_drewN hB _⟩, by simp only [intOf]; omega⟩
        · have h11 : (sc == yc) = false := by simpa using h1
          have h12 : decide (sc = yc) = false := by simpa using h1
          go_wp2_with fail
          go_quiet (fail)
          rename Nat => qd
          go_wp2
          exact ⟨⟨k + 1, by omega, by omega, by simp <;> omega, HN, below_drewN hB _⟩, by simp only [intOf]; omega⟩
        · have h11 : (sc == yc) = false := by simpa using h1
          have h12 : decide (sc = yc) = false := by simpa using h1
          go_wp2_with fail
          go_quiet (fail)
          rename Nat => qd
          go_wp2
          exact ⟨⟨k + 1, by omega, by omega, by simp <;> omega, HN, below_drewN hB _⟩, by simp only [intOf]; omega⟩
        · have h11 : (sk == yk) = false := by simpa using h1
          have h12 : decide (sk = yk) = false := by simpa using h1
          go_wp2_with fail
          go_quiet (fail)
          rename Nat => qd
          go_wp2
          exact ⟨⟨k + 1, by omega, by omega, by simp <;> omega, HN, below_drewN hB _⟩, by simp only [intOf]; omega⟩
        · have h11 : (sk == yk) = false := by simpa using h1
          have h12 : decide (sk = yk) = false := by simpa using h1
          go_wp2_with fail
          go_quiet (fail)
          rename Nat => qd
          go_wp2
          exact ⟨⟨k + 1, by omega, by omega, by simp <;> omega, HN, below_drewN hB _⟩, by simp only [intOf]; omega⟩
    · obtain rfl : k = n := by omega
      have HN := Lib.hid (show endS l on = -1 by rw [hE.out, List.drop_of_length_le (by rw [HL.out]; omega)]; rfl)
      go_wp2
      go_ret
      exact ⟨ret_int HN.out.symm, hB⟩
end Go.Proofs.Ytmfdflfjllpceaa
