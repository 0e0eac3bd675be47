/- Layer 50's laws: few, value, the closure of MidiDivided. -/
import Derived.Test.YtmfdflfjllpceaaZPlS
import Derived.Test.YtmfdflfjllpceaaZSane50b
import Derived.Test.YtmfdflfjllpceaaZRow50
/- Layer 50's laws: few, value, the closure of MidiDivided. -/
namespace Go.Proofs.Ytmfdflfjllpceaa
open Go.RowKit

theorem few_any (A : Option Addr) (n c : Nat) (w : World) (_hl : (n : Int) ≤ 9223372036854775807) : Calls Try.prog 11 #[.slice A n c] w fun e w' => e = .returned (.bool (decide ((n : Int) ≤ 60))) ∧ w = w' := by
  by_cases h : (n : Int) ≤ 60
  · have H := Lib.hid (show decide ((n : Int) ≤ 60) = true from decide_eq_true h)
    go_enter Try.func11, Try.ntmps11
    go_wp2
    go_ret
    exact ⟨ret_bool H.out.symm, rfl⟩
  · have H : decide ((n : Int) ≤ 60) = false := decide_eq_false h
    rw [H]
    go_enter Try.func11, Try.ntmps11
    go_wp2
    go_ret
    exact ⟨rfl, rfl⟩
/-- The value of a control, among the first k events. -/
def valW (l : List Ev) (ch key tick : Int) : Nat → Int
  | 0 => -1
  | k + 1 => match l[k]? with
    | some x => if isCtl ch key (tick + 1) x = true then x.val else valW l ch key tick k
    | none => valW l ch key tick k
theorem valW_succ {l : List Ev} {ch key tick : Int} {k : Nat} {x : Ev} (h : l[k]? = some x) : valW l ch key tick (k + 1) = if isCtl ch key (tick + 1) x = true then x.val else valW l ch key tick k := by rw [valW, h]
theorem valW_eq (l : List Ev) (ch key tick : Int) : ∀ k, valW l ch key tick k = ((ctlS l ch key (tick + 1) k).map (·.val)).getD (-1)
  | 0 => rfl
  | k + 1 => by
    have ih := valW_eq l ch key tick k
    cases hx : l[k]? with
    | none => rw [valW, ctlS, hx]; exact ih
    | some x =>
      rw [valW_succ hx, ctlS_succ hx]
      split
      · rfl
      · exact ih
theorem valS_eq (l : List Ev) (ch key tick : Int) : valS l ch key tick = valW l ch key tick l.length := (valW_eq l ch key tick l.length).symm
theorem isCtl_cases1 (ch key tick : Int) (x : Ev) : (isCtl ch key (tick + 1) x = true ∧ x.kind = 2 ∧ x.ch = ch ∧ x.key = key ∧ x.tick ≤ tick) ∨
    (isCtl ch key (tick + 1) x = false ∧ (¬ x.kind = 2 ∨ (x.kind = 2 ∧ ¬ x.ch = ch) ∨ (x.kind = 2 ∧ x.ch = ch ∧ ¬ x.key = key) ∨ (x.kind = 2 ∧ x.ch = ch ∧ x.key = key ∧ tick < x.tick))) := by
  unfold isCtl
  simp only [decide_eq_true_eq, decide_eq_false_iff_not]
  omega
set_option maxHeartbeats 4000000 in
theorem value_any (A : Option Addr) (n c : Nat) (l : List Ev) (ch key tick : Int) (w : World) (h : SA evE w A n c l) :
    Calls Try.prog 26 #[.slice A n c, .int .i64 ch, .int .i64 key, .int .i64 tick] w fun e w' => e = .returned (.int .i64 (valS l ch key tick)) ∧ Below w.heap.size w w' := by
  rw [valS_eq]
  have hlen := h.len
  have HL := Lib.hid h.n_eq
  have HS := Lib.hid h
  clear h
  go_enter Try.func26, Try.ntmps26
  go_wp2
  go_loopw [9, 14] (fun v i wr => ∃ k : Nat, k ≤ n ∧ i = .int .i64 k ∧ v = .int .i64 (valW l ch key tick k) ∧ Below w.heap.size w wr) (fun _ i _ => n - (intOf i).toNat)
  case atStart => exact ⟨0, Nat.zero_le _, rfl, rfl, Below.refl _ _⟩
  case round =>
    obtain ⟨k, hk, rfl, rfl, hB⟩ := hrel
    by_cases hlt : k < n
    · have hkl : k < l.length := by rw [HL.out]; exact hlt
      obtain ⟨s, hs⟩ : ∃ s, l[k] = s := ⟨_, rfl⟩
      have hSt := valW_succ (ch := ch) (key := key) (tick := tick) (show l[k]? = some s by rw [List.getElem?_eq_getElem hkl, hs])
      obtain ⟨b, o, rfl, hb, c0, c1, c2, c3, c4, c5⟩ := ev_at (HS.out.below hB) hkl hs
      clear hs
      obtain ⟨st, sq, sc, sk, sv, sn⟩ := s
      dsimp only at c0 c1 c2 c3 c4 c5 hSt
      have g3 : (0 : Int) ≤ (k : Int) := by omega
      have g4 : (k : Int) < (n : Int) := by omega
      have hb1 := Lib.hid (Bel.al hB (.cells #[.int .i64 st, .int .i64 sq, .int .i64 sc, .int .i64 sk, .int .i64 sv, .int .i64 sn] 40))
      rcases isCtl_cases1 ch key tick ⟨st, sq, sc, sk, sv, sn⟩ with ⟨hb, hc⟩ | ⟨hb, hc⟩
      · have HN := Lib.hid (show valW l ch key tick (k + 1) = sv by rw [hSt, if_pos hb])
        clear hSt hb
        dsimp only at hc
        obtain ⟨rfl, rfl, rfl, h1⟩ := hc
        go_wp2
        exact ⟨⟨k + 1, by omega, by simp, by rw [HN.out], hb1.out⟩, by simp only [intOf]; omega⟩
      · have HN := Lib.hid (show valW l ch key tick (k + 1) = valW l ch key tick k by rw [hSt, if_neg (by rw [hb]; simp)])
        clear hSt hb
        dsimp only at hc
        rcases hc with h1 | ⟨rfl, h1⟩ | ⟨rfl, rfl, h1⟩ | ⟨rfl, rfl, rfl, h1⟩
        · have h2 : (sq == 2) = false := by simpa using h1
          go_wp2
          exact ⟨⟨k + 1, by omega, by simp, by rw [HN.out], hb1.out⟩, by simp only [intOf]; omega⟩
        · have h2 : (sc == ch) = false := by simpa using h1
          go_wp2
          exact ⟨⟨k + 1, by omega, by simp, by rw [HN.out], hb1.out⟩, by simp only [intOf]; omega⟩
        · have h2 : (sk == key) = false := by simpa using h1
          go_wp2
          exact ⟨⟨k + 1, by omega, by simp, by rw [HN.out], hb1.out⟩, by simp only [intOf]; omega⟩
        · have h2 : decide (st ≤ tick) = false := by simpa using h1
          go_wp2
          exact ⟨⟨k + 1, by omega, by simp, by rw [HN.out], hb1.out⟩, by simp only [intOf]; omega⟩
    · obtain rfl : k = n := by omega
      have HN := Lib.hid (show valW l ch key tick l.length = valW l ch key tick k by rw [HL.out])
      go_wp2
      go_ret
      exact ⟨ret_int HN.out.symm, hB⟩
theorem ev_ne {x0 x1 x2 x3 x4 x5 y0 y1 y2 y3 y4 y5 : Int} : (x0 = y0 ∧ x1 = y1 ∧ x2 = y2 ∧ x3 = y3 ∧ x4 = y4 ∧ x5 = y5) ∨ ((⟨x0, x1, x2, x3, x4, x5⟩ : Ev) ≠ ⟨y0, y1, y2, y3, y4, y5⟩ ∧
    (¬ x0 = y0 ∨ (x0 = y0 ∧ ¬ x1 = y1) ∨ (x0 = y0 ∧ x1 = y1 ∧ ¬ x2 = y2) ∨ (x0 = y0 ∧ x1 = y1 ∧ x2 = y2 ∧ ¬ x3 = y3) ∨ (x0 = y0 ∧ x1 = y1 ∧ x2 = y2 ∧ x3 = y3 ∧ ¬ x4 = y4) ∨ (x0 = y0 ∧ x1 = y1 ∧ x2 = y2 ∧ x3 = y3 ∧ x4 = y4 ∧ ¬ x5 = y5))) := by
  by_cases h : x0 = y0 ∧ x1 = y1 ∧ x2 = y2 ∧ x3 = y3 ∧ x4 = y4 ∧ x5 = y5
  · exact .inl h
  · refine .inr ⟨fun e => h (by injection e with h1 h2 h3 h4 h5 h6; exact ⟨h1, h2, h3, h4, h5, h6⟩), by omega⟩
set_option maxHeartbeats 4000000 in
theorem in_any (A : Option Addr) (n c : Nat) (l : List Ev) (y0 y1 y2 y3 y4 y5 : Int) (w : World) (h : SA evE w A n c l) :
    Calls Try.prog 27 #[.slice A n c, .agg #[.int .i64 y0, .int .i64 y1, .int .i64 y2, .int .i64 y3, .int .i64 y4, .int .i64 y5]] w fun e w' => e = .returned (.bool (decide ((⟨y0, y1, y2, y3, y4, y5⟩ : Ev) ∈ l))) ∧ Below w.heap.size w w' := by
  have hlen := h.len
  have HL := Lib.hid h.n_eq
  have HS := Lib.hid h
  have hb0 := Blk.new w 40 #[.int .i64 y0, .int .i64 y1, .int .i64 y2, .int .i64 y3, .int .i64 y4, .int .i64 y5]
  have hB0 := Bel.al (Below.refl _ w) (.cells #[.int .i64 y0, .int .i64 y1, .int .i64 y2, .int .i64 y3, .int .i64 y4, .int .i64 y5] 40)
  have H0 := Lib.hid (And.intro hb0 hB0)
  clear h hb0 hB0
  go_enter Try.func27, Try.ntmps27
  go_wp2
  go_loopw [9] (fun i wr => ∃ k : Nat, k ≤ n ∧ i = .int .i64 k ∧ Hid ((⟨y0, y1, y2, y3, y4, y5⟩ : Ev) ∉ l.take k) ∧ Hid (Blk wr w.heap.size 40 #[.int .i64 y0, .int .i64 y1, .int .i64 y2, .int .i64 y3, .int .i64 y4, .int .i64 y5]) ∧ Below w.heap.size w wr) (fun i _ => n - (intOf i).toNat)
  case atStart => exact ⟨0, Nat.zero_le _, rfl, Lib.hid (by simp), Lib.hid H0.out.1, H0.out.2⟩
  case round =>
    clear H0
    obtain ⟨k, hk, rfl, hE, hX, hB⟩ := hrel
    by_cases hlt : k < n
    · have hkl : k < l.length := by rw [HL.out]; exact hlt
      obtain ⟨s, hs⟩ : ∃ s, l[k] = s := ⟨_, rfl⟩
      have hT : l.take (k + 1) = l.take k ++ [s] := by rw [take_succ_get hkl, hs]
      have hM : s ∈ l := by rw [← hs]; exact List.getElem_mem hkl
      obtain ⟨b, o, rfl, hb, c0, c1, c2, c3, c4, c5⟩ := ev_at (HS.out.below hB) hkl hs
      clear hs
      obtain ⟨x0, x1, x2, x3, x4, x5⟩ := s
      dsimp only at c0 c1 c2 c3 c4 c5
      have g3 : (0 : Int) ≤ (k : Int) := by omega
      have g4 : (k : Int) < (n : Int) := by omega
      have hb1 := Lib.hid (Bel.al hB (.cells #[.int .i64 x0, .int .i64 x1, .int .i64 x2, .int .i64 x3, .int .i64 x4, .int .i64 x5] 40))
      have hx1 := Lib.hid (hX.out.alloc (.cells #[.int .i64 x0, .int .i64 x1, .int .i64 x2, .int .i64 x3, .int .i64 x4, .int .i64 x5] 40))
      have d0 := hx1.out.cell 0
      have d1 := hx1.out.cell 1
      have d2 := hx1.out.cell 2
      have d3 := hx1.out.cell 3
      have d4 := hx1.out.cell 4
      have d5 := hx1.out.cell 5
      simp only [List.getElem?_toArray, List.getElem?_cons_zero, List.getElem?_cons_succ] at d0 d1 d2 d3 d4 d5
      rcases @ev_ne x0 x1 x2 x3 x4 x5 y0 y1 y2 y3 y4 y5 with ⟨rfl, rfl, rfl, rfl, rfl, rfl⟩ | ⟨hne, hc⟩
      · have HN := Lib.hid (show decide ((⟨x0, x1, x2, x3, x4, x5⟩ : Ev) ∈ l) = true from decide_eq_true hM)
        clear hT hM
        go_wp2
        go_ret
        exact ⟨ret_bool HN.out.symm, hb1.out⟩
      · have HN := Lib.hid (show (⟨y0, y1, y2, y3, y4, y5⟩ : Ev) ∉ l.take (k + 1) by
          rw [hT, List.mem_append, List.mem_singleton]
          rintro (h | h)
          · exact hE.out h
          · exact hne h.symm)
        clear hT hM hne
        rcases hc with h | ⟨rfl, h⟩ | ⟨rfl, rfl, h⟩ | ⟨rfl, rfl, rfl, h⟩ | ⟨rfl, rfl, rfl, rfl, h⟩ | ⟨rfl, rfl, rfl, rfl, rfl, h⟩
        all_goals
          go_wp2
          exact ⟨⟨k + 1, by omega, by simp, HN, hx1, hb1.out⟩, by simp only [intOf]; omega⟩
    · obtain rfl : k = n := by omega
      have HN := Lib.hid (show decide ((⟨y0, y1, y2, y3, y4, y5⟩ : Ev) ∈ l) = false by
        have := hE.out
        rw [List.take_of_length_le (by rw [HL.out]; omega)] at this
        exact decide_eq_false this)
      go_wp2
      go_ret
      exact ⟨ret_bool HN.out.symm, hB⟩
end Go.Proofs.Ytmfdflfjllpceaa

/- The law MidiSpec: its walk. -/
namespace Go.Proofs.Ytmfdflfjllpceaa
open Go.RowKit

theorem few_yes {A : Option Addr} {n c : Nat} (h : (n : Int) ≤ 60) (w : World) : Calls Try.prog 11 #[.slice A n c] w fun e w' => e = .returned (.bool true) ∧ w = w' := by
  have := few_any A n c w (by omega)
  rwa [decide_eq_true h] at this
theorem few_no {A : Option Addr} {n c : Nat} (h : ¬ (n : Int) ≤ 60) (hl : (n : Int) ≤ 9223372036854775807) (w : World) : Calls Try.prog 11 #[.slice A n c] w fun e w' => e = .returned (.bool false) ∧ w = w' := by
  have := few_any A n c w hl
  rwa [decide_eq_false h] at this
set_option maxHeartbeats 1000000 in
theorem walkMidiSpec (A : Option Addr) (n c : Nat) (L : List EvS) (w : World) (h : SA evES w A n c L) :
    Calls Try.prog 3 #[.slice A n c] w fun e w' => e = .returned (.bool true) ∧ Below w.heap.size w w' := by
  obtain ⟨hs, hI⟩ := h.evs
  clear h
  generalize (L.map (·.1)) = l at hs hI
  have hlen := hs.len
  have CS := sane50_any w
  by_cases hn : (n : Int) ≤ 60
  · have CF := Lib.hid fun w' => few_yes (A := A) (c := c) hn w'
    have C1 := Lib.hid fun (w' : World) (hb : Below w.heap.size w w') => mcheck_any A n c l w' (hs.below hb)
    have C2 := Lib.hid fun (w' : World) (hb : Below w.heap.size w w') => rcheck_any A n c l w' (hs.below hb)
    have C3 := Lib.hid fun (w' : World) (hb : Below w.heap.size w w') => sort_any A n c l w' (hs.below hb) hI (by omega)
    have C4 := Lib.hid fun (w' : World) (hb : Below w.heap.size w w') => rsort_any A n c l w' (hs.below hb) hI (by omega)
    obtain ⟨z, hz⟩ : ∃ z, checkM l = z := ⟨_, rfl⟩
    rw [hz] at C1 C2
    clear hs hI hn hz
    go_enter Try.func3, Try.ntmps3
    go_wp2_with (first
      | (go_at_call 10; (with_reducible refine CS.mono ?_); rintro e w1 ⟨rfl, b1⟩)
      | (go_at_call 11; (with_reducible refine (CF.out _).mono ?_); rintro e w2 ⟨rfl, rfl⟩)
      | (go_at_call 12; (with_reducible refine (C1.out _ b1).mono ?_); rintro e w3 ⟨rfl, b3⟩; have hB3 := Bel.on0 b1 b3)
      | (go_at_call 13; (with_reducible refine (C2.out _ hB3).mono ?_); rintro e w4 ⟨rfl, b4⟩; have hB4 := Bel.on0 hB3 b4)
      | (go_at_call 15; (with_reducible refine (C3.out _ hB4).mono ?_); rintro e w5 ⟨A5, n5, c5, rfl, h5, b5⟩; have hB5 := Bel.on0 hB4 b5)
      | (go_at_call 16; (with_reducible refine (C4.out _ hB5).mono ?_); rintro e w6 ⟨A6, n6, c6, rfl, h6, b6⟩; have hB6 := Bel.on0 hB5 b6; have H5 := Lib.hid (h5.sa.below b6); have H6 := Lib.hid h6; clear h5 h6)
      | (go_at_call 14; (with_reducible refine (rsame_eq H5.out H6.out rfl).mono ?_); rintro e w7 ⟨rfl, b7⟩; have hB7 := Bel.on0 hB6 b7))
    go_ret
    exact ⟨rfl, hB7⟩
  · have CF := Lib.hid fun w' => few_no (A := A) (c := c) hn hlen w'
    go_enter Try.func3, Try.ntmps3
    go_wp2_with (first
      | (go_at_call 10; (with_reducible refine CS.mono ?_); rintro e w1 ⟨rfl, b1⟩)
      | (go_at_call 11; (with_reducible refine (CF.out _).mono ?_); rintro e w2 ⟨rfl, rfl⟩))
    go_ret
    exact ⟨rfl, b1⟩
end Go.Proofs.Ytmfdflfjllpceaa
