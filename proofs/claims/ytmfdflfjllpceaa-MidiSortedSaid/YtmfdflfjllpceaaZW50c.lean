/- The law MidiDivided: its walk. -/
import Derived.Test.YtmfdflfjllpceaaZW50b
namespace Go.Proofs.Ytmfdflfjllpceaa
open Go.RowKit

/-- The program's Slice at a valid short list. -/
theorem slice_yes {A : Option Addr} {n c : Nat} {l : List Ev} {fr hi : Int} {w w' : World} (h : SA evE w A n c l) (hI : ∀ e ∈ l, EvI e) (hc : checkM l = 0) (hl : l.length ≤ 60) (hp : PtOk fr hi) (hb : Below w.heap.size w w') :
    Calls Try.prog 21 #[.slice A n c, .int .i64 fr, .int .i64 hi] w' fun e w'' => ∃ A' n' c', e = .returned (.tuple #[.slice A' n' c', .int .i64 0]) ∧ SA evE w'' A' n' c' (csort (partL l fr hi)) ∧ Below w'.heap.size w' w'' := by
  have hp2 := hp
  obtain ⟨p1, p2, p3⟩ := hp2
  have := mslice_any A n c l fr hi w' (h.below hb) hI (by unfold I64; omega) (by unfold I64; omega)
  rw [slice_code hc hl, if_pos hp] at this
  exact this
theorem slice_any2 {A : Option Addr} {n c : Nat} {l : List Ev} {fr hi : Int} {w w' : World} (h : SA evE w A n c l) (hI : ∀ e ∈ l, EvI e) (h1 : I64 fr) (h2 : I64 hi) (hb : Below w.heap.size w w') :
    Calls Try.prog 21 #[.slice A n c, .int .i64 fr, .int .i64 hi] w' fun e w'' => ∃ A' n' c' k, e = .returned (.tuple #[.slice A' n' c', .int .i64 k]) ∧ Below w'.heap.size w' w'' :=
  (mslice_any A n c l fr hi w' (h.below hb) hI h1 h2).mono fun _ _ ⟨A', n', c', he, _, hb⟩ => ⟨A', n', c', _, he, hb⟩
theorem slice_no {A : Option Addr} {n c : Nat} {l : List Ev} {fr hi : Int} {w w' : World} (h : SA evE w A n c l) (hI : ∀ e ∈ l, EvI e) (h1 : I64 fr) (h2 : I64 hi) (hc : checkM l = 0) (hl : l.length ≤ 60) (hp : ¬ PtOk fr hi) (hb : Below w.heap.size w w') :
    Calls Try.prog 21 #[.slice A n c, .int .i64 fr, .int .i64 hi] w' fun e w'' => ∃ A' c', e = .returned (.tuple #[.slice A' 0 c', .int .i64 1]) ∧ Below w'.heap.size w' w'' := by
  have := mslice_any A n c l fr hi w' (h.below hb) hI h1 h2
  rw [slice_code hc hl, if_neg hp] at this
  refine this.mono ?_
  rintro e w'' ⟨A', n', c', he, ho, hb⟩
  have hn : n' = 0 := ho.n_eq.symm
  subst hn
  exact ⟨A', c', he, hb⟩
theorem rcheck_eq {A : Option Addr} {n c : Nat} {l : List Ev} {k : Int} {w w' : World} (h : SA evE w A n c l) (e : checkM l = k) (hb : Below w.heap.size w w') : Calls Try.prog 13 #[.slice A n c] w' fun e w'' => e = .returned (.int .i64 k) ∧ Below w'.heap.size w' w'' := by
  have := rcheck_any A n c l w' (h.below hb)
  rwa [e] at this
/-- What the loop over the whole asks of an event. -/
theorem div_whole_cases {l : List Ev} {fr mid hi : Int} (hc : checkM l = 0) {e : Ev} (he : e ∈ csort (partL l fr hi)) :
    (decide (e ∈ csort (partL l fr mid)) = true) ∨ (decide (e ∈ csort (partL l fr mid)) = false ∧ decide (e ∈ csort (partL l mid hi)) = true) ∨ (decide (e ∈ csort (partL l fr mid)) = false ∧ decide (e ∈ csort (partL l mid hi)) = false ∧ e.kind = 1 ∧ e.tick = hi) := by
  by_cases h1 : e ∈ csort (partL l fr mid)
  · exact .inl (decide_eq_true h1)
  · by_cases h2 : e ∈ csort (partL l mid hi)
    · exact .inr (.inl ⟨decide_eq_false h1, decide_eq_true h2⟩)
    · refine .inr (.inr ⟨decide_eq_false h1, decide_eq_false h2, ?_⟩)
      rcases div_whole (mid := mid) hc he with h | h | h
      · exact absurd h h1
      · exact absurd h h2
      · exact h
theorem div_both_cases {l : List Ev} {fr mid hi : Int} (hc : checkM l = 0) (h1 : fr ≤ mid) (h2 : mid ≤ hi) {e : Ev} (he : e ∈ csort (partL l fr mid) ++ csort (partL l mid hi)) :
    (decide (e ∈ csort (partL l fr hi)) = true) ∨ (decide (e ∈ csort (partL l fr hi)) = false ∧ e.tick = mid ∧ (e.kind == 3) = false ∧ ¬ e.kind = 3) ∨ (decide (e ∈ csort (partL l fr hi)) = false ∧ ((¬ e.tick = mid) ∨ (e.tick = mid ∧ e.kind = 3)) ∧ e.tick = hi ∧ e.kind = 1) := by
  by_cases h3 : e ∈ csort (partL l fr hi)
  · exact .inl (decide_eq_true h3)
  · have h4 := decide_eq_false h3
    rcases List.mem_append.1 he with h | h
    · rcases div_first hc h2 h with h | ⟨h5, h6⟩
      · exact absurd h h3
      · exact .inr (.inl ⟨h4, h5, by simpa using h6, h6⟩)
    · rcases div_second (fr := fr) hc h1 h with h | ⟨h5, h6⟩ | ⟨h5, h6⟩
      · exact absurd h h3
      · exact .inr (.inl ⟨h4, h5, by simpa using h6, h6⟩)
      · by_cases h7 : e.tick = mid
        · exact .inr (.inl ⟨h4, h7, by rw [h6]; rfl, by omega⟩)
        · exact .inr (.inr ⟨h4, .inl h7, h5, h6⟩)
theorem csort_evI {l : List Ev} {fr hi : Int} (hI : ∀ e ∈ l, EvI e) (h1 : I64 fr) (h2 : I64 hi) : ∀ e ∈ csort (partL l fr hi), EvI e := fun e he => partL_evI hI h1 h2 e (csort_mem.1 he)
set_option maxHeartbeats 4000000 in
set_option maxRecDepth 100000 in
theorem walkMidiDivided (A : Option Addr) (n c : Nat) (L : List EvS) (fr mid hi : Int) (w : World) (h : SA evES w A n c L) (i1 : I64 fr) (i2 : I64 mid) (i3 : I64 hi) :
    Calls Try.prog 9 #[.slice A n c, .int .i64 fr, .int .i64 mid, .int .i64 hi] w fun e w' => e = .returned (.bool true) ∧ Below w.heap.size w w' := by
  obtain ⟨hs, hI⟩ := h.evs
  clear h
  generalize (L.map (·.1)) = l at hs hI
  have hlen := hs.len
  have CS := sane50_any w
  by_cases hn : (n : Int) ≤ 60
  · have CF := Lib.hid fun w' => few_yes (A := A) (c := c) hn w'
    by_cases hc : checkM l = 0
    · have C2 := Lib.hid fun (w' : World) (hb : Below w.heap.size w w') => rcheck_eq hs hc hb
      by_cases hm1 : mid < fr
      · clear hs hI hn hc i1 i2 i3
        go_enter Try.func9, Try.ntmps9
        go_wp2_with (first
          | (go_at_call 10; (with_reducible refine CS.mono ?_); rintro e w1 ⟨rfl, b1⟩)
          | (go_at_call 11; (with_reducible refine (CF.out _).mono ?_); rintro e w2 ⟨rfl, rfl⟩)
          | (go_at_call 13; (with_reducible refine (C2.out _ b1).mono ?_); rintro e w3 ⟨rfl, b3⟩; have hB3 := Bel.on0 b1 b3))
        go_ret
        exact ⟨rfl, hB3⟩
      · have hm1' : decide (mid < fr) = false := decide_eq_false hm1
        by_cases hm2 : hi < mid
        · clear hs hI hn hc i1 i2 i3 hm1
          go_enter Try.func9, Try.ntmps9
          go_wp2_with (first
            | (go_at_call 10; (with_reducible refine CS.mono ?_); rintro e w1 ⟨rfl, b1⟩)
            | (go_at_call 11; (with_reducible refine (CF.out _).mono ?_); rintro e w2 ⟨rfl, rfl⟩)
            | (go_at_call 13; (with_reducible refine (C2.out _ b1).mono ?_); rintro e w3 ⟨rfl, b3⟩; have hB3 := Bel.on0 b1 b3))
          go_ret
          exact ⟨rfl, hB3⟩
        · have hm2' : decide (hi < mid) = false := decide_eq_false hm2
          have hl : l.length ≤ 60 := by rw [hs.n_eq]; omega
          by_cases hp : PtOk fr hi
          · have hp1 : PtOk fr mid := by obtain ⟨p1, p2, p3⟩ := hp; exact ⟨p1, by omega, by omega⟩
            have hp2 : PtOk mid hi := by obtain ⟨p1, p2, p3⟩ := hp; exact ⟨by omega, by omega, by omega⟩
            have S1 := Lib.hid fun (w' : World) (hb : Below w.heap.size w w') => slice_yes hs hI hc hl hp hb
            have S2 := Lib.hid fun (w' : World) (hb : Below w.heap.size w w') => slice_yes hs hI hc hl hp1 hb
            have S3 := Lib.hid fun (w' : World) (hb : Below w.heap.size w w') => slice_yes hs hI hc hl hp2 hb
            have HW := Lib.hid fun e he => div_whole_cases (fr := fr) (mid := mid) (hi := hi) hc (e := e) he
            have HBo := Lib.hid fun e he => div_both_cases (fr := fr) (mid := mid) (hi := hi) hc (by omega) (by omega) (e := e) he
            have HLn := Lib.hid (show (csort (partL l fr hi)).length ≤ 180 ∧ (csort (partL l fr mid)).length ≤ 180 ∧ (csort (partL l mid hi)).length ≤ 180 by
              have a1 := part_len (fr := fr) (hi := hi) hc
              have a2 := part_len (fr := fr) (hi := mid) hc
              have a3 := part_len (fr := mid) (hi := hi) hc
              omega)
            obtain ⟨X, hX⟩ : ∃ X, csort (partL l fr hi) = X := ⟨_, rfl⟩
            obtain ⟨Y, hY⟩ : ∃ Y, csort (partL l fr mid) = Y := ⟨_, rfl⟩
            obtain ⟨Z, hZ⟩ : ∃ Z, csort (partL l mid hi) = Z := ⟨_, rfl⟩
            rw [hX] at S1 HW HBo HLn
            rw [hY] at S2 HW HBo HLn
            rw [hZ] at S3 HW HBo HLn
            clear hs hI hn hc i1 i2 i3 hm1 hm2 hp hp1 hp2 hX hY hZ hl
            go_enter Try.func9, Try.ntmps9
            go_wp2_with fail
            refine CS.mono ?_; rintro e w1 ⟨rfl, b1⟩
            go_wp2_with fail
            refine (CF.out _).mono ?_; rintro e w2 ⟨rfl, rfl⟩
            go_wp2_with fail
            refine (C2.out _ b1).mono ?_; rintro e w3 ⟨rfl, b3⟩; have hB3 := Bel.on0 b1 b3
            go_wp2_with fail
            refine (S1.out _ hB3).mono ?_; rintro e w4 ⟨A4, n4, c4, rfl, h4, b4⟩; have hB4 := Bel.on0 hB3 b4; have H4 := Lib.hid h4; clear h4
            go_wp2_with fail
            refine (S2.out _ hB4).mono ?_; rintro e w5 ⟨A5, n5, c5, rfl, h5, b5⟩; have hB5 := Bel.on0 hB4 b5; have H5 := Lib.hid h5; clear h5
            go_wp2_with fail
            refine (S3.out _ hB5).mono ?_; rintro e w6 ⟨A6, n6, c6, rfl, h6, b6⟩; have hB6 := Bel.on0 hB5 b6; have H6 := Lib.hid h6; clear h6
            go_wp2_with fail
            have H4b := Lib.hid ((H4.out.below b5).below b6)
            have H5b := Lib.hid (H5.out.below b6)
            clear H4 H5 b5 b6 S1 S2 S3 CS CF C2 hB3 hB4 hB5 b1 b3 b4
            go_loopw [73] (fun i wr => ∃ k : Nat, k ≤ n4 ∧ i = .int .i64 k ∧ Below w6.heap.size w6 wr) (fun i _ => n4 - (intOf i).toNat)
            case atStart => exact ⟨0, Nat.zero_le _, rfl, Below.refl _ _⟩
            case round =>
              obtain ⟨k, hk, rfl, hB⟩ := hrel
              have HBW := Lib.hid (Bel.on0 hB6 hB)
              have h4n := H4b.out.n_eq
              have h5n := H5b.out.n_eq
              have h6n := H6.out.n_eq
              have hln := HLn.out
              by_cases hlt : k < n4
              · have hkl : k < X.length := by omega
                obtain ⟨s, hs⟩ : ∃ s, X[k] = s := ⟨_, rfl⟩
                have hM : s ∈ X := by rw [← hs]; exact List.getElem_mem hkl
                obtain ⟨bb, oo, rfl, hbb, a0, a1, a2, a3, a4, a5⟩ := ev_at (H4b.out.below hB) hkl hs
                have hcase := HW.out s hM
                have gw : IntKind.i64.wrap ((k : Int) + 1) = (k : Int) + 1 := IntWalk.i64_in _ (by omega)
                clear hs hM hkl h4n h5n h6n hln
                obtain ⟨y0, y1, y2, y3, y4, y5⟩ := s
                dsimp only at a0 a1 a2 a3 a4 a5 hcase
                have g3 : (0 : Int) ≤ (k : Int) := by omega
                have g4 : (k : Int) < (n4 : Int) := by omega
                have hbx := Blk.new wr 40 #[.int .i64 y0, .int .i64 y1, .int .i64 y2, .int .i64 y3, .int .i64 y4, .int .i64 y5]
                have hb1 := Bel.al hB (.cells #[.int .i64 y0, .int .i64 y1, .int .i64 y2, .int .i64 y3, .int .i64 y4, .int .i64 y5] 40)
                have CI1 := in_any A5 n5 c5 Y y0 y1 y2 y3 y4 y5 _ (H5b.out.below hb1)
                have CI2 := Lib.hid fun (w9 : World) (hb : Below w6.heap.size w6 w9) => in_any A6 n6 c6 Z y0 y1 y2 y3 y4 y5 w9 (H6.out.below hb)
                rcases hcase with hc1 | ⟨hc1, hc2⟩ | ⟨hc1, hc2, hc3, hc4⟩
                · rw [hc1] at CI1
                  go_wp2_with (go_at_call 27; (with_reducible refine CI1.mono ?_); rintro e w7 ⟨rfl, b7⟩; (have HB7 := Lib.hid (Bel.on0 hb1 b7)); (have hd := hbx.belowAll b7); (have d0 : w7.cell? ⟨wr.heap.size, 0, none⟩ = some (.int .i64 y0) := hd.cell 0); (have d1 : w7.cell? ⟨wr.heap.size, 1, none⟩ = some (.int .i64 y1) := hd.cell 1); (have d2 : w7.cell? ⟨wr.heap.size, 2, none⟩ = some (.int .i64 y2) := hd.cell 2); (have d3 : w7.cell? ⟨wr.heap.size, 3, none⟩ = some (.int .i64 y3) := hd.cell 3); (have d4 : w7.cell? ⟨wr.heap.size, 4, none⟩ = some (.int .i64 y4) := hd.cell 4); (have d5 : w7.cell? ⟨wr.heap.size, 5, none⟩ = some (.int .i64 y5) := hd.cell 5); (have b7k := Lib.hid b7); (clear hd b7 CI1))
                  exact ⟨⟨k + 1, by omega, by simp, HB7.out⟩, by simp only [intOf]; omega⟩
                · rw [hc1] at CI1
                  rw [hc2] at CI2
                  go_wp2_with (first | (go_at_call 27; (with_reducible refine CI1.mono ?_); rintro e w7 ⟨rfl, b7⟩; (have HB7 := Lib.hid (Bel.on0 hb1 b7)); (have hd := hbx.belowAll b7); (have d0 : w7.cell? ⟨wr.heap.size, 0, none⟩ = some (.int .i64 y0) := hd.cell 0); (have d1 : w7.cell? ⟨wr.heap.size, 1, none⟩ = some (.int .i64 y1) := hd.cell 1); (have d2 : w7.cell? ⟨wr.heap.size, 2, none⟩ = some (.int .i64 y2) := hd.cell 2); (have d3 : w7.cell? ⟨wr.heap.size, 3, none⟩ = some (.int .i64 y3) := hd.cell 3); (have d4 : w7.cell? ⟨wr.heap.size, 4, none⟩ = some (.int .i64 y4) := hd.cell 4); (have d5 : w7.cell? ⟨wr.heap.size, 5, none⟩ = some (.int .i64 y5) := hd.cell 5); (have b7k := Lib.hid b7); (clear hd b7 CI1)) | (go_at_call 27; (with_reducible refine (CI2.out _ HB7.out).mono ?_); rintro e w8 ⟨rfl, b8⟩; (have HB8 := Lib.hid (Bel.on0 HB7.out b8)); (have he := ((hbx.belowAll b7k.out).belowAll b8)); (have e0 : w8.cell? ⟨wr.heap.size, 0, none⟩ = some (.int .i64 y0) := he.cell 0); (have e1 : w8.cell? ⟨wr.heap.size, 1, none⟩ = some (.int .i64 y1) := he.cell 1); (have e2 : w8.cell? ⟨wr.heap.size, 2, none⟩ = some (.int .i64 y2) := he.cell 2); (have e3 : w8.cell? ⟨wr.heap.size, 3, none⟩ = some (.int .i64 y3) := he.cell 3); (have e4 : w8.cell? ⟨wr.heap.size, 4, none⟩ = some (.int .i64 y4) := he.cell 4); (have e5 : w8.cell? ⟨wr.heap.size, 5, none⟩ = some (.int .i64 y5) := he.cell 5); (clear he b8)))
                  exact ⟨⟨k + 1, by omega, by simp, HB8.out⟩, by simp only [intOf]; omega⟩
                · rw [hc1] at CI1
                  rw [hc2] at CI2
                  subst hc3 hc4
                  go_wp2_with (first | (go_at_call 27; (with_reducible refine CI1.mono ?_); rintro e w7 ⟨rfl, b7⟩; (have HB7 := Lib.hid (Bel.on0 hb1 b7)); (have hd := hbx.belowAll b7); (have d0 : w7.cell? ⟨wr.heap.size, 0, none⟩ = some (.int .i64 y0) := hd.cell 0); (have d1 : w7.cell? ⟨wr.heap.size, 1, none⟩ = some (.int .i64 1) := hd.cell 1); (have d2 : w7.cell? ⟨wr.heap.size, 2, none⟩ = some (.int .i64 y2) := hd.cell 2); (have d3 : w7.cell? ⟨wr.heap.size, 3, none⟩ = some (.int .i64 y3) := hd.cell 3); (have d4 : w7.cell? ⟨wr.heap.size, 4, none⟩ = some (.int .i64 y4) := hd.cell 4); (have d5 : w7.cell? ⟨wr.heap.size, 5, none⟩ = some (.int .i64 y5) := hd.cell 5); (have b7k := Lib.hid b7); (clear hd b7 CI1)) | (go_at_call 27; (with_reducible refine (CI2.out _ HB7.out).mono ?_); rintro e w8 ⟨rfl, b8⟩; (have HB8 := Lib.hid (Bel.on0 HB7.out b8)); (have he := ((hbx.belowAll b7k.out).belowAll b8)); (have e0 : w8.cell? ⟨wr.heap.size, 0, none⟩ = some (.int .i64 y0) := he.cell 0); (have e1 : w8.cell? ⟨wr.heap.size, 1, none⟩ = some (.int .i64 1) := he.cell 1); (have e2 : w8.cell? ⟨wr.heap.size, 2, none⟩ = some (.int .i64 y2) := he.cell 2); (have e3 : w8.cell? ⟨wr.heap.size, 3, none⟩ = some (.int .i64 y3) := he.cell 3); (have e4 : w8.cell? ⟨wr.heap.size, 4, none⟩ = some (.int .i64 y4) := he.cell 4); (have e5 : w8.cell? ⟨wr.heap.size, 5, none⟩ = some (.int .i64 y5) := he.cell 5); (clear he b8)))
                  exact ⟨⟨k + 1, by omega, by simp, HB8.out⟩, by simp only [intOf]; omega⟩
              · obtain rfl : k = n4 := by omega
                have HB0 := Lib.hid hB
                have ho0 := OA.litL (e := evE) (l := []) (n := 0) (cs := #[]) wr hB.size rfl rfl (by omega)
                have hb0 := Bel.al hB (.cells #[] 40)
                obtain ⟨A7, c7, W7, eA7, ho7, hb7, hfar7, _⟩ := ho0.app (H5b.out.below hb0) hb0.size (by omega)
                rw [Nat.zero_add] at eA7 ho7
                rw [List.nil_append] at ho7
                have hbb7 := hb0.trans hb7
                obtain ⟨A8, c8, W8, eA8, ho8, hb8, _⟩ := ho7.app (H6.out.below hbb7) hbb7.size (by omega)
                have HB8 := Lib.hid (hbb7.trans hb8)
                have H8 := Lib.hid ho8.sa
                clear ho0 hb0 ho7 hb7 hfar7 hbb7 ho8 hb8 h4n h5n h6n hln hB HW
                go_wp2_with (first
                  | (at_builtin; refine wpList_append_eq (v1 := .slice (some ⟨wr.heap.size, 0, none⟩) 0 0) (v2 := .slice A5 n5 c5) rfl (.tmp 102) (.tmp 103) 22 rfl rfl rfl eA7 ?_; clear eA7)
                  | (at_builtin; refine wpList_append_eq (v1 := .slice A7 n5 c7) (v2 := .slice A6 n6 c6) rfl (.tmp 104) (.tmp 105) 22 rfl rfl rfl eA8 ?_; clear eA8))
                have HWX := H4b
                clear HWX
                go_loopw [108] (fun i wr2 => ∃ k2 : Nat, k2 ≤ n5 + n6 ∧ i = .int .i64 k2 ∧ Below W8.heap.size W8 wr2) (fun i _ => n5 + n6 - (intOf i).toNat)
                case atStart => exact ⟨0, Nat.zero_le _, rfl, Below.refl _ _⟩
                case round =>
                  obtain ⟨k2, hk2, rfl, hC⟩ := hrel
                  have HX := Lib.hid (H4b.out.below (Bel.on0 HB8.out hC))
                  have HCW := Lib.hid (Bel.on0 hB6 (Bel.on0 HB8.out hC))
                  have h8n := H8.out.n_eq
                  have hln := HLn.out
                  have h5n := H5b.out.n_eq
                  have h6n := H6.out.n_eq
                  by_cases hlt2 : k2 < n5 + n6
                  · have hkl : k2 < (Y ++ Z).length := by rw [h8n]; exact hlt2
                    obtain ⟨s, hs⟩ : ∃ s, (Y ++ Z)[k2] = s := ⟨_, rfl⟩
                    have hM : s ∈ Y ++ Z := by rw [← hs]; exact List.getElem_mem hkl
                    obtain ⟨bb, oo, rfl, hbb, a0, a1, a2, a3, a4, a5⟩ := ev_at (H8.out.below hC) hkl hs
                    have hcase := HBo.out s hM
                    clear hs hM hkl
                    obtain ⟨y0, y1, y2, y3, y4, y5⟩ := s
                    dsimp only at a0 a1 a2 a3 a4 a5 hcase
                    have g3 : (0 : Int) ≤ (k2 : Int) := by omega
                    have g4 : (k2 : Int) < ((n5 + n6 : Nat) : Int) := by omega
                    have gw : IntKind.i64.wrap ((k2 : Int) + 1) = (k2 : Int) + 1 := IntWalk.i64_in _ (by omega)
                    clear h8n hln h5n h6n
                    have hbx := Blk.new wr 40 #[.int .i64 y0, .int .i64 y1, .int .i64 y2, .int .i64 y3, .int .i64 y4, .int .i64 y5]
                    have hb1 := Bel.al hC (.cells #[.int .i64 y0, .int .i64 y1, .int .i64 y2, .int .i64 y3, .int .i64 y4, .int .i64 y5] 40)
                    have CI1 := in_any A4 k c4 X y0 y1 y2 y3 y4 y5 _ (HX.out.below (Bel.al (Below.refl _ wr) (.cells #[.int .i64 y0, .int .i64 y1, .int .i64 y2, .int .i64 y3, .int .i64 y4, .int .i64 y5] 40)))
                    rcases hcase with hc1 | ⟨hc1, hc2, hc3, hc4⟩ | ⟨hc1, hc2, hc3, hc4⟩
                    · rw [hc1] at CI1
                      go_wp2_with (go_at_call 27; (with_reducible refine CI1.mono ?_); rintro e w9 ⟨rfl, b9⟩; (have HB9 := Lib.hid (Bel.on0 hb1 b9)); (have hd := hbx.belowAll b9); (have d0 : w9.cell? ⟨wr.heap.size, 0, none⟩ = some (.int .i64 y0) := hd.cell 0); (have d1 : w9.cell? ⟨wr.heap.size, 1, none⟩ = some (.int .i64 y1) := hd.cell 1); (have d2 : w9.cell? ⟨wr.heap.size, 2, none⟩ = some (.int .i64 y2) := hd.cell 2); (have d3 : w9.cell? ⟨wr.heap.size, 3, none⟩ = some (.int .i64 y3) := hd.cell 3); (have d4 : w9.cell? ⟨wr.heap.size, 4, none⟩ = some (.int .i64 y4) := hd.cell 4); (have d5 : w9.cell? ⟨wr.heap.size, 5, none⟩ = some (.int .i64 y5) := hd.cell 5); (clear hd b9 CI1))
                      exact ⟨⟨k2 + 1, by omega, by simp, HB9.out⟩, by simp only [intOf]; omega⟩
                    · rw [hc1] at CI1
                      subst hc2
                      go_wp2_with (go_at_call 27; (with_reducible refine CI1.mono ?_); rintro e w9 ⟨rfl, b9⟩; (have HB9 := Lib.hid (Bel.on0 hb1 b9)); (have hd := hbx.belowAll b9); (have d0 : w9.cell? ⟨wr.heap.size, 0, none⟩ = some (.int .i64 y0) := hd.cell 0); (have d1 : w9.cell? ⟨wr.heap.size, 1, none⟩ = some (.int .i64 y1) := hd.cell 1); (have d2 : w9.cell? ⟨wr.heap.size, 2, none⟩ = some (.int .i64 y2) := hd.cell 2); (have d3 : w9.cell? ⟨wr.heap.size, 3, none⟩ = some (.int .i64 y3) := hd.cell 3); (have d4 : w9.cell? ⟨wr.heap.size, 4, none⟩ = some (.int .i64 y4) := hd.cell 4); (have d5 : w9.cell? ⟨wr.heap.size, 5, none⟩ = some (.int .i64 y5) := hd.cell 5); (clear hd b9 CI1))
                      exact ⟨⟨k2 + 1, by omega, by simp, HB9.out⟩, by simp only [intOf]; omega⟩
                    · rw [hc1] at CI1
                      rcases hc2 with hc2 | ⟨hc2, hc5⟩
                      · have hc6 : (y0 == mid) = false := by simpa using hc2
                        subst hc3 hc4
                        go_wp2_with (go_at_call 27; (with_reducible refine CI1.mono ?_); rintro e w9 ⟨rfl, b9⟩; (have HB9 := Lib.hid (Bel.on0 hb1 b9)); (have hd := hbx.belowAll b9); (have d0 : w9.cell? ⟨wr.heap.size, 0, none⟩ = some (.int .i64 y0) := hd.cell 0); (have d1 : w9.cell? ⟨wr.heap.size, 1, none⟩ = some (.int .i64 1) := hd.cell 1); (have d2 : w9.cell? ⟨wr.heap.size, 2, none⟩ = some (.int .i64 y2) := hd.cell 2); (have d3 : w9.cell? ⟨wr.heap.size, 3, none⟩ = some (.int .i64 y3) := hd.cell 3); (have d4 : w9.cell? ⟨wr.heap.size, 4, none⟩ = some (.int .i64 y4) := hd.cell 4); (have d5 : w9.cell? ⟨wr.heap.size, 5, none⟩ = some (.int .i64 y5) := hd.cell 5); (clear hd b9 CI1))
                        exact ⟨⟨k2 + 1, by omega, by simp, HB9.out⟩, by simp only [intOf]; omega⟩
                      · exfalso; omega
                  · obtain rfl : k2 = n5 + n6 := by omega
                    go_wp2
                    go_ret
                    exact ⟨rfl, HCW.out⟩
          · have S1 := Lib.hid fun (w' : World) (hb : Below w.heap.size w w') => slice_no hs hI i1 i3 hc hl hp hb
            have S2 := Lib.hid fun (w' : World) (hb : Below w.heap.size w w') => slice_any2 hs hI i1 i2 hb
            have S3 := Lib.hid fun (w' : World) (hb : Below w.heap.size w w') => slice_any2 hs hI i2 i3 hb
            clear hs hI hn hc i1 i2 i3 hm1 hm2 hp hl
            go_enter Try.func9, Try.ntmps9
            go_wp2_with fail
            refine CS.mono ?_; rintro e w1 ⟨rfl, b1⟩
            go_wp2_with fail
            refine (CF.out _).mono ?_; rintro e w2 ⟨rfl, rfl⟩
            go_wp2_with fail
            refine (C2.out _ b1).mono ?_; rintro e w3 ⟨rfl, b3⟩; have hB3 := Bel.on0 b1 b3
            go_wp2_with fail
            refine (S1.out _ hB3).mono ?_; rintro e w4 ⟨A4, c4, rfl, b4⟩; have hB4 := Bel.on0 hB3 b4
            go_wp2_with fail
            refine (S2.out _ hB4).mono ?_; rintro e w5 ⟨A5, n5, c5, k5, rfl, b5⟩; have hB5 := Bel.on0 hB4 b5
            go_wp2_with fail
            refine (S3.out _ hB5).mono ?_; rintro e w6 ⟨A6, n6, c6, k6, rfl, b6⟩; have hB6 := Bel.on0 hB5 b6
            go_wp2_with fail
            go_ret
            exact ⟨rfl, hB6⟩
    · obtain ⟨z, hz⟩ : ∃ z, checkM l = z := ⟨_, rfl⟩
      have C2 := Lib.hid fun (w' : World) (hb : Below w.heap.size w w') => rcheck_eq hs hz hb
      have hz1 : (z != 0) = true := by rw [← hz]; simpa using hc
      clear hs hI hn hc i1 i2 i3 hz
      go_enter Try.func9, Try.ntmps9
      go_wp2_with (first
        | (go_at_call 10; (with_reducible refine CS.mono ?_); rintro e w1 ⟨rfl, b1⟩)
        | (go_at_call 11; (with_reducible refine (CF.out _).mono ?_); rintro e w2 ⟨rfl, rfl⟩)
        | (go_at_call 13; (with_reducible refine (C2.out _ b1).mono ?_); rintro e w3 ⟨rfl, b3⟩; have hB3 := Bel.on0 b1 b3))
      go_ret
      exact ⟨rfl, hB3⟩
  · have CF := Lib.hid fun w' => few_no (A := A) (c := c) hn hlen w'
    go_enter Try.func9, Try.ntmps9
    go_wp2_with (first
      | (go_at_call 10; (with_reducible refine CS.mono ?_); rintro e w1 ⟨rfl, b1⟩)
      | (go_at_call 11; (with_reducible refine (CF.out _).mono ?_); rintro e w2 ⟨rfl, rfl⟩))
    go_ret
    exact ⟨rfl, b1⟩
end Go.Proofs.Ytmfdflfjllpceaa
