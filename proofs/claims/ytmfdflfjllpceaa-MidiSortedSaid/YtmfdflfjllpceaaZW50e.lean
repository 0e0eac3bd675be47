/- The law MidiSlice: its walk. -/
import Derived.Test.YtmfdflfjllpceaaZW50d
namespace Go.Proofs.Ytmfdflfjllpceaa
open Go.RowKit

def win (fr hi : Int) (e : Ev) : Bool := decide (fr ≤ e.tick ∧ e.tick < hi)
/-- How many notes begin among the first k events; within a part. -/
def cnt3 (l : List Ev) (k : Nat) : Nat := ((l.take k).filter on3).length
def cntW (fr hi : Int) (l : List Ev) (k : Nat) : Nat := (((l.take k).filter (win fr hi)).filter on3).length
theorem cnt3_succ {l : List Ev} {k : Nat} {x : Ev} (h : l[k]? = some x) : cnt3 l (k + 1) = cnt3 l k + if x.kind = 3 then 1 else 0 := by
  unfold cnt3 on3
  rw [List.take_add_one, h, List.filter_append, List.length_append]
  congr 1
  by_cases h3 : x.kind = 3 <;> simp [h3]
theorem cntW_succ {fr hi : Int} {l : List Ev} {k : Nat} {x : Ev} (h : l[k]? = some x) : cntW fr hi l (k + 1) = cntW fr hi l k + if (fr ≤ x.tick ∧ x.tick < hi) ∧ x.kind = 3 then 1 else 0 := by
  unfold cntW on3 win
  rw [List.take_add_one, h, List.filter_append, List.filter_append, List.length_append]
  congr 1
  by_cases h2 : fr ≤ x.tick ∧ x.tick < hi <;> by_cases h3 : x.kind = 3 <;> simp [h2, h3]
theorem cnt3_le (l : List Ev) (k : Nat) : cnt3 l k ≤ k := by
  unfold cnt3
  have h1 := List.length_filter_le on3 (l.take k)
  rw [List.length_take] at h1
  omega
theorem cntW_le (fr hi : Int) (l : List Ev) (k : Nat) : cntW fr hi l k ≤ k := by
  unfold cntW
  have h1 := List.length_filter_le on3 ((l.take k).filter (win fr hi))
  have h2 := List.length_filter_le (win fr hi) (l.take k)
  rw [List.length_take] at h2
  omega
theorem cnt_part {l : List Ev} {fr hi : Int} (hc : checkM l = 0) : cnt3 (csort (partL l fr hi)) (csort (partL l fr hi)).length = cntW fr hi l l.length := by
  unfold cnt3 cntW win
  rw [List.take_length, List.take_length, part_many hc]
theorem notes_end {l : List Ev} {fr hi : Int} (hc : checkM l = 0) (hl : l.length ≤ 60) (hp : PtOk fr hi) : ∀ q ∈ notesA (csort (partL l fr hi)), 0 ≤ q.2 := by
  have h2 := part_ok hc hl hp
  intro q hq
  unfold notesA at hq
  rw [if_pos h2, notes_eq h2] at hq
  exact part_ends hc hq
theorem notesA_len (l : List Ev) : (notesA l).length ≤ l.length := by
  rw [← notes_both]
  split
  · exact rN_len l _
  · simp
/-- What the loop over a part asks of an event. -/
theorem in_cases {t q fr hi : Int} (h : fr ≤ t ∧ t ≤ hi ∧ (t = hi → fr < hi → q = 1)) :
    decide (t < fr) = false ∧ decide (hi < t) = false ∧ (((t == hi) = false ∧ ¬ t = hi) ∨ (t = hi ∧ decide (fr < hi) = false) ∨ (t = hi ∧ fr < hi ∧ q = 1)) := by
  obtain ⟨h1, h2, h3⟩ := h
  refine ⟨decide_eq_false (by omega), decide_eq_false (by omega), ?_⟩
  by_cases h4 : t = hi
  · by_cases h5 : fr < hi
    · exact .inr (.inr ⟨h4, h5, h3 h4 h5⟩)
    · exact .inr (.inl ⟨h4, decide_eq_false h5⟩)
  · exact .inl ⟨by simpa using h4, h4⟩
section
variable {A : Option Addr} {n c : Nat} {l : List Ev} {k : Int} {w : World} {x : List (Int × Int)}
theorem mnotes_q (h : SA evE w A n c l) (hI : ∀ e ∈ l, EvI e) (hm : n ≤ 34359738368) (e1 : notesA l = x) (e2 : checkM l = k) :
    Calls Try.prog 19 #[.slice A n c] w fun e w'' => ∃ A' c', e = .returned (.tuple #[.slice A' x.length c', .int .i64 k]) ∧ SA noteE w'' A' x.length c' x ∧ Below w.heap.size w w'' := mnotes_p h hI hm e1 e2 (Below.refl _ w)
end
set_option maxHeartbeats 8000000 in
set_option maxRecDepth 100000 in
theorem walkMidiSlice (A : Option Addr) (n c : Nat) (L : List EvS) (fr hi tick ch key : Int) (w : World) (h : SA evES w A n c L) (i1 : I64 fr) (i2 : I64 hi) (_i3 : I64 tick) (_i4 : I64 ch) (_i5 : I64 key) :
    Calls Try.prog 8 #[.slice A n c, .int .i64 fr, .int .i64 hi, .int .i64 tick, .int .i64 ch, .int .i64 key] w fun e w' => e = .returned (.bool true) ∧ Below w.heap.size w w' := by
  obtain ⟨hs, hI⟩ := h.evs
  clear h
  generalize (L.map (·.1)) = l at hs hI
  have hlen := hs.len
  have CS := sane50_any w
  by_cases hn : (n : Int) ≤ 60
  · have CF := Lib.hid fun w' => few_yes (A := A) (c := c) hn w'
    by_cases hc : checkM l = 0
    · have C2 := Lib.hid fun (w' : World) (hb : Below w.heap.size w w') => rcheck_eq hs hc hb
      have hl : l.length ≤ 60 := by rw [hs.n_eq]; omega
      by_cases hp : PtOk fr hi
      · have S1 := Lib.hid fun (w' : World) (hb : Below w.heap.size w w') => slice_yes hs hI hc hl hp hb
        have hXo := part_ok hc hl hp
        have hXl : (csort (partL l fr hi)).length ≤ 180 := by have := part_len (fr := fr) (hi := hi) hc; omega
        have hXI : ∀ e ∈ csort (partL l fr hi), EvI e := csort_evI hI i1 i2
        have hXe := notes_end hc hl hp
        have HIN := Lib.hid fun (e : Ev) (he : e ∈ csort (partL l fr hi)) => in_cases (part_in hc hp he)
        have HHAS := Lib.hid fun (e : Ev) (he : e ∈ l) (h1 : fr ≤ e.tick) (h2 : e.tick < hi) => part_has (fr := fr) (hi := hi) hc he h1 h2
        have hCNT := cnt_part (fr := fr) (hi := hi) hc
        have HVAL := Lib.hid fun (ch key tick : Int) (h1 : fr ≤ tick) (h2 : tick < hi) => part_value (ch := ch) (key := key) hc h1 h2
        obtain ⟨X, hX⟩ : ∃ X, csort (partL l fr hi) = X := ⟨_, rfl⟩
        rw [hX] at S1 hXo hXl hXI hXe HIN HHAS hCNT HVAL
        obtain ⟨N, hN⟩ : ∃ N, notesA X = N := ⟨_, rfl⟩
        have hNl := notesA_len X
        rw [hN] at hXe hNl
        have HC := Lib.hid hCNT
        have HE := Lib.hid hXe
        have HNL := Lib.hid hNl
        have HXL := Lib.hid hXl
        have HXI := Lib.hid hXI
        have HXO := Lib.hid hXo
        have HN := Lib.hid hN
        have HS := Lib.hid hs
        have hLl : n ≤ 60 := by omega
        clear hs hI hn hc i1 i2 hp hX hN hl hXo hXl hXI hXe hCNT hNl
        go_enter Try.func8, Try.ntmps8
        go_wp2_with fail
        refine CS.mono ?_; rintro e w1 ⟨rfl, b1⟩
        go_wp2_with fail
        refine (CF.out _).mono ?_; rintro e w2 ⟨rfl, rfl⟩
        go_wp2_with fail
        refine (C2.out _ b1).mono ?_; rintro e w3 ⟨rfl, b3⟩; have hB3 := Bel.on0 b1 b3
        go_wp2_with fail
        refine (S1.out _ hB3).mono ?_; rintro e w4 ⟨A4, n4, c4, rfl, h4, b4⟩; have hB4 := Bel.on0 hB3 b4
        have h4n := h4.n_eq
        subst h4n
        go_wp2_with fail
        refine (mnotes_q h4 HXI.out (by have := HXL.out; omega) HN.out HXO.out).mono ?_; rintro e w5 ⟨A5, c5, rfl, h5, b5⟩; have hB5 := Bel.on0 hB4 b5; replace h4 := h4.below b5
        go_wp2_with fail
        refine (check_eq HXO.out h4).mono ?_; rintro e w6 ⟨rfl, b6⟩; have hB6 := Bel.on0 hB5 b6; replace h4 := h4.below b6; replace h5 := h5.below b6
        have H4 := Lib.hid h4
        have H5 := Lib.hid h5
        have hX180 := HXL.out
        have hN180 := HNL.out
        clear h4 h5 b1 b3 b4 b5 b6 hB3 hB4 hB5 CS CF C2 S1 HXI HXO HN HNL
        go_wp2_with fail
        go_loopw [72] (fun i wr => ∃ k : Nat, k ≤ N.length ∧ i = .int .i64 k ∧ Below w6.heap.size w6 wr) (fun i _ => N.length - (intOf i).toNat)
        case atStart => exact ⟨0, Nat.zero_le _, rfl, Below.refl _ _⟩
        case round =>
          obtain ⟨k, hk, rfl, hB⟩ := hrel
          by_cases hlt : k < N.length
          · obtain ⟨s, hs⟩ : ∃ s, N[k] = s := ⟨_, rfl⟩
            have hs0 := HE.out s (by rw [← hs]; exact List.getElem_mem hlt)
            obtain ⟨bb, oo, rfl, hbb, a0, a1⟩ := note_at (H5.out.below hB) hlt hs
            clear hs
            obtain ⟨y0, y1⟩ := s
            dsimp only at a0 a1 hs0
            have hs1 : decide (y1 < 0) = false := decide_eq_false (by omega)
            have g3 : (0 : Int) ≤ (k : Int) := by omega
            have g4 : (k : Int) < (N.length : Int) := by omega
            have gw : IntKind.i64.wrap ((k : Int) + 1) = (k : Int) + 1 := IntWalk.i64_in _ (by omega)
            have hb1 := Lib.hid (Bel.al hB (.cells #[.int .i64 y0, .int .i64 y1] 36))
            go_wp2_with fail
            exact ⟨⟨k + 1, by omega, by simp, hb1.out⟩, by simp only [intOf]; omega⟩
          · obtain rfl : k = N.length := by omega
            have HB1 := Lib.hid hB
            clear hlt hk
            go_wp2_with fail
            go_loopw [19, 82] (fun v i wr2 => ∃ k : Nat, k ≤ X.length ∧ i = .int .i64 k ∧ v = .int .i64 (cnt3 X k : Int) ∧ Below w6.heap.size w6 wr2) (fun _ i _ => X.length - (intOf i).toNat)
            case atStart => exact ⟨0, Nat.zero_le _, rfl, rfl, hB⟩
            case round =>
              clear hB HB1
              obtain ⟨k, hk, rfl, rfl, hB⟩ := hrel
              by_cases hlt : k < X.length
              · obtain ⟨s, hs⟩ : ∃ s, X[k] = s := ⟨_, rfl⟩
                have hin := HIN.out s (by rw [← hs]; exact List.getElem_mem hlt)
                have hSt := cnt3_succ (show X[k]? = some s by rw [List.getElem?_eq_getElem hlt, hs])
                have hcl := cnt3_le X k
                obtain ⟨bb, oo, rfl, hbb, a0, a1, a2, a3, a4, a5⟩ := ev_at (H4.out.below hB) hlt hs
                clear hs
                obtain ⟨y0, y1, y2, y3, y4, y5⟩ := s
                dsimp only at a0 a1 a2 a3 a4 a5 hin hSt
                obtain ⟨d1, d2, hin⟩ := hin
                have g3 : (0 : Int) ≤ (k : Int) := by omega
                have g4 : (k : Int) < (X.length : Int) := by omega
                have gw : IntKind.i64.wrap ((k : Int) + 1) = (k : Int) + 1 := IntWalk.i64_in _ (by omega)
                have hb1 := Lib.hid (Bel.al hB (.cells #[.int .i64 y0, .int .i64 y1, .int .i64 y2, .int .i64 y3, .int .i64 y4, .int .i64 y5] 40))
                obtain ⟨v, hv⟩ : ∃ v, cnt3 X k = v := ⟨_, rfl⟩
                rw [hv] at hSt hcl ⊢
                have gv : IntKind.i64.wrap ((v : Int) + 1) = (v : Int) + 1 := IntWalk.i64_in _ (by omega)
                clear hv
                by_cases h3 : y1 = 3
                · subst h3
                  rw [if_pos rfl] at hSt
                  have HSt := Lib.hid hSt
                  clear hSt
                  rcases hin with ⟨hin, _⟩ | ⟨rfl, hin⟩ | ⟨_, _, hin⟩
                  · go_wp2_with fail
                    exact ⟨⟨k + 1, by omega, by simp, by rw [HSt.out]; simp, hb1.out⟩, by simp only [intOf]; omega⟩
                  · go_wp2_with fail
                    exact ⟨⟨k + 1, by omega, by simp, by rw [HSt.out]; simp, hb1.out⟩, by simp only [intOf]; omega⟩
                  · omega
                · have h31 : (y1 == 3) = false := by simpa using h3
                  rw [if_neg h3] at hSt
                  have HSt := Lib.hid hSt
                  clear hSt
                  rcases hin with ⟨hin, _⟩ | ⟨rfl, hin⟩ | ⟨rfl, hin, rfl⟩
                  all_goals
                    go_wp2_with fail
                    exact ⟨⟨k + 1, by omega, by simp, by rw [HSt.out]; simp, hb1.out⟩, by simp only [intOf]; omega⟩
              · obtain rfl : k = X.length := by omega
                clear hlt hk
                have hB0 := hB
                go_wp2_with fail
                go_loopw [19, 120] (fun v i wr2 => ∃ k : Nat, k ≤ n ∧ i = .int .i64 k ∧ v = .int .i64 ((cnt3 X X.length : Int) - (cntW fr hi l k : Int)) ∧ Below w6.heap.size w6 wr2) (fun _ i _ => n - (intOf i).toNat)
                case atStart => exact ⟨0, Nat.zero_le _, rfl, by simp [cntW], hB0⟩
                case round =>
                  clear hB hB0 HIN
                  obtain ⟨k, hk, rfl, rfl, hB⟩ := hrel
                  have hln := HS.out.n_eq
                  by_cases hlt : k < n
                  · have hkl : k < l.length := by omega
                    obtain ⟨s, hs⟩ : ∃ s, l[k] = s := ⟨_, rfl⟩
                    have hhas := HHAS.out s (by rw [← hs]; exact List.getElem_mem hkl)
                    have hSt := cntW_succ (fr := fr) (hi := hi) (show l[k]? = some s by rw [List.getElem?_eq_getElem hkl, hs])
                    have hcl := cntW_le fr hi l k
                    have hc3 := cnt3_le X X.length
                    obtain ⟨bb, oo, hAe, hbb, a0, a1, a2, a3, a4, a5⟩ := ev_at (HS.out.below (Bel.on0 hB6 hB)) hkl hs
                    subst hAe
                    clear hs hkl hln
                    obtain ⟨y0, y1, y2, y3, y4, y5⟩ := s
                    dsimp only at a0 a1 a2 a3 a4 a5 hhas hSt
                    have g3 : (0 : Int) ≤ (k : Int) := by omega
                    have g4 : (k : Int) < (n : Int) := by omega
                    have gw : IntKind.i64.wrap ((k : Int) + 1) = (k : Int) + 1 := IntWalk.i64_in _ (by omega)
                    have hb1 := Bel.al hB (.cells #[.int .i64 y0, .int .i64 y1, .int .i64 y2, .int .i64 y3, .int .i64 y4, .int .i64 y5] 40)
                    have hbx := Blk.new wr 40 #[.int .i64 y0, .int .i64 y1, .int .i64 y2, .int .i64 y3, .int .i64 y4, .int .i64 y5]
                    obtain ⟨u, hu⟩ : ∃ u : Int, (cnt3 X X.length : Int) - (cntW fr hi l k : Int) = u := ⟨_, rfl⟩
                    have hu2 : -200 ≤ u ∧ u ≤ 200 := by omega
                    have gu : IntKind.i64.wrap (u - 1) = u - 1 := IntWalk.i64_in _ (by omega)
                    rw [hu]
                    by_cases c1 : y0 < fr
                    · have HSt := Lib.hid (show (cnt3 X X.length : Int) - (cntW fr hi l (k + 1) : Int) = u by rw [hSt, if_neg (by omega)]; omega)
                      clear hSt hu hhas
                      go_wp2_with fail
                      exact ⟨⟨k + 1, by omega, by simp, by rw [HSt.out], hb1⟩, by simp only [intOf]; omega⟩
                    · have c1' : decide (y0 < fr) = false := decide_eq_false c1
                      by_cases c2 : hi ≤ y0
                      · have HSt := Lib.hid (show (cnt3 X X.length : Int) - (cntW fr hi l (k + 1) : Int) = u by rw [hSt, if_neg (by omega)]; omega)
                        clear hSt hu hhas
                        go_wp2_with fail
                        exact ⟨⟨k + 1, by omega, by simp, by rw [HSt.out], hb1⟩, by simp only [intOf]; omega⟩
                      · have c2' : decide (hi ≤ y0) = false := decide_eq_false c2
                        have HM := Lib.hid (hhas (by omega) (by omega))
                        have HSt := Lib.hid (show (cnt3 X X.length : Int) - (cntW fr hi l (k + 1) : Int) = u - (if y1 = 3 then 1 else 0) by
                          rw [hSt]
                          by_cases h3 : y1 = 3
                          · rw [if_pos ⟨by omega, h3⟩, if_pos h3]; omega
                          · rw [if_neg (fun h => h3 h.2), if_neg h3]; omega)
                        clear hSt hu hhas
                        go_wp2_with fail
                        clear a0 a1 a2 a3 a4 a5 hbb
                        go_loopw [24, 136] (fun f i wr2 => ∃ j : Nat, j ≤ X.length ∧ i = .int .i64 j ∧ f = .bool (decide ((⟨y0, y1, y2, y3, y4, y5⟩ : Ev) ∈ X.take j)) ∧ Hid (Blk wr2 wr.heap.size 40 #[.int .i64 y0, .int .i64 y1, .int .i64 y2, .int .i64 y3, .int .i64 y4, .int .i64 y5]) ∧ Below w6.heap.size w6 wr2) (fun _ i _ => X.length - (intOf i).toNat)
                        case atStart => exact ⟨0, Nat.zero_le _, rfl, by simp, Lib.hid hbx, hb1⟩
                        case round =>
                          clear hbx hb1 hB
                          obtain ⟨j, hj, rfl, rfl, hY, hC⟩ := hrel
                          by_cases hlt2 : j < X.length
                          · obtain ⟨s, hs⟩ : ∃ s, X[j] = s := ⟨_, rfl⟩
                            obtain ⟨bc, oc, rfl, hbc, e0, e1, e2, e3, e4, e5⟩ := ev_at (H4.out.below hC) hlt2 hs
                            have hT : X.take (j + 1) = X.take j ++ [s] := by rw [take_succ_get hlt2, hs]
                            clear hs
                            obtain ⟨z0, z1, z2, z3, z4, z5⟩ := s
                            dsimp only at e0 e1 e2 e3 e4 e5
                            have k3 : (0 : Int) ≤ (j : Int) := by omega
                            have k4 : (j : Int) < (X.length : Int) := by omega
                            have kw : IntKind.i64.wrap ((j : Int) + 1) = (j : Int) + 1 := IntWalk.i64_in _ (by omega)
                            have hb2 := Lib.hid (Bel.al hC (.cells #[.int .i64 z0, .int .i64 z1, .int .i64 z2, .int .i64 z3, .int .i64 z4, .int .i64 z5] 40))
                            have hY2 := Lib.hid (hY.out.alloc (.cells #[.int .i64 z0, .int .i64 z1, .int .i64 z2, .int .i64 z3, .int .i64 z4, .int .i64 z5] 40))
                            have f0 := hY2.out.cell 0
                            have f1 := hY2.out.cell 1
                            have f2 := hY2.out.cell 2
                            have f3 := hY2.out.cell 3
                            have f4 := hY2.out.cell 4
                            have f5 := hY2.out.cell 5
                            simp only [List.getElem?_toArray, List.getElem?_cons_zero, List.getElem?_cons_succ] at f0 f1 f2 f3 f4 f5
                            by_cases hf : (⟨y0, y1, y2, y3, y4, y5⟩ : Ev) ∈ X.take j
                            · have HN := Lib.hid (show decide ((⟨y0, y1, y2, y3, y4, y5⟩ : Ev) ∈ X.take (j + 1)) = true by rw [hT]; exact decide_eq_true (List.mem_append.2 (.inl hf)))
                              rw [decide_eq_true hf]
                              clear hf hT
                              go_wp2_with fail
                              exact ⟨⟨j + 1, by omega, by simp, by rw [HN.out], hY2, hb2.out⟩, by simp only [intOf]; omega⟩
                            · rw [decide_eq_false hf]
                              rcases @ev_ne z0 z1 z2 z3 z4 z5 y0 y1 y2 y3 y4 y5 with ⟨rfl, rfl, rfl, rfl, rfl, rfl⟩ | ⟨hne, hcc⟩
                              · have HN := Lib.hid (show decide ((⟨z0, z1, z2, z3, z4, z5⟩ : Ev) ∈ X.take (j + 1)) = true by rw [hT]; exact decide_eq_true (List.mem_append.2 (.inr (List.mem_singleton.2 rfl))))
                                clear hf hT
                                go_wp2_with fail
                                exact ⟨⟨j + 1, by omega, by simp, by rw [HN.out], hY2, hb2.out⟩, by simp only [intOf]; omega⟩
                              · have HN := Lib.hid (show decide ((⟨y0, y1, y2, y3, y4, y5⟩ : Ev) ∈ X.take (j + 1)) = false by
                                  rw [hT]
                                  refine decide_eq_false fun h => ?_
                                  rcases List.mem_append.1 h with h | h
                                  · exact hf h
                                  · exact hne (List.mem_singleton.1 h).symm)
                                clear hf hT hne
                                rcases hcc with h | ⟨rfl, h⟩ | ⟨rfl, rfl, h⟩ | ⟨rfl, rfl, rfl, h⟩ | ⟨rfl, rfl, rfl, rfl, h⟩ | ⟨rfl, rfl, rfl, rfl, rfl, h⟩
                                all_goals
                                  go_wp2_with fail
                                  exact ⟨⟨j + 1, by omega, by simp, by rw [HN.out], hY2, hb2.out⟩, by simp only [intOf]; omega⟩
                          · obtain rfl : j = X.length := by omega
                            have hft : decide ((⟨y0, y1, y2, y3, y4, y5⟩ : Ev) ∈ X.take X.length) = true := by rw [List.take_length]; exact decide_eq_true HM.out
                            rw [hft]
                            have f1 := hY.out.cell 1
                            simp only [List.getElem?_toArray, List.getElem?_cons_zero, List.getElem?_cons_succ] at f1
                            clear hft hlt2 hj
                            by_cases h3 : y1 = 3
                            · subst h3
                              rw [if_pos rfl] at HSt
                              go_wp2_with fail
                              exact ⟨⟨k + 1, by omega, by simp, by rw [HSt.out], hC⟩, by simp only [intOf]; omega⟩
                            · have h31 : (y1 == 3) = false := by simpa using h3
                              rw [if_neg h3] at HSt
                              go_wp2_with fail
                              exact ⟨⟨k + 1, by omega, by simp, by rw [HSt.out]; simp, hC⟩, by simp only [intOf]; omega⟩
                  · obtain rfl : k = n := by omega
                    have hz : (cnt3 X X.length : Int) - (cntW fr hi l k : Int) = 0 := by rw [HC.out, hln]; omega
                    rw [hz]
                    have HBW := Lib.hid (Bel.on0 hB6 hB)
                    clear hz hlt hk HHAS HC
                    by_cases t1 : tick < fr
                    · go_wp2_with fail
                      go_ret
                      exact ⟨rfl, HBW.out⟩
                    · have t1' : decide (tick < fr) = false := decide_eq_false t1
                      by_cases t2 : hi ≤ tick
                      · go_wp2_with fail
                        go_ret
                        exact ⟨rfl, HBW.out⟩
                      · have t2' : decide (hi ≤ tick) = false := decide_eq_false t2
                        have HV := Lib.hid fun ch key => HVAL.out ch key tick (by omega) (by omega)
                        clear HVAL t1 t2
                        have ho0 := OA.litL (e := noteE) (l := [(ch, key)]) (n := 1) (cs := #[.int .i64 ch, .int .i64 key]) wr hB.size rfl (by rw [Enc.cells_one]; rfl) (by omega)
                        have hb0 := Bel.al hB (.cells #[.int .i64 ch, .int .i64 key] 36)
                        go_wp2_with fail
                        go_loopw [27, 171] (fun q i wr2 => ∃ (j : Nat) (A' : Option Addr) (c' : Nat), j ≤ k ∧ i = .int .i64 j ∧ q = .slice A' (j + 1) c' ∧ Hid (OA noteE wr2 w6.heap.size A' (j + 1) c' ((ch, key) :: (l.take j).map voiceOf)) ∧ Below w6.heap.size w6 wr2) (fun _ i _ => k - (intOf i).toNat)
                        case atStart => exact ⟨0, _, 1, Nat.zero_le _, rfl, rfl, Lib.hid ho0, hb0⟩
                        case round =>
                          clear ho0 hb0 hB
                          obtain ⟨j, A', c', hj, rfl, rfl, hO, hB⟩ := hrel
                          by_cases hlt : j < k
                          · have hkl : j < l.length := by omega
                            obtain ⟨s, hs⟩ : ∃ s, l[j] = s := ⟨_, rfl⟩
                            obtain ⟨bb, oo, hAe, hbb, a0, a1, a2, a3, a4, a5⟩ := ev_at (HS.out.below (Bel.on0 hB6 hB)) hkl hs
                            subst hAe
                            have hT : (ch, key) :: (l.take (j + 1)).map voiceOf = ((ch, key) :: (l.take j).map voiceOf) ++ [(s.ch, s.key)] := by rw [take_succ_get hkl, hs, List.map_append]; rfl
                            clear hs hkl hln
                            obtain ⟨y0, y1, y2, y3, y4, y5⟩ := s
                            dsimp only at a0 a1 a2 a3 a4 a5 hT
                            have g3 : (0 : Int) ≤ (j : Int) := by omega
                            have g4 : (j : Int) < (k : Int) := by omega
                            have gw : IntKind.i64.wrap ((j : Int) + 1) = (j : Int) + 1 := IntWalk.i64_in _ (by omega)
                            have hsl := SA.lit (e := noteE) (l := [(y2, y3)]) (n := 1) (cs := #[.int .i64 y2, .int .i64 y3]) (wr.alloc (.cells #[.int .i64 y0, .int .i64 y1, .int .i64 y2, .int .i64 y3, .int .i64 y4, .int .i64 y5] 40)) rfl (by rw [Enc.cells_one]; rfl) (by omega)
                            have hb2 := Bel.al (Bel.al hB (.cells #[.int .i64 y0, .int .i64 y1, .int .i64 y2, .int .i64 y3, .int .i64 y4, .int .i64 y5] 40)) (.cells #[.int .i64 y2, .int .i64 y3] 36)
                            obtain ⟨A2, c2, W2, eA, hO2, hB2, _⟩ := ((hO.out.alloc (.cells #[.int .i64 y0, .int .i64 y1, .int .i64 y2, .int .i64 y3, .int .i64 y4, .int .i64 y5] 40)).alloc (.cells #[.int .i64 y2, .int .i64 y3] noteE.E)).app hsl hb2.size (by omega)
                            rw [← hT] at hO2
                            rw [World.size_alloc] at eA
                            have HO2 := Lib.hid hO2
                            have HB2 := Lib.hid (hb2.trans hB2)
                            clear hsl hb2 hO2 hB2 hT
                            go_wp2_with (at_builtin; refine wpList_append_eq (v1 := .slice A' (j + 1) c') (v2 := .slice (some ⟨wr.heap.size + 1, 0, none⟩) 1 1) rfl (.tmp 175) (.tmp 181) 32 rfl rfl rfl eA ?_; clear eA)
                            exact ⟨⟨j + 1, A2, c2, by omega, by simp, rfl, HO2, HB2.out⟩, by simp only [intOf]; omega⟩
                          · obtain rfl : j = k := by omega
                            have hmap : (l.take j).map voiceOf = l.map voiceOf := by rw [List.take_of_length_le (by omega)]
                            rw [hmap] at hO
                            have HR := Lib.hid hO.out.sa
                            rename World => W0
                            have HBW0 := Lib.hid hB
                            clear hmap hO hlt hj
                            go_wp2_with fail
                            go_loopw [186] (fun i wr2 => ∃ q : Nat, q ≤ j + 1 ∧ i = .int .i64 q ∧ Below W0.heap.size W0 wr2) (fun i _ => j + 1 - (intOf i).toNat)
                            case atStart => exact ⟨0, Nat.zero_le _, rfl, Below.refl _ _⟩
                            case round =>
                              obtain ⟨q, hq, rfl, hC⟩ := hrel
                              have hrn := HR.out.n_eq
                              by_cases hlt : q < j + 1
                              · have hql : q < ((ch, key) :: l.map voiceOf).length := by omega
                                obtain ⟨s, hs⟩ : ∃ s, ((ch, key) :: l.map voiceOf)[q] = s := ⟨_, rfl⟩
                                obtain ⟨bb, oo, rfl, hbb, a0, a1⟩ := note_at (HR.out.below hC) hql hs
                                clear hs hql hrn
                                obtain ⟨y0, y1⟩ := s
                                dsimp only at a0 a1
                                have g3 : (0 : Int) ≤ (q : Int) := by omega
                                have g4 : (q : Int) < ((j + 1 : Nat) : Int) := by omega
                                have gw : IntKind.i64.wrap ((q : Int) + 1) = (q : Int) + 1 := IntWalk.i64_in _ (by omega)
                                obtain ⟨Wb, hWb⟩ : ∃ Wb, wr.alloc (.cells #[.int .i64 y0, .int .i64 y1] 36) = Wb := ⟨_, rfl⟩
                                have hbx : Blk Wb wr.heap.size 36 #[.int .i64 y0, .int .i64 y1] := by rw [← hWb]; exact Blk.new wr 36 #[.int .i64 y0, .int .i64 y1]
                                have hb1 : Below W0.heap.size W0 Wb := by rw [← hWb]; exact Bel.al hC _
                                have hb6 := Bel.on0 HBW0.out hb1
                                have hbW := Bel.on0 hB6 hb6
                                have x0 : ∀ z : Ext Wb, z.W.cell? ⟨wr.heap.size, 0, none⟩ = some (.int .i64 y0) := fun z => z.cell (hbx.cell 0)
                                have x1 : ∀ z : Ext Wb, z.W.cell? ⟨wr.heap.size, 1, none⟩ = some (.int .i64 y1) := fun z => z.cell (hbx.cell 1)
                                have CVX := Lib.hid fun z : Ext Wb => value_any A4 X.length c4 X y0 y1 tick z.W ((H4.out.below hb6).below z.h)
                                have CVL := Lib.hid fun z : Ext Wb => value_any A j c l y0 y1 tick z.W ((HS.out.below hbW).below z.h)
                                obtain ⟨u, hu⟩ : ∃ u, valS l y0 y1 tick = u := ⟨_, rfl⟩
                                rw [HV.out y0 y1, hu] at CVX
                                rw [hu] at CVL
                                have HB1 := Lib.hid hb1
                                clear hbx hb1 hb6 hbW hu
                                go_wp2_with fail
                                refine wp_region_ext (by kernel_rfl) (by kernel_rfl) ?_
                                repeat (go_big_quiet_step (first | with_reducible exact Ext.quiet (CVX.out _) | with_reducible exact Ext.quiet (CVL.out _)))
                                refine wpQuiet_nil ?_
                                rintro _ ⟨z, rfl⟩
                                go_wp2_with fail
                                exact ⟨⟨q + 1, by omega, by simp, Bel.on0 HB1.out z.h⟩, by simp only [intOf]; omega⟩
                              · obtain rfl : q = j + 1 := by omega
                                have HBe := Lib.hid (Bel.on0 hB6 (Bel.on0 HBW0.out hC))
                                go_wp2_with fail
                                go_ret
                                exact ⟨rfl, HBe.out⟩
      · have S1 := Lib.hid fun (w' : World) (hb : Below w.heap.size w w') => slice_no hs hI i1 i2 hc hl hp hb
        clear hs hI hn hc i1 i2 hp hl
        go_enter Try.func8, Try.ntmps8
        go_wp2_with fail
        refine CS.mono ?_; rintro e w1 ⟨rfl, b1⟩
        go_wp2_with fail
        refine (CF.out _).mono ?_; rintro e w2 ⟨rfl, rfl⟩
        go_wp2_with fail
        refine (C2.out _ b1).mono ?_; rintro e w3 ⟨rfl, b3⟩; have hB3 := Bel.on0 b1 b3
        go_wp2_with fail
        refine (S1.out _ hB3).mono ?_; rintro e w4 ⟨A4, c4, rfl, b4⟩; have hB4 := Bel.on0 hB3 b4
        go_wp2_with fail
        go_ret
        exact ⟨rfl, hB4⟩
    · obtain ⟨z, hz⟩ : ∃ z, checkM l = z := ⟨_, rfl⟩
      have C2 := Lib.hid fun (w' : World) (hb : Below w.heap.size w w') => rcheck_eq hs hz hb
      have hz1 : (z != 0) = true := by rw [← hz]; simpa using hc
      clear hs hI hn hc i1 i2 hz
      go_enter Try.func8, Try.ntmps8
      go_wp2_with (first
        | (go_at_call 10; (with_reducible refine CS.mono ?_); rintro e w1 ⟨rfl, b1⟩)
        | (go_at_call 11; (with_reducible refine (CF.out _).mono ?_); rintro e w2 ⟨rfl, rfl⟩)
        | (go_at_call 13; (with_reducible refine (C2.out _ b1).mono ?_); rintro e w3 ⟨rfl, b3⟩; have hB3 := Bel.on0 b1 b3))
      go_ret
      exact ⟨rfl, hB3⟩
  · have CF := Lib.hid fun w' => few_no (A := A) (c := c) hn hlen w'
    go_enter Try.func8, Try.ntmps8
    go_wp2_with (first
      | (go_at_call 10; (with_reducible refine CS.mono ?_); rintro e w1 ⟨rfl, b1⟩)
      | (go_at_call 11; (with_reducible refine (CF.out _).mono ?_); rintro e w2 ⟨rfl, rfl⟩))
    go_ret
    exact ⟨rfl, b1⟩
end Go.Proofs.Ytmfdflfjllpceaa
