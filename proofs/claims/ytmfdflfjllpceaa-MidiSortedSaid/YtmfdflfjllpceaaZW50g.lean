/- The law MidiResolve: its walk. -/
import Derived.Test.YtmfdflfjllpceaaZW50f
namespace Go.Proofs.Ytmfdflfjllpceaa
open Go.RowKit

theorem bool_info : (Try.prog.info? 4).map (fun i => (i.zero, i.size, i.bytes)) = some (some (.bool false), 1, 1) := by kernel_rfl
def boE : Enc Bool where
  S := 44
  E := 4
  sz := 1
  bytes := 1
  enc := fun b => [.bool b]
  pos := by decide
  len := fun _ => rfl
  one := by simp [Value.oneCell']
  hS := Try.underlying44
  info := by
    obtain ⟨i0, hi, hz0, hz1, hz2⟩ := info_parts bool_info
    exact ⟨i0, _, hi, hz0, hz1, hz2, rfl⟩
  hb := by decide
theorem boE_cells : ∀ n : Nat, boE.cells (List.replicate n false) = List.replicate n (.bool false)
  | 0 => rfl
  | n + 1 => by
    have ih := boE_cells n
    unfold Enc.cells at *
    rw [List.replicate_succ, List.flatMap_cons, ih, List.replicate_succ]
    rfl
set_option maxRecDepth 100000 in
/-- make([]bool, n) -/
theorem mk_bools (n : Nat) (hn : n ≤ 1000) (w : World) : (Instr.makeSlice 44 (.int .i64 (n : Int)) (.int .i64 (n : Int))).run Try.prog w =
    .ok (.slice (some ⟨w.heap.size, 0, none⟩) n n) (w.alloc (.cells (boE.cells (List.replicate n false)).toArray 4)) := by
  obtain ⟨i0, hi, hz0, hz1, hz2⟩ := info_parts bool_info
  rw [run_make_rowN _ _ _ _ Try.underlying44 hi hz0 _ _ n n (Nat.le_refl _) (by rw [hz2]; omega) (by omega) w, hz1, boE_cells]
  congr 3
  rw [← toList_madeCells_one, Nat.mul_one]; rfl
/-- Which places of X have been met; while an event is looked for. -/
def MetR (X P : List Ev) (M : List Bool) : Prop := M.length = X.length ∧ ∀ (i : Nat) (x : Ev), X[i]? = some x → M[i]? = some (decide (x ∈ P))
def MetJ (X P : List Ev) (y : Ev) (j : Nat) (M : List Bool) : Prop := M.length = X.length ∧ ∀ (i : Nat) (x : Ev), X[i]? = some x → M[i]? = some (decide (x ∈ P ∨ (i < j ∧ x = y)))
theorem MetR.zero (X : List Ev) : MetR X [] (List.replicate X.length false) := ⟨by simp, fun i x hx => by
  have h := (List.getElem?_eq_some_iff.1 hx).1
  rw [List.getElem?_replicate, if_pos h]
  simp⟩
theorem MetJ.zero {X P : List Ev} {y : Ev} {M : List Bool} (h : MetR X P M) : MetJ X P y 0 M := ⟨h.1, fun i x hx => by
  rw [h.2 i x hx]
  congr 1
  simp⟩
theorem MetJ.hit {X P : List Ev} {y : Ev} {j : Nat} {M : List Bool} (h : MetJ X P y j M) (hj : X[j]? = some y) : MetJ X P y (j + 1) (M.set j true) := by
  refine ⟨by rw [List.length_set]; exact h.1, fun i x hx => ?_⟩
  have hl := (List.getElem?_eq_some_iff.1 hx).1
  rw [List.getElem?_set]
  by_cases hij : j = i
  · subst hij
    rw [hj] at hx
    injection hx with hx
    subst hx
    rw [if_pos rfl, if_pos (by rw [h.1]; exact hl), decide_eq_true (.inr ⟨by omega, rfl⟩)]
  · rw [if_neg hij, h.2 i x hx]
    congr 1
    refine decide_eq_decide.2 (or_congr Iff.rfl (and_congr ?_ Iff.rfl))
    omega
theorem MetJ.miss {X P : List Ev} {y x : Ev} {j : Nat} {M : List Bool} (h : MetJ X P y j M) (hj : X[j]? = some x) (hne : x ≠ y) : MetJ X P y (j + 1) M := by
  refine ⟨h.1, fun i z hz => ?_⟩
  rw [h.2 i z hz]
  congr 1
  refine decide_eq_decide.2 (or_congr Iff.rfl ?_)
  constructor
  · rintro ⟨h1, h2⟩; exact ⟨by omega, h2⟩
  · rintro ⟨h1, h2⟩
    refine ⟨?_, h2⟩
    by_cases hij : i = j
    · subst hij
      rw [hj] at hz
      injection hz with hz
      exact absurd (hz.trans h2) hne
    · omega
theorem MetJ.done {X P : List Ev} {y : Ev} {M : List Bool} (h : MetJ X P y X.length M) : MetR X (P ++ [y]) M := ⟨h.1, fun i x hx => by
  rw [h.2 i x hx]
  congr 1
  have hl := (List.getElem?_eq_some_iff.1 hx).1
  refine decide_eq_decide.2 ?_
  rw [List.mem_append, List.mem_singleton]
  exact or_congr Iff.rfl ⟨fun h => h.2, fun h => ⟨hl, h⟩⟩⟩
theorem bo_at {w : World} {B g n c : Nat} {M : List Bool} (h : OA boE w B (some ⟨g, 0, none⟩) n c M) {k : Nat} {b : Bool} (hk : k < n) (hb : M[k]? = some b) :
    w.cell? ⟨g, k, none⟩ = some (.bool b) ∧ w.frozen? ⟨g, k, none⟩ = false ∧ B ≤ g ∧ OA boE (w.setCell ⟨g, k, none⟩ (.bool true)) B (some ⟨g, 0, none⟩) n c (M.set k true) := by
  obtain ⟨g', e1, h2, _, _, h3, h4, h5⟩ := h.at_ hk
  injection e1 with e1
  injection e1 with e1
  subst e1
  have a1 := h3 b 0 _ hb rfl
  have a2 := h4 0
  have a3 := h5 b true 0 (.bool true) hb (by decide) rfl
  have e : k * boE.sz + 0 = k := by show k * 1 + 0 = k; omega
  rw [e] at a1 a2 a3
  exact ⟨a1, a2, h2, a3⟩
theorem check_p {A : Option Addr} {n c : Nat} {l : List Ev} {k : Int} {w w' : World} (e : checkM l = k) (h : SA evE w A n c l) (hb : Below w.heap.size w w') :
    Calls Try.prog 12 #[.slice A n c] w' fun e w'' => e = .returned (.int .i64 k) ∧ Below w'.heap.size w' w'' := check_eq e (h.below hb)
set_option maxHeartbeats 8000000 in
set_option maxRecDepth 100000 in
theorem walkMidiResolve (B : Option Addr) (n1 c1 : Nat) (M : List Tm) (A : Option Addr) (n c : Nat) (L : List EvS) (w : World) (hT : SA tmE w B n1 c1 M) (h : SA evES w A n c L) :
    Calls Try.prog 6 #[.slice B n1 c1, .slice A n c] w fun e w' => e = .returned (.bool true) ∧ Below w.heap.size w w' := by
  obtain ⟨hs, hI⟩ := h.evs
  clear h
  generalize (L.map (·.1)) = l at hs hI
  have hlen := hs.len
  have hlen1 := hT.len
  have CS := sane50_any w
  by_cases hn : (n : Int) ≤ 60
  · have CF := Lib.hid fun w' => few_yes (A := A) (c := c) hn w'
    by_cases hn1 : (100 : Int) < n1
    · clear hs hI hn hT
      go_enter Try.func6, Try.ntmps6
      go_wp2_with (first
        | (go_at_call 10; (with_reducible refine CS.mono ?_); rintro e w1 ⟨rfl, b1⟩)
        | (go_at_call 11; (with_reducible refine (CF.out _).mono ?_); rintro e w2 ⟨rfl, rfl⟩))
      go_ret
      exact ⟨rfl, b1⟩
    · have hn1' : decide ((100 : Int) < n1) = false := decide_eq_false hn1
      have hn1'' : (n1 : Int) ≤ 100 := by omega
      rcases resM_cases M l with ⟨z, hR, hz⟩ | ⟨hR, hc, hcx, hxl, hsm⟩
      · have S1 := Lib.hid fun (w' : World) (hb : Below w.heap.size w w') => mresolve_p hT hs hI hR hb
        have hz1 : (z != 0) = true := by simpa using hz
        clear hs hI hn hT hn1 hR hz
        go_enter Try.func6, Try.ntmps6
        go_wp2_with fail
        refine CS.mono ?_; rintro e w1 ⟨rfl, b1⟩
        go_wp2_with fail
        refine (CF.out _).mono ?_; rintro e w2 ⟨rfl, rfl⟩
        go_wp2_with fail
        refine (S1.out _ b1).mono ?_; rintro e w3 ⟨A3, c3, rfl, _, b3⟩; have hB3 := Bel.on0 b1 b3
        dsimp only [List.length_nil]
        go_wp2_with fail
        go_ret
        exact ⟨rfl, hB3⟩
      · have S1 := Lib.hid fun (w' : World) (hb : Below w.heap.size w w') => mresolve_p hT hs hI hR hb
        have S2 := Lib.hid fun (w' : World) (hb : Below w.heap.size w w') => check_p hc hs hb
        have hmem : ∀ x, x ∈ csort (l.map (mapE M)) ↔ x ∈ l.map (mapE M) := fun x => csort_mem
        obtain ⟨X, hX⟩ : ∃ X, csort (l.map (mapE M)) = X := ⟨_, rfl⟩
        rw [hX] at S1 hcx hxl hmem
        have hnl := hs.n_eq
        have HS := Lib.hid hs
        have HT := Lib.hid hT
        have HSM := Lib.hid hsm
        have HM := Lib.hid hmem
        have HCX := Lib.hid hcx
        clear hs hI hT hn1 hR hX hc hcx hsm hmem
        rw [hnl] at hxl
        have x1 : decide ((n : Int) < (X.length : Int)) = false := decide_eq_false (by omega)
        have x2 : decide (n < X.length) = false := decide_eq_false (by omega)
        have hmk := fun w => mk_bools X.length (by omega) w
        go_enter Try.func6, Try.ntmps6
        go_wp2_with fail
        refine CS.mono ?_; rintro e w1 ⟨rfl, b1⟩
        go_wp2_with fail
        refine (CF.out _).mono ?_; rintro e w2 ⟨rfl, rfl⟩
        go_wp2_with fail
        refine (S1.out _ b1).mono ?_; rintro e w3 ⟨A4, c4, rfl, h4, b3⟩; have hB3 := Bel.on0 b1 b3
        go_wp2_with fail
        refine (check_eq HCX.out h4).mono ?_; rintro e w4 ⟨rfl, b4⟩; have hB4 := Bel.on0 hB3 b4; replace h4 := h4.below b4
        go_wp2_with fail
        refine (S2.out _ hB4).mono ?_; rintro e w5 ⟨rfl, b5⟩; have hB5 := Bel.on0 hB4 b5; replace h4 := h4.below b5
        have H4 := Lib.hid h4
        have ho0 := OA.litL (e := boE) (B := w5.heap.size) (l := List.replicate X.length false) (n := X.length) (cs := (boE.cells (List.replicate X.length false)).toArray) w5 (Nat.le_refl _) (by simp) rfl (by omega)
        have hb0 := Bel.al (Below.refl w5.heap.size w5) (.cells (boE.cells (List.replicate X.length false)).toArray 4)
        have HO0 := Lib.hid ho0
        obtain ⟨g, hg⟩ : ∃ g, w5.heap.size = g := ⟨_, rfl⟩
        have HG := Lib.hid hg
        clear h4 b1 b3 b4 b5 hB3 hB4 CS CF S1 S2 ho0 HCX hg
        go_wp2_with fail
        go_loopw [58] (fun i wr2 => ∃ k : Nat, k ≤ n ∧ i = .int .i64 k ∧ Hid (∃ Q, OA boE wr2 w5.heap.size (some ⟨w5.heap.size, 0, none⟩) X.length X.length Q ∧ MetR X (mapL M l k) Q) ∧ Below w5.heap.size w5 wr2) (fun i _ => n - (intOf i).toNat)
        case atStart => exact ⟨0, Nat.zero_le _, rfl, Lib.hid ⟨_, HO0.out, MetR.zero X⟩, hb0⟩
        case round =>
          clear hb0 HO0 hmk
          obtain ⟨k, hk, rfl, hQ, hB⟩ := hrel
          by_cases hlt : k < n
          · have hkl : k < l.length := by omega
            obtain ⟨s, hs⟩ : ∃ s, l[k] = s := ⟨_, rfl⟩
            have hs' : l[k]? = some s := by rw [List.getElem?_eq_getElem hkl, hs]
            have HSN := Lib.hid (mapL_succ (m := M) hs')
            have hs0 := HSM.out s (List.mem_of_getElem? hs')
            have HIN := Lib.hid ((HM.out (mapE M s)).2 (List.mem_map.2 ⟨s, List.mem_of_getElem? hs', rfl⟩))
            obtain ⟨bb, oo, hAe, hbb, a0, a1, a2, a3, a4, a5⟩ := ev_at (HS.out.below (Bel.on0 hB5 hB)) hkl hs
            subst hAe
            clear hs hs' hkl
            obtain ⟨y0, y1, y2, y3, y4, y5⟩ := s
            dsimp only [mapE] at a0 a1 a2 a3 a4 a5 HSN HIN hs0
            have CSm := tsample_any B n1 c1 M y0 (wr.alloc (.cells #[.int .i64 y0, .int .i64 y1, .int .i64 y2, .int .i64 y3, .int .i64 y4, .int .i64 y5] 40)) (HT.out.below (Bel.on0 hB5 (Bel.al hB _)))
            obtain ⟨v, hv⟩ : ∃ v, (sampT M y0).1 = v := ⟨_, rfl⟩
            rw [hv, hs0] at CSm
            rw [hv] at HSN HIN
            have g3 : (0 : Int) ≤ (k : Int) := by omega
            have g4 : (k : Int) < (n : Int) := by omega
            have gw : IntKind.i64.wrap ((k : Int) + 1) = (k : Int) + 1 := IntWalk.i64_in _ (by omega)
            have hbx := Blk.new wr 40 #[.int .i64 y0, .int .i64 y1, .int .i64 y2, .int .i64 y3, .int .i64 y4, .int .i64 y5]
            have hb1 := Bel.al hB (.cells #[.int .i64 y0, .int .i64 y1, .int .i64 y2, .int .i64 y3, .int .i64 y4, .int .i64 y5] 40)
            clear hv hs0
            go_wp2_with (first
              | (go_at_call 25; (with_reducible refine CSm.mono ?_); rintro e w6 ⟨rfl, hh3⟩;
                  (have hx3 := hbx.belowAll hh3);
                  (have hb3 := Bel.on0 hb1 hh3);
                  (have hb4 : Below w5.heap.size w5 (w6.setCell ⟨wr.heap.size, 0, none⟩ (.int .i64 v)) := hb3.setCell (by show w5.heap.size ≤ wr.heap.size; exact hB.size) _);
                  (have HB4 := Lib.hid hb4);
                  (have d0 : w6.cell? ⟨wr.heap.size, 0, none⟩ = some (.int .i64 y0) := hx3.cell 0);
                  (have f0 := hx3.frozen 0);
                  (have HX4 := Lib.hid (show Blk (w6.setCell ⟨wr.heap.size, 0, none⟩ (.int .i64 v)) wr.heap.size 40 #[.int .i64 v, .int .i64 y1, .int .i64 y2, .int .i64 y3, .int .i64 y4, .int .i64 y5] from hx3.set_ 0 (.int .i64 v)));
                  (have HQ4 : Hid (∃ Q, OA boE (w6.setCell ⟨wr.heap.size, 0, none⟩ (.int .i64 v)) w5.heap.size (some ⟨w5.heap.size, 0, none⟩) X.length X.length Q ∧ MetR X (mapL M l k) Q) := by
                    obtain ⟨Q, q1, q2⟩ := hQ.out
                    exact Lib.hid ⟨Q, ((q1.alloc _).below hh3).same (fun a ha => Below.heap_setCell _ _ _ _ (by have := (q1.blk ha).2; show a.block ≠ wr.heap.size; omega)), q2⟩);
                  (clear hx3 hh3 hb3 hb4 CSm)))
            have HGT := Lib.hid (show w5.heap.size < wr.heap.size by obtain ⟨Q, q1, _⟩ := hQ.out; exact (q1.blk rfl).2)
            clear d0 f0 a0 a1 a2 a3 a4 a5 hbb hbx hb1 hQ
            rename World => W6
            go_loopw [12, 75] (fun f i wr2 => ∃ j : Nat, j ≤ X.length ∧ i = .int .i64 j ∧ f = .bool (decide ((⟨v, y1, y2, y3, y4, y5⟩ : Ev) ∈ X.take j)) ∧ Hid (∃ Q, OA boE wr2 w5.heap.size (some ⟨w5.heap.size, 0, none⟩) X.length X.length Q ∧ MetJ X (mapL M l k) (⟨v, y1, y2, y3, y4, y5⟩ : Ev) j Q) ∧ Hid (Blk wr2 wr.heap.size 40 #[.int .i64 v, .int .i64 y1, .int .i64 y2, .int .i64 y3, .int .i64 y4, .int .i64 y5]) ∧ Below w5.heap.size w5 wr2) (fun _ i _ => X.length - (intOf i).toNat)
            case atStart =>
              obtain ⟨Q, q1, q2⟩ := HQ4.out
              exact ⟨0, Nat.zero_le _, rfl, by simp, Lib.hid ⟨Q, q1, MetJ.zero q2⟩, HX4, HB4.out⟩
            case round =>
              clear HQ4 HX4 HB4 hB
              obtain ⟨j, hj, rfl, rfl, hQ, hY, hC⟩ := hrel
              by_cases hlt2 : j < X.length
              · obtain ⟨s, hs⟩ : ∃ s, X[j] = s := ⟨_, rfl⟩
                have hs' : X[j]? = some s := by rw [List.getElem?_eq_getElem hlt2, hs]
                obtain ⟨bc, oc, rfl, hbc, e0, e1, e2, e3, e4, e5⟩ := ev_at (H4.out.below hC) hlt2 hs
                have hTk : X.take (j + 1) = X.take j ++ [s] := by rw [take_succ_get hlt2, hs]
                obtain ⟨Q, q1, q2⟩ := hQ.out
                have HQ2 := Lib.hid q2
                have HSJ := Lib.hid hs'
                clear hs hs'
                obtain ⟨z0, z1, z2, z3, z4, z5⟩ := s
                dsimp only at e0 e1 e2 e3 e4 e5
                have k3 : (0 : Int) ≤ (j : Int) := by omega
                have k4 : (j : Int) < (X.length : Int) := by omega
                have kw : IntKind.i64.wrap ((j : Int) + 1) = (j : Int) + 1 := IntWalk.i64_in _ (by omega)
                have hb2 := Bel.al hC (.cells #[.int .i64 z0, .int .i64 z1, .int .i64 z2, .int .i64 z3, .int .i64 z4, .int .i64 z5] 40)
                have hY2 := hY.out.alloc (.cells #[.int .i64 z0, .int .i64 z1, .int .i64 z2, .int .i64 z3, .int .i64 z4, .int .i64 z5] 40)
                have q1a := q1.alloc (.cells #[.int .i64 z0, .int .i64 z1, .int .i64 z2, .int .i64 z3, .int .i64 z4, .int .i64 z5] 40)
                obtain ⟨p1, p2, p3, p4⟩ := bo_at q1a hlt2 (q2.2 j _ HSJ.out)
                have HB2 := Lib.hid hb2
                have HBs := Lib.hid (show Below w5.heap.size w5 ((wr.alloc (.cells #[.int .i64 z0, .int .i64 z1, .int .i64 z2, .int .i64 z3, .int .i64 z4, .int .i64 z5] 40)).setCell ⟨w5.heap.size, j, none⟩ (.bool true)) from hb2.setCell (Nat.le_refl _) _)
                have f0 := hY2.cell 0
                have f1 := hY2.cell 1
                have f2 := hY2.cell 2
                have f3 := hY2.cell 3
                have f4 := hY2.cell 4
                have f5 := hY2.cell 5
                simp only [List.getElem?_toArray, List.getElem?_cons_zero, List.getElem?_cons_succ] at f0 f1 f2 f3 f4 f5
                have HYa := Lib.hid hY2
                have HQa := Lib.hid q1a
                have HP4 := Lib.hid p4
                obtain ⟨f, hf⟩ : ∃ f, decide ((⟨v, y1, y2, y3, y4, y5⟩ : Ev) ∈ X.take j) = f := ⟨_, rfl⟩
                rw [hf]
                rcases @ev_ne z0 z1 z2 z3 z4 z5 v y1 y2 y3 y4 y5 with ⟨rfl, rfl, rfl, rfl, rfl, rfl⟩ | ⟨hne, hcc⟩
                · have HN := Lib.hid (show decide ((⟨z0, z1, z2, z3, z4, z5⟩ : Ev) ∈ X.take (j + 1)) = true by rw [hTk]; exact decide_eq_true (List.mem_append.2 (.inr (List.mem_singleton.2 rfl))))
                  clear hf hTk q1 q2 q1a p4 hb2 hY2 hbc
                  go_wp2_with fail
                  exact ⟨⟨j + 1, by omega, by simp, by rw [HN.out], Lib.hid ⟨Q.set j true, HP4.out, HQ2.out.hit HSJ.out⟩, Lib.hid (HYa.out.far (by have := HGT.out; show _ ≠ w5.heap.size; omega) _), HBs.out⟩, by simp only [intOf]; omega⟩
                · have HN := Lib.hid (show decide ((⟨v, y1, y2, y3, y4, y5⟩ : Ev) ∈ X.take (j + 1)) = f by
                    rw [hTk, ← hf]
                    refine decide_eq_decide.2 ?_
                    rw [List.mem_append, List.mem_singleton]
                    exact ⟨fun h => h.elim id (fun h => absurd h.symm hne), .inl⟩)
                  have HQM := Lib.hid (HQ2.out.miss HSJ.out hne)
                  clear hf hTk hne q1 q2 q1a p1 p2 p3 p4 hb2 hY2 hbc HBs
                  rcases hcc with h | ⟨rfl, h⟩ | ⟨rfl, rfl, h⟩ | ⟨rfl, rfl, rfl, h⟩ | ⟨rfl, rfl, rfl, rfl, h⟩ | ⟨rfl, rfl, rfl, rfl, rfl, h⟩
                  all_goals
                    go_wp2_with fail
                    exact ⟨⟨j + 1, by omega, by simp, by rw [HN.out], Lib.hid ⟨Q, HQa.out, HQM.out⟩, HYa, HB2.out⟩, by simp only [intOf]; omega⟩
              · obtain rfl : j = X.length := by omega
                have hft : decide ((⟨v, y1, y2, y3, y4, y5⟩ : Ev) ∈ X.take X.length) = true := by rw [List.take_length]; exact decide_eq_true HIN.out
                rw [hft]
                obtain ⟨Q, q1, q2⟩ := hQ.out
                have q3 := q2.done
                rw [← HSN.out] at q3
                have HQ3 := Lib.hid q3
                clear q2 q3 hft hlt2 hj
                go_wp2_with fail
                exact ⟨⟨k + 1, by omega, by simp, Lib.hid ⟨Q, q1, HQ3.out⟩, hC⟩, by simp only [intOf]; omega⟩
          · obtain rfl : k = n := by omega
            have hall : ∀ (i : Nat) (x : Ev), X[i]? = some x → x ∈ mapL M l k := by
              intro i x hx
              have h2 := (HM.out x).1 (List.mem_of_getElem? hx)
              unfold mapL
              rw [List.take_of_length_le (by omega)]
              exact h2
            obtain ⟨Q, q1, q2⟩ := hQ.out
            have HQ := Lib.hid q1
            have HQ2 := Lib.hid fun (i : Nat) (hi : i < X.length) => show Q[i]? = some true by
              have hx : X[i]? = some X[i] := List.getElem?_eq_getElem hi
              rw [q2.2 i _ hx, decide_eq_true (hall i _ hx)]
            have HB0 := Lib.hid hB
            rename World => W0
            clear hall q1 q2 hQ hB hlt hk
            go_wp2_with fail
            go_loopw [92] (fun i wr2 => ∃ j : Nat, j ≤ X.length ∧ i = .int .i64 j ∧ Below W0.heap.size W0 wr2) (fun i _ => X.length - (intOf i).toNat)
            case atStart => exact ⟨0, Nat.zero_le _, rfl, Below.refl _ _⟩
            case round =>
              obtain ⟨j, hj, rfl, hC⟩ := hrel
              by_cases hlt : j < X.length
              · obtain ⟨p1, _, _, _⟩ := bo_at (HQ.out.below hC) hlt (HQ2.out j hlt)
                have g3 : (0 : Int) ≤ (j : Int) := by omega
                have g4 : (j : Int) < (X.length : Int) := by omega
                have gw : IntKind.i64.wrap ((j : Int) + 1) = (j : Int) + 1 := IntWalk.i64_in _ (by omega)
                go_wp2_with fail
                exact ⟨⟨j + 1, by omega, by simp, hC⟩, by simp only [intOf]; omega⟩
              · obtain rfl : j = X.length := by omega
                have HBe := Lib.hid (Bel.on0 hB5 (Bel.on0 HB0.out hC))
                go_wp2_with fail
                go_ret
                exact ⟨rfl, HBe.out⟩
  · have CF := Lib.hid fun w' => few_no (A := A) (c := c) hn hlen w'
    go_enter Try.func6, Try.ntmps6
    go_wp2_with (first
      | (go_at_call 10; (with_reducible refine CS.mono ?_); rintro e w1 ⟨rfl, b1⟩)
      | (go_at_call 11; (with_reducible refine (CF.out _).mono ?_); rintro e w2 ⟨rfl, rfl⟩))
    go_ret
    exact ⟨rfl, b1⟩
end Go.Proofs.Ytmfdflfjllpceaa
