/- Layer 50: slices.Collect, SortedFunc, Values over events; midi.Sort. -/
import Derived.Test.YtmfdflfjllpceaaZMvH
namespace Go.Proofs.Ytmfdflfjllpceaa
open Go.RowKit Go.Shelf
attribute [local go_sem] Oper.semAt_some

theorem collect_any (gf : Nat) (lb : Array Value) (R : Nat → Prop) (S : List Ev → Prop) (V : List Ev → Ev → Prop) (w : World) (hseq : SeqX FW 2 Try.prog gf lb evV R S (fun _ => True) V w) (hR : ∀ k, R k → k < w.heap.size)
    (hV : ∀ pre x, V pre x → EvI x ∧ pre.length < 34359738368) (eg : ∀ args w, (callFunc gf args).run Try.prog w = .ok (.enter gf args) w) :
    Calls Try.prog 47 #[.func (.func gf) #[] lb] w fun e w' =>
      ∃ A n c xs, e = .returned (.slice A n c) ∧ OA evE w' w.heap.size A n c xs ∧ S xs ∧ Below w.heap.size w w' := by
  have C := aps_any gf lb R S V w hseq hR hV eg
  clear hseq hV eg
  go_enter Try.func47, Try.ntmps47
  go_wp2_with (go_at_call 57; refine C.mono ?_; rintro e w' ⟨A, n, c, xs, rfl, h1, h2, h3⟩)
  go_ret
  exact ⟨A, n, c, xs, rfl, h1, h2, h3⟩
theorem sortedf_any (gf : Nat) (lb : Array Value) (R : Nat → Prop) (S : List Ev → Prop) (V : List Ev → Ev → Prop) (w : World) (hseq : SeqX FW 2 Try.prog gf lb evV R S (fun _ => True) V w) (hR : ∀ k, R k → k < w.heap.size)
    (hV : ∀ pre x, V pre x → EvI x ∧ pre.length < 34359738368) (hS : ∀ xs, S xs → (∀ e ∈ xs, EvI e) ∧ xs.length ≤ 34359738368) (eg : ∀ args w, (callFunc gf args).run Try.prog w = .ok (.enter gf args) w) :
    Calls Try.prog 30 #[.func (.func gf) #[] lb, .func (.func 29) #[] #[]] w fun e w' =>
      ∃ A n c xs, e = .returned (.slice A n c) ∧ OA evE w' w.heap.size A n c (msort xs) ∧ S xs ∧ Below w.heap.size w w' := by
  have C := collect_any gf lb R S V w hseq hR hV eg
  clear hseq hV eg hR
  have CS := Lib.hid fun (w' : World) (B : Nat) (A : Option Addr) (n c : Nat) (l : List Ev) => slsort_any w' B A n c l
  go_enter Try.func30, Try.ntmps30
  go_wp2_with (first
    | (go_at_call 47; refine C.mono ?_; rintro e w1 ⟨A, n, c, xs, rfl, h1, h2, h3⟩; obtain ⟨hI, hl⟩ := hS xs h2)
    | (go_at_call 48; refine (CS.out _ _ _ _ _ _ h1 hI (by rw [← h1.n_eq]; omega)).mono ?_; rintro e w2 ⟨rfl, h4, h5⟩))
  go_ret
  exact ⟨A, n, c, xs, rfl, h4, h2, h3.trans h5⟩

theorem values_any (A : Option Addr) (n c : Nat) (w : World) : Calls Try.prog 31 #[.slice A n c] w fun e w' =>
    e = .returned (.func (.func 49) #[] #[.pointer (some ⟨w.heap.size, 0, none⟩)]) ∧ w.alloc (.cells #[.slice A n c] 22) = w' := by
  go_enter Try.func31, Try.ntmps31
  go_wp2
  go_ret
  exact ⟨rfl, rfl⟩
set_option maxHeartbeats 2000000 in
theorem values_seq (g n c PL : Nat) (A : Option Addr) (l : List Ev) (w : World) (h : SA evE w A n c l) (hg : 1 ≤ g) (cL : w.cell? ⟨PL, 0, none⟩ = some (.slice A n c)) :
    SeqX FW g Try.prog 49 #[.pointer (some ⟨PL, 0, none⟩)] evV (fun k => k = PL ∨ ∃ a, A = some a ∧ 0 < n ∧ k = a.block)
      (fun xs => xs = l) (fun _ => True) (fun pre x => pre.length < n ∧ l[pre.length]? = some x) w := by
  intro lp J Jx X0 W hW hJ hJx hX0 hY hJ0
  have hlen := h.len
  have hHL := Lib.hid h.n_eq
  have hSW := h.below hW
  have cLW := (hW.cell (lt_of_cell cL)).trans cL
  clear h cL hW
  refine callsIn_of_wp Try.func49 rfl trivial ?_ rfl
  simp only [Try.ntmps49, List.size_toArray, List.length_cons, List.length_nil, Nat.reduceAdd, Nat.reduceSub, Array.replicate_succ, Array.replicate_zero, List.push_toArray, List.append_toArray, List.nil_append, List.cons_append]
  gi_wp2
  gi_loopw [7] (fun i wr => ∃ (k : Nat) (X : Nat → Prop) (pre : List Ev), k ≤ n ∧ i = .int .i64 (k : Int) ∧ Hid (J pre X wr) ∧ pre.length = k ∧ Hid (pre = l.take k) ∧ wr.cell? ⟨PL, 0, none⟩ = some (.slice A n c) ∧ SA evE wr A n c l ∧ ∀ k, X k → k < wr.heap.size) (fun i _ => n - (intOf i).toNat)
  case atStart => exact ⟨0, X0, [], Nat.zero_le _, rfl, Lib.hid hJ0, rfl, Lib.hid rfl, cLW, hSW, hX0⟩
  case round =>
    clear cLW hSW hX0
    obtain ⟨k, X, pre, hk, rfl, HJ, hpk, HP, cL1, hS1, hXs⟩ := hrel
    by_cases hlt : k < n
    · have hkl : k < l.length := by rw [hHL.out]; exact hlt
      obtain ⟨s, hs⟩ : ∃ s, l[k] = s := ⟨_, rfl⟩
      have hs' : l[k]? = some s := by rw [List.getElem?_eq_getElem hkl, hs]
      obtain ⟨bb, oo, hAe, _, c0, c1, c2, c3, c4, c5⟩ := ev_at hS1 hkl hs
      have g3 : (0 : Int) ≤ (k : Int) := by omega
      have g4 : (k : Int) < (n : Int) := by omega
      have hbx := Blk.new wr 40 (evA s)
      have J0 := hJ _ _ _ _ _ HJ.out (Stp.alloc _ _ _ : Stp X (fun j => X j ∨ j = wr.heap.size) wr (wr.alloc (.cells (evA s) 40)))
      have hS2 := hS1.alloc (.cells (evA s) 40)
      have cL2 := cell_al cL1 (.cells (evA s) 40)
      have hX2 : ∀ j, (X j ∨ j = wr.heap.size) → j < (wr.alloc (.cells (evA s) 40)).heap.size := by
        rintro j (h5 | h5)
        · have := hXs j h5; rw [World.size_alloc]; omega
        · rw [World.size_alloc]; omega
      have HL1 := Lib.hid (show pre ++ [s] = l.take (k + 1) by rw [HP.out, take_succ_get hkl, hs])
      subst hAe
      have hw := hY pre s _ _ J0 ⟨by omega, by rw [hpk]; exact hs'⟩
      have HSL := Lib.hid hS2
      have HCL := Lib.hid cL2
      have HX2 := Lib.hid hX2
      clear hY hs hs' hS1 hXs J0 HJ hS2 cL2 hX2 cL1
      obtain ⟨st, sk, sc, se, sv, sn⟩ := s
      dsimp only [evV, evA] at *
      have d0 := hbx.cell 0
      have d1 := hbx.cell 1
      have d2 := hbx.cell 2
      have d3 := hbx.cell 3
      have d4 := hbx.cell 4
      have d5 := hbx.cell 5
      simp only [List.getElem?_toArray, List.getElem?_cons_zero, List.getElem?_cons_succ] at d0 d1 d2 d3 d4 d5
      clear hbx
      obtain ⟨fn, tmps, assign, body, hy, hR⟩ := hw
      gi_wp2
      refine hR.mono ?_
      rintro e W3 (⟨rfl, hJ3, hk3⟩ | ⟨rfl, hJx3⟩)
      · have hL4 := hk3.cell (p := ⟨PL, 0, none⟩) (.inl (.inl rfl)) HCL.out
        have hS4 := HSL.out.keep hk3 (fun a ha hn0 => .inl (.inr ⟨a, ha, hn0, rfl⟩))
        have hX4 : ∀ j, (X j ∨ j = wr.heap.size) → j < W3.heap.size := fun j hj => Nat.lt_of_lt_of_le (HX2.out j hj) hk3.1
        have HJ3 := Lib.hid hJ3
        clear hJ3 hy c0 c1 c2 c3 c4 c5 d0 d1 d2 d3 d4 d5
        gi_wp2
        refine ⟨⟨k + 1, _, _, by omega, by simp, HJ3, by simp; omega, HL1, hL4, hS4, hX4⟩, by simp only [intOf]; omega⟩
      · gi_wp2
        refine bodyPost_ret (results_none rfl _ _ _) rfl ?_
        exact ⟨⟨_, rfl⟩, .inr ⟨_, _, trivial, hJx3⟩⟩
    · obtain rfl : k = n := by omega
      gi_wp2
      go_end0
      exact ⟨⟨_, rfl⟩, .inl ⟨_, _, by rw [HP.out, List.take_of_length_le (by rw [hHL.out]; omega)], HJ.out⟩⟩
set_option maxHeartbeats 1000000 in
theorem sort_any (A : Option Addr) (n c : Nat) (l : List Ev) (w : World) (h : SA evE w A n c l) (hI : ∀ e ∈ l, EvI e) (hm : n ≤ 34359738368) :
    Calls Try.prog 15 #[.slice A n c] w fun e w' => ∃ A' n' c', e = .returned (.slice A' n' c') ∧ OA evE w' w.heap.size A' n' c' (msort l) ∧ Below w.heap.size w w' := by
  have hn := h.n_eq
  have hb := h.alloc (.cells #[.slice A n c] 22)
  have hc := (Blk.new w 22 #[.slice A n c]).cell 0
  simp only [List.getElem?_toArray, List.getElem?_cons_zero] at hc
  have hseq := values_seq 2 n c w.heap.size A l _ hb (by omega) hc
  have C := sortedf_any 49 #[.pointer (some ⟨w.heap.size, 0, none⟩)] _ _ _ _ hseq
    (by
      rintro k (rfl | ⟨a, ha, hn0, rfl⟩)
      · rw [World.size_alloc]; omega
      · obtain ⟨b, o, e1, hb, _⟩ := h.all_ hn0
        rw [ha] at e1; injection e1 with e1
        rw [e1, World.size_alloc]; show b < _; omega)
    (by rintro pre x ⟨h1, h2⟩; exact ⟨hI x (List.mem_of_getElem? h2), by omega⟩)
    (by rintro xs rfl; exact ⟨hI, by omega⟩)
    (enters_of Try.func49 (by kernel_rfl) rfl)
  have CV := values_any A n c w
  clear hseq hI
  go_enter Try.func15, Try.ntmps15
  go_wp2_with (first
    | (go_at_call 31; refine CV.mono ?_; rintro e w1 ⟨rfl, rfl⟩)
    | (go_at_call 30; refine C.mono ?_; rintro e w2 ⟨A', n', c', xs, rfl, h1, rfl, h2⟩))
  go_ret
  rw [World.size_alloc] at h1 h2
  exact ⟨A', n', c', rfl, h1.mono (by omega), (Bel.al (Below.refl _ w) _).trans (h2.mono (by omega))⟩
end Go.Proofs.Ytmfdflfjllpceaa
