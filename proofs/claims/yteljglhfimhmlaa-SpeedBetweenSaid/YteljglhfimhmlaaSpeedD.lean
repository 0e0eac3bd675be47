/- Layer 26: the whole contracts, the reference's Convert, 'Same', the laws' helpers, 'sane'. -/
import Derived.Test.YteljglhfimhmlaaSpeedC
import Derived.StillTailTactics
namespace Go.Proofs.Yteljglhfimhmlaa
open Go.RowKit

theorem readS_i64 {l : List Int} {a b i : Int} (h : SpeedOk a b) : I64 (sampS l a b i) := by
  obtain ⟨_, _, b1, _, _⟩ := h
  have := readS_bd l (i * a / b) (i * a % b) b b1 (Int.emod_nonneg _ (by omega)) (Int.emod_lt_of_pos _ (by omega))
  unfold sampS
  exact ⟨by omega, by omega⟩
theorem convS_i64 {l : List Int} {a b : Int} (h : SpeedOk a b) : ∀ x ∈ convS l a b, I64 x := by
  intro x hx
  obtain ⟨i, _, rfl⟩ := List.mem_map.1 hx
  exact readS_i64 h
theorem conv_any (A : Option Addr) (n c : Nat) (l : List Int) (a b : Int) (w : World) (h : SL w A n c l) :
    Calls Try.prog 54 #[.slice A n c, .int .i64 a, .int .i64 b] w (RetS w (convR l a b).1 (convR l a b).2) := by
  unfold convR
  rw [h.n_eq]
  by_cases h1 : SpeedOk a b ∧ (n : Int) ≤ 16777216
  · rw [if_pos h1]
    have h3 := cntS_le (n := (n : Int)) (by omega) h1.1
    by_cases h2 : cntS n a b ≤ 16777216
    · rw [if_pos h2]
      refine (conv_ok A n c (cntS n a b).toNat l a b w h h1.1 h1.2 (by omega) (by omega)).mono ?_
      rintro e w' ⟨g, he, hb, hB⟩
      have hl : (convS l a b).length = (cntS n a b).toNat := by rw [convS_len, h.n_eq]
      have hsl := hb.sl (by rw [hl]; simp [maxLen]; omega) (convS_i64 h1.1)
      rw [hl] at hsl
      exact ⟨_, _, _, he, hsl, hB⟩
    · rw [if_neg h2]
      exact conv_big A n c l a b w h h1.1 h1.2 (by omega)
  · rw [if_neg h1]
    exact conv_bad A n c l a b w h h1
theorem conv_eq {A : Option Addr} {n c : Nat} {l r : List Int} {a b k : Int} {w : World} (e : convR l a b = (r, k)) (h : SL w A n c l) : Calls Try.prog 54 #[.slice A n c, .int .i64 a, .int .i64 b] w (RetS w r k) := by
  have := conv_any A n c l a b w h; rw [e] at this; exact this
theorem same26_any (A B : Option Addr) (n c m d : Nat) (a b : List Int) (w : World) (ha : SL w A n c a) (hb : SL w B m d b) :
    Calls Try.prog 56 #[.slice A n c, .slice B m d] w fun e w' => e = .returned (.bool (decide (a = b))) ∧ Below w.heap.size w w' := by
  have hla := ha.len
  have hlb := hb.len
  have HA := Lib.hid ha.n_eq
  have HB := Lib.hid hb.n_eq
  by_cases hl : n = m
  · subst hl
    have e0 : ((n : Int) != (n : Int)) = false := by simp
    go_enter Try.func56, Try.ntmps56
    go_wp2
    go_loopw [5] (fun i wr => ∃ k : Nat, k ≤ n ∧ i = .int .i64 k ∧ a.take k = b.take k ∧ Below w.heap.size w wr) (fun i _ => n - (intOf i).toNat)
    case atStart => exact ⟨0, Nat.zero_le _, rfl, by simp, Below.refl _ _⟩
    case round =>
      obtain ⟨k, hk, rfl, he, hbel⟩ := hrel
      by_cases hlt : k < n
      · obtain ⟨ba, oa, rfl, hba, ca⟩ := (ha.below hbel).at_ (show k < a.length by rw [HA.out]; exact hlt)
        obtain ⟨bb, ob, rfl, hbb, cb⟩ := (hb.below hbel).at_ (show k < b.length by rw [HB.out]; exact hlt)
        obtain ⟨x, hx⟩ : ∃ x, a[k]'(by rw [HA.out]; exact hlt) = x := ⟨_, rfl⟩
        obtain ⟨y, hy⟩ : ∃ y, b[k]'(by rw [HB.out]; exact hlt) = y := ⟨_, rfl⟩
        rw [hx] at ca
        rw [hy] at cb
        by_cases hab : x = y
        · have e1 : (x != y) = false := by simpa using hab
          have HN := Lib.hid (show a.take (k + 1) = b.take (k + 1) by
            rw [take_succ_get (show k < a.length by rw [HA.out]; exact hlt), take_succ_get (show k < b.length by rw [HB.out]; exact hlt), he, hx, hy, hab])
          clear hx hy hab he
          go_wp2
          go_still (by kernel_rfl)
          go_wp2
          exact ⟨⟨k + 1, by omega, by simp, HN.out, hbel.drew⟩, by simp only [intOf]; omega⟩
        · have e1 : (x != y) = true := by simpa using hab
          have HN := Lib.hid (show decide (a = b) = false by
            simp only [decide_eq_false_iff_not]
            rintro rfl
            exact hab (hx.symm.trans hy))
          clear hx hy hab he
          go_wp2
          go_still (by kernel_rfl)
          go_wp2
          go_ret
          exact ⟨ret_bool HN.out.symm, hbel.drew⟩
      · obtain rfl : k = n := by omega
        have HN := Lib.hid (show decide (a = b) = true by
          rw [List.take_of_length_le (by rw [HA.out]; omega), List.take_of_length_le (by rw [HB.out]; omega)] at he
          simpa using he)
        clear he
        go_wp2
        go_ret
        exact ⟨ret_bool HN.out.symm, hbel⟩
  · have e0 : ((n : Int) != (m : Int)) = true := by simp; omega
    have H := Lib.hid (show decide (a = b) = false by
      simp only [decide_eq_false_iff_not]
      rintro rfl
      exact hl (HA.out.symm.trans HB.out))
    go_enter Try.func56, Try.ntmps56
    go_wp2
    go_ret
    exact ⟨ret_bool H.out.symm, Below.refl _ _⟩

theorem few26_any (A : Option Addr) (m c : Nat) (w : World) (h : (m : Int) ≤ 9223372036854775807) : Calls Try.prog 49 #[.slice A m c] w fun e w' => e = .returned (.bool (decide (m ≤ 60))) ∧ w = w' := by
  have H := Lib.hid (show decide (m ≤ 60) = decide ((m : Int) ≤ 60) by simp; omega)
  go_enter Try.func49, Try.ntmps49
  go_wp2
  go_ret
  exact ⟨ret_bool H.out.symm, rfl⟩
set_option maxHeartbeats 2000000 in
theorem clipped_any (A : Option Addr) (n c : Nat) (l : List Int) (w : World) (h : SL w A n c l) (hn : n ≤ 1000000) :
    Calls Try.prog 57 #[.slice A n c] w fun e w' => ∃ A' n' c', e = .returned (.slice A' n' c') ∧ SL w' A' n' c' (l.map clipS) ∧ Below w.heap.size w w' := by
  have HL := Lib.hid h.n_eq
  go_enter Try.func57, Try.ntmps57
  go_wp2
  go_loopw [2, 7] (fun o i wr => ∃ k A' c', k ≤ n ∧ i = .int .i64 (k : Nat) ∧ o = .slice A' k c' ∧ OL wr w.heap.size A' k c' ((l.take k).map clipS) ∧ Below w.heap.size w wr) (fun _ i _ => n - (intOf i).toNat)
  case atStart => exact ⟨0, none, 0, Nat.zero_le _, rfl, rfl, OL.nil _ _, Below.refl _ _⟩
  case round =>
    obtain ⟨k, A', c', hk, rfl, rfl, hOw, hbel⟩ := hrel
    by_cases hlt : k < n
    · have hpl : k < l.length := by rw [HL.out]; exact hlt
      obtain ⟨b, o, rfl, hb, cA⟩ := (h.below hbel).at_ hpl
      have htk := take_succ_get hpl
      obtain ⟨x, hx⟩ : ∃ x, l[k] = x := ⟨_, rfl⟩
      rw [hx] at cA htk
      obtain ⟨A2, c2, w2, eA, hO2, hB2, _⟩ := (hOw.alloc (.cells #[vint (clipS x)] 3)).app (SL.lit wr 3 [clipS x] _ rfl (by simp [maxLen]) (by have := clipS_bd x; simp [I64]; omega)) (by have := hbel.size; simp; omega) (by simp; omega)
      have hbel2 := (hbel.alloc (hbel.size) (.cells #[vint (clipS x)] 3)).trans hB2
      rw [show (l.take k).map clipS ++ [clipS x] = (l.take (k + 1)).map clipS by rw [htk]; simp] at hO2
      clear htk hx hOw hpl
      go_wp2_with (first | (go_at_call 24; refine (clip_any _ _).mono ?_; rintro e w' ⟨rfl, rfl⟩) | (at_builtin; refine wpList_append_eq rfl _ _ _ rfl rfl rfl eA ?_; clear eA))
      exact ⟨⟨k + 1, A2, c2, by omega, by simp, by simp, by simpa using hO2, hbel2⟩, by simp only [intOf]; omega⟩
    · obtain rfl : k = n := by omega
      rw [List.take_of_length_le (by rw [HL.out]; omega)] at hOw
      go_wp2
      go_ret
      exact ⟨_, _, _, rfl, hOw.sl, hbel⟩

set_option maxHeartbeats 2000000 in
theorem rconv_any (A : Option Addr) (n c : Nat) (l : List Int) (a b : Int) (w : World) (h : SL w A n c l) (hn60 : n ≤ 1000) :
    Calls Try.prog 55 #[.slice A n c, .int .i64 a, .int .i64 b] w (RetS w (convR l a b).1 (convR l a b).2) := by
  have hlen := h.len
  have hB := Below.refl w.heap.size w
  have HL := Lib.hid h.n_eq
  have HSL := Lib.hid h
  have C := rvalid_any a b w
  unfold convR
  rw [HL.out]
  by_cases hs : SpeedOk a b
  · have h3 := (cntS_le (n := (n : Int)) (by omega) hs)
    rw [if_pos ⟨hs, by omega⟩, if_pos (by omega)]
    rw [show speedB a b = true from decide_eq_true hs] at C
    obtain ⟨a1, a2, b1, b2, _⟩ := id hs
    obtain ⟨m, hm⟩ : ∃ m : Nat, cntS n a b = m := ⟨(cntS n a b).toNat, by omega⟩
    have CC := fun w => rlength_any n a b w ⟨by omega, by omega⟩ ⟨a1, a2⟩ ⟨b1, b2⟩
    rw [hm] at CC h3
    have CX := Lib.hid CC
    have HM := Lib.hid hm
    have HH := Lib.hid hs
    clear hm CC hs
    go_enter Try.func55, Try.ntmps55
    go_wp2_with (first
      | (go_at_call 73; refine C.mono ?_; rintro e w1 ⟨rfl, hh⟩; ((try first | replace h := SL.below h hh | replace h := SL.on1 h hh | replace h := SL.on2 h hh); (try first | replace hs1 := SL.below hs1 hh | replace hs1 := SL.on1 hs1 hh | replace hs1 := SL.on2 hs1 hh); (try first | replace hs2 := SL.below hs2 hh | replace hs2 := SL.on1 hs2 hh | replace hs2 := SL.on2 hs2 hh); (try first | replace hB := Bel.on0 hB hh | replace hB := Bel.on1 hB hh | replace hB := Bel.on2 hB hh); clear hh))
      | (go_at_call 74; refine (CX.out _).mono ?_; rintro e w2 ⟨rfl, hh⟩; ((try first | replace h := SL.below h hh | replace h := SL.on1 h hh | replace h := SL.on2 h hh); (try first | replace hs1 := SL.below hs1 hh | replace hs1 := SL.on1 hs1 hh | replace hs1 := SL.on2 hs1 hh); (try first | replace hs2 := SL.below hs2 hh | replace hs2 := SL.on1 hs2 hh | replace hs2 := SL.on2 hs2 hh); (try first | replace hB := Bel.on0 hB hh | replace hB := Bel.on1 hB hh | replace hB := Bel.on2 hB hh); clear hh)))
    obtain ⟨W0, hW0⟩ : ∃ W0, w2.alloc (.cells #[] 3) = W0 := ⟨_, rfl⟩
    have hO0 := OL.lit w2 hB.size
    have h0 := h.alloc (.cells #[] 3)
    have hB0 := Bel.al hB (.cells #[] 3)
    rw [hW0] at hO0 h0 hB0
    have hvi : ∀ i, I64 (sampS l a b i) := fun i => readS_i64 HH.out
    have HV := Lib.hid hvi
    rw [hW0]
    clear hW0 h hB hvi
    go_loopw [9, 10] (fun o i wr => ∃ k A' c', k ≤ m ∧ i = .int .i64 (k : Nat) ∧ o = .slice A' k c' ∧ OL wr w.heap.size A' k c' ((List.range k).map fun (i : Nat) => sampS l a b i) ∧ SL wr A n c l ∧ Below w.heap.size w wr) (fun _ i _ => m - (intOf i).toNat)
    case atStart => exact ⟨0, _, _, Nat.zero_le _, rfl, rfl, hO0, h0, hB0⟩
    case round =>
      obtain ⟨k, A', c', hk, rfl, rfl, hOw, h, hB⟩ := hrel
      clear hO0 h0 hB0
      by_cases hlt : k < m
      · obtain ⟨V, hV⟩ : ∃ V, sampS l a b k = V := ⟨_, rfl⟩
        have hVi : I64 V := hV ▸ HV.out k
        have CS := fun w h => rsamp_any A n c l a b k w h HH.out (by omega) (by rw [HM.out]; omega) (by omega)
        rw [hV] at CS
        have HS := Lib.hid CS
        have hr : (List.range (k + 1)).map (fun (i : Nat) => sampS l a b i) = (List.range k).map (fun (i : Nat) => sampS l a b i) ++ [V] := by rw [List.range_succ, List.map_append, ← hV]; rfl
        have HR := Lib.hid hr
        obtain ⟨L, hL⟩ : ∃ L, (List.range k).map (fun (i : Nat) => sampS l a b i) = L := ⟨_, rfl⟩
        rw [hL] at hOw HR
        clear CS hV hr hL
        go_wp2_with (first
          | (go_at_call 76; refine (HS.out _ h).mono ?_; rintro e w3 ⟨rfl, hh⟩; replace hOw := hOw.below hh; ((try first | replace h := SL.below h hh | replace h := SL.on1 h hh | replace h := SL.on2 h hh); (try first | replace hs1 := SL.below hs1 hh | replace hs1 := SL.on1 hs1 hh | replace hs1 := SL.on2 hs1 hh); (try first | replace hs2 := SL.below hs2 hh | replace hs2 := SL.on1 hs2 hh | replace hs2 := SL.on2 hs2 hh); (try first | replace hB := Bel.on0 hB hh | replace hB := Bel.on1 hB hh | replace hB := Bel.on2 hB hh); clear hh); obtain ⟨A2, c2, w4, eA, hO2, hB2, _⟩ := (hOw.alloc (.cells #[vint V] 3)).app (SL.lit w3 3 [V] _ rfl (by simp [maxLen]) (by simpa using hVi)) (by have := hB.size; simp; omega) (by simp; omega))
          | (at_builtin; refine wpList_append_eq rfl _ _ _ rfl rfl rfl eA ?_; clear eA))
        have hB3 := Bel.al hB (.cells #[vint V] 3)
        have hB4 := hB3.trans (hB2.mono (Nat.le_refl _))
        exact ⟨⟨k + 1, A2, c2, by omega, by simp, by simp, by rw [HR.out]; simpa using hO2, HSL.out.below hB4, hB4⟩, by simp only [intOf]; omega⟩
      · obtain rfl : k = m := by omega
        go_wp2
        go_ret2
        refine ⟨_, _, _, rfl, ?_, hB⟩
        have := hOw.sl
        unfold convS
        rw [HL.out, HM.out]
        simpa using this
  · rw [if_neg (fun k => hs k.1)]
    rw [show speedB a b = false from decide_eq_false hs] at C
    clear hs
    go_enter Try.func55, Try.ntmps55
    go_wp2_with (go_at_call 73; refine C.mono ?_; rintro e w1 ⟨rfl, hh⟩; ((try first | replace h := SL.below h hh | replace h := SL.on1 h hh | replace h := SL.on2 h hh); (try first | replace hs1 := SL.below hs1 hh | replace hs1 := SL.on1 hs1 hh | replace hs1 := SL.on2 hs1 hh); (try first | replace hs2 := SL.below hs2 hh | replace hs2 := SL.on1 hs2 hh | replace hs2 := SL.on2 hs2 hh); (try first | replace hB := Bel.on0 hB hh | replace hB := Bel.on1 hB hh | replace hB := Bel.on2 hB hh); clear hh))
    go_ret2
    exact ⟨none, 0, 0, rfl, SL.nil, hB⟩
theorem rconv_eq {A : Option Addr} {n c : Nat} {l r : List Int} {a b k : Int} {w : World} (e : convR l a b = (r, k)) (h : SL w A n c l) (hn : n ≤ 1000) : Calls Try.prog 55 #[.slice A n c, .int .i64 a, .int .i64 b] w (RetS w r k) := by
  have := rconv_any A n c l a b w h hn; rw [e] at this; exact this
theorem same26_eq {A B : Option Addr} {n c nb cb : Nat} {l b : List Int} {w : World} (h : SL w A n c l) (hb : SL w B nb cb b) (e : l = b) : Calls Try.prog 56 #[.slice A n c, .slice B nb cb] w fun e w' => e = .returned (.bool true) ∧ Below w.heap.size w w' := by
  have := same26_any A B n c nb cb l b w h hb; rw [decide_eq_true e] at this; exact this
theorem len_eq {n a b m k : Int} {w : World} (e : lenR n a b = (m, k)) (hn : I64 n) : Calls Try.prog 50 #[.int .i64 n, .int .i64 a, .int .i64 b] w fun e w' => e = .returned (.tuple #[.int .i64 m, .int .i64 k]) ∧ Below w.heap.size w w' := by
  have := len_any n a b w hn; rw [e] at this; exact this
theorem at_eq {A : Option Addr} {n c : Nat} {l : List Int} {a b i y k : Int} {w : World} (e : atR l a b i = (y, k)) (h : SL w A n c l) : Calls Try.prog 52 #[.slice A n c, .int .i64 a, .int .i64 b, .int .i64 i] w fun e w' => e = .returned (.tuple #[.int .i64 y, .int .i64 k]) ∧ Below w.heap.size w w' := by
  have := at_any A n c l a b i w h; rw [e] at this; exact this

set_option maxHeartbeats 4000000 in
set_option maxRecDepth 100000 in
theorem sane26_any (w : World) : Calls Try.prog 48 #[] w fun e w' => e = .returned (.bool true) ∧ Below w.heap.size w w' := by
  have l1 : lenR 5 2 3 = (7, 0) := by decide
  have l2 : lenR 0 1 2 = (0, 0) := by decide
  have l3 : lenR 1 64 1 = (1, 0) := by decide
  have l4 : lenR 5 2 4 = (0, 1) := by decide
  have i1 : convR [0, 10, 5] 1 2 = ([0, 5, 10, 7, 5], 0) := by decide
  have i2 : convR [1, 2, 3, 4, 5] 2 1 = ([1, 3, 5], 0) := by decide
  have a1 : atR [1, 2] 1 1 2 = (0, 1) := by decide
  have a2 : atR [0, 10, 5] 1 2 3 = (7, 0) := by decide
  have hB := Below.refl w.heap.size w
  go_enter Try.func48, Try.ntmps48
  go_wp2_with (first
    | (go_at_call 50; (with_reducible refine (len_eq l1 (by unfold I64; omega)).mono ?_); rintro e w1 ⟨rfl, hb⟩; ((try first | replace h := SL.below h hb | replace h := SL.on1 h hb | replace h := SL.on2 h hb); (try first | replace hs1 := SL.below hs1 hb | replace hs1 := SL.on1 hs1 hb | replace hs1 := SL.on2 hs1 hb); (try first | replace hs2 := SL.below hs2 hb | replace hs2 := SL.on1 hs2 hb | replace hs2 := SL.on2 hs2 hb); (try first | replace hB := Bel.on0 hB hb | replace hB := Bel.on1 hB hb | replace hB := Bel.on2 hB hb); clear hb))
    | (go_at_call 50; (with_reducible refine (len_eq l2 (by unfold I64; omega)).mono ?_); rintro e w1 ⟨rfl, hb⟩; ((try first | replace h := SL.below h hb | replace h := SL.on1 h hb | replace h := SL.on2 h hb); (try first | replace hs1 := SL.below hs1 hb | replace hs1 := SL.on1 hs1 hb | replace hs1 := SL.on2 hs1 hb); (try first | replace hs2 := SL.below hs2 hb | replace hs2 := SL.on1 hs2 hb | replace hs2 := SL.on2 hs2 hb); (try first | replace hB := Bel.on0 hB hb | replace hB := Bel.on1 hB hb | replace hB := Bel.on2 hB hb); clear hb))
    | (go_at_call 50; (with_reducible refine (len_eq l3 (by unfold I64; omega)).mono ?_); rintro e w1 ⟨rfl, hb⟩; ((try first | replace h := SL.below h hb | replace h := SL.on1 h hb | replace h := SL.on2 h hb); (try first | replace hs1 := SL.below hs1 hb | replace hs1 := SL.on1 hs1 hb | replace hs1 := SL.on2 hs1 hb); (try first | replace hs2 := SL.below hs2 hb | replace hs2 := SL.on1 hs2 hb | replace hs2 := SL.on2 hs2 hb); (try first | replace hB := Bel.on0 hB hb | replace hB := Bel.on1 hB hb | replace hB := Bel.on2 hB hb); clear hb))
    | (go_at_call 50; (with_reducible refine (len_eq l4 (by unfold I64; omega)).mono ?_); rintro e w1 ⟨rfl, hb⟩; ((try first | replace h := SL.below h hb | replace h := SL.on1 h hb | replace h := SL.on2 h hb); (try first | replace hs1 := SL.below hs1 hb | replace hs1 := SL.on1 hs1 hb | replace hs1 := SL.on2 hs1 hb); (try first | replace hs2 := SL.below hs2 hb | replace hs2 := SL.on1 hs2 hb | replace hs2 := SL.on2 hs2 hb); (try first | replace hB := Bel.on0 hB hb | replace hB := Bel.on1 hB hb | replace hB := Bel.on2 hB hb); clear hb))
    | (go_at_call 54; (with_reducible refine (conv_eq i1 (SL.lit' (n := 3) _ [0, 10, 5] #[.int .i64 0, .int .i64 10, .int .i64 5] rfl rfl (by omega) (small_i64 (by simp)))).mono ?_); rintro e w1 ⟨A1, n1, c1, rfl, hs1, hb⟩; ((try first | replace h := SL.below h hb | replace h := SL.on1 h hb | replace h := SL.on2 h hb); (try first | replace hs1 := SL.below hs1 hb | replace hs1 := SL.on1 hs1 hb | replace hs1 := SL.on2 hs1 hb); (try first | replace hs2 := SL.below hs2 hb | replace hs2 := SL.on1 hs2 hb | replace hs2 := SL.on2 hs2 hb); (try first | replace hB := Bel.on0 hB hb | replace hB := Bel.on1 hB hb | replace hB := Bel.on2 hB hb); clear hb))
    | (go_at_call 54; (with_reducible refine (conv_eq i2 (SL.lit' (n := 5) _ [1, 2, 3, 4, 5] #[.int .i64 1, .int .i64 2, .int .i64 3, .int .i64 4, .int .i64 5] rfl rfl (by omega) (small_i64 (by simp)))).mono ?_); rintro e w1 ⟨A2, n2, c2, rfl, hs2, hb⟩; ((try first | replace h := SL.below h hb | replace h := SL.on1 h hb | replace h := SL.on2 h hb); (try first | replace hs1 := SL.below hs1 hb | replace hs1 := SL.on1 hs1 hb | replace hs1 := SL.on2 hs1 hb); (try first | replace hs2 := SL.below hs2 hb | replace hs2 := SL.on1 hs2 hb | replace hs2 := SL.on2 hs2 hb); (try first | replace hB := Bel.on0 hB hb | replace hB := Bel.on1 hB hb | replace hB := Bel.on2 hB hb); clear hb))
    | (go_at_call 52; (with_reducible refine (at_eq a1 (SL.lit' (n := 2) _ [1, 2] #[.int .i64 1, .int .i64 2] rfl rfl (by omega) (small_i64 (by simp)))).mono ?_); rintro e w1 ⟨rfl, hb⟩; ((try first | replace h := SL.below h hb | replace h := SL.on1 h hb | replace h := SL.on2 h hb); (try first | replace hs1 := SL.below hs1 hb | replace hs1 := SL.on1 hs1 hb | replace hs1 := SL.on2 hs1 hb); (try first | replace hs2 := SL.below hs2 hb | replace hs2 := SL.on1 hs2 hb | replace hs2 := SL.on2 hs2 hb); (try first | replace hB := Bel.on0 hB hb | replace hB := Bel.on1 hB hb | replace hB := Bel.on2 hB hb); clear hb))
    | (go_at_call 52; (with_reducible refine (at_eq a2 (SL.lit' (n := 3) _ [0, 10, 5] #[.int .i64 0, .int .i64 10, .int .i64 5] rfl rfl (by omega) (small_i64 (by simp)))).mono ?_); rintro e w1 ⟨rfl, hb⟩; ((try first | replace h := SL.below h hb | replace h := SL.on1 h hb | replace h := SL.on2 h hb); (try first | replace hs1 := SL.below hs1 hb | replace hs1 := SL.on1 hs1 hb | replace hs1 := SL.on2 hs1 hb); (try first | replace hs2 := SL.below hs2 hb | replace hs2 := SL.on1 hs2 hb | replace hs2 := SL.on2 hs2 hb); (try first | replace hB := Bel.on0 hB hb | replace hB := Bel.on1 hB hb | replace hB := Bel.on2 hB hb); clear hb))
    | (go_at_call 56; (with_reducible refine (same26_eq (hs1.alloc _) (SL.lit' (n := 5) _ [0, 5, 10, 7, 5] #[.int .i64 0, .int .i64 5, .int .i64 10, .int .i64 7, .int .i64 5] rfl rfl (by omega) (small_i64 (by simp))) rfl).mono ?_); rintro e w1 ⟨rfl, hb⟩; ((try first | replace h := SL.below h hb | replace h := SL.on1 h hb | replace h := SL.on2 h hb); (try first | replace hs1 := SL.below hs1 hb | replace hs1 := SL.on1 hs1 hb | replace hs1 := SL.on2 hs1 hb); (try first | replace hs2 := SL.below hs2 hb | replace hs2 := SL.on1 hs2 hb | replace hs2 := SL.on2 hs2 hb); (try first | replace hB := Bel.on0 hB hb | replace hB := Bel.on1 hB hb | replace hB := Bel.on2 hB hb); clear hb))
    | (go_at_call 56; (with_reducible refine (same26_eq (hs2.alloc _) (SL.lit' (n := 3) _ [1, 3, 5] #[.int .i64 1, .int .i64 3, .int .i64 5] rfl rfl (by omega) (small_i64 (by simp))) rfl).mono ?_); rintro e w1 ⟨rfl, hb⟩; ((try first | replace h := SL.below h hb | replace h := SL.on1 h hb | replace h := SL.on2 h hb); (try first | replace hs1 := SL.below hs1 hb | replace hs1 := SL.on1 hs1 hb | replace hs1 := SL.on2 hs1 hb); (try first | replace hs2 := SL.below hs2 hb | replace hs2 := SL.on1 hs2 hb | replace hs2 := SL.on2 hs2 hb); (try first | replace hB := Bel.on0 hB hb | replace hB := Bel.on1 hB hb | replace hB := Bel.on2 hB hb); clear hb)))
  go_ret
  exact ⟨rfl, hB⟩
end Go.Proofs.Yteljglhfimhmlaa
