/- The walk of SpeedLine (layer 26). -/
import Derived.Test.YteljglhfimhmlaaSpeedD
import Derived.Test.YteljglhfimhmlaaPlainSpeedC
namespace Go.Proofs.Yteljglhfimhmlaa
open Go.RowKit

theorem speed_gt {s r a b y i : Int} (hs : -1073741824 ≤ s ∧ s ≤ 1073741824) (hr : -16777216 ≤ r ∧ r ≤ 16777216) (ha : 1 ≤ a ∧ a ≤ 64) (hb : 1 ≤ b ∧ b ≤ 64) (hi : 0 ≤ i ∧ i ≤ 4096) (hy : -2147483648 ≤ y ∧ y ≤ 2147483647) :
    (-137438953472 ≤ y * b ∧ y * b ≤ 137438953472) ∧ (-137438953472 ≤ (y + 1) * b ∧ (y + 1) * b ≤ 137438953472) ∧ (-68719476736 ≤ s * b ∧ s * b ≤ 68719476736) ∧ (-68719476736 ≤ r * i ∧ r * i ≤ 68719476736) ∧ (-4398046511104 ≤ r * i * a ∧ r * i * a ≤ 4398046511104) := by
  have h1 := mul_bd (x := y) (y := b) (M := 2147483648) (N := 64) (by omega) (by omega) (by omega) (by omega) (by omega) (by omega)
  have h2 := mul_bd (x := y + 1) (y := b) (M := 2147483648) (N := 64) (by omega) (by omega) (by omega) (by omega) (by omega) (by omega)
  have h3 := mul_bd (x := s) (y := b) (M := 1073741824) (N := 64) (by omega) (by omega) (by omega) (by omega) (by omega) (by omega)
  have h4 := mul_bd (x := r) (y := i) (M := 16777216) (N := 4096) (by omega) (by omega) (by omega) (by omega) (by omega) (by omega)
  have h5 := mul_bd (x := r * i) (y := a) (M := 68719476736) (N := 64) (by omega) (by omega) (by omega) (by omega) (by omega) (by omega)
  exact ⟨by omega, by omega, by omega, by omega, by omega⟩
theorem line_in {s r : Int} {m j : Nat} (hs : -1073741824 ≤ s ∧ s ≤ 1073741824) (hr : -16777216 ≤ r ∧ r ≤ 16777216) (hm : m ≤ 50) (hj : j < m) : -2147483648 ≤ s + j * r ∧ s + j * r ≤ 2147483647 := by
  have h4 := mul_bd (x := (j : Int)) (y := r) (M := 50) (N := 16777216) (by omega) (by omega) (by omega) (by omega) (by omega) (by omega)
  omega

set_option maxHeartbeats 4000000 in
set_option maxRecDepth 100000 in
theorem walkSpeedLine (n f t a b : Int) (w : World) (hn : 0 ≤ n ∧ n ≤ 255) (hf : -2147483648 ≤ f ∧ f ≤ 2147483647) (ht : -2147483648 ≤ t ∧ t ≤ 2147483647) (_ : I64 a) (_ : I64 b) :
    Calls Try.prog 21 #[.int .u8 n, .int .i32 f, .int .i32 t, .int .i64 a, .int .i64 b] w fun e w' => e = .returned (.bool true) ∧ Below w.heap.size w w' := by
  have hB := Below.refl w.heap.size w
  obtain ⟨hn1, hn2⟩ := hn
  obtain ⟨m, hm⟩ : ∃ m : Nat, 1 + n % 50 = m := ⟨(1 + n % 50).toNat, by omega⟩
  have m1 : 1 ≤ m ∧ m ≤ 50 := by omega
  have hs0 : -1073741824 ≤ f.tdiv 2 ∧ f.tdiv 2 ≤ 1073741824 := by have h1 := Int.mul_tdiv_add_tmod f 2; have h2 : (f.tmod 2).natAbs < 2 := by { rw [Int.natAbs_tmod]; exact Nat.mod_lt _ (by decide) }; omega
  have hr0 : -16777216 ≤ t.tdiv 128 ∧ t.tdiv 128 ≤ 16777216 := by have h1 := Int.mul_tdiv_add_tmod t 128; have h2 : (t.tmod 128).natAbs < 128 := by { rw [Int.natAbs_tmod]; exact Nat.mod_lt _ (by decide) }; omega
  obtain ⟨s, hs⟩ : ∃ s, f.tdiv 2 = s := ⟨_, rfl⟩
  obtain ⟨r, hr⟩ : ∃ r, t.tdiv 128 = r := ⟨_, rfl⟩
  rw [hs] at hs0
  rw [hr] at hr0
  obtain ⟨s1, s2⟩ := hs0
  obtain ⟨r1, r2⟩ := hr0
  have e1 : f.tdiv 2 = s := hs
  go_enter Try.func21, Try.ntmps21
  go_wp2_with (first
    | (go_at_call 48; refine (sane26_any _).mono ?_; rintro e w1 ⟨rfl, hh⟩; ((try first | replace hs1 := SL.below hs1 hh | replace hs1 := SL.on1 hs1 hh | replace hs1 := SL.on2 hs1 hh); (try first | replace hB := Bel.on0 hB hh | replace hB := Bel.on1 hB hh | replace hB := Bel.on2 hB hh); clear hh)))
  go_loopw [14, 33] (fun o i wr => ∃ k A' c', k ≤ m ∧ i = .int .i64 (k : Nat) ∧ o = .slice A' k c' ∧ OL wr w.heap.size A' k c' (lineL s r k) ∧ Below w.heap.size w wr) (fun _ i _ => m - (intOf i).toNat)
  case atStart => exact ⟨0, none, 0, Nat.zero_le _, rfl, rfl, OL.nil _ _, hB⟩
  case round =>
    clear hB
    obtain ⟨k, A', c', hk, rfl, rfl, hOw, hB⟩ := hrel
    by_cases hlt : k < m
    · have hin := line_in (s := s) (r := r) (m := m) (j := k) ⟨s1, s2⟩ ⟨r1, r2⟩ m1.2 hlt
      have hmb := mul_bd (x := (k : Int)) (y := r) (M := 50) (N := 16777216) (by omega) (by omega) (by omega) (by omega) (by omega) (by omega)
      have hsu := lineL_succ s r k
      obtain ⟨x, hx⟩ : ∃ x, (k : Int) * r = x := ⟨_, rfl⟩
      rw [hx] at hin hsu hmb
      obtain ⟨A2, c2, w2, eA, hO2, hB2, _⟩ := (hOw.alloc (.cells #[vint (s + x)] 3)).app (SL.lit wr 3 [s + x] _ rfl (by simp [maxLen]) (by simp [I64]; omega)) (by have := hB.size; simp; omega) (by simp; omega)
      rw [← hsu] at hO2
      have hB4 := (Bel.al hB (.cells #[vint (s + x)] 3)).trans hB2
      obtain ⟨hin1, hin2⟩ := hin
      obtain ⟨hm1, hm2⟩ := hmb
      clear hsu hOw
      go_wp2_with (at_builtin; refine wpList_append_eq rfl _ _ _ rfl rfl rfl eA ?_; clear eA)
      exact ⟨⟨k + 1, A2, c2, by omega, by simp, by simp, by simpa using hO2, hB4⟩, by simp only [intOf]; omega⟩
    · obtain rfl : k = m := by omega
      have hD := hOw.sl
      have hlen : (lineL s r k).length = k := by simp [lineL]
      by_cases hsp : SpeedOk a b
      · have hc := cntS_le (n := k) (by omega) hsp
        have hconv : convR (lineL s r k) a b = (convS (lineL s r k) a b, 0) := by unfold convR; rw [hlen, if_pos ⟨hsp, by omega⟩, if_pos (by omega)]
        have hcl : (convS (lineL s r k) a b).length = (cntS k a b).toNat := by rw [convS_len, hlen]
        obtain ⟨a1, a2, b1, b2, _⟩ := id hsp
        have hall : ∀ i, i < (cntS k a b).toNat → ∃ y, (convS (lineL s r k) a b)[i]? = some y ∧ (-2147483648 ≤ y ∧ y ≤ 2147483647) ∧ y * b ≤ s * b + r * i * a ∧ s * b + r * i * a < (y + 1) * b := by
          intro i hi
          refine ⟨_, convS_get (by rw [hlen]; omega), ?_, samp_line hsp (by omega) (fun j hj => line_in ⟨s1, s2⟩ ⟨r1, r2⟩ m1.2 hj)⟩
          exact readS_bd _ _ _ _ b1 (Int.emod_nonneg _ (by omega)) (Int.emod_lt_of_pos _ (by omega))
        obtain ⟨X, hX⟩ : ∃ X, convS (lineL s r k) a b = X := ⟨_, rfl⟩
        rw [hX] at hconv hcl hall
        obtain ⟨q, hq⟩ : ∃ q, (cntS k a b).toNat = q := ⟨_, rfl⟩
        rw [hq] at hcl hall
        have hq2 : q ≤ 4000 := by omega
        have HC := Lib.hid hconv
        have HA := Lib.hid hall
        have HL := Lib.hid hcl
        clear hconv hall hcl hX hc hOw hlen hsp hq
        go_wp2_with (first
          | (go_at_call 54; (with_reducible refine (conv_eq HC.out hD).mono ?_); rintro e w1 ⟨A1, n1, c1, rfl, hs1, hh⟩; ((try first | replace hs1 := SL.below hs1 hh | replace hs1 := SL.on1 hs1 hh | replace hs1 := SL.on2 hs1 hh); (try first | replace hB := Bel.on0 hB hh | replace hB := Bel.on1 hB hh | replace hB := Bel.on2 hB hh); clear hh); obtain rfl : q = n1 := HL.out.symm.trans hs1.n_eq))
        go_loopw [60] (fun i wr => ∃ j : Nat, j ≤ q ∧ i = .int .i64 j ∧ SL wr A1 q c1 X ∧ Below w.heap.size w wr) (fun i _ => q - (intOf i).toNat)
        case atStart => exact ⟨0, Nat.zero_le _, rfl, hs1, hB⟩
        case round =>
          clear hs1 hB
          obtain ⟨j, hj, rfl, hs1, hB⟩ := hrel
          by_cases hlt2 : j < q
          · obtain ⟨y, hy, hyb, hy1, hy2⟩ := HA.out j hlt2
            have hjX : j < X.length := by rw [HL.out]; exact hlt2
            obtain ⟨bb, o, rfl, hbb, cA⟩ := hs1.at_ hjX
            rw [List.getElem?_eq_getElem hjX] at hy
            injection hy with hy
            rw [hy] at cA
            obtain ⟨⟨g1, g2⟩, ⟨g3, g4⟩, ⟨g5, g6⟩, ⟨g7, g8⟩, ⟨g9, g10⟩⟩ := speed_gt (s := s) (r := r) (a := a) (b := b) (y := y) (i := (j : Int)) ⟨s1, s2⟩ ⟨r1, r2⟩ ⟨a1, a2⟩ ⟨b1, b2⟩ (by omega) hyb
            obtain ⟨hyb1, hyb2⟩ := hyb
            clear hy hjX
            go_wp2
            exact ⟨⟨j + 1, by omega, by simp, hs1, hB⟩, by simp only [intOf]; omega⟩
          · obtain rfl : j = q := by omega
            go_wp2
            go_ret
            exact ⟨rfl, hB⟩
      · have hconv : convR (lineL s r k) a b = ([], 1) := by unfold convR; rw [if_neg (fun h => hsp h.1)]
        have HC := Lib.hid hconv
        clear hconv hsp hOw hlen
        go_wp2_with (first
          | (go_at_call 54; (with_reducible refine (conv_eq HC.out hD).mono ?_); rintro e w1 ⟨A1, n1, c1, rfl, hs1, hh⟩; ((try first | replace hs1 := SL.below hs1 hh | replace hs1 := SL.on1 hs1 hh | replace hs1 := SL.on2 hs1 hh); (try first | replace hB := Bel.on0 hB hh | replace hB := Bel.on1 hB hh | replace hB := Bel.on2 hB hh); clear hh)))
        go_ret
        exact ⟨rfl, hB⟩
end Go.Proofs.Yteljglhfimhmlaa
