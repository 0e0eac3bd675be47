/- The walks of SpeedSpec and SpeedLen (layer 26). -/
import Derived.Test.YteljglhfimhmlaaSpeedD
namespace Go.Proofs.Yteljglhfimhmlaa
open Go.RowKit

set_option maxHeartbeats 4000000 in
set_option maxRecDepth 100000 in
theorem walkSpeedSpec (A : Option Addr) (len c : Nat) (l : List Int) (n a b i : Int) (w : World) (h : SL w A len c l) (hn : I64 n) (_ : I64 a) (_ : I64 b) (_ : I64 i) :
    Calls Try.prog 17 #[.slice A len c, .int .i64 n, .int .i64 a, .int .i64 b, .int .i64 i] w fun e w' => e = .returned (.bool true) ∧ Below w.heap.size w w' := by
  have HA := Lib.hid (fun w => few26_any A len c w h.len)
  have hB := Below.refl w.heap.size w
  have HN := Lib.hid hn
  by_cases hl : len ≤ 60
  · rw [show decide (len ≤ 60) = true by simpa using hl] at HA
    obtain ⟨m, k, hL⟩ : ∃ m k, lenR n a b = (m, k) := ⟨_, _, rfl⟩
    obtain ⟨y, j, hA⟩ : ∃ y j, atR l a b i = (y, j) := ⟨_, _, rfl⟩
    obtain ⟨r, q, hC⟩ : ∃ r q, convR l a b = (r, q) := ⟨_, _, rfl⟩
    have C1 := fun w => len_any n a b w hn
    have C2 := fun w => rlen_any n a b w hn
    have C3 := fun w h => rat_any A len c l a b i w h
    rw [hL] at C1 C2
    rw [hA] at C3
    have H1 := Lib.hid C1
    have H2 := Lib.hid C2
    have H3 := Lib.hid C3
    have HAt := Lib.hid hA
    have HC := Lib.hid hC
    clear C1 C2 C3 hL hA hC hn
    go_enter Try.func17, Try.ntmps17
    go_wp2_with (first
      | (go_at_call 48; refine (sane26_any _).mono ?_; rintro e w1 ⟨rfl, hh⟩; ((try first | replace h := SL.below h hh | replace h := SL.on1 h hh | replace h := SL.on2 h hh); (try first | replace hs1 := SL.below hs1 hh | replace hs1 := SL.on1 hs1 hh | replace hs1 := SL.on2 hs1 hh); (try first | replace hs2 := SL.below hs2 hh | replace hs2 := SL.on1 hs2 hh | replace hs2 := SL.on2 hs2 hh); (try first | replace hB := Bel.on0 hB hh | replace hB := Bel.on1 hB hh | replace hB := Bel.on2 hB hh); clear hh))
      | (go_at_call 49; (with_reducible refine (HA.out _).mono ?_); rintro e w1 ⟨rfl, rfl⟩)
      | (go_at_call 50; (with_reducible refine (H1.out _).mono ?_); rintro e w1 ⟨rfl, hh⟩; ((try first | replace h := SL.below h hh | replace h := SL.on1 h hh | replace h := SL.on2 h hh); (try first | replace hs1 := SL.below hs1 hh | replace hs1 := SL.on1 hs1 hh | replace hs1 := SL.on2 hs1 hh); (try first | replace hs2 := SL.below hs2 hh | replace hs2 := SL.on1 hs2 hh | replace hs2 := SL.on2 hs2 hh); (try first | replace hB := Bel.on0 hB hh | replace hB := Bel.on1 hB hh | replace hB := Bel.on2 hB hh); clear hh))
      | (go_at_call 51; (with_reducible refine (H2.out _).mono ?_); rintro e w1 ⟨rfl, hh⟩; ((try first | replace h := SL.below h hh | replace h := SL.on1 h hh | replace h := SL.on2 h hh); (try first | replace hs1 := SL.below hs1 hh | replace hs1 := SL.on1 hs1 hh | replace hs1 := SL.on2 hs1 hh); (try first | replace hs2 := SL.below hs2 hh | replace hs2 := SL.on1 hs2 hh | replace hs2 := SL.on2 hs2 hh); (try first | replace hB := Bel.on0 hB hh | replace hB := Bel.on1 hB hh | replace hB := Bel.on2 hB hh); clear hh))
      | (go_at_call 52; (with_reducible refine (at_eq HAt.out h).mono ?_); rintro e w1 ⟨rfl, hh⟩; ((try first | replace h := SL.below h hh | replace h := SL.on1 h hh | replace h := SL.on2 h hh); (try first | replace hs1 := SL.below hs1 hh | replace hs1 := SL.on1 hs1 hh | replace hs1 := SL.on2 hs1 hh); (try first | replace hs2 := SL.below hs2 hh | replace hs2 := SL.on1 hs2 hh | replace hs2 := SL.on2 hs2 hh); (try first | replace hB := Bel.on0 hB hh | replace hB := Bel.on1 hB hh | replace hB := Bel.on2 hB hh); clear hh))
      | (go_at_call 53; (with_reducible refine (H3.out _ h).mono ?_); rintro e w1 ⟨rfl, hh⟩; ((try first | replace h := SL.below h hh | replace h := SL.on1 h hh | replace h := SL.on2 h hh); (try first | replace hs1 := SL.below hs1 hh | replace hs1 := SL.on1 hs1 hh | replace hs1 := SL.on2 hs1 hh); (try first | replace hs2 := SL.below hs2 hh | replace hs2 := SL.on1 hs2 hh | replace hs2 := SL.on2 hs2 hh); (try first | replace hB := Bel.on0 hB hh | replace hB := Bel.on1 hB hh | replace hB := Bel.on2 hB hh); clear hh))
      | (go_at_call 54; (with_reducible refine (conv_eq HC.out h).mono ?_); rintro e w1 ⟨A1, n1, c1, rfl, hs1, hh⟩; ((try first | replace h := SL.below h hh | replace h := SL.on1 h hh | replace h := SL.on2 h hh); (try first | replace hs1 := SL.below hs1 hh | replace hs1 := SL.on1 hs1 hh | replace hs1 := SL.on2 hs1 hh); (try first | replace hs2 := SL.below hs2 hh | replace hs2 := SL.on1 hs2 hh | replace hs2 := SL.on2 hs2 hh); (try first | replace hB := Bel.on0 hB hh | replace hB := Bel.on1 hB hh | replace hB := Bel.on2 hB hh); clear hh))
      | (go_at_call 55; (with_reducible refine (rconv_eq HC.out h (by omega)).mono ?_); rintro e w1 ⟨A2, n2, c2, rfl, hs2, hh⟩; ((try first | replace h := SL.below h hh | replace h := SL.on1 h hh | replace h := SL.on2 h hh); (try first | replace hs1 := SL.below hs1 hh | replace hs1 := SL.on1 hs1 hh | replace hs1 := SL.on2 hs1 hh); (try first | replace hs2 := SL.below hs2 hh | replace hs2 := SL.on1 hs2 hh | replace hs2 := SL.on2 hs2 hh); (try first | replace hB := Bel.on0 hB hh | replace hB := Bel.on1 hB hh | replace hB := Bel.on2 hB hh); clear hh))
      | (go_at_call 56; (with_reducible refine (same26_eq hs1 hs2 rfl).mono ?_); rintro e w1 ⟨rfl, hh⟩; ((try first | replace h := SL.below h hh | replace h := SL.on1 h hh | replace h := SL.on2 h hh); (try first | replace hs1 := SL.below hs1 hh | replace hs1 := SL.on1 hs1 hh | replace hs1 := SL.on2 hs1 hh); (try first | replace hs2 := SL.below hs2 hh | replace hs2 := SL.on1 hs2 hh | replace hs2 := SL.on2 hs2 hh); (try first | replace hB := Bel.on0 hB hh | replace hB := Bel.on1 hB hh | replace hB := Bel.on2 hB hh); clear hh)))
    go_ret
    exact ⟨rfl, hB⟩
  · rw [show decide (len ≤ 60) = false by simpa using hl] at HA
    go_enter Try.func17, Try.ntmps17
    go_wp2_with (first
      | (go_at_call 48; refine (sane26_any _).mono ?_; rintro e w1 ⟨rfl, hh⟩; ((try first | replace h := SL.below h hh | replace h := SL.on1 h hh | replace h := SL.on2 h hh); (try first | replace hs1 := SL.below hs1 hh | replace hs1 := SL.on1 hs1 hh | replace hs1 := SL.on2 hs1 hh); (try first | replace hs2 := SL.below hs2 hh | replace hs2 := SL.on1 hs2 hh | replace hs2 := SL.on2 hs2 hh); (try first | replace hB := Bel.on0 hB hh | replace hB := Bel.on1 hB hh | replace hB := Bel.on2 hB hh); clear hh))
      | (go_at_call 49; (with_reducible refine (HA.out _).mono ?_); rintro e w1 ⟨rfl, rfl⟩))
    go_ret
    exact ⟨rfl, hB⟩

set_option maxHeartbeats 4000000 in
set_option maxRecDepth 100000 in
theorem walkSpeedLen (n a b : Int) (w : World) (hn : I64 n) (_ : I64 a) (_ : I64 b) :
    Calls Try.prog 19 #[.int .i64 n, .int .i64 a, .int .i64 b] w fun e w' => e = .returned (.bool true) ∧ Below w.heap.size w w' := by
  have hB := Below.refl w.heap.size w
  by_cases hok : SpeedOk a b ∧ 0 ≤ n ∧ n ≤ 16777216
  · have hL : lenR n a b = (cntS n a b, 0) := by unfold lenR; rw [if_pos hok]
    obtain ⟨hs, hn1, hn2⟩ := hok
    have c1 := cntS_le hn1 hs
    obtain ⟨a1, a2, b1, b2, _⟩ := id hs
    by_cases h0 : n = 0
    · subst h0
      have e0 : cntS 0 a b = 0 := rfl
      rw [e0] at hL
      have H1 := Lib.hid hL
      clear hL e0 c1 hs
      go_enter Try.func19, Try.ntmps19
      go_wp2_with (first
        | (go_at_call 48; refine (sane26_any _).mono ?_; rintro e w1 ⟨rfl, hh⟩; ((try first | replace h := SL.below h hh | replace h := SL.on1 h hh | replace h := SL.on2 h hh); (try first | replace hs1 := SL.below hs1 hh | replace hs1 := SL.on1 hs1 hh | replace hs1 := SL.on2 hs1 hh); (try first | replace hs2 := SL.below hs2 hh | replace hs2 := SL.on1 hs2 hh | replace hs2 := SL.on2 hs2 hh); (try first | replace hB := Bel.on0 hB hh | replace hB := Bel.on1 hB hh | replace hB := Bel.on2 hB hh); clear hh))
        | (go_at_call 50; (with_reducible refine (len_eq H1.out (by unfold I64; omega)).mono ?_); rintro e w1 ⟨rfl, hh⟩; ((try first | replace h := SL.below h hh | replace h := SL.on1 h hh | replace h := SL.on2 h hh); (try first | replace hs1 := SL.below hs1 hh | replace hs1 := SL.on1 hs1 hh | replace hs1 := SL.on2 hs1 hh); (try first | replace hs2 := SL.below hs2 hh | replace hs2 := SL.on1 hs2 hh | replace hs2 := SL.on2 hs2 hh); (try first | replace hB := Bel.on0 hB hh | replace hB := Bel.on1 hB hh | replace hB := Bel.on2 hB hh); clear hh)))
      go_ret
      exact ⟨rfl, hB⟩
    · have h1 : 1 ≤ n := by omega
      obtain ⟨k1, k2, k3⟩ := cntS_pos h1 hs
      have hL2 : lenR (n - 1) a b = (cntS (n - 1) a b, 0) := by unfold lenR; rw [if_pos ⟨hs, by omega, by omega⟩]
      have c2 := cntS_mono (n := n - 1) (m := n) (by omega) (by omega) hs
      have c3 := cntS_le (n := n - 1) (by omega) hs
      obtain ⟨m, hm⟩ : ∃ m, cntS n a b = m := ⟨_, rfl⟩
      obtain ⟨k, hk⟩ : ∃ k, cntS (n - 1) a b = k := ⟨_, rfl⟩
      rw [hm] at hL c1 c2 k1 k2 k3
      rw [hk] at hL2 c2 c3
      obtain ⟨c11, c12⟩ := c1
      have m1 : 0 ≤ (m - 1) * a := Int.mul_nonneg (by omega) (by omega)
      have m2 : (n - 1) * b ≤ 16777216 * 64 := Int.le_trans (Int.mul_le_mul_of_nonneg_left b2 (by omega)) (Int.mul_le_mul_of_nonneg_right (by omega) (by omega))
      have m3 : m * a = (m - 1) * a + a := by rw [Int.sub_mul]; omega
      have m4 : 0 ≤ m * a := Int.mul_nonneg (by omega) (by omega)
      have m5 : m * a ≤ 16777216 * 64 + 64 := by omega
      have H1 := Lib.hid hL
      have H2 := Lib.hid hL2
      clear hL hL2 hm hk hs h0 m3
      go_enter Try.func19, Try.ntmps19
      go_wp2_with (first
        | (go_at_call 48; refine (sane26_any _).mono ?_; rintro e w1 ⟨rfl, hh⟩; ((try first | replace h := SL.below h hh | replace h := SL.on1 h hh | replace h := SL.on2 h hh); (try first | replace hs1 := SL.below hs1 hh | replace hs1 := SL.on1 hs1 hh | replace hs1 := SL.on2 hs1 hh); (try first | replace hs2 := SL.below hs2 hh | replace hs2 := SL.on1 hs2 hh | replace hs2 := SL.on2 hs2 hh); (try first | replace hB := Bel.on0 hB hh | replace hB := Bel.on1 hB hh | replace hB := Bel.on2 hB hh); clear hh))
        | (go_at_call 50; (with_reducible refine (len_eq H1.out (by unfold I64; omega)).mono ?_); rintro e w1 ⟨rfl, hh⟩; ((try first | replace h := SL.below h hh | replace h := SL.on1 h hh | replace h := SL.on2 h hh); (try first | replace hs1 := SL.below hs1 hh | replace hs1 := SL.on1 hs1 hh | replace hs1 := SL.on2 hs1 hh); (try first | replace hs2 := SL.below hs2 hh | replace hs2 := SL.on1 hs2 hh | replace hs2 := SL.on2 hs2 hh); (try first | replace hB := Bel.on0 hB hh | replace hB := Bel.on1 hB hh | replace hB := Bel.on2 hB hh); clear hh))
        | (go_at_call 50; (with_reducible refine (len_eq H2.out (by unfold I64; omega)).mono ?_); rintro e w1 ⟨rfl, hh⟩; ((try first | replace h := SL.below h hh | replace h := SL.on1 h hh | replace h := SL.on2 h hh); (try first | replace hs1 := SL.below hs1 hh | replace hs1 := SL.on1 hs1 hh | replace hs1 := SL.on2 hs1 hh); (try first | replace hs2 := SL.below hs2 hh | replace hs2 := SL.on1 hs2 hh | replace hs2 := SL.on2 hs2 hh); (try first | replace hB := Bel.on0 hB hh | replace hB := Bel.on1 hB hh | replace hB := Bel.on2 hB hh); clear hh)))
      go_ret
      exact ⟨rfl, hB⟩
  · have hL : lenR n a b = (0, 1) := by unfold lenR; rw [if_neg hok]
    have H1 := Lib.hid hL
    have HN := Lib.hid hn
    clear hL hok hn
    go_enter Try.func19, Try.ntmps19
    go_wp2_with (first
      | (go_at_call 48; refine (sane26_any _).mono ?_; rintro e w1 ⟨rfl, hh⟩; ((try first | replace h := SL.below h hh | replace h := SL.on1 h hh | replace h := SL.on2 h hh); (try first | replace hs1 := SL.below hs1 hh | replace hs1 := SL.on1 hs1 hh | replace hs1 := SL.on2 hs1 hh); (try first | replace hs2 := SL.below hs2 hh | replace hs2 := SL.on1 hs2 hh | replace hs2 := SL.on2 hs2 hh); (try first | replace hB := Bel.on0 hB hh | replace hB := Bel.on1 hB hh | replace hB := Bel.on2 hB hh); clear hh))
      | (go_at_call 50; (with_reducible refine (len_eq H1.out HN.out).mono ?_); rintro e w1 ⟨rfl, hh⟩; ((try first | replace h := SL.below h hh | replace h := SL.on1 h hh | replace h := SL.on2 h hh); (try first | replace hs1 := SL.below hs1 hh | replace hs1 := SL.on1 hs1 hh | replace hs1 := SL.on2 hs1 hh); (try first | replace hs2 := SL.below hs2 hh | replace hs2 := SL.on1 hs2 hh | replace hs2 := SL.on2 hs2 hh); (try first | replace hB := Bel.on0 hB hh | replace hB := Bel.on1 hB hh | replace hB := Bel.on2 hB hh); clear hh)))
    go_ret
    exact ⟨rfl, hB⟩
end Go.Proofs.Yteljglhfimhmlaa
