/- Contracts of package speed and its reference (layer 26), first part: valid, count, Len. -/
import Derived.Test.YteljglhfimhmlaaLit
import Derived.Test.YteljglhfimhmlaaPlainSpeed
import Derived.Test.YteljglhfimhmlaaFixedD
namespace Go.Proofs.Yteljglhfimhmlaa
open Go.RowKit

theorem not_speed_range {a b : Int} (h : ¬ (1 ≤ a ∧ a ≤ 64 ∧ 1 ≤ b ∧ b ≤ 64)) : speedB a b = false := by
  unfold speedB; rw [decide_eq_false_iff_not]; unfold SpeedOk; omega
theorem count_any (n a b : Int) (w : World) (hn : 0 ≤ n ∧ n ≤ 16777216) (ha : 1 ≤ a ∧ a ≤ 64) (hb : 1 ≤ b ∧ b ≤ 64) :
    Calls Try.prog 72 #[.int .i64 n, .int .i64 a, .int .i64 b] w fun e w' => e = .returned (.int .i64 (cntS n a b)) ∧ Below w.heap.size w w' := by
  have hB := Below.refl w.heap.size w
  obtain ⟨hn1, hn2⟩ := hn
  obtain ⟨ha1, ha2⟩ := ha
  obtain ⟨hb1, hb2⟩ := hb
  by_cases h0 : n = 0
  · subst h0
    go_enter Try.func72, Try.ntmps72
    go_wp2
    go_ret
    exact ⟨rfl, hB⟩
  · have hc : cntS n a b = 1 + (n - 1) * b / a := by unfold cntS; rw [if_neg h0]
    have HC := Lib.hid hc
    have h1 : 1 ≤ n := by omega
    have hz : (a == 0) = false := by simp; omega
    have hp : 0 ≤ (n - 1) * b := Int.mul_nonneg (by omega) (by omega)
    have hp2 : (n - 1) * b ≤ 16777216 * 64 := Int.le_trans (Int.mul_le_mul_of_nonneg_left hb2 (by omega)) (Int.mul_le_mul_of_nonneg_right (show n - 1 ≤ 16777216 by omega) (by omega))
    have hq := IntWalk.tdiv_le ((n - 1) * b) a hp ha1
    have hq2 : 0 ≤ (n - 1) * b / a := Int.ediv_nonneg hp (by omega)
    clear hc h0
    go_enter Try.func72, Try.ntmps72
    go_wp2
    go_ret
    exact ⟨ret_int HC.out.symm, hB⟩
theorem rlength_any (n a b : Int) (w : World) (hn : 0 ≤ n ∧ n ≤ 16777216) (ha : 1 ≤ a ∧ a ≤ 64) (hb : 1 ≤ b ∧ b ≤ 64) :
    Calls Try.prog 74 #[.int .i64 n, .int .i64 a, .int .i64 b] w fun e w' => e = .returned (.int .i64 (cntS n a b)) ∧ Below w.heap.size w w' := by
  have hB := Below.refl w.heap.size w
  obtain ⟨hn1, hn2⟩ := hn
  obtain ⟨ha1, ha2⟩ := ha
  obtain ⟨hb1, hb2⟩ := hb
  by_cases h0 : n = 0
  · subst h0
    go_enter Try.func74, Try.ntmps74
    go_wp2
    go_ret
    exact ⟨rfl, hB⟩
  · have hc : cntS n a b = 1 + (n - 1) * b / a := by unfold cntS; rw [if_neg h0]
    have HC := Lib.hid hc
    have h1 : 1 ≤ n := by omega
    have hz : (a == 0) = false := by simp; omega
    have hp : 0 ≤ (n - 1) * b := Int.mul_nonneg (by omega) (by omega)
    have hp2 : (n - 1) * b ≤ 16777216 * 64 := Int.le_trans (Int.mul_le_mul_of_nonneg_left hb2 (by omega)) (Int.mul_le_mul_of_nonneg_right (show n - 1 ≤ 16777216 by omega) (by omega))
    have hq := IntWalk.tdiv_le ((n - 1) * b) a hp ha1
    have hq2 : 0 ≤ (n - 1) * b / a := Int.ediv_nonneg hp (by omega)
    clear hc h0
    go_enter Try.func74, Try.ntmps74
    go_wp2
    go_ret
    exact ⟨ret_int (by rw [HC.out, Int.add_comm]), hB⟩

theorem valid_range (a b : Int) (w : World) (h : ¬ (1 ≤ a ∧ a ≤ 64 ∧ 1 ≤ b ∧ b ≤ 64)) : Calls Try.prog 71 #[.int .i64 a, .int .i64 b] w fun e w' => e = .returned (.bool (speedB a b)) ∧ Below w.heap.size w w' := by
  have hB := Below.refl w.heap.size w
  rw [not_speed_range h]
  have hc : (b < a ∧ b < 1) ∨ (a ≤ b ∧ a < 1) ∨ (b < a ∧ 1 ≤ b ∧ 64 < a) ∨ (a < b ∧ 1 ≤ a ∧ 64 < b) ∨ (a ≤ b ∧ b ≤ a ∧ 64 < b ∧ 1 ≤ a) := by omega
  clear h
  rcases hc with ⟨h1, h2⟩ | ⟨h1, h2⟩ | ⟨h1, h2, h3⟩ | ⟨h1, h2, h3⟩ | ⟨h1, h2, h3, h4⟩
  all_goals
    go_enter Try.func71, Try.ntmps71
    go_wp2
    go_step3
    go_wp2
    try rw [Exit.noGoto_ret]
    go_ret
    exact ⟨rfl, hB⟩
theorem valid_in (a b : Nat) (w : World) (ha : 1 ≤ a ∧ a ≤ 64) (hb : 1 ≤ b ∧ b ≤ 64) : Calls Try.prog 71 #[.int .i64 (a : Int), .int .i64 (b : Int)] w fun e w' => e = .returned (.bool (decide (Nat.gcd a b = 1))) ∧ Below w.heap.size w w' := by
  have hB := Below.refl w.heap.size w
  obtain ⟨a1, a2⟩ := ha
  obtain ⟨b1, b2⟩ := hb
  have hc : b < a ∨ a < b ∨ (a ≤ b ∧ b ≤ a) := by omega
  rcases hc with h1 | h1 | ⟨h1, h2⟩
  all_goals
    go_enter Try.func71, Try.ntmps71
    go_wp2
    go_step3
    go_wp2
    go_step3
    go_wp2
    go_loopw [5, 6] (fun x y wr => ∃ p q : Nat, p ≤ 64 ∧ q ≤ 64 ∧ x = .int .i64 p ∧ y = .int .i64 q ∧ Hid (Nat.gcd p q = Nat.gcd a b) ∧ Below w.heap.size w wr) (fun _ y _ => (intOf y).toNat)
    case atStart => exact ⟨a, b, a2, b2, rfl, rfl, Lib.hid rfl, hB⟩
    case round =>
      obtain ⟨p, q, hp, hq, rfl, rfl, hg, hB'⟩ := hrel
      by_cases h0 : q = 0
      · subst h0
        have hg' : p = Nat.gcd a b := by have := hg.out; rwa [Nat.gcd_zero_right] at this
        have HG := Lib.hid hg'
        clear hg'
        go_wp2
        try rw [Exit.noGoto_ret]
        go_ret
        exact ⟨ret_bool (by have := HG.out; rw [Bool.eq_iff_iff, decide_eq_true_iff, beq_iff_eq]; omega), hB'⟩
      · have hz : ((q : Int) == 0) = false := by simp; omega
        have hq0 : 1 ≤ q := by omega
        have hm : (p : Int) % (q : Int) = ((p % q : Nat) : Int) := by omega
        have hml := Nat.mod_lt p hq0
        have hm0 : 0 ≤ (p : Int) % (q : Int) := by omega
        have HM := Lib.hid hm
        clear hm h0
        go_wp2
        go_quiet (fail)
        go_wp2
        go_roundw
        case rel => exact ⟨q, p % q, by omega, by omega, rfl, by rw [HM.out], Lib.hid (by rw [← hg.out, Nat.gcd_comm p q, Nat.gcd_comm q, ← Nat.gcd_rec, Nat.gcd_comm]), below_drewN hB' _⟩
        case measure => simp [intOf]; omega
theorem speedB_nat {a b : Nat} (ha : 1 ≤ a ∧ a ≤ 64) (hb : 1 ≤ b ∧ b ≤ 64) : speedB a b = decide (Nat.gcd a b = 1) := by
  unfold speedB
  rw [Bool.eq_iff_iff, decide_eq_true_iff, decide_eq_true_iff]
  unfold SpeedOk
  simp only [Int.toNat_natCast]
  omega
theorem valid_any (a b : Int) (w : World) : Calls Try.prog 71 #[.int .i64 a, .int .i64 b] w fun e w' => e = .returned (.bool (speedB a b)) ∧ Below w.heap.size w w' := by
  by_cases h : 1 ≤ a ∧ a ≤ 64 ∧ 1 ≤ b ∧ b ≤ 64
  · obtain ⟨p, rfl⟩ : ∃ p : Nat, a = p := ⟨a.toNat, by omega⟩
    obtain ⟨q, rfl⟩ : ∃ q : Nat, b = q := ⟨b.toNat, by omega⟩
    rw [speedB_nat (by omega) (by omega)]
    exact valid_in p q w (by omega) (by omega)
  · exact valid_range a b w h

/-- No common divisor among 2 .. d - 1. -/
def Free (a b d : Nat) : Prop := ∀ e, 2 ≤ e → e < d → ¬ (a % e = 0 ∧ b % e = 0)
theorem free_gcd {a b d : Nat} (ha : 1 ≤ a) (h : Free a b d) (hd : a < d ∨ b < d) (hb : 1 ≤ b) : Nat.gcd a b = 1 := by
  rcases Nat.lt_or_ge (Nat.gcd a b) 2 with h1 | h1
  · have := Nat.gcd_pos_of_pos_left b ha; omega
  · have h2 := Nat.le_of_dvd ha (Nat.gcd_dvd_left a b)
    have h3 := Nat.le_of_dvd hb (Nat.gcd_dvd_right a b)
    exact absurd ⟨Nat.mod_eq_zero_of_dvd (Nat.gcd_dvd_left a b), Nat.mod_eq_zero_of_dvd (Nat.gcd_dvd_right a b)⟩ (h _ h1 (by omega))
theorem not_gcd {a b d : Nat} (hd : 2 ≤ d) (h1 : a % d = 0) (h2 : b % d = 0) : Nat.gcd a b ≠ 1 := by
  intro h
  have := Nat.dvd_gcd (Nat.dvd_of_mod_eq_zero h1) (Nat.dvd_of_mod_eq_zero h2)
  rw [h] at this
  have := Nat.le_of_dvd (by omega) this
  omega
theorem rvalid_range (a b : Int) (w : World) (h : ¬ (1 ≤ a ∧ a ≤ 64 ∧ 1 ≤ b ∧ b ≤ 64)) : Calls Try.prog 73 #[.int .i64 a, .int .i64 b] w fun e w' => e = .returned (.bool (speedB a b)) ∧ Below w.heap.size w w' := by
  have hB := Below.refl w.heap.size w
  rw [not_speed_range h]
  have hc : (a < 1) ∨ (1 ≤ a ∧ 64 < a) ∨ (1 ≤ a ∧ a ≤ 64 ∧ b < 1) ∨ (1 ≤ a ∧ a ≤ 64 ∧ 1 ≤ b ∧ 64 < b) := by omega
  clear h
  rcases hc with h1 | ⟨h1, h2⟩ | ⟨h1, h2, h3⟩ | ⟨h1, h2, h3, h4⟩
  all_goals
    go_enter Try.func73, Try.ntmps73
    go_wp2
    go_ret
    exact ⟨rfl, hB⟩
set_option maxHeartbeats 800000 in
theorem rvalid_in (a b : Nat) (w : World) (ha : 1 ≤ a ∧ a ≤ 64) (hb : 1 ≤ b ∧ b ≤ 64) : Calls Try.prog 73 #[.int .i64 (a : Int), .int .i64 (b : Int)] w fun e w' => e = .returned (.bool (decide (Nat.gcd a b = 1))) ∧ Below w.heap.size w w' := by
  have hB := Below.refl w.heap.size w
  obtain ⟨a1, a2⟩ := ha
  obtain ⟨b1, b2⟩ := hb
  go_enter Try.func73, Try.ntmps73
  go_wp2
  go_loop [5] (fun i => ∃ d : Nat, 2 ≤ d ∧ d ≤ 65 ∧ i = .int .i64 d ∧ Free a b d) (fun i => 65 - (intOf i).toNat)
  case atStart => exact ⟨2, by omega, by omega, rfl, fun e h1 h2 => by omega⟩
  case round =>
    obtain ⟨d, hd, hd2, rfl, hf⟩ := hrel
    have HF := Lib.hid hf
    clear hf
    by_cases h1 : d ≤ a
    · by_cases h2 : d ≤ b
      · have hz : ((d : Int) == 0) = false := by simp; omega
        have m1 : (a : Int) % (d : Int) = ((a % d : Nat) : Int) := by omega
        have m2 : (b : Int) % (d : Int) = ((b % d : Nat) : Int) := by omega
        by_cases h3 : a % d = 0
        · have k1 : ((a : Int) % (d : Int) == 0) = true := by rw [m1, h3]; rfl
          by_cases h4 : b % d = 0
          · have k2 : ((b : Int) % (d : Int) == 0) = true := by rw [m2, h4]; rfl
            have HG := Lib.hid (not_gcd hd h3 h4)
            clear m1 m2 h3 h4
            go_wp2
            go_ret
            exact ⟨ret_bool (by rw [decide_eq_false HG.out]), hB⟩
          · have k2 : ((b : Int) % (d : Int) == 0) = false := by rw [m2]; simp; omega
            have HG : Hid (Free a b (d + 1)) := Lib.hid (fun e e1 e2 => by
              by_cases he : e = d
              · subst he; exact fun h => h4 h.2
              · exact HF.out e e1 (by omega))
            clear m1 m2 h3 h4
            go_wp2
            go_round
            case rel => exact ⟨d + 1, by omega, by omega, by go_num, HG.out⟩
            case measure => simp [intOf]; omega
        · have k1 : ((a : Int) % (d : Int) == 0) = false := by rw [m1]; simp; omega
          have HG : Hid (Free a b (d + 1)) := Lib.hid (fun e e1 e2 => by
            by_cases he : e = d
            · subst he; exact fun h => h3 h.1
            · exact HF.out e e1 (by omega))
          clear m1 m2 h3
          go_wp2
          go_round
          case rel => exact ⟨d + 1, by omega, by omega, by go_num, HG.out⟩
          case measure => simp [intOf]; omega
      · have HG := Lib.hid (free_gcd a1 HF.out (.inr (by omega)) b1)
        go_wp2
        go_ret
        exact ⟨ret_bool (by rw [decide_eq_true HG.out]), hB⟩
    · have HG := Lib.hid (free_gcd a1 HF.out (.inl (by omega)) b1)
      go_wp2
      go_ret
      exact ⟨ret_bool (by rw [decide_eq_true HG.out]), hB⟩
theorem rvalid_any (a b : Int) (w : World) : Calls Try.prog 73 #[.int .i64 a, .int .i64 b] w fun e w' => e = .returned (.bool (speedB a b)) ∧ Below w.heap.size w w' := by
  by_cases h : 1 ≤ a ∧ a ≤ 64 ∧ 1 ≤ b ∧ b ≤ 64
  · obtain ⟨p, rfl⟩ : ∃ p : Nat, a = p := ⟨a.toNat, by omega⟩
    obtain ⟨q, rfl⟩ : ∃ q : Nat, b = q := ⟨b.toNat, by omega⟩
    rw [speedB_nat (by omega) (by omega)]
    exact rvalid_in p q w (by omega) (by omega)
  · exact rvalid_range a b w h

theorem len_any (n a b : Int) (w : World) (hn : I64 n) : Calls Try.prog 50 #[.int .i64 n, .int .i64 a, .int .i64 b] w fun e w' => e = .returned (.tuple #[.int .i64 (lenR n a b).1, .int .i64 (lenR n a b).2]) ∧ Below w.heap.size w w' := by
  have hB := Below.refl w.heap.size w
  obtain ⟨n1, n2⟩ := hn
  have C := valid_any a b w
  unfold lenR
  by_cases h : SpeedOk a b
  · rw [show speedB a b = true from decide_eq_true h] at C
    obtain ⟨h1, h2, h3, h4, _⟩ := id h
    have HH := Lib.hid h
    clear h
    have hc : n < 0 ∨ (0 ≤ n ∧ 16777216 < n) ∨ (0 ≤ n ∧ n ≤ 16777216) := by omega
    rcases hc with k1 | ⟨k1, k2⟩ | ⟨k1, k2⟩
    · rw [if_neg (by omega)]
      go_enter Try.func50, Try.ntmps50
      go_wp2_with (go_at_call 71; refine C.mono ?_; rintro e w1 ⟨rfl, hh⟩; ((try first | replace hB := Bel.on0 hB hh | replace hB := Bel.on1 hB hh | replace hB := Bel.on2 hB hh); clear hh))
      go_ret2
      exact ⟨rfl, hB⟩
    · rw [if_neg (by omega)]
      go_enter Try.func50, Try.ntmps50
      go_wp2_with (go_at_call 71; refine C.mono ?_; rintro e w1 ⟨rfl, hh⟩; ((try first | replace hB := Bel.on0 hB hh | replace hB := Bel.on1 hB hh | replace hB := Bel.on2 hB hh); clear hh))
      go_ret2
      exact ⟨rfl, hB⟩
    · rw [if_pos ⟨HH.out, k1, k2⟩]
      go_enter Try.func50, Try.ntmps50
      go_wp2_with (first
        | (go_at_call 71; refine C.mono ?_; rintro e w1 ⟨rfl, hh⟩; ((try first | replace hB := Bel.on0 hB hh | replace hB := Bel.on1 hB hh | replace hB := Bel.on2 hB hh); clear hh))
        | (go_at_call 72; refine (count_any _ _ _ _ ⟨k1, k2⟩ ⟨h1, h2⟩ ⟨h3, h4⟩).mono ?_; rintro e w1 ⟨rfl, hh⟩; ((try first | replace hB := Bel.on0 hB hh | replace hB := Bel.on1 hB hh | replace hB := Bel.on2 hB hh); clear hh)))
      go_ret2
      exact ⟨rfl, hB⟩
  · rw [show speedB a b = false from decide_eq_false h] at C
    rw [if_neg (fun k => h k.1)]
    clear h
    go_enter Try.func50, Try.ntmps50
    go_wp2_with (go_at_call 71; refine C.mono ?_; rintro e w1 ⟨rfl, hh⟩; ((try first | replace hB := Bel.on0 hB hh | replace hB := Bel.on1 hB hh | replace hB := Bel.on2 hB hh); clear hh))
    go_ret2
    exact ⟨rfl, hB⟩
theorem rlen_any (n a b : Int) (w : World) (hn : I64 n) : Calls Try.prog 51 #[.int .i64 n, .int .i64 a, .int .i64 b] w fun e w' => e = .returned (.tuple #[.int .i64 (lenR n a b).1, .int .i64 (lenR n a b).2]) ∧ Below w.heap.size w w' := by
  have hB := Below.refl w.heap.size w
  obtain ⟨n1, n2⟩ := hn
  have C := rvalid_any a b w
  unfold lenR
  by_cases h : SpeedOk a b
  · rw [show speedB a b = true from decide_eq_true h] at C
    obtain ⟨h1, h2, h3, h4, _⟩ := id h
    have HH := Lib.hid h
    clear h
    have hc : n < 0 ∨ (0 ≤ n ∧ 16777216 < n) ∨ (0 ≤ n ∧ n ≤ 16777216) := by omega
    rcases hc with k1 | ⟨k1, k2⟩ | ⟨k1, k2⟩
    · rw [if_neg (by omega)]
      go_enter Try.func51, Try.ntmps51
      go_wp2_with (go_at_call 73; refine C.mono ?_; rintro e w1 ⟨rfl, hh⟩; ((try first | replace hB := Bel.on0 hB hh | replace hB := Bel.on1 hB hh | replace hB := Bel.on2 hB hh); clear hh))
      go_ret2
      exact ⟨rfl, hB⟩
    · rw [if_neg (by omega)]
      go_enter Try.func51, Try.ntmps51
      go_wp2_with (go_at_call 73; refine C.mono ?_; rintro e w1 ⟨rfl, hh⟩; ((try first | replace hB := Bel.on0 hB hh | replace hB := Bel.on1 hB hh | replace hB := Bel.on2 hB hh); clear hh))
      go_ret2
      exact ⟨rfl, hB⟩
    · rw [if_pos ⟨HH.out, k1, k2⟩]
      go_enter Try.func51, Try.ntmps51
      go_wp2_with (first
        | (go_at_call 73; refine C.mono ?_; rintro e w1 ⟨rfl, hh⟩; ((try first | replace hB := Bel.on0 hB hh | replace hB := Bel.on1 hB hh | replace hB := Bel.on2 hB hh); clear hh))
        | (go_at_call 74; refine (rlength_any _ _ _ _ ⟨k1, k2⟩ ⟨h1, h2⟩ ⟨h3, h4⟩).mono ?_; rintro e w1 ⟨rfl, hh⟩; ((try first | replace hB := Bel.on0 hB hh | replace hB := Bel.on1 hB hh | replace hB := Bel.on2 hB hh); clear hh)))
      go_ret2
      exact ⟨rfl, hB⟩
  · rw [show speedB a b = false from decide_eq_false h] at C
    rw [if_neg (fun k => h k.1)]
    clear h
    go_enter Try.func51, Try.ntmps51
    go_wp2_with (go_at_call 73; refine C.mono ?_; rintro e w1 ⟨rfl, hh⟩; ((try first | replace hB := Bel.on0 hB hh | replace hB := Bel.on1 hB hh | replace hB := Bel.on2 hB hh); clear hh))
    go_ret2
    exact ⟨rfl, hB⟩
end Go.Proofs.Yteljglhfimhmlaa
