/- Contracts of package fixed and of its reference (layer 8), second part: Mul, down, Floor, the reference's Add, Mix. -/
import Derived.Test.YteljglhfimhmlaaFixed
namespace Go.Proofs.Yteljglhfimhmlaa
open Go.RowKit

theorem down_any (a b : Int) (w : World) (ha : -4611686018427387904 ≤ a ∧ a ≤ 4611686018427387904) (hb : 1 ≤ b ∧ b ≤ 1099511627776) :
    Calls Try.prog 62 #[.int .i64 a, .int .i64 b] w fun e w' => e = .returned (.int .i64 (a / b)) ∧ w = w' := by
  have hz : (b == 0) = false := by simp; omega
  by_cases h : 0 ≤ a
  · have hq := IntWalk.tdiv_le a b h hb.1
    go_enter Try.func62, Try.ntmps62
    go_wp2
    go_ret
    exact ⟨rfl, rfl⟩
  · have H := Lib.hid (down_neg (a := a) (b := b) (by omega) hb.1)
    have h' : a < 0 := by omega
    have hq := IntWalk.tdiv_le (-a + b - 1) b (by omega) hb.1
    go_enter Try.func62, Try.ntmps62
    go_wp2
    go_ret
    exact ⟨ret_int H.out, rfl⟩
theorem mul_any (a g : Int) (w : World) : Calls Try.prog 28 #[.int .i64 a, .int .i64 g] w fun e w' => e = .returned (.int .i64 (mulS a g)) ∧ w = w' := by
  have hb := clip_mul_bd a (y := clipS g) (N := 2147483648) (by have := clipS_lo g; omega) (by have := clipS_hi g; omega) (by omega)
  go_enter Try.func28, Try.ntmps28
  go_wp2_with (first
    | (go_at_call 24; refine (clip_any _ _).mono ?_; rintro e w' ⟨rfl, rfl⟩))
  go_ret
  exact ⟨rfl, rfl⟩
theorem radd_any (a b : Int) (w : World) (ha : I64 a) (hb : I64 b) : Calls Try.prog 27 #[.int .i64 a, .int .i64 b] w fun e w' => e = .returned (.int .i64 (addS a b)) ∧ w = w' := by
  obtain ⟨ha1, ha2⟩ := ha
  obtain ⟨hb1, hb2⟩ := hb
  by_cases h : -9223372036854775808 ≤ a + b ∧ a + b ≤ 9223372036854775807
  · have ha3 : 0 < a ∨ a < 0 ∨ (a ≤ 0 ∧ 0 ≤ a) := by omega
    have hb3 : 0 < b ∨ b < 0 ∨ (b ≤ 0 ∧ 0 ≤ b) := by omega
    rcases ha3 with ha3 | ha3 | ⟨ha3, ha4⟩ <;> rcases hb3 with hb3 | hb3 | ⟨hb3, hb4⟩
    all_goals
      try have k1 : a + b < 0 := by omega
      try have k2 : 0 < a + b := by omega
      go_enter Try.func27, Try.ntmps27
      go_wp2_with (go_at_call 25; refine (rclip_any _ _).mono ?_; rintro e w' ⟨rfl, rfl⟩)
      go_ret
      exact ⟨rfl, rfl⟩
  · obtain ⟨s, hs⟩ : ∃ s, IntKind.i64.wrap (a + b) = s := ⟨_, rfl⟩
    have hs2 := hs
    rw [IntKind.wrap_i64] at hs2
    by_cases h3 : 0 < a
    · have h4 : 0 < b := by omega
      have h5 : s < 0 := by omega
      have H := Lib.hid (show addS a b = 2147483647 from clipS_max (by omega))
      clear hs2 h
      go_enter Try.func27, Try.ntmps27
      go_wp2_with fail
      go_ret
      exact ⟨ret_int H.out.symm, rfl⟩
    · have h3 : a < 0 := by omega
      have h4 : b < 0 := by omega
      have h5 : 0 ≤ s := by omega
      have H := Lib.hid (show addS a b = -2147483648 from clipS_min (by omega))
      clear hs2 h
      go_enter Try.func27, Try.ntmps27
      go_wp2_with fail
      go_ret
      exact ⟨ret_int H.out.symm, rfl⟩
theorem floor_any (a b : Int) (w : World) (ha : -4611686018427387904 ≤ a ∧ a ≤ 4611686018427387904) (hb : 1 ≤ b ∧ b ≤ 1099511627776) :
    Calls Try.prog 59 #[.int .i64 a, .int .i64 b] w fun e w' => e = .returned (.int .i64 (a / b)) ∧ w = w' := by
  have H := Lib.hid (floor_tdiv (a := a) (b := b) hb.1)
  have hz : (b == 0) = false := by simp; omega
  have h1 : -4611686018427387904 ≤ a.tdiv b ∧ a.tdiv b ≤ 4611686018427387904 := tdiv_bd hb.1 ha
  go_enter Try.func59, Try.ntmps59
  go_wp2
  all_goals go_ret
  · exact ⟨ret_int (by rw [← H.out, if_pos (by assumption)]), rfl⟩
  · exact ⟨ret_int (by rw [← H.out, if_neg (by omega)]), rfl⟩
theorem rmul_any (a g : Int) (w : World) : Calls Try.prog 29 #[.int .i64 a, .int .i64 g] w fun e w' => e = .returned (.int .i64 (mulS a g)) ∧ w = w' := by
  have hb := clip_mul_bd a (y := clipS g) (N := 2147483648) (by have := clipS_lo g; omega) (by have := clipS_hi g; omega) (by omega)
  go_enter Try.func29, Try.ntmps29
  go_wp2_with (first
    | (go_at_call 25; refine (rclip_any _ _).mono ?_; rintro e w' ⟨rfl, rfl⟩)
    | (go_at_call 59; refine (floor_any _ _ _ (by omega) (by omega)).mono ?_; rintro e w' ⟨rfl, rfl⟩))
  go_ret
  exact ⟨rfl, rfl⟩
end Go.Proofs.Yteljglhfimhmlaa
