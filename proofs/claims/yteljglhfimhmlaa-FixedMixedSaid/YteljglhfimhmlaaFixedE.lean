/- The reference's Bend (layer 8), and what the examples ('sane') come to. -/
import Derived.Test.YteljglhfimhmlaaFixedC
import Derived.Test.YteljglhfimhmlaaFixedD
namespace Go.Proofs.Yteljglhfimhmlaa
open Go.RowKit

theorem rbend_num (a b n d wa wb : Int) : clipS a * wa * (d - n) + clipS b * wb * n = clipS a * ((d - n) * wa) + clipS b * (n * wb) := by
  rw [Int.mul_assoc, Int.mul_assoc, Int.mul_comm wa, Int.mul_comm wb]
theorem rbend_den (n d wa wb : Int) : wa * (d - n) + wb * n = n * wb + (d - n) * wa := by
  rw [Int.mul_comm wa, Int.mul_comm wb, Int.add_comm]
set_option maxHeartbeats 1000000 in
theorem rbend_any (a b n d wa wb : Int) (w : World) :
    Calls Try.prog 35 #[.int .i64 a, .int .i64 b, .int .i64 n, .int .i64 d, .int .i64 wa, .int .i64 wb] w fun e w' => e = .returned (.tuple #[.int .i64 (bendR a b n d wa wb).1, .int .i64 (bendR a b n d wa wb).2]) ∧ w = w' := by
  by_cases h : LineOk n d ∧ BendOk wa wb
  · simp only [bendR, if_pos h]
    obtain ⟨a1, a2, a3, a4, a5⟩ := bend_bd a b n d wa wb h.1 h.2
    have e1 := rbend_num a b n d wa wb
    have e2 := rbend_den n d wa wb
    obtain ⟨⟨h1, h2, h3, h4⟩, k1, k2, k3, k4⟩ := h
    have c1 := clip_mul_bd a (y := wa) (N := 16) (by omega) (by omega) (by omega)
    have c2 := clip_mul_bd b (y := wb) (N := 16) (by omega) (by omega) (by omega)
    have f1 : clipS a * wa * (d - n) = clipS a * ((d - n) * wa) := by rw [Int.mul_assoc, Int.mul_comm wa]
    have f2 : clipS b * wb * n = clipS b * (n * wb) := by rw [Int.mul_assoc, Int.mul_comm wb]
    have f3 : wa * (d - n) = (d - n) * wa := Int.mul_comm _ _
    have f4 : wb * n = n * wb := Int.mul_comm _ _
    have g1 : -576460752303423488 ≤ clipS a * wa * (d - n) ∧ clipS a * wa * (d - n) ≤ 576460752303423488 := by rw [f1]; exact a4
    have g2 : -576460752303423488 ≤ clipS b * wb * n ∧ clipS b * wb * n ≤ 576460752303423488 := by rw [f2]; exact a5
    have g3 : 0 ≤ wa * (d - n) ∧ wa * (d - n) ≤ 268435456 := by rw [f3]; exact a2
    have g4 : 0 ≤ wb * n ∧ wb * n ≤ 268435456 := by rw [f4]; exact a1
    have g5 : 1 ≤ wa * (d - n) + wb * n := by rw [e2]; exact a3
    have H : Hid (bendS a b n d wa wb = (clipS a * wa * (d - n) + clipS b * wb * n) / (wa * (d - n) + wb * n)) := by rw [e1, e2]; rfl
    clear e1 e2 f1 f2 f3 f4 a1 a2 a3 a4 a5
    go_enter Try.func35, Try.ntmps35
    go_wp2_with (first
      | (go_at_call 25; refine (rclip_any _ _).mono ?_; rintro e w' ⟨rfl, rfl⟩)
      | (go_at_call 59; refine (floor_any _ _ _ (by omega) (by omega)).mono ?_; rintro e w' ⟨rfl, rfl⟩))
    go_ret2
    exact ⟨ret_int2 H.out.symm rfl, rfl⟩
  · simp only [bendR, if_neg h]
    by_cases h' : LineOk n d
    · have h2 : ¬ BendOk wa wb := fun h2 => h ⟨h', h2⟩
      obtain ⟨k1, k2, k3, k4⟩ := h'
      rcases not_bend h2 with h1 | ⟨h1, h2⟩ | ⟨h1, h2, h3⟩ | ⟨h1, h2, h3, h4⟩
      all_goals
        clear h
        go_enter Try.func35, Try.ntmps35
        go_wp2_with fail
        go_ret2
        exact ⟨rfl, rfl⟩
    · rcases not_line h' with h1 | ⟨h1, h2⟩ | ⟨h1, h2, h3⟩ | ⟨h1, h2, h3, h4⟩
      all_goals
        clear h h'
        go_enter Try.func35, Try.ntmps35
        go_wp2_with fail
        go_ret2
        exact ⟨rfl, rfl⟩
end Go.Proofs.Yteljglhfimhmlaa
