/- Contracts of package fixed and of its reference (layer 8), fourth part: Line, Bend. -/
import Derived.Test.YteljglhfimhmlaaFixedB
namespace Go.Proofs.Yteljglhfimhmlaa
open Go.RowKit

theorem line_bd (a b n d : Int) (h : LineOk n d) : -(36028797018963968) ≤ clipS a * (d - n) ∧ clipS a * (d - n) ≤ 36028797018963968 ∧ -(36028797018963968) ≤ clipS b * n ∧ clipS b * n ≤ 36028797018963968 := by
  obtain ⟨h1, h2, h3, h4⟩ := h
  have := clip_mul_bd a (y := d - n) (N := 16777216) (by omega) (by omega) (by omega)
  have := clip_mul_bd b (y := n) (N := 16777216) (by omega) (by omega) (by omega)
  omega

theorem lineF_any (a b n d : Int) (pa pb : Nat) (w : World) (h : LineOk n d) (ha : w.cell? ⟨pa, 0, none⟩ = some (.int .i64 a)) (hb : w.cell? ⟨pb, 0, none⟩ = some (.int .i64 b)) :
    Calls Try.prog 61 #[.int .i64 n, .int .i64 (d - n), .pointer (some ⟨pa, 0, none⟩), .pointer (some ⟨pb, 0, none⟩)] w
      fun e w' => e = .returned (.int .i64 (lineS a b n d)) ∧ ∃ k, w' = w.drewN k := by
  have hd := line_bd a b n d h
  obtain ⟨h1, h2, h3, h4⟩ := h
  have e1 : IntKind.i64.wrap (clipS a * (d - n)) = clipS a * (d - n) := IntWalk.i64_in _ (by omega)
  have e2 : IntKind.i64.wrap (clipS b * n) = clipS b * n := IntWalk.i64_in _ (by omega)
  have e3 : IntKind.i64.wrap (clipS a * (d - n) + clipS b * n) = clipS a * (d - n) + clipS b * n := IntWalk.i64_in _ (by omega)
  have e4 : IntKind.i64.wrap (n + (d - n)) = d := by rw [IntWalk.i64_in _ (by omega)]; omega
  have C := fun w => down_any (clipS a * (d - n) + clipS b * n) d w (by omega) (by omega)
  go_enter Try.func61, Try.ntmps61
  go_wp2
  go_quiet ((first | (go_at_call 24; exact Calls.quiet_of_same ((clip_any _ _).mono fun _ _ h => ⟨h.1, h.2.symm⟩)) | (go_at_call 62; exact Calls.quiet_of_same ((C _).mono fun _ _ h => ⟨h.1, h.2.symm⟩))))
  go_wp2
  go_ret
  exact ⟨rfl, _, rfl⟩
theorem below_drewN {B : Nat} {a w : World} (h : Below B a w) (n : Nat) : Below B a (w.drewN n) := ⟨h.os, h.tape, h.output, h.size, h.block⟩
theorem not_line {n d : Int} (h : ¬ LineOk n d) : d < 1 ∨ (1 ≤ d ∧ 16777216 < d) ∨ (1 ≤ d ∧ d ≤ 16777216 ∧ n < 0) ∨ (1 ≤ d ∧ d ≤ 16777216 ∧ 0 ≤ n ∧ d < n) := by
  unfold LineOk at h; omega
theorem line_ok (a b n d : Int) (w : World) (h : LineOk n d) :
    Calls Try.prog 32 #[.int .i64 a, .int .i64 b, .int .i64 n, .int .i64 d] w fun e w' => e = .returned (.tuple #[.int .i64 (lineS a b n d), .int .i64 0]) ∧ Below w.heap.size w w' := by
  have C := lineF_any a b n d w.heap.size (w.heap.size + 1) ((w.alloc (.cells #[.int .i64 a] 3)).alloc (.cells #[.int .i64 b] 3)) h
    (by rw [World.cell?_alloc_past _ _ _ (by simp), World.cell?_alloc_at _ _ _ _ rfl]; rfl) (by rw [World.cell?_alloc_at _ _ _ _ (by simp)]; rfl)
  obtain ⟨h1, h2, h3, h4⟩ := h
  go_enter Try.func32, Try.ntmps32
  go_wp2_with (first
    | (go_at_call 61; refine C.mono ?_; rintro e w' ⟨rfl, k, rfl⟩)
    | go_in)
  go_ret2
  exact ⟨rfl, below_drewN (((Below.refl _ _).alloc (Nat.le_refl _) _).alloc (by simp) _) _⟩
theorem line_bad (a b n d : Int) (w : World) (h : ¬ LineOk n d) :
    Calls Try.prog 32 #[.int .i64 a, .int .i64 b, .int .i64 n, .int .i64 d] w fun e w' => e = .returned (.tuple #[.int .i64 0, .int .i64 1]) ∧ Below w.heap.size w w' := by
  rcases not_line h with h1 | ⟨h1, h2⟩ | ⟨h1, h2, h3⟩ | ⟨h1, h2, h3, h4⟩
  all_goals
    clear h
    go_enter Try.func32, Try.ntmps32
    go_wp2_with go_in
    go_ret2
    exact ⟨rfl, ((Below.refl _ _).alloc (Nat.le_refl _) _).alloc (by simp) _⟩
theorem line_any (a b n d : Int) (w : World) :
    Calls Try.prog 32 #[.int .i64 a, .int .i64 b, .int .i64 n, .int .i64 d] w fun e w' => e = .returned (.tuple #[.int .i64 (lineR a b n d).1, .int .i64 (lineR a b n d).2]) ∧ Below w.heap.size w w' := by
  by_cases h : LineOk n d
  · simp only [lineR, if_pos h]; exact line_ok a b n d w h
  · simp only [lineR, if_neg h]; exact line_bad a b n d w h

theorem bend_bd (a b n d wa wb : Int) (h : LineOk n d) (h' : BendOk wa wb) :
    (0 ≤ n * wb ∧ n * wb ≤ 268435456) ∧ (0 ≤ (d - n) * wa ∧ (d - n) * wa ≤ 268435456) ∧ 1 ≤ n * wb + (d - n) * wa ∧
    (-576460752303423488 ≤ clipS a * ((d - n) * wa) ∧ clipS a * ((d - n) * wa) ≤ 576460752303423488) ∧ (-576460752303423488 ≤ clipS b * (n * wb) ∧ clipS b * (n * wb) ≤ 576460752303423488) := by
  obtain ⟨h1, h2, h3, h4⟩ := h
  obtain ⟨k1, k2, k3, k4⟩ := h'
  have a1 : 0 ≤ n * wb := Int.mul_nonneg h3 (by omega)
  have a2 := (mul_bd (x := n) (y := wb) (M := 16777216) (N := 16) (by omega) (by omega) (by omega) (by omega) (by omega) (by omega)).2
  have b1 : 0 ≤ (d - n) * wa := Int.mul_nonneg (by omega) (by omega)
  have b2 := (mul_bd (x := d - n) (y := wa) (M := 16777216) (N := 16) (by omega) (by omega) (by omega) (by omega) (by omega) (by omega)).2
  have c1 := clip_mul_bd a (y := (d - n) * wa) (N := 268435456) (by omega) (by omega) (by omega)
  have c2 := clip_mul_bd b (y := n * wb) (N := 268435456) (by omega) (by omega) (by omega)
  refine ⟨⟨a1, by omega⟩, ⟨b1, by omega⟩, ?_, ⟨by omega, by omega⟩, ⟨by omega, by omega⟩⟩
  by_cases e : n = 0
  · have : 1 ≤ (d - n) * wa := Int.le_trans (show (1 : Int) ≤ d - n by omega) (by have := Int.mul_le_mul_of_nonneg_left (show 1 ≤ wa by omega) (show 0 ≤ d - n by omega); omega)
    omega
  · have : 1 ≤ n * wb := Int.le_trans (show (1 : Int) ≤ n by omega) (by have := Int.mul_le_mul_of_nonneg_left (show 1 ≤ wb by omega) (show 0 ≤ n by omega); omega)
    omega
theorem bendF_any (a b n d wa wb : Int) (pa pb pwa pwb : Nat) (w : World) (h : LineOk n d) (h' : BendOk wa wb) (ha : w.cell? ⟨pa, 0, none⟩ = some (.int .i64 a)) (hb : w.cell? ⟨pb, 0, none⟩ = some (.int .i64 b))
    (hwa : w.cell? ⟨pwa, 0, none⟩ = some (.int .i64 wa)) (hwb : w.cell? ⟨pwb, 0, none⟩ = some (.int .i64 wb)) :
    Calls Try.prog 63 #[.int .i64 n, .int .i64 (d - n), .pointer (some ⟨pwb, 0, none⟩), .pointer (some ⟨pwa, 0, none⟩), .pointer (some ⟨pa, 0, none⟩), .pointer (some ⟨pb, 0, none⟩)] w
      fun e w' => e = .returned (.int .i64 (bendS a b n d wa wb)) ∧ ∃ k, w' = w.drewN k := by
  obtain ⟨a1, a2, a3, a4, a5⟩ := bend_bd a b n d wa wb h h'
  have e1 : IntKind.i64.wrap (n * wb) = n * wb := IntWalk.i64_in _ (by omega)
  have e2 : IntKind.i64.wrap ((d - n) * wa) = (d - n) * wa := IntWalk.i64_in _ (by omega)
  have e3 : IntKind.i64.wrap (clipS a * ((d - n) * wa)) = clipS a * ((d - n) * wa) := IntWalk.i64_in _ (by omega)
  have e4 : IntKind.i64.wrap (clipS b * (n * wb)) = clipS b * (n * wb) := IntWalk.i64_in _ (by omega)
  have e5 : IntKind.i64.wrap (clipS a * ((d - n) * wa) + clipS b * (n * wb)) = clipS a * ((d - n) * wa) + clipS b * (n * wb) := IntWalk.i64_in _ (by omega)
  have e6 : IntKind.i64.wrap (n * wb + (d - n) * wa) = n * wb + (d - n) * wa := IntWalk.i64_in _ (by omega)
  have C := fun w => down_any (clipS a * ((d - n) * wa) + clipS b * (n * wb)) (n * wb + (d - n) * wa) w (by omega) (by omega)
  go_enter Try.func63, Try.ntmps63
  go_wp2
  go_quiet (fail)
  go_wp2
  go_quiet ((first | (go_at_call 24; exact Calls.quiet_of_same ((clip_any _ _).mono fun _ _ h => ⟨h.1, h.2.symm⟩)) | (go_at_call 24; exact quiet_add_left (clip_any _ _)) | (go_at_call 62; exact Calls.quiet_of_same ((C _).mono fun _ _ h => ⟨h.1, h.2.symm⟩)) | (go_at_call 62; exact quiet_add_left (C _))))
  go_wp2
  go_ret
  exact ⟨rfl, _, World.drewN_drewN _ _ _⟩
theorem not_bend {wa wb : Int} (h : ¬ BendOk wa wb) : wa < 1 ∨ (1 ≤ wa ∧ 16 < wa) ∨ (1 ≤ wa ∧ wa ≤ 16 ∧ wb < 1) ∨ (1 ≤ wa ∧ wa ≤ 16 ∧ 1 ≤ wb ∧ 16 < wb) := by
  unfold BendOk at h; omega
def bendW (a b wa wb : Int) (w : World) : World := (((w.alloc (.cells #[.int .i64 a] 3)).alloc (.cells #[.int .i64 b] 3)).alloc (.cells #[.int .i64 wa] 3)).alloc (.cells #[.int .i64 wb] 3)
theorem bendW_below (a b wa wb : Int) (w : World) : Below w.heap.size w (bendW a b wa wb w) :=
  ((((Below.refl _ _).alloc (Nat.le_refl _) _).alloc (by simp) _).alloc (by simp; omega) _).alloc (by simp; omega) _
theorem bend_ok (a b n d wa wb : Int) (w : World) (h : LineOk n d) (h' : BendOk wa wb) :
    Calls Try.prog 34 #[.int .i64 a, .int .i64 b, .int .i64 n, .int .i64 d, .int .i64 wa, .int .i64 wb] w fun e w' => e = .returned (.tuple #[.int .i64 (bendS a b n d wa wb), .int .i64 0]) ∧ Below w.heap.size w w' := by
  have C := bendF_any a b n d wa wb w.heap.size (w.heap.size + 1) (w.heap.size + 1 + 1) (w.heap.size + 1 + 1 + 1) (bendW a b wa wb w) h h' (by simp [bendW, go_sem]) (by simp [bendW, go_sem]) (by simp [bendW, go_sem]) (by simp [bendW, go_sem])
  have hB := bendW_below a b wa wb w
  unfold bendW at C hB
  obtain ⟨h1, h2, h3, h4⟩ := h
  obtain ⟨k1, k2, k3, k4⟩ := h'
  go_enter Try.func34, Try.ntmps34
  go_wp2_with (first
    | (go_at_call 63; refine C.mono ?_; rintro e w' ⟨rfl, k, rfl⟩)
    | go_in)
  go_ret2
  exact ⟨rfl, below_drewN hB _⟩
theorem bend_bad (a b n d wa wb : Int) (w : World) (h : ¬ (LineOk n d ∧ BendOk wa wb)) :
    Calls Try.prog 34 #[.int .i64 a, .int .i64 b, .int .i64 n, .int .i64 d, .int .i64 wa, .int .i64 wb] w fun e w' => e = .returned (.tuple #[.int .i64 0, .int .i64 1]) ∧ Below w.heap.size w w' := by
  have hB := bendW_below a b wa wb w
  unfold bendW at hB
  by_cases h' : BendOk wa wb
  · obtain ⟨k1, k2, k3, k4⟩ := h'
    rcases not_line (fun hl => h ⟨hl, k1, k2, k3, k4⟩) with h1 | ⟨h1, h2⟩ | ⟨h1, h2, h3⟩ | ⟨h1, h2, h3, h4⟩
    all_goals
      clear h
      go_enter Try.func34, Try.ntmps34
      go_wp2_with go_in
      go_ret2
      exact ⟨rfl, hB⟩
  · rcases not_bend h' with h1 | ⟨h1, h2⟩ | ⟨h1, h2, h3⟩ | ⟨h1, h2, h3, h4⟩
    all_goals
      clear h h'
      go_enter Try.func34, Try.ntmps34
      go_wp2_with go_in
      go_ret2
      exact ⟨rfl, hB⟩
theorem bend_any (a b n d wa wb : Int) (w : World) :
    Calls Try.prog 34 #[.int .i64 a, .int .i64 b, .int .i64 n, .int .i64 d, .int .i64 wa, .int .i64 wb] w fun e w' => e = .returned (.tuple #[.int .i64 (bendR a b n d wa wb).1, .int .i64 (bendR a b n d wa wb).2]) ∧ Below w.heap.size w w' := by
  by_cases h : LineOk n d ∧ BendOk wa wb
  · simp only [bendR, if_pos h]; exact bend_ok a b n d wa wb w h.1 h.2
  · simp only [bendR, if_neg h]; exact bend_bad a b n d wa wb w h
theorem rline_eq (a b n d : Int) (h : LineOk n d) : clipS a + (clipS b - clipS a) * n / d = lineS a b n d := by
  obtain ⟨h1, h2, h3, h4⟩ := h
  unfold lineS
  rw [show clipS a * (d - n) + clipS b * n = (clipS b - clipS a) * n + clipS a * d by rw [Int.mul_sub, Int.sub_mul]; omega]
  rw [Int.add_mul_ediv_right _ _ (by omega)]
  omega
theorem rline_any (a b n d : Int) (w : World) :
    Calls Try.prog 33 #[.int .i64 a, .int .i64 b, .int .i64 n, .int .i64 d] w fun e w' => e = .returned (.tuple #[.int .i64 (lineR a b n d).1, .int .i64 (lineR a b n d).2]) ∧ w = w' := by
  by_cases h : LineOk n d
  · simp only [lineR, if_pos h]
    have H := Lib.hid (rline_eq a b n d h)
    obtain ⟨h1, h2, h3, h4⟩ := h
    have k1 := clipS_bd a
    have k2 := clipS_bd b
    have k3 := mul_bd (x := clipS b - clipS a) (y := n) (M := 4294967296) (N := 16777216) (by omega) (by omega) (by omega) (by omega) (by omega) (by omega)
    have k4 : -72057594037927936 ≤ (clipS b - clipS a) * n / d ∧ (clipS b - clipS a) * n / d ≤ 72057594037927936 := by
      have h5 := Int.ediv_le_ediv (show 0 < d by omega) (show -72057594037927936 ≤ (clipS b - clipS a) * n by omega)
      have h6 := Int.ediv_le_ediv (show 0 < d by omega) (show (clipS b - clipS a) * n ≤ 72057594037927936 by omega)
      have h7 : -72057594037927936 ≤ -72057594037927936 / d := by rw [Int.le_ediv_iff_mul_le (by omega)]; omega
      have h8 : 72057594037927936 / d ≤ 72057594037927936 := Int.ediv_le_self _ (by omega)
      omega
    go_enter Try.func33, Try.ntmps33
    go_wp2_with (first
      | (go_at_call 25; refine (rclip_any _ _).mono ?_; rintro e w' ⟨rfl, rfl⟩)
      | (go_at_call 59; refine (floor_any _ _ _ (by omega) (by omega)).mono ?_; rintro e w' ⟨rfl, rfl⟩))
    go_ret2
    exact ⟨ret_int2 H.out rfl, rfl⟩
  · simp only [lineR, if_neg h]
    rcases not_line h with h1 | ⟨h1, h2⟩ | ⟨h1, h2, h3⟩ | ⟨h1, h2, h3, h4⟩
    all_goals
      clear h
      go_enter Try.func33, Try.ntmps33
      go_wp2_with fail
      go_ret2
      exact ⟨rfl, rfl⟩
end Go.Proofs.Yteljglhfimhmlaa
