/- Contracts of package fixed and of its reference (layer 8): numbers alone, and Line, Bend. -/
import Derived.Test.YteljglhfimhmlaaBase
import Derived.Test.YteljglhfimhmlaaPlainFixed
namespace Go.Proofs.Yteljglhfimhmlaa
open Go.RowKit

theorem clip_any (x : Int) (w : World) : Calls Try.prog 24 #[.int .i64 x] w fun e w' => e = .returned (.int .i64 (clipS x)) ∧ w = w' := by
  go_enter Try.func24, Try.ntmps24
  go_wp2
  all_goals go_ret
  all_goals (refine ⟨?_, rfl⟩; simp [clipS, *])
  all_goals omega
theorem rclip_any (x : Int) (w : World) : Calls Try.prog 25 #[.int .i64 x] w fun e w' => e = .returned (.int .i64 (clipS x)) ∧ w = w' := by
  have hc := clipS_cases x
  rcases hc with ⟨h1, h2⟩ | ⟨h1, h2⟩ | ⟨h1, h2, h3⟩
  · go_enter Try.func25, Try.ntmps25
    go_wp2
    all_goals go_ret
    all_goals (refine ⟨?_, rfl⟩; simp [h2]; try omega)
  · go_enter Try.func25, Try.ntmps25
    go_wp2
    all_goals go_ret
    all_goals (refine ⟨?_, rfl⟩; simp [h2]; try omega)
  · have H := Lib.hid h3
    clear h3
    go_enter Try.func25, Try.ntmps25
    go_wp2
    all_goals go_ret
    all_goals (refine ⟨?_, rfl⟩; simp [H.out]; try omega)
theorem sum_any (A : Option Addr) (n c : Nat) (l : List Int) (w : World) (h : SL w A n c l)
    (hs : ∀ k, k ≤ l.length → -9223372036854775808 ≤ (l.take k).sum ∧ (l.take k).sum ≤ 9223372036854775807) :
    Calls Try.prog 58 #[.slice A n c] w fun e w' => e = .returned (.int .i64 l.sum) ∧ w = w' := by
  obtain rfl := h.n_eq
  have hn := h.len
  have HS := Lib.hid hs
  clear hs
  go_enter Try.func58, Try.ntmps58
  go_wp2
  go_loop [2, 7] (fun n i => ∃ k : Nat, k ≤ l.length ∧ i = .int .i64 k ∧ n = .int .i64 (l.take k).sum) (fun _ i => l.length - (intOf i).toNat)
  case atStart => exact ⟨0, Nat.zero_le _, rfl, rfl⟩
  case round =>
    obtain ⟨k, hk, rfl, rfl⟩ := hrel
    by_cases hlt : k < l.length
    · obtain ⟨b, o, rfl, hb, hc⟩ := h.at_ hlt
      have h1 := HS.out k hk
      have h2 := HS.out (k + 1) hlt
      have h3 : (l.take (k + 1)).sum = (l.take k).sum + l[k] := sum_take_succ hlt
      rw [h3] at h2
      have H3 := Lib.hid h3
      clear h3 h
      go_wp2
      go_round
      case rel => exact ⟨k + 1, by omega, by go_num, by rw [H3.out]⟩
      case measure => simp [intOf]; omega
    · obtain rfl : k = l.length := by omega
      go_wp2
      go_ret
      exact ⟨by simp, rfl⟩

/-- The sum of two ints, if Go's int holds it. -/
theorem sum2_any (a b : Int) (w : World) (ha : -9223372036854775808 ≤ a ∧ a ≤ 9223372036854775807) (hb : -9223372036854775808 ≤ b ∧ b ≤ 9223372036854775807)
    (hab : -9223372036854775808 ≤ a + b ∧ a + b ≤ 9223372036854775807) (e : TypeId) :
    Calls Try.prog 58 #[.slice (some ⟨w.heap.size, 0, none⟩) 2 2] (w.alloc (.cells #[.int .i64 a, .int .i64 b] e)) fun e' w' => e' = .returned (.int .i64 (a + b)) ∧ (w.alloc (.cells #[.int .i64 a, .int .i64 b] e)) = w' := by
  have h := SL.lit w e [a, b] #[.int .i64 a, .int .i64 b] rfl (by simp [maxLen]) (by simp; exact ⟨ha, hb⟩)
  refine (sum_any _ _ _ _ _ h ?_).mono ?_
  · intro k hk
    match k with
    | 0 => simp
    | 1 => simpa using ha
    | 2 => simpa using hab
    | k + 3 => simp at hk
  · rintro e' w' ⟨rfl, rfl⟩; simp
theorem add_big (a b : Int) (w : World) (h1 : (0 < a ∧ 4611686018427387904 ≤ b) ∨ (0 < b ∧ 4611686018427387904 ≤ a)) : Calls Try.prog 26 #[.int .i64 a, .int .i64 b] w fun e w' => e = .returned (.int .i64 (addS a b)) ∧ w = w' := by
  have H := Lib.hid (show addS a b = 2147483647 from clipS_max (by omega))
  have ha : 0 < a := by omega
  have hb : 0 < b := by omega
  rcases h1 with ⟨_, h1⟩ | ⟨_, h1⟩
  all_goals
    go_enter Try.func26, Try.ntmps26
    go_wp2_with fail
    all_goals go_ret
    all_goals exact ⟨ret_int H.out.symm, rfl⟩
theorem add_small (a b : Int) (w : World) (h1 : (a < 0 ∧ b ≤ -4611686018427387904) ∨ (b < 0 ∧ a ≤ -4611686018427387904)) : Calls Try.prog 26 #[.int .i64 a, .int .i64 b] w fun e w' => e = .returned (.int .i64 (addS a b)) ∧ w = w' := by
  have H := Lib.hid (show addS a b = -2147483648 from clipS_min (by omega))
  have ha : a < 0 := by omega
  have hb : b < 0 := by omega
  rcases h1 with ⟨_, h1⟩ | ⟨_, h1⟩
  all_goals
    go_enter Try.func26, Try.ntmps26
    go_wp2_with fail
    all_goals go_ret
    all_goals exact ⟨ret_int H.out.symm, rfl⟩
set_option maxHeartbeats 1000000 in
theorem add_mid (a b : Int) (w : World) (ha : -9223372036854775808 ≤ a ∧ a ≤ 9223372036854775807) (hb : -9223372036854775808 ≤ b ∧ b ≤ 9223372036854775807)
    (h1 : ¬ (0 < a ∧ 4611686018427387904 ≤ b)) (h2 : ¬ (0 < b ∧ 4611686018427387904 ≤ a)) (h3 : ¬ (a < 0 ∧ b ≤ -4611686018427387904)) (h4 : ¬ (b < 0 ∧ a ≤ -4611686018427387904)) :
    Calls Try.prog 26 #[.int .i64 a, .int .i64 b] w fun e w' => e = .returned (.int .i64 (addS a b)) ∧ Below w.heap.size w w' := by
  have h5 : -9223372036854775808 ≤ a + b ∧ a + b ≤ 9223372036854775807 := by omega
  have C := fun e => sum2_any a b w ha hb h5 e
  have C' := Lib.hid C
  clear C h5
  have ha1 : 0 < a ∨ a < 0 ∨ (a ≤ 0 ∧ 0 ≤ a) := by omega
  have hb1 : 0 < b ∨ b < 0 ∨ (b ≤ 0 ∧ 0 ≤ b) := by omega
  rcases ha1 with ha1 | ha1 | ⟨ha1, ha2⟩ <;> rcases hb1 with hb1 | hb1 | ⟨hb1, hb2⟩
  all_goals
    have g1 : 0 < a → b < 4611686018427387904 := by omega
    have g2 : 0 < b → a < 4611686018427387904 := by omega
    have g3 : a < 0 → -4611686018427387904 < b := by omega
    have g4 : b < 0 → -4611686018427387904 < a := by omega
    try have k1 := g1 (by omega)
    try have k2 := g2 (by omega)
    try have k3 := g3 (by omega)
    try have k4 := g4 (by omega)
    clear g1 g2 g3 g4 h1 h2 h3 h4 ha hb
    go_enter Try.func26, Try.ntmps26
    go_wp2_with (first
      | (go_at_call 58; refine (C'.out _).mono ?_; rintro e w' ⟨rfl, rfl⟩)
      | (go_at_call 24; refine (clip_any _ _).mono ?_; rintro e w' ⟨rfl, rfl⟩))
    go_ret
    exact ⟨rfl, (Below.refl _ _).alloc (Nat.le_refl _) _⟩
theorem add_any (a b : Int) (w : World) (ha : I64 a) (hb : I64 b) : Calls Try.prog 26 #[.int .i64 a, .int .i64 b] w fun e w' => e = .returned (.int .i64 (addS a b)) ∧ Below w.heap.size w w' := by
  by_cases h1 : (0 < a ∧ 4611686018427387904 ≤ b) ∨ (0 < b ∧ 4611686018427387904 ≤ a)
  · exact (add_big a b w h1).mono fun _ _ ⟨h, e⟩ => ⟨h, e ▸ Below.refl _ _⟩
  by_cases h2 : (a < 0 ∧ b ≤ -4611686018427387904) ∨ (b < 0 ∧ a ≤ -4611686018427387904)
  · exact (add_small a b w h2).mono fun _ _ ⟨h, e⟩ => ⟨h, e ▸ Below.refl _ _⟩
  exact add_mid a b w ha hb (fun h => h1 (.inl h)) (fun h => h1 (.inr h)) (fun h => h2 (.inl h)) (fun h => h2 (.inr h))
end Go.Proofs.Yteljglhfimhmlaa
