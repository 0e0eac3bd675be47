/- The walks of layer 8's laws that only compare with the reference. -/
import Derived.Test.YteljglhfimhmlaaSane08
namespace Go.Proofs.Yteljglhfimhmlaa
open Go.RowKit

theorem walkFixedSpec (a b : Int) (w : World) (ha : I64 a) (hb : I64 b) : Calls Try.prog 3 #[.int .i64 a, .int .i64 b] w fun e w' => e = .returned (.bool true) ∧ Below w.heap.size w w' := by
  have hB := Below.refl w.heap.size w
  go_enter Try.func3, Try.ntmps3
  go_wp2_with (first
    | (go_at_call 23; refine (sane08_any _).mono ?_; rintro e w1 ⟨rfl, hb⟩; replace hB := bstep hB hb; clear hb)
    | (go_at_call 24; refine (clip_any _ _).mono ?_; rintro e w1 ⟨rfl, rfl⟩)
    | (go_at_call 25; refine (rclip_any _ _).mono ?_; rintro e w1 ⟨rfl, rfl⟩)
    | (go_at_call 28; refine (mul_any _ _ _).mono ?_; rintro e w1 ⟨rfl, rfl⟩)
    | (go_at_call 29; refine (rmul_any _ _ _).mono ?_; rintro e w1 ⟨rfl, rfl⟩)
    | (go_at_call 27; refine (radd_any _ _ _ ha hb).mono ?_; rintro e w1 ⟨rfl, rfl⟩)
    | (go_at_call 26; refine (add_any _ _ _ ha hb).mono ?_; rintro e w1 ⟨rfl, hb⟩; replace hB := bstep hB hb; clear hb))
  go_ret
  exact ⟨rfl, hB⟩
theorem walkFixedMixSpec (A : Option Addr) (n c : Nat) (l : List Int) (w : World) (h : SL w A n c l) : Calls Try.prog 4 #[.slice A n c] w fun e w' => e = .returned (.bool true) ∧ Below w.heap.size w w' := by
  have hB := Below.refl w.heap.size w
  have hlen := h.len
  by_cases hn : n ≤ 300
  · have hn' : (n : Int) ≤ 300 := by omega
    go_enter Try.func4, Try.ntmps4
    go_wp2_with (first
      | (go_at_call 23; refine (sane08_any _).mono ?_; rintro e w1 ⟨rfl, hb⟩; replace hB := bstep hB hb; clear hb)
      | (go_at_call 31; refine (rmix_any _ _ _ l _ (h.below hB) (by omega)).mono ?_; rintro e w1 ⟨rfl, rfl⟩)
      | (go_at_call 30; refine (mix_any _ _ _ l _ (h.below hB) (by omega)).mono ?_; rintro e w1 ⟨rfl, hb⟩; replace hB := bstep hB hb; clear hb))
    go_ret
    exact ⟨rfl, hB⟩
  · have hn' : (300 : Int) < n := by omega
    go_enter Try.func4, Try.ntmps4
    go_wp2_with (first
      | (go_at_call 23; refine (sane08_any _).mono ?_; rintro e w1 ⟨rfl, hb⟩; replace hB := bstep hB hb; clear hb))
    go_ret
    exact ⟨rfl, hB⟩
theorem walkFixedLineSpec (a b n d wa wb : Int) (w : World) (_ : I64 a) (_ : I64 b) (_ : I64 n) (_ : I64 d) (_ : I64 wa) (_ : I64 wb) :
    Calls Try.prog 5 #[.int .i64 a, .int .i64 b, .int .i64 n, .int .i64 d, .int .i64 wa, .int .i64 wb] w fun e w' => e = .returned (.bool true) ∧ Below w.heap.size w w' := by
  have hB := Below.refl w.heap.size w
  go_enter Try.func5, Try.ntmps5
  go_wp2_with (first
    | (go_at_call 23; refine (sane08_any _).mono ?_; rintro e w1 ⟨rfl, hb⟩; replace hB := bstep hB hb; clear hb)
    | (go_at_call 32; refine (line_any _ _ _ _ _).mono ?_; rintro e w1 ⟨rfl, hb⟩; replace hB := bstep hB hb; clear hb)
    | (go_at_call 34; refine (bend_any _ _ _ _ _ _ _).mono ?_; rintro e w1 ⟨rfl, hb⟩; replace hB := bstep hB hb; clear hb)
    | (go_at_call 33; refine (rline_any _ _ _ _ _).mono ?_; rintro e w1 ⟨rfl, rfl⟩)
    | (go_at_call 35; refine (rbend_any _ _ _ _ _ _ _).mono ?_; rintro e w1 ⟨rfl, rfl⟩))
  go_ret
  exact ⟨rfl, hB⟩
end Go.Proofs.Yteljglhfimhmlaa
