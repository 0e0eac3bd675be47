/- 'sane' of layer 8: the chapter's examples come out as they should. -/
import Derived.Test.YteljglhfimhmlaaFixedE
namespace Go.Proofs.Yteljglhfimhmlaa
open Go.RowKit

theorem bstep {w w1 w2 : World} (h : Below w.heap.size w w1) (k : Below w1.heap.size w1 w2) : Below w.heap.size w w2 := h.trans (k.mono h.size)
theorem bstepA {w w1 w2 : World} {o : Obj} (h : Below w.heap.size w w1) (k : Below (w1.alloc o).heap.size (w1.alloc o) w2) : Below w.heap.size w w2 :=
  (h.alloc h.size _).trans (k.mono (by simp; have := h.size; omega))
theorem mix_nil (w : World) : Calls Try.prog 30 #[.slice none 0 0] w fun e w' => e = .returned (.int .i64 0) ∧ Below w.heap.size w w' := mix_any none 0 0 [] w SL.nil (by omega)
theorem mix_three (w : World) : Calls Try.prog 30 #[.slice (some ⟨w.heap.size, 0, none⟩) 3 3] (w.alloc (.cells #[.int .i64 2147483647, .int .i64 1, .int .i64 (-1)] 3)) fun e w' => e = .returned (.int .i64 2147483647) ∧ Below w.heap.size w w' :=
  (mix_any _ 3 3 [2147483647, 1, -1] _ (SL.lit w _ [2147483647, 1, -1] _ rfl (by simp [maxLen]) (by simp [I64])) (by omega)).mono fun _ _ ⟨h, hb⟩ =>
    ⟨h, ((Below.refl _ _).alloc (Nat.le_refl _) _).trans (hb.mono (by simp))⟩
set_option maxHeartbeats 1000000 in
set_option maxRecDepth 100000 in
theorem sane08_any (w : World) : Calls Try.prog 23 #[] w fun e w' => e = .returned (.bool true) ∧ Below w.heap.size w w' := by
  have h1 : lineR 0 100 1 3 = (33, 0) := by decide
  have h2 : lineR 100 0 1 3 = (66, 0) := by decide
  have h3 : bendR 0 100 1 2 1 3 = (75, 0) := by decide
  have h4 : lineR 5 5 0 0 = (0, 1) := by decide
  have h5 : bendR 0 1 1 1 0 1 = (0, 1) := by decide
  have h6 : clipS 2147483648 = 2147483647 := by decide
  have h7 : addS (-2147483648) (-1) = -2147483648 := by decide
  have h8 : mulS 7 65536 = 7 := by decide
  have h9 : mulS (-1) 1 = -1 := by decide
  have h10 : mulS (-3) 32768 = -2 := by decide
  have hB := Below.refl w.heap.size w
  go_enter Try.func23, Try.ntmps23
  go_wp2_with (first
    | (go_at_call 32; refine (line_any _ _ _ _ _).mono ?_; rintro e w1 ⟨rfl, hb⟩; replace hB := bstep hB hb; clear hb)
    | (go_at_call 34; refine (bend_any _ _ _ _ _ _ _).mono ?_; rintro e w1 ⟨rfl, hb⟩; replace hB := bstep hB hb; clear hb)
    | (go_at_call 24; refine (clip_any _ _).mono ?_; rintro e w1 ⟨rfl, rfl⟩)
    | (go_at_call 28; refine (mul_any _ _ _).mono ?_; rintro e w1 ⟨rfl, rfl⟩)
    | (go_at_call 26; refine (add_any _ _ _ (by unfold I64; omega) (by unfold I64; omega)).mono ?_; rintro e w1 ⟨rfl, hb⟩; replace hB := bstep hB hb; clear hb)
    | (go_at_call 30; (with_reducible refine (mix_nil _).mono ?_); rintro e w1 ⟨rfl, hb⟩; replace hB := bstep hB hb; clear hb)
    | (go_at_call 30; (with_reducible refine (mix_three _).mono ?_); rintro e w1 ⟨rfl, hb⟩; replace hB := bstep hB hb; clear hb))
  go_ret
  exact ⟨rfl, hB⟩
end Go.Proofs.Yteljglhfimhmlaa
