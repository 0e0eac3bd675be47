/- The walk of layer 8's law on the ends of lines and bends. -/
import Derived.Test.YteljglhfimhmlaaSane08
import Derived.Test.YteljglhfimhmlaaPlainEnds
namespace Go.Proofs.Yteljglhfimhmlaa
open Go.RowKit

set_option maxHeartbeats 4000000 in
set_option maxRecDepth 1000000 in
theorem ends_bad (a b n d wa wb : Int) (w : World) (h1 : lineR a b n d = (0, 1)) (h2 : bendR a b n d wa wb = (0, 1)) (h3 : bendR a b n d 5 5 = (0, 1)) :
    Calls Try.prog 8 #[.int .i64 a, .int .i64 b, .int .i64 n, .int .i64 d, .int .i64 wa, .int .i64 wb] w fun e w' => e = .returned (.bool true) ∧ Below w.heap.size w w' := by
  have hB := Below.refl w.heap.size w
  go_enter Try.func8, Try.ntmps8
  go_wp2_with (first
    | (go_at_call 23; refine (sane08_any _).mono ?_; rintro e w1 ⟨rfl, hb⟩; replace hB := bstep hB hb; clear hb)
    | (go_at_call 32; refine (line_any _ _ _ _ _).mono ?_; rintro e w1 ⟨rfl, hb⟩; replace hB := bstep hB hb; clear hb)
    | (go_at_call 34; refine (bend_any _ _ _ _ _ _ _).mono ?_; rintro e w1 ⟨rfl, hb⟩; replace hB := bstep hB hb; clear hb))
  go_ret
  exact ⟨rfl, hB⟩
set_option maxHeartbeats 4000000 in
set_option maxRecDepth 1000000 in
theorem ends_zero (a b d wa wb A B y : Int) (w : World) (hA : clipS a = A) (hB' : clipS b = B) (h1 : lineR a b 0 d = (A, 0)) (h3 : bendR a b 0 d 5 5 = (A, 0)) (h4 : lineR a b d d = (B, 0))
    (h2 : bendR a b 0 d wa wb = (A, 0) ∨ bendR a b 0 d wa wb = (0, 1)) :
    Calls Try.prog 8 #[.int .i64 a, .int .i64 b, .int .i64 0, .int .i64 d, .int .i64 wa, .int .i64 wb] w fun e w' => e = .returned (.bool true) ∧ Below w.heap.size w w' := by
  have hB := Below.refl w.heap.size w
  have hc : A < B ∨ B < A ∨ (A = B) := by omega
  rcases hc with hc | hc | hc <;> rcases h2 with h2 | h2
  all_goals
    (try subst hc)
    go_enter Try.func8, Try.ntmps8
    go_wp2_with (first
      | (go_at_call 23; refine (sane08_any _).mono ?_; rintro e w1 ⟨rfl, hb⟩; replace hB := bstep hB hb; clear hb)
      | (go_at_call 24; refine (clip_any _ _).mono ?_; rintro e w1 ⟨rfl, rfl⟩)
      | (go_at_call 32; refine (line_any _ _ _ _ _).mono ?_; rintro e w1 ⟨rfl, hb⟩; replace hB := bstep hB hb; clear hb)
      | (go_at_call 34; refine (bend_any _ _ _ _ _ _ _).mono ?_; rintro e w1 ⟨rfl, hb⟩; replace hB := bstep hB hb; clear hb))
    go_ret
    exact ⟨rfl, hB⟩
set_option maxHeartbeats 8000000 in
set_option maxRecDepth 1000000 in
theorem ends_pos (a b n d wa wb A B x x' : Int) (w : World) (hn : 1 ≤ n) (hn2 : n ≤ 16777216) (hA : clipS a = A) (hB' : clipS b = B) (h1 : lineR a b n d = (x, 0)) (h3 : bendR a b n d 5 5 = (x, 0)) (h5 : lineR a b 0 d = (A, 0)) (h4 : lineR a b d d = (B, 0))
    (h6 : lineR a b (n - 1) d = (x', 0)) (hn0 : (n == 0) = false)
    (hx : (A < B ∧ A ≤ x ∧ x ≤ B ∧ x' ≤ x) ∨ (B < A ∧ B ≤ x ∧ x ≤ A ∧ x ≤ x') ∨ (A = B ∧ x = A ∧ x' ≤ x))
    (h2 : (∃ y y', bendR a b n d wa wb = (y, 0) ∧ bendR a b (n - 1) d wa wb = (y', 0) ∧ ((A < B ∧ A ≤ y ∧ y ≤ B ∧ y' ≤ y) ∨ (B < A ∧ B ≤ y ∧ y ≤ A ∧ y ≤ y') ∨ (A = B ∧ y = A ∧ y' ≤ y))) ∨ (bendR a b n d wa wb = (0, 1) ∧ bendR a b (n - 1) d wa wb = (0, 1))) :
    Calls Try.prog 8 #[.int .i64 a, .int .i64 b, .int .i64 n, .int .i64 d, .int .i64 wa, .int .i64 wb] w fun e w' => e = .returned (.bool true) ∧ Below w.heap.size w w' := by
  have hB := Below.refl w.heap.size w
  rcases h2 with ⟨y, y', h2, h7, hy⟩ | ⟨h2, h7⟩
  · rcases hx with ⟨c1, c2, c3, c4⟩ | ⟨c1, c2, c3, c4⟩ | ⟨c1, c2, c4⟩
    · obtain ⟨d2, d3, d4⟩ : A ≤ y ∧ y ≤ B ∧ y' ≤ y := by omega
      clear hy
      go_enter Try.func8, Try.ntmps8
      go_wp2_with (first
        | (go_at_call 23; refine (sane08_any _).mono ?_; rintro e w1 ⟨rfl, hb⟩; replace hB := bstep hB hb; clear hb)
        | (go_at_call 24; refine (clip_any _ _).mono ?_; rintro e w1 ⟨rfl, rfl⟩)
        | (go_at_call 32; refine (line_any _ _ _ _ _).mono ?_; rintro e w1 ⟨rfl, hb⟩; replace hB := bstep hB hb; clear hb)
        | (go_at_call 34; refine (bend_any _ _ _ _ _ _ _).mono ?_; rintro e w1 ⟨rfl, hb⟩; replace hB := bstep hB hb; clear hb))
      go_ret
      exact ⟨rfl, hB⟩
    · obtain ⟨d2, d3, d4⟩ : B ≤ y ∧ y ≤ A ∧ y ≤ y' := by omega
      clear hy
      go_enter Try.func8, Try.ntmps8
      go_wp2_with (first
        | (go_at_call 23; refine (sane08_any _).mono ?_; rintro e w1 ⟨rfl, hb⟩; replace hB := bstep hB hb; clear hb)
        | (go_at_call 24; refine (clip_any _ _).mono ?_; rintro e w1 ⟨rfl, rfl⟩)
        | (go_at_call 32; refine (line_any _ _ _ _ _).mono ?_; rintro e w1 ⟨rfl, hb⟩; replace hB := bstep hB hb; clear hb)
        | (go_at_call 34; refine (bend_any _ _ _ _ _ _ _).mono ?_; rintro e w1 ⟨rfl, hb⟩; replace hB := bstep hB hb; clear hb))
      go_ret
      exact ⟨rfl, hB⟩
    · obtain ⟨d2, d3⟩ : y = A ∧ y' ≤ y := by omega
      clear hy
      subst c1 c2 d2
      go_enter Try.func8, Try.ntmps8
      go_wp2_with (first
        | (go_at_call 23; refine (sane08_any _).mono ?_; rintro e w1 ⟨rfl, hb⟩; replace hB := bstep hB hb; clear hb)
        | (go_at_call 24; refine (clip_any _ _).mono ?_; rintro e w1 ⟨rfl, rfl⟩)
        | (go_at_call 32; refine (line_any _ _ _ _ _).mono ?_; rintro e w1 ⟨rfl, hb⟩; replace hB := bstep hB hb; clear hb)
        | (go_at_call 34; refine (bend_any _ _ _ _ _ _ _).mono ?_; rintro e w1 ⟨rfl, hb⟩; replace hB := bstep hB hb; clear hb))
      go_ret
      exact ⟨rfl, hB⟩
  · rcases hx with ⟨c1, c2, c3, c4⟩ | ⟨c1, c2, c3, c4⟩ | ⟨c1, c2, c4⟩
    · go_enter Try.func8, Try.ntmps8
      go_wp2_with (first
        | (go_at_call 23; refine (sane08_any _).mono ?_; rintro e w1 ⟨rfl, hb⟩; replace hB := bstep hB hb; clear hb)
        | (go_at_call 24; refine (clip_any _ _).mono ?_; rintro e w1 ⟨rfl, rfl⟩)
        | (go_at_call 32; refine (line_any _ _ _ _ _).mono ?_; rintro e w1 ⟨rfl, hb⟩; replace hB := bstep hB hb; clear hb)
        | (go_at_call 34; refine (bend_any _ _ _ _ _ _ _).mono ?_; rintro e w1 ⟨rfl, hb⟩; replace hB := bstep hB hb; clear hb))
      go_ret
      exact ⟨rfl, hB⟩
    · go_enter Try.func8, Try.ntmps8
      go_wp2_with (first
        | (go_at_call 23; refine (sane08_any _).mono ?_; rintro e w1 ⟨rfl, hb⟩; replace hB := bstep hB hb; clear hb)
        | (go_at_call 24; refine (clip_any _ _).mono ?_; rintro e w1 ⟨rfl, rfl⟩)
        | (go_at_call 32; refine (line_any _ _ _ _ _).mono ?_; rintro e w1 ⟨rfl, hb⟩; replace hB := bstep hB hb; clear hb)
        | (go_at_call 34; refine (bend_any _ _ _ _ _ _ _).mono ?_; rintro e w1 ⟨rfl, hb⟩; replace hB := bstep hB hb; clear hb))
      go_ret
      exact ⟨rfl, hB⟩
    · subst c1 c2
      go_enter Try.func8, Try.ntmps8
      go_wp2_with (first
        | (go_at_call 23; refine (sane08_any _).mono ?_; rintro e w1 ⟨rfl, hb⟩; replace hB := bstep hB hb; clear hb)
        | (go_at_call 24; refine (clip_any _ _).mono ?_; rintro e w1 ⟨rfl, rfl⟩)
        | (go_at_call 32; refine (line_any _ _ _ _ _).mono ?_; rintro e w1 ⟨rfl, hb⟩; replace hB := bstep hB hb; clear hb)
        | (go_at_call 34; refine (bend_any _ _ _ _ _ _ _).mono ?_; rintro e w1 ⟨rfl, hb⟩; replace hB := bstep hB hb; clear hb))
      go_ret
      exact ⟨rfl, hB⟩
theorem walkFixedEnds (a b n d wa wb : Int) (w : World) (_ : I64 a) (_ : I64 b) (_ : I64 n) (_ : I64 d) (_ : I64 wa) (_ : I64 wb) :
    Calls Try.prog 8 #[.int .i64 a, .int .i64 b, .int .i64 n, .int .i64 d, .int .i64 wa, .int .i64 wb] w fun e w' => e = .returned (.bool true) ∧ Below w.heap.size w w' := by
  by_cases hl : LineOk n d
  · have hl' := hl
    obtain ⟨l1, l2, l3, l4⟩ := hl'
    have f1 : lineR a b n d = (lineS a b n d, 0) := by simp [lineR, hl]
    have five : BendOk 5 5 := by unfold BendOk; omega
    have f3 : bendR a b n d 5 5 = (lineS a b n d, 0) := by simp [bendR, hl, five, bendS_five]
    have f5 : lineR a b 0 d = (clipS a, 0) := by have : LineOk 0 d := by unfold LineOk; omega
                                                 simp [lineR, this, lineS_first a b d l1]
    have f4 : lineR a b d d = (clipS b, 0) := by have : LineOk d d := by unfold LineOk; omega
                                                 simp [lineR, this, lineS_last a b d l1]
    by_cases hn : n = 0
    · subst hn
      rw [lineS_first a b d l1] at f3
      refine ends_zero a b d wa wb _ _ 0 w rfl rfl f5 f3 f4 ?_
      by_cases hb : BendOk wa wb
      · exact .inl (by simp [bendR, hl, hb, bendS_first a b d wa wb l1 hb.1])
      · exact .inr (by simp [bendR, hb])
    · have hl1 : LineOk (n - 1) d := by unfold LineOk; omega
      have f6 : lineR a b (n - 1) d = (lineS a b (n - 1) d, 0) := by simp [lineR, hl1]
      have m := line_mono a b n d hl (by omega)
      have lo : ∀ m, m ≤ clipS a → m ≤ clipS b → m ≤ lineS a b n d := fun m h h' => by rw [lineS_avg]; exact avgS_lo (by omega) (by omega) (by omega) h h'
      have hi : ∀ m, clipS a ≤ m → clipS b ≤ m → lineS a b n d ≤ m := fun m h h' => by rw [lineS_avg]; exact avgS_hi (by omega) (by omega) (by omega) h h'
      refine ends_pos a b n d wa wb _ _ _ _ w (by omega) (by omega) rfl rfl f1 f3 f5 f4 f6 (by simp; omega) ?_ ?_
      · have := lo (clipS a); have := lo (clipS b); have := hi (clipS a); have := hi (clipS b); omega
      · by_cases hb : BendOk wa wb
        · have p := bend_pos n d wa wb hl hb
          have m := bend_mono a b n d wa wb hl hb (by omega)
          have lo : ∀ m, m ≤ clipS a → m ≤ clipS b → m ≤ bendS a b n d wa wb := fun m h h' => by rw [bendS_avg]; exact avgS_lo p.1 p.2.1 p.2.2 h h'
          have hi : ∀ m, clipS a ≤ m → clipS b ≤ m → bendS a b n d wa wb ≤ m := fun m h h' => by rw [bendS_avg]; exact avgS_hi p.1 p.2.1 p.2.2 h h'
          refine .inl ⟨bendS a b n d wa wb, bendS a b (n - 1) d wa wb, by simp [bendR, hl, hb], by simp [bendR, hl1, hb], ?_⟩
          have := lo (clipS a); have := lo (clipS b); have := hi (clipS a); have := hi (clipS b); omega
        · exact .inr ⟨by simp [bendR, hb], by simp [bendR, hb]⟩
  · exact ends_bad a b n d wa wb w (by simp [lineR, hl]) (by simp [bendR, hl]) (by simp [bendR, hl])
end Go.Proofs.Yteljglhfimhmlaa
