/- Layer 42: keys and validity of records. -/
import Derived.Test.YteconepbhajjeaaOvA
import Derived.Test.YteconepbhajjeaaCmp
namespace Go.Proofs.Yteconepbhajjeaa
open Go.RowKit

def rkey (r : Rcd) : List Int := [r.dev, r.frm, r.known]
def rAgg (r : Rcd) : Value := .agg #[.int .i64 r.dev, .int .i64 r.frm, .int .i64 r.known, .int .i64 r.inn, .int .i64 r.out]
def kAgg (r : Rcd) : Value := .agg #[.int .i64 r.dev, .int .i64 r.frm, .int .i64 r.known]
theorem key_lt (a b : Rcd) : lcmp (rkey a) (rkey b) < 0 ↔ RcdLt a b := by
  unfold rkey lcmp lcmp lcmp lcmp RcdLt ccmp
  by_cases h1 : a.dev = b.dev
  · rw [if_pos h1]
    by_cases h2 : a.frm = b.frm
    · rw [if_pos h2]
      by_cases h3 : a.known = b.known
      · rw [if_pos h3]; omega
      · rw [if_neg h3]; split
        · omega
        · split <;> omega
    · rw [if_neg h2]; split
      · omega
      · split <;> omega
  · rw [if_neg h1]; split
    · omega
    · split <;> omega
theorem keyOf_any (r : Rcd) (w : World) : Calls Try.prog 35 #[rAgg r] w fun e w' => e = .returned (kAgg r) ∧ Below w.heap.size w w' := by
  obtain ⟨d, f, k, i, o⟩ := r
  unfold rAgg kAgg
  dsimp only
  go_enter Try.func35, Try.ntmps35
  go_wp2
  exact bodyPost_ret (v := .agg #[.int .i64 d, .int .i64 f, .int .i64 k]) (by simp [results, Try.results35, go_sem]) rfl ⟨rfl, ((Below.refl _ w).alloc (Nat.le_refl _) _).alloc (by simp) _⟩
theorem keycmp_any (a b : Rcd) (ha : ∀ x ∈ rkey a, I64 x) (hb : ∀ x ∈ rkey b, I64 x) (w : World) : Calls Try.prog 36 #[kAgg a, kAgg b] w fun e w' => e = .returned (.int .i64 (lcmp (rkey a) (rkey b))) ∧ Below w.heap.size w w' := by
  obtain ⟨d, f, k, i, o⟩ := a
  obtain ⟨d2, f2, k2, i2, o2⟩ := b
  unfold kAgg
  unfold rkey at ha hb ⊢
  dsimp only at ha hb ⊢
  have S1 := (SL.lit w 80 [d, f, k] #[.int .i64 d, .int .i64 f, .int .i64 k] rfl (by simp [maxLen]) ha).alloc (.cells #[.int .i64 d2, .int .i64 f2, .int .i64 k2] 80)
  have S2 := SL.lit (w.alloc (.cells #[.int .i64 d, .int .i64 f, .int .i64 k] 80)) 80 [d2, f2, k2] #[.int .i64 d2, .int .i64 f2, .int .i64 k2] rfl (by simp [maxLen]) hb
  rw [World.size_alloc] at S2
  have CC := Lib.hid fun z : Ext ((w.alloc (.cells #[.int .i64 d, .int .i64 f, .int .i64 k] 80)).alloc (.cells #[.int .i64 d2, .int .i64 f2, .int .i64 k2] 80)) => scmp_any _ _ 3 3 3 _ _ z.W (z.sl S1) (z.sl S2)
  have HB := Lib.hid (((Below.refl _ w).alloc (Nat.le_refl _) (.cells #[.int .i64 d, .int .i64 f, .int .i64 k] 80)).alloc (by simp) (.cells #[.int .i64 d2, .int .i64 f2, .int .i64 k2] 80))
  clear S1 S2 ha hb
  go_enter Try.func36, Try.ntmps36
  go_wp2
  refine wp_region_ext (by kernel_rfl) (by kernel_rfl) ?_
  repeat (go_big_quiet_step (first | exact Ext.quietS (CC.out _)))
  refine wpQuiet_nil ?_
  rintro _ ⟨z, rfl⟩
  go_wp2
  go_ret
  exact ⟨rfl, HB.out.trans (z.h.mono (by simp; omega))⟩
theorem in_true (a b c : Int) (w : World) (h1 : b ≤ a) (h2 : a ≤ c) : Calls Try.prog 40 #[.int .i64 a, .int .i64 b, .int .i64 c] w fun e w' => e = .returned (.bool true) ∧ w = w' := by
  go_enter Try.func40, Try.ntmps40
  go_wp2
  go_ret
  exact ⟨rfl, rfl⟩
theorem in_false (a b c : Int) (w : World) (h : a < b ∨ (b ≤ a ∧ c < a)) : Calls Try.prog 40 #[.int .i64 a, .int .i64 b, .int .i64 c] w fun e w' => e = .returned (.bool false) ∧ w = w' := by
  rcases h with h | ⟨h, h'⟩
  · go_enter Try.func40, Try.ntmps40
    go_wp2
    go_ret
    exact ⟨rfl, rfl⟩
  · have d : decide (a ≤ c) = false := by simpa using h'
    go_enter Try.func40, Try.ntmps40
    go_wp2
    go_ret
    exact ⟨rfl, rfl⟩
theorem not_rcdOk {r : Rcd} (h : ¬ RcdOk r) : (r.dev < 0 ∨ (0 ≤ r.dev ∧ 15 < r.dev)) ∨ ((0 ≤ r.dev ∧ r.dev ≤ 15) ∧ (r.frm < 0 ∨ (0 ≤ r.frm ∧ 1099511627776 < r.frm))) ∨
    ((0 ≤ r.dev ∧ r.dev ≤ 15) ∧ (0 ≤ r.frm ∧ r.frm ≤ 1099511627776) ∧ (r.known < 1 ∨ (1 ≤ r.known ∧ 16777216 < r.known))) ∨
    ((0 ≤ r.dev ∧ r.dev ≤ 15) ∧ (0 ≤ r.frm ∧ r.frm ≤ 1099511627776) ∧ (1 ≤ r.known ∧ r.known ≤ 16777216) ∧ (r.inn < 0 ∨ (0 ≤ r.inn ∧ 1048576 < r.inn))) ∨
    ((0 ≤ r.dev ∧ r.dev ≤ 15) ∧ (0 ≤ r.frm ∧ r.frm ≤ 1099511627776) ∧ (1 ≤ r.known ∧ r.known ≤ 16777216) ∧ (0 ≤ r.inn ∧ r.inn ≤ 1048576) ∧ (r.out < 0 ∨ (0 ≤ r.out ∧ 1048576 < r.out))) := by
  unfold RcdOk at h; omega
set_option maxHeartbeats 2000000 in
theorem valid_any (r : Rcd) (w : World) : Calls Try.prog 34 #[rAgg r] w fun e w' => e = .returned (.bool (decide (RcdOk r))) ∧ Below w.heap.size w w' := by
  by_cases hr : RcdOk r
  · have HD := Lib.hid (show decide (RcdOk r) = true from decide_eq_true hr)
    obtain ⟨d, f, k, i, o⟩ := r
    unfold RcdOk at hr
    unfold rAgg
    dsimp only at hr ⊢
    obtain ⟨h1, h2, h3, h4, h5, h6, h7, h8, h9, h10⟩ := hr
    go_enter Try.func34, Try.ntmps34
    go_wp2_with (go_at_call 40; ((with_reducible refine (in_true _ _ _ _ (by omega) (by omega)).mono ?_); rintro e w' ⟨rfl, rfl⟩))
    go_ret
    exact ⟨ret_bool HD.out.symm, (Below.refl _ w).alloc (Nat.le_refl _) _⟩
  · have HD := Lib.hid (show decide (RcdOk r) = false from decide_eq_false hr)
    have hc := not_rcdOk hr
    clear hr
    obtain ⟨d, f, k, i, o⟩ := r
    unfold rAgg
    dsimp only at hc ⊢
    rcases hc with hq | ⟨⟨h1, h2⟩, hq⟩ | ⟨⟨h1, h2⟩, ⟨h3, h4⟩, hq⟩ | ⟨⟨h1, h2⟩, ⟨h3, h4⟩, ⟨h5, h6⟩, hq⟩ | ⟨⟨h1, h2⟩, ⟨h3, h4⟩, ⟨h5, h6⟩, ⟨h7, h8⟩, hq⟩
    all_goals
      have HQ := Lib.hid hq
      clear hq
      go_enter Try.func34, Try.ntmps34
      go_wp2_with (go_at_call 40; (first
        | ((with_reducible refine (in_false _ _ _ _ HQ.out).mono ?_); rintro e w' ⟨rfl, rfl⟩)
        | ((with_reducible refine (in_true _ _ _ _ (by omega) (by omega)).mono ?_); rintro e w' ⟨rfl, rfl⟩)))
      go_ret
      exact ⟨ret_bool HD.out.symm, (Below.refl _ w).alloc (Nat.le_refl _) _⟩
end Go.Proofs.Yteconepbhajjeaa
