/- Contracts of package fades and its reference (layer 27), first part: the gains. -/
import Derived.Test.YteljglhfimhmlaaFixedD
import Derived.Test.YteljglhfimhmlaaPlainFades
namespace Go.Proofs.Yteljglhfimhmlaa
open Go.RowKit

theorem gain_any (i n : Int) (w : World) (hi : I64 i) (hn : I64 n) : Calls Try.prog 37 #[.int .i64 i, .int .i64 n] w fun e w' => e = .returned (.tuple #[.int .i64 (gainR i n).1, .int .i64 (gainR i n).2]) ∧ w = w' := by
  obtain ⟨hi1, hi2⟩ := hi
  obtain ⟨hn1, hn2⟩ := hn
  by_cases h : GainOk i n
  · simp only [gainR, if_pos h]
    obtain ⟨h1, h2, h3⟩ := h
    have hq := IntWalk.tdiv_le ((i + 1) * 65536) (n + 1) (by omega) (by omega)
    have hz : (n + 1 == 0) = false := by simp; omega
    go_enter Try.func37, Try.ntmps37
    go_wp2
    go_ret2
    exact ⟨rfl, rfl⟩
  · simp only [gainR, if_neg h]
    have h' : i < 0 ∨ (0 ≤ i ∧ n ≤ i) ∨ (0 ≤ i ∧ i < n ∧ 16777216 < n) := by unfold GainOk at h; omega
    clear h
    rcases h' with h1 | ⟨h1, h2⟩ | ⟨h1, h2, h3⟩
    all_goals
      go_enter Try.func37, Try.ntmps37
      go_wp2
      go_ret2
      exact ⟨rfl, rfl⟩
end Go.Proofs.Yteljglhfimhmlaa
