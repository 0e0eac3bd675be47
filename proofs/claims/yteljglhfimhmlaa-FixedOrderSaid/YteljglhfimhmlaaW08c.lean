/- The walk of layer 8's law on order. -/
import Derived.Test.YteljglhfimhmlaaSane08
namespace Go.Proofs.Yteljglhfimhmlaa
open Go.RowKit

theorem mulS_mono {a b g : Int} (hg : 0 ≤ g) (h : a ≤ b) : mulS a g ≤ mulS b g := by
  unfold mulS
  have h0 : 0 ≤ clipS g := by rcases clipS_cases g with h | h | h <;> omega
  exact clipS_mono (Int.ediv_le_ediv (by decide) (Int.mul_le_mul_of_nonneg_right (clipS_mono h) h0))
theorem order_core (a b lo hi c g : Int) (w : World) (ha : I64 a) (hb : I64 b) (hc : I64 c)
    (hl : (a < b ∧ lo = a ∧ hi = b) ∨ (b < a ∧ lo = b ∧ hi = a) ∨ (a = b ∧ lo = a ∧ hi = a)) (hg : (0 ≤ c ∧ g = c) ∨ (c < 0 ∧ g = -(c + 1))) :
    Calls Try.prog 9 #[.int .i64 a, .int .i64 b, .int .i64 c] w fun e w' => e = .returned (.bool true) ∧ Below w.heap.size w w' := by
  have hle : lo ≤ hi := by omega
  have hg0 : 0 ≤ g := by omega
  have hlo : I64 lo := by rcases hl with ⟨_, rfl, rfl⟩ | ⟨_, rfl, rfl⟩ | ⟨rfl, rfl, _⟩ <;> assumption
  have hhi : I64 hi := by rcases hl with ⟨_, rfl, rfl⟩ | ⟨_, rfl, rfl⟩ | ⟨rfl, _, rfl⟩ <;> assumption
  have k1 := clipS_mono hle
  have k2 : addS lo c ≤ addS hi c := clipS_mono (by omega)
  have k3 : addS c hi = addS hi c := by unfold addS; rw [Int.add_comm]
  have k4 := mulS_mono hg0 hle
  have C1 := fun w => add_any lo c w hlo hc
  have C2 := fun w => add_any hi c w hhi hc
  have C3 := fun w => add_any c hi w hc hhi
  obtain ⟨hc1, hc2⟩ := hc
  clear hle hlo hhi ha hb
  have hB := Below.refl w.heap.size w
  have D1 := Lib.hid C1
  have D2 := Lib.hid C2
  have D3 := Lib.hid C3
  clear C1 C2 C3
  rcases hl with ⟨h1, rfl, rfl⟩ | ⟨h1, rfl, rfl⟩ | ⟨rfl, rfl, rfl⟩ <;> rcases hg with ⟨h2, rfl⟩ | ⟨h2, rfl⟩
  all_goals
    go_enter Try.func9, Try.ntmps9
    go_wp2_with (first
      | (go_at_call 23; refine (sane08_any _).mono ?_; rintro e w1 ⟨rfl, hb⟩; replace hB := bstep hB hb; clear hb)
      | (go_at_call 24; refine (clip_any _ _).mono ?_; rintro e w1 ⟨rfl, rfl⟩)
      | (go_at_call 28; refine (mul_any _ _ _).mono ?_; rintro e w1 ⟨rfl, rfl⟩)
      | (go_at_call 26; (with_reducible refine (D1.out _).mono ?_); rintro e w1 ⟨rfl, hb⟩; replace hB := bstep hB hb; clear hb)
      | (go_at_call 26; (with_reducible refine (D2.out _).mono ?_); rintro e w1 ⟨rfl, hb⟩; replace hB := bstep hB hb; clear hb)
      | (go_at_call 26; (with_reducible refine (D3.out _).mono ?_); rintro e w1 ⟨rfl, hb⟩; replace hB := bstep hB hb; clear hb))
    go_ret
    exact ⟨rfl, hB⟩
theorem walkFixedOrder (a b c : Int) (w : World) (ha : I64 a) (hb : I64 b) (hc : I64 c) :
    Calls Try.prog 9 #[.int .i64 a, .int .i64 b, .int .i64 c] w fun e w' => e = .returned (.bool true) ∧ Below w.heap.size w w' :=
  order_core a b (if b < a then b else a) (if a < b then b else a) c (if c < 0 then -(c + 1) else c) w ha hb hc (by split <;> split <;> omega) (by split <;> omega)
end Go.Proofs.Yteljglhfimhmlaa
