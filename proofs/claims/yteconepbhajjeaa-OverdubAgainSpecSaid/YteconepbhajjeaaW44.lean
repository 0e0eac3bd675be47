/- The laws of layer 44 that compare with the reference: their walks. -/
import Derived.Test.YteconepbhajjeaaSane44b
namespace Go.Proofs.Yteconepbhajjeaa
open Go.RowKit

set_option maxHeartbeats 1000000 in
theorem walkOverdubSpec (A : Option Addr) (n c : Nat) (l : List Spn) (st nn i o : Int) (w : World) (h : SA spanE w A n c l) (_ : I64 st) (_ : I64 nn) (_ : I64 i) (_ : I64 o) :
    Calls Try.prog 3 #[.slice A n c, .int .i64 st, .int .i64 nn, .int .i64 i, .int .i64 o] w fun e w' => e = .returned (.bool true) ∧ Below w.heap.size w w' := by
  have hlen := h.len
  have CS := sane44_any w
  have hcase : (40 : Int) < n ∨ ((n : Int) ≤ 40 ∧ 300 < nn ∧ nn ≤ 16777216) ∨ ((n : Int) ≤ 40 ∧ (nn ≤ 300)) ∨ ((n : Int) ≤ 40 ∧ 300 < nn ∧ 16777216 < nn) := by omega
  obtain ⟨⟨r, k⟩, hr⟩ : ∃ x, layR l st nn i o = x := ⟨_, rfl⟩
  have C1 := Lib.hid fun (w' : World) (hb : Below w.heap.size w w') => lay_eqn hr (h.below hb)
  have C2 := Lib.hid fun (w' : World) (hb : Below w.heap.size w w') => rlay_eqn hr (h.below hb)
  clear hr
  rcases hcase with g1 | ⟨g1, g2, g3⟩ | ⟨g1, g2⟩ | ⟨g1, g2, g3⟩
  · go_enter Try.func3, Try.ntmps3
    go_wp2_with (go_at_call 9; (with_reducible refine CS.mono ?_); rintro e w1 ⟨rfl, b1⟩)
    go_ret
    exact ⟨rfl, b1⟩
  · go_enter Try.func3, Try.ntmps3
    go_wp2_with (go_at_call 9; (with_reducible refine CS.mono ?_); rintro e w1 ⟨rfl, b1⟩)
    go_ret
    exact ⟨rfl, b1⟩
  all_goals
    go_enter Try.func3, Try.ntmps3
    go_wp2_with (first
      | (go_at_call 9; (with_reducible refine CS.mono ?_); rintro e w1 ⟨rfl, b1⟩)
      | (go_at_call 10; (with_reducible refine (C1.out _ b1).mono ?_); rintro e w2 ⟨A1, c1, rfl, h1, b2⟩; have hB2 := Bel.on0 b1 b2)
      | (go_at_call 11; (with_reducible refine (C2.out _ hB2).mono ?_); rintro e w3 ⟨A2, c2, rfl, h2, b3⟩; have hB3 := Bel.on0 hB2 b3; have h1' := h1.below b3; have H1 := Lib.hid h1'; have H2 := Lib.hid h2; clear h1 h2 h1')
      | (go_at_call 12; (with_reducible refine (rsame_eq H1.out H2.out rfl).mono ?_); rintro e w4 ⟨rfl, b4⟩; have hB4 := Bel.on0 hB3 b4))
    go_ret
    exact ⟨rfl, hB4⟩
set_option maxHeartbeats 1000000 in
theorem walkOverdubAgainSpec (B : Option Addr) (m d : Nat) (r : List Rcd) (dev : Int) (A : Option Addr) (n c : Nat) (l : List Spn) (st nn known : Int) (w : World) (hr : SA rcdE w B m d r) (_ : I64 dev) (h : SA spanE w A n c l) (_ : I64 st) (_ : I64 nn) (_ : I64 known) :
    Calls Try.prog 4 #[.slice B m d, .int .i64 dev, .slice A n c, .int .i64 st, .int .i64 nn, .int .i64 known] w fun e w' => e = .returned (.bool true) ∧ Below w.heap.size w w' := by
  have hlen := h.len
  have hlen2 := hr.len
  have CS := sane44_any w
  have hcase : (40 : Int) < m ∨ ((m : Int) ≤ 40 ∧ (40 : Int) < n) ∨ ((m : Int) ≤ 40 ∧ (n : Int) ≤ 40 ∧ 300 < nn ∧ nn ≤ 16777216) ∨ ((m : Int) ≤ 40 ∧ (n : Int) ≤ 40 ∧ (nn ≤ 300)) ∨ ((m : Int) ≤ 40 ∧ (n : Int) ≤ 40 ∧ 300 < nn ∧ 16777216 < nn) := by omega
  obtain ⟨⟨x, k⟩, hx⟩ : ∃ x, againR r dev l st nn known = x := ⟨_, rfl⟩
  have C1 := Lib.hid fun (w' : World) (hb : Below w.heap.size w w') => again_eqn hx (hr.below hb) (h.below hb)
  have C2 := Lib.hid fun (w' : World) (hb : Below w.heap.size w w') => ragain_eqn hx (hr.below hb) (h.below hb)
  clear hx
  rcases hcase with g1 | ⟨g1, g2⟩ | ⟨g1, g2, g3, g4⟩ | ⟨g1, g2, g3⟩ | ⟨g1, g2, g3, g4⟩
  · go_enter Try.func4, Try.ntmps4
    go_wp2_with (go_at_call 9; (with_reducible refine CS.mono ?_); rintro e w1 ⟨rfl, b1⟩)
    go_ret
    exact ⟨rfl, b1⟩
  · go_enter Try.func4, Try.ntmps4
    go_wp2_with (go_at_call 9; (with_reducible refine CS.mono ?_); rintro e w1 ⟨rfl, b1⟩)
    go_ret
    exact ⟨rfl, b1⟩
  · go_enter Try.func4, Try.ntmps4
    go_wp2_with (go_at_call 9; (with_reducible refine CS.mono ?_); rintro e w1 ⟨rfl, b1⟩)
    go_ret
    exact ⟨rfl, b1⟩
  all_goals
    go_enter Try.func4, Try.ntmps4
    go_wp2_with (first
      | (go_at_call 9; (with_reducible refine CS.mono ?_); rintro e w1 ⟨rfl, b1⟩)
      | (go_at_call 13; (with_reducible refine (C1.out _ b1).mono ?_); rintro e w2 ⟨A1, c1, rfl, h1, b2⟩; have hB2 := Bel.on0 b1 b2)
      | (go_at_call 14; (with_reducible refine (C2.out _ hB2).mono ?_); rintro e w3 ⟨A2, c2, rfl, h2, b3⟩; have hB3 := Bel.on0 hB2 b3; have h1' := h1.below b3; have H1 := Lib.hid h1'; have H2 := Lib.hid h2; clear h1 h2 h1')
      | (go_at_call 12; (with_reducible refine (rsame_eq H1.out H2.out rfl).mono ?_); rintro e w4 ⟨rfl, b4⟩; have hB4 := Bel.on0 hB3 b4))
    go_ret
    exact ⟨rfl, hB4⟩
end Go.Proofs.Yteconepbhajjeaa
