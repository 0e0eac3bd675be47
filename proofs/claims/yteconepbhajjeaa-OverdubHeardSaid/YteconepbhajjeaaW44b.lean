/- The law OverdubSum: its walk. -/
import Derived.Test.YteconepbhajjeaaSane44b
namespace Go.Proofs.Yteconepbhajjeaa
open Go.RowKit

theorem layR_ok {l : List Spn} {st nn i o : Int} (h : LayOk l st nn i o) : layR l st nn i o = (layS l (st - i - o) nn.toNat, 0) := by unfold layR; rw [if_pos h]
set_option maxHeartbeats 2000000 in
set_option maxRecDepth 100000 in
theorem walkOverdubSum (A : Option Addr) (n c : Nat) (l : List Spn) (st nn i o mo : Int) (w : World) (h : SA spanE w A n c l) (hst : 0 ≤ st ∧ st ≤ 4294967295) (hnn : 0 ≤ nn ∧ nn ≤ 65535) (hi : 0 ≤ i ∧ i ≤ 65535) (ho : 0 ≤ o ∧ o ≤ 65535) (hmo : 0 ≤ mo ∧ mo ≤ 65535) :
    Calls Try.prog 7 #[.slice A n c, .int .u32 st, .int .u16 nn, .int .u16 i, .int .u16 o, .int .u16 mo] w fun e w' => e = .returned (.bool true) ∧ Below w.heap.size w w' := by
  have hlen := h.len
  obtain ⟨s1, s2⟩ := hst
  obtain ⟨n1, n2⟩ := hnn
  obtain ⟨i1, i2⟩ := hi
  obtain ⟨o1, o2⟩ := ho
  obtain ⟨m1, m2⟩ := hmo
  have CS := sane44_any w
  by_cases g1 : (40 : Int) < n
  · go_enter Try.func7, Try.ntmps7
    go_wp2_with (go_at_call 9; (with_reducible refine CS.mono ?_); rintro e w1 ⟨rfl, b1⟩)
    go_ret
    exact ⟨rfl, b1⟩
  · have g1' : (n : Int) ≤ 40 := by omega
    clear g1
    by_cases g2 : 300 < nn
    · go_enter Try.func7, Try.ntmps7
      go_wp2_with (go_at_call 9; (with_reducible refine CS.mono ?_); rintro e w1 ⟨rfl, b1⟩)
      go_ret
      exact ⟨rfl, b1⟩
    · have g2' : nn ≤ 300 := by omega
      clear g2
      have CI := fun (w' : World) (hb : Below w.heap.size w w') => rinOrder_any A n c l w' (h.below hb)
      cases hio : inOrdS l with
      | false =>
        rw [hio] at CI
        have HCI := Lib.hid CI
        clear CI hio
        go_enter Try.func7, Try.ntmps7
        go_wp2_with (first
          | (go_at_call 9; (with_reducible refine CS.mono ?_); rintro e w1 ⟨rfl, b1⟩)
          | (go_at_call 18; (with_reducible refine (HCI.out _ b1).mono ?_); rintro e w2 ⟨rfl, b2⟩))
        go_ret
        exact ⟨rfl, Bel.on0 b1 b2⟩
      | true =>
        have k0 : LayOk l st nn i o := ⟨hio, by omega, by omega, by omega, by omega, by omega, by omega, by omega, by omega⟩
        have k1 : LayOk l st nn o i := ⟨hio, by omega, by omega, by omega, by omega, by omega, by omega, by omega, by omega⟩
        have k2 : LayOk l st nn 0 (i + o) := ⟨hio, by omega, by omega, by omega, by omega, by omega, by omega, by omega, by omega⟩
        have k3 : LayOk l (st + mo) nn (i + mo) o := ⟨hio, by omega, by omega, by omega, by omega, by omega, by omega, by omega, by omega⟩
        have q0 := layR_ok k0
        have q1 := layR_ok k1
        have q2 := layR_ok k2
        have q3 := layR_ok k3
        rw [show st - o - i = st - i - o by omega] at q1
        rw [show st - 0 - (i + o) = st - i - o by omega] at q2
        rw [show st + mo - (i + mo) - o = st - i - o by omega] at q3
        obtain ⟨r, hr⟩ : ∃ r, layS l (st - i - o) nn.toNat = r := ⟨_, rfl⟩
        rw [hr] at q0 q1 q2 q3
        rw [hio] at CI
        have HCI := Lib.hid CI
        have C0 := Lib.hid fun (w' : World) (hb : Below w.heap.size w w') => lay_eqn q0 (h.below hb)
        have C1 := Lib.hid fun (w' : World) (hb : Below w.heap.size w w') => lay_eqn q1 (h.below hb)
        have C2 := Lib.hid fun (w' : World) (hb : Below w.heap.size w w') => lay_eqn q2 (h.below hb)
        have C3 := Lib.hid fun (w' : World) (hb : Below w.heap.size w w') => lay_eqn q3 (h.below hb)
        clear CI hio k0 k1 k2 k3 q0 q1 q2 q3 hr
        go_enter Try.func7, Try.ntmps7
        go_wp2_with (first
          | (go_at_call 9; (with_reducible refine CS.mono ?_); rintro e w1 ⟨rfl, b1⟩)
          | (go_at_call 18; (with_reducible refine (HCI.out _ b1).mono ?_); rintro e w2 ⟨rfl, b2⟩; have hB := Bel.on0 b1 b2; clear b1 b2))
        refine (C0.out _ hB).mono ?_
        rintro e w3 ⟨A0, c0, rfl, h0, b⟩
        replace hB := Bel.on0 hB b
        clear b
        go_wp2_with fail
        refine (C1.out _ hB).mono ?_
        rintro e w4 ⟨A1, c1, rfl, h1, b⟩
        replace hB := Bel.on0 hB b
        replace h0 := h0.below b
        clear b
        go_wp2_with fail
        refine (C2.out _ hB).mono ?_
        rintro e w5 ⟨A2, c2, rfl, h2, b⟩
        replace hB := Bel.on0 hB b
        replace h0 := h0.below b
        replace h1 := h1.below b
        clear b
        go_wp2_with fail
        refine (C3.out _ hB).mono ?_
        rintro e w6 ⟨A3, c3, rfl, h3, b⟩
        replace hB := Bel.on0 hB b
        replace h0 := h0.below b
        replace h1 := h1.below b
        replace h2 := h2.below b
        clear b
        go_wp2_with fail
        refine (rsame_eq h0 h1 rfl).mono ?_
        rintro e w7 ⟨rfl, b⟩
        replace hB := Bel.on0 hB b
        replace h0 := h0.below b
        replace h2 := h2.below b
        replace h3 := h3.below b
        clear b
        go_wp2_with fail
        refine (rsame_eq h0 h2 rfl).mono ?_
        rintro e w8 ⟨rfl, b⟩
        replace hB := Bel.on0 hB b
        replace h0 := h0.below b
        replace h3 := h3.below b
        clear b
        go_wp2_with fail
        refine (rsame_eq h0 h3 rfl).mono ?_
        rintro e w9 ⟨rfl, b⟩
        replace hB := Bel.on0 hB b
        clear b
        go_wp2
        go_ret
        exact ⟨rfl, hB⟩
end Go.Proofs.Yteconepbhajjeaa
