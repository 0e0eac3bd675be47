/- The law OverdubDivide: its walk. -/
import Derived.Test.YteconepbhajjeaaSane44b
import Derived.Test.YteconepbhajjeaaOvI
import Derived.Test.YteconepbhajjeaaW44b
namespace Go.Proofs.Yteconepbhajjeaa
open Go.RowKit

theorem again_at {r : List Rcd} {dev : Int} {l : List Spn} {st n known ri ro rk : Int} {rb : Bool} (hx : atR r dev st known = (ri, ro, rb, rk)) :
    (rk ≠ 0 → againR r dev l st n known = ([], rk)) ∧ (rk = 0 → rb = false → againR r dev l st n known = ([], 251)) ∧ (rk = 0 → rb = true → againR r dev l st n known = layR l st n ri ro) := by
  have h := againR_of (l := l) (n := n) hx
  refine ⟨fun h1 => by rw [h, if_pos h1], fun h1 h2 => by rw [h, if_neg (by omega), if_pos h2], fun h1 h2 => by rw [h, if_neg (by omega), if_neg (by simp [h2])]⟩
theorem at_eqn {A : Option Addr} {n c : Nat} {l : List Rcd} {dev pos known ri ro rk : Int} {rb : Bool} {w : World} (hx : atR l dev pos known = (ri, ro, rb, rk)) (h : SA rcdE w A n c l) :
    Calls Try.prog 20 #[.slice A n c, .int .i64 dev, .int .i64 pos, .int .i64 known] w fun e w' => e = .returned (.tuple #[.int .i64 ri, .int .i64 ro, .bool rb, .int .i64 rk]) ∧ Below w.heap.size w w' := by
  have := at_any A n c l dev pos known w h
  unfold AtRet at this
  rw [hx] at this
  exact this
theorem expand_eqn {A : Option Addr} {n c : Nat} {m : Int} {N : Nat} {x : List Ld} {y : List Int} {w : World} (h : SA laidE w A n c x) (hN : m = N) (hx : ExpOk x N) (hm : N ≤ 16777216) (hy : padTo N (expL x) = y) :
    Calls Try.prog 19 #[.slice A n c, .int .i64 m] w fun e w' => ∃ A' c', e = .returned (.tuple #[.slice A' N c', .bool true]) ∧ SA intE w' A' N c' y ∧ Below w.heap.size w w' := by
  subst hN hy
  exact expand_any A n c N x w h hx hm
set_option maxHeartbeats 4000000 in
set_option maxRecDepth 100000 in
theorem walkOverdubDivide (B : Option Addr) (m d : Nat) (r : List Rcd) (A : Option Addr) (n c : Nat) (l : List Spn) (st nn ct dv kn : Int) (w : World) (hr : SA rcdE w B m d r) (h : SA spanE w A n c l)
    (hst : 0 ≤ st ∧ st ≤ 4294967295) (hnn : 0 ≤ nn ∧ nn ≤ 65535) (hct : 0 ≤ ct ∧ ct ≤ 65535) (hdv : 0 ≤ dv ∧ dv ≤ 255) (hkn : 0 ≤ kn ∧ kn ≤ 255) :
    Calls Try.prog 8 #[.slice B m d, .slice A n c, .int .u32 st, .int .u16 nn, .int .u16 ct, .int .u8 dv, .int .u8 kn] w fun e w' => e = .returned (.bool true) ∧ Below w.heap.size w w' := by
  have hlen := h.len
  have hlen2 := hr.len
  obtain ⟨s1, s2⟩ := hst
  obtain ⟨n1, n2⟩ := hnn
  obtain ⟨c1, c2⟩ := hct
  obtain ⟨d1, d2⟩ := hdv
  obtain ⟨k1, k2⟩ := hkn
  have CS := sane44_any w
  have hcase : (40 : Int) < m ∨ ((m : Int) ≤ 40 ∧ (40 : Int) < n) ∨ ((m : Int) ≤ 40 ∧ (n : Int) ≤ 40 ∧ 300 < nn) ∨ ((m : Int) ≤ 40 ∧ (n : Int) ≤ 40 ∧ nn ≤ 300) := by omega
  rcases hcase with g1 | ⟨g1, g2⟩ | ⟨g1, g2, g3⟩ | ⟨g1, g2, g3⟩
  · go_enter Try.func8, Try.ntmps8
    go_wp2_with (go_at_call 9; (with_reducible refine CS.mono ?_); rintro e w1 ⟨rfl, b1⟩)
    go_ret
    exact ⟨rfl, b1⟩
  · go_enter Try.func8, Try.ntmps8
    go_wp2_with (go_at_call 9; (with_reducible refine CS.mono ?_); rintro e w1 ⟨rfl, b1⟩)
    go_ret
    exact ⟨rfl, b1⟩
  · go_enter Try.func8, Try.ntmps8
    go_wp2_with (go_at_call 9; (with_reducible refine CS.mono ?_); rintro e w1 ⟨rfl, b1⟩)
    go_ret
    exact ⟨rfl, b1⟩
  · have CI := fun (w' : World) (hb : Below w.heap.size w w') => rinOrder_any A n c l w' (h.below hb)
    cases hio : inOrdS l with
    | false =>
      rw [hio] at CI
      have HCI := Lib.hid CI
      clear CI hio
      go_enter Try.func8, Try.ntmps8
      go_wp2_with (first
        | (go_at_call 9; (with_reducible refine CS.mono ?_); rintro e w1 ⟨rfl, b1⟩)
        | (go_at_call 18; (with_reducible refine (HCI.out _ b1).mono ?_); rintro e w2 ⟨rfl, b2⟩))
      go_ret
      exact ⟨rfl, Bel.on0 b1 b2⟩
    | true =>
      rw [hio] at CI
      have HCI := Lib.hid CI
      obtain ⟨⟨ai, ao, ab, ak⟩, hat⟩ : ∃ x, atR r (dv % 16) st kn = x := ⟨_, rfl⟩
      obtain ⟨q1, q2, q3⟩ := again_at (l := l) (n := nn) hat
      have CA := Lib.hid fun (w' : World) (hb : Below w.heap.size w w') => at_eqn hat (hr.below hb)
      clear CI
      by_cases hak : ak = 0
      · subst hak
        cases ab with
        | false =>
          have CG := Lib.hid fun (w' : World) (hb : Below w.heap.size w w') => again_eqn (q2 rfl rfl) (hr.below hb) (h.below hb)
          clear q1 q2 q3 hat hio
          go_enter Try.func8, Try.ntmps8
          go_wp2_with (first
            | (go_at_call 9; (with_reducible refine CS.mono ?_); rintro e w1 ⟨rfl, b1⟩)
            | (go_at_call 18; (with_reducible refine (HCI.out _ b1).mono ?_); rintro e w2 ⟨rfl, b2⟩; have hB := Bel.on0 b1 b2; clear b1 b2)
            | (go_at_call 20; (with_reducible refine (CA.out _ hB).mono ?_); rintro e w3 ⟨rfl, b3⟩; have hB3 := Bel.on0 hB b3; clear b3)
            | (go_at_call 13; (with_reducible refine (CG.out _ hB3).mono ?_); rintro e w4 ⟨A4, c4, rfl, _, b4⟩; dsimp only [List.length_nil]; have hB4 := Bel.on0 hB3 b4; clear b4))
          go_ret
          exact ⟨rfl, hB4⟩
        | true =>
          obtain ⟨t1, t2, t3, t4⟩ := atR_bounds hat
          have k0 : LayOk l st nn ai ao := ⟨hio, by omega, by omega, by omega, by omega, by omega, by omega, by omega, by omega⟩
          have ql := layR_ok k0
          have qa := q3 rfl rfl
          rw [ql] at qa
          obtain ⟨N, hN⟩ : ∃ N : Nat, nn = N := ⟨nn.toNat, by omega⟩
          obtain ⟨kk, hkk⟩ : ∃ kk : Nat, ct % (nn + 1) = kk := ⟨(ct % (nn + 1)).toNat, by have := Int.emod_nonneg ct (show nn + 1 ≠ 0 by omega); omega⟩
          have hkN : kk ≤ N := by have := Int.emod_lt_of_pos ct (show 0 < nn + 1 by omega); omega
          obtain ⟨j, hj⟩ : ∃ j : Nat, nn - (kk : Int) = j := ⟨N - kk, by omega⟩
          have hjN : j = N - kk := by omega
          have kA : LayOk l st kk ai ao := ⟨hio, by omega, by omega, by omega, by omega, by omega, by omega, by omega, by omega⟩
          have kB : LayOk l (st + kk) j ai ao := ⟨hio, by omega, by omega, by omega, by omega, by omega, by omega, by omega, by omega⟩
          have qA := layR_ok kA
          have qB := layR_ok kB
          rw [show st + (kk : Int) - ai - ao = st - ai - ao + kk by omega] at qB
          have hNt : nn.toNat = N := by omega
          rw [hNt] at ql qa
          rw [Int.toNat_natCast] at qA qB
          obtain ⟨hh, hhe⟩ : ∃ hh, st - ai - ao = hh := ⟨_, rfl⟩
          rw [hhe] at ql qa qA qB
          have e0 := lay_expOk (h := hh) (n := N) hio
          have e1 := lay_expOk (h := hh) (n := kk) hio
          have e2 := lay_expOk (h := hh + kk) (n := j) hio
          have hdiv := exp_divide (l := l) (h := hh) (n := N) (k := kk) (ordL_ordered (by unfold inOrdS at hio; rw [Bool.and_eq_true] at hio; exact hio.1)) hkN
          rw [← hjN] at hdiv
          obtain ⟨y1, hy1⟩ : ∃ y, padTo kk (expL (layS l hh kk)) = y := ⟨_, rfl⟩
          obtain ⟨y2, hy2⟩ : ∃ y, padTo j (expL (layS l (hh + kk) j)) = y := ⟨_, rfl⟩
          rw [hy1, hy2] at hdiv
          have CG := Lib.hid fun (w' : World) (hb : Below w.heap.size w w') => again_eqn qa (hr.below hb) (h.below hb)
          have C0 := Lib.hid fun (w' : World) (hb : Below w.heap.size w w') => lay_eqn ql (h.below hb)
          have C1 := Lib.hid fun (w' : World) (hb : Below w.heap.size w w') => lay_eqn qA (h.below hb)
          have C2 := Lib.hid fun (w' : World) (hb : Below w.heap.size w w') => lay_eqn qB (h.below hb)
          have X0 := Lib.hid fun (A : Option Addr) (c : Nat) (w' : World) (hs : SA laidE w' A (layS l hh N).length c (layS l hh N)) => expand_eqn (N := N) (m := nn) hs hN e0 (by omega) hdiv
          have X1 := Lib.hid fun (A : Option Addr) (c : Nat) (w' : World) (hs : SA laidE w' A (layS l hh kk).length c (layS l hh kk)) => expand_eqn (N := kk) (m := (kk : Int)) hs rfl e1 (by omega) hy1
          have X2 := Lib.hid fun (A : Option Addr) (c : Nat) (w' : World) (hs : SA laidE w' A (layS l (hh + kk) j).length c (layS l (hh + kk) j)) => expand_eqn (N := j) (m := (j : Int)) hs rfl e2 (by omega) hy2
          obtain ⟨x0, hx0⟩ : ∃ x, layS l hh N = x := ⟨_, rfl⟩
          obtain ⟨x1, hx1⟩ : ∃ x, layS l hh kk = x := ⟨_, rfl⟩
          obtain ⟨x2, hx2⟩ : ∃ x, layS l (hh + kk) j = x := ⟨_, rfl⟩
          rw [hx0] at CG C0 X0
          rw [hx1] at C1 X1
          rw [hx2] at C2 X2
          have z1 : 0 ≤ st + (kk : Int) := by omega
          have z2 : (kk : Int) ≤ 300 := by omega
          have z3 : (j : Int) ≤ 300 := by omega
          clear q1 q2 q3 ql qa qA qB hat hio k0 kA kB e0 e1 e2 hdiv hx0 hx1 hx2 hy1 hy2 hhe hNt hjN hN
          go_enter Try.func8, Try.ntmps8
          go_wp2_with (first
            | (go_at_call 9; (with_reducible refine CS.mono ?_); rintro e w1 ⟨rfl, b1⟩)
            | (go_at_call 18; (with_reducible refine (HCI.out _ b1).mono ?_); rintro e w2 ⟨rfl, b2⟩; have hB := Bel.on0 b1 b2; clear b1 b2)
            | (go_at_call 20; (with_reducible refine (CA.out _ hB).mono ?_); rintro e w3 ⟨rfl, b3⟩; have hB3 := Bel.on0 hB b3; clear b3))
          refine (CG.out _ hB3).mono ?_
          rintro e w4 ⟨A4, c4, rfl, h4, b⟩
          replace hB := Bel.on0 hB3 b
          clear b hB3
          go_wp2_with fail
          refine (C0.out _ hB).mono ?_
          rintro e w5 ⟨A5, c5, rfl, h5, b⟩
          replace hB := Bel.on0 hB b
          replace h4 := h4.below b
          clear b
          go_wp2_with fail
          refine (rsame_eq h5 h4 rfl).mono ?_
          rintro e w6 ⟨rfl, b⟩
          replace hB := Bel.on0 hB b
          replace h5 := h5.below b
          clear b h4
          go_wp2_with fail
          refine (C1.out _ hB).mono ?_
          rintro e w7 ⟨A7, c7, rfl, h7, b⟩
          replace hB := Bel.on0 hB b
          replace h5 := h5.below b
          clear b
          go_wp2_with fail
          refine (C2.out _ hB).mono ?_
          rintro e w8 ⟨A8, c8, rfl, h8, b⟩
          replace hB := Bel.on0 hB b
          replace h5 := h5.below b
          replace h7 := h7.below b
          clear b
          go_wp2_with fail
          refine (X0.out _ _ _ h5).mono ?_
          rintro e w9 ⟨A9, c9, rfl, h9, b⟩
          replace hB := Bel.on0 hB b
          replace h7 := h7.below b
          replace h8 := h8.below b
          clear b h5
          go_wp2_with fail
          refine (X1.out _ _ _ h7).mono ?_
          rintro e w10 ⟨A10, c10, rfl, h10, b⟩
          replace hB := Bel.on0 hB b
          replace h8 := h8.below b
          replace h9 := h9.below b
          clear b h7
          go_wp2_with fail
          refine (X2.out _ _ _ h8).mono ?_
          rintro e w11 ⟨A11, c11, rfl, h11, b⟩
          replace hB := Bel.on0 hB b
          replace h9 := h9.below b
          replace h10 := h10.below b
          clear b h8
          have o0 := OA.litL (e := intE) (B := w11.heap.size) (l := []) (n := 0) (cs := #[]) w11 (Nat.le_refl _) rfl rfl (by omega)
          have r10 := h10.alloc (.cells #[] 3)
          obtain ⟨A12, c12, w12, eA, o1, b12, _⟩ := o0.app r10 (by simp) (by omega)
          rw [Nat.zero_add] at eA o1
          have bb := ((Below.refl w11.heap.size w11).alloc (Nat.le_refl _) (.cells #[] 3)).trans b12
          obtain ⟨A13, c13, w13, eB, o2, b13, _⟩ := o1.app (h11.below bb) bb.size (by omega)
          have bb2 := bb.trans b13
          have HP := Lib.hid (h9.below bb2)
          have HO := Lib.hid o2.sa
          have HB := Lib.hid (Bel.on0 hB bb2)
          clear o0 r10 o1 b12 bb o2 b13 bb2 h9 h10 h11 hB
          go_wp2_with (first
            | (refine wpList_append_eqW (by first | rfl | simp [Region.wanted, yielded]) (.tmp 194) (.tmp 195) _ rfl rfl rfl eA ?_; clear eA)
            | (refine wpList_append_eqW (by first | rfl | simp [Region.wanted, yielded]) (.tmp 196) (.tmp 197) _ rfl rfl rfl eB ?_; clear eB))
          refine (lsame_eq HP.out HO.out rfl).mono ?_
          rintro e w14 ⟨rfl, b14⟩
          have hB := Bel.on0 HB.out b14
          go_wp2
          go_ret
          exact ⟨rfl, hB⟩
      · have CG := Lib.hid fun (w' : World) (hb : Below w.heap.size w w') => again_eqn (q1 hak) (hr.below hb) (h.below hb)
        have hak1 : (ak != 0) = true := by simpa using hak
        clear q1 q2 q3 hat hio hak
        go_enter Try.func8, Try.ntmps8
        go_wp2_with (first
          | (go_at_call 9; (with_reducible refine CS.mono ?_); rintro e w1 ⟨rfl, b1⟩)
          | (go_at_call 18; (with_reducible refine (HCI.out _ b1).mono ?_); rintro e w2 ⟨rfl, b2⟩; have hB := Bel.on0 b1 b2; clear b1 b2)
          | (go_at_call 20; (with_reducible refine (CA.out _ hB).mono ?_); rintro e w3 ⟨rfl, b3⟩; have hB3 := Bel.on0 hB b3; clear b3)
          | (go_at_call 13; (with_reducible refine (CG.out _ hB3).mono ?_); rintro e w4 ⟨A4, c4, rfl, _, b4⟩; dsimp only [List.length_nil]; have hB4 := Bel.on0 hB3 b4; clear b4))
        go_ret
        exact ⟨rfl, hB4⟩
end Go.Proofs.Yteconepbhajjeaa
