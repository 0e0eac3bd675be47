/- The law OverdubHeard: its walk. -/
import Derived.Test.YteconepbhajjeaaSane44b
import Derived.Test.YteconepbhajjeaaOvI
import Derived.Test.YteconepbhajjeaaW44c
namespace Go.Proofs.Yteconepbhajjeaa
open Go.RowKit

theorem heardS_append (l1 l2 : List Spn) (a : Int) (h : ∀ s ∈ l1, ¬ (on s = true ∧ s.eng ≤ a ∧ a < s.eng + s.len)) : heardS (l1 ++ l2) a = heardS l2 a := by
  induction l1 with
  | nil => rfl
  | cons s l1 ih =>
    rw [List.cons_append, heardS_skip (h s (List.mem_cons_self ..))]
    exact ih (fun t ht => h t (List.mem_cons_of_mem _ ht))
theorem heardS_miss (l : List Spn) (s : Spn) (a : Int) (h : ¬ (on s = true ∧ s.eng ≤ a ∧ a < s.eng + s.len)) : heardS (l ++ [s]) a = heardS l a := by
  induction l with
  | nil => rw [List.nil_append, heardS_skip h]
  | cons t l ih =>
    rw [List.cons_append]
    by_cases ht : on t = true ∧ t.eng ≤ a ∧ a < t.eng + t.len
    · rw [heardS_hit ht, heardS_hit ht]
    · rw [heardS_skip ht, heardS_skip ht, ih]
theorem heard_take {l : List Spn} {j : Nat} {s : Spn} {a : Int} (ho : OrdTo l l.length) (hs : l[j]? = some s) :
    heardS (l.take (j + 1)) a = if on s = true ∧ s.eng ≤ a ∧ a < s.eng + s.len then s.song + a - s.eng else heardS (l.take j) a := by
  have hj := (List.getElem?_eq_some_iff.1 hs).1
  have e : l.take (j + 1) = l.take j ++ [s] := by rw [List.take_add_one, hs]; rfl
  rw [e]
  by_cases h : on s = true ∧ s.eng ≤ a ∧ a < s.eng + s.len
  · rw [if_pos h, heardS_append, heardS_hit h]
    intro t ht hc
    obtain ⟨i, hi, rfl⟩ := List.getElem_of_mem ht
    rw [List.length_take] at hi
    rw [List.getElem_take] at hc
    have hij : i < j := by omega
    have hti : l[i]? = some (l[i]'(by omega)) := List.getElem?_eq_getElem (by omega)
    -- the end of span i is not behind the beginning of span j
    have h1 := (ho j s hj hs).1
    obtain ⟨d, rfl⟩ : ∃ d, j = i + d + 1 := ⟨j - i - 1, by omega⟩
    have h2 := ends_mono ho d (j := i) (s := l[i]'(by omega)) (t := l[i + d]'(by omega)) (by omega) hti (List.getElem?_eq_getElem (by omega))
    rw [endAt_succ (List.getElem?_eq_getElem (show i + d < l.length by omega))] at h1
    unfold endOf at h2
    omega
  · rw [if_neg h, heardS_miss _ _ _ h]
set_option maxHeartbeats 8000000 in
set_option maxRecDepth 100000 in
theorem walkOverdubHeard (A : Option Addr) (n c : Nat) (l : List Spn) (st nn i o : Int) (w : World) (h : SA spanE w A n c l) (_ : I64 st) (_ : I64 nn) (_ : I64 i) (_ : I64 o) :
    Calls Try.prog 6 #[.slice A n c, .int .i64 st, .int .i64 nn, .int .i64 i, .int .i64 o] w fun e w' => e = .returned (.bool true) ∧ Below w.heap.size w w' := by
  have hlen := h.len
  have CS := sane44_any w
  by_cases g1 : (40 : Int) < n
  · go_enter Try.func6, Try.ntmps6
    go_wp2_with (go_at_call 9; (with_reducible refine CS.mono ?_); rintro e w1 ⟨rfl, b1⟩)
    go_ret
    exact ⟨rfl, b1⟩
  have g1' : (n : Int) ≤ 40 := by omega
  clear g1
  by_cases g2 : 300 < nn
  · go_enter Try.func6, Try.ntmps6
    go_wp2_with (go_at_call 9; (with_reducible refine CS.mono ?_); rintro e w1 ⟨rfl, b1⟩)
    go_ret
    exact ⟨rfl, b1⟩
  have g2' : nn ≤ 300 := by omega
  clear g2
  by_cases hk : LayOk l st nn i o
  · obtain ⟨N, rfl⟩ : ∃ N : Nat, nn = N := ⟨nn.toNat, by have := hk.2.2.2.1; omega⟩
    have ql := layR_ok hk
    rw [Int.toNat_natCast] at ql
    obtain ⟨k1, k2, k3, k4, k5, k6, k7, k8, k9⟩ := hk
    obtain ⟨ho, hn5⟩ := ordTo_of k1
    have hord : Ordered 0 l := ordL_ordered (by unfold inOrdS at k1; rw [Bool.and_eq_true] at k1; exact k1.1)
    have e0 := lay_expOk (h := st - i - o) (n := N) k1
    have hexp := (lay_exp (h := st - i - o) (n := N) hord).1
    have hadj := adj_lay (h := st - i - o) (n := N) hord
    have hbd := layRuns_ok (m := N) (runsS l (st - i - o) N) (fun r hr => runs_ok ho r hr)
    have hrl := runs_len l (st - i - o) N
    have C0 := Lib.hid fun (w' : World) (hb : Below w.heap.size w w') => lay_eqn ql (h.below hb)
    have X0 := Lib.hid fun (A : Option Addr) (c : Nat) (w' : World) (hs : SA laidE w' A (layS l (st - i - o) N).length c (layS l (st - i - o) N)) => expand_eqn (N := N) (m := (N : Int)) hs rfl e0 (by omega) hexp
    change ∀ b ∈ layS l (st - i - o) N, LdOk N (runsS l (st - i - o) N).length b at hbd
    obtain ⟨x, hx⟩ : ∃ x, layS l (st - i - o) N = x := ⟨_, rfl⟩
    rw [hx] at C0 X0 hadj hbd
    have HO := Lib.hid ho
    have HADJ := Lib.hid hadj
    have HBD := Lib.hid hbd
    have hHL := Lib.hid h.n_eq
    have hrl' : (runsS l (st - i - o) N).length ≤ 40 := by have := h.n_eq; omega
    obtain ⟨M, hM⟩ : ∃ M, (runsS l (st - i - o) N).length = M := ⟨_, rfl⟩
    rw [hM] at HBD hrl'
    have HH := Lib.hid h
    clear ql ho hord e0 hexp hadj hbd hrl k1 hx h hM
    go_enter Try.func6, Try.ntmps6
    go_wp2_with (go_at_call 9; (with_reducible refine CS.mono ?_); rintro e w1 ⟨rfl, b1⟩)
    refine (C0.out _ b1).mono ?_
    rintro e w2 ⟨A2, c2, rfl, h2, b⟩
    have hB := Bel.on0 b1 b
    clear b b1
    go_wp2_with fail
    refine (X0.out _ _ _ h2).mono ?_
    rintro e w3 ⟨A3, c3, rfl, h3, b⟩
    replace hB := Bel.on0 hB b
    replace h2 := h2.below b
    clear b
    have H2 := Lib.hid h2
    have H3 := Lib.hid h3
    have HB := Lib.hid hB
    have hx2 := h2.len
    clear h2 h3 hB C0 X0 CS
    go_wp2
    go_loopw [95] (fun v wr => ∃ k : Nat, k ≤ N ∧ v = .int .i64 k ∧ Hid (Below w3.heap.size w3 wr)) (fun v _ => N - (intOf v).toNat)
    case atStart => exact ⟨0, Nat.zero_le _, rfl, Lib.hid (Below.refl _ _)⟩
    case round =>
      obtain ⟨k, hkN, rfl, HBr⟩ := hrel
      by_cases hlt : k < N
      · obtain ⟨bb, oo, rfl, _, ck⟩ := int_at (H3.out.below HBr.out) (k := k) (s := heardS l (st - i - o + k)) (by simpa using hlt) (by simp)
        obtain ⟨T, hT⟩ : ∃ T, heardS l (st - i - o + k) = T := ⟨_, rfl⟩
        rw [hT] at ck
        have HT := Lib.hid hT
        clear hT
        obtain ⟨a, ha⟩ : ∃ a, st + (k : Int) - i - o = a := ⟨_, rfl⟩
        have ha1 : -4398046511104 ≤ a := by omega
        have ha2 : a ≤ 4398046511104 := by omega
        have HA := Lib.hid ha
        obtain ⟨wo, hwo⟩ : ∃ wo : World, wo = wr := ⟨_, rfl⟩
        subst hwo
        go_wp2
        go_loopw [109, 18] (fun v u wr => ∃ j : Nat, j ≤ n ∧ v = .int .i64 j ∧ u = .int .i64 (heardS (l.take j) a) ∧ Hid (Below w3.heap.size w3 wr)) (fun v _ _ => n - (intOf v).toNat)
        case atStart => exact ⟨0, Nat.zero_le _, rfl, rfl, HBr⟩
        case round =>
          obtain ⟨j, hjn, rfl, rfl, HBi⟩ := hrel
          by_cases hjl : j < n
          · have hkl : j < l.length := by rw [hHL.out]; exact hjl
            obtain ⟨s, hs⟩ : ∃ s, l[j] = s := ⟨_, rfl⟩
            have hs' : l[j]? = some s := by rw [List.getElem?_eq_getElem hkl, hs]
            obtain ⟨b1, b2, b3, b4, b5, b6⟩ := ord_bounds HO.out hkl hs'
            obtain ⟨b, o', hAe, hb, c0, c1, c2, c3, c4⟩ := span_at ((HH.out.below HB.out).below HBi.out) hkl hs
            have hst := heard_take (a := a) HO.out hs'
            have HBn := Lib.hid (HBi.out.alloc HBi.out.size (.cells #[.int .i64 s.eng, .int .i64 s.len, .int .i64 s.song, .bool s.roll, .bool s.rcd] 50))
            obtain ⟨P, hP⟩ : ∃ P, heardS (l.take j) a = P := ⟨_, rfl⟩
            rw [hP] at hst ⊢
            have HST := Lib.hid hst
            have HP := Lib.hid hP
            subst hAe
            clear hs hs' hst hP ha
            obtain ⟨sE, sL, sS, sR, sC⟩ := s
            dsimp only at b1 b2 b3 b4 b5 b6 c0 c1 c2 c3 c4
            by_cases hh : on ⟨sE, sL, sS, sR, sC⟩ = true ∧ sE ≤ a ∧ a < sE + sL
            · have HN := Lib.hid (show heardS (l.take (j + 1)) a = sS + a - sE by rw [HST.out, if_pos hh])
              obtain ⟨p1, p2, p3⟩ := hh
              simp only [on, Bool.and_eq_true] at p1
              obtain ⟨rfl, rfl⟩ := p1
              have p4 : a - sE < sL := by omega
              go_wp2
              exact ⟨⟨j + 1, by omega, by simp, by rw [HN.out], HBn⟩, by simp only [intOf]; omega⟩
            · have HN := Lib.hid (show heardS (l.take (j + 1)) a = P by rw [HST.out, if_neg hh])
              have hc : a < sE ∨ (sE ≤ a ∧ sL ≤ a - sE) ∨ (sE ≤ a ∧ a - sE < sL ∧ sR = false) ∨ (sE ≤ a ∧ a - sE < sL ∧ sR = true ∧ sC = false) := by
                cases sR <;> cases sC <;> simp [on] at hh ⊢ <;> omega
              clear hh
              rcases hc with q1 | ⟨q1, q2⟩ | ⟨q1, q2, rfl⟩ | ⟨q1, q2, rfl, rfl⟩
              all_goals
                go_wp2
                exact ⟨⟨j + 1, by omega, by simp, by rw [HN.out], HBn⟩, by simp only [intOf]; omega⟩
          · obtain rfl : j = n := by omega
            have HW := Lib.hid (show heardS (l.take j) a = T by
              rw [List.take_of_length_le (by rw [hHL.out]; omega), ← HT.out, ← HA.out]
              congr 1
              omega)
            rw [HW.out]
            clear ha
            go_wp2
            exact ⟨⟨k + 1, by omega, by simp, HBi⟩, by simp only [intOf]; omega⟩
      · obtain rfl : k = N := by omega
        go_wp2
        go_loopw [148] (fun v wr => ∃ j : Nat, j ≤ x.length ∧ v = .int .i64 j ∧ Hid (Below w3.heap.size w3 wr)) (fun v _ => x.length - (intOf v).toNat)
        case atStart => exact ⟨0, Nat.zero_le _, rfl, HBr⟩
        case round =>
          obtain ⟨j, hjn, rfl, HBi⟩ := hrel
          by_cases hjl : j < x.length
          · obtain ⟨y, hy⟩ : ∃ y, x[j] = y := ⟨_, rfl⟩
            have hy' : x[j]? = some y := by rw [List.getElem?_eq_getElem hjl, hy]
            obtain ⟨b, o', rfl, hb, c0, c1, c2, c3⟩ := laid_at (H2.out.below HBi.out) hjl hy
            have hadj := HADJ.out j y hy'
            have hyb := HBD.out y (List.mem_of_getElem? hy')
            unfold LdOk at hyb
            clear hy hy'
            obtain ⟨yf, yl, ya, yp⟩ := y
            dsimp only at c0 c1 c2 c3 hyb
            obtain ⟨y1, y2, y3, y4, y5, y6, y7⟩ := hyb
            have HBn := Lib.hid (HBi.out.alloc HBi.out.size (.cells #[.int .i64 yf, .int .i64 yl, .int .i64 ya, .int .i64 yp] 52))
            by_cases hj0 : j = 0
            · subst hj0
              simp only [Nat.zero_mul, Nat.add_zero] at c0 c1 c2 c3
              rw [if_pos rfl] at hadj
              obtain ⟨_, _, _, hp⟩ := hadj
              dsimp only at hp
              subst hp
              go_wp2
              exact ⟨⟨1, by omega, by simp, HBn⟩, by simp only [intOf]; omega⟩
            · obtain ⟨p, rfl⟩ : ∃ p, j = p + 1 := ⟨j - 1, by omega⟩
              have hpl : p < x.length := by omega
              obtain ⟨z, hz⟩ : ∃ z, x[p] = z := ⟨_, rfl⟩
              have hz' : x[p]? = some z := by rw [List.getElem?_eq_getElem hpl, hz]
              rw [if_neg (by omega), Nat.add_sub_cancel, hz'] at hadj
              obtain ⟨b', o2, e', _, d0, d1, d2, d3⟩ := laid_at (H2.out.below HBi.out) hpl hz
              injection e' with e'
              injection e' with e5 e6 _
              subst e5 e6
              have hzb := HBD.out z (List.mem_of_getElem? hz')
              unfold LdOk at hzb
              clear hz hz'
              obtain ⟨zf, zl, za, zp⟩ := z
              obtain ⟨_, _, _, a1, a2, a3⟩ := hadj
              dsimp only at d0 d1 d2 d3 hzb a1 a2 a3
              obtain ⟨z1, z2, z3, z4, z5, z6, z7⟩ := hzb
              have HBm := Lib.hid (HBn.out.alloc HBn.out.size (.cells #[.int .i64 zf, .int .i64 zl, .int .i64 za, .int .i64 zp] 52))
              have u0 := cell_al d0 (.cells #[.int .i64 yf, .int .i64 yl, .int .i64 ya, .int .i64 yp] 52)
              have u1 := cell_al d1 (.cells #[.int .i64 yf, .int .i64 yl, .int .i64 ya, .int .i64 yp] 52)
              have u2 := cell_al d2 (.cells #[.int .i64 yf, .int .i64 yl, .int .i64 ya, .int .i64 yp] 52)
              have u3 := cell_al d3 (.cells #[.int .i64 yf, .int .i64 yl, .int .i64 ya, .int .i64 yp] 52)
              have gj : ((p : Int) + 1 == 0) = false := by simp; omega
              have g3 : (0 : Int) ≤ (p : Int) := by omega
              have g4 : (p : Int) < (x.length : Int) := by omega
              have hc : (zf + zl == yf && za + zl == ya) = false := by
                simp only [Bool.and_eq_false_iff, beq_eq_false_iff_ne]
                rcases Classical.em (zf + zl = yf) with h5 | h5
                · exact .inr (fun h6 => a2 ⟨h5, h6⟩)
                · exact .inl h5
              have hcc : (zf + zl = yf ∧ ¬ za + zl = ya) ∨ ¬ zf + zl = yf := by
                rcases Classical.em (zf + zl = yf) with h5 | h5
                · exact .inl ⟨h5, fun h6 => a2 ⟨h5, h6⟩⟩
                · exact .inr h5
              clear a2 hj0 hc
              rcases hcc with ⟨rfl, hne⟩ | hne
              all_goals
                (first
                  | have hne1 : (za + zl == ya) = false := by simpa using hne
                  | have hne1 : (zf + zl == yf) = false := by simpa using hne)
                clear hne
                by_cases hlt2 : ya < za + zl
                · rw [if_pos hlt2] at a3
                  subst a3
                  go_wp2
                  exact ⟨⟨p + 1 + 1, by omega, by simp, HBm⟩, by simp only [intOf]; omega⟩
                · rw [if_neg hlt2] at a3
                  subst a3
                  go_wp2
                  exact ⟨⟨p + 1 + 1, by omega, by simp, HBm⟩, by simp only [intOf]; omega⟩
          · obtain rfl : j = x.length := by omega
            go_wp2
            go_ret
            exact ⟨rfl, HB.out.trans (HBi.out.mono HB.out.size)⟩
  · have hR : layR l st nn i o = ([], 1) := by unfold layR; rw [if_neg hk]
    have hc : inOrdS l = false ∨ (inOrdS l = true ∧ st < 0) ∨ (inOrdS l = true ∧ 0 ≤ st ∧ 1099511627776 < st) ∨ (inOrdS l = true ∧ 0 ≤ st ∧ st ≤ 1099511627776 ∧ nn < 0) ∨
        (inOrdS l = true ∧ 0 ≤ st ∧ st ≤ 1099511627776 ∧ 0 ≤ nn ∧ i < 0) ∨ (inOrdS l = true ∧ 0 ≤ st ∧ st ≤ 1099511627776 ∧ 0 ≤ nn ∧ 0 ≤ i ∧ 1048576 < i) ∨
        (inOrdS l = true ∧ 0 ≤ st ∧ st ≤ 1099511627776 ∧ 0 ≤ nn ∧ 0 ≤ i ∧ i ≤ 1048576 ∧ o < 0) ∨ (inOrdS l = true ∧ 0 ≤ st ∧ st ≤ 1099511627776 ∧ 0 ≤ nn ∧ 0 ≤ i ∧ i ≤ 1048576 ∧ 0 ≤ o ∧ 1048576 < o) := by
      unfold LayOk at hk
      by_cases h1 : inOrdS l = true
      · right; simp only [h1, true_and] at hk ⊢; omega
      · left; simpa using h1
    have C0 := Lib.hid fun (w' : World) (hb : Below w.heap.size w w') => lay_eqn hR (h.below hb)
    have CI := fun (w' : World) (hb : Below w.heap.size w w') => rinOrder_any A n c l w' (h.below hb)
    clear hk hR
    obtain ⟨bb, hbb⟩ : ∃ bb, inOrdS l = bb := ⟨_, rfl⟩
    rw [hbb] at CI hc
    have HCI := Lib.hid CI
    clear hbb CI
    rcases hc with rfl | ⟨rfl, h1⟩ | ⟨rfl, h1, h2⟩ | ⟨rfl, h1, h2, h3⟩ | ⟨rfl, h1, h2, h3, h4⟩ | ⟨rfl, h1, h2, h3, h4, h5⟩ | ⟨rfl, h1, h2, h3, h4, h5, h6⟩ | ⟨rfl, h1, h2, h3, h4, h5, h6, h7⟩
    all_goals
      go_enter Try.func6, Try.ntmps6
      go_wp2_with (first
        | (go_at_call 9; (with_reducible refine CS.mono ?_); rintro e w1 ⟨rfl, b1⟩)
        | (go_at_call 10; (with_reducible refine (C0.out _ b1).mono ?_); rintro e w2 ⟨A2, c2, rfl, _, b2⟩; dsimp only [List.length_nil]; have hB := Bel.on0 b1 b2; clear b1 b2)
        | (go_at_call 18; (with_reducible refine (HCI.out _ hB).mono ?_); rintro e w3 ⟨rfl, b3⟩; have hB3 := Bel.on0 hB b3; clear b3))
      go_ret
      exact ⟨by first | rfl | exact ret_bool (by simp <;> omega), hB3⟩
end Go.Proofs.Yteconepbhajjeaa
