/- The walk of FadesEqual (layer 27). -/
import Derived.Test.YteljglhfimhmlaaW27b
import Derived.Test.YteljglhfimhmlaaPlainEqual
namespace Go.Proofs.Yteljglhfimhmlaa
open Go.RowKit

theorem equal_all {v : Int} {T m : Nat} (hv1 : -2147483648 ≤ v) (hv2 : v ≤ 2147483647) (hm : m ≤ T) : ∀ i, i < T - m + T → ∃ y, (crossS (List.replicate T v) (List.replicate T v) m)[i]? = some y ∧
    y - v ≤ (if 0 ≤ v then v else -v) / 65536 + 3 ∧ -((if 0 ≤ v then v else -v) / 65536) - 3 ≤ y - v ∧ I64 y := by
  intro i hi
  have hlen : (List.replicate T v).length = T := by simp
  have hS : 0 ≤ (if 0 ≤ v then v else -v) / 65536 := by split <;> omega
  rcases (show i < T - m ∨ (T - m ≤ i ∧ i < T) ∨ T ≤ i by omega) with h | ⟨h1, h2⟩ | h
  · refine ⟨v, ?_, by omega, by omega, by unfold I64; omega⟩
    rw [cross_lo (by rw [hlen]; exact h), List.getElem?_replicate, if_pos (by omega)]
  · obtain ⟨k, hk⟩ : ∃ k, i - (T - m) = k := ⟨_, rfl⟩
    have hg := gains_sum (n := (m : Int)) (k := (k : Int)) (by omega) (by omega)
    refine ⟨_, cross_mid (x := v) (y := v) (k := k) (by rw [hlen]; exact hm) (by rw [hlen]; exact hm) (by rw [hlen]; omega) (by omega) (by rw [List.getElem?_replicate, if_pos (by omega)]) (by rw [List.getElem?_replicate, if_pos (by omega)]), ?_⟩
    obtain ⟨a1, a2, a3, a4, a5⟩ := hg
    have := near_v (v := v) (g1 := gainS ((m : Int) - 1 - k) m) (g2 := gainS k m) hv1 hv2 a3 a4 a1 a2 a5
    have h6 := clipS_bd (mulS v (gainS ((m : Int) - 1 - k) m) + mulS v (gainS k m))
    exact ⟨this.1, this.2, by unfold addS I64; omega⟩
  · refine ⟨v, ?_, by omega, by omega, by unfold I64; omega⟩
    rw [cross_hi (k := i - (T - m)) (by rw [hlen]; exact hm) (by rw [hlen]; omega) (by omega), List.getElem?_replicate, if_pos (by omega)]
theorem replicate_succ' (v : Int) (k : Nat) : List.replicate (k + 1) v = List.replicate k v ++ [v] := by
  rw [List.replicate_succ', List.append_cancel_left_eq]

set_option maxHeartbeats 4000000 in
set_option maxRecDepth 100000 in
theorem walkFadesEqual (v n more : Int) (w : World) (hv : -2147483648 ≤ v ∧ v ≤ 2147483647) (hn : 0 ≤ n ∧ n ≤ 255) (hm : 0 ≤ more ∧ more ≤ 255) :
    Calls Try.prog 16 #[.int .i32 v, .int .u8 n, .int .u8 more] w fun e w' => e = .returned (.bool true) ∧ Below w.heap.size w w' := by
  obtain ⟨hv1, hv2⟩ := hv
  obtain ⟨hn1, hn2⟩ := hn
  obtain ⟨hm1, hm2⟩ := hm
  have hB := Below.refl w.heap.size w
  obtain ⟨m, rfl⟩ : ∃ m : Nat, n = m := ⟨n.toNat, by omega⟩
  obtain ⟨r, hr⟩ : ∃ r : Nat, more % 8 = r := ⟨(more % 8).toNat, by omega⟩
  have hr2 : r ≤ 7 := by omega
  obtain ⟨T, hT⟩ : ∃ T : Nat, (m : Int) + (r : Int) = T := ⟨m + r, by omega⟩
  have hv64 : I64 v := ⟨by omega, by omega⟩
  go_enter Try.func16, Try.ntmps16
  go_wp2_with (first
    | (go_at_call 36; refine (sane27_any _).mono ?_; rintro e w1 ⟨rfl, hh⟩; ((try first | replace hs1 := SL.below hs1 hh | replace hs1 := SL.on1 hs1 hh | replace hs1 := SL.on2 hs1 hh); (try first | replace hs2 := SL.below hs2 hh | replace hs2 := SL.on1 hs2 hh | replace hs2 := SL.on2 hs2 hh); (try first | replace hB := Bel.on0 hB hh | replace hB := Bel.on1 hB hh | replace hB := Bel.on2 hB hh); clear hh)))
  have HRR := Lib.hid hr
  clear hr
  go_loopw [7, 22] (fun o i wr => ∃ k A' c', k ≤ T ∧ i = .int .i64 (k : Nat) ∧ o = .slice A' k c' ∧ OL wr w.heap.size A' k c' (List.replicate k v) ∧ Below w.heap.size w wr) (fun _ i _ => T - (intOf i).toNat)
  case atStart => exact ⟨0, none, 0, Nat.zero_le _, rfl, rfl, OL.nil _ _, hB⟩
  case round =>
    clear hB
    obtain ⟨k, A', c', hk, rfl, rfl, hOw, hB⟩ := hrel
    by_cases hlt : k < T
    · obtain ⟨A2, c2, w2, eA, hO2, hB2, _⟩ := (hOw.alloc (.cells #[vint v] 3)).app (SL.lit wr 3 [v] _ rfl (by simp [maxLen]) (by simpa using hv64)) (by have := hB.size; simp; omega) (by simp; omega)
      rw [← replicate_succ'] at hO2
      have hB4 := (Bel.al hB (.cells #[vint v] 3)).trans hB2
      clear hOw
      go_wp2_with (at_builtin; refine wpList_append_eq rfl _ _ _ rfl rfl rfl eA ?_; clear eA)
      exact ⟨⟨k + 1, A2, c2, by omega, by simp, by simp, by simpa using hO2, hB4⟩, by simp only [intOf]; omega⟩
    · obtain rfl : k = T := by omega
      have hs2 := hOw.sl
      have hC : crossR (List.replicate k v) (List.replicate k v) m = (crossS (List.replicate k v) (List.replicate k v) m, 0) := by
        have hr1 : rightB k m = true := by unfold rightB; simp; omega
        unfold crossR
        rw [List.length_replicate, hr1]
        rfl
      have hXl : (crossS (List.replicate k v) (List.replicate k v) m).length = k - m + k := by rw [crossS_len (by simp; omega)]; simp
      have hall := equal_all (v := v) (T := k) (m := m) hv1 hv2 (by omega)
      obtain ⟨X, hX⟩ : ∃ X, crossS (List.replicate k v) (List.replicate k v) m = X := ⟨_, rfl⟩
      rw [hX] at hC hXl hall
      obtain ⟨Z, hZ⟩ : ∃ Z, k - m + k = Z := ⟨_, rfl⟩
      rw [hZ] at hXl hall
      have gZ : (k : Int) + (r : Int) = (Z : Int) := by omega
      have hZ2 : Z ≤ 600 := by omega
      have HC := Lib.hid hC
      have HA := Lib.hid hall
      have HL := Lib.hid hXl
      clear hC hall hXl hX hOw hZ
      have hr := HRR.out
      have hcv : v < 0 ∨ 0 < v ∨ v = 0 := by omega
      rcases hcv with g | g | g
      · obtain ⟨Q, hQ⟩ : ∃ Q, -v / 65536 = Q := ⟨_, rfl⟩
        have g1 : (-v).tdiv 65536 = Q := by rw [Int.tdiv_eq_ediv_of_nonneg (by omega), hQ]
        have g2 : v.tdiv 65536 = -Q := by rw [show v = -(-v) by omega, Int.neg_tdiv, g1]
        have g3 : v < -v := by omega
        have q1 : 0 ≤ Q := by omega
        have q2 : Q ≤ 32768 := by omega
        have g4 : (if 0 ≤ v then v else -v) / 65536 = Q := by rw [if_neg (by omega)]; exact hQ
        have G4 := Lib.hid g4
        clear g4 hQ
        go_wp2_with (first
          | (go_at_call 45; (with_reducible refine (cross_eq HC.out hs2 hs2).mono ?_); rintro e w1 ⟨A1, n1, c1, rfl, hs1, hh⟩; ((try first | replace hs1 := SL.below hs1 hh | replace hs1 := SL.on1 hs1 hh | replace hs1 := SL.on2 hs1 hh); (try first | replace hs2 := SL.below hs2 hh | replace hs2 := SL.on1 hs2 hh | replace hs2 := SL.on2 hs2 hh); (try first | replace hB := Bel.on0 hB hh | replace hB := Bel.on1 hB hh | replace hB := Bel.on2 hB hh); clear hh); obtain rfl : Z = n1 := HL.out.symm.trans hs1.n_eq))
        clear hr
        go_loopw [59] (fun i wr => ∃ j : Nat, j ≤ Z ∧ i = .int .i64 j ∧ SL wr A1 Z c1 X ∧ Below w.heap.size w wr) (fun i _ => Z - (intOf i).toNat)
        case atStart => exact ⟨0, Nat.zero_le _, rfl, hs1, hB⟩
        case round =>
          clear hs1 hs2 hB
          obtain ⟨j, hj, rfl, hs1, hB⟩ := hrel
          by_cases hlt2 : j < Z
          · obtain ⟨y, hy, hy1, hy2, hy64⟩ := HA.out j hlt2
            rw [G4.out] at hy1 hy2
            have hjX : j < X.length := by rw [HL.out]; exact hlt2
            obtain ⟨bb, o, rfl, hbb, cA⟩ := hs1.at_ hjX
            rw [List.getElem?_eq_getElem hjX] at hy
            injection hy with hy
            rw [hy] at cA
            obtain ⟨hy3, hy4⟩ := hy64
            clear hy hjX
            go_wp2
            exact ⟨⟨j + 1, by omega, by simp, hs1, hB⟩, by simp only [intOf]; omega⟩
          · obtain rfl : j = Z := by omega
            go_wp2
            go_ret
            exact ⟨rfl, hB⟩
      · obtain ⟨Q, hQ⟩ : ∃ Q, v / 65536 = Q := ⟨_, rfl⟩
        have g1 : v.tdiv 65536 = Q := by rw [Int.tdiv_eq_ediv_of_nonneg (by omega), hQ]
        have g2 : (-v).tdiv 65536 = -Q := by rw [Int.neg_tdiv, g1]
        have g3 : -v ≤ v := by omega
        have q1 : 0 ≤ Q := by omega
        have q2 : Q ≤ 32768 := by omega
        have g4 : (if 0 ≤ v then v else -v) / 65536 = Q := by rw [if_pos (by omega)]; exact hQ
        have G4 := Lib.hid g4
        clear g4 hQ
        go_wp2_with (first
          | (go_at_call 45; (with_reducible refine (cross_eq HC.out hs2 hs2).mono ?_); rintro e w1 ⟨A1, n1, c1, rfl, hs1, hh⟩; ((try first | replace hs1 := SL.below hs1 hh | replace hs1 := SL.on1 hs1 hh | replace hs1 := SL.on2 hs1 hh); (try first | replace hs2 := SL.below hs2 hh | replace hs2 := SL.on1 hs2 hh | replace hs2 := SL.on2 hs2 hh); (try first | replace hB := Bel.on0 hB hh | replace hB := Bel.on1 hB hh | replace hB := Bel.on2 hB hh); clear hh); obtain rfl : Z = n1 := HL.out.symm.trans hs1.n_eq))
        clear hr
        go_loopw [59] (fun i wr => ∃ j : Nat, j ≤ Z ∧ i = .int .i64 j ∧ SL wr A1 Z c1 X ∧ Below w.heap.size w wr) (fun i _ => Z - (intOf i).toNat)
        case atStart => exact ⟨0, Nat.zero_le _, rfl, hs1, hB⟩
        case round =>
          clear hs1 hs2 hB
          obtain ⟨j, hj, rfl, hs1, hB⟩ := hrel
          by_cases hlt2 : j < Z
          · obtain ⟨y, hy, hy1, hy2, hy64⟩ := HA.out j hlt2
            rw [G4.out] at hy1 hy2
            have hjX : j < X.length := by rw [HL.out]; exact hlt2
            obtain ⟨bb, o, rfl, hbb, cA⟩ := hs1.at_ hjX
            rw [List.getElem?_eq_getElem hjX] at hy
            injection hy with hy
            rw [hy] at cA
            obtain ⟨hy3, hy4⟩ := hy64
            clear hy hjX
            go_wp2
            exact ⟨⟨j + 1, by omega, by simp, hs1, hB⟩, by simp only [intOf]; omega⟩
          · obtain rfl : j = Z := by omega
            go_wp2
            go_ret
            exact ⟨rfl, hB⟩
      · subst g
        have g4 : (if (0 : Int) ≤ 0 then (0 : Int) else -0) / 65536 = 0 := by decide
        have hQ : True := trivial
        have G4 := Lib.hid g4
        clear g4 hQ
        go_wp2_with (first
          | (go_at_call 45; (with_reducible refine (cross_eq HC.out hs2 hs2).mono ?_); rintro e w1 ⟨A1, n1, c1, rfl, hs1, hh⟩; ((try first | replace hs1 := SL.below hs1 hh | replace hs1 := SL.on1 hs1 hh | replace hs1 := SL.on2 hs1 hh); (try first | replace hs2 := SL.below hs2 hh | replace hs2 := SL.on1 hs2 hh | replace hs2 := SL.on2 hs2 hh); (try first | replace hB := Bel.on0 hB hh | replace hB := Bel.on1 hB hh | replace hB := Bel.on2 hB hh); clear hh); obtain rfl : Z = n1 := HL.out.symm.trans hs1.n_eq))
        clear hr
        go_loopw [59] (fun i wr => ∃ j : Nat, j ≤ Z ∧ i = .int .i64 j ∧ SL wr A1 Z c1 X ∧ Below w.heap.size w wr) (fun i _ => Z - (intOf i).toNat)
        case atStart => exact ⟨0, Nat.zero_le _, rfl, hs1, hB⟩
        case round =>
          clear hs1 hs2 hB
          obtain ⟨j, hj, rfl, hs1, hB⟩ := hrel
          by_cases hlt2 : j < Z
          · obtain ⟨y, hy, hy1, hy2, hy64⟩ := HA.out j hlt2
            rw [G4.out] at hy1 hy2
            have hjX : j < X.length := by rw [HL.out]; exact hlt2
            obtain ⟨bb, o, rfl, hbb, cA⟩ := hs1.at_ hjX
            rw [List.getElem?_eq_getElem hjX] at hy
            injection hy with hy
            rw [hy] at cA
            obtain ⟨hy3, hy4⟩ := hy64
            clear hy hjX
            have hy5 : y ≤ 3 := by omega
            have hy6 : -3 ≤ y := by omega
            go_wp2
            exact ⟨⟨j + 1, by omega, by simp, hs1, hB⟩, by simp only [intOf]; omega⟩
          · obtain rfl : j = Z := by omega
            go_wp2
            go_ret
            exact ⟨rfl, hB⟩
end Go.Proofs.Yteljglhfimhmlaa
