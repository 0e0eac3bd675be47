/- The walks of SpeedBack and SpeedParts (layer 26). -/
import Derived.Test.YteljglhfimhmlaaSpeedD
import Derived.Test.YteljglhfimhmlaaPlainSpeedB
namespace Go.Proofs.Yteljglhfimhmlaa
open Go.RowKit

theorem clipped_eq {A : Option Addr} {n c : Nat} {l r : List Int} {w : World} (e : l.map clipS = r) (h : SL w A n c l) (hn : n ≤ 1000000) :
    Calls Try.prog 57 #[.slice A n c] w fun e w' => ∃ A' n' c', e = .returned (.slice A' n' c') ∧ SL w' A' n' c' r ∧ Below w.heap.size w w' := by
  have := clipped_any A n c l w h hn; rw [e] at this; exact this

set_option maxHeartbeats 4000000 in
set_option maxRecDepth 100000 in
theorem walkSpeedBack (A : Option Addr) (len c : Nat) (l : List Int) (a b : Int) (w : World) (h : SL w A len c l) (ha : 0 ≤ a ∧ a ≤ 255) (hb : 0 ≤ b ∧ b ≤ 255) :
    Calls Try.prog 18 #[.slice A len c, .int .u8 a, .int .u8 b] w fun e w' => e = .returned (.bool true) ∧ Below w.heap.size w w' := by
  have HA := Lib.hid (fun w => few26_any A len c w h.len)
  have HL := Lib.hid h.n_eq
  have hB := Below.refl w.heap.size w
  obtain ⟨ha1, ha2⟩ := ha
  obtain ⟨hb1, hb2⟩ := hb
  by_cases hl : len ≤ 60
  · rw [show decide (len ≤ 60) = true by simpa using hl] at HA
    obtain ⟨k, hk⟩ : ∃ k : Nat, 1 + a % 64 = k := ⟨(1 + a % 64).toNat, by omega⟩
    obtain ⟨m, hm⟩ : ∃ m : Nat, 1 + b % 64 = m := ⟨(1 + b % 64).toNat, by omega⟩
    have k1 : 1 ≤ k ∧ k ≤ 64 := by omega
    have m1 : 1 ≤ m ∧ m ≤ 64 := by omega
    have s1 := speed_one (m := m) (by omega) (by omega)
    have s2 := one_speed (m := m) (by omega) (by omega)
    have s3 := one_speed (m := k) (by omega) (by omega)
    have s4 : SpeedOk 1 1 := by decide
    have n1 := (cntS_le (n := len) (by omega) s1)
    have n2 := (cntS_le (n := len) (by omega) s3)
    have n3 := (cntS_le (n := len) (by omega) s4)
    have hx : convR l 1 m = (convS l 1 m, 0) := by unfold convR; rw [h.n_eq, if_pos ⟨s1, by omega⟩, if_pos (by omega)]
    have hxl : (convS l 1 m).length ≤ 3840 := by rw [convS_len, h.n_eq]; omega
    have n4 := (cntS_le (n := (convS l 1 m).length) (by omega) s2)
    have hy : convR (convS l 1 m) m 1 = (l.map clipS, 0) := by unfold convR; rw [if_pos ⟨s2, by omega⟩, if_pos (by omega), conv_back l m m1.1]
    have hz : convR l k 1 = (convS l k 1, 0) := by unfold convR; rw [h.n_eq, if_pos ⟨s3, by omega⟩, if_pos (by omega)]
    have ho : convR l 1 1 = (l.map clipS, 0) := by unfold convR; rw [h.n_eq, if_pos ⟨s4, by omega⟩, if_pos (by omega), conv_one]
    obtain ⟨j, e1, e2, e3⟩ := conv_each l k k1.1
    rw [h.n_eq] at e2 e3
    rw [e1] at hz
    have hlC : (l.map clipS).length = len := by rw [List.length_map, h.n_eq]
    obtain ⟨X, hX⟩ : ∃ X, convS l 1 m = X := ⟨_, rfl⟩
    rw [hX] at hx hy hxl
    obtain ⟨C, hC⟩ : ∃ C, l.map clipS = C := ⟨_, rfl⟩
    rw [hC] at hy ho hlC
    have hCi : ∀ i, i < len → C[i]? = some (clipS (l[i]?.getD 0)) := fun i hi => by
      rw [← hC, List.getElem?_map, List.getElem?_eq_getElem (by rw [HL.out]; exact hi)]; rfl
    have Hx := Lib.hid hx
    have Hy := Lib.hid hy
    have Hz := Lib.hid hz
    have Ho := Lib.hid ho
    have HC := Lib.hid hC
    have HLC := Lib.hid hlC
    have HCi := Lib.hid hCi
    have E3 := Lib.hid e3
    have hxl' : (X.length : Int) ≤ 3840 := by omega
    have HXL := Lib.hid hxl
    clear hx hy hz ho hC hlC hCi e1 e3 s1 s2 s3 s4 n1 n2 n3 n4 hX hxl
    go_enter Try.func18, Try.ntmps18
    go_wp2_with (first
      | (go_at_call 48; refine (sane26_any _).mono ?_; rintro e w1 ⟨rfl, hh⟩; ((try first | replace h := SL.below h hh | replace h := SL.on1 h hh | replace h := SL.on2 h hh); (try first | replace hm := SL.below hm hh | replace hm := SL.on1 hm hh | replace hm := SL.on2 hm hh); (try first | replace hs1 := SL.below hs1 hh | replace hs1 := SL.on1 hs1 hh | replace hs1 := SL.on2 hs1 hh); (try first | replace hs2 := SL.below hs2 hh | replace hs2 := SL.on1 hs2 hh | replace hs2 := SL.on2 hs2 hh); (try first | replace hs3 := SL.below hs3 hh | replace hs3 := SL.on1 hs3 hh | replace hs3 := SL.on2 hs3 hh); (try first | replace hs4 := SL.below hs4 hh | replace hs4 := SL.on1 hs4 hh | replace hs4 := SL.on2 hs4 hh); (try first | replace hs5 := SL.below hs5 hh | replace hs5 := SL.on1 hs5 hh | replace hs5 := SL.on2 hs5 hh); (try first | replace hB := Bel.on0 hB hh | replace hB := Bel.on1 hB hh | replace hB := Bel.on2 hB hh); clear hh))
      | (go_at_call 49; (with_reducible refine (HA.out _).mono ?_); rintro e w1 ⟨rfl, rfl⟩)
      | (go_at_call 54; (with_reducible refine (conv_eq Hx.out h).mono ?_); rintro e w1 ⟨A1, n1, c1, rfl, hs1, hh⟩; ((try first | replace h := SL.below h hh | replace h := SL.on1 h hh | replace h := SL.on2 h hh); (try first | replace hm := SL.below hm hh | replace hm := SL.on1 hm hh | replace hm := SL.on2 hm hh); (try first | replace hs1 := SL.below hs1 hh | replace hs1 := SL.on1 hs1 hh | replace hs1 := SL.on2 hs1 hh); (try first | replace hs2 := SL.below hs2 hh | replace hs2 := SL.on1 hs2 hh | replace hs2 := SL.on2 hs2 hh); (try first | replace hs3 := SL.below hs3 hh | replace hs3 := SL.on1 hs3 hh | replace hs3 := SL.on2 hs3 hh); (try first | replace hs4 := SL.below hs4 hh | replace hs4 := SL.on1 hs4 hh | replace hs4 := SL.on2 hs4 hh); (try first | replace hs5 := SL.below hs5 hh | replace hs5 := SL.on1 hs5 hh | replace hs5 := SL.on2 hs5 hh); (try first | replace hB := Bel.on0 hB hh | replace hB := Bel.on1 hB hh | replace hB := Bel.on2 hB hh); clear hh); obtain rfl : X.length = n1 := hs1.n_eq)
      | (go_at_call 54; (with_reducible refine (conv_eq Hy.out hs1).mono ?_); rintro e w1 ⟨A2, n2, c2, rfl, hs2, hh⟩; ((try first | replace h := SL.below h hh | replace h := SL.on1 h hh | replace h := SL.on2 h hh); (try first | replace hm := SL.below hm hh | replace hm := SL.on1 hm hh | replace hm := SL.on2 hm hh); (try first | replace hs1 := SL.below hs1 hh | replace hs1 := SL.on1 hs1 hh | replace hs1 := SL.on2 hs1 hh); (try first | replace hs2 := SL.below hs2 hh | replace hs2 := SL.on1 hs2 hh | replace hs2 := SL.on2 hs2 hh); (try first | replace hs3 := SL.below hs3 hh | replace hs3 := SL.on1 hs3 hh | replace hs3 := SL.on2 hs3 hh); (try first | replace hs4 := SL.below hs4 hh | replace hs4 := SL.on1 hs4 hh | replace hs4 := SL.on2 hs4 hh); (try first | replace hs5 := SL.below hs5 hh | replace hs5 := SL.on1 hs5 hh | replace hs5 := SL.on2 hs5 hh); (try first | replace hB := Bel.on0 hB hh | replace hB := Bel.on1 hB hh | replace hB := Bel.on2 hB hh); clear hh))
      | (go_at_call 54; (with_reducible refine (conv_eq Hz.out h).mono ?_); rintro e w1 ⟨A3, n3, c3, rfl, hs3, hh⟩; ((try first | replace h := SL.below h hh | replace h := SL.on1 h hh | replace h := SL.on2 h hh); (try first | replace hm := SL.below hm hh | replace hm := SL.on1 hm hh | replace hm := SL.on2 hm hh); (try first | replace hs1 := SL.below hs1 hh | replace hs1 := SL.on1 hs1 hh | replace hs1 := SL.on2 hs1 hh); (try first | replace hs2 := SL.below hs2 hh | replace hs2 := SL.on1 hs2 hh | replace hs2 := SL.on2 hs2 hh); (try first | replace hs3 := SL.below hs3 hh | replace hs3 := SL.on1 hs3 hh | replace hs3 := SL.on2 hs3 hh); (try first | replace hs4 := SL.below hs4 hh | replace hs4 := SL.on1 hs4 hh | replace hs4 := SL.on2 hs4 hh); (try first | replace hs5 := SL.below hs5 hh | replace hs5 := SL.on1 hs5 hh | replace hs5 := SL.on2 hs5 hh); (try first | replace hB := Bel.on0 hB hh | replace hB := Bel.on1 hB hh | replace hB := Bel.on2 hB hh); clear hh))
      | (go_at_call 54; (with_reducible refine (conv_eq Ho.out h).mono ?_); rintro e w1 ⟨A4, n4, c4, rfl, hs4, hh⟩; ((try first | replace h := SL.below h hh | replace h := SL.on1 h hh | replace h := SL.on2 h hh); (try first | replace hm := SL.below hm hh | replace hm := SL.on1 hm hh | replace hm := SL.on2 hm hh); (try first | replace hs1 := SL.below hs1 hh | replace hs1 := SL.on1 hs1 hh | replace hs1 := SL.on2 hs1 hh); (try first | replace hs2 := SL.below hs2 hh | replace hs2 := SL.on1 hs2 hh | replace hs2 := SL.on2 hs2 hh); (try first | replace hs3 := SL.below hs3 hh | replace hs3 := SL.on1 hs3 hh | replace hs3 := SL.on2 hs3 hh); (try first | replace hs4 := SL.below hs4 hh | replace hs4 := SL.on1 hs4 hh | replace hs4 := SL.on2 hs4 hh); (try first | replace hs5 := SL.below hs5 hh | replace hs5 := SL.on1 hs5 hh | replace hs5 := SL.on2 hs5 hh); (try first | replace hB := Bel.on0 hB hh | replace hB := Bel.on1 hB hh | replace hB := Bel.on2 hB hh); clear hh))
      | (go_at_call 57; (with_reducible refine (clipped_eq HC.out h (by omega)).mono ?_); rintro e w1 ⟨A5, n5, c5, rfl, hs5, hh⟩; ((try first | replace h := SL.below h hh | replace h := SL.on1 h hh | replace h := SL.on2 h hh); (try first | replace hm := SL.below hm hh | replace hm := SL.on1 hm hh | replace hm := SL.on2 hm hh); (try first | replace hs1 := SL.below hs1 hh | replace hs1 := SL.on1 hs1 hh | replace hs1 := SL.on2 hs1 hh); (try first | replace hs2 := SL.below hs2 hh | replace hs2 := SL.on1 hs2 hh | replace hs2 := SL.on2 hs2 hh); (try first | replace hs3 := SL.below hs3 hh | replace hs3 := SL.on1 hs3 hh | replace hs3 := SL.on2 hs3 hh); (try first | replace hs4 := SL.below hs4 hh | replace hs4 := SL.on1 hs4 hh | replace hs4 := SL.on2 hs4 hh); (try first | replace hs5 := SL.below hs5 hh | replace hs5 := SL.on1 hs5 hh | replace hs5 := SL.on2 hs5 hh); (try first | replace hB := Bel.on0 hB hh | replace hB := Bel.on1 hB hh | replace hB := Bel.on2 hB hh); clear hh))
      | (go_at_call 56; (with_reducible refine (same26_eq hs2 hs5 rfl).mono ?_); rintro e w1 ⟨rfl, hh⟩; ((try first | replace h := SL.below h hh | replace h := SL.on1 h hh | replace h := SL.on2 h hh); (try first | replace hm := SL.below hm hh | replace hm := SL.on1 hm hh | replace hm := SL.on2 hm hh); (try first | replace hs1 := SL.below hs1 hh | replace hs1 := SL.on1 hs1 hh | replace hs1 := SL.on2 hs1 hh); (try first | replace hs2 := SL.below hs2 hh | replace hs2 := SL.on1 hs2 hh | replace hs2 := SL.on2 hs2 hh); (try first | replace hs3 := SL.below hs3 hh | replace hs3 := SL.on1 hs3 hh | replace hs3 := SL.on2 hs3 hh); (try first | replace hs4 := SL.below hs4 hh | replace hs4 := SL.on1 hs4 hh | replace hs4 := SL.on2 hs4 hh); (try first | replace hs5 := SL.below hs5 hh | replace hs5 := SL.on1 hs5 hh | replace hs5 := SL.on2 hs5 hh); (try first | replace hB := Bel.on0 hB hh | replace hB := Bel.on1 hB hh | replace hB := Bel.on2 hB hh); clear hh))
      | (go_at_call 56; (with_reducible refine (same26_eq hs4 hs5 rfl).mono ?_); rintro e w1 ⟨rfl, hh⟩; ((try first | replace h := SL.below h hh | replace h := SL.on1 h hh | replace h := SL.on2 h hh); (try first | replace hm := SL.below hm hh | replace hm := SL.on1 hm hh | replace hm := SL.on2 hm hh); (try first | replace hs1 := SL.below hs1 hh | replace hs1 := SL.on1 hs1 hh | replace hs1 := SL.on2 hs1 hh); (try first | replace hs2 := SL.below hs2 hh | replace hs2 := SL.on1 hs2 hh | replace hs2 := SL.on2 hs2 hh); (try first | replace hs3 := SL.below hs3 hh | replace hs3 := SL.on1 hs3 hh | replace hs3 := SL.on2 hs3 hh); (try first | replace hs4 := SL.below hs4 hh | replace hs4 := SL.on1 hs4 hh | replace hs4 := SL.on2 hs4 hh); (try first | replace hs5 := SL.below hs5 hh | replace hs5 := SL.on1 hs5 hh | replace hs5 := SL.on2 hs5 hh); (try first | replace hB := Bel.on0 hB hh | replace hB := Bel.on1 hB hh | replace hB := Bel.on2 hB hh); clear hh)))
    obtain rfl : len = n5 := HLC.out.symm.trans hs5.n_eq
    clear hs1 hs2 hs4 h
    have HS3 := Lib.hid hs3
    have HS5 := Lib.hid hs5
    have HBB := Lib.hid hB
    clear hs3 hs5 hB
    go_loopw [18, 19] (fun o i wr => ∃ q A' c', q ≤ j ∧ i = .int .i64 ((q * k : Nat) : Int) ∧ o = .slice A' q c' ∧ OL wr w1.heap.size A' q c' (eachS l k q) ∧ Below w1.heap.size w1 wr) (fun _ i _ => len - (intOf i).toNat)
    case atStart => exact ⟨0, none, 0, Nat.zero_le _, by simp, rfl, OL.nil _ _, Below.refl _ _⟩
    case round =>
      obtain ⟨q, A', c', hq, rfl, rfl, hOw, hB⟩ := hrel
      by_cases hlt : q < j
      · have hqk := E3.out q hlt
        obtain ⟨p, hp⟩ : ∃ p, q * k = p := ⟨_, rfl⟩
        rw [hp] at hqk ⊢
        have hC1 := HCi.out p hqk
        obtain ⟨x, hx⟩ : ∃ x, clipS (l[p]?.getD 0) = x := ⟨_, rfl⟩
        have hxb := clipS_bd (l[p]?.getD 0)
        rw [hx] at hC1 hxb
        have hpl : p < C.length := by rw [HLC.out]; exact hqk
        obtain ⟨bb, o, rfl, hbb, cA⟩ := (HS5.out.below hB).at_ hpl
        rw [List.getElem?_eq_getElem hpl] at hC1
        injection hC1 with hC1
        rw [hC1] at cA
        have hsu := eachS_succ l k q
        rw [hp, hx] at hsu
        have hql : q ≤ p := by rw [← hp]; exact Nat.le_mul_of_pos_right q k1.1
        obtain ⟨A2', c2', w2, eA, hO2, hB2, _⟩ := (hOw.alloc (.cells #[vint x] 3)).app (SL.lit wr 3 [x] _ rfl (by simp [maxLen]) (by simp [I64]; omega)) (by have := hB.size; simp; omega) (by simp; omega)
        rw [← hsu] at hO2
        have hB4 := (Bel.al hB (.cells #[vint x] 3)).trans (hB2.mono (Nat.le_refl _))
        have g2 : (p : Int) < (len : Int) := by omega
        have g3 : IntKind.i64.wrap ((p : Int) + (k : Int)) = (p : Int) + (k : Int) := IntWalk.i64_in _ (by omega)
        have HP := Lib.hid hp
        clear hsu hx hp hC1 hOw hpl
        go_wp2_with (at_builtin; refine wpList_append_eq rfl _ _ _ rfl rfl rfl eA ?_; clear eA)
        refine ⟨⟨q + 1, A2', c2', by omega, ?_, by simp, by simpa using hO2, hB4⟩, ?_⟩
        · rw [Nat.add_mul, Nat.one_mul, HP.out]; simp
        · simp only [intOf]; omega
      · obtain rfl : q = j := by omega
        obtain ⟨p, hp⟩ : ∃ p, q * k = p := ⟨_, rfl⟩
        rw [hp] at e2 ⊢
        have g2 : (len : Int) ≤ (p : Int) := by omega
        have hO := hOw.sl
        have hs3 := HS3.out.below hB
        clear hp
        replace hB := HBB.out.trans (hB.mono HBB.out.size)
        go_wp2_with (go_at_call 56; (with_reducible refine (same26_eq hs3 hO rfl).mono ?_); rintro e w1 ⟨rfl, hh⟩; ((try first | replace h := SL.below h hh | replace h := SL.on1 h hh | replace h := SL.on2 h hh); (try first | replace hm := SL.below hm hh | replace hm := SL.on1 hm hh | replace hm := SL.on2 hm hh); (try first | replace hs1 := SL.below hs1 hh | replace hs1 := SL.on1 hs1 hh | replace hs1 := SL.on2 hs1 hh); (try first | replace hs2 := SL.below hs2 hh | replace hs2 := SL.on1 hs2 hh | replace hs2 := SL.on2 hs2 hh); (try first | replace hs3 := SL.below hs3 hh | replace hs3 := SL.on1 hs3 hh | replace hs3 := SL.on2 hs3 hh); (try first | replace hs4 := SL.below hs4 hh | replace hs4 := SL.on1 hs4 hh | replace hs4 := SL.on2 hs4 hh); (try first | replace hs5 := SL.below hs5 hh | replace hs5 := SL.on1 hs5 hh | replace hs5 := SL.on2 hs5 hh); (try first | replace hB := Bel.on0 hB hh | replace hB := Bel.on1 hB hh | replace hB := Bel.on2 hB hh); clear hh))
        go_ret
        exact ⟨rfl, hB⟩
  · rw [show decide (len ≤ 60) = false by simpa using hl] at HA
    go_enter Try.func18, Try.ntmps18
    go_wp2_with (first
      | (go_at_call 48; refine (sane26_any _).mono ?_; rintro e w1 ⟨rfl, hh⟩; ((try first | replace h := SL.below h hh | replace h := SL.on1 h hh | replace h := SL.on2 h hh); (try first | replace hm := SL.below hm hh | replace hm := SL.on1 hm hh | replace hm := SL.on2 hm hh); (try first | replace hs1 := SL.below hs1 hh | replace hs1 := SL.on1 hs1 hh | replace hs1 := SL.on2 hs1 hh); (try first | replace hs2 := SL.below hs2 hh | replace hs2 := SL.on1 hs2 hh | replace hs2 := SL.on2 hs2 hh); (try first | replace hs3 := SL.below hs3 hh | replace hs3 := SL.on1 hs3 hh | replace hs3 := SL.on2 hs3 hh); (try first | replace hs4 := SL.below hs4 hh | replace hs4 := SL.on1 hs4 hh | replace hs4 := SL.on2 hs4 hh); (try first | replace hs5 := SL.below hs5 hh | replace hs5 := SL.on1 hs5 hh | replace hs5 := SL.on2 hs5 hh); (try first | replace hB := Bel.on0 hB hh | replace hB := Bel.on1 hB hh | replace hB := Bel.on2 hB hh); clear hh))
      | (go_at_call 49; (with_reducible refine (HA.out _).mono ?_); rintro e w1 ⟨rfl, rfl⟩))
    go_ret
    exact ⟨rfl, hB⟩

set_option maxHeartbeats 4000000 in
set_option maxRecDepth 100000 in
theorem walkSpeedParts (A : Option Addr) (n c : Nat) (l : List Int) (A' : Option Addr) (n' c' : Nat) (m : List Int) (a b : Int) (w : World) (h : SL w A n c l) (hm : SL w A' n' c' m) (_ : I64 a) (_ : I64 b) :
    Calls Try.prog 22 #[.slice A n c, .slice A' n' c', .int .i64 a, .int .i64 b] w fun e w' => e = .returned (.bool true) ∧ Below w.heap.size w w' := by
  have HA := Lib.hid (fun w => few26_any A n c w h.len)
  have HA' := Lib.hid (fun w => few26_any A' n' c' w hm.len)
  have HL := Lib.hid h.n_eq
  have HM := Lib.hid hm.n_eq
  have hB := Below.refl w.heap.size w
  by_cases hl : n ≤ 60
  · rw [show decide (n ≤ 60) = true by simpa using hl] at HA
    by_cases hl2 : n' ≤ 60
    · rw [show decide (n' ≤ 60) = true by simpa using hl2] at HA'
      obtain ⟨x, y, k, hx, hy, hp, hxy⟩ : ∃ x y k, convR l a b = (x, k) ∧ convR (l ++ m) a b = (y, k) ∧ y.take x.length = x ∧ x.length ≤ y.length := by
        by_cases hs : SpeedOk a b
        · have h3 := cntS_le (n := (l.length : Int)) (by omega) hs
          have h4 := cntS_le (n := ((l ++ m).length : Int)) (by omega) hs
          have h5 := h.n_eq
          have h6 := hm.n_eq
          have hlm : (l ++ m).length = n + n' := by rw [List.length_append, h5, h6]
          refine ⟨convS l a b, convS (l ++ m) a b, 0, ?_, ?_, conv_parts hs⟩
          · unfold convR; rw [if_pos ⟨hs, by omega⟩, if_pos (by omega)]
          · unfold convR; rw [if_pos ⟨hs, by omega⟩, if_pos (by omega)]
        · refine ⟨[], [], 1, ?_, ?_, rfl, Nat.le_refl _⟩
          · unfold convR; rw [if_neg (fun h => hs h.1)]
          · unfold convR; rw [if_neg (fun h => hs h.1)]
      have HX := Lib.hid hx
      have HY := Lib.hid hy
      have HP := Lib.hid hp
      clear hx hy hp
      go_enter Try.func22, Try.ntmps22
      go_wp2_with (first
        | (go_at_call 48; refine (sane26_any _).mono ?_; rintro e w1 ⟨rfl, hh⟩; ((try first | replace h := SL.below h hh | replace h := SL.on1 h hh | replace h := SL.on2 h hh); (try first | replace hm := SL.below hm hh | replace hm := SL.on1 hm hh | replace hm := SL.on2 hm hh); (try first | replace hs1 := SL.below hs1 hh | replace hs1 := SL.on1 hs1 hh | replace hs1 := SL.on2 hs1 hh); (try first | replace hs2 := SL.below hs2 hh | replace hs2 := SL.on1 hs2 hh | replace hs2 := SL.on2 hs2 hh); (try first | replace hs3 := SL.below hs3 hh | replace hs3 := SL.on1 hs3 hh | replace hs3 := SL.on2 hs3 hh); (try first | replace hs4 := SL.below hs4 hh | replace hs4 := SL.on1 hs4 hh | replace hs4 := SL.on2 hs4 hh); (try first | replace hs5 := SL.below hs5 hh | replace hs5 := SL.on1 hs5 hh | replace hs5 := SL.on2 hs5 hh); (try first | replace hB := Bel.on0 hB hh | replace hB := Bel.on1 hB hh | replace hB := Bel.on2 hB hh); clear hh))
        | (go_at_call 49; (with_reducible refine (HA.out _).mono ?_); rintro e w1 ⟨rfl, rfl⟩)
        | (go_at_call 49; (with_reducible refine (HA'.out _).mono ?_); rintro e w1 ⟨rfl, rfl⟩)
        | (go_at_call 54; (with_reducible refine (conv_eq HX.out h).mono ?_); rintro e w1 ⟨A1, n1, c1, rfl, hs1, hh⟩; ((try first | replace h := SL.below h hh | replace h := SL.on1 h hh | replace h := SL.on2 h hh); (try first | replace hm := SL.below hm hh | replace hm := SL.on1 hm hh | replace hm := SL.on2 hm hh); (try first | replace hs1 := SL.below hs1 hh | replace hs1 := SL.on1 hs1 hh | replace hs1 := SL.on2 hs1 hh); (try first | replace hs2 := SL.below hs2 hh | replace hs2 := SL.on1 hs2 hh | replace hs2 := SL.on2 hs2 hh); (try first | replace hs3 := SL.below hs3 hh | replace hs3 := SL.on1 hs3 hh | replace hs3 := SL.on2 hs3 hh); (try first | replace hs4 := SL.below hs4 hh | replace hs4 := SL.on1 hs4 hh | replace hs4 := SL.on2 hs4 hh); (try first | replace hs5 := SL.below hs5 hh | replace hs5 := SL.on1 hs5 hh | replace hs5 := SL.on2 hs5 hh); (try first | replace hB := Bel.on0 hB hh | replace hB := Bel.on1 hB hh | replace hB := Bel.on2 hB hh); clear hh); (obtain rfl : x.length = n1 := hs1.n_eq); (have hle := hs1.len);
            (have hB0 := Bel.al hB (.cells #[] 3));
            (obtain ⟨A3, c3, w3, eA, hO3, hB3, _⟩ := (OL.lit w1 (Nat.le_refl w1.heap.size)).app (h.alloc (.cells #[] 3)) (by simp) (by omega));
            (rw [Nat.zero_add, List.nil_append] at hO3); (rw [Nat.zero_add] at eA);
            (have hK3 := ((Below.refl w1.heap.size w1).alloc (Nat.le_refl _) (.cells #[] 3)).trans hB3);
            (obtain ⟨A4, c4, w4, eA4, hO4, hB4, _⟩ := hO3.app (hm.below hK3) hK3.size (by omega));
            (have hK4 := hK3.trans hB4);
            (have hE := Lib.hid (hB.trans (hK4.mono hB.size))); (have hs14 := hs1.below hK4); (have hs4 := hO4.sl))
        | (at_builtin; refine wpList_append_eq rfl _ _ _ rfl rfl rfl eA ?_; clear eA)
        | (at_builtin; refine wpList_append_eq rfl _ _ _ rfl rfl rfl eA4 ?_; clear eA4)
        | (go_at_call 54; (with_reducible refine (conv_eq HY.out hs4).mono ?_); rintro e w5 ⟨A5, n5, c5, rfl, hs5, hh⟩; (obtain rfl : y.length = n5 := hs5.n_eq); (have hle5 := hs5.len); (have hxy2 : (x.length : Int) ≤ (y.length : Int) := by omega);
            (have hE5 := Lib.hid (hE.out.trans (hh.mono hE.out.size))); (have hs15 := hs14.below hh); (obtain ⟨A6, c6, eS, hs6⟩ := hs5.cutTo (j := (x.length : Int)) rfl hxy); (rw [HP.out] at hs6); clear hh)
        | (go_at_call 56; (with_reducible refine (same26_eq hs15 hs6 rfl).mono ?_); rintro e w1 ⟨rfl, hh⟩; (have hE6 := hE5.out.trans (hh.mono hE5.out.size)); clear hh))
      go_ret
      exact ⟨rfl, hE6⟩
    · rw [show decide (n' ≤ 60) = false by simpa using hl2] at HA'
      go_enter Try.func22, Try.ntmps22
      go_wp2_with (first
        | (go_at_call 48; refine (sane26_any _).mono ?_; rintro e w1 ⟨rfl, hh⟩; ((try first | replace h := SL.below h hh | replace h := SL.on1 h hh | replace h := SL.on2 h hh); (try first | replace hm := SL.below hm hh | replace hm := SL.on1 hm hh | replace hm := SL.on2 hm hh); (try first | replace hs1 := SL.below hs1 hh | replace hs1 := SL.on1 hs1 hh | replace hs1 := SL.on2 hs1 hh); (try first | replace hs2 := SL.below hs2 hh | replace hs2 := SL.on1 hs2 hh | replace hs2 := SL.on2 hs2 hh); (try first | replace hs3 := SL.below hs3 hh | replace hs3 := SL.on1 hs3 hh | replace hs3 := SL.on2 hs3 hh); (try first | replace hs4 := SL.below hs4 hh | replace hs4 := SL.on1 hs4 hh | replace hs4 := SL.on2 hs4 hh); (try first | replace hs5 := SL.below hs5 hh | replace hs5 := SL.on1 hs5 hh | replace hs5 := SL.on2 hs5 hh); (try first | replace hB := Bel.on0 hB hh | replace hB := Bel.on1 hB hh | replace hB := Bel.on2 hB hh); clear hh))
        | (go_at_call 49; (with_reducible refine (HA.out _).mono ?_); rintro e w1 ⟨rfl, rfl⟩)
        | (go_at_call 49; (with_reducible refine (HA'.out _).mono ?_); rintro e w1 ⟨rfl, rfl⟩))
      go_ret
      exact ⟨rfl, hB⟩
  · rw [show decide (n ≤ 60) = false by simpa using hl] at HA
    go_enter Try.func22, Try.ntmps22
    go_wp2_with (first
      | (go_at_call 48; refine (sane26_any _).mono ?_; rintro e w1 ⟨rfl, hh⟩; ((try first | replace h := SL.below h hh | replace h := SL.on1 h hh | replace h := SL.on2 h hh); (try first | replace hm := SL.below hm hh | replace hm := SL.on1 hm hh | replace hm := SL.on2 hm hh); (try first | replace hs1 := SL.below hs1 hh | replace hs1 := SL.on1 hs1 hh | replace hs1 := SL.on2 hs1 hh); (try first | replace hs2 := SL.below hs2 hh | replace hs2 := SL.on1 hs2 hh | replace hs2 := SL.on2 hs2 hh); (try first | replace hs3 := SL.below hs3 hh | replace hs3 := SL.on1 hs3 hh | replace hs3 := SL.on2 hs3 hh); (try first | replace hs4 := SL.below hs4 hh | replace hs4 := SL.on1 hs4 hh | replace hs4 := SL.on2 hs4 hh); (try first | replace hs5 := SL.below hs5 hh | replace hs5 := SL.on1 hs5 hh | replace hs5 := SL.on2 hs5 hh); (try first | replace hB := Bel.on0 hB hh | replace hB := Bel.on1 hB hh | replace hB := Bel.on2 hB hh); clear hh))
      | (go_at_call 49; (with_reducible refine (HA.out _).mono ?_); rintro e w1 ⟨rfl, rfl⟩))
    go_ret
    exact ⟨rfl, hB⟩
end Go.Proofs.Yteljglhfimhmlaa
