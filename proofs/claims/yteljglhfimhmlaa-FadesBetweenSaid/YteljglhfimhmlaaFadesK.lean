/- back: samples backwards (layer 27's law). -/
import Derived.Test.YteljglhfimhmlaaPlainFadesB
import Derived.Test.YteljglhfimhmlaaSane27
namespace Go.Proofs.Yteljglhfimhmlaa
open Go.RowKit

theorem back_any (A : Option Addr) (n c : Nat) (l : List Int) (w : World) (h : SL w A n c l) (hn : n ≤ 1000000) :
    Calls Try.prog 47 #[.slice A n c] w fun e w' => ∃ A' n' c', e = .returned (.slice A' n' c') ∧ SL w' A' n' c' l.reverse ∧ Below w.heap.size w w' := by
  have HL := Lib.hid h.n_eq
  go_enter Try.func47, Try.ntmps47
  go_wp2
  go_loopw [3, 4] (fun o i wr => ∃ k A' c', k ≤ n ∧ i = .int .i64 ((n : Int) - 1 - (k : Nat)) ∧ o = .slice A' k c' ∧ OL wr w.heap.size A' k c' (l.reverse.take k) ∧ Below w.heap.size w wr) (fun _ i _ => (intOf i + 1).toNat)
  case atStart => exact ⟨0, none, 0, Nat.zero_le _, by simp, rfl, OL.nil _ _, Below.refl _ _⟩
  case round =>
    obtain ⟨k, A', c', hk, rfl, rfl, hOw, hbel⟩ := hrel
    by_cases hlt : k < n
    · obtain ⟨p, hp⟩ : ∃ p : Nat, n - 1 - k = p := ⟨_, rfl⟩
      have g4 : (n : Int) - 1 - (k : Int) = (p : Int) := by omega
      rw [g4]
      have hpl : p < l.length := by rw [HL.out]; omega
      have g6 : (p : Int) < (n : Int) := by omega
      have g5 : (0 : Int) ≤ (p : Int) := by omega
      obtain ⟨b, o, rfl, hb, cA⟩ := (h.below hbel).at_ hpl
      obtain ⟨x, hx⟩ : ∃ x, l[p] = x := ⟨_, rfl⟩
      rw [hx] at cA
      have hx64 : I64 x := by rw [← hx]; exact h.i64 _ (List.getElem_mem hpl)
      have hrev : l.reverse.take (k + 1) = l.reverse.take k ++ [x] := by
        rw [List.take_add_one, rev_get (by rw [HL.out]; omega), show l.length - 1 - k = p by rw [HL.out]; exact hp, List.getElem?_eq_getElem hpl, hx]; rfl
      obtain ⟨A2, c2, w2, eA, hO2, hB2, _⟩ := (hOw.alloc (.cells #[vint x] 3)).app (SL.lit wr 3 [x] _ rfl (by simp [maxLen]) (by simpa using hx64)) (by have := hbel.size; simp; omega) (by simp; omega)
      rw [← hrev] at hO2
      have hbel2 := (hbel.alloc (hbel.size) (.cells #[vint x] 3)).trans hB2
      have HP := Lib.hid hp
      clear hrev hx hp hOw hpl
      go_wp2_with (at_builtin; refine wpList_append_eq rfl _ _ _ rfl rfl rfl eA ?_; clear eA)
      refine ⟨⟨k + 1, A2, c2, by omega, ?_, by simp, by simpa using hO2, hbel2⟩, by simp only [intOf]; omega⟩
      simp; omega
    · obtain rfl : k = n := by omega
      have g4 : (k : Int) - 1 - (k : Int) = -1 := by omega
      rw [g4]
      rw [List.take_of_length_le (by rw [List.length_reverse, HL.out]; omega)] at hOw
      go_wp2
      go_ret
      exact ⟨_, _, _, rfl, hOw.sl, hbel⟩
end Go.Proofs.Yteljglhfimhmlaa
