/- Layer 44: the reference's Heard and Same. -/
import Derived.Test.YteconepbhajjeaaOvD
namespace Go.Proofs.Yteconepbhajjeaa
open Go.RowKit

theorem heardS_skip {l : List Spn} {s : Spn} {a : Int} (h : ¬ (on s = true ∧ s.eng ≤ a ∧ a < s.eng + s.len)) : heardS (s :: l) a = heardS l a := by
  show (if _ then _ else _) = _
  rw [if_neg h]
theorem heardS_hit {l : List Spn} {s : Spn} {a : Int} (h : on s = true ∧ s.eng ≤ a ∧ a < s.eng + s.len) : heardS (s :: l) a = s.song + a - s.eng := by
  show (if _ then _ else _) = _
  rw [if_pos h]
set_option maxHeartbeats 2000000 in
theorem rheard_any (A : Option Addr) (n c : Nat) (l : List Spn) (a : Int) (w : World) (h : SA spanE w A n c l) (ho : OrdTo l l.length) (h1 : -4398046511104 ≤ a) (h2 : a ≤ 4398046511104) :
    Calls Try.prog 25 #[.slice A n c, .int .i64 a] w fun e w' => e = .returned (.int .i64 (heardS l a)) ∧ Below w.heap.size w w' := by
  have hlen := h.len
  have HL := Lib.hid h.n_eq
  have HH := Lib.hid h
  have HO := Lib.hid ho
  clear h ho
  go_enter Try.func25, Try.ntmps25
  go_wp2
  go_loopw [5] (fun i wr => ∃ k : Nat, k ≤ n ∧ i = .int .i64 k ∧ Hid (heardS l a = heardS (l.drop k) a) ∧ Below w.heap.size w wr) (fun i _ => n - (intOf i).toNat)
  case atStart => exact ⟨0, Nat.zero_le _, rfl, Lib.hid rfl, Below.refl _ _⟩
  case round =>
    obtain ⟨k, hk, rfl, he, hB⟩ := hrel
    by_cases hlt : k < n
    · have hkl : k < l.length := by rw [HL.out]; exact hlt
      obtain ⟨s, hs⟩ : ∃ s, l[k] = s := ⟨_, rfl⟩
      have hs' : l[k]? = some s := by rw [List.getElem?_eq_getElem hkl, hs]
      obtain ⟨b1, b2, b3, b4, b5, b6⟩ := ord_bounds HO.out hkl hs'
      obtain ⟨b, o, rfl, hb, c0, c1, c2, c3, c4⟩ := span_at (HH.out.below hB) hkl hs
      have hd : l.drop k = s :: l.drop (k + 1) := by rw [List.drop_eq_getElem_cons hkl, hs]
      have HD := Lib.hid hd
      clear hs hs' hd
      obtain ⟨sE, sL, sS, sR, sC⟩ := s
      dsimp only at b1 b2 b3 b4 b5 b6 c0 c1 c2 c3 c4
      by_cases hh : on ⟨sE, sL, sS, sR, sC⟩ = true ∧ sE ≤ a ∧ a < sE + sL
      · have HN := Lib.hid (show heardS l a = sS + a - sE by rw [he.out, HD.out, heardS_hit hh])
        obtain ⟨g1, g2, g3⟩ := hh
        simp only [on, Bool.and_eq_true] at g1
        obtain ⟨rfl, rfl⟩ := g1
        go_wp2
        go_ret
        exact ⟨ret_int HN.out.symm, Bel.al hB _⟩
      · have HN := Lib.hid (show heardS l a = heardS (l.drop (k + 1)) a by rw [he.out, HD.out, heardS_skip hh])
        have hc : sR = false ∨ (sR = true ∧ sC = false) ∨ (sR = true ∧ sC = true ∧ a < sE) ∨ (sR = true ∧ sC = true ∧ sE ≤ a ∧ sE + sL ≤ a) := by
          cases sR <;> cases sC <;> simp [on] at hh ⊢
          omega
        clear hh he
        rcases hc with rfl | ⟨rfl, rfl⟩ | ⟨rfl, rfl, g⟩ | ⟨rfl, rfl, g1, g2⟩
        all_goals
          go_wp2
          exact ⟨⟨k + 1, by omega, by simp, HN.out ▸ HN, Bel.al hB _⟩, by simp only [intOf]; omega⟩
    · obtain rfl : k = n := by omega
      have HN := Lib.hid (show heardS l a = -1 by rw [he.out, List.drop_of_length_le (by rw [HL.out]; omega)]; rfl)
      clear he
      go_wp2
      go_ret
      exact ⟨ret_int HN.out.symm, hB⟩

end Go.Proofs.Yteconepbhajjeaa
