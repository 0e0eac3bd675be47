/- Layer 42: slices.Backward over records, find. -/
import Derived.Test.YteconepbhajjeaaCalB
import Derived.Test.YteconepbhajjeaaSeq
import Derived.Test.YteconepbhajjeaaRoundW
import Derived.Test.YteconepbhajjeaaOvC
import Derived.Laws.EntriesVeiled
namespace Go.Proofs.Yteconepbhajjeaa
open Go.RowKit Go.Shelf
attribute [local go_sem] Oper.semAt_some

theorem back_any (A : Option Addr) (n c : Nat) (w : World) : Calls Try.prog 37 #[.slice A n c] w fun e w' =>
    e = .returned (.func (.func 42) #[] #[.pointer (some ⟨w.heap.size, 0, none⟩)]) ∧ w.alloc (.cells #[.slice A n c] 30) = w' := by
  go_enter Try.func37, Try.ntmps37
  go_wp2
  go_ret
  exact ⟨rfl, rfl⟩
def bwEnc (x : Nat × Rcd) : Array Value := #[.int .i64 (x.1 : Int), rAgg x.2]
set_option maxHeartbeats 2000000 in
theorem back_seq (g n c PL : Nat) (A : Option Addr) (l : List Rcd) (w : World) (h : SA rcdE w A n c l) (hg : 1 ≤ g) (cL : w.cell? ⟨PL, 0, none⟩ = some (.slice A n c)) :
    SeqX FW g Try.prog 42 #[.pointer (some ⟨PL, 0, none⟩)] bwEnc (fun k => k = PL ∨ ∃ a, A = some a ∧ 0 < n ∧ k = a.block)
      (fun xs => xs.length = n) (fun _ => True) (fun pre x => pre.length < n ∧ x.1 = n - 1 - pre.length ∧ l[x.1]? = some x.2) w := by
  intro lp J Jx X0 W hW hJ hJx hX0 hY hJ0
  have hlen := h.len
  have hHL := Lib.hid h.n_eq
  have hSW := h.below hW
  have cLW := (hW.cell (lt_of_cell cL)).trans cL
  clear h cL hW
  refine callsIn_of_wp Try.func42 rfl trivial ?_ rfl
  simp only [Try.ntmps42, List.size_toArray, List.length_cons, List.length_nil, Nat.reduceAdd, Nat.reduceSub, Array.replicate_succ, Array.replicate_zero, List.push_toArray, List.append_toArray, List.nil_append, List.cons_append]
  gi_wp2
  gi_loopw [3] (fun i wr => ∃ (k : Nat) (X : Nat → Prop) (pre : List (Nat × Rcd)), k ≤ n ∧ i = .int .i64 ((k : Int) - 1) ∧ Hid (J pre X wr) ∧ pre.length + k = n ∧ wr.cell? ⟨PL, 0, none⟩ = some (.slice A n c) ∧ SA rcdE wr A n c l) (fun i _ => (intOf i + 1).toNat)
  case atStart => exact ⟨n, X0, [], Nat.le_refl _, rfl, Lib.hid hJ0, by simp, cLW, hSW⟩
  case round =>
    clear cLW hSW
    obtain ⟨k, X, pre, hk, rfl, HJ, hpk, cL1, hS1⟩ := hrel
    by_cases hk0 : k = 0
    · subst hk0
      gi_wp2
      go_end0
      exact ⟨⟨_, rfl⟩, .inl ⟨_, _, by omega, HJ.out⟩⟩
    · obtain ⟨p, rfl⟩ : ∃ p, k = p + 1 := ⟨k - 1, by omega⟩
      have hpl : p < l.length := by rw [hHL.out]; omega
      obtain ⟨s, hs⟩ : ∃ s, l[p] = s := ⟨_, rfl⟩
      have hs' : l[p]? = some s := by rw [List.getElem?_eq_getElem hpl, hs]
      obtain ⟨bb, oo, hAe, _, c0, c1, c2, c3, c4⟩ := rcd_at hS1 hpl hs
      have g3 : (0 : Int) ≤ (p : Int) := by omega
      have g4 : (p : Int) < (n : Int) := by omega
      have gp : ((p + 1 : Nat) : Int) - 1 = p := by omega
      rw [gp]
      subst hAe
      have hw := hY pre (p, s) X wr HJ.out ⟨by omega, by simp; omega, hs'⟩
      have HSL := Lib.hid hS1
      clear hY hs hs' hk0 hS1
      obtain ⟨fn, tmps, assign, body, hy, hR⟩ := hw
      dsimp only [bwEnc, rAgg] at hy
      gi_wp2
      refine hR.mono ?_
      rintro e W3 (⟨rfl, hJ3, hk3⟩ | ⟨rfl, hJx3⟩)
      · have hL4 := hk3.cell (p := ⟨PL, 0, none⟩) (.inl (.inl rfl)) cL1
        have hS4 := HSL.out.keep hk3 (fun a ha hn0 => .inl (.inr ⟨a, ha, hn0, rfl⟩))
        have HJ3 := Lib.hid hJ3
        clear hJ3 hy c0 c1 c2 c3 c4
        gi_wp2
        refine ⟨⟨p, _, _, by omega, by simp, HJ3, by simp; omega, hL4, hS4⟩, by simp only [intOf]; omega⟩
      · gi_wp2
        refine bodyPost_ret (results_none rfl _ _ _) rfl ?_
        exact ⟨⟨_, rfl⟩, .inr ⟨_, _, trivial, hJx3⟩⟩
end Go.Proofs.Yteconepbhajjeaa
