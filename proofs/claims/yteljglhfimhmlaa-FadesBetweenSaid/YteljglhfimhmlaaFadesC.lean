/- Package fades (layer 27), third part: the iterator over the gains. -/
import Derived.Test.YteljglhfimhmlaaFadesB
import Derived.Test.YteljglhfimhmlaaRound
namespace Go.Proofs.Yteljglhfimhmlaa
open Go.RowKit Go.Shelf
attribute [local go_sem] Oper.semAt_some

def gEncs (N : Nat) (i : Fin N) : Array Value := #[.int .i64 (i.val : Int), .int .i64 (gainS i.val N)]

/-- One cell is kept. -/
def KCell (B : Nat) (W W' : World) : Prop := W'.cell? ⟨B, 0, none⟩ = W.cell? ⟨B, 0, none⟩
theorem KCell.t {B : Nat} {X Y Z : World} (h : KCell B X Y) (k : KCell B Y Z) : KCell B X Z := Eq.trans k h
theorem KCell.b {B : Nat} {w : World} (hB : B < w.heap.size) (W : World) (l : Nat) (o o' : Obj) (hl : w.heap.size ≤ l) (_ : W.heap[l]? = some o) (_ : o.isCells = false) (_ : o.isWalk = false) : KCell B W (W.putObj l o') := by
  unfold KCell
  exact World.cell?_of_block (World.putObj_heap_other (by show B ≠ l; omega))
theorem take_finRange_succ {N k : Nat} (h : k < N) : (List.finRange N).take (k + 1) = (List.finRange N).take k ++ [⟨k, h⟩] := by
  rw [List.take_succ_eq_append_getElem (by simpa using h)]; simp

set_option maxHeartbeats 1000000 in
theorem gains_stops (n N B : Nat) (hn : 1 ≤ n) (hN : N ≤ 16777216) (w : World) (hB : w.cell? ⟨B, 0, none⟩ = some (.int .i64 (N : Int))) :
    SeqStopsK FW n Try.prog 81 #[.pointer (some ⟨B, 0, none⟩)] (gEncs N) (KCell B) (fun xs => xs = List.finRange N) (fun _ => True) N w := by
  intro l J Jx W hW _ _ hY h0
  have hBW : W.cell? ⟨B, 0, none⟩ = some (.int .i64 (N : Int)) := (hW.cell (lt_of_cell hB)).trans hB
  refine callsIn_of_wp Try.func81 rfl trivial ?_ rfl
  simp only [Try.ntmps81, List.size_toArray, List.length_cons, List.length_nil, Nat.reduceAdd, Nat.reduceSub, Array.replicate_succ, Array.replicate_zero, List.push_toArray, List.append_toArray, List.nil_append, List.cons_append]
  gi_wp2
  gi_loopw [7] (fun i wr => ∃ k : Nat, k ≤ N ∧ i = .int .i64 k ∧ J ((List.finRange N).take k) wr ∧ wr.cell? ⟨B, 0, none⟩ = some (.int .i64 (N : Int))) (fun i _ => N - (intOf i).toNat)
  case atStart => exact ⟨0, Nat.zero_le _, rfl, by simpa using h0, hBW⟩
  case round =>
    obtain ⟨k, hk, rfl, hJ, hBr⟩ := hrel
    clear hBW hB
    by_cases hlt : k < N
    · have hg : gainR k N = (gainS k N, 0) := by
        have : GainOk (k : Int) (N : Int) := by unfold GainOk; omega
        simp [gainR, this]
      obtain ⟨fn, tmps, assign, body, hy, hR⟩ := hY _ ⟨k, hlt⟩ wr hJ (by simp; omega)
      rw [← take_finRange_succ hlt] at hR
      dsimp only [gEncs] at hy
      gi_wp2_with (refine ⟨trivial, ?_⟩; gi_at_call 37; refine (callsIn_wide.2 (gain_any _ _ _ (by unfold I64; omega) (by unfold I64; omega))).mono ?_; rintro e w' ⟨rfl, rfl⟩)
      refine hR.mono ?_
      rintro e W3 (⟨rfl, hJ3, hk3⟩ | ⟨rfl, hJx3⟩)
      · have hB3 := Eq.trans hk3 hBr
        clear hBr
        gi_wp2
        go_roundw
        case rel => exact ⟨k + 1, by omega, by go_num, hJ3, hB3⟩
        case measure => simp [intOf]; omega
      · gi_wp2
        refine bodyPost_ret (results_none rfl _ _ _) rfl ?_
        exact ⟨⟨_, rfl⟩, .inr ⟨_, trivial, hJx3⟩⟩
    · obtain rfl : k = N := by omega
      gi_wp2
      go_end0
      exact ⟨⟨_, rfl⟩, .inl ⟨_, rfl, by rwa [List.take_of_length_le (by simp)] at hJ⟩⟩
end Go.Proofs.Yteljglhfimhmlaa
