/- The reference's Same of two equal clips that are takes. -/
import Derived.Test.YteconepbhajjeaaPlacesB
import Derived.Deep.MidRow
namespace Go.Proofs.Yteconepbhajjeaa
open Go.RowKit
def digA (b : Nat → Int) : Array Value := #[.int .u8 (b 0), .int .u8 (b 1), .int .u8 (b 2), .int .u8 (b 3), .int .u8 (b 4), .int .u8 (b 5), .int .u8 (b 6), .int .u8 (b 7), .int .u8 (b 8), .int .u8 (b 9), .int .u8 (b 10), .int .u8 (b 11), .int .u8 (b 12), .int .u8 (b 13), .int .u8 (b 14), .int .u8 (b 15), .int .u8 (b 16), .int .u8 (b 17), .int .u8 (b 18), .int .u8 (b 19), .int .u8 (b 20), .int .u8 (b 21), .int .u8 (b 22), .int .u8 (b 23), .int .u8 (b 24), .int .u8 (b 25), .int .u8 (b 26), .int .u8 (b 27), .int .u8 (b 28), .int .u8 (b 29), .int .u8 (b 30), .int .u8 (b 31)]
def clipA (b : Nat → Int) (f n : Int) : Array Value := #[.int .i64 1, .int .u8 (b 0), .int .u8 (b 1), .int .u8 (b 2), .int .u8 (b 3), .int .u8 (b 4), .int .u8 (b 5), .int .u8 (b 6), .int .u8 (b 7), .int .u8 (b 8), .int .u8 (b 9), .int .u8 (b 10), .int .u8 (b 11), .int .u8 (b 12), .int .u8 (b 13), .int .u8 (b 14), .int .u8 (b 15), .int .u8 (b 16), .int .u8 (b 17), .int .u8 (b 18), .int .u8 (b 19), .int .u8 (b 20), .int .u8 (b 21), .int .u8 (b 22), .int .u8 (b 23), .int .u8 (b 24), .int .u8 (b 25), .int .u8 (b 26), .int .u8 (b 27), .int .u8 (b 28), .int .u8 (b 29), .int .u8 (b 30), .int .u8 (b 31), .int .i64 f, .int .i64 n, .int .i64 0, .int .i64 0, .slice none 0 0, .slice none 0 0]
set_option maxHeartbeats 1000000 in
set_option maxRecDepth 100000 in
theorem dig_eqIn (b : Nat → Int) (W : World) : (Op.equalIn 10000 34 (.agg (digA b)) (.agg (digA b))).run Try.prog W = .ok true W := by
  unfold digA
  rw [show (10000 : Nat) = 9999 + 1 from rfl, Op.equalIn]
  simp only [Sem.run_bind, run_underlying Try.underlying34, Result.andThen_ok]
  simp only [Std.Legacy.Range.forIn_eq_forIn_range', Std.Legacy.Range.size, Nat.sub_zero, Nat.add_sub_cancel, Nat.div_one, List.range'_succ, List.range'_zero, List.forIn_cons, List.forIn_nil]
  go_simp
/-- The cells of a digest that lies in memory. -/
def digOf (W : World) (g o : Nat) : Array Value := ((List.range 32).map fun j => (W.cell? ⟨g, o + j, none⟩).getD undef).toArray
def DigIn (W : World) (g o : Nat) : Prop := ∀ j, j < 32 → (W.cell? ⟨g, o + j, none⟩).isSome = true
theorem run_load_dig (W : World) (g o : Nat) (h : DigIn W g o) : (Instr.loadAt 34 (.pointer (some ⟨g, o, none⟩))).run Try.prog W = .ok (.agg (digOf W g o)) W := by
  have := run_loadAt_mid (P := Try.prog) W g o 34 (digOf W g o).toList _ (fun j v hv => by
    have hj : j < 32 := by have := (List.getElem?_eq_some_iff.1 hv).1; simpa [digOf] using this
    obtain ⟨v', hv'⟩ := Option.isSome_iff_exists.1 (h j hj)
    rw [hv']
    simp [digOf, hj, hv'] at hv
    rw [hv]) Try.underlying34 rfl (by simp only [digOf, List.length_map, List.length_range]; kernel_rfl)
  simpa using this
theorem digIn_clip {W : World} {g o : Nat} {b : Nat → Int} {f n : Int} (h : ∀ j v, (clipA b f n)[j]? = some v → W.cell? ⟨g, o + j, none⟩ = some v) : DigIn W g (o + 1) ∧ digOf W g (o + 1) = digA b := by
  have hk : ∀ j, j < 32 → (clipA b f n)[j + 1]? = some (.int .u8 (b j)) := by
    intro j hj
    have e : (clipA b f n).toList = .int .i64 1 :: ((List.range 32).map (fun j => Value.int .u8 (b j)) ++ [.int .i64 f, .int .i64 n, .int .i64 0, .int .i64 0, .slice none 0 0, .slice none 0 0]) := rfl
    rw [← Array.getElem?_toList, e, List.getElem?_cons_succ, List.getElem?_append_left (by simpa using hj)]
    simp [hj]
  have hc : ∀ j, j < 32 → W.cell? ⟨g, o + 1 + j, none⟩ = some (.int .u8 (b j)) := fun j hj => by
    rw [Nat.add_assoc, Nat.add_comm 1 j]; exact h _ _ (hk j hj)
  refine ⟨fun j hj => by rw [hc j hj]; rfl, ?_⟩
  unfold digOf
  have : (List.range 32).map (fun j => (W.cell? ⟨g, o + 1 + j, none⟩).getD undef) = (List.range 32).map fun j => Value.int .u8 (b j) := List.map_congr_left fun j hj => by rw [hc j (by simpa using hj)]; rfl
  rw [this]
  rfl
/-- A guarded operation whose guard is met. -/
theorem wpList_wanted {P : Program} {ops : Array Oper} {rest : List Oper} {o : Oper} {a : Act} {w : World} {Q : Exit → Act → World → Prop} (hw : Region.wanted o (yielded ops a.tmps) = true)
    (h : ∀ K : Act → World → Prop, (∀ a w, wpList P ops Q rest a w → K a w) → o.wp P a w K Q) : wpList P ops Q (o :: rest) a w :=
  wpList_step fun K hK => by simp only [hw, if_true]; exact h K hK
theorem wpList_load_dig {ops : Array Oper} {rest : List Oper} {o : Oper} {a : Act} {w : World} {Q : Exit → Act → World → Prop} (hw : Region.wanted o (yielded ops a.tmps) = true) (x : Operand) (ho : o.op = .load 34 x)
    (g i : Nat) (hx : a.eval x = .pointer (some ⟨g, i, none⟩)) (hc : DigIn w g i) (dg : Array Value) (hd : digOf w g i = dg) (h : wpList Try.prog ops Q rest (a.put o.dst (.agg dg)) w) : wpList Try.prog ops Q (o :: rest) a w := by
  subst hd
  refine wpList_wanted hw fun K hK => ?_
  unfold Oper.wp execOp
  simp only [ho, hx, run_load_dig w g i hc, Result.andThen_ok, Sem.run_bind]
  exact hK _ _ h
set_option maxHeartbeats 400000 in
set_option maxRecDepth 100000 in
theorem csame_eq (b : Nat → Int) (f n : Int) (w : World) :
    Calls Try.prog 17 #[.agg (clipA b f n), .agg (clipA b f n)] w fun e w' => e = .returned (.bool true) ∧ Below w.heap.size w w' := by
  have B0 := (Blk.new w 41 (clipA b f n)).alloc (.cells (clipA b f n) 41)
  have B1 := Blk.new (w.alloc (.cells (clipA b f n) 41)) 41 (clipA b f n)
  rw [World.size_alloc] at B1
  have hB := Bel.al (Bel.al (Below.refl _ w) (.cells (clipA b f n) 41)) (.cells (clipA b f n) 41)
  have c0 := B0.cell 0
  have c1 := B0.cell 33
  have c2 := B0.cell 34
  have c3 := B0.cell 35
  have c4 := B0.cell 36
  have c5 := B0.cell 37
  have c6 := B0.cell 38
  have d0 := B1.cell 0
  have d1 := B1.cell 33
  have d2 := B1.cell 34
  have d3 := B1.cell 35
  have d4 := B1.cell 36
  have d5 := B1.cell 37
  have d6 := B1.cell 38
  have L0 := digIn_clip (W := (w.alloc (.cells (clipA b f n) 41)).alloc (.cells (clipA b f n) 41)) (g := w.heap.size) (o := 0) (b := b) (f := f) (n := n) (fun j v hv => by rw [Nat.zero_add, B0.cell]; exact hv)
  have L1 := digIn_clip (W := (w.alloc (.cells (clipA b f n) 41)).alloc (.cells (clipA b f n) 41)) (g := w.heap.size + 1) (o := 0) (b := b) (f := f) (n := n) (fun j v hv => by rw [Nat.zero_add, B1.cell]; exact hv)
  have E := fun W => dig_eqIn b W
  have k0 : (clipA b f n)[0]? = some (.int .i64 1) := rfl
  have k1 : (clipA b f n)[33]? = some (.int .i64 f) := rfl
  have k2 : (clipA b f n)[34]? = some (.int .i64 n) := rfl
  have k3 : (clipA b f n)[35]? = some (.int .i64 0) := rfl
  have k4 : (clipA b f n)[36]? = some (.int .i64 0) := rfl
  have k5 : (clipA b f n)[37]? = some (.slice none 0 0) := rfl
  have k6 : (clipA b f n)[38]? = some (.slice none 0 0) := rfl
  rw [k0] at c0 d0
  rw [k1] at c1 d1
  rw [k2] at c2 d2
  rw [k3] at c3 d3
  rw [k4] at c4 d4
  rw [k5] at c5 d5
  rw [k6] at c6 d6
  clear k0 k1 k2 k3 k4 k5 k6
  clear B0 B1
  generalize clipA b f n = cl at *
  generalize digA b = dg at *
  simp only [Nat.zero_add] at L0 L1
  obtain ⟨W0, hW0⟩ : ∃ W0, (w.alloc (.cells cl 41)).alloc (.cells cl 41) = W0 := ⟨_, rfl⟩
  rw [hW0] at c0 c1 c2 c3 c4 c5 c6 d0 d1 d2 d3 d4 d5 d6 L0 L1 hB
  have HB := Lib.hid hB
  clear hB
  obtain ⟨l0, m0⟩ := L0
  obtain ⟨l1, m1⟩ := L1
  have HD0 := Lib.hid (And.intro l0 m0)
  have HD1 := Lib.hid (And.intro l1 m1)
  clear l0 m0 l1 m1
  go_enter Try.func17, Try.ntmps17
  go_wp2_with (first
    | (refine wpList_load_dig (by first | rfl | simp [Region.wanted, yielded]) (.tmp 13) rfl w.heap.size 1 rfl HD0.out.1 dg HD0.out.2 ?_)
    | (refine wpList_load_dig (by first | rfl | simp [Region.wanted, yielded]) (.tmp 15) rfl (w.heap.size + 1) 1 rfl HD1.out.1 dg HD1.out.2 ?_))
  go_loop [5] (fun i => i = .int .i64 0) (fun _ => 0)
  case atStart => rfl
  case round =>
    subst hrel
    go_wp2
    go_loop [6] (fun i => i = .int .i64 0) (fun _ => 0)
    case atStart => rfl
    case round =>
      subst hrel
      go_wp2
      go_ret
      exact ⟨rfl, HB.out⟩
end Go.Proofs.Yteconepbhajjeaa
