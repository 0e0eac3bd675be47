/- Layer 50: compare. -/
import Derived.Test.YtmfdflfjllpceaaZMvA
import Derived.Test.YtmfdflfjllpceaaZRoundW
import Derived.Test.YtmfdflfjllpceaaZInv
import Derived.Deep.DeepCutAuto
import Derived.Laws.CopyOwn
namespace Go.Proofs.Ytmfdflfjllpceaa
open Go.RowKit

theorem keyOf_dr (e : Ev) (w : World) : Calls Try.prog 45 #[.agg (evA e)] w fun e' w' => e' = .returned (.agg (evA e)) ∧ Below w.heap.size w w' ∧ w.drawn ≤ w'.drawn := by
  obtain ⟨a, b, c, d, f, g⟩ := e
  unfold evA
  dsimp only
  go_enter Try.func45, Try.ntmps45
  go_wp2
  exact bodyPost_ret (v := .agg #[.int .i64 a, .int .i64 b, .int .i64 c, .int .i64 d, .int .i64 f, .int .i64 g]) (by simp [results, Try.results45, go_sem]) rfl ⟨rfl, ((Below.refl _ w).alloc (Nat.le_refl _) _).alloc (by simp) _, Nat.le_refl _⟩
def zero6 : Array Value := #[.int .i64 0, .int .i64 0, .int .i64 0, .int .i64 0, .int .i64 0, .int .i64 0]
/-- What holds within compare's first region. -/
def CInv (n : Nat) (W0 : World) (x y : Ev) (listed : Array Bool) (a : Act) (w : World) : Prop :=
  listed.size = 8 ∧ ∃ s5 s6 s7 s8 s9 s10, a = ⟨#[.agg (evA x), .agg (evA y), .pointer (some ⟨n, 0, none⟩), .pointer (some ⟨n + 1, 0, none⟩), .int .i64 0, s5, s6, s7, s8, s9, s10, undef, undef, undef], []⟩ ∧ Below (n + 1 + 1) W0 w ∧ (n + 1 + 1 ≤ w.heap.size ∧ W0.drawn ≤ w.drawn) ∧
  (listed.getD 0 false = true → s7 = .agg (evA x)) ∧ (listed.getD 1 false = true → s8 = .agg (evA x)) ∧ (listed.getD 2 false = true → s9 = .agg (evA y)) ∧ (listed.getD 3 false = true → s10 = .agg (evA y)) ∧
  (listed.getD 4 false = true → ∃ D, s5 = .pointer (some ⟨D, 0, none⟩) ∧ n + 1 + 1 ≤ D ∧ Blk w D 72 (if listed.getD 6 false = true then evA x else zero6)) ∧
  (listed.getD 5 false = true → ∃ D, s6 = .pointer (some ⟨D, 0, none⟩) ∧ n + 1 + 1 ≤ D ∧ Blk w D 72 (if listed.getD 7 false = true then evA y else zero6)) ∧
  (listed.getD 4 false = true → listed.getD 5 false = true → s5 ≠ s6) ∧
  (listed.getD 6 false = true → listed.getD 4 false = true) ∧ (listed.getD 7 false = true → listed.getD 5 false = true)
theorem getD_set (l : Array Bool) (i j : Nat) (d : Bool) (hi : i < l.size) : (l.setIfInBounds i true).getD j d = if i = j then true else l.getD j d := by
  rw [Array.getD_eq_getD_getElem?, Array.getElem?_setIfInBounds, Array.getD_eq_getD_getElem?]
  split
  · subst_vars; simp
  · rfl
set_option maxHeartbeats 1000000 in
theorem compare_any (x y : Ev) (w : World) (hx : ∀ z ∈ ekey x, I64 z) (hy : ∀ z ∈ ekey y, I64 z) : Calls Try.prog 29 #[.agg (evA x), .agg (evA y)] w fun e w' => e = .returned (.int .i64 (lcmp (ekey x) (ekey y))) ∧ Below w.heap.size w w' ∧ w.drawn ≤ w'.drawn := by
  obtain ⟨n, hn⟩ : ∃ n, w.heap.size = n := ⟨_, rfl⟩
  have B0 := (Blk.new w 40 (evA x)).alloc (.cells (evA y) 40)
  have B1 := Blk.new (w.alloc (.cells (evA x) 40)) 40 (evA y)
  rw [World.size_alloc] at B1
  rw [hn] at B0 B1
  obtain ⟨W0, hW0⟩ : ∃ W0, (w.alloc (.cells (evA x) 40)).alloc (.cells (evA y) 40) = W0 := ⟨_, rfl⟩
  have z0 : W0.heap.size = n + 1 + 1 := by rw [← hW0, ← hn]; simp
  have hB : Below n w W0 ∧ w.drawn = W0.drawn := by rw [← hW0, ← hn]; exact ⟨Bel.al (Bel.al (Below.refl _ w) _) _, rfl⟩
  rw [hW0] at B0 B1
  have H := Lib.hid (And.intro B0 (And.intro B1 hB))
  clear B0 B1 hB
  go_enter Try.func29, Try.ntmps29
  go_wp2
  refine wp_region_inv (by kernel_rfl) (CInv n W0 x y) ?_ ?_ ?_
  · refine ⟨by simp, _, _, _, _, _, _, rfl, ((Below.refl W0.heap.size W0).drew).mono (by omega), ⟨by show n + 1 + 1 ≤ W0.heap.size; omega, Nat.le_succ _⟩, ?_, ?_, ?_, ?_, ?_, ?_, ?_, ?_, ?_⟩
    all_goals (intro h; simp at h)
  · intro i listed a w1 hi hI
    obtain ⟨hsz, s5, s6, s7, s8, s9, s10, rfl, hb, ⟨hs, hdr⟩, i0, i1, i2, i3, i4, i5, i6, i7, i8⟩ := hI
    obtain ⟨r1, o, ho, hr⟩ := mem_ready.1 hi
    have hi8 : i < 8 := by have := (List.getElem?_eq_some_iff.1 (by simpa using ho)).1; simpa using this
    have hc : i = 0 ∨ i = 1 ∨ i = 2 ∨ i = 3 ∨ i = 4 ∨ i = 5 ∨ i = 6 ∨ i = 7 := by omega
    rcases hc with rfl | rfl | rfl | rfl | rfl | rfl | rfl | rfl
    · have hl : 0 < listed.size := by omega
      have hX := H.out.1.below hb (by omega)
      have x0 : w1.cell? ⟨n, 0, none⟩ = some (.int .i64 x.tick) := hX.cell 0
      have x1 : w1.cell? ⟨n, 1, none⟩ = some (.int .i64 x.kind) := hX.cell 1
      have x2 : w1.cell? ⟨n, 2, none⟩ = some (.int .i64 x.ch) := hX.cell 2
      have x3 : w1.cell? ⟨n, 3, none⟩ = some (.int .i64 x.key) := hX.cell 3
      have x4 : w1.cell? ⟨n, 4, none⟩ = some (.int .i64 x.val) := hX.cell 4
      have x5 : w1.cell? ⟨n, 5, none⟩ = some (.int .i64 x.no) := hX.cell 5
      clear hX
      unfold wpOp
      go_simp
      refine Or.inl ⟨by simp [hsz], _, _, _, _, _, _, rfl, hb, ⟨hs, hdr⟩, ?_, ?_, ?_, ?_, ?_, ?_, ?_, ?_, ?_⟩
      all_goals simp only [getD_set _ 0 _ _ hl, reduceCtorEq, if_true, if_false]
      all_goals first | assumption | exact fun _ => rfl | exact fun _ => trivial | skip
    · have hl : 1 < listed.size := by omega
      obtain rfl := Option.some.inj ho
      obtain rfl := i0 (hr ⟨0, .data⟩ (by simp) rfl)
      unfold wpOp
      go_simp
      refine Or.inl ((keyOf_dr x w1).mono ?_)
      rintro e w2 ⟨rfl, hb2, hd2⟩
      have hsz2 := hb2.size
      have j4 : listed.getD 4 false = true → ∃ D, s5 = .pointer (some ⟨D, 0, none⟩) ∧ n + 1 + 1 ≤ D ∧ Blk w2 D 72 (if listed.getD 6 false = true then evA x else zero6) := fun h => by obtain ⟨D, e, h1, h2⟩ := i4 h; exact ⟨D, e, h1, h2.belowAll hb2⟩
      have j5 : listed.getD 5 false = true → ∃ D, s6 = .pointer (some ⟨D, 0, none⟩) ∧ n + 1 + 1 ≤ D ∧ Blk w2 D 72 (if listed.getD 7 false = true then evA y else zero6) := fun h => by obtain ⟨D, e, h1, h2⟩ := i5 h; exact ⟨D, e, h1, h2.belowAll hb2⟩
      clear i4 i5
      refine ⟨by simp [hsz], _, _, _, _, _, _, rfl, hb.trans (hb2.mono hs), ⟨by omega, by omega⟩, ?_, ?_, ?_, ?_, ?_, ?_, ?_, ?_, ?_⟩
      all_goals simp only [getD_set _ 1 _ _ hl, reduceCtorEq, Nat.reduceEqDiff, if_true, if_false]
      all_goals first | assumption | exact fun _ => rfl | exact fun _ => trivial | skip
    · have hl : 2 < listed.size := by omega
      have hX := H.out.2.1.below hb (by omega)
      have x0 : w1.cell? ⟨n + 1, 0, none⟩ = some (.int .i64 y.tick) := hX.cell 0
      have x1 : w1.cell? ⟨n + 1, 1, none⟩ = some (.int .i64 y.kind) := hX.cell 1
      have x2 : w1.cell? ⟨n + 1, 2, none⟩ = some (.int .i64 y.ch) := hX.cell 2
      have x3 : w1.cell? ⟨n + 1, 3, none⟩ = some (.int .i64 y.key) := hX.cell 3
      have x4 : w1.cell? ⟨n + 1, 4, none⟩ = some (.int .i64 y.val) := hX.cell 4
      have x5 : w1.cell? ⟨n + 1, 5, none⟩ = some (.int .i64 y.no) := hX.cell 5
      clear hX
      unfold wpOp
      go_simp
      refine Or.inl ⟨by simp [hsz], _, _, _, _, _, _, rfl, hb, ⟨hs, hdr⟩, ?_, ?_, ?_, ?_, ?_, ?_, ?_, ?_, ?_⟩
      all_goals simp only [getD_set _ 2 _ _ hl, reduceCtorEq, Nat.reduceEqDiff, if_true, if_false]
      all_goals first | assumption | exact fun _ => rfl | exact fun _ => trivial | skip
    · have hl : 3 < listed.size := by omega
      obtain rfl := Option.some.inj ho
      obtain rfl := i2 (hr ⟨2, .data⟩ (by simp) rfl)
      unfold wpOp
      go_simp
      refine Or.inl ((keyOf_dr y w1).mono ?_)
      rintro e w2 ⟨rfl, hb2, hd2⟩
      have hsz2 := hb2.size
      have j4 : listed.getD 4 false = true → ∃ D, s5 = .pointer (some ⟨D, 0, none⟩) ∧ n + 1 + 1 ≤ D ∧ Blk w2 D 72 (if listed.getD 6 false = true then evA x else zero6) := fun h => by obtain ⟨D, e, h1, h2⟩ := i4 h; exact ⟨D, e, h1, h2.belowAll hb2⟩
      have j5 : listed.getD 5 false = true → ∃ D, s6 = .pointer (some ⟨D, 0, none⟩) ∧ n + 1 + 1 ≤ D ∧ Blk w2 D 72 (if listed.getD 7 false = true then evA y else zero6) := fun h => by obtain ⟨D, e, h1, h2⟩ := i5 h; exact ⟨D, e, h1, h2.belowAll hb2⟩
      clear i4 i5
      refine ⟨by simp [hsz], _, _, _, _, _, _, rfl, hb.trans (hb2.mono hs), ⟨by omega, by omega⟩, ?_, ?_, ?_, ?_, ?_, ?_, ?_, ?_, ?_⟩
      all_goals simp only [getD_set _ 3 _ _ hl, reduceCtorEq, Nat.reduceEqDiff, if_true, if_false]
      all_goals first | assumption | exact fun _ => rfl | exact fun _ => trivial | skip
    · have hl : 4 < listed.size := by omega
      have n6 : listed.getD 6 false = false := by
        rcases hq : listed.getD 6 false with _ | _
        · rfl
        · have q1 := i7 hq
          rw [Array.getD_eq_getD_getElem?] at q1 r1
          rw [Array.getElem?_eq_getElem hl] at q1 r1
          simp at q1 r1
          rw [q1] at r1
          cases r1
      unfold wpOp
      go_simp
      have j5 : listed.getD 5 false = true → ∃ D, s6 = .pointer (some ⟨D, 0, none⟩) ∧ n + 1 + 1 ≤ D ∧ Blk (w1.alloc (.cells zero6 72)) D 72 (if listed.getD 7 false = true then evA y else zero6) := fun h => by obtain ⟨D, e, h1, h2⟩ := i5 h; exact ⟨D, e, h1, h2.alloc _⟩
      have j0 : listed.getD 5 false = true → s6 ≠ .pointer (some ⟨w1.heap.size, 0, none⟩) := fun h hc => by
        obtain ⟨D, e, h1, h2⟩ := i5 h
        have := h2.lt
        rw [e] at hc
        simp only [Value.pointer.injEq, Option.some.injEq, Addr.mk.injEq] at hc
        omega
      clear i4 i5
      refine Or.inl ⟨by simp [hsz], _, _, _, _, _, _, rfl, hb.alloc hs _, ⟨by rw [World.size_alloc]; omega, hdr⟩, ?_, ?_, ?_, ?_, ?_, ?_, ?_, ?_, ?_⟩
      all_goals simp only [getD_set _ 4 _ _ hl, reduceCtorEq, Nat.reduceEqDiff, if_true, if_false]
      all_goals first | assumption | exact fun _ => rfl | exact fun _ => trivial | skip
      · intro _
        rw [n6]
        exact ⟨_, rfl, hs, Blk.new w1 _ _⟩
      · exact fun _ h hc => j0 h hc.symm
    · have hl : 5 < listed.size := by omega
      have n6 : listed.getD 7 false = false := by
        rcases hq : listed.getD 7 false with _ | _
        · rfl
        · have q1 := i8 hq
          rw [Array.getD_eq_getD_getElem?] at q1 r1
          rw [Array.getElem?_eq_getElem hl] at q1 r1
          simp at q1 r1
          rw [q1] at r1
          cases r1
      unfold wpOp
      go_simp
      have j4 : listed.getD 4 false = true → ∃ D, s5 = .pointer (some ⟨D, 0, none⟩) ∧ n + 1 + 1 ≤ D ∧ Blk (w1.alloc (.cells zero6 72)) D 72 (if listed.getD 6 false = true then evA x else zero6) := fun h => by obtain ⟨D, e, h1, h2⟩ := i4 h; exact ⟨D, e, h1, h2.alloc _⟩
      have j0 : listed.getD 4 false = true → s5 ≠ .pointer (some ⟨w1.heap.size, 0, none⟩) := fun h hc => by
        obtain ⟨D, e, h1, h2⟩ := i4 h
        have := h2.lt
        rw [e] at hc
        simp only [Value.pointer.injEq, Option.some.injEq, Addr.mk.injEq] at hc
        omega
      clear i4 i5
      refine Or.inl ⟨by simp [hsz], _, _, _, _, _, _, rfl, hb.alloc hs _, ⟨by rw [World.size_alloc]; omega, hdr⟩, ?_, ?_, ?_, ?_, ?_, ?_, ?_, ?_, ?_⟩
      all_goals simp only [getD_set _ 5 _ _ hl, reduceCtorEq, Nat.reduceEqDiff, if_true, if_false]
      all_goals first | assumption | exact fun _ => rfl | exact fun _ => trivial | skip
      · intro _
        rw [n6]
        exact ⟨_, rfl, hs, Blk.new w1 _ _⟩
      · exact fun h _ hc => j0 h hc
    · have hl : 6 < listed.size := by omega
      obtain rfl := Option.some.inj ho
      have t4 := hr ⟨4, .data⟩ (by simp) rfl
      have tq := hr ⟨5, .phase⟩ (by simp) rfl
      obtain rfl := i1 (hr ⟨1, .data⟩ (by simp) rfl)
      obtain ⟨D, rfl, hD, hK⟩ := i4 t4
      obtain ⟨D', rfl, hD', hK'⟩ := i5 tq
      have hne : D ≠ D' := fun h => i6 t4 tq (by rw [h])
      have hst : ∀ (L : List Value), L = (evA x).toList → (storeCells ⟨D, 0, none⟩ L).run Try.prog w1 = .ok () (w1.setRow D (evA x)) := by
        rintro L rfl
        have := run_storeCells_from (P := Try.prog) D 72 (evA x).toList 0 _ w1 hK (by generalize listed.getD 6 false = b6; generalize listed.getD 7 false = b7; first | (cases b6 <;> rfl) | (cases b7 <;> rfl)) (by simp [evA, Value.oneCell'])
        simpa using this
      have ez : (evA x).size = 6 := rfl
      unfold wpOp
      go_simp
      refine Or.inl ⟨by simp [hsz], _, _, _, _, _, _, rfl, below_setRow hb hD _, ⟨by rw [setRow_size]; exact hs, hdr⟩, ?_, ?_, ?_, ?_, ?_, ?_, ?_, ?_, ?_⟩
      all_goals simp only [getD_set _ 6 _ _ hl, reduceCtorEq, Nat.reduceEqDiff, if_true, if_false]
      all_goals first | assumption | exact fun _ => rfl | exact fun _ => trivial | exact fun _ => t4 | skip
      · exact fun _ => ⟨D, rfl, hD, setRow_heap _ _ _ _ _ _ hK⟩
      · exact fun _ => ⟨D', rfl, hD', (setRow_other _ _ _ _ (Ne.symm hne)).trans hK'⟩
    · have hl : 7 < listed.size := by omega
      obtain rfl := Option.some.inj ho
      have t4 := hr ⟨5, .data⟩ (by simp) rfl
      have tq := hr ⟨4, .phase⟩ (by simp) rfl
      obtain rfl := i3 (hr ⟨3, .data⟩ (by simp) rfl)
      obtain ⟨D, rfl, hD, hK⟩ := i5 t4
      obtain ⟨D', rfl, hD', hK'⟩ := i4 tq
      have hne : D ≠ D' := fun h => i6 tq t4 (by rw [h])
      have hst : ∀ (L : List Value), L = (evA y).toList → (storeCells ⟨D, 0, none⟩ L).run Try.prog w1 = .ok () (w1.setRow D (evA y)) := by
        rintro L rfl
        have := run_storeCells_from (P := Try.prog) D 72 (evA y).toList 0 _ w1 hK (by generalize listed.getD 6 false = b6; generalize listed.getD 7 false = b7; first | (cases b6 <;> rfl) | (cases b7 <;> rfl)) (by simp [evA, Value.oneCell'])
        simpa using this
      have ez : (evA y).size = 6 := rfl
      unfold wpOp
      go_simp
      refine Or.inl ⟨by simp [hsz], _, _, _, _, _, _, rfl, below_setRow hb hD _, ⟨by rw [setRow_size]; exact hs, hdr⟩, ?_, ?_, ?_, ?_, ?_, ?_, ?_, ?_, ?_⟩
      all_goals simp only [getD_set _ 7 _ _ hl, reduceCtorEq, Nat.reduceEqDiff, if_true, if_false]
      all_goals first | assumption | exact fun _ => rfl | exact fun _ => trivial | exact fun _ => t4 | skip
      · exact fun _ => ⟨D', rfl, hD', (setRow_other _ _ _ _ (Ne.symm hne)).trans hK'⟩
      · exact fun _ => ⟨D, rfl, hD, setRow_heap _ _ _ _ _ _ hK⟩
  · intro listed a w1 h0 hI
    obtain ⟨hsz, s5, s6, s7, s8, s9, s10, rfl, hb, ⟨hs, hdr⟩, i0, i1, i2, i3, i4, i5, i6, i7, i8⟩ := hI
    have hall := inv_listed (by kernel_rfl) hsz h0
    obtain ⟨D, rfl, hD, hK⟩ := i4 (hall 4 (by simp))
    obtain ⟨D', rfl, hD', hK'⟩ := i5 (hall 5 (by simp))
    rw [hall 6 (by simp), if_pos rfl] at hK
    rw [hall 7 (by simp), if_pos rfl] at hK'
    clear h0 hall i0 i1 i2 i3 i4 i5 i6 i7 i8 hsz
    have S1 : SL w1 (some ⟨D, 0, none⟩) 6 6 (ekey x) := Blk.sl (l := ekey x) hK (by simp [ekey, maxLen]) hx
    have S2 : SL w1 (some ⟨D', 0, none⟩) 6 6 (ekey y) := Blk.sl (l := ekey y) hK' (by simp [ekey, maxLen]) hy
    have bd : ∀ q, Below w1.heap.size w1 (w1.drewN q) := fun q => ⟨rfl, rfl, rfl, Nat.le_refl _, fun _ _ => rfl⟩
    have CC := Lib.hid fun q : Nat => scmp_any _ _ 6 6 6 _ _ (w1.drewN q) (S1.below (bd q)) (S2.below (bd q))
    clear bd
    have HB := Lib.hid hb
    have HS := Lib.hid (And.intro hs hdr)
    have HW : Hid ((Below n w W0 ∧ w.drawn = W0.drawn) ∧ W0.heap.size = n + 1 + 1) := Lib.hid ⟨H.out.2.2, z0⟩
    clear hK hK' hx hy hb hs hdr hD hD' H z0 hW0
    go_wp2
    clear S1 S2
    go_quiet ((go_at_call 46; exact Calls.quiet_of_same ((CC.out _).mono fun _ _ h => ⟨h.1, h.2.symm⟩)))
    rename Nat => q
    go_wp2
    go_ret
    have h1 := HB.out
    obtain ⟨h2, hdr⟩ := HS.out
    obtain ⟨⟨h3, h5⟩, h4⟩ := HW.out
    refine ⟨rfl, ?_, ?_⟩
    · rw [hn]
      exact ((h3.trans (h1.mono (by omega)))).trans ⟨rfl, rfl, rfl, Nat.le_refl _, fun _ _ => rfl⟩
    · show w.drawn ≤ w1.drawn + q
      omega
end Go.Proofs.Ytmfdflfjllpceaa
