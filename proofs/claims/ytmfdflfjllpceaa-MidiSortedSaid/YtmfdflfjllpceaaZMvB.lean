/- Layer 50: valid. -/
import Derived.Test.YtmfdflfjllpceaaZMvA
import Derived.Test.YtmfdflfjllpceaaZRoundW
import Derived.Deep.RegionHeld3
import Derived.Deep.DeepCutAuto
namespace Go.Proofs.Ytmfdflfjllpceaa
open Go.RowKit

theorem evOk_kind {t c k v n : Int} : (EvOk ⟨t, 1, c, k, v, n⟩ ↔ 0 ≤ t ∧ t ≤ 1099511627776 ∧ 0 ≤ c ∧ c ≤ 15 ∧ 0 ≤ k ∧ k ≤ 127 ∧ 0 ≤ n ∧ n ≤ 4095 ∧ 0 ≤ v ∧ v ≤ 0) ∧
    (EvOk ⟨t, 2, c, k, v, n⟩ ↔ 0 ≤ t ∧ t ≤ 1099511627776 ∧ 0 ≤ c ∧ c ≤ 15 ∧ 0 ≤ k ∧ k ≤ 127 ∧ 0 ≤ n ∧ n ≤ 4095 ∧ 0 ≤ v ∧ v ≤ 127) ∧
    (EvOk ⟨t, 3, c, k, v, n⟩ ↔ 0 ≤ t ∧ t ≤ 1099511627776 ∧ 0 ≤ c ∧ c ≤ 15 ∧ 0 ≤ k ∧ k ≤ 127 ∧ 0 ≤ n ∧ n ≤ 4095 ∧ 1 ≤ v ∧ v ≤ 127) := by
  refine ⟨?_, ?_, ?_⟩ <;> unfold EvOk <;> simp
/-- Which of five numbers is the first that lies outside. -/
theorem five_out {t c k n v lo hi : Int} (h : ¬ (0 ≤ t ∧ t ≤ 1099511627776 ∧ 0 ≤ c ∧ c ≤ 15 ∧ 0 ≤ k ∧ k ≤ 127 ∧ 0 ≤ n ∧ n ≤ 4095 ∧ lo ≤ v ∧ v ≤ hi)) :
    (t < 0 ∨ (0 ≤ t ∧ 1099511627776 < t)) ∨ ((0 ≤ t ∧ t ≤ 1099511627776) ∧ (c < 0 ∨ (0 ≤ c ∧ 15 < c))) ∨ ((0 ≤ t ∧ t ≤ 1099511627776) ∧ (0 ≤ c ∧ c ≤ 15) ∧ (k < 0 ∨ (0 ≤ k ∧ 127 < k))) ∨
    ((0 ≤ t ∧ t ≤ 1099511627776) ∧ (0 ≤ c ∧ c ≤ 15) ∧ (0 ≤ k ∧ k ≤ 127) ∧ (n < 0 ∨ (0 ≤ n ∧ 4095 < n))) ∨
    ((0 ≤ t ∧ t ≤ 1099511627776) ∧ (0 ≤ c ∧ c ≤ 15) ∧ (0 ≤ k ∧ k ≤ 127) ∧ (0 ≤ n ∧ n ≤ 4095) ∧ (v < lo ∨ (lo ≤ v ∧ hi < v))) := by
  by_cases h1 : t < 0 ∨ (0 ≤ t ∧ 1099511627776 < t)
  · exact .inl h1
  refine .inr ?_
  by_cases h2 : c < 0 ∨ (0 ≤ c ∧ 15 < c)
  · exact .inl ⟨by omega, h2⟩
  refine .inr ?_
  by_cases h3 : k < 0 ∨ (0 ≤ k ∧ 127 < k)
  · exact .inl ⟨by omega, by omega, h3⟩
  refine .inr ?_
  by_cases h4 : n < 0 ∨ (0 ≤ n ∧ 4095 < n)
  · exact .inl ⟨by omega, by omega, by omega, h4⟩
  refine .inr ?_
  exact ⟨by omega, by omega, by omega, by omega, by omega⟩
/-- What is known behind valid's region: the event in its box, the limits at D. -/
def MvF (w W : World) (D : Nat) (t q c k v n lo hi : Int) : Prop :=
  W.cell? ⟨w.heap.size, 0, none⟩ = some (.int .i64 t) ∧ W.cell? ⟨w.heap.size, 1, none⟩ = some (.int .i64 q) ∧ W.cell? ⟨w.heap.size, 2, none⟩ = some (.int .i64 c) ∧ W.cell? ⟨w.heap.size, 3, none⟩ = some (.int .i64 k) ∧
  W.cell? ⟨w.heap.size, 4, none⟩ = some (.int .i64 v) ∧ W.cell? ⟨w.heap.size, 5, none⟩ = some (.int .i64 n) ∧ W.cell? ⟨D, 0, none⟩ = some (.int .i64 lo) ∧ W.cell? ⟨D, 1, none⟩ = some (.int .i64 hi) ∧ Below w.heap.size w W
section
variable {w Wb wl : World} {t q c k v n : Int}
theorem mv_way1 (HC : ∀ j u, Wb.cell? ⟨w.heap.size, j, none⟩ = some u → wl.cell? ⟨w.heap.size, j, none⟩ = some u)
    (hb : Wb.cell? ⟨w.heap.size, 0, none⟩ = some (.int .i64 t) ∧ Wb.cell? ⟨w.heap.size, 1, none⟩ = some (.int .i64 q) ∧ Wb.cell? ⟨w.heap.size, 2, none⟩ = some (.int .i64 c) ∧ Wb.cell? ⟨w.heap.size, 3, none⟩ = some (.int .i64 k) ∧ Wb.cell? ⟨w.heap.size, 4, none⟩ = some (.int .i64 v) ∧ Wb.cell? ⟨w.heap.size, 5, none⟩ = some (.int .i64 n))
    (hB : Below w.heap.size w wl) (lo hi : Int) : MvF w (wl.alloc (.cells #[.int .i64 lo, .int .i64 hi] 36)) wl.heap.size t q c k v n lo hi := by
  obtain ⟨b0, b1, b2, b3, b4, b5⟩ := hb
  exact ⟨cell_al (HC _ _ b0) _, cell_al (HC _ _ b1) _, cell_al (HC _ _ b2) _, cell_al (HC _ _ b3) _, cell_al (HC _ _ b4) _, cell_al (HC _ _ b5) _, (Blk.new wl 36 #[.int .i64 lo, .int .i64 hi]).cell 0, (Blk.new wl 36 #[.int .i64 lo, .int .i64 hi]).cell 1, hB.alloc hB.size _⟩
theorem mv_way3 (HC : ∀ j u, Wb.cell? ⟨w.heap.size, j, none⟩ = some u → wl.cell? ⟨w.heap.size, j, none⟩ = some u)
    (hb : Wb.cell? ⟨w.heap.size, 0, none⟩ = some (.int .i64 t) ∧ Wb.cell? ⟨w.heap.size, 1, none⟩ = some (.int .i64 q) ∧ Wb.cell? ⟨w.heap.size, 2, none⟩ = some (.int .i64 c) ∧ Wb.cell? ⟨w.heap.size, 3, none⟩ = some (.int .i64 k) ∧ Wb.cell? ⟨w.heap.size, 4, none⟩ = some (.int .i64 v) ∧ Wb.cell? ⟨w.heap.size, 5, none⟩ = some (.int .i64 n))
    (hB : Below w.heap.size w wl) (hz : Blk wl Wb.heap.size 36 #[.int .i64 0, .int .i64 0]) (hs : w.heap.size < Wb.heap.size) (lo hi : Int) :
    MvF w ((wl.setCell ⟨Wb.heap.size, 0, none⟩ (.int .i64 lo)).setCell ⟨Wb.heap.size, 1, none⟩ (.int .i64 hi)) Wb.heap.size t q c k v n lo hi := by
  obtain ⟨b0, b1, b2, b3, b4, b5⟩ := hb
  have hne : w.heap.size ≠ Wb.heap.size := by omega
  have hz2 := (hz.set_ 0 (.int .i64 lo)).set_ 1 (.int .i64 hi)
  refine ⟨cell_set (cell_set (HC _ _ b0) hne _) hne _, cell_set (cell_set (HC _ _ b1) hne _) hne _, cell_set (cell_set (HC _ _ b2) hne _) hne _, cell_set (cell_set (HC _ _ b3) hne _) hne _, cell_set (cell_set (HC _ _ b4) hne _) hne _, cell_set (cell_set (HC _ _ b5) hne _) hne _, ?_, ?_, (hB.setCell (by show w.heap.size ≤ Wb.heap.size; omega) _).setCell (by show w.heap.size ≤ Wb.heap.size; omega) _⟩
  · have := hz2.cell 0
    simpa using this
  · have := hz2.cell 1
    simpa using this
end
set_option maxHeartbeats 4000000 in
theorem mvalid_at (t q c k v n : Int) (w : World) : Calls Try.prog 28 #[.agg #[.int .i64 t, .int .i64 q, .int .i64 c, .int .i64 k, .int .i64 v, .int .i64 n]] w fun e w' => e = .returned (.bool (decide (EvOk ⟨t, q, c, k, v, n⟩))) ∧ Below w.heap.size w w' := by
  by_cases hk : 1 ≤ q ∧ q ≤ 3
  · have hq : q = 1 ∨ q = 2 ∨ q = 3 := by omega
    obtain ⟨o1, o2, o3⟩ := evOk_kind (t := t) (c := c) (k := k) (v := v) (n := n)
    clear hk
    rcases hq with rfl | rfl | rfl
    · have HO := Lib.hid o1
      clear o1 o2 o3
      have hbx := Blk.new w 40 #[.int .i64 t, .int .i64 1, .int .i64 c, .int .i64 k, .int .i64 v, .int .i64 n]
      obtain ⟨Wb, hWb⟩ : ∃ Wb, w.alloc (.cells #[.int .i64 t, .int .i64 1, .int .i64 c, .int .i64 k, .int .i64 v, .int .i64 n] 40) = Wb := ⟨_, rfl⟩
      have hBW := Bel.al (Below.refl _ w) (.cells #[.int .i64 t, .int .i64 1, .int .i64 c, .int .i64 k, .int .i64 v, .int .i64 n] 40)
      rw [hWb] at hbx hBW
      have b0 := hbx.cell 0
      have b1 := hbx.cell 1
      have b2 := hbx.cell 2
      have b3 := hbx.cell 3
      have b4 := hbx.cell 4
      have b5 := hbx.cell 5
      simp only [List.getElem?_toArray, List.getElem?_cons_zero, List.getElem?_cons_succ] at b0 b1 b2 b3 b4 b5
      have e0 : ∀ z : Ext Wb, z.W.cell? ⟨w.heap.size, 0, none⟩ = some (.int .i64 t) := fun z => z.cell b0
      have e1 : ∀ z : Ext Wb, z.W.cell? ⟨w.heap.size, 1, none⟩ = some (.int .i64 1) := fun z => z.cell b1
      have e2 : ∀ z : Ext Wb, z.W.cell? ⟨w.heap.size, 2, none⟩ = some (.int .i64 c) := fun z => z.cell b2
      have e3 : ∀ z : Ext Wb, z.W.cell? ⟨w.heap.size, 3, none⟩ = some (.int .i64 k) := fun z => z.cell b3
      have e4 : ∀ z : Ext Wb, z.W.cell? ⟨w.heap.size, 4, none⟩ = some (.int .i64 v) := fun z => z.cell b4
      have e5 : ∀ z : Ext Wb, z.W.cell? ⟨w.heap.size, 5, none⟩ = some (.int .i64 n) := fun z => z.cell b5
      have CL := Lib.hid fun W : World => limits_any W
      unfold limA at CL
      have ix : ∀ W, (Instr.index 69 (.agg #[.int .i64 1, .int .i64 0, .int .i64 0, .int .i64 0, .int .i64 0, .int .i64 127, .int .i64 1, .int .i64 127]) (.int .i64 1)).run Try.prog W = .ok (.agg #[.int .i64 0, .int .i64 0]) W := fun _ => by kernel_rfl
      have HWs := Lib.hid hbx.lt
      have HBW := Lib.hid hBW
      have HBS := Lib.hid (And.intro b0 (And.intro b1 (And.intro b2 (And.intro b3 (And.intro b4 b5)))))
      clear b0 b2 b3 b4 b5 hbx hBW e0 e1 e2 e3 e4 e5
      go_enter Try.func28, Try.ntmps28
      go_wp2_with (go_at_call 43; ((with_reducible refine (min_true _ _ _ _ (by omega) (by omega)).mono ?_); rintro e w' ⟨rfl, rfl⟩))
      go_cut [4] (fun s4 wx => ∃ D : Nat, s4 = .pointer (some ⟨D, 0, none⟩) ∧ MvF w wx D t 1 c k v n 0 0)
      case first =>
        go_region_held3 (fun w' => w'.cell? ⟨w.heap.size, 1, none⟩ = some (.int .i64 1)) (first | go_keep | exact HC.out _ _ b1 | exact cell_al (HC.out _ _ b1) _ | (refine cell_set (cell_set (HC.out _ _ b1) ?_ _) ?_ _ <;> (have := HWs.out; simp; omega))) (first
          | (go_at_call 44; refine (CL.out _).mono ?_; rintro e wl ⟨rfl, hbl⟩;
              (have HC := Lib.hid (show ∀ j v, Wb.cell? ⟨w.heap.size, j, none⟩ = some v → wl.cell? ⟨w.heap.size, j, none⟩ = some v from fun j v hv => by
                (have := HWs.out)
                (first | (refine (Below.cell (p := ⟨w.heap.size, j, none⟩) hbl ?_).trans ?_; (simp; omega); exact hv) | (refine (Below.cell (p := ⟨w.heap.size, j, none⟩) hbl ?_).trans ?_; (simp; omega); (simp; exact cell_al hv _)))));
              (have HBl := Lib.hid (show Below w.heap.size w wl from by
                (have := HWs.out)
                (first | (refine HBW.out.drew.trans (hbl.mono ?_); simp; omega) | (refine ((HBW.out.alloc HBW.out.size _).drew).trans (hbl.mono ?_); simp; omega))));
              (try (have HZ := Lib.hid (((Blk.new Wb 36 #[.int .i64 0, .int .i64 0]).drew).belowAll hbl); have z0 := HZ.out.cell 0; have z1 := HZ.out.cell 1; have y0 := HZ.out.frozen 0; have y1 := HZ.out.frozen 1; simp only [List.getElem?_toArray, List.getElem?_cons_zero, List.getElem?_cons_succ] at z0 z1))))
        all_goals
          have hws := HWs.out
          (first
            | (revert HZ; intro HZ; have hF := mv_way3 HC.out HBS.out HBl.out HZ.out HWs.out 0 0)
            | have hF := mv_way1 HC.out HBS.out HBl.out 0 0)
          have HF := Lib.hid hF
          clear hF hws
          go_wp2_with fail
          go_meet
          exact ⟨_, rfl, HF.out⟩
      case rest =>
        obtain ⟨D, rfl, f0, f1, f2, f3, f4, f5, l0, l1, hF⟩ := hcut
        have HF := Lib.hid hF
        clear hF b1 ix hWb
        by_cases ok : EvOk ⟨t, 1, c, k, v, n⟩
        · have HD := Lib.hid (decide_eq_true ok)
          obtain ⟨h1, h2, h3, h4, h5, h6, h7, h8, h9, h10⟩ := HO.out.1 ok
          clear ok
          go_wp2_with (go_at_call 43; ((with_reducible refine (min_true _ _ _ _ (by omega) (by omega)).mono ?_); rintro e w' ⟨rfl, rfl⟩))
          go_ret
          exact ⟨ret_bool HD.out.symm, HF.out⟩
        · have HD := Lib.hid (decide_eq_false ok)
          have hc := five_out (mt HO.out.2 ok)
          clear ok
          rcases hc with hq | ⟨⟨h1, h2⟩, hq⟩ | ⟨⟨h1, h2⟩, ⟨h3, h4⟩, hq⟩ | ⟨⟨h1, h2⟩, ⟨h3, h4⟩, ⟨h5, h6⟩, hq⟩ | ⟨⟨h1, h2⟩, ⟨h3, h4⟩, ⟨h5, h6⟩, ⟨h7, h8⟩, hq⟩
          all_goals
            have HQ := Lib.hid hq
            clear hq
            go_wp2_with (go_at_call 43; (first
              | ((with_reducible refine (min_false _ _ _ _ HQ.out).mono ?_); rintro e w' ⟨rfl, rfl⟩)
              | ((with_reducible refine (min_true _ _ _ _ (by omega) (by omega)).mono ?_); rintro e w' ⟨rfl, rfl⟩)))
            go_ret
            exact ⟨ret_bool HD.out.symm, HF.out⟩
    · have HO := Lib.hid o2
      clear o1 o2 o3
      have hbx := Blk.new w 40 #[.int .i64 t, .int .i64 2, .int .i64 c, .int .i64 k, .int .i64 v, .int .i64 n]
      obtain ⟨Wb, hWb⟩ : ∃ Wb, w.alloc (.cells #[.int .i64 t, .int .i64 2, .int .i64 c, .int .i64 k, .int .i64 v, .int .i64 n] 40) = Wb := ⟨_, rfl⟩
      have hBW := Bel.al (Below.refl _ w) (.cells #[.int .i64 t, .int .i64 2, .int .i64 c, .int .i64 k, .int .i64 v, .int .i64 n] 40)
      rw [hWb] at hbx hBW
      have b0 := hbx.cell 0
      have b1 := hbx.cell 1
      have b2 := hbx.cell 2
      have b3 := hbx.cell 3
      have b4 := hbx.cell 4
      have b5 := hbx.cell 5
      simp only [List.getElem?_toArray, List.getElem?_cons_zero, List.getElem?_cons_succ] at b0 b1 b2 b3 b4 b5
      have e0 : ∀ z : Ext Wb, z.W.cell? ⟨w.heap.size, 0, none⟩ = some (.int .i64 t) := fun z => z.cell b0
      have e1 : ∀ z : Ext Wb, z.W.cell? ⟨w.heap.size, 1, none⟩ = some (.int .i64 2) := fun z => z.cell b1
      have e2 : ∀ z : Ext Wb, z.W.cell? ⟨w.heap.size, 2, none⟩ = some (.int .i64 c) := fun z => z.cell b2
      have e3 : ∀ z : Ext Wb, z.W.cell? ⟨w.heap.size, 3, none⟩ = some (.int .i64 k) := fun z => z.cell b3
      have e4 : ∀ z : Ext Wb, z.W.cell? ⟨w.heap.size, 4, none⟩ = some (.int .i64 v) := fun z => z.cell b4
      have e5 : ∀ z : Ext Wb, z.W.cell? ⟨w.heap.size, 5, none⟩ = some (.int .i64 n) := fun z => z.cell b5
      have CL := Lib.hid fun W : World => limits_any W
      unfold limA at CL
      have ix : ∀ W, (Instr.index 69 (.agg #[.int .i64 1, .int .i64 0, .int .i64 0, .int .i64 0, .int .i64 0, .int .i64 127, .int .i64 1, .int .i64 127]) (.int .i64 2)).run Try.prog W = .ok (.agg #[.int .i64 0, .int .i64 127]) W := fun _ => by kernel_rfl
      have HWs := Lib.hid hbx.lt
      have HBW := Lib.hid hBW
      have HBS := Lib.hid (And.intro b0 (And.intro b1 (And.intro b2 (And.intro b3 (And.intro b4 b5)))))
      clear b0 b2 b3 b4 b5 hbx hBW e0 e1 e2 e3 e4 e5
      go_enter Try.func28, Try.ntmps28
      go_wp2_with (go_at_call 43; ((with_reducible refine (min_true _ _ _ _ (by omega) (by omega)).mono ?_); rintro e w' ⟨rfl, rfl⟩))
      go_cut [4] (fun s4 wx => ∃ D : Nat, s4 = .pointer (some ⟨D, 0, none⟩) ∧ MvF w wx D t 2 c k v n 0 127)
      case first =>
        go_region_held3 (fun w' => w'.cell? ⟨w.heap.size, 1, none⟩ = some (.int .i64 2)) (first | go_keep | exact HC.out _ _ b1 | exact cell_al (HC.out _ _ b1) _ | (refine cell_set (cell_set (HC.out _ _ b1) ?_ _) ?_ _ <;> (have := HWs.out; simp; omega))) (first
          | (go_at_call 44; refine (CL.out _).mono ?_; rintro e wl ⟨rfl, hbl⟩;
              (have HC := Lib.hid (show ∀ j v, Wb.cell? ⟨w.heap.size, j, none⟩ = some v → wl.cell? ⟨w.heap.size, j, none⟩ = some v from fun j v hv => by
                (have := HWs.out)
                (first | (refine (Below.cell (p := ⟨w.heap.size, j, none⟩) hbl ?_).trans ?_; (simp; omega); exact hv) | (refine (Below.cell (p := ⟨w.heap.size, j, none⟩) hbl ?_).trans ?_; (simp; omega); (simp; exact cell_al hv _)))));
              (have HBl := Lib.hid (show Below w.heap.size w wl from by
                (have := HWs.out)
                (first | (refine HBW.out.drew.trans (hbl.mono ?_); simp; omega) | (refine ((HBW.out.alloc HBW.out.size _).drew).trans (hbl.mono ?_); simp; omega))));
              (try (have HZ := Lib.hid (((Blk.new Wb 36 #[.int .i64 0, .int .i64 0]).drew).belowAll hbl); have z0 := HZ.out.cell 0; have z1 := HZ.out.cell 1; have y0 := HZ.out.frozen 0; have y1 := HZ.out.frozen 1; simp only [List.getElem?_toArray, List.getElem?_cons_zero, List.getElem?_cons_succ] at z0 z1))))
        all_goals
          have hws := HWs.out
          (first
            | (revert HZ; intro HZ; have hF := mv_way3 HC.out HBS.out HBl.out HZ.out HWs.out 0 127)
            | have hF := mv_way1 HC.out HBS.out HBl.out 0 127)
          have HF := Lib.hid hF
          clear hF hws
          go_wp2_with fail
          go_meet
          exact ⟨_, rfl, HF.out⟩
      case rest =>
        obtain ⟨D, rfl, f0, f1, f2, f3, f4, f5, l0, l1, hF⟩ := hcut
        have HF := Lib.hid hF
        clear hF b1 ix hWb
        by_cases ok : EvOk ⟨t, 2, c, k, v, n⟩
        · have HD := Lib.hid (decide_eq_true ok)
          obtain ⟨h1, h2, h3, h4, h5, h6, h7, h8, h9, h10⟩ := HO.out.1 ok
          clear ok
          go_wp2_with (go_at_call 43; ((with_reducible refine (min_true _ _ _ _ (by omega) (by omega)).mono ?_); rintro e w' ⟨rfl, rfl⟩))
          go_ret
          exact ⟨ret_bool HD.out.symm, HF.out⟩
        · have HD := Lib.hid (decide_eq_false ok)
          have hc := five_out (mt HO.out.2 ok)
          clear ok
          rcases hc with hq | ⟨⟨h1, h2⟩, hq⟩ | ⟨⟨h1, h2⟩, ⟨h3, h4⟩, hq⟩ | ⟨⟨h1, h2⟩, ⟨h3, h4⟩, ⟨h5, h6⟩, hq⟩ | ⟨⟨h1, h2⟩, ⟨h3, h4⟩, ⟨h5, h6⟩, ⟨h7, h8⟩, hq⟩
          all_goals
            have HQ := Lib.hid hq
            clear hq
            go_wp2_with (go_at_call 43; (first
              | ((with_reducible refine (min_false _ _ _ _ HQ.out).mono ?_); rintro e w' ⟨rfl, rfl⟩)
              | ((with_reducible refine (min_true _ _ _ _ (by omega) (by omega)).mono ?_); rintro e w' ⟨rfl, rfl⟩)))
            go_ret
            exact ⟨ret_bool HD.out.symm, HF.out⟩
    · have HO := Lib.hid o3
      clear o1 o2 o3
      have hbx := Blk.new w 40 #[.int .i64 t, .int .i64 3, .int .i64 c, .int .i64 k, .int .i64 v, .int .i64 n]
      obtain ⟨Wb, hWb⟩ : ∃ Wb, w.alloc (.cells #[.int .i64 t, .int .i64 3, .int .i64 c, .int .i64 k, .int .i64 v, .int .i64 n] 40) = Wb := ⟨_, rfl⟩
      have hBW := Bel.al (Below.refl _ w) (.cells #[.int .i64 t, .int .i64 3, .int .i64 c, .int .i64 k, .int .i64 v, .int .i64 n] 40)
      rw [hWb] at hbx hBW
      have b0 := hbx.cell 0
      have b1 := hbx.cell 1
      have b2 := hbx.cell 2
      have b3 := hbx.cell 3
      have b4 := hbx.cell 4
      have b5 := hbx.cell 5
      simp only [List.getElem?_toArray, List.getElem?_cons_zero, List.getElem?_cons_succ] at b0 b1 b2 b3 b4 b5
      have e0 : ∀ z : Ext Wb, z.W.cell? ⟨w.heap.size, 0, none⟩ = some (.int .i64 t) := fun z => z.cell b0
      have e1 : ∀ z : Ext Wb, z.W.cell? ⟨w.heap.size, 1, none⟩ = some (.int .i64 3) := fun z => z.cell b1
      have e2 : ∀ z : Ext Wb, z.W.cell? ⟨w.heap.size, 2, none⟩ = some (.int .i64 c) := fun z => z.cell b2
      have e3 : ∀ z : Ext Wb, z.W.cell? ⟨w.heap.size, 3, none⟩ = some (.int .i64 k) := fun z => z.cell b3
      have e4 : ∀ z : Ext Wb, z.W.cell? ⟨w.heap.size, 4, none⟩ = some (.int .i64 v) := fun z => z.cell b4
      have e5 : ∀ z : Ext Wb, z.W.cell? ⟨w.heap.size, 5, none⟩ = some (.int .i64 n) := fun z => z.cell b5
      have CL := Lib.hid fun W : World => limits_any W
      unfold limA at CL
      have ix : ∀ W, (Instr.index 69 (.agg #[.int .i64 1, .int .i64 0, .int .i64 0, .int .i64 0, .int .i64 0, .int .i64 127, .int .i64 1, .int .i64 127]) (.int .i64 3)).run Try.prog W = .ok (.agg #[.int .i64 1, .int .i64 127]) W := fun _ => by kernel_rfl
      have HWs := Lib.hid hbx.lt
      have HBW := Lib.hid hBW
      have HBS := Lib.hid (And.intro b0 (And.intro b1 (And.intro b2 (And.intro b3 (And.intro b4 b5)))))
      clear b0 b2 b3 b4 b5 hbx hBW e0 e1 e2 e3 e4 e5
      go_enter Try.func28, Try.ntmps28
      go_wp2_with (go_at_call 43; ((with_reducible refine (min_true _ _ _ _ (by omega) (by omega)).mono ?_); rintro e w' ⟨rfl, rfl⟩))
      go_cut [4] (fun s4 wx => ∃ D : Nat, s4 = .pointer (some ⟨D, 0, none⟩) ∧ MvF w wx D t 3 c k v n 1 127)
      case first =>
        go_region_held3 (fun w' => w'.cell? ⟨w.heap.size, 1, none⟩ = some (.int .i64 3)) (first | go_keep | exact HC.out _ _ b1 | exact cell_al (HC.out _ _ b1) _ | (refine cell_set (cell_set (HC.out _ _ b1) ?_ _) ?_ _ <;> (have := HWs.out; simp; omega))) (first
          | (go_at_call 44; refine (CL.out _).mono ?_; rintro e wl ⟨rfl, hbl⟩;
              (have HC := Lib.hid (show ∀ j v, Wb.cell? ⟨w.heap.size, j, none⟩ = some v → wl.cell? ⟨w.heap.size, j, none⟩ = some v from fun j v hv => by
                (have := HWs.out)
                (first | (refine (Below.cell (p := ⟨w.heap.size, j, none⟩) hbl ?_).trans ?_; (simp; omega); exact hv) | (refine (Below.cell (p := ⟨w.heap.size, j, none⟩) hbl ?_).trans ?_; (simp; omega); (simp; exact cell_al hv _)))));
              (have HBl := Lib.hid (show Below w.heap.size w wl from by
                (have := HWs.out)
                (first | (refine HBW.out.drew.trans (hbl.mono ?_); simp; omega) | (refine ((HBW.out.alloc HBW.out.size _).drew).trans (hbl.mono ?_); simp; omega))));
              (try (have HZ := Lib.hid (((Blk.new Wb 36 #[.int .i64 0, .int .i64 0]).drew).belowAll hbl); have z0 := HZ.out.cell 0; have z1 := HZ.out.cell 1; have y0 := HZ.out.frozen 0; have y1 := HZ.out.frozen 1; simp only [List.getElem?_toArray, List.getElem?_cons_zero, List.getElem?_cons_succ] at z0 z1))))
        all_goals
          have hws := HWs.out
          (first
            | (revert HZ; intro HZ; have hF := mv_way3 HC.out HBS.out HBl.out HZ.out HWs.out 1 127)
            | have hF := mv_way1 HC.out HBS.out HBl.out 1 127)
          have HF := Lib.hid hF
          clear hF hws
          go_wp2_with fail
          go_meet
          exact ⟨_, rfl, HF.out⟩
      case rest =>
        obtain ⟨D, rfl, f0, f1, f2, f3, f4, f5, l0, l1, hF⟩ := hcut
        have HF := Lib.hid hF
        clear hF b1 ix hWb
        by_cases ok : EvOk ⟨t, 3, c, k, v, n⟩
        · have HD := Lib.hid (decide_eq_true ok)
          obtain ⟨h1, h2, h3, h4, h5, h6, h7, h8, h9, h10⟩ := HO.out.1 ok
          clear ok
          go_wp2_with (go_at_call 43; ((with_reducible refine (min_true _ _ _ _ (by omega) (by omega)).mono ?_); rintro e w' ⟨rfl, rfl⟩))
          go_ret
          exact ⟨ret_bool HD.out.symm, HF.out⟩
        · have HD := Lib.hid (decide_eq_false ok)
          have hc := five_out (mt HO.out.2 ok)
          clear ok
          rcases hc with hq | ⟨⟨h1, h2⟩, hq⟩ | ⟨⟨h1, h2⟩, ⟨h3, h4⟩, hq⟩ | ⟨⟨h1, h2⟩, ⟨h3, h4⟩, ⟨h5, h6⟩, hq⟩ | ⟨⟨h1, h2⟩, ⟨h3, h4⟩, ⟨h5, h6⟩, ⟨h7, h8⟩, hq⟩
          all_goals
            have HQ := Lib.hid hq
            clear hq
            go_wp2_with (go_at_call 43; (first
              | ((with_reducible refine (min_false _ _ _ _ HQ.out).mono ?_); rintro e w' ⟨rfl, rfl⟩)
              | ((with_reducible refine (min_true _ _ _ _ (by omega) (by omega)).mono ?_); rintro e w' ⟨rfl, rfl⟩)))
            go_ret
            exact ⟨ret_bool HD.out.symm, HF.out⟩
  · have HD := Lib.hid (show decide (EvOk ⟨t, q, c, k, v, n⟩) = false from decide_eq_false (fun h => hk ⟨h.1, h.2.1⟩))
    have HQ := Lib.hid (show q < 1 ∨ (1 ≤ q ∧ 3 < q) by omega)
    clear hk
    go_enter Try.func28, Try.ntmps28
    go_wp2_with (go_at_call 43; ((with_reducible refine (min_false _ _ _ _ HQ.out).mono ?_); rintro e w' ⟨rfl, rfl⟩))
    go_ret
    exact ⟨ret_bool HD.out.symm, (Below.refl _ w).alloc (Nat.le_refl _) _⟩
end Go.Proofs.Ytmfdflfjllpceaa
