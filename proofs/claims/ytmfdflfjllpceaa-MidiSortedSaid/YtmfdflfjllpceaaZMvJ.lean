/- Layer 50: the reference's insert. -/
import Derived.Test.YtmfdflfjllpceaaZMvI
import Derived.Deep.DeepCutAuto
import Derived.Deep.RegionHeld3
import Derived.Deep.CutBlock
namespace Go.Proofs.Ytmfdflfjllpceaa
open Go.RowKit

/-- Where x goes. -/
def insAt (x : Ev) (l : List Ev) : Nat := (l.takeWhile fun y => !decide (evLt x y)).length
def insS (once : Bool) (x : Ev) (l : List Ev) : List Ev :=
  if once = true ∧ insAt x l ≠ 0 ∧ l[insAt x l - 1]? = some x then l else l.take (insAt x l) ++ [x] ++ l.drop (insAt x l)
def SRet (w : World) (l : List Ev) (e : Ending) (w' : World) : Prop := ∃ A n c, e = .returned (.slice A n c) ∧ SA evE w' A n c l ∧ Below w.heap.size w w'
theorem insAt_le (x : Ev) (l : List Ev) : insAt x l ≤ l.length := (List.takeWhile_prefix _).length_le
theorem insAt_eq {x : Ev} {l : List Ev} {k : Nat} (h1 : ∀ j y, j < k → l[j]? = some y → ¬ evLt x y) (h2 : k = l.length ∨ ∃ y, l[k]? = some y ∧ evLt x y) : insAt x l = k := by
  have hk : k ≤ l.length := by
    rcases h2 with h | ⟨y, h, _⟩
    · omega
    · have := (List.getElem?_eq_some_iff.1 h).1; omega
  have ht : l.take k ++ l.drop k = l := List.take_append_drop k l
  unfold insAt
  rw [← ht, List.takeWhile_append_of_pos]
  · rw [List.length_append, List.length_take, Nat.min_eq_left hk]
    rcases h2 with h | ⟨y, h, h3⟩
    · rw [List.drop_of_length_le (by omega)]; simp
    · obtain ⟨hkl, h4⟩ := List.getElem?_eq_some_iff.1 h
      rw [List.drop_eq_getElem_cons hkl, h4, List.takeWhile_cons]
      simp [h3]
  · intro y hy
    obtain ⟨j, hj⟩ := List.mem_iff_getElem?.1 hy
    rw [List.getElem?_take] at hj
    split at hj
    · rename_i hjk
      simp [h1 j y hjk hj]
    · cases hj
/-- An own slice takes a cut, then one element more: the second source lies in a block of its own. -/
theorem two_app {W : World} {B k c2 c g : Nat} {A A2 : Option Addr} {l2 : List Ev} {y : Ev} (hO : OA evE W B A 0 c []) (hS : SA evE W A2 k c2 l2) (hg : Blk W g evE.E (evA y)) (hne : ∀ a, A = some a → g ≠ a.block) (hB : B ≤ W.heap.size) (hk : k ≤ 34359738368) :
    ∃ A3 c3 w3 A4 c4 w4, (Builtin.append_ #[evE.S, evE.S] evE.S #[.slice A 0 c, .slice A2 k c2]).run Try.prog W = .ok (.slice A3 k c3) w3 ∧
      (Builtin.append_ #[evE.S, evE.S] evE.S #[.slice A3 k c3, .slice (some ⟨g, 0, none⟩) 1 1]).run Try.prog w3 = .ok (.slice A4 (k + 1) c4) w4 ∧ OA evE w4 B A4 (k + 1) c4 (l2 ++ [y]) ∧ Below B W w3 ∧ Below B W w4 := by
  obtain ⟨A3, c3, w3, e3, h3, b3, n3, _⟩ := hO.app hS hB (by omega)
  rw [Nat.zero_add] at e3 h3
  rw [List.nil_append] at h3
  have hg3 : Blk w3 g evE.E (evA y) := (n3 g hg.lt hne).trans hg
  have hs : SA evE w3 (some ⟨g, 0, none⟩) 1 1 [y] := ⟨rfl, Nat.le_refl _, by simp [maxLen], by
    have := hg3.rd (sz := 6) (n := 1) (by show 1 * 6 ≤ 6; omega)
    exact this⟩
  obtain ⟨A4, c4, w4, e4, h4, b4, n4, _⟩ := h3.app hs (Nat.le_trans hB b3.size) (by omega)
  exact ⟨A3, c3, w3, A4, c4, w4, e3, e4, h4, b3, b3.trans b4⟩
/-- The element is laid between the two. -/
theorem two_app' {W : World} {B k c2 c : Nat} {A A2 : Option Addr} {l2 : List Ev} {y : Ev} (hO : OA evE W B A 0 c []) (hS : SA evE W A2 k c2 l2) (hB : B ≤ W.heap.size) (hk : k ≤ 34359738368) :
    ∃ A3 c3 w3 A4 c4 w4, (Builtin.append_ #[evE.S, evE.S] evE.S #[.slice A 0 c, .slice A2 k c2]).run Try.prog W = .ok (.slice A3 k c3) w3 ∧
      (Builtin.append_ #[evE.S, evE.S] evE.S #[.slice A3 k c3, .slice (some ⟨w3.heap.size, 0, none⟩) 1 1]).run Try.prog (w3.alloc (.cells (evA y) 40)) = .ok (.slice A4 (k + 1) c4) w4 ∧ OA evE w4 B A4 (k + 1) c4 (l2 ++ [y]) ∧ Below B W w3 ∧ Below B W w4 := by
  obtain ⟨A3, c3, w3, e3, h3, b3, n3, _⟩ := hO.app hS hB (by omega)
  rw [Nat.zero_add] at e3 h3
  rw [List.nil_append] at h3
  have hs : SA evE (w3.alloc (.cells (evA y) 40)) (some ⟨w3.heap.size, 0, none⟩) 1 1 [y] := SA.lit (e := evE) w3 rfl (by rw [Enc.cells_one]; rfl) (by omega)
  obtain ⟨A4, c4, w4, e4, h4, b4, n4, _⟩ := (h3.alloc _).app hs (by rw [World.size_alloc]; exact Nat.le_trans hB (Nat.le_trans b3.size (Nat.le_succ _))) (by omega)
  exact ⟨A3, c3, w3, A4, c4, w4, e3, e4, h4, b3, b3.trans ((Bel.al (Below.refl _ w3) _).mono (Nat.le_trans hB b3.size) |>.trans b4)⟩
set_option maxHeartbeats 4000000 in
set_option maxRecDepth 100000 in
theorem insert_any (A : Option Addr) (n c : Nat) (l : List Ev) (x : Ev) (once : Bool) (w : World) (h : SA evE w A n c l) (hI : ∀ e ∈ l, EvI e) (hx : EvI x) (hm : n ≤ 34359738368) :
    Calls Try.prog 32 #[.slice A n c, .agg (evA x), .bool once] w (SRet w (insS once x l)) := by
  have hlen := h.len
  have HL := Lib.hid h.n_eq
  obtain ⟨W0, hW0⟩ : ∃ W0, w.alloc (.cells (evA x) 40) = W0 := ⟨_, rfl⟩
  have hb0 := Blk.new w 40 (evA x)
  have hB0 := (Below.refl w.heap.size w).alloc (Nat.le_refl _) (.cells (evA x) 40)
  have hs0 := h.alloc (.cells (evA x) 40)
  have z0 : W0.heap.size = w.heap.size + 1 := by rw [← hW0]; simp
  rw [hW0] at hb0 hB0 hs0
  have HI := Lib.hid hI
  have HX := Lib.hid hx
  have HE := Lib.hid (fun k h1 h2 => insAt_eq (x := x) (l := l) (k := k) h1 h2)
  have HS0 := Lib.hid hs0
  have HB0 := Lib.hid hb0
  have HBW := Lib.hid hB0
  have hs1 : ∀ W', Below W0.heap.size W0 W' → Blk W' w.heap.size 40 (evA x) := fun W' hb => hb0.below hb (by omega)
  obtain ⟨xt, xk, xc, xe, xv, xn⟩ := x
  clear h hI hx hs0 hb0 hB0
  unfold evA at hs1 hW0 ⊢
  dsimp only at hs1 hW0 ⊢
  go_enter Try.func32, Try.ntmps32
  go_upto_block 0 with (fail)
  go_cut [7] (fun i wr => ∃ k : Nat, i = .int .i64 k ∧ insAt ⟨xt, xk, xc, xe, xv, xn⟩ l = k ∧ Below W0.heap.size W0 wr)
  case first =>
    go_wp2_with fail
    go_loopw [7] (fun i wr => ∃ k : Nat, k ≤ n ∧ i = .int .i64 k ∧ Hid (∀ j y, j < k → l[j]? = some y → ¬ evLt ⟨xt, xk, xc, xe, xv, xn⟩ y) ∧ Below W0.heap.size W0 wr) (fun i _ => n - (intOf i).toNat)
    case atStart => exact ⟨0, Nat.zero_le _, rfl, Lib.hid (fun j y hj => by omega), Below.refl _ _⟩
    case round =>
      obtain ⟨k, hk, rfl, hord, hB⟩ := hrel
      by_cases hlt : k < n
      · have hkl : k < l.length := by rw [HL.out]; exact hlt
        obtain ⟨s, hs⟩ : ∃ s, l[k] = s := ⟨_, rfl⟩
        have hs' : l[k]? = some s := by rw [List.getElem?_eq_getElem hkl, hs]
        obtain ⟨b, o, rfl, hb, c0, c1, c2, c3, c4, c5⟩ := ev_at (HS0.out.below hB) hkl hs
        have HS := Lib.hid hs'
        have hsI : EvI s := HI.out s (List.mem_of_getElem? hs')
        clear hs hs'
        have bx := hs1 _ hB
        have b0 := bx.cell 0
        have b1 := bx.cell 1
        have b2 := bx.cell 2
        have b3 := bx.cell 3
        have b4 := bx.cell 4
        have b5 := bx.cell 5
        simp only [List.getElem?_toArray, List.getElem?_cons_zero, List.getElem?_cons_succ] at b0 b1 b2 b3 b4 b5
        obtain ⟨sd, sf, sk, si, so, sm⟩ := s
        dsimp only at c0 c1 c2 c3 c4 c5
        have e0 : ∀ z : Ext wr, z.W.cell? ⟨w.heap.size, 0, none⟩ = some (.int .i64 xt) := fun z => z.cell b0
        have e1 : ∀ z : Ext wr, z.W.cell? ⟨w.heap.size, 1, none⟩ = some (.int .i64 xk) := fun z => z.cell b1
        have e2 : ∀ z : Ext wr, z.W.cell? ⟨w.heap.size, 2, none⟩ = some (.int .i64 xc) := fun z => z.cell b2
        have e3 : ∀ z : Ext wr, z.W.cell? ⟨w.heap.size, 3, none⟩ = some (.int .i64 xe) := fun z => z.cell b3
        have e4 : ∀ z : Ext wr, z.W.cell? ⟨w.heap.size, 4, none⟩ = some (.int .i64 xv) := fun z => z.cell b4
        have e5 : ∀ z : Ext wr, z.W.cell? ⟨w.heap.size, 5, none⟩ = some (.int .i64 xn) := fun z => z.cell b5
        have x0 : ∀ z : Ext wr, z.W.cell? ⟨b, o + k * 6, none⟩ = some (.int .i64 sd) := fun z => z.cell c0
        have x1 : ∀ z : Ext wr, z.W.cell? ⟨b, o + k * 6 + 1, none⟩ = some (.int .i64 sf) := fun z => z.cell c1
        have x2 : ∀ z : Ext wr, z.W.cell? ⟨b, o + k * 6 + 2, none⟩ = some (.int .i64 sk) := fun z => z.cell c2
        have x3 : ∀ z : Ext wr, z.W.cell? ⟨b, o + k * 6 + 3, none⟩ = some (.int .i64 si) := fun z => z.cell c3
        have x4 : ∀ z : Ext wr, z.W.cell? ⟨b, o + k * 6 + 4, none⟩ = some (.int .i64 so) := fun z => z.cell c4
        have x5 : ∀ z : Ext wr, z.W.cell? ⟨b, o + k * 6 + 5, none⟩ = some (.int .i64 sm) := fun z => z.cell c5
        have CC := fun z : Ext wr => rless_at xt xk xc xe xv xn sd sf sk si so sm HX.out hsI z.W
        have k0 : decide ((k : Int) < (n : Int)) = true := by simp; omega
        have k1 : decide (k < n) = true := by simpa using hlt
        have g3 : (0 : Int) ≤ (k : Int) := by omega
        have g4 : (k : Int) < (n : Int) := by omega
        clear b0 b1 b2 b3 b4 b5 c0 c1 c2 c3 c4 c5 bx hs1 hsI
        by_cases hlt2 : evLt ⟨xt, xk, xc, xe, xv, xn⟩ ⟨sd, sf, sk, si, so, sm⟩
        · have HN := Lib.hid (HE.out k hord.out (.inr ⟨_, HS.out, hlt2⟩))
          rw [decide_eq_true hlt2] at CC
          have HCC := Lib.hid CC
          clear CC hlt2
          go_wp2
          refine wp_region_ext (by kernel_rfl) (by kernel_rfl) ?_
          repeat (go_big_quiet_step (first | with_reducible exact Ext.quiet (HCC.out _)))
          refine wpQuiet_nil ?_
          rintro _ ⟨z, rfl⟩
          go_wp2
          go_meet
          exact ⟨k, rfl, HN.out, Bel.on0 hB z.h⟩
        · have HN := Lib.hid (show ∀ j y, j < k + 1 → l[j]? = some y → ¬ evLt ⟨xt, xk, xc, xe, xv, xn⟩ y from fun j y hj hy => by
            by_cases hjk : j = k
            · subst hjk; rw [HS.out] at hy; injection hy with hy; rw [← hy]; exact hlt2
            · exact hord.out j y (by omega) hy)
          rw [decide_eq_false hlt2] at CC
          have HCC := Lib.hid CC
          clear CC hlt2
          go_wp2
          refine wp_region_ext (by kernel_rfl) (by kernel_rfl) ?_
          repeat (go_big_quiet_step (first | with_reducible exact Ext.quiet (HCC.out _)))
          refine wpQuiet_nil ?_
          rintro _ ⟨z, rfl⟩
          go_wp2
          exact ⟨⟨k + 1, by omega, by simp, HN, Bel.on0 hB z.h⟩, by simp only [intOf]; omega⟩
      · obtain rfl : k = n := by omega
        have HN := Lib.hid (HE.out k hord.out (.inl HL.out.symm))
        have k0 : decide ((k : Int) < (k : Int)) = false := by simp
        have k1 : decide (k < k) = false := by simp
        clear hs1
        go_wp2
        refine wp_region_ext (by kernel_rfl) (by kernel_rfl) ?_
        repeat (go_big_quiet_step (fail))
        refine wpQuiet_nil ?_
        rintro _ ⟨z, rfl⟩
        go_wp2
        go_meet
        exact ⟨k, rfl, HN.out, Bel.on0 hB z.h⟩
  case rest =>
    obtain ⟨k, rfl, hk, hB⟩ := hcut
    have hkn : k ≤ n := by rw [← hk, ← HL.out]; exact insAt_le _ _
    have hS : insS once ⟨xt, xk, xc, xe, xv, xn⟩ l = if once = true ∧ k ≠ 0 ∧ l[k - 1]? = some ⟨xt, xk, xc, xe, xv, xn⟩ then l else l.take k ++ [⟨xt, xk, xc, xe, xv, xn⟩] ++ l.drop k := by unfold insS; rw [hk]
    obtain ⟨T, hT⟩ : ∃ T, decide (once = true ∧ k ≠ 0 ∧ l[k - 1]? = some ⟨xt, xk, xc, xe, xv, xn⟩) = T := ⟨_, rfl⟩
    have HS := Lib.hid hS
    clear hS hk
    have g3 : (0 : Int) ≤ (k : Int) := by omega
    have g4 : (k : Int) ≤ (n : Int) := by omega
    go_upto_region 4 with (fail)
    go_cut [37] (fun b wx => b = .bool T ∧ Below W0.heap.size W0 wx)
    case first =>
      cases once with
      | false =>
        have HN := Lib.hid (show T = false by rw [← hT]; simp)
        clear hT
        go_wp2_with fail
        refine wp_region_ext (by kernel_rfl) (by kernel_rfl) ?_
        repeat (go_big_quiet_step (fail))
        refine wpQuiet_nil ?_
        rintro _ ⟨z, rfl⟩
        go_wp2
        go_meet
        exact ⟨by rw [HN.out], Bel.on0 hB z.h⟩
      | true =>
        by_cases hk0 : k = 0
        · subst hk0
          have HN := Lib.hid (show T = false by rw [← hT]; simp)
          clear hT
          go_wp2_with fail
          refine wp_region_ext (by kernel_rfl) (by kernel_rfl) ?_
          repeat (go_big_quiet_step (fail))
          refine wpQuiet_nil ?_
          rintro _ ⟨z, rfl⟩
          go_wp2
          go_meet
          exact ⟨by rw [HN.out], Bel.on0 hB z.h⟩
        · obtain ⟨p, rfl⟩ : ∃ p, k = p + 1 := ⟨k - 1, by omega⟩
          have hpl : p < l.length := by rw [HL.out]; omega
          obtain ⟨s, hs⟩ : ∃ s, l[p] = s := ⟨_, rfl⟩
          have hs' : l[p]? = some s := by rw [List.getElem?_eq_getElem hpl, hs]
          obtain ⟨b, o, rfl, hb, c0, c1, c2, c3, c4, c5⟩ := ev_at (HS0.out.below hB) hpl hs
          rw [Nat.add_sub_cancel, hs'] at hT
          have hTe : T = decide (s = ⟨xt, xk, xc, xe, xv, xn⟩) := by rw [← hT]; simp
          clear hs hs' hT
          have bx := hs1 _ hB
          have b0 := bx.cell 0
          have b1 := bx.cell 1
          have b2 := bx.cell 2
          have b3 := bx.cell 3
          have b4 := bx.cell 4
          have b5 := bx.cell 5
          simp only [List.getElem?_toArray, List.getElem?_cons_zero, List.getElem?_cons_succ] at b0 b1 b2 b3 b4 b5
          obtain ⟨sd, sf, sk, si, so, sm⟩ := s
          dsimp only at c0 c1 c2 c3 c4 c5
          have k0 : decide ((0 : Int) < (p : Int) + 1) = true := by simp <;> omega
          have k1 : decide (0 < p + 1) = true := by simp
          have gw : IntKind.i64.wrap (p : Int) = p := IntWalk.i64_in _ (by omega)
          have g5 : (0 : Int) ≤ (p : Int) := by omega
          have g6 : (p : Int) < (n : Int) := by omega
          clear bx hs1
          by_cases hab : sd = xt ∧ sf = xk ∧ sk = xc ∧ si = xe ∧ so = xv ∧ sm = xn
          · obtain ⟨rfl, rfl, rfl, rfl, rfl, rfl⟩ := hab
            have HN := Lib.hid (show T = true by rw [hTe]; simp)
            clear hTe
            go_wp2_with fail
            refine wp_region_still_lit (by kernel_rfl) (by kernel_rfl) ?_
            repeat still_step
            refine wpStill_nil ?_
            go_wp2
            go_meet
            exact ⟨by rw [HN.out], hB.drew⟩
          · have HN := Lib.hid (show T = false by rw [hTe]; simp; exact fun h1 h2 h3 h4 h5 h6 => hab ⟨h1, h2, h3, h4, h5, h6⟩)
            have hc : ¬ sd = xt ∨ (sd = xt ∧ ¬ sf = xk) ∨ (sd = xt ∧ sf = xk ∧ ¬ sk = xc) ∨ (sd = xt ∧ sf = xk ∧ sk = xc ∧ ¬ si = xe) ∨ (sd = xt ∧ sf = xk ∧ sk = xc ∧ si = xe ∧ ¬ so = xv) ∨ (sd = xt ∧ sf = xk ∧ sk = xc ∧ si = xe ∧ so = xv ∧ ¬ sm = xn) := by omega
            clear hTe hab
            rcases hc with h | ⟨rfl, h⟩ | ⟨rfl, rfl, h⟩ | ⟨rfl, rfl, rfl, h⟩ | ⟨rfl, rfl, rfl, rfl, h⟩ | ⟨rfl, rfl, rfl, rfl, rfl, h⟩
            all_goals
              go_wp2_with fail
              refine wp_region_still_lit (by kernel_rfl) (by kernel_rfl) ?_
              repeat still_step
              refine wpStill_nil ?_
              go_wp2
              go_meet
              exact ⟨by rw [HN.out], hB.drew⟩
    case rest =>
      obtain ⟨rfl, hB⟩ := hcut
      cases T with
      | true =>
        have HN := Lib.hid (show insS once ⟨xt, xk, xc, xe, xv, xn⟩ l = l by rw [HS.out, if_pos (by simpa using hT)])
        clear hT
        go_wp2
        go_ret
        exact ⟨A, n, c, rfl, by rw [HN.out]; exact (HS0.out.below hB).below (Below.refl _ _), HBW.out.trans (hB.mono (by omega))⟩
      | false =>
        have HN := Lib.hid (show insS once ⟨xt, xk, xc, xe, xv, xn⟩ l = l.take k ++ [⟨xt, xk, xc, xe, xv, xn⟩] ++ l.drop k by rw [HS.out, if_neg (by simpa using hT)])
        clear hT HS
        have hcells : ∀ w', Below W0.heap.size W0 w' → w'.cell? ⟨w.heap.size, 0, none⟩ = some (.int .i64 xt) ∧ w'.cell? ⟨w.heap.size, 1, none⟩ = some (.int .i64 xk) ∧ w'.cell? ⟨w.heap.size, 2, none⟩ = some (.int .i64 xc) ∧
            w'.cell? ⟨w.heap.size, 3, none⟩ = some (.int .i64 xe) ∧ w'.cell? ⟨w.heap.size, 4, none⟩ = some (.int .i64 xv) ∧ w'.cell? ⟨w.heap.size, 5, none⟩ = some (.int .i64 xn) := fun w' hb =>
          ⟨(hs1 _ hb).cell 0, (hs1 _ hb).cell 1, (hs1 _ hb).cell 2, (hs1 _ hb).cell 3, (hs1 _ hb).cell 4, (hs1 _ hb).cell 5⟩
        have HC := Lib.hid hcells
        have hBz := hB.size
        obtain ⟨A2, c2, e2, hs2⟩ := (HS0.out.below hB).cutTo (j := (k : Int)) (hi := k) rfl hkn
        replace e2 : ∀ W, (Instr.slice 22 (.slice A n c) none (some (.int .i64 (k : Int))) none).run Try.prog W = .ok (.slice A2 k c2) W := e2
        have O1 := OA.litL (e := evE) (B := W0.heap.size) (l := []) (n := 0) (cs := #[]) wc.drew hBz rfl rfl (by omega)
        have O2 := OA.litL (e := evE) (B := W0.heap.size) (l := []) (n := 0) (cs := #[]) (wc.drew.alloc (.cells (evA ⟨xt, xk, xc, xe, xv, xn⟩) 40)) (by rw [World.size_alloc]; exact Nat.le_succ_of_le hBz) rfl rfl (by omega)
        rw [World.size_alloc] at O2
        have hd2 := hs2.below (Below.refl _ wc).drew
        obtain ⟨A3, c3, w3, A4, c4, w4, eA3, eA4, OA4, BA3, BA4⟩ := two_app' (y := ⟨xt, xk, xc, xe, xv, xn⟩) O1 (hd2.alloc _) (by rw [World.size_alloc]; exact Nat.le_succ_of_le hBz) (by omega)
        have gB := Blk.new (wc.drew.alloc (.cells #[] 40)) 40 (evA ⟨xt, xk, xc, xe, xv, xn⟩)
        rw [World.size_alloc] at gB
        obtain ⟨B3, d3, v3, B4, d4, v4, eB3, eB4, OB4, BB3, BB4⟩ := two_app (y := ⟨xt, xk, xc, xe, xv, xn⟩) (O1.alloc _) ((hd2.alloc _).alloc _) gB (by rintro a h; injection h with h; rw [← h]; show wc.heap.size + 1 ≠ wc.heap.size; omega) (by rw [World.size_alloc, World.size_alloc]; exact Nat.le_succ_of_le (Nat.le_succ_of_le hBz)) (by omega)
        have gC := (Blk.new wc.drew 40 (evA ⟨xt, xk, xc, xe, xv, xn⟩)).alloc (.cells #[] 40)
        obtain ⟨C3, f3, u3, C4, f4, u4, eC3, eC4, OC4, BC3, BC4⟩ := two_app (y := ⟨xt, xk, xc, xe, xv, xn⟩) O2 ((hd2.alloc _).alloc _) gC (by rintro a h; injection h with h; rw [← h]; show wc.heap.size ≠ wc.heap.size + 1; omega) (by rw [World.size_alloc, World.size_alloc]; exact Nat.le_succ_of_le (Nat.le_succ_of_le hBz)) (by omega)
        have hal1 := fun o => Bel.al hB.drew o
        have hal2 := fun o o' => Bel.al (hal1 o) o'
        replace BA3 := (hal1 _).trans BA3
        replace BA4 := (hal1 _).trans BA4
        replace BB3 := (hal2 _ _).trans BB3
        replace BB4 := (hal2 _ _).trans BB4
        replace BC3 := (hal2 _ _).trans BC3
        replace BC4 := (hal2 _ _).trans BC4
        have HAL := Lib.hid (And.intro hB.drew (And.intro hal1 hal2))
        have HRA := Lib.hid (And.intro OA4 (And.intro BA3 BA4))
        have HRB := Lib.hid (And.intro OB4 (And.intro BB3 BB4))
        have HRC := Lib.hid (And.intro OC4 (And.intro BC3 BC4))
        have hcc := HC.out _ hB.drew
        dsimp only [evA] at eA3 eA4 eB3 eB4 eC3 eC4
        clear hs2 O1 O2 hd2 gB gC OA4 OB4 OC4 BA3 BA4 BB3 BB4 BC3 BC4 hal1 hal2 hcells hs1
        go_upto_region 6 with (fail)
        go_cut [8] (fun s wx => ∃ A' c', s = .slice A' (k + 1) c' ∧ OA evE wx W0.heap.size A' (k + 1) c' (l.take k ++ [⟨xt, xk, xc, xe, xv, xn⟩]) ∧ Below W0.heap.size W0 wx)
        case first =>
          go_region_held3 (fun w' => w'.cell? ⟨w.heap.size, 0, none⟩ = some (.int .i64 xt) ∧ w'.cell? ⟨w.heap.size, 1, none⟩ = some (.int .i64 xk) ∧ w'.cell? ⟨w.heap.size, 2, none⟩ = some (.int .i64 xc) ∧
            w'.cell? ⟨w.heap.size, 3, none⟩ = some (.int .i64 xe) ∧ w'.cell? ⟨w.heap.size, 4, none⟩ = some (.int .i64 xv) ∧ w'.cell? ⟨w.heap.size, 5, none⟩ = some (.int .i64 xn))
            ((refine HC.out _ ?_; first | exact HAL.out.1 | exact HAL.out.2.1 _ | exact HAL.out.2.2 _ _ | exact HRA.out.2.1 | exact Bel.al HRA.out.2.1 _ | exact HRA.out.2.2 | exact HRB.out.2.1 | exact HRB.out.2.2 | exact HRC.out.2.1 | exact HRC.out.2.2))
            (first
              | (refine wp_append_eq (v1 := .slice (some ⟨wc.heap.size, 0, none⟩) 0 0) (v2 := .slice A2 k c2) (.tmp 39) (.tmp 42) 22 (by rfl) (by rfl) (by rfl) eA3 ?_)
              | (refine wp_append_eq (v1 := .slice (some ⟨wc.heap.size, 0, none⟩) 0 0) (v2 := .slice A2 k c2) (.tmp 39) (.tmp 42) 22 (by rfl) (by rfl) (by rfl) eB3 ?_)
              | (refine wp_append_eq (v1 := .slice (some ⟨wc.heap.size + 1, 0, none⟩) 0 0) (v2 := .slice A2 k c2) (.tmp 39) (.tmp 42) 22 (by rfl) (by rfl) (by rfl) eC3 ?_)
              | (refine wp_append_eq (v1 := .slice A3 k c3) (v2 := .slice (some ⟨w3.heap.size, 0, none⟩) 1 1) (.tmp 43) (.tmp 45) 22 (by rfl) (by rfl) (by rfl) eA4 ?_)
              | (refine wp_append_eq (v1 := .slice B3 k d3) (v2 := .slice (some ⟨wc.heap.size + 1, 0, none⟩) 1 1) (.tmp 43) (.tmp 45) 22 (by rfl) (by rfl) (by rfl) eB4 ?_)
              | (refine wp_append_eq (v1 := .slice C3 k f3) (v2 := .slice (some ⟨wc.heap.size, 0, none⟩) 1 1) (.tmp 43) (.tmp 45) 22 (by rfl) (by rfl) (by rfl) eC4 ?_))
          all_goals
            go_wp2_with fail
            go_meet
            first
              | exact ⟨_, _, rfl, HRA.out.1, HRA.out.2.2⟩
              | exact ⟨_, _, rfl, HRB.out.1, HRB.out.2.2⟩
              | exact ⟨_, _, rfl, HRC.out.1, HRC.out.2.2⟩
        case rest =>
          obtain ⟨A5, c5, rfl, hO5, hB5⟩ := hcut
          obtain ⟨A6, c6, e6, hs6⟩ := (HS0.out.below hB5).cutFrom (i := (k : Int)) (lo := k) (m := n - k) rfl hkn rfl
          replace e6 : ∀ W, (Instr.slice 22 (.slice A n c) (some (.int .i64 (k : Int))) none none).run Try.prog W = .ok (.slice A6 (n - k) c6) W := e6
          obtain ⟨A7, c7, w7, e7, hO7, hB7, _⟩ := hO5.app hs6 hB5.size (by omega)
          have hR := hO7.sa
          have HR := Lib.hid hR
          have HBB := Lib.hid (hB5.trans hB7)
          clear hR hO7 hB7 hs6 hO5
          go_wp2_with (at_builtin; refine wpList_append_eq rfl _ _ _ rfl rfl rfl e7 ?_; clear e7)
          go_ret
          exact ⟨A7, _, c7, rfl, by rw [HN.out]; exact HR.out, HBW.out.trans (HBB.out.mono (by omega))⟩
end Go.Proofs.Ytmfdflfjllpceaa
