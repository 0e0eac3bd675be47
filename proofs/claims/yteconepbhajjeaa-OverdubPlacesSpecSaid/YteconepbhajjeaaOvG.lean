/- Layer 44: the reference's Lay, where it lays. -/
import Derived.Test.YteconepbhajjeaaOvF
namespace Go.Proofs.Yteconepbhajjeaa
open Go.RowKit

theorem OA.drewN {α : Type} {e : Enc α} {w : World} {B : Nat} {A : Option Addr} {n c : Nat} {l : List α} (h : OA e w B A n c l) (q : Nat) : OA e (w.drewN q) B A n c l := ⟨h.own⟩
theorem laid_own {w : World} {B g q c : Nat} {x : List Ld} {b : Ld} (h : OA laidE w B (some ⟨g, 0, none⟩) (q + 1) c x) (hb : x[q]? = some b) : B ≤ g ∧ g < w.heap.size ∧ q + 1 ≤ c ∧
    w.cell? ⟨g, q * 4, none⟩ = some (.int .i64 b.frm) ∧ w.cell? ⟨g, q * 4 + 1, none⟩ = some (.int .i64 b.len) ∧ w.cell? ⟨g, q * 4 + 2, none⟩ = some (.int .i64 b.at_) ∧ w.cell? ⟨g, q * 4 + 3, none⟩ = some (.int .i64 b.pass) ∧ w.frozen? ⟨g, q * 4 + 1, none⟩ = false ∧
    ∀ v, OA laidE (w.setCell ⟨g, q * 4 + 1, none⟩ (.int .i64 v)) B (some ⟨g, 0, none⟩) (q + 1) c (x.set q ⟨b.frm, v, b.at_, b.pass⟩) := by
  obtain ⟨g', hA, hg, hgs, hnc, hc, hf, hset⟩ := h.at_ (k := q) (by omega)
  injection hA with hA
  injection hA with hA
  subst hA
  exact ⟨hg, hgs, hnc, hc b 0 _ hb rfl, hc b 1 _ hb rfl, hc b 2 _ hb rfl, hc b 3 _ hb rfl, hf 1, fun v => hset b ⟨b.frm, v, b.at_, b.pass⟩ 1 _ hb (by decide) rfl⟩
/-- The relation of the reference's loop. -/
def RL (l : List Spn) (h : Int) (k : Nat) (B : Nat) (x nx : Value) (wr : World) : Prop :=
  ∃ A m c, x = .slice A m c ∧ nx = .int .i64 (layFrom (fun k => heardS l (h + k)) ([], -1) 0 k).2 ∧ OA laidE wr B A m c (layFrom (fun k => heardS l (h + k)) ([], -1) 0 k).1
set_option maxHeartbeats 8000000 in
set_option maxRecDepth 100000 in
theorem rlay_ok (A : Option Addr) (n c nn : Nat) (l : List Spn) (st i o : Int) (w : World) (h : SA spanE w A n c l) (hk : LayOk l st nn i o) :
    Calls Try.prog 11 #[.slice A n c, .int .i64 st, .int .i64 (nn : Int), .int .i64 i, .int .i64 o] w (LayRet w l st nn i o) := by
  have hlen := h.n_eq
  have C := rinOrder_any A n c l w h
  obtain ⟨k1, k2, k3, k4, k5, k6, k7, k8, k9⟩ := hk
  obtain ⟨ho, hn5⟩ := ordTo_of k1
  have hord : Ordered 0 l := ordL_ordered (by unfold inOrdS at k1; rw [Bool.and_eq_true] at k1; exact k1.1)
  have HR := Lib.hid (show layR l st nn i o = ((layFrom (fun k => heardS l (st - i - o + k)) ([], -1) 0 nn).1, 0) by
    unfold layR layS; rw [if_pos ⟨k1, k2, k3, k4, k5, k6, k7, k8, k9⟩, lay_eq hord]; simp)
  have HF := Lib.hid (fun a : Int => heardS_le (l := l) (a := a) (fun s hs => by
    obtain ⟨j, hj⟩ := List.mem_iff_getElem?.1 hs
    have := ord_bounds ho (List.getElem?_eq_some_iff.1 hj).1 hj
    omega))
  have HSB := Lib.hid (stB_all (f := fun k => heardS l (st - i - o + k)) (n := nn) (fun k _ => HF.out _))
  have CH := Lib.hid (fun (a : Int) (w' : World) (hb : Below w.heap.size w w') h1 h2 => rheard_any A n c l a w' (h.below hb) ho h1 h2)
  rw [k1] at C
  rw [hlen] at hn5
  have HH := Lib.hid h
  clear ho hord k1 h hlen
  have e2 : decide (st < 0) = false := by simpa using k2
  have e3 : decide (1099511627776 < st) = false := by simpa using k3
  have e4 : decide ((nn : Int) < 0) = false := by simp
  have e5 : decide (16777216 < (nn : Int)) = false := by simpa using k5
  have e6 : decide (i < 0) = false := by simpa using k6
  have e7 : decide (1048576 < i) = false := by simpa using k7
  have e8 : decide (o < 0) = false := by simpa using k8
  have e9 : decide (1048576 < o) = false := by simpa using k9
  go_enter Try.func11, Try.ntmps11
  go_wp2_with (go_at_call 18; refine C.mono ?_; rintro e w1 ⟨rfl, hh⟩; clear C)
  go_loopw [12, 13, 14] (fun x nx kk wr => ∃ k : Nat, k ≤ nn ∧ kk = .int .i64 k ∧ RL l (st - i - o) k w.heap.size x nx wr ∧ Below w.heap.size w wr) (fun _ _ kk _ => nn - (intOf kk).toNat)
  case atStart => exact ⟨0, Nat.zero_le _, rfl, ⟨none, 0, 0, rfl, rfl, OA.nil _ _ _⟩, hh⟩
  case round =>
    obtain ⟨k, hk, rfl, ⟨Ax, m, cx, rfl, rfl, hoa⟩, hB⟩ := hrel
    by_cases hlt : k < nn
    · have hlt' : (k : Int) < (nn : Int) := by omega
      obtain ⟨sb1, sb2, sb3, sb4⟩ := HSB.out k (by omega)
      have hsn := layFrom_snoc (fun k => heardS l (st - i - o + k)) k
      obtain ⟨xs, nx, hst⟩ : ∃ xs nx, layFrom (fun k => heardS l (st - i - o + k)) ([], -1) 0 k = (xs, nx) := ⟨_, _, rfl⟩
      rw [hst] at hoa sb1 sb2 sb3 sb4 hsn ⊢
      dsimp only at hoa sb1 sb2 sb3 sb4 hsn ⊢
      have harg : st + (k : Int) - i - o = st - i - o + k := by omega
      obtain ⟨t, ht⟩ : ∃ t, heardS l (st - i - o + k) = t := ⟨_, rfl⟩
      obtain ⟨t1, t2⟩ := HF.out (st - i - o + k)
      have C := CH.out (st + (k : Int) - i - o) wr hB (by omega) (by omega)
      rw [harg, ht, ← harg] at C
      rw [ht] at hsn t1 t2
      have hm := hoa.n_eq
      have HB1 := Lib.hid sb1
      have HST := Lib.hid hst
      have HSN := Lib.hid hsn
      have HT := Lib.hid ht
      have HM := Lib.hid hm
      rw [hm] at sb4
      clear sb1 hst hsn ht hm harg
      by_cases htn : t < 0
      · have HN := Lib.hid (HSN.out.trans (addSample_neg xs nx htn))
        go_wp2_with (go_at_call 25; refine C.mono ?_; rintro e w2 ⟨rfl, hh2⟩; have hoa2 := hoa.below hh2; clear C)
        exact ⟨⟨k + 1, by omega, by simp, ⟨Ax, m, cx, rfl, by rw [HN.out], by rw [HN.out]; exact hoa2⟩, Bel.on0 hB hh2⟩, by simp only [intOf]; omega⟩
      · by_cases hm0 : m = 0
        · subst hm0
          obtain rfl : xs = [] := List.eq_nil_of_length_eq_zero HM.out
          have HN := Lib.hid (HSN.out.trans (addSample_first nx (k := k) (t := t) (by omega)))
          go_wp2_with (go_at_call 25; refine C.mono ?_; rintro e w2 ⟨rfl, hh2⟩; have hoa2 := hoa.below hh2; clear C)
          go_quiet (fail)
          rename Nat => q
          have hs := SA.lit (e := laidE) (l := [⟨(k : Int), 1, t, 0⟩]) (n := 1) (cs := #[.int .i64 k, .int .i64 1, .int .i64 t, .int .i64 0]) (w2.drewN q) rfl rfl (by omega)
          obtain ⟨A', c', w', eA, z1, z2, _⟩ := ((hoa2.drewN q).alloc (.cells #[.int .i64 k, .int .i64 1, .int .i64 t, .int .i64 0] 52)).app hs (by have := hh2.size; have := hB.size; simp; omega) (by omega)
          have HZ1 := Lib.hid z1
          have HZ2 := Lib.hid z2
          clear z1 z2 hs
          go_wp2_with (at_builtin; refine wpList_append_eq rfl _ _ _ rfl rfl rfl eA ?_; clear eA)
          exact ⟨⟨k + 1, by omega, by simp, ⟨A', _, c', rfl, by rw [HN.out], by rw [HN.out]; exact HZ1.out⟩, (Bel.al (below_drewN (Bel.on0 hB hh2) q) _).trans HZ2.out⟩, by simp only [intOf]; omega⟩
        · obtain ⟨q, rfl⟩ : ∃ q, m = q + 1 := ⟨m - 1, by omega⟩
          obtain ⟨g, rfl, _⟩ := hoa.at_ (k := q) (by omega)
          obtain ⟨b, hxb⟩ : ∃ b, xs[q]? = some b := ⟨_, List.getElem?_eq_getElem (by rw [HM.out]; omega)⟩
          obtain ⟨b1, b2, b3, b4, b5, b6, b7, b8⟩ := HB1.out b (List.mem_of_getElem? hxb)
          have HXB := Lib.hid hxb
          obtain ⟨hg, hgs, hgc, c0, c1, c2, c3, _, _⟩ := laid_own hoa hxb
          have hq1 : (q : Int) < (q : Int) + 1 := by omega
          have hq0 : (0 : Int) ≤ (q : Int) := by omega
          clear hxb hm0
          have kk1 : decide ((0 : Int) < (q : Int) + 1) = true := by simp <;> omega
          have kk2 : decide (0 < q + 1) = true := by simp
          by_cases htx : t = nx
          · subst htx
            have HN := Lib.hid (HSN.out.trans (addSample_more (k := k) (t := t) HXB.out HM.out (by omega)))
            go_wp2_with (go_at_call 25; refine C.mono ?_; rintro e w2 ⟨rfl, hh2⟩; have hoa2 := hoa.below hh2; obtain ⟨_, hg2, _, d0, d1, d2, d3, fz, hset⟩ := laid_own hoa2 HXB.out; have HS := Lib.hid hset; clear hset C c0 c1 c2 c3)
            exact ⟨⟨k + 1, by omega, by simp, ⟨_, _, cx, rfl, by rw [HN.out], by rw [HN.out]; exact HS.out _⟩, (Bel.on0 hB hh2).setCell hg _⟩, by simp only [intOf]; omega⟩
          · have hnx : (t == nx) = false := by simpa using htx
            have dnx : decide (t = nx) = false := by simpa using htx
            have HNX := Lib.hid htx
            clear htx
            obtain ⟨bF, bL, bA, bP⟩ := b
            dsimp only at b1 b2 b3 b4 b5 b6 b7 b8 c0 c1 c2 c3
            have gE2 : IntKind.i64.wrap (bA + bL) = bA + bL := IntWalk.i64_in _ (by omega)
            by_cases hlt2 : t < bA + bL
            · have HN := Lib.hid (HSN.out.trans (addSample_new (k := k) (t := t) (nx := nx) HXB.out HM.out (by omega) HNX.out))
              rw [show (if t < bA + bL then bP + 1 else bP) = bP + 1 from if_pos hlt2] at HN
              have k2 : decide (t < bA + bL) = true := by simpa using hlt2
              go_wp2_with (go_at_call 25; refine C.mono ?_; rintro e w2 ⟨rfl, hh2⟩; have hoa2 := hoa.below hh2; obtain ⟨_, hg2, _, d0, d1, d2, d3, _, _⟩ := laid_own hoa2 HXB.out; clear C c0 c1 c2 c3)
              go_quiet (fail)
              rename Nat => p
              have hs := SA.lit (e := laidE) (l := [⟨(k : Int), 1, t, bP + 1⟩]) (n := 1) (cs := #[.int .i64 k, .int .i64 1, .int .i64 t, .int .i64 (bP + 1)]) (w2.drewN p) rfl rfl (by omega)
              obtain ⟨A', c', w', eA, z1, z2, _⟩ := ((hoa2.drewN p).alloc (.cells #[.int .i64 k, .int .i64 1, .int .i64 t, .int .i64 (bP + 1)] 52)).app hs (by have := hh2.size; have := hB.size; simp; omega) (by omega)
              have HZ1 := Lib.hid z1
              have HZ2 := Lib.hid z2
              clear z1 z2 hs
              go_wp2_with (at_builtin; refine wpList_append_eq rfl _ _ _ rfl rfl rfl eA ?_; clear eA)
              exact ⟨⟨k + 1, by omega, by simp, ⟨A', _, c', rfl, by rw [HN.out], by rw [HN.out]; exact HZ1.out⟩, (Bel.al (below_drewN (Bel.on0 hB hh2) p) _).trans HZ2.out⟩, by simp only [intOf]; omega⟩
            · have HN := Lib.hid (HSN.out.trans (addSample_new (k := k) (t := t) (nx := nx) HXB.out HM.out (by omega) HNX.out))
              rw [show (if t < bA + bL then bP + 1 else bP) = bP from if_neg hlt2] at HN
              have k2 : decide (t < bA + bL) = false := by simpa using hlt2
              go_wp2_with (go_at_call 25; refine C.mono ?_; rintro e w2 ⟨rfl, hh2⟩; have hoa2 := hoa.below hh2; obtain ⟨_, hg2, _, d0, d1, d2, d3, _, _⟩ := laid_own hoa2 HXB.out; clear C c0 c1 c2 c3)
              go_quiet (fail)
              rename Nat => p
              have hs := SA.lit (e := laidE) (l := [⟨(k : Int), 1, t, bP⟩]) (n := 1) (cs := #[.int .i64 k, .int .i64 1, .int .i64 t, .int .i64 (bP)]) (w2.drewN p) rfl rfl (by omega)
              obtain ⟨A', c', w', eA, z1, z2, _⟩ := ((hoa2.drewN p).alloc (.cells #[.int .i64 k, .int .i64 1, .int .i64 t, .int .i64 (bP)] 52)).app hs (by have := hh2.size; have := hB.size; simp; omega) (by omega)
              have HZ1 := Lib.hid z1
              have HZ2 := Lib.hid z2
              clear z1 z2 hs
              go_wp2_with (at_builtin; refine wpList_append_eq rfl _ _ _ rfl rfl rfl eA ?_; clear eA)
              exact ⟨⟨k + 1, by omega, by simp, ⟨A', _, c', rfl, by rw [HN.out], by rw [HN.out]; exact HZ1.out⟩, (Bel.al (below_drewN (Bel.on0 hB hh2) p) _).trans HZ2.out⟩, by simp only [intOf]; omega⟩
    · obtain rfl : k = nn := by omega
      go_wp2
      go_ret2
      exact ⟨Ax, m, cx, by rw [HR.out]; rfl, by rw [HR.out]; exact hoa, hB⟩
theorem rlay_any (A : Option Addr) (n c : Nat) (l : List Spn) (st nn i o : Int) (w : World) (h : SA spanE w A n c l) :
    Calls Try.prog 11 #[.slice A n c, .int .i64 st, .int .i64 nn, .int .i64 i, .int .i64 o] w (LayRet w l st nn i o) := by
  by_cases hk : LayOk l st nn i o
  · obtain ⟨m, rfl⟩ : ∃ m : Nat, nn = m := ⟨nn.toNat, by have := hk.2.2.2.1; omega⟩
    exact rlay_ok A n c m l st i o w h hk
  · exact rlay_bad A n c l st nn i o w h hk
end Go.Proofs.Yteconepbhajjeaa
