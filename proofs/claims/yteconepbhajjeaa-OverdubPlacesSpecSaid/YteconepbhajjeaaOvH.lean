/- Layer 44: expand. -/
import Derived.Test.YteconepbhajjeaaOvEb
import Derived.Test.YteconepbhajjeaaOvG
import Derived.Test.YteconepbhajjeaaPlainOverdubD
namespace Go.Proofs.Yteconepbhajjeaa
open Go.RowKit

theorem intI_info : (Try.prog.info? 3).map (fun i => (i.zero, i.size, i.bytes)) = some (some (.int .i64 0), 1, 8) := by kernel_rfl
def intE : Enc Int where
  S := 38
  E := 3
  sz := 1
  bytes := 8
  enc := fun x => [.int .i64 x]
  pos := by decide
  len := fun _ => rfl
  one := by simp [Value.oneCell']
  hS := Try.underlying38
  info := by
    obtain ⟨i0, hi, hz0, hz1, hz2⟩ := info_parts intI_info
    exact ⟨i0, _, hi, hz0, hz1, hz2, rfl⟩
  hb := by decide
theorem int_at {w : World} {A : Option Addr} {n c : Nat} {l : List Int} (h : SA intE w A n c l) {k : Nat} (hk : k < l.length) {s : Int} (hs : l[k] = s) : ∃ b o, A = some ⟨b, o, none⟩ ∧ b < w.heap.size ∧
    w.cell? ⟨b, o + k, none⟩ = some (.int .i64 s) := by
  subst hs
  obtain ⟨b, o, e, hb, hc⟩ := h.at_ hk
  refine ⟨b, o, e, hb, ?_⟩
  have := hc 0 _ rfl
  simpa [intE] using this
def lenV : Value → Nat
  | .slice _ n _ => n
  | _ => 0
/-- What expand's inner loops keep: the box D of the part y, its result. -/
def EX (w : World) (B D : Nat) (y : Ld) (acc : List Int) (v : Value) (W : World) : Prop :=
  ∃ A c, v = .slice A acc.length c ∧ Blk W D 52 #[.int .i64 y.frm, .int .i64 y.len, .int .i64 y.at_, .int .i64 y.pass] ∧ OA intE W B A acc.length c acc ∧ (∀ a, A = some a → a.block ≠ D) ∧ Below B w W ∧ B ≤ W.heap.size
theorem EX.app {w W : World} {B D c : Nat} {y : Ld} {acc : List Int} {A : Option Addr} (hb : Blk W D 52 #[.int .i64 y.frm, .int .i64 y.len, .int .i64 y.at_, .int .i64 y.pass]) (ho : OA intE W B A acc.length c acc) (hn : ∀ a, A = some a → a.block ≠ D)
    (hB : Below B w W) (hs : B ≤ W.heap.size) (hl : acc.length ≤ 1000000000) (v : Int) :
    ∃ A2 c2 W2, (Builtin.append_ #[38, 38] 38 #[.slice A acc.length c, .slice (some ⟨W.heap.size, 0, none⟩) 1 1]).run Try.prog (W.alloc (.cells #[.int .i64 v] 3)) = .ok (.slice A2 (acc.length + 1) c2) W2 ∧ EX w B D y (acc ++ [v]) (.slice A2 (acc.length + 1) c2) W2 := by
  have hlit := SA.lit (e := intE) (l := [v]) (n := 1) (cs := #[.int .i64 v]) W rfl rfl (by omega)
  obtain ⟨A2, c2, W2, e1, e2, e3, e4, e5⟩ := (ho.alloc (.cells #[.int .i64 v] 3)).app hlit (by simp; omega) (by omega)
  have hD := hb.lt
  have hlen : (acc ++ [v]).length = acc.length + 1 := by simp
  refine ⟨A2, c2, W2, e1, A2, c2, by rw [hlen], ?_, by rw [hlen]; exact e2, ?_, (hB.alloc hs _).trans e3, ?_⟩
  · exact (e4 D (by simp; omega) (fun a ha => (hn a ha).symm)).trans (hb.alloc _)
  · intro a' ha' hd
    rcases e5 a' ha' with ⟨a, ha, hab⟩ | h5
    · exact hn a ha (hab ▸ hd)
    · simp at h5; omega
  · have := e3.size; simp at this; omega
theorem padTo_ge {k : Nat} {a : List Int} (h : a.length ≤ k) : padTo k a = a ++ List.replicate (k - a.length) (-1) := rfl
theorem ld_cells {W : World} {D : Nat} {y : Ld} (hb : Blk W D 52 #[.int .i64 y.frm, .int .i64 y.len, .int .i64 y.at_, .int .i64 y.pass]) :
    W.cell? ⟨D, 0, none⟩ = some (.int .i64 y.frm) ∧ W.cell? ⟨D, 1, none⟩ = some (.int .i64 y.len) ∧ W.cell? ⟨D, 2, none⟩ = some (.int .i64 y.at_) ∧ W.cell? ⟨D, 3, none⟩ = some (.int .i64 y.pass) := by
  have b0 := hb.cell 0
  have b1 := hb.cell 1
  have b2 := hb.cell 2
  have b3 := hb.cell 3
  simp only [List.getElem?_toArray, List.getElem?_cons_zero, List.getElem?_cons_succ] at b0 b1 b2 b3
  exact ⟨b0, b1, b2, b3⟩
theorem expL_take_succ {x : List Ld} {k : Nat} {y : Ld} (h : x[k]? = some y) : expL (x.take (k + 1)) = expStep (expL (x.take k)) y := by
  rw [List.take_add_one, h]
  exact expL_snoc _ _
theorem expL_le {x : List Ld} {m : Int} (h : ExpOk x m) (hm : 0 ≤ m) : ∀ k : Nat, k ≤ x.length → ((expL (x.take k)).length : Int) ≤ m := by
  intro k
  induction k with
  | zero => intro _; simp [expL]; omega
  | succ k ih =>
    intro hk
    have hy : x[k]? = some x[k] := List.getElem?_eq_getElem (by omega)
    have := h k _ hy
    rw [expL_take_succ hy]
    unfold expStep
    rw [List.length_append, padTo_len (by omega), upS_len]
    omega
set_option maxHeartbeats 4000000 in
theorem expand_any (A : Option Addr) (n c m : Nat) (x : List Ld) (w : World) (h : SA laidE w A n c x) (hx : ExpOk x m) (hm : m ≤ 16777216) :
    Calls Try.prog 19 #[.slice A n c, .int .i64 (m : Int)] w fun e w' =>
      ∃ A' c', e = .returned (.tuple #[.slice A' m c', .bool true]) ∧ SA intE w' A' m c' (padTo m (expL x)) ∧ Below w.heap.size w w' := by
  have hlen := h.len
  have HL := Lib.hid h.n_eq
  have HH := Lib.hid h
  have HX := Lib.hid hx
  have HLE := Lib.hid (expL_le hx (by omega))
  clear h hx
  obtain ⟨B, hBe⟩ : ∃ B, w.heap.size = B := ⟨_, rfl⟩
  go_enter Try.func19, Try.ntmps19
  go_wp2
  go_loopw [4, 11] (fun v i wr => ∃ (k p : Nat) (A' : Option Addr) (c' : Nat), k ≤ n ∧ i = .int .i64 k ∧ v = .slice A' p c' ∧ Hid (OA intE wr B A' p c' (expL (x.take k))) ∧ Hid (Below B w wr)) (fun _ i _ => n - (intOf i).toNat)
  case atStart => exact ⟨0, 0, none, 0, Nat.zero_le _, rfl, rfl, Lib.hid (by simpa [expL] using OA.nil intE w B), Lib.hid (Below.refl _ _)⟩
  case round =>
    obtain ⟨k, p, A', c', hk, rfl, rfl, HO, HB⟩ := hrel
    have hp := HO.out.n_eq
    by_cases hlt : k < n
    · have hkl : k < x.length := by rw [HL.out]; exact hlt
      obtain ⟨s, hs⟩ : ∃ s, x[k] = s := ⟨_, rfl⟩
      have hs' : x[k]? = some s := by rw [List.getElem?_eq_getElem hkl, hs]
      obtain ⟨bb, o, rfl, hb, c0, c1, c2, c3⟩ := laid_at (HH.out.below (by rw [hBe]; exact HB.out)) hkl hs
      have hxk := HX.out k s hs'
      have HSN := Lib.hid (expL_take_succ hs')
      clear hs hs'
      obtain ⟨sf, sl, sa, sp⟩ := s
      dsimp only at c0 c1 c2 c3 hxk
      obtain ⟨x1, x2, x3, x4, x5⟩ := hxk
      rw [hp] at x1
      obtain ⟨acc, hacc⟩ : ∃ acc, expL (x.take k) = acc := ⟨_, rfl⟩
      rw [hacc] at HO HSN hp
      have hBs : B ≤ wr.heap.size := by have := HB.out.size; omega
      obtain ⟨D, hD⟩ : ∃ D, wr.heap.size = D := ⟨_, rfl⟩
      have HAcc := Lib.hid hacc
      have hEX : EX w B D ⟨sf, sl, sa, sp⟩ acc (.slice A' p c') (wr.alloc (.cells #[.int .i64 sf, .int .i64 sl, .int .i64 sa, .int .i64 sp] 52)) := by
        have h1 := Blk.new wr 52 #[.int .i64 sf, .int .i64 sl, .int .i64 sa, .int .i64 sp]
        rw [hD] at h1
        refine ⟨A', c', by rw [hp], h1, by rw [hp]; exact HO.out.alloc _, fun a ha hd => ?_, HB.out.alloc hBs _, by simp; omega⟩
        rcases HO.out.own.2 with ⟨hv, _⟩ | ⟨g, cap, cur, hv, _, hh, _⟩
        · injection hv with e1; rw [e1] at ha; cases ha
        · injection hv with e1
          rw [e1] at ha
          injection ha with ha
          have := Blk.lt (t := intE.E) (cs := cur) hh
          rw [← ha] at hd
          simp only at hd
          omega
      have HEX := Lib.hid hEX
      have hp' : acc.length = p := hp
      clear hEX hacc hp
      go_wp2
      -- the gap ahead of the part
      go_loopw [4] (fun v wr => ∃ (q : Nat), Hid (EX w B D ⟨sf, sl, sa, sp⟩ (padTo q acc) v wr) ∧ acc.length ≤ q ∧ (q : Int) ≤ sf) (fun v _ => sf.toNat - lenV v)
      case atStart => exact ⟨acc.length, by rw [padTo_self rfl]; exact HEX, Nat.le_refl _, by rw [hp'] ; exact x1⟩
      case round =>
        obtain ⟨q, HE2, hq1, hq2⟩ := hrel
        have hql : (padTo q acc).length = q := padTo_len hq1
        obtain ⟨A1, c1, hv, i1, i2, i3, i4, i5⟩ := HE2.out
        rw [hql] at hv i2
        subst hv
        obtain ⟨b0, b1, b2, b3⟩ := ld_cells i1
        by_cases hqs : (q : Int) < sf
        · obtain ⟨A2, c2', W2, eA, hE⟩ := EX.app (v := -1) i1 (by rw [hql]; exact i2) i3 i4 i5 (by omega)
          rw [hql] at eA hE
          have hps := padTo_succ hq1
          rw [← hps] at hE
          have HE3 := Lib.hid hE
          have hq1' : acc.length ≤ q + 1 := by omega
          clear hE hps i1 i2 i3 i4 i5 HE2 hql
          go_wp2_with (at_builtin; refine wpList_append_eq rfl _ _ _ rfl rfl rfl eA ?_; clear eA)
          exact ⟨⟨q + 1, HE3, hq1', by omega⟩, by simp only [lenV]; omega⟩
        · obtain rfl : sf = (q : Int) := by omega
          have hEq : EX w B D ⟨(q : Int), sl, sa, sp⟩ (padTo q acc ++ upS sa 0) (.slice A1 q c1) wr := by
            have e0 : padTo q acc ++ upS sa 0 = padTo q acc := by simp [upS]
            rw [e0]
            exact ⟨A1, c1, by rw [hql], i1, by rw [hql]; exact i2, i3, i4, i5⟩
          have HE3 := Lib.hid hEq
          have HQL := Lib.hid hql
          have HAL := Lib.hid hq1
          clear i1 i2 i3 i4 i5 hEq hql HE2 HEX HO HB hp' hq1 x1
          go_wp2
          go_loopw [4, 55] (fun v i wr => ∃ t : Nat, i = .int .i64 t ∧ (t : Int) ≤ sl ∧ Hid (EX w B D ⟨(q : Int), sl, sa, sp⟩ (padTo q acc ++ upS sa t) v wr)) (fun _ i _ => sl.toNat - (intOf i).toNat)
          case atStart => exact ⟨0, rfl, by omega, HE3⟩
          case round =>
            obtain ⟨t, rfl, ht, HE4⟩ := hrel
            have htl : (padTo q acc ++ upS sa t).length = q + t := by rw [List.length_append, HQL.out, upS_len]
            obtain ⟨A4, c4, hv, i1, i2, i3, i4, i5⟩ := HE4.out
            rw [htl] at hv i2
            subst hv
            obtain ⟨b0, b1, b2, b3⟩ := ld_cells i1
            by_cases hts : (t : Int) < sl
            · obtain ⟨A2, c2', W2, eA, hE⟩ := EX.app (v := sa + t) i1 (by rw [htl]; exact i2) i3 i4 i5 (by omega)
              rw [htl] at eA hE
              rw [List.append_assoc, ← upS_succ] at hE
              have HE5 := Lib.hid hE
              clear hE i1 i2 i3 i4 i5 HE4 htl
              go_wp2_with (at_builtin; refine wpList_append_eq rfl _ _ _ rfl rfl rfl eA ?_; clear eA)
              exact ⟨⟨t + 1, by simp, by omega, HE5⟩, by simp only [intOf]; omega⟩
            · have hst : sl.toNat = t := by omega
              have HN := Lib.hid (show expL (x.take (k + 1)) = padTo q acc ++ upS sa t by rw [HSN.out]; unfold expStep; dsimp only; rw [hst, Int.toNat_natCast])
              have HI2 := Lib.hid i2
              have HI4 := Lib.hid i4
              clear i1 i2 i3 i4 i5 HE4 htl hst b0 b1 b2 b3
              go_wp2
              exact ⟨⟨k + 1, q + t, A4, c4, by omega, by simp, rfl, Lib.hid (by rw [HN.out]; exact HI2.out), HI4⟩, by simp only [intOf]; omega⟩
    · obtain rfl : k = n := by omega
      have hT : expL (x.take k) = expL x := by rw [List.take_of_length_le (by rw [HL.out]; omega)]
      have hle := HLE.out k (by rw [HL.out]; omega)
      rw [hT] at HO hp hle
      rw [hp] at hle
      obtain ⟨acc, hacc⟩ : ∃ acc, expL x = acc := ⟨_, rfl⟩
      rw [hacc] at HO hp
      have HP := Lib.hid hp
      have HACC := Lib.hid hacc
      have h0 : OA intE wr B A' p c' (padTo p acc) := by rw [padTo_self hp]; exact HO.out
      have H0 := Lib.hid h0
      clear hT h0 hacc hp
      go_wp2
      go_loopw [4] (fun v wr => ∃ (q : Nat) (A2 : Option Addr) (c2 : Nat), v = .slice A2 q c2 ∧ p ≤ q ∧ q ≤ m ∧ Hid (OA intE wr B A2 q c2 (padTo q acc)) ∧ Hid (Below B w wr)) (fun v _ => m - lenV v)
      case atStart => exact ⟨p, A', c', rfl, Nat.le_refl _, by omega, H0, HB⟩
      case round =>
        obtain ⟨q, A2, c2, rfl, hq1, hq2, HO2, HB2⟩ := hrel
        have hBs : B ≤ wr.heap.size := by have := HB2.out.size; omega
        by_cases hqm : q < m
        · have hlit := SA.lit (e := intE) (l := [(-1 : Int)]) (n := 1) (cs := #[.int .i64 (-1)]) wr rfl rfl (by omega)
          obtain ⟨A3, c3, W3, eA, e2, e3, _, _⟩ := (HO2.out.alloc (.cells #[.int .i64 (-1)] 3)).app hlit (by simp; omega) (by omega)
          have hps := padTo_succ (k := q) (a := acc) (by rw [HP.out]; exact hq1)
          rw [← hps] at e2
          have HO3 := Lib.hid e2
          have HB3 := Lib.hid ((HB2.out.alloc hBs (.cells #[.int .i64 (-1)] 3)).trans e3)
          clear e2 e3 hps hlit
          go_wp2_with (at_builtin; refine wpList_append_eq rfl _ _ _ rfl rfl rfl eA ?_; clear eA)
          exact ⟨⟨q + 1, A3, c3, rfl, by omega, by omega, HO3, HB3⟩, by simp only [lenV]; omega⟩
        · obtain rfl : q = m := by omega
          go_wp2
          go_ret2
          exact ⟨A2, c2, rfl, by rw [HACC.out]; exact HO2.out.sa, by rw [hBe]; exact HB2.out⟩
end Go.Proofs.Yteconepbhajjeaa
