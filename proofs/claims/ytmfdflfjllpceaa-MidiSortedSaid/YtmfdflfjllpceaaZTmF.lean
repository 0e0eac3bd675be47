/- Layer 9: the parts of a map, one by one. -/
import Derived.Test.YtmfdflfjllpceaaZTmE
import Derived.Test.YtmfdflfjllpceaaZRoundW
import Derived.Test.YtmfdflfjllpceaaZOwn
import Derived.Laws.EntriesVeiled
import Derived.Deep.RegionHeld3
namespace Go.Proofs.Ytmfdflfjllpceaa
open Go.RowKit Go.Shelf
attribute [local go_sem] Oper.semAt_some

/-- Samples before point k. -/
def posT (m : List Tm) : Nat → Int
  | 0 => 0
  | k + 1 => posT m k + match m[k]?, m[k + 1]? with
    | some s, some q => segQ s q (q.tick - s.tick)
    | _, _ => 0
structure MapOk (m : List Tm) : Prop where
  len : m.length ≤ 64
  head : tmHead m
  last : tmLast m
  all : tmP m m.length
theorem mapOk_of {m : List Tm} (h : checkT m = 0) : MapOk m := by
  by_cases h5 : m.length ≤ 64 ∧ tmHead m ∧ tmLast m ∧ tmP m m.length
  · exact ⟨h5.1, h5.2.1, h5.2.2.1, h5.2.2.2⟩
  · rw [checkT_no h5] at h; cases h
/-- The point behind point k; the last one's: itself. -/
def nxI (m : List Tm) (k : Nat) : Nat := min (k + 1) (m.length - 1)
/-- Where in time a map's part lies. -/
def PartOf (m : List Tm) (k : Nat) (s q : Tm) : Prop := m[k]? = some s ∧ m[nxI m k]? = some q
theorem PartOf.lt {m : List Tm} {k : Nat} {s q : Tm} (h : PartOf m k s q) : k < m.length := (List.getElem?_eq_some_iff.1 h.1).1
theorem PartOf.next {m : List Tm} {k : Nat} {s q : Tm} (h : PartOf m k s q) (hk : k + 1 < m.length) : m[k + 1]? = some q := by
  have h2 := h.2
  rw [show nxI m k = k + 1 by unfold nxI; omega] at h2
  exact h2
theorem MapOk.facts {m : List Tm} (h : MapOk m) {k : Nat} {s : Tm} (hs : m[k]? = some s) : TmOk s ∧ 0 ≤ s.tick :=
  ⟨(h.all k s (List.getElem?_eq_some_iff.1 hs).1 hs).1, tmP_nonneg h.head h.all k s (List.getElem?_eq_some_iff.1 hs).1 hs⟩
theorem MapOk.nx {m : List Tm} (h : MapOk m) {k : Nat} {s q : Tm} (hs : m[k]? = some s) (hq : m[k + 1]? = some q) : TmNx s q :=
  (h.all (k + 1) q (List.getElem?_eq_some_iff.1 hq).1 hq).2 k s rfl hs
theorem MapOk.div {m : List Tm} (h : MapOk m) {k : Nat} {s q : Tm} (hp : PartOf m k s q) : SegDiv s q := by
  refine ⟨(h.facts hp.1).1, (h.facts hp.2).1, fun hr => ?_⟩
  have hk := hp.lt
  by_cases hl : k + 1 < m.length
  · have h5 := h.nx hp.1 (hp.next hl)
    exact ⟨h5.1, h5.2 hr⟩
  · obtain ⟨u, hu, h6⟩ := h.last
    rw [show m.length - 1 = k by omega, hp.1] at hu
    injection hu with hu
    subst hu
    rw [hr] at h6; cases h6
/-- A part's whole. -/
theorem MapOk.whole {m : List Tm} (h : MapOk m) {k : Nat} {s q : Tm} (hp : PartOf m k s q) : SegOk s q (q.tick - s.tick) := by
  have hd := h.div hp
  have f1 := h.facts hp.1
  have f2 := h.facts hp.2
  have hk := hp.lt
  have hle : s.tick ≤ q.tick := by
    by_cases hl : k + 1 < m.length
    · exact Int.le_of_lt (h.nx hp.1 (hp.next hl)).1
    · have h5 := hp.2
      rw [show nxI m k = k by unfold nxI; omega, hp.1] at h5
      injection h5 with h5
      rw [h5]; exact Int.le_refl _
  refine ⟨hd.1, hd.2.1, by omega, by have := f2.1.1; omega, fun hr => ⟨(hd.2.2 hr).1, (hd.2.2 hr).2, Int.le_refl _⟩⟩
theorem posT_bounds {m : List Tm} (h : MapOk m) : ∀ k, k ≤ m.length → 0 ≤ posT m k ∧ posT m k ≤ k * 17592186044416
  | 0, _ => ⟨Int.le_refl _, by simp [posT]⟩
  | k + 1, hk => by
    have ih := posT_bounds h k (by omega)
    unfold posT
    obtain ⟨s, hs⟩ : ∃ s, m[k]? = some s := ⟨_, List.getElem?_eq_getElem (by omega)⟩
    rw [hs]
    cases hq : m[k + 1]? with
    | none => simp only [Int.add_zero]; omega
    | some q =>
      have hl := (List.getElem?_eq_some_iff.1 hq).1
      have hb := segQ_bounds (h.whole (k := k) ⟨hs, by rw [show nxI m k = k + 1 by unfold nxI; omega]; exact hq⟩)
      simp only
      omega
theorem posT_next {m : List Tm} {k : Nat} {s q : Tm} (hp : PartOf m k s q) (hk : k + 1 < m.length) : posT m (k + 1) = posT m k + segQ s q (q.tick - s.tick) := by
  rw [posT, hp.1, hp.next hk]
theorem partOf_get {m : List Tm} {k : Nat} (hk : k < m.length) : ∃ s q, PartOf m k s q :=
  ⟨m[k], m[nxI m k]'(by unfold nxI; omega), List.getElem?_eq_getElem hk, List.getElem?_eq_getElem _⟩
theorem posT_le {m : List Tm} (h : MapOk m) {k : Nat} (hk : k ≤ m.length) : 0 ≤ posT m k ∧ posT m k ≤ 1125899906842624 := by
  have h1 := posT_bounds h k hk
  have h2 := h.len
  omega
theorem segQ_zero (s q : Tm) (_h : q.tick - s.tick = 0) : segQ s q 0 = 0 := by
  unfold segQ segN
  split <;> simp
theorem posT_step {m : List Tm} (_h : MapOk m) {k : Nat} {s q : Tm} (hp : PartOf m k s q) : posT m k + segQ s q (q.tick - s.tick) = posT m (min (k + 1) (m.length - 1)) := by
  have hk := hp.lt
  by_cases hl : k + 1 < m.length
  · rw [show min (k + 1) (m.length - 1) = k + 1 by omega, posT_next hp hl]
  · have h5 := hp.2
    rw [show nxI m k = k by unfold nxI; omega, hp.1] at h5
    injection h5 with h5
    subst h5
    rw [show min (k + 1) (m.length - 1) = k by omega, show s.tick - s.tick = 0 by omega, segQ_zero s s (by omega), Int.add_zero]
theorem parts_any (A : Option Addr) (n c : Nat) (w : World) : Calls Try.prog 54 #[.slice A n c] w fun e w' =>
    e = .returned (.func (.func 61) #[] #[.pointer (some ⟨w.heap.size, 0, none⟩)]) ∧ w.alloc (.cells #[.slice A n c] 29) = w' := by
  go_enter Try.func54, Try.ntmps54
  go_wp2
  go_ret
  exact ⟨rfl, rfl⟩
def paEnc (m : List Tm) (x : Nat × Tm × Tm) : Array Value := #[.agg (ptA x.2.1 x.2.2 (posT m x.1))]
/-- What the iterator reads. -/
def TR (A : Option Addr) (n PL : Nat) (k : Nat) : Prop := k = PL ∨ ∃ a, A = some a ∧ 0 < n ∧ k = a.block
set_option maxHeartbeats 8000000 in
set_option maxRecDepth 100000 in
theorem parts_seq (g n c PL : Nat) (A : Option Addr) (m : List Tm) (w : World) (h : SA tmE w A n c m) (hm : MapOk m) (hg : 2 ≤ g) (cL : w.cell? ⟨PL, 0, none⟩ = some (.slice A n c)) :
    SeqX FW g Try.prog 61 #[.pointer (some ⟨PL, 0, none⟩)] (paEnc m) (TR A n PL) (fun xs => xs.length = m.length) (fun _ => True) (fun pre x => x.1 = pre.length ∧ PartOf m x.1 x.2.1 x.2.2) w := by
  intro lp J Jx X0 W hW hJ hJx hX0 hY hJ0
  have HL := Lib.hid h.n_eq
  have HM := Lib.hid hm
  have hlen := h.len
  have hg1 : 1 ≤ g := by omega
  have s0 := h.below hW
  have c0 : W.cell? ⟨PL, 0, none⟩ = some (.slice A n c) := (hW.cell (lt_of_cell cL)).trans cL
  have H64 := Lib.hid hm.len
  clear h hm hW cL
  refine callsIn_of_wp Try.func61 rfl trivial ?_ rfl
  simp only [Try.ntmps61, List.size_toArray, List.length_cons, List.length_nil, Nat.reduceAdd, Nat.reduceSub, Array.replicate_succ, Array.replicate_zero, List.push_toArray, List.append_toArray, List.nil_append, List.cons_append]
  gi_wp2
  gi_loopw [3, 9] (fun v i wr => ∃ (k : Nat) (X : Nat → Prop) (pre : List (Nat × Tm × Tm)), k ≤ n ∧ pre.length = k ∧ v = .int .i64 (posT m (min k (m.length - 1))) ∧ i = .int .i64 (k : Int) ∧ Hid (J pre X wr) ∧ Hid (SA tmE wr A n c m) ∧ wr.cell? ⟨PL, 0, none⟩ = some (.slice A n c)) (fun _ i _ => n - (intOf i).toNat)
  case atStart => exact ⟨0, X0, [], Nat.zero_le _, rfl, by rw [Nat.zero_min]; rfl, rfl, Lib.hid hJ0, Lib.hid s0, c0⟩
  case round =>
    obtain ⟨k, X, pre, hk, hpre, rfl, rfl, HJ, HS, cl⟩ := hrel
    clear c0 s0 hJ0
    by_cases hlt : k < n
    · have hkl : k < m.length := by rw [HL.out]; exact hlt
      obtain ⟨s, q, hp⟩ := partOf_get hkl
      rw [Nat.min_eq_left (by omega)]
      obtain ⟨j, hj⟩ : ∃ j, nxI m k = j := ⟨_, rfl⟩
      have HP := Lib.hid hp
      obtain ⟨hp1, hp2⟩ := hp
      rw [hj] at hp2
      have hjl : j < m.length := (List.getElem?_eq_some_iff.1 hp2).1
      have hs' : m[k] = s := by rw [List.getElem?_eq_getElem hkl] at hp1; injection hp1
      have hq' : m[j] = q := by rw [List.getElem?_eq_getElem hjl] at hp2; injection hp2
      obtain ⟨b, o, rfl, hb, c0, c1, c2, c3⟩ := tm_at HS.out hkl hs'
      obtain ⟨b9, o9, e9, _, u0, u1, u2, u3⟩ := tm_at HS.out hjl hq'
      injection e9 with e9
      injection e9 with e7 e8 _
      subst e7 e8
      have HJI := Lib.hid hj
      obtain ⟨st, sn, sd, sr⟩ := s
      obtain ⟨qt, qn, qd, qr⟩ := q
      dsimp only at c0 c1 c2 c3 u0 u1 u2 u3
      obtain ⟨W1, hW1⟩ : ∃ W1, wr.alloc (.cells #[.int .i64 st, .int .i64 sn, .int .i64 sd, .bool sr] 53) = W1 := ⟨_, rfl⟩
      have hbx := Blk.new wr 53 #[.int .i64 st, .int .i64 sn, .int .i64 sd, .bool sr]
      have HJ1 := Lib.hid (hJ _ _ _ _ _ HJ.out (Stp.alloc X wr (.cells #[.int .i64 st, .int .i64 sn, .int .i64 sd, .bool sr] 53)))
      have x0 := cell_al u0 (.cells #[.int .i64 st, .int .i64 sn, .int .i64 sd, .bool sr] 53)
      have x1 := cell_al u1 (.cells #[.int .i64 st, .int .i64 sn, .int .i64 sd, .bool sr] 53)
      have x2 := cell_al u2 (.cells #[.int .i64 st, .int .i64 sn, .int .i64 sd, .bool sr] 53)
      have x3 := cell_al u3 (.cells #[.int .i64 st, .int .i64 sn, .int .i64 sd, .bool sr] 53)
      have cl1 := cell_al cl (.cells #[.int .i64 st, .int .i64 sn, .int .i64 sd, .bool sr] 53)
      have b0 := hbx.cell 0
      have b1 := hbx.cell 1
      have b2 := hbx.cell 2
      have b3 := hbx.cell 3
      simp only [List.getElem?_toArray, List.getElem?_cons_zero, List.getElem?_cons_succ] at b0 b1 b2 b3
      have hz1 : W1.heap.size = wr.heap.size + 1 := by rw [← hW1, World.size_alloc]
      rw [hW1] at x0 x1 x2 x3 cl1 b0 b1 b2 b3 HJ1 hbx
      have g3 : (0 : Int) ≤ (k : Int) := by omega
      have g4 : (k : Int) < (n : Int) := by omega
      have g5 : (0 : Int) ≤ (j : Int) := by omega
      have g6 : (j : Int) < (n : Int) := by have := HL.out; omega
      have gm : (if (n : Int) - 1 < (k : Int) + 1 then (n : Int) - 1 else (k : Int) + 1) = (j : Int) := by have := HL.out; unfold nxI at hj; split <;> omega
      have gw1 : IntKind.i64.wrap ((k : Int) + 1) = (k : Int) + 1 := IntWalk.i64_in _ (by omega)
      have gw2 : IntKind.i64.wrap ((n : Int) - 1) = (n : Int) - 1 := IntWalk.i64_in _ (by omega)
      have GW := Lib.hid gw1
      obtain ⟨x, hx⟩ : ∃ x, (k : Int) + 1 = x := ⟨_, rfl⟩
      obtain ⟨y, hy⟩ : ∃ y, (n : Int) - 1 = y := ⟨_, rfl⟩
      rw [hx, hy] at gm
      replace gw1 := gw1.trans hx
      replace gw2 := gw2.trans hy
      clear hx hy
      clear u0 u1 u2 u3 hp1 hp2 hs' hq' hjl hkl hj
      gi_wp2
      refine wpIn_wide.2 ?_
      go_region_held3 (fun w' => w'.cell? ⟨PL, 0, none⟩ = some (.slice (some ⟨b, o, none⟩) n c) ∧ w'.cell? ⟨wr.heap.size, 0, none⟩ = some (.int .i64 st) ∧ w'.cell? ⟨wr.heap.size, 1, none⟩ = some (.int .i64 sn) ∧ w'.cell? ⟨wr.heap.size, 2, none⟩ = some (.int .i64 sd) ∧ w'.cell? ⟨wr.heap.size, 3, none⟩ = some (.bool sr)
        ∧ w'.cell? ⟨b, o + j * 4, none⟩ = some (.int .i64 qt) ∧ w'.cell? ⟨b, o + j * 4 + 1, none⟩ = some (.int .i64 qn) ∧ w'.cell? ⟨b, o + j * 4 + 2, none⟩ = some (.int .i64 qd) ∧ w'.cell? ⟨b, o + j * 4 + 3, none⟩ = some (.bool qr)) (go_keep) (fail)
      all_goals
        have hxe : (k : Int) + 1 = x := GW.out.symm.trans gw1
        have HJ2 := Lib.hid (hJ _ _ _ _ _ (hJ _ _ _ _ _ HJ1.out (Stp.alloc _ W1 (.cells #[.int .i64 st, .int .i64 sn, .int .i64 sd, .bool sr, .int .i64 qt, .int .i64 qn, .int .i64 qd, .bool qr, .int .i64 (posT m k)] 88))) (Stp.of_below (Below.refl _ _).drew))
        have hbp : Blk (W1.alloc (.cells #[.int .i64 st, .int .i64 sn, .int .i64 sd, .bool sr, .int .i64 qt, .int .i64 qn, .int .i64 qd, .bool qr, .int .i64 (posT m k)] 88)).drew (wr.heap.size + 1) 88 #[.int .i64 st, .int .i64 sn, .int .i64 sd, .bool sr, .int .i64 qt, .int .i64 qn, .int .i64 qd, .bool qr, .int .i64 (posT m k)] := by
          rw [← hz1]; exact (Blk.new W1 _ _).drew
        have hs2 : SA tmE (W1.alloc (.cells #[.int .i64 st, .int .i64 sn, .int .i64 sd, .bool sr, .int .i64 qt, .int .i64 qn, .int .i64 qd, .bool qr, .int .i64 (posT m k)] 88)).drew (some ⟨b, o, none⟩) n c m := by
          have h1 := HS.out.alloc (.cells #[.int .i64 st, .int .i64 sn, .int .i64 sd, .bool sr] 53)
          rw [hW1] at h1
          exact (h1.alloc _).below (Below.refl _ _).drew
        have hcl2 : (W1.alloc (.cells #[.int .i64 st, .int .i64 sn, .int .i64 sd, .bool sr, .int .i64 qt, .int .i64 qn, .int .i64 qd, .bool qr, .int .i64 (posT m k)] 88)).drew.cell? ⟨PL, 0, none⟩ = some (.slice (some ⟨b, o, none⟩) n c) := cell_al cl1 _
        have hz2 : (W1.alloc (.cells #[.int .i64 st, .int .i64 sn, .int .i64 sd, .bool sr, .int .i64 qt, .int .i64 qn, .int .i64 qd, .bool qr, .int .i64 (posT m k)] 88)).drew.heap.size = wr.heap.size + 1 + 1 := by rw [← hz1]; exact World.size_alloc _ _
        clear x0 x1 x2 x3 b0 b1 b2 b3 c0 c1 c2 c3 hbx cl1 gm gw1 gw2 GW cl
        obtain ⟨W2, hW2⟩ : ∃ W2, (W1.alloc (.cells #[.int .i64 st, .int .i64 sn, .int .i64 sd, .bool sr, .int .i64 qt, .int .i64 qn, .int .i64 qd, .bool qr, .int .i64 (posT m k)] 88)).drew = W2 := ⟨_, rfl⟩
        rw [hW2] at HJ2 hbp hs2 hcl2 hz2
        have HS2 := Lib.hid hs2
        have HBP := Lib.hid hbp
        have p0 := hbp.cell 0
        have p1 := hbp.cell 1
        have p2 := hbp.cell 2
        have p3 := hbp.cell 3
        have p4 := hbp.cell 4
        have p5 := hbp.cell 5
        have p6 := hbp.cell 6
        have p7 := hbp.cell 7
        have p8 := hbp.cell 8
        simp only [List.getElem?_toArray, List.getElem?_cons_zero, List.getElem?_cons_succ] at p0 p1 p2 p3 p4 p5 p6 p7 p8
        obtain ⟨fn, tmps, assign, body, hy, hR⟩ := hY pre (k, ⟨st, sn, sd, sr⟩, ⟨qt, qn, qd, qr⟩) _ W2 HJ2.out ⟨hpre.symm, HP.out⟩
        dsimp only [paEnc, ptA] at hy
        have CP := Lib.hid fun W => psample_seg ⟨st, sn, sd, sr⟩ ⟨qt, qn, qd, qr⟩ (posT m k) qt W (HM.out.whole HP.out) (posT_le HM.out (by have := HL.out; omega : k ≤ m.length)).1 (by have := (posT_le HM.out (by have := HL.out; omega : k ≤ m.length)).2; omega)
        have HST := Lib.hid (posT_step HM.out HP.out)
        dsimp only [ptA] at CP HST
        have gx : IntKind.i64.wrap ((k : Int) + 1) = (k : Int) + 1 := IntWalk.i64_in _ (by omega)
        clear hs2 hbp hY hxe
        rw [hW2]
        gi_wp2
        refine hR.mono ?_
        rintro e W3 (⟨rfl, hJ3, hk3⟩ | ⟨rfl, hJx3⟩)
        · have hp3 := hk3.blk (.inr (.inr (by rw [hz1]))) HBP.out
          have hs3 := HS2.out.keep hk3 (fun a ha hn => .inl (.inr ⟨a, ha, hn, rfl⟩))
          have cl3 := hk3.cell (p := ⟨PL, 0, none⟩) (.inl (.inl rfl)) hcl2
          have r0 := hp3.cell 0
          have r1 := hp3.cell 1
          have r2 := hp3.cell 2
          have r3 := hp3.cell 3
          have r4 := hp3.cell 4
          have r5 := hp3.cell 5
          have r6 := hp3.cell 6
          have r7 := hp3.cell 7
          have r8 := hp3.cell 8
          simp only [List.getElem?_toArray, List.getElem?_cons_zero, List.getElem?_cons_succ] at r0 r1 r2 r3 r4 r5 r6 r7 r8
          clear p0 p1 p2 p3 p4 p5 p6 p7 p8 hy hR hcl2 hk3 hp3
          gi_wp2_with (refine ⟨trivial, ?_⟩; gi_at_call 55; refine (callsIn_wide.2 (CP.out _)).mono ?_; rintro e w4 ⟨rfl, hb4⟩)
          exact ⟨⟨k + 1, _, pre ++ [_], by omega, by simp [hpre], by rw [HST.out], by simp, Lib.hid (hJ _ _ _ _ _ hJ3 (Stp.of_below hb4)), Lib.hid (hs3.below hb4), (hb4.cell (lt_of_cell cl3)).trans cl3⟩, by simp only [intOf]; omega⟩
        · gi_wp2
          refine bodyPost_ret (results_none rfl _ _ _) rfl ?_
          exact ⟨⟨_, rfl⟩, .inr ⟨_, _, trivial, hJx3⟩⟩
    · obtain rfl : k = n := by omega
      gi_wp2
      go_end0
      exact ⟨⟨_, rfl⟩, .inl ⟨_, _, by rw [hpre, HL.out], HJ.out⟩⟩
end Go.Proofs.Ytmfdflfjllpceaa
