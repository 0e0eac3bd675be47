/- Layer 9: tempo's at: the samples up to a tick. -/
import Derived.Test.YtmfdflfjllpceaaZTmF
import Derived.RangeFuncCalls
/- Layer 9: tempo's at: the samples up to a tick. -/
namespace Go.Proofs.Ytmfdflfjllpceaa
open Go.RowKit Go.Shelf
attribute [local go_sem] Oper.semAt_some

/-- v samples lie before the tick. -/
def AtV (m : List Tm) (tick v : Int) : Prop := ∃ k s q, PartOf m k s q ∧ s.tick ≤ tick ∧ (k + 1 < m.length → tick < q.tick) ∧ v = posT m k + segQ s q (tick - s.tick)
theorem MapOk.seg {m : List Tm} (h : MapOk m) {k : Nat} {s q : Tm} {tick : Int} (hp : PartOf m k s q) (h0 : s.tick ≤ tick) (h1 : tick ≤ 16777216) (h2 : k + 1 < m.length → tick < q.tick) : SegOk s q (tick - s.tick) := by
  have hd := h.div hp
  have hf := h.facts hp.1
  refine ⟨hd.1, hd.2.1, by omega, by omega, fun hr => ⟨(hd.2.2 hr).1, (hd.2.2 hr).2, ?_⟩⟩
  have hl : k + 1 < m.length := by
    by_cases hl : k + 1 < m.length
    · exact hl
    · obtain ⟨u, hu, h6⟩ := h.last
      have hk := hp.lt
      rw [show m.length - 1 = k by omega, hp.1] at hu
      injection hu with hu
      subst hu
      rw [hr] at h6; cases h6
  have := h2 hl
  omega
theorem PartOf.same {m : List Tm} {k : Nat} {s q s' q' : Tm} (h : PartOf m k s q) (h' : PartOf m k s' q') : s = s' ∧ q = q' := by
  obtain ⟨h1, h2⟩ := h
  obtain ⟨h3, h4⟩ := h'
  rw [h1] at h3; rw [h2] at h4
  injection h3 with h3; injection h4 with h4
  exact ⟨h3, h4⟩
/-- Ticks rise. -/
theorem MapOk.rise {m : List Tm} (h : MapOk m) : ∀ {i j : Nat} {s t : Tm}, i < j → m[i]? = some s → m[j]? = some t → s.tick < t.tick
  | i, j + 1, s, t, hij, hs, ht => by
    have hl := (List.getElem?_eq_some_iff.1 ht).1
    obtain ⟨u, hu⟩ : ∃ u, m[j]? = some u := ⟨_, List.getElem?_eq_getElem (by omega)⟩
    have h1 := (h.nx hu ht).1
    rcases Nat.lt_or_eq_of_le (Nat.le_of_lt_succ hij) with h2 | h2
    · have := h.rise h2 hs hu
      omega
    · subst h2
      rw [hs] at hu; injection hu with hu
      subst hu; exact h1
theorem AtV.one {m : List Tm} (h : MapOk m) {tick v v' : Int} (h1 : AtV m tick v) (h2 : AtV m tick v') : v = v' := by
  obtain ⟨k, s, q, hp, a1, a2, rfl⟩ := h1
  obtain ⟨k', s', q', hp', b1, b2, rfl⟩ := h2
  have key : ∀ {k k' : Nat} {s q s' q' : Tm}, PartOf m k s q → PartOf m k' s' q' → (k + 1 < m.length → tick < q.tick) → s'.tick ≤ tick → ¬ k < k' := by
    intro k k' s q s' q' hp hp' ha hb hlt
    have hl := hp'.lt
    have h5 := ha (by omega)
    have h6 := hp.next (by omega)
    rcases Nat.lt_or_eq_of_le (show k + 1 ≤ k' by omega) with h7 | h7
    · have := h.rise h7 h6 hp'.1
      omega
    · subst h7
      have := hp'.1
      rw [h6] at this; injection this with this
      subst this; omega
  have e : k = k' := by
    have c1 := key hp hp' a2 b1
    have c2 := key hp' hp b2 a1
    omega
  subst e
  obtain ⟨rfl, rfl⟩ := hp.same hp'
  rfl
/-- What at's loop keeps: the tick's box, its result. -/
def TaJ (w : World) (S : Nat) (m : List Tm) (tick : Int) (pre : List (Nat × Tm × Tm)) (W : World) : Prop :=
  Blk W S 3 #[.int .i64 tick] ∧ (∃ v, Blk W (S + 1) 3 #[.int .i64 v] ∧ ∀ k s q, k + 1 = pre.length → PartOf m k s q → s.tick ≤ tick ∧ ((k + 1 < m.length → tick < q.tick) → v = posT m k + segQ s q (tick - s.tick))) ∧ Below S w W
theorem TaJ.keep {w : World} {S : Nat} {m : List Tm} {tick : Int} {pre : List (Nat × Tm × Tm)} {W W' : World} (h : TaJ w S m tick pre W) (hb : Below (S + 1 + 1) W W') : TaJ w S m tick pre W' := by
  obtain ⟨h1, ⟨v, h2, h3⟩, h4⟩ := h
  exact ⟨h1.below hb (by omega), ⟨v, h2.below hb (by omega), h3⟩, h4.trans (hb.mono (by omega))⟩
def TaX (w : World) (S : Nat) (m : List Tm) (tick : Int) (W : World) : Prop := ∃ v, AtV m tick v ∧ Blk W (S + 1) 3 #[.int .i64 v] ∧ Below S w W
theorem TaX.keep {w : World} {S : Nat} {m : List Tm} {tick : Int} {W W' : World} (h : TaX w S m tick W) (hb : Below (S + 1 + 1) W W') : TaX w S m tick W' := by
  obtain ⟨v, h1, h2, h3⟩ := h
  exact ⟨v, h1, h2.below hb (by omega), h3.trans (hb.mono (by omega))⟩
/-- A map whose tick k lies behind the sought one. -/
theorem TaJ.stop {w : World} {S : Nat} {m : List Tm} {tick : Int} {pre : List (Nat × Tm × Tm)} {W : World} (h : TaJ w S m tick pre W) (hm : MapOk m) (h0 : 0 ≤ tick) {s : Tm} (hs : m[pre.length]? = some s) (ht : tick < s.tick) : TaX w S m tick W := by
  obtain ⟨h1, ⟨v, h2, h3⟩, h4⟩ := h
  refine ⟨v, ?_, h2, h4⟩
  obtain ⟨k, hk⟩ : ∃ k, pre.length = k + 1 := by
    rcases Nat.eq_zero_or_pos pre.length with h5 | h5
    · obtain ⟨u, hu, h6⟩ := hm.head
      rw [h5, hu] at hs; injection hs with hs; subst hs; omega
    · exact ⟨pre.length - 1, by omega⟩
  have hl := (List.getElem?_eq_some_iff.1 hs).1
  obtain ⟨u, q, hp⟩ := partOf_get (m := m) (k := k) (by omega)
  have hq := hp.next (by omega)
  rw [← hk, hs] at hq; injection hq with hq; subst hq
  obtain ⟨h5, h6⟩ := h3 k u s hk.symm hp
  exact ⟨k, u, s, hp, h5, fun _ => ht, h6 fun _ => ht⟩
theorem TaJ.done {w : World} {S : Nat} {m : List Tm} {tick : Int} {pre : List (Nat × Tm × Tm)} {W : World} (h : TaJ w S m tick pre W) (hm : MapOk m) (hl : pre.length = m.length) : TaX w S m tick W := by
  obtain ⟨h1, ⟨v, h2, h3⟩, h4⟩ := h
  refine ⟨v, ?_, h2, h4⟩
  obtain ⟨u, hu, _⟩ := hm.head
  have h0 := (List.getElem?_eq_some_iff.1 hu).1
  obtain ⟨u, q, hp⟩ := partOf_get (m := m) (k := m.length - 1) (by omega)
  obtain ⟨h5, h6⟩ := h3 _ u q (by omega) hp
  exact ⟨_, u, q, hp, h5, fun h => by omega, h6 fun h => by omega⟩
set_option maxHeartbeats 8000000 in
set_option maxRecDepth 100000 in
theorem tat_any (A : Option Addr) (n c : Nat) (m : List Tm) (tick : Int) (w : World) (h : SA tmE w A n c m) (hm : MapOk m) (h0 : 0 ≤ tick) (h1 : tick ≤ 16777216) :
    Calls Try.prog 42 #[.slice A n c, .int .i64 tick] w fun e w' => (∃ v, AtV m tick v ∧ e = .returned (.int .i64 v)) ∧ Below w.heap.size w w' := by
  have HL := Lib.hid h.n_eq
  have HS := Lib.hid h
  have HM := Lib.hid hm
  have H0 := Lib.hid (And.intro h0 h1)
  obtain ⟨W2, hW2⟩ : ∃ W2, ((w.alloc (.cells #[.int .i64 tick] 3)).alloc (.cells #[.int .i64 0] 3)) = W2 := ⟨_, rfl⟩
  have z2 : W2.heap.size = w.heap.size + 1 + 1 := by rw [← hW2]; simp
  have b2 : Below w.heap.size w W2 := by rw [← hW2]; exact Bel.al (Bel.al (Below.refl _ w) _) _
  have s2 := h.below b2
  have y0 : Blk W2 w.heap.size 3 #[.int .i64 tick] := by rw [← hW2]; exact (Blk.new w _ _).alloc _
  have y1 : Blk W2 (w.heap.size + 1) 3 #[.int .i64 0] := by
    have := Blk.new (w.alloc (.cells #[.int .i64 tick] 3)) 3 #[.int .i64 0]
    rw [World.size_alloc] at this; rw [← hW2]; exact this
  clear h
  obtain ⟨S, hSe⟩ : ∃ S, w.heap.size = S := ⟨_, rfl⟩
  refine (callsIn_wide (n := 3)).1 ?_
  refine callsIn_of_wp_marks Try.func42 rfl trivial ?_ rfl
  simp only [Try.ntmps42, List.size_toArray, List.length_cons, List.length_nil, Nat.reduceAdd, Nat.reduceSub, Array.replicate_succ, Array.replicate_zero, List.push_toArray, List.append_toArray, List.nil_append, List.cons_append]
  have CB := parts_any A n c
  gi_wp2_with (refine ⟨trivial, ?_⟩; gi_at_call 54; refine (callsIn_wide.2 (CB _)).mono ?_; rintro e w2 ⟨rfl, rfl⟩)
  rw [hSe] at z2 b2 y0 y1
  obtain ⟨W3, hW3⟩ : ∃ W3, W2.alloc (.cells #[.slice A n c] 29) = W3 := ⟨_, rfl⟩
  have b3 : Below W2.heap.size W2 W3 := by rw [← hW3]; exact Bel.al (Below.refl _ _) _
  have z3 : W3.heap.size = S + 1 + 1 + 1 := by rw [← hW3, World.size_alloc, z2]
  have cl3 : W3.cell? ⟨S + 1 + 1, 0, none⟩ = some (.slice A n c) := by rw [← hW3, ← z2]; exact (Blk.new W2 29 #[.slice A n c]).cell 0
  have s3 := s2.below b3
  have hAb : ∀ a, A = some a → 0 < n → a.block < S := by
    intro a ha hn0
    obtain ⟨b, o, e1, hb, _⟩ := HS.out.all_ hn0
    rw [ha] at e1
    injection e1 with e1
    rw [e1, ← hSe]
    exact hb
  rw [hW3]
  have hseq := parts_seq 2 n c (S + 1 + 1) A m W3 s3 hm (by omega) cl3
  refine wpIn_rangeFunc_X rfl (by omega) (gf := 61) (lb := #[.pointer (some ⟨S + 1 + 1, 0, none⟩)]) rfl trivial (enters_of Try.func61 (by kernel_rfl) rfl)
    hseq (by rintro k (rfl | ⟨a, ha, hn0, rfl⟩) <;> first | omega | (have := hAb a ha hn0; omega)) (Below.refl _ _) (fun _ => rfl)
    (fun pre X W => TaJ w S m tick pre W ∧ S + 1 + 1 ≤ W.heap.size ∧ ∀ k, X k → S + 1 + 1 ≤ k ∧ k < W.heap.size)
    (fun cc pre X W => (fun _ W => cc = .exit 0 ∧ TaX w S m tick W) pre W ∧ S + 1 + 1 ≤ W.heap.size ∧ ∀ k, X k → S + 1 + 1 ≤ k ∧ k < W.heap.size)
    (abides_below (fun s W W' h hb => h.keep hb)) (fun cc => abides_below (fun s W W' h hb => ⟨h.1, h.2.keep hb⟩)) ⟨?_, by omega, fun k hk => hk.elim⟩ ?round ?done ?stop
  · have b3' : Below (S + 1 + 1) W2 W3 := by rw [← z2]; exact b3
    exact TaJ.keep ⟨y0, ⟨0, y1, fun k s q hk => by simp at hk⟩, b2⟩ b3'
  case stop =>
    rintro D cc pre X W hD _ ⟨⟨rfl, v, hv, hbr, hbel⟩, hsz, hX⟩ hXD hDef
    have hDB : D ≠ S + 1 := by have := (hX D hXD).1; omega
    have q0 := hbr.cell 0
    have f0 := hbr.frozen 0
    have hbr' := hbr.set_ 0 (.int .i64 v)
    have hD' : (W.setCell ⟨S + 1, 0, none⟩ (.int .i64 v)).heap[D]? = some (.deferred (some [])) := (Below.heap_setCell _ _ _ D hDB).trans hDef
    have hbp := hbr'.putObj (D := D) (by omega) (.deferred none)
    have r0 := hbp.cell 0
    simp at r0 q0
    have HV := Lib.hid hv
    clear hbr hbr' hbp hv
    gi_wp2
    refine ⟨by simp, .inl ⟨_, _, rfl, run_takeDeferred hD', ?_⟩⟩
    refine ⟨.int .i64 v, by simp [results, Try.results42, go_sem, r0], ⟨v, HV.out, rfl⟩, ?_⟩
    rw [hSe]
    exact below_putObj (hbel.setCell (by show S ≤ S + 1; omega) _) (by have := (hX D hXD).1; omega) (by omega) _
  case done =>
    rintro D xs X W hD hxs ⟨hJ, hsz, hX⟩ hXD hDef
    obtain ⟨v, hv, hbr, hbel⟩ := hJ.done HM.out hxs
    have hDB : D ≠ S + 1 := by have := (hX D hXD).1; omega
    have q0 := hbr.cell 0
    have f0 := hbr.frozen 0
    have hbr' := hbr.set_ 0 (.int .i64 v)
    have hD' : (W.setCell ⟨S + 1, 0, none⟩ (.int .i64 v)).heap[D]? = some (.deferred (some [])) := (Below.heap_setCell _ _ _ D hDB).trans hDef
    have hbp := hbr'.putObj (D := D) (by omega) (.deferred none)
    have r0 := hbp.cell 0
    simp at r0 q0
    have HV := Lib.hid hv
    clear hbr hbr' hbp hv
    gi_wp2
    refine ⟨by simp, .inl ⟨_, _, rfl, run_takeDeferred hD', ?_⟩⟩
    refine ⟨.int .i64 v, by simp [results, Try.results42, go_sem, r0], ⟨v, HV.out, rfl⟩, ?_⟩
    rw [hSe]
    exact below_putObj (hbel.setCell (by show S ≤ S + 1; omega) _) (by have := (hX D hXD).1; omega) (by omega) _
  case round =>
    rintro lp D pre x X W hJW hXl hXD hlD hrec hDef ⟨hp1, hp2⟩
    obtain ⟨k, s, q⟩ := x
    dsimp only at hp1 hp2
    have HP1 := Lib.hid hp1
    clear hp1
    have CP := Lib.hid (show ∀ W0, Calls Try.prog 55 #[.agg (ptA s q (posT m k)), .int .i64 tick] W0 fun e w' => (∃ v, e = .returned (.int .i64 v) ∧ ((k + 1 < m.length → tick < q.tick) → s.tick ≤ tick → v = posT m k + segQ s q (tick - s.tick))) ∧ Below W0.heap.size W0 w' by
      intro W0
      by_cases hc : (k + 1 < m.length → tick < q.tick) ∧ s.tick ≤ tick
      · have hb := posT_le HM.out (Nat.le_of_lt hp2.lt)
        exact (psample_seg s q (posT m k) tick W0 (HM.out.seg hp2 hc.2 H0.out.2 hc.1) hb.1 (by omega)).mono fun e w' h => ⟨⟨_, h.1, fun _ _ => rfl⟩, h.2⟩
      · exact (psample_some s q (posT m k) tick W0 (HM.out.div hp2)).mono fun e w' h => by
          obtain ⟨⟨v, hv⟩, hb⟩ := h
          exact ⟨⟨v, hv, fun h1 h2 => absurd ⟨h1, h2⟩ hc⟩, hb⟩)
    have HP2 := Lib.hid hp2
    obtain ⟨st, sn, sd, sr⟩ := s
    obtain ⟨qt, qn, qd, qr⟩ := q
    dsimp only [paEnc, ptA] at CP ⊢
    gi_wp2
    have hp0 := Blk.new W 88 #[.int .i64 st, .int .i64 sn, .int .i64 sd, .bool sr, .int .i64 qt, .int .i64 qn, .int .i64 qd, .bool qr, .int .i64 (posT m k)]
    have hAbi := abides_below (m := S + 1 + 1) (I := TaJ w S m tick) (fun s W W' h hb => h.keep hb)
    have J0 := hAbi _ _ _ _ _ hJW (Stp.of_below ((Below.refl _ W).alloc (Nat.le_refl _) (.cells #[.int .i64 st, .int .i64 sn, .int .i64 sd, .bool sr, .int .i64 qt, .int .i64 qn, .int .i64 qd, .bool qr, .int .i64 (posT m k)] 88)))
    refine ⟨Keep.below ((Below.refl _ _).alloc (Nat.le_refl _) _), fun W4 hs4 => ?_⟩
    have hp4 := hs4.blk (fun hx => by have := (hJW.2.2 _ hx).2; omega) hp0
    have J4 := hAbi _ _ _ _ _ J0 hs4
    obtain ⟨hJ4, hsz, hX⟩ := J4
    have HJ4 := Lib.hid hJ4
    obtain ⟨i0, ⟨v0, i1, i2⟩, i3⟩ := hJ4
    have c0 := hp4.cell 0
    have c1 := hp4.cell 1
    have c2 := hp4.cell 2
    have c3 := hp4.cell 3
    have c4 := hp4.cell 4
    have c5 := hp4.cell 5
    have c6 := hp4.cell 6
    have c7 := hp4.cell 7
    have c8 := hp4.cell 8
    have d0 := i0.cell 0
    simp only [List.getElem?_toArray, List.getElem?_cons_zero, List.getElem?_cons_succ] at c0 c1 c2 c3 c4 c5 c6 c7 c8 d0
    have HI := Lib.hid (And.intro i0 (And.intro i1 i3))
    clear J0 hp0 hJW hp4 y0 y1 hW2 hW3 b2 b3 z2 z3 cl3 s2 s3 hseq hAbi hrec hDef i0 i1 i2 i3 hp2 h0 h1 hm CB
    by_cases hgt : tick < st
    · have HX := Lib.hid (HJ4.out.stop HM.out H0.out.1 (by rw [← HP1.out]; exact HP2.out.1) hgt)
      gi_wp2
      exact ⟨Keep.refl _ _, ⟨rfl, HX.out⟩, hsz, hX⟩
    · have hle : st ≤ tick := by omega
      gi_wp2_with (first
        | (refine ⟨trivial, ?_⟩; gi_at_call 55; refine (CallsIn.inRound _ (callsIn_wide.2 (CP.out _))).mono ?_; rintro e w5 ⟨⟨v, rfl, hv⟩, hb5⟩;
            (have HV := Lib.hid hv);
            (have HB5 := Lib.hid hb5);
            (have j1 := HI.out.2.1.belowAll hb5);
            (have J1 := Lib.hid j1);
            (have f1 := j1.frozen 0);
            (have e1 : w5.cell? ⟨S + 1, 0, none⟩ = some (.int .i64 v0) := j1.cell 0);
            (clear hv j1 hb5)))
      have hnY : ¬ ((S + 1 = S + 1 + 1 ∨ ∃ a, A = some a ∧ 0 < n ∧ S + 1 = a.block) ∨ X (S + 1)) := by
        rintro ((h5 | ⟨a, ha, hn0, h5⟩) | h5)
        · omega
        · have := hAb a ha hn0; omega
        · have := (hX _ h5).1; omega
      have hz5 := HB5.out.size
      refine ⟨(Keep.below HB5.out).trans (Keep.setCell (Y := fun k => TR A n (S + 1 + 1) k ∨ X k) _ hnY), ⟨((HI.out.1.belowAll HB5.out).far (by show S ≠ S + 1; omega) _), ⟨v, J1.out.set_ 0 _, ?_⟩, ?_⟩, by simp [World.setCell]; omega, fun k hk => ⟨(hX k hk).1, by have := (hX k hk).2; simp [World.setCell]; omega⟩⟩
      · intro k' s' q' hk' hp'
        rw [List.length_append, List.length_singleton, ← HP1.out] at hk'
        obtain rfl : k' = k := by omega
        obtain ⟨rfl, rfl⟩ := hp'.same HP2.out
        exact ⟨hle, fun h => HV.out h hle⟩
      · exact (HI.out.2.2.trans (HB5.out.mono (by omega))).setCell (by show S ≤ S + 1; omega) _
end Go.Proofs.Ytmfdflfjllpceaa

/- Layer 9: the reference's At. -/
namespace Go.Proofs.Ytmfdflfjllpceaa
open Go.RowKit

set_option maxHeartbeats 8000000 in
set_option maxRecDepth 100000 in
theorem at9_any (A : Option Addr) (n c : Nat) (m : List Tm) (tick : Int) (w : World) (h : SA tmE w A n c m) (hm : MapOk m) (h0 : 0 ≤ tick) (h1 : tick ≤ 16777216) :
    Calls Try.prog 51 #[.slice A n c, .int .i64 tick] w fun e w' => (∃ v, AtV m tick v ∧ e = .returned (.int .i64 v)) ∧ Below w.heap.size w w' := by
  have HL := Lib.hid h.n_eq
  have HH := Lib.hid h
  have HM := Lib.hid hm
  have H0 := Lib.hid (And.intro h0 h1)
  have hlen := h.len
  obtain ⟨u0, hu0, hz0⟩ := hm.head
  have hn0 : 0 < n := by have := (List.getElem?_eq_some_iff.1 hu0).1; have := HL.out; omega
  have HU := Lib.hid (show ∃ s, m[0]? = some s ∧ s.tick ≤ tick from ⟨u0, hu0, by omega⟩)
  clear h hm hu0 hz0 h0 h1
  go_enter Try.func51, Try.ntmps51
  go_wp2
  go_loopw [5, 6] (fun p i wr => ∃ k : Nat, k < n ∧ p = .int .i64 (posT m k) ∧ i = .int .i64 (k : Int) ∧ Hid (∃ s, m[k]? = some s ∧ s.tick ≤ tick) ∧ Below w.heap.size w wr) (fun _ i _ => n - (intOf i).toNat)
  case atStart => exact ⟨0, hn0, rfl, rfl, HU, Below.refl _ _⟩
  case round =>
    obtain ⟨k, hk, rfl, rfl, hst, hB⟩ := hrel
    have hkl : k < m.length := by rw [HL.out]; exact hk
    obtain ⟨s, q, hp⟩ := partOf_get hkl
    have hle : s.tick ≤ tick := by
      obtain ⟨s', hs', hl'⟩ := hst.out
      rw [hp.1] at hs'; injection hs' with hs'; subst hs'; exact hl'
    have hs' : m[k] = s := by have := hp.1; rw [List.getElem?_eq_getElem hkl] at this; injection this
    obtain ⟨b, o, rfl, hb, c0, _, _, _⟩ := tm_at (HH.out.below hB) hkl hs'
    have HP := Lib.hid hp
    have HS := Lib.hid (HH.out.below hB)
    have HB := Lib.hid hB
    have hpos := posT_le HM.out (Nat.le_of_lt hkl)
    have g3 : (0 : Int) ≤ (k : Int) := by omega
    have g4 : (k : Int) < (n : Int) := by omega
    have g5 : (0 : Int) ≤ (k : Int) + 1 := by omega
    have gw : IntKind.i64.wrap ((k : Int) + 1) = (k : Int) + 1 := IntWalk.i64_in _ (by omega)
    have HF := Lib.hid (HM.out.facts hp.1)
    have HQF := Lib.hid (HM.out.facts hp.2)
    clear hs' hst hp
    by_cases hl : k + 1 < n
    · have hll : k + 1 < m.length := by rw [HL.out]; exact hl
      have hq1 := HP.out.next hll
      have hq' : m[k + 1] = q := by rw [List.getElem?_eq_getElem hll] at hq1; injection hq1
      obtain ⟨b9, o9, e9, _, d0, _, _, _⟩ := tm_at HS.out hll hq'
      injection e9 with e9
      injection e9 with e7 e8 _
      subst e7 e8
      have g6 : (k : Int) + 1 < (n : Int) := by omega
      have g7 : decide ((k : Int) + 1 < (n : Int)) = true := decide_eq_true g6
      have HQ1 := Lib.hid hq1
      clear hq1 hq'
      by_cases hqt : q.tick ≤ tick
      · have g8 : decide (q.tick ≤ tick) = true := decide_eq_true hqt
        have hsegb := segQ_bounds (HM.out.whole HP.out)
        have gs : IntKind.i64.wrap (q.tick - s.tick) = q.tick - s.tick := IntWalk.i64_in _ (by have := (HM.out.whole HP.out).t0; have := (HM.out.whole HP.out).t1; omega)
        have gp : IntKind.i64.wrap (posT m k + segQ s q (q.tick - s.tick)) = posT m (k + 1) := by rw [← posT_next HP.out hll] ; exact IntWalk.i64_in _ (by rw [posT_next HP.out hll]; omega)
        have HCW := Lib.hid fun z : Ext wr => within_seg (some ⟨b, o, none⟩) n c k m s q (q.tick - s.tick) z.W (HS.out.below z.h) HP.out.1 (fun _ => HQ1.out) (HM.out.whole HP.out)
        have e0 : ∀ z : Ext wr, z.W.cell? ⟨b, o + k * 4, none⟩ = some (.int .i64 s.tick) := fun z => z.cell c0
        have e1 : ∀ z : Ext wr, z.W.cell? ⟨b, o + (k + 1) * 4, none⟩ = some (.int .i64 q.tick) := fun z => z.cell d0
        clear hsegb
        go_wp2
        refine wp_region_ext (by kernel_rfl) (by kernel_rfl) ?_
        repeat (go_big_quiet_step (first | with_reducible exact Ext.quiet (HCW.out _)))
        refine wpQuiet_nil ?_
        rintro _ ⟨z, rfl⟩
        go_wp2
        exact ⟨⟨k + 1, hl, rfl, by simp, Lib.hid ⟨q, HQ1.out, hqt⟩, Bel.on0 HB.out z.h⟩, by simp only [intOf]; omega⟩
      · have g8 : decide (q.tick ≤ tick) = false := decide_eq_false hqt
        have hseg := HM.out.seg HP.out hle H0.out.2 (fun _ => by omega)
        have hsegb := segQ_bounds hseg
        have gs : IntKind.i64.wrap (tick - s.tick) = tick - s.tick := IntWalk.i64_in _ (by have := hseg.t0; have := hseg.t1; omega)
        have gp : IntKind.i64.wrap (posT m k + segQ s q (tick - s.tick)) = posT m k + segQ s q (tick - s.tick) := IntWalk.i64_in _ (by omega)
        have HCW := Lib.hid fun (w1 : World) (hb : Below wr.heap.size wr w1) => within_seg (some ⟨b, o, none⟩) n c k m s q (tick - s.tick) w1 (HS.out.below hb) HP.out.1 (fun _ => HQ1.out) hseg
        have HA := Lib.hid (show AtV m tick (posT m k + segQ s q (tick - s.tick)) from ⟨k, s, q, HP.out, hle, fun _ => by omega, rfl⟩)
        clear hseg hsegb
        go_wp2_with (go_at_call 60; ((with_reducible refine (HCW.out _ (Below.refl _ _)).mono ?_); rintro e w2 ⟨rfl, hh2⟩))
        go_ret
        exact ⟨⟨_, HA.out, rfl⟩, Bel.on0 HB.out hh2⟩
    · have hseg := HM.out.seg HP.out hle H0.out.2 (fun h => by have := HL.out; omega)
      have g7 : decide ((k : Int) + 1 < (n : Int)) = false := decide_eq_false (by omega)
      have hsegb := segQ_bounds hseg
      have gs : IntKind.i64.wrap (tick - s.tick) = tick - s.tick := IntWalk.i64_in _ (by have := hseg.t0; have := hseg.t1; omega)
      have gp : IntKind.i64.wrap (posT m k + segQ s q (tick - s.tick)) = posT m k + segQ s q (tick - s.tick) := IntWalk.i64_in _ (by omega)
      have hnr : s.ramp = true → m[k + 1]? = some q := fun hr => by
        obtain ⟨u, hu, h6⟩ := HM.out.last
        rw [show m.length - 1 = k by have := HL.out; omega, HP.out.1] at hu
        injection hu with hu
        subst hu
        rw [hr] at h6; cases h6
      have HCW := Lib.hid fun (w1 : World) (hb : Below wr.heap.size wr w1) => within_seg (some ⟨b, o, none⟩) n c k m s q (tick - s.tick) w1 (HS.out.below hb) HP.out.1 hnr hseg
      have HA := Lib.hid (show AtV m tick (posT m k + segQ s q (tick - s.tick)) from ⟨k, s, q, HP.out, hle, fun h => by have := HL.out; omega, rfl⟩)
      clear hseg hsegb hnr
      go_wp2_with (go_at_call 60; ((with_reducible refine (HCW.out _ (Below.refl _ _)).mono ?_); rintro e w2 ⟨rfl, hh2⟩))
      go_ret
      exact ⟨⟨_, HA.out, rfl⟩, Bel.on0 HB.out hh2⟩
end Go.Proofs.Ytmfdflfjllpceaa

/- Layer 9: Sample: the program's and the reference's answer alike. -/
namespace Go.Proofs.Ytmfdflfjllpceaa
open Go.RowKit

open Classical in
noncomputable def atT (m : List Tm) (tick : Int) : Int := if h : ∃ v, AtV m tick v then h.choose else 0
theorem atT_eq {m : List Tm} {tick v : Int} (hm : MapOk m) (h : AtV m tick v) : atT m tick = v := by
  unfold atT
  have he : ∃ v, AtV m tick v := ⟨v, h⟩
  rw [dif_pos he]
  exact AtV.one hm he.choose_spec h
/-- What Sample answers. -/
noncomputable def sampT (m : List Tm) (tick : Int) : Int × Int :=
  if checkT m ≠ 0 then (0, 90) else if tick < 0 ∨ 16777216 < tick then (0, 1) else if 1099511627776 < atT m tick then (0, 70) else (atT m tick, 0)
theorem checkT_90 {m : List Tm} (h : checkT m ≠ 0) : checkT m = 90 := by
  unfold checkT at h ⊢
  split
  · rename_i h5; rw [if_pos h5] at h; exact absurd rfl h
  · rfl
set_option maxHeartbeats 4000000 in
theorem tsample_any (A : Option Addr) (n c : Nat) (m : List Tm) (tick : Int) (w : World) (h : SA tmE w A n c m) :
    Calls Try.prog 25 #[.slice A n c, .int .i64 tick] w fun e w' => e = .returned (.tuple #[.int .i64 (sampT m tick).1, .int .i64 (sampT m tick).2]) ∧ Below w.heap.size w w' := by
  have C := tcheck_any A n c m w h
  by_cases hc : checkT m = 0
  · have hm := mapOk_of hc
    rw [hc] at C
    by_cases ht : tick < 0 ∨ 16777216 < tick
    · have HR := Lib.hid (show sampT m tick = (0, 1) by unfold sampT; rw [if_neg (by simpa using hc), if_pos ht])
      have ht2 : tick < 0 ∨ (0 ≤ tick ∧ 16777216 < tick) := by omega
      clear h hm hc ht
      rcases ht2 with h1 | ⟨h1, h2⟩
      all_goals
        go_enter Try.func25, Try.ntmps25
        go_wp2_with (go_at_call 33; ((with_reducible refine C.mono ?_); rintro e w1 ⟨rfl, hh1⟩))
        exact bodyPost_ret (v := .tuple #[.int .i64 0, .int .i64 1]) (by simp [results, Try.results25, go_sem]) rfl ⟨by rw [HR.out], hh1⟩
    · have h0 : 0 ≤ tick := by omega
      have h1 : tick ≤ 16777216 := by omega
      have CA := Lib.hid fun (w1 : World) (hb : Below w.heap.size w w1) => tat_any A n c m tick w1 (h.below hb) hm h0 h1
      have HE := Lib.hid fun v (hv : AtV m tick v) => atT_eq hm hv
      have HR := Lib.hid (show sampT m tick = if 1099511627776 < atT m tick then (0, 70) else (atT m tick, 0) by unfold sampT; rw [if_neg (by simpa using hc), if_neg ht])
      clear h hm hc ht
      go_enter Try.func25, Try.ntmps25
      go_wp2_with (first
        | (go_at_call 33; ((with_reducible refine C.mono ?_); rintro e w1 ⟨rfl, hh1⟩))
        | (go_at_call 42; refine (CA.out _ hh1).mono ?_; rintro e w2 ⟨⟨v, hv, rfl⟩, hh2⟩;
            (have HV := Lib.hid (HE.out v hv));
            (have HB2 := Lib.hid (Bel.on0 hh1 hh2));
            (clear hv hh2)))
      · rename_i hgt
        exact bodyPost_ret (v := .tuple #[.int .i64 0, .int .i64 70]) (by simp [results, Try.results25, go_sem]) rfl ⟨by rw [HR.out, HV.out, if_pos (by omega)], HB2.out⟩
      · rename_i hgt
        exact bodyPost_ret (v := .tuple #[.int .i64 v, .int .i64 0]) (by simp [results, Try.results25, go_sem]) rfl ⟨by rw [HR.out, HV.out, if_neg (by omega)], HB2.out⟩
  · have HR := Lib.hid (show sampT m tick = (0, 90) by unfold sampT; rw [if_pos (by simpa using hc)])
    rw [checkT_90 hc] at C
    clear hc h
    go_enter Try.func25, Try.ntmps25
    go_wp2_with (go_at_call 33; ((with_reducible refine C.mono ?_); rintro e w1 ⟨rfl, hh1⟩))
    exact bodyPost_ret (v := .tuple #[.int .i64 0, .int .i64 90]) (by simp [results, Try.results25, go_sem]) rfl ⟨by rw [HR.out], hh1⟩
set_option maxHeartbeats 4000000 in
theorem rsample_any (A : Option Addr) (n c : Nat) (m : List Tm) (tick : Int) (w : World) (h : SA tmE w A n c m) :
    Calls Try.prog 36 #[.slice A n c, .int .i64 tick] w fun e w' => e = .returned (.tuple #[.int .i64 (sampT m tick).1, .int .i64 (sampT m tick).2]) ∧ Below w.heap.size w w' := by
  have C := r9check_any A n c m w h
  by_cases hc : checkT m = 0
  · have hm := mapOk_of hc
    rw [hc] at C
    by_cases ht : tick < 0 ∨ 16777216 < tick
    · have HR := Lib.hid (show sampT m tick = (0, 1) by unfold sampT; rw [if_neg (by simpa using hc), if_pos ht])
      have ht2 : tick < 0 ∨ (0 ≤ tick ∧ 16777216 < tick) := by omega
      clear h hm hc ht
      rcases ht2 with h1 | ⟨h1, h2⟩
      all_goals
        go_enter Try.func36, Try.ntmps36
        go_wp2_with (go_at_call 35; ((with_reducible refine C.mono ?_); rintro e w1 ⟨rfl, hh1⟩))
        exact bodyPost_ret (v := .tuple #[.int .i64 0, .int .i64 1]) (by simp [results, Try.results36, go_sem]) rfl ⟨by rw [HR.out], hh1⟩
    · have h0 : 0 ≤ tick := by omega
      have h1 : tick ≤ 16777216 := by omega
      have CA := Lib.hid fun (w1 : World) (hb : Below w.heap.size w w1) => at9_any A n c m tick w1 (h.below hb) hm h0 h1
      have HE := Lib.hid fun v (hv : AtV m tick v) => atT_eq hm hv
      have HR := Lib.hid (show sampT m tick = if 1099511627776 < atT m tick then (0, 70) else (atT m tick, 0) by unfold sampT; rw [if_neg (by simpa using hc), if_neg ht])
      clear h hm hc ht
      go_enter Try.func36, Try.ntmps36
      go_wp2_with (first
        | (go_at_call 35; ((with_reducible refine C.mono ?_); rintro e w1 ⟨rfl, hh1⟩))
        | (go_at_call 51; refine (CA.out _ hh1).mono ?_; rintro e w2 ⟨⟨v, hv, rfl⟩, hh2⟩;
            (have HV := Lib.hid (HE.out v hv));
            (have HB2 := Lib.hid (Bel.on0 hh1 hh2));
            (clear hv hh2)))
      · rename_i hgt
        exact bodyPost_ret (v := .tuple #[.int .i64 0, .int .i64 70]) (by simp [results, Try.results36, go_sem]) rfl ⟨by rw [HR.out, HV.out, if_pos (by omega)], HB2.out⟩
      · rename_i hgt
        exact bodyPost_ret (v := .tuple #[.int .i64 v, .int .i64 0]) (by simp [results, Try.results36, go_sem]) rfl ⟨by rw [HR.out, HV.out, if_neg (by omega)], HB2.out⟩
  · have HR := Lib.hid (show sampT m tick = (0, 90) by unfold sampT; rw [if_pos (by simpa using hc)])
    rw [checkT_90 hc] at C
    clear hc h
    go_enter Try.func36, Try.ntmps36
    go_wp2_with (go_at_call 35; ((with_reducible refine C.mono ?_); rintro e w1 ⟨rfl, hh1⟩))
    exact bodyPost_ret (v := .tuple #[.int .i64 0, .int .i64 90]) (by simp [results, Try.results36, go_sem]) rfl ⟨by rw [HR.out], hh1⟩
end Go.Proofs.Ytmfdflfjllpceaa
