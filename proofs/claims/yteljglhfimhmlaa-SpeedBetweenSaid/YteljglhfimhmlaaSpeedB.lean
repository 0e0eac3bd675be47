/- Contracts of package speed and its reference (layer 26), second part: reader, At, Sample. -/
import Derived.Test.YteljglhfimhmlaaSpeedA
import Derived.Test.YteljglhfimhmlaaTail
import Derived.Deep.RegionHeld3
import Derived.Deep.DrawnRows
namespace Go.Proofs.Yteljglhfimhmlaa
open Go.RowKit
attribute [local go_sem ↓] Go.wp_at_zero Go.wp_at_succ

theorem reader_any (A : Option Addr) (n c : Nat) (w : World) : Calls Try.prog 75 #[.slice A n c] w fun e w' => e = .returned (.func (.func 79) #[] #[.pointer (some ⟨w.heap.size, 0, none⟩)]) ∧ w.alloc (.cells #[.slice A n c] 26) = w' := by
  go_enter Try.func75, Try.ntmps75
  go_wp2
  go_ret
  exact ⟨rfl, rfl⟩

set_option maxHeartbeats 1000000 in
theorem readF_any (A : Option Addr) (n c D : Nat) (l : List Int) (q : Nat) (r b : Int) (w : World) (hD : w.cell? ⟨D, 0, none⟩ = some (.slice A n c)) (h : SL w A n c l) (hq : q < n) (hr : 0 ≤ r) (hrb : r < b) (hb : b ≤ 64) (hr1 : r ≠ 0 → q + 1 < n) :
    Calls Try.prog 79 #[.agg #[.int .i64 (q : Int), .int .i64 r, .int .i64 b], .pointer (some ⟨D, 0, none⟩)] w fun e w' => e = .returned (.int .i64 (readS l q r b)) ∧ Below w.heap.size w w' := by
  obtain rfl := h.n_eq
  have hlen := h.len
  have hDlt := lt_of_cell hD
  obtain ⟨bb, o, rfl, hbb, hc⟩ := h.all_ (by omega)
  have hB : Below w.heap.size w (w.alloc (.cells #[.int .i64 (q : Int), .int .i64 r, .int .i64 b] 62)) := (Below.refl _ _).alloc (Nat.le_refl _) _
  have hblk := Blk.new w 62 #[.int .i64 (q : Int), .int .i64 r, .int .i64 b]
  have cq := hc q hq
  have cD1 := (hB.cell hDlt).trans hD
  have cq1 := (hB.cell (p := ⟨bb, o + q, none⟩) hbb).trans cq
  have p0 : (w.alloc (.cells #[.int .i64 (q : Int), .int .i64 r, .int .i64 b] 62)).cell? ⟨w.heap.size, 0, none⟩ = some (.int .i64 (q : Int)) := hblk.cell 0
  have p1 : (w.alloc (.cells #[.int .i64 (q : Int), .int .i64 r, .int .i64 b] 62)).cell? ⟨w.heap.size, 1, none⟩ = some (.int .i64 r) := hblk.cell 1
  have p2 : (w.alloc (.cells #[.int .i64 (q : Int), .int .i64 r, .int .i64 b] 62)).cell? ⟨w.heap.size, 2, none⟩ = some (.int .i64 b) := hblk.cell 2
  have eq0 : l[q]?.getD 0 = l[q] := getElem?_getD_of hq
  by_cases h0 : r = 0
  · subst h0
    have HR : Hid (readS l q 0 b = clipS l[q]) := Lib.hid (by unfold readS; rw [if_pos rfl, Int.toNat_natCast, eq0])
    clear eq0 hr1
    go_enter Try.func79, Try.ntmps79
    go_wp2_with (go_at_call 24; refine (clip_any _ _).mono ?_; rintro e w' ⟨rfl, rfl⟩)
    go_ret
    exact ⟨ret_int HR.out.symm, hB⟩
  · have hr2 := hr1 h0
    have cn := hc (q + 1) hr2
    have cn1 := (hB.cell (p := ⟨bb, o + (q + 1), none⟩) hbb).trans cn
    have hz : (r == 0) = false := by simp; exact h0
    have HR : Hid (readS l q r b = lineS l[q] l[q + 1] r b) := Lib.hid (by unfold readS; rw [if_neg h0, Int.toNat_natCast, eq0, getElem?_getD_of hr2])
    have CL := fun (w : World) => line_ok l[q] l[q + 1] r b w ⟨by omega, by omega, by omega, by omega⟩
    have eD : ∀ z : Ext (w.alloc (.cells #[.int .i64 (q : Int), .int .i64 r, .int .i64 b] 62)), z.W.cell? ⟨D, 0, none⟩ = some (.slice (some ⟨bb, o, none⟩) l.length c) := fun z => z.cell cD1
    have e0 : ∀ z : Ext (w.alloc (.cells #[.int .i64 (q : Int), .int .i64 r, .int .i64 b] 62)), z.W.cell? ⟨w.heap.size, 0, none⟩ = some (.int .i64 (q : Int)) := fun z => z.cell p0
    have e1 : ∀ z : Ext (w.alloc (.cells #[.int .i64 (q : Int), .int .i64 r, .int .i64 b] 62)), z.W.cell? ⟨w.heap.size, 1, none⟩ = some (.int .i64 r) := fun z => z.cell p1
    have e2 : ∀ z : Ext (w.alloc (.cells #[.int .i64 (q : Int), .int .i64 r, .int .i64 b] 62)), z.W.cell? ⟨w.heap.size, 2, none⟩ = some (.int .i64 b) := fun z => z.cell p2
    have eA : ∀ z : Ext (w.alloc (.cells #[.int .i64 (q : Int), .int .i64 r, .int .i64 b] 62)), z.W.cell? ⟨bb, o + q, none⟩ = some (.int .i64 l[q]) := fun z => z.cell cq1
    have eB : ∀ z : Ext (w.alloc (.cells #[.int .i64 (q : Int), .int .i64 r, .int .i64 b] 62)), z.W.cell? ⟨bb, o + (q + 1), none⟩ = some (.int .i64 l[q + 1]) := fun z => z.cell cn1
    have hq2 : (q : Int) + 1 < l.length := by omega
    have hq3 : (0 : Int) ≤ q := by omega
    clear eq0 hr1 h0 hc cq cn cq1 cn1 hD p0 p2 cD1 hblk h
    have CC := Lib.hid CL
    clear CL
    go_enter Try.func79, Try.ntmps79
    go_wp2
    clear p1
    refine wp_region_ext (by kernel_rfl) (by kernel_rfl) ?_
    repeat (go_big_quiet_step (first | exact Ext.quiet (CC.out _)))
    refine wpQuiet_nil ?_
    rintro _ ⟨z, rfl⟩
    go_wp2
    go_ret
    exact ⟨ret_int HR.out.symm, hB.trans (z.h.mono (by simp))⟩

set_option maxHeartbeats 1000000 in
theorem rsamp_any (A : Option Addr) (n c : Nat) (l : List Int) (a b i : Int) (w : World) (h : SL w A n c l) (hs : SpeedOk a b) (h0 : 0 ≤ i) (hi : i < cntS n a b) (hn : n ≤ 16777216) :
    Calls Try.prog 76 #[.slice A n c, .int .i64 a, .int .i64 b, .int .i64 i] w fun e w' => e = .returned (.int .i64 (sampS l a b i)) ∧ Below w.heap.size w w' := by
  obtain rfl := h.n_eq
  have hlen := h.len
  obtain ⟨p1, p2, p3, p4, p5, p6, p7⟩ := place_in hs h0 hi (by omega)
  obtain ⟨a1, a2, b1, b2, _⟩ := id hs
  have hc1 := (cntS_le (n := l.length) (by omega) hs).2
  have p8 : (l.length - 1 : Int) * b ≤ 16777216 * 64 := Int.le_trans (Int.mul_le_mul_of_nonneg_left b2 (by omega)) (Int.mul_le_mul_of_nonneg_right (by omega) (by omega))
  have hi2 : i ≤ 16777216 * 64 := by omega
  unfold sampS
  obtain ⟨m, hm⟩ : ∃ m, i * a = m := ⟨_, rfl⟩
  rw [hm] at p1 p2 p3 p4 p5 p6 p7 ⊢
  obtain ⟨q, hq⟩ : ∃ q : Nat, m / b = q := ⟨(m / b).toNat, by omega⟩
  rw [hq] at p1 p2 p5 ⊢
  obtain ⟨r, hr⟩ : ∃ r, m % b = r := ⟨_, rfl⟩
  rw [hr] at p3 p4 p5 ⊢
  have hz : (b == 0) = false := by simp; omega
  have hB := Below.refl w.heap.size w
  obtain ⟨bb, o, rfl, hbb, hc⟩ := h.all_ (by omega)
  have cq := hc q (by omega)
  have hql : q < l.length := by omega
  have eq0 : l[q]?.getD 0 = l[q] := getElem?_getD_of hql
  by_cases hr0 : r = 0
  · subst hr0
    have HR : Hid (readS l q 0 b = clipS l[q]) := Lib.hid (by unfold readS; rw [if_pos rfl, Int.toNat_natCast, eq0])
    clear p5 eq0 hc hi hs
    go_enter Try.func76, Try.ntmps76
    go_wp2_with (go_at_call 25; refine (rclip_any _ _).mono ?_; rintro e w' ⟨rfl, rfl⟩)
    go_ret
    exact ⟨ret_int HR.out.symm, hB⟩
  · have hr2 := p5 hr0
    have hql2 : q + 1 < l.length := by omega
    have cn := hc (q + 1) hql2
    have hrz : (r == 0) = false := by simp; exact hr0
    have HR : Hid (readS l q r b = lineS l[q] l[q + 1] r b) := Lib.hid (by unfold readS; rw [if_neg hr0, Int.toNat_natCast, eq0, getElem?_getD_of hql2])
    have hlr : lineR l[q] l[q + 1] r b = (lineS l[q] l[q + 1] r b, 0) := by unfold lineR; rw [if_pos ⟨by omega, by omega, by omega, by omega⟩]
    have CL := fun (w : World) => rline_any l[q] l[q + 1] r b w
    rw [hlr] at CL
    have e1 : ∀ z : Ext w, z.W.cell? ⟨bb, o + q, none⟩ = some (.int .i64 l[q]) := fun z => z.cell cq
    have e2 : ∀ z : Ext w, z.W.cell? ⟨bb, o + (q + 1), none⟩ = some (.int .i64 l[q + 1]) := fun z => z.cell cn
    have hq2 : (q : Int) + 1 < l.length := by omega
    clear eq0 hr0 hc cq cn h p5 hlr hi hs
    have CC := Lib.hid CL
    clear CL
    go_enter Try.func76, Try.ntmps76
    go_wp2
    refine wp_region_ext (by kernel_rfl) (by kernel_rfl) ?_
    repeat (go_big_quiet_step (first | exact Ext.quietS (CC.out _)))
    refine wpQuiet_nil ?_
    rintro _ ⟨z, rfl⟩
    go_wp2
    go_ret
    exact ⟨ret_int HR.out.symm, z.h⟩
theorem not_at {A' : Prop} {m : Nat} {a b i : Int} (h : ¬ (SpeedOk a b ∧ (m : Int) ≤ 16777216 ∧ 0 ≤ i ∧ A')) : speedB a b = false ∨ (speedB a b = true ∧ (16777216 : Int) < m) ∨ (speedB a b = true ∧ (m : Int) ≤ 16777216 ∧ i < 0) ∨ (speedB a b = true ∧ SpeedOk a b ∧ (m : Int) ≤ 16777216 ∧ 0 ≤ i ∧ ¬ A') := by
  by_cases hs : SpeedOk a b
  · have hb : speedB a b = true := decide_eq_true hs
    by_cases h1 : (m : Int) ≤ 16777216
    · by_cases h2 : 0 ≤ i
      · exact .inr (.inr (.inr ⟨hb, hs, h1, h2, fun h4 => h ⟨hs, h1, h2, h4⟩⟩))
      · exact .inr (.inr (.inl ⟨hb, h1, by omega⟩))
    · exact .inr (.inl ⟨hb, by omega⟩)
  · exact .inl (decide_eq_false hs)
theorem rat_any (A : Option Addr) (n c : Nat) (l : List Int) (a b i : Int) (w : World) (h : SL w A n c l) :
    Calls Try.prog 53 #[.slice A n c, .int .i64 a, .int .i64 b, .int .i64 i] w fun e w' => e = .returned (.tuple #[.int .i64 (atR l a b i).1, .int .i64 (atR l a b i).2]) ∧ Below w.heap.size w w' := by
  have hlen := h.len
  have HL := Lib.hid h.n_eq
  have hB := Below.refl w.heap.size w
  have C := rvalid_any a b w
  unfold atR
  rw [HL.out]
  by_cases hok : SpeedOk a b ∧ (n : Int) ≤ 16777216 ∧ 0 ≤ i ∧ i < cntS n a b
  · rw [if_pos hok]
    obtain ⟨hs, h1, h2, h3⟩ := hok
    rw [show speedB a b = true from decide_eq_true hs] at C
    obtain ⟨a1, a2, b1, b2, _⟩ := id hs
    have HH := Lib.hid hs
    clear hs
    go_enter Try.func53, Try.ntmps53
    go_wp2_with (first
      | (go_at_call 73; refine C.mono ?_; rintro e w1 ⟨rfl, hh⟩; ((try first | replace h := SL.below h hh | replace h := SL.on1 h hh | replace h := SL.on2 h hh); (try first | replace hB := Bel.on0 hB hh | replace hB := Bel.on1 hB hh | replace hB := Bel.on2 hB hh); clear hh))
      | (go_at_call 74; refine (rlength_any _ _ _ _ ⟨by omega, h1⟩ ⟨a1, a2⟩ ⟨b1, b2⟩).mono ?_; rintro e w1 ⟨rfl, hh⟩; ((try first | replace h := SL.below h hh | replace h := SL.on1 h hh | replace h := SL.on2 h hh); (try first | replace hB := Bel.on0 hB hh | replace hB := Bel.on1 hB hh | replace hB := Bel.on2 hB hh); clear hh))
      | (go_at_call 76; refine (rsamp_any _ _ _ _ _ _ _ _ h HH.out h2 h3 (by omega)).mono ?_; rintro e w1 ⟨rfl, hh⟩; ((try first | replace h := SL.below h hh | replace h := SL.on1 h hh | replace h := SL.on2 h hh); (try first | replace hB := Bel.on0 hB hh | replace hB := Bel.on1 hB hh | replace hB := Bel.on2 hB hh); clear hh)))
    go_ret2
    exact ⟨rfl, hB⟩
  · rw [if_neg hok]
    rcases not_at hok with k1 | ⟨k1, k2⟩ | ⟨k1, k2, k3⟩ | ⟨k1, hs, k2, k3, k4⟩
    · rw [k1] at C
      clear hok
      go_enter Try.func53, Try.ntmps53
      go_wp2_with (go_at_call 73; refine C.mono ?_; rintro e w1 ⟨rfl, hh⟩; ((try first | replace h := SL.below h hh | replace h := SL.on1 h hh | replace h := SL.on2 h hh); (try first | replace hB := Bel.on0 hB hh | replace hB := Bel.on1 hB hh | replace hB := Bel.on2 hB hh); clear hh))
      go_ret2
      exact ⟨rfl, hB⟩
    · rw [k1] at C
      clear hok
      go_enter Try.func53, Try.ntmps53
      go_wp2_with (go_at_call 73; refine C.mono ?_; rintro e w1 ⟨rfl, hh⟩; ((try first | replace h := SL.below h hh | replace h := SL.on1 h hh | replace h := SL.on2 h hh); (try first | replace hB := Bel.on0 hB hh | replace hB := Bel.on1 hB hh | replace hB := Bel.on2 hB hh); clear hh))
      go_ret2
      exact ⟨rfl, hB⟩
    · rw [k1] at C
      clear hok
      go_enter Try.func53, Try.ntmps53
      go_wp2_with (go_at_call 73; refine C.mono ?_; rintro e w1 ⟨rfl, hh⟩; ((try first | replace h := SL.below h hh | replace h := SL.on1 h hh | replace h := SL.on2 h hh); (try first | replace hB := Bel.on0 hB hh | replace hB := Bel.on1 hB hh | replace hB := Bel.on2 hB hh); clear hh))
      go_ret2
      exact ⟨rfl, hB⟩
    · rw [k1] at C
      obtain ⟨a1, a2, b1, b2, _⟩ := id hs
      have k5 : cntS n a b ≤ i := by omega
      clear hok hs k4
      go_enter Try.func53, Try.ntmps53
      go_wp2_with (first
        | (go_at_call 73; refine C.mono ?_; rintro e w1 ⟨rfl, hh⟩; ((try first | replace h := SL.below h hh | replace h := SL.on1 h hh | replace h := SL.on2 h hh); (try first | replace hB := Bel.on0 hB hh | replace hB := Bel.on1 hB hh | replace hB := Bel.on2 hB hh); clear hh))
        | (go_at_call 74; refine (rlength_any _ _ _ _ ⟨by omega, k2⟩ ⟨a1, a2⟩ ⟨b1, b2⟩).mono ?_; rintro e w1 ⟨rfl, hh⟩; ((try first | replace h := SL.below h hh | replace h := SL.on1 h hh | replace h := SL.on2 h hh); (try first | replace hB := Bel.on0 hB hh | replace hB := Bel.on1 hB hh | replace hB := Bel.on2 hB hh); clear hh)))
      go_ret2
      exact ⟨rfl, hB⟩
set_option maxHeartbeats 1000000 in
theorem at_any (A : Option Addr) (n c : Nat) (l : List Int) (a b i : Int) (w : World) (h : SL w A n c l) :
    Calls Try.prog 52 #[.slice A n c, .int .i64 a, .int .i64 b, .int .i64 i] w fun e w' => e = .returned (.tuple #[.int .i64 (atR l a b i).1, .int .i64 (atR l a b i).2]) ∧ Below w.heap.size w w' := by
  have hlen := h.len
  have HL := Lib.hid h.n_eq
  have hB := Below.refl w.heap.size w
  have C := valid_any a b w
  unfold atR
  rw [HL.out]
  by_cases hok : SpeedOk a b ∧ (n : Int) ≤ 16777216 ∧ 0 ≤ i ∧ i < cntS n a b
  · rw [if_pos hok]
    obtain ⟨hs, h1, h2, h3⟩ := hok
    rw [show speedB a b = true from decide_eq_true hs] at C
    obtain ⟨a1, a2, b1, b2, _⟩ := id hs
    obtain ⟨p1, p2, p3, p4, p5, p6, p7⟩ := place_in hs h2 h3 (by omega)
    have hc1 := (cntS_le (n := n) (by omega) hs).2
    have p8 : (n - 1 : Int) * b ≤ 16777216 * 64 := Int.le_trans (Int.mul_le_mul_of_nonneg_left b2 (by omega)) (Int.mul_le_mul_of_nonneg_right (by omega) (by omega))
    have hi2 : i ≤ 16777216 * 64 := by omega
    unfold sampS
    have hw1 : IntKind.i64.wrap (i * a) = i * a := IntWalk.i64_in _ (by omega)
    obtain ⟨m, hm⟩ : ∃ m, i * a = m := ⟨_, rfl⟩
    rw [hm] at p1 p2 p3 p4 p5 p6 p7 hw1 ⊢
    obtain ⟨q, hq⟩ : ∃ q : Nat, m / b = q := ⟨(m / b).toNat, by omega⟩
    rw [hq] at p1 p2 p5 ⊢
    obtain ⟨r, hr⟩ : ∃ r, m % b = r := ⟨_, rfl⟩
    rw [hr] at p3 p4 p5 ⊢
    have hz : (b == 0) = false := by simp; omega
    have HH := Lib.hid p5
    have e1 : IntKind.i64.wrap (q : Int) = q := IntWalk.i64_in _ (by omega)
    have e2 : IntKind.i64.wrap r = r := IntWalk.i64_in _ (by omega)
    have e3 : m.tdiv b = q := by rw [Int.tdiv_eq_ediv_of_nonneg p6, hq]
    have e4 : m.tmod b = r := by rw [Int.tmod_eq_emod_of_nonneg p6, hr]
    have hz2 : ¬ b = 0 := by omega
    clear p5 hs
    go_enter Try.func52, Try.ntmps52
    go_wp2_with (first
      | (go_at_call 71; refine C.mono ?_; rintro e w1 ⟨rfl, hh⟩; ((try first | replace h := SL.below h hh | replace h := SL.on1 h hh | replace h := SL.on2 h hh); (try first | replace hB := Bel.on0 hB hh | replace hB := Bel.on1 hB hh | replace hB := Bel.on2 hB hh); clear hh))
      | (go_at_call 72; refine (count_any _ _ _ _ ⟨by omega, h1⟩ ⟨a1, a2⟩ ⟨b1, b2⟩).mono ?_; rintro e w1 ⟨rfl, hh⟩; ((try first | replace h := SL.below h hh | replace h := SL.on1 h hh | replace h := SL.on2 h hh); (try first | replace hB := Bel.on0 hB hh | replace hB := Bel.on1 hB hh | replace hB := Bel.on2 hB hh); clear hh)))
    have hcs : ∀ o : Obj, SL (w1.alloc o).drew A n c l := fun o => (h.alloc o).below (Below.refl _ _).drew
    have hbs : ∀ o : Obj, Below w.heap.size w (w1.alloc o).drew := fun o => (Bel.al hB o).drew
    have hds : (w1.alloc (.cells #[.slice A n c] 26)).drew.cell? ⟨w1.heap.size, 0, none⟩ = some (.slice A n c) := (Blk.new w1 26 #[.slice A n c]).cell 0
    have H1 := Lib.hid hcs
    have H2 := Lib.hid hbs
    have H3 := Lib.hid hds
    clear hcs hbs hds
    go_region_held3 (fun _ => True) (trivial) (first
      | (go_at_call 75; refine (reader_any _ _ _ _).mono ?_; rintro e w1 ⟨rfl, rfl⟩)
      | (go_at_call 79; refine (readF_any A n c _ l q r b _ H3.out (H1.out _) (by omega) p3 p4 b2 (fun h => by have := HH.out h; omega)).mono ?_; rintro e w2 ⟨rfl, hh⟩; have hF := (H2.out _).trans (hh.mono (H2.out _).size); clear hh))
    go_wp2
    go_ret2
    exact ⟨rfl, hF⟩
  · rw [if_neg hok]
    rcases not_at hok with k1 | ⟨k1, k2⟩ | ⟨k1, k2, k3⟩ | ⟨k1, hs, k2, k3, k4⟩
    · rw [k1] at C
      clear hok
      go_enter Try.func52, Try.ntmps52
      go_wp2_with (go_at_call 71; refine C.mono ?_; rintro e w1 ⟨rfl, hh⟩; ((try first | replace h := SL.below h hh | replace h := SL.on1 h hh | replace h := SL.on2 h hh); (try first | replace hB := Bel.on0 hB hh | replace hB := Bel.on1 hB hh | replace hB := Bel.on2 hB hh); clear hh))
      go_ret2
      exact ⟨rfl, hB⟩
    · rw [k1] at C
      clear hok
      go_enter Try.func52, Try.ntmps52
      go_wp2_with (go_at_call 71; refine C.mono ?_; rintro e w1 ⟨rfl, hh⟩; ((try first | replace h := SL.below h hh | replace h := SL.on1 h hh | replace h := SL.on2 h hh); (try first | replace hB := Bel.on0 hB hh | replace hB := Bel.on1 hB hh | replace hB := Bel.on2 hB hh); clear hh))
      go_ret2
      exact ⟨rfl, hB⟩
    · rw [k1] at C
      clear hok
      go_enter Try.func52, Try.ntmps52
      go_wp2_with (go_at_call 71; refine C.mono ?_; rintro e w1 ⟨rfl, hh⟩; ((try first | replace h := SL.below h hh | replace h := SL.on1 h hh | replace h := SL.on2 h hh); (try first | replace hB := Bel.on0 hB hh | replace hB := Bel.on1 hB hh | replace hB := Bel.on2 hB hh); clear hh))
      go_ret2
      exact ⟨rfl, hB⟩
    · rw [k1] at C
      obtain ⟨a1, a2, b1, b2, _⟩ := id hs
      have k5 : cntS n a b ≤ i := by omega
      clear hok hs k4
      go_enter Try.func52, Try.ntmps52
      go_wp2_with (first
        | (go_at_call 71; refine C.mono ?_; rintro e w1 ⟨rfl, hh⟩; ((try first | replace h := SL.below h hh | replace h := SL.on1 h hh | replace h := SL.on2 h hh); (try first | replace hB := Bel.on0 hB hh | replace hB := Bel.on1 hB hh | replace hB := Bel.on2 hB hh); clear hh))
        | (go_at_call 72; refine (count_any _ _ _ _ ⟨by omega, k2⟩ ⟨a1, a2⟩ ⟨b1, b2⟩).mono ?_; rintro e w1 ⟨rfl, hh⟩; ((try first | replace h := SL.below h hh | replace h := SL.on1 h hh | replace h := SL.on2 h hh); (try first | replace hB := Bel.on0 hB hh | replace hB := Bel.on1 hB hh | replace hB := Bel.on2 hB hh); clear hh)))
      go_ret2
      exact ⟨rfl, hB⟩
end Go.Proofs.Yteljglhfimhmlaa
