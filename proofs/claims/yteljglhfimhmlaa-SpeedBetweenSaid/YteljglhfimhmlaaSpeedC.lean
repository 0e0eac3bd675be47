/- Contracts of package speed (layer 26), third part: places, Convert. -/
import Derived.Test.YteljglhfimhmlaaSpeedB
import Derived.Test.YteljglhfimhmlaaSeq
import Derived.Test.YteljglhfimhmlaaRoundW
import Derived.Laws.EntriesVeiled
namespace Go.Proofs.Yteljglhfimhmlaa
open Go.RowKit Go.Shelf
attribute [local go_sem] Oper.semAt_some

theorem places_any (n a b : Int) (w : World) : Calls Try.prog 77 #[.int .i64 n, .int .i64 a, .int .i64 b] w fun e w' =>
    e = .returned (.func (.func 80) #[] #[.pointer (some ⟨w.heap.size + 1 + 1, 0, none⟩), .pointer (some ⟨w.heap.size, 0, none⟩), .pointer (some ⟨w.heap.size + 1, 0, none⟩)]) ∧
      ((w.alloc (.cells #[.int .i64 n] 3)).alloc (.cells #[.int .i64 a] 3)).alloc (.cells #[.int .i64 b] 3) = w' := by
  go_enter Try.func77, Try.ntmps77
  go_wp2
  go_ret
  exact ⟨rfl, rfl⟩

def plEnc (a b : Int) (i : Nat) : Array Value := #[.int .i64 (i : Int), .agg #[.int .i64 (i * a / b), .int .i64 (i * a % b), .int .i64 b]]

set_option maxHeartbeats 2000000 in
theorem places_seq (m n pb pn pa : Nat) (a b : Int) (w : World) (ha : 1 ≤ a ∧ a ≤ 64) (hb : 1 ≤ b ∧ b ≤ 64) (hn : n ≤ 1073741824) (hm : 1 ≤ m)
    (cb : w.cell? ⟨pb, 0, none⟩ = some (.int .i64 b)) (cn : w.cell? ⟨pn, 0, none⟩ = some (.int .i64 (n : Int))) (ca : w.cell? ⟨pa, 0, none⟩ = some (.int .i64 a)) :
    SeqX FW m Try.prog 80 #[.pointer (some ⟨pb, 0, none⟩), .pointer (some ⟨pn, 0, none⟩), .pointer (some ⟨pa, 0, none⟩)] (plEnc a b) (fun k => k = pb ∨ k = pn ∨ k = pa) (fun xs => xs = List.range n) (fun _ => True) (fun pre x => x = pre.length ∧ x < n) w := by
  intro l J Jx X0 W hW hJ hJx hX0 hY h0
  have cbW : W.cell? ⟨pb, 0, none⟩ = some (.int .i64 b) := (hW.cell (lt_of_cell cb)).trans cb
  have cnW : W.cell? ⟨pn, 0, none⟩ = some (.int .i64 (n : Int)) := (hW.cell (lt_of_cell cn)).trans cn
  have caW : W.cell? ⟨pa, 0, none⟩ = some (.int .i64 a) := (hW.cell (lt_of_cell ca)).trans ca
  obtain ⟨a1, a2⟩ := ha
  obtain ⟨b1, b2⟩ := hb
  have hpb : pb ≠ W.heap.size := by have := lt_of_cell cbW; simp only at this; omega
  have hpa : pa ≠ W.heap.size := by have := lt_of_cell caW; simp only at this; omega
  have cnA := cell_al cnW (.cells #[.int .i64 0, .int .i64 0, .int .i64 b] 62)
  refine callsIn_of_wp Try.func80 rfl trivial ?_ rfl
  simp only [Try.ntmps80, List.size_toArray, List.length_cons, List.length_nil, Nat.reduceAdd, Nat.reduceSub, Array.replicate_succ, Array.replicate_zero, List.push_toArray, List.append_toArray, List.nil_append, List.cons_append]
  gi_wp2
  gi_loopw [10] (fun i wr => ∃ (k : Nat) (X : Nat → Prop), k ≤ n ∧ i = .int .i64 k ∧ Hid (J (List.range k) X wr) ∧ X W.heap.size ∧ Blk wr W.heap.size 62 #[.int .i64 (k * a / b), .int .i64 (k * a % b), .int .i64 b] ∧
    wr.cell? ⟨pb, 0, none⟩ = some (.int .i64 b) ∧ wr.cell? ⟨pa, 0, none⟩ = some (.int .i64 a)) (fun i _ => n - (intOf i).toNat)
  case atStart =>
    exact ⟨0, fun k => X0 k ∨ k = W.heap.size, Nat.zero_le _, rfl, Lib.hid (hJ _ _ _ _ _ h0 (Stp.alloc _ _ _)), .inr rfl, by simpa using Blk.new W _ _, cell_al cbW _, cell_al caW _⟩
  case round =>
    obtain ⟨k, X, hk, rfl, HJ, hXp, hp, cb, ca⟩ := hrel
    clear cbW cnW caW cnA cn h0 hX0 
    by_cases hlt : k < n
    · have c0 := hp.cell 0
      have c1 := hp.cell 1
      have c2 := hp.cell 2
      simp at c0 c1 c2
      obtain ⟨fn, tmps, assign, body, hy, hR⟩ := hY _ k X wr HJ.out ⟨by simp, hlt⟩
      dsimp only [plEnc] at hy
      gi_wp2
      refine hR.mono ?_
      rintro e W3 (⟨rfl, hJ3, hk3⟩ | ⟨rfl, hJx3⟩)
      · have hp3 := hk3.blk (.inr hXp) hp
        have cb3 := hk3.cell (p := ⟨pb, 0, none⟩) (.inl (.inl rfl)) cb
        have ca3 := hk3.cell (p := ⟨pa, 0, none⟩) (.inl (.inr (.inr rfl))) ca
        have d0 := hp3.cell 0
        have d1 := hp3.cell 1
        have f0 := hp3.frozen 0
        have f1 := hp3.frozen 1
        simp at d0 d1
        have pnx := place_next (a := a) (b := b) (i := k) b1
        have q0 : 0 ≤ k * a / b := Int.ediv_nonneg (Int.mul_nonneg (by omega) (by omega)) (by omega)
        have q1 : k * a / b ≤ 1073741824 * 64 := Int.le_trans (Int.ediv_le_self _ (Int.mul_nonneg (by omega) (by omega))) (Int.le_trans (Int.mul_le_mul_of_nonneg_left a2 (by omega)) (Int.mul_le_mul_of_nonneg_right (by omega) (by omega)))
        have r0 := Int.emod_nonneg (k * a) (show b ≠ 0 by omega)
        have r1 := Int.emod_lt_of_pos (k * a) (show 0 < b by omega)
        obtain ⟨q, hq⟩ : ∃ q, k * a / b = q := ⟨_, rfl⟩
        obtain ⟨r, hr⟩ : ∃ r, k * a % b = r := ⟨_, rfl⟩
        rw [hq] at q0 q1 d0 hp3 pnx
        rw [hr] at r0 r1 d1 hp3 pnx
        have g0 : 0 ≤ (r + a) / b := Int.ediv_nonneg (by omega) (by omega)
        have g1 : (r + a) / b ≤ r + a := Int.ediv_le_self _ (by omega)
        have e1 : IntKind.i64.wrap (r + a) = r + a := IntWalk.i64_in _ (by omega)
        have e2 : (r + a).tdiv b = (r + a) / b := Int.tdiv_eq_ediv_of_nonneg (by omega)
        have hz2 : ¬ b = 0 := by omega
        have hz : (b == 0) = false := by simp; omega
        obtain ⟨d, hd⟩ : ∃ d, (r + a) / b = d := ⟨_, rfl⟩
        rw [hd] at e2 g0 g1 pnx
        have e3 : IntKind.i64.wrap d = d := IntWalk.i64_in _ (by omega)
        have e4 : IntKind.i64.wrap (q + d) = q + d := IntWalk.i64_in _ (by omega)
        have HP := Lib.hid pnx
        have hq1 : q ≤ 68719476736 := by omega
        have cb4 := cell_set cb3 (q := ⟨W.heap.size, 0, none⟩) hpb (.int .i64 (q + d))
        have ca4 := cell_set ca3 (q := ⟨W.heap.size, 0, none⟩) hpa (.int .i64 (q + d))
        have hp4 := hp3.set_ 0 (.int .i64 (q + d))
        have d14 := hp4.cell 1
        have f14 := hp4.frozen 1
        have hp5 := hp4.set_ 1 (.int .i64 ((r + a) % b))
        have HP4 := Lib.hid hp4
        have HP5 := Lib.hid hp5
        simp at d14
        have g2 := Int.emod_nonneg (r + a) (show b ≠ 0 by omega)
        have g3 : IntKind.i64.wrap ((r + a) % b) = (r + a) % b := IntWalk.i64_in _ (by have := Int.emod_lt_of_pos (r + a) (show 0 < b by omega); omega)
        clear c0 c1 c2 hy hY pnx hq hr q1 hp4 hp5
        gi_wp2
        refine wpInW_region_still_tail' 10 (by kernel_rfl) (by kernel_rfl) rfl ?_
        simp only [List.take_succ_cons, List.take_zero, List.drop_succ_cons, List.drop_zero]
        repeat still_step
        refine wpStill_nil ?_
        go_wp2
        gi_wp2
        refine ⟨⟨k + 1, X, by omega, by simp, Lib.hid ?_, hXp, ?_, cell_set cb4 hpb _, cell_set ca4 hpa _⟩, by simp only [intOf]; omega⟩
        · rw [List.range_succ]
          exact hJ _ _ _ _ _ (hJ _ _ _ _ _ (hJ _ _ _ _ _ hJ3 (Stp.setCell _ hXp)) (Stp.setCell _ hXp)) (Stp.of_below (Below.refl _ _).drew)
        · have h5 := HP5.out.drew
          have h6 := HP.out
          rw [show ((k + 1 : Nat) : Int) = (k : Int) + 1 by omega, h6.1, h6.2]
          simpa using h5
      · gi_wp2
        refine bodyPost_ret (results_none rfl _ _ _) rfl ?_
        exact ⟨⟨_, rfl⟩, .inr ⟨_, _, trivial, hJx3⟩⟩
    · obtain rfl : k = n := by omega
      gi_wp2
      go_end0
      exact ⟨⟨_, rfl⟩, .inl ⟨_, _, rfl, HJ.out⟩⟩

theorem conv_bad (A : Option Addr) (n c : Nat) (l : List Int) (a b : Int) (w : World) (h : SL w A n c l) (hb : ¬ (SpeedOk a b ∧ (n : Int) ≤ 16777216)) :
    Calls Try.prog 54 #[.slice A n c, .int .i64 a, .int .i64 b] w (RetS w [] 1) := by
  have hlen := h.len
  have C := valid_any a b (w.alloc (.cells #[.slice none 0 0] 26))
  have hB := (Below.refl w.heap.size w).alloc (Nat.le_refl _) (.cells #[.slice none 0 0] 26)
  have hx := Blk.new w 26 #[.slice none 0 0]
  have hc : speedB a b = false ∨ (speedB a b = true ∧ (16777216 : Int) < n) := by
    by_cases hs : SpeedOk a b
    · exact .inr ⟨decide_eq_true hs, by have : ¬ ((n : Int) ≤ 16777216) := fun h => hb ⟨hs, h⟩; omega⟩
    · exact .inl (decide_eq_false hs)
  rcases hc with k1 | ⟨k1, k2⟩
  all_goals
    rw [k1] at C
    go_enter Try.func54, Try.ntmps54
    go_wp2_with (go_at_call 71; refine C.mono ?_; rintro e w1 ⟨rfl, hh⟩; have hx1 := hx.belowAll hh; have hB1 := Bel.on0 hB hh; have cx := hx1.cell 0; have fx := hx1.frozen 0; simp at cx; have cy := (hx1.set_ 0 (.slice none 0 0)).cell 0; simp at cy; clear hh)
    exact bodyPost_ret (v := .tuple #[.slice none 0 0, .int .i64 1]) (by simp [results, Try.results54, go_sem, cy]) rfl ⟨none, 0, 0, rfl, SL.nil, hB1.setCell (by show w.heap.size ≤ w.heap.size; omega) _⟩
theorem conv_big (A : Option Addr) (n c : Nat) (l : List Int) (a b : Int) (w : World) (h : SL w A n c l) (hs : SpeedOk a b) (hn : (n : Int) ≤ 16777216) (hc : 16777216 < cntS n a b) :
    Calls Try.prog 54 #[.slice A n c, .int .i64 a, .int .i64 b] w (RetS w [] 2) := by
  have hlen := h.len
  have C := valid_any a b (w.alloc (.cells #[.slice none 0 0] 26))
  have hB := (Below.refl w.heap.size w).alloc (Nat.le_refl _) (.cells #[.slice none 0 0] 26)
  have hx := Blk.new w 26 #[.slice none 0 0]
  obtain ⟨a1, a2, b1, b2, _⟩ := id hs
  rw [show speedB a b = true from decide_eq_true hs] at C
  go_enter Try.func54, Try.ntmps54
  go_wp2_with (first
    | (go_at_call 71; refine C.mono ?_; rintro e w1 ⟨rfl, hh⟩; have hx1 := hx.belowAll hh; have hB1 := Bel.on0 hB hh; clear hh)
    | (go_at_call 72; refine (count_any _ _ _ _ ⟨by omega, hn⟩ ⟨a1, a2⟩ ⟨b1, b2⟩).mono ?_; rintro e w2 ⟨rfl, hh⟩; have hx2 := hx1.belowAll hh; have hB2 := Bel.on0 hB1 hh; have cx := hx2.cell 0; have fx := hx2.frozen 0; simp at cx; have cy := (hx2.set_ 0 (.slice none 0 0)).cell 0; simp at cy; clear hh))
  exact bodyPost_ret (v := .tuple #[.slice none 0 0, .int .i64 2]) (by simp [results, Try.results54, go_sem, cy]) rfl ⟨none, 0, 0, rfl, SL.nil, hB2.setCell (by show w.heap.size ≤ w.heap.size; omega) _⟩

set_option maxHeartbeats 4000000 in
set_option maxRecDepth 100000 in
theorem conv_ok (A : Option Addr) (n c m : Nat) (l : List Int) (a b : Int) (w : World) (h : SL w A n c l) (hs : SpeedOk a b) (hn : (n : Int) ≤ 16777216) (hm : cntS n a b = m) (hc : m ≤ 16777216) :
    Calls Try.prog 54 #[.slice A n c, .int .i64 a, .int .i64 b] w fun e w' => ∃ g, e = .returned (.tuple #[.slice (some ⟨g, 0, none⟩) m m, .int .i64 0]) ∧ Blk w' g 3 ((convS l a b).map vint).toArray ∧ Below w.heap.size w w' := by
  have hlen := h.len
  have HL := Lib.hid h.n_eq
  have C := valid_any a b (w.alloc (.cells #[.slice none 0 0] 26))
  have hB := (Below.refl w.heap.size w).alloc (Nat.le_refl _) (.cells #[.slice none 0 0] 26)
  have hx := Blk.new w 26 #[.slice none 0 0]
  obtain ⟨a1, a2, b1, b2, _⟩ := id hs
  rw [show speedB a b = true from decide_eq_true hs] at C
  have CC := fun w => count_any n a b w ⟨by omega, hn⟩ ⟨a1, a2⟩ ⟨b1, b2⟩
  rw [hm] at CC
  obtain ⟨f, hf⟩ : ∃ f : Nat → Value, (fun i => .int .i64 (sampS l a b i)) = f := ⟨_, rfl⟩
  have hmk := fun w => mk_ints f m (by omega) w
  have HF := Lib.hid hf
  have HS := Lib.hid hs
  have HM := Lib.hid hm
  have CX := Lib.hid CC
  clear hf hs hm CC
  refine (callsIn_wide (n := 3)).1 ?_
  refine callsIn_of_wp_marks Try.func54 rfl trivial ?_ rfl
  simp only [Try.ntmps54, List.size_toArray, List.length_cons, List.length_nil, Nat.reduceAdd, Nat.reduceSub, Array.replicate_succ, Array.replicate_zero, List.push_toArray, List.append_toArray, List.nil_append, List.cons_append]
  gi_wp2_with (first
    | (refine ⟨trivial, ?_⟩; gi_at_call 71; refine (callsIn_wide.2 C).mono ?_; rintro e w1 ⟨rfl, hh⟩; have hx1 := hx.belowAll hh; have hB1 := Bel.on0 hB hh; clear hh C)
    | (refine ⟨trivial, ?_⟩; gi_at_call 72; refine (callsIn_wide.2 (CX.out _)).mono ?_; rintro e w2 ⟨rfl, hh⟩; have hx2 := hx1.belowAll hh; have hB2 := Bel.on0 hB1 hh; have cx := fun o1 o2 o3 => (((hx2.alloc o1).alloc o2).alloc o3).cell 0; have fx := fun o1 o2 o3 => (((hx2.alloc o1).alloc o2).alloc o3).frozen 0; simp at cx; clear hh)
    | (refine ⟨trivial, ?_⟩; gi_at_call 75; refine (callsIn_wide.2 (reader_any A n c _)).mono ?_; rintro e w3 ⟨rfl, rfl⟩)
    | (refine ⟨trivial, ?_⟩; gi_at_call 77; refine (callsIn_wide.2 (places_any _ _ _ _)).mono ?_; rintro e w4 ⟨rfl, rfl⟩))
  have hBS := hx2.lt
  obtain ⟨B, hBe⟩ : ∃ B, w.heap.size = B := ⟨_, rfl⟩
  have hB2' := hB2
  rw [hBe] at hBS hx2 hB2'
  obtain ⟨W4, hW4⟩ : ∃ W4, (((((((w2.alloc (.cells #[.slice A n c] 26)).alloc (.cells #[.func (.func 79) #[] #[.pointer (some ⟨w2.heap.size, 0, none⟩)]] 59)).alloc (.cells (fillA f (.int .i64 0) 0 m) 3)).setCell ⟨w.heap.size, 0, none⟩ (.slice (some ⟨w2.heap.size + 1 + 1, 0, none⟩) m m)).alloc
    (.cells #[.int .i64 (m : Int)] 3)).alloc (.cells #[.int .i64 a] 3)).alloc (.cells #[.int .i64 b] 3)) = W4 := ⟨_, rfl⟩
  have z1 : ((w2.alloc (.cells #[.slice A n c] 26)).alloc (.cells #[.func (.func 79) #[] #[.pointer (some ⟨w2.heap.size, 0, none⟩)]] 59)).heap.size = w2.heap.size + 1 + 1 := by simp
  have sz : ∀ (p : Addr) (v : Value) (W : World), (W.setCell p v).heap.size = W.heap.size := fun p v W => by simp [World.setCell]
  have x4 : Blk W4 B 26 #[.slice (some ⟨w2.heap.size + 1 + 1, 0, none⟩) m m] := by
    rw [← hW4, hBe]; exact ((((((hx2.alloc _).alloc _).alloc _).set_ 0 _).alloc _).alloc _).alloc _
  have d4 : Blk W4 w2.heap.size 26 #[.slice A n c] := by
    rw [← hW4, hBe]; exact (((((((Blk.new w2 _ _).alloc _).alloc _).far (by show w2.heap.size ≠ B; omega) _).alloc _).alloc _).alloc _)
  have r4 : Blk W4 (w2.heap.size + 1) 59 #[.func (.func 79) #[] #[.pointer (some ⟨w2.heap.size, 0, none⟩)]] := by
    rw [← hW4, hBe]
    have := Blk.new (w2.alloc (.cells #[.slice A n c] 26)) 59 #[.func (.func 79) #[] #[.pointer (some ⟨w2.heap.size, 0, none⟩)]]
    rw [World.size_alloc] at this
    exact ((((this.alloc _).far (by show w2.heap.size + 1 ≠ B; omega) _).alloc _).alloc _).alloc _
  have t4 : Blk W4 (w2.heap.size + 1 + 1) 3 (fillA f (.int .i64 0) 0 m) := by
    rw [← hW4, hBe]
    have := Blk.new ((w2.alloc (.cells #[.slice A n c] 26)).alloc (.cells #[.func (.func 79) #[] #[.pointer (some ⟨w2.heap.size, 0, none⟩)]] 59)) 3 (fillA f (.int .i64 0) 0 m)
    rw [z1] at this
    exact (((this.far (by show w2.heap.size + 1 + 1 ≠ B; omega) _).alloc _).alloc _).alloc _
  have b4 : Below B w W4 := by
    rw [← hW4, hBe, ← hBe]
    refine Bel.al (Bel.al (Bel.al ((Bel.al (Bel.al (Bel.al hB2 _) _) _).setCell (by show w.heap.size ≤ w.heap.size; omega) _) _) _) _
  obtain ⟨V4, hV4⟩ : ∃ V4, ((((w2.alloc (.cells #[.slice A n c] 26)).alloc (.cells #[.func (.func 79) #[] #[.pointer (some ⟨w2.heap.size, 0, none⟩)]] 59)).alloc (.cells (fillA f (.int .i64 0) 0 m) 3)).setCell ⟨w.heap.size, 0, none⟩ (.slice (some ⟨w2.heap.size + 1 + 1, 0, none⟩) m m)) = V4 := ⟨_, rfl⟩
  have sV : V4.heap.size = w2.heap.size + 1 + 1 + 1 := by rw [← hV4, sz]; simp
  rw [hV4] at hW4
  have cn4 : W4.cell? ⟨w2.heap.size + 1 + 1 + 1, 0, none⟩ = some (.int .i64 (m : Int)) := by
    rw [← hW4, ← sV]; exact cell_al (cell_al ((Blk.new V4 3 #[.int .i64 (m : Int)]).cell 0) _) _
  have ca4 : W4.cell? ⟨w2.heap.size + 1 + 1 + 1 + 1, 0, none⟩ = some (.int .i64 a) := by
    rw [← hW4, ← sV]; have := (Blk.new (V4.alloc (.cells #[.int .i64 (m : Int)] 3)) 3 #[.int .i64 a]).cell 0; rw [World.size_alloc] at this; exact cell_al this _
  have cb4 : W4.cell? ⟨w2.heap.size + 1 + 1 + 1 + 1 + 1, 0, none⟩ = some (.int .i64 b) := by
    rw [← hW4, ← sV]; have := (Blk.new ((V4.alloc (.cells #[.int .i64 (m : Int)] 3)).alloc (.cells #[.int .i64 a] 3)) 3 #[.int .i64 b]).cell 0; simpa using this
  have s4 : W4.heap.size = w2.heap.size + 1 + 1 + 1 + 1 + 1 + 1 := by rw [← hW4]; simp [sV]
  rw [hV4, hW4]
  obtain ⟨S, hSe⟩ : ∃ S, w2.heap.size = S := ⟨_, rfl⟩
  rw [hSe] at x4 d4 r4 t4 cn4 ca4 cb4 s4 hBS ⊢
  rw [hBe]
  have h4 : SL W4 A n c l := h.below (by rw [hBe]; exact b4)
  have hseq := places_seq 2 m (S + 1 + 1 + 1 + 1 + 1) (S + 1 + 1 + 1) (S + 1 + 1 + 1 + 1) a b W4 ⟨a1, a2⟩ ⟨b1, b2⟩ (by omega) (by omega) cb4 cn4 ca4
  clear hW4 hV4 sV z1 hB hB1 hB2 hB2' hx hx1 hx2 fx cx sz hmk cn4 ca4 cb4
  refine wpIn_rangeFunc_X rfl (by omega) (gf := 80) (lb := #[.pointer (some ⟨S + 1 + 1 + 1 + 1 + 1, 0, none⟩), .pointer (some ⟨S + 1 + 1 + 1, 0, none⟩), .pointer (some ⟨S + 1 + 1 + 1 + 1, 0, none⟩)]) rfl trivial (enters_of Try.func80 (by kernel_rfl) rfl)
    hseq (by omega) (Below.refl _ _) (fun _ => rfl)
    (fun pre X W => (Blk W B 26 #[.slice (some ⟨S + 1 + 1, 0, none⟩) m m] ∧ Blk W S 26 #[.slice A n c] ∧ Blk W (S + 1) 59 #[.func (.func 79) #[] #[.pointer (some ⟨S, 0, none⟩)]] ∧
      Blk W (S + 1 + 1) 3 (fillA f (.int .i64 0) pre.length m) ∧ Below B w W) ∧ S + 1 + 1 + 1 ≤ W.heap.size ∧ ∀ k, X k → S + 1 + 1 + 1 ≤ k ∧ k < W.heap.size)
    (fun _ _ _ _ => False) ?abides (fun _ _ _ _ _ _ hf _ => hf) ⟨⟨x4, d4, r4, t4, b4⟩, by omega, fun k hk => hk.elim⟩ ?round ?done ?stop
  case abides =>
    refine abides_below (I := fun (pre : List Nat) W => Blk W B 26 #[.slice (some ⟨S + 1 + 1, 0, none⟩) m m] ∧ Blk W S 26 #[.slice A n c] ∧ Blk W (S + 1) 59 #[.func (.func 79) #[] #[.pointer (some ⟨S, 0, none⟩)]] ∧
      Blk W (S + 1 + 1) 3 (fillA f (.int .i64 0) pre.length m) ∧ Below B w W) ?_
    rintro pre W W' ⟨i1, i2, i3, i4, i5⟩ hb
    exact ⟨i1.below hb (by omega), i2.below hb (by omega), i3.below hb (by omega), i4.below hb (by omega), i5.trans (hb.mono (by omega))⟩
  case stop =>
    rintro D cc pre X W _ _ hf _ _
    exact hf.elim
  case done =>
    rintro D xs X W hD rfl ⟨⟨i1, i2, i3, i4, i5⟩, i6, i7⟩ hXD hDef
    rw [List.length_range] at i4
    have cB := i1.cell 0
    have fB := i1.frozen 0
    simp only [List.getElem?_toArray, List.getElem?_cons_zero] at cB
    clear x4 d4 r4 t4 b4 h4 hseq i2 i3
    gi_wp2
    have i1' := i1.set_ 0 (.slice (some ⟨S + 1 + 1, 0, none⟩) m m)
    have i4' := i4.far (p := ⟨B, 0, none⟩) (by show S + 1 + 1 ≠ B; omega) (.slice (some ⟨S + 1 + 1, 0, none⟩) m m)
    have hD' : (W.setCell ⟨B, 0, none⟩ (.slice (some ⟨S + 1 + 1, 0, none⟩) m m)).heap[D]? = some (.deferred (some [])) := (Below.heap_setCell _ _ _ D (by show D ≠ B; omega)).trans hDef
    have c7 := (i1'.putObj (D := D) (by omega) (.deferred none)).cell 0
    simp at c7
    refine ⟨by simp, .inl ⟨_, _, rfl, run_takeDeferred hD', ?_⟩⟩
    refine ⟨.tuple #[.slice (some ⟨S + 1 + 1, 0, none⟩) m m, .int .i64 0], by simp [results, Try.results54, go_sem, c7], _, rfl, ?_, ?_⟩
    · have hfull : Blk (W.setCell ⟨B, 0, none⟩ (.slice (some ⟨S + 1 + 1, 0, none⟩) m m)) (S + 1 + 1) 3 ((convS l a b).map vint).toArray := by
        rw [fillA_full] at i4'
        have e : (convS l a b).map vint = (List.range m).map f := by
          unfold convS
          rw [List.map_map, HL.out, HM.out, ← HF.out]
          rfl
        rw [e]; exact i4'
      exact hfull.putObj (by omega) _
    · rw [hBe]
      exact below_putObj (i5.setCell (p := ⟨B, 0, none⟩) (Nat.le_refl _) (.slice (some ⟨S + 1 + 1, 0, none⟩) m m)) (by omega) (by omega) _
  case round =>
    rintro lp D pre x X W ⟨⟨i1, i2, i3, i4, i5⟩, i6, i7⟩ hXl hXD hlD hrec hDef ⟨hx, hxm⟩
    dsimp only [plEnc]
    gi_wp2
    have hp0 := Blk.new W 62 #[.int .i64 (pre.length * a / b), .int .i64 (pre.length * a % b), .int .i64 b]
    refine ⟨Keep.below ((Below.refl _ _).alloc (Nat.le_refl _) _), fun W2 hs2 => ?_⟩
    have hb2 := hs2.below (m := S + 1 + 1 + 1) (fun k hk => (i7 k hk).1) (by simp; omega)
    have hp2 := hs2.blk (fun hx => by have := (i7 _ hx).2; omega) hp0
    have j1 := (i1.alloc (.cells #[.int .i64 (pre.length * a / b), .int .i64 (pre.length * a % b), .int .i64 b] 62)).below hb2 (by omega)
    have j2 := (i2.alloc (.cells #[.int .i64 (pre.length * a / b), .int .i64 (pre.length * a % b), .int .i64 b] 62)).below hb2 (by omega)
    have j3 := (i3.alloc (.cells #[.int .i64 (pre.length * a / b), .int .i64 (pre.length * a % b), .int .i64 b] 62)).below hb2 (by omega)
    have j4 := (i4.alloc (.cells #[.int .i64 (pre.length * a / b), .int .i64 (pre.length * a % b), .int .i64 b] 62)).below hb2 (by omega)
    have j5 : Below B w W2 := (i5.alloc (by have := i5.size; omega) _).trans (hb2.mono (by omega))
    have s2 : S + 1 + 1 + 1 ≤ W2.heap.size := by have := hs2.size; simp at this; omega
    have x2 : ∀ k, X k → S + 1 + 1 + 1 ≤ k ∧ k < W2.heap.size := fun k hk => ⟨(i7 k hk).1, by have h5 := hs2.size; have h6 := (i7 k hk).2; simp at h5; omega⟩
    obtain ⟨k, hk⟩ : ∃ k, pre.length = k := ⟨_, rfl⟩
    rw [hk] at hp2 j4 hx
    subst hx
    obtain ⟨p1, p2, p3, p4, p5, p6, p7⟩ := place_in (i := x) HS.out (by omega) (by rw [HM.out]; omega) (show (0 : Int) ≤ n by omega)
    have hsamp : f x = .int .i64 (readS l (x * a / b) (x * a % b) b) := by rw [← HF.out]; rfl
    rw [hk]
    obtain ⟨q, hq⟩ : ∃ q : Nat, x * a / b = q := ⟨((x : Int) * a / b).toNat, by omega⟩
    rw [hq] at p1 p2 p5 hsamp hp2
    rw [hq]
    obtain ⟨r, hr⟩ : ∃ r, x * a % b = r := ⟨_, rfl⟩
    rw [hr] at p3 p4 p5 hsamp hp2
    rw [hr]
    have h2 : SL W2 A n c l := h.below (by rw [hBe]; exact j5)
    have cB := j1.cell 0
    have cR := j3.cell 0
    have cD := j2.cell 0
    have q0 := hp2.cell 0
    have q1 := hp2.cell 1
    have q2 := hp2.cell 2
    simp only [List.getElem?_toArray, List.getElem?_cons_zero, List.getElem?_cons_succ] at cB cR cD q0 q1 q2
    have eB : ∀ z : Ext W2, z.W.cell? ⟨B, 0, none⟩ = some (.slice (some ⟨S + 1 + 1, 0, none⟩) m m) := fun z => z.cell cB
    have eR : ∀ z : Ext W2, z.W.cell? ⟨S + 1, 0, none⟩ = some (.func (.func 79) #[] #[.pointer (some ⟨S, 0, none⟩)]) := fun z => z.cell cR
    have e0 : ∀ z : Ext W2, z.W.cell? ⟨W.heap.size, 0, none⟩ = some (.int .i64 (q : Int)) := fun z => z.cell q0
    have e1 : ∀ z : Ext W2, z.W.cell? ⟨W.heap.size, 1, none⟩ = some (.int .i64 r) := fun z => z.cell q1
    have e2 : ∀ z : Ext W2, z.W.cell? ⟨W.heap.size, 2, none⟩ = some (.int .i64 b) := fun z => z.cell q2
    have CR := fun z : Ext W2 => readF_any A n c S l q r b z.W (z.cell cD) (z.sl h2) (by omega) p3 p4 b2 (fun h => by have := p5 h; omega)
    have k0 : (0 : Int) ≤ (x : Int) := by omega
    have k1 : (x : Int) < (m : Int) := by omega
    have HP5 := Lib.hid p5
    have HQ := Lib.hid hq
    have HR := Lib.hid hr
    have HC := Lib.hid CR
    have HSa := Lib.hid hsamp
    have HK := Lib.hid hk
    clear p5 hq hr CR hsamp cB cR cD q0 q1 q2 hp0 hk
    refine wpIn_block ?_
    refine wpIn_region_ext_tail 6 (by kernel_rfl) (by kernel_rfl) rfl (by rintro ⟨_, _, h⟩; exact h) ?_
    simp only [List.take_succ_cons, List.take_zero, List.drop_succ_cons, List.drop_zero]
    repeat (go_big_quiet_step (first | exact Ext.quiet (HC.out _)))
    refine wpQuiet_nil ?_
    rintro _ ⟨z, rfl⟩
    have j4z := j4.belowAll z.h
    have f4 := j4z.frozen x
    have c4 : z.W.cell? ⟨S + 1 + 1, x, none⟩ = some (.int .i64 0) := by rw [j4z.cell, fillA_get _ _ hxm, if_neg (by omega)]
    have g4 := j4z.set_ x (f x)
    rw [fillA_set _ _ hxm] at g4
    have G4 := Lib.hid g4
    clear g4
    go_wp2
    refine ⟨(Keep.below z.h).trans (Keep.setCell _ (fun h => h.elim (fun h => by simp only at h; omega) (fun h => by have := (i7 _ h).1; simp only at this; omega))), ⟨(j1.belowAll z.h).far (by show B ≠ S + 1 + 1; omega) _, (j2.belowAll z.h).far (by show S ≠ S + 1 + 1; omega) _, (j3.belowAll z.h).far (by show S + 1 ≠ S + 1 + 1; omega) _, ?_, ?_⟩, ?_, ?_⟩
    · rw [← HSa.out, List.length_append, HK.out]; exact G4.out
    · exact (j5.trans (z.h.mono (by have := j5.size; omega))).setCell (by show B ≤ S + 1 + 1; omega) _
    · have := z.h.size; simp [World.setCell]; omega
    · intro k hk
      refine ⟨(i7 k hk).1, ?_⟩
      have h5 := z.h.size
      have h6 := (x2 k hk).2
      simp [World.setCell]; omega
end Go.Proofs.Yteljglhfimhmlaa
