/- Package fades (layer 27), seventh part: Cross. -/
import Derived.Test.YteljglhfimhmlaaFadesF
import Derived.Test.YteljglhfimhmlaaTail
namespace Go.Proofs.Yteljglhfimhmlaa
open Go.RowKit

set_option maxHeartbeats 2000000 in
set_option maxRecDepth 100000 in
theorem cross_ok (A B : Option Addr) (na ca nb cb m : Nat) (a b : List Int) (w : World) (ha : SL w A na ca a) (hb : SL w B nb cb b) (hra : rightB na m = true) (hrb : rightB nb m = true) :
    Calls Try.prog 45 #[.slice A na ca, .slice B nb cb, .int .i64 m] w (RetOwn w (crossS a b m)) := by
  obtain rfl := ha.n_eq
  obtain rfl := hb.n_eq
  have hm : a.length ≤ 16777216 ∧ m ≤ a.length ∧ b.length ≤ 16777216 ∧ m ≤ b.length := by unfold rightB at hra hrb; simp at hra hrb; omega
  obtain ⟨h1, h2, h3, h4⟩ := hm
  have CA := right_any A a.length ca a m w ha
  have CB := right_any B b.length cb b m w hb
  rw [hra] at CA
  rw [hrb] at CB
  have HCA := Lib.hid CA
  have HCB := Lib.hid CB
  have HO := Lib.hid (out_ok A a.length ca m a w ha hra)
  have HI := Lib.hid (fun w' => in_ok B b.length cb m b w')
  have la : (fadeOutS a m).length = a.length := by rw [fadeOutS, updR_len]
  have lb : (fadeInS b m).length = b.length := by rw [fadeInS, upd_len]
  have HLA := Lib.hid la
  have HLB := Lib.hid lb
  clear CA CB la lb
  go_enter Try.func45, Try.ntmps45
  go_wp2_with (first
    | (go_at_call 69; (with_reducible refine HCA.out.mono ?_); rintro e w' ⟨rfl, rfl⟩)
    | (go_at_call 69; (with_reducible refine HCB.out.mono ?_); rintro e w' ⟨rfl, rfl⟩)
    | (go_at_call 42; (with_reducible refine HO.out.mono ?_); rintro e w1 ⟨g1, rfl, hg1, hb1, hB1⟩)
    | (go_at_call 40; (with_reducible refine (HI.out w1 (hb.below hB1) hrb).mono ?_); rintro e w2 ⟨g2, rfl, hg2, hb2, hB2⟩))
  have hOi := fadeOutS_i64 (m := m) ha.i64
  have hIi := fadeInS_i64 (m := m) hb.i64
  have hF : ∀ k, ∀ x ∈ upd (fun j x => addS ((fadeOutS a m)[a.length - m + j]?.getD 0) x) k (fadeInS b m), I64 x := fun k => upd_mem (fun _ _ => I64_clipS _) hIi
  have hX : crossS a b m = a.take (a.length - m) ++ upd (fun j x => addS ((fadeOutS a m)[a.length - m + j]?.getD 0) x) m (fadeInS b m) := rfl
  have HX := Lib.hid hX
  have htk : (fadeOutS a m).take (a.length - m) = a.take (a.length - m) := by
    unfold fadeOutS updR
    apply List.ext_getElem
    · simp
    · intro i h5 h6
      simp only [List.length_take, List.length_mapIdx] at h5
      simp only [List.getElem_take, List.getElem_mapIdx]
      rw [if_neg (by omega)]
  have la := HLA.out
  have lb := HLB.out
  obtain ⟨O, hO⟩ : ∃ O, fadeOutS a m = O := ⟨_, rfl⟩
  obtain ⟨I, hI⟩ : ∃ I, fadeInS b m = I := ⟨_, rfl⟩
  rw [hO] at hb1 hOi hF HX htk la ⊢
  rw [hI] at hb2 hIi hF HX lb ⊢
  rw [la, lb]
  have HX2 := Lib.hid htk
  have LA := Lib.hid la
  have LB := Lib.hid lb
  have hbl1 := hb1.belowAll hB2
  have hlt1 := hb1.lt
  have hBw := hB1.trans (hB2.mono hB1.size)
  clear hO hI htk la lb HLA HLB HCA HCB HO HI hX hb1 hB2 hB1 ha hb
  obtain ⟨F, hFe⟩ : ∃ F : Nat → Int → Int, (fun j x => addS (O[a.length - m + j]?.getD 0) x) = F := ⟨_, rfl⟩
  rw [hFe] at hF HX
  have HFe := Lib.hid hFe
  clear hFe
  go_loopw [41] (fun i wr => ∃ k : Nat, k ≤ m ∧ i = .int .i64 k ∧ Blk wr g2 3 ((upd F k I).map vint).toArray ∧ Blk wr g1 3 (O.map vint).toArray ∧ Below w.heap.size w wr) (fun i _ => m - (intOf i).toNat)
  case atStart => exact ⟨0, Nat.zero_le _, rfl, by rw [upd_zero]; exact hb2, hbl1, hBw⟩
  case round =>
    obtain ⟨k, hk, rfl, hi2, ho2, hbel⟩ := hrel
    clear hb2 hbl1 hBw
    by_cases hlt : k < m
    · have hul : (upd F k I).length = b.length := by rw [upd_len, LB.out]
      have cO := blk_int ho2 (k := a.length - m + k) (by rw [LA.out]; omega)
      have cI := blk_int hi2 (k := k) (by omega)
      obtain ⟨x, hx⟩ : ∃ x, O[a.length - m + k]?.getD 0 = x := ⟨_, rfl⟩
      obtain ⟨y, hy⟩ : ∃ y, (upd F k I)[k]?.getD 0 = y := ⟨_, rfl⟩
      have hxi : I64 x := by rw [← hx]; have h5 : a.length - m + k < O.length := by rw [LA.out]; omega
                             rw [List.getElem?_eq_getElem h5]; exact hOi _ (List.getElem_mem h5)
      have hyi : I64 y := by rw [← hy]; have h5 : k < (upd F k I).length := by omega
                             rw [List.getElem?_eq_getElem h5]; exact hF k _ (List.getElem_mem h5)
      have hsucc := upd_succ F (k := k) (l := I) (by rw [LB.out]; omega)
      rw [hx] at cO
      rw [hy] at cI hsucc
      have hfk : F k y = addS x y := by rw [← HFe.out]; simp only [hx]
      rw [hfk] at hsucc
      have HS := Lib.hid hsucc
      have HF := Lib.hid hF
      obtain ⟨q, hq⟩ : ∃ q, a.length - m + k = q := ⟨_, rfl⟩
      rw [hq] at cO
      have g4 : IntKind.i64.wrap ((a.length : Int) - (m : Int) + (k : Int)) = (q : Int) := by rw [IntWalk.i64_in _ (by omega)]; omega
      have g5 : (0 : Int) ≤ (q : Int) := by omega
      have g6 : (q : Int) < (a.length : Int) := by omega
      have g7 : (0 : Int) ≤ (k : Int) := by omega
      have g8 : (k : Int) < (b.length : Int) := by omega
      have hi2' := Lib.hid hi2
      have ho2' := Lib.hid ho2
      clear hx hy hsucc hul hfk hF hi2 ho2 hOi hIi hq
      have eO : ∀ z : Ext wr, z.W.cell? ⟨g1, q, none⟩ = some (.int .i64 x) := fun z => z.cell cO
      have eI : ∀ z : Ext wr, z.W.cell? ⟨g2, k, none⟩ = some (.int .i64 y) := fun z => z.cell cI
      go_wp2
      refine wp_region_ext_tail 14 (by kernel_rfl) (by kernel_rfl) ?_
      simp only [List.take_succ_cons, List.take_zero, List.drop_succ_cons, List.drop_zero]
      repeat (go_big_quiet_step (first | exact Ext.quiet (add_any x y _ hxi hyi)))
      refine wpQuiet_nil ?_
      rintro _ ⟨z, rfl⟩
      have hi3 := hi2'.out.belowAll z.h
      have ho3 := ho2'.out.belowAll z.h
      have cz := eI z
      have fz := hi3.frozen k
      go_wp2
      refine ⟨⟨k + 1, by omega, by simp, ?_, ho3.far (by show g1 ≠ g2; omega) _, ((hbel.trans (z.h.mono hbel.size))).setCell (by show w.heap.size ≤ g2; omega) _⟩, by simp only [intOf]; omega⟩
      have := blk_set hi3 k (addS x y)
      rwa [HS.out] at this
    · obtain rfl : k = m := by omega
      have hul : (upd F k I).length = b.length := by rw [upd_len, LB.out]
      have sO : SL wr (some ⟨g1, 0, none⟩) a.length a.length O := by
        have := sl_of_own ho2 (by rw [LA.out]; omega) hOi
        rwa [LA.out] at this
      have sI : SL wr (some ⟨g2, 0, none⟩) b.length b.length (upd F k I) := by
        have := sl_of_own hi2 (by rw [hul]; omega) (hF k)
        rwa [hul] at this
      obtain ⟨A', c', eT, sT⟩ := sO.cutTo (j := (a.length : Int) - (k : Int)) (hi := a.length - k) (by omega) (by omega)
      have hw5 : Below wr.heap.size wr (wr.alloc (.cells #[.slice A' (a.length - k) c', .slice (some ⟨g2, 0, none⟩) b.length b.length] 26)) := (Below.refl _ _).alloc (Nat.le_refl _) _
      have CJ := joined_any (some ⟨wr.heap.size, 0, none⟩) 2 2 [⟨A', a.length - k, c', O.take (a.length - k)⟩, ⟨some ⟨g2, 0, none⟩, b.length, b.length, upd F k I⟩] _ (RD.lit wr 26 1 2 #[.slice A' (a.length - k) c', .slice (some ⟨g2, 0, none⟩) b.length b.length] rfl)
        (by simp only [List.mem_cons, List.not_mem_nil, or_false]; rintro s (rfl | rfl); exact sT.below hw5; exact sI.below hw5) (by simp [total]; omega) (by omega)
      have HCJ := Lib.hid CJ
      clear CJ hi2 ho2 sO sI sT hOi hIi hF hw5
      go_wp2_with (go_at_call 70; refine HCJ.out.mono ?_; rintro e w5 ⟨rfl, hb5, hB5⟩)
      go_ret2
      have ht : total [⟨A', a.length - k, c', O.take (a.length - k)⟩, ⟨some ⟨g2, 0, none⟩, b.length, b.length, upd F k I⟩] = (crossS a b k).length := by
        rw [HX.out]; simp [total, hul]
      have hc : conc [⟨A', a.length - k, c', O.take (a.length - k)⟩, ⟨some ⟨g2, 0, none⟩, b.length, b.length, upd F k I⟩] = crossS a b k := by
        rw [HX.out]; simp [conc, HX2.out]
      rw [ht]
      rw [hc] at hb5
      have hs := hbel.size
      exact ⟨_, rfl, by omega, by simpa using hb5, (hbel.alloc hs _).trans (hB5.mono (by simp; omega))⟩

theorem cross_bad (A B : Option Addr) (na ca nb cb : Nat) (m : Int) (a b : List Int) (w : World) (ha : SL w A na ca a) (hb : SL w B nb cb b) (hr : rightB na m = false ∨ rightB nb m = false) :
    Calls Try.prog 45 #[.slice A na ca, .slice B nb cb, .int .i64 m] w fun e w' => e = .returned (.tuple #[.slice none 0 0, .int .i64 1]) ∧ w = w' := by
  cases hra : rightB na m with
  | false =>
    have CA := right_any A na ca a m w ha
    rw [hra] at CA
    have HCA := Lib.hid CA
    clear CA
    go_enter Try.func45, Try.ntmps45
    go_wp2_with (go_at_call 69; (with_reducible refine HCA.out.mono ?_); rintro e w' ⟨rfl, rfl⟩)
    go_ret2
    exact ⟨rfl, rfl⟩
  | true =>
    have hrb : rightB nb m = false := by rcases hr with h | h; rw [hra] at h; cases h; exact h
    have CA := right_any A na ca a m w ha
    have CB := right_any B nb cb b m w hb
    rw [hra] at CA
    rw [hrb] at CB
    have HCA := Lib.hid CA
    have HCB := Lib.hid CB
    clear CA CB
    go_enter Try.func45, Try.ntmps45
    go_wp2_with (first
      | (go_at_call 69; (with_reducible refine HCA.out.mono ?_); rintro e w' ⟨rfl, rfl⟩)
      | (go_at_call 69; (with_reducible refine HCB.out.mono ?_); rintro e w' ⟨rfl, rfl⟩))
    go_ret2
    exact ⟨rfl, rfl⟩
end Go.Proofs.Yteljglhfimhmlaa
