/- Layer 44: Places. -/
import Derived.Test.YteconepbhajjeaaPlaces
import Derived.WalkLawsBesides
namespace Go.Proofs.Yteconepbhajjeaa
open Go.RowKit
set_option maxHeartbeats 4000000 in
set_option maxRecDepth 100000 in
theorem places_any (A : Option Addr) (n c : Nat) (l : List Ld) (b : Nat → Int) (w : World) (h : SA laidE w A n c l) :
    Calls Try.prog 15 #[.slice A n c, .agg #[.int .u8 (b 0), .int .u8 (b 1), .int .u8 (b 2), .int .u8 (b 3), .int .u8 (b 4), .int .u8 (b 5), .int .u8 (b 6), .int .u8 (b 7), .int .u8 (b 8), .int .u8 (b 9), .int .u8 (b 10), .int .u8 (b 11), .int .u8 (b 12), .int .u8 (b 13), .int .u8 (b 14), .int .u8 (b 15), .int .u8 (b 16), .int .u8 (b 17), .int .u8 (b 18), .int .u8 (b 19), .int .u8 (b 20), .int .u8 (b 21), .int .u8 (b 22), .int .u8 (b 23), .int .u8 (b 24), .int .u8 (b 25), .int .u8 (b 26), .int .u8 (b 27), .int .u8 (b 28), .int .u8 (b 29), .int .u8 (b 30), .int .u8 (b 31)]] w (PlcRet w b (placesR l)) := by
  have hlen := h.len
  have HL := Lib.hid h.n_eq
  have HH := Lib.hid h
  clear h
  by_cases hn : n ≤ 256
  · have hn' : (n : Int) ≤ 256 := by omega
    have HN := Lib.hid (show ¬ 256 < l.length by rw [HL.out]; omega)
    go_enter Try.func15, Try.ntmps15
    go_wp2
    go_loopw [4, 13] (fun x i wr => ∃ (k : Nat) (A' : Option Addr) (m c' : Nat), k ≤ n ∧ i = .int .i64 k ∧ x = .slice A' m c' ∧ Hid (∀ (j : Nat) y, j < k → l[j]? = some y → PlcOk y) ∧ Blk wr w.heap.size 34 #[.int .u8 (b 0), .int .u8 (b 1), .int .u8 (b 2), .int .u8 (b 3), .int .u8 (b 4), .int .u8 (b 5), .int .u8 (b 6), .int .u8 (b 7), .int .u8 (b 8), .int .u8 (b 9), .int .u8 (b 10), .int .u8 (b 11), .int .u8 (b 12), .int .u8 (b 13), .int .u8 (b 14), .int .u8 (b 15), .int .u8 (b 16), .int .u8 (b 17), .int .u8 (b 18), .int .u8 (b 19), .int .u8 (b 20), .int .u8 (b 21), .int .u8 (b 22), .int .u8 (b 23), .int .u8 (b 24), .int .u8 (b 25), .int .u8 (b 26), .int .u8 (b 27), .int .u8 (b 28), .int .u8 (b 29), .int .u8 (b 30), .int .u8 (b 31)] ∧ OA (plcE b) wr (w.heap.size + 1) A' m c' (plcs (l.take k)) ∧ Below w.heap.size w wr) (fun _ i _ => n - (intOf i).toNat)
    case atStart => exact ⟨0, none, 0, 0, Nat.zero_le _, rfl, rfl, Lib.hid (fun j y hj => by omega), Blk.new w _ _, OA.nil _ _ _, Bel.al (Below.refl _ w) _⟩
    case round =>
      obtain ⟨k, A', m, c', hk, rfl, rfl, hok, hd, hoa, hB⟩ := hrel
      by_cases hlt : k < n
      · have hkl : k < l.length := by rw [HL.out]; exact hlt
        obtain ⟨s, hs⟩ : ∃ s, l[k] = s := ⟨_, rfl⟩
        have hs' : l[k]? = some s := by rw [List.getElem?_eq_getElem hkl, hs]
        obtain ⟨bb, o, rfl, hb, c0, c1, c2, c3⟩ := laid_at (HH.out.below hB) hkl hs
        have HS := Lib.hid hs'
        have HD := Lib.hid hd
        have HOA := Lib.hid hoa
        clear hs hs' hd hoa
        obtain ⟨sf, sl, sa, sp⟩ := s
        dsimp only at c0 c1 c2 c3
        obtain ⟨mn, hmn⟩ : ∃ mn, (if sa < sf then sa else sf) = mn := ⟨_, rfl⟩
        obtain ⟨m1, hm1⟩ : ∃ m1, (if sf < sa then sa else sf) = m1 := ⟨_, rfl⟩
        obtain ⟨m2, hm2⟩ : ∃ m2, (if m1 < sl then sl else m1) = m2 := ⟨_, rfl⟩
        have hiff : PlcOk ⟨sf, sl, sa, sp⟩ ↔ 0 ≤ mn ∧ 1 ≤ sl ∧ m2 ≤ 16777216 := by
          unfold PlcOk
          dsimp only
          split at hmn <;> split at hm1 <;> split at hm2 <;> omega
        by_cases ok : PlcOk ⟨sf, sl, sa, sp⟩
        · have HOk := Lib.hid ok
          obtain ⟨o1, o2, o3, o4, o5, o6⟩ := id ok
          obtain ⟨q1, _, q3⟩ := hiff.1 ok
          clear hiff ok
          dsimp only at o1 o2 o3 o4 o5 o6
          have hg := HD.out.alloc (.cells #[.int .i64 sf, .int .i64 sl, .int .i64 sa, .int .i64 sp] 52)
          have hms := plcs_succ HS.out
          unfold mkPlc at hms
          dsimp only at hms
          have HMS := Lib.hid hms
          have hm : m ≤ 256 := by
            have := HOA.out.n_eq; unfold plcs at this; simp at this; omega
          have hsz := hB.size
          have hgl := HD.out.lt
          have hs := SA.lit (e := plcE b) (l := [⟨(k : Int) + 1, sa, sf, sl⟩]) (n := 1) (cs := #[.int .i64 ((k : Int) + 1), .int .i64 0, .int .i64 sa, .int .i64 1, .int .u8 (b 0), .int .u8 (b 1), .int .u8 (b 2), .int .u8 (b 3), .int .u8 (b 4), .int .u8 (b 5), .int .u8 (b 6), .int .u8 (b 7), .int .u8 (b 8), .int .u8 (b 9), .int .u8 (b 10), .int .u8 (b 11), .int .u8 (b 12), .int .u8 (b 13), .int .u8 (b 14), .int .u8 (b 15), .int .u8 (b 16), .int .u8 (b 17), .int .u8 (b 18), .int .u8 (b 19), .int .u8 (b 20), .int .u8 (b 21), .int .u8 (b 22), .int .u8 (b 23), .int .u8 (b 24), .int .u8 (b 25), .int .u8 (b 26), .int .u8 (b 27), .int .u8 (b 28), .int .u8 (b 29), .int .u8 (b 30), .int .u8 (b 31), .int .i64 sf, .int .i64 sl, .int .i64 0, .int .i64 0, .slice none 0 0, .slice none 0 0])
            (wr.alloc (.cells #[.int .i64 sf, .int .i64 sl, .int .i64 sa, .int .i64 sp] 52)) rfl rfl (by omega)
          obtain ⟨A2, c2', w', eA, z1, z2, _⟩ := ((HOA.out.alloc (.cells #[.int .i64 sf, .int .i64 sl, .int .i64 sa, .int .i64 sp] 52)).alloc (.cells #[.int .i64 ((k : Int) + 1), .int .i64 0, .int .i64 sa, .int .i64 1, .int .u8 (b 0), .int .u8 (b 1), .int .u8 (b 2), .int .u8 (b 3), .int .u8 (b 4), .int .u8 (b 5), .int .u8 (b 6), .int .u8 (b 7), .int .u8 (b 8), .int .u8 (b 9), .int .u8 (b 10), .int .u8 (b 11), .int .u8 (b 12), .int .u8 (b 13), .int .u8 (b 14), .int .u8 (b 15), .int .u8 (b 16), .int .u8 (b 17), .int .u8 (b 18), .int .u8 (b 19), .int .u8 (b 20), .int .u8 (b 21), .int .u8 (b 22), .int .u8 (b 23), .int .u8 (b 24), .int .u8 (b 25), .int .u8 (b 26), .int .u8 (b 27), .int .u8 (b 28), .int .u8 (b 29), .int .u8 (b 30), .int .u8 (b 31), .int .i64 sf, .int .i64 sl, .int .i64 0, .int .i64 0, .slice none 0 0, .slice none 0 0] 43)).app hs (by simp; omega) (by omega)
          rw [World.size_alloc] at eA
          have HZ1 := Lib.hid z1
          have HZ2 := Lib.hid z2
          clear z1 z2 hs hms
          have HOK2 := Lib.hid (show ∀ (j : Nat) (y : Ld), j < k + 1 → l[j]? = some y → PlcOk y from fun j y hj hy => by
            by_cases e : j = k
            · subst e; rw [HS.out] at hy; injection hy with hy; rw [← hy]; exact HOk.out
            · exact hok.out j y (by omega) hy)
          go_wp2_with (first
            | (refine wpList_load_row rfl 34 (.tmp 3) rfl w.heap.size rfl _ _ _ _ hg Try.underlying34 rfl (by kernel_rfl) ?_; clear hg)
            | (at_builtin; refine wpList_append_eq rfl _ _ _ rfl rfl rfl eA ?_; clear eA))
          go_wp2
          exact ⟨⟨k + 1, A2, m + 1, c2', by omega, by simp, rfl, HOK2, ((HD.out.alloc _).alloc _).below HZ2.out (by omega), by rw [HMS.out]; exact HZ1.out, (Bel.al (Bel.al hB _) _).trans (HZ2.out.mono (by omega))⟩, by simp only [intOf]; omega⟩
        · have HF := Lib.hid (placesR_bad HN.out HS.out ok)
          have hc : mn < 0 ∨ (0 ≤ mn ∧ sl < 1) ∨ (0 ≤ mn ∧ 1 ≤ sl ∧ 16777216 < m2) := by rw [hiff] at ok; omega
          clear ok hiff
          rcases hc with h1 | ⟨h1, h2⟩ | ⟨h1, h2, h3⟩
          all_goals
            go_wp2
            go_ret2
            exact HF.out ▸ PlcRet.nil (Bel.al hB _)
      · obtain rfl : k = n := by omega
        have HF := Lib.hid (placesR_ok HN.out (fun j y hy => hok.out j y (by have := (List.getElem?_eq_some_iff.1 hy).1; rw [HL.out] at this; exact this) hy))
        have HT := Lib.hid (show plcs (l.take k) = plcs l by rw [List.take_of_length_le (by rw [HL.out]; omega)])
        rw [HT.out] at hoa
        have HOA := Lib.hid hoa
        clear hoa
        go_wp2
        go_ret2
        exact ⟨A', m, c', by rw [HF.out]; rfl, by rw [HF.out]; exact HOA.out.mono (by omega), hB⟩
  · have hn' : (256 : Int) < n := by omega
    have HF := Lib.hid (show placesR l = ([], 2) by unfold placesR; rw [if_pos (show 256 < l.length by rw [HL.out]; omega)])
    go_enter Try.func15, Try.ntmps15
    go_wp2
    go_ret2
    exact HF.out ▸ PlcRet.nil (Bel.al (Below.refl _ w) _)
end Go.Proofs.Yteconepbhajjeaa
