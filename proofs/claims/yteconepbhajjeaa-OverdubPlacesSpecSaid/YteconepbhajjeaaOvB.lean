/- Layer 44: sort.Search over the spans; the iterator over the runs. -/
import Derived.Test.YteconepbhajjeaaOvA
import Derived.Test.YteconepbhajjeaaSeq
import Derived.Test.YteconepbhajjeaaRoundW
namespace Go.Proofs.Yteconepbhajjeaa
open Go.RowKit Go.Shelf

def endOf (s : Spn) : Int := s.eng + s.len
theorem ends_mono {l : List Spn} {n : Nat} (ho : OrdTo l n) : ∀ (d : Nat) {j : Nat} {s t : Spn}, j + d < n → l[j]? = some s → l[j + d]? = some t → endOf s ≤ endOf t := by
  intro d
  induction d with
  | zero => intro j s t _ hs ht; rw [Nat.add_zero, hs] at ht; injection ht with ht; rw [ht]; exact Int.le_refl _
  | succ d ih =>
    intro j s t hlt hs ht
    have hl : j + d < l.length := by have := (List.getElem?_eq_some_iff.1 ht).1; omega
    have h1 := ih (t := l[j + d]) (by omega) hs (List.getElem?_eq_getElem hl)
    have h2 := ho (j + (d + 1)) t hlt ht
    rw [show j + (d + 1) = (j + d) + 1 by omega, endAt_succ (List.getElem?_eq_getElem hl)] at h2
    unfold SpanOk at h2
    unfold endOf at *
    omega
theorem searchF_any (A : Option Addr) (n c PL PH i : Nat) (l : List Spn) (h0 : Int) (s : Spn) (w : World) (h : SA spanE w A n c l) (cL : w.cell? ⟨PL, 0, none⟩ = some (.slice A n c)) (cH : w.cell? ⟨PH, 0, none⟩ = some (.int .i64 h0))
    (hi : i < n) (hs : l[i]? = some s) (hb : 0 ≤ s.eng ∧ s.eng ≤ 1099511627776 ∧ 1 ≤ s.len ∧ s.len ≤ 1099511627776) :
    Calls Try.prog 31 #[.int .i64 (i : Int), .pointer (some ⟨PL, 0, none⟩), .pointer (some ⟨PH, 0, none⟩)] w fun e w' => e = .returned (.bool (decide (h0 < s.eng + s.len))) ∧ Below w.heap.size w w' := by
  have hl := h.n_eq
  have hil : i < l.length := by omega
  obtain ⟨b, o, rfl, hbb, c0, c1, _, _, _⟩ := span_at h hil (s := s) (by rw [List.getElem?_eq_getElem hil] at hs; injection hs)
  obtain ⟨b1, b2, b3, b4⟩ := hb
  have hi2 : (i : Int) < n := by omega
  have gE : IntKind.i64.wrap (s.eng + s.len) = s.eng + s.len := IntWalk.i64_in _ (by omega)
  have hi3 : (0 : Int) ≤ (i : Int) := by omega
  clear h hs hil hl
  go_enter Try.func31, Try.ntmps31
  go_wp2
  go_quiet (fail)
  go_wp2
  go_ret
  exact ⟨rfl, below_drewN (Below.refl _ _) _⟩
theorem ord_bounds {l : List Spn} {n i : Nat} {s : Spn} (ho : OrdTo l n) (hi : i < n) (hs : l[i]? = some s) : 0 ≤ s.eng ∧ s.eng ≤ 1099511627776 ∧ 1 ≤ s.len ∧ s.len ≤ 1099511627776 ∧ 0 ≤ s.song ∧ s.song ≤ 1099511627776 := by
  have h1 := ho i s hi hs
  have h2 := endAt_nonneg (l := l) (k := i) (fun j t hj ht => ho j t (by omega) ht)
  unfold SpanOk at h1
  omega
set_option maxHeartbeats 1000000 in
theorem search_any (A : Option Addr) (n c PL PH : Nat) (l : List Spn) (h0 : Int) (w : World) (h : SA spanE w A n c l) (cL : w.cell? ⟨PL, 0, none⟩ = some (.slice A n c)) (cH : w.cell? ⟨PH, 0, none⟩ = some (.int .i64 h0))
    (ho : OrdTo l n) (hn : n ≤ 65536) :
    Calls Try.prog 30 #[.int .i64 (n : Int), .func (.func 31) #[] #[.pointer (some ⟨PL, 0, none⟩), .pointer (some ⟨PH, 0, none⟩)]] w fun e w' =>
      ∃ k : Nat, e = .returned (.int .i64 (k : Int)) ∧ Below w.heap.size w w' ∧ k ≤ n ∧ ∀ j s, j < k → l[j]? = some s → endOf s ≤ h0 := by
  have HL := Lib.hid h.n_eq
  have HO := Lib.hid ho
  have CF := Lib.hid (fun wr (hB : Below w.heap.size w wr) i s hi hs => searchF_any A n c PL PH i l h0 s wr (h.below hB) ((hB.cell (lt_of_cell cL)).trans cL) ((hB.cell (lt_of_cell cH)).trans cH) hi hs (by have := ord_bounds ho hi hs; omega))
  clear h cL cH ho
  go_enter Try.func30, Try.ntmps30
  go_wp2
  go_loopw [5, 6] (fun i j wr => ∃ a b : Nat, a ≤ b ∧ b ≤ n ∧ i = .int .i64 a ∧ j = .int .i64 b ∧ Hid (∀ j s, j < a → l[j]? = some s → endOf s ≤ h0) ∧ Below w.heap.size w wr) (fun i j _ => (intOf j - intOf i).toNat)
  case atStart => exact ⟨0, n, Nat.zero_le _, Nat.le_refl _, rfl, rfl, Lib.hid (fun j s hj _ => by omega), Below.refl _ _⟩
  case round =>
    obtain ⟨a, b, hab, hbn, rfl, rfl, hp, hB⟩ := hrel
    by_cases hlt : a < b
    · obtain ⟨m, hm⟩ : ∃ m, (a + b) / 2 = m := ⟨_, rfl⟩
      have hml : m < l.length := by rw [HL.out]; omega
      obtain ⟨s, hs⟩ : ∃ s, l[m] = s := ⟨_, rfl⟩
      have hs' : l[m]? = some s := by rw [List.getElem?_eq_getElem hml, hs]
      have C := CF.out wr hB m s (by omega) hs'
      have gm : ((a : Int) + (b : Int)) / 2 = (m : Int) := by omega
      have HM := Lib.hid hm
      by_cases ht : h0 < s.eng + s.len
      · rw [decide_eq_true ht] at C
        clear hs hs' ht hm
        go_wp2_with (go_at_call 31; refine C.mono ?_; rintro e w1 ⟨rfl, hh⟩; replace hB := Bel.on0 hB hh; clear hh)
        have := HM.out
        exact ⟨⟨a, m, by omega, by omega, rfl, rfl, hp, hB⟩, by simp only [intOf]; omega⟩
      · rw [decide_eq_false ht] at C
        have HN : Hid (∀ j s, j < m + 1 → l[j]? = some s → endOf s ≤ h0) := Lib.hid (fun j t hj htj => by
          have := ends_mono HO.out (m - j) (j := j) (s := t) (t := s) (by omega) htj (by rw [show j + (m - j) = m by omega]; exact hs')
          unfold endOf at this ⊢
          omega)
        clear hs hs' ht hm
        go_wp2_with (go_at_call 31; refine C.mono ?_; rintro e w1 ⟨rfl, hh⟩; replace hB := Bel.on0 hB hh; clear hh)
        have := HM.out
        exact ⟨⟨m + 1, b, by omega, by omega, by simp, rfl, HN.out, hB⟩, by simp only [intOf]; omega⟩
    · obtain rfl : a = b := by omega
      go_wp2
      go_ret
      exact ⟨a, rfl, hB, hbn, hp.out⟩
end Go.Proofs.Yteconepbhajjeaa
