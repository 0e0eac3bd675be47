/- Contracts of package fixed and of its reference (layer 8), third part: Mix, Line, Bend. -/
import Derived.Test.YteljglhfimhmlaaFixedB
import Derived.Test.YteljglhfimhmlaaMem
namespace Go.Proofs.Yteljglhfimhmlaa
open Go.RowKit

theorem sum_clip_bd (l : List Int) (k : Nat) : -(2147483648 * (k : Int)) ≤ ((l.map clipS).take k).sum ∧ ((l.map clipS).take k).sum ≤ 2147483648 * (k : Int) := by
  induction k with
  | zero => simp
  | succ k ih =>
    by_cases h : k < (l.map clipS).length
    · rw [sum_take_succ h]
      have hg : (l.map clipS)[k] = clipS (l[k]'(by simpa using h)) := by simp
      have := clipS_bd (l[k]'(by simpa using h))
      rw [hg]; omega
    · rw [List.take_of_length_le (by omega)]
      rw [List.take_of_length_le (by omega)] at ih
      omega
set_option maxHeartbeats 800000 in
theorem mix_any (A : Option Addr) (n c : Nat) (l : List Int) (w : World) (h : SL w A n c l) (hm : n ≤ 1048576) :
    Calls Try.prog 30 #[.slice A n c] w fun e w' => e = .returned (.int .i64 (mixS l)) ∧ Below w.heap.size w w' := by
  obtain rfl := h.n_eq
  have hmk := fun w => mk_ints (fun i => .int .i64 (clipS (l[i]?.getD 0))) l.length (by omega) w
  have hsz : w.heap.size < w.heap.size + 1 := by omega
  go_enter Try.func30, Try.ntmps30
  go_wp2
  go_loopw [11] (fun i wr => ∃ k : Nat, k ≤ l.length ∧ i = .int .i64 k ∧ Blk wr w.heap.size 3 (fillA (fun i => .int .i64 (clipS (l[i]?.getD 0))) (.int .i64 0) k l.length) ∧ Below w.heap.size w wr)
    (fun i _ => l.length - (intOf i).toNat)
  case atStart => exact ⟨0, Nat.zero_le _, rfl, Blk.new _ _ _, (Below.refl _ _).alloc (Nat.le_refl _) _⟩
  case round =>
    obtain ⟨k, hk, rfl, hb, hbel⟩ := hrel
    clear hmk
    by_cases hlt : k < l.length
    · obtain ⟨b, o, rfl, hbb, hc0⟩ := h.at_ hlt
      have hc := (hbel.cell (p := ⟨b, o + k, none⟩) hbb).trans hc0
      have hs : wr.cell? ⟨w.heap.size, k, none⟩ = some (.int .i64 0) := by rw [hb.cell, fillA_get _ _ hlt, if_neg (by omega)]
      have hf := hb.frozen k
      have hb2 := hb.set_ k (.int .i64 (clipS (l[k]?.getD 0)))
      rw [fillA_set (fun i => .int .i64 (clipS (l[i]?.getD 0))) _ hlt, getElem?_getD_of hlt] at hb2
      have H2 := Lib.hid hb2
      clear hb2 hb h hc0
      go_wp2_with (go_at_call 24; refine (clip_any _ _).mono ?_; rintro e w' ⟨rfl, rfl⟩)
      go_roundw
      case rel => exact ⟨k + 1, by omega, by go_num, H2.out, hbel.setCell (Nat.le_refl _) _⟩
      case measure => simp [intOf]; omega
    · obtain rfl : k = l.length := by omega
      have hb' : Blk wr w.heap.size 3 ((l.map clipS).map vint).toArray := by
        rw [fillA_full] at hb
        rw [List.map_map, ← map_range_getD l (vint ∘ clipS)]
        exact hb
      have hsl := hb'.sl (by simp [maxLen]; omega) (fun x hx => by obtain ⟨y, _, rfl⟩ := List.mem_map.1 hx; have := clipS_bd y; exact ⟨by omega, by omega⟩)
      rw [List.length_map] at hsl
      have C := sum_any _ _ _ _ _ hsl (fun k hk => by have := sum_clip_bd l k; simp at hk; omega)
      clear hsl hb' hb
      go_wp2_with (first
        | (go_at_call 24; refine (clip_any _ _).mono ?_; rintro e w' ⟨rfl, rfl⟩)
        | (go_at_call 58; refine C.mono ?_; rintro e w' ⟨rfl, rfl⟩))
      go_ret
      exact ⟨rfl, hbel⟩
theorem rmix_any (A : Option Addr) (n c : Nat) (l : List Int) (w : World) (h : SL w A n c l) (hm : n ≤ 1048576) :
    Calls Try.prog 31 #[.slice A n c] w fun e w' => e = .returned (.int .i64 (mixS l)) ∧ w = w' := by
  obtain rfl := h.n_eq
  go_enter Try.func31, Try.ntmps31
  go_wp2
  go_loop [3, 4] (fun n i => ∃ k : Nat, k ≤ l.length ∧ i = .int .i64 k ∧ n = .int .i64 ((l.map clipS).take k).sum) (fun _ i => l.length - (intOf i).toNat)
  case atStart => exact ⟨0, Nat.zero_le _, rfl, rfl⟩
  case round =>
    obtain ⟨k, hk, rfl, rfl⟩ := hrel
    by_cases hlt : k < l.length
    · obtain ⟨b, o, rfl, hb, hc⟩ := h.at_ hlt
      have h1 := sum_clip_bd l k
      have h2 := clipS_bd l[k]
      have h3 : ((l.map clipS).take (k + 1)).sum = ((l.map clipS).take k).sum + clipS l[k] := by rw [sum_take_succ (by simpa using hlt)]; simp
      have H3 := Lib.hid h3
      obtain ⟨s, hs⟩ : ∃ s, ((l.map clipS).take k).sum = s := ⟨_, rfl⟩
      rw [hs] at h1 H3
      clear h3 h
      go_wp2_with (go_at_call 25; refine (rclip_any _ _).mono ?_; rintro e w' ⟨rfl, rfl⟩)
      go_round
      case rel => exact ⟨k + 1, by omega, by go_num, by rw [H3.out]⟩
      case measure => simp [intOf]; omega
    · obtain rfl : k = l.length := by omega
      go_wp2_with (go_at_call 25; refine (rclip_any _ _).mono ?_; rintro e w' ⟨rfl, rfl⟩)
      go_ret
      refine ⟨?_, rfl⟩
      simp [mixS, List.take_of_length_le]
end Go.Proofs.Yteljglhfimhmlaa
