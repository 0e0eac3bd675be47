/- cmp.Compare[int], slices.Compare[[]int,int]. -/
import Derived.Test.YtmfdflfjllpceaaZLit
import Derived.Test.YtmfdflfjllpceaaZTail
namespace Go.Proofs.Ytmfdflfjllpceaa
open Go.RowKit

def ccmp (a b : Int) : Int := if a < b then -1 else if b < a then 1 else 0
theorem ccmp_zero {a b : Int} : ccmp a b = 0 ↔ a = b := by
  unfold ccmp
  by_cases h1 : a < b
  · rw [if_pos h1]; omega
  · rw [if_neg h1]; by_cases h2 : b < a
    · rw [if_pos h2]; omega
    · rw [if_neg h2]; omega
/-- The sign of the first difference; of lists of one length. -/
def lcmp : List Int → List Int → Int
  | x :: a, y :: b => if x = y then lcmp a b else ccmp x y
  | _, _ => 0
theorem nan_any (a : Int) (w : World) : Calls Try.prog 62 #[.int .i64 a] w fun e w' => e = .returned (.bool false) ∧ w = w' := by
  go_enter Try.func62, Try.ntmps62
  go_wp2
  go_ret
  exact ⟨rfl, rfl⟩
theorem ccmp_any (a b : Int) (w : World) : Calls Try.prog 56 #[.int .i64 a, .int .i64 b] w fun e w' => e = .returned (.int .i64 (ccmp a b)) ∧ w = w' := by
  have hc : a < b ∨ (a = b) ∨ (b < a ∧ ¬ a < b) := by omega
  rcases hc with h | rfl | ⟨h, h'⟩
  · have H := Lib.hid (show ccmp a b = -1 by unfold ccmp; rw [if_pos h])
    go_enter Try.func56, Try.ntmps56
    go_wp2_with (go_at_call 62; refine (nan_any _ _).mono ?_; rintro e w' ⟨rfl, rfl⟩)
    go_ret
    exact ⟨ret_int H.out.symm, rfl⟩
  · have H := Lib.hid (show ccmp a a = 0 from ccmp_zero.2 rfl)
    go_enter Try.func56, Try.ntmps56
    go_wp2_with (go_at_call 62; refine (nan_any _ _).mono ?_; rintro e w' ⟨rfl, rfl⟩)
    go_ret
    exact ⟨ret_int H.out.symm, rfl⟩
  · have H := Lib.hid (show ccmp a b = 1 by unfold ccmp; rw [if_neg h', if_pos h])
    clear h'
    go_enter Try.func56, Try.ntmps56
    go_wp2_with (go_at_call 62; refine (nan_any _ _).mono ?_; rintro e w' ⟨rfl, rfl⟩)
    go_ret
    exact ⟨ret_int H.out.symm, rfl⟩
theorem lcmp_drop {a b : List Int} {k : Nat} (ha : k < a.length) (hb : k < b.length) : lcmp (a.drop k) (b.drop k) = if a[k] = b[k] then lcmp (a.drop (k + 1)) (b.drop (k + 1)) else ccmp a[k] b[k] := by
  rw [List.drop_eq_getElem_cons ha, List.drop_eq_getElem_cons hb]
  rfl
set_option maxHeartbeats 2000000 in
theorem scmp_any (A B : Option Addr) (n c d : Nat) (a b : List Int) (w : World) (ha : SL w A n c a) (hb : SL w B n d b) :
    Calls Try.prog 46 #[.slice A n c, .slice B n d] w fun e w' => e = .returned (.int .i64 (lcmp a b)) ∧ w = w' := by
  have hla := ha.len
  have HA := Lib.hid ha.n_eq
  have HB := Lib.hid hb.n_eq
  have e0 : decide ((n : Int) < (n : Int)) = false := by simp
  go_enter Try.func46, Try.ntmps46
  go_wp2
  go_loop [11] (fun i => ∃ k : Nat, k ≤ n ∧ i = .int .i64 k ∧ Hid (lcmp a b = lcmp (a.drop k) (b.drop k))) (fun i => n - (intOf i).toNat)
  case atStart => exact ⟨0, Nat.zero_le _, rfl, Lib.hid rfl⟩
  case round =>
    obtain ⟨k, hk, rfl, he⟩ := hrel
    by_cases hlt : k < n
    · have ka : k < a.length := by rw [HA.out]; exact hlt
      have kb : k < b.length := by rw [HB.out]; exact hlt
      obtain ⟨ba, oa, rfl, hba, ca⟩ := ha.at_ ka
      obtain ⟨bb, ob, rfl, hbb, cb⟩ := hb.at_ kb
      have hst := lcmp_drop ka kb
      obtain ⟨x, hx⟩ : ∃ x, a[k] = x := ⟨_, rfl⟩
      obtain ⟨y, hy⟩ : ∃ y, b[k] = y := ⟨_, rfl⟩
      rw [hx] at ca
      rw [hy] at cb
      rw [hx, hy] at hst
      have C := ccmp_any x y w
      obtain ⟨z, hz⟩ : ∃ z, ccmp x y = z := ⟨_, rfl⟩
      rw [hz] at C hst
      by_cases hxy : x = y
      · have HN := Lib.hid (show lcmp a b = lcmp (a.drop (k + 1)) (b.drop (k + 1)) by rw [he.out, hst, if_pos hxy])
        obtain rfl : z = 0 := by rw [← hz]; exact ccmp_zero.2 hxy
        clear hst hx hy hz he hxy
        go_wp2_with (go_at_call 56; refine C.mono ?_; rintro e w' ⟨rfl, rfl⟩)
        go_round
        case rel => exact ⟨k + 1, by omega, by go_num, HN⟩
        case measure => simp [intOf]; omega
      · have HN := Lib.hid (show lcmp a b = z by rw [he.out, hst, if_neg hxy])
        have hz0 : ¬ z = 0 := fun h => hxy (ccmp_zero.1 (hz.trans h))
        have hz1 : (z != 0) = true := by simpa using hz0
        clear hst hx hy hz he hxy hz0
        go_wp2_with (go_at_call 56; refine C.mono ?_; rintro e w' ⟨rfl, rfl⟩)
        go_ret
        exact ⟨ret_int HN.out.symm, rfl⟩
    · obtain rfl : k = n := by omega
      have HN := Lib.hid (show lcmp a b = 0 by rw [he.out, List.drop_of_length_le (by rw [HA.out]; omega), List.drop_of_length_le (by rw [HB.out]; omega)]; rfl)
      clear he
      go_wp2
      go_ret
      exact ⟨ret_int HN.out.symm, rfl⟩
end Go.Proofs.Ytmfdflfjllpceaa
