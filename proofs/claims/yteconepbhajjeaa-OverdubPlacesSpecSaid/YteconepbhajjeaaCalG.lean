/- Layer 42: the reference's At; layer 44: Again. -/
import Derived.Test.YteconepbhajjeaaCalF
namespace Go.Proofs.Yteconepbhajjeaa
open Go.RowKit

theorem fOut_rZ (f : Option Rcd) : fOut f = ((rZ f).inn, (rZ f).out, f.isSome) := by cases f <;> rfl
set_option maxHeartbeats 1000000 in
theorem rat_any (A : Option Addr) (n c : Nat) (l : List Rcd) (dev pos known : Int) (w : World) (h : SA rcdE w A n c l) :
    Calls Try.prog 26 #[.slice A n c, .int .i64 dev, .int .i64 pos, .int .i64 known] w (AtRet w l dev pos known) := by
  have C := rcheck_any A n c l w h
  have CF0 := fun (w' : World) (hb : Below w.heap.size w w') => rfind_any A n c l dev pos known w' (h.below hb)
  unfold rCells at CF0
  clear h
  by_cases hc : checkR l = 0
  · rw [hc] at C
    by_cases hk : AtOk dev pos known
    · have HR := Lib.hid (show atR l dev pos known = ((fOut (findS l dev pos known)).1, (fOut (findS l dev pos known)).2.1, (fOut (findS l dev pos known)).2.2, 0) by unfold atR; rw [if_neg (by omega), if_pos hk])
      rw [fOut_rZ] at HR
      obtain ⟨h1, h2, h3, h4, h5, h6⟩ := hk
      obtain ⟨r, hr⟩ : ∃ r, rZ (findS l dev pos known) = r := ⟨_, rfl⟩
      obtain ⟨fb, hfb⟩ : ∃ fb, (findS l dev pos known).isSome = fb := ⟨_, rfl⟩
      rw [hr, hfb] at HR CF0
      have CF := Lib.hid CF0
      clear hc hr hfb CF0
      obtain ⟨rd, rf, rk, ri, ro⟩ := r
      dsimp only at HR CF
      go_enter Try.func26, Try.ntmps26
      go_wp2_with (first
        | (go_at_call 32; ((with_reducible refine C.mono ?_); rintro e w1 ⟨rfl, hh1⟩))
        | (go_at_call 33; ((with_reducible refine (CF.out _ hh1).mono ?_); rintro e w2 ⟨rfl, hh2⟩)))
      go_quiet (fail)
      rename Nat => q
      go_wp2
      exact bodyPost_ret (v := .tuple #[.int .i64 ri, .int .i64 ro, .bool fb, .int .i64 0]) (by simp [results, Try.results26, go_sem]) rfl ⟨by rw [HR.out], below_drewN (Bel.al (Bel.on0 hh1 hh2) _) _⟩
    · have HR := Lib.hid (show atR l dev pos known = (0, 0, false, 1) by unfold atR; rw [if_neg (by omega), if_neg hk])
      have hc2 := not_atOk hk
      clear hk hc CF0
      rcases hc2 with h1 | ⟨h1, h2⟩ | ⟨h1, h2, h3⟩ | ⟨h1, h2, h3, h4⟩ | ⟨h1, h2, h3, h4, h5⟩ | ⟨h1, h2, h3, h4, h5, h6⟩
      all_goals
        go_enter Try.func26, Try.ntmps26
        go_wp2_with (go_at_call 32; ((with_reducible refine C.mono ?_); rintro e w1 ⟨rfl, hh1⟩))
        exact bodyPost_ret (v := .tuple #[.int .i64 0, .int .i64 0, .bool false, .int .i64 1]) (by simp [results, Try.results26, go_sem]) rfl ⟨by rw [HR.out], hh1⟩
  · have HR := Lib.hid (show atR l dev pos known = (0, 0, false, checkR l) by unfold atR; rw [if_pos hc])
    have hc1 : (checkR l != 0) = true := by simpa using hc
    obtain ⟨z, hz⟩ : ∃ z, checkR l = z := ⟨_, rfl⟩
    rw [hz] at HR C hc1
    clear hc hz CF0
    go_enter Try.func26, Try.ntmps26
    go_wp2_with (go_at_call 32; ((with_reducible refine C.mono ?_); rintro e w1 ⟨rfl, hh1⟩))
    exact bodyPost_ret (v := .tuple #[.int .i64 0, .int .i64 0, .bool false, .int .i64 z]) (by simp [results, Try.results26, go_sem]) rfl ⟨by rw [HR.out], hh1⟩
/-- What Again answers. -/
noncomputable def againR (r : List Rcd) (dev : Int) (l : List Spn) (st n known : Int) : List Ld × Int :=
  if (atR r dev st known).2.2.2 ≠ 0 then ([], (atR r dev st known).2.2.2) else if (atR r dev st known).2.2.1 = false then ([], 251) else layR l st n (atR r dev st known).1 (atR r dev st known).2.1
theorem againR_of {r : List Rcd} {dev : Int} {l : List Spn} {st n known ri ro rk : Int} {rb : Bool} (hx : atR r dev st known = (ri, ro, rb, rk)) :
    againR r dev l st n known = if rk ≠ 0 then ([], rk) else if rb = false then ([], 251) else layR l st n ri ro := by unfold againR; rw [hx]
def LaidRet (w : World) (x : List Ld × Int) (e : Ending) (w' : World) : Prop :=
  ∃ A' n' c', e = .returned (.tuple #[.slice A' n' c', .int .i64 x.2]) ∧ OA laidE w' w.heap.size A' n' c' x.1 ∧ Below w.heap.size w w'
theorem LaidRet.nil {w w' : World} {k : Int} (h : Below w.heap.size w w') : LaidRet w ([], k) (.returned (.tuple #[.slice none 0 0, .int .i64 k])) w' := ⟨none, 0, 0, rfl, OA.nil _ _ _, h⟩
set_option maxHeartbeats 1000000 in
theorem again_any (B : Option Addr) (m d : Nat) (r : List Rcd) (dev : Int) (A : Option Addr) (n c : Nat) (l : List Spn) (st nn known : Int) (w : World) (hr : SA rcdE w B m d r) (h : SA spanE w A n c l) :
    Calls Try.prog 13 #[.slice B m d, .int .i64 dev, .slice A n c, .int .i64 st, .int .i64 nn, .int .i64 known] w (LaidRet w (againR r dev l st nn known)) := by
  have C := at_any B m d r dev st known w hr
  have CL0 := fun (i o : Int) (w' : World) (hb : Below w.heap.size w w') => lay_any A n c l st nn i o w' (h.below hb)
  unfold AtRet at C
  unfold LayRet at CL0
  obtain ⟨⟨ri, ro, rb, rk⟩, hx⟩ : ∃ x, atR r dev st known = x := ⟨_, rfl⟩
  have HR := againR_of (l := l) (n := nn) hx
  rw [hx] at C
  dsimp only at C
  clear hx h hr
  have CL := Lib.hid (CL0 ri ro)
  clear CL0
  by_cases hk : rk = 0
  · subst hk
    rw [if_neg (by simp)] at HR
    cases rb with
    | false =>
      rw [if_pos rfl] at HR
      have HR2 := Lib.hid HR
      clear HR CL
      go_enter Try.func13, Try.ntmps13
      go_wp2_with (go_at_call 20; ((with_reducible refine C.mono ?_); rintro e w1 ⟨rfl, hh1⟩))
      go_ret2
      exact HR2.out ▸ LaidRet.nil hh1
    | true =>
      rw [if_neg (by simp)] at HR
      have HR2 := Lib.hid HR
      clear HR
      go_enter Try.func13, Try.ntmps13
      go_wp2_with (first
        | (go_at_call 20; ((with_reducible refine C.mono ?_); rintro e w1 ⟨rfl, hh1⟩))
        | (go_at_call 10; ((with_reducible refine (CL.out _ hh1).mono ?_); rintro e w2 ⟨A', n', c', rfl, ho, hh2⟩; have HO := Lib.hid ho; clear ho)))
      go_ret2
      exact ⟨A', n', c', by rw [HR2.out]; rfl, (by rw [HR2.out]; exact HO.out.mono hh1.size), Bel.on0 hh1 hh2⟩
  · rw [if_pos hk] at HR
    have HR2 := Lib.hid HR
    have hk1 : (rk != 0) = true := by simpa using hk
    clear HR CL hk
    go_enter Try.func13, Try.ntmps13
    go_wp2_with (go_at_call 20; ((with_reducible refine C.mono ?_); rintro e w1 ⟨rfl, hh1⟩))
    go_ret2
    exact HR2.out ▸ LaidRet.nil hh1
set_option maxHeartbeats 1000000 in
theorem ragain_any (B : Option Addr) (m d : Nat) (r : List Rcd) (dev : Int) (A : Option Addr) (n c : Nat) (l : List Spn) (st nn known : Int) (w : World) (hr : SA rcdE w B m d r) (h : SA spanE w A n c l) :
    Calls Try.prog 14 #[.slice B m d, .int .i64 dev, .slice A n c, .int .i64 st, .int .i64 nn, .int .i64 known] w (LaidRet w (againR r dev l st nn known)) := by
  have C := rat_any B m d r dev st known w hr
  have CL0 := fun (i o : Int) (w' : World) (hb : Below w.heap.size w w') => rlay_any A n c l st nn i o w' (h.below hb)
  unfold AtRet at C
  unfold LayRet at CL0
  obtain ⟨⟨ri, ro, rb, rk⟩, hx⟩ : ∃ x, atR r dev st known = x := ⟨_, rfl⟩
  have HR := againR_of (l := l) (n := nn) hx
  rw [hx] at C
  dsimp only at C
  clear hx h hr
  have CL := Lib.hid (CL0 ri ro)
  clear CL0
  by_cases hk : rk = 0
  · subst hk
    rw [if_neg (by simp)] at HR
    cases rb with
    | false =>
      rw [if_pos rfl] at HR
      have HR2 := Lib.hid HR
      clear HR CL
      go_enter Try.func14, Try.ntmps14
      go_wp2_with (go_at_call 26; ((with_reducible refine C.mono ?_); rintro e w1 ⟨rfl, hh1⟩))
      go_ret2
      exact HR2.out ▸ LaidRet.nil hh1
    | true =>
      rw [if_neg (by simp)] at HR
      have HR2 := Lib.hid HR
      clear HR
      go_enter Try.func14, Try.ntmps14
      go_wp2_with (first
        | (go_at_call 26; ((with_reducible refine C.mono ?_); rintro e w1 ⟨rfl, hh1⟩))
        | (go_at_call 11; ((with_reducible refine (CL.out _ hh1).mono ?_); rintro e w2 ⟨A', n', c', rfl, ho, hh2⟩; have HO := Lib.hid ho; clear ho)))
      go_ret2
      exact ⟨A', n', c', by rw [HR2.out]; rfl, (by rw [HR2.out]; exact HO.out.mono hh1.size), Bel.on0 hh1 hh2⟩
  · rw [if_pos hk] at HR
    have HR2 := Lib.hid HR
    have hk1 : (rk != 0) = true := by simpa using hk
    clear HR CL hk
    go_enter Try.func14, Try.ntmps14
    go_wp2_with (go_at_call 26; ((with_reducible refine C.mono ?_); rintro e w1 ⟨rfl, hh1⟩))
    go_ret2
    exact HR2.out ▸ LaidRet.nil hh1
end Go.Proofs.Yteconepbhajjeaa
