/- 'sane' of layer 44: its parts. -/
import Derived.Test.YteconepbhajjeaaCSame
import Derived.Test.YteconepbhajjeaaCalG
namespace Go.Proofs.Yteconepbhajjeaa
open Go.RowKit

theorem span_any (a b c : Int) (r : Bool) (w : World) : Calls Try.prog 22 #[.int .i64 a, .int .i64 b, .int .i64 c, .bool r] w fun e w' => e = .returned (.agg #[.int .i64 a, .int .i64 b, .int .i64 c, .bool true, .bool r]) ∧ Below w.heap.size w w' := by
  go_enter Try.func22, Try.ntmps22
  go_wp2
  exact bodyPost_ret (v := .agg #[.int .i64 a, .int .i64 b, .int .i64 c, .bool true, .bool r]) (by simp [results, Try.results22, go_sem]) rfl ⟨rfl, (Below.refl _ w).alloc (Nat.le_refl _) _⟩
/-- A slice of parts and a code are handed back. -/
def RetL (w : World) (r : List Ld) (k : Int) (e : Ending) (w' : World) : Prop :=
  ∃ A c, e = .returned (.tuple #[.slice A r.length c, .int .i64 k]) ∧ SA laidE w' A r.length c r ∧ Below w.heap.size w w'
theorem retL_of {w w' : World} {r : List Ld} {k : Int} {e : Ending} (h : ∃ A' n' c', e = .returned (.tuple #[.slice A' n' c', .int .i64 k]) ∧ OA laidE w' w.heap.size A' n' c' r ∧ Below w.heap.size w w') : RetL w r k e w' := by
  obtain ⟨A, n, c, rfl, ho, hb⟩ := h
  have := ho.n_eq
  subst this
  exact ⟨A, c, rfl, ho.sa, hb⟩
section
variable {A B : Option Addr} {n c nb cb : Nat} {l : List Spn} {r b : List Ld} {rc : List Rcd} {st m i o k dev known : Int} {w : World}
theorem lay_eqn (e : layR l st m i o = (r, k)) (h : SA spanE w A n c l) : Calls Try.prog 10 #[.slice A n c, .int .i64 st, .int .i64 m, .int .i64 i, .int .i64 o] w (RetL w r k) := by
  have := lay_any A n c l st m i o w h
  exact this.mono fun e' w' h' => retL_of (by unfold LayRet at h'; rw [e] at h'; exact h')
theorem rlay_eqn (e : layR l st m i o = (r, k)) (h : SA spanE w A n c l) : Calls Try.prog 11 #[.slice A n c, .int .i64 st, .int .i64 m, .int .i64 i, .int .i64 o] w (RetL w r k) := by
  have := rlay_any A n c l st m i o w h
  exact this.mono fun e' w' h' => retL_of (by unfold LayRet at h'; rw [e] at h'; exact h')
theorem again_eqn (e : againR rc dev l st m known = (r, k)) (hr : SA rcdE w B nb cb rc) (h : SA spanE w A n c l) : Calls Try.prog 13 #[.slice B nb cb, .int .i64 dev, .slice A n c, .int .i64 st, .int .i64 m, .int .i64 known] w (RetL w r k) := by
  have := again_any B nb cb rc dev A n c l st m known w hr h
  exact this.mono fun e' w' h' => retL_of (by unfold LaidRet at h'; rw [e] at h'; exact h')
theorem ragain_eqn (e : againR rc dev l st m known = (r, k)) (hr : SA rcdE w B nb cb rc) (h : SA spanE w A n c l) : Calls Try.prog 14 #[.slice B nb cb, .int .i64 dev, .slice A n c, .int .i64 st, .int .i64 m, .int .i64 known] w (RetL w r k) := by
  have := ragain_any B nb cb rc dev A n c l st m known w hr h
  exact this.mono fun e' w' h' => retL_of (by unfold LaidRet at h'; rw [e] at h'; exact h')
theorem rsame_eq (h : SA laidE w A n c r) (hb : SA laidE w B nb cb b) (e : r = b) : Calls Try.prog 12 #[.slice A n c, .slice B nb cb] w fun e w' => e = .returned (.bool true) ∧ Below w.heap.size w w' := by
  have := rsame_any A B n c nb cb r b w h hb; rw [decide_eq_true e] at this; exact this
end
theorem SA.on {α : Type} {e : Enc α} {w w' w'' : World} {A : Option Addr} {n c : Nat} {l : List α} (h : SA e w A n c l) (hb : Below w.heap.size w w') (hb2 : Below w'.heap.size w' w'') : SA e w'' A n c l := (h.below hb).below hb2
def sRecs : List Rcd := [⟨0, 0, 5, 2, 3⟩, ⟨0, 0, 9, 2, 2⟩]
theorem sRecs_ok : checkR sRecs = 0 := by
  refine checkR_yes (by simp [sRecs]) ?_
  intro i r hi hr
  have h2 : sRecs.length = 2 := rfl
  rw [h2] at hi
  have hc : i = 0 ∨ i = 1 := by omega
  rcases hc with rfl | rfl
  · simp only [sRecs, List.getElem?_cons_zero, Option.some.injEq] at hr
    subst hr
    exact ⟨by decide, fun j q hj => by omega⟩
  · simp only [sRecs, List.getElem?_cons_succ, List.getElem?_cons_zero, Option.some.injEq] at hr
    subst hr
    refine ⟨by decide, fun j q hj hq => ?_⟩
    obtain rfl : j = 0 := by omega
    simp only [sRecs, List.getElem?_cons_zero, Option.some.injEq] at hq
    subst hq
    decide
theorem sLay1 : layR [⟨100, 50, 0, true, true⟩] 103 10 2 3 = ([⟨2, 8, 0, 0⟩], 0) := by decide
theorem sLay2 : layR [⟨0, 4, 0, true, true⟩, ⟨4, 4, 0, true, true⟩] 0 8 0 0 = ([⟨0, 4, 0, 0⟩, ⟨4, 4, 0, 1⟩], 0) := by decide
theorem sLay3 : layR [⟨0, 4, 0, true, true⟩, ⟨4, 4, 0, true, true⟩] 1 8 1 0 = ([⟨0, 4, 0, 0⟩, ⟨4, 4, 0, 1⟩], 0) := by decide
theorem sLay4 : layR [⟨0, 4, 0, true, true⟩, ⟨4, 4, 4, true, true⟩] 0 8 0 0 = ([⟨0, 8, 0, 0⟩], 0) := by decide
theorem sLay5 : layR [⟨0, 4, 0, true, true⟩, ⟨4, 4, 4, true, false⟩] 0 8 0 0 = ([⟨0, 4, 0, 0⟩], 0) := by decide
theorem sLay6 : layR [] (-1) 8 0 0 = ([], 1) := by decide
theorem sAgain1 : againR sRecs 0 [⟨100, 50, 0, true, true⟩] 103 10 8 = ([⟨2, 8, 0, 0⟩], 0) := by
  have h : atR sRecs 0 103 8 = (2, 3, true, 0) := by
    unfold atR
    rw [if_neg (by rw [sRecs_ok]; simp), if_pos (by unfold AtOk; omega)]
    decide
  rw [againR_of h, if_neg (by simp), if_neg (by simp)]
  exact sLay1
theorem sAgain2 : againR sRecs 1 [] 103 10 8 = ([], 251) := by
  have h : atR sRecs 1 103 8 = (0, 0, false, 0) := by
    unfold atR
    rw [if_neg (by rw [sRecs_ok]; simp), if_pos (by unfold AtOk; omega)]
    decide
  rw [againR_of h, if_neg (by simp), if_pos rfl]
def dig7 (i : Nat) : Int := if i = 0 then 7 else 0
theorem sPlaces : placesR [⟨2, 8, 0, 0⟩] = ([⟨1, 0, 2, 8⟩], 0) := by
  unfold placesR
  rw [if_neg (by simp), if_pos (by decide)]
  rfl
end Go.Proofs.Yteconepbhajjeaa
