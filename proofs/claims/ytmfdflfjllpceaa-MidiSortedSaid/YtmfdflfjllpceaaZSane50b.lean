/- 'sane' of layer 50: the chapter's examples come out as they should. (Written by wip/mksane50.py.) -/
import Derived.Test.YtmfdflfjllpceaaZPlS
import Derived.Test.YtmfdflfjllpceaaZTmL
import Derived.Laws.StructEq
import Derived.Laws.Cover2
namespace Go.Proofs.Ytmfdflfjllpceaa
open Go.RowKit

/-- '==' of two pairs. -/
@[go_sem] theorem eqPair (a b c d : Int) (w : World) : (Op.equalIn 10000 36 (.agg #[.int .i64 a, .int .i64 b]) (.agg #[.int .i64 c, .int .i64 d])).run Try.prog w = .ok (a == c && b == d) w := by
  have u3 := Try.underlying3
  have a3 := Try.isAgg3
  have z3 := Try.sizeOf3
  rw [show (10000 : Nat) = 9999 + 1 from rfl, Op.equalIn]
  simp only [Sem.run_bind, run_underlying Try.underlying36, Result.andThen_ok]
  simp only [Std.Legacy.Range.forIn_eq_forIn_range', Std.Legacy.Range.size, Nat.sub_zero, Nat.add_sub_cancel, Nat.div_one, List.range'_succ, List.range'_zero, List.forIn_cons, List.forIn_nil]
  go_simp
  by_cases h1 : a = c <;> by_cases h2 : b = d <;> simp [h1, h2]
section
variable {A B : Option Addr} {n c n1 c1 : Nat} {l r : List Ev} {m : List Tm} {fr hi k : Int} {w : World} {x : List (Int × Int)}
theorem evI_dec {l : List Ev} (h : ∀ e ∈ l, ∀ z ∈ ekey e, -9223372036854775808 ≤ z ∧ z ≤ 9223372036854775807) : ∀ e ∈ l, EvI e := h
theorem sort_eq (e : msort l = r) (h : SA evE w A n c l) (hI : ∀ e ∈ l, ∀ z ∈ ekey e, -9223372036854775808 ≤ z ∧ z ≤ 9223372036854775807) (hm : n ≤ 34359738368 := by omega) :
    Calls Try.prog 15 #[.slice A n c] w fun e w' => ∃ A' c', e = .returned (.slice A' r.length c') ∧ SA evE w' A' r.length c' r ∧ Below w.heap.size w w' :=
  (sort_any A n c l w h (evI_dec hI) hm).mono fun _ _ ⟨A', n', c', he, ho, hb⟩ => by
    rw [e] at ho
    have := ho.n_eq
    subst this
    exact ⟨A', c', he, ho.sa, hb⟩
theorem eret_eq {ev : Ending} {w' : World} {q : List Ev × Int} (e : q = (r, k)) (h : ERet w q ev w') : ∃ A' c', ev = .returned (.tuple #[.slice A' r.length c', .int .i64 k]) ∧ SA evE w' A' r.length c' r ∧ Below w.heap.size w w' := by
  subst e
  obtain ⟨A', n', c', he, ho, hb⟩ := h
  have := ho.n_eq
  dsimp only at this he ho
  subst this
  exact ⟨A', c', he, ho, hb⟩
theorem slice_eq (e : sliceM l fr hi = (r, k)) (h : SA evE w A n c l) (hI : ∀ e ∈ l, ∀ z ∈ ekey e, -9223372036854775808 ≤ z ∧ z ≤ 9223372036854775807) (h1 : I64 fr) (h2 : I64 hi) :
    Calls Try.prog 21 #[.slice A n c, .int .i64 fr, .int .i64 hi] w fun e w' => ∃ A' c', e = .returned (.tuple #[.slice A' r.length c', .int .i64 k]) ∧ SA evE w' A' r.length c' r ∧ Below w.heap.size w w' :=
  (mslice_any A n c l fr hi w h (evI_dec hI) h1 h2).mono fun _ _ => eret_eq e
theorem res_eq (e : resM m l = (r, k)) (hT : SA tmE w B n1 c1 m) (h : SA evE w A n c l) (hI : ∀ e ∈ l, ∀ z ∈ ekey e, -9223372036854775808 ≤ z ∧ z ≤ 9223372036854775807) :
    Calls Try.prog 17 #[.slice B n1 c1, .slice A n c] w fun e w' => ∃ A' c', e = .returned (.tuple #[.slice A' r.length c', .int .i64 k]) ∧ SA evE w' A' r.length c' r ∧ Below w.heap.size w w' :=
  (mresolve_any B A n1 c1 n c m l w hT h (evI_dec hI)).mono fun _ _ => eret_eq e
theorem notes_eqn (hc : checkM l = 0) (e : notesM l = x) (h : SA evE w A n c l) (hI : ∀ e ∈ l, ∀ z ∈ ekey e, -9223372036854775808 ≤ z ∧ z ≤ 9223372036854775807) (hm : n ≤ 34359738368 := by omega) :
    Calls Try.prog 19 #[.slice A n c] w fun e w' => ∃ A' c', e = .returned (.tuple #[.slice A' x.length c', .int .i64 0]) ∧ SA noteE w' A' x.length c' x ∧ Below w.heap.size w w' :=
  (mnotes_any A n c l w h (evI_dec hI) hm).mono fun _ _ ⟨A', n', c', he, ho, hb⟩ => by
    rw [if_pos hc, e] at ho
    rw [hc] at he
    have := ho.n_eq
    subst this
    exact ⟨A', c', he, ho, hb⟩
theorem check_eq (e : checkM l = k) (h : SA evE w A n c l) : Calls Try.prog 12 #[.slice A n c] w fun e w' => e = .returned (.int .i64 k) ∧ Below w.heap.size w w' := by
  have := mcheck_any A n c l w h
  rwa [e] at this
theorem same_eq (h : SA evE w A n c l) (hb : SA evE w B n1 c1 r) (e : l = r) : Calls Try.prog 14 #[.slice A n c, .slice B n1 c1] w fun e w' => e = .returned (.bool true) ∧ Below w.heap.size w w' := by
  have := rsame_any A B n c n1 c1 l r w h hb; rw [decide_eq_true e] at this; exact this
end
set_option maxHeartbeats 4000000 in
set_option maxRecDepth 100000 in
theorem sane50_any (w : World) : Calls Try.prog 10 #[] w fun e w' => e = .returned (.bool true) ∧ Below w.heap.size w w' := by
  go_enter Try.func10, Try.ntmps10
  have hB := Below.refl w.heap.size w
  replace hB := Bel.al hB (.cells #[.int .i64 5, .int .i64 3, .int .i64 0, .int .i64 60, .int .i64 100, .int .i64 7] 40)
  have bon : Blk (w.alloc (.cells #[.int .i64 5, .int .i64 3, .int .i64 0, .int .i64 60, .int .i64 100, .int .i64 7] 40)) _ 40 #[.int .i64 5, .int .i64 3, .int .i64 0, .int .i64 60, .int .i64 100, .int .i64 7] := Blk.new w 40 #[.int .i64 5, .int .i64 3, .int .i64 0, .int .i64 60, .int .i64 100, .int .i64 7]
  replace bon := bon.alloc (.cells #[.int .i64 15, .int .i64 1, .int .i64 0, .int .i64 60, .int .i64 0, .int .i64 0] 40)
  replace hB := Bel.al hB (.cells #[.int .i64 15, .int .i64 1, .int .i64 0, .int .i64 60, .int .i64 0, .int .i64 0] 40)
  have boff : Blk ((w.alloc (.cells #[.int .i64 5, .int .i64 3, .int .i64 0, .int .i64 60, .int .i64 100, .int .i64 7] 40)).alloc (.cells #[.int .i64 15, .int .i64 1, .int .i64 0, .int .i64 60, .int .i64 0, .int .i64 0] 40)) _ 40 #[.int .i64 15, .int .i64 1, .int .i64 0, .int .i64 60, .int .i64 0, .int .i64 0] := Blk.new (w.alloc (.cells #[.int .i64 5, .int .i64 3, .int .i64 0, .int .i64 60, .int .i64 100, .int .i64 7] 40)) 40 #[.int .i64 15, .int .i64 1, .int .i64 0, .int .i64 60, .int .i64 0, .int .i64 0]
  replace bon := bon.alloc (.cells #[.int .i64 5, .int .i64 1, .int .i64 0, .int .i64 60, .int .i64 0, .int .i64 0] 40)
  replace boff := boff.alloc (.cells #[.int .i64 5, .int .i64 1, .int .i64 0, .int .i64 60, .int .i64 0, .int .i64 0] 40)
  replace hB := Bel.al hB (.cells #[.int .i64 5, .int .i64 1, .int .i64 0, .int .i64 60, .int .i64 0, .int .i64 0] 40)
  have bea : Blk (((w.alloc (.cells #[.int .i64 5, .int .i64 3, .int .i64 0, .int .i64 60, .int .i64 100, .int .i64 7] 40)).alloc (.cells #[.int .i64 15, .int .i64 1, .int .i64 0, .int .i64 60, .int .i64 0, .int .i64 0] 40)).alloc (.cells #[.int .i64 5, .int .i64 1, .int .i64 0, .int .i64 60, .int .i64 0, .int .i64 0] 40)) _ 40 #[.int .i64 5, .int .i64 1, .int .i64 0, .int .i64 60, .int .i64 0, .int .i64 0] := Blk.new ((w.alloc (.cells #[.int .i64 5, .int .i64 3, .int .i64 0, .int .i64 60, .int .i64 100, .int .i64 7] 40)).alloc (.cells #[.int .i64 15, .int .i64 1, .int .i64 0, .int .i64 60, .int .i64 0, .int .i64 0] 40)) 40 #[.int .i64 5, .int .i64 1, .int .i64 0, .int .i64 60, .int .i64 0, .int .i64 0]
  try simp only [World.size_alloc] at bon
  try simp only [World.size_alloc] at boff
  try simp only [World.size_alloc] at bea
  have hx := SA.lit (e := evE) (l := [xOn, xEarly]) (n := 2) (cs := #[.int .i64 5, .int .i64 3, .int .i64 0, .int .i64 60, .int .i64 100, .int .i64 7, .int .i64 5, .int .i64 1, .int .i64 0, .int .i64 60, .int .i64 0, .int .i64 0]) (((w.alloc (.cells #[.int .i64 5, .int .i64 3, .int .i64 0, .int .i64 60, .int .i64 100, .int .i64 7] 40)).alloc (.cells #[.int .i64 15, .int .i64 1, .int .i64 0, .int .i64 60, .int .i64 0, .int .i64 0] 40)).alloc (.cells #[.int .i64 5, .int .i64 1, .int .i64 0, .int .i64 60, .int .i64 0, .int .i64 0] 40)) rfl rfl (by omega)
  replace bon := bon.alloc (.cells #[.int .i64 5, .int .i64 3, .int .i64 0, .int .i64 60, .int .i64 100, .int .i64 7, .int .i64 5, .int .i64 1, .int .i64 0, .int .i64 60, .int .i64 0, .int .i64 0] 40)
  replace boff := boff.alloc (.cells #[.int .i64 5, .int .i64 3, .int .i64 0, .int .i64 60, .int .i64 100, .int .i64 7, .int .i64 5, .int .i64 1, .int .i64 0, .int .i64 60, .int .i64 0, .int .i64 0] 40)
  replace bea := bea.alloc (.cells #[.int .i64 5, .int .i64 3, .int .i64 0, .int .i64 60, .int .i64 100, .int .i64 7, .int .i64 5, .int .i64 1, .int .i64 0, .int .i64 60, .int .i64 0, .int .i64 0] 40)
  replace hB := Bel.al hB (.cells #[.int .i64 5, .int .i64 3, .int .i64 0, .int .i64 60, .int .i64 100, .int .i64 7, .int .i64 5, .int .i64 1, .int .i64 0, .int .i64 60, .int .i64 0, .int .i64 0] 40)
  try simp only [World.size_alloc] at hx
  go_wp2_with fail
  refine (sort_eq sSort hx (by decide)).mono ?_
  rintro e w1 ⟨As, cs, rfl, hs, hbe⟩
  clear hx
  replace bon := bon.belowAll hbe
  replace boff := boff.belowAll hbe
  replace bea := bea.belowAll hbe
  replace hB := Bel.on0 hB hbe
  clear hbe
  have on0 : w1.cell? ⟨w.heap.size, 0, none⟩ = some (.int .i64 5)   := bon.cell 0
  have on1 : w1.cell? ⟨w.heap.size, 1, none⟩ = some (.int .i64 3)   := bon.cell 1
  have on2 : w1.cell? ⟨w.heap.size, 2, none⟩ = some (.int .i64 0)   := bon.cell 2
  have on3 : w1.cell? ⟨w.heap.size, 3, none⟩ = some (.int .i64 60)   := bon.cell 3
  have on4 : w1.cell? ⟨w.heap.size, 4, none⟩ = some (.int .i64 100)   := bon.cell 4
  have on5 : w1.cell? ⟨w.heap.size, 5, none⟩ = some (.int .i64 7)   := bon.cell 5
  have off0 : w1.cell? ⟨w.heap.size + 1, 0, none⟩ = some (.int .i64 15)   := boff.cell 0
  have off1 : w1.cell? ⟨w.heap.size + 1, 1, none⟩ = some (.int .i64 1)   := boff.cell 1
  have off2 : w1.cell? ⟨w.heap.size + 1, 2, none⟩ = some (.int .i64 0)   := boff.cell 2
  have off3 : w1.cell? ⟨w.heap.size + 1, 3, none⟩ = some (.int .i64 60)   := boff.cell 3
  have off4 : w1.cell? ⟨w.heap.size + 1, 4, none⟩ = some (.int .i64 0)   := boff.cell 4
  have off5 : w1.cell? ⟨w.heap.size + 1, 5, none⟩ = some (.int .i64 0)   := boff.cell 5
  have ea0 : w1.cell? ⟨w.heap.size + 1 + 1, 0, none⟩ = some (.int .i64 5)   := bea.cell 0
  have ea1 : w1.cell? ⟨w.heap.size + 1 + 1, 1, none⟩ = some (.int .i64 1)   := bea.cell 1
  have ea2 : w1.cell? ⟨w.heap.size + 1 + 1, 2, none⟩ = some (.int .i64 0)   := bea.cell 2
  have ea3 : w1.cell? ⟨w.heap.size + 1 + 1, 3, none⟩ = some (.int .i64 60)   := bea.cell 3
  have ea4 : w1.cell? ⟨w.heap.size + 1 + 1, 4, none⟩ = some (.int .i64 0)   := bea.cell 4
  have ea5 : w1.cell? ⟨w.heap.size + 1 + 1, 5, none⟩ = some (.int .i64 0)   := bea.cell 5
  replace hs := hs.alloc (.cells #[.int .i64 8, .int .i64 3, .int .i64 0, .int .i64 60, .int .i64 100, .int .i64 7] 40)
  replace bon := bon.alloc (.cells #[.int .i64 8, .int .i64 3, .int .i64 0, .int .i64 60, .int .i64 100, .int .i64 7] 40)
  replace boff := boff.alloc (.cells #[.int .i64 8, .int .i64 3, .int .i64 0, .int .i64 60, .int .i64 100, .int .i64 7] 40)
  replace bea := bea.alloc (.cells #[.int .i64 8, .int .i64 3, .int .i64 0, .int .i64 60, .int .i64 100, .int .i64 7] 40)
  replace hB := Bel.al hB (.cells #[.int .i64 8, .int .i64 3, .int .i64 0, .int .i64 60, .int .i64 100, .int .i64 7] 40)
  have bsec : Blk (w1.alloc (.cells #[.int .i64 8, .int .i64 3, .int .i64 0, .int .i64 60, .int .i64 100, .int .i64 7] 40)) _ 40 #[.int .i64 8, .int .i64 3, .int .i64 0, .int .i64 60, .int .i64 100, .int .i64 7] := Blk.new w1 40 #[.int .i64 8, .int .i64 3, .int .i64 0, .int .i64 60, .int .i64 100, .int .i64 7]
  have onx0 : (w1.alloc (.cells #[.int .i64 8, .int .i64 3, .int .i64 0, .int .i64 60, .int .i64 100, .int .i64 7] 40)).cell? ⟨w.heap.size, 0, none⟩ = some (.int .i64 5)   := bon.cell 0
  have onx1 : (w1.alloc (.cells #[.int .i64 8, .int .i64 3, .int .i64 0, .int .i64 60, .int .i64 100, .int .i64 7] 40)).cell? ⟨w.heap.size, 1, none⟩ = some (.int .i64 3)   := bon.cell 1
  have onx2 : (w1.alloc (.cells #[.int .i64 8, .int .i64 3, .int .i64 0, .int .i64 60, .int .i64 100, .int .i64 7] 40)).cell? ⟨w.heap.size, 2, none⟩ = some (.int .i64 0)   := bon.cell 2
  have onx3 : (w1.alloc (.cells #[.int .i64 8, .int .i64 3, .int .i64 0, .int .i64 60, .int .i64 100, .int .i64 7] 40)).cell? ⟨w.heap.size, 3, none⟩ = some (.int .i64 60)   := bon.cell 3
  have onx4 : (w1.alloc (.cells #[.int .i64 8, .int .i64 3, .int .i64 0, .int .i64 60, .int .i64 100, .int .i64 7] 40)).cell? ⟨w.heap.size, 4, none⟩ = some (.int .i64 100)   := bon.cell 4
  have onx5 : (w1.alloc (.cells #[.int .i64 8, .int .i64 3, .int .i64 0, .int .i64 60, .int .i64 100, .int .i64 7] 40)).cell? ⟨w.heap.size, 5, none⟩ = some (.int .i64 7)   := bon.cell 5
  have offx0 : (w1.alloc (.cells #[.int .i64 8, .int .i64 3, .int .i64 0, .int .i64 60, .int .i64 100, .int .i64 7] 40)).cell? ⟨w.heap.size + 1, 0, none⟩ = some (.int .i64 15)   := boff.cell 0
  have offx1 : (w1.alloc (.cells #[.int .i64 8, .int .i64 3, .int .i64 0, .int .i64 60, .int .i64 100, .int .i64 7] 40)).cell? ⟨w.heap.size + 1, 1, none⟩ = some (.int .i64 1)   := boff.cell 1
  have offx2 : (w1.alloc (.cells #[.int .i64 8, .int .i64 3, .int .i64 0, .int .i64 60, .int .i64 100, .int .i64 7] 40)).cell? ⟨w.heap.size + 1, 2, none⟩ = some (.int .i64 0)   := boff.cell 2
  have offx3 : (w1.alloc (.cells #[.int .i64 8, .int .i64 3, .int .i64 0, .int .i64 60, .int .i64 100, .int .i64 7] 40)).cell? ⟨w.heap.size + 1, 3, none⟩ = some (.int .i64 60)   := boff.cell 3
  have offx4 : (w1.alloc (.cells #[.int .i64 8, .int .i64 3, .int .i64 0, .int .i64 60, .int .i64 100, .int .i64 7] 40)).cell? ⟨w.heap.size + 1, 4, none⟩ = some (.int .i64 0)   := boff.cell 4
  have offx5 : (w1.alloc (.cells #[.int .i64 8, .int .i64 3, .int .i64 0, .int .i64 60, .int .i64 100, .int .i64 7] 40)).cell? ⟨w.heap.size + 1, 5, none⟩ = some (.int .i64 0)   := boff.cell 5
  have eax0 : (w1.alloc (.cells #[.int .i64 8, .int .i64 3, .int .i64 0, .int .i64 60, .int .i64 100, .int .i64 7] 40)).cell? ⟨w.heap.size + 1 + 1, 0, none⟩ = some (.int .i64 5)   := bea.cell 0
  have eax1 : (w1.alloc (.cells #[.int .i64 8, .int .i64 3, .int .i64 0, .int .i64 60, .int .i64 100, .int .i64 7] 40)).cell? ⟨w.heap.size + 1 + 1, 1, none⟩ = some (.int .i64 1)   := bea.cell 1
  have eax2 : (w1.alloc (.cells #[.int .i64 8, .int .i64 3, .int .i64 0, .int .i64 60, .int .i64 100, .int .i64 7] 40)).cell? ⟨w.heap.size + 1 + 1, 2, none⟩ = some (.int .i64 0)   := bea.cell 2
  have eax3 : (w1.alloc (.cells #[.int .i64 8, .int .i64 3, .int .i64 0, .int .i64 60, .int .i64 100, .int .i64 7] 40)).cell? ⟨w.heap.size + 1 + 1, 3, none⟩ = some (.int .i64 60)   := bea.cell 3
  have eax4 : (w1.alloc (.cells #[.int .i64 8, .int .i64 3, .int .i64 0, .int .i64 60, .int .i64 100, .int .i64 7] 40)).cell? ⟨w.heap.size + 1 + 1, 4, none⟩ = some (.int .i64 0)   := bea.cell 4
  have eax5 : (w1.alloc (.cells #[.int .i64 8, .int .i64 3, .int .i64 0, .int .i64 60, .int .i64 100, .int .i64 7] 40)).cell? ⟨w.heap.size + 1 + 1, 5, none⟩ = some (.int .i64 0)   := bea.cell 5
  have secx0 : (w1.alloc (.cells #[.int .i64 8, .int .i64 3, .int .i64 0, .int .i64 60, .int .i64 100, .int .i64 7] 40)).cell? ⟨w1.heap.size, 0, none⟩ = some (.int .i64 8)   := bsec.cell 0
  have secx1 : (w1.alloc (.cells #[.int .i64 8, .int .i64 3, .int .i64 0, .int .i64 60, .int .i64 100, .int .i64 7] 40)).cell? ⟨w1.heap.size, 1, none⟩ = some (.int .i64 3)   := bsec.cell 1
  have secx2 : (w1.alloc (.cells #[.int .i64 8, .int .i64 3, .int .i64 0, .int .i64 60, .int .i64 100, .int .i64 7] 40)).cell? ⟨w1.heap.size, 2, none⟩ = some (.int .i64 0)   := bsec.cell 2
  have secx3 : (w1.alloc (.cells #[.int .i64 8, .int .i64 3, .int .i64 0, .int .i64 60, .int .i64 100, .int .i64 7] 40)).cell? ⟨w1.heap.size, 3, none⟩ = some (.int .i64 60)   := bsec.cell 3
  have secx4 : (w1.alloc (.cells #[.int .i64 8, .int .i64 3, .int .i64 0, .int .i64 60, .int .i64 100, .int .i64 7] 40)).cell? ⟨w1.heap.size, 4, none⟩ = some (.int .i64 100)   := bsec.cell 4
  have secx5 : (w1.alloc (.cells #[.int .i64 8, .int .i64 3, .int .i64 0, .int .i64 60, .int .i64 100, .int .i64 7] 40)).cell? ⟨w1.heap.size, 5, none⟩ = some (.int .i64 7)   := bsec.cell 5
  have hx := SA.lit (e := evE) (l := [xOn, xSec, xOff]) (n := 3) (cs := #[.int .i64 5, .int .i64 3, .int .i64 0, .int .i64 60, .int .i64 100, .int .i64 7, .int .i64 8, .int .i64 3, .int .i64 0, .int .i64 60, .int .i64 100, .int .i64 7, .int .i64 15, .int .i64 1, .int .i64 0, .int .i64 60, .int .i64 0, .int .i64 0]) (w1.alloc (.cells #[.int .i64 8, .int .i64 3, .int .i64 0, .int .i64 60, .int .i64 100, .int .i64 7] 40)) rfl rfl (by omega)
  replace hs := hs.alloc (.cells #[.int .i64 5, .int .i64 3, .int .i64 0, .int .i64 60, .int .i64 100, .int .i64 7, .int .i64 8, .int .i64 3, .int .i64 0, .int .i64 60, .int .i64 100, .int .i64 7, .int .i64 15, .int .i64 1, .int .i64 0, .int .i64 60, .int .i64 0, .int .i64 0] 40)
  replace bon := bon.alloc (.cells #[.int .i64 5, .int .i64 3, .int .i64 0, .int .i64 60, .int .i64 100, .int .i64 7, .int .i64 8, .int .i64 3, .int .i64 0, .int .i64 60, .int .i64 100, .int .i64 7, .int .i64 15, .int .i64 1, .int .i64 0, .int .i64 60, .int .i64 0, .int .i64 0] 40)
  replace boff := boff.alloc (.cells #[.int .i64 5, .int .i64 3, .int .i64 0, .int .i64 60, .int .i64 100, .int .i64 7, .int .i64 8, .int .i64 3, .int .i64 0, .int .i64 60, .int .i64 100, .int .i64 7, .int .i64 15, .int .i64 1, .int .i64 0, .int .i64 60, .int .i64 0, .int .i64 0] 40)
  replace bea := bea.alloc (.cells #[.int .i64 5, .int .i64 3, .int .i64 0, .int .i64 60, .int .i64 100, .int .i64 7, .int .i64 8, .int .i64 3, .int .i64 0, .int .i64 60, .int .i64 100, .int .i64 7, .int .i64 15, .int .i64 1, .int .i64 0, .int .i64 60, .int .i64 0, .int .i64 0] 40)
  replace bsec := bsec.alloc (.cells #[.int .i64 5, .int .i64 3, .int .i64 0, .int .i64 60, .int .i64 100, .int .i64 7, .int .i64 8, .int .i64 3, .int .i64 0, .int .i64 60, .int .i64 100, .int .i64 7, .int .i64 15, .int .i64 1, .int .i64 0, .int .i64 60, .int .i64 0, .int .i64 0] 40)
  replace hB := Bel.al hB (.cells #[.int .i64 5, .int .i64 3, .int .i64 0, .int .i64 60, .int .i64 100, .int .i64 7, .int .i64 8, .int .i64 3, .int .i64 0, .int .i64 60, .int .i64 100, .int .i64 7, .int .i64 15, .int .i64 1, .int .i64 0, .int .i64 60, .int .i64 0, .int .i64 0] 40)
  try simp only [World.size_alloc] at hx
  go_wp2_with fail
  refine (notes_eqn sChk4 sNotes hx (by decide)).mono ?_
  rintro e w2 ⟨An, cn, rfl, hn, hbe⟩
  clear hx
  clear bsec secx0 secx1 secx2 secx3 secx4 secx5
  replace hs := hs.below hbe
  replace bon := bon.belowAll hbe
  replace boff := boff.belowAll hbe
  replace bea := bea.belowAll hbe
  replace hB := Bel.on0 hB hbe
  clear hbe
  replace on0 : w2.cell? ⟨w.heap.size, 0, none⟩ = some (.int .i64 5)   := bon.cell 0
  replace on1 : w2.cell? ⟨w.heap.size, 1, none⟩ = some (.int .i64 3)   := bon.cell 1
  replace on2 : w2.cell? ⟨w.heap.size, 2, none⟩ = some (.int .i64 0)   := bon.cell 2
  replace on3 : w2.cell? ⟨w.heap.size, 3, none⟩ = some (.int .i64 60)   := bon.cell 3
  replace on4 : w2.cell? ⟨w.heap.size, 4, none⟩ = some (.int .i64 100)   := bon.cell 4
  replace on5 : w2.cell? ⟨w.heap.size, 5, none⟩ = some (.int .i64 7)   := bon.cell 5
  replace off0 : w2.cell? ⟨w.heap.size + 1, 0, none⟩ = some (.int .i64 15)   := boff.cell 0
  replace off1 : w2.cell? ⟨w.heap.size + 1, 1, none⟩ = some (.int .i64 1)   := boff.cell 1
  replace off2 : w2.cell? ⟨w.heap.size + 1, 2, none⟩ = some (.int .i64 0)   := boff.cell 2
  replace off3 : w2.cell? ⟨w.heap.size + 1, 3, none⟩ = some (.int .i64 60)   := boff.cell 3
  replace off4 : w2.cell? ⟨w.heap.size + 1, 4, none⟩ = some (.int .i64 0)   := boff.cell 4
  replace off5 : w2.cell? ⟨w.heap.size + 1, 5, none⟩ = some (.int .i64 0)   := boff.cell 5
  replace ea0 : w2.cell? ⟨w.heap.size + 1 + 1, 0, none⟩ = some (.int .i64 5)   := bea.cell 0
  replace ea1 : w2.cell? ⟨w.heap.size + 1 + 1, 1, none⟩ = some (.int .i64 1)   := bea.cell 1
  replace ea2 : w2.cell? ⟨w.heap.size + 1 + 1, 2, none⟩ = some (.int .i64 0)   := bea.cell 2
  replace ea3 : w2.cell? ⟨w.heap.size + 1 + 1, 3, none⟩ = some (.int .i64 60)   := bea.cell 3
  replace ea4 : w2.cell? ⟨w.heap.size + 1 + 1, 4, none⟩ = some (.int .i64 0)   := bea.cell 4
  replace ea5 : w2.cell? ⟨w.heap.size + 1 + 1, 5, none⟩ = some (.int .i64 0)   := bea.cell 5
  dsimp only [List.length_cons, List.length_nil, Nat.reduceAdd] at hn ⊢
  go_wp2_with fail
  refine (notes_eqn sChk0 sNotes0 SA.nil (by simp)).mono ?_
  rintro e w3 ⟨Az, cz, rfl, hz, hbe⟩
  clear hz
  replace hs := hs.below hbe
  replace hn := hn.below hbe
  replace bon := bon.belowAll hbe
  replace boff := boff.belowAll hbe
  replace bea := bea.belowAll hbe
  replace hB := Bel.on0 hB hbe
  clear hbe
  replace on0 : w3.cell? ⟨w.heap.size, 0, none⟩ = some (.int .i64 5)   := bon.cell 0
  replace on1 : w3.cell? ⟨w.heap.size, 1, none⟩ = some (.int .i64 3)   := bon.cell 1
  replace on2 : w3.cell? ⟨w.heap.size, 2, none⟩ = some (.int .i64 0)   := bon.cell 2
  replace on3 : w3.cell? ⟨w.heap.size, 3, none⟩ = some (.int .i64 60)   := bon.cell 3
  replace on4 : w3.cell? ⟨w.heap.size, 4, none⟩ = some (.int .i64 100)   := bon.cell 4
  replace on5 : w3.cell? ⟨w.heap.size, 5, none⟩ = some (.int .i64 7)   := bon.cell 5
  replace off0 : w3.cell? ⟨w.heap.size + 1, 0, none⟩ = some (.int .i64 15)   := boff.cell 0
  replace off1 : w3.cell? ⟨w.heap.size + 1, 1, none⟩ = some (.int .i64 1)   := boff.cell 1
  replace off2 : w3.cell? ⟨w.heap.size + 1, 2, none⟩ = some (.int .i64 0)   := boff.cell 2
  replace off3 : w3.cell? ⟨w.heap.size + 1, 3, none⟩ = some (.int .i64 60)   := boff.cell 3
  replace off4 : w3.cell? ⟨w.heap.size + 1, 4, none⟩ = some (.int .i64 0)   := boff.cell 4
  replace off5 : w3.cell? ⟨w.heap.size + 1, 5, none⟩ = some (.int .i64 0)   := boff.cell 5
  replace ea0 : w3.cell? ⟨w.heap.size + 1 + 1, 0, none⟩ = some (.int .i64 5)   := bea.cell 0
  replace ea1 : w3.cell? ⟨w.heap.size + 1 + 1, 1, none⟩ = some (.int .i64 1)   := bea.cell 1
  replace ea2 : w3.cell? ⟨w.heap.size + 1 + 1, 2, none⟩ = some (.int .i64 0)   := bea.cell 2
  replace ea3 : w3.cell? ⟨w.heap.size + 1 + 1, 3, none⟩ = some (.int .i64 60)   := bea.cell 3
  replace ea4 : w3.cell? ⟨w.heap.size + 1 + 1, 4, none⟩ = some (.int .i64 0)   := bea.cell 4
  replace ea5 : w3.cell? ⟨w.heap.size + 1 + 1, 5, none⟩ = some (.int .i64 0)   := bea.cell 5
  dsimp only [List.length_nil]
  have hx := SA.lit (e := evE) (l := [xOn, xOff]) (n := 2) (cs := #[.int .i64 5, .int .i64 3, .int .i64 0, .int .i64 60, .int .i64 100, .int .i64 7, .int .i64 15, .int .i64 1, .int .i64 0, .int .i64 60, .int .i64 0, .int .i64 0]) w3 rfl rfl (by omega)
  replace hs := hs.alloc (.cells #[.int .i64 5, .int .i64 3, .int .i64 0, .int .i64 60, .int .i64 100, .int .i64 7, .int .i64 15, .int .i64 1, .int .i64 0, .int .i64 60, .int .i64 0, .int .i64 0] 40)
  replace hn := hn.alloc (.cells #[.int .i64 5, .int .i64 3, .int .i64 0, .int .i64 60, .int .i64 100, .int .i64 7, .int .i64 15, .int .i64 1, .int .i64 0, .int .i64 60, .int .i64 0, .int .i64 0] 40)
  replace bon := bon.alloc (.cells #[.int .i64 5, .int .i64 3, .int .i64 0, .int .i64 60, .int .i64 100, .int .i64 7, .int .i64 15, .int .i64 1, .int .i64 0, .int .i64 60, .int .i64 0, .int .i64 0] 40)
  replace boff := boff.alloc (.cells #[.int .i64 5, .int .i64 3, .int .i64 0, .int .i64 60, .int .i64 100, .int .i64 7, .int .i64 15, .int .i64 1, .int .i64 0, .int .i64 60, .int .i64 0, .int .i64 0] 40)
  replace bea := bea.alloc (.cells #[.int .i64 5, .int .i64 3, .int .i64 0, .int .i64 60, .int .i64 100, .int .i64 7, .int .i64 15, .int .i64 1, .int .i64 0, .int .i64 60, .int .i64 0, .int .i64 0] 40)
  replace hB := Bel.al hB (.cells #[.int .i64 5, .int .i64 3, .int .i64 0, .int .i64 60, .int .i64 100, .int .i64 7, .int .i64 15, .int .i64 1, .int .i64 0, .int .i64 60, .int .i64 0, .int .i64 0] 40)
  go_wp2_with fail
  refine (slice_eq sSlice hx (by decide) (by unfold I64; omega) (by unfold I64; omega)).mono ?_
  rintro e w4 ⟨Ac, cc, rfl, hc, hbe⟩
  clear hx
  replace hs := hs.below hbe
  replace hn := hn.below hbe
  replace bon := bon.belowAll hbe
  replace boff := boff.belowAll hbe
  replace bea := bea.belowAll hbe
  replace hB := Bel.on0 hB hbe
  clear hbe
  replace on0 : w4.cell? ⟨w.heap.size, 0, none⟩ = some (.int .i64 5)   := bon.cell 0
  replace on1 : w4.cell? ⟨w.heap.size, 1, none⟩ = some (.int .i64 3)   := bon.cell 1
  replace on2 : w4.cell? ⟨w.heap.size, 2, none⟩ = some (.int .i64 0)   := bon.cell 2
  replace on3 : w4.cell? ⟨w.heap.size, 3, none⟩ = some (.int .i64 60)   := bon.cell 3
  replace on4 : w4.cell? ⟨w.heap.size, 4, none⟩ = some (.int .i64 100)   := bon.cell 4
  replace on5 : w4.cell? ⟨w.heap.size, 5, none⟩ = some (.int .i64 7)   := bon.cell 5
  replace off0 : w4.cell? ⟨w.heap.size + 1, 0, none⟩ = some (.int .i64 15)   := boff.cell 0
  replace off1 : w4.cell? ⟨w.heap.size + 1, 1, none⟩ = some (.int .i64 1)   := boff.cell 1
  replace off2 : w4.cell? ⟨w.heap.size + 1, 2, none⟩ = some (.int .i64 0)   := boff.cell 2
  replace off3 : w4.cell? ⟨w.heap.size + 1, 3, none⟩ = some (.int .i64 60)   := boff.cell 3
  replace off4 : w4.cell? ⟨w.heap.size + 1, 4, none⟩ = some (.int .i64 0)   := boff.cell 4
  replace off5 : w4.cell? ⟨w.heap.size + 1, 5, none⟩ = some (.int .i64 0)   := boff.cell 5
  replace ea0 : w4.cell? ⟨w.heap.size + 1 + 1, 0, none⟩ = some (.int .i64 5)   := bea.cell 0
  replace ea1 : w4.cell? ⟨w.heap.size + 1 + 1, 1, none⟩ = some (.int .i64 1)   := bea.cell 1
  replace ea2 : w4.cell? ⟨w.heap.size + 1 + 1, 2, none⟩ = some (.int .i64 0)   := bea.cell 2
  replace ea3 : w4.cell? ⟨w.heap.size + 1 + 1, 3, none⟩ = some (.int .i64 60)   := bea.cell 3
  replace ea4 : w4.cell? ⟨w.heap.size + 1 + 1, 4, none⟩ = some (.int .i64 0)   := bea.cell 4
  replace ea5 : w4.cell? ⟨w.heap.size + 1 + 1, 5, none⟩ = some (.int .i64 0)   := bea.cell 5
  go_wp2_with fail
  refine (slice_eq sSlice0 SA.nil (by simp) (by unfold I64; omega) (by unfold I64; omega)).mono ?_
  rintro e w5 ⟨Ay, cy, rfl, hy, hbe⟩
  clear hy
  replace hs := hs.below hbe
  replace hn := hn.below hbe
  replace hc := hc.below hbe
  replace bon := bon.belowAll hbe
  replace boff := boff.belowAll hbe
  replace bea := bea.belowAll hbe
  replace hB := Bel.on0 hB hbe
  clear hbe
  replace on0 : w5.cell? ⟨w.heap.size, 0, none⟩ = some (.int .i64 5)   := bon.cell 0
  replace on1 : w5.cell? ⟨w.heap.size, 1, none⟩ = some (.int .i64 3)   := bon.cell 1
  replace on2 : w5.cell? ⟨w.heap.size, 2, none⟩ = some (.int .i64 0)   := bon.cell 2
  replace on3 : w5.cell? ⟨w.heap.size, 3, none⟩ = some (.int .i64 60)   := bon.cell 3
  replace on4 : w5.cell? ⟨w.heap.size, 4, none⟩ = some (.int .i64 100)   := bon.cell 4
  replace on5 : w5.cell? ⟨w.heap.size, 5, none⟩ = some (.int .i64 7)   := bon.cell 5
  replace off0 : w5.cell? ⟨w.heap.size + 1, 0, none⟩ = some (.int .i64 15)   := boff.cell 0
  replace off1 : w5.cell? ⟨w.heap.size + 1, 1, none⟩ = some (.int .i64 1)   := boff.cell 1
  replace off2 : w5.cell? ⟨w.heap.size + 1, 2, none⟩ = some (.int .i64 0)   := boff.cell 2
  replace off3 : w5.cell? ⟨w.heap.size + 1, 3, none⟩ = some (.int .i64 60)   := boff.cell 3
  replace off4 : w5.cell? ⟨w.heap.size + 1, 4, none⟩ = some (.int .i64 0)   := boff.cell 4
  replace off5 : w5.cell? ⟨w.heap.size + 1, 5, none⟩ = some (.int .i64 0)   := boff.cell 5
  replace ea0 : w5.cell? ⟨w.heap.size + 1 + 1, 0, none⟩ = some (.int .i64 5)   := bea.cell 0
  replace ea1 : w5.cell? ⟨w.heap.size + 1 + 1, 1, none⟩ = some (.int .i64 1)   := bea.cell 1
  replace ea2 : w5.cell? ⟨w.heap.size + 1 + 1, 2, none⟩ = some (.int .i64 0)   := bea.cell 2
  replace ea3 : w5.cell? ⟨w.heap.size + 1 + 1, 3, none⟩ = some (.int .i64 60)   := bea.cell 3
  replace ea4 : w5.cell? ⟨w.heap.size + 1 + 1, 4, none⟩ = some (.int .i64 0)   := bea.cell 4
  replace ea5 : w5.cell? ⟨w.heap.size + 1 + 1, 5, none⟩ = some (.int .i64 0)   := bea.cell 5
  replace hs := hs.alloc (.cells #[.int .i64 4, .int .i64 3, .int .i64 0, .int .i64 0, .int .i64 1, .int .i64 0] 40)
  replace hn := hn.alloc (.cells #[.int .i64 4, .int .i64 3, .int .i64 0, .int .i64 0, .int .i64 1, .int .i64 0] 40)
  replace hc := hc.alloc (.cells #[.int .i64 4, .int .i64 3, .int .i64 0, .int .i64 0, .int .i64 1, .int .i64 0] 40)
  replace bon := bon.alloc (.cells #[.int .i64 4, .int .i64 3, .int .i64 0, .int .i64 0, .int .i64 1, .int .i64 0] 40)
  replace boff := boff.alloc (.cells #[.int .i64 4, .int .i64 3, .int .i64 0, .int .i64 0, .int .i64 1, .int .i64 0] 40)
  replace bea := bea.alloc (.cells #[.int .i64 4, .int .i64 3, .int .i64 0, .int .i64 0, .int .i64 1, .int .i64 0] 40)
  replace hB := Bel.al hB (.cells #[.int .i64 4, .int .i64 3, .int .i64 0, .int .i64 0, .int .i64 1, .int .i64 0] 40)
  have bq4 : Blk (w5.alloc (.cells #[.int .i64 4, .int .i64 3, .int .i64 0, .int .i64 0, .int .i64 1, .int .i64 0] 40)) _ 40 #[.int .i64 4, .int .i64 3, .int .i64 0, .int .i64 0, .int .i64 1, .int .i64 0] := Blk.new w5 40 #[.int .i64 4, .int .i64 3, .int .i64 0, .int .i64 0, .int .i64 1, .int .i64 0]
  replace hs := hs.alloc (.cells #[.int .i64 5, .int .i64 3, .int .i64 0, .int .i64 0, .int .i64 1, .int .i64 0] 40)
  replace hn := hn.alloc (.cells #[.int .i64 5, .int .i64 3, .int .i64 0, .int .i64 0, .int .i64 1, .int .i64 0] 40)
  replace hc := hc.alloc (.cells #[.int .i64 5, .int .i64 3, .int .i64 0, .int .i64 0, .int .i64 1, .int .i64 0] 40)
  replace bon := bon.alloc (.cells #[.int .i64 5, .int .i64 3, .int .i64 0, .int .i64 0, .int .i64 1, .int .i64 0] 40)
  replace boff := boff.alloc (.cells #[.int .i64 5, .int .i64 3, .int .i64 0, .int .i64 0, .int .i64 1, .int .i64 0] 40)
  replace bea := bea.alloc (.cells #[.int .i64 5, .int .i64 3, .int .i64 0, .int .i64 0, .int .i64 1, .int .i64 0] 40)
  replace bq4 := bq4.alloc (.cells #[.int .i64 5, .int .i64 3, .int .i64 0, .int .i64 0, .int .i64 1, .int .i64 0] 40)
  replace hB := Bel.al hB (.cells #[.int .i64 5, .int .i64 3, .int .i64 0, .int .i64 0, .int .i64 1, .int .i64 0] 40)
  have bq5 : Blk ((w5.alloc (.cells #[.int .i64 4, .int .i64 3, .int .i64 0, .int .i64 0, .int .i64 1, .int .i64 0] 40)).alloc (.cells #[.int .i64 5, .int .i64 3, .int .i64 0, .int .i64 0, .int .i64 1, .int .i64 0] 40)) _ 40 #[.int .i64 5, .int .i64 3, .int .i64 0, .int .i64 0, .int .i64 1, .int .i64 0] := Blk.new (w5.alloc (.cells #[.int .i64 4, .int .i64 3, .int .i64 0, .int .i64 0, .int .i64 1, .int .i64 0] 40)) 40 #[.int .i64 5, .int .i64 3, .int .i64 0, .int .i64 0, .int .i64 1, .int .i64 0]
  try simp only [World.size_alloc] at bq4
  try simp only [World.size_alloc] at bq5
  replace onx0 : ((w5.alloc (.cells #[.int .i64 4, .int .i64 3, .int .i64 0, .int .i64 0, .int .i64 1, .int .i64 0] 40)).alloc (.cells #[.int .i64 5, .int .i64 3, .int .i64 0, .int .i64 0, .int .i64 1, .int .i64 0] 40)).cell? ⟨w.heap.size, 0, none⟩ = some (.int .i64 5)   := bon.cell 0
  replace onx1 : ((w5.alloc (.cells #[.int .i64 4, .int .i64 3, .int .i64 0, .int .i64 0, .int .i64 1, .int .i64 0] 40)).alloc (.cells #[.int .i64 5, .int .i64 3, .int .i64 0, .int .i64 0, .int .i64 1, .int .i64 0] 40)).cell? ⟨w.heap.size, 1, none⟩ = some (.int .i64 3)   := bon.cell 1
  replace onx2 : ((w5.alloc (.cells #[.int .i64 4, .int .i64 3, .int .i64 0, .int .i64 0, .int .i64 1, .int .i64 0] 40)).alloc (.cells #[.int .i64 5, .int .i64 3, .int .i64 0, .int .i64 0, .int .i64 1, .int .i64 0] 40)).cell? ⟨w.heap.size, 2, none⟩ = some (.int .i64 0)   := bon.cell 2
  replace onx3 : ((w5.alloc (.cells #[.int .i64 4, .int .i64 3, .int .i64 0, .int .i64 0, .int .i64 1, .int .i64 0] 40)).alloc (.cells #[.int .i64 5, .int .i64 3, .int .i64 0, .int .i64 0, .int .i64 1, .int .i64 0] 40)).cell? ⟨w.heap.size, 3, none⟩ = some (.int .i64 60)   := bon.cell 3
  replace onx4 : ((w5.alloc (.cells #[.int .i64 4, .int .i64 3, .int .i64 0, .int .i64 0, .int .i64 1, .int .i64 0] 40)).alloc (.cells #[.int .i64 5, .int .i64 3, .int .i64 0, .int .i64 0, .int .i64 1, .int .i64 0] 40)).cell? ⟨w.heap.size, 4, none⟩ = some (.int .i64 100)   := bon.cell 4
  replace onx5 : ((w5.alloc (.cells #[.int .i64 4, .int .i64 3, .int .i64 0, .int .i64 0, .int .i64 1, .int .i64 0] 40)).alloc (.cells #[.int .i64 5, .int .i64 3, .int .i64 0, .int .i64 0, .int .i64 1, .int .i64 0] 40)).cell? ⟨w.heap.size, 5, none⟩ = some (.int .i64 7)   := bon.cell 5
  replace offx0 : ((w5.alloc (.cells #[.int .i64 4, .int .i64 3, .int .i64 0, .int .i64 0, .int .i64 1, .int .i64 0] 40)).alloc (.cells #[.int .i64 5, .int .i64 3, .int .i64 0, .int .i64 0, .int .i64 1, .int .i64 0] 40)).cell? ⟨w.heap.size + 1, 0, none⟩ = some (.int .i64 15)   := boff.cell 0
  replace offx1 : ((w5.alloc (.cells #[.int .i64 4, .int .i64 3, .int .i64 0, .int .i64 0, .int .i64 1, .int .i64 0] 40)).alloc (.cells #[.int .i64 5, .int .i64 3, .int .i64 0, .int .i64 0, .int .i64 1, .int .i64 0] 40)).cell? ⟨w.heap.size + 1, 1, none⟩ = some (.int .i64 1)   := boff.cell 1
  replace offx2 : ((w5.alloc (.cells #[.int .i64 4, .int .i64 3, .int .i64 0, .int .i64 0, .int .i64 1, .int .i64 0] 40)).alloc (.cells #[.int .i64 5, .int .i64 3, .int .i64 0, .int .i64 0, .int .i64 1, .int .i64 0] 40)).cell? ⟨w.heap.size + 1, 2, none⟩ = some (.int .i64 0)   := boff.cell 2
  replace offx3 : ((w5.alloc (.cells #[.int .i64 4, .int .i64 3, .int .i64 0, .int .i64 0, .int .i64 1, .int .i64 0] 40)).alloc (.cells #[.int .i64 5, .int .i64 3, .int .i64 0, .int .i64 0, .int .i64 1, .int .i64 0] 40)).cell? ⟨w.heap.size + 1, 3, none⟩ = some (.int .i64 60)   := boff.cell 3
  replace offx4 : ((w5.alloc (.cells #[.int .i64 4, .int .i64 3, .int .i64 0, .int .i64 0, .int .i64 1, .int .i64 0] 40)).alloc (.cells #[.int .i64 5, .int .i64 3, .int .i64 0, .int .i64 0, .int .i64 1, .int .i64 0] 40)).cell? ⟨w.heap.size + 1, 4, none⟩ = some (.int .i64 0)   := boff.cell 4
  replace offx5 : ((w5.alloc (.cells #[.int .i64 4, .int .i64 3, .int .i64 0, .int .i64 0, .int .i64 1, .int .i64 0] 40)).alloc (.cells #[.int .i64 5, .int .i64 3, .int .i64 0, .int .i64 0, .int .i64 1, .int .i64 0] 40)).cell? ⟨w.heap.size + 1, 5, none⟩ = some (.int .i64 0)   := boff.cell 5
  replace eax0 : ((w5.alloc (.cells #[.int .i64 4, .int .i64 3, .int .i64 0, .int .i64 0, .int .i64 1, .int .i64 0] 40)).alloc (.cells #[.int .i64 5, .int .i64 3, .int .i64 0, .int .i64 0, .int .i64 1, .int .i64 0] 40)).cell? ⟨w.heap.size + 1 + 1, 0, none⟩ = some (.int .i64 5)   := bea.cell 0
  replace eax1 : ((w5.alloc (.cells #[.int .i64 4, .int .i64 3, .int .i64 0, .int .i64 0, .int .i64 1, .int .i64 0] 40)).alloc (.cells #[.int .i64 5, .int .i64 3, .int .i64 0, .int .i64 0, .int .i64 1, .int .i64 0] 40)).cell? ⟨w.heap.size + 1 + 1, 1, none⟩ = some (.int .i64 1)   := bea.cell 1
  replace eax2 : ((w5.alloc (.cells #[.int .i64 4, .int .i64 3, .int .i64 0, .int .i64 0, .int .i64 1, .int .i64 0] 40)).alloc (.cells #[.int .i64 5, .int .i64 3, .int .i64 0, .int .i64 0, .int .i64 1, .int .i64 0] 40)).cell? ⟨w.heap.size + 1 + 1, 2, none⟩ = some (.int .i64 0)   := bea.cell 2
  replace eax3 : ((w5.alloc (.cells #[.int .i64 4, .int .i64 3, .int .i64 0, .int .i64 0, .int .i64 1, .int .i64 0] 40)).alloc (.cells #[.int .i64 5, .int .i64 3, .int .i64 0, .int .i64 0, .int .i64 1, .int .i64 0] 40)).cell? ⟨w.heap.size + 1 + 1, 3, none⟩ = some (.int .i64 60)   := bea.cell 3
  replace eax4 : ((w5.alloc (.cells #[.int .i64 4, .int .i64 3, .int .i64 0, .int .i64 0, .int .i64 1, .int .i64 0] 40)).alloc (.cells #[.int .i64 5, .int .i64 3, .int .i64 0, .int .i64 0, .int .i64 1, .int .i64 0] 40)).cell? ⟨w.heap.size + 1 + 1, 4, none⟩ = some (.int .i64 0)   := bea.cell 4
  replace eax5 : ((w5.alloc (.cells #[.int .i64 4, .int .i64 3, .int .i64 0, .int .i64 0, .int .i64 1, .int .i64 0] 40)).alloc (.cells #[.int .i64 5, .int .i64 3, .int .i64 0, .int .i64 0, .int .i64 1, .int .i64 0] 40)).cell? ⟨w.heap.size + 1 + 1, 5, none⟩ = some (.int .i64 0)   := bea.cell 5
  have q4x0 : ((w5.alloc (.cells #[.int .i64 4, .int .i64 3, .int .i64 0, .int .i64 0, .int .i64 1, .int .i64 0] 40)).alloc (.cells #[.int .i64 5, .int .i64 3, .int .i64 0, .int .i64 0, .int .i64 1, .int .i64 0] 40)).cell? ⟨w5.heap.size, 0, none⟩ = some (.int .i64 4)   := bq4.cell 0
  have q4x1 : ((w5.alloc (.cells #[.int .i64 4, .int .i64 3, .int .i64 0, .int .i64 0, .int .i64 1, .int .i64 0] 40)).alloc (.cells #[.int .i64 5, .int .i64 3, .int .i64 0, .int .i64 0, .int .i64 1, .int .i64 0] 40)).cell? ⟨w5.heap.size, 1, none⟩ = some (.int .i64 3)   := bq4.cell 1
  have q4x2 : ((w5.alloc (.cells #[.int .i64 4, .int .i64 3, .int .i64 0, .int .i64 0, .int .i64 1, .int .i64 0] 40)).alloc (.cells #[.int .i64 5, .int .i64 3, .int .i64 0, .int .i64 0, .int .i64 1, .int .i64 0] 40)).cell? ⟨w5.heap.size, 2, none⟩ = some (.int .i64 0)   := bq4.cell 2
  have q4x3 : ((w5.alloc (.cells #[.int .i64 4, .int .i64 3, .int .i64 0, .int .i64 0, .int .i64 1, .int .i64 0] 40)).alloc (.cells #[.int .i64 5, .int .i64 3, .int .i64 0, .int .i64 0, .int .i64 1, .int .i64 0] 40)).cell? ⟨w5.heap.size, 3, none⟩ = some (.int .i64 0)   := bq4.cell 3
  have q4x4 : ((w5.alloc (.cells #[.int .i64 4, .int .i64 3, .int .i64 0, .int .i64 0, .int .i64 1, .int .i64 0] 40)).alloc (.cells #[.int .i64 5, .int .i64 3, .int .i64 0, .int .i64 0, .int .i64 1, .int .i64 0] 40)).cell? ⟨w5.heap.size, 4, none⟩ = some (.int .i64 1)   := bq4.cell 4
  have q4x5 : ((w5.alloc (.cells #[.int .i64 4, .int .i64 3, .int .i64 0, .int .i64 0, .int .i64 1, .int .i64 0] 40)).alloc (.cells #[.int .i64 5, .int .i64 3, .int .i64 0, .int .i64 0, .int .i64 1, .int .i64 0] 40)).cell? ⟨w5.heap.size, 5, none⟩ = some (.int .i64 0)   := bq4.cell 5
  have q5x0 : ((w5.alloc (.cells #[.int .i64 4, .int .i64 3, .int .i64 0, .int .i64 0, .int .i64 1, .int .i64 0] 40)).alloc (.cells #[.int .i64 5, .int .i64 3, .int .i64 0, .int .i64 0, .int .i64 1, .int .i64 0] 40)).cell? ⟨w5.heap.size + 1, 0, none⟩ = some (.int .i64 5)   := bq5.cell 0
  have q5x1 : ((w5.alloc (.cells #[.int .i64 4, .int .i64 3, .int .i64 0, .int .i64 0, .int .i64 1, .int .i64 0] 40)).alloc (.cells #[.int .i64 5, .int .i64 3, .int .i64 0, .int .i64 0, .int .i64 1, .int .i64 0] 40)).cell? ⟨w5.heap.size + 1, 1, none⟩ = some (.int .i64 3)   := bq5.cell 1
  have q5x2 : ((w5.alloc (.cells #[.int .i64 4, .int .i64 3, .int .i64 0, .int .i64 0, .int .i64 1, .int .i64 0] 40)).alloc (.cells #[.int .i64 5, .int .i64 3, .int .i64 0, .int .i64 0, .int .i64 1, .int .i64 0] 40)).cell? ⟨w5.heap.size + 1, 2, none⟩ = some (.int .i64 0)   := bq5.cell 2
  have q5x3 : ((w5.alloc (.cells #[.int .i64 4, .int .i64 3, .int .i64 0, .int .i64 0, .int .i64 1, .int .i64 0] 40)).alloc (.cells #[.int .i64 5, .int .i64 3, .int .i64 0, .int .i64 0, .int .i64 1, .int .i64 0] 40)).cell? ⟨w5.heap.size + 1, 3, none⟩ = some (.int .i64 0)   := bq5.cell 3
  have q5x4 : ((w5.alloc (.cells #[.int .i64 4, .int .i64 3, .int .i64 0, .int .i64 0, .int .i64 1, .int .i64 0] 40)).alloc (.cells #[.int .i64 5, .int .i64 3, .int .i64 0, .int .i64 0, .int .i64 1, .int .i64 0] 40)).cell? ⟨w5.heap.size + 1, 4, none⟩ = some (.int .i64 1)   := bq5.cell 4
  have q5x5 : ((w5.alloc (.cells #[.int .i64 4, .int .i64 3, .int .i64 0, .int .i64 0, .int .i64 1, .int .i64 0] 40)).alloc (.cells #[.int .i64 5, .int .i64 3, .int .i64 0, .int .i64 0, .int .i64 1, .int .i64 0] 40)).cell? ⟨w5.heap.size + 1, 5, none⟩ = some (.int .i64 0)   := bq5.cell 5
  have hm := SA.lit (e := tmE) (l := xMap) (n := 1) (cs := #[.int .i64 0, .int .i64 1, .int .i64 2, .bool false]) ((w5.alloc (.cells #[.int .i64 4, .int .i64 3, .int .i64 0, .int .i64 0, .int .i64 1, .int .i64 0] 40)).alloc (.cells #[.int .i64 5, .int .i64 3, .int .i64 0, .int .i64 0, .int .i64 1, .int .i64 0] 40)) rfl rfl (by omega)
  replace hs := hs.alloc (.cells #[.int .i64 0, .int .i64 1, .int .i64 2, .bool false] 53)
  replace hn := hn.alloc (.cells #[.int .i64 0, .int .i64 1, .int .i64 2, .bool false] 53)
  replace hc := hc.alloc (.cells #[.int .i64 0, .int .i64 1, .int .i64 2, .bool false] 53)
  replace bon := bon.alloc (.cells #[.int .i64 0, .int .i64 1, .int .i64 2, .bool false] 53)
  replace boff := boff.alloc (.cells #[.int .i64 0, .int .i64 1, .int .i64 2, .bool false] 53)
  replace bea := bea.alloc (.cells #[.int .i64 0, .int .i64 1, .int .i64 2, .bool false] 53)
  replace bq4 := bq4.alloc (.cells #[.int .i64 0, .int .i64 1, .int .i64 2, .bool false] 53)
  replace bq5 := bq5.alloc (.cells #[.int .i64 0, .int .i64 1, .int .i64 2, .bool false] 53)
  replace hB := Bel.al hB (.cells #[.int .i64 0, .int .i64 1, .int .i64 2, .bool false] 53)
  have hx := SA.lit (e := evE) (l := [x4, x5]) (n := 2) (cs := #[.int .i64 4, .int .i64 3, .int .i64 0, .int .i64 0, .int .i64 1, .int .i64 0, .int .i64 5, .int .i64 3, .int .i64 0, .int .i64 0, .int .i64 1, .int .i64 0]) (((w5.alloc (.cells #[.int .i64 4, .int .i64 3, .int .i64 0, .int .i64 0, .int .i64 1, .int .i64 0] 40)).alloc (.cells #[.int .i64 5, .int .i64 3, .int .i64 0, .int .i64 0, .int .i64 1, .int .i64 0] 40)).alloc (.cells #[.int .i64 0, .int .i64 1, .int .i64 2, .bool false] 53)) rfl rfl (by omega)
  replace hs := hs.alloc (.cells #[.int .i64 4, .int .i64 3, .int .i64 0, .int .i64 0, .int .i64 1, .int .i64 0, .int .i64 5, .int .i64 3, .int .i64 0, .int .i64 0, .int .i64 1, .int .i64 0] 40)
  replace hn := hn.alloc (.cells #[.int .i64 4, .int .i64 3, .int .i64 0, .int .i64 0, .int .i64 1, .int .i64 0, .int .i64 5, .int .i64 3, .int .i64 0, .int .i64 0, .int .i64 1, .int .i64 0] 40)
  replace hc := hc.alloc (.cells #[.int .i64 4, .int .i64 3, .int .i64 0, .int .i64 0, .int .i64 1, .int .i64 0, .int .i64 5, .int .i64 3, .int .i64 0, .int .i64 0, .int .i64 1, .int .i64 0] 40)
  replace hm := hm.alloc (.cells #[.int .i64 4, .int .i64 3, .int .i64 0, .int .i64 0, .int .i64 1, .int .i64 0, .int .i64 5, .int .i64 3, .int .i64 0, .int .i64 0, .int .i64 1, .int .i64 0] 40)
  replace bon := bon.alloc (.cells #[.int .i64 4, .int .i64 3, .int .i64 0, .int .i64 0, .int .i64 1, .int .i64 0, .int .i64 5, .int .i64 3, .int .i64 0, .int .i64 0, .int .i64 1, .int .i64 0] 40)
  replace boff := boff.alloc (.cells #[.int .i64 4, .int .i64 3, .int .i64 0, .int .i64 0, .int .i64 1, .int .i64 0, .int .i64 5, .int .i64 3, .int .i64 0, .int .i64 0, .int .i64 1, .int .i64 0] 40)
  replace bea := bea.alloc (.cells #[.int .i64 4, .int .i64 3, .int .i64 0, .int .i64 0, .int .i64 1, .int .i64 0, .int .i64 5, .int .i64 3, .int .i64 0, .int .i64 0, .int .i64 1, .int .i64 0] 40)
  replace bq4 := bq4.alloc (.cells #[.int .i64 4, .int .i64 3, .int .i64 0, .int .i64 0, .int .i64 1, .int .i64 0, .int .i64 5, .int .i64 3, .int .i64 0, .int .i64 0, .int .i64 1, .int .i64 0] 40)
  replace bq5 := bq5.alloc (.cells #[.int .i64 4, .int .i64 3, .int .i64 0, .int .i64 0, .int .i64 1, .int .i64 0, .int .i64 5, .int .i64 3, .int .i64 0, .int .i64 0, .int .i64 1, .int .i64 0] 40)
  replace hB := Bel.al hB (.cells #[.int .i64 4, .int .i64 3, .int .i64 0, .int .i64 0, .int .i64 1, .int .i64 0, .int .i64 5, .int .i64 3, .int .i64 0, .int .i64 0, .int .i64 1, .int .i64 0] 40)
  try simp only [World.size_alloc] at hx hm
  go_wp2_with fail
  refine (res_eq sRes hm hx (by decide)).mono ?_
  rintro e w6 ⟨Ah, ch, rfl, hh, hbe⟩
  clear hx hm
  clear bq4 q4x0 q4x1 q4x2 q4x3 q4x4 q4x5
  clear bq5 q5x0 q5x1 q5x2 q5x3 q5x4 q5x5
  replace hs := hs.below hbe
  replace hn := hn.below hbe
  replace hc := hc.below hbe
  replace bon := bon.belowAll hbe
  replace boff := boff.belowAll hbe
  replace bea := bea.belowAll hbe
  replace hB := Bel.on0 hB hbe
  clear hbe
  replace on0 : w6.cell? ⟨w.heap.size, 0, none⟩ = some (.int .i64 5)   := bon.cell 0
  replace on1 : w6.cell? ⟨w.heap.size, 1, none⟩ = some (.int .i64 3)   := bon.cell 1
  replace on2 : w6.cell? ⟨w.heap.size, 2, none⟩ = some (.int .i64 0)   := bon.cell 2
  replace on3 : w6.cell? ⟨w.heap.size, 3, none⟩ = some (.int .i64 60)   := bon.cell 3
  replace on4 : w6.cell? ⟨w.heap.size, 4, none⟩ = some (.int .i64 100)   := bon.cell 4
  replace on5 : w6.cell? ⟨w.heap.size, 5, none⟩ = some (.int .i64 7)   := bon.cell 5
  replace off0 : w6.cell? ⟨w.heap.size + 1, 0, none⟩ = some (.int .i64 15)   := boff.cell 0
  replace off1 : w6.cell? ⟨w.heap.size + 1, 1, none⟩ = some (.int .i64 1)   := boff.cell 1
  replace off2 : w6.cell? ⟨w.heap.size + 1, 2, none⟩ = some (.int .i64 0)   := boff.cell 2
  replace off3 : w6.cell? ⟨w.heap.size + 1, 3, none⟩ = some (.int .i64 60)   := boff.cell 3
  replace off4 : w6.cell? ⟨w.heap.size + 1, 4, none⟩ = some (.int .i64 0)   := boff.cell 4
  replace off5 : w6.cell? ⟨w.heap.size + 1, 5, none⟩ = some (.int .i64 0)   := boff.cell 5
  replace ea0 : w6.cell? ⟨w.heap.size + 1 + 1, 0, none⟩ = some (.int .i64 5)   := bea.cell 0
  replace ea1 : w6.cell? ⟨w.heap.size + 1 + 1, 1, none⟩ = some (.int .i64 1)   := bea.cell 1
  replace ea2 : w6.cell? ⟨w.heap.size + 1 + 1, 2, none⟩ = some (.int .i64 0)   := bea.cell 2
  replace ea3 : w6.cell? ⟨w.heap.size + 1 + 1, 3, none⟩ = some (.int .i64 60)   := bea.cell 3
  replace ea4 : w6.cell? ⟨w.heap.size + 1 + 1, 4, none⟩ = some (.int .i64 0)   := bea.cell 4
  replace ea5 : w6.cell? ⟨w.heap.size + 1 + 1, 5, none⟩ = some (.int .i64 0)   := bea.cell 5
  replace hs := hs.alloc (.cells #[.int .i64 5, .int .i64 3, .int .i64 0, .int .i64 60, .int .i64 0, .int .i64 7] 40)
  replace hn := hn.alloc (.cells #[.int .i64 5, .int .i64 3, .int .i64 0, .int .i64 60, .int .i64 0, .int .i64 7] 40)
  replace hc := hc.alloc (.cells #[.int .i64 5, .int .i64 3, .int .i64 0, .int .i64 60, .int .i64 0, .int .i64 7] 40)
  replace hh := hh.alloc (.cells #[.int .i64 5, .int .i64 3, .int .i64 0, .int .i64 60, .int .i64 0, .int .i64 7] 40)
  replace bon := bon.alloc (.cells #[.int .i64 5, .int .i64 3, .int .i64 0, .int .i64 60, .int .i64 0, .int .i64 7] 40)
  replace boff := boff.alloc (.cells #[.int .i64 5, .int .i64 3, .int .i64 0, .int .i64 60, .int .i64 0, .int .i64 7] 40)
  replace bea := bea.alloc (.cells #[.int .i64 5, .int .i64 3, .int .i64 0, .int .i64 60, .int .i64 0, .int .i64 7] 40)
  replace hB := Bel.al hB (.cells #[.int .i64 5, .int .i64 3, .int .i64 0, .int .i64 60, .int .i64 0, .int .i64 7] 40)
  have bsil : Blk (w6.alloc (.cells #[.int .i64 5, .int .i64 3, .int .i64 0, .int .i64 60, .int .i64 0, .int .i64 7] 40)) _ 40 #[.int .i64 5, .int .i64 3, .int .i64 0, .int .i64 60, .int .i64 0, .int .i64 7] := Blk.new w6 40 #[.int .i64 5, .int .i64 3, .int .i64 0, .int .i64 60, .int .i64 0, .int .i64 7]
  replace onx0 : (w6.alloc (.cells #[.int .i64 5, .int .i64 3, .int .i64 0, .int .i64 60, .int .i64 0, .int .i64 7] 40)).cell? ⟨w.heap.size, 0, none⟩ = some (.int .i64 5)   := bon.cell 0
  replace onx1 : (w6.alloc (.cells #[.int .i64 5, .int .i64 3, .int .i64 0, .int .i64 60, .int .i64 0, .int .i64 7] 40)).cell? ⟨w.heap.size, 1, none⟩ = some (.int .i64 3)   := bon.cell 1
  replace onx2 : (w6.alloc (.cells #[.int .i64 5, .int .i64 3, .int .i64 0, .int .i64 60, .int .i64 0, .int .i64 7] 40)).cell? ⟨w.heap.size, 2, none⟩ = some (.int .i64 0)   := bon.cell 2
  replace onx3 : (w6.alloc (.cells #[.int .i64 5, .int .i64 3, .int .i64 0, .int .i64 60, .int .i64 0, .int .i64 7] 40)).cell? ⟨w.heap.size, 3, none⟩ = some (.int .i64 60)   := bon.cell 3
  replace onx4 : (w6.alloc (.cells #[.int .i64 5, .int .i64 3, .int .i64 0, .int .i64 60, .int .i64 0, .int .i64 7] 40)).cell? ⟨w.heap.size, 4, none⟩ = some (.int .i64 100)   := bon.cell 4
  replace onx5 : (w6.alloc (.cells #[.int .i64 5, .int .i64 3, .int .i64 0, .int .i64 60, .int .i64 0, .int .i64 7] 40)).cell? ⟨w.heap.size, 5, none⟩ = some (.int .i64 7)   := bon.cell 5
  replace offx0 : (w6.alloc (.cells #[.int .i64 5, .int .i64 3, .int .i64 0, .int .i64 60, .int .i64 0, .int .i64 7] 40)).cell? ⟨w.heap.size + 1, 0, none⟩ = some (.int .i64 15)   := boff.cell 0
  replace offx1 : (w6.alloc (.cells #[.int .i64 5, .int .i64 3, .int .i64 0, .int .i64 60, .int .i64 0, .int .i64 7] 40)).cell? ⟨w.heap.size + 1, 1, none⟩ = some (.int .i64 1)   := boff.cell 1
  replace offx2 : (w6.alloc (.cells #[.int .i64 5, .int .i64 3, .int .i64 0, .int .i64 60, .int .i64 0, .int .i64 7] 40)).cell? ⟨w.heap.size + 1, 2, none⟩ = some (.int .i64 0)   := boff.cell 2
  replace offx3 : (w6.alloc (.cells #[.int .i64 5, .int .i64 3, .int .i64 0, .int .i64 60, .int .i64 0, .int .i64 7] 40)).cell? ⟨w.heap.size + 1, 3, none⟩ = some (.int .i64 60)   := boff.cell 3
  replace offx4 : (w6.alloc (.cells #[.int .i64 5, .int .i64 3, .int .i64 0, .int .i64 60, .int .i64 0, .int .i64 7] 40)).cell? ⟨w.heap.size + 1, 4, none⟩ = some (.int .i64 0)   := boff.cell 4
  replace offx5 : (w6.alloc (.cells #[.int .i64 5, .int .i64 3, .int .i64 0, .int .i64 60, .int .i64 0, .int .i64 7] 40)).cell? ⟨w.heap.size + 1, 5, none⟩ = some (.int .i64 0)   := boff.cell 5
  replace eax0 : (w6.alloc (.cells #[.int .i64 5, .int .i64 3, .int .i64 0, .int .i64 60, .int .i64 0, .int .i64 7] 40)).cell? ⟨w.heap.size + 1 + 1, 0, none⟩ = some (.int .i64 5)   := bea.cell 0
  replace eax1 : (w6.alloc (.cells #[.int .i64 5, .int .i64 3, .int .i64 0, .int .i64 60, .int .i64 0, .int .i64 7] 40)).cell? ⟨w.heap.size + 1 + 1, 1, none⟩ = some (.int .i64 1)   := bea.cell 1
  replace eax2 : (w6.alloc (.cells #[.int .i64 5, .int .i64 3, .int .i64 0, .int .i64 60, .int .i64 0, .int .i64 7] 40)).cell? ⟨w.heap.size + 1 + 1, 2, none⟩ = some (.int .i64 0)   := bea.cell 2
  replace eax3 : (w6.alloc (.cells #[.int .i64 5, .int .i64 3, .int .i64 0, .int .i64 60, .int .i64 0, .int .i64 7] 40)).cell? ⟨w.heap.size + 1 + 1, 3, none⟩ = some (.int .i64 60)   := bea.cell 3
  replace eax4 : (w6.alloc (.cells #[.int .i64 5, .int .i64 3, .int .i64 0, .int .i64 60, .int .i64 0, .int .i64 7] 40)).cell? ⟨w.heap.size + 1 + 1, 4, none⟩ = some (.int .i64 0)   := bea.cell 4
  replace eax5 : (w6.alloc (.cells #[.int .i64 5, .int .i64 3, .int .i64 0, .int .i64 60, .int .i64 0, .int .i64 7] 40)).cell? ⟨w.heap.size + 1 + 1, 5, none⟩ = some (.int .i64 0)   := bea.cell 5
  have silx0 : (w6.alloc (.cells #[.int .i64 5, .int .i64 3, .int .i64 0, .int .i64 60, .int .i64 0, .int .i64 7] 40)).cell? ⟨w6.heap.size, 0, none⟩ = some (.int .i64 5)   := bsil.cell 0
  have silx1 : (w6.alloc (.cells #[.int .i64 5, .int .i64 3, .int .i64 0, .int .i64 60, .int .i64 0, .int .i64 7] 40)).cell? ⟨w6.heap.size, 1, none⟩ = some (.int .i64 3)   := bsil.cell 1
  have silx2 : (w6.alloc (.cells #[.int .i64 5, .int .i64 3, .int .i64 0, .int .i64 60, .int .i64 0, .int .i64 7] 40)).cell? ⟨w6.heap.size, 2, none⟩ = some (.int .i64 0)   := bsil.cell 2
  have silx3 : (w6.alloc (.cells #[.int .i64 5, .int .i64 3, .int .i64 0, .int .i64 60, .int .i64 0, .int .i64 7] 40)).cell? ⟨w6.heap.size, 3, none⟩ = some (.int .i64 60)   := bsil.cell 3
  have silx4 : (w6.alloc (.cells #[.int .i64 5, .int .i64 3, .int .i64 0, .int .i64 60, .int .i64 0, .int .i64 7] 40)).cell? ⟨w6.heap.size, 4, none⟩ = some (.int .i64 0)   := bsil.cell 4
  have silx5 : (w6.alloc (.cells #[.int .i64 5, .int .i64 3, .int .i64 0, .int .i64 60, .int .i64 0, .int .i64 7] 40)).cell? ⟨w6.heap.size, 5, none⟩ = some (.int .i64 7)   := bsil.cell 5
  have hx := SA.lit (e := evE) (l := [xSil]) (n := 1) (cs := #[.int .i64 5, .int .i64 3, .int .i64 0, .int .i64 60, .int .i64 0, .int .i64 7]) (w6.alloc (.cells #[.int .i64 5, .int .i64 3, .int .i64 0, .int .i64 60, .int .i64 0, .int .i64 7] 40)) rfl rfl (by omega)
  replace hs := hs.alloc (.cells #[.int .i64 5, .int .i64 3, .int .i64 0, .int .i64 60, .int .i64 0, .int .i64 7] 40)
  replace hn := hn.alloc (.cells #[.int .i64 5, .int .i64 3, .int .i64 0, .int .i64 60, .int .i64 0, .int .i64 7] 40)
  replace hc := hc.alloc (.cells #[.int .i64 5, .int .i64 3, .int .i64 0, .int .i64 60, .int .i64 0, .int .i64 7] 40)
  replace hh := hh.alloc (.cells #[.int .i64 5, .int .i64 3, .int .i64 0, .int .i64 60, .int .i64 0, .int .i64 7] 40)
  replace bon := bon.alloc (.cells #[.int .i64 5, .int .i64 3, .int .i64 0, .int .i64 60, .int .i64 0, .int .i64 7] 40)
  replace boff := boff.alloc (.cells #[.int .i64 5, .int .i64 3, .int .i64 0, .int .i64 60, .int .i64 0, .int .i64 7] 40)
  replace bea := bea.alloc (.cells #[.int .i64 5, .int .i64 3, .int .i64 0, .int .i64 60, .int .i64 0, .int .i64 7] 40)
  replace bsil := bsil.alloc (.cells #[.int .i64 5, .int .i64 3, .int .i64 0, .int .i64 60, .int .i64 0, .int .i64 7] 40)
  replace hB := Bel.al hB (.cells #[.int .i64 5, .int .i64 3, .int .i64 0, .int .i64 60, .int .i64 0, .int .i64 7] 40)
  try simp only [World.size_alloc] at hx
  go_wp2_with fail
  refine (check_eq sChk1 hx).mono ?_
  rintro e w7 ⟨rfl, hbe⟩
  clear hx
  clear bsil silx0 silx1 silx2 silx3 silx4 silx5
  replace hs := hs.below hbe
  replace hn := hn.below hbe
  replace hc := hc.below hbe
  replace hh := hh.below hbe
  replace bon := bon.belowAll hbe
  replace boff := boff.belowAll hbe
  replace bea := bea.belowAll hbe
  replace hB := Bel.on0 hB hbe
  clear hbe
  replace on0 : w7.cell? ⟨w.heap.size, 0, none⟩ = some (.int .i64 5)   := bon.cell 0
  replace on1 : w7.cell? ⟨w.heap.size, 1, none⟩ = some (.int .i64 3)   := bon.cell 1
  replace on2 : w7.cell? ⟨w.heap.size, 2, none⟩ = some (.int .i64 0)   := bon.cell 2
  replace on3 : w7.cell? ⟨w.heap.size, 3, none⟩ = some (.int .i64 60)   := bon.cell 3
  replace on4 : w7.cell? ⟨w.heap.size, 4, none⟩ = some (.int .i64 100)   := bon.cell 4
  replace on5 : w7.cell? ⟨w.heap.size, 5, none⟩ = some (.int .i64 7)   := bon.cell 5
  replace off0 : w7.cell? ⟨w.heap.size + 1, 0, none⟩ = some (.int .i64 15)   := boff.cell 0
  replace off1 : w7.cell? ⟨w.heap.size + 1, 1, none⟩ = some (.int .i64 1)   := boff.cell 1
  replace off2 : w7.cell? ⟨w.heap.size + 1, 2, none⟩ = some (.int .i64 0)   := boff.cell 2
  replace off3 : w7.cell? ⟨w.heap.size + 1, 3, none⟩ = some (.int .i64 60)   := boff.cell 3
  replace off4 : w7.cell? ⟨w.heap.size + 1, 4, none⟩ = some (.int .i64 0)   := boff.cell 4
  replace off5 : w7.cell? ⟨w.heap.size + 1, 5, none⟩ = some (.int .i64 0)   := boff.cell 5
  replace ea0 : w7.cell? ⟨w.heap.size + 1 + 1, 0, none⟩ = some (.int .i64 5)   := bea.cell 0
  replace ea1 : w7.cell? ⟨w.heap.size + 1 + 1, 1, none⟩ = some (.int .i64 1)   := bea.cell 1
  replace ea2 : w7.cell? ⟨w.heap.size + 1 + 1, 2, none⟩ = some (.int .i64 0)   := bea.cell 2
  replace ea3 : w7.cell? ⟨w.heap.size + 1 + 1, 3, none⟩ = some (.int .i64 60)   := bea.cell 3
  replace ea4 : w7.cell? ⟨w.heap.size + 1 + 1, 4, none⟩ = some (.int .i64 0)   := bea.cell 4
  replace ea5 : w7.cell? ⟨w.heap.size + 1 + 1, 5, none⟩ = some (.int .i64 0)   := bea.cell 5
  have hx := SA.lit (e := evE) (l := [xOn, xOn]) (n := 2) (cs := #[.int .i64 5, .int .i64 3, .int .i64 0, .int .i64 60, .int .i64 100, .int .i64 7, .int .i64 5, .int .i64 3, .int .i64 0, .int .i64 60, .int .i64 100, .int .i64 7]) w7 rfl rfl (by omega)
  replace hs := hs.alloc (.cells #[.int .i64 5, .int .i64 3, .int .i64 0, .int .i64 60, .int .i64 100, .int .i64 7, .int .i64 5, .int .i64 3, .int .i64 0, .int .i64 60, .int .i64 100, .int .i64 7] 40)
  replace hn := hn.alloc (.cells #[.int .i64 5, .int .i64 3, .int .i64 0, .int .i64 60, .int .i64 100, .int .i64 7, .int .i64 5, .int .i64 3, .int .i64 0, .int .i64 60, .int .i64 100, .int .i64 7] 40)
  replace hc := hc.alloc (.cells #[.int .i64 5, .int .i64 3, .int .i64 0, .int .i64 60, .int .i64 100, .int .i64 7, .int .i64 5, .int .i64 3, .int .i64 0, .int .i64 60, .int .i64 100, .int .i64 7] 40)
  replace hh := hh.alloc (.cells #[.int .i64 5, .int .i64 3, .int .i64 0, .int .i64 60, .int .i64 100, .int .i64 7, .int .i64 5, .int .i64 3, .int .i64 0, .int .i64 60, .int .i64 100, .int .i64 7] 40)
  replace bon := bon.alloc (.cells #[.int .i64 5, .int .i64 3, .int .i64 0, .int .i64 60, .int .i64 100, .int .i64 7, .int .i64 5, .int .i64 3, .int .i64 0, .int .i64 60, .int .i64 100, .int .i64 7] 40)
  replace boff := boff.alloc (.cells #[.int .i64 5, .int .i64 3, .int .i64 0, .int .i64 60, .int .i64 100, .int .i64 7, .int .i64 5, .int .i64 3, .int .i64 0, .int .i64 60, .int .i64 100, .int .i64 7] 40)
  replace bea := bea.alloc (.cells #[.int .i64 5, .int .i64 3, .int .i64 0, .int .i64 60, .int .i64 100, .int .i64 7, .int .i64 5, .int .i64 3, .int .i64 0, .int .i64 60, .int .i64 100, .int .i64 7] 40)
  replace hB := Bel.al hB (.cells #[.int .i64 5, .int .i64 3, .int .i64 0, .int .i64 60, .int .i64 100, .int .i64 7, .int .i64 5, .int .i64 3, .int .i64 0, .int .i64 60, .int .i64 100, .int .i64 7] 40)
  go_wp2_with fail
  refine (check_eq sChk2 hx).mono ?_
  rintro e w8 ⟨rfl, hbe⟩
  clear hx
  replace hs := hs.below hbe
  replace hn := hn.below hbe
  replace hc := hc.below hbe
  replace hh := hh.below hbe
  replace bon := bon.belowAll hbe
  replace boff := boff.belowAll hbe
  replace bea := bea.belowAll hbe
  replace hB := Bel.on0 hB hbe
  clear hbe
  replace on0 : w8.cell? ⟨w.heap.size, 0, none⟩ = some (.int .i64 5)   := bon.cell 0
  replace on1 : w8.cell? ⟨w.heap.size, 1, none⟩ = some (.int .i64 3)   := bon.cell 1
  replace on2 : w8.cell? ⟨w.heap.size, 2, none⟩ = some (.int .i64 0)   := bon.cell 2
  replace on3 : w8.cell? ⟨w.heap.size, 3, none⟩ = some (.int .i64 60)   := bon.cell 3
  replace on4 : w8.cell? ⟨w.heap.size, 4, none⟩ = some (.int .i64 100)   := bon.cell 4
  replace on5 : w8.cell? ⟨w.heap.size, 5, none⟩ = some (.int .i64 7)   := bon.cell 5
  replace off0 : w8.cell? ⟨w.heap.size + 1, 0, none⟩ = some (.int .i64 15)   := boff.cell 0
  replace off1 : w8.cell? ⟨w.heap.size + 1, 1, none⟩ = some (.int .i64 1)   := boff.cell 1
  replace off2 : w8.cell? ⟨w.heap.size + 1, 2, none⟩ = some (.int .i64 0)   := boff.cell 2
  replace off3 : w8.cell? ⟨w.heap.size + 1, 3, none⟩ = some (.int .i64 60)   := boff.cell 3
  replace off4 : w8.cell? ⟨w.heap.size + 1, 4, none⟩ = some (.int .i64 0)   := boff.cell 4
  replace off5 : w8.cell? ⟨w.heap.size + 1, 5, none⟩ = some (.int .i64 0)   := boff.cell 5
  replace ea0 : w8.cell? ⟨w.heap.size + 1 + 1, 0, none⟩ = some (.int .i64 5)   := bea.cell 0
  replace ea1 : w8.cell? ⟨w.heap.size + 1 + 1, 1, none⟩ = some (.int .i64 1)   := bea.cell 1
  replace ea2 : w8.cell? ⟨w.heap.size + 1 + 1, 2, none⟩ = some (.int .i64 0)   := bea.cell 2
  replace ea3 : w8.cell? ⟨w.heap.size + 1 + 1, 3, none⟩ = some (.int .i64 60)   := bea.cell 3
  replace ea4 : w8.cell? ⟨w.heap.size + 1 + 1, 4, none⟩ = some (.int .i64 0)   := bea.cell 4
  replace ea5 : w8.cell? ⟨w.heap.size + 1 + 1, 5, none⟩ = some (.int .i64 0)   := bea.cell 5
  have hx := SA.lit (e := evE) (l := [xOn, xOff]) (n := 2) (cs := #[.int .i64 5, .int .i64 3, .int .i64 0, .int .i64 60, .int .i64 100, .int .i64 7, .int .i64 15, .int .i64 1, .int .i64 0, .int .i64 60, .int .i64 0, .int .i64 0]) w8 rfl rfl (by omega)
  replace hs := hs.alloc (.cells #[.int .i64 5, .int .i64 3, .int .i64 0, .int .i64 60, .int .i64 100, .int .i64 7, .int .i64 15, .int .i64 1, .int .i64 0, .int .i64 60, .int .i64 0, .int .i64 0] 40)
  replace hn := hn.alloc (.cells #[.int .i64 5, .int .i64 3, .int .i64 0, .int .i64 60, .int .i64 100, .int .i64 7, .int .i64 15, .int .i64 1, .int .i64 0, .int .i64 60, .int .i64 0, .int .i64 0] 40)
  replace hc := hc.alloc (.cells #[.int .i64 5, .int .i64 3, .int .i64 0, .int .i64 60, .int .i64 100, .int .i64 7, .int .i64 15, .int .i64 1, .int .i64 0, .int .i64 60, .int .i64 0, .int .i64 0] 40)
  replace hh := hh.alloc (.cells #[.int .i64 5, .int .i64 3, .int .i64 0, .int .i64 60, .int .i64 100, .int .i64 7, .int .i64 15, .int .i64 1, .int .i64 0, .int .i64 60, .int .i64 0, .int .i64 0] 40)
  replace bon := bon.alloc (.cells #[.int .i64 5, .int .i64 3, .int .i64 0, .int .i64 60, .int .i64 100, .int .i64 7, .int .i64 15, .int .i64 1, .int .i64 0, .int .i64 60, .int .i64 0, .int .i64 0] 40)
  replace boff := boff.alloc (.cells #[.int .i64 5, .int .i64 3, .int .i64 0, .int .i64 60, .int .i64 100, .int .i64 7, .int .i64 15, .int .i64 1, .int .i64 0, .int .i64 60, .int .i64 0, .int .i64 0] 40)
  replace bea := bea.alloc (.cells #[.int .i64 5, .int .i64 3, .int .i64 0, .int .i64 60, .int .i64 100, .int .i64 7, .int .i64 15, .int .i64 1, .int .i64 0, .int .i64 60, .int .i64 0, .int .i64 0] 40)
  replace hB := Bel.al hB (.cells #[.int .i64 5, .int .i64 3, .int .i64 0, .int .i64 60, .int .i64 100, .int .i64 7, .int .i64 15, .int .i64 1, .int .i64 0, .int .i64 60, .int .i64 0, .int .i64 0] 40)
  go_wp2_with fail
  refine (check_eq sChk3 hx).mono ?_
  rintro e w9 ⟨rfl, hbe⟩
  clear hx
  replace hs := hs.below hbe
  replace hn := hn.below hbe
  replace hc := hc.below hbe
  replace hh := hh.below hbe
  replace bon := bon.belowAll hbe
  replace boff := boff.belowAll hbe
  replace bea := bea.belowAll hbe
  replace hB := Bel.on0 hB hbe
  clear hbe
  replace on0 : w9.cell? ⟨w.heap.size, 0, none⟩ = some (.int .i64 5)   := bon.cell 0
  replace on1 : w9.cell? ⟨w.heap.size, 1, none⟩ = some (.int .i64 3)   := bon.cell 1
  replace on2 : w9.cell? ⟨w.heap.size, 2, none⟩ = some (.int .i64 0)   := bon.cell 2
  replace on3 : w9.cell? ⟨w.heap.size, 3, none⟩ = some (.int .i64 60)   := bon.cell 3
  replace on4 : w9.cell? ⟨w.heap.size, 4, none⟩ = some (.int .i64 100)   := bon.cell 4
  replace on5 : w9.cell? ⟨w.heap.size, 5, none⟩ = some (.int .i64 7)   := bon.cell 5
  replace off0 : w9.cell? ⟨w.heap.size + 1, 0, none⟩ = some (.int .i64 15)   := boff.cell 0
  replace off1 : w9.cell? ⟨w.heap.size + 1, 1, none⟩ = some (.int .i64 1)   := boff.cell 1
  replace off2 : w9.cell? ⟨w.heap.size + 1, 2, none⟩ = some (.int .i64 0)   := boff.cell 2
  replace off3 : w9.cell? ⟨w.heap.size + 1, 3, none⟩ = some (.int .i64 60)   := boff.cell 3
  replace off4 : w9.cell? ⟨w.heap.size + 1, 4, none⟩ = some (.int .i64 0)   := boff.cell 4
  replace off5 : w9.cell? ⟨w.heap.size + 1, 5, none⟩ = some (.int .i64 0)   := boff.cell 5
  replace ea0 : w9.cell? ⟨w.heap.size + 1 + 1, 0, none⟩ = some (.int .i64 5)   := bea.cell 0
  replace ea1 : w9.cell? ⟨w.heap.size + 1 + 1, 1, none⟩ = some (.int .i64 1)   := bea.cell 1
  replace ea2 : w9.cell? ⟨w.heap.size + 1 + 1, 2, none⟩ = some (.int .i64 0)   := bea.cell 2
  replace ea3 : w9.cell? ⟨w.heap.size + 1 + 1, 3, none⟩ = some (.int .i64 60)   := bea.cell 3
  replace ea4 : w9.cell? ⟨w.heap.size + 1 + 1, 4, none⟩ = some (.int .i64 0)   := bea.cell 4
  replace ea5 : w9.cell? ⟨w.heap.size + 1 + 1, 5, none⟩ = some (.int .i64 0)   := bea.cell 5
  have hx := SA.lit (e := evE) (l := [xEarly, xOn]) (n := 2) (cs := #[.int .i64 5, .int .i64 1, .int .i64 0, .int .i64 60, .int .i64 0, .int .i64 0, .int .i64 5, .int .i64 3, .int .i64 0, .int .i64 60, .int .i64 100, .int .i64 7]) w9 rfl rfl (by omega)
  replace hs := hs.alloc (.cells #[.int .i64 5, .int .i64 1, .int .i64 0, .int .i64 60, .int .i64 0, .int .i64 0, .int .i64 5, .int .i64 3, .int .i64 0, .int .i64 60, .int .i64 100, .int .i64 7] 40)
  replace hn := hn.alloc (.cells #[.int .i64 5, .int .i64 1, .int .i64 0, .int .i64 60, .int .i64 0, .int .i64 0, .int .i64 5, .int .i64 3, .int .i64 0, .int .i64 60, .int .i64 100, .int .i64 7] 40)
  replace hc := hc.alloc (.cells #[.int .i64 5, .int .i64 1, .int .i64 0, .int .i64 60, .int .i64 0, .int .i64 0, .int .i64 5, .int .i64 3, .int .i64 0, .int .i64 60, .int .i64 100, .int .i64 7] 40)
  replace hh := hh.alloc (.cells #[.int .i64 5, .int .i64 1, .int .i64 0, .int .i64 60, .int .i64 0, .int .i64 0, .int .i64 5, .int .i64 3, .int .i64 0, .int .i64 60, .int .i64 100, .int .i64 7] 40)
  replace bon := bon.alloc (.cells #[.int .i64 5, .int .i64 1, .int .i64 0, .int .i64 60, .int .i64 0, .int .i64 0, .int .i64 5, .int .i64 3, .int .i64 0, .int .i64 60, .int .i64 100, .int .i64 7] 40)
  replace boff := boff.alloc (.cells #[.int .i64 5, .int .i64 1, .int .i64 0, .int .i64 60, .int .i64 0, .int .i64 0, .int .i64 5, .int .i64 3, .int .i64 0, .int .i64 60, .int .i64 100, .int .i64 7] 40)
  replace bea := bea.alloc (.cells #[.int .i64 5, .int .i64 1, .int .i64 0, .int .i64 60, .int .i64 0, .int .i64 0, .int .i64 5, .int .i64 3, .int .i64 0, .int .i64 60, .int .i64 100, .int .i64 7] 40)
  replace hB := Bel.al hB (.cells #[.int .i64 5, .int .i64 1, .int .i64 0, .int .i64 60, .int .i64 0, .int .i64 0, .int .i64 5, .int .i64 3, .int .i64 0, .int .i64 60, .int .i64 100, .int .i64 7] 40)
  go_wp2_with fail
  refine (same_eq hs hx rfl).mono ?_
  rintro e w10 ⟨rfl, hbe⟩
  clear hx hs
  replace hn := hn.below hbe
  replace hc := hc.below hbe
  replace hh := hh.below hbe
  replace bon := bon.belowAll hbe
  replace boff := boff.belowAll hbe
  replace bea := bea.belowAll hbe
  replace hB := Bel.on0 hB hbe
  clear hbe
  replace on0 : w10.cell? ⟨w.heap.size, 0, none⟩ = some (.int .i64 5)   := bon.cell 0
  replace on1 : w10.cell? ⟨w.heap.size, 1, none⟩ = some (.int .i64 3)   := bon.cell 1
  replace on2 : w10.cell? ⟨w.heap.size, 2, none⟩ = some (.int .i64 0)   := bon.cell 2
  replace on3 : w10.cell? ⟨w.heap.size, 3, none⟩ = some (.int .i64 60)   := bon.cell 3
  replace on4 : w10.cell? ⟨w.heap.size, 4, none⟩ = some (.int .i64 100)   := bon.cell 4
  replace on5 : w10.cell? ⟨w.heap.size, 5, none⟩ = some (.int .i64 7)   := bon.cell 5
  replace off0 : w10.cell? ⟨w.heap.size + 1, 0, none⟩ = some (.int .i64 15)   := boff.cell 0
  replace off1 : w10.cell? ⟨w.heap.size + 1, 1, none⟩ = some (.int .i64 1)   := boff.cell 1
  replace off2 : w10.cell? ⟨w.heap.size + 1, 2, none⟩ = some (.int .i64 0)   := boff.cell 2
  replace off3 : w10.cell? ⟨w.heap.size + 1, 3, none⟩ = some (.int .i64 60)   := boff.cell 3
  replace off4 : w10.cell? ⟨w.heap.size + 1, 4, none⟩ = some (.int .i64 0)   := boff.cell 4
  replace off5 : w10.cell? ⟨w.heap.size + 1, 5, none⟩ = some (.int .i64 0)   := boff.cell 5
  replace ea0 : w10.cell? ⟨w.heap.size + 1 + 1, 0, none⟩ = some (.int .i64 5)   := bea.cell 0
  replace ea1 : w10.cell? ⟨w.heap.size + 1 + 1, 1, none⟩ = some (.int .i64 1)   := bea.cell 1
  replace ea2 : w10.cell? ⟨w.heap.size + 1 + 1, 2, none⟩ = some (.int .i64 0)   := bea.cell 2
  replace ea3 : w10.cell? ⟨w.heap.size + 1 + 1, 3, none⟩ = some (.int .i64 60)   := bea.cell 3
  replace ea4 : w10.cell? ⟨w.heap.size + 1 + 1, 4, none⟩ = some (.int .i64 0)   := bea.cell 4
  replace ea5 : w10.cell? ⟨w.heap.size + 1 + 1, 5, none⟩ = some (.int .i64 0)   := bea.cell 5
  have hx := SA.lit (e := evE) (l := [xOn, xCut]) (n := 2) (cs := #[.int .i64 5, .int .i64 3, .int .i64 0, .int .i64 60, .int .i64 100, .int .i64 7, .int .i64 10, .int .i64 1, .int .i64 0, .int .i64 60, .int .i64 0, .int .i64 7]) w10 rfl rfl (by omega)
  replace hn := hn.alloc (.cells #[.int .i64 5, .int .i64 3, .int .i64 0, .int .i64 60, .int .i64 100, .int .i64 7, .int .i64 10, .int .i64 1, .int .i64 0, .int .i64 60, .int .i64 0, .int .i64 7] 40)
  replace hc := hc.alloc (.cells #[.int .i64 5, .int .i64 3, .int .i64 0, .int .i64 60, .int .i64 100, .int .i64 7, .int .i64 10, .int .i64 1, .int .i64 0, .int .i64 60, .int .i64 0, .int .i64 7] 40)
  replace hh := hh.alloc (.cells #[.int .i64 5, .int .i64 3, .int .i64 0, .int .i64 60, .int .i64 100, .int .i64 7, .int .i64 10, .int .i64 1, .int .i64 0, .int .i64 60, .int .i64 0, .int .i64 7] 40)
  replace bon := bon.alloc (.cells #[.int .i64 5, .int .i64 3, .int .i64 0, .int .i64 60, .int .i64 100, .int .i64 7, .int .i64 10, .int .i64 1, .int .i64 0, .int .i64 60, .int .i64 0, .int .i64 7] 40)
  replace boff := boff.alloc (.cells #[.int .i64 5, .int .i64 3, .int .i64 0, .int .i64 60, .int .i64 100, .int .i64 7, .int .i64 10, .int .i64 1, .int .i64 0, .int .i64 60, .int .i64 0, .int .i64 7] 40)
  replace bea := bea.alloc (.cells #[.int .i64 5, .int .i64 3, .int .i64 0, .int .i64 60, .int .i64 100, .int .i64 7, .int .i64 10, .int .i64 1, .int .i64 0, .int .i64 60, .int .i64 0, .int .i64 7] 40)
  replace hB := Bel.al hB (.cells #[.int .i64 5, .int .i64 3, .int .i64 0, .int .i64 60, .int .i64 100, .int .i64 7, .int .i64 10, .int .i64 1, .int .i64 0, .int .i64 60, .int .i64 0, .int .i64 7] 40)
  go_wp2_with fail
  refine (same_eq hc hx rfl).mono ?_
  rintro e w11 ⟨rfl, hbe⟩
  clear hx hc
  replace hn := hn.below hbe
  replace hh := hh.below hbe
  replace bon := bon.belowAll hbe
  replace boff := boff.belowAll hbe
  replace bea := bea.belowAll hbe
  replace hB := Bel.on0 hB hbe
  clear hbe
  replace on0 : w11.cell? ⟨w.heap.size, 0, none⟩ = some (.int .i64 5)   := bon.cell 0
  replace on1 : w11.cell? ⟨w.heap.size, 1, none⟩ = some (.int .i64 3)   := bon.cell 1
  replace on2 : w11.cell? ⟨w.heap.size, 2, none⟩ = some (.int .i64 0)   := bon.cell 2
  replace on3 : w11.cell? ⟨w.heap.size, 3, none⟩ = some (.int .i64 60)   := bon.cell 3
  replace on4 : w11.cell? ⟨w.heap.size, 4, none⟩ = some (.int .i64 100)   := bon.cell 4
  replace on5 : w11.cell? ⟨w.heap.size, 5, none⟩ = some (.int .i64 7)   := bon.cell 5
  replace off0 : w11.cell? ⟨w.heap.size + 1, 0, none⟩ = some (.int .i64 15)   := boff.cell 0
  replace off1 : w11.cell? ⟨w.heap.size + 1, 1, none⟩ = some (.int .i64 1)   := boff.cell 1
  replace off2 : w11.cell? ⟨w.heap.size + 1, 2, none⟩ = some (.int .i64 0)   := boff.cell 2
  replace off3 : w11.cell? ⟨w.heap.size + 1, 3, none⟩ = some (.int .i64 60)   := boff.cell 3
  replace off4 : w11.cell? ⟨w.heap.size + 1, 4, none⟩ = some (.int .i64 0)   := boff.cell 4
  replace off5 : w11.cell? ⟨w.heap.size + 1, 5, none⟩ = some (.int .i64 0)   := boff.cell 5
  replace ea0 : w11.cell? ⟨w.heap.size + 1 + 1, 0, none⟩ = some (.int .i64 5)   := bea.cell 0
  replace ea1 : w11.cell? ⟨w.heap.size + 1 + 1, 1, none⟩ = some (.int .i64 1)   := bea.cell 1
  replace ea2 : w11.cell? ⟨w.heap.size + 1 + 1, 2, none⟩ = some (.int .i64 0)   := bea.cell 2
  replace ea3 : w11.cell? ⟨w.heap.size + 1 + 1, 3, none⟩ = some (.int .i64 60)   := bea.cell 3
  replace ea4 : w11.cell? ⟨w.heap.size + 1 + 1, 4, none⟩ = some (.int .i64 0)   := bea.cell 4
  replace ea5 : w11.cell? ⟨w.heap.size + 1 + 1, 5, none⟩ = some (.int .i64 0)   := bea.cell 5
  obtain ⟨bn, on, rfl, hbn, hcn⟩ := hn.all_ (by omega)
  have n00 : w11.cell? ⟨bn, on + 0 * 2, none⟩ = some (.int .i64 0) := hcn 0 (by simp) 0 _ rfl
  have n01 : w11.cell? ⟨bn, on + 0 * 2 + 1, none⟩ = some (.int .i64 1) := hcn 0 (by simp) 1 _ rfl
  have n10 : w11.cell? ⟨bn, on + 1 * 2, none⟩ = some (.int .i64 1) := hcn 1 (by simp) 0 _ rfl
  have n11 : w11.cell? ⟨bn, on + 1 * 2 + 1, none⟩ = some (.int .i64 2) := hcn 1 (by simp) 1 _ rfl
  simp only [Nat.zero_mul, Nat.add_zero, Nat.one_mul] at n00 n01 n10 n11
  have hx := SA.lit (e := evE) (l := [xHalf]) (n := 1) (cs := #[.int .i64 2, .int .i64 3, .int .i64 0, .int .i64 0, .int .i64 1, .int .i64 0]) w11 rfl rfl (by omega)
  replace hn := hn.alloc (.cells #[.int .i64 2, .int .i64 3, .int .i64 0, .int .i64 0, .int .i64 1, .int .i64 0] 40)
  replace hh := hh.alloc (.cells #[.int .i64 2, .int .i64 3, .int .i64 0, .int .i64 0, .int .i64 1, .int .i64 0] 40)
  replace bon := bon.alloc (.cells #[.int .i64 2, .int .i64 3, .int .i64 0, .int .i64 0, .int .i64 1, .int .i64 0] 40)
  replace boff := boff.alloc (.cells #[.int .i64 2, .int .i64 3, .int .i64 0, .int .i64 0, .int .i64 1, .int .i64 0] 40)
  replace bea := bea.alloc (.cells #[.int .i64 2, .int .i64 3, .int .i64 0, .int .i64 0, .int .i64 1, .int .i64 0] 40)
  replace hB := Bel.al hB (.cells #[.int .i64 2, .int .i64 3, .int .i64 0, .int .i64 0, .int .i64 1, .int .i64 0] 40)
  go_wp2_with fail
  refine (same_eq hh hx rfl).mono ?_
  rintro e w1 ⟨rfl, hbe⟩
  clear hx hh
  replace hn := hn.below hbe
  replace bon := bon.belowAll hbe
  replace boff := boff.belowAll hbe
  replace bea := bea.belowAll hbe
  replace hB := Bel.on0 hB hbe
  clear hbe
  replace on0 : w1.cell? ⟨w.heap.size, 0, none⟩ = some (.int .i64 5)   := bon.cell 0
  replace on1 : w1.cell? ⟨w.heap.size, 1, none⟩ = some (.int .i64 3)   := bon.cell 1
  replace on2 : w1.cell? ⟨w.heap.size, 2, none⟩ = some (.int .i64 0)   := bon.cell 2
  replace on3 : w1.cell? ⟨w.heap.size, 3, none⟩ = some (.int .i64 60)   := bon.cell 3
  replace on4 : w1.cell? ⟨w.heap.size, 4, none⟩ = some (.int .i64 100)   := bon.cell 4
  replace on5 : w1.cell? ⟨w.heap.size, 5, none⟩ = some (.int .i64 7)   := bon.cell 5
  replace off0 : w1.cell? ⟨w.heap.size + 1, 0, none⟩ = some (.int .i64 15)   := boff.cell 0
  replace off1 : w1.cell? ⟨w.heap.size + 1, 1, none⟩ = some (.int .i64 1)   := boff.cell 1
  replace off2 : w1.cell? ⟨w.heap.size + 1, 2, none⟩ = some (.int .i64 0)   := boff.cell 2
  replace off3 : w1.cell? ⟨w.heap.size + 1, 3, none⟩ = some (.int .i64 60)   := boff.cell 3
  replace off4 : w1.cell? ⟨w.heap.size + 1, 4, none⟩ = some (.int .i64 0)   := boff.cell 4
  replace off5 : w1.cell? ⟨w.heap.size + 1, 5, none⟩ = some (.int .i64 0)   := boff.cell 5
  replace ea0 : w1.cell? ⟨w.heap.size + 1 + 1, 0, none⟩ = some (.int .i64 5)   := bea.cell 0
  replace ea1 : w1.cell? ⟨w.heap.size + 1 + 1, 1, none⟩ = some (.int .i64 1)   := bea.cell 1
  replace ea2 : w1.cell? ⟨w.heap.size + 1 + 1, 2, none⟩ = some (.int .i64 0)   := bea.cell 2
  replace ea3 : w1.cell? ⟨w.heap.size + 1 + 1, 3, none⟩ = some (.int .i64 60)   := bea.cell 3
  replace ea4 : w1.cell? ⟨w.heap.size + 1 + 1, 4, none⟩ = some (.int .i64 0)   := bea.cell 4
  replace ea5 : w1.cell? ⟨w.heap.size + 1 + 1, 5, none⟩ = some (.int .i64 0)   := bea.cell 5
  go_wp2_with fail
  go_ret
  exact ⟨rfl, hB⟩
end Go.Proofs.Ytmfdflfjllpceaa
