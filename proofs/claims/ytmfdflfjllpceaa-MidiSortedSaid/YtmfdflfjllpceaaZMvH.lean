/- Layer 50: slices.AppendSeq, Collect, SortedFunc, Values over events; midi.Sort. -/
import Derived.Test.YtmfdflfjllpceaaZMvG
import Derived.Test.YtmfdflfjllpceaaZOwn
namespace Go.Proofs.Ytmfdflfjllpceaa
open Go.RowKit Go.Shelf
attribute [local go_sem] Oper.semAt_some

/-- How an event is yielded. -/
def evV (x : Ev) : Array Value := #[.agg (evA x)]
set_option maxHeartbeats 2000000 in
set_option maxRecDepth 100000 in
theorem aps_any (gf : Nat) (lb : Array Value) (R : Nat → Prop) (S : List Ev → Prop) (V : List Ev → Ev → Prop) (w : World) (hseq : SeqX FW 2 Try.prog gf lb evV R S (fun _ => True) V w) (hR : ∀ k, R k → k < w.heap.size)
    (hV : ∀ pre x, V pre x → EvI x ∧ pre.length < 34359738368) (eg : ∀ args w, (callFunc gf args).run Try.prog w = .ok (.enter gf args) w) :
    Calls Try.prog 57 #[.slice none 0 0, .func (.func gf) #[] lb] w fun e w' =>
      ∃ A n c xs, e = .returned (.slice A n c) ∧ OA evE w' w.heap.size A n c xs ∧ S xs ∧ Below w.heap.size w w' := by
  have hx := Blk.new w 22 #[.slice none 0 0]
  have hB := (Below.refl w.heap.size w).alloc (Nat.le_refl _) (.cells #[.slice none 0 0] 22)
  obtain ⟨Bx, hBe⟩ : ∃ Bx, w.heap.size = Bx := ⟨_, rfl⟩
  obtain ⟨W1, hW1⟩ : ∃ W1, w.alloc (.cells #[.slice none 0 0] 22) = W1 := ⟨_, rfl⟩
  have z1 : W1.heap.size = Bx + 1 := by rw [← hW1, ← hBe]; simp
  have hbw : Bx ≤ w.heap.size := by omega
  refine (callsIn_wide (n := 3)).1 ?_
  refine callsIn_of_wp_marks Try.func57 rfl trivial ?_ rfl
  simp only [Try.ntmps57, List.size_toArray, List.length_cons, List.length_nil, Nat.reduceAdd, Nat.reduceSub, Array.replicate_succ, Array.replicate_zero, List.push_toArray, List.append_toArray, List.nil_append, List.cons_append]
  gi_wp2
  rw [hW1] at hx hB
  rw [hBe] at hx
  refine wpIn_rangeFunc_X rfl (by omega) (gf := gf) (lb := lb) rfl trivial eg hseq (fun k hk => by have := hR k hk; omega) hB (fun _ => rfl)
    (BoxJ evE w Bx (Bx + 1)) (fun _ _ _ _ => False) (BoxJ.abides _ _ _ (by omega)) (fun _ _ _ _ _ _ hf _ => hf) ⟨⟨none, 0, 0, hx, OA.nil _ _ _, fun _ h => by cases h⟩, by rw [← hBe]; exact hB, by omega, fun k hk => hk.elim⟩ ?round ?done ?stop
  case stop =>
    rintro D cc pre X W _ _ hf _ _
    exact hf.elim
  case done =>
    rintro D xs X W hD hxs ⟨⟨A', n', c', i1, i2, i3⟩, i4, i5, i6⟩ hXD hDef
    have cB := i1.cell 0
    have fB := i1.frozen 0
    simp only [List.getElem?_toArray, List.getElem?_cons_zero] at cB
    clear hx hB hseq hW1
    gi_wp2
    have hDB : D ≠ Bx := by have := (i6 D hXD).1; omega
    have c7 := (i1.putObj (D := D) (by omega) (.deferred none)).cell 0
    simp at c7
    refine ⟨by simp, .inl ⟨_, _, rfl, run_takeDeferred hDef, ?_⟩⟩
    refine ⟨.slice A' n' c', by simp [results, Try.results57, go_sem], A', n', c', xs, rfl, ?_, hxs, ?_⟩
    · exact (i2.stp (Stp.putObj _ hXD) i3).mono (by omega)
    · rw [hBe]
      exact below_putObj i4 (by have := (i6 D hXD).1; omega) (by omega) _
  case round =>
    rintro lp D pre x X W hJW hXl hXD hlD hrec hDef hVx
    obtain ⟨hxi, hpl⟩ := hV pre x hVx
    have hal : ∀ o, Below W.heap.size W (W.alloc o) := fun o => (Below.refl _ W).alloc (Nat.le_refl _) o
    have HL := fun W' : World => SA.lit (e := evE) (l := [x]) (n := 1) (cs := evA x) W' rfl (by rw [Enc.cells_one]; rfl) (by omega)
    have hp0 := Blk.new W 40 (evA x)
    have J0 := BoxJ.abides (e := evE) w Bx (Bx + 1) (by omega) _ _ _ _ _ hJW (Stp.of_below (hal (.cells (evA x) 40)))
    have hK0 := Keep.below (Y := fun k => R k ∨ X k) (hal (.cells (evA x) 40))
    obtain ⟨xt, xk, xc, xe, xv, xn⟩ := x
    dsimp only [evV, evA] at hp0 J0 hK0 HL ⊢
    gi_wp2
    refine ⟨hK0, fun W2 hs2 => ?_⟩
    have hp2 := hs2.blk (fun hx => by have := (hJW.2.2.2 _ hx).2; omega) hp0
    obtain ⟨⟨Ao, no, co, q1, q2, q3⟩, q4, q5, q6⟩ := BoxJ.abides w Bx _ (by omega) _ _ _ _ _ J0 hs2
    have hYY : ∀ k, (R k ∨ X k) → (k < Bx + 1 ∧ k ≠ Bx) ∨ X k := by
      rintro k (h5 | h5)
      · have := hR k h5; exact .inl ⟨by omega, by omega⟩
      · exact .inr h5
    have cB := q1.cell 0
    have fB := q1.frozen 0
    have p0 := hp2.cell 0
    have p1 := hp2.cell 1
    have p2 := hp2.cell 2
    have p3 := hp2.cell 3
    have p4 := hp2.cell 4
    have p5 := hp2.cell 5
    simp only [List.getElem?_toArray, List.getElem?_cons_zero, List.getElem?_cons_succ] at cB p0 p1 p2 p3 p4 p5
    have hno := q2.n_eq
    obtain ⟨A', c', w', eA, z1, z2, z3⟩ := box_app (w := w) (by omega) q1 q2 q3 q4 q5 q6 (Bel.al (Below.refl _ W2) _) (HL W2) (by omega) hbw hYY
    have fz := z1.frozen 0
    have cz := z1.cell 0
    simp only [List.getElem?_toArray, List.getElem?_cons_zero] at cz
    have HZ2 := Lib.hid z2
    have HZ3 := Lib.hid z3
    clear z2 z3 q1 q2 q3 q4 q5 q6 hp0 hp2 J0 hK0 hal hJW hseq hx hB hrec hDef HL
    gi_wp2_with (refine wpListIn_append_eq (v1 := .slice Ao no co) (v2 := .slice (some ⟨W2.heap.size, 0, none⟩) 1 1) rfl (.tmp 8) (.tmp 10) 22 rfl rfl rfl eA ?_; clear eA)
    exact ⟨HZ2.out, HZ3.out⟩
end Go.Proofs.Ytmfdflfjllpceaa
