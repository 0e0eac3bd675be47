/- Layer 50: slices.Compact at events that the call owns. -/
import Derived.Test.YtmfdflfjllpceaaZMvK
import Derived.Test.YtmfdflfjllpceaaZPut
namespace Go.Proofs.Ytmfdflfjllpceaa
open Go.RowKit

theorem compS_snoc : ∀ {m : List Ev} {x y : Ev}, m.getLast? = some y → compS (m ++ [x]) = if y = x then compS m else compS m ++ [x]
  | [], _, _, h => by simp at h
  | [a], x, y, h => by
    simp only [List.getLast?_singleton, Option.some.injEq] at h
    subst h
    simp only [List.cons_append, List.nil_append, compS]
    split
    · rename_i e; rw [e]
    · rfl
  | a :: b :: m, x, y, h => by
    have h' : (b :: m).getLast? = some y := by rwa [List.getLast?_cons_cons] at h
    have ih := compS_snoc (m := b :: m) (x := x) h'
    simp only [List.cons_append] at ih ⊢
    rw [compS, compS, ih]
    by_cases hab : a = b
    · rw [if_pos hab, if_pos hab]
    · rw [if_neg hab, if_neg hab]
      split
      · rfl
      · rfl
theorem compS_step {l : List Ev} {k : Nat} {x y : Ev} (hx : l[k + 1]? = some x) (hy : l[k]? = some y) : compS (l.take (k + 1 + 1)) = if y = x then compS (l.take (k + 1)) else compS (l.take (k + 1)) ++ [x] := by
  have h1 : l.take (k + 1 + 1) = l.take (k + 1) ++ [x] := by rw [List.take_add_one (i := k + 1), hx]; rfl
  have h2 : (l.take (k + 1)).getLast? = some y := by rw [List.take_add_one, hy]; simp
  rw [h1, compS_snoc h2]
theorem ev_own {W : World} {B n c g k : Nat} {l : List Ev} (h : OA evE W B (some ⟨g, 0, none⟩) n c l) {x : Ev} (hx : l[k]? = some x) :
    W.cell? ⟨g, k * 6, none⟩ = some (.int .i64 x.tick) ∧ W.cell? ⟨g, k * 6 + 1, none⟩ = some (.int .i64 x.kind) ∧ W.cell? ⟨g, k * 6 + 2, none⟩ = some (.int .i64 x.ch) ∧
    W.cell? ⟨g, k * 6 + 3, none⟩ = some (.int .i64 x.key) ∧ W.cell? ⟨g, k * 6 + 4, none⟩ = some (.int .i64 x.val) ∧ W.cell? ⟨g, k * 6 + 5, none⟩ = some (.int .i64 x.no) := by
  have hk : k < n := by rw [← h.n_eq]; exact (List.getElem?_eq_some_iff.1 hx).1
  obtain ⟨g', e1, _, _, _, hc, _⟩ := h.at_ hk
  injection e1 with e1
  injection e1 with e1
  subst e1
  exact ⟨hc x 0 _ hx rfl, hc x 1 _ hx rfl, hc x 2 _ hx rfl, hc x 3 _ hx rfl, hc x 4 _ hx rfl, hc x 5 _ hx rfl⟩
set_option maxHeartbeats 8000000 in
set_option maxRecDepth 100000 in
theorem compact_any (A : Option Addr) (B n c : Nat) (l : List Ev) (w : World) (h : OA evE w B A n c l) (hm : n ≤ 34359738368) :
    Calls Try.prog 34 #[.slice A n c] w fun e w' => ∃ A' n' c', e = .returned (.slice A' n' c') ∧ OA evE w' B A' n' c' (compS l) ∧ Below B w w' := by
  have hn := h.n_eq
  have HL := Lib.hid hn
  by_cases h2 : n < 2
  · have hcomp : compS l = l := by
      match l, hn with
      | [], _ => rfl
      | [_], _ => rfl
      | _ :: _ :: _, hn => simp at hn; omega
    have h2' : (n : Int) < 2 := by omega
    have HO := Lib.hid h
    have HC := Lib.hid hcomp
    clear h hcomp hn
    go_enter Try.func34, Try.ntmps34
    go_wp2
    go_ret
    exact ⟨A, n, c, rfl, by rw [HC.out]; exact HO.out, Below.refl _ _⟩
  · have h2' : (2 : Int) ≤ (n : Int) := by omega
    obtain ⟨g, cur, rfl, hgB, _, hnc, _⟩ := h.pos (by omega)
    have HO := Lib.hid h
    have h0 : compS (l.take 1) = l.take 1 := by
      match l, hn with
      | [], _ => rfl
      | a :: r, _ => simp [compS]
    clear h hn
    go_enter Try.func34, Try.ntmps34
    go_wp2
    go_loopw [3] (fun i wr => ∃ k : Nat, k + 1 ≤ n ∧ i = .int .i64 ((k : Int) + 1) ∧ Hid (compS (l.take (k + 1)) = l.take (k + 1)) ∧ Hid (OA evE wr B (some ⟨g, 0, none⟩) n c l) ∧ Below B w wr) (fun i _ => n - (intOf i).toNat)
    case atStart => exact ⟨0, by omega, rfl, Lib.hid h0, HO, Below.refl _ _⟩
    case round =>
      clear h0
      obtain ⟨k, hk, rfl, hcm, hO, hB⟩ := hrel
      by_cases hlt : k + 1 < n
      · have hxl : k + 1 < l.length := by rw [HL.out]; exact hlt
        obtain ⟨x, hx⟩ : ∃ x, l[k + 1]? = some x := ⟨_, List.getElem?_eq_getElem hxl⟩
        obtain ⟨y, hy⟩ : ∃ y, l[k]? = some y := ⟨_, List.getElem?_eq_getElem (by omega)⟩
        obtain ⟨c0, c1, c2, c3, c4, c5⟩ := ev_own hO.out hx
        obtain ⟨d0, d1, d2, d3, d4, d5⟩ := ev_own hO.out hy
        have HSt := Lib.hid (compS_step hx hy)
        have HXY := Lib.hid (And.intro hx hy)
        clear hx hy hxl
        obtain ⟨x0, x1, x2, x3, x4, x5⟩ := x
        obtain ⟨y0, y1, y2, y3, y4, y5⟩ := y
        dsimp only at c0 c1 c2 c3 c4 c5 d0 d1 d2 d3 d4 d5
        have gi : (k : Int) + 1 < (n : Int) := by omega
        have gj : (k : Int) < (n : Int) := by omega
        have g0 : (0 : Int) ≤ (k : Int) + 1 := by omega
        have gk : (0 : Int) ≤ (k : Int) := by omega
        have gw : IntKind.i64.wrap (k : Int) = (k : Int) := IntWalk.i64_in _ (by omega)
        by_cases hab : x0 = y0 ∧ x1 = y1 ∧ x2 = y2 ∧ x3 = y3 ∧ x4 = y4 ∧ x5 = y5
        · obtain ⟨rfl, rfl, rfl, rfl, rfl, rfl⟩ := hab
          have HC0 := Lib.hid (show compS (l.take (k + 1 + 1)) = l.take (k + 1) by rw [HSt.out, if_pos rfl, hcm.out])
          obtain ⟨m, hmn⟩ : ∃ m, n - (k + 1) = m := ⟨_, rfl⟩
          have HNM := Lib.hid (show n = k + 1 + m by omega)
          obtain ⟨d, hd⟩ : ∃ d, c - (k + 1) = d := ⟨_, rfl⟩
          have eS := hO.out.cutFrom' (k := k + 1) hlt
          rw [hmn, hd] at eS
          replace eS : ∀ W', (Instr.slice 22 (.slice (some ⟨g, 0, none⟩) n c) (some (.int .i64 ((k : Int) + 1))) none none).run Try.prog W' = .ok (.slice (some ⟨g, (k + 1) * 6, none⟩) m d) W' := eS
          have HD := Lib.hid hd
          have HMN := Lib.hid hmn
          clear HSt hd hmn
          go_wp2_with fail
          refine wp_region_still_lit (by kernel_rfl) (by kernel_rfl) ?_
          repeat still_step
          refine wpStill_nil ?_
          go_wp2_with fail
          clear c0 c1 c2 c3 c4 c5 d0 d1 d2 d3 d4 d5 eS gi gj g0 gk gw
          go_loopw [3, 5] (fun a b wr2 => ∃ (kk p : Nat) (cr : List Ev), a = .int .i64 kk ∧ b = .int .i64 ((p : Int) + 1) ∧ p + 1 ≤ m ∧ kk ≤ k + 1 + p ∧ Hid (cr.take kk = compS (l.take (k + 1 + (p + 1)))) ∧ Hid (∀ j, k + 1 + p ≤ j → cr[j]? = l[j]?) ∧ Hid (OA evE wr2 B (some ⟨g, 0, none⟩) n c cr) ∧ Below B w wr2) (fun _ b _ => m - (intOf b).toNat)
          case atStart =>
            exact ⟨k + 1, 0, l, by simp, by simp, by have := HNM.out; omega, by omega, Lib.hid (HC0.out.symm), Lib.hid (fun j _ => rfl), Lib.hid hO.out.drew, hB.drew⟩
          case round =>
            clear hO hB HC0 hcm
            obtain ⟨kk, p, cr, rfl, rfl, hp, hkk, hT, hJ, hO2, hB2⟩ := hrel
            by_cases hlt2 : p + 1 < m
            · have hnm := HNM.out
              have hxl : k + 1 + (p + 1) < l.length := by rw [HL.out]; omega
              obtain ⟨x, hx⟩ : ∃ x, l[k + 1 + (p + 1)]? = some x := ⟨_, List.getElem?_eq_getElem hxl⟩
              obtain ⟨y, hy⟩ : ∃ y, l[k + 1 + p]? = some y := ⟨_, List.getElem?_eq_getElem (by omega)⟩
              obtain ⟨c0, c1, c2, c3, c4, c5⟩ := ev_own hO2.out ((hJ.out _ (by omega)).trans hx)
              obtain ⟨d0, d1, d2, d3, d4, d5⟩ := ev_own hO2.out ((hJ.out _ (by omega)).trans hy)
              have a1 : (k + 1 + (p + 1)) * 6 = (k + 1) * 6 + (p + 1) * 6 := Nat.add_mul _ _ _
              have a2 : (k + 1 + p) * 6 = (k + 1) * 6 + p * 6 := Nat.add_mul _ _ _
              rw [a1] at c0 c1 c2 c3 c4 c5
              rw [a2] at d0 d1 d2 d3 d4 d5
              have HSt := Lib.hid (compS_step (l := l) (k := k + 1 + p) hx hy)
              have hkn : kk < n := by omega
              obtain ⟨W', hst, hO3, hB3⟩ := hO2.out.drew.put hkn x
              have HO3 := Lib.hid hO3
              have HB3 := Lib.hid hB3
              clear hx hy hxl hO3 hB3 a1 a2
              obtain ⟨x0, x1, x2, x3, x4, x5⟩ := x
              obtain ⟨y0, y1, y2, y3, y4, y5⟩ := y
              dsimp only at c0 c1 c2 c3 c4 c5 d0 d1 d2 d3 d4 d5
              replace hst := Lib.hid (hst _ rfl)
              have gi : (p : Int) + 1 < (m : Int) := by omega
              have gj : (p : Int) < (m : Int) := by omega
              have g0 : (0 : Int) ≤ (p : Int) + 1 := by omega
              have gk : (0 : Int) ≤ (p : Int) := by omega
              have gw : IntKind.i64.wrap (p : Int) = (p : Int) := IntWalk.i64_in _ (by omega)
              have gkk : (0 : Int) ≤ (kk : Int) := by omega
              have gkn : (kk : Int) < (n : Int) := by omega
              have gw2 : IntKind.i64.wrap ((p : Int) + 1 + 1) = (p : Int) + 1 + 1 := IntWalk.i64_in _ (by omega)
              have gw3 : IntKind.i64.wrap ((kk : Int) + 1) = (kk : Int) + 1 := IntWalk.i64_in _ (by omega)
              clear hnm
              by_cases hab : x0 = y0 ∧ x1 = y1 ∧ x2 = y2 ∧ x3 = y3 ∧ x4 = y4 ∧ x5 = y5
              · obtain ⟨rfl, rfl, rfl, rfl, rfl, rfl⟩ := hab
                have HN := Lib.hid (show cr.take kk = compS (l.take (k + 1 + (p + 1 + 1))) by
                  have := HSt.out
                  rw [if_pos rfl] at this
                  rw [hT.out, show k + 1 + (p + 1 + 1) = k + 1 + p + 1 + 1 by omega, this]; rfl)
                clear HSt hst
                go_wp2_with fail
                refine wp_region_still_lit (by kernel_rfl) (by kernel_rfl) ?_
                repeat still_step
                refine wpStill_nil ?_
                go_wp2
                exact ⟨⟨kk, p + 1, cr, rfl, by simp <;> omega, by omega, by omega, HN, Lib.hid (fun j hj => hJ.out j (by omega)), Lib.hid hO2.out.drew, hB2.drew⟩, by simp only [intOf]; omega⟩
              · have HN := Lib.hid (show (cr.set kk ⟨x0, x1, x2, x3, x4, x5⟩).take (kk + 1) = compS (l.take (k + 1 + (p + 1 + 1))) by
                  have := HSt.out
                  rw [if_neg (fun h => hab (by injection h with h1 h2 h3 h4 h5 h6; exact ⟨h1.symm, h2.symm, h3.symm, h4.symm, h5.symm, h6.symm⟩))] at this
                  have hcl : kk < cr.length := by rw [hO2.out.n_eq]; exact hkn
                  rw [show k + 1 + (p + 1 + 1) = k + 1 + p + 1 + 1 by omega, this, take_succ_get (by simpa using hcl), List.getElem_set_self, List.take_set, List.set_eq_of_length_le (by rw [List.length_take]; omega), hT.out]; rfl)
                have hc : ¬ x0 = y0 ∨ (x0 = y0 ∧ ¬ x1 = y1) ∨ (x0 = y0 ∧ x1 = y1 ∧ ¬ x2 = y2) ∨ (x0 = y0 ∧ x1 = y1 ∧ x2 = y2 ∧ ¬ x3 = y3) ∨ (x0 = y0 ∧ x1 = y1 ∧ x2 = y2 ∧ x3 = y3 ∧ ¬ x4 = y4) ∨ (x0 = y0 ∧ x1 = y1 ∧ x2 = y2 ∧ x3 = y3 ∧ x4 = y4 ∧ ¬ x5 = y5) := by omega
                clear HSt hab
                rcases hc with h | ⟨rfl, h⟩ | ⟨rfl, rfl, h⟩ | ⟨rfl, rfl, rfl, h⟩ | ⟨rfl, rfl, rfl, rfl, h⟩ | ⟨rfl, rfl, rfl, rfl, rfl, h⟩
                all_goals
                  go_wp2_with fail
                  refine wp_region_still_lit (by kernel_rfl) (by kernel_rfl) ?_
                  repeat still_step
                  refine wpStill_nil ?_
                  go_wp2_with (refine wpList_store_agg rfl (.tmp 51) (.tmp 50) 40 rfl rfl rfl (Try.sizeOf40 _) hst.out ?_; clear hst)
                  exact ⟨⟨kk + 1, p + 1, _, by simp <;> omega, by simp <;> omega, by omega, by omega, HN, Lib.hid (fun j hj => by
                    rw [List.getElem?_set_ne (by omega)]; exact hJ.out j (by omega)), HO3, hB2.drew.trans HB3.out⟩, by simp only [intOf]; omega⟩
            · obtain rfl : p + 1 = m := by omega
              have hnm := HNM.out
              have hkn : kk < n := by omega
              have HR := Lib.hid (show cr.take kk = compS l by rw [hT.out, List.take_of_length_le (by rw [HL.out]; omega)])
              have hcut := hO2.out.cutFrom' hkn
              replace hcut : ∀ W', (Instr.slice 22 (.slice (some ⟨g, 0, none⟩) n c) (some (.int .i64 (kk : Int))) none none).run Try.prog W' = .ok (.slice (some ⟨g, kk * 6, none⟩) (n - kk) (c - kk)) W' := hcut
              obtain ⟨W', hcl, hO3, hB3⟩ := hO2.out.clear_ hkn (z := .agg #[.int .i64 0, .int .i64 0, .int .i64 0, .int .i64 0, .int .i64 0, .int .i64 0]) (fun w => Try.zeroValue40 w) rfl (by simp [Value.cells, Value.oneCell'])
              replace hcl : ∀ ty, (Builtin.clear_ #[22] ty #[.slice (some ⟨g, kk * 6, none⟩) (n - kk) (c - kk)]).run Try.prog wr = .ok (.tuple #[]) W' := hcl
              have hct := hO2.out.cutTo' hkn
              replace hct : ∀ W', (Instr.slice 22 (.slice (some ⟨g, 0, none⟩) n c) none (some (.int .i64 (kk : Int))) none).run Try.prog W' = .ok (.slice (some ⟨g, 0, none⟩) kk c) W' := hct
              have HO3 := Lib.hid hO3
              have HB3 := Lib.hid hB3
              clear hnm hkn hO3 hB3 hT hJ
              go_wp2
              go_ret
              exact ⟨_, kk, c, rfl, by rw [← HR.out]; exact HO3.out, hB2.trans HB3.out⟩
        · have HN := Lib.hid (show compS (l.take (k + 1 + 1)) = l.take (k + 1 + 1) by
            rw [HSt.out, if_neg (fun h => hab (by injection h with h1 h2 h3 h4 h5 h6; exact ⟨h1.symm, h2.symm, h3.symm, h4.symm, h5.symm, h6.symm⟩)), hcm.out, List.take_add_one (i := k + 1), HXY.out.1]; rfl)
          have gw2 : IntKind.i64.wrap ((k : Int) + 1 + 1) = (k : Int) + 1 + 1 := IntWalk.i64_in _ (by omega)
          have hc : ¬ x0 = y0 ∨ (x0 = y0 ∧ ¬ x1 = y1) ∨ (x0 = y0 ∧ x1 = y1 ∧ ¬ x2 = y2) ∨ (x0 = y0 ∧ x1 = y1 ∧ x2 = y2 ∧ ¬ x3 = y3) ∨ (x0 = y0 ∧ x1 = y1 ∧ x2 = y2 ∧ x3 = y3 ∧ ¬ x4 = y4) ∨ (x0 = y0 ∧ x1 = y1 ∧ x2 = y2 ∧ x3 = y3 ∧ x4 = y4 ∧ ¬ x5 = y5) := by omega
          clear HSt hab hcm
          rcases hc with h | ⟨rfl, h⟩ | ⟨rfl, rfl, h⟩ | ⟨rfl, rfl, rfl, h⟩ | ⟨rfl, rfl, rfl, rfl, h⟩ | ⟨rfl, rfl, rfl, rfl, rfl, h⟩
          all_goals
            go_wp2_with fail
            refine wp_region_still_lit (by kernel_rfl) (by kernel_rfl) ?_
            repeat still_step
            refine wpStill_nil ?_
            go_wp2
            exact ⟨⟨k + 1, by omega, by simp <;> omega, HN, Lib.hid hO.out.drew, hB.drew⟩, by simp only [intOf]; omega⟩
      · obtain rfl : k + 1 = n := by omega
        have HN := Lib.hid (show compS l = l by
          have := hcm.out
          rwa [List.take_of_length_le (by rw [HL.out]; omega)] at this)
        go_wp2
        go_ret
        exact ⟨_, _, c, rfl, by rw [HN.out]; exact hO.out, hB⟩
end Go.Proofs.Ytmfdflfjllpceaa
