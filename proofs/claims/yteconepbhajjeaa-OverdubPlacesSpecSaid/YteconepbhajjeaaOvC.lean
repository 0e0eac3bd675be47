/- Layer 44: the iterator over the runs. -/
import Derived.Test.YteconepbhajjeaaOvB
namespace Go.Proofs.Yteconepbhajjeaa
open Go.RowKit Go.Shelf
attribute [local go_sem] Oper.semAt_some

theorem SA.keep {α : Type} {e : Enc α} {w w' : World} {A : Option Addr} {n c : Nat} {l : List α} {Y : Nat → Prop} (h : SA e w A n c l) (hk : Keep Y w w') (hY : ∀ a, A = some a → 0 < n → Y a.block) : SA e w' A n c l :=
  ⟨h.1, h.2.1, h.2.2.1, h.2.2.2.1, fun hn => by
    obtain ⟨b, o, e1, hb, hc⟩ := h.2.2.2.2 hn
    exact ⟨b, o, e1, Nat.lt_of_lt_of_le hb hk.1, fun j u hu => hk.cell (p := ⟨b, o + j, none⟩) (show Y b from hY ⟨b, o, none⟩ e1 hn) (hc j u hu)⟩⟩
theorem runs_any (A : Option Addr) (n c : Nat) (h0 m : Int) (w : World) : Calls Try.prog 24 #[.slice A n c, .int .i64 h0, .int .i64 m] w fun e w' =>
    e = .returned (.func (.func 29) #[] #[.pointer (some ⟨w.heap.size, 0, none⟩), .pointer (some ⟨w.heap.size + 1, 0, none⟩), .pointer (some ⟨w.heap.size + 1 + 1, 0, none⟩)]) ∧
      ((w.alloc (.cells #[.slice A n c] 22)).alloc (.cells #[.int .i64 h0] 3)).alloc (.cells #[.int .i64 m] 3) = w' := by
  go_enter Try.func24, Try.ntmps24
  go_wp2
  go_ret
  exact ⟨rfl, rfl⟩
def rnEnc (r : Rn) : Array Value := #[.agg #[.int .i64 r.frm, .int .i64 r.many, .int .i64 r.song]]
theorem runs_take_succ {l : List Spn} {h n : Int} {k : Nat} {s : Spn} (hs : l[k]? = some s) : runsS (l.take (k + 1)) h n = runsS (l.take k) h n ++ (match runOf h n s with | some r => [r] | none => []) := by
  unfold runsS
  rw [List.take_add_one, hs, List.filterMap_append]
  congr 1
  simp only [Option.toList, List.filterMap_cons, List.filterMap_nil]
  cases runOf h n s <;> rfl
theorem runs_none {l : List Spn} {h n : Int} (hl : ∀ s ∈ l, runOf h n s = none) : runsS l h n = [] := by
  unfold runsS
  rw [List.filterMap_eq_nil_iff]
  exact hl
theorem runs_split (l : List Spn) (h n : Int) (k : Nat) : runsS l h n = runsS (l.take k) h n ++ runsS (l.drop k) h n := by
  unfold runsS
  rw [← List.filterMap_append, List.take_append_drop]
/-- The spans that lie wholly ahead make no run. -/
theorem runs_ahead {l : List Spn} {h n : Int} {k : Nat} (hk : ∀ j s, j < k → l[j]? = some s → endOf s ≤ h) : runsS (l.take k) h n = [] := by
  refine runs_none fun s hs => ?_
  obtain ⟨j, hj, rfl⟩ := List.getElem_of_mem hs
  simp only [List.length_take] at hj
  rw [List.getElem_take]
  have := hk j l[j] (by omega) (List.getElem?_eq_getElem (by omega))
  unfold endOf at this
  unfold runOf
  rw [if_neg (by rintro ⟨h1, _⟩; omega)]
/-- Nor do those that lie wholly behind. -/
theorem runs_behind {l : List Spn} {h n : Int} {k N : Nat} {s : Spn} (ho : OrdTo l N) (hN : l.length = N) (hs : l[k]? = some s) (hb : h + n ≤ max s.eng h) : runsS (l.drop k) h n = [] := by
  refine runs_none fun t ht => ?_
  obtain ⟨j, hj⟩ := List.mem_iff_getElem?.1 ht
  rw [List.getElem?_drop] at hj
  have hkl : k < l.length := (List.getElem?_eq_some_iff.1 hs).1
  have hjl : k + j < l.length := (List.getElem?_eq_some_iff.1 hj).1
  have he : s.eng ≤ t.eng := by
    rcases Nat.eq_zero_or_pos j with h0 | h0
    · subst h0
      rw [Nat.add_zero, hs] at hj
      injection hj with hj
      rw [hj]; exact Int.le_refl _
    · obtain ⟨d, rfl⟩ : ∃ d, j = d + 1 := ⟨j - 1, by omega⟩
      have hdl : k + d < l.length := by omega
      have h1 := ends_mono ho d (j := k) (s := s) (t := l[k + d]) (by omega) hs (List.getElem?_eq_getElem hdl)
      have h2 := (ho (k + (d + 1)) t (by omega) hj).1
      have h3 := ord_bounds ho (by omega) hs
      rw [show k + (d + 1) = (k + d) + 1 by omega, endAt_succ (List.getElem?_eq_getElem hdl)] at h2
      unfold endOf at h1
      omega
  unfold runOf
  rw [if_neg (by rintro ⟨h1, _⟩; omega)]

theorem runs_next {l : List Spn} {h n : Int} {k : Nat} {s : Spn} {r : Rn} (hs : l[k]? = some s) (hr : runOf h n s = some r) : (runsS l h n)[(runsS (l.take k) h n).length]? = some r ∧ runsS (l.take k) h n = (runsS l h n).take (runsS (l.take k) h n).length := by
  have e := runs_split l h n k
  have hkl : k < l.length := (List.getElem?_eq_some_iff.1 hs).1
  have hd : l.drop k = s :: l.drop (k + 1) := by
    rw [List.drop_eq_getElem_cons hkl]
    rw [List.getElem?_eq_getElem hkl] at hs
    injection hs with hs
    rw [hs]
  have hr2 : runsS (l.drop k) h n = r :: runsS (l.drop (k + 1)) h n := by
    rw [hd]; unfold runsS; rw [List.filterMap_cons, hr]
  rw [hr2] at e
  constructor
  · rw [e, List.getElem?_append_right (Nat.le_refl _), Nat.sub_self]; rfl
  · conv => rhs; rw [e]
    rw [List.take_left']
    rfl
theorem span_cutFrom {w : World} {A : Option Addr} {n c lo : Nat} {l : List Spn} (h : SA spanE w A n c l) (h1 : lo ≤ n) :
    ∃ A' c', (∀ W, (Instr.slice 22 (.slice A n c) (some (.int .i64 (lo : Int))) none none).run Try.prog W = .ok (.slice A' (n - lo) c') W) ∧ SA spanE w A' (n - lo) c' (l.drop lo) := h.cutFrom rfl h1 rfl
set_option maxHeartbeats 4000000 in
set_option maxRecDepth 100000 in
theorem runs_seq (g n c PL PH PN : Nat) (A : Option Addr) (l : List Spn) (h0 : Int) (m : Nat) (w : World) (h : SA spanE w A n c l) (ho : OrdTo l n) (hn : n ≤ 65536) (hh : -2097152 ≤ h0 ∧ h0 ≤ 1099511627776) (hm : m ≤ 16777216) (hg : 1 ≤ g)
    (cL : w.cell? ⟨PL, 0, none⟩ = some (.slice A n c)) (cH : w.cell? ⟨PH, 0, none⟩ = some (.int .i64 h0)) (cN : w.cell? ⟨PN, 0, none⟩ = some (.int .i64 (m : Int))) :
    SeqX FW g Try.prog 29 #[.pointer (some ⟨PL, 0, none⟩), .pointer (some ⟨PH, 0, none⟩), .pointer (some ⟨PN, 0, none⟩)] rnEnc (fun k => k = PL ∨ k = PH ∨ k = PN ∨ ∃ a, A = some a ∧ 0 < n ∧ k = a.block)
      (fun xs => xs = runsS l h0 m) (fun _ => True) (fun pre x => (runsS l h0 m)[pre.length]? = some x ∧ pre = (runsS l h0 m).take pre.length) w := by
  intro lp J Jx X0 W hW hJ hJx hX0 hY hJ0
  have hHL := Lib.hid h.n_eq
  have HO := Lib.hid ho
  have hSW := h.below hW
  have cLW := (hW.cell (lt_of_cell cL)).trans cL
  have cHW := (hW.cell (lt_of_cell cH)).trans cH
  have cNW := (hW.cell (lt_of_cell cN)).trans cN
  obtain ⟨hh1, hh2⟩ := hh
  clear h cL cH cN hW ho
  have hE0 : Below W.heap.size W W := Below.refl _ _
  refine callsIn_of_wp Try.func29 rfl trivial ?_ rfl
  simp only [Try.ntmps29, List.size_toArray, List.length_cons, List.length_nil, Nat.reduceAdd, Nat.reduceSub, Array.replicate_succ, Array.replicate_zero, List.push_toArray, List.append_toArray, List.nil_append, List.cons_append]
  have CS := search_any A n c PL PH l h0 W hSW cLW cHW HO.out hn
  have cC : ∀ w1, Below W.heap.size W w1 → w1.cell? ⟨PL, 0, none⟩ = some (.slice A n c) ∧ w1.cell? ⟨PH, 0, none⟩ = some (.int .i64 h0) ∧ w1.cell? ⟨PN, 0, none⟩ = some (.int .i64 (m : Int)) ∧ SA spanE w1 A n c l :=
    fun w1 hb => ⟨(hb.cell (lt_of_cell cLW)).trans cLW, (hb.cell (lt_of_cell cHW)).trans cHW, (hb.cell (lt_of_cell cNW)).trans cNW, hSW.below hb⟩
  have HCC := Lib.hid cC
  have HcutF := Lib.hid (fun w1 (hs : SA spanE w1 A n c l) (fk : Nat) (hf : fk ≤ n) => span_cutFrom hs hf)
  clear cC hSW
  gi_wp2_with (refine ⟨trivial, ?_⟩; gi_at_call 30; refine (callsIn_wide.2 CS).mono ?_; rintro e w1 ⟨fk, rfl, hb1, hfn, hfk⟩; obtain ⟨cL1, cH1, cN1, hS1⟩ := HCC.out w1 hb1; obtain ⟨A', c', eS, hS2⟩ := HcutF.out w1 hS1 fk hfn; have HFK := Lib.hid hfk; have HS2 := Lib.hid hS2; clear hfk hS2 CS)
  obtain ⟨q, hq⟩ : ∃ q, n - fk = q := ⟨_, rfl⟩
  rw [hq] at HS2 ⊢
  gi_loopw [18] (fun i wr => ∃ (k : Nat) (X : Nat → Prop), k ≤ q ∧ i = .int .i64 k ∧ Hid (J (runsS (l.take (fk + k)) h0 m) X wr) ∧ (∀ k, X k → k < wr.heap.size) ∧ wr.cell? ⟨PL, 0, none⟩ = some (.slice A n c) ∧ wr.cell? ⟨PH, 0, none⟩ = some (.int .i64 h0) ∧ wr.cell? ⟨PN, 0, none⟩ = some (.int .i64 (m : Int)) ∧ SA spanE wr A n c l) (fun i _ => q - (intOf i).toNat)
  case atStart =>
    refine ⟨0, X0, Nat.zero_le _, rfl, Lib.hid ?_, fun k hk => Nat.lt_of_lt_of_le (hX0 k hk) hb1.size, cL1, cH1, cN1, hS1⟩
    rw [Nat.add_zero, runs_ahead HFK.out]
    exact hJ _ _ _ _ _ hJ0 (Stp.of_below hb1)
  case round =>
    clear cL1 cH1 cN1 hS1 cLW cHW cNW hb1
    obtain ⟨k, X, hk, rfl, HJ, hX, cL1, cH1, cN1, hS1⟩ := hrel
    by_cases hlt : k < q
    · have hkl : fk + k < l.length := by rw [hHL.out]; omega
      obtain ⟨A2, c2, eS2, hS2⟩ := HcutF.out wr hS1 fk hfn
      have hAA := (eS wr).symm.trans (eS2 wr)
      injection hAA with hAA
      injection hAA with hA1 hA2 hA3
      subst hA1 hA3
      rw [hq] at hS2
      clear eS2 hA2
      obtain ⟨s, hs⟩ : ∃ s, l[fk + k] = s := ⟨_, rfl⟩
      have hs' : l[fk + k]? = some s := by rw [List.getElem?_eq_getElem hkl, hs]
      obtain ⟨bb, oo, hAe, _, c0, c1, c2, c3, c4⟩ := span_at hS2 (k := k) (by rw [List.length_drop]; omega) (s := s) (by rw [List.getElem_drop]; exact hs)
      obtain ⟨i1, i2, i3, i4, i5, i6⟩ := ord_bounds HO.out (by have := hHL.out; omega) hs'
      have HS' := Lib.hid hs'
      clear hS2
      subst hAe

      have J1 : J (runsS (l.take (fk + k)) h0 m) (fun i => X i ∨ i = wr.heap.size) (wr.alloc (.cells #[.int .i64 s.eng, .int .i64 s.len, .int .i64 s.song, .bool s.roll, .bool s.rcd] 50)) := hJ _ _ _ _ _ HJ.out (Stp.alloc _ _ _)
      have HJ1 := Lib.hid J1
      have hrest := runs_split l h0 m (fk + k)
      have HRest := Lib.hid hrest
      clear J1 hrest
      obtain ⟨F, hF⟩ : ∃ F, (if s.eng < h0 then h0 else s.eng) = F := ⟨_, rfl⟩
      obtain ⟨T, hT⟩ : ∃ T, (if h0 + (m : Int) < s.eng + s.len then h0 + (m : Int) else s.eng + s.len) = T := ⟨_, rfl⟩
      have hFm : F = max s.eng h0 := by rw [← hF]; split <;> omega
      have hTm : T = min (s.eng + s.len) (h0 + m) := by rw [← hT]; split <;> omega
      have hFb : -2097152 ≤ F ∧ F ≤ 2199023255552 ∧ h0 ≤ F ∧ s.eng ≤ F := by omega
      have hTb : -2097152 ≤ T ∧ T ≤ 2199023255552 := by omega
      have hro : runOf h0 m s = if F < T ∧ on s = true then some ⟨F - h0, T - F, s.song + F - s.eng⟩ else none := by rw [hFm, hTm]; rfl
      have HRO := Lib.hid hro
      have HFm := Lib.hid hFm
      obtain ⟨f1, f2, f3, f4⟩ := hFb
      obtain ⟨t1, t2⟩ := hTb
      have gE : IntKind.i64.wrap (s.eng + s.len) = s.eng + s.len := IntWalk.i64_in _ (by omega)
      have gN : IntKind.i64.wrap (h0 + (m : Int)) = h0 + (m : Int) := IntWalk.i64_in _ (by omega)
      have hbx := Blk.new wr 50 #[.int .i64 s.eng, .int .i64 s.len, .int .i64 s.song, .bool s.roll, .bool s.rcd]
      obtain ⟨Wb, hWb⟩ : ∃ Wb, wr.alloc (.cells #[.int .i64 s.eng, .int .i64 s.len, .int .i64 s.song, .bool s.roll, .bool s.rcd] 50) = Wb := ⟨_, rfl⟩
      have hL2 := cell_al cL1 (.cells #[.int .i64 s.eng, .int .i64 s.len, .int .i64 s.song, .bool s.roll, .bool s.rcd] 50)
      have hH2 := cell_al cH1 (.cells #[.int .i64 s.eng, .int .i64 s.len, .int .i64 s.song, .bool s.roll, .bool s.rcd] 50)
      have hN2 := cell_al cN1 (.cells #[.int .i64 s.eng, .int .i64 s.len, .int .i64 s.song, .bool s.roll, .bool s.rcd] 50)
      have hS3 := hS1.alloc (.cells #[.int .i64 s.eng, .int .i64 s.len, .int .i64 s.song, .bool s.roll, .bool s.rcd] 50)
      have hX2 : ∀ i, (X i ∨ i = wr.heap.size) → i < Wb.heap.size := by rw [← hWb]; intro i hi; simp; rcases hi with h5 | h5; exact Nat.lt_succ_of_lt (hX i h5); omega
      rw [hWb] at HJ1 hbx hL2 hH2 hN2 hS3
      have HWb := Lib.hid hWb
      have b0 := hbx.cell 0
      have b1 := hbx.cell 1
      have b2 := hbx.cell 2
      have b3 := hbx.cell 3
      have b4 := hbx.cell 4
      simp only [List.getElem?_toArray, List.getElem?_cons_zero, List.getElem?_cons_succ] at b0 b1 b2 b3 b4
      have e0 : ∀ z : Ext Wb, z.W.cell? ⟨wr.heap.size, 0, none⟩ = some (.int .i64 s.eng) := fun z => z.cell b0
      have e1 : ∀ z : Ext Wb, z.W.cell? ⟨wr.heap.size, 1, none⟩ = some (.int .i64 s.len) := fun z => z.cell b1
      have e2 : ∀ z : Ext Wb, z.W.cell? ⟨wr.heap.size, 2, none⟩ = some (.int .i64 s.song) := fun z => z.cell b2
      have e3 : ∀ z : Ext Wb, z.W.cell? ⟨wr.heap.size, 3, none⟩ = some (.bool s.roll) := fun z => z.cell b3
      have e4 : ∀ z : Ext Wb, z.W.cell? ⟨wr.heap.size, 4, none⟩ = some (.bool s.rcd) := fun z => z.cell b4
      have e5 : ∀ z : Ext Wb, z.W.cell? ⟨PH, 0, none⟩ = some (.int .i64 h0) := fun z => z.cell hH2
      have e6 : ∀ z : Ext Wb, z.W.cell? ⟨PN, 0, none⟩ = some (.int .i64 (m : Int)) := fun z => z.cell hN2
      clear hro hFm hTm b0 b1 b2 b3 b4 hbx hs hs'
      gi_wp2
      refine wpInW_region_ext' (by kernel_rfl) (by kernel_rfl) rfl ?_
      repeat (go_big_quiet_step (fail))
      refine wpQuiet_nil ?_
      rintro _ ⟨z, rfl⟩
      by_cases hcut : h0 + (m : Int) ≤ F
      · have d5 : decide (h0 + (m : Int) ≤ F) = true := by simpa using hcut
        have HE := Lib.hid (show runsS (l.take (fk + k)) h0 m = runsS l h0 m by
          rw [HRest.out, runs_behind HO.out hHL.out HS'.out (by rw [← HFm.out]; exact hcut), List.append_nil])
        gi_wp2
        refine bodyPost_ret (results_none rfl _ _ _) rfl ?_
        exact ⟨⟨_, rfl⟩, .inl ⟨_, _, rfl, by rw [← HE.out]; exact hJ _ _ _ _ _ HJ1.out (Stp.of_below z.h)⟩⟩
      · have d5 : decide (h0 + (m : Int) ≤ F) = false := by simpa using hcut
        have JZ := Lib.hid (hJ _ _ _ _ _ HJ1.out (Stp.of_below z.h))
        have hLz := z.cell hL2
        have hSz := hS3.below z.h
        have hXz : ∀ i, (X i ∨ i = wr.heap.size) → i < z.W.heap.size := fun i hi => Nat.lt_of_lt_of_le (hX2 i hi) z.h.size
        have hno := runs_take_succ (h := h0) (n := m) HS'.out
        rw [HRO.out] at hno
        have HNO := Lib.hid hno
        clear hno
        by_cases hFT : F < T
        · have d6 : decide (F < T) = true := by simpa using hFT
          obtain ⟨ro, hro⟩ : ∃ b, s.roll = b := ⟨_, rfl⟩
          obtain ⟨rc, hrc⟩ : ∃ b, s.rcd = b := ⟨_, rfl⟩
          rw [hro] at e3
          rw [hrc] at e4
          cases ro with
          | false =>
            have hno := HNO.out
            rw [if_neg (by rintro ⟨_, h5⟩; simp [on, hro] at h5), List.append_nil] at hno
            have HN2 := Lib.hid hno
            clear hno
            gi_wp2
            refine ⟨(fun _ h5 => nomatch h5), ?_⟩
            gi_wp2
            refine ⟨⟨k + 1, _, by omega, by simp, Lib.hid (by rw [show fk + (k + 1) = fk + k + 1 by omega, HN2.out]; exact JZ.out), hXz, hLz, e5 z, e6 z, hSz⟩, by simp only [intOf]; omega⟩
          | true =>
            cases rc with
            | false =>
              have hno := HNO.out
              rw [if_neg (by rintro ⟨_, h5⟩; simp [on, hro, hrc] at h5), List.append_nil] at hno
              have HN2 := Lib.hid hno
              clear hno
              gi_wp2
              refine ⟨(fun _ h5 => nomatch h5), ?_⟩
              gi_wp2
              refine ⟨⟨k + 1, _, by omega, by simp, Lib.hid (by rw [show fk + (k + 1) = fk + k + 1 by omega, HN2.out]; exact JZ.out), hXz, hLz, e5 z, e6 z, hSz⟩, by simp only [intOf]; omega⟩
            | true =>
              have hon : F < T ∧ on s = true := ⟨hFT, by simp [on, hro, hrc]⟩
              have hno := HNO.out
              rw [if_pos hon] at hno
              have HN2 := Lib.hid hno
              have hrr := HRO.out
              rw [if_pos hon] at hrr
              obtain ⟨fn, tmps, assign, body, hy, hR⟩ := hY _ _ _ z.W JZ.out (runs_next HS'.out hrr)
              dsimp only [rnEnc] at hy
              have g1 : IntKind.i64.wrap (F - h0) = F - h0 := IntWalk.i64_in _ (by omega)
              have g2 : IntKind.i64.wrap (T - F) = T - F := IntWalk.i64_in _ (by omega)
              have g3 : IntKind.i64.wrap (s.song + F) = s.song + F := IntWalk.i64_in _ (by omega)
              have g4 : IntKind.i64.wrap (s.song + F - s.eng) = s.song + F - s.eng := IntWalk.i64_in _ (by omega)
              clear hno hrr hon
              gi_wp2
              refine hR.mono ?_
              rintro e W3 (⟨rfl, hJ3, hk3⟩ | ⟨rfl, hJx3⟩)
              · have hL4 := hk3.cell (p := ⟨PL, 0, none⟩) (.inl (.inl rfl)) hLz
                have hH4 := hk3.cell (p := ⟨PH, 0, none⟩) (.inl (.inr (.inl rfl))) (e5 z)
                have hN4 := hk3.cell (p := ⟨PN, 0, none⟩) (.inl (.inr (.inr (.inl rfl)))) (e6 z)
                have hS4 := hSz.keep hk3 (fun a ha hn0 => .inl (.inr (.inr (.inr ⟨a, ha, hn0, rfl⟩))))
                have HJ3 := Lib.hid hJ3
                clear hJ3 hy hY
                gi_wp2
                refine ⟨⟨k + 1, _, by omega, by simp, Lib.hid (by rw [show fk + (k + 1) = fk + k + 1 by omega, HN2.out]; exact HJ3.out), fun i hi => Nat.lt_of_lt_of_le (hXz i hi) hk3.1, hL4, hH4, hN4, hS4⟩, by simp only [intOf]; omega⟩
              · gi_wp2
                refine bodyPost_ret (results_none rfl _ _ _) rfl ?_
                exact ⟨⟨_, rfl⟩, .inr ⟨_, _, trivial, hJx3⟩⟩
        · have d6 : decide (F < T) = false := by simpa using hFT
          have hno := HNO.out
          rw [if_neg (fun h5 => hFT h5.1), List.append_nil] at hno
          have HN2 := Lib.hid hno
          clear hno
          gi_wp2
          refine ⟨(fun _ h5 => nomatch h5), ?_⟩
          gi_wp2
          refine ⟨⟨k + 1, _, by omega, by simp, Lib.hid (by rw [show fk + (k + 1) = fk + k + 1 by omega, HN2.out]; exact JZ.out), hXz, hLz, e5 z, e6 z, hSz⟩, by simp only [intOf]; omega⟩
    · obtain rfl : k = q := by omega
      have HE := Lib.hid (show runsS (l.take (fk + k)) h0 m = runsS l h0 m by rw [List.take_of_length_le (by rw [hHL.out]; omega)])
      gi_wp2
      go_end0
      exact ⟨⟨_, rfl⟩, .inl ⟨_, _, rfl, by rw [← HE.out]; exact HJ.out⟩⟩
end Go.Proofs.Yteconepbhajjeaa
