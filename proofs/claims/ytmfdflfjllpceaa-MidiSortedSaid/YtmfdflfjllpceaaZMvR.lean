/- Layer 50: the iterator over a part's events. -/
import Derived.Test.YtmfdflfjllpceaaZMvQ
namespace Go.Proofs.Ytmfdflfjllpceaa
open Go.RowKit Go.Shelf
attribute [local go_sem] Oper.semAt_some

/-- Does the note end before hi? -/
def endsB (l : List Ev) (hi j : Int) : Bool := decide (0 ≤ j) && ((l[j.toNat]?).map fun y => decide (y.tick < hi)).getD false
/-- The end that is added for a note. -/
def offOf (l : List Ev) (fr hi : Int) (q : Int × Int) : Option Ev := match l[q.1.toNat]? with
  | some x => if fr ≤ x.tick ∧ x.tick < hi ∧ endsB l hi q.2 = false then some ⟨hi, 1, x.ch, x.key, 0, x.no⟩ else none
  | none => none
def offE (l : List Ev) (fr hi : Int) (p : Nat) : List Ev := ((notesM l).take p).filterMap (offOf l fr hi)
theorem offE_succ {l : List Ev} {fr hi : Int} {p : Nat} {q : Int × Int} (h : (notesM l)[p]? = some q) : offE l fr hi (p + 1) = offE l fr hi p ++ match offOf l fr hi q with | some e => [e] | none => [] := by
  unfold offE
  rw [List.take_add_one, h, List.filterMap_append]
  congr 1
  simp only [Option.toList, List.filterMap_cons, List.filterMap_nil]
  cases offOf l fr hi q <;> rfl
theorem offE_len (l : List Ev) (fr hi : Int) (p : Nat) : (offE l fr hi p).length ≤ p := by
  have h1 := List.length_filterMap_le (offOf l fr hi) ((notesM l).take p)
  have h2 : ((notesM l).take p).length ≤ p := by rw [List.length_take]; omega
  unfold offE; omega
/-- Notes lie within the list. -/
def NOk (m : Nat) (q : Int × Int) : Prop := (∃ i : Nat, q.1 = (i : Int) ∧ i < m) ∧ (q.2 = -1 ∨ ∃ j : Nat, q.2 = (j : Int) ∧ j < m)
theorem NOk.mono {m k : Nat} {q : Int × Int} (h : NOk m q) (hk : m ≤ k) : NOk k q := by
  obtain ⟨⟨i, h1, h2⟩, h3⟩ := h
  refine ⟨⟨i, h1, by omega⟩, h3.imp id ?_⟩
  rintro ⟨j, h4, h5⟩
  exact ⟨j, h4, by omega⟩
theorem notes_ok (l : List Ev) : ∀ k, ∀ q ∈ (eAt l k).notes, NOk k q
  | 0, q, h => by cases h
  | k + 1, q, h => by
    have ih := notes_ok l k
    cases hx : l[k]? with
    | none => rw [eAt, hx] at h; exact (ih q h).mono (by omega)
    | some x =>
      rw [eAt_succ hx] at h
      have h1 : ∀ q ∈ (eEnd (eAt l k) k x).notes, NOk (k + 1) q := by
        intro q hq
        unfold eEnd at hq
        split at hq
        · rename_i n hn
          have hnl := (eAt_ok l k).1 _ _ hn
          dsimp only at hq
          rcases List.mem_or_eq_of_mem_set hq with h5 | rfl
          · exact (ih q h5).mono (by omega)
          · have h6 := ih _ (List.getElem_mem hnl)
            rw [List.getD_eq_getElem?_getD, List.getElem?_eq_getElem hnl]
            exact ⟨(h6.mono (Nat.le_succ k)).1, .inr ⟨k, rfl, by omega⟩⟩
        · exact (ih q hq).mono (by omega)
      unfold eStep at h
      split at h
      · exact (ih q h).mono (by omega)
      · split at h
        · unfold eOn at h
          rcases List.mem_append.1 h with h5 | h5
          · exact h1 q h5
          · rw [List.mem_singleton] at h5
            subst h5
            exact ⟨⟨k, rfl, by omega⟩, .inl rfl⟩
        · exact h1 q h
/-- What has been yielded at the end. -/
def PartS (l : List Ev) (fr hi : Int) (xs : List Ev) : Prop :=
  xs.length ≤ 3 * l.length ∧ ∀ e, e ∈ xs ↔ e ∈ inE l fr hi l.length ∨ (∃ v, cAt l fr l.length v = some e) ∨ e ∈ offE l fr hi (notesM l).length
theorem cAt_evI {l : List Ev} {fr : Int} (hI : ∀ e ∈ l, EvI e) (hfr : I64 fr) {k : Nat} {v : Vc} {e : Ev} (h : cAt l fr k v = some e) : EvI e := by
  obtain ⟨x, hx, _, rfl, _⟩ := cAt_mem h
  have h2 := hI x hx
  intro z hz
  simp only [atTick, ekey, List.mem_cons, List.not_mem_nil, or_false] at hz
  rcases hz with rfl | rfl | rfl | rfl | rfl | rfl
  · exact hfr
  all_goals exact h2 _ (by simp [ekey])
set_option maxHeartbeats 8000000 in
set_option maxRecDepth 100000 in
theorem part_seq (g n c PL PF PT : Nat) (A : Option Addr) (l : List Ev) (fr hi : Int) (w : World) (h : SA evE w A n c l) (hI : ∀ e ∈ l, EvI e) (hfr : I64 fr) (hhi : I64 hi) (hg : 2 ≤ g) (hm : n ≤ 4294967296)
    (cL : w.cell? ⟨PL, 0, none⟩ = some (.slice A n c)) (cF : w.cell? ⟨PF, 0, none⟩ = some (.int .i64 fr)) (cT : w.cell? ⟨PT, 0, none⟩ = some (.int .i64 hi)) :
    SeqX FW g Try.prog 53 #[.pointer (some ⟨PL, 0, none⟩), .pointer (some ⟨PF, 0, none⟩), .pointer (some ⟨PT, 0, none⟩)] evV (PR A n PL PF PT)
      (PartS l fr hi) (fun _ => True) (fun pre x => EvI x ∧ pre.length < 34359738368) w := by
  intro lp J Jx X0 W hW hJ hJx hX0 hY hJ0
  have HL := Lib.hid h.n_eq
  have HI := Lib.hid hI
  have hma : ∀ a, A = some a → 0 < n → a.block < w.heap.size := by
    intro a ha hn0
    obtain ⟨b, o, e1, hb, _⟩ := h.all_ hn0
    rw [ha] at e1
    injection e1 with e1
    rw [e1]; exact hb
  have hP0 : PC A n c PL PF PT W.heap.size l fr hi W := by
    have hp : PC A n c PL PF PT w.heap.size l fr hi w := ⟨cL, cF, cT, h, lt_of_cell cL, lt_of_cell cF, lt_of_cell cT, hma⟩
    have h1 := hp.below hW
    have h2 := hW.size
    exact ⟨h1.cl, h1.cf, h1.ct, h1.sa, Nat.lt_of_lt_of_le h1.ml h2, Nat.lt_of_lt_of_le h1.mf h2, Nat.lt_of_lt_of_le h1.mt h2, fun a ha hn => Nat.lt_of_lt_of_le (h1.ma a ha hn) h2⟩
  have hlen := h.len
  have hg1 : 1 ≤ g := by omega
  clear h hI cL cF cT hW hma
  have hmk : ∀ W, (Instr.makeMap 83 none).run Try.prog W = .ok (.map (some W.heap.size)) (W.alloc (.map #[] 0)) := fun W => run_makeMap _ W
  have hM0 := MB.made EvV W
  have hJ1 := hJ _ _ _ _ _ hJ0 (Stp.alloc X0 W (.map #[] 0))
  have hP1 := hP0.below ((Below.refl W.heap.size W).alloc (Nat.le_refl _) (.map #[] 0))
  have hX1 : ∀ k, (X0 k ∨ k = W.heap.size) → k < (W.alloc (.map #[] 0)).heap.size := by
    rintro k (h5 | h5)
    · have := hX0 k h5; rw [World.size_alloc]; omega
    · rw [World.size_alloc]; omega
  refine callsIn_of_wp Try.func53 rfl trivial ?_ rfl
  simp only [Try.ntmps53, List.size_toArray, List.length_cons, List.length_nil, Nat.reduceAdd, Nat.reduceSub, Array.replicate_succ, Array.replicate_zero, List.push_toArray, List.append_toArray, List.nil_append, List.cons_append]
  have cl1 := hP1.cl
  gi_wp2
  gi_loopw [16] (fun i wr => ∃ (k : Nat) (X : Nat → Prop), k ≤ n ∧ i = .int .i64 (k : Int) ∧ Hid (J (inE l fr hi k) X wr) ∧ X W.heap.size ∧ Hid (PC A n c PL PF PT W.heap.size l fr hi wr) ∧ Hid (MB EvV wr W.heap.size (cAt l fr k)) ∧ Hid (∀ k, X k → k < wr.heap.size)) (fun i _ => n - (intOf i).toNat)
  case atStart => exact ⟨0, _, Nat.zero_le _, rfl, Lib.hid hJ1, .inr rfl, Lib.hid hP1, Lib.hid hM0, Lib.hid hX1⟩
  case round =>
    clear hP0 hP1 hM0 hJ1 hX1 hX0 hJ0 cl1
    obtain ⟨k, X, hk, rfl, HJ, hXb, HP, HM, HXs⟩ := hrel
    by_cases hlt : k < n
    · have hkl : k < l.length := by rw [HL.out]; exact hlt
      obtain ⟨s, hs⟩ : ∃ s, l[k] = s := ⟨_, rfl⟩
      have hs' : l[k]? = some s := by rw [List.getElem?_eq_getElem hkl, hs]
      obtain ⟨bb, oo, hAe, _, c0, c1, c2, c3, c4, c5⟩ := ev_at HP.out.sa hkl hs
      have hsI : EvI s := HI.out s (List.mem_of_getElem? hs')
      have HsI := Lib.hid hsI
      have HC := Lib.hid (cAt_succ (fr := fr) hs')
      have HN := Lib.hid (inE_succ (fr := fr) (hi := hi) hs')
      have HIL := Lib.hid (inE_len l fr hi k)
      have g3 : (0 : Int) ≤ (k : Int) := by omega
      have g4 : (k : Int) < (n : Int) := by omega
      have hbx := Blk.new wr 40 (evA s)
      have HBX := Lib.hid hbx
      have HJ1 := Lib.hid (hJ _ _ _ _ _ HJ.out (Stp.alloc X wr (.cells (evA s) 40)))
      have hbel := (Below.refl wr.heap.size wr).alloc (Nat.le_refl _) (.cells (evA s) 40)
      have HM1 := Lib.hid (HM.out.below hbel)
      have hWs := HM.out.lt
      have HWs := Lib.hid hWs
      have HP1 := Lib.hid (HP.out.below (hbel.mono (Nat.le_of_lt hWs)))
      have HX1 : Hid (∀ j, (X j ∨ j = wr.heap.size) → j < (wr.alloc (.cells (evA s) 40)).heap.size) := Lib.hid (by
        rintro j (h5 | h5)
        · have := HXs.out j h5; rw [World.size_alloc]; omega
        · rw [World.size_alloc]; omega)
      have cf1 := HP1.out.cf
      have ct1 := HP1.out.ct
      clear hs hs' hsI hbel HJ HP HM HXs
      obtain ⟨st, sk, sc, se, sv, sn⟩ := s
      subst hAe
      dsimp only [evA] at *
      have d0 := hbx.cell 0
      have d1 := hbx.cell 1
      have d2 := hbx.cell 2
      have d3 := hbx.cell 3
      have d4 := hbx.cell 4
      have d5 := hbx.cell 5
      simp only [List.getElem?_toArray, List.getElem?_cons_zero, List.getElem?_cons_succ] at d0 d1 d2 d3 d4 d5
      clear hbx
      have hq0 : sk = 2 ∨ ¬ sk = 2 := by omega
      have hXb' : X W.heap.size ∨ W.heap.size = wr.heap.size := .inl hXb
      have hXx : X wr.heap.size ∨ wr.heap.size = wr.heap.size := .inr rfl
      obtain ⟨XS, hXS⟩ : ∃ XS : Nat → Prop, (fun j => X j ∨ j = wr.heap.size) = XS := ⟨_, rfl⟩
      replace hXb' : XS W.heap.size := by rw [← hXS]; exact hXb'
      replace hXx : XS wr.heap.size := by rw [← hXS]; exact hXx
      rw [hXS] at HJ1
      replace HX1 : Hid (∀ j, XS j → j < (wr.alloc (.cells #[.int .i64 st, .int .i64 sk, .int .i64 sc, .int .i64 se, .int .i64 sv, .int .i64 sn] 40)).heap.size) := by rw [← hXS]; exact HX1
      clear hXS
      by_cases hin : fr ≤ st ∧ st < hi
      · obtain ⟨i1, i2⟩ := hin
        have hw := hY _ ⟨st, sk, sc, se, sv, sn⟩ _ _ HJ1.out ⟨HsI.out, by have := HIL.out; omega⟩
        have HN1 := Lib.hid (show inE l fr hi k ++ [⟨st, sk, sc, se, sv, sn⟩] = inE l fr hi (k + 1) by rw [HN.out, if_pos ⟨i1, i2⟩])
        clear hY
        obtain ⟨fn, tmps, assign, body, hy, hR⟩ := hw
        dsimp only [evV, evA] at hy
        gi_wp2
        refine hR.mono ?_
        rintro e Wc (⟨rfl, hJ3, hk3⟩ | ⟨rfl, hJx3⟩)
        · have HPc := Lib.hid (HP1.out.keep hk3)
          have HMc : Hid (MB EvV Wc W.heap.size (cAt l fr k)) := Lib.hid (HM1.out.same (hk3.2 _ (.inr hXb') HM1.out.lt))
          have HBc := Lib.hid (hk3.blk (.inr hXx) HBX.out)
          have HXc : Hid (∀ j, XS j → j < Wc.heap.size) := Lib.hid fun j hj => Nat.lt_of_lt_of_le (HX1.out j hj) hk3.1
          have HJc := Lib.hid hJ3
          clear hk3 hJ3 HJ1 HM1 HP1 HX1 HBX hy cf1 ct1 d0 d1 d2 d3 d4 d5 c0 c1 c2 c3 c4 c5
          rcases hq0 with rfl | hq
          · by_cases ht : fr < st
            · have ht1 : ¬ st = fr := by omega
              have c0' : Wc.cell? ⟨wr.heap.size, 0, none⟩ = some (.int .i64 st) := HBc.out.cell 0
              have c1' : Wc.cell? ⟨wr.heap.size, 1, none⟩ = some (.int .i64 2) := HBc.out.cell 1
              have cf' := HPc.out.cf
              have HC2 := Lib.hid (show cAt l fr (k + 1) = cAt l fr k by rw [HC.out]; unfold cStep; rw [if_neg (fun h => by have h2 : st ≤ fr := h.2; omega)])
              gi_wp2
              exact ⟨⟨k + 1, _, by omega, by simp, Lib.hid (by rw [← HN1.out]; exact HJc.out), hXb', HPc, Lib.hid (by rw [HC2.out]; exact HMc.out), HXc⟩, by simp only [intOf]; omega⟩
            · obtain rfl : fr = st := by omega
              have c0' : Wc.cell? ⟨wr.heap.size, 0, none⟩ = some (.int .i64 fr) := HBc.out.cell 0
              have c1' : Wc.cell? ⟨wr.heap.size, 1, none⟩ = some (.int .i64 2) := HBc.out.cell 1
              have cf' := HPc.out.cf
              have CV := Lib.hid fun W => voiceOf_at fr 2 sc se sv sn W
              have c2' : Wc.cell? ⟨wr.heap.size, 2, none⟩ = some (.int .i64 sc) := HBc.out.cell 2
              have c3' : Wc.cell? ⟨wr.heap.size, 3, none⟩ = some (.int .i64 se) := HBc.out.cell 3
              have c4' : Wc.cell? ⟨wr.heap.size, 4, none⟩ = some (.int .i64 sv) := HBc.out.cell 4
              have c5' : Wc.cell? ⟨wr.heap.size, 5, none⟩ = some (.int .i64 sn) := HBc.out.cell 5
              have HC2 := Lib.hid (show cAt l fr (k + 1) = put (cAt l fr k) (sc, se) none by rw [HC.out]; unfold cStep; rw [if_pos ⟨rfl, Int.le_refl _⟩, if_neg (by show ¬ fr < fr; omega)]; rfl)
              gi_wp2_with (first
                | (refine ⟨trivial, ?_⟩; gi_at_call 52; refine (callsIn_wide.2 (CV.out _)).mono ?_; rintro e w1 ⟨rfl, hb1⟩;
                    (have hms := HMc.out.lt);
                    (have hPw := HPc.out.below (hb1.mono (Nat.le_of_lt hms)));
                    (have hMw := HMc.out.below hb1);
                    (have hbw := HBc.out.belowAll hb1);
                    (have hJw := hJ _ _ _ _ _ HJc.out (Stp.of_below hb1));
                    (have hsw := hb1.size);
                    (obtain ⟨W2, eD, hM2, g2, z2⟩ := hMw.del Try.underlying83 HsI.out.voice);
                    (have hne : W.heap.size ≠ wr.heap.size := by (have := HWs.out; omega));
                    (have hb2 : Blk W2 wr.heap.size 40 #[.int .i64 fr, .int .i64 2, .int .i64 sc, .int .i64 se, .int .i64 sv, .int .i64 sn] := (g2.block _ hbw.lt (fun e => hne (by have := Option.some.inj e; omega))).trans hbw);
                    (have HP2 := Lib.hid (hPw.below (below_grown g2 (Nat.le_refl _) (by omega))));
                    (have HJ2 := Lib.hid (hJ _ _ _ _ _ hJw (Stp.grown g2 hXb')));
                    (have HX2 := Lib.hid (fun j (hj : XS j) => Nat.lt_of_lt_of_le (Nat.lt_of_lt_of_le (HXc.out j hj) hsw) (by omega : w1.heap.size ≤ W2.heap.size)));
                    (have HM2 := Lib.hid hM2);
                    (have HB2 := Lib.hid hb2);
                    (have k0 : W2.cell? ⟨wr.heap.size, 0, none⟩ = some (.int .i64 fr) := hb2.cell 0);
                    (have k1 : W2.cell? ⟨wr.heap.size, 1, none⟩ = some (.int .i64 2) := hb2.cell 1);
                    (have k2 : W2.cell? ⟨wr.heap.size, 2, none⟩ = some (.int .i64 sc) := hb2.cell 2);
                    (have k3 : W2.cell? ⟨wr.heap.size, 3, none⟩ = some (.int .i64 se) := hb2.cell 3);
                    (have k4 : W2.cell? ⟨wr.heap.size, 4, none⟩ = some (.int .i64 sv) := hb2.cell 4);
                    (have k5 : W2.cell? ⟨wr.heap.size, 5, none⟩ = some (.int .i64 sn) := hb2.cell 5);
                    (have f0 := hb2.frozen 0);
                    (have cf2 := HP2.out.cf);
                    (clear hb1 hPw hMw hbw hJw hM2 g2 z2 hb2 hms))
                | (refine wpListIn_delete_eq (v1 := .map (some W.heap.size)) (v2 := .agg #[.int .i64 sc, .int .i64 se]) rfl (.tmp 45) (.tmp 47) 83 80 rfl rfl rfl (eD _) ?_; clear eD))
              exact ⟨⟨k + 1, _, by omega, by simp, Lib.hid (by rw [← HN1.out]; exact HJ2.out), hXb', HP2, Lib.hid (by rw [HC2.out]; exact HM2.out), HX2⟩, by simp only [intOf]; omega⟩
          · have hq1 : (sk == 2) = false := by simpa using hq
            have hqn : (sk != 2) = true := by simpa using hq
            have c0' : Wc.cell? ⟨wr.heap.size, 0, none⟩ = some (.int .i64 st) := HBc.out.cell 0
            have c1' : Wc.cell? ⟨wr.heap.size, 1, none⟩ = some (.int .i64 sk) := HBc.out.cell 1
            have cf' := HPc.out.cf
            have HC2 := Lib.hid (show cAt l fr (k + 1) = cAt l fr k by rw [HC.out]; unfold cStep; rw [if_neg (fun h => hq h.1)])
            clear hq
            gi_wp2
            exact ⟨⟨k + 1, _, by omega, by simp, Lib.hid (by rw [← HN1.out]; exact HJc.out), hXb', HPc, Lib.hid (by rw [HC2.out]; exact HMc.out), HXc⟩, by simp only [intOf]; omega⟩
        · gi_wp2
          refine bodyPost_ret (results_none rfl _ _ _) rfl ?_
          exact ⟨⟨_, rfl⟩, .inr ⟨_, _, trivial, hJx3⟩⟩
      · have HN1 := Lib.hid (show inE l fr hi k = inE l fr hi (k + 1) by rw [HN.out, if_neg hin, List.append_nil])
        obtain ⟨Wc, hWc⟩ : ∃ Wc, wr.alloc (.cells #[.int .i64 st, .int .i64 sk, .int .i64 sc, .int .i64 se, .int .i64 sv, .int .i64 sn] 40) = Wc := ⟨_, rfl⟩
        have HPc := HP1
        have HMc := HM1
        have HBc := HBX
        have HXc := HX1
        have HJc := HJ1
        rw [hWc] at HPc HMc HBc HXc HJc cf1 ct1 d0 d1
        clear HP1 HM1 HBX HX1 HJ1 hY d2 d3 d4 d5
        by_cases hlo : st < fr
        · rcases hq0 with rfl | hq
          · skip
            have c0' : Wc.cell? ⟨wr.heap.size, 0, none⟩ = some (.int .i64 st) := HBc.out.cell 0
            have c1' : Wc.cell? ⟨wr.heap.size, 1, none⟩ = some (.int .i64 2) := HBc.out.cell 1
            have cf' := HPc.out.cf
            have CV := Lib.hid fun W => voiceOf_at st 2 sc se sv sn W
            have c2' : Wc.cell? ⟨wr.heap.size, 2, none⟩ = some (.int .i64 sc) := HBc.out.cell 2
            have c3' : Wc.cell? ⟨wr.heap.size, 3, none⟩ = some (.int .i64 se) := HBc.out.cell 3
            have c4' : Wc.cell? ⟨wr.heap.size, 4, none⟩ = some (.int .i64 sv) := HBc.out.cell 4
            have c5' : Wc.cell? ⟨wr.heap.size, 5, none⟩ = some (.int .i64 sn) := HBc.out.cell 5
            have HC2 := Lib.hid (show cAt l fr (k + 1) = put (put (cAt l fr k) (sc, se) none) (sc, se) (some ⟨fr, 2, sc, se, sv, sn⟩) by rw [HC.out]; unfold cStep; rw [if_pos ⟨rfl, by show st ≤ fr; omega⟩, if_pos (by show st < fr; omega), put_put]; rfl)
            gi_wp2
            refine ⟨fun f hf => (by cases hf), ?_⟩
            gi_wp2_with (first
              | (refine ⟨trivial, ?_⟩; gi_at_call 52; refine (callsIn_wide.2 (CV.out _)).mono ?_; rintro e w1 ⟨rfl, hb1⟩;
                  (have hms := HMc.out.lt);
                  (have hPw := HPc.out.below (hb1.mono (Nat.le_of_lt hms)));
                  (have hMw := HMc.out.below hb1);
                  (have hbw := HBc.out.belowAll hb1);
                  (have hJw := hJ _ _ _ _ _ HJc.out (Stp.of_below hb1));
                  (have hsw := hb1.size);
                  (obtain ⟨W2, eD, hM2, g2, z2⟩ := hMw.del Try.underlying83 HsI.out.voice);
                  (have hne : W.heap.size ≠ wr.heap.size := by (have := HWs.out; omega));
                  (have hb2 : Blk W2 wr.heap.size 40 #[.int .i64 st, .int .i64 2, .int .i64 sc, .int .i64 se, .int .i64 sv, .int .i64 sn] := (g2.block _ hbw.lt (fun e => hne (by have := Option.some.inj e; omega))).trans hbw);
                  (have HP2 := Lib.hid (hPw.below (below_grown g2 (Nat.le_refl _) (by omega))));
                  (have HJ2 := Lib.hid (hJ _ _ _ _ _ hJw (Stp.grown g2 hXb')));
                  (have HX2 := Lib.hid (fun j (hj : XS j) => Nat.lt_of_lt_of_le (Nat.lt_of_lt_of_le (HXc.out j hj) hsw) (by omega : w1.heap.size ≤ W2.heap.size)));
                  (have HM2 := Lib.hid hM2);
                  (have HB2 := Lib.hid hb2);
                  (have k0 : W2.cell? ⟨wr.heap.size, 0, none⟩ = some (.int .i64 st) := hb2.cell 0);
                  (have k1 : W2.cell? ⟨wr.heap.size, 1, none⟩ = some (.int .i64 2) := hb2.cell 1);
                  (have k2 : W2.cell? ⟨wr.heap.size, 2, none⟩ = some (.int .i64 sc) := hb2.cell 2);
                  (have k3 : W2.cell? ⟨wr.heap.size, 3, none⟩ = some (.int .i64 se) := hb2.cell 3);
                  (have k4 : W2.cell? ⟨wr.heap.size, 4, none⟩ = some (.int .i64 sv) := hb2.cell 4);
                  (have k5 : W2.cell? ⟨wr.heap.size, 5, none⟩ = some (.int .i64 sn) := hb2.cell 5);
                  (have f0 := hb2.frozen 0);
                  (have cf2 := HP2.out.cf);
                  (clear hb1 hPw hMw hbw hJw hM2 g2 z2 hb2 hms))
              | (refine wpListIn_delete_eq (v1 := .map (some W.heap.size)) (v2 := .agg #[.int .i64 sc, .int .i64 se]) rfl (.tmp 45) (.tmp 47) 83 80 rfl rfl rfl (eD _) ?_; clear eD))
            have hbv := HB2.out.set_ 0 (.int .i64 fr)
            obtain ⟨V, hV⟩ : ∃ V, W2.setCell ⟨wr.heap.size, 0, none⟩ (.int .i64 fr) = V := ⟨_, rfl⟩
            have hJv := hJ _ _ _ _ _ HJ2.out (Stp.setCell (p := ⟨wr.heap.size, 0, none⟩) (.int .i64 fr) hXx)
            have hMv : MB EvV (W2.setCell ⟨wr.heap.size, 0, none⟩ (.int .i64 fr)) W.heap.size _ := HM2.out.same (Below.heap_setCell _ _ _ _ hne)
            have hPv := HP2.out.below ((Below.refl W.heap.size W2).setCell (p := ⟨wr.heap.size, 0, none⟩) (by show W.heap.size ≤ wr.heap.size; have := HWs.out; omega) (.int .i64 fr))
            have hXv : ∀ j, XS j → j < (W2.setCell ⟨wr.heap.size, 0, none⟩ (.int .i64 fr)).heap.size := fun j hj => by have := HX2.out j hj; simpa [World.setCell] using this
            rw [hV] at hbv hJv hMv hPv hXv
            simp only [List.setIfInBounds_toArray, List.set_cons_zero] at hbv
            have HJv := Lib.hid hJv
            have HMv := Lib.hid hMv
            have HPv := Lib.hid hPv
            have HXv := Lib.hid hXv
            have b0 : V.cell? ⟨wr.heap.size, 0, none⟩ = some (.int .i64 fr) := hbv.cell 0
            have b1 : V.cell? ⟨wr.heap.size, 1, none⟩ = some (.int .i64 2) := hbv.cell 1
            have b2 : V.cell? ⟨wr.heap.size, 2, none⟩ = some (.int .i64 sc) := hbv.cell 2
            have b3 : V.cell? ⟨wr.heap.size, 3, none⟩ = some (.int .i64 se) := hbv.cell 3
            have b4 : V.cell? ⟨wr.heap.size, 4, none⟩ = some (.int .i64 sv) := hbv.cell 4
            have b5 : V.cell? ⟨wr.heap.size, 5, none⟩ = some (.int .i64 sn) := hbv.cell 5
            have e0 : ∀ z : Ext V, z.W.cell? ⟨wr.heap.size, 0, none⟩ = some (.int .i64 fr) := fun z => z.cell b0
            have e1 : ∀ z : Ext V, z.W.cell? ⟨wr.heap.size, 1, none⟩ = some (.int .i64 2) := fun z => z.cell b1
            have e2 : ∀ z : Ext V, z.W.cell? ⟨wr.heap.size, 2, none⟩ = some (.int .i64 sc) := fun z => z.cell b2
            have e3 : ∀ z : Ext V, z.W.cell? ⟨wr.heap.size, 3, none⟩ = some (.int .i64 se) := fun z => z.cell b3
            have e4 : ∀ z : Ext V, z.W.cell? ⟨wr.heap.size, 4, none⟩ = some (.int .i64 sv) := fun z => z.cell b4
            have e5 : ∀ z : Ext V, z.W.cell? ⟨wr.heap.size, 5, none⟩ = some (.int .i64 sn) := fun z => z.cell b5
            have HCV := Lib.hid fun z : Ext V => voiceOf_at fr 2 sc se sv sn z.W
            clear hbv hJv hMv hPv hXv b0 b1 b2 b3 b4 b5 k0 k1 k2 k3 k4 k5 f0 cf2 c0' c1' c2' c3' c4' c5' cf'
            rw [hV]
            refine wpInW_region_ext_tail' 4 (by kernel_rfl) (by kernel_rfl) rfl ?_
            simp only [List.take_succ_cons, List.take_zero, List.drop_succ_cons, List.drop_zero]
            repeat (go_big_quiet_step (first | with_reducible exact Ext.quiet (HCV.out _)))
            refine wpQuiet_nil ?_
            rintro _ ⟨z, rfl⟩
            obtain ⟨W5, eU, hM5, g5, z5⟩ := (HMv.out.below z.h).upd Try.underlying83 HsI.out.voice ⟨fr, 2, sc, se, sv, sn⟩
            have HM5 := Lib.hid hM5
            have HJ5 := Lib.hid (hJ _ _ _ _ _ (hJ _ _ _ _ _ HJv.out (Stp.of_below z.h)) (Stp.grown g5 hXb'))
            have hzs := z.h.size
            have hms := HMv.out.lt
            have HP5 := Lib.hid ((HPv.out.below (z.h.mono (Nat.le_of_lt hms))).below (below_grown g5 (Nat.le_refl _) (by omega)))
            have HX5 := Lib.hid (fun j (hj : XS j) => Nat.lt_of_lt_of_le (Nat.lt_of_lt_of_le (HXv.out j hj) hzs) (by omega : z.W.heap.size ≤ W5.heap.size))
            replace eU : (Instr.mapUpdate 83 (.map (some W.heap.size)) (.agg #[.int .i64 sc, .int .i64 se]) (.agg #[.int .i64 fr, .int .i64 2, .int .i64 sc, .int .i64 se, .int .i64 sv, .int .i64 sn])).run Try.prog z.W = .ok () W5 := eU
            clear hM5 g5 z5 hzs hms
            go_wp2_with (at_mapUpdate; refine wpList_mapUpdate_eq (v1 := .map (some W.heap.size)) (v2 := .agg #[.int .i64 sc, .int .i64 se]) (v3 := .agg #[.int .i64 fr, .int .i64 2, .int .i64 sc, .int .i64 se, .int .i64 sv, .int .i64 sn]) rfl (.tmp 54) (.tmp 56) (.tmp 57) 83 rfl rfl rfl rfl eU ?_; clear eU)
            gi_wp2
            exact ⟨⟨k + 1, _, by omega, by simp, Lib.hid (by rw [← HN1.out]; exact HJ5.out), hXb', HP5, Lib.hid (by rw [HC2.out]; exact HM5.out), HX5⟩, by simp only [intOf]; omega⟩
          · have hq1 : (sk == 2) = false := by simpa using hq
            have hqn : (sk != 2) = true := by simpa using hq
            have c0' : Wc.cell? ⟨wr.heap.size, 0, none⟩ = some (.int .i64 st) := HBc.out.cell 0
            have c1' : Wc.cell? ⟨wr.heap.size, 1, none⟩ = some (.int .i64 sk) := HBc.out.cell 1
            have cf' := HPc.out.cf
            have HC2 := Lib.hid (show cAt l fr (k + 1) = cAt l fr k by rw [HC.out]; unfold cStep; rw [if_neg (fun h => hq h.1)])
            clear hq
            gi_wp2
            refine ⟨fun f hf => (by cases hf), ?_⟩
            gi_wp2
            exact ⟨⟨k + 1, _, by omega, by simp, Lib.hid (by rw [← HN1.out]; exact HJc.out), hXb', HPc, Lib.hid (by rw [HC2.out]; exact HMc.out), HXc⟩, by simp only [intOf]; omega⟩
        · have hlo1 : fr ≤ st := by omega
          have hup : hi ≤ st := by omega
          rcases hq0 with rfl | hq
          · by_cases ht : fr < st
            · have ht1 : ¬ st = fr := by omega
              have c0' : Wc.cell? ⟨wr.heap.size, 0, none⟩ = some (.int .i64 st) := HBc.out.cell 0
              have c1' : Wc.cell? ⟨wr.heap.size, 1, none⟩ = some (.int .i64 2) := HBc.out.cell 1
              have cf' := HPc.out.cf
              have HC2 := Lib.hid (show cAt l fr (k + 1) = cAt l fr k by rw [HC.out]; unfold cStep; rw [if_neg (fun h => by have h2 : st ≤ fr := h.2; omega)])
              gi_wp2
              refine ⟨fun f hf => (by cases hf), ?_⟩
              gi_wp2
              exact ⟨⟨k + 1, _, by omega, by simp, Lib.hid (by rw [← HN1.out]; exact HJc.out), hXb', HPc, Lib.hid (by rw [HC2.out]; exact HMc.out), HXc⟩, by simp only [intOf]; omega⟩
            · obtain rfl : fr = st := by omega
              have c0' : Wc.cell? ⟨wr.heap.size, 0, none⟩ = some (.int .i64 fr) := HBc.out.cell 0
              have c1' : Wc.cell? ⟨wr.heap.size, 1, none⟩ = some (.int .i64 2) := HBc.out.cell 1
              have cf' := HPc.out.cf
              have CV := Lib.hid fun W => voiceOf_at fr 2 sc se sv sn W
              have c2' : Wc.cell? ⟨wr.heap.size, 2, none⟩ = some (.int .i64 sc) := HBc.out.cell 2
              have c3' : Wc.cell? ⟨wr.heap.size, 3, none⟩ = some (.int .i64 se) := HBc.out.cell 3
              have c4' : Wc.cell? ⟨wr.heap.size, 4, none⟩ = some (.int .i64 sv) := HBc.out.cell 4
              have c5' : Wc.cell? ⟨wr.heap.size, 5, none⟩ = some (.int .i64 sn) := HBc.out.cell 5
              have HC2 := Lib.hid (show cAt l fr (k + 1) = put (cAt l fr k) (sc, se) none by rw [HC.out]; unfold cStep; rw [if_pos ⟨rfl, Int.le_refl _⟩, if_neg (by show ¬ fr < fr; omega)]; rfl)
              gi_wp2
              refine ⟨fun f hf => (by cases hf), ?_⟩
              gi_wp2_with (first
                | (refine ⟨trivial, ?_⟩; gi_at_call 52; refine (callsIn_wide.2 (CV.out _)).mono ?_; rintro e w1 ⟨rfl, hb1⟩;
                    (have hms := HMc.out.lt);
                    (have hPw := HPc.out.below (hb1.mono (Nat.le_of_lt hms)));
                    (have hMw := HMc.out.below hb1);
                    (have hbw := HBc.out.belowAll hb1);
                    (have hJw := hJ _ _ _ _ _ HJc.out (Stp.of_below hb1));
                    (have hsw := hb1.size);
                    (obtain ⟨W2, eD, hM2, g2, z2⟩ := hMw.del Try.underlying83 HsI.out.voice);
                    (have hne : W.heap.size ≠ wr.heap.size := by (have := HWs.out; omega));
                    (have hb2 : Blk W2 wr.heap.size 40 #[.int .i64 fr, .int .i64 2, .int .i64 sc, .int .i64 se, .int .i64 sv, .int .i64 sn] := (g2.block _ hbw.lt (fun e => hne (by have := Option.some.inj e; omega))).trans hbw);
                    (have HP2 := Lib.hid (hPw.below (below_grown g2 (Nat.le_refl _) (by omega))));
                    (have HJ2 := Lib.hid (hJ _ _ _ _ _ hJw (Stp.grown g2 hXb')));
                    (have HX2 := Lib.hid (fun j (hj : XS j) => Nat.lt_of_lt_of_le (Nat.lt_of_lt_of_le (HXc.out j hj) hsw) (by omega : w1.heap.size ≤ W2.heap.size)));
                    (have HM2 := Lib.hid hM2);
                    (have HB2 := Lib.hid hb2);
                    (have k0 : W2.cell? ⟨wr.heap.size, 0, none⟩ = some (.int .i64 fr) := hb2.cell 0);
                    (have k1 : W2.cell? ⟨wr.heap.size, 1, none⟩ = some (.int .i64 2) := hb2.cell 1);
                    (have k2 : W2.cell? ⟨wr.heap.size, 2, none⟩ = some (.int .i64 sc) := hb2.cell 2);
                    (have k3 : W2.cell? ⟨wr.heap.size, 3, none⟩ = some (.int .i64 se) := hb2.cell 3);
                    (have k4 : W2.cell? ⟨wr.heap.size, 4, none⟩ = some (.int .i64 sv) := hb2.cell 4);
                    (have k5 : W2.cell? ⟨wr.heap.size, 5, none⟩ = some (.int .i64 sn) := hb2.cell 5);
                    (have f0 := hb2.frozen 0);
                    (have cf2 := HP2.out.cf);
                    (clear hb1 hPw hMw hbw hJw hM2 g2 z2 hb2 hms))
                | (refine wpListIn_delete_eq (v1 := .map (some W.heap.size)) (v2 := .agg #[.int .i64 sc, .int .i64 se]) rfl (.tmp 45) (.tmp 47) 83 80 rfl rfl rfl (eD _) ?_; clear eD))
              exact ⟨⟨k + 1, _, by omega, by simp, Lib.hid (by rw [← HN1.out]; exact HJ2.out), hXb', HP2, Lib.hid (by rw [HC2.out]; exact HM2.out), HX2⟩, by simp only [intOf]; omega⟩
          · have hq1 : (sk == 2) = false := by simpa using hq
            have hqn : (sk != 2) = true := by simpa using hq
            have c0' : Wc.cell? ⟨wr.heap.size, 0, none⟩ = some (.int .i64 st) := HBc.out.cell 0
            have c1' : Wc.cell? ⟨wr.heap.size, 1, none⟩ = some (.int .i64 sk) := HBc.out.cell 1
            have cf' := HPc.out.cf
            have HC2 := Lib.hid (show cAt l fr (k + 1) = cAt l fr k by rw [HC.out]; unfold cStep; rw [if_neg (fun h => hq h.1)])
            clear hq
            gi_wp2
            refine ⟨fun f hf => (by cases hf), ?_⟩
            gi_wp2
            exact ⟨⟨k + 1, _, by omega, by simp, Lib.hid (by rw [← HN1.out]; exact HJc.out), hXb', HPc, Lib.hid (by rw [HC2.out]; exact HMc.out), HXc⟩, by simp only [intOf]; omega⟩
    · obtain rfl : k = n := by omega
      obtain ⟨r, hr⟩ : ∃ r, wr.heap.size = r := ⟨_, rfl⟩
      obtain ⟨W2, eR, hI2, g2, z2⟩ := HM.out.range Try.underlying83
      have hb2 : Below wr.heap.size wr W2 := ⟨g2.os, g2.tape, g2.output, g2.size, fun j hj => g2.block j hj (by simp)⟩
      have hJ2 := hJ _ _ _ _ _ HJ.out (Stp.all (X := X) hb2)
      obtain ⟨X2, hX2⟩ : ∃ X2 : Nat → Prop, (fun j => X j ∨ (wr.heap.size ≤ j ∧ j < W2.heap.size)) = X2 := ⟨_, rfl⟩
      have hX2b : X2 W.heap.size := by rw [← hX2]; exact .inl hXb
      have hX2r : X2 r := by rw [← hX2]; exact .inr ⟨by omega, by omega⟩
      have hX2s : ∀ j, X2 j → j < W2.heap.size := by
        rw [← hX2]
        rintro j (h5 | h5)
        · have := HXs.out j h5; omega
        · exact h5.2
      rw [hX2] at hJ2
      rw [hr] at eR hI2
      have hms := HM.out.lt
      have hP2 := HP.out.below (hb2.mono (Nat.le_of_lt hms))
      have HIL := Lib.hid (inE_len l fr hi k)
      have HB0 := Lib.hid (show ([] : List Vc).Nodup ∧ (∀ v ∈ ([] : List Vc), ∃ e, cAt l fr k v = some e) ∧ (inE l fr hi k).length = (inE l fr hi k).length + ([] : List Vc).length ∧ ∀ e, e ∈ inE l fr hi k ↔ e ∈ inE l fr hi k ∨ ∃ v ∈ ([] : List Vc), cAt l fr k v = some e from
        ⟨List.nodup_nil, by simp, by simp, by simp⟩)
      have hI2' : MIt EvV W2 W.heap.size r (cAt l fr k) (fun v => v ∈ ([] : List Vc)) := by simpa using hI2
      clear hX2 HJ hXb HP HM HXs hb2 g2 z2 hI2
      gi_wp2_with (refine wpListIn_range_eq (v1 := .map (some W.heap.size)) rfl (.tmp 59) 83 rfl rfl eR ?_; clear eR)
      simp only [Act.put, List.setIfInBounds_toArray, List.set_cons_succ, List.set_cons_zero]
      gi_loopw [61] (fun _ wv => ∃ (X : Nat → Prop) (pre : List Ev) (ks : List Vc), Hid (J pre X wv) ∧ X W.heap.size ∧ X r ∧ Hid (PC A k c PL PF PT W.heap.size l fr hi wv) ∧ Hid (MIt EvV wv W.heap.size r (cAt l fr k) (fun v => v ∈ ks)) ∧ Hid (∀ j, X j → j < wv.heap.size) ∧
        Hid (ks.Nodup ∧ (∀ v ∈ ks, ∃ e, cAt l fr k v = some e) ∧ pre.length = (inE l fr hi k).length + ks.length ∧ ∀ e, e ∈ pre ↔ e ∈ inE l fr hi k ∨ ∃ v ∈ ks, cAt l fr k v = some e)) (fun _ wv => wv.rangeLeft W.heap.size r)
      case atStart => exact ⟨X2, _, [], Lib.hid hJ2, hX2b, hX2r, Lib.hid hP2, Lib.hid hI2', Lib.hid hX2s, HB0⟩
      case round =>
        clear hJ2 hX2b hX2r hP2 hI2' hX2s HB0
        obtain ⟨X, pre, ks, HJ, hXb, hXr, HP, HIt, HXs, HB⟩ := hrel
        have hbw := HIt.out.lt.1
        have hrw := HIt.out.lt.2.1
        have HBR := Lib.hid (And.intro hbw hrw)
        rcases HIt.out.next with ⟨hall, eN⟩ | ⟨v, x, W3, hvI, hfx, hnd, eN, eE, hI3, hl3, g3', z3⟩
        · have HALL := Lib.hid hall
          have cl2 := HP.out.cl
          have CE := Lib.hid fun (W' : World) (h' : SA evE W' A k c l) => ends_any A k c l W' h' HI.out (by omega)
          clear hall
          gi_wp2_with (first
            | (refine wpListIn_next_eq (v1 := .pointer (some ⟨r, 0, none⟩)) rfl (.tmp 60) false rfl rfl (eN _) ?_; clear eN)
            | (refine ⟨trivial, ?_⟩; gi_at_call 37; refine (callsIn_wide.2 (CE.out _ HP.out.sa)).mono ?_; rintro e W4 ⟨A3, n3, c3, rfl, hO4, hb4⟩))
          have hPw := HP.out.below (hb4.mono (Nat.le_of_lt hbw))
          have hJw := hJ _ _ _ _ _ HJ.out (Stp.all (X := X) hb4)
          obtain ⟨X3, hX3⟩ : ∃ X3 : Nat → Prop, (fun j => X j ∨ (wr.heap.size ≤ j ∧ j < W4.heap.size)) = X3 := ⟨_, rfl⟩
          have hX3A : ∀ a, A3 = some a → X3 a.block := by
            intro a ha
            rw [← hX3]
            exact .inr (hO4.blk ha)
          have hX3s : ∀ j, X3 j → j < W4.heap.size := by
            rw [← hX3]
            rintro j (h5 | h5)
            · have := HXs.out j h5; have := hb4.size; omega
            · exact h5.2
          rw [hX3] at hJw
          have hsa4 : SA noteE W4 A3 n3 c3 (notesM l) := hO4.sa
          have HN3 := Lib.hid hsa4.n_eq
          have hn3 : n3 ≤ k := by rw [← hsa4.n_eq]; have := (eAt_ok l l.length).2; rw [HL.out] at this; unfold notesM; rw [HL.out]; exact this
          have hlen3 := hsa4.len
          have HM2 := Lib.hid (show pre.length ≤ 2 * k ∧ ∀ e, e ∈ pre ↔ e ∈ inE l fr hi k ∨ ∃ v, cAt l fr k v = some e from by
            obtain ⟨nd1, nd2, nd3, nd4⟩ := HB.out
            refine ⟨?_, fun e => ?_⟩
            · have := nodup_le (L := l.map voiceOf) nd1 (fun v hv => by
                obtain ⟨e, he⟩ := nd2 v hv
                obtain ⟨y, hy, hyv, _⟩ := cAt_mem he
                exact List.mem_map.2 ⟨y, hy, hyv⟩)
              rw [List.length_map, HL.out] at this
              have := HIL.out
              omega
            · rw [nd4 e]
              constructor
              · rintro (h5 | ⟨u, hu, h5⟩)
                · exact .inl h5
                · exact .inr ⟨u, h5⟩
              · rintro (h5 | ⟨u, h5⟩)
                · exact .inl h5
                · exact .inr ⟨u, HALL.out u e h5, h5⟩)
          have hO0 : offE l fr hi 0 = [] := by simp [offE]
          have hJw' : J (pre ++ offE l fr hi 0) X3 W4 := by rw [hO0, List.append_nil]; exact hJw
          have hmw : W.heap.size ≤ W4.heap.size := Nat.le_trans (Nat.le_of_lt hbw) hb4.size
          clear hX3 hJw hO4 hb4 HJ HP HIt HXs HB cl2 CE hO0 HBR HALL
          gi_loopw [72] (fun i wv => ∃ (p : Nat) (X : Nat → Prop), p ≤ n3 ∧ i = .int .i64 (p : Int) ∧ Hid (J (pre ++ offE l fr hi p) X wv) ∧ Hid (PC A k c PL PF PT W.heap.size l fr hi wv) ∧ Hid (SA noteE wv A3 n3 c3 (notesM l)) ∧ Hid (∀ a, A3 = some a → X a.block) ∧ Hid (∀ j, X j → j < wv.heap.size) ∧ Hid (W.heap.size ≤ wv.heap.size)) (fun i _ => n3 - (intOf i).toNat)
          case atStart => exact ⟨0, X3, Nat.zero_le _, rfl, Lib.hid hJw', Lib.hid hPw, Lib.hid hsa4, Lib.hid hX3A, Lib.hid hX3s, Lib.hid hmw⟩
          case round =>
            clear hJw' hPw hsa4 hX3A hX3s hmw hbw hrw hms
            obtain ⟨p, X, hp, rfl, HJ, HP, HS3, HXA, HXs, HMW⟩ := hrel
            by_cases hlt3 : p < n3
            · have hpl : p < (notesM l).length := by rw [HN3.out]; exact hlt3
              obtain ⟨q, hq⟩ : ∃ q, (notesM l)[p] = q := ⟨_, rfl⟩
              have hq' : (notesM l)[p]? = some q := by rw [List.getElem?_eq_getElem hpl, hq]
              obtain ⟨b3, o3, hA3, _, hc3⟩ := HS3.out.at_ hpl
              have n0 : wr.cell? ⟨b3, o3 + p * 2, none⟩ = some (.int .i64 q.1) := hc3 0 (.int .i64 q.1) (by rw [hq]; rfl)
              have n1 : wr.cell? ⟨b3, o3 + p * 2 + 1, none⟩ = some (.int .i64 q.2) := hc3 1 (.int .i64 q.2) (by rw [hq]; rfl)
              obtain ⟨⟨i0, hi0, hi0l⟩, hj⟩ := notes_ok l l.length q (List.mem_of_getElem? hq')
              have HOF := Lib.hid (offE_succ (fr := fr) (hi := hi) hq')
              obtain ⟨q1, q2⟩ := q
              dsimp only at hi0 hj n0 n1
              subst hi0
              clear hc3 hq hq'
              obtain ⟨x, hx⟩ : ∃ x, l[i0] = x := ⟨_, rfl⟩
              have hx' : l[i0]? = some x := by rw [List.getElem?_eq_getElem hi0l, hx]
              have hxI : EvI x := HI.out x (List.mem_of_getElem? hx')
              obtain ⟨bb, oo, hAe, _, c0, c1, c2, c3, c4, c5⟩ := ev_at HP.out.sa hi0l hx
              subst hAe hA3
              have HX := Lib.hid hx'
              obtain ⟨W5, hW5⟩ : ∃ W5, wr.alloc (.cells #[.int .i64 (i0 : Int), .int .i64 q2] 36) = W5 := ⟨_, rfl⟩
              obtain ⟨W6, hW6⟩ : ∃ W6, W5.alloc (.cells (evA x) 40) = W6 := ⟨_, rfl⟩
              have z5 : W5.heap.size = wr.heap.size + 1 := by rw [← hW5, World.size_alloc]
              have z6 : W6.heap.size = wr.heap.size + 1 + 1 := by rw [← hW6, World.size_alloc, z5]
              have hb56 : Below wr.heap.size wr W6 := by rw [← hW6, ← hW5]; exact Bel.al (Bel.al (Below.refl _ _) _) _
              have bn : Blk W6 wr.heap.size 36 #[.int .i64 (i0 : Int), .int .i64 q2] := by rw [← hW6, ← hW5]; exact (Blk.new wr _ _).alloc _
              have bx : Blk W6 (wr.heap.size + 1) 40 (evA x) := by rw [← hW6, ← z5]; exact Blk.new W5 _ _
              obtain ⟨X6, hX6⟩ : ∃ X6 : Nat → Prop, (fun j => X j ∨ (wr.heap.size ≤ j ∧ j < W6.heap.size)) = X6 := ⟨_, rfl⟩
              have HJ6 : Hid (J (pre ++ offE l fr hi p) X6 W6) := Lib.hid (by rw [← hX6]; exact hJ _ _ _ _ _ HJ.out (Stp.all hb56))
              have HXA6 : Hid (∀ a, (some ⟨b3, o3, none⟩ : Option Addr) = some a → X6 a.block) := Lib.hid (fun a ha => by rw [← hX6]; exact .inl (HXA.out a ha))
              have HXs6 : Hid (∀ j, X6 j → j < W6.heap.size) := Lib.hid (by
                rw [← hX6]
                rintro j (h5 | h5)
                · have := HXs.out j h5; omega
                · exact h5.2)
              have HP6 := Lib.hid (HP.out.below (hb56.mono HMW.out))
              have HS6 := Lib.hid (HS3.out.below hb56)
              have HMW6 := Lib.hid (show W.heap.size ≤ W6.heap.size by have := HMW.out; omega)
              have hb5 : Below wr.heap.size wr W5 := by rw [← hW5]; exact Bel.al (Below.refl _ _) _
              have pl5 : W5.cell? ⟨PL, 0, none⟩ = some (.slice (some ⟨bb, oo, none⟩) k c) := (HP.out.below (hb5.mono HMW.out)).cl
              have m50 : W5.cell? ⟨wr.heap.size, 0, none⟩ = some (.int .i64 (i0 : Int)) := by rw [← hW5]; exact (Blk.new wr 36 #[.int .i64 (i0 : Int), .int .i64 q2]).cell 0
              have a0 := hb5.cell (lt_of_cell c0) |>.trans c0
              have a1 := hb5.cell (lt_of_cell c1) |>.trans c1
              have a2 := hb5.cell (lt_of_cell c2) |>.trans c2
              have a3 := hb5.cell (lt_of_cell c3) |>.trans c3
              have a4 := hb5.cell (lt_of_cell c4) |>.trans c4
              have a5 := hb5.cell (lt_of_cell c5) |>.trans c5
              have HEI := Lib.hid (show EvI ⟨hi, 1, x.ch, x.key, 0, x.no⟩ from by
                intro y hy
                simp only [ekey, List.mem_cons, List.not_mem_nil, or_false] at hy
                rcases hy with rfl | rfl | rfl | rfl | rfl | rfl
                · exact hhi
                · exact ⟨by omega, by omega⟩
                · exact hxI _ (by simp [ekey])
                · exact hxI _ (by simp [ekey])
                · exact ⟨by omega, by omega⟩
                · exact hxI _ (by simp [ekey]))
              have hoff : offOf l fr hi ((i0 : Int), q2) = if fr ≤ x.tick ∧ x.tick < hi ∧ endsB l hi q2 = false then some ⟨hi, 1, x.ch, x.key, 0, x.no⟩ else none := by
                unfold offOf
                rw [show ((i0 : Int), q2).1.toNat = i0 from Int.toNat_natCast i0, hx']
              have hjj : (q2 = -1 ∧ endsB l hi q2 = false) ∨ ∃ (j : Nat) (y : Ev), q2 = (j : Int) ∧ j < k ∧ W6.cell? ⟨bb, oo + j * 6, none⟩ = some (.int .i64 y.tick) ∧ endsB l hi q2 = decide (y.tick < hi) := by
                rcases hj with hj | ⟨j, hj, hjl⟩
                · exact .inl ⟨hj, by rw [hj]; rfl⟩
                · refine .inr ⟨j, l[j], hj, by rw [← HL.out]; exact hjl, ?_, ?_⟩
                  · obtain ⟨b9, o9, e9, _, f0, _⟩ := ev_at HP6.out.sa hjl rfl
                    injection e9 with e9
                    injection e9 with e7 e8 _
                    subst e7 e8
                    exact f0
                  · rw [hj]
                    unfold endsB
                    rw [Int.toNat_natCast, List.getElem?_eq_getElem hjl]
                    simp
              have f1 := HP6.out.cf
              have t1 := HP6.out.ct
              have l1 := HP6.out.cl
              have hi0k : (i0 : Int) < (k : Int) := by have := HL.out; omega
              have hi00 : (0 : Int) ≤ (i0 : Int) := by omega
              have g3 : (0 : Int) ≤ (p : Int) := by omega
              have g4 : (p : Int) < (n3 : Int) := by omega
              clear hX6 HJ HP HS3 HXA HXs hb56 hb5 hx hx' hxI hj c0 c1 c2 c3 c4 c5 hpl hi0l
              obtain ⟨xt, xk, xc, xe, xv, xn⟩ := x
              dsimp only [evA] at *
              have e0 : ∀ z : Ext W6, z.W.cell? ⟨wr.heap.size + 1, 0, none⟩ = some (.int .i64 xt) := fun z => z.cell (bx.cell 0)
              have e1 : ∀ z : Ext W6, z.W.cell? ⟨wr.heap.size, 1, none⟩ = some (.int .i64 q2) := fun z => z.cell (bn.cell 1)
              have e2 : ∀ z : Ext W6, z.W.cell? ⟨wr.heap.size + 1, 2, none⟩ = some (.int .i64 xc) := fun z => z.cell (bx.cell 2)
              have e3 : ∀ z : Ext W6, z.W.cell? ⟨wr.heap.size + 1, 3, none⟩ = some (.int .i64 xe) := fun z => z.cell (bx.cell 3)
              have e4 : True := trivial
              have e5 : ∀ z : Ext W6, z.W.cell? ⟨wr.heap.size + 1, 5, none⟩ = some (.int .i64 xn) := fun z => z.cell (bx.cell 5)
              have eT : ∀ z : Ext W6, z.W.cell? ⟨PT, 0, none⟩ = some (.int .i64 hi) := fun z => z.cell t1
              have eF : ∀ z : Ext W6, z.W.cell? ⟨PF, 0, none⟩ = some (.int .i64 fr) := fun z => z.cell f1
              have eL : ∀ z : Ext W6, z.W.cell? ⟨PL, 0, none⟩ = some (.slice (some ⟨bb, oo, none⟩) k c) := fun z => z.cell l1
              have eW : W5.heap.size = wr.heap.size + 1 := z5
              clear bn bx f1 t1 l1
              by_cases h1 : xt < fr
              · have ej : True := trivial
                have w1 : decide (xt < fr) = true := by simpa using h1
                have HN := Lib.hid (show offE l fr hi (p + 1) = offE l fr hi p by rw [HOF.out, hoff, if_neg (fun h => by have := h.1; omega)]; simp)
                clear hoff hjj
                gi_wp2
                refine wpInW_region_ext' (by kernel_rfl) (by kernel_rfl) rfl ?_
                repeat (go_big_quiet_step (fail))
                refine wpQuiet_nil ?_
                rintro _ ⟨z, rfl⟩
                gi_wp2
                have hz := z.h.size
                exact ⟨⟨p + 1, X6, by omega, by simp, Lib.hid (by rw [HN.out]; exact hJ _ _ _ _ _ HJ6.out (Stp.of_below z.h)), Lib.hid (HP6.out.below (z.h.mono (by have := HMW.out; omega))), Lib.hid (HS6.out.below z.h), HXA6, Lib.hid (fun j hj => Nat.lt_of_lt_of_le (HXs6.out j hj) hz), Lib.hid (by have := HMW.out; omega)⟩, by simp only [intOf]; omega⟩
              · have h1' : fr ≤ xt := by omega
                have w1 : decide (xt < fr) = false := by simpa using h1'
                by_cases h2 : hi ≤ xt
                · have ej : True := trivial
                  have w2 : decide (hi ≤ xt) = true := by simpa using h2
                  have HN := Lib.hid (show offE l fr hi (p + 1) = offE l fr hi p by rw [HOF.out, hoff, if_neg (fun h => by have := h.2.1; omega)]; simp)
                  clear hoff hjj
                  gi_wp2
                  refine wpInW_region_ext' (by kernel_rfl) (by kernel_rfl) rfl ?_
                  repeat (go_big_quiet_step (fail))
                  refine wpQuiet_nil ?_
                  rintro _ ⟨z, rfl⟩
                  gi_wp2
                  have hz := z.h.size
                  exact ⟨⟨p + 1, X6, by omega, by simp, Lib.hid (by rw [HN.out]; exact hJ _ _ _ _ _ HJ6.out (Stp.of_below z.h)), Lib.hid (HP6.out.below (z.h.mono (by have := HMW.out; omega))), Lib.hid (HS6.out.below z.h), HXA6, Lib.hid (fun j hj => Nat.lt_of_lt_of_le (HXs6.out j hj) hz), Lib.hid (by have := HMW.out; omega)⟩, by simp only [intOf]; omega⟩
                · have h2' : xt < hi := by omega
                  have w2 : decide (hi ≤ xt) = false := by simpa using h2'
                  rcases hjj with ⟨rfl, hb⟩ | ⟨j, y, rfl, hjk, hcj, hb⟩
                  · have ej : True := trivial
                    have HN := Lib.hid (show offE l fr hi (p + 1) = offE l fr hi p ++ [⟨hi, 1, xc, xe, 0, xn⟩] by rw [HOF.out, hoff, if_pos ⟨h1', h2', hb⟩])
                    clear hoff hb
                    gi_wp2
                    refine wpInW_region_ext' (by kernel_rfl) (by kernel_rfl) rfl ?_
                    repeat (go_big_quiet_step (fail))
                    refine wpQuiet_nil ?_
                    rintro _ ⟨z, rfl⟩
                    have hJz := hJ _ _ _ _ _ HJ6.out (Stp.of_below z.h)
                    have hz := z.h.size
                    have HPz := Lib.hid (HP6.out.below (z.h.mono (by have := HMW.out; omega)))
                    have HSz := Lib.hid (HS6.out.below z.h)
                    have hw := hY _ ⟨hi, 1, xc, xe, 0, xn⟩ _ _ hJz ⟨HEI.out, by
                      have h1 := HM2.out.1
                      have h2 := offE_len l fr hi p
                      rw [List.length_append]; omega⟩
                    have HXz := Lib.hid (fun j (hj : X6 j) => Nat.lt_of_lt_of_le (HXs6.out j hj) hz)
                    have y2 := e2 z
                    have y3 := e3 z
                    have y5 := e5 z
                    have yT := eT z
                    have HZ := Lib.hid hz
                    clear hY hJz e0 e1 e2 e3 e4 e5 eT eF eL ej hz
                    obtain ⟨fn, tmps, assign, body, hy, hR⟩ := hw
                    dsimp only [evV, evA] at hy
                    gi_wp2
                    refine hR.mono ?_
                    rintro e Wc (⟨rfl, hJ3, hk3⟩ | ⟨rfl, hJx3⟩)
                    · have HPc := Lib.hid (HPz.out.keep hk3)
                      have HSc := Lib.hid (HSz.out.keep hk3 (fun a ha _ => .inr (HXA6.out a ha)))
                      have HXc := Lib.hid (fun j (hj : X6 j) => Nat.lt_of_lt_of_le (HXz.out j hj) hk3.1)
                      have HJc := Lib.hid hJ3
                      have HMc := Lib.hid (show W.heap.size ≤ Wc.heap.size by have h1 := HMW.out; have h2 := HZ.out; have h3 := hk3.1; omega)
                      clear hk3 hJ3 hy
                      gi_wp2
                      exact ⟨⟨p + 1, X6, by omega, by simp, Lib.hid (by rw [HN.out, ← List.append_assoc]; exact HJc.out), HPc, HSc, HXA6, HXc, HMc⟩, by simp only [intOf]; omega⟩
                    · gi_wp2
                      refine bodyPost_ret (results_none rfl _ _ _) rfl ?_
                      exact ⟨⟨_, rfl⟩, .inr ⟨_, _, trivial, hJx3⟩⟩
                  · have ej : ∀ z : Ext W6, z.W.cell? ⟨bb, oo + j * 6, none⟩ = some (.int .i64 y.tick) := fun z => z.cell hcj
                    obtain ⟨yt, hyt⟩ : ∃ yt, y.tick = yt := ⟨_, rfl⟩
                    rw [hyt] at ej hb
                    have hj0 : (0 : Int) ≤ (j : Int) := by omega
                    have hj1 : (j : Int) < (k : Int) := by omega
                    have w3 : decide ((0 : Int) ≤ (j : Int)) = true := by simp
                    clear hcj hyt
                    by_cases h3 : yt < hi
                    · have w4 : decide (yt < hi) = true := by simpa using h3
                      rw [w4] at hb
                      have HN := Lib.hid (show offE l fr hi (p + 1) = offE l fr hi p by rw [HOF.out, hoff, if_neg (fun h => by rw [hb] at h; exact absurd h.2.2 (by simp))]; simp)
                      clear hoff hb
                      gi_wp2
                      refine wpInW_region_ext' (by kernel_rfl) (by kernel_rfl) rfl ?_
                      repeat (go_big_quiet_step (fail))
                      refine wpQuiet_nil ?_
                      rintro _ ⟨z, rfl⟩
                      gi_wp2
                      have hz := z.h.size
                      exact ⟨⟨p + 1, X6, by omega, by simp, Lib.hid (by rw [HN.out]; exact hJ _ _ _ _ _ HJ6.out (Stp.of_below z.h)), Lib.hid (HP6.out.below (z.h.mono (by have := HMW.out; omega))), Lib.hid (HS6.out.below z.h), HXA6, Lib.hid (fun j hj => Nat.lt_of_lt_of_le (HXs6.out j hj) hz), Lib.hid (by have := HMW.out; omega)⟩, by simp only [intOf]; omega⟩
                    · have w4 : decide (yt < hi) = false := by simpa using h3
                      rw [w4] at hb
                      have HN := Lib.hid (show offE l fr hi (p + 1) = offE l fr hi p ++ [⟨hi, 1, xc, xe, 0, xn⟩] by rw [HOF.out, hoff, if_pos ⟨h1', h2', hb⟩])
                      clear hoff hb
                      gi_wp2
                      refine wpInW_region_ext' (by kernel_rfl) (by kernel_rfl) rfl ?_
                      repeat (go_big_quiet_step (fail))
                      refine wpQuiet_nil ?_
                      rintro _ ⟨z, rfl⟩
                      have hJz := hJ _ _ _ _ _ HJ6.out (Stp.of_below z.h)
                      have hz := z.h.size
                      have HPz := Lib.hid (HP6.out.below (z.h.mono (by have := HMW.out; omega)))
                      have HSz := Lib.hid (HS6.out.below z.h)
                      have hw := hY _ ⟨hi, 1, xc, xe, 0, xn⟩ _ _ hJz ⟨HEI.out, by
                        have h1 := HM2.out.1
                        have h2 := offE_len l fr hi p
                        rw [List.length_append]; omega⟩
                      have HXz := Lib.hid (fun j (hj : X6 j) => Nat.lt_of_lt_of_le (HXs6.out j hj) hz)
                      have y2 := e2 z
                      have y3 := e3 z
                      have y5 := e5 z
                      have yT := eT z
                      have HZ := Lib.hid hz
                      clear hY hJz e0 e1 e2 e3 e4 e5 eT eF eL ej hz
                      obtain ⟨fn, tmps, assign, body, hy, hR⟩ := hw
                      dsimp only [evV, evA] at hy
                      gi_wp2
                      refine hR.mono ?_
                      rintro e Wc (⟨rfl, hJ3, hk3⟩ | ⟨rfl, hJx3⟩)
                      · have HPc := Lib.hid (HPz.out.keep hk3)
                        have HSc := Lib.hid (HSz.out.keep hk3 (fun a ha _ => .inr (HXA6.out a ha)))
                        have HXc := Lib.hid (fun j (hj : X6 j) => Nat.lt_of_lt_of_le (HXz.out j hj) hk3.1)
                        have HJc := Lib.hid hJ3
                        have HMc := Lib.hid (show W.heap.size ≤ Wc.heap.size by have h1 := HMW.out; have h2 := HZ.out; have h3 := hk3.1; omega)
                        clear hk3 hJ3 hy
                        gi_wp2
                        exact ⟨⟨p + 1, X6, by omega, by simp, Lib.hid (by rw [HN.out, ← List.append_assoc]; exact HJc.out), HPc, HSc, HXA6, HXc, HMc⟩, by simp only [intOf]; omega⟩
                      · gi_wp2
                        refine bodyPost_ret (results_none rfl _ _ _) rfl ?_
                        exact ⟨⟨_, rfl⟩, .inr ⟨_, _, trivial, hJx3⟩⟩
            · obtain rfl : p = n3 := by omega
              gi_wp2
              go_end0
              refine ⟨⟨_, rfl⟩, .inl ⟨_, _, ⟨?_, fun e => ?_⟩, HJ.out⟩⟩
              · have h1 := HM2.out.1
                have h2 := offE_len l fr hi p
                rw [List.length_append, HL.out]; omega
              · rw [List.mem_append, HM2.out.2 e, HL.out, HN3.out, or_assoc]
        · have hne : r ≠ W.heap.size := HIt.out.lt.2.2
          have hP3 := HP.out.below (below_grown g3' (by omega) (by omega))
          have hJ3 := hJ _ _ _ _ _ HJ.out (Stp.grown g3' hXr)
          have hxI := cAt_evI HI.out hfr hfx
          have hal : Below W3.heap.size W3 (W3.alloc (.cells (evA x) 40)) := (Below.refl _ W3).alloc (Nat.le_refl _) _
          obtain ⟨hI4, hrl⟩ := hI3.same (hal.block _ hI3.lt.1) (hal.block _ hI3.lt.2.1)
          have hJ4 := hJ _ _ _ _ _ hJ3 (Stp.alloc X W3 (.cells (evA x) 40))
          have hP4 := hP3.below (hal.mono (Nat.le_of_lt hI3.lt.1))
          have hX4 : ∀ j, (X j ∨ j = W3.heap.size) → j < (W3.alloc (.cells (evA x) 40)).heap.size := by
            rintro j (h5 | h5)
            · have := HXs.out j h5; rw [World.size_alloc]; omega
            · rw [World.size_alloc]; omega
          obtain ⟨nd1, nd2, nd3, nd4⟩ := HB.out
          have hkl : ks.length ≤ k := by
            have := nodup_le (L := l.map voiceOf) nd1 (fun v hv => by
              obtain ⟨e, he⟩ := nd2 v hv
              obtain ⟨y, hy, hyv, _⟩ := cAt_mem he
              exact List.mem_map.2 ⟨y, hy, hyv⟩)
            rw [List.length_map, HL.out] at this
            exact this
          have HN2 := Lib.hid (show (v :: ks).Nodup ∧ (∀ u ∈ v :: ks, ∃ e, cAt l fr k u = some e) ∧ (pre ++ [x]).length = (inE l fr hi k).length + (v :: ks).length ∧ ∀ e, e ∈ pre ++ [x] ↔ e ∈ inE l fr hi k ∨ ∃ u ∈ v :: ks, cAt l fr k u = some e from by
            refine ⟨List.nodup_cons.2 ⟨hnd, nd1⟩, ?_, ?_, ?_⟩
            · intro u hu
              rcases List.mem_cons.1 hu with rfl | hu
              · exact ⟨x, hfx⟩
              · exact nd2 u hu
            · rw [List.length_append, List.length_cons, nd3]; simp; omega
            · intro e
              rw [List.mem_append, List.mem_singleton, nd4 e]
              constructor
              · rintro ((h5 | ⟨u, hu, h5⟩) | rfl)
                · exact .inl h5
                · exact .inr ⟨u, List.mem_cons_of_mem _ hu, h5⟩
                · exact .inr ⟨v, List.mem_cons_self .., hfx⟩
              · rintro (h5 | ⟨u, hu, h5⟩)
                · exact .inl (.inl h5)
                · rcases List.mem_cons.1 hu with rfl | hu
                  · rw [hfx] at h5; injection h5 with h5; exact .inr h5.symm
                  · exact .inl (.inr ⟨u, hu, h5⟩))
          have hw := hY pre x _ _ hJ4 ⟨hxI, by have := HIL.out; omega⟩
          have HI4 := Lib.hid hI4
          have HP4 := Lib.hid hP4
          have HX4 := Lib.hid hX4
          have HRL := Lib.hid (And.intro hrl hl3)
          have hbx := Blk.new W3 40 (evA x)
          clear hY hJ4 hI4 hP4 hX4 hrl hl3 hal hI3 hJ3 hP3 g3' z3 hnd nd1 nd2 nd3 nd4 HJ HIt HP HXs HB hkl hbw hrw
          obtain ⟨xt, xk, xc, xe, xv, xn⟩ := x
          unfold EvV at eN eE
          unfold vK at eN eE
          dsimp only [evA] at *
          have d0 := hbx.cell 0
          have d1 := hbx.cell 1
          have d2 := hbx.cell 2
          have d3 := hbx.cell 3
          have d4 := hbx.cell 4
          have d5 := hbx.cell 5
          simp only [List.getElem?_toArray, List.getElem?_cons_zero, List.getElem?_cons_succ] at d0 d1 d2 d3 d4 d5
          clear hbx
          obtain ⟨fn, tmps, assign, body, hy, hR⟩ := hw
          dsimp only [evV, evA] at hy
          gi_wp2_with (first
            | (refine wpListIn_next_eq (v1 := .pointer (some ⟨r, 0, none⟩)) rfl (.tmp 60) false rfl rfl (eN _) ?_; clear eN)
            | (refine wpListIn_entry_eq (v1 := .pointer (some ⟨r, 0, none⟩)) rfl (.tmp 60) rfl rfl eE ?_; clear eE))
          refine hR.mono ?_
          rintro e Wc (⟨rfl, hJ3, hk3⟩ | ⟨rfl, hJx3⟩)
          · have hPc := HP4.out.keep hk3
            obtain ⟨hIc, hrc⟩ := HI4.out.same (hk3.2 _ (.inr (.inl hXb)) HI4.out.lt.1) (hk3.2 _ (.inr (.inl hXr)) HI4.out.lt.2.1)
            have hXc : ∀ j, (X j ∨ j = W3.heap.size) → j < Wc.heap.size := fun j hj => Nat.lt_of_lt_of_le (HX4.out j hj) hk3.1
            have HPc := Lib.hid hPc
            have HIc := Lib.hid hIc
            have HRC := Lib.hid hrc
            have HXc := Lib.hid hXc
            have HJc := Lib.hid hJ3
            clear hPc hIc hrc hXc hJ3 hk3 hy
            gi_wp2
            exact ⟨⟨_, _, v :: ks, HJc, .inl hXb, .inl hXr, HPc, Lib.hid (by
              obtain ⟨es, cl, se, q1, q2, q3, q4, q5⟩ := HIc.out
              exact ⟨es, cl, se, q1, q2, q3, q4, fun y hy u hu => by
                rw [← q5 y hy u hu]
                show u ∈ v :: ks ↔ u ∈ ks ∨ u = v
                rw [List.mem_cons]
                exact or_comm⟩), HXc, HN2⟩, by rw [HRC.out]; have := HRL.out; omega⟩
          · gi_wp2
            refine bodyPost_ret (results_none rfl _ _ _) rfl ?_
            exact ⟨⟨_, rfl⟩, .inr ⟨_, _, trivial, hJx3⟩⟩
end Go.Proofs.Ytmfdflfjllpceaa
