/- The law MidiSorted: its walk. -/
import Derived.Test.YtmfdflfjllpceaaZW50g
import Derived.BigRegion
namespace Go.Proofs.Ytmfdflfjllpceaa
open Go.RowKit

theorem u8_at {w : World} {A : Option Addr} {n c : Nat} {l : List U8} (h : SA u8E w A n c l) {k : Nat} (hk : k < l.length) {s : U8} (hs : l[k] = s) : ∃ b o, A = some ⟨b, o, none⟩ ∧ b < w.heap.size ∧ w.cell? ⟨b, o + k, none⟩ = some (.int .u8 s.1) := by
  subst hs
  obtain ⟨b, o, e, hb, hc⟩ := h.at_ hk
  have := hc 0 _ rfl
  rw [show o + k * u8E.sz + 0 = o + k by show o + k * 1 + 0 = o + k; omega] at this
  exact ⟨b, o, e, hb, this⟩
/-- Where the law's turn goes. -/
theorem turn_at {n k : Nat} (hk : k < n) (o : U8) : ∃ r : Nat, (o.1).tmod ((n : Int) - (k : Int)) = (r : Int) ∧ k + r < n := by
  have h1 : 0 ≤ (o.1).tmod ((n : Int) - (k : Int)) := Int.tmod_nonneg _ o.2.1
  have h2 : (o.1).tmod ((n : Int) - (k : Int)) < (n : Int) - (k : Int) := Int.tmod_lt_of_pos _ (by omega)
  obtain ⟨r, hr⟩ := Int.eq_ofNat_of_zero_le h1
  refine ⟨r, hr, ?_⟩
  rw [hr] at h2
  omega
/-- Element k is stored whole: the world written out. -/
theorem OA.put_ {α : Type} {e : Enc α} {W : World} {B n c g k : Nat} {l : List α} (h : OA e W B (some ⟨g, 0, none⟩) n c l) (hk : k < n) (y : α) :
    OA e (W.setCells g (k * e.sz) (e.enc y)) B (some ⟨g, 0, none⟩) n c (l.set k y) ∧ Below B W (W.setCells g (k * e.sz) (e.enc y)) := by
  obtain ⟨W', hst, ho, hb⟩ := h.put hk y
  obtain ⟨cur, _, hf, _⟩ := h.full
  obtain ⟨hh, h1, h2, h3, h4⟩ := hf (by omega)
  have hkn : (k + 1) * e.sz ≤ n * e.sz := Nat.mul_le_mul_right _ hk
  have hnc : n * e.sz ≤ c * e.sz := Nat.mul_le_mul_right _ h1
  have hk1 : (k + 1) * e.sz = k * e.sz + e.sz := by rw [Nat.add_mul, Nat.one_mul]
  have hlen := e.len y
  have hr := run_storeCells_cells (P := Try.prog) g (k * e.sz) (e.enc y) 0 W (fun j hj => by
    rw [hh.cell, Nat.add_zero, Array.getElem?_eq_getElem (by omega)]; rfl) (fun j _ => hh.frozen _) (e.one y)
  rw [Nat.add_zero] at hr
  have h5 := (hst _ rfl).symm.trans hr
  injection h5 with _ h5
  rw [← h5]
  exact ⟨ho, hb⟩
theorem swap_perm {l : List Ev} {i j : Nat} {x y : Ev} (hx : l[i]? = some x) (hy : l[j]? = some y) : ((l.set i y).set j x).Perm l := by
  obtain ⟨h1, rfl⟩ := List.getElem?_eq_some_iff.1 hx
  obtain ⟨h2, rfl⟩ := List.getElem?_eq_some_iff.1 hy
  exact List.set_set_perm h1 h2
/-- Have the first k events been right? -/
def rgt (X : List Ev) : Nat → Bool
  | 0 => true
  | k + 1 => rgt X k && match X[k]? with
    | some y => decide (EvOk y) && decide (k = 0 ∨ X[k - 1]? ≠ some y)
    | none => true
theorem rgt_succ {X : List Ev} {k : Nat} {y : Ev} (h : X[k]? = some y) : rgt X (k + 1) = (rgt X k && (decide (EvOk y) && decide (k = 0 ∨ X[k - 1]? ≠ some y))) := by rw [rgt, h]
theorem rgt_all {X : List Ev} : ∀ {n : Nat}, rgt X n = true ↔ ∀ (k : Nat) (y : Ev), k < n → X[k]? = some y → EvOk y ∧ (k = 0 ∨ X[k - 1]? ≠ some y)
  | 0 => ⟨fun _ k y hk => by omega, fun _ => rfl⟩
  | n + 1 => by
    have ih := rgt_all (X := X) (n := n)
    cases hx : X[n]? with
    | none =>
      rw [rgt, hx, Bool.and_true, ih]
      constructor
      · intro h k y hk hy
        by_cases hkn : k < n
        · exact h k y hkn hy
        · obtain rfl : k = n := by omega
          rw [hx] at hy
          cases hy
      · intro h k y hk hy
        exact h k y (by omega) hy
    | some x =>
      rw [rgt_succ hx, Bool.and_eq_true, Bool.and_eq_true, ih, decide_eq_true_iff, decide_eq_true_iff]
      constructor
      · rintro ⟨h1, h2, h3⟩ k y hk hy
        by_cases hkn : k < n
        · exact h1 k y hkn hy
        · obtain rfl : k = n := by omega
          rw [hx] at hy
          injection hy with hy
          subst hy
          exact ⟨h2, h3⟩
      · intro h
        exact ⟨fun k y hk hy => h k y (by omega) hy, h n x (by omega) hx⟩
theorem rgt_check {X : List Ev} (hw : WS X) (hl : X.length ≤ 60) : rgt X X.length = decide (checkM X = 0) := by
  refine Bool.eq_iff_iff.2 ?_
  rw [decide_eq_true_iff, rgt_all]
  constructor
  · intro h
    refine checkM_yes (by omega) fun k e hk he => ⟨(h k e hk he).1, fun j q hj hq => ?_⟩
    rcases (h k e hk he).2 with h5 | h5
    · omega
    · obtain ⟨a1, a2⟩ := List.getElem?_eq_some_iff.1 hq
      obtain ⟨b1, b2⟩ := List.getElem?_eq_some_iff.1 he
      have h6 := List.pairwise_iff_getElem.1 hw j k a1 b1 (by omega)
      rw [a2, b2] at h6
      rw [evLt_evc]
      by_cases h7 : evc q e = 0
      · exfalso
        refine h5 ?_
        rw [show k - 1 = j by omega, hq, evc_zero h7]
      · omega
  · intro h k y hk hy
    obtain ⟨_, h2, h3⟩ := checkM_ok h
    refine ⟨h2 y (List.mem_of_getElem? hy), ?_⟩
    by_cases h0 : k = 0
    · exact .inl h0
    · refine .inr fun h5 => ?_
      obtain ⟨a1, a2⟩ := List.getElem?_eq_some_iff.1 h5
      obtain ⟨b1, b2⟩ := List.getElem?_eq_some_iff.1 hy
      have h6 := List.pairwise_iff_getElem.1 h3 (k - 1) k a1 b1 (by omega)
      rw [a2, b2] at h6
      exact evLt_irrefl _ h6
def cntE (l : List Ev) (y : Ev) (k : Nat) : Nat := ((l.take k).filter fun z => decide (z = y)).length
theorem cntE_succ {l : List Ev} {y x : Ev} {k : Nat} (h : l[k]? = some x) : cntE l y (k + 1) = cntE l y k + if x = y then 1 else 0 := by
  unfold cntE
  rw [List.take_add_one, h, List.filter_append, List.length_append]
  congr 1
  by_cases h3 : x = y <;> simp [h3]
theorem cntE_le (l : List Ev) (y : Ev) (k : Nat) : cntE l y k ≤ k := by
  unfold cntE
  have h1 := List.length_filter_le (fun z => decide (z = y)) (l.take k)
  rw [List.length_take] at h1
  omega
theorem cntE_perm {l m : List Ev} (h : l.Perm m) (y : Ev) : cntE l y l.length = cntE m y m.length := by
  unfold cntE
  rw [List.take_length, List.take_length]
  exact (h.filter _).length_eq
/-- Neighbours in a sorted list: the later one is not less. -/
theorem ws_next {X : List Ev} (hw : WS X) {p : Nat} {x y : Ev} (hx : X[p]? = some x) (hy : X[p + 1]? = some y) : decide (evLt y x) = false := by
  obtain ⟨a1, a2⟩ := List.getElem?_eq_some_iff.1 hx
  obtain ⟨b1, b2⟩ := List.getElem?_eq_some_iff.1 hy
  have h6 := List.pairwise_iff_getElem.1 hw p (p + 1) a1 b1 (by omega)
  rw [a2, b2] at h6
  refine decide_eq_false fun h => ?_
  rw [evLt_evc] at h
  have := evc_neg x y
  omega
set_option maxHeartbeats 8000000 in
set_option maxRecDepth 1000000 in
theorem walkMidiSorted (A : Option Addr) (n c : Nat) (L : List EvS) (B : Option Addr) (m d : Nat) (O : List U8) (w : World) (h : SA evES w A n c L) (hO : SA u8E w B m d O) :
    Calls Try.prog 5 #[.slice A n c, .slice B m d] w fun e w' => e = .returned (.bool true) ∧ Below w.heap.size w w' := by
  obtain ⟨hs, hI⟩ := h.evs
  clear h
  generalize (L.map (·.1)) = l at hs hI
  have hlen := hs.len
  have hlenO := hO.len
  have CS := sane50_any w
  by_cases hn : (n : Int) ≤ 60
  · have CF := Lib.hid fun w' => few_yes (A := A) (c := c) hn w'
    have hnl := hs.n_eq
    have hon := hO.n_eq
    have S1 := Lib.hid fun (w' : World) (hb : Below w.heap.size w w') => sort_any A n c l w' (hs.below hb) hI (by omega)
    have HS := Lib.hid hs
    have HO := Lib.hid hO
    have HI := Lib.hid hI
    have hn60 : n ≤ 60 := by omega
    clear hs hO hI hn
    go_enter Try.func5, Try.ntmps5
    go_wp2_with fail
    refine CS.mono ?_; rintro e w1 ⟨rfl, b1⟩
    go_wp2_with fail
    refine (CF.out _).mono ?_; rintro e w2 ⟨rfl, rfl⟩
    go_wp2_with fail
    refine (S1.out _ b1).mono ?_; rintro e w3 ⟨A3, n3, c3, rfl, h3, b3⟩; have hB3 := Bel.on0 b1 b3
    obtain rfl : n3 = n := by have := h3.n_eq; rw [msort_len] at this; omega
    have H3 := Lib.hid h3.sa
    have ho0 := OA.litL (e := evE) (B := w3.heap.size) (l := []) (n := 0) (cs := #[]) w3 (Nat.le_refl _) rfl rfl (by omega)
    have hb0 := Bel.al (Below.refl w3.heap.size w3) (.cells #[] 40)
    obtain ⟨A4, c4, W4, eA, ho4, hb4, _⟩ := ho0.app (HS.out.below (Bel.al hB3 (.cells #[] 40))) hb0.size (by omega)
    rw [Nat.zero_add] at eA ho4
    rw [List.nil_append] at ho4
    have HO4 := Lib.hid ho4
    have HB4 := Lib.hid (hb0.trans hb4)
    clear h3 ho0 hb0 ho4 hb4 b1 b3 CS CF S1
    go_wp2_with (at_builtin; refine wpList_append_eq (v1 := .slice (some ⟨w3.heap.size, 0, none⟩) 0 0) (v2 := .slice A n3 c) rfl (.tmp 25) (.tmp 26) 22 rfl rfl rfl eA ?_; clear eA)
    go_loopw [30] (fun i wr2 => ∃ k : Nat, k ≤ m ∧ i = .int .i64 k ∧ Hid (∃ tl : List Ev, OA evE wr2 w3.heap.size A4 n3 c4 tl ∧ tl.Perm l) ∧ Below w3.heap.size w3 wr2) (fun i _ => m - (intOf i).toNat)
    case atStart => exact ⟨0, Nat.zero_le _, rfl, Lib.hid ⟨l, HO4.out, List.Perm.refl _⟩, HB4.out⟩
    case round =>
      clear HO4 HB4
      obtain ⟨k, hk, rfl, hQ, hB⟩ := hrel
      by_cases hlt : k < m
      · have hkl : k < O.length := by omega
        obtain ⟨s, hs⟩ : ∃ s, O[k] = s := ⟨_, rfl⟩
        obtain ⟨bb, oo, hAe, hbb, a0⟩ := u8_at (HO.out.below (Bel.on0 hB3 hB)) hkl hs
        subst hAe
        clear hs
        have g3 : (0 : Int) ≤ (k : Int) := by omega
        have g4 : (k : Int) < (m : Int) := by omega
        have gw : IntKind.i64.wrap ((k : Int) + 1) = (k : Int) + 1 := IntWalk.i64_in _ (by omega)
        by_cases hkn : k < n3
        · obtain ⟨r, hr, hrn⟩ := turn_at hkn s
          obtain ⟨o, ho⟩ : ∃ o, s.1 = o := ⟨_, rfl⟩
          have ho1 : 0 ≤ o ∧ o ≤ 255 := by rw [← ho]; exact s.2
          rw [ho] at hr a0
          have k1 : (k : Int) < (n3 : Int) := by omega
          have k2 : ¬ ((n3 : Int) - (k : Int) = 0) := by omega
          have k3 : ((n3 : Int) - (k : Int) == 0) = false := by simpa using k2
          have kw : IntKind.i64.wrap o = o := IntWalk.i64_in _ (by omega)
          have kw2 : IntKind.i64.wrap ((n3 : Int) - (k : Int)) = (n3 : Int) - (k : Int) := IntWalk.i64_in _ (by omega)
          have kw3 : IntKind.i64.wrap ((k : Int) + (r : Int)) = (k : Int) + (r : Int) := IntWalk.i64_in _ (by omega)
          have kw4 : IntKind.i64.wrap (r : Int) = (r : Int) := IntWalk.i64_in _ (by omega)
          clear ho
          obtain ⟨tl, q1, q2⟩ := hQ.out
          have htn := q1.n_eq
          obtain ⟨x, hx⟩ : ∃ x, tl[k]? = some x := ⟨_, List.getElem?_eq_getElem (by omega)⟩
          obtain ⟨y, hy⟩ : ∃ y, tl[k + r]? = some y := ⟨_, List.getElem?_eq_getElem (by omega)⟩
          obtain ⟨g, hg, hg1, hg2, hg3, hcell, hfz, _⟩ := q1.at_ hkn
          subst hg
          obtain ⟨g', hg', _, _, _, hcell2, hfz2, _⟩ := q1.at_ hrn
          injection hg' with hg'
          injection hg' with hg'
          subst hg'
          have c0 : wr.cell? ⟨g, k * 6, none⟩ = some (.int .i64 x.tick) := hcell x 0 _ hx rfl
          have c1 : wr.cell? ⟨g, k * 6 + 1, none⟩ = some (.int .i64 x.kind) := hcell x 1 _ hx rfl
          have c2 : wr.cell? ⟨g, k * 6 + 2, none⟩ = some (.int .i64 x.ch) := hcell x 2 _ hx rfl
          have c3 : wr.cell? ⟨g, k * 6 + 3, none⟩ = some (.int .i64 x.key) := hcell x 3 _ hx rfl
          have c4_ : wr.cell? ⟨g, k * 6 + 4, none⟩ = some (.int .i64 x.val) := hcell x 4 _ hx rfl
          have c5 : wr.cell? ⟨g, k * 6 + 5, none⟩ = some (.int .i64 x.no) := hcell x 5 _ hx rfl
          obtain ⟨p, hp⟩ : ∃ p, k + r = p := ⟨_, rfl⟩
          rw [hp] at hcell2 hy hrn hfz2
          have e0 : wr.cell? ⟨g, p * 6, none⟩ = some (.int .i64 y.tick) := hcell2 y 0 _ hy rfl
          have e1 : wr.cell? ⟨g, p * 6 + 1, none⟩ = some (.int .i64 y.kind) := hcell2 y 1 _ hy rfl
          have e2 : wr.cell? ⟨g, p * 6 + 2, none⟩ = some (.int .i64 y.ch) := hcell2 y 2 _ hy rfl
          have e3 : wr.cell? ⟨g, p * 6 + 3, none⟩ = some (.int .i64 y.key) := hcell2 y 3 _ hy rfl
          have e4 : wr.cell? ⟨g, p * 6 + 4, none⟩ = some (.int .i64 y.val) := hcell2 y 4 _ hy rfl
          have e5 : wr.cell? ⟨g, p * 6 + 5, none⟩ = some (.int .i64 y.no) := hcell2 y 5 _ hy rfl
          have fz : ∀ j, wr.frozen? ⟨g, k * 6 + j, none⟩ = false := hfz
          have fz2 : ∀ j, wr.frozen? ⟨g, p * 6 + j, none⟩ = false := hfz2
          have f0 : wr.frozen? ⟨g, k * 6, none⟩ = false := fz 0
          have f1 := fz 1
          have f2 := fz 2
          have f3 := fz 3
          have f4 := fz 4
          have f5 := fz 5
          have h0 : wr.frozen? ⟨g, p * 6, none⟩ = false := fz2 0
          have h1 := fz2 1
          have h2 := fz2 2
          have h3 := fz2 3
          have h4 := fz2 4
          have h5 := fz2 5
          have hkr : (k : Int) + (r : Int) = (p : Int) := by omega
          rw [hkr] at kw3
          have p1 : (p : Int) < (n3 : Int) := by omega
          have p2 : (0 : Int) ≤ (p : Int) := by omega
          obtain ⟨x0, x1, x2, x3, x4, x5⟩ := x
          obtain ⟨y0, y1, y2, y3, y4, y5⟩ := y
          dsimp only [evE] at c0 c1 c2 c3 c4_ c5 e0 e1 e2 e3 e4 e5
          have HQ1 := Lib.hid q1
          have HXY := Lib.hid (And.intro hx hy)
          have HQ2 := Lib.hid q2
          clear hx hy hcell hcell2 q1 q2 hfz hfz2 fz fz2
          by_cases hpk : p = k
          · subst hpk
            go_wp2_with fail
            obtain ⟨rfl, rfl, rfl, rfl, rfl, rfl⟩ : x0 = y0 ∧ x1 = y1 ∧ x2 = y2 ∧ x3 = y3 ∧ x4 = y4 ∧ x5 = y5 := by
              have h9 := HXY.out.1.symm.trans HXY.out.2
              injection h9 with h9
              injection h9 with q0 q1 q2 q3 q4 q5
              exact ⟨q0, q1, q2, q3, q4, q5⟩
            go_region
            go_wp2_with fail
            exact ⟨⟨p + 1, by omega, by simp, Lib.hid ⟨_, (OA.put_ (OA.put_ HQ1.out hkn (⟨x0, x1, x2, x3, x4, x5⟩ : Ev)).1 hrn (⟨x0, x1, x2, x3, x4, x5⟩ : Ev)).1.drew, (swap_perm HXY.out.1 HXY.out.2).trans HQ2.out⟩, ((hB.trans (OA.put_ HQ1.out hkn (⟨x0, x1, x2, x3, x4, x5⟩ : Ev)).2).trans (OA.put_ (OA.put_ HQ1.out hkn (⟨x0, x1, x2, x3, x4, x5⟩ : Ev)).1 hrn (⟨x0, x1, x2, x3, x4, x5⟩ : Ev)).2).drew⟩, by simp only [intOf]; omega⟩
          · go_wp2_with fail
            go_region
            go_wp2_with fail
            exact ⟨⟨k + 1, by omega, by simp, Lib.hid ⟨_, (OA.put_ (OA.put_ HQ1.out hkn (⟨y0, y1, y2, y3, y4, y5⟩ : Ev)).1 hrn (⟨x0, x1, x2, x3, x4, x5⟩ : Ev)).1.drew, (swap_perm HXY.out.1 HXY.out.2).trans HQ2.out⟩, ((hB.trans (OA.put_ HQ1.out hkn (⟨y0, y1, y2, y3, y4, y5⟩ : Ev)).2).trans (OA.put_ (OA.put_ HQ1.out hkn (⟨y0, y1, y2, y3, y4, y5⟩ : Ev)).1 hrn (⟨x0, x1, x2, x3, x4, x5⟩ : Ev)).2).drew⟩, by simp only [intOf]; omega⟩
        · have k1 : decide ((k : Int) < (n3 : Int)) = false := decide_eq_false (by omega)
          have k2 : decide (k < n3) = false := decide_eq_false hkn
          go_wp2_with fail
          exact ⟨⟨k + 1, by omega, by simp, hQ, hB⟩, by simp only [intOf]; omega⟩
      · obtain rfl : k = m := by omega
        clear hk hlt
        obtain ⟨tl, q1, q2⟩ := hQ.out
        have hW := msort_ws l
        have htl : msort tl = msort l := msort_perm_eq q2
        have hml : msort (msort l) = msort l := msort_of_ws hW
        have hmI : ∀ e ∈ msort l, EvI e := fun e he => HI.out e (msort_mem.1 he)
        have hmp := cntE_perm (msort_perm l)
        have G1 := sort_any (some ⟨0, 0, none⟩) 0 0 [] wr
        have H1 := Lib.hid (sort_any A4 n3 c4 tl wr q1.sa (fun e he => HI.out e (q2.mem_iff.1 he)) (by omega))
        rw [htl] at H1
        have H2 := Lib.hid fun (w9 : World) (hb : Below w3.heap.size w3 w9) => sort_any A3 n3 c3 (msort l) w9 (H3.out.below hb) hmI (by omega)
        rw [hml] at H2
        have hc := rgt_check hW (by rw [msort_len]; omega)
        have hXl : (msort l).length = n3 := by rw [msort_len]; exact hnl
        have CK := Lib.hid fun (w9 : World) (hb : Below w3.heap.size w3 w9) => mcheck_any A3 n3 c3 (msort l) w9 (H3.out.below hb)
        have HWS := Lib.hid hW
        have HMI := Lib.hid hmI
        obtain ⟨X, hX⟩ : ∃ X, msort l = X := ⟨_, rfl⟩
        rw [hX] at H1 H2 H3 hc hXl CK HWS HMI hmp
        rw [hXl, hnl] at hmp
        rw [hXl] at hc
        have HMP := Lib.hid hmp
        have HC := Lib.hid hc
        have HB := Lib.hid hB
        clear G1 q1 q2 hW htl hml hmI hX hmp hc hB hQ
        go_wp2_with fail
        refine H1.out.mono ?_; rintro e v1 ⟨A5, n5, c5, rfl, h5, d1⟩
        have hB1 := Bel.on0 HB.out d1
        have hn5 := h5.n_eq
        have h5s := h5.sa
        obtain rfl : n5 = n3 := by omega
        go_wp2_with fail
        refine (rsame_eq h5s (H3.out.below hB1) rfl).mono ?_; rintro e v2 ⟨rfl, d2⟩
        have hB2 := Bel.on0 hB1 d2
        clear h5 h5s hn5
        go_wp2_with fail
        refine (H2.out _ hB2).mono ?_; rintro e v3 ⟨A6, n6, c6, rfl, h6, d3⟩
        have hB3' := Bel.on0 hB2 d3
        have hn6 := h6.n_eq
        have h6s := h6.sa
        obtain rfl : n6 = n5 := by omega
        go_wp2_with fail
        refine (rsame_eq h6s (H3.out.below hB3') rfl).mono ?_; rintro e v4 ⟨rfl, d4⟩
        have hB4 := Bel.on0 hB3' d4
        clear h6 h6s hn6 d1 d2 d3 d4 hB1 hB2 hB3' H1 H2 HB
        go_wp2_with fail
        go_loopw [10, 84] (fun rt i wr2 => ∃ q : Nat, q ≤ n6 ∧ i = .int .i64 q ∧ rt = .bool (rgt X q) ∧ Below w3.heap.size w3 wr2) (fun _ i _ => n6 - (intOf i).toNat)
        case atStart => exact ⟨0, Nat.zero_le _, rfl, rfl, hB4⟩
        case round =>
          clear hB4
          obtain ⟨q, hq, rfl, rfl, hB⟩ := hrel
          by_cases hlt : q < n6
          · have hql : q < X.length := by omega
            obtain ⟨s, hs⟩ : ∃ s, X[q] = s := ⟨_, rfl⟩
            have hs' : X[q]? = some s := by rw [List.getElem?_eq_getElem hql, hs]
            have hsI := HMI.out s (List.mem_of_getElem? hs')
            have hRS := rgt_succ hs'
            have HS' := Lib.hid hs'
            obtain ⟨bb, oo, rfl, hbb, a0, a1, a2, a3, a4, a5⟩ := ev_at (H3.out.below hB) hql hs
            clear hs hs' hql
            obtain ⟨y0, y1, y2, y3, y4, y5⟩ := s
            dsimp only at a0 a1 a2 a3 a4 a5
            have g3 : (0 : Int) ≤ (q : Int) := by omega
            have g4 : (q : Int) < (n6 : Int) := by omega
            have gw : IntKind.i64.wrap ((q : Int) + 1) = (q : Int) + 1 := IntWalk.i64_in _ (by omega)
            obtain ⟨Wb, hWb⟩ : ∃ Wb, wr.alloc (.cells #[.int .i64 y0, .int .i64 y1, .int .i64 y2, .int .i64 y3, .int .i64 y4, .int .i64 y5] 40) = Wb := ⟨_, rfl⟩
            have hbx : Blk Wb wr.heap.size 40 #[.int .i64 y0, .int .i64 y1, .int .i64 y2, .int .i64 y3, .int .i64 y4, .int .i64 y5] := by rw [← hWb]; exact Blk.new wr 40 #[.int .i64 y0, .int .i64 y1, .int .i64 y2, .int .i64 y3, .int .i64 y4, .int .i64 y5]
            have hb1 : Below w3.heap.size w3 Wb := by rw [← hWb]; exact Bel.al hB _
            have HBX := Lib.hid hbx
            have HB1 := Lib.hid hb1
            have HSI := Lib.hid hsI
            have HRS := Lib.hid hRS
            have m0 : ∀ z : Ext Wb, z.W.cell? ⟨wr.heap.size, 0, none⟩ = some (.int .i64 y0) := fun z => z.cell (hbx.cell 0)
            have m1 : ∀ z : Ext Wb, z.W.cell? ⟨wr.heap.size, 1, none⟩ = some (.int .i64 y1) := fun z => z.cell (hbx.cell 1)
            have m2 : ∀ z : Ext Wb, z.W.cell? ⟨wr.heap.size, 2, none⟩ = some (.int .i64 y2) := fun z => z.cell (hbx.cell 2)
            have m3 : ∀ z : Ext Wb, z.W.cell? ⟨wr.heap.size, 3, none⟩ = some (.int .i64 y3) := fun z => z.cell (hbx.cell 3)
            have m4 : ∀ z : Ext Wb, z.W.cell? ⟨wr.heap.size, 4, none⟩ = some (.int .i64 y4) := fun z => z.cell (hbx.cell 4)
            have m5 : ∀ z : Ext Wb, z.W.cell? ⟨wr.heap.size, 5, none⟩ = some (.int .i64 y5) := fun z => z.cell (hbx.cell 5)
            clear hsI hRS hbx hb1
            go_upto_region 20 with (fail)
            go_cut [99] (fun b wx => b = .bool false ∧ Below Wb.heap.size Wb wx)
            case first =>
              by_cases hq0 : q = 0
              · have k0 : decide ((0 : Int) < (q : Int)) = false := by simp; omega
                have k1 : decide (0 < q) = false := by simp; omega
                clear hq0
                go_wp2_with fail
                refine wp_region_ext (by kernel_rfl) (by kernel_rfl) ?_
                repeat (go_big_quiet_step (fail))
                refine wpQuiet_nil ?_
                rintro _ ⟨z, rfl⟩
                go_wp2_with fail
                go_meet
                exact ⟨rfl, z.h⟩
              · obtain ⟨p, rfl⟩ : ∃ p, q = p + 1 := ⟨q - 1, by omega⟩
                have hpl : p < X.length := by omega
                obtain ⟨t, ht⟩ : ∃ t, X[p] = t := ⟨_, rfl⟩
                have ht' : X[p]? = some t := by rw [List.getElem?_eq_getElem hpl, ht]
                have htI := HMI.out t (List.mem_of_getElem? ht')
                have hwn := ws_next HWS.out ht' HS'.out
                obtain ⟨b', o', e', _, d0, d1, d2, d3, d4, d5⟩ := ev_at (H3.out.below hB) hpl ht
                injection e' with e'
                injection e' with e5 e6 _
                subst e5 e6
                clear ht ht' hpl
                obtain ⟨t0, t1, t2, t3, t4, t5⟩ := t
                dsimp only at d0 d1 d2 d3 d4 d5
                have n0 : ∀ z : Ext Wb, z.W.cell? ⟨bb, oo + p * 6, none⟩ = some (.int .i64 t0) := fun z => z.cell (by rw [← hWb]; exact cell_alw d0 _)
                have n1 : ∀ z : Ext Wb, z.W.cell? ⟨bb, oo + p * 6 + 1, none⟩ = some (.int .i64 t1) := fun z => z.cell (by rw [← hWb]; exact cell_alw d1 _)
                have n2 : ∀ z : Ext Wb, z.W.cell? ⟨bb, oo + p * 6 + 2, none⟩ = some (.int .i64 t2) := fun z => z.cell (by rw [← hWb]; exact cell_alw d2 _)
                have n3 : ∀ z : Ext Wb, z.W.cell? ⟨bb, oo + p * 6 + 3, none⟩ = some (.int .i64 t3) := fun z => z.cell (by rw [← hWb]; exact cell_alw d3 _)
                have n4 : ∀ z : Ext Wb, z.W.cell? ⟨bb, oo + p * 6 + 4, none⟩ = some (.int .i64 t4) := fun z => z.cell (by rw [← hWb]; exact cell_alw d4 _)
                have n5 : ∀ z : Ext Wb, z.W.cell? ⟨bb, oo + p * 6 + 5, none⟩ = some (.int .i64 t5) := fun z => z.cell (by rw [← hWb]; exact cell_alw d5 _)
                have CL := fun z : Ext Wb => rless_at y0 y1 y2 y3 y4 y5 t0 t1 t2 t3 t4 t5 HSI.out htI z.W
                rw [hwn] at CL
                have HCL := Lib.hid CL
                have k0 : decide ((0 : Int) < (p : Int) + 1) = true := by simp <;> omega
                have k1 : decide (0 < p + 1) = true := by simp
                have k3 : (0 : Int) ≤ (p : Int) := by omega
                have k4 : (p : Int) < (n6 : Int) := by omega
                have kw : IntKind.i64.wrap (p : Int) = p := IntWalk.i64_in _ (by omega)
                clear CL hwn htI
                go_wp2_with fail
                refine wp_region_ext (by kernel_rfl) (by kernel_rfl) ?_
                repeat (go_big_quiet_step (first | with_reducible exact Ext.quiet (HCL.out _)))
                refine wpQuiet_nil ?_
                rintro _ ⟨z, rfl⟩
                go_wp2_with fail
                go_meet
                exact ⟨rfl, z.h⟩
            case rest =>
              obtain ⟨rfl, hbc⟩ := hcut
              rename World => W20
              have HX20 := Lib.hid (HBX.out.belowAll hbc)
              have HB20 := Lib.hid (Bel.on0 HB1.out hbc)
              clear m0 m1 m2 m3 m4 m5 HBX HB1
              go_upto_region 22 with (fail)
              go_cut [10] (fun b wx => b = .bool (rgt X (q + 1)) ∧ Below W20.heap.size W20 wx)
              case first =>
                have hx20 := HX20.out
                have m0 : ∀ z : Ext W20, z.W.cell? ⟨wr.heap.size, 0, none⟩ = some (.int .i64 y0) := fun z => z.cell (hx20.cell 0)
                have m1 : ∀ z : Ext W20, z.W.cell? ⟨wr.heap.size, 1, none⟩ = some (.int .i64 y1) := fun z => z.cell (hx20.cell 1)
                have m2 : ∀ z : Ext W20, z.W.cell? ⟨wr.heap.size, 2, none⟩ = some (.int .i64 y2) := fun z => z.cell (hx20.cell 2)
                have m3 : ∀ z : Ext W20, z.W.cell? ⟨wr.heap.size, 3, none⟩ = some (.int .i64 y3) := fun z => z.cell (hx20.cell 3)
                have m4 : ∀ z : Ext W20, z.W.cell? ⟨wr.heap.size, 4, none⟩ = some (.int .i64 y4) := fun z => z.cell (hx20.cell 4)
                have m5 : ∀ z : Ext W20, z.W.cell? ⟨wr.heap.size, 5, none⟩ = some (.int .i64 y5) := fun z => z.cell (hx20.cell 5)
                have CV := Lib.hid fun z : Ext W20 => rvalid_at y0 y1 y2 y3 y4 y5 z.W
                clear hx20
                obtain ⟨f, hf⟩ : ∃ f, rgt X q = f := ⟨_, rfl⟩
                have hrs := HRS.out
                rw [hf] at hrs ⊢
                cases f with
                | false =>
                  have HN := Lib.hid (show rgt X (q + 1) = false by rw [hrs]; rfl)
                  have HCV := CV
                  clear hrs hf
                  go_wp2_with fail
                  refine wp_region_ext (by kernel_rfl) (by kernel_rfl) ?_
                  repeat (go_big_quiet_step (first | with_reducible exact Ext.quiet (HCV.out _)))
                  refine wpQuiet_nil ?_
                  rintro _ ⟨z, rfl⟩
                  go_wp2_with fail
                  go_meet
                  exact ⟨by rw [HN.out], z.h⟩
                | true =>
                  by_cases ok : EvOk (⟨y0, y1, y2, y3, y4, y5⟩ : Ev)
                  · rw [decide_eq_true ok] at CV hrs
                    have HCV := CV
                    by_cases hq0 : q = 0
                    · subst hq0
                      have HN := Lib.hid (show rgt X (0 + 1) = true by rw [hrs]; rfl)
                      clear hrs hf ok CV
                      go_wp2_with fail
                      refine wp_region_ext (by kernel_rfl) (by kernel_rfl) ?_
                      repeat (go_big_quiet_step (first | with_reducible exact Ext.quiet (HCV.out _)))
                      refine wpQuiet_nil ?_
                      rintro _ ⟨z, rfl⟩
                      go_wp2_with fail
                      go_meet
                      exact ⟨by rw [HN.out], z.h⟩
                    · skip
                      obtain ⟨p, rfl⟩ : ∃ p, q = p + 1 := ⟨q - 1, by omega⟩
                      have hpl : p < X.length := by omega
                      obtain ⟨t, ht⟩ : ∃ t, X[p] = t := ⟨_, rfl⟩
                      have ht' : X[p]? = some t := by rw [List.getElem?_eq_getElem hpl, ht]
                      have htI := HMI.out t (List.mem_of_getElem? ht')
                      obtain ⟨b', o', e', _, d0, d1, d2, d3, d4, d5⟩ := ev_at (H3.out.below HB20.out) hpl ht
                      injection e' with e'
                      injection e' with e5 e6 _
                      subst e5 e6
                      rw [Nat.add_sub_cancel, ht'] at hrs
                      clear ht ht' hpl htI
                      obtain ⟨t0, t1, t2, t3, t4, t5⟩ := t
                      dsimp only at d0 d1 d2 d3 d4 d5
                      have n0 : ∀ z : Ext W20, z.W.cell? ⟨bb, oo + p * 6, none⟩ = some (.int .i64 t0) := fun z => z.cell (d0)
                      have n1 : ∀ z : Ext W20, z.W.cell? ⟨bb, oo + p * 6 + 1, none⟩ = some (.int .i64 t1) := fun z => z.cell (d1)
                      have n2 : ∀ z : Ext W20, z.W.cell? ⟨bb, oo + p * 6 + 2, none⟩ = some (.int .i64 t2) := fun z => z.cell (d2)
                      have n3 : ∀ z : Ext W20, z.W.cell? ⟨bb, oo + p * 6 + 3, none⟩ = some (.int .i64 t3) := fun z => z.cell (d3)
                      have n4 : ∀ z : Ext W20, z.W.cell? ⟨bb, oo + p * 6 + 4, none⟩ = some (.int .i64 t4) := fun z => z.cell (d4)
                      have n5 : ∀ z : Ext W20, z.W.cell? ⟨bb, oo + p * 6 + 5, none⟩ = some (.int .i64 t5) := fun z => z.cell (d5)
                      have k1 : decide (p + 1 = 0) = false := by simp
                      have k2 : ((p : Int) + 1 == 0) = false := by rw [beq_eq_false_iff_ne]; omega
                      have k5 : decide ((p : Int) + 1 = 0) = false := decide_eq_false (by omega)
                      have k6 : (p + 1 == 0) = false := by simp
                      have k7 : ¬ (p : Int) + 1 = 0 := by omega
                      have k3 : (0 : Int) ≤ (p : Int) := by omega
                      have k4 : (p : Int) < (n6 : Int) := by omega
                      have kw : IntKind.i64.wrap (p : Int) = p := IntWalk.i64_in _ (by omega)
                      rcases @ev_ne y0 y1 y2 y3 y4 y5 t0 t1 t2 t3 t4 t5 with ⟨rfl, rfl, rfl, rfl, rfl, rfl⟩ | ⟨hne, hcc⟩
                      · have HN := Lib.hid (show rgt X (p + 1 + 1) = false by rw [hrs]; simp)
                        clear hrs hf ok CV hq0
                        go_wp2_with fail
                        refine wp_region_ext (by kernel_rfl) (by kernel_rfl) ?_
                        repeat (go_big_quiet_step (first | with_reducible exact Ext.quiet (HCV.out _)))
                        refine wpQuiet_nil ?_
                        rintro _ ⟨z, rfl⟩
                        go_wp2_with fail
                        go_meet
                        exact ⟨by rw [HN.out], z.h⟩
                      · have HN := Lib.hid (show rgt X (p + 1 + 1) = true by
                          rw [hrs, decide_eq_true (.inr fun h => hne (Option.some.inj h).symm)]
                          rfl)
                        clear hrs hf ok CV hq0 hne
                        rcases hcc with h | ⟨rfl, h⟩ | ⟨rfl, rfl, h⟩ | ⟨rfl, rfl, rfl, h⟩ | ⟨rfl, rfl, rfl, rfl, h⟩ | ⟨rfl, rfl, rfl, rfl, rfl, h⟩
                        all_goals
                          go_wp2_with fail
                          refine wp_region_ext (by kernel_rfl) (by kernel_rfl) ?_
                          repeat (go_big_quiet_step (first | with_reducible exact Ext.quiet (HCV.out _)))
                          refine wpQuiet_nil ?_
                          rintro _ ⟨z, rfl⟩
                          go_wp2_with fail
                          go_meet
                          exact ⟨by rw [HN.out], z.h⟩
                  · rw [decide_eq_false ok] at CV hrs
                    have HN := Lib.hid (show rgt X (q + 1) = false by rw [hrs]; rfl)
                    have HCV := CV
                    clear hrs hf ok CV
                    go_wp2_with fail
                    refine wp_region_ext (by kernel_rfl) (by kernel_rfl) ?_
                    repeat (go_big_quiet_step (first | with_reducible exact Ext.quiet (HCV.out _)))
                    refine wpQuiet_nil ?_
                    rintro _ ⟨z, rfl⟩
                    go_wp2_with fail
                    go_meet
                    exact ⟨by rw [HN.out], z.h⟩
              case rest =>
                obtain ⟨rfl, hbd⟩ := hcut
                rename World => W22
                have HX22 := Lib.hid (HX20.out.belowAll hbd)
                have hB22 := Bel.on0 HB20.out hbd
                clear hbc hbd HX20 HB20 HSI HRS
                go_wp2_with fail
                obtain ⟨WRO, hWRO⟩ : ∃ WRO, wr = WRO := ⟨_, rfl⟩
                rw [hWRO] at HX22
                go_loopw [13, 120] (fun v i wr2 => ∃ j : Nat, j ≤ n6 ∧ i = .int .i64 j ∧ v = .int .i64 (cntE X (⟨y0, y1, y2, y3, y4, y5⟩ : Ev) j : Int) ∧ Hid (Blk wr2 WRO.heap.size 40 #[.int .i64 y0, .int .i64 y1, .int .i64 y2, .int .i64 y3, .int .i64 y4, .int .i64 y5]) ∧ Below w3.heap.size w3 wr2) (fun _ i _ => n6 - (intOf i).toNat)
                case atStart => exact ⟨0, Nat.zero_le _, rfl, rfl, HX22, hB22⟩
                case round =>
                  clear HX22 hB22 hB hbb a0 a1 a2 a3 a4 a5
                  obtain ⟨j, hj, rfl, rfl, hY, hC⟩ := hrel
                  by_cases hlt2 : j < n6
                  · skip
                    have hjl : j < X.length := by omega
                    obtain ⟨s, hs⟩ : ∃ s, X[j] = s := ⟨_, rfl⟩
                    have hSt := cntE_succ (y := (⟨y0, y1, y2, y3, y4, y5⟩ : Ev)) (show X[j]? = some s by rw [List.getElem?_eq_getElem hjl, hs])
                    have hcl := cntE_le X (⟨y0, y1, y2, y3, y4, y5⟩ : Ev) j
                    
                    obtain ⟨bc, oc, hAe, hbc, e0, e1, e2, e3, e4, e5⟩ := ev_at (H3.out.below hC) hjl hs
                    injection hAe with hAe
                    injection hAe with hA1 hA2 _
                    subst hA1 hA2
                    clear hs hjl
                    obtain ⟨z0, z1, z2, z3, z4, z5⟩ := s
                    dsimp only at e0 e1 e2 e3 e4 e5
                    have j3 : (0 : Int) ≤ (j : Int) := by omega
                    have j4 : (j : Int) < (n6 : Int) := by omega
                    have jw : IntKind.i64.wrap ((j : Int) + 1) = (j : Int) + 1 := IntWalk.i64_in _ (by omega)
                    have hb2 := Lib.hid (Bel.al hC (.cells #[.int .i64 z0, .int .i64 z1, .int .i64 z2, .int .i64 z3, .int .i64 z4, .int .i64 z5] 40))
                    have hY2 := Lib.hid (hY.out.alloc (.cells #[.int .i64 z0, .int .i64 z1, .int .i64 z2, .int .i64 z3, .int .i64 z4, .int .i64 z5] 40))
                    have f0 := hY2.out.cell 0
                    have f1 := hY2.out.cell 1
                    have f2 := hY2.out.cell 2
                    have f3 := hY2.out.cell 3
                    have f4 := hY2.out.cell 4
                    have f5 := hY2.out.cell 5
                    simp only [List.getElem?_toArray, List.getElem?_cons_zero, List.getElem?_cons_succ] at f0 f1 f2 f3 f4 f5
                    obtain ⟨v, hv⟩ : ∃ v : Int, (cntE X (⟨y0, y1, y2, y3, y4, y5⟩ : Ev) j : Int) = v := ⟨_, rfl⟩
                    have hvb : -200 ≤ v ∧ v ≤ 200 := by omega
                    have vw : IntKind.i64.wrap (v + 1) = v + 1 := IntWalk.i64_in _ (by omega)
                    have vw2 : IntKind.i64.wrap (v - 1) = v - 1 := IntWalk.i64_in _ (by omega)
                    rw [hv]
                    rcases @ev_ne z0 z1 z2 z3 z4 z5 y0 y1 y2 y3 y4 y5 with ⟨rfl, rfl, rfl, rfl, rfl, rfl⟩ | ⟨hne, hcc⟩
                    · have HN := Lib.hid (show (cntE X (⟨z0, z1, z2, z3, z4, z5⟩ : Ev) (j + 1) : Int) = v + 1 by rw [hSt, if_pos rfl]; omega)
                      clear hSt hv hvb
                      go_wp2_with fail
                      exact ⟨⟨j + 1, by omega, by simp, by rw [HN.out], hY2, hb2.out⟩, by simp only [intOf]; omega⟩
                    · have HN := Lib.hid (show (cntE X (⟨y0, y1, y2, y3, y4, y5⟩ : Ev) (j + 1) : Int) = v by rw [hSt, if_neg hne]; omega)
                      clear hSt hv hvb hne
                      rcases hcc with h | ⟨rfl, h⟩ | ⟨rfl, rfl, h⟩ | ⟨rfl, rfl, rfl, h⟩ | ⟨rfl, rfl, rfl, rfl, h⟩ | ⟨rfl, rfl, rfl, rfl, rfl, h⟩
                      all_goals
                        go_wp2_with fail
                        exact ⟨⟨j + 1, by omega, by simp, by rw [HN.out], hY2, hb2.out⟩, by simp only [intOf]; omega⟩
                  · obtain rfl : j = n6 := by omega
                    have HC0 := Lib.hid hC
                    clear hlt2 hj
                    go_wp2_with fail
                    go_loopw [13, 132] (fun v i wr2 => ∃ i4 : Nat, i4 ≤ j ∧ i = .int .i64 i4 ∧ v = .int .i64 ((cntE X (⟨y0, y1, y2, y3, y4, y5⟩ : Ev) j : Int) - (cntE l (⟨y0, y1, y2, y3, y4, y5⟩ : Ev) i4 : Int)) ∧ Hid (Blk wr2 WRO.heap.size 40 #[.int .i64 y0, .int .i64 y1, .int .i64 y2, .int .i64 y3, .int .i64 y4, .int .i64 y5]) ∧ Below w3.heap.size w3 wr2) (fun _ i _ => j - (intOf i).toNat)
                    case atStart => exact ⟨0, Nat.zero_le _, rfl, by simp [cntE], hY, HC0.out⟩
                    case round =>
                      clear hY hC HC0
                      obtain ⟨i4, hi4, rfl, rfl, hY, hC⟩ := hrel
                      by_cases hlt2 : i4 < j
                      · skip
                        have hjl : i4 < l.length := by omega
                        obtain ⟨s, hs⟩ : ∃ s, l[i4] = s := ⟨_, rfl⟩
                        have hSt := cntE_succ (y := (⟨y0, y1, y2, y3, y4, y5⟩ : Ev)) (show l[i4]? = some s by rw [List.getElem?_eq_getElem hjl, hs])
                        have hcl := cntE_le l (⟨y0, y1, y2, y3, y4, y5⟩ : Ev) i4
                        have hcx := cntE_le X (⟨y0, y1, y2, y3, y4, y5⟩ : Ev) j
                        obtain ⟨bc, oc, hAe, hbc, e0, e1, e2, e3, e4, e5⟩ := ev_at (HS.out.below (Bel.on0 hB3 hC)) hjl hs
                        subst hAe
                        clear hs hjl
                        obtain ⟨z0, z1, z2, z3, z4, z5⟩ := s
                        dsimp only at e0 e1 e2 e3 e4 e5
                        have j3 : (0 : Int) ≤ (i4 : Int) := by omega
                        have j4 : (i4 : Int) < (j : Int) := by omega
                        have jw : IntKind.i64.wrap ((i4 : Int) + 1) = (i4 : Int) + 1 := IntWalk.i64_in _ (by omega)
                        have hb2 := Lib.hid (Bel.al hC (.cells #[.int .i64 z0, .int .i64 z1, .int .i64 z2, .int .i64 z3, .int .i64 z4, .int .i64 z5] 40))
                        have hY2 := Lib.hid (hY.out.alloc (.cells #[.int .i64 z0, .int .i64 z1, .int .i64 z2, .int .i64 z3, .int .i64 z4, .int .i64 z5] 40))
                        have f0 := hY2.out.cell 0
                        have f1 := hY2.out.cell 1
                        have f2 := hY2.out.cell 2
                        have f3 := hY2.out.cell 3
                        have f4 := hY2.out.cell 4
                        have f5 := hY2.out.cell 5
                        simp only [List.getElem?_toArray, List.getElem?_cons_zero, List.getElem?_cons_succ] at f0 f1 f2 f3 f4 f5
                        obtain ⟨v, hv⟩ : ∃ v : Int, (cntE X (⟨y0, y1, y2, y3, y4, y5⟩ : Ev) j : Int) - (cntE l (⟨y0, y1, y2, y3, y4, y5⟩ : Ev) i4 : Int) = v := ⟨_, rfl⟩
                        have hvb : -200 ≤ v ∧ v ≤ 200 := by omega
                        have vw : IntKind.i64.wrap (v + 1) = v + 1 := IntWalk.i64_in _ (by omega)
                        have vw2 : IntKind.i64.wrap (v - 1) = v - 1 := IntWalk.i64_in _ (by omega)
                        rw [hv]
                        rcases @ev_ne z0 z1 z2 z3 z4 z5 y0 y1 y2 y3 y4 y5 with ⟨rfl, rfl, rfl, rfl, rfl, rfl⟩ | ⟨hne, hcc⟩
                        · have HN := Lib.hid (show (cntE X (⟨z0, z1, z2, z3, z4, z5⟩ : Ev) j : Int) - (cntE l (⟨z0, z1, z2, z3, z4, z5⟩ : Ev) (i4 + 1) : Int) = v - 1 by rw [hSt, if_pos rfl]; omega)
                          clear hSt hv hvb
                          go_wp2_with fail
                          exact ⟨⟨i4 + 1, by omega, by simp, by rw [HN.out], hY2, hb2.out⟩, by simp only [intOf]; omega⟩
                        · have HN := Lib.hid (show (cntE X (⟨y0, y1, y2, y3, y4, y5⟩ : Ev) j : Int) - (cntE l (⟨y0, y1, y2, y3, y4, y5⟩ : Ev) (i4 + 1) : Int) = v by rw [hSt, if_neg hne]; omega)
                          clear hSt hv hvb hne
                          rcases hcc with h | ⟨rfl, h⟩ | ⟨rfl, rfl, h⟩ | ⟨rfl, rfl, rfl, h⟩ | ⟨rfl, rfl, rfl, rfl, h⟩ | ⟨rfl, rfl, rfl, rfl, rfl, h⟩
                          all_goals
                            go_wp2_with fail
                            exact ⟨⟨i4 + 1, by omega, by simp, by rw [HN.out], hY2, hb2.out⟩, by simp only [intOf]; omega⟩
                      · obtain rfl : i4 = j := by omega
                        have hz : (cntE X (⟨y0, y1, y2, y3, y4, y5⟩ : Ev) i4 : Int) - (cntE l (⟨y0, y1, y2, y3, y4, y5⟩ : Ev) i4 : Int) = 0 := by rw [HMP.out (⟨y0, y1, y2, y3, y4, y5⟩ : Ev)]; omega
                        rw [hz]
                        clear hz hlt2 hi4
                        go_wp2_with fail
                        exact ⟨⟨q + 1, by omega, by simp, rfl, hC⟩, by simp only [intOf]; omega⟩
          · obtain rfl : q = n6 := by omega
            obtain ⟨z, hz⟩ : ∃ z, checkM X = z := ⟨_, rfl⟩
            have CK2 := Lib.hid (CK.out _ hB)
            have hcc := HC.out
            rw [hz] at CK2 hcc
            have HBe := Lib.hid (Bel.on0 hB3 hB)
            rw [hcc]
            by_cases h0 : z = 0
            · subst h0
              clear hz hcc
              rw [decide_eq_true rfl]
              go_wp2_with fail
              refine CK2.out.mono ?_; rintro e v5 ⟨rfl, d5⟩
              have HB5 := Lib.hid (Bel.on0 HBe.out d5)
              go_wp2_with fail
              go_ret
              exact ⟨rfl, HB5.out⟩
            · have h1 : (z == 0) = false := by simpa using h0
              rw [decide_eq_false h0]
              clear hz hcc h0
              go_wp2_with fail
              refine CK2.out.mono ?_; rintro e v5 ⟨rfl, d5⟩
              have HB5 := Lib.hid (Bel.on0 HBe.out d5)
              go_wp2_with fail
              go_ret
              exact ⟨rfl, HB5.out⟩
  · have CF := Lib.hid fun w' => few_no (A := A) (c := c) hn hlen w'
    go_enter Try.func5, Try.ntmps5
    go_wp2_with (first
      | (go_at_call 10; (with_reducible refine CS.mono ?_); rintro e w1 ⟨rfl, b1⟩)
      | (go_at_call 11; (with_reducible refine (CF.out _).mono ?_); rintro e w2 ⟨rfl, rfl⟩))
    go_ret
    exact ⟨rfl, b1⟩
end Go.Proofs.Ytmfdflfjllpceaa
