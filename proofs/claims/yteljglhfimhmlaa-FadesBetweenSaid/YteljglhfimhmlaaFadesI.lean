/- Layer 27's reference, second part: In, Out. -/
import Derived.Test.YteljglhfimhmlaaFadesH
import Derived.Test.YteljglhfimhmlaaFadesG
namespace Go.Proofs.Yteljglhfimhmlaa
open Go.RowKit

/-- A slice and a code are handed back: the slice reads as r.1. -/
def RetSl (w : World) (r : List Int × Int) (e : Ending) (w' : World) : Prop :=
  ∃ A n c, e = .returned (.tuple #[.slice A n c, .int .i64 r.2]) ∧ SL w' A n c r.1 ∧ Below w.heap.size w w'
def inR (l : List Int) (m : Int) : List Int × Int := if rightB l.length m then (fadeInS l m.toNat, 0) else ([], 1)
def outR (l : List Int) (m : Int) : List Int × Int := if rightB l.length m then (fadeOutS l m.toNat, 0) else ([], 1)
def crossR (a b : List Int) (m : Int) : List Int × Int := if rightB a.length m && rightB b.length m then (crossS a b m.toNat, 0) else ([], 1)
theorem crossS_mem {a b : List Int} {m : Nat} (ha : ∀ x ∈ a, I64 x) (hb : ∀ x ∈ b, I64 x) : ∀ x ∈ crossS a b m, I64 x := by
  intro x hx
  rcases List.mem_append.1 hx with h | h
  · exact ha _ (List.mem_of_mem_take h)
  · exact upd_mem (fun _ _ => I64_clipS _) (fadeInS_i64 hb) _ h
theorem crossS_len {a b : List Int} {m : Nat} (h : m ≤ a.length) : (crossS a b m).length = a.length - m + b.length := by
  simp [crossS, upd_len, fadeInS]
theorem rightB_spec {n : Nat} {m : Int} (h : rightB n m = true) : n ≤ 16777216 ∧ 0 ≤ m ∧ m.toNat ≤ n ∧ m = (m.toNat : Int) := by
  unfold rightB at h; simp at h; omega
theorem RetSl.of_own {w w' : World} {xs : List Int} {e : Ending} (h : RetOwn w xs e w') (hm : xs.length ≤ 67108864) (hf : ∀ x ∈ xs, I64 x) : RetSl w (xs, 0) e w' := by
  obtain ⟨g, he, _, hb, hB⟩ := h
  exact ⟨_, _, _, he, sl_of_own hb hm hf, hB⟩
section
variable (A B : Option Addr) (n c nb cb : Nat) (l b : List Int) (m : Int) (w : World)
theorem in_any (h : SL w A n c l) : Calls Try.prog 40 #[.slice A n c, .int .i64 m] w (RetSl w (inR l m)) := by
  obtain rfl := h.n_eq
  unfold inR
  cases hr : rightB l.length m with
  | true =>
    obtain ⟨h1, h2, h3, h4⟩ := rightB_spec hr
    rw [h4] at hr
    rw [if_pos rfl, h4]
    refine (in_ok A l.length c m.toNat l w h hr).mono fun e w' hh => RetSl.of_own hh ?_ (fadeInS_i64 h.i64)
    rw [fadeInS, upd_len]; omega
  | false => exact (in_bad A l.length c m l w h hr).mono fun e w' hh => ⟨none, 0, 0, hh.1, SL.nil, hh.2⟩
theorem out_any (h : SL w A n c l) : Calls Try.prog 42 #[.slice A n c, .int .i64 m] w (RetSl w (outR l m)) := by
  obtain rfl := h.n_eq
  unfold outR
  cases hr : rightB l.length m with
  | true =>
    obtain ⟨h1, h2, h3, h4⟩ := rightB_spec hr
    rw [h4] at hr
    rw [if_pos rfl, h4]
    refine (out_ok A l.length c m.toNat l w h hr).mono fun e w' hh => RetSl.of_own hh ?_ (fadeOutS_i64 h.i64)
    rw [fadeOutS, updR_len]; omega
  | false => exact (out_bad A l.length c m l w h hr).mono fun e w' hh => ⟨none, 0, 0, hh.1, SL.nil, hh.2⟩
theorem cross_any (h : SL w A n c l) (hb : SL w B nb cb b) : Calls Try.prog 45 #[.slice A n c, .slice B nb cb, .int .i64 m] w (RetSl w (crossR l b m)) := by
  obtain rfl := h.n_eq
  obtain rfl := hb.n_eq
  unfold crossR
  by_cases hr : rightB l.length m = true ∧ rightB b.length m = true
  · obtain ⟨hra, hrb⟩ := hr
    obtain ⟨h1, h2, h3, h4⟩ := rightB_spec hra
    have h5 := rightB_spec hrb
    rw [hra, hrb, if_pos (by rfl)]
    rw [h4] at hra hrb ⊢
    refine (cross_ok A B l.length c b.length cb m.toNat l b w h hb hra hrb).mono fun e w' hh => RetSl.of_own hh ?_ (crossS_mem h.i64 hb.i64)
    rw [crossS_len (by omega)]
    omega
  · rw [if_neg (by simpa using hr)]
    refine (cross_bad A B l.length c b.length cb m l b w h hb ?_).mono fun e w' hh => ⟨none, 0, 0, hh.1, SL.nil, by rw [← hh.2]; exact Below.refl _ _⟩
    cases h5 : rightB l.length m <;> cases h6 : rightB b.length m <;> simp_all
end

set_option maxHeartbeats 1000000 in
theorem rin_any (A : Option Addr) (n c : Nat) (l : List Int) (m : Int) (w : World) (h : SL w A n c l) (hn : n ≤ 1000000) : Calls Try.prog 41 #[.slice A n c, .int .i64 m] w (RetSl w (inR l m)) := by
  have HL := Lib.hid h.n_eq
  have CL := long_any A n c l m w h
  unfold inR
  rw [HL.out]
  cases hr : rightB n m with
  | false =>
    rw [hr] at CL
    go_enter Try.func41, Try.ntmps41
    go_wp2_with (go_at_call 67; refine CL.mono ?_; rintro e w' ⟨rfl, rfl⟩)
    go_ret2
    exact ⟨none, 0, 0, rfl, SL.nil, Below.refl _ _⟩
  | true =>
    rw [hr] at CL
    obtain ⟨h1, h2, h3, h4⟩ := rightB_spec hr
    obtain ⟨q, hq⟩ : ∃ q, m.toNat = q := ⟨_, rfl⟩
    rw [hq] at h3 h4
    subst h4
    rw [if_pos rfl, hq]
    have hB0 : Below w.heap.size w (w.alloc (.cells #[] 3)) := (Below.refl _ w).alloc (Nat.le_refl _) _
    obtain ⟨A', c', w1, eA, hO, hB1, _⟩ := (OL.lit w (Nat.le_refl w.heap.size)).app (h.below hB0) (by simp) (by omega)
    rw [Nat.zero_add] at eA hO
    rw [List.nil_append] at hO
    have hB2 := hB0.trans hB1
    have HC := Lib.hid CL
    clear CL hr hq hB0 hB1
    obtain ⟨F, hF⟩ : ∃ F : Nat → Int → Int, (fun (j : Nat) x => mulS x (gainS j q)) = F := ⟨_, rfl⟩
    have HF := Lib.hid hF
    clear hF
    go_enter Try.func41, Try.ntmps41
    go_wp2_with (first
      | (go_at_call 67; refine HC.out.mono ?_; rintro e w' ⟨rfl, rfl⟩)
      | (at_builtin; refine wpList_append_eq rfl _ _ _ rfl rfl rfl eA ?_; clear eA))
    go_loopw [7] (fun i wr => ∃ k : Nat, k ≤ q ∧ i = .int .i64 k ∧ OL wr w.heap.size A' n c' (upd F k l) ∧ Below w.heap.size w wr) (fun i _ => q - (intOf i).toNat)
    case atStart => exact ⟨0, Nat.zero_le _, rfl, by rw [upd_zero]; exact hO, hB2⟩
    case round =>
      obtain ⟨k, hk, rfl, hOw, hbel⟩ := hrel
      clear hO hB2
      by_cases hlt : k < q
      · obtain ⟨ba, oa, rfl, hba, ca⟩ := (h.below hbel).at_ (show k < l.length by rw [HL.out]; omega)
        have hkl : k < l.length := by rw [HL.out]; omega
        obtain ⟨x, hx⟩ : ∃ x, l[k] = x := ⟨_, rfl⟩
        rw [hx] at ca
        obtain ⟨g, rfl, hg, hgl, hnc, hcg, hfg, hsg⟩ := hOw.at_ (show k < n by omega)
        have hsucc := upd_succ F hkl
        have hfk : F k x = mulS x (gainS k q) := by rw [← HF.out]
        rw [upd_get F hkl, if_neg (by omega), hx, hfk] at hsucc
        have hg0 := hcg ((upd F k l)[k]'(by rw [upd_len]; exact hkl)) (by rw [List.getElem?_eq_getElem])
        obtain ⟨y, hy⟩ : ∃ y, (upd F k l)[k]'(by rw [upd_len]; exact hkl) = y := ⟨_, rfl⟩
        rw [hy] at hg0
        have HS := Lib.hid hsucc
        have HO := Lib.hid hOw
        clear hcg hfg hsg hy hsucc hx hOw hfk
        have eD : ∀ z : Ext wr, z.W.cell? ⟨ba, oa + k, none⟩ = some (.int .i64 x) := fun z => z.cell ca
        have eG : ∀ z : Ext wr, z.W.cell? ⟨g, k, none⟩ = some (.int .i64 y) := fun z => z.cell hg0
        go_wp2
        refine wp_region_ext_tail 11 (by kernel_rfl) (by kernel_rfl) ?_
        simp only [List.take_succ_cons, List.take_zero, List.drop_succ_cons, List.drop_zero]
        repeat (go_big_quiet_step (first | exact Ext.quietS (rgain_any k q _ (by omega) (by omega) (by omega) (by omega)) | exact Ext.quietS (rmul_any _ _ _)))
        refine wpQuiet_nil ?_
        rintro _ ⟨z, rfl⟩
        have cz := eG z
        obtain ⟨g', e', _, _, _, _, fz, sz⟩ := (HO.out.below z.h).at_ (show k < n by omega)
        obtain rfl : g = g' := by injection e' with e'; injection e'
        clear e'
        go_wp2
        have s2 := sz (mulS x (gainS k q)) (I64_clipS _)
        rw [HS.out] at s2
        exact ⟨⟨k + 1, by omega, by simp, s2, (hbel.trans (z.h.mono hbel.size)).setCell (by show w.heap.size ≤ g; omega) _⟩, by simp only [intOf]; omega⟩
      · obtain rfl : k = q := by omega
        have hres : upd F k l = fadeInS l k := by rw [← HF.out]; rfl
        rw [hres] at hOw
        go_wp2
        go_ret2
        exact ⟨_, _, _, rfl, hOw.sl, hbel⟩
set_option maxHeartbeats 1000000 in
theorem rout_any (A : Option Addr) (n c : Nat) (l : List Int) (m : Int) (w : World) (h : SL w A n c l) (hn : n ≤ 1000000) : Calls Try.prog 43 #[.slice A n c, .int .i64 m] w (RetSl w (outR l m)) := by
  have HL := Lib.hid h.n_eq
  have CL := long_any A n c l m w h
  unfold outR
  rw [HL.out]
  cases hr : rightB n m with
  | false =>
    rw [hr] at CL
    go_enter Try.func43, Try.ntmps43
    go_wp2_with (go_at_call 67; refine CL.mono ?_; rintro e w' ⟨rfl, rfl⟩)
    go_ret2
    exact ⟨none, 0, 0, rfl, SL.nil, Below.refl _ _⟩
  | true =>
    rw [hr] at CL
    obtain ⟨h1, h2, h3, h4⟩ := rightB_spec hr
    obtain ⟨q, hq⟩ : ∃ q, m.toNat = q := ⟨_, rfl⟩
    rw [hq] at h3 h4
    subst h4
    rw [if_pos rfl, hq]
    have hB0 : Below w.heap.size w (w.alloc (.cells #[] 3)) := (Below.refl _ w).alloc (Nat.le_refl _) _
    obtain ⟨A', c', w1, eA, hO, hB1, _⟩ := (OL.lit w (Nat.le_refl w.heap.size)).app (h.below hB0) (by simp) (by omega)
    rw [Nat.zero_add] at eA hO
    rw [List.nil_append] at hO
    have hB2 := hB0.trans hB1
    have HC := Lib.hid CL
    clear CL hr hq hB0 hB1
    obtain ⟨F, hF⟩ : ∃ F : Nat → Int → Int, (fun (j : Nat) x => mulS x (gainS (l.length - 1 - j : Nat) q)) = F := ⟨_, rfl⟩
    have HF := Lib.hid hF
    clear hF
    go_enter Try.func43, Try.ntmps43
    go_wp2_with (first
      | (go_at_call 67; refine HC.out.mono ?_; rintro e w' ⟨rfl, rfl⟩)
      | (at_builtin; refine wpList_append_eq rfl _ _ _ rfl rfl rfl eA ?_; clear eA))
    go_loopw [7, 8] (fun i _ wr => ∃ k : Nat, k ≤ q ∧ i = .int .i64 k ∧ OL wr w.heap.size A' n c' (updR F k l) ∧ Below w.heap.size w wr) (fun i _ _ => q - (intOf i).toNat)
    case atStart => exact ⟨0, Nat.zero_le _, rfl, by rw [updR_zero]; exact hO, hB2⟩
    case round =>
      obtain ⟨k, hk, rfl, hOw, hbel⟩ := hrel
      clear hO hB2
      by_cases hlt : k < q
      · obtain ⟨p, hp⟩ : ∃ p : Nat, n - 1 - k = p := ⟨_, rfl⟩
        have g4 : (n : Int) - 1 - (k : Int) = (p : Int) := by omega
        have hpk : l.length - 1 - k = p := by rw [HL.out]; exact hp
        have g5 : (0 : Int) ≤ (p : Int) := by omega
        have g6 : (p : Int) < (n : Int) := by omega
        have hpl : p < l.length := by rw [HL.out]; omega
        obtain ⟨ba, oa, rfl, hba, ca⟩ := (h.below hbel).at_ hpl
        obtain ⟨x, hx⟩ : ∃ x, l[p] = x := ⟨_, rfl⟩
        rw [hx] at ca
        obtain ⟨g, rfl, hg, hgl, hnc, hcg, hfg, hsg⟩ := hOw.at_ (show p < n by omega)
        have hnc1 : (p : Int) < (c' : Int) := by omega
        have hsucc := updR_succ F (show k < l.length by rw [HL.out]; omega)
        rw [hpk] at hsucc
        have hfk : F p x = mulS x (gainS k q) := by rw [← HF.out]; simp only; rw [show l.length - 1 - p = k by rw [HL.out]; omega]
        rw [updR_get F hpl, if_neg (by rw [HL.out]; omega), hx, hfk] at hsucc
        have hg0 := hcg ((updR F k l)[p]'(by rw [updR_len]; exact hpl)) (by rw [List.getElem?_eq_getElem])
        obtain ⟨y, hy⟩ : ∃ y, (updR F k l)[p]'(by rw [updR_len]; exact hpl) = y := ⟨_, rfl⟩
        rw [hy] at hg0
        have HS := Lib.hid hsucc
        have HO := Lib.hid hOw
        have HP := Lib.hid hp
        clear hcg hfg hsg hy hsucc hx hOw hfk hp hpk
        have eD : ∀ z : Ext wr, z.W.cell? ⟨ba, oa + p, none⟩ = some (.int .i64 x) := fun z => z.cell ca
        have eG : ∀ z : Ext wr, z.W.cell? ⟨g, p, none⟩ = some (.int .i64 y) := fun z => z.cell hg0
        go_wp2
        refine wp_region_ext_tail 11 (by kernel_rfl) (by kernel_rfl) ?_
        simp only [List.take_succ_cons, List.take_zero, List.drop_succ_cons, List.drop_zero]
        repeat (go_big_quiet_step (first | exact Ext.quietS (rgain_any k q _ (by omega) (by omega) (by omega) (by omega)) | exact Ext.quietS (rmul_any _ _ _)))
        refine wpQuiet_nil ?_
        rintro _ ⟨z, rfl⟩
        have cz := eG z
        obtain ⟨g', e', _, _, _, _, fz, sz⟩ := (HO.out.below z.h).at_ (show p < n by omega)
        obtain rfl : g = g' := by injection e' with e'; injection e'
        clear e'
        go_wp2
        have s2 := sz (mulS x (gainS k q)) (I64_clipS _)
        rw [HS.out] at s2
        exact ⟨⟨k + 1, by omega, by simp, s2, (hbel.trans (z.h.mono hbel.size)).setCell (by show w.heap.size ≤ g; omega) _⟩, by simp only [intOf]; omega⟩
      · obtain rfl : k = q := by omega
        have hres : updR F k l = fadeOutS l k := by rw [← HF.out]; rfl
        rw [hres] at hOw
        go_wp2
        go_ret2
        exact ⟨_, _, _, rfl, hOw.sl, hbel⟩
end Go.Proofs.Yteljglhfimhmlaa
