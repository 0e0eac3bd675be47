/- Layer 50: the reference's set, Control. -/
import Derived.Test.YtmfdflfjllpceaaZMvS
namespace Go.Proofs.Ytmfdflfjllpceaa
open Go.RowKit

def isSet (ch key tick : Int) (x : Ev) : Bool := decide (x.kind = 2 ∧ x.ch = ch ∧ x.key = key ∧ x.tick = tick)
def setS (l : List Ev) (ch key tick : Int) : Bool := l.any (isSet ch key tick)
theorem isSet_cases (ch key tick : Int) (x : Ev) : (isSet ch key tick x = true ∧ x.kind = 2 ∧ x.ch = ch ∧ x.key = key ∧ x.tick = tick) ∨
    (isSet ch key tick x = false ∧ (¬ x.kind = 2 ∨ (x.kind = 2 ∧ ¬ x.ch = ch) ∨ (x.kind = 2 ∧ x.ch = ch ∧ ¬ x.key = key) ∨ (x.kind = 2 ∧ x.ch = ch ∧ x.key = key ∧ ¬ x.tick = tick))) := by
  unfold isSet
  simp only [decide_eq_true_eq, decide_eq_false_iff_not]
  omega
theorem setS_split (l : List Ev) (ch key tick : Int) {k : Nat} (h : k < l.length) : (l.drop k).any (isSet ch key tick) = (isSet ch key tick l[k] || (l.drop (k + 1)).any (isSet ch key tick)) := by
  rw [List.drop_eq_getElem_cons h, List.any_cons]
set_option maxHeartbeats 4000000 in
theorem rset_any (A : Option Addr) (n c : Nat) (l : List Ev) (ch key tick : Int) (w : World) (h : SA evE w A n c l) :
    Calls Try.prog 40 #[.slice A n c, .int .i64 ch, .int .i64 key, .int .i64 tick] w fun e w' => e = .returned (.bool (setS l ch key tick)) ∧ Below w.heap.size w w' := by
  have hlen := h.len
  have HL := Lib.hid h.n_eq
  have HS := Lib.hid h
  clear h
  go_enter Try.func40, Try.ntmps40
  go_wp2
  go_loopw [9] (fun i wr => ∃ k : Nat, k ≤ n ∧ i = .int .i64 k ∧ Hid (setS l ch key tick = (l.drop k).any (isSet ch key tick)) ∧ Below w.heap.size w wr) (fun i _ => n - (intOf i).toNat)
  case atStart => exact ⟨0, Nat.zero_le _, rfl, Lib.hid rfl, Below.refl _ _⟩
  case round =>
    obtain ⟨k, hk, rfl, hE, hB⟩ := hrel
    by_cases hlt : k < n
    · have hkl : k < l.length := by rw [HL.out]; exact hlt
      obtain ⟨s, hs⟩ : ∃ s, l[k] = s := ⟨_, rfl⟩
      have hSt := setS_split l ch key tick hkl
      rw [hs] at hSt
      obtain ⟨b, o, rfl, hb, c0, c1, c2, c3, c4, c5⟩ := ev_at (HS.out.below hB) hkl hs
      clear hs
      obtain ⟨st, sq, sc, sk, sv, sn⟩ := s
      dsimp only at c0 c1 c2 c3 c4 c5
      have g3 : (0 : Int) ≤ (k : Int) := by omega
      have g4 : (k : Int) < (n : Int) := by omega
      rcases isSet_cases ch key tick ⟨st, sq, sc, sk, sv, sn⟩ with ⟨hb, hc⟩ | ⟨hb, hc⟩
      · have HN := Lib.hid (show setS l ch key tick = true by rw [hE.out, hSt, hb]; rfl)
        clear hSt hb hE
        dsimp only at hc
        obtain ⟨rfl, rfl, rfl, rfl⟩ := hc
        go_wp2
        go_ret
        exact ⟨ret_bool HN.out.symm, hB⟩
      · have HN := Lib.hid (show setS l ch key tick = (l.drop (k + 1)).any (isSet ch key tick) by rw [hE.out, hSt, hb]; rfl)
        clear hSt hb hE
        dsimp only at hc
        rcases hc with h1 | ⟨rfl, h1⟩ | ⟨rfl, rfl, h1⟩ | ⟨rfl, rfl, rfl, h1⟩
        · have h2 : (sq == 2) = false := by simpa using h1
          go_wp2
          exact ⟨⟨k + 1, by omega, by simp, HN, hB⟩, by simp only [intOf]; omega⟩
        · have h2 : (sc == ch) = false := by simpa using h1
          go_wp2
          exact ⟨⟨k + 1, by omega, by simp, HN, hB⟩, by simp only [intOf]; omega⟩
        · have h2 : (sk == key) = false := by simpa using h1
          go_wp2
          exact ⟨⟨k + 1, by omega, by simp, HN, hB⟩, by simp only [intOf]; omega⟩
        · have h2 : (st == tick) = false := by simpa using h1
          go_wp2
          exact ⟨⟨k + 1, by omega, by simp, HN, hB⟩, by simp only [intOf]; omega⟩
    · obtain rfl : k = n := by omega
      have HN := Lib.hid (show setS l ch key tick = false by rw [hE.out, List.drop_of_length_le (by rw [HL.out]; omega)]; rfl)
      go_wp2
      go_ret
      exact ⟨ret_bool HN.out.symm, hB⟩

def isCtl (ch key tick : Int) (x : Ev) : Bool := decide (x.kind = 2 ∧ x.ch = ch ∧ x.key = key ∧ x.tick < tick)
theorem isCtl_cases (ch key tick : Int) (x : Ev) : (isCtl ch key tick x = true ∧ x.kind = 2 ∧ x.ch = ch ∧ x.key = key ∧ x.tick < tick) ∨
    (isCtl ch key tick x = false ∧ (¬ x.kind = 2 ∨ (x.kind = 2 ∧ ¬ x.ch = ch) ∨ (x.kind = 2 ∧ x.ch = ch ∧ ¬ x.key = key) ∨ (x.kind = 2 ∧ x.ch = ch ∧ x.key = key ∧ tick ≤ x.tick))) := by
  unfold isCtl
  simp only [decide_eq_true_eq, decide_eq_false_iff_not]
  omega
/-- The last control before a tick, among the first k events. -/
def ctlS (l : List Ev) (ch key tick : Int) : Nat → Option Ev
  | 0 => none
  | k + 1 => match l[k]? with
    | some x => if isCtl ch key tick x = true then some x else ctlS l ch key tick k
    | none => ctlS l ch key tick k
theorem ctlS_succ {l : List Ev} {ch key tick : Int} {k : Nat} {x : Ev} (h : l[k]? = some x) : ctlS l ch key tick (k + 1) = if isCtl ch key tick x = true then some x else ctlS l ch key tick k := by rw [ctlS, h]
def zEv : Ev := ⟨0, 0, 0, 0, 0, 0⟩
theorem setRow_below {B D : Nat} {w w' : World} (h : Below B w w') (hD : B ≤ D) (cs : Array Value) : Below B w (w'.setRow D cs) := below_setRow h hD cs
set_option maxHeartbeats 4000000 in
theorem rcontrol_any (A : Option Addr) (n c : Nat) (l : List Ev) (ch key tick : Int) (w : World) (h : SA evE w A n c l) :
    Calls Try.prog 41 #[.slice A n c, .int .i64 ch, .int .i64 key, .int .i64 tick] w fun e w' =>
      e = .returned (.tuple #[.agg (evA ((ctlS l ch key tick l.length).getD zEv)), .bool (ctlS l ch key tick l.length).isSome]) ∧ Below w.heap.size w w' := by
  have hlen := h.len
  have HL := Lib.hid h.n_eq
  have HS := Lib.hid h
  have b0 := (Blk.new w 40 (evA zEv)).alloc (.cells (evA zEv) 40)
  have b1 := Blk.new (w.alloc (.cells (evA zEv) 40)) 40 (evA zEv)
  rw [World.size_alloc] at b1
  have hb := Bel.al (Bel.al (Below.refl _ w) (.cells (evA zEv) 40)) (.cells (evA zEv) 40)
  have HB0 := Lib.hid (And.intro b0 (And.intro b1 hb))
  have hzz : evA zEv = #[.int .i64 0, .int .i64 0, .int .i64 0, .int .i64 0, .int .i64 0, .int .i64 0] := rfl
  rw [hzz] at HB0
  clear b0 b1 hb h hzz
  go_enter Try.func41, Try.ntmps41
  go_wp2
  go_loopw [11, 12] (fun f i wr => ∃ k : Nat, k ≤ n ∧ i = .int .i64 k ∧ f = .bool (ctlS l ch key tick k).isSome ∧ Hid (Blk wr w.heap.size 40 (evA zEv)) ∧ Hid (Blk wr (w.heap.size + 1) 40 (evA ((ctlS l ch key tick k).getD zEv))) ∧ Below w.heap.size w wr) (fun _ i _ => n - (intOf i).toNat)
  case atStart => exact ⟨0, Nat.zero_le _, rfl, rfl, Lib.hid HB0.out.1, Lib.hid HB0.out.2.1, HB0.out.2.2⟩
  case round =>
    clear HB0
    obtain ⟨k, hk, rfl, rfl, H0, H1, hB⟩ := hrel
    by_cases hlt : k < n
    · have hkl : k < l.length := by rw [HL.out]; exact hlt
      obtain ⟨s, hs⟩ : ∃ s, l[k] = s := ⟨_, rfl⟩
      have hSt := ctlS_succ (l := l) (ch := ch) (key := key) (tick := tick) (show l[k]? = some s by rw [List.getElem?_eq_getElem hkl, hs])
      obtain ⟨b, o, rfl, hb, c0, c1, c2, c3, c4, c5⟩ := ev_at (HS.out.below hB) hkl hs
      have hst := run_storeCells_from (P := Try.prog) (w.heap.size + 1) 40 (evA s).toList 0 _ wr H1.out (by rfl) (by simp [evA, Value.oneCell'])
      have hst' : (storeCells ⟨w.heap.size + 1, 0, none⟩ (evA s).toList).run Try.prog wr = .ok () (wr.setRow (w.heap.size + 1) (evA s)) := by simpa using hst
      have HST := Lib.hid hst'
      have HB1 := Lib.hid (show Blk (wr.setRow (w.heap.size + 1) (evA s)) (w.heap.size + 1) 40 (evA s) from setRow_heap _ _ _ _ _ _ H1.out)
      have HBz := Lib.hid (show Blk (wr.setRow (w.heap.size + 1) (evA s)) w.heap.size 40 (evA zEv) from (setRow_other _ _ _ _ (by omega)).trans H0.out)
      have HBb := Lib.hid (below_setRow hB (show w.heap.size ≤ w.heap.size + 1 by omega) (evA s))
      clear hs hst hst'
      obtain ⟨st, sq, sc, sk, sv, sn⟩ := s
      dsimp only at c0 c1 c2 c3 c4 c5
      have g3 : (0 : Int) ≤ (k : Int) := by omega
      have g4 : (k : Int) < (n : Int) := by omega
      rcases isCtl_cases ch key tick ⟨st, sq, sc, sk, sv, sn⟩ with ⟨hb, hc⟩ | ⟨hb, hc⟩
      · have HN := Lib.hid (show ctlS l ch key tick (k + 1) = some ⟨st, sq, sc, sk, sv, sn⟩ by rw [hSt, if_pos hb])
        clear hSt hb
        dsimp only at hc
        obtain ⟨rfl, rfl, rfl, h1⟩ := hc
        dsimp only [evA] at HST
        go_wp2_with (refine wpList_store_agg rfl (.tmp 10) (.tmp 56) 40 rfl rfl rfl (Try.sizeOf40 _) HST.out ?_; clear HST)
        exact ⟨⟨k + 1, by omega, by simp, by rw [HN.out]; rfl, HBz, Lib.hid (by rw [HN.out]; exact HB1.out), HBb.out⟩, by simp only [intOf]; omega⟩
      · have HN := Lib.hid (show ctlS l ch key tick (k + 1) = ctlS l ch key tick k by rw [hSt, if_neg (by rw [hb]; simp)])
        clear hSt hb HST HB1 HBz HBb
        dsimp only at hc
        rcases hc with h1 | ⟨rfl, h1⟩ | ⟨rfl, rfl, h1⟩ | ⟨rfl, rfl, rfl, h1⟩
        · have h2 : (sq == 2) = false := by simpa using h1
          go_wp2
          exact ⟨⟨k + 1, by omega, by simp, by rw [HN.out], H0, by rw [HN.out]; exact H1, hB⟩, by simp only [intOf]; omega⟩
        · have h2 : (sc == ch) = false := by simpa using h1
          go_wp2
          exact ⟨⟨k + 1, by omega, by simp, by rw [HN.out], H0, by rw [HN.out]; exact H1, hB⟩, by simp only [intOf]; omega⟩
        · have h2 : (sk == key) = false := by simpa using h1
          go_wp2
          exact ⟨⟨k + 1, by omega, by simp, by rw [HN.out], H0, by rw [HN.out]; exact H1, hB⟩, by simp only [intOf]; omega⟩
        · have h2 : decide (st < tick) = false := by simpa using h1
          go_wp2
          exact ⟨⟨k + 1, by omega, by simp, by rw [HN.out], H0, by rw [HN.out]; exact H1, hB⟩, by simp only [intOf]; omega⟩
    · obtain rfl : k = n := by omega
      have HK := Lib.hid (show ctlS l ch key tick l.length = ctlS l ch key tick k by rw [HL.out])
      obtain ⟨x, hx⟩ : ∃ x, (ctlS l ch key tick k).getD zEv = x := ⟨_, rfl⟩
      have HXE := Lib.hid hx
      rw [hx] at H1
      obtain ⟨f, hf⟩ : ∃ f, (ctlS l ch key tick k).isSome = f := ⟨_, rfl⟩
      have HF := Lib.hid hf
      rw [hf]
      have hst := run_storeCells_from (P := Try.prog) w.heap.size 40 (evA x).toList 0 _ wr H0.out (by rfl) (by simp [evA, Value.oneCell'])
      have hst' : (storeCells ⟨w.heap.size, 0, none⟩ (evA x).toList).run Try.prog wr = .ok () (wr.setRow w.heap.size (evA x)) := by simpa using hst
      have HST := Lib.hid hst'
      have hv : Blk (wr.setRow w.heap.size (evA x)) w.heap.size 40 (evA x) := setRow_heap _ _ _ _ _ _ H0.out
      have HBb := Lib.hid (below_setRow hB (Nat.le_refl w.heap.size) (evA x))
      clear hst hst' hx hf
      obtain ⟨xt, xk, xc, xe, xv, xn⟩ := x
      have d0 : wr.cell? ⟨w.heap.size + 1, 0, none⟩ = some (.int .i64 xt) := H1.out.cell 0
      have d1 : wr.cell? ⟨w.heap.size + 1, 1, none⟩ = some (.int .i64 xk) := H1.out.cell 1
      have d2 : wr.cell? ⟨w.heap.size + 1, 2, none⟩ = some (.int .i64 xc) := H1.out.cell 2
      have d3 : wr.cell? ⟨w.heap.size + 1, 3, none⟩ = some (.int .i64 xe) := H1.out.cell 3
      have d4 : wr.cell? ⟨w.heap.size + 1, 4, none⟩ = some (.int .i64 xv) := H1.out.cell 4
      have d5 : wr.cell? ⟨w.heap.size + 1, 5, none⟩ = some (.int .i64 xn) := H1.out.cell 5
      dsimp only [evA] at HST hv HBb
      have v0 := hv.cell 0
      have v1 := hv.cell 1
      have v2 := hv.cell 2
      have v3 := hv.cell 3
      have v4 := hv.cell 4
      have v5 := hv.cell 5
      simp only [List.getElem?_toArray, List.getElem?_cons_zero, List.getElem?_cons_succ] at v0 v1 v2 v3 v4 v5
      clear hv
      go_wp2_with (refine wpList_store_agg rfl (.tmp 8) (.tmp 57) 40 rfl rfl rfl (Try.sizeOf40 _) HST.out ?_; clear HST)
      refine bodyPost_ret (v := .tuple #[.agg #[.int .i64 xt, .int .i64 xk, .int .i64 xc, .int .i64 xe, .int .i64 xv, .int .i64 xn], .bool f]) (by simp [results, Try.results41, go_sem, v0, v1, v2, v3, v4, v5]) rfl ⟨?_, HBb.out⟩
      rw [HK.out, HXE.out, HF.out]
      rfl
end Go.Proofs.Ytmfdflfjllpceaa
