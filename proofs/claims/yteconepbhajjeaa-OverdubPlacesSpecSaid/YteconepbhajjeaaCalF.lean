/- Layer 42: the reference's Find, At; layer 44: Again. -/
import Derived.Test.YteconepbhajjeaaCalE
import Derived.Test.YteconepbhajjeaaOvG
namespace Go.Proofs.Yteconepbhajjeaa
open Go.RowKit

def rZ : Option Rcd → Rcd
  | some r => r
  | none => ⟨0, 0, 0, 0, 0⟩
theorem findS_snoc {l : List Rcd} {dev pos known : Int} {k : Nat} {r : Rcd} (hr : l[k]? = some r) : findS (l.take (k + 1)) dev pos known = if rcdFits dev pos known r = true then some r else findS (l.take k) dev pos known := by
  unfold findS
  rw [List.take_add_one, hr, List.filter_append]
  by_cases h : rcdFits dev pos known r = true
  · rw [if_pos h]; simp [List.filter_cons, h]
  · rw [if_neg h]; simp [List.filter_cons, h]
def rCells (r : Rcd) : Array Value := #[.int .i64 r.dev, .int .i64 r.frm, .int .i64 r.known, .int .i64 r.inn, .int .i64 r.out]
set_option maxHeartbeats 1000000 in
theorem rfind_any (A : Option Addr) (n c : Nat) (l : List Rcd) (dev pos known : Int) (w : World) (h : SA rcdE w A n c l) :
    Calls Try.prog 33 #[.slice A n c, .int .i64 dev, .int .i64 pos, .int .i64 known] w fun e w' =>
      e = .returned (.tuple #[.agg (rCells (rZ (findS l dev pos known))), .bool (findS l dev pos known).isSome]) ∧ Below w.heap.size w w' := by
  have hlen := h.len
  have HL := Lib.hid h.n_eq
  have HH := Lib.hid h
  clear h
  go_enter Try.func33, Try.ntmps33
  go_wp2
  go_loopw [11, 12] (fun b i wr => ∃ (k : Nat) (f : Option Rcd), k ≤ n ∧ i = .int .i64 k ∧ b = .bool f.isSome ∧ Hid (findS (l.take k) dev pos known = f) ∧ Blk wr w.heap.size 62 (rCells ⟨0, 0, 0, 0, 0⟩) ∧ Blk wr (w.heap.size + 1) 62 (rCells (rZ f)) ∧ Below w.heap.size w wr) (fun _ i _ => n - (intOf i).toNat)
  case atStart =>
    have h0 := (Blk.new w 62 (rCells ⟨0, 0, 0, 0, 0⟩)).alloc (.cells (rCells ⟨0, 0, 0, 0, 0⟩) 62)
    have h1 := Blk.new (w.alloc (.cells (rCells ⟨0, 0, 0, 0, 0⟩) 62)) 62 (rCells ⟨0, 0, 0, 0, 0⟩)
    rw [World.size_alloc] at h1
    exact ⟨0, none, Nat.zero_le _, rfl, rfl, Lib.hid rfl, h0, h1, Bel.al (Bel.al (Below.refl _ w) _) _⟩
  case round =>
    obtain ⟨k, f, hk, rfl, rfl, he, i0, i1, hB⟩ := hrel
    by_cases hlt : k < n
    · have hkl : k < l.length := by rw [HL.out]; exact hlt
      obtain ⟨s, hs⟩ : ∃ s, l[k] = s := ⟨_, rfl⟩
      have hs' : l[k]? = some s := by rw [List.getElem?_eq_getElem hkl, hs]
      obtain ⟨b, o, rfl, hb, c0, c1, c2, c3, c4⟩ := rcd_at (HH.out.below hB) hkl hs
      have hsn := findS_snoc (dev := dev) (pos := pos) (known := known) hs'
      rw [he.out] at hsn
      have HSN := Lib.hid hsn
      clear hs hs' he hsn
      have q0 := i1.cell 0
      have q1 := i1.cell 1
      have q2 := i1.cell 2
      have q3 := i1.cell 3
      have q4 := i1.cell 4
      have f0 := i1.frozen 0
      have f1 := i1.frozen 1
      have f2 := i1.frozen 2
      have f3 := i1.frozen 3
      have f4 := i1.frozen 4
      unfold rCells at q0 q1 q2 q3 q4
      simp only [List.getElem?_toArray, List.getElem?_cons_zero, List.getElem?_cons_succ] at q0 q1 q2 q3 q4
      by_cases hfit : rcdFits dev pos known s = true
      · have HN := HSN.out
        rw [if_pos hfit] at HN
        have HN2 := Lib.hid HN
        have hbr := ((((i1.set_ 0 (.int .i64 s.dev)).set_ 1 (.int .i64 s.frm)).set_ 2 (.int .i64 s.known)).set_ 3 (.int .i64 s.inn)).set_ 4 (.int .i64 s.out)
        have hb0 := (((((i0.far (p := ⟨w.heap.size + 1, 0, none⟩) (by simp) (.int .i64 s.dev)).far (p := ⟨w.heap.size + 1, 1, none⟩) (by simp) (.int .i64 s.frm)).far (p := ⟨w.heap.size + 1, 2, none⟩) (by simp) (.int .i64 s.known)).far (p := ⟨w.heap.size + 1, 3, none⟩) (by simp) (.int .i64 s.inn)).far (p := ⟨w.heap.size + 1, 4, none⟩) (by simp) (.int .i64 s.out))
        have HBR := Lib.hid hbr
        have HB0 := Lib.hid hb0
        simp only [rcdFits, decide_eq_true_eq] at hfit
        obtain ⟨g1, g2, g3⟩ := hfit
        rw [g1] at HBR HB0 c0
        have g1' := Lib.hid g1
        have e1 : (dev == dev) = true := by simp
        clear HN hbr hb0 i0 i1 g1
        go_wp2
        refine ⟨⟨k + 1, some s, by omega, by simp, rfl, HN2, HB0.out, by simpa [rCells, rZ, g1'.out] using HBR.out, ?_⟩, by simp only [intOf]; omega⟩
        exact ((((hB.setCell (by show w.heap.size ≤ w.heap.size + 1; omega) _).setCell (by show w.heap.size ≤ w.heap.size + 1; omega) _).setCell (by show w.heap.size ≤ w.heap.size + 1; omega) _).setCell (by show w.heap.size ≤ w.heap.size + 1; omega) _).setCell (by show w.heap.size ≤ w.heap.size + 1; omega) _
      · have HN := HSN.out
        rw [if_neg hfit] at HN
        have HN2 := Lib.hid HN
        have hc : ¬ s.dev = dev ∨ (s.dev = dev ∧ pos < s.frm) ∨ (s.dev = dev ∧ s.frm ≤ pos ∧ known < s.known) := by
          simp only [rcdFits, decide_eq_true_eq] at hfit; omega
        have HI0 := Lib.hid i0
        have HI1 := Lib.hid i1
        clear hfit HN i0 i1 q0 q1 q2 q3 q4 f0 f1 f2 f3 f4
        rcases hc with g1 | ⟨g1, g2⟩ | ⟨g1, g2, g3⟩
        all_goals
          go_wp2
          exact ⟨⟨k + 1, f, by omega, by simp, rfl, HN2, HI0.out, HI1.out, hB⟩, by simp only [intOf]; omega⟩
    · obtain rfl : k = n := by omega
      have HN := Lib.hid (show findS l dev pos known = f by have := he.out; rwa [List.take_of_length_le (by rw [HL.out]; omega)] at this)
      have q0 := i1.cell 0
      have q1 := i1.cell 1
      have q2 := i1.cell 2
      have q3 := i1.cell 3
      have q4 := i1.cell 4
      have p0 := i0.cell 0
      have p1 := i0.cell 1
      have p2 := i0.cell 2
      have p3 := i0.cell 3
      have p4 := i0.cell 4
      have f0 := i0.frozen 0
      have f1 := i0.frozen 1
      have f2 := i0.frozen 2
      have f3 := i0.frozen 3
      have f4 := i0.frozen 4
      unfold rCells at q0 q1 q2 q3 q4 p0 p1 p2 p3 p4
      simp only [List.getElem?_toArray, List.getElem?_cons_zero, List.getElem?_cons_succ] at q0 q1 q2 q3 q4 p0 p1 p2 p3 p4
      obtain ⟨r, hr⟩ : ∃ r, rZ f = r := ⟨_, rfl⟩
      rw [hr] at q0 q1 q2 q3 q4
      have hbr := ((((i0.set_ 0 (.int .i64 r.dev)).set_ 1 (.int .i64 r.frm)).set_ 2 (.int .i64 r.known)).set_ 3 (.int .i64 r.inn)).set_ 4 (.int .i64 r.out)
      have r0 := hbr.cell 0
      have r1 := hbr.cell 1
      have r2 := hbr.cell 2
      have r3 := hbr.cell 3
      have r4 := hbr.cell 4
      simp [rCells] at r0 r1 r2 r3 r4
      have HR := Lib.hid hr
      clear hbr hr i0 i1 he
      go_wp2
      refine bodyPost_ret (v := .tuple #[.agg #[.int .i64 r.dev, .int .i64 r.frm, .int .i64 r.known, .int .i64 r.inn, .int .i64 r.out], .bool f.isSome]) (by simp [results, Try.results33, go_sem, r0, r1, r2, r3, r4]) rfl ⟨by rw [HN.out, HR.out]; rfl, ?_⟩
      exact ((((hB.setCell (by show w.heap.size ≤ w.heap.size; omega) _).setCell (by show w.heap.size ≤ w.heap.size; omega) _).setCell (by show w.heap.size ≤ w.heap.size; omega) _).setCell (by show w.heap.size ≤ w.heap.size; omega) _).setCell (by show w.heap.size ≤ w.heap.size; omega) _
end Go.Proofs.Yteconepbhajjeaa
