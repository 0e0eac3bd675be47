/- Words for memory that all my walks share: a slice value that reads as a list of cells ('RD'), as a list of ints ('SL'); how they outlive later steps. -/
import Derived.Test.YtmfdflfjllpceaaRows
import Derived.WalkKit
import Derived.BigQuiet
import Derived.Handy
import Derived.Deep.QuietTactic
import Derived.Lib.Hide
import Derived.Laws.OwnMore
import Derived.Deep.AppendLies
import Derived.Deep.Draws
import Derived.Maps.AppendAt
import Derived.Below
/- Words for memory that all my walks share: a slice value that reads as a list of cells ('RD'), as a list of ints ('SL'); how they outlive later steps. -/
namespace Go.Proofs.Ytmfdflfjllpceaa
open Go.RowKit

/-- x fits Go's int. -/
def I64 (x : Int) : Prop := -9223372036854775808 ≤ x ∧ x ≤ 9223372036854775807
theorem I64.mk {x : Int} (h : -9223372036854775808 ≤ x ∧ x ≤ 9223372036854775807) : I64 x := h
theorem I64.wf {x : Int} (h : (Lit.int .i64 x).wf = true) : I64 x := by
  have := bounds_i64 h
  exact ⟨by omega, by omega⟩

theorem lt_of_cell {w : World} {a : Addr} {v : Value} (h : w.cell? a = some v) : a.block < w.heap.size := by
  unfold World.cell? at h
  rcases Nat.lt_or_ge a.block w.heap.size with hl | hl
  · exact hl
  · rw [Array.getElem?_eq_none hl] at h; simp at h

/-- The slice value '.slice A n c' reads as the cells xs, 'sz' cells an element. -/
def RD (w : World) (sz : Nat) (A : Option Addr) (n : Nat) (xs : List Value) : Prop :=
  xs.length = n * sz ∧ (0 < n → ∃ b o, A = some ⟨b, o, none⟩ ∧ b < w.heap.size ∧ ∀ j u, xs[j]? = some u → w.cell? ⟨b, o + j, none⟩ = some u)

abbrev vint (x : Int) : Value := .int .i64 x

theorem RD.nil {w : World} {sz : Nat} {A : Option Addr} : RD w sz A 0 [] := ⟨by simp, fun h => absurd h (by omega)⟩
theorem RD.keep {w w' : World} {sz n : Nat} {A : Option Addr} {xs : List Value} (h : RD w sz A n xs) (hs : w.heap.size ≤ w'.heap.size)
    (hk : ∀ p : Addr, p.block < w.heap.size → w'.cell? p = w.cell? p) : RD w' sz A n xs :=
  ⟨h.1, fun hn => by
    obtain ⟨b, o, e, hb, hc⟩ := h.2 hn
    exact ⟨b, o, e, by omega, fun j u hu => (hk _ hb).trans (hc j u hu)⟩⟩
theorem RD.below {w w' : World} {sz n : Nat} {A : Option Addr} {xs : List Value} (h : RD w sz A n xs) (hb : Below w.heap.size w w') : RD w' sz A n xs :=
  h.keep hb.size fun _ hp => hb.cell hp
theorem RD.belowB {w w' : World} {B sz n : Nat} {A : Option Addr} {xs : List Value} (h : RD w sz A n xs) (hB : w.heap.size ≤ B) (hb : Below B w w') : RD w' sz A n xs :=
  h.below (hb.mono hB)

/-- A slice of ints that reads as l. -/
def SL (w : World) (A : Option Addr) (n c : Nat) (l : List Int) : Prop :=
  l.length = n ∧ n ≤ c ∧ c ≤ maxLen ∧ (∀ x ∈ l, I64 x) ∧ RD w 1 A n (l.map vint)

section
variable {w w' : World} {A : Option Addr} {n c : Nat} {l : List Int}
theorem SL.n_eq (h : SL w A n c l) : l.length = n := h.1
theorem SL.le (h : SL w A n c l) : n ≤ c := h.2.1
theorem SL.i64 (h : SL w A n c l) : ∀ x ∈ l, I64 x := h.2.2.2.1
theorem SL.keep (h : SL w A n c l) (hs : w.heap.size ≤ w'.heap.size) (hk : ∀ p : Addr, p.block < w.heap.size → w'.cell? p = w.cell? p) : SL w' A n c l :=
  ⟨h.1, h.2.1, h.2.2.1, h.2.2.2.1, h.2.2.2.2.keep hs hk⟩
theorem SL.below (h : SL w A n c l) (hb : Below w.heap.size w w') : SL w' A n c l := h.keep hb.size fun _ hp => hb.cell hp
theorem SL.nil : SL w none 0 0 [] := ⟨by simp, by simp, by simp, by simp, RD.nil⟩
theorem SL.len (h : SL w A n c l) : (n : Int) ≤ 9223372036854775807 := by
  have h1 := h.2.1; have h2 := h.2.2.1; unfold maxLen at h2; omega
/-- Element k: where it lies, what it is. -/
theorem SL.at_ (h : SL w A n c l) {k : Nat} (hk : k < l.length) :
    ∃ b o, A = some ⟨b, o, none⟩ ∧ b < w.heap.size ∧ w.cell? ⟨b, o + k, none⟩ = some (.int .i64 l[k]) := by
  have hn := h.1
  obtain ⟨b, o, e, hb, hc⟩ := h.2.2.2.2.2 (by omega)
  exact ⟨b, o, e, hb, hc k _ (by simp [hk])⟩
/-- All elements, where there is one. -/
theorem SL.all_ (h : SL w A n c l) (hk : 0 < l.length) :
    ∃ b o, A = some ⟨b, o, none⟩ ∧ b < w.heap.size ∧ ∀ k (hk : k < l.length), w.cell? ⟨b, o + k, none⟩ = some (.int .i64 l[k]) := by
  have hn := h.1
  obtain ⟨b, o, e, hb, hc⟩ := h.2.2.2.2.2 (by omega)
  exact ⟨b, o, e, hb, fun k hk => hc k _ (by simp [hk])⟩
theorem SL.i64_at (h : SL w A n c l) {k : Nat} (hk : k < l.length) : -9223372036854775808 ≤ l[k] ∧ l[k] ≤ 9223372036854775807 := h.i64 _ (List.getElem_mem hk)
end

/-- A literal slice that was just laid. -/
theorem RD.lit (w : World) (e : TypeId) (sz n : Nat) (cs : Array Value) (hl : cs.size = n * sz) : RD (w.alloc (.cells cs e)) sz (some ⟨w.heap.size, 0, none⟩) n cs.toList := by
  refine ⟨by simpa using hl, fun _ => ⟨w.heap.size, 0, rfl, by simp, fun j u hu => ?_⟩⟩
  rw [World.cell?_alloc_at _ _ _ _ rfl, Nat.zero_add, ← hu]
  simp
theorem SL.lit (w : World) (e : TypeId) (l : List Int) (cs : Array Value) (hcs : cs = (l.map vint).toArray) (hm : l.length ≤ maxLen) (hf : ∀ x ∈ l, I64 x) :
    SL (w.alloc (.cells cs e)) (some ⟨w.heap.size, 0, none⟩) l.length l.length l := by
  refine ⟨rfl, Nat.le_refl _, hm, hf, ?_⟩
  have := RD.lit w e 1 l.length cs (by rw [hcs]; simp)
  rw [hcs] at this
  rw [hcs]
  exact this

/-- Block g is just the cells cs, none frozen. -/
def Blk (w : World) (g : Nat) (t : TypeId) (cs : Array Value) : Prop := w.heap[g]? = some (.cells cs t (0, 0))

section
variable {w w' : World} {g : Nat} {t : TypeId} {cs : Array Value}
theorem Blk.lt (h : Blk w g t cs) : g < w.heap.size := by
  rcases Nat.lt_or_ge g w.heap.size with hlt | hge
  · exact hlt
  · unfold Blk at h; rw [Array.getElem?_eq_none hge] at h; cases h
theorem Blk.cell (h : Blk w g t cs) (i : Nat) : w.cell? ⟨g, i, none⟩ = cs[i]? := cell_of_row w g i cs t (0, 0) h
theorem Blk.frozen (h : Blk w g t cs) (i : Nat) : w.frozen? ⟨g, i, none⟩ = false := by
  unfold Blk at h
  simp [World.frozen?, h]
theorem Blk.new (w : World) (t : TypeId) (cs : Array Value) : Blk (w.alloc (.cells cs t)) w.heap.size t cs := heap_alloc_new w _
theorem Blk.drew (h : Blk w g t cs) : Blk w.drew g t cs := h
theorem Blk.drewN (h : Blk w g t cs) (n : Nat) : Blk (w.drewN n) g t cs := h
theorem Blk.alloc (h : Blk w g t cs) (o : Obj) : Blk (w.alloc o) g t cs := (Below.heap_alloc w o g h.lt).trans h
theorem Blk.set_ (h : Blk w g t cs) (i : Nat) (u : Value) : Blk (w.setCell ⟨g, i, none⟩ u) g t (cs.setIfInBounds i u) := by
  unfold Blk at h ⊢
  simp [World.setCell, Array.getElem?_modify, h]
theorem Blk.far (h : Blk w g t cs) {p : Addr} (hp : g ≠ p.block) (u : Value) : Blk (w.setCell p u) g t cs := (Below.heap_setCell w p u g hp).trans h
theorem Blk.below {B : Nat} (h : Blk w g t cs) (hb : Below B w w') (hg : g < B) : Blk w' g t cs := (hb.block g hg).trans h
theorem Blk.belowAll (h : Blk w g t cs) (hb : Below w.heap.size w w') : Blk w' g t cs := h.below hb h.lt
/-- A block reads as a slice from its head on. -/
theorem Blk.rd (h : Blk w g t cs) {sz n : Nat} (hn : n * sz ≤ cs.size) : RD w sz (some ⟨g, 0, none⟩) n (cs.toList.take (n * sz)) := by
  refine ⟨by simp; omega, fun _ => ⟨g, 0, rfl, h.lt, fun j u hu => ?_⟩⟩
  rw [Nat.zero_add, h.cell j]
  rw [List.getElem?_take] at hu
  split at hu
  · simpa using hu
  · cases hu
theorem Blk.sl {l : List Int} (h : Blk w g t (l.map vint).toArray) (hm : l.length ≤ maxLen) (hf : ∀ x ∈ l, I64 x) : SL w (some ⟨g, 0, none⟩) l.length l.length l := by
  refine ⟨rfl, Nat.le_refl _, hm, hf, ?_⟩
  have := h.rd (sz := 1) (n := l.length) (by simp)
  rwa [show ((l.map vint).toArray.toList.take (l.length * 1)) = l.map vint by simp [List.take_of_length_le]] at this
end

/-- A block of n cells of which the first k hold f, the others z. -/
def fillA (f : Nat → Value) (z : Value) (k n : Nat) : Array Value := ((List.range n).map fun i => if i < k then f i else z).toArray
theorem fillA_set (f : Nat → Value) (z : Value) {k n : Nat} (hk : k < n) : (fillA f z k n).setIfInBounds k (f k) = fillA f z (k + 1) n := by
  unfold fillA
  apply Array.ext
  · simp
  · intro i h1 h2
    simp only [List.size_toArray, List.length_map, List.length_range, Array.size_setIfInBounds] at h1 h2
    by_cases e : i = k
    · subst e; simp
    · rw [Array.getElem_setIfInBounds_ne (by simpa using h1) (by omega)]
      simp only [List.getElem_toArray, List.getElem_map, List.getElem_range]
      by_cases hik : i < k
      · rw [if_pos hik, if_pos (by omega)]
      · rw [if_neg hik, if_neg (by omega)]
theorem fillA_zero (f : Nat → Value) (z : Value) (n : Nat) : fillA f z 0 n = (List.replicate n z).toArray := by
  unfold fillA
  congr 1
  apply List.ext_getElem
  · simp
  · intro i h1 h2; simp
theorem fillA_full (f : Nat → Value) (z : Value) (n : Nat) : fillA f z n n = ((List.range n).map f).toArray := by
  unfold fillA
  congr 1
  apply List.map_congr_left
  intro i hi
  rw [if_pos (by simpa using hi)]
theorem fillA_size (f : Nat → Value) (z : Value) (k n : Nat) : (fillA f z k n).size = n := by simp [fillA]
theorem fillA_get (f : Nat → Value) (z : Value) {i k n : Nat} (h : i < n) : (fillA f z k n)[i]? = some (if i < k then f i else z) := by
  simp [fillA, h]
theorem map_range_getD (l : List Int) (g : Int → Value) : (List.range l.length).map (fun i => g (l[i]?.getD 0)) = l.map g := by
  apply List.ext_getElem
  · simp
  · intro i h1 h2
    simp at h1 h2 ⊢
    simp [h1]

/-- What the shells' walks are told of a slice of ints. -/
theorem SL.of_row {w : World} {a : Option Addr} {len cap : Nat} {zs : List Int}
    (h : (a = none ∧ len = 0 ∧ cap = 0 ∧ zs = []) ∨
      ∃ x, a = some x ∧ len ≤ cap ∧ cap ≤ maxLen ∧ zs.length = cap ∧ (∀ i, i < zs.length → w.cell? (x.add i) = some (.int .i64 (zs.getD i 0))) ∧ ∀ n ∈ zs, (Lit.int .i64 n).wf = true) :
    ∃ l : List Int, SL w a len cap l := by
  rcases h with ⟨rfl, rfl, rfl, rfl⟩ | ⟨x, rfl, hl, hm, hz, hc, hw⟩
  · exact ⟨[], SL.nil⟩
  · refine ⟨zs.take len, by simp; omega, hl, hm, fun y hy => I64.wf (hw y (List.mem_of_mem_take hy)), by simp; omega, fun hn => ?_⟩
    obtain ⟨b, o, s⟩ := x
    have h0 := hc 0 (by omega)
    have hs : s = none := by simpa [Addr.add] using World.cell?_spot h0
    subst hs
    refine ⟨b, o, rfl, lt_of_cell (a := ⟨b, o, none⟩) (by simpa [Addr.add] using h0), fun j u hu => ?_⟩
    simp only [List.getElem?_map, List.getElem?_take] at hu
    split at hu
    · rename_i hj
      have hjz : j < zs.length := by omega
      rw [List.getElem?_eq_getElem hjz] at hu
      have := hc j hjz
      rw [show zs.getD j 0 = zs[j] by simp [List.getD, hjz]] at this
      simp only [Option.map_some, Option.some.injEq] at hu
      subst hu
      by_cases hj0 : j = 0
      · subst hj0; simpa [Addr.add] using this
      · simpa [Addr.add, hj0] using this
    · simp at hu

theorem ret_int {k : IntKind} {a b : Int} (h : a = b) : Ending.returned (.int k a) = .returned (.int k b) := by rw [h]
theorem ret_int2 {k k' : IntKind} {a b c d : Int} (h : a = b) (h' : c = d) : Ending.returned (.tuple #[.int k a, .int k' c]) = .returned (.tuple #[.int k b, .int k' d]) := by rw [h, h']
theorem ret_bool {a b : Bool} (h : a = b) : Ending.returned (.bool a) = .returned (.bool b) := by rw [h]
theorem getElem?_getD_of {l : List Int} {k : Nat} (h : k < l.length) : l[k]?.getD 0 = l[k] := by rw [List.getElem?_eq_getElem h]; rfl
theorem sum_take_succ {l : List Int} {k : Nat} (h : k < l.length) : (l.take (k + 1)).sum = (l.take k).sum + l[k] := by
  rw [List.take_succ_eq_append_getElem h, List.sum_append]; simp
theorem take_succ_get {α : Type} {l : List α} {k : Nat} (h : k < l.length) : l.take (k + 1) = l.take k ++ [l[k]] := List.take_succ_eq_append_getElem h

theorem quiet_add_left {P : Program} {f : FuncId} {args : Array Value} {w : World} {a n : Nat} {v : Value}
    (h : Calls P f args (w.drewN (a + n)) fun e w' => e = .returned v ∧ w.drewN (a + n) = w') :
    Calls P f args (w.drewN (a + n)) fun e w'' => e = .returned v ∧ ∃ m, w'' = w.drewN (a + m) :=
  h.mono fun _ _ ⟨he, hm⟩ => ⟨he, n, hm.symm⟩
theorem quiet_left {P : Program} {f : FuncId} {args : Array Value} {w : World} {n : Nat} {v : Value}
    (h : Calls P f args (w.drewN n) fun e w' => e = .returned v ∧ w.drewN n = w') : Calls P f args (w.drewN n) fun e w'' => e = .returned v ∧ ∃ m, w'' = w.drewN m :=
  h.mono fun _ _ ⟨he, hm⟩ => ⟨he, n, hm.symm⟩
end Go.Proofs.Ytmfdflfjllpceaa

/- Memory laws at this dump's type numbers: make, append of []int. -/
namespace Go.Proofs.Ytmfdflfjllpceaa
open Go.RowKit

theorem int_info : (Try.prog.info? 3).map (fun i => (i.zero, i.size, i.bytes)) = some (some (.int .i64 0), 1, 8) := by kernel_rfl

theorem run_make_rowN {P : Program} (t e : TypeId) (i : TypeInfo) (z : Value) (ht : P.underlying t = some (.slice e)) (hi : P.info? e = some i) (hz : i.zero = some z)
    (kl kc : IntKind) (n c : Nat) (hnc : n ≤ c) (hbytes : i.bytes * c ≤ 281474976710656) (h63 : c ≤ 9223372036854775807) (w : World) :
    (Instr.makeSlice t (.int kl (n : Int)) (.int kc (c : Int))).run P w = .ok (.slice (some ⟨w.heap.size, 0, none⟩) n c) (w.alloc (.cells (madeCells z.cells (c * i.size)) e)) := by
  have hb : (i.bytes : Int) * (c : Int) ≤ 281474976710656 := by
    have h : ((i.bytes * c : Nat) : Int) ≤ 281474976710656 := by omega
    rwa [Int.natCast_mul] at h
  have hr := run_make (P := P) w t e i z ht hi hz kl kc n c (by omega) (by omega) hb (by omega)
  simp only [Int.toNat_natCast] at hr
  exact hr
set_option maxRecDepth 100000 in
/-- make([]int, n) -/
theorem mk_ints (f : Nat → Value) (n : Nat) (hn : n ≤ 35184372088832) (w : World) : (Instr.makeSlice 66 (.int .i64 (n : Int)) (.int .i64 (n : Int))).run Try.prog w =
    .ok (.slice (some ⟨w.heap.size, 0, none⟩) n n) (w.alloc (.cells (fillA f (.int .i64 0) 0 n) 3)) := by
  obtain ⟨i0, hi, hz0, hz1, hz2⟩ := info_parts int_info
  rw [run_make_rowN _ _ _ _ Try.underlying66 hi hz0 _ _ n n (Nat.le_refl _) (by rw [hz2]; omega) (by omega) w, hz1, fillA_zero]
  congr 3
  rw [← toList_madeCells_one, Nat.mul_one]; rfl
end Go.Proofs.Ytmfdflfjllpceaa

/- Slices of ints: cuts, appends; what is yielded in every later world ('Ext'), for regions that draw their order. -/
namespace Go.Proofs.Ytmfdflfjllpceaa
open Go.RowKit

theorem add_off (b o n : Nat) : (⟨b, o, none⟩ : Addr).add n = ⟨b, o + n, none⟩ := by
  unfold Addr.add; split
  · rename_i h; simp
  · rfl
theorem RD.cut {w : World} {sz n : Nat} {A : Option Addr} {xs : List Value} (h : RD w sz A n xs) {lo hi c : Nat} (h1 : lo ≤ hi) (h2 : hi ≤ n) (hc : n ≤ c) :
    RD w sz (if c = lo then A else A.map (·.add (lo * sz))) (hi - lo) ((xs.take (hi * sz)).drop (lo * sz)) := by
  have hle : hi * sz ≤ n * sz := Nat.mul_le_mul_right _ h2
  refine ⟨by simp only [List.length_drop, List.length_take, h.1, Nat.sub_mul]; omega, fun hp => ?_⟩
  obtain ⟨b, o, rfl, hb, hcell⟩ := h.2 (by omega)
  rw [if_neg (by omega)]
  refine ⟨b, o + lo * sz, by simp [add_off], hb, fun j u hu => ?_⟩
  rw [Nat.add_assoc]
  refine hcell _ u ?_
  rw [List.getElem?_drop, List.getElem?_take] at hu
  split at hu
  · exact hu
  · cases hu
theorem drop_take_map (l : List Int) (lo hi : Nat) : ((l.map vint).take (hi * 1)).drop (lo * 1) = ((l.take hi).drop lo).map vint := by
  simp [List.map_drop, List.map_take]
section
variable {w : World} {A : Option Addr} {n c : Nat} {l : List Int}
/-- s[i:j] -/
theorem SL.cut (h : SL w A n c l) {i j : Int} {lo hi m : Nat} (ei : i = lo) (ej : j = hi) (h1 : lo ≤ hi) (h2 : hi ≤ n) (em : m = hi - lo) :
    ∃ A' c', (∀ W, (Instr.slice 66 (.slice A n c) (some (.int .i64 i)) (some (.int .i64 j)) none).run Try.prog W = .ok (.slice A' m c') W) ∧ SL w A' m c' ((l.take hi).drop lo) := by
  have hc := h.le
  have hu := Try.underlying66
  refine ⟨if c = lo then A else A.map (·.add lo), c - lo, fun W => ?_, ?_⟩
  · subst ei ej em
    simp [Instr.slice, go_sem, Instr.sliceBounds, Instr.sliceBound, show hi ≤ c by omega, h1]
  · obtain ⟨e, _, hm, hf, hr⟩ := h
    subst em
    have := hr.cut (lo := lo) (hi := hi) (c := c) h1 h2 hc
    rw [drop_take_map] at this
    exact ⟨by simp; omega, by omega, by omega, fun x hx => hf x (List.mem_of_mem_take (List.mem_of_mem_drop hx)), by simpa using this⟩
/-- s[i:] -/
theorem SL.cutFrom (h : SL w A n c l) {i : Int} {lo m : Nat} (ei : i = lo) (h1 : lo ≤ n) (em : m = n - lo) :
    ∃ A' c', (∀ W, (Instr.slice 66 (.slice A n c) (some (.int .i64 i)) none none).run Try.prog W = .ok (.slice A' m c') W) ∧ SL w A' m c' (l.drop lo) := by
  have hc := h.le
  have hu := Try.underlying66
  refine ⟨if c = lo then A else A.map (·.add lo), c - lo, fun W => ?_, ?_⟩
  · subst ei em
    simp [Instr.slice, go_sem, Instr.sliceBounds, Instr.sliceBound, h1]
  · obtain ⟨e, _, hm, hf, hr⟩ := h
    subst em
    have := hr.cut (lo := lo) (hi := n) (c := c) h1 (Nat.le_refl _) hc
    rw [drop_take_map, List.take_of_length_le (by omega)] at this
    exact ⟨by simp; omega, by omega, by omega, fun x hx => hf x (List.mem_of_mem_drop hx), by simpa using this⟩
/-- s[:j] -/
theorem SL.cutTo (h : SL w A n c l) {j : Int} {hi : Nat} (ej : j = hi) (h2 : hi ≤ n) :
    ∃ A' c', (∀ W, (Instr.slice 66 (.slice A n c) none (some (.int .i64 j)) none).run Try.prog W = .ok (.slice A' hi c') W) ∧ SL w A' hi c' (l.take hi) := by
  have hc := h.le
  have hu := Try.underlying66
  refine ⟨if c = 0 then A else A.map (·.add 0), c, fun W => ?_, ?_⟩
  · subst ej
    by_cases h0 : c = 0
    · simp [Instr.slice, go_sem, Instr.sliceBounds, Instr.sliceBound, h0, show hi = 0 by omega]
    · simp [Instr.slice, go_sem, Instr.sliceBounds, Instr.sliceBound, show hi ≤ c by omega, h0]
  · obtain ⟨e, _, hm, hf, hr⟩ := h
    have := hr.cut (lo := 0) (hi := hi) (c := c) (Nat.zero_le _) h2 hc
    rw [drop_take_map] at this
    exact ⟨by simp; omega, by omega, by omega, fun x hx => hf x (List.mem_of_mem_take hx), by simpa using this⟩
end

/-- A world that w0 has come to with nothing of the old turned. -/
structure Ext (w0 : World) where
  W : World
  h : Below w0.heap.size w0 W
namespace Ext
variable {P : Program} {f : FuncId} {args : Array Value} {w0 : World} {x : Ext w0} {v : Value}
theorem sl {A : Option Addr} {n c : Nat} {l : List Int} (h : SL w0 A n c l) (x : Ext w0) : SL x.W A n c l := h.below x.h
theorem cell {p : Addr} {v : Value} (h : w0.cell? p = some v) (x : Ext w0) : x.W.cell? p = some v := (x.h.cell (lt_of_cell h)).trans h
theorem quiet (h : Calls P f args x.W fun e w' => e = .returned v ∧ Below x.W.heap.size x.W w') : Calls P f args x.W fun e w'' => e = .returned v ∧ ∃ y : Ext w0, w'' = y.W :=
  h.mono fun _ w' ⟨he, hb⟩ => ⟨he, ⟨w', x.h.trans (hb.mono x.h.size)⟩, rfl⟩
theorem quietS (h : Calls P f args x.W fun e w' => e = .returned v ∧ x.W = w') : Calls P f args x.W fun e w'' => e = .returned v ∧ ∃ y : Ext w0, w'' = y.W :=
  h.mono fun _ _w' ⟨he, hb⟩ => ⟨he, x, hb.symm⟩
end Ext
/-- A region that draws its order, whose operations yield one value each in every later world: walked once. -/
theorem wp_region_ext {P : Program} {id : Nat} {Q : Exit → Act → World → Prop} {a : Act} {w : World} {l : List Oper} (hm : P.follows .mixedOrders = true) (hB : Region.lexB .any l.toArray = true)
    (h : wpQuiet P l.toArray (fun w' => ∃ x : Ext w, w' = x.W) (fun a' => ∀ w', (∃ x : Ext w, w' = x.W) → Q .normal a' w') l a) : (Code.region id l.toArray true).wp P Q a w :=
  wp_region_quiet (C := fun w' => ∃ x : Ext w, w' = x.W) hm hB ⟨⟨_, Below.refl _ w |>.drew⟩, rfl⟩ (by simpa using h)
end Go.Proofs.Ytmfdflfjllpceaa
