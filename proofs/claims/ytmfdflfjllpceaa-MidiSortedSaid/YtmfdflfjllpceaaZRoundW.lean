/- A loop over an iterator, where the iterator and the loop's body each have blocks of their own: the iterator turns blocks of a set X alone (what it lays joins X), the body keeps X and what the iterator reads (R). Over any program. -/
import Derived.Test.YtmfdflfjllpceaaZTail
/- A loop over an iterator, where the iterator and the loop's body each have blocks of their own: the iterator turns blocks of a set X alone (what it lays joins X), the body keeps X and what the iterator reads (R). Over any program. -/
namespace Go.Proofs.Ytmfdflfjllpceaa
open Go.RowKit Go.Shelf

theorem cell_al {W : World} {p : Addr} {v : Value} (h : W.cell? p = some v) (o : Obj) : (W.alloc o).cell? p = some v := (((Below.refl _ W).alloc (Nat.le_refl _) o).cell (lt_of_cell h)).trans h
theorem cell_set {W : World} {p q : Addr} {v : Value} (h : W.cell? p = some v) (hne : p.block ≠ q.block) (u : Value) : (W.setCell q u).cell? p = some v := (World.cell?_of_block (Below.heap_setCell W q u p.block hne)).trans h
theorem Blk.putObj {w : World} {g D : Nat} {t : TypeId} {cs : Array Value} (h : Blk w g t cs) (hne : g ≠ D) (o : Obj) : Blk (w.putObj D o) g t cs := (World.putObj_heap_other hne).trans h
theorem below_putObj {B D : Nat} {w0 w : World} (h : Below B w0 w) (hD : B ≤ D) (hB : B ≤ w0.heap.size) (o : Obj) : Below B w0 (w.putObj D o) :=
  h.trans ((Below.refl B _).grown (grownBy_putObj' _ D _) (Nat.le_trans hB h.size) (fun k e => by cases e; omega))
/-- One step of the iterator. -/
structure Stp (X X' : Nat → Prop) (W W' : World) : Prop where
  os : W'.os = W.os
  tape : W'.tape = W.tape
  output : W'.output = W.output
  size : W.heap.size ≤ W'.heap.size
  same : ∀ k, k < W.heap.size → ¬ X k → W'.heap[k]? = W.heap[k]?
  grow : ∀ k, X k → X' k
  new : ∀ k, X' k → X k ∨ (W.heap.size ≤ k ∧ k < W'.heap.size)
/-- What is said of the world abides the iterator's steps. -/
def AbidesX {β : Type} (J : β → (Nat → Prop) → World → Prop) : Prop := ∀ s X X' W W', J s X W → Stp X X' W W' → J s X' W'
/-- The blocks of Y lie as they lay. -/
def Keep (Y : Nat → Prop) (W W' : World) : Prop := W.heap.size ≤ W'.heap.size ∧ ∀ k, Y k → k < W.heap.size → W'.heap[k]? = W.heap[k]?
theorem Keep.refl (Y : Nat → Prop) (W : World) : Keep Y W W := ⟨Nat.le_refl _, fun _ _ _ => rfl⟩
theorem Keep.trans {Y : Nat → Prop} {A B C : World} (h : Keep Y A B) (k : Keep Y B C) : Keep Y A C := ⟨Nat.le_trans h.1 k.1, fun i hY hi => (k.2 i hY (Nat.lt_of_lt_of_le hi h.1)).trans (h.2 i hY hi)⟩
theorem Keep.mono {Y Z : Nat → Prop} {A B : World} (h : Keep Y A B) (hz : ∀ k, Z k → Y k) : Keep Z A B := ⟨h.1, fun k hk => h.2 k (hz k hk)⟩
theorem Keep.below {Y : Nat → Prop} {A B : World} (h : Below A.heap.size A B) : Keep Y A B := ⟨h.size, fun k _ hk => h.block k hk⟩
theorem Keep.setCell {Y : Nat → Prop} {A : World} {p : Addr} (v : Value) (hp : ¬ Y p.block) : Keep Y A (A.setCell p v) := ⟨by simp [World.setCell], fun k hY _ => Below.heap_setCell A p v k (fun e => hp (e ▸ hY))⟩
theorem Keep.cell {Y : Nat → Prop} {A B : World} (h : Keep Y A B) {p : Addr} {v : Value} (hY : Y p.block) (hc : A.cell? p = some v) : B.cell? p = some v := (World.cell?_of_block (h.2 _ hY (lt_of_cell hc))).trans hc
theorem Keep.blk {Y : Nat → Prop} {A B : World} (h : Keep Y A B) {g : Nat} {t : TypeId} {cs : Array Value} (hY : Y g) (hb : Blk A g t cs) : Blk B g t cs := (h.2 g hY (Blk.lt hb)).trans hb
theorem Stp.blk {X X' : Nat → Prop} {A B : World} (h : Stp X X' A B) {g : Nat} {t : TypeId} {cs : Array Value} (hX : ¬ X g) (hb : Blk A g t cs) : Blk B g t cs := (h.same g (Blk.lt hb) hX).trans hb
theorem Stp.below {X X' : Nat → Prop} {A B : World} (h : Stp X X' A B) {m : Nat} (hX : ∀ k, X k → m ≤ k) (hm : m ≤ A.heap.size) : Below m A B := ⟨h.os, h.tape, h.output, h.size, fun k hk => h.same k (by omega) (fun hx => by have := hX k hx; omega)⟩
theorem Stp.of_below {X : Nat → Prop} {A B : World} (h : Below A.heap.size A B) : Stp X X A B := ⟨h.os, h.tape, h.output, h.size, fun k hk _ => h.block k hk, fun _ hk => hk, fun _ hk => .inl hk⟩
theorem Stp.alloc (X : Nat → Prop) (A : World) (o : Obj) : Stp X (fun k => X k ∨ k = A.heap.size) A (A.alloc o) :=
  have h := (Below.refl A.heap.size A).alloc (Nat.le_refl _) o
  ⟨h.os, h.tape, h.output, h.size, fun k hk _ => h.block k hk, fun _ hk => .inl hk, fun k hk => hk.elim .inl (fun e => .inr ⟨by omega, by subst e; simp⟩)⟩
theorem Stp.setCell {X : Nat → Prop} {A : World} {p : Addr} (v : Value) (hp : X p.block) : Stp X X A (A.setCell p v) :=
  ⟨rfl, rfl, rfl, by simp [World.setCell], fun k _ hX => Below.heap_setCell A p v k (fun e => hX (e ▸ hp)), fun _ hk => hk, fun _ hk => .inl hk⟩
theorem Stp.putObj {X : Nat → Prop} {A : World} {l : Nat} (o : Obj) (hl : X l) : Stp X X A (A.putObj l o) := by
  have h := grownBy_putObj' A l o
  exact ⟨h.os, h.tape, h.output, h.size, fun k hk hX => h.block k hk (fun e => hX (by cases e; exact hl)), fun _ hk => hk, fun _ hk => .inl hk⟩
theorem Stp.trans {X Y Z : Nat → Prop} {A B C : World} (h : Stp X Y A B) (k : Stp Y Z B C) (_hXl : ∀ i, X i → i < A.heap.size) : Stp X Z A C :=
  ⟨k.os.trans h.os, k.tape.trans h.tape, k.output.trans h.output, Nat.le_trans h.size k.size,
    fun i hi hX => (k.same i (Nat.lt_of_lt_of_le hi h.size) (fun hY => (h.new i hY).elim hX (fun h5 => by omega))).trans (h.same i hi hX),
    fun i hi => k.grow i (h.grow i hi), fun i hi => by
      rcases k.new i hi with h5 | ⟨h5, h6⟩
      · rcases h.new i h5 with h7 | ⟨h7, h8⟩
        · exact .inl h7
        · exact .inr ⟨h7, Nat.lt_of_lt_of_le h8 k.size⟩
      · exact .inr ⟨Nat.le_trans h.size h5, h6⟩⟩
theorem AbidesX.and {β : Type} {J J' : β → (Nat → Prop) → World → Prop} (h : AbidesX J) (h' : AbidesX J') : AbidesX (fun s X W => J s X W ∧ J' s X W) := fun s X X' W W' hs hp => ⟨h s X X' W W' hs.1 hp, h' s X X' W W' hs.2 hp⟩
/-- What speaks of blocks below m alone, the iterator's blocks lying from m on. -/
theorem abides_below {β : Type} {m : Nat} {I : β → World → Prop} (hI : ∀ s W W', I s W → Below m W W' → I s W') : AbidesX (fun s X W => I s W ∧ m ≤ W.heap.size ∧ ∀ k, X k → m ≤ k ∧ k < W.heap.size) :=
  fun s _X _X' W W' ⟨h1, h2, h3⟩ hp => ⟨hI s W W' h1 (hp.below (fun k hk => (h3 k hk).1) h2), Nat.le_trans h2 hp.size, fun k hk => (hp.new k hk).elim (fun h => ⟨(h3 k h).1, Nat.lt_of_lt_of_le (h3 k h).2 hp.size⟩) (fun h5 => ⟨Nat.le_trans h2 h5.1, h5.2⟩)⟩

/-- An iterator's contract: it yields a list x by x (encs: as values), x behind 'pre' only where V pre x; S: what it has yielded at its end, Sp: where a round has said 'no more'. R: the blocks that it reads. -/
def SeqX {α : Type} (F : Fence) (n : Nat) (P : Program) (g : Nat) (lb : Array Value) (encs : α → Array Value) (R : Nat → Prop) (S Sp : List α → Prop) (V : List α → α → Prop) (w : World) : Prop :=
  ∀ (l : Nat) (J Jx : List α → (Nat → Prop) → World → Prop) (X0 : Nat → Prop) (W : World), Below w.heap.size w W → AbidesX J → AbidesX Jx → (∀ k, X0 k → k < W.heap.size) →
    (∀ pre x X W1, J pre X W1 → V pre x → YieldAt F (n - 1) P l (encs x) W1 fun e W' =>
      (e = .returned (.bool true) ∧ J (pre ++ [x]) X W' ∧ Keep (fun k => R k ∨ X k) W1 W') ∨ (e = .returned (.bool false) ∧ Jx (pre ++ [x]) X W')) →
    J [] X0 W →
    CallsIn F n P g (#[.func (.yield l) #[] #[]] ++ lb) W fun e W' => (∃ v, e = .returned v) ∧ ((∃ xs X, S xs ∧ J xs X W') ∨ (∃ pre X, Sp pre ∧ Jx pre X W'))

/-- How a round may be left. -/
def postX {α : Type} (R : Nat → Prop) (J : List α → (Nat → Prop) → World → Prop) (Jx : Code → List α → (Nat → Prop) → World → Prop) (xs : List α) (X : Nat → Prop) (W : World) : Exit → Act → World → Prop
  | .normal, _, W' => Keep (fun k => R k ∨ X k) W W' ∧ J xs X W'
  | .ret, _, W' => Keep (fun k => R k ∨ X k) W W' ∧ Jx .ret xs X W'
  | .exit id, _, W' => Keep (fun k => R k ∨ X k) W W' ∧ Jx (.exit id) xs X W'
  | .goto t, _, W' => Keep (fun k => R k ∨ X k) W W' ∧ Jx (.goto t) xs X W'
  | .panic _, _, _ => False
  | .outgrown, _, _ => False

section
variable {F : Fence} {n : Nat} {P : Program}
/-- The records of a loop: what the law itself keeps beside the caller's word. -/
structure Book (X : Nat → Prop) (l D : Nat) (r : Loop) (W : World) : Prop where
  lp : W.heap[l]? = some (.loop r)
  def_ : W.heap[D]? = some (.deferred (some []))
  nl : ¬ X l
  nD : ¬ X D
theorem Book.stp {X X' : Nat → Prop} {l D : Nat} {r : Loop} {W W' : World} (h : Book X l D r W) (hs : Stp X X' W W') : Book X' l D r W' := by
  have hl := (Array.getElem?_eq_some_iff.1 h.lp).1
  have hD := (Array.getElem?_eq_some_iff.1 h.def_).1
  exact ⟨(hs.same l hl h.nl).trans h.lp, (hs.same D hD h.nD).trans h.def_, fun hx => (hs.new l hx).elim h.nl (fun h5 => by omega),
    fun hx => (hs.new D hx).elim h.nD (fun h5 => by omega)⟩
theorem stp_with {X X' : Nat → Prop} {l D : Nat} {W W' : World} (hs : Stp X X' W W') (_hl : l < W.heap.size) (_hD : D < W.heap.size) : Stp (fun k => X k ∨ k = l ∨ k = D) (fun k => X' k ∨ k = l ∨ k = D) W W' :=
  ⟨hs.os, hs.tape, hs.output, hs.size, fun k hk hX => hs.same k hk (fun hx => hX (.inl hx)), fun k hk => hk.elim (fun h => .inl (hs.grow k h)) .inr,
    fun k hk => hk.elim (fun h => (hs.new k h).elim (fun h5 => .inl (.inl h5)) .inr) (fun h => .inl (.inr h))⟩

theorem wpIn_rangeFunc_X {α : Type} {g : Operand} {ps : Array Tmp} {assign body : Code} {Q : Exit → Act → World → Prop} {a : Act} {w : World}
    (hro : F.round = none) (h1 : 1 ≤ n) {gf : Nat} {lb : Array Value} (hg : a.eval g = .func (.func gf) #[] lb) (hFg : F.fn gf) (eg : ∀ args w, (callFunc gf args).run P w = .ok (.enter gf args) w)
    {encs : α → Array Value} {R : Nat → Prop} {S Sp : List α → Prop} {V : List α → α → Prop} {w0 : World} (hseq : SeqX F (n - 1) P gf lb encs R S Sp V w0) (hR : ∀ k, R k → k < w.heap.size) (hb0 : Below w0.heap.size w0 w) (hps : ∀ x, (encs x).size = ps.size)
    (J : List α → (Nat → Prop) → World → Prop) (Jx : Code → List α → (Nat → Prop) → World → Prop) (hJ : AbidesX J) (hJx : ∀ c, AbidesX (Jx c)) (h0 : J [] (fun _ => False) w)
    (hround : ∀ (l D : Nat) (pre : List α) (x : α) (X : Nat → Prop) (W : World), J pre X W → X l → X D → l ≠ D → (∃ r, W.heap[l]? = some (.loop r)) → W.heap[D]? = some (.deferred (some [])) → V pre x →
      assign.wpIn (F.inRound l) (n - 1 - 1) P (Exit.then (fun a' W' => Keep (fun k => R k ∨ X k) W W' ∧ ∀ W'', Stp X X W' W'' → body.wpIn (F.inRound l) (n - 1 - 1) P (postX R J Jx (pre ++ [x]) X W'') a' W'') (fun _ _ _ => False))
        { tmps := (ps.zip (encs x)).foldl (fun t (p, v) => t.setIfInBounds p v) a.tmps, defers := [] } W)
    (hdone : ∀ (D : Nat) (xs : List α) (X : Nat → Prop) (W : World), w.heap.size ≤ D → S xs → J xs X W → X D → W.heap[D]? = some (.deferred (some [])) → Q .normal { a with defers := { target := .collected D, args := #[] } :: a.defers } W)
    (hstop : ∀ (D : Nat) (c : Code) (pre : List α) (X : Nat → Prop) (W : World), w.heap.size ≤ D → Sp pre → Jx c pre X W → X D → W.heap[D]? = some (.deferred (some [])) → c.wpIn F n P Q { a with defers := { target := .collected D, args := #[] } :: a.defers } W) :
    (Code.rangeFunc g ps assign body).wpIn F n P Q a w := by
  refine wpIn_rangeFunc ?_
  intro fn hfn
  rw [hro]
  obtain ⟨rec, hrec⟩ : ∃ rec : LoopState → Option Code → Loop, rec = fun st pe => { state := st, pending := pe, fn, tmps := a.tmps, params := ps, assign, body, defers := w.heap.size } := ⟨_, rfl⟩
  obtain ⟨W0, hW0⟩ : ∃ W0, w.alloc (.deferred (some [])) = W0 := ⟨_, rfl⟩
  have s0 : W0.heap.size = w.heap.size + 1 := by rw [← hW0]; simp
  obtain ⟨W1, hW1⟩ : ∃ W1, W0.alloc (.loop (rec .ready none)) = W1 := ⟨_, rfl⟩
  have s1 : W1.heap.size = w.heap.size + 1 + 1 := by rw [← hW1]; simp [s0]
  have t0 : Stp (fun _ => False) (fun k => False ∨ k = w.heap.size) w W0 := by rw [← hW0]; exact Stp.alloc _ _ _
  have t1 : Stp (fun k => False ∨ k = w.heap.size) (fun k => (False ∨ k = w.heap.size) ∨ k = w.heap.size + 1) W0 W1 := by rw [← hW1, ← s0]; exact Stp.alloc _ _ _
  have hL1 : W1.heap[w.heap.size + 1]? = some (.loop (rec .ready none)) := by
    rw [← hW1, ← s0]; exact World.alloc_heap_new _ _
  have hK1 : W1.heap[w.heap.size]? = some (.deferred (some [])) := by
    rw [← hW1]; refine (Below.heap_alloc _ _ _ (by omega)).trans ?_
    rw [← hW0]; exact World.alloc_heap_new w _
  have hJ1 : J [] (fun k => (False ∨ k = w.heap.size) ∨ k = w.heap.size + 1) W1 := hJ _ _ _ _ _ (hJ _ _ _ _ _ h0 t0) t1
  have hb1 : Below w0.heap.size w0 W1 := by
    refine hb0.trans (Below.mono ?_ hb0.size)
    rw [← hW1, ← hW0]; exact ((Below.refl _ w).alloc (Nat.le_refl _) _).alloc (by simp) _
  refine ⟨w.heap.size + 1, [{ target := .collected w.heap.size, args := #[] }], W1, { target := .fn (.func gf) lb, args := #[.func (.yield (w.heap.size + 1)) #[] #[]] }, W1, gf,
    #[.func (.yield (w.heap.size + 1)) #[] #[]] ++ lb, W1, ?_, ?_, ?_, ?_, fun _ => h1, ?_⟩
  · rw [← hW1, ← hW0, hrec]; exact run_enterLoop_outer _ _ _ _ _
  · simp only [resolve, hg]
    simp [go_sem]
  · intro f' hf'; simp [Target.leads] at hf'; subst hf'; exact hFg
  · simp [invoke, go_sem, eg]
  · refine (hseq (w.heap.size + 1)
      (fun pre X W => J pre (fun k => X k ∨ k = w.heap.size + 1 ∨ k = w.heap.size) W ∧ Book X (w.heap.size + 1) w.heap.size (rec .ready none) W)
      (fun pre X W => ∃ c, Jx c pre (fun k => X k ∨ k = w.heap.size + 1 ∨ k = w.heap.size) W ∧ Book X (w.heap.size + 1) w.heap.size (rec .done (some c)) W)
      (fun _ => False) W1 hb1
      (fun s X X' A B hs hp => ⟨hJ _ _ _ _ _ hs.1 (stp_with hp (Array.getElem?_eq_some_iff.1 hs.2.lp).1 (Array.getElem?_eq_some_iff.1 hs.2.def_).1), hs.2.stp hp⟩)
      (fun s X X' A B ⟨c, hs⟩ hp => ⟨c, hJx c _ _ _ _ _ hs.1 (stp_with hp (Array.getElem?_eq_some_iff.1 hs.2.lp).1 (Array.getElem?_eq_some_iff.1 hs.2.def_).1), hs.2.stp hp⟩)
      (fun k hk => hk.elim) ?_ ⟨?_, hL1, hK1, id, id⟩).mono ?_
    · -- one round
      rintro pre x X W ⟨hj, hbk⟩ hlen
      have hl := hbk.lp
      have hlt := (Array.getElem?_eq_some_iff.1 hl).1
      have hDt := (Array.getElem?_eq_some_iff.1 hbk.def_).1
      have hy := run_yield (P := P) (args := encs x) hl (by rw [hrec]; exact hps x)
      rw [hrec] at hy
      refine ⟨fn, _, assign, body, hy, roundIn_of_wpIn hfn (wpIn_mono (hround (w.heap.size + 1) w.heap.size pre x _ W hj (.inr (.inl rfl)) (.inr (.inr rfl)) (by omega) ⟨_, hl⟩ hbk.def_ hlen) ?_)⟩
      clear hy
      rintro e a' Wa hpost
      cases e with
      | normal =>
        obtain ⟨hka, hpost⟩ := hpost
        have hla := (hka.2 _ (.inr (.inr (.inl rfl))) hlt).trans hl
        have hlta := (Array.getElem?_eq_some_iff.1 hla).1
        refine ⟨_, run_beginRound hla (by rw [hrec]), ?_⟩
        obtain ⟨Wb, hWb⟩ : ∃ Wb, Wa.putObj (w.heap.size + 1) (.loop { rec .ready none with state := .busy }) = Wb := ⟨_, rfl⟩
        have hlb : Wb.heap[w.heap.size + 1]? = some (.loop { rec .ready none with state := .busy }) := by rw [← hWb]; exact World.putObj_heap_same hlta
        have hDb : Wb.heap[w.heap.size]? = some (.deferred (some [])) := by
          rw [← hWb]
          exact (World.putObj_heap_other (by omega)).trans ((hka.2 _ (.inr (.inr (.inr rfl))) hDt).trans hbk.def_)
        have hpb := hpost Wb (by rw [← hWb]; exact Stp.putObj _ (.inr (.inl rfl)))
        have hkb : Keep (fun k => R k ∨ X k) W Wb := by
          refine ⟨?_, fun k hk hkl => ?_⟩
          · rw [← hWb]; exact Nat.le_trans hka.1 (grownBy_putObj' Wa _ _).size
          · rw [← hWb]
            refine (World.putObj_heap_other (fun e => ?_)).trans (hka.2 k (hk.elim .inl (fun h => .inr (.inl h))) hkl)
            rcases hk with h5 | h5
            · have := hR k h5; omega
            · exact hbk.nl (e ▸ h5)
        rw [hWb]
        refine wpIn_mono hpb ?_
        have fin : ∀ (jump : Option Code) (W3 : World), Keep (fun k => R k ∨ (X k ∨ k = w.heap.size + 1 ∨ k = w.heap.size)) Wb W3 →
            (Instr.endRound (w.heap.size + 1) jump).run P W3 = .ok (.bool jump.isNone) (W3.putObj (w.heap.size + 1) (.loop (rec (if jump.isNone then .ready else .done) jump))) ∧
            Stp (fun k => X k ∨ k = w.heap.size + 1 ∨ k = w.heap.size) (fun k => X k ∨ k = w.heap.size + 1 ∨ k = w.heap.size) W3 (W3.putObj (w.heap.size + 1) (.loop (rec (if jump.isNone then .ready else .done) jump))) ∧
            Book X (w.heap.size + 1) w.heap.size (rec (if jump.isNone then .ready else .done) jump) (W3.putObj (w.heap.size + 1) (.loop (rec (if jump.isNone then .ready else .done) jump))) ∧
            Keep (fun k => R k ∨ X k) W (W3.putObj (w.heap.size + 1) (.loop (rec (if jump.isNone then .ready else .done) jump))) := fun jump W3 hk3 => by
          have hl3 := (hk3.2 _ (.inr (.inr (.inl rfl))) (Array.getElem?_eq_some_iff.1 hlb).1).trans hlb
          have hD3 := (hk3.2 _ (.inr (.inr (.inr rfl))) (Array.getElem?_eq_some_iff.1 hDb).1).trans hDb
          have he := run_endRound (P := P) jump hl3
          rw [hrec] at he ⊢
          refine ⟨he, Stp.putObj _ (.inr (.inl rfl)), ⟨World.putObj_heap_same (Array.getElem?_eq_some_iff.1 hl3).1, (World.putObj_heap_other (by omega)).trans hD3, hbk.nl, hbk.nD⟩, ?_⟩
          refine ⟨Nat.le_trans hkb.1 (Nat.le_trans hk3.1 (grownBy_putObj' W3 _ _).size), fun k hk hkl => ?_⟩
          refine (World.putObj_heap_other (fun e => ?_)).trans ((hk3.2 k (hk.elim .inl (fun h => .inr (.inl h))) (Nat.lt_of_lt_of_le hkl hkb.1)).trans (hkb.2 k hk hkl))
          rcases hk with h5 | h5
          · have := hR k h5; omega
          · exact hbk.nl (e ▸ h5)
        rintro e a3 W3 hp
        cases e with
        | normal =>
          obtain ⟨hk3, hi3⟩ := hp
          obtain ⟨hr, hs, hb, hk⟩ := fin none W3 hk3
          exact ⟨_, _, hr, .inl ⟨rfl, ⟨hJ _ _ _ _ _ hi3 hs, hb⟩, hk⟩⟩
        | ret =>
          obtain ⟨hk3, hi3⟩ := hp
          obtain ⟨hr, hs, hb, hk⟩ := fin (some .ret) W3 hk3
          exact ⟨_, _, hr, .inr ⟨rfl, .ret, hJx _ _ _ _ _ _ hi3 hs, hb⟩⟩
        | exit id =>
          obtain ⟨hk3, hi3⟩ := hp
          obtain ⟨hr, hs, hb, hk⟩ := fin (some (.exit id)) W3 hk3
          exact ⟨_, _, hr, .inr ⟨rfl, .exit id, hJx _ _ _ _ _ _ hi3 hs, hb⟩⟩
        | goto t =>
          obtain ⟨hk3, hi3⟩ := hp
          obtain ⟨hr, hs, hb, hk⟩ := fin (some (.goto t)) W3 hk3
          exact ⟨_, _, hr, .inr ⟨rfl, .goto t, hJx _ _ _ _ _ _ hi3 hs, hb⟩⟩
        | panic ch => exact hp.elim
        | outgrown => exact hp.elim
      | _ => exact hpost.elim
    · refine hJ _ _ _ _ _ hJ1 ⟨rfl, rfl, rfl, Nat.le_refl _, fun _ _ _ => rfl, fun k hk => ?_, fun k hk => .inl ?_⟩
      · rcases hk with (h5 | h5) | h5
        · exact h5.elim
        · exact .inr (.inr h5)
        · exact .inr (.inl h5)
      · rcases hk with h5 | h5 | h5
        · exact h5.elim
        · exact .inr h5
        · exact .inl (.inr h5)
    · -- behind the iterator
      rintro e W2 ⟨⟨v, rfl⟩, (⟨xs, X, hS, hj, hbk⟩ | ⟨pre, X, hSp, c, hj, hbk⟩)⟩
      · have he := run_endLoop (P := P) hbk.lp (by rw [hrec]; simp)
        rw [hrec] at he
        exact ⟨none, _, he, hdone _ xs _ _ (Nat.le_refl _) hS (hJ _ _ _ _ _ hj (Stp.putObj _ (.inr (.inl rfl)))) (.inr (.inr rfl)) ((World.putObj_heap_other (by omega)).trans hbk.def_)⟩
      · have he := run_endLoop (P := P) hbk.lp (by rw [hrec]; simp)
        rw [hrec] at he
        exact ⟨some c, _, he, hstop _ c pre _ _ (Nat.le_refl _) hSp (hJx _ _ _ _ _ _ hj (Stp.putObj _ (.inr (.inl rfl)))) (.inr (.inr rfl)) ((World.putObj_heap_other (by omega)).trans hbk.def_)⟩
end
end Go.Proofs.Ytmfdflfjllpceaa

/- Regions that draw their order in the wide fence, outside of a round (an iterator's own code). Over any program. -/
namespace Go.Proofs.Ytmfdflfjllpceaa
open Go.RowKit
variable {P : Program} {n l : Nat} {ops : Array Oper} {Q : Exit → Act → World → Prop} {a : Act} {w : World}

theorem wpInW_of_wp_op {o : Oper} {K : Act → World → Prop} (hd : ∀ c, o.op ≠ .defer c) (h : o.wp P a w K Q) : o.wpIn FW n P a w K Q := by
  refine ⟨fun _ _ => trivial, ?_⟩
  rw [Oper.semAt_eq _ _ _ hd]
  unfold Oper.wp at h
  generalize (execOp a.eval o).run P w = r at h ⊢
  cases r with
  | ok x w' =>
    cases x with
    | enter f args => exact ⟨fun h => by simp [Fence.wide] at h, callsIn_wide.2 h⟩
    | row r args => exact ⟨fun h => by simp [Fence.wide] at h, fun c cs _ => let ⟨v, w', r, s⟩ := h c cs; ⟨v, w', r, stepsIn_wide.2 s⟩⟩
    | round => exact (show False from h).elim
    | _ => exact h
  | halt x w' => cases x <;> exact h
theorem wpOpsInW_of_wpOps (hd : ∀ (i : Nat) (o : Oper), ops[i]? = some o → ∀ c, o.op ≠ .defer c) (hQ : ¬ LetsOut Q) (is : List Nat) : ∀ (a : Act) (w : World), wpOps P ops Q is a w → wpOpsIn FW n P ops Q is a w := by
  induction is with
  | nil => exact fun _ _ h => h
  | cons i is hK =>
    intro a w h
    unfold wpOps at h
    unfold wpOpsIn
    cases ho : ops[i]? with
    | none => simp only [ho] at h ⊢; exact hK a w h
    | some o =>
      simp only [ho] at h ⊢
      split
      · rename_i hw
        rw [if_pos hw] at h
        rcases h with h | h
        · exact Oper.wpIn_mono hK (wpInW_of_wp_op (hd i o ho) h)
        · exact absurd h.2 hQ
      · rename_i hw
        rw [if_neg hw] at h
        exact ⟨fun _ _ => trivial, hK _ _ h⟩
theorem wpInW_region_any {id : Nat} (hm : P.follows .mixedOrders = true) (hd : ∀ (i : Nat) (o : Oper), ops[i]? = some o → ∀ c, o.op ≠ .defer c) (hQ : ¬ LetsOut Q)
    (h : wpAny P .any ops Q ops.size (Array.replicate ops.size false) a { w with drawn := w.drawn + 1 }) : (Code.region id ops true).wpIn FW n P Q a w :=
  wpIn_region_draw fun t => by
    simp only [Region.schedule, hm, Bool.true_or, if_true]
    exact wpOpsInW_of_wpOps hd hQ _ _ _ (wpAny_sound ops.size t _ a _ h)
/-- The law of Derived/StillTail.lean (a quiet head, then a tail whose order is forced), in a round. -/
theorem wpInW_region_still_tail {id : Nat} {l' : List Oper} (m : Nat) (hm : P.follows .mixedOrders = true) (hB : Region.lexTailB .any l'.toArray m = true) (hd : noDefer l' = true) (hQ : ¬ LetsOut Q)
    (h : wpStill P l'.toArray w.drew (fun a' => wpList P l'.toArray Q (l'.drop m) a' w.drew) (l'.take m) a) : (Code.region id l'.toArray true).wpIn FW n P Q a w := by
  simp only [Region.lexTailB, Bool.and_eq_true, decide_eq_true_eq] at hB
  obtain ⟨⟨⟨⟨hsel, hn⟩, hs⟩, hc⟩, hlex⟩ := hB
  have hn' : m < l'.length := by simpa using hn
  have htl : (l'.take m).length = m := by simp; omega
  have hdl : (l'.drop m).length = l'.toArray.size - m := by simp
  have inv0 : HeadInv .any l'.toArray m (Array.replicate l'.toArray.size false) :=
    ⟨by simp, fun j oj _ hl => (by rw [getD_replicate_false] at hl; cases hl), fun t _ ht => getD_in (by simpa using ht) (getD_replicate_false _ _)⟩
  have H := wpAnyL_lex (md := .any) (g := l'.toArray.size - m) hsel hs hc hn (l'.take m) 0 _ a (fun j hj => by
    have hj' : j < m := by rw [htl] at hj; exact hj
    simp [hj']) (by simpa using htl) inv0 (by rw [htl]; exact hlex) h
  refine wpInW_region_any hm (noDefer_spec hd) hQ ?_
  have := wpAny_of_head (Q' := Q) (g := l'.toArray.size - m) (fun listed a' hL => by
    have := wpAny_of_seq (md := .any) (Q' := Q) (l'.drop m) m listed a' { w with drawn := w.drawn + 1 } (fun j => by simp [List.getElem?_drop]) (by rw [hdl]; exact hL.1) hL.2
    rwa [hdl] at this) _ _ _ H
  rw [htl, show m + (l'.toArray.size - m) = l'.toArray.size by omega] at this
  exact this
/-- The law of 'wp_region_ext', in a round. -/
theorem wpInW_region_ext {id : Nat} {l' : List Oper} (hm : P.follows .mixedOrders = true) (hB : Region.lexB .any l'.toArray = true) (hd : noDefer l' = true) (hQ : ¬ LetsOut Q)
    (h : wpQuiet P l'.toArray (fun w' => ∃ x : Ext w, w' = x.W) (fun a' => ∀ w', (∃ x : Ext w, w' = x.W) → Q .normal a' w') l' a) : (Code.region id l'.toArray true).wpIn FW n P Q a w := by
  simp only [Region.lexB, Bool.and_eq_true] at hB
  refine wpInW_region_any hm (noDefer_spec hd) hQ (wpAny_of_quiet (C := fun w' => ∃ x : Ext w, w' = x.W) (Q := fun a' => ∀ w', (∃ x : Ext w, w' = x.W) → Q .normal a' w') (fun _ w' hw' h => h w' hw') _ _ _ _ ⟨⟨_, (Below.refl _ w).drew⟩, rfl⟩ ?_)
  have := wpAnyQ_lex (C := fun w' => ∃ x : Ext w, w' = x.W) (md := .any) hB.1 l' 0 (Array.replicate l'.toArray.size false) a (by simp) (by simpa using hB.2) h
  simpa using this
/-- In the wide fence. -/
theorem wpInW_region_ext_tail {P : Program} {Q : Exit → Act → World → Prop} (n : Nat) {id m _l : Nat} {l' : List Oper} {a : Act} {w : World} (hm : P.follows .mixedOrders = true) (hB : tailB (l'.take n) (l'.drop n) = true)
    (hd : noDefer l' = true) (hQ : ¬ LetsOut Q)
    (h : wpQuiet P (l'.take n).toArray (fun w' => ∃ x : Ext w, w' = x.W) (fun a' => ∀ w', (∃ x : Ext w, w' = x.W) → wpList P l'.toArray Q (l'.drop n) a' w') (l'.take n) a) :
    (Code.region id l'.toArray true).wpIn FW m P Q a w := wpInW_region_any hm (noDefer_spec hd) hQ (wpAny_ext_tail n hB h)

/-- Whatever the post says of other ways out: a region whose operations go through. -/
theorem wpInW_region_still_tail' {id : Nat} {l' : List Oper} (m : Nat) (hm : P.follows .mixedOrders = true) (hB : Region.lexTailB .any l'.toArray m = true) (hd : noDefer l' = true)
    (h : wpStill P l'.toArray w.drew (fun a' => wpList P l'.toArray (Exit.then (fun a w => Q .normal a w) (fun _ _ _ => False)) (l'.drop m) a' w.drew) (l'.take m) a) : (Code.region id l'.toArray true).wpIn FW n P Q a w :=
  wpIn_mono (wpInW_region_still_tail (Q := Exit.then (fun a w => Q .normal a w) (fun _ _ _ => False)) m hm hB hd (by rintro ⟨_, _, h⟩; exact h) h) (fun e a w h => by cases e <;> first | exact h | exact (h : False).elim)
theorem wpInW_region_ext_tail' {id : Nat} {l' : List Oper} (m : Nat) (hm : P.follows .mixedOrders = true) (hB : tailB (l'.take m) (l'.drop m) = true) (hd : noDefer l' = true)
    (h : wpQuiet P (l'.take m).toArray (fun w' => ∃ x : Ext w, w' = x.W) (fun a' => ∀ w', (∃ x : Ext w, w' = x.W) → wpList P l'.toArray (Exit.then (fun a w => Q .normal a w) (fun _ _ _ => False)) (l'.drop m) a' w') (l'.take m) a) :
    (Code.region id l'.toArray true).wpIn FW n P Q a w :=
  wpIn_mono (wpInW_region_ext_tail (_l := 0) (Q := Exit.then (fun a w => Q .normal a w) (fun _ _ _ => False)) m hm hB hd (by rintro ⟨_, _, h⟩; exact h) h) (fun e a w h => by cases e <;> first | exact h | exact (h : False).elim)
theorem wpInW_region_ext' {id : Nat} {l' : List Oper} (hm : P.follows .mixedOrders = true) (hB : Region.lexB .any l'.toArray = true) (hd : noDefer l' = true)
    (h : wpQuiet P l'.toArray (fun w' => ∃ x : Ext w, w' = x.W) (fun a' => ∀ w', (∃ x : Ext w, w' = x.W) → Q .normal a' w') l' a) : (Code.region id l'.toArray true).wpIn FW n P Q a w :=
  wpIn_mono (wpInW_region_ext (Q := Exit.then (fun a w => Q .normal a w) (fun _ _ _ => False)) hm hB hd (by rintro ⟨_, _, h⟩; exact h) h) (fun e a w h => by cases e <;> first | exact h | exact (h : False).elim)
end Go.Proofs.Ytmfdflfjllpceaa
