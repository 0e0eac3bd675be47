/- Layer 44: Lay. -/
import Derived.Test.YteconepbhajjeaaOvC
import Derived.Test.YteconepbhajjeaaOvDL
namespace Go.Proofs.Yteconepbhajjeaa
open Go.RowKit Go.Shelf
attribute [local go_sem] Oper.semAt_some

/-- An append whose equation is known, inside a fence. -/
theorem wpListIn_append_eq {F : Fence} {n : Nat} {P : Program} {w w' : World} {ops : Array Oper} {rest : List Oper} {o : Oper} {a : Act} {Q : Exit → Act → World → Prop} {v v1 v2 : Value}
    (hg : o.guard = none) (s x : Operand) (t : TypeId) (hop : o.op = Op.call { callee := Callee.builtin Builtin.append, args := #[s, x], argTypes := #[t, t] }) (hs : a.eval s = v1) (hx : a.eval x = v2)
    (hrun : (Builtin.append_ #[t, t] o.type #[v1, v2]).run P w = .ok v w') (h : wpListIn F n P ops Q rest (a.put o.dst v) w') : wpListIn F n P ops Q (o :: rest) a w := by
  refine wpListIn_plain hg fun K hK' => ?_
  unfold Oper.wpIn
  refine ⟨?_, ?_⟩
  · simp [Oper.about, hop, resolve, Target.leads, Sem.run_pure]
  · rw [Oper.semAt_eq _ _ _ (by rw [hop]; intro c hc'; cases hc')]
    simp [execOp, hop, resolve, invoke, builtin, hs, hx, hrun, Result.andThen]
    exact hK' _ _ h
theorem wpIn_region_still_tailR {P : Program} {Q : Exit → Act → World → Prop} {id n l : Nat} {l' : List Oper} {a : Act} {w : World} (m : Nat) (hm : P.follows .mixedOrders = true) (hB : Region.lexTailB .any l'.toArray m = true) (hd : noDefer l' = true) (hQ : ¬ LetsOut Q)
    (h : wpStill P l'.toArray w.drew (fun a' => wpList P l'.toArray Q (l'.drop m) a' w.drew) (l'.take m) a) : (Code.region id l'.toArray true).wpIn (FW.inRound l) n P Q a w := by
  simp only [Region.lexTailB, Bool.and_eq_true, decide_eq_true_eq] at hB
  obtain ⟨⟨⟨⟨hsel, hn⟩, hs⟩, hc⟩, hlex⟩ := hB
  have hn' : m < l'.length := by simpa using hn
  have htl : (l'.take m).length = m := by simp; omega
  have hdl : (l'.drop m).length = l'.toArray.size - m := by simp
  have inv0 : HeadInv .any l'.toArray m (Array.replicate l'.toArray.size false) :=
    ⟨by simp, fun j oj _ hl => (by rw [getD_replicate_false] at hl; cases hl), fun t _ ht => getD_in (by simpa using ht) (getD_replicate_false _ _)⟩
  have H := wpAnyL_lex (md := .any) (g := l'.toArray.size - m) hsel hs hc hn (l'.take m) 0 _ a (fun j hj => by
    have hj' : j < m := by rw [htl] at hj; exact hj
    simp [hj']) (by simpa using htl) inv0 (by rw [htl]; exact hlex) h
  refine wpIn_region_any hm (noDefer_spec hd) hQ ?_
  have := wpAny_of_head (Q' := Q) (g := l'.toArray.size - m) (fun listed a' hL => by
    have := wpAny_of_seq (md := .any) (Q' := Q) (l'.drop m) m listed a' { w with drawn := w.drawn + 1 } (fun j => by simp [List.getElem?_drop]) (by rw [hdl]; exact hL.1) hL.2
    rwa [hdl] at this) _ _ _ H
  rw [htl, show m + (l'.toArray.size - m) = l'.toArray.size by omega] at this
  exact this
theorem ordTo_of {l : List Spn} (h : inOrdS l = true) : OrdTo l l.length ∧ l.length ≤ 65536 := by
  unfold inOrdS at h
  rw [Bool.and_eq_true] at h
  refine ⟨fun k s _ hk => ?_, by simpa using h.2⟩
  have := (ordL_iff l 0).1 h.1 k s hk
  rcases Nat.eq_zero_or_pos k with h0 | h0
  · subst h0; simpa [endAt] using this
  · rwa [if_neg (by omega)] at this
/-- What the runs of ordered spans keep. -/
def RnOk (m : Int) (r : Rn) : Prop := 0 ≤ r.frm ∧ 1 ≤ r.many ∧ r.frm + r.many ≤ m ∧ 0 ≤ r.song ∧ r.song ≤ 2199023255552
theorem runs_ok {l : List Spn} {h m : Int} (ho : OrdTo l l.length) : ∀ r ∈ runsS l h m, RnOk m r := by
  intro r hr
  unfold runsS at hr
  rw [List.mem_filterMap] at hr
  obtain ⟨s, hs, hr⟩ := hr
  obtain ⟨k, hk⟩ := List.mem_iff_getElem?.1 hs
  have hkl := (List.getElem?_eq_some_iff.1 hk).1
  obtain ⟨i1, i2, i3, i4, i5, i6⟩ := ord_bounds ho hkl hk
  unfold runOf at hr
  split at hr
  · injection hr with hr
    subst hr
    unfold RnOk
    dsimp only
    rename_i h5
    obtain ⟨h5, _⟩ := h5
    omega
  · cases hr
def LdOk (m : Int) (k : Nat) (b : Ld) : Prop := 0 ≤ b.frm ∧ 1 ≤ b.len ∧ b.frm + b.len ≤ m ∧ 0 ≤ b.at_ ∧ b.at_ ≤ 2199023255552 ∧ 0 ≤ b.pass ∧ b.pass ≤ k
theorem LdOk.mono {m : Int} {k j : Nat} {b : Ld} (h : LdOk m k b) (hj : k ≤ j) : LdOk m j b := ⟨h.1, h.2.1, h.2.2.1, h.2.2.2.1, h.2.2.2.2.1, h.2.2.2.2.2.1, by have := h.2.2.2.2.2.2; omega⟩
theorem addRun_ok {x : List Ld} {r : Rn} {m : Int} {k : Nat} (hx : ∀ b ∈ x, LdOk m k b) (hr : RnOk m r) : ∀ b ∈ addRun x r, LdOk m (k + 1) b := by
  obtain ⟨r1, r2, r3, r4, r5⟩ := hr
  intro b hb
  unfold addRun at hb
  cases hl : x.getLast? with
  | none =>
    rw [hl] at hb
    simp only [List.mem_singleton] at hb
    subst hb
    exact ⟨r1, r2, r3, r4, r5, Int.le_refl _, by show (0 : Int) ≤ ((k + 1 : Nat) : Int); omega⟩
  | some y =>
    rw [hl] at hb
    have hy := hx y (List.mem_of_getLast? hl)
    obtain ⟨y1, y2, y3, y4, y5, y6, y7⟩ := hy
    dsimp only at hb
    split at hb
    · rename_i h5
      rcases List.mem_append.1 hb with h6 | h6
      · exact (hx b ((List.dropLast_sublist x).subset h6)).mono (by omega)
      · rw [List.mem_singleton] at h6
        subst h6
        exact ⟨y1, by show 1 ≤ y.len + r.many; omega, by show y.frm + (y.len + r.many) ≤ m; omega, y4, y5, y6, by show y.pass ≤ ((k + 1 : Nat) : Int); omega⟩
    · rcases List.mem_append.1 hb with h6 | h6
      · exact (hx b h6).mono (by omega)
      · rw [List.mem_singleton] at h6
        subst h6
        refine ⟨r1, r2, r3, r4, r5, ?_, ?_⟩
        · show 0 ≤ (if r.song < y.at_ + y.len then y.pass + 1 else y.pass)
          split <;> omega
        · show (if r.song < y.at_ + y.len then y.pass + 1 else y.pass) ≤ ((k + 1 : Nat) : Int)
          split <;> omega
theorem layRuns_snoc (rs : List Rn) (r : Rn) : layRuns (rs ++ [r]) = addRun (layRuns rs) r := by simp [layRuns]
theorem foldRuns_ok {m : Int} (rs : List Rn) : ∀ (x : List Ld) (k : Nat), (∀ b ∈ x, LdOk m k b) → (∀ r ∈ rs, RnOk m r) → ∀ b ∈ rs.foldl addRun x, LdOk m (k + rs.length) b := by
  induction rs with
  | nil => intro x k hx _ b hb; exact hx b hb
  | cons r rs ih =>
    intro x k hx hr b hb
    have := ih (addRun x r) (k + 1) (addRun_ok hx (hr r (List.mem_cons_self ..))) (fun q hq => hr q (List.mem_cons_of_mem _ hq)) b hb
    rwa [List.length_cons, show k + (rs.length + 1) = k + 1 + rs.length by omega]
theorem layRuns_ok {m : Int} (rs : List Rn) (h : ∀ r ∈ rs, RnOk m r) : ∀ b ∈ layRuns rs, LdOk m rs.length b := by
  have := foldRuns_ok rs [] 0 (by intro b hb; cases hb) h
  rwa [Nat.zero_add] at this
theorem runs_len (l : List Spn) (h m : Int) : (runsS l h m).length ≤ l.length := List.length_filterMap_le _ _

theorem set_last {α : Type} {l : List α} {k : Nat} {y : α} (h : l.length = k + 1) : l.dropLast ++ [y] = l.set k y := by
  rw [List.set_eq_take_append_cons_drop, if_pos (by omega), List.drop_of_length_le (by omega), List.dropLast_eq_take, h]
  rfl
theorem addRun_len (x : List Ld) (r : Rn) : (addRun x r).length ≤ x.length + 1 := by
  unfold addRun
  cases x.getLast? with
  | none => simp
  | some b =>
    dsimp only
    split
    · simp
    · simp
theorem foldRuns_len (rs : List Rn) : ∀ (x : List Ld), (rs.foldl addRun x).length ≤ x.length + rs.length := by
  induction rs with
  | nil => intro x; simp
  | cons r rs ih =>
    intro x
    have h1 := ih (addRun x r)
    have h2 := addRun_len x r
    simp only [List.foldl_cons, List.length_cons]
    omega
theorem layRuns_len (rs : List Rn) : (layRuns rs).length ≤ rs.length := by simpa [layRuns] using foldRuns_len rs []
theorem OA.far {α : Type} {e : Enc α} {w : World} {B : Nat} {A : Option Addr} {n c : Nat} {l : List α} (h : OA e w B A n c l) {p : Addr} (hp : p.block < B) (v : Value) : OA e (w.setCell p v) B A n c l := by
  refine ⟨⟨h.own.1, ?_⟩⟩
  rcases h.own.2 with h2 | ⟨g, cap, cur, hv, hB, hh, h3⟩
  · exact .inl h2
  · exact .inr ⟨g, cap, cur, hv, hB, (Below.heap_setCell _ _ _ g (by omega)).trans hh, h3⟩
theorem OA.mono {α : Type} {e : Enc α} {w : World} {B C : Nat} {A : Option Addr} {n c : Nat} {l : List α} (h : OA e w B A n c l) (hc : C ≤ B) : OA e w C A n c l := by
  refine ⟨⟨h.own.1, ?_⟩⟩
  rcases h.own.2 with h2 | ⟨g, cap, cur, hv, hB, hh, h3⟩
  · exact .inl h2
  · exact .inr ⟨g, cap, cur, hv, Nat.le_trans hc hB, hh, h3⟩
def LayRet (w : World) (l : List Spn) (st n i o : Int) (e : Ending) (w' : World) : Prop :=
  ∃ A' n' c', e = .returned (.tuple #[.slice A' n' c', .int .i64 (layR l st n i o).2]) ∧ OA laidE w' w.heap.size A' n' c' (layR l st n i o).1 ∧ Below w.heap.size w w'
set_option maxHeartbeats 4000000 in
theorem lay_bad (A : Option Addr) (n c : Nat) (l : List Spn) (st nn i o : Int) (w : World) (h : SA spanE w A n c l) (hb : ¬ LayOk l st nn i o) :
    Calls Try.prog 10 #[.slice A n c, .int .i64 st, .int .i64 nn, .int .i64 i, .int .i64 o] w (LayRet w l st nn i o) := by
  have C := inOrder_any A n c l (w.alloc (.cells #[.slice none 0 0] 24)) (h.alloc _)
  have hB := (Below.refl w.heap.size w).alloc (Nat.le_refl _) (.cells #[.slice none 0 0] 24)
  have hx := Blk.new w 24 #[.slice none 0 0]
  have hR : layR l st nn i o = ([], 1) := by unfold layR; rw [if_neg hb]
  obtain ⟨mn, hmn⟩ : ∃ mn, (if o < i then o else i) = mn := ⟨_, rfl⟩
  obtain ⟨mx, hmx⟩ : ∃ mx, (if i < o then o else i) = mx := ⟨_, rfl⟩
  obtain ⟨b1, e1⟩ : ∃ b, inOrdS l = b := ⟨_, rfl⟩
  obtain ⟨b2, e2⟩ : ∃ b, decide (st < 0) = b := ⟨_, rfl⟩
  obtain ⟨b3, e3⟩ : ∃ b, decide (1099511627776 < st) = b := ⟨_, rfl⟩
  obtain ⟨b4, e4⟩ : ∃ b, decide (nn < 0) = b := ⟨_, rfl⟩
  obtain ⟨b5, e5⟩ : ∃ b, decide (16777216 < nn) = b := ⟨_, rfl⟩
  obtain ⟨b6, e6⟩ : ∃ b, decide (mn < 0) = b := ⟨_, rfl⟩
  obtain ⟨b7, e7⟩ : ∃ b, decide (1048576 < mx) = b := ⟨_, rfl⟩
  have hc : b1 = false ∨ (b1 = true ∧ b2 = true) ∨ (b1 = true ∧ b2 = false ∧ b3 = true) ∨ (b1 = true ∧ b2 = false ∧ b3 = false ∧ b4 = true) ∨ (b1 = true ∧ b2 = false ∧ b3 = false ∧ b4 = false ∧ b5 = true) ∨
      (b1 = true ∧ b2 = false ∧ b3 = false ∧ b4 = false ∧ b5 = false ∧ b6 = true) ∨ (b1 = true ∧ b2 = false ∧ b3 = false ∧ b4 = false ∧ b5 = false ∧ b6 = false ∧ b7 = true) := by
    cases b1 <;> cases b2 <;> cases b3 <;> cases b4 <;> cases b5 <;> cases b6 <;> cases b7 <;> first
      | (simp; done)
      | exact absurd ⟨e1, by simp at e2; exact e2, by simp at e3; exact e3, by simp at e4; exact e4, by simp at e5; exact e5, by simp at e6; split at hmn <;> omega, by simp at e7; split at hmx <;> omega, by simp at e6; split at hmn <;> omega, by simp at e7; split at hmx <;> omega⟩ hb
  clear hb
  rw [e1] at C
  rcases hc with rfl | ⟨rfl, rfl⟩ | ⟨rfl, rfl, rfl⟩ | ⟨rfl, rfl, rfl, rfl⟩ | ⟨rfl, rfl, rfl, rfl, rfl⟩ | ⟨rfl, rfl, rfl, rfl, rfl, rfl⟩ | ⟨rfl, rfl, rfl, rfl, rfl, rfl, rfl⟩
  all_goals
    go_enter Try.func10, Try.ntmps10
    go_wp2_with (go_at_call 23; refine C.mono ?_; rintro e w1 ⟨rfl, hh⟩; have hx1 := hx.belowAll hh; have hB1 := Bel.on0 hB hh; have cx := hx1.cell 0; have fx := hx1.frozen 0; simp at cx; have cy := (hx1.set_ 0 (.slice none 0 0)).cell 0; simp at cy; clear hh)
    refine bodyPost_ret (v := .tuple #[.slice none 0 0, .int .i64 1]) (by simp [results, Try.results10, go_sem, cy]) rfl ⟨none, 0, 0, by rw [hR], by rw [hR]; exact OA.nil _ _ _, hB1.setCell (by show w.heap.size ≤ w.heap.size; omega) _⟩
theorem OA.stp {α : Type} {e : Enc α} {W W' : World} {X X' : Nat → Prop} {B : Nat} {A : Option Addr} {n c : Nat} {l : List α} (h : OA e W B A n c l) (hs : Stp X X' W W') (hX : ∀ a, A = some a → ¬ X a.block) : OA e W' B A n c l := by
  refine ⟨⟨h.own.1, ?_⟩⟩
  rcases h.own.2 with h2 | ⟨g, cap, cur, hv, hB, hh, h3⟩
  · exact .inl h2
  · refine .inr ⟨g, cap, cur, hv, hB, ?_, h3⟩
    injection hv with e1 e2 e3
    subst e1
    exact hs.blk (t := e.E) (cs := cur) (hX _ rfl) hh
/-- What Lay's loop keeps: its result lies in box Bx, what it has laid in a block from S3 on that is none of the iterator's. -/
def LayJ (w : World) (Bx S3 : Nat) (pre : List Rn) (X : Nat → Prop) (W : World) : Prop :=
  (∃ A n c, Blk W Bx 24 #[.slice A n c] ∧ OA laidE W S3 A n c (layRuns pre) ∧ ∀ a, A = some a → ¬ X a.block) ∧ Below Bx w W ∧ S3 ≤ W.heap.size ∧ ∀ k, X k → S3 ≤ k ∧ k < W.heap.size
theorem LayJ.abides (w : World) (Bx S3 : Nat) (h : Bx < S3) : AbidesX (LayJ w Bx S3) := by
  rintro pre X X' W W' ⟨⟨A, n, c, h1, h2, h3⟩, h4, h5, h6⟩ hp
  have hb : Below S3 W W' := hp.below (fun k hk => (h6 k hk).1) h5
  refine ⟨⟨A, n, c, h1.below hb h, h2.stp hp h3, fun a ha hx => ?_⟩, h4.trans (hb.mono (by omega)), Nat.le_trans h5 hp.size, fun k hk => (hp.new k hk).elim (fun h => ⟨(h6 k h).1, Nat.lt_of_lt_of_le (h6 k h).2 hp.size⟩) (fun h => ⟨Nat.le_trans h5 h.1, h.2⟩)⟩
  rcases hp.new _ hx with h7 | ⟨h7, _⟩
  · exact h3 a ha h7
  · rcases h2.own.2 with ⟨hv, _⟩ | ⟨g, cap, cur, hv, hB, hh, _⟩
    · injection hv with e1; rw [e1] at ha; cases ha
    · injection hv with e1
      rw [e1] at ha
      injection ha with ha
      have := Blk.lt (t := laidE.E) (cs := cur) hh
      rw [← ha] at h7
      simp only at h7
      omega

theorem lay_app {w W2 W3 : World} {Bx S3 no co : Nat} {Ao Al : Option Addr} {x : List Ld} {y : Ld} {pre' : List Rn} {X Y : Nat → Prop} (hBS : Bx < S3) (hBx : Blk W2 Bx 24 #[.slice Ao no co]) (hOA : OA laidE W2 S3 Ao no co x) (hnX : ∀ a, Ao = some a → ¬ X a.block)
    (hBel : Below Bx w W2) (hS3 : S3 ≤ W2.heap.size) (hXr : ∀ k, X k → S3 ≤ k ∧ k < W2.heap.size) (hb : Below W2.heap.size W2 W3) (hs : SA laidE W3 Al 1 1 [y]) (hx : layRuns pre' = x ++ [y]) (hno : no ≤ 1000000) (hw : Bx ≤ w.heap.size)
    (hY : ∀ k, Y k → (k < S3 ∧ k ≠ Bx) ∨ X k) :
    ∃ A' c' w', (Builtin.append_ #[24, 24] 24 #[.slice Ao no co, .slice Al 1 1]).run Try.prog W3 = .ok (.slice A' (no + 1) c') w' ∧ Blk w' Bx 24 #[.slice Ao no co] ∧
      Keep Y W2 (w'.setCell ⟨Bx, 0, none⟩ (.slice A' (no + 1) c')) ∧ LayJ w Bx S3 pre' X (w'.setCell ⟨Bx, 0, none⟩ (.slice A' (no + 1) c')) := by
  have h3 : S3 ≤ W3.heap.size := Nat.le_trans hS3 hb.size
  obtain ⟨A', c', w', e1, e2, e3, e4, e5⟩ := (hOA.below hb).app hs h3 (by omega)
  have hao : ∀ a, Ao = some a → S3 ≤ a.block ∧ a.block < W2.heap.size := by
    intro a ha
    rcases hOA.own.2 with ⟨hv, _⟩ | ⟨g, cap, cur, hv, hB, hh, _⟩
    · injection hv with e1; rw [e1] at ha; cases ha
    · injection hv with e1
      rw [e1] at ha
      injection ha with ha
      subst ha
      exact ⟨hB, Blk.lt (t := laidE.E) (cs := cur) hh⟩
  have hblk : ∀ k, k < W2.heap.size → (∀ a, Ao = some a → k ≠ a.block) → w'.heap[k]? = W2.heap[k]? := fun k hk hne => (e4 k (Nat.lt_of_lt_of_le hk hb.size) hne).trans (hb.block k hk)
  have hB' : Blk w' Bx 24 #[.slice Ao no co] := (hblk Bx (by omega) (fun a ha => by have := (hao a ha).1; omega)).trans hBx
  have hsz : (w'.setCell ⟨Bx, 0, none⟩ (.slice A' (no + 1) c')).heap.size = w'.heap.size := by simp [World.setCell]
  refine ⟨A', c', w', e1, hB', ⟨by rw [hsz]; exact Nat.le_trans hb.size e3.size, fun k hk hkl => ?_⟩, ⟨A', no + 1, c', ?_, ?_, ?_⟩, ?_, ?_, ?_⟩
  · have hkB : k ≠ Bx := by
      rcases hY k hk with h5 | h5
      · exact h5.2
      · have := (hXr k h5).1; omega
    rw [Below.heap_setCell _ _ _ k hkB]
    refine hblk k hkl (fun a ha hka => ?_)
    rcases hY k hk with h5 | h5
    · have := (hao a ha).1; omega
    · exact hnX a ha (hka ▸ h5)
  · have := hB'.set_ 0 (.slice A' (no + 1) c')
    simpa using this
  · rw [hx]
    refine ⟨⟨e2.own.1, ?_⟩⟩
    rcases e2.own.2 with h2 | ⟨g, cap, cur, hv, hB, hh, h3⟩
    · exact .inl h2
    · exact .inr ⟨g, cap, cur, hv, hB, (Below.heap_setCell _ _ _ g (by show g ≠ Bx; omega)).trans hh, h3⟩
  · intro a' ha' hX
    rcases e5 a' ha' with ⟨a, ha, hab⟩ | h5
    · exact hnX a ha (hab ▸ hX)
    · have h6 := (hXr _ hX).2
      have h7 := hb.size
      omega
  · have h8 : Below Bx w W3 := hBel.trans (hb.mono (by omega))
    exact (h8.trans (e3.mono (by omega))).setCell (by show Bx ≤ Bx; omega) _
  · rw [hsz]; exact Nat.le_trans h3 e3.size
  · intro k hk
    refine ⟨(hXr k hk).1, ?_⟩
    rw [hsz]
    exact Nat.lt_of_lt_of_le (hXr k hk).2 (Nat.le_trans hb.size e3.size)
theorem lay_ext {w W2 W3 : World} {Bx S3 no co k : Nat} {Ao : Option Addr} {x : List Ld} {b b' : Ld} {pre' : List Rn} {X Y : Nat → Prop} (hBS : Bx < S3) (hBx : Blk W2 Bx 24 #[.slice Ao no co]) (hOA : OA laidE W2 S3 Ao no co x) (hnX : ∀ a, Ao = some a → ¬ X a.block)
    (hBel : Below Bx w W2) (hS3 : S3 ≤ W2.heap.size) (hXr : ∀ k, X k → S3 ≤ k ∧ k < W2.heap.size) (hb : Below W2.heap.size W2 W3) (hk : k < no) (hbx : x[k]? = some b) (hb' : b' = ⟨b.frm, b'.len, b.at_, b.pass⟩) (hx : layRuns pre' = x.set k b')
    (hY : ∀ k, Y k → (k < S3 ∧ k ≠ Bx) ∨ X k) :
    ∃ g, Ao = some ⟨g, 0, none⟩ ∧ no ≤ co ∧ W3.cell? ⟨g, k * 4, none⟩ = some (.int .i64 b.frm) ∧ W3.cell? ⟨g, k * 4 + 1, none⟩ = some (.int .i64 b.len) ∧ W3.cell? ⟨g, k * 4 + 2, none⟩ = some (.int .i64 b.at_) ∧ W3.cell? ⟨g, k * 4 + 3, none⟩ = some (.int .i64 b.pass) ∧
      W3.frozen? ⟨g, k * 4 + 1, none⟩ = false ∧
      Keep Y W2 (W3.setCell ⟨g, k * 4 + 1, none⟩ (.int .i64 b'.len)) ∧ LayJ w Bx S3 pre' X (W3.setCell ⟨g, k * 4 + 1, none⟩ (.int .i64 b'.len)) := by
  obtain ⟨g, hA, hg, hgs, hnc, hc, hf, hset⟩ := (hOA.below hb).at_ hk
  have hgs2 : g < W2.heap.size := by
    obtain ⟨g2, hA2, _, h2, _⟩ := hOA.at_ hk
    rw [hA] at hA2
    injection hA2 with hA2
    injection hA2 with hA2
    omega
  have hsz : (W3.setCell ⟨g, k * 4 + 1, none⟩ (.int .i64 b'.len)).heap.size = W3.heap.size := by simp [World.setCell]
  have h3 : S3 ≤ W3.heap.size := Nat.le_trans hS3 hb.size
  refine ⟨g, hA, hnc, hc b 0 _ hbx rfl, hc b 1 _ hbx rfl, hc b 2 _ hbx rfl, hc b 3 _ hbx rfl, hf 1, ⟨by rw [hsz]; exact hb.size, fun i hi hil => ?_⟩, ⟨Ao, no, co, ?_, ?_, hnX⟩, ?_, ?_, ?_⟩
  · have hig : i ≠ g := by
      rcases hY i hi with h5 | h5
      · omega
      · intro e; subst e; exact hnX _ hA h5
    rw [Below.heap_setCell _ _ _ i hig]
    exact hb.block i hil
  · exact (hBx.belowAll hb).far (by show Bx ≠ g; omega) _
  · rw [hx]
    exact hset b b' 1 _ hbx (by decide) (by rw [hb']; rfl)
  · exact (hBel.trans (hb.mono (by omega))).setCell (by show Bx ≤ g; omega) _
  · rw [hsz]; exact h3
  · intro i hi
    rw [hsz]
    exact ⟨(hXr i hi).1, Nat.lt_of_lt_of_le (hXr i hi).2 hb.size⟩
set_option maxHeartbeats 4000000 in
set_option maxRecDepth 100000 in
theorem lay_ok (A : Option Addr) (n c nn : Nat) (l : List Spn) (st i o : Int) (w : World) (h : SA spanE w A n c l) (hk : LayOk l st nn i o) :
    Calls Try.prog 10 #[.slice A n c, .int .i64 st, .int .i64 (nn : Int), .int .i64 i, .int .i64 o] w (LayRet w l st nn i o) := by
  have hlen := h.n_eq
  have C := inOrder_any A n c l (w.alloc (.cells #[.slice none 0 0] 24)) (h.alloc _)
  have hB := (Below.refl w.heap.size w).alloc (Nat.le_refl _) (.cells #[.slice none 0 0] 24)
  have hx := Blk.new w 24 #[.slice none 0 0]
  have hR : layR l st nn i o = (layS l (st - i - o) nn, 0) := by unfold layR; rw [if_pos hk]; rfl
  obtain ⟨k1, k2, k3, k4, k5, k6, k7, k8, k9⟩ := hk
  obtain ⟨ho, hn5⟩ := ordTo_of k1
  rw [hlen] at hn5
  have HO := Lib.hid ho
  have HR := Lib.hid hR
  have HS := Lib.hid h
  rw [k1] at C
  clear ho hR h k1
  obtain ⟨mn, hmn⟩ : ∃ mn, (if o < i then o else i) = mn := ⟨_, rfl⟩
  obtain ⟨mx, hmx⟩ : ∃ mx, (if i < o then o else i) = mx := ⟨_, rfl⟩
  have m1 : 0 ≤ mn := by split at hmn <;> omega
  have m2 : mx ≤ 1048576 := by split at hmx <;> omega
  have e2 : decide (st < 0) = false := by simpa using k2
  have e3 : decide (1099511627776 < st) = false := by simpa using k3
  have e4 : decide ((nn : Int) < 0) = false := by simp
  have e5 : decide (16777216 < (nn : Int)) = false := by simpa using k5
  have e6 : decide (mn < 0) = false := by simpa using m1
  have e7 : decide (1048576 < mx) = false := by simpa using m2
  have g1 : IntKind.i64.wrap (st - i) = st - i := IntWalk.i64_in _ (by omega)
  have g2 : IntKind.i64.wrap (st - i - o) = st - i - o := IntWalk.i64_in _ (by omega)
  have CX := Lib.hid (fun w => runs_any A n c (st - i - o) nn w)
  refine (callsIn_wide (n := 3)).1 ?_
  refine callsIn_of_wp_marks Try.func10 rfl trivial ?_ rfl
  simp only [Try.ntmps10, List.size_toArray, List.length_cons, List.length_nil, Nat.reduceAdd, Nat.reduceSub, Array.replicate_succ, Array.replicate_zero, List.push_toArray, List.append_toArray, List.nil_append, List.cons_append]
  gi_wp2_with (first
    | (refine ⟨trivial, ?_⟩; gi_at_call 23; refine (callsIn_wide.2 C).mono ?_; rintro e w1 ⟨rfl, hh⟩; have hx1 := hx.belowAll hh; have hB1 := Bel.on0 hB hh; clear hh C)
    | (refine ⟨trivial, ?_⟩; gi_at_call 24; refine (callsIn_wide.2 (CX.out _)).mono ?_; rintro e w2 ⟨rfl, rfl⟩))
  have hBS := hx1.lt
  obtain ⟨Bx, hBe⟩ : ∃ Bx, w.heap.size = Bx := ⟨_, rfl⟩
  have hB1' := hB1
  rw [hBe] at hBS hx1 hB1'
  have hSW := HS.out.below hB1
  obtain ⟨W4, hW4⟩ : ∃ W4, (((w1.alloc (.cells #[.slice A n c] 22)).alloc (.cells #[.int .i64 (st - i - o)] 3)).alloc (.cells #[.int .i64 (nn : Int)] 3)) = W4 := ⟨_, rfl⟩
  have x4 : Blk W4 Bx 24 #[.slice none 0 0] := by rw [← hW4]; exact ((hx1.alloc _).alloc _).alloc _
  have s4 : SA spanE W4 A n c l := by rw [← hW4]; exact ((hSW.alloc _).alloc _).alloc _
  have b4 : Below Bx w W4 := by rw [← hW4, ← hBe]; exact Bel.al (Bel.al (Bel.al hB1 _) _) _
  have cl4 : W4.cell? ⟨w1.heap.size, 0, none⟩ = some (.slice A n c) := by rw [← hW4]; exact cell_al (cell_al ((Blk.new w1 22 #[.slice A n c]).cell 0) _) _
  have ch4 : W4.cell? ⟨w1.heap.size + 1, 0, none⟩ = some (.int .i64 (st - i - o)) := by
    rw [← hW4]; have := (Blk.new (w1.alloc (.cells #[.slice A n c] 22)) 3 #[.int .i64 (st - i - o)]).cell 0; rw [World.size_alloc] at this; exact cell_al this _
  have cn4 : W4.cell? ⟨w1.heap.size + 1 + 1, 0, none⟩ = some (.int .i64 (nn : Int)) := by
    rw [← hW4]; have := (Blk.new ((w1.alloc (.cells #[.slice A n c] 22)).alloc (.cells #[.int .i64 (st - i - o)] 3)) 3 #[.int .i64 (nn : Int)]).cell 0; rw [World.size_alloc, World.size_alloc] at this; exact this
  have z4 : W4.heap.size = w1.heap.size + 1 + 1 + 1 := by rw [← hW4]; simp
  rw [hW4]
  obtain ⟨S, hSe⟩ : ∃ S, w1.heap.size = S := ⟨_, rfl⟩
  rw [hSe] at cl4 ch4 cn4 z4 hBS ⊢
  rw [hBe]
  have hAb : ∀ a, A = some a → 0 < n → a.block < Bx := by
    intro a ha hn0
    obtain ⟨b, o, e1, hb, _⟩ := HS.out.all_ hn0
    rw [ha] at e1
    injection e1 with e1
    rw [e1, ← hBe]
    exact hb
  have hseq := runs_seq 2 n c S (S + 1) (S + 1 + 1) A l (st - i - o) nn W4 s4 (by rw [← hlen]; exact HO.out) hn5 (by omega) (by omega) (by omega) cl4 ch4 cn4
  clear hW4 hB1 hB hx1 hx cl4 ch4 cn4
  refine wpIn_rangeFunc_X rfl (by omega) (gf := 29) (lb := #[.pointer (some ⟨S, 0, none⟩), .pointer (some ⟨S + 1, 0, none⟩), .pointer (some ⟨S + 1 + 1, 0, none⟩)]) rfl trivial (enters_of Try.func29 (by kernel_rfl) rfl)
    hseq (by rintro k (rfl | rfl | rfl | ⟨a, ha, hn0, rfl⟩) <;> first | omega | (have := hAb a ha hn0; omega)) (Below.refl _ _) (fun _ => rfl)
    (LayJ w Bx (S + 1 + 1 + 1)) (fun _ _ _ _ => False) (LayJ.abides _ _ _ (by omega)) (fun _ _ _ _ _ _ hf _ => hf) ⟨⟨none, 0, 0, x4, OA.nil _ _ _, fun _ h => by cases h⟩, b4, by omega, fun k hk => hk.elim⟩ ?round ?done ?stop
  case stop =>
    rintro D cc pre X W _ _ hf _ _
    exact hf.elim
  case done =>
    rintro D xs X W hD rfl ⟨⟨A', n', c', i1, i2, i3⟩, i4, i5, i6⟩ hXD hDef
    have cB := i1.cell 0
    have fB := i1.frozen 0
    simp only [List.getElem?_toArray, List.getElem?_cons_zero] at cB
    clear x4 s4 b4 hseq
    gi_wp2
    have i1' := i1.set_ 0 (.slice A' n' c')
    have hDB : D ≠ Bx := by have := (i6 D hXD).1; omega
    have hD' : (W.setCell ⟨Bx, 0, none⟩ (.slice A' n' c')).heap[D]? = some (.deferred (some [])) := (Below.heap_setCell _ _ _ D (by show D ≠ Bx; exact hDB)).trans hDef
    have c7 := (i1'.putObj (D := D) (by omega) (.deferred none)).cell 0
    simp at c7
    refine ⟨by simp, .inl ⟨_, _, rfl, run_takeDeferred hD', ?_⟩⟩
    refine ⟨.tuple #[.slice A' n' c', .int .i64 0], by simp [results, Try.results10, go_sem, c7], A', n', c', by rw [HR.out], ?_, ?_⟩
    · rw [HR.out]
      exact ((i2.far (by show Bx < S + 1 + 1 + 1; omega) (.slice A' n' c')).stp (Stp.putObj _ hXD) i3).mono (by omega)
    · rw [hBe]
      exact below_putObj (i4.setCell (p := ⟨Bx, 0, none⟩) (Nat.le_refl _) (.slice A' n' c')) (by have := (i6 D hXD).1; omega) (by omega) _
  case round =>
    rintro lp D pre x X W hJW hXl hXD hlD hrec hDef ⟨hx, hpre⟩
    dsimp only [rnEnc]
    gi_wp2
    have hp0 := Blk.new W 67 #[.int .i64 x.frm, .int .i64 x.many, .int .i64 x.song]
    have J0 := LayJ.abides w Bx (S + 1 + 1 + 1) (by omega) _ _ _ _ _ hJW (Stp.of_below ((Below.refl _ W).alloc (Nat.le_refl _) (.cells #[.int .i64 x.frm, .int .i64 x.many, .int .i64 x.song] 67)))
    refine ⟨Keep.below ((Below.refl _ _).alloc (Nat.le_refl _) _), fun W2 hs2 => ?_⟩
    have hp2 := hs2.blk (fun hx => by have := (hJW.2.2.2 _ hx).2; omega) hp0
    obtain ⟨⟨Ao, no, co, q1, q2, q3⟩, q4, q5, q6⟩ := LayJ.abides w Bx _ (by omega) _ _ _ _ _ J0 hs2
    have hxm := List.mem_of_getElem? hx
    obtain ⟨r1, r2, r3, r4, r5⟩ := runs_ok HO.out x hxm
    have hpo : ∀ r ∈ pre, RnOk nn r := fun r hr => runs_ok HO.out r (by rw [hpre] at hr; exact List.mem_of_mem_take hr)
    have hpl : pre.length ≤ 65536 := by
      have h5 := runs_len l (st - i - o) nn
      have h6 := (List.getElem?_eq_some_iff.1 hx).1
      omega
    have hlo := Lib.hid (layRuns_ok pre hpo)
    have hnlen := q2.n_eq
    have hno := layRuns_len pre
    rw [hnlen] at hno
    have hYY : ∀ k, ((k = S ∨ k = S + 1 ∨ k = S + 1 + 1 ∨ ∃ a, A = some a ∧ 0 < n ∧ k = a.block) ∨ X k) → (k < S + 1 + 1 + 1 ∧ k ≠ Bx) ∨ X k := by
      rintro k ((rfl | rfl | rfl | ⟨a, ha, hn0, rfl⟩) | h5)
      · exact .inl ⟨by omega, by omega⟩
      · exact .inl ⟨by omega, by omega⟩
      · exact .inl ⟨by omega, by omega⟩
      · have := hAb a ha hn0; exact .inl ⟨by omega, by omega⟩
      · exact .inr h5
    have hN3 : S + 1 + 1 + 1 ≤ W2.heap.size := q5
    have hadd := layRuns_snoc pre x
    have cB := q1.cell 0
    have fB := q1.frozen 0
    have p0 := hp2.cell 0
    have p1 := hp2.cell 1
    have p2 := hp2.cell 2
    simp only [List.getElem?_toArray, List.getElem?_cons_zero, List.getElem?_cons_succ] at cB p0 p1 p2
    obtain ⟨xf, hxf⟩ : ∃ v, x.frm = v := ⟨_, rfl⟩
    obtain ⟨xn, hxn⟩ : ∃ v, x.many = v := ⟨_, rfl⟩
    obtain ⟨xs, hxs⟩ : ∃ v, x.song = v := ⟨_, rfl⟩
    rw [hxf] at r1 r3 p0
    rw [hxn] at r2 r3 p1
    rw [hxs] at r4 r5 p2
    have hbw : Bx ≤ w.heap.size := by omega
    clear x4 s4 b4 hseq J0 hp0 hs2 hp2 hpo hxm
    have cB1 := cell_al cB (.cells #[.int .i64 xf, .int .i64 xn, .int .i64 xs, .int .i64 0] 52)
    have hb1 := Blk.new W2 52 #[.int .i64 xf, .int .i64 xn, .int .i64 xs, .int .i64 0]
    have hd0 := hb1.cell 0
    have hd1 := hb1.cell 1
    have hd2 := hb1.cell 2
    have hd3 := hb1.cell 3
    simp only [List.getElem?_toArray, List.getElem?_cons_zero, List.getElem?_cons_succ] at hd0 hd1 hd2 hd3
    have p0b := cell_al p0 (.cells #[.int .i64 xf, .int .i64 xn, .int .i64 xs, .int .i64 0] 52)
    have p1b := cell_al p1 (.cells #[.int .i64 xf, .int .i64 xn, .int .i64 xs, .int .i64 0] 52)
    have p2b := cell_al p2 (.cells #[.int .i64 xf, .int .i64 xn, .int .i64 xs, .int .i64 0] 52)
    have q2b := q2.alloc (.cells #[.int .i64 xf, .int .i64 xn, .int .i64 xs, .int .i64 0] 52)
    have hWB : Below W2.heap.size W2 (W2.alloc (.cells #[.int .i64 xf, .int .i64 xn, .int .i64 xs, .int .i64 0] 52)) := Bel.al (Below.refl _ W2) _
    cases hl : (layRuns pre).getLast? with
    | none =>
      have hnil : layRuns pre = [] := List.getLast?_eq_none_iff.1 hl
      have hno0 : no = 0 := by rw [← hnlen, hnil]; rfl
      have gW : IntKind.i64.wrap ((no : Int) - 1) = (no : Int) - 1 := IntWalk.i64_in _ (by omega)
      have dW : decide (0 ≤ (no : Int) - 1) = false := by rw [hno0]; decide
      have HN0 := Lib.hid hno0
      clear hno0
      have hx' : layRuns (pre ++ [x]) = layRuns pre ++ [⟨xf, xn, xs, 0⟩] := by rw [hadd]; unfold addRun; rw [hl, hnil, hxf, hxn, hxs]; rfl
      have hs := SA.lit (e := laidE) (l := [⟨xf, xn, xs, 0⟩]) (n := 1) (cs := #[.int .i64 xf, .int .i64 xn, .int .i64 xs, .int .i64 0]) (W2.alloc (.cells #[.int .i64 xf, .int .i64 xn, .int .i64 xs, .int .i64 0] 52)) rfl rfl (by omega)
      rw [World.size_alloc] at hs
      obtain ⟨A', c', w', eA, z1, z2, z3⟩ := lay_app (w := w) (by omega) q1 q2 q3 q4 q5 q6 (Bel.al hWB _) hs hx' (by omega) hbw hYY
      have fz := z1.frozen 0
      have cz := z1.cell 0
      simp only [List.getElem?_toArray, List.getElem?_cons_zero] at cz
      have HZ2 := Lib.hid z2
      have HZ3 := Lib.hid z3
      clear z2 z3 hx' hs hadd q1 q2 q3 q4 q5 q6 hnil hl q2b
      gi_wp2_with (refine wpListIn_append_eq (v1 := .slice Ao no co) (v2 := .slice (some ⟨W2.heap.size + 1, 0, none⟩) 1 1) rfl (.tmp 111) (.tmp 113) 24 rfl rfl rfl eA ?_; clear eA)
      · exfalso
        have := HN0.out
        omega
      · exact ⟨HZ2.out, HZ3.out⟩
    | some b =>
      have hmem := List.mem_of_getLast? hl
      obtain ⟨y1, y2, y3, y4, y5, y6, y7⟩ := hlo.out b hmem
      obtain ⟨k, rfl⟩ : ∃ k, no = k + 1 := ⟨no - 1, by have : 0 < (layRuns pre).length := List.length_pos_of_mem hmem; omega⟩
      have hbk : (layRuns pre)[k]? = some b := by rw [List.getLast?_eq_getElem?, hnlen] at hl; simpa using hl
      obtain ⟨g, hg1, hg2, hg3, hg4, hg5, _⟩ := q2b.at_ (k := k) (by omega)
      have c0 := hg5 b 0 _ hbk rfl
      have c1 := hg5 b 1 _ hbk rfl
      have c2 := hg5 b 2 _ hbk rfl
      have c3 := hg5 b 3 _ hbk rfl
      obtain ⟨bf, bl, ba, bp⟩ := b
      dsimp only at y1 y2 y3 y4 y5 y6 y7 c0 c1 c2 c3
      rw [show k * laidE.sz = k * 4 from rfl] at c0 c1 c2 c3
      rw [Nat.add_zero] at c0
      have gW : IntKind.i64.wrap (k : Int) = (k : Int) := IntWalk.i64_in _ (by omega)
      have w1 : IntKind.i64.wrap (bf + bl) = bf + bl := IntWalk.i64_in _ (by omega)
      have w2 : IntKind.i64.wrap (ba + bl) = ba + bl := IntWalk.i64_in _ (by omega)
      have w3 : IntKind.i64.wrap (bl + xn) = bl + xn := IntWalk.i64_in _ (by omega)
      have w4 : IntKind.i64.wrap (bp + 1) = bp + 1 := IntWalk.i64_in _ (by omega)
      have hb2 := Blk.new (W2.alloc (.cells #[.int .i64 xf, .int .i64 xn, .int .i64 xs, .int .i64 0] 52)) 52 #[.int .i64 bf, .int .i64 bl, .int .i64 ba, .int .i64 bp]
      have kk0 := hb2.cell 0
      have kk1 := hb2.cell 1
      have kk2 := hb2.cell 2
      have kk3 := hb2.cell 3
      have hb3 := Blk.new ((W2.alloc (.cells #[.int .i64 xf, .int .i64 xn, .int .i64 xs, .int .i64 0] 52)).alloc (.cells #[.int .i64 bf, .int .i64 bl, .int .i64 ba, .int .i64 bp] 52)) 67 #[.int .i64 (bf + bl), .int .i64 xn, .int .i64 (ba + bl)]
      have m0 := hb3.cell 0
      have m1 := hb3.cell 1
      have m2 := hb3.cell 2
      simp only [World.size_alloc, List.getElem?_toArray, List.getElem?_cons_zero, List.getElem?_cons_succ] at kk0 kk1 kk2 kk3 m0 m1 m2
      have cB1v2 := cell_al cB1 (.cells #[.int .i64 bf, .int .i64 bl, .int .i64 ba, .int .i64 bp] 52)
      have p0bv2 := cell_al p0b (.cells #[.int .i64 bf, .int .i64 bl, .int .i64 ba, .int .i64 bp] 52)
      have p1bv2 := cell_al p1b (.cells #[.int .i64 bf, .int .i64 bl, .int .i64 ba, .int .i64 bp] 52)
      have p2bv2 := cell_al p2b (.cells #[.int .i64 bf, .int .i64 bl, .int .i64 ba, .int .i64 bp] 52)
      have c0v2 := cell_al c0 (.cells #[.int .i64 bf, .int .i64 bl, .int .i64 ba, .int .i64 bp] 52)
      have c1v2 := cell_al c1 (.cells #[.int .i64 bf, .int .i64 bl, .int .i64 ba, .int .i64 bp] 52)
      have c2v2 := cell_al c2 (.cells #[.int .i64 bf, .int .i64 bl, .int .i64 ba, .int .i64 bp] 52)
      have c3v2 := cell_al c3 (.cells #[.int .i64 bf, .int .i64 bl, .int .i64 ba, .int .i64 bp] 52)
      have hd0v2 := cell_al hd0 (.cells #[.int .i64 bf, .int .i64 bl, .int .i64 ba, .int .i64 bp] 52)
      have hd1v2 := cell_al hd1 (.cells #[.int .i64 bf, .int .i64 bl, .int .i64 ba, .int .i64 bp] 52)
      have hd2v2 := cell_al hd2 (.cells #[.int .i64 bf, .int .i64 bl, .int .i64 ba, .int .i64 bp] 52)
      have hd3v2 := cell_al hd3 (.cells #[.int .i64 bf, .int .i64 bl, .int .i64 ba, .int .i64 bp] 52)
      have cB1v3 := cell_al cB1v2 (.cells #[.int .i64 (bf + bl), .int .i64 xn, .int .i64 (ba + bl)] 67)
      have p0bv3 := cell_al p0bv2 (.cells #[.int .i64 (bf + bl), .int .i64 xn, .int .i64 (ba + bl)] 67)
      have p1bv3 := cell_al p1bv2 (.cells #[.int .i64 (bf + bl), .int .i64 xn, .int .i64 (ba + bl)] 67)
      have p2bv3 := cell_al p2bv2 (.cells #[.int .i64 (bf + bl), .int .i64 xn, .int .i64 (ba + bl)] 67)
      have c0v3 := cell_al c0v2 (.cells #[.int .i64 (bf + bl), .int .i64 xn, .int .i64 (ba + bl)] 67)
      have c1v3 := cell_al c1v2 (.cells #[.int .i64 (bf + bl), .int .i64 xn, .int .i64 (ba + bl)] 67)
      have c2v3 := cell_al c2v2 (.cells #[.int .i64 (bf + bl), .int .i64 xn, .int .i64 (ba + bl)] 67)
      have c3v3 := cell_al c3v2 (.cells #[.int .i64 (bf + bl), .int .i64 xn, .int .i64 (ba + bl)] 67)
      have hd0v3 := cell_al hd0v2 (.cells #[.int .i64 (bf + bl), .int .i64 xn, .int .i64 (ba + bl)] 67)
      have hd1v3 := cell_al hd1v2 (.cells #[.int .i64 (bf + bl), .int .i64 xn, .int .i64 (ba + bl)] 67)
      have hd2v3 := cell_al hd2v2 (.cells #[.int .i64 (bf + bl), .int .i64 xn, .int .i64 (ba + bl)] 67)
      have hd3v3 := cell_al hd3v2 (.cells #[.int .i64 (bf + bl), .int .i64 xn, .int .i64 (ba + bl)] 67)
      have kk0v3 := cell_al kk0 (.cells #[.int .i64 (bf + bl), .int .i64 xn, .int .i64 (ba + bl)] 67)
      have kk1v3 := cell_al kk1 (.cells #[.int .i64 (bf + bl), .int .i64 xn, .int .i64 (ba + bl)] 67)
      have kk2v3 := cell_al kk2 (.cells #[.int .i64 (bf + bl), .int .i64 xn, .int .i64 (ba + bl)] 67)
      have kk3v3 := cell_al kk3 (.cells #[.int .i64 (bf + bl), .int .i64 xn, .int .i64 (ba + bl)] 67)
      have HG5 := Lib.hid hg5
      have Q1 := Lib.hid q1
      have Q2 := Lib.hid q2
      have Q3 := Lib.hid q3
      have Q4 := Lib.hid q4
      have Q6 := Lib.hid q6
      have HBK := Lib.hid hbk
      have HL := Lib.hid hl
      have HAdd := Lib.hid hadd
      clear q1 q2 q3 q4 q6 hg5 hbk hl hadd hmem q2b
      subst hg1
      by_cases heq : xf = bf + bl ∧ xs = ba + bl
      · obtain ⟨rfl, rfl⟩ := heq
        gi_wp2
        have hV3 : Below W2.heap.size W2 (((W2.alloc (.cells #[.int .i64 (bf + bl), .int .i64 xn, .int .i64 (ba + bl), .int .i64 0] 52)).alloc (.cells #[.int .i64 bf, .int .i64 bl, .int .i64 ba, .int .i64 bp] 52)).alloc (.cells #[.int .i64 (bf + bl), .int .i64 xn, .int .i64 (ba + bl)] 67)) := Bel.al (Bel.al hWB _) _
        have hx' : layRuns (pre ++ [x]) = (layRuns pre).set k ⟨bf, bl + xn, ba, bp⟩ := by
          rw [HAdd.out]
          unfold addRun
          rw [HL.out]
          dsimp only
          rw [if_pos ⟨hxf, hxs⟩, hxn]
          exact set_last hnlen
        have HX := Lib.hid hx'
        clear hx'
        obtain ⟨V3, hV⟩ : ∃ V, (((W2.alloc (.cells #[.int .i64 (bf + bl), .int .i64 xn, .int .i64 (ba + bl), .int .i64 0] 52)).alloc (.cells #[.int .i64 bf, .int .i64 bl, .int .i64 ba, .int .i64 bp] 52)).alloc (.cells #[.int .i64 (bf + bl), .int .i64 xn, .int .i64 (ba + bl)] 67)) = V := ⟨_, rfl⟩
        rw [hV] at hV3 cB1v3 p1bv3 c1v3
        rw [hV]
        refine wpIn_region_still_tailR 10 (by kernel_rfl) (by kernel_rfl) rfl (by rintro ⟨_, _, h⟩; exact h) ?_
        simp only [List.take_succ_cons, List.take_zero, List.drop_succ_cons, List.drop_zero]
        have hkk : (k : Int) < (k : Int) + 1 := by omega
        repeat still_step
        refine wpStill_nil ?_
        obtain ⟨g', hA', _, _, zc1, _, _, zf, zK, zJ⟩ := lay_ext (w := w) (by omega) Q1.out Q2.out Q3.out Q4.out hN3 Q6.out hV3.drew (k := k) (by omega) HBK.out (b' := ⟨bf, bl + xn, ba, bp⟩) rfl HX.out hYY
        injection hA' with hA'
        injection hA' with hA'
        subst hA'
        have ZK := Lib.hid zK
        have ZJ := Lib.hid zJ
        clear zK zJ
        dsimp only at zc1
        go_wp2
        gi_wp2
        exact ⟨ZK.out, ZJ.out⟩
      · have hd : (xf == bf + bl && xs == ba + bl) = false := by
          simp
          exact fun h1 h2 => heq ⟨h1, h2⟩
        have hd' : decide (xf = bf + bl ∧ xs = ba + bl) = false := by simpa using heq
        have HEQ := Lib.hid heq
        clear heq
        have hBne : Bx ≠ W2.heap.size := by omega
        by_cases hps : xs < ba + bl
        · have ps1 : decide (xs < ba + bl) = true := by simpa using hps
          have hx' : layRuns (pre ++ [x]) = layRuns pre ++ [⟨xf, xn, xs, (bp + 1)⟩] := by
            rw [HAdd.out]
            unfold addRun
            rw [HL.out]
            dsimp only
            rw [hxf, hxn, hxs, if_neg HEQ.out, if_pos hps]
          have hs := SA.lit (e := laidE) (l := [⟨xf, xn, xs, (bp + 1)⟩]) (n := 1) (cs := #[.int .i64 xf, .int .i64 xn, .int .i64 xs, .int .i64 (bp + 1)]) (((W2.alloc (.cells #[.int .i64 xf, .int .i64 xn, .int .i64 xs, .int .i64 (bp + 1)] 52)).alloc (.cells #[.int .i64 bf, .int .i64 bl, .int .i64 ba, .int .i64 bp] 52)).alloc (.cells #[.int .i64 (bf + bl), .int .i64 xn, .int .i64 (ba + bl)] 67)) rfl rfl (by omega)
          rw [World.size_alloc, World.size_alloc, World.size_alloc] at hs
          have uB := cell_al (cell_al (cell_al cB (.cells #[.int .i64 xf, .int .i64 xn, .int .i64 xs, .int .i64 (bp + 1)] 52)) (.cells #[.int .i64 bf, .int .i64 bl, .int .i64 ba, .int .i64 bp] 52)) (.cells #[.int .i64 (bf + bl), .int .i64 xn, .int .i64 (ba + bl)] 67)
          have ub := ((Blk.new W2 52 #[.int .i64 xf, .int .i64 xn, .int .i64 xs, .int .i64 (bp + 1)]).alloc (.cells #[.int .i64 bf, .int .i64 bl, .int .i64 ba, .int .i64 bp] 52)).alloc (.cells #[.int .i64 (bf + bl), .int .i64 xn, .int .i64 (ba + bl)] 67)
          have u0 := ub.cell 0
          have u1 := ub.cell 1
          have u2 := ub.cell 2
          have u3 := ub.cell 3
          simp only [List.getElem?_toArray, List.getElem?_cons_zero, List.getElem?_cons_succ] at u0 u1 u2 u3
          obtain ⟨A', c', w', eA, z1, z2, z3⟩ := lay_app (w := w) (by omega) Q1.out Q2.out Q3.out Q4.out hN3 Q6.out (Bel.al (Bel.al (Bel.al (Bel.al (Below.refl _ W2) _) _) _) _) hs hx' (by omega) hbw hYY
          have fz := z1.frozen 0
          have cz := z1.cell 0
          simp only [List.getElem?_toArray, List.getElem?_cons_zero] at cz
          have HZ2 := Lib.hid z2
          have HZ3 := Lib.hid z3
          clear z2 z3 hx' hs ub
          gi_wp2_with (refine wpListIn_append_eq (v1 := .slice (some ⟨g, 0, none⟩) (k + 1) co) (v2 := .slice (some ⟨W2.heap.size + 1 + 1 + 1, 0, none⟩) 1 1) rfl (.tmp 111) (.tmp 113) 24 rfl rfl rfl eA ?_; clear eA)
          exact ⟨HZ2.out, HZ3.out⟩
        · have ps1 : decide (xs < ba + bl) = false := by simpa using hps
          have HPS := Lib.hid hps
          clear hps
          by_cases h1 : xf = bf + bl
          · have h2 : ¬ xs = ba + bl := fun h2 => HEQ.out ⟨h1, h2⟩
            have dx : decide (xs = ba + bl) = false := by simpa using h2
            have dx2 : (xs = ba + bl) = False := eq_false h2
            subst h1
            have hx' : layRuns (pre ++ [x]) = layRuns pre ++ [⟨(bf + bl), xn, xs, bp⟩] := by
              rw [HAdd.out]
              unfold addRun
              rw [HL.out]
              dsimp only
              rw [hxf, hxn, hxs, if_neg HEQ.out, if_neg HPS.out]
            have hs := SA.lit (e := laidE) (l := [⟨(bf + bl), xn, xs, bp⟩]) (n := 1) (cs := #[.int .i64 (bf + bl), .int .i64 xn, .int .i64 xs, .int .i64 bp]) (((W2.alloc (.cells #[.int .i64 (bf + bl), .int .i64 xn, .int .i64 xs, .int .i64 bp] 52)).alloc (.cells #[.int .i64 bf, .int .i64 bl, .int .i64 ba, .int .i64 bp] 52)).alloc (.cells #[.int .i64 (bf + bl), .int .i64 xn, .int .i64 (ba + bl)] 67)) rfl rfl (by omega)
            rw [World.size_alloc, World.size_alloc, World.size_alloc] at hs
            have uB := cell_al (cell_al (cell_al cB (.cells #[.int .i64 (bf + bl), .int .i64 xn, .int .i64 xs, .int .i64 bp] 52)) (.cells #[.int .i64 bf, .int .i64 bl, .int .i64 ba, .int .i64 bp] 52)) (.cells #[.int .i64 (bf + bl), .int .i64 xn, .int .i64 (ba + bl)] 67)
            have ub := ((Blk.new W2 52 #[.int .i64 (bf + bl), .int .i64 xn, .int .i64 xs, .int .i64 bp]).alloc (.cells #[.int .i64 bf, .int .i64 bl, .int .i64 ba, .int .i64 bp] 52)).alloc (.cells #[.int .i64 (bf + bl), .int .i64 xn, .int .i64 (ba + bl)] 67)
            have u0 := ub.cell 0
            have u1 := ub.cell 1
            have u2 := ub.cell 2
            have u3 := ub.cell 3
            simp only [List.getElem?_toArray, List.getElem?_cons_zero, List.getElem?_cons_succ] at u0 u1 u2 u3
            obtain ⟨A', c', w', eA, z1, z2, z3⟩ := lay_app (w := w) (by omega) Q1.out Q2.out Q3.out Q4.out hN3 Q6.out (Bel.al (Bel.al (Bel.al (Bel.al (Below.refl _ W2) _) _) _) _) hs hx' (by omega) hbw hYY
            have fz := z1.frozen 0
            have cz := z1.cell 0
            simp only [List.getElem?_toArray, List.getElem?_cons_zero] at cz
            have HZ2 := Lib.hid z2
            have HZ3 := Lib.hid z3
            clear z2 z3 hx' hs ub hd hd' u0 u1 u2 u3
            gi_wp2_with (refine wpListIn_append_eq (v1 := .slice (some ⟨g, 0, none⟩) (k + 1) co) (v2 := .slice (some ⟨W2.heap.size + 1 + 1 + 1, 0, none⟩) 1 1) rfl (.tmp 111) (.tmp 113) 24 rfl rfl rfl eA ?_; clear eA; refine wpListIn_store_cell rfl (.tmp 10) (.tmp 114) 24 rfl rfl rfl ⟨_, _, _, rfl⟩ cz fz (size_laids _) ?_; clear cz fz z1 HBK HL HAdd Q1 Q2 Q3 Q4 Q6 HEQ HPS ps1)
            exact ⟨HZ2.out, HZ3.out⟩
          · have dx : decide (xf = bf + bl) = false := by simpa using h1
            have dx2 : (xf = bf + bl) = False := eq_false h1
            have hx' : layRuns (pre ++ [x]) = layRuns pre ++ [⟨xf, xn, xs, bp⟩] := by
              rw [HAdd.out]
              unfold addRun
              rw [HL.out]
              dsimp only
              rw [hxf, hxn, hxs, if_neg HEQ.out, if_neg HPS.out]
            have hs := SA.lit (e := laidE) (l := [⟨xf, xn, xs, bp⟩]) (n := 1) (cs := #[.int .i64 xf, .int .i64 xn, .int .i64 xs, .int .i64 bp]) (((W2.alloc (.cells #[.int .i64 xf, .int .i64 xn, .int .i64 xs, .int .i64 bp] 52)).alloc (.cells #[.int .i64 bf, .int .i64 bl, .int .i64 ba, .int .i64 bp] 52)).alloc (.cells #[.int .i64 (bf + bl), .int .i64 xn, .int .i64 (ba + bl)] 67)) rfl rfl (by omega)
            rw [World.size_alloc, World.size_alloc, World.size_alloc] at hs
            have uB := cell_al (cell_al (cell_al cB (.cells #[.int .i64 xf, .int .i64 xn, .int .i64 xs, .int .i64 bp] 52)) (.cells #[.int .i64 bf, .int .i64 bl, .int .i64 ba, .int .i64 bp] 52)) (.cells #[.int .i64 (bf + bl), .int .i64 xn, .int .i64 (ba + bl)] 67)
            have ub := ((Blk.new W2 52 #[.int .i64 xf, .int .i64 xn, .int .i64 xs, .int .i64 bp]).alloc (.cells #[.int .i64 bf, .int .i64 bl, .int .i64 ba, .int .i64 bp] 52)).alloc (.cells #[.int .i64 (bf + bl), .int .i64 xn, .int .i64 (ba + bl)] 67)
            have u0 := ub.cell 0
            have u1 := ub.cell 1
            have u2 := ub.cell 2
            have u3 := ub.cell 3
            simp only [List.getElem?_toArray, List.getElem?_cons_zero, List.getElem?_cons_succ] at u0 u1 u2 u3
            obtain ⟨A', c', w', eA, z1, z2, z3⟩ := lay_app (w := w) (by omega) Q1.out Q2.out Q3.out Q4.out hN3 Q6.out (Bel.al (Bel.al (Bel.al (Bel.al (Below.refl _ W2) _) _) _) _) hs hx' (by omega) hbw hYY
            have fz := z1.frozen 0
            have cz := z1.cell 0
            simp only [List.getElem?_toArray, List.getElem?_cons_zero] at cz
            have HZ2 := Lib.hid z2
            have HZ3 := Lib.hid z3
            clear z2 z3 hx' hs ub hd hd' u0 u1 u2 u3
            gi_wp2_with (refine wpListIn_append_eq (v1 := .slice (some ⟨g, 0, none⟩) (k + 1) co) (v2 := .slice (some ⟨W2.heap.size + 1 + 1 + 1, 0, none⟩) 1 1) rfl (.tmp 111) (.tmp 113) 24 rfl rfl rfl eA ?_; clear eA; refine wpListIn_store_cell rfl (.tmp 10) (.tmp 114) 24 rfl rfl rfl ⟨_, _, _, rfl⟩ cz fz (size_laids _) ?_; clear cz fz z1 HBK HL HAdd Q1 Q2 Q3 Q4 Q6 HEQ HPS ps1)
            exact ⟨HZ2.out, HZ3.out⟩
theorem lay_any (A : Option Addr) (n c : Nat) (l : List Spn) (st nn i o : Int) (w : World) (h : SA spanE w A n c l) :
    Calls Try.prog 10 #[.slice A n c, .int .i64 st, .int .i64 nn, .int .i64 i, .int .i64 o] w (LayRet w l st nn i o) := by
  by_cases hk : LayOk l st nn i o
  · obtain ⟨m, rfl⟩ : ∃ m : Nat, nn = m := ⟨nn.toNat, by have := hk.2.2.2.1; omega⟩
    exact lay_ok A n c m l st i o w h hk
  · exact lay_bad A n c l st nn i o w h hk
end Go.Proofs.Yteconepbhajjeaa
