/- Layer 50: the iterator over a part's events: what it keeps. -/
import Derived.Test.YtmfdflfjllpceaaZMvP
import Derived.Carry
namespace Go.Proofs.Ytmfdflfjllpceaa
open Go.RowKit Go.Shelf
attribute [local go_sem] Oper.semAt_some

section
variable {F : Fence} {n : Nat} {P : Program} {ops : Array Oper} {rest : List Oper} {o : Oper} {a : Act} {Q : Exit → Act → World → Prop} {w w' : World} {v v1 v2 v3 : Value}
theorem wpListIn_delete_eq (hg : o.guard = none) (m x : Operand) (t k : TypeId) (hop : o.op = .call { callee := .builtin .delete, args := #[m, x], argTypes := #[t, k] }) (hs : a.eval m = v1) (hx : a.eval x = v2)
    (hrun : (Builtin.delete_ #[t, k] o.type #[v1, v2]).run P w = .ok v w') (h : wpListIn F n P ops Q rest (a.put o.dst v) w') : wpListIn F n P ops Q (o :: rest) a w := by
  refine wpListIn_plain hg fun K hK' => ?_
  unfold Oper.wpIn
  refine ⟨?_, ?_⟩
  · simp [Oper.about, hop, resolve, Target.leads, Sem.run_pure]
  · rw [Oper.semAt_eq _ _ _ (by rw [hop]; intro c hc'; cases hc')]
    simp [execOp, hop, resolve, invoke, builtin, hs, hx, hrun, Result.andThen]
    exact hK' _ _ h
theorem wpListIn_value_eq (hg : o.guard = none) (hd : ∀ c, o.op ≠ .defer c) (ha : o.about P w a.eval = none) (hrun : (execOp a.eval o).run P w = .ok (.value v) w') (h : wpListIn F n P ops Q rest (a.put o.dst v) w') : wpListIn F n P ops Q (o :: rest) a w := by
  refine wpListIn_plain hg fun K hK' => ?_
  unfold Oper.wpIn
  refine ⟨fun f hf => (by rw [ha] at hf; cases hf), ?_⟩
  rw [Oper.semAt_eq _ _ _ hd, hrun]
  exact hK' _ _ h
theorem wpListIn_range_eq (hg : o.guard = none) (m : Operand) (t : TypeId) (hop : o.op = .range t m) (hs : a.eval m = v1) (hrun : (Instr.range t v1).run P w = .ok v w') (h : wpListIn F n P ops Q rest (a.put o.dst v) w') : wpListIn F n P ops Q (o :: rest) a w := by
  refine wpListIn_value_eq hg (by rw [hop]; intro c hc'; cases hc') (by simp [Oper.about, hop]) ?_ h
  unfold execOp
  simp only [hop, hs, Sem.run_bind, hrun, Result.andThen_ok]
  rfl
theorem wpListIn_next_eq (hg : o.guard = none) (m : Operand) (b : Bool) (hop : o.op = .next m b) (hs : a.eval m = v1) (hrun : (Instr.next v1 b o.type).run P w = .ok v w') (h : wpListIn F n P ops Q rest (a.put o.dst v) w') : wpListIn F n P ops Q (o :: rest) a w := by
  refine wpListIn_value_eq hg (by rw [hop]; intro c hc'; cases hc') (by simp [Oper.about, hop]) ?_ h
  unfold execOp
  simp only [hop, hs, Sem.run_bind, hrun, Result.andThen_ok]
  rfl
theorem wpListIn_entry_eq (hg : o.guard = none) (m : Operand) (hop : o.op = .entry m) (hs : a.eval m = v1) (hrun : (Instr.entry v1).run P w = .ok v w') (h : wpListIn F n P ops Q rest (a.put o.dst v) w') : wpListIn F n P ops Q (o :: rest) a w := by
  refine wpListIn_value_eq hg (by rw [hop]; intro c hc'; cases hc') (by simp [Oper.about, hop]) ?_ h
  unfold execOp
  simp only [hop, hs, Sem.run_bind, hrun, Result.andThen_ok]
  rfl
end
theorem Stp.grown {X : Nat → Prop} {A B : World} {b : Nat} (h : A.grownBy B (some b)) (hX : X b) : Stp X X A B :=
  ⟨h.os, h.tape, h.output, h.size, fun k hk hx => h.block k hk (fun e => hx (by have := Option.some.inj e; first | (rw [this]; exact hX) | (rw [← this]; exact hX))), fun _ hk => hk, fun _ hk => .inl hk⟩
/-- All that a callee has laid joins. -/
theorem Stp.all {X : Nat → Prop} {A B : World} (h : Below A.heap.size A B) : Stp X (fun k => X k ∨ (A.heap.size ≤ k ∧ k < B.heap.size)) A B :=
  ⟨h.os, h.tape, h.output, h.size, fun k hk _ => h.block k hk, fun _ hk => .inl hk, fun _ hk => hk⟩
theorem below_grown {A B : World} {b m : Nat} (h : A.grownBy B (some b)) (hb : m ≤ b) (hm : m ≤ A.heap.size) : Below m A B :=
  ⟨h.os, h.tape, h.output, h.size, fun k hk => h.block k (by omega) (fun e => by have := Option.some.inj e; omega)⟩

/-- What the iterator reads: its list, its bounds; all of it lies below m. -/
structure PC (A : Option Addr) (n c PL PF PT m : Nat) (l : List Ev) (fr hi : Int) (wr : World) : Prop where
  cl : wr.cell? ⟨PL, 0, none⟩ = some (.slice A n c)
  cf : wr.cell? ⟨PF, 0, none⟩ = some (.int .i64 fr)
  ct : wr.cell? ⟨PT, 0, none⟩ = some (.int .i64 hi)
  sa : SA evE wr A n c l
  ml : PL < m
  mf : PF < m
  mt : PT < m
  ma : ∀ a, A = some a → 0 < n → a.block < m
section
variable {A : Option Addr} {n c PL PF PT m : Nat} {l : List Ev} {fr hi : Int} {w w' : World}
theorem cell_below {B : Nat} {p : Addr} {v : Value} (hb : Below B w w') (hp : p.block < B) (h : w.cell? p = some v) : w'.cell? p = some v := (World.cell?_of_block (hb.block p.block hp)).trans h
theorem SA.belowB {α : Type} {e : Enc α} {B : Nat} {l : List α} (h : SA e w A n c l) (hb : Below B w w') (hB : ∀ a, A = some a → 0 < n → a.block < B) : SA e w' A n c l :=
  ⟨h.1, h.2.1, h.2.2.1, h.2.2.2.1, fun hn => by
    obtain ⟨b, o, e1, hbs, hc⟩ := h.2.2.2.2 hn
    exact ⟨b, o, e1, Nat.lt_of_lt_of_le hbs hb.size, fun j u hu => cell_below (p := ⟨b, o + j, none⟩) hb (hB ⟨b, o, none⟩ e1 hn) (hc j u hu)⟩⟩
theorem PC.below (h : PC A n c PL PF PT m l fr hi w) (hb : Below m w w') : PC A n c PL PF PT m l fr hi w' :=
  ⟨cell_below hb h.ml h.cl, cell_below hb h.mf h.cf, cell_below hb h.mt h.ct, h.sa.belowB hb h.ma, h.ml, h.mf, h.mt, h.ma⟩
/-- The blocks that the iterator reads. -/
def PR (A : Option Addr) (n PL PF PT : Nat) (k : Nat) : Prop := k = PL ∨ k = PF ∨ k = PT ∨ ∃ a, A = some a ∧ 0 < n ∧ k = a.block
theorem PC.keep {X : Nat → Prop} (h : PC A n c PL PF PT m l fr hi w) (hk : Keep (fun k => PR A n PL PF PT k ∨ X k) w w') : PC A n c PL PF PT m l fr hi w' :=
  ⟨hk.cell (p := ⟨PL, 0, none⟩) (.inl (.inl rfl)) h.cl, hk.cell (p := ⟨PF, 0, none⟩) (.inl (.inr (.inl rfl))) h.cf, hk.cell (p := ⟨PT, 0, none⟩) (.inl (.inr (.inr (.inl rfl)))) h.ct,
    h.sa.keep hk (fun a ha hn => .inl (.inr (.inr (.inr ⟨a, ha, hn, rfl⟩)))), h.ml, h.mf, h.mt, h.ma⟩
end
/-- The controls before a part. -/
def EvV (e : Ev) : Value := .agg (evA e)
def atTick (e : Ev) (t : Int) : Ev := ⟨t, e.kind, e.ch, e.key, e.val, e.no⟩
def cStep (fr : Int) (f : Vc → Option Ev) (x : Ev) : Vc → Option Ev :=
  if x.kind = 2 ∧ x.tick ≤ fr then (if x.tick < fr then put f (voiceOf x) (some (atTick x fr)) else put f (voiceOf x) none) else f
def cAt (l : List Ev) (fr : Int) : Nat → Vc → Option Ev
  | 0 => fun _ => none
  | k + 1 => match l[k]? with
    | some x => cStep fr (cAt l fr k) x
    | none => cAt l fr k
theorem cAt_succ {l : List Ev} {fr : Int} {k : Nat} {x : Ev} (h : l[k]? = some x) : cAt l fr (k + 1) = cStep fr (cAt l fr k) x := by rw [cAt, h]
/-- Whose controls these are. -/
theorem cAt_mem {l : List Ev} {fr : Int} : ∀ {k : Nat} {v : Vc} {e : Ev}, cAt l fr k v = some e → ∃ x ∈ l, voiceOf x = v ∧ e = atTick x fr ∧ x.kind = 2 ∧ x.tick < fr
  | 0, _, _, h => by cases h
  | k + 1, v, e, h => by
    cases hx : l[k]? with
    | none => rw [cAt, hx] at h; exact cAt_mem h
    | some x =>
      rw [cAt_succ hx] at h
      unfold cStep at h
      split at h
      · rename_i hk
        split at h
        · rename_i ht
          unfold put at h
          split at h
          · rename_i hv
            injection h with h
            exact ⟨x, List.mem_of_getElem? hx, hv.symm, h.symm, hk.1, ht⟩
          · exact cAt_mem h
        · unfold put at h
          split at h
          · cases h
          · exact cAt_mem h
      · exact cAt_mem h
theorem put_put {ν : Type} (f : Vc → Option ν) (k : Vc) (a b : Option ν) : put (put f k a) k b = put f k b := by
  funext j
  unfold put
  by_cases h : j = k
  · rw [if_pos h, if_pos h]
  · rw [if_neg h, if_neg h, if_neg h]
/-- The first k events that lie within. -/
def inE (l : List Ev) (fr hi : Int) (k : Nat) : List Ev := (l.take k).filter fun x => decide (fr ≤ x.tick ∧ x.tick < hi)
theorem inE_succ {l : List Ev} {fr hi : Int} {k : Nat} {x : Ev} (h : l[k]? = some x) : inE l fr hi (k + 1) = inE l fr hi k ++ if fr ≤ x.tick ∧ x.tick < hi then [x] else [] := by
  unfold inE
  rw [List.take_add_one, h, List.filter_append]
  congr 1
  by_cases hc : fr ≤ x.tick ∧ x.tick < hi
  · simp [hc]
  · rw [if_neg hc]
    simp only [Option.toList, List.filter_cons, List.filter_nil]
    rw [if_neg (by simpa using hc)]
theorem inE_len (l : List Ev) (fr hi : Int) (k : Nat) : (inE l fr hi k).length ≤ k := by
  have h1 := List.length_filter_le (fun x : Ev => decide (fr ≤ x.tick ∧ x.tick < hi)) (l.take k)
  have h2 : (l.take k).length ≤ k := by rw [List.length_take]; omega
  unfold inE; omega
theorem nodup_le {α : Type} [DecidableEq α] : ∀ {ks L : List α}, ks.Nodup → (∀ k ∈ ks, k ∈ L) → ks.length ≤ L.length
  | [], _, _, _ => Nat.zero_le _
  | k :: ks, L, hn, hm => by
    obtain ⟨h1, h2⟩ := List.nodup_cons.1 hn
    have hk := hm k (List.mem_cons_self ..)
    have ih := nodup_le (ks := ks) (L := L.erase k) h2 (fun j hj => (List.mem_erase_of_ne (fun (e : j = k) => h1 (by rw [← e]; exact hj))).2 (hm j (List.mem_cons_of_mem _ hj)))
    have := List.length_erase_of_mem hk
    have hp : 0 < L.length := List.length_pos_of_mem hk
    rw [List.length_cons]
    omega
end Go.Proofs.Ytmfdflfjllpceaa
