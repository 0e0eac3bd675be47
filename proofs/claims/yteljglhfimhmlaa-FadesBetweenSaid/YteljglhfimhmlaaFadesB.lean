/- Contracts of package fades (layer 27), second part: right, joined. -/
import Derived.Test.YteljglhfimhmlaaFadesA
import Derived.Test.YteljglhfimhmlaaSlice
import Derived.Laws.CopyOwn
namespace Go.Proofs.Yteljglhfimhmlaa
open Go.RowKit

def rightB (len : Nat) (n : Int) : Bool := decide (len ≤ 16777216 ∧ 0 ≤ n ∧ n ≤ len)
theorem right_any (A : Option Addr) (m c : Nat) (l : List Int) (n : Int) (w : World) (h : SL w A m c l) : Calls Try.prog 69 #[.slice A m c, .int .i64 n] w fun e w' => e = .returned (.bool (rightB m n)) ∧ w = w' := by
  have hl := h.len
  have hc : (16777216 < m) ∨ (m ≤ 16777216 ∧ n < 0) ∨ (m ≤ 16777216 ∧ 0 ≤ n ∧ m < n) ∨ (m ≤ 16777216 ∧ 0 ≤ n ∧ n ≤ m) := by omega
  clear h
  rcases hc with h1 | ⟨h1, h2⟩ | ⟨h1, h2, h3⟩ | ⟨h1, h2, h3⟩
  · have H := Lib.hid (show rightB m n = false by unfold rightB; simp; omega)
    have k1 : (16777216 : Int) < m := by omega
    go_enter Try.func69, Try.ntmps69
    go_wp2
    go_ret
    exact ⟨ret_bool H.out.symm, rfl⟩
  · have H := Lib.hid (show rightB m n = false by unfold rightB; simp; omega)
    have k1 : (m : Int) ≤ 16777216 := by omega
    go_enter Try.func69, Try.ntmps69
    go_wp2
    go_ret
    exact ⟨ret_bool H.out.symm, rfl⟩
  · have H := Lib.hid (show rightB m n = false by unfold rightB; simp; omega)
    have k1 : (m : Int) ≤ 16777216 := by omega
    go_enter Try.func69, Try.ntmps69
    go_wp2
    go_ret
    exact ⟨ret_bool (by rw [H.out]; simp; omega), rfl⟩
  · have H := Lib.hid (show rightB m n = true by unfold rightB; simp; omega)
    have k1 : (m : Int) ≤ 16777216 := by omega
    go_enter Try.func69, Try.ntmps69
    go_wp2
    go_ret
    exact ⟨ret_bool H.out.symm, rfl⟩

/-- A slice of ints as a value, with what it reads as. -/
structure Sv where
  A : Option Addr
  n : Nat
  c : Nat
  l : List Int
def Sv.v (s : Sv) : Value := .slice s.A s.n s.c
def Sv.ok (w : World) (s : Sv) : Prop := SL w s.A s.n s.c s.l
/-- The number of elements of the first k. -/
def total (ss : List Sv) : Nat := (ss.map (·.n)).sum
theorem total_succ {ss : List Sv} {k : Nat} (h : k < ss.length) : total (ss.take (k + 1)) = total (ss.take k) + ss[k].n := by
  unfold total; rw [List.take_succ_eq_append_getElem h]; simp only [List.map_append, List.sum_append, List.map_cons, List.map_nil, List.sum_cons, List.sum_nil, Nat.add_zero]
theorem total_le (ss : List Sv) (k : Nat) : total (ss.take k) ≤ total ss := by
  unfold total
  conv => rhs; rw [← List.take_append_drop k ss]
  rw [List.map_append, List.sum_append]; omega
def conc (ss : List Sv) : List Int := ss.flatMap (·.l)
theorem conc_succ {ss : List Sv} {k : Nat} (h : k < ss.length) : conc (ss.take (k + 1)) = conc (ss.take k) ++ ss[k].l := by
  unfold conc; rw [List.take_succ_eq_append_getElem h]; simp only [List.flatMap_append, List.flatMap_cons, List.flatMap_nil, List.append_nil]
theorem conc_len {w : World} : ∀ (ss : List Sv), (∀ s ∈ ss, s.ok w) → (conc ss).length = total ss
  | [], _ => rfl
  | s :: ss, h => by
    have h1 := conc_len ss (fun x hx => h x (List.mem_cons_of_mem _ hx))
    have h2 := (h s (List.mem_cons_self)).n_eq
    simp only [conc, total, List.flatMap_cons, List.length_append, List.map_cons, List.sum_cons] at h1 ⊢
    omega
/-- What the new block holds when k slices are copied. -/
def joinA (ss : List Sv) (k : Nat) : List Value := (conc (ss.take k)).map vint ++ List.replicate (total ss - total (ss.take k)) (vint 0)

theorem int_size : (Try.prog.info? 3).map (·.size) = some 1 := by kernel_rfl
theorem joinA_zero (ss : List Sv) : (joinA ss 0).toArray = fillA (fun _ => vint 0) (.int .i64 0) 0 (total ss) := by
  rw [fillA_zero]; simp [joinA, conc, total]
theorem joinA_len (ss : List Sv) (k : Nat) (hc : (conc (ss.take k)).length = total (ss.take k)) : (joinA ss k).length = total ss := by
  have := total_le ss k
  simp [joinA, hc]; omega
theorem joinA_succ {ss : List Sv} {k : Nat} (hk : k < ss.length) (hn : ss[k].l.length = ss[k].n) (hc : (conc (ss.take k)).length = total (ss.take k)) :
    splice (joinA ss k) (total (ss.take k)) (ss[k].l.map vint) = joinA ss (k + 1) := by
  have h1 := total_succ hk
  have h2 := total_le ss (k + 1)
  unfold splice joinA
  rw [conc_succ hk, h1]
  rw [List.take_left' (by simpa using hc), List.drop_append, List.drop_of_length_le (by simp [hc, hn]), List.map_append]
  simp [hc, hn]
  omega
/-- s[t:] of a slice that the call itself made. -/
theorem own_from {g T t : Nat} (h : t ≤ T) : ∃ dp, (t < T → dp = some ⟨g, t, none⟩) ∧ ∀ W, (Instr.slice 26 (.slice (some ⟨g, 0, none⟩) T T) (some (.int .i64 (t : Int))) none none).run Try.prog W = .ok (.slice dp (T - t) (T - t)) W := by
  have hu := Try.underlying26
  refine ⟨if T = t then some ⟨g, 0, none⟩ else some ⟨g, t, none⟩, fun hl => by rw [if_neg (by omega)], fun W => ?_⟩
  by_cases e : T = t
  · subst e; simp [Instr.slice, go_sem, Instr.sliceBounds, Instr.sliceBound]
  · simp [Instr.slice, go_sem, Instr.sliceBounds, Instr.sliceBound, h, e, add_off]
theorem SL.src {w : World} {A : Option Addr} {n c : Nat} {l : List Int} (h : SL w A n c l) (hp : 0 < n) :
    ∃ ad, A = some ad ∧ ∀ j v, (l.map vint)[j]? = some v → w.cell? (ad.add j) = some v := by
  obtain ⟨b, o, rfl, _, hc⟩ := h.2.2.2.2.2 hp
  exact ⟨_, rfl, fun j v hv => by rw [add_off]; exact hc j v hv⟩

set_option maxHeartbeats 1000000 in
theorem joined_any (A : Option Addr) (n c : Nat) (ss : List Sv) (w : World) (h : RD w 1 A n (ss.map Sv.v)) (hs : ∀ s ∈ ss, s.ok w) (hm : total ss ≤ 67108864) (hn : n ≤ 1048576) :
    Calls Try.prog 70 #[.slice A n c] w fun e w' => e = .returned (.slice (some ⟨w.heap.size, 0, none⟩) (total ss) (total ss)) ∧ Blk w' w.heap.size 3 ((conc ss).map vint).toArray ∧ Below w.heap.size w w' := by
  have hlen : ss.length = n := by simpa using h.1
  subst hlen
  go_enter Try.func70, Try.ntmps70
  go_wp2
  go_loop [3, 12] (fun m i => ∃ k : Nat, k ≤ ss.length ∧ i = .int .i64 k ∧ m = .int .i64 (total (ss.take k))) (fun _ i => ss.length - (intOf i).toNat)
  case atStart => exact ⟨0, Nat.zero_le _, rfl, rfl⟩
  case round =>
    obtain ⟨k, hk, rfl, rfl⟩ := hrel
    by_cases hlt : k < ss.length
    · obtain ⟨b, o, rfl, hb, hc⟩ := h.2 (by omega)
      have hck := hc k ss[k].v (by simp [hlt])
      have h1 := total_le ss k
      have h2 := total_le ss (k + 1)
      have h3 := total_succ hlt
      obtain ⟨t, ht⟩ : ∃ t, total (ss.take k) = t := ⟨_, rfl⟩
      rw [ht] at h1 h3
      rw [h3] at h2
      have H3 := Lib.hid h3
      clear h3 hc h
      unfold Sv.v at hck
      go_wp2
      go_round
      case rel => exact ⟨k + 1, by omega, by go_num, by rw [H3.out]; go_num⟩
      case measure => simp [intOf]; omega
    · obtain rfl : k = ss.length := by omega
      have hmk := fun w => mk_ints (fun _ => vint 0) (total ss) (by omega) w
      have hT : total (ss.take ss.length) = total ss := by rw [List.take_of_length_le (Nat.le_refl _)]
      rw [hT]
      have HT := Lib.hid hT
      clear hT
      go_wp2
      have hB0 := (Below.refl w.heap.size w).alloc (Nat.le_refl _) (.cells (fillA (fun _ => vint 0) (.int .i64 0) 0 (total ss)) 3)
      go_loopw [7, 25] (fun m i wr => ∃ k : Nat, k ≤ ss.length ∧ i = .int .i64 k ∧ m = .int .i64 (total (ss.take k)) ∧ Blk wr w.heap.size 3 (joinA ss k).toArray ∧ Below w.heap.size w wr) (fun _ i _ => ss.length - (intOf i).toNat)
      case atStart => exact ⟨0, Nat.zero_le _, rfl, rfl, by have := Blk.new w 3 (fillA (fun _ => vint 0) (.int .i64 0) 0 (total ss)); rw [fillA_zero] at this; rw [joinA_zero, fillA_zero]; exact this, hB0⟩
      case round =>
        obtain ⟨k, hk, rfl, rfl, hblk, hbel⟩ := hrel
        clear hmk hB0
        by_cases hlt : k < ss.length
        · obtain ⟨b, o, rfl, hb, hc⟩ := h.2 (by omega)
          have hck := hc k ss[k].v (by simp [hlt])
          have hckr := (hbel.cell (p := ⟨b, o + k, none⟩) hb).trans hck
          have hsk := (hs ss[k] (List.getElem_mem hlt)).below hbel
          have hjk := joinA_succ hlt hsk.n_eq (conc_len (w := w) (ss.take k) (fun s hx => hs s (List.mem_of_mem_take hx)))
          have h1 := total_le ss k
          have h2 := total_le ss (k + 1)
          have h3 := total_succ hlt
          have hjl := joinA_len ss k (conc_len (w := w) (ss.take k) (fun s hx => hs s (List.mem_of_mem_take hx)))
          obtain ⟨t, ht⟩ : ∃ t, total (ss.take k) = t := ⟨_, rfl⟩
          rw [ht] at h1 h3 hjk
          rw [h3] at h2
          obtain ⟨dp, hdp, hrun⟩ := own_from (g := w.heap.size) (T := total ss) (t := t) h1
          obtain ⟨nk, hnk⟩ : ∃ nk, ss[k].n = nk := ⟨_, rfl⟩
          have hlk : (ss[k].l.map vint).length = nk := by rw [List.length_map, hsk.n_eq, hnk]
          have hsrc := hsk.src
          have hone : ∀ v ∈ ss[k].l.map vint, v.oneCell' = true := by simp [Value.oneCell']
          rw [hnk] at h2 h3 hsrc
          obtain ⟨cs, hcs⟩ : ∃ cs, ss[k].l.map vint = cs := ⟨_, rfl⟩
          rw [hcs] at hlk hjk hsrc hone
          have hcl : cs.length ≤ 67108864 := by omega
          have HO := Lib.hid hone
          have H3 := Lib.hid h3
          have HJ := Lib.hid hjk
          have HL := Lib.hid hjl
          have HK := Lib.hid hlk
          have HS := Lib.hid hsrc
          have HB := Lib.hid hblk
          have HD := Lib.hid hdp
          unfold Sv.v at hckr
          rw [hnk] at hckr
          have hmin : nk = Nat.min nk (total ss - t) := (Nat.min_eq_left (by omega)).symm
          have HM := Lib.hid hmin
          clear h3 hjk hjl hlk hsrc hblk hdp hc h hck hsk hmin hone hcs
          go_wp2_with (refine wpList_copy_splice rfl (.tmp 32) (.tmp 33) 26 26 rfl 3 Try.underlying26 int_size dp ss[k].A (total ss - t) (total ss - t) nk ss[k].c rfl rfl w.heap.size t (joinA ss k) 3 HB.out cs (HK.out.trans HM.out) (fun hp => ⟨HD.out (by have := HK.out; omega), HS.out (by have := HK.out; omega)⟩) (by have := HK.out; have := HL.out; omega) HO.out w.heap.size w hbel (Nat.le_refl _) ?_; intro w2 hg2 hb2)
          have hg3 : Blk w2 w.heap.size 3 (joinA ss (k + 1)).toArray := by rw [← HJ.out]; exact hg2.out
          have G3 := Lib.hid hg3
          clear hg3 hg2
          go_wp2
          go_roundw
          case rel => exact ⟨k + 1, by omega, by go_num, by rw [H3.out, HK.out]; go_num, G3.out, hb2⟩
          case measure => simp [intOf]; omega
        · obtain rfl : k = ss.length := by omega
          have hj : joinA ss ss.length = (conc ss).map vint := by simp [joinA, List.take_of_length_le]
          rw [hj] at hblk
          go_wp2
          go_ret
          exact ⟨rfl, hblk, hbel⟩
end Go.Proofs.Yteljglhfimhmlaa
