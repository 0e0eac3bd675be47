/- Layer 9: one segment's samples: the arithmetic; (part).sample, within. -/
import Derived.Test.YtmfdflfjllpceaaZTmB
import Derived.BigQuiet
/- Layer 9: one segment's samples: the arithmetic; (part).sample, within. -/
namespace Go.Proofs.Ytmfdflfjllpceaa
open Go.RowKit

def segN (s q : Tm) (t : Int) : Int := 2 * (q.tick - s.tick) * s.n * q.d * t + (q.n * s.d - s.n * q.d) * t * t
def segD (s q : Tm) : Int := 2 * (q.tick - s.tick) * s.d * q.d
def segQ (s q : Tm) (t : Int) : Int := if s.ramp = true then (segN s q t).tdiv (segD s q) else (t * s.n).tdiv s.d
/-- A segment that can be sampled t ticks behind its start. -/
structure SegOk (s q : Tm) (t : Int) : Prop where
  so : TmOk s
  qo : TmOk q
  t0 : 0 ≤ t
  t1 : t ≤ 16777216
  rp : s.ramp = true → s.tick < q.tick ∧ q.tick - s.tick ≤ 65536 ∧ t ≤ q.tick - s.tick
theorem mul_b {a b A B : Int} (h : 0 ≤ a ∧ a ≤ A) (k : 0 ≤ b ∧ b ≤ B) : 0 ≤ a * b ∧ a * b ≤ A * B := ⟨Int.mul_nonneg h.1 k.1, Int.mul_le_mul h.2 k.2 k.1 (Int.le_trans h.1 h.2)⟩
theorem mul_s {a b A B : Int} (h : -A ≤ a ∧ a ≤ A) (hA : 0 ≤ A) (k : 0 ≤ b ∧ b ≤ B) : -(A * B) ≤ a * b ∧ a * b ≤ A * B := by
  constructor
  · have h1 := Int.mul_le_mul_of_nonneg_right h.1 k.1
    have h2 := Int.mul_le_mul_of_nonneg_left k.2 hA
    rw [Int.neg_mul] at h1; omega
  · have h1 := Int.mul_le_mul_of_nonneg_right h.2 k.1
    have h2 := Int.mul_le_mul_of_nonneg_left k.2 hA
    omega
/-- What the ramp's operations come to. -/
theorem ramp_facts {s q : Tm} {t : Int} (h : SegOk s q t) (hr : s.ramp = true) :
    IntKind.i64.wrap (q.tick - s.tick) = q.tick - s.tick ∧ IntKind.i64.wrap (2 * (q.tick - s.tick)) = 2 * (q.tick - s.tick) ∧ IntKind.i64.wrap (2 * (q.tick - s.tick) * s.n) = 2 * (q.tick - s.tick) * s.n ∧
    IntKind.i64.wrap (2 * (q.tick - s.tick) * s.n * q.d) = 2 * (q.tick - s.tick) * s.n * q.d ∧ IntKind.i64.wrap (2 * (q.tick - s.tick) * s.n * q.d * t) = 2 * (q.tick - s.tick) * s.n * q.d * t ∧
    IntKind.i64.wrap (q.n * s.d) = q.n * s.d ∧ IntKind.i64.wrap (s.n * q.d) = s.n * q.d ∧ IntKind.i64.wrap (q.n * s.d - s.n * q.d) = q.n * s.d - s.n * q.d ∧
    IntKind.i64.wrap ((q.n * s.d - s.n * q.d) * t) = (q.n * s.d - s.n * q.d) * t ∧ IntKind.i64.wrap ((q.n * s.d - s.n * q.d) * t * t) = (q.n * s.d - s.n * q.d) * t * t ∧
    IntKind.i64.wrap (segN s q t) = segN s q t := by
  obtain ⟨⟨s1, s2, s3, s4, s5⟩, ⟨q1, q2, q3, q4, q5⟩, t0, t1, rp⟩ := h
  obtain ⟨r1, r2, r3⟩ := rp hr
  unfold segN
  obtain ⟨W, hW⟩ : ∃ W, q.tick - s.tick = W := ⟨_, rfl⟩
  rw [hW] at r2 r3 ⊢
  have w0 : 0 ≤ W ∧ W ≤ 65536 := by omega
  have t5 : 0 ≤ t ∧ t ≤ 65536 := by omega
  have a1 : 0 ≤ 2 * W ∧ 2 * W ≤ 131072 := by omega
  have a2 := mul_b a1 (b := s.n) (B := 1048576) (by omega)
  have a3 := mul_b a2 (b := q.d) (B := 256) (by omega)
  have a4 := mul_b a3 t5
  have b1 := mul_b (a := q.n) (A := 1048576) (b := s.d) (B := 256) (by omega) (by omega)
  have b2 := mul_b (a := s.n) (A := 1048576) (b := q.d) (B := 256) (by omega) (by omega)
  have b3 : -268435456 ≤ q.n * s.d - s.n * q.d ∧ q.n * s.d - s.n * q.d ≤ 268435456 := by omega
  have b4 := mul_s b3 (by omega) t5
  have b5 := mul_s b4 (by omega) t5
  refine ⟨IntWalk.i64_in _ (by omega), IntWalk.i64_in _ (by omega), IntWalk.i64_in _ (by omega), IntWalk.i64_in _ (by omega), IntWalk.i64_in _ (by omega), IntWalk.i64_in _ (by omega), IntWalk.i64_in _ (by omega), IntWalk.i64_in _ (by omega), IntWalk.i64_in _ (by omega), IntWalk.i64_in _ (by omega), IntWalk.i64_in _ (by omega)⟩
/-- The divisor of a ramp. -/
theorem ramp_div {s q : Tm} (so : TmOk s) (qo : TmOk q) (r1 : s.tick < q.tick) (r2 : q.tick - s.tick ≤ 65536) :
    IntKind.i64.wrap (q.tick - s.tick) = q.tick - s.tick ∧ IntKind.i64.wrap (2 * (q.tick - s.tick)) = 2 * (q.tick - s.tick) ∧ IntKind.i64.wrap (2 * (q.tick - s.tick) * s.d) = 2 * (q.tick - s.tick) * s.d ∧ IntKind.i64.wrap (segD s q) = segD s q ∧ 0 < segD s q := by
  obtain ⟨s1, s2, s3, s4, s5⟩ := so
  obtain ⟨q1, q2, q3, q4, q5⟩ := qo
  unfold segD
  obtain ⟨W, hW⟩ : ∃ W, q.tick - s.tick = W := ⟨_, rfl⟩
  rw [hW] at r2 ⊢
  have a1 : 0 ≤ 2 * W ∧ 2 * W ≤ 131072 := by omega
  have a2 := mul_b a1 (b := s.d) (B := 256) (by omega)
  have a3 := mul_b a2 (b := q.d) (B := 256) (by omega)
  have p2 : 0 < 2 * W * s.d := Int.mul_pos (by omega) (by omega)
  have p3 : 0 < 2 * W * s.d * q.d := Int.mul_pos p2 (by omega)
  refine ⟨IntWalk.i64_in _ (by omega), IntWalk.i64_in _ (by omega), IntWalk.i64_in _ (by omega), IntWalk.i64_in _ (by omega), p3⟩
/-- How far a segment leads. -/
theorem segQ_bounds {s q : Tm} {t : Int} (h : SegOk s q t) : 0 ≤ segQ s q t ∧ segQ s q t ≤ 17592186044416 := by
  unfold segQ
  by_cases hr : s.ramp = true
  · obtain ⟨_, _, _, _, hD⟩ := ramp_div h.so h.qo (h.rp hr).1 (h.rp hr).2.1
    rw [if_pos hr]
    obtain ⟨⟨s1, s2, s3, s4, s5⟩, ⟨q1, q2, q3, q4, q5⟩, t0, t1, rp⟩ := h
    obtain ⟨r1, r2, r3⟩ := rp hr
    unfold segN segD at *
    obtain ⟨W, hW⟩ : ∃ W, q.tick - s.tick = W := ⟨_, rfl⟩
    rw [hW] at r2 r3 hD ⊢
    have e : 2 * W * s.n * q.d * t + (q.n * s.d - s.n * q.d) * t * t = t * (s.n * q.d * W + s.n * q.d * (W - t) + q.n * s.d * t) := by
      simp only [Int.mul_sub, Int.sub_mul, Int.mul_add]
      have e1 : 2 * W * s.n * q.d * t = 2 * (t * (s.n * q.d * W)) := by ac_rfl
      have e2 : q.n * s.d * t * t = t * (q.n * s.d * t) := by ac_rfl
      have e3 : s.n * q.d * t * t = t * (s.n * q.d * t) := by ac_rfl
      omega
    have w0 : 0 ≤ W ∧ W ≤ 65536 := by omega
    have b2 : 0 ≤ s.n * q.d := Int.mul_nonneg (by omega) (by omega)
    have b1 : 0 ≤ q.n * s.d := Int.mul_nonneg (by omega) (by omega)
    have n1 : 0 ≤ s.n * q.d * W := Int.mul_nonneg b2 w0.1
    have n2 : 0 ≤ s.n * q.d * (W - t) := Int.mul_nonneg b2 (by omega)
    have n3 : 0 ≤ q.n * s.d * t := Int.mul_nonneg b1 t0
    have m2 : s.n * q.d * (W - t) ≤ s.n * q.d * W := Int.mul_le_mul_of_nonneg_left (by omega) b2
    have m3 : q.n * s.d * t ≤ q.n * s.d * W := Int.mul_le_mul_of_nonneg_left (by omega) b1
    have dd : 1 * s.d ≤ q.d * s.d := Int.mul_le_mul_of_nonneg_right q4 (by omega)
    have dd2 : 1 * q.d ≤ s.d * q.d := Int.mul_le_mul_of_nonneg_right s4 (by omega)
    have m4 : s.n * q.d ≤ 1048576 * q.d := Int.mul_le_mul_of_nonneg_right (by omega) (by omega)
    have m5 : q.n * s.d ≤ 1048576 * s.d := Int.mul_le_mul_of_nonneg_right (by omega) (by omega)
    have c1 : s.d * q.d = q.d * s.d := Int.mul_comm _ _
    have m6 : s.n * q.d ≤ 1048576 * (s.d * q.d) := by omega
    have m7 : q.n * s.d ≤ 1048576 * (s.d * q.d) := by omega
    have k1 : s.n * q.d * W ≤ 1048576 * (s.d * q.d) * W := Int.mul_le_mul_of_nonneg_right m6 w0.1
    have k2 : q.n * s.d * W ≤ 1048576 * (s.d * q.d) * W := Int.mul_le_mul_of_nonneg_right m7 w0.1
    have e4 : 2 * W * s.d * q.d = 2 * (s.d * q.d * W) := by ac_rfl
    have e5 : 1048576 * (s.d * q.d) * W = 1048576 * (s.d * q.d * W) := by ac_rfl
    obtain ⟨D, hDd⟩ : ∃ D, s.d * q.d * W = D := ⟨_, rfl⟩
    rw [e4, hDd] at hD ⊢
    rw [e5, hDd] at k1 k2
    have kk : 0 ≤ s.n * q.d * W + s.n * q.d * (W - t) + q.n * s.d * t ∧ s.n * q.d * W + s.n * q.d * (W - t) + q.n * s.d * t ≤ 3145728 * D := by omega
    have kt := mul_b (a := t) (A := 65536) (by omega) kk
    rw [e]
    obtain ⟨N, hN⟩ : ∃ N, t * (s.n * q.d * W + s.n * q.d * (W - t) + q.n * s.d * t) = N := ⟨_, rfl⟩
    rw [hN] at kt ⊢
    rw [Int.tdiv_eq_ediv_of_nonneg kt.1]
    refine ⟨Int.ediv_nonneg kt.1 (by omega), ?_⟩
    refine Int.le_trans (Int.ediv_le_ediv hD (show N ≤ 206158430208 * (2 * D) by omega)) ?_
    rw [Int.mul_ediv_cancel _ (by omega)]
    omega
  · rw [if_neg hr]
    obtain ⟨⟨s1, s2, s3, s4, s5⟩, _, t0, t1, _⟩ := h
    have b := mul_b (a := t) (A := 16777216) (b := s.n) (B := 1048576) ⟨t0, t1⟩ (by omega)
    rw [Int.tdiv_eq_ediv_of_nonneg b.1]
    exact ⟨Int.ediv_nonneg b.1 (by omega), Int.le_trans (Int.ediv_le_self _ b.1) (by omega)⟩
end Go.Proofs.Ytmfdflfjllpceaa

/- Layer 9: one segment's samples: (part).sample, within. -/
namespace Go.Proofs.Ytmfdflfjllpceaa
open Go.RowKit

def ptA (s q : Tm) (pos : Int) : Array Value := #[.int .i64 s.tick, .int .i64 s.n, .int .i64 s.d, .bool s.ramp, .int .i64 q.tick, .int .i64 q.n, .int .i64 q.d, .bool q.ramp, .int .i64 pos]
set_option maxHeartbeats 4000000 in
set_option maxRecDepth 100000 in
theorem psample_flat (st sn sd qt qn qd pos tick t x y v : Int) (qr : Bool) (w : World) (h1 : IntKind.i64.wrap (tick - st) = t) (h2 : IntKind.i64.wrap (t * sn) = x) (_hd : (sd == 0) = false) (hd2 : ¬ sd = 0) (h3 : IntKind.i64.wrap (x.tdiv sd) = y) (h4 : IntKind.i64.wrap (pos + y) = v) :
    Calls Try.prog 55 #[.agg #[.int .i64 st, .int .i64 sn, .int .i64 sd, .bool false, .int .i64 qt, .int .i64 qn, .int .i64 qd, .bool qr, .int .i64 pos], .int .i64 tick] w fun e w' => e = .returned (.int .i64 v) ∧ Below w.heap.size w w' := by
  have hB := Bel.al (Below.refl _ w) (.cells #[.int .i64 st, .int .i64 sn, .int .i64 sd, .bool false, .int .i64 qt, .int .i64 qn, .int .i64 qd, .bool qr, .int .i64 pos] 88)
  go_enter Try.func55, Try.ntmps55
  go_wp2_with fail
  go_quiet (fail)
  rename Nat => q
  go_wp2
  go_ret
  exact ⟨rfl, below_drewN hB _⟩
set_option maxHeartbeats 8000000 in
set_option maxRecDepth 100000 in
theorem psample_ramp (st sn sd qt qn qd pos tick t W a1 a2 a3 a4 b1 b2 b3 b4 b5 c d1 d2 y v : Int) (qr : Bool) (w : World) (h1 : IntKind.i64.wrap (tick - st) = t) (h2 : IntKind.i64.wrap (qt - st) = W) (h3 : IntKind.i64.wrap (2 * W) = a1)
    (h4 : IntKind.i64.wrap (a1 * sn) = a2) (h5 : IntKind.i64.wrap (a2 * qd) = a3) (h6 : IntKind.i64.wrap (a3 * t) = a4) (k1 : IntKind.i64.wrap (qn * sd) = b1) (k2 : IntKind.i64.wrap (sn * qd) = b2) (k3 : IntKind.i64.wrap (b1 - b2) = b3)
    (k4 : IntKind.i64.wrap (b3 * t) = b4) (k5 : IntKind.i64.wrap (b4 * t) = b5) (k6 : IntKind.i64.wrap (a4 + b5) = c) (m1 : IntKind.i64.wrap (a1 * sd) = d1) (m2 : IntKind.i64.wrap (d1 * qd) = d2) (_hd : (d2 == 0) = false) (hd2 : ¬ d2 = 0) (m3 : IntKind.i64.wrap (c.tdiv d2) = y) (m4 : IntKind.i64.wrap (pos + y) = v) :
    Calls Try.prog 55 #[.agg #[.int .i64 st, .int .i64 sn, .int .i64 sd, .bool true, .int .i64 qt, .int .i64 qn, .int .i64 qd, .bool qr, .int .i64 pos], .int .i64 tick] w fun e w' => e = .returned (.int .i64 v) ∧ Below w.heap.size w w' := by
  have hB := Bel.al (Below.refl _ w) (.cells #[.int .i64 st, .int .i64 sn, .int .i64 sd, .bool true, .int .i64 qt, .int .i64 qn, .int .i64 qd, .bool qr, .int .i64 pos] 88)
  go_enter Try.func55, Try.ntmps55
  go_wp2_with fail
  go_quiet (fail)
  rename Nat => q
  go_wp2
  go_ret
  exact ⟨rfl, below_drewN hB _⟩
end Go.Proofs.Ytmfdflfjllpceaa

/- Layer 9: what (part).sample answers; within. -/
namespace Go.Proofs.Ytmfdflfjllpceaa
open Go.RowKit

/-- A segment that can be sampled at all. -/
def SegDiv (s q : Tm) : Prop := TmOk s ∧ TmOk q ∧ (s.ramp = true → s.tick < q.tick ∧ q.tick - s.tick ≤ 65536)
theorem SegOk.div {s q : Tm} {t : Int} (h : SegOk s q t) : SegDiv s q := ⟨h.so, h.qo, fun hr => ⟨(h.rp hr).1, (h.rp hr).2.1⟩⟩
theorem psample_some (s q : Tm) (pos tick : Int) (w : World) (h : SegDiv s q) :
    Calls Try.prog 55 #[.agg (ptA s q pos), .int .i64 tick] w fun e w' => (∃ v, e = .returned (.int .i64 v)) ∧ Below w.heap.size w w' := by
  obtain ⟨so, qo, rp⟩ := h
  obtain ⟨st, sn, sd, sr⟩ := s
  obtain ⟨qt, qn, qd, qr⟩ := q
  cases sr with
  | false =>
    have h4 : 1 ≤ sd := so.2.2.2.1
    exact (psample_flat st sn sd qt qn qd pos tick _ _ _ _ qr w rfl rfl (by simp; omega) (by omega) rfl rfl).mono fun e w' h => ⟨⟨_, h.1⟩, h.2⟩
  | true =>
    obtain ⟨e1, e2, e3, e4, e5⟩ := ramp_div so qo (rp rfl).1 (rp rfl).2
    exact (psample_ramp st sn sd qt qn qd pos tick _ _ _ _ _ _ _ _ _ _ _ _ _ _ _ _ qr w rfl e1 e2 rfl rfl rfl rfl rfl rfl rfl rfl rfl e3 e4 (by simp; omega) (by omega) rfl rfl).mono fun e w' h => ⟨⟨_, h.1⟩, h.2⟩
theorem seg_flat {s q : Tm} {t : Int} (h : SegOk s q t) (hr : s.ramp = false) : IntKind.i64.wrap (t * s.n) = t * s.n ∧ IntKind.i64.wrap ((t * s.n).tdiv s.d) = segQ s q t ∧ 1 ≤ s.d := by
  have hb := segQ_bounds h
  have hq : segQ s q t = (t * s.n).tdiv s.d := by unfold segQ; rw [if_neg (by rw [hr]; decide)]
  obtain ⟨⟨s1, s2, s3, s4, s5⟩, _, t0, t1, _⟩ := h
  have b := mul_b (a := t) (A := 16777216) (b := s.n) (B := 1048576) ⟨t0, t1⟩ (by omega)
  exact ⟨IntWalk.i64_in _ (by omega), by rw [← hq]; exact IntWalk.i64_in _ (by omega), s4⟩
theorem seg_ramp {s q : Tm} {t : Int} (h : SegOk s q t) (hr : s.ramp = true) : IntKind.i64.wrap ((segN s q t).tdiv (segD s q)) = segQ s q t := by
  have hb := segQ_bounds h
  have hq : segQ s q t = (segN s q t).tdiv (segD s q) := by unfold segQ; rw [if_pos hr]
  rw [← hq]; exact IntWalk.i64_in _ (by omega)
theorem psample_seg (s q : Tm) (pos tick : Int) (w : World) (h : SegOk s q (tick - s.tick)) (h0 : 0 ≤ pos) (h1 : pos ≤ 2305843009213693952) :
    Calls Try.prog 55 #[.agg (ptA s q pos), .int .i64 tick] w fun e w' => e = .returned (.int .i64 (pos + segQ s q (tick - s.tick))) ∧ Below w.heap.size w w' := by
  have hb := segQ_bounds h
  have ht : IntKind.i64.wrap (tick - s.tick) = tick - s.tick := IntWalk.i64_in _ (by have := h.t0; have := h.t1; omega)
  have hp : IntKind.i64.wrap (pos + segQ s q (tick - s.tick)) = pos + segQ s q (tick - s.tick) := IntWalk.i64_in _ (by omega)
  cases hr : s.ramp with
  | false =>
    obtain ⟨e1, e2, e3⟩ := seg_flat h hr
    have C := psample_flat s.tick s.n s.d q.tick q.n q.d pos tick _ _ _ _ q.ramp w ht e1 (by simp; omega) (by omega) e2 hp
    unfold ptA
    rw [hr]
    exact C
  | true =>
    obtain ⟨e1, e2, e3, e4, e5⟩ := ramp_div h.so h.qo (h.rp hr).1 (h.rp hr).2.1
    obtain ⟨_, _, f2, f3, f4, f5, f6, f7, f8, f9, f10⟩ := ramp_facts h hr
    have C := psample_ramp s.tick s.n s.d q.tick q.n q.d pos tick _ _ _ _ _ _ _ _ _ _ _ _ _ _ _ _ q.ramp w ht e1 e2 f2 f3 f4 f5 f6 f7 f8 f9 f10 e3 e4 (by simp; omega) (by omega) (seg_ramp h hr) hp
    unfold ptA
    rw [hr]
    exact C
set_option maxHeartbeats 4000000 in
set_option maxRecDepth 100000 in
theorem within_flat (A : Option Addr) (n c k : Nat) (m : List Tm) (st sn sd t x y : Int) (w : World) (h : SA tmE w A n c m) (hs : m[k]? = some ⟨st, sn, sd, false⟩) (h2 : IntKind.i64.wrap (t * sn) = x) (_hd : (sd == 0) = false) (hd2 : ¬ sd = 0) (h3 : IntKind.i64.wrap (x.tdiv sd) = y) :
    Calls Try.prog 60 #[.slice A n c, .int .i64 (k : Int), .int .i64 t] w fun e w' => e = .returned (.int .i64 y) ∧ Below w.heap.size w w' := by
  have hkl : k < m.length := (List.getElem?_eq_some_iff.1 hs).1
  have hs' : m[k] = ⟨st, sn, sd, false⟩ := by rw [List.getElem?_eq_getElem hkl] at hs; injection hs
  obtain ⟨b, o, rfl, hb, c0, c1, c2, c3⟩ := tm_at h hkl hs'
  have g4 : (k : Int) < (n : Int) := by have := h.n_eq; omega
  have g3 : (0 : Int) ≤ (k : Int) := by omega
  have hB := Bel.al (Below.refl _ w) (.cells #[.int .i64 st, .int .i64 sn, .int .i64 sd, .bool false] 53)
  clear h hs hs' hkl
  dsimp only at c0 c1 c2 c3
  go_enter Try.func60, Try.ntmps60
  go_wp2
  go_ret
  exact ⟨rfl, hB⟩
set_option maxHeartbeats 8000000 in
set_option maxRecDepth 100000 in
theorem within_ramp (A : Option Addr) (n c k : Nat) (m : List Tm) (st sn sd qt qn qd t W a1 a2 a3 a4 b1 b2 b3 b4 b5 e1 d1 d2 y : Int) (qr : Bool) (w : World) (h : SA tmE w A n c m) (hs : m[k]? = some ⟨st, sn, sd, true⟩) (hq : m[k + 1]? = some ⟨qt, qn, qd, qr⟩)
    (h2 : IntKind.i64.wrap (qt - st) = W) (h3 : IntKind.i64.wrap (2 * W) = a1)
    (h4 : IntKind.i64.wrap (a1 * sn) = a2) (h5 : IntKind.i64.wrap (a2 * qd) = a3) (h6 : IntKind.i64.wrap (a3 * t) = a4) (k1 : IntKind.i64.wrap (qn * sd) = b1) (k2 : IntKind.i64.wrap (sn * qd) = b2) (k3 : IntKind.i64.wrap (b1 - b2) = b3)
    (k4 : IntKind.i64.wrap (b3 * t) = b4) (k5 : IntKind.i64.wrap (b4 * t) = b5) (k6 : IntKind.i64.wrap (a4 + b5) = e1) (m1 : IntKind.i64.wrap (a1 * sd) = d1) (m2 : IntKind.i64.wrap (d1 * qd) = d2) (_hd : (d2 == 0) = false) (hd2 : ¬ d2 = 0) (m3 : IntKind.i64.wrap (e1.tdiv d2) = y) :
    Calls Try.prog 60 #[.slice A n c, .int .i64 (k : Int), .int .i64 t] w fun e w' => e = .returned (.int .i64 y) ∧ Below w.heap.size w w' := by
  have hkl : k + 1 < m.length := (List.getElem?_eq_some_iff.1 hq).1
  have hs' : m[k] = ⟨st, sn, sd, true⟩ := by rw [List.getElem?_eq_getElem (by omega)] at hs; injection hs
  have hq' : m[k + 1] = ⟨qt, qn, qd, qr⟩ := by rw [List.getElem?_eq_getElem hkl] at hq; injection hq
  obtain ⟨b, o, rfl, hb, c0, c1, c2, c3⟩ := tm_at h (by omega) hs'
  obtain ⟨b9, o9, e9, _, u0, u1, u2, u3⟩ := tm_at h hkl hq'
  injection e9 with e9
  injection e9 with e7 e8 _
  subst e7 e8
  have g5 : (k : Int) + 1 < (n : Int) := by have := h.n_eq; omega
  have g4 : (k : Int) < (n : Int) := by omega
  have g3 : (0 : Int) ≤ (k : Int) := by omega
  have g2 : (0 : Int) ≤ (k : Int) + 1 := by omega
  have hlen := h.len
  have gw : IntKind.i64.wrap ((k : Int) + 1) = (k : Int) + 1 := IntWalk.i64_in _ (by omega)
  have hB := Bel.al (Bel.al (Below.refl _ w) (.cells #[.int .i64 st, .int .i64 sn, .int .i64 sd, .bool true] 53)) (.cells #[.int .i64 qt, .int .i64 qn, .int .i64 qd, .bool qr] 53)
  dsimp only at c0 c1 c2 c3 u0 u1 u2 u3
  have x0 := cell_al u0 (.cells #[.int .i64 st, .int .i64 sn, .int .i64 sd, .bool true] 53)
  have x1 := cell_al u1 (.cells #[.int .i64 st, .int .i64 sn, .int .i64 sd, .bool true] 53)
  have x2 := cell_al u2 (.cells #[.int .i64 st, .int .i64 sn, .int .i64 sd, .bool true] 53)
  have x3 := cell_al u3 (.cells #[.int .i64 st, .int .i64 sn, .int .i64 sd, .bool true] 53)
  clear h hs hs' hkl hq hq' u0 u1 u2 u3 hlen
  go_enter Try.func60, Try.ntmps60
  go_wp2
  go_ret
  exact ⟨rfl, hB⟩
/-- The segment's end in a list of points. -/
theorem within_seg (A : Option Addr) (n c k : Nat) (m : List Tm) (s q : Tm) (t : Int) (w : World) (h : SA tmE w A n c m) (hs : m[k]? = some s) (hq : s.ramp = true → m[k + 1]? = some q) (ok : SegOk s q t) :
    Calls Try.prog 60 #[.slice A n c, .int .i64 (k : Int), .int .i64 t] w fun e w' => e = .returned (.int .i64 (segQ s q t)) ∧ Below w.heap.size w w' := by
  cases hr : s.ramp with
  | false =>
    obtain ⟨e1, e2, e3⟩ := seg_flat ok hr
    exact within_flat A n c k m s.tick s.n s.d t _ _ w h (by rw [hs, ← hr]) e1 (by simp; omega) (by omega) e2
  | true =>
    obtain ⟨e1, e2, e3, e4, e5⟩ := ramp_div ok.so ok.qo (ok.rp hr).1 (ok.rp hr).2.1
    obtain ⟨_, _, f2, f3, f4, f5, f6, f7, f8, f9, f10⟩ := ramp_facts ok hr
    exact within_ramp A n c k m s.tick s.n s.d q.tick q.n q.d t _ _ _ _ _ _ _ _ _ _ _ _ _ _ q.ramp w h (by rw [hs, ← hr]) (hq hr) e1 e2 f2 f3 f4 f5 f6 f7 f8 f9 f10 e3 e4 (by simp; omega) (by omega) (seg_ramp ok hr)
end Go.Proofs.Ytmfdflfjllpceaa
