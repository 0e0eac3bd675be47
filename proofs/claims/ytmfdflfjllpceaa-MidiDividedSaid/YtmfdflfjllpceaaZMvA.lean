/- Layer 50: events: how they lie in memory; keys, validity, order. -/
import Derived.Test.YtmfdflfjllpceaaZSt
import Derived.Test.YtmfdflfjllpceaaZTail
import Derived.Test.YtmfdflfjllpceaaZCmp
namespace Go.Proofs.Ytmfdflfjllpceaa
open Go.RowKit

structure Ev where
  tick : Int
  kind : Int
  ch : Int
  key : Int
  val : Int
  no : Int
  deriving DecidableEq
def evA (e : Ev) : Array Value := #[.int .i64 e.tick, .int .i64 e.kind, .int .i64 e.ch, .int .i64 e.key, .int .i64 e.val, .int .i64 e.no]
def ekey (e : Ev) : List Int := [e.tick, e.kind, e.ch, e.key, e.val, e.no]
theorem ev_info : (Try.prog.info? 40).map (fun i => (i.zero, i.size, i.bytes)) = some (some (.agg #[.int .i64 0, .int .i64 0, .int .i64 0, .int .i64 0, .int .i64 0, .int .i64 0]), 6, 48) := by kernel_rfl
def evE : Enc Ev where
  S := 22
  E := 40
  sz := 6
  bytes := 48
  enc := fun s => [.int .i64 s.tick, .int .i64 s.kind, .int .i64 s.ch, .int .i64 s.key, .int .i64 s.val, .int .i64 s.no]
  pos := by decide
  len := fun _ => rfl
  one := by simp [Value.oneCell']
  hS := Try.underlying22
  info := by
    obtain ⟨i0, hi, hz0, hz1, hz2⟩ := info_parts ev_info
    exact ⟨i0, _, hi, hz0, hz1, hz2, rfl⟩
  hb := by decide
/-- A valid event. -/
def EvOk (e : Ev) : Prop := 1 ≤ e.kind ∧ e.kind ≤ 3 ∧ 0 ≤ e.tick ∧ e.tick ≤ 1099511627776 ∧ 0 ≤ e.ch ∧ e.ch ≤ 15 ∧ 0 ≤ e.key ∧ e.key ≤ 127 ∧ 0 ≤ e.no ∧ e.no ≤ 4095 ∧
  (if e.kind = 3 then 1 else 0) ≤ e.val ∧ e.val ≤ (if e.kind = 1 then 0 else 127)
instance (e : Ev) : Decidable (EvOk e) := by unfold EvOk; infer_instance
/-- The order of events. -/
def evLt (a b : Ev) : Prop := lcmp (ekey a) (ekey b) < 0
instance (a b : Ev) : Decidable (evLt a b) := by unfold evLt; infer_instance

theorem ev_at {w : World} {A : Option Addr} {n c : Nat} {l : List Ev} (h : SA evE w A n c l) {k : Nat} (hk : k < l.length) {s : Ev} (hs : l[k] = s) : ∃ b o, A = some ⟨b, o, none⟩ ∧ b < w.heap.size ∧
    w.cell? ⟨b, o + k * 6, none⟩ = some (.int .i64 s.tick) ∧ w.cell? ⟨b, o + k * 6 + 1, none⟩ = some (.int .i64 s.kind) ∧ w.cell? ⟨b, o + k * 6 + 2, none⟩ = some (.int .i64 s.ch) ∧
    w.cell? ⟨b, o + k * 6 + 3, none⟩ = some (.int .i64 s.key) ∧ w.cell? ⟨b, o + k * 6 + 4, none⟩ = some (.int .i64 s.val) ∧ w.cell? ⟨b, o + k * 6 + 5, none⟩ = some (.int .i64 s.no) := by
  subst hs
  obtain ⟨b, o, e, hb, hc⟩ := h.at_ hk
  exact ⟨b, o, e, hb, hc 0 _ rfl, hc 1 _ rfl, hc 2 _ rfl, hc 3 _ rfl, hc 4 _ rfl, hc 5 _ rfl⟩
theorem min_true (a b c : Int) (w : World) (h1 : b ≤ a) (h2 : a ≤ c) : Calls Try.prog 43 #[.int .i64 a, .int .i64 b, .int .i64 c] w fun e w' => e = .returned (.bool true) ∧ w = w' := by
  go_enter Try.func43, Try.ntmps43
  go_wp2
  go_ret
  exact ⟨rfl, rfl⟩
theorem min_false (a b c : Int) (w : World) (h : a < b ∨ (b ≤ a ∧ c < a)) : Calls Try.prog 43 #[.int .i64 a, .int .i64 b, .int .i64 c] w fun e w' => e = .returned (.bool false) ∧ w = w' := by
  rcases h with h | ⟨h, h'⟩
  · go_enter Try.func43, Try.ntmps43
    go_wp2
    go_ret
    exact ⟨rfl, rfl⟩
  · have d : decide (a ≤ c) = false := by simpa using h'
    go_enter Try.func43, Try.ntmps43
    go_wp2
    go_ret
    exact ⟨rfl, rfl⟩
def limA : Array Value := #[.int .i64 1, .int .i64 0, .int .i64 0, .int .i64 0, .int .i64 0, .int .i64 127, .int .i64 1, .int .i64 127]
theorem limits_any (w : World) : Calls Try.prog 44 #[] w fun e w' => e = .returned (.agg limA) ∧ Below w.heap.size w w' := by
  go_enter Try.func44, Try.ntmps44
  go_wp2
  exact bodyPost_ret (v := .agg limA) (by simp [results, Try.results44, go_sem, limA]) rfl ⟨rfl, (Below.refl _ w).alloc (Nat.le_refl _) _⟩
theorem keyOf_at (e : Ev) (w : World) : Calls Try.prog 45 #[.agg (evA e)] w fun e' w' => e' = .returned (.agg (evA e)) ∧ Below w.heap.size w w' := by
  obtain ⟨a, b, c, d, f, g⟩ := e
  unfold evA
  dsimp only
  go_enter Try.func45, Try.ntmps45
  go_wp2
  exact bodyPost_ret (v := .agg #[.int .i64 a, .int .i64 b, .int .i64 c, .int .i64 d, .int .i64 f, .int .i64 g]) (by simp [results, Try.results45, go_sem]) rfl ⟨rfl, ((Below.refl _ w).alloc (Nat.le_refl _) _).alloc (by simp) _⟩
end Go.Proofs.Ytmfdflfjllpceaa
