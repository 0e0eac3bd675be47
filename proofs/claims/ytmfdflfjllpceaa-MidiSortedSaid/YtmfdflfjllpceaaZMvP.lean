/- Layer 50: the reference's Notes. -/
import Derived.Test.YtmfdflfjllpceaaZMvO
namespace Go.Proofs.Ytmfdflfjllpceaa
open Go.RowKit

/-- The first k events' notes. -/
def rN (l : List Ev) : Nat → List (Int × Int)
  | 0 => []
  | k + 1 => rN l k ++ match l[k]? with
    | some x => if x.kind = 3 then [((k : Int), endS l k)] else []
    | none => []
theorem rN_len (l : List Ev) : ∀ k, (rN l k).length ≤ k
  | 0 => Nat.le_refl _
  | k + 1 => by
    have := rN_len l k
    rw [rN, List.length_append]
    split
    · split <;> simp <;> omega
    · simp; omega
set_option maxHeartbeats 4000000 in
theorem rnotes_any (A : Option Addr) (n c : Nat) (l : List Ev) (w : World) (h : SA evE w A n c l) (hm : n ≤ 34359738368) :
    Calls Try.prog 20 #[.slice A n c] w (NRet w (if checkM l = 0 then rN l l.length else []) (checkM l)) := by
  have hlen := h.len
  have C := rcheck_any A n c l w h
  by_cases hc : checkM l = 0
  · have HR := Lib.hid (show (if checkM l = 0 then rN l l.length else []) = rN l l.length from if_pos hc)
    have HL := Lib.hid h.n_eq
    have HS := Lib.hid h
    rw [hc] at C
    have HC0 := Lib.hid hc
    obtain ⟨x, hx⟩ : ∃ x, (if checkM l = 0 then rN l l.length else []) = x := ⟨_, rfl⟩
    rw [hx] at HR ⊢
    rw [hc]
    clear hc h hx
    have hlit : ∀ W : World, Below w.heap.size w W → OA noteE (W.alloc (.cells #[] 36)) w.heap.size (some ⟨W.heap.size, 0, none⟩) 0 0 [] := fun W hb => OA.litL (e := noteE) (l := []) (n := 0) (cs := #[]) W hb.size rfl rfl (by omega)
    go_enter Try.func20, Try.ntmps20
    go_wp2_with (go_at_call 13; ((with_reducible refine C.mono ?_); rintro e w1 ⟨rfl, hh1⟩))
    have h0 := hlit _ hh1
    have h0b := Bel.al hh1 (.cells #[] 36)
    clear hlit C
    go_loopw [5, 6] (fun o i wr => ∃ (k : Nat) (A' : Option Addr) (n' c' : Nat), k ≤ n ∧ i = .int .i64 k ∧ o = .slice A' n' c' ∧ Hid (OA noteE wr w.heap.size A' n' c' (rN l k)) ∧ Below w.heap.size w wr) (fun _ i _ => n - (intOf i).toNat)
    case atStart => exact ⟨0, _, 0, 0, Nat.zero_le _, rfl, rfl, Lib.hid h0, h0b⟩
    case round =>
      clear h0 h0b
      obtain ⟨k, A', n', c', hk, rfl, rfl, hO, hB⟩ := hrel
      by_cases hlt : k < n
      · have hkl : k < l.length := by rw [HL.out]; exact hlt
        obtain ⟨s, hs⟩ : ∃ s, l[k] = s := ⟨_, rfl⟩
        have hs' : l[k]? = some s := by rw [List.getElem?_eq_getElem hkl, hs]
        obtain ⟨b, o, rfl, hb, c0, c1, c2, c3, c4, c5⟩ := ev_at (HS.out.below hB) hkl hs
        have hSt : rN l (k + 1) = rN l k ++ if s.kind = 3 then [((k : Int), endS l k)] else [] := by rw [rN, hs']
        have HNL := Lib.hid (show n' ≤ 34359738368 by have h1 := hO.out.n_eq; have h2 := rN_len l k; omega)
        clear hs hs'
        obtain ⟨t, q, ch, ke, va, no⟩ := s
        dsimp only at c0 c1 c2 c3 c4 c5 hSt
        have g3 : (0 : Int) ≤ (k : Int) := by omega
        have g4 : (k : Int) < (n : Int) := by omega
        by_cases hq : q = 3
        · subst hq
          rw [if_pos rfl] at hSt
          have CE := rend_any (some ⟨b, o, none⟩) n c k l wr (HS.out.below hB) hlt hm
          obtain ⟨z, hz⟩ : ∃ z, endS l k = z := ⟨_, rfl⟩
          rw [hz] at CE hSt
          have HSt := Lib.hid hSt
          have HCE := Lib.hid CE
          clear hSt hz CE
          go_wp2_with (first
            | (go_at_call 38; ((with_reducible refine HCE.out.mono ?_); rintro e w2 ⟨rfl, hh2⟩);
                (obtain ⟨A2, c2, W2, eA, hO2, hB2, _⟩ := ((hO.out.below hh2).alloc (.cells #[.int .i64 (k : Int), .int .i64 z] 36)).app (SA.lit (e := noteE) (l := [((k : Int), z)]) (n := 1) (cs := #[.int .i64 (k : Int), .int .i64 z]) w2 rfl (by rw [Enc.cells_one]; rfl) (by omega)) (by have h1 := hB.size; have h2 := hh2.size; rw [World.size_alloc]; omega) (by have := HNL.out; omega));
                (have HO2 := Lib.hid hO2);
                (have HB2 := Lib.hid ((Bel.al (Bel.on0 hB hh2) _).trans hB2));
                (clear hO2 hB2 hh2))
            | (at_builtin; refine wpList_append_eq (v1 := .slice A' n' c') (v2 := .slice (some ⟨w2.heap.size, 0, none⟩) 1 1) rfl (.tmp 25) (.tmp 31) 32 rfl rfl rfl eA ?_; clear eA))
          exact ⟨⟨k + 1, _, _, _, by omega, by simp, rfl, by rw [HSt.out]; exact HO2, HB2.out⟩, by simp only [intOf]; omega⟩
        · have hq4 : (q == 3) = false := by simpa using hq
          rw [if_neg hq, List.append_nil] at hSt
          have HSt := Lib.hid hSt
          clear hSt hq
          go_wp2
          exact ⟨⟨k + 1, _, _, _, by omega, by simp, rfl, by rw [HSt.out]; exact hO, hB⟩, by simp only [intOf]; omega⟩
      · obtain rfl : k = n := by omega
        have HN := Lib.hid (show x = rN l k by rw [HR.out, HL.out])
        go_wp2
        exact bodyPost_ret (v := .tuple #[.slice A' n' c', .int .i64 0]) (by simp [results, Try.results20, go_sem]) rfl ⟨A', n', c', rfl, by rw [HN.out]; exact hO.out.sa, hB⟩
  · have HR := Lib.hid (show (if checkM l = 0 then rN l l.length else []) = [] from if_neg hc)
    have hc1 : (checkM l != 0) = true := by simpa using hc
    obtain ⟨x, hx⟩ : ∃ x, (if checkM l = 0 then rN l l.length else []) = x := ⟨_, rfl⟩
    rw [hx] at HR ⊢
    obtain ⟨z, hz⟩ : ∃ z, checkM l = z := ⟨_, rfl⟩
    rw [hz] at C hc1 ⊢
    clear hc hz hx
    go_enter Try.func20, Try.ntmps20
    go_wp2_with (go_at_call 13; ((with_reducible refine C.mono ?_); rintro e w1 ⟨rfl, hh1⟩))
    exact bodyPost_ret (v := .tuple #[.slice none 0 0, .int .i64 z]) (by simp [results, Try.results20, go_sem]) rfl ⟨none, 0, 0, rfl, by rw [HR.out]; exact SA.nil, hh1⟩
end Go.Proofs.Ytmfdflfjllpceaa
