/-
  No cell of these rows narrows 'for every input' (looked for: loops, veiled, ifaces, maps, wideKeys, modest, calm, conditions, laid).
  DERIVED. THE GIVEN ROWS OF THIS SEAT. 6 by the template 'for every input the law returns true; each argument reads behind the call as it read before'; 0 by the template 'total and deterministic' (their statements: YteconepbhajjeaaTotals.lean).
  GIVEN WITH THE SEED: the statements are not yours to turn. If you find one false, say at which input.
  Laid BY PROGRAM, IN A SANDBOX (cutbox-rows.mjs): the forced cells as the released guide's own fill.sh prints them over the translation 3ca0b71f91b405f9… (all of the seat's roots in one cut). By AI agents, Wed Nov 11 2026. No macro, syntax, notation, axiom, sorry.
-/
import Derived.Test.YteconepbhajjeaaChecked
import GoSem.Claim
import GoSem.ClaimJoined
import GoSem.ClaimMapViews
import Derived.JoinedTies
import Derived.KernelRfl
namespace Go.Proofs.Yteconepbhajjeaa
/- THE CELL 'sum', in the pinned program and in every row, IS THE sha256 OF THE DUMP (.gsa) THAT YteconepbhajjeaaProg.lean LOADS. Nothing in Lean hashes anything: it is a label: what it is worth is what the hold of that sum in a sandbox is worth. -/
noncomputable def Try.pinned : Pinned := { name := "yteconepbhajjeaa", sum := "3ca0b71f91b405f9e40a09bb17273633d1bad9a01a869311c872e4c168bf9b9f", checked := Try.checked }
namespace Rows
def none {H : Type} : Left H := { results := [], args := [] }

/-- 'soundpostlaw44.OverdubSpec': WHATEVER THE INPUT: true; the input reads as it did. -/
def overdubSpecSpec : ChangeSpec := { name := "overdubSpec", fn := fun _ => fun
  | [d1, d2, d3, d4, d5] => { results := [.lit (.bool true)], args := [d1, d2, d3, d4, d5] }
  | _ => none }
def overdubSpecRow : OpenClaim := { program := "yteconepbhajjeaa", sum := "3ca0b71f91b405f9e40a09bb17273633d1bad9a01a869311c872e4c168bf9b9f", func := "soundpost/soundpostlaw44.OverdubSpec", spec := "overdubSpec", unfollowed := true, recurses := true, apart := false }
def OverdubSpecSaid : Prop := overdubSpecRow.holds Try.pinned (OpenSpec.ofChange overdubSpecSpec)

/-- ITS FALSE NEIGHBOUR: 'it returns false'. Refute it at one input. -/
def overdubSpecWrong : ChangeSpec := { name := "overdubSpec", fn := fun _ => fun
  | [d1, d2, d3, d4, d5] => { results := [.lit (.bool false)], args := [d1, d2, d3, d4, d5] }
  | _ => none }
def OverdubSpecWrongFalsely : Prop := overdubSpecRow.holds Try.pinned (OpenSpec.ofChange overdubSpecWrong)

/-- 'soundpostlaw44.OverdubAgainSpec': WHATEVER THE INPUT: true; the input reads as it did. -/
def overdubAgainSpecSpec : ChangeSpec := { name := "overdubAgainSpec", fn := fun _ => fun
  | [d1, d2, d3, d4, d5, d6] => { results := [.lit (.bool true)], args := [d1, d2, d3, d4, d5, d6] }
  | _ => none }
def overdubAgainSpecRow : OpenClaim := { program := "yteconepbhajjeaa", sum := "3ca0b71f91b405f9e40a09bb17273633d1bad9a01a869311c872e4c168bf9b9f", func := "soundpost/soundpostlaw44.OverdubAgainSpec", spec := "overdubAgainSpec", unfollowed := true, recurses := true, apart := false }
def OverdubAgainSpecSaid : Prop := overdubAgainSpecRow.holds Try.pinned (OpenSpec.ofChange overdubAgainSpecSpec)

/-- ITS FALSE NEIGHBOUR: 'it returns false'. Refute it at one input. -/
def overdubAgainSpecWrong : ChangeSpec := { name := "overdubAgainSpec", fn := fun _ => fun
  | [d1, d2, d3, d4, d5, d6] => { results := [.lit (.bool false)], args := [d1, d2, d3, d4, d5, d6] }
  | _ => none }
def OverdubAgainSpecWrongFalsely : Prop := overdubAgainSpecRow.holds Try.pinned (OpenSpec.ofChange overdubAgainSpecWrong)

/-- 'soundpostlaw44.OverdubPlacesSpec': WHATEVER THE INPUT: true; the input reads as it did. -/
def overdubPlacesSpecSpec : ChangeSpec := { name := "overdubPlacesSpec", fn := fun _ => fun
  | [d1, d2] => { results := [.lit (.bool true)], args := [d1, d2] }
  | _ => none }
def overdubPlacesSpecRow : OpenClaim := { program := "yteconepbhajjeaa", sum := "3ca0b71f91b405f9e40a09bb17273633d1bad9a01a869311c872e4c168bf9b9f", func := "soundpost/soundpostlaw44.OverdubPlacesSpec", spec := "overdubPlacesSpec", unfollowed := true, recurses := true, apart := false }
def OverdubPlacesSpecSaid : Prop := overdubPlacesSpecRow.holds Try.pinned (OpenSpec.ofChange overdubPlacesSpecSpec)

/-- ITS FALSE NEIGHBOUR: 'it returns false'. Refute it at one input. -/
def overdubPlacesSpecWrong : ChangeSpec := { name := "overdubPlacesSpec", fn := fun _ => fun
  | [d1, d2] => { results := [.lit (.bool false)], args := [d1, d2] }
  | _ => none }
def OverdubPlacesSpecWrongFalsely : Prop := overdubPlacesSpecRow.holds Try.pinned (OpenSpec.ofChange overdubPlacesSpecWrong)

/-- 'soundpostlaw44.OverdubHeard': WHATEVER THE INPUT: true; the input reads as it did. -/
def overdubHeardSpec : ChangeSpec := { name := "overdubHeard", fn := fun _ => fun
  | [d1, d2, d3, d4, d5] => { results := [.lit (.bool true)], args := [d1, d2, d3, d4, d5] }
  | _ => none }
def overdubHeardRow : OpenClaim := { program := "yteconepbhajjeaa", sum := "3ca0b71f91b405f9e40a09bb17273633d1bad9a01a869311c872e4c168bf9b9f", func := "soundpost/soundpostlaw44.OverdubHeard", spec := "overdubHeard", unfollowed := true, recurses := true, apart := false }
def OverdubHeardSaid : Prop := overdubHeardRow.holds Try.pinned (OpenSpec.ofChange overdubHeardSpec)

/-- ITS FALSE NEIGHBOUR: 'it returns false'. Refute it at one input. -/
def overdubHeardWrong : ChangeSpec := { name := "overdubHeard", fn := fun _ => fun
  | [d1, d2, d3, d4, d5] => { results := [.lit (.bool false)], args := [d1, d2, d3, d4, d5] }
  | _ => none }
def OverdubHeardWrongFalsely : Prop := overdubHeardRow.holds Try.pinned (OpenSpec.ofChange overdubHeardWrong)

/-- 'soundpostlaw44.OverdubSum': WHATEVER THE INPUT: true; the input reads as it did. -/
def overdubSumSpec : ChangeSpec := { name := "overdubSum", fn := fun _ => fun
  | [d1, d2, d3, d4, d5, d6] => { results := [.lit (.bool true)], args := [d1, d2, d3, d4, d5, d6] }
  | _ => none }
def overdubSumRow : OpenClaim := { program := "yteconepbhajjeaa", sum := "3ca0b71f91b405f9e40a09bb17273633d1bad9a01a869311c872e4c168bf9b9f", func := "soundpost/soundpostlaw44.OverdubSum", spec := "overdubSum", unfollowed := true, recurses := true, apart := false }
def OverdubSumSaid : Prop := overdubSumRow.holds Try.pinned (OpenSpec.ofChange overdubSumSpec)

/-- ITS FALSE NEIGHBOUR: 'it returns false'. Refute it at one input. -/
def overdubSumWrong : ChangeSpec := { name := "overdubSum", fn := fun _ => fun
  | [d1, d2, d3, d4, d5, d6] => { results := [.lit (.bool false)], args := [d1, d2, d3, d4, d5, d6] }
  | _ => none }
def OverdubSumWrongFalsely : Prop := overdubSumRow.holds Try.pinned (OpenSpec.ofChange overdubSumWrong)

/-- 'soundpostlaw44.OverdubDivide': WHATEVER THE INPUT: true; the input reads as it did. -/
def overdubDivideSpec : ChangeSpec := { name := "overdubDivide", fn := fun _ => fun
  | [d1, d2, d3, d4, d5, d6, d7] => { results := [.lit (.bool true)], args := [d1, d2, d3, d4, d5, d6, d7] }
  | _ => none }
def overdubDivideRow : OpenClaim := { program := "yteconepbhajjeaa", sum := "3ca0b71f91b405f9e40a09bb17273633d1bad9a01a869311c872e4c168bf9b9f", func := "soundpost/soundpostlaw44.OverdubDivide", spec := "overdubDivide", unfollowed := true, recurses := true, apart := false }
def OverdubDivideSaid : Prop := overdubDivideRow.holds Try.pinned (OpenSpec.ofChange overdubDivideSpec)

/-- ITS FALSE NEIGHBOUR: 'it returns false'. Refute it at one input. -/
def overdubDivideWrong : ChangeSpec := { name := "overdubDivide", fn := fun _ => fun
  | [d1, d2, d3, d4, d5, d6, d7] => { results := [.lit (.bool false)], args := [d1, d2, d3, d4, d5, d6, d7] }
  | _ => none }
def OverdubDivideWrongFalsely : Prop := overdubDivideRow.holds Try.pinned (OpenSpec.ofChange overdubDivideWrong)

/- THE SECOND FORM. 'bulk': how many values and letters a reading holds, each counted each time it is reached (what is shared counts as often as it is met; a slice's spare places count too). A statement '..UptoSaid' is the law's where the arguments, and the package variables that the reading takes, are together of bulk at most 1048576: NARROWER than '..Said'. Prove '..Said' where nothing that the law and all that it calls make is longer than what came in: it says more and counts as full. Else prove '..UptoSaid'. A law counts once. -/
mutual
def uptoBulk {H : Type} : DataW H → Nat
  | .lit (.string bytes) => bytes.length + 1
  | .lit _ => 1
  | .nil => 1
  | .ptr d => uptoBulk d + 1
  | .slice elems spare => uptoBulkAll elems + uptoBulkAll spare + 1
  | .agg parts => uptoBulkAll parts + 1
  | .iface _ d => uptoBulk d + 1
  | .map entries => uptoBulkEntries entries + 1
  | .held _ => 1
def uptoBulkAll {H : Type} : List (DataW H) → Nat
  | [] => 0
  | d :: r => uptoBulk d + uptoBulkAll r
def uptoBulkEntries {H : Type} : List (Lit × DataW H) → Nat
  | [] => 0
  | x :: r => uptoBulkEntry x + uptoBulkEntries r
def uptoBulkEntry {H : Type} : Lit × DataW H → Nat
  | (.string bytes, d) => bytes.length + uptoBulk d + 1
  | (_, d) => uptoBulk d + 1
 end
def uptoSmall : (H : Type) → List (DataW H) → Bool := fun _ ds => decide (uptoBulkAll ds ≤ 1048576)
def OpenSpec.upto (s : _root_.Go.ChangeSpec) : _root_.Go.OpenSpec := { _root_.Go.OpenSpec.ofChange s with cond := some uptoSmall }

/-- 'soundpostlaw44.OverdubSpec', WHERE WHAT IT READS IS OF BULK AT MOST 1048576: true; the input reads as it did. -/
def overdubSpecUptoRow : OpenClaim := { program := "yteconepbhajjeaa", sum := "3ca0b71f91b405f9e40a09bb17273633d1bad9a01a869311c872e4c168bf9b9f", func := "soundpost/soundpostlaw44.OverdubSpec", spec := "overdubSpec", unfollowed := true, recurses := true, apart := false, narrowed := true }
def OverdubSpecUptoSaid : Prop := overdubSpecUptoRow.holds Try.pinned (OpenSpec.upto overdubSpecSpec)

/-- 'soundpostlaw44.OverdubAgainSpec', WHERE WHAT IT READS IS OF BULK AT MOST 1048576: true; the input reads as it did. -/
def overdubAgainSpecUptoRow : OpenClaim := { program := "yteconepbhajjeaa", sum := "3ca0b71f91b405f9e40a09bb17273633d1bad9a01a869311c872e4c168bf9b9f", func := "soundpost/soundpostlaw44.OverdubAgainSpec", spec := "overdubAgainSpec", unfollowed := true, recurses := true, apart := false, narrowed := true }
def OverdubAgainSpecUptoSaid : Prop := overdubAgainSpecUptoRow.holds Try.pinned (OpenSpec.upto overdubAgainSpecSpec)

/-- 'soundpostlaw44.OverdubPlacesSpec', WHERE WHAT IT READS IS OF BULK AT MOST 1048576: true; the input reads as it did. -/
def overdubPlacesSpecUptoRow : OpenClaim := { program := "yteconepbhajjeaa", sum := "3ca0b71f91b405f9e40a09bb17273633d1bad9a01a869311c872e4c168bf9b9f", func := "soundpost/soundpostlaw44.OverdubPlacesSpec", spec := "overdubPlacesSpec", unfollowed := true, recurses := true, apart := false, narrowed := true }
def OverdubPlacesSpecUptoSaid : Prop := overdubPlacesSpecUptoRow.holds Try.pinned (OpenSpec.upto overdubPlacesSpecSpec)

/-- 'soundpostlaw44.OverdubHeard', WHERE WHAT IT READS IS OF BULK AT MOST 1048576: true; the input reads as it did. -/
def overdubHeardUptoRow : OpenClaim := { program := "yteconepbhajjeaa", sum := "3ca0b71f91b405f9e40a09bb17273633d1bad9a01a869311c872e4c168bf9b9f", func := "soundpost/soundpostlaw44.OverdubHeard", spec := "overdubHeard", unfollowed := true, recurses := true, apart := false, narrowed := true }
def OverdubHeardUptoSaid : Prop := overdubHeardUptoRow.holds Try.pinned (OpenSpec.upto overdubHeardSpec)

/-- 'soundpostlaw44.OverdubSum', WHERE WHAT IT READS IS OF BULK AT MOST 1048576: true; the input reads as it did. -/
def overdubSumUptoRow : OpenClaim := { program := "yteconepbhajjeaa", sum := "3ca0b71f91b405f9e40a09bb17273633d1bad9a01a869311c872e4c168bf9b9f", func := "soundpost/soundpostlaw44.OverdubSum", spec := "overdubSum", unfollowed := true, recurses := true, apart := false, narrowed := true }
def OverdubSumUptoSaid : Prop := overdubSumUptoRow.holds Try.pinned (OpenSpec.upto overdubSumSpec)

/-- 'soundpostlaw44.OverdubDivide', WHERE WHAT IT READS IS OF BULK AT MOST 1048576: true; the input reads as it did. -/
def overdubDivideUptoRow : OpenClaim := { program := "yteconepbhajjeaa", sum := "3ca0b71f91b405f9e40a09bb17273633d1bad9a01a869311c872e4c168bf9b9f", func := "soundpost/soundpostlaw44.OverdubDivide", spec := "overdubDivide", unfollowed := true, recurses := true, apart := false, narrowed := true }
def OverdubDivideUptoSaid : Prop := overdubDivideUptoRow.holds Try.pinned (OpenSpec.upto overdubDivideSpec)

end Rows
end Go.Proofs.Yteconepbhajjeaa
