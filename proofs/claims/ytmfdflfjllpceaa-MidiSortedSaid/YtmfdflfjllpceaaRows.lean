/-
  No cell of these rows narrows 'for every input' (looked for: loops, veiled, ifaces, maps, wideKeys, modest, calm, conditions, laid).
  DERIVED. THE GIVEN ROWS OF THIS SEAT. 7 by the template 'for every input the law returns true; each argument reads behind the call as it read before'; 0 by the template 'total and deterministic' (their statements: YtmfdflfjllpceaaTotals.lean).
  GIVEN WITH THE SEED: the statements are not yours to turn. If you find one false, say at which input.
  Laid BY PROGRAM, IN A SANDBOX (cutbox-rows.mjs): the forced cells as the released guide's own fill.sh prints them over the translation 91877cc0110021e4… (all of the seat's roots in one cut). By AI agents, Wed Nov 11 2026. No macro, syntax, notation, axiom, sorry.
-/
import Derived.Test.YtmfdflfjllpceaaChecked
import GoSem.Claim
import GoSem.ClaimJoined
import GoSem.ClaimMapViews
import Derived.JoinedTies
import Derived.KernelRfl
namespace Go.Proofs.Ytmfdflfjllpceaa
/- THE CELL 'sum', in the pinned program and in every row, IS THE sha256 OF THE DUMP (.gsa) THAT YtmfdflfjllpceaaProg.lean LOADS. Nothing in Lean hashes anything: it is a label: what it is worth is what the hold of that sum in a sandbox is worth. -/
noncomputable def Try.pinned : Pinned := { name := "ytmfdflfjllpceaa", sum := "91877cc0110021e4ae356da64ae4352b5520337fd303ed240e757b5094589339", checked := Try.checked }
namespace Rows
def none {H : Type} : Left H := { results := [], args := [] }

/-- 'soundpostlaw50.MidiSpec': WHATEVER THE INPUT: true; the input reads as it did. -/
def midiSpecSpec : ChangeSpec := { name := "midiSpec", fn := fun _ => fun
  | [d] => { results := [.lit (.bool true)], args := [d] }
  | _ => none }
def midiSpecRow : OpenClaim := { program := "ytmfdflfjllpceaa", sum := "91877cc0110021e4ae356da64ae4352b5520337fd303ed240e757b5094589339", func := "soundpost/soundpostlaw50.MidiSpec", spec := "midiSpec", unfollowed := true, recurses := true, plainKeys := false, apart := false }
def MidiSpecSaid : Prop := midiSpecRow.holds Try.pinned (OpenSpec.ofChange midiSpecSpec)

/-- ITS FALSE NEIGHBOUR: 'it returns false'. Refute it at one input. -/
def midiSpecWrong : ChangeSpec := { name := "midiSpec", fn := fun _ => fun
  | [d] => { results := [.lit (.bool false)], args := [d] }
  | _ => none }
def MidiSpecWrongFalsely : Prop := midiSpecRow.holds Try.pinned (OpenSpec.ofChange midiSpecWrong)

/-- 'soundpostlaw50.MidiPartsSpec': WHATEVER THE INPUT: true; the input reads as it did. -/
def midiPartsSpecSpec : ChangeSpec := { name := "midiPartsSpec", fn := fun _ => fun
  | [d1, d2, d3, d4] => { results := [.lit (.bool true)], args := [d1, d2, d3, d4] }
  | _ => none }
def midiPartsSpecRow : OpenClaim := { program := "ytmfdflfjllpceaa", sum := "91877cc0110021e4ae356da64ae4352b5520337fd303ed240e757b5094589339", func := "soundpost/soundpostlaw50.MidiPartsSpec", spec := "midiPartsSpec", unfollowed := true, recurses := true, plainKeys := false, apart := false }
def MidiPartsSpecSaid : Prop := midiPartsSpecRow.holds Try.pinned (OpenSpec.ofChange midiPartsSpecSpec)

/-- ITS FALSE NEIGHBOUR: 'it returns false'. Refute it at one input. -/
def midiPartsSpecWrong : ChangeSpec := { name := "midiPartsSpec", fn := fun _ => fun
  | [d1, d2, d3, d4] => { results := [.lit (.bool false)], args := [d1, d2, d3, d4] }
  | _ => none }
def MidiPartsSpecWrongFalsely : Prop := midiPartsSpecRow.holds Try.pinned (OpenSpec.ofChange midiPartsSpecWrong)

/-- 'soundpostlaw50.MidiSorted': WHATEVER THE INPUT: true; the input reads as it did. -/
def midiSortedSpec : ChangeSpec := { name := "midiSorted", fn := fun _ => fun
  | [d1, d2] => { results := [.lit (.bool true)], args := [d1, d2] }
  | _ => none }
def midiSortedRow : OpenClaim := { program := "ytmfdflfjllpceaa", sum := "91877cc0110021e4ae356da64ae4352b5520337fd303ed240e757b5094589339", func := "soundpost/soundpostlaw50.MidiSorted", spec := "midiSorted", unfollowed := true, recurses := true, plainKeys := false, apart := false }
def MidiSortedSaid : Prop := midiSortedRow.holds Try.pinned (OpenSpec.ofChange midiSortedSpec)

/-- ITS FALSE NEIGHBOUR: 'it returns false'. Refute it at one input. -/
def midiSortedWrong : ChangeSpec := { name := "midiSorted", fn := fun _ => fun
  | [d1, d2] => { results := [.lit (.bool false)], args := [d1, d2] }
  | _ => none }
def MidiSortedWrongFalsely : Prop := midiSortedRow.holds Try.pinned (OpenSpec.ofChange midiSortedWrong)

/-- 'soundpostlaw50.MidiResolve': WHATEVER THE INPUT: true; the input reads as it did. -/
def midiResolveSpec : ChangeSpec := { name := "midiResolve", fn := fun _ => fun
  | [d1, d2] => { results := [.lit (.bool true)], args := [d1, d2] }
  | _ => none }
def midiResolveRow : OpenClaim := { program := "ytmfdflfjllpceaa", sum := "91877cc0110021e4ae356da64ae4352b5520337fd303ed240e757b5094589339", func := "soundpost/soundpostlaw50.MidiResolve", spec := "midiResolve", unfollowed := true, recurses := true, plainKeys := false, apart := false }
def MidiResolveSaid : Prop := midiResolveRow.holds Try.pinned (OpenSpec.ofChange midiResolveSpec)

/-- ITS FALSE NEIGHBOUR: 'it returns false'. Refute it at one input. -/
def midiResolveWrong : ChangeSpec := { name := "midiResolve", fn := fun _ => fun
  | [d1, d2] => { results := [.lit (.bool false)], args := [d1, d2] }
  | _ => none }
def MidiResolveWrongFalsely : Prop := midiResolveRow.holds Try.pinned (OpenSpec.ofChange midiResolveWrong)

/-- 'soundpostlaw50.MidiNotes': WHATEVER THE INPUT: true; the input reads as it did. -/
def midiNotesSpec : ChangeSpec := { name := "midiNotes", fn := fun _ => fun
  | [d] => { results := [.lit (.bool true)], args := [d] }
  | _ => none }
def midiNotesRow : OpenClaim := { program := "ytmfdflfjllpceaa", sum := "91877cc0110021e4ae356da64ae4352b5520337fd303ed240e757b5094589339", func := "soundpost/soundpostlaw50.MidiNotes", spec := "midiNotes", unfollowed := true, recurses := true, plainKeys := false, apart := false }
def MidiNotesSaid : Prop := midiNotesRow.holds Try.pinned (OpenSpec.ofChange midiNotesSpec)

/-- ITS FALSE NEIGHBOUR: 'it returns false'. Refute it at one input. -/
def midiNotesWrong : ChangeSpec := { name := "midiNotes", fn := fun _ => fun
  | [d] => { results := [.lit (.bool false)], args := [d] }
  | _ => none }
def MidiNotesWrongFalsely : Prop := midiNotesRow.holds Try.pinned (OpenSpec.ofChange midiNotesWrong)

/-- 'soundpostlaw50.MidiSlice': WHATEVER THE INPUT: true; the input reads as it did. -/
def midiSliceSpec : ChangeSpec := { name := "midiSlice", fn := fun _ => fun
  | [d1, d2, d3, d4, d5, d6] => { results := [.lit (.bool true)], args := [d1, d2, d3, d4, d5, d6] }
  | _ => none }
def midiSliceRow : OpenClaim := { program := "ytmfdflfjllpceaa", sum := "91877cc0110021e4ae356da64ae4352b5520337fd303ed240e757b5094589339", func := "soundpost/soundpostlaw50.MidiSlice", spec := "midiSlice", unfollowed := true, recurses := true, plainKeys := false, apart := false }
def MidiSliceSaid : Prop := midiSliceRow.holds Try.pinned (OpenSpec.ofChange midiSliceSpec)

/-- ITS FALSE NEIGHBOUR: 'it returns false'. Refute it at one input. -/
def midiSliceWrong : ChangeSpec := { name := "midiSlice", fn := fun _ => fun
  | [d1, d2, d3, d4, d5, d6] => { results := [.lit (.bool false)], args := [d1, d2, d3, d4, d5, d6] }
  | _ => none }
def MidiSliceWrongFalsely : Prop := midiSliceRow.holds Try.pinned (OpenSpec.ofChange midiSliceWrong)

/-- 'soundpostlaw50.MidiDivided': WHATEVER THE INPUT: true; the input reads as it did. -/
def midiDividedSpec : ChangeSpec := { name := "midiDivided", fn := fun _ => fun
  | [d1, d2, d3, d4] => { results := [.lit (.bool true)], args := [d1, d2, d3, d4] }
  | _ => none }
def midiDividedRow : OpenClaim := { program := "ytmfdflfjllpceaa", sum := "91877cc0110021e4ae356da64ae4352b5520337fd303ed240e757b5094589339", func := "soundpost/soundpostlaw50.MidiDivided", spec := "midiDivided", unfollowed := true, recurses := true, plainKeys := false, apart := false }
def MidiDividedSaid : Prop := midiDividedRow.holds Try.pinned (OpenSpec.ofChange midiDividedSpec)

/-- ITS FALSE NEIGHBOUR: 'it returns false'. Refute it at one input. -/
def midiDividedWrong : ChangeSpec := { name := "midiDivided", fn := fun _ => fun
  | [d1, d2, d3, d4] => { results := [.lit (.bool false)], args := [d1, d2, d3, d4] }
  | _ => none }
def MidiDividedWrongFalsely : Prop := midiDividedRow.holds Try.pinned (OpenSpec.ofChange midiDividedWrong)

/- THE SECOND FORM. 'bulk': how many values and letters a reading holds, each counted each time it is reached (what is shared counts as often as it is met; a slice's spare places count too). A statement '..UptoSaid' is the law's where the arguments, and the package variables that the reading takes, are together of bulk at most 1048576: NARROWER than '..Said'. Prove '..Said' where nothing that the law and all that it calls make is longer than what came in: it says more and counts as full. Else prove '..UptoSaid'. A law counts once. -/
mutual
def uptoBulk {H : Type} : DataW H → Nat
  | .lit (.string bytes) => bytes.length + 1
  | .lit _ => 1
  | .nil => 1
  | .ptr d => uptoBulk d + 1
  | .slice elems spare => uptoBulkAll elems + uptoBulkAll spare + 1
  | .agg parts => uptoBulkAll parts + 1
  | .iface _ d => uptoBulk d + 1
  | .map entries => uptoBulkEntries entries + 1
  | .held _ => 1
def uptoBulkAll {H : Type} : List (DataW H) → Nat
  | [] => 0
  | d :: r => uptoBulk d + uptoBulkAll r
def uptoBulkEntries {H : Type} : List (Lit × DataW H) → Nat
  | [] => 0
  | x :: r => uptoBulkEntry x + uptoBulkEntries r
def uptoBulkEntry {H : Type} : Lit × DataW H → Nat
  | (.string bytes, d) => bytes.length + uptoBulk d + 1
  | (_, d) => uptoBulk d + 1
 end
def uptoSmall : (H : Type) → List (DataW H) → Bool := fun _ ds => decide (uptoBulkAll ds ≤ 1048576)
def OpenSpec.upto (s : _root_.Go.ChangeSpec) : _root_.Go.OpenSpec := { _root_.Go.OpenSpec.ofChange s with cond := some uptoSmall }

/-- 'soundpostlaw50.MidiSpec', WHERE WHAT IT READS IS OF BULK AT MOST 1048576: true; the input reads as it did. -/
def midiSpecUptoRow : OpenClaim := { program := "ytmfdflfjllpceaa", sum := "91877cc0110021e4ae356da64ae4352b5520337fd303ed240e757b5094589339", func := "soundpost/soundpostlaw50.MidiSpec", spec := "midiSpec", unfollowed := true, recurses := true, plainKeys := false, apart := false, narrowed := true }
def MidiSpecUptoSaid : Prop := midiSpecUptoRow.holds Try.pinned (OpenSpec.upto midiSpecSpec)

/-- 'soundpostlaw50.MidiPartsSpec', WHERE WHAT IT READS IS OF BULK AT MOST 1048576: true; the input reads as it did. -/
def midiPartsSpecUptoRow : OpenClaim := { program := "ytmfdflfjllpceaa", sum := "91877cc0110021e4ae356da64ae4352b5520337fd303ed240e757b5094589339", func := "soundpost/soundpostlaw50.MidiPartsSpec", spec := "midiPartsSpec", unfollowed := true, recurses := true, plainKeys := false, apart := false, narrowed := true }
def MidiPartsSpecUptoSaid : Prop := midiPartsSpecUptoRow.holds Try.pinned (OpenSpec.upto midiPartsSpecSpec)

/-- 'soundpostlaw50.MidiSorted', WHERE WHAT IT READS IS OF BULK AT MOST 1048576: true; the input reads as it did. -/
def midiSortedUptoRow : OpenClaim := { program := "ytmfdflfjllpceaa", sum := "91877cc0110021e4ae356da64ae4352b5520337fd303ed240e757b5094589339", func := "soundpost/soundpostlaw50.MidiSorted", spec := "midiSorted", unfollowed := true, recurses := true, plainKeys := false, apart := false, narrowed := true }
def MidiSortedUptoSaid : Prop := midiSortedUptoRow.holds Try.pinned (OpenSpec.upto midiSortedSpec)

/-- 'soundpostlaw50.MidiResolve', WHERE WHAT IT READS IS OF BULK AT MOST 1048576: true; the input reads as it did. -/
def midiResolveUptoRow : OpenClaim := { program := "ytmfdflfjllpceaa", sum := "91877cc0110021e4ae356da64ae4352b5520337fd303ed240e757b5094589339", func := "soundpost/soundpostlaw50.MidiResolve", spec := "midiResolve", unfollowed := true, recurses := true, plainKeys := false, apart := false, narrowed := true }
def MidiResolveUptoSaid : Prop := midiResolveUptoRow.holds Try.pinned (OpenSpec.upto midiResolveSpec)

/-- 'soundpostlaw50.MidiNotes', WHERE WHAT IT READS IS OF BULK AT MOST 1048576: true; the input reads as it did. -/
def midiNotesUptoRow : OpenClaim := { program := "ytmfdflfjllpceaa", sum := "91877cc0110021e4ae356da64ae4352b5520337fd303ed240e757b5094589339", func := "soundpost/soundpostlaw50.MidiNotes", spec := "midiNotes", unfollowed := true, recurses := true, plainKeys := false, apart := false, narrowed := true }
def MidiNotesUptoSaid : Prop := midiNotesUptoRow.holds Try.pinned (OpenSpec.upto midiNotesSpec)

/-- 'soundpostlaw50.MidiSlice', WHERE WHAT IT READS IS OF BULK AT MOST 1048576: true; the input reads as it did. -/
def midiSliceUptoRow : OpenClaim := { program := "ytmfdflfjllpceaa", sum := "91877cc0110021e4ae356da64ae4352b5520337fd303ed240e757b5094589339", func := "soundpost/soundpostlaw50.MidiSlice", spec := "midiSlice", unfollowed := true, recurses := true, plainKeys := false, apart := false, narrowed := true }
def MidiSliceUptoSaid : Prop := midiSliceUptoRow.holds Try.pinned (OpenSpec.upto midiSliceSpec)

/-- 'soundpostlaw50.MidiDivided', WHERE WHAT IT READS IS OF BULK AT MOST 1048576: true; the input reads as it did. -/
def midiDividedUptoRow : OpenClaim := { program := "ytmfdflfjllpceaa", sum := "91877cc0110021e4ae356da64ae4352b5520337fd303ed240e757b5094589339", func := "soundpost/soundpostlaw50.MidiDivided", spec := "midiDivided", unfollowed := true, recurses := true, plainKeys := false, apart := false, narrowed := true }
def MidiDividedUptoSaid : Prop := midiDividedUptoRow.holds Try.pinned (OpenSpec.upto midiDividedSpec)

end Rows
end Go.Proofs.Ytmfdflfjllpceaa
