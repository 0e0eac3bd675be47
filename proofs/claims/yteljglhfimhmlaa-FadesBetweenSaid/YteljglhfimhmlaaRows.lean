/-
  No cell of these rows narrows 'for every input' (looked for: loops, veiled, ifaces, maps, wideKeys, modest, calm, conditions, laid).
  DERIVED. THE GIVEN ROWS OF THIS SEAT. 20 by the template 'for every input the law returns true; each argument reads behind the call as it read before'; 0 by the template 'total and deterministic' (their statements: YteljglhfimhmlaaTotals.lean).
  GIVEN WITH THE SEED: the statements are not yours to turn. If you find one false, say at which input.
  Laid BY PROGRAM, IN A SANDBOX (cutbox-rows.mjs): the forced cells as the released guide's own fill.sh prints them over the translation 7e1021b49b93c585… (all of the seat's roots in one cut). By AI agents, Wed Nov 11 2026. No macro, syntax, notation, axiom, sorry.
-/
import Derived.Test.YteljglhfimhmlaaChecked
import GoSem.Claim
import GoSem.ClaimJoined
import GoSem.ClaimMapViews
import Derived.JoinedTies
import Derived.KernelRfl
namespace Go.Proofs.Yteljglhfimhmlaa
/- THE CELL 'sum', in the pinned program and in every row, IS THE sha256 OF THE DUMP (.gsa) THAT YteljglhfimhmlaaProg.lean LOADS. Nothing in Lean hashes anything: it is a label: what it is worth is what the hold of that sum in a sandbox is worth. -/
noncomputable def Try.pinned : Pinned := { name := "yteljglhfimhmlaa", sum := "7e1021b49b93c58597c0dfa52d5af155259d8143dab45e80b9f03b9e49c3f286", checked := Try.checked }
namespace Rows
def none {H : Type} : Left H := { results := [], args := [] }

/-- 'soundpostlaw08.FixedSpec': WHATEVER THE INPUT: true; the input reads as it did. -/
def fixedSpecSpec : ChangeSpec := { name := "fixedSpec", fn := fun _ => fun
  | [d1, d2] => { results := [.lit (.bool true)], args := [d1, d2] }
  | _ => none }
def fixedSpecRow : OpenClaim := { program := "yteljglhfimhmlaa", sum := "7e1021b49b93c58597c0dfa52d5af155259d8143dab45e80b9f03b9e49c3f286", func := "soundpost/soundpostlaw08.FixedSpec", spec := "fixedSpec", unfollowed := true, recurses := true, apart := false }
def FixedSpecSaid : Prop := fixedSpecRow.holds Try.pinned (OpenSpec.ofChange fixedSpecSpec)

/-- ITS FALSE NEIGHBOUR: 'it returns false'. Refute it at one input. -/
def fixedSpecWrong : ChangeSpec := { name := "fixedSpec", fn := fun _ => fun
  | [d1, d2] => { results := [.lit (.bool false)], args := [d1, d2] }
  | _ => none }
def FixedSpecWrongFalsely : Prop := fixedSpecRow.holds Try.pinned (OpenSpec.ofChange fixedSpecWrong)

/-- 'soundpostlaw08.FixedMixSpec': WHATEVER THE INPUT: true; the input reads as it did. -/
def fixedMixSpecSpec : ChangeSpec := { name := "fixedMixSpec", fn := fun _ => fun
  | [d] => { results := [.lit (.bool true)], args := [d] }
  | _ => none }
def fixedMixSpecRow : OpenClaim := { program := "yteljglhfimhmlaa", sum := "7e1021b49b93c58597c0dfa52d5af155259d8143dab45e80b9f03b9e49c3f286", func := "soundpost/soundpostlaw08.FixedMixSpec", spec := "fixedMixSpec", unfollowed := true, recurses := true, apart := false }
def FixedMixSpecSaid : Prop := fixedMixSpecRow.holds Try.pinned (OpenSpec.ofChange fixedMixSpecSpec)

/-- ITS FALSE NEIGHBOUR: 'it returns false'. Refute it at one input. -/
def fixedMixSpecWrong : ChangeSpec := { name := "fixedMixSpec", fn := fun _ => fun
  | [d] => { results := [.lit (.bool false)], args := [d] }
  | _ => none }
def FixedMixSpecWrongFalsely : Prop := fixedMixSpecRow.holds Try.pinned (OpenSpec.ofChange fixedMixSpecWrong)

/-- 'soundpostlaw08.FixedLineSpec': WHATEVER THE INPUT: true; the input reads as it did. -/
def fixedLineSpecSpec : ChangeSpec := { name := "fixedLineSpec", fn := fun _ => fun
  | [d1, d2, d3, d4, d5, d6] => { results := [.lit (.bool true)], args := [d1, d2, d3, d4, d5, d6] }
  | _ => none }
def fixedLineSpecRow : OpenClaim := { program := "yteljglhfimhmlaa", sum := "7e1021b49b93c58597c0dfa52d5af155259d8143dab45e80b9f03b9e49c3f286", func := "soundpost/soundpostlaw08.FixedLineSpec", spec := "fixedLineSpec", unfollowed := true, recurses := true, apart := false }
def FixedLineSpecSaid : Prop := fixedLineSpecRow.holds Try.pinned (OpenSpec.ofChange fixedLineSpecSpec)

/-- ITS FALSE NEIGHBOUR: 'it returns false'. Refute it at one input. -/
def fixedLineSpecWrong : ChangeSpec := { name := "fixedLineSpec", fn := fun _ => fun
  | [d1, d2, d3, d4, d5, d6] => { results := [.lit (.bool false)], args := [d1, d2, d3, d4, d5, d6] }
  | _ => none }
def FixedLineSpecWrongFalsely : Prop := fixedLineSpecRow.holds Try.pinned (OpenSpec.ofChange fixedLineSpecWrong)

/-- 'soundpostlaw08.FixedMixed': WHATEVER THE INPUT: true; the input reads as it did. -/
def fixedMixedSpec : ChangeSpec := { name := "fixedMixed", fn := fun _ => fun
  | [d1, d2, d3] => { results := [.lit (.bool true)], args := [d1, d2, d3] }
  | _ => none }
def fixedMixedRow : OpenClaim := { program := "yteljglhfimhmlaa", sum := "7e1021b49b93c58597c0dfa52d5af155259d8143dab45e80b9f03b9e49c3f286", func := "soundpost/soundpostlaw08.FixedMixed", spec := "fixedMixed", unfollowed := true, recurses := true, apart := false }
def FixedMixedSaid : Prop := fixedMixedRow.holds Try.pinned (OpenSpec.ofChange fixedMixedSpec)

/-- ITS FALSE NEIGHBOUR: 'it returns false'. Refute it at one input. -/
def fixedMixedWrong : ChangeSpec := { name := "fixedMixed", fn := fun _ => fun
  | [d1, d2, d3] => { results := [.lit (.bool false)], args := [d1, d2, d3] }
  | _ => none }
def FixedMixedWrongFalsely : Prop := fixedMixedRow.holds Try.pinned (OpenSpec.ofChange fixedMixedWrong)

/-- 'soundpostlaw08.FixedGains': WHATEVER THE INPUT: true; the input reads as it did. -/
def fixedGainsSpec : ChangeSpec := { name := "fixedGains", fn := fun _ => fun
  | [d1, d2] => { results := [.lit (.bool true)], args := [d1, d2] }
  | _ => none }
def fixedGainsRow : OpenClaim := { program := "yteljglhfimhmlaa", sum := "7e1021b49b93c58597c0dfa52d5af155259d8143dab45e80b9f03b9e49c3f286", func := "soundpost/soundpostlaw08.FixedGains", spec := "fixedGains", unfollowed := true, recurses := true, apart := false }
def FixedGainsSaid : Prop := fixedGainsRow.holds Try.pinned (OpenSpec.ofChange fixedGainsSpec)

/-- ITS FALSE NEIGHBOUR: 'it returns false'. Refute it at one input. -/
def fixedGainsWrong : ChangeSpec := { name := "fixedGains", fn := fun _ => fun
  | [d1, d2] => { results := [.lit (.bool false)], args := [d1, d2] }
  | _ => none }
def FixedGainsWrongFalsely : Prop := fixedGainsRow.holds Try.pinned (OpenSpec.ofChange fixedGainsWrong)

/-- 'soundpostlaw08.FixedEnds': WHATEVER THE INPUT: true; the input reads as it did. -/
def fixedEndsSpec : ChangeSpec := { name := "fixedEnds", fn := fun _ => fun
  | [d1, d2, d3, d4, d5, d6] => { results := [.lit (.bool true)], args := [d1, d2, d3, d4, d5, d6] }
  | _ => none }
def fixedEndsRow : OpenClaim := { program := "yteljglhfimhmlaa", sum := "7e1021b49b93c58597c0dfa52d5af155259d8143dab45e80b9f03b9e49c3f286", func := "soundpost/soundpostlaw08.FixedEnds", spec := "fixedEnds", unfollowed := true, recurses := true, apart := false }
def FixedEndsSaid : Prop := fixedEndsRow.holds Try.pinned (OpenSpec.ofChange fixedEndsSpec)

/-- ITS FALSE NEIGHBOUR: 'it returns false'. Refute it at one input. -/
def fixedEndsWrong : ChangeSpec := { name := "fixedEnds", fn := fun _ => fun
  | [d1, d2, d3, d4, d5, d6] => { results := [.lit (.bool false)], args := [d1, d2, d3, d4, d5, d6] }
  | _ => none }
def FixedEndsWrongFalsely : Prop := fixedEndsRow.holds Try.pinned (OpenSpec.ofChange fixedEndsWrong)

/-- 'soundpostlaw08.FixedOrder': WHATEVER THE INPUT: true; the input reads as it did. -/
def fixedOrderSpec : ChangeSpec := { name := "fixedOrder", fn := fun _ => fun
  | [d1, d2, d3] => { results := [.lit (.bool true)], args := [d1, d2, d3] }
  | _ => none }
def fixedOrderRow : OpenClaim := { program := "yteljglhfimhmlaa", sum := "7e1021b49b93c58597c0dfa52d5af155259d8143dab45e80b9f03b9e49c3f286", func := "soundpost/soundpostlaw08.FixedOrder", spec := "fixedOrder", unfollowed := true, recurses := true, apart := false }
def FixedOrderSaid : Prop := fixedOrderRow.holds Try.pinned (OpenSpec.ofChange fixedOrderSpec)

/-- ITS FALSE NEIGHBOUR: 'it returns false'. Refute it at one input. -/
def fixedOrderWrong : ChangeSpec := { name := "fixedOrder", fn := fun _ => fun
  | [d1, d2, d3] => { results := [.lit (.bool false)], args := [d1, d2, d3] }
  | _ => none }
def FixedOrderWrongFalsely : Prop := fixedOrderRow.holds Try.pinned (OpenSpec.ofChange fixedOrderWrong)

/-- 'soundpostlaw27.FadesGainSpec': WHATEVER THE INPUT: true; the input reads as it did. -/
def fadesGainSpecSpec : ChangeSpec := { name := "fadesGainSpec", fn := fun _ => fun
  | [d1, d2] => { results := [.lit (.bool true)], args := [d1, d2] }
  | _ => none }
def fadesGainSpecRow : OpenClaim := { program := "yteljglhfimhmlaa", sum := "7e1021b49b93c58597c0dfa52d5af155259d8143dab45e80b9f03b9e49c3f286", func := "soundpost/soundpostlaw27.FadesGainSpec", spec := "fadesGainSpec", unfollowed := true, recurses := true, apart := false }
def FadesGainSpecSaid : Prop := fadesGainSpecRow.holds Try.pinned (OpenSpec.ofChange fadesGainSpecSpec)

/-- ITS FALSE NEIGHBOUR: 'it returns false'. Refute it at one input. -/
def fadesGainSpecWrong : ChangeSpec := { name := "fadesGainSpec", fn := fun _ => fun
  | [d1, d2] => { results := [.lit (.bool false)], args := [d1, d2] }
  | _ => none }
def FadesGainSpecWrongFalsely : Prop := fadesGainSpecRow.holds Try.pinned (OpenSpec.ofChange fadesGainSpecWrong)

/-- 'soundpostlaw27.FadesSpec': WHATEVER THE INPUT: true; the input reads as it did. -/
def fadesSpecSpec : ChangeSpec := { name := "fadesSpec", fn := fun _ => fun
  | [d1, d2] => { results := [.lit (.bool true)], args := [d1, d2] }
  | _ => none }
def fadesSpecRow : OpenClaim := { program := "yteljglhfimhmlaa", sum := "7e1021b49b93c58597c0dfa52d5af155259d8143dab45e80b9f03b9e49c3f286", func := "soundpost/soundpostlaw27.FadesSpec", spec := "fadesSpec", unfollowed := true, recurses := true, apart := false }
def FadesSpecSaid : Prop := fadesSpecRow.holds Try.pinned (OpenSpec.ofChange fadesSpecSpec)

/-- ITS FALSE NEIGHBOUR: 'it returns false'. Refute it at one input. -/
def fadesSpecWrong : ChangeSpec := { name := "fadesSpec", fn := fun _ => fun
  | [d1, d2] => { results := [.lit (.bool false)], args := [d1, d2] }
  | _ => none }
def FadesSpecWrongFalsely : Prop := fadesSpecRow.holds Try.pinned (OpenSpec.ofChange fadesSpecWrong)

/-- 'soundpostlaw27.FadesCrossSpec': WHATEVER THE INPUT: true; the input reads as it did. -/
def fadesCrossSpecSpec : ChangeSpec := { name := "fadesCrossSpec", fn := fun _ => fun
  | [d1, d2, d3] => { results := [.lit (.bool true)], args := [d1, d2, d3] }
  | _ => none }
def fadesCrossSpecRow : OpenClaim := { program := "yteljglhfimhmlaa", sum := "7e1021b49b93c58597c0dfa52d5af155259d8143dab45e80b9f03b9e49c3f286", func := "soundpost/soundpostlaw27.FadesCrossSpec", spec := "fadesCrossSpec", unfollowed := true, recurses := true, apart := false }
def FadesCrossSpecSaid : Prop := fadesCrossSpecRow.holds Try.pinned (OpenSpec.ofChange fadesCrossSpecSpec)

/-- ITS FALSE NEIGHBOUR: 'it returns false'. Refute it at one input. -/
def fadesCrossSpecWrong : ChangeSpec := { name := "fadesCrossSpec", fn := fun _ => fun
  | [d1, d2, d3] => { results := [.lit (.bool false)], args := [d1, d2, d3] }
  | _ => none }
def FadesCrossSpecWrongFalsely : Prop := fadesCrossSpecRow.holds Try.pinned (OpenSpec.ofChange fadesCrossSpecWrong)

/-- 'soundpostlaw27.FadesBetween': WHATEVER THE INPUT: true; the input reads as it did. -/
def fadesBetweenSpec : ChangeSpec := { name := "fadesBetween", fn := fun _ => fun
  | [d1, d2] => { results := [.lit (.bool true)], args := [d1, d2] }
  | _ => none }
def fadesBetweenRow : OpenClaim := { program := "yteljglhfimhmlaa", sum := "7e1021b49b93c58597c0dfa52d5af155259d8143dab45e80b9f03b9e49c3f286", func := "soundpost/soundpostlaw27.FadesBetween", spec := "fadesBetween", unfollowed := true, recurses := true, apart := false }
def FadesBetweenSaid : Prop := fadesBetweenRow.holds Try.pinned (OpenSpec.ofChange fadesBetweenSpec)

/-- ITS FALSE NEIGHBOUR: 'it returns false'. Refute it at one input. -/
def fadesBetweenWrong : ChangeSpec := { name := "fadesBetween", fn := fun _ => fun
  | [d1, d2] => { results := [.lit (.bool false)], args := [d1, d2] }
  | _ => none }
def FadesBetweenWrongFalsely : Prop := fadesBetweenRow.holds Try.pinned (OpenSpec.ofChange fadesBetweenWrong)

/-- 'soundpostlaw27.FadesBack': WHATEVER THE INPUT: true; the input reads as it did. -/
def fadesBackSpec : ChangeSpec := { name := "fadesBack", fn := fun _ => fun
  | [d1, d2, d3] => { results := [.lit (.bool true)], args := [d1, d2, d3] }
  | _ => none }
def fadesBackRow : OpenClaim := { program := "yteljglhfimhmlaa", sum := "7e1021b49b93c58597c0dfa52d5af155259d8143dab45e80b9f03b9e49c3f286", func := "soundpost/soundpostlaw27.FadesBack", spec := "fadesBack", unfollowed := true, recurses := true, apart := false }
def FadesBackSaid : Prop := fadesBackRow.holds Try.pinned (OpenSpec.ofChange fadesBackSpec)

/-- ITS FALSE NEIGHBOUR: 'it returns false'. Refute it at one input. -/
def fadesBackWrong : ChangeSpec := { name := "fadesBack", fn := fun _ => fun
  | [d1, d2, d3] => { results := [.lit (.bool false)], args := [d1, d2, d3] }
  | _ => none }
def FadesBackWrongFalsely : Prop := fadesBackRow.holds Try.pinned (OpenSpec.ofChange fadesBackWrong)

/-- 'soundpostlaw27.FadesOverlap': WHATEVER THE INPUT: true; the input reads as it did. -/
def fadesOverlapSpec : ChangeSpec := { name := "fadesOverlap", fn := fun _ => fun
  | [d1, d2, d3] => { results := [.lit (.bool true)], args := [d1, d2, d3] }
  | _ => none }
def fadesOverlapRow : OpenClaim := { program := "yteljglhfimhmlaa", sum := "7e1021b49b93c58597c0dfa52d5af155259d8143dab45e80b9f03b9e49c3f286", func := "soundpost/soundpostlaw27.FadesOverlap", spec := "fadesOverlap", unfollowed := true, recurses := true, apart := false }
def FadesOverlapSaid : Prop := fadesOverlapRow.holds Try.pinned (OpenSpec.ofChange fadesOverlapSpec)

/-- ITS FALSE NEIGHBOUR: 'it returns false'. Refute it at one input. -/
def fadesOverlapWrong : ChangeSpec := { name := "fadesOverlap", fn := fun _ => fun
  | [d1, d2, d3] => { results := [.lit (.bool false)], args := [d1, d2, d3] }
  | _ => none }
def FadesOverlapWrongFalsely : Prop := fadesOverlapRow.holds Try.pinned (OpenSpec.ofChange fadesOverlapWrong)

/-- 'soundpostlaw27.FadesEqual': WHATEVER THE INPUT: true; the input reads as it did. -/
def fadesEqualSpec : ChangeSpec := { name := "fadesEqual", fn := fun _ => fun
  | [d1, d2, d3] => { results := [.lit (.bool true)], args := [d1, d2, d3] }
  | _ => none }
def fadesEqualRow : OpenClaim := { program := "yteljglhfimhmlaa", sum := "7e1021b49b93c58597c0dfa52d5af155259d8143dab45e80b9f03b9e49c3f286", func := "soundpost/soundpostlaw27.FadesEqual", spec := "fadesEqual", unfollowed := true, recurses := true, apart := false }
def FadesEqualSaid : Prop := fadesEqualRow.holds Try.pinned (OpenSpec.ofChange fadesEqualSpec)

/-- ITS FALSE NEIGHBOUR: 'it returns false'. Refute it at one input. -/
def fadesEqualWrong : ChangeSpec := { name := "fadesEqual", fn := fun _ => fun
  | [d1, d2, d3] => { results := [.lit (.bool false)], args := [d1, d2, d3] }
  | _ => none }
def FadesEqualWrongFalsely : Prop := fadesEqualRow.holds Try.pinned (OpenSpec.ofChange fadesEqualWrong)

/-- 'soundpostlaw26.SpeedSpec': WHATEVER THE INPUT: true; the input reads as it did. -/
def speedSpecSpec : ChangeSpec := { name := "speedSpec", fn := fun _ => fun
  | [d1, d2, d3, d4, d5] => { results := [.lit (.bool true)], args := [d1, d2, d3, d4, d5] }
  | _ => none }
def speedSpecRow : OpenClaim := { program := "yteljglhfimhmlaa", sum := "7e1021b49b93c58597c0dfa52d5af155259d8143dab45e80b9f03b9e49c3f286", func := "soundpost/soundpostlaw26.SpeedSpec", spec := "speedSpec", unfollowed := true, recurses := true, apart := false }
def SpeedSpecSaid : Prop := speedSpecRow.holds Try.pinned (OpenSpec.ofChange speedSpecSpec)

/-- ITS FALSE NEIGHBOUR: 'it returns false'. Refute it at one input. -/
def speedSpecWrong : ChangeSpec := { name := "speedSpec", fn := fun _ => fun
  | [d1, d2, d3, d4, d5] => { results := [.lit (.bool false)], args := [d1, d2, d3, d4, d5] }
  | _ => none }
def SpeedSpecWrongFalsely : Prop := speedSpecRow.holds Try.pinned (OpenSpec.ofChange speedSpecWrong)

/-- 'soundpostlaw26.SpeedBack': WHATEVER THE INPUT: true; the input reads as it did. -/
def speedBackSpec : ChangeSpec := { name := "speedBack", fn := fun _ => fun
  | [d1, d2, d3] => { results := [.lit (.bool true)], args := [d1, d2, d3] }
  | _ => none }
def speedBackRow : OpenClaim := { program := "yteljglhfimhmlaa", sum := "7e1021b49b93c58597c0dfa52d5af155259d8143dab45e80b9f03b9e49c3f286", func := "soundpost/soundpostlaw26.SpeedBack", spec := "speedBack", unfollowed := true, recurses := true, apart := false }
def SpeedBackSaid : Prop := speedBackRow.holds Try.pinned (OpenSpec.ofChange speedBackSpec)

/-- ITS FALSE NEIGHBOUR: 'it returns false'. Refute it at one input. -/
def speedBackWrong : ChangeSpec := { name := "speedBack", fn := fun _ => fun
  | [d1, d2, d3] => { results := [.lit (.bool false)], args := [d1, d2, d3] }
  | _ => none }
def SpeedBackWrongFalsely : Prop := speedBackRow.holds Try.pinned (OpenSpec.ofChange speedBackWrong)

/-- 'soundpostlaw26.SpeedLen': WHATEVER THE INPUT: true; the input reads as it did. -/
def speedLenSpec : ChangeSpec := { name := "speedLen", fn := fun _ => fun
  | [d1, d2, d3] => { results := [.lit (.bool true)], args := [d1, d2, d3] }
  | _ => none }
def speedLenRow : OpenClaim := { program := "yteljglhfimhmlaa", sum := "7e1021b49b93c58597c0dfa52d5af155259d8143dab45e80b9f03b9e49c3f286", func := "soundpost/soundpostlaw26.SpeedLen", spec := "speedLen", unfollowed := true, recurses := true, apart := false }
def SpeedLenSaid : Prop := speedLenRow.holds Try.pinned (OpenSpec.ofChange speedLenSpec)

/-- ITS FALSE NEIGHBOUR: 'it returns false'. Refute it at one input. -/
def speedLenWrong : ChangeSpec := { name := "speedLen", fn := fun _ => fun
  | [d1, d2, d3] => { results := [.lit (.bool false)], args := [d1, d2, d3] }
  | _ => none }
def SpeedLenWrongFalsely : Prop := speedLenRow.holds Try.pinned (OpenSpec.ofChange speedLenWrong)

/-- 'soundpostlaw26.SpeedBetween': WHATEVER THE INPUT: true; the input reads as it did. -/
def speedBetweenSpec : ChangeSpec := { name := "speedBetween", fn := fun _ => fun
  | [d1, d2, d3, d4] => { results := [.lit (.bool true)], args := [d1, d2, d3, d4] }
  | _ => none }
def speedBetweenRow : OpenClaim := { program := "yteljglhfimhmlaa", sum := "7e1021b49b93c58597c0dfa52d5af155259d8143dab45e80b9f03b9e49c3f286", func := "soundpost/soundpostlaw26.SpeedBetween", spec := "speedBetween", unfollowed := true, recurses := true, apart := false }
def SpeedBetweenSaid : Prop := speedBetweenRow.holds Try.pinned (OpenSpec.ofChange speedBetweenSpec)

/-- ITS FALSE NEIGHBOUR: 'it returns false'. Refute it at one input. -/
def speedBetweenWrong : ChangeSpec := { name := "speedBetween", fn := fun _ => fun
  | [d1, d2, d3, d4] => { results := [.lit (.bool false)], args := [d1, d2, d3, d4] }
  | _ => none }
def SpeedBetweenWrongFalsely : Prop := speedBetweenRow.holds Try.pinned (OpenSpec.ofChange speedBetweenWrong)

/-- 'soundpostlaw26.SpeedLine': WHATEVER THE INPUT: true; the input reads as it did. -/
def speedLineSpec : ChangeSpec := { name := "speedLine", fn := fun _ => fun
  | [d1, d2, d3, d4, d5] => { results := [.lit (.bool true)], args := [d1, d2, d3, d4, d5] }
  | _ => none }
def speedLineRow : OpenClaim := { program := "yteljglhfimhmlaa", sum := "7e1021b49b93c58597c0dfa52d5af155259d8143dab45e80b9f03b9e49c3f286", func := "soundpost/soundpostlaw26.SpeedLine", spec := "speedLine", unfollowed := true, recurses := true, apart := false }
def SpeedLineSaid : Prop := speedLineRow.holds Try.pinned (OpenSpec.ofChange speedLineSpec)

/-- ITS FALSE NEIGHBOUR: 'it returns false'. Refute it at one input. -/
def speedLineWrong : ChangeSpec := { name := "speedLine", fn := fun _ => fun
  | [d1, d2, d3, d4, d5] => { results := [.lit (.bool false)], args := [d1, d2, d3, d4, d5] }
  | _ => none }
def SpeedLineWrongFalsely : Prop := speedLineRow.holds Try.pinned (OpenSpec.ofChange speedLineWrong)

/-- 'soundpostlaw26.SpeedParts': WHATEVER THE INPUT: true; the input reads as it did. -/
def speedPartsSpec : ChangeSpec := { name := "speedParts", fn := fun _ => fun
  | [d1, d2, d3, d4] => { results := [.lit (.bool true)], args := [d1, d2, d3, d4] }
  | _ => none }
def speedPartsRow : OpenClaim := { program := "yteljglhfimhmlaa", sum := "7e1021b49b93c58597c0dfa52d5af155259d8143dab45e80b9f03b9e49c3f286", func := "soundpost/soundpostlaw26.SpeedParts", spec := "speedParts", unfollowed := true, recurses := true, apart := false }
def SpeedPartsSaid : Prop := speedPartsRow.holds Try.pinned (OpenSpec.ofChange speedPartsSpec)

/-- ITS FALSE NEIGHBOUR: 'it returns false'. Refute it at one input. -/
def speedPartsWrong : ChangeSpec := { name := "speedParts", fn := fun _ => fun
  | [d1, d2, d3, d4] => { results := [.lit (.bool false)], args := [d1, d2, d3, d4] }
  | _ => none }
def SpeedPartsWrongFalsely : Prop := speedPartsRow.holds Try.pinned (OpenSpec.ofChange speedPartsWrong)

/- THE SECOND FORM. 'bulk': how many values and letters a reading holds, each counted each time it is reached (what is shared counts as often as it is met; a slice's spare places count too). A statement '..UptoSaid' is the law's where the arguments, and the package variables that the reading takes, are together of bulk at most 1048576: NARROWER than '..Said'. Prove '..Said' where nothing that the law and all that it calls make is longer than what came in: it says more and counts as full. Else prove '..UptoSaid'. A law counts once. -/
mutual
def uptoBulk {H : Type} : DataW H → Nat
  | .lit (.string bytes) => bytes.length + 1
  | .lit _ => 1
  | .nil => 1
  | .ptr d => uptoBulk d + 1
  | .slice elems spare => uptoBulkAll elems + uptoBulkAll spare + 1
  | .agg parts => uptoBulkAll parts + 1
  | .iface _ d => uptoBulk d + 1
  | .map entries => uptoBulkEntries entries + 1
  | .held _ => 1
def uptoBulkAll {H : Type} : List (DataW H) → Nat
  | [] => 0
  | d :: r => uptoBulk d + uptoBulkAll r
def uptoBulkEntries {H : Type} : List (Lit × DataW H) → Nat
  | [] => 0
  | x :: r => uptoBulkEntry x + uptoBulkEntries r
def uptoBulkEntry {H : Type} : Lit × DataW H → Nat
  | (.string bytes, d) => bytes.length + uptoBulk d + 1
  | (_, d) => uptoBulk d + 1
 end
def uptoSmall : (H : Type) → List (DataW H) → Bool := fun _ ds => decide (uptoBulkAll ds ≤ 1048576)
def OpenSpec.upto (s : _root_.Go.ChangeSpec) : _root_.Go.OpenSpec := { _root_.Go.OpenSpec.ofChange s with cond := some uptoSmall }

/-- 'soundpostlaw08.FixedSpec', WHERE WHAT IT READS IS OF BULK AT MOST 1048576: true; the input reads as it did. -/
def fixedSpecUptoRow : OpenClaim := { program := "yteljglhfimhmlaa", sum := "7e1021b49b93c58597c0dfa52d5af155259d8143dab45e80b9f03b9e49c3f286", func := "soundpost/soundpostlaw08.FixedSpec", spec := "fixedSpec", unfollowed := true, recurses := true, apart := false, narrowed := true }
def FixedSpecUptoSaid : Prop := fixedSpecUptoRow.holds Try.pinned (OpenSpec.upto fixedSpecSpec)

/-- 'soundpostlaw08.FixedMixSpec', WHERE WHAT IT READS IS OF BULK AT MOST 1048576: true; the input reads as it did. -/
def fixedMixSpecUptoRow : OpenClaim := { program := "yteljglhfimhmlaa", sum := "7e1021b49b93c58597c0dfa52d5af155259d8143dab45e80b9f03b9e49c3f286", func := "soundpost/soundpostlaw08.FixedMixSpec", spec := "fixedMixSpec", unfollowed := true, recurses := true, apart := false, narrowed := true }
def FixedMixSpecUptoSaid : Prop := fixedMixSpecUptoRow.holds Try.pinned (OpenSpec.upto fixedMixSpecSpec)

/-- 'soundpostlaw08.FixedLineSpec', WHERE WHAT IT READS IS OF BULK AT MOST 1048576: true; the input reads as it did. -/
def fixedLineSpecUptoRow : OpenClaim := { program := "yteljglhfimhmlaa", sum := "7e1021b49b93c58597c0dfa52d5af155259d8143dab45e80b9f03b9e49c3f286", func := "soundpost/soundpostlaw08.FixedLineSpec", spec := "fixedLineSpec", unfollowed := true, recurses := true, apart := false, narrowed := true }
def FixedLineSpecUptoSaid : Prop := fixedLineSpecUptoRow.holds Try.pinned (OpenSpec.upto fixedLineSpecSpec)

/-- 'soundpostlaw08.FixedMixed', WHERE WHAT IT READS IS OF BULK AT MOST 1048576: true; the input reads as it did. -/
def fixedMixedUptoRow : OpenClaim := { program := "yteljglhfimhmlaa", sum := "7e1021b49b93c58597c0dfa52d5af155259d8143dab45e80b9f03b9e49c3f286", func := "soundpost/soundpostlaw08.FixedMixed", spec := "fixedMixed", unfollowed := true, recurses := true, apart := false, narrowed := true }
def FixedMixedUptoSaid : Prop := fixedMixedUptoRow.holds Try.pinned (OpenSpec.upto fixedMixedSpec)

/-- 'soundpostlaw08.FixedGains', WHERE WHAT IT READS IS OF BULK AT MOST 1048576: true; the input reads as it did. -/
def fixedGainsUptoRow : OpenClaim := { program := "yteljglhfimhmlaa", sum := "7e1021b49b93c58597c0dfa52d5af155259d8143dab45e80b9f03b9e49c3f286", func := "soundpost/soundpostlaw08.FixedGains", spec := "fixedGains", unfollowed := true, recurses := true, apart := false, narrowed := true }
def FixedGainsUptoSaid : Prop := fixedGainsUptoRow.holds Try.pinned (OpenSpec.upto fixedGainsSpec)

/-- 'soundpostlaw08.FixedEnds', WHERE WHAT IT READS IS OF BULK AT MOST 1048576: true; the input reads as it did. -/
def fixedEndsUptoRow : OpenClaim := { program := "yteljglhfimhmlaa", sum := "7e1021b49b93c58597c0dfa52d5af155259d8143dab45e80b9f03b9e49c3f286", func := "soundpost/soundpostlaw08.FixedEnds", spec := "fixedEnds", unfollowed := true, recurses := true, apart := false, narrowed := true }
def FixedEndsUptoSaid : Prop := fixedEndsUptoRow.holds Try.pinned (OpenSpec.upto fixedEndsSpec)

/-- 'soundpostlaw08.FixedOrder', WHERE WHAT IT READS IS OF BULK AT MOST 1048576: true; the input reads as it did. -/
def fixedOrderUptoRow : OpenClaim := { program := "yteljglhfimhmlaa", sum := "7e1021b49b93c58597c0dfa52d5af155259d8143dab45e80b9f03b9e49c3f286", func := "soundpost/soundpostlaw08.FixedOrder", spec := "fixedOrder", unfollowed := true, recurses := true, apart := false, narrowed := true }
def FixedOrderUptoSaid : Prop := fixedOrderUptoRow.holds Try.pinned (OpenSpec.upto fixedOrderSpec)

/-- 'soundpostlaw27.FadesGainSpec', WHERE WHAT IT READS IS OF BULK AT MOST 1048576: true; the input reads as it did. -/
def fadesGainSpecUptoRow : OpenClaim := { program := "yteljglhfimhmlaa", sum := "7e1021b49b93c58597c0dfa52d5af155259d8143dab45e80b9f03b9e49c3f286", func := "soundpost/soundpostlaw27.FadesGainSpec", spec := "fadesGainSpec", unfollowed := true, recurses := true, apart := false, narrowed := true }
def FadesGainSpecUptoSaid : Prop := fadesGainSpecUptoRow.holds Try.pinned (OpenSpec.upto fadesGainSpecSpec)

/-- 'soundpostlaw27.FadesSpec', WHERE WHAT IT READS IS OF BULK AT MOST 1048576: true; the input reads as it did. -/
def fadesSpecUptoRow : OpenClaim := { program := "yteljglhfimhmlaa", sum := "7e1021b49b93c58597c0dfa52d5af155259d8143dab45e80b9f03b9e49c3f286", func := "soundpost/soundpostlaw27.FadesSpec", spec := "fadesSpec", unfollowed := true, recurses := true, apart := false, narrowed := true }
def FadesSpecUptoSaid : Prop := fadesSpecUptoRow.holds Try.pinned (OpenSpec.upto fadesSpecSpec)

/-- 'soundpostlaw27.FadesCrossSpec', WHERE WHAT IT READS IS OF BULK AT MOST 1048576: true; the input reads as it did. -/
def fadesCrossSpecUptoRow : OpenClaim := { program := "yteljglhfimhmlaa", sum := "7e1021b49b93c58597c0dfa52d5af155259d8143dab45e80b9f03b9e49c3f286", func := "soundpost/soundpostlaw27.FadesCrossSpec", spec := "fadesCrossSpec", unfollowed := true, recurses := true, apart := false, narrowed := true }
def FadesCrossSpecUptoSaid : Prop := fadesCrossSpecUptoRow.holds Try.pinned (OpenSpec.upto fadesCrossSpecSpec)

/-- 'soundpostlaw27.FadesBetween', WHERE WHAT IT READS IS OF BULK AT MOST 1048576: true; the input reads as it did. -/
def fadesBetweenUptoRow : OpenClaim := { program := "yteljglhfimhmlaa", sum := "7e1021b49b93c58597c0dfa52d5af155259d8143dab45e80b9f03b9e49c3f286", func := "soundpost/soundpostlaw27.FadesBetween", spec := "fadesBetween", unfollowed := true, recurses := true, apart := false, narrowed := true }
def FadesBetweenUptoSaid : Prop := fadesBetweenUptoRow.holds Try.pinned (OpenSpec.upto fadesBetweenSpec)

/-- 'soundpostlaw27.FadesBack', WHERE WHAT IT READS IS OF BULK AT MOST 1048576: true; the input reads as it did. -/
def fadesBackUptoRow : OpenClaim := { program := "yteljglhfimhmlaa", sum := "7e1021b49b93c58597c0dfa52d5af155259d8143dab45e80b9f03b9e49c3f286", func := "soundpost/soundpostlaw27.FadesBack", spec := "fadesBack", unfollowed := true, recurses := true, apart := false, narrowed := true }
def FadesBackUptoSaid : Prop := fadesBackUptoRow.holds Try.pinned (OpenSpec.upto fadesBackSpec)

/-- 'soundpostlaw27.FadesOverlap', WHERE WHAT IT READS IS OF BULK AT MOST 1048576: true; the input reads as it did. -/
def fadesOverlapUptoRow : OpenClaim := { program := "yteljglhfimhmlaa", sum := "7e1021b49b93c58597c0dfa52d5af155259d8143dab45e80b9f03b9e49c3f286", func := "soundpost/soundpostlaw27.FadesOverlap", spec := "fadesOverlap", unfollowed := true, recurses := true, apart := false, narrowed := true }
def FadesOverlapUptoSaid : Prop := fadesOverlapUptoRow.holds Try.pinned (OpenSpec.upto fadesOverlapSpec)

/-- 'soundpostlaw27.FadesEqual', WHERE WHAT IT READS IS OF BULK AT MOST 1048576: true; the input reads as it did. -/
def fadesEqualUptoRow : OpenClaim := { program := "yteljglhfimhmlaa", sum := "7e1021b49b93c58597c0dfa52d5af155259d8143dab45e80b9f03b9e49c3f286", func := "soundpost/soundpostlaw27.FadesEqual", spec := "fadesEqual", unfollowed := true, recurses := true, apart := false, narrowed := true }
def FadesEqualUptoSaid : Prop := fadesEqualUptoRow.holds Try.pinned (OpenSpec.upto fadesEqualSpec)

/-- 'soundpostlaw26.SpeedSpec', WHERE WHAT IT READS IS OF BULK AT MOST 1048576: true; the input reads as it did. -/
def speedSpecUptoRow : OpenClaim := { program := "yteljglhfimhmlaa", sum := "7e1021b49b93c58597c0dfa52d5af155259d8143dab45e80b9f03b9e49c3f286", func := "soundpost/soundpostlaw26.SpeedSpec", spec := "speedSpec", unfollowed := true, recurses := true, apart := false, narrowed := true }
def SpeedSpecUptoSaid : Prop := speedSpecUptoRow.holds Try.pinned (OpenSpec.upto speedSpecSpec)

/-- 'soundpostlaw26.SpeedBack', WHERE WHAT IT READS IS OF BULK AT MOST 1048576: true; the input reads as it did. -/
def speedBackUptoRow : OpenClaim := { program := "yteljglhfimhmlaa", sum := "7e1021b49b93c58597c0dfa52d5af155259d8143dab45e80b9f03b9e49c3f286", func := "soundpost/soundpostlaw26.SpeedBack", spec := "speedBack", unfollowed := true, recurses := true, apart := false, narrowed := true }
def SpeedBackUptoSaid : Prop := speedBackUptoRow.holds Try.pinned (OpenSpec.upto speedBackSpec)

/-- 'soundpostlaw26.SpeedLen', WHERE WHAT IT READS IS OF BULK AT MOST 1048576: true; the input reads as it did. -/
def speedLenUptoRow : OpenClaim := { program := "yteljglhfimhmlaa", sum := "7e1021b49b93c58597c0dfa52d5af155259d8143dab45e80b9f03b9e49c3f286", func := "soundpost/soundpostlaw26.SpeedLen", spec := "speedLen", unfollowed := true, recurses := true, apart := false, narrowed := true }
def SpeedLenUptoSaid : Prop := speedLenUptoRow.holds Try.pinned (OpenSpec.upto speedLenSpec)

/-- 'soundpostlaw26.SpeedBetween', WHERE WHAT IT READS IS OF BULK AT MOST 1048576: true; the input reads as it did. -/
def speedBetweenUptoRow : OpenClaim := { program := "yteljglhfimhmlaa", sum := "7e1021b49b93c58597c0dfa52d5af155259d8143dab45e80b9f03b9e49c3f286", func := "soundpost/soundpostlaw26.SpeedBetween", spec := "speedBetween", unfollowed := true, recurses := true, apart := false, narrowed := true }
def SpeedBetweenUptoSaid : Prop := speedBetweenUptoRow.holds Try.pinned (OpenSpec.upto speedBetweenSpec)

/-- 'soundpostlaw26.SpeedLine', WHERE WHAT IT READS IS OF BULK AT MOST 1048576: true; the input reads as it did. -/
def speedLineUptoRow : OpenClaim := { program := "yteljglhfimhmlaa", sum := "7e1021b49b93c58597c0dfa52d5af155259d8143dab45e80b9f03b9e49c3f286", func := "soundpost/soundpostlaw26.SpeedLine", spec := "speedLine", unfollowed := true, recurses := true, apart := false, narrowed := true }
def SpeedLineUptoSaid : Prop := speedLineUptoRow.holds Try.pinned (OpenSpec.upto speedLineSpec)

/-- 'soundpostlaw26.SpeedParts', WHERE WHAT IT READS IS OF BULK AT MOST 1048576: true; the input reads as it did. -/
def speedPartsUptoRow : OpenClaim := { program := "yteljglhfimhmlaa", sum := "7e1021b49b93c58597c0dfa52d5af155259d8143dab45e80b9f03b9e49c3f286", func := "soundpost/soundpostlaw26.SpeedParts", spec := "speedParts", unfollowed := true, recurses := true, apart := false, narrowed := true }
def SpeedPartsUptoSaid : Prop := speedPartsUptoRow.holds Try.pinned (OpenSpec.upto speedPartsSpec)

end Rows
end Go.Proofs.Yteljglhfimhmlaa
