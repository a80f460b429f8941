/-
  No cell of these rows narrows 'for every input' (looked for: loops, veiled, ifaces, maps, wideKeys, modest, calm, conditions, laid).
  DERIVED. THE GIVEN ROWS OF THIS SEAT. 11 by the template 'for every input the law returns true; each argument reads behind the call as it read before'; 0 by the template 'total and deterministic' (their statements: YtdkmdcdoiaelfaaTotals.lean).
  GIVEN WITH THE SEED: the statements are not yours to turn. If you find one false, say at which input.
  Laid BY PROGRAM, IN A SANDBOX (cutbox-rows.mjs): the forced cells as the released guide's own fill.sh prints them over the translation 62a6266cdcb7649d… (all of the seat's roots in one cut). By AI agents, Wed Nov 11 2026. No macro, syntax, notation, axiom, sorry.
-/
import Derived.Test.YtdkmdcdoiaelfaaChecked
import GoSem.Claim
import GoSem.ClaimJoined
import GoSem.ClaimMapViews
import Derived.JoinedTies
import Derived.KernelRfl
namespace Go.Proofs.Ytdkmdcdoiaelfaa
/- THE CELL 'sum', in the pinned program and in every row, IS THE sha256 OF THE DUMP (.gsa) THAT YtdkmdcdoiaelfaaProg.lean LOADS. Nothing in Lean hashes anything: it is a label: what it is worth is what the hold of that sum in a sandbox is worth. -/
noncomputable def Try.pinned : Pinned := { name := "ytdkmdcdoiaelfaa", sum := "62a6266cdcb7649d07707737f326c7e91c9ffe64056b7893e4db4de383b070a6", checked := Try.checked }
namespace Rows
def none {H : Type} : Left H := { results := [], args := [] }

/-- 'cohesionlaw36.ExternalReads': WHATEVER THE INPUT: true; the input reads as it did. -/
def externalReadsSpec : ChangeSpec := { name := "externalReads", fn := fun _ => fun
  | [d1, d2] => { results := [.lit (.bool true)], args := [d1, d2] }
  | _ => none }
def externalReadsRow : OpenClaim := { program := "ytdkmdcdoiaelfaa", sum := "62a6266cdcb7649d07707737f326c7e91c9ffe64056b7893e4db4de383b070a6", func := "cohesion/cohesionlaw36.ExternalReads", spec := "externalReads", unfollowed := true, recurses := true, apart := false }
def ExternalReadsSaid : Prop := externalReadsRow.holds Try.pinned (OpenSpec.ofChange externalReadsSpec)

/-- ITS FALSE NEIGHBOUR: 'it returns false'. Refute it at one input. -/
def externalReadsWrong : ChangeSpec := { name := "externalReads", fn := fun _ => fun
  | [d1, d2] => { results := [.lit (.bool false)], args := [d1, d2] }
  | _ => none }
def ExternalReadsWrongFalsely : Prop := externalReadsRow.holds Try.pinned (OpenSpec.ofChange externalReadsWrong)

/-- 'cohesionlaw36.ExternalCores': WHATEVER THE INPUT: true; the input reads as it did. -/
def externalCoresSpec : ChangeSpec := { name := "externalCores", fn := fun _ => fun
  | [d1, d2] => { results := [.lit (.bool true)], args := [d1, d2] }
  | _ => none }
def externalCoresRow : OpenClaim := { program := "ytdkmdcdoiaelfaa", sum := "62a6266cdcb7649d07707737f326c7e91c9ffe64056b7893e4db4de383b070a6", func := "cohesion/cohesionlaw36.ExternalCores", spec := "externalCores", unfollowed := true, recurses := true, apart := false }
def ExternalCoresSaid : Prop := externalCoresRow.holds Try.pinned (OpenSpec.ofChange externalCoresSpec)

/-- ITS FALSE NEIGHBOUR: 'it returns false'. Refute it at one input. -/
def externalCoresWrong : ChangeSpec := { name := "externalCores", fn := fun _ => fun
  | [d1, d2] => { results := [.lit (.bool false)], args := [d1, d2] }
  | _ => none }
def ExternalCoresWrongFalsely : Prop := externalCoresRow.holds Try.pinned (OpenSpec.ofChange externalCoresWrong)

/-- 'cohesionlaw36.ExternalStarts': WHATEVER THE INPUT: true; the input reads as it did. -/
def externalStartsSpec : ChangeSpec := { name := "externalStarts", fn := fun _ => fun
  | [d] => { results := [.lit (.bool true)], args := [d] }
  | _ => none }
def externalStartsRow : OpenClaim := { program := "ytdkmdcdoiaelfaa", sum := "62a6266cdcb7649d07707737f326c7e91c9ffe64056b7893e4db4de383b070a6", func := "cohesion/cohesionlaw36.ExternalStarts", spec := "externalStarts", unfollowed := true, recurses := true, apart := false }
def ExternalStartsSaid : Prop := externalStartsRow.holds Try.pinned (OpenSpec.ofChange externalStartsSpec)

/-- ITS FALSE NEIGHBOUR: 'it returns false'. Refute it at one input. -/
def externalStartsWrong : ChangeSpec := { name := "externalStarts", fn := fun _ => fun
  | [d] => { results := [.lit (.bool false)], args := [d] }
  | _ => none }
def ExternalStartsWrongFalsely : Prop := externalStartsRow.holds Try.pinned (OpenSpec.ofChange externalStartsWrong)

/-- 'cohesionlaw36.ExternalValues': WHATEVER THE INPUT: true; the input reads as it did. -/
def externalValuesSpec : ChangeSpec := { name := "externalValues", fn := fun _ => fun
  | [d1, d2] => { results := [.lit (.bool true)], args := [d1, d2] }
  | _ => none }
def externalValuesRow : OpenClaim := { program := "ytdkmdcdoiaelfaa", sum := "62a6266cdcb7649d07707737f326c7e91c9ffe64056b7893e4db4de383b070a6", func := "cohesion/cohesionlaw36.ExternalValues", spec := "externalValues", unfollowed := true, recurses := true, apart := false }
def ExternalValuesSaid : Prop := externalValuesRow.holds Try.pinned (OpenSpec.ofChange externalValuesSpec)

/-- ITS FALSE NEIGHBOUR: 'it returns false'. Refute it at one input. -/
def externalValuesWrong : ChangeSpec := { name := "externalValues", fn := fun _ => fun
  | [d1, d2] => { results := [.lit (.bool false)], args := [d1, d2] }
  | _ => none }
def ExternalValuesWrongFalsely : Prop := externalValuesRow.holds Try.pinned (OpenSpec.ofChange externalValuesWrong)

/-- 'cohesionlaw38.RoundsPlans': WHATEVER THE INPUT: true; the input reads as it did. -/
def roundsPlansSpec : ChangeSpec := { name := "roundsPlans", fn := fun _ => fun
  | [d] => { results := [.lit (.bool true)], args := [d] }
  | _ => none }
def roundsPlansRow : OpenClaim := { program := "ytdkmdcdoiaelfaa", sum := "62a6266cdcb7649d07707737f326c7e91c9ffe64056b7893e4db4de383b070a6", func := "cohesion/cohesionlaw38.RoundsPlans", spec := "roundsPlans", unfollowed := true, recurses := true, apart := false }
def RoundsPlansSaid : Prop := roundsPlansRow.holds Try.pinned (OpenSpec.ofChange roundsPlansSpec)

/-- ITS FALSE NEIGHBOUR: 'it returns false'. Refute it at one input. -/
def roundsPlansWrong : ChangeSpec := { name := "roundsPlans", fn := fun _ => fun
  | [d] => { results := [.lit (.bool false)], args := [d] }
  | _ => none }
def RoundsPlansWrongFalsely : Prop := roundsPlansRow.holds Try.pinned (OpenSpec.ofChange roundsPlansWrong)

/-- 'cohesionlaw36.ExternalTriangles': WHATEVER THE INPUT: true; the input reads as it did. -/
def externalTrianglesSpec : ChangeSpec := { name := "externalTriangles", fn := fun _ => fun
  | [d1, d2, d3] => { results := [.lit (.bool true)], args := [d1, d2, d3] }
  | _ => none }
def externalTrianglesRow : OpenClaim := { program := "ytdkmdcdoiaelfaa", sum := "62a6266cdcb7649d07707737f326c7e91c9ffe64056b7893e4db4de383b070a6", func := "cohesion/cohesionlaw36.ExternalTriangles", spec := "externalTriangles", unfollowed := true, recurses := true, apart := false }
def ExternalTrianglesSaid : Prop := externalTrianglesRow.holds Try.pinned (OpenSpec.ofChange externalTrianglesSpec)

/-- ITS FALSE NEIGHBOUR: 'it returns false'. Refute it at one input. -/
def externalTrianglesWrong : ChangeSpec := { name := "externalTriangles", fn := fun _ => fun
  | [d1, d2, d3] => { results := [.lit (.bool false)], args := [d1, d2, d3] }
  | _ => none }
def ExternalTrianglesWrongFalsely : Prop := externalTrianglesRow.holds Try.pinned (OpenSpec.ofChange externalTrianglesWrong)

/-- 'cohesionlaw36.ExternalAnswers': WHATEVER THE INPUT: true; the input reads as it did. -/
def externalAnswersSpec : ChangeSpec := { name := "externalAnswers", fn := fun _ => fun
  | [d1, d2, d3, d4] => { results := [.lit (.bool true)], args := [d1, d2, d3, d4] }
  | _ => none }
def externalAnswersRow : OpenClaim := { program := "ytdkmdcdoiaelfaa", sum := "62a6266cdcb7649d07707737f326c7e91c9ffe64056b7893e4db4de383b070a6", func := "cohesion/cohesionlaw36.ExternalAnswers", spec := "externalAnswers", unfollowed := true, recurses := true, apart := false }
def ExternalAnswersSaid : Prop := externalAnswersRow.holds Try.pinned (OpenSpec.ofChange externalAnswersSpec)

/-- ITS FALSE NEIGHBOUR: 'it returns false'. Refute it at one input. -/
def externalAnswersWrong : ChangeSpec := { name := "externalAnswers", fn := fun _ => fun
  | [d1, d2, d3, d4] => { results := [.lit (.bool false)], args := [d1, d2, d3, d4] }
  | _ => none }
def ExternalAnswersWrongFalsely : Prop := externalAnswersRow.holds Try.pinned (OpenSpec.ofChange externalAnswersWrong)

/-- 'cohesionlaw38.RoundsFalls': WHATEVER THE INPUT: true; the input reads as it did. -/
def roundsFallsSpec : ChangeSpec := { name := "roundsFalls", fn := fun _ => fun
  | [d1, d2] => { results := [.lit (.bool true)], args := [d1, d2] }
  | _ => none }
def roundsFallsRow : OpenClaim := { program := "ytdkmdcdoiaelfaa", sum := "62a6266cdcb7649d07707737f326c7e91c9ffe64056b7893e4db4de383b070a6", func := "cohesion/cohesionlaw38.RoundsFalls", spec := "roundsFalls", unfollowed := true, recurses := true, apart := false }
def RoundsFallsSaid : Prop := roundsFallsRow.holds Try.pinned (OpenSpec.ofChange roundsFallsSpec)

/-- ITS FALSE NEIGHBOUR: 'it returns false'. Refute it at one input. -/
def roundsFallsWrong : ChangeSpec := { name := "roundsFalls", fn := fun _ => fun
  | [d1, d2] => { results := [.lit (.bool false)], args := [d1, d2] }
  | _ => none }
def RoundsFallsWrongFalsely : Prop := roundsFallsRow.holds Try.pinned (OpenSpec.ofChange roundsFallsWrong)

/-- 'cohesionlaw38.RoundsFew': WHATEVER THE INPUT: true; the input reads as it did. -/
def roundsFewSpec : ChangeSpec := { name := "roundsFew", fn := fun _ => fun
  | [d1, d2] => { results := [.lit (.bool true)], args := [d1, d2] }
  | _ => none }
def roundsFewRow : OpenClaim := { program := "ytdkmdcdoiaelfaa", sum := "62a6266cdcb7649d07707737f326c7e91c9ffe64056b7893e4db4de383b070a6", func := "cohesion/cohesionlaw38.RoundsFew", spec := "roundsFew", unfollowed := true, recurses := true, apart := false }
def RoundsFewSaid : Prop := roundsFewRow.holds Try.pinned (OpenSpec.ofChange roundsFewSpec)

/-- ITS FALSE NEIGHBOUR: 'it returns false'. Refute it at one input. -/
def roundsFewWrong : ChangeSpec := { name := "roundsFew", fn := fun _ => fun
  | [d1, d2] => { results := [.lit (.bool false)], args := [d1, d2] }
  | _ => none }
def RoundsFewWrongFalsely : Prop := roundsFewRow.holds Try.pinned (OpenSpec.ofChange roundsFewWrong)

/-- 'cohesionlaw38.RoundsEnds': WHATEVER THE INPUT: true; the input reads as it did. -/
def roundsEndsSpec : ChangeSpec := { name := "roundsEnds", fn := fun _ => fun
  | [d1, d2] => { results := [.lit (.bool true)], args := [d1, d2] }
  | _ => none }
def roundsEndsRow : OpenClaim := { program := "ytdkmdcdoiaelfaa", sum := "62a6266cdcb7649d07707737f326c7e91c9ffe64056b7893e4db4de383b070a6", func := "cohesion/cohesionlaw38.RoundsEnds", spec := "roundsEnds", unfollowed := true, recurses := true, apart := false }
def RoundsEndsSaid : Prop := roundsEndsRow.holds Try.pinned (OpenSpec.ofChange roundsEndsSpec)

/-- ITS FALSE NEIGHBOUR: 'it returns false'. Refute it at one input. -/
def roundsEndsWrong : ChangeSpec := { name := "roundsEnds", fn := fun _ => fun
  | [d1, d2] => { results := [.lit (.bool false)], args := [d1, d2] }
  | _ => none }
def RoundsEndsWrongFalsely : Prop := roundsEndsRow.holds Try.pinned (OpenSpec.ofChange roundsEndsWrong)

/-- 'cohesionlaw38.RoundsKnow': WHATEVER THE INPUT: true; the input reads as it did. -/
def roundsKnowSpec : ChangeSpec := { name := "roundsKnow", fn := fun _ => fun
  | [d1, d2, d3] => { results := [.lit (.bool true)], args := [d1, d2, d3] }
  | _ => none }
def roundsKnowRow : OpenClaim := { program := "ytdkmdcdoiaelfaa", sum := "62a6266cdcb7649d07707737f326c7e91c9ffe64056b7893e4db4de383b070a6", func := "cohesion/cohesionlaw38.RoundsKnow", spec := "roundsKnow", unfollowed := true, recurses := true, apart := false }
def RoundsKnowSaid : Prop := roundsKnowRow.holds Try.pinned (OpenSpec.ofChange roundsKnowSpec)

/-- ITS FALSE NEIGHBOUR: 'it returns false'. Refute it at one input. -/
def roundsKnowWrong : ChangeSpec := { name := "roundsKnow", fn := fun _ => fun
  | [d1, d2, d3] => { results := [.lit (.bool false)], args := [d1, d2, d3] }
  | _ => none }
def RoundsKnowWrongFalsely : Prop := roundsKnowRow.holds Try.pinned (OpenSpec.ofChange roundsKnowWrong)

/- THE SECOND FORM. 'bulk': how many values and letters a reading holds, each counted each time it is reached (what is shared counts as often as it is met; a slice's spare places count too). A statement '..UptoSaid' is the law's where the arguments, and the package variables that the reading takes, are together of bulk at most 1048576: NARROWER than '..Said'. Prove '..Said' where nothing that the law and all that it calls make is longer than what came in: it says more and counts as full. Else prove '..UptoSaid'. A law counts once. -/
mutual
def uptoBulk {H : Type} : DataW H → Nat
  | .lit (.string bytes) => bytes.length + 1
  | .lit _ => 1
  | .nil => 1
  | .ptr d => uptoBulk d + 1
  | .slice elems spare => uptoBulkAll elems + uptoBulkAll spare + 1
  | .agg parts => uptoBulkAll parts + 1
  | .iface _ d => uptoBulk d + 1
  | .map entries => uptoBulkEntries entries + 1
  | .held _ => 1
def uptoBulkAll {H : Type} : List (DataW H) → Nat
  | [] => 0
  | d :: r => uptoBulk d + uptoBulkAll r
def uptoBulkEntries {H : Type} : List (Lit × DataW H) → Nat
  | [] => 0
  | x :: r => uptoBulkEntry x + uptoBulkEntries r
def uptoBulkEntry {H : Type} : Lit × DataW H → Nat
  | (.string bytes, d) => bytes.length + uptoBulk d + 1
  | (_, d) => uptoBulk d + 1
 end
def uptoSmall : (H : Type) → List (DataW H) → Bool := fun _ ds => decide (uptoBulkAll ds ≤ 1048576)
def OpenSpec.upto (s : _root_.Go.ChangeSpec) : _root_.Go.OpenSpec := { _root_.Go.OpenSpec.ofChange s with cond := some uptoSmall }

/-- 'cohesionlaw36.ExternalReads', WHERE WHAT IT READS IS OF BULK AT MOST 1048576: true; the input reads as it did. -/
def externalReadsUptoRow : OpenClaim := { program := "ytdkmdcdoiaelfaa", sum := "62a6266cdcb7649d07707737f326c7e91c9ffe64056b7893e4db4de383b070a6", func := "cohesion/cohesionlaw36.ExternalReads", spec := "externalReads", unfollowed := true, recurses := true, apart := false, narrowed := true }
def ExternalReadsUptoSaid : Prop := externalReadsUptoRow.holds Try.pinned (OpenSpec.upto externalReadsSpec)

/-- 'cohesionlaw36.ExternalCores', WHERE WHAT IT READS IS OF BULK AT MOST 1048576: true; the input reads as it did. -/
def externalCoresUptoRow : OpenClaim := { program := "ytdkmdcdoiaelfaa", sum := "62a6266cdcb7649d07707737f326c7e91c9ffe64056b7893e4db4de383b070a6", func := "cohesion/cohesionlaw36.ExternalCores", spec := "externalCores", unfollowed := true, recurses := true, apart := false, narrowed := true }
def ExternalCoresUptoSaid : Prop := externalCoresUptoRow.holds Try.pinned (OpenSpec.upto externalCoresSpec)

/-- 'cohesionlaw36.ExternalStarts', WHERE WHAT IT READS IS OF BULK AT MOST 1048576: true; the input reads as it did. -/
def externalStartsUptoRow : OpenClaim := { program := "ytdkmdcdoiaelfaa", sum := "62a6266cdcb7649d07707737f326c7e91c9ffe64056b7893e4db4de383b070a6", func := "cohesion/cohesionlaw36.ExternalStarts", spec := "externalStarts", unfollowed := true, recurses := true, apart := false, narrowed := true }
def ExternalStartsUptoSaid : Prop := externalStartsUptoRow.holds Try.pinned (OpenSpec.upto externalStartsSpec)

/-- 'cohesionlaw36.ExternalValues', WHERE WHAT IT READS IS OF BULK AT MOST 1048576: true; the input reads as it did. -/
def externalValuesUptoRow : OpenClaim := { program := "ytdkmdcdoiaelfaa", sum := "62a6266cdcb7649d07707737f326c7e91c9ffe64056b7893e4db4de383b070a6", func := "cohesion/cohesionlaw36.ExternalValues", spec := "externalValues", unfollowed := true, recurses := true, apart := false, narrowed := true }
def ExternalValuesUptoSaid : Prop := externalValuesUptoRow.holds Try.pinned (OpenSpec.upto externalValuesSpec)

/-- 'cohesionlaw38.RoundsPlans', WHERE WHAT IT READS IS OF BULK AT MOST 1048576: true; the input reads as it did. -/
def roundsPlansUptoRow : OpenClaim := { program := "ytdkmdcdoiaelfaa", sum := "62a6266cdcb7649d07707737f326c7e91c9ffe64056b7893e4db4de383b070a6", func := "cohesion/cohesionlaw38.RoundsPlans", spec := "roundsPlans", unfollowed := true, recurses := true, apart := false, narrowed := true }
def RoundsPlansUptoSaid : Prop := roundsPlansUptoRow.holds Try.pinned (OpenSpec.upto roundsPlansSpec)

/-- 'cohesionlaw36.ExternalTriangles', WHERE WHAT IT READS IS OF BULK AT MOST 1048576: true; the input reads as it did. -/
def externalTrianglesUptoRow : OpenClaim := { program := "ytdkmdcdoiaelfaa", sum := "62a6266cdcb7649d07707737f326c7e91c9ffe64056b7893e4db4de383b070a6", func := "cohesion/cohesionlaw36.ExternalTriangles", spec := "externalTriangles", unfollowed := true, recurses := true, apart := false, narrowed := true }
def ExternalTrianglesUptoSaid : Prop := externalTrianglesUptoRow.holds Try.pinned (OpenSpec.upto externalTrianglesSpec)

/-- 'cohesionlaw36.ExternalAnswers', WHERE WHAT IT READS IS OF BULK AT MOST 1048576: true; the input reads as it did. -/
def externalAnswersUptoRow : OpenClaim := { program := "ytdkmdcdoiaelfaa", sum := "62a6266cdcb7649d07707737f326c7e91c9ffe64056b7893e4db4de383b070a6", func := "cohesion/cohesionlaw36.ExternalAnswers", spec := "externalAnswers", unfollowed := true, recurses := true, apart := false, narrowed := true }
def ExternalAnswersUptoSaid : Prop := externalAnswersUptoRow.holds Try.pinned (OpenSpec.upto externalAnswersSpec)

/-- 'cohesionlaw38.RoundsFalls', WHERE WHAT IT READS IS OF BULK AT MOST 1048576: true; the input reads as it did. -/
def roundsFallsUptoRow : OpenClaim := { program := "ytdkmdcdoiaelfaa", sum := "62a6266cdcb7649d07707737f326c7e91c9ffe64056b7893e4db4de383b070a6", func := "cohesion/cohesionlaw38.RoundsFalls", spec := "roundsFalls", unfollowed := true, recurses := true, apart := false, narrowed := true }
def RoundsFallsUptoSaid : Prop := roundsFallsUptoRow.holds Try.pinned (OpenSpec.upto roundsFallsSpec)

/-- 'cohesionlaw38.RoundsFew', WHERE WHAT IT READS IS OF BULK AT MOST 1048576: true; the input reads as it did. -/
def roundsFewUptoRow : OpenClaim := { program := "ytdkmdcdoiaelfaa", sum := "62a6266cdcb7649d07707737f326c7e91c9ffe64056b7893e4db4de383b070a6", func := "cohesion/cohesionlaw38.RoundsFew", spec := "roundsFew", unfollowed := true, recurses := true, apart := false, narrowed := true }
def RoundsFewUptoSaid : Prop := roundsFewUptoRow.holds Try.pinned (OpenSpec.upto roundsFewSpec)

/-- 'cohesionlaw38.RoundsEnds', WHERE WHAT IT READS IS OF BULK AT MOST 1048576: true; the input reads as it did. -/
def roundsEndsUptoRow : OpenClaim := { program := "ytdkmdcdoiaelfaa", sum := "62a6266cdcb7649d07707737f326c7e91c9ffe64056b7893e4db4de383b070a6", func := "cohesion/cohesionlaw38.RoundsEnds", spec := "roundsEnds", unfollowed := true, recurses := true, apart := false, narrowed := true }
def RoundsEndsUptoSaid : Prop := roundsEndsUptoRow.holds Try.pinned (OpenSpec.upto roundsEndsSpec)

/-- 'cohesionlaw38.RoundsKnow', WHERE WHAT IT READS IS OF BULK AT MOST 1048576: true; the input reads as it did. -/
def roundsKnowUptoRow : OpenClaim := { program := "ytdkmdcdoiaelfaa", sum := "62a6266cdcb7649d07707737f326c7e91c9ffe64056b7893e4db4de383b070a6", func := "cohesion/cohesionlaw38.RoundsKnow", spec := "roundsKnow", unfollowed := true, recurses := true, apart := false, narrowed := true }
def RoundsKnowUptoSaid : Prop := roundsKnowUptoRow.holds Try.pinned (OpenSpec.upto roundsKnowSpec)

end Rows
end Go.Proofs.Ytdkmdcdoiaelfaa
