/-
  NARROWER THAN 'FOR EVERY INPUT', by the rows' own cells (each row's printed sentence says how): PatternsCopies: laid · PatternsNames: laid · SquaresSides: laid · SquaresSums: laid · SquaresKept: laid · SquaresAnswers: laid.
  DERIVED. THE GIVEN ROWS OF THIS SEAT. 6 by the template 'for every input the law returns true; each argument reads behind the call as it read before'; 0 by the template 'total and deterministic' (their statements: YtekbpoppajbljaaDoorTotals.lean).
  GIVEN WITH THE SEED: the statements are not yours to turn. If you find one false, say at which input.
  Laid BY PROGRAM, IN A SANDBOX (cutbox-rows.mjs): the forced cells as the released guide's own fill.sh prints them over the translation ba3bc4ebf7aae1d5… (all of the seat's roots in one cut). By AI agents, Wed Nov 11 2026. No macro, syntax, notation, axiom, sorry.
-/
import Derived.Test.YtekbpoppajbljaaDoorChecked
import GoSem.Claim
import GoSem.ClaimJoined
import GoSem.ClaimMapViews
import Derived.JoinedTies
import Derived.KernelRfl
namespace Go.Proofs.YtekbpoppajbljaaDoor
/- THE CELL 'sum', in the pinned program and in every row, IS THE sha256 OF THE DUMP (.gsa) THAT YtekbpoppajbljaaDoorProg.lean LOADS. Nothing in Lean hashes anything: it is a label: what it is worth is what the hold of that sum in a sandbox is worth. -/
noncomputable def Tryd.pinned : Pinned := { name := "ytekbpoppajbljaadoor", sum := "ba3bc4ebf7aae1d55b6f3b107bb84d9187e6adabdf8f8ada280189245f1aa19f", checked := Tryd.checked }
namespace Rows
def none {H : Type} : Left H := { results := [], args := [] }

/- WHAT THE LISTED PACKAGE-LEVEL VARIABLES READ AS WHEN THE CALL BEGINS. Each datum BY PROGRAM (the guide's laid-datum.mjs) off the statement by which the dump's own 'gosem.cut.vars' lays the variable. In a bare row this is a premise. The card (YtekbpoppajbljaaDoorCards.lean) ties it to the program's text. -/
def laid_cohesion_patterns_cubes {H : Type} : DataW H := .agg [.lit (.int .i64 0), .lit (.int .i64 2), .lit (.int .i64 10), .lit (.int .i64 4), .lit (.int .i64 24), .lit (.int .i64 30), .lit (.int .i64 18), .lit (.int .i64 44), .lit (.int .i64 32), .lit (.int .i64 70), .lit (.int .i64 108)]
def laid_cohesion_patterns_examples {H : Type} : DataW H := .agg [.lit (.int .i64 0), .lit (.int .i64 1), .lit (.int .i64 3), .lit (.int .i64 33), .lit (.int .i64 11), .lit (.int .i64 7), .lit (.int .i64 41), .lit (.int .i64 15), .lit (.int .i64 45), .lit (.int .i64 61), .lit (.int .i64 63)]
def laid_cohesion_patterns_ends {H : Type} : DataW H := .agg [.agg [.lit (.int .i64 0), .lit (.int .i64 1)], .agg [.lit (.int .i64 0), .lit (.int .i64 2)], .agg [.lit (.int .i64 0), .lit (.int .i64 3)], .agg [.lit (.int .i64 1), .lit (.int .i64 2)], .agg [.lit (.int .i64 1), .lit (.int .i64 3)], .agg [.lit (.int .i64 2), .lit (.int .i64 3)]]
def laid_math_bits_deBruijn64tab {H : Type} : DataW H := .agg [.lit (.int .u8 0), .lit (.int .u8 1), .lit (.int .u8 56), .lit (.int .u8 2), .lit (.int .u8 57), .lit (.int .u8 49), .lit (.int .u8 28), .lit (.int .u8 3), .lit (.int .u8 61), .lit (.int .u8 58), .lit (.int .u8 42), .lit (.int .u8 50), .lit (.int .u8 38), .lit (.int .u8 29), .lit (.int .u8 17), .lit (.int .u8 4), .lit (.int .u8 62), .lit (.int .u8 47), .lit (.int .u8 59), .lit (.int .u8 36), .lit (.int .u8 45), .lit (.int .u8 43), .lit (.int .u8 51), .lit (.int .u8 22), .lit (.int .u8 53), .lit (.int .u8 39), .lit (.int .u8 33), .lit (.int .u8 30), .lit (.int .u8 24), .lit (.int .u8 18), .lit (.int .u8 12), .lit (.int .u8 5), .lit (.int .u8 63), .lit (.int .u8 55), .lit (.int .u8 48), .lit (.int .u8 27), .lit (.int .u8 60), .lit (.int .u8 41), .lit (.int .u8 37), .lit (.int .u8 16), .lit (.int .u8 46), .lit (.int .u8 35), .lit (.int .u8 44), .lit (.int .u8 21), .lit (.int .u8 52), .lit (.int .u8 32), .lit (.int .u8 23), .lit (.int .u8 11), .lit (.int .u8 54), .lit (.int .u8 26), .lit (.int .u8 40), .lit (.int .u8 15), .lit (.int .u8 34), .lit (.int .u8 20), .lit (.int .u8 31), .lit (.int .u8 10), .lit (.int .u8 25), .lit (.int .u8 14), .lit (.int .u8 19), .lit (.int .u8 9), .lit (.int .u8 13), .lit (.int .u8 8), .lit (.int .u8 7), .lit (.int .u8 6)]

/-- 'cohesionlaw32.PatternsCopies': WHATEVER THE INPUT: true; the input reads as it did. -/
def patternsCopiesSpec : ChangeSpec := { name := "patternsCopies", fn := fun _ => fun
  | [d] => { results := [.lit (.bool true)], args := [d] }
  | _ => none }
def patternsCopiesRow : OpenClaim := { program := "ytekbpoppajbljaadoor", sum := "ba3bc4ebf7aae1d55b6f3b107bb84d9187e6adabdf8f8ada280189245f1aa19f", func := "cohesion/cohesionlaw32.PatternsCopies", spec := "patternsCopies", unfollowed := true, recurses := true, named := ["cohesion/patterns.ends", "cohesion/patterns.cubes", "cohesion/patterns.examples"], apart := false, laid := [("cohesion/patterns.cubes", laid_cohesion_patterns_cubes), ("cohesion/patterns.examples", laid_cohesion_patterns_examples), ("cohesion/patterns.ends", laid_cohesion_patterns_ends)] }
def PatternsCopiesSaid : Prop := patternsCopiesRow.holds Tryd.pinned (OpenSpec.ofChange patternsCopiesSpec)

/-- ITS FALSE NEIGHBOUR: 'it returns false'. Refute it at one input. -/
def patternsCopiesWrong : ChangeSpec := { name := "patternsCopies", fn := fun _ => fun
  | [d] => { results := [.lit (.bool false)], args := [d] }
  | _ => none }
def PatternsCopiesWrongFalsely : Prop := patternsCopiesRow.holds Tryd.pinned (OpenSpec.ofChange patternsCopiesWrong)

/-- 'cohesionlaw32.PatternsNames': WHATEVER THE INPUT: true; the input reads as it did. -/
def patternsNamesSpec : ChangeSpec := { name := "patternsNames", fn := fun _ => fun
  | [d] => { results := [.lit (.bool true)], args := [d] }
  | _ => none }
def patternsNamesRow : OpenClaim := { program := "ytekbpoppajbljaadoor", sum := "ba3bc4ebf7aae1d55b6f3b107bb84d9187e6adabdf8f8ada280189245f1aa19f", func := "cohesion/cohesionlaw32.PatternsNames", spec := "patternsNames", unfollowed := true, recurses := true, named := ["cohesion/patterns.ends", "cohesion/patterns.cubes", "cohesion/patterns.examples"], apart := false, laid := [("cohesion/patterns.cubes", laid_cohesion_patterns_cubes), ("cohesion/patterns.examples", laid_cohesion_patterns_examples), ("cohesion/patterns.ends", laid_cohesion_patterns_ends)] }
def PatternsNamesSaid : Prop := patternsNamesRow.holds Tryd.pinned (OpenSpec.ofChange patternsNamesSpec)

/-- ITS FALSE NEIGHBOUR: 'it returns false'. Refute it at one input. -/
def patternsNamesWrong : ChangeSpec := { name := "patternsNames", fn := fun _ => fun
  | [d] => { results := [.lit (.bool false)], args := [d] }
  | _ => none }
def PatternsNamesWrongFalsely : Prop := patternsNamesRow.holds Tryd.pinned (OpenSpec.ofChange patternsNamesWrong)

/-- 'cohesionlaw30.SquaresSides': WHATEVER THE INPUT: true; the input reads as it did. -/
def squaresSidesSpec : ChangeSpec := { name := "squaresSides", fn := fun _ => fun
  | [d1, d2] => { results := [.lit (.bool true)], args := [d1, d2] }
  | _ => none }
def squaresSidesRow : OpenClaim := { program := "ytekbpoppajbljaadoor", sum := "ba3bc4ebf7aae1d55b6f3b107bb84d9187e6adabdf8f8ada280189245f1aa19f", func := "cohesion/cohesionlaw30.SquaresSides", spec := "squaresSides", named := ["math/bits.deBruijn64tab"], apart := false, laid := [("math/bits.deBruijn64tab", laid_math_bits_deBruijn64tab)] }
def SquaresSidesSaid : Prop := squaresSidesRow.holds Tryd.pinned (OpenSpec.ofChange squaresSidesSpec)

/-- ITS FALSE NEIGHBOUR: 'it returns false'. Refute it at one input. -/
def squaresSidesWrong : ChangeSpec := { name := "squaresSides", fn := fun _ => fun
  | [d1, d2] => { results := [.lit (.bool false)], args := [d1, d2] }
  | _ => none }
def SquaresSidesWrongFalsely : Prop := squaresSidesRow.holds Tryd.pinned (OpenSpec.ofChange squaresSidesWrong)

/-- 'cohesionlaw30.SquaresSums': WHATEVER THE INPUT: true; the input reads as it did. -/
def squaresSumsSpec : ChangeSpec := { name := "squaresSums", fn := fun _ => fun
  | [d] => { results := [.lit (.bool true)], args := [d] }
  | _ => none }
def squaresSumsRow : OpenClaim := { program := "ytekbpoppajbljaadoor", sum := "ba3bc4ebf7aae1d55b6f3b107bb84d9187e6adabdf8f8ada280189245f1aa19f", func := "cohesion/cohesionlaw30.SquaresSums", spec := "squaresSums", unfollowed := true, recurses := true, named := ["math/bits.deBruijn64tab"], apart := false, laid := [("math/bits.deBruijn64tab", laid_math_bits_deBruijn64tab)] }
def SquaresSumsSaid : Prop := squaresSumsRow.holds Tryd.pinned (OpenSpec.ofChange squaresSumsSpec)

/-- ITS FALSE NEIGHBOUR: 'it returns false'. Refute it at one input. -/
def squaresSumsWrong : ChangeSpec := { name := "squaresSums", fn := fun _ => fun
  | [d] => { results := [.lit (.bool false)], args := [d] }
  | _ => none }
def SquaresSumsWrongFalsely : Prop := squaresSumsRow.holds Tryd.pinned (OpenSpec.ofChange squaresSumsWrong)

/-- 'cohesionlaw30.SquaresKept': WHATEVER THE INPUT: true; the input reads as it did. -/
def squaresKeptSpec : ChangeSpec := { name := "squaresKept", fn := fun _ => fun
  | [d] => { results := [.lit (.bool true)], args := [d] }
  | _ => none }
def squaresKeptRow : OpenClaim := { program := "ytekbpoppajbljaadoor", sum := "ba3bc4ebf7aae1d55b6f3b107bb84d9187e6adabdf8f8ada280189245f1aa19f", func := "cohesion/cohesionlaw30.SquaresKept", spec := "squaresKept", inPlace := ["slices.overlaps[cohesion/api.Edge]"], unfollowed := true, recurses := true, named := ["math/bits.deBruijn64tab"], apart := false, laid := [("math/bits.deBruijn64tab", laid_math_bits_deBruijn64tab)] }
def SquaresKeptSaid : Prop := squaresKeptRow.holds Tryd.pinned (OpenSpec.ofChange squaresKeptSpec)

/-- ITS FALSE NEIGHBOUR: 'it returns false'. Refute it at one input. -/
def squaresKeptWrong : ChangeSpec := { name := "squaresKept", fn := fun _ => fun
  | [d] => { results := [.lit (.bool false)], args := [d] }
  | _ => none }
def SquaresKeptWrongFalsely : Prop := squaresKeptRow.holds Tryd.pinned (OpenSpec.ofChange squaresKeptWrong)

/-- 'cohesionlaw30.SquaresAnswers': WHATEVER THE INPUT: true; the input reads as it did. -/
def squaresAnswersSpec : ChangeSpec := { name := "squaresAnswers", fn := fun _ => fun
  | [d1, d2, d3, d4] => { results := [.lit (.bool true)], args := [d1, d2, d3, d4] }
  | _ => none }
def squaresAnswersRow : OpenClaim := { program := "ytekbpoppajbljaadoor", sum := "ba3bc4ebf7aae1d55b6f3b107bb84d9187e6adabdf8f8ada280189245f1aa19f", func := "cohesion/cohesionlaw30.SquaresAnswers", spec := "squaresAnswers", inPlace := ["slices.overlaps[cohesion/api.Edge]"], unfollowed := true, recurses := true, named := ["math/bits.deBruijn64tab"], apart := false, laid := [("math/bits.deBruijn64tab", laid_math_bits_deBruijn64tab)] }
def SquaresAnswersSaid : Prop := squaresAnswersRow.holds Tryd.pinned (OpenSpec.ofChange squaresAnswersSpec)

/-- ITS FALSE NEIGHBOUR: 'it returns false'. Refute it at one input. -/
def squaresAnswersWrong : ChangeSpec := { name := "squaresAnswers", fn := fun _ => fun
  | [d1, d2, d3, d4] => { results := [.lit (.bool false)], args := [d1, d2, d3, d4] }
  | _ => none }
def SquaresAnswersWrongFalsely : Prop := squaresAnswersRow.holds Tryd.pinned (OpenSpec.ofChange squaresAnswersWrong)

/- THE SECOND FORM. 'bulk': how many values and letters a reading holds, each counted each time it is reached (what is shared counts as often as it is met; a slice's spare places count too). A statement '..UptoSaid' is the law's where the arguments, and the package variables that the reading takes, are together of bulk at most 1048576: NARROWER than '..Said'. Prove '..Said' where nothing that the law and all that it calls make is longer than what came in: it says more and counts as full. Else prove '..UptoSaid'. A law counts once. -/
mutual
def uptoBulk {H : Type} : DataW H → Nat
  | .lit (.string bytes) => bytes.length + 1
  | .lit _ => 1
  | .nil => 1
  | .ptr d => uptoBulk d + 1
  | .slice elems spare => uptoBulkAll elems + uptoBulkAll spare + 1
  | .agg parts => uptoBulkAll parts + 1
  | .iface _ d => uptoBulk d + 1
  | .map entries => uptoBulkEntries entries + 1
  | .held _ => 1
def uptoBulkAll {H : Type} : List (DataW H) → Nat
  | [] => 0
  | d :: r => uptoBulk d + uptoBulkAll r
def uptoBulkEntries {H : Type} : List (Lit × DataW H) → Nat
  | [] => 0
  | x :: r => uptoBulkEntry x + uptoBulkEntries r
def uptoBulkEntry {H : Type} : Lit × DataW H → Nat
  | (.string bytes, d) => bytes.length + uptoBulk d + 1
  | (_, d) => uptoBulk d + 1
 end
def uptoSmall : (H : Type) → List (DataW H) → Bool := fun _ ds => decide (uptoBulkAll ds ≤ 1048576)
def OpenSpec.upto (s : _root_.Go.ChangeSpec) : _root_.Go.OpenSpec := { _root_.Go.OpenSpec.ofChange s with cond := some uptoSmall }

/-- 'cohesionlaw32.PatternsCopies', WHERE WHAT IT READS IS OF BULK AT MOST 1048576: true; the input reads as it did. -/
def patternsCopiesUptoRow : OpenClaim := { program := "ytekbpoppajbljaadoor", sum := "ba3bc4ebf7aae1d55b6f3b107bb84d9187e6adabdf8f8ada280189245f1aa19f", func := "cohesion/cohesionlaw32.PatternsCopies", spec := "patternsCopies", unfollowed := true, recurses := true, named := ["cohesion/patterns.ends", "cohesion/patterns.cubes", "cohesion/patterns.examples"], apart := false, laid := [("cohesion/patterns.cubes", laid_cohesion_patterns_cubes), ("cohesion/patterns.examples", laid_cohesion_patterns_examples), ("cohesion/patterns.ends", laid_cohesion_patterns_ends)], narrowed := true }
def PatternsCopiesUptoSaid : Prop := patternsCopiesUptoRow.holds Tryd.pinned (OpenSpec.upto patternsCopiesSpec)

/-- 'cohesionlaw32.PatternsNames', WHERE WHAT IT READS IS OF BULK AT MOST 1048576: true; the input reads as it did. -/
def patternsNamesUptoRow : OpenClaim := { program := "ytekbpoppajbljaadoor", sum := "ba3bc4ebf7aae1d55b6f3b107bb84d9187e6adabdf8f8ada280189245f1aa19f", func := "cohesion/cohesionlaw32.PatternsNames", spec := "patternsNames", unfollowed := true, recurses := true, named := ["cohesion/patterns.ends", "cohesion/patterns.cubes", "cohesion/patterns.examples"], apart := false, laid := [("cohesion/patterns.cubes", laid_cohesion_patterns_cubes), ("cohesion/patterns.examples", laid_cohesion_patterns_examples), ("cohesion/patterns.ends", laid_cohesion_patterns_ends)], narrowed := true }
def PatternsNamesUptoSaid : Prop := patternsNamesUptoRow.holds Tryd.pinned (OpenSpec.upto patternsNamesSpec)

/-- 'cohesionlaw30.SquaresSides', WHERE WHAT IT READS IS OF BULK AT MOST 1048576: true; the input reads as it did. -/
def squaresSidesUptoRow : OpenClaim := { program := "ytekbpoppajbljaadoor", sum := "ba3bc4ebf7aae1d55b6f3b107bb84d9187e6adabdf8f8ada280189245f1aa19f", func := "cohesion/cohesionlaw30.SquaresSides", spec := "squaresSides", named := ["math/bits.deBruijn64tab"], apart := false, laid := [("math/bits.deBruijn64tab", laid_math_bits_deBruijn64tab)], narrowed := true }
def SquaresSidesUptoSaid : Prop := squaresSidesUptoRow.holds Tryd.pinned (OpenSpec.upto squaresSidesSpec)

/-- 'cohesionlaw30.SquaresSums', WHERE WHAT IT READS IS OF BULK AT MOST 1048576: true; the input reads as it did. -/
def squaresSumsUptoRow : OpenClaim := { program := "ytekbpoppajbljaadoor", sum := "ba3bc4ebf7aae1d55b6f3b107bb84d9187e6adabdf8f8ada280189245f1aa19f", func := "cohesion/cohesionlaw30.SquaresSums", spec := "squaresSums", unfollowed := true, recurses := true, named := ["math/bits.deBruijn64tab"], apart := false, laid := [("math/bits.deBruijn64tab", laid_math_bits_deBruijn64tab)], narrowed := true }
def SquaresSumsUptoSaid : Prop := squaresSumsUptoRow.holds Tryd.pinned (OpenSpec.upto squaresSumsSpec)

/-- 'cohesionlaw30.SquaresKept', WHERE WHAT IT READS IS OF BULK AT MOST 1048576: true; the input reads as it did. -/
def squaresKeptUptoRow : OpenClaim := { program := "ytekbpoppajbljaadoor", sum := "ba3bc4ebf7aae1d55b6f3b107bb84d9187e6adabdf8f8ada280189245f1aa19f", func := "cohesion/cohesionlaw30.SquaresKept", spec := "squaresKept", inPlace := ["slices.overlaps[cohesion/api.Edge]"], unfollowed := true, recurses := true, named := ["math/bits.deBruijn64tab"], apart := false, laid := [("math/bits.deBruijn64tab", laid_math_bits_deBruijn64tab)], narrowed := true }
def SquaresKeptUptoSaid : Prop := squaresKeptUptoRow.holds Tryd.pinned (OpenSpec.upto squaresKeptSpec)

/-- 'cohesionlaw30.SquaresAnswers', WHERE WHAT IT READS IS OF BULK AT MOST 1048576: true; the input reads as it did. -/
def squaresAnswersUptoRow : OpenClaim := { program := "ytekbpoppajbljaadoor", sum := "ba3bc4ebf7aae1d55b6f3b107bb84d9187e6adabdf8f8ada280189245f1aa19f", func := "cohesion/cohesionlaw30.SquaresAnswers", spec := "squaresAnswers", inPlace := ["slices.overlaps[cohesion/api.Edge]"], unfollowed := true, recurses := true, named := ["math/bits.deBruijn64tab"], apart := false, laid := [("math/bits.deBruijn64tab", laid_math_bits_deBruijn64tab)], narrowed := true }
def SquaresAnswersUptoSaid : Prop := squaresAnswersUptoRow.holds Tryd.pinned (OpenSpec.upto squaresAnswersSpec)

end Rows
end Go.Proofs.YtekbpoppajbljaaDoor
