/-
  NARROWER THAN 'FOR EVERY INPUT', by the rows' own cells (each row's printed sentence says how): NucleusAgrees: laid · NucleusDense: laid · NucleusNumbers: laid · NucleusChecks: laid · RepairBack: laid · RepairSteps: laid · RepairRegion: laid · RepairFollows: laid · RepairScratch: laid.
  DERIVED. THE GIVEN ROWS OF THIS SEAT. 9 by the template 'for every input the law returns true; each argument reads behind the call as it read before'; 0 by the template 'total and deterministic' (their statements: YtkknknehchnccaaDoorTotals.lean).
  GIVEN WITH THE SEED: the statements are not yours to turn. If you find one false, say at which input.
  Laid BY PROGRAM, IN A SANDBOX (cutbox-rows.mjs): the forced cells as the released guide's own fill.sh prints them over the translation 210c8caf72d6e67f… (all of the seat's roots in one cut). By AI agents, Wed Nov 11 2026. No macro, syntax, notation, axiom, sorry.
-/
import Derived.Test.YtkknknehchnccaaDoorChecked
import GoSem.Claim
import GoSem.ClaimJoined
import GoSem.ClaimMapViews
import Derived.JoinedTies
import Derived.KernelRfl
namespace Go.Proofs.YtkknknehchnccaaDoor
/- THE CELL 'sum', in the pinned program and in every row, IS THE sha256 OF THE DUMP (.gsa) THAT YtkknknehchnccaaDoorProg.lean LOADS. Nothing in Lean hashes anything: it is a label: what it is worth is what the hold of that sum in a sandbox is worth. -/
noncomputable def Tryd.pinned : Pinned := { name := "ytkknknehchnccaadoor", sum := "210c8caf72d6e67f128774acf605a1067a407374b7582e411d9fe15a12cd6aae", checked := Tryd.checked }
namespace Rows
def none {H : Type} : Left H := { results := [], args := [] }

/- WHAT THE LISTED PACKAGE-LEVEL VARIABLES READ AS WHEN THE CALL BEGINS. Each datum BY PROGRAM (the guide's laid-datum.mjs) off the statement by which the dump's own 'gosem.cut.vars' lays the variable. In a bare row this is a premise. The card (YtkknknehchnccaaDoorCards.lean) ties it to the program's text. -/
def laid_math_bits_deBruijn64tab {H : Type} : DataW H := .agg [.lit (.int .u8 0), .lit (.int .u8 1), .lit (.int .u8 56), .lit (.int .u8 2), .lit (.int .u8 57), .lit (.int .u8 49), .lit (.int .u8 28), .lit (.int .u8 3), .lit (.int .u8 61), .lit (.int .u8 58), .lit (.int .u8 42), .lit (.int .u8 50), .lit (.int .u8 38), .lit (.int .u8 29), .lit (.int .u8 17), .lit (.int .u8 4), .lit (.int .u8 62), .lit (.int .u8 47), .lit (.int .u8 59), .lit (.int .u8 36), .lit (.int .u8 45), .lit (.int .u8 43), .lit (.int .u8 51), .lit (.int .u8 22), .lit (.int .u8 53), .lit (.int .u8 39), .lit (.int .u8 33), .lit (.int .u8 30), .lit (.int .u8 24), .lit (.int .u8 18), .lit (.int .u8 12), .lit (.int .u8 5), .lit (.int .u8 63), .lit (.int .u8 55), .lit (.int .u8 48), .lit (.int .u8 27), .lit (.int .u8 60), .lit (.int .u8 41), .lit (.int .u8 37), .lit (.int .u8 16), .lit (.int .u8 46), .lit (.int .u8 35), .lit (.int .u8 44), .lit (.int .u8 21), .lit (.int .u8 52), .lit (.int .u8 32), .lit (.int .u8 23), .lit (.int .u8 11), .lit (.int .u8 54), .lit (.int .u8 26), .lit (.int .u8 40), .lit (.int .u8 15), .lit (.int .u8 34), .lit (.int .u8 20), .lit (.int .u8 31), .lit (.int .u8 10), .lit (.int .u8 25), .lit (.int .u8 14), .lit (.int .u8 19), .lit (.int .u8 9), .lit (.int .u8 13), .lit (.int .u8 8), .lit (.int .u8 7), .lit (.int .u8 6)]

/-- 'cohesionlaw14.NucleusAgrees': WHATEVER THE INPUT: true; the input reads as it did. -/
def nucleusAgreesSpec : ChangeSpec := { name := "nucleusAgrees", fn := fun _ => fun
  | [d] => { results := [.lit (.bool true)], args := [d] }
  | _ => none }
def nucleusAgreesRow : OpenClaim := { program := "ytkknknehchnccaadoor", sum := "210c8caf72d6e67f128774acf605a1067a407374b7582e411d9fe15a12cd6aae", func := "cohesion/cohesionlaw14.NucleusAgrees", spec := "nucleusAgrees", unfollowed := true, recurses := true, named := ["math/bits.deBruijn64tab"], apart := false, laid := [("math/bits.deBruijn64tab", laid_math_bits_deBruijn64tab)] }
def NucleusAgreesSaid : Prop := nucleusAgreesRow.holds Tryd.pinned (OpenSpec.ofChange nucleusAgreesSpec)

/-- ITS FALSE NEIGHBOUR: 'it returns false'. Refute it at one input. -/
def nucleusAgreesWrong : ChangeSpec := { name := "nucleusAgrees", fn := fun _ => fun
  | [d] => { results := [.lit (.bool false)], args := [d] }
  | _ => none }
def NucleusAgreesWrongFalsely : Prop := nucleusAgreesRow.holds Tryd.pinned (OpenSpec.ofChange nucleusAgreesWrong)

/-- 'cohesionlaw14.NucleusDense': WHATEVER THE INPUT: true; the input reads as it did. -/
def nucleusDenseSpec : ChangeSpec := { name := "nucleusDense", fn := fun _ => fun
  | [d1, d2, d3] => { results := [.lit (.bool true)], args := [d1, d2, d3] }
  | _ => none }
def nucleusDenseRow : OpenClaim := { program := "ytkknknehchnccaadoor", sum := "210c8caf72d6e67f128774acf605a1067a407374b7582e411d9fe15a12cd6aae", func := "cohesion/cohesionlaw14.NucleusDense", spec := "nucleusDense", unfollowed := true, recurses := true, named := ["math/bits.deBruijn64tab"], apart := false, laid := [("math/bits.deBruijn64tab", laid_math_bits_deBruijn64tab)] }
def NucleusDenseSaid : Prop := nucleusDenseRow.holds Tryd.pinned (OpenSpec.ofChange nucleusDenseSpec)

/-- ITS FALSE NEIGHBOUR: 'it returns false'. Refute it at one input. -/
def nucleusDenseWrong : ChangeSpec := { name := "nucleusDense", fn := fun _ => fun
  | [d1, d2, d3] => { results := [.lit (.bool false)], args := [d1, d2, d3] }
  | _ => none }
def NucleusDenseWrongFalsely : Prop := nucleusDenseRow.holds Tryd.pinned (OpenSpec.ofChange nucleusDenseWrong)

/-- 'cohesionlaw14.NucleusNumbers': WHATEVER THE INPUT: true; the input reads as it did. -/
def nucleusNumbersSpec : ChangeSpec := { name := "nucleusNumbers", fn := fun _ => fun
  | [d1, d2, d3, d4] => { results := [.lit (.bool true)], args := [d1, d2, d3, d4] }
  | _ => none }
def nucleusNumbersRow : OpenClaim := { program := "ytkknknehchnccaadoor", sum := "210c8caf72d6e67f128774acf605a1067a407374b7582e411d9fe15a12cd6aae", func := "cohesion/cohesionlaw14.NucleusNumbers", spec := "nucleusNumbers", unfollowed := true, recurses := true, named := ["math/bits.deBruijn64tab"], apart := false, laid := [("math/bits.deBruijn64tab", laid_math_bits_deBruijn64tab)] }
def NucleusNumbersSaid : Prop := nucleusNumbersRow.holds Tryd.pinned (OpenSpec.ofChange nucleusNumbersSpec)

/-- ITS FALSE NEIGHBOUR: 'it returns false'. Refute it at one input. -/
def nucleusNumbersWrong : ChangeSpec := { name := "nucleusNumbers", fn := fun _ => fun
  | [d1, d2, d3, d4] => { results := [.lit (.bool false)], args := [d1, d2, d3, d4] }
  | _ => none }
def NucleusNumbersWrongFalsely : Prop := nucleusNumbersRow.holds Tryd.pinned (OpenSpec.ofChange nucleusNumbersWrong)

/-- 'cohesionlaw14.NucleusChecks': WHATEVER THE INPUT: true; the input reads as it did. -/
def nucleusChecksSpec : ChangeSpec := { name := "nucleusChecks", fn := fun _ => fun
  | [d1, d2, d3, d4] => { results := [.lit (.bool true)], args := [d1, d2, d3, d4] }
  | _ => none }
def nucleusChecksRow : OpenClaim := { program := "ytkknknehchnccaadoor", sum := "210c8caf72d6e67f128774acf605a1067a407374b7582e411d9fe15a12cd6aae", func := "cohesion/cohesionlaw14.NucleusChecks", spec := "nucleusChecks", unfollowed := true, recurses := true, named := ["math/bits.deBruijn64tab"], apart := false, laid := [("math/bits.deBruijn64tab", laid_math_bits_deBruijn64tab)] }
def NucleusChecksSaid : Prop := nucleusChecksRow.holds Tryd.pinned (OpenSpec.ofChange nucleusChecksSpec)

/-- ITS FALSE NEIGHBOUR: 'it returns false'. Refute it at one input. -/
def nucleusChecksWrong : ChangeSpec := { name := "nucleusChecks", fn := fun _ => fun
  | [d1, d2, d3, d4] => { results := [.lit (.bool false)], args := [d1, d2, d3, d4] }
  | _ => none }
def NucleusChecksWrongFalsely : Prop := nucleusChecksRow.holds Tryd.pinned (OpenSpec.ofChange nucleusChecksWrong)

/-- 'cohesionlaw11.RepairBack': WHATEVER THE INPUT: true; the input reads as it did. -/
def repairBackSpec : ChangeSpec := { name := "repairBack", fn := fun _ => fun
  | [d] => { results := [.lit (.bool true)], args := [d] }
  | _ => none }
def repairBackRow : OpenClaim := { program := "ytkknknehchnccaadoor", sum := "210c8caf72d6e67f128774acf605a1067a407374b7582e411d9fe15a12cd6aae", func := "cohesion/cohesionlaw11.RepairBack", spec := "repairBack", inPlace := ["slices.overlaps[cohesion/api.Edge]"], unfollowed := true, recurses := true, named := ["math/bits.deBruijn64tab"], apart := false, laid := [("math/bits.deBruijn64tab", laid_math_bits_deBruijn64tab)] }
def RepairBackSaid : Prop := repairBackRow.holds Tryd.pinned (OpenSpec.ofChange repairBackSpec)

/-- ITS FALSE NEIGHBOUR: 'it returns false'. Refute it at one input. -/
def repairBackWrong : ChangeSpec := { name := "repairBack", fn := fun _ => fun
  | [d] => { results := [.lit (.bool false)], args := [d] }
  | _ => none }
def RepairBackWrongFalsely : Prop := repairBackRow.holds Tryd.pinned (OpenSpec.ofChange repairBackWrong)

/-- 'cohesionlaw11.RepairSteps': WHATEVER THE INPUT: true; the input reads as it did. -/
def repairStepsSpec : ChangeSpec := { name := "repairSteps", fn := fun _ => fun
  | [d1, d2, d3, d4] => { results := [.lit (.bool true)], args := [d1, d2, d3, d4] }
  | _ => none }
def repairStepsRow : OpenClaim := { program := "ytkknknehchnccaadoor", sum := "210c8caf72d6e67f128774acf605a1067a407374b7582e411d9fe15a12cd6aae", func := "cohesion/cohesionlaw11.RepairSteps", spec := "repairSteps", inPlace := ["slices.overlaps[cohesion/api.Edge]"], unfollowed := true, recurses := true, named := ["math/bits.deBruijn64tab"], apart := false, laid := [("math/bits.deBruijn64tab", laid_math_bits_deBruijn64tab)] }
def RepairStepsSaid : Prop := repairStepsRow.holds Tryd.pinned (OpenSpec.ofChange repairStepsSpec)

/-- ITS FALSE NEIGHBOUR: 'it returns false'. Refute it at one input. -/
def repairStepsWrong : ChangeSpec := { name := "repairSteps", fn := fun _ => fun
  | [d1, d2, d3, d4] => { results := [.lit (.bool false)], args := [d1, d2, d3, d4] }
  | _ => none }
def RepairStepsWrongFalsely : Prop := repairStepsRow.holds Tryd.pinned (OpenSpec.ofChange repairStepsWrong)

/-- 'cohesionlaw11.RepairRegion': WHATEVER THE INPUT: true; the input reads as it did. -/
def repairRegionSpec : ChangeSpec := { name := "repairRegion", fn := fun _ => fun
  | [d] => { results := [.lit (.bool true)], args := [d] }
  | _ => none }
def repairRegionRow : OpenClaim := { program := "ytkknknehchnccaadoor", sum := "210c8caf72d6e67f128774acf605a1067a407374b7582e411d9fe15a12cd6aae", func := "cohesion/cohesionlaw11.RepairRegion", spec := "repairRegion", inPlace := ["slices.overlaps[cohesion/api.Edge]"], unfollowed := true, recurses := true, named := ["math/bits.deBruijn64tab"], apart := false, laid := [("math/bits.deBruijn64tab", laid_math_bits_deBruijn64tab)] }
def RepairRegionSaid : Prop := repairRegionRow.holds Tryd.pinned (OpenSpec.ofChange repairRegionSpec)

/-- ITS FALSE NEIGHBOUR: 'it returns false'. Refute it at one input. -/
def repairRegionWrong : ChangeSpec := { name := "repairRegion", fn := fun _ => fun
  | [d] => { results := [.lit (.bool false)], args := [d] }
  | _ => none }
def RepairRegionWrongFalsely : Prop := repairRegionRow.holds Tryd.pinned (OpenSpec.ofChange repairRegionWrong)

/-- 'cohesionlaw11.RepairFollows': WHATEVER THE INPUT: true; the input reads as it did. -/
def repairFollowsSpec : ChangeSpec := { name := "repairFollows", fn := fun _ => fun
  | [d1, d2] => { results := [.lit (.bool true)], args := [d1, d2] }
  | _ => none }
def repairFollowsRow : OpenClaim := { program := "ytkknknehchnccaadoor", sum := "210c8caf72d6e67f128774acf605a1067a407374b7582e411d9fe15a12cd6aae", func := "cohesion/cohesionlaw11.RepairFollows", spec := "repairFollows", inPlace := ["slices.overlaps[cohesion/api.Edge]"], unfollowed := true, recurses := true, named := ["math/bits.deBruijn64tab"], apart := false, laid := [("math/bits.deBruijn64tab", laid_math_bits_deBruijn64tab)] }
def RepairFollowsSaid : Prop := repairFollowsRow.holds Tryd.pinned (OpenSpec.ofChange repairFollowsSpec)

/-- ITS FALSE NEIGHBOUR: 'it returns false'. Refute it at one input. -/
def repairFollowsWrong : ChangeSpec := { name := "repairFollows", fn := fun _ => fun
  | [d1, d2] => { results := [.lit (.bool false)], args := [d1, d2] }
  | _ => none }
def RepairFollowsWrongFalsely : Prop := repairFollowsRow.holds Tryd.pinned (OpenSpec.ofChange repairFollowsWrong)

/-- 'cohesionlaw11.RepairScratch': WHATEVER THE INPUT: true; the input reads as it did. -/
def repairScratchSpec : ChangeSpec := { name := "repairScratch", fn := fun _ => fun
  | [d1, d2] => { results := [.lit (.bool true)], args := [d1, d2] }
  | _ => none }
def repairScratchRow : OpenClaim := { program := "ytkknknehchnccaadoor", sum := "210c8caf72d6e67f128774acf605a1067a407374b7582e411d9fe15a12cd6aae", func := "cohesion/cohesionlaw11.RepairScratch", spec := "repairScratch", inPlace := ["slices.overlaps[cohesion/api.Edge]"], unfollowed := true, recurses := true, named := ["math/bits.deBruijn64tab"], apart := false, laid := [("math/bits.deBruijn64tab", laid_math_bits_deBruijn64tab)] }
def RepairScratchSaid : Prop := repairScratchRow.holds Tryd.pinned (OpenSpec.ofChange repairScratchSpec)

/-- ITS FALSE NEIGHBOUR: 'it returns false'. Refute it at one input. -/
def repairScratchWrong : ChangeSpec := { name := "repairScratch", fn := fun _ => fun
  | [d1, d2] => { results := [.lit (.bool false)], args := [d1, d2] }
  | _ => none }
def RepairScratchWrongFalsely : Prop := repairScratchRow.holds Tryd.pinned (OpenSpec.ofChange repairScratchWrong)

/- THE SECOND FORM. 'bulk': how many values and letters a reading holds, each counted each time it is reached (what is shared counts as often as it is met; a slice's spare places count too). A statement '..UptoSaid' is the law's where the arguments, and the package variables that the reading takes, are together of bulk at most 1048576: NARROWER than '..Said'. Prove '..Said' where nothing that the law and all that it calls make is longer than what came in: it says more and counts as full. Else prove '..UptoSaid'. A law counts once. -/
mutual
def uptoBulk {H : Type} : DataW H → Nat
  | .lit (.string bytes) => bytes.length + 1
  | .lit _ => 1
  | .nil => 1
  | .ptr d => uptoBulk d + 1
  | .slice elems spare => uptoBulkAll elems + uptoBulkAll spare + 1
  | .agg parts => uptoBulkAll parts + 1
  | .iface _ d => uptoBulk d + 1
  | .map entries => uptoBulkEntries entries + 1
  | .held _ => 1
def uptoBulkAll {H : Type} : List (DataW H) → Nat
  | [] => 0
  | d :: r => uptoBulk d + uptoBulkAll r
def uptoBulkEntries {H : Type} : List (Lit × DataW H) → Nat
  | [] => 0
  | x :: r => uptoBulkEntry x + uptoBulkEntries r
def uptoBulkEntry {H : Type} : Lit × DataW H → Nat
  | (.string bytes, d) => bytes.length + uptoBulk d + 1
  | (_, d) => uptoBulk d + 1
 end
def uptoSmall : (H : Type) → List (DataW H) → Bool := fun _ ds => decide (uptoBulkAll ds ≤ 1048576)
def OpenSpec.upto (s : _root_.Go.ChangeSpec) : _root_.Go.OpenSpec := { _root_.Go.OpenSpec.ofChange s with cond := some uptoSmall }

/-- 'cohesionlaw14.NucleusAgrees', WHERE WHAT IT READS IS OF BULK AT MOST 1048576: true; the input reads as it did. -/
def nucleusAgreesUptoRow : OpenClaim := { program := "ytkknknehchnccaadoor", sum := "210c8caf72d6e67f128774acf605a1067a407374b7582e411d9fe15a12cd6aae", func := "cohesion/cohesionlaw14.NucleusAgrees", spec := "nucleusAgrees", unfollowed := true, recurses := true, named := ["math/bits.deBruijn64tab"], apart := false, laid := [("math/bits.deBruijn64tab", laid_math_bits_deBruijn64tab)], narrowed := true }
def NucleusAgreesUptoSaid : Prop := nucleusAgreesUptoRow.holds Tryd.pinned (OpenSpec.upto nucleusAgreesSpec)

/-- 'cohesionlaw14.NucleusDense', WHERE WHAT IT READS IS OF BULK AT MOST 1048576: true; the input reads as it did. -/
def nucleusDenseUptoRow : OpenClaim := { program := "ytkknknehchnccaadoor", sum := "210c8caf72d6e67f128774acf605a1067a407374b7582e411d9fe15a12cd6aae", func := "cohesion/cohesionlaw14.NucleusDense", spec := "nucleusDense", unfollowed := true, recurses := true, named := ["math/bits.deBruijn64tab"], apart := false, laid := [("math/bits.deBruijn64tab", laid_math_bits_deBruijn64tab)], narrowed := true }
def NucleusDenseUptoSaid : Prop := nucleusDenseUptoRow.holds Tryd.pinned (OpenSpec.upto nucleusDenseSpec)

/-- 'cohesionlaw14.NucleusNumbers', WHERE WHAT IT READS IS OF BULK AT MOST 1048576: true; the input reads as it did. -/
def nucleusNumbersUptoRow : OpenClaim := { program := "ytkknknehchnccaadoor", sum := "210c8caf72d6e67f128774acf605a1067a407374b7582e411d9fe15a12cd6aae", func := "cohesion/cohesionlaw14.NucleusNumbers", spec := "nucleusNumbers", unfollowed := true, recurses := true, named := ["math/bits.deBruijn64tab"], apart := false, laid := [("math/bits.deBruijn64tab", laid_math_bits_deBruijn64tab)], narrowed := true }
def NucleusNumbersUptoSaid : Prop := nucleusNumbersUptoRow.holds Tryd.pinned (OpenSpec.upto nucleusNumbersSpec)

/-- 'cohesionlaw14.NucleusChecks', WHERE WHAT IT READS IS OF BULK AT MOST 1048576: true; the input reads as it did. -/
def nucleusChecksUptoRow : OpenClaim := { program := "ytkknknehchnccaadoor", sum := "210c8caf72d6e67f128774acf605a1067a407374b7582e411d9fe15a12cd6aae", func := "cohesion/cohesionlaw14.NucleusChecks", spec := "nucleusChecks", unfollowed := true, recurses := true, named := ["math/bits.deBruijn64tab"], apart := false, laid := [("math/bits.deBruijn64tab", laid_math_bits_deBruijn64tab)], narrowed := true }
def NucleusChecksUptoSaid : Prop := nucleusChecksUptoRow.holds Tryd.pinned (OpenSpec.upto nucleusChecksSpec)

/-- 'cohesionlaw11.RepairBack', WHERE WHAT IT READS IS OF BULK AT MOST 1048576: true; the input reads as it did. -/
def repairBackUptoRow : OpenClaim := { program := "ytkknknehchnccaadoor", sum := "210c8caf72d6e67f128774acf605a1067a407374b7582e411d9fe15a12cd6aae", func := "cohesion/cohesionlaw11.RepairBack", spec := "repairBack", inPlace := ["slices.overlaps[cohesion/api.Edge]"], unfollowed := true, recurses := true, named := ["math/bits.deBruijn64tab"], apart := false, laid := [("math/bits.deBruijn64tab", laid_math_bits_deBruijn64tab)], narrowed := true }
def RepairBackUptoSaid : Prop := repairBackUptoRow.holds Tryd.pinned (OpenSpec.upto repairBackSpec)

/-- 'cohesionlaw11.RepairSteps', WHERE WHAT IT READS IS OF BULK AT MOST 1048576: true; the input reads as it did. -/
def repairStepsUptoRow : OpenClaim := { program := "ytkknknehchnccaadoor", sum := "210c8caf72d6e67f128774acf605a1067a407374b7582e411d9fe15a12cd6aae", func := "cohesion/cohesionlaw11.RepairSteps", spec := "repairSteps", inPlace := ["slices.overlaps[cohesion/api.Edge]"], unfollowed := true, recurses := true, named := ["math/bits.deBruijn64tab"], apart := false, laid := [("math/bits.deBruijn64tab", laid_math_bits_deBruijn64tab)], narrowed := true }
def RepairStepsUptoSaid : Prop := repairStepsUptoRow.holds Tryd.pinned (OpenSpec.upto repairStepsSpec)

/-- 'cohesionlaw11.RepairRegion', WHERE WHAT IT READS IS OF BULK AT MOST 1048576: true; the input reads as it did. -/
def repairRegionUptoRow : OpenClaim := { program := "ytkknknehchnccaadoor", sum := "210c8caf72d6e67f128774acf605a1067a407374b7582e411d9fe15a12cd6aae", func := "cohesion/cohesionlaw11.RepairRegion", spec := "repairRegion", inPlace := ["slices.overlaps[cohesion/api.Edge]"], unfollowed := true, recurses := true, named := ["math/bits.deBruijn64tab"], apart := false, laid := [("math/bits.deBruijn64tab", laid_math_bits_deBruijn64tab)], narrowed := true }
def RepairRegionUptoSaid : Prop := repairRegionUptoRow.holds Tryd.pinned (OpenSpec.upto repairRegionSpec)

/-- 'cohesionlaw11.RepairFollows', WHERE WHAT IT READS IS OF BULK AT MOST 1048576: true; the input reads as it did. -/
def repairFollowsUptoRow : OpenClaim := { program := "ytkknknehchnccaadoor", sum := "210c8caf72d6e67f128774acf605a1067a407374b7582e411d9fe15a12cd6aae", func := "cohesion/cohesionlaw11.RepairFollows", spec := "repairFollows", inPlace := ["slices.overlaps[cohesion/api.Edge]"], unfollowed := true, recurses := true, named := ["math/bits.deBruijn64tab"], apart := false, laid := [("math/bits.deBruijn64tab", laid_math_bits_deBruijn64tab)], narrowed := true }
def RepairFollowsUptoSaid : Prop := repairFollowsUptoRow.holds Tryd.pinned (OpenSpec.upto repairFollowsSpec)

/-- 'cohesionlaw11.RepairScratch', WHERE WHAT IT READS IS OF BULK AT MOST 1048576: true; the input reads as it did. -/
def repairScratchUptoRow : OpenClaim := { program := "ytkknknehchnccaadoor", sum := "210c8caf72d6e67f128774acf605a1067a407374b7582e411d9fe15a12cd6aae", func := "cohesion/cohesionlaw11.RepairScratch", spec := "repairScratch", inPlace := ["slices.overlaps[cohesion/api.Edge]"], unfollowed := true, recurses := true, named := ["math/bits.deBruijn64tab"], apart := false, laid := [("math/bits.deBruijn64tab", laid_math_bits_deBruijn64tab)], narrowed := true }
def RepairScratchUptoSaid : Prop := repairScratchUptoRow.holds Tryd.pinned (OpenSpec.upto repairScratchSpec)

end Rows
end Go.Proofs.YtkknknehchnccaaDoor
