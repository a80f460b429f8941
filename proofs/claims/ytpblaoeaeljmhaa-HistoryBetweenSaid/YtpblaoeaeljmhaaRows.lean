/-
  No cell of these rows narrows 'for every input' (looked for: loops, veiled, ifaces, maps, wideKeys, modest, calm, conditions, laid).
  DERIVED. THE GIVEN ROWS OF THIS SEAT. 4 by the template 'for every input the law returns true; each argument reads behind the call as it read before'; 0 by the template 'total and deterministic' (their statements: YtpblaoeaeljmhaaTotals.lean).
  GIVEN WITH THE SEED: the statements are not yours to turn. If you find one false, say at which input.
  Laid BY PROGRAM, IN A SANDBOX (cutbox-rows.mjs): the forced cells as the released guide's own fill.sh prints them over the translation 53b33a3ffce47539… (all of the seat's roots in one cut). By AI agents, Wed Nov 11 2026. No macro, syntax, notation, axiom, sorry.
-/
import Derived.Test.YtpblaoeaeljmhaaChecked
import GoSem.Claim
import GoSem.ClaimJoined
import GoSem.ClaimMapViews
import Derived.JoinedTies
import Derived.KernelRfl
namespace Go.Proofs.Ytpblaoeaeljmhaa
/- THE CELL 'sum', in the pinned program and in every row, IS THE sha256 OF THE DUMP (.gsa) THAT YtpblaoeaeljmhaaProg.lean LOADS. Nothing in Lean hashes anything: it is a label: what it is worth is what the hold of that sum in a sandbox is worth. -/
noncomputable def Try.pinned : Pinned := { name := "ytpblaoeaeljmhaa", sum := "53b33a3ffce47539d0d72099420dcee5768fbc9826333c4c53ea8c05510f8f24", checked := Try.checked }
namespace Rows
def none {H : Type} : Left H := { results := [], args := [] }

/-- 'cohesionlaw08.HistoryLives': WHATEVER THE INPUT: true; the input reads as it did. -/
def historyLivesSpec : ChangeSpec := { name := "historyLives", fn := fun _ => fun
  | [d1, d2] => { results := [.lit (.bool true)], args := [d1, d2] }
  | _ => none }
def historyLivesRow : OpenClaim := { program := "ytpblaoeaeljmhaa", sum := "53b33a3ffce47539d0d72099420dcee5768fbc9826333c4c53ea8c05510f8f24", func := "cohesion/cohesionlaw08.HistoryLives", spec := "historyLives", inPlace := ["slices.overlaps[cohesion/api.Link]"], unfollowed := true, recurses := true, apart := false }
def HistoryLivesSaid : Prop := historyLivesRow.holds Try.pinned (OpenSpec.ofChange historyLivesSpec)

/-- ITS FALSE NEIGHBOUR: 'it returns false'. Refute it at one input. -/
def historyLivesWrong : ChangeSpec := { name := "historyLives", fn := fun _ => fun
  | [d1, d2] => { results := [.lit (.bool false)], args := [d1, d2] }
  | _ => none }
def HistoryLivesWrongFalsely : Prop := historyLivesRow.holds Try.pinned (OpenSpec.ofChange historyLivesWrong)

/-- 'cohesionlaw08.HistoryVersions': WHATEVER THE INPUT: true; the input reads as it did. -/
def historyVersionsSpec : ChangeSpec := { name := "historyVersions", fn := fun _ => fun
  | [d1, d2, d3, d4] => { results := [.lit (.bool true)], args := [d1, d2, d3, d4] }
  | _ => none }
def historyVersionsRow : OpenClaim := { program := "ytpblaoeaeljmhaa", sum := "53b33a3ffce47539d0d72099420dcee5768fbc9826333c4c53ea8c05510f8f24", func := "cohesion/cohesionlaw08.HistoryVersions", spec := "historyVersions", inPlace := ["slices.overlaps[cohesion/api.Link]"], unfollowed := true, recurses := true, apart := false }
def HistoryVersionsSaid : Prop := historyVersionsRow.holds Try.pinned (OpenSpec.ofChange historyVersionsSpec)

/-- ITS FALSE NEIGHBOUR: 'it returns false'. Refute it at one input. -/
def historyVersionsWrong : ChangeSpec := { name := "historyVersions", fn := fun _ => fun
  | [d1, d2, d3, d4] => { results := [.lit (.bool false)], args := [d1, d2, d3, d4] }
  | _ => none }
def HistoryVersionsWrongFalsely : Prop := historyVersionsRow.holds Try.pinned (OpenSpec.ofChange historyVersionsWrong)

/-- 'cohesionlaw08.HistoryStands': WHATEVER THE INPUT: true; the input reads as it did. -/
def historyStandsSpec : ChangeSpec := { name := "historyStands", fn := fun _ => fun
  | [d1, d2] => { results := [.lit (.bool true)], args := [d1, d2] }
  | _ => none }
def historyStandsRow : OpenClaim := { program := "ytpblaoeaeljmhaa", sum := "53b33a3ffce47539d0d72099420dcee5768fbc9826333c4c53ea8c05510f8f24", func := "cohesion/cohesionlaw08.HistoryStands", spec := "historyStands", inPlace := ["slices.overlaps[cohesion/api.Link]"], unfollowed := true, recurses := true, apart := false }
def HistoryStandsSaid : Prop := historyStandsRow.holds Try.pinned (OpenSpec.ofChange historyStandsSpec)

/-- ITS FALSE NEIGHBOUR: 'it returns false'. Refute it at one input. -/
def historyStandsWrong : ChangeSpec := { name := "historyStands", fn := fun _ => fun
  | [d1, d2] => { results := [.lit (.bool false)], args := [d1, d2] }
  | _ => none }
def HistoryStandsWrongFalsely : Prop := historyStandsRow.holds Try.pinned (OpenSpec.ofChange historyStandsWrong)

/-- 'cohesionlaw08.HistoryBetween': WHATEVER THE INPUT: true; the input reads as it did. -/
def historyBetweenSpec : ChangeSpec := { name := "historyBetween", fn := fun _ => fun
  | [d1, d2, d3] => { results := [.lit (.bool true)], args := [d1, d2, d3] }
  | _ => none }
def historyBetweenRow : OpenClaim := { program := "ytpblaoeaeljmhaa", sum := "53b33a3ffce47539d0d72099420dcee5768fbc9826333c4c53ea8c05510f8f24", func := "cohesion/cohesionlaw08.HistoryBetween", spec := "historyBetween", inPlace := ["slices.overlaps[cohesion/api.Link]"], unfollowed := true, recurses := true, apart := false }
def HistoryBetweenSaid : Prop := historyBetweenRow.holds Try.pinned (OpenSpec.ofChange historyBetweenSpec)

/-- ITS FALSE NEIGHBOUR: 'it returns false'. Refute it at one input. -/
def historyBetweenWrong : ChangeSpec := { name := "historyBetween", fn := fun _ => fun
  | [d1, d2, d3] => { results := [.lit (.bool false)], args := [d1, d2, d3] }
  | _ => none }
def HistoryBetweenWrongFalsely : Prop := historyBetweenRow.holds Try.pinned (OpenSpec.ofChange historyBetweenWrong)

/- THE SECOND FORM. 'bulk': how many values and letters a reading holds, each counted each time it is reached (what is shared counts as often as it is met; a slice's spare places count too). A statement '..UptoSaid' is the law's where the arguments, and the package variables that the reading takes, are together of bulk at most 1048576: NARROWER than '..Said'. Prove '..Said' where nothing that the law and all that it calls make is longer than what came in: it says more and counts as full. Else prove '..UptoSaid'. A law counts once. -/
mutual
def uptoBulk {H : Type} : DataW H → Nat
  | .lit (.string bytes) => bytes.length + 1
  | .lit _ => 1
  | .nil => 1
  | .ptr d => uptoBulk d + 1
  | .slice elems spare => uptoBulkAll elems + uptoBulkAll spare + 1
  | .agg parts => uptoBulkAll parts + 1
  | .iface _ d => uptoBulk d + 1
  | .map entries => uptoBulkEntries entries + 1
  | .held _ => 1
def uptoBulkAll {H : Type} : List (DataW H) → Nat
  | [] => 0
  | d :: r => uptoBulk d + uptoBulkAll r
def uptoBulkEntries {H : Type} : List (Lit × DataW H) → Nat
  | [] => 0
  | x :: r => uptoBulkEntry x + uptoBulkEntries r
def uptoBulkEntry {H : Type} : Lit × DataW H → Nat
  | (.string bytes, d) => bytes.length + uptoBulk d + 1
  | (_, d) => uptoBulk d + 1
 end
def uptoSmall : (H : Type) → List (DataW H) → Bool := fun _ ds => decide (uptoBulkAll ds ≤ 1048576)
def OpenSpec.upto (s : _root_.Go.ChangeSpec) : _root_.Go.OpenSpec := { _root_.Go.OpenSpec.ofChange s with cond := some uptoSmall }

/-- 'cohesionlaw08.HistoryLives', WHERE WHAT IT READS IS OF BULK AT MOST 1048576: true; the input reads as it did. -/
def historyLivesUptoRow : OpenClaim := { program := "ytpblaoeaeljmhaa", sum := "53b33a3ffce47539d0d72099420dcee5768fbc9826333c4c53ea8c05510f8f24", func := "cohesion/cohesionlaw08.HistoryLives", spec := "historyLives", inPlace := ["slices.overlaps[cohesion/api.Link]"], unfollowed := true, recurses := true, apart := false, narrowed := true }
def HistoryLivesUptoSaid : Prop := historyLivesUptoRow.holds Try.pinned (OpenSpec.upto historyLivesSpec)

/-- 'cohesionlaw08.HistoryVersions', WHERE WHAT IT READS IS OF BULK AT MOST 1048576: true; the input reads as it did. -/
def historyVersionsUptoRow : OpenClaim := { program := "ytpblaoeaeljmhaa", sum := "53b33a3ffce47539d0d72099420dcee5768fbc9826333c4c53ea8c05510f8f24", func := "cohesion/cohesionlaw08.HistoryVersions", spec := "historyVersions", inPlace := ["slices.overlaps[cohesion/api.Link]"], unfollowed := true, recurses := true, apart := false, narrowed := true }
def HistoryVersionsUptoSaid : Prop := historyVersionsUptoRow.holds Try.pinned (OpenSpec.upto historyVersionsSpec)

/-- 'cohesionlaw08.HistoryStands', WHERE WHAT IT READS IS OF BULK AT MOST 1048576: true; the input reads as it did. -/
def historyStandsUptoRow : OpenClaim := { program := "ytpblaoeaeljmhaa", sum := "53b33a3ffce47539d0d72099420dcee5768fbc9826333c4c53ea8c05510f8f24", func := "cohesion/cohesionlaw08.HistoryStands", spec := "historyStands", inPlace := ["slices.overlaps[cohesion/api.Link]"], unfollowed := true, recurses := true, apart := false, narrowed := true }
def HistoryStandsUptoSaid : Prop := historyStandsUptoRow.holds Try.pinned (OpenSpec.upto historyStandsSpec)

/-- 'cohesionlaw08.HistoryBetween', WHERE WHAT IT READS IS OF BULK AT MOST 1048576: true; the input reads as it did. -/
def historyBetweenUptoRow : OpenClaim := { program := "ytpblaoeaeljmhaa", sum := "53b33a3ffce47539d0d72099420dcee5768fbc9826333c4c53ea8c05510f8f24", func := "cohesion/cohesionlaw08.HistoryBetween", spec := "historyBetween", inPlace := ["slices.overlaps[cohesion/api.Link]"], unfollowed := true, recurses := true, apart := false, narrowed := true }
def HistoryBetweenUptoSaid : Prop := historyBetweenUptoRow.holds Try.pinned (OpenSpec.upto historyBetweenSpec)

end Rows
end Go.Proofs.Ytpblaoeaeljmhaa
