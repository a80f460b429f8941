/-
  No cell of these rows narrows 'for every input' (looked for: loops, veiled, ifaces, maps, wideKeys, modest, calm, conditions, laid).
  DERIVED. THE GIVEN ROWS OF THIS SEAT. 5 by the template 'for every input the law returns true; each argument reads behind the call as it read before'; 0 by the template 'total and deterministic' (their statements: YtkadeibinhkbjaaTotals.lean).
  GIVEN WITH THE SEED: the statements are not yours to turn. If you find one false, say at which input.
  Laid BY PROGRAM, IN A SANDBOX (cutbox-rows.mjs): the forced cells as the released guide's own fill.sh prints them over the translation 75b439e346cfff71… (all of the seat's roots in one cut). By AI agents, Wed Nov 11 2026. No macro, syntax, notation, axiom, sorry.
-/
import Derived.Test.YtkadeibinhkbjaaChecked
import GoSem.Claim
import GoSem.ClaimJoined
import GoSem.ClaimMapViews
import Derived.JoinedTies
import Derived.KernelRfl
namespace Go.Proofs.Ytkadeibinhkbjaa
/- THE CELL 'sum', in the pinned program and in every row, IS THE sha256 OF THE DUMP (.gsa) THAT YtkadeibinhkbjaaProg.lean LOADS. Nothing in Lean hashes anything: it is a label: what it is worth is what the hold of that sum in a sandbox is worth. -/
noncomputable def Try.pinned : Pinned := { name := "ytkadeibinhkbjaa", sum := "75b439e346cfff716778c45594f4ccfdd268b80b8ffe081575695ebf2b93da32", checked := Try.checked }
namespace Rows
def none {H : Type} : Left H := { results := [], args := [] }

/-- 'cohesionlaw05.LinksApply': WHATEVER THE INPUT: true; the input reads as it did. -/
def linksApplySpec : ChangeSpec := { name := "linksApply", fn := fun _ => fun
  | [d1, d2, d3] => { results := [.lit (.bool true)], args := [d1, d2, d3] }
  | _ => none }
def linksApplyRow : OpenClaim := { program := "ytkadeibinhkbjaa", sum := "75b439e346cfff716778c45594f4ccfdd268b80b8ffe081575695ebf2b93da32", func := "cohesion/cohesionlaw05.LinksApply", spec := "linksApply", inPlace := ["slices.overlaps[cohesion/api.Link]"], unfollowed := true, recurses := true, apart := false }
def LinksApplySaid : Prop := linksApplyRow.holds Try.pinned (OpenSpec.ofChange linksApplySpec)

/-- ITS FALSE NEIGHBOUR: 'it returns false'. Refute it at one input. -/
def linksApplyWrong : ChangeSpec := { name := "linksApply", fn := fun _ => fun
  | [d1, d2, d3] => { results := [.lit (.bool false)], args := [d1, d2, d3] }
  | _ => none }
def LinksApplyWrongFalsely : Prop := linksApplyRow.holds Try.pinned (OpenSpec.ofChange linksApplyWrong)

/-- 'cohesionlaw05.LinksChanges': WHATEVER THE INPUT: true; the input reads as it did. -/
def linksChangesSpec : ChangeSpec := { name := "linksChanges", fn := fun _ => fun
  | [d] => { results := [.lit (.bool true)], args := [d] }
  | _ => none }
def linksChangesRow : OpenClaim := { program := "ytkadeibinhkbjaa", sum := "75b439e346cfff716778c45594f4ccfdd268b80b8ffe081575695ebf2b93da32", func := "cohesion/cohesionlaw05.LinksChanges", spec := "linksChanges", inPlace := ["slices.overlaps[cohesion/api.Link]"], unfollowed := true, recurses := true, apart := false }
def LinksChangesSaid : Prop := linksChangesRow.holds Try.pinned (OpenSpec.ofChange linksChangesSpec)

/-- ITS FALSE NEIGHBOUR: 'it returns false'. Refute it at one input. -/
def linksChangesWrong : ChangeSpec := { name := "linksChanges", fn := fun _ => fun
  | [d] => { results := [.lit (.bool false)], args := [d] }
  | _ => none }
def LinksChangesWrongFalsely : Prop := linksChangesRow.holds Try.pinned (OpenSpec.ofChange linksChangesWrong)

/-- 'cohesionlaw05.LinksBack': WHATEVER THE INPUT: true; the input reads as it did. -/
def linksBackSpec : ChangeSpec := { name := "linksBack", fn := fun _ => fun
  | [d] => { results := [.lit (.bool true)], args := [d] }
  | _ => none }
def linksBackRow : OpenClaim := { program := "ytkadeibinhkbjaa", sum := "75b439e346cfff716778c45594f4ccfdd268b80b8ffe081575695ebf2b93da32", func := "cohesion/cohesionlaw05.LinksBack", spec := "linksBack", inPlace := ["slices.overlaps[cohesion/api.Link]"], unfollowed := true, recurses := true, apart := false }
def LinksBackSaid : Prop := linksBackRow.holds Try.pinned (OpenSpec.ofChange linksBackSpec)

/-- ITS FALSE NEIGHBOUR: 'it returns false'. Refute it at one input. -/
def linksBackWrong : ChangeSpec := { name := "linksBack", fn := fun _ => fun
  | [d] => { results := [.lit (.bool false)], args := [d] }
  | _ => none }
def LinksBackWrongFalsely : Prop := linksBackRow.holds Try.pinned (OpenSpec.ofChange linksBackWrong)

/-- 'cohesionlaw05.LinksWhere': WHATEVER THE INPUT: true; the input reads as it did. -/
def linksWhereSpec : ChangeSpec := { name := "linksWhere", fn := fun _ => fun
  | [d1, d2] => { results := [.lit (.bool true)], args := [d1, d2] }
  | _ => none }
def linksWhereRow : OpenClaim := { program := "ytkadeibinhkbjaa", sum := "75b439e346cfff716778c45594f4ccfdd268b80b8ffe081575695ebf2b93da32", func := "cohesion/cohesionlaw05.LinksWhere", spec := "linksWhere", inPlace := ["slices.overlaps[cohesion/api.Link]"], unfollowed := true, recurses := true, apart := false }
def LinksWhereSaid : Prop := linksWhereRow.holds Try.pinned (OpenSpec.ofChange linksWhereSpec)

/-- ITS FALSE NEIGHBOUR: 'it returns false'. Refute it at one input. -/
def linksWhereWrong : ChangeSpec := { name := "linksWhere", fn := fun _ => fun
  | [d1, d2] => { results := [.lit (.bool false)], args := [d1, d2] }
  | _ => none }
def LinksWhereWrongFalsely : Prop := linksWhereRow.holds Try.pinned (OpenSpec.ofChange linksWhereWrong)

/-- 'cohesionlaw05.LinksLook': WHATEVER THE INPUT: true; the input reads as it did. -/
def linksLookSpec : ChangeSpec := { name := "linksLook", fn := fun _ => fun
  | [d1, d2, d3, d4, d5, d6] => { results := [.lit (.bool true)], args := [d1, d2, d3, d4, d5, d6] }
  | _ => none }
def linksLookRow : OpenClaim := { program := "ytkadeibinhkbjaa", sum := "75b439e346cfff716778c45594f4ccfdd268b80b8ffe081575695ebf2b93da32", func := "cohesion/cohesionlaw05.LinksLook", spec := "linksLook", inPlace := ["slices.overlaps[cohesion/api.Link]"], unfollowed := true, recurses := true, apart := false }
def LinksLookSaid : Prop := linksLookRow.holds Try.pinned (OpenSpec.ofChange linksLookSpec)

/-- ITS FALSE NEIGHBOUR: 'it returns false'. Refute it at one input. -/
def linksLookWrong : ChangeSpec := { name := "linksLook", fn := fun _ => fun
  | [d1, d2, d3, d4, d5, d6] => { results := [.lit (.bool false)], args := [d1, d2, d3, d4, d5, d6] }
  | _ => none }
def LinksLookWrongFalsely : Prop := linksLookRow.holds Try.pinned (OpenSpec.ofChange linksLookWrong)

/- THE SECOND FORM. 'bulk': how many values and letters a reading holds, each counted each time it is reached (what is shared counts as often as it is met; a slice's spare places count too). A statement '..UptoSaid' is the law's where the arguments, and the package variables that the reading takes, are together of bulk at most 1048576: NARROWER than '..Said'. Prove '..Said' where nothing that the law and all that it calls make is longer than what came in: it says more and counts as full. Else prove '..UptoSaid'. A law counts once. -/
mutual
def uptoBulk {H : Type} : DataW H → Nat
  | .lit (.string bytes) => bytes.length + 1
  | .lit _ => 1
  | .nil => 1
  | .ptr d => uptoBulk d + 1
  | .slice elems spare => uptoBulkAll elems + uptoBulkAll spare + 1
  | .agg parts => uptoBulkAll parts + 1
  | .iface _ d => uptoBulk d + 1
  | .map entries => uptoBulkEntries entries + 1
  | .held _ => 1
def uptoBulkAll {H : Type} : List (DataW H) → Nat
  | [] => 0
  | d :: r => uptoBulk d + uptoBulkAll r
def uptoBulkEntries {H : Type} : List (Lit × DataW H) → Nat
  | [] => 0
  | x :: r => uptoBulkEntry x + uptoBulkEntries r
def uptoBulkEntry {H : Type} : Lit × DataW H → Nat
  | (.string bytes, d) => bytes.length + uptoBulk d + 1
  | (_, d) => uptoBulk d + 1
 end
def uptoSmall : (H : Type) → List (DataW H) → Bool := fun _ ds => decide (uptoBulkAll ds ≤ 1048576)
def OpenSpec.upto (s : _root_.Go.ChangeSpec) : _root_.Go.OpenSpec := { _root_.Go.OpenSpec.ofChange s with cond := some uptoSmall }

/-- 'cohesionlaw05.LinksApply', WHERE WHAT IT READS IS OF BULK AT MOST 1048576: true; the input reads as it did. -/
def linksApplyUptoRow : OpenClaim := { program := "ytkadeibinhkbjaa", sum := "75b439e346cfff716778c45594f4ccfdd268b80b8ffe081575695ebf2b93da32", func := "cohesion/cohesionlaw05.LinksApply", spec := "linksApply", inPlace := ["slices.overlaps[cohesion/api.Link]"], unfollowed := true, recurses := true, apart := false, narrowed := true }
def LinksApplyUptoSaid : Prop := linksApplyUptoRow.holds Try.pinned (OpenSpec.upto linksApplySpec)

/-- 'cohesionlaw05.LinksChanges', WHERE WHAT IT READS IS OF BULK AT MOST 1048576: true; the input reads as it did. -/
def linksChangesUptoRow : OpenClaim := { program := "ytkadeibinhkbjaa", sum := "75b439e346cfff716778c45594f4ccfdd268b80b8ffe081575695ebf2b93da32", func := "cohesion/cohesionlaw05.LinksChanges", spec := "linksChanges", inPlace := ["slices.overlaps[cohesion/api.Link]"], unfollowed := true, recurses := true, apart := false, narrowed := true }
def LinksChangesUptoSaid : Prop := linksChangesUptoRow.holds Try.pinned (OpenSpec.upto linksChangesSpec)

/-- 'cohesionlaw05.LinksBack', WHERE WHAT IT READS IS OF BULK AT MOST 1048576: true; the input reads as it did. -/
def linksBackUptoRow : OpenClaim := { program := "ytkadeibinhkbjaa", sum := "75b439e346cfff716778c45594f4ccfdd268b80b8ffe081575695ebf2b93da32", func := "cohesion/cohesionlaw05.LinksBack", spec := "linksBack", inPlace := ["slices.overlaps[cohesion/api.Link]"], unfollowed := true, recurses := true, apart := false, narrowed := true }
def LinksBackUptoSaid : Prop := linksBackUptoRow.holds Try.pinned (OpenSpec.upto linksBackSpec)

/-- 'cohesionlaw05.LinksWhere', WHERE WHAT IT READS IS OF BULK AT MOST 1048576: true; the input reads as it did. -/
def linksWhereUptoRow : OpenClaim := { program := "ytkadeibinhkbjaa", sum := "75b439e346cfff716778c45594f4ccfdd268b80b8ffe081575695ebf2b93da32", func := "cohesion/cohesionlaw05.LinksWhere", spec := "linksWhere", inPlace := ["slices.overlaps[cohesion/api.Link]"], unfollowed := true, recurses := true, apart := false, narrowed := true }
def LinksWhereUptoSaid : Prop := linksWhereUptoRow.holds Try.pinned (OpenSpec.upto linksWhereSpec)

/-- 'cohesionlaw05.LinksLook', WHERE WHAT IT READS IS OF BULK AT MOST 1048576: true; the input reads as it did. -/
def linksLookUptoRow : OpenClaim := { program := "ytkadeibinhkbjaa", sum := "75b439e346cfff716778c45594f4ccfdd268b80b8ffe081575695ebf2b93da32", func := "cohesion/cohesionlaw05.LinksLook", spec := "linksLook", inPlace := ["slices.overlaps[cohesion/api.Link]"], unfollowed := true, recurses := true, apart := false, narrowed := true }
def LinksLookUptoSaid : Prop := linksLookUptoRow.holds Try.pinned (OpenSpec.upto linksLookSpec)

end Rows
end Go.Proofs.Ytkadeibinhkbjaa
