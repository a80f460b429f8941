/-
  No cell of these rows narrows 'for every input' (looked for: loops, veiled, ifaces, maps, wideKeys, modest, calm, conditions, laid).
  DERIVED. THE GIVEN ROWS OF THIS SEAT. 4 by the template 'for every input the law returns true; each argument reads behind the call as it read before'; 0 by the template 'total and deterministic' (their statements: YtdljkobgghnkpaaTotals.lean).
  GIVEN WITH THE SEED: the statements are not yours to turn. If you find one false, say at which input.
  Laid BY PROGRAM, IN A SANDBOX (cutbox-rows.mjs): the forced cells as the released guide's own fill.sh prints them over the translation 7485cb27ad5806b3… (all of the seat's roots in one cut). By AI agents, Wed Nov 11 2026. No macro, syntax, notation, axiom, sorry.
-/
import Derived.Test.YtdljkobgghnkpaaChecked
import GoSem.Claim
import GoSem.ClaimJoined
import GoSem.ClaimMapViews
import Derived.JoinedTies
import Derived.KernelRfl
namespace Go.Proofs.Ytdljkobgghnkpaa
/- THE CELL 'sum', in the pinned program and in every row, IS THE sha256 OF THE DUMP (.gsa) THAT YtdljkobgghnkpaaProg.lean LOADS. Nothing in Lean hashes anything: it is a label: what it is worth is what the hold of that sum in a sandbox is worth. -/
noncomputable def Try.pinned : Pinned := { name := "ytdljkobgghnkpaa", sum := "7485cb27ad5806b30ca36d6d5f9f87dad7951029fd79a10ae904369328114718", checked := Try.checked }
namespace Rows
def none {H : Type} : Left H := { results := [], args := [] }

/-- 'cohesionlaw06.ReorderPushes': WHATEVER THE INPUT: true; the input reads as it did. -/
def reorderPushesSpec : ChangeSpec := { name := "reorderPushes", fn := fun _ => fun
  | [d1, d2, d3, d4] => { results := [.lit (.bool true)], args := [d1, d2, d3, d4] }
  | _ => none }
def reorderPushesRow : OpenClaim := { program := "ytdljkobgghnkpaa", sum := "7485cb27ad5806b30ca36d6d5f9f87dad7951029fd79a10ae904369328114718", func := "cohesion/cohesionlaw06.ReorderPushes", spec := "reorderPushes", inPlace := ["slices.overlaps[cohesion/api.Event]"], apart := false }
def ReorderPushesSaid : Prop := reorderPushesRow.holds Try.pinned (OpenSpec.ofChange reorderPushesSpec)

/-- ITS FALSE NEIGHBOUR: 'it returns false'. Refute it at one input. -/
def reorderPushesWrong : ChangeSpec := { name := "reorderPushes", fn := fun _ => fun
  | [d1, d2, d3, d4] => { results := [.lit (.bool false)], args := [d1, d2, d3, d4] }
  | _ => none }
def ReorderPushesWrongFalsely : Prop := reorderPushesRow.holds Try.pinned (OpenSpec.ofChange reorderPushesWrong)

/-- 'cohesionlaw06.ReorderSorts': WHATEVER THE INPUT: true; the input reads as it did. -/
def reorderSortsSpec : ChangeSpec := { name := "reorderSorts", fn := fun _ => fun
  | [d1, d2] => { results := [.lit (.bool true)], args := [d1, d2] }
  | _ => none }
def reorderSortsRow : OpenClaim := { program := "ytdljkobgghnkpaa", sum := "7485cb27ad5806b30ca36d6d5f9f87dad7951029fd79a10ae904369328114718", func := "cohesion/cohesionlaw06.ReorderSorts", spec := "reorderSorts", inPlace := ["slices.overlaps[cohesion/api.Event]"], apart := false }
def ReorderSortsSaid : Prop := reorderSortsRow.holds Try.pinned (OpenSpec.ofChange reorderSortsSpec)

/-- ITS FALSE NEIGHBOUR: 'it returns false'. Refute it at one input. -/
def reorderSortsWrong : ChangeSpec := { name := "reorderSorts", fn := fun _ => fun
  | [d1, d2] => { results := [.lit (.bool false)], args := [d1, d2] }
  | _ => none }
def ReorderSortsWrongFalsely : Prop := reorderSortsRow.holds Try.pinned (OpenSpec.ofChange reorderSortsWrong)

/-- 'cohesionlaw06.ReorderBound': WHATEVER THE INPUT: true; the input reads as it did. -/
def reorderBoundSpec : ChangeSpec := { name := "reorderBound", fn := fun _ => fun
  | [d1, d2] => { results := [.lit (.bool true)], args := [d1, d2] }
  | _ => none }
def reorderBoundRow : OpenClaim := { program := "ytdljkobgghnkpaa", sum := "7485cb27ad5806b30ca36d6d5f9f87dad7951029fd79a10ae904369328114718", func := "cohesion/cohesionlaw06.ReorderBound", spec := "reorderBound", inPlace := ["slices.overlaps[cohesion/api.Event]"], apart := false }
def ReorderBoundSaid : Prop := reorderBoundRow.holds Try.pinned (OpenSpec.ofChange reorderBoundSpec)

/-- ITS FALSE NEIGHBOUR: 'it returns false'. Refute it at one input. -/
def reorderBoundWrong : ChangeSpec := { name := "reorderBound", fn := fun _ => fun
  | [d1, d2] => { results := [.lit (.bool false)], args := [d1, d2] }
  | _ => none }
def ReorderBoundWrongFalsely : Prop := reorderBoundRow.holds Try.pinned (OpenSpec.ofChange reorderBoundWrong)

/-- 'cohesionlaw06.ReorderWaits': WHATEVER THE INPUT: true; the input reads as it did. -/
def reorderWaitsSpec : ChangeSpec := { name := "reorderWaits", fn := fun _ => fun
  | [d1, d2] => { results := [.lit (.bool true)], args := [d1, d2] }
  | _ => none }
def reorderWaitsRow : OpenClaim := { program := "ytdljkobgghnkpaa", sum := "7485cb27ad5806b30ca36d6d5f9f87dad7951029fd79a10ae904369328114718", func := "cohesion/cohesionlaw06.ReorderWaits", spec := "reorderWaits", inPlace := ["slices.overlaps[cohesion/api.Event]"], apart := false }
def ReorderWaitsSaid : Prop := reorderWaitsRow.holds Try.pinned (OpenSpec.ofChange reorderWaitsSpec)

/-- ITS FALSE NEIGHBOUR: 'it returns false'. Refute it at one input. -/
def reorderWaitsWrong : ChangeSpec := { name := "reorderWaits", fn := fun _ => fun
  | [d1, d2] => { results := [.lit (.bool false)], args := [d1, d2] }
  | _ => none }
def ReorderWaitsWrongFalsely : Prop := reorderWaitsRow.holds Try.pinned (OpenSpec.ofChange reorderWaitsWrong)

/- THE SECOND FORM. 'bulk': how many values and letters a reading holds, each counted each time it is reached (what is shared counts as often as it is met; a slice's spare places count too). A statement '..UptoSaid' is the law's where the arguments, and the package variables that the reading takes, are together of bulk at most 1048576: NARROWER than '..Said'. Prove '..Said' where nothing that the law and all that it calls make is longer than what came in: it says more and counts as full. Else prove '..UptoSaid'. A law counts once. -/
mutual
def uptoBulk {H : Type} : DataW H → Nat
  | .lit (.string bytes) => bytes.length + 1
  | .lit _ => 1
  | .nil => 1
  | .ptr d => uptoBulk d + 1
  | .slice elems spare => uptoBulkAll elems + uptoBulkAll spare + 1
  | .agg parts => uptoBulkAll parts + 1
  | .iface _ d => uptoBulk d + 1
  | .map entries => uptoBulkEntries entries + 1
  | .held _ => 1
def uptoBulkAll {H : Type} : List (DataW H) → Nat
  | [] => 0
  | d :: r => uptoBulk d + uptoBulkAll r
def uptoBulkEntries {H : Type} : List (Lit × DataW H) → Nat
  | [] => 0
  | x :: r => uptoBulkEntry x + uptoBulkEntries r
def uptoBulkEntry {H : Type} : Lit × DataW H → Nat
  | (.string bytes, d) => bytes.length + uptoBulk d + 1
  | (_, d) => uptoBulk d + 1
 end
def uptoSmall : (H : Type) → List (DataW H) → Bool := fun _ ds => decide (uptoBulkAll ds ≤ 1048576)
def OpenSpec.upto (s : _root_.Go.ChangeSpec) : _root_.Go.OpenSpec := { _root_.Go.OpenSpec.ofChange s with cond := some uptoSmall }

/-- 'cohesionlaw06.ReorderPushes', WHERE WHAT IT READS IS OF BULK AT MOST 1048576: true; the input reads as it did. -/
def reorderPushesUptoRow : OpenClaim := { program := "ytdljkobgghnkpaa", sum := "7485cb27ad5806b30ca36d6d5f9f87dad7951029fd79a10ae904369328114718", func := "cohesion/cohesionlaw06.ReorderPushes", spec := "reorderPushes", inPlace := ["slices.overlaps[cohesion/api.Event]"], apart := false, narrowed := true }
def ReorderPushesUptoSaid : Prop := reorderPushesUptoRow.holds Try.pinned (OpenSpec.upto reorderPushesSpec)

/-- 'cohesionlaw06.ReorderSorts', WHERE WHAT IT READS IS OF BULK AT MOST 1048576: true; the input reads as it did. -/
def reorderSortsUptoRow : OpenClaim := { program := "ytdljkobgghnkpaa", sum := "7485cb27ad5806b30ca36d6d5f9f87dad7951029fd79a10ae904369328114718", func := "cohesion/cohesionlaw06.ReorderSorts", spec := "reorderSorts", inPlace := ["slices.overlaps[cohesion/api.Event]"], apart := false, narrowed := true }
def ReorderSortsUptoSaid : Prop := reorderSortsUptoRow.holds Try.pinned (OpenSpec.upto reorderSortsSpec)

/-- 'cohesionlaw06.ReorderBound', WHERE WHAT IT READS IS OF BULK AT MOST 1048576: true; the input reads as it did. -/
def reorderBoundUptoRow : OpenClaim := { program := "ytdljkobgghnkpaa", sum := "7485cb27ad5806b30ca36d6d5f9f87dad7951029fd79a10ae904369328114718", func := "cohesion/cohesionlaw06.ReorderBound", spec := "reorderBound", inPlace := ["slices.overlaps[cohesion/api.Event]"], apart := false, narrowed := true }
def ReorderBoundUptoSaid : Prop := reorderBoundUptoRow.holds Try.pinned (OpenSpec.upto reorderBoundSpec)

/-- 'cohesionlaw06.ReorderWaits', WHERE WHAT IT READS IS OF BULK AT MOST 1048576: true; the input reads as it did. -/
def reorderWaitsUptoRow : OpenClaim := { program := "ytdljkobgghnkpaa", sum := "7485cb27ad5806b30ca36d6d5f9f87dad7951029fd79a10ae904369328114718", func := "cohesion/cohesionlaw06.ReorderWaits", spec := "reorderWaits", inPlace := ["slices.overlaps[cohesion/api.Event]"], apart := false, narrowed := true }
def ReorderWaitsUptoSaid : Prop := reorderWaitsUptoRow.holds Try.pinned (OpenSpec.upto reorderWaitsSpec)

end Rows
end Go.Proofs.Ytdljkobgghnkpaa
