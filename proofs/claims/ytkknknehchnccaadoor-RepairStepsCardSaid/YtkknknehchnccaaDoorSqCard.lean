/- What the rows of the laws on squares give: the library's table holds its numbers. -/
import Derived.Test.YtkknknehchnccaaDoorCards
import Derived.Test.YtkknknehchnccaaDoorTie
import Derived.WalkKit
import Derived.ProofKit
import Derived.OpenShut
import Derived.ShutString
import Derived.ChangeOld
import Derived.Below
import Derived.Deep.DeepHandedRow
import Derived.Lib.LaidTab
import Derived.Test.YtkknknehchnccaaDoorMasks
namespace Go.Proofs.YtkknknehchnccaaDoor
open Go.ChangeShapes Go.WideShapes Go.ChangeAt Go.RowKit

theorem ownG : ownKnob Tryd.prog.godebug = none := by kernel_rfl
theorem laidOutG : laidOutB Tryd.prog = true := by kernel_rfl
theorem gTz : Tryd.prog.globalNamed "math/bits.deBruijn64tab" = some 0 := by kernel_rfl
theorem gTzT : (Tryd.prog.globals[0]?).map (·.type) = some 157 := by kernel_rfl
theorem cellsTz : Tryd.prog.cellsOf 157 = 64 := by kernel_rfl
theorem cellsU8 : Tryd.prog.cellsOf 5 = 1 := by kernel_rfl
def tzZ : List Int := Lib.deBruijn64tab.map fun (n : Nat) => (n : Int)
theorem tzZ_at : ∀ j, j < 64 → (tzZ.map fun z => Value.int .u8 z)[j]? = some (.int .u8 (Lib.deBruijn64tab.getD j 0 : Nat)) := by
  intro j hj
  have h : Lib.deBruijn64tab.length = 64 := rfl
  simp [tzZ, h, hj]
theorem tz_of_tab {W : World} (h : Lib.TabIs Tryd.prog W "math/bits.deBruijn64tab" .u8 tzZ) : TzAt W := by
  intro j hj
  rw [World.var?_cell gTz h j, ← Array.getElem?_toList]
  exact tzZ_at j hj
theorem tz_of_laid {W : World} {rest : List (String × DataW Unit)} (h : laidMet Tryd.prog (("math/bits.deBruijn64tab", Rows.laid_math_bits_deBruijn64tab) :: rest) W) : TzAt W :=
  tz_of_tab (Lib.tabIs_of_head (zs := tzZ) (k := .u8) gTz gTzT Tryd.underlying157 Tryd.underlying5 cellsU8 cellsTz h)
/-- cells with other content -/
def refillZ (c : Array Value) : Obj → Obj
  | .cells _ t frozen => .cells c t frozen
  | o => o
noncomputable def tzHeap (h : Array Obj) : Array Obj := h.modify 0 (refillZ (tzZ.map fun z => Value.int .u8 z).toArray)
/-- A world for the witness: the table holds what its initialiser lays. -/
noncomputable def tzWorld (os : Os) : World :=
  { World.holding Tryd.prog os ⟨#[], #[], []⟩ with heap := tzHeap (World.holding Tryd.prog os ⟨#[], #[], []⟩).heap }
end Go.Proofs.YtkknknehchnccaaDoor
