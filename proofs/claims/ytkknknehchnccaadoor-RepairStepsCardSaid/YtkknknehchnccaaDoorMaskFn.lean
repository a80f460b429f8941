/- Sets of nodes in a block, as a function. -/
import Derived.Test.YtkknknehchnccaaDoorPeelK
namespace Go.Proofs.YtkknknehchnccaaDoor
open Go.RowKit Go.BigFrame

def fnU (m : Nat) (F : Nat → Nat) : List Value := (List.range m).map fun x => Value.int .u64 (F x : Int)
theorem fnU_length (m : Nat) (F : Nat → Nat) : (fnU m F).length = m := by simp [fnU]
theorem fnU_get (m : Nat) (F : Nat → Nat) (i : Nat) (h : i < m) : (fnU m F)[i]? = some (.int .u64 (F i : Int)) := by simp [fnU, h]
theorem fnU_set (m : Nat) (F : Nat → Nat) (i v : Nat) : (fnU m F).set i (.int .u64 (v : Int)) = fnU m (updN F i v) := by
  apply List.ext_getElem?
  intro j
  by_cases hj : j < m
  · rw [List.getElem?_set, fnU_get _ _ _ hj, fnU_get _ _ _ hj, fnU_length]
    unfold updN
    by_cases e : i = j
    · subst e; simp [hj]
    · rw [if_neg e, if_neg (Ne.symm e)]
  · rw [List.getElem?_eq_none (by rw [List.length_set, fnU_length]; omega), List.getElem?_eq_none (by rw [fnU_length]; omega)]
theorem fnU_rows (n : Nat) (es : List E2) : rowsV n es = fnU n (rowN es) := rfl
def MaskAt (w : World) (g T m : Nat) (F : Nat → Nat) : Prop := w.heap[g]? = some (.cells (fnU m F).toArray T (0, 0))
theorem MaskAt.cell {w : World} {g T m : Nat} {F : Nat → Nat} (h : MaskAt w g T m F) (i : Nat) (hi : i < m) : w.cell? ⟨g, i, none⟩ = some (.int .u64 (F i : Int)) := by
  rw [cell_blk h]; simpa using fnU_get m F i hi
theorem MaskAt.set {w : World} {g T m : Nat} {F : Nat → Nat} (h : MaskAt w g T m F) (i v : Nat) : MaskAt (w.setCell ⟨g, i, none⟩ (.int .u64 (v : Int))) g T m (updN F i v) := by
  unfold MaskAt
  rw [heap_setCell_same _ _ _ _ _ _ h, ← fnU_set]
  simp
theorem MaskAt.other {w : World} {g b j T m : Nat} {F : Nat → Nat} {v : Value} (h : MaskAt w g T m F) (hne : g ≠ b) : MaskAt (w.setCell ⟨b, j, none⟩ v) g T m F := (Below.heap_setCell _ _ _ _ (by show g ≠ b; exact hne)).trans h
theorem MaskAt.below {w w' : World} {g T m : Nat} {F : Nat → Nat} (h : MaskAt w g T m F) (hb : Below w.heap.size w w') : MaskAt w' g T m F := (hb.block _ (blk_lt h)).trans h
end Go.Proofs.YtkknknehchnccaaDoor
