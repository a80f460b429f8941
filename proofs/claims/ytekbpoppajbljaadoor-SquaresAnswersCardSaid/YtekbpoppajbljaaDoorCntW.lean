/- Counts in an array, as the program keeps them. -/
import Derived.Test.YtekbpoppajbljaaDoorRef25
import Derived.Test.YtekbpoppajbljaaDoorMkOrder
namespace Go.Proofs.YtekbpoppajbljaaDoor
open Go.RowKit Go.BigFrame

/-- how often x occurs -/
def occ (P : List Nat) (x : Nat) : Int := ((P.filter fun y => y == x).length : Int)
theorem occ_snoc (P : List Nat) (x y : Nat) : occ (P ++ [x]) y = occ P y + if x = y then 1 else 0 := by
  unfold occ
  rw [List.filter_append, List.length_append]
  by_cases h : x = y
  · subst h; simp
  · have : (x == y) = false := by simpa using h
    simp [this, h]
/-- the numbers from 0 to n - 1 of a list, each as often as it occurs -/
def cntW (n : Nat) (P : List Nat) : List Int := (List.range n).map fun (i : Nat) => wrap64 (occ P i)
theorem cntW_length (n : Nat) (P : List Nat) : (cntW n P).length = n := by simp [cntW]
theorem cntW_get (n : Nat) (P : List Nat) (i : Nat) (hi : i < n) : (cntW n P)[i]? = some (wrap64 (occ P i)) := by simp [cntW, hi]
theorem cntW_nil (n : Nat) : cntW n [] = List.replicate n 0 := by
  apply List.ext_getElem?
  intro i
  by_cases hi : i < n
  · rw [cntW_get _ _ _ hi, List.getElem?_replicate, if_pos hi]; simp [occ, wrap64]
  · rw [List.getElem?_eq_none (by rw [cntW_length]; omega), List.getElem?_eq_none (by simp; omega)]
theorem wrap64_step (c : Int) : wrap64 (wrap64 c + 1) = wrap64 (c + 1) := by unfold wrap64; omega
theorem wrap64_in (c : Int) (h0 : -9223372036854775808 ≤ c) (h1 : c ≤ 9223372036854775807) : wrap64 c = c := by unfold wrap64; omega
theorem cntW_snoc (n : Nat) (P : List Nat) (x : Nat) : (cntW n P).set x (wrap64 (wrap64 (occ P x) + 1)) = cntW n (P ++ [x]) := by
  apply List.ext_getElem?
  intro i
  by_cases hi : i < n
  · rw [List.getElem?_set, cntW_get _ _ _ hi, cntW_get _ _ _ hi, cntW_length, occ_snoc]
    by_cases h : x = i
    · subst h; rw [if_pos rfl, if_pos hi, if_pos rfl, wrap64_step]
    · rw [if_neg h, if_neg h, Int.add_zero]
  · rw [List.getElem?_eq_none (by rw [List.length_set, cntW_length]; omega), List.getElem?_eq_none (by rw [cntW_length]; omega)]
theorem NumAt.below {w w' : World} {g : Nat} {l : List Int} (h : NumAt w g l) (hb : Below w.heap.size w w') : NumAt w' g l := (hb.block _ (blk_lt h)).trans h
theorem NumAt.new (w : World) (n : Nat) : NumAt (w.alloc (.cells (intsV (List.replicate n 0)).toArray 3)) w.heap.size (cntW n []) := by rw [cntW_nil]; exact heap_alloc_new _ _
theorem NumAt.other {w : World} {g g' j : Nat} {v : Value} {l : List Int} (h : NumAt w g l) (hne : g ≠ g') : NumAt (w.setCell ⟨g', j, none⟩ v) g l := (Below.heap_setCell _ _ _ _ hne).trans h
theorem ofe_drew {w : World} {g : Nat} {l : List Int} (h : NumAt w g l) : NumAt w.drew g l := h
end Go.Proofs.YtekbpoppajbljaaDoor
