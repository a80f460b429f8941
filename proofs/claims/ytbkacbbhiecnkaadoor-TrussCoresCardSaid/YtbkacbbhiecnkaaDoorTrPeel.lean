/- The contract of the program's peeling of edges. -/
import Derived.Test.YtbkacbbhiecnkaaDoorTrTris
import Derived.Test.YtbkacbbhiecnkaaDoorRef25
namespace Go.Proofs.YtbkacbbhiecnkaaDoor
open Go.RowKit Go.BigFrame

/-- numbers as a function -/
def fnL (m : Nat) (F : Nat → Int) : List Int := (List.range m).map F
theorem fnL_length (m : Nat) (F : Nat → Int) : (fnL m F).length = m := by simp [fnL]
theorem fnL_get (m : Nat) (F : Nat → Int) (i : Nat) (h : i < m) : (fnL m F)[i]? = some (F i) := by simp [fnL, h]
theorem fnL_set (m : Nat) (F : Nat → Int) (i : Nat) (v : Int) : (fnL m F).set i v = fnL m (fun x => if x = i then v else F x) := by
  apply List.ext_getElem?
  intro j
  by_cases hj : j < m
  · rw [List.getElem?_set, fnL_get _ _ _ hj, fnL_get _ _ _ hj, fnL_length]
    by_cases e : i = j
    · subst e; simp [hj]
    · rw [if_neg e, if_neg (Ne.symm e)]
  · rw [List.getElem?_eq_none (by rw [List.length_set, fnL_length]; omega), List.getElem?_eq_none (by rw [fnL_length]; omega)]
theorem fnL_zero (m : Nat) : List.replicate m (0 : Int) = fnL m (fun _ => 0) := by
  apply List.ext_getElem?
  intro j
  by_cases hj : j < m
  · rw [fnL_get _ _ _ hj, List.getElem?_replicate, if_pos hj]
  · rw [List.getElem?_eq_none (by rw [List.length_replicate]; omega), List.getElem?_eq_none (by rw [fnL_length]; omega)]
theorem fnL_congr (m : Nat) (F G : Nat → Int) (h : ∀ x, x < m → F x = G x) : fnL m F = fnL m G := List.map_congr_left fun x hx => h x (List.mem_range.1 hx)
/-- truth values as a function -/
def fnB (m : Nat) (F : Nat → Bool) : List Value := (List.range m).map fun x => Value.bool (F x)
theorem fnB_length (m : Nat) (F : Nat → Bool) : (fnB m F).length = m := by simp [fnB]
theorem fnB_get (m : Nat) (F : Nat → Bool) (i : Nat) (h : i < m) : (fnB m F)[i]? = some (.bool (F i)) := by simp [fnB, h]
theorem fnB_set (m : Nat) (F : Nat → Bool) (i : Nat) (v : Bool) : (fnB m F).set i (.bool v) = fnB m (fun x => if x = i then v else F x) := by
  apply List.ext_getElem?
  intro j
  by_cases hj : j < m
  · rw [List.getElem?_set, fnB_get _ _ _ hj, fnB_get _ _ _ hj, fnB_length]
    by_cases e : i = j
    · subst e; simp [hj]
    · rw [if_neg e, if_neg (Ne.symm e)]
  · rw [List.getElem?_eq_none (by rw [List.length_set, fnB_length]; omega), List.getElem?_eq_none (by rw [fnB_length]; omega)]
def BoolAt (w : World) (g m : Nat) (F : Nat → Bool) : Prop := w.heap[g]? = some (.cells (fnB m F).toArray 4 (0, 0))
theorem BoolAt.cell {w : World} {g m : Nat} {F : Nat → Bool} (h : BoolAt w g m F) (i : Nat) (hi : i < m) : w.cell? ⟨g, i, none⟩ = some (.bool (F i)) := by
  rw [cell_blk h]; simpa using fnB_get m F i hi
theorem BoolAt.set {w : World} {g m : Nat} {F : Nat → Bool} (h : BoolAt w g m F) (i : Nat) (v : Bool) : BoolAt (w.setCell ⟨g, i, none⟩ (.bool v)) g m (fun x => if x = i then v else F x) := by
  unfold BoolAt
  rw [heap_setCell_same _ _ _ _ _ _ h, ← fnB_set]
  simp
theorem BoolAt.congr {w : World} {g m : Nat} {F G : Nat → Bool} (h : BoolAt w g m F) (e : ∀ x, x < m → F x = G x) : BoolAt w g m G := by
  have : fnB m F = fnB m G := List.map_congr_left fun x hx => by rw [e x (List.mem_range.1 hx)]
  unfold BoolAt; rw [← this]; exact h
theorem blRT : SliceT Tryd.prog 130 4 (.bool false) 1 1 := ⟨Tryd.underlying130, by kernel_rfl, rfl, by decide⟩
theorem make_bools (n : Nat) (hn : n ≤ 1000000) : ∀ w, (Instr.makeSlice 130 (.int .i64 (n : Int)) (.int .i64 (n : Int))).run Tryd.prog w = .ok (.slice (some ⟨w.heap.size, 0, none⟩) n n) (w.alloc (.cells (fnB n (fun _ => false)).toArray 4)) := by
  intro w
  obtain ⟨i, hi, hz, hs, hb⟩ := info_parts blRT.info
  have h := run_make (P := Tryd.prog) w 130 4 i (.bool false) Tryd.underlying130 hi hz .i64 .i64 (n : Int) (n : Int) (by omega) (Int.le_refl _) (by rw [hb]; omega) (by omega)
  rw [h, hs]
  simp only [Int.toNat_natCast, Nat.mul_one, Value.cells]
  have hm : madeCells #[Value.bool false] n = (fnB n (fun _ => false)).toArray := by
    apply Array.ext_getElem?
    intro j
    simp only [madeCells, fnB]
    by_cases hj : j < n
    · simp [hj, Nat.mod_one]
    · simp [hj]
  rw [hm]
theorem numAt_fn {w : World} {g m : Nat} {F : Nat → Int} (h : NumAt w g (fnL m F)) (i : Nat) (hi : i < m) : w.cell? ⟨g, i, none⟩ = some (.int .i64 (F i)) := h.cell i _ (fnL_get m F i hi)
theorem numAt_set {w : World} {g m : Nat} {F : Nat → Int} (h : NumAt w g (fnL m F)) (i : Nat) (v : Int) : NumAt (w.setCell ⟨g, i, none⟩ (.int .i64 v)) g (fnL m (fun x => if x = i then v else F x)) := by
  rw [← fnL_set]; exact h.set i v
theorem numAt_other {w : World} {g b j : Nat} {l : List Int} {v : Value} (h : NumAt w g l) (hne : g ≠ b) : NumAt (w.setCell ⟨b, j, none⟩ v) g l := (Below.heap_setCell _ _ _ _ (by show g ≠ b; exact hne)).trans h
theorem boolAt_other {w : World} {g m b j : Nat} {F : Nat → Bool} {v : Value} (h : BoolAt w g m F) (hne : g ≠ b) : BoolAt (w.setCell ⟨b, j, none⟩ v) g m F := (Below.heap_setCell _ _ _ _ (by show g ≠ b; exact hne)).trans h
/-- the support of the edges -/
def trS (es : List E2) (n : Nat) : (Nat → Bool) → Nat → Nat := supT (triN es n)
theorem trS_le {n : Nat} {es : List E2} (S : Nat → Bool) (x : Nat) : trS es n S x ≤ n := by
  unfold trS supT
  refine Nat.le_trans (List.length_filter_le _ _) ?_
  unfold triN
  split
  · exact Nat.zero_le _
  · rw [List.length_map]; exact cmL_length _ _ _ _
theorem tri_le (es : List E2) (n x : Nat) : (triN es n x).length ≤ n := by
  unfold triN
  split
  · exact Nat.zero_le _
  · rw [List.length_map]; exact cmL_length _ _ _ _
theorem trS_all {n : Nat} {es : List E2} (hv : Valid n es) (x : Nat) : trS es n (restB es.length []) x = (triN es n x).length := by
  unfold trS supT
  rw [List.filter_eq_self.2]
  intro p hp
  obtain ⟨_, h1, h2, _⟩ := (triH hv).lt x p hp
  simp [restB_nil, h1, h2]
theorem supT_congr (T : Nat → List (Nat × Nat)) (S S' : Nat → Bool) (h : ∀ x, S x = S' x) (x : Nat) : supT T S x = supT T S' x := by
  have : S = S' := funext h
  rw [this]
/-- the supports ahead of a round, and what they have lost within it -/
def SupOk (es : List E2) (n : Nat) (o : List Nat) (F : Nat → Int) : Prop := ∀ x, restB es.length o x = true → F x = (trS es n (restB es.length o) x : Int)
end Go.Proofs.YtbkacbbhiecnkaaDoor
