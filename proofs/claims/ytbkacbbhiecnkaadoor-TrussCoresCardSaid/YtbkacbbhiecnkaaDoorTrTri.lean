/- The contract of the program's triangles: for each edge the pairs of the other two. -/
import Derived.Test.YtbkacbbhiecnkaaDoorTrCommon
import Derived.Test.YtbkacbbhiecnkaaDoorAppAt
import Derived.Maps.Own
import Derived.Maps.OwnOps
import Derived.Maps.OwnSet
import Derived.DeepKeys4
import Derived.ChangeKeysEq
namespace Go.Proofs.YtbkacbbhiecnkaaDoor
open Go.RowKit Go.BigFrame Go.Maps

/-- the keys: edges -/
def litE (e : E2) : Lit := .string (keyBytes [.int .i64 e.1, .int .i64 e.2])
def wfE (e : E2) : Prop := (Lit.int .i64 e.1).wf = true ∧ (Lit.int .i64 e.2).wf = true
theorem keysE (e : E2) (h : wfE e) : ∀ d, Tryd.prog.keyLits (d + 2) 42 [.int .i64 e.1, .int .i64 e.2] = some [.int .i64 e.1, .int .i64 e.2] := by
  intro d
  have hC : Tryd.prog.cellsOf 42 = 2 := by kernel_rfl
  have hC3 : Tryd.prog.cellsOf 3 = 1 := by kernel_rfl
  have h3 : ∀ x : Int, (Lit.int .i64 x).wf = true → Tryd.prog.keyLits (d + 1) 3 [.int .i64 x] = some [.int .i64 x] := fun x hx => by
    simp [Program.keyLits, Tryd.underlying3, hx]
  rw [show d + 2 = (d + 1) + 1 from rfl]
  unfold Program.keyLits
  simp only [Tryd.underlying42]
  rw [if_pos ⟨by rw [hC]; rfl, by kernel_rfl⟩]
  simp [hC3, h3 _ h.1, h3 _ h.2]
theorem keyE (e : E2) (h : wfE e) : keyOf Tryd.prog 42 (.agg #[.int .i64 e.1, .int .i64 e.2]) = some (litE e) := by
  have hC : Tryd.prog.cellsOf 42 = 2 := by kernel_rfl
  have hk : Tryd.prog.keyType 42 = true := by kernel_rfl
  have hs : ∃ d, Tryd.prog.types.size + 1 = d + 2 := ⟨Tryd.prog.types.size - 1, by have : 0 < Tryd.prog.types.size := of_decide_eq_true (by kernel_rfl); omega⟩
  obtain ⟨d, hd⟩ := hs
  unfold keyOf
  simp only [Tryd.underlying42]
  have hf : (Value.agg #[.int .i64 e.1, .int .i64 e.2]).formed Tryd.prog 42 = true := by simp [Value.formed, Tryd.underlying42, hC]
  rw [hk, hf, hd]
  have := keysE e h d
  simp only [Value.cells, Bool.and_self, if_true]
  rw [this]
  rfl
theorem litE_inj {e f : E2} (he : wfE e) (hf : wfE f) (h : litE e = litE f) : e = f := by
  have h1 := keysE e he 0
  have h2 := keysE f hf 0
  unfold litE at h
  have := keyLits_inj h1 h2 (Lit.string.inj h)
  simp at this
  exact Prod.ext this.1 this.2
theorem lawE : Keyed Tryd.prog 42 :=
  Keyed.of_law (deep_law_laid (show laidOutB Tryd.prog = true by kernel_rfl) (m := 2) (by omega) (of_decide_eq_true (by kernel_rfl)) (by kernel_rfl) (by rw [Tryd.underlying42]))
theorem zeroI (w : World) : (zeroValue 3).run Tryd.prog w = .ok (.int .i64 0) w := by kernel_rfl
/-- the map of the first k edges -/
def mapD (es : List E2) : Nat → DataW Unit
  | 0 => .map []
  | k + 1 => match es[k]? with
    | some e => (mapD es k).put (litE e) (.lit (.int .i64 k))
    | none => mapD es k
theorem mapD_step (es : List E2) (k : Nat) (e : E2) (h : es[k]? = some e) : mapD es (k + 1) = (mapD es k).put (litE e) (.lit (.int .i64 k)) := by
  rw [mapD, h]
theorem mapD_is (es : List E2) : ∀ k, IsMap (mapD es k) := by
  intro k
  induction k with
  | zero => exact isMap_empty
  | succ k ih =>
    unfold mapD
    split
    · exact ih.put _ _
    · exact ih
theorem mapD_at (es : List E2) (hw : ∀ e ∈ es, wfE e) (hn : es.Nodup) : ∀ k, k ≤ es.length → ∀ j e, j < k → es[j]? = some e → (mapD es k).atKey (litE e) (.lit (.int .i64 0)) = .lit (.int .i64 j) := by
  intro k
  induction k with
  | zero => intro _ j e hj; omega
  | succ k ih =>
    intro hk j e hj he
    have hx : es[k]? = some es[k] := List.getElem?_eq_getElem (by omega)
    rw [mapD_step es k _ hx]
    by_cases h : j = k
    · subst h
      rw [hx] at he
      cases he
      have hk : WideAt.IsKeyLit (litE es[j]) := trivial
      exact atKey_put_same (mapD_is es j) hk _ _
    · have hne : litE e ≠ litE es[k] := fun hl => by
        have h1 := litE_inj (hw e (List.mem_of_getElem? he)) (hw _ (List.getElem_mem _)) hl
        obtain ⟨hj2, he2⟩ := List.getElem?_eq_some_iff.1 he
        have := (List.getElem_inj hn).1 (he2.trans h1)
        omega
      rw [atKey_put_other hne]
      exact ih (by omega) j e (by omega) he
theorem wfE_of {n : Nat} {es : List E2} (hv : Valid n es) : ∀ e ∈ es, wfE e := fun e he => by
  have h := hv.2.2.1 e he
  have h2 := hv.2.1
  unfold Ins at h
  constructor <;> simp only [Lit.wf, Bool.and_eq_true, decide_eq_true_eq]
  · show (-9223372036854775808 : Int) ≤ e.1 ∧ e.1 ≤ 9223372036854775807
    omega
  · show (-9223372036854775808 : Int) ≤ e.2 ∧ e.2 ≤ 9223372036854775807
    omega
def encQ : Enc (Nat × Nat) := ⟨2, fun p => [.int .i64 p.1, .int .i64 p.2], fun _ => rfl, fun e u hu => by simp at hu; rcases hu with h | h <;> subst h <;> rfl, by decide⟩
theorem pqRT : SliceT Tryd.prog 78 77 (.agg #[.int .i64 0, .int .i64 0]) encQ.k 16 := ⟨Tryd.underlying78, by kernel_rfl, rfl, by decide⟩
/-- the rows of pairs, their slices in block G -/
structure TrisAt (w : World) (G : Nat) (T : Nat → List (Nat × Nat)) (m : Nat) : Prop where
  row : ∀ j, j < m → ∃ a c, w.cell? ⟨G, j, none⟩ = some (.slice a (T j).length c) ∧ RowAt encQ w (.slice a (T j).length c) (T j)
theorem TrisAt.below {w w' : World} {G : Nat} {T : Nat → List (Nat × Nat)} {m : Nat} (h : TrisAt w G T m) (hb : Below w.heap.size w w') : TrisAt w' G T m :=
  ⟨fun j hj => by
    obtain ⟨a, c, h1, h2⟩ := h.row j hj
    exact ⟨a, c, (hb.cell (p := ⟨G, j, none⟩) (cell_lt h1)).trans h1, h2.below hb⟩⟩
end Go.Proofs.YtbkacbbhiecnkaaDoor
