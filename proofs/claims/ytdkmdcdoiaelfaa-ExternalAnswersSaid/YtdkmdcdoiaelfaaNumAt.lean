/- Numbers in a block. -/
import Derived.Test.YtdkmdcdoiaelfaaApp
namespace Go.Proofs.Ytdkmdcdoiaelfaa
open Go.RowKit Go.BigFrame

/-- numbers in block g -/
def NumAt (w : World) (g : Nat) (l : List Int) : Prop := w.heap[g]? = some (.cells (intsV l).toArray 3 (0, 0))
theorem NumAt.cell {w : World} {g : Nat} {l : List Int} (h : NumAt w g l) (k : Nat) (x : Int) (hk : l[k]? = some x) : w.cell? ⟨g, k, none⟩ = some (.int .i64 x) := by
  rw [cell_blk h]; simp [intsV, hk]
theorem NumAt.set {w : World} {g : Nat} {l : List Int} (h : NumAt w g l) (k : Nat) (x : Int) : NumAt (w.setCell ⟨g, k, none⟩ (.int .i64 x)) g (l.set k x) := by
  unfold NumAt; rw [heap_setCell_same _ _ _ _ _ _ h]; simp [intsV, List.map_set]
theorem NumAt.ints {w : World} {g : Nat} {l : List Int} (h : NumAt w g l) (hl : l.length ≤ 1000000) : IntsAt w (.slice (some ⟨g, 0, none⟩) l.length l.length) l := by
  refine ⟨_, l.length, rfl, Nat.le_refl _, (fun e => by cases e), by omega, fun i x hi => ⟨g, 0, rfl, ?_⟩⟩
  rw [Nat.zero_add]; exact h.cell i x hi
theorem make_ints (n : Nat) (hn : n ≤ 1000000) : ∀ w, (Instr.makeSlice 22 (.int .i64 (n : Int)) (.int .i64 (n : Int))).run Try.prog w = .ok (.slice (some ⟨w.heap.size, 0, none⟩) n n) (w.alloc (.cells (intsV (List.replicate n 0)).toArray 3)) := by
  intro w
  obtain ⟨i, hi, hz, hs, hb⟩ := info_parts intsT.info
  have h := run_make (P := Try.prog) w 22 3 i (.int .i64 0) Try.underlying22 hi hz .i64 .i64 (n : Int) (n : Int) (by omega) (Int.le_refl _) (by rw [hb]; omega) (by omega)
  rw [h, hs]
  simp only [Int.toNat_natCast, Nat.mul_one, Value.cells]
  have hm : madeCells #[Value.int .i64 0] n = (intsV (List.replicate n 0)).toArray := by
    apply Array.ext_getElem?
    intro j
    simp only [madeCells, intsV]
    by_cases hj : j < n
    · simp [hj, Nat.mod_one]
    · simp [hj]
  rw [hm]
theorem owns_base {w : World} {b b' T size n : Nat} {v : Value} {xs : List Value} (h : w.ownsRow b T size v n xs) (hb : b' ≤ b) : w.ownsRow b' T size v n xs := by
  obtain ⟨h1, h2 | ⟨g, cap, cur, hv, hg, h3⟩⟩ := h
  · exact ⟨h1, .inl h2⟩
  · exact ⟨h1, .inr ⟨g, cap, cur, hv, Nat.le_trans hb hg, h3⟩⟩
end Go.Proofs.Ytdkmdcdoiaelfaa
