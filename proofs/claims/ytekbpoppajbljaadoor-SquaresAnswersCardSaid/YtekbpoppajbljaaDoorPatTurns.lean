/- The walk of the law on the graph of what is missing. -/
import Derived.Test.YtekbpoppajbljaaDoorPatTurnsPlain
import Derived.Test.YtekbpoppajbljaaDoorPatAwake
import Derived.Test.YtekbpoppajbljaaDoorMkGraph
namespace Go.Proofs.YtekbpoppajbljaaDoor
open Go.RowKit Go.BigFrame

/-- a graph with more edges to come: its block g, its edges' slice sl -/
def RS (n : Int) (es : List E2) (g base : Nat) (sl : Value) (wr : World) : Prop :=
  wr.heap[g]? = some (.cells #[.int .i64 n, sl] 27 (0, 0)) ∧ wr.ownsRow base 42 2 sl es.length (flatE es)
theorem RS.below {n : Int} {es : List E2} {g base : Nat} {sl : Value} {w w' : World} (h : RS n es g base sl w) (hb : Below w.heap.size w w') : RS n es g base sl w' :=
  ⟨(hb.block g (blk_lt h.1)).trans h.1, h.2.kept (grown_of_below hb) (by cases hv : sl.ownBlock <;> simp)⟩

theorem turn_list : ∀ k : Nat, k < 11 → ∃ tk : Nat, ([10, 9, 7, 8, 5, 4, 6, 2, 3, 1, 0] : List Int)[k]? = some (tk : Int) ∧ tk < 11 ∧ (turnK (k : Int)).toNat = tk := by
  intro k hk
  rcases (by omega : k = 0 ∨ k = 1 ∨ k = 2 ∨ k = 3 ∨ k = 4 ∨ k = 5 ∨ k = 6 ∨ k = 7 ∨ k = 8 ∨ k = 9 ∨ k = 10) with rfl | rfl | rfl | rfl | rfl | rfl | rfl | rfl | rfl | rfl | rfl
  · exact ⟨10, rfl, by omega, rfl⟩
  · exact ⟨9, rfl, by omega, rfl⟩
  · exact ⟨7, rfl, by omega, rfl⟩
  · exact ⟨8, rfl, by omega, rfl⟩
  · exact ⟨5, rfl, by omega, rfl⟩
  · exact ⟨4, rfl, by omega, rfl⟩
  · exact ⟨6, rfl, by omega, rfl⟩
  · exact ⟨2, rfl, by omega, rfl⟩
  · exact ⟨3, rfl, by omega, rfl⟩
  · exact ⟨1, rfl, by omega, rfl⟩
  · exact ⟨0, rfl, by omega, rfl⟩

end Go.Proofs.YtekbpoppajbljaaDoor
