/- Plain: the records of a graph, in order, and what the checks of runs say. The contracts of the program's checks of runs: compare, block, record, Check, and the search for a record. Printed by wip/mkrunchk.py. The contract of the program's graph of a run. -/
import Derived.Test.YtdkmdcdoiaelfaaGreatAdj
import Derived.Test.YtdkmdcdoiaelfaaGreatGraphCheck
import Derived.Test.YtdkmdcdoiaelfaaGreatGrFind
import Derived.Test.YtdkmdcdoiaelfaaGreatNumFn
import Derived.Deep.RegionHeld3
import Derived.Deep.DeepCutAuto
import Derived.BigQuiet
import Derived.Lib.Hide
import Derived.Test.YtdkmdcdoiaelfaaGreatMk
namespace Go.Proofs.YtdkmdcdoiaelfaaGreat

end Go.Proofs.YtdkmdcdoiaelfaaGreat

namespace Go.Proofs.YtdkmdcdoiaelfaaGreat
open Go.RowKit Go.BigFrame

theorem box_pair (w : World) (x y : Int) (T : TypeId) : (w.alloc (.cells #[.int .i64 x, .int .i64 y] T)).heap[w.heap.size]? = some (.cells #[.int .i64 x, .int .i64 y] T (0, 0)) ∧ Below w.heap.size w (w.alloc (.cells #[.int .i64 x, .int .i64 y] T)) := ⟨heap_alloc_new _ _, (Below.refl _ _).alloc (Nat.le_refl _) _⟩
end Go.Proofs.YtdkmdcdoiaelfaaGreat

namespace Go.Proofs.YtdkmdcdoiaelfaaGreat
open Go.RowKit Go.BigFrame

section
variable {w wr w' : World} {size m : Int} {sl : Value}
end
theorem cells2R {w : World} {g T : Nat} {x y : Value} (h : w.heap[g]? = some (.cells #[x, y] T (0, 0))) : w.cell? ⟨g, 0, none⟩ = some x ∧ w.cell? ⟨g, 1, none⟩ = some y := ⟨cell_blk h, cell_blk h⟩
end Go.Proofs.YtdkmdcdoiaelfaaGreat
