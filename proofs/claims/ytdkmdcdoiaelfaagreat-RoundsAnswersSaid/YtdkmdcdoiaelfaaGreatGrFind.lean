/- The contracts of the program's search for an edge. -/
import Derived.Test.YtdkmdcdoiaelfaaGreatGraphCheck
import Derived.Test.YtdkmdcdoiaelfaaGreatBase
import Derived.BigQuiet
import Derived.Lib.Hide
namespace Go.Proofs.YtdkmdcdoiaelfaaGreat
open Go.RowKit Go.BigFrame

theorem lit_next' {w w' : World} {g : Nat} {o : Obj} (hb : Below w.heap.size w w') (h : w.heap[g]? = some o) : w'.heap[g]? = some o := (hb.block g (blk_lt h)).trans h
end Go.Proofs.YtdkmdcdoiaelfaaGreat
