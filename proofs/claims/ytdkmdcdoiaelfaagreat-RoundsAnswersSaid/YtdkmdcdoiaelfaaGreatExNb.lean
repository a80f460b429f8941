/- The contract of the program's lists of neighbours of a run. -/
import Derived.Test.YtdkmdcdoiaelfaaGreatGridX
import Derived.Test.YtdkmdcdoiaelfaaGreatIClone
import Derived.Test.YtdkmdcdoiaelfaaGreatRunGr
import Derived.Deep.RegionLaw
import Derived.Deep.CutRange
namespace Go.Proofs.YtdkmdcdoiaelfaaGreat
open Go.RowKit Go.BigFrame

section
variable {P : Program} {w : World} {t e : TypeId}
end
end Go.Proofs.YtdkmdcdoiaelfaaGreat
