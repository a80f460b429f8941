/- The contracts of the reference's ranges, cores and core numbers. -/
import Derived.Test.YtdkmdcdoiaelfaaGreatCoreP
import Derived.Test.YtdkmdcdoiaelfaaGreatGrFind
namespace Go.Proofs.YtdkmdcdoiaelfaaGreat
open Go.RowKit Go.BigFrame

end Go.Proofs.YtdkmdcdoiaelfaaGreat
