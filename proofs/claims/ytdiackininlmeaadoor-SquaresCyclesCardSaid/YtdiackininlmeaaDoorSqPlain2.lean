/- Plain: the squares in a form that the kernel reckons fast. -/
import Derived.Test.YtdiackininlmeaaDoorSqPlain
import Derived.Test.YtdiackininlmeaaDoorPatAwake
namespace Go.Proofs.YtdiackininlmeaaDoor
open Go.RowKit Go.BigFrame

def sqF (es : List E2) (n : Nat) : Int := sumN (fun v => sumN (fun u => pairI (sumN (fun x => if v ≠ u ∧ adjB es x v = true ∧ adjB es x u = true then 1 else 0) n)) n) n
theorem sqT_eq {n : Nat} {es : List E2} (hv : Valid n es) : sqT es n n = sqF es n := by
  have hn := hv.2.1
  unfold sqT sqF sqN
  refine sumN_congr _ _ n fun v hvn => sumN_congr _ _ n fun u hun => ?_
  rw [cnt_shared hv v u (by omega) (by omega)]
set_option maxRecDepth 100000 in
theorem k4_sq : sqF k4 4 = 12 := by decide +kernel
set_option maxRecDepth 100000 in
theorem k4_wed : wedS k4 4 = 12 := by decide +kernel
end Go.Proofs.YtdiackininlmeaaDoor
