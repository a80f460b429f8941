/- Plain: the core numbers of the peeling are the list that is kept. -/
import Derived.Test.YtkknknehchnccaaDoorCoreP
import Derived.Test.YtkknknehchnccaaDoorRepQ
import Derived.Test.YtkknknehchnccaaDoorRepB
namespace Go.Proofs.YtkknknehchnccaaDoor
open Go.RowKit Go.BigFrame

theorem coreL_cor {n : Nat} {es : List E2} (hv : Valid n es) : CoreL es n (corT es n) := by
  refine ⟨fun v => (corF es n v).toNat, fun v hv2 k => ?_, ?_⟩
  · have h := cor_core hv v k hv2
    obtain ⟨c, hc⟩ := cor_nat es n v hv2
    rw [hc] at h
    show InCore (dgS es n) n k v ↔ k ≤ (corF es n v).toNat
    rw [h, hc]; omega
  · unfold corT fnL
    refine List.map_congr_left fun v hv2 => ?_
    obtain ⟨c, hc⟩ := cor_nat es n v (List.mem_range.1 hv2)
    show corF es n v = ((corF es n v).toNat : Int)
    rw [hc]; omega
/-- The numbers that are kept are those of the peeling. -/
theorem coreL_is {n : Nat} {es : List E2} (hv : Valid n es) {l : List Int} (h : CoreL es n l) : l = corT es n := coreL_one h (coreL_cor hv)
end Go.Proofs.YtkknknehchnccaaDoor
