/- The contracts of slices.Clone, Insert, Delete at a slice of 7 cells an element. -/
import Derived.Test.YtpblaoeaeljmhaaDoorEv
import Derived.Deep.RegionLaw
import Derived.Deep.RegionWith
namespace Go.Proofs.YtpblaoeaeljmhaaDoor
open Go.RowKit Go.BigFrame

theorem evRT : SliceT Tryd.prog 27 41 (.agg #[.int .i64 0, .int .i64 0, .int .i64 0, .int .i64 0, .int .i64 0, .int .i64 0, .int .i64 0]) encEv.k 56 := ⟨Tryd.underlying27, by kernel_rfl, rfl, by decide⟩
theorem ev_nil (x : Addr) (n c : Nat) (w : World) : (binOp .eql 27 (.slice (some x) n c) (.slice none 0 0)).run Tryd.prog w = .ok (.bool false) w := by
  have h : ∀ d : Nat, (Op.equalIn (d + 1) 27 (.slice (some x) n c) (.slice none 0 0)).run Tryd.prog w = .ok false w := fun d => by
    simp [Op.equalIn, run_underlying Tryd.underlying27]
  simp only [binOp]
  simp [Op.equal, Op.maxDepth, h 9999]
end Go.Proofs.YtpblaoeaeljmhaaDoor
