/- The contracts of slices.Clone, Insert, Delete at a slice of 7 cells an element. -/
import Derived.Test.YtpblaoeaeljmhaaEv
import Derived.Deep.RegionLaw
import Derived.Deep.RegionWith
namespace Go.Proofs.Ytpblaoeaeljmhaa
open Go.RowKit Go.BigFrame

theorem evRT : SliceT Try.prog 26 52 (.agg #[.int .i64 0, .int .i64 0, .int .i64 0, .int .i64 0, .int .i64 0, .int .i64 0, .int .i64 0]) encEv.k 56 := ⟨Try.underlying26, by kernel_rfl, rfl, by decide⟩
theorem ev_nil (x : Addr) (n c : Nat) (w : World) : (binOp .eql 26 (.slice (some x) n c) (.slice none 0 0)).run Try.prog w = .ok (.bool false) w := by
  have h : ∀ d : Nat, (Op.equalIn (d + 1) 26 (.slice (some x) n c) (.slice none 0 0)).run Try.prog w = .ok false w := fun d => by
    simp [Op.equalIn, run_underlying Try.underlying26]
  simp only [binOp]
  simp [Op.equal, Op.maxDepth, h 9999]
end Go.Proofs.Ytpblaoeaeljmhaa
