/- The contract of the number of nodes of a set, and of a node's degree. -/
import Derived.Test.YtdiackininlmeaaDoorGraphRow
namespace Go.Proofs.YtdiackininlmeaaDoor
open Go.RowKit Go.BigFrame

def oc1 (x : Int) : Int := IntKind.u64.wrap (bits BinOp.and IntKind.u64 (x / 2) 6148914691236517205 + bits BinOp.and IntKind.u64 x 6148914691236517205)
def oc2 (x : Int) : Int := IntKind.u64.wrap (bits BinOp.and IntKind.u64 (x / 4) 3689348814741910323 + bits BinOp.and IntKind.u64 x 3689348814741910323)
def oc3 (x : Int) : Int := bits BinOp.and IntKind.u64 (IntKind.u64.wrap (x / 16 + x)) 1085102592571150095
def oc4 (x : Int) : Int := IntKind.u64.wrap (x + x / 256)
def oc5 (x : Int) : Int := IntKind.u64.wrap (x + x / 65536)
def oc6 (x : Int) : Int := IntKind.u64.wrap (x + x / 4294967296)
def oc7 (x : Int) : Int := bits BinOp.and IntKind.i64 (wrap64 x) 127
/-- the program's number of bits -/
def oc64 (x : Int) : Int := oc7 (oc6 (oc5 (oc4 (oc3 (oc2 (oc1 x))))))
set_option maxHeartbeats 1000000 in
theorem ones_any (x : Int) (w : World) :
    Calls Tryd.prog 93 #[.int .u64 x] w fun e w' => e = .returned (.int .i64 (oc64 x)) ∧ w = w' := by
  obtain ⟨y1, h1⟩ : ∃ y, oc1 x = y := ⟨_, rfl⟩
  obtain ⟨y2, h2⟩ : ∃ y, oc2 y1 = y := ⟨_, rfl⟩
  obtain ⟨y3, h3⟩ : ∃ y, oc3 y2 = y := ⟨_, rfl⟩
  obtain ⟨y4, h4⟩ : ∃ y, oc4 y3 = y := ⟨_, rfl⟩
  obtain ⟨y5, h5⟩ : ∃ y, oc5 y4 = y := ⟨_, rfl⟩
  obtain ⟨y6, h6⟩ : ∃ y, oc6 y5 = y := ⟨_, rfl⟩
  obtain ⟨y7, h7⟩ : ∃ y, oc7 y6 = y := ⟨_, rfl⟩
  have HE : Hid (oc64 x = y7) := by show _ = _; unfold oc64; rw [h1, h2, h3, h4, h5, h6, h7]
  unfold oc1 at h1
  unfold oc2 at h2
  unfold oc3 at h3
  unfold oc4 at h4
  unfold oc5 at h5
  unfold oc6 at h6
  unfold oc7 at h7
  go_enter Tryd.func93, Tryd.ntmps93
  go_wp2
  go_ret
  exact ⟨ret_int HE.out.symm, rfl⟩
set_option maxHeartbeats 800000 in
theorem gdegree_any (n v : Nat) (a : Option Addr) (cap : Nat) (es : List E2) (w : World) (he : EdgesAt w (.slice a es.length cap) es) (hv : Valid n es) (hvn : v < n) :
    Calls Tryd.prog 80 #[.agg #[.int .i64 n, .slice a es.length cap], .int .i64 v] w fun e w' => e = .returned (.int .i64 (oc64 (rowN es v))) ∧ Below w.heap.size w w' := by
  have hbd0 : Below w.heap.size w (w.alloc (.cells #[.int .i64 n, .slice a es.length cap] 27)) := (Below.refl _ _).alloc (Nat.le_refl _) _
  go_enter Tryd.func80, Tryd.ntmps80
  go_wp2_with fail
  refine (row_any n v a cap es _ (he.below hbd0) hv hvn).mono ?_
  rintro e w1 ⟨rfl, hb1⟩
  have hbw := hbd0.trans (hb1.mono hbd0.size)
  go_wp2_with (first
    | (go_at_call 93; refine (ones_any _ _).mono ?_; rintro e w2 ⟨rfl, rfl⟩)
    | go_in)
  go_ret
  exact ⟨rfl, hbw⟩
end Go.Proofs.YtdiackininlmeaaDoor
