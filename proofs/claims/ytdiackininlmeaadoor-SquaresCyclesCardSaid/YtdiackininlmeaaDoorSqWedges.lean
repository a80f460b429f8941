/- The contracts of the program's wedges. -/
import Derived.Test.YtdiackininlmeaaDoorOnes
import Derived.Test.YtdiackininlmeaaDoorPatSolvesPlain
namespace Go.Proofs.YtdiackininlmeaaDoor
open Go.RowKit Go.BigFrame

theorem oc7_bd (x : Int) : 0 ≤ oc7 x ∧ oc7 x ≤ 127 := by
  unfold oc7
  generalize wrap64 x = a
  have e : bits BinOp.and IntKind.i64 a 127 = IntKind.i64.wrap ((BitVec.ofInt 64 a &&& BitVec.ofInt 64 127).toNat : Int) := rfl
  have h : (BitVec.ofInt 64 a &&& BitVec.ofInt 64 127).toNat ≤ 127 := by
    rw [BitVec.toNat_and]
    exact Nat.le_trans Nat.and_le_right (by decide)
  rw [e]
  generalize (BitVec.ofInt 64 a &&& BitVec.ofInt 64 127).toNat = y at *
  rw [IntKind.wrap_i64]
  omega
theorem oc64_bd (x : Int) : 0 ≤ oc64 x ∧ oc64 x ≤ 127 := oc7_bd _
def pairI (x : Int) : Int := x * (x - 1) / 2
theorem prod_bd (x : Int) (h0 : 0 ≤ x) (h1 : x ≤ 262144) : 0 ≤ x * (x - 1) ∧ x * (x - 1) ≤ 68719476736 := by
  by_cases hx : x = 0
  · subst hx; simp
  · have a := mul_bd (x := x) (y := x - 1) (a := 262144) (b := 262144) (by omega) (by omega)
    omega
theorem pairI_bd (x : Int) (h0 : 0 ≤ x) (h1 : x ≤ 262144) : 0 ≤ pairI x ∧ pairI x ≤ 34359738368 := by
  have h := prod_bd x h0 h1
  unfold pairI
  generalize x * (x - 1) = y at *
  omega
theorem pairs_any (x : Int) (w : World) (h0 : 0 ≤ x) (h1 : x ≤ 262144) : Calls Tryd.prog 79 #[.int .i64 x] w fun e w' => e = .returned (.int .i64 (pairI x)) ∧ w = w' := by
  have h := prod_bd x h0 h1
  have w1 : IntKind.i64.wrap (x - 1) = x - 1 := IntWalk.i64_in _ (by omega)
  have w2 : IntKind.i64.wrap (x * (x - 1)) = x * (x - 1) := IntWalk.i64_in _ (by omega)
  go_enter Tryd.func79, Tryd.ntmps79
  go_wp2
  go_ret
  exact ⟨rfl, rfl⟩
/-- the wedges of the nodes before v -/
def wedS (es : List E2) (v : Nat) : Int := sumN (fun u => pairI (oc64 (rowN es u))) v
theorem wedS_bd (es : List E2) (v : Nat) : 0 ≤ wedS es v ∧ wedS es v ≤ v * 34359738368 :=
  sumN_bd _ 34359738368 v (fun u _ => pairI_bd _ (oc64_bd _).1 (by have := (oc64_bd (rowN es u : Int)).2; omega))
set_option maxRecDepth 100000 in
set_option maxHeartbeats 800000 in
theorem wedges_any (n : Nat) (a : Option Addr) (cap : Nat) (es : List E2) (w : World) (he : EdgesAt w (.slice a es.length cap) es) (hv : Valid n es) :
    Calls Tryd.prog 57 #[.agg #[.int .i64 n, .slice a es.length cap]] w fun e w' => e = .returned (.int .i64 (wedS es n)) ∧ Below w.heap.size w w' := by
  have hn := hv.2.1
  have hbd0 : Below w.heap.size w (w.alloc (.cells #[.int .i64 n, .slice a es.length cap] 27)) := (Below.refl _ _).alloc (Nat.le_refl _) _
  have hG0 : (w.alloc (.cells #[.int .i64 n, .slice a es.length cap] 27)).heap[w.heap.size]? = some (.cells #[.int .i64 n, .slice a es.length cap] 27 (0, 0)) := heap_alloc_new _ _
  have hbx : Below (w.heap.size + 1) (w.alloc (.cells #[.int .i64 n, .slice a es.length cap] 27)) (w.alloc (.cells #[.int .i64 n, .slice a es.length cap] 27)) := Below.refl _ _
  go_enter Tryd.func57, Tryd.ntmps57
  go_wp2_with fail
  go_loopw [3, 7] (fun s i wr => ∃ v : Nat, v ≤ n ∧ s = .int .i64 (wedS es v) ∧ i = .int .i64 v ∧ Below w.heap.size w wr ∧ wr.heap[w.heap.size]? = some (.cells #[.int .i64 n, .slice a es.length cap] 27 (0, 0))) (fun _ i _ => n - (intOf i).toNat)
  case atStart => exact ⟨0, Nat.zero_le _, rfl, rfl, hbd0, hG0⟩
  case round =>
    clear hbd0 hG0 hbx
    obtain ⟨v, hk, rfl, rfl, hb, hG⟩ := hrel
    by_cases hlt : v < n
    · have q0 : wr.cell? ⟨w.heap.size, 0, none⟩ = some (.int .i64 n) := cell_blk hG
      have q1 : wr.cell? ⟨w.heap.size, 1, none⟩ = some (.slice a es.length cap) := cell_blk hG
      have o := oc64_bd (rowN es v : Int)
      have b1 := wedS_bd es v
      have HS : Hid (wedS es (v + 1) = wedS es v + pairI (oc64 (rowN es v : Int))) := rfl
      go_wp2_with fail
      refine (gdegree_any n v a cap es _ (he.below hb) hv hlt).mono ?_
      rintro e w2 ⟨rfl, hb2⟩
      have hb3 := hb.trans (hb2.mono hb.size)
      have hG3 := (hb2.block _ (blk_lt hG)).trans hG
      clear q0 q1 hb hG hb2
      generalize oc64 (rowN es v : Int) = x at *
      have pb := pairI_bd x o.1 (by omega)
      generalize wedS es v = s at *
      have hw : IntKind.i64.wrap (s + pairI x) = s + pairI x := IntWalk.i64_in _ (by omega)
      go_wp2_with fail
      refine (pairs_any x _ o.1 (by omega)).mono ?_
      rintro e w3 ⟨rfl, rfl⟩
      go_wp2_with fail
      go_roundw
      case rel => exact ⟨v + 1, by omega, by rw [HS.out], by go_num, hb3, hG3⟩
      case measure => simp [intOf]; omega
    · obtain rfl : v = n := by omega
      go_wp2_with fail
      go_ret
      exact ⟨rfl, hb⟩
set_option maxRecDepth 100000 in
set_option maxHeartbeats 800000 in
theorem swedges_any (n : Nat) (a : Option Addr) (cap : Nat) (es : List E2) (w : World) (he : EdgesAt w (.slice a es.length cap) es) (hv : Valid n es) :
    Calls Tryd.prog 27 #[.agg #[.int .i64 n, .slice a es.length cap]] w fun e w' => e = .returned (.tuple #[.int .i64 (wedS es n), .int .i64 0]) ∧ Below w.heap.size w w' := by
  go_enter Tryd.func27, Tryd.ntmps27
  go_wp2_with fail
  refine (gcheck_any n a cap es _ (he.below ((Below.refl _ _).alloc (Nat.le_refl _) _))).mono ?_
  rintro e w1 ⟨rfl, hb1⟩
  rw [(valid_iff n es).2 hv]
  have b0 : w1.cell? ⟨w.heap.size, 0, none⟩ = some (.int .i64 n) := (hb1.cell (p := ⟨w.heap.size, 0, none⟩) (by simp)).trans (cell_blk (heap_alloc_new _ _))
  have b1 : w1.cell? ⟨w.heap.size, 1, none⟩ = some (.slice a es.length cap) := (hb1.cell (p := ⟨w.heap.size, 1, none⟩) (by simp)).trans (cell_blk (heap_alloc_new _ _))
  have hbw : Below w.heap.size w w1 := ((Below.refl _ _).alloc (Nat.le_refl _) _).trans (hb1.mono (by simp))
  clear hb1
  go_wp2_with fail
  refine (wedges_any n a cap es _ (he.below hbw) hv).mono ?_
  rintro e w2 ⟨rfl, hb2⟩
  go_wp2
  go_ret2
  exact ⟨rfl, hbw.trans (hb2.mono hbw.size)⟩
end Go.Proofs.YtdiackininlmeaaDoor
