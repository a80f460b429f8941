/- The contract of the reference's kind of a graph of four nodes. The contract of the reference's edges between four nodes, as bits. The contracts of the kinds of sets of four nodes, of any graph and any set. -/
import Derived.Test.YtbkacbbhiecnkaaDoorPatKind
import Derived.Test.YtbkacbbhiecnkaaDoorPatOf
import Derived.Test.YtbkacbbhiecnkaaDoorRef25Cnts
import Derived.Test.YtbkacbbhiecnkaaDoorGrFind
import Derived.Test.YtbkacbbhiecnkaaDoorPatKindOf
namespace Go.Proofs.YtbkacbbhiecnkaaDoor
open Go.RowKit Go.BigFrame

/-- how many of the first k bits are set -/
def numS (m : Nat) : Nat → Int
  | 0 => 0
  | k + 1 => numS m k + if bitS m k then 1 else 0
theorem numS_bd (m : Nat) : ∀ k, 0 ≤ numS m k ∧ numS m k ≤ k := by
  intro k
  induction k with
  | zero => simp [numS]
  | succ k ih => unfold numS; split <;> omega
def kindR (n least most : Int) : Int := if n = 0 then 0 else if n = 1 then 1 else if n = 2 then (if most = 2 then 2 else 3) else if n = 3 then (if most = 3 then 5 else if least = 0 then 4 else 6) else if n = 4 then (if most = 3 then 7 else 8) else n + 4
def leastS (m : Nat) : Int := min (min (min (degS m 6 0) (degS m 6 1)) (degS m 6 2)) (degS m 6 3)
def mostS (m : Nat) : Int := max (max (max (degS m 6 0) (degS m 6 1)) (degS m 6 2)) (degS m 6 3)
theorem kindR_eq : ∀ m : Nat, m < 64 → kindR (numS m 6) (leastS m) (mostS m) = kindS m := by decide +kernel
theorem run_min4 (P : Program) (ts : Array TypeId) (t : TypeId) (a b c d : Int) (w : World) : (Builtin.min_ ts t #[.int .i64 a, .int .i64 b, .int .i64 c, .int .i64 d]).run P w = .ok (.int .i64 (min (min (min a b) c) d)) w := by
  simp only [← ite_min]
  simp [Builtin.min_, Builtin.min2]
theorem run_max4 (P : Program) (ts : Array TypeId) (t : TypeId) (a b c d : Int) (w : World) : (Builtin.max_ ts t #[.int .i64 a, .int .i64 b, .int .i64 c, .int .i64 d]).run P w = .ok (.int .i64 (max (max (max a b) c) d)) w := by
  simp only [← ite_max]
  simp [Builtin.max_, Builtin.max2]
set_option maxRecDepth 100000 in
set_option maxHeartbeats 3200000 in
theorem rkind_any (m : Nat) (w : World) (hm : m < 64) :
    Calls Tryd.prog 97 #[.int .i64 m] w fun e w' => e = .returned (.int .i64 (kindS m)) ∧ Below w.heap.size w w' := by
  have hz0 : (w.alloc (.cells #[.int .i64 0, .int .i64 1, .int .i64 0, .int .i64 2, .int .i64 0, .int .i64 3, .int .i64 1, .int .i64 2, .int .i64 1, .int .i64 3, .int .i64 2, .int .i64 3] 125)).heap.size = w.heap.size + 1 := by simp
  have hb0 : Below w.heap.size w ((w.alloc (.cells #[.int .i64 0, .int .i64 1, .int .i64 0, .int .i64 2, .int .i64 0, .int .i64 3, .int .i64 1, .int .i64 2, .int .i64 1, .int .i64 3, .int .i64 2, .int .i64 3] 125)).alloc (.cells #[.int .i64 0, .int .i64 0, .int .i64 0, .int .i64 0] 87)) := ((Below.refl _ _).alloc (Nat.le_refl _) _).alloc (by simp) _
  have hE0 : ((w.alloc (.cells #[.int .i64 0, .int .i64 1, .int .i64 0, .int .i64 2, .int .i64 0, .int .i64 3, .int .i64 1, .int .i64 2, .int .i64 1, .int .i64 3, .int .i64 2, .int .i64 3] 125)).alloc (.cells #[.int .i64 0, .int .i64 0, .int .i64 0, .int .i64 0] 87)).heap[w.heap.size]? = some (.cells #[.int .i64 0, .int .i64 1, .int .i64 0, .int .i64 2, .int .i64 0, .int .i64 3, .int .i64 1, .int .i64 2, .int .i64 1, .int .i64 3, .int .i64 2, .int .i64 3] 125 (0, 0)) := (Below.heap_alloc _ _ _ (by simp)).trans (heap_alloc_new _ _)
  have hD0 : ((w.alloc (.cells #[.int .i64 0, .int .i64 1, .int .i64 0, .int .i64 2, .int .i64 0, .int .i64 3, .int .i64 1, .int .i64 2, .int .i64 1, .int .i64 3, .int .i64 2, .int .i64 3] 125)).alloc (.cells #[.int .i64 0, .int .i64 0, .int .i64 0, .int .i64 0] 87)).heap[w.heap.size + 1]? = some (.cells #[.int .i64 (degS m 0 0), .int .i64 (degS m 0 1), .int .i64 (degS m 0 2), .int .i64 (degS m 0 3)] 87 (0, 0)) := by
    have h := heap_alloc_new (w.alloc (.cells #[.int .i64 0, .int .i64 1, .int .i64 0, .int .i64 2, .int .i64 0, .int .i64 3, .int .i64 1, .int .i64 2, .int .i64 1, .int .i64 3, .int .i64 2, .int .i64 3] 125)) (.cells #[.int .i64 0, .int .i64 0, .int .i64 0, .int .i64 0] 87)
    rw [hz0] at h; exact h
  have hkk := kindR_eq m hm
  go_enter Tryd.func97, Tryd.ntmps97
  go_wp2_with fail
  go_loopw [6, 5] (fun i n wr => ∃ k : Nat, k ≤ 6 ∧ i = .int .i64 k ∧ n = .int .i64 (numS m k) ∧ Below w.heap.size w wr ∧ wr.heap[w.heap.size]? = some (.cells #[.int .i64 0, .int .i64 1, .int .i64 0, .int .i64 2, .int .i64 0, .int .i64 3, .int .i64 1, .int .i64 2, .int .i64 1, .int .i64 3, .int .i64 2, .int .i64 3] 125 (0, 0)) ∧ wr.heap[w.heap.size + 1]? = some (.cells #[.int .i64 (degS m k 0), .int .i64 (degS m k 1), .int .i64 (degS m k 2), .int .i64 (degS m k 3)] 87 (0, 0))) (fun i _ _ => 6 - (intOf i).toNat)
  case atStart => exact ⟨0, by omega, rfl, rfl, hb0, hE0, hD0⟩
  case round =>
    clear hb0 hE0 hD0 hz0
    obtain ⟨k, hk, rfl, rfl, hb, hE, hD⟩ := hrel
    have hzD := blk_lt hD
    have d0 := degS_bd m k 0
    have d1 := degS_bd m k 1
    have d2 := degS_bd m k 2
    have d3 := degS_bd m k 3
    have dn := numS_bd m k
    by_cases hlt : k < 6
    · rcases (by omega : k = 0 ∨ k = 1 ∨ k = 2 ∨ k = 3 ∨ k = 4 ∨ k = 5) with rfl | rfl | rfl | rfl | rfl | rfl
      · have ep : wr.cell? ⟨w.heap.size, 0, none⟩ = some (.int .i64 0) := by rw [cell_blk hE]; rfl
        have eq : wr.cell? ⟨w.heap.size, 1, none⟩ = some (.int .i64 1) := by rw [cell_blk hE]; rfl
        have cp : wr.cell? ⟨w.heap.size + 1, 0, none⟩ = some (.int .i64 (degS m 0 0)) := by rw [cell_blk hD]; rfl
        have cq : wr.cell? ⟨w.heap.size + 1, 1, none⟩ = some (.int .i64 (degS m 0 1)) := by rw [cell_blk hD]; rfl
        have fD : ∀ j, wr.frozen? ⟨w.heap.size + 1, j, none⟩ = false := fun j => free_blk hD
        have HD := Lib.hid hD
        have HE := Lib.hid hE
        clear hD hE
        by_cases hbit : bitS m 0 = true
        · have hb2 : (bits BinOp.and IntKind.i64 (m : Int) 1 == 1) = true := by simpa [bitS] using hbit
          have e0 : degS m 1 0 = degS m 0 0 + 1 := by simp [degS, hbit, endsL]
          have e1 : degS m 1 1 = degS m 0 1 + 1 := by simp [degS, hbit, endsL]
          have e2 : degS m 1 2 = degS m 0 2 := by simp [degS, hbit, endsL]
          have e3 : degS m 1 3 = degS m 0 3 := by simp [degS, hbit, endsL]
          have en : numS m 1 = numS m 0 + 1 := by simp [numS, hbit]
          have E0 := Lib.hid e0
          have E1 := Lib.hid e1
          have E2 := Lib.hid e2
          have E3 := Lib.hid e3
          have EN := Lib.hid en
          clear e0 e1 e2 e3 en hbit
          go_wp2_with fail
          go_roundw
          case rel =>
            refine ⟨1, by omega, rfl, by rw [EN.out], (hb.setCell (p := ⟨w.heap.size + 1, 0, none⟩) (Nat.le_succ _) _).setCell (p := ⟨w.heap.size + 1, 1, none⟩) (Nat.le_succ _) _, ?_, ?_⟩
            · exact (Below.heap_setCell _ _ _ _ (by show w.heap.size ≠ w.heap.size + 1; omega)).trans ((Below.heap_setCell _ _ _ _ (by show w.heap.size ≠ w.heap.size + 1; omega)).trans HE.out)
            · rw [E0.out, E1.out, E2.out, E3.out]
              exact heap_setCell_same _ _ 1 _ _ _ (heap_setCell_same wr _ 0 _ _ _ HD.out)
          case measure => simp [intOf]
        · have hb2 : (bits BinOp.and IntKind.i64 (m : Int) 1 == 1) = false := by simpa [bitS] using hbit
          have e0 : degS m 1 0 = degS m 0 0 := by simp [degS, hbit]
          have e1 : degS m 1 1 = degS m 0 1 := by simp [degS, hbit]
          have e2 : degS m 1 2 = degS m 0 2 := by simp [degS, hbit]
          have e3 : degS m 1 3 = degS m 0 3 := by simp [degS, hbit]
          have en : numS m 1 = numS m 0 := by simp [numS, hbit]
          have E0 := Lib.hid e0
          have E1 := Lib.hid e1
          have E2 := Lib.hid e2
          have E3 := Lib.hid e3
          have EN := Lib.hid en
          clear e0 e1 e2 e3 en hbit
          go_wp2_with fail
          go_roundw
          case rel =>
            refine ⟨1, by omega, rfl, by rw [EN.out], hb, HE.out, ?_⟩
            rw [E0.out, E1.out, E2.out, E3.out]
            exact HD.out
          case measure => simp [intOf]
      · have ep : wr.cell? ⟨w.heap.size, 2, none⟩ = some (.int .i64 0) := by rw [cell_blk hE]; rfl
        have eq : wr.cell? ⟨w.heap.size, 3, none⟩ = some (.int .i64 2) := by rw [cell_blk hE]; rfl
        have cp : wr.cell? ⟨w.heap.size + 1, 0, none⟩ = some (.int .i64 (degS m 1 0)) := by rw [cell_blk hD]; rfl
        have cq : wr.cell? ⟨w.heap.size + 1, 2, none⟩ = some (.int .i64 (degS m 1 2)) := by rw [cell_blk hD]; rfl
        have fD : ∀ j, wr.frozen? ⟨w.heap.size + 1, j, none⟩ = false := fun j => free_blk hD
        have HD := Lib.hid hD
        have HE := Lib.hid hE
        clear hD hE
        by_cases hbit : bitS m 1 = true
        · have hb2 : (bits BinOp.and IntKind.i64 ((m : Int) / 2) 1 == 1) = true := by simpa [bitS] using hbit
          have e0 : degS m 2 0 = degS m 1 0 + 1 := by simp [degS, hbit, endsL]
          have e1 : degS m 2 1 = degS m 1 1 := by simp [degS, hbit, endsL]
          have e2 : degS m 2 2 = degS m 1 2 + 1 := by simp [degS, hbit, endsL]
          have e3 : degS m 2 3 = degS m 1 3 := by simp [degS, hbit, endsL]
          have en : numS m 2 = numS m 1 + 1 := by simp [numS, hbit]
          have E0 := Lib.hid e0
          have E1 := Lib.hid e1
          have E2 := Lib.hid e2
          have E3 := Lib.hid e3
          have EN := Lib.hid en
          clear e0 e1 e2 e3 en hbit
          go_wp2_with fail
          go_roundw
          case rel =>
            refine ⟨2, by omega, rfl, by rw [EN.out], (hb.setCell (p := ⟨w.heap.size + 1, 0, none⟩) (Nat.le_succ _) _).setCell (p := ⟨w.heap.size + 1, 2, none⟩) (Nat.le_succ _) _, ?_, ?_⟩
            · exact (Below.heap_setCell _ _ _ _ (by show w.heap.size ≠ w.heap.size + 1; omega)).trans ((Below.heap_setCell _ _ _ _ (by show w.heap.size ≠ w.heap.size + 1; omega)).trans HE.out)
            · rw [E0.out, E1.out, E2.out, E3.out]
              exact heap_setCell_same _ _ 2 _ _ _ (heap_setCell_same wr _ 0 _ _ _ HD.out)
          case measure => simp [intOf]
        · have hb2 : (bits BinOp.and IntKind.i64 ((m : Int) / 2) 1 == 1) = false := by simpa [bitS] using hbit
          have e0 : degS m 2 0 = degS m 1 0 := by simp [degS, hbit]
          have e1 : degS m 2 1 = degS m 1 1 := by simp [degS, hbit]
          have e2 : degS m 2 2 = degS m 1 2 := by simp [degS, hbit]
          have e3 : degS m 2 3 = degS m 1 3 := by simp [degS, hbit]
          have en : numS m 2 = numS m 1 := by simp [numS, hbit]
          have E0 := Lib.hid e0
          have E1 := Lib.hid e1
          have E2 := Lib.hid e2
          have E3 := Lib.hid e3
          have EN := Lib.hid en
          clear e0 e1 e2 e3 en hbit
          go_wp2_with fail
          go_roundw
          case rel =>
            refine ⟨2, by omega, rfl, by rw [EN.out], hb, HE.out, ?_⟩
            rw [E0.out, E1.out, E2.out, E3.out]
            exact HD.out
          case measure => simp [intOf]
      · have ep : wr.cell? ⟨w.heap.size, 4, none⟩ = some (.int .i64 0) := by rw [cell_blk hE]; rfl
        have eq : wr.cell? ⟨w.heap.size, 5, none⟩ = some (.int .i64 3) := by rw [cell_blk hE]; rfl
        have cp : wr.cell? ⟨w.heap.size + 1, 0, none⟩ = some (.int .i64 (degS m 2 0)) := by rw [cell_blk hD]; rfl
        have cq : wr.cell? ⟨w.heap.size + 1, 3, none⟩ = some (.int .i64 (degS m 2 3)) := by rw [cell_blk hD]; rfl
        have fD : ∀ j, wr.frozen? ⟨w.heap.size + 1, j, none⟩ = false := fun j => free_blk hD
        have HD := Lib.hid hD
        have HE := Lib.hid hE
        clear hD hE
        by_cases hbit : bitS m 2 = true
        · have hb2 : (bits BinOp.and IntKind.i64 ((m : Int) / 4) 1 == 1) = true := by simpa [bitS] using hbit
          have e0 : degS m 3 0 = degS m 2 0 + 1 := by simp [degS, hbit, endsL]
          have e1 : degS m 3 1 = degS m 2 1 := by simp [degS, hbit, endsL]
          have e2 : degS m 3 2 = degS m 2 2 := by simp [degS, hbit, endsL]
          have e3 : degS m 3 3 = degS m 2 3 + 1 := by simp [degS, hbit, endsL]
          have en : numS m 3 = numS m 2 + 1 := by simp [numS, hbit]
          have E0 := Lib.hid e0
          have E1 := Lib.hid e1
          have E2 := Lib.hid e2
          have E3 := Lib.hid e3
          have EN := Lib.hid en
          clear e0 e1 e2 e3 en hbit
          go_wp2_with fail
          go_roundw
          case rel =>
            refine ⟨3, by omega, rfl, by rw [EN.out], (hb.setCell (p := ⟨w.heap.size + 1, 0, none⟩) (Nat.le_succ _) _).setCell (p := ⟨w.heap.size + 1, 3, none⟩) (Nat.le_succ _) _, ?_, ?_⟩
            · exact (Below.heap_setCell _ _ _ _ (by show w.heap.size ≠ w.heap.size + 1; omega)).trans ((Below.heap_setCell _ _ _ _ (by show w.heap.size ≠ w.heap.size + 1; omega)).trans HE.out)
            · rw [E0.out, E1.out, E2.out, E3.out]
              exact heap_setCell_same _ _ 3 _ _ _ (heap_setCell_same wr _ 0 _ _ _ HD.out)
          case measure => simp [intOf]
        · have hb2 : (bits BinOp.and IntKind.i64 ((m : Int) / 4) 1 == 1) = false := by simpa [bitS] using hbit
          have e0 : degS m 3 0 = degS m 2 0 := by simp [degS, hbit]
          have e1 : degS m 3 1 = degS m 2 1 := by simp [degS, hbit]
          have e2 : degS m 3 2 = degS m 2 2 := by simp [degS, hbit]
          have e3 : degS m 3 3 = degS m 2 3 := by simp [degS, hbit]
          have en : numS m 3 = numS m 2 := by simp [numS, hbit]
          have E0 := Lib.hid e0
          have E1 := Lib.hid e1
          have E2 := Lib.hid e2
          have E3 := Lib.hid e3
          have EN := Lib.hid en
          clear e0 e1 e2 e3 en hbit
          go_wp2_with fail
          go_roundw
          case rel =>
            refine ⟨3, by omega, rfl, by rw [EN.out], hb, HE.out, ?_⟩
            rw [E0.out, E1.out, E2.out, E3.out]
            exact HD.out
          case measure => simp [intOf]
      · have ep : wr.cell? ⟨w.heap.size, 6, none⟩ = some (.int .i64 1) := by rw [cell_blk hE]; rfl
        have eq : wr.cell? ⟨w.heap.size, 7, none⟩ = some (.int .i64 2) := by rw [cell_blk hE]; rfl
        have cp : wr.cell? ⟨w.heap.size + 1, 1, none⟩ = some (.int .i64 (degS m 3 1)) := by rw [cell_blk hD]; rfl
        have cq : wr.cell? ⟨w.heap.size + 1, 2, none⟩ = some (.int .i64 (degS m 3 2)) := by rw [cell_blk hD]; rfl
        have fD : ∀ j, wr.frozen? ⟨w.heap.size + 1, j, none⟩ = false := fun j => free_blk hD
        have HD := Lib.hid hD
        have HE := Lib.hid hE
        clear hD hE
        by_cases hbit : bitS m 3 = true
        · have hb2 : (bits BinOp.and IntKind.i64 ((m : Int) / 8) 1 == 1) = true := by simpa [bitS] using hbit
          have e0 : degS m 4 0 = degS m 3 0 := by simp [degS, hbit, endsL]
          have e1 : degS m 4 1 = degS m 3 1 + 1 := by simp [degS, hbit, endsL]
          have e2 : degS m 4 2 = degS m 3 2 + 1 := by simp [degS, hbit, endsL]
          have e3 : degS m 4 3 = degS m 3 3 := by simp [degS, hbit, endsL]
          have en : numS m 4 = numS m 3 + 1 := by simp [numS, hbit]
          have E0 := Lib.hid e0
          have E1 := Lib.hid e1
          have E2 := Lib.hid e2
          have E3 := Lib.hid e3
          have EN := Lib.hid en
          clear e0 e1 e2 e3 en hbit
          go_wp2_with fail
          go_roundw
          case rel =>
            refine ⟨4, by omega, rfl, by rw [EN.out], (hb.setCell (p := ⟨w.heap.size + 1, 1, none⟩) (Nat.le_succ _) _).setCell (p := ⟨w.heap.size + 1, 2, none⟩) (Nat.le_succ _) _, ?_, ?_⟩
            · exact (Below.heap_setCell _ _ _ _ (by show w.heap.size ≠ w.heap.size + 1; omega)).trans ((Below.heap_setCell _ _ _ _ (by show w.heap.size ≠ w.heap.size + 1; omega)).trans HE.out)
            · rw [E0.out, E1.out, E2.out, E3.out]
              exact heap_setCell_same _ _ 2 _ _ _ (heap_setCell_same wr _ 1 _ _ _ HD.out)
          case measure => simp [intOf]
        · have hb2 : (bits BinOp.and IntKind.i64 ((m : Int) / 8) 1 == 1) = false := by simpa [bitS] using hbit
          have e0 : degS m 4 0 = degS m 3 0 := by simp [degS, hbit]
          have e1 : degS m 4 1 = degS m 3 1 := by simp [degS, hbit]
          have e2 : degS m 4 2 = degS m 3 2 := by simp [degS, hbit]
          have e3 : degS m 4 3 = degS m 3 3 := by simp [degS, hbit]
          have en : numS m 4 = numS m 3 := by simp [numS, hbit]
          have E0 := Lib.hid e0
          have E1 := Lib.hid e1
          have E2 := Lib.hid e2
          have E3 := Lib.hid e3
          have EN := Lib.hid en
          clear e0 e1 e2 e3 en hbit
          go_wp2_with fail
          go_roundw
          case rel =>
            refine ⟨4, by omega, rfl, by rw [EN.out], hb, HE.out, ?_⟩
            rw [E0.out, E1.out, E2.out, E3.out]
            exact HD.out
          case measure => simp [intOf]
      · have ep : wr.cell? ⟨w.heap.size, 8, none⟩ = some (.int .i64 1) := by rw [cell_blk hE]; rfl
        have eq : wr.cell? ⟨w.heap.size, 9, none⟩ = some (.int .i64 3) := by rw [cell_blk hE]; rfl
        have cp : wr.cell? ⟨w.heap.size + 1, 1, none⟩ = some (.int .i64 (degS m 4 1)) := by rw [cell_blk hD]; rfl
        have cq : wr.cell? ⟨w.heap.size + 1, 3, none⟩ = some (.int .i64 (degS m 4 3)) := by rw [cell_blk hD]; rfl
        have fD : ∀ j, wr.frozen? ⟨w.heap.size + 1, j, none⟩ = false := fun j => free_blk hD
        have HD := Lib.hid hD
        have HE := Lib.hid hE
        clear hD hE
        by_cases hbit : bitS m 4 = true
        · have hb2 : (bits BinOp.and IntKind.i64 ((m : Int) / 16) 1 == 1) = true := by simpa [bitS] using hbit
          have e0 : degS m 5 0 = degS m 4 0 := by simp [degS, hbit, endsL]
          have e1 : degS m 5 1 = degS m 4 1 + 1 := by simp [degS, hbit, endsL]
          have e2 : degS m 5 2 = degS m 4 2 := by simp [degS, hbit, endsL]
          have e3 : degS m 5 3 = degS m 4 3 + 1 := by simp [degS, hbit, endsL]
          have en : numS m 5 = numS m 4 + 1 := by simp [numS, hbit]
          have E0 := Lib.hid e0
          have E1 := Lib.hid e1
          have E2 := Lib.hid e2
          have E3 := Lib.hid e3
          have EN := Lib.hid en
          clear e0 e1 e2 e3 en hbit
          go_wp2_with fail
          go_roundw
          case rel =>
            refine ⟨5, by omega, rfl, by rw [EN.out], (hb.setCell (p := ⟨w.heap.size + 1, 1, none⟩) (Nat.le_succ _) _).setCell (p := ⟨w.heap.size + 1, 3, none⟩) (Nat.le_succ _) _, ?_, ?_⟩
            · exact (Below.heap_setCell _ _ _ _ (by show w.heap.size ≠ w.heap.size + 1; omega)).trans ((Below.heap_setCell _ _ _ _ (by show w.heap.size ≠ w.heap.size + 1; omega)).trans HE.out)
            · rw [E0.out, E1.out, E2.out, E3.out]
              exact heap_setCell_same _ _ 3 _ _ _ (heap_setCell_same wr _ 1 _ _ _ HD.out)
          case measure => simp [intOf]
        · have hb2 : (bits BinOp.and IntKind.i64 ((m : Int) / 16) 1 == 1) = false := by simpa [bitS] using hbit
          have e0 : degS m 5 0 = degS m 4 0 := by simp [degS, hbit]
          have e1 : degS m 5 1 = degS m 4 1 := by simp [degS, hbit]
          have e2 : degS m 5 2 = degS m 4 2 := by simp [degS, hbit]
          have e3 : degS m 5 3 = degS m 4 3 := by simp [degS, hbit]
          have en : numS m 5 = numS m 4 := by simp [numS, hbit]
          have E0 := Lib.hid e0
          have E1 := Lib.hid e1
          have E2 := Lib.hid e2
          have E3 := Lib.hid e3
          have EN := Lib.hid en
          clear e0 e1 e2 e3 en hbit
          go_wp2_with fail
          go_roundw
          case rel =>
            refine ⟨5, by omega, rfl, by rw [EN.out], hb, HE.out, ?_⟩
            rw [E0.out, E1.out, E2.out, E3.out]
            exact HD.out
          case measure => simp [intOf]
      · have ep : wr.cell? ⟨w.heap.size, 10, none⟩ = some (.int .i64 2) := by rw [cell_blk hE]; rfl
        have eq : wr.cell? ⟨w.heap.size, 11, none⟩ = some (.int .i64 3) := by rw [cell_blk hE]; rfl
        have cp : wr.cell? ⟨w.heap.size + 1, 2, none⟩ = some (.int .i64 (degS m 5 2)) := by rw [cell_blk hD]; rfl
        have cq : wr.cell? ⟨w.heap.size + 1, 3, none⟩ = some (.int .i64 (degS m 5 3)) := by rw [cell_blk hD]; rfl
        have fD : ∀ j, wr.frozen? ⟨w.heap.size + 1, j, none⟩ = false := fun j => free_blk hD
        have HD := Lib.hid hD
        have HE := Lib.hid hE
        clear hD hE
        by_cases hbit : bitS m 5 = true
        · have hb2 : (bits BinOp.and IntKind.i64 ((m : Int) / 32) 1 == 1) = true := by simpa [bitS] using hbit
          have e0 : degS m 6 0 = degS m 5 0 := by simp [degS, hbit, endsL]
          have e1 : degS m 6 1 = degS m 5 1 := by simp [degS, hbit, endsL]
          have e2 : degS m 6 2 = degS m 5 2 + 1 := by simp [degS, hbit, endsL]
          have e3 : degS m 6 3 = degS m 5 3 + 1 := by simp [degS, hbit, endsL]
          have en : numS m 6 = numS m 5 + 1 := by simp [numS, hbit]
          have E0 := Lib.hid e0
          have E1 := Lib.hid e1
          have E2 := Lib.hid e2
          have E3 := Lib.hid e3
          have EN := Lib.hid en
          clear e0 e1 e2 e3 en hbit
          go_wp2_with fail
          go_roundw
          case rel =>
            refine ⟨6, by omega, rfl, by rw [EN.out], (hb.setCell (p := ⟨w.heap.size + 1, 2, none⟩) (Nat.le_succ _) _).setCell (p := ⟨w.heap.size + 1, 3, none⟩) (Nat.le_succ _) _, ?_, ?_⟩
            · exact (Below.heap_setCell _ _ _ _ (by show w.heap.size ≠ w.heap.size + 1; omega)).trans ((Below.heap_setCell _ _ _ _ (by show w.heap.size ≠ w.heap.size + 1; omega)).trans HE.out)
            · rw [E0.out, E1.out, E2.out, E3.out]
              exact heap_setCell_same _ _ 3 _ _ _ (heap_setCell_same wr _ 2 _ _ _ HD.out)
          case measure => simp [intOf]
        · have hb2 : (bits BinOp.and IntKind.i64 ((m : Int) / 32) 1 == 1) = false := by simpa [bitS] using hbit
          have e0 : degS m 6 0 = degS m 5 0 := by simp [degS, hbit]
          have e1 : degS m 6 1 = degS m 5 1 := by simp [degS, hbit]
          have e2 : degS m 6 2 = degS m 5 2 := by simp [degS, hbit]
          have e3 : degS m 6 3 = degS m 5 3 := by simp [degS, hbit]
          have en : numS m 6 = numS m 5 := by simp [numS, hbit]
          have E0 := Lib.hid e0
          have E1 := Lib.hid e1
          have E2 := Lib.hid e2
          have E3 := Lib.hid e3
          have EN := Lib.hid en
          clear e0 e1 e2 e3 en hbit
          go_wp2_with fail
          go_roundw
          case rel =>
            refine ⟨6, by omega, rfl, by rw [EN.out], hb, HE.out, ?_⟩
            rw [E0.out, E1.out, E2.out, E3.out]
            exact HD.out
          case measure => simp [intOf]
    · obtain rfl : k = 6 := by omega
      have c0 : wr.cell? ⟨w.heap.size + 1, 0, none⟩ = some (.int .i64 (degS m 6 0)) := by rw [cell_blk hD]; rfl
      have c1 : wr.cell? ⟨w.heap.size + 1, 1, none⟩ = some (.int .i64 (degS m 6 1)) := by rw [cell_blk hD]; rfl
      have c2 : wr.cell? ⟨w.heap.size + 1, 2, none⟩ = some (.int .i64 (degS m 6 2)) := by rw [cell_blk hD]; rfl
      have c3 : wr.cell? ⟨w.heap.size + 1, 3, none⟩ = some (.int .i64 (degS m 6 3)) := by rw [cell_blk hD]; rfl
      unfold leastS mostS at hkk
      generalize degS m 6 0 = x0 at *
      generalize degS m 6 1 = x1 at *
      generalize degS m 6 2 = x2 at *
      generalize degS m 6 3 = x3 at *
      generalize numS m 6 = n at *
      have hmn := fun W => run_min4 Tryd.prog #[3, 3, 3, 3] 3 x0 x1 x2 x3 W
      have hmx := fun W => run_max4 Tryd.prog #[3, 3, 3, 3] 3 x0 x1 x2 x3 W
      have HKK := Lib.hid hkk
      clear hkk hD hE
      obtain ⟨L, hL⟩ : ∃ L, min (min (min x0 x1) x2) x3 = L := ⟨_, rfl⟩
      obtain ⟨M, hM⟩ : ∃ M, max (max (max x0 x1) x2) x3 = M := ⟨_, rfl⟩
      have hLb : 0 ≤ L := by omega
      have HKM : Hid (kindR n L M = kindS m) := by show _ = _; rw [← hL, ← hM]; exact HKK.out
      rw [hL] at hmn
      rw [hM] at hmx
      clear HKK hL hM d0 d1 d2 d3
      unfold kindR at HKM
      have vn : IntKind.i64.wrap (n + 4) = n + 4 := IntWalk.i64_in _ (by omega)
      have hcase : n = 0 ∨ n = 1 ∨ (n = 2 ∧ M = 2) ∨ (n = 2 ∧ M ≠ 2) ∨ (n = 3 ∧ M = 3) ∨ (n = 3 ∧ M ≠ 3 ∧ L = 0) ∨ (n = 3 ∧ M ≠ 3 ∧ L ≠ 0) ∨ (n = 4 ∧ M = 3) ∨ (n = 4 ∧ M ≠ 3) ∨ (4 < n) := by omega
      rcases hcase with rfl | rfl | ⟨rfl, rfl⟩ | ⟨rfl, h1⟩ | ⟨rfl, rfl⟩ | ⟨rfl, h1, rfl⟩ | ⟨rfl, h1, h2⟩ | ⟨rfl, rfl⟩ | ⟨rfl, h1⟩ | h0
      case' inr.inr.inr.inl => have e1 : (M == 2) = false := by simpa using h1
      case' inr.inr.inr.inr.inr.inl => have e1 : (M == 3) = false := by simpa using h1
      case' inr.inr.inr.inr.inr.inr.inl => (have e1 : (M == 3) = false := by simpa using h1); (have e2 : (L == 0) = false := by simpa using h2)
      case' inr.inr.inr.inr.inr.inr.inr.inr.inl => have e1 : (M == 3) = false := by simpa using h1
      case' inr.inr.inr.inr.inr.inr.inr.inr.inr => (have e1 : (n == 0) = false := by simp; omega); (have e2 : (n == 1) = false := by simp; omega); (have e3 : (n == 2) = false := by simp; omega); (have e4 : (n == 3) = false := by simp; omega); (have e5 : (n == 4) = false := by simp; omega); (have e6 : n ≠ 0 ∧ n ≠ 1 ∧ n ≠ 2 ∧ n ≠ 3 ∧ n ≠ 4 := by omega)
      all_goals
        go_wp2_with fail
        go_quiet (fail)
        go_wp2_with fail
        go_ret
        refine ⟨ret_int ?_, hb.drewN _⟩
        have h := HKM.out
        first | exact h | simp_all
end Go.Proofs.YtbkacbbhiecnkaaDoor

namespace Go.Proofs.YtbkacbbhiecnkaaDoor
open Go.RowKit Go.BigFrame

def posX : Nat → Nat
  | 0 => 0
  | 1 => 3
  | 2 => 5
  | _ => 6
theorem four_ints {w : World} {v : Value} {a b c d : Int} (h : IntsAt w v [a, b, c, d]) : ∃ sb off cap, v = .slice (some ⟨sb, off, none⟩) 4 cap ∧ 4 ≤ cap ∧ w.cell? ⟨sb, off, none⟩ = some (.int .i64 a) ∧ w.cell? ⟨sb, off + 1, none⟩ = some (.int .i64 b) ∧ w.cell? ⟨sb, off + 2, none⟩ = some (.int .i64 c) ∧ w.cell? ⟨sb, off + 3, none⟩ = some (.int .i64 d) := by
  obtain ⟨a', cap, rfl, h1, _, _, hc⟩ := h
  obtain ⟨b0, o0, rfl, c0⟩ := hc 0 _ rfl
  obtain ⟨b1, o1, e1, c1⟩ := hc 1 _ rfl
  obtain ⟨b2, o2, e2, c2⟩ := hc 2 _ rfl
  obtain ⟨b3, o3, e3, c3⟩ := hc 3 _ rfl
  cases e1; cases e2; cases e3
  exact ⟨b0, o0, cap, rfl, h1, c0, c1, c2, c3⟩
set_option maxRecDepth 100000 in
set_option maxHeartbeats 6400000 in
theorem rbits_any (n : Nat) (ga : Option Addr) (cap : Nat) (es : List E2) (v : Value) (a b c d : Nat) (w : World) (he : EdgesAt w (.slice ga es.length cap) es) (hv : Valid n es) (hi : IntsAt w v [(a : Int), (b : Int), (c : Int), (d : Int)])
    (hab : a ≠ b) (hac : a ≠ c) (had : a ≠ d) (hbc : b ≠ c) (hbd : b ≠ d) (hcd : c ≠ d) :
    Calls Tryd.prog 98 #[.agg #[.int .i64 n, .slice ga es.length cap], v] w fun e w' => e = .returned (.int .i64 (maskF (pairF es a b c d) 6)) ∧ Below w.heap.size w w' := by
  obtain ⟨sb, off, scap, rfl, hsc, c0, c1, c2, c3⟩ := four_ints hi
  have hb0 : Below w.heap.size w (w.alloc (.cells #[.int .i64 n, .slice ga es.length cap] 27)) := (Below.refl _ _).alloc (Nat.le_refl _) _
  have hG0 := heap_alloc_new w (.cells #[.int .i64 n, .slice ga es.length cap] 27)
  have hsz := cell_lt c0
  have he0 := he.below hb0
  obtain ⟨F, hF⟩ : ∃ F, pairF es a b c d = F := ⟨_, rfl⟩
  rw [hF]
  have hF0 : F 0 = adjB es a b := by rw [← hF]; rfl
  have hF1 : F 1 = adjB es a c := by rw [← hF]; rfl
  have hF2 : F 2 = adjB es a d := by rw [← hF]; rfl
  have hF3 : F 3 = adjB es b c := by rw [← hF]; rfl
  have hF4 : F 4 = adjB es b d := by rw [← hF]; rfl
  have hF5 : F 5 = adjB es c d := by rw [← hF]; rfl
  have HF0 := Lib.hid hF0
  have HF1 := Lib.hid hF1
  have HF2 := Lib.hid hF2
  have HF3 := Lib.hid hF3
  have HF4 := Lib.hid hF4
  have HF5 := Lib.hid hF5
  clear hF hF0 hF1 hF2 hF3 hF4 hF5
  go_enter Tryd.func98, Tryd.ntmps98
  go_wp2_with fail
  obtain ⟨w1, hw1⟩ : ∃ W, W = w.alloc (.cells #[.int .i64 n, .slice ga es.length cap] 27) := ⟨_, rfl⟩
  rw [← hw1] at hb0 hG0 he0 ⊢
  have hzG := blk_lt hG0
  have s0 : w1.cell? ⟨sb, off, none⟩ = some (.int .i64 a) := (hb0.cell (p := ⟨sb, off, none⟩) (cell_lt c0)).trans c0
  have s1 : w1.cell? ⟨sb, off + 1, none⟩ = some (.int .i64 b) := (hb0.cell (p := ⟨sb, off + 1, none⟩) (cell_lt c1)).trans c1
  have s2 : w1.cell? ⟨sb, off + 2, none⟩ = some (.int .i64 c) := (hb0.cell (p := ⟨sb, off + 2, none⟩) (cell_lt c2)).trans c2
  have s3 : w1.cell? ⟨sb, off + 3, none⟩ = some (.int .i64 d) := (hb0.cell (p := ⟨sb, off + 3, none⟩) (cell_lt c3)).trans c3
  have HS0 := Lib.hid s0
  have HS1 := Lib.hid s1
  have HS2 := Lib.hid s2
  have HS3 := Lib.hid s3
  clear hw1 c0 c1 c2 c3 s0 s1 s2 s3 he hi
  have hsz1 : sb < w1.heap.size := Nat.lt_of_lt_of_le hsz hb0.size
  go_loopw [7, 5, 6] (fun vx vb vi wr => ∃ x : Nat, x ≤ 4 ∧ vx = .int .i64 x ∧ vb = .int .i64 (maskF F (posX x)) ∧ vi = .int .i64 (posX x : Nat) ∧ Below w1.heap.size w1 wr) (fun vx _ _ _ => 4 - (intOf vx).toNat)
  case atStart => exact ⟨0, by omega, rfl, rfl, rfl, Below.refl _ _⟩
  case round =>
    obtain ⟨x, hx, rfl, rfl, rfl, hb⟩ := hrel
    rcases (by omega : x = 0 ∨ x = 1 ∨ x = 2 ∨ x = 3 ∨ x = 4) with rfl | rfl | rfl | rfl | rfl
    · simp only [posX]
      go_wp2_with fail
      go_loopw [8, 5, 6] (fun vy vb vi wr => ∃ y : Nat, 1 ≤ y ∧ y ≤ 4 ∧ vy = .int .i64 y ∧ vb = .int .i64 (maskF F (0 + (y - 1))) ∧ vi = .int .i64 ((0 + (y - 1) : Nat) : Nat) ∧ Below w1.heap.size w1 wr) (fun vy _ _ _ => 4 - (intOf vy).toNat)
      case atStart => exact ⟨1, by omega, by omega, by rfl, rfl, rfl, hb⟩
      case round =>
        clear hb
        obtain ⟨y, hy, hy4, rfl, rfl, rfl, hb⟩ := hrel
        rcases (by omega : y = 1 ∨ y = 2 ∨ y = 3 ∨ y = 4) with rfl | rfl | rfl | rfl
        · have hk0 : maskF F (0 + (1 - 1)) < 2 ^ 0 := maskF_lt F 0
          have HM : Hid (maskF F (0 + (2 - 1)) = maskF F (0 + (1 - 1)) + if F 0 then 1 else 0) := rfl
          have HO : Hid (bits BinOp.or IntKind.i64 ((maskF F (0 + (1 - 1)) : Nat) : Int) 1 = ((maskF F (0 + (1 - 1)) + 1 : Nat) : Int)) := or_bit0 _ hk0
          obtain ⟨mk, hmk⟩ : ∃ mk, maskF F (0 + (1 - 1)) = mk := ⟨_, rfl⟩
          rw [hmk] at HM HO ⊢
          clear hmk hk0
          have hff := fun W h => find_any (n : Int) ga cap es a b W h hv
          have hge := find_ge hv a b hab
          obtain ⟨r, hr⟩ : ∃ r, findS es (a : Nat) (b : Nat) = r := ⟨_, rfl⟩
          obtain ⟨A, hA⟩ : ∃ A, adjB es a b = A := ⟨_, rfl⟩
          rw [hr] at hff hge
          rw [hA] at hge
          have HFA := Lib.hid (HF0.out.trans hA)
          clear hr hA
          have z0 : ∀ z : Ext wr.heap.size wr, z.world.cell? ⟨w.heap.size, 0, none⟩ = some (.int .i64 n) := fun z => by rw [cell_blk (lit_next' z.below (lit_next' hb hG0))]; rfl
          have z1 : ∀ z : Ext wr.heap.size wr, z.world.cell? ⟨w.heap.size, 1, none⟩ = some (.slice ga es.length cap) := fun z => by rw [cell_blk (lit_next' z.below (lit_next' hb hG0))]; rfl
          have z2 : ∀ z : Ext wr.heap.size wr, z.world.cell? ⟨sb, off, none⟩ = some (.int .i64 a) := fun z => ((hb.trans (z.below.mono hb.size)).cell (p := ⟨sb, off, none⟩) hsz1).trans HS0.out
          have z3 : ∀ z : Ext wr.heap.size wr, z.world.cell? ⟨sb, off + 1, none⟩ = some (.int .i64 b) := fun z => ((hb.trans (z.below.mono hb.size)).cell (p := ⟨sb, off + 1, none⟩) hsz1).trans HS1.out
          cases A
          case' true => have ho := HO.out
          all_goals
            clear HO
            go_wp2_with fail
            refine wp_region_ext wr.heap.size wr (by kernel_rfl) (by kernel_rfl) (Below.refl _ _) ?_
            try simp only [List.append_eq, List.cons_append, List.nil_append]
            repeat (go_big_quiet_step ((go_at_call 59; with_reducible exact Calls.ext_of (Nat.le_refl _) (hff _ (he0.below (hb.trans ((Ext.below _).mono hb.size)))))))
            refine wpQuiet_nil ?_
            rintro _ ⟨⟨wq, hq⟩, rfl⟩
            clear z0 z1 z2 z3
            go_wp2_with fail
            go_roundw
            case rel => exact ⟨2, by omega, by omega, rfl, by rw [HM.out, HFA.out]; rfl, rfl, hb.trans (hq.mono hb.size)⟩
            case measure => simp [intOf]
        · have hk0 : maskF F (0 + (2 - 1)) < 2 ^ 1 := maskF_lt F 1
          have HM : Hid (maskF F (0 + (3 - 1)) = maskF F (0 + (2 - 1)) + if F 1 then 2 else 0) := rfl
          have HO : Hid (bits BinOp.or IntKind.i64 ((maskF F (0 + (2 - 1)) : Nat) : Int) 2 = ((maskF F (0 + (2 - 1)) + 2 : Nat) : Int)) := or_bit1 _ hk0
          obtain ⟨mk, hmk⟩ : ∃ mk, maskF F (0 + (2 - 1)) = mk := ⟨_, rfl⟩
          rw [hmk] at HM HO ⊢
          clear hmk hk0
          have hff := fun W h => find_any (n : Int) ga cap es a c W h hv
          have hge := find_ge hv a c hac
          obtain ⟨r, hr⟩ : ∃ r, findS es (a : Nat) (c : Nat) = r := ⟨_, rfl⟩
          obtain ⟨A, hA⟩ : ∃ A, adjB es a c = A := ⟨_, rfl⟩
          rw [hr] at hff hge
          rw [hA] at hge
          have HFA := Lib.hid (HF1.out.trans hA)
          clear hr hA
          have z0 : ∀ z : Ext wr.heap.size wr, z.world.cell? ⟨w.heap.size, 0, none⟩ = some (.int .i64 n) := fun z => by rw [cell_blk (lit_next' z.below (lit_next' hb hG0))]; rfl
          have z1 : ∀ z : Ext wr.heap.size wr, z.world.cell? ⟨w.heap.size, 1, none⟩ = some (.slice ga es.length cap) := fun z => by rw [cell_blk (lit_next' z.below (lit_next' hb hG0))]; rfl
          have z2 : ∀ z : Ext wr.heap.size wr, z.world.cell? ⟨sb, off, none⟩ = some (.int .i64 a) := fun z => ((hb.trans (z.below.mono hb.size)).cell (p := ⟨sb, off, none⟩) hsz1).trans HS0.out
          have z3 : ∀ z : Ext wr.heap.size wr, z.world.cell? ⟨sb, off + 2, none⟩ = some (.int .i64 c) := fun z => ((hb.trans (z.below.mono hb.size)).cell (p := ⟨sb, off + 2, none⟩) hsz1).trans HS2.out
          cases A
          case' true => have ho := HO.out
          all_goals
            clear HO
            go_wp2_with fail
            refine wp_region_ext wr.heap.size wr (by kernel_rfl) (by kernel_rfl) (Below.refl _ _) ?_
            try simp only [List.append_eq, List.cons_append, List.nil_append]
            repeat (go_big_quiet_step ((go_at_call 59; with_reducible exact Calls.ext_of (Nat.le_refl _) (hff _ (he0.below (hb.trans ((Ext.below _).mono hb.size)))))))
            refine wpQuiet_nil ?_
            rintro _ ⟨⟨wq, hq⟩, rfl⟩
            clear z0 z1 z2 z3
            go_wp2_with fail
            go_roundw
            case rel => exact ⟨3, by omega, by omega, rfl, by rw [HM.out, HFA.out]; rfl, rfl, hb.trans (hq.mono hb.size)⟩
            case measure => simp [intOf]
        · have hk0 : maskF F (0 + (3 - 1)) < 2 ^ 2 := maskF_lt F 2
          have HM : Hid (maskF F (0 + (4 - 1)) = maskF F (0 + (3 - 1)) + if F 2 then 4 else 0) := rfl
          have HO : Hid (bits BinOp.or IntKind.i64 ((maskF F (0 + (3 - 1)) : Nat) : Int) 4 = ((maskF F (0 + (3 - 1)) + 4 : Nat) : Int)) := or_bit2 _ hk0
          obtain ⟨mk, hmk⟩ : ∃ mk, maskF F (0 + (3 - 1)) = mk := ⟨_, rfl⟩
          rw [hmk] at HM HO ⊢
          clear hmk hk0
          have hff := fun W h => find_any (n : Int) ga cap es a d W h hv
          have hge := find_ge hv a d had
          obtain ⟨r, hr⟩ : ∃ r, findS es (a : Nat) (d : Nat) = r := ⟨_, rfl⟩
          obtain ⟨A, hA⟩ : ∃ A, adjB es a d = A := ⟨_, rfl⟩
          rw [hr] at hff hge
          rw [hA] at hge
          have HFA := Lib.hid (HF2.out.trans hA)
          clear hr hA
          have z0 : ∀ z : Ext wr.heap.size wr, z.world.cell? ⟨w.heap.size, 0, none⟩ = some (.int .i64 n) := fun z => by rw [cell_blk (lit_next' z.below (lit_next' hb hG0))]; rfl
          have z1 : ∀ z : Ext wr.heap.size wr, z.world.cell? ⟨w.heap.size, 1, none⟩ = some (.slice ga es.length cap) := fun z => by rw [cell_blk (lit_next' z.below (lit_next' hb hG0))]; rfl
          have z2 : ∀ z : Ext wr.heap.size wr, z.world.cell? ⟨sb, off, none⟩ = some (.int .i64 a) := fun z => ((hb.trans (z.below.mono hb.size)).cell (p := ⟨sb, off, none⟩) hsz1).trans HS0.out
          have z3 : ∀ z : Ext wr.heap.size wr, z.world.cell? ⟨sb, off + 3, none⟩ = some (.int .i64 d) := fun z => ((hb.trans (z.below.mono hb.size)).cell (p := ⟨sb, off + 3, none⟩) hsz1).trans HS3.out
          cases A
          case' true => have ho := HO.out
          all_goals
            clear HO
            go_wp2_with fail
            refine wp_region_ext wr.heap.size wr (by kernel_rfl) (by kernel_rfl) (Below.refl _ _) ?_
            try simp only [List.append_eq, List.cons_append, List.nil_append]
            repeat (go_big_quiet_step ((go_at_call 59; with_reducible exact Calls.ext_of (Nat.le_refl _) (hff _ (he0.below (hb.trans ((Ext.below _).mono hb.size)))))))
            refine wpQuiet_nil ?_
            rintro _ ⟨⟨wq, hq⟩, rfl⟩
            clear z0 z1 z2 z3
            go_wp2_with fail
            go_roundw
            case rel => exact ⟨4, by omega, by omega, rfl, by rw [HM.out, HFA.out]; rfl, rfl, hb.trans (hq.mono hb.size)⟩
            case measure => simp [intOf]
        · go_wp2_with fail
          go_roundw
          case rel => exact ⟨1, by omega, rfl, rfl, rfl, hb⟩
          case measure => simp [intOf]
    · simp only [posX]
      go_wp2_with fail
      go_loopw [8, 5, 6] (fun vy vb vi wr => ∃ y : Nat, 2 ≤ y ∧ y ≤ 4 ∧ vy = .int .i64 y ∧ vb = .int .i64 (maskF F (3 + (y - 2))) ∧ vi = .int .i64 ((3 + (y - 2) : Nat) : Nat) ∧ Below w1.heap.size w1 wr) (fun vy _ _ _ => 4 - (intOf vy).toNat)
      case atStart => exact ⟨2, by omega, by omega, by rfl, rfl, rfl, hb⟩
      case round =>
        clear hb
        obtain ⟨y, hy, hy4, rfl, rfl, rfl, hb⟩ := hrel
        rcases (by omega : y = 2 ∨ y = 3 ∨ y = 4) with rfl | rfl | rfl
        · have hk0 : maskF F (3 + (2 - 2)) < 2 ^ 3 := maskF_lt F 3
          have HM : Hid (maskF F (3 + (3 - 2)) = maskF F (3 + (2 - 2)) + if F 3 then 8 else 0) := rfl
          have HO : Hid (bits BinOp.or IntKind.i64 ((maskF F (3 + (2 - 2)) : Nat) : Int) 8 = ((maskF F (3 + (2 - 2)) + 8 : Nat) : Int)) := or_bit3 _ hk0
          obtain ⟨mk, hmk⟩ : ∃ mk, maskF F (3 + (2 - 2)) = mk := ⟨_, rfl⟩
          rw [hmk] at HM HO ⊢
          clear hmk hk0
          have hff := fun W h => find_any (n : Int) ga cap es b c W h hv
          have hge := find_ge hv b c hbc
          obtain ⟨r, hr⟩ : ∃ r, findS es (b : Nat) (c : Nat) = r := ⟨_, rfl⟩
          obtain ⟨A, hA⟩ : ∃ A, adjB es b c = A := ⟨_, rfl⟩
          rw [hr] at hff hge
          rw [hA] at hge
          have HFA := Lib.hid (HF3.out.trans hA)
          clear hr hA
          have z0 : ∀ z : Ext wr.heap.size wr, z.world.cell? ⟨w.heap.size, 0, none⟩ = some (.int .i64 n) := fun z => by rw [cell_blk (lit_next' z.below (lit_next' hb hG0))]; rfl
          have z1 : ∀ z : Ext wr.heap.size wr, z.world.cell? ⟨w.heap.size, 1, none⟩ = some (.slice ga es.length cap) := fun z => by rw [cell_blk (lit_next' z.below (lit_next' hb hG0))]; rfl
          have z2 : ∀ z : Ext wr.heap.size wr, z.world.cell? ⟨sb, off + 1, none⟩ = some (.int .i64 b) := fun z => ((hb.trans (z.below.mono hb.size)).cell (p := ⟨sb, off + 1, none⟩) hsz1).trans HS1.out
          have z3 : ∀ z : Ext wr.heap.size wr, z.world.cell? ⟨sb, off + 2, none⟩ = some (.int .i64 c) := fun z => ((hb.trans (z.below.mono hb.size)).cell (p := ⟨sb, off + 2, none⟩) hsz1).trans HS2.out
          cases A
          case' true => have ho := HO.out
          all_goals
            clear HO
            go_wp2_with fail
            refine wp_region_ext wr.heap.size wr (by kernel_rfl) (by kernel_rfl) (Below.refl _ _) ?_
            try simp only [List.append_eq, List.cons_append, List.nil_append]
            repeat (go_big_quiet_step ((go_at_call 59; with_reducible exact Calls.ext_of (Nat.le_refl _) (hff _ (he0.below (hb.trans ((Ext.below _).mono hb.size)))))))
            refine wpQuiet_nil ?_
            rintro _ ⟨⟨wq, hq⟩, rfl⟩
            clear z0 z1 z2 z3
            go_wp2_with fail
            go_roundw
            case rel => exact ⟨3, by omega, by omega, rfl, by rw [HM.out, HFA.out]; rfl, rfl, hb.trans (hq.mono hb.size)⟩
            case measure => simp [intOf]
        · have hk0 : maskF F (3 + (3 - 2)) < 2 ^ 4 := maskF_lt F 4
          have HM : Hid (maskF F (3 + (4 - 2)) = maskF F (3 + (3 - 2)) + if F 4 then 16 else 0) := rfl
          have HO : Hid (bits BinOp.or IntKind.i64 ((maskF F (3 + (3 - 2)) : Nat) : Int) 16 = ((maskF F (3 + (3 - 2)) + 16 : Nat) : Int)) := or_bit4 _ hk0
          obtain ⟨mk, hmk⟩ : ∃ mk, maskF F (3 + (3 - 2)) = mk := ⟨_, rfl⟩
          rw [hmk] at HM HO ⊢
          clear hmk hk0
          have hff := fun W h => find_any (n : Int) ga cap es b d W h hv
          have hge := find_ge hv b d hbd
          obtain ⟨r, hr⟩ : ∃ r, findS es (b : Nat) (d : Nat) = r := ⟨_, rfl⟩
          obtain ⟨A, hA⟩ : ∃ A, adjB es b d = A := ⟨_, rfl⟩
          rw [hr] at hff hge
          rw [hA] at hge
          have HFA := Lib.hid (HF4.out.trans hA)
          clear hr hA
          have z0 : ∀ z : Ext wr.heap.size wr, z.world.cell? ⟨w.heap.size, 0, none⟩ = some (.int .i64 n) := fun z => by rw [cell_blk (lit_next' z.below (lit_next' hb hG0))]; rfl
          have z1 : ∀ z : Ext wr.heap.size wr, z.world.cell? ⟨w.heap.size, 1, none⟩ = some (.slice ga es.length cap) := fun z => by rw [cell_blk (lit_next' z.below (lit_next' hb hG0))]; rfl
          have z2 : ∀ z : Ext wr.heap.size wr, z.world.cell? ⟨sb, off + 1, none⟩ = some (.int .i64 b) := fun z => ((hb.trans (z.below.mono hb.size)).cell (p := ⟨sb, off + 1, none⟩) hsz1).trans HS1.out
          have z3 : ∀ z : Ext wr.heap.size wr, z.world.cell? ⟨sb, off + 3, none⟩ = some (.int .i64 d) := fun z => ((hb.trans (z.below.mono hb.size)).cell (p := ⟨sb, off + 3, none⟩) hsz1).trans HS3.out
          cases A
          case' true => have ho := HO.out
          all_goals
            clear HO
            go_wp2_with fail
            refine wp_region_ext wr.heap.size wr (by kernel_rfl) (by kernel_rfl) (Below.refl _ _) ?_
            try simp only [List.append_eq, List.cons_append, List.nil_append]
            repeat (go_big_quiet_step ((go_at_call 59; with_reducible exact Calls.ext_of (Nat.le_refl _) (hff _ (he0.below (hb.trans ((Ext.below _).mono hb.size)))))))
            refine wpQuiet_nil ?_
            rintro _ ⟨⟨wq, hq⟩, rfl⟩
            clear z0 z1 z2 z3
            go_wp2_with fail
            go_roundw
            case rel => exact ⟨4, by omega, by omega, rfl, by rw [HM.out, HFA.out]; rfl, rfl, hb.trans (hq.mono hb.size)⟩
            case measure => simp [intOf]
        · go_wp2_with fail
          go_roundw
          case rel => exact ⟨2, by omega, rfl, rfl, rfl, hb⟩
          case measure => simp [intOf]
    · simp only [posX]
      go_wp2_with fail
      go_loopw [8, 5, 6] (fun vy vb vi wr => ∃ y : Nat, 3 ≤ y ∧ y ≤ 4 ∧ vy = .int .i64 y ∧ vb = .int .i64 (maskF F (5 + (y - 3))) ∧ vi = .int .i64 ((5 + (y - 3) : Nat) : Nat) ∧ Below w1.heap.size w1 wr) (fun vy _ _ _ => 4 - (intOf vy).toNat)
      case atStart => exact ⟨3, by omega, by omega, by rfl, rfl, rfl, hb⟩
      case round =>
        clear hb
        obtain ⟨y, hy, hy4, rfl, rfl, rfl, hb⟩ := hrel
        rcases (by omega : y = 3 ∨ y = 4) with rfl | rfl
        · have hk0 : maskF F (5 + (3 - 3)) < 2 ^ 5 := maskF_lt F 5
          have HM : Hid (maskF F (5 + (4 - 3)) = maskF F (5 + (3 - 3)) + if F 5 then 32 else 0) := rfl
          have HO : Hid (bits BinOp.or IntKind.i64 ((maskF F (5 + (3 - 3)) : Nat) : Int) 32 = ((maskF F (5 + (3 - 3)) + 32 : Nat) : Int)) := or_bit5 _ hk0
          obtain ⟨mk, hmk⟩ : ∃ mk, maskF F (5 + (3 - 3)) = mk := ⟨_, rfl⟩
          rw [hmk] at HM HO ⊢
          clear hmk hk0
          have hff := fun W h => find_any (n : Int) ga cap es c d W h hv
          have hge := find_ge hv c d hcd
          obtain ⟨r, hr⟩ : ∃ r, findS es (c : Nat) (d : Nat) = r := ⟨_, rfl⟩
          obtain ⟨A, hA⟩ : ∃ A, adjB es c d = A := ⟨_, rfl⟩
          rw [hr] at hff hge
          rw [hA] at hge
          have HFA := Lib.hid (HF5.out.trans hA)
          clear hr hA
          have z0 : ∀ z : Ext wr.heap.size wr, z.world.cell? ⟨w.heap.size, 0, none⟩ = some (.int .i64 n) := fun z => by rw [cell_blk (lit_next' z.below (lit_next' hb hG0))]; rfl
          have z1 : ∀ z : Ext wr.heap.size wr, z.world.cell? ⟨w.heap.size, 1, none⟩ = some (.slice ga es.length cap) := fun z => by rw [cell_blk (lit_next' z.below (lit_next' hb hG0))]; rfl
          have z2 : ∀ z : Ext wr.heap.size wr, z.world.cell? ⟨sb, off + 2, none⟩ = some (.int .i64 c) := fun z => ((hb.trans (z.below.mono hb.size)).cell (p := ⟨sb, off + 2, none⟩) hsz1).trans HS2.out
          have z3 : ∀ z : Ext wr.heap.size wr, z.world.cell? ⟨sb, off + 3, none⟩ = some (.int .i64 d) := fun z => ((hb.trans (z.below.mono hb.size)).cell (p := ⟨sb, off + 3, none⟩) hsz1).trans HS3.out
          cases A
          case' true => have ho := HO.out
          all_goals
            clear HO
            go_wp2_with fail
            refine wp_region_ext wr.heap.size wr (by kernel_rfl) (by kernel_rfl) (Below.refl _ _) ?_
            try simp only [List.append_eq, List.cons_append, List.nil_append]
            repeat (go_big_quiet_step ((go_at_call 59; with_reducible exact Calls.ext_of (Nat.le_refl _) (hff _ (he0.below (hb.trans ((Ext.below _).mono hb.size)))))))
            refine wpQuiet_nil ?_
            rintro _ ⟨⟨wq, hq⟩, rfl⟩
            clear z0 z1 z2 z3
            go_wp2_with fail
            go_roundw
            case rel => exact ⟨4, by omega, by omega, rfl, by rw [HM.out, HFA.out]; rfl, rfl, hb.trans (hq.mono hb.size)⟩
            case measure => simp [intOf]
        · go_wp2_with fail
          go_roundw
          case rel => exact ⟨3, by omega, rfl, rfl, rfl, hb⟩
          case measure => simp [intOf]
    · simp only [posX]
      go_wp2_with fail
      go_loopw [8, 5, 6] (fun vy vb vi wr => ∃ y : Nat, 4 ≤ y ∧ y ≤ 4 ∧ vy = .int .i64 y ∧ vb = .int .i64 (maskF F (6 + (y - 4))) ∧ vi = .int .i64 ((6 + (y - 4) : Nat) : Nat) ∧ Below w1.heap.size w1 wr) (fun vy _ _ _ => 4 - (intOf vy).toNat)
      case atStart => exact ⟨4, by omega, by omega, by rfl, rfl, rfl, hb⟩
      case round =>
        clear hb
        obtain ⟨y, hy, hy4, rfl, rfl, rfl, hb⟩ := hrel
        obtain rfl : y = 4 := by omega
        · go_wp2_with fail
          go_roundw
          case rel => exact ⟨4, by omega, rfl, rfl, rfl, hb⟩
          case measure => simp [intOf]
    · simp only [posX]
      go_wp2_with fail
      go_ret
      exact ⟨rfl, hb0.trans (hb.mono hb0.size)⟩
end Go.Proofs.YtbkacbbhiecnkaaDoor

namespace Go.Proofs.YtbkacbbhiecnkaaDoor
open Go.RowKit Go.BigFrame

set_option maxRecDepth 100000 in
set_option maxHeartbeats 800000 in
theorem rsvalid_any (a : Option Addr) (cap : Nat) (xs : List Int) (n : Int) (w : World) (hi : IntsAt w (.slice a xs.length cap) xs) :
    Calls Tryd.prog 96 #[.slice a xs.length cap, .int .i64 n] w fun e w' => e = .returned (.bool (validB none xs n)) ∧ w = w' := by
  have hl : xs.length ≤ 70368744177664 := by obtain ⟨_, _, hv, _, _, hl, _⟩ := hi; exact hl
  go_enter Tryd.func96, Tryd.ntmps96
  go_wp2
  go_loop [9] (fun i => ∃ k : Nat, k ≤ xs.length ∧ i = .int .i64 k ∧ Hid (validB none xs n = validB (prevI xs k) (xs.drop k) n)) (fun i => xs.length - (intOf i).toNat)
  case atStart => exact ⟨0, Nat.zero_le _, rfl, rfl⟩
  case round =>
    obtain ⟨k, hk, rfl, HR⟩ := hrel
    by_cases hlt : k < xs.length
    · obtain ⟨b, off, y, rfl, hy, hd, _, c0⟩ := hi.at k hlt
      have HD : Hid (validB none xs n = (decide (0 ≤ y) && decide (y < n) && (prevI xs k).all (fun z => decide (z < y)) && validB (some y) (xs.drop (k + 1)) n)) := by show _ = _; rw [HR.out, hd, validB]
      have HP : Hid (prevI xs (k + 1) = some y) := by show _ = _; unfold prevI; rw [if_neg (by omega)]; simpa using hy
      clear hd hy HR
      by_cases h1 : y < 0
      · have HF : Hid (validB none xs n = false) := by show _ = _; rw [HD.out]; simp; omega
        go_wp2
        go_ret
        exact ⟨ret_bool HF.out.symm, rfl⟩
      by_cases h2 : n ≤ y
      · have HF : Hid (validB none xs n = false) := by show _ = _; rw [HD.out]; simp; omega
        go_wp2
        go_ret
        exact ⟨ret_bool HF.out.symm, rfl⟩
      by_cases hp : k = 0
      · have hp1 : decide (0 < (k : Int)) = false := by simp [hp]
        have hp2 : decide (0 < k) = false := by simp [hp]
        have HF : Hid (validB none xs n = validB (prevI xs (k + 1)) (xs.drop (k + 1)) n) := by
          show _ = _
          rw [HD.out, HP.out, prevI, if_pos hp]
          simp; omega
        clear hp
        go_wp2
        go_round
        case rel => exact ⟨k + 1, by omega, by go_num, HF⟩
        case measure => simp [intOf]; omega
      · have hp1 : (0 : Int) < (k : Int) := by omega
        have hp2 : 0 < k := by omega
        obtain ⟨b', off', z, hbo, hz, _, _, d0⟩ := hi.at (k - 1) (by omega)
        obtain ⟨rfl, rfl⟩ : b = b' ∧ off = off' := by simpa using hbo
        clear hbo
        have HQ : Hid (prevI xs k = some z) := by show _ = _; rw [prevI, if_neg hp]; exact hz
        clear hz hp
        by_cases hzy : y ≤ z
        · have HF : Hid (validB none xs n = false) := by show _ = _; rw [HD.out, HQ.out]; simp; omega
          go_wp2
          go_ret
          exact ⟨ret_bool HF.out.symm, rfl⟩
        · have HF : Hid (validB none xs n = validB (prevI xs (k + 1)) (xs.drop (k + 1)) n) := by show _ = _; rw [HD.out, HP.out, HQ.out]; simp; omega
          go_wp2
          go_round
          case rel => exact ⟨k + 1, by omega, by go_num, HF⟩
          case measure => simp [intOf]; omega
    · have HF : Hid (validB none xs n = true) := by show _ = _; rw [HR.out, List.drop_of_length_le (by omega)]; rfl
      go_wp2
      go_ret
      exact ⟨ret_bool HF.out.symm, rfl⟩

/-- the kind that four nodes have, or the error -/
def kindX (n : Int) (es : List E2) (xs : List Int) : Int × Int :=
  if checkS n es ≠ 0 then (0, checkS n es) else match xs with
  | [p, q, r, s] => if validB none [p, q, r, s] n = true then (ofKS es p.toNat q.toNat r.toNat s.toNat, 0) else (0, 4)
  | _ => (0, 4)
theorem kindX_err {n : Int} {es : List E2} {xs : List Int} (h : checkS n es ≠ 0) : kindX n es xs = (0, checkS n es) := by unfold kindX; rw [if_pos h]
theorem kindX_len {n : Int} {es : List E2} {xs : List Int} (h : checkS n es = 0) (hl : xs.length ≠ 4) : kindX n es xs = (0, 4) := by
  unfold kindX
  rw [if_neg (by simpa using h)]
  match xs, hl with
  | [], _ => rfl
  | [_], _ => rfl
  | [_, _], _ => rfl
  | [_, _, _], _ => rfl
  | _ :: _ :: _ :: _ :: _ :: _, _ => rfl
theorem list_four' {α : Type} {l : List α} (h : l.length = 4) : ∃ a b c d, l = [a, b, c, d] := by
  match l, h with
  | [a, b, c, d], _ => exact ⟨a, b, c, d, rfl⟩
theorem validB_four {n p q r s : Int} (h : validB none [p, q, r, s] n = true) : 0 ≤ p ∧ p < q ∧ q < r ∧ r < s ∧ s < n := by
  simp [validB] at h
  omega
set_option maxRecDepth 100000 in
set_option maxHeartbeats 1600000 in
theorem rkindset_any (n : Int) (a : Option Addr) (cap : Nat) (es : List E2) (a2 : Option Addr) (cap2 : Nat) (xs : List Int) (w : World) (he : EdgesAt w (.slice a es.length cap) es) (hi : IntsAt w (.slice a2 xs.length cap2) xs) :
    Calls Tryd.prog 39 #[.agg #[.int .i64 n, .slice a es.length cap], .slice a2 xs.length cap2] w fun e w' => e = .returned (.tuple #[.int .i64 (kindX n es xs).1, .int .i64 (kindX n es xs).2]) ∧ Below w.heap.size w w' := by
  have hb0 : Below w.heap.size w (w.alloc (.cells #[.int .i64 n, .slice a es.length cap] 27)) := (Below.refl _ _).alloc (Nat.le_refl _) _
  have hG0 := heap_alloc_new w (.cells #[.int .i64 n, .slice a es.length cap] 27)
  have hck := fun W h => check_any n a cap es W h
  by_cases hC : checkS n es = 0
  case neg =>
    have hk := kindX_err (xs := xs) hC
    rw [hk]
    dsimp only
    obtain ⟨C, hCC⟩ : ∃ C, checkS n es = C := ⟨_, rfl⟩
    rw [hCC] at hck hC ⊢
    have d1 : (C != 0) = true := by simpa using hC
    have d2 : (C == 0) = false := by simpa using hC
    clear hC hCC hk
    go_enter Tryd.func39, Tryd.ntmps39
    go_wp2_with fail
    refine (hck _ (he.below hb0)).mono ?_
    rintro e w1 ⟨rfl, hb1⟩
    go_wp2_with fail
    go_ret2
    exact ⟨rfl, hb0.trans (hb1.mono hb0.size)⟩
  rw [hC] at hck
  by_cases hl : xs.length = 4
  case neg =>
    rw [kindX_len hC hl]
    have d1 : ((xs.length : Int) != 4) = true := by simp; omega
    go_enter Tryd.func39, Tryd.ntmps39
    go_wp2_with fail
    refine (hck _ (he.below hb0)).mono ?_
    rintro e w1 ⟨rfl, hb1⟩
    go_wp2_with fail
    go_ret2
    exact ⟨rfl, hb0.trans (hb1.mono hb0.size)⟩
  obtain ⟨p, q, r, s, rfl⟩ := list_four' hl
  have hva := fun W h => rsvalid_any a2 cap2 [p, q, r, s] n W h
  have hkx : kindX n es [p, q, r, s] = if validB none [p, q, r, s] n = true then (ofKS es p.toNat q.toNat r.toNat s.toNat, 0) else (0, 4) := by unfold kindX; rw [if_neg (by simpa using hC)]
  rw [hkx]
  obtain ⟨V, hV⟩ : ∃ V, validB none [p, q, r, s] n = V := ⟨_, rfl⟩
  rw [hV] at hva ⊢
  have hi4 : IntsAt w (.slice a2 4 cap2) [p, q, r, s] := hi
  have hva4 : ∀ W, IntsAt W (.slice a2 4 cap2) [p, q, r, s] → Calls Tryd.prog 96 #[.slice a2 4 cap2, .int .i64 n] W fun e w' => e = .returned (.bool V) ∧ W = w' := hva
  have HV := Lib.hid hV
  clear hkx hva hi hl hV
  show Calls _ _ #[_, .slice a2 4 cap2] _ _
  cases V with
  | false =>
    rw [if_neg (by simp)]
    go_enter Tryd.func39, Tryd.ntmps39
    go_wp2_with fail
    refine (hck _ (he.below hb0)).mono ?_
    rintro e w1 ⟨rfl, hb1⟩
    have hb01 := hb0.trans (hb1.mono hb0.size)
    have hG1 := lit_next' hb1 hG0
    have g0 : w1.cell? ⟨w.heap.size, 0, none⟩ = some (.int .i64 n) := by rw [cell_blk hG1]; rfl
    go_wp2_with fail
    refine (hva4 _ (hi4.below hb01)).mono ?_
    rintro e w2 ⟨rfl, rfl⟩
    go_wp2_with fail
    go_ret2
    exact ⟨rfl, hb01⟩
  | true =>
    rw [if_pos rfl]
    have hvv := validB_four HV.out
    have hv := (valid_iff n es).1 hC
    obtain ⟨p, rfl⟩ := Int.eq_ofNat_of_zero_le (show 0 ≤ p by omega)
    obtain ⟨q, rfl⟩ := Int.eq_ofNat_of_zero_le (show 0 ≤ q by omega)
    obtain ⟨r, rfl⟩ := Int.eq_ofNat_of_zero_le (show 0 ≤ r by omega)
    obtain ⟨s, rfl⟩ := Int.eq_ofNat_of_zero_le (show 0 ≤ s by omega)
    obtain ⟨n, rfl⟩ := Int.eq_ofNat_of_zero_le (show 0 ≤ n by omega)
    simp only [Int.toNat_natCast]
    have hbt := fun W h1 h2 => rbits_any n a cap es (.slice a2 4 cap2) p q r s W h1 hv h2 (by omega) (by omega) (by omega) (by omega) (by omega) (by omega)
    have hkd := fun W => rkind_any (maskF (pairF es p q r s) 6) W (maskF_lt _ 6)
    unfold ofKS
    obtain ⟨M, hM⟩ : ∃ M, maskF (pairF es p q r s) 6 = M := ⟨_, rfl⟩
    rw [hM] at hbt hkd ⊢
    clear hM HV hvv
    go_enter Tryd.func39, Tryd.ntmps39
    go_wp2_with fail
    refine (hck _ (he.below hb0)).mono ?_
    rintro e w1 ⟨rfl, hb1⟩
    have hb01 := hb0.trans (hb1.mono hb0.size)
    have hG1 := lit_next' hb1 hG0
    have g0 : w1.cell? ⟨w.heap.size, 0, none⟩ = some (.int .i64 n) := by rw [cell_blk hG1]; rfl
    have g1 : w1.cell? ⟨w.heap.size, 1, none⟩ = some (.slice a es.length cap) := by rw [cell_blk hG1]; rfl
    go_wp2_with fail
    refine (hva4 _ (hi4.below hb01)).mono ?_
    rintro e w2 ⟨rfl, rfl⟩
    go_wp2_with fail
    refine (hbt _ (he.below hb01) (hi4.below hb01)).mono ?_
    rintro e w3 ⟨rfl, hb3⟩
    go_wp2_with fail
    refine (hkd _).mono ?_
    rintro e w4 ⟨rfl, hb4⟩
    go_wp2_with fail
    go_ret2
    exact ⟨rfl, (hb01.trans (hb3.mono hb01.size)).trans (hb4.mono (Nat.le_trans hb01.size hb3.size))⟩
set_option maxRecDepth 100000 in
set_option maxHeartbeats 1600000 in
theorem pkindset_any (n : Int) (a : Option Addr) (cap : Nat) (es : List E2) (a2 : Option Addr) (cap2 : Nat) (xs : List Int) (w : World) (he : EdgesAt w (.slice a es.length cap) es) (hi : IntsAt w (.slice a2 xs.length cap2) xs) (ht : TabsAt w) :
    Calls Tryd.prog 38 #[.agg #[.int .i64 n, .slice a es.length cap], .slice a2 xs.length cap2] w fun e w' => e = .returned (.tuple #[.int .i64 (kindX n es xs).1, .int .i64 (kindX n es xs).2]) ∧ Below w.heap.size w w' := by
  have hb0 : Below w.heap.size w (w.alloc (.cells #[.int .i64 n, .slice a es.length cap] 27)) := (Below.refl _ _).alloc (Nat.le_refl _) _
  have hG0 := heap_alloc_new w (.cells #[.int .i64 n, .slice a es.length cap] 27)
  have hck := fun W h => gcheck_any n a cap es W h
  by_cases hC : checkS n es = 0
  case neg =>
    have hk := kindX_err (xs := xs) hC
    rw [hk]
    dsimp only
    obtain ⟨C, hCC⟩ : ∃ C, checkS n es = C := ⟨_, rfl⟩
    rw [hCC] at hck hC ⊢
    have d1 : (C != 0) = true := by simpa using hC
    have d2 : (C == 0) = false := by simpa using hC
    clear hC hCC hk
    go_enter Tryd.func38, Tryd.ntmps38
    go_wp2_with fail
    refine (hck _ (he.below hb0)).mono ?_
    rintro e w1 ⟨rfl, hb1⟩
    go_wp2_with fail
    go_ret2
    exact ⟨rfl, hb0.trans (hb1.mono hb0.size)⟩
  rw [hC] at hck
  by_cases hl : xs.length = 4
  case neg =>
    rw [kindX_len hC hl]
    have d1 : ((xs.length : Int) != 4) = true := by simp; omega
    go_enter Tryd.func38, Tryd.ntmps38
    go_wp2_with fail
    refine (hck _ (he.below hb0)).mono ?_
    rintro e w1 ⟨rfl, hb1⟩
    go_wp2_with fail
    go_ret2
    exact ⟨rfl, hb0.trans (hb1.mono hb0.size)⟩
  obtain ⟨p, q, r, s, rfl⟩ := list_four' hl
  have hva := fun W h => nvalid_any a2 cap2 [p, q, r, s] n W h
  have hkx : kindX n es [p, q, r, s] = if validB none [p, q, r, s] n = true then (ofKS es p.toNat q.toNat r.toNat s.toNat, 0) else (0, 4) := by unfold kindX; rw [if_neg (by simpa using hC)]
  rw [hkx]
  obtain ⟨V, hV⟩ : ∃ V, validB none [p, q, r, s] n = V := ⟨_, rfl⟩
  rw [hV] at hva ⊢
  have hi4 : IntsAt w (.slice a2 4 cap2) [p, q, r, s] := hi
  have hva4 : ∀ W, IntsAt W (.slice a2 4 cap2) [p, q, r, s] → Calls Tryd.prog 93 #[.slice a2 4 cap2, .int .i64 n] W fun e w' => e = .returned (.bool V) ∧ W = w' := hva
  have HV := Lib.hid hV
  clear hkx hva hi hl hV
  show Calls _ _ #[_, .slice a2 4 cap2] _ _
  cases V with
  | false =>
    rw [if_neg (by simp)]
    go_enter Tryd.func38, Tryd.ntmps38
    go_wp2_with fail
    refine (hck _ (he.below hb0)).mono ?_
    rintro e w1 ⟨rfl, hb1⟩
    have hb01 := hb0.trans (hb1.mono hb0.size)
    have hG1 := lit_next' hb1 hG0
    have g0 : w1.cell? ⟨w.heap.size, 0, none⟩ = some (.int .i64 n) := by rw [cell_blk hG1]; rfl
    go_wp2_with fail
    refine (hva4 _ (hi4.below hb01)).mono ?_
    rintro e w2 ⟨rfl, rfl⟩
    go_wp2_with fail
    go_ret2
    exact ⟨rfl, hb01⟩
  | true =>
    rw [if_pos rfl]
    have hvv := validB_four HV.out
    have hv := (valid_iff n es).1 hC
    obtain ⟨p, rfl⟩ := Int.eq_ofNat_of_zero_le (show 0 ≤ p by omega)
    obtain ⟨q, rfl⟩ := Int.eq_ofNat_of_zero_le (show 0 ≤ q by omega)
    obtain ⟨r, rfl⟩ := Int.eq_ofNat_of_zero_le (show 0 ≤ r by omega)
    obtain ⟨s, rfl⟩ := Int.eq_ofNat_of_zero_le (show 0 ≤ s by omega)
    obtain ⟨n, rfl⟩ := Int.eq_ofNat_of_zero_le (show 0 ≤ n by omega)
    simp only [Int.toNat_natCast]
    exact kind4_any n a cap es w a2 cap2 p q r s he hv ht hi4 HV.out
end Go.Proofs.YtbkacbbhiecnkaaDoor
