/- The contract of the program's kind of the graph that four nodes induce. -/
import Derived.Test.YtekbpoppajbljaaDoorPatKind
namespace Go.Proofs.YtekbpoppajbljaaDoor
open Go.RowKit Go.BigFrame

/-- six answers as the bits of a number -/
def maskF (f : Nat → Bool) : Nat → Nat
  | 0 => 0
  | k + 1 => maskF f k + if f k then 2 ^ k else 0
theorem maskF_lt (f : Nat → Bool) : ∀ k, maskF f k < 2 ^ k := by
  intro k
  induction k with
  | zero => simp [maskF]
  | succ k ih => unfold maskF; rw [Nat.pow_succ]; split <;> omega
/-- the six pairs of four nodes -/
def pairF (es : List E2) (a b c d : Nat) : Nat → Bool
  | 0 => adjB es a b
  | 1 => adjB es a c
  | 2 => adjB es a d
  | 3 => adjB es b c
  | 4 => adjB es b d
  | _ => adjB es c d
def ofKS (es : List E2) (a b c d : Nat) : Int := kindS (maskF (pairF es a b c d) 6)
theorem or_bit0 : ∀ x : Nat, x < 1 → bits BinOp.or IntKind.i64 (x : Int) 1 = ((x + 1 : Nat) : Int) := by decide +kernel
theorem or_bit1 : ∀ x : Nat, x < 2 → bits BinOp.or IntKind.i64 (x : Int) 2 = ((x + 2 : Nat) : Int) := by decide +kernel
theorem or_bit2 : ∀ x : Nat, x < 4 → bits BinOp.or IntKind.i64 (x : Int) 4 = ((x + 4 : Nat) : Int) := by decide +kernel
theorem or_bit3 : ∀ x : Nat, x < 8 → bits BinOp.or IntKind.i64 (x : Int) 8 = ((x + 8 : Nat) : Int) := by decide +kernel
theorem or_bit4 : ∀ x : Nat, x < 16 → bits BinOp.or IntKind.i64 (x : Int) 16 = ((x + 16 : Nat) : Int) := by decide +kernel
theorem or_bit5 : ∀ x : Nat, x < 32 → bits BinOp.or IntKind.i64 (x : Int) 32 = ((x + 32 : Nat) : Int) := by decide +kernel

set_option maxRecDepth 100000 in
set_option maxHeartbeats 1600000 in
theorem of4_any (g : Nat) (es : List E2) (a b c d : Nat) (w : World) (ha : a < 64) (hb4 : b < 64) (hc4 : c < 64) (hd4 : d < 64) (ht : TabsAt w) (hT : TableAt w g es) :
    Calls Tryd.prog 73 #[.pointer (some ⟨g, 0, none⟩), .agg #[.int .i64 a, .int .i64 b, .int .i64 c, .int .i64 d]] w fun e w' => e = .returned (.int .i64 (ofKS es a b c d)) ∧ Below w.heap.size w w' := by
  obtain ⟨cs, hg, _, hcs⟩ := hT
  have hgw := blk_lt hg
  have q0 := ht.1 0 _ rfl
  have q1 := ht.1 1 _ rfl
  have q2 := ht.1 2 _ rfl
  have q3 := ht.1 3 _ rfl
  have q4 := ht.1 4 _ rfl
  have q5 := ht.1 5 _ rfl
  have q6 := ht.1 6 _ rfl
  have q7 := ht.1 7 _ rfl
  have q8 := ht.1 8 _ rfl
  have q9 := ht.1 9 _ rfl
  have q10 := ht.1 10 _ rfl
  have q11 := ht.1 11 _ rfl
  have hgs : 1 < w.heap.size := cell_lt q0
  have HCS := Lib.hid hcs
  have HGG := Lib.hid hg
  clear hcs hg
  go_enter Tryd.func73, Tryd.ntmps73
  go_wp2_with fail
  clear q0 q1 q2 q3 q4 q5 q6 q7 q8 q9 q10 q11
  go_loopw [5, 9] (fun m i wr => ∃ k : Nat, k ≤ 6 ∧ i = .int .i64 k ∧ m = .int .i64 (maskF (pairF es a b c d) k) ∧ Below (w.heap.size + 1) (w.alloc (.cells #[.int .i64 a, .int .i64 b, .int .i64 c, .int .i64 d] 74)) wr) (fun _ i _ => 6 - (intOf i).toNat)
  case atStart => exact ⟨0, by omega, rfl, rfl, Below.refl _ _⟩
  case round =>
    obtain ⟨k, hk, rfl, rfl, hb⟩ := hrel
    have hz : w.heap.size < wr.heap.size := by have := hb.size; simp at this; omega
    have hmk := maskF_lt (pairF es a b c d) k
    have hfin : Below w.heap.size w wr := ((Below.refl _ _).alloc (Nat.le_refl _) _).trans (hb.mono (by omega))
    by_cases hlt : k < 6
    · rcases (by omega : k = 0 ∨ k = 1 ∨ k = 2 ∨ k = 3 ∨ k = 4 ∨ k = 5) with rfl | rfl | rfl | rfl | rfl | rfl
      · have ix := idx0
        have s0 := cell_new hb 0 _ rfl
        have s1 := cell_new hb 1 _ rfl
        have t0 : wr.cell? ⟨g, a * 64 + b, none⟩ = some (.bool (adjB es a b)) := cell_old hb ((cell_blk HGG.out).trans (HCS.out a b (by assumption) (by assumption)))
        have hgz : g < wr.heap.size := by omega
        have HM : Hid (maskF (pairF es a b c d) 1 = maskF (pairF es a b c d) 0 + if adjB es a b then 1 else 0) := rfl
        have HO : Hid (bits BinOp.or IntKind.i64 (maskF (pairF es a b c d) 0 : Int) 1 = ((maskF (pairF es a b c d) 0 + 1 : Nat) : Int)) := or_bit0 _ hmk
        generalize maskF (pairF es a b c d) 0 = mk at *
        by_cases hbit : adjB es a b = true
        · have HM2 : Hid (maskF (pairF es a b c d) 1 = mk + 1) := by show _ = _; rw [HM.out, if_pos hbit]
          clear HM
          have ho := HO.out
          go_wp2_with fail
          go_quiet (fail)
          go_wp2_with fail
          go_roundw
          case rel => exact ⟨1, by omega, rfl, by rw [HM2.out] <;> go_num, (hb.alloc (by omega) _).drewN _⟩
          case measure => simp [intOf]
        · have hbit2 : adjB es a b = false := by simpa using hbit
          have HM2 : Hid (maskF (pairF es a b c d) 1 = mk) := by show _ = _; rw [HM.out, if_neg hbit, Nat.add_zero]
          clear HM HO hbit
          go_wp2_with fail
          go_quiet (fail)
          go_wp2_with fail
          go_roundw
          case rel => exact ⟨1, by omega, rfl, by rw [HM2.out] <;> go_num, (hb.alloc (by omega) _).drewN _⟩
          case measure => simp [intOf]
      · have ix := idx1
        have s0 := cell_new hb 0 _ rfl
        have s1 := cell_new hb 2 _ rfl
        have t0 : wr.cell? ⟨g, a * 64 + c, none⟩ = some (.bool (adjB es a c)) := cell_old hb ((cell_blk HGG.out).trans (HCS.out a c (by assumption) (by assumption)))
        have hgz : g < wr.heap.size := by omega
        have HM : Hid (maskF (pairF es a b c d) 2 = maskF (pairF es a b c d) 1 + if adjB es a c then 2 else 0) := rfl
        have HO : Hid (bits BinOp.or IntKind.i64 (maskF (pairF es a b c d) 1 : Int) 2 = ((maskF (pairF es a b c d) 1 + 2 : Nat) : Int)) := or_bit1 _ hmk
        generalize maskF (pairF es a b c d) 1 = mk at *
        by_cases hbit : adjB es a c = true
        · have HM2 : Hid (maskF (pairF es a b c d) 2 = mk + 2) := by show _ = _; rw [HM.out, if_pos hbit]
          clear HM
          have ho := HO.out
          go_wp2_with fail
          go_quiet (fail)
          go_wp2_with fail
          go_roundw
          case rel => exact ⟨2, by omega, rfl, by rw [HM2.out] <;> go_num, (hb.alloc (by omega) _).drewN _⟩
          case measure => simp [intOf]
        · have hbit2 : adjB es a c = false := by simpa using hbit
          have HM2 : Hid (maskF (pairF es a b c d) 2 = mk) := by show _ = _; rw [HM.out, if_neg hbit, Nat.add_zero]
          clear HM HO hbit
          go_wp2_with fail
          go_quiet (fail)
          go_wp2_with fail
          go_roundw
          case rel => exact ⟨2, by omega, rfl, by rw [HM2.out] <;> go_num, (hb.alloc (by omega) _).drewN _⟩
          case measure => simp [intOf]
      · have ix := idx2
        have s0 := cell_new hb 0 _ rfl
        have s1 := cell_new hb 3 _ rfl
        have t0 : wr.cell? ⟨g, a * 64 + d, none⟩ = some (.bool (adjB es a d)) := cell_old hb ((cell_blk HGG.out).trans (HCS.out a d (by assumption) (by assumption)))
        have hgz : g < wr.heap.size := by omega
        have HM : Hid (maskF (pairF es a b c d) 3 = maskF (pairF es a b c d) 2 + if adjB es a d then 4 else 0) := rfl
        have HO : Hid (bits BinOp.or IntKind.i64 (maskF (pairF es a b c d) 2 : Int) 4 = ((maskF (pairF es a b c d) 2 + 4 : Nat) : Int)) := or_bit2 _ hmk
        generalize maskF (pairF es a b c d) 2 = mk at *
        by_cases hbit : adjB es a d = true
        · have HM2 : Hid (maskF (pairF es a b c d) 3 = mk + 4) := by show _ = _; rw [HM.out, if_pos hbit]
          clear HM
          have ho := HO.out
          go_wp2_with fail
          go_quiet (fail)
          go_wp2_with fail
          go_roundw
          case rel => exact ⟨3, by omega, rfl, by rw [HM2.out] <;> go_num, (hb.alloc (by omega) _).drewN _⟩
          case measure => simp [intOf]
        · have hbit2 : adjB es a d = false := by simpa using hbit
          have HM2 : Hid (maskF (pairF es a b c d) 3 = mk) := by show _ = _; rw [HM.out, if_neg hbit, Nat.add_zero]
          clear HM HO hbit
          go_wp2_with fail
          go_quiet (fail)
          go_wp2_with fail
          go_roundw
          case rel => exact ⟨3, by omega, rfl, by rw [HM2.out] <;> go_num, (hb.alloc (by omega) _).drewN _⟩
          case measure => simp [intOf]
      · have ix := idx3
        have s0 := cell_new hb 1 _ rfl
        have s1 := cell_new hb 2 _ rfl
        have t0 : wr.cell? ⟨g, b * 64 + c, none⟩ = some (.bool (adjB es b c)) := cell_old hb ((cell_blk HGG.out).trans (HCS.out b c (by assumption) (by assumption)))
        have hgz : g < wr.heap.size := by omega
        have HM : Hid (maskF (pairF es a b c d) 4 = maskF (pairF es a b c d) 3 + if adjB es b c then 8 else 0) := rfl
        have HO : Hid (bits BinOp.or IntKind.i64 (maskF (pairF es a b c d) 3 : Int) 8 = ((maskF (pairF es a b c d) 3 + 8 : Nat) : Int)) := or_bit3 _ hmk
        generalize maskF (pairF es a b c d) 3 = mk at *
        by_cases hbit : adjB es b c = true
        · have HM2 : Hid (maskF (pairF es a b c d) 4 = mk + 8) := by show _ = _; rw [HM.out, if_pos hbit]
          clear HM
          have ho := HO.out
          go_wp2_with fail
          go_quiet (fail)
          go_wp2_with fail
          go_roundw
          case rel => exact ⟨4, by omega, rfl, by rw [HM2.out] <;> go_num, (hb.alloc (by omega) _).drewN _⟩
          case measure => simp [intOf]
        · have hbit2 : adjB es b c = false := by simpa using hbit
          have HM2 : Hid (maskF (pairF es a b c d) 4 = mk) := by show _ = _; rw [HM.out, if_neg hbit, Nat.add_zero]
          clear HM HO hbit
          go_wp2_with fail
          go_quiet (fail)
          go_wp2_with fail
          go_roundw
          case rel => exact ⟨4, by omega, rfl, by rw [HM2.out] <;> go_num, (hb.alloc (by omega) _).drewN _⟩
          case measure => simp [intOf]
      · have ix := idx4
        have s0 := cell_new hb 1 _ rfl
        have s1 := cell_new hb 3 _ rfl
        have t0 : wr.cell? ⟨g, b * 64 + d, none⟩ = some (.bool (adjB es b d)) := cell_old hb ((cell_blk HGG.out).trans (HCS.out b d (by assumption) (by assumption)))
        have hgz : g < wr.heap.size := by omega
        have HM : Hid (maskF (pairF es a b c d) 5 = maskF (pairF es a b c d) 4 + if adjB es b d then 16 else 0) := rfl
        have HO : Hid (bits BinOp.or IntKind.i64 (maskF (pairF es a b c d) 4 : Int) 16 = ((maskF (pairF es a b c d) 4 + 16 : Nat) : Int)) := or_bit4 _ hmk
        generalize maskF (pairF es a b c d) 4 = mk at *
        by_cases hbit : adjB es b d = true
        · have HM2 : Hid (maskF (pairF es a b c d) 5 = mk + 16) := by show _ = _; rw [HM.out, if_pos hbit]
          clear HM
          have ho := HO.out
          go_wp2_with fail
          go_quiet (fail)
          go_wp2_with fail
          go_roundw
          case rel => exact ⟨5, by omega, rfl, by rw [HM2.out] <;> go_num, (hb.alloc (by omega) _).drewN _⟩
          case measure => simp [intOf]
        · have hbit2 : adjB es b d = false := by simpa using hbit
          have HM2 : Hid (maskF (pairF es a b c d) 5 = mk) := by show _ = _; rw [HM.out, if_neg hbit, Nat.add_zero]
          clear HM HO hbit
          go_wp2_with fail
          go_quiet (fail)
          go_wp2_with fail
          go_roundw
          case rel => exact ⟨5, by omega, rfl, by rw [HM2.out] <;> go_num, (hb.alloc (by omega) _).drewN _⟩
          case measure => simp [intOf]
      · have ix := idx5
        have s0 := cell_new hb 2 _ rfl
        have s1 := cell_new hb 3 _ rfl
        have t0 : wr.cell? ⟨g, c * 64 + d, none⟩ = some (.bool (adjB es c d)) := cell_old hb ((cell_blk HGG.out).trans (HCS.out c d (by assumption) (by assumption)))
        have hgz : g < wr.heap.size := by omega
        have HM : Hid (maskF (pairF es a b c d) 6 = maskF (pairF es a b c d) 5 + if adjB es c d then 32 else 0) := rfl
        have HO : Hid (bits BinOp.or IntKind.i64 (maskF (pairF es a b c d) 5 : Int) 32 = ((maskF (pairF es a b c d) 5 + 32 : Nat) : Int)) := or_bit5 _ hmk
        generalize maskF (pairF es a b c d) 5 = mk at *
        by_cases hbit : adjB es c d = true
        · have HM2 : Hid (maskF (pairF es a b c d) 6 = mk + 32) := by show _ = _; rw [HM.out, if_pos hbit]
          clear HM
          have ho := HO.out
          go_wp2_with fail
          go_quiet (fail)
          go_wp2_with fail
          go_roundw
          case rel => exact ⟨6, by omega, rfl, by rw [HM2.out] <;> go_num, (hb.alloc (by omega) _).drewN _⟩
          case measure => simp [intOf]
        · have hbit2 : adjB es c d = false := by simpa using hbit
          have HM2 : Hid (maskF (pairF es a b c d) 6 = mk) := by show _ = _; rw [HM.out, if_neg hbit, Nat.add_zero]
          clear HM HO hbit
          go_wp2_with fail
          go_quiet (fail)
          go_wp2_with fail
          go_roundw
          case rel => exact ⟨6, by omega, rfl, by rw [HM2.out] <;> go_num, (hb.alloc (by omega) _).drewN _⟩
          case measure => simp [intOf]
    · obtain rfl : k = 6 := by omega
      have ht6 := ht.below hfin
      go_wp2_with (go_at_call 75; refine (kind_any _ _ ht6).mono ?_; rintro e w' ⟨rfl, hb'⟩)
      go_ret
      exact ⟨rfl, hfin.trans (hb'.mono hfin.size)⟩
end Go.Proofs.YtekbpoppajbljaaDoor
