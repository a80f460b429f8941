/- The contract of the program's kind of a graph of four nodes. -/
import Derived.Test.YtekbpoppajbljaaDoorPatJoined
namespace Go.Proofs.YtekbpoppajbljaaDoor
open Go.RowKit Go.BigFrame

def endsL : List Int := [0, 1, 0, 2, 0, 3, 1, 2, 1, 3, 2, 3]
def cubesL : List Int := [0, 2, 10, 4, 24, 30, 18, 44, 32, 70, 108]
def examplesL : List Int := [0, 1, 3, 33, 11, 7, 41, 15, 45, 61, 63]
/-- the program's tables -/
def TabsAt (w : World) : Prop :=
  (∀ i x, endsL[i]? = some x → w.cell? ⟨1, i, none⟩ = some (.int .i64 x)) ∧
  (∀ i x, cubesL[i]? = some x → w.cell? ⟨2, i, none⟩ = some (.int .i64 x)) ∧
  (∀ i x, examplesL[i]? = some x → w.cell? ⟨0, i, none⟩ = some (.int .i64 x))
theorem TabsAt.below {w w' : World} (h : TabsAt w) (hb : Below w.heap.size w w') : TabsAt w' :=
  ⟨fun i x hx => (hb.cell (p := ⟨_, i, none⟩) (cell_lt (h.1 i x hx))).trans (h.1 i x hx), fun i x hx => (hb.cell (p := ⟨_, i, none⟩) (cell_lt (h.2.1 i x hx))).trans (h.2.1 i x hx), fun i x hx => (hb.cell (p := ⟨_, i, none⟩) (cell_lt (h.2.2 i x hx))).trans (h.2.2 i x hx)⟩

def idxFrom : Nat → List Int → Int → Int
  | _, [], _ => -1
  | k, x :: l, v => if v = x then k else idxFrom (k + 1) l v

set_option maxRecDepth 100000 in
theorem index_any (a : Option Addr) (cap : Nat) (xs : List Int) (x : Int) (w : World) (hi : IntsAt w (.slice a xs.length cap) xs) :
    Calls Tryd.prog 82 #[.slice a xs.length cap, .int .i64 x] w fun e w' => e = .returned (.int .i64 (idxFrom 0 xs x)) ∧ w = w' := by
  have hl : xs.length ≤ 70368744177664 := by obtain ⟨_, _, hv, _, _, hl, _⟩ := hi; exact hl
  go_enter Tryd.func82, Tryd.ntmps82
  go_wp2
  go_loop [8] (fun i => ∃ k : Nat, k ≤ xs.length ∧ i = .int .i64 k ∧ Hid (idxFrom 0 xs x = idxFrom k (xs.drop k) x)) (fun i => xs.length - (intOf i).toNat)
  case atStart => exact ⟨0, Nat.zero_le _, rfl, rfl⟩
  case round =>
    obtain ⟨k, hk, rfl, HR⟩ := hrel
    by_cases hlt : k < xs.length
    · obtain ⟨b, off, y, rfl, _, hd, _, c0⟩ := hi.at k hlt
      have HD := Lib.hid hd
      clear hd
      by_cases he : x = y
      · have HT : Hid (idxFrom 0 xs x = k) := by show _ = _; rw [HR.out, HD.out, idxFrom, if_pos he]
        subst he
        go_wp2
        go_ret
        exact ⟨ret_int HT.out.symm, rfl⟩
      · have he2 : (x == y) = false := by simpa using he
        have HT : Hid (idxFrom 0 xs x = idxFrom (k + 1) (xs.drop (k + 1)) x) := by show _ = _; rw [HR.out, HD.out, idxFrom, if_neg he]
        go_wp2
        go_round
        case rel => exact ⟨k + 1, by omega, by go_num, HT⟩
        case measure => simp [intOf]; omega
    · have HT : Hid (idxFrom 0 xs x = -1) := by show _ = _; rw [HR.out, List.drop_of_length_le (by omega)]; rfl
      go_wp2
      go_ret
      exact ⟨ret_int HT.out.symm, rfl⟩

/-- the bit of pair i -/
def bitS (m i : Nat) : Bool := bits BinOp.and IntKind.i64 ((m : Int) / ((2 ^ i : Nat) : Int)) 1 == 1
/-- the degree of node j in the first k pairs -/
def degS (m : Nat) : Nat → Nat → Int
  | 0, _ => 0
  | k + 1, j => degS m k j + if bitS m k && (endsL.getD (2 * k) 9 == (j : Int) || endsL.getD (2 * k + 1) 9 == (j : Int)) then 1 else 0
theorem degS_bd (m : Nat) : ∀ k j, 0 ≤ degS m k j ∧ degS m k j ≤ k := by
  intro k
  induction k with
  | zero => intro j; simp [degS]
  | succ k ih => intro j; have := ih j; unfold degS; split <;> omega
def cubeS (m : Nat) : Int := degS m 6 0 * degS m 6 0 * degS m 6 0 + degS m 6 1 * degS m 6 1 * degS m 6 1 + degS m 6 2 * degS m 6 2 * degS m 6 2 + degS m 6 3 * degS m 6 3 * degS m 6 3
def kindS (m : Nat) : Int := idxFrom 0 cubesL (cubeS m)

theorem idx0 : ∀ w, (Instr.index 108 (.agg #[.int .i64 0, .int .i64 1, .int .i64 0, .int .i64 2, .int .i64 0, .int .i64 3, .int .i64 1, .int .i64 2, .int .i64 1, .int .i64 3, .int .i64 2, .int .i64 3]) (.int .i64 0)).run Tryd.prog w = .ok (.agg #[.int .i64 0, .int .i64 1]) w := fun _ => by kernel_rfl
theorem idx1 : ∀ w, (Instr.index 108 (.agg #[.int .i64 0, .int .i64 1, .int .i64 0, .int .i64 2, .int .i64 0, .int .i64 3, .int .i64 1, .int .i64 2, .int .i64 1, .int .i64 3, .int .i64 2, .int .i64 3]) (.int .i64 1)).run Tryd.prog w = .ok (.agg #[.int .i64 0, .int .i64 2]) w := fun _ => by kernel_rfl
theorem idx2 : ∀ w, (Instr.index 108 (.agg #[.int .i64 0, .int .i64 1, .int .i64 0, .int .i64 2, .int .i64 0, .int .i64 3, .int .i64 1, .int .i64 2, .int .i64 1, .int .i64 3, .int .i64 2, .int .i64 3]) (.int .i64 2)).run Tryd.prog w = .ok (.agg #[.int .i64 0, .int .i64 3]) w := fun _ => by kernel_rfl
theorem idx3 : ∀ w, (Instr.index 108 (.agg #[.int .i64 0, .int .i64 1, .int .i64 0, .int .i64 2, .int .i64 0, .int .i64 3, .int .i64 1, .int .i64 2, .int .i64 1, .int .i64 3, .int .i64 2, .int .i64 3]) (.int .i64 3)).run Tryd.prog w = .ok (.agg #[.int .i64 1, .int .i64 2]) w := fun _ => by kernel_rfl
theorem idx4 : ∀ w, (Instr.index 108 (.agg #[.int .i64 0, .int .i64 1, .int .i64 0, .int .i64 2, .int .i64 0, .int .i64 3, .int .i64 1, .int .i64 2, .int .i64 1, .int .i64 3, .int .i64 2, .int .i64 3]) (.int .i64 4)).run Tryd.prog w = .ok (.agg #[.int .i64 1, .int .i64 3]) w := fun _ => by kernel_rfl
theorem idx5 : ∀ w, (Instr.index 108 (.agg #[.int .i64 0, .int .i64 1, .int .i64 0, .int .i64 2, .int .i64 0, .int .i64 3, .int .i64 1, .int .i64 2, .int .i64 1, .int .i64 3, .int .i64 2, .int .i64 3]) (.int .i64 5)).run Tryd.prog w = .ok (.agg #[.int .i64 2, .int .i64 3]) w := fun _ => by kernel_rfl
theorem iy0 (a b c d : Int) : ∀ w, (Instr.index 74 (.agg #[.int .i64 a, .int .i64 b, .int .i64 c, .int .i64 d]) (.int .i64 0)).run Tryd.prog w = .ok (.int .i64 a) w := fun _ => by kernel_rfl
theorem iy1 (a b c d : Int) : ∀ w, (Instr.index 74 (.agg #[.int .i64 a, .int .i64 b, .int .i64 c, .int .i64 d]) (.int .i64 1)).run Tryd.prog w = .ok (.int .i64 b) w := fun _ => by kernel_rfl
theorem iy2 (a b c d : Int) : ∀ w, (Instr.index 74 (.agg #[.int .i64 a, .int .i64 b, .int .i64 c, .int .i64 d]) (.int .i64 2)).run Tryd.prog w = .ok (.int .i64 c) w := fun _ => by kernel_rfl
theorem iy3 (a b c d : Int) : ∀ w, (Instr.index 74 (.agg #[.int .i64 a, .int .i64 b, .int .i64 c, .int .i64 d]) (.int .i64 3)).run Tryd.prog w = .ok (.int .i64 d) w := fun _ => by kernel_rfl
theorem cube_bd (d : Int) (h0 : 0 ≤ d) (h6 : d ≤ (6 : Nat)) : 0 ≤ d * d ∧ d * d ≤ 36 ∧ 0 ≤ d * d * d ∧ d * d * d ≤ 216 := by
  rcases (by omega : d = 0 ∨ d = 1 ∨ d = 2 ∨ d = 3 ∨ d = 4 ∨ d = 5 ∨ d = 6) with rfl | rfl | rfl | rfl | rfl | rfl | rfl <;> decide
def partS (a b c d : Int) : Nat → Int
  | 0 => 0
  | 1 => a * a * a
  | 2 => a * a * a + b * b * b
  | 3 => a * a * a + b * b * b + c * c * c
  | _ => a * a * a + b * b * b + c * c * c + d * d * d

set_option maxRecDepth 100000 in
set_option maxHeartbeats 1600000 in
theorem kind_any (m : Nat) (w : World) (ht : TabsAt w) :
    Calls Tryd.prog 75 #[.int .i64 m] w fun e w' => e = .returned (.int .i64 (kindS m)) ∧ Below w.heap.size w w' := by
  have q0 := ht.1 0 _ rfl
  have q1 := ht.1 1 _ rfl
  have q2 := ht.1 2 _ rfl
  have q3 := ht.1 3 _ rfl
  have q4 := ht.1 4 _ rfl
  have q5 := ht.1 5 _ rfl
  have q6 := ht.1 6 _ rfl
  have q7 := ht.1 7 _ rfl
  have q8 := ht.1 8 _ rfl
  have q9 := ht.1 9 _ rfl
  have q10 := ht.1 10 _ rfl
  have q11 := ht.1 11 _ rfl
  have hgs : 1 < w.heap.size := cell_lt q0
  go_enter Tryd.func75, Tryd.ntmps75
  go_wp2_with fail
  go_loopw [10] (fun i wr => ∃ k : Nat, k ≤ 6 ∧ i = .int .i64 k ∧ Below w.heap.size w wr ∧ wr.heap[w.heap.size]? = some (.cells #[.int .i64 (degS m k 0), .int .i64 (degS m k 1), .int .i64 (degS m k 2), .int .i64 (degS m k 3)] 74 (0, 0))) (fun i _ => 6 - (intOf i).toNat)
  case atStart => exact ⟨0, by omega, rfl, (Below.refl _ _).alloc (Nat.le_refl _) _, heap_alloc_new _ _⟩
  case round =>
    obtain ⟨k, hk, rfl, hb, hg⟩ := hrel
    have hz := blk_lt hg
    have d0 := degS_bd m k 0
    have d1 := degS_bd m k 1
    have d2 := degS_bd m k 2
    have d3 := degS_bd m k 3
    by_cases hlt : k < 6
    · rcases (by omega : k = 0 ∨ k = 1 ∨ k = 2 ∨ k = 3 ∨ k = 4 ∨ k = 5) with rfl | rfl | rfl | rfl | rfl | rfl
      · have ix := idx0
        have c0 : wr.cell? ⟨w.heap.size, 0, none⟩ = some (.int .i64 (degS m 0 0)) := cell_blk hg
        have c1 : wr.cell? ⟨w.heap.size, 1, none⟩ = some (.int .i64 (degS m 0 1)) := cell_blk hg
        have f0 : wr.frozen? ⟨w.heap.size, 0, none⟩ = false := free_blk hg
        have f1 : wr.frozen? ⟨w.heap.size, 1, none⟩ = false := free_blk hg
        have HG := Lib.hid hg
        clear hg
        by_cases hbit : bitS m 0 = true
        · have hb2 : (bits BinOp.and IntKind.i64 (m : Int) 1 == 1) = true := by simpa [bitS] using hbit
          have e0 : degS m 1 0 = degS m 0 0 + 1 := by simp [degS, hbit, endsL]
          have e1 : degS m 1 1 = degS m 0 1 + 1 := by simp [degS, hbit, endsL]
          have e2 : degS m 1 2 = degS m 0 2 := by simp [degS, hbit, endsL]
          have e3 : degS m 1 3 = degS m 0 3 := by simp [degS, hbit, endsL]
          have E0 := Lib.hid e0
          have E1 := Lib.hid e1
          have E2 := Lib.hid e2
          have E3 := Lib.hid e3
          clear e0 e1 e2 e3 hbit
          go_wp2_with fail
          go_roundw
          case rel =>
            refine ⟨1, by omega, rfl, ?_, ?_⟩
            · have h2 := (hb.setCell (p := ⟨w.heap.size, 0, none⟩) (Nat.le_refl _) (.int .i64 (degS m 0 0 + 1))).setCell (p := ⟨w.heap.size, 1, none⟩) (Nat.le_refl _) (.int .i64 (degS m 0 1 + 1))
              exact h2.alloc h2.size _
            · have g1 := heap_setCell_same _ _ 1 _ _ (.int .i64 (degS m 0 1 + 1)) (heap_setCell_same wr _ 0 _ _ (.int .i64 (degS m 0 0 + 1)) HG.out)
              rw [E0.out, E1.out, E2.out, E3.out]
              exact (Below.heap_alloc _ _ _ (blk_lt g1)).trans g1
          case measure => simp [intOf]
        · have hb2 : (bits BinOp.and IntKind.i64 (m : Int) 1 == 1) = false := by simpa [bitS] using hbit
          have e0 : degS m 1 0 = degS m 0 0 := by simp [degS, hbit]
          have e1 : degS m 1 1 = degS m 0 1 := by simp [degS, hbit]
          have e2 : degS m 1 2 = degS m 0 2 := by simp [degS, hbit]
          have e3 : degS m 1 3 = degS m 0 3 := by simp [degS, hbit]
          have E0 := Lib.hid e0
          have E1 := Lib.hid e1
          have E2 := Lib.hid e2
          have E3 := Lib.hid e3
          clear e0 e1 e2 e3 hbit
          go_wp2_with fail
          go_roundw
          case rel =>
            refine ⟨1, by omega, rfl, hb.alloc hb.size _, ?_⟩
            rw [E0.out, E1.out, E2.out, E3.out]
            exact (Below.heap_alloc _ _ _ hz).trans HG.out
          case measure => simp [intOf]
      · have ix := idx1
        have c0 : wr.cell? ⟨w.heap.size, 0, none⟩ = some (.int .i64 (degS m 1 0)) := cell_blk hg
        have c2 : wr.cell? ⟨w.heap.size, 2, none⟩ = some (.int .i64 (degS m 1 2)) := cell_blk hg
        have f0 : wr.frozen? ⟨w.heap.size, 0, none⟩ = false := free_blk hg
        have f2 : wr.frozen? ⟨w.heap.size, 2, none⟩ = false := free_blk hg
        have HG := Lib.hid hg
        clear hg
        by_cases hbit : bitS m 1 = true
        · have hb2 : (bits BinOp.and IntKind.i64 ((m : Int) / 2) 1 == 1) = true := by simpa [bitS] using hbit
          have e0 : degS m 2 0 = degS m 1 0 + 1 := by simp [degS, hbit, endsL]
          have e1 : degS m 2 1 = degS m 1 1 := by simp [degS, hbit, endsL]
          have e2 : degS m 2 2 = degS m 1 2 + 1 := by simp [degS, hbit, endsL]
          have e3 : degS m 2 3 = degS m 1 3 := by simp [degS, hbit, endsL]
          have E0 := Lib.hid e0
          have E1 := Lib.hid e1
          have E2 := Lib.hid e2
          have E3 := Lib.hid e3
          clear e0 e1 e2 e3 hbit
          go_wp2_with fail
          go_roundw
          case rel =>
            refine ⟨2, by omega, rfl, ?_, ?_⟩
            · have h2 := (hb.setCell (p := ⟨w.heap.size, 0, none⟩) (Nat.le_refl _) (.int .i64 (degS m 1 0 + 1))).setCell (p := ⟨w.heap.size, 2, none⟩) (Nat.le_refl _) (.int .i64 (degS m 1 2 + 1))
              exact h2.alloc h2.size _
            · have g1 := heap_setCell_same _ _ 2 _ _ (.int .i64 (degS m 1 2 + 1)) (heap_setCell_same wr _ 0 _ _ (.int .i64 (degS m 1 0 + 1)) HG.out)
              rw [E0.out, E1.out, E2.out, E3.out]
              exact (Below.heap_alloc _ _ _ (blk_lt g1)).trans g1
          case measure => simp [intOf]
        · have hb2 : (bits BinOp.and IntKind.i64 ((m : Int) / 2) 1 == 1) = false := by simpa [bitS] using hbit
          have e0 : degS m 2 0 = degS m 1 0 := by simp [degS, hbit]
          have e1 : degS m 2 1 = degS m 1 1 := by simp [degS, hbit]
          have e2 : degS m 2 2 = degS m 1 2 := by simp [degS, hbit]
          have e3 : degS m 2 3 = degS m 1 3 := by simp [degS, hbit]
          have E0 := Lib.hid e0
          have E1 := Lib.hid e1
          have E2 := Lib.hid e2
          have E3 := Lib.hid e3
          clear e0 e1 e2 e3 hbit
          go_wp2_with fail
          go_roundw
          case rel =>
            refine ⟨2, by omega, rfl, hb.alloc hb.size _, ?_⟩
            rw [E0.out, E1.out, E2.out, E3.out]
            exact (Below.heap_alloc _ _ _ hz).trans HG.out
          case measure => simp [intOf]
      · have ix := idx2
        have c0 : wr.cell? ⟨w.heap.size, 0, none⟩ = some (.int .i64 (degS m 2 0)) := cell_blk hg
        have c3 : wr.cell? ⟨w.heap.size, 3, none⟩ = some (.int .i64 (degS m 2 3)) := cell_blk hg
        have f0 : wr.frozen? ⟨w.heap.size, 0, none⟩ = false := free_blk hg
        have f3 : wr.frozen? ⟨w.heap.size, 3, none⟩ = false := free_blk hg
        have HG := Lib.hid hg
        clear hg
        by_cases hbit : bitS m 2 = true
        · have hb2 : (bits BinOp.and IntKind.i64 ((m : Int) / 4) 1 == 1) = true := by simpa [bitS] using hbit
          have e0 : degS m 3 0 = degS m 2 0 + 1 := by simp [degS, hbit, endsL]
          have e1 : degS m 3 1 = degS m 2 1 := by simp [degS, hbit, endsL]
          have e2 : degS m 3 2 = degS m 2 2 := by simp [degS, hbit, endsL]
          have e3 : degS m 3 3 = degS m 2 3 + 1 := by simp [degS, hbit, endsL]
          have E0 := Lib.hid e0
          have E1 := Lib.hid e1
          have E2 := Lib.hid e2
          have E3 := Lib.hid e3
          clear e0 e1 e2 e3 hbit
          go_wp2_with fail
          go_roundw
          case rel =>
            refine ⟨3, by omega, rfl, ?_, ?_⟩
            · have h2 := (hb.setCell (p := ⟨w.heap.size, 0, none⟩) (Nat.le_refl _) (.int .i64 (degS m 2 0 + 1))).setCell (p := ⟨w.heap.size, 3, none⟩) (Nat.le_refl _) (.int .i64 (degS m 2 3 + 1))
              exact h2.alloc h2.size _
            · have g1 := heap_setCell_same _ _ 3 _ _ (.int .i64 (degS m 2 3 + 1)) (heap_setCell_same wr _ 0 _ _ (.int .i64 (degS m 2 0 + 1)) HG.out)
              rw [E0.out, E1.out, E2.out, E3.out]
              exact (Below.heap_alloc _ _ _ (blk_lt g1)).trans g1
          case measure => simp [intOf]
        · have hb2 : (bits BinOp.and IntKind.i64 ((m : Int) / 4) 1 == 1) = false := by simpa [bitS] using hbit
          have e0 : degS m 3 0 = degS m 2 0 := by simp [degS, hbit]
          have e1 : degS m 3 1 = degS m 2 1 := by simp [degS, hbit]
          have e2 : degS m 3 2 = degS m 2 2 := by simp [degS, hbit]
          have e3 : degS m 3 3 = degS m 2 3 := by simp [degS, hbit]
          have E0 := Lib.hid e0
          have E1 := Lib.hid e1
          have E2 := Lib.hid e2
          have E3 := Lib.hid e3
          clear e0 e1 e2 e3 hbit
          go_wp2_with fail
          go_roundw
          case rel =>
            refine ⟨3, by omega, rfl, hb.alloc hb.size _, ?_⟩
            rw [E0.out, E1.out, E2.out, E3.out]
            exact (Below.heap_alloc _ _ _ hz).trans HG.out
          case measure => simp [intOf]
      · have ix := idx3
        have c1 : wr.cell? ⟨w.heap.size, 1, none⟩ = some (.int .i64 (degS m 3 1)) := cell_blk hg
        have c2 : wr.cell? ⟨w.heap.size, 2, none⟩ = some (.int .i64 (degS m 3 2)) := cell_blk hg
        have f1 : wr.frozen? ⟨w.heap.size, 1, none⟩ = false := free_blk hg
        have f2 : wr.frozen? ⟨w.heap.size, 2, none⟩ = false := free_blk hg
        have HG := Lib.hid hg
        clear hg
        by_cases hbit : bitS m 3 = true
        · have hb2 : (bits BinOp.and IntKind.i64 ((m : Int) / 8) 1 == 1) = true := by simpa [bitS] using hbit
          have e0 : degS m 4 0 = degS m 3 0 := by simp [degS, hbit, endsL]
          have e1 : degS m 4 1 = degS m 3 1 + 1 := by simp [degS, hbit, endsL]
          have e2 : degS m 4 2 = degS m 3 2 + 1 := by simp [degS, hbit, endsL]
          have e3 : degS m 4 3 = degS m 3 3 := by simp [degS, hbit, endsL]
          have E0 := Lib.hid e0
          have E1 := Lib.hid e1
          have E2 := Lib.hid e2
          have E3 := Lib.hid e3
          clear e0 e1 e2 e3 hbit
          go_wp2_with fail
          go_roundw
          case rel =>
            refine ⟨4, by omega, rfl, ?_, ?_⟩
            · have h2 := (hb.setCell (p := ⟨w.heap.size, 1, none⟩) (Nat.le_refl _) (.int .i64 (degS m 3 1 + 1))).setCell (p := ⟨w.heap.size, 2, none⟩) (Nat.le_refl _) (.int .i64 (degS m 3 2 + 1))
              exact h2.alloc h2.size _
            · have g1 := heap_setCell_same _ _ 2 _ _ (.int .i64 (degS m 3 2 + 1)) (heap_setCell_same wr _ 1 _ _ (.int .i64 (degS m 3 1 + 1)) HG.out)
              rw [E0.out, E1.out, E2.out, E3.out]
              exact (Below.heap_alloc _ _ _ (blk_lt g1)).trans g1
          case measure => simp [intOf]
        · have hb2 : (bits BinOp.and IntKind.i64 ((m : Int) / 8) 1 == 1) = false := by simpa [bitS] using hbit
          have e0 : degS m 4 0 = degS m 3 0 := by simp [degS, hbit]
          have e1 : degS m 4 1 = degS m 3 1 := by simp [degS, hbit]
          have e2 : degS m 4 2 = degS m 3 2 := by simp [degS, hbit]
          have e3 : degS m 4 3 = degS m 3 3 := by simp [degS, hbit]
          have E0 := Lib.hid e0
          have E1 := Lib.hid e1
          have E2 := Lib.hid e2
          have E3 := Lib.hid e3
          clear e0 e1 e2 e3 hbit
          go_wp2_with fail
          go_roundw
          case rel =>
            refine ⟨4, by omega, rfl, hb.alloc hb.size _, ?_⟩
            rw [E0.out, E1.out, E2.out, E3.out]
            exact (Below.heap_alloc _ _ _ hz).trans HG.out
          case measure => simp [intOf]
      · have ix := idx4
        have c1 : wr.cell? ⟨w.heap.size, 1, none⟩ = some (.int .i64 (degS m 4 1)) := cell_blk hg
        have c3 : wr.cell? ⟨w.heap.size, 3, none⟩ = some (.int .i64 (degS m 4 3)) := cell_blk hg
        have f1 : wr.frozen? ⟨w.heap.size, 1, none⟩ = false := free_blk hg
        have f3 : wr.frozen? ⟨w.heap.size, 3, none⟩ = false := free_blk hg
        have HG := Lib.hid hg
        clear hg
        by_cases hbit : bitS m 4 = true
        · have hb2 : (bits BinOp.and IntKind.i64 ((m : Int) / 16) 1 == 1) = true := by simpa [bitS] using hbit
          have e0 : degS m 5 0 = degS m 4 0 := by simp [degS, hbit, endsL]
          have e1 : degS m 5 1 = degS m 4 1 + 1 := by simp [degS, hbit, endsL]
          have e2 : degS m 5 2 = degS m 4 2 := by simp [degS, hbit, endsL]
          have e3 : degS m 5 3 = degS m 4 3 + 1 := by simp [degS, hbit, endsL]
          have E0 := Lib.hid e0
          have E1 := Lib.hid e1
          have E2 := Lib.hid e2
          have E3 := Lib.hid e3
          clear e0 e1 e2 e3 hbit
          go_wp2_with fail
          go_roundw
          case rel =>
            refine ⟨5, by omega, rfl, ?_, ?_⟩
            · have h2 := (hb.setCell (p := ⟨w.heap.size, 1, none⟩) (Nat.le_refl _) (.int .i64 (degS m 4 1 + 1))).setCell (p := ⟨w.heap.size, 3, none⟩) (Nat.le_refl _) (.int .i64 (degS m 4 3 + 1))
              exact h2.alloc h2.size _
            · have g1 := heap_setCell_same _ _ 3 _ _ (.int .i64 (degS m 4 3 + 1)) (heap_setCell_same wr _ 1 _ _ (.int .i64 (degS m 4 1 + 1)) HG.out)
              rw [E0.out, E1.out, E2.out, E3.out]
              exact (Below.heap_alloc _ _ _ (blk_lt g1)).trans g1
          case measure => simp [intOf]
        · have hb2 : (bits BinOp.and IntKind.i64 ((m : Int) / 16) 1 == 1) = false := by simpa [bitS] using hbit
          have e0 : degS m 5 0 = degS m 4 0 := by simp [degS, hbit]
          have e1 : degS m 5 1 = degS m 4 1 := by simp [degS, hbit]
          have e2 : degS m 5 2 = degS m 4 2 := by simp [degS, hbit]
          have e3 : degS m 5 3 = degS m 4 3 := by simp [degS, hbit]
          have E0 := Lib.hid e0
          have E1 := Lib.hid e1
          have E2 := Lib.hid e2
          have E3 := Lib.hid e3
          clear e0 e1 e2 e3 hbit
          go_wp2_with fail
          go_roundw
          case rel =>
            refine ⟨5, by omega, rfl, hb.alloc hb.size _, ?_⟩
            rw [E0.out, E1.out, E2.out, E3.out]
            exact (Below.heap_alloc _ _ _ hz).trans HG.out
          case measure => simp [intOf]
      · have ix := idx5
        have c2 : wr.cell? ⟨w.heap.size, 2, none⟩ = some (.int .i64 (degS m 5 2)) := cell_blk hg
        have c3 : wr.cell? ⟨w.heap.size, 3, none⟩ = some (.int .i64 (degS m 5 3)) := cell_blk hg
        have f2 : wr.frozen? ⟨w.heap.size, 2, none⟩ = false := free_blk hg
        have f3 : wr.frozen? ⟨w.heap.size, 3, none⟩ = false := free_blk hg
        have HG := Lib.hid hg
        clear hg
        by_cases hbit : bitS m 5 = true
        · have hb2 : (bits BinOp.and IntKind.i64 ((m : Int) / 32) 1 == 1) = true := by simpa [bitS] using hbit
          have e0 : degS m 6 0 = degS m 5 0 := by simp [degS, hbit, endsL]
          have e1 : degS m 6 1 = degS m 5 1 := by simp [degS, hbit, endsL]
          have e2 : degS m 6 2 = degS m 5 2 + 1 := by simp [degS, hbit, endsL]
          have e3 : degS m 6 3 = degS m 5 3 + 1 := by simp [degS, hbit, endsL]
          have E0 := Lib.hid e0
          have E1 := Lib.hid e1
          have E2 := Lib.hid e2
          have E3 := Lib.hid e3
          clear e0 e1 e2 e3 hbit
          go_wp2_with fail
          go_roundw
          case rel =>
            refine ⟨6, by omega, rfl, ?_, ?_⟩
            · have h2 := (hb.setCell (p := ⟨w.heap.size, 2, none⟩) (Nat.le_refl _) (.int .i64 (degS m 5 2 + 1))).setCell (p := ⟨w.heap.size, 3, none⟩) (Nat.le_refl _) (.int .i64 (degS m 5 3 + 1))
              exact h2.alloc h2.size _
            · have g1 := heap_setCell_same _ _ 3 _ _ (.int .i64 (degS m 5 3 + 1)) (heap_setCell_same wr _ 2 _ _ (.int .i64 (degS m 5 2 + 1)) HG.out)
              rw [E0.out, E1.out, E2.out, E3.out]
              exact (Below.heap_alloc _ _ _ (blk_lt g1)).trans g1
          case measure => simp [intOf]
        · have hb2 : (bits BinOp.and IntKind.i64 ((m : Int) / 32) 1 == 1) = false := by simpa [bitS] using hbit
          have e0 : degS m 6 0 = degS m 5 0 := by simp [degS, hbit]
          have e1 : degS m 6 1 = degS m 5 1 := by simp [degS, hbit]
          have e2 : degS m 6 2 = degS m 5 2 := by simp [degS, hbit]
          have e3 : degS m 6 3 = degS m 5 3 := by simp [degS, hbit]
          have E0 := Lib.hid e0
          have E1 := Lib.hid e1
          have E2 := Lib.hid e2
          have E3 := Lib.hid e3
          clear e0 e1 e2 e3 hbit
          go_wp2_with fail
          go_roundw
          case rel =>
            refine ⟨6, by omega, rfl, hb.alloc hb.size _, ?_⟩
            rw [E0.out, E1.out, E2.out, E3.out]
            exact (Below.heap_alloc _ _ _ hz).trans HG.out
          case measure => simp [intOf]
    · obtain rfl : k = 6 := by omega
      have c0 : wr.cell? ⟨w.heap.size, 0, none⟩ = some (.int .i64 (degS m 6 0)) := cell_blk hg
      have c1 : wr.cell? ⟨w.heap.size, 1, none⟩ = some (.int .i64 (degS m 6 1)) := cell_blk hg
      have c2 : wr.cell? ⟨w.heap.size, 2, none⟩ = some (.int .i64 (degS m 6 2)) := cell_blk hg
      have c3 : wr.cell? ⟨w.heap.size, 3, none⟩ = some (.int .i64 (degS m 6 3)) := cell_blk hg
      have B0 := cube_bd _ d0.1 d0.2
      have B1 := cube_bd _ d1.1 d1.2
      have B2 := cube_bd _ d2.1 d2.2
      have B3 := cube_bd _ d3.1 d3.2
      have HK : Hid (kindS m = idxFrom 0 cubesL (degS m 6 0 * degS m 6 0 * degS m 6 0 + degS m 6 1 * degS m 6 1 * degS m 6 1 + degS m 6 2 * degS m 6 2 * degS m 6 2 + degS m 6 3 * degS m 6 3 * degS m 6 3)) := rfl
      clear hg hlt d0 d1 d2 d3
      generalize degS m 6 0 = x0 at *
      generalize degS m 6 1 = x1 at *
      generalize degS m 6 2 = x2 at *
      generalize degS m 6 3 = x3 at *
      obtain ⟨a0, a1, a2, a3⟩ := B0
      obtain ⟨b0, b1, b2, b3⟩ := B1
      obtain ⟨e0, e1, e2, e3⟩ := B2
      obtain ⟨g0, g1, g2, g3⟩ := B3
      go_wp2_with fail
      go_loop [6, 33] (fun s i => ∃ k : Nat, k ≤ 4 ∧ i = .int .i64 k ∧ s = .int .i64 (partS x0 x1 x2 x3 k)) (fun _ i => 4 - (intOf i).toNat)
      case atStart => exact ⟨0, by omega, rfl, rfl⟩
      case round =>
        obtain ⟨k, hk, rfl, rfl⟩ := hrel
        have hsh : IntsAt wr (.slice (some ⟨2, 0, none⟩) 11 11) cubesL := ⟨_, 11, rfl, by decide, (fun h => by cases h), by decide, fun i x hx => ⟨_, 0, rfl, by rw [Nat.zero_add]; exact (ht.below hb).2.1 i x hx⟩⟩
        by_cases hlt : k < 4
        · rcases (by omega : k = 0 ∨ k = 1 ∨ k = 2 ∨ k = 3) with rfl | rfl | rfl | rfl
          · have ix := iy0 x0 x1 x2 x3
            simp only [partS] at *
            go_wp2_with fail
            go_round
            case rel => exact ⟨1, by omega, rfl, rfl⟩
            case measure => simp [intOf]
          · have ix := iy1 x0 x1 x2 x3
            simp only [partS] at *
            go_wp2_with fail
            go_round
            case rel => exact ⟨2, by omega, rfl, rfl⟩
            case measure => simp [intOf]
          · have ix := iy2 x0 x1 x2 x3
            simp only [partS] at *
            go_wp2_with fail
            go_round
            case rel => exact ⟨3, by omega, rfl, rfl⟩
            case measure => simp [intOf]
          · have ix := iy3 x0 x1 x2 x3
            simp only [partS] at *
            go_wp2_with fail
            go_round
            case rel => exact ⟨4, by omega, rfl, rfl⟩
            case measure => simp [intOf]
        · obtain rfl : k = 4 := by omega
          simp only [partS] at *
          go_wp2_with (go_at_call 82; refine (index_any _ _ cubesL _ _ hsh).mono ?_; rintro e w' ⟨rfl, rfl⟩)
          go_ret
          exact ⟨ret_int HK.out.symm, hb⟩
end Go.Proofs.YtekbpoppajbljaaDoor
