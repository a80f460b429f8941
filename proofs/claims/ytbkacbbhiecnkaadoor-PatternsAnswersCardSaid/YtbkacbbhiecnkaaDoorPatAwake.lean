/- The contract of the laws' own example. -/
import Derived.Test.YtbkacbbhiecnkaaDoorPatKindOf
namespace Go.Proofs.YtbkacbbhiecnkaaDoor
open Go.RowKit Go.BigFrame

def k4 : List E2 := [(0, 1), (0, 2), (0, 3), (1, 2), (1, 3), (2, 3)]
theorem k4_valid : Valid 4 k4 := (valid_iff 4 k4).1 (by decide)
theorem k4_cop : (copS (indS k4 4))[4]? = some 4 ∧ (copS (indS k4 4))[6]? = some 12 ∧ (copS (indS k4 4))[8]? = some 3 := by decide +kernel
theorem k4_kind : ofKS k4 0 1 2 3 = 10 := by decide +kernel
theorem copS_length (l : List Int) : (copS l).length = 11 := copV_length l 11 0

theorem edges_blk {w : World} {g T : Nat} {es : List E2} {f : Nat × Nat} (h : w.heap[g]? = some (.cells (flatE es).toArray T f)) (hl : es.length ≤ 1000000) (cap : Nat) (hc : es.length ≤ cap) : EdgesAt w (.slice (some ⟨g, 0, none⟩) es.length cap) es := by
  refine ⟨_, cap, rfl, hc, (fun e => by cases e), by omega, fun i e hi => ⟨g, 0, rfl, ?_, ?_⟩⟩
  · rw [Nat.zero_add, cell_blk h]; simpa using (flatE_get es i e hi).1
  · rw [Nat.zero_add, cell_blk h]; simpa using (flatE_get es i e hi).2

theorem ints_blk {w : World} {g T : Nat} {xs : List Int} {f : Nat × Nat} (h : w.heap[g]? = some (.cells (intsV xs).toArray T f)) (hl : xs.length ≤ 1000000) (cap : Nat) (hc : xs.length ≤ cap) : IntsAt w (.slice (some ⟨g, 0, none⟩) xs.length cap) xs := by
  refine ⟨_, cap, rfl, hc, (fun e => by cases e), by omega, fun i e hi => ⟨g, 0, rfl, ?_⟩⟩
  rw [Nat.zero_add, cell_blk h]; simp [intsV, hi]

set_option maxRecDepth 100000 in
set_option maxHeartbeats 1600000 in
theorem awake_any (w : World) (ht : TabsAt w) : Calls Tryd.prog 16 #[] w fun e w' => e = .returned (.bool true) ∧ Below w.heap.size w w' := by
  go_enter Tryd.func16, Tryd.ntmps16
  go_wp2_with fail
  have h1 := heap_alloc_new w (.cells (flatE k4).toArray 42)
  have he1 : EdgesAt (w.alloc (.cells (flatE k4).toArray 42)) (.slice (some ⟨w.heap.size, 0, none⟩) k4.length 6) k4 := edges_blk h1 (by decide) 6 (by decide)
  have hb1 : Below w.heap.size w (w.alloc (.cells (flatE k4).toArray 42)) := (Below.refl _ _).alloc (Nat.le_refl _) _
  have hb2 := hb1.alloc hb1.size (.cells #[.int .i64 4, .slice (some ⟨w.heap.size, 0, none⟩) 6 6] 27)
  have he2 := he1.below ((Below.refl _ _).alloc (Nat.le_refl _) (.cells #[.int .i64 4, .slice (some ⟨w.heap.size, 0, none⟩) 6 6] 27))
  have hg2 := heap_alloc_new (w.alloc (.cells (flatE k4).toArray 42)) (.cells #[.int .i64 4, .slice (some ⟨w.heap.size, 0, none⟩) 6 6] 27)
  refine (copies_any 4 _ 6 k4 _ he2 k4_valid (ht.below hb2)).mono ?_
  rintro e w3 ⟨a3, cap3, rfl, hi3, hb3⟩
  have hb03 := hb2.trans (hb3.mono hb2.size)
  have he3 := he2.below hb3
  have hcl := copS_length (indS k4 4)
  have hg3 := (hb3.block _ (blk_lt hg2)).trans hg2
  have hz : (w.alloc (.cells (flatE k4).toArray 42)).heap.size = w.heap.size + 1 := by simp
  rw [hz] at hg3
  have q0 : w3.cell? ⟨w.heap.size + 1, 0, none⟩ = some (.int .i64 4) := cell_blk hg3
  have q1 : w3.cell? ⟨w.heap.size + 1, 1, none⟩ = some (.slice (some ⟨w.heap.size, 0, none⟩) 6 6) := cell_blk hg3
  have hk := k4_cop
  generalize copS (indS k4 4) = l at *
  obtain ⟨a3', cap3', hv3, _, _, _, hc3⟩ := id hi3
  obtain ⟨rfl, rfl⟩ : a3 = a3' ∧ cap3 = cap3' := by simpa using hv3
  obtain ⟨b4, o4, rfl, c4⟩ := hc3 4 _ hk.1
  obtain ⟨b6, o6, e6, c6⟩ := hc3 6 _ hk.2.1
  obtain ⟨b8, o8, e8, c8⟩ := hc3 8 _ hk.2.2
  obtain ⟨rfl, rfl⟩ : b4 = b6 ∧ o4 = o6 := by simpa using e6
  obtain ⟨rfl, rfl⟩ : b4 = b8 ∧ o4 = o8 := by simpa using e8
  have C4 := Lib.hid c4
  have C6 := Lib.hid c6
  have C8 := Lib.hid c8
  clear hc3 hv3 e6 e8 c4 c6 c8 hk hg3 hg2 hb3 hi3 hz
  go_wp2_with fail
  have hb4 : Below w3.heap.size w3 (w3.alloc (.cells (intsV [((0 : Nat) : Int), ((1 : Nat) : Int), ((2 : Nat) : Int), ((3 : Nat) : Int)]).toArray 3)) := (Below.refl _ _).alloc (Nat.le_refl _) _
  have hi4 : IntsAt (w3.alloc (.cells (intsV [((0 : Nat) : Int), ((1 : Nat) : Int), ((2 : Nat) : Int), ((3 : Nat) : Int)]).toArray 3)) (.slice (some ⟨w3.heap.size, 0, none⟩) 4 4) [((0 : Nat) : Int), ((1 : Nat) : Int), ((2 : Nat) : Int), ((3 : Nat) : Int)] := ints_blk (heap_alloc_new _ _) (by decide) 4 (by decide)
  have hb04 := hb03.trans (hb4.mono hb03.size)
  refine (kind4_any 4 _ 6 k4 _ _ 4 0 1 2 3 (he3.below hb4) k4_valid (ht.below hb04) hi4 (by decide)).mono ?_
  rintro e w5 ⟨rfl, hb5⟩
  rw [k4_kind]
  have hb45 := hb4.trans (hb5.mono hb4.size)
  have c4 := below_cell hb45 C4.out
  have c6 := below_cell hb45 C6.out
  have c8 := below_cell hb45 C8.out
  have hbf := hb04.trans (hb5.mono hb04.size)
  clear hb5 hb45 hb4 hi4
  go_wp2
  go_ret
  exact ⟨rfl, hbf⟩
end Go.Proofs.YtbkacbbhiecnkaaDoor
