/- The contract of the program's kind of a set of four nodes. The contract of the laws' own example. -/
import Derived.Test.YtekbpoppajbljaaDoorPatCopies
namespace Go.Proofs.YtekbpoppajbljaaDoor
open Go.RowKit Go.BigFrame

/-- is a list of numbers a set of so many nodes? -/
def validB : Option Int → List Int → Int → Bool
  | _, [], _ => true
  | p, x :: l, n => decide (0 ≤ x) && decide (x < n) && p.all (fun y => decide (y < x)) && validB (some x) l n
def prevI (xs : List Int) (k : Nat) : Option Int := if k = 0 then none else xs[k - 1]?

set_option maxRecDepth 100000 in
set_option maxHeartbeats 800000 in
theorem nvalid_any (a : Option Addr) (cap : Nat) (xs : List Int) (n : Int) (w : World) (hi : IntsAt w (.slice a xs.length cap) xs) :
    Calls Tryd.prog 72 #[.slice a xs.length cap, .int .i64 n] w fun e w' => e = .returned (.bool (validB none xs n)) ∧ w = w' := by
  have hl : xs.length ≤ 70368744177664 := by obtain ⟨_, _, hv, _, _, hl, _⟩ := hi; exact hl
  go_enter Tryd.func72, Tryd.ntmps72
  go_wp2
  go_loop [9] (fun i => ∃ k : Nat, k ≤ xs.length ∧ i = .int .i64 k ∧ Hid (validB none xs n = validB (prevI xs k) (xs.drop k) n)) (fun i => xs.length - (intOf i).toNat)
  case atStart => exact ⟨0, Nat.zero_le _, rfl, rfl⟩
  case round =>
    obtain ⟨k, hk, rfl, HR⟩ := hrel
    by_cases hlt : k < xs.length
    · obtain ⟨b, off, y, rfl, hy, hd, _, c0⟩ := hi.at k hlt
      have HD : Hid (validB none xs n = (decide (0 ≤ y) && decide (y < n) && (prevI xs k).all (fun z => decide (z < y)) && validB (some y) (xs.drop (k + 1)) n)) := by show _ = _; rw [HR.out, hd, validB]
      have HP : Hid (prevI xs (k + 1) = some y) := by show _ = _; unfold prevI; rw [if_neg (by omega)]; simpa using hy
      clear hd hy HR
      by_cases h1 : y < 0
      · have HF : Hid (validB none xs n = false) := by show _ = _; rw [HD.out]; simp; omega
        go_wp2
        go_ret
        exact ⟨ret_bool HF.out.symm, rfl⟩
      by_cases h2 : n ≤ y
      · have HF : Hid (validB none xs n = false) := by show _ = _; rw [HD.out]; simp; omega
        go_wp2
        go_ret
        exact ⟨ret_bool HF.out.symm, rfl⟩
      by_cases hp : k = 0
      · have hp1 : decide (0 < (k : Int)) = false := by simp [hp]
        have hp2 : decide (0 < k) = false := by simp [hp]
        have HF : Hid (validB none xs n = validB (prevI xs (k + 1)) (xs.drop (k + 1)) n) := by
          show _ = _
          rw [HD.out, HP.out, prevI, if_pos hp]
          simp; omega
        clear hp
        go_wp2
        go_round
        case rel => exact ⟨k + 1, by omega, by go_num, HF⟩
        case measure => simp [intOf]; omega
      · have hp1 : (0 : Int) < (k : Int) := by omega
        have hp2 : 0 < k := by omega
        obtain ⟨b', off', z, hbo, hz, _, _, d0⟩ := hi.at (k - 1) (by omega)
        obtain ⟨rfl, rfl⟩ : b = b' ∧ off = off' := by simpa using hbo
        clear hbo
        have HQ : Hid (prevI xs k = some z) := by show _ = _; rw [prevI, if_neg hp]; exact hz
        clear hz hp
        by_cases hzy : y ≤ z
        · have HF : Hid (validB none xs n = false) := by show _ = _; rw [HD.out, HQ.out]; simp; omega
          go_wp2
          go_ret
          exact ⟨ret_bool HF.out.symm, rfl⟩
        · have HF : Hid (validB none xs n = validB (prevI xs (k + 1)) (xs.drop (k + 1)) n) := by show _ = _; rw [HD.out, HP.out, HQ.out]; simp; omega
          go_wp2
          go_round
          case rel => exact ⟨k + 1, by omega, by go_num, HF⟩
          case measure => simp [intOf]; omega
    · have HF : Hid (validB none xs n = true) := by show _ = _; rw [HR.out, List.drop_of_length_le (by omega)]; rfl
      go_wp2
      go_ret
      exact ⟨ret_bool HF.out.symm, rfl⟩

theorem below_cell {w w' : World} (hb : Below w.heap.size w w') {b o : Nat} {v : Value} (h : w.cell? ⟨b, o, none⟩ = some v) : w'.cell? ⟨b, o, none⟩ = some v := (hb.cell (p := ⟨b, o, none⟩) (cell_lt h)).trans h

theorem arr4 (b o c : Nat) (w : World) : (Instr.arrayAt 74 (.slice (some ⟨b, o, none⟩) 4 c)).run Tryd.prog w = .ok (.pointer (some ⟨b, o, none⟩)) w := by kernel_rfl

set_option maxRecDepth 100000 in
set_option maxHeartbeats 1600000 in
theorem kind4_any (n : Nat) (a : Option Addr) (cap : Nat) (es : List E2) (w : World) (a2 : Option Addr) (cap2 : Nat) (p q r s : Nat) (he : EdgesAt w (.slice a es.length cap) es) (hv : Valid n es) (ht : TabsAt w) (hi : IntsAt w (.slice a2 4 cap2) [(p : Int), (q : Int), (r : Int), (s : Int)]) (hok : validB none [(p : Int), (q : Int), (r : Int), (s : Int)] n = true) :
    Calls Tryd.prog 46 #[.agg #[.int .i64 n, .slice a es.length cap], .slice a2 4 cap2] w fun e w' => e = .returned (.tuple #[.int .i64 (ofKS es p q r s), .int .i64 0]) ∧ Below w.heap.size w w' := by
  have hn := hv.2.1
  have hb4 : p < 64 ∧ q < 64 ∧ r < 64 ∧ s < 64 := by
    simp [validB] at hok
    omega
  go_enter Tryd.func46, Tryd.ntmps46
  go_wp2_with fail
  refine (gcheck_any n a cap es _ (he.below ((Below.refl _ _).alloc (Nat.le_refl _) _))).mono ?_
  rintro e w1 ⟨rfl, hb1⟩
  rw [(valid_iff n es).2 hv]
  have b0 : w1.cell? ⟨w.heap.size, 0, none⟩ = some (.int .i64 n) := (hb1.cell (p := ⟨w.heap.size, 0, none⟩) (by simp)).trans (cell_blk (heap_alloc_new _ _))
  have b1 : w1.cell? ⟨w.heap.size, 1, none⟩ = some (.slice a es.length cap) := (hb1.cell (p := ⟨w.heap.size, 1, none⟩) (by simp)).trans (cell_blk (heap_alloc_new _ _))
  have hbw : Below w.heap.size w w1 := ((Below.refl _ _).alloc (Nat.le_refl _) _).trans (hb1.mono (by simp))
  have hi1 := hi.below hbw
  have HOK := Lib.hid hok
  clear hb1 hok
  go_wp2_with fail
  refine (nvalid_any a2 cap2 [(p : Int), (q : Int), (r : Int), (s : Int)] n _ hi1).mono ?_
  rintro e w2 ⟨rfl, rfl⟩
  rw [HOK.out]
  go_wp2_with fail
  obtain ⟨a2', cap2', hv2, _, _, _, hc2⟩ := hi1
  obtain ⟨rfl, rfl⟩ : a2 = a2' ∧ cap2 = cap2' := by simpa using hv2
  obtain ⟨b2, o2, rfl, c0⟩ := hc2 0 _ rfl
  obtain ⟨b3, o3, h3, c1⟩ := hc2 1 _ rfl
  obtain ⟨b4, o4, h4, c2⟩ := hc2 2 _ rfl
  obtain ⟨b5, o5, h5, c3⟩ := hc2 3 _ rfl
  obtain ⟨rfl, rfl⟩ : b2 = b3 ∧ o2 = o3 := by simpa using h3
  obtain ⟨rfl, rfl⟩ : b2 = b4 ∧ o2 = o4 := by simpa using h4
  obtain ⟨rfl, rfl⟩ : b2 = b5 ∧ o2 = o5 := by simpa using h5
  rw [Nat.add_zero] at c0
  clear hc2 hv2 h3 h4 h5
  have B0 := Lib.hid b0
  have B1 := Lib.hid b1
  have C0 := Lib.hid c0
  have C1 := Lib.hid c1
  have C2 := Lib.hid c2
  have C3 := Lib.hid c3
  clear b0 b1 c0 c1 c2 c3
  have haa := arr4
  have hs : Below w1.heap.size w1 w1.drew := (Below.refl _ _).drew
  have he1 := he.below hbw
  have ht1 := ht.below hbw
  go_region_held3 (fun w' => w'.cell? ⟨w.heap.size, 0, none⟩ = some (.int .i64 n) ∧ w'.cell? ⟨w.heap.size, 1, none⟩ = some (.slice a es.length cap) ∧ w'.cell? ⟨b2, o2, none⟩ = some (.int .i64 p) ∧ w'.cell? ⟨b2, o2 + 1, none⟩ = some (.int .i64 q) ∧ w'.cell? ⟨b2, o2 + 2, none⟩ = some (.int .i64 r) ∧ w'.cell? ⟨b2, o2 + 3, none⟩ = some (.int .i64 s))
    (exact ⟨below_cell hs B0.out, below_cell hs B1.out, below_cell hs C0.out, below_cell hs C1.out, below_cell hs C2.out, below_cell hs C3.out⟩)
    (first
      | (go_at_call 74; refine (joined_any n a cap es _ (by exact he1.below hs) hv).mono ?_; rintro e w' ⟨g, rfl, hT, hgw, hb'⟩; have hs := hs.trans (hb'.mono hs.size))
      | (go_at_call 73; refine (of4_any _ es p q r s _ hb4.1 hb4.2.1 hb4.2.2.1 hb4.2.2.2 (by exact ht1.below hs) (by assumption)).mono ?_; rintro e w' ⟨rfl, hb'⟩; have hs := hs.trans (hb'.mono hs.size)))
  all_goals
    go_wp2
    go_ret2
    exact ⟨rfl, hbw.trans (hs.mono hbw.size)⟩
end Go.Proofs.YtekbpoppajbljaaDoor

namespace Go.Proofs.YtekbpoppajbljaaDoor
open Go.RowKit Go.BigFrame

def k4 : List E2 := [(0, 1), (0, 2), (0, 3), (1, 2), (1, 3), (2, 3)]
theorem k4_valid : Valid 4 k4 := (valid_iff 4 k4).1 (by decide)
theorem k4_cop : (copS (indS k4 4))[4]? = some 4 ∧ (copS (indS k4 4))[6]? = some 12 ∧ (copS (indS k4 4))[8]? = some 3 := by decide +kernel
theorem k4_kind : ofKS k4 0 1 2 3 = 10 := by decide +kernel
theorem copS_length (l : List Int) : (copS l).length = 11 := copV_length l 11 0

theorem edges_blk {w : World} {g T : Nat} {es : List E2} {f : Nat × Nat} (h : w.heap[g]? = some (.cells (flatE es).toArray T f)) (hl : es.length ≤ 1000000) (cap : Nat) (hc : es.length ≤ cap) : EdgesAt w (.slice (some ⟨g, 0, none⟩) es.length cap) es := by
  refine ⟨_, cap, rfl, hc, (fun e => by cases e), by omega, fun i e hi => ⟨g, 0, rfl, ?_, ?_⟩⟩
  · rw [Nat.zero_add, cell_blk h]; simpa using (flatE_get es i e hi).1
  · rw [Nat.zero_add, cell_blk h]; simpa using (flatE_get es i e hi).2

theorem ints_blk {w : World} {g T : Nat} {xs : List Int} {f : Nat × Nat} (h : w.heap[g]? = some (.cells (intsV xs).toArray T f)) (hl : xs.length ≤ 1000000) (cap : Nat) (hc : xs.length ≤ cap) : IntsAt w (.slice (some ⟨g, 0, none⟩) xs.length cap) xs := by
  refine ⟨_, cap, rfl, hc, (fun e => by cases e), by omega, fun i e hi => ⟨g, 0, rfl, ?_⟩⟩
  rw [Nat.zero_add, cell_blk h]; simp [intsV, hi]

set_option maxRecDepth 100000 in
set_option maxHeartbeats 1600000 in
theorem awake_any (w : World) (ht : TabsAt w) : Calls Tryd.prog 10 #[] w fun e w' => e = .returned (.bool true) ∧ Below w.heap.size w w' := by
  go_enter Tryd.func10, Tryd.ntmps10
  go_wp2_with fail
  have h1 := heap_alloc_new w (.cells (flatE k4).toArray 42)
  have he1 : EdgesAt (w.alloc (.cells (flatE k4).toArray 42)) (.slice (some ⟨w.heap.size, 0, none⟩) k4.length 6) k4 := edges_blk h1 (by decide) 6 (by decide)
  have hb1 : Below w.heap.size w (w.alloc (.cells (flatE k4).toArray 42)) := (Below.refl _ _).alloc (Nat.le_refl _) _
  have hb2 := hb1.alloc hb1.size (.cells #[.int .i64 4, .slice (some ⟨w.heap.size, 0, none⟩) 6 6] 27)
  have he2 := he1.below ((Below.refl _ _).alloc (Nat.le_refl _) (.cells #[.int .i64 4, .slice (some ⟨w.heap.size, 0, none⟩) 6 6] 27))
  have hg2 := heap_alloc_new (w.alloc (.cells (flatE k4).toArray 42)) (.cells #[.int .i64 4, .slice (some ⟨w.heap.size, 0, none⟩) 6 6] 27)
  refine (copies_any 4 _ 6 k4 _ he2 k4_valid (ht.below hb2)).mono ?_
  rintro e w3 ⟨a3, cap3, rfl, hi3, hb3⟩
  have hb03 := hb2.trans (hb3.mono hb2.size)
  have he3 := he2.below hb3
  have hcl := copS_length (indS k4 4)
  have hg3 := (hb3.block _ (blk_lt hg2)).trans hg2
  have hz : (w.alloc (.cells (flatE k4).toArray 42)).heap.size = w.heap.size + 1 := by simp
  rw [hz] at hg3
  have q0 : w3.cell? ⟨w.heap.size + 1, 0, none⟩ = some (.int .i64 4) := cell_blk hg3
  have q1 : w3.cell? ⟨w.heap.size + 1, 1, none⟩ = some (.slice (some ⟨w.heap.size, 0, none⟩) 6 6) := cell_blk hg3
  have hk := k4_cop
  generalize copS (indS k4 4) = l at *
  obtain ⟨a3', cap3', hv3, _, _, _, hc3⟩ := id hi3
  obtain ⟨rfl, rfl⟩ : a3 = a3' ∧ cap3 = cap3' := by simpa using hv3
  obtain ⟨b4, o4, rfl, c4⟩ := hc3 4 _ hk.1
  obtain ⟨b6, o6, e6, c6⟩ := hc3 6 _ hk.2.1
  obtain ⟨b8, o8, e8, c8⟩ := hc3 8 _ hk.2.2
  obtain ⟨rfl, rfl⟩ : b4 = b6 ∧ o4 = o6 := by simpa using e6
  obtain ⟨rfl, rfl⟩ : b4 = b8 ∧ o4 = o8 := by simpa using e8
  have C4 := Lib.hid c4
  have C6 := Lib.hid c6
  have C8 := Lib.hid c8
  clear hc3 hv3 e6 e8 c4 c6 c8 hk hg3 hg2 hb3 hi3 hz
  go_wp2_with fail
  have hb4 : Below w3.heap.size w3 (w3.alloc (.cells (intsV [((0 : Nat) : Int), ((1 : Nat) : Int), ((2 : Nat) : Int), ((3 : Nat) : Int)]).toArray 3)) := (Below.refl _ _).alloc (Nat.le_refl _) _
  have hi4 : IntsAt (w3.alloc (.cells (intsV [((0 : Nat) : Int), ((1 : Nat) : Int), ((2 : Nat) : Int), ((3 : Nat) : Int)]).toArray 3)) (.slice (some ⟨w3.heap.size, 0, none⟩) 4 4) [((0 : Nat) : Int), ((1 : Nat) : Int), ((2 : Nat) : Int), ((3 : Nat) : Int)] := ints_blk (heap_alloc_new _ _) (by decide) 4 (by decide)
  have hb04 := hb03.trans (hb4.mono hb03.size)
  refine (kind4_any 4 _ 6 k4 _ _ 4 0 1 2 3 (he3.below hb4) k4_valid (ht.below hb04) hi4 (by decide)).mono ?_
  rintro e w5 ⟨rfl, hb5⟩
  rw [k4_kind]
  have hb45 := hb4.trans (hb5.mono hb4.size)
  have c4 := below_cell hb45 C4.out
  have c6 := below_cell hb45 C6.out
  have c8 := below_cell hb45 C8.out
  have hbf := hb04.trans (hb5.mono hb04.size)
  clear hb5 hb45 hb4 hi4
  go_wp2
  go_ret
  exact ⟨rfl, hbf⟩
end Go.Proofs.YtekbpoppajbljaaDoor
