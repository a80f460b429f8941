/- The contract of the program's matrix: how often each kind lies in each kind. -/
import Derived.Test.YtekbpoppajbljaaDoorPatSums
namespace Go.Proofs.YtekbpoppajbljaaDoor
open Go.RowKit Go.BigFrame

def exN (k : Nat) : Nat := [0, 1, 3, 33, 11, 7, 41, 15, 45, 61, 63].getD k 0
theorem exN_le (k : Nat) : exN k ≤ 63 := by
  by_cases h : k < 11
  · exact (by decide : ∀ k, k < 11 → exN k ≤ 63) k h
  · unfold exN
    rw [List.getD_eq_getElem?_getD, List.getElem?_eq_none (by simp; omega)]
    decide
set_option maxRecDepth 100000 in
theorem idxE (k : Nat) (hk : k < 11) : ∀ w, (Instr.index 90 (.agg #[.int .i64 0, .int .i64 1, .int .i64 3, .int .i64 33, .int .i64 11, .int .i64 7, .int .i64 41, .int .i64 15, .int .i64 45, .int .i64 61, .int .i64 63]) (.int .i64 k)).run Tryd.prog w = .ok (.int .i64 (exN k)) w := by
  rcases (by omega : k = 0 ∨ k = 1 ∨ k = 2 ∨ k = 3 ∨ k = 4 ∨ k = 5 ∨ k = 6 ∨ k = 7 ∨ k = 8 ∨ k = 9 ∨ k = 10) with rfl | rfl | rfl | rfl | rfl | rfl | rfl | rfl | rfl | rfl | rfl
  all_goals exact fun _ => by kernel_rfl

/-- does a set of pairs lie in another one? -/
def subB (s m : Nat) : Bool := bits BinOp.andNot IntKind.i64 (s : Int) (m : Int) == 0
/-- the places that are counted: of one kind up to s, and of the kinds before b -/
def wRow (b : Nat) (s : Nat) : List (Nat × Nat) := (List.range s).flatMap fun x => if subB x (exN b) then [((kindS x).toNat, b)] else []
def wAll (b : Nat) : List (Nat × Nat) := (List.range b).flatMap fun x => wRow x (exN x + 1)
def matV (L : List (Nat × Nat)) (a : Nat) : List Int := (List.range 11).map fun (b : Nat) => ((L.filter (fun x => x == (a, b))).length : Int)
theorem matV_length (L : List (Nat × Nat)) (a : Nat) : (matV L a).length = 11 := by simp [matV]
theorem matV_get (L : List (Nat × Nat)) (a b : Nat) (hb : b < 11) : (matV L a)[b]? = some ((L.filter (fun x => x == (a, b))).length : Int) := by simp [matV, hb]
theorem matV_snoc (L : List (Nat × Nat)) (a b : Nat) (hb : b < 11) : matV (L ++ [(a, b)]) a = (matV L a).set b (((L.filter (fun x => x == (a, b))).length : Int) + 1) := by
  apply List.ext_getElem?
  intro j
  by_cases hj : j < 11
  · rw [matV_get _ _ j hj, List.getElem?_set, matV_get _ _ j hj, matV_length]
    by_cases h : b = j
    · subst h; simp [hb]
    · rw [if_neg h]; simp [List.filter_append, h]
  · rw [List.getElem?_eq_none (by rw [matV_length]; omega), List.getElem?_eq_none (by rw [List.length_set, matV_length]; omega)]
theorem matV_other (L : List (Nat × Nat)) (a b a' : Nat) (h : a' ≠ a) : matV (L ++ [(a, b)]) a' = matV L a' := by
  have : ∀ j, ((a, b) == (a', j)) = false := fun j => by simp; intro e; exact absurd e.symm h
  unfold matV
  apply List.map_congr_left
  intro j _
  simp [List.filter_append, this]
theorem wRow_succ (b s : Nat) : wRow b (s + 1) = wRow b s ++ if subB s (exN b) then [((kindS s).toNat, b)] else [] := by simp [wRow, List.range_succ]
theorem wAll_succ (b : Nat) : wAll (b + 1) = wAll b ++ wRow b (exN b + 1) := by simp [wAll, List.range_succ]
theorem wRow_le (b s : Nat) (hs : s ≤ 64) : (wRow b s).length ≤ 64 := by
  have := flat_le (fun x => if subB x (exN b) then [((kindS x).toNat, b)] else []) 1 s (fun x _ => by split <;> simp)
  unfold wRow; omega
theorem wAll_le (b : Nat) (hb : b ≤ 11) : (wAll b).length ≤ 704 := by
  have := flat_le (fun x => wRow x (exN x + 1)) 64 b (fun x _ => wRow_le x _ (by have := exN_le x; omega))
  unfold wAll; omega
theorem mat_bd (L : List (Nat × Nat)) (a b : Nat) : (0 : Int) ≤ ((L.filter (fun x => x == (a, b))).length : Int) ∧ ((L.filter (fun x => x == (a, b))).length : Int) ≤ L.length := by
  have := List.length_filter_le (fun x => x == (a, b)) L
  omega

def rowsA (G : Nat) (n : Nat) : Array Value := ((List.range 11).map fun (a : Nat) => if a < n then Value.slice (some ⟨G + 1 + a, 0, none⟩) 11 11 else .slice none 0 0).toArray
/-- the matrix: its rows' slices in block G, row a in block G + 1 + a -/
def MatAt (w : World) (G : Nat) (L : List (Nat × Nat)) : Prop :=
  w.heap[G]? = some (.cells (rowsA G 11) 22 (0, 0)) ∧ ∀ a, a < 11 → w.heap[G + 1 + a]? = some (.cells (intsV (matV L a)).toArray 3 (0, 0))
theorem rowsA_get (G n a : Nat) (ha : a < 11) (han : a < n) : (rowsA G n)[a]? = some (.slice (some ⟨G + 1 + a, 0, none⟩) 11 11) := by simp [rowsA, ha, han]
theorem rowsA_succ (G n : Nat) (hn : n < 11) : (rowsA G n).setIfInBounds n (.slice (some ⟨G + 1 + n, 0, none⟩) 11 11) = rowsA G (n + 1) := by
  apply Array.ext_getElem?
  intro j
  rw [Array.getElem?_setIfInBounds]
  by_cases hj : j < 11
  · by_cases h : n = j
    · subst h; simp [rowsA, hj]
    · rw [if_neg h]
      simp only [rowsA, List.getElem?_toArray, List.getElem?_map, List.getElem?_range hj, Option.map_some]
      by_cases h1 : j < n
      · rw [if_pos h1, if_pos (by omega)]
      · rw [if_neg h1, if_neg (by omega)]
  · simp [rowsA, hj]; omega
theorem MatAt.below {w w' : World} {G : Nat} {L : List (Nat × Nat)} (h : MatAt w G L) (hb : Below w.heap.size w w') : MatAt w' G L :=
  ⟨(hb.block G (blk_lt h.1)).trans h.1, fun a ha => (hb.block _ (blk_lt (h.2 a ha))).trans (h.2 a ha)⟩
theorem MatAt.step {w : World} {G : Nat} {L : List (Nat × Nat)} (h : MatAt w G L) (a b : Nat) (ha : a < 11) (hb : b < 11) :
    MatAt (w.setCell ⟨G + 1 + a, b, none⟩ (.int .i64 (((L.filter (fun x => x == (a, b))).length : Int) + 1))) G (L ++ [(a, b)]) := by
  refine ⟨(Below.heap_setCell _ _ _ _ (by show _ ≠ G + 1 + a; omega)).trans h.1, fun a' ha' => ?_⟩
  by_cases e : a' = a
  · subst e
    rw [heap_setCell_same _ _ _ _ _ _ (h.2 a' ha), matV_snoc L a' b hb]
    simp [intsV, List.map_set]
  · rw [Below.heap_setCell _ _ _ _ (by show _ ≠ G + 1 + a; omega), h.2 a' ha', matV_other L a b a' e]
theorem make53 : ∀ w, (Instr.makeSlice 65 (.int .i64 11) (.int .i64 11)).run Tryd.prog w = .ok (.slice (some ⟨w.heap.size, 0, none⟩) 11 11) (w.alloc (.cells (rowsA w.heap.size 0) 22)) := fun _ => by kernel_rfl
theorem make11' : ∀ w, (Instr.makeSlice 22 (.int .i64 11) (.int .i64 11)).run Tryd.prog w = .ok (.slice (some ⟨w.heap.size, 0, none⟩) 11 11) (w.alloc (.cells (intsV (matV [] 0)).toArray 3)) := fun _ => by kernel_rfl

def WithinPost (w : World) (e : Ending) (w' : World) : Prop := ∃ G, e = .returned (.slice (some ⟨G, 0, none⟩) 11 11) ∧ MatAt w' G (wAll 11) ∧ w.heap.size ≤ G ∧ Below w.heap.size w w'

set_option maxRecDepth 100000 in
set_option maxHeartbeats 1600000 in
theorem within_any (w : World) (ht : TabsAt w) : Calls Tryd.prog 47 #[] w (WithinPost w) := by
  have hmk := make53
  go_enter Tryd.func47, Tryd.ntmps47
  go_wp2_with fail
  clear hmk
  have hh0 : (w.alloc (.cells (rowsA w.heap.size 0) 22)).heap[w.heap.size]? = some (.cells (rowsA w.heap.size 0) 22 (0, 0)) := heap_alloc_new _ _
  go_loopw [9] (fun i wr => ∃ k : Nat, k ≤ 11 ∧ i = .int .i64 k ∧ Below w.heap.size w wr ∧ wr.heap.size = w.heap.size + 1 + k ∧ wr.heap[w.heap.size]? = some (.cells (rowsA w.heap.size k) 22 (0, 0)) ∧ ∀ a, a < k → wr.heap[w.heap.size + 1 + a]? = some (.cells (intsV (matV [] a)).toArray 3 (0, 0))) (fun i _ => 11 - (intOf i).toNat)
  case atStart => exact ⟨0, by omega, rfl, (Below.refl _ _).alloc (Nat.le_refl _) _, by simp, hh0, fun a ha => by omega⟩
  case round =>
    clear hh0
    obtain ⟨k, hk, rfl, hb, hz, hG, hR⟩ := hrel
    by_cases hlt : k < 11
    · have hmk := make11'
      have HZ := Lib.hid hz
      have r1 : wr.frozen? ⟨w.heap.size, k, none⟩ = false := free_blk hG
      have r0 : wr.cell? ⟨w.heap.size, k, none⟩ = (rowsA w.heap.size k)[k]? := cell_blk hG
      have hc : (rowsA w.heap.size k)[k]? = some (.slice none 0 0) := by simp [rowsA, hlt]
      rw [hc] at r0
      have hlz : w.heap.size < wr.heap.size := by omega
      clear hc hz
      go_wp2_with fail
      go_roundw
      case rel =>
        have g1 := heap_setCell_same wr _ k _ _ (.slice (some ⟨wr.heap.size, 0, none⟩) 11 11) hG
        refine ⟨k + 1, by omega, by go_num, ?_, ?_, ?_, fun a ha => ?_⟩
        · have h2 := hb.setCell (p := ⟨w.heap.size, k, none⟩) (Nat.le_refl _) (.slice (some ⟨wr.heap.size, 0, none⟩) 11 11)
          exact h2.alloc h2.size _
        · have := HZ.out; simp; omega
        · refine (Below.heap_alloc _ _ _ (blk_lt g1)).trans ?_
          rw [g1, HZ.out, rowsA_succ _ _ hlt]
        · by_cases hak : a < k
          · have h1 := hR a hak
            have h2 : (wr.setCell ⟨w.heap.size, k, none⟩ (.slice (some ⟨wr.heap.size, 0, none⟩) 11 11)).heap[w.heap.size + 1 + a]? = some (.cells (intsV (matV [] a)).toArray 3 (0, 0)) := (Below.heap_setCell _ _ _ _ (by show _ ≠ w.heap.size; omega)).trans h1
            exact (Below.heap_alloc _ _ _ (blk_lt h2)).trans h2
          · obtain rfl : a = k := by omega
            have h3 := heap_alloc_new (wr.setCell ⟨w.heap.size, a, none⟩ (.slice (some ⟨wr.heap.size, 0, none⟩) 11 11)) (.cells (intsV (matV [] 0)).toArray 3)
            have h4 : (wr.setCell ⟨w.heap.size, a, none⟩ (.slice (some ⟨wr.heap.size, 0, none⟩) 11 11)).heap.size = w.heap.size + 1 + a := by have := HZ.out; simpa using this
            rw [h4] at h3
            exact h3
      case measure => simp [intOf]; omega
    · have hk11 : k = 11 := by omega
      have hM : MatAt wr w.heap.size (wAll 0 ++ wRow 0 0) := by rw [hk11] at hG hR; exact ⟨hG, hR⟩
      have hdk : decide ((k : Int) < 11) = false := by simp; omega
      clear hk11
      have e0 := (ht.below hb).2.2 0 _ rfl
      have e1 := (ht.below hb).2.2 1 _ rfl
      have e2 := (ht.below hb).2.2 2 _ rfl
      have e3 := (ht.below hb).2.2 3 _ rfl
      have e4 := (ht.below hb).2.2 4 _ rfl
      have e5 := (ht.below hb).2.2 5 _ rfl
      have e6 := (ht.below hb).2.2 6 _ rfl
      have e7 := (ht.below hb).2.2 7 _ rfl
      have e8 := (ht.below hb).2.2 8 _ rfl
      have e9 := (ht.below hb).2.2 9 _ rfl
      have e10 := (ht.below hb).2.2 10 _ rfl
      have hgs : 0 < wr.heap.size := cell_lt e0
      clear hG hR hz
      go_wp2_with fail
      clear e0 e1 e2 e3 e4 e5 e6 e7 e8 e9 e10
      obtain ⟨w2, hw2⟩ : ∃ w2 : World, w2 = wr := ⟨_, rfl⟩
      subst hw2
      go_loopw [18] (fun i wr => ∃ b : Nat, b ≤ 11 ∧ i = .int .i64 b ∧ Below w.heap.size w wr ∧ MatAt wr w.heap.size (wAll b ++ wRow b 0)) (fun i _ => 11 - (intOf i).toNat)
      case atStart => exact ⟨0, by omega, rfl, hb, hM⟩
      case round =>
        clear hM hb
        obtain ⟨b, hbk, rfl, hb, hM⟩ := hrel
        by_cases hltb : b < 11
        · have ix := idxE b hltb
          have hdb : decide ((b : Int) < 11) = true := by simp; omega
          have hex := exN_le b
          generalize hm : exN b = m at *
          have HM := Lib.hid hm
          clear hm
          go_wp2_with fail
          clear ix
          obtain ⟨wo, rfl⟩ : ∃ wo : World, wo = wr := ⟨_, rfl⟩
          go_loopw [24] (fun i wr => ∃ s : Nat, s ≤ m + 1 ∧ i = .int .i64 s ∧ Below w.heap.size w wr ∧ MatAt wr w.heap.size (wAll b ++ wRow b s)) (fun i _ => m + 1 - (intOf i).toNat)
          case atStart => exact ⟨0, by omega, rfl, hb, hM⟩
          case round =>
            clear hb hM
            obtain ⟨s, hs, rfl, hb, hM⟩ := hrel
            by_cases hlts : s < m + 1
            · by_cases hsub : subB s m = true
              · have ht1 : (bits BinOp.andNot IntKind.i64 (s : Int) (m : Int) == 0) = true := hsub
                obtain ⟨κ, hκ⟩ := Int.eq_ofNat_of_zero_le (kindS_bd s (by omega)).1
                have hk11 : κ < 11 := by have := (kindS_bd s (by omega)).2; omega
                have HS2 : Hid (wRow b (s + 1) = wRow b s ++ [(κ, b)]) := by show _ = _; rw [wRow_succ, HM.out, if_pos hsub, hκ]; rfl
                have HK := Lib.hid hκ
                have hlen : (wAll b ++ wRow b s).length ≤ 768 := by have := wAll_le b (by omega); have := wRow_le b s (by omega); simp; omega
                clear hκ hsub
                go_wp2_with fail
                refine (kind_any s _ (ht.below hb)).mono ?_
                rintro e w3 ⟨rfl, hb3⟩
                rw [HK.out]
                have hM3 := hM.below hb3
                have hb03 := hb.trans (hb3.mono hb.size)
                have r0 : w3.cell? ⟨w.heap.size, κ, none⟩ = some (.slice (some ⟨w.heap.size + 1 + κ, 0, none⟩) 11 11) := (cell_blk hM3.1).trans (rowsA_get _ _ _ hk11 hk11)
                have r1 : w3.cell? ⟨w.heap.size + 1 + κ, b, none⟩ = some (.int .i64 (((wAll b ++ wRow b s).filter (fun x => x == (κ, b))).length : Int)) := by
                  rw [cell_blk (hM3.2 κ hk11)]; simp [intsV, matV_get _ _ b hltb]
                have r2 : w3.frozen? ⟨w.heap.size + 1 + κ, b, none⟩ = false := free_blk (hM3.2 κ hk11)
                have HST := Lib.hid (hM3.step κ b hk11 hltb)
                have hmb := mat_bd (wAll b ++ wRow b s) κ b
                generalize hcv : ((wAll b ++ wRow b s).filter (fun x => x == (κ, b))).length = cv at *
                have HV := Lib.hid hcv
                clear hcv hb3
                go_wp2_with fail
                go_roundw
                case rel =>
                  have hbe := hb03.setCell (p := ⟨w.heap.size + 1 + κ, b, none⟩) (by show w.heap.size ≤ w.heap.size + 1 + κ; omega) (.int .i64 ((cv : Int) + 1))
                  have hme : MatAt (w3.setCell ⟨w.heap.size + 1 + κ, b, none⟩ (.int .i64 ((cv : Int) + 1))) w.heap.size (wAll b ++ wRow b (s + 1)) := by rw [HS2.out, ← List.append_assoc]; exact HST.out
                  exact ⟨s + 1, by omega, by go_num, hbe, hme⟩
                case measure => simp [intOf]; omega
              · have ht1 : (bits BinOp.andNot IntKind.i64 (s : Int) (m : Int) == 0) = false := by simpa [subB] using hsub
                have HS2 : Hid (wRow b (s + 1) = wRow b s) := by show _ = _; rw [wRow_succ, HM.out, if_neg hsub, List.append_nil]
                clear hsub
                go_wp2_with fail
                go_roundw
                case rel => exact ⟨s + 1, by omega, by go_num, hb, by rw [HS2.out]; exact hM⟩
                case measure => simp [intOf]; omega
            · obtain rfl : s = m + 1 := by omega
              go_wp2_with fail
              go_roundw
              case rel => exact ⟨b + 1, by omega, by go_num, hb, by rw [wAll_succ, HM.out]; simpa [wRow] using hM⟩
              case measure => simp [intOf]; omega
        · obtain rfl : b = 11 := by omega
          have hM11 : MatAt wr w.heap.size (wAll 11) := by simpa [wRow] using hM
          go_wp2_with fail
          go_ret
          exact ⟨_, rfl, hM11, Nat.le_refl _, hb⟩
end Go.Proofs.YtekbpoppajbljaaDoor
