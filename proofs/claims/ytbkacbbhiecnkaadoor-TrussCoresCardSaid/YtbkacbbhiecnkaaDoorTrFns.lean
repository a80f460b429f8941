/- The contracts of the program's supports, truss numbers, order and trusses, for any graph. -/
import Derived.Test.YtbkacbbhiecnkaaDoorTrPeel2
namespace Go.Proofs.YtbkacbbhiecnkaaDoor
open Go.RowKit Go.BigFrame

/-- numbers and an error are handed back -/
def TPost (w : World) (r : List Int × Int) (e : Ending) (w' : World) : Prop := ∃ a c, e = .returned (.tuple #[.slice a r.1.length c, .int .i64 r.2]) ∧ IntsAt w' (.slice a r.1.length c) r.1 ∧ (∀ p, a = some p → w.heap.size ≤ p.block) ∧ Below w.heap.size w w'
theorem ints_nil (w : World) : IntsAt w (.slice none 0 0) [] := ⟨none, 0, rfl, Nat.le_refl _, fun _ => rfl, by simp, fun i x h => by simp at h⟩
def numX (n : Int) (es : List E2) : List Int × Int := if checkS n es ≠ 0 then ([], checkS n es) else (numT es n.toNat, 0)
def ordX (n : Int) (es : List E2) : List Int × Int := if checkS n es ≠ 0 then ([], checkS n es) else (ordT es n.toNat, 0)
def supV (es : List E2) (n k : Nat) : List Int := (List.range k).map fun i => ((triN es n i).length : Int)
theorem supV_length (es : List E2) (n k : Nat) : (supV es n k).length = k := by simp [supV]
theorem supV_step (es : List E2) (n k : Nat) : supV es n (k + 1) = supV es n k ++ [((triN es n k).length : Int)] := by simp [supV, List.range_succ]
def supX (n : Int) (es : List E2) : List Int × Int := if checkS n es ≠ 0 then ([], checkS n es) else (supV es n.toNat es.length, 0)
set_option maxRecDepth 100000 in
set_option maxHeartbeats 1600000 in
theorem tnumbers_any (n : Int) (a : Option Addr) (cap : Nat) (es : List E2) (w : World) (he : EdgesAt w (.slice a es.length cap) es) (hT : TzAt w) :
    Calls Tryd.prog 53 #[.agg #[.int .i64 n, .slice a es.length cap]] w (TPost w (numX n es)) := by
  have hb0 : Below w.heap.size w (w.alloc (.cells #[.int .i64 n, .slice a es.length cap] 27)) := (Below.refl _ _).alloc (Nat.le_refl _) _
  have hG0 := heap_alloc_new w (.cells #[.int .i64 n, .slice a es.length cap] 27)
  have hck := fun W h => gcheck_any n a cap es W h
  unfold TPost numX
  by_cases hC : checkS n es = 0
  case neg =>
    rw [if_pos hC]
    obtain ⟨C, hCC⟩ : ∃ C, checkS n es = C := ⟨_, rfl⟩
    rw [hCC] at hck hC ⊢
    have d1 : (C != 0) = true := by simpa using hC
    have d2 : (C == 0) = false := by simpa using hC
    clear hC hCC
    go_enter Tryd.func53, Tryd.ntmps53
    go_wp2_with fail
    refine (hck _ (he.below hb0)).mono ?_
    rintro e w1 ⟨rfl, hb1⟩
    go_wp2_with fail
    go_ret2
    exact ⟨none, 0, rfl, ints_nil _, fun p h => (by cases h), hb0.trans (hb1.mono hb0.size)⟩
  have hv := (valid_iff n es).1 hC
  rw [if_neg (by simpa using hC)]
  rw [hC] at hck
  obtain ⟨n, rfl⟩ := Int.eq_ofNat_of_zero_le hv.1
  rw [Int.toNat_natCast]
  go_enter Tryd.func53, Tryd.ntmps53
  go_wp2_with fail
  refine (hck _ (he.below hb0)).mono ?_
  rintro e w1 ⟨rfl, hb1⟩
  have hb01 := hb0.trans (hb1.mono hb0.size)
  have hG1 := lit_next' hb1 hG0
  have g0 : w1.cell? ⟨w.heap.size, 0, none⟩ = some (.int .i64 n) := by rw [cell_blk hG1]; rfl
  have g1 : w1.cell? ⟨w.heap.size, 1, none⟩ = some (.slice a es.length cap) := by rw [cell_blk hG1]; rfl
  clear hck hG0 hb0 hb1
  go_wp2_with fail
  refine (tpeel_any n a cap es _ (he.below hb01) hv (hT.below hb01)).mono ?_
  rintro e w2 ⟨ao, co, nb, rfl, -, hN, hnb, -, hb2⟩
  have hl := numT_length es n
  have hel := hv.length_le
  have hi : IntsAt w2 (.slice (some ⟨nb, 0, none⟩) (numT es n).length es.length) (numT es n) := by
    have h := hN.ints (by rw [hl]; omega)
    rw [hl] at h ⊢; exact h
  have hz := hb01.size
  go_wp2_with fail
  go_ret2
  exact ⟨_, _, by rw [hl]; rfl, hi, fun p h => (by cases h; exact Nat.le_trans hz hnb), hb01.trans (hb2.mono hz)⟩
set_option maxRecDepth 100000 in
set_option maxHeartbeats 1600000 in
theorem torder_any (n : Int) (a : Option Addr) (cap : Nat) (es : List E2) (w : World) (he : EdgesAt w (.slice a es.length cap) es) (hT : TzAt w) :
    Calls Tryd.prog 55 #[.agg #[.int .i64 n, .slice a es.length cap]] w (TPost w (ordX n es)) := by
  have hb0 : Below w.heap.size w (w.alloc (.cells #[.int .i64 n, .slice a es.length cap] 27)) := (Below.refl _ _).alloc (Nat.le_refl _) _
  have hG0 := heap_alloc_new w (.cells #[.int .i64 n, .slice a es.length cap] 27)
  have hck := fun W h => gcheck_any n a cap es W h
  unfold TPost ordX
  by_cases hC : checkS n es = 0
  case neg =>
    rw [if_pos hC]
    obtain ⟨C, hCC⟩ : ∃ C, checkS n es = C := ⟨_, rfl⟩
    rw [hCC] at hck hC ⊢
    have d1 : (C != 0) = true := by simpa using hC
    have d2 : (C == 0) = false := by simpa using hC
    clear hC hCC
    go_enter Tryd.func55, Tryd.ntmps55
    go_wp2_with fail
    refine (hck _ (he.below hb0)).mono ?_
    rintro e w1 ⟨rfl, hb1⟩
    go_wp2_with fail
    go_ret2
    exact ⟨none, 0, rfl, ints_nil _, fun p h => (by cases h), hb0.trans (hb1.mono hb0.size)⟩
  have hv := (valid_iff n es).1 hC
  rw [if_neg (by simpa using hC)]
  rw [hC] at hck
  obtain ⟨n, rfl⟩ := Int.eq_ofNat_of_zero_le hv.1
  rw [Int.toNat_natCast]
  go_enter Tryd.func55, Tryd.ntmps55
  go_wp2_with fail
  refine (hck _ (he.below hb0)).mono ?_
  rintro e w1 ⟨rfl, hb1⟩
  have hb01 := hb0.trans (hb1.mono hb0.size)
  have hG1 := lit_next' hb1 hG0
  have g0 : w1.cell? ⟨w.heap.size, 0, none⟩ = some (.int .i64 n) := by rw [cell_blk hG1]; rfl
  have g1 : w1.cell? ⟨w.heap.size, 1, none⟩ = some (.slice a es.length cap) := by rw [cell_blk hG1]; rfl
  clear hck hG0 hb0 hb1
  go_wp2_with fail
  refine (tpeel_any n a cap es _ (he.below hb01) hv (hT.below hb01)).mono ?_
  rintro e w2 ⟨ao, co, nb, rfl, hi, -, -, hao, hb2⟩
  have hl := ordT_length es n
  have hz := hb01.size
  rw [← hl] at hi
  go_wp2_with fail
  go_ret2
  exact ⟨_, _, by rw [hl]; rfl, hi, fun p h => Nat.le_trans hz (hao p h), hb01.trans (hb2.mono hz)⟩
set_option maxRecDepth 100000 in
set_option maxHeartbeats 1600000 in
theorem tsupport_any (n : Int) (a : Option Addr) (cap : Nat) (es : List E2) (w : World) (he : EdgesAt w (.slice a es.length cap) es) (hT : TzAt w) :
    Calls Tryd.prog 61 #[.agg #[.int .i64 n, .slice a es.length cap]] w (TPost w (supX n es)) := by
  have hb0 : Below w.heap.size w (w.alloc (.cells #[.int .i64 n, .slice a es.length cap] 27)) := (Below.refl _ _).alloc (Nat.le_refl _) _
  have hG0 := heap_alloc_new w (.cells #[.int .i64 n, .slice a es.length cap] 27)
  have hck := fun W h => gcheck_any n a cap es W h
  unfold TPost supX
  by_cases hC : checkS n es = 0
  case neg =>
    rw [if_pos hC]
    obtain ⟨C, hCC⟩ : ∃ C, checkS n es = C := ⟨_, rfl⟩
    rw [hCC] at hck hC ⊢
    have d1 : (C != 0) = true := by simpa using hC
    have d2 : (C == 0) = false := by simpa using hC
    clear hC hCC
    go_enter Tryd.func61, Tryd.ntmps61
    go_wp2_with fail
    refine (hck _ (he.below hb0)).mono ?_
    rintro e w1 ⟨rfl, hb1⟩
    go_wp2_with fail
    go_ret2
    exact ⟨none, 0, rfl, ints_nil _, fun p h => (by cases h), hb0.trans (hb1.mono hb0.size)⟩
  have hv := (valid_iff n es).1 hC
  rw [if_neg (by simpa using hC)]
  rw [hC] at hck
  obtain ⟨n, rfl⟩ := Int.eq_ofNat_of_zero_le hv.1
  rw [Int.toNat_natCast]
  have hel := hv.length_le
  go_enter Tryd.func61, Tryd.ntmps61
  go_wp2_with fail
  refine (hck _ (he.below hb0)).mono ?_
  rintro e w1 ⟨rfl, hb1⟩
  have hb01 := hb0.trans (hb1.mono hb0.size)
  have hG1 := lit_next' hb1 hG0
  have g0 : w1.cell? ⟨w.heap.size, 0, none⟩ = some (.int .i64 n) := by rw [cell_blk hG1]; rfl
  have g1 : w1.cell? ⟨w.heap.size, 1, none⟩ = some (.slice a es.length cap) := by rw [cell_blk hG1]; rfl
  clear hck hG0 hb0 hb1
  go_wp2_with fail
  refine (triangles_any n a cap es _ (he.below hb01) hv (hT.below hb01)).mono ?_
  rintro e wT ⟨G, rfl, hGw, hTr, hbT⟩
  have hb0T := hb01.trans (hbT.mono hb01.size)
  clear hb01 hG1 g0 g1 hbT hGw
  go_wp2_with fail
  go_loopw [5, 16] (fun vo vi wr => ∃ k : Nat, k ≤ es.length ∧ vi = .int .i64 k ∧ wr.ownsRow wT.heap.size 3 1 vo k (intsV (supV es n k)) ∧ Below wT.heap.size wT wr) (fun _ vi _ => es.length - (intOf vi).toNat)
  case atStart => exact ⟨0, Nat.zero_le _, rfl, World.ownsRow_nil _ _ _ _, Below.refl _ _⟩
  case round =>
    obtain ⟨k, hk, rfl, hown, hb⟩ := hrel
    obtain ⟨ao, co, hvo⟩ := owns_shape hown
    subst hvo
    by_cases hlt : k < es.length
    · have hlt3 : (k : Int) < es.length := by omega
      obtain ⟨a7, c7, q0, hr7⟩ := (hTr.below hb).row k hlt
      have hst := supV_step es n k
      have hsl := supV_length es n k
      have HS := Lib.hid hst
      have hlx := ints_lit1 wr ((triN es n k).length : Int) 3
      have hownA := hown.alloc (.cells #[.int .i64 ((triN es n k).length : Int)] 3)
      have hbA := hb.alloc hb.size (.cells #[.int .i64 ((triN es n k).length : Int)] 3)
      clear hr7 hst
      generalize (triN es n k).length = lk at *
      go_wp2_with (at_builtin; refine wpList_app_ints intsT rfl _ _ rfl wT.heap.size (.slice ao k co) _ (supV es n k) [(lk : Int)] rfl (by rw [hsl]; exact hownA) rfl hlx (by rw [hsl]; simp; omega) hbA.size ?_; intro v6 w6 hown6 hg6)
      have hl6 : (supV es n k ++ [(lk : Int)]).length = k + 1 := by rw [List.length_append, hsl]; rfl
      rw [hl6, ← HS.out] at hown6
      go_roundw
      case rel => exact ⟨k + 1, by omega, by go_num, hown6, hbA.grown hg6 hbA.size (fun g e => (hownA.lt g e).1)⟩
      case measure => simp [intOf]; omega
    · obtain rfl : k = es.length := by omega
      have hsl := supV_length es n es.length
      obtain ⟨a8, c8, hv8, hi8, hp8⟩ := IntsAt.of_owns (xs := supV es n es.length) (by rw [hsl]; exact hown) (by omega)
      rw [hsl] at hv8
      cases hv8
      have hz := hb0T.size
      go_wp2_with fail
      go_ret2
      exact ⟨_, _, by rw [hsl]; rfl, hi8, fun p h => Nat.le_trans hz (hp8 p h), hb0T.trans (hb.mono hz)⟩
end Go.Proofs.YtbkacbbhiecnkaaDoor
