/- The contract of law36's awake. -/
import Derived.Test.YtdkmdcdoiaelfaaExTri
import Derived.Test.YtdkmdcdoiaelfaaExCor
import Derived.Test.YtdkmdcdoiaelfaaRefBld
import Derived.Test.YtdkmdcdoiaelfaaSameI
namespace Go.Proofs.Ytdkmdcdoiaelfaa
open Go.RowKit Go.BigFrame

/-- three numbers in order -/
def sort3 (a b c : Int) : List Int := if a ≤ b then (if b ≤ c then [a, b, c] else if a ≤ c then [a, c, b] else [c, a, b]) else (if a ≤ c then [b, a, c] else if b ≤ c then [b, c, a] else [c, b, a])
theorem srt_sort3 (a b c : Int) : srt [a, b, c] = sort3 a b c := by
  refine List.Perm.eq_of_pairwise (le := fun x y : Int => x ≤ y) (fun x y _ _ h1 h2 => Int.le_antisymm h1 h2) (srt_asc _) ?_ ((srt_perm _).trans ?_)
  · unfold sort3; split <;> split <;> (try split) <;> simp <;> omega
  · unfold sort3
    split <;> split <;> (try split)
    · exact List.Perm.refl _
    · exact List.Perm.cons _ (List.Perm.swap _ _ _)
    · exact (List.Perm.cons _ (List.Perm.swap _ _ _)).trans (List.Perm.swap _ _ _)
    · exact List.Perm.swap _ _ _
    · exact (List.Perm.swap _ _ _).trans (List.Perm.cons _ (List.Perm.swap _ _ _))
    · exact ((List.Perm.swap _ _ _).trans (List.Perm.cons _ (List.Perm.swap _ _ _))).trans (List.Perm.swap _ _ _)
def amW3 (part : List E2) (g : Int) (W : List Int) (x : E2) (w : Int) : Bool := !decide (w < x.2) && (decide (w ∈ rowR part x.1.toNat) && decide (sort3 (x.1.tmod g) (x.2.tmod g) (w.tmod g) = W))
theorem amW_3 (part : List E2) (g : Int) (W : List Int) (x : E2) (w : Int) : amW part g W x w = amW3 part g W x w := by unfold amW amW3; rw [srt_sort3]
def triC (rs : List E2) (g i j k : Nat) : Nat := ((partX rs g i j k).map fun x => if x.2 < x.1 then 0 else (rowR (partX rs g i j k) x.2.toNat).countP (amW3 (partX rs g i j k) g [(i : Int), (j : Int), (k : Int)] x)).sum
theorem triF_C (rs : List E2) (g : Nat) : triF rs g = triC rs g := by
  funext i j k
  unfold triF triC amN
  congr 2
  funext x
  unfold amX
  rw [show amW (partX rs g i j k) g [(i : Int), (j : Int), (k : Int)] x = amW3 (partX rs g i j k) g [(i : Int), (j : Int), (k : Int)] x from funext fun w => amW_3 _ _ _ _ _]
def p3t : List E2 := [(0, 1), (0, 2), (1, 2)]
def r3t : List E2 := [(0, 1), (0, 2), (1, 0), (1, 2), (2, 0), (2, 1)]
theorem p3t_bld : bldX 3 p3t 2 = (2, r3t, 0) := by decide +kernel
theorem r3t_cor : corXR 2 3 r3t = ([2, 2, 2], 1, 0) := by decide +kernel
theorem r3t_gr : graphR 2 64 r3t = (64, p3t, 0) := by decide +kernel
theorem r3t_tri : ∃ c : Nat, triXR 2 2 r3t = (1, c, 0) := by
  unfold triXR
  rw [r3t_gr, if_neg (by decide), if_neg (by decide), triF_C]
  exact ⟨_, Prod.ext (show cubeR (triC r3t (2 : Int).toNat) (2 : Int).toNat = 1 by decide +kernel) rfl⟩
theorem ints_lit3a (w : World) (x y z : Int) (T : TypeId) : IntsAt (w.alloc (.cells #[.int .i64 x, .int .i64 y, .int .i64 z] T)) (.slice (some ⟨w.heap.size, 0, none⟩) 3 3) [x, y, z] := by
  refine ⟨_, 3, rfl, by simp, (fun h => by cases h), by simp, fun i u hi => ⟨w.heap.size, 0, rfl, ?_⟩⟩
  rw [cell_blk (heap_alloc_new _ _), Nat.zero_add]
  match i, hi with
  | 0, hi => simpa using hi
  | 1, hi => simpa using hi
  | 2, hi => simpa using hi
set_option maxRecDepth 100000 in
set_option maxHeartbeats 3200000 in
theorem awake36_any (w : World) : Calls Try.prog 15 #[] w fun e w' => e = .returned (.bool true) ∧ Below w.heap.size w w' := by
  have hb0 : Below w.heap.size w (w.alloc (.cells #[.int .i64 0, .int .i64 1, .int .i64 0, .int .i64 2, .int .i64 1, .int .i64 2] 73)) := (Below.refl _ _).alloc (Nat.le_refl _) _
  have he0 : EdgesAt (w.alloc (.cells #[.int .i64 0, .int .i64 1, .int .i64 0, .int .i64 2, .int .i64 1, .int .i64 2] 73)) (.slice (some ⟨w.heap.size, 0, none⟩) 3 3) p3t := by
    refine ⟨_, 3, rfl, by decide, (fun h => by cases h), by decide, fun i e hi => ⟨w.heap.size, 0, rfl, ?_, ?_⟩⟩
    all_goals
      rw [cell_blk (heap_alloc_new _ _), Nat.zero_add]
      match i, hi with
      | 0, hi => cases hi; rfl
      | 1, hi => cases hi; rfl
      | 2, hi => cases hi; rfl
      | (_ + 3), hi => cases hi
  have hop := build34_any 3 (some ⟨w.heap.size, 0, none⟩) 3 p3t 2 _ he0
  rw [p3t_bld] at hop
  unfold RGPost at hop
  dsimp only at hop
  go_enter Try.func15, Try.ntmps15
  go_wp2_with fail
  refine hop.mono ?_
  rintro e w1 ⟨a1, c1, rfl, hR1, -, hb1⟩
  have hb01 := hb0.trans (hb1.mono hb0.size)
  obtain ⟨hbx, hbb⟩ := boxG_new w1 #[.int .i64 2, .slice a1 r3t.length c1] 33
  have hb02 := hb01.trans (hbb.mono hb01.size)
  have hR2 := hR1.below hbb
  obtain ⟨w2, hw2⟩ : ∃ W : World, W = w1.alloc (.cells #[.int .i64 2, .slice a1 r3t.length c1] 33) := ⟨_, rfl⟩
  obtain ⟨Bx, hBx⟩ : ∃ B, w1.heap.size = B := ⟨_, rfl⟩
  rw [← hw2] at hbx hb02 hR2
  rw [hBx] at hbx
  have HW2 := Lib.hid hw2
  have HBx := Lib.hid hBx
  clear hw2 hBx hbb hR1 hb1 hb01 hop hb0 he0
  obtain ⟨x0, x1⟩ := cells2R hbx
  have hco := excor_any 2 3 a1 c1 r3t w2 hR2 (by decide)
  rw [r3t_cor] at hco
  unfold CPost at hco
  dsimp only at hco
  go_upto_region 2 with fail
  rw [← HW2.out, HBx.out]
  go_wp2_with fail
  refine hco.mono ?_
  rintro e w3 ⟨a3, c3, rfl, hi3, -, hb3⟩
  have hb03 := hb02.trans (hb3.mono hb02.size)
  have hbx3 := lit_next' hb3 hbx
  clear x0 x1 hco
  obtain ⟨x0, x1⟩ := cells2R hbx3
  obtain ⟨C, hC⟩ := r3t_tri
  have htr := extri_any 2 2 a1 c1 r3t w3 (hR2.below hb3) (by decide)
  rw [hC] at htr
  unfold T3Post at htr
  dsimp only at htr
  clear hC
  go_wp2_with fail
  refine htr.mono ?_
  rintro e w4 ⟨rfl, hb4⟩
  have hb04 := hb03.trans (hb4.mono hb03.size)
  have hl1 := ints_lit3a w4 2 2 2 3
  have hbA := (Below.refl w4.heap.size w4).alloc (Nat.le_refl _) (.cells #[.int .i64 2, .int .i64 2, .int .i64 2] 3)
  have hs1 := icmp_same a3 (some ⟨w4.heap.size, 0, none⟩) c3 3 [2, 2, 2] _ ((hi3.below hb4).below hbA) hl1
  go_wp2_with fail
  refine (show Calls Try.prog 25 #[.slice a3 3 c3, .slice (some ⟨w4.heap.size, 0, none⟩) 3 3] _ _ from hs1).mono ?_
  rintro e w5 ⟨rfl, hb5⟩
  have hb45 := hbA.trans (hb5.mono hbA.size)
  have hbe := hb04.trans (hb45.mono hb04.size)
  go_wp2_with fail
  go_ret
  exact ⟨rfl, hbe⟩
end Go.Proofs.Ytdkmdcdoiaelfaa
