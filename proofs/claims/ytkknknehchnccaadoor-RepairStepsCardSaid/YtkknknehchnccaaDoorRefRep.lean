/- The contracts of the reference's Open and Same, and of the law's own example. -/
import Derived.Test.YtkknknehchnccaaDoorRepId
import Derived.Test.YtkknknehchnccaaDoorSameI
import Derived.Test.YtkknknehchnccaaDoorGrSame
namespace Go.Proofs.YtkknknehchnccaaDoor
open Go.RowKit Go.BigFrame

set_option maxRecDepth 100000 in
set_option maxHeartbeats 3200000 in
theorem ropen11_any (n : Int) (a : Option Addr) (cap : Nat) (es : List E2) (w : World) (he : EdgesAt w (.slice a es.length cap) es) :
    Calls Tryd.prog 38 #[.agg #[.int .i64 n, .slice a es.length cap]] w (OPost w (copX n es)) := by
  have hnu := fun W h1 => rnumbers10_any n a cap es W h1
  unfold TPost corX at hnu
  unfold copX
  have hg0 := heap_alloc_new w (.cells #[.int .i64 n, .slice a es.length cap] 25)
  obtain ⟨wA, hwA⟩ : ∃ W : World, W = (w.alloc (.cells #[.int .i64 n, .slice a es.length cap] 25)).alloc (.cells #[.int .i64 0, .slice none 0 0, .slice none 0 0] 62) := ⟨_, rfl⟩
  have hGA : wA.heap[w.heap.size]? = some (.cells #[.int .i64 n, .slice a es.length cap] 25 (0, 0)) := by rw [hwA, Below.heap_alloc _ _ _ (by simp)]; exact hg0
  have hRA : wA.heap[w.heap.size + 1]? = some (.cells #[.int .i64 0, .slice none 0 0, .slice none 0 0] 62 (0, 0)) := by
    rw [hwA]
    have := heap_alloc_new (w.alloc (.cells #[.int .i64 n, .slice a es.length cap] 25)) (.cells #[.int .i64 0, .slice none 0 0, .slice none 0 0] 62)
    simpa using this
  have hbA : Below w.heap.size w wA := by rw [hwA]; exact ((Below.refl _ _).alloc (Nat.le_refl _) _).alloc (by simp) _
  have HWA := Lib.hid hwA
  clear hwA hg0
  obtain ⟨k0, k1⟩ := cells2 hGA
  by_cases hC : checkS n es = 0
  case neg =>
    rw [if_pos hC] at hnu ⊢
    obtain ⟨C, hCC⟩ : ∃ C, checkS n es = C := ⟨_, rfl⟩
    rw [hCC] at hnu hC ⊢
    have d1 : (C != 0) = true := by simpa using hC
    have d2 : (C == 0) = false := by simpa using hC
    clear hC hCC
    go_enter Tryd.func38, Tryd.ntmps38
    go_wp2_with (rw [← HWA.out])
    refine (hnu wA (he.below hbA)).mono ?_
    rintro e w1 ⟨ai, ci, rfl, -, -, hb1⟩
    have hR1 := lit_next' hb1 hRA
    obtain ⟨r0, r1, r2⟩ := cells3 hR1
    obtain ⟨f0, f1, f2⟩ := frees3 hR1
    have hF := set3_at hR1 (.int .i64 0) (.slice none 0 0) (.slice none 0 0)
    have hbF := (hbA.trans (hb1.mono hbA.size)).grown (set3_grown w1 (w.heap.size + 1) (.int .i64 0) (.slice none 0 0) (.slice none 0 0)) (Nat.le_trans hbA.size hb1.size) (fun k e => by cases e; omega)
    obtain ⟨t0, t1, t2⟩ := cells3 hF
    unfold set3 at t0 t1 t2 hbF
    clear hR1 hF hb1 hbA hRA hGA k0 k1
    go_wp2_with fail
    exact bodyPost_ret (v := .tuple #[.agg #[.int .i64 0, .slice none 0 0, .slice none 0 0], .int .i64 C]) (by simp [results, Tryd.results38, go_sem, t0, t1, t2]) rfl ⟨none, 0, none, 0, rfl, CIn.void _ _, hbF⟩
  have hv := (valid_iff n es).1 hC
  rw [if_neg (by simpa using hC)] at hnu ⊢
  clear hC
  obtain ⟨n, rfl⟩ := Int.eq_ofNat_of_zero_le hv.1
  rw [Int.toNat_natCast] at hnu ⊢
  have hel := hv.length_le
  unfold crN
  generalize corT es n = l at *
  dsimp only at hnu ⊢
  go_enter Tryd.func38, Tryd.ntmps38
  go_wp2_with (rw [← HWA.out])
  refine (hnu wA (he.below hbA)).mono ?_
  rintro e w1 ⟨ai, ci, rfl, hi1, hai, hb1⟩
  have hG1 := lit_next' hb1 hGA
  have hR1 := lit_next' hb1 hRA
  have hbw1 := hbA.trans (hb1.mono hbA.size)
  have hzA : w.heap.size + 1 < wA.heap.size := blk_lt hRA
  have hcx : ∀ W : World, W.heap[w.heap.size]? = some (.cells #[.int .i64 n, .slice a es.length cap] 25 (0, 0)) → W.cell? ⟨w.heap.size, 0, none⟩ = some (.int .i64 n) ∧ W.cell? ⟨w.heap.size, 1, none⟩ = some (.slice a es.length cap) := fun W h => cells2 h
  have hG1d : w1.drew.heap[w.heap.size]? = some (.cells #[.int .i64 n, .slice a es.length cap] 25 (0, 0)) := hG1
  have hed := he.below hbw1.drew
  clear k0 k1 hGA hRA hnu
  go_wp2_with fail
  go_region_held3 (fun w' => w'.cell? ⟨w.heap.size, 0, none⟩ = some (.int .i64 n) ∧ w'.cell? ⟨w.heap.size, 1, none⟩ = some (.slice a es.length cap))
    (first
      | with_reducible exact hcx _ hG4
      | with_reducible exact hcx _ hG1d
      | with_reducible exact hcxF)
    (first
      | (refine step_app_edges edgesT rfl (.const (.slice none 0 0)) (.tmp 18) rfl w1.drew.heap.size (.slice none 0 0) (.slice a es.length cap) [] es rfl (by exact World.ownsRow_nil _ _ _ _) rfl (by exact hed) (by simp; omega) (Nat.le_refl _) ?_; intro x4 w4 hown4 hg4; have hb4 := below_of_grown hg4; simp only [List.nil_append] at hown4; obtain ⟨a4, c4, rfl, he4, ha4⟩ := EdgesAt.of_owns hown4 (by omega); have hG4 := lit_next' (w := w1.drew) hb4 hG1d; have hR4 := lit_next' (w := w1.drew) hb4 hR1; obtain ⟨s0, s1, s2⟩ := cells3 hR4; obtain ⟨q0, q1, q2⟩ := frees3 hR4; have hcxF := hcx _ ((set3_other w4 (w.heap.size + 1) w.heap.size (.int .i64 n) (.slice a4 es.length c4) (.slice ai l.length ci) (by omega)).trans hG4); unfold set3 at hcxF))
  have hgF := set3_grown w4 (w.heap.size + 1) (.int .i64 n) (.slice a4 es.length c4) (.slice ai l.length ci)
  have hF := set3_at hR4 (.int .i64 n) (.slice a4 es.length c4) (.slice ai l.length ci)
  have hbF := (hbw1.drew.trans (hb4.mono hbw1.drew.size)).grown hgF (Nat.le_trans hbw1.drew.size hb4.size) (fun k e => by cases e; omega)
  have hd1 : w1.drew.heap.size = w1.heap.size := rfl
  have hs1 := hb1.size
  have hC4 : CIn w4 (w.heap.size + 2) a4 c4 es ai ci l := ⟨he4, IntsAt.below (w := w1.drew) hi1 hb4, fun p hp => by have := ha4 p hp; omega, fun p hp => by have := hai p hp; omega⟩
  have hCF := (hC4.grown hgF (fun k e => by cases e; omega)).mono (show w.heap.size ≤ w.heap.size + 2 by omega)
  obtain ⟨t0, t1, t2⟩ := cells3 hF
  unfold set3 at t0 t1 t2 hbF hCF
  have HFF := Lib.hid (And.intro hCF hbF)
  clear hgF hF hbF hCF hC4 hR4 hG4 hcxF hi1 he4
  go_wp2_with fail
  exact bodyPost_ret (v := .tuple #[.agg #[.int .i64 n, .slice a4 es.length c4, .slice ai l.length ci], .int .i64 0]) (by simp [results, Tryd.results38, go_sem, t0, t1, t2]) rfl ⟨a4, c4, ai, ci, rfl, HFF.out.1, HFF.out.2⟩
set_option maxRecDepth 100000 in
set_option maxHeartbeats 1600000 in
theorem rsame11_same (n : Int) (a b a2 b2 : Option Addr) (ca cb ca2 cb2 : Nat) (es : List E2) (l : List Int) (w : World) (h1 : EdgesAt w (.slice a es.length ca) es) (i1 : IntsAt w (.slice b l.length cb) l) (h2 : EdgesAt w (.slice a2 es.length ca2) es) (i2 : IntsAt w (.slice b2 l.length cb2) l) :
    Calls Tryd.prog 42 #[.agg #[.int .i64 n, .slice a es.length ca, .slice b l.length cb], .agg #[.int .i64 n, .slice a2 es.length ca2, .slice b2 l.length cb2]] w fun e w' => e = .returned (.bool true) ∧ Below w.heap.size w w' := by
  have hl : es.length ≤ 70368744177664 := by obtain ⟨_, _, _, _, _, h, _⟩ := h1; exact h
  obtain ⟨wA, hwA⟩ : ∃ W : World, W = (w.alloc (.cells #[.int .i64 n, .slice a es.length ca, .slice b l.length cb] 62)).alloc (.cells #[.int .i64 n, .slice a2 es.length ca2, .slice b2 l.length cb2] 62) := ⟨_, rfl⟩
  have h0 := Bx4.start w (.int .i64 n) (.slice a es.length ca) (.slice b l.length cb) (.int .i64 n) (.slice a2 es.length ca2) (.slice b2 l.length cb2)
  rw [← hwA] at h0
  have HWA := Lib.hid hwA
  clear hwA
  obtain ⟨k0, k1, k2⟩ := cells3 h0.c
  obtain ⟨o0, o1, o2⟩ := cells3 h0.o
  go_enter Tryd.func42, Tryd.ntmps42
  go_wp2_with (rw [← HWA.out])
  refine (gsame_same n a a2 ca ca2 es wA (h1.below h0.be) (h2.below h0.be) hl).mono ?_
  rintro e w1 ⟨rfl, hb1⟩
  have hx1 := h0.next hb1
  clear k0 k1 k2 o0 o1 o2
  obtain ⟨k0, k1, k2⟩ := cells3 hx1.c
  obtain ⟨o0, o1, o2⟩ := cells3 hx1.o
  go_wp2_with fail
  refine (isame_same b b2 cb cb2 l w1 (i1.below hx1.be) (i2.below hx1.be)).mono ?_
  rintro e w2 ⟨rfl, hb2⟩
  have hbe := hx1.be.trans (hb2.mono hx1.be.size)
  go_wp2_with fail
  go_ret
  exact ⟨rfl, hbe⟩
def p3 : List E2 := [(0, 1), (1, 2)]
def p3x : List E2 := [(0, 1), (0, 2), (1, 2)]
theorem p3_open : copX 3 p3 = (crN 3 p3, 0) := by unfold copX; rw [if_neg (by decide)]; rfl
theorem p3_ins : cinsX (crN 3 p3) 0 2 = (⟨3, p3x, [2, 2, 2]⟩, [0, 1, 2], 0) := by
  have h1 : crE (crN 3 p3) 0 2 = 0 := by decide +kernel
  have h2 : insE p3 (min 0 2, max 0 2) = p3x := by decide +kernel
  have h3 : corT p3x 3 = [2, 2, 2] := by decide +kernel
  have h4 : chgL 3 (corT p3 3) [2, 2, 2] = [0, 1, 2] := by decide +kernel
  unfold cinsX
  rw [if_neg (by rw [h1]; simp), if_neg (show ¬ (min (0 : Int) 2, max (0 : Int) 2) ∈ (crN 3 p3).es from (show ¬ (min (0 : Int) 2, max (0 : Int) 2) ∈ p3 by decide))]
  show (crN 3 (insE p3 (min 0 2, max 0 2)), chgL 3 (corT p3 3) (corT (insE p3 (min 0 2, max 0 2)) 3), (0 : Int)) = _
  rw [h2, h3, h4]
  unfold crN
  rw [h3]
  rfl
theorem p3_ok : crOk ⟨3, p3x, [2, 2, 2]⟩ = true := by decide +kernel
theorem ints_lit3 (w : World) (x y z : Int) (T : TypeId) : IntsAt (w.alloc (.cells #[.int .i64 x, .int .i64 y, .int .i64 z] T)) (.slice (some ⟨w.heap.size, 0, none⟩) 3 3) [x, y, z] := by
  refine ⟨_, 3, rfl, by simp, (fun h => by cases h), by simp, fun i u hi => ⟨w.heap.size, 0, rfl, ?_⟩⟩
  rw [cell_blk (heap_alloc_new _ _), Nat.zero_add]
  match i, hi with
  | 0, hi => simpa using hi
  | 1, hi => simpa using hi
  | 2, hi => simpa using hi
  | (_ + 3), hi => simp at hi
set_option maxRecDepth 100000 in
set_option maxHeartbeats 3200000 in
theorem awake11_any (w : World) (hT : TzAt w) : Calls Tryd.prog 39 #[] w fun e w' => e = .returned (.bool true) ∧ Below w.heap.size w w' := by
  have hb0 : Below w.heap.size w (w.alloc (.cells #[.int .i64 0, .int .i64 1, .int .i64 1, .int .i64 2] 39)) := (Below.refl _ _).alloc (Nat.le_refl _) _
  have he0 : EdgesAt (w.alloc (.cells #[.int .i64 0, .int .i64 1, .int .i64 1, .int .i64 2] 39)) (.slice (some ⟨w.heap.size, 0, none⟩) 2 2) p3 := by
    refine ⟨_, 2, rfl, by decide, (fun h => by cases h), by decide, fun i e hi => ⟨w.heap.size, 0, rfl, ?_, ?_⟩⟩
    all_goals
      rw [cell_blk (heap_alloc_new _ _), Nat.zero_add]
      match i, hi with
      | 0, hi => cases hi; rfl
      | 1, hi => cases hi; rfl
      | (_ + 2), hi => cases hi
  have hop := rpopen_any 3 (some ⟨w.heap.size, 0, none⟩) 2 p3 _ he0 (hT.below hb0)
  rw [p3_open] at hop
  go_enter Tryd.func39, Tryd.ntmps39
  go_wp2_with fail
  refine hop.mono ?_
  rintro e w1 ⟨a1, c1, b1, d1, rfl, hC1, hb1⟩
  have hb01 := hb0.trans (hb1.mono hb0.size)
  unfold crN at hC1
  dsimp only at hC1
  obtain ⟨hbx, hbb⟩ := box_new w1 #[.int .i64 3, .slice a1 p3.length c1, .slice b1 (corT p3 3).length d1] 62
  have hins := rpinsert_any 3 0 2 a1 b1 c1 d1 p3 (corT p3 3) _ (hC1.below hbb).e (hC1.below hbb).i (hT.below (hb01.trans (hbb.mono hb01.size)))
  rw [show (⟨3, p3, corT p3 3⟩ : Cr) = crN 3 p3 from rfl, p3_ins] at hins
  have hb02 := hb01.trans (hbb.mono hb01.size)
  go_wp2_with fail
  refine hins.mono ?_
  rintro e w2 ⟨a2, c2, b2, d2, a3, c3, rfl, hC2, hi3, -, hb2⟩
  dsimp only at hC2 hi3
  have hb03 := hb02.trans (hb2.mono hb02.size)
  obtain ⟨hcx, hcb⟩ := box_new w2 #[.int .i64 3, .slice a2 p3x.length c2, .slice b2 3 d2] 62
  have hb04 := hb03.trans (hcb.mono hb03.size)
  have hC3 := hC2.below hcb
  have hi4 := hi3.below hcb
  obtain ⟨w3, hw3⟩ : ∃ W : World, W = w2.alloc (.cells #[.int .i64 3, .slice a2 p3x.length c2, .slice b2 3 d2] 62) := ⟨_, rfl⟩
  rw [← hw3] at hcx hb04 hC3 hi4
  have HW3 := Lib.hid hw3
  obtain ⟨x0, x1, x2⟩ := cells3 hcx
  have hl1 := ints_lit3 w3 2 2 2 3
  have hbA := (Below.refl w3.heap.size w3).alloc (Nat.le_refl _) (.cells #[.int .i64 2, .int .i64 2, .int .i64 2] 3)
  have hs1 := isame_same b2 (some ⟨w3.heap.size, 0, none⟩) d2 3 [2, 2, 2] _ (hC3.i.below hbA) hl1
  clear hw3 hop hins hbb hbx hb01 hb0 he0 hC1 hcb hb2 hb1
  go_upto_region 3 with fail
  rw [← HW3.out]
  go_wp2_with fail
  refine (show Calls Tryd.prog 17 #[.slice b2 3 d2, .slice (some ⟨w3.heap.size, 0, none⟩) 3 3] _ _ from hs1).mono ?_
  rintro e w4 ⟨rfl, hb4⟩
  have hb34 := hbA.trans (hb4.mono hbA.size)
  have hcx4 := lit_next' hb34 hcx
  clear x0 x1 x2
  obtain ⟨x0, x1, x2⟩ := cells3 hcx4
  have hl2 := ints_lit3 w4 0 1 2 3
  have hbB := (Below.refl w4.heap.size w4).alloc (Nat.le_refl _) (.cells #[.int .i64 0, .int .i64 1, .int .i64 2] 3)
  have hs2 := isame_same a3 (some ⟨w4.heap.size, 0, none⟩) c3 3 [0, 1, 2] _ ((hi4.below hb34).below hbB) hl2
  go_wp2_with fail
  refine (show Calls Tryd.prog 17 #[.slice a3 3 c3, .slice (some ⟨w4.heap.size, 0, none⟩) 3 3] _ _ from hs2).mono ?_
  rintro e w5 ⟨rfl, hb5⟩
  have hb45 := hbB.trans (hb5.mono hbB.size)
  have hb35 := hb34.trans (hb45.mono hb34.size)
  have hcx5 := lit_next' hb45 hcx4
  clear x0 x1 x2
  obtain ⟨x0, x1, x2⟩ := cells3 hcx5
  have hb05 := hb04.trans (hb35.mono hb04.size)
  have hva := rpvalid_any 3 a2 b2 c2 d2 p3x [2, 2, 2] w5 (hC3.below hb35).e (hC3.below hb35).i (hT.below hb05)
  rw [p3_ok] at hva
  go_wp2_with fail
  refine (show Calls Tryd.prog 46 #[.agg #[.int .i64 3, .slice a2 p3x.length c2, .slice b2 3 d2]] _ _ from hva).mono ?_
  rintro e w6 ⟨rfl, hb6⟩
  have hbe := hb05.trans (hb6.mono hb05.size)
  go_wp2_with fail
  go_ret
  exact ⟨rfl, hbe⟩
end Go.Proofs.YtkknknehchnccaaDoor
