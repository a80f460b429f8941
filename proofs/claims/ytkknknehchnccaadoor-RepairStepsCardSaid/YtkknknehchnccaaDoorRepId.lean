/- The contracts of the program's Insert and Delete, for any graph and numbers. Printed by wip/mkrepid.py. -/
import Derived.Test.YtkknknehchnccaaDoorRepFns
import Derived.Deep.DeepCutAuto
namespace Go.Proofs.YtkknknehchnccaaDoor
open Go.RowKit Go.BigFrame

/-- the box of the argument, and the box of the result -/
structure Bx4 (w : World) (c0 c1 c2 y0 y1 y2 : Value) (wr : World) : Prop where
  c : wr.heap[w.heap.size]? = some (.cells #[c0, c1, c2] 62 (0, 0))
  o : wr.heap[w.heap.size + 1]? = some (.cells #[y0, y1, y2] 62 (0, 0))
  be : Below w.heap.size w wr
section
variable {w wr w' : World} {c0 c1 c2 y0 y1 y2 : Value}
theorem Bx4.next (h : Bx4 w c0 c1 c2 y0 y1 y2 wr) (hb : Below wr.heap.size wr w') : Bx4 w c0 c1 c2 y0 y1 y2 w' := ⟨lit_next' hb h.c, lit_next' hb h.o, h.be.trans (hb.mono h.be.size)⟩
theorem Bx4.base (h : Bx4 w c0 c1 c2 y0 y1 y2 wr) : w.heap.size + 2 ≤ wr.heap.size := blk_lt h.o
theorem Bx4.grown {r : Option Nat} (h : Bx4 w c0 c1 c2 y0 y1 y2 wr) (hg : wr.grownBy w' r) (hr : ∀ k, r = some k → w.heap.size + 2 ≤ k) : Bx4 w c0 c1 c2 y0 y1 y2 w' :=
  ⟨grown_blk hg h.c (fun e => by have := hr _ e.symm; omega), grown_blk hg h.o (fun e => by have := hr _ e.symm; omega), h.be.grown hg h.be.size (fun k e => by have := hr k e; omega)⟩
theorem Bx4.fin (h : Bx4 w c0 c1 c2 y0 y1 y2 wr) (x0 x1 x2 : Value) : Bx4 w c0 c1 c2 x0 x1 x2 (set3 wr (w.heap.size + 1) x0 x1 x2) :=
  ⟨(set3_other _ _ _ _ _ _ (by omega)).trans h.c, set3_at h.o x0 x1 x2, h.be.grown (set3_grown _ _ _ _ _) h.be.size (fun k e => by cases e; omega)⟩
theorem Bx4.start (w : World) (c0 c1 c2 y0 y1 y2 : Value) : Bx4 w c0 c1 c2 y0 y1 y2 ((w.alloc (.cells #[c0, c1, c2] 62)).alloc (.cells #[y0, y1, y2] 62)) := by
  refine ⟨?_, ?_, ((Below.refl _ _).alloc (Nat.le_refl _) _).alloc (by simp) _⟩
  · rw [Below.heap_alloc _ _ _ (by simp)]; exact heap_alloc_new _ _
  · have := heap_alloc_new (w.alloc (.cells #[c0, c1, c2] 62)) (.cells #[y0, y1, y2] 62)
    simpa using this
end
theorem crE_chg {n p q : Nat} {es : List E2} (hv : Valid n es) (hp : p < n) (hq : q < n) (hne : p ≠ q) : chgE n es p q = 0 := by
  unfold chgE
  rw [(valid_iff n es).2 hv, if_neg (by simp), if_pos]
  rw [endsB_iff]
  omega
/-- a struct is laid into a box of its own -/
theorem box_new (w : World) (cs : Array Value) (T : TypeId) : (w.alloc (.cells cs T)).heap[w.heap.size]? = some (.cells cs T (0, 0)) ∧ Below w.heap.size w (w.alloc (.cells cs T)) := ⟨heap_alloc_new _ _, (Below.refl _ _).alloc (Nat.le_refl _) _⟩
set_option maxRecDepth 100000 in
set_option maxHeartbeats 6400000 in
theorem rpinsert_any (n u v : Int) (a a2 : Option Addr) (cap c2 : Nat) (es : List E2) (l : List Int) (w : World) (he : EdgesAt w (.slice a es.length cap) es) (hi : IntsAt w (.slice a2 l.length c2) l) (hT : TzAt w) :
    Calls Tryd.prog 40 #[.agg #[.int .i64 n, .slice a es.length cap, .slice a2 l.length c2], .int .i64 u, .int .i64 v] w (IPost w (cinsX ⟨n, es, l⟩ u v)) := by
  have h0 := Bx4.start w (.int .i64 n) (.slice a es.length cap) (.slice a2 l.length c2) (.int .i64 0) (.slice none 0 0) (.slice none 0 0)
  obtain ⟨wA, hwA⟩ : ∃ W : World, W = (w.alloc (.cells #[.int .i64 n, .slice a es.length cap, .slice a2 l.length c2] 62)).alloc (.cells #[.int .i64 0, .slice none 0 0, .slice none 0 0] 62) := ⟨_, rfl⟩
  rw [← hwA] at h0
  have HWA := Lib.hid hwA
  clear hwA
  have has := fun W h1 h2 h3 => rpasked_any n u v a a2 cap c2 es l W h1 h2 h3
  unfold cinsX IPost
  obtain ⟨C, hC⟩ : ∃ C, crE ⟨n, es, l⟩ u v = C := ⟨_, rfl⟩
  rw [hC] at has ⊢
  obtain ⟨k0, k1, k2⟩ := cells3 h0.c
  by_cases hz : C = 0
  case neg =>
    rw [if_pos hz]
    have d1 : (C != 0) = true := by simpa using hz
    have d2 : (C == 0) = false := by simpa using hz
    clear hz hC
    go_enter Tryd.func40, Tryd.ntmps40
    go_wp2_with (rw [← HWA.out])
    refine (has wA (he.below h0.be) (hi.below h0.be) (hT.below h0.be)).mono ?_
    rintro e w1 ⟨rfl, hb1⟩
    have h1 := h0.next hb1
    obtain ⟨r0, r1, r2⟩ := cells3 h1.o
    obtain ⟨f0, f1, f2⟩ := frees3 h1.o
    have hF := h1.fin (.int .i64 0) (.slice none 0 0) (.slice none 0 0)
    have hbF := hF.be
    obtain ⟨t0, t1, t2⟩ := cells3 hF.o
    unfold set3 at t0 t1 t2 hbF
    clear hF h1 h0 hb1
    go_wp2_with fail
    exact bodyPost_ret (v := .tuple #[.agg #[.int .i64 0, .slice none 0 0, .slice none 0 0], .slice none 0 0, .int .i64 C]) (by simp [results, Tryd.results40, go_sem, t0, t1, t2]) rfl ⟨none, 0, none, 0, none, 0, rfl, CIn.void _ _, ints_nil _, fun p h => (by cases h), hbF⟩
  subst hz
  rw [if_neg (by simp)]
  obtain ⟨m, p, q, hv, hc, rfl, rfl, hp, hq, hne⟩ := crE_zero hC
  unfold crN at hc
  dsimp only at hc hv
  obtain ⟨rfl, -, rfl⟩ := Cr.mk.inj hc
  clear hC hc
  dsimp only
  simp only [Int.toNat_natCast]
  have hga := fun W h => gadd_any (m : Int) a cap es (p : Int) (q : Int) W h
  have hch := crE_chg hv hp hq hne
  unfold GrPost addX at hga
  rw [hch, if_neg (by simp)] at hga
  by_cases hm : (min (p : Int) q, max (p : Int) q) ∈ es
  case pos =>
    rw [if_pos hm]
    rw [show (if (min (p : Int) q, max (p : Int) q) ∈ es then _ else _) = _ from if_pos hm] at hga
    dsimp only at hga
    simp only [List.length_nil] at hga
    go_enter Tryd.func40, Tryd.ntmps40
    go_wp2_with (rw [← HWA.out])
    refine (has wA (he.below h0.be) (hi.below h0.be) (hT.below h0.be)).mono ?_
    rintro e w1 ⟨rfl, hb1⟩
    have h1 := h0.next hb1
    clear k0 k1 k2
    obtain ⟨k0, k1, k2⟩ := cells3 h1.c
    go_wp2_with fail
    refine (hga w1 (he.below h1.be)).mono ?_
    rintro e w2 ⟨ag, cg, rfl, -, -, hb2⟩
    have h2 := h1.next hb2
    obtain ⟨-, hbb⟩ := box_new w2 #[.int .i64 0, .slice ag 0 cg] 25
    have h3 := h2.next hbb
    obtain ⟨w3, hw3⟩ : ∃ W : World, W = w2.alloc (.cells #[.int .i64 0, .slice ag 0 cg] 25) := ⟨_, rfl⟩
    rw [← hw3] at h3
    have HW3 := Lib.hid hw3
    obtain ⟨r0, r1, r2⟩ := cells3 h3.o
    obtain ⟨f0, f1, f2⟩ := frees3 h3.o
    have hF := h3.fin (.int .i64 0) (.slice none 0 0) (.slice none 0 0)
    have hbF := hF.be
    obtain ⟨t0, t1, t2⟩ := cells3 hF.o
    unfold set3 at t0 t1 t2 hbF
    have HBF := Lib.hid hbF
    clear hw3 hbF hF h3 h2 h1 h0 hb1 hb2 hbb k0 k1 k2 hch
    go_upto_region 5 with fail
    rw [← HW3.out]
    go_wp2_with fail
    exact bodyPost_ret (v := .tuple #[.agg #[.int .i64 0, .slice none 0 0, .slice none 0 0], .slice none 0 0, .int .i64 15]) (by simp [results, Tryd.results40, go_sem, t0, t1, t2]) rfl ⟨none, 0, none, 0, none, 0, rfl, CIn.void _ _, ints_nil _, fun p h => (by cases h), HBF.out⟩
  rw [if_neg hm]
  rw [show (if (min (p : Int) q, max (p : Int) q) ∈ es then _ else _) = _ from if_neg hm] at hga
  dsimp only at hga
  have hvf := hv.ins _ (ends_pair hp hq hne)
  have hlF := corT_length (insE es (min (p : Int) q, max (p : Int) q)) m
  have hins := fun ag cg W h1 h2 h3 h4 => rinsert_any m p q a a2 ag cap c2 cg es W h1 h2 h3 hv hp hq hne h4
  unfold crN
  dsimp only
  generalize insE es (min (p : Int) q, max (p : Int) q) = fs at *
  generalize chgL m (corT es m) (corT fs m) = ch at *
  have HLF := Lib.hid hlF
  clear hlF hm hch hvf
  generalize corT fs m = lf at *
  generalize corT es m = l at *
  go_enter Tryd.func40, Tryd.ntmps40
  go_wp2_with (rw [← HWA.out])
  refine (has wA (he.below h0.be) (hi.below h0.be) (hT.below h0.be)).mono ?_
  rintro e w1 ⟨rfl, hb1⟩
  have h1 := h0.next hb1
  clear k0 k1 k2
  obtain ⟨k0, k1, k2⟩ := cells3 h1.c
  go_wp2_with fail
  refine (hga w1 (he.below h1.be)).mono ?_
  rintro e w2 ⟨ag, cg, rfl, hga2, hag, hb2⟩
  have h2 := h1.next hb2
  obtain ⟨hbx, hbb⟩ := box_new w2 #[.int .i64 m, .slice ag fs.length cg] 25
  have h3 := h2.next hbb
  have hg3 := hga2.below hbb
  have hz2 := h2.base
  have hz1 := h1.base
  obtain ⟨w3, hw3⟩ : ∃ W : World, W = w2.alloc (.cells #[.int .i64 m, .slice ag fs.length cg] 25) := ⟨_, rfl⟩
  rw [← hw3] at hbx h3 hg3
  have HW3 := Lib.hid hw3
  clear hw3 k0 k1 k2 hb1 hb2 hbb h0 h1 h2
  obtain ⟨k0, k1, k2⟩ := cells3 h3.c
  obtain ⟨j0, j1⟩ := cells2 hbx
  go_wp2_with (rw [← HW3.out])
  refine (hins ag cg w3 (he.below h3.be) (hi.below h3.be) hg3 (hT.below h3.be)).mono ?_
  rintro e w4 ⟨a3, c3, a4, c4, rfl, hiL, hi4, ha3, ha4, hb4⟩
  have h4 := h3.next hb4
  have hg4 := hg3.below hb4
  obtain ⟨hcx, hcb⟩ := box_new w4 #[.int .i64 m, .slice ag fs.length cg, .slice a3 lf.length c3] 62
  have h5 := h4.next hcb
  have hC4 : CIn w4 (w.heap.size + 2) ag cg fs a3 c3 lf := ⟨hg4, hiL, fun p h => by have := hag p h; omega, fun p h => by have := ha3 p h; have := h3.base; omega⟩
  have hC5 := hC4.below hcb
  have hi5 := hi4.below hcb
  obtain ⟨r0, r1, r2⟩ := cells3 h5.o
  obtain ⟨f0, f1, f2⟩ := frees3 h5.o
  obtain ⟨x0, x1, x2⟩ := cells3 hcx
  have hF := h5.fin (.int .i64 m) (.slice ag fs.length cg) (.slice a3 lf.length c3)
  have hgF := set3_grown (w4.alloc (.cells #[.int .i64 m, .slice ag fs.length cg, .slice a3 lf.length c3] 62)) (w.heap.size + 1) (.int .i64 m) (.slice ag fs.length cg) (.slice a3 lf.length c3)
  have hCF := (hC5.grown hgF (fun k e => by cases e; omega)).mono (show w.heap.size ≤ w.heap.size + 2 by omega)
  have hiF := hi5.grown hgF (fun k e n' c' p hp => by cases e; have := ha4 p (Value.slice.inj hp).1; have := h3.base; omega)
  have hbF := hF.be
  obtain ⟨t0, t1, t2⟩ := cells3 hF.o
  have ha4' : ∀ p, a4 = some p → w.heap.size ≤ p.block := fun p hp => by have := ha4 p hp; have := h3.base; omega
  obtain ⟨w5, hw5⟩ : ∃ W : World, W = w4.alloc (.cells #[.int .i64 m, .slice ag fs.length cg, .slice a3 lf.length c3] 62) := ⟨_, rfl⟩
  rw [← hw5] at r0 r1 r2 f0 f1 f2 x0 x1 x2 hCF hiF hbF t0 t1 t2
  unfold set3 at hCF hiF hbF t0 t1 t2
  have HW5 := Lib.hid hw5
  have HFF := Lib.hid (And.intro hCF (And.intro hiF hbF))
  clear hw5 hC4 hC5 hi5 hF hgF hCF hiF hbF h5 h4 h3 hcx hcb hg4 hg3 hiL hi4 hga2 k0 k1 k2 j0 j1 hbx
  go_upto_region 8 with fail
  rw [← HW5.out]
  go_wp2_with fail
  exact bodyPost_ret (v := .tuple #[.agg #[.int .i64 m, .slice ag fs.length cg, .slice a3 lf.length c3], .slice a4 ch.length c4, .int .i64 0]) (by simp [results, Tryd.results40, go_sem, t0, t1, t2]) rfl ⟨ag, cg, a3, c3, a4, c4, rfl, HFF.out.1, HFF.out.2.1, ha4', HFF.out.2.2⟩
set_option maxRecDepth 100000 in
set_option maxHeartbeats 6400000 in
theorem rpdelete_any (n u v : Int) (a a2 : Option Addr) (cap c2 : Nat) (es : List E2) (l : List Int) (w : World) (he : EdgesAt w (.slice a es.length cap) es) (hi : IntsAt w (.slice a2 l.length c2) l) (hT : TzAt w) :
    Calls Tryd.prog 41 #[.agg #[.int .i64 n, .slice a es.length cap, .slice a2 l.length c2], .int .i64 u, .int .i64 v] w (IPost w (cdelX ⟨n, es, l⟩ u v)) := by
  have h0 := Bx4.start w (.int .i64 n) (.slice a es.length cap) (.slice a2 l.length c2) (.int .i64 0) (.slice none 0 0) (.slice none 0 0)
  obtain ⟨wA, hwA⟩ : ∃ W : World, W = (w.alloc (.cells #[.int .i64 n, .slice a es.length cap, .slice a2 l.length c2] 62)).alloc (.cells #[.int .i64 0, .slice none 0 0, .slice none 0 0] 62) := ⟨_, rfl⟩
  rw [← hwA] at h0
  have HWA := Lib.hid hwA
  clear hwA
  have has := fun W h1 h2 h3 => rpasked_any n u v a a2 cap c2 es l W h1 h2 h3
  unfold cdelX IPost
  obtain ⟨C, hC⟩ : ∃ C, crE ⟨n, es, l⟩ u v = C := ⟨_, rfl⟩
  rw [hC] at has ⊢
  obtain ⟨k0, k1, k2⟩ := cells3 h0.c
  by_cases hz : C = 0
  case neg =>
    rw [if_pos hz]
    have d1 : (C != 0) = true := by simpa using hz
    have d2 : (C == 0) = false := by simpa using hz
    clear hz hC
    go_enter Tryd.func41, Tryd.ntmps41
    go_wp2_with (rw [← HWA.out])
    refine (has wA (he.below h0.be) (hi.below h0.be) (hT.below h0.be)).mono ?_
    rintro e w1 ⟨rfl, hb1⟩
    have h1 := h0.next hb1
    obtain ⟨r0, r1, r2⟩ := cells3 h1.o
    obtain ⟨f0, f1, f2⟩ := frees3 h1.o
    have hF := h1.fin (.int .i64 0) (.slice none 0 0) (.slice none 0 0)
    have hbF := hF.be
    obtain ⟨t0, t1, t2⟩ := cells3 hF.o
    unfold set3 at t0 t1 t2 hbF
    clear hF h1 h0 hb1
    go_wp2_with fail
    exact bodyPost_ret (v := .tuple #[.agg #[.int .i64 0, .slice none 0 0, .slice none 0 0], .slice none 0 0, .int .i64 C]) (by simp [results, Tryd.results41, go_sem, t0, t1, t2]) rfl ⟨none, 0, none, 0, none, 0, rfl, CIn.void _ _, ints_nil _, fun p h => (by cases h), hbF⟩
  subst hz
  rw [if_neg (by simp)]
  obtain ⟨m, p, q, hv, hc, rfl, rfl, hp, hq, hne⟩ := crE_zero hC
  unfold crN at hc
  dsimp only at hc hv
  obtain ⟨rfl, -, rfl⟩ := Cr.mk.inj hc
  clear hC hc
  dsimp only
  simp only [Int.toNat_natCast]
  have hga := fun W h => gremove_any (m : Int) a cap es (p : Int) (q : Int) W h
  have hch := crE_chg hv hp hq hne
  unfold GrPost remX at hga
  rw [hch, if_neg (by simp)] at hga
  by_cases hm : (min (p : Int) q, max (p : Int) q) ∈ es
  case neg =>
    rw [if_neg hm]
    rw [show (if (min (p : Int) q, max (p : Int) q) ∈ es then _ else _) = _ from if_neg hm] at hga
    dsimp only at hga
    simp only [List.length_nil] at hga
    go_enter Tryd.func41, Tryd.ntmps41
    go_wp2_with (rw [← HWA.out])
    refine (has wA (he.below h0.be) (hi.below h0.be) (hT.below h0.be)).mono ?_
    rintro e w1 ⟨rfl, hb1⟩
    have h1 := h0.next hb1
    clear k0 k1 k2
    obtain ⟨k0, k1, k2⟩ := cells3 h1.c
    go_wp2_with fail
    refine (hga w1 (he.below h1.be)).mono ?_
    rintro e w2 ⟨ag, cg, rfl, -, -, hb2⟩
    have h2 := h1.next hb2
    obtain ⟨-, hbb⟩ := box_new w2 #[.int .i64 0, .slice ag 0 cg] 25
    have h3 := h2.next hbb
    obtain ⟨w3, hw3⟩ : ∃ W : World, W = w2.alloc (.cells #[.int .i64 0, .slice ag 0 cg] 25) := ⟨_, rfl⟩
    rw [← hw3] at h3
    have HW3 := Lib.hid hw3
    obtain ⟨r0, r1, r2⟩ := cells3 h3.o
    obtain ⟨f0, f1, f2⟩ := frees3 h3.o
    have hF := h3.fin (.int .i64 0) (.slice none 0 0) (.slice none 0 0)
    have hbF := hF.be
    obtain ⟨t0, t1, t2⟩ := cells3 hF.o
    unfold set3 at t0 t1 t2 hbF
    have HBF := Lib.hid hbF
    clear hw3 hbF hF h3 h2 h1 h0 hb1 hb2 hbb k0 k1 k2 hch
    go_upto_region 5 with fail
    rw [← HW3.out]
    go_wp2_with fail
    exact bodyPost_ret (v := .tuple #[.agg #[.int .i64 0, .slice none 0 0, .slice none 0 0], .slice none 0 0, .int .i64 7]) (by simp [results, Tryd.results41, go_sem, t0, t1, t2]) rfl ⟨none, 0, none, 0, none, 0, rfl, CIn.void _ _, ints_nil _, fun p h => (by cases h), HBF.out⟩
  rw [if_pos hm]
  rw [show (if (min (p : Int) q, max (p : Int) q) ∈ es then _ else _) = _ from if_pos hm] at hga
  dsimp only at hga
  have hvf := hv.del (min (p : Int) q, max (p : Int) q)
  have hlF := corT_length (delE es (min (p : Int) q, max (p : Int) q)) m
  have hins := fun ag cg W h1 h2 h3 h4 => rdelete_any m p q a a2 ag cap c2 cg es W h1 h2 h3 hv hp hq hne hm h4
  unfold crN
  dsimp only
  generalize delE es (min (p : Int) q, max (p : Int) q) = fs at *
  generalize chgL m (corT es m) (corT fs m) = ch at *
  have HLF := Lib.hid hlF
  clear hlF hm hch hvf
  generalize corT fs m = lf at *
  generalize corT es m = l at *
  go_enter Tryd.func41, Tryd.ntmps41
  go_wp2_with (rw [← HWA.out])
  refine (has wA (he.below h0.be) (hi.below h0.be) (hT.below h0.be)).mono ?_
  rintro e w1 ⟨rfl, hb1⟩
  have h1 := h0.next hb1
  clear k0 k1 k2
  obtain ⟨k0, k1, k2⟩ := cells3 h1.c
  go_wp2_with fail
  refine (hga w1 (he.below h1.be)).mono ?_
  rintro e w2 ⟨ag, cg, rfl, hga2, hag, hb2⟩
  have h2 := h1.next hb2
  obtain ⟨hbx, hbb⟩ := box_new w2 #[.int .i64 m, .slice ag fs.length cg] 25
  have h3 := h2.next hbb
  have hg3 := hga2.below hbb
  have hz2 := h2.base
  have hz1 := h1.base
  obtain ⟨w3, hw3⟩ : ∃ W : World, W = w2.alloc (.cells #[.int .i64 m, .slice ag fs.length cg] 25) := ⟨_, rfl⟩
  rw [← hw3] at hbx h3 hg3
  have HW3 := Lib.hid hw3
  clear hw3 k0 k1 k2 hb1 hb2 hbb h0 h1 h2
  obtain ⟨k0, k1, k2⟩ := cells3 h3.c
  obtain ⟨j0, j1⟩ := cells2 hbx
  go_wp2_with (rw [← HW3.out])
  refine (hins ag cg w3 (he.below h3.be) (hi.below h3.be) hg3 (hT.below h3.be)).mono ?_
  rintro e w4 ⟨a3, c3, a4, c4, rfl, hiL, hi4, ha3, ha4, hb4⟩
  have h4 := h3.next hb4
  have hg4 := hg3.below hb4
  obtain ⟨hcx, hcb⟩ := box_new w4 #[.int .i64 m, .slice ag fs.length cg, .slice a3 lf.length c3] 62
  have h5 := h4.next hcb
  have hC4 : CIn w4 (w.heap.size + 2) ag cg fs a3 c3 lf := ⟨hg4, hiL, fun p h => by have := hag p h; omega, fun p h => by have := ha3 p h; have := h3.base; omega⟩
  have hC5 := hC4.below hcb
  have hi5 := hi4.below hcb
  obtain ⟨r0, r1, r2⟩ := cells3 h5.o
  obtain ⟨f0, f1, f2⟩ := frees3 h5.o
  obtain ⟨x0, x1, x2⟩ := cells3 hcx
  have hF := h5.fin (.int .i64 m) (.slice ag fs.length cg) (.slice a3 lf.length c3)
  have hgF := set3_grown (w4.alloc (.cells #[.int .i64 m, .slice ag fs.length cg, .slice a3 lf.length c3] 62)) (w.heap.size + 1) (.int .i64 m) (.slice ag fs.length cg) (.slice a3 lf.length c3)
  have hCF := (hC5.grown hgF (fun k e => by cases e; omega)).mono (show w.heap.size ≤ w.heap.size + 2 by omega)
  have hiF := hi5.grown hgF (fun k e n' c' p hp => by cases e; have := ha4 p (Value.slice.inj hp).1; have := h3.base; omega)
  have hbF := hF.be
  obtain ⟨t0, t1, t2⟩ := cells3 hF.o
  have ha4' : ∀ p, a4 = some p → w.heap.size ≤ p.block := fun p hp => by have := ha4 p hp; have := h3.base; omega
  obtain ⟨w5, hw5⟩ : ∃ W : World, W = w4.alloc (.cells #[.int .i64 m, .slice ag fs.length cg, .slice a3 lf.length c3] 62) := ⟨_, rfl⟩
  rw [← hw5] at r0 r1 r2 f0 f1 f2 x0 x1 x2 hCF hiF hbF t0 t1 t2
  unfold set3 at hCF hiF hbF t0 t1 t2
  have HW5 := Lib.hid hw5
  have HFF := Lib.hid (And.intro hCF (And.intro hiF hbF))
  clear hw5 hC4 hC5 hi5 hF hgF hCF hiF hbF h5 h4 h3 hcx hcb hg4 hg3 hiL hi4 hga2 k0 k1 k2 j0 j1 hbx
  go_upto_region 8 with fail
  rw [← HW5.out]
  go_wp2_with fail
  exact bodyPost_ret (v := .tuple #[.agg #[.int .i64 m, .slice ag fs.length cg, .slice a3 lf.length c3], .slice a4 ch.length c4, .int .i64 0]) (by simp [results, Tryd.results41, go_sem, t0, t1, t2]) rfl ⟨ag, cg, a3, c3, a4, c4, rfl, HFF.out.1, HFF.out.2.1, ha4', HFF.out.2.2⟩
end Go.Proofs.YtkknknehchnccaaDoor
