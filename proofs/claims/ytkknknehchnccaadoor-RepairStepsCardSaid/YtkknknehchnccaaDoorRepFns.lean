/- The contracts of the program's functions on kept core numbers, for any graph and numbers: Open, Valid, asked, Region. -/
import Derived.Test.YtkknknehchnccaaDoorRepIns
import Derived.Test.YtkknknehchnccaaDoorSEqual
namespace Go.Proofs.YtkknknehchnccaaDoor
open Go.RowKit Go.BigFrame

/-- a graph and numbers are handed on -/
structure CIn (w : World) (b : Nat) (a : Option Addr) (cap : Nat) (es : List E2) (a2 : Option Addr) (c2 : Nat) (l : List Int) : Prop where
  e : EdgesAt w (.slice a es.length cap) es
  i : IntsAt w (.slice a2 l.length c2) l
  ea : ∀ p, a = some p → b ≤ p.block
  ia : ∀ p, a2 = some p → b ≤ p.block
section
variable {w w' : World} {b b' : Nat} {a a2 : Option Addr} {cap c2 : Nat} {es : List E2} {l : List Int}
theorem CIn.grown {r : Option Nat} (h : CIn w b a cap es a2 c2 l) (hg : w.grownBy w' r) (hr : ∀ k, r = some k → k < b) : CIn w' b a cap es a2 c2 l :=
  ⟨h.e.grown hg (fun g e n c p ep => by have := h.ea p (Value.slice.inj ep).1; have := hr g e; omega), h.i.grown hg (fun g e n c p ep => by have := h.ia p (Value.slice.inj ep).1; have := hr g e; omega), h.ea, h.ia⟩
theorem CIn.below (h : CIn w b a cap es a2 c2 l) (hb : Below w.heap.size w w') : CIn w' b a cap es a2 c2 l := ⟨h.e.below hb, h.i.below hb, h.ea, h.ia⟩
theorem CIn.mono (h : CIn w b a cap es a2 c2 l) (hb : b' ≤ b) : CIn w b' a cap es a2 c2 l := ⟨h.e, h.i, fun p hp => Nat.le_trans hb (h.ea p hp), fun p hp => Nat.le_trans hb (h.ia p hp)⟩
end
theorem CIn.void (w : World) (b : Nat) : CIn w b none 0 [] none 0 [] := ⟨edges_nil w, ints_nil w, (fun p h => by cases h), (fun p h => by cases h)⟩
/-- a graph with its numbers and an error are handed back -/
def OPost (w : World) (x : Cr × Int) (e : Ending) (w' : World) : Prop :=
  ∃ a cap a2 c2, e = .returned (.tuple #[.agg #[.int .i64 x.1.n, .slice a x.1.es.length cap, .slice a2 x.1.l.length c2], .int .i64 x.2]) ∧ CIn w' w.heap.size a cap x.1.es a2 c2 x.1.l ∧ Below w.heap.size w w'
def IPost (w : World) (x : Cr × List Int × Int) (e : Ending) (w' : World) : Prop :=
  ∃ a cap a2 c2 a3 c3, e = .returned (.tuple #[.agg #[.int .i64 x.1.n, .slice a x.1.es.length cap, .slice a2 x.1.l.length c2], .slice a3 x.2.1.length c3, .int .i64 x.2.2]) ∧ CIn w' w.heap.size a cap x.1.es a2 c2 x.1.l ∧ IntsAt w' (.slice a3 x.2.1.length c3) x.2.1 ∧ (∀ p, a3 = some p → w.heap.size ≤ p.block) ∧ Below w.heap.size w w'
set_option maxRecDepth 100000 in
set_option maxHeartbeats 3200000 in
theorem rpopen_any (n : Int) (a : Option Addr) (cap : Nat) (es : List E2) (w : World) (he : EdgesAt w (.slice a es.length cap) es) (hT : TzAt w) :
    Calls Tryd.prog 45 #[.agg #[.int .i64 n, .slice a es.length cap]] w (OPost w (copX n es)) := by
  have hnu := fun W h1 h2 => cnumbers_any n a cap es W h1 h2
  unfold TPost corX at hnu
  unfold copX
  have hg0 := heap_alloc_new w (.cells #[.int .i64 n, .slice a es.length cap] 25)
  obtain ⟨wA, hwA⟩ : ∃ W : World, W = (w.alloc (.cells #[.int .i64 n, .slice a es.length cap] 25)).alloc (.cells #[.int .i64 0, .slice none 0 0, .slice none 0 0] 62) := ⟨_, rfl⟩
  have hGA : wA.heap[w.heap.size]? = some (.cells #[.int .i64 n, .slice a es.length cap] 25 (0, 0)) := by rw [hwA, Below.heap_alloc _ _ _ (by simp)]; exact hg0
  have hRA : wA.heap[w.heap.size + 1]? = some (.cells #[.int .i64 0, .slice none 0 0, .slice none 0 0] 62 (0, 0)) := by
    rw [hwA]
    have := heap_alloc_new (w.alloc (.cells #[.int .i64 n, .slice a es.length cap] 25)) (.cells #[.int .i64 0, .slice none 0 0, .slice none 0 0] 62)
    simpa using this
  have hbA : Below w.heap.size w wA := by rw [hwA]; exact ((Below.refl _ _).alloc (Nat.le_refl _) _).alloc (by simp) _
  have HWA := Lib.hid hwA
  clear hwA hg0
  obtain ⟨k0, k1⟩ := cells2 hGA
  by_cases hC : checkS n es = 0
  case neg =>
    rw [if_pos hC] at hnu ⊢
    obtain ⟨C, hCC⟩ : ∃ C, checkS n es = C := ⟨_, rfl⟩
    rw [hCC] at hnu hC ⊢
    have d1 : (C != 0) = true := by simpa using hC
    have d2 : (C == 0) = false := by simpa using hC
    clear hC hCC
    go_enter Tryd.func45, Tryd.ntmps45
    go_wp2_with (rw [← HWA.out])
    refine (hnu wA (he.below hbA) (hT.below hbA)).mono ?_
    rintro e w1 ⟨ai, ci, rfl, -, -, hb1⟩
    have hR1 := lit_next' hb1 hRA
    obtain ⟨r0, r1, r2⟩ := cells3 hR1
    obtain ⟨f0, f1, f2⟩ := frees3 hR1
    have hF := set3_at hR1 (.int .i64 0) (.slice none 0 0) (.slice none 0 0)
    have hbF := (hbA.trans (hb1.mono hbA.size)).grown (set3_grown w1 (w.heap.size + 1) (.int .i64 0) (.slice none 0 0) (.slice none 0 0)) (Nat.le_trans hbA.size hb1.size) (fun k e => by cases e; omega)
    obtain ⟨t0, t1, t2⟩ := cells3 hF
    unfold set3 at t0 t1 t2 hbF
    clear hR1 hF hb1 hbA hRA hGA k0 k1
    go_wp2_with fail
    exact bodyPost_ret (v := .tuple #[.agg #[.int .i64 0, .slice none 0 0, .slice none 0 0], .int .i64 C]) (by simp [results, Tryd.results45, go_sem, t0, t1, t2]) rfl ⟨none, 0, none, 0, rfl, CIn.void _ _, hbF⟩
  have hv := (valid_iff n es).1 hC
  rw [if_neg (by simpa using hC)] at hnu ⊢
  clear hC
  obtain ⟨n, rfl⟩ := Int.eq_ofNat_of_zero_le hv.1
  rw [Int.toNat_natCast] at hnu ⊢
  have hel := hv.length_le
  unfold crN
  generalize corT es n = l at *
  dsimp only at hnu ⊢
  go_enter Tryd.func45, Tryd.ntmps45
  go_wp2_with (rw [← HWA.out])
  refine (hnu wA (he.below hbA) (hT.below hbA)).mono ?_
  rintro e w1 ⟨ai, ci, rfl, hi1, hai, hb1⟩
  have hG1 := lit_next' hb1 hGA
  have hR1 := lit_next' hb1 hRA
  have hbw1 := hbA.trans (hb1.mono hbA.size)
  have hzA : w.heap.size + 1 < wA.heap.size := blk_lt hRA
  have hrow := (he.below hbw1).row (by omega)
  have hcx : ∀ W : World, W.heap[w.heap.size]? = some (.cells #[.int .i64 n, .slice a es.length cap] 25 (0, 0)) → W.cell? ⟨w.heap.size, 0, none⟩ = some (.int .i64 n) ∧ W.cell? ⟨w.heap.size, 1, none⟩ = some (.slice a es.length cap) := fun W h => cells2 h
  have hG1d : w1.drew.heap[w.heap.size]? = some (.cells #[.int .i64 n, .slice a es.length cap] 25 (0, 0)) := hG1
  have hrowd : RowAt encE w1.drew (.slice a es.length cap) es := (he.below hbw1.drew).row (by omega)
  clear k0 k1 hGA hRA hnu
  go_wp2_with fail
  go_region_held3 (fun w' => w'.cell? ⟨w.heap.size, 0, none⟩ = some (.int .i64 n) ∧ w'.cell? ⟨w.heap.size, 1, none⟩ = some (.slice a es.length cap))
    (first
      | with_reducible exact hcx _ hG4
      | with_reducible exact hcx _ hG1d
      | with_reducible exact hcxF)
    (first
      | (go_at_call 86; (with_reducible refine (geclone_any _ es w1.drew hrowd (by omega)).mono ?_); rintro e w4 ⟨x4, rfl, hown4, hb4⟩; obtain ⟨a4, c4, rfl, he4, ha4⟩ := EdgesAt.of_owns hown4 (by omega); have hG4 := lit_next' (w := w1.drew) hb4 hG1d; have hR4 := lit_next' (w := w1.drew) hb4 hR1; obtain ⟨s0, s1, s2⟩ := cells3 hR4; obtain ⟨q0, q1, q2⟩ := frees3 hR4; have hcxF := hcx _ ((set3_other w4 (w.heap.size + 1) w.heap.size (.int .i64 n) (.slice a4 es.length c4) (.slice ai l.length ci) (by omega)).trans hG4); unfold set3 at hcxF))
  have hgF := set3_grown w4 (w.heap.size + 1) (.int .i64 n) (.slice a4 es.length c4) (.slice ai l.length ci)
  have hF := set3_at hR4 (.int .i64 n) (.slice a4 es.length c4) (.slice ai l.length ci)
  have hbF := (hbw1.drew.trans (hb4.mono hbw1.drew.size)).grown hgF (Nat.le_trans hbw1.drew.size hb4.size) (fun k e => by cases e; omega)
  have hd1 : w1.drew.heap.size = w1.heap.size := rfl
  have hs1 := hb1.size
  have hC4 : CIn w4 (w.heap.size + 2) a4 c4 es ai ci l := ⟨he4, IntsAt.below (w := w1.drew) hi1 hb4, fun p hp => by have := ha4 p hp; omega, fun p hp => by have := hai p hp; omega⟩
  have hCF := (hC4.grown hgF (fun k e => by cases e; omega)).mono (show w.heap.size ≤ w.heap.size + 2 by omega)
  obtain ⟨t0, t1, t2⟩ := cells3 hF
  unfold set3 at t0 t1 t2 hbF hCF
  have HFF := Lib.hid (And.intro hCF hbF)
  clear hgF hF hbF hCF hC4 hR4 hG4 hcxF hi1 he4
  go_wp2_with fail
  exact bodyPost_ret (v := .tuple #[.agg #[.int .i64 n, .slice a4 es.length c4, .slice ai l.length ci], .int .i64 0]) (by simp [results, Tryd.results45, go_sem, t0, t1, t2]) rfl ⟨a4, c4, ai, ci, rfl, HFF.out.1, HFF.out.2⟩
set_option maxRecDepth 100000 in
set_option maxHeartbeats 3200000 in
theorem rpvalid_any (n : Int) (a a2 : Option Addr) (cap c2 : Nat) (es : List E2) (l : List Int) (w : World) (he : EdgesAt w (.slice a es.length cap) es) (hi : IntsAt w (.slice a2 l.length c2) l) (hT : TzAt w) :
    Calls Tryd.prog 46 #[.agg #[.int .i64 n, .slice a es.length cap, .slice a2 l.length c2]] w fun e w' => e = .returned (.bool (crOk ⟨n, es, l⟩)) ∧ Below w.heap.size w w' := by
  have hb0 : Below w.heap.size w (w.alloc (.cells #[.int .i64 n, .slice a es.length cap, .slice a2 l.length c2] 62)) := (Below.refl _ _).alloc (Nat.le_refl _) _
  have hG0 := heap_alloc_new w (.cells #[.int .i64 n, .slice a es.length cap, .slice a2 l.length c2] 62)
  have hnu := fun W h1 h2 => cnumbers_any n a cap es W h1 h2
  unfold TPost corX at hnu
  unfold crOk
  dsimp only
  obtain ⟨k0, k1, k2⟩ := cells3 hG0
  by_cases hC : checkS n es = 0
  case neg =>
    rw [if_pos hC] at hnu
    obtain ⟨C, hCC⟩ : ∃ C, checkS n es = C := ⟨_, rfl⟩
    rw [hCC] at hnu hC ⊢
    have d1 : (C != 0) = true := by simpa using hC
    have d2 : (C == 0) = false := by simpa using hC
    rw [d2, Bool.false_and]
    clear hC hCC
    go_enter Tryd.func46, Tryd.ntmps46
    go_wp2_with fail
    refine (hnu _ (he.below hb0) (hT.below hb0)).mono ?_
    rintro e w1 ⟨ai, ci, rfl, -, -, hb1⟩
    go_wp2_with fail
    go_ret
    exact ⟨rfl, hb0.trans (hb1.mono hb0.size)⟩
  rw [if_neg (by simpa using hC)] at hnu
  rw [hC, show ((0 : Int) == 0) = true from rfl, Bool.true_and]
  generalize corT es n.toNat = m at *
  dsimp only at hnu
  go_enter Tryd.func46, Tryd.ntmps46
  go_wp2_with fail
  refine (hnu _ (he.below hb0) (hT.below hb0)).mono ?_
  rintro e w1 ⟨ai, ci, rfl, hi1, -, hb1⟩
  have hb01 := hb0.trans (hb1.mono hb0.size)
  have hG1 := lit_next' hb1 hG0
  clear k0 k1 k2
  obtain ⟨k0, k1, k2⟩ := cells3 hG1
  have heq := sequal_any ai a2 ci c2 m l w1 hi1 (hi.below hb01)
  go_wp2_with (go_at_call 75; refine heq.mono ?_; rintro e w2 ⟨rfl, hb2⟩)
  go_ret
  exact ⟨by simp, hb01.trans (hb2.mono hb01.size)⟩
set_option maxRecDepth 100000 in
set_option maxHeartbeats 1600000 in
theorem rpasked_any (n u v : Int) (a a2 : Option Addr) (cap c2 : Nat) (es : List E2) (l : List Int) (w : World) (he : EdgesAt w (.slice a es.length cap) es) (hi : IntsAt w (.slice a2 l.length c2) l) (hT : TzAt w) :
    Calls Tryd.prog 78 #[.agg #[.int .i64 n, .slice a es.length cap, .slice a2 l.length c2], .int .i64 u, .int .i64 v] w fun e w' => e = .returned (.int .i64 (crE ⟨n, es, l⟩ u v)) ∧ Below w.heap.size w w' := by
  have hb0 : Below w.heap.size w (w.alloc (.cells #[.int .i64 n, .slice a es.length cap, .slice a2 l.length c2] 62)) := (Below.refl _ _).alloc (Nat.le_refl _) _
  have hG0 := heap_alloc_new w (.cells #[.int .i64 n, .slice a es.length cap, .slice a2 l.length c2] 62)
  have hva := fun W h1 h2 h3 => rpvalid_any n a a2 cap c2 es l W h1 h2 h3
  have hen := fun W => gends_any n u v W
  unfold crE
  dsimp only
  obtain ⟨B, hB⟩ : ∃ B, crOk ⟨n, es, l⟩ = B := ⟨_, rfl⟩
  obtain ⟨D, hD⟩ : ∃ D, endsB n u v = D := ⟨_, rfl⟩
  rw [hB] at hva ⊢
  rw [hD] at hen ⊢
  clear hB hD
  obtain ⟨k0, k1, k2⟩ := cells3 hG0
  cases B <;> cases D
  all_goals
    go_enter Tryd.func78, Tryd.ntmps78
    go_wp2_with fail
    refine (hva _ (he.below hb0) (hi.below hb0) (hT.below hb0)).mono ?_
    rintro e w1 ⟨rfl, hb1⟩
    have hb01 := hb0.trans (hb1.mono hb0.size)
    have hG1 := lit_next' hb1 hG0
    have j0 := (cells3 hG1).1
    go_wp2_with (go_at_call 118; refine (hen _).mono ?_; rintro e w2 ⟨rfl, rfl⟩)
    go_ret
    exact ⟨rfl, hb01⟩
set_option maxRecDepth 100000 in
set_option maxHeartbeats 3200000 in
theorem rpregion_any (n u v : Int) (a a2 : Option Addr) (cap c2 : Nat) (es : List E2) (l : List Int) (w : World) (he : EdgesAt w (.slice a es.length cap) es) (hi : IntsAt w (.slice a2 l.length c2) l) (hT : TzAt w) :
    Calls Tryd.prog 48 #[.agg #[.int .i64 n, .slice a es.length cap, .slice a2 l.length c2], .int .i64 u, .int .i64 v] w (TPost w (cregX ⟨n, es, l⟩ u v)) := by
  have hb0 : Below w.heap.size w (w.alloc (.cells #[.int .i64 n, .slice a es.length cap, .slice a2 l.length c2] 62)) := (Below.refl _ _).alloc (Nat.le_refl _) _
  have hG0 := heap_alloc_new w (.cells #[.int .i64 n, .slice a es.length cap, .slice a2 l.length c2] 62)
  have has := fun W h1 h2 h3 => rpasked_any n u v a a2 cap c2 es l W h1 h2 h3
  unfold cregX TPost
  obtain ⟨C, hC⟩ : ∃ C, crE ⟨n, es, l⟩ u v = C := ⟨_, rfl⟩
  rw [hC] at has ⊢
  obtain ⟨k0, k1, k2⟩ := cells3 hG0
  by_cases h0 : C = 0
  case neg =>
    rw [if_pos h0]
    have d1 : (C != 0) = true := by simpa using h0
    have d2 : (C == 0) = false := by simpa using h0
    clear h0 hC
    go_enter Tryd.func48, Tryd.ntmps48
    go_wp2_with fail
    refine (has _ (he.below hb0) (hi.below hb0) (hT.below hb0)).mono ?_
    rintro e w1 ⟨rfl, hb1⟩
    go_wp2_with fail
    go_ret2
    exact ⟨none, 0, rfl, ints_nil _, fun p h => (by cases h), hb0.trans (hb1.mono hb0.size)⟩
  subst h0
  rw [if_neg (by simp)]
  obtain ⟨m, p, q, hv, hc, rfl, rfl, hp, hq, hne⟩ := crE_zero hC
  unfold crN at hc
  dsimp only at hc hv
  obtain ⟨rfl, -, rfl⟩ := Cr.mk.inj hc
  clear hC hc
  dsimp only
  simp only [Int.toNat_natCast]
  have hm : m ≤ 64 := by have := hv.2.1; omega
  have hreg := fun W h1 h2 h3 => region_any m p q a a2 cap c2 es (corT es m) W h1 h2 hv (corT_length es m) (fun v hv => corT_at es v hv) hp hq hne h3
  have hlist := fun W h => list_any (mskN (regB es m (corT es m) p q) m) (mskN_lt _ m hm) W h
  rw [mskN_list _ m hm] at hlist
  have hzl : (castL (selL m (regB es m (corT es m) p q))).length ≤ 64 := by rw [castL_length]; exact Nat.le_trans (selL_len _ _) hm
  generalize castL (selL m (regB es m (corT es m) p q)) = Z at *
  generalize mskN (regB es m (corT es m) p q) m = M at *
  generalize min (nfN (corT es m) p) (nfN (corT es m) q) = K at *
  go_enter Tryd.func48, Tryd.ntmps48
  go_wp2_with fail
  refine (has _ (he.below hb0) (hi.below hb0) (hT.below hb0)).mono ?_
  rintro e w1 ⟨rfl, hb1⟩
  have hb01 := hb0.trans (hb1.mono hb0.size)
  have hG1 := lit_next' hb1 hG0
  clear k0 k1 k2
  obtain ⟨k0, k1, k2⟩ := cells3 hG1
  go_wp2_with fail
  refine (hreg w1 (he.below hb01) (hi.below hb01) (hT.below hb01)).mono ?_
  rintro e w2 ⟨rfl, hb2⟩
  have hb02 := hb01.trans (hb2.mono hb01.size)
  go_wp2_with fail
  refine (hlist w2 (hT.below hb02)).mono ?_
  rintro e w3 ⟨vz, rfl, hown, hb3⟩
  obtain ⟨az, cz, rfl, hiz, haz⟩ := IntsAt.of_owns hown (by omega)
  go_wp2_with fail
  go_ret2
  exact ⟨az, cz, rfl, hiz, fun p h => by have := haz p h; have := hb02.size; omega, hb02.trans (hb3.mono hb02.size)⟩
end Go.Proofs.YtkknknehchnccaaDoor
