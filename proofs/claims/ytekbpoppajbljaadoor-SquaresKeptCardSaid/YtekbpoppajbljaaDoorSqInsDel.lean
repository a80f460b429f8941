/- The contracts of inserting and deleting an edge of a graph with its squares. The contract of the law's test for equal lists of numbers, and the walk of the law SquaresKept. -/
import Derived.Test.YtekbpoppajbljaaDoorSqChanged
import Derived.Test.YtekbpoppajbljaaDoorMkGraph
import Derived.Test.YtekbpoppajbljaaDoorNeigh
namespace Go.Proofs.YtekbpoppajbljaaDoor
open Go.RowKit Go.BigFrame

/-- the graph with an edge more and its numbers, how many squares came, or the error -/
def insX (q : Qd) (u v : Int) : Qd × Int × Int := if sqOk q = true then (if (addX q.n q.es u v).2.2 ≠ 0 then (Qd.zero, 0, (addX q.n q.es u v).2.2) else (quadN q.n.toNat (addX q.n q.es u v).2.1, ((ovN q.es u.toNat v.toNat).length : Int), 0)) else (Qd.zero, 0, 35)
/-- the graph without an edge and its numbers, how many squares went, or the error -/
def delX (q : Qd) (u v : Int) : Qd × Int × Int := if sqOk q = true then (if (remX q.n q.es u v).2.2 ≠ 0 then (Qd.zero, 0, (remX q.n q.es u v).2.2) else (quadN q.n.toNat (remX q.n q.es u v).2.1, ((ovN (remX q.n q.es u v).2.1 u.toNat v.toNat).length : Int), 0)) else (Qd.zero, 0, 35)
theorem addX_ok {n : Int} {es : List E2} {u v : Int} (h : (addX n es u v).2.2 = 0) : Valid n es ∧ (u ≠ v ∧ 0 ≤ min u v ∧ max u v < n) ∧ (min u v, max u v) ∉ es ∧ addX n es u v = (n, insE es (min u v, max u v), 0) := by
  unfold addX at h ⊢
  by_cases h0 : chgE n es u v ≠ 0
  · rw [if_pos h0] at h; exact absurd h h0
  · rw [if_neg h0] at h ⊢
    obtain ⟨hv, he⟩ := chgE_zero (Classical.not_not.1 h0)
    by_cases h1 : (min u v, max u v) ∈ es
    · rw [if_pos h1] at h; cases h
    · rw [if_neg h1]; exact ⟨hv, endsB_iff.1 he, h1, rfl⟩
theorem remX_ok {n : Int} {es : List E2} {u v : Int} (h : (remX n es u v).2.2 = 0) : Valid n es ∧ (u ≠ v ∧ 0 ≤ min u v ∧ max u v < n) ∧ (min u v, max u v) ∈ es ∧ remX n es u v = (n, delE es (min u v, max u v), 0) := by
  unfold remX at h ⊢
  by_cases h0 : chgE n es u v ≠ 0
  · rw [if_pos h0] at h; exact absurd h h0
  · rw [if_neg h0] at h ⊢
    obtain ⟨hv, he⟩ := chgE_zero (Classical.not_not.1 h0)
    by_cases h1 : (min u v, max u v) ∈ es
    · rw [if_pos h1]; exact ⟨hv, endsB_iff.1 he, h1, rfl⟩
    · rw [if_neg h1] at h; cases h
theorem up_two (a b c d : Int) (h : d = a + b + c) : a + 1 * (b + c) = d := by omega
theorem up_one (a b d : Int) (h : d = a + b) : a + 1 * b = d := by omega
theorem down_two (a b c d : Int) (h : d = a + b + c) : d + -1 * (b + c) = a := by omega
theorem down_one (a b d : Int) (h : d = a + b) : d + -1 * b = a := by omega
theorem sqL_bd {n : Nat} {es : List E2} (hn : n ≤ 64) : ∀ x ∈ sqL es n, 0 ≤ x ∧ x ≤ 1125899906842624 := by
  intro x hx
  obtain ⟨i, hi⟩ := List.mem_iff_getElem?.1 hx
  have hl := (List.getElem?_eq_some_iff.1 hi).1
  rw [sqL_length] at hl
  rw [sqL_get _ _ _ hl] at hi
  have := sqN_bd es n hn i n
  have e := Option.some.inj hi
  omega
theorem num_bd {n : Nat} {es : List E2} (hn : n ≤ 64) : (0 ≤ wedS es n ∧ wedS es n ≤ 1125899906842624) ∧ 0 ≤ sqT es n n / 4 ∧ sqT es n n / 4 ≤ 1125899906842624 := by
  have h1 := wedS_bd es n
  have h2 := sqT_bd es n hn n
  omega
theorem sqL_kept {n u v : Nat} {es fs : List E2} (h : Kept es fs n u v) : (fnN n fun i => (sqL es n).getD i 0 + 1 * hitN (ovN es u v) u v i) = sqL fs n := by
  refine Eq.trans (fnN_congr n _ (fun i => (sqL fs n).getD i 0) fun i hi => ?_) (by have := fnN_of (sqL fs n); rw [sqL_length] at this; exact this.symm)
  rw [List.getD_eq_getElem?_getD, List.getD_eq_getElem?_getD, sqL_get _ _ _ hi, sqL_get _ _ _ hi, Int.one_mul]
  exact (h.nod i hi).symm
theorem sqL_back {n u v : Nat} {es fs : List E2} (h : Kept es fs n u v) : (fnN n fun i => (sqL fs n).getD i 0 + -1 * hitN (ovN es u v) u v i) = sqL es n := by
  refine Eq.trans (fnN_congr n _ (fun i => (sqL es n).getD i 0) fun i hi => ?_) (by have := fnN_of (sqL es n); rw [sqL_length] at this; exact this.symm)
  rw [List.getD_eq_getElem?_getD, List.getD_eq_getElem?_getD, sqL_get _ _ _ hi, sqL_get _ _ _ hi]
  have := h.nod i hi
  show sqN fs n i n + -1 * hitN (ovN es u v) u v i = sqN es n i n
  omega
set_option maxRecDepth 100000 in
set_option maxHeartbeats 6400000 in
theorem sqinsert_any (n wd ct : Int) (a a2 : Option Addr) (cap c2 : Nat) (es : List E2) (ns : List Int) (u v : Int) (w : World) (he : EdgesAt w (.slice a es.length cap) es) (hi : IntsAt w (.slice a2 ns.length c2) ns) (hl : es.length ≤ 100000) (hT : TzAt w) :
    Calls Tryd.prog 32 #[.agg #[.int .i64 n, .slice a es.length cap, .int .i64 wd, .int .i64 ct, .slice a2 ns.length c2], .int .i64 u, .int .i64 v] w (QPost w (insX ⟨n, es, wd, ct, ns⟩ u v).1 [.int .i64 (insX ⟨n, es, wd, ct, ns⟩ u v).2.1, .int .i64 (insX ⟨n, es, wd, ct, ns⟩ u v).2.2]) := by
  have h0 := Bx2.start w (.cells #[.int .i64 n, .slice a es.length cap, .int .i64 wd, .int .i64 ct, .slice a2 ns.length c2] 46) (.int .i64 0) (.slice none 0 0) (.int .i64 0) (.int .i64 0) (.slice none 0 0) 46
  have hvl := fun W h h2 h3 => sqvalid_any n wd ct a a2 cap c2 es ns W h h2 h3
  unfold insX
  dsimp only
  obtain ⟨B, hB⟩ : ∃ B, sqOk ⟨n, es, wd, ct, ns⟩ = B := ⟨_, rfl⟩
  rw [hB] at hvl ⊢
  cases B with
  | false =>
    rw [if_neg (by simp)]
    clear hB
    obtain ⟨g0, g1, g2, g3, g4⟩ := cells5 h0.g
    go_enter Tryd.func32, Tryd.ntmps32
    go_wp2_with fail
    refine (hvl _ (he.below h0.be) (hi.below h0.be) (hT.below h0.be)).mono ?_
    rintro e w1 ⟨rfl, hb1⟩
    have h1 := h0.next hb1
    clear hb1 h0 g0 g1 g2 g3 g4
    obtain ⟨o0, o1, o2, o3, o4⟩ := cells5 h1.o
    obtain ⟨f0, f1, f2, f3, f4⟩ := frees5 h1.o
    have hbe := h1.be
    have HF := Lib.hid (set5_at h1.o (.int .i64 0) (.slice none 0 0) (.int .i64 0) (.int .i64 0) (.slice none 0 0))
    clear h1 hvl
    go_wp2_with fail
    obtain ⟨t0, t1, t2, t3, t4⟩ := cells5 HF.out
    unfold set5 at t0 t1 t2 t3 t4
    exact bodyPost_ret (v := .tuple #[.agg #[.int .i64 0, .slice none 0 0, .int .i64 0, .int .i64 0, .slice none 0 0], .int .i64 0, .int .i64 35]) (by simp [results, Tryd.results32, go_sem, t0, t1, t2, t3, t4]) rfl
      ⟨none, 0, none, 0, rfl, QIn.void _ _, hbe.grown (set5_grown w1 (w.heap.size + 1) (.int .i64 0) (.slice none 0 0) (.int .i64 0) (.int .i64 0) (.slice none 0 0)) hbe.size (fun k e => by cases e; omega)⟩
  | true =>
    rw [if_pos rfl]
    obtain ⟨m, hv, hq⟩ := (sqOk_iff _).1 hB
    dsimp only [quadN] at hv hq
    obtain ⟨rfl, -, rfl, rfl, rfl⟩ := Qd.mk.inj hq
    clear hB hq
    rw [Int.toNat_natCast]
    have hm64 : m ≤ 64 := by have := hv.2.1; omega
    have had := fun W h => gadd_any m a cap es u v W h hl
    obtain ⟨A, hA⟩ : ∃ A, addX m es u v = A := ⟨_, rfl⟩
    have hAo : A.2.2 = 0 → _ := fun h => addX_ok (by rw [hA]; exact h)
    rw [hA] at had hAo ⊢
    clear hA
    obtain ⟨N, fs, E⟩ := A
    dsimp only at hAo ⊢
    unfold GrPost at had
    dsimp only at had
    by_cases hE : E = 0
    case neg =>
      rw [if_pos hE]
      have d1 : (E != 0) = true := by simpa using hE
      clear hAo hE
      obtain ⟨X, hX⟩ : ∃ X, wedS es m = X := ⟨_, rfl⟩
      obtain ⟨Y, hY⟩ : ∃ Y, sqT es m m / 4 = Y := ⟨_, rfl⟩
      obtain ⟨Z, hZ⟩ : ∃ Z, sqL es m = Z := ⟨_, rfl⟩
      rw [hZ] at hi
      rw [hX, hY, hZ] at hvl h0 ⊢
      clear hX hY hZ
      obtain ⟨g0, g1, g2, g3, g4⟩ := cells5 h0.g
      go_enter Tryd.func32, Tryd.ntmps32
      go_wp2_with fail
      refine (hvl _ (he.below h0.be) (hi.below h0.be) (hT.below h0.be)).mono ?_
      rintro e w1 ⟨rfl, hb1⟩
      have h1 := h0.next hb1
      clear hb1 h0 g0 g1 g2 g3 g4
      obtain ⟨g0, g1, g2, g3, g4⟩ := cells5 h1.g
      go_wp2_with fail
      refine (had _ (he.below h1.be)).mono ?_
      rintro e w2 ⟨af, cf, rfl, hef, haf, hb2⟩
      have h2 := (h1.next hb2).alloc (.cells #[.int .i64 N, .slice af fs.length cf] 27)
      clear hb2 h1 g0 g1 g2 g3 g4
      obtain ⟨o0, o1, o2, o3, o4⟩ := cells5 h2.o
      obtain ⟨f0, f1, f2, f3, f4⟩ := frees5 h2.o
      have hbe := h2.be
      have HF := Lib.hid (set5_at h2.o (.int .i64 0) (.slice none 0 0) (.int .i64 0) (.int .i64 0) (.slice none 0 0))
      clear h2 hvl
      go_wp2_with fail
      obtain ⟨t0, t1, t2, t3, t4⟩ := cells5 HF.out
      unfold set5 at t0 t1 t2 t3 t4
      exact bodyPost_ret (v := .tuple #[.agg #[.int .i64 0, .slice none 0 0, .int .i64 0, .int .i64 0, .slice none 0 0], .int .i64 0, .int .i64 E]) (by simp [results, Tryd.results32, go_sem, t0, t1, t2, t3, t4]) rfl
        ⟨none, 0, none, 0, rfl, QIn.void _ _, hbe.grown (set5_grown _ (w.heap.size + 1) (.int .i64 0) (.slice none 0 0) (.int .i64 0) (.int .i64 0) (.slice none 0 0)) hbe.size (fun k e => by cases e; omega)⟩
    subst hE
    rw [if_neg (by simp)]
    obtain ⟨-, hen, hmem, heq⟩ := hAo rfl
    obtain ⟨hN, hfs, -⟩ := Prod.mk.inj heq |>.imp id Prod.mk.inj
    obtain ⟨hvf, hK⟩ := kept_ins hv hen hmem
    rw [← hfs] at hvf hK
    subst hN
    clear heq hfs hAo hmem
    obtain ⟨p, rfl⟩ := Int.eq_ofNat_of_zero_le (show 0 ≤ u by omega)
    obtain ⟨q, rfl⟩ := Int.eq_ofNat_of_zero_le (show 0 ≤ v by omega)
    rw [Int.toNat_natCast, Int.toNat_natCast] at hK ⊢
    have hpn : p < m := by omega
    have hqn : q < m := by omega
    obtain ⟨hWb, hCb⟩ := num_bd (es := es) hm64
    have hch := fun sl af cf W s h h2 t => changed_any (m : Int) (.slice a es.length cap) (wedS es m) (sqT es m m / 4) a2 c2 (sqL es m) (m : Int) sl m p q af cf es 1 W ⟨a, es.length, cap, rfl⟩ s h h2 hv hpn hqn t (.inl rfl) (sqL_length es m) (sqL_bd hm64) hWb hCb
    rw [sqL_kept hK, up_two _ _ _ _ hK.wed, up_one _ _ _ hK.cnt] at hch
    have hnl := sqL_length es m
    have hnf := sqL_length fs m
    unfold quadN
    dsimp only
    obtain ⟨X, hX⟩ : ∃ X, wedS es m = X := ⟨_, rfl⟩
    obtain ⟨Y, hY⟩ : ∃ Y, sqT es m m / 4 = Y := ⟨_, rfl⟩
    obtain ⟨Z, hZ⟩ : ∃ Z, sqL es m = Z := ⟨_, rfl⟩
    obtain ⟨X', hX'⟩ : ∃ X, wedS fs m = X := ⟨_, rfl⟩
    obtain ⟨Y', hY'⟩ : ∃ Y, sqT fs m m / 4 = Y := ⟨_, rfl⟩
    obtain ⟨Z', hZ'⟩ : ∃ Z, sqL fs m = Z := ⟨_, rfl⟩
    obtain ⟨O, hO⟩ : ∃ O, ovN es p q = O := ⟨_, rfl⟩
    rw [hZ] at hi hnl
    rw [hX, hY, hZ] at hvl h0 hch ⊢
    rw [hX', hY', hZ'] at hch ⊢
    rw [hZ'] at hnf
    rw [hO] at hch ⊢
    clear hX hY hZ hX' hY' hZ' hO hWb hCb hK hen
    have HNL := Lib.hid hnl
    have HNF := Lib.hid hnf
    clear hnl hnf
    obtain ⟨g0, g1, g2, g3, g4⟩ := cells5 h0.g
    go_enter Tryd.func32, Tryd.ntmps32
    go_wp2_with fail
    refine (hvl _ (he.below h0.be) (hi.below h0.be) (hT.below h0.be)).mono ?_
    rintro e w1 ⟨rfl, hb1⟩
    have h1 := h0.next hb1
    clear hb1 h0 g0 g1 g2 g3 g4
    obtain ⟨g0, g1, g2, g3, g4⟩ := cells5 h1.g
    go_wp2_with fail
    refine (had _ (he.below h1.be)).mono ?_
    rintro e w2 ⟨af, cf, rfl, hef, haf, hb2⟩
    have h2n := h1.next hb2
    have h2 := h2n.alloc (.cells #[.int .i64 m, .slice af fs.length cf] 27)
    have hGb := heap_alloc_new w2 (.cells #[.int .i64 m, .slice af fs.length cf] 27)
    have hbA := (Below.refl w2.heap.size w2).alloc (Nat.le_refl _) (.cells #[.int .i64 m, .slice af fs.length cf] 27)
    have hefA := hef.below hbA
    have haf2 : ∀ p, af = some p → w.heap.size + 2 ≤ p.block := fun p hp => by have := haf p hp; have := h1.base; omega
    clear hb2 h1 g0 g1 g2 g3 g4 h2n hbA haf hef had hvl
    obtain ⟨g0, g1, g2, g3, g4⟩ := cells5 h2.g
    obtain ⟨k0, k1⟩ := cell_two hGb
    go_wp2_with fail
    refine (hch (.slice af fs.length cf) a cap _ ⟨af, fs.length, cf, rfl⟩ (he.below h2.be) (hi.below h2.be) (hT.below h2.be)).mono ?_
    rintro e w3 ⟨g, cz, rfl, hI3, hg3, hb3⟩
    have h3 := h2.next hb3
    have hef3 := hefA.below hb3
    have hg2 : w.heap.size + 2 ≤ g := Nat.le_trans h2.base hg3
    clear hb3 g0 g1 g2 g3 g4 k0 k1 hGb h2 hch hefA
    obtain ⟨o0, o1, o2, o3, o4⟩ := cells5 h3.o
    obtain ⟨f0, f1, f2, f3, f4⟩ := frees5 h3.o
    have hbe := h3.be
    have HF := Lib.hid (set5_at h3.o (.int .i64 m) (.slice af fs.length cf) (.int .i64 X') (.int .i64 Y') (.slice (some ⟨g, 0, none⟩) m cz))
    have hI4 : IntsAt w3 (.slice (some ⟨g, 0, none⟩) Z'.length cz) Z' := by rw [HNF.out]; exact hI3
    have q : QIn w3 (w.heap.size + 2) af cf fs (some ⟨g, 0, none⟩) cz Z' := ⟨hef3, hI4, haf2, fun p h => by cases h; exact hg2⟩
    have HQ := Lib.hid ((q.grown (set5_grown w3 (w.heap.size + 1) (.int .i64 m) (.slice af fs.length cf) (.int .i64 X') (.int .i64 Y') (.slice (some ⟨g, 0, none⟩) m cz)) (fun k e => by cases e; omega)).mono (show w.heap.size ≤ w.heap.size + 2 by omega))
    have HB := Lib.hid (hbe.grown (set5_grown w3 (w.heap.size + 1) (.int .i64 m) (.slice af fs.length cf) (.int .i64 X') (.int .i64 Y') (.slice (some ⟨g, 0, none⟩) m cz)) hbe.size (fun k e => by cases e; omega))
    clear h3 hI3 hI4 q hef3 hbe
    go_wp2_with fail
    obtain ⟨t0, t1, t2, t3, t4⟩ := cells5 HF.out
    unfold set5 at t0 t1 t2 t3 t4
    exact bodyPost_ret (v := .tuple #[.agg #[.int .i64 m, .slice af fs.length cf, .int .i64 X', .int .i64 Y', .slice (some ⟨g, 0, none⟩) m cz], .int .i64 (O.length : Int), .int .i64 0]) (by simp [results, Tryd.results32, go_sem, t0, t1, t2, t3, t4]) rfl
      ⟨af, cf, some ⟨g, 0, none⟩, cz, by rw [HNF.out], HQ.out, HB.out⟩
set_option maxRecDepth 100000 in
set_option maxHeartbeats 6400000 in
theorem sqdelete_any (n wd ct : Int) (a a2 : Option Addr) (cap c2 : Nat) (es : List E2) (ns : List Int) (u v : Int) (w : World) (he : EdgesAt w (.slice a es.length cap) es) (hi : IntsAt w (.slice a2 ns.length c2) ns) (hl : es.length ≤ 100000) (hT : TzAt w) :
    Calls Tryd.prog 33 #[.agg #[.int .i64 n, .slice a es.length cap, .int .i64 wd, .int .i64 ct, .slice a2 ns.length c2], .int .i64 u, .int .i64 v] w (QPost w (delX ⟨n, es, wd, ct, ns⟩ u v).1 [.int .i64 (delX ⟨n, es, wd, ct, ns⟩ u v).2.1, .int .i64 (delX ⟨n, es, wd, ct, ns⟩ u v).2.2]) := by
  have h0 := Bx2.start w (.cells #[.int .i64 n, .slice a es.length cap, .int .i64 wd, .int .i64 ct, .slice a2 ns.length c2] 46) (.int .i64 0) (.slice none 0 0) (.int .i64 0) (.int .i64 0) (.slice none 0 0) 46
  have hvl := fun W h h2 h3 => sqvalid_any n wd ct a a2 cap c2 es ns W h h2 h3
  unfold delX
  dsimp only
  obtain ⟨B, hB⟩ : ∃ B, sqOk ⟨n, es, wd, ct, ns⟩ = B := ⟨_, rfl⟩
  rw [hB] at hvl ⊢
  cases B with
  | false =>
    rw [if_neg (by simp)]
    clear hB
    obtain ⟨g0, g1, g2, g3, g4⟩ := cells5 h0.g
    go_enter Tryd.func33, Tryd.ntmps33
    go_wp2_with fail
    refine (hvl _ (he.below h0.be) (hi.below h0.be) (hT.below h0.be)).mono ?_
    rintro e w1 ⟨rfl, hb1⟩
    have h1 := h0.next hb1
    clear hb1 h0 g0 g1 g2 g3 g4
    obtain ⟨o0, o1, o2, o3, o4⟩ := cells5 h1.o
    obtain ⟨f0, f1, f2, f3, f4⟩ := frees5 h1.o
    have hbe := h1.be
    have HF := Lib.hid (set5_at h1.o (.int .i64 0) (.slice none 0 0) (.int .i64 0) (.int .i64 0) (.slice none 0 0))
    clear h1 hvl
    go_wp2_with fail
    obtain ⟨t0, t1, t2, t3, t4⟩ := cells5 HF.out
    unfold set5 at t0 t1 t2 t3 t4
    exact bodyPost_ret (v := .tuple #[.agg #[.int .i64 0, .slice none 0 0, .int .i64 0, .int .i64 0, .slice none 0 0], .int .i64 0, .int .i64 35]) (by simp [results, Tryd.results33, go_sem, t0, t1, t2, t3, t4]) rfl
      ⟨none, 0, none, 0, rfl, QIn.void _ _, hbe.grown (set5_grown w1 (w.heap.size + 1) (.int .i64 0) (.slice none 0 0) (.int .i64 0) (.int .i64 0) (.slice none 0 0)) hbe.size (fun k e => by cases e; omega)⟩
  | true =>
    rw [if_pos rfl]
    obtain ⟨m, hv, hq⟩ := (sqOk_iff _).1 hB
    dsimp only [quadN] at hv hq
    obtain ⟨rfl, -, rfl, rfl, rfl⟩ := Qd.mk.inj hq
    clear hB hq
    rw [Int.toNat_natCast]
    have hm64 : m ≤ 64 := by have := hv.2.1; omega
    have had := fun W h => gremove_any m a cap es u v W h hl
    obtain ⟨A, hA⟩ : ∃ A, remX m es u v = A := ⟨_, rfl⟩
    have hAo : A.2.2 = 0 → _ := fun h => remX_ok (by rw [hA]; exact h)
    rw [hA] at had hAo ⊢
    clear hA
    obtain ⟨N, fs, E⟩ := A
    dsimp only at hAo ⊢
    unfold GrPost at had
    dsimp only at had
    by_cases hE : E = 0
    case neg =>
      rw [if_pos hE]
      have d1 : (E != 0) = true := by simpa using hE
      clear hAo hE
      obtain ⟨X, hX⟩ : ∃ X, wedS es m = X := ⟨_, rfl⟩
      obtain ⟨Y, hY⟩ : ∃ Y, sqT es m m / 4 = Y := ⟨_, rfl⟩
      obtain ⟨Z, hZ⟩ : ∃ Z, sqL es m = Z := ⟨_, rfl⟩
      rw [hZ] at hi
      rw [hX, hY, hZ] at hvl h0 ⊢
      clear hX hY hZ
      obtain ⟨g0, g1, g2, g3, g4⟩ := cells5 h0.g
      go_enter Tryd.func33, Tryd.ntmps33
      go_wp2_with fail
      refine (hvl _ (he.below h0.be) (hi.below h0.be) (hT.below h0.be)).mono ?_
      rintro e w1 ⟨rfl, hb1⟩
      have h1 := h0.next hb1
      clear hb1 h0 g0 g1 g2 g3 g4
      obtain ⟨g0, g1, g2, g3, g4⟩ := cells5 h1.g
      go_wp2_with fail
      refine (had _ (he.below h1.be)).mono ?_
      rintro e w2 ⟨af, cf, rfl, hef, haf, hb2⟩
      have h2 := (h1.next hb2).alloc (.cells #[.int .i64 N, .slice af fs.length cf] 27)
      clear hb2 h1 g0 g1 g2 g3 g4
      obtain ⟨o0, o1, o2, o3, o4⟩ := cells5 h2.o
      obtain ⟨f0, f1, f2, f3, f4⟩ := frees5 h2.o
      have hbe := h2.be
      have HF := Lib.hid (set5_at h2.o (.int .i64 0) (.slice none 0 0) (.int .i64 0) (.int .i64 0) (.slice none 0 0))
      clear h2 hvl
      go_wp2_with fail
      obtain ⟨t0, t1, t2, t3, t4⟩ := cells5 HF.out
      unfold set5 at t0 t1 t2 t3 t4
      exact bodyPost_ret (v := .tuple #[.agg #[.int .i64 0, .slice none 0 0, .int .i64 0, .int .i64 0, .slice none 0 0], .int .i64 0, .int .i64 E]) (by simp [results, Tryd.results33, go_sem, t0, t1, t2, t3, t4]) rfl
        ⟨none, 0, none, 0, rfl, QIn.void _ _, hbe.grown (set5_grown _ (w.heap.size + 1) (.int .i64 0) (.slice none 0 0) (.int .i64 0) (.int .i64 0) (.slice none 0 0)) hbe.size (fun k e => by cases e; omega)⟩
    subst hE
    rw [if_neg (by simp)]
    obtain ⟨-, hen, hmem, heq⟩ := hAo rfl
    obtain ⟨hN, hfs, -⟩ := Prod.mk.inj heq |>.imp id Prod.mk.inj
    obtain ⟨hvf, hK⟩ := kept_del hv hen hmem
    rw [← hfs] at hvf hK
    subst hN
    clear heq hfs hAo hmem
    obtain ⟨p, rfl⟩ := Int.eq_ofNat_of_zero_le (show 0 ≤ u by omega)
    obtain ⟨q, rfl⟩ := Int.eq_ofNat_of_zero_le (show 0 ≤ v by omega)
    rw [Int.toNat_natCast, Int.toNat_natCast] at hK ⊢
    have hpn : p < m := by omega
    have hqn : q < m := by omega
    obtain ⟨hWb, hCb⟩ := num_bd (es := es) hm64
    have hch := fun sl af cf W s h h2 t => changed_any (m : Int) (.slice a es.length cap) (wedS es m) (sqT es m m / 4) a2 c2 (sqL es m) (m : Int) sl m p q af cf fs (-1) W ⟨a, es.length, cap, rfl⟩ s h h2 hvf hpn hqn t (.inr rfl) (sqL_length es m) (sqL_bd hm64) hWb hCb
    rw [sqL_back hK, down_two _ _ _ _ hK.wed, down_one _ _ _ hK.cnt] at hch
    have hnl := sqL_length es m
    have hnf := sqL_length fs m
    unfold quadN
    dsimp only
    obtain ⟨X, hX⟩ : ∃ X, wedS es m = X := ⟨_, rfl⟩
    obtain ⟨Y, hY⟩ : ∃ Y, sqT es m m / 4 = Y := ⟨_, rfl⟩
    obtain ⟨Z, hZ⟩ : ∃ Z, sqL es m = Z := ⟨_, rfl⟩
    obtain ⟨X', hX'⟩ : ∃ X, wedS fs m = X := ⟨_, rfl⟩
    obtain ⟨Y', hY'⟩ : ∃ Y, sqT fs m m / 4 = Y := ⟨_, rfl⟩
    obtain ⟨Z', hZ'⟩ : ∃ Z, sqL fs m = Z := ⟨_, rfl⟩
    obtain ⟨O, hO⟩ : ∃ O, ovN fs p q = O := ⟨_, rfl⟩
    rw [hZ] at hi hnl
    rw [hX, hY, hZ] at hvl h0 hch ⊢
    rw [hX', hY', hZ'] at hch ⊢
    rw [hZ'] at hnf
    rw [hO] at hch ⊢
    clear hX hY hZ hX' hY' hZ' hO hWb hCb hK hen
    have HNL := Lib.hid hnl
    have HNF := Lib.hid hnf
    clear hnl hnf
    obtain ⟨g0, g1, g2, g3, g4⟩ := cells5 h0.g
    go_enter Tryd.func33, Tryd.ntmps33
    go_wp2_with fail
    refine (hvl _ (he.below h0.be) (hi.below h0.be) (hT.below h0.be)).mono ?_
    rintro e w1 ⟨rfl, hb1⟩
    have h1 := h0.next hb1
    clear hb1 h0 g0 g1 g2 g3 g4
    obtain ⟨g0, g1, g2, g3, g4⟩ := cells5 h1.g
    go_wp2_with fail
    refine (had _ (he.below h1.be)).mono ?_
    rintro e w2 ⟨af, cf, rfl, hef, haf, hb2⟩
    have h2n := h1.next hb2
    have h2 := h2n.alloc (.cells #[.int .i64 m, .slice af fs.length cf] 27)
    have hGb := heap_alloc_new w2 (.cells #[.int .i64 m, .slice af fs.length cf] 27)
    have hbA := (Below.refl w2.heap.size w2).alloc (Nat.le_refl _) (.cells #[.int .i64 m, .slice af fs.length cf] 27)
    have hefA := hef.below hbA
    have haf2 : ∀ p, af = some p → w.heap.size + 2 ≤ p.block := fun p hp => by have := haf p hp; have := h1.base; omega
    clear hb2 h1 g0 g1 g2 g3 g4 h2n hbA haf hef had hvl
    obtain ⟨g0, g1, g2, g3, g4⟩ := cells5 h2.g
    obtain ⟨k0, k1⟩ := cell_two hGb
    go_wp2_with fail
    refine (hch (.slice af fs.length cf) af cf _ ⟨af, fs.length, cf, rfl⟩ hefA (hi.below h2.be) (hT.below h2.be)).mono ?_
    rintro e w3 ⟨g, cz, rfl, hI3, hg3, hb3⟩
    have h3 := h2.next hb3
    have hef3 := hefA.below hb3
    have hg2 : w.heap.size + 2 ≤ g := Nat.le_trans h2.base hg3
    clear hb3 g0 g1 g2 g3 g4 k0 k1 hGb h2 hch hefA
    obtain ⟨o0, o1, o2, o3, o4⟩ := cells5 h3.o
    obtain ⟨f0, f1, f2, f3, f4⟩ := frees5 h3.o
    have hbe := h3.be
    have HF := Lib.hid (set5_at h3.o (.int .i64 m) (.slice af fs.length cf) (.int .i64 X') (.int .i64 Y') (.slice (some ⟨g, 0, none⟩) m cz))
    have hI4 : IntsAt w3 (.slice (some ⟨g, 0, none⟩) Z'.length cz) Z' := by rw [HNF.out]; exact hI3
    have q : QIn w3 (w.heap.size + 2) af cf fs (some ⟨g, 0, none⟩) cz Z' := ⟨hef3, hI4, haf2, fun p h => by cases h; exact hg2⟩
    have HQ := Lib.hid ((q.grown (set5_grown w3 (w.heap.size + 1) (.int .i64 m) (.slice af fs.length cf) (.int .i64 X') (.int .i64 Y') (.slice (some ⟨g, 0, none⟩) m cz)) (fun k e => by cases e; omega)).mono (show w.heap.size ≤ w.heap.size + 2 by omega))
    have HB := Lib.hid (hbe.grown (set5_grown w3 (w.heap.size + 1) (.int .i64 m) (.slice af fs.length cf) (.int .i64 X') (.int .i64 Y') (.slice (some ⟨g, 0, none⟩) m cz)) hbe.size (fun k e => by cases e; omega))
    clear h3 hI3 hI4 q hef3 hbe
    go_wp2_with fail
    obtain ⟨t0, t1, t2, t3, t4⟩ := cells5 HF.out
    unfold set5 at t0 t1 t2 t3 t4
    exact bodyPost_ret (v := .tuple #[.agg #[.int .i64 m, .slice af fs.length cf, .int .i64 X', .int .i64 Y', .slice (some ⟨g, 0, none⟩) m cz], .int .i64 (O.length : Int), .int .i64 0]) (by simp [results, Tryd.results33, go_sem, t0, t1, t2, t3, t4]) rfl
      ⟨af, cf, some ⟨g, 0, none⟩, cz, by rw [HNF.out], HQ.out, HB.out⟩
end Go.Proofs.YtekbpoppajbljaaDoor

namespace Go.Proofs.YtekbpoppajbljaaDoor
open Go.RowKit Go.BigFrame

set_option maxRecDepth 100000 in
set_option maxHeartbeats 1600000 in
theorem lints_any (a a2 : Option Addr) (cap cap2 : Nat) (xs : List Int) (w : World) (h1 : IntsAt w (.slice a xs.length cap) xs) (h2 : IntsAt w (.slice a2 xs.length cap2) xs) :
    Calls Tryd.prog 36 #[.slice a xs.length cap, .slice a2 xs.length cap2] w fun e w' => e = .returned (.bool true) ∧ Below w.heap.size w w' := by
  have hl1 : xs.length ≤ 70368744177664 := by obtain ⟨_, _, _, _, _, h, _⟩ := h1; exact h
  go_enter Tryd.func36, Tryd.ntmps36
  go_wp2_with fail
  go_loopw [13] (fun i wr => ∃ k : Nat, k ≤ xs.length ∧ i = .int .i64 k ∧ Below w.heap.size w wr) (fun i _ => xs.length - (intOf i).toNat)
  case atStart => exact ⟨0, Nat.zero_le _, rfl, Below.refl _ _⟩
  case round =>
    obtain ⟨k, hk, rfl, hb⟩ := hrel
    by_cases hlt : k < xs.length
    · obtain ⟨b, off, x, rfl, hx, hd1, ht1, c0⟩ := (h1.below hb).at k hlt
      obtain ⟨b2, off2, y, rfl, hy, hd2, ht2, c1⟩ := (h2.below hb).at k hlt
      rw [hx] at hy
      cases hy
      have hi1 : (k : Int) < xs.length := by omega
      clear hx hd1 ht1 hd2 ht2
      go_wp2_with fail
      go_quiet (fail)
      go_wp2_with fail
      go_roundw
      case rel => exact ⟨k + 1, by omega, by go_num, hb.trans (((Below.refl _ wr).drewN _).mono hb.size)⟩
      case measure => simp [intOf]; omega
    · obtain rfl : k = xs.length := by omega
      go_wp2_with fail
      go_ret
      exact ⟨rfl, hb⟩
end Go.Proofs.YtekbpoppajbljaaDoor
