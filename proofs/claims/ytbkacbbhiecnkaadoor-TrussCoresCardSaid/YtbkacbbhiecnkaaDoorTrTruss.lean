/- The contracts of both functions that return the graph of a truss, and of the reference's supports. -/
import Derived.Test.YtbkacbbhiecnkaaDoorRefTr3
import Derived.Test.YtbkacbbhiecnkaaDoorRef03Of
namespace Go.Proofs.YtbkacbbhiecnkaaDoor
open Go.RowKit Go.BigFrame

/-- the edges of some indices -/
def pickE (es : List E2) (l : List Nat) : List E2 := l.map fun i => es.getD i (0, 0)
theorem pickE_snoc (es : List E2) (l : List Nat) (i : Nat) (e : E2) (h : es[i]? = some e) : pickE es (l ++ [i]) = pickE es l ++ [e] := by
  unfold pickE
  rw [List.map_append, List.map_singleton, List.getD_eq_getElem?_getD, h]; rfl
theorem pickE_length (es : List E2) (l : List Nat) : (pickE es l).length = l.length := List.length_map _
theorem selL_snoc (S : Nat → Bool) (t : Nat) : selL (t + 1) S = if S t = true then selL t S ++ [t] else selL t S := by
  unfold selL
  rw [List.range_succ, List.filter_append]
  by_cases h : S t = true
  · rw [if_pos h]; simp [h]
  · rw [if_neg h]; simp [h]
/-- what both return -/
def truX (n : Int) (es : List E2) (k : Int) : Int × List E2 × Int := if checkS n es ≠ 0 then (0, [], checkS n es) else (n, pickE es (trI es n.toNat k), 0)
def GPost (w : World) (r : Int × List E2 × Int) (e : Ending) (w' : World) : Prop := ∃ a c, e = .returned (.tuple #[.agg #[.int .i64 r.1, .slice a r.2.1.length c], .int .i64 r.2.2]) ∧ EdgesAt w' (.slice a r.2.1.length c) r.2.1 ∧ (∀ p, a = some p → w.heap.size ≤ p.block) ∧ Below w.heap.size w w'
/-- a graph that is being built in block O -/
structure OutW (w wr : World) (n : Int) (a : Option Addr) (cap : Nat) (es : List E2) (O B : Nat) (v : Value) (os : List E2) : Prop where
  g : wr.heap[w.heap.size]? = some (.cells #[.int .i64 n, .slice a es.length cap] 27 (0, 0))
  z : wr.heap[w.heap.size + 1]? = some (.cells #[.int .i64 0, .slice none 0 0] 27 (0, 0))
  o : wr.heap[O]? = some (.cells #[.int .i64 n, v] 27 (0, 0))
  own : wr.ownsRow B 42 2 v os.length (flatE os)
  big : w.heap.size + 2 ≤ O
  ob : O < B
  be : Below w.heap.size w wr
section
variable {w wr w6 : World} {n : Int} {a : Option Addr} {cap : Nat} {es : List E2} {O B : Nat} {v : Value} {os : List E2}
theorem OutW.cells (h : OutW w wr n a cap es O B v os) : wr.cell? ⟨w.heap.size, 1, none⟩ = some (.slice a es.length cap) ∧ wr.cell? ⟨O, 1, none⟩ = some v ∧ wr.frozen? ⟨O, 1, none⟩ = false :=
  ⟨by rw [cell_blk h.g]; rfl, by rw [cell_blk h.o]; rfl, free_blk h.o⟩
theorem OutW.drew (h : OutW w wr n a cap es O B v os) : OutW w wr.drew n a cap es O B v os := ⟨h.g, h.z, h.o, h.own, h.big, h.ob, h.be.drew⟩
theorem OutW.alloc (h : OutW w wr n a cap es O B v os) (ob : Obj) : OutW w (wr.alloc ob) n a cap es O B v os := by
  have hb := (Below.refl wr.heap.size wr).alloc (Nat.le_refl _) ob
  exact ⟨lit_next' hb h.g, lit_next' hb h.z, lit_next' hb h.o, h.own.alloc _, h.big, h.ob, h.be.alloc h.be.size _⟩
/-- behind the append, the store still to come -/
theorem OutW.grown (h : OutW w wr n a cap es O B v os) (hg : wr.grownBy w6 v.ownBlock) : w6.heap[w.heap.size]? = some (.cells #[.int .i64 n, .slice a es.length cap] 27 (0, 0)) ∧ w6.heap[w.heap.size + 1]? = some (.cells #[.int .i64 0, .slice none 0 0] 27 (0, 0)) ∧ w6.heap[O]? = some (.cells #[.int .i64 n, v] 27 (0, 0)) ∧ Below w.heap.size w w6 := by
  have hne : ∀ k, k ≤ O → some k ≠ v.ownBlock := fun k hk e => by have := (h.own.lt k e.symm).1; have := h.ob; omega
  have hO := h.big
  exact ⟨grown_blk hg h.g (hne _ (by omega)), grown_blk hg h.z (hne _ (by omega)), grown_blk hg h.o (hne _ (Nat.le_refl _)), h.be.grown hg h.be.size (fun k hk => by have := (h.own.lt k hk).1; have := h.ob; omega)⟩
theorem OutW.app (h : OutW w wr n a cap es O B v os) (hg : wr.grownBy w6 v.ownBlock) {v' : Value} {os' : List E2} (hown : w6.ownsRow B 42 2 v' os'.length (flatE os')) : OutW w (w6.setCell ⟨O, 1, none⟩ v') n a cap es O B v' os' := by
  obtain ⟨h1, h2, h3, h4⟩ := h.grown hg
  have hO := h.big
  exact ⟨(Below.heap_setCell w6 ⟨O, 1, none⟩ v' w.heap.size (by show w.heap.size ≠ O; omega)).trans h1, (Below.heap_setCell w6 ⟨O, 1, none⟩ v' (w.heap.size + 1) (by show w.heap.size + 1 ≠ O; omega)).trans h2, heap_setCell_same w6 O 1 _ _ v' h3, hown.kept grown_store (by
    cases hs : v'.ownBlock with
    | none => exact .inl rfl
    | some k => have := (hown.lt k hs).1; exact .inr (by simp; have := h.ob; omega)), hO, h.ob, h4.setCell (p := ⟨O, 1, none⟩) (by show w.heap.size ≤ O; omega) _⟩
end
set_option maxRecDepth 100000 in
set_option maxHeartbeats 3200000 in
theorem ttruss_any (n k : Int) (a : Option Addr) (cap : Nat) (es : List E2) (w : World) (he : EdgesAt w (.slice a es.length cap) es) (hT : TzAt w) :
    Calls Tryd.prog 58 #[.agg #[.int .i64 n, .slice a es.length cap], .int .i64 k] w (GPost w (truX n es k)) := by
  have hb0 : Below w.heap.size w ((w.alloc (.cells #[.int .i64 n, .slice a es.length cap] 27)).alloc (.cells #[.int .i64 0, .slice none 0 0] 27)) := ((Below.refl _ _).alloc (Nat.le_refl _) _).alloc (by simp) _
  have hG0 : ((w.alloc (.cells #[.int .i64 n, .slice a es.length cap] 27)).alloc (.cells #[.int .i64 0, .slice none 0 0] 27)).heap[w.heap.size]? = some (.cells #[.int .i64 n, .slice a es.length cap] 27 (0, 0)) := (Below.heap_alloc _ _ _ (by simp)).trans (heap_alloc_new _ _)
  have hZ0 : ((w.alloc (.cells #[.int .i64 n, .slice a es.length cap] 27)).alloc (.cells #[.int .i64 0, .slice none 0 0] 27)).heap[w.heap.size + 1]? = some (.cells #[.int .i64 0, .slice none 0 0] 27 (0, 0)) := by
    have h := heap_alloc_new (w.alloc (.cells #[.int .i64 n, .slice a es.length cap] 27)) (.cells #[.int .i64 0, .slice none 0 0] 27)
    simpa using h
  have hnm := fun W h hT => tnumbers_any n a cap es W h hT
  unfold TPost numX at hnm
  unfold GPost truX
  by_cases hC : checkS n es = 0
  case neg =>
    rw [if_pos hC] at hnm
    rw [if_pos hC]
    obtain ⟨C, hCC⟩ : ∃ C, checkS n es = C := ⟨_, rfl⟩
    rw [hCC] at hnm hC ⊢
    dsimp only at hnm ⊢
    have d1 : (C != 0) = true := by simpa using hC
    have d2 : (C == 0) = false := by simpa using hC
    clear hC hCC
    go_enter Tryd.func58, Tryd.ntmps58
    go_wp2_with fail
    refine (hnm _ (he.below hb0) (hT.below hb0)).mono ?_
    rintro e w1 ⟨a1, c1, rfl, -, -, hb1⟩
    have hZ1 := lit_next' hb1 hZ0
    have q0 := cell_blk (j := 0) hZ1
    have q1 := cell_blk (j := 1) hZ1
    have f0 := free_blk (j := 0) hZ1
    have f1 := free_blk (j := 1) hZ1
    have hb01 := hb0.trans (hb1.mono hb0.size)
    go_wp2_with fail
    have hfin := set_two (u := .int .i64 0) (v := .slice none 0 0) hZ1
    have t0 := (cell_blk (j := 0) hfin)
    have t1 := (cell_blk (j := 1) hfin)
    have hg9 : w1.grownBy ((w1.setCell ⟨w.heap.size + 1, 0, none⟩ (.int .i64 0)).setCell ⟨w.heap.size + 1, 1, none⟩ (.slice none 0 0)) (some (w.heap.size + 1)) := grown_trans grown_store grown_store
    exact bodyPost_ret (v := .tuple #[.agg #[.int .i64 0, .slice none 0 0], .int .i64 C]) (by simp [results, Tryd.results58, go_sem, t0, t1]) rfl ⟨none, 0, rfl, ⟨none, 0, rfl, Nat.le_refl _, fun _ => rfl, by simp, fun i e h => by simp at h⟩, (fun p hp => by cases hp), hb01.grown hg9 hb01.size (fun k hk => by cases hk; omega)⟩
  have hv := (valid_iff n es).1 hC
  rw [if_neg (by simpa using hC)] at hnm
  rw [if_neg (by simpa using hC)]
  obtain ⟨n, rfl⟩ := Int.eq_ofNat_of_zero_le hv.1
  rw [Int.toNat_natCast] at hnm ⊢
  have hnl := numT_length es n
  have hel := hv.length_le
  dsimp only at hnm ⊢
  rw [hnl] at hnm
  clear hC
  go_enter Tryd.func58, Tryd.ntmps58
  go_wp2_with fail
  refine (hnm _ (he.below hb0) (hT.below hb0)).mono ?_
  rintro e w1 ⟨aN, cN, rfl, hN1, -, hb1⟩
  have hb01 := hb0.trans (hb1.mono hb0.size)
  have hG1 := lit_next' hb1 hG0
  have hZ1 := lit_next' hb1 hZ0
  have g0 := cell_blk (j := 0) hG1
  have hO0 : OutW w (w1.alloc (.cells #[.int .i64 n, .slice none 0 0] 27)) n a cap es w1.heap.size (w1.heap.size + 1) (.slice none 0 0) (pickE es (selL 0 (trB es n k))) := by
    have hbn := (Below.refl w1.heap.size w1).alloc (Nat.le_refl _) (.cells #[.int .i64 n, .slice none 0 0] 27)
    have hz := blk_lt hZ1
    exact ⟨lit_next' hbn hG1, lit_next' hbn hZ1, heap_alloc_new _ _, World.ownsRow_nil _ _ _ _, by omega, Nat.lt_succ_self _, hb01.alloc hb01.size _⟩
  have hbn := (Below.refl w1.heap.size w1).alloc (Nat.le_refl _) (.cells #[.int .i64 n, .slice none 0 0] 27)
  have HNL := Lib.hid hnl
  clear hnm hG0 hZ0 hb0 hb1 hG1 hZ1 hnl hT
  go_wp2_with fail
  obtain ⟨O, hO⟩ : ∃ O, w1.heap.size = O := ⟨_, rfl⟩
  rw [hO] at hO0 ⊢
  go_loopw [25] (fun vi wr => ∃ (t : Nat) (sl : Value), t ≤ es.length ∧ vi = .int .i64 t ∧ OutW w wr n a cap es O (O + 1) sl (pickE es (selL t (trB es n k))) ∧ Below w1.heap.size w1 wr) (fun vi _ => es.length - (intOf vi).toNat)
  case atStart => exact ⟨0, _, Nat.zero_le _, rfl, hO0, hbn⟩
  case round =>
    clear hO0 hbn
    obtain ⟨t, sl, ht, rfl, hW, hb⟩ := hrel
    obtain ⟨ao, co, hvo⟩ := owns_shape hW.own
    subst hvo
    have HSN := Lib.hid (selL_snoc (trB es n k) t)
    have HPL := Lib.hid (pickE_length es (selL t (trB es n k)))
    have HSL := Lib.hid (selL_len t (trB es n k))
    by_cases hlt : t < es.length
    · have hlt3 : (t : Int) < es.length := by omega
      obtain ⟨b8, o8, rfl, c8⟩ : ∃ b off, aN = some ⟨b, off, none⟩ ∧ wr.cell? ⟨b, off + t, none⟩ = some (.int .i64 (numF es n t)) := by
        obtain ⟨_, _, hv', _, _, _, hc⟩ := hN1.below hb
        have e1 := (Value.slice.inj hv').1
        rw [e1]
        exact hc t _ (fnL_get _ _ _ hlt)
      obtain ⟨b, off, x, y, rfl, hget, _, _, c0, c1⟩ := (he.below hW.be).at t hlt
      have HT : Hid (trB es n k t = decide (k ≤ numF es n t)) := (show _ = _ by unfold trB; rw [decide_eq_true hlt, Bool.true_and])
      have HG := Lib.hid hget
      have hce : es.length ≤ cap := by obtain ⟨_, _, hv', h1, _⟩ := he; cases hv'; exact h1
      have hcN : es.length ≤ cN := by obtain ⟨_, _, hv', h1, _⟩ := hN1; have e1 := (Value.slice.inj hv').2; rw [HNL.out] at h1; omega
      clear hget
      obtain ⟨z, hz⟩ : ∃ z, numF es n t = z := ⟨_, rfl⟩
      rw [hz] at c8 HT
      clear hz
      by_cases hk : k ≤ z
      · have dk : decide (k ≤ z) = true := by simpa using hk
        have hnext : pickE es (selL (t + 1) (trB es n k)) = pickE es (selL t (trB es n k)) ++ [(x, y)] := by
          rw [HSN.out, if_pos (by rw [HT.out]; exact dk), pickE_snoc es _ t _ HG.out]
        have HN := Lib.hid hnext
        obtain ⟨os, hos⟩ : ∃ l, pickE es (selL t (trB es n k)) = l := ⟨_, rfl⟩
        rw [hos] at hW HN HPL
        have hol : os.length ≤ 4096 := by rw [HPL.out]; have := HSL.out; omega
        obtain ⟨q1, q2, qf⟩ := hW.cells
        have hWA := hW.drew.alloc (.cells #[.int .i64 x, .int .i64 y] 42)
        obtain ⟨r1, r2, rf⟩ := hWA.cells
        have hownA := hWA.own
        have hlx := edges_lit1 wr.drew x y 42
        have hbO : O + 1 ≤ wr.heap.size := blk_lt hW.o
        have qA := (hW.alloc (.cells #[.int .i64 x, .int .i64 y] 42)).cells.2.1
        clear hnext hos hk
        go_wp2_with fail
        go_region_law (refine step_app_edges edgesT rfl _ _ rfl (O + 1) (.slice ao os.length co) (.slice (some ⟨wr.heap.size, 0, none⟩) 1 1) os [(x, y)] rfl hownA rfl hlx (by simp; omega) (by simp; omega) ?_; intro v6 w6 hown6 hg6; have hl7 : (os ++ [(x, y)]).length = os.length + 1 := List.length_append; rw [← HN.out] at hown6 hl7; obtain ⟨os', hos'⟩ : ∃ l, pickE es (selL (t + 1) (trB es n k)) = l := ⟨_, rfl⟩; rw [hos'] at hown6 hl7; have HL7 := Lib.hid hl7; have HOS := Lib.hid hos'; clear hl7 hos'; obtain ⟨a6, c6, rfl⟩ := owns_shape hown6; obtain ⟨h1, h2, h3, h4⟩ := hWA.grown hg6; have s1 := cell_blk (j := 1) h3; have s2 := free_blk (j := 1) h3)
        all_goals
          have hW7 := hWA.app hg6 hown6
          have hb7 : Below w1.heap.size w1 (w6.setCell ⟨O, 1, none⟩ (.slice a6 os'.length c6)) := by
            have h1 := (hb.drew.alloc hb.size (.cells #[.int .i64 x, .int .i64 y] 42)).grown hg6 (by have := hb.size; simp; omega) (fun g e => by have := (hownA.lt g e).1; omega)
            exact h1.setCell (p := ⟨O, 1, none⟩) (by show w1.heap.size ≤ O; omega) _
          go_wp2_with fail
          go_roundw
          case rel => exact ⟨t + 1, _, by omega, by go_num, by rw [HOS.out]; exact hW7, hb7⟩
          case measure => simp [intOf]; omega
      · have dk : decide (k ≤ z) = false := by simpa using hk
        have hnext : pickE es (selL (t + 1) (trB es n k)) = pickE es (selL t (trB es n k)) := by
          rw [HSN.out, if_neg (by rw [HT.out, dk]; simp)]
        have HN := Lib.hid hnext
        clear hnext hk c0 c1
        go_wp2_with fail
        go_roundw
        case rel => exact ⟨t + 1, _, by omega, by go_num, by rw [HN.out]; exact hW, hb⟩
        case measure => simp [intOf]; omega
    · obtain rfl : t = es.length := by omega
      have HE : Hid (pickE es (selL es.length (trB es n k)) = pickE es (trI es n k)) := (show _ = _ from rfl)
      obtain ⟨os, hos⟩ : ∃ l, pickE es (selL es.length (trB es n k)) = l := ⟨_, rfl⟩
      have hHE := HE.out
      rw [hos] at hW HPL hHE
      have HX := Lib.hid hHE
      have hol : os.length ≤ 4096 := by rw [HPL.out]; have := HSL.out; omega
      have q0 := cell_blk (j := 0) hW.o
      have q1 := cell_blk (j := 1) hW.o
      have z0 := cell_blk (j := 0) hW.z
      have z1 := cell_blk (j := 1) hW.z
      have f0 := free_blk (j := 0) hW.z
      have f1 := free_blk (j := 1) hW.z
      clear hos hHE HE HSN HSL HPL
      go_wp2_with fail
      have hfin := set_two (u := .int .i64 n) (v := .slice ao os.length co) hW.z
      have t0 := (cell_blk (j := 0) hfin)
      have t1 := (cell_blk (j := 1) hfin)
      have hg9 : wr.grownBy ((wr.setCell ⟨w.heap.size + 1, 0, none⟩ (.int .i64 n)).setCell ⟨w.heap.size + 1, 1, none⟩ (.slice ao os.length co)) (some (w.heap.size + 1)) := grown_trans grown_store grown_store
      obtain ⟨_, _, hv', hee, hea⟩ := EdgesAt.of_owns hW.own (by omega)
      have e1 := Value.slice.inj hv'
      obtain ⟨rfl, -, rfl⟩ := e1
      have hbig := hW.big
      exact bodyPost_ret (v := .tuple #[.agg #[.int .i64 n, .slice ao os.length co], .int .i64 0]) (by simp [results, Tryd.results58, go_sem, t0, t1]) rfl (by rw [← HX.out]; exact ⟨ao, co, rfl, hee.grown hg9 (fun g e n' c' p hp => by cases e; have := hea p (Value.slice.inj hp).1; omega), (fun p hp => by have := hea p hp; omega), hW.be.grown hg9 hW.be.size (fun k hk => by cases hk; omega)⟩)
set_option maxRecDepth 100000 in
set_option maxHeartbeats 3200000 in
theorem rtrussG_any (n k : Int) (a : Option Addr) (cap : Nat) (es : List E2) (w : World) (he : EdgesAt w (.slice a es.length cap) es) :
    Calls Tryd.prog 63 #[.agg #[.int .i64 n, .slice a es.length cap], .int .i64 k] w (GPost w (truX n es k)) := by
  have hb0 : Below w.heap.size w ((w.alloc (.cells #[.int .i64 n, .slice a es.length cap] 27)).alloc (.cells #[.int .i64 0, .slice none 0 0] 27)) := ((Below.refl _ _).alloc (Nat.le_refl _) _).alloc (by simp) _
  have hG0 : ((w.alloc (.cells #[.int .i64 n, .slice a es.length cap] 27)).alloc (.cells #[.int .i64 0, .slice none 0 0] 27)).heap[w.heap.size]? = some (.cells #[.int .i64 n, .slice a es.length cap] 27 (0, 0)) := (Below.heap_alloc _ _ _ (by simp)).trans (heap_alloc_new _ _)
  have hZ0 : ((w.alloc (.cells #[.int .i64 n, .slice a es.length cap] 27)).alloc (.cells #[.int .i64 0, .slice none 0 0] 27)).heap[w.heap.size + 1]? = some (.cells #[.int .i64 0, .slice none 0 0] 27 (0, 0)) := by
    have h := heap_alloc_new (w.alloc (.cells #[.int .i64 n, .slice a es.length cap] 27)) (.cells #[.int .i64 0, .slice none 0 0] 27)
    simpa using h
  have hck := fun W h => check_any n a cap es W h
  unfold GPost truX
  by_cases hC : checkS n es = 0
  case neg =>
    rw [if_pos hC]
    obtain ⟨C, hCC⟩ : ∃ C, checkS n es = C := ⟨_, rfl⟩
    rw [hCC] at hck hC ⊢
    dsimp only
    have d1 : (C != 0) = true := by simpa using hC
    have d2 : (C == 0) = false := by simpa using hC
    clear hC hCC
    go_enter Tryd.func63, Tryd.ntmps63
    go_wp2_with fail
    refine (hck _ (he.below hb0)).mono ?_
    rintro e w1 ⟨rfl, hb1⟩
    have hZ1 := lit_next' hb1 hZ0
    have q0 := cell_blk (j := 0) hZ1
    have q1 := cell_blk (j := 1) hZ1
    have f0 := free_blk (j := 0) hZ1
    have f1 := free_blk (j := 1) hZ1
    have hb01 := hb0.trans (hb1.mono hb0.size)
    go_wp2_with fail
    have hfin := set_two (u := .int .i64 0) (v := .slice none 0 0) hZ1
    have t0 := (cell_blk (j := 0) hfin)
    have t1 := (cell_blk (j := 1) hfin)
    have hg9 : w1.grownBy ((w1.setCell ⟨w.heap.size + 1, 0, none⟩ (.int .i64 0)).setCell ⟨w.heap.size + 1, 1, none⟩ (.slice none 0 0)) (some (w.heap.size + 1)) := grown_trans grown_store grown_store
    exact bodyPost_ret (v := .tuple #[.agg #[.int .i64 0, .slice none 0 0], .int .i64 C]) (by simp [results, Tryd.results63, go_sem, t0, t1]) rfl ⟨none, 0, rfl, ⟨none, 0, rfl, Nat.le_refl _, fun _ => rfl, by simp, fun i e h => by simp at h⟩, (fun p hp => by cases hp), hb01.grown hg9 hb01.size (fun k hk => by cases hk; omega)⟩
  have hv := (valid_iff n es).1 hC
  rw [if_neg (by simpa using hC)]
  rw [hC] at hck
  obtain ⟨n, rfl⟩ := Int.eq_ofNat_of_zero_le hv.1
  rw [Int.toNat_natCast]
  have hel := hv.length_le
  dsimp only
  clear hC
  go_enter Tryd.func63, Tryd.ntmps63
  go_wp2_with fail
  refine (hck _ (he.below hb0)).mono ?_
  rintro e w1 ⟨rfl, hb1⟩
  have hb01 := hb0.trans (hb1.mono hb0.size)
  have hG1 := lit_next' hb1 hG0
  have hZ1 := lit_next' hb1 hZ0
  have g0 := cell_blk (j := 0) hG1
  have hbn := (Below.refl w1.heap.size w1).alloc (Nat.le_refl _) (.cells #[.int .i64 n, .slice none 0 0] 27)
  have hG2 := lit_next' hbn hG1
  have hZ2 := lit_next' hbn hZ1
  have hO2 := heap_alloc_new w1 (.cells #[.int .i64 n, .slice none 0 0] 27)
  have hb02 := hb01.alloc hb01.size (.cells #[.int .i64 n, .slice none 0 0] 27)
  have hzO : w.heap.size + 2 ≤ w1.heap.size := blk_lt hZ1
  clear hck hG0 hZ0 hb0 hb1
  have g2 := cell_blk (j := 0) hG2
  have g3 := cell_blk (j := 1) hG2
  have htr := rtruss_any n k a cap es _ (he.below hb02) hv
  unfold IntsNw at htr
  rw [castL_length] at htr
  have hOlt := blk_lt hO2
  go_wp2_with fail
  refine htr.mono ?_
  rintro e w3 ⟨a3, c3, rfl, hi3, ha3, hb3⟩
  obtain ⟨O, hO⟩ : ∃ O, w1.heap.size = O := ⟨_, rfl⟩
  rw [hO] at hO2 hzO hOlt ⊢
  have hW0 : OutW w w3 n a cap es O w3.heap.size (.slice none 0 0) (pickE es ((trI es n k).take 0)) := ⟨lit_next' hb3 hG2, lit_next' hb3 hZ2, lit_next' hb3 hO2, World.ownsRow_nil _ _ _ _, hzO, by have := hb3.size; omega, hb02.trans (hb3.mono hb02.size)⟩
  have hq3 : ∀ p, a3 = some p → p.block ≠ O := fun p hp => by have := ha3 p hp; omega
  have HTI : Hid (∀ x ∈ trI es n k, x < es.length) := (show _ from fun x hx => ((trI_mem es n k x).1 hx).1)
  have HSL : Hid ((trI es n k).length ≤ es.length) := selL_len _ _
  have hsl : (trI es n k).length ≤ 4096 := by have := HSL.out; omega
  have HE : Hid (pickE es ((trI es n k).take (trI es n k).length) = pickE es (trI es n k)) := (show _ = _ by rw [List.take_length])
  have hOw3 : O < w3.heap.size := by have := hb3.size; omega
  clear hG2 hZ2 hO2 hb02 g0 g2 g3 htr hb3 ha3 hOlt hbn hG1 hZ1 hb01 hO
  obtain ⟨L, hL⟩ : ∃ L, trI es n k = L := ⟨_, rfl⟩
  rw [hL] at hi3 hW0 HTI HSL hsl HE ⊢
  have HLE := Lib.hid hL
  clear hL
  go_wp2_with fail
  go_loopw [23] (fun vi wr => ∃ (t : Nat) (sl : Value), t ≤ L.length ∧ vi = .int .i64 t ∧ OutW w wr n a cap es O w3.heap.size sl (pickE es (L.take t)) ∧ w3.grownBy wr (some O)) (fun vi _ => L.length - (intOf vi).toNat)
  case atStart => exact ⟨0, _, Nat.zero_le _, rfl, hW0, grown_refl _ _⟩
  case round =>
    clear hW0
    obtain ⟨t, sl, ht, rfl, hW, hb⟩ := hrel
    obtain ⟨ao, co, hvo⟩ := owns_shape hW.own
    subst hvo
    have HPL := Lib.hid (pickE_length es (L.take t))
    have HTL : Hid ((L.take t).length ≤ es.length) := (show _ ≤ _ by rw [List.length_take]; have := HSL.out; omega)
    have hgw := hb.size
    by_cases hlt : t < L.length
    · have hlt3 : (t : Int) < L.length := by omega
      have hx : L[t]? = some (L[t]'hlt) := List.getElem?_eq_getElem hlt
      obtain ⟨i, hii⟩ : ∃ i, (L[t]'hlt) = i := ⟨_, rfl⟩
      rw [hii] at hx
      have hil : i < es.length := HTI.out i (List.mem_of_getElem? hx)
      have hil3 : (i : Int) < es.length := by omega
      obtain ⟨b8, o8, rfl, c8⟩ : ∃ b off, a3 = some ⟨b, off, none⟩ ∧ wr.cell? ⟨b, off + t, none⟩ = some (.int .i64 (i : Int)) := by
        obtain ⟨_, _, hv', _, _, _, hc⟩ := hi3.grown hb (fun g e n' c' p hp => by cases e; exact hq3 p (Value.slice.inj hp).1)
        have e1 := (Value.slice.inj hv').1
        rw [e1]
        exact hc t _ (by unfold castL; rw [List.getElem?_map, hx]; rfl)
      obtain ⟨b, off, x, y, rfl, hget, _, _, c0, c1⟩ := (he.below hW.be).at i hil
      have hce : es.length ≤ cap := by obtain ⟨_, _, hv', h1, _⟩ := he; cases hv'; exact h1
      have hcN : L.length ≤ c3 := by obtain ⟨_, _, hv', h1, _⟩ := hi3; have e1 := (Value.slice.inj hv').2; rw [castL_length] at h1; omega
      · have hnext : pickE es (L.take (t + 1)) = pickE es (L.take t) ++ [(x, y)] := by
          rw [take_at _ _ _ hx, pickE_snoc es _ i _ hget]
        have HN := Lib.hid hnext
        obtain ⟨os, hos⟩ : ∃ l, pickE es (L.take t) = l := ⟨_, rfl⟩
        rw [hos] at hW HN HPL
        have hol : os.length ≤ 4096 := by rw [HPL.out]; have := HTL.out; omega
        obtain ⟨q1, q2, qf⟩ := hW.cells
        have hWA := hW.drew.alloc (.cells #[.int .i64 x, .int .i64 y] 42)
        obtain ⟨r1, r2, rf⟩ := hWA.cells
        have hownA := hWA.own
        have hlx := edges_lit1 wr.drew x y 42
        have hbO : w3.heap.size ≤ wr.heap.size := hgw
        have qA := (hW.alloc (.cells #[.int .i64 x, .int .i64 y] 42)).cells.2.1
        clear hnext hos hx hii hget
        go_wp2_with fail
        go_region_law (refine step_app_edges edgesT rfl _ _ rfl w3.heap.size (.slice ao os.length co) (.slice (some ⟨wr.heap.size, 0, none⟩) 1 1) os [(x, y)] rfl hownA rfl hlx (by simp; omega) (by simp; omega) ?_; intro v6 w6 hown6 hg6; have hl7 : (os ++ [(x, y)]).length = os.length + 1 := List.length_append; rw [← HN.out] at hown6 hl7; obtain ⟨os', hos'⟩ : ∃ l, pickE es (L.take (t + 1)) = l := ⟨_, rfl⟩; rw [hos'] at hown6 hl7; have HL7 := Lib.hid hl7; have HOS := Lib.hid hos'; clear hl7 hos'; obtain ⟨a6, c6, rfl⟩ := owns_shape hown6; obtain ⟨h1, h2, h3, h4⟩ := hWA.grown hg6; have s1 := cell_blk (j := 1) h3; have s2 := free_blk (j := 1) h3)
        all_goals
          have hW7 := hWA.app hg6 hown6
          have hb7 : w3.grownBy (w6.setCell ⟨O, 1, none⟩ (.slice a6 os'.length c6)) (some O) := by
            have h1 := grown_trans hb (World.grownBy_alloc wr (.cells #[.int .i64 x, .int .i64 y] 42) (some O))
            have hg6' : (wr.alloc (.cells #[.int .i64 x, .int .i64 y] 42)).grownBy w6 (Value.slice ao os.length co).ownBlock := ⟨hg6.os, hg6.tape, hg6.output, hg6.size, hg6.block⟩
            have h2 := grown_new h1 hg6' (fun g e => .inr (hownA.lt g e).1)
            exact grown_trans h2 grown_store
          go_wp2_with fail
          go_roundw
          case rel => exact ⟨t + 1, _, by omega, by go_num, by rw [HOS.out]; exact hW7, hb7⟩
          case measure => simp [intOf]; omega
    · obtain rfl : t = L.length := by omega
      obtain ⟨os, hos⟩ : ∃ l, pickE es (L.take L.length) = l := ⟨_, rfl⟩
      have hHE := HE.out
      rw [hos] at hW HPL hHE
      have HX := Lib.hid hHE
      have hol : os.length ≤ 4096 := by rw [HPL.out]; have := HTL.out; omega
      have q0 := cell_blk (j := 0) hW.o
      have q1 := cell_blk (j := 1) hW.o
      have z0 := cell_blk (j := 0) hW.z
      have z1 := cell_blk (j := 1) hW.z
      have f0 := free_blk (j := 0) hW.z
      have f1 := free_blk (j := 1) hW.z
      clear hos hHE HE HSL HPL
      go_wp2_with fail
      have hfin := set_two (u := .int .i64 n) (v := .slice ao os.length co) hW.z
      have t0 := (cell_blk (j := 0) hfin)
      have t1 := (cell_blk (j := 1) hfin)
      have hg9 : wr.grownBy ((wr.setCell ⟨w.heap.size + 1, 0, none⟩ (.int .i64 n)).setCell ⟨w.heap.size + 1, 1, none⟩ (.slice ao os.length co)) (some (w.heap.size + 1)) := grown_trans grown_store grown_store
      obtain ⟨_, _, hv', hee, hea⟩ := EdgesAt.of_owns hW.own (by omega)
      have e1 := Value.slice.inj hv'
      obtain ⟨rfl, -, rfl⟩ := e1
      have hbig := hW.big
      exact bodyPost_ret (v := .tuple #[.agg #[.int .i64 n, .slice ao os.length co], .int .i64 0]) (by simp [results, Tryd.results63, go_sem, t0, t1]) rfl (by rw [HLE.out, ← HX.out]; exact ⟨ao, co, rfl, hee.grown hg9 (fun g e n' c' p hp => by cases e; have := hea p (Value.slice.inj hp).1; omega), (fun p hp => by have := hea p hp; omega), hW.be.grown hg9 hW.be.size (fun k hk => by cases hk; omega)⟩)
end Go.Proofs.YtbkacbbhiecnkaaDoor
