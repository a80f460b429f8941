/- The contracts of the program's addition and removal of an edge, at any graph. -/
import Derived.Test.YtkknknehchnccaaDoorGrFind
import Derived.Test.YtkknknehchnccaaDoorEdgeDel
import Derived.Test.YtkknknehchnccaaDoorGeSlices
import Derived.Test.YtkknknehchnccaaDoorMk
namespace Go.Proofs.YtkknknehchnccaaDoor
open Go.RowKit Go.BigFrame

def endsB (n u v : Int) : Bool := (u != v) && (decide (0 ≤ min u v) && decide (max u v < n))
def chgE (n : Int) (es : List E2) (u v : Int) : Int := if checkS n es ≠ 0 then checkS n es else if endsB n u v = true then 0 else 6
/-- the graph with an edge more, or the error -/
def addX (n : Int) (es : List E2) (u v : Int) : Int × List E2 × Int := if chgE n es u v ≠ 0 then (0, [], chgE n es u v) else if (min u v, max u v) ∈ es then (0, [], 15) else (n, insE es (min u v, max u v), 0)
/-- the graph without an edge, or the error -/
def remX (n : Int) (es : List E2) (u v : Int) : Int × List E2 × Int := if chgE n es u v ≠ 0 then (0, [], chgE n es u v) else if (min u v, max u v) ∈ es then (n, delE es (min u v, max u v), 0) else (0, [], 7)
theorem chgE_zero {n : Int} {es : List E2} {u v : Int} (h : chgE n es u v = 0) : Valid n es ∧ endsB n u v = true := by
  unfold chgE at h
  split at h
  · rename_i h1; exact absurd h h1
  · rename_i h1
    split at h
    · rename_i h2; exact ⟨(valid_iff n es).1 (Classical.not_not.1 h1), h2⟩
    · cases h
theorem endsB_iff {n u v : Int} : endsB n u v = true ↔ u ≠ v ∧ 0 ≤ min u v ∧ max u v < n := by simp [endsB]
theorem gends_any (n u v : Int) (w : World) : Calls Tryd.prog 118 #[.int .i64 n, .int .i64 u, .int .i64 v] w fun e w' => e = .returned (.bool (endsB n u v)) ∧ w = w' := by
  unfold endsB
  obtain ⟨B1, h1⟩ : ∃ B, (u != v) = B := ⟨_, rfl⟩
  obtain ⟨B2, h2⟩ : ∃ B, decide (0 ≤ min u v) = B := ⟨_, rfl⟩
  obtain ⟨B3, h3⟩ : ∃ B, decide (max u v < n) = B := ⟨_, rfl⟩
  rw [h1, h2, h3]
  cases B1 <;> cases B2 <;> cases B3
  all_goals
    go_enter Tryd.func118, Tryd.ntmps118
    go_wp2
    go_ret
    exact ⟨rfl, rfl⟩
theorem gchange_any (n : Int) (a : Option Addr) (cap : Nat) (es : List E2) (u v : Int) (w : World) (he : EdgesAt w (.slice a es.length cap) es) :
    Calls Tryd.prog 119 #[.agg #[.int .i64 n, .slice a es.length cap], .int .i64 u, .int .i64 v] w fun e w' => e = .returned (.int .i64 (chgE n es u v)) ∧ Below w.heap.size w w' := by
  have hb0 : Below w.heap.size w (w.alloc (.cells #[.int .i64 n, .slice a es.length cap] 25)) := (Below.refl _ _).alloc (Nat.le_refl _) _
  have hG0 := heap_alloc_new w (.cells #[.int .i64 n, .slice a es.length cap] 25)
  have hck := fun W h => gcheck_any n a cap es W h
  have hen := fun W => gends_any n u v W
  unfold chgE
  obtain ⟨C, hC⟩ : ∃ C, checkS n es = C := ⟨_, rfl⟩
  obtain ⟨B, hB⟩ : ∃ B, endsB n u v = B := ⟨_, rfl⟩
  rw [hC] at hck ⊢
  rw [hB] at hen ⊢
  clear hC hB
  by_cases h0 : C = 0
  · subst h0
    cases B
    all_goals
      go_enter Tryd.func119, Tryd.ntmps119
      go_wp2_with fail
      refine (hck _ (he.below hb0)).mono ?_
      rintro e w1 ⟨rfl, hb1⟩
      have hb01 := hb0.trans (hb1.mono hb0.size)
      have g0 := cell_blk (j := 0) (lit_next' hb1 hG0)
      clear hb1
      go_wp2_with fail
      refine (hen _).mono ?_
      rintro e w2 ⟨rfl, rfl⟩
      go_wp2_with fail
      go_ret
      exact ⟨rfl, hb01⟩
  · have d1 : (C != 0) = true := by simpa using h0
    rw [if_pos h0]
    go_enter Tryd.func119, Tryd.ntmps119
    go_wp2_with fail
    refine (hck _ (he.below hb0)).mono ?_
    rintro e w1 ⟨rfl, hb1⟩
    have hb01 := hb0.trans (hb1.mono hb0.size)
    clear hb1
    go_wp2_with fail
    go_ret
    exact ⟨rfl, hb01⟩
/-- a graph and an error are handed back -/
def GrPost (w : World) (x : Int × List E2 × Int) (e : Ending) (w' : World) : Prop := ∃ a cap, e = .returned (.tuple #[.agg #[.int .i64 x.1, .slice a x.2.1.length cap], .int .i64 x.2.2]) ∧ EdgesAt w' (.slice a x.2.1.length cap) x.2.1 ∧ (∀ p, a = some p → w.heap.size ≤ p.block) ∧ Below w.heap.size w w'
/-- a graph's box, and the box of the result -/
structure Gr2 (w : World) (n : Int) (sl : Value) (wr : World) : Prop where
  g : wr.heap[w.heap.size]? = some (.cells #[.int .i64 n, sl] 25 (0, 0))
  o : wr.heap[w.heap.size + 1]? = some (.cells #[.int .i64 0, .slice none 0 0] 25 (0, 0))
  be : Below w.heap.size w wr
theorem Gr2.next {w wr w' : World} {n : Int} {sl : Value} (h : Gr2 w n sl wr) (hb : Below wr.heap.size wr w') : Gr2 w n sl w' := ⟨lit_next' hb h.g, lit_next' hb h.o, h.be.trans (hb.mono h.be.size)⟩
theorem Gr2.alloc {w wr : World} {n : Int} {sl : Value} (h : Gr2 w n sl wr) (o : Obj) : Gr2 w n sl (wr.alloc o) := h.next ((Below.refl _ _).alloc (Nat.le_refl _) _)
theorem Gr2.drew {w wr : World} {n : Int} {sl : Value} (h : Gr2 w n sl wr) : Gr2 w n sl wr.drew := h.next (Below.refl _ _).drew
theorem Gr2.start (w : World) (n : Int) (sl : Value) : Gr2 w n sl ((w.alloc (.cells #[.int .i64 n, sl] 25)).alloc (.cells #[.int .i64 0, .slice none 0 0] 25)) := by
  have h1 := heap_alloc_new w (.cells #[.int .i64 n, sl] 25)
  have h2 := heap_alloc_new (w.alloc (.cells #[.int .i64 n, sl] 25)) (.cells #[.int .i64 0, .slice none 0 0] 25)
  have hz : (w.alloc (.cells #[.int .i64 n, sl] 25)).heap.size = w.heap.size + 1 := by simp
  rw [hz] at h2
  exact ⟨(Below.heap_alloc _ _ _ (blk_lt h1)).trans h1, h2, ((Below.refl _ _).alloc (Nat.le_refl _) _).alloc (by simp) _⟩
theorem Gr2.grown {w wr w' : World} {n : Int} {sl : Value} {r : Option Nat} (h : Gr2 w n sl wr) (hg : wr.grownBy w' r) (hr : ∀ k, r = some k → w.heap.size + 2 ≤ k) : Gr2 w n sl w' :=
  ⟨grown_blk hg h.g (fun e => by have := hr _ e.symm; omega), grown_blk hg h.o (fun e => by have := hr _ e.symm; omega), h.be.grown hg h.be.size (fun k e => by have := hr k e; omega)⟩
theorem Gr2.base {w wr : World} {n : Int} {sl : Value} (h : Gr2 w n sl wr) : w.heap.size + 2 ≤ wr.heap.size := blk_lt h.o
/-- the result is stored -/
theorem Gr2.fin {w w6 : World} {n N : Int} {sl : Value} {a : Option Addr} {cap : Nat} {ys : List E2} (h : Gr2 w n sl w6) (he : EdgesAt w6 (.slice a ys.length cap) ys) (ha : ∀ p, a = some p → w.heap.size + 2 ≤ p.block) :
    ((w6.setCell ⟨w.heap.size + 1, 0, none⟩ (.int .i64 N)).setCell ⟨w.heap.size + 1, 1, none⟩ (.slice a ys.length cap)).cell? ⟨w.heap.size + 1, 0, none⟩ = some (.int .i64 N) ∧
    ((w6.setCell ⟨w.heap.size + 1, 0, none⟩ (.int .i64 N)).setCell ⟨w.heap.size + 1, 1, none⟩ (.slice a ys.length cap)).cell? ⟨w.heap.size + 1, 1, none⟩ = some (.slice a ys.length cap) ∧
    EdgesAt ((w6.setCell ⟨w.heap.size + 1, 0, none⟩ (.int .i64 N)).setCell ⟨w.heap.size + 1, 1, none⟩ (.slice a ys.length cap)) (.slice a ys.length cap) ys ∧ Below w.heap.size w ((w6.setCell ⟨w.heap.size + 1, 0, none⟩ (.int .i64 N)).setCell ⟨w.heap.size + 1, 1, none⟩ (.slice a ys.length cap)) := by
  have hfin := set_two (u := .int .i64 N) (v := .slice a ys.length cap) h.o
  have hg9 : w6.grownBy ((w6.setCell ⟨w.heap.size + 1, 0, none⟩ (.int .i64 N)).setCell ⟨w.heap.size + 1, 1, none⟩ (.slice a ys.length cap)) (some (w.heap.size + 1)) := grown_trans grown_store grown_store
  exact ⟨cell_blk hfin, cell_blk hfin, he.grown hg9 (fun g e n c p ep => by cases e; have := ha p (Value.slice.inj ep).1; omega), h.be.grown hg9 h.be.size (fun k hk => by cases hk; omega)⟩
theorem edges_nil (w : World) : EdgesAt w (.slice none 0 0) [] := ⟨none, 0, rfl, Nat.le_refl _, fun _ => rfl, by simp, fun i e h => by simp at h⟩
set_option maxRecDepth 100000 in
set_option maxHeartbeats 3200000 in
theorem gadd_any (n : Int) (a : Option Addr) (cap : Nat) (es : List E2) (u v : Int) (w : World) (he : EdgesAt w (.slice a es.length cap) es) :
    Calls Tryd.prog 79 #[.agg #[.int .i64 n, .slice a es.length cap], .int .i64 u, .int .i64 v] w (GrPost w (addX n es u v)) := by
  have hch := fun W h => gchange_any n a cap es u v W h
  have h0 := Gr2.start w n (.slice a es.length cap)
  unfold addX
  obtain ⟨C, hC⟩ : ∃ C, chgE n es u v = C := ⟨_, rfl⟩
  rw [hC] at hch ⊢
  by_cases hz : C = 0
  case neg =>
    rw [if_pos hz]
    have d1 : (C != 0) = true := by simpa using hz
    clear hC hz
    go_enter Tryd.func79, Tryd.ntmps79
    go_wp2_with fail
    refine (hch _ (he.below h0.be)).mono ?_
    rintro e w1 ⟨rfl, hb1⟩
    have h1 := h0.next hb1
    clear hb1 h0
    have o0 := cell_blk (j := 0) h1.o
    have o1 := cell_blk (j := 1) h1.o
    have f0 := free_blk (j := 0) h1.o
    have f1 := free_blk (j := 1) h1.o
    obtain ⟨t0, t1, hef, hbf⟩ := h1.fin (N := 0) (a := none) (cap := 0) (ys := []) (edges_nil w1) (fun p h => by cases h)
    simp only [List.length_nil] at t0 t1 hef hbf
    clear h1 hch
    go_wp2_with fail
    exact bodyPost_ret (v := .tuple #[.agg #[.int .i64 0, .slice none 0 0], .int .i64 C]) (by simp [results, Tryd.results79, go_sem, t0, t1]) rfl ⟨none, 0, rfl, hef, (fun p h => by cases h), hbf⟩
  subst hz
  obtain ⟨hv, hen⟩ := chgE_zero hC
  have hl : es.length ≤ 100000 := by have := hv.length_le; omega
  rw [if_neg (by simp)]
  have hpl := fun W h => place_any n a cap es u v W h hv.2.2.2 (by omega)
  obtain ⟨T, hT⟩ : ∃ T : E2, (min u v, max u v) = T := ⟨_, rfl⟩
  have hT1 : min u v = T.1 := by rw [← hT]
  have hT2 : max u v = T.2 := by rw [← hT]
  rw [hT] at hpl ⊢
  by_cases hm : T ∈ es
  case pos =>
    rw [if_pos hm]
    rw [decide_eq_true hm] at hpl
    clear hC
    go_enter Tryd.func79, Tryd.ntmps79
    go_wp2_with fail
    refine (hch _ (he.below h0.be)).mono ?_
    rintro e w1 ⟨rfl, hb1⟩
    have h1 := h0.next hb1
    clear hb1 h0
    have g0 := cell_blk (j := 0) h1.g
    have g1 := cell_blk (j := 1) h1.g
    go_wp2_with fail
    refine (hpl _ (he.below h1.be)).mono ?_
    rintro e w2 ⟨i, rfl, -, -, hb2⟩
    have h2 := h1.next hb2
    clear hb2 h1 g0 g1
    have o0 := cell_blk (j := 0) h2.o
    have o1 := cell_blk (j := 1) h2.o
    have f0 := free_blk (j := 0) h2.o
    have f1 := free_blk (j := 1) h2.o
    obtain ⟨t0, t1, hef, hbf⟩ := h2.fin (N := 0) (a := none) (cap := 0) (ys := []) (edges_nil w2) (fun p h => by cases h)
    simp only [List.length_nil] at t0 t1 hef hbf
    clear h2 hch hpl
    go_wp2_with fail
    exact bodyPost_ret (v := .tuple #[.agg #[.int .i64 0, .slice none 0 0], .int .i64 15]) (by simp [results, Tryd.results79, go_sem, t0, t1]) rfl ⟨none, 0, rfl, hef, (fun p h => by cases h), hbf⟩
  rw [if_neg hm]
  rw [decide_eq_false hm] at hpl
  have hlI := insE_length es T
  have hge := fun W => gedge_any u v W
  rw [hT1, hT2] at hge
  clear hC
  go_enter Tryd.func79, Tryd.ntmps79
  go_wp2_with fail
  refine (hch _ (he.below h0.be)).mono ?_
  rintro e w1 ⟨rfl, hb1⟩
  have h1 := h0.next hb1
  clear hb1 h0
  have g0 := cell_blk (j := 0) h1.g
  have g1 := cell_blk (j := 1) h1.g
  go_wp2_with fail
  refine (hpl _ (he.below h1.be)).mono ?_
  rintro e w2 ⟨i, rfl, hil, HB, hb2⟩
  have hins := ins_at es T i hil HB.1 HB.2 hm
  have hIL : es.length + 1 = (insE es T).length := by rw [← hins, List.length_append, List.length_cons, List.length_take, List.length_drop]; omega
  have HINS := Lib.hid hins
  have h2 := h1.next hb2
  clear hb2 h1 g0 g1 hpl hch hins HB hT hT1 hT2 hm hen
  have g0 := cell_blk (j := 0) h2.g
  have g1 := cell_blk (j := 1) h2.g
  have o0 := cell_blk (j := 0) h2.o
  have o1 := cell_blk (j := 1) h2.o
  have f0 := free_blk (j := 0) h2.o
  have f1 := free_blk (j := 1) h2.o
  have hrow := (he.below h2.drew.be).row (by omega)
  have h2d := h2.drew
  obtain ⟨tu, tv⟩ := T
  dsimp only at hge
  have hbase := h2d.base
  clear h2
  go_wp2_with fail
  go_region_law (first
    | (go_simp; go_at_call 86; (with_reducible refine (geclone_any _ es _ hrow (by omega)).mono ?_); rintro e w4 ⟨x4, rfl, hown4, hb4⟩; have h4 := h2d.next hb4; have g04 := cell_blk (j := 0) h4.g)
    | (go_simp; go_at_call 122; (with_reducible refine (hge w4).mono ?_); rintro e w5 ⟨rfl, hb5⟩; have h5 := h4.next hb5; have g05 := cell_blk (j := 0) h5.g; have hA := h5.alloc (.cells #[.int .i64 tu, .int .i64 tv] 39); have gA0 := cell_blk (j := 0) hA.g; have hownA := (hown4.kept (grown_of_below hb5) (Classical.em _)).alloc (.cells #[.int .i64 tu, .int .i64 tv] 39); have hxA := heap_alloc_new w5 (.cells #[.int .i64 tu, .int .i64 tv] 39); have hsz := hb5.size)
    | (go_simp; go_at_call 121; (with_reducible refine (geinsert_any w2.drew.heap.size i es (tu, tv) x4 w5.heap.size 39 #[.int .i64 tu, .int .i64 tv] _ hownA hxA rfl (fun e => by have := (hown4.lt _ e).2; omega) (by have := hb4.size; have hwd : w2.drew.heap.size = w2.heap.size := rfl; simp; omega) hil (by omega)).mono ?_); rintro e w6 ⟨v6, rfl, hown6, hg6⟩; have h6 := hA.grown hg6 (fun k e => by have := (hown4.lt k e).1; omega); rw [HINS.out] at hown6; obtain ⟨a6, c6, rfl, he6, ha6⟩ := EdgesAt.of_owns hown6 (by omega); have g06 := cell_blk (j := 0) h6.g; have p0 := cell_blk (j := 0) h6.o; have p1 := cell_blk (j := 1) h6.o; have q0 := free_blk (j := 0) h6.o; have q1 := free_blk (j := 1) h6.o; obtain ⟨t0, t1, hef, hbf⟩ := h6.fin (N := n) he6 (fun p h => by have := ha6 p h; omega)))
  all_goals
    go_wp2_with fail
    exact bodyPost_ret (v := .tuple #[.agg #[.int .i64 n, .slice a6 (insE es (tu, tv)).length c6], .int .i64 0]) (by simp [results, Tryd.results79, go_sem, t0, t1]) rfl ⟨a6, c6, rfl, hef, (fun p h => by have := ha6 p h; omega), hbf⟩
set_option maxRecDepth 100000 in
set_option maxHeartbeats 3200000 in
theorem gremove_any (n : Int) (a : Option Addr) (cap : Nat) (es : List E2) (u v : Int) (w : World) (he : EdgesAt w (.slice a es.length cap) es) :
    Calls Tryd.prog 81 #[.agg #[.int .i64 n, .slice a es.length cap], .int .i64 u, .int .i64 v] w (GrPost w (remX n es u v)) := by
  have hch := fun W h => gchange_any n a cap es u v W h
  have h0 := Gr2.start w n (.slice a es.length cap)
  unfold remX
  obtain ⟨C, hC⟩ : ∃ C, chgE n es u v = C := ⟨_, rfl⟩
  rw [hC] at hch ⊢
  by_cases hz : C = 0
  case neg =>
    rw [if_pos hz]
    have d1 : (C != 0) = true := by simpa using hz
    clear hC hz
    go_enter Tryd.func81, Tryd.ntmps81
    go_wp2_with fail
    refine (hch _ (he.below h0.be)).mono ?_
    rintro e w1 ⟨rfl, hb1⟩
    have h1 := h0.next hb1
    clear hb1 h0
    have o0 := cell_blk (j := 0) h1.o
    have o1 := cell_blk (j := 1) h1.o
    have f0 := free_blk (j := 0) h1.o
    have f1 := free_blk (j := 1) h1.o
    obtain ⟨t0, t1, hef, hbf⟩ := h1.fin (N := 0) (a := none) (cap := 0) (ys := []) (edges_nil w1) (fun p h => by cases h)
    simp only [List.length_nil] at t0 t1 hef hbf
    clear h1 hch
    go_wp2_with fail
    exact bodyPost_ret (v := .tuple #[.agg #[.int .i64 0, .slice none 0 0], .int .i64 C]) (by simp [results, Tryd.results81, go_sem, t0, t1]) rfl ⟨none, 0, rfl, hef, (fun p h => by cases h), hbf⟩
  subst hz
  obtain ⟨hv, hen⟩ := chgE_zero hC
  have hl : es.length ≤ 100000 := by have := hv.length_le; omega
  rw [if_neg (by simp)]
  have hpl := fun W h => place_any n a cap es u v W h hv.2.2.2 (by omega)
  obtain ⟨T, hT⟩ : ∃ T : E2, (min u v, max u v) = T := ⟨_, rfl⟩
  have hT1 : min u v = T.1 := by rw [← hT]
  have hT2 : max u v = T.2 := by rw [← hT]
  rw [hT] at hpl ⊢
  by_cases hm : T ∈ es
  case neg =>
    rw [if_neg hm]
    rw [decide_eq_false hm] at hpl
    clear hC
    go_enter Tryd.func81, Tryd.ntmps81
    go_wp2_with fail
    refine (hch _ (he.below h0.be)).mono ?_
    rintro e w1 ⟨rfl, hb1⟩
    have h1 := h0.next hb1
    clear hb1 h0
    have g0 := cell_blk (j := 0) h1.g
    have g1 := cell_blk (j := 1) h1.g
    go_wp2_with fail
    refine (hpl _ (he.below h1.be)).mono ?_
    rintro e w2 ⟨i, rfl, -, -, hb2⟩
    have h2 := h1.next hb2
    clear hb2 h1 g0 g1
    have o0 := cell_blk (j := 0) h2.o
    have o1 := cell_blk (j := 1) h2.o
    have f0 := free_blk (j := 0) h2.o
    have f1 := free_blk (j := 1) h2.o
    obtain ⟨t0, t1, hef, hbf⟩ := h2.fin (N := 0) (a := none) (cap := 0) (ys := []) (edges_nil w2) (fun p h => by cases h)
    simp only [List.length_nil] at t0 t1 hef hbf
    clear h2 hch hpl
    go_wp2_with fail
    exact bodyPost_ret (v := .tuple #[.agg #[.int .i64 0, .slice none 0 0], .int .i64 7]) (by simp [results, Tryd.results81, go_sem, t0, t1]) rfl ⟨none, 0, rfl, hef, (fun p h => by cases h), hbf⟩
  rw [if_pos hm]
  rw [decide_eq_true hm] at hpl
  obtain ⟨D, hD⟩ : ∃ D, delE es T = D := ⟨_, rfl⟩
  rw [hD]
  clear hC
  go_enter Tryd.func81, Tryd.ntmps81
  go_wp2_with fail
  refine (hch _ (he.below h0.be)).mono ?_
  rintro e w1 ⟨rfl, hb1⟩
  have h1 := h0.next hb1
  clear hb1 h0
  have g0 := cell_blk (j := 0) h1.g
  have g1 := cell_blk (j := 1) h1.g
  go_wp2_with fail
  refine (hpl _ (he.below h1.be)).mono ?_
  rintro e w2 ⟨i, rfl, hil, HB, hb2⟩
  obtain ⟨hit, hdel⟩ := del_at es T i hv.2.2.2 hil HB.1 HB.2 hm
  rw [hD] at hdel
  have hDL : D.length + 1 = es.length := by rw [← hdel, List.length_append, List.length_take, List.length_drop]; omega
  have HDEL := Lib.hid hdel
  have h2 := h1.next hb2
  clear hb2 h1 g0 g1 hpl hch hdel HB hT hT1 hT2 hm hen hD
  have g0 := cell_blk (j := 0) h2.g
  have g1 := cell_blk (j := 1) h2.g
  have o0 := cell_blk (j := 0) h2.o
  have o1 := cell_blk (j := 1) h2.o
  have f0 := free_blk (j := 0) h2.o
  have f1 := free_blk (j := 1) h2.o
  have hrow := (he.below h2.drew.be).row (by omega)
  have h2d := h2.drew
  have hwi : IntKind.i64.wrap ((i : Int) + 1) = (i : Int) + 1 := IntWalk.i64_in _ (by omega)
  have hbase := h2d.base
  clear h2
  go_wp2_with fail
  go_region_law (first
    | (go_simp; go_at_call 86; (with_reducible refine (geclone_any _ es _ hrow (by omega)).mono ?_); rintro e w4 ⟨x4, rfl, hown4, hb4⟩; have h4 := h2d.next hb4; have g04 := cell_blk (j := 0) h4.g)
    | (go_simp; go_at_call 126; (with_reducible refine (gedelete_any w2.drew.heap.size i es x4 w4 hown4 hit (by omega)).mono ?_); rintro e w6 ⟨v6, rfl, hown6, hg6⟩; have h6 := h4.grown hg6 (fun k e => by have := (hown4.lt k e).1; omega); rw [HDEL.out] at hown6; obtain ⟨a6, c6, rfl, he6, ha6⟩ := EdgesAt.of_owns hown6 (by omega); have g06 := cell_blk (j := 0) h6.g; have p0 := cell_blk (j := 0) h6.o; have p1 := cell_blk (j := 1) h6.o; have q0 := free_blk (j := 0) h6.o; have q1 := free_blk (j := 1) h6.o; obtain ⟨t0, t1, hef, hbf⟩ := h6.fin (N := n) he6 (fun p h => by have := ha6 p h; omega)))
  all_goals
    go_wp2_with fail
    exact bodyPost_ret (v := .tuple #[.agg #[.int .i64 n, .slice a6 D.length c6], .int .i64 0]) (by simp [results, Tryd.results81, go_sem, t0, t1]) rfl ⟨a6, c6, rfl, hef, (fun p h => by have := ha6 p h; omega), hbf⟩
end Go.Proofs.YtkknknehchnccaaDoor
