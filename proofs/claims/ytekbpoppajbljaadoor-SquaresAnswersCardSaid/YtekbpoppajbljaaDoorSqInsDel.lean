/- Boxes of a graph with its squares: a struct of five cells. The contract of opening a graph with its squares. The contracts of slices.Equal at numbers and of the check of a graph with its squares. The contract of the numbers of a graph in which an edge has come or gone. The contracts of inserting and deleting an edge of a graph with its squares. The contract of the law's test for equal lists of numbers, and the walk of the law SquaresKept. -/
import Derived.Test.YtekbpoppajbljaaDoorGrAdd
import Derived.Test.YtekbpoppajbljaaDoorSqNums
import Derived.Test.YtekbpoppajbljaaDoorSqKeptJ
import Derived.Test.YtekbpoppajbljaaDoorCntW
import Derived.Test.YtekbpoppajbljaaDoorPatSolve
import Derived.Test.YtekbpoppajbljaaDoorMkGraph
import Derived.Test.YtekbpoppajbljaaDoorNeigh
namespace Go.Proofs.YtekbpoppajbljaaDoor
open Go.RowKit Go.BigFrame

/-- a whole struct of five cells is stored -/
def set5 (W : World) (g : Nat) (x0 x1 x2 x3 x4 : Value) : World := ((((W.setCell ⟨g, 0, none⟩ x0).setCell ⟨g, 1, none⟩ x1).setCell ⟨g, 2, none⟩ x2).setCell ⟨g, 3, none⟩ x3).setCell ⟨g, 4, none⟩ x4
theorem set5_grown (W : World) (g : Nat) (x0 x1 x2 x3 x4 : Value) : W.grownBy (set5 W g x0 x1 x2 x3 x4) (some g) := grown_trans (grown_trans (grown_trans (grown_trans grown_store grown_store) grown_store) grown_store) grown_store
theorem set5_at {W : World} {g T : Nat} {y0 y1 y2 y3 y4 : Value} (h : W.heap[g]? = some (.cells #[y0, y1, y2, y3, y4] T (0, 0))) (x0 x1 x2 x3 x4 : Value) : (set5 W g x0 x1 x2 x3 x4).heap[g]? = some (.cells #[x0, x1, x2, x3, x4] T (0, 0)) := by
  unfold set5
  rw [heap_setCell_same _ _ _ _ _ _ (heap_setCell_same _ _ _ _ _ _ (heap_setCell_same _ _ _ _ _ _ (heap_setCell_same _ _ _ _ _ _ (heap_setCell_same _ _ _ _ _ _ h))))]
  rfl
theorem set5_other (W : World) (g k : Nat) (x0 x1 x2 x3 x4 : Value) (h : k ≠ g) : (set5 W g x0 x1 x2 x3 x4).heap[k]? = W.heap[k]? := by
  unfold set5
  rw [Below.heap_setCell _ _ _ _ h, Below.heap_setCell _ _ _ _ h, Below.heap_setCell _ _ _ _ h, Below.heap_setCell _ _ _ _ h, Below.heap_setCell _ _ _ _ h]
theorem cell_set5 (W : World) (g k j : Nat) (x0 x1 x2 x3 x4 : Value) (h : k ≠ g) : (((((W.setCell ⟨g, 0, none⟩ x0).setCell ⟨g, 1, none⟩ x1).setCell ⟨g, 2, none⟩ x2).setCell ⟨g, 3, none⟩ x3).setCell ⟨g, 4, none⟩ x4).cell? ⟨k, j, none⟩ = W.cell? ⟨k, j, none⟩ := by
  have := set5_other W g k x0 x1 x2 x3 x4 h
  unfold set5 at this
  simp only [World.cell?, this]
theorem cells5 {w : World} {g T : Nat} {x y z u v : Value} (h : w.heap[g]? = some (.cells #[x, y, z, u, v] T (0, 0))) : w.cell? ⟨g, 0, none⟩ = some x ∧ w.cell? ⟨g, 1, none⟩ = some y ∧ w.cell? ⟨g, 2, none⟩ = some z ∧ w.cell? ⟨g, 3, none⟩ = some u ∧ w.cell? ⟨g, 4, none⟩ = some v :=
  ⟨by rw [cell_blk h]; rfl, by rw [cell_blk h]; rfl, by rw [cell_blk h]; rfl, by rw [cell_blk h]; rfl, by rw [cell_blk h]; rfl⟩
theorem frees5 {w : World} {g T : Nat} {cs : Array Value} (h : w.heap[g]? = some (.cells cs T (0, 0))) : w.frozen? ⟨g, 0, none⟩ = false ∧ w.frozen? ⟨g, 1, none⟩ = false ∧ w.frozen? ⟨g, 2, none⟩ = false ∧ w.frozen? ⟨g, 3, none⟩ = false ∧ w.frozen? ⟨g, 4, none⟩ = false :=
  ⟨free_blk h, free_blk h, free_blk h, free_blk h, free_blk h⟩
/-- the box of the argument, and the box of the result -/
structure Bx2 (w : World) (og : Obj) (y0 y1 y2 y3 y4 : Value) (T : Nat) (wr : World) : Prop where
  g : wr.heap[w.heap.size]? = some og
  o : wr.heap[w.heap.size + 1]? = some (.cells #[y0, y1, y2, y3, y4] T (0, 0))
  be : Below w.heap.size w wr
section
variable {w wr w' : World} {og : Obj} {y0 y1 y2 y3 y4 : Value} {T : Nat}
theorem Bx2.next (h : Bx2 w og y0 y1 y2 y3 y4 T wr) (hb : Below wr.heap.size wr w') : Bx2 w og y0 y1 y2 y3 y4 T w' := ⟨lit_next' hb h.g, lit_next' hb h.o, h.be.trans (hb.mono h.be.size)⟩
theorem Bx2.alloc (h : Bx2 w og y0 y1 y2 y3 y4 T wr) (o : Obj) : Bx2 w og y0 y1 y2 y3 y4 T (wr.alloc o) := h.next ((Below.refl _ _).alloc (Nat.le_refl _) _)
theorem Bx2.drew (h : Bx2 w og y0 y1 y2 y3 y4 T wr) : Bx2 w og y0 y1 y2 y3 y4 T wr.drew := h.next (Below.refl _ _).drew
theorem Bx2.grown {r : Option Nat} (h : Bx2 w og y0 y1 y2 y3 y4 T wr) (hg : wr.grownBy w' r) (hr : ∀ k, r = some k → w.heap.size + 2 ≤ k) : Bx2 w og y0 y1 y2 y3 y4 T w' :=
  ⟨grown_blk hg h.g (fun e => by have := hr _ e.symm; omega), grown_blk hg h.o (fun e => by have := hr _ e.symm; omega), h.be.grown hg h.be.size (fun k e => by have := hr k e; omega)⟩
theorem Bx2.base (h : Bx2 w og y0 y1 y2 y3 y4 T wr) : w.heap.size + 2 ≤ wr.heap.size := blk_lt h.o
theorem Bx2.start (w : World) (og : Obj) (y0 y1 y2 y3 y4 : Value) (T : Nat) : Bx2 w og y0 y1 y2 y3 y4 T ((w.alloc og).alloc (.cells #[y0, y1, y2, y3, y4] T)) := by
  have h1 := heap_alloc_new w og
  have h2 := heap_alloc_new (w.alloc og) (.cells #[y0, y1, y2, y3, y4] T)
  have hz : (w.alloc og).heap.size = w.heap.size + 1 := by simp
  rw [hz] at h2
  exact ⟨(Below.heap_alloc _ _ _ (blk_lt h1)).trans h1, h2, ((Below.refl _ _).alloc (Nat.le_refl _) _).alloc (by simp) _⟩
end
/-- the numbers and the graph are handed on -/
structure QIn (w : World) (b : Nat) (a : Option Addr) (cap : Nat) (es : List E2) (a2 : Option Addr) (c2 : Nat) (ns : List Int) : Prop where
  e : EdgesAt w (.slice a es.length cap) es
  i : IntsAt w (.slice a2 ns.length c2) ns
  ea : ∀ p, a = some p → b ≤ p.block
  ia : ∀ p, a2 = some p → b ≤ p.block
theorem QIn.grown {w w' : World} {b : Nat} {a : Option Addr} {cap : Nat} {es : List E2} {a2 : Option Addr} {c2 : Nat} {ns : List Int} {r : Option Nat} (h : QIn w b a cap es a2 c2 ns) (hg : w.grownBy w' r) (hr : ∀ k, r = some k → k < b) : QIn w' b a cap es a2 c2 ns :=
  ⟨h.e.grown hg (fun g e n c p ep => by have := h.ea p (Value.slice.inj ep).1; have := hr g e; omega), h.i.grown hg (fun g e n c p ep => by have := h.ia p (Value.slice.inj ep).1; have := hr g e; omega), h.ea, h.ia⟩
theorem QIn.below {w w' : World} {b : Nat} {a : Option Addr} {cap : Nat} {es : List E2} {a2 : Option Addr} {c2 : Nat} {ns : List Int} (h : QIn w b a cap es a2 c2 ns) (hb : Below w.heap.size w w') : QIn w' b a cap es a2 c2 ns := ⟨h.e.below hb, h.i.below hb, h.ea, h.ia⟩
theorem QIn.mono {w : World} {b b' : Nat} {a : Option Addr} {cap : Nat} {es : List E2} {a2 : Option Addr} {c2 : Nat} {ns : List Int} (h : QIn w b a cap es a2 c2 ns) (hb : b' ≤ b) : QIn w b' a cap es a2 c2 ns := ⟨h.e, h.i, fun p hp => Nat.le_trans hb (h.ea p hp), fun p hp => Nat.le_trans hb (h.ia p hp)⟩
theorem ints_nil (w : World) : IntsAt w (.slice none 0 0) [] := ⟨none, 0, rfl, Nat.le_refl _, fun _ => rfl, by simp, fun i e h => by simp at h⟩
theorem QIn.void (w : World) (b : Nat) : QIn w b none 0 [] none 0 [] := ⟨edges_nil w, ints_nil w, (fun p h => by cases h), (fun p h => by cases h)⟩
/-- a graph with its squares -/
structure Qd where
  n : Int
  es : List E2
  wd : Int
  ct : Int
  ns : List Int
def Qd.zero : Qd := ⟨0, [], 0, 0, []⟩
/-- a graph with its squares is handed back, and more -/
def QPost (w : World) (q : Qd) (more : List Value) (e : Ending) (w' : World) : Prop :=
  ∃ a cap a2 c2, e = .returned (.tuple (.agg #[.int .i64 q.n, .slice a q.es.length cap, .int .i64 q.wd, .int .i64 q.ct, .slice a2 q.ns.length c2] :: more).toArray) ∧ QIn w' w.heap.size a cap q.es a2 c2 q.ns ∧ Below w.heap.size w w'
end Go.Proofs.YtekbpoppajbljaaDoor

namespace Go.Proofs.YtekbpoppajbljaaDoor
open Go.RowKit Go.BigFrame

def sqL (es : List E2) (n : Nat) : List Int := sqV es n n 0
theorem sqL_length (es : List E2) (n : Nat) : (sqL es n).length = n := sqV_length es n n 0
theorem sqL_get (es : List E2) (n i : Nat) (h : i < n) : (sqL es n)[i]? = some (sqN es n i n) := by unfold sqL; rw [sqV_get _ _ _ _ _ h, if_pos h]
/-- the graph with its numbers -/
def quadN (n : Nat) (es : List E2) : Qd := ⟨n, es, wedS es n, sqT es n n / 4, sqL es n⟩
def openX (n : Int) (es : List E2) : Qd × Int := if checkS n es ≠ 0 then (Qd.zero, checkS n es) else (quadN n.toNat es, 0)
set_option maxRecDepth 100000 in
set_option maxHeartbeats 3200000 in
theorem sqopen_any (n : Int) (a : Option Addr) (cap : Nat) (es : List E2) (w : World) (he : EdgesAt w (.slice a es.length cap) es) (hT : TzAt w) :
    Calls Tryd.prog 30 #[.agg #[.int .i64 n, .slice a es.length cap]] w (QPost w (openX n es).1 [.int .i64 (openX n es).2]) := by
  have h0 := Bx2.start w (.cells #[.int .i64 n, .slice a es.length cap] 27) (.int .i64 0) (.slice none 0 0) (.int .i64 0) (.int .i64 0) (.slice none 0 0) 46
  have hck := fun W h => gcheck_any n a cap es W h
  unfold openX
  obtain ⟨C, hC⟩ : ∃ C, checkS n es = C := ⟨_, rfl⟩
  rw [hC] at hck ⊢
  by_cases hz : C = 0
  case neg =>
    rw [if_pos hz]
    have d1 : (C != 0) = true := by simpa using hz
    clear hC hz
    go_enter Tryd.func30, Tryd.ntmps30
    go_wp2_with fail
    refine (hck _ (he.below h0.be)).mono ?_
    rintro e w1 ⟨rfl, hb1⟩
    have h1 := h0.next hb1
    clear hb1 h0
    obtain ⟨o0, o1, o2, o3, o4⟩ := cells5 h1.o
    obtain ⟨f0, f1, f2, f3, f4⟩ := frees5 h1.o
    have hbe := h1.be
    have hfin := set5_at h1.o (.int .i64 0) (.slice none 0 0) (.int .i64 0) (.int .i64 0) (.slice none 0 0)
    have HF := Lib.hid hfin
    clear h1 hck hfin
    go_wp2_with fail
    obtain ⟨t0, t1, t2, t3, t4⟩ := cells5 HF.out
    unfold set5 at t0 t1 t2 t3 t4
    exact bodyPost_ret (v := .tuple #[.agg #[.int .i64 0, .slice none 0 0, .int .i64 0, .int .i64 0, .slice none 0 0], .int .i64 C]) (by simp [results, Tryd.results30, go_sem, t0, t1, t2, t3, t4]) rfl
      ⟨none, 0, none, 0, rfl, QIn.void _ _, hbe.grown (set5_grown w1 (w.heap.size + 1) (.int .i64 0) (.slice none 0 0) (.int .i64 0) (.int .i64 0) (.slice none 0 0)) hbe.size (fun k e => by cases e; omega)⟩
  subst hz
  have hv := (valid_iff n es).1 hC
  rw [if_neg (by simp)]
  clear hC
  obtain ⟨n, rfl⟩ := Int.eq_ofNat_of_zero_le hv.1
  rw [Int.toNat_natCast]
  have hel := hv.length_le
  unfold quadN
  dsimp only
  have hwd := fun W h => wedges_any n a cap es W h hv
  have hct := fun W h t => counts_any n a cap es W h hv t
  have hnl := sqL_length es n
  change ∀ W h t, Calls _ _ _ _ fun e w' => ∃ g, e = .returned (.tuple #[.int .i64 (sqT es n n / 4), .slice (some ⟨g, 0, none⟩) n n]) ∧ W.heap.size ≤ g ∧ NumAt w' g (sqL es n) ∧ Below W.heap.size W w' at hct
  obtain ⟨X, hX⟩ : ∃ X, wedS es n = X := ⟨_, rfl⟩
  obtain ⟨Y, hY⟩ : ∃ Y, sqT es n n / 4 = Y := ⟨_, rfl⟩
  obtain ⟨Z, hZ⟩ : ∃ Z, sqL es n = Z := ⟨_, rfl⟩
  rw [hX] at hwd ⊢
  rw [hY] at hct ⊢
  rw [hZ] at hct hnl ⊢
  clear hX hY hZ
  have hn64 : n ≤ 64 := by have := hv.2.1; omega
  go_enter Tryd.func30, Tryd.ntmps30
  go_wp2_with fail
  refine (hck _ (he.below h0.be)).mono ?_
  rintro e w1 ⟨rfl, hb1⟩
  have h1 := h0.next hb1
  clear hb1 h0
  have g0 := cell_blk (j := 0) h1.g
  have g1 := cell_blk (j := 1) h1.g
  go_wp2_with fail
  refine (hct _ (he.below h1.be) (hT.below h1.be)).mono ?_
  rintro e w2 ⟨g, rfl, hg, hN, hb2⟩
  have hw1 := h1.base
  have h2 := (h1.next hb2).drew
  have hcx : ∀ W : World, Bx2 w (.cells #[.int .i64 n, .slice a es.length cap] 27) (.int .i64 0) (.slice none 0 0) (.int .i64 0) (.int .i64 0) (.slice none 0 0) 46 W → W.cell? ⟨w.heap.size, 0, none⟩ = some (.int .i64 n) ∧ W.cell? ⟨w.heap.size, 1, none⟩ = some (.slice a es.length cap) := fun W h => ⟨cell_blk h.g, cell_blk h.g⟩
  have hNd : NumAt w2.drew g Z := hN
  have hb2s := hb2.size
  clear hb2 g0 g1 hck hct h1 hN
  have g0 := cell_blk (j := 0) h2.g
  have g1 := cell_blk (j := 1) h2.g
  have hrow := (he.below h2.be).row (by omega)
  have hgz := blk_lt hNd
  obtain ⟨v2, hv2⟩ : ∃ W : World, W = w2.drew := ⟨_, rfl⟩
  have HV2 := Lib.hid hv2
  go_wp2_with fail
  go_region_held3 (fun w' => w'.cell? ⟨w.heap.size, 0, none⟩ = some (.int .i64 n) ∧ w'.cell? ⟨w.heap.size, 1, none⟩ = some (.slice a es.length cap))
    (first
      | with_reducible exact hcx _ h5
      | with_reducible exact hcx _ h4
      | with_reducible exact hcx _ h2
      | with_reducible exact hcxF)
    (first
      | (go_at_call 63; (with_reducible refine (geclone_any _ es _ hrow (by omega)).mono ?_); rintro e w4 ⟨x4, rfl, hown4, hb4⟩; obtain ⟨a4, c4, rfl, he4, ha4⟩ := EdgesAt.of_owns hown4 (by omega); have h4 := h2.next hb4)
      | (go_at_call 59; (with_reducible refine (hwd w4 (he.below h4.be)).mono ?_); rintro e w5 ⟨rfl, hb5⟩; have h5 := h4.next hb5; obtain ⟨p0, p1, p2, p3, p4⟩ := cells5 h5.o; obtain ⟨q0, q1, q2, q3, q4⟩ := frees5 h5.o; have hcxF : _ ∧ _ := And.intro ((cell_set5 w5 (w.heap.size + 1) w.heap.size 0 (.int .i64 n) (.slice a4 es.length c4) (.int .i64 X) (.int .i64 Y) (.slice (some ⟨g, 0, none⟩) n n) (by omega)).trans (hcx _ h5).1) ((cell_set5 w5 (w.heap.size + 1) w.heap.size 1 (.int .i64 n) (.slice a4 es.length c4) (.int .i64 X) (.int .i64 Y) (.slice (some ⟨g, 0, none⟩) n n) (by omega)).trans (hcx _ h5).2)))
  have HQ : QIn (set5 w5 (w.heap.size + 1) (.int .i64 n) (.slice a4 es.length c4) (.int .i64 X) (.int .i64 Y) (.slice (some ⟨g, 0, none⟩) n n)) w.heap.size a4 c4 es (some ⟨g, 0, none⟩) Z.length Z := by
    have hN4 := hNd.below hb4
    have hN5 := hN4.below hb5
    have q : QIn w5 (w.heap.size + 2) a4 c4 es (some ⟨g, 0, none⟩) Z.length Z := ⟨he4.below hb5, NumAt.ints hN5 (by omega), fun p h => by have := ha4 p h; have hd : w2.drew.heap.size = w2.heap.size := rfl; omega, fun p h => by cases h; show w.heap.size + 2 ≤ g; omega⟩
    exact (q.grown (set5_grown _ _ _ _ _ _ _) (fun k e => by cases e; omega)).mono (by omega)
  have HB : Below w.heap.size w (set5 w5 (w.heap.size + 1) (.int .i64 n) (.slice a4 es.length c4) (.int .i64 X) (.int .i64 Y) (.slice (some ⟨g, 0, none⟩) n n)) := h5.be.grown (set5_grown _ _ _ _ _ _ _) h5.be.size (fun k e => by cases e; omega)
  have hfin := set5_at h5.o (.int .i64 n) (.slice a4 es.length c4) (.int .i64 X) (.int .i64 Y) (.slice (some ⟨g, 0, none⟩) n n)
  obtain ⟨t0, t1, t2, t3, t4⟩ := cells5 hfin
  unfold set5 at t0 t1 t2 t3 t4
  have HQQ := Lib.hid HQ
  have HBB := Lib.hid HB
  clear HQ HB hfin hcxF hcx h5 h4 h2
  go_wp2_with fail
  exact bodyPost_ret (v := .tuple #[.agg #[.int .i64 n, .slice a4 es.length c4, .int .i64 X, .int .i64 Y, .slice (some ⟨g, 0, none⟩) n n], .int .i64 0]) (by simp [results, Tryd.results30, go_sem, t0, t1, t2, t3, t4]) rfl
    ⟨a4, c4, some ⟨g, 0, none⟩, Z.length, by rw [hnl], HQQ.out, HBB.out⟩
end Go.Proofs.YtekbpoppajbljaaDoor

namespace Go.Proofs.YtekbpoppajbljaaDoor
open Go.RowKit Go.BigFrame

set_option maxRecDepth 100000 in
set_option maxHeartbeats 1600000 in
theorem sequal_any (a a2 : Option Addr) (cap cap2 : Nat) (xs ys : List Int) (w : World) (h1 : IntsAt w (.slice a xs.length cap) xs) (h2 : IntsAt w (.slice a2 ys.length cap2) ys) :
    Calls Tryd.prog 68 #[.slice a xs.length cap, .slice a2 ys.length cap2] w fun e w' => e = .returned (.bool (decide (xs = ys))) ∧ Below w.heap.size w w' := by
  have hl1 : xs.length ≤ 70368744177664 := by obtain ⟨_, _, _, _, _, h, _⟩ := h1; exact h
  have hl2 : ys.length ≤ 70368744177664 := by obtain ⟨_, _, _, _, _, h, _⟩ := h2; exact h
  by_cases hl : xs.length = ys.length
  case neg =>
    have d2 : ((xs.length : Int) != (ys.length : Int)) = true := by simp; omega
    have hr : decide (xs = ys) = false := decide_eq_false fun h => hl (by rw [h])
    rw [hr]
    clear hl hr
    go_enter Tryd.func68, Tryd.ntmps68
    go_wp2_with fail
    go_ret
    exact ⟨rfl, Below.refl _ _⟩
  have d2 : ((xs.length : Int) != (ys.length : Int)) = false := by simp; omega
  obtain ⟨R, hR⟩ : ∃ R, decide (xs = ys) = R := ⟨_, rfl⟩
  rw [hR]
  have HR := Lib.hid hR
  have HLN := Lib.hid hl
  have hlen : ys.length ≤ xs.length ∧ xs.length ≤ ys.length := by omega
  clear hR hl
  go_enter Tryd.func68, Tryd.ntmps68
  go_wp2_with fail
  go_loopw [13] (fun i wr => ∃ k : Nat, k ≤ xs.length ∧ i = .int .i64 k ∧ Hid (xs.take k = ys.take k) ∧ Below w.heap.size w wr) (fun i _ => xs.length - (intOf i).toNat)
  case atStart => exact ⟨0, Nat.zero_le _, rfl, rfl, Below.refl _ _⟩
  case round =>
    obtain ⟨k, hk, rfl, HT, hb⟩ := hrel
    by_cases hlt : k < xs.length
    · have hlt2 : k < ys.length := by omega
      obtain ⟨b, off, x, rfl, hx, hd1, ht1, c0⟩ := (h1.below hb).at k hlt
      obtain ⟨b2, off2, y, rfl, hy, hd2, ht2, c1⟩ := (h2.below hb).at k hlt2
      have hi1 : (k : Int) < xs.length := by omega
      have hi2 : (k : Int) < ys.length := by omega
      by_cases hxy : x = y
      · have dxy : (x != y) = false := by simpa using hxy
        have HT2 : Hid (xs.take (k + 1) = ys.take (k + 1)) := by show _ = _; rw [ht1, ht2, HT.out, hxy]
        clear hx hy hd1 hd2 ht1 ht2 HT hxy
        go_wp2_with fail
        go_quiet (fail)
        go_wp2_with fail
        go_roundw
        case rel => exact ⟨k + 1, by omega, by go_num, HT2, hb.trans (((Below.refl _ wr).drewN _).mono hb.size)⟩
        case measure => simp [intOf]; omega
      · have dxy : (x != y) = true := by simpa using hxy
        have hRf : R = false := by
          rw [← HR.out]
          refine decide_eq_false fun h => hxy ?_
          rw [h, hy] at hx
          exact (Option.some.inj hx).symm
        subst hRf
        clear hx hy hd1 hd2 ht1 ht2 HT hxy
        go_wp2_with fail
        go_quiet (fail)
        go_wp2_with fail
        go_ret
        exact ⟨rfl, hb.trans (((Below.refl _ wr).drewN _).mono hb.size)⟩
    · obtain rfl : k = xs.length := by omega
      have hRt : R = true := by
        rw [← HR.out]
        refine decide_eq_true ?_
        have h := HT.out
        rw [List.take_length, HLN.out, List.take_length] at h
        exact h
      subst hRt
      go_wp2_with fail
      go_ret
      exact ⟨rfl, hb⟩
/-- whether numbers are those of the graph -/
def sqOk (q : Qd) : Bool := (checkS q.n q.es == 0) && ((q.wd == wedS q.es q.n.toNat) && ((q.ct == sqT q.es q.n.toNat q.n.toNat / 4) && decide (q.ns = sqL q.es q.n.toNat)))
theorem sqOk_iff (q : Qd) : sqOk q = true ↔ ∃ n : Nat, Valid n q.es ∧ q = quadN n q.es := by
  obtain ⟨n, es, wd, ct, ns⟩ := q
  unfold sqOk quadN
  dsimp only
  simp only [Bool.and_eq_true, beq_iff_eq, decide_eq_true_eq]
  constructor
  · rintro ⟨h0, h1, h2, h3⟩
    have hv := (valid_iff n es).1 h0
    obtain ⟨m, rfl⟩ := Int.eq_ofNat_of_zero_le hv.1
    rw [Int.toNat_natCast] at h1 h2 h3
    exact ⟨m, hv, by rw [← h1, ← h2, ← h3]⟩
  · rintro ⟨m, hv, h⟩
    obtain ⟨rfl, -, rfl, rfl, rfl⟩ := Qd.mk.inj h
    rw [Int.toNat_natCast]
    exact ⟨(valid_iff _ _).2 hv, rfl, rfl, rfl⟩
set_option maxRecDepth 100000 in
set_option maxHeartbeats 6400000 in
theorem sqvalid_any (n wd ct : Int) (a a2 : Option Addr) (cap c2 : Nat) (es : List E2) (ns : List Int) (w : World) (he : EdgesAt w (.slice a es.length cap) es) (hi : IntsAt w (.slice a2 ns.length c2) ns) (hT : TzAt w) :
    Calls Tryd.prog 35 #[.agg #[.int .i64 n, .slice a es.length cap, .int .i64 wd, .int .i64 ct, .slice a2 ns.length c2]] w fun e w' => e = .returned (.bool (sqOk ⟨n, es, wd, ct, ns⟩)) ∧ Below w.heap.size w w' := by
  have hb0 : Below w.heap.size w (w.alloc (.cells #[.int .i64 n, .slice a es.length cap, .int .i64 wd, .int .i64 ct, .slice a2 ns.length c2] 46)) := (Below.refl _ _).alloc (Nat.le_refl _) _
  have hG0 := heap_alloc_new w (.cells #[.int .i64 n, .slice a es.length cap, .int .i64 wd, .int .i64 ct, .slice a2 ns.length c2] 46)
  have hck := fun W h => gcheck_any n a cap es W h
  unfold sqOk
  dsimp only
  obtain ⟨C, hC⟩ : ∃ C, checkS n es = C := ⟨_, rfl⟩
  rw [hC] at hck ⊢
  by_cases hz : C = 0
  case neg =>
    have d1 : (C != 0) = true := by simpa using hz
    have d2 : (C == 0) = false := by simpa using hz
    rw [d2, Bool.false_and]
    clear hC hz d2
    obtain ⟨g0, g1, g2, g3, g4⟩ := cells5 hG0
    go_enter Tryd.func35, Tryd.ntmps35
    go_wp2_with fail
    refine (hck _ (he.below hb0)).mono ?_
    rintro e w1 ⟨rfl, hb1⟩
    go_wp2_with fail
    go_ret
    exact ⟨rfl, hb0.trans (hb1.mono hb0.size)⟩
  subst hz
  have hv := (valid_iff n es).1 hC
  rw [show ((0 : Int) == 0) = true from rfl, Bool.true_and]
  clear hC
  obtain ⟨n, rfl⟩ := Int.eq_ofNat_of_zero_le hv.1
  rw [Int.toNat_natCast]
  have hwd := fun W h => wedges_any n a cap es W h hv
  have hct := fun W h t => counts_any n a cap es W h hv t
  have hnl := sqL_length es n
  change ∀ W h t, Calls _ _ _ _ fun e w' => ∃ g, e = .returned (.tuple #[.int .i64 (sqT es n n / 4), .slice (some ⟨g, 0, none⟩) n n]) ∧ W.heap.size ≤ g ∧ NumAt w' g (sqL es n) ∧ Below W.heap.size W w' at hct
  have heq := fun b W h => sequal_any a2 (some ⟨b, 0, none⟩) c2 n ns (sqL es n) W h
  rw [hnl] at heq
  obtain ⟨X, hX⟩ : ∃ X, wedS es n = X := ⟨_, rfl⟩
  obtain ⟨Y, hY⟩ : ∃ Y, sqT es n n / 4 = Y := ⟨_, rfl⟩
  obtain ⟨Z, hZ⟩ : ∃ Z, sqL es n = Z := ⟨_, rfl⟩
  rw [hX] at hwd ⊢
  rw [hY] at hct ⊢
  rw [hZ] at hct hnl heq ⊢
  obtain ⟨D1, hD1⟩ : ∃ D, (wd == X) = D := ⟨_, rfl⟩
  obtain ⟨D2, hD2⟩ : ∃ D, (ct == Y) = D := ⟨_, rfl⟩
  obtain ⟨D3, hD3⟩ : ∃ D, decide (ns = Z) = D := ⟨_, rfl⟩
  rw [hD1, hD2, hD3]
  rw [hD3] at heq
  clear hX hY hZ hD3
  have hn64 : n ≤ 64 := by have := hv.2.1; omega
  obtain ⟨g0, g1, g2, g3, g4⟩ := cells5 hG0
  go_enter Tryd.func35, Tryd.ntmps35
  go_wp2_with fail
  refine (hck _ (he.below hb0)).mono ?_
  rintro e w1 ⟨rfl, hb1⟩
  have hb01 := hb0.trans (hb1.mono hb0.size)
  have hG1 := lit_next' hb1 hG0
  clear hb1 g0 g1 g2 g3 g4 hG0
  obtain ⟨g0, g1, g2, g3, g4⟩ := cells5 hG1
  go_wp2_with fail
  refine (hct _ (he.below hb01) (hT.below hb01)).mono ?_
  rintro e w2 ⟨g, rfl, hg, hN, hb2⟩
  have hb02 := hb01.trans (hb2.mono hb01.size)
  have hG2 := lit_next' hb2 hG1
  clear g0 g1 g2 g3 g4 hG1 hct hck hb2
  have he2 := he.below hb02
  have hi2 := hi.below hb02
  have hZi : IntsAt w2 (.slice (some ⟨g, 0, none⟩) n n) Z := by
    have := NumAt.ints hN (by omega)
    rw [hnl] at this
    exact this
  obtain ⟨k0, k1, k2, k3, k4⟩ := cells5 hG2
  have xt : ∀ (j : Nat) (v : Value), w2.cell? ⟨w.heap.size, j, none⟩ = some v → ∀ z : Ext w2.heap.size w2, z.world.cell? ⟨w.heap.size, j, none⟩ = some v := fun j v h z => (z.below.cell (p := ⟨w.heap.size, j, none⟩) (cell_lt h)).trans h
  have e0 := xt _ _ k0
  have e1 := xt _ _ k1
  have e2 := xt _ _ k2
  have e3 := xt _ _ k3
  have e4 := xt _ _ k4
  have hwz := fun z : Ext w2.heap.size w2 => hwd z.world (he2.below z.below)
  have hez := fun z : Ext w2.heap.size w2 => heq g z.world (hi2.below z.below) (hZi.below z.below)
  clear k0 k1 k2 k3 k4 xt hwd heq hN hv
  cases D1 <;> cases D2 <;> cases D3
  all_goals
    go_wp2_with fail
    refine wp_region_ext w2.heap.size w2 (by kernel_rfl) (by kernel_rfl) (Below.refl _ _) ?_
    try simp only [List.append_eq, List.cons_append, List.nil_append]
    repeat (any_goals (go_big_quiet_step (first | (go_at_call 59; exact Calls.ext_of (Nat.le_refl _) (hwz _)) | (go_at_call 68; exact Calls.ext_of (Nat.le_refl _) (hez _)))))
    refine wpQuiet_nil ?_
    rintro _ ⟨⟨wq, hq⟩, rfl⟩
    clear e0 e1 e2 e3 e4 hwz hez
    go_wp2_with fail
    go_ret
    exact ⟨rfl, hb02.trans (hq.mono hb02.size)⟩
end Go.Proofs.YtekbpoppajbljaaDoor

namespace Go.Proofs.YtekbpoppajbljaaDoor
open Go.RowKit Go.BigFrame

/-- numbers as a function -/
def fnN (m : Nat) (F : Nat → Int) : List Int := (List.range m).map F
theorem fnN_length (m : Nat) (F : Nat → Int) : (fnN m F).length = m := by simp [fnN]
theorem fnN_get (m : Nat) (F : Nat → Int) (i : Nat) (h : i < m) : (fnN m F)[i]? = some (F i) := by simp [fnN, h]
theorem fnN_set (m : Nat) (F : Nat → Int) (i : Nat) (v : Int) : (fnN m F).set i v = fnN m (fun x => if x = i then v else F x) := by
  apply List.ext_getElem?
  intro j
  by_cases hj : j < m
  · rw [List.getElem?_set, fnN_get _ _ _ hj, fnN_get _ _ _ hj, fnN_length]
    by_cases e : i = j
    · subst e; simp [hj]
    · rw [if_neg e, if_neg (Ne.symm e)]
  · rw [List.getElem?_eq_none (by rw [List.length_set, fnN_length]; omega), List.getElem?_eq_none (by rw [fnN_length]; omega)]
theorem fnN_congr (m : Nat) (F G : Nat → Int) (h : ∀ x, x < m → F x = G x) : fnN m F = fnN m G := List.map_congr_left fun x hx => h x (List.mem_range.1 hx)
theorem fnN_of (l : List Int) : l = fnN l.length fun i => l.getD i 0 := by
  apply List.ext_getElem?
  intro j
  by_cases hj : j < l.length
  · rw [fnN_get _ _ _ hj, List.getElem?_eq_getElem hj, List.getD_eq_getElem?_getD, List.getElem?_eq_getElem hj]; rfl
  · rw [List.getElem?_eq_none (by omega), List.getElem?_eq_none (by rw [fnN_length]; omega)]
/-- the nodes that a square over an edge touches -/
def tou (u v : Nat) (P : List (Nat × Nat)) : List Nat := P.flatMap fun x => [u, v, x.1, x.2]
theorem occ_append (P Q : List Nat) (x : Nat) : occ (P ++ Q) x = occ P x + occ Q x := by simp [occ, List.filter_append]
theorem tou_hit (u v w : Nat) (P : List (Nat × Nat)) : occ (tou u v P) w = hitN P u v w := by
  induction P with
  | nil => simp [tou, occ, hitN]
  | cons x P ih =>
    have e : tou u v (x :: P) = [u, v, x.1, x.2] ++ tou u v P := rfl
    rw [e, occ_append, ih]
    unfold hitN occ
    simp only [List.filter_cons, List.filter_nil, beq_iff_eq, List.length_cons]
    by_cases h1 : u = w <;> by_cases h2 : v = w <;> by_cases h3 : x.1 = w <;> by_cases h4 : x.2 = w <;> simp [h1, h2, h3, h4, eq_comm (a := w)] <;> omega
theorem occ_bd (P : List Nat) (x : Nat) : 0 ≤ occ P x ∧ occ P x ≤ P.length := by
  unfold occ
  exact ⟨by omega, by exact_mod_cast List.length_filter_le _ _⟩
theorem tou_len (u v : Nat) : ∀ P : List (Nat × Nat), (tou u v P).length = P.length * 4 := by
  intro P
  induction P with
  | nil => rfl
  | cons x P ih => show ([u, v, x.1, x.2] ++ tou u v P).length = _; rw [List.length_append, ih]; simp only [List.length_cons, List.length_nil]; omega
theorem tou_snoc (u v : Nat) (P : List (Nat × Nat)) (x : Nat × Nat) : tou u v (P ++ [x]) = (((tou u v P ++ [u]) ++ [v]) ++ [x.1]) ++ [x.2] := by simp [tou]
/-- the numbers behind some touches -/
def chF (B : Nat → Int) (by_ : Int) (L : List Nat) (w : Nat) : Int := B w + by_ * occ L w
theorem chF_snoc (n : Nat) (B : Nat → Int) (by_ : Int) (L : List Nat) (z : Nat) : (fnN n (chF B by_ L)).set z (chF B by_ L z + by_) = fnN n (chF B by_ (L ++ [z])) := by
  rw [fnN_set]
  refine fnN_congr n _ _ fun w _ => ?_
  unfold chF
  rw [occ_snoc]
  by_cases h : w = z
  · subst h; rw [if_pos rfl, if_pos rfl, Int.mul_add, Int.mul_one]; omega
  · rw [if_neg h, if_neg (fun e => h e.symm), Int.add_zero]
theorem chF_bd (B : Nat → Int) (by_ : Int) (L : List Nat) (w : Nat) (hb : by_ = 1 ∨ by_ = -1) (hB : 0 ≤ B w ∧ B w ≤ 1125899906842624) (hL : L.length ≤ 100000) : -200000 ≤ chF B by_ L w ∧ chF B by_ L w ≤ 1125899907842624 := by
  unfold chF
  have := occ_bd L w
  rcases hb with h | h <;> subst h <;> omega
theorem ovN_lt {n : Nat} {es : List E2} (hv : Valid n es) (u v : Nat) : ∀ x ∈ ovN es u v, x.1 < n ∧ x.2 < n := by
  intro x hx
  unfold ovN ovA ovB at hx
  obtain ⟨a, ha, hx⟩ := List.mem_flatMap.1 hx
  split at hx
  · cases hx
  · obtain ⟨b, hb, rfl⟩ := List.mem_map.1 hx
    obtain ⟨hb, _⟩ := List.mem_filter.1 hb
    rw [nbN_nbL hv] at ha hb
    obtain ⟨ha, _⟩ := List.mem_filter.1 ha
    obtain ⟨hb, _⟩ := List.mem_filter.1 hb
    exact ⟨List.mem_range.1 ha, List.mem_range.1 hb⟩
def step4 (T : List Nat) (u v x y : Nat) : Nat → List Nat
  | 0 => T
  | 1 => T ++ [u]
  | 2 => (T ++ [u]) ++ [v]
  | 3 => ((T ++ [u]) ++ [v]) ++ [x]
  | _ => (((T ++ [u]) ++ [v]) ++ [x]) ++ [y]
theorem step4_len (T : List Nat) (u v x y j : Nat) : (step4 T u v x y j).length ≤ T.length + 4 := by
  match j with
  | 0 => simp [step4]
  | 1 => simp [step4]
  | 2 => simp [step4]
  | 3 => simp [step4]
  | _ + 4 => simp [step4]
/-- three boxes of arguments, and the box of the result -/
structure Bx4 (w : World) (o0 o1 o2 : Obj) (y0 y1 y2 y3 y4 : Value) (T : Nat) (wr : World) : Prop where
  a : wr.heap[w.heap.size]? = some o0
  b : wr.heap[w.heap.size + 1]? = some o1
  c : wr.heap[w.heap.size + 2]? = some o2
  o : wr.heap[w.heap.size + 3]? = some (.cells #[y0, y1, y2, y3, y4] T (0, 0))
  be : Below w.heap.size w wr
section
variable {w wr w' : World} {o0 o1 o2 : Obj} {y0 y1 y2 y3 y4 : Value} {T : Nat}
theorem Bx4.next (h : Bx4 w o0 o1 o2 y0 y1 y2 y3 y4 T wr) (hb : Below wr.heap.size wr w') : Bx4 w o0 o1 o2 y0 y1 y2 y3 y4 T w' := ⟨lit_next' hb h.a, lit_next' hb h.b, lit_next' hb h.c, lit_next' hb h.o, h.be.trans (hb.mono h.be.size)⟩
theorem Bx4.alloc (h : Bx4 w o0 o1 o2 y0 y1 y2 y3 y4 T wr) (o : Obj) : Bx4 w o0 o1 o2 y0 y1 y2 y3 y4 T (wr.alloc o) := h.next ((Below.refl _ _).alloc (Nat.le_refl _) _)
theorem Bx4.drew (h : Bx4 w o0 o1 o2 y0 y1 y2 y3 y4 T wr) : Bx4 w o0 o1 o2 y0 y1 y2 y3 y4 T wr.drew := h.next (Below.refl _ _).drew
theorem Bx4.grown {r : Option Nat} (h : Bx4 w o0 o1 o2 y0 y1 y2 y3 y4 T wr) (hg : wr.grownBy w' r) (hr : ∀ k, r = some k → w.heap.size + 4 ≤ k) : Bx4 w o0 o1 o2 y0 y1 y2 y3 y4 T w' :=
  ⟨grown_blk hg h.a (fun e => by have := hr _ e.symm; omega), grown_blk hg h.b (fun e => by have := hr _ e.symm; omega), grown_blk hg h.c (fun e => by have := hr _ e.symm; omega), grown_blk hg h.o (fun e => by have := hr _ e.symm; omega), h.be.grown hg h.be.size (fun k e => by have := hr k e; omega)⟩
theorem Bx4.base (h : Bx4 w o0 o1 o2 y0 y1 y2 y3 y4 T wr) : w.heap.size + 4 ≤ wr.heap.size := blk_lt h.o
theorem Bx4.start (w : World) (o0 o1 o2 : Obj) (y0 y1 y2 y3 y4 : Value) (T : Nat) : Bx4 w o0 o1 o2 y0 y1 y2 y3 y4 T ((((w.alloc o0).alloc o1).alloc o2).alloc (.cells #[y0, y1, y2, y3, y4] T)) := by
  have s1 : (w.alloc o0).heap.size = w.heap.size + 1 := by simp
  have s2 : ((w.alloc o0).alloc o1).heap.size = w.heap.size + 2 := by simp
  have s3 : (((w.alloc o0).alloc o1).alloc o2).heap.size = w.heap.size + 3 := by simp
  have h0 := heap_alloc_new w o0
  have h1 := heap_alloc_new (w.alloc o0) o1
  have h2 := heap_alloc_new ((w.alloc o0).alloc o1) o2
  have h3 := heap_alloc_new (((w.alloc o0).alloc o1).alloc o2) (.cells #[y0, y1, y2, y3, y4] T)
  rw [s1] at h1
  rw [s2] at h2
  rw [s3] at h3
  have b1 := (Below.refl _ (w.alloc o0)).alloc (Nat.le_refl _) o1
  have b2 := (Below.refl _ ((w.alloc o0).alloc o1)).alloc (Nat.le_refl _) o2
  have b3 := (Below.refl _ (((w.alloc o0).alloc o1).alloc o2)).alloc (Nat.le_refl _) (.cells #[y0, y1, y2, y3, y4] T)
  exact ⟨lit_next' b3 (lit_next' b2 (lit_next' b1 h0)), lit_next' b3 (lit_next' b2 h1), lit_next' b3 h2, h3, ((((Below.refl _ _).alloc (Nat.le_refl _) _).alloc (by simp) _).alloc (by simp; omega) _).alloc (by simp; omega) _⟩
end
/-- the numbers in a block, the struct that holds them, and the pairs -/
structure ChS (w : World) (o0 o1 o2 : Obj) (n g Q : Nat) (B : Nat → Int) (by_ : Int) (oq : Obj) (ap : Option Addr) (cp : Nat) (P : List (Nat × Nat)) (L : List Nat) (wr : World) : Prop where
  tail : TailAt wr g (fnN n (chF B by_ L))
  q : wr.heap[Q]? = some oq
  row : RowAt encP wr (.slice ap P.length cp) P
  bx : Bx4 w o0 o1 o2 (.int .i64 0) (.slice none 0 0) (.int .i64 0) (.int .i64 0) (.slice none 0 0) 46 wr
  gQ : g ≠ Q
  gw : w.heap.size + 4 ≤ g
  off : 0 < P.length → ∀ p, ap = some p → p.block ≠ g
theorem TailAt.below {w w' : World} {g : Nat} {l : List Int} (h : TailAt w g l) (hb : Below w.heap.size w w') : TailAt w' g l := by
  obtain ⟨r, h⟩ := h
  exact ⟨r, lit_next' hb h⟩
section
variable {w wr w' : World} {o0 o1 o2 : Obj} {n g Q : Nat} {B : Nat → Int} {by_ : Int} {oq : Obj} {ap : Option Addr} {cp : Nat} {P : List (Nat × Nat)} {L : List Nat}
theorem ChS.next (h : ChS w o0 o1 o2 n g Q B by_ oq ap cp P L wr) (hb : Below wr.heap.size wr w') : ChS w o0 o1 o2 n g Q B by_ oq ap cp P L w' := ⟨h.tail.below hb, lit_next' hb h.q, h.row.below hb, h.bx.next hb, h.gQ, h.gw, h.off⟩
theorem ChS.alloc (h : ChS w o0 o1 o2 n g Q B by_ oq ap cp P L wr) (o : Obj) : ChS w o0 o1 o2 n g Q B by_ oq ap cp P L (wr.alloc o) := h.next ((Below.refl _ _).alloc (Nat.le_refl _) _)
theorem ChS.cell (h : ChS w o0 o1 o2 n g Q B by_ oq ap cp P L wr) (z : Nat) (hz : z < n) : wr.cell? ⟨g, z, none⟩ = some (.int .i64 (chF B by_ L z)) := h.tail.cell z _ (fnN_get n _ z hz)
theorem ChS.step (h : ChS w o0 o1 o2 n g Q B by_ oq ap cp P L wr) (z : Nat) (hz : z < n) : ChS w o0 o1 o2 n g Q B by_ oq ap cp P (L ++ [z]) (wr.setCell ⟨g, z, none⟩ (.int .i64 (chF B by_ L z + by_))) := by
  have hg : wr.grownBy (wr.setCell ⟨g, z, none⟩ (.int .i64 (chF B by_ L z + by_))) (some g) := grown_store
  have ht := h.tail.set z (chF B by_ L z + by_) (by rw [fnN_length]; exact hz)
  rw [chF_snoc] at ht
  exact ⟨ht, grown_blk hg h.q (fun e => h.gQ (Option.some.inj e).symm), h.row.grown' hg (fun k e hn n' c' p ep => by cases e; exact h.off hn p (Value.slice.inj ep).1), h.bx.grown hg (fun k e => by cases e; exact h.gw), h.gQ, h.gw, h.off⟩
end
theorem ChS.start {w wb : World} {o0 o1 o2 : Obj} {n g Q : Nat} {B : Nat → Int} {by_ : Int} {ap : Option Addr} {cp : Nat} {P : List (Nat × Nat)} {L : List Nat} {NS : List Int} (h : Bx4 w o0 o1 o2 (.int .i64 0) (.slice none 0 0) (.int .i64 0) (.int .i64 0) (.slice none 0 0) 46 wb)
    (hQ : wb.heap[Q]? = some (.cells #[.int .i64 0, .slice none 0 0, .int .i64 0, .int .i64 0, .slice none 0 0] 46 (0, 0))) (hT : TailAt wb g NS) (hN : fnN n (chF B by_ L) = NS) (hr : RowAt encP wb (.slice ap P.length cp) P) (hgQ : g ≠ Q) (hgw : w.heap.size + 4 ≤ g) (hQw : w.heap.size + 4 ≤ Q)
    (hoff : 0 < P.length → ∀ p, ap = some p → p.block ≠ g ∧ p.block ≠ Q) (x0 x1 x2 x3 x4 : Value) : ChS w o0 o1 o2 n g Q B by_ (.cells #[x0, x1, x2, x3, x4] 46 (0, 0)) ap cp P L (((((wb.setCell ⟨Q, 0, none⟩ x0).setCell ⟨Q, 1, none⟩ x1).setCell ⟨Q, 2, none⟩ x2).setCell ⟨Q, 3, none⟩ x3).setCell ⟨Q, 4, none⟩ x4) := by
  have hg := set5_grown wb Q x0 x1 x2 x3 x4
  have h5 := set5_at hQ x0 x1 x2 x3 x4
  obtain ⟨r, hT⟩ := hT
  have key : ChS w o0 o1 o2 n g Q B by_ (.cells #[x0, x1, x2, x3, x4] 46 (0, 0)) ap cp P L (set5 wb Q x0 x1 x2 x3 x4) :=
    ⟨⟨r, by rw [hN]; exact grown_blk hg hT (fun e => hgQ (Option.some.inj e))⟩, h5, hr.grown' hg (fun k e hn n' c' p ep => by cases e; exact (hoff hn p (Value.slice.inj ep).1).2), h.grown hg (fun k e => by cases e; exact hQw), hgQ, hgw, fun hn p hp => (hoff hn p hp).1⟩
  exact key
theorem ChS.laid {w wb : World} {o0 o1 o2 oq : Obj} {n g Q : Nat} {B : Nat → Int} {by_ : Int} {ap : Option Addr} {cp : Nat} {P : List (Nat × Nat)} {L : List Nat} {NS : List Int} (h : Bx4 w o0 o1 o2 (.int .i64 0) (.slice none 0 0) (.int .i64 0) (.int .i64 0) (.slice none 0 0) 46 wb)
    (hQ : wb.heap[Q]? = some oq) (hT : TailAt wb g NS) (hN : fnN n (chF B by_ L) = NS) (hr : RowAt encP wb (.slice ap P.length cp) P) (hgQ : g ≠ Q) (hgw : w.heap.size + 4 ≤ g) (hoff : 0 < P.length → ∀ p, ap = some p → p.block ≠ g) : ChS w o0 o1 o2 n g Q B by_ oq ap cp P L wb :=
  ⟨by rw [hN]; exact hT, hQ, hr, h, hgQ, hgw, hoff⟩
theorem pr_at {w : World} {a : Option Addr} {cap : Nat} {P : List (Nat × Nat)} (h : RowAt encP w (.slice a P.length cap) P) (k : Nat) (hk : k < P.length) : ∃ b off x y, a = some ⟨b, off, none⟩ ∧ P[k]? = some (x, y) ∧ w.cell? ⟨b, off + k * 2, none⟩ = some (.int .i64 (x : Nat)) ∧ w.cell? ⟨b, off + k * 2 + 1, none⟩ = some (.int .i64 (y : Nat)) := by
  obtain ⟨b, off, x, ha, hx, _, hc⟩ := h.elem k hk
  exact ⟨b, off, x.1, x.2, ha, hx, hc 0 _ rfl, hc 1 _ rfl⟩
theorem cell_two {w : World} {g T : Nat} {x y : Value} (h : w.heap[g]? = some (.cells #[x, y] T (0, 0))) : w.cell? ⟨g, 0, none⟩ = some x ∧ w.cell? ⟨g, 1, none⟩ = some y := ⟨cell_blk h, cell_blk h⟩
set_option maxRecDepth 100000 in
set_option maxHeartbeats 12800000 in
theorem changed_any (n0 : Int) (sl0 : Value) (WD CT : Int) (an : Option Addr) (cn : Nat) (NS : List Int) (m : Int) (sl1 : Value) (n u v : Nat) (a : Option Addr) (cap : Nat) (es : List E2) (by_ : Int) (w : World)
    (s0 : ∃ p l c, sl0 = .slice p l c) (s1 : ∃ p l c, sl1 = .slice p l c)
    (he : EdgesAt w (.slice a es.length cap) es) (hi : IntsAt w (.slice an NS.length cn) NS) (hv : Valid n es) (hu : u < n) (hvn : v < n) (hT : TzAt w) (hby : by_ = 1 ∨ by_ = -1) (hNS : NS.length = n)
    (hB : ∀ x ∈ NS, 0 ≤ x ∧ x ≤ 1125899906842624) (hW : 0 ≤ WD ∧ WD ≤ 1125899906842624) (hC : 0 ≤ CT ∧ CT ≤ 1125899906842624) :
    Calls Tryd.prog 66 #[.agg #[.int .i64 n0, sl0, .int .i64 WD, .int .i64 CT, .slice an NS.length cn], .agg #[.int .i64 m, sl1], .agg #[.int .i64 n, .slice a es.length cap], .int .i64 u, .int .i64 v, .int .i64 by_] w fun e w' =>
      ∃ g c2, e = .returned (.tuple #[.agg #[.int .i64 m, sl1, .int .i64 (WD + by_ * (oc64 (rowN es u : Int) + oc64 (rowN es v : Int))), .int .i64 (CT + by_ * ((ovN es u v).length : Int)), .slice (some ⟨g, 0, none⟩) n c2], .int .i64 ((ovN es u v).length : Int), .int .i64 0]) ∧
        IntsAt w' (.slice (some ⟨g, 0, none⟩) n c2) (fnN n fun i => NS.getD i 0 + by_ * hitN (ovN es u v) u v i) ∧ w.heap.size ≤ g ∧ Below w.heap.size w w' := by
  obtain ⟨p0, l0, c0, rfl⟩ := s0
  obtain ⟨p1, l1, c1, rfl⟩ := s1
  have hfin : (fnN n fun i => NS.getD i 0 + by_ * hitN (ovN es u v) u v i) = fnN n (chF (fun i => NS.getD i 0) by_ (tou u v (ovN es u v))) := fnN_congr _ _ _ fun x _ => by unfold chF; rw [tou_hit]
  rw [hfin]
  clear hfin
  have hn64 : n ≤ 64 := by have := hv.2.1; omega
  have hov := fun W h t => over_any n u v a cap es W h hv hu hvn t
  have hdu := fun W h => gdegree_any n u a cap es W h hv hu
  have hdv := fun W h => gdegree_any n v a cap es W h hv hvn
  have hPl := ovN_len es u v
  have hPn := ovN_lt hv u v
  have hou := oc64_bd (rowN es u : Int)
  have hovd := oc64_bd (rowN es v : Int)
  obtain ⟨OU, hOU⟩ : ∃ x, oc64 (rowN es u : Int) = x := ⟨_, rfl⟩
  obtain ⟨OV, hOV⟩ : ∃ x, oc64 (rowN es v : Int) = x := ⟨_, rfl⟩
  obtain ⟨P, hP⟩ : ∃ x, ovN es u v = x := ⟨_, rfl⟩
  rw [hOU] at hdu hou ⊢
  rw [hOV] at hdv hovd ⊢
  rw [hP] at hov hPl hPn ⊢
  clear hOU hOV hP
  have hBB : ∀ i, 0 ≤ NS.getD i 0 ∧ NS.getD i 0 ≤ 1125899906842624 := fun i => by
    rw [List.getD_eq_getElem?_getD]
    cases h : NS[i]? with
    | none => simp
    | some x => exact hB x (List.mem_of_getElem? h)
  have v1 : IntKind.i64.wrap (OU + OV) = OU + OV := IntWalk.i64_in _ (by omega)
  have b1 : -300 ≤ by_ * (OU + OV) ∧ by_ * (OU + OV) ≤ 300 := by rcases hby with h | h <;> subst h <;> omega
  have b2 : -5000 ≤ by_ * (P.length : Int) ∧ by_ * (P.length : Int) ≤ 5000 := by rcases hby with h | h <;> subst h <;> omega
  obtain ⟨X1, hX1⟩ : ∃ x, by_ * (OU + OV) = x := ⟨_, rfl⟩
  obtain ⟨X2, hX2⟩ : ∃ x, by_ * (P.length : Int) = x := ⟨_, rfl⟩
  rw [hX1] at b1
  rw [hX2] at b2
  rw [hX1, hX2]
  have v2 : IntKind.i64.wrap (by_ * (OU + OV)) = X1 := by rw [hX1]; exact IntWalk.i64_in _ (by omega)
  have v3 : IntKind.i64.wrap (by_ * (P.length : Int)) = X2 := by rw [hX2]; exact IntWalk.i64_in _ (by omega)
  have v4 : IntKind.i64.wrap (WD + X1) = WD + X1 := IntWalk.i64_in _ (by omega)
  have v5 : IntKind.i64.wrap (CT + X2) = CT + X2 := IntWalk.i64_in _ (by omega)
  have h0 := Bx4.start w (.cells #[.int .i64 n0, .slice p0 l0 c0, .int .i64 WD, .int .i64 CT, .slice an NS.length cn] 46) (.cells #[.int .i64 m, .slice p1 l1 c1] 27) (.cells #[.int .i64 n, .slice a es.length cap] 27) (.int .i64 0) (.slice none 0 0) (.int .i64 0) (.int .i64 0) (.slice none 0 0) 46
  have HNS := Lib.hid hNS
  have hn1 : 1 ≤ NS.length := by omega
  have hn2 : NS.length ≤ 64 := by omega
  have hne : fnN n (chF (fun i => NS.getD i 0) by_ []) = NS := by
    refine Eq.trans ?_ (fnN_of NS).symm
    rw [hNS]
    exact fnN_congr _ _ _ fun x _ => by show _ + by_ * (0 : Int) = _; rw [Int.mul_zero, Int.add_zero]
  have HNE := Lib.hid hne
  clear hNS hX1 hX2 hB hne
  go_enter Tryd.func66, Tryd.ntmps66
  go_wp2_with fail
  refine (hov _ (he.below h0.be) (hT.below h0.be)).mono ?_
  rintro e w1 ⟨ap, cp, rfl, hrP, hb1⟩
  have h1 := (h0.next hb1).drew
  have hoff : 0 < P.length → ∀ p, ap = some p → p.block < w1.heap.size := fun hn p hp => by
    obtain ⟨b, off, x, y, ha, _, c0, _⟩ := pr_at hrP 0 hn
    rw [hp] at ha
    cases ha
    exact cell_lt c0
  have hrP1 : RowAt encP w1.drew (.slice ap P.length cp) P := hrP.below (Below.refl _ _).drew
  have h1A := ((h0.next hb1).alloc (.cells #[.int .i64 0, .slice none 0 0, .int .i64 0, .int .i64 0, .slice none 0 0] 46)).drew
  have hbA1 := ((Below.refl w1.heap.size w1).alloc (Nat.le_refl _) (.cells #[.int .i64 0, .slice none 0 0, .int .i64 0, .int .i64 0, .slice none 0 0] 46)).drew
  have hrPA := hrP.below hbA1
  have hQ1 : (w1.alloc (.cells #[.int .i64 0, .slice none 0 0, .int .i64 0, .int .i64 0, .slice none 0 0] 46)).drew.heap[w1.heap.size]? = _ := heap_alloc_new w1 (.cells #[.int .i64 0, .slice none 0 0, .int .i64 0, .int .i64 0, .slice none 0 0] 46)
  clear hov hb1 h0 hrP
  have hcx : ∀ W : World, Bx4 w (.cells #[.int .i64 n0, .slice p0 l0 c0, .int .i64 WD, .int .i64 CT, .slice an NS.length cn] 46) (.cells #[.int .i64 m, .slice p1 l1 c1] 27) (.cells #[.int .i64 n, .slice a es.length cap] 27) (.int .i64 0) (.slice none 0 0) (.int .i64 0) (.int .i64 0) (.slice none 0 0) 46 W → W.cell? ⟨w.heap.size, 2, none⟩ = some (.int .i64 WD) ∧ W.cell? ⟨w.heap.size, 3, none⟩ = some (.int .i64 CT) ∧ W.cell? ⟨w.heap.size, 4, none⟩ = some (.slice an NS.length cn) ∧ W.cell? ⟨w.heap.size + 1, 0, none⟩ = some (.int .i64 m) ∧ W.cell? ⟨w.heap.size + 1, 1, none⟩ = some (.slice p1 l1 c1) ∧ W.cell? ⟨w.heap.size + 2, 0, none⟩ = some (.int .i64 n) ∧ W.cell? ⟨w.heap.size + 2, 1, none⟩ = some (.slice a es.length cap) := fun W h => ⟨(cells5 h.a).2.2.1, (cells5 h.a).2.2.2.1, (cells5 h.a).2.2.2.2, (cell_two h.b).1, (cell_two h.b).2, (cell_two h.c).1, (cell_two h.c).2⟩
  go_wp2_with fail
  have hcxF := True.intro
  have hHA := True.intro
  go_region_held3 (fun W => W.cell? ⟨w.heap.size, 2, none⟩ = some (.int .i64 WD) ∧ W.cell? ⟨w.heap.size, 3, none⟩ = some (.int .i64 CT) ∧ W.cell? ⟨w.heap.size, 4, none⟩ = some (.slice an NS.length cn) ∧ W.cell? ⟨w.heap.size + 1, 0, none⟩ = some (.int .i64 m) ∧ W.cell? ⟨w.heap.size + 1, 1, none⟩ = some (.slice p1 l1 c1) ∧ W.cell? ⟨w.heap.size + 2, 0, none⟩ = some (.int .i64 n) ∧ W.cell? ⟨w.heap.size + 2, 1, none⟩ = some (.slice a es.length cap))
    (first
      | (with_reducible exact hcx _ (by with_reducible assumption))
      | with_reducible exact hHA
      | with_reducible exact hcxF)
    (first
      | (go_at_call 85; (with_reducible refine (hdu w1.drew (he.below h1.be)).mono ?_); rintro e w2 ⟨rfl, hb2⟩; have h2 := h1.next hb2; have h2A := h2.alloc (.cells #[.int .i64 0, .slice none 0 0, .int .i64 0, .int .i64 0, .slice none 0 0] 46); have hr2 := hrP1.below hb2; have hs2 : w1.heap.size ≤ w2.heap.size := hb2.size)
      | (go_at_call 85; (with_reducible refine (hdu (w1.alloc (.cells #[.int .i64 0, .slice none 0 0, .int .i64 0, .int .i64 0, .slice none 0 0] 46)).drew (he.below h1A.be)).mono ?_); rintro e w2 ⟨rfl, hb2⟩; have h2 := h1A.next hb2; have hQ2 := lit_next' hb2 hQ1; have hqw : w.heap.size + 4 ≤ w1.heap.size := h1.base; have hqs : w1.heap.size ≤ w1.heap.size := Nat.le_refl _; have hr2 := hrPA.below hb2; have hs2 : w1.heap.size ≤ w2.heap.size := Nat.le_trans hbA1.size hb2.size)
      | (go_at_call 85; (with_reducible refine (hdv w2 (he.below h2.be)).mono ?_); rintro e w3 ⟨rfl, hb3⟩; have h3 := h2.next hb3; have hQ3 := lit_next' hb3 hQ2; have hr3 := hr2.below hb3; have hs3 : w1.heap.size ≤ w3.heap.size := Nat.le_trans hs2 hb3.size)
      | (go_at_call 85; (with_reducible refine (hdv w2 (he.below h2.be)).mono ?_); rintro e w3 ⟨rfl, hb3⟩; have h3 := h2.next hb3; have h3A := h3.alloc (.cells #[.int .i64 0, .slice none 0 0, .int .i64 0, .int .i64 0, .slice none 0 0] 46); have hr3 := hr2.below hb3; have hs3 : w1.heap.size ≤ w3.heap.size := Nat.le_trans hs2 hb3.size)
      | (go_at_call 85; (with_reducible refine (hdv (w2.alloc (.cells #[.int .i64 0, .slice none 0 0, .int .i64 0, .int .i64 0, .slice none 0 0] 46)) (he.below h2A.be)).mono ?_); rintro e w3 ⟨rfl, hb3⟩; have h3 := h2A.next hb3; have hQ3 := lit_next' hb3 (heap_alloc_new w2 (.cells #[.int .i64 0, .slice none 0 0, .int .i64 0, .int .i64 0, .slice none 0 0] 46)); have hbA := (Below.refl w2.heap.size w2).alloc (Nat.le_refl _) (.cells #[.int .i64 0, .slice none 0 0, .int .i64 0, .int .i64 0, .slice none 0 0] 46); have hqw : w.heap.size + 4 ≤ w2.heap.size := h2.base; have hqs : w1.heap.size ≤ w2.heap.size := hs2; have hr3 := (hr2.below hbA).below hb3; have hs3 : w1.heap.size ≤ w3.heap.size := Nat.le_trans (Nat.le_trans hs2 hbA.size) hb3.size)
      | (go_at_call 94; (with_reducible refine (clone_any an cn NS w3 (hi.below h3.be) hn1 (by omega)).mono ?_); rintro e w4 ⟨g, c4, rfl, hc4, hT4, hg4, hb4⟩; have hQ4 := lit_next' hb4 hQ3; have hql := blk_lt hQ3; have h4 := h3.next hb4; have hr4 := hr3.below hb4; have hs4 := hb4.size; obtain ⟨k0, k1, k2, k3, k4⟩ := cells5 hQ4; obtain ⟨f0, f1, f2, f3, f4⟩ := frees5 hQ4; have hcxF := hcx _ (h4.grown (set5_grown _ _ (.int .i64 m) (.slice p1 l1 c1) (.int .i64 (WD + X1)) (.int .i64 (CT + X2)) (.slice (some ⟨g, 0, none⟩) NS.length c4)) (fun k e => by cases e; exact hqw)); unfold set5 at hcxF; have HSt := Lib.hid (ChS.start h4 hQ4 hT4 HNE.out hr4 (by omega) (by have := h3.base; omega) hqw (fun hn p hp => by have := hoff hn p hp; omega) (.int .i64 m) (.slice p1 l1 c1) (.int .i64 (WD + X1)) (.int .i64 (CT + X2)) (.slice (some ⟨g, 0, none⟩) NS.length c4)))
      | (go_at_call 94; (with_reducible refine (clone_any an cn NS (w3.alloc (.cells #[.int .i64 0, .slice none 0 0, .int .i64 0, .int .i64 0, .slice none 0 0] 46)) (hi.below h3A.be) hn1 (by omega)).mono ?_); rintro e w4 ⟨g, c4, rfl, hc4, hT4, hg4, hb4⟩; have hQ4 := lit_next' hb4 (heap_alloc_new w3 (.cells #[.int .i64 0, .slice none 0 0, .int .i64 0, .int .i64 0, .slice none 0 0] 46)); have hql := blk_lt (heap_alloc_new w3 (.cells #[.int .i64 0, .slice none 0 0, .int .i64 0, .int .i64 0, .slice none 0 0] 46)); have hbA := (Below.refl w3.heap.size w3).alloc (Nat.le_refl _) (.cells #[.int .i64 0, .slice none 0 0, .int .i64 0, .int .i64 0, .slice none 0 0] 46); have h4 := h3A.next hb4; have hr4 := (hr3.below hbA).below hb4; have hqw : w.heap.size + 4 ≤ w3.heap.size := h3.base; have hqs : w1.heap.size ≤ w3.heap.size := hs3; have hbs := hbA.size; have hs4 := hb4.size; obtain ⟨k0, k1, k2, k3, k4⟩ := cells5 hQ4; obtain ⟨f0, f1, f2, f3, f4⟩ := frees5 hQ4; have hcxF := hcx _ (h4.grown (set5_grown _ _ (.int .i64 m) (.slice p1 l1 c1) (.int .i64 (WD + X1)) (.int .i64 (CT + X2)) (.slice (some ⟨g, 0, none⟩) NS.length c4)) (fun k e => by cases e; exact hqw)); unfold set5 at hcxF; have HSt := Lib.hid (ChS.start h4 hQ4 hT4 HNE.out hr4 (by omega) (by have := h3.base; omega) hqw (fun hn p hp => by have := hoff hn p hp; omega) (.int .i64 m) (.slice p1 l1 c1) (.int .i64 (WD + X1)) (.int .i64 (CT + X2)) (.slice (some ⟨g, 0, none⟩) NS.length c4)))
      | (go_at_call 94; (with_reducible refine (clone_any an cn NS w3 (hi.below h3.be) hn1 (by omega)).mono ?_); rintro e w4 ⟨g, c4, rfl, hc4, hT4, hg4, hb4⟩; have h4n := h3.next hb4; have h4z := h4n.alloc (.cells #[.int .i64 0, .slice none 0 0, .int .i64 0, .int .i64 0, .slice none 0 0] 46); have h4 := h4n.alloc (.cells #[.int .i64 m, .slice p1 l1 c1, .int .i64 (WD + X1), .int .i64 (CT + X2), .slice (some ⟨g, 0, none⟩) NS.length c4] 46); have hQ4 := heap_alloc_new w4 (.cells #[.int .i64 m, .slice p1 l1 c1, .int .i64 (WD + X1), .int .i64 (CT + X2), .slice (some ⟨g, 0, none⟩) NS.length c4] 46); have hbA := (Below.refl w4.heap.size w4).alloc (Nat.le_refl _) (.cells #[.int .i64 m, .slice p1 l1 c1, .int .i64 (WD + X1), .int .i64 (CT + X2), .slice (some ⟨g, 0, none⟩) NS.length c4] 46); have hHA := hcx _ h4; have HSt := Lib.hid (ChS.laid h4 hQ4 (hT4.below hbA) HNE.out ((hr3.below hb4).below hbA) (by have := hT4.lt; omega) (by have := h3.base; omega) (fun hn p hp => by have := hoff hn p hp; omega))))
  all_goals
    have hc4n : n ≤ c4 := by rw [← HNS.out]; exact hc4
    have hg4w : w.heap.size ≤ g := by have := HSt.out.gw; omega
    clear hcx hdu hdv
    go_wp2_with fail
    clear hcxF hHA
    go_loopw [51] (fun i wr => ∃ k : Nat, k ≤ P.length ∧ i = .int .i64 k ∧ ChS w (.cells #[.int .i64 n0, .slice p0 l0 c0, .int .i64 WD, .int .i64 CT, .slice an NS.length cn] 46) (.cells #[.int .i64 m, .slice p1 l1 c1] 27) (.cells #[.int .i64 n, .slice a es.length cap] 27) n g _ (fun i => NS.getD i 0) by_ (.cells #[.int .i64 m, .slice p1 l1 c1, .int .i64 (WD + X1), .int .i64 (CT + X2), .slice (some ⟨g, 0, none⟩) NS.length c4] 46) ap cp P (tou u v (P.take k)) wr) (fun i _ => P.length - (intOf i).toNat)
    case atStart => exact ⟨0, Nat.zero_le _, rfl, HSt.out⟩
    case round =>
      obtain ⟨k, hk, rfl, hS⟩ := hrel
      clear HSt
      by_cases hlt : k < P.length
      · obtain ⟨bp, op, x, y, rfl, hx, m0, m1⟩ := pr_at hS.row k hlt
        obtain ⟨hxn, hyn⟩ := hPn (x, y) (List.mem_of_getElem? hx)
        dsimp only at hxn hyn
        have htk := tou_snoc u v (P.take k) (x, y)
        rw [← take_at P k _ hx] at htk
        have HTK := Lib.hid htk
        have htl : (tou u v (P.take k)).length ≤ 20000 := by rw [tou_len, List.length_take]; omega
        have hki : (k : Int) < P.length := by omega
        clear htk hx
        go_wp2_with fail
        go_loopw [62] (fun i wr => ∃ j : Nat, j ≤ 4 ∧ i = .int .i64 j ∧ ChS w (.cells #[.int .i64 n0, .slice p0 l0 c0, .int .i64 WD, .int .i64 CT, .slice an NS.length cn] 46) (.cells #[.int .i64 m, .slice p1 l1 c1] 27) (.cells #[.int .i64 n, .slice a es.length cap] 27) n g _ (fun i => NS.getD i 0) by_ (.cells #[.int .i64 m, .slice p1 l1 c1, .int .i64 (WD + X1), .int .i64 (CT + X2), .slice (some ⟨g, 0, none⟩) NS.length c4] 46) (some ⟨bp, op, none⟩) cp P (step4 (tou u v (P.take k)) u v x y j) wr) (fun i _ => 4 - (intOf i).toNat)
        case atStart => exact ⟨0, by omega, rfl, hS.alloc _⟩
        case round =>
          clear hS m0 m1
          obtain ⟨j, hj, rfl, hR⟩ := hrel
          rcases (by omega : j = 0 ∨ j = 1 ∨ j = 2 ∨ j = 3 ∨ j = 4) with rfl | rfl | rfl | rfl | rfl
          · have iyj := iy0 (u : Int) (v : Int) (x : Int) (y : Int)
            have cz := hR.cell u hu
            have fz := hR.tail.free u
            have q4 := (cells5 hR.q).2.2.2.2
            have hst := hR.step u hu
            have hbd := chF_bd (fun i => NS.getD i 0) by_ (step4 (tou u v (P.take k)) u v x y 0) u hby (hBB u) (by have := step4_len (tou u v (P.take k)) u v x y 0; omega)
            obtain ⟨F, hF⟩ : ∃ F, chF (fun i => NS.getD i 0) by_ (step4 (tou u v (P.take k)) u v x y 0) u = F := ⟨_, rfl⟩
            rw [hF] at cz hst hbd
            have vb : IntKind.i64.wrap (F + by_) = F + by_ := IntWalk.i64_in _ (by rcases hby with h | h <;> subst h <;> omega)
            have hz2 : (u : Int) < NS.length := by have := HNS.out; omega
            have hz3 : u < NS.length := by omega
            have HR2 := Lib.hid hst
            clear hst hF hbd hR
            go_wp2_with fail
            go_roundw
            case rel => exact ⟨1, by omega, by go_num, HR2.out⟩
            case measure => simp [intOf]
          · have iyj := iy1 (u : Int) (v : Int) (x : Int) (y : Int)
            have cz := hR.cell v hvn
            have fz := hR.tail.free v
            have q4 := (cells5 hR.q).2.2.2.2
            have hst := hR.step v hvn
            have hbd := chF_bd (fun i => NS.getD i 0) by_ (step4 (tou u v (P.take k)) u v x y 1) v hby (hBB v) (by have := step4_len (tou u v (P.take k)) u v x y 1; omega)
            obtain ⟨F, hF⟩ : ∃ F, chF (fun i => NS.getD i 0) by_ (step4 (tou u v (P.take k)) u v x y 1) v = F := ⟨_, rfl⟩
            rw [hF] at cz hst hbd
            have vb : IntKind.i64.wrap (F + by_) = F + by_ := IntWalk.i64_in _ (by rcases hby with h | h <;> subst h <;> omega)
            have hz2 : (v : Int) < NS.length := by have := HNS.out; omega
            have hz3 : v < NS.length := by omega
            have HR2 := Lib.hid hst
            clear hst hF hbd hR
            go_wp2_with fail
            go_roundw
            case rel => exact ⟨2, by omega, by go_num, HR2.out⟩
            case measure => simp [intOf]
          · have iyj := iy2 (u : Int) (v : Int) (x : Int) (y : Int)
            have cz := hR.cell x hxn
            have fz := hR.tail.free x
            have q4 := (cells5 hR.q).2.2.2.2
            have hst := hR.step x hxn
            have hbd := chF_bd (fun i => NS.getD i 0) by_ (step4 (tou u v (P.take k)) u v x y 2) x hby (hBB x) (by have := step4_len (tou u v (P.take k)) u v x y 2; omega)
            obtain ⟨F, hF⟩ : ∃ F, chF (fun i => NS.getD i 0) by_ (step4 (tou u v (P.take k)) u v x y 2) x = F := ⟨_, rfl⟩
            rw [hF] at cz hst hbd
            have vb : IntKind.i64.wrap (F + by_) = F + by_ := IntWalk.i64_in _ (by rcases hby with h | h <;> subst h <;> omega)
            have hz2 : (x : Int) < NS.length := by have := HNS.out; omega
            have hz3 : x < NS.length := by omega
            have HR2 := Lib.hid hst
            clear hst hF hbd hR
            go_wp2_with fail
            go_roundw
            case rel => exact ⟨3, by omega, by go_num, HR2.out⟩
            case measure => simp [intOf]
          · have iyj := iy3 (u : Int) (v : Int) (x : Int) (y : Int)
            have cz := hR.cell y hyn
            have fz := hR.tail.free y
            have q4 := (cells5 hR.q).2.2.2.2
            have hst := hR.step y hyn
            have hbd := chF_bd (fun i => NS.getD i 0) by_ (step4 (tou u v (P.take k)) u v x y 3) y hby (hBB y) (by have := step4_len (tou u v (P.take k)) u v x y 3; omega)
            obtain ⟨F, hF⟩ : ∃ F, chF (fun i => NS.getD i 0) by_ (step4 (tou u v (P.take k)) u v x y 3) y = F := ⟨_, rfl⟩
            rw [hF] at cz hst hbd
            have vb : IntKind.i64.wrap (F + by_) = F + by_ := IntWalk.i64_in _ (by rcases hby with h | h <;> subst h <;> omega)
            have hz2 : (y : Int) < NS.length := by have := HNS.out; omega
            have hz3 : y < NS.length := by omega
            have HR2 := Lib.hid hst
            clear hst hF hbd hR
            go_wp2_with fail
            go_roundw
            case rel => exact ⟨4, by omega, by go_num, HR2.out⟩
            case measure => simp [intOf]
          · have HR2 := Lib.hid hR
            clear hR
            go_wp2_with fail
            go_roundw
            case rel => exact ⟨k + 1, by omega, by go_num, by rw [HTK.out]; exact HR2.out⟩
            case measure => simp [intOf]; omega
      · obtain rfl : k = P.length := by omega
        have hq := hS.q
        rw [HNS.out] at hq
        obtain ⟨q0, q1, q2, q3, q4⟩ := cells5 hS.q
        obtain ⟨o0, o1, o2, o3, o4⟩ := cells5 hS.bx.o
        obtain ⟨f0, f1, f2, f3, f4⟩ := frees5 hS.bx.o
        have hbe := hS.bx.be
        have hgg := set5_grown wr (w.heap.size + 3) (.int .i64 m) (.slice p1 l1 c1) (.int .i64 (WD + X1)) (.int .i64 (CT + X2)) (.slice (some ⟨g, 0, none⟩) NS.length c4)
        have hfin := set5_at hS.bx.o (.int .i64 m) (.slice p1 l1 c1) (.int .i64 (WD + X1)) (.int .i64 (CT + X2)) (.slice (some ⟨g, 0, none⟩) NS.length c4)
        have hI := TailAt.ints (cap := c4) hS.tail (by rw [fnN_length]; omega) (by rw [fnN_length]; exact hc4n)
        rw [fnN_length, List.take_length] at hI
        have hgw := hS.gw
        have HI := Lib.hid (IntsAt.grown hI hgg (fun k e n' c' p ep => by cases e; have h1 := (Value.slice.inj ep).1; cases h1; show g ≠ w.heap.size + 3; omega))
        have HBE := Lib.hid (hbe.grown hgg hbe.size (fun k e => by cases e; omega))
        have HFI := Lib.hid hfin
        clear hI hgg hfin hbe hS hq
        go_wp2_with fail
        obtain ⟨t0, t1, t2, t3, t4⟩ := cells5 HFI.out
        unfold set5 at t0 t1 t2 t3 t4
        exact bodyPost_ret (v := .tuple #[.agg #[.int .i64 m, .slice p1 l1 c1, .int .i64 (WD + X1), .int .i64 (CT + X2), .slice (some ⟨g, 0, none⟩) NS.length c4], .int .i64 (P.length : Int), .int .i64 0]) (by simp [results, Tryd.results66, go_sem, t0, t1, t2, t3, t4]) rfl ⟨g, c4, by rw [HNS.out], HI.out, hg4w, HBE.out⟩
end Go.Proofs.YtekbpoppajbljaaDoor

namespace Go.Proofs.YtekbpoppajbljaaDoor
open Go.RowKit Go.BigFrame

/-- the graph with an edge more and its numbers, how many squares came, or the error -/
def insX (q : Qd) (u v : Int) : Qd × Int × Int := if sqOk q = true then (if (addX q.n q.es u v).2.2 ≠ 0 then (Qd.zero, 0, (addX q.n q.es u v).2.2) else (quadN q.n.toNat (addX q.n q.es u v).2.1, ((ovN q.es u.toNat v.toNat).length : Int), 0)) else (Qd.zero, 0, 35)
/-- the graph without an edge and its numbers, how many squares went, or the error -/
def delX (q : Qd) (u v : Int) : Qd × Int × Int := if sqOk q = true then (if (remX q.n q.es u v).2.2 ≠ 0 then (Qd.zero, 0, (remX q.n q.es u v).2.2) else (quadN q.n.toNat (remX q.n q.es u v).2.1, ((ovN (remX q.n q.es u v).2.1 u.toNat v.toNat).length : Int), 0)) else (Qd.zero, 0, 35)
theorem addX_ok {n : Int} {es : List E2} {u v : Int} (h : (addX n es u v).2.2 = 0) : Valid n es ∧ (u ≠ v ∧ 0 ≤ min u v ∧ max u v < n) ∧ (min u v, max u v) ∉ es ∧ addX n es u v = (n, insE es (min u v, max u v), 0) := by
  unfold addX at h ⊢
  by_cases h0 : chgE n es u v ≠ 0
  · rw [if_pos h0] at h; exact absurd h h0
  · rw [if_neg h0] at h ⊢
    obtain ⟨hv, he⟩ := chgE_zero (Classical.not_not.1 h0)
    by_cases h1 : (min u v, max u v) ∈ es
    · rw [if_pos h1] at h; cases h
    · rw [if_neg h1]; exact ⟨hv, endsB_iff.1 he, h1, rfl⟩
theorem remX_ok {n : Int} {es : List E2} {u v : Int} (h : (remX n es u v).2.2 = 0) : Valid n es ∧ (u ≠ v ∧ 0 ≤ min u v ∧ max u v < n) ∧ (min u v, max u v) ∈ es ∧ remX n es u v = (n, delE es (min u v, max u v), 0) := by
  unfold remX at h ⊢
  by_cases h0 : chgE n es u v ≠ 0
  · rw [if_pos h0] at h; exact absurd h h0
  · rw [if_neg h0] at h ⊢
    obtain ⟨hv, he⟩ := chgE_zero (Classical.not_not.1 h0)
    by_cases h1 : (min u v, max u v) ∈ es
    · rw [if_pos h1]; exact ⟨hv, endsB_iff.1 he, h1, rfl⟩
    · rw [if_neg h1] at h; cases h
theorem up_two (a b c d : Int) (h : d = a + b + c) : a + 1 * (b + c) = d := by omega
theorem up_one (a b d : Int) (h : d = a + b) : a + 1 * b = d := by omega
theorem down_two (a b c d : Int) (h : d = a + b + c) : d + -1 * (b + c) = a := by omega
theorem down_one (a b d : Int) (h : d = a + b) : d + -1 * b = a := by omega
theorem sqL_bd {n : Nat} {es : List E2} (hn : n ≤ 64) : ∀ x ∈ sqL es n, 0 ≤ x ∧ x ≤ 1125899906842624 := by
  intro x hx
  obtain ⟨i, hi⟩ := List.mem_iff_getElem?.1 hx
  have hl := (List.getElem?_eq_some_iff.1 hi).1
  rw [sqL_length] at hl
  rw [sqL_get _ _ _ hl] at hi
  have := sqN_bd es n hn i n
  have e := Option.some.inj hi
  omega
theorem num_bd {n : Nat} {es : List E2} (hn : n ≤ 64) : (0 ≤ wedS es n ∧ wedS es n ≤ 1125899906842624) ∧ 0 ≤ sqT es n n / 4 ∧ sqT es n n / 4 ≤ 1125899906842624 := by
  have h1 := wedS_bd es n
  have h2 := sqT_bd es n hn n
  omega
theorem sqL_kept {n u v : Nat} {es fs : List E2} (h : Kept es fs n u v) : (fnN n fun i => (sqL es n).getD i 0 + 1 * hitN (ovN es u v) u v i) = sqL fs n := by
  refine Eq.trans (fnN_congr n _ (fun i => (sqL fs n).getD i 0) fun i hi => ?_) (by have := fnN_of (sqL fs n); rw [sqL_length] at this; exact this.symm)
  rw [List.getD_eq_getElem?_getD, List.getD_eq_getElem?_getD, sqL_get _ _ _ hi, sqL_get _ _ _ hi, Int.one_mul]
  exact (h.nod i hi).symm
theorem sqL_back {n u v : Nat} {es fs : List E2} (h : Kept es fs n u v) : (fnN n fun i => (sqL fs n).getD i 0 + -1 * hitN (ovN es u v) u v i) = sqL es n := by
  refine Eq.trans (fnN_congr n _ (fun i => (sqL es n).getD i 0) fun i hi => ?_) (by have := fnN_of (sqL es n); rw [sqL_length] at this; exact this.symm)
  rw [List.getD_eq_getElem?_getD, List.getD_eq_getElem?_getD, sqL_get _ _ _ hi, sqL_get _ _ _ hi]
  have := h.nod i hi
  show sqN fs n i n + -1 * hitN (ovN es u v) u v i = sqN es n i n
  omega
set_option maxRecDepth 100000 in
set_option maxHeartbeats 6400000 in
theorem sqinsert_any (n wd ct : Int) (a a2 : Option Addr) (cap c2 : Nat) (es : List E2) (ns : List Int) (u v : Int) (w : World) (he : EdgesAt w (.slice a es.length cap) es) (hi : IntsAt w (.slice a2 ns.length c2) ns) (hT : TzAt w) :
    Calls Tryd.prog 32 #[.agg #[.int .i64 n, .slice a es.length cap, .int .i64 wd, .int .i64 ct, .slice a2 ns.length c2], .int .i64 u, .int .i64 v] w (QPost w (insX ⟨n, es, wd, ct, ns⟩ u v).1 [.int .i64 (insX ⟨n, es, wd, ct, ns⟩ u v).2.1, .int .i64 (insX ⟨n, es, wd, ct, ns⟩ u v).2.2]) := by
  have h0 := Bx2.start w (.cells #[.int .i64 n, .slice a es.length cap, .int .i64 wd, .int .i64 ct, .slice a2 ns.length c2] 46) (.int .i64 0) (.slice none 0 0) (.int .i64 0) (.int .i64 0) (.slice none 0 0) 46
  have hvl := fun W h h2 h3 => sqvalid_any n wd ct a a2 cap c2 es ns W h h2 h3
  unfold insX
  dsimp only
  obtain ⟨B, hB⟩ : ∃ B, sqOk ⟨n, es, wd, ct, ns⟩ = B := ⟨_, rfl⟩
  rw [hB] at hvl ⊢
  cases B with
  | false =>
    rw [if_neg (by simp)]
    clear hB
    obtain ⟨g0, g1, g2, g3, g4⟩ := cells5 h0.g
    go_enter Tryd.func32, Tryd.ntmps32
    go_wp2_with fail
    refine (hvl _ (he.below h0.be) (hi.below h0.be) (hT.below h0.be)).mono ?_
    rintro e w1 ⟨rfl, hb1⟩
    have h1 := h0.next hb1
    clear hb1 h0 g0 g1 g2 g3 g4
    obtain ⟨o0, o1, o2, o3, o4⟩ := cells5 h1.o
    obtain ⟨f0, f1, f2, f3, f4⟩ := frees5 h1.o
    have hbe := h1.be
    have HF := Lib.hid (set5_at h1.o (.int .i64 0) (.slice none 0 0) (.int .i64 0) (.int .i64 0) (.slice none 0 0))
    clear h1 hvl
    go_wp2_with fail
    obtain ⟨t0, t1, t2, t3, t4⟩ := cells5 HF.out
    unfold set5 at t0 t1 t2 t3 t4
    exact bodyPost_ret (v := .tuple #[.agg #[.int .i64 0, .slice none 0 0, .int .i64 0, .int .i64 0, .slice none 0 0], .int .i64 0, .int .i64 35]) (by simp [results, Tryd.results32, go_sem, t0, t1, t2, t3, t4]) rfl
      ⟨none, 0, none, 0, rfl, QIn.void _ _, hbe.grown (set5_grown w1 (w.heap.size + 1) (.int .i64 0) (.slice none 0 0) (.int .i64 0) (.int .i64 0) (.slice none 0 0)) hbe.size (fun k e => by cases e; omega)⟩
  | true =>
    rw [if_pos rfl]
    obtain ⟨m, hv, hq⟩ := (sqOk_iff _).1 hB
    dsimp only [quadN] at hv hq
    obtain ⟨rfl, -, rfl, rfl, rfl⟩ := Qd.mk.inj hq
    clear hB hq
    rw [Int.toNat_natCast]
    have hm64 : m ≤ 64 := by have := hv.2.1; omega
    have had := fun W h => gadd_any m a cap es u v W h
    obtain ⟨A, hA⟩ : ∃ A, addX m es u v = A := ⟨_, rfl⟩
    have hAo : A.2.2 = 0 → _ := fun h => addX_ok (by rw [hA]; exact h)
    rw [hA] at had hAo ⊢
    clear hA
    obtain ⟨N, fs, E⟩ := A
    dsimp only at hAo ⊢
    unfold GrPost at had
    dsimp only at had
    by_cases hE : E = 0
    case neg =>
      rw [if_pos hE]
      have d1 : (E != 0) = true := by simpa using hE
      clear hAo hE
      obtain ⟨X, hX⟩ : ∃ X, wedS es m = X := ⟨_, rfl⟩
      obtain ⟨Y, hY⟩ : ∃ Y, sqT es m m / 4 = Y := ⟨_, rfl⟩
      obtain ⟨Z, hZ⟩ : ∃ Z, sqL es m = Z := ⟨_, rfl⟩
      rw [hZ] at hi
      rw [hX, hY, hZ] at hvl h0 ⊢
      clear hX hY hZ
      obtain ⟨g0, g1, g2, g3, g4⟩ := cells5 h0.g
      go_enter Tryd.func32, Tryd.ntmps32
      go_wp2_with fail
      refine (hvl _ (he.below h0.be) (hi.below h0.be) (hT.below h0.be)).mono ?_
      rintro e w1 ⟨rfl, hb1⟩
      have h1 := h0.next hb1
      clear hb1 h0 g0 g1 g2 g3 g4
      obtain ⟨g0, g1, g2, g3, g4⟩ := cells5 h1.g
      go_wp2_with fail
      refine (had _ (he.below h1.be)).mono ?_
      rintro e w2 ⟨af, cf, rfl, hef, haf, hb2⟩
      have h2 := (h1.next hb2).alloc (.cells #[.int .i64 N, .slice af fs.length cf] 27)
      clear hb2 h1 g0 g1 g2 g3 g4
      obtain ⟨o0, o1, o2, o3, o4⟩ := cells5 h2.o
      obtain ⟨f0, f1, f2, f3, f4⟩ := frees5 h2.o
      have hbe := h2.be
      have HF := Lib.hid (set5_at h2.o (.int .i64 0) (.slice none 0 0) (.int .i64 0) (.int .i64 0) (.slice none 0 0))
      clear h2 hvl
      go_wp2_with fail
      obtain ⟨t0, t1, t2, t3, t4⟩ := cells5 HF.out
      unfold set5 at t0 t1 t2 t3 t4
      exact bodyPost_ret (v := .tuple #[.agg #[.int .i64 0, .slice none 0 0, .int .i64 0, .int .i64 0, .slice none 0 0], .int .i64 0, .int .i64 E]) (by simp [results, Tryd.results32, go_sem, t0, t1, t2, t3, t4]) rfl
        ⟨none, 0, none, 0, rfl, QIn.void _ _, hbe.grown (set5_grown _ (w.heap.size + 1) (.int .i64 0) (.slice none 0 0) (.int .i64 0) (.int .i64 0) (.slice none 0 0)) hbe.size (fun k e => by cases e; omega)⟩
    subst hE
    rw [if_neg (by simp)]
    obtain ⟨-, hen, hmem, heq⟩ := hAo rfl
    obtain ⟨hN, hfs, -⟩ := Prod.mk.inj heq |>.imp id Prod.mk.inj
    obtain ⟨hvf, hK⟩ := kept_ins hv hen hmem
    rw [← hfs] at hvf hK
    subst hN
    clear heq hfs hAo hmem
    obtain ⟨p, rfl⟩ := Int.eq_ofNat_of_zero_le (show 0 ≤ u by omega)
    obtain ⟨q, rfl⟩ := Int.eq_ofNat_of_zero_le (show 0 ≤ v by omega)
    rw [Int.toNat_natCast, Int.toNat_natCast] at hK ⊢
    have hpn : p < m := by omega
    have hqn : q < m := by omega
    obtain ⟨hWb, hCb⟩ := num_bd (es := es) hm64
    have hch := fun sl af cf W s h h2 t => changed_any (m : Int) (.slice a es.length cap) (wedS es m) (sqT es m m / 4) a2 c2 (sqL es m) (m : Int) sl m p q af cf es 1 W ⟨a, es.length, cap, rfl⟩ s h h2 hv hpn hqn t (.inl rfl) (sqL_length es m) (sqL_bd hm64) hWb hCb
    rw [sqL_kept hK, up_two _ _ _ _ hK.wed, up_one _ _ _ hK.cnt] at hch
    have hnl := sqL_length es m
    have hnf := sqL_length fs m
    unfold quadN
    dsimp only
    obtain ⟨X, hX⟩ : ∃ X, wedS es m = X := ⟨_, rfl⟩
    obtain ⟨Y, hY⟩ : ∃ Y, sqT es m m / 4 = Y := ⟨_, rfl⟩
    obtain ⟨Z, hZ⟩ : ∃ Z, sqL es m = Z := ⟨_, rfl⟩
    obtain ⟨X', hX'⟩ : ∃ X, wedS fs m = X := ⟨_, rfl⟩
    obtain ⟨Y', hY'⟩ : ∃ Y, sqT fs m m / 4 = Y := ⟨_, rfl⟩
    obtain ⟨Z', hZ'⟩ : ∃ Z, sqL fs m = Z := ⟨_, rfl⟩
    obtain ⟨O, hO⟩ : ∃ O, ovN es p q = O := ⟨_, rfl⟩
    rw [hZ] at hi hnl
    rw [hX, hY, hZ] at hvl h0 hch ⊢
    rw [hX', hY', hZ'] at hch ⊢
    rw [hZ'] at hnf
    rw [hO] at hch ⊢
    clear hX hY hZ hX' hY' hZ' hO hWb hCb hK hen
    have HNL := Lib.hid hnl
    have HNF := Lib.hid hnf
    clear hnl hnf
    obtain ⟨g0, g1, g2, g3, g4⟩ := cells5 h0.g
    go_enter Tryd.func32, Tryd.ntmps32
    go_wp2_with fail
    refine (hvl _ (he.below h0.be) (hi.below h0.be) (hT.below h0.be)).mono ?_
    rintro e w1 ⟨rfl, hb1⟩
    have h1 := h0.next hb1
    clear hb1 h0 g0 g1 g2 g3 g4
    obtain ⟨g0, g1, g2, g3, g4⟩ := cells5 h1.g
    go_wp2_with fail
    refine (had _ (he.below h1.be)).mono ?_
    rintro e w2 ⟨af, cf, rfl, hef, haf, hb2⟩
    have h2n := h1.next hb2
    have h2 := h2n.alloc (.cells #[.int .i64 m, .slice af fs.length cf] 27)
    have hGb := heap_alloc_new w2 (.cells #[.int .i64 m, .slice af fs.length cf] 27)
    have hbA := (Below.refl w2.heap.size w2).alloc (Nat.le_refl _) (.cells #[.int .i64 m, .slice af fs.length cf] 27)
    have hefA := hef.below hbA
    have haf2 : ∀ p, af = some p → w.heap.size + 2 ≤ p.block := fun p hp => by have := haf p hp; have := h1.base; omega
    clear hb2 h1 g0 g1 g2 g3 g4 h2n hbA haf hef had hvl
    obtain ⟨g0, g1, g2, g3, g4⟩ := cells5 h2.g
    obtain ⟨k0, k1⟩ := cell_two hGb
    go_wp2_with fail
    refine (hch (.slice af fs.length cf) a cap _ ⟨af, fs.length, cf, rfl⟩ (he.below h2.be) (hi.below h2.be) (hT.below h2.be)).mono ?_
    rintro e w3 ⟨g, cz, rfl, hI3, hg3, hb3⟩
    have h3 := h2.next hb3
    have hef3 := hefA.below hb3
    have hg2 : w.heap.size + 2 ≤ g := Nat.le_trans h2.base hg3
    clear hb3 g0 g1 g2 g3 g4 k0 k1 hGb h2 hch hefA
    obtain ⟨o0, o1, o2, o3, o4⟩ := cells5 h3.o
    obtain ⟨f0, f1, f2, f3, f4⟩ := frees5 h3.o
    have hbe := h3.be
    have HF := Lib.hid (set5_at h3.o (.int .i64 m) (.slice af fs.length cf) (.int .i64 X') (.int .i64 Y') (.slice (some ⟨g, 0, none⟩) m cz))
    have hI4 : IntsAt w3 (.slice (some ⟨g, 0, none⟩) Z'.length cz) Z' := by rw [HNF.out]; exact hI3
    have q : QIn w3 (w.heap.size + 2) af cf fs (some ⟨g, 0, none⟩) cz Z' := ⟨hef3, hI4, haf2, fun p h => by cases h; exact hg2⟩
    have HQ := Lib.hid ((q.grown (set5_grown w3 (w.heap.size + 1) (.int .i64 m) (.slice af fs.length cf) (.int .i64 X') (.int .i64 Y') (.slice (some ⟨g, 0, none⟩) m cz)) (fun k e => by cases e; omega)).mono (show w.heap.size ≤ w.heap.size + 2 by omega))
    have HB := Lib.hid (hbe.grown (set5_grown w3 (w.heap.size + 1) (.int .i64 m) (.slice af fs.length cf) (.int .i64 X') (.int .i64 Y') (.slice (some ⟨g, 0, none⟩) m cz)) hbe.size (fun k e => by cases e; omega))
    clear h3 hI3 hI4 q hef3 hbe
    go_wp2_with fail
    obtain ⟨t0, t1, t2, t3, t4⟩ := cells5 HF.out
    unfold set5 at t0 t1 t2 t3 t4
    exact bodyPost_ret (v := .tuple #[.agg #[.int .i64 m, .slice af fs.length cf, .int .i64 X', .int .i64 Y', .slice (some ⟨g, 0, none⟩) m cz], .int .i64 (O.length : Int), .int .i64 0]) (by simp [results, Tryd.results32, go_sem, t0, t1, t2, t3, t4]) rfl
      ⟨af, cf, some ⟨g, 0, none⟩, cz, by rw [HNF.out], HQ.out, HB.out⟩
set_option maxRecDepth 100000 in
set_option maxHeartbeats 6400000 in
theorem sqdelete_any (n wd ct : Int) (a a2 : Option Addr) (cap c2 : Nat) (es : List E2) (ns : List Int) (u v : Int) (w : World) (he : EdgesAt w (.slice a es.length cap) es) (hi : IntsAt w (.slice a2 ns.length c2) ns) (hT : TzAt w) :
    Calls Tryd.prog 33 #[.agg #[.int .i64 n, .slice a es.length cap, .int .i64 wd, .int .i64 ct, .slice a2 ns.length c2], .int .i64 u, .int .i64 v] w (QPost w (delX ⟨n, es, wd, ct, ns⟩ u v).1 [.int .i64 (delX ⟨n, es, wd, ct, ns⟩ u v).2.1, .int .i64 (delX ⟨n, es, wd, ct, ns⟩ u v).2.2]) := by
  have h0 := Bx2.start w (.cells #[.int .i64 n, .slice a es.length cap, .int .i64 wd, .int .i64 ct, .slice a2 ns.length c2] 46) (.int .i64 0) (.slice none 0 0) (.int .i64 0) (.int .i64 0) (.slice none 0 0) 46
  have hvl := fun W h h2 h3 => sqvalid_any n wd ct a a2 cap c2 es ns W h h2 h3
  unfold delX
  dsimp only
  obtain ⟨B, hB⟩ : ∃ B, sqOk ⟨n, es, wd, ct, ns⟩ = B := ⟨_, rfl⟩
  rw [hB] at hvl ⊢
  cases B with
  | false =>
    rw [if_neg (by simp)]
    clear hB
    obtain ⟨g0, g1, g2, g3, g4⟩ := cells5 h0.g
    go_enter Tryd.func33, Tryd.ntmps33
    go_wp2_with fail
    refine (hvl _ (he.below h0.be) (hi.below h0.be) (hT.below h0.be)).mono ?_
    rintro e w1 ⟨rfl, hb1⟩
    have h1 := h0.next hb1
    clear hb1 h0 g0 g1 g2 g3 g4
    obtain ⟨o0, o1, o2, o3, o4⟩ := cells5 h1.o
    obtain ⟨f0, f1, f2, f3, f4⟩ := frees5 h1.o
    have hbe := h1.be
    have HF := Lib.hid (set5_at h1.o (.int .i64 0) (.slice none 0 0) (.int .i64 0) (.int .i64 0) (.slice none 0 0))
    clear h1 hvl
    go_wp2_with fail
    obtain ⟨t0, t1, t2, t3, t4⟩ := cells5 HF.out
    unfold set5 at t0 t1 t2 t3 t4
    exact bodyPost_ret (v := .tuple #[.agg #[.int .i64 0, .slice none 0 0, .int .i64 0, .int .i64 0, .slice none 0 0], .int .i64 0, .int .i64 35]) (by simp [results, Tryd.results33, go_sem, t0, t1, t2, t3, t4]) rfl
      ⟨none, 0, none, 0, rfl, QIn.void _ _, hbe.grown (set5_grown w1 (w.heap.size + 1) (.int .i64 0) (.slice none 0 0) (.int .i64 0) (.int .i64 0) (.slice none 0 0)) hbe.size (fun k e => by cases e; omega)⟩
  | true =>
    rw [if_pos rfl]
    obtain ⟨m, hv, hq⟩ := (sqOk_iff _).1 hB
    dsimp only [quadN] at hv hq
    obtain ⟨rfl, -, rfl, rfl, rfl⟩ := Qd.mk.inj hq
    clear hB hq
    rw [Int.toNat_natCast]
    have hm64 : m ≤ 64 := by have := hv.2.1; omega
    have had := fun W h => gremove_any m a cap es u v W h
    obtain ⟨A, hA⟩ : ∃ A, remX m es u v = A := ⟨_, rfl⟩
    have hAo : A.2.2 = 0 → _ := fun h => remX_ok (by rw [hA]; exact h)
    rw [hA] at had hAo ⊢
    clear hA
    obtain ⟨N, fs, E⟩ := A
    dsimp only at hAo ⊢
    unfold GrPost at had
    dsimp only at had
    by_cases hE : E = 0
    case neg =>
      rw [if_pos hE]
      have d1 : (E != 0) = true := by simpa using hE
      clear hAo hE
      obtain ⟨X, hX⟩ : ∃ X, wedS es m = X := ⟨_, rfl⟩
      obtain ⟨Y, hY⟩ : ∃ Y, sqT es m m / 4 = Y := ⟨_, rfl⟩
      obtain ⟨Z, hZ⟩ : ∃ Z, sqL es m = Z := ⟨_, rfl⟩
      rw [hZ] at hi
      rw [hX, hY, hZ] at hvl h0 ⊢
      clear hX hY hZ
      obtain ⟨g0, g1, g2, g3, g4⟩ := cells5 h0.g
      go_enter Tryd.func33, Tryd.ntmps33
      go_wp2_with fail
      refine (hvl _ (he.below h0.be) (hi.below h0.be) (hT.below h0.be)).mono ?_
      rintro e w1 ⟨rfl, hb1⟩
      have h1 := h0.next hb1
      clear hb1 h0 g0 g1 g2 g3 g4
      obtain ⟨g0, g1, g2, g3, g4⟩ := cells5 h1.g
      go_wp2_with fail
      refine (had _ (he.below h1.be)).mono ?_
      rintro e w2 ⟨af, cf, rfl, hef, haf, hb2⟩
      have h2 := (h1.next hb2).alloc (.cells #[.int .i64 N, .slice af fs.length cf] 27)
      clear hb2 h1 g0 g1 g2 g3 g4
      obtain ⟨o0, o1, o2, o3, o4⟩ := cells5 h2.o
      obtain ⟨f0, f1, f2, f3, f4⟩ := frees5 h2.o
      have hbe := h2.be
      have HF := Lib.hid (set5_at h2.o (.int .i64 0) (.slice none 0 0) (.int .i64 0) (.int .i64 0) (.slice none 0 0))
      clear h2 hvl
      go_wp2_with fail
      obtain ⟨t0, t1, t2, t3, t4⟩ := cells5 HF.out
      unfold set5 at t0 t1 t2 t3 t4
      exact bodyPost_ret (v := .tuple #[.agg #[.int .i64 0, .slice none 0 0, .int .i64 0, .int .i64 0, .slice none 0 0], .int .i64 0, .int .i64 E]) (by simp [results, Tryd.results33, go_sem, t0, t1, t2, t3, t4]) rfl
        ⟨none, 0, none, 0, rfl, QIn.void _ _, hbe.grown (set5_grown _ (w.heap.size + 1) (.int .i64 0) (.slice none 0 0) (.int .i64 0) (.int .i64 0) (.slice none 0 0)) hbe.size (fun k e => by cases e; omega)⟩
    subst hE
    rw [if_neg (by simp)]
    obtain ⟨-, hen, hmem, heq⟩ := hAo rfl
    obtain ⟨hN, hfs, -⟩ := Prod.mk.inj heq |>.imp id Prod.mk.inj
    obtain ⟨hvf, hK⟩ := kept_del hv hen hmem
    rw [← hfs] at hvf hK
    subst hN
    clear heq hfs hAo hmem
    obtain ⟨p, rfl⟩ := Int.eq_ofNat_of_zero_le (show 0 ≤ u by omega)
    obtain ⟨q, rfl⟩ := Int.eq_ofNat_of_zero_le (show 0 ≤ v by omega)
    rw [Int.toNat_natCast, Int.toNat_natCast] at hK ⊢
    have hpn : p < m := by omega
    have hqn : q < m := by omega
    obtain ⟨hWb, hCb⟩ := num_bd (es := es) hm64
    have hch := fun sl af cf W s h h2 t => changed_any (m : Int) (.slice a es.length cap) (wedS es m) (sqT es m m / 4) a2 c2 (sqL es m) (m : Int) sl m p q af cf fs (-1) W ⟨a, es.length, cap, rfl⟩ s h h2 hvf hpn hqn t (.inr rfl) (sqL_length es m) (sqL_bd hm64) hWb hCb
    rw [sqL_back hK, down_two _ _ _ _ hK.wed, down_one _ _ _ hK.cnt] at hch
    have hnl := sqL_length es m
    have hnf := sqL_length fs m
    unfold quadN
    dsimp only
    obtain ⟨X, hX⟩ : ∃ X, wedS es m = X := ⟨_, rfl⟩
    obtain ⟨Y, hY⟩ : ∃ Y, sqT es m m / 4 = Y := ⟨_, rfl⟩
    obtain ⟨Z, hZ⟩ : ∃ Z, sqL es m = Z := ⟨_, rfl⟩
    obtain ⟨X', hX'⟩ : ∃ X, wedS fs m = X := ⟨_, rfl⟩
    obtain ⟨Y', hY'⟩ : ∃ Y, sqT fs m m / 4 = Y := ⟨_, rfl⟩
    obtain ⟨Z', hZ'⟩ : ∃ Z, sqL fs m = Z := ⟨_, rfl⟩
    obtain ⟨O, hO⟩ : ∃ O, ovN fs p q = O := ⟨_, rfl⟩
    rw [hZ] at hi hnl
    rw [hX, hY, hZ] at hvl h0 hch ⊢
    rw [hX', hY', hZ'] at hch ⊢
    rw [hZ'] at hnf
    rw [hO] at hch ⊢
    clear hX hY hZ hX' hY' hZ' hO hWb hCb hK hen
    have HNL := Lib.hid hnl
    have HNF := Lib.hid hnf
    clear hnl hnf
    obtain ⟨g0, g1, g2, g3, g4⟩ := cells5 h0.g
    go_enter Tryd.func33, Tryd.ntmps33
    go_wp2_with fail
    refine (hvl _ (he.below h0.be) (hi.below h0.be) (hT.below h0.be)).mono ?_
    rintro e w1 ⟨rfl, hb1⟩
    have h1 := h0.next hb1
    clear hb1 h0 g0 g1 g2 g3 g4
    obtain ⟨g0, g1, g2, g3, g4⟩ := cells5 h1.g
    go_wp2_with fail
    refine (had _ (he.below h1.be)).mono ?_
    rintro e w2 ⟨af, cf, rfl, hef, haf, hb2⟩
    have h2n := h1.next hb2
    have h2 := h2n.alloc (.cells #[.int .i64 m, .slice af fs.length cf] 27)
    have hGb := heap_alloc_new w2 (.cells #[.int .i64 m, .slice af fs.length cf] 27)
    have hbA := (Below.refl w2.heap.size w2).alloc (Nat.le_refl _) (.cells #[.int .i64 m, .slice af fs.length cf] 27)
    have hefA := hef.below hbA
    have haf2 : ∀ p, af = some p → w.heap.size + 2 ≤ p.block := fun p hp => by have := haf p hp; have := h1.base; omega
    clear hb2 h1 g0 g1 g2 g3 g4 h2n hbA haf hef had hvl
    obtain ⟨g0, g1, g2, g3, g4⟩ := cells5 h2.g
    obtain ⟨k0, k1⟩ := cell_two hGb
    go_wp2_with fail
    refine (hch (.slice af fs.length cf) af cf _ ⟨af, fs.length, cf, rfl⟩ hefA (hi.below h2.be) (hT.below h2.be)).mono ?_
    rintro e w3 ⟨g, cz, rfl, hI3, hg3, hb3⟩
    have h3 := h2.next hb3
    have hef3 := hefA.below hb3
    have hg2 : w.heap.size + 2 ≤ g := Nat.le_trans h2.base hg3
    clear hb3 g0 g1 g2 g3 g4 k0 k1 hGb h2 hch hefA
    obtain ⟨o0, o1, o2, o3, o4⟩ := cells5 h3.o
    obtain ⟨f0, f1, f2, f3, f4⟩ := frees5 h3.o
    have hbe := h3.be
    have HF := Lib.hid (set5_at h3.o (.int .i64 m) (.slice af fs.length cf) (.int .i64 X') (.int .i64 Y') (.slice (some ⟨g, 0, none⟩) m cz))
    have hI4 : IntsAt w3 (.slice (some ⟨g, 0, none⟩) Z'.length cz) Z' := by rw [HNF.out]; exact hI3
    have q : QIn w3 (w.heap.size + 2) af cf fs (some ⟨g, 0, none⟩) cz Z' := ⟨hef3, hI4, haf2, fun p h => by cases h; exact hg2⟩
    have HQ := Lib.hid ((q.grown (set5_grown w3 (w.heap.size + 1) (.int .i64 m) (.slice af fs.length cf) (.int .i64 X') (.int .i64 Y') (.slice (some ⟨g, 0, none⟩) m cz)) (fun k e => by cases e; omega)).mono (show w.heap.size ≤ w.heap.size + 2 by omega))
    have HB := Lib.hid (hbe.grown (set5_grown w3 (w.heap.size + 1) (.int .i64 m) (.slice af fs.length cf) (.int .i64 X') (.int .i64 Y') (.slice (some ⟨g, 0, none⟩) m cz)) hbe.size (fun k e => by cases e; omega))
    clear h3 hI3 hI4 q hef3 hbe
    go_wp2_with fail
    obtain ⟨t0, t1, t2, t3, t4⟩ := cells5 HF.out
    unfold set5 at t0 t1 t2 t3 t4
    exact bodyPost_ret (v := .tuple #[.agg #[.int .i64 m, .slice af fs.length cf, .int .i64 X', .int .i64 Y', .slice (some ⟨g, 0, none⟩) m cz], .int .i64 (O.length : Int), .int .i64 0]) (by simp [results, Tryd.results33, go_sem, t0, t1, t2, t3, t4]) rfl
      ⟨af, cf, some ⟨g, 0, none⟩, cz, by rw [HNF.out], HQ.out, HB.out⟩
end Go.Proofs.YtekbpoppajbljaaDoor

namespace Go.Proofs.YtekbpoppajbljaaDoor
open Go.RowKit Go.BigFrame

set_option maxRecDepth 100000 in
set_option maxHeartbeats 1600000 in
theorem lints_any (a a2 : Option Addr) (cap cap2 : Nat) (xs : List Int) (w : World) (h1 : IntsAt w (.slice a xs.length cap) xs) (h2 : IntsAt w (.slice a2 xs.length cap2) xs) :
    Calls Tryd.prog 36 #[.slice a xs.length cap, .slice a2 xs.length cap2] w fun e w' => e = .returned (.bool true) ∧ Below w.heap.size w w' := by
  have hl1 : xs.length ≤ 70368744177664 := by obtain ⟨_, _, _, _, _, h, _⟩ := h1; exact h
  go_enter Tryd.func36, Tryd.ntmps36
  go_wp2_with fail
  go_loopw [13] (fun i wr => ∃ k : Nat, k ≤ xs.length ∧ i = .int .i64 k ∧ Below w.heap.size w wr) (fun i _ => xs.length - (intOf i).toNat)
  case atStart => exact ⟨0, Nat.zero_le _, rfl, Below.refl _ _⟩
  case round =>
    obtain ⟨k, hk, rfl, hb⟩ := hrel
    by_cases hlt : k < xs.length
    · obtain ⟨b, off, x, rfl, hx, hd1, ht1, c0⟩ := (h1.below hb).at k hlt
      obtain ⟨b2, off2, y, rfl, hy, hd2, ht2, c1⟩ := (h2.below hb).at k hlt
      rw [hx] at hy
      cases hy
      have hi1 : (k : Int) < xs.length := by omega
      clear hx hd1 ht1 hd2 ht2
      go_wp2_with fail
      go_quiet (fail)
      go_wp2_with fail
      go_roundw
      case rel => exact ⟨k + 1, by omega, by go_num, hb.trans (((Below.refl _ wr).drewN _).mono hb.size)⟩
      case measure => simp [intOf]; omega
    · obtain rfl : k = xs.length := by omega
      go_wp2_with fail
      go_ret
      exact ⟨rfl, hb⟩
end Go.Proofs.YtekbpoppajbljaaDoor
