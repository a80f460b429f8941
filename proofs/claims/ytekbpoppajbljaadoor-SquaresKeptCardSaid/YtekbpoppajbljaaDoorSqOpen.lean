/- Boxes of a graph with its squares: a struct of five cells. The contract of opening a graph with its squares. The contracts of slices.Equal at numbers and of the check of a graph with its squares. -/
import Derived.Test.YtekbpoppajbljaaDoorGrAdd
import Derived.Test.YtekbpoppajbljaaDoorSqNums
namespace Go.Proofs.YtekbpoppajbljaaDoor
open Go.RowKit Go.BigFrame

/-- a whole struct of five cells is stored -/
def set5 (W : World) (g : Nat) (x0 x1 x2 x3 x4 : Value) : World := ((((W.setCell ⟨g, 0, none⟩ x0).setCell ⟨g, 1, none⟩ x1).setCell ⟨g, 2, none⟩ x2).setCell ⟨g, 3, none⟩ x3).setCell ⟨g, 4, none⟩ x4
theorem set5_grown (W : World) (g : Nat) (x0 x1 x2 x3 x4 : Value) : W.grownBy (set5 W g x0 x1 x2 x3 x4) (some g) := grown_trans (grown_trans (grown_trans (grown_trans grown_store grown_store) grown_store) grown_store) grown_store
theorem set5_at {W : World} {g T : Nat} {y0 y1 y2 y3 y4 : Value} (h : W.heap[g]? = some (.cells #[y0, y1, y2, y3, y4] T (0, 0))) (x0 x1 x2 x3 x4 : Value) : (set5 W g x0 x1 x2 x3 x4).heap[g]? = some (.cells #[x0, x1, x2, x3, x4] T (0, 0)) := by
  unfold set5
  rw [heap_setCell_same _ _ _ _ _ _ (heap_setCell_same _ _ _ _ _ _ (heap_setCell_same _ _ _ _ _ _ (heap_setCell_same _ _ _ _ _ _ (heap_setCell_same _ _ _ _ _ _ h))))]
  rfl
theorem set5_other (W : World) (g k : Nat) (x0 x1 x2 x3 x4 : Value) (h : k ≠ g) : (set5 W g x0 x1 x2 x3 x4).heap[k]? = W.heap[k]? := by
  unfold set5
  rw [Below.heap_setCell _ _ _ _ h, Below.heap_setCell _ _ _ _ h, Below.heap_setCell _ _ _ _ h, Below.heap_setCell _ _ _ _ h, Below.heap_setCell _ _ _ _ h]
theorem cell_set5 (W : World) (g k j : Nat) (x0 x1 x2 x3 x4 : Value) (h : k ≠ g) : (((((W.setCell ⟨g, 0, none⟩ x0).setCell ⟨g, 1, none⟩ x1).setCell ⟨g, 2, none⟩ x2).setCell ⟨g, 3, none⟩ x3).setCell ⟨g, 4, none⟩ x4).cell? ⟨k, j, none⟩ = W.cell? ⟨k, j, none⟩ := by
  have := set5_other W g k x0 x1 x2 x3 x4 h
  unfold set5 at this
  simp only [World.cell?, this]
theorem cells5 {w : World} {g T : Nat} {x y z u v : Value} (h : w.heap[g]? = some (.cells #[x, y, z, u, v] T (0, 0))) : w.cell? ⟨g, 0, none⟩ = some x ∧ w.cell? ⟨g, 1, none⟩ = some y ∧ w.cell? ⟨g, 2, none⟩ = some z ∧ w.cell? ⟨g, 3, none⟩ = some u ∧ w.cell? ⟨g, 4, none⟩ = some v :=
  ⟨by rw [cell_blk h]; rfl, by rw [cell_blk h]; rfl, by rw [cell_blk h]; rfl, by rw [cell_blk h]; rfl, by rw [cell_blk h]; rfl⟩
theorem frees5 {w : World} {g T : Nat} {cs : Array Value} (h : w.heap[g]? = some (.cells cs T (0, 0))) : w.frozen? ⟨g, 0, none⟩ = false ∧ w.frozen? ⟨g, 1, none⟩ = false ∧ w.frozen? ⟨g, 2, none⟩ = false ∧ w.frozen? ⟨g, 3, none⟩ = false ∧ w.frozen? ⟨g, 4, none⟩ = false :=
  ⟨free_blk h, free_blk h, free_blk h, free_blk h, free_blk h⟩
/-- the box of the argument, and the box of the result -/
structure Bx2 (w : World) (og : Obj) (y0 y1 y2 y3 y4 : Value) (T : Nat) (wr : World) : Prop where
  g : wr.heap[w.heap.size]? = some og
  o : wr.heap[w.heap.size + 1]? = some (.cells #[y0, y1, y2, y3, y4] T (0, 0))
  be : Below w.heap.size w wr
section
variable {w wr w' : World} {og : Obj} {y0 y1 y2 y3 y4 : Value} {T : Nat}
theorem Bx2.next (h : Bx2 w og y0 y1 y2 y3 y4 T wr) (hb : Below wr.heap.size wr w') : Bx2 w og y0 y1 y2 y3 y4 T w' := ⟨lit_next' hb h.g, lit_next' hb h.o, h.be.trans (hb.mono h.be.size)⟩
theorem Bx2.alloc (h : Bx2 w og y0 y1 y2 y3 y4 T wr) (o : Obj) : Bx2 w og y0 y1 y2 y3 y4 T (wr.alloc o) := h.next ((Below.refl _ _).alloc (Nat.le_refl _) _)
theorem Bx2.drew (h : Bx2 w og y0 y1 y2 y3 y4 T wr) : Bx2 w og y0 y1 y2 y3 y4 T wr.drew := h.next (Below.refl _ _).drew
theorem Bx2.grown {r : Option Nat} (h : Bx2 w og y0 y1 y2 y3 y4 T wr) (hg : wr.grownBy w' r) (hr : ∀ k, r = some k → w.heap.size + 2 ≤ k) : Bx2 w og y0 y1 y2 y3 y4 T w' :=
  ⟨grown_blk hg h.g (fun e => by have := hr _ e.symm; omega), grown_blk hg h.o (fun e => by have := hr _ e.symm; omega), h.be.grown hg h.be.size (fun k e => by have := hr k e; omega)⟩
theorem Bx2.base (h : Bx2 w og y0 y1 y2 y3 y4 T wr) : w.heap.size + 2 ≤ wr.heap.size := blk_lt h.o
theorem Bx2.start (w : World) (og : Obj) (y0 y1 y2 y3 y4 : Value) (T : Nat) : Bx2 w og y0 y1 y2 y3 y4 T ((w.alloc og).alloc (.cells #[y0, y1, y2, y3, y4] T)) := by
  have h1 := heap_alloc_new w og
  have h2 := heap_alloc_new (w.alloc og) (.cells #[y0, y1, y2, y3, y4] T)
  have hz : (w.alloc og).heap.size = w.heap.size + 1 := by simp
  rw [hz] at h2
  exact ⟨(Below.heap_alloc _ _ _ (blk_lt h1)).trans h1, h2, ((Below.refl _ _).alloc (Nat.le_refl _) _).alloc (by simp) _⟩
end
/-- the numbers and the graph are handed on -/
structure QIn (w : World) (b : Nat) (a : Option Addr) (cap : Nat) (es : List E2) (a2 : Option Addr) (c2 : Nat) (ns : List Int) : Prop where
  e : EdgesAt w (.slice a es.length cap) es
  i : IntsAt w (.slice a2 ns.length c2) ns
  ea : ∀ p, a = some p → b ≤ p.block
  ia : ∀ p, a2 = some p → b ≤ p.block
theorem QIn.grown {w w' : World} {b : Nat} {a : Option Addr} {cap : Nat} {es : List E2} {a2 : Option Addr} {c2 : Nat} {ns : List Int} {r : Option Nat} (h : QIn w b a cap es a2 c2 ns) (hg : w.grownBy w' r) (hr : ∀ k, r = some k → k < b) : QIn w' b a cap es a2 c2 ns :=
  ⟨h.e.grown hg (fun g e n c p ep => by have := h.ea p (Value.slice.inj ep).1; have := hr g e; omega), h.i.grown hg (fun g e n c p ep => by have := h.ia p (Value.slice.inj ep).1; have := hr g e; omega), h.ea, h.ia⟩
theorem QIn.below {w w' : World} {b : Nat} {a : Option Addr} {cap : Nat} {es : List E2} {a2 : Option Addr} {c2 : Nat} {ns : List Int} (h : QIn w b a cap es a2 c2 ns) (hb : Below w.heap.size w w') : QIn w' b a cap es a2 c2 ns := ⟨h.e.below hb, h.i.below hb, h.ea, h.ia⟩
theorem QIn.mono {w : World} {b b' : Nat} {a : Option Addr} {cap : Nat} {es : List E2} {a2 : Option Addr} {c2 : Nat} {ns : List Int} (h : QIn w b a cap es a2 c2 ns) (hb : b' ≤ b) : QIn w b' a cap es a2 c2 ns := ⟨h.e, h.i, fun p hp => Nat.le_trans hb (h.ea p hp), fun p hp => Nat.le_trans hb (h.ia p hp)⟩
theorem ints_nil (w : World) : IntsAt w (.slice none 0 0) [] := ⟨none, 0, rfl, Nat.le_refl _, fun _ => rfl, by simp, fun i e h => by simp at h⟩
theorem QIn.void (w : World) (b : Nat) : QIn w b none 0 [] none 0 [] := ⟨edges_nil w, ints_nil w, (fun p h => by cases h), (fun p h => by cases h)⟩
/-- a graph with its squares -/
structure Qd where
  n : Int
  es : List E2
  wd : Int
  ct : Int
  ns : List Int
def Qd.zero : Qd := ⟨0, [], 0, 0, []⟩
/-- a graph with its squares is handed back, and more -/
def QPost (w : World) (q : Qd) (more : List Value) (e : Ending) (w' : World) : Prop :=
  ∃ a cap a2 c2, e = .returned (.tuple (.agg #[.int .i64 q.n, .slice a q.es.length cap, .int .i64 q.wd, .int .i64 q.ct, .slice a2 q.ns.length c2] :: more).toArray) ∧ QIn w' w.heap.size a cap q.es a2 c2 q.ns ∧ Below w.heap.size w w'
end Go.Proofs.YtekbpoppajbljaaDoor

namespace Go.Proofs.YtekbpoppajbljaaDoor
open Go.RowKit Go.BigFrame

def sqL (es : List E2) (n : Nat) : List Int := sqV es n n 0
theorem sqL_length (es : List E2) (n : Nat) : (sqL es n).length = n := sqV_length es n n 0
theorem sqL_get (es : List E2) (n i : Nat) (h : i < n) : (sqL es n)[i]? = some (sqN es n i n) := by unfold sqL; rw [sqV_get _ _ _ _ _ h, if_pos h]
/-- the graph with its numbers -/
def quadN (n : Nat) (es : List E2) : Qd := ⟨n, es, wedS es n, sqT es n n / 4, sqL es n⟩
def openX (n : Int) (es : List E2) : Qd × Int := if checkS n es ≠ 0 then (Qd.zero, checkS n es) else (quadN n.toNat es, 0)
set_option maxRecDepth 100000 in
set_option maxHeartbeats 3200000 in
theorem sqopen_any (n : Int) (a : Option Addr) (cap : Nat) (es : List E2) (w : World) (he : EdgesAt w (.slice a es.length cap) es) (hl : es.length ≤ 100000) (hT : TzAt w) :
    Calls Tryd.prog 30 #[.agg #[.int .i64 n, .slice a es.length cap]] w (QPost w (openX n es).1 [.int .i64 (openX n es).2]) := by
  have h0 := Bx2.start w (.cells #[.int .i64 n, .slice a es.length cap] 27) (.int .i64 0) (.slice none 0 0) (.int .i64 0) (.int .i64 0) (.slice none 0 0) 46
  have hck := fun W h => gcheck_any n a cap es W h
  unfold openX
  obtain ⟨C, hC⟩ : ∃ C, checkS n es = C := ⟨_, rfl⟩
  rw [hC] at hck ⊢
  by_cases hz : C = 0
  case neg =>
    rw [if_pos hz]
    have d1 : (C != 0) = true := by simpa using hz
    clear hC hz
    go_enter Tryd.func30, Tryd.ntmps30
    go_wp2_with fail
    refine (hck _ (he.below h0.be)).mono ?_
    rintro e w1 ⟨rfl, hb1⟩
    have h1 := h0.next hb1
    clear hb1 h0
    obtain ⟨o0, o1, o2, o3, o4⟩ := cells5 h1.o
    obtain ⟨f0, f1, f2, f3, f4⟩ := frees5 h1.o
    have hbe := h1.be
    have hfin := set5_at h1.o (.int .i64 0) (.slice none 0 0) (.int .i64 0) (.int .i64 0) (.slice none 0 0)
    have HF := Lib.hid hfin
    clear h1 hck hfin
    go_wp2_with fail
    obtain ⟨t0, t1, t2, t3, t4⟩ := cells5 HF.out
    unfold set5 at t0 t1 t2 t3 t4
    exact bodyPost_ret (v := .tuple #[.agg #[.int .i64 0, .slice none 0 0, .int .i64 0, .int .i64 0, .slice none 0 0], .int .i64 C]) (by simp [results, Tryd.results30, go_sem, t0, t1, t2, t3, t4]) rfl
      ⟨none, 0, none, 0, rfl, QIn.void _ _, hbe.grown (set5_grown w1 (w.heap.size + 1) (.int .i64 0) (.slice none 0 0) (.int .i64 0) (.int .i64 0) (.slice none 0 0)) hbe.size (fun k e => by cases e; omega)⟩
  subst hz
  have hv := (valid_iff n es).1 hC
  rw [if_neg (by simp)]
  clear hC
  obtain ⟨n, rfl⟩ := Int.eq_ofNat_of_zero_le hv.1
  rw [Int.toNat_natCast]
  have hel := hv.length_le
  unfold quadN
  dsimp only
  have hwd := fun W h => wedges_any n a cap es W h hv
  have hct := fun W h t => counts_any n a cap es W h hv t
  have hnl := sqL_length es n
  change ∀ W h t, Calls _ _ _ _ fun e w' => ∃ g, e = .returned (.tuple #[.int .i64 (sqT es n n / 4), .slice (some ⟨g, 0, none⟩) n n]) ∧ W.heap.size ≤ g ∧ NumAt w' g (sqL es n) ∧ Below W.heap.size W w' at hct
  obtain ⟨X, hX⟩ : ∃ X, wedS es n = X := ⟨_, rfl⟩
  obtain ⟨Y, hY⟩ : ∃ Y, sqT es n n / 4 = Y := ⟨_, rfl⟩
  obtain ⟨Z, hZ⟩ : ∃ Z, sqL es n = Z := ⟨_, rfl⟩
  rw [hX] at hwd ⊢
  rw [hY] at hct ⊢
  rw [hZ] at hct hnl ⊢
  clear hX hY hZ
  have hn64 : n ≤ 64 := by have := hv.2.1; omega
  go_enter Tryd.func30, Tryd.ntmps30
  go_wp2_with fail
  refine (hck _ (he.below h0.be)).mono ?_
  rintro e w1 ⟨rfl, hb1⟩
  have h1 := h0.next hb1
  clear hb1 h0
  have g0 := cell_blk (j := 0) h1.g
  have g1 := cell_blk (j := 1) h1.g
  go_wp2_with fail
  refine (hct _ (he.below h1.be) (hT.below h1.be)).mono ?_
  rintro e w2 ⟨g, rfl, hg, hN, hb2⟩
  have hw1 := h1.base
  have h2 := (h1.next hb2).drew
  have hcx : ∀ W : World, Bx2 w (.cells #[.int .i64 n, .slice a es.length cap] 27) (.int .i64 0) (.slice none 0 0) (.int .i64 0) (.int .i64 0) (.slice none 0 0) 46 W → W.cell? ⟨w.heap.size, 0, none⟩ = some (.int .i64 n) ∧ W.cell? ⟨w.heap.size, 1, none⟩ = some (.slice a es.length cap) := fun W h => ⟨cell_blk h.g, cell_blk h.g⟩
  have hNd : NumAt w2.drew g Z := hN
  have hb2s := hb2.size
  clear hb2 g0 g1 hck hct h1 hN
  have g0 := cell_blk (j := 0) h2.g
  have g1 := cell_blk (j := 1) h2.g
  have hrow := (he.below h2.be).row (by omega)
  have hgz := blk_lt hNd
  obtain ⟨v2, hv2⟩ : ∃ W : World, W = w2.drew := ⟨_, rfl⟩
  have HV2 := Lib.hid hv2
  go_wp2_with fail
  go_region_held3 (fun w' => w'.cell? ⟨w.heap.size, 0, none⟩ = some (.int .i64 n) ∧ w'.cell? ⟨w.heap.size, 1, none⟩ = some (.slice a es.length cap))
    (first
      | with_reducible exact hcx _ h5
      | with_reducible exact hcx _ h4
      | with_reducible exact hcx _ h2
      | with_reducible exact hcxF)
    (first
      | (go_at_call 63; (with_reducible refine (geclone_any _ es _ hrow (by omega)).mono ?_); rintro e w4 ⟨x4, rfl, hown4, hb4⟩; obtain ⟨a4, c4, rfl, he4, ha4⟩ := EdgesAt.of_owns hown4 (by omega); have h4 := h2.next hb4)
      | (go_at_call 59; (with_reducible refine (hwd w4 (he.below h4.be)).mono ?_); rintro e w5 ⟨rfl, hb5⟩; have h5 := h4.next hb5; obtain ⟨p0, p1, p2, p3, p4⟩ := cells5 h5.o; obtain ⟨q0, q1, q2, q3, q4⟩ := frees5 h5.o; have hcxF : _ ∧ _ := And.intro ((cell_set5 w5 (w.heap.size + 1) w.heap.size 0 (.int .i64 n) (.slice a4 es.length c4) (.int .i64 X) (.int .i64 Y) (.slice (some ⟨g, 0, none⟩) n n) (by omega)).trans (hcx _ h5).1) ((cell_set5 w5 (w.heap.size + 1) w.heap.size 1 (.int .i64 n) (.slice a4 es.length c4) (.int .i64 X) (.int .i64 Y) (.slice (some ⟨g, 0, none⟩) n n) (by omega)).trans (hcx _ h5).2)))
  have HQ : QIn (set5 w5 (w.heap.size + 1) (.int .i64 n) (.slice a4 es.length c4) (.int .i64 X) (.int .i64 Y) (.slice (some ⟨g, 0, none⟩) n n)) w.heap.size a4 c4 es (some ⟨g, 0, none⟩) Z.length Z := by
    have hN4 := hNd.below hb4
    have hN5 := hN4.below hb5
    have q : QIn w5 (w.heap.size + 2) a4 c4 es (some ⟨g, 0, none⟩) Z.length Z := ⟨he4.below hb5, NumAt.ints hN5 (by omega), fun p h => by have := ha4 p h; have hd : w2.drew.heap.size = w2.heap.size := rfl; omega, fun p h => by cases h; show w.heap.size + 2 ≤ g; omega⟩
    exact (q.grown (set5_grown _ _ _ _ _ _ _) (fun k e => by cases e; omega)).mono (by omega)
  have HB : Below w.heap.size w (set5 w5 (w.heap.size + 1) (.int .i64 n) (.slice a4 es.length c4) (.int .i64 X) (.int .i64 Y) (.slice (some ⟨g, 0, none⟩) n n)) := h5.be.grown (set5_grown _ _ _ _ _ _ _) h5.be.size (fun k e => by cases e; omega)
  have hfin := set5_at h5.o (.int .i64 n) (.slice a4 es.length c4) (.int .i64 X) (.int .i64 Y) (.slice (some ⟨g, 0, none⟩) n n)
  obtain ⟨t0, t1, t2, t3, t4⟩ := cells5 hfin
  unfold set5 at t0 t1 t2 t3 t4
  have HQQ := Lib.hid HQ
  have HBB := Lib.hid HB
  clear HQ HB hfin hcxF hcx h5 h4 h2
  go_wp2_with fail
  exact bodyPost_ret (v := .tuple #[.agg #[.int .i64 n, .slice a4 es.length c4, .int .i64 X, .int .i64 Y, .slice (some ⟨g, 0, none⟩) n n], .int .i64 0]) (by simp [results, Tryd.results30, go_sem, t0, t1, t2, t3, t4]) rfl
    ⟨a4, c4, some ⟨g, 0, none⟩, Z.length, by rw [hnl], HQQ.out, HBB.out⟩
end Go.Proofs.YtekbpoppajbljaaDoor

namespace Go.Proofs.YtekbpoppajbljaaDoor
open Go.RowKit Go.BigFrame

set_option maxRecDepth 100000 in
set_option maxHeartbeats 1600000 in
theorem sequal_any (a a2 : Option Addr) (cap cap2 : Nat) (xs ys : List Int) (w : World) (h1 : IntsAt w (.slice a xs.length cap) xs) (h2 : IntsAt w (.slice a2 ys.length cap2) ys) :
    Calls Tryd.prog 68 #[.slice a xs.length cap, .slice a2 ys.length cap2] w fun e w' => e = .returned (.bool (decide (xs = ys))) ∧ Below w.heap.size w w' := by
  have hl1 : xs.length ≤ 70368744177664 := by obtain ⟨_, _, _, _, _, h, _⟩ := h1; exact h
  have hl2 : ys.length ≤ 70368744177664 := by obtain ⟨_, _, _, _, _, h, _⟩ := h2; exact h
  by_cases hl : xs.length = ys.length
  case neg =>
    have d2 : ((xs.length : Int) != (ys.length : Int)) = true := by simp; omega
    have hr : decide (xs = ys) = false := decide_eq_false fun h => hl (by rw [h])
    rw [hr]
    clear hl hr
    go_enter Tryd.func68, Tryd.ntmps68
    go_wp2_with fail
    go_ret
    exact ⟨rfl, Below.refl _ _⟩
  have d2 : ((xs.length : Int) != (ys.length : Int)) = false := by simp; omega
  obtain ⟨R, hR⟩ : ∃ R, decide (xs = ys) = R := ⟨_, rfl⟩
  rw [hR]
  have HR := Lib.hid hR
  have HLN := Lib.hid hl
  have hlen : ys.length ≤ xs.length ∧ xs.length ≤ ys.length := by omega
  clear hR hl
  go_enter Tryd.func68, Tryd.ntmps68
  go_wp2_with fail
  go_loopw [13] (fun i wr => ∃ k : Nat, k ≤ xs.length ∧ i = .int .i64 k ∧ Hid (xs.take k = ys.take k) ∧ Below w.heap.size w wr) (fun i _ => xs.length - (intOf i).toNat)
  case atStart => exact ⟨0, Nat.zero_le _, rfl, rfl, Below.refl _ _⟩
  case round =>
    obtain ⟨k, hk, rfl, HT, hb⟩ := hrel
    by_cases hlt : k < xs.length
    · have hlt2 : k < ys.length := by omega
      obtain ⟨b, off, x, rfl, hx, hd1, ht1, c0⟩ := (h1.below hb).at k hlt
      obtain ⟨b2, off2, y, rfl, hy, hd2, ht2, c1⟩ := (h2.below hb).at k hlt2
      have hi1 : (k : Int) < xs.length := by omega
      have hi2 : (k : Int) < ys.length := by omega
      by_cases hxy : x = y
      · have dxy : (x != y) = false := by simpa using hxy
        have HT2 : Hid (xs.take (k + 1) = ys.take (k + 1)) := by show _ = _; rw [ht1, ht2, HT.out, hxy]
        clear hx hy hd1 hd2 ht1 ht2 HT hxy
        go_wp2_with fail
        go_quiet (fail)
        go_wp2_with fail
        go_roundw
        case rel => exact ⟨k + 1, by omega, by go_num, HT2, hb.trans (((Below.refl _ wr).drewN _).mono hb.size)⟩
        case measure => simp [intOf]; omega
      · have dxy : (x != y) = true := by simpa using hxy
        have hRf : R = false := by
          rw [← HR.out]
          refine decide_eq_false fun h => hxy ?_
          rw [h, hy] at hx
          exact (Option.some.inj hx).symm
        subst hRf
        clear hx hy hd1 hd2 ht1 ht2 HT hxy
        go_wp2_with fail
        go_quiet (fail)
        go_wp2_with fail
        go_ret
        exact ⟨rfl, hb.trans (((Below.refl _ wr).drewN _).mono hb.size)⟩
    · obtain rfl : k = xs.length := by omega
      have hRt : R = true := by
        rw [← HR.out]
        refine decide_eq_true ?_
        have h := HT.out
        rw [List.take_length, HLN.out, List.take_length] at h
        exact h
      subst hRt
      go_wp2_with fail
      go_ret
      exact ⟨rfl, hb⟩
/-- whether numbers are those of the graph -/
def sqOk (q : Qd) : Bool := (checkS q.n q.es == 0) && ((q.wd == wedS q.es q.n.toNat) && ((q.ct == sqT q.es q.n.toNat q.n.toNat / 4) && decide (q.ns = sqL q.es q.n.toNat)))
theorem sqOk_iff (q : Qd) : sqOk q = true ↔ ∃ n : Nat, Valid n q.es ∧ q = quadN n q.es := by
  obtain ⟨n, es, wd, ct, ns⟩ := q
  unfold sqOk quadN
  dsimp only
  simp only [Bool.and_eq_true, beq_iff_eq, decide_eq_true_eq]
  constructor
  · rintro ⟨h0, h1, h2, h3⟩
    have hv := (valid_iff n es).1 h0
    obtain ⟨m, rfl⟩ := Int.eq_ofNat_of_zero_le hv.1
    rw [Int.toNat_natCast] at h1 h2 h3
    exact ⟨m, hv, by rw [← h1, ← h2, ← h3]⟩
  · rintro ⟨m, hv, h⟩
    obtain ⟨rfl, -, rfl, rfl, rfl⟩ := Qd.mk.inj h
    rw [Int.toNat_natCast]
    exact ⟨(valid_iff _ _).2 hv, rfl, rfl, rfl⟩
set_option maxRecDepth 100000 in
set_option maxHeartbeats 6400000 in
theorem sqvalid_any (n wd ct : Int) (a a2 : Option Addr) (cap c2 : Nat) (es : List E2) (ns : List Int) (w : World) (he : EdgesAt w (.slice a es.length cap) es) (hi : IntsAt w (.slice a2 ns.length c2) ns) (hT : TzAt w) :
    Calls Tryd.prog 35 #[.agg #[.int .i64 n, .slice a es.length cap, .int .i64 wd, .int .i64 ct, .slice a2 ns.length c2]] w fun e w' => e = .returned (.bool (sqOk ⟨n, es, wd, ct, ns⟩)) ∧ Below w.heap.size w w' := by
  have hb0 : Below w.heap.size w (w.alloc (.cells #[.int .i64 n, .slice a es.length cap, .int .i64 wd, .int .i64 ct, .slice a2 ns.length c2] 46)) := (Below.refl _ _).alloc (Nat.le_refl _) _
  have hG0 := heap_alloc_new w (.cells #[.int .i64 n, .slice a es.length cap, .int .i64 wd, .int .i64 ct, .slice a2 ns.length c2] 46)
  have hck := fun W h => gcheck_any n a cap es W h
  unfold sqOk
  dsimp only
  obtain ⟨C, hC⟩ : ∃ C, checkS n es = C := ⟨_, rfl⟩
  rw [hC] at hck ⊢
  by_cases hz : C = 0
  case neg =>
    have d1 : (C != 0) = true := by simpa using hz
    have d2 : (C == 0) = false := by simpa using hz
    rw [d2, Bool.false_and]
    clear hC hz d2
    obtain ⟨g0, g1, g2, g3, g4⟩ := cells5 hG0
    go_enter Tryd.func35, Tryd.ntmps35
    go_wp2_with fail
    refine (hck _ (he.below hb0)).mono ?_
    rintro e w1 ⟨rfl, hb1⟩
    go_wp2_with fail
    go_ret
    exact ⟨rfl, hb0.trans (hb1.mono hb0.size)⟩
  subst hz
  have hv := (valid_iff n es).1 hC
  rw [show ((0 : Int) == 0) = true from rfl, Bool.true_and]
  clear hC
  obtain ⟨n, rfl⟩ := Int.eq_ofNat_of_zero_le hv.1
  rw [Int.toNat_natCast]
  have hwd := fun W h => wedges_any n a cap es W h hv
  have hct := fun W h t => counts_any n a cap es W h hv t
  have hnl := sqL_length es n
  change ∀ W h t, Calls _ _ _ _ fun e w' => ∃ g, e = .returned (.tuple #[.int .i64 (sqT es n n / 4), .slice (some ⟨g, 0, none⟩) n n]) ∧ W.heap.size ≤ g ∧ NumAt w' g (sqL es n) ∧ Below W.heap.size W w' at hct
  have heq := fun b W h => sequal_any a2 (some ⟨b, 0, none⟩) c2 n ns (sqL es n) W h
  rw [hnl] at heq
  obtain ⟨X, hX⟩ : ∃ X, wedS es n = X := ⟨_, rfl⟩
  obtain ⟨Y, hY⟩ : ∃ Y, sqT es n n / 4 = Y := ⟨_, rfl⟩
  obtain ⟨Z, hZ⟩ : ∃ Z, sqL es n = Z := ⟨_, rfl⟩
  rw [hX] at hwd ⊢
  rw [hY] at hct ⊢
  rw [hZ] at hct hnl heq ⊢
  obtain ⟨D1, hD1⟩ : ∃ D, (wd == X) = D := ⟨_, rfl⟩
  obtain ⟨D2, hD2⟩ : ∃ D, (ct == Y) = D := ⟨_, rfl⟩
  obtain ⟨D3, hD3⟩ : ∃ D, decide (ns = Z) = D := ⟨_, rfl⟩
  rw [hD1, hD2, hD3]
  rw [hD3] at heq
  clear hX hY hZ hD3
  have hn64 : n ≤ 64 := by have := hv.2.1; omega
  obtain ⟨g0, g1, g2, g3, g4⟩ := cells5 hG0
  go_enter Tryd.func35, Tryd.ntmps35
  go_wp2_with fail
  refine (hck _ (he.below hb0)).mono ?_
  rintro e w1 ⟨rfl, hb1⟩
  have hb01 := hb0.trans (hb1.mono hb0.size)
  have hG1 := lit_next' hb1 hG0
  clear hb1 g0 g1 g2 g3 g4 hG0
  obtain ⟨g0, g1, g2, g3, g4⟩ := cells5 hG1
  go_wp2_with fail
  refine (hct _ (he.below hb01) (hT.below hb01)).mono ?_
  rintro e w2 ⟨g, rfl, hg, hN, hb2⟩
  have hb02 := hb01.trans (hb2.mono hb01.size)
  have hG2 := lit_next' hb2 hG1
  clear g0 g1 g2 g3 g4 hG1 hct hck hb2
  have he2 := he.below hb02
  have hi2 := hi.below hb02
  have hZi : IntsAt w2 (.slice (some ⟨g, 0, none⟩) n n) Z := by
    have := NumAt.ints hN (by omega)
    rw [hnl] at this
    exact this
  obtain ⟨k0, k1, k2, k3, k4⟩ := cells5 hG2
  have xt : ∀ (j : Nat) (v : Value), w2.cell? ⟨w.heap.size, j, none⟩ = some v → ∀ z : Ext w2.heap.size w2, z.world.cell? ⟨w.heap.size, j, none⟩ = some v := fun j v h z => (z.below.cell (p := ⟨w.heap.size, j, none⟩) (cell_lt h)).trans h
  have e0 := xt _ _ k0
  have e1 := xt _ _ k1
  have e2 := xt _ _ k2
  have e3 := xt _ _ k3
  have e4 := xt _ _ k4
  have hwz := fun z : Ext w2.heap.size w2 => hwd z.world (he2.below z.below)
  have hez := fun z : Ext w2.heap.size w2 => heq g z.world (hi2.below z.below) (hZi.below z.below)
  clear k0 k1 k2 k3 k4 xt hwd heq hN hv
  cases D1 <;> cases D2 <;> cases D3
  all_goals
    go_wp2_with fail
    refine wp_region_ext w2.heap.size w2 (by kernel_rfl) (by kernel_rfl) (Below.refl _ _) ?_
    try simp only [List.append_eq, List.cons_append, List.nil_append]
    repeat (any_goals (go_big_quiet_step (first | (go_at_call 59; exact Calls.ext_of (Nat.le_refl _) (hwz _)) | (go_at_call 68; exact Calls.ext_of (Nat.le_refl _) (hez _)))))
    refine wpQuiet_nil ?_
    rintro _ ⟨⟨wq, hq⟩, rfl⟩
    clear e0 e1 e2 e3 e4 hwz hez
    go_wp2_with fail
    go_ret
    exact ⟨rfl, hb02.trans (hq.mono hb02.size)⟩
end Go.Proofs.YtekbpoppajbljaaDoor
