/- The contract of copying a world (printed by wip/mkcopy.py). -/
import Derived.Test.YtdkmdcdoiaelfaaGreatRdTell
namespace Go.Proofs.YtdkmdcdoiaelfaaGreat
open Go.RowKit Go.BigFrame

theorem cells7 {w : World} {g T : Nat} {c0 c1 c2 c3 c4 c5 c6 : Value} (h : w.heap[g]? = some (.cells #[c0, c1, c2, c3, c4, c5, c6] T (0, 0))) : w.cell? ⟨g, 0, none⟩ = some c0 ∧ w.cell? ⟨g, 1, none⟩ = some c1 ∧ w.cell? ⟨g, 2, none⟩ = some c2 ∧ w.cell? ⟨g, 3, none⟩ = some c3 ∧ w.cell? ⟨g, 4, none⟩ = some c4 ∧ w.cell? ⟨g, 5, none⟩ = some c5 ∧ w.cell? ⟨g, 6, none⟩ = some c6 := ⟨cell_blk h, cell_blk h, cell_blk h, cell_blk h, cell_blk h, cell_blk h, cell_blk h⟩
theorem set7 {w : World} {g T : Nat} {c0 c1 c2 c3 c4 c5 c6 : Value} (h : w.heap[g]? = some (.cells #[c0, c1, c2, c3, c4, c5, c6] T (0, 0))) (v : Value) :
    (w.setCell ⟨g, 1, none⟩ v).heap[g]? = some (.cells #[c0, v, c2, c3, c4, c5, c6] T (0, 0)) ∧ (w.setCell ⟨g, 3, none⟩ v).heap[g]? = some (.cells #[c0, c1, c2, v, c4, c5, c6] T (0, 0)) ∧ (w.setCell ⟨g, 4, none⟩ v).heap[g]? = some (.cells #[c0, c1, c2, c3, v, c5, c6] T (0, 0)) ∧
    (w.setCell ⟨g, 5, none⟩ v).heap[g]? = some (.cells #[c0, c1, c2, c3, c4, v, c6] T (0, 0)) ∧ (w.setCell ⟨g, 6, none⟩ v).heap[g]? = some (.cells #[c0, c1, c2, c3, c4, c5, v] T (0, 0)) := by
  refine ⟨?_, ?_, ?_, ?_, ?_⟩ <;> (rw [heap_setCell_same _ _ _ _ _ _ h]; rfl)
theorem set7all {w : World} {g T : Nat} {c0 c1 c2 c3 c4 c5 c6 d0 d1 d2 d3 d4 d5 d6 : Value} (h : w.heap[g]? = some (.cells #[c0, c1, c2, c3, c4, c5, c6] T (0, 0))) :
    (((((((w.setCell ⟨g, 0, none⟩ d0).setCell ⟨g, 1, none⟩ d1).setCell ⟨g, 2, none⟩ d2).setCell ⟨g, 3, none⟩ d3).setCell ⟨g, 4, none⟩ d4).setCell ⟨g, 5, none⟩ d5).setCell ⟨g, 6, none⟩ d6).heap[g]? = some (.cells #[d0, d1, d2, d3, d4, d5, d6] T (0, 0)) := by
  have h0 := heap_setCell_same _ _ 0 _ _ d0 h
  have h1 := heap_setCell_same _ _ 1 _ _ d1 h0
  have h2 := heap_setCell_same _ _ 2 _ _ d2 h1
  have h3 := heap_setCell_same _ _ 3 _ _ d3 h2
  have h4 := heap_setCell_same _ _ 4 _ _ d4 h3
  have h5 := heap_setCell_same _ _ 5 _ _ d5 h4
  have h6 := heap_setCell_same _ _ 6 _ _ d6 h5
  rw [h6]; rfl
theorem set7_grown (w : World) (g : Nat) (d0 d1 d2 d3 d4 d5 d6 : Value) : w.grownBy (((((((w.setCell ⟨g, 0, none⟩ d0).setCell ⟨g, 1, none⟩ d1).setCell ⟨g, 2, none⟩ d2).setCell ⟨g, 3, none⟩ d3).setCell ⟨g, 4, none⟩ d4).setCell ⟨g, 5, none⟩ d5).setCell ⟨g, 6, none⟩ d6) (some g) :=
  grown_trans (grown_trans (grown_trans (grown_trans (grown_trans (grown_trans grown_store grown_store) grown_store) grown_store) grown_store) grown_store) grown_store
/-- a row that is not empty, and its block -/
theorem ownsP_at {α : Type} {w : World} {base T : Nat} {v : Value} {L : List (Sl × α)} (h : w.ownsRow base T (encP α).k v L.length (flatR (encP α) L)) (hn : 0 < L.length) : ∃ g cap cur, v = .slice (some ⟨g, 0, none⟩) L.length cap ∧ base ≤ g ∧ L.length ≤ cap ∧ w.heap[g]? = some (.cells cur T (0, 0)) ∧ L.length ≤ cur.size ∧ ∀ i p, L[i]? = some p → w.cell? ⟨g, i, none⟩ = some (slV p.1) := by
  obtain ⟨hl, ⟨rfl, h0⟩ | ⟨g, cp, cur, rfl, hg, hh, hc1, hc2, hsz, htk⟩⟩ := h
  · omega
  · have hk : (encP α).k = 1 := rfl
    rw [hk, Nat.mul_one] at htk hsz
    refine ⟨g, cp, cur, rfl, hg, hc1, hh, by omega, fun i p hi => ?_⟩
    rw [cell_blk hh]
    have hlt := (List.getElem?_eq_some_iff.1 hi).1
    have h1 := flatR_get (encP α) L i p hi 0 (slV p.1) rfl
    rw [hk, Nat.mul_one, Nat.add_zero, ← htk, List.getElem?_take, if_pos hlt] at h1
    simpa using h1
/-- the cells of a copy: known rows; boxes of the workers before i, and the first k of worker i -/
def CpI (P i k : Nat) (x : Ix) : Prop := (x.1 = 0 ∧ x.2 < P) ∨ (2 ≤ x.1 ∧ x.2 < P ∧ (x.1 < i + 2 ∨ (x.1 = i + 2 ∧ x.2 < k)))
def CpK (j : Nat) (x : Ix) : Prop := x.1 = 0 ∧ x.2 < j
def CpA (KB : Nat) (R : Nat → Nat) (x : Ix) : Nat × Nat := match x.1 with
  | 0 => (KB, x.2)
  | 1 => (0, 0)
  | r + 2 => (R r, x.2)
/-- the memory of a world of which all is one's own: rows of known values, outer and inner boxes -/
structure OwnW (w : World) (lo P KB BB cK cB : Nat) (R cR : Nat → Nat) (vs : Ix → Value) (K : Nat → List Int) (B : Nat → Nat → List Msg) : Prop where
  grid : GW w lo (CpI P P 0) (CpA KB R) vs K (fun _ => []) B
  out : ∀ r, r < P → w.cell? ⟨BB, r, none⟩ = some (.slice (some ⟨R r, 0, none⟩) P (cR r)) ∧ P ≤ cR r
  cK : P ≤ cK
  cB : P ≤ cB
  low : lo ≤ BB
  offA : ∀ x, CpI P P 0 x → (CpA KB R x).1 ≠ BB
  offV : ∀ x, CpI P P 0 x → (vs x).ownBlock ≠ some BB
def knF (kn : List (List Int)) (j : Nat) : List Int := kn.getD j []
def bxF (bx : List (List (List Msg))) (r t : Nat) : List Msg := (bx.getD r []).getD t []
theorem GW.ins {w w1 : World} {lo : Nat} {I J : Ix → Prop} {ad : Ix → Nat × Nat} {vs : Ix → Value} {K N : Nat → List Int} {B : Nat → Nat → List Msg} {j : Ix} {v u : Value} (h : GW w lo I ad vs K N B) (hj : ¬ I j) (hb : Below w.heap.size w w1) (hown : w1.ownsRow w.heap.size (TEf j) (kkf j) v (lenF K N B j) (csF K N B j))
    (hc : w.cell? ⟨(ad j).1, (ad j).2, none⟩ = some u) (hf : w.frozen? ⟨(ad j).1, (ad j).2, none⟩ = false) (hl : lo ≤ (ad j).1) (hls : lo ≤ w.heap.size) (ho : ∀ i, I i → (vs i).ownBlock ≠ some (ad j).1) (hd : ∀ i, I i → ad i ≠ ad j) (hJ : ∀ i, J i → I i ∨ i = j) :
    GW (w1.setCell ⟨(ad j).1, (ad j).2, none⟩ v) lo J ad (updX vs j v) K N B := by
  refine GridA.sub ((GridA.insert h hj hb hown hc hf hl hls ho hd).congr (fun i _ => ?_) (fun i _ => ?_)) hJ
  all_goals
    unfold updX
    by_cases e : i = j
    · rw [if_pos e, e]
    · rw [if_neg e]
/-- a slice that lies below lo -/
def LowV (lo : Nat) (v : Value) : Prop := ∀ n c p, v = .slice (some p) n c → p.block < lo
/-- a slice that lies below lo, and not below a -/
def MidV (a lo : Nat) (v : Value) : Prop := ∀ n c p, v = .slice (some p) n c → a ≤ p.block ∧ p.block < lo
theorem MidV.low {a lo : Nat} {v : Value} (h : MidV a lo v) : LowV lo v := fun n c p e => (h n c p e).2
theorem Fr.edges {D : Nat → Prop} {w w1 : World} {v : Value} {es : List E2} (h : Fr D w w1) (hi : EdgesAt w v es) (hd : ∀ n c p, v = .slice (some p) n c → ¬ D p.block) : EdgesAt w1 v es := by
  obtain ⟨a, cap, rfl, h1, h2, h3, h4⟩ := hi
  refine ⟨a, cap, rfl, h1, h2, h3, fun i e he => ?_⟩
  obtain ⟨b, off, rfl, c0, c1⟩ := h4 i e he
  exact ⟨b, off, rfl, h.cell c0 (hd _ _ _ rfl), h.cell c1 (hd _ _ _ rfl)⟩
def CopyPost (w : World) (n : Int) (P : Nat) (es : List E2) (ow hv : List Int) (kn : List (List Int)) (bx : List (List (List Msg))) (e : Ending) (w' : World) : Prop :=
  ∃ ae ao ah ce co ch lo KB BB cK cB R cR vs, e = .returned (.agg #[.int .i64 n, .slice ae es.length ce, .int .i64 P, .slice ao ow.length co, .slice ah hv.length ch, .slice (some ⟨KB, 0, none⟩) P cK, .slice (some ⟨BB, 0, none⟩) P cB]) ∧ EdgesAt w' (.slice ae es.length ce) es ∧ IntsAt w' (.slice ao ow.length co) ow ∧ IntsAt w' (.slice ah hv.length ch) hv ∧
    MidV w.heap.size lo (.slice ae es.length ce) ∧ MidV w.heap.size lo (.slice ao ow.length co) ∧ MidV w.heap.size lo (.slice ah hv.length ch) ∧ w.heap.size ≤ lo ∧ lo ≤ w'.heap.size ∧ OwnW w' lo P KB BB cK cB R cR vs (knF kn) (bxF bx) ∧ Below w.heap.size w w'
set_option linter.unusedSimpArgs false in
set_option maxRecDepth 100000 in
set_option maxHeartbeats 6400000 in
theorem rdcopy_any (n : Int) (P : Nat) (es : List E2) (ow hv : List Int) (kn : List (List Int)) (bx : List (List (List Msg))) (ae ao ah ak ab : Option Addr) (ce co ch ck cb : Nat) (w : World) (hP1 : 1 ≤ P) (hP : P ≤ 64) (he : EdgesAt w (.slice ae es.length ce) es) (hel : es.length ≤ 1000000) (ho : IntsAt w (.slice ao ow.length co) ow) (hol : ow.length ≤ 1000000)
    (hh : IntsAt w (.slice ah hv.length ch) hv) (hhl : hv.length ≤ 1000000) (hk : KnA w (.slice ak P ck) kn) (hkn : kn.length = P) (hki : ∀ l ∈ kn, l.length ≤ 1000000) (hb : BoxA w (.slice ab P cb) bx) (hbx : bx.length = P) (hbr : ∀ r ∈ bx, r.length = P) (hbm : ∀ r ∈ bx, ∀ m ∈ r, m.length ≤ 1000000) :
    Calls Tryz.prog 34 #[.agg #[.int .i64 n, .slice ae es.length ce, .int .i64 P, .slice ao ow.length co, .slice ah hv.length ch, .slice ak P ck, .slice ab P cb]] w (CopyPost w n P es ow hv kn bx) := by
  obtain ⟨hX0, hb0⟩ := boxG_new w #[.int .i64 n, .slice ae es.length ce, .int .i64 P, .slice ao ow.length co, .slice ah hv.length ch, .slice ak P ck, .slice ab P cb] 36
  obtain ⟨hY0, hb1⟩ := boxG_new (w.alloc (.cells #[.int .i64 n, .slice ae es.length ce, .int .i64 P, .slice ao ow.length co, .slice ah hv.length ch, .slice ak P ck, .slice ab P cb] 36)) #[.int .i64 0, .slice none 0 0, .int .i64 0, .slice none 0 0, .slice none 0 0, .slice none 0 0, .slice none 0 0] 36
  have hX1 := lit_next' hb1 hX0
  have hb01 := hb0.trans (hb1.mono hb0.size)
  have hz : (w.alloc (.cells #[.int .i64 n, .slice ae es.length ce, .int .i64 P, .slice ao ow.length co, .slice ah hv.length ch, .slice ak P ck, .slice ab P cb] 36)).heap.size = w.heap.size + 1 := by simp
  rw [hz] at hY0
  obtain ⟨wA, hwA⟩ : ∃ W : World, W = (w.alloc (.cells #[.int .i64 n, .slice ae es.length ce, .int .i64 P, .slice ao ow.length co, .slice ah hv.length ch, .slice ak P ck, .slice ab P cb] 36)).alloc (.cells #[.int .i64 0, .slice none 0 0, .int .i64 0, .slice none 0 0, .slice none 0 0, .slice none 0 0, .slice none 0 0] 36) := ⟨_, rfl⟩
  obtain ⟨X, hX⟩ : ∃ X, w.heap.size = X := ⟨_, rfl⟩
  rw [← hwA] at hX1 hY0 hb01
  rw [hX] at hX1 hY0
  have HWA := Lib.hid hwA
  have HX := Lib.hid hX
  have hXn : X < wA.heap.size := blk_lt hX1
  have hYn : X + 1 < wA.heap.size := blk_lt hY0
  have hcl := geclone_any (.slice ae es.length ce) es wA ((he.below hb01).row hel) hel
  clear hwA hX0 hb0 hb1 hz he
  obtain ⟨q0, q1, q2, q3, q4, q5, q6⟩ := cells7 hX1
  have fX := fun j => free_blk (j := j) hX1
  go_enter Tryz.func34, Tryz.ntmps34
  go_wp2_with (rw [← HWA.out])
  refine hcl.mono ?_
  rintro e w1 ⟨x1, rfl, hown1, hbC1⟩
  have hX2 := lit_next' hbC1 hX1
  have hY2 := lit_next' hbC1 hY0
  obtain ⟨ae1, ce1, hx1⟩ := owns_shape hown1
  subst hx1
  have hE1 : EdgesAt w1 (.slice ae1 es.length ce1) es := by
    obtain ⟨a', c', e', h', -⟩ := EdgesAt.of_owns hown1 (by omega)
    cases e'; exact h'
  have hEb : ∀ b, (Value.slice ae1 es.length ce1).ownBlock = some b → wA.heap.size ≤ b := fun b e => (hown1.lt b e).1
  clear hcl q0 q1 q2 q3 q4 q5 q6 fX
  obtain ⟨q0, q1, q2, q3, q4, q5, q6⟩ := cells7 hX2
  have fX1 := free_blk (j := 1) hX2
  have hX3 := (set7 hX2 (.slice ae1 es.length ce1)).1
  have hY3 : (w1.setCell ⟨X, 1, none⟩ (.slice ae1 es.length ce1)).heap[X + 1]? = _ := (Below.heap_setCell _ _ _ _ (by show X + 1 ≠ X; omega)).trans hY2
  have hb02 : Below w.heap.size w (w1.setCell ⟨X, 1, none⟩ (.slice ae1 es.length ce1)) := (hb01.trans (hbC1.mono hb01.size)).setCell (p := ⟨X, 1, none⟩) (by show w.heap.size ≤ X; rw [HX.out]; exact Nat.le_refl _) _
  have hE3 : EdgesAt (w1.setCell ⟨X, 1, none⟩ (.slice ae1 es.length ce1)) (.slice ae1 es.length ce1) es := hE1.grown grown_store (fun g e => fun n' c p ep => by
    cases e
    obtain rfl : ae1 = some p := (Value.slice.inj ep).1
    have := hEb p.block rfl
    omega)
  obtain ⟨w2, hw2⟩ : ∃ W : World, W = w1.setCell ⟨X, 1, none⟩ (.slice ae1 es.length ce1) := ⟨_, rfl⟩
  go_upto_region 2 with fail
  have hEb2 := hEb
  have hEu : ∀ b, (Value.slice ae1 es.length ce1).ownBlock = some b → b < w2.heap.size := fun b e => by have := (hown1.lt b e).2; rw [hw2]; simpa [World.setCell] using this
  have hz2 : wA.heap.size ≤ w2.heap.size := by rw [hw2]; simpa [World.setCell] using hbC1.size
  rw [← hw2] at hX3 hY3 hb02 hE3 ⊢
  have ho2 := (ho.below hb02)
  have hh2 := (hh.below hb02)
  clear hw2 hX2 hY2 hX1 hY0 hE1 hEb hown1 hbC1 q0 q1 q2 q3 q4 q5 q6 fX1
  obtain ⟨q0, q1, q2, q3, q4, q5, q6⟩ := cells7 hX3
  have hX2l : X < w2.heap.size := blk_lt hX3
  refine wp_region_heldK (k := 10) (S := fun b W => match b with | false => (W.cell? ⟨X, 3, none⟩ = some (.slice ao ow.length co) ∧ W.cell? ⟨X, 4, none⟩ = some (.slice ah hv.length ch)) | true => True) (by kernel_rfl) ?_
  have hS0 : w2.drew.cell? ⟨X, 3, none⟩ = some (.slice ao ow.length co) ∧ w2.drew.cell? ⟨X, 4, none⟩ = some (.slice ah hv.length ch) := ⟨q3, q4⟩
  refine tkA 0 (.pointer (some ⟨X, 2, none⟩)) true rfl (fun _ _ => trivial) false hS0 ?_
  refine tkA 1 (.pointer (some ⟨X, 3, none⟩)) true rfl (fun _ _ => trivial) false hS0 ?_
  refine tkA 2 (.slice ao ow.length co) false rfl (fun _ _ => trivial) false hS0 ?_
  refine tkA 4 (.pointer (some ⟨X, 2, none⟩)) true rfl (fun _ _ => trivial) false hS0 ?_
  refine tkA 5 (.pointer (some ⟨X, 4, none⟩)) true rfl (fun _ _ => trivial) false hS0 ?_
  refine tkA 6 (.slice ah hv.length ch) false rfl (fun _ _ => trivial) false hS0 ?_
  try simp only [Act.put, List.setIfInBounds_toArray, List.set_cons_zero, List.set_cons_succ]
  refine wpAnyK_one (i := 3) (by kernel_rfl) rfl (by rfl) (b := false) (by kernel_rfl) (fun K hK => ?_)
  go_simp
  go_at_call 46
  refine (iclone_any ao co ow w2.drew (ho2.below (Below.refl _ _).drew) hol).mono ?_
  rintro e w3 ⟨x3, rfl, hown3, hb3'⟩
  have hb3 : Below w2.heap.size w2 w3 := (Below.refl w2.heap.size w2).drew.trans hb3'
  obtain ⟨ao3, co3, hx3⟩ := owns_shape hown3
  subst hx3
  have hS3 : w3.cell? ⟨X, 3, none⟩ = some (.slice ao ow.length co) ∧ w3.cell? ⟨X, 4, none⟩ = some (.slice ah hv.length ch) := ⟨(hb3.cell (p := ⟨X, 3, none⟩) hX2l).trans q3, (hb3.cell (p := ⟨X, 4, none⟩) hX2l).trans q4⟩
  dsimp only
  refine hK.out _ _ hS3 ?_
  try simp only [Act.put, List.setIfInBounds_toArray, List.set_cons_zero, List.set_cons_succ]
  refine tkA 8 (.pointer (some ⟨X, 2, none⟩)) true rfl (fun _ _ => trivial) false hS3 ?_
  refine tkA 9 (.pointer (some ⟨X, 3, none⟩)) true rfl (fun _ _ => trivial) false hS3 ?_
  try simp only [Act.put, List.setIfInBounds_toArray, List.set_cons_zero, List.set_cons_succ]
  refine wpAnyK_one (i := 7) (by kernel_rfl) rfl (by rfl) (b := false) (by kernel_rfl) (fun K hK => ?_)
  go_simp
  go_at_call 46
  refine (iclone_any ah ch hv w3 (hh2.below hb3) hhl).mono ?_
  rintro e w4 ⟨x4, rfl, hown4, hb4⟩
  obtain ⟨ah4, ch4, hx4⟩ := owns_shape hown4
  subst hx4
  have hX3l : X < w3.heap.size := Nat.lt_of_lt_of_le hX2l hb3.size
  have hS4 : w4.cell? ⟨X, 3, none⟩ = some (.slice ao ow.length co) ∧ w4.cell? ⟨X, 4, none⟩ = some (.slice ah hv.length ch) := ⟨(hb4.cell (p := ⟨X, 3, none⟩) hX3l).trans hS3.1, (hb4.cell (p := ⟨X, 4, none⟩) hX3l).trans hS3.2⟩
  have hb24 := hb3.trans (hb4.mono hb3.size)
  have hX4 := lit_next' hb24 hX3
  have hY4 := lit_next' hb24 hY3
  have hE4 := hE3.below hb24
  have hO4 : IntsAt w4 (.slice ao3 ow.length co3) ow := by
    obtain ⟨a', c', e', h', -⟩ := IntsAt.of_owns hown3 (by omega)
    cases e'; exact h'.below hb4
  have hH4 : IntsAt w4 (.slice ah4 hv.length ch4) hv := by
    obtain ⟨a', c', e', h', -⟩ := IntsAt.of_owns hown4 (by omega)
    cases e'; exact h'
  have hOb : ∀ b, (Value.slice ao3 ow.length co3).ownBlock = some b → w2.heap.size ≤ b := fun b e => (hown3.lt b e).1
  have hHb : ∀ b, (Value.slice ah4 hv.length ch4).ownBlock = some b → w2.heap.size ≤ b := fun b e => Nat.le_trans hb3.size (hown4.lt b e).1
  have hEb4 : ∀ b, (Value.slice ae1 es.length ce1).ownBlock = some b → wA.heap.size ≤ b := hEb2
  have hz4 : wA.heap.size ≤ w2.heap.size := hz2
  have hz43 : w3.heap.size ≤ w4.heap.size := hb4.size
  have hz32 : w2.heap.size ≤ w3.heap.size := hb3.size
  have hEd : ∀ b, (Value.slice ae1 es.length ce1).ownBlock = some b → X + 1 < b ∧ b < w4.heap.size := fun b e => ⟨by have := hEb4 b e; omega, by have := hEu b e; omega⟩
  have hOd : ∀ b, (Value.slice ao3 ow.length co3).ownBlock = some b → X + 1 < b ∧ b < w4.heap.size := fun b e => by have := hown3.lt b e; have h2 : w2.heap.size ≤ b := this.1; omega
  have hHd : ∀ b, (Value.slice ah4 hv.length ch4).ownBlock = some b → X + 1 < b ∧ b < w4.heap.size := fun b e => by have := hown4.lt b e; omega
  have fX3 := free_blk (j := 3) hX4
  have fX4 := free_blk (j := 4) hX4
  have hX5 := (set7 hX4 (.slice ao3 ow.length co3)).2.1
  have hX6 := (set7 hX5 (.slice ah4 hv.length ch4)).2.2.1
  have c4X : (w4.setCell ⟨X, 3, none⟩ (.slice ao3 ow.length co3)).cell? ⟨X, 4, none⟩ = some (.slice ah hv.length ch) := cell_blk hX5
  dsimp only
  refine hK.out _ _ hS4 ?_
  try simp only [Act.put, List.setIfInBounds_toArray, List.set_cons_zero, List.set_cons_succ]
  refine wpAnyK_one (i := 10) (by kernel_rfl) rfl (by rfl) (b := true) (by kernel_rfl) (fun K hK => ?_)
  go_simp
  refine hK.out _ _ trivial ?_
  try simp only [Act.put, List.setIfInBounds_toArray, List.set_cons_zero, List.set_cons_succ]
  refine tkA 11 (.pointer (some ⟨X, 2, none⟩)) true rfl (fun _ _ => trivial) true trivial ?_
  refine tkA 12 (.pointer (some ⟨X, 4, none⟩)) true rfl (fun _ _ => trivial) true trivial ?_
  try simp only [Act.put, List.setIfInBounds_toArray, List.set_cons_zero, List.set_cons_succ]
  refine wpAnyK_one (i := 13) (by kernel_rfl) rfl (by rfl) (b := true) (by kernel_rfl) (fun K hK => ?_)
  go_simp
  refine hK.out _ _ trivial (wpAnyK_done (by kernel_rfl) ?_ _)
  have hgX : ∀ (v u : Value), w4.grownBy ((w4.setCell ⟨X, 3, none⟩ v).setCell ⟨X, 4, none⟩ u) (some X) := fun v u => grown_trans grown_store grown_store
  have hoffX : ∀ (a : Option Addr) (m c : Nat), (∀ b, (Value.slice a m c).ownBlock = some b → X < b) → ∀ g, (some X : Option Nat) = some g → Off g (.slice a m c) := fun a m c h g e n' c' p ep => by
    cases e
    obtain rfl : a = some p := (Value.slice.inj ep).1
    have := h p.block rfl
    omega
  have hE5 := hE4.grown (hgX (.slice ao3 ow.length co3) (.slice ah4 hv.length ch4)) (hoffX _ _ _ (fun b e => by have := hEb4 b e; omega))
  have hO5 := hO4.grown (hgX (.slice ao3 ow.length co3) (.slice ah4 hv.length ch4)) (hoffX _ _ _ (fun b e => by have := hOb b e; omega))
  have hH5 := hH4.grown (hgX (.slice ao3 ow.length co3) (.slice ah4 hv.length ch4)) (hoffX _ _ _ (fun b e => by have := hHb b e; omega))
  have hY6 : ((w4.setCell ⟨X, 3, none⟩ (.slice ao3 ow.length co3)).setCell ⟨X, 4, none⟩ (.slice ah4 hv.length ch4)).heap[X + 1]? = _ := (Below.heap_setCell _ _ _ _ (by show X + 1 ≠ X; omega)).trans ((Below.heap_setCell _ _ _ _ (by show X + 1 ≠ X; omega)).trans hY4)
  have hb05 : Below w.heap.size w ((w4.setCell ⟨X, 3, none⟩ (.slice ao3 ow.length co3)).setCell ⟨X, 4, none⟩ (.slice ah4 hv.length ch4)) := ((hb02.trans (hb24.mono hb02.size)).setCell (p := ⟨X, 3, none⟩) (by show w.heap.size ≤ X; rw [HX.out]; exact Nat.le_refl _) _).setCell (p := ⟨X, 4, none⟩) (by show w.heap.size ≤ X; rw [HX.out]; exact Nat.le_refl _) _
  obtain ⟨wl, hwl⟩ : ∃ W : World, W = (w4.setCell ⟨X, 3, none⟩ (.slice ao3 ow.length co3)).setCell ⟨X, 4, none⟩ (.slice ah4 hv.length ch4) := ⟨_, rfl⟩
  rw [← hwl] at hX6 hY6 hE5 hO5 hH5 hb05
  have HWL := Lib.hid hwl
  have hzl : wl.heap.size = w4.heap.size := by rw [hwl]; simp [World.setCell]
  have HED : Hid (∀ b, (Value.slice ae1 es.length ce1).ownBlock = some b → X + 1 < b ∧ b < wl.heap.size) := (show ∀ b, _ from by rw [hzl]; exact hEd)
  have HOD : Hid (∀ b, (Value.slice ao3 ow.length co3).ownBlock = some b → X + 1 < b ∧ b < wl.heap.size) := (show ∀ b, _ from by rw [hzl]; exact hOd)
  have HHD : Hid (∀ b, (Value.slice ah4 hv.length ch4).ownBlock = some b → X + 1 < b ∧ b < wl.heap.size) := (show ∀ b, _ from by rw [hzl]; exact hHd)
  clear hzl hEd hOd hHd hEu hz2 hz4 hz43 hz32
  clear hwl hgX hoffX hY4 hX4 hX5 hE4 hO4 hH4 hOb hHb hEb4 hEb2 fX3 fX4 c4X hS4 hS3 hS0 hown3 hown4 hb24 hb3 hb3' hb4 hX3 hY3 hE3 ho2 hh2 q0 q1 q2 q3 q4 q5 q6 hX2l hX3l hb02
  obtain ⟨q0, q1, q2, q3, q4, q5, q6⟩ := cells7 hX6
  obtain ⟨LK, hLK, hLK2, hLK3⟩ := hk
  obtain ⟨LB, hLB, hLB2, hLB3⟩ := hb
  have hLKl : LK.length = P := by rw [← hkn, ← hLK2, List.length_map]
  have hLBl : LB.length = P := by rw [← hbx, ← hLB2, List.length_map]
  have hXl : X < wl.heap.size := blk_lt hX6
  have hYl : X + 1 < wl.heap.size := blk_lt hY6
  have hLKw := hLK.below hb05
  have hLBw := hLB.below hb05
  have HLKl := Lib.hid hLKl
  have HLBl := Lib.hid hLBl
  clear hLKl hLBl
  rw [← HWL.out]
  go_upto_region 3 with fail
  refine wp_region_heldK (k := 7) (S := fun b W => match b with | false => (W.cell? ⟨X, 5, none⟩ = some (.slice ak P ck) ∧ W.cell? ⟨X, 6, none⟩ = some (.slice ab P cb)) | true => True) (by kernel_rfl) ?_
  have hS0 : wl.drew.cell? ⟨X, 5, none⟩ = some (.slice ak P ck) ∧ wl.drew.cell? ⟨X, 6, none⟩ = some (.slice ab P cb) := ⟨q5, q6⟩
  refine tkA 0 (.pointer (some ⟨X, 5, none⟩)) true rfl (fun _ _ => trivial) false hS0 ?_
  refine tkA 1 (.slice ak P ck) false rfl (fun _ _ => trivial) false hS0 ?_
  refine tkA 3 (.pointer (some ⟨X, 6, none⟩)) true rfl (fun _ _ => trivial) false hS0 ?_
  refine tkA 4 (.slice ab P cb) false rfl (fun _ _ => trivial) false hS0 ?_
  try simp only [Act.put, List.setIfInBounds_toArray, List.set_cons_zero, List.set_cons_succ]
  refine wpAnyK_one (i := 2) (by kernel_rfl) rfl (by rfl) (b := false) (by kernel_rfl) (fun K hK => ?_)
  go_simp
  go_at_call 66
  refine (rrclone_any (.slice ak P ck) LK wl.drew (hLKw.below (Below.refl _ _).drew) (by rw [HLKl.out]; omega)).mono ?_
  rintro e w5 ⟨x5, rfl, hown5, hb5'⟩
  have hb5 : Below wl.heap.size wl w5 := (Below.refl wl.heap.size wl).drew.trans hb5'
  obtain ⟨KB, cK, curK, hx5, hKBl, hcK, hKB5, hcurK, hKBc⟩ := ownsP_at hown5 (by rw [HLKl.out]; omega)
  rw [HLKl.out] at hx5 hcK hcurK
  subst hx5
  have hKBl : wl.heap.size ≤ KB := hKBl
  have hS5 : w5.cell? ⟨X, 5, none⟩ = some (.slice ak P ck) ∧ w5.cell? ⟨X, 6, none⟩ = some (.slice ab P cb) := ⟨(hb5.cell (p := ⟨X, 5, none⟩) hXl).trans q5, (hb5.cell (p := ⟨X, 6, none⟩) hXl).trans q6⟩
  dsimp only
  refine hK.out _ _ hS5 ?_
  try simp only [Act.put, List.setIfInBounds_toArray, List.set_cons_zero, List.set_cons_succ]
  refine tkA 6 (.pointer (some ⟨X, 5, none⟩)) true rfl (fun _ _ => trivial) false hS5 ?_
  try simp only [Act.put, List.setIfInBounds_toArray, List.set_cons_zero, List.set_cons_succ]
  refine wpAnyK_one (i := 5) (by kernel_rfl) rfl (by rfl) (b := false) (by kernel_rfl) (fun K hK => ?_)
  go_simp
  go_at_call 67
  refine (rrmclone_any (.slice ab P cb) LB w5 (hLBw.below hb5) (by rw [HLBl.out]; omega)).mono ?_
  rintro e w6 ⟨x6, rfl, hown6, hb6⟩
  obtain ⟨BB, cB, curB, hx6, hBBl, hcB, hBB6, hcurB, hBBc⟩ := ownsP_at hown6 (by rw [HLBl.out]; omega)
  rw [HLBl.out] at hx6 hcB hcurB
  subst hx6
  have hKB6l : KB < w5.heap.size := blk_lt hKB5
  have hX5l : X < w5.heap.size := Nat.lt_of_lt_of_le hXl hb5.size
  have hS6 : w6.cell? ⟨X, 5, none⟩ = some (.slice ak P ck) ∧ w6.cell? ⟨X, 6, none⟩ = some (.slice ab P cb) := ⟨(hb6.cell (p := ⟨X, 5, none⟩) hX5l).trans hS5.1, (hb6.cell (p := ⟨X, 6, none⟩) hX5l).trans hS5.2⟩
  have hb56 := hb5.trans (hb6.mono hb5.size)
  have hX7 := lit_next' hb56 hX6
  have fX5 := free_blk (j := 5) hX7
  have fX6 := free_blk (j := 6) hX7
  have hX8 := (set7 hX7 (.slice (some ⟨KB, 0, none⟩) P cK)).2.2.2.1
  have hX9 := (set7 hX8 (.slice (some ⟨BB, 0, none⟩) P cB)).2.2.2.2
  have c6X : (w6.setCell ⟨X, 5, none⟩ (.slice (some ⟨KB, 0, none⟩) P cK)).cell? ⟨X, 6, none⟩ = some (.slice ab P cb) := cell_blk hX8
  dsimp only
  refine hK.out _ _ hS6 ?_
  try simp only [Act.put, List.setIfInBounds_toArray, List.set_cons_zero, List.set_cons_succ]
  refine wpAnyK_one (i := 7) (by kernel_rfl) rfl (by rfl) (b := true) (by kernel_rfl) (fun K hK => ?_)
  go_simp
  refine hK.out _ _ trivial ?_
  try simp only [Act.put, List.setIfInBounds_toArray, List.set_cons_zero, List.set_cons_succ]
  refine tkA 8 (.pointer (some ⟨X, 6, none⟩)) true rfl (fun _ _ => trivial) true trivial ?_
  try simp only [Act.put, List.setIfInBounds_toArray, List.set_cons_zero, List.set_cons_succ]
  refine wpAnyK_one (i := 9) (by kernel_rfl) rfl (by rfl) (b := true) (by kernel_rfl) (fun K hK => ?_)
  go_simp
  refine hK.out _ _ trivial (wpAnyK_done (by kernel_rfl) ?_ _)
  have hne : ∀ g, wl.heap.size ≤ g → g ≠ X := fun g h => by omega
  have hoth : ∀ (g : Nat) (v u : Value), wl.heap.size ≤ g → ((w6.setCell ⟨X, 5, none⟩ v).setCell ⟨X, 6, none⟩ u).heap[g]? = w6.heap[g]? := fun g v u h => (Below.heap_setCell _ _ _ _ (hne g h)).trans (Below.heap_setCell _ _ _ _ (hne g h))
  have hKB9 := (hoth KB (.slice (some ⟨KB, 0, none⟩) P cK) (.slice (some ⟨BB, 0, none⟩) P cB) hKBl).trans ((hb6.block _ hKB6l).trans hKB5)
  have hBBl2 : wl.heap.size ≤ BB := Nat.le_trans hb5.size hBBl
  have hBB9 := (hoth BB (.slice (some ⟨KB, 0, none⟩) P cK) (.slice (some ⟨BB, 0, none⟩) P cB) hBBl2).trans hBB6
  have hY9 : ((w6.setCell ⟨X, 5, none⟩ (.slice (some ⟨KB, 0, none⟩) P cK)).setCell ⟨X, 6, none⟩ (.slice (some ⟨BB, 0, none⟩) P cB)).heap[X + 1]? = _ := (Below.heap_setCell _ _ _ _ (by show X + 1 ≠ X; omega)).trans ((Below.heap_setCell _ _ _ _ (by show X + 1 ≠ X; omega)).trans (lit_next' hb56 hY6))
  have hKc9 : ∀ i p, LK[i]? = some p → ((w6.setCell ⟨X, 5, none⟩ (.slice (some ⟨KB, 0, none⟩) P cK)).setCell ⟨X, 6, none⟩ (.slice (some ⟨BB, 0, none⟩) P cB)).cell? ⟨KB, i, none⟩ = some (slV p.1) := fun i p hi => (heap_cell (hoth KB _ _ hKBl)).1.trans ((hb6.cell (p := ⟨KB, i, none⟩) hKB6l).trans (hKBc i p hi))
  have hBc9 : ∀ i p, LB[i]? = some p → ((w6.setCell ⟨X, 5, none⟩ (.slice (some ⟨KB, 0, none⟩) P cK)).setCell ⟨X, 6, none⟩ (.slice (some ⟨BB, 0, none⟩) P cB)).cell? ⟨BB, i, none⟩ = some (slV p.1) := fun i p hi => (heap_cell (hoth BB _ _ hBBl2)).1.trans (hBBc i p hi)
  have hXw : w.heap.size ≤ X := by rw [HX.out]; exact Nat.le_refl _
  have hb09 : Below w.heap.size w ((w6.setCell ⟨X, 5, none⟩ (.slice (some ⟨KB, 0, none⟩) P cK)).setCell ⟨X, 6, none⟩ (.slice (some ⟨BB, 0, none⟩) P cB)) := ((hb05.trans (hb56.mono hb05.size)).setCell (p := ⟨X, 5, none⟩) hXw _).setCell (p := ⟨X, 6, none⟩) hXw _
  -- what lies below wl's end and is not the box is as it was
  have hF9 : Fr (fun b => b = X) wl ((w6.setCell ⟨X, 5, none⟩ (.slice (some ⟨KB, 0, none⟩) P cK)).setCell ⟨X, 6, none⟩ (.slice (some ⟨BB, 0, none⟩) P cB)) := ((Fr.of_below hb56).grown (grown_store (b := X)) (fun b e => by cases e; exact .inl rfl)).grown (grown_store (b := X)) (fun b e => by cases e; exact .inl rfl)
  have hKBB : KB ≠ BB := by have : w5.heap.size ≤ BB := hBBl; omega
  obtain ⟨w9, hw9⟩ : ∃ W : World, W = (w6.setCell ⟨X, 5, none⟩ (.slice (some ⟨KB, 0, none⟩) P cK)).setCell ⟨X, 6, none⟩ (.slice (some ⟨BB, 0, none⟩) P cB) := ⟨_, rfl⟩
  rw [← hw9] at hX9 hY9 hKB9 hBB9 hKc9 hBc9 hb09 hF9
  have HW9 := Lib.hid hw9
  have HKC := Lib.hid hKc9
  have HBC := Lib.hid hBc9
  have HLK3 := Lib.hid hLK3
  have HLB3 := Lib.hid hLB3
  have hKB9l : KB < w9.heap.size := blk_lt hKB9
  have hBB9l : BB < w9.heap.size := blk_lt hBB9
  clear hw9 hne hoth hKB5 hBB6 hX7 hX8 c6X fX5 fX6 hS0 hS5 hS6 hown5 hown6 hb5 hb5' hb6 hb56 hKBc hBBc hKc9 hBc9 q0 q1 q2 q3 q4 q5 q6 hX6 hY6 hLKw hLBw hLK3 hLB3 hKB6l hX5l hBBl
  obtain ⟨q0, q1, q2, q3, q4, q5, q6⟩ := cells7 hX9
  go_upto_region 4 with fail
  rw [← HW9.out]
  go_wp2_with fail
  clear q0 q1 q2 q3 q4 q5 q6
  go_loopw [38] (fun vi wr => ∃ (j : Nat) (vs : Ix → Value), j ≤ P ∧ vi = .int .i64 (j : Int) ∧ GW wr wl.heap.size (CpK j) (CpA KB (fun _ => 0)) vs (knF kn) (fun _ => []) (bxF bx) ∧ Hid (∀ i, CpK j i → ∀ b, (vs i).ownBlock = some b → w9.heap.size ≤ b) ∧ Fr (fun b => b = KB) w9 wr ∧ (∃ cur, wr.heap[KB]? = some (.cells cur 22 (0, 0)) ∧ P ≤ cur.size) ∧ Hid (∀ i p, j ≤ i → LK[i]? = some p → wr.cell? ⟨KB, i, none⟩ = some (slV p.1))) (fun vi _ => P - (intOf vi).toNat)
  case atStart => exact ⟨0, fun _ => .int .i64 0, Nat.zero_le _, rfl, GridA.empty _ _ _ _ _ _ _ _ (fun i h => by have := h.2; omega), (show ∀ i, _ from fun i h => by have := h.2; omega), Fr.refl _ _, ⟨curK, hKB9, hcurK⟩, (show ∀ i, _ from fun i p _ h => HKC.out i p h)⟩
  case round =>
    obtain ⟨j, vs, hj, rfl, hG, HV, hF, ⟨cur, hcur, hcs⟩, HC⟩ := hrel
    have hXr := hF.blk hX9 (fun e => by omega)
    obtain ⟨q0, q1, q2, q3, q4, q5, q6⟩ := cells7 hXr
    by_cases hlt : j < P
    · have hlt3 : (j : Int) < P := by omega
      have hp : LK[j]? = some (LK[j]'(by rw [HLKl.out]; exact hlt)) := List.getElem?_eq_getElem _
      obtain ⟨p, hpp⟩ : ∃ p, LK[j]'(by rw [HLKl.out]; exact hlt) = p := ⟨_, rfl⟩
      rw [hpp] at hp
      have hcj := HC.out j p (Nat.le_refl _) hp
      have hi := HLK3.out p (List.mem_of_getElem? hp)
      have hkj : knF kn j = p.2 := by
        unfold knF
        rw [← hLK2, List.getD_eq_getElem?_getD, List.getElem?_map, hp]; rfl
      have hll : p.2.length ≤ 1000000 := hki p.2 (by rw [← hLK2]; exact List.mem_map_of_mem (List.mem_of_getElem? hp))
      obtain ⟨⟨a1, n1, c1⟩, l⟩ := p
      dsimp only [slV] at hcj hi hkj hll
      obtain rfl : n1 = l.length := by obtain ⟨_, _, e, -⟩ := hi; cases e; rfl
      have hb0r : Below w.heap.size w wr := hb09.trans (hF.below (fun b e => by omega) (by omega))
      have hir := hi.below hb0r
      have hfr := free_blk (j := j) hcur
      have HKJ := Lib.hid hkj
      clear hkj hpp hi
      go_upto_region 7 with fail
      refine wp_region_heldK (k := 6) (S := fun _ W => W.cell? ⟨X, 5, none⟩ = some (.slice (some ⟨KB, 0, none⟩) P cK)) (by kernel_rfl) ?_
      have hS0 : wr.drew.cell? ⟨X, 5, none⟩ = some (.slice (some ⟨KB, 0, none⟩) P cK) := q5
      refine tkA 0 (.pointer (some ⟨X, 5, none⟩)) true rfl (fun _ h => h) false hS0 ?_
      refine tkA 1 (.slice (some ⟨KB, 0, none⟩) P cK) true rfl (fun _ h => h) false hS0 ?_
      refine tkA 2 (.int .i64 (j : Int)) true rfl (fun _ h => h) false hS0 ?_
      refine tkA 3 (.slice a1 l.length c1) true rfl (fun _ h => h) false hS0 ?_
      try simp only [Act.put, List.setIfInBounds_toArray, List.set_cons_zero, List.set_cons_succ]
      refine wpAnyK_one (i := 4) (by kernel_rfl) rfl (by rfl) (b := false) (by kernel_rfl) (fun K hK => ?_)
      go_simp
      go_at_call 46
      refine (iclone_any a1 c1 l wr.drew (hir.below (Below.refl _ _).drew) hll).mono ?_
      rintro e w1 ⟨x1, rfl, hown1, hb1'⟩
      have hb1 : Below wr.heap.size wr w1 := (Below.refl wr.heap.size wr).drew.trans hb1'
      obtain ⟨ax, cx, hx⟩ := owns_shape hown1
      subst hx
      have hS1 : w1.cell? ⟨X, 5, none⟩ = some (.slice (some ⟨KB, 0, none⟩) P cK) := (hb1.cell (p := ⟨X, 5, none⟩) (cell_lt q5)).trans q5
      have hcur1 := lit_next' hb1 hcur
      have hc1 := (hb1.cell (p := ⟨KB, j, none⟩) (cell_lt hcj)).trans hcj
      have fr1 := free_blk (j := j) hcur1
      have hls : wl.heap.size ≤ wr.heap.size := by have := hF.size; have := hF9.size; omega
      have hG2 := GW.ins (j := (0, j)) (v := .slice ax l.length cx) (J := CpK (j + 1)) hG (fun h => by have := h.2; dsimp only at this; omega) hb1 (by show w1.ownsRow wr.heap.size 3 1 _ (knF kn j).length (intsV (knF kn j)); rw [HKJ.out]; exact hown1) hcj hfr (show wl.heap.size ≤ KB from hKBl) hls (fun i hi e => by have h2 := HV.out i hi KB e; omega) (fun i hi e => by
        obtain ⟨i1, i2⟩ := i
        obtain rfl : i1 = 0 := hi.1
        have h2 := hi.2
        have h3 := (Prod.mk.inj e).2
        dsimp only at h2 h3
        omega) (fun i hi => by
        obtain ⟨i1, i2⟩ := i
        obtain rfl : i1 = 0 := hi.1
        have h2 := hi.2
        dsimp only at h2
        by_cases e : i2 = j
        · right; rw [e]
        · left; exact ⟨rfl, by dsimp only; omega⟩)
      have hF2 := (hF.grown (grown_of_below hb1) (fun b e => by cases e)).grown (grown_store (b := KB) (j := j) (v := .slice ax l.length cx)) (fun b e => by cases e; exact .inl rfl)
      have HV2 : Hid (∀ i, CpK (j + 1) i → ∀ b, (updX vs (0, j) (.slice ax l.length cx) i).ownBlock = some b → w9.heap.size ≤ b) := (show ∀ i, _ from fun i hi b e => by
        unfold updX at e
        by_cases q : i = (0, j)
        · rw [if_pos q] at e
          have h1 : wr.heap.size ≤ b := (hown1.lt b e).1
          have := hF.size
          omega
        · rw [if_neg q] at e
          refine HV.out i ⟨hi.1, ?_⟩ b e
          have h2 := hi.2
          have h3 := hi.1
          have : i.2 ≠ j := fun e2 => q (Prod.ext h3 e2)
          omega)
      have hcur2 : ((w1.setCell ⟨KB, j, none⟩ (.slice ax l.length cx)).heap[KB]? = some (.cells (cur.setIfInBounds j (.slice ax l.length cx)) 22 (0, 0))) := heap_setCell_same _ _ _ _ _ _ hcur1
      have HC2 : Hid (∀ i p, j + 1 ≤ i → LK[i]? = some p → (w1.setCell ⟨KB, j, none⟩ (.slice ax l.length cx)).cell? ⟨KB, i, none⟩ = some (slV p.1)) := (show ∀ i, _ from fun i p hji hi => by
        rw [World.cell?_setCell_other _ _ _ _ (fun e => by have := (Addr.mk.inj e).2.1; omega)]
        have h3 := HC.out i p (by omega) hi
        exact (hb1.cell (p := ⟨KB, i, none⟩) (cell_lt h3)).trans h3)
      have hcs2 : P ≤ (cur.setIfInBounds j (.slice ax l.length cx)).size := by simpa using hcs
      dsimp only
      refine hK.out _ _ hS1 ?_
      try simp only [Act.put, List.setIfInBounds_toArray, List.set_cons_zero, List.set_cons_succ]
      refine tkA 5 (.pointer (some ⟨KB, j, none⟩)) true rfl (fun _ h => h) false hS1 ?_
      try simp only [Act.put, List.setIfInBounds_toArray, List.set_cons_zero, List.set_cons_succ]
      refine wpAnyK_one (i := 6) (by kernel_rfl) rfl (by rfl) (b := true) (by kernel_rfl) (fun K hK => ?_)
      go_simp
      have hS2 : (w1.setCell ⟨KB, j, none⟩ (.slice ax l.length cx)).cell? ⟨X, 5, none⟩ = some (.slice (some ⟨KB, 0, none⟩) P cK) := (World.cell?_setCell_far _ _ _ _ (by show KB ≠ X; omega)).trans hS1
      refine hK.out _ _ hS2 (wpAnyK_done (by kernel_rfl) ?_ _)
      go_wp2_with fail
      go_roundw
      case rel => exact ⟨j + 1, _, by omega, by go_num, hG2, HV2, hF2, ⟨_, hcur2, hcs2⟩, HC2⟩
      case measure => simp [intOf]; omega
    · obtain rfl : j = P := by omega
      have hBBr := hF.blk hBB9 (fun e => by omega)
      have hF10 := hF.mono (D' := fun b => b = KB ∨ b = BB) (fun b e => .inl e)
      have hG10 := (GridA.addr hG (ad' := CpA KB (fun _ => 0)) (vs' := vs) (fun _ _ => rfl) (fun _ _ => rfl))
      have HBC10 : Hid (∀ r p, LB[r]? = some p → wr.cell? ⟨BB, r, none⟩ = some (slV p.1)) := (show ∀ r, _ from fun r p h => hF.cell (HBC.out r p h) (fun e => by omega))
      clear hcur HC hG hF
      go_wp2_with fail
      clear q0 q1 q2 q3 q4 q5 q6
      go_loopw [53] (fun vi wr2 => ∃ (i : Nat) (R cR : Nat → Nat) (vs2 : Ix → Value), i ≤ j ∧ vi = .int .i64 (i : Int) ∧ GW wr2 wl.heap.size (CpI j i 0) (CpA KB R) vs2 (knF kn) (fun _ => []) (bxF bx) ∧ Hid (∀ x, CpI j i 0 x → ∀ b, (vs2 x).ownBlock = some b → w9.heap.size ≤ b) ∧ Hid (∀ r, r < i → w9.heap.size ≤ R r) ∧ Fr (fun b => b = KB ∨ b = BB) w9 wr2 ∧ (∃ cur, wr2.heap[BB]? = some (.cells cur 75 (0, 0)) ∧ j ≤ cur.size) ∧ Hid (∀ r, r < i → wr2.cell? ⟨BB, r, none⟩ = some (.slice (some ⟨R r, 0, none⟩) j (cR r)) ∧ j ≤ cR r) ∧ Hid (∀ r p, i ≤ r → LB[r]? = some p → wr2.cell? ⟨BB, r, none⟩ = some (slV p.1))) (fun vi _ => j - (intOf vi).toNat)
      case atStart => exact ⟨0, fun _ => 0, fun _ => 0, vs, Nat.zero_le _, rfl, hG10.sub (fun x hx => by rcases hx with hx | hx; exact hx; omega), (show ∀ x, _ from fun x hx b e => HV.out x (by rcases hx with hx | hx; exact hx; omega) b e), (show ∀ r, _ from fun r h => by omega), hF10, ⟨curB, hBBr, hcurB⟩, (show ∀ r, _ from fun r h => by omega), (show ∀ r, _ from fun r p _ h => HBC10.out r p h)⟩
      case round =>
        clear hXr hG10 HV hF10 HBC10 hBBr hcs
        obtain ⟨i, R, cR, vs2, hi, rfl, hG, HV, HR, hF, ⟨cur, hcur, hcs⟩, HO, HC⟩ := hrel
        have hXr := hF.blk hX9 (fun e => by rcases e with e | e <;> omega)
        obtain ⟨q0, q1, q2, q3, q4, q5, q6⟩ := cells7 hXr
        have hls : wl.heap.size ≤ wr.heap.size := by have := hF.size; have := hF9.size; omega
        by_cases hlt : i < j
        · have hlt3 : (i : Int) < j := by omega
          have hp : LB[i]? = some (LB[i]'(by rw [HLBl.out]; exact hlt)) := List.getElem?_eq_getElem _
          obtain ⟨p, hpp⟩ : ∃ p, LB[i]'(by rw [HLBl.out]; exact hlt) = p := ⟨_, rfl⟩
          rw [hpp] at hp
          have hci := HC.out i p (Nat.le_refl _) hp
          have hin := HLB3.out p (List.mem_of_getElem? hp)
          have hbi : ∀ t, bxF bx i t = p.2.getD t [] := fun t => by
            unfold bxF
            congr 1
            rw [← hLB2, List.getD_eq_getElem?_getD, List.getElem?_map, hp]; rfl
          have hmem : p.2 ∈ bx := by rw [← hLB2]; exact List.mem_map_of_mem (List.mem_of_getElem? hp)
          have hrl : p.2.length = j := hbr p.2 hmem
          have hml : ∀ m ∈ p.2, m.length ≤ 1000000 := hbm p.2 hmem
          obtain ⟨⟨a1, n1, c1⟩, rw1⟩ := p
          dsimp only [slV] at hci hin hbi hrl hml
          obtain rfl : n1 = j := by have := (NestA.len hin).1; omega
          obtain ⟨LR, hLR, hLR2, hLR3⟩ := id hin
          have hLRl : LR.length = n1 := by rw [← hrl, ← hLR2, List.length_map]
          have hb0r : Below w.heap.size w wr := hb09.trans (hF.below (fun b e => by rcases e with e | e <;> omega) (by omega))
          have hrr := hLR.below hb0r
          have HLRl := Lib.hid hLRl
          have HBI := Lib.hid hbi
          have HML := Lib.hid hml
          have hfr := free_blk (j := i) hcur
          clear hLRl hbi hpp hml hrl hmem
          go_upto_region 12 with fail
          refine wp_region_heldK (k := 6) (S := fun _ W => W.cell? ⟨X, 6, none⟩ = some (.slice (some ⟨BB, 0, none⟩) n1 cB)) (by kernel_rfl) ?_
          have hS0 : wr.drew.cell? ⟨X, 6, none⟩ = some (.slice (some ⟨BB, 0, none⟩) n1 cB) := q6
          refine tkA 0 (.pointer (some ⟨X, 6, none⟩)) true rfl (fun _ h => h) false hS0 ?_
          refine tkA 1 (.slice (some ⟨BB, 0, none⟩) n1 cB) true rfl (fun _ h => h) false hS0 ?_
          refine tkA 2 (.int .i64 (i : Int)) true rfl (fun _ h => h) false hS0 ?_
          refine tkA 3 (.slice a1 n1 c1) true rfl (fun _ h => h) false hS0 ?_
          try simp only [Act.put, List.setIfInBounds_toArray, List.set_cons_zero, List.set_cons_succ]
          refine wpAnyK_one (i := 4) (by kernel_rfl) rfl (by rfl) (b := false) (by kernel_rfl) (fun K hK => ?_)
          go_simp
          go_at_call 68
          refine (rmclone_any (.slice a1 n1 c1) LR wr.drew (hrr.below (Below.refl _ _).drew) (by rw [HLRl.out]; omega)).mono ?_
          rintro e w1 ⟨x1, rfl, hown1, hb1'⟩
          have hb1 : Below wr.heap.size wr w1 := (Below.refl wr.heap.size wr).drew.trans hb1'
          obtain ⟨Ri, cRi, curR, hx, hRil, hcRi, hRi1, hcurR, -⟩ := ownsP_at hown1 (by rw [HLRl.out]; omega)
          rw [HLRl.out] at hx hcRi hcurR
          subst hx
          have hRil : wr.heap.size ≤ Ri := hRil
          have hRi9 : w9.heap.size ≤ Ri := by have := hF.size; omega
          have hS1 : w1.cell? ⟨X, 6, none⟩ = some (.slice (some ⟨BB, 0, none⟩) n1 cB) := (hb1.cell (p := ⟨X, 6, none⟩) (cell_lt q6)).trans q6
          have hcur1 := lit_next' hb1 hcur
          have hc1 := (hb1.cell (p := ⟨BB, i, none⟩) (cell_lt hci)).trans hci
          have fr1 := free_blk (j := i) hcur1
          have hF1 := (hF.grown (grown_of_below hb1) (fun b e => by cases e)).grown (grown_store (b := BB) (j := i) (v := .slice (some ⟨Ri, 0, none⟩) n1 cRi)) (fun b e => by cases e; exact .inl (.inr rfl))
          have hBBr : BB < wr.heap.size := blk_lt hcur
          have hG1 := (hG.below hb1).kept (grown_store (b := BB) (j := i) (v := .slice (some ⟨Ri, 0, none⟩) n1 cRi)) (fun x hx e => by
            have h1 : BB = (CpA KB R x).1 := Option.some.inj e
            obtain ⟨x1, x2⟩ := x
            rcases hx with ⟨h2, -⟩ | ⟨h2, -, h3⟩
            · dsimp only at h2; subst h2; exact hKBB h1.symm
            · obtain ⟨r, rfl⟩ : ∃ r, x1 = r + 2 := ⟨x1 - 2, by dsimp only at h2; omega⟩
              have h4 := HR.out r (by dsimp only at h3; omega)
              have h5 : BB = R r := h1
              omega) (fun x hx b e e2 => by have h1 := HV.out x hx b e; have h2 := Option.some.inj e2; omega)
          have hRi2 : (w1.setCell ⟨BB, i, none⟩ (.slice (some ⟨Ri, 0, none⟩) n1 cRi)).heap[Ri]? = some (.cells curR 87 (0, 0)) := (Below.heap_setCell _ _ _ _ (by show Ri ≠ BB; omega)).trans hRi1
          have hcur2 : (w1.setCell ⟨BB, i, none⟩ (.slice (some ⟨Ri, 0, none⟩) n1 cRi)).heap[BB]? = some (.cells (cur.setIfInBounds i (.slice (some ⟨Ri, 0, none⟩) n1 cRi)) 75 (0, 0)) := heap_setCell_same _ _ _ _ _ _ hcur1
          have hcs2 : n1 ≤ (cur.setIfInBounds i (.slice (some ⟨Ri, 0, none⟩) n1 cRi)).size := by simpa using hcs
          have cBi : (w1.setCell ⟨BB, i, none⟩ (.slice (some ⟨Ri, 0, none⟩) n1 cRi)).cell? ⟨BB, i, none⟩ = some (.slice (some ⟨Ri, 0, none⟩) n1 cRi) := World.cell?_setCell_same _ _ _ hc1
          have HO2 : Hid (∀ r, r < i → (w1.setCell ⟨BB, i, none⟩ (.slice (some ⟨Ri, 0, none⟩) n1 cRi)).cell? ⟨BB, r, none⟩ = some (.slice (some ⟨R r, 0, none⟩) n1 (cR r)) ∧ n1 ≤ cR r) := (show ∀ r, _ from fun r hr => ⟨by
            rw [World.cell?_setCell_other _ _ _ _ (fun e => by have := (Addr.mk.inj e).2.1; omega)]
            have h3 := (HO.out r hr).1
            exact (hb1.cell (p := ⟨BB, r, none⟩) (cell_lt h3)).trans h3, (HO.out r hr).2⟩)
          have HC2 : Hid (∀ r p, i + 1 ≤ r → LB[r]? = some p → (w1.setCell ⟨BB, i, none⟩ (.slice (some ⟨Ri, 0, none⟩) n1 cRi)).cell? ⟨BB, r, none⟩ = some (slV p.1)) := (show ∀ r, _ from fun r p hr hp => by
            rw [World.cell?_setCell_other _ _ _ _ (fun e => by have := (Addr.mk.inj e).2.1; omega)]
            have h3 := HC.out r p (by omega) hp
            exact (hb1.cell (p := ⟨BB, r, none⟩) (cell_lt h3)).trans h3)
          have hRn : ∀ r, r < i → R r ≠ Ri := fun r hr e => by
            have h1 := hG.lt (r + 2, 0) (.inr ⟨by dsimp only; omega, by dsimp only; omega, .inl (by dsimp only; omega)⟩)
            have h2 : R r < wr.heap.size := h1
            omega
          have hVn : ∀ x, CpI n1 i 0 x → ∀ b, (vs2 x).ownBlock = some b → b ≠ Ri := fun x hx b e e2 => by
            have h1 := ((hG.own x hx).lt b e).2
            omega
          have hXw : (w1.setCell ⟨BB, i, none⟩ (.slice (some ⟨Ri, 0, none⟩) n1 cRi)).heap[X]? = _ := (Below.heap_setCell _ _ _ _ (by show X ≠ BB; omega)).trans (lit_next' hb1 hXr)
          dsimp only
          refine hK.out _ _ hS1 ?_
          try simp only [Act.put, List.setIfInBounds_toArray, List.set_cons_zero, List.set_cons_succ]
          refine tkA 5 (.pointer (some ⟨BB, i, none⟩)) true rfl (fun _ h => h) false hS1 ?_
          try simp only [Act.put, List.setIfInBounds_toArray, List.set_cons_zero, List.set_cons_succ]
          refine wpAnyK_one (i := 6) (by kernel_rfl) rfl (by rfl) (b := true) (by kernel_rfl) (fun K hK => ?_)
          go_simp
          have hS2 : (w1.setCell ⟨BB, i, none⟩ (.slice (some ⟨Ri, 0, none⟩) n1 cRi)).cell? ⟨X, 6, none⟩ = some (.slice (some ⟨BB, 0, none⟩) n1 cB) := (World.cell?_setCell_far _ _ _ _ (by show BB ≠ X; omega)).trans hS1
          refine hK.out _ _ hS2 (wpAnyK_done (by kernel_rfl) ?_ _)
          obtain ⟨w12, hw12⟩ : ∃ W : World, W = w1.setCell ⟨BB, i, none⟩ (.slice (some ⟨Ri, 0, none⟩) n1 cRi) := ⟨_, rfl⟩
          have hsz : w12.heap.size = w1.heap.size := by rw [hw12]; simp [World.setCell]
          rw [← hw12] at hF1 hG1 hRi2 hcur2 cBi HO2 HC2 hXw ⊢
          have HRN := Lib.hid hRn
          have HVN := Lib.hid hVn
          have hRi12 : Ri < w12.heap.size := blk_lt hRi2
          have hBB12 : BB < w12.heap.size := blk_lt hcur2
          have hb012 : Below w.heap.size w w12 := hb09.trans (hF1.below (fun b e => by rcases e with e | e <;> omega) (by omega))
          clear hw12 hS0 hS1 hS2 hcur1 hc1 fr1 hfr hRi1 hb1 hb1' hown1 hrr hRn hVn q0 q1 q2 q3 q4 q5 q6 hcur hci HO HC hG hb0r
          obtain ⟨q0, q1, q2, q3, q4, q5, q6⟩ := cells7 hXw
          have hRf : ∀ t, t < n1 → CpA KB (fun r => if r = i then Ri else R r) (i + 2, t) = (Ri, t) := fun t _ => by show ((fun r => if r = i then Ri else R r) i, t) = _; simp
          have hG2 : GW w12 wl.heap.size (CpI n1 i 0) (CpA KB (fun r => if r = i then Ri else R r)) vs2 (knF kn) (fun _ => []) (bxF bx) := GridA.addr hG1 (fun x hx => by
            obtain ⟨x1, x2⟩ := x
            rcases hx with ⟨h2, -⟩ | ⟨h2, -, h3⟩
            · dsimp only at h2; subst h2; rfl
            · obtain ⟨r, rfl⟩ : ∃ r, x1 = r + 2 := ⟨x1 - 2, by dsimp only at h2; omega⟩
              have h4 : r < i := by dsimp only at h3; omega
              show (R r, x2) = ((fun r => if r = i then Ri else R r) r, x2)
              dsimp only
              rw [if_neg (by omega)]) (fun _ _ => rfl)
          have HV2 : Hid (∀ x, CpI n1 i 0 x → ∀ b, (vs2 x).ownBlock = some b → w9.heap.size ≤ b ∧ b ≠ Ri) := (show ∀ x, _ from fun x hx b e => ⟨HV.out x hx b e, HVN.out x hx b e⟩)
          have HRF := Lib.hid hRf
          have hls12 : wl.heap.size ≤ w12.heap.size := by have := hF1.size; have := hF9.size; omega
          clear hG1 hRf
          go_wp2_with fail
          clear q0 q1 q2 q3 q4 q5 q6
          go_loopw [66] (fun vi wr3 => ∃ (k : Nat) (vs3 : Ix → Value), k ≤ n1 ∧ vi = .int .i64 (k : Int) ∧ GW wr3 wl.heap.size (CpI n1 i k) (CpA KB (fun r => if r = i then Ri else R r)) vs3 (knF kn) (fun _ => []) (bxF bx) ∧ Hid (∀ x, CpI n1 i k x → ∀ b, (vs3 x).ownBlock = some b → w9.heap.size ≤ b ∧ b ≠ Ri) ∧ Fr (fun b => b = Ri) w12 wr3 ∧ (∃ cur, wr3.heap[Ri]? = some (.cells cur 87 (0, 0)) ∧ n1 ≤ cur.size)) (fun vi _ => n1 - (intOf vi).toNat)
          case atStart => exact ⟨0, vs2, Nat.zero_le _, rfl, hG2, HV2, Fr.refl _ _, ⟨curR, hRi2, hcurR⟩⟩
          case round =>
            clear hG2 HV2 hRi2
            obtain ⟨k, vs3, hk, rfl, hG, HV3, hF3, ⟨cur3, hcur3, hcs3⟩⟩ := hrel
            have hX3 := hF3.blk hXw (fun e => by omega)
            have cB3 := hF3.cell cBi (fun e => by omega)
            obtain ⟨q0, q1, q2, q3, q4, q5, q6⟩ := cells7 hX3
            by_cases hltk : k < n1
            · have hltk3 : (k : Int) < n1 := by omega
              have hq : rw1[k]? = some (rw1[k]'(by rw [← hLR2, List.length_map, HLRl.out]; exact hltk)) := List.getElem?_eq_getElem _
              obtain ⟨m, hm⟩ : ∃ m, rw1[k]'(by rw [← hLR2, List.length_map, HLRl.out]; exact hltk) = m := ⟨_, rfl⟩
              rw [hm] at hq
              have hb0r : Below w.heap.size w wr := hb012.trans (hF3.below (fun b e => by omega) (by omega))
              obtain ⟨-, hc1l, b1, o1, s1, rfl, cm, hmr⟩ := NestA.at (BoxR.below hin hb0r) k m hq
              have hbm2 : bxF bx i k = m := by rw [HBI.out, List.getD_eq_getElem?_getD, hq]; rfl
              have hml2 := HML.out m (List.mem_of_getElem? hq)
              obtain ⟨a2, n2, c2⟩ := s1
              dsimp only [slV] at cm hmr
              obtain rfl : n2 = m.length := by obtain ⟨_, _, e, -⟩ := hmr; cases e; rfl
              have hfr3 := free_blk (j := k) hcur3
              obtain ⟨u3, cR3⟩ : ∃ u, wr.cell? ⟨Ri, k, none⟩ = some u := by
                rw [cell_blk hcur3]
                exact ⟨_, Array.getElem?_eq_getElem (by omega)⟩
              have HBM := Lib.hid hbm2
              clear hbm2 hm hq
              go_upto_region 16 with fail
              refine wp_region_heldK (k := 9) (S := fun _ W => W.cell? ⟨X, 6, none⟩ = some (.slice (some ⟨BB, 0, none⟩) n1 cB) ∧ W.cell? ⟨BB, i, none⟩ = some (.slice (some ⟨Ri, 0, none⟩) n1 cRi)) (by kernel_rfl) ?_
              have hS0 : wr.drew.cell? ⟨X, 6, none⟩ = some (.slice (some ⟨BB, 0, none⟩) n1 cB) ∧ wr.drew.cell? ⟨BB, i, none⟩ = some (.slice (some ⟨Ri, 0, none⟩) n1 cRi) := ⟨q6, cB3⟩
              refine tkA 0 (.pointer (some ⟨X, 6, none⟩)) true rfl (fun _ h => h) false hS0 ?_
              refine tkA 1 (.slice (some ⟨BB, 0, none⟩) n1 cB) true rfl (fun _ h => h) false hS0 ?_
              refine tkA 2 (.int .i64 (i : Int)) true rfl (fun _ h => h) false hS0 ?_
              refine tkA 3 (.pointer (some ⟨BB, i, none⟩)) true rfl (fun _ h => h) false hS0 ?_
              refine tkA 4 (.slice (some ⟨Ri, 0, none⟩) n1 cRi) true rfl (fun _ h => h) false hS0 ?_
              refine tkA 5 (.int .i64 (k : Int)) true rfl (fun _ h => h) false hS0 ?_
              refine tkA 6 (.slice a2 m.length c2) true rfl (fun _ h => h) false hS0 ?_
              try simp only [Act.put, List.setIfInBounds_toArray, List.set_cons_zero, List.set_cons_succ]
              refine wpAnyK_one (i := 7) (by kernel_rfl) rfl (by rfl) (b := false) (by kernel_rfl) (fun K hK => ?_)
              go_simp
              go_at_call 69
              refine (msgclone_any (.slice a2 m.length c2) m wr.drew (hmr.below (Below.refl _ _).drew) hml2).mono ?_
              rintro e w4 ⟨x4, rfl, hown4, hb4'⟩
              have hb4 : Below wr.heap.size wr w4 := (Below.refl wr.heap.size wr).drew.trans hb4'
              obtain ⟨ax, cx, hx⟩ := owns_shape hown4
              subst hx
              have hS4 : w4.cell? ⟨X, 6, none⟩ = some (.slice (some ⟨BB, 0, none⟩) n1 cB) ∧ w4.cell? ⟨BB, i, none⟩ = some (.slice (some ⟨Ri, 0, none⟩) n1 cRi) := ⟨(hb4.cell (p := ⟨X, 6, none⟩) (cell_lt q6)).trans q6, (hb4.cell (p := ⟨BB, i, none⟩) (cell_lt cB3)).trans cB3⟩
              have hcur4 := lit_next' hb4 hcur3
              have fr4 := free_blk (j := k) hcur4
              have cR4 := (hb4.cell (p := ⟨Ri, k, none⟩) (cell_lt cR3)).trans cR3
              have had := HRF.out k hltk
              have hG5 := GW.ins (j := (i + 2, k)) (v := .slice ax m.length cx) (u := u3) (J := CpI n1 i (k + 1)) hG (fun h => by
                rcases h with ⟨h2, -⟩ | ⟨-, -, h3⟩
                · dsimp only at h2; omega
                · dsimp only at h3; omega) hb4 (by show w4.ownsRow wr.heap.size 89 encM.k _ (bxF bx i k).length (flatR encM (bxF bx i k)); rw [HBM.out]; exact hown4) (by rw [had]; exact cR3) (by rw [had]; exact hfr3) (by rw [had]; show wl.heap.size ≤ Ri; omega) (by have := hF3.size; omega) (fun x hx e => by rw [had] at e; exact (HV3.out x hx Ri e).2 rfl) (fun x hx e => by
                rw [had] at e
                obtain ⟨x1, x2⟩ := x
                rcases hx with ⟨h2, -⟩ | ⟨h2, -, h3⟩
                · dsimp only at h2; subst h2
                  have h4 : KB = Ri := (Prod.mk.inj e).1
                  omega
                · obtain ⟨r, rfl⟩ : ∃ r, x1 = r + 2 := ⟨x1 - 2, by dsimp only at h2; omega⟩
                  dsimp only at h3
                  have h5 : (if r = i then Ri else R r) = Ri := (Prod.mk.inj e).1
                  have h6 : x2 = k := (Prod.mk.inj e).2
                  by_cases q : r = i
                  · omega
                  · rw [if_neg q] at h5
                    exact HRN.out r (by omega) h5) (fun x hx => by
                obtain ⟨x1, x2⟩ := x
                unfold CpI at hx ⊢
                dsimp only at hx ⊢
                by_cases e : x1 = i + 2 ∧ x2 = k
                · right; rw [e.1, e.2]
                · left; omega)
              rw [had] at hG5
              dsimp only at hG5
              have hF5 := (hF3.grown (grown_of_below hb4) (fun b e => by cases e)).grown (grown_store (b := Ri) (j := k) (v := .slice ax m.length cx)) (fun b e => by cases e; exact .inl rfl)
              have HV5 : Hid (∀ x, CpI n1 i (k + 1) x → ∀ b, (updX vs3 (i + 2, k) (.slice ax m.length cx) x).ownBlock = some b → w9.heap.size ≤ b ∧ b ≠ Ri) := (show ∀ x, _ from fun x hx b e => by
                unfold updX at e
                by_cases q : x = (i + 2, k)
                · rw [if_pos q] at e
                  have h1 : wr.heap.size ≤ b := (hown4.lt b e).1
                  have h2 := hF3.size
                  have h3 := hF1.size
                  exact ⟨by omega, by omega⟩
                · rw [if_neg q] at e
                  refine HV3.out x ?_ b e
                  obtain ⟨x1, x2⟩ := x
                  unfold CpI at hx ⊢
                  dsimp only at hx ⊢
                  have q2 : ¬ (x1 = i + 2 ∧ x2 = k) := fun e2 => q (Prod.ext e2.1 e2.2)
                  omega)
              have hcur5 : ((w4.setCell ⟨Ri, k, none⟩ (.slice ax m.length cx)).heap[Ri]? = some (.cells (cur3.setIfInBounds k (.slice ax m.length cx)) 87 (0, 0))) := heap_setCell_same _ _ _ _ _ _ hcur4
              have hcs5 : n1 ≤ (cur3.setIfInBounds k (.slice ax m.length cx)).size := by simpa using hcs3
              clear had
              dsimp only
              refine hK.out _ _ hS4 ?_
              try simp only [Act.put, List.setIfInBounds_toArray, List.set_cons_zero, List.set_cons_succ]
              refine tkA 8 (.pointer (some ⟨Ri, k, none⟩)) true rfl (fun _ h => h) false hS4 ?_
              try simp only [Act.put, List.setIfInBounds_toArray, List.set_cons_zero, List.set_cons_succ]
              refine wpAnyK_one (i := 9) (by kernel_rfl) rfl (by rfl) (b := true) (by kernel_rfl) (fun K hK => ?_)
              go_simp
              have hS5 : (w4.setCell ⟨Ri, k, none⟩ (.slice ax m.length cx)).cell? ⟨X, 6, none⟩ = some (.slice (some ⟨BB, 0, none⟩) n1 cB) ∧ (w4.setCell ⟨Ri, k, none⟩ (.slice ax m.length cx)).cell? ⟨BB, i, none⟩ = some (.slice (some ⟨Ri, 0, none⟩) n1 cRi) := ⟨(World.cell?_setCell_far _ _ _ _ (by show Ri ≠ X; omega)).trans hS4.1, (World.cell?_setCell_far _ _ _ _ (by show Ri ≠ BB; omega)).trans hS4.2⟩
              refine hK.out _ _ hS5 (wpAnyK_done (by kernel_rfl) ?_ _)
              go_wp2_with fail
              go_roundw
              case rel => exact ⟨k + 1, _, by omega, by go_num, hG5, HV5, hF5, ⟨_, hcur5, hcs5⟩⟩
              case measure => simp [intOf]; omega
            · obtain rfl : k = n1 := by omega
              have hG6 := hG.sub (J := CpI k (i + 1) 0) (fun x hx => by
                obtain ⟨x1, x2⟩ := x
                unfold CpI at hx ⊢
                dsimp only at hx ⊢
                omega)
              have HV6 : Hid (∀ x, CpI k (i + 1) 0 x → ∀ b, (vs3 x).ownBlock = some b → w9.heap.size ≤ b) := (show ∀ x, _ from fun x hx b e => (HV3.out x (by
                obtain ⟨x1, x2⟩ := x
                unfold CpI at hx ⊢
                dsimp only at hx ⊢
                omega) b e).1)
              have HR6 : Hid (∀ r, r < i + 1 → w9.heap.size ≤ (fun r => if r = i then Ri else R r) r) := (show ∀ r, _ from fun r hr => by
                dsimp only
                by_cases q : r = i
                · rw [if_pos q]; have := hF1.size; omega
                · rw [if_neg q]; exact HR.out r (by omega))
              have hF6 := hF1.trans hF3 (fun b e => by right; omega)
              have hcur6 := hF3.blk hcur2 (fun e => by omega)
              have HO6 : Hid (∀ r, r < i + 1 → wr.cell? ⟨BB, r, none⟩ = some (.slice (some ⟨(fun r => if r = i then Ri else R r) r, 0, none⟩) k ((fun r => if r = i then cRi else cR r) r)) ∧ k ≤ (fun r => if r = i then cRi else cR r) r) := (show ∀ r, _ from fun r hr => by
                dsimp only
                by_cases q : r = i
                · subst q; rw [if_pos rfl, if_pos rfl]; exact ⟨cB3, hcRi⟩
                · rw [if_neg q, if_neg q]
                  exact ⟨hF3.cell (HO2.out r (by omega)).1 (fun e => by omega), (HO2.out r (by omega)).2⟩)
              have HC6 : Hid (∀ r p, i + 1 ≤ r → LB[r]? = some p → wr.cell? ⟨BB, r, none⟩ = some (slV p.1)) := (show ∀ r, _ from fun r p hr hp => hF3.cell (HC2.out r p hr hp) (fun e => by omega))
              clear hG hF3 hcur3
              go_wp2_with fail
              go_roundw
              case rel => exact ⟨i + 1, _, _, vs3, by omega, by go_num, hG6, HV6, HR6, hF6, ⟨_, hcur6, hcs2⟩, HO6, HC6⟩
              case measure => simp [intOf]; omega
        · obtain rfl : i = j := by omega
          have hYr := hF.blk hY9 (fun e => by rcases e with e | e <;> omega)
          have fYr := fun t => free_blk (j := t) hYr
          obtain ⟨y0, y1, y2, y3, y4, y5, y6⟩ := cells7 hYr
          have fY0 := fYr 0
          have fY1 := fYr 1
          have fY2 := fYr 2
          have fY3 := fYr 3
          have fY4 := fYr 4
          have fY5 := fYr 5
          have fY6 := fYr 6
          clear fYr
          obtain ⟨wF, hwF⟩ : ∃ W : World, W = (((((((wr.setCell ⟨X + 1, 0, none⟩ (.int .i64 n)).setCell ⟨X + 1, 1, none⟩ (.slice ae1 es.length ce1)).setCell ⟨X + 1, 2, none⟩ (.int .i64 (i : Int))).setCell ⟨X + 1, 3, none⟩ (.slice ao3 ow.length co3)).setCell ⟨X + 1, 4, none⟩ (.slice ah4 hv.length ch4)).setCell ⟨X + 1, 5, none⟩ (.slice (some ⟨KB, 0, none⟩) i cK)).setCell ⟨X + 1, 6, none⟩ (.slice (some ⟨BB, 0, none⟩) i cB)) := ⟨_, rfl⟩
          have hfin := set7all (d0 := .int .i64 n) (d1 := .slice ae1 es.length ce1) (d2 := .int .i64 (i : Int)) (d3 := .slice ao3 ow.length co3) (d4 := .slice ah4 hv.length ch4) (d5 := .slice (some ⟨KB, 0, none⟩) i cK) (d6 := .slice (some ⟨BB, 0, none⟩) i cB) hYr
          have hgF := set7_grown wr (X + 1) (.int .i64 n) (.slice ae1 es.length ce1) (.int .i64 (i : Int)) (.slice ao3 ow.length co3) (.slice ah4 hv.length ch4) (.slice (some ⟨KB, 0, none⟩) i cK) (.slice (some ⟨BB, 0, none⟩) i cB)
          rw [← hwF] at hfin hgF
          have HWF := Lib.hid hwF
          have hFF : Fr (fun b => b = X ∨ b = X + 1) wl wF := ((hF9.mono (D' := fun b => b = X ∨ b = X + 1) (fun b e => .inl e)).trans hF (fun b e => by right; rcases e with e | e <;> omega)).grown hgF (fun b e => by cases e; exact .inl (.inr rfl))
          have hEF := hFF.edges hE5 (fun n' c' p e q => by
            obtain rfl : ae1 = some p := (Value.slice.inj e).1
            have := HED.out p.block rfl
            omega)
          have hOF := hFF.ints hO5 (fun n' c' p e q => by
            obtain rfl : ao3 = some p := (Value.slice.inj e).1
            have := HOD.out p.block rfl
            omega)
          have hHF := hFF.ints hH5 (fun n' c' p e q => by
            obtain rfl : ah4 = some p := (Value.slice.inj e).1
            have := HHD.out p.block rfl
            omega)
          have hGF := GridA.kept hG hgF (fun x hx e => by
            have h1 : X + 1 = (CpA KB R x).1 := Option.some.inj e
            obtain ⟨x1, x2⟩ := x
            rcases hx with ⟨h2, -⟩ | ⟨h2, -, h3⟩
            · dsimp only at h2; subst h2; have h4 : X + 1 = KB := h1; omega
            · obtain ⟨r, rfl⟩ : ∃ r, x1 = r + 2 := ⟨x1 - 2, by dsimp only at h2; omega⟩
              have h4 := HR.out r (by dsimp only at h3; omega)
              have h5 : X + 1 = R r := h1
              omega) (fun x hx b e e2 => by have h1 := HV.out x hx b e; have h2 := Option.some.inj e2; omega)
          have hOW : OwnW wF wl.heap.size i KB BB cK cB R cR vs2 (knF kn) (bxF bx) := ⟨hGF, fun r hr => ⟨hgF.cell (HO.out r hr).1 (show (some BB : Option Nat) ≠ some (X + 1) from fun e => by have := Option.some.inj e; omega), (HO.out r hr).2⟩, hcK, hcB, hBBl2, fun x hx e => by
            obtain ⟨x1, x2⟩ := x
            rcases hx with ⟨h2, -⟩ | ⟨h2, -, h3⟩
            · dsimp only at h2; subst h2; exact hKBB e
            · obtain ⟨r, rfl⟩ : ∃ r, x1 = r + 2 := ⟨x1 - 2, by dsimp only at h2; omega⟩
              have h4 := HR.out r (by dsimp only at h3; omega)
              have h5 : R r = BB := e
              omega, fun x hx e => by have h1 := HV.out x hx BB e; omega⟩
          have hwX : w.heap.size ≤ X := by rw [HX.out]; exact Nat.le_refl _
          have hb0F : Below w.heap.size w wF := (hb09.trans (hF.below (fun b e => by rcases e with e | e <;> omega) (by omega))).grown hgF (by have := hb09.size; have := hF.size; omega) (fun k e => by cases e; omega)
          have hlF : wl.heap.size ≤ wF.heap.size := hFF.size
          have hLE : MidV w.heap.size wl.heap.size (.slice ae1 es.length ce1) := fun n' c' p e => by
            obtain rfl : ae1 = some p := (Value.slice.inj e).1
            exact ⟨by have := (HED.out p.block rfl).1; rw [HX.out]; omega, (HED.out p.block rfl).2⟩
          have hLO : MidV w.heap.size wl.heap.size (.slice ao3 ow.length co3) := fun n' c' p e => by
            obtain rfl : ao3 = some p := (Value.slice.inj e).1
            exact ⟨by have := (HOD.out p.block rfl).1; rw [HX.out]; omega, (HOD.out p.block rfl).2⟩
          have hLH : MidV w.heap.size wl.heap.size (.slice ah4 hv.length ch4) := fun n' c' p e => by
            obtain rfl : ah4 = some p := (Value.slice.inj e).1
            exact ⟨by have := (HHD.out p.block rfl).1; rw [HX.out]; omega, (HHD.out p.block rfl).2⟩
          obtain ⟨t0, t1, t2, t3, t4, t5, t6⟩ := cells7 hfin
          have hwl0 : w.heap.size ≤ wl.heap.size := hb05.size
          clear hFF hGF hgF hG hE5 hO5 hH5 hYr hfin
          go_wp2_with fail
          rw [← HWF.out]
          exact bodyPost_ret (v := .agg #[.int .i64 n, .slice ae1 es.length ce1, .int .i64 (i : Int), .slice ao3 ow.length co3, .slice ah4 hv.length ch4, .slice (some ⟨KB, 0, none⟩) i cK, .slice (some ⟨BB, 0, none⟩) i cB]) (by simp [results, Tryz.results34, go_sem, t0, t1, t2, t3, t4, t5, t6]) rfl ⟨_, _, _, _, _, _, _, KB, BB, cK, cB, R, cR, vs2, rfl, hEF, hOF, hHF, hLE, hLO, hLH, hwl0, hlF, hOW, hb0F⟩
/-- what is handed back for a world without known values and boxes -/
def Copy0Post (w : World) (n P : Int) (es : List E2) (ow hv : List Int) (e : Ending) (w' : World) : Prop :=
  ∃ ae ao ah ce co ch ak ck ab cb lo, e = .returned (.agg #[.int .i64 n, .slice ae es.length ce, .int .i64 P, .slice ao ow.length co, .slice ah hv.length ch, .slice ak 0 ck, .slice ab 0 cb]) ∧ EdgesAt w' (.slice ae es.length ce) es ∧ IntsAt w' (.slice ao ow.length co) ow ∧ IntsAt w' (.slice ah hv.length ch) hv ∧
    MidV w.heap.size lo (.slice ae es.length ce) ∧ MidV w.heap.size lo (.slice ao ow.length co) ∧ MidV w.heap.size lo (.slice ah hv.length ch) ∧ w.heap.size ≤ lo ∧ lo ≤ w'.heap.size ∧ w'.ownsRow lo 22 1 (.slice ak 0 ck) 0 [] ∧ w'.ownsRow lo 75 1 (.slice ab 0 cb) 0 [] ∧ (∀ b, (Value.slice ak 0 ck).ownBlock = some b → (Value.slice ab 0 cb).ownBlock ≠ some b) ∧ Below w.heap.size w w'
set_option linter.unusedSimpArgs false in
set_option maxRecDepth 100000 in
set_option maxHeartbeats 6400000 in
theorem rdcopy0_any (n : Int) (P : Int) (es : List E2) (ow hv : List Int) (ae ao ah : Option Addr) (ce co ch : Nat) (w : World) (he : EdgesAt w (.slice ae es.length ce) es) (hel : es.length ≤ 1000000) (ho : IntsAt w (.slice ao ow.length co) ow) (hol : ow.length ≤ 1000000)
    (hh : IntsAt w (.slice ah hv.length ch) hv) (hhl : hv.length ≤ 1000000) :
    Calls Tryz.prog 34 #[.agg #[.int .i64 n, .slice ae es.length ce, .int .i64 P, .slice ao ow.length co, .slice ah hv.length ch, .slice none 0 0, .slice none 0 0]] w (Copy0Post w n P es ow hv) := by
  obtain ⟨hX0, hb0⟩ := boxG_new w #[.int .i64 n, .slice ae es.length ce, .int .i64 P, .slice ao ow.length co, .slice ah hv.length ch, .slice none 0 0, .slice none 0 0] 36
  obtain ⟨hY0, hb1⟩ := boxG_new (w.alloc (.cells #[.int .i64 n, .slice ae es.length ce, .int .i64 P, .slice ao ow.length co, .slice ah hv.length ch, .slice none 0 0, .slice none 0 0] 36)) #[.int .i64 0, .slice none 0 0, .int .i64 0, .slice none 0 0, .slice none 0 0, .slice none 0 0, .slice none 0 0] 36
  have hX1 := lit_next' hb1 hX0
  have hb01 := hb0.trans (hb1.mono hb0.size)
  have hz : (w.alloc (.cells #[.int .i64 n, .slice ae es.length ce, .int .i64 P, .slice ao ow.length co, .slice ah hv.length ch, .slice none 0 0, .slice none 0 0] 36)).heap.size = w.heap.size + 1 := by simp
  rw [hz] at hY0
  obtain ⟨wA, hwA⟩ : ∃ W : World, W = (w.alloc (.cells #[.int .i64 n, .slice ae es.length ce, .int .i64 P, .slice ao ow.length co, .slice ah hv.length ch, .slice none 0 0, .slice none 0 0] 36)).alloc (.cells #[.int .i64 0, .slice none 0 0, .int .i64 0, .slice none 0 0, .slice none 0 0, .slice none 0 0, .slice none 0 0] 36) := ⟨_, rfl⟩
  obtain ⟨X, hX⟩ : ∃ X, w.heap.size = X := ⟨_, rfl⟩
  rw [← hwA] at hX1 hY0 hb01
  rw [hX] at hX1 hY0
  have HWA := Lib.hid hwA
  have HX := Lib.hid hX
  have hXn : X < wA.heap.size := blk_lt hX1
  have hYn : X + 1 < wA.heap.size := blk_lt hY0
  have hcl := geclone_any (.slice ae es.length ce) es wA ((he.below hb01).row hel) hel
  clear hwA hX0 hb0 hb1 hz he
  obtain ⟨q0, q1, q2, q3, q4, q5, q6⟩ := cells7 hX1
  have fX := fun j => free_blk (j := j) hX1
  go_enter Tryz.func34, Tryz.ntmps34
  go_wp2_with (rw [← HWA.out])
  refine hcl.mono ?_
  rintro e w1 ⟨x1, rfl, hown1, hbC1⟩
  have hX2 := lit_next' hbC1 hX1
  have hY2 := lit_next' hbC1 hY0
  obtain ⟨ae1, ce1, hx1⟩ := owns_shape hown1
  subst hx1
  have hE1 : EdgesAt w1 (.slice ae1 es.length ce1) es := by
    obtain ⟨a', c', e', h', -⟩ := EdgesAt.of_owns hown1 (by omega)
    cases e'; exact h'
  have hEb : ∀ b, (Value.slice ae1 es.length ce1).ownBlock = some b → wA.heap.size ≤ b := fun b e => (hown1.lt b e).1
  clear hcl q0 q1 q2 q3 q4 q5 q6 fX
  obtain ⟨q0, q1, q2, q3, q4, q5, q6⟩ := cells7 hX2
  have fX1 := free_blk (j := 1) hX2
  have hX3 := (set7 hX2 (.slice ae1 es.length ce1)).1
  have hY3 : (w1.setCell ⟨X, 1, none⟩ (.slice ae1 es.length ce1)).heap[X + 1]? = _ := (Below.heap_setCell _ _ _ _ (by show X + 1 ≠ X; omega)).trans hY2
  have hb02 : Below w.heap.size w (w1.setCell ⟨X, 1, none⟩ (.slice ae1 es.length ce1)) := (hb01.trans (hbC1.mono hb01.size)).setCell (p := ⟨X, 1, none⟩) (by show w.heap.size ≤ X; rw [HX.out]; exact Nat.le_refl _) _
  have hE3 : EdgesAt (w1.setCell ⟨X, 1, none⟩ (.slice ae1 es.length ce1)) (.slice ae1 es.length ce1) es := hE1.grown grown_store (fun g e => fun n' c p ep => by
    cases e
    obtain rfl : ae1 = some p := (Value.slice.inj ep).1
    have := hEb p.block rfl
    omega)
  obtain ⟨w2, hw2⟩ : ∃ W : World, W = w1.setCell ⟨X, 1, none⟩ (.slice ae1 es.length ce1) := ⟨_, rfl⟩
  go_upto_region 2 with fail
  have hEb2 := hEb
  have hEu : ∀ b, (Value.slice ae1 es.length ce1).ownBlock = some b → b < w2.heap.size := fun b e => by have := (hown1.lt b e).2; rw [hw2]; simpa [World.setCell] using this
  have hz2 : wA.heap.size ≤ w2.heap.size := by rw [hw2]; simpa [World.setCell] using hbC1.size
  rw [← hw2] at hX3 hY3 hb02 hE3 ⊢
  have ho2 := (ho.below hb02)
  have hh2 := (hh.below hb02)
  clear hw2 hX2 hY2 hX1 hY0 hE1 hEb hown1 hbC1 q0 q1 q2 q3 q4 q5 q6 fX1
  obtain ⟨q0, q1, q2, q3, q4, q5, q6⟩ := cells7 hX3
  have hX2l : X < w2.heap.size := blk_lt hX3
  refine wp_region_heldK (k := 10) (S := fun b W => match b with | false => (W.cell? ⟨X, 3, none⟩ = some (.slice ao ow.length co) ∧ W.cell? ⟨X, 4, none⟩ = some (.slice ah hv.length ch)) | true => True) (by kernel_rfl) ?_
  have hS0 : w2.drew.cell? ⟨X, 3, none⟩ = some (.slice ao ow.length co) ∧ w2.drew.cell? ⟨X, 4, none⟩ = some (.slice ah hv.length ch) := ⟨q3, q4⟩
  refine tkA 0 (.pointer (some ⟨X, 2, none⟩)) true rfl (fun _ _ => trivial) false hS0 ?_
  refine tkA 1 (.pointer (some ⟨X, 3, none⟩)) true rfl (fun _ _ => trivial) false hS0 ?_
  refine tkA 2 (.slice ao ow.length co) false rfl (fun _ _ => trivial) false hS0 ?_
  refine tkA 4 (.pointer (some ⟨X, 2, none⟩)) true rfl (fun _ _ => trivial) false hS0 ?_
  refine tkA 5 (.pointer (some ⟨X, 4, none⟩)) true rfl (fun _ _ => trivial) false hS0 ?_
  refine tkA 6 (.slice ah hv.length ch) false rfl (fun _ _ => trivial) false hS0 ?_
  try simp only [Act.put, List.setIfInBounds_toArray, List.set_cons_zero, List.set_cons_succ]
  refine wpAnyK_one (i := 3) (by kernel_rfl) rfl (by rfl) (b := false) (by kernel_rfl) (fun K hK => ?_)
  go_simp
  go_at_call 46
  refine (iclone_any ao co ow w2.drew (ho2.below (Below.refl _ _).drew) hol).mono ?_
  rintro e w3 ⟨x3, rfl, hown3, hb3'⟩
  have hb3 : Below w2.heap.size w2 w3 := (Below.refl w2.heap.size w2).drew.trans hb3'
  obtain ⟨ao3, co3, hx3⟩ := owns_shape hown3
  subst hx3
  have hS3 : w3.cell? ⟨X, 3, none⟩ = some (.slice ao ow.length co) ∧ w3.cell? ⟨X, 4, none⟩ = some (.slice ah hv.length ch) := ⟨(hb3.cell (p := ⟨X, 3, none⟩) hX2l).trans q3, (hb3.cell (p := ⟨X, 4, none⟩) hX2l).trans q4⟩
  dsimp only
  refine hK.out _ _ hS3 ?_
  try simp only [Act.put, List.setIfInBounds_toArray, List.set_cons_zero, List.set_cons_succ]
  refine tkA 8 (.pointer (some ⟨X, 2, none⟩)) true rfl (fun _ _ => trivial) false hS3 ?_
  refine tkA 9 (.pointer (some ⟨X, 3, none⟩)) true rfl (fun _ _ => trivial) false hS3 ?_
  try simp only [Act.put, List.setIfInBounds_toArray, List.set_cons_zero, List.set_cons_succ]
  refine wpAnyK_one (i := 7) (by kernel_rfl) rfl (by rfl) (b := false) (by kernel_rfl) (fun K hK => ?_)
  go_simp
  go_at_call 46
  refine (iclone_any ah ch hv w3 (hh2.below hb3) hhl).mono ?_
  rintro e w4 ⟨x4, rfl, hown4, hb4⟩
  obtain ⟨ah4, ch4, hx4⟩ := owns_shape hown4
  subst hx4
  have hX3l : X < w3.heap.size := Nat.lt_of_lt_of_le hX2l hb3.size
  have hS4 : w4.cell? ⟨X, 3, none⟩ = some (.slice ao ow.length co) ∧ w4.cell? ⟨X, 4, none⟩ = some (.slice ah hv.length ch) := ⟨(hb4.cell (p := ⟨X, 3, none⟩) hX3l).trans hS3.1, (hb4.cell (p := ⟨X, 4, none⟩) hX3l).trans hS3.2⟩
  have hb24 := hb3.trans (hb4.mono hb3.size)
  have hX4 := lit_next' hb24 hX3
  have hY4 := lit_next' hb24 hY3
  have hE4 := hE3.below hb24
  have hO4 : IntsAt w4 (.slice ao3 ow.length co3) ow := by
    obtain ⟨a', c', e', h', -⟩ := IntsAt.of_owns hown3 (by omega)
    cases e'; exact h'.below hb4
  have hH4 : IntsAt w4 (.slice ah4 hv.length ch4) hv := by
    obtain ⟨a', c', e', h', -⟩ := IntsAt.of_owns hown4 (by omega)
    cases e'; exact h'
  have hOb : ∀ b, (Value.slice ao3 ow.length co3).ownBlock = some b → w2.heap.size ≤ b := fun b e => (hown3.lt b e).1
  have hHb : ∀ b, (Value.slice ah4 hv.length ch4).ownBlock = some b → w2.heap.size ≤ b := fun b e => Nat.le_trans hb3.size (hown4.lt b e).1
  have hEb4 : ∀ b, (Value.slice ae1 es.length ce1).ownBlock = some b → wA.heap.size ≤ b := hEb2
  have hz4 : wA.heap.size ≤ w2.heap.size := hz2
  have hz43 : w3.heap.size ≤ w4.heap.size := hb4.size
  have hz32 : w2.heap.size ≤ w3.heap.size := hb3.size
  have hEd : ∀ b, (Value.slice ae1 es.length ce1).ownBlock = some b → X + 1 < b ∧ b < w4.heap.size := fun b e => ⟨by have := hEb4 b e; omega, by have := hEu b e; omega⟩
  have hOd : ∀ b, (Value.slice ao3 ow.length co3).ownBlock = some b → X + 1 < b ∧ b < w4.heap.size := fun b e => by have := hown3.lt b e; have h2 : w2.heap.size ≤ b := this.1; omega
  have hHd : ∀ b, (Value.slice ah4 hv.length ch4).ownBlock = some b → X + 1 < b ∧ b < w4.heap.size := fun b e => by have := hown4.lt b e; omega
  have fX3 := free_blk (j := 3) hX4
  have fX4 := free_blk (j := 4) hX4
  have hX5 := (set7 hX4 (.slice ao3 ow.length co3)).2.1
  have hX6 := (set7 hX5 (.slice ah4 hv.length ch4)).2.2.1
  have c4X : (w4.setCell ⟨X, 3, none⟩ (.slice ao3 ow.length co3)).cell? ⟨X, 4, none⟩ = some (.slice ah hv.length ch) := cell_blk hX5
  dsimp only
  refine hK.out _ _ hS4 ?_
  try simp only [Act.put, List.setIfInBounds_toArray, List.set_cons_zero, List.set_cons_succ]
  refine wpAnyK_one (i := 10) (by kernel_rfl) rfl (by rfl) (b := true) (by kernel_rfl) (fun K hK => ?_)
  go_simp
  refine hK.out _ _ trivial ?_
  try simp only [Act.put, List.setIfInBounds_toArray, List.set_cons_zero, List.set_cons_succ]
  refine tkA 11 (.pointer (some ⟨X, 2, none⟩)) true rfl (fun _ _ => trivial) true trivial ?_
  refine tkA 12 (.pointer (some ⟨X, 4, none⟩)) true rfl (fun _ _ => trivial) true trivial ?_
  try simp only [Act.put, List.setIfInBounds_toArray, List.set_cons_zero, List.set_cons_succ]
  refine wpAnyK_one (i := 13) (by kernel_rfl) rfl (by rfl) (b := true) (by kernel_rfl) (fun K hK => ?_)
  go_simp
  refine hK.out _ _ trivial (wpAnyK_done (by kernel_rfl) ?_ _)
  have hgX : ∀ (v u : Value), w4.grownBy ((w4.setCell ⟨X, 3, none⟩ v).setCell ⟨X, 4, none⟩ u) (some X) := fun v u => grown_trans grown_store grown_store
  have hoffX : ∀ (a : Option Addr) (m c : Nat), (∀ b, (Value.slice a m c).ownBlock = some b → X < b) → ∀ g, (some X : Option Nat) = some g → Off g (.slice a m c) := fun a m c h g e n' c' p ep => by
    cases e
    obtain rfl : a = some p := (Value.slice.inj ep).1
    have := h p.block rfl
    omega
  have hE5 := hE4.grown (hgX (.slice ao3 ow.length co3) (.slice ah4 hv.length ch4)) (hoffX _ _ _ (fun b e => by have := hEb4 b e; omega))
  have hO5 := hO4.grown (hgX (.slice ao3 ow.length co3) (.slice ah4 hv.length ch4)) (hoffX _ _ _ (fun b e => by have := hOb b e; omega))
  have hH5 := hH4.grown (hgX (.slice ao3 ow.length co3) (.slice ah4 hv.length ch4)) (hoffX _ _ _ (fun b e => by have := hHb b e; omega))
  have hY6 : ((w4.setCell ⟨X, 3, none⟩ (.slice ao3 ow.length co3)).setCell ⟨X, 4, none⟩ (.slice ah4 hv.length ch4)).heap[X + 1]? = _ := (Below.heap_setCell _ _ _ _ (by show X + 1 ≠ X; omega)).trans ((Below.heap_setCell _ _ _ _ (by show X + 1 ≠ X; omega)).trans hY4)
  have hb05 : Below w.heap.size w ((w4.setCell ⟨X, 3, none⟩ (.slice ao3 ow.length co3)).setCell ⟨X, 4, none⟩ (.slice ah4 hv.length ch4)) := ((hb02.trans (hb24.mono hb02.size)).setCell (p := ⟨X, 3, none⟩) (by show w.heap.size ≤ X; rw [HX.out]; exact Nat.le_refl _) _).setCell (p := ⟨X, 4, none⟩) (by show w.heap.size ≤ X; rw [HX.out]; exact Nat.le_refl _) _
  obtain ⟨wl, hwl⟩ : ∃ W : World, W = (w4.setCell ⟨X, 3, none⟩ (.slice ao3 ow.length co3)).setCell ⟨X, 4, none⟩ (.slice ah4 hv.length ch4) := ⟨_, rfl⟩
  rw [← hwl] at hX6 hY6 hE5 hO5 hH5 hb05
  have HWL := Lib.hid hwl
  have hzl : wl.heap.size = w4.heap.size := by rw [hwl]; simp [World.setCell]
  have HED : Hid (∀ b, (Value.slice ae1 es.length ce1).ownBlock = some b → X + 1 < b ∧ b < wl.heap.size) := (show ∀ b, _ from by rw [hzl]; exact hEd)
  have HOD : Hid (∀ b, (Value.slice ao3 ow.length co3).ownBlock = some b → X + 1 < b ∧ b < wl.heap.size) := (show ∀ b, _ from by rw [hzl]; exact hOd)
  have HHD : Hid (∀ b, (Value.slice ah4 hv.length ch4).ownBlock = some b → X + 1 < b ∧ b < wl.heap.size) := (show ∀ b, _ from by rw [hzl]; exact hHd)
  clear hzl hEd hOd hHd hEu hz2 hz4 hz43 hz32
  clear hwl hgX hoffX hY4 hX4 hX5 hE4 hO4 hH4 hOb hHb hEb4 hEb2 fX3 fX4 c4X hS4 hS3 hS0 hown3 hown4 hb24 hb3 hb3' hb4 hX3 hY3 hE3 ho2 hh2 q0 q1 q2 q3 q4 q5 q6 hX2l hX3l hb02
  obtain ⟨q0, q1, q2, q3, q4, q5, q6⟩ := cells7 hX6
  have hXl : X < wl.heap.size := blk_lt hX6
  have hYl : X + 1 < wl.heap.size := blk_lt hY6
  rw [← HWL.out]
  go_upto_region 3 with fail
  refine wp_region_heldK (k := 7) (S := fun b W => match b with | false => (W.cell? ⟨X, 5, none⟩ = some (.slice none 0 0) ∧ W.cell? ⟨X, 6, none⟩ = some (.slice none 0 0)) | true => True) (by kernel_rfl) ?_
  have hS0 : wl.drew.cell? ⟨X, 5, none⟩ = some (.slice none 0 0) ∧ wl.drew.cell? ⟨X, 6, none⟩ = some (.slice none 0 0) := ⟨q5, q6⟩
  refine tkA 0 (.pointer (some ⟨X, 5, none⟩)) true rfl (fun _ _ => trivial) false hS0 ?_
  refine tkA 1 (.slice none 0 0) false rfl (fun _ _ => trivial) false hS0 ?_
  refine tkA 3 (.pointer (some ⟨X, 6, none⟩)) true rfl (fun _ _ => trivial) false hS0 ?_
  refine tkA 4 (.slice none 0 0) false rfl (fun _ _ => trivial) false hS0 ?_
  try simp only [Act.put, List.setIfInBounds_toArray, List.set_cons_zero, List.set_cons_succ]
  refine wpAnyK_one (i := 2) (by kernel_rfl) rfl (by rfl) (b := false) (by kernel_rfl) (fun K hK => ?_)
  go_simp
  go_at_call 66
  refine (rrclone_any (α := Nat) (.slice none 0 0) [] wl.drew (RowAt.nil _) (by simp)).mono ?_
  rintro e w5 ⟨x5, rfl, hown5, hb5'⟩
  have hb5 : Below wl.heap.size wl w5 := (Below.refl wl.heap.size wl).drew.trans hb5'
  obtain ⟨a5, c5, hx5⟩ := owns_shape hown5
  subst hx5
  have hS5 : w5.cell? ⟨X, 5, none⟩ = some (.slice none 0 0) ∧ w5.cell? ⟨X, 6, none⟩ = some (.slice none 0 0) := ⟨(hb5.cell (p := ⟨X, 5, none⟩) hXl).trans q5, (hb5.cell (p := ⟨X, 6, none⟩) hXl).trans q6⟩
  dsimp only
  refine hK.out _ _ hS5 ?_
  try simp only [Act.put, List.setIfInBounds_toArray, List.set_cons_zero, List.set_cons_succ]
  refine tkA 6 (.pointer (some ⟨X, 5, none⟩)) true rfl (fun _ _ => trivial) false hS5 ?_
  try simp only [Act.put, List.setIfInBounds_toArray, List.set_cons_zero, List.set_cons_succ]
  refine wpAnyK_one (i := 5) (by kernel_rfl) rfl (by rfl) (b := false) (by kernel_rfl) (fun K hK => ?_)
  go_simp
  go_at_call 67
  refine (rrmclone_any (α := Nat) (.slice none 0 0) [] w5 (RowAt.nil _) (by simp)).mono ?_
  rintro e w6 ⟨x6, rfl, hown6, hb6⟩
  obtain ⟨a6, c6, hx6⟩ := owns_shape hown6
  subst hx6
  have hX5l : X < w5.heap.size := Nat.lt_of_lt_of_le hXl hb5.size
  have hS6 : w6.cell? ⟨X, 5, none⟩ = some (.slice none 0 0) ∧ w6.cell? ⟨X, 6, none⟩ = some (.slice none 0 0) := ⟨(hb6.cell (p := ⟨X, 5, none⟩) hX5l).trans hS5.1, (hb6.cell (p := ⟨X, 6, none⟩) hX5l).trans hS5.2⟩
  have hb56 := hb5.trans (hb6.mono hb5.size)
  have hX7 := lit_next' hb56 hX6
  have fX5 := free_blk (j := 5) hX7
  have fX6 := free_blk (j := 6) hX7
  have hX8 := (set7 hX7 (.slice a5 0 c5)).2.2.2.1
  have hX9 := (set7 hX8 (.slice a6 0 c6)).2.2.2.2
  have c6X : (w6.setCell ⟨X, 5, none⟩ (.slice a5 0 c5)).cell? ⟨X, 6, none⟩ = some (.slice none 0 0) := cell_blk hX8
  dsimp only
  refine hK.out _ _ hS6 ?_
  try simp only [Act.put, List.setIfInBounds_toArray, List.set_cons_zero, List.set_cons_succ]
  refine wpAnyK_one (i := 7) (by kernel_rfl) rfl (by rfl) (b := true) (by kernel_rfl) (fun K hK => ?_)
  go_simp
  refine hK.out _ _ trivial ?_
  try simp only [Act.put, List.setIfInBounds_toArray, List.set_cons_zero, List.set_cons_succ]
  refine tkA 8 (.pointer (some ⟨X, 6, none⟩)) true rfl (fun _ _ => trivial) true trivial ?_
  try simp only [Act.put, List.setIfInBounds_toArray, List.set_cons_zero, List.set_cons_succ]
  refine wpAnyK_one (i := 9) (by kernel_rfl) rfl (by rfl) (b := true) (by kernel_rfl) (fun K hK => ?_)
  go_simp
  refine hK.out _ _ trivial (wpAnyK_done (by kernel_rfl) ?_ _)
  have hk5 : ∀ b, (Value.slice a5 0 c5).ownBlock = some b → wl.heap.size ≤ b ∧ b < w5.heap.size := fun b e => hown5.lt b e
  have hk6 : ∀ b, (Value.slice a6 0 c6).ownBlock = some b → w5.heap.size ≤ b := fun b e => (hown6.lt b e).1
  have hgg : w6.grownBy ((w6.setCell ⟨X, 5, none⟩ (.slice a5 0 c5)).setCell ⟨X, 6, none⟩ (.slice a6 0 c6)) (some X) := grown_trans grown_store grown_store
  have hown5b := (hown5.kept (grown_of_below hb6) (Classical.em _)).kept hgg (.inr fun e => by have := (hk5 X e).1; omega)
  have hown6b := hown6.kept hgg (.inr fun e => by have := hk6 X e; omega)
  have hY9 : ((w6.setCell ⟨X, 5, none⟩ (.slice a5 0 c5)).setCell ⟨X, 6, none⟩ (.slice a6 0 c6)).heap[X + 1]? = _ := grown_blk hgg (lit_next' hb56 hY6) (show (some (X + 1) : Option Nat) ≠ some X from fun e => by have := Option.some.inj e; omega)
  have hXw : w.heap.size ≤ X := by rw [HX.out]; exact Nat.le_refl _
  have hb09 : Below w.heap.size w ((w6.setCell ⟨X, 5, none⟩ (.slice a5 0 c5)).setCell ⟨X, 6, none⟩ (.slice a6 0 c6)) := ((hb05.trans (hb56.mono hb05.size)).setCell (p := ⟨X, 5, none⟩) hXw _).setCell (p := ⟨X, 6, none⟩) hXw _
  have hF9 : Fr (fun b => b = X ∨ b = X + 1) wl ((w6.setCell ⟨X, 5, none⟩ (.slice a5 0 c5)).setCell ⟨X, 6, none⟩ (.slice a6 0 c6)) := (Fr.of_below hb56).grown hgg (fun b e => by cases e; exact .inl (.inl rfl))
  obtain ⟨w9, hw9⟩ : ∃ W : World, W = (w6.setCell ⟨X, 5, none⟩ (.slice a5 0 c5)).setCell ⟨X, 6, none⟩ (.slice a6 0 c6) := ⟨_, rfl⟩
  rw [← hw9] at hX9 hY9 hown5b hown6b hb09 hF9
  have HW9 := Lib.hid hw9
  clear hw9 hX7 hX8 c6X fX5 fX6 hS0 hS5 hS6 hown5 hown6 hb5' hb6 hb56 q0 q1 q2 q3 q4 q5 q6 hX6 hY6 hX5l
  obtain ⟨q0, q1, q2, q3, q4, q5, q6⟩ := cells7 hX9
  obtain ⟨wF, hwF⟩ : ∃ W : World, W = (((((((w9.setCell ⟨X + 1, 0, none⟩ (.int .i64 n)).setCell ⟨X + 1, 1, none⟩ (.slice ae1 es.length ce1)).setCell ⟨X + 1, 2, none⟩ (.int .i64 P)).setCell ⟨X + 1, 3, none⟩ (.slice ao3 ow.length co3)).setCell ⟨X + 1, 4, none⟩ (.slice ah4 hv.length ch4)).setCell ⟨X + 1, 5, none⟩ (.slice a5 0 c5)).setCell ⟨X + 1, 6, none⟩ (.slice a6 0 c6)) := ⟨_, rfl⟩
  have hfin := set7all (d0 := .int .i64 n) (d1 := .slice ae1 es.length ce1) (d2 := .int .i64 P) (d3 := .slice ao3 ow.length co3) (d4 := .slice ah4 hv.length ch4) (d5 := .slice a5 0 c5) (d6 := .slice a6 0 c6) hY9
  have hgF := set7_grown w9 (X + 1) (.int .i64 n) (.slice ae1 es.length ce1) (.int .i64 P) (.slice ao3 ow.length co3) (.slice ah4 hv.length ch4) (.slice a5 0 c5) (.slice a6 0 c6)
  rw [← hwF] at hfin hgF
  have HWF := Lib.hid hwF
  have hFF := hF9.grown hgF (fun b e => by cases e; exact .inl (.inr rfl))
  have hEF := hFF.edges hE5 (fun n' c' p e q => by
    obtain rfl : ae1 = some p := (Value.slice.inj e).1
    have := HED.out p.block rfl
    omega)
  have hOF := hFF.ints hO5 (fun n' c' p e q => by
    obtain rfl : ao3 = some p := (Value.slice.inj e).1
    have := HOD.out p.block rfl
    omega)
  have hHF := hFF.ints hH5 (fun n' c' p e q => by
    obtain rfl : ah4 = some p := (Value.slice.inj e).1
    have := HHD.out p.block rfl
    omega)
  have hLE : MidV w.heap.size wl.heap.size (.slice ae1 es.length ce1) := fun n' c' p e => by
    obtain rfl : ae1 = some p := (Value.slice.inj e).1
    exact ⟨by have := (HED.out p.block rfl).1; rw [HX.out]; omega, (HED.out p.block rfl).2⟩
  have hLO : MidV w.heap.size wl.heap.size (.slice ao3 ow.length co3) := fun n' c' p e => by
    obtain rfl : ao3 = some p := (Value.slice.inj e).1
    exact ⟨by have := (HOD.out p.block rfl).1; rw [HX.out]; omega, (HOD.out p.block rfl).2⟩
  have hLH : MidV w.heap.size wl.heap.size (.slice ah4 hv.length ch4) := fun n' c' p e => by
    obtain rfl : ah4 = some p := (Value.slice.inj e).1
    exact ⟨by have := (HHD.out p.block rfl).1; rw [HX.out]; omega, (HHD.out p.block rfl).2⟩
  have hw5F := hown5b.kept hgF (.inr fun e => by have := (hk5 _ e).1; omega)
  have hw6F := owns_base (hown6b.kept hgF (.inr fun e => by have := hk6 _ e; have := hb5.size; omega)) hb5.size
  have hap : ∀ b, (Value.slice a5 0 c5).ownBlock = some b → (Value.slice a6 0 c6).ownBlock ≠ some b := fun b e e2 => by have := hk5 b e; have := hk6 b e2; omega
  have hb0F : Below w.heap.size w wF := hb09.grown hgF hb09.size (fun k e => by cases e; omega)
  have hlF : wl.heap.size ≤ wF.heap.size := hFF.size
  obtain ⟨t0, t1, t2, t3, t4, t5, t6⟩ := cells7 hfin
  obtain ⟨y0, y1, y2, y3, y4, y5, y6⟩ := cells7 hY9
  have fYr := fun t => free_blk (j := t) hY9
  have fY0 := fYr 0
  have fY1 := fYr 1
  have fY2 := fYr 2
  have fY3 := fYr 3
  have fY4 := fYr 4
  have fY5 := fYr 5
  have fY6 := fYr 6
  have hwl0 : w.heap.size ≤ wl.heap.size := hb05.size
  clear fYr hFF hgF hE5 hO5 hH5 hY9 hfin hF9 hown5b hown6b hk5 hk6 hX9
  go_upto_region 4 with fail
  rw [← HW9.out]
  go_wp2_with fail
  go_loopw [38] (fun vi wr => vi = .int .i64 0 ∧ wr = w9) (fun _ _ => 0)
  case atStart => exact ⟨rfl, rfl⟩
  case round =>
    obtain ⟨rfl, rfl⟩ := hrel
    go_wp2_with fail
    go_loopw [53] (fun vi wr2 => vi = .int .i64 0 ∧ wr2 = wr) (fun _ _ => 0)
    case atStart => exact ⟨rfl, rfl⟩
    case round =>
      obtain ⟨rfl, rfl⟩ := hrel
      go_wp2_with fail
      rw [← HWF.out]
      exact bodyPost_ret (v := .agg #[.int .i64 n, .slice ae1 es.length ce1, .int .i64 P, .slice ao3 ow.length co3, .slice ah4 hv.length ch4, .slice a5 0 c5, .slice a6 0 c6]) (by simp [results, Tryz.results34, go_sem, t0, t1, t2, t3, t4, t5, t6]) rfl ⟨_, _, _, _, _, _, _, _, _, _, _, rfl, hEF, hOF, hHF, hLE, hLO, hLH, hwl0, hlF, hw5F, hw6F, hap, hb0F⟩
end Go.Proofs.YtdkmdcdoiaelfaaGreat
