/- The contract of a graph with something changed. -/
import Derived.Test.YtekbpoppajbljaaDoorMkGraph
import Derived.Test.YtekbpoppajbljaaDoorApp
import Derived.BigRegion
import Derived.Deep.RegionWith
import Derived.Deep.RegionLaw
namespace Go.Proofs.YtekbpoppajbljaaDoor
open Go.RowKit Go.BigFrame

theorem flatE_set (es : List E2) : ∀ (i : Nat) (x y : Int), flatE (es.set i (x, y)) = ((flatE es).set (i * 2) (.int .i64 x)).set (i * 2 + 1) (.int .i64 y) := by
  induction es with
  | nil => intro i x y; simp [flatE]
  | cons e es ih =>
    intro i x y
    cases i with
    | zero => simp [flatE]
    | succ i =>
      have h := ih i x y
      have h2 : (i + 1) * 2 = i * 2 + 1 + 1 := by omega
      rw [h2]
      show Value.int .i64 e.1 :: Value.int .i64 e.2 :: flatE (es.set i (x, y)) = _
      rw [h]
      rfl
/-- the row of edges in block g -/
structure RowE (w : World) (g cap : Nat) (es : List E2) : Prop where
  blk : ∃ cur : Array Value, w.heap[g]? = some (.cells cur 42 (0, 0)) ∧ cur.toList.take (es.length * 2) = flatE es
  cap : es.length ≤ cap
  small : es.length ≤ 1099511627776
theorem RowE.edges {w : World} {g cap : Nat} {es : List E2} (h : RowE w g cap es) : EdgesAt w (.slice (some ⟨g, 0, none⟩) es.length cap) es := by
  obtain ⟨⟨cur, hb, ht⟩, hc, hs⟩ := h
  have hat : ∀ j u, (flatE es)[j]? = some u → w.cell? ⟨g, j, none⟩ = some u := fun j u hu => by
    rw [cell_blk hb, ← Array.getElem?_toList]
    have hj := (List.getElem?_eq_some_iff.1 hu).1
    rw [flatE_length] at hj
    rw [← ht, List.getElem?_take, if_pos hj] at hu
    exact hu
  refine ⟨_, cap, rfl, hc, (fun e => by cases e), by omega, fun i e hi => ⟨g, 0, rfl, ?_, ?_⟩⟩
  · rw [Nat.zero_add]; exact hat _ _ (flatE_get es i e hi).1
  · rw [Nat.zero_add]; exact hat _ _ (flatE_get es i e hi).2
theorem RowE.at {w : World} {g cap : Nat} {es : List E2} (h : RowE w g cap es) (i : Nat) (e : E2) (hi : es[i]? = some e) : w.cell? ⟨g, i * 2, none⟩ = some (.int .i64 e.1) ∧ w.cell? ⟨g, i * 2 + 1, none⟩ = some (.int .i64 e.2) ∧ (∀ j, w.frozen? ⟨g, j, none⟩ = false) := by
  obtain ⟨⟨cur, hb, ht⟩, hc, hs⟩ := h
  have hat : ∀ j u, (flatE es)[j]? = some u → w.cell? ⟨g, j, none⟩ = some u := fun j u hu => by
    rw [cell_blk hb, ← Array.getElem?_toList]
    have hj := (List.getElem?_eq_some_iff.1 hu).1
    rw [flatE_length] at hj
    rw [← ht, List.getElem?_take, if_pos hj] at hu
    exact hu
  exact ⟨hat _ _ (flatE_get es i e hi).1, hat _ _ (flatE_get es i e hi).2, fun j => free_blk hb⟩
theorem RowE.set {w : World} {g cap : Nat} {es : List E2} (h : RowE w g cap es) (i : Nat) (x y : Int) : RowE ((w.setCell ⟨g, i * 2, none⟩ (.int .i64 x)).setCell ⟨g, i * 2 + 1, none⟩ (.int .i64 y)) g cap (es.set i (x, y)) := by
  obtain ⟨⟨cur, hb, ht⟩, hc, hs⟩ := h
  refine ⟨⟨_, heap_setCell_same _ _ _ _ _ _ (heap_setCell_same _ _ _ _ _ _ hb), ?_⟩, by rw [List.length_set]; exact hc, by rw [List.length_set]; exact hs⟩
  rw [List.length_set, flatE_set, ← ht, Array.toList_setIfInBounds, Array.toList_setIfInBounds, List.take_set, List.take_set]
theorem RowE.set1 {w : World} {g cap : Nat} {es : List E2} (h : RowE w g cap es) (i : Nat) (e : E2) (hi : es[i]? = some e) (y : Int) : RowE (w.setCell ⟨g, i * 2 + 1, none⟩ (.int .i64 y)) g cap (es.set i (e.1, y)) := by
  obtain ⟨⟨cur, hb, ht⟩, hc, hs⟩ := h
  refine ⟨⟨_, heap_setCell_same _ _ _ _ _ _ hb, ?_⟩, by rw [List.length_set]; exact hc, by rw [List.length_set]; exact hs⟩
  have h0 := (flatE_get es i e hi).1
  rw [List.length_set, flatE_set, ← ht, Array.toList_setIfInBounds, List.take_set]
  congr 1
  rw [ht]
  obtain ⟨hl, h0⟩ := List.getElem?_eq_some_iff.1 h0
  rw [← h0, List.set_getElem_self]
theorem RowE.of_owns {w : World} {base cap : Nat} {a : Option Addr} {es : List E2} (h : w.ownsRow base 42 2 (.slice a es.length cap) es.length (flatE es)) (hl : es.length ≤ 1099511627776) (hp : 0 < es.length) : ∃ g, a = some ⟨g, 0, none⟩ ∧ base ≤ g ∧ RowE w g cap es := by
  rcases h.2 with ⟨hv, h0⟩ | ⟨g, cap', cur, hv, hb, hg, hn, hc, hs, ht⟩
  · omega
  · cases hv
    exact ⟨g, rfl, hb, ⟨⟨cur, hg, ht⟩, hn, hl⟩⟩
theorem RowE.grown {w w' : World} {g cap : Nat} {es : List E2} {r : Option Nat} (h : RowE w g cap es) (hg : w.grownBy w' r) (hr : some g ≠ r) : RowE w' g cap es := by
  obtain ⟨⟨cur, hb, ht⟩, hc, hs⟩ := h
  exact ⟨⟨cur, grown_blk hg hb hr, ht⟩, hc, hs⟩

def SpoiltPost (b : Nat) (w : World) (e : Ending) (w' : World) : Prop :=
  ∃ (n : Int) (es : List E2) (a : Option Addr) (cap : Nat), e = .returned (.agg #[.int .i64 n, .slice a es.length cap]) ∧ EdgesAt w' (.slice a es.length cap) es ∧ DeckAt w' b ∧ w.grownBy w' (some b) ∧ (∀ p, a = some p → w.heap.size ≤ p.block)
/-- the state: the graph's block, the result's block, the deck -/
structure SpW (w wr : World) (b : Nat) (n : Int) (sl : Value) : Prop where
  g : wr.heap[w.heap.size]? = some (.cells #[.int .i64 n, sl] 27 (0, 0))
  r : wr.heap[w.heap.size + 1]? = some (.cells #[.int .i64 0, .slice none 0 0] 27 (0, 0))
  dk : DeckAt wr b
  gr : w.grownBy wr (some b)
theorem SpW.next {w wr w' : World} {b : Nat} {n : Int} {sl : Value} (h : SpW w wr b n sl) (hb : b < w.heap.size) (hd : DeckAt w' b) (hg : wr.grownBy w' (some b)) : SpW w w' b n sl :=
  ⟨grown_blk hg h.g (by intro e; have := Option.some.inj e; omega), grown_blk hg h.r (by intro e; have := Option.some.inj e; omega), hd, grown_trans h.gr hg⟩
/-- a change of blocks behind both -/
theorem SpW.kept {w wr w' : World} {b : Nat} {n : Int} {sl : Value} {r : Option Nat} (h : SpW w wr b n sl) (hb : b < w.heap.size) (hg : wr.grownBy w' r) (hr : ∀ g, r = some g → w.heap.size + 2 ≤ g) : SpW w w' b n sl :=
  ⟨grown_blk hg h.g (by intro e; have := hr _ e.symm; omega), grown_blk hg h.r (by intro e; have := hr _ e.symm; omega), h.dk.kept hg (fun g e => by have := hr g e; omega), grown_new h.gr hg (fun g e => .inr (by have := hr g e; omega))⟩
theorem SpW.set {w wr : World} {b j : Nat} {n m : Int} {sl sl' v : Value} (h : SpW w wr b n sl) (hb : b < w.heap.size) (hj : (#[.int .i64 n, sl] : Array Value).setIfInBounds j v = #[.int .i64 m, sl']) : SpW w (wr.setCell ⟨w.heap.size, j, none⟩ v) b m sl' := by
  have hg : wr.grownBy (wr.setCell ⟨w.heap.size, j, none⟩ v) (some w.heap.size) := grown_store
  refine ⟨?_, grown_blk hg h.r (by intro e; have := Option.some.inj e; omega), h.dk.kept hg (fun g e => by cases e; exact hb), grown_new h.gr hg (fun g e => .inr (by cases e; exact Nat.le_refl _))⟩
  rw [heap_setCell_same _ _ _ _ _ _ h.g, hj]
theorem SpW.drewN {w wr : World} {b k : Nat} {n : Int} {sl : Value} (h : SpW w wr b n sl) : SpW w (wr.drewN k) b n sl := ⟨h.g, h.r, h.dk, ⟨h.gr.os, h.gr.tape, h.gr.output, h.gr.size, h.gr.block⟩⟩
theorem SpW.drew {w wr : World} {b : Nat} {n : Int} {sl : Value} (h : SpW w wr b n sl) : SpW w wr.drew b n sl := ⟨h.g, h.r, h.dk, ⟨h.gr.os, h.gr.tape, h.gr.output, h.gr.size, h.gr.block⟩⟩
theorem SpW.cells {w wr : World} {b : Nat} {n : Int} {sl : Value} (h : SpW w wr b n sl) : wr.cell? ⟨w.heap.size, 0, none⟩ = some (.int .i64 n) ∧ wr.cell? ⟨w.heap.size, 1, none⟩ = some sl ∧ (∀ j, wr.frozen? ⟨w.heap.size, j, none⟩ = false) ∧
    wr.cell? ⟨w.heap.size + 1, 0, none⟩ = some (.int .i64 0) ∧ wr.cell? ⟨w.heap.size + 1, 1, none⟩ = some (.slice none 0 0) ∧ (∀ j, wr.frozen? ⟨w.heap.size + 1, j, none⟩ = false) ∧ w.heap.size + 1 < wr.heap.size :=
  ⟨by rw [cell_blk h.g]; rfl, by rw [cell_blk h.g]; rfl, fun j => free_blk h.g, by rw [cell_blk h.r]; rfl, by rw [cell_blk h.r]; rfl, fun j => free_blk h.r, blk_lt h.r⟩
/-- the end of the call -/
theorem SpW.post {w wr : World} {b : Nat} {n : Int} {a : Option Addr} {cap : Nat} {es : List E2} (h : SpW w wr b n (.slice a es.length cap)) (hb : b < w.heap.size) (he : EdgesAt wr (.slice a es.length cap) es) (ha : ∀ p, a = some p → w.heap.size + 2 ≤ p.block) :
    SpoiltPost b w (.returned (.agg #[.int .i64 n, .slice a es.length cap])) ((wr.setCell ⟨w.heap.size + 1, 0, none⟩ (.int .i64 n)).setCell ⟨w.heap.size + 1, 1, none⟩ (.slice a es.length cap)) := by
  have hg : wr.grownBy ((wr.setCell ⟨w.heap.size + 1, 0, none⟩ (.int .i64 n)).setCell ⟨w.heap.size + 1, 1, none⟩ (.slice a es.length cap)) (some (w.heap.size + 1)) := grown_trans grown_store grown_store
  refine ⟨n, es, a, cap, rfl, he.grown hg (fun g e n' c' p hp => ?_), h.dk.kept hg (fun g e => by cases e; omega), grown_new h.gr hg (fun g e => .inr (by cases e; omega)), fun p hp => by have := ha p hp; omega⟩
  cases e
  have := ha p (Value.slice.inj hp).1
  omega
theorem SpW.fin {w wr : World} {b : Nat} {n : Int} {sl : Value} (h : SpW w wr b n sl) : ((wr.setCell ⟨w.heap.size + 1, 0, none⟩ (.int .i64 n)).setCell ⟨w.heap.size + 1, 1, none⟩ sl).cell? ⟨w.heap.size + 1, 0, none⟩ = some (.int .i64 n) ∧
    ((wr.setCell ⟨w.heap.size + 1, 0, none⟩ (.int .i64 n)).setCell ⟨w.heap.size + 1, 1, none⟩ sl).cell? ⟨w.heap.size + 1, 1, none⟩ = some sl := by
  have hh := set_two (u := .int .i64 n) (v := sl) h.r
  exact ⟨by rw [cell_blk hh]; rfl, by rw [cell_blk hh]; rfl⟩
set_option maxRecDepth 100000 in
set_option maxHeartbeats 6400000 in
theorem spoilt_any (b : Nat) (n : Int) (a : Option Addr) (cap : Nat) (es : List E2) (w : World) (hd : DeckAt w b) (he : EdgesAt w (.slice a es.length cap) es) (hlen : es.length ≤ 100000) :
    Calls Tryd.prog 39 #[.pointer (some ⟨b, 0, none⟩), .agg #[.int .i64 n, .slice a es.length cap]] w (SpoiltPost b w) := by
  have hbw := hd.lt
  have hW : SpW w ((w.alloc (.cells #[.int .i64 n, .slice a es.length cap] 27)).alloc (.cells #[.int .i64 0, .slice none 0 0] 27)) b n (.slice a es.length cap) := by
    refine ⟨(Below.heap_alloc _ _ _ (by simp)).trans (heap_alloc_new _ _), ?_, (hd.alloc _).alloc _, grown_trans (World.grownBy_alloc w _ (some b)) (World.grownBy_alloc _ _ _)⟩
    have := heap_alloc_new (w.alloc (.cells #[.int .i64 n, .slice a es.length cap] 27)) (.cells #[.int .i64 0, .slice none 0 0] 27)
    simpa using this
  have he0 := (he.grown (World.grownBy_alloc w (.cells #[.int .i64 n, .slice a es.length cap] 27) none) (fun g e => by cases e)).grown (World.grownBy_alloc _ (.cells #[.int .i64 0, .slice none 0 0] 27) none) (fun g e => by cases e)
  clear he hd
  go_enter Tryd.func39, Tryd.ntmps39
  go_wp2_with (at_builtin; refine wpList_app_edges edgesT rfl _ _ rfl (w.heap.size + 2) (.slice none 0 0) _ [] es rfl (World.ownsRow_nil _ _ _ _) rfl he0 (by simp; omega) (by simp) ?_; intro v1 w1 hown1 hg1; rw [List.nil_append] at hown1; obtain ⟨a1, c1, rfl⟩ := owns_shape hown1; have hW1 := hW.kept hbw hg1 (fun g e => by cases e); obtain ⟨q0, q1, qf, r0, r1, rf, hz⟩ := hW1.cells)
  have hW2 := hW1.set (sl' := .slice a1 es.length c1) (v := .slice a1 es.length c1) (j := 1) hbw rfl
  have hown2 : (w1.setCell ⟨w.heap.size, 1, none⟩ (.slice a1 es.length c1)).ownsRow (w.heap.size + 2) 42 2 (.slice a1 es.length c1) es.length (flatE es) := hown1.kept grown_store (by
    cases hs : (Value.slice a1 es.length c1).ownBlock with
    | none => exact .inl rfl
    | some k => have := hown1.lt k hs; exact .inr (by simp; omega))
  clear hW hW1 hown1 he0 hg1 q0 q1 qf r0 r1 rf hz
  refine (next_any b 6 _ hW2.dk (by omega) (by omega)).mono ?_
  rintro e w3 ⟨x, hx0, hx1, rfl, hd3, hg3⟩
  have hW3 := hW2.next hbw hd3 hg3
  have hown3 : w3.ownsRow (w.heap.size + 2) 42 2 (.slice a1 es.length c1) es.length (flatE es) := hown2.kept hg3 (by
    cases hs : (Value.slice a1 es.length c1).ownBlock with
    | none => exact .inl rfl
    | some k => have := hown2.lt k hs; exact .inr (by simp; omega))
  clear hW2 hown2 hg3 hd3
  have hblk : ∀ p : Addr, a1 = some p → w.heap.size + 2 ≤ p.block := fun p hp => by subst hp; exact (hown3.lt p.block rfl).1
  have hE3 : EdgesAt w3 (.slice a1 es.length c1) es := by
    obtain ⟨a', c', hv, h, _⟩ := EdgesAt.of_owns hown3 (by omega)
    cases hv; exact h
  have hrow : 0 < es.length → ∃ g, a1 = some ⟨g, 0, none⟩ ∧ w.heap.size + 2 ≤ g ∧ RowE w3 g c1 es := fun h => RowE.of_owns hown3 (by omega) h
  obtain ⟨q0, q1, qf, r0, r1, rf, hz⟩ := hW3.cells
  rcases (by omega : x = 0 ∨ x = 1 ∨ x = 2 ∨ x = 3 ∨ x = 4 ∨ x = 5) with rfl | rfl | rfl | rfl | rfl | rfl
  · go_wp2_with fail
    refine (next_any b 70 _ hW3.dk (by omega) (by omega)).mono ?_
    rintro e w4 ⟨y, hy0, hy1, rfl, hd4, hg4⟩
    have hW4 := hW3.next hbw hd4 hg4
    have hE4 := hE3.grown hg4 (fun g e n' c' p hp => by cases e; have := hblk p (Value.slice.inj hp).1; omega)
    clear q0 q1 qf r0 r1 rf hz hW3 hE3 hrow hown3
    obtain ⟨q0, q1, qf, r0, r1, rf, hz⟩ := hW4.cells
    have v1 : IntKind.i64.wrap (y - 2) = y - 2 := IntWalk.i64_in _ (by omega)
    have hW5 := hW4.set (m := y - 2) (sl' := .slice a1 es.length c1) (v := .int .i64 (y - 2)) (j := 0) hbw rfl
    have hE5 : EdgesAt (w4.setCell ⟨w.heap.size, 0, none⟩ (.int .i64 (y - 2))) (.slice a1 es.length c1) es := hE4.grown grown_store (fun g e n' c' p hp => by cases e; have := hblk p (Value.slice.inj hp).1; omega)
    obtain ⟨t0, t1⟩ := hW5.fin
    go_wp2_with fail
    exact bodyPost_ret (v := .agg #[.int .i64 (y - 2), .slice a1 es.length c1]) (by simp [results, Tryd.results39, go_sem, t0, t1]) rfl (hW5.post hbw hE5 hblk)
  · by_cases hn : 0 < es.length
    case neg =>
      obtain ⟨t0, t1⟩ := hW3.fin
      go_wp2_with fail
      exact bodyPost_ret (v := .agg #[.int .i64 n, .slice a1 es.length c1]) (by simp [results, Tryd.results39, go_sem, t0, t1]) rfl (hW3.post hbw hE3 hblk)
    obtain ⟨g, rfl, hg2, hR⟩ := hrow hn
    go_wp2_with fail
    refine (next_any b es.length _ hW3.dk (by omega) (by omega)).mono ?_
    rintro e w4 ⟨y, hy0, hy1, rfl, hd4, hg4⟩
    obtain ⟨i, rfl⟩ := Int.eq_ofNat_of_zero_le hy0
    have hW4 := hW3.next hbw hd4 hg4
    have hR4 := hR.grown hg4 (by intro e; have := Option.some.inj e; omega)
    clear q0 q1 qf r0 r1 rf hz hW3 hE3 hrow hown3 hR
    obtain ⟨q0, q1, qf, r0, r1, rf, hz⟩ := hW4.cells
    have hil : i < es.length := by omega
    have hei : es[i]? = some es[i] := List.getElem?_eq_getElem hil
    obtain ⟨e0, e1, ef⟩ := hR4.at i _ hei
    have hR5 := hR4.set i es[i].2 es[i].1
    have hW5 := hW4.kept (r := some g) hbw (grown_trans (grown_store (b := g) (j := i * 2) (v := .int .i64 es[i].2)) (grown_store (b := g) (j := i * 2 + 1) (v := .int .i64 es[i].1))) (fun g' e => by cases e; exact hg2)
    have hcp := hR4.cap
    generalize es[i] = ei at *
    have hE5 : EdgesAt ((w4.setCell ⟨g, i * 2, none⟩ (.int .i64 ei.2)).setCell ⟨g, i * 2 + 1, none⟩ (.int .i64 ei.1)).drew (.slice (some ⟨g, 0, none⟩) (es.set i (ei.2, ei.1)).length c1) (es.set i (ei.2, ei.1)) := hR5.edges
    have hsl : Hid ((es.set i (ei.2, ei.1)).length = es.length) := List.length_set
    clear hR5 hR4 hW4 hd4 hg4
    go_wp2_with fail
    go_region
    obtain ⟨t0, t1⟩ := hW5.fin
    obtain ⟨q0, q1, qf, r0, r1, rf, hz⟩ := hW5.cells
    rw [hsl.out] at hE5
    go_wp2_with fail
    refine bodyPost_ret (v := .agg #[.int .i64 n, .slice (some ⟨g, 0, none⟩) es.length c1]) (by simp [results, Tryd.results39, go_sem, t0, t1]) rfl ?_
    have hp := SpW.post (es := es.set i (ei.2, ei.1)) (a := some ⟨g, 0, none⟩) (cap := c1) (by rw [hsl.out]; exact hW5.drew) hbw (by rw [hsl.out]; exact hE5) hblk
    rw [hsl.out] at hp
    exact hp
  · by_cases hn : 1 < es.length
    case neg =>
      obtain ⟨t0, t1⟩ := hW3.fin
      go_wp2_with fail
      exact bodyPost_ret (v := .agg #[.int .i64 n, .slice a1 es.length c1]) (by simp [results, Tryd.results39, go_sem, t0, t1]) rfl (hW3.post hbw hE3 hblk)
    obtain ⟨g, rfl, hg2, hR⟩ := hrow (by omega)
    obtain ⟨m, hm⟩ : ∃ m, es.length - 1 = m := ⟨_, rfl⟩
    have hml : m < es.length := by omega
    have hx : es[0]? = some es[0] := List.getElem?_eq_getElem (by omega)
    have hy : es[m]? = some es[m] := List.getElem?_eq_getElem hml
    obtain ⟨e0, e1, ef⟩ := hR.at 0 _ hx
    obtain ⟨l0, l1, -⟩ := hR.at m _ hy
    simp only [Nat.zero_mul, Nat.zero_add] at e0 e1
    have hcp := hR.cap
    have hR5 := (hR.set 0 es[m].1 es[m].2).set m es[0].1 es[0].2
    have hW5 := hW3.kept (r := some g) hbw (grown_trans (grown_trans (grown_store (b := g) (j := 0) (v := .int .i64 es[m].1)) (grown_store (b := g) (j := 1) (v := .int .i64 es[m].2))) (grown_trans (grown_store (b := g) (j := m * 2) (v := .int .i64 es[0].1)) (grown_store (b := g) (j := m * 2 + 1) (v := .int .i64 es[0].2)))) (fun g' e => by cases e; exact hg2)
    simp only [Nat.zero_mul, Nat.zero_add] at hR5
    clear hx hy
    generalize es[0] = ex at *
    generalize es[m] = ey at *
    have hsl : Hid (((es.set 0 (ey.1, ey.2)).set m (ex.1, ex.2)).length = es.length) := (show _ = _ by rw [List.length_set, List.length_set])
    generalize (es.set 0 (ey.1, ey.2)).set m (ex.1, ex.2) = es' at *
    have hE5 := hR5.edges
    have v1 : IntKind.i64.wrap ((es.length : Int) - 1) = (m : Int) := by rw [show (es.length : Int) - 1 = (m : Int) by omega]; exact IntWalk.i64_in _ (by omega)
    have n2 : ¬ m = 0 := by omega
    rw [hsl.out] at hE5
    have HM := Lib.hid hm
    clear hR hR5 hW3 hE3 hrow hown3 hm
    go_wp2_with fail
    go_region
    clear q0 q1 qf r0 r1 rf hz e0 e1 l0 l1 ef
    obtain ⟨W5, hw5⟩ : ∃ W : World, W = (((w3.setCell ⟨g, 0, none⟩ (.int .i64 ey.1)).setCell ⟨g, 1, none⟩ (.int .i64 ey.2)).setCell ⟨g, m * 2, none⟩ (.int .i64 ex.1)).setCell ⟨g, m * 2 + 1, none⟩ (.int .i64 ex.2) := ⟨_, rfl⟩
    rw [← hw5] at hW5 hE5 ⊢
    clear hw5
    obtain ⟨t0, t1⟩ := hW5.fin
    obtain ⟨q0, q1, qf, r0, r1, rf, hz⟩ := hW5.cells
    go_wp2_with fail
    refine bodyPost_ret (v := .agg #[.int .i64 n, .slice (some ⟨g, 0, none⟩) es.length c1]) (by simp [results, Tryd.results39, go_sem, t0, t1]) rfl ?_
    have hp := SpW.post (es := es') (a := some ⟨g, 0, none⟩) (cap := c1) (by rw [hsl.out]; exact hW5.drew) hbw (by rw [hsl.out]; exact hE5) hblk
    rw [hsl.out] at hp
    exact hp
  · by_cases hn : 0 < es.length
    case neg =>
      obtain ⟨t0, t1⟩ := hW3.fin
      go_wp2_with fail
      exact bodyPost_ret (v := .agg #[.int .i64 n, .slice a1 es.length c1]) (by simp [results, Tryd.results39, go_sem, t0, t1]) rfl (hW3.post hbw hE3 hblk)
    obtain ⟨g, rfl, hg2, hR⟩ := hrow hn
    obtain ⟨m, hm⟩ : ∃ m, es.length - 1 = m := ⟨_, rfl⟩
    have hml : m < es.length := by omega
    obtain ⟨l0, l1, -⟩ := hR.at m _ (List.getElem?_eq_getElem hml)
    have v1 : IntKind.i64.wrap ((es.length : Int) - 1) = (m : Int) := by rw [show (es.length : Int) - 1 = (m : Int) by omega]; exact IntWalk.i64_in _ (by omega)
    have hcp := hR.cap
    generalize es[m] = ey at *
    have HM := Lib.hid hm
    clear hR hrow hm
    have hb3 : w.heap.size + 2 ≤ w3.heap.size := hz
    have hlx := edges_lit1 w3.drew ey.1 ey.2 42
    have hownA := (show w3.drew.ownsRow (w.heap.size + 2) 42 2 (.slice (some ⟨g, 0, none⟩) es.length c1) es.length (flatE es) from hown3).alloc (.cells #[.int .i64 ey.1, .int .i64 ey.2] 42)
    have hWA := hW3.drew.kept hbw (World.grownBy_alloc w3.drew (.cells #[.int .i64 ey.1, .int .i64 ey.2] 42) none) (fun g e => by cases e)
    have qA := (hW3.kept hbw (World.grownBy_alloc w3 (.cells #[.int .i64 ey.1, .int .i64 ey.2] 42) none) (fun g e => by cases e)).cells.2.1
    go_wp2_with fail
    go_region_law (refine step_app_edges edgesT rfl _ _ rfl (w.heap.size + 2) (.slice (some ⟨g, 0, none⟩) es.length c1) (.slice (some ⟨w3.heap.size, 0, none⟩) 1 1) es [(ey.1, ey.2)] rfl hownA rfl hlx (by simp; omega) (by simp; omega) ?_; intro v6 w6 hown6 hg6; have hl7 : (es ++ [(ey.1, ey.2)]).length = es.length + 1 := List.length_append; obtain ⟨es', hes'⟩ : ∃ l, l = es ++ [(ey.1, ey.2)] := ⟨_, rfl⟩; rw [← hes'] at hown6 hl7; have HL7 := Lib.hid hl7; clear hl7 hes'; obtain ⟨a6, c6, rfl⟩ := owns_shape hown6; have hW6 := hWA.kept hbw hg6 (fun g' e => by cases e; exact hg2); have q0 := hW6.cells.1; have q1 := hW6.cells.2.1; have qf := hW6.cells.2.2.1)
    all_goals
      have hl7 := HL7.out
      have hW7 := hW6.set (m := n) (sl' := .slice a6 es'.length c6) (v := .slice a6 es'.length c6) (j := 1) hbw rfl
      have hown7 : (w6.setCell ⟨w.heap.size, 1, none⟩ (.slice a6 es'.length c6)).ownsRow (w.heap.size + 2) 42 2 (.slice a6 es'.length c6) es'.length (flatE es') := hown6.kept grown_store (by
        cases hs : (Value.slice a6 es'.length c6).ownBlock with
        | none => exact .inl rfl
        | some k => have := hown6.lt k hs; exact .inr (by simp; omega))
      have hE7 : EdgesAt (w6.setCell ⟨w.heap.size, 1, none⟩ (.slice a6 es'.length c6)) (.slice a6 es'.length c6) es' := by
        obtain ⟨a', c', hv, h, _⟩ := EdgesAt.of_owns hown7 (by omega)
        cases hv; exact h
      have hb7 : ∀ p : Addr, a6 = some p → w.heap.size + 2 ≤ p.block := fun p hp => by subst hp; exact (hown7.lt p.block rfl).1
      obtain ⟨W7, hw7⟩ : ∃ W : World, W = w6.setCell ⟨w.heap.size, 1, none⟩ (.slice a6 es'.length c6) := ⟨_, rfl⟩
      rw [← hw7] at hW7 hE7 ⊢
      clear hw7 q0 q1 qf r0 r1 rf qA hl7
      obtain ⟨t0, t1⟩ := hW7.fin
      obtain ⟨q0, q1, qf, r0, r1, rf, -⟩ := hW7.cells
      go_wp2_with fail
      exact bodyPost_ret (v := .agg #[.int .i64 n, .slice a6 es'.length c6]) (by simp [results, Tryd.results39, go_sem, t0, t1]) rfl (hW7.post hbw hE7 hb7)
  · by_cases hn : 0 < es.length
    case neg =>
      obtain ⟨t0, t1⟩ := hW3.fin
      go_wp2_with fail
      exact bodyPost_ret (v := .agg #[.int .i64 n, .slice a1 es.length c1]) (by simp [results, Tryd.results39, go_sem, t0, t1]) rfl (hW3.post hbw hE3 hblk)
    obtain ⟨g, rfl, hg2, hR⟩ := hrow hn
    have hcp := hR.cap
    clear hrow hE3 q0 q1 qf r0 r1 rf
    have hown3' := hown3
    clear hown3
    have hnx := next_any b es.length w3.drew hW3.drew.dk (by omega) (by omega)
    have tokA : True := trivial
    have hW3d := hW3.drew
    have hR3d : RowE w3.drew g c1 es := ⟨hR.blk, hR.cap, hR.small⟩
    obtain ⟨q0, q1, qf, r0, r1, rf, -⟩ := hW3.cells
    go_wp2_with fail
    go_region_law (first
      | (go_simp; go_at_call 31; (with_reducible refine hnx.mono ?_); rintro e w4 ⟨y, hy0, hy1, rfl, hd4, hg4⟩; obtain ⟨i, rfl⟩ := Int.eq_ofNat_of_zero_le hy0; have hW4 := hW3d.next hbw hd4 hg4; have hR4 := hR3d.grown hg4 (by intro e; have := Option.some.inj e; omega); have hil : i < es.length := (by omega); have e0 := (hR4.at i _ (List.getElem?_eq_getElem hil)).2.1; have ef := (hR4.at i _ (List.getElem?_eq_getElem hil)).2.2; have q4 := hW4.cells.2.1; have hny := next_any b 5 w4 hd4 (by omega) (by omega); clear hnx)
      | (go_simp; go_at_call 31; (with_reducible refine hny.mono ?_); rintro e w5 ⟨z, hz0, hz1, rfl, hd5, hg5⟩; have hW5 := hW4.next hbw hd5 hg5; have hR5 := hR4.grown hg5 (by intro e; have := Option.some.inj e; omega); have e5 := (hR5.at i _ (List.getElem?_eq_getElem hil)).2.1; have ef5 := (hR5.at i _ (List.getElem?_eq_getElem hil)).2.2; have q5 := hW5.cells.2.1; have v1 : IntKind.i64.wrap (z - 2) = z - 2 := IntWalk.i64_in _ (by omega)))
    all_goals
      have hei : es[i]? = some es[i] := List.getElem?_eq_getElem hil
      generalize hY : IntKind.i64.wrap (es[i].2 + (z - 2)) = Y at *
      have hR6 := (hR5.set1 i _ hei Y).edges
      have hW6 := hW5.kept (r := some g) hbw (grown_store (b := g) (j := i * 2 + 1) (v := .int .i64 Y)) (fun g' e => by cases e; exact hg2)
      have hl6 : (es.set i (es[i].1, Y)).length = es.length := List.length_set
      rw [hl6] at hR6
      have HL6 := Lib.hid hl6
      clear hl6 hY
      generalize es.set i (es[i].1, Y) = es' at *
      obtain ⟨W7, hw7⟩ : ∃ W : World, W = w5.setCell ⟨g, i * 2 + 1, none⟩ (.int .i64 Y) := ⟨_, rfl⟩
      rw [← hw7] at hW6 hR6 ⊢
      clear hw7 q0 q1 qf r0 r1 rf
      obtain ⟨t0, t1⟩ := hW6.fin
      obtain ⟨q0, q1, qf, r0, r1, rf, -⟩ := hW6.cells
      go_wp2_with fail
      refine bodyPost_ret (v := .agg #[.int .i64 n, .slice (some ⟨g, 0, none⟩) es.length c1]) (by simp [results, Tryd.results39, go_sem, t0, t1]) rfl ?_
      have hp := SpW.post (es := es') (a := some ⟨g, 0, none⟩) (cap := c1) (by rw [HL6.out]; exact hW6) hbw (by rw [HL6.out]; exact hR6) hblk
      rw [HL6.out] at hp
      exact hp
  · obtain ⟨t0, t1⟩ := hW3.fin
    go_wp2_with fail
    exact bodyPost_ret (v := .agg #[.int .i64 n, .slice a1 es.length c1]) (by simp [results, Tryd.results39, go_sem, t0, t1]) rfl (hW3.post hbw hE3 hblk)
end Go.Proofs.YtekbpoppajbljaaDoor
