/- law05.spoilt: a state with something changed. -/
import Derived.Test.YtkadeibinhkbjaaMkState
import Derived.Test.YtkadeibinhkbjaaLkSlices
namespace Go.Proofs.Ytkadeibinhkbjaa
open Go.RowKit Go.BigFrame

theorem flatR_set {α : Type} {E : Enc α} {x y : α} {f : Nat} {v : Value} : ∀ (ls : List α) (i : Nat), ls[i]? = some x → f < E.k → E.enc y = (E.enc x).set f v → flatR E (ls.set i y) = (flatR E ls).set (i * E.k + f) v := by
  intro ls
  induction ls with
  | nil => intro i h; simp at h
  | cons l ls ih =>
    intro i h hf he
    cases i with
    | zero =>
      simp only [List.getElem?_cons_zero, Option.some.injEq] at h
      subst h
      rw [List.set_cons_zero, flatR_cons, flatR_cons, he, List.set_append_left _ _ (by rw [Nat.zero_mul, Nat.zero_add, E.len]; exact hf), Nat.zero_mul, Nat.zero_add]
    | succ i =>
      rw [List.getElem?_cons_succ] at h
      rw [List.set_cons_succ, flatR_cons, flatR_cons, ih i h hf he, List.set_append_right _ _ (by rw [E.len, Nat.succ_mul]; omega)]
      congr 2
      rw [E.len, Nat.succ_mul]; omega
/-- a row of links in a block of its own, that is stored to -/
structure RowL (w : World) (g cap n : Nat) (ls : List Lk) : Prop where
  len : ls.length = n
  cap : n ≤ cap
  small : n ≤ 1000000
  blk : ∃ cur : Array Value, w.heap[g]? = some (.cells cur 50 (0, 0)) ∧ cur.toList.take (n * 6) = flatR encLk ls
theorem RowL.rows {w : World} {g cap n : Nat} {ls : List Lk} (h : RowL w g cap n ls) : RowAt encLk w (.slice (some ⟨g, 0, none⟩) ls.length cap) ls := by
  obtain ⟨cur, h1, h2⟩ := h.blk
  have hl := h.len
  have := h.cap
  have := h.small
  exact lkblk_row h1 (by rw [hl]; exact h2) (by omega) (by omega)
theorem RowL.at {w : World} {g cap n : Nat} {ls : List Lk} (h : RowL w g cap n ls) (i : Nat) (hi : i < n) :
    ∃ x, ls[i]? = some x ∧ (∀ j, w.frozen? ⟨g, j, none⟩ = false) ∧ w.cell? ⟨g, i * 6, none⟩ = some (.int .i64 x.u) ∧ w.cell? ⟨g, i * 6 + 1, none⟩ = some (.int .i64 x.v) ∧ w.cell? ⟨g, i * 6 + 2, none⟩ = some (.int .i64 x.weight) ∧ w.cell? ⟨g, i * 6 + 3, none⟩ = some (.int .i64 x.label) ∧ w.cell? ⟨g, i * 6 + 4, none⟩ = some (.int .i64 x.sign) ∧ w.cell? ⟨g, i * 6 + 5, none⟩ = some (.int .i64 x.time) := by
  obtain ⟨b, off, x, ha, hx, -, c0, c1, c2, c3, c4, c5⟩ := lk_at h.rows i (by rw [h.len]; exact hi)
  cases ha
  obtain ⟨cur, h1, -⟩ := h.blk
  simp only [Nat.zero_add] at c0 c1 c2 c3 c4 c5
  exact ⟨x, hx, fun j => free_blk h1, c0, c1, c2, c3, c4, c5⟩
theorem RowL.set {w : World} {g cap n : Nat} {ls : List Lk} (h : RowL w g cap n ls) {i f : Nat} {x y : Lk} {v : Value} (hx : ls[i]? = some x) (hf : f < 6) (he : encLk.enc y = (encLk.enc x).set f v) : RowL (w.setCell ⟨g, i * 6 + f, none⟩ v) g cap n (ls.set i y) := by
  obtain ⟨cur, h1, h2⟩ := h.blk
  refine ⟨by rw [List.length_set]; exact h.len, h.cap, h.small, _, heap_setCell_same _ _ _ _ _ _ h1, ?_⟩
  rw [flatR_set ls i hx hf he, ← h2]
  simp only [Array.toList_setIfInBounds, List.take_set]
  rfl
theorem RowL.put {w : World} {g cap n : Nat} {ls : List Lk} (h : RowL w g cap n ls) (i f : Nat) (v : Int) (hi : i < n) (hf : f < 6) : ∃ ls', RowL (w.setCell ⟨g, i * 6 + f, none⟩ (.int .i64 v)) g cap n ls' := by
  have hl := h.len
  have hx : ls[i]? = some (ls[i]'(by omega)) := List.getElem?_eq_getElem _
  generalize ls[i]'(by omega) = x at hx
  obtain ⟨a, b, c, d, e, t⟩ := x
  rcases (by omega : f = 0 ∨ f = 1 ∨ f = 2 ∨ f = 3 ∨ f = 4 ∨ f = 5) with rfl | rfl | rfl | rfl | rfl | rfl
  · exact ⟨_, h.set (y := ⟨v, b, c, d, e, t⟩) hx hf rfl⟩
  · exact ⟨_, h.set (y := ⟨a, v, c, d, e, t⟩) hx hf rfl⟩
  · exact ⟨_, h.set (y := ⟨a, b, v, d, e, t⟩) hx hf rfl⟩
  · exact ⟨_, h.set (y := ⟨a, b, c, v, e, t⟩) hx hf rfl⟩
  · exact ⟨_, h.set (y := ⟨a, b, c, d, v, t⟩) hx hf rfl⟩
  · exact ⟨_, h.set (y := ⟨a, b, c, d, e, v⟩) hx hf rfl⟩
theorem RowL.put6 {w : World} {g cap n : Nat} {ls : List Lk} (h : RowL w g cap n ls) (i : Nat) (x : Lk) (hi : i < n) :
    RowL ((((((w.setCell ⟨g, i * 6, none⟩ (.int .i64 x.u)).setCell ⟨g, i * 6 + 1, none⟩ (.int .i64 x.v)).setCell ⟨g, i * 6 + 2, none⟩ (.int .i64 x.weight)).setCell ⟨g, i * 6 + 3, none⟩ (.int .i64 x.label)).setCell ⟨g, i * 6 + 4, none⟩ (.int .i64 x.sign)).setCell ⟨g, i * 6 + 5, none⟩ (.int .i64 x.time)) g cap n (ls.set i x) := by
  obtain ⟨cur, h1, h2⟩ := h.blk
  have hl := h.len
  obtain ⟨cur', h3, h4⟩ := lkblk_set (i := i) x h1 (by rw [hl]; exact h2) (by omega)
  exact ⟨by rw [List.length_set]; exact hl, h.cap, h.small, cur', h3, by rw [List.length_set, hl] at h4; exact h4⟩
theorem RowL.grown {w w' : World} {g cap n : Nat} {ls : List Lk} {r : Option Nat} (h : RowL w g cap n ls) (hg : w.grownBy w' r) (hr : some g ≠ r) : RowL w' g cap n ls := by
  obtain ⟨cur, h1, h2⟩ := h.blk
  exact ⟨h.len, h.cap, h.small, cur, grown_blk hg h1 hr, h2⟩
theorem RowL.of_owns {w : World} {base cap : Nat} {a : Option Addr} {ls : List Lk} (h : w.ownsRow base 50 encLk.k (.slice a ls.length cap) ls.length (flatR encLk ls)) (hl : ls.length ≤ 1000000) (hp : 0 < ls.length) : ∃ g, a = some ⟨g, 0, none⟩ ∧ base ≤ g ∧ RowL w g cap ls.length ls := by
  obtain ⟨g, c, cur, hv, hb, hc, h1, h2⟩ := lkblk_owns h hp
  obtain ⟨rfl, -, rfl⟩ := Value.slice.inj hv
  exact ⟨g, rfl, hb, rfl, hc, hl, cur, h1, h2⟩
theorem grown_six {w : World} {g i : Nat} {x : Lk} : w.grownBy ((((((w.setCell ⟨g, i, none⟩ (.int .i64 x.u)).setCell ⟨g, i + 1, none⟩ (.int .i64 x.v)).setCell ⟨g, i + 2, none⟩ (.int .i64 x.weight)).setCell ⟨g, i + 3, none⟩ (.int .i64 x.label)).setCell ⟨g, i + 4, none⟩ (.int .i64 x.sign)).setCell ⟨g, i + 5, none⟩ (.int .i64 x.time)) (some g) :=
  grown_trans (grown_trans (grown_trans (grown_trans (grown_trans grown_lk grown_lk) grown_lk) grown_lk) grown_lk) grown_lk
def LsPost (b : Nat) (w : World) (e : Ending) (w' : World) : Prop :=
  ∃ (n : Int) (es : List Lk) (a : Option Addr) (cap : Nat), e = .returned (.agg #[.int .i64 n, .slice a es.length cap]) ∧ RowAt encLk w' (.slice a es.length cap) es ∧ DeckAt w' b ∧ w.grownBy w' (some b) ∧ (∀ p, a = some p → w.heap.size ≤ p.block) ∧ es.length ≤ 100000
/-- the state: the graph's block, the result's block, the deck -/
structure SlW (w wr : World) (b : Nat) (n : Int) (sl : Value) : Prop where
  g : wr.heap[w.heap.size]? = some (.cells #[.int .i64 n, sl] 24 (0, 0))
  r : wr.heap[w.heap.size + 1]? = some (.cells #[.int .i64 0, .slice none 0 0] 24 (0, 0))
  dk : DeckAt wr b
  gr : w.grownBy wr (some b)
theorem SlW.next {w wr w' : World} {b : Nat} {n : Int} {sl : Value} (h : SlW w wr b n sl) (hb : b < w.heap.size) (hd : DeckAt w' b) (hg : wr.grownBy w' (some b)) : SlW w w' b n sl :=
  ⟨grown_blk hg h.g (by intro e; have := Option.some.inj e; omega), grown_blk hg h.r (by intro e; have := Option.some.inj e; omega), hd, grown_trans h.gr hg⟩
/-- a change of blocks behind both -/
theorem SlW.kept {w wr w' : World} {b : Nat} {n : Int} {sl : Value} {r : Option Nat} (h : SlW w wr b n sl) (hb : b < w.heap.size) (hg : wr.grownBy w' r) (hr : ∀ g, r = some g → w.heap.size + 2 ≤ g) : SlW w w' b n sl :=
  ⟨grown_blk hg h.g (by intro e; have := hr _ e.symm; omega), grown_blk hg h.r (by intro e; have := hr _ e.symm; omega), h.dk.kept hg (fun g e => by have := hr g e; omega), grown_new h.gr hg (fun g e => .inr (by have := hr g e; omega))⟩
theorem SlW.set {w wr : World} {b j : Nat} {n m : Int} {sl sl' v : Value} (h : SlW w wr b n sl) (hb : b < w.heap.size) (hj : (#[.int .i64 n, sl] : Array Value).setIfInBounds j v = #[.int .i64 m, sl']) : SlW w (wr.setCell ⟨w.heap.size, j, none⟩ v) b m sl' := by
  have hg : wr.grownBy (wr.setCell ⟨w.heap.size, j, none⟩ v) (some w.heap.size) := grown_store
  refine ⟨?_, grown_blk hg h.r (by intro e; have := Option.some.inj e; omega), h.dk.kept hg (fun g e => by cases e; exact hb), grown_new h.gr hg (fun g e => .inr (by cases e; exact Nat.le_refl _))⟩
  rw [heap_setCell_same _ _ _ _ _ _ h.g, hj]
theorem SlW.drewN {w wr : World} {b k : Nat} {n : Int} {sl : Value} (h : SlW w wr b n sl) : SlW w (wr.drewN k) b n sl := ⟨h.g, h.r, h.dk, ⟨h.gr.os, h.gr.tape, h.gr.output, h.gr.size, h.gr.block⟩⟩
theorem SlW.drew {w wr : World} {b : Nat} {n : Int} {sl : Value} (h : SlW w wr b n sl) : SlW w wr.drew b n sl := ⟨h.g, h.r, h.dk, ⟨h.gr.os, h.gr.tape, h.gr.output, h.gr.size, h.gr.block⟩⟩
theorem SlW.cells {w wr : World} {b : Nat} {n : Int} {sl : Value} (h : SlW w wr b n sl) : wr.cell? ⟨w.heap.size, 0, none⟩ = some (.int .i64 n) ∧ wr.cell? ⟨w.heap.size, 1, none⟩ = some sl ∧ (∀ j, wr.frozen? ⟨w.heap.size, j, none⟩ = false) ∧
    wr.cell? ⟨w.heap.size + 1, 0, none⟩ = some (.int .i64 0) ∧ wr.cell? ⟨w.heap.size + 1, 1, none⟩ = some (.slice none 0 0) ∧ (∀ j, wr.frozen? ⟨w.heap.size + 1, j, none⟩ = false) ∧ w.heap.size + 1 < wr.heap.size :=
  ⟨by rw [cell_blk h.g]; rfl, by rw [cell_blk h.g]; rfl, fun j => free_blk h.g, by rw [cell_blk h.r]; rfl, by rw [cell_blk h.r]; rfl, fun j => free_blk h.r, blk_lt h.r⟩
/-- the end of the call -/
theorem SlW.post {w wr : World} {b : Nat} {n : Int} {a : Option Addr} {cap : Nat} {es : List Lk} (h : SlW w wr b n (.slice a es.length cap)) (hb : b < w.heap.size) (he : RowAt encLk wr (.slice a es.length cap) es) (ha : ∀ p, a = some p → w.heap.size + 2 ≤ p.block) (hk : es.length ≤ 100000) :
    LsPost b w (.returned (.agg #[.int .i64 n, .slice a es.length cap])) ((wr.setCell ⟨w.heap.size + 1, 0, none⟩ (.int .i64 n)).setCell ⟨w.heap.size + 1, 1, none⟩ (.slice a es.length cap)) := by
  have hg : wr.grownBy ((wr.setCell ⟨w.heap.size + 1, 0, none⟩ (.int .i64 n)).setCell ⟨w.heap.size + 1, 1, none⟩ (.slice a es.length cap)) (some (w.heap.size + 1)) := grown_trans grown_store grown_store
  refine ⟨n, es, a, cap, rfl, he.grown hg (fun g e n' c' p hp => ?_), h.dk.kept hg (fun g e => by cases e; omega), grown_new h.gr hg (fun g e => .inr (by cases e; omega)), fun p hp => by have := ha p hp; omega, hk⟩
  cases e
  have := ha p (Value.slice.inj hp).1
  omega
theorem SlW.fin {w wr : World} {b : Nat} {n : Int} {sl : Value} (h : SlW w wr b n sl) : ((wr.setCell ⟨w.heap.size + 1, 0, none⟩ (.int .i64 n)).setCell ⟨w.heap.size + 1, 1, none⟩ sl).cell? ⟨w.heap.size + 1, 0, none⟩ = some (.int .i64 n) ∧
    ((wr.setCell ⟨w.heap.size + 1, 0, none⟩ (.int .i64 n)).setCell ⟨w.heap.size + 1, 1, none⟩ sl).cell? ⟨w.heap.size + 1, 1, none⟩ = some sl := by
  have hh := set_two (u := .int .i64 n) (v := sl) h.r
  exact ⟨by rw [cell_blk hh]; rfl, by rw [cell_blk hh]; rfl⟩
theorem lspost_n {w wr : World} {b : Nat} {n : Int} {a : Option Addr} {cap N : Nat} {es : List Lk} (hN : es.length = N) (h : SlW w wr b n (.slice a N cap)) (hb : b < w.heap.size) (he : RowAt encLk wr (.slice a N cap) es) (ha : ∀ p, a = some p → w.heap.size + 2 ≤ p.block) (hk : N ≤ 100000) :
    LsPost b w (.returned (.agg #[.int .i64 n, .slice a N cap])) ((wr.setCell ⟨w.heap.size + 1, 0, none⟩ (.int .i64 n)).setCell ⟨w.heap.size + 1, 1, none⟩ (.slice a N cap)) := by
  subst hN
  exact h.post hb he ha hk
theorem SlW.done {w wr : World} {b g cap k : Nat} {n : Int} {ls : List Lk} (h : SlW w wr b n (.slice (some ⟨g, 0, none⟩) k cap)) (hb : b < w.heap.size) (hR : RowL wr g cap k ls) (hg : w.heap.size + 2 ≤ g) (hk : k ≤ 100000) :
    LsPost b w (.returned (.agg #[.int .i64 n, .slice (some ⟨g, 0, none⟩) k cap])) ((wr.setCell ⟨w.heap.size + 1, 0, none⟩ (.int .i64 n)).setCell ⟨w.heap.size + 1, 1, none⟩ (.slice (some ⟨g, 0, none⟩) k cap)) := by
  have hl := hR.len
  have := SlW.post (es := ls) (a := some ⟨g, 0, none⟩) (cap := cap) (by rw [hl]; exact h) hb hR.rows (fun p hp => by cases hp; exact hg) (by omega)
  rw [hl] at this
  exact this
set_option maxRecDepth 100000 in
set_option maxHeartbeats 6400000 in
theorem lspoilt_any (b : Nat) (n : Int) (a : Option Addr) (cap : Nat) (es : List Lk) (w : World) (hd : DeckAt w b) (he : RowAt encLk w (.slice a es.length cap) es) (hlen : es.length ≤ 100000) :
    Calls Try.prog 12 #[.pointer (some ⟨b, 0, none⟩), .agg #[.int .i64 n, .slice a es.length cap]] w (LsPost b w) := by
  have hbw := hd.lt
  have hW : SlW w ((w.alloc (.cells #[.int .i64 n, .slice a es.length cap] 24)).alloc (.cells #[.int .i64 0, .slice none 0 0] 24)) b n (.slice a es.length cap) := by
    refine ⟨(Below.heap_alloc _ _ _ (by simp)).trans (heap_alloc_new _ _), ?_, (hd.alloc _).alloc _, grown_trans (World.grownBy_alloc w _ (some b)) (World.grownBy_alloc _ _ _)⟩
    have := heap_alloc_new (w.alloc (.cells #[.int .i64 n, .slice a es.length cap] 24)) (.cells #[.int .i64 0, .slice none 0 0] 24)
    simpa using this
  have he0 := (he.grown (World.grownBy_alloc w (.cells #[.int .i64 n, .slice a es.length cap] 24) none) (fun g e => by cases e)).grown (World.grownBy_alloc _ (.cells #[.int .i64 0, .slice none 0 0] 24) none) (fun g e => by cases e)
  clear he hd
  obtain ⟨N, hN⟩ : ∃ N, es.length = N := ⟨_, rfl⟩
  rw [hN] at hlen hW he0
  try rw [hN]
  have HN := Lib.hid hN
  clear hN

  by_cases h0 : N = 0
  · subst h0
    obtain ⟨q0, q1, qf, r0, r1, rf, hz⟩ := hW.cells
    go_enter Try.func12, Try.ntmps12
    go_wp2_with (at_builtin; refine wpList_app_rows lkRT rfl _ _ rfl (w.heap.size + 2) (.slice none 0 0) _ [] es rfl (World.ownsRow_nil _ _ _ _) rfl he0 (by rw [HN.out]; simp <;> omega) (by rw [HN.out]; simp <;> omega) (by simp) ?_; intro v1 w1 hown1 hg1; rw [List.nil_append, HN.out] at hown1; obtain ⟨a1, c1, rfl⟩ := owns_shape hown1; have hW1 := hW.kept hbw hg1 (fun g e => by cases e); obtain ⟨q0', q1', qf', r0', r1', rf', hz'⟩ := hW1.cells)
    have hW2 := hW1.set (sl' := .slice a1 0 c1) (v := .slice a1 0 c1) (j := 1) hbw rfl
    have hown2 : (w1.setCell ⟨w.heap.size, 1, none⟩ (.slice a1 0 c1)).ownsRow (w.heap.size + 2) 50 encLk.k (.slice a1 0 c1) 0 (flatR encLk es) := hown1.kept grown_store (by
      cases hs : (Value.slice a1 0 c1).ownBlock with
      | none => exact .inl rfl
      | some k => have := hown1.lt k hs; exact .inr (by simp; omega))
    have hblk : ∀ p : Addr, a1 = some p → w.heap.size + 2 ≤ p.block := fun p hp => by subst hp; exact (hown2.lt p.block rfl).1
    have hE2 : RowAt encLk (w1.setCell ⟨w.heap.size, 1, none⟩ (.slice a1 0 c1)) (.slice a1 0 c1) es := by
      obtain ⟨a', c', hv, h, _⟩ := RowAt.of_owns (xs := es) (by rw [HN.out]; exact hown2) (by rw [HN.out]; omega)
      rw [HN.out] at hv h
      cases hv; exact h
    have hrow : 0 < 0 → ∃ g, a1 = some ⟨g, 0, none⟩ ∧ w.heap.size + 2 ≤ g ∧ RowL (w1.setCell ⟨w.heap.size, 1, none⟩ (.slice a1 0 c1)) g c1 0 es := fun h => by
      have := RowL.of_owns (ls := es) (a := a1) (cap := c1) (by rw [HN.out]; exact hown2) (by rw [HN.out]; omega) (by rw [HN.out]; exact h)
      rw [HN.out] at this
      exact this
    clear hW hW1 hown1 he0 hg1 q0 q1 qf r0 r1 rf q0' q1' qf' r0' r1' rf' hz hz' hown2
    clear hrow
    refine (next_any b 70 _ hW2.dk (by omega) (by omega)).mono ?_
    rintro e w4 ⟨y, hy0, hy1, rfl, hd4, hg4⟩
    have hW4 := hW2.next hbw hd4 hg4
    have hE4 := hE2.grown hg4 (fun g e n' c' p hp => by cases e; have := hblk p (Value.slice.inj hp).1; omega)
    clear hE2 hW2
    obtain ⟨q0, q1, qf, r0, r1, rf, hz⟩ := hW4.cells
    have v1 : IntKind.i64.wrap (y - 2) = y - 2 := IntWalk.i64_in _ (by omega)
    have hW5 := hW4.set (m := y - 2) (sl' := .slice a1 0 c1) (v := .int .i64 (y - 2)) (j := 0) hbw rfl
    have hE5 : RowAt encLk (w4.setCell ⟨w.heap.size, 0, none⟩ (.int .i64 (y - 2))) (.slice a1 0 c1) es := hE4.grown grown_store (fun g e n' c' p hp => by cases e; have := hblk p (Value.slice.inj hp).1; omega)
    obtain ⟨t0, t1⟩ := hW5.fin
    go_wp2_with fail
    exact bodyPost_ret (v := .agg #[.int .i64 (y - 2), .slice a1 0 c1]) (by simp [results, Try.results12, go_sem, t0, t1]) rfl (lspost_n HN.out hW5 hbw hE5 hblk hlen)
  have d0 : ((N : Int) == 0) = false := by simp; omega
  obtain ⟨q0, q1, qf, r0, r1, rf, hz⟩ := hW.cells
  go_enter Try.func12, Try.ntmps12
  go_wp2_with (at_builtin; refine wpList_app_rows lkRT rfl _ _ rfl (w.heap.size + 2) (.slice none 0 0) _ [] es rfl (World.ownsRow_nil _ _ _ _) rfl he0 (by rw [HN.out]; simp <;> omega) (by rw [HN.out]; simp <;> omega) (by simp) ?_; intro v1 w1 hown1 hg1; rw [List.nil_append, HN.out] at hown1; obtain ⟨a1, c1, rfl⟩ := owns_shape hown1; have hW1 := hW.kept hbw hg1 (fun g e => by cases e); obtain ⟨q0', q1', qf', r0', r1', rf', hz'⟩ := hW1.cells)
  have hW2 := hW1.set (sl' := .slice a1 N c1) (v := .slice a1 N c1) (j := 1) hbw rfl
  have hown2 : (w1.setCell ⟨w.heap.size, 1, none⟩ (.slice a1 N c1)).ownsRow (w.heap.size + 2) 50 encLk.k (.slice a1 N c1) N (flatR encLk es) := hown1.kept grown_store (by
    cases hs : (Value.slice a1 N c1).ownBlock with
    | none => exact .inl rfl
    | some k => have := hown1.lt k hs; exact .inr (by simp; omega))
  have hblk : ∀ p : Addr, a1 = some p → w.heap.size + 2 ≤ p.block := fun p hp => by subst hp; exact (hown2.lt p.block rfl).1
  have hE2 : RowAt encLk (w1.setCell ⟨w.heap.size, 1, none⟩ (.slice a1 N c1)) (.slice a1 N c1) es := by
    obtain ⟨a', c', hv, h, _⟩ := RowAt.of_owns (xs := es) (by rw [HN.out]; exact hown2) (by rw [HN.out]; omega)
    rw [HN.out] at hv h
    cases hv; exact h
  have hrow : 0 < N → ∃ g, a1 = some ⟨g, 0, none⟩ ∧ w.heap.size + 2 ≤ g ∧ RowL (w1.setCell ⟨w.heap.size, 1, none⟩ (.slice a1 N c1)) g c1 N es := fun h => by
    have := RowL.of_owns (ls := es) (a := a1) (cap := c1) (by rw [HN.out]; exact hown2) (by rw [HN.out]; omega) (by rw [HN.out]; exact h)
    rw [HN.out] at this
    exact this
  clear hW hW1 hown1 he0 hg1 q0 q1 qf r0 r1 rf q0' q1' qf' r0' r1' rf' hz hz' hown2
  obtain ⟨g, rfl, hg2, hR2⟩ := hrow (by omega)
  clear hrow
  refine (next_any b 5 _ hW2.dk (by omega) (by omega)).mono ?_
  rintro e w3 ⟨x, hx0, hx1, rfl, hd3, hg3⟩
  have hW3 := hW2.next hbw hd3 hg3
  have hR3 := hR2.grown hg3 (by intro e; have := Option.some.inj e; omega)
  have hE3 := hE2.grown hg3 (fun g e n' c' p hp => by cases e; have := hblk p (Value.slice.inj hp).1; omega)
  clear hE2 hW2 hg3 hd3 hR2
  by_cases hx : x = 0
  · have dx : (x == 0) = true := by simpa using hx
    go_wp2_with fail
    refine (next_any b 70 _ hW3.dk (by omega) (by omega)).mono ?_
    rintro e w4 ⟨y, hy0, hy1, rfl, hd4, hg4⟩
    have hW4 := hW3.next hbw hd4 hg4
    have hE4 := hE3.grown hg4 (fun g e n' c' p hp => by cases e; have := hblk p (Value.slice.inj hp).1; omega)
    clear hE3 hW3
    obtain ⟨q0, q1, qf, r0, r1, rf, hz⟩ := hW4.cells
    have v1 : IntKind.i64.wrap (y - 2) = y - 2 := IntWalk.i64_in _ (by omega)
    have hW5 := hW4.set (m := y - 2) (sl' := .slice (some ⟨g, 0, none⟩) N c1) (v := .int .i64 (y - 2)) (j := 0) hbw rfl
    have hE5 : RowAt encLk (w4.setCell ⟨w.heap.size, 0, none⟩ (.int .i64 (y - 2))) (.slice (some ⟨g, 0, none⟩) N c1) es := hE4.grown grown_store (fun g e n' c' p hp => by cases e; have := hblk p (Value.slice.inj hp).1; omega)
    obtain ⟨t0, t1⟩ := hW5.fin
    go_wp2_with fail
    exact bodyPost_ret (v := .agg #[.int .i64 (y - 2), .slice (some ⟨g, 0, none⟩) N c1]) (by simp [results, Try.results12, go_sem, t0, t1]) rfl (lspost_n HN.out hW5 hbw hE5 hblk hlen)
  have dx : (x == 0) = false := by simpa using hx
  clear hE3 hx
  clear hblk
  go_wp2_with fail
  refine (next_any b (N : Int) _ hW3.dk (show (1 : Int) ≤ (N : Int) by omega) (show (N : Int) ≤ _ by omega)).mono ?_
  rintro e w4 ⟨y, hy0, hy1, rfl, hd4, hg4⟩
  obtain ⟨i, rfl⟩ := Int.eq_ofNat_of_zero_le hy0
  have hW4 := hW3.next hbw hd4 hg4
  have hR4 := hR3.grown hg4 (by intro e; have := Option.some.inj e; omega)
  clear hW3 hR3 hd4 hg4 hy0
  go_wp2_with fail
  refine (next_any b 6 _ hW4.dk (by omega) (by omega)).mono ?_
  rintro e w5 ⟨z, hz0, hz1, rfl, hd5, hg5⟩
  have hW5 := hW4.next hbw hd5 hg5
  have hR5 := hR4.grown hg5 (by intro e; have := Option.some.inj e; omega)
  clear hW4 hR4 hd5 hg5
  have hil : i < N := by omega
  have hcp := hR5.cap
  obtain ⟨q0, q1, qf, r0, r1, rf, hz⟩ := hW5.cells
  rcases (by omega : z = 0 ∨ z = 1 ∨ z = 2 ∨ z = 3 ∨ z = 4 ∨ z = 5) with rfl | rfl | rfl | rfl | rfl | rfl
  · have hW5d := hW5.drew
    have hR5d : RowL w5.drew g c1 N es := ⟨hR5.len, hR5.cap, hR5.small, hR5.blk⟩
    have hnx := next_any b 2 w5.drew hW5d.dk (by omega) (by omega)
    go_wp2_with fail
    go_region_law (go_simp; go_at_call 22; (with_reducible refine hnx.mono ?_); rintro e w6 ⟨y, hy0, hy1, rfl, hd6, hg6⟩; have hW6 := hW5d.next hbw hd6 hg6; have hR6 := hR5d.grown hg6 (by intro e; have := Option.some.inj e; omega); obtain ⟨xx, -, ef, k0, k1, k2, k3, k4, k5⟩ := hR6.at i hil; have q4 := hW6.cells.2.1; have v1 : IntKind.i64.wrap (y * 1001) = y * 1001 := IntWalk.i64_in _ (by omega))
    all_goals
      obtain ⟨ls', hR7⟩ := hR6.put i 2 (y * 1001) hil (by omega)
      have hW7 := hW6.kept (r := some g) hbw (grown_store (b := g) (j := i * 6 + 2) (v := .int .i64 (y * 1001))) (fun g' e => by cases e; exact hg2)
      try simp only [Nat.add_zero] at hR7
      obtain ⟨W7, hw7⟩ : ∃ W : World, W = w6.setCell ⟨g, i * 6 + 2, none⟩ (.int .i64 (y * 1001)) := ⟨_, rfl⟩
      rw [← hw7] at hW7 hR7 ⊢
      clear hw7 q0 q1 qf r0 r1 rf k0 k1 k2 k3 k4 k5 ef q4
      obtain ⟨t0, t1⟩ := hW7.fin
      obtain ⟨q0, q1, qf, r0, r1, rf, -⟩ := hW7.cells
      go_wp2_with fail
      exact bodyPost_ret (v := .agg #[.int .i64 n, .slice (some ⟨g, 0, none⟩) N c1]) (by simp [results, Try.results12, go_sem, t0, t1]) rfl (hW7.done hbw hR7 hg2 hlen)
  · have hW5d := hW5.drew
    have hR5d : RowL w5.drew g c1 N es := ⟨hR5.len, hR5.cap, hR5.small, hR5.blk⟩
    have hnx := next_any b 20 w5.drew hW5d.dk (by omega) (by omega)
    go_wp2_with fail
    go_region_law (go_simp; go_at_call 22; (with_reducible refine hnx.mono ?_); rintro e w6 ⟨y, hy0, hy1, rfl, hd6, hg6⟩; have hW6 := hW5d.next hbw hd6 hg6; have hR6 := hR5d.grown hg6 (by intro e; have := Option.some.inj e; omega); obtain ⟨xx, -, ef, k0, k1, k2, k3, k4, k5⟩ := hR6.at i hil; have q4 := hW6.cells.2.1; have v1 : IntKind.i64.wrap (y - 2) = y - 2 := IntWalk.i64_in _ (by omega))
    all_goals
      obtain ⟨ls', hR7⟩ := hR6.put i 3 (y - 2) hil (by omega)
      have hW7 := hW6.kept (r := some g) hbw (grown_store (b := g) (j := i * 6 + 3) (v := .int .i64 (y - 2))) (fun g' e => by cases e; exact hg2)
      try simp only [Nat.add_zero] at hR7
      obtain ⟨W7, hw7⟩ : ∃ W : World, W = w6.setCell ⟨g, i * 6 + 3, none⟩ (.int .i64 (y - 2)) := ⟨_, rfl⟩
      rw [← hw7] at hW7 hR7 ⊢
      clear hw7 q0 q1 qf r0 r1 rf k0 k1 k2 k3 k4 k5 ef q4
      obtain ⟨t0, t1⟩ := hW7.fin
      obtain ⟨q0, q1, qf, r0, r1, rf, -⟩ := hW7.cells
      go_wp2_with fail
      exact bodyPost_ret (v := .agg #[.int .i64 n, .slice (some ⟨g, 0, none⟩) N c1]) (by simp [results, Try.results12, go_sem, t0, t1]) rfl (hW7.done hbw hR7 hg2 hlen)
  · have hW5d := hW5.drew
    have hR5d : RowL w5.drew g c1 N es := ⟨hR5.len, hR5.cap, hR5.small, hR5.blk⟩
    have hnx := next_any b 4 w5.drew hW5d.dk (by omega) (by omega)
    go_wp2_with fail
    go_region_law (go_simp; go_at_call 22; (with_reducible refine hnx.mono ?_); rintro e w6 ⟨y, hy0, hy1, rfl, hd6, hg6⟩; have hW6 := hW5d.next hbw hd6 hg6; have hR6 := hR5d.grown hg6 (by intro e; have := Option.some.inj e; omega); obtain ⟨xx, -, ef, k0, k1, k2, k3, k4, k5⟩ := hR6.at i hil; have q4 := hW6.cells.2.1; have v1 : IntKind.i64.wrap (y - 2) = y - 2 := IntWalk.i64_in _ (by omega))
    all_goals
      obtain ⟨ls', hR7⟩ := hR6.put i 4 (y - 2) hil (by omega)
      have hW7 := hW6.kept (r := some g) hbw (grown_store (b := g) (j := i * 6 + 4) (v := .int .i64 (y - 2))) (fun g' e => by cases e; exact hg2)
      try simp only [Nat.add_zero] at hR7
      obtain ⟨W7, hw7⟩ : ∃ W : World, W = w6.setCell ⟨g, i * 6 + 4, none⟩ (.int .i64 (y - 2)) := ⟨_, rfl⟩
      rw [← hw7] at hW7 hR7 ⊢
      clear hw7 q0 q1 qf r0 r1 rf k0 k1 k2 k3 k4 k5 ef q4
      obtain ⟨t0, t1⟩ := hW7.fin
      obtain ⟨q0, q1, qf, r0, r1, rf, -⟩ := hW7.cells
      go_wp2_with fail
      exact bodyPost_ret (v := .agg #[.int .i64 n, .slice (some ⟨g, 0, none⟩) N c1]) (by simp [results, Try.results12, go_sem, t0, t1]) rfl (hW7.done hbw hR7 hg2 hlen)
  · have hW5d := hW5.drew
    have hR5d : RowL w5.drew g c1 N es := ⟨hR5.len, hR5.cap, hR5.small, hR5.blk⟩
    have hnx := next_any b 3 w5.drew hW5d.dk (by omega) (by omega)
    go_wp2_with fail
    go_region_law (go_simp; go_at_call 22; (with_reducible refine hnx.mono ?_); rintro e w6 ⟨y, hy0, hy1, rfl, hd6, hg6⟩; have hW6 := hW5d.next hbw hd6 hg6; have hR6 := hR5d.grown hg6 (by intro e; have := Option.some.inj e; omega); obtain ⟨xx, -, ef, k0, k1, k2, k3, k4, k5⟩ := hR6.at i hil; have q4 := hW6.cells.2.1; have v1 : IntKind.i64.wrap (y * 1048576) = y * 1048576 := IntWalk.i64_in _ (by omega); have v2 : IntKind.i64.wrap (y * 1048576 - 1) = y * 1048576 - 1 := IntWalk.i64_in _ (by omega))
    all_goals
      obtain ⟨ls', hR7⟩ := hR6.put i 5 (y * 1048576 - 1) hil (by omega)
      have hW7 := hW6.kept (r := some g) hbw (grown_store (b := g) (j := i * 6 + 5) (v := .int .i64 (y * 1048576 - 1))) (fun g' e => by cases e; exact hg2)
      try simp only [Nat.add_zero] at hR7
      obtain ⟨W7, hw7⟩ : ∃ W : World, W = w6.setCell ⟨g, i * 6 + 5, none⟩ (.int .i64 (y * 1048576 - 1)) := ⟨_, rfl⟩
      rw [← hw7] at hW7 hR7 ⊢
      clear hw7 q0 q1 qf r0 r1 rf k0 k1 k2 k3 k4 k5 ef q4
      obtain ⟨t0, t1⟩ := hW7.fin
      obtain ⟨q0, q1, qf, r0, r1, rf, -⟩ := hW7.cells
      go_wp2_with fail
      exact bodyPost_ret (v := .agg #[.int .i64 n, .slice (some ⟨g, 0, none⟩) N c1]) (by simp [results, Try.results12, go_sem, t0, t1]) rfl (hW7.done hbw hR7 hg2 hlen)
  · have h0l : 0 < N := Nat.lt_of_le_of_lt (Nat.zero_le _) hil
    obtain ⟨x1, hx1, ef, a0, a1, a2, a3, a4, a5⟩ := hR5.at i hil
    obtain ⟨x2, hx2, -, b0, b1, b2, b3, b4, b5⟩ := hR5.at 0 h0l
    have hR6 := (hR5.put6 i x2 hil).put6 0 x1 h0l
    simp only [Nat.zero_mul, Nat.zero_add] at b0 b1 b2 b3 b4 b5 hR6
    have hW6 := hW5.kept (r := some g) hbw (grown_trans (grown_six (w := w5) (g := g) (i := i * 6) (x := x2)) (grown_six (g := g) (i := 0) (x := x1))) (fun g' e => by cases e; exact hg2)
    simp only [Nat.zero_add] at hW6
    generalize (es.set i x2).set 0 x1 = es2 at hR6
    by_cases hi0 : i = 0
    · subst hi0
      obtain rfl : x1 = x2 := by rw [hx1] at hx2; exact Option.some.inj hx2
      simp only [Nat.zero_mul, Nat.zero_add] at a0 a1 a2 a3 a4 a5 hR6 hW6
      clear hx1 hx2
      obtain ⟨xu, xv, xw, xl, xs, xt⟩ := x1
      dsimp only at a0 a1 a2 a3 a4 a5 b0 b1 b2 b3 b4 b5 hR6 hW6
      go_wp2_with fail
      go_region
      clear q0 q1 qf r0 r1 rf hz a0 a1 a2 a3 a4 a5 b0 b1 b2 b3 b4 b5 ef
      obtain ⟨W7, hw7⟩ : ∃ W : World, W = ((((((((((((w5.setCell ⟨g, 0, none⟩ (.int .i64 xu)).setCell ⟨g, 1, none⟩ (.int .i64 xv)).setCell ⟨g, 2, none⟩ (.int .i64 xw)).setCell ⟨g, 3, none⟩ (.int .i64 xl)).setCell ⟨g, 4, none⟩ (.int .i64 xs)).setCell ⟨g, 5, none⟩ (.int .i64 xt)).setCell ⟨g, 0, none⟩ (.int .i64 xu)).setCell ⟨g, 1, none⟩ (.int .i64 xv)).setCell ⟨g, 2, none⟩ (.int .i64 xw)).setCell ⟨g, 3, none⟩ (.int .i64 xl)).setCell ⟨g, 4, none⟩ (.int .i64 xs)).setCell ⟨g, 5, none⟩ (.int .i64 xt)) := ⟨_, rfl⟩
      rw [← hw7] at hW6 hR6 ⊢
      clear hw7
      obtain ⟨t0, t1⟩ := hW6.fin
      obtain ⟨q0, q1, qf, r0, r1, rf, -⟩ := hW6.cells
      go_wp2_with fail
      exact bodyPost_ret (v := .agg #[.int .i64 n, .slice (some ⟨g, 0, none⟩) N c1]) (by simp [results, Try.results12, go_sem, t0, t1]) rfl (hW6.drew.done hbw ⟨hR6.len, hR6.cap, hR6.small, hR6.blk⟩ hg2 hlen)
    · obtain ⟨q, hq⟩ : ∃ q, i * 6 = q + 6 := ⟨(i - 1) * 6, by omega⟩
      rw [hq] at a0 a1 a2 a3 a4 a5 hR6 hW6
      simp only [Nat.add_assoc, Nat.reduceAdd] at a1 a2 a3 a4 a5 hR6 hW6
      clear hx1 hx2
      obtain ⟨xu, xv, xw, xl, xs, xt⟩ := x1
      obtain ⟨yu, yv, yw, yl, ys, yt⟩ := x2
      dsimp only at a0 a1 a2 a3 a4 a5 b0 b1 b2 b3 b4 b5 hR6 hW6
      go_wp2_with fail
      go_region
      clear q0 q1 qf r0 r1 rf hz a0 a1 a2 a3 a4 a5 b0 b1 b2 b3 b4 b5 ef
      obtain ⟨W7, hw7⟩ : ∃ W : World, W = ((((((((((((w5.setCell ⟨g, q + 6, none⟩ (.int .i64 yu)).setCell ⟨g, q + 7, none⟩ (.int .i64 yv)).setCell ⟨g, q + 8, none⟩ (.int .i64 yw)).setCell ⟨g, q + 9, none⟩ (.int .i64 yl)).setCell ⟨g, q + 10, none⟩ (.int .i64 ys)).setCell ⟨g, q + 11, none⟩ (.int .i64 yt)).setCell ⟨g, 0, none⟩ (.int .i64 xu)).setCell ⟨g, 1, none⟩ (.int .i64 xv)).setCell ⟨g, 2, none⟩ (.int .i64 xw)).setCell ⟨g, 3, none⟩ (.int .i64 xl)).setCell ⟨g, 4, none⟩ (.int .i64 xs)).setCell ⟨g, 5, none⟩ (.int .i64 xt)) := ⟨_, rfl⟩
      rw [← hw7] at hW6 hR6 ⊢
      clear hw7
      obtain ⟨t0, t1⟩ := hW6.fin
      obtain ⟨q0, q1, qf, r0, r1, rf, -⟩ := hW6.cells
      go_wp2_with fail
      exact bodyPost_ret (v := .agg #[.int .i64 n, .slice (some ⟨g, 0, none⟩) N c1]) (by simp [results, Try.results12, go_sem, t0, t1]) rfl (hW6.drew.done hbw ⟨hR6.len, hR6.cap, hR6.small, hR6.blk⟩ hg2 hlen)
  · have hW5d := hW5.drew
    have hR5d : RowL w5.drew g c1 N es := ⟨hR5.len, hR5.cap, hR5.small, hR5.blk⟩
    have hnx := next_any b 10 w5.drew hW5d.dk (by omega) (by omega)
    go_wp2_with fail
    go_region_law (go_simp; go_at_call 22; (with_reducible refine hnx.mono ?_); rintro e w6 ⟨y, hy0, hy1, rfl, hd6, hg6⟩; have hW6 := hW5d.next hbw hd6 hg6; have hR6 := hR5d.grown hg6 (by intro e; have := Option.some.inj e; omega); obtain ⟨xx, -, ef, k0, k1, k2, k3, k4, k5⟩ := hR6.at i hil; have q4 := hW6.cells.2.1; have v1 : IntKind.i64.wrap (y - 1) = y - 1 := IntWalk.i64_in _ (by omega))
    all_goals
      obtain ⟨ls', hR7⟩ := hR6.put i 0 (y - 1) hil (by omega)
      have hW7 := hW6.kept (r := some g) hbw (grown_store (b := g) (j := i * 6) (v := .int .i64 (y - 1))) (fun g' e => by cases e; exact hg2)
      try simp only [Nat.add_zero] at hR7
      obtain ⟨W7, hw7⟩ : ∃ W : World, W = w6.setCell ⟨g, i * 6, none⟩ (.int .i64 (y - 1)) := ⟨_, rfl⟩
      rw [← hw7] at hW7 hR7 ⊢
      clear hw7 q0 q1 qf r0 r1 rf k0 k1 k2 k3 k4 k5 ef q4
      obtain ⟨t0, t1⟩ := hW7.fin
      obtain ⟨q0, q1, qf, r0, r1, rf, -⟩ := hW7.cells
      go_wp2_with fail
      exact bodyPost_ret (v := .agg #[.int .i64 n, .slice (some ⟨g, 0, none⟩) N c1]) (by simp [results, Try.results12, go_sem, t0, t1]) rfl (hW7.done hbw hR7 hg2 hlen)
end Go.Proofs.Ytkadeibinhkbjaa
