/- The contract of the reference's count of cliques. -/
import Derived.Test.YtbkacbbhiecnkaaDoorRef30
namespace Go.Proofs.YtbkacbbhiecnkaaDoor
open Go.RowKit Go.BigFrame

/-- some numbers in block g -/
def NumJ (w : World) (g n : Nat) : Prop := ∃ xs : List Int, xs.length = n ∧ NumAt w g xs
theorem NumJ.cell {w : World} {g n : Nat} (h : NumJ w g n) (x : Nat) (hx : x < n) : ∃ y, w.cell? ⟨g, x, none⟩ = some (.int .i64 y) ∧ w.frozen? ⟨g, x, none⟩ = false := by
  obtain ⟨xs, hl, h⟩ := h
  exact ⟨xs[x]'(by omega), h.cell x _ (List.getElem?_eq_getElem (by omega)), free_blk h⟩
theorem NumJ.lt {w : World} {g n : Nat} (h : NumJ w g n) : g < w.heap.size := by obtain ⟨xs, hl, h⟩ := h; exact blk_lt h
/-- only blocks gN and gE, which hold numbers, have turned -/
structure Jk (gN gE n m : Nat) (w w' : World) : Prop where
  numN : NumJ w' gN n
  numE : NumJ w' gE m
  os : w'.os = w.os
  tape : w'.tape = w.tape
  output : w'.output = w.output
  size : w.heap.size ≤ w'.heap.size
  block : ∀ k, k < w.heap.size → k ≠ gN → k ≠ gE → w'.heap[k]? = w.heap[k]?
theorem Jk.trans {gN gE n m : Nat} {w w1 w2 : World} (h : Jk gN gE n m w w1) (k : Jk gN gE n m w1 w2) : Jk gN gE n m w w2 :=
  ⟨k.numN, k.numE, k.os.trans h.os, k.tape.trans h.tape, k.output.trans h.output, Nat.le_trans h.size k.size, fun i hi h1 h2 => (k.block i (Nat.lt_of_lt_of_le hi h.size) h1 h2).trans (h.block i hi h1 h2)⟩
theorem NumJ.below {w w' : World} {g n : Nat} (h : NumJ w g n) (hb : Below w.heap.size w w') : NumJ w' g n := by
  obtain ⟨xs, hl, h⟩ := h; exact ⟨xs, hl, h.below hb⟩
theorem Jk.of_below {gN gE n m : Nat} {w w' : World} (hN : NumJ w gN n) (hE : NumJ w gE m) (hb : Below w.heap.size w w') : Jk gN gE n m w w' :=
  ⟨hN.below hb, hE.below hb, hb.os, hb.tape, hb.output, hb.size, fun i hi _ _ => hb.block i hi⟩
theorem Jk.then {gN gE n m : Nat} {w w1 w2 : World} (h : Jk gN gE n m w w1) (hb : Below w1.heap.size w1 w2) : Jk gN gE n m w w2 := h.trans (Jk.of_below h.numN h.numE hb)
theorem Jk.storeN {gN gE n m : Nat} {w w1 : World} (h : Jk gN gE n m w w1) (hne : gN ≠ gE) (x : Nat) (y : Int) : Jk gN gE n m w (w1.setCell ⟨gN, x, none⟩ (.int .i64 y)) := by
  obtain ⟨xs, hl, hN⟩ := h.numN
  obtain ⟨ys, hl2, hE⟩ := h.numE
  exact ⟨⟨xs.set x y, by simpa using hl, hN.set x y⟩, ⟨ys, hl2, hE.other (Ne.symm hne)⟩, h.os, h.tape, h.output, by simpa using h.size, fun i hi h1 h2 => (Below.heap_setCell _ _ _ _ h1).trans (h.block i hi h1 h2)⟩
theorem Jk.storeE {gN gE n m : Nat} {w w1 : World} (h : Jk gN gE n m w w1) (hne : gN ≠ gE) (x : Nat) (y : Int) : Jk gN gE n m w (w1.setCell ⟨gE, x, none⟩ (.int .i64 y)) := by
  obtain ⟨xs, hl, hN⟩ := h.numN
  obtain ⟨ys, hl2, hE⟩ := h.numE
  exact ⟨⟨xs, hl, hN.other hne⟩, ⟨ys.set x y, by simpa using hl2, hE.set x y⟩, h.os, h.tape, h.output, by simpa using h.size, fun i hi h1 h2 => (Below.heap_setCell _ _ _ _ h2).trans (h.block i hi h1 h2)⟩
theorem Jk.blk {gN gE n m : Nat} {w w' : World} (h : Jk gN gE n m w w') {g : Nat} {o : Obj} (hg : w.heap[g]? = some o) (h1 : g ≠ gN) (h2 : g ≠ gE) : w'.heap[g]? = some o := (h.block g (blk_lt hg) h1 h2).trans hg
theorem Jk.cell {gN gE n m : Nat} {w w' : World} (h : Jk gN gE n m w w') {b o : Nat} {v : Value} (hc : w.cell? ⟨b, o, none⟩ = some v) (h1 : b ≠ gN) (h2 : b ≠ gE) : w'.cell? ⟨b, o, none⟩ = some v :=
  (World.cell?_of_block (a := ⟨b, o, none⟩) (h.block b (cell_lt hc) h1 h2)).trans hc
theorem IntsAt.jk {gN gE n m : Nat} {w w' : World} {v : Value} {xs : List Int} (h : IntsAt w v xs) (hj : Jk gN gE n m w w') (h1 : Off gN v) (h2 : Off gE v) : IntsAt w' v xs := by
  obtain ⟨a, cap, rfl, g1, g2, g3, g4⟩ := h
  refine ⟨a, cap, rfl, g1, g2, g3, fun i e hi => ?_⟩
  obtain ⟨b, off, rfl, c0⟩ := g4 i e hi
  exact ⟨b, off, rfl, hj.cell c0 (h1 _ _ _ rfl) (h2 _ _ _ rfl)⟩
theorem EdgesAt.jk {gN gE n m : Nat} {w w' : World} {v : Value} {xs : List E2} (h : EdgesAt w v xs) (hj : Jk gN gE n m w w') (h1 : xs ≠ [] → Off gN v) (h2 : xs ≠ [] → Off gE v) : EdgesAt w' v xs := by
  obtain ⟨a, cap, rfl, g1, g2, g3, g4⟩ := h
  refine ⟨a, cap, rfl, g1, g2, g3, fun i e hi => ?_⟩
  obtain ⟨b, off, rfl, c0, c1⟩ := g4 i e hi
  have hn : xs ≠ [] := fun h => by rw [h] at hi; simp at hi
  exact ⟨b, off, rfl, hj.cell c0 (h1 hn _ _ _ rfl) (h2 hn _ _ _ rfl), hj.cell c1 (h1 hn _ _ _ rfl) (h2 hn _ _ _ rfl)⟩

def fitB (es : List E2) (set : List Nat) (v : Nat) : Bool := set.all fun x => adjB es x v
def clqL (g : Nat → Nat) (p : Nat → Bool) : List Nat → Nat
  | [] => 0
  | v :: t => (if p v then g v else 0) + clqL g p t
/-- the cliques with f nodes more than a set, those behind a place -/
def clq (es : List E2) (n : Nat) : Nat → List Nat → Nat → Nat
  | 0, _, _ => 1
  | f + 1, set, at0 => clqL (fun v => clq es n f (set ++ [v]) (v + 1)) (fitB es set) ((List.range n).drop at0)
/-- the nodes of a set are joined to one another -/
def Good (es : List E2) (n : Nat) (set : List Nat) : Prop := (∀ x ∈ set, x < n) ∧ set.Pairwise fun x y => adjB es x y = true
theorem Good.snoc {es : List E2} {n : Nat} {set : List Nat} {v : Nat} (h : Good es n set) (hv : v < n) (hf : fitB es set v = true) : Good es n (set ++ [v]) := by
  refine ⟨fun x hx => ?_, ?_⟩
  · rcases List.mem_append.1 hx with hx | hx
    · exact h.1 x hx
    · rw [List.mem_singleton.1 hx]; exact hv
  · rw [List.pairwise_append]
    refine ⟨h.2, List.pairwise_singleton _ _, fun x hx y hy => ?_⟩
    rw [List.mem_singleton.1 hy]
    exact List.all_eq_true.1 hf x hx
theorem Good.at {es : List E2} {n : Nat} {set : List Nat} (h : Good es n set) (i k : Nat) (hik : i < k) (hk : k < set.length) : adjB es (set.getD i 0) (set.getD k 0) = true := by
  rw [List.getD_eq_getElem?_getD, List.getD_eq_getElem?_getD, List.getElem?_eq_getElem (by omega), List.getElem?_eq_getElem hk]
  exact List.pairwise_iff_getElem.1 h.2 i k (by omega) hk hik

set_option maxRecDepth 100000 in
set_option maxHeartbeats 3200000 in
theorem leaf_any (n gN gE : Nat) (a aS : Option Addr) (cap caps at0 : Nat) (es : List E2) (set : List Nat) (w : World) (he : EdgesAt w (.slice a es.length cap) es) (hv : Valid n es) (hs : IntsAt w (.slice aS set.length caps) (natI set)) (hg : Good es n set)
    (hN : NumJ w gN n) (hE : NumJ w gE es.length) (hne : gN ≠ gE) (oa : es ≠ [] → Off gN (.slice a es.length cap)) (ob : es ≠ [] → Off gE (.slice a es.length cap)) (oc : Off gN (.slice aS set.length caps)) (od : Off gE (.slice aS set.length caps)) :
    Calls Tryd.prog 83 #[.agg #[.int .i64 n, .slice a es.length cap], .slice aS set.length caps, .int .i64 at0, .int .i64 set.length, .slice (some ⟨gN, 0, none⟩) n n, .slice (some ⟨gE, 0, none⟩) es.length es.length] w
      fun e w' => e = .returned (.int .i64 1) ∧ Jk gN gE n es.length w w' := by
  have hlen := hv.length_le
  have hsl : set.length ≤ 70368744177664 := by obtain ⟨_, _, _, _, _, h, _⟩ := hs; rw [natI_length] at h; exact h
  have hzN := hN.lt
  have hzE := hE.lt
  have hb0 : Below w.heap.size w (w.alloc (.cells #[.int .i64 n, .slice a es.length cap] 27)) := (Below.refl _ _).alloc (Nat.le_refl _) _
  have hG0 : (w.alloc (.cells #[.int .i64 n, .slice a es.length cap] 27)).heap[w.heap.size]? = some (.cells #[.int .i64 n, .slice a es.length cap] 27 (0, 0)) := heap_alloc_new _ _
  have hJ0 := Jk.of_below hN hE hb0
  go_enter Tryd.func83, Tryd.ntmps83
  go_wp2_with fail
  go_loopw [13] (fun i wr => ∃ i1 : Nat, i1 ≤ set.length ∧ i = .int .i64 i1 ∧ Jk gN gE n es.length w wr ∧ wr.heap[w.heap.size]? = some (.cells #[.int .i64 n, .slice a es.length cap] 27 (0, 0))) (fun i _ => set.length - (intOf i).toNat)
  case atStart => exact ⟨0, Nat.zero_le _, rfl, hJ0, hG0⟩
  case round =>
    clear hJ0 hG0 hb0
    obtain ⟨i1, hi1, rfl, hJ, hG⟩ := hrel
    by_cases hlt : i1 < set.length
    · obtain ⟨bS, oS, rfl, cx⟩ := natI_at (hs.jk hJ oc od) i1 hlt
      have hxn := hg.1 _ (getD_mem set i1 hlt)
      have hadj := fun k h1 h2 => hg.at i1 k h1 h2
      obtain ⟨x, hx⟩ : ∃ x, set.getD i1 0 = x := ⟨_, rfl⟩
      rw [hx] at hxn cx
      have HX := Lib.hid hx
      have HADJ := Lib.hid hadj
      clear hadj
      clear hx
      obtain ⟨y, cy, fy⟩ := hJ.numN.cell x hxn
      have hJ1 := hJ.storeN hne x (wrap64 (y + 1))
      have hG1 : (wr.setCell ⟨gN, x, none⟩ (.int .i64 (wrap64 (y + 1)))).heap[w.heap.size]? = some (.cells #[.int .i64 n, .slice a es.length cap] 27 (0, 0)) := (Below.heap_setCell _ _ _ _ (by show w.heap.size ≠ gN; omega)).trans hG
      have HJ1 := Lib.hid hJ1
      have HG1 := Lib.hid hG1
      clear hJ1 hG1 hJ hG
      go_wp2_with fail
      go_loopw [14] (fun i wr => ∃ k : Nat, i1 + 1 ≤ k ∧ k ≤ set.length ∧ i = .int .i64 k ∧ Jk gN gE n es.length w wr ∧ wr.heap[w.heap.size]? = some (.cells #[.int .i64 n, .slice a es.length cap] 27 (0, 0))) (fun i _ => set.length - (intOf i).toNat)
      case atStart => exact ⟨i1 + 1, Nat.le_refl _, hlt, by go_num, HJ1.out, HG1.out⟩
      case round =>
        clear HJ1 HG1 cx cy fy
        obtain ⟨k, hk1, hk2, rfl, hJ, hG⟩ := hrel
        by_cases hltk : k < set.length
        · obtain ⟨_, _, e1, cx⟩ := natI_at (hs.jk hJ oc od) i1 hlt
          cases e1
          obtain ⟨_, _, e1, cz⟩ := natI_at (hs.jk hJ oc od) k hltk
          cases e1
          rw [HX.out] at cx
          have hadj := HADJ.out k (by omega) hltk
          rw [HX.out] at hadj
          generalize set.getD k 0 = z at *
          obtain ⟨hfe, hfl⟩ := find_yes hv _ _ hadj
          obtain ⟨f, hf⟩ : ∃ f, fiN es x z = f := ⟨_, rfl⟩
          rw [hf] at hfe hfl
          have HC := find_any n a cap es x z wr.drew ((he.jk hJ oa ob).below (Below.refl _ _).drew) hv
          rw [hfe] at HC
          obtain ⟨y2, cy, fy⟩ := hJ.numE.cell f hfl
          obtain ⟨q0, q1⟩ := cells2 hG
          have hzG := blk_lt hG
          have hzE2 := hJ.numE.lt
          have hJd := hJ.then (Below.refl _ _).drew
          have hw2 : IntKind.i64.wrap (y2 + 1) = wrap64 (y2 + 1) := wrap_wrap64 _
          have hGd : wr.drew.heap[w.heap.size]? = some (.cells #[.int .i64 n, .slice a es.length cap] 27 (0, 0)) := hG
          clear hf hfe hadj
          go_wp2_with fail
          go_region_law (go_simp; go_at_call 59; refine HC.mono ?_; rintro e w8 ⟨rfl, hb8⟩; have ce8 := (hb8.cell (p := ⟨gE, f, none⟩) hzE2).trans cy; have fe8 := (hb8.frozen (p := ⟨gE, f, none⟩) hzE2).trans fy)
          all_goals
            have r1 := (hJd.then hb8).storeE hne f (wrap64 (y2 + 1))
            have r2 := (Below.heap_setCell w8 ⟨gE, f, none⟩ (.int .i64 (wrap64 (y2 + 1))) w.heap.size (by show w.heap.size ≠ gE; omega)).trans ((hb8.block _ hzG).trans hGd)
            have R1 := Lib.hid r1
            have R2 := Lib.hid r2
            clear r1 r2
            go_wp2_with fail
            go_roundw
            case rel => exact ⟨k + 1, by omega, by omega, by go_num, R1.out, R2.out⟩
            case measure => simp [intOf]; omega
        · obtain rfl : k = set.length := by omega
          go_wp2_with fail
          go_roundw
          case rel => exact ⟨i1 + 1, by omega, by go_num, hJ, hG⟩
          case measure => simp [intOf]; omega
    · go_wp2_with fail
      go_ret
      exact ⟨rfl, hJ⟩
end Go.Proofs.YtbkacbbhiecnkaaDoor
