/- The contract of the reference's count of cliques. The contract of the reference's count of cliques: by induction; and of the numbers of cliques. The contract of the reference's numbers of cliques with one to four nodes. -/
import Derived.Test.YtekbpoppajbljaaDoorRef30
namespace Go.Proofs.YtekbpoppajbljaaDoor
open Go.RowKit Go.BigFrame

/-- some numbers in block g -/
def NumJ (w : World) (g n : Nat) : Prop := ∃ xs : List Int, xs.length = n ∧ NumAt w g xs
theorem NumJ.cell {w : World} {g n : Nat} (h : NumJ w g n) (x : Nat) (hx : x < n) : ∃ y, w.cell? ⟨g, x, none⟩ = some (.int .i64 y) ∧ w.frozen? ⟨g, x, none⟩ = false := by
  obtain ⟨xs, hl, h⟩ := h
  exact ⟨xs[x]'(by omega), h.cell x _ (List.getElem?_eq_getElem (by omega)), free_blk h⟩
theorem NumJ.lt {w : World} {g n : Nat} (h : NumJ w g n) : g < w.heap.size := by obtain ⟨xs, hl, h⟩ := h; exact blk_lt h
/-- only blocks gN and gE, which hold numbers, have turned -/
structure Jk (gN gE n m : Nat) (w w' : World) : Prop where
  numN : NumJ w' gN n
  numE : NumJ w' gE m
  os : w'.os = w.os
  tape : w'.tape = w.tape
  output : w'.output = w.output
  size : w.heap.size ≤ w'.heap.size
  block : ∀ k, k < w.heap.size → k ≠ gN → k ≠ gE → w'.heap[k]? = w.heap[k]?
theorem Jk.trans {gN gE n m : Nat} {w w1 w2 : World} (h : Jk gN gE n m w w1) (k : Jk gN gE n m w1 w2) : Jk gN gE n m w w2 :=
  ⟨k.numN, k.numE, k.os.trans h.os, k.tape.trans h.tape, k.output.trans h.output, Nat.le_trans h.size k.size, fun i hi h1 h2 => (k.block i (Nat.lt_of_lt_of_le hi h.size) h1 h2).trans (h.block i hi h1 h2)⟩
theorem NumJ.below {w w' : World} {g n : Nat} (h : NumJ w g n) (hb : Below w.heap.size w w') : NumJ w' g n := by
  obtain ⟨xs, hl, h⟩ := h; exact ⟨xs, hl, h.below hb⟩
theorem Jk.of_below {gN gE n m : Nat} {w w' : World} (hN : NumJ w gN n) (hE : NumJ w gE m) (hb : Below w.heap.size w w') : Jk gN gE n m w w' :=
  ⟨hN.below hb, hE.below hb, hb.os, hb.tape, hb.output, hb.size, fun i hi _ _ => hb.block i hi⟩
theorem Jk.then {gN gE n m : Nat} {w w1 w2 : World} (h : Jk gN gE n m w w1) (hb : Below w1.heap.size w1 w2) : Jk gN gE n m w w2 := h.trans (Jk.of_below h.numN h.numE hb)
theorem Jk.storeN {gN gE n m : Nat} {w w1 : World} (h : Jk gN gE n m w w1) (hne : gN ≠ gE) (x : Nat) (y : Int) : Jk gN gE n m w (w1.setCell ⟨gN, x, none⟩ (.int .i64 y)) := by
  obtain ⟨xs, hl, hN⟩ := h.numN
  obtain ⟨ys, hl2, hE⟩ := h.numE
  exact ⟨⟨xs.set x y, by simpa using hl, hN.set x y⟩, ⟨ys, hl2, hE.other (Ne.symm hne)⟩, h.os, h.tape, h.output, by simpa using h.size, fun i hi h1 h2 => (Below.heap_setCell _ _ _ _ h1).trans (h.block i hi h1 h2)⟩
theorem Jk.storeE {gN gE n m : Nat} {w w1 : World} (h : Jk gN gE n m w w1) (hne : gN ≠ gE) (x : Nat) (y : Int) : Jk gN gE n m w (w1.setCell ⟨gE, x, none⟩ (.int .i64 y)) := by
  obtain ⟨xs, hl, hN⟩ := h.numN
  obtain ⟨ys, hl2, hE⟩ := h.numE
  exact ⟨⟨xs, hl, hN.other hne⟩, ⟨ys.set x y, by simpa using hl2, hE.set x y⟩, h.os, h.tape, h.output, by simpa using h.size, fun i hi h1 h2 => (Below.heap_setCell _ _ _ _ h2).trans (h.block i hi h1 h2)⟩
theorem Jk.blk {gN gE n m : Nat} {w w' : World} (h : Jk gN gE n m w w') {g : Nat} {o : Obj} (hg : w.heap[g]? = some o) (h1 : g ≠ gN) (h2 : g ≠ gE) : w'.heap[g]? = some o := (h.block g (blk_lt hg) h1 h2).trans hg
theorem Jk.cell {gN gE n m : Nat} {w w' : World} (h : Jk gN gE n m w w') {b o : Nat} {v : Value} (hc : w.cell? ⟨b, o, none⟩ = some v) (h1 : b ≠ gN) (h2 : b ≠ gE) : w'.cell? ⟨b, o, none⟩ = some v :=
  (World.cell?_of_block (a := ⟨b, o, none⟩) (h.block b (cell_lt hc) h1 h2)).trans hc
theorem IntsAt.jk {gN gE n m : Nat} {w w' : World} {v : Value} {xs : List Int} (h : IntsAt w v xs) (hj : Jk gN gE n m w w') (h1 : Off gN v) (h2 : Off gE v) : IntsAt w' v xs := by
  obtain ⟨a, cap, rfl, g1, g2, g3, g4⟩ := h
  refine ⟨a, cap, rfl, g1, g2, g3, fun i e hi => ?_⟩
  obtain ⟨b, off, rfl, c0⟩ := g4 i e hi
  exact ⟨b, off, rfl, hj.cell c0 (h1 _ _ _ rfl) (h2 _ _ _ rfl)⟩
theorem EdgesAt.jk {gN gE n m : Nat} {w w' : World} {v : Value} {xs : List E2} (h : EdgesAt w v xs) (hj : Jk gN gE n m w w') (h1 : xs ≠ [] → Off gN v) (h2 : xs ≠ [] → Off gE v) : EdgesAt w' v xs := by
  obtain ⟨a, cap, rfl, g1, g2, g3, g4⟩ := h
  refine ⟨a, cap, rfl, g1, g2, g3, fun i e hi => ?_⟩
  obtain ⟨b, off, rfl, c0, c1⟩ := g4 i e hi
  have hn : xs ≠ [] := fun h => by rw [h] at hi; simp at hi
  exact ⟨b, off, rfl, hj.cell c0 (h1 hn _ _ _ rfl) (h2 hn _ _ _ rfl), hj.cell c1 (h1 hn _ _ _ rfl) (h2 hn _ _ _ rfl)⟩

def fitB (es : List E2) (set : List Nat) (v : Nat) : Bool := set.all fun x => adjB es x v
def clqL (g : Nat → Nat) (p : Nat → Bool) : List Nat → Nat
  | [] => 0
  | v :: t => (if p v then g v else 0) + clqL g p t
/-- the cliques with f nodes more than a set, those behind a place -/
def clq (es : List E2) (n : Nat) : Nat → List Nat → Nat → Nat
  | 0, _, _ => 1
  | f + 1, set, at0 => clqL (fun v => clq es n f (set ++ [v]) (v + 1)) (fitB es set) ((List.range n).drop at0)
/-- the nodes of a set are joined to one another -/
def Good (es : List E2) (n : Nat) (set : List Nat) : Prop := (∀ x ∈ set, x < n) ∧ set.Pairwise fun x y => adjB es x y = true
theorem Good.snoc {es : List E2} {n : Nat} {set : List Nat} {v : Nat} (h : Good es n set) (hv : v < n) (hf : fitB es set v = true) : Good es n (set ++ [v]) := by
  refine ⟨fun x hx => ?_, ?_⟩
  · rcases List.mem_append.1 hx with hx | hx
    · exact h.1 x hx
    · rw [List.mem_singleton.1 hx]; exact hv
  · rw [List.pairwise_append]
    refine ⟨h.2, List.pairwise_singleton _ _, fun x hx y hy => ?_⟩
    rw [List.mem_singleton.1 hy]
    exact List.all_eq_true.1 hf x hx
theorem Good.at {es : List E2} {n : Nat} {set : List Nat} (h : Good es n set) (i k : Nat) (hik : i < k) (hk : k < set.length) : adjB es (set.getD i 0) (set.getD k 0) = true := by
  rw [List.getD_eq_getElem?_getD, List.getD_eq_getElem?_getD, List.getElem?_eq_getElem (by omega), List.getElem?_eq_getElem hk]
  exact List.pairwise_iff_getElem.1 h.2 i k (by omega) hk hik

set_option maxRecDepth 100000 in
set_option maxHeartbeats 3200000 in
theorem leaf_any (n gN gE : Nat) (a aS : Option Addr) (cap caps at0 : Nat) (es : List E2) (set : List Nat) (w : World) (he : EdgesAt w (.slice a es.length cap) es) (hv : Valid n es) (hs : IntsAt w (.slice aS set.length caps) (natI set)) (hg : Good es n set)
    (hN : NumJ w gN n) (hE : NumJ w gE es.length) (hne : gN ≠ gE) (oa : es ≠ [] → Off gN (.slice a es.length cap)) (ob : es ≠ [] → Off gE (.slice a es.length cap)) (oc : Off gN (.slice aS set.length caps)) (od : Off gE (.slice aS set.length caps)) :
    Calls Tryd.prog 51 #[.agg #[.int .i64 n, .slice a es.length cap], .slice aS set.length caps, .int .i64 at0, .int .i64 set.length, .slice (some ⟨gN, 0, none⟩) n n, .slice (some ⟨gE, 0, none⟩) es.length es.length] w
      fun e w' => e = .returned (.int .i64 1) ∧ Jk gN gE n es.length w w' := by
  have hlen := hv.length_le
  have hsl : set.length ≤ 70368744177664 := by obtain ⟨_, _, _, _, _, h, _⟩ := hs; rw [natI_length] at h; exact h
  have hzN := hN.lt
  have hzE := hE.lt
  have hb0 : Below w.heap.size w (w.alloc (.cells #[.int .i64 n, .slice a es.length cap] 27)) := (Below.refl _ _).alloc (Nat.le_refl _) _
  have hG0 : (w.alloc (.cells #[.int .i64 n, .slice a es.length cap] 27)).heap[w.heap.size]? = some (.cells #[.int .i64 n, .slice a es.length cap] 27 (0, 0)) := heap_alloc_new _ _
  have hJ0 := Jk.of_below hN hE hb0
  go_enter Tryd.func51, Tryd.ntmps51
  go_wp2_with fail
  go_loopw [13] (fun i wr => ∃ i1 : Nat, i1 ≤ set.length ∧ i = .int .i64 i1 ∧ Jk gN gE n es.length w wr ∧ wr.heap[w.heap.size]? = some (.cells #[.int .i64 n, .slice a es.length cap] 27 (0, 0))) (fun i _ => set.length - (intOf i).toNat)
  case atStart => exact ⟨0, Nat.zero_le _, rfl, hJ0, hG0⟩
  case round =>
    clear hJ0 hG0 hb0
    obtain ⟨i1, hi1, rfl, hJ, hG⟩ := hrel
    by_cases hlt : i1 < set.length
    · obtain ⟨bS, oS, rfl, cx⟩ := natI_at (hs.jk hJ oc od) i1 hlt
      have hxn := hg.1 _ (getD_mem set i1 hlt)
      have hadj := fun k h1 h2 => hg.at i1 k h1 h2
      obtain ⟨x, hx⟩ : ∃ x, set.getD i1 0 = x := ⟨_, rfl⟩
      rw [hx] at hxn cx
      have HX := Lib.hid hx
      have HADJ := Lib.hid hadj
      clear hadj
      clear hx
      obtain ⟨y, cy, fy⟩ := hJ.numN.cell x hxn
      have hJ1 := hJ.storeN hne x (wrap64 (y + 1))
      have hG1 : (wr.setCell ⟨gN, x, none⟩ (.int .i64 (wrap64 (y + 1)))).heap[w.heap.size]? = some (.cells #[.int .i64 n, .slice a es.length cap] 27 (0, 0)) := (Below.heap_setCell _ _ _ _ (by show w.heap.size ≠ gN; omega)).trans hG
      have HJ1 := Lib.hid hJ1
      have HG1 := Lib.hid hG1
      clear hJ1 hG1 hJ hG
      go_wp2_with fail
      go_loopw [14] (fun i wr => ∃ k : Nat, i1 + 1 ≤ k ∧ k ≤ set.length ∧ i = .int .i64 k ∧ Jk gN gE n es.length w wr ∧ wr.heap[w.heap.size]? = some (.cells #[.int .i64 n, .slice a es.length cap] 27 (0, 0))) (fun i _ => set.length - (intOf i).toNat)
      case atStart => exact ⟨i1 + 1, Nat.le_refl _, hlt, by go_num, HJ1.out, HG1.out⟩
      case round =>
        clear HJ1 HG1 cx cy fy
        obtain ⟨k, hk1, hk2, rfl, hJ, hG⟩ := hrel
        by_cases hltk : k < set.length
        · obtain ⟨_, _, e1, cx⟩ := natI_at (hs.jk hJ oc od) i1 hlt
          cases e1
          obtain ⟨_, _, e1, cz⟩ := natI_at (hs.jk hJ oc od) k hltk
          cases e1
          rw [HX.out] at cx
          have hadj := HADJ.out k (by omega) hltk
          rw [HX.out] at hadj
          generalize set.getD k 0 = z at *
          obtain ⟨hfe, hfl⟩ := find_yes hv _ _ hadj
          obtain ⟨f, hf⟩ : ∃ f, fiN es x z = f := ⟨_, rfl⟩
          rw [hf] at hfe hfl
          have HC := find_any n a cap es x z wr.drew ((he.jk hJ oa ob).below (Below.refl _ _).drew) hv
          rw [hfe] at HC
          obtain ⟨y2, cy, fy⟩ := hJ.numE.cell f hfl
          obtain ⟨q0, q1⟩ := cells2 hG
          have hzG := blk_lt hG
          have hzE2 := hJ.numE.lt
          have hJd := hJ.then (Below.refl _ _).drew
          have hw2 : IntKind.i64.wrap (y2 + 1) = wrap64 (y2 + 1) := wrap_wrap64 _
          have hGd : wr.drew.heap[w.heap.size]? = some (.cells #[.int .i64 n, .slice a es.length cap] 27 (0, 0)) := hG
          clear hf hfe hadj
          go_wp2_with fail
          go_region_law (go_simp; go_at_call 77; refine HC.mono ?_; rintro e w8 ⟨rfl, hb8⟩; have ce8 := (hb8.cell (p := ⟨gE, f, none⟩) hzE2).trans cy; have fe8 := (hb8.frozen (p := ⟨gE, f, none⟩) hzE2).trans fy)
          all_goals
            have r1 := (hJd.then hb8).storeE hne f (wrap64 (y2 + 1))
            have r2 := (Below.heap_setCell w8 ⟨gE, f, none⟩ (.int .i64 (wrap64 (y2 + 1))) w.heap.size (by show w.heap.size ≠ gE; omega)).trans ((hb8.block _ hzG).trans hGd)
            have R1 := Lib.hid r1
            have R2 := Lib.hid r2
            clear r1 r2
            go_wp2_with fail
            go_roundw
            case rel => exact ⟨k + 1, by omega, by omega, by go_num, R1.out, R2.out⟩
            case measure => simp [intOf]; omega
        · obtain rfl : k = set.length := by omega
          go_wp2_with fail
          go_roundw
          case rel => exact ⟨i1 + 1, by omega, by go_num, hJ, hG⟩
          case measure => simp [intOf]; omega
    · go_wp2_with fail
      go_ret
      exact ⟨rfl, hJ⟩
end Go.Proofs.YtekbpoppajbljaaDoor

namespace Go.Proofs.YtekbpoppajbljaaDoor
open Go.RowKit Go.BigFrame

theorem fit_take (es : List E2) (set : List Nat) (v i : Nat) (h : i < set.length) : fitB es (set.take (i + 1)) v = (fitB es (set.take i) v && adjB es (set.getD i 0) v) := by
  have : set.take (i + 1) = set.take i ++ [set.getD i 0] := by
    rw [List.getD_eq_getElem?_getD, List.getElem?_eq_getElem h]; exact List.take_succ_eq_append_getElem h
  rw [this]; simp [fitB]
theorem find_ge {n : Int} {es : List E2} (hv : Valid n es) (p q : Nat) (hpq : p ≠ q) : decide (0 ≤ findS es p q) = adjB es p q := by
  by_cases h : adjB es p q = true
  · have := find_yes hv p q h
    rw [h, decide_eq_true_eq, this.1]; omega
  · have h' : adjB es p q = false := by simpa using h
    rw [h', decide_eq_false_iff_not]
    rcases Nat.lt_or_gt_of_ne hpq with hl | hl
    · have := (find_neg hv hl).2 h'; omega
    · rw [adjB_comm] at h'
      have hc : findS es q p = findS es p q := by unfold findS; rw [Int.min_comm, Int.max_comm]
      have := (find_neg hv hl).2 h'; omega
set_option maxRecDepth 100000 in
set_option maxHeartbeats 2000000 in
theorem cnt_any (n gN gE : Nat) (a : Option Addr) (cap : Nat) (es : List E2) (hv : Valid n es) (hne : gN ≠ gE) (oa : es ≠ [] → Off gN (.slice a es.length cap)) (ob : es ≠ [] → Off gE (.slice a es.length cap)) :
    ∀ (f : Nat) (aS : Option Addr) (caps at0 : Nat) (set : List Nat) (w : World), set.length + f ≤ 64 → EdgesAt w (.slice a es.length cap) es → IntsAt w (.slice aS set.length caps) (natI set) → Good es n set → (∀ x ∈ set, x < at0) →
      NumJ w gN n → NumJ w gE es.length → Off gN (.slice aS set.length caps) → Off gE (.slice aS set.length caps) → at0 ≤ 64 →
    Calls Tryd.prog 51 #[.agg #[.int .i64 n, .slice a es.length cap], .slice aS set.length caps, .int .i64 at0, .int .i64 ((set.length + f : Nat) : Int), .slice (some ⟨gN, 0, none⟩) n n, .slice (some ⟨gE, 0, none⟩) es.length es.length] w
      fun e w' => e = .returned (.int .i64 (wrap64 (clq es n f set at0 : Int))) ∧ Jk gN gE n es.length w w' := by
  intro f
  induction f with
  | zero =>
    intro aS caps at0 set w _ he hs hg _ hN hE oc od _
    exact (leaf_any n gN gE a aS cap caps at0 es set w he hv hs hg hN hE hne oa ob oc od).mono fun e w' ⟨h1, h2⟩ => ⟨by rw [h1]; simp [clq, wrap64], h2⟩
  | succ f ih =>
    intro aS caps at0 set w hf he hs hg hlow hN hE oc od hat
    have hn64 : n ≤ 64 := by have := hv.2.1; omega
    have hlen := hv.length_le
    have hzN := hN.lt
    have hzE := hE.lt
    obtain ⟨sz, hsz⟩ : ∃ sz, set.length + (f + 1) = sz := ⟨_, rfl⟩
    have hb0 : Below w.heap.size w (w.alloc (.cells #[.int .i64 n, .slice a es.length cap] 27)) := (Below.refl _ _).alloc (Nat.le_refl _) _
    have hG0 : (w.alloc (.cells #[.int .i64 n, .slice a es.length cap] 27)).heap[w.heap.size]? = some (.cells #[.int .i64 n, .slice a es.length cap] 27 (0, 0)) := heap_alloc_new _ _
    have hJ0 := Jk.of_below hN hE hb0
    have hszf : ((set.length : Int) == (sz : Int)) = false := by simp; omega
    have hszn : ¬ set.length = sz := by omega
    rw [hsz]
    have HSZ := Lib.hid hsz
    clear hsz
    go_enter Tryd.func51, Tryd.ntmps51
    go_wp2_with fail
    go_loopw [15, 16] (fun s i wr => ∃ (v acc : Nat), at0 ≤ v ∧ (v ≤ n ∨ v = at0) ∧ i = .int .i64 v ∧ s = .int .i64 (wrap64 (acc : Int)) ∧ Jk gN gE n es.length w wr ∧ wr.heap[w.heap.size]? = some (.cells #[.int .i64 n, .slice a es.length cap] 27 (0, 0)) ∧ Hid (clq es n (f + 1) set at0 = acc + clqL (fun v => clq es n f (set ++ [v]) (v + 1)) (fitB es set) ((List.range n).drop v))) (fun _ i _ => n - (intOf i).toNat)
    case atStart => exact ⟨at0, 0, Nat.le_refl _, .inr rfl, rfl, by simp [wrap64], hJ0, hG0, by show _ = _; rw [Nat.zero_add]; rfl⟩
    case round =>
      clear hJ0 hG0 hb0
      obtain ⟨v, acc, hv0, hvn, rfl, rfl, hJ, hG, HR⟩ := hrel
      obtain ⟨q0, q1⟩ := cells2 hG
      by_cases hlt : v < n
      · have HR2 : Hid (clq es n (f + 1) set at0 = acc + ((if fitB es set v = true then clq es n f (set ++ [v]) (v + 1) else 0) + clqL (fun v => clq es n f (set ++ [v]) (v + 1)) (fitB es set) ((List.range n).drop (v + 1)))) := by show _ = _; rw [HR.out, range_drop n v hlt]; rfl
        have hb1 : Below wr.heap.size wr wr := Below.refl _ _
        have hvS : ∀ x ∈ set, x ≠ v := fun x hx => by have := hlow x hx; omega
        have hzG := blk_lt hG
        clear HR
        go_wp2_with fail
        obtain ⟨wo, rfl⟩ : ∃ wo : World, wo = wr := ⟨_, rfl⟩
        go_loopw [17, 18] (fun b i wr => ∃ i1 : Nat, i1 ≤ set.length ∧ i = .int .i64 i1 ∧ b = .bool (fitB es (set.take i1) v) ∧ Below wo.heap.size wo wr) (fun _ i _ => set.length - (intOf i).toNat)
        case atStart => exact ⟨0, Nat.zero_le _, rfl, rfl, hb1⟩
        case round =>
          clear hb1
          obtain ⟨i1, hi1, rfl, rfl, hb⟩ := hrel
          have hJ1 := hJ.then hb
          have hG1 := (hb.block _ hzG).trans hG
          obtain ⟨q0, q1⟩ := cells2 hG1
          by_cases hlti : i1 < set.length
          · obtain ⟨bS, oS, rfl, cx⟩ := natI_at (hs.jk hJ1 oc od) i1 hlti
            have hxv := hvS _ (getD_mem set i1 hlti)
            have hft := fit_take es set v i1 hlti
            generalize set.getD i1 0 = x at *
            by_cases hfb : fitB es (set.take i1) v = true
            · rw [hfb, Bool.true_and] at hft
              rw [hfb]
              have hfa := find_any n a cap es x v
              have hE1 := he.jk hJ1 oa ob
              have hzG1 := blk_lt hG1
              have e0 : ∀ z : Ext wr.heap.size wr, z.world.cell? ⟨w.heap.size, 0, none⟩ = some (.int .i64 n) := fun z => (z.below.cell (p := ⟨w.heap.size, 0, none⟩) hzG1).trans q0
              have e1 : ∀ z : Ext wr.heap.size wr, z.world.cell? ⟨w.heap.size, 1, none⟩ = some (.slice a es.length cap) := fun z => (z.below.cell (p := ⟨w.heap.size, 1, none⟩) hzG1).trans q1
              have e2 : ∀ z : Ext wr.heap.size wr, z.world.cell? ⟨bS, oS + i1, none⟩ = some (.int .i64 x) := fun z => (z.below.cell (p := ⟨bS, oS + i1, none⟩) (cell_lt cx)).trans cx
              have HFT := Lib.hid hft
              clear hft hfb
              rcases Bool.eq_false_or_eq_true (adjB es x v) with hadj | hadj
              · obtain ⟨hfe, _⟩ := find_yes hv x v hadj
                rw [hfe] at hfa
                have HA := Lib.hid hadj
                clear hadj hfe
                go_wp2_with fail
                refine wp_region_ext wr.heap.size wr (by kernel_rfl) (by kernel_rfl) (Below.refl _ _) ?_
                repeat (go_big_quiet_step ((go_at_call 77; exact Calls.ext_of (Nat.le_refl _) (hfa _ (hE1.below (Ext.below _)) hv))))
                refine wpQuiet_nil ?_
                rintro wq ⟨⟨wq', hq⟩, hqq⟩
                obtain rfl : wq = wq' := hqq
                clear e0 e1 e2
                go_wp2
                go_roundw
                case rel => exact ⟨i1 + 1, by omega, by go_num, by rw [HFT.out, HA.out], hb.trans (hq.mono hb.size)⟩
                case measure => simp [intOf]; omega
              · have hfe : findS es x v = -1 := by
                  have := find_ge hv x v hxv
                  rw [hadj, decide_eq_false_iff_not] at this
                  rcases (find_from es (min (x : Int) (v : Int), max (x : Int) (v : Int)) 0) with ⟨h1, h2⟩
                  by_cases hm : (min (x : Int) (v : Int), max (x : Int) (v : Int)) ∈ es
                  · have := h1 hm; unfold findS at *; omega
                  · exact h2 hm
                rw [hfe] at hfa
                have HA := Lib.hid hadj
                clear hadj hfe
                go_wp2_with fail
                refine wp_region_ext wr.heap.size wr (by kernel_rfl) (by kernel_rfl) (Below.refl _ _) ?_
                repeat (go_big_quiet_step ((go_at_call 77; exact Calls.ext_of (Nat.le_refl _) (hfa _ (hE1.below (Ext.below _)) hv))))
                refine wpQuiet_nil ?_
                rintro wq ⟨⟨wq', hq⟩, hqq⟩
                obtain rfl : wq = wq' := hqq
                clear e0 e1 e2
                go_wp2
                go_roundw
                case rel => exact ⟨i1 + 1, by omega, by go_num, by rw [HFT.out, HA.out], hb.trans (hq.mono hb.size)⟩
                case measure => simp [intOf]; omega
            · have hfb' : fitB es (set.take i1) v = false := by simpa using hfb
              rw [hfb', Bool.false_and] at hft
              rw [hfb']
              have HFT := Lib.hid hft
              clear hft hfb hfb'
              go_wp2_with fail
              go_quiet (fail)
              go_wp2
              go_roundw
              case rel => exact ⟨i1 + 1, by omega, by go_num, by rw [HFT.out], hb.drewN _⟩
              case measure => simp [intOf]; omega
          · obtain rfl : i1 = set.length := by omega
            rw [List.take_length]
            by_cases hfit : fitB es set v = true
            · rw [if_pos hfit] at HR2
              rw [hfit]
              have hgs := hg.snoc hlt hfit
              have hlow' : ∀ x ∈ set ++ [v], x < v + 1 := fun x hx => by
                rcases List.mem_append.1 hx with hx | hx
                · have := hlow x hx; omega
                · rw [List.mem_singleton.1 hx]; omega
              obtain ⟨zs, hzs⟩ : ∃ zs, natI set = zs := ⟨_, rfl⟩
              have hzl : zs.length = set.length := by rw [← hzs, natI_length]
              have hz2 : natI (set ++ [v]) = zs ++ [(v : Int)] := by rw [natI_append, hzs]; rfl
              obtain ⟨C, hC⟩ : ∃ C, clq es n f (set ++ [v]) (v + 1) = C := ⟨_, rfl⟩
              have ihc : ∀ (a7 : Option Addr) (cap7 : Nat) (W : World), EdgesAt W (.slice a es.length cap) es → IntsAt W (.slice a7 (zs.length + 1) cap7) (zs ++ [(v : Int)]) → NumJ W gN n → NumJ W gE es.length → (∀ p, a7 = some p → p.block ≠ gN ∧ p.block ≠ gE) →
                  Calls Tryd.prog 51 #[.agg #[.int .i64 n, .slice a es.length cap], .slice a7 (zs.length + 1) cap7, .int .i64 ((v : Int) + 1), .int .i64 sz, .slice (some ⟨gN, 0, none⟩) n n, .slice (some ⟨gE, 0, none⟩) es.length es.length] W fun e w' => e = .returned (.int .i64 (wrap64 (C : Int))) ∧ Jk gN gE n es.length W w' := by
                intro a7 cap7 W x1 x2 x3 x4 x5
                have hl7 : (set ++ [v]).length = zs.length + 1 := by rw [List.length_append, hzl]; rfl
                have hc := ih a7 cap7 (v + 1) (set ++ [v]) W (by rw [List.length_append]; simp; omega) x1 (by rw [hz2, hl7]; exact x2) hgs hlow' x3 x4 (fun n' c p e => by cases e; exact (x5 _ rfl).1) (fun n' c p e => by cases e; exact (x5 _ rfl).2) (by omega)
                rw [show (set ++ [v]).length + f = sz by rw [List.length_append]; have := HSZ.out; simp; omega, hl7, hC, show ((v + 1 : Nat) : Int) = (v : Int) + 1 by omega] at hc
                exact hc
              have hs3 := hs.jk hJ1 oc od
              rw [hzs] at hs3
              have HRC : Hid (clq es n (f + 1) set at0 = (acc + C) + clqL (fun v => clq es n f (set ++ [v]) (v + 1)) (fitB es set) ((List.range n).drop (v + 1))) := by show _ = _; rw [HR2.out, ← hC]; omega
              have hzsl : zs.length ≤ 64 := by omega
              have hE3 := he.jk hJ1 oa ob
              have hN3 := hJ1.numN
              have hE4 := hJ1.numE
              have hzN3 := hN3.lt
              have hzE3 := hE4.lt
              have hzG3 := blk_lt hG1
              have hw : IntKind.i64.wrap (wrap64 (acc : Int) + wrap64 (C : Int)) = wrap64 ((acc + C : Nat) : Int) := by rw [wrap_wrap64, wrap64_add]; rfl
              have hwv : IntKind.i64.wrap ((v : Int) + 1) = (v : Int) + 1 := IntWalk.i64_in _ (by omega)
              have hbd : Below wr.heap.size wr wr.drew := (Below.refl _ _).drew
              have hs3d := hs3.below hbd
              have hs3a : IntsAt (wr.alloc (.cells #[.int .i64 v] 3)).drew (.slice aS set.length caps) zs := hs3.below ((Below.refl _ _).alloc (Nat.le_refl _) _).drew
              have hbA := fun (o : Obj) => (Below.refl wr.heap.size wr).alloc (Nat.le_refl _) o
              clear hgs hlow' hzs hz2 hzl hC HR2 ih he hs hg hlow hfit hJ hG hb hvS
              go_wp2_with fail
              go_region_law (first
                | (have _t := tokC; go_simp; go_at_call 51; refine (ihc a7 cap7 w7 (hE3.below hb7) he7 (hN3.below hb7) (hE4.below hb7) (fun p hp => by have := ho7 p hp; omega)).mono ?_; rintro e w8 ⟨rfl, hj8⟩; have hJ8 := (hJ1.then hb7).trans hj8; have hG8 := hj8.blk hG7 (by omega) (by omega))
                | (have _t := tokA; refine step_app_ints intsT rfl (.tmp 89) (.tmp 91) rfl wr.heap.size _ _ zs [(v : Int)] rfl (by exact hown6.alloc _) rfl (by exact ints_lit1 _ _ _) (by simp; omega) (by exact hbX.size) ?_; intro v7 w7 hown7 hg7; have hb7 : Below wr.heap.size wr w7 := below_app hbX (hown6.alloc _) hg7 hbX.size; have hG7 := (hb7.block _ hzG3).trans hG1; obtain ⟨c70, c71⟩ := cells2 hG7; obtain ⟨a7, cap7, hv7, he7, ho7⟩ := IntsAt.of_owns hown7 (by simp; omega); subst hv7; simp only [List.length_append, List.length_cons, List.length_nil, Nat.zero_add] at he7; have tokC : True := trivial; clear tokA)
                | (have _t := tokB; refine step_app_ints intsT rfl (.tmp 89) (.tmp 91) rfl wr.heap.size _ _ zs [(v : Int)] rfl (by exact hown6) rfl (by exact hv1) (by simp; omega) (by exact hbX.size) ?_; intro v7 w7 hown7 hg7; have hb7 : Below wr.heap.size wr w7 := below_app hbX hown6 hg7 hbX.size; have hG7 := (hb7.block _ hzG3).trans hG1; obtain ⟨c70, c71⟩ := cells2 hG7; obtain ⟨a7, cap7, hv7, he7, ho7⟩ := IntsAt.of_owns hown7 (by simp; omega); subst hv7; simp only [List.length_append, List.length_cons, List.length_nil, Nat.zero_add] at he7; have tokC : True := trivial; clear tokB)
                | (refine step_app_ints intsT rfl (.const (.slice none 0 0)) (.tmp 88) rfl wr.heap.size _ (.slice aS set.length caps) [] zs rfl (World.ownsRow_nil _ _ _ _) (by first | (simp [Act.eval]; done) | simp [Act.eval, Act.put]) (by with_reducible exact hs3d) (by simp; omega) (by exact hbd.size) ?_; intro v6 w6 hown6 hg6; have hb6 : Below wr.heap.size wr w6 := hbd.trans (below_of_grown hg6); have hG6 := (hb6.block _ hzG3).trans hG1; obtain ⟨c60, c61⟩ := cells2 hG6; have hzg6 := blk_lt hG6; have hbX := hb6.alloc hb6.size (.cells #[.int .i64 v] 3); have tokA : True := trivial)
                | (refine step_app_ints intsT rfl (.const (.slice none 0 0)) (.tmp 88) rfl wr.heap.size _ (.slice aS set.length caps) [] zs rfl (World.ownsRow_nil _ _ _ _) (by first | (simp [Act.eval]; done) | simp [Act.eval, Act.put]) (by with_reducible exact hs3a) (by simp; omega) (by exact (hbA _).drew.size) ?_; intro v6 w6 hown6 hg6; have hb6 : Below wr.heap.size wr w6 := (hbA _).drew.trans ((below_of_grown hg6).mono (hbA _).drew.size); have hG6 := (hb6.block _ hzG3).trans hG1; obtain ⟨c60, c61⟩ := cells2 hG6; have hzg6 := blk_lt hG6; have hv1 : IntsAt w6 (.slice (some ⟨wr.heap.size, 0, none⟩) 1 1) [(v : Int)] := ((ints_lit1 wr v 3).below (Below.refl _ _).drew).below (below_of_grown hg6); have hbX := hb6; have tokB : True := trivial))
              all_goals
                have HJ8 := Lib.hid hJ8
                have HG8 := Lib.hid hG8
                clear hJ8 hG8
                go_wp2_with fail
                go_roundw
                case rel => exact ⟨v + 1, acc + C, by omega, .inl hlt, by go_num, rfl, HJ8.out, HG8.out, HRC⟩
                case measure => simp [intOf]; omega
            · have hfit' : fitB es set v = false := by simpa using hfit
              rw [if_neg hfit, Nat.zero_add] at HR2
              rw [hfit']
              clear hfit hfit'
              go_wp2_with fail
              go_roundw
              case rel => exact ⟨v + 1, acc, by omega, .inl hlt, by go_num, rfl, hJ1, hG1, HR2⟩
              case measure => simp [intOf]; omega
      · have hz : clqL (fun v => clq es n f (set ++ [v]) (v + 1)) (fitB es set) ((List.range n).drop v) = 0 := by rw [List.drop_of_length_le (by simp; omega)]; rfl
        have HE : Hid (clq es n (f + 1) set at0 = acc) := by show _ = _; rw [HR.out, hz]; rfl
        clear hz
        go_wp2_with fail
        go_ret
        rw [HE.out]
        exact ⟨rfl, hJ⟩
end Go.Proofs.YtekbpoppajbljaaDoor

namespace Go.Proofs.YtekbpoppajbljaaDoor
open Go.RowKit Go.BigFrame

def clqs (es : List E2) (n j : Nat) : List Int := (List.range j).map fun (i : Nat) => wrap64 (clq es n (i + 1) [] 0 : Int)
theorem clqs_length (es : List E2) (n j : Nat) : (clqs es n j).length = j := by simp [clqs]
theorem clqs_succ (es : List E2) (n j : Nat) : clqs es n (j + 1) = clqs es n j ++ [wrap64 (clq es n (j + 1) [] 0 : Int)] := by simp [clqs, List.range_succ]
theorem cnt_call (n gN gE k : Nat) (a : Option Addr) (cap : Nat) (es : List E2) (w : World) (hv : Valid n es) (hk : k ≤ 6) (he : EdgesAt w (.slice a es.length cap) es) (hN : NumJ w gN n) (hE : NumJ w gE es.length) (hne : gN ≠ gE)
    (oa : es ≠ [] → Off gN (.slice a es.length cap)) (ob : es ≠ [] → Off gE (.slice a es.length cap)) :
    Calls Tryd.prog 51 #[.agg #[.int .i64 n, .slice a es.length cap], .slice none 0 0, .int .i64 0, .int .i64 k, .slice (some ⟨gN, 0, none⟩) n n, .slice (some ⟨gE, 0, none⟩) es.length es.length] w
      fun e w' => e = .returned (.int .i64 (wrap64 (clq es n k [] 0 : Int))) ∧ Jk gN gE n es.length w w' := by
  have h := cnt_any n gN gE a cap es hv hne oa ob k none 0 0 [] w (by simp; omega) he (IntsAt.empty none 0 (fun _ => rfl)) ⟨(fun x hx => by cases hx), List.Pairwise.nil⟩ (fun x hx => by cases hx) hN hE (fun n c p e => by cases e) (fun n c p e => by cases e) (by omega)
  rw [show ([] : List Nat).length + k = k from Nat.zero_add k] at h
  exact h
theorem NumJ.new (w : World) (n : Nat) : NumJ (w.alloc (.cells (intsV (List.replicate n 0)).toArray 3)) w.heap.size n := ⟨List.replicate n 0, by simp, heap_alloc_new _ _⟩
theorem numj_two (w : World) (n m : Nat) : NumJ ((w.alloc (.cells (intsV (List.replicate n 0)).toArray 3)).alloc (.cells (intsV (List.replicate m 0)).toArray 3)) w.heap.size n ∧ NumJ ((w.alloc (.cells (intsV (List.replicate n 0)).toArray 3)).alloc (.cells (intsV (List.replicate m 0)).toArray 3)) (w.heap.size + 1) m := by
  constructor
  · exact (NumJ.new w n).below ((Below.refl _ _).alloc (Nat.le_refl _) _)
  · have := NumJ.new (w.alloc (.cells (intsV (List.replicate n 0)).toArray 3)) m
    simpa using this
theorem Jk.below {gN gE n m B : Nat} {w0 w w' : World} (h : Jk gN gE n m w w') (hb : Below B w0 w) (hB : B ≤ w.heap.size) (h1 : B ≤ gN) (h2 : B ≤ gE) : Below B w0 w' :=
  ⟨h.os.trans hb.os, h.tape.trans hb.tape, h.output.trans hb.output, Nat.le_trans hb.size h.size, fun k hk => (h.block k (by omega) (by omega) (by omega)).trans (hb.block k hk)⟩
theorem owns_jk {gN gE n m : Nat} {w w' : World} {base T size k : Nat} {v : Value} {xs : List Value} (h : w.ownsRow base T size v k xs) (hj : Jk gN gE n m w w') (h1 : v.ownBlock ≠ some gN) (h2 : v.ownBlock ≠ some gE) : w'.ownsRow base T size v k xs := by
  refine ⟨h.1, ?_⟩
  rcases h.2 with h | ⟨g, cap, cur, hv, hb, hg, h3⟩
  · exact .inl h
  · refine .inr ⟨g, cap, cur, hv, hb, hj.blk hg (fun e => h1 ?_) (fun e => h2 ?_), h3⟩
    · rw [hv, ← e]; rfl
    · rw [hv, ← e]; rfl
set_option maxRecDepth 100000 in
set_option maxHeartbeats 3200000 in
theorem counts25_any (n : Nat) (a : Option Addr) (cap : Nat) (es : List E2) (w : World) (he : EdgesAt w (.slice a es.length cap) es) (hv : Valid n es) :
    Calls Tryd.prog 17 #[.agg #[.int .i64 n, .slice a es.length cap], .int .i64 4] w fun e w' => ∃ a' cap', e = .returned (.tuple #[.slice a' 4 cap', .int .i64 0]) ∧ IntsAt w' (.slice a' 4 cap') (clqs es n 4) ∧ Below w.heap.size w w' := by
  have hn64 : n ≤ 64 := by have := hv.2.1; omega
  have hlen := hv.length_le
  have hmk := make_ints n (by omega)
  have hmk2 := make_ints es.length (by omega)
  have hb0 : Below w.heap.size w (w.alloc (.cells #[.int .i64 n, .slice a es.length cap] 27)) := (Below.refl _ _).alloc (Nat.le_refl _) _
  have hG0 : (w.alloc (.cells #[.int .i64 n, .slice a es.length cap] 27)).heap[w.heap.size]? = some (.cells #[.int .i64 n, .slice a es.length cap] 27 (0, 0)) := heap_alloc_new _ _
  have hoff : ∀ g, w.heap.size ≤ g → es ≠ [] → Off g (.slice a es.length cap) := by
    intro g hg hne n' c p e
    obtain ⟨_, _, hq, _, _, _, h4⟩ := he
    obtain ⟨x, hx⟩ := List.exists_mem_of_ne_nil es hne
    obtain ⟨i, hi, hxe⟩ := List.getElem_of_mem hx
    obtain ⟨b, off, hb, c0, _⟩ := h4 i _ (List.getElem?_eq_getElem hi)
    have := cell_lt c0
    simp at hq e
    rw [hq.1, hb] at e
    have h5 : p.block = b := by rw [← Option.some.inj e.1]
    omega
  go_enter Tryd.func17, Tryd.ntmps17
  go_wp2_with fail
  refine (check_any n a cap es _ (he.below hb0)).mono ?_
  rintro e w1 ⟨rfl, hb1⟩
  rw [(valid_iff n es).2 hv]
  have hG1 := (hb1.block _ (blk_lt hG0)).trans hG0
  have hbw := hb0.trans (hb1.mono hb0.size)
  clear hb1 hb0 hG0
  go_wp2_with fail
  go_loopw [7, 8] (fun s i wr => ∃ k : Nat, k ≤ 4 ∧ i = .int .i64 ((k : Int) + 1) ∧ wr.ownsRow (w.heap.size + 1) 3 1 s (clqs es n k).length (intsV (clqs es n k)) ∧ Below w.heap.size w wr ∧ wr.heap[w.heap.size]? = some (.cells #[.int .i64 n, .slice a es.length cap] 27 (0, 0))) (fun _ i _ => 5 - (intOf i).toNat)
  case atStart => exact ⟨0, by omega, rfl, World.ownsRow_nil _ _ _ _, hbw, hG1⟩
  case round =>
    clear hG1 hbw
    obtain ⟨k, hk, rfl, hown, hb, hG⟩ := hrel
    by_cases hlt : k < 4
    · obtain ⟨q0, q1⟩ := cells2 hG
      have hzG := blk_lt hG
      have hzw := hb.size
      have hlt7 := hown.lt
      have e1 : ((k + 1 : Nat) : Int) = (k : Int) + 1 := by omega
      have n12 := numj_two wr n es.length
      have n21 := numj_two wr es.length n
      have b2 := fun (o1 o2 : Obj) => (((Below.refl wr.heap.size wr).alloc (Nat.le_refl _) o1).alloc (by simp) o2).drew
      have hc12 := cnt_call n wr.heap.size (wr.heap.size + 1) (k + 1) a cap es ((wr.alloc (.cells (intsV (List.replicate n 0)).toArray 3)).alloc (.cells (intsV (List.replicate es.length 0)).toArray 3)).drew hv (by omega) ((he.below hb).below (b2 _ _)) n12.1 n12.2 (by omega) (hoff _ hzw) (hoff _ (by omega))
      have hc21 := cnt_call n (wr.heap.size + 1) wr.heap.size (k + 1) a cap es ((wr.alloc (.cells (intsV (List.replicate es.length 0)).toArray 3)).alloc (.cells (intsV (List.replicate n 0)).toArray 3)).drew hv (by omega) ((he.below hb).below (b2 _ _)) n21.2 n21.1 (by omega) (hoff _ (by omega)) (hoff _ hzw)
      rw [e1] at hc12 hc21
      have hown2 := fun (o1 o2 : Obj) => (show ((wr.alloc o1).alloc o2).drew.ownsRow (w.heap.size + 1) 3 1 u7 (clqs es n k).length (intsV (clqs es n k)) from (hown.alloc o1).alloc o2)
      have hG2 := fun (o1 o2 : Obj) => ((b2 o1 o2).block _ hzG).trans hG
      have HCS := Lib.hid (clqs_succ es n k)
      have HCL := Lib.hid (clqs_length es n k)
      have hkl : (clqs es n k).length ≤ 4 := by rw [clqs_length]; omega
      have hbb := fun (o1 o2 : Obj) => hb.trans ((b2 o1 o2).mono hzw)
      have hsz2 := fun (o1 o2 : Obj) => (b2 o1 o2).size
      have hn7 : u7.ownBlock ≠ some wr.heap.size ∧ u7.ownBlock ≠ some (wr.heap.size + 1) := ⟨fun e => by have := hlt7 _ e; omega, fun e => by have := hlt7 _ e; omega⟩
      have hwk : IntKind.i64.wrap ((k : Int) + 1 + 1) = (k : Int) + 1 + 1 := IntWalk.i64_in _ (by omega)
      have HB2 := Lib.hid b2
      have HO2 := Lib.hid hown2
      have HG2 := Lib.hid hG2
      have HBB := Lib.hid hbb
      have HS2 := Lib.hid hsz2
      have HOF := Lib.hid hoff
      have HE := Lib.hid he
      have HL7 := Lib.hid hlt7
      have HC12 := Lib.hid hc12
      have HC21 := Lib.hid hc21
      clear b2 hown2 hG2 hbb hsz2 hoff he hlt7 hc12 hc21 n12 n21 e1 hown hb
      generalize clqs es n k = zs at *
      generalize wrap64 (clq es n (k + 1) [] 0 : Int) = C at *
      go_wp2_with fail
      go_region_held3 (fun w' => w'.cell? ⟨w.heap.size, 0, none⟩ = some (.int .i64 n) ∧ w'.cell? ⟨w.heap.size, 1, none⟩ = some (.slice a es.length cap))
        (first
          | go_keep
          | exact cells2 hG8
          | exact cells2 hG9)
        (first
          | (go_at_call 51; (with_reducible refine (HC12.out).mono ?_); rintro e w8 ⟨rfl, hj8⟩; have hb8 : Below w.heap.size w w8 := hj8.below (HBB.out _ _) (Nat.le_trans hzw (HS2.out _ _)) hzw (by omega); have hG8 := hj8.blk (HG2.out _ _) (by omega) (by omega); have hown8 := owns_jk (HO2.out _ _) hj8 hn7.1 hn7.2)
          | (go_at_call 51; (with_reducible refine (HC21.out).mono ?_); rintro e w8 ⟨rfl, hj8⟩; have hb8 : Below w.heap.size w w8 := hj8.below (HBB.out _ _) (Nat.le_trans hzw (HS2.out _ _)) (by omega) hzw; have hG8 := hj8.blk (HG2.out _ _) (by omega) (by omega); have hown8 := owns_jk (HO2.out _ _) hj8 hn7.2 hn7.1)
          | (refine step_app_ints intsT rfl (.tmp 25) (.tmp 36) rfl (w.heap.size + 1) _ _ zs [C] rfl (by exact hown8.alloc _) rfl (by exact ints_lit1 _ _ _) (by simp; omega) (by have := blk_lt hG8; simp; omega) ?_; intro v9 w9 hown9 hg9; have hb9 : Below w.heap.size w w9 := below_app' (hb8.alloc hb8.size _) (owns_base (hown8.alloc _) (Nat.le_succ _)) hg9; have hG9 := grown_blk hg9 ((Below.heap_alloc w8 (.cells #[.int .i64 C] 3) _ (blk_lt hG8)).trans hG8) (by intro e; have := (hown8.lt _ e.symm).1; omega)))
      all_goals
        rw [← HCS.out] at hown9
        go_wp2_with fail
        go_roundw
        case rel => exact ⟨k + 1, by omega, by go_num, hown9, hb9, hG9⟩
        case measure => simp [intOf]; omega
    · obtain rfl : k = 4 := by omega
      obtain ⟨a4, cap4, hv4, hi4, _⟩ := IntsAt.of_owns hown (by rw [clqs_length]; omega)
      subst hv4
      rw [clqs_length] at hi4 ⊢
      go_wp2_with fail
      go_ret2
      exact ⟨a4, cap4, rfl, hi4, hb⟩
end Go.Proofs.YtekbpoppajbljaaDoor
