/- The contract of making a state. -/
import Derived.Test.YtkadeibinhkbjaaLkSet
import Derived.Test.YtkadeibinhkbjaaMkGraph
import Derived.Test.YtkadeibinhkbjaaPeelOp
import Derived.Deep.RegionHeld3
namespace Go.Proofs.Ytkadeibinhkbjaa
open Go.RowKit Go.BigFrame

/-- what has been made of the first i edges -/
structure MadeL (es : List E2) (i : Nat) (ls : List Lk) : Prop where
  ed : ls.map (fun l => (l.u, l.v)) = es.take i
  ok : ∀ l ∈ ls, attS l.weight l.label l.sign = true ∧ 0 ≤ l.time ∧ l.time ≤ 19
theorem MadeL.snoc {es : List E2} {i : Nat} {ls : List Lk} (h : MadeL es i ls) {u v a b c t : Int} (he : es[i]? = some (u, v)) (ha : attS a b c = true) (ht : 0 ≤ t) (ht2 : t ≤ 19) : MadeL es (i + 1) (ls ++ [⟨u, v, a, b, c, t⟩]) := by
  refine ⟨?_, fun l hl => ?_⟩
  · rw [List.map_append, h.ed, take_at es i _ he]; rfl
  · rcases List.mem_append.1 hl with hl | hl
    · exact h.ok l hl
    · rw [List.mem_singleton.1 hl]; exact ⟨ha, ht, ht2⟩
theorem MadeL.valid {n : Int} {es : List E2} {ls : List Lk} (hv : Valid n es) (h : MadeL es es.length ls) : VSt n ls := by
  have hed := h.ed
  rw [List.take_length] at hed
  refine ⟨hv.1, hv.2.1, fun l hl => ?_, ?_⟩
  · have hm : (l.u, l.v) ∈ es := by rw [← hed]; exact List.mem_map_of_mem hl
    have hi := hv.2.2.1 _ hm
    unfold Ins at hi
    have ho := h.ok l hl
    exact ⟨hi.1, hi.2.1, hi.2.2, ho.1, ho.2.1, by omega⟩
  · have hp := hv.2.2.2
    rw [← hed, List.pairwise_map] at hp
    exact hp
def StPost (b : Nat) (most : Int) (w : World) (e : Ending) (w' : World) : Prop :=
  ∃ (n : Int) (ls : List Lk) (a : Option Addr) (c : Nat), e = .returned (.agg #[.int .i64 n, .slice a ls.length c]) ∧ RowAt encLk w' (.slice a ls.length c) ls ∧ VSt n ls ∧ n ≤ most ∧ (∀ l ∈ ls, l.time ≤ 19) ∧ DeckAt w' b ∧ w.grownBy w' (some b) ∧ ∀ p, a = some p → w.heap.size ≤ p.block
set_option linter.unusedSimpArgs false in
set_option maxRecDepth 100000 in
set_option maxHeartbeats 6400000 in
theorem mkstate_any (b : Nat) (most : Int) (w : World) (hd : DeckAt w b) (h1 : 0 ≤ most) (h2 : most ≤ 64) :
    Calls Try.prog 10 #[.pointer (some ⟨b, 0, none⟩), .int .i64 most] w (StPost b most w) := by
  have hbw := hd.lt
  have hR0 := heap_alloc_new w (.cells #[.int .i64 0, .slice none 0 0] 24)
  have hdR := hd.alloc (.cells #[.int .i64 0, .slice none 0 0] 24)
  go_enter Try.func10, Try.ntmps10
  go_wp2_with fail
  refine (mkgraph_any b most _ hdR (by omega) (by omega)).mono ?_
  rintro _ w2 ⟨n, es, ag, cg, rfl, he2, hv, hn, hd2, hg2, ho2⟩
  have hR2 := grown_blk hg2 hR0 (by intro e; have := Option.some.inj e; omega)
  have hg02 := grown_trans (World.grownBy_alloc w (.cells #[.int .i64 0, .slice none 0 0] 24) (some b)) hg2
  have hzR := blk_lt hR2
  have hel := hv.length_le
  have hX := heap_alloc_new w2 (.cells #[.int .i64 n, .slice ag es.length cg] 60)
  have x0 := cell_blk (j := 0) hX
  have x1 := cell_blk (j := 1) hX
  have hg3 := grown_trans (World.grownBy_alloc w2 (.cells #[.int .i64 n, .slice ag es.length cg] 60) (some b)) (World.grownBy_alloc (w2.alloc (.cells #[.int .i64 n, .slice ag es.length cg] 60)) (.cells #[.int .i64 n, .slice none 0 0] 24) (some b))
  have hd3 := (hd2.alloc (.cells #[.int .i64 n, .slice ag es.length cg] 60)).alloc (.cells #[.int .i64 n, .slice none 0 0] 24)
  have hS := heap_alloc_new (w2.alloc (.cells #[.int .i64 n, .slice ag es.length cg] 60)) (.cells #[.int .i64 n, .slice none 0 0] 24)
  have hz2 : (w2.alloc (.cells #[.int .i64 n, .slice ag es.length cg] 60)).heap.size = w2.heap.size + 1 := by simp
  rw [hz2] at hS
  have hX2 := lk_next ((Below.refl _ _).alloc (Nat.le_refl _) (.cells #[.int .i64 n, .slice none 0 0] 24)) hX
  have xx1 := cell_blk (j := 1) hX2
  clear hR0 hdR hg2 hz2 hX hX2
  go_wp2_with fail
  clear x0 x1 xx1
  obtain ⟨S, hSS⟩ : ∃ S, w2.heap.size + 1 = S := ⟨_, rfl⟩
  obtain ⟨w3, hw3⟩ : ∃ W : World, W = (w2.alloc (.cells #[.int .i64 n, .slice ag es.length cg] 60)).alloc (.cells #[.int .i64 n, .slice none 0 0] 24) := ⟨_, rfl⟩
  rw [← hw3] at hg3 hd3 hS ⊢
  rw [hSS] at hS ⊢
  have hS2 : w2.heap.size < S := by omega
  have HM0 : Hid (MadeL es 0 []) := ⟨rfl, fun l hl => by simp at hl⟩
  clear hw3 hSS
  go_loopw [18] (fun vi wr => ∃ (i nl : Nat) (ls : List Lk) (al : Option Addr) (cl : Nat), i ≤ es.length ∧ vi = .int .i64 i ∧ DeckAt wr b ∧ w2.grownBy wr (some b) ∧ wr.heap[S]? = some (.cells #[.int .i64 n, .slice al nl cl] 24 (0, 0)) ∧ Hid (nl = ls.length) ∧ nl ≤ i ∧ wr.ownsRow (S + 1) 50 encLk.k (.slice al nl cl) nl (flatR encLk ls) ∧ Hid (MadeL es i ls)) (fun vi _ => es.length - (intOf vi).toNat)
  case atStart => exact ⟨0, 0, [], none, 0, Nat.zero_le _, rfl, hd3, hg3, hS, (show _ = _ from rfl), Nat.le_refl _, World.ownsRow_nil _ _ _ _, HM0⟩
  case round =>
    clear hd3 hg3 hS HM0
    obtain ⟨i, nl, ls, al, cl, hi, rfl, hd, hg, hS, HNL, hnl, hown, HM⟩ := hrel
    have hzw := hg.size
    have hSl := blk_lt hS
    by_cases hlt : i < es.length
    · have hlt3 : (i : Int) < es.length := by omega
      have hew := he2.grown hg (fun g e n c p hp => by cases e; have := ho2 p (Value.slice.inj hp).1; simp at this; omega)
      have hce : es.length ≤ cg := by obtain ⟨_, _, hv', h1, _⟩ := he2; cases hv'; exact h1
      obtain ⟨bb, off, u, v, rfl, hget, _, _, c0, c1⟩ := hew.at i hlt
      have HGET := Lib.hid hget
      have hb1 := (Below.refl wr.heap.size wr).alloc (Nat.le_refl _) (.cells #[.int .i64 u, .int .i64 v] 69)
      have hE1 := heap_alloc_new wr (.cells #[.int .i64 u, .int .i64 v] 69)
      have hS1 := lk_next hb1 hS
      have hd1 := hd.alloc (.cells #[.int .i64 u, .int .i64 v] 69)
      have hown1 := hown.alloc (.cells #[.int .i64 u, .int .i64 v] 69)
      have hg1 := grown_trans hg (World.grownBy_alloc wr (.cells #[.int .i64 u, .int .i64 v] 69) (some b))
      obtain ⟨E, hEE⟩ : ∃ E, wr.heap.size = E := ⟨_, rfl⟩
      obtain ⟨w4, hw4⟩ : ∃ W : World, W = wr.alloc (.cells #[.int .i64 u, .int .i64 v] 69) := ⟨_, rfl⟩
      have hbS : b ≠ S := by omega
      have hSE : (⟨S, 1, none⟩ : Addr).block ≠ E := by show S ≠ E; omega
      have hbE : b < wr.heap.size := hd.lt
      have hkE : ∀ k, (Value.slice al nl cl).ownBlock = some k → k < wr.heap.size := fun k hk => (hown.lt k hk).2
      clear hget hew
      go_wp2_with fail
      rw [← hw4] at hE1 hS1 hd1 hown1 hg1 ⊢
      rw [hEE] at hE1 hbE hkE
      try rw [hEE]
      clear hw4 hEE hb1 c0 c1
      have hownd : w4.drew.ownsRow (S + 1) 50 encLk.k (.slice al nl cl) nl (flatR encLk ls) := hown1
      have hSd : w4.drew.heap[S]? = _ := hS1
      have hEd : w4.drew.heap[E]? = _ := hE1
      have hgd : w2.grownBy w4.drew (some b) := ⟨hg1.os, hg1.tape, hg1.output, hg1.size, hg1.block⟩
      have hn1 := next_any b 6 w4.drew hd1.drew (by omega) (by omega)
      have hcs : ∀ W : World, W.heap[S]? = some (.cells #[.int .i64 n, .slice al nl cl] 24 (0, 0)) → W.heap[E]? = some (.cells #[.int .i64 u, .int .i64 v] 69 (0, 0)) → W.cell? ⟨S, 1, none⟩ = some (.slice al nl cl) ∧ W.cell? ⟨E, 0, none⟩ = some (.int .i64 u) ∧ W.cell? ⟨E, 1, none⟩ = some (.int .i64 v) ∧ W.frozen? ⟨S, 1, none⟩ = false := fun W h1 h2 => ⟨by rw [cell_blk h1]; rfl, by rw [cell_blk h2]; rfl, by rw [cell_blk h2]; rfl, free_blk h1⟩
      have hkeep : ∀ W W' : World, W.grownBy W' (some b) → W.ownsRow (S + 1) 50 encLk.k (.slice al nl cl) nl (flatR encLk ls) → W'.ownsRow (S + 1) 50 encLk.k (.slice al nl cl) nl (flatR encLk ls) := fun W W' hgw ho => ho.kept hgw (by
        cases hs : (Value.slice al nl cl).ownBlock with
        | none => exact .inl rfl
        | some k => have := (ho.lt k hs).1; exact .inr (by intro e; have := Option.some.inj e; omega))
      clear hown1 hS1 hE1 hd1 hg1 hd hg hS hown
      --@ region
      refine wp_region_peel (S := fun w' => w'.cell? ⟨S, 1, none⟩ = some (.slice al nl cl) ∧ w'.cell? ⟨E, 0, none⟩ = some (.int .i64 u) ∧ w'.cell? ⟨E, 1, none⟩ = some (.int .i64 v) ∧ w'.frozen? ⟨S, 1, none⟩ = false) 21 (by kernel_rfl) (by kernel_rfl) (by kernel_rfl) (by kernel_rfl) (by kernel_rfl) (hcs _ hSd hEd) (fun hHeld => ?_)
      simp only [List.take_succ_cons, List.take_zero]
      refine' wpAnyH_take (i := 0) (v := ?v0) ?hi0 (by kernel_rfl) (by kernel_rfl) (by kernel_rfl) ?hQ0 (Or.inl ⟨?hw0, ?hy0⟩) (by assumption) ?hr0
      case hi0 => simp only [List.getElem?_toArray, List.getElem?_cons_succ, List.getElem?_cons_zero]; rfl
      case hQ0 => exact fun _ _ _ h => h
      case hw0 => rfl
      case hy0 =>
        intro w hSw; (try dsimp only at hSw)
        go_simp
        try with_reducible rfl
      try simp only [Act.put, List.setIfInBounds_toArray, List.set_cons_zero, List.set_cons_succ]
      refine' wpAnyH_take (i := 1) (v := ?v1) ?hi1 (by kernel_rfl) (by kernel_rfl) (by kernel_rfl) ?hQ1 (Or.inl ⟨?hw1, ?hy1⟩) (by assumption) ?hr1
      case hi1 => simp only [List.getElem?_toArray, List.getElem?_cons_succ, List.getElem?_cons_zero]; rfl
      case hQ1 => exact fun _ _ _ h => h
      case hw1 => rfl
      case hy1 =>
        intro w hSw; (try dsimp only at hSw)
        go_simp
        try with_reducible rfl
      try simp only [Act.put, List.setIfInBounds_toArray, List.set_cons_zero, List.set_cons_succ]
      refine' wpAnyH_take (i := 2) (v := ?v2) ?hi2 (by kernel_rfl) (by kernel_rfl) (by kernel_rfl) ?hQ2 (Or.inl ⟨?hw2, ?hy2⟩) (by assumption) ?hr2
      case hi2 => simp only [List.getElem?_toArray, List.getElem?_cons_succ, List.getElem?_cons_zero]; rfl
      case hQ2 => exact fun _ _ _ h => h
      case hw2 => rfl
      case hy2 =>
        intro w hSw; (try dsimp only at hSw)
        go_simp
        try with_reducible rfl
      try simp only [Act.put, List.setIfInBounds_toArray, List.set_cons_zero, List.set_cons_succ]
      refine' wpAnyH_take (i := 3) (v := ?v3) ?hi3 (by kernel_rfl) (by kernel_rfl) (by kernel_rfl) ?hQ3 (Or.inl ⟨?hw3, ?hy3⟩) (by assumption) ?hr3
      case hi3 => simp only [List.getElem?_toArray, List.getElem?_cons_succ, List.getElem?_cons_zero]; rfl
      case hQ3 => exact fun _ _ _ h => h
      case hw3 => rfl
      case hy3 =>
        intro w hSw; (try dsimp only at hSw)
        go_simp
        try with_reducible rfl
      try simp only [Act.put, List.setIfInBounds_toArray, List.set_cons_zero, List.set_cons_succ]
      refine' wpAnyH_take (i := 4) (v := ?v4) ?hi4 (by kernel_rfl) (by kernel_rfl) (by kernel_rfl) ?hQ4 (Or.inl ⟨?hw4, ?hy4⟩) (by assumption) ?hr4
      case hi4 => simp only [List.getElem?_toArray, List.getElem?_cons_succ, List.getElem?_cons_zero]; rfl
      case hQ4 => exact fun _ _ _ h => h
      case hw4 => rfl
      case hy4 =>
        intro w hSw; (try dsimp only at hSw)
        go_simp
        try with_reducible rfl
      try simp only [Act.put, List.setIfInBounds_toArray, List.set_cons_zero, List.set_cons_succ]
      refine' wpAnyH_take (i := 5) (v := ?v5) ?hi5 (by kernel_rfl) (by kernel_rfl) (by kernel_rfl) ?hQ5 (Or.inl ⟨?hw5, ?hy5⟩) (by assumption) ?hr5
      case hi5 => simp only [List.getElem?_toArray, List.getElem?_cons_succ, List.getElem?_cons_zero]; rfl
      case hQ5 => exact fun _ _ _ h => h
      case hw5 => rfl
      case hy5 =>
        intro w hSw; (try dsimp only at hSw)
        go_simp
        try with_reducible rfl
      try simp only [Act.put, List.setIfInBounds_toArray, List.set_cons_zero, List.set_cons_succ]
      refine' wpAnyH_take (i := 6) (v := ?v6) ?hi6 (by kernel_rfl) (by kernel_rfl) (by kernel_rfl) ?hQ6 (Or.inl ⟨?hw6, ?hy6⟩) (by assumption) ?hr6
      case hi6 => simp only [List.getElem?_toArray, List.getElem?_cons_succ, List.getElem?_cons_zero]; rfl
      case hQ6 => exact fun _ _ _ h => h
      case hw6 => rfl
      case hy6 =>
        intro w hSw; (try dsimp only at hSw)
        go_simp
        try with_reducible rfl
      try simp only [Act.put, List.setIfInBounds_toArray, List.set_cons_zero, List.set_cons_succ]
      refine' wpAnyH_take (i := 9) (v := ?v9) ?hi9 (by kernel_rfl) (by kernel_rfl) (by kernel_rfl) ?hQ9 (Or.inl ⟨?hw9, ?hy9⟩) (by assumption) ?hr9
      case hi9 => simp only [List.getElem?_toArray, List.getElem?_cons_succ, List.getElem?_cons_zero]; rfl
      case hQ9 => exact fun _ _ _ h => h
      case hw9 => rfl
      case hy9 =>
        intro w hSw; (try dsimp only at hSw)
        go_simp
        try with_reducible rfl
      try simp only [Act.put, List.setIfInBounds_toArray, List.set_cons_zero, List.set_cons_succ]
      refine' wpAnyH_take (i := 11) (v := ?v11) ?hi11 (by kernel_rfl) (by kernel_rfl) (by kernel_rfl) ?hQ11 (Or.inl ⟨?hw11, ?hy11⟩) (by assumption) ?hr11
      case hi11 => simp only [List.getElem?_toArray, List.getElem?_cons_succ, List.getElem?_cons_zero]; rfl
      case hQ11 => exact fun _ _ _ h => h
      case hw11 => rfl
      case hy11 =>
        intro w hSw; (try dsimp only at hSw)
        go_simp
        try with_reducible rfl
      try simp only [Act.put, List.setIfInBounds_toArray, List.set_cons_zero, List.set_cons_succ]
      refine' wpAnyH_take (i := 15) (v := ?v15) ?hi15 (by kernel_rfl) (by kernel_rfl) (by kernel_rfl) ?hQ15 (Or.inl ⟨?hw15, ?hy15⟩) (by assumption) ?hr15
      case hi15 => simp only [List.getElem?_toArray, List.getElem?_cons_succ, List.getElem?_cons_zero]; rfl
      case hQ15 => exact fun _ _ _ h => h
      case hw15 => rfl
      case hy15 =>
        intro w hSw; (try dsimp only at hSw)
        go_simp
        try with_reducible rfl
      try simp only [Act.put, List.setIfInBounds_toArray, List.set_cons_zero, List.set_cons_succ]
      refine wpAnyH_ready (rs := [7]) (by kernel_rfl) (by simp) ?_
      refine' AllReadyH.cons ?ho7 (fun K hK => ?_) AllReadyH.nil
      case ho7 => simp only [List.getElem?_toArray, List.getElem?_cons_succ, List.getElem?_cons_zero]; rfl
      go_simp
      go_at_call 22
      (with_reducible refine hn1.mono ?_)
      rintro _ w4' ⟨x, hx0, hx1, rfl, hd4, hg4⟩
      have hS4 := grown_blk hg4 hSd (by intro e; have := Option.some.inj e; omega)
      have hE4 := grown_blk hg4 hEd (by intro e; have := Option.some.inj e; omega)
      have hg24 := grown_trans hgd hg4
      have hown4 := hkeep _ _ hg4 hownd
      have hn2 := next_any b 4 w4' hd4 (by omega) (by omega)
      have v1 : IntKind.i64.wrap (1 + x) = 1 + x := IntWalk.i64_in _ (by omega)
      refine hK.out _ _ (hcs _ hS4 hE4) (fun hHeld => ?_)
      clear hK K
      try simp only [Act.put, List.setIfInBounds_toArray, List.set_cons_zero, List.set_cons_succ]
      refine' wpAnyH_take (i := 8) (v := ?v8) ?hi8 (by kernel_rfl) (by kernel_rfl) (by kernel_rfl) ?hQ8 (Or.inl ⟨?hw8, ?hy8⟩) (by assumption) ?hr8
      case hi8 => simp only [List.getElem?_toArray, List.getElem?_cons_succ, List.getElem?_cons_zero]; rfl
      case hQ8 => exact fun _ _ _ h => h
      case hw8 => rfl
      case hy8 =>
        intro w hSw; (try dsimp only at hSw)
        go_simp
        try with_reducible rfl
      try simp only [Act.put, List.setIfInBounds_toArray, List.set_cons_zero, List.set_cons_succ]
      refine wpAnyH_ready (rs := [10]) (by kernel_rfl) (by simp) ?_
      refine' AllReadyH.cons ?ho10 (fun K hK => ?_) AllReadyH.nil
      case ho10 => simp only [List.getElem?_toArray, List.getElem?_cons_succ, List.getElem?_cons_zero]; rfl
      go_simp
      go_at_call 22
      (with_reducible refine hn2.mono ?_)
      rintro _ w5 ⟨y, hy0, hy1, rfl, hd5, hg5⟩
      have hS5 := grown_blk hg5 hS4 (by intro e; have := Option.some.inj e; omega)
      have hE5 := grown_blk hg5 hE4 (by intro e; have := Option.some.inj e; omega)
      have hg25 := grown_trans hg24 hg5
      have hown5 := hkeep _ _ hg5 hown4
      have hn3 := next_any b 2 w5 hd5 (by omega) (by omega)
      refine hK.out _ _ (hcs _ hS5 hE5) (fun hHeld => ?_)
      clear hK K
      try simp only [Act.put, List.setIfInBounds_toArray, List.set_cons_zero, List.set_cons_succ]
      refine wpAnyH_ready (rs := [12]) (by kernel_rfl) (by simp) ?_
      refine' AllReadyH.cons ?ho12 (fun K hK => ?_) AllReadyH.nil
      case ho12 => simp only [List.getElem?_toArray, List.getElem?_cons_succ, List.getElem?_cons_zero]; rfl
      go_simp
      go_at_call 22
      (with_reducible refine hn3.mono ?_)
      rintro _ w6 ⟨z, hz0, hz1, rfl, hd6, hg6⟩
      have hS6 := grown_blk hg6 hS5 (by intro e; have := Option.some.inj e; omega)
      have hE6 := grown_blk hg6 hE5 (by intro e; have := Option.some.inj e; omega)
      have hg26 := grown_trans hg25 hg6
      have hown6 := hkeep _ _ hg6 hown5
      have hn4 := next_any b 20 w6 hd6 (by omega) (by omega)
      have v2 : IntKind.i64.wrap (2 * z) = 2 * z := IntWalk.i64_in _ (by omega)
      have v3 : IntKind.i64.wrap (1 - 2 * z) = 1 - 2 * z := IntWalk.i64_in _ (by omega)
      refine hK.out _ _ (hcs _ hS6 hE6) (fun hHeld => ?_)
      clear hK K
      try simp only [Act.put, List.setIfInBounds_toArray, List.set_cons_zero, List.set_cons_succ]
      refine' wpAnyH_take (i := 13) (v := ?v13) ?hi13 (by kernel_rfl) (by kernel_rfl) (by kernel_rfl) ?hQ13 (Or.inl ⟨?hw13, ?hy13⟩) (by assumption) ?hr13
      case hi13 => simp only [List.getElem?_toArray, List.getElem?_cons_succ, List.getElem?_cons_zero]; rfl
      case hQ13 => exact fun _ _ _ h => h
      case hw13 => rfl
      case hy13 =>
        intro w hSw; (try dsimp only at hSw)
        go_simp
        try with_reducible rfl
      try simp only [Act.put, List.setIfInBounds_toArray, List.set_cons_zero, List.set_cons_succ]
      refine' wpAnyH_take (i := 14) (v := ?v14) ?hi14 (by kernel_rfl) (by kernel_rfl) (by kernel_rfl) ?hQ14 (Or.inl ⟨?hw14, ?hy14⟩) (by assumption) ?hr14
      case hi14 => simp only [List.getElem?_toArray, List.getElem?_cons_succ, List.getElem?_cons_zero]; rfl
      case hQ14 => exact fun _ _ _ h => h
      case hw14 => rfl
      case hy14 =>
        intro w hSw; (try dsimp only at hSw)
        go_simp
        try with_reducible rfl
      try simp only [Act.put, List.setIfInBounds_toArray, List.set_cons_zero, List.set_cons_succ]
      refine wpAnyH_ready (rs := [16]) (by kernel_rfl) (by simp) ?_
      refine' AllReadyH.cons ?ho16 (fun K hK => ?_) AllReadyH.nil
      case ho16 => simp only [List.getElem?_toArray, List.getElem?_cons_succ, List.getElem?_cons_zero]; rfl
      go_simp
      go_at_call 22
      (with_reducible refine hn4.mono ?_)
      rintro _ w7 ⟨t, ht0, ht1, rfl, hd7, hg7⟩
      have hS7 := grown_blk hg7 hS6 (by intro e; have := Option.some.inj e; omega)
      have hE7 := grown_blk hg7 hE6 (by intro e; have := Option.some.inj e; omega)
      have hg27 := grown_trans hg26 hg7
      have hown7 := hkeep _ _ hg7 hown6
      have hown7A := hown7.alloc (.cells #[.int .i64 u, .int .i64 v, .int .i64 (1 + x), .int .i64 y, .int .i64 (1 - 2 * z), .int .i64 t] 50)
      have hlx7 := rows_lit1 (E := encLk) w7 ⟨u, v, 1 + x, y, 1 - 2 * z, t⟩ 50 #[.int .i64 u, .int .i64 v, .int .i64 (1 + x), .int .i64 y, .int .i64 (1 - 2 * z), .int .i64 t] rfl
      have hbA := (Below.refl w7.heap.size w7).alloc (Nat.le_refl _) (.cells #[.int .i64 u, .int .i64 v, .int .i64 (1 + x), .int .i64 y, .int .i64 (1 - 2 * z), .int .i64 t] 50)
      have hS7A := lk_next hbA hS7
      have hE7A := lk_next hbA hE7
      have hz7A : S + 1 ≤ (w7.alloc (.cells #[.int .i64 u, .int .i64 v, .int .i64 (1 + x), .int .i64 y, .int .i64 (1 - 2 * z), .int .i64 t] 50)).heap.size := blk_lt hS7A
      refine hK.out _ _ (hcs _ hS7 hE7) (fun hHeld => ?_)
      clear hK K
      try simp only [Act.put, List.setIfInBounds_toArray, List.set_cons_zero, List.set_cons_succ]
      refine' wpAnyH_take (i := 17) (v := ?v17) ?hi17 (by kernel_rfl) (by kernel_rfl) (by kernel_rfl) ?hQ17 (Or.inl ⟨?hw17, ?hy17⟩) (by assumption) ?hr17
      case hi17 => simp only [List.getElem?_toArray, List.getElem?_cons_succ, List.getElem?_cons_zero]; rfl
      case hQ17 => exact fun _ _ _ h => h
      case hw17 => rfl
      case hy17 =>
        intro w hSw; (try dsimp only at hSw)
        go_simp
        try with_reducible rfl
      try simp only [Act.put, List.setIfInBounds_toArray, List.set_cons_zero, List.set_cons_succ]
      refine wpAnyH_ready (rs := [18]) (by kernel_rfl) (by simp) ?_
      refine' AllReadyH.cons ?ho18 (fun K hK => ?_) AllReadyH.nil
      case ho18 => simp only [List.getElem?_toArray, List.getElem?_cons_succ, List.getElem?_cons_zero]; rfl
      go_simp
      refine hK.out _ _ (hcs _ hS7A hE7A) (fun hHeld => ?_)
      clear hK K
      try simp only [Act.put, List.setIfInBounds_toArray, List.set_cons_zero, List.set_cons_succ]
      refine wpAnyH_ready (rs := [19]) (by kernel_rfl) (by simp) ?_
      refine' AllReadyH.cons ?ho19 (fun K hK => ?_) AllReadyH.nil
      case ho19 => simp only [List.getElem?_toArray, List.getElem?_cons_succ, List.getElem?_cons_zero]; rfl
      refine step_app_rows lkRT rfl (.tmp 23) (.tmp 40) rfl (S + 1) _ _ ls [⟨u, v, 1 + x, y, 1 - 2 * z, t⟩] rfl (by rw [← HNL.out]; exact hown7A) rfl (by exact hlx7) (by rw [← HNL.out]; simp; omega) (by rw [← HNL.out]; simp; omega) (by exact hz7A) ?_
      intro v8 w8 hown8 hg8
      have hS8 := grown_blk hg8 hS7A (by intro e; have := (hown7A.lt _ e.symm).1; omega)
      have hE8 := grown_blk hg8 hE7A (by intro e; have := hkE _ e.symm; omega)
      have hl8 : (ls ++ [(⟨u, v, 1 + x, y, 1 - 2 * z, t⟩ : Lk)]).length = nl + 1 := by rw [List.length_append, ← HNL.out]; rfl
      rw [hl8] at hown8
      obtain ⟨a8, c8, rfl⟩ := owns_shape hown8
      clear hl8
      refine hK.out _ _ (hcs _ hS8 hE8) (fun hHeld => ?_)
      clear hK K
      try simp only [Act.put, List.setIfInBounds_toArray, List.set_cons_zero, List.set_cons_succ]
      refine' wpAnyH_take (i := 20) (v := ?v20) ?hi20 (by kernel_rfl) (by kernel_rfl) (by kernel_rfl) ?hQ20 (Or.inl ⟨?hw20, ?hy20⟩) (by assumption) ?hr20
      case hi20 => simp only [List.getElem?_toArray, List.getElem?_cons_succ, List.getElem?_cons_zero]; rfl
      case hQ20 => exact fun _ _ _ h => h
      case hw20 => rfl
      case hy20 =>
        intro w hSw; (try dsimp only at hSw)
        go_simp
        try with_reducible rfl
      try simp only [Act.put, List.setIfInBounds_toArray, List.set_cons_zero, List.set_cons_succ]
      refine wpAnyH_done (by kernel_rfl) ?_ _
      have f8 := (hcs _ hS8 hE8).2.2.2
      have c8' := (hcs _ hS8 hE8).1
      refine' lastQ_normal ?hlast (fun K hK => ?_)
      case hlast => simp only [List.getElem?_cons_succ, List.getElem?_cons_zero]; rfl
      go_simp
      refine hK.out _ _ ?_
      clear hK K
      try simp only [Act.put, List.setIfInBounds_toArray, List.set_cons_zero, List.set_cons_succ]
      --@ behind
      all_goals
        have hg28 := grown_new (grown_trans hg27 (World.grownBy_alloc w7 (.cells #[.int .i64 u, .int .i64 v, .int .i64 (1 + x), .int .i64 y, .int .i64 (1 - 2 * z), .int .i64 t] 50) (some b))) hg8 (fun g e => .inr (by have := (hown7A.lt g e).1; omega))
        have hd8 := (hd7.alloc (.cells #[.int .i64 u, .int .i64 v, .int .i64 (1 + x), .int .i64 y, .int .i64 (1 - 2 * z), .int .i64 t] 50)).kept hg8 (fun g e => by have := (hown7A.lt g e).1; omega)
        have hst : w8.grownBy (w8.setCell ⟨S, 1, none⟩ (.slice a8 (nl + 1) c8)) (some S) := grown_store
        have hg9 := grown_new hg28 hst (fun g e => .inr (by have := Option.some.inj e; omega))
        have hd9 := hd8.kept hst (fun g e => by have := Option.some.inj e; omega)
        have hS9 : (w8.setCell ⟨S, 1, none⟩ (.slice a8 (nl + 1) c8)).heap[S]? = some (.cells #[.int .i64 n, .slice a8 (nl + 1) c8] 24 (0, 0)) := heap_setCell_same w8 S 1 _ _ _ hS8
        have hown9 := hown8.kept hst (by
          cases hs : (Value.slice a8 (nl + 1) c8).ownBlock with
          | none => exact .inl rfl
          | some k => have := (hown8.lt k hs).1; exact .inr (by intro e; have := Option.some.inj e; omega))
        have HM9 : Hid (MadeL es (i + 1) (ls ++ [⟨u, v, 1 + x, y, 1 - 2 * z, t⟩])) := HM.out.snoc HGET.out (by
          have hz : z = 0 ∨ z = 1 := by omega
          unfold attS
          rcases hz with rfl | rfl <;> simp <;> omega) ht0 (by omega)
        have HNL9 : Hid (nl + 1 = (ls ++ [(⟨u, v, 1 + x, y, 1 - 2 * z, t⟩ : Lk)]).length) := Lib.hid (by rw [List.length_append, ← HNL.out]; rfl)
        obtain ⟨w9, hw9⟩ : ∃ W : World, W = w8.setCell ⟨S, 1, none⟩ (.slice a8 (nl + 1) c8) := ⟨_, rfl⟩
        rw [← hw9] at hg9 hd9 hS9 hown9 ⊢
        clear hw9 hst hd8 hg28 f8 c8' hown8 hE8 hS8 hg8 hz7A hE7A hS7A hbA hlx7 hown7A hown7 hg27 hE7 hS7 hg7 hd7 hn4 hown6 hg26 hE6 hS6 hg6 hd6 hn3 hown5 hg25 hE5 hS5 hg5 hd5 hn2 hown4 hg24 hE4 hS4 hg4 hd4 hkeep hcs hn1 hgd hEd hSd hownd
        go_wp2_with fail
        go_roundw
        case rel => exact ⟨i + 1, nl + 1, _, a8, c8, by omega, by go_num, hd9, hg9, hS9, HNL9, by omega, hown9, HM9⟩
        case measure => simp [intOf]; omega
    · have hie : i = es.length := by omega
      subst hie
      have hR := grown_blk hg hR2 (by intro e; have := Option.some.inj e; omega)
      have s0 : wr.cell? ⟨S, 0, none⟩ = some (.int .i64 n) := by rw [cell_blk hS]; rfl
      have s1 : wr.cell? ⟨S, 1, none⟩ = some (.slice al nl cl) := by rw [cell_blk hS]; rfl
      have r0 : wr.cell? ⟨w.heap.size, 0, none⟩ = some (.int .i64 0) := cell_blk hR
      have r1 : wr.cell? ⟨w.heap.size, 1, none⟩ = some (.slice none 0 0) := cell_blk hR
      have r2 : wr.frozen? ⟨w.heap.size, 0, none⟩ = false := free_blk hR
      have r3 : wr.frozen? ⟨w.heap.size, 1, none⟩ = false := free_blk hR
      have hrow : RowAt encLk wr (.slice al nl cl) ls := by
        obtain ⟨a', c', h1, h2, _⟩ := RowAt.of_owns (E := encLk) (by rw [← HNL.out]; exact hown) (by rw [← HNL.out]; omega)
        rw [h1]; exact h2
      have halo : ∀ p, al = some p → S + 1 ≤ p.block := fun p hp => by
        subst hp
        exact (hown.lt p.block rfl).1
      have hv9 := HM.out.valid hv
      go_wp2_with fail
      have hfin := set_two (u := .int .i64 n) (v := .slice al nl cl) hR
      have t0 := (cell_blk (j := 0) hfin)
      have t1 := (cell_blk (j := 1) hfin)
      have hgf : wr.grownBy ((wr.setCell ⟨w.heap.size, 0, none⟩ (.int .i64 n)).setCell ⟨w.heap.size, 1, none⟩ (.slice al nl cl)) (some w.heap.size) := grown_trans grown_store grown_store
      refine bodyPost_ret (v := .agg #[.int .i64 n, .slice al nl cl]) (by simp [results, Try.results10, go_sem, t0, t1]) rfl ⟨n, ls, al, cl, by rw [← HNL.out], ?_, hv9, by omega, fun l hl => (HM.out.ok l hl).2.2, ?_, ?_, ?_⟩
      · rw [← HNL.out]
        exact hrow.grown hgf (fun g e n c p ep => by cases e; cases ep; have := halo _ rfl; omega)
      · exact hd.kept hgf (fun g e => by cases e; exact hbw)
      · exact grown_new (grown_trans hg02 hg) hgf (fun g e => .inr (by cases e; omega))
      · intro p hp; have := halo p hp; omega
end Go.Proofs.Ytkadeibinhkbjaa
