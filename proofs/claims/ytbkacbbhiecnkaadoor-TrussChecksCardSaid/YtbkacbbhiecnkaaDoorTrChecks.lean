/- The walk of the law on which truss numbers and orders are accepted. -/
import Derived.Test.YtbkacbbhiecnkaaDoorTrBig
import Derived.Test.YtbkacbbhiecnkaaDoorRefTr3
import Derived.Test.YtbkacbbhiecnkaaDoorTrOwn
import Derived.Test.YtbkacbbhiecnkaaDoorTrProves
import Derived.BigRegion
import Derived.BigQuiet
namespace Go.Proofs.YtbkacbbhiecnkaaDoor
open Go.RowKit Go.BigFrame

/-- three rows of numbers in block L -/
structure S3 (w : World) (L : Nat) (Y : Nat → List Int) (A : Nat → Option Addr) (C : Nat → Nat) : Prop where
  row : ∀ k, k < 3 → w.cell? ⟨L, k, none⟩ = some (.slice (A k) (Y k).length (C k)) ∧ IntsB w (.slice (A k) (Y k).length (C k)) (Y k)
theorem S3.below {w w' : World} {L : Nat} {Y : Nat → List Int} {A : Nat → Option Addr} {C : Nat → Nat} (h : S3 w L Y A C) (hb : Below w.heap.size w w') : S3 w' L Y A C :=
  ⟨fun k hk => ⟨(hb.cell (p := ⟨L, k, none⟩) (cell_lt (h.row k hk).1)).trans (h.row k hk).1, (h.row k hk).2.below hb⟩⟩
def pk3 {α : Type} (x y z : α) : Nat → α
  | 0 => x
  | 1 => y
  | _ => z
theorem s3_of {w : World} {L T : Nat} {e0 e1 e2 : List Int} {a0 a1 a2 : Option Addr} {c0 c1 c2 : Nat}
    (h : w.heap[L]? = some (.cells #[.slice a0 e0.length c0, .slice a1 e1.length c1, .slice a2 e2.length c2] T (0, 0)))
    (h0 : IntsB w (.slice a0 e0.length c0) e0) (h1 : IntsB w (.slice a1 e1.length c1) e1) (h2 : IntsB w (.slice a2 e2.length c2) e2) : S3 w L (pk3 e0 e1 e2) (pk3 a0 a1 a2) (pk3 c0 c1 c2) := by
  refine ⟨fun k hk => ?_⟩
  rcases (by omega : k = 0 ∨ k = 1 ∨ k = 2) with rfl | rfl | rfl
  · exact ⟨by rw [cell_blk h]; rfl, h0⟩
  · exact ⟨by rw [cell_blk h]; rfl, h1⟩
  · exact ⟨by rw [cell_blk h]; rfl, h2⟩
/-- a copy of the numbers that may be stored to, and any order -/
structure OddAny (W0 wx : World) (b m : Nat) (xs : List Int) (a5 : Option Addr) (c5 : Nat) (q : List Nat) (aQ : Option Addr) (cQ : Nat) : Prop where
  ord : IntsAt wx (.slice aQ m cQ) (castL q)
  perm : q.Perm (List.range m)
  odd : IntsAt wx (.slice a5 m c5) xs
  row : 0 < m → ∃ g, a5 = some ⟨g, 0, none⟩ ∧ W0.heap.size ≤ g ∧ RowI wx g c5 xs ∧ ∀ p, aQ = some p → p.block ≠ g
  dk : DeckAt wx b
  gr : W0.grownBy wx (some b)
  aq : ∀ p, aQ = some p → W0.heap.size ≤ p.block
theorem oddany_ab {W0 W1 W2 : World} {b m : Nat} {xs : List Int} {v5 : Value} {q : List Nat} {aQ : Option Addr} {cQ : Nat} (hd : DeckAt W0 b) (hm : xs.length = m) (hm5 : m ≤ 5000)
    (hown : W1.ownsRow W0.heap.size 3 1 v5 xs.length (intsV xs)) (hg1 : W0.grownBy W1 none) (hq : q.Perm (List.range m)) (hQ : IntsAt W2 (.slice aQ m cQ) (natI q)) (hd2 : DeckAt W2 b) (hg2 : W1.grownBy W2 (some b)) (ho : ∀ p, aQ = some p → W1.heap.size ≤ p.block) :
    ∃ a5 c5, v5 = .slice a5 m c5 ∧ OddAny W0 W2 b m xs a5 c5 q aQ cQ := by
  have hbw := hd.lt
  have hb1 := below_of_grown hg1
  have hz := hb1.size
  have hown2 : W2.ownsRow W0.heap.size 3 1 v5 xs.length (intsV xs) := hown.kept hg2 (by
    cases hs : v5.ownBlock with
    | none => exact .inl rfl
    | some k => have := hown.lt k hs; exact .inr (by simp; omega))
  obtain ⟨a5, c5, rfl, hi, -⟩ := IntsAt.of_owns hown2 (by omega)
  refine ⟨a5, c5, by rw [hm], hQ, hq, by rw [← hm]; exact hi, fun hp => ?_, hd2, grown_trans (grown_none hg1) hg2, fun p hp => by have := ho p hp; omega⟩
  obtain ⟨g, rfl, hgw, hR⟩ := RowI.of_owns hown2 (by omega) (by omega)
  refine ⟨g, rfl, hgw, hR, fun p hp => ?_⟩
  have h1 := ho p hp
  have h2 := (hown.lt g rfl).2
  omega
theorem oddany_ba {W0 W1 W2 : World} {b m : Nat} {xs : List Int} {v5 : Value} {q : List Nat} {aQ : Option Addr} {cQ : Nat} (hd : DeckAt W0 b) (hm : xs.length = m) (hm5 : m ≤ 5000)
    (hq : q.Perm (List.range m)) (hQ : IntsAt W1 (.slice aQ m cQ) (natI q)) (hd1 : DeckAt W1 b) (hg1 : W0.grownBy W1 (some b)) (ho : ∀ p, aQ = some p → W0.heap.size ≤ p.block)
    (hown : W2.ownsRow W1.heap.size 3 1 v5 xs.length (intsV xs)) (hg2 : W1.grownBy W2 none) : 
    ∃ a5 c5, v5 = .slice a5 m c5 ∧ OddAny W0 W2 b m xs a5 c5 q aQ cQ := by
  have hbw := hd.lt
  have hb2 := below_of_grown hg2
  have hz := hg1.size
  obtain ⟨a5, c5, rfl, hi, -⟩ := IntsAt.of_owns hown (by omega)
  refine ⟨a5, c5, by rw [hm], hQ.below hb2, hq, by rw [← hm]; exact hi, fun hp => ?_, hd1.kept (grown_of_below hb2) (fun g e => by cases e), grown_trans hg1 (grown_none hg2), ho⟩
  obtain ⟨g, rfl, hgw, hR⟩ := RowI.of_owns hown (by omega) (by omega)
  refine ⟨g, rfl, by omega, hR, fun p hp => ?_⟩
  have h2 : p.block < W1.heap.size := by
    obtain ⟨_, _, hv', _, _, _, hc⟩ := hQ
    have hql : q.length = m := by rw [hq.length_eq, List.length_range]
    obtain ⟨b9, o9, ha, hcc⟩ := hc 0 ((natI q)[0]'(by unfold natI; rw [List.length_map]; omega)) (List.getElem?_eq_getElem _)
    have := (Value.slice.inj hv').1
    rw [hp, ha] at this
    cases this
    exact cell_lt hcc
  omega
theorem RowI.grown {w w' : World} {g cap : Nat} {xs : List Int} {b : Nat} (h : RowI w g cap xs) (hg : w.grownBy w' (some b)) (hn : g ≠ b) : RowI w' g cap xs := by
  obtain ⟨⟨cur, hb, ht⟩, hc, hs⟩ := h
  exact ⟨⟨cur, grown_blk hg hb (by intro e; exact hn (Option.some.inj e)), ht⟩, hc, hs⟩
theorem RowI.cell {w : World} {g cap : Nat} {xs : List Int} (h : RowI w g cap xs) (x : Nat) (hx : x < xs.length) : w.cell? ⟨g, x, none⟩ = some (.int .i64 (numsF xs x)) := by
  obtain ⟨_, _, e, h⟩ := ints_cell h.ints x hx
  cases e
  simpa using h
theorem RowI.ints_len {w : World} {g cap m : Nat} {xs : List Int} (h : RowI w g cap xs) (hl : xs.length = m) : IntsAt w (.slice (some ⟨g, 0, none⟩) m cap) xs := by
  have h1 := h.ints
  rw [hl] at h1
  exact h1
theorem grown_set {w : World} {g j : Nat} {v : Value} : w.grownBy (w.setCell ⟨g, j, none⟩ v) (some g) :=
  ⟨rfl, rfl, rfl, by simp, fun k _ hk => heap_setCell_other w _ _ _ (fun e => hk (by simp [e]))⟩
set_option maxRecDepth 100000 in
set_option maxHeartbeats 6400000 in
theorem checks_law (a0 : Option Addr) (cap0 : Nat) (a1 : Option Addr) (cap1 : Nat) (a2 : Option Addr) (len2 cap2 : Nat) (xs ys : List Int) (w : World) (hx : IntsB w (.slice a0 xs.length cap0) xs) (hy : IntsB w (.slice a1 ys.length cap1) ys) (hl : ListAt w a2 len2) (hT : TzAt w) :
    Calls Tryd.prog 7 #[.slice a0 xs.length cap0, .slice a1 ys.length cap1, .slice a2 len2 cap2] w fun e w' => e = .returned (.bool true) ∧ Below w.heap.size w w' := by
  have hdk := deck_new (cap := cap2) hl
  have hb1 : Below w.heap.size w (w.alloc (.cells #[.slice a2 len2 cap2, .int .i64 0] 81)) := (Below.refl _ _).alloc (Nat.le_refl _) _
  obtain ⟨Z, hZ⟩ : ∃ Z, IntKind.i64.wrap ((xs.length : Int) + ys.length) = Z := ⟨_, rfl⟩
  by_cases hz : 100 < Z
  · have d0 : decide (100 < Z) = true := by simpa using hz
    clear hdk hb1
    go_enter Tryd.func7, Tryd.ntmps7
    go_wp2_with fail
    refine (awake12_any _ hT).mono ?_
    rintro e w1 ⟨rfl, hb⟩
    go_wp2_with fail
    go_ret
    exact ⟨rfl, hb⟩
  have d0 : decide (100 < Z) = false := by simpa using hz
  go_enter Tryd.func7, Tryd.ntmps7
  go_wp2_with (first
    | (go_at_call 18; refine (new_any _ _ _ _).mono ?_; rintro e w' ⟨rfl, rfl⟩)
    | (go_at_call 17; refine (mkgraph_any w.heap.size 7 _ hdk (by omega) (by omega)).mono ?_; rintro e w2 ⟨n0, es, ag, cg, rfl, he2, hv, hn7, hd2, hg2, ho2⟩))
  have hb2 : Below w.heap.size w w2 := below_deck hb1 hg2 (Nat.le_refl _) hb1.size
  obtain ⟨n, rfl⟩ := Int.eq_ofNat_of_zero_le hv.1
  have hn7 : n ≤ 7 := by omega
  have hel := hv.length_le
  have hoff2 : ∀ p, ag = some p → w.heap.size < p.block := fun p hp => by have := ho2 p hp; simp at this; omega
  have hG := heap_alloc_new w2 (.cells #[.int .i64 n, .slice ag es.length cg] 27)
  have hbn3 := (Below.refl w2.heap.size w2).alloc (Nat.le_refl _) (.cells #[.int .i64 n, .slice ag es.length cg] 27)
  have hb3 := hb2.trans (hbn3.mono hb2.size)
  have he3 := he2.below hbn3
  have hd3 := hd2.alloc (.cells #[.int .i64 n, .slice ag es.length cg] 27)
  have hX := hd2.lt
  have hnx : numX (n : Int) es = (numT es n, 0) := by unfold numX; rw [if_neg (by rw [(valid_iff n es).2 hv]; simp), Int.toNat_natCast]
  have hox : ordX (n : Int) es = (ordT es n, 0) := by unfold ordX; rw [if_neg (by rw [(valid_iff n es).2 hv]; simp), Int.toNat_natCast]
  have hnl := numT_length es n
  have hol := ordT_length es n
  obtain ⟨X, hXX⟩ : ∃ X, w2.heap.size = X := ⟨_, rfl⟩
  obtain ⟨w3, hw3⟩ : ∃ W : World, W = w2.alloc (.cells #[.int .i64 n, .slice ag es.length cg] 27) := ⟨_, rfl⟩
  rw [← hw3] at hG hb3 he3 hd3 ⊢
  rw [hXX] at hG hX ⊢
  have hrn := rnumbers12_any (n : Int) ag cg es _ he3
  rw [hnx] at hrn
  unfold TPost at hrn
  dsimp only at hrn
  rw [hnl] at hrn
  clear hw3 hXX hbn3 hb2 he2 hd2 hg2 ho2 hdk hb1 hnx d0 hz hZ
  go_wp2_with fail
  refine hrn.mono ?_
  rintro e w4 ⟨aN, cN, rfl, hN4, hoN, hb4⟩
  have hb04 := hb3.trans (hb4.mono hb3.size)
  have hG4 := lit_next' hb4 hG
  have he4 := he3.below hb4
  have hd4 := hd3.kept (grown_of_below hb4) (fun g e => by cases e)
  have hoNb : ∀ p, aN = some p → w.heap.size < p.block := fun p hp => by have := hoN p hp; have := blk_lt hG; omega
  have hro := rorder12_any (n : Int) ag cg es _ he4
  rw [hox] at hro
  unfold TPost at hro
  dsimp only at hro
  rw [hol] at hro
  have g0 : w4.cell? ⟨X, 0, none⟩ = some (.int .i64 n) := by rw [cell_blk hG4]; rfl
  have g1 : w4.cell? ⟨X, 1, none⟩ = some (.slice ag es.length cg) := by rw [cell_blk hG4]; rfl
  clear hb3 hG he3 hd3 hb4 hoN hrn hox
  go_wp2_with fail
  refine hro.mono ?_
  rintro e w5 ⟨aO, cO, rfl, hO5, hoO, hb5⟩
  have hb05 := hb04.trans (hb5.mono hb04.size)
  have hG5 := lit_next' hb5 hG4
  have he5 := he4.below hb5
  have hd5 := hd4.kept (grown_of_below hb5) (fun g e => by cases e)
  have hN5 := hN4.below hb5
  have hoOb : ∀ p, aO = some p → w.heap.size < p.block := fun p hp => by have := hoO p hp; have := blk_lt hG4; omega
  clear g0 g1 hb04 hG4 he4 hd4 hN4 hoO hb5 hro
  have g0 : w5.cell? ⟨X, 0, none⟩ = some (.int .i64 n) := by rw [cell_blk hG5]; rfl
  have g1 : w5.cell? ⟨X, 1, none⟩ = some (.slice ag es.length cg) := by rw [cell_blk hG5]; rfl
  have hcx := tcheck_any (n : Int) ag aN aO cg cN cO es (numT es n) (ordT es n) _ he5 (by rw [hnl]; exact hN5) (by rw [hol]; exact hO5) (hT.below hb05)
  rw [own_chkX hv, hnl, hol] at hcx
  go_wp2_with fail
  refine hcx.mono ?_
  rintro e w6 ⟨rfl, hb6⟩
  have hb06 := hb05.trans (hb6.mono hb05.size)
  have hG6 := lit_next' hb6 hG5
  have he6 := he5.below hb6
  have hd6 := hd5.kept (grown_of_below hb6) (fun g e => by cases e)
  have hN6 := hN5.below hb6
  have hO6 := hO5.below hb6
  clear g0 g1 hb05 hG5 he5 hd5 hN5 hb6 hO5 hcx
  go_upto_region 9 with fail
  have HNL := Lib.hid hnl
  have HOL := Lib.hid hol
  clear hnl hol
  go_cut [13, 14] from 45 to 51 (fun so sa wx => ∃ (a5 : Option Addr) (c5 : Nat) (q : List Nat) (aQ : Option Addr) (cQ : Nat), so = .slice a5 es.length c5 ∧ sa = .slice aQ es.length cQ ∧ OddAny w6 wx w.heap.size es.length (numT es n) a5 c5 q aQ cQ)
  case first =>
    have g1 : w6.cell? ⟨X, 1, none⟩ = some (.slice ag es.length cg) := by rw [cell_blk hG6]; rfl
    have hN6d : IntsAt w6.drew (.slice aN es.length cN) (numT es n) := hN6.below (Below.refl _ _).drew
    have hd6d := hd6.drew
    have hmk := mkorder_any w.heap.size es.length w6.drew hd6d (by omega)
    unfold OrderPost at hmk
    have hX6 := blk_lt hG6
    have hX6d : X < w6.drew.heap.size := hX6
    have hG6d : w6.drew.heap[X]? = _ := hG6
    have hnlt : es.length ≤ 4096 := by omega
    clear hb06 he6 hO6 hG6 hN6 hd6
    go_region_law (first
      | (refine step_app_ints intsT rfl _ _ rfl w6.heap.size (.slice none 0 0) (.slice aN es.length cN) [] (numT es n) rfl (World.ownsRow_nil _ _ _ _) rfl (by with_reducible exact hN6d) (by rw [HNL.out, List.length_nil]; omega) (by exact Nat.le_refl _) ?_; intro v7 w7 hown7 hg7; rw [List.nil_append] at hown7; have hg7' : w6.drew.grownBy w7 none := hg7; have hd7 := hd6d.kept hg7' (fun g e => by cases e); have hmk7 := mkorder_any w.heap.size es.length w7 hd7 (by omega); unfold OrderPost at hmk7; have hG7 := grown_blk hg7' hG6d (by simp); have gX7 := cell_blk (j := 1) hG7)
      | (go_simp; go_at_call 26; (with_reducible refine hmk.mono ?_); rintro e w8 ⟨q, aQ, cQ, rfl, hq, hQ, hd8, hg8, ho8⟩; have hN8 := hN6d.grown hg8 (fun g e n' c' p hp => by cases e; have := hoNb p (Value.slice.inj hp).1; omega); have hG8 := grown_blk hg8 hG6d (by intro e; have := Option.some.inj e; omega); have gX8 := cell_blk (j := 1) hG8)
      | (go_simp; go_at_call 26; (with_reducible refine hmk7.mono ?_); rintro e w8 ⟨q, aQ, cQ, rfl, hq, hQ, hd8, hg8, ho8⟩; have hfin := oddany_ab (W0 := w6.drew) hd6d HNL.out (by omega) hown7 hg7' hq hQ hd8 hg8 ho8)
      | (refine step_app_ints intsT rfl _ _ rfl w8.heap.size (.slice none 0 0) (.slice aN es.length cN) [] (numT es n) rfl (World.ownsRow_nil _ _ _ _) rfl (by with_reducible exact hN8) (by rw [HNL.out, List.length_nil]; omega) (Nat.le_refl _) ?_; intro v7 w7 hown7 hg7; rw [List.nil_append] at hown7; have hg7' : w8.grownBy w7 none := hg7; have hG7 := grown_blk hg7' hG8 (by simp); have gX7 := cell_blk (j := 1) hG7; have hfin := oddany_ba (W0 := w6.drew) hd6d HNL.out (by omega) hq hQ hd8 hg8 ho8 hown7 hg7'))
    all_goals
      obtain ⟨a5, c5, rfl, hfin⟩ := hfin
      go_wp2_with fail
      go_meet
      exact ⟨a5, c5, _, _, _, rfl, rfl, hfin.ord, hfin.perm, hfin.odd, hfin.row, hfin.dk, grown_drew hfin.gr, hfin.aq⟩
  case rest =>
    obtain ⟨a5, c5, q, aQ, cQ, rfl, rfl, hO⟩ := hcut
    go_upto_if 54 with fail
    go_cut [] (fun wx => ∃ ys : List Int, Hid (ys.length = es.length) ∧ IntsAt wx (.slice a5 es.length c5) ys ∧ IntsAt wx (.slice aQ es.length cQ) (castL q) ∧ w6.grownBy wx (some w.heap.size))
    case first =>
      have hlow : w.heap.size < w6.heap.size := hd6.lt
      clear hb06 hG6 he6 hN6 hO6 hd6
      by_cases hm : 0 < es.length
      case neg =>
        have d1 : decide (0 < (es.length : Int)) = false := decide_eq_false (by omega)
        have d2 : decide (0 < es.length) = false := by simpa using hm
        go_wp2_with fail
        go_meet
        exact ⟨_, HNL, hO.odd, hO.ord, hO.gr⟩
      have d1 : decide (0 < (es.length : Int)) = true := decide_eq_true (by omega)
      have d2 : decide (0 < es.length) = true := by simpa using hm
      obtain ⟨g, rfl, hgw, hR, hne⟩ := hO.row hm
      have hn1 := next_any w.heap.size (es.length : Int) wc.drew hO.dk.drew (by omega) (by omega)
      have hc5 := hR.cap
      rw [HNL.out] at hc5
      have hgb : g ≠ w.heap.size := by omega
      have hRd : RowI wc.drew g c5 (numT es n) := ⟨hR.blk, hR.cap, hR.small⟩
      have hQd : IntsAt wc.drew (.slice aQ es.length cQ) (castL q) := hO.ord.below (Below.refl _ _).drew
      have hgr0 : w6.grownBy wc.drew (some w.heap.size) := ⟨hO.gr.os, hO.gr.tape, hO.gr.output, hO.gr.size, hO.gr.block⟩
      have haq : ∀ p, aQ = some p → p.block ≠ w.heap.size := fun p hp => by have := hO.aq p hp; omega
      clear hR hO
      go_wp2_with fail
      go_region_law (first
        | (go_simp; go_at_call 37; (with_reducible refine hn1.mono ?_); rintro e w8 ⟨x0, hx0, hx1, rfl, hd8, hg8⟩; obtain ⟨x, rfl⟩ := Int.eq_ofNat_of_zero_le hx0; have hxm : x < es.length := (by omega); have hR8 := hRd.grown hg8 hgb; have hQ8 := hQd.grown hg8 (fun g e n' c' p hp => by cases e; exact haq p (Value.slice.inj hp).1); have hgr8 := grown_trans hgr0 hg8; have x8 := hR8.cell x (by rw [HNL.out]; exact hxm); have hn2 := next_any w.heap.size 3 w8 hd8 (by omega) (by omega))
        | (go_simp; go_at_call 37; (with_reducible refine hn2.mono ?_); rintro e w9 ⟨y, hy0, hy1, rfl, hd9, hg9⟩; have v1 : IntKind.i64.wrap (y - 1) = y - 1 := IntWalk.i64_in _ (by omega); have hR9 := hR8.grown hg9 hgb; have hQ9 := hQ8.grown hg9 (fun g e n' c' p hp => by cases e; exact haq p (Value.slice.inj hp).1); have hgr9 := grown_trans hgr8 hg9; have x9 := hR9.cell x (by rw [HNL.out]; exact hxm); have f9 := hR9.free))
      all_goals
        go_wp2_with fail
        go_meet
        exact ⟨(numT es n).set x _, (show _ = _ by rw [List.length_set]; exact HNL.out), (hR9.set x _).ints_len (by rw [List.length_set]; exact HNL.out), hQ9.grown grown_set (fun g' e n' c' p hp => by cases e; exact hne p (Value.slice.inj hp).1), grown_new hgr9 grown_set (fun g' e => .inr (by have := Option.some.inj e; omega))⟩
    case rest =>
      obtain ⟨zs, HY, hYc, hQc, hgr⟩ := hcut
      have hQl : q.length = es.length := by rw [hO.perm.length_eq, List.length_range]
      have hlow : w.heap.size < w6.heap.size := hd6.lt
      have hbc : Below w.heap.size w wc := below_deck hb06 hgr (Nat.le_refl _) hb06.size
      have hGc := grown_blk hgr hG6 (by intro e; have := Option.some.inj e; omega)
      have hec := he6.grown hgr (fun g e n c p hp => by cases e; have := hoff2 p (Value.slice.inj hp).1; omega)
      have hNc := hN6.grown hgr (fun g e n c p hp => by cases e; have := hoNb p (Value.slice.inj hp).1; omega)
      have hOc := hO6.grown hgr (fun g e n c p hp => by cases e; have := hoOb p (Value.slice.inj hp).1; omega)
      have hxc := hx.below hbc
      have hyc := hy.below hbc
      have HQL := Lib.hid hQl
      clear hb06 hG6 he6 hN6 hO6 hd6 hO hgr hQl hlow hX hx hy hl hoNb hoOb hoff2
      go_wp2_with fail
      have hbL := (Below.refl wc.heap.size wc).alloc (Nat.le_refl _) (.cells #[.slice aN es.length cN, .slice a5 es.length c5, .slice a0 xs.length cap0] 22)
      have hS := s3_of (w := wc.alloc (.cells #[.slice aN es.length cN, .slice a5 es.length c5, .slice a0 xs.length cap0] 22)) (L := wc.heap.size) (T := 22) (e0 := numT es n) (e1 := zs) (e2 := xs) (a0 := aN) (a1 := a5) (a2 := a0) (c0 := cN) (c1 := c5) (c2 := cap0) (by rw [HNL.out, HY.out]; exact heap_alloc_new _ _) (by rw [HNL.out]; exact (hNc.below hbL).big) (by rw [HY.out]; exact (hYc.below hbL).big) (hxc.below hbL)
      have hGL := lit_next' hbL hGc
      have heL := hec.below hbL
      have hQL := hQc.below hbL
      have hOL := hOc.below hbL
      have hyL := hyc.below hbL
      have hbwL := hbc.trans (hbL.mono hbc.size)
      obtain ⟨L, hL⟩ : ∃ L, wc.heap.size = L := ⟨_, rfl⟩
      obtain ⟨wL, hwL⟩ : ∃ W : World, W = wc.alloc (.cells #[.slice aN es.length cN, .slice a5 es.length c5, .slice a0 xs.length cap0] 22) := ⟨_, rfl⟩
      rw [← hwL] at hS hGL heL hQL hOL hyL hbwL ⊢
      rw [hL] at hS ⊢
      clear hwL hL hbL hGc hec hQc hOc hyc hxc hbc hNc hYc
      obtain ⟨Y1, hY1⟩ : ∃ Y, pk3 (numT es n) zs xs = Y := ⟨_, rfl⟩
      obtain ⟨A1, hA1⟩ : ∃ Y, pk3 aN a5 a0 = Y := ⟨_, rfl⟩
      obtain ⟨C1, hC1⟩ : ∃ Y, pk3 cN c5 cap0 = Y := ⟨_, rfl⟩
      rw [hY1, hA1, hC1] at hS
      clear hY1 hA1 hC1
      go_loopw [72] (fun vi wr => ∃ k : Nat, k ≤ 3 ∧ vi = .int .i64 k ∧ Below wL.heap.size wL wr) (fun vi _ => 3 - (intOf vi).toNat)
      case atStart => exact ⟨0, by omega, rfl, Below.refl _ _⟩
      case round =>
        obtain ⟨k, hk, rfl, hb⟩ := hrel
        by_cases hlt : k < 3
        · have hdk : decide ((k : Int) < 3) = true := by simp; omega
          have hdk2 : decide (k < 3) = true := by simpa using hlt
          have hk3 : (k : Int) < 3 := by omega
          obtain ⟨c0, hI⟩ := (hS.below hb).row k hlt
          obtain ⟨l, hl⟩ : ∃ l, Y1 k = l := ⟨_, rfl⟩
          obtain ⟨aa, haa⟩ : ∃ l, A1 k = l := ⟨_, rfl⟩
          obtain ⟨ca, hca⟩ : ∃ l, C1 k = l := ⟨_, rfl⟩
          rw [hl, haa, hca] at c0 hI
          clear hl haa hca
          go_wp2_with fail
          have hbM := (Below.refl wr.heap.size wr).alloc (Nat.le_refl _) (.cells #[.slice aO es.length cO, .slice aQ es.length cQ, .slice a1 ys.length cap1] 22)
          have hbLM := hb.alloc hb.size (.cells #[.slice aO es.length cO, .slice aQ es.length cQ, .slice a1 ys.length cap1] 22)
          have hOM := hOL.below hbLM
          have hQM := hQL.below hbLM
          have hyM := hyL.below hbLM
          have hIM := hI.below hbM
          have hGM := lit_next' hbLM hGL
          have heM := heL.below hbLM
          have hS2 := s3_of (w := wr.alloc (.cells #[.slice aO es.length cO, .slice aQ es.length cQ, .slice a1 ys.length cap1] 22)) (L := wr.heap.size) (T := 22) (e0 := ordT es n) (e1 := castL q) (e2 := ys) (a0 := aO) (a1 := aQ) (a2 := a1) (c0 := cO) (c1 := cQ) (c2 := cap1) (by rw [HOL.out, castL_length, HQL.out]; exact heap_alloc_new _ _) (by rw [HOL.out]; exact hOM.big) (by rw [castL_length, HQL.out]; exact hQM.big) hyM
          obtain ⟨M, hM⟩ : ∃ M, wr.heap.size = M := ⟨_, rfl⟩
          obtain ⟨wM, hwM⟩ : ∃ W : World, W = wr.alloc (.cells #[.slice aO es.length cO, .slice aQ es.length cQ, .slice a1 ys.length cap1] 22) := ⟨_, rfl⟩
          rw [← hwM] at hbLM hIM hGM heM hS2 ⊢
          rw [hM] at hS2 ⊢
          clear hwM hM hbM hOM hQM hyM hI c0
          obtain ⟨Y2, hY2⟩ : ∃ Y, pk3 (ordT es n) (castL q) ys = Y := ⟨_, rfl⟩
          obtain ⟨A2, hA2⟩ : ∃ Y, pk3 aO aQ a1 = Y := ⟨_, rfl⟩
          obtain ⟨C2, hC2⟩ : ∃ Y, pk3 cO cQ cap1 = Y := ⟨_, rfl⟩
          rw [hY2, hA2, hC2] at hS2
          clear hY2 hA2 hC2
          have hbwM := hbwL.trans (hbLM.mono hbwL.size)
          go_loopw [81] (fun vi wr => ∃ j : Nat, j ≤ 3 ∧ vi = .int .i64 j ∧ Below wM.heap.size wM wr) (fun vi _ => 3 - (intOf vi).toNat)
          case atStart => exact ⟨0, by omega, rfl, Below.refl _ _⟩
          case round =>
            obtain ⟨j, hj, rfl, hb2⟩ := hrel
            by_cases hltj : j < 3
            · have hdj : decide ((j : Int) < 3) = true := by simp; omega
              have hdj2 : decide (j < 3) = true := by simpa using hltj
              have hj3 : (j : Int) < 3 := by omega
              obtain ⟨c1, hJ⟩ := (hS2.below hb2).row j hltj
              obtain ⟨l2, hl⟩ : ∃ l, Y2 j = l := ⟨_, rfl⟩
              obtain ⟨ab, haa⟩ : ∃ l, A2 j = l := ⟨_, rfl⟩
              obtain ⟨cb, hca⟩ : ∃ l, C2 j = l := ⟨_, rfl⟩
              rw [hl, haa, hca] at c1 hJ
              clear hl haa hca
              have hG2 := lit_next' hb2 hGM
              have he2 := heM.below hb2
              have hI2 := hIM.below hb2
              have hT2 : TzAt wr := hT.below (hbwM.trans (hb2.mono hbwM.size))
              have g0 : wr.cell? ⟨X, 0, none⟩ = some (.int .i64 n) := by rw [cell_blk hG2]; rfl
              have g1 : wr.cell? ⟨X, 1, none⟩ = some (.slice ag es.length cg) := by rw [cell_blk hG2]; rfl
              have e0 : ∀ z : Ext wr.heap.size wr, z.world.cell? ⟨X, 0, none⟩ = some (.int .i64 n) := fun z => (z.below.cell (p := ⟨X, 0, none⟩) (cell_lt g0)).trans g0
              have e1 : ∀ z : Ext wr.heap.size wr, z.world.cell? ⟨X, 1, none⟩ = some (.slice ag es.length cg) := fun z => (z.below.cell (p := ⟨X, 1, none⟩) (cell_lt g1)).trans g1
              have hc1 := fun z : Ext wr.heap.size wr => tcheck_big (n : Int) ag aa ab cg ca cb es l l2 z.world (he2.below z.below) (hI2.below z.below) (hJ.below z.below) (hT2.below z.below)
              have hc2 := fun z : Ext wr.heap.size wr => rcheck12_big (n : Int) ag aa ab cg ca cb es l l2 z.world (he2.below z.below) (hI2.below z.below) (hJ.below z.below)
              obtain ⟨r, hr⟩ : ∃ r, chkX (n : Int) es l l2 = r := ⟨_, rfl⟩
              rw [hr] at hc1 hc2
              have er : (r != r) = false := by simp
              clear hr hG2 he2 hI2 hJ hT2
              go_wp2_with fail
              refine wp_region_ext wr.heap.size wr (by kernel_rfl) (by kernel_rfl) (Below.refl _ _) ?_
              try simp only [List.append_eq, List.cons_append, List.nil_append]
              repeat (any_goals (go_big_quiet_step (first | (go_at_call 51; exact Calls.ext_of (Nat.le_refl _) (hc1 _)) | (go_at_call 52; exact Calls.ext_of (Nat.le_refl _) (hc2 _)))))
              all_goals
                refine wpQuiet_nil ?_
                rintro _ ⟨⟨wq, hq⟩, rfl⟩
                go_wp2_with fail
                go_roundw
                case rel => exact ⟨j + 1, by omega, by go_num, hb2.trans (hq.mono hb2.size)⟩
                case measure => simp [intOf]; omega
            · obtain rfl : j = 3 := by omega
              go_wp2_with fail
              go_roundw
              case rel => exact ⟨k + 1, by omega, by go_num, hbLM.trans (hb2.mono hbLM.size)⟩
              case measure => simp [intOf]; omega
        · obtain rfl : k = 3 := by omega
          have hbe := hbwL.trans (hb.mono hbwL.size)
          clear hS hGL heL hQL hOL hyL
          go_wp2_with fail
          refine (awake12_any _ (hT.below hbe)).mono ?_
          rintro e wE ⟨rfl, hbE⟩
          go_wp2_with fail
          go_ret
          exact ⟨rfl, hbe.trans (hbE.mono hbe.size)⟩
end Go.Proofs.YtbkacbbhiecnkaaDoor
