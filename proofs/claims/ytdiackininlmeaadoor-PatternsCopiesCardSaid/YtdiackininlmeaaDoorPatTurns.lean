/- The walk of the law on the graph of what is missing. -/
import Derived.Test.YtdiackininlmeaaDoorPatTurnsPlain
import Derived.Test.YtdiackininlmeaaDoorPatAwake
import Derived.Test.YtdiackininlmeaaDoorMkGraph
namespace Go.Proofs.YtdiackininlmeaaDoor
open Go.RowKit Go.BigFrame

/-- the list of choices that came in -/
def ListAt (w : World) (a : Option Addr) (len : Nat) : Prop :=
  len ≤ 9223372036854775807 ∧ ∀ j, j < len → ∃ c off x, a = some ⟨c, off, none⟩ ∧ w.cell? ⟨c, off + j, none⟩ = some (.int .i64 x) ∧ -9223372036854775808 ≤ x ∧ x ≤ 9223372036854775807
theorem deck_new {w : World} {a : Option Addr} {len cap : Nat} (h : ListAt w a len) : DeckAt (w.alloc (.cells #[.slice a len cap, .int .i64 0] 61)) w.heap.size := by
  refine ⟨a, len, cap, 0, heap_alloc_new _ _, Nat.zero_le _, h.1, fun j hj => ?_⟩
  obtain ⟨c, off, x, ha, hc, hx⟩ := h.2 j hj
  exact ⟨c, off, x, ha, cell_lt hc, cell_alloc hc, hx⟩
theorem below_deck {B : Nat} {w w1 w2 : World} {b : Nat} (hb : Below B w w1) (hg : w1.grownBy w2 (some b)) (hB : B ≤ b) (hs : B ≤ w1.heap.size) : Below B w w2 :=
  hb.grown hg hs (fun k hk => by cases hk; exact hB)

/-- a graph with more edges to come: its block g, its edges' slice sl -/
def RS (n : Int) (es : List E2) (g base : Nat) (sl : Value) (wr : World) : Prop :=
  wr.heap[g]? = some (.cells #[.int .i64 n, sl] 27 (0, 0)) ∧ wr.ownsRow base 41 2 sl es.length (flatE es)
theorem RS.below {n : Int} {es : List E2} {g base : Nat} {sl : Value} {w w' : World} (h : RS n es g base sl w) (hb : Below w.heap.size w w') : RS n es g base sl w' :=
  ⟨(hb.block g (blk_lt h.1)).trans h.1, h.2.kept (grown_of_below hb) (by cases hv : sl.ownBlock <;> simp)⟩

theorem turn_list : ∀ k : Nat, k < 11 → ∃ tk : Nat, ([10, 9, 7, 8, 5, 4, 6, 2, 3, 1, 0] : List Int)[k]? = some (tk : Int) ∧ tk < 11 ∧ (turnK (k : Int)).toNat = tk := by
  intro k hk
  rcases (by omega : k = 0 ∨ k = 1 ∨ k = 2 ∨ k = 3 ∨ k = 4 ∨ k = 5 ∨ k = 6 ∨ k = 7 ∨ k = 8 ∨ k = 9 ∨ k = 10) with rfl | rfl | rfl | rfl | rfl | rfl | rfl | rfl | rfl | rfl | rfl
  · exact ⟨10, rfl, by omega, rfl⟩
  · exact ⟨9, rfl, by omega, rfl⟩
  · exact ⟨7, rfl, by omega, rfl⟩
  · exact ⟨8, rfl, by omega, rfl⟩
  · exact ⟨5, rfl, by omega, rfl⟩
  · exact ⟨4, rfl, by omega, rfl⟩
  · exact ⟨6, rfl, by omega, rfl⟩
  · exact ⟨2, rfl, by omega, rfl⟩
  · exact ⟨3, rfl, by omega, rfl⟩
  · exact ⟨1, rfl, by omega, rfl⟩
  · exact ⟨0, rfl, by omega, rfl⟩

set_option maxRecDepth 100000 in
set_option maxHeartbeats 3200000 in
theorem turns_law (a : Option Addr) (len cap : Nat) (w : World) (hl : ListAt w a len) (ht : TabsAt w) :
    Calls Tryd.prog 4 #[.slice a len cap] w fun e w' => e = .returned (.bool true) ∧ Below w.heap.size w w' := by
  by_cases hfew : len ≤ 500
  case neg =>
    have hd : decide (len ≤ 500) = false := by simpa using hfew
    go_enter Tryd.func4, Tryd.ntmps4
    go_wp2_with (first
      | (go_at_call 10; refine (few_any _ _ _ _).mono ?_; rintro e w' ⟨rfl, rfl⟩)
      | (go_at_call 11; refine (awake_any _ ht).mono ?_; rintro e w' ⟨rfl, hb⟩))
    go_ret
    exact ⟨rfl, hb⟩
  case pos =>
  have hd : decide (len ≤ 500) = true := by simpa using hfew
  have hdk := deck_new (cap := cap) hl
  have hb1 : Below w.heap.size w (w.alloc (.cells #[.slice a len cap, .int .i64 0] 61)) := (Below.refl _ _).alloc (Nat.le_refl _) _
  go_enter Tryd.func4, Tryd.ntmps4
  go_wp2_with (first
    | (go_at_call 10; refine (few_any _ _ _ _).mono ?_; rintro e w' ⟨rfl, rfl⟩)
    | (go_at_call 13; refine (new_any _ _ _ _).mono ?_; rintro e w' ⟨rfl, rfl⟩)
    | (go_at_call 12; refine (mkgraph_any w.heap.size 8 _ hdk (by omega) (by omega)).mono ?_; rintro e w2 ⟨n0, es, a2, cap2, rfl, he2, hv, hn8, hd2, hg2, ho2⟩))
  have hb2 : Below w.heap.size w w2 := below_deck hb1 hg2 (Nat.le_refl _) hb1.size
  obtain ⟨n, rfl⟩ := Int.eq_ofNat_of_zero_le hv.1
  have hn64 : n ≤ 64 := by have := hv.2.1; omega
  have hel := hv.length_le
  have hR0 : RS n [] (w2.heap.size + 1) (w2.heap.size + 2) (.slice none 0 0) ((w2.alloc (.cells #[.int .i64 n, .slice a2 es.length cap2] 27)).alloc (.cells #[.int .i64 n, .slice none 0 0] 27)) := by
    refine ⟨?_, World.ownsRow_nil _ _ _ _⟩
    have := heap_alloc_new (w2.alloc (.cells #[.int .i64 n, .slice a2 es.length cap2] 27)) (.cells #[.int .i64 n, .slice none 0 0] 27)
    simpa using this
  have hG0 : ((w2.alloc (.cells #[.int .i64 n, .slice a2 es.length cap2] 27)).alloc (.cells #[.int .i64 n, .slice none 0 0] 27)).heap[w2.heap.size]? = some (.cells #[.int .i64 n, .slice a2 es.length cap2] 27 (0, 0)) :=
    (Below.heap_alloc _ _ _ (by simp)).trans (heap_alloc_new _ _)
  have hbx : Below w2.heap.size w2 ((w2.alloc (.cells #[.int .i64 n, .slice a2 es.length cap2] 27)).alloc (.cells #[.int .i64 n, .slice none 0 0] 27)) := ((Below.refl _ _).alloc (Nat.le_refl _) _).alloc (by simp) _
  go_loopw [5] (fun i wr => ∃ (u : Nat) (es' : List E2) (sl : Value), i = .int .i64 u ∧ u ≤ n ∧ Below w2.heap.size w2 wr ∧ wr.heap[w2.heap.size]? = some (.cells #[.int .i64 n, .slice a2 es.length cap2] 27 (0, 0)) ∧ RS n es' (w2.heap.size + 1) (w2.heap.size + 2) sl wr ∧ Valid n es' ∧ Ups es' u 0 ∧ Rest n es es' u 0) (fun i _ => n - (intOf i).toNat)
  case atStart => exact ⟨0, [], .slice none 0 0, rfl, Nat.zero_le _, hbx, hG0, hR0, valid_nil (by omega) (by omega), Ups.nil, Rest.nil⟩
  case round =>
    clear hR0 hG0 hbx
    obtain ⟨u, es', sl, rfl, hun, hb, hG, hR, hval, hup, hrest⟩ := hrel
    have q0 : wr.cell? ⟨w2.heap.size, 0, none⟩ = some (.int .i64 n) := cell_blk hG
    by_cases hlt : u < n
    · go_wp2_with fail
      obtain ⟨wo, rfl⟩ : ∃ wo : World, wo = wr := ⟨_, rfl⟩
      go_loopw [6] (fun i wr => ∃ (v : Nat) (es' : List E2) (sl : Value), i = .int .i64 v ∧ u + 1 ≤ v ∧ v ≤ n ∧ Below w2.heap.size w2 wr ∧ wr.heap[w2.heap.size]? = some (.cells #[.int .i64 n, .slice a2 es.length cap2] 27 (0, 0)) ∧ RS n es' (w2.heap.size + 1) (w2.heap.size + 2) sl wr ∧ Valid n es' ∧ Ups es' u v ∧ Rest n es es' u v) (fun i _ => n - (intOf i).toNat)
      case atStart => exact ⟨u + 1, es', sl, by go_num, by omega, by omega, hb, hG, hR, hval, fun e he => by have := hup e he; rw [before_iff] at *; dsimp at *; omega, hrest.start⟩
      case round =>
        clear hb hG hR hval hup hrest q0
        obtain ⟨v, es', sl, rfl, huv, hvn, hb, hG, hR, hval, hup, hrest⟩ := hrel
        have q0 : wr.cell? ⟨w2.heap.size, 0, none⟩ = some (.int .i64 n) := cell_blk hG
        have q1 : wr.cell? ⟨w2.heap.size, 1, none⟩ = some (.slice a2 es.length cap2) := cell_blk hG
        by_cases hlt2 : v < n
        · go_wp2_with fail
          refine (find_any n a2 cap2 es u v _ (he2.below hb) hv).mono ?_
          rintro e w4 ⟨rfl, hb4⟩
          have hb24 := hb.trans (hb4.mono hb.size)
          have hR4 := hR.below hb4
          have hG4 := (hb4.block _ (blk_lt hG)).trans hG
          have p1 : w4.cell? ⟨w2.heap.size + 1, 1, none⟩ = some sl := cell_blk hR4.1
          have hz4 := blk_lt hR4.1
          clear q0 q1 hb hG hR hb4
          by_cases hneg : findS es u v < 0
          · have hadj := (find_neg hv (by omega)).1 hneg
            have hlen := hval.length_le
            go_wp2_with (at_builtin; refine wpList_app_edges edgesT rfl _ _ rfl (w2.heap.size + 2) _ _ es' [((u : Int), (v : Int))] rfl (hR4.2.alloc _) rfl (edges_lit1 _ _ _ _) (by simp <;> omega) (by simp <;> omega) ?_; intro v' w5 hown5 hg5; obtain ⟨a5, cap5, hv5⟩ := owns_shape hown5; subst hv5; have hlt5 := hown5.lt; have hb25 : Below w2.heap.size w2 w5 := (hb24.alloc hb24.size _).grown hg5 (by simp <;> omega) (fun k hk => by have := hR4.2.lt k hk; omega); have hne : ∀ k, k ≤ w2.heap.size + 1 → some k ≠ sl.ownBlock := (fun k hk e => by have := hR4.2.lt k e.symm; omega); have s5 := grown_blk hg5 ((Below.heap_alloc w4 (.cells #[.int .i64 u, .int .i64 v] 41) _ hz4).trans hR4.1) (hne _ (Nat.le_refl _)); have hG5 := grown_blk hg5 ((Below.heap_alloc w4 (.cells #[.int .i64 u, .int .i64 v] 41) _ (blk_lt hG4)).trans hG4) (hne _ (by omega)); have s0 : w5.cell? ⟨w2.heap.size + 1, 1, none⟩ = some sl := cell_blk s5; have s1 : w5.frozen? ⟨w2.heap.size + 1, 1, none⟩ = false := free_blk s5; have S5 := Lib.hid s5; have G5 := Lib.hid hG5; clear p1 hg5 hb24 s5 hG5 hG4)
            go_roundw
            case rel =>
              refine ⟨v + 1, es' ++ [((u : Int), (v : Int))], .slice a5 (es'.length + 1) cap5, by go_num, by omega, by omega, hb25.setCell (p := ⟨w2.heap.size + 1, 1, none⟩) (Nat.le_succ _) _, ?_, ⟨?_, ?_⟩, hval.snoc (by omega) (by omega) (by omega) hup, hup.snoc, hrest.snoc hadj (by omega) hlt2⟩
              · exact (Below.heap_setCell _ _ _ _ (by show _ ≠ w2.heap.size + 1; omega)).trans G5.out
              · exact heap_setCell_same _ _ _ _ _ _ S5.out
              · have hk5 := hown5.kept (grown_store (b := w2.heap.size + 1) (j := 1) (v := .slice a5 (es'.length + 1) cap5)) (.inr (by intro e; have := hlt5 _ e; omega))
                simpa using hk5
            case measure => simp [intOf]; omega
          · have hadj : adjB es u v = true := by
              rcases Bool.eq_false_or_eq_true (adjB es u v) with h | h
              · exact h
              · exact absurd ((find_neg hv (by omega)).2 h) hneg
            go_wp2_with fail
            go_roundw
            case rel => exact ⟨v + 1, es', sl, by go_num, by omega, by omega, hb24, hG4, hR4, hval, hup.step, hrest.skip hadj⟩
            case measure => simp [intOf]; omega
        · obtain rfl : n = v := by omega
          go_wp2_with fail
          go_roundw
          case rel => exact ⟨u + 1, es', sl, by go_num, by omega, hb, hG, hR, hval, hup.next 0, hrest.next⟩
          case measure => simp [intOf]; omega
    · obtain rfl : n = u := by omega
      have q1 : wr.cell? ⟨w2.heap.size, 1, none⟩ = some (.slice a2 es.length cap2) := cell_blk hG
      have r0 : wr.cell? ⟨w2.heap.size + 1, 0, none⟩ = some (.int .i64 n) := cell_blk hR.1
      have r1 : wr.cell? ⟨w2.heap.size + 1, 1, none⟩ = some sl := cell_blk hR.1
      have hlen := hval.length_le
      obtain ⟨ar, capr, hvr, hir, _⟩ := EdgesAt.of_owns hR.2 (by omega)
      subst hvr
      have hwb := hb2.trans (hb.mono hb2.size)
      go_wp2_with fail
      refine (induced_any n a2 cap2 es _ (he2.below hb) hv (ht.below hwb)).mono ?_
      rintro e w5 ⟨a5, cap5, rfl, hi5, hb5⟩
      have hl5 := indS_length es n
      have hwb5 := hwb.trans (hb5.mono hwb.size)
      have r0' := below_cell hb5 r0
      have r1' := below_cell hb5 r1
      have hir5 := hir.below hb5
      clear r0 r1 q0 q1 hb5 hR hG
      go_wp2_with fail
      refine (induced_any n ar capr es' _ hir5 hval (ht.below hwb5)).mono ?_
      rintro e w6 ⟨a6, cap6, rfl, hi6, hb6⟩
      have hl6 := indS_length es' n
      have hi56 := hi5.below hb6
      have hwb6 := hwb5.trans (hb6.mono hwb5.size)
      have HT := Lib.hid (fun i hi => indS_turn (n := n) hrest i hi)
      generalize indS es n = l1 at *
      generalize indS es' n = l2 at *
      clear hb6 hi5 r0' r1' hir hir5
      go_wp2_with fail
      have hz6 : w6.heap.size < w6.heap.size + 1 := Nat.lt_succ_self _
      have hL : IntsAt (w6.alloc (.cells (intsV [10, 9, 7, 8, 5, 4, 6, 2, 3, 1, 0]).toArray 3)) (.slice (some ⟨w6.heap.size, 0, none⟩) 11 11) [10, 9, 7, 8, 5, 4, 6, 2, 3, 1, 0] := ints_blk (heap_alloc_new _ _) (by decide) 11 (by decide)
      have hbL : Below w6.heap.size w6 (w6.alloc (.cells (intsV [10, 9, 7, 8, 5, 4, 6, 2, 3, 1, 0]).toArray 3)) := (Below.refl _ _).alloc (Nat.le_refl _) _
      have hi5L := hi56.below hbL
      have hi6L := hi6.below hbL
      have hwL := hwb6.trans (hbL.mono hwb6.size)
      have htL := ht.below hwL
      have hLB : (w6.alloc (.cells (intsV [10, 9, 7, 8, 5, 4, 6, 2, 3, 1, 0]).toArray 3)).heap[w6.heap.size]? = some (.cells (intsV [10, 9, 7, 8, 5, 4, 6, 2, 3, 1, 0]).toArray 3 (0, 0)) := heap_alloc_new _ _
      have HLB := Lib.hid hLB
      clear hLB hL
      go_loopw [78] (fun i wr => ∃ (k m : Nat), k ≤ 11 ∧ i = .int .i64 k ∧ wr = (w6.alloc (.cells (intsV [10, 9, 7, 8, 5, 4, 6, 2, 3, 1, 0]).toArray 3)).drewN m) (fun i _ => 11 - (intOf i).toNat)
      case atStart => exact ⟨0, 0, by omega, rfl, rfl⟩
      case round =>
        obtain ⟨k, md, hk, rfl, rfl⟩ := hrel
        by_cases hlt : k < 11
        · obtain ⟨tk, ht1, ht2, ht3⟩ := turn_list k hlt
          obtain ⟨b5, o5, x, rfl, hx, _, _, c5⟩ := hi5L.at k (by omega)
          have hx2 := HT.out k hlt
          rw [hx, ht3] at hx2
          obtain ⟨b6, o6, x', rfl, hx', _, _, c6⟩ := hi6L.at tk (by omega)
          obtain rfl : x = x' := by rw [hx'] at hx2; exact Option.some.inj hx2
          have cL : (w6.alloc (.cells (intsV [10, 9, 7, 8, 5, 4, 6, 2, 3, 1, 0]).toArray 3)).cell? ⟨w6.heap.size, k, none⟩ = some (.int .i64 tk) := by
            rw [cell_blk HLB.out]; simp only [intsV, List.getElem?_toArray, List.getElem?_map, ht1, Option.map_some]
          clear hx hx' hx2 ht1 ht3
          go_wp2_with fail
          go_quiet (fail)
          go_wp2_with fail
          go_roundw
          case rel => exact ⟨k + 1, _, by omega, by go_num, rfl⟩
          case measure => simp [intOf]; omega
        · have hwd := hwL.drewN md
          have htd := htL
          go_wp2_with (go_at_call 11; refine (awake_any _ (ht.below hwd)).mono ?_; rintro e w' ⟨rfl, hb'⟩)
          go_ret
          exact ⟨rfl, hwd.trans (hb'.mono hwd.size)⟩
end Go.Proofs.YtdiackininlmeaaDoor
