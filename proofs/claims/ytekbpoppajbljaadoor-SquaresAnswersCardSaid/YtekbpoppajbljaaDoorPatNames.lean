/- The walk of the law on other names of the nodes. -/
import Derived.Test.YtekbpoppajbljaaDoorRenamed
import Derived.Test.YtekbpoppajbljaaDoorPatSolves
namespace Go.Proofs.YtekbpoppajbljaaDoor
open Go.RowKit Go.BigFrame

theorem num_11 {w : World} {g : Nat} {l : List Int} (h : NumAt w g l) (hl : l.length = 11) : IntsAt w (.slice (some ⟨g, 0, none⟩) 11 11) l := by
  have := NumAt.ints h (by omega)
  rw [hl] at this; exact this
theorem cells2 {w : World} {g T : Nat} {x y : Value} {f : Nat × Nat} (h : w.heap[g]? = some (.cells #[x, y] T f)) : w.cell? ⟨g, 0, none⟩ = some x ∧ w.cell? ⟨g, 1, none⟩ = some y := ⟨cell_blk h, cell_blk h⟩
set_option maxRecDepth 100000 in
set_option maxHeartbeats 3200000 in
theorem names_law (a : Option Addr) (len cap : Nat) (w : World) (hl : ListAt w a len) (ht : TabsAt w) :
    Calls Tryd.prog 4 #[.slice a len cap] w fun e w' => e = .returned (.bool true) ∧ Below w.heap.size w w' := by
  by_cases hfew : len ≤ 500
  case neg =>
    have hd : decide (len ≤ 500) = false := by simpa using hfew
    go_enter Tryd.func4, Tryd.ntmps4
    go_wp2_with (first
      | (go_at_call 9; refine (few_any _ _ _ _).mono ?_; rintro e w' ⟨rfl, rfl⟩)
      | (go_at_call 10; refine (awake_any _ ht).mono ?_; rintro e w' ⟨rfl, hb⟩))
    go_ret
    exact ⟨rfl, hb⟩
  case pos =>
  have hd : decide (len ≤ 500) = true := by simpa using hfew
  have hdk := deck_new (cap := cap) hl
  have hb1 : Below w.heap.size w (w.alloc (.cells #[.slice a len cap, .int .i64 0] 64)) := (Below.refl _ _).alloc (Nat.le_refl _) _
  go_enter Tryd.func4, Tryd.ntmps4
  go_wp2_with (first
    | (go_at_call 9; refine (few_any _ _ _ _).mono ?_; rintro e w' ⟨rfl, rfl⟩)
    | (go_at_call 12; refine (new_any _ _ _ _).mono ?_; rintro e w' ⟨rfl, rfl⟩)
    | (go_at_call 11; refine (mkgraph_any w.heap.size 7 _ hdk (by omega) (by omega)).mono ?_; rintro e w2 ⟨n0, es, a2, cap2, rfl, he2, hv, hn7, hd2, hg2, ho2⟩))
  have hb2 : Below w.heap.size w w2 := below_deck hb1 hg2 (Nat.le_refl _) hb1.size
  obtain ⟨n, rfl⟩ := Int.eq_ofNat_of_zero_le hv.1
  have hn64 : n ≤ 7 := by omega
  have hzd := hd2.lt
  have hG0 : (w2.alloc (.cells #[.int .i64 n, .slice a2 es.length cap2] 27)).heap[w2.heap.size]? = some (.cells #[.int .i64 n, .slice a2 es.length cap2] 27 (0, 0)) := heap_alloc_new _ _
  have hwx := hb2.alloc hb2.size (.cells #[.int .i64 n, .slice a2 es.length cap2] 27)
  have he3 := he2.below ((Below.refl _ w2).alloc (Nat.le_refl _) (.cells #[.int .i64 n, .slice a2 es.length cap2] 27))
  have hda := hd2.alloc (.cells #[.int .i64 n, .slice a2 es.length cap2] 27)
  have hsz1 : (w.alloc (.cells #[.slice a len cap, .int .i64 0] 64)).heap.size = w.heap.size + 1 := by simp
  have hoff : Off w.heap.size (.slice a2 es.length cap2) := fun n' c p e => by cases e; have := ho2 _ rfl; omega
  have hnames := fun l hp => ren_names (l := l) hp hv
  clear hb2 hg2 hd2 ho2 hdk hb1 he2 hl hsz1
  refine (mkorder_any w.heap.size n _ hda (by omega)).mono ?_
  rintro e w3 ⟨l, a3, cap3, rfl, hp, hi3, _, hg3, _⟩
  have hw3 : Below w.heap.size w w3 := hwx.grown hg3 hwx.size (fun k hk => by cases hk; exact Nat.le_refl _)
  have he4 := he3.grown hg3 (fun g e => by cases e; exact hoff)
  have hG3 := grown_blk hg3 hG0 (by intro e; have h : w2.heap.size = w.heap.size := Option.some.inj e; omega)
  have g30 : w3.cell? ⟨w2.heap.size, 0, none⟩ = some (.int .i64 n) := cell_blk hG3
  have g31 : w3.cell? ⟨w2.heap.size, 1, none⟩ = some (.slice a2 es.length cap2) := cell_blk hG3
  have hnm := hnames l hp
  have hlt := perm_lt hp
  have hends := renE_ends hp hv
  have hv' := ofE_valid _ hv.1 hv.2.1 hends
  have HIN := Lib.hid (ind_names hnm)
  have HNO := Lib.hid (fun v hv => nod_names hnm v hv)
  have HLT := Lib.hid hlt
  clear hg3 hG0 hwx he3 hda hoff hnames hnm hlt hends
  go_wp2_with fail
  refine (ren_any n a2 a3 cap2 cap3 es l _ he4 hv hi3 hp).mono ?_
  rintro e w4 ⟨a4, cap4, rfl, hf4, hb4⟩
  generalize ofE (renE l es) = fs at *
  have hw4 := hw3.trans (hb4.mono hw3.size)
  have he5 := he4.below hb4
  have hi4 := hi3.below hb4
  have hG4 := (hb4.block _ (blk_lt hG3)).trans hG3
  have hzg := blk_lt hG4
  clear g30 g31 hb4 hw3 he4 hi3 hG3
  have hH5 : (w4.alloc (.cells #[.int .i64 n, .slice a4 fs.length cap4] 27)).heap[w4.heap.size]? = some (.cells #[.int .i64 n, .slice a4 fs.length cap4] 27 (0, 0)) := heap_alloc_new _ _
  have hba : Below w4.heap.size w4 (w4.alloc (.cells #[.int .i64 n, .slice a4 fs.length cap4] 27)) := (Below.refl _ _).alloc (Nat.le_refl _) _
  have hG5 := (hba.block _ (blk_lt hG4)).trans hG4
  have hw5 := hw4.trans (hba.mono hw4.size)
  have he6 := he5.below hba
  have hf6 := hf4.below hba
  have hi6 := hi4.below hba
  obtain ⟨g50, g51⟩ := cells2 hG5
  clear hba hG4 hw4 he5 hf4 hi4
  go_wp2_with fail
  generalize w4.alloc (.cells #[.int .i64 n, .slice a4 fs.length cap4] 27) = w5 at *
  refine (induced_11 n a2 cap2 es _ he6 hv (ht.below hw5)).mono ?_
  rintro e w6 ⟨a6, cap6, rfl, hi66, hb6⟩
  have hw6 := hw5.trans (hb6.mono hw5.size)
  have he7 := he6.below hb6
  have hf7 := hf6.below hb6
  have hi7 := hi6.below hb6
  have hG6 := (hb6.block _ (blk_lt hG5)).trans hG5
  have hH6 := (hb6.block _ (blk_lt hH5)).trans hH5
  obtain ⟨h60, h61⟩ := cells2 hH6
  have hil := indS_length es n
  clear hb6 hw5 he6 hf6 hi6 hG5 hH5 g50 g51
  go_wp2_with fail
  refine (induced_11 n a4 cap4 fs _ hf7 hv' (ht.below hw6)).mono ?_
  rintro e w7 ⟨a7, cap7, rfl, hi77, hb7⟩
  rw [HIN.out] at hi77
  have hw7 := hw6.trans (hb7.mono hw6.size)
  have he8 := he7.below hb7
  have hf8 := hf7.below hb7
  have hi8 := hi7.below hb7
  have hi67 := hi66.below hb7
  have hG7 := (hb7.block _ (blk_lt hG6)).trans hG6
  have hH7 := (hb7.block _ (blk_lt hH6)).trans hH6
  have HIL := Lib.hid hil
  clear hb7 hw6 he7 hf7 hi7 hG6 hH6 h60 h61 hi66 hil
  go_wp2_with fail
  refine (cmp_11 a6 a7 cap6 cap7 (indS es n) _ HIL.out hi67 hi77).mono ?_
  rintro e w8 ⟨rfl, hb8⟩
  have hw8 := hw7.trans (hb8.mono hw7.size)
  have he9 := he8.below hb8
  have hf9 := hf8.below hb8
  have hi9 := hi8.below hb8
  have hG8 := (hb8.block _ (blk_lt hG7)).trans hG7
  have hH8 := (hb8.block _ (blk_lt hH7)).trans hH7
  obtain ⟨h80, _⟩ := cells2 hG8
  have hb88 : Below w8.heap.size w8 w8 := Below.refl _ _
  clear hb8 hw7 he8 hf8 hi8 hG7 hH7 hi67 hi77
  go_wp2_with fail
  clear h80
  go_loopw [11] (fun i wr => ∃ v : Nat, v ≤ n ∧ i = .int .i64 v ∧ Below w8.heap.size w8 wr) (fun i _ => n - (intOf i).toNat)
  case atStart => exact ⟨0, Nat.zero_le _, rfl, hb88⟩
  case round =>
    clear hb88
    obtain ⟨v, hvn, rfl, hb⟩ := hrel
    have hwr := hw8.trans (hb.mono hw8.size)
    have hGr := (hb.block _ (blk_lt hG8)).trans hG8
    obtain ⟨q0, q1⟩ := cells2 hGr
    by_cases hlt : v < n
    · have hnv := HNO.out v hlt
      have hlv := HLT.out v hlt
      go_wp2_with fail
      refine (node_any n v a2 cap2 es _ (he9.below hb) hv (ht.below hwr) (by omega) (by omega)).mono ?_
      rintro e w9 ⟨g9, rfl, hg9, hN9, hb9⟩
      have hb89 := hb.trans (hb9.mono hb.size)
      have hw9 := hw8.trans (hb89.mono hw8.size)
      have hH9 := (hb89.block _ (blk_lt hH8)).trans hH8
      have hf10 := hf9.below hb89
      obtain ⟨b3, off3, rfl, cn⟩ := natI_at (hi9.below hb89) v hlt
      obtain ⟨p0, p1⟩ := cells2 hH9
      have HNV := Lib.hid hnv
      have HG9 := Lib.hid hg9
      clear hb9 hb hwr hGr q0 q1 hnv
      generalize l.getD v 0 = lv at *
      go_wp2_with fail
      go_region_law (go_simp; go_at_call 23; refine (node_any n lv a4 cap4 fs _ (hf10.below (Below.refl _ _).drew) hv' (ht.below hw9.drew) (by omega) (by omega)).mono ?_; rintro e w10 ⟨g10, rfl, hg10, hN10, hb10⟩)
      all_goals
        rw [HNV.out] at hN10
        have hl9 := nodS_length es n v
        have i9 := ((num_11 hN9 hl9).below (Below.refl _ _).drew).below hb10
        have i10 := num_11 hN10 hl9
        have hb810 := hb89.drew.trans (hb10.mono hb89.drew.size)
        have HL9 := Lib.hid hl9
        clear hN9 hN10 hb10 hl9 hf10 p0 p1 cn
        go_wp2_with fail
        refine (cmp_11 _ _ 11 11 (nodS es n v) _ HL9.out i9 i10).mono ?_
        rintro e w11 ⟨rfl, hb11⟩
        have hb811 := hb810.trans (hb11.mono hb810.size)
        clear hb11 hb810 i9 i10
        go_wp2_with fail
        go_roundw
        case rel => exact ⟨v + 1, by omega, by go_num, hb811⟩
        case measure => simp [intOf]; omega
    · obtain rfl : v = n := by omega
      go_wp2_with fail
      refine (awake_any _ (ht.below hwr)).mono ?_
      rintro e w' ⟨rfl, hb'⟩
      go_wp2_with fail
      go_ret
      exact ⟨rfl, hwr.trans (hb'.mono hwr.size)⟩
end Go.Proofs.YtekbpoppajbljaaDoor
