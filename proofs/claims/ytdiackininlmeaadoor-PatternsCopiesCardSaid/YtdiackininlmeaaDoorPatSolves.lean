/- The walk of the law that solving the copies gives the counts, and that the nodes' numbers add up. -/
import Derived.Test.YtdiackininlmeaaDoorPatSolvesPlain
import Derived.Test.YtdiackininlmeaaDoorPatTurns
namespace Go.Proofs.YtdiackininlmeaaDoor
open Go.RowKit Go.BigFrame

/-- the sums: of the nodes before v, and of node v in the first k kinds -/
def sumV (F : Nat → Nat → Int) (v k : Nat) : List Int := (List.range 11).map fun (i : Nat) => if i < k then sumN (fun u => F u i) (v + 1) else sumN (fun u => F u i) v
theorem sumV_length (F : Nat → Nat → Int) (v k : Nat) : (sumV F v k).length = 11 := by simp [sumV]
theorem sumV_get (F : Nat → Nat → Int) (v k i : Nat) (hi : i < 11) : (sumV F v k)[i]? = some (if i < k then sumN (fun u => F u i) (v + 1) else sumN (fun u => F u i) v) := by simp [sumV, hi]
theorem sumV_zero (F : Nat → Nat → Int) : sumV F 0 0 = cntV [] := by
  apply List.ext_getElem?
  intro j
  by_cases hj : j < 11
  · rw [sumV_get _ _ _ _ hj, cntV_get _ _ hj, if_neg (by omega)]; simp [sumN]
  · rw [List.getElem?_eq_none (by rw [sumV_length]; omega), List.getElem?_eq_none (by rw [cntV_length]; omega)]
theorem sumV_next (F : Nat → Nat → Int) (v : Nat) : sumV F v 11 = sumV F (v + 1) 0 := by
  unfold sumV
  apply List.map_congr_left
  intro i hi
  have : i < 11 := List.mem_range.1 hi
  rw [if_pos this, if_neg (by omega)]
theorem sumV_step (F : Nat → Nat → Int) (v k : Nat) : (sumV F v k).set k (sumN (fun u => F u k) v + F v k) = sumV F v (k + 1) := by
  apply List.ext_getElem?
  intro j
  by_cases hj : j < 11
  · rw [List.getElem?_set, sumV_get _ _ _ _ hj, sumV_get _ _ _ _ hj, sumV_length]
    by_cases h : k = j
    · subst h; rw [if_pos rfl, if_pos hj, if_pos (by omega)]; rfl
    · rw [if_neg h]
      by_cases h1 : j < k
      · rw [if_pos h1, if_pos (by omega)]
      · rw [if_neg h1, if_neg (by omega)]
  · rw [List.getElem?_eq_none (by rw [List.length_set, sumV_length]; omega), List.getElem?_eq_none (by rw [sumV_length]; omega)]
theorem far_cop (x : List Int) (h : ∀ k, 0 ≤ x.getD k 0 ∧ x.getD k 0 ≤ 16777216) : (copS x).any farB = false := by
  rw [List.any_eq_false]
  intro y hy
  obtain ⟨i, hi, he⟩ := List.getElem_of_mem hy
  have hi' : i < 11 := by rw [copS, copV_length] at hi; exact hi
  have hc : (copS x).getD i 0 = y := by rw [List.getD_eq_getElem?_getD, List.getElem?_eq_getElem hi, he]; rfl
  rw [cop_get x i hi'] at hc
  have hb := dotS_bd i x h 11 (Nat.le_refl _)
  rw [hc] at hb
  simp [farB]
  omega

theorem solve_11 (a : Option Addr) (cap : Nat) (xs : List Int) (w : World) (hl : xs.length = 11) (hi : IntsAt w (.slice a 11 cap) xs) (hf : xs.any farB = false) (ht : TabsAt w) :
    Calls Tryd.prog 40 #[.slice a 11 cap] w fun e w' => ∃ a' cap', e = .returned (.tuple #[.slice a' 11 cap', .bool true]) ∧ IntsAt w' (.slice a' 11 cap') (solS xs) ∧ Below w.heap.size w w' := by
  have h := solve_ok a cap xs w (by rw [hl]; exact hi) hl hf ht
  rw [hl] at h
  exact h
theorem copies_11 (n : Nat) (a : Option Addr) (cap : Nat) (es : List E2) (w : World) (he : EdgesAt w (.slice a es.length cap) es) (hv : Valid n es) (ht : TabsAt w) :
    Calls Tryd.prog 14 #[.agg #[.int .i64 n, .slice a es.length cap]] w fun e w' => ∃ a' cap', e = .returned (.tuple #[.slice a' 11 cap', .int .i64 0]) ∧ IntsAt w' (.slice a' 11 cap') (copS (indS es n)) ∧ Below w.heap.size w w' := by
  refine (copies_any n a cap es w he hv ht).mono ?_
  rintro e w' ⟨a', cap', rfl, hi, hb⟩
  have hl : (copS (indS es n)).length = 11 := copV_length _ _ _
  rw [hl] at hi ⊢
  exact ⟨_, _, rfl, hi, hb⟩
theorem induced_11 (n : Nat) (a : Option Addr) (cap : Nat) (es : List E2) (w : World) (he : EdgesAt w (.slice a es.length cap) es) (hv : Valid n es) (ht : TabsAt w) :
    Calls Tryd.prog 22 #[.agg #[.int .i64 n, .slice a es.length cap]] w fun e w' => ∃ a' cap', e = .returned (.tuple #[.slice a' 11 cap', .int .i64 0]) ∧ IntsAt w' (.slice a' 11 cap') (indS es n) ∧ Below w.heap.size w w' := by
  refine (induced_any n a cap es w he hv ht).mono ?_
  rintro e w' ⟨a', cap', rfl, hi, hb⟩
  rw [indS_length] at hi ⊢
  exact ⟨_, _, rfl, hi, hb⟩
theorem IntsAt.at11 {w : World} {a : Option Addr} {cap : Nat} {xs : List Int} (h : IntsAt w (.slice a 11 cap) xs) (hl : xs.length = 11) (k : Nat) (hk : k < 11) : ∃ b off, a = some ⟨b, off, none⟩ ∧ w.cell? ⟨b, off + k, none⟩ = some (.int .i64 (xs.getD k 0)) := by
  have h' : IntsAt w (.slice a xs.length cap) xs := by rw [hl]; exact h
  obtain ⟨b, off, y, ha, hy, _, _, hc⟩ := h'.at k (by omega)
  exact ⟨b, off, ha, by rw [hc, List.getD_eq_getElem?_getD, hy]; rfl⟩
theorem cmp_11 (a a2 : Option Addr) (cap cap2 : Nat) (xs : List Int) (w : World) (hl : xs.length = 11) (h1 : IntsAt w (.slice a 11 cap) xs) (h2 : IntsAt w (.slice a2 11 cap2) xs) :
    Calls Tryd.prog 19 #[.slice a 11 cap, .slice a2 11 cap2] w fun e w' => e = .returned (.int .i64 0) ∧ Below w.heap.size w w' := by
  have h := cmp_same a a2 cap cap2 xs w (by rw [hl]; exact h1) (by rw [hl]; exact h2)
  rw [hl] at h
  exact h

set_option maxRecDepth 100000 in
set_option maxHeartbeats 3200000 in
theorem solves_law (a : Option Addr) (len cap : Nat) (w : World) (hl : ListAt w a len) (ht : TabsAt w) :
    Calls Tryd.prog 9 #[.slice a len cap] w fun e w' => e = .returned (.bool true) ∧ Below w.heap.size w w' := by
  by_cases hfew : len ≤ 500
  case neg =>
    have hd : decide (len ≤ 500) = false := by simpa using hfew
    go_enter Tryd.func9, Tryd.ntmps9
    go_wp2_with (first
      | (go_at_call 10; refine (few_any _ _ _ _).mono ?_; rintro e w' ⟨rfl, rfl⟩)
      | (go_at_call 11; refine (awake_any _ ht).mono ?_; rintro e w' ⟨rfl, hb⟩))
    go_ret
    exact ⟨rfl, hb⟩
  case pos =>
  have hd : decide (len ≤ 500) = true := by simpa using hfew
  have hdk := deck_new (cap := cap) hl
  have hb1 : Below w.heap.size w (w.alloc (.cells #[.slice a len cap, .int .i64 0] 61)) := (Below.refl _ _).alloc (Nat.le_refl _) _
  go_enter Tryd.func9, Tryd.ntmps9
  go_wp2_with (first
    | (go_at_call 10; refine (few_any _ _ _ _).mono ?_; rintro e w' ⟨rfl, rfl⟩)
    | (go_at_call 13; refine (new_any _ _ _ _).mono ?_; rintro e w' ⟨rfl, rfl⟩)
    | (go_at_call 12; refine (mkgraph_any w.heap.size 9 _ hdk (by omega) (by omega)).mono ?_; rintro e w2 ⟨n0, es, a2, cap2, rfl, he2, hv, hn9, hd2, hg2, ho2⟩))
  have hb2 : Below w.heap.size w w2 := below_deck hb1 hg2 (Nat.le_refl _) hb1.size
  obtain ⟨n, rfl⟩ := Int.eq_ofNat_of_zero_le hv.1
  have hn64 : n ≤ 9 := by omega
  have hG0 : (w2.alloc (.cells #[.int .i64 n, .slice a2 es.length cap2] 27)).heap[w2.heap.size]? = some (.cells #[.int .i64 n, .slice a2 es.length cap2] 27 (0, 0)) := heap_alloc_new _ _
  have hwx := hb2.alloc hb2.size (.cells #[.int .i64 n, .slice a2 es.length cap2] 27)
  have he3 := he2.below ((Below.refl _ w2).alloc (Nat.le_refl _) (.cells #[.int .i64 n, .slice a2 es.length cap2] 27))
  have hwg : w.heap.size ≤ w2.heap.size := hb2.size
  clear hb2 hg2 hd2 ho2 hdk hb1 he2 hl
  refine (induced_11 n a2 cap2 es _ he3 hv (ht.below hwx)).mono ?_
  rintro e w3 ⟨a3, cap3, rfl, hi3, hb3⟩
  have hw3 := hwx.trans (hb3.mono hwx.size)
  have he4 := he3.below hb3
  have hG3 := (hb3.block _ (blk_lt hG0)).trans hG0
  have g30 : w3.cell? ⟨w2.heap.size, 0, none⟩ = some (.int .i64 n) := cell_blk hG3
  have g31 : w3.cell? ⟨w2.heap.size, 1, none⟩ = some (.slice a2 es.length cap2) := cell_blk hG3
  clear hb3 hwx he3 hG0
  have hil := indS_length es n
  have hib := indS_bd es n (by omega)
  have hfar := far_cop _ hib
  have hsc := sol_cop _ hil
  have htot := tot_all es n
  have hfour := fun k hk => four_all es n k hk
  have HCL := Lib.hid (show (copS (indS es n)).length = 11 from copV_length _ _ _)
  have HIL := Lib.hid hil
  have HTOT := Lib.hid htot
  have HF := Lib.hid hfar
  clear hil htot
  go_wp2_with fail
  refine (copies_11 n a2 cap2 es _ he4 hv (ht.below hw3)).mono ?_
  rintro e w4 ⟨a4, cap4, rfl, hi4, hb4⟩
  have hw4 := hw3.trans (hb4.mono hw3.size)
  have he5 := he4.below hb4
  have hG4 := (hb4.block _ (blk_lt hG3)).trans hG3
  have hi34 := hi3.below hb4
  clear hb4 hw3 he4 hG3 hi3 g30 g31
  generalize indS es n = l1 at *
  generalize copS l1 = l2 at *
  go_wp2_with fail
  refine (solve_11 a4 cap4 l2 _ HCL.out hi4 hfar (ht.below hw4)).mono ?_
  rintro e w5 ⟨a5, cap5, rfl, hi5, hb5⟩
  rw [hsc] at hi5
  have hw5 := hw4.trans (hb5.mono hw4.size)
  have he6 := he5.below hb5
  have hG5 := (hb5.block _ (blk_lt hG4)).trans hG4
  have hi35 := hi34.below hb5
  clear hb5 hw4 he5 hG4 hi34 hsc hi4 hfar
  have hnb := nodS_bd es n
  have htb := totS_bd l1 16777216 hib
  go_wp2_with fail
  go_loop [10, 43] (fun s i => ∃ k : Nat, k ≤ 11 ∧ s = .int .i64 (totS l1 k) ∧ i = .int .i64 k) (fun _ i => 11 - (intOf i).toNat)
  case atStart => exact ⟨0, by omega, rfl, rfl⟩
  case round =>
    obtain ⟨k, hk, rfl, rfl⟩ := hrel
    by_cases hlt : k < 11
    · obtain ⟨b, off, rfl, c0⟩ := hi35.at11 HIL.out k hlt
      have h1 := htb k
      have h2 := hib k
      have HS : Hid (totS l1 (k + 1) = totS l1 k + l1.getD k 0) := rfl
      clear htb hib hnb hfour
      generalize l1.getD k 0 = y at *
      generalize totS l1 k = u at *
      have hw : IntKind.i64.wrap (u + y) = u + y := IntWalk.i64_in _ (by omega)
      go_wp2_with fail
      go_round
      case rel => exact ⟨k + 1, by omega, by rw [HS.out], by go_num⟩
      case measure => simp [intOf]; omega
    · obtain rfl : k = 11 := by omega
      rw [HTOT.out]
      have hmk := make11
      go_wp2_with fail
      clear hmk
      have hN0 : NumAt (w5.alloc (.cells (intsV (cntV [])).toArray 3)) w5.heap.size (sumV (fun u i => (nodS es n (u : Int)).getD i 0) 0 0) := by rw [sumV_zero]; exact heap_alloc_new _ _
      have hbx : Below w5.heap.size w5 (w5.alloc (.cells (intsV (cntV [])).toArray 3)) := (Below.refl _ _).alloc (Nat.le_refl _) _
      have HFOUR := Lib.hid hfour
      have HNB := Lib.hid hnb
      have HI3 := Lib.hid hi35
      have HI5 := Lib.hid hi5
      have HGG := Lib.hid hG5
      clear htb hfour hnb hi35 hi5 hG5
      go_loopw [14] (fun i wr => ∃ v : Nat, v ≤ n ∧ i = .int .i64 v ∧ Below w5.heap.size w5 wr ∧ NumAt wr w5.heap.size (sumV (fun u i => (nodS es n (u : Int)).getD i 0) v 0)) (fun i _ => n - (intOf i).toNat)
      case atStart => exact ⟨0, by omega, rfl, hbx, hN0⟩
      case round =>
        clear hN0 hbx
        obtain ⟨v, hvn, rfl, hb, hN⟩ := hrel
        have hGr := (hb.block _ (blk_lt HGG.out)).trans HGG.out
        have q0 : wr.cell? ⟨w2.heap.size, 0, none⟩ = some (.int .i64 n) := cell_blk hGr
        have q1 : wr.cell? ⟨w2.heap.size, 1, none⟩ = some (.slice a2 es.length cap2) := cell_blk hGr
        clear hGr
        by_cases hlt : v < n
        · go_wp2_with fail
          refine (node_any n v a2 cap2 es _ (he6.below hb) hv (ht.below (hw5.trans (hb.mono hw5.size))) (by omega) (by omega)).mono ?_
          rintro e w6 ⟨g6, rfl, hg6, hN6, hb6⟩
          have hS6 := (hb6.block _ (blk_lt hN)).trans hN
          have hb56 := hb.trans (hb6.mono hb.size)
          have hSg : w5.heap.size < g6 := Nat.lt_of_lt_of_le (blk_lt hN) hg6
          clear hb6 hb hN q0 q1
          go_wp2_with fail
          go_loopw [73] (fun i wr => ∃ k : Nat, k ≤ 11 ∧ i = .int .i64 k ∧ Below w5.heap.size w5 wr ∧ NumAt wr g6 (nodS es n (v : Int)) ∧ NumAt wr w5.heap.size (sumV (fun u i => (nodS es n (u : Int)).getD i 0) v k)) (fun i _ => 11 - (intOf i).toNat)
          case atStart => exact ⟨0, by omega, rfl, hb56, hN6, hS6⟩
          case round =>
            clear hb56 hN6 hS6
            obtain ⟨k, hk, rfl, hb, hN, hS⟩ := hrel
            by_cases hltk : k < 11
            · have c0 := hN.cell k ((nodS es n (v : Int)).getD k 0) (by rw [List.getD_eq_getElem?_getD, List.getElem?_eq_getElem (by rw [nodS_length]; exact hltk)]; rfl)
              have c1 := hS.cell k _ (sumV_get _ _ _ _ hltk)
              rw [if_neg (by omega)] at c1
              have f1 : wr.frozen? ⟨w5.heap.size, k, none⟩ = false := free_blk hS
              have y1 := HNB.out v (by omega) k
              have y2 := sumN_bd (fun u => (nodS es n (u : Int)).getD k 0) 16777216 v (fun u _ => HNB.out u (by omega) k)
              have HS := Lib.hid (hS.set k (sumN (fun u => (nodS es n (u : Int)).getD k 0) v + (nodS es n (v : Int)).getD k 0))
              have HT := Lib.hid (sumV_step (fun u i => (nodS es n (u : Int)).getD i 0) v k)
              have HN2 : Hid (NumAt (wr.setCell ⟨w5.heap.size, k, none⟩ (.int .i64 (sumN (fun u => (nodS es n (u : Int)).getD k 0) v + (nodS es n (v : Int)).getD k 0))) g6 (nodS es n (v : Int))) := (Below.heap_setCell _ _ _ _ (by show g6 ≠ w5.heap.size; omega)).trans hN
              clear hN hS
              generalize sumN (fun u => (nodS es n (u : Int)).getD k 0) v = s at *
              generalize (nodS es n (v : Int)).getD k 0 = y at *
              have hw : IntKind.i64.wrap (s + y) = s + y := IntWalk.i64_in _ (by omega)
              go_wp2_with fail
              go_region
              go_wp2_with fail
              go_roundw
              case rel => exact ⟨k + 1, by omega, by go_num, (hb.setCell (p := ⟨w5.heap.size, k, none⟩) (Nat.le_refl _) _).drew, HN2.out, by rw [← HT.out]; exact HS.out⟩
              case measure => simp [intOf]; omega
            · obtain rfl : k = 11 := by omega
              go_wp2_with fail
              go_roundw
              case rel => exact ⟨v + 1, by omega, by go_num, hb, by rw [← sumV_next]; exact hS⟩
              case measure => simp [intOf]; omega
        · obtain rfl : v = n := by omega
          have hwr := hw5.trans (hb.mono hw5.size)
          have hi3r := HI3.out.below hb
          have hi5r := HI5.out.below hb
          go_wp2_with fail
          refine (cmp_11 a3 a5 cap3 cap5 l1 _ HIL.out hi3r hi5r).mono ?_
          rintro e w7 ⟨rfl, hb7⟩
          have hw7 := hwr.trans (hb7.mono hwr.size)
          have hS7 := (hb7.block _ (blk_lt hN)).trans hN
          have hi37 := hi3r.below hb7
          have hG7 := (hb7.block _ (blk_lt ((hb.block _ (blk_lt HGG.out)).trans HGG.out))).trans ((hb.block _ (blk_lt HGG.out)).trans HGG.out)
          have q7 : w7.cell? ⟨w2.heap.size, 0, none⟩ = some (.int .i64 v) := cell_blk hG7
          clear hb7 hwr hi3r hi5r hN hG7 q0 q1
          go_wp2_with fail
          go_loopw [110] (fun i wr => ∃ (k m : Nat), k ≤ 11 ∧ i = .int .i64 k ∧ wr = w7.drewN m) (fun i _ => 11 - (intOf i).toNat)
          case atStart => exact ⟨0, 0, by omega, rfl, rfl⟩
          case round =>
            obtain ⟨k, m, hk, rfl, rfl⟩ := hrel
            by_cases hltk : k < 11
            · obtain ⟨b, off, rfl, c0⟩ := hi37.at11 HIL.out k hltk
              have c1 := NumAt.cell hS7 k _ (sumV_get _ _ _ _ hltk)
              rw [if_neg (by omega), HFOUR.out k hltk] at c1
              have h2 := hib k
              generalize l1.getD k 0 = y at *
              have hw : IntKind.i64.wrap (4 * y) = 4 * y := IntWalk.i64_in _ (by omega)
              go_wp2_with fail
              go_quiet (fail)
              go_wp2_with fail
              go_roundw
              case rel => exact ⟨k + 1, _, by omega, by go_num, rfl⟩
              case measure => simp [intOf]; omega
            · obtain rfl : k = 11 := by omega
              have hwd := hw7.drewN m
              go_wp2_with fail
              refine (choose_any v 4 _ (by omega) (by omega)).mono ?_
              rintro e w8 ⟨rfl, hb8⟩
              have hw8 := hwd.trans (hb8.mono hwd.size)
              go_wp2_with fail
              refine (awake_any _ (ht.below hw8)).mono ?_
              rintro e w9 ⟨rfl, hb9⟩
              go_wp2_with fail
              go_ret
              exact ⟨rfl, hw8.trans (hb9.mono hw8.size)⟩
end Go.Proofs.YtdiackininlmeaaDoor
