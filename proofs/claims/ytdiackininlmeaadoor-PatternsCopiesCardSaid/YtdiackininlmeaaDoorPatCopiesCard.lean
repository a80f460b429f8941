/- The walk of the law on copies. The law on copies: it returns true for each list of choices, and changes nothing that was there. -/
import Derived.Test.YtdiackininlmeaaDoorPatNames
import Derived.Test.YtdiackininlmeaaDoorSqSides
import Derived.Test.YtdiackininlmeaaDoorRef29
import Derived.Test.YtdiackininlmeaaDoorRef30
import Derived.Test.YtdiackininlmeaaDoorCopLaw
import Derived.Test.YtdiackininlmeaaDoorPatCard
namespace Go.Proofs.YtdiackininlmeaaDoor
open Go.RowKit Go.BigFrame

theorem at11v {w : World} {b off cap : Nat} {xs : List Int} (h : IntsAt w (.slice (some ⟨b, off, none⟩) 11 cap) xs) (hl : xs.length = 11) (k : Nat) (hk : k < 11) {v : Int} (hv : xs.getD k 0 = v) : w.cell? ⟨b, off + k, none⟩ = some (.int .i64 v) := by
  obtain ⟨b', off', e, hc⟩ := h.at11 hl k hk
  cases e; rw [hc, hv]
theorem at4v {w : World} {b off cap : Nat} {xs : List Int} (h : IntsAt w (.slice (some ⟨b, off, none⟩) 4 cap) xs) (hl : xs.length = 4) (k : Nat) (hk : k < 4) {v : Int} (hv : xs.getD k 0 = v) : w.cell? ⟨b, off + k, none⟩ = some (.int .i64 v) := by
  have h' : IntsAt w (.slice (some ⟨b, off, none⟩) xs.length cap) xs := by rw [hl]; exact h
  obtain ⟨b', off', y, e, hy, _, _, hc⟩ := h'.at k (by omega)
  cases e; rw [hc, ← hv, List.getD_eq_getElem?_getD, hy]; rfl
theorem getD_snoc (l : List Int) (x : Int) : (l ++ [x]).getD l.length 0 = x := by simp
theorem clq_at (es : List E2) (n j : Nat) : (clqs es n (j + 1)).length = j + 1 ∧ (clqs es n (j + 1)).getD j 0 = wrap64 (clq es n (j + 1) [] 0 : Int) := by
  refine ⟨clqs_length _ _ _, ?_⟩
  have h := getD_snoc (clqs es n j) (wrap64 (clq es n (j + 1) [] 0 : Int))
  rw [clqs_length] at h
  rw [clqs_succ]; exact h
theorem clq3 (es : List E2) (n k : Nat) (hk : k = 3 + 1) : (clqs es n k).length = k ∧ (clqs es n k).getD 3 0 = wrap64 (clq es n k [] 0 : Int) := by
  subst hk; exact clq_at es n 3
/-- all that the law's functions hand back at one graph, by names -/
structure CopF (n : Nat) (a2 : Option Addr) (cap2 : Nat) (es : List E2) (C D : List Int) (t W q8 q10 : Int) : Prop where
  k1 : ∀ w, EdgesAt w (.slice a2 es.length cap2) es → TabsAt w → Calls Tryd.prog 14 #[.agg #[.int .i64 n, .slice a2 es.length cap2]] w fun e w' => ∃ a' cap', e = .returned (.tuple #[.slice a' 11 cap', .int .i64 0]) ∧ IntsAt w' (.slice a' 11 cap') C ∧ Below w.heap.size w w'
  k2 : ∀ w, EdgesAt w (.slice a2 es.length cap2) es → Calls Tryd.prog 15 #[.agg #[.int .i64 n, .slice a2 es.length cap2]] w fun e w' => e = .returned (.tuple #[.int .i64 t, .int .i64 0]) ∧ Below w.heap.size w w'
  k3 : ∀ w, EdgesAt w (.slice a2 es.length cap2) es → Calls Tryd.prog 16 #[.agg #[.int .i64 n, .slice a2 es.length cap2]] w fun e w' => e = .returned (.tuple #[.int .i64 W, .int .i64 0]) ∧ Below w.heap.size w w'
  k4 : ∀ w, EdgesAt w (.slice a2 es.length cap2) es → Calls Tryd.prog 17 #[.agg #[.int .i64 n, .slice a2 es.length cap2]] w fun e w' => e = .returned (.tuple #[.int .i64 q8, .int .i64 0]) ∧ Below w.heap.size w w'
  k5 : ∀ w, EdgesAt w (.slice a2 es.length cap2) es → Calls Tryd.prog 18 #[.agg #[.int .i64 n, .slice a2 es.length cap2], .int .i64 4] w fun e w' => ∃ a' cap', e = .returned (.tuple #[.slice a' 4 cap', .int .i64 0]) ∧ IntsAt w' (.slice a' 4 cap') D ∧ Below w.heap.size w w'
  cl : C.length = 11
  dl : D.length = 4 ∧ D.getD 3 0 = q10
  z : n < 4 → C = cntV []
  wb : 0 ≤ W ∧ W ≤ n * 34359738368
  p : 4 ≤ n → 0 ≤ t ∧ t ≤ 1000 ∧ C.getD 0 0 = chS n 4 ∧ C.getD 1 0 = (es.length : Int) * (chS (n - 2) 2 : Int) ∧ C.getD 2 0 = W * ((n : Int) - 3) ∧
    C.getD 2 0 + C.getD 3 0 = W * ((n : Int) - 3) + chS es.length 2 - W ∧ C.getD 4 0 = t * ((n : Int) - 3) ∧ C.getD 8 0 = q8 ∧ C.getD 10 0 = q10
theorem cop_facts (n : Nat) (a2 : Option Addr) (cap2 : Nat) (es : List E2) (hv : Valid n es) (h9 : n ≤ 9) : ∃ C D t W q8 q10, CopF n a2 cap2 es C D t W q8 q10 := by
  refine ⟨copS (indS es n), clqs es n 4, wrap64 ((sumW (tri29 es n es.length) n).tdiv 3), wed30 es n, wrap64 ((cyc30 es n).length : Int), wrap64 (clq es n 4 [] 0 : Int), ?_⟩
  refine ⟨fun w he ht => copies_11 n a2 cap2 es w he hv ht, fun w he => count29_any n a2 cap2 es w he hv, fun w he => wedges30_any n a2 cap2 es w he hv, fun w he => count30_any n a2 cap2 es w he hv, fun w he => counts25_any n a2 cap2 es w he hv, copV_length _ _ _, clq3 es n 4 (by decide), ind_small es n, wed30_bd es n (by have := len36 hv h9; omega), ?_⟩
  intro h4
  obtain ⟨t, e, h⟩ := copies_plain hv h4 h9
  rw [e]; exact h
set_option maxRecDepth 100000 in
set_option maxHeartbeats 3200000 in
theorem copies_law (a : Option Addr) (len cap : Nat) (w : World) (hl : ListAt w a len) (ht : TabsAt w) :
    Calls Tryd.prog 3 #[.slice a len cap] w fun e w' => e = .returned (.bool true) ∧ Below w.heap.size w w' := by
  by_cases hfew : len ≤ 500
  case neg =>
    have hd : decide (len ≤ 500) = false := by simpa using hfew
    go_enter Tryd.func3, Tryd.ntmps3
    go_wp2_with (first
      | (go_at_call 10; refine (few_any _ _ _ _).mono ?_; rintro e w' ⟨rfl, rfl⟩)
      | (go_at_call 11; refine (awake_any _ ht).mono ?_; rintro e w' ⟨rfl, hb⟩))
    go_ret
    exact ⟨rfl, hb⟩
  case pos =>
  have hd : decide (len ≤ 500) = true := by simpa using hfew
  have hdk := deck_new (cap := cap) hl
  have hb1 : Below w.heap.size w (w.alloc (.cells #[.slice a len cap, .int .i64 0] 61)) := (Below.refl _ _).alloc (Nat.le_refl _) _
  go_enter Tryd.func3, Tryd.ntmps3
  go_wp2_with (first
    | (go_at_call 10; refine (few_any _ _ _ _).mono ?_; rintro e w' ⟨rfl, rfl⟩)
    | (go_at_call 13; refine (new_any _ _ _ _).mono ?_; rintro e w' ⟨rfl, rfl⟩)
    | (go_at_call 12; refine (mkgraph_any w.heap.size 9 _ hdk (by omega) (by omega)).mono ?_; rintro e w2 ⟨n0, es, a2, cap2, rfl, he2, hv, hn9, hd2, hg2, ho2⟩))
  have hb2 : Below w.heap.size w w2 := below_deck hb1 hg2 (Nat.le_refl _) hb1.size
  obtain ⟨n, rfl⟩ := Int.eq_ofNat_of_zero_le hv.1
  have hn64 : n ≤ 9 := by omega
  have hm40 := len36 hv hn64
  have hG0 : (w2.alloc (.cells #[.int .i64 n, .slice a2 es.length cap2] 27)).heap[w2.heap.size]? = some (.cells #[.int .i64 n, .slice a2 es.length cap2] 27 (0, 0)) := heap_alloc_new _ _
  have hwx := hb2.alloc hb2.size (.cells #[.int .i64 n, .slice a2 es.length cap2] 27)
  have he3 := he2.below ((Below.refl _ w2).alloc (Nat.le_refl _) (.cells #[.int .i64 n, .slice a2 es.length cap2] 27))
  clear hb2 hg2 hd2 ho2 hdk hb1 he2 hl
  obtain ⟨C, D, t, W, q8, q10, k1, k2, k3, k4, k5, hcl, hdl, hz, hwb, hp⟩ := cop_facts n a2 cap2 es hv hn64
  have HP := Lib.hid hp
  have HZ := Lib.hid hz
  have HCL := Lib.hid hcl
  have HW := Lib.hid hwb
  have HD := Lib.hid hdl
  clear hp hz hcl hwb hdl
  refine (k1 _ he3 (ht.below hwx)).mono ?_
  rintro e w3 ⟨a3, cap3, rfl, hi3, hb3⟩
  have hw3 := hwx.trans (hb3.mono hwx.size)
  have he4 := he3.below hb3
  have hG3 := (hb3.block _ (blk_lt hG0)).trans hG0
  obtain ⟨g30, g31⟩ := cells2 hG3
  clear hb3 hwx he3 hG0 k1
  go_wp2_with fail
  refine (k2 _ he4).mono ?_
  rintro e w4 ⟨rfl, hb4⟩
  have hw4 := hw3.trans (hb4.mono hw3.size)
  have he5 := he4.below hb4
  have hG4 := (hb4.block _ (blk_lt hG3)).trans hG3
  have hi4 := hi3.below hb4
  obtain ⟨g40, g41⟩ := cells2 hG4
  clear hb4 hw3 he4 hG3 hi3 g30 g31 k2
  go_wp2_with fail
  refine (k3 _ he5).mono ?_
  rintro e w5 ⟨rfl, hb5⟩
  have hw5 := hw4.trans (hb5.mono hw4.size)
  have he6 := he5.below hb5
  have hG5 := (hb5.block _ (blk_lt hG4)).trans hG4
  have hi5 := hi4.below hb5
  obtain ⟨g50, g51⟩ := cells2 hG5
  clear hb5 hw4 he5 hG4 hi4 g40 g41 k3
  go_wp2_with fail
  refine (k4 _ he6).mono ?_
  rintro e w6 ⟨rfl, hb6⟩
  have hw6 := hw5.trans (hb6.mono hw5.size)
  have he7 := he6.below hb6
  have hG6 := (hb6.block _ (blk_lt hG5)).trans hG5
  have hi6 := hi5.below hb6
  obtain ⟨g60, g61⟩ := cells2 hG6
  clear hb6 hw5 he6 hG5 hi5 g50 g51 k4
  go_wp2_with fail
  refine (k5 _ he7).mono ?_
  rintro e w7 ⟨a7, cap7, rfl, hi77, hb7⟩
  have hw7 := hw6.trans (hb7.mono hw6.size)
  have hG7 := (hb7.block _ (blk_lt hG6)).trans hG6
  have hi7 := hi6.below hb7
  obtain ⟨g70, g71⟩ := cells2 hG7
  clear hb7 hw6 he7 hG6 hi6 g60 g61 k5
  go_upto_region 9 with (fail)
  go_quiet (fail)
  rename_i nq
  clear g70 g71 hG7
  have hiC := hi7.below ((Below.refl _ w7).drewN nq)
  have hiD := hi77.below ((Below.refl _ w7).drewN nq)
  have hw := hw7.drewN nq
  clear hi7 hi77 hw7
  generalize w7.drewN nq = w8 at *
  by_cases h4 : n < 4
  · have hz := HZ.out h4
    have d1 : decide ((n : Int) < 4) = true := by simp; omega
    have d2 : decide (n < 4) = true := by simpa using h4
    have hm : ∀ w, (Instr.makeSlice 22 (.int .i64 11) (.int .i64 11)).run Tryd.prog w = .ok (.slice (some ⟨w.heap.size, 0, none⟩) 11 11) (w.alloc (.cells (intsV C).toArray 3)) := by rw [hz]; exact make11
    have hbm : Below w8.heap.size w8 (w8.alloc (.cells (intsV C).toArray 3)) := (Below.refl _ _).alloc (Nat.le_refl _) _
    have hiZ := num_11 (show NumAt (w8.alloc (.cells (intsV C).toArray 3)) w8.heap.size C from heap_alloc_new _ _) HCL.out
    clear hz
    go_wp2_with fail
    refine (cmp_11 _ _ _ _ C _ HCL.out (hiC.below hbm) hiZ).mono ?_
    rintro e w9 ⟨rfl, hb9⟩
    have hw9 := (hw.trans (hbm.mono hw.size)).trans (hb9.mono (hw.trans (hbm.mono hw.size)).size)
    go_wp2_with fail
    refine (awake_any _ (ht.below hw9)).mono ?_
    rintro e w10 ⟨rfl, hb10⟩
    have hw10 := hw9.trans (hb10.mono hw9.size)
    go_wp2_with fail
    go_ret
    exact ⟨rfl, hw10⟩
  · obtain ⟨ht0, ht1, c0, c1, c2, c3, c4, c8, c10⟩ := HP.out (by omega)
    have d1 : decide ((n : Int) < 4) = false := by simp; omega
    have d2 : decide (n < 4) = false := by simpa using h4
    obtain ⟨w0, w1⟩ := HW.out
    obtain ⟨kb1, kb2, kb3⟩ := ch_row n (by omega) (by omega)
    obtain ⟨b3, off3, rfl, _⟩ := hiC.at11 HCL.out 0 (by omega)
    obtain ⟨b7, off7, rfl, _⟩ : ∃ b off, a7 = some ⟨b, off, none⟩ ∧ True := by
      have h' : IntsAt w8 (.slice a7 D.length cap7) D := by rw [HD.out.1]; exact hiD
      obtain ⟨b, off, y, e, _⟩ := h'.at 0 (by rw [HD.out.1]; omega)
      exact ⟨b, off, e, trivial⟩
    obtain ⟨N2, hN2⟩ : ∃ N2, n - 2 = N2 := ⟨_, rfl⟩
    rw [hN2] at c1 kb1 kb2
    have e2 : (n : Int) - 2 = (N2 : Int) := by omega
    have hN2b : N2 ≤ 60 := by omega
    obtain ⟨K1, hK1⟩ : ∃ K, (chS N2 2 : Int) = K := ⟨_, rfl⟩
    obtain ⟨K2, hK2⟩ : ∃ K, (chS es.length 2 : Int) = K := ⟨_, rfl⟩
    obtain ⟨K4, hK4⟩ : ∃ K, (chS n 4 : Int) = K := ⟨_, rfl⟩
    have hm2 := ch_two es.length
    have hmm : (es.length : Int) * (es.length : Int) ≤ 40 * 40 := Int.mul_le_mul (by omega) (by omega) (by omega) (by omega)
    have K1n : 0 ≤ K1 := by omega
    have K2n : 0 ≤ K2 := by omega
    rw [hK1] at c1 kb1 kb2
    rw [hK2] at c3 hm2
    rw [hK4] at c0 kb3
    obtain ⟨p1, hp1⟩ : ∃ p, (es.length : Int) * K1 = p := ⟨_, rfl⟩
    obtain ⟨p2, hp2⟩ : ∃ p, W * ((n : Int) - 3) = p := ⟨_, rfl⟩
    obtain ⟨p4, hp4⟩ : ∃ p, t * ((n : Int) - 3) = p := ⟨_, rfl⟩
    have b1 : 0 ≤ p1 ∧ p1 ≤ 40 * 21 := by rw [← hp1]; exact ⟨Int.mul_nonneg (by omega) K1n, Int.mul_le_mul (by omega) (by omega) K1n (by omega)⟩
    have b2 : 0 ≤ p2 ∧ p2 ≤ (9 * 34359738368) * 6 := by rw [← hp2]; exact ⟨Int.mul_nonneg (by omega) (by omega), Int.mul_le_mul (by omega) (by omega) (by omega) (by omega)⟩
    have b4 : 0 ≤ p4 ∧ p4 ≤ 1000 * 6 := by rw [← hp4]; exact ⟨Int.mul_nonneg (by omega) (by omega), Int.mul_le_mul (by omega) (by omega) (by omega) (by omega)⟩
    rw [hp1] at c1
    rw [hp2] at c2 c3
    rw [hp4] at c4
    rw [c2] at c3
    obtain ⟨x3, hx3⟩ : ∃ x, C.getD 3 0 = x := ⟨_, rfl⟩
    rw [hx3] at c3
    obtain ⟨s1, hs1⟩ : ∃ s, p2 + x3 = s := ⟨_, rfl⟩
    obtain ⟨s2, hs2⟩ : ∃ s, p2 + K2 = s := ⟨_, rfl⟩
    have hs3 : s2 - W = s1 := by omega
    have bs : -10000000000000 ≤ s1 ∧ s1 ≤ 10000000000000 ∧ 0 ≤ s2 ∧ s2 ≤ 10000000000000 := by omega
    have a0 := at11v hiC HCL.out 0 (by omega) c0
    rw [Nat.add_zero] at a0
    have ch4 : ∀ w, Calls Tryd.prog 20 #[.int .i64 n, .int .i64 4] w fun e w' => e = .returned (.int .i64 (chS n 4)) ∧ Below w.heap.size w w' := fun w => choose_any n 4 w (by omega) (by omega)
    have ch2 := fun w => choose2 N2 w hN2b
    have chm := fun w => choose2 es.length w (by omega)
    rw [hK4] at ch4
    rw [hK1] at ch2
    rw [hK2] at chm
    have Z0 : ∀ z : Ext w8.heap.size w8, z.world.cell? ⟨b3, off3, none⟩ = some (.int .i64 K4) := fun z => (z.below.cell (p := ⟨b3, off3, none⟩) (cell_lt a0)).trans a0
    have zz : ∀ k, k < 11 → ∀ v, C.getD k 0 = v → ∀ z : Ext w8.heap.size w8, z.world.cell? ⟨b3, off3 + k, none⟩ = some (.int .i64 v) := fun k hk v hv z => at11v (hiC.below z.below) HCL.out k hk hv
    have Z1 := zz 1 (by omega) _ c1
    have Z2 := zz 2 (by omega) _ c2
    have Z3 := zz 3 (by omega) _ hx3
    have Z4 := zz 4 (by omega) _ c4
    have Z8 := zz 8 (by omega) _ c8
    have Z10 := zz 10 (by omega) _ c10
    have Y3 : ∀ z : Ext w8.heap.size w8, z.world.cell? ⟨b7, off7 + 3, none⟩ = some (.int .i64 q10) := fun z => at4v (hiD.below z.below) HD.out.1 3 (by omega) HD.out.2
    have v1 : IntKind.i64.wrap ((n : Int) - 2) = N2 := by rw [e2]; exact IntWalk.i64_in _ (by omega)
    have v2 : IntKind.i64.wrap ((es.length : Int) * K1) = p1 := by rw [hp1]; exact IntWalk.i64_in _ (by omega)
    have v3 : IntKind.i64.wrap ((n : Int) - 3) = (n : Int) - 3 := IntWalk.i64_in _ (by omega)
    have v4 : IntKind.i64.wrap (W * ((n : Int) - 3)) = p2 := by rw [hp2]; exact IntWalk.i64_in _ (by omega)
    have v5 : IntKind.i64.wrap (t * ((n : Int) - 3)) = p4 := by rw [hp4]; exact IntWalk.i64_in _ (by omega)
    have v6 : IntKind.i64.wrap (p2 + x3) = s1 := by rw [hs1]; exact IntWalk.i64_in _ (by omega)
    have v7 : IntKind.i64.wrap (p2 + K2) = s2 := by rw [hs2]; exact IntWalk.i64_in _ (by omega)
    have v8 : IntKind.i64.wrap (s2 - W) = s1 := by rw [hs3]; exact IntWalk.i64_in _ (by omega)
    have ht8 := ht.below hw
    clear c0 c1 c2 c3 hx3 c4 c8 c10 hK1 hK2 hK4 kb1 kb2 kb3 hm2 hmm hN2 h4 zz hp1 hp2 hp4 hs1 hs2 hs3 bs b1 b2 b4 e2 K1n K2n w0 w1 ht0 ht1 a0 HD HW HZ HP
    go_wp2_with fail
    refine wp_region_ext w8.heap.size w8 (by kernel_rfl) (by kernel_rfl) (Below.refl _ _) ?_
    simp only [List.append_eq, List.cons_append, List.nil_append]
    repeat (go_big_quiet_step (first
      | (go_at_call 20; first
        | with_reducible exact Calls.ext_of (Nat.le_refl _) (ch4 _)
        | with_reducible exact Calls.ext_of (Nat.le_refl _) (ch2 _)
        | with_reducible exact Calls.ext_of (Nat.le_refl _) (chm _))
      | (go_at_call 11; exact Calls.ext_of (Nat.le_refl _) (awake_any _ (ht8.below (Ext.below _))))))
    refine wpQuiet_nil ?_
    rintro wq ⟨⟨wq', hq⟩, hqq⟩
    obtain rfl : wq = wq' := hqq
    clear Z0 Z1 Z2 Z3 Z4 Z8 Z10 Y3
    go_wp2
    go_ret
    exact ⟨rfl, hw.trans (hq.mono hw.size)⟩
end Go.Proofs.YtdiackininlmeaaDoor

namespace Go.Proofs.YtdiackininlmeaaDoor.patternsCopies
open Go.ChangeShapes Go.WideShapes Go.ChangeAt Go.RowKit

theorem laid_met (os : Os) : laidMet Tryd.prog Rows.patternsCopiesRow.laid ((laidWorld os).forCall (fun _ _ => 0) ⟨#[], #[.slice none 0 0], []⟩).memory :=
  laidMet_of_run' 8 (by kernel_rfl) (by kernel_rfl)
theorem reads (os : Os) {H : Type} (enc : TypeId × Value → H) : ∃ places, DataW.whole enc Tryd.prog ((laidWorld os).forCall (fun _ _ => 0) ⟨#[], #[.slice none 0 0], []⟩).memory Tryd.f3.params.toList Rows.patternsCopiesSpec.vars false #[Value.slice none 0 0].toList 8 = some ([.nil], [], places) :=
  ⟨[], by kernel_rfl⟩

set_option maxRecDepth 100000 in
theorem lifted (os : Os) (started : os.Started) (H : Type) (enc : TypeId × Value → H) (F : Stop.Interp) :
    ReturnsInHanded {} Tryd.checked os 3 .any ((OpenSpec.ofChange Rows.patternsCopiesSpec).preRow enc Tryd.prog Tryd.f3 Rows.patternsCopiesRow.domain false Rows.patternsCopiesRow.laid) (((OpenSpec.ofChange Rows.patternsCopiesSpec).at F).post enc Tryd.prog Tryd.f3 false true false false) := by
  obtain ⟨places, hx⟩ := reads os enc
  refine returnsInHanded_of_row (C := Tryd.checked) (s := OpenSpec.ofChange Rows.patternsCopiesSpec) ownG started (by kernel_rfl) Tryd.func3
    (witness_row_at (enc := enc) (C := Tryd.checked) false (laidWorld os) #[.slice none 0 0] rfl (by kernel_rfl) (by kernel_rfl) (by kernel_rfl)
      (OpenSpec.preRow_of_cond 8 hx (by kernel_rfl) (fun k hk => by cases hk) (by kernel_rfl) (laid_met os))) ?_
  intro W base args ds gs before hval0 hW _ _ _ hL _ _
  have hval : ∀ (j : Nat) t v, Tryd.f3.params[j]? = some t → args[j]? = some v → Value.okWide Tryd.prog W .any base t v := hval0
  have hW' := hW
  obtain ⟨p, q, hA0, hV, rfl, hfz, hnd⟩ := hW
  have hA : DataW.TrodAll enc Tryd.prog W 0 (fun _ => true) true Tryd.f3.params.toList args.toList ds p := hA0
  rw [Tryd.params3] at hA hval
  obtain ⟨v0, vs0, d0, ds0, p0, q0, hargs, rfl, rfl, h0, r0⟩ := trodAll_cons hA
  obtain ⟨rfl, rfl, rfl⟩ := trodAll_nil r0
  obtain rfl : args = #[v0] := by cases args; simp_all
  obtain ⟨rfl, rfl⟩ := trodVars_none hV
  obtain ⟨a0, len0, cap0, rfl⟩ := okWide_slice Tryd.underlying22 (hval 0 22 v0 rfl rfl)
  have k0 := h0
  have lt0 : ∀ x ∈ p0, x.block < W.heap.size := by obtain ⟨m, hm⟩ := k0; exact DataW.trod_lt m _ _ _ hm
  clear hA0 hval0
  refine (copies_law a0 len0 cap0 W (list_of_trod h0) (tabs_of_laid hL)).mono fun e W' ⟨he, bel⟩ => ?_
  subst he
  exact ⟨_, rfl, _, _, _, [], _, [], hW', trodAll_mk1 (shut_bool Tryd.underlying4 _), (trodAll_cons_mk (Below.trod laidOutG (by kernel_rfl) (of_decide_eq_true (by kernel_rfl)) k0 bel lt0) trodAll_mk0), rfl, bel.frame _, fun h => by cases h⟩

theorem said : Rows.PatternsCopiesSaid :=
  OpenClaim.holds_of_cond 3 Tryd.f3 rfl rfl rfl rfl rfl rfl rfl ⟨rfl, rfl, rfl, rfl, rfl⟩ rfl rfl rfl rfl rfl (by kernel_rfl) Tryd.func3 (by kernel_rfl)
    (of_decide_eq_true (by kernel_rfl)) (by unfold Func.isWrapper; first | (rw [if_pos (by decide +kernel)]; kernel_rfl) | (rw [if_neg (by decide +kernel)]; exact ⟨rfl, rfl⟩))
    (fun os started H enc _ F => by rw [OpenClaim.pre_eq_preRow]; exact lifted os started H enc F)

theorem plain (f : FuncId) (fn : Func) (hf : Tryd.pinned.checked.prog.funcNamed "cohesion/cohesionlaw32.PatternsCopies" = some f) (hfn : Tryd.pinned.checked.prog.funcs[f]? = some fn) :
    false = Tryd.pinned.checked.prog.looks [] ∧ ∀ (j : Nat) t, fn.params[j]? = some t → Tryd.pinned.checked.prog.wantsStandIn t = false := by
  obtain rfl : f = 3 := Option.some.inj ((show Tryd.prog.funcNamed "cohesion/cohesionlaw32.PatternsCopies" = some 3 by kernel_rfl).symm.trans hf) |>.symm
  obtain rfl : fn = Tryd.f3 := (Option.some.inj (Tryd.func3.symm.trans hfn)).symm
  refine ⟨by kernel_rfl, fun j t ht => ?_⟩
  rw [Tryd.params3] at ht
  have hm := Array.mem_of_getElem? ht
  have ho : t = 22 := by simpa using hm
  subst ho
  exact (show Tryd.prog.wantsStandIn 22 = false by kernel_rfl)

/-- THE CARD. -/
theorem card : Rows.PatternsCopiesCardSaid :=
  Claim7.holds_tied_plain_at .later [] _ _ _ _ said (fun _ h => by cases h) (by kernel_rfl) (fun _ h => by cases h) patternsCopies_row_tie rfl ⟨rfl, rfl⟩ (by kernel_rfl) rfl plain (by kernel_rfl)
#print axioms card
end Go.Proofs.YtdiackininlmeaaDoor.patternsCopies
