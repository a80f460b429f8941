/- The walk of the law on the values of a pass. -/
import Derived.Test.YtdkmdcdoiaelfaaExSta
import Derived.Test.YtdkmdcdoiaelfaaRef09
import Derived.Test.YtdkmdcdoiaelfaaAppZ
namespace Go.Proofs.Ytdkmdcdoiaelfaa
open Go.RowKit Go.BigFrame

set_option maxRecDepth 100000 in
set_option maxHeartbeats 6400000 in
theorem values_law (a : Option Addr) (len cap : Nat) (av : Option Addr) (lenv capv : Nat) (xs : List Int) (w : World) (hl : ListAt w a len) (hxs : lenv ≤ 9 → IntsAt w (.slice av lenv capv) xs ∧ xs.length = lenv) :
    Calls Try.prog 6 #[.slice a len cap, .slice av lenv capv] w fun e w' => e = .returned (.bool true) ∧ Below w.heap.size w w' := by
  obtain ⟨B1, hB1⟩ : ∃ B, decide (len ≤ 500) = B := ⟨_, rfl⟩
  obtain ⟨B2, hB2⟩ : ∃ B, decide ((9 : Int) < (lenv : Int)) = B := ⟨_, rfl⟩
  have hB3 : decide (9 < lenv) = B2 := by rw [← hB2]; simp; omega
  by_cases hgo : B1 = true ∧ B2 = false
  case neg =>
    cases B1 <;> cases B2
    case true.false => exact absurd ⟨rfl, rfl⟩ hgo
    all_goals
      go_enter Try.func6, Try.ntmps6
      go_wp2_with (first
        | (go_at_call 14; refine (few_any _ _ _ _).mono ?_; rintro e w' ⟨rfl, rfl⟩)
        | (go_at_call 15; refine (awake36_any _).mono ?_; rintro e w' ⟨rfl, hb⟩))
      go_ret
      exact ⟨rfl, hb⟩
  case pos =>
  obtain ⟨rfl, rfl⟩ := hgo
  have hl9 : lenv ≤ 9 := by simp at hB3; omega
  obtain ⟨hxs1, hxl⟩ := hxs hl9
  subst hxl
  have hdk := deck_new (cap := cap) hl
  have hb1 : Below w.heap.size w (w.alloc (.cells #[.slice a len cap, .int .i64 0] 92)) := (Below.refl _ _).alloc (Nat.le_refl _) _
  go_enter Try.func6, Try.ntmps6
  go_wp2_with (first
    | (go_at_call 14; refine (few_any _ _ _ _).mono ?_; rintro e w' ⟨rfl, rfl⟩)
    | (go_at_call 17; refine (new_any _ _ _ _).mono ?_; rintro e w' ⟨rfl, rfl⟩)
    | (go_at_call 16; refine (mkgraph_any w.heap.size 9 _ hdk (by omega) (by omega)).mono ?_; rintro e w2 ⟨n0, es, a2, cap2, rfl, he2, hv, hn9, hd2, hg2, ho2⟩))
  have hb2 : Below w.heap.size w w2 := below_deck hb1 hg2 (Nat.le_refl _) hb1.size
  have hck := (valid_iff n0 es).2 hv
  obtain ⟨n, rfl⟩ := Int.eq_ofNat_of_zero_le hv.1
  have hn9 : n ≤ 9 := by omega
  have hxg := heap_alloc_new w2 (.cells #[.int .i64 n, .slice a2 es.length cap2] 27)
  have hbx3 := (Below.refl w2.heap.size w2).alloc (Nat.le_refl _) (.cells #[.int .i64 n, .slice a2 es.length cap2] 27)
  have hb3 := hb2.trans (hbx3.mono hb2.size)
  have he3 := he2.below hbx3
  obtain ⟨w3, hw3⟩ : ∃ W : World, W = w2.alloc (.cells #[.int .i64 n, .slice a2 es.length cap2] 27) := ⟨_, rfl⟩
  obtain ⟨Bg, hBg⟩ : ∃ B, w2.heap.size = B := ⟨_, rfl⟩
  rw [← hw3] at hxg hb3 he3
  rw [hBg] at hxg
  have HW3 := Lib.hid hw3
  have HBg := Lib.hid hBg
  have hx3 := hxs1.below hb3
  have hgr := graphR_rec hv (size := 3) (m := n) (by omega) (by omega) (by omega) (by omega)
  have hlen := recN_len es n
  have hnn : n * n ≤ 9 * 9 := Nat.mul_le_mul hn9 hn9
  have hbld : bldX n es 3 = (3, recN es n, 0) := by unfold bldX; rw [if_neg (by rw [hck]; simp), if_neg (by omega), Int.toNat_natCast]
  have hbu := fun W (h : Below w3.heap.size w3 W) => build34_any n a2 cap2 es 3 W (he3.below h)
  rw [hbld] at hbu
  unfold RGPost at hbu
  dsimp only at hbu
  obtain ⟨RS, hRS⟩ : ∃ R, recN es n = R := ⟨_, rfl⟩
  rw [hRS] at hbu hgr hlen
  have hl81 : RS.length ≤ 81 := by omega
  have hpas : ∀ X : List Int, X.length = n → passX 3 RS X = (passL es n X, 0) := fun X hX => by
    unfold passX
    rw [hX, hgr, if_neg (by simp)]
  have HPAS := Lib.hid hpas
  clear hpas hRS hlen hnn hbld hgr hck hb1 hdk hd2 hg2 ho2 he2 hb2 hbx3 hw3 hBg hxs1 hB1 hxs
  obtain ⟨g0, g1⟩ := cells2R hxg
  have gg : ∀ W : World, Below w3.heap.size w3 W → W.cell? ⟨Bg, 0, none⟩ = some (.int .i64 (n : Int)) := fun W h => (h.cell (p := ⟨Bg, 0, none⟩) (cell_lt g0)).trans g0
  have hbd := (Below.refl w3.heap.size w3).drew
  go_upto_region 4 with fail
  rw [← HW3.out, HBg.out]
  go_region_held3 (fun w' => w'.cell? ⟨Bg, 0, none⟩ = some (.int .i64 (n : Int)))
    (first | with_reducible exact gg _ hbd | with_reducible exact gg _ hb6 | with_reducible exact gg _ hb7)
    (first
      | (refine step_app_ints intsT rfl (.const (.slice none 0 0)) (.tmp 27) rfl w3.heap.size _ _ [] xs rfl (World.ownsRow_nil _ _ _ _) rfl (by exact hx3.below hbd) (by simp; omega) (by exact hbd.size) ?_; intro v6 w6 hown6 hg6; have hb6 := hbd.grown hg6 hbd.size (fun j e => by cases e))
      | (refine step_app_zeros intsT .i64 Try.underlying3 rfl (.tmp 28) (.const (.int .i64 9)) rfl w3.heap.size v6 ([] ++ xs) 9 rfl (by exact hown6) rfl (by omega) (by simp; omega) (by exact hb6.size) ?_; intro v7 w7 hown7 hg7; have hb7 := hb6.grown hg7 hb6.size (fun j e => (hown6.lt j e).1); obtain ⟨a7, c7, hv7, hi7, ha7⟩ := IntsAt.of_owns hown7 (by simp; omega); subst hv7; have hcp := (ints_caps9 hi7).1; have hnc : n ≤ c7 := (by simp at hcp; omega); clear hcp))
  have hV0 := hi7.take n (by simp; omega)
  obtain ⟨V, hV⟩ : ∃ V, ([] ++ xs ++ List.replicate 9 (0 : Int)).take n = V := ⟨_, rfl⟩
  have hVl : V.length = n := by rw [← hV]; simp; omega
  rw [hV] at hV0
  have HVL := Lib.hid hVl
  have hb07 := hb3.trans (hb7.mono hb3.size)
  have hxg7 := lit_next' hb7 hxg
  have he7 := he3.below hb7
  have hbu7 := hbu w7 hb7
  clear hV hVl hi7 ha7 hown7 hown6 hb6 hg6 hg7 hnc hbu gg hbd g0 g1 hb3 hxg he3 hb7 hx3
  obtain ⟨g0, g1⟩ := cells2R hxg7
  go_wp2_with fail
  refine hbu7.mono ?_
  rintro e w4 ⟨a4, c4, rfl, he4, -, hb4⟩
  have hb04 := hb07.trans (hb4.mono hb07.size)
  obtain ⟨hx5, hbx5⟩ := boxG_new w4 #[.int .i64 3, .slice a4 RS.length c4] 33
  have hb75 := hb4.trans (hbx5.mono hb4.size)
  have hb05 := hb04.trans (hbx5.mono hb04.size)
  have he5 := he4.below hbx5
  obtain ⟨w5, hw5⟩ : ∃ W : World, W = w4.alloc (.cells #[.int .i64 3, .slice a4 RS.length c4] 33) := ⟨_, rfl⟩
  obtain ⟨Bx, hBx⟩ : ∃ B, w4.heap.size = B := ⟨_, rfl⟩
  rw [← hw5] at hx5 hb75 hb05 he5
  rw [hBx] at hx5
  have HW5 := Lib.hid hw5
  have HBx := Lib.hid hBx
  have hxg5 := lit_next' hb75 hxg7
  have heg5 := he7.below hb75
  have hV5 := hV0.below hb75
  clear hw5 hBx hbx5 he4 hb4 hb04 hbu7 g0 g1 hxg7 he7 hV0 hb75 hb07
  obtain ⟨k0, k1⟩ := cells2R hx5
  have hpa := expass_any 3 a4 a7 c4 c7 RS V w5 he5 (by omega) (by rw [HVL.out]; exact hV5)
  rw [HPAS.out _ HVL.out] at hpa
  unfold TPost at hpa
  dsimp only at hpa
  rw [HVL.out, passL_length] at hpa
  go_upto_region 6 with fail
  rw [← HW5.out, HBx.out]
  go_wp2_with fail
  refine hpa.mono ?_
  rintro e w6 ⟨a6, c6, rfl, hi6, -, hb6⟩
  have hb06 := hb05.trans (hb6.mono hb05.size)
  have hxg6 := lit_next' hb6 hxg5
  have heg6 := heg5.below hb6
  have hV6 := hV5.below hb6
  obtain ⟨g0, g1⟩ := cells2R hxg6
  clear k0 k1 hpa hx5 hxg5 heg5 hV5 hb05 he5 hb6
  go_wp2_with fail
  clear g0 g1
  go_loopw [55] (fun vi wr => ∃ u : Nat, u ≤ n ∧ vi = .int .i64 u ∧ Below w6.heap.size w6 wr) (fun vi _ => n - (intOf vi).toNat)
  case atStart => exact ⟨0, Nat.zero_le _, rfl, Below.refl _ _⟩
  case round =>
    obtain ⟨u, hu, rfl, hb⟩ := hrel
    obtain ⟨wU, rfl⟩ : ∃ W : World, W = wr := ⟨_, rfl⟩
    by_cases hlt : u < n
    · have hlt3 : (u : Int) < n := by omega
      obtain ⟨g0, g1⟩ := cells2R (lit_next' hb hxg6)
      have hne := neigh_any n a2 cap2 es u wU (heg6.below hb) hv
      rw [neigh_eq hv] at hne
      obtain ⟨NB, hNB⟩ : ∃ N, (nbL es n u).map (fun (i : Nat) => (i : Int)) = N := ⟨_, rfl⟩
      have hpu := passL_getD es n V u hlt
      obtain ⟨NR, hNR⟩ : ∃ N, (nbL es n u).map (fun w => V.getD w 0) = N := ⟨_, rfl⟩
      have hnr : NR = NB.map fun z => V.getD z.toNat 0 := by rw [← hNR, ← hNB, List.map_map]; exact List.map_congr_left fun v _ => by simp
      have hnb : ∀ z ∈ NB, 0 ≤ z ∧ z < n := fun z hz => by
        rw [← hNB] at hz
        obtain ⟨v, hv2, rfl⟩ := List.mem_map.1 hz
        have : v < n := by unfold nbL at hv2; exact List.mem_range.1 (List.mem_filter.1 hv2).1
        omega
      have hnl : NB.length ≤ 64 := by
        rw [← hNB, List.length_map]
        have := nb_lt hv u hlt
        omega
      rw [hNR] at hpu
      rw [hNB] at hne
      have HNB := Lib.hid hnb
      have HNR := Lib.hid hnr
      have HPU := Lib.hid hpu
      clear hNB hNR hnr hnb hpu
      go_wp2_with fail
      refine hne.mono ?_
      rintro e w8 ⟨a8, c8, rfl, hi8, hb8⟩
      have hb68 := hb.trans (hb8.mono hb.size)
      clear g0 g1 hne
      go_wp2_with fail
      go_loopw [12, 62] (fun vx vj wr => ∃ (t : Nat) (X : List Int), t ≤ NB.length ∧ vj = .int .i64 t ∧ Hid (X = (NB.take t).map fun z => V.getD z.toNat 0) ∧ X.length ≤ t ∧ wr.ownsRow w8.heap.size 3 1 vx X.length (intsV X) ∧ Below w8.heap.size w8 wr) (fun _ vj _ => NB.length - (intOf vj).toNat)
      case atStart => exact ⟨0, [], Nat.zero_le _, rfl, (show _ = _ from rfl), Nat.le_refl _, World.ownsRow_nil _ _ _ _, Below.refl _ _⟩
      case round =>
        obtain ⟨t, X, ht, rfl, HX, hXt, hown, hbt⟩ := hrel
        obtain ⟨ao, co, hvo⟩ := owns_shape hown
        subst hvo
        obtain ⟨wT, rfl⟩ : ∃ W : World, W = wr := ⟨_, rfl⟩
        have hb6t := hb68.trans (hbt.mono hb68.size)
        by_cases hltt : t < NB.length
        · have hltt3 : (t : Int) < NB.length := by omega
          obtain ⟨b8, o8, z, rfl, hz, -, -, cz⟩ := (hi8.below hbt).at t hltt
          obtain ⟨hz0, hzn⟩ := HNB.out z (List.mem_of_getElem? hz)
          obtain ⟨v, rfl⟩ := Int.eq_ofNat_of_zero_le hz0
          have hvn : v < n := by omega
          obtain ⟨b7, o7, rfl, cv⟩ := ints_atn (hV6.below hb6t) HVL.out v hvn
          have HX2 : Hid (X ++ [V.getD v 0] = (NB.take (t + 1)).map fun z => V.getD z.toNat 0) := (show _ = _ by rw [take_at _ _ _ hz, List.map_append, ← HX.out]; simp)
          obtain ⟨Y, hY⟩ : ∃ Y, V.getD v 0 = Y := ⟨_, rfl⟩
          rw [hY] at cv HX2
          have hownA := hown.alloc (.cells #[.int .i64 Y] 3)
          have hbA := hbt.alloc hbt.size (.cells #[.int .i64 Y] 3)
          have hlA := ints_lit1 wT Y 3
          clear hz hY hz0 HX
          go_wp2_with (at_builtin; refine wpList_app_ints intsT rfl _ _ rfl w8.heap.size (.slice ao X.length co) _ X [Y] rfl ?_ rfl ?_ ?_ ?_ ?_)
          case refine_1 => exact hownA
          case refine_2 => exact hlA
          case refine_3 => simp; omega
          case refine_4 => exact hbA.size
          intro v9 w9 hown9 hg9
          have hb9 := hbA.grown hg9 hbA.size (fun j e => (hownA.lt j e).1)
          have hXl : (X ++ [Y]).length ≤ t + 1 := by simp; omega
          go_wp2_with fail
          go_roundw
          case rel => exact ⟨t + 1, X ++ [Y], by omega, by go_num, HX2, hXl, (by first | exact hown9 | (rw [List.length_append]; exact hown9)), hb9⟩
          case measure => simp [intOf]; omega
        · obtain rfl : t = NB.length := by omega
          have hXN : X = NR := by rw [HX.out, List.take_length]; exact HNR.out.symm
          obtain ⟨a5, c5, e5, hiX, -⟩ := IntsAt.of_owns hown (by omega)
          cases e5
          obtain ⟨b7, o7, rfl, cv⟩ := ints_atn (hV6.below hb6t) HVL.out u hlt
          obtain ⟨b6, o6, rfl, cp⟩ := ints_atn (hi6.below hb6t) (passL_length es n V) u hlt
          rw [HPU.out, ← hXN] at cp
          obtain ⟨Y, hY⟩ : ∃ Y, V.getD u 0 = Y := ⟨_, rfl⟩
          rw [hY] at cv cp
          obtain ⟨H, hH⟩ : ∃ H, hX X = H := ⟨_, rfl⟩
          have hh9 := fun W (h : Below wT.heap.size wT W) => h09_any ao co X W (by omega) (falling_any ao co X W (hiX.below h) (by omega))
          rw [hH] at cp hh9
          have hss : (min Y (H : Int) == min Y (H : Int)) = true := by simp
          obtain ⟨M, hM⟩ : ∃ M, min Y (H : Int) = M := ⟨_, rfl⟩
          rw [hM] at cp
          have hbd := (Below.refl wT.heap.size wT).drew
          have hhd := hh9 _ hbd
          have hS : ∀ W : World, Below wT.heap.size wT W → W.cell? ⟨b7, o7 + u, none⟩ = some (.int .i64 Y) ∧ W.cell? ⟨b6, o6 + u, none⟩ = some (.int .i64 M) := fun W h => ⟨(h.cell (p := ⟨b7, o7 + u, none⟩) (cell_lt cv)).trans cv, (h.cell (p := ⟨b6, o6 + u, none⟩) (cell_lt cp)).trans cp⟩
          clear hY hH hXN HX hown hh9
          go_wp2_with fail
          go_region_held3 (fun w' => w'.cell? ⟨b7, o7 + u, none⟩ = some (.int .i64 Y) ∧ w'.cell? ⟨b6, o6 + u, none⟩ = some (.int .i64 M))
            (first | with_reducible exact hS _ hbd | with_reducible exact hS _ hbH)
            (first | (go_at_call 28; (with_reducible refine hhd.mono ?_); rintro e w9 ⟨rfl, hb9⟩; have hbH := hbd.trans (hb9.mono hbd.size)))
          have hbe := hb6t.trans (hbH.mono hb6t.size)
          go_wp2_with fail
          go_roundw
          case rel => exact ⟨u + 1, by omega, by go_num, hbe⟩
          case measure => simp [intOf]; omega
    · obtain rfl : u = n := by omega
      have hbe := hb06.trans (hb.mono hb06.size)
      go_wp2_with fail
      refine (awake36_any _).mono ?_
      rintro e w13 ⟨rfl, hb13⟩
      have hbe4 := hbe.trans (hb13.mono hbe.size)
      go_wp2_with fail
      go_ret
      exact ⟨rfl, hbe4⟩
end Go.Proofs.Ytdkmdcdoiaelfaa
