/- The walk of the law on external.Cores: passes lead to the core numbers. -/
import Derived.Test.YtdkmdcdoiaelfaaExRdsP
import Derived.Test.YtdkmdcdoiaelfaaExAwk
import Derived.Test.YtdkmdcdoiaelfaaMkGraph
import Derived.Test.YtdkmdcdoiaelfaaRef10
import Derived.Test.YtdkmdcdoiaelfaaRef03
import Derived.Deep.RegionWith
namespace Go.Proofs.Ytdkmdcdoiaelfaa
open Go.RowKit Go.BigFrame

theorem ints_atn {w : World} {a : Option Addr} {cap n : Nat} {xs : List Int} (h : IntsAt w (.slice a n cap) xs) (hl : xs.length = n) (k : Nat) (hk : k < n) : ∃ b off, a = some ⟨b, off, none⟩ ∧ w.cell? ⟨b, off + k, none⟩ = some (.int .i64 (xs.getD k 0)) := by
  have h' : IntsAt w (.slice a xs.length cap) xs := by rw [hl]; exact h
  obtain ⟨b, off, y, ha, hy, _, hc⟩ := h'.at' k (by omega)
  exact ⟨b, off, ha, by rw [hc, List.getD_eq_getElem?_getD, hy]; rfl⟩
theorem corT_at {es : List E2} {n k : Nat} (h : k < n) : (corT es n).getD k 0 = corF es n k := getD_of (fnL_get n _ k h)
theorem degree3_any (n : Nat) (a : Option Addr) (cap : Nat) (es : List E2) (v : Nat) (w : World) (he : EdgesAt w (.slice a es.length cap) es) (hv : Valid n es) :
    Calls Try.prog 23 #[.agg #[.int .i64 n, .slice a es.length cap], .int .i64 v] w fun e w' => e = .returned (.int .i64 ((nbL es n v).length : Nat)) ∧ Below w.heap.size w w' := by
  obtain ⟨hx, hb⟩ := boxG_new w #[.int .i64 n, .slice a es.length cap] 27
  have hne := neigh_any n a cap es v _ (he.below hb) hv
  rw [neigh_eq hv] at hne
  have hll : ((nbL es n v).map fun (i : Nat) => (i : Int)).length = (nbL es n v).length := by simp
  generalize hR : ((nbL es n v).map fun (i : Nat) => (i : Int)) = R at *
  obtain ⟨L, hL⟩ : ∃ L, (nbL es n v).length = L := ⟨_, rfl⟩
  rw [hL] at hll ⊢
  clear hR hL
  obtain ⟨k0, k1⟩ := cells2R hx
  go_enter Try.func23, Try.ntmps23
  go_wp2_with fail
  refine hne.mono ?_
  rintro e w2 ⟨a2, c2, rfl, -, hb2⟩
  have hbe := hb.trans (hb2.mono hb.size)
  go_wp2_with fail
  go_ret
  exact ⟨rfl, hbe⟩
set_option maxRecDepth 100000 in
set_option maxHeartbeats 6400000 in
theorem cores_law (a : Option Addr) (len cap : Nat) (x : Nat) (w : World) (hl : ListAt w a len) (hx : x < 256) :
    Calls Try.prog 4 #[.slice a len cap, .int .u8 x] w fun e w' => e = .returned (.bool true) ∧ Below w.heap.size w w' := by
  by_cases hfew : len ≤ 500
  case neg =>
    have hd : decide (len ≤ 500) = false := by simpa using hfew
    go_enter Try.func4, Try.ntmps4
    go_wp2_with (first
      | (go_at_call 14; refine (few_any _ _ _ _).mono ?_; rintro e w' ⟨rfl, rfl⟩)
      | (go_at_call 15; refine (awake36_any _).mono ?_; rintro e w' ⟨rfl, hb⟩))
    go_ret
    exact ⟨rfl, hb⟩
  case pos =>
  have hd : decide (len ≤ 500) = true := by simpa using hfew
  have hdk := deck_new (cap := cap) hl
  have hb1 : Below w.heap.size w (w.alloc (.cells #[.slice a len cap, .int .i64 0] 92)) := (Below.refl _ _).alloc (Nat.le_refl _) _
  obtain ⟨b, hb⟩ : ∃ b, x % 9 = b := ⟨_, rfl⟩
  have hb9 : b < 9 := by omega
  have e1 : ((x : Int)) % 9 = (b : Int) := by omega
  obtain ⟨G, hG⟩ : ∃ G, 1 + b = G := ⟨_, rfl⟩
  have e3 : (1 : Int) + (b : Int) = (G : Int) := by omega
  have hG1 : 1 ≤ G := by omega
  have hG2 : G ≤ 9 := by omega
  clear hb hG
  go_enter Try.func4, Try.ntmps4
  go_wp2_with (first
    | (go_at_call 14; refine (few_any _ _ _ _).mono ?_; rintro e w' ⟨rfl, rfl⟩)
    | (go_at_call 17; refine (new_any _ _ _ _).mono ?_; rintro e w' ⟨rfl, rfl⟩)
    | (go_at_call 16; refine (mkgraph_any w.heap.size 9 _ hdk (by omega) (by omega)).mono ?_; rintro e w2 ⟨n0, es, a2, cap2, rfl, he2, hv, hn9, hd2, hg2, ho2⟩))
  have hb2 : Below w.heap.size w w2 := below_deck hb1 hg2 (Nat.le_refl _) hb1.size
  have hck := (valid_iff n0 es).2 hv
  obtain ⟨n, rfl⟩ := Int.eq_ofNat_of_zero_le hv.1
  have hn9 : n ≤ 9 := by omega
  have hxg := heap_alloc_new w2 (.cells #[.int .i64 n, .slice a2 es.length cap2] 27)
  have hbx3 := (Below.refl w2.heap.size w2).alloc (Nat.le_refl _) (.cells #[.int .i64 n, .slice a2 es.length cap2] 27)
  have hb3 := hb2.trans (hbx3.mono hb2.size)
  have he3 := he2.below hbx3
  obtain ⟨w3, hw3⟩ : ∃ W : World, W = w2.alloc (.cells #[.int .i64 n, .slice a2 es.length cap2] 27) := ⟨_, rfl⟩
  obtain ⟨Bg, hBg⟩ : ∃ B, w2.heap.size = B := ⟨_, rfl⟩
  rw [← hw3] at hxg hb3 he3
  rw [hBg] at hxg
  have HW3 := Lib.hid hw3
  have HBg := Lib.hid hBg
  have hbu := build34_any n a2 cap2 es G w3 he3
  have hgr := graphR_rec hv (size := G) (m := n) (by omega) (by omega) (by omega) (by omega)
  have hlen := recN_len es n
  have hnn : n * n ≤ 9 * 9 := Nat.mul_le_mul hn9 hn9
  have hbld : bldX n es G = ((G : Int), recN es n, 0) := by unfold bldX; rw [if_neg (by rw [hck]; simp), if_neg (by omega), Int.toNat_natCast]
  rw [hbld] at hbu
  unfold RGPost at hbu
  dsimp only at hbu
  obtain ⟨RS, hRS⟩ : ∃ R, recN es n = R := ⟨_, rfl⟩
  rw [hRS] at hbu hgr hlen
  have hl81 : RS.length ≤ 81 := by omega
  obtain ⟨p, hcx, hp1, hp2, hpi⟩ := corsX_spec hv
  have hsd := sumD_le hv (x := degL es n) (fun v _ => Int.le_refl _)
  have hnn2 : n * (n - 1) ≤ 9 * 8 := Nat.mul_le_mul hn9 (by omega)
  have hpb : p ≤ 100 := by omega
  have hcor : corXR G n RS = (corT es n, (p : Int), 0) := by
    unfold corXR
    rw [hgr, if_neg (by simp), Int.toNat_natCast, hcx]
  have hdeg : degXR G n RS = (degL es n, 0) := by
    unfold degXR
    rw [hgr, if_neg (by simp), Int.toNat_natCast]
  have hnum : corX n es = (corT es n, 0) := by unfold corX; rw [if_neg (by rw [hck]; simp), Int.toNat_natCast]
  have hpas : ∀ X : List Int, X.length = n → passX G RS X = (passL es n X, 0) := fun X hX => by
    unfold passX
    rw [hX, hgr, if_neg (by simp)]
  have HP2 := Lib.hid hp2
  have HPI := Lib.hid hpi
  have HCOR := Lib.hid hcor
  have HDEG := Lib.hid hdeg
  have HNUM := Lib.hid hnum
  have HPAS := Lib.hid hpas
  have HGE := Lib.hid (itL_ge hv (degL_ge hv))
  clear hcx hp2 hpi hcor hdeg hnum hpas hsd hnn2 hRS hlen hnn hbld hgr hck hb1 hdk hd2 hg2 ho2 he2 hb2 hbx3 hw3 hBg
  obtain ⟨g0, g1⟩ := cells2R hxg
  go_upto_region 4 with fail
  rw [← HW3.out, HBg.out]
  go_wp2_with fail
  refine hbu.mono ?_
  rintro e w4 ⟨a4, c4, rfl, he4, -, hb4⟩
  have hb04 := hb3.trans (hb4.mono hb3.size)
  obtain ⟨hx5, hbx5⟩ := boxG_new w4 #[.int .i64 G, .slice a4 RS.length c4] 33
  have hb35 := hb4.trans (hbx5.mono hb4.size)
  have hb05 := hb04.trans (hbx5.mono hb04.size)
  have he5 := he4.below hbx5
  obtain ⟨w5, hw5⟩ : ∃ W : World, W = w4.alloc (.cells #[.int .i64 G, .slice a4 RS.length c4] 33) := ⟨_, rfl⟩
  obtain ⟨Bx, hBx⟩ : ∃ B, w4.heap.size = B := ⟨_, rfl⟩
  rw [← hw5] at hx5 hb35 hb05 he5
  rw [hBx] at hx5
  have HW5 := Lib.hid hw5
  have HBx := Lib.hid hBx
  clear hw5 hBx hbx5 he4 hb4 hb04 hbu
  have hxg5 := lit_next' hb35 hxg
  have heg5 := he3.below hb35
  clear g0 g1 hxg he3 hb35 hb3
  obtain ⟨g0, g1⟩ := cells2R hxg5
  obtain ⟨k0, k1⟩ := cells2R hx5
  have hco := excor_any G n a4 c4 RS w5 he5 (by omega)
  rw [HCOR.out] at hco
  unfold CPost at hco
  dsimp only at hco
  rw [corT_length] at hco
  go_upto_region 5 with fail
  rw [← HW5.out, HBx.out]
  go_wp2_with fail
  refine hco.mono ?_
  rintro e w6 ⟨a6, c6, rfl, hi6, -, hb6⟩
  have hb06 := hb05.trans (hb6.mono hb05.size)
  clear g0 g1 k0 k1 hco
  have hxg6 := lit_next' hb6 hxg5
  have hx6 := lit_next' hb6 hx5
  obtain ⟨g0, g1⟩ := cells2R hxg6
  obtain ⟨k0, k1⟩ := cells2R hx6
  have hnu := rnumbers10_any n a2 cap2 es w6 (heg5.below hb6)
  rw [HNUM.out] at hnu
  unfold TPost at hnu
  dsimp only at hnu
  rw [corT_length] at hnu
  go_wp2_with fail
  refine hnu.mono ?_
  rintro e w7 ⟨a7, c7, rfl, hi7, -, hb7⟩
  have hb57 := hb6.trans (hb7.mono hb6.size)
  have hb07 := hb06.trans (hb7.mono hb06.size)
  clear g0 g1 k0 k1 hnu
  have hxg7 := lit_next' hb7 hxg6
  have hx7 := lit_next' hb7 hx6
  obtain ⟨g0, g1⟩ := cells2R hxg7
  obtain ⟨k0, k1⟩ := cells2R hx7
  have hde := exdeg_any G n a4 c4 RS w7 (he5.below hb57) (by omega)
  rw [HDEG.out] at hde
  unfold TPost at hde
  dsimp only at hde
  rw [degL_length] at hde
  go_wp2_with fail
  refine hde.mono ?_
  rintro e w8 ⟨a8, c8, rfl, hi8, -, hb8⟩
  have hb58 := hb57.trans (hb8.mono hb57.size)
  have hb08 := hb07.trans (hb8.mono hb07.size)
  clear g0 g1 k0 k1 hde
  have hxg8 := lit_next' hb8 hxg7
  have hx8 := lit_next' hb8 hx7
  have he8 := he5.below hb58
  have heg8 := heg5.below hb58
  have hc8 := hi6.below (hb7.trans (hb8.mono hb7.size))
  have hn8 := hi7.below hb8
  clear hxg7 hx7 hxg6 hx6 hxg5 hx5 hb57 hb58 hb07 hb06 hb05 hb7 hb8 hb6 hi6 hi7 he5 heg5
  go_wp2_with fail
  obtain ⟨FD, hFD⟩ : ∃ F : Nat → Nat, (fun v => ((degL es n).getD v 0 - corF es n v).toNat) = F := ⟨_, rfl⟩
  have HFD : Hid (∀ v, FD v = ((degL es n).getD v 0 - corF es n v).toNat) := (show ∀ v, _ from fun v => by rw [← hFD])
  have hsf : sumD es n (degL es n) = sumR n FD := by unfold sumD; rw [hFD]
  have HSF := Lib.hid hsf
  clear hFD hsf
  go_loopw [15, 59] (fun vf vi wr => ∃ k f : Nat, k ≤ n ∧ vi = .int .i64 k ∧ vf = .int .i64 f ∧ Hid (f = 1 + sumR k FD) ∧ f ≤ 1 + k * 64 ∧ Below w8.heap.size w8 wr) (fun _ vi _ => n - (intOf vi).toNat)
  case atStart => exact ⟨0, 1, Nat.zero_le _, rfl, rfl, (show _ = _ from rfl), Nat.le_refl _, Below.refl _ _⟩
  case round =>
    obtain ⟨k, f, hk, rfl, rfl, HF, hfb, hb⟩ := hrel
    by_cases hlt : k < n
    · have hlt3 : (k : Int) < n := by omega
      obtain ⟨bc, oc, rfl, cc0⟩ := ints_atn (hn8.below hb) (corT_length es n) k hlt
      rw [corT_at hlt] at cc0
      obtain ⟨c, hcv⟩ : ∃ c, c = corF es n k := ⟨_, rfl⟩
      rw [← hcv] at cc0
      have hcd := degL_ge hv k hlt
      rw [degL_getD es n k hlt, ← hcv] at hcd
      obtain ⟨C, hC⟩ := cor_nat es n k hlt
      rw [← hcv] at hC
      have hfd : FD k = (nbL es n k).length - C := by rw [HFD.out, degL_getD es n k hlt, ← hcv, hC]; omega
      have hnl := nb_lt hv k hlt
      subst hC
      obtain ⟨D, hD⟩ : ∃ D, (nbL es n k).length = D := ⟨_, rfl⟩
      have hdg := fun W (h : Below w8.heap.size w8 W) => degree3_any n a2 cap2 es k W (heg8.below h) hv
      rw [hD] at hfd hcd hnl hdg
      have hCD : C ≤ D := by omega
      have hD64 : D ≤ 64 := by omega
      have HF2 : Hid (f + (D - C) = 1 + sumR (k + 1) FD) := (show _ = _ by rw [HF.out]; show _ = 1 + (sumR k FD + FD k); rw [hfd]; omega)
      obtain ⟨E, hE⟩ : ∃ E, D - C = E := ⟨_, rfl⟩
      have hEE : (D : Int) - (C : Int) = (E : Int) := by omega
      have hE64 : E ≤ 64 := by omega
      rw [hE] at HF2
      obtain ⟨g0, g1⟩ := cells2R (lit_next' hb hxg8)
      have hbd := hb.drew
      have hcd1 := hdg _ hbd
      have hfz := fun (W : World) (h : Below wr.drew.heap.size wr.drew W) => (h.cell (p := ⟨bc, oc + k, none⟩) (cell_lt cc0)).trans cc0
      clear hcv hcd hfd hnl hD hE HF hdg
      go_wp2_with fail
      go_region_with (go_at_call 23; refine hcd1.mono ?_; rintro e w9 ⟨rfl, hb9⟩; have cc9 := hfz w9 hb9; have hb10 := hbd.trans (hb9.mono hbd.size))
      all_goals
        go_wp2_with fail
        go_roundw
        case rel => exact ⟨k + 1, f + E, by omega, by go_num, by go_num, HF2, by omega, hb10⟩
        case measure => simp [intOf]; omega
    · obtain rfl : k = n := by omega
      have hpf : p ≤ f := by
        have := HP2.out
        rw [HSF.out] at this
        rw [HF.out]; omega
      have hx9 := lit_next' hb hx8
      have hb09 := hb08.trans (hb.mono hb08.size)
      have he9 := he8.below hb
      have hi9 := hi8.below hb
      have hn9w := hn8.below hb
      have hc9 := hc8.below hb
      obtain ⟨w9, rfl⟩ : ∃ W : World, W = wr := ⟨_, rfl⟩
      have hi90 : IntsAt w9 (.slice a8 k c8) (itL es k (degL es k) 0) := hi9
      have hxl := itL_length es k (degL es k) (degL_length es k)
      obtain ⟨IT, hIT⟩ : ∃ F : Nat → List Int, itL es k (degL es k) = F := ⟨_, rfl⟩
      have HST : Hid (∀ i, IT (i + 1) = passL es k (IT i)) := (show ∀ i, _ from fun i => by rw [← hIT]; rfl)
      rw [hIT] at hi90 hxl
      have HGE2 := HGE.out
      rw [hIT] at HGE2
      have HGE3 : Hid (∀ i v, v < k → corF es k v ≤ (IT i).getD v 0) := HGE2
      have HPI2 := HPI.out
      rw [hIT] at HPI2
      have HPI3 : Hid (IT p = corT es k) := HPI2
      clear hIT HF HFD HSF hi9 hi8 hn8 hc8 he8 hx8 hb08 hb HGE HPI HGE2 HPI2 heg8 hxg8
      go_wp2_with fail
      go_loopw [13, 17] (fun vx vi wr => ∃ (i : Nat) (ax : Option Addr) (cx : Nat), i ≤ p ∧ vi = .int .i64 i ∧ vx = .slice ax k cx ∧ IntsAt wr (.slice ax k cx) (IT i) ∧ Below w9.heap.size w9 wr) (fun _ vi _ => p - (intOf vi).toNat)
      case atStart => exact ⟨0, a8, c8, Nat.zero_le _, rfl, rfl, hi90, Below.refl _ _⟩
      case round =>
        clear hi90
        obtain ⟨i, ax, cx, hip, rfl, rfl, hix, hbi⟩ := hrel
        obtain ⟨wi, rfl⟩ : ∃ W : World, W = wr := ⟨_, rfl⟩
        obtain ⟨k0, k1⟩ := cells2R (lit_next' hbi hx9)
        by_cases hlti : i < p
        · have hlti3 : (i : Int) < p := by omega
          have hpa := expass_any G a4 ax c4 cx RS (IT i) wi (he9.below hbi) (by omega) (by rw [hxl i]; exact hix)
          rw [HPAS.out _ (hxl i), ← HST.out] at hpa
          unfold TPost at hpa
          dsimp only at hpa
          rw [hxl i, hxl (i + 1)] at hpa
          go_wp2_with fail
          refine hpa.mono ?_
          rintro e w10 ⟨ay, cy, rfl, hiy, -, hb10⟩
          have hbi2 := hbi.trans (hb10.mono hbi.size)
          have hix2 := hix.below hb10
          go_wp2_with fail
          go_loopw [95] (fun vj wr2 => ∃ j : Nat, j ≤ k ∧ vj = .int .i64 j ∧ Below w10.heap.size w10 wr2) (fun vj _ => k - (intOf vj).toNat)
          case atStart => exact ⟨0, Nat.zero_le _, rfl, Below.refl _ _⟩
          case round =>
            obtain ⟨j, hj, rfl, hbj⟩ := hrel
            by_cases hltj : j < k
            · have hltj3 : (j : Int) < k := by omega
              obtain ⟨b1, o1, rfl, y0⟩ := ints_atn (hiy.below hbj) (hxl (i + 1)) j hltj
              obtain ⟨b2, o2, rfl, x0⟩ := ints_atn (hix2.below hbj) (hxl i) j hltj
              obtain ⟨b3, o3, rfl, z0⟩ := ints_atn ((hn9w.below hbi2).below hbj) (corT_length es k) j hltj
              rw [corT_at hltj] at z0
              have r1 := pass_le es k (IT i) j hltj
              rw [← HST.out] at r1
              have r2 := HGE3.out (i + 1) j hltj
              obtain ⟨Y, hY⟩ : ∃ Y, (IT (i + 1)).getD j 0 = Y := ⟨_, rfl⟩
              obtain ⟨X, hX⟩ : ∃ Y, (IT i).getD j 0 = Y := ⟨_, rfl⟩
              obtain ⟨Z, hZ⟩ : ∃ Y, corF es k j = Y := ⟨_, rfl⟩
              rw [hY] at y0 r1 r2
              rw [hX] at x0 r1
              rw [hZ] at z0 r2
              have q1 : decide (X < Y) = false := by simp; omega
              have q2 : decide (Y < Z) = false := by simp; omega
              clear hY hX hZ r1 r2
              go_wp2_with fail
              go_quiet (fail)
              have hbj2 := hbj.drewN nq
              go_wp2_with fail
              go_roundw
              case rel => exact ⟨j + 1, by omega, by go_num, hbj2⟩
              case measure => simp [intOf]; omega
            · obtain rfl : j = k := by omega
              have hbi3 := hbi2.trans (hbj.mono hbi2.size)
              have hiy3 := hiy.below hbj
              go_wp2_with fail
              go_roundw
              case rel => exact ⟨i + 1, ay, cy, by omega, by go_num, rfl, hiy3, hbi3⟩
              case measure => simp [intOf]; omega
        · obtain rfl : i = p := by omega
          have hbe := hb09.trans (hbi.mono hb09.size)
          rw [HPI3.out] at hix
          have hl6 : IntsAt wi (.slice a6 (corT es k).length c6) (corT es k) := by rw [corT_length]; exact hc9.below hbi
          have hl7 : IntsAt wi (.slice a7 (corT es k).length c7) (corT es k) := by rw [corT_length]; exact hn9w.below hbi
          have hlx : IntsAt wi (.slice ax (corT es k).length cx) (corT es k) := by rw [corT_length]; exact hix
          have hs1 := icmp_same a6 a7 c6 c7 (corT es k) wi hl6 hl7
          have hs2 := fun W (h : Below wi.heap.size wi W) => icmp_same ax a7 cx c7 (corT es k) W (hlx.below h) (hl7.below h)
          rw [corT_length] at hs1 hs2
          have q1 : decide ((1 : Int) ≤ i) = true := by simp; omega
          have q3 : decide ((1 : Nat) ≤ i) = true := by simp; omega
          have q2 : decide ((i : Int) ≤ f) = true := by simp; omega
          have q4 : decide (i ≤ f) = true := by simp; omega
          clear hl6 hl7 hlx hix
          go_wp2_with fail
          refine hs1.mono ?_
          rintro e w11 ⟨rfl, hb11⟩
          have hbe2 := hbe.trans (hb11.mono hbe.size)
          go_wp2_with fail
          refine (hs2 _ hb11).mono ?_
          rintro e w12 ⟨rfl, hb12⟩
          have hbe3 := hbe2.trans (hb12.mono hbe2.size)
          go_wp2_with fail
          refine (awake36_any _).mono ?_
          rintro e w13 ⟨rfl, hb13⟩
          have hbe4 := hbe3.trans (hb13.mono hbe3.size)
          go_wp2_with fail
          go_ret
          exact ⟨rfl, hbe4⟩
end Go.Proofs.Ytdkmdcdoiaelfaa
