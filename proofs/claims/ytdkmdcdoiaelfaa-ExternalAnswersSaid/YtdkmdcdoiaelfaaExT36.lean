/- The contracts of ref36.Supports and ref36.Triangles (printed by wip/mkext.py). -/
import Derived.Test.YtdkmdcdoiaelfaaExR36
import Derived.Test.YtdkmdcdoiaelfaaExTri
import Derived.Test.YtdkmdcdoiaelfaaExTriQ
namespace Go.Proofs.Ytdkmdcdoiaelfaa
open Go.RowKit Go.BigFrame

theorem rowR_asc36 {n : Nat} {es : List E2} (hv : Valid n es) (v : Nat) : (rowR (recN es n) v).Pairwise (· ≤ ·) := by
  by_cases h : v < n
  · rw [row_nb es n v h]
    exact (asc_range _ n).imp (fun h => by omega)
  · have h0 : rowR (recN es n) v = [] := by
      rw [List.eq_nil_iff_forall_not_mem]
      intro w hw
      have h1 := recN_lt hv _ ((rowR_in _ _ _).1 hw)
      dsimp only at h1
      omega
    rw [h0]; exact List.Pairwise.nil
theorem recN_fil {n : Nat} {es : List E2} (hv : Valid n es) : (recN es n).filter (fun e => !decide (e.2 < e.1)) = es := by
  refine (List.filter_congr fun e he => ?_).trans (recN_up hv)
  have := (recOk_iff e).1 (recN_ok hv e he).1
  rw [Bool.eq_iff_iff]
  simp only [Bool.not_eq_true', decide_eq_false_iff_not, decide_eq_true_eq]
  omega
/-- the supports in terms of the graph -/
theorem supL_es {n : Nat} {es : List E2} (hv : Valid n es) : supL (recN es n) (recN es n) = es.map fun e => (e, (cmL es n e.1.toNat e.2.toNat).length) := by
  unfold supL
  rw [recN_fil hv]
  refine List.map_congr_left fun e he => ?_
  have h1 := hv.2.2.1 e he
  unfold Ins at h1
  unfold supE cntB
  rw [List.take_length, sup_cm es n e.1.toNat e.2.toNat (by omega) (by omega)]
theorem rdsL_es {n S : Nat} {es : List E2} (hv : Valid n es) : rdsL S (recN es n) (recN es n) = (es.map fun e => rdsN S (recN es n) e.1 + rdsN S (recN es n) e.2).sum := by
  unfold rdsL
  rw [recN_fil hv]
theorem sum_take {α : Type} (f : α → Nat) (l : List α) (k : Nat) (x : α) (h : l[k]? = some x) : ((l.take (k + 1)).map f).sum = ((l.take k).map f).sum + f x := by
  rw [take_at _ _ _ h]; simp
set_option maxRecDepth 100000 in
set_option maxHeartbeats 6400000 in
theorem r36sup_any (size : Int) (C : Int) (a : Option Addr) (cap : Nat) (rs : List E2) (w : World) (he : EdgesAt w (.slice a rs.length cap) rs) (hl : rs.length ≤ 10000) (hC : (graphR size 64 rs).2.2 = C) :
    Calls Try.prog 43 #[.agg #[.int .i64 size, .slice a rs.length cap]] w (if C = 0 then SPostR w (supL rs rs) 0 (rdsL size.toNat rs rs) else SPostR w [] C 0) := by
  obtain ⟨hxA, hb0⟩ := boxG_new w #[.int .i64 size, .slice a rs.length cap] 33
  obtain ⟨wA, hwA⟩ : ∃ W : World, W = w.alloc (.cells #[.int .i64 size, .slice a rs.length cap] 33) := ⟨_, rfl⟩
  rw [← hwA] at hxA hb0
  have HWA := Lib.hid hwA
  clear hwA
  have hgr := graph34_any size 64 a cap rs wA (he.below hb0) (by omega)
  obtain ⟨⟨k, es, C'⟩, hG⟩ : ∃ F, graphR size 64 rs = F := ⟨_, rfl⟩
  rw [hG] at hgr hC
  dsimp only at hC
  subst hC
  unfold RGPost at hgr
  dsimp only at hgr
  obtain ⟨k0, k1⟩ := cells2R hxA
  by_cases hz : C' = 0
  case neg =>
    rw [if_neg hz]
    unfold SPostR
    have d1 : (C' != 0) = true := by simpa using hz
    clear hz hG
    go_enter Try.func43, Try.ntmps43
    go_wp2_with (rw [← HWA.out])
    refine hgr.mono ?_
    rintro e w1 ⟨ag, cg, rfl, -, -, hb1⟩
    have hb01 := hb0.trans (hb1.mono hb0.size)
    go_wp2_with fail
    go_ret3
    exact ⟨none, 0, rfl, rowT_nil _, fun p h => (by cases h), hb01.alloc hb01.size _⟩
  subst hz
  rw [if_pos rfl]
  have hck0 := hG
  obtain ⟨n, -, rfl, hv, hrs, hs1, hs2⟩ := graphR_of hG
  obtain ⟨S, rfl⟩ := Int.eq_ofNat_of_zero_le (show 0 ≤ size by omega)
  have hck : chkR (S : Int) rs = 0 := by
    unfold graphR at hck0
    by_cases h : chkR (S : Int) rs = 0
    · exact h
    · rw [if_pos h] at hck0
      exact absurd (Prod.mk.inj (Prod.mk.inj hck0).2).2 h
  rw [Int.toNat_natCast]
  have hsl : supL rs rs = es.map fun e => (e, (cmL es n e.1.toNat e.2.toNat).length) := by rw [hrs, supL_es hv]
  have hrl : rdsL S rs rs = (es.map fun e => rdsN S rs e.1 + rdsN S rs e.2).sum := by rw [hrs, rdsL_es hv]
  have hrd := fun u => rdsN_le S rs u
  have hel := hv.length_le
  unfold SPostR
  obtain ⟨SL, hSL⟩ : ∃ L, supL rs rs = L := ⟨_, rfl⟩
  obtain ⟨RL, hRL⟩ : ∃ L, rdsL S rs rs = L := ⟨_, rfl⟩
  rw [hSL] at hsl ⊢
  rw [hRL] at hrl ⊢
  obtain ⟨RD, hRD⟩ : ∃ F : Int → Nat, rdsN S rs = F := ⟨_, rfl⟩
  rw [hRD] at hrl hrd
  have HRD := Lib.hid hrd
  have HSL := Lib.hid hsl
  have HRL := Lib.hid hrl
  have hn1 := fun u W (h : EdgesAt W (.slice a rs.length cap) rs) => neigh34_any S u a cap rs W h (by omega) hck
  simp only [hRD] at hn1
  clear hG hck0 hck hrs hSL hRL hsl hrl hRD hs1 hs2 hrd
  go_enter Try.func43, Try.ntmps43
  go_wp2_with (rw [← HWA.out])
  refine hgr.mono ?_
  rintro e w1 ⟨ag, cg, rfl, he1, -, hb1⟩
  obtain ⟨hG2, hbG⟩ := boxG_new w1 #[.int .i64 (n : Int), .slice ag es.length cg] 27
  obtain ⟨w2, hw2⟩ : ∃ W : World, W = w1.alloc (.cells #[.int .i64 (n : Int), .slice ag es.length cg] 27) := ⟨_, rfl⟩
  rw [← hw2] at hG2 hbG
  have hb12 := hb1.trans (hbG.mono hb1.size)
  have hx2 := lit_next' hb12 hxA
  have hb02 := hb0.trans (hb12.mono hb0.size)
  have he2 := he1.below hbG
  obtain ⟨B2, hB2⟩ : ∃ B, w1.heap.size = B := ⟨_, rfl⟩
  rw [hB2] at hG2
  have HW2 := Lib.hid hw2
  clear hw2 k0 k1 hgr he1
  go_upto_region 2 with fail
  rw [← HW2.out]
  try rw [hB2]
  go_upto_region 7 with fail
  go_loopw [7, 8, 9] (fun vo vr vi wr => ∃ (k R : Nat) (P : List (E2 × Nat)), k ≤ es.length ∧ vi = .int .i64 (k : Int) ∧ vr = .int .i64 (R : Int) ∧ Hid (P = (es.take k).map fun e => (e, (cmL es n e.1.toNat e.2.toNat).length)) ∧ Hid (R = ((es.take k).map fun e => RD e.1 + RD e.2).sum) ∧ R ≤ k * 20000 ∧ P.length ≤ k ∧ wr.ownsRow w2.heap.size 71 encT.k vo P.length (flatR encT P) ∧ Below w2.heap.size w2 wr) (fun _ _ vi _ => es.length - (intOf vi).toNat)
  case atStart => exact ⟨0, 0, [], Nat.zero_le _, rfl, rfl, (show _ = _ by simp), (show _ = _ by simp), Nat.zero_le _, Nat.le_refl _, World.ownsRow_nil _ _ _ _, Below.refl _ _⟩
  case round =>
    obtain ⟨k, R, P, hk, rfl, rfl, HP, HR, hRk, hPk, hown, hb⟩ := hrel
    obtain ⟨ao, co, hvo⟩ := owns_shape hown
    subst hvo
    have hGr := lit_next' hb hG2
    have hxr := lit_next' hb hx2
    obtain ⟨g0, g1⟩ := cells2R hGr
    obtain ⟨x0, x1⟩ := cells2R hxr
    have hb0r := hb02.trans (hb.mono hb02.size)
    by_cases hlt : k < es.length
    · have hlt3 : (k : Int) < es.length := by omega
      obtain ⟨b, off, x, y, rfl, hxy, -, -, c0, c1⟩ := (he2.below hb).at k hlt
      have hins := hv.2.2.1 _ (List.mem_of_getElem? hxy)
      unfold Ins at hins
      dsimp only at hins
      obtain ⟨u, rfl⟩ := Int.eq_ofNat_of_zero_le (show 0 ≤ x by omega)
      obtain ⟨v, rfl⟩ := Int.eq_ofNat_of_zero_le (show 0 ≤ y by omega)
      have hun : u < n := by omega
      have hvn : v < n := by omega
      have huv : (u : Int) ≠ (v : Int) := by omega
      have hst : P ++ [(((u : Int), (v : Int)), (cmL es n u v).length)] = (es.take (k + 1)).map fun e => (e, (cmL es n e.1.toNat e.2.toNat).length) := by rw [take_at _ _ _ hxy, List.map_append, ← HP.out]; simp
      have hsr := sum_take (fun e : E2 => RD e.1 + RD e.2) es k _ hxy
      rw [← HR.out] at hsr
      dsimp only at hsr
      have hr1 := HRD.out (u : Int)
      have hr2 := HRD.out (v : Int)
      obtain ⟨R1, hR1⟩ : ∃ r, RD (u : Int) = r := ⟨_, rfl⟩
      obtain ⟨R2, hR2⟩ : ∃ r, RD (v : Int) = r := ⟨_, rfl⟩
      have hc1 := hn1 (u : Int)
      have hc2 := hn1 (v : Int)
      rw [hR1] at hsr hr1 hc1
      rw [hR2] at hsr hr2 hc2
      have hcm := fun W (h : EdgesAt W (.slice (some ⟨b, off, none⟩) es.length cg) es) => common_any (n : Int) (some ⟨b, off, none⟩) cg es (u : Int) (v : Int) W h hv huv
      rw [common_eq hv] at hcm
      have hcl : ((cmL es n u v).map fun (i : Nat) => (i : Int)).length = (cmL es n u v).length := List.length_map _
      unfold IntsPost at hcm
      rw [hcl] at hcm
      obtain ⟨Q, hQ⟩ : ∃ Q, (cmL es n u v).length = Q := ⟨_, rfl⟩
      rw [hQ] at hcm hst
      have HP2 := Lib.hid hst
      have HR2 : Hid (R + (R1 + R2) = ((es.take (k + 1)).map fun e => RD e.1 + RD e.2).sum) := (show _ = _ from hsr.symm)
      clear hst hsr hQ hcl HP HR hxy hins hR1 hR2
      go_wp2_with fail
      go_quiet (fail)
      have hbq := hb.drewN nq
      have hownq : (wr.drewN nq).ownsRow w2.heap.size 71 encT.k (.slice ao P.length co) P.length (flatR encT P) := hown.kept (grown_of_below ((Below.refl wr.heap.size wr).drewN nq)) (Classical.em _)
      obtain ⟨wq, hwq⟩ : ∃ W : World, W = wr.drewN nq := ⟨_, rfl⟩
      rw [← hwq] at hbq hownq ⊢
      clear hwq g0 g1 x0 x1 hGr hxr hb hown c0 c1
      have hxq := lit_next' hbq hx2
      have hGq := lit_next' hbq hG2
      have hb0q := hb02.trans (hbq.mono hb02.size)
      obtain ⟨x0, x1⟩ := cells2R hxq
      go_wp2_with fail
      refine (hc1 _ (he.below hb0q)).mono ?_
      rintro e w3 ⟨v3, rfl, hb3⟩
      have hbq3 := hbq.trans (hb3.mono hbq.size)
      have hxq3 := lit_next' hb3 hxq
      have hb03 := hb0q.trans (hb3.mono hb0q.size)
      clear x0 x1
      obtain ⟨x0, x1⟩ := cells2R hxq3
      go_wp2_with fail
      refine (hc2 _ (he.below hb03)).mono ?_
      rintro e w4 ⟨v4, rfl, hb4⟩
      have hbq4 := hbq3.trans (hb4.mono hbq3.size)
      have hGq4 := lit_next' (hb3.trans (hb4.mono hb3.size)) hGq
      clear x0 x1
      obtain ⟨g0, g1⟩ := cells2R hGq4
      have hRR : (R : Int) + ((R1 : Int) + (R2 : Int)) ≤ 9000000000 := by omega
      go_wp2_with fail
      refine (hcm _ (he2.below hbq4)).mono ?_
      rintro e w5 ⟨a5, c5, rfl, -, hb5⟩
      have hbq5 := hbq4.trans (hb5.mono hbq4.size)
      have hown5 := hownq.kept (grown_of_below (hb3.trans ((hb4.trans (hb5.mono hb4.size)).mono hb3.size))) (Classical.em _)
      have hlit := rows_lit1 (E := encT) w5 (((u : Int), (v : Int)), Q) 71 #[.int .i64 (u : Int), .int .i64 (v : Int), .int .i64 (Q : Int)] rfl
      have hownA := hown5.alloc (.cells #[.int .i64 (u : Int), .int .i64 (v : Int), .int .i64 (Q : Int)] 71)
      have hbA := hbq5.alloc hbq5.size (.cells #[.int .i64 (u : Int), .int .i64 (v : Int), .int .i64 (Q : Int)] 71)
      go_wp2_with (at_builtin; refine wpList_app_rows triT rfl _ _ rfl w2.heap.size (.slice ao P.length co) _ P [(((u : Int), (v : Int)), Q)] rfl hownA rfl hlit (by rw [List.length_singleton]; omega) (by rw [List.length_singleton]; omega) hbA.size ?_; intro v6 w6 hown6 hg6)
      have hb6 := hbA.grown hg6 hbA.size (fun g e => (hownA.lt g e).1)
      go_roundw
      case rel => exact ⟨k + 1, R + (R1 + R2), P ++ [(((u : Int), (v : Int)), Q)], by omega, by go_num, by go_num, HP2, HR2, by omega, by rw [List.length_append, List.length_singleton]; omega, hown6, hb6⟩
      case measure => simp [intOf]; omega
    · obtain rfl : k = es.length := by omega
      have hPf : P = SL := by rw [HP.out, List.take_length, HSL.out]
      have hRf : R = RL := by rw [HR.out, List.take_length, HRL.out]
      subst hPf hRf
      obtain ⟨a8, c8, hv8, hr8, hp8⟩ := RowAt.of_owns hown (by omega)
      cases hv8
      clear HP HR HSL HRL
      go_wp2_with fail
      go_ret3
      exact ⟨_, _, rfl, hr8, fun p e => Nat.le_trans hb02.size (hp8 p e), hb02.trans (hb.mono hb02.size)⟩
set_option linter.unusedSimpArgs false in
set_option maxRecDepth 100000 in
set_option maxHeartbeats 6400000 in
theorem r36tri_any (size g : Int) (a : Option Addr) (cap : Nat) (rs : List E2) (w : World) (he : EdgesAt w (.slice a rs.length cap) rs) (hl : rs.length ≤ 1000) :
    Calls Try.prog 42 #[.agg #[.int .i64 size, .slice a rs.length cap], .int .i64 g] w (T3Post w (triXR size g rs)) := by
  obtain ⟨hxA, hb0⟩ := boxG_new w #[.int .i64 size, .slice a rs.length cap] 33
  obtain ⟨wA, hwA⟩ : ∃ W : World, W = w.alloc (.cells #[.int .i64 size, .slice a rs.length cap] 33) := ⟨_, rfl⟩
  rw [← hwA] at hxA hb0
  have HWA := Lib.hid hwA
  clear hwA
  have hgr := graph34_any size 64 a cap rs wA (he.below hb0) (by omega)
  unfold triXR T3Post
  obtain ⟨⟨k, es, C⟩, hG⟩ : ∃ F, graphR size 64 rs = F := ⟨_, rfl⟩
  rw [hG] at hgr ⊢
  unfold RGPost at hgr
  dsimp only at hgr ⊢
  obtain ⟨k0, k1⟩ := cells2R hxA
  by_cases hz : C = 0
  case neg =>
    rw [if_pos hz]
    have d1 : (C != 0) = true := by simpa using hz
    clear hz hG
    go_enter Try.func42, Try.ntmps42
    go_wp2_with (rw [← HWA.out])
    refine hgr.mono ?_
    rintro e w1 ⟨ag, cg, rfl, -, -, hb1⟩
    have hb01 := hb0.trans (hb1.mono hb0.size)
    go_wp2_with fail
    go_ret3
    exact ⟨rfl, hb01.alloc hb01.size _⟩
  subst hz
  rw [if_neg (by simp)]
  obtain ⟨n, -, rfl, hv, hrs, -, -⟩ := graphR_of hG
  clear hG
  by_cases hg : g < 1 ∨ 16 < g
  case pos =>
    rw [if_pos hg]
    obtain ⟨B1, hB1⟩ : ∃ B, decide (g < 1) = B := ⟨_, rfl⟩
    have hB2 : B1 = false → decide (16 < g) = true := fun e => by rw [e] at hB1; simp at hB1; simp; omega
    clear hg hrs
    cases B1
    case true =>
      clear hB2
      go_enter Try.func42, Try.ntmps42
      go_wp2_with (rw [← HWA.out])
      refine hgr.mono ?_
      rintro e w1 ⟨ag, cg, rfl, -, -, hb1⟩
      have hb01 := hb0.trans (hb1.mono hb0.size)
      go_wp2_with fail
      go_ret3
      exact ⟨rfl, hb01.alloc hb01.size _⟩
    case false =>
      have d2 := hB2 rfl
      clear hB2
      go_enter Try.func42, Try.ntmps42
      go_wp2_with (rw [← HWA.out])
      refine hgr.mono ?_
      rintro e w1 ⟨ag, cg, rfl, -, -, hb1⟩
      have hb01 := hb0.trans (hb1.mono hb0.size)
      go_wp2_with fail
      go_ret3
      exact ⟨rfl, hb01.alloc hb01.size _⟩
  rw [if_neg hg]
  have dg1 : decide (g < 1) = false := by simp; omega
  have dg2 : decide (16 < g) = false := by simp; omega
  obtain ⟨G, rfl⟩ := Int.eq_ofNat_of_zero_le (show 0 ≤ g by omega)
  have hG1 : 1 ≤ G := by omega
  have hG2 : G ≤ 16 := by omega
  have hG0 : ¬ (G : Int) = 0 := by omega
  have hG3 : ((G : Int) == 0) = false := by simp; omega
  have hG4 : ¬ G = 0 := by omega
  clear hg
  dsimp only
  rw [Int.toNat_natCast]
  have htc : cubeR (triF rs G) G = ttAll es n := by rw [hrs]; exact tri_cube hv G hG1
  have htm := tri_cm hv
  have hrec : ∀ e ∈ rs, 0 ≤ e.1 ∧ e.1 < 64 ∧ 0 ≤ e.2 ∧ e.2 < 64 := fun e h => by
    have := (recOk_iff e).1 (recN_ok hv e (hrs ▸ h)).1
    omega
  have HREC := Lib.hid hrec
  have hFC0 := fun i j k => partX_le rs G i j k
  obtain ⟨FC, hFC⟩ : ∃ F, redF rs G = F := ⟨_, rfl⟩
  rw [htc, hFC]
  obtain ⟨TT, hTT⟩ : ∃ T, ttAll es n = T := ⟨_, rfl⟩
  rw [hTT] at htm ⊢
  obtain ⟨RC, hRC⟩ : ∃ R, cubeR FC G = R := ⟨_, rfl⟩
  rw [hRC]
  have HF2 : Hid (∀ i j k, FC i j k ≤ 1000) := (show ∀ i j k, _ from fun i j k => by rw [← hFC]; exact Nat.le_trans (hFC0 i j k) hl)
  have HFC := Lib.hid hFC
  have HRC := Lib.hid hRC
  have HTM := Lib.hid htm
  have hel := hv.length_le
  clear htc htm hrec hFC0 hFC hTT hRC hrs
  go_enter Try.func42, Try.ntmps42
  go_wp2_with (rw [← HWA.out])
  refine hgr.mono ?_
  rintro e w1 ⟨ag, cg, rfl, he1, -, hb1⟩
  obtain ⟨hGG, hbG⟩ := boxG_new w1 #[.int .i64 (n : Int), .slice ag es.length cg] 27
  obtain ⟨w2, hw2⟩ : ∃ W : World, W = w1.alloc (.cells #[.int .i64 (n : Int), .slice ag es.length cg] 27) := ⟨_, rfl⟩
  rw [← hw2] at hGG hbG
  have hb12 := hb1.trans (hbG.mono hb1.size)
  have hx2 := lit_next' hb12 hxA
  have hb02 := hb0.trans (hb12.mono hb0.size)
  have he2 := he1.below hbG
  have HE2 := Lib.hid (he.below hb02)
  obtain ⟨B2, hB2⟩ : ∃ B, w1.heap.size = B := ⟨_, rfl⟩
  rw [hB2] at hGG
  have HW2 := Lib.hid hw2
  clear hw2 k0 k1 hgr he1
  go_upto_region 2 with fail
  rw [← HW2.out]
  try rw [hB2]
  go_upto_region 8 with fail
  go_loopw [9, 11] (fun vn vi wr => ∃ k N : Nat, k ≤ es.length ∧ vi = .int .i64 (k : Int) ∧ vn = .int .i64 (N : Int) ∧ Hid (N = ((es.take k).map fun e => (cmL es n e.1.toNat e.2.toNat).length).sum) ∧ N ≤ k * 64 ∧ Below w2.heap.size w2 wr) (fun _ vi _ => es.length - (intOf vi).toNat)
  case atStart => exact ⟨0, 0, Nat.zero_le _, rfl, rfl, (show _ = _ by simp), Nat.le_refl _, Below.refl _ _⟩
  case round =>
    obtain ⟨k, N, hk, rfl, rfl, HN, hNk, hb⟩ := hrel
    have hGr := lit_next' hb hGG
    obtain ⟨g0, g1⟩ := cells2R hGr
    by_cases hlt : k < es.length
    · have hlt3 : (k : Int) < es.length := by omega
      obtain ⟨b, off, x, y, rfl, hxy, -, -, c0, c1⟩ := (he2.below hb).at k hlt
      have hins := hv.2.2.1 _ (List.mem_of_getElem? hxy)
      unfold Ins at hins
      dsimp only at hins
      obtain ⟨u, rfl⟩ := Int.eq_ofNat_of_zero_le (show 0 ≤ x by omega)
      obtain ⟨v, rfl⟩ := Int.eq_ofNat_of_zero_le (show 0 ≤ y by omega)
      have huv : (u : Int) ≠ (v : Int) := by omega
      have hsr := sum_take (fun e : E2 => (cmL es n e.1.toNat e.2.toNat).length) es k _ hxy
      rw [← HN.out] at hsr
      dsimp only at hsr
      rw [Int.toNat_natCast, Int.toNat_natCast] at hsr
      have hcm := fun W (h : EdgesAt W (.slice (some ⟨b, off, none⟩) es.length cg) es) => common_any (n : Int) (some ⟨b, off, none⟩) cg es (u : Int) (v : Int) W h hv huv
      rw [common_eq hv] at hcm
      have hcl : ((cmL es n u v).map fun (i : Nat) => (i : Int)).length = (cmL es n u v).length := List.length_map _
      have hc64 : (cmL es n u v).length ≤ 64 := by
        have h1 : (cmL es n u v).length ≤ (List.range n).length := List.length_filter_le _ _
        rw [List.length_range] at h1
        have := hv.2.1; omega
      unfold IntsPost at hcm
      rw [hcl] at hcm
      obtain ⟨Q, hQ⟩ : ∃ Q, (cmL es n u v).length = Q := ⟨_, rfl⟩
      rw [hQ] at hcm hsr hc64
      have HN2 : Hid (N + Q = ((es.take (k + 1)).map fun e => (cmL es n e.1.toNat e.2.toNat).length).sum) := (show _ = _ from hsr.symm)
      have hNQ : (N : Int) + (Q : Int) ≤ 9000000 := by omega
      have hNQw : IntKind.i64.wrap ((N : Int) + (Q : Int)) = (N : Int) + (Q : Int) := IntWalk.i64_in _ (by omega)
      clear hsr hQ hcl HN hxy hins
      go_upto_region 10 with fail
      refine wp_region_heldK (k := 17) (S := fun _ W => (W.cell? ⟨B2, 0, none⟩ = some (.int .i64 (n : Int)) ∧ W.cell? ⟨B2, 1, none⟩ = some (.slice (some ⟨b, off, none⟩) es.length cg) ∧ W.cell? ⟨b, off + k * 2, none⟩ = some (.int .i64 (u : Int)) ∧ W.cell? ⟨b, off + k * 2 + 1, none⟩ = some (.int .i64 (v : Int)))) (by kernel_rfl) ?_
      have hS0 : (wr.drew.cell? ⟨B2, 0, none⟩ = some (.int .i64 (n : Int)) ∧ wr.drew.cell? ⟨B2, 1, none⟩ = some (.slice (some ⟨b, off, none⟩) es.length cg) ∧ wr.drew.cell? ⟨b, off + k * 2, none⟩ = some (.int .i64 (u : Int)) ∧ wr.drew.cell? ⟨b, off + k * 2 + 1, none⟩ = some (.int .i64 (v : Int))) := ⟨g0, g1, c0, c1⟩
      refine wpAnyK_take (i := 0) (v := .int .i64 (N : Int)) true rfl (by kernel_rfl) (by kernel_rfl) (by kernel_rfl) (by kernel_rfl) (by kernel_rfl) (fun _ _ _ h => h) (fun _ h => h) (Or.inl ⟨by rfl, by intro w hSw; (try dsimp only at hSw); go_simp⟩) (b := false) (by kernel_rfl) hS0 ?_
      try simp only [Act.put, List.setIfInBounds_toArray, List.set_cons_zero, List.set_cons_succ]
      refine wpAnyK_take (i := 1) (v := .agg #[.int .i64 (n : Int), .slice (some ⟨b, off, none⟩) es.length cg]) true rfl (by kernel_rfl) (by kernel_rfl) (by kernel_rfl) (by kernel_rfl) (by kernel_rfl) (fun _ _ _ h => h) (fun _ h => h) (Or.inl ⟨by rfl, by intro w hSw; (try dsimp only at hSw); go_simp⟩) (b := false) (by kernel_rfl) hS0 ?_
      try simp only [Act.put, List.setIfInBounds_toArray, List.set_cons_zero, List.set_cons_succ]
      refine wpAnyK_take (i := 2) (v := .pointer (some ⟨B2, 1, none⟩)) true rfl (by kernel_rfl) (by kernel_rfl) (by kernel_rfl) (by kernel_rfl) (by kernel_rfl) (fun _ _ _ h => h) (fun _ h => h) (Or.inl ⟨by rfl, by intro w hSw; (try dsimp only at hSw); go_simp⟩) (b := false) (by kernel_rfl) hS0 ?_
      try simp only [Act.put, List.setIfInBounds_toArray, List.set_cons_zero, List.set_cons_succ]
      refine wpAnyK_take (i := 3) (v := .slice (some ⟨b, off, none⟩) es.length cg) true rfl (by kernel_rfl) (by kernel_rfl) (by kernel_rfl) (by kernel_rfl) (by kernel_rfl) (fun _ _ _ h => h) (fun _ h => h) (Or.inl ⟨by rfl, by intro w hSw; (try dsimp only at hSw); go_simp⟩) (b := false) (by kernel_rfl) hS0 ?_
      try simp only [Act.put, List.setIfInBounds_toArray, List.set_cons_zero, List.set_cons_succ]
      refine wpAnyK_take (i := 4) (v := .int .i64 (k : Int)) true rfl (by kernel_rfl) (by kernel_rfl) (by kernel_rfl) (by kernel_rfl) (by kernel_rfl) (fun _ _ _ h => h) (fun _ h => h) (Or.inl ⟨by rfl, by intro w hSw; (try dsimp only at hSw); go_simp⟩) (b := false) (by kernel_rfl) hS0 ?_
      try simp only [Act.put, List.setIfInBounds_toArray, List.set_cons_zero, List.set_cons_succ]
      refine wpAnyK_take (i := 5) (v := .pointer (some ⟨b, off + k * 2, none⟩)) true rfl (by kernel_rfl) (by kernel_rfl) (by kernel_rfl) (by kernel_rfl) (by kernel_rfl) (fun _ _ _ h => h) (fun _ h => h) (Or.inl ⟨by rfl, by intro w hSw; (try dsimp only at hSw); go_simp⟩) (b := false) (by kernel_rfl) hS0 ?_
      try simp only [Act.put, List.setIfInBounds_toArray, List.set_cons_zero, List.set_cons_succ]
      refine wpAnyK_take (i := 6) (v := .pointer (some ⟨b, off + k * 2, none⟩)) true rfl (by kernel_rfl) (by kernel_rfl) (by kernel_rfl) (by kernel_rfl) (by kernel_rfl) (fun _ _ _ h => h) (fun _ h => h) (Or.inl ⟨by rfl, by intro w hSw; (try dsimp only at hSw); go_simp⟩) (b := false) (by kernel_rfl) hS0 ?_
      try simp only [Act.put, List.setIfInBounds_toArray, List.set_cons_zero, List.set_cons_succ]
      refine wpAnyK_take (i := 7) (v := .int .i64 (u : Int)) true rfl (by kernel_rfl) (by kernel_rfl) (by kernel_rfl) (by kernel_rfl) (by kernel_rfl) (fun _ _ _ h => h) (fun _ h => h) (Or.inl ⟨by rfl, by intro w hSw; (try dsimp only at hSw); go_simp⟩) (b := false) (by kernel_rfl) hS0 ?_
      try simp only [Act.put, List.setIfInBounds_toArray, List.set_cons_zero, List.set_cons_succ]
      refine wpAnyK_take (i := 8) (v := .pointer (some ⟨B2, 1, none⟩)) true rfl (by kernel_rfl) (by kernel_rfl) (by kernel_rfl) (by kernel_rfl) (by kernel_rfl) (fun _ _ _ h => h) (fun _ h => h) (Or.inl ⟨by rfl, by intro w hSw; (try dsimp only at hSw); go_simp⟩) (b := false) (by kernel_rfl) hS0 ?_
      try simp only [Act.put, List.setIfInBounds_toArray, List.set_cons_zero, List.set_cons_succ]
      refine wpAnyK_take (i := 9) (v := .slice (some ⟨b, off, none⟩) es.length cg) true rfl (by kernel_rfl) (by kernel_rfl) (by kernel_rfl) (by kernel_rfl) (by kernel_rfl) (fun _ _ _ h => h) (fun _ h => h) (Or.inl ⟨by rfl, by intro w hSw; (try dsimp only at hSw); go_simp⟩) (b := false) (by kernel_rfl) hS0 ?_
      try simp only [Act.put, List.setIfInBounds_toArray, List.set_cons_zero, List.set_cons_succ]
      refine wpAnyK_take (i := 10) (v := .int .i64 (k : Int)) true rfl (by kernel_rfl) (by kernel_rfl) (by kernel_rfl) (by kernel_rfl) (by kernel_rfl) (fun _ _ _ h => h) (fun _ h => h) (Or.inl ⟨by rfl, by intro w hSw; (try dsimp only at hSw); go_simp⟩) (b := false) (by kernel_rfl) hS0 ?_
      try simp only [Act.put, List.setIfInBounds_toArray, List.set_cons_zero, List.set_cons_succ]
      refine wpAnyK_take (i := 11) (v := .pointer (some ⟨b, off + k * 2, none⟩)) true rfl (by kernel_rfl) (by kernel_rfl) (by kernel_rfl) (by kernel_rfl) (by kernel_rfl) (fun _ _ _ h => h) (fun _ h => h) (Or.inl ⟨by rfl, by intro w hSw; (try dsimp only at hSw); go_simp⟩) (b := false) (by kernel_rfl) hS0 ?_
      try simp only [Act.put, List.setIfInBounds_toArray, List.set_cons_zero, List.set_cons_succ]
      refine wpAnyK_take (i := 12) (v := .pointer (some ⟨b, off + k * 2 + 1, none⟩)) true rfl (by kernel_rfl) (by kernel_rfl) (by kernel_rfl) (by kernel_rfl) (by kernel_rfl) (fun _ _ _ h => h) (fun _ h => h) (Or.inl ⟨by rfl, by intro w hSw; (try dsimp only at hSw); go_simp⟩) (b := false) (by kernel_rfl) hS0 ?_
      try simp only [Act.put, List.setIfInBounds_toArray, List.set_cons_zero, List.set_cons_succ]
      refine wpAnyK_take (i := 13) (v := .int .i64 (v : Int)) true rfl (by kernel_rfl) (by kernel_rfl) (by kernel_rfl) (by kernel_rfl) (by kernel_rfl) (fun _ _ _ h => h) (fun _ h => h) (Or.inl ⟨by rfl, by intro w hSw; (try dsimp only at hSw); go_simp⟩) (b := false) (by kernel_rfl) hS0 ?_
      try simp only [Act.put, List.setIfInBounds_toArray, List.set_cons_zero, List.set_cons_succ]
      refine wpAnyK_one (i := 14) (by kernel_rfl) rfl (by rfl) (b := false) (by kernel_rfl) (fun K hK => ?_)
      go_simp
      go_at_call 82
      refine (hcm _ ((he2.below hb).below (Below.refl _ _).drew)).mono ?_
      rintro e w5 ⟨a5, c5, rfl, -, hb5⟩
      have hb5' : Below wr.heap.size wr w5 := (Below.refl wr.heap.size wr).drew.trans hb5
      have hS5 : (w5.cell? ⟨B2, 0, none⟩ = some (.int .i64 (n : Int)) ∧ w5.cell? ⟨B2, 1, none⟩ = some (.slice (some ⟨b, off, none⟩) es.length cg) ∧ w5.cell? ⟨b, off + k * 2, none⟩ = some (.int .i64 (u : Int)) ∧ w5.cell? ⟨b, off + k * 2 + 1, none⟩ = some (.int .i64 (v : Int))) := ⟨(hb5'.cell (p := ⟨B2, 0, none⟩) (cell_lt g0)).trans g0, (hb5'.cell (p := ⟨B2, 1, none⟩) (cell_lt g1)).trans g1, (hb5'.cell (p := ⟨b, off + k * 2, none⟩) (cell_lt c0)).trans c0, (hb5'.cell (p := ⟨b, off + k * 2 + 1, none⟩) (cell_lt c1)).trans c1⟩
      have hbb5 := hb.trans (hb5'.mono hb.size)
      dsimp only
      refine hK.out _ _ hS5 ?_
      try simp only [Act.put, List.setIfInBounds_toArray, List.set_cons_zero, List.set_cons_succ]
      refine wpAnyK_take (i := 15) (v := .int .i64 (Q : Int)) true rfl (by kernel_rfl) (by kernel_rfl) (by kernel_rfl) (by kernel_rfl) (by kernel_rfl) (fun _ _ _ h => h) (fun _ h => h) (Or.inl ⟨by rfl, by intro w hSw; (try dsimp only at hSw); go_simp⟩) (b := false) (by kernel_rfl) hS5 ?_
      try simp only [Act.put, List.setIfInBounds_toArray, List.set_cons_zero, List.set_cons_succ]
      refine wpAnyK_take (i := 16) (v := .int .i64 ((N : Int) + (Q : Int))) true rfl (by kernel_rfl) (by kernel_rfl) (by kernel_rfl) (by kernel_rfl) (by kernel_rfl) (fun _ _ _ h => h) (fun _ h => h) (Or.inl ⟨by rfl, by intro w hSw; (try dsimp only at hSw); go_simp⟩) (b := false) (by kernel_rfl) hS5 ?_
      try simp only [Act.put, List.setIfInBounds_toArray, List.set_cons_zero, List.set_cons_succ]
      refine wpAnyK_one (i := 17) (by kernel_rfl) rfl (by rfl) (b := true) (by kernel_rfl) (fun K hK => ?_)
      go_simp
      refine hK.out _ _ hS5 (wpAnyK_done (by kernel_rfl) ?_ _)
      go_wp2_with fail
      go_roundw
      case rel => exact ⟨k + 1, N + Q, by omega, by go_num, by go_num, HN2, by omega, hbb5⟩
      case measure => simp [intOf]; omega
    · obtain rfl : es.length = k := by omega
      have hN3 : N = 3 * TT := by rw [HN.out, List.take_length, HTM.out]
      subst hN3
      have hTb : TT ≤ 100000 := by omega
      have hq1 : ((3 * TT : Nat) : Int).tdiv 3 = (TT : Int) := by
        rw [show ((3 * TT : Nat) : Int) = (TT : Int) * 3 by omega]
        exact Int.mul_tdiv_cancel _ (by decide)
      have HB := Lib.hid hb
      go_upto_region 12 with fail
      obtain ⟨w3, hw3⟩ : ∃ W : World, W = wr := ⟨_, rfl⟩
      rw [← hw3] at HB ⊢
      clear hw3 g0 g1 hGr HN hNk
      have hx3 := lit_next' HB.out hx2
      have HE3 := Lib.hid (HE2.out.below HB.out)
      go_loopw [10, 12] (fun vc vi wr => ∃ i c : Nat, i ≤ G ∧ vi = .int .i64 (i : Int) ∧ vc = .int .i64 (c : Int) ∧ Hid (c = sumQ (cubeI FC G) 0 i) ∧ c ≤ bS i 0 0 ∧ Below w3.heap.size w3 wr) (fun _ vi _ => G - (intOf vi).toNat)
      case atStart => exact ⟨0, 0, Nat.zero_le _, rfl, rfl, (show _ = _ from rfl), Nat.le_refl _, Below.refl _ _⟩
      case round =>
        obtain ⟨i, c, hi, rfl, rfl, HC, hcb, hb⟩ := hrel
        by_cases hlt : i < G
        case neg =>
          obtain rfl : G = i := by omega
          have hc : c = RC := by rw [HC.out]; exact HRC.out
          subst hc
          have hbe := hb02.trans ((HB.out.trans (hb.mono HB.out.size)).mono hb02.size)
          clear HC HRC
          go_wp2_with fail
          go_ret3
          exact ⟨rfl, hbe⟩
        case pos =>
        have hlt3 : (i : Int) < G := by omega
        go_wp2_with fail
        go_loopw [10, 13] (fun vc vj wr => ∃ j m c2 : Nat, j ≤ G ∧ i ≤ j ∧ vj = .int .i64 (j : Int) ∧ vc = .int .i64 (c2 : Int) ∧ Hid (j = i + m) ∧ m ≤ 16 ∧ Hid (c2 = c + sumQ (cubeJ FC G i) i m) ∧ c2 ≤ bS i m 0 ∧ Below w3.heap.size w3 wr) (fun _ vj _ => G - (intOf vj).toNat)
        case atStart => exact ⟨i, 0, c, by omega, Nat.le_refl _, rfl, rfl, (show _ = _ from rfl), Nat.zero_le _, (show c = c + 0 from rfl), hcb, hb⟩
        case round =>
          clear hb
          obtain ⟨j, m, c2, hj, hij, rfl, rfl, HJ, hm, HC2, hc2, hb⟩ := hrel
          by_cases hltj : j < G
          case neg =>
            have hltj3 : ¬ (j : Int) < G := by omega
            have hmG : m = G - i := by have := HJ.out; omega
            subst hmG
            have HC3 : Hid (c2 = sumQ (cubeI FC G) 0 (i + 1)) := (show _ = _ by rw [HC2.out, HC.out, sumQ_step, Nat.zero_add]; rfl)
            go_wp2_with fail
            go_roundw
            case rel => exact ⟨i + 1, c2, by omega, by go_num, rfl, HC3, bS_i hc2 hm, hb⟩
            case measure => simp [intOf]; omega
          case pos =>
          have hltj3 : (j : Int) < G := by omega
          go_wp2_with fail
          go_loopw [10, 14] (fun vc vk wr => ∃ l q c3 : Nat, l ≤ G ∧ j ≤ l ∧ vk = .int .i64 (l : Int) ∧ vc = .int .i64 (c3 : Int) ∧ Hid (l = j + q) ∧ q ≤ 16 ∧ Hid (c3 = c2 + sumQ (FC i j) j q) ∧ c3 ≤ bS i m q ∧ Below w3.heap.size w3 wr) (fun _ vk _ => G - (intOf vk).toNat)
          case atStart => exact ⟨j, 0, c2, by omega, Nat.le_refl _, rfl, rfl, (show _ = _ from rfl), Nat.zero_le _, (show c2 = c2 + 0 from rfl), hc2, hb⟩
          case round =>
            clear hb
            obtain ⟨l, q, c3, hl4, hjl, rfl, rfl, HL, hq, HC3, hc3, hb⟩ := hrel
            by_cases hltk : l < G
            case neg =>
              have hltk3 : ¬ (l : Int) < G := by omega
              have hqG : q = G - j := by have := HL.out; omega
              subst hqG
              have hjm : j = i + m := HJ.out
              have HC4 : Hid (c3 = c + sumQ (cubeJ FC G i) i (m + 1)) := (show _ = _ by rw [HC3.out, HC2.out, sumQ_step, ← hjm, Nat.add_assoc]; rfl)
              have HJ2 : Hid (j + 1 = i + (m + 1)) := (show _ = _ by omega)
              have hm2 : m + 1 ≤ 16 := by omega
              clear hjm
              go_wp2_with fail
              go_roundw
              case rel => exact ⟨j + 1, m + 1, c3, by omega, by omega, by go_num, rfl, HJ2, hm2, HC4, bS_m hc3 hq, hb⟩
              case measure => simp [intOf]; omega
            case pos =>
            have hltk3 : (l : Int) < G := by omega
            obtain ⟨F, hF⟩ : ∃ F : E2 → Bool, (fun e : E2 => inG G i j l e.1 && inG G i j l e.2) = F := ⟨_, rfl⟩
            have HFF : Hid (∀ x y : Int, F (x, y) = (inG G i j l x && inG G i j l y)) := (show ∀ x y : Int, _ from fun x y => by rw [← hF])
            have HPX : Hid ((rs.filter F).length = FC i j l) := (show _ = _ by rw [← hF, ← HFC.out]; rfl)
            clear hF
            go_wp2_with fail
            go_loopw [10, 15] (fun vc vt wr => ∃ t c4 : Nat, t ≤ rs.length ∧ vt = .int .i64 (t : Int) ∧ vc = .int .i64 (c4 : Int) ∧ Hid (c4 = c3 + ((rs.take t).filter F).length) ∧ c4 ≤ c3 + t ∧ Below w3.heap.size w3 wr) (fun _ vt _ => rs.length - (intOf vt).toNat)
            case atStart => exact ⟨0, c3, Nat.zero_le _, rfl, rfl, (show _ = _ by simp), Nat.le_refl _, hb⟩
            case round =>
              clear hb
              obtain ⟨t, c4, ht, rfl, rfl, HC4, hc4, hb⟩ := hrel
              have hxr := lit_next' hb hx3
              obtain ⟨x0, x1⟩ := cells2R hxr
              by_cases hltt : t < rs.length
              case neg =>
                obtain rfl : rs.length = t := by omega
                have hP1 : FC i j l ≤ 1000000 := Nat.le_trans (HF2.out i j l) (by decide)
                have hjl2 : l = j + q := HL.out
                have h4 : c4 = c3 + FC i j l := by rw [HC4.out, List.take_length, HPX.out]
                have HC5 : Hid (c4 = c2 + sumQ (FC i j) j (q + 1)) := (show _ = _ by rw [sumQ_step, ← Nat.add_assoc, ← HC3.out, h4, ← hjl2])
                have HL2 : Hid (l + 1 = j + (q + 1)) := (show _ = _ by omega)
                have hq2 : q + 1 ≤ 16 := by omega
                have hc5 : c4 ≤ bS i m (q + 1) := by rw [h4]; exact bS_q hc3 hP1
                clear hjl2 h4 HC4
                go_wp2_with fail
                go_roundw
                case rel => exact ⟨l + 1, q + 1, c4, by omega, by omega, by go_num, rfl, HL2, hq2, HC5, hc5, hb⟩
                case measure => simp [intOf]; omega
              case pos =>
              have hltt3 : (t : Int) < rs.length := by omega
              obtain ⟨b, off, x, y, rfl, hxy, -, -, e0, e1⟩ := (HE3.out.below hb).at t hltt
              have hro := HREC.out _ (List.mem_of_getElem? hxy)
              dsimp only at hro
              have hcm := bS_max hc3 (by omega) hm hq
              have hFv := HFF.out x y
              unfold inG at hFv
              have htk : c3 + ((rs.take (t + 1)).filter F).length = c4 + if F (x, y) = true then 1 else 0 := by
                rw [take_at _ _ _ hxy, List.filter_append, List.length_append, HC4.out]
                cases hf : F (x, y) <;> simp [hf] <;> omega
              have hA0 : 0 ≤ x.tmod (G : Int) ∧ x.tmod (G : Int) < 16 := ⟨Int.tmod_nonneg _ hro.1, Int.lt_of_lt_of_le (Int.tmod_lt_of_pos x (by omega)) (by omega)⟩
              have hB0 : 0 ≤ y.tmod (G : Int) ∧ y.tmod (G : Int) < 16 := ⟨Int.tmod_nonneg _ hro.2.2.1, Int.lt_of_lt_of_le (Int.tmod_lt_of_pos y (by omega)) (by omega)⟩
              obtain ⟨A, hA⟩ : ∃ A, x.tmod (G : Int) = A := ⟨_, rfl⟩
              obtain ⟨B, hB⟩ : ∃ A, y.tmod (G : Int) = A := ⟨_, rfl⟩
              rw [hA, hB] at hFv
              rw [hA] at hA0
              rw [hB] at hB0
              obtain ⟨P1, p1⟩ : ∃ P, (A == (i : Int)) = P := ⟨_, rfl⟩
              obtain ⟨P2, p2⟩ : ∃ P, (A == (j : Int)) = P := ⟨_, rfl⟩
              obtain ⟨P3, p3⟩ : ∃ P, (A == (l : Int)) = P := ⟨_, rfl⟩
              obtain ⟨Q1, q1⟩ : ∃ P, (B == (i : Int)) = P := ⟨_, rfl⟩
              obtain ⟨Q2, q2⟩ : ∃ P, (B == (j : Int)) = P := ⟨_, rfl⟩
              obtain ⟨Q3, q3⟩ : ∃ P, (B == (l : Int)) = P := ⟨_, rfl⟩
              rw [p1, p2, p3, q1, q2, q3] at hFv
              rw [hFv] at htk
              have HTK := Lib.hid htk
              clear htk hFv hxy HC4 HFF
              go_wp2_with fail
              go_quiet (fail)
              have hbn := hb.drewN nq
              clear hA hB x0 x1 e0 e1
              cases P1
              case true =>
                cases Q1
                case true =>
                  have HC5 : Hid (c4 + 1 = c3 + ((rs.take (t + 1)).filter F).length) := (show _ = _ from HTK.out.symm)
                  clear HTK
                  go_wp2_with fail
                  go_roundw
                  case rel => exact ⟨t + 1, c4 + 1, by omega, by go_num, by go_num, HC5, by omega, hbn⟩
                  case measure => simp [intOf]; omega
                case false =>
                  cases Q2
                  case true =>
                    have HC5 : Hid (c4 + 1 = c3 + ((rs.take (t + 1)).filter F).length) := (show _ = _ from HTK.out.symm)
                    clear HTK
                    go_wp2_with fail
                    go_roundw
                    case rel => exact ⟨t + 1, c4 + 1, by omega, by go_num, by go_num, HC5, by omega, hbn⟩
                    case measure => simp [intOf]; omega
                  case false =>
                    cases Q3
                    case true =>
                      have HC5 : Hid (c4 + 1 = c3 + ((rs.take (t + 1)).filter F).length) := (show _ = _ from HTK.out.symm)
                      clear HTK
                      go_wp2_with fail
                      go_roundw
                      case rel => exact ⟨t + 1, c4 + 1, by omega, by go_num, by go_num, HC5, by omega, hbn⟩
                      case measure => simp [intOf]; omega
                    case false =>
                      have HC5 : Hid (c4 = c3 + ((rs.take (t + 1)).filter F).length) := (show _ = _ from HTK.out.symm)
                      clear HTK
                      go_wp2_with fail
                      go_roundw
                      case rel => exact ⟨t + 1, c4, by omega, by go_num, by go_num, HC5, by omega, hbn⟩
                      case measure => simp [intOf]; omega
              case false =>
                cases P2
                case true =>
                  cases Q1
                  case true =>
                    have HC5 : Hid (c4 + 1 = c3 + ((rs.take (t + 1)).filter F).length) := (show _ = _ from HTK.out.symm)
                    clear HTK
                    go_wp2_with fail
                    go_roundw
                    case rel => exact ⟨t + 1, c4 + 1, by omega, by go_num, by go_num, HC5, by omega, hbn⟩
                    case measure => simp [intOf]; omega
                  case false =>
                    cases Q2
                    case true =>
                      have HC5 : Hid (c4 + 1 = c3 + ((rs.take (t + 1)).filter F).length) := (show _ = _ from HTK.out.symm)
                      clear HTK
                      go_wp2_with fail
                      go_roundw
                      case rel => exact ⟨t + 1, c4 + 1, by omega, by go_num, by go_num, HC5, by omega, hbn⟩
                      case measure => simp [intOf]; omega
                    case false =>
                      cases Q3
                      case true =>
                        have HC5 : Hid (c4 + 1 = c3 + ((rs.take (t + 1)).filter F).length) := (show _ = _ from HTK.out.symm)
                        clear HTK
                        go_wp2_with fail
                        go_roundw
                        case rel => exact ⟨t + 1, c4 + 1, by omega, by go_num, by go_num, HC5, by omega, hbn⟩
                        case measure => simp [intOf]; omega
                      case false =>
                        have HC5 : Hid (c4 = c3 + ((rs.take (t + 1)).filter F).length) := (show _ = _ from HTK.out.symm)
                        clear HTK
                        go_wp2_with fail
                        go_roundw
                        case rel => exact ⟨t + 1, c4, by omega, by go_num, by go_num, HC5, by omega, hbn⟩
                        case measure => simp [intOf]; omega
                case false =>
                  cases P3
                  case true =>
                    cases Q1
                    case true =>
                      have HC5 : Hid (c4 + 1 = c3 + ((rs.take (t + 1)).filter F).length) := (show _ = _ from HTK.out.symm)
                      clear HTK
                      go_wp2_with fail
                      go_roundw
                      case rel => exact ⟨t + 1, c4 + 1, by omega, by go_num, by go_num, HC5, by omega, hbn⟩
                      case measure => simp [intOf]; omega
                    case false =>
                      cases Q2
                      case true =>
                        have HC5 : Hid (c4 + 1 = c3 + ((rs.take (t + 1)).filter F).length) := (show _ = _ from HTK.out.symm)
                        clear HTK
                        go_wp2_with fail
                        go_roundw
                        case rel => exact ⟨t + 1, c4 + 1, by omega, by go_num, by go_num, HC5, by omega, hbn⟩
                        case measure => simp [intOf]; omega
                      case false =>
                        cases Q3
                        case true =>
                          have HC5 : Hid (c4 + 1 = c3 + ((rs.take (t + 1)).filter F).length) := (show _ = _ from HTK.out.symm)
                          clear HTK
                          go_wp2_with fail
                          go_roundw
                          case rel => exact ⟨t + 1, c4 + 1, by omega, by go_num, by go_num, HC5, by omega, hbn⟩
                          case measure => simp [intOf]; omega
                        case false =>
                          have HC5 : Hid (c4 = c3 + ((rs.take (t + 1)).filter F).length) := (show _ = _ from HTK.out.symm)
                          clear HTK
                          go_wp2_with fail
                          go_roundw
                          case rel => exact ⟨t + 1, c4, by omega, by go_num, by go_num, HC5, by omega, hbn⟩
                          case measure => simp [intOf]; omega
                  case false =>
                    have HC5 : Hid (c4 = c3 + ((rs.take (t + 1)).filter F).length) := (show _ = _ from HTK.out.symm)
                    clear HTK
                    go_wp2_with fail
                    go_roundw
                    case rel => exact ⟨t + 1, c4, by omega, by go_num, by go_num, HC5, by omega, hbn⟩
                    case measure => simp [intOf]; omega
end Go.Proofs.Ytdkmdcdoiaelfaa
