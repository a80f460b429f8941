/- The walk of the law on the reads of external.Triangles. -/
import Derived.Test.YtdkmdcdoiaelfaaExRdsP
import Derived.Test.YtdkmdcdoiaelfaaExAwk
import Derived.Test.YtdkmdcdoiaelfaaMkGraph
namespace Go.Proofs.Ytdkmdcdoiaelfaa
open Go.RowKit Go.BigFrame

set_option maxRecDepth 100000 in
set_option maxHeartbeats 3200000 in
theorem reads_law (a : Option Addr) (len cap : Nat) (x : Nat) (w : World) (hl : ListAt w a len) (hx : x < 256) :
    Calls Try.prog 3 #[.slice a len cap, .int .u8 x] w fun e w' => e = .returned (.bool true) ∧ Below w.heap.size w w' := by
  by_cases hfew : len ≤ 500
  case neg =>
    have hd : decide (len ≤ 500) = false := by simpa using hfew
    go_enter Try.func3, Try.ntmps3
    go_wp2_with (first
      | (go_at_call 14; refine (few_any _ _ _ _).mono ?_; rintro e w' ⟨rfl, rfl⟩)
      | (go_at_call 15; refine (awake36_any _).mono ?_; rintro e w' ⟨rfl, hb⟩))
    go_ret
    exact ⟨rfl, hb⟩
  case pos =>
  have hd : decide (len ≤ 500) = true := by simpa using hfew
  have hdk := deck_new (cap := cap) hl
  have hb1 : Below w.heap.size w (w.alloc (.cells #[.slice a len cap, .int .i64 0] 92)) := (Below.refl _ _).alloc (Nat.le_refl _) _
  obtain ⟨b, hb⟩ : ∃ b, x % 16 = b := ⟨_, rfl⟩
  have hb16 : b < 16 := by omega
  have e1 : ((x : Int)) % 16 = (b : Int) := by omega
  obtain ⟨G, hG⟩ : ∃ G, 1 + b = G := ⟨_, rfl⟩
  have e3 : (1 : Int) + (b : Int) = (G : Int) := by omega
  have hG1 : 1 ≤ G := by omega
  have hG2 : G ≤ 16 := by omega
  clear hb hG
  go_enter Try.func3, Try.ntmps3
  go_wp2_with (first
    | (go_at_call 14; refine (few_any _ _ _ _).mono ?_; rintro e w' ⟨rfl, rfl⟩)
    | (go_at_call 17; refine (new_any _ _ _ _).mono ?_; rintro e w' ⟨rfl, rfl⟩)
    | (go_at_call 16; refine (mkgraph_any w.heap.size 9 _ hdk (by omega) (by omega)).mono ?_; rintro e w2 ⟨n0, es, a2, cap2, rfl, he2, hv, hn9, hd2, hg2, ho2⟩))
  have hb2 : Below w.heap.size w w2 := below_deck hb1 hg2 (Nat.le_refl _) hb1.size
  have hck := (valid_iff n0 es).2 hv
  obtain ⟨n, rfl⟩ := Int.eq_ofNat_of_zero_le hv.1
  have hn9 : n ≤ 9 := by omega
  have hbx3 := (Below.refl w2.heap.size w2).alloc (Nat.le_refl _) (.cells #[.int .i64 n, .slice a2 es.length cap2] 27)
  have hb3 := hb2.trans (hbx3.mono hb2.size)
  have hbu := build34_any n a2 cap2 es 4 _ (he2.below hbx3)
  have hgr := graphR_rec hv (size := 4) (m := 64) (by omega) (by omega) (by omega) (by omega)
  have hlen := recN_len es n
  have hnn : n * n ≤ 9 * 9 := Nat.mul_le_mul hn9 hn9
  have hrok := fun e he => recN_ok hv e he
  have hbld : bldX n es 4 = (4, recN es n, 0) := by unfold bldX; rw [if_neg (by rw [hck]; simp), if_neg (by omega), Int.toNat_natCast]
  rw [hbld] at hbu
  unfold RGPost at hbu
  dsimp only at hbu
  obtain ⟨RS, hRS⟩ : ∃ R, recN es n = R := ⟨_, rfl⟩
  rw [hRS] at hbu hgr hlen hrok
  have HRO : Hid (∀ e ∈ RS, recOk e = true) := (show ∀ e ∈ RS, _ from fun e he => (hrok e he).1)
  have hl81 : RS.length ≤ 81 := by omega
  obtain ⟨CR, hCR⟩ : ∃ C, cubeR (redF RS G) G = C := ⟨_, rfl⟩
  obtain ⟨TR, hTR⟩ : ∃ C, cubeR (triF RS G) G = C := ⟨_, rfl⟩
  have htx : triXR 4 G RS = (TR, CR, 0) := by
    unfold triXR
    rw [hgr, if_neg (by simp), if_neg (by omega), Int.toNat_natCast, hCR, hTR]
  have hwl : wantL G RS = CR := by
    rw [← hCR, reads_all RS G hG1 hG2]
    intro e he
    have := (recOk_iff e).1 (HRO.out e he)
    omega
  have HTX := Lib.hid htx
  have HWL := Lib.hid hwl
  clear hCR hTR htx hwl hRS hrok hlen hnn hbld hgr hck hb1 hdk hd2 hg2 ho2 he2 hb2
  go_wp2_with fail
  refine hbu.mono ?_
  rintro e w4 ⟨a4, c4, rfl, he4, -, hb4⟩
  have hb04 := hb3.trans (hb4.mono hb3.size)
  obtain ⟨hx5, hbx5⟩ := boxG_new w4 #[.int .i64 4, .slice a4 RS.length c4] 33
  have hb05 := hb04.trans (hbx5.mono hb04.size)
  have he5 := he4.below hbx5
  obtain ⟨w5, hw5⟩ : ∃ W : World, W = w4.alloc (.cells #[.int .i64 4, .slice a4 RS.length c4] 33) := ⟨_, rfl⟩
  obtain ⟨Bx, hBx⟩ : ∃ B, w4.heap.size = B := ⟨_, rfl⟩
  rw [← hw5] at hx5 hb05 he5
  rw [hBx] at hx5
  have HW5 := Lib.hid hw5
  have HBx := Lib.hid hBx
  clear hw5 hBx hbx5 he4 hb4 hb04 hbu hbx3 hb3
  obtain ⟨k0, k1⟩ := cells2R hx5
  go_upto_region 5 with fail
  rw [← HW5.out, HBx.out]
  go_wp2_with fail
  go_loopw [9, 34] (fun vs vi wr => ∃ t s : Nat, t ≤ RS.length ∧ vi = .int .i64 t ∧ vs = .int .i64 s ∧ Hid (s = wantL G (RS.take t)) ∧ s ≤ t * 200 ∧ Below w5.heap.size w5 wr) (fun _ vi _ => RS.length - (intOf vi).toNat)
  case atStart => exact ⟨0, 0, Nat.zero_le _, rfl, rfl, (show _ = _ from rfl), Nat.le_refl _, Below.refl _ _⟩
  case round =>
    obtain ⟨t, s, ht, rfl, rfl, HS, hsb, hb⟩ := hrel
    by_cases hlt : t < RS.length
    · have hlt3 : (t : Int) < RS.length := by omega
      obtain ⟨b, off, x, y, rfl, hxy, -, -, c0, c1⟩ := (he5.below hb).at t hlt
      have hro := (recOk_iff _).1 (HRO.out _ (List.mem_of_getElem? hxy))
      dsimp only at hro
      obtain ⟨hx0, hx64, hy0, hy64⟩ : 0 ≤ x ∧ x < 64 ∧ 0 ≤ y ∧ y < 64 := by omega
      have hst : wantL G (RS.take (t + 1)) = s + wantE G (x, y) := by rw [take_at _ _ _ hxy, wantL_snoc, ← HS.out]
      have HST := Lib.hid hst
      obtain ⟨hXX, hXb⟩ := box_pair wr x y 37
      have hbX := hb.trans (hXb.mono hb.size)
      obtain ⟨wX, hwX⟩ : ∃ W : World, W = wr.alloc (.cells #[.int .i64 x, .int .i64 y] 37) := ⟨_, rfl⟩
      obtain ⟨X, hX⟩ : ∃ X, wr.heap.size = X := ⟨_, rfl⟩
      rw [← hwX] at hXX hbX
      rw [hX] at hXX
      have HWX := Lib.hid hwX
      have HX := Lib.hid hX
      clear hwX hX hXb hst hxy HS hro hb
      obtain ⟨x0, x1⟩ := cells2R hXX
      have hG0 : ((G : Int) == 0) = false := by simp; omega
      have hG3 : ¬ (G : Int) = 0 := by omega
      have hG4 : ¬ G = 0 := by omega
      obtain ⟨D, hD⟩ : ∃ D, (x % G == y % G) = D := ⟨_, rfl⟩
      have HD : Hid ((x.tmod G == y.tmod G) = D) := (show _ = _ by rw [Int.tmod_eq_emod_of_nonneg hx0, Int.tmod_eq_emod_of_nonneg hy0]; exact hD)
      go_upto_region 10 with fail
      rw [← HWX.out, HX.out]
      cases D
      · have HS2 : Hid (s + G = wantL G (RS.take (t + 1))) := (show _ = _ by rw [HST.out]; unfold wantE; rw [HD.out, if_neg (by simp)])
        go_wp2_with fail
        go_quiet (fail)
        have hb2 := hbX.drewN nq
        go_wp2_with fail
        go_roundw
        case rel => exact ⟨t + 1, s + G, by omega, by go_num, by go_num, HS2, by omega, hb2⟩
        case measure => simp [intOf]; omega
      · obtain ⟨T, hT⟩ : ∃ T, G * (G + 1) / 2 = T := ⟨_, rfl⟩
        have hTb : T ≤ 200 := by
          have : G * (G + 1) ≤ 16 * 17 := Nat.mul_le_mul hG2 (by omega)
          omega
        have hmul : (G : Int) * ((G : Int) + 1) = ((G * (G + 1) : Nat) : Int) := by simp
        obtain ⟨M, hM⟩ : ∃ M, G * (G + 1) = M := ⟨_, rfl⟩
        rw [hM] at hT hmul
        have hMb : M ≤ 500 := by omega
        have hq : (M : Int).tdiv 2 = (T : Int) := by rw [← hT]; rfl
        have hq2 : (M : Int) / 2 = (T : Int) := by omega
        have HS2 : Hid (s + T = wantL G (RS.take (t + 1))) := (show _ = _ by rw [HST.out]; unfold wantE; rw [HD.out, if_pos rfl, hM, hT])
        clear hT hM
        go_wp2_with fail
        go_quiet (fail)
        have hb2 := hbX.drewN nq
        go_wp2_with fail
        go_roundw
        case rel => exact ⟨t + 1, s + T, by omega, by go_num, by go_num, HS2, by omega, hb2⟩
        case measure => simp [intOf]; omega
    · obtain rfl : t = RS.length := by omega
      have hsC : s = CR := by rw [HS.out, List.take_length]; exact HWL.out
      subst hsC
      have hx6 := lit_next' hb hx5
      have hb06 := hb05.trans (hb.mono hb05.size)
      clear k0 k1
      obtain ⟨k0, k1⟩ := cells2R hx6
      have htr := extri_any 4 G a4 c4 RS wr (he5.below hb) (by omega)
      rw [HTX.out] at htr
      unfold T3Post at htr
      dsimp only at htr
      have hss : ((s : Int) == (s : Int)) = true := by simp
      clear HS HWL HTX
      go_wp2_with fail
      refine htr.mono ?_
      rintro e w7 ⟨rfl, hb7⟩
      have hb07 := hb06.trans (hb7.mono hb06.size)
      go_wp2_with fail
      refine (awake36_any _).mono ?_
      rintro e w8 ⟨rfl, hb8⟩
      have hb08 := hb07.trans (hb8.mono hb07.size)
      go_wp2_with fail
      go_ret
      exact ⟨rfl, hb08⟩
end Go.Proofs.Ytdkmdcdoiaelfaa
