/- The contract of the program's core numbers by passes. -/
import Derived.Test.YtdkmdcdoiaelfaaExFns
namespace Go.Proofs.Ytdkmdcdoiaelfaa
open Go.RowKit Go.BigFrame

def CPost (w : World) (r : List Int × Int × Int) (e : Ending) (w' : World) : Prop := ∃ a c, e = .returned (.tuple #[.slice a r.1.length c, .int .i64 r.2.1, .int .i64 r.2.2]) ∧ IntsAt w' (.slice a r.1.length c) r.1 ∧ (∀ p, a = some p → w.heap.size ≤ p.block) ∧ Below w.heap.size w w'
theorem runP_length (es : List E2) (n : Nat) : ∀ f x t, x.length = n → (runP es n f x t).1.length = n
  | 0, _, _, h => h
  | f + 1, x, t, h => by
    unfold runP
    split
    · exact h
    · exact runP_length es n f _ _ (passL_length _ _ _)
set_option maxRecDepth 100000 in
set_option maxHeartbeats 3200000 in
theorem excor_any (size m : Int) (a : Option Addr) (cap : Nat) (rs : List E2) (w : World) (he : EdgesAt w (.slice a rs.length cap) rs) (hl : rs.length ≤ 100000) :
    Calls Try.prog 20 #[.agg #[.int .i64 size, .slice a rs.length cap], .int .i64 m] w (CPost w (corXR size m rs)) := by
  obtain ⟨hxA, hb0⟩ := boxG_new w #[.int .i64 size, .slice a rs.length cap] 33
  obtain ⟨wA, hwA⟩ : ∃ W : World, W = w.alloc (.cells #[.int .i64 size, .slice a rs.length cap] 33) := ⟨_, rfl⟩
  rw [← hwA] at hxA hb0
  have HWA := Lib.hid hwA
  clear hwA
  have hgr := exdeg_any size m a cap rs wA (he.below hb0) hl
  unfold corXR CPost
  unfold degXR at hgr
  obtain ⟨⟨k, es, C⟩, hG⟩ : ∃ F, graphR size m rs = F := ⟨_, rfl⟩
  rw [hG] at hgr ⊢
  dsimp only at hgr ⊢
  obtain ⟨k0, k1⟩ := cells2R hxA
  by_cases hz : C = 0
  case neg =>
    rw [if_pos hz]
    rw [if_pos hz] at hgr
    have d1 : (C != 0) = true := by simpa using hz
    unfold TPost at hgr
    dsimp only [List.length_nil] at hgr ⊢
    clear hz hG
    go_enter Try.func20, Try.ntmps20
    go_wp2_with (rw [← HWA.out])
    refine hgr.mono ?_
    rintro e w1 ⟨ag, cg, rfl, -, -, hb1⟩
    have hb01 := hb0.trans (hb1.mono hb0.size)
    go_wp2_with fail
    go_ret3
    exact ⟨none, 0, rfl, ints_nil _, fun p h => (by cases h), hb01⟩
  subst hz
  rw [if_neg (by simp)]
  rw [if_neg (by simp)] at hgr
  obtain ⟨n, rfl, rfl, hv, rfl, -, -⟩ := graphR_of hG
  clear hG
  have hn64 : n ≤ 64 := by have := hv.2.1; omega
  rw [Int.toNat_natCast] at hgr ⊢
  unfold TPost at hgr
  dsimp only at hgr ⊢
  obtain ⟨⟨RL, RN⟩, hR⟩ : ∃ P, corsX es n = P := ⟨_, rfl⟩
  rw [hR]
  dsimp only
  obtain ⟨D, hD⟩ : ∃ D, degL es n = D := ⟨_, rfl⟩
  have hRL : RL.length = n := by
    have := runP_length es n (n * n + 1) (degL es n) 0 (degL_length _ _)
    rw [show runP es n (n * n + 1) (degL es n) 0 = (RL, RN) from hR] at this
    exact this
  have hrun : Hid (runP es n (n * n + 1 - 0) D 0 = (RL, RN)) := (show _ = _ from by rw [← hD]; exact hR)
  have hDl : D.length = n := by rw [← hD]; exact degL_length _ _
  rw [hD, hDl] at hgr
  rw [hRL]
  have HRL := Lib.hid hRL
  have HDL := Lib.hid hDl
  clear hR hD hRL hDl
  have hnn : n * n ≤ 4096 := Nat.le_trans (Nat.mul_le_mul hn64 hn64) (by decide)
  obtain ⟨nn, hnN⟩ : ∃ nn, n * n = nn := ⟨_, rfl⟩
  have hmul : IntKind.i64.wrap ((n : Int) * (n : Int)) = (nn : Int) := by
    rw [← hnN]
    have : (n : Int) * (n : Int) = ((n * n : Nat) : Int) := by simp
    rw [this]
    exact IntWalk.i64_in _ (by omega)
  rw [hnN] at hnn hrun
  have hadd : IntKind.i64.wrap ((nn : Int) + 1) = (nn : Int) + 1 := IntWalk.i64_in _ (by omega)
  clear hnN
  go_enter Try.func20, Try.ntmps20
  go_wp2_with (rw [← HWA.out])
  refine hgr.mono ?_
  rintro e w1 ⟨ad, cd, rfl, hid1, had, hb1⟩
  have hb01 := hb0.trans (hb1.mono hb0.size)
  have hx1 := lit_next' hb1 hxA
  clear k0 k1
  obtain ⟨k0, k1⟩ := cells2R hx1
  go_wp2_with fail
  refine (exnb_rec size n a cap es w1 hv (he.below hb01) hl).mono ?_
  rintro e w2 ⟨g, rfl, hg, hrows, hb2⟩
  have hb02 := hb01.trans (hb2.mono hb01.size)
  have hid2 := hid1.below hb2
  have had2 : ∀ p, ad = some p → w.heap.size ≤ p.block := fun p h => by have := had p h; have := hb0.size; omega
  have hD0 : IntsAt w2 (.slice ad n cd) D := hid2
  clear k0 k1 hb2 hid1 had hx1 hgr
  go_wp2_with fail
  go_loopw [7, 28] (fun vv vi wr => ∃ (t : Nat) (ax : Option Addr) (cx : Nat) (x : List Int), t ≤ nn + 1 ∧ vi = .int .i64 t ∧ vv = .slice ax n cx ∧ IntsAt wr (.slice ax n cx) x ∧ Hid (x.length = n) ∧ Hid (runP es n (nn + 1 - t) x t = (RL, RN)) ∧ (∀ p, ax = some p → w.heap.size ≤ p.block) ∧ Below w2.heap.size w2 wr) (fun _ vi _ => nn + 1 - (intOf vi).toNat)
  case atStart => exact ⟨0, ad, cd, D, Nat.zero_le _, rfl, rfl, hD0, HDL, hrun, had2, Below.refl _ _⟩
  case round =>
    clear hD0 hrun had2 hid2
    obtain ⟨t, ax, cx, x, ht, rfl, rfl, hix, HXL, HR, hax, hb⟩ := hrel
    have hbw := hb02.trans (hb.mono hb02.size)
    by_cases hlt : t < nn + 1
    · have hlt3 : (t : Int) < (nn : Int) + 1 := by omega
      have hps := pass_any (nbL es n) n (some ⟨g, 0, none⟩) ax n cx x wr (hrows.below hb) hix HXL.out hn64 (nb_ok hn64)
      obtain ⟨y, hy⟩ : ∃ y, passG (nbL es n) n x = y := ⟨_, rfl⟩
      rw [hy] at hps
      have hyl : y.length = n := by rw [← hy]; exact passG_length _ _ _
      have hrr := HR.out
      rw [show nn + 1 - t = (nn - t) + 1 by omega] at hrr
      unfold runP at hrr
      rw [← passG_nb, hy] at hrr
      have HRR := Lib.hid hrr
      have HYL := Lib.hid hyl
      clear hrr hyl hy
      go_wp2_with fail
      refine hps.mono ?_
      rintro e w5 ⟨g5, rfl, hg5, hn5, hb5⟩
      have hi5 := hn5.ints (by rw [HYL.out]; omega)
      rw [HYL.out] at hi5
      have hi5y : IntsAt w5 (.slice (some ⟨g5, 0, none⟩) y.length n) y := by rw [HYL.out]; exact hi5
      have hix5 : IntsAt w5 (.slice ax x.length cx) x := by rw [HXL.out]; exact hix.below hb5
      have hse := sequal_any (some ⟨g5, 0, none⟩) ax n cx y x w5 hi5y hix5
      rw [HYL.out, HXL.out] at hse
      have hb25 := hb.trans (hb5.mono hb.size)
      have hw1 : IntKind.i64.wrap ((t : Int) + 1) = (t : Int) + 1 := IntWalk.i64_in _ (by omega)
      by_cases hyx : y = x
      · rw [decide_eq_true hyx] at hse
        have hrr := HRR.out
        rw [if_pos hyx] at hrr
        obtain ⟨rfl, rfl⟩ := Prod.mk.inj hrr
        clear hrr HRR hyx hps HR
        go_wp2_with fail
        refine hse.mono ?_
        rintro e w6 ⟨rfl, hb6⟩
        have hix6 := (hix.below hb5).below hb6
        have hbf := (hbw.trans (hb5.mono hbw.size)).trans (hb6.mono (by have := hbw.size; have := hb5.size; omega))
        go_wp2_with fail
        go_ret3
        exact ⟨ax, cx, rfl, hix6, hax, hbf⟩
      · rw [decide_eq_false hyx] at hse
        have hrr := HRR.out
        rw [if_neg hyx] at hrr
        have HR2 : Hid (runP es n (nn + 1 - (t + 1)) y (t + 1) = (RL, RN)) := (show _ = _ by rw [← hrr]; congr 1; omega)
        clear hrr HRR hyx hps HR
        go_wp2_with fail
        refine hse.mono ?_
        rintro e w6 ⟨rfl, hb6⟩
        have hi6 := hi5.below hb6
        have hb26 := hb25.trans (hb6.mono hb25.size)
        go_wp2_with fail
        go_roundw
        case rel => exact ⟨t + 1, some ⟨g5, 0, none⟩, n, y, by omega, by go_num, rfl, hi6, HYL, HR2, (fun p h => by cases h; have := hbw.size; show w.heap.size ≤ g5; omega), hb26⟩
        case measure => simp [intOf]; omega
    · have hh : t = nn + 1 := by omega
      subst hh
      have hrr := HR.out
      rw [Nat.sub_self] at hrr
      obtain ⟨rfl, rfl⟩ := Prod.mk.inj (show (x, nn + 1) = (RL, RN) from hrr)
      have d9 : decide ((nn : Int) + 1 < (nn : Int) + 1) = false := by simp
      clear hrr HR
      go_wp2_with fail
      go_ret3
      exact ⟨ax, cx, rfl, hix, hax, hbw⟩
end Go.Proofs.Ytdkmdcdoiaelfaa
