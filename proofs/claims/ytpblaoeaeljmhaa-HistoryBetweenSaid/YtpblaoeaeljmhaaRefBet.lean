/- The reference's Between: the changes that lead from one state to another one. -/
import Derived.Test.YtpblaoeaeljmhaaRefBetP
import Derived.Test.YtpblaoeaeljmhaaHisBet
import Derived.Test.YtpblaoeaeljmhaaLkRef
import Derived.Test.YtpblaoeaeljmhaaLkRAp
namespace Go.Proofs.Ytpblaoeaeljmhaa
open Go.RowKit Go.BigFrame

def boxS (n : Int) (a : Option Addr) (m c : Nat) : Obj := .cells #[.int .i64 n, .slice a m c] 35 (0, 0)
set_option maxRecDepth 100000 in
set_option maxHeartbeats 12800000 in
theorem rbetween_any (n m : Int) (A B : List Lk) (t : Int) (aA aB : Option Addr) (cA cB : Nat) (w : World) (hA : RowAt encLk w (.slice aA A.length cA) A) (hB : RowAt encLk w (.slice aB B.length cB) B) :
    Calls Try.prog 26 #[.agg #[.int .i64 n, .slice aA A.length cA], .agg #[.int .i64 m, .slice aB B.length cB], .int .i64 t] w (BetPost w (betX n m A B t)) := by
  have hb1 := (Below.refl w.heap.size w).alloc (Nat.le_refl _) (.cells #[.int .i64 n, .slice aA A.length cA] 35)
  have hb2 := (Below.refl _ (w.alloc (.cells #[.int .i64 n, .slice aA A.length cA] 35))).alloc (Nat.le_refl _) (.cells #[.int .i64 m, .slice aB B.length cB] 35)
  have hP1 := lk_next hb2 (heap_alloc_new w (.cells #[.int .i64 n, .slice aA A.length cA] 35))
  have hQ1 := heap_alloc_new (w.alloc (.cells #[.int .i64 n, .slice aA A.length cA] 35)) (.cells #[.int .i64 m, .slice aB B.length cB] 35)
  have hz1 : (w.alloc (.cells #[.int .i64 n, .slice aA A.length cA] 35)).heap.size = w.heap.size + 1 := by simp
  rw [hz1] at hQ1
  have hbw := hb1.trans (hb2.mono hb1.size)
  have hA1 := hA.below hbw
  have hB1 := hB.below hbw
  have hck1 := rcheck05_any n aA cA A _ hA1
  have hck2 := fun W h => rcheck05_any m aB cB B W h
  obtain ⟨R, hR⟩ : ∃ R, betX n m A B t = R := ⟨_, rfl⟩
  rw [hR]
  unfold betX at hR
  have hvA := stS_iff n A
  have hvB := stS_iff m B
  obtain ⟨Z1, hZ1⟩ : ∃ Z, stS n A = Z := ⟨_, rfl⟩
  obtain ⟨Z2, hZ2⟩ : ∃ Z, stS m B = Z := ⟨_, rfl⟩
  rw [hZ1] at hck1 hR hvA
  rw [hZ2] at hck2 hR hvB
  clear hb1 hb2 hz1 hA hB hZ1 hZ2
  have p0 := cell_blk (j := 0) hP1
  have p1 := cell_blk (j := 1) hP1
  by_cases h1 : Z1 = 0
  case neg =>
    have d1 : (Z1 == 0) = false := by simpa using h1
    have d2 : (Z1 != 0) = true := by simpa using h1
    rw [if_pos h1] at hR
    subst hR
    clear hvA hvB hck2 h1
    go_enter Try.func26, Try.ntmps26
    go_wp2_with fail
    refine hck1.mono ?_
    rintro _ w3 ⟨rfl, hb3⟩
    go_wp2_with fail
    go_ret2
    exact ⟨none, 0, rfl, RowAt.nil _, hbw.trans (hb3.mono hbw.size)⟩
  rw [if_neg (by simpa using h1)] at hR
  have hVA := hvA.1 h1
  subst h1
  clear hvA
  by_cases h2 : Z2 = 0
  case neg =>
    have d1 : (Z2 == 0) = false := by simpa using h2
    have d2 : (Z2 != 0) = true := by simpa using h2
    rw [if_pos h2] at hR
    subst hR
    clear hvB h2
    go_enter Try.func26, Try.ntmps26
    go_wp2_with fail
    refine hck1.mono ?_
    rintro _ w3 ⟨rfl, hb3⟩
    have hQ3 := lk_next hb3 hQ1
    have q0 := cell_blk (j := 0) hQ3
    have q1 := cell_blk (j := 1) hQ3
    have hck3 := hck2 _ (hB1.below hb3)
    have hb03 := hbw.trans (hb3.mono hbw.size)
    clear p0 p1 hQ1 hP1 hB1 hA1 hck1 hck2 hb3
    go_wp2_with fail
    refine hck3.mono ?_
    rintro _ w4 ⟨rfl, hb4⟩
    go_wp2_with fail
    go_ret2
    exact ⟨none, 0, rfl, RowAt.nil _, hb03.trans (hb4.mono hb03.size)⟩
  rw [if_neg (by simpa using h2)] at hR
  have hVB := hvB.1 h2
  subst h2
  have HVA := Lib.hid hVA
  have HVB := Lib.hid hVB
  have hlA4 := hVA.length_le
  have hlB4 := hVB.length_le
  have HR := Lib.hid hR
  clear hvB hVA hVB hR
  go_enter Try.func26, Try.ntmps26
  go_wp2_with fail
  refine hck1.mono ?_
  rintro _ w3 ⟨rfl, hb3⟩
  have hP3 := lk_next hb3 hP1
  have hQ3 := lk_next hb3 hQ1
  have q0 := cell_blk (j := 0) hQ3
  have q1 := cell_blk (j := 1) hQ3
  have hA3 := hA1.below hb3
  have hB3 := hB1.below hb3
  have hck3 := hck2 _ hB3
  have hb03 := hbw.trans (hb3.mono hbw.size)
  clear p0 p1 hQ1 hP1 hB1 hA1 hck1 hck2 hb3 hbw
  go_wp2_with fail
  refine hck3.mono ?_
  rintro _ w4 ⟨rfl, hb4⟩
  have hP4 := lk_next hb4 hP3
  have hQ4 := lk_next hb4 hQ3
  have hA4 := hA3.below hb4
  have hB4 := hB3.below hb4
  have hb04 := hb03.trans (hb4.mono hb03.size)
  clear q0 q1 hQ3 hP3 hB3 hA3 hck3 hb4 hb03
  have p0 := cell_blk (j := 0) hP4
  have p1 := cell_blk (j := 1) hP4
  have q0 := cell_blk (j := 0) hQ4
  have q1 := cell_blk (j := 1) hQ4
  have hR := HR.out
  by_cases hnm : n = m
  case neg =>
    rw [if_pos hnm] at hR
    subst hR
    have d1 : (n == m) = false := by simpa using hnm
    have d2 : (n != m) = true := by simpa using hnm
    go_wp2_with fail
    go_ret2
    exact ⟨none, 0, rfl, RowAt.nil _, hb04⟩
  subst hnm
  rw [if_neg (by simp)] at hR
  by_cases ht0 : t < 0
  · rw [if_pos (.inl ht0)] at hR
    subst hR
    go_wp2_with fail
    go_ret2
    exact ⟨none, 0, rfl, RowAt.nil _, hb04⟩
  by_cases ht1 : 1048576 < t
  · rw [if_pos (.inr ht1)] at hR
    subst hR
    go_wp2_with fail
    go_ret2
    exact ⟨none, 0, rfl, RowAt.nil _, hb04⟩
  rw [if_neg (by omega), mrg_bet HVA.out HVB.out] at hR
  obtain ⟨RES, hRES⟩ : ∃ r, betU t n A B 0 n.toNat = r := ⟨_, rfl⟩
  rw [hRES] at hR
  subst hR
  obtain ⟨hn0, hn64, -, -⟩ := HVA.out
  obtain ⟨N, rfl⟩ := Int.eq_ofNat_of_zero_le hn0
  have HRES0 : Hid ([] ++ betU t N A B ((0 : Nat) : Int) (N - 0) = RES) := by show _ = _; rw [List.nil_append]; exact hRES
  have hN64 : N ≤ 64 := by omega
  clear HR hRES hn0 hn64
  go_wp2_with fail
  obtain ⟨Q, hQQ⟩ : ∃ Q, w.heap.size + 1 = Q := ⟨_, rfl⟩
  obtain ⟨P, hPP⟩ : ∃ P, w.heap.size = P := ⟨_, rfl⟩
  rw [hQQ] at hQ4 ⊢
  rw [hPP] at hP4 ⊢
  have HPP := Lib.hid hPP
  clear hQQ hPP p0 p1 q0 q1
  go_loopw [10, 38] (fun vo vu wr => ∃ (U : Nat) (out : List Ev) (ao : Option Addr) (no co : Nat), U ≤ N ∧ vu = .int .i64 U ∧ vo = .slice ao no co ∧ wr.ownsRow w4.heap.size 52 encEv.k (.slice ao no co) no (flatR encEv out) ∧ Hid (no = out.length) ∧ Below w4.heap.size w4 wr ∧ Hid (no ≤ U * 64) ∧ Hid (out ++ betU t N A B U (N - U) = RES)) (fun _ vu _ => N - (intOf vu).toNat)
  case atStart => exact ⟨0, [], none, 0, 0, Nat.zero_le _, rfl, rfl, World.ownsRow_nil _ _ _ _, rfl, Below.refl _ _, (show _ ≤ _ from Nat.zero_le _), HRES0⟩
  case round =>
    clear HRES0
    obtain ⟨U, out, ao, no, co, hU, rfl, rfl, hown, HNO, hbr, HN, HRES⟩ := hrel
    by_cases hlt : U < N
    · have hlt3 : (U : Int) < N := by omega
      obtain ⟨D, hD⟩ : ∃ D, N - U - 1 = D := ⟨_, rfl⟩
      have hres := HRES.out
      rw [show N - U = D + 1 by omega, betU, show ((N : Int) - U - 1).toNat = D by omega] at hres
      obtain ⟨TL, hTL⟩ : ∃ r, betU t N A B ((U : Int) + 1) D = r := ⟨_, rfl⟩
      rw [hTL] at hres
      have HTL : Hid (betU t N A B ((U + 1 : Nat) : Int) (N - (U + 1)) = TL) := by show _ = _; rw [← hTL, show N - (U + 1) = D by omega]; congr 1
      have HDD := Lib.hid hD
      have HRS : Hid (out ++ (betV t A B U ((U + 1 : Nat) : Int) (N - (U + 1)) ++ TL) = RES) := by show _ = _; rw [← hres, show N - (U + 1) = D by omega]; congr 1
      have v1 : IntKind.i64.wrap ((U : Int) + 1) = (U : Int) + 1 := IntWalk.i64_in _ (by omega)
      have HNU : Hid (no + (N - (U + 1)) ≤ U * 64 + N) := (show _ ≤ _ by have := HN.out; omega)
      clear hres hTL hD HRES HN
      go_wp2_with fail
      obtain ⟨wi, hwi⟩ : ∃ W : World, W = wr := ⟨_, rfl⟩
      subst hwi
      go_loopw [10, 12] (fun vo vv wr => ∃ (V : Nat) (out : List Ev) (ao : Option Addr) (no co : Nat), U + 1 ≤ V ∧ V ≤ N ∧ vv = .int .i64 V ∧ vo = .slice ao no co ∧ wr.ownsRow w4.heap.size 52 encEv.k (.slice ao no co) no (flatR encEv out) ∧ Hid (no = out.length) ∧ Below w4.heap.size w4 wr ∧ Hid (no + (N - V) ≤ U * 64 + N) ∧ Hid (out ++ (betV t A B U V (N - V) ++ TL) = RES)) (fun _ vv _ => N - (intOf vv).toNat)
      case atStart => exact ⟨U + 1, out, ao, no, co, Nat.le_refl _, hlt, by go_num, rfl, hown, HNO, hbr, HNU, HRS⟩
      case round =>
        clear hown HNO hbr HNU HRS
        obtain ⟨V, out, ao, no, co, hUV, hV, rfl, rfl, hownr, HNO, hbr, HN, HRES⟩ := hrel
        have hPr := lk_next hbr hP4
        have hQr := lk_next hbr hQ4
        have p0 := cell_blk (j := 0) hPr
        have p1 := cell_blk (j := 1) hPr
        have q0 := cell_blk (j := 0) hQr
        have q1 := cell_blk (j := 1) hQr
        by_cases hvl : V < N
        · have hvl3 : (V : Int) < N := by omega
          have hAr := hA4.below hbr
          have hBr := hB4.below hbr
          have hfA := fun z : Ext wr.heap.size wr => rfind05_any N U V A aA cA z.world (hAr.below z.below)
          have hfB := fun z : Ext wr.heap.size wr => rfind05_any N U V B aB cB z.world (hBr.below z.below)
          have hfa := lfS_fnd (u := (U : Int)) (v := (V : Int)) HVA.out (by omega)
          have hfb := lfS_fnd (u := (U : Int)) (v := (V : Int)) HVB.out (by omega)
          obtain ⟨I, hI⟩ : ∃ I, lfS N A U V = I := ⟨_, rfl⟩
          obtain ⟨K, hK⟩ : ∃ I, lfS N B U V = I := ⟨_, rfl⟩
          rw [hI] at hfA hfa
          rw [hK] at hfB hfb
          have hres := HRES.out
          rw [show N - V = (N - (V + 1)) + 1 by omega, betV] at hres
          have hbet : ∀ r, bet1 t A B U V = r → out ++ r ++ (betV t A B U ((V + 1 : Nat) : Int) (N - (V + 1)) ++ TL) = RES := fun r hr => by
            rw [hr] at hres
            rw [← hres]
            simp
          have HBET := Lib.hid hbet
          have HFA := Lib.hid hfa
          have HFB := Lib.hid hfb
          have HNN : Hid (no + 1 + (N - (V + 1)) ≤ U * 64 + N) := (show _ ≤ _ by have := HN.out; omega)
          have hnb := HN.out
          clear hres hbet hI hK hfa hfb HRES HN
          go_upto_region 18 with fail
          have kp0 : ∀ z : Ext wr.heap.size wr, z.world.cell? ⟨P, 0, none⟩ = some (.int .i64 (N : Int)) := fun z => cell_blk (j := 0) (lk_next z.below hPr)
          have kp1 : ∀ z : Ext wr.heap.size wr, z.world.cell? ⟨P, 1, none⟩ = some (.slice aA A.length cA) := fun z => cell_blk (j := 1) (lk_next z.below hPr)
          have kq0 : ∀ z : Ext wr.heap.size wr, z.world.cell? ⟨Q, 0, none⟩ = some (.int .i64 (N : Int)) := fun z => cell_blk (j := 0) (lk_next z.below hQr)
          have kq1 : ∀ z : Ext wr.heap.size wr, z.world.cell? ⟨Q, 1, none⟩ = some (.slice aB B.length cB) := fun z => cell_blk (j := 1) (lk_next z.below hQr)
          refine wp_region_ext wr.heap.size wr (by kernel_rfl) (by kernel_rfl) (Below.refl _ _) ?_
          try simp only [List.append_eq, List.cons_append, List.nil_append]
          repeat (any_goals (go_big_quiet_step (first | (go_at_call 14; with_reducible exact Calls.ext_of (Nat.le_refl _) (hfA _)) | (go_at_call 14; with_reducible exact Calls.ext_of (Nat.le_refl _) (hfB _)))))
          refine wpQuiet_nil ?_
          rintro wr ⟨⟨_, hqq⟩, rfl⟩
          have hownr := hownr.kept (grown_of_below hqq) (Classical.em _)
          have hAr := hAr.below hqq
          have hBr := hBr.below hqq
          have hPr := lk_next hqq hPr
          have hQr := lk_next hqq hQr
          have hbr := hbr.trans (hqq.mono hbr.size)
          clear kp0 kp1 kq0 kq1 hfA hfB p0 p1 q0 q1 hqq
          have p0 := cell_blk (j := 0) hPr
          have p1 := cell_blk (j := 1) hPr
          have q0 := cell_blk (j := 0) hQr
          have q1 := cell_blk (j := 1) hQr
          rcases HFA.out with ⟨rfl, hA0⟩ | ⟨i, x, rfl, hxi, hfx, hxu, hxv⟩ <;> rcases HFB.out with ⟨rfl, hB0⟩ | ⟨k, y, rfl, hyk, hfy, hyu, hyv⟩
          · --NONE
            have hbt : bet1 t A B U V = [] := by unfold bet1; rw [hA0, hB0]
            clear HFA HFB hA0 hB0
            go_wp2_with fail
            go_quiet (fail)
            have bq := (Below.refl wr.heap.size wr).drewN nq
            have hownr := hownr.kept (grown_of_below bq) (Classical.em _)
            have hAr := hAr.below bq
            have hBr := hBr.below bq
            have hPr := lk_next bq hPr
            have hQr := lk_next bq hQr
            have hbr := hbr.drewN nq
            obtain ⟨wr, hwr⟩ : ∃ W : World, wr.drewN nq = W := ⟨_, rfl⟩
            rw [hwr] at hownr hAr hBr hPr hQr hbr ⊢
            clear hwr bq p0 p1 q0 q1
            have p0 := cell_blk (j := 0) hPr
            have p1 := cell_blk (j := 1) hPr
            have q0 := cell_blk (j := 0) hQr
            have q1 := cell_blk (j := 1) hQr
            have HRS := Lib.hid (HBET.out _ hbt)
            rw [List.append_nil] at HRS
            have HN1 : Hid (no + (N - (V + 1)) ≤ U * 64 + N) := (show _ ≤ _ by have := HNN.out; omega)
            clear hbt HBET HNN
            go_wp2_with fail
            go_roundw
            case rel =>
              first
                | exact ⟨V + 1, out, ao, no, co, by omega, hvl, by go_num, rfl, hownr, HNO, hbr, HN1, HRS⟩
                | ((repeat apply Exists.intro); exact ⟨⟨V + 1, out, ao, no, co, by omega, hvl, by go_num, rfl, hownr, HNO, hbr, HN1, HRS⟩, rfl⟩)
            case measure => simp [intOf]; omega
          · --ONLY B
            have hbt : bet1 t A B U V = [setEv y t] := by unfold bet1; rw [hA0, hfy]
            clear HFA HFB hA0 hfy
            go_wp2_with fail
            go_quiet (fail)
            have bq := (Below.refl wr.heap.size wr).drewN nq
            have hownr := hownr.kept (grown_of_below bq) (Classical.em _)
            have hAr := hAr.below bq
            have hBr := hBr.below bq
            have hPr := lk_next bq hPr
            have hQr := lk_next bq hQr
            have hbr := hbr.drewN nq
            obtain ⟨wr, hwr⟩ : ∃ W : World, wr.drewN nq = W := ⟨_, rfl⟩
            rw [hwr] at hownr hAr hBr hPr hQr hbr ⊢
            clear hwr bq p0 p1 q0 q1
            have p0 := cell_blk (j := 0) hPr
            have p1 := cell_blk (j := 1) hPr
            have q0 := cell_blk (j := 0) hQr
            have q1 := cell_blk (j := 1) hQr
            obtain ⟨by', oy, y2, rfl, hy2, hcapy, c0, c1, c2, c3, c4, c5⟩ := lk_at hBr k (List.getElem?_eq_some_iff.1 hyk).1
            obtain rfl : y = y2 := by rw [hyk] at hy2; exact Option.some.inj hy2
            have hkl := (List.getElem?_eq_some_iff.1 hyk).1
            have hkl3 : (k : Int) < B.length := by omega
            obtain ⟨yu, yv, yw, yl, ys, yt⟩ := y
            dsimp only at hyu hyv
            clear hyu hyv
            have hcon := fun W => rset05_any ⟨yu, yv, yw, yl, ys, yt⟩ t W
            unfold setEv Ev.cells at hcon
            clear hyk hy2
            have HRS := Lib.hid (HBET.out _ hbt)
            clear hbt HBET
            unfold Lk.cells at hcon
            dsimp only at hcon c0 c1 c2 c3 c4 c5
            go_wp2_with fail
            refine (hcon _).mono ?_
            rintro _ w5 ⟨rfl, hb5⟩
            have hown5 := (hownr.kept (grown_of_below hb5) (Classical.em _)).alloc (.cells #[.int .i64 1, .int .i64 t, .int .i64 yu, .int .i64 yv, .int .i64 yw, .int .i64 yl, .int .i64 ys] 52)
            have hlx5 := rows_lit1 (E := encEv) w5 (setEv ⟨yu, yv, yw, yl, ys, yt⟩ t) 52 #[.int .i64 1, .int .i64 t, .int .i64 yu, .int .i64 yv, .int .i64 yw, .int .i64 yl, .int .i64 ys] rfl
            have hb5B := hbr.trans (hb5.mono hbr.size)
            have hb5A := hb5B.alloc hb5B.size (.cells #[.int .i64 1, .int .i64 t, .int .i64 yu, .int .i64 yv, .int .i64 yw, .int .i64 yl, .int .i64 ys] 52)
            clear hb5 hb5B hownr hbr hcon c0 c1 c2 c3 c4 c5 p0 p1 q0 q1 hAr hBr hPr hQr
            go_wp2_with (at_builtin; refine wpList_app_rows evRT rfl _ _ rfl w4.heap.size (.slice ao no co) _ out [(setEv ⟨yu, yv, yw, yl, ys, yt⟩ t)] rfl (by rw [← HNO.out]; exact hown5) rfl (by exact hlx5) (by rw [← HNO.out]; simp; omega) (by rw [← HNO.out]; simp; omega) hb5A.size ?_; intro v6 w6 hown6 hg6)
            have hb6 := hb5A.grown hg6 hb5A.size (fun g e => (hown5.lt g e).1)
            have hl6 : (out ++ [(setEv ⟨yu, yv, yw, yl, ys, yt⟩ t)]).length = no + 1 := by rw [List.length_append, ← HNO.out]; rfl
            rw [hl6] at hown6
            obtain ⟨a6, c6, rfl⟩ := owns_shape hown6
            have HNO6 : Hid (no + 1 = (out ++ [(setEv ⟨yu, yv, yw, yl, ys, yt⟩ t)]).length) := hl6.symm
            clear hl6 hg6
            go_wp2_with fail
            go_roundw
            case rel =>
              first
                | exact ⟨V + 1, _, a6, no + 1, c6, by omega, hvl, by go_num, rfl, hown6, HNO6, hb6, HNN, HRS⟩
                | ((repeat apply Exists.intro); exact ⟨⟨V + 1, _, a6, no + 1, c6, by omega, hvl, by go_num, rfl, hown6, HNO6, hb6, HNN, HRS⟩, rfl⟩)
            case measure => simp [intOf]; omega
          · --ONLY A
            have hbt : bet1 t A B U V = [cutEv x t] := by unfold bet1; rw [hfx, hB0]
            clear HFA HFB hB0 hfx
            obtain ⟨bx, ox, x2, rfl, hx2, hcapx, c0, c1, c2, c3, c4, c5⟩ := lk_at hAr i (List.getElem?_eq_some_iff.1 hxi).1
            obtain rfl : x = x2 := by rw [hxi] at hx2; exact Option.some.inj hx2
            have hil := (List.getElem?_eq_some_iff.1 hxi).1
            have hil3 : (i : Int) < A.length := by omega
            obtain ⟨xu, xv, xw, xl, xs, xt⟩ := x
            dsimp only at hxu hxv
            clear hxu hxv
            have hcon := fun W => rcut05_any ⟨xu, xv, xw, xl, xs, xt⟩ t W
            unfold cutEv Ev.cells at hcon
            clear hxi hx2
            have HRS := Lib.hid (HBET.out _ hbt)
            clear hbt HBET
            unfold Lk.cells at hcon
            dsimp only at hcon c0 c1 c2 c3 c4 c5
            go_wp2_with fail
            refine (hcon _).mono ?_
            rintro _ w5 ⟨rfl, hb5⟩
            have hown5 := (hownr.kept (grown_of_below hb5) (Classical.em _)).alloc (.cells #[.int .i64 2, .int .i64 t, .int .i64 xu, .int .i64 xv, .int .i64 0, .int .i64 0, .int .i64 0] 52)
            have hlx5 := rows_lit1 (E := encEv) w5 (cutEv ⟨xu, xv, xw, xl, xs, xt⟩ t) 52 #[.int .i64 2, .int .i64 t, .int .i64 xu, .int .i64 xv, .int .i64 0, .int .i64 0, .int .i64 0] rfl
            have hb5B := hbr.trans (hb5.mono hbr.size)
            have hb5A := hb5B.alloc hb5B.size (.cells #[.int .i64 2, .int .i64 t, .int .i64 xu, .int .i64 xv, .int .i64 0, .int .i64 0, .int .i64 0] 52)
            clear hb5 hb5B hownr hbr hcon c0 c1 c2 c3 c4 c5 p0 p1 q0 q1 hAr hBr hPr hQr
            go_wp2_with (at_builtin; refine wpList_app_rows evRT rfl _ _ rfl w4.heap.size (.slice ao no co) _ out [(cutEv ⟨xu, xv, xw, xl, xs, xt⟩ t)] rfl (by rw [← HNO.out]; exact hown5) rfl (by exact hlx5) (by rw [← HNO.out]; simp; omega) (by rw [← HNO.out]; simp; omega) hb5A.size ?_; intro v6 w6 hown6 hg6)
            have hb6 := hb5A.grown hg6 hb5A.size (fun g e => (hown5.lt g e).1)
            have hl6 : (out ++ [(cutEv ⟨xu, xv, xw, xl, xs, xt⟩ t)]).length = no + 1 := by rw [List.length_append, ← HNO.out]; rfl
            rw [hl6] at hown6
            obtain ⟨a6, c6, rfl⟩ := owns_shape hown6
            have HNO6 : Hid (no + 1 = (out ++ [(cutEv ⟨xu, xv, xw, xl, xs, xt⟩ t)]).length) := hl6.symm
            clear hl6 hg6
            go_wp2_with fail
            go_roundw
            case rel =>
              first
                | exact ⟨V + 1, _, a6, no + 1, c6, by omega, hvl, by go_num, rfl, hown6, HNO6, hb6, HNN, HRS⟩
                | ((repeat apply Exists.intro); exact ⟨⟨V + 1, _, a6, no + 1, c6, by omega, hvl, by go_num, rfl, hown6, HNO6, hb6, HNN, HRS⟩, rfl⟩)
            case measure => simp [intOf]; omega
          · --BOTH
            have hbt0 : bet1 t A B U V = if setEv x t = setEv y t then [] else [setEv y t] := by unfold bet1; rw [hfx, hfy]
            have hsame := setEv_same (x := x) (y := y) (t := t) (by rw [sameE_iff]; exact ⟨hxu.trans hyu.symm, hxv.trans hyv.symm⟩)
            clear HFA HFB hfx hfy
            obtain ⟨bx, ox, x2, rfl, hx2, hcapx, c0, c1, c2, c3, c4, c5⟩ := lk_at hAr i (List.getElem?_eq_some_iff.1 hxi).1
            obtain rfl : x = x2 := by rw [hxi] at hx2; exact Option.some.inj hx2
            have hil := (List.getElem?_eq_some_iff.1 hxi).1
            have hil3 : (i : Int) < A.length := by omega
            obtain ⟨xu, xv, xw, xl, xs, xt⟩ := x
            have xk : ∀ (g j : Nat) (v : Value), wr.cell? ⟨g, j, none⟩ = some v → ∀ z : Ext wr.heap.size wr, z.world.cell? ⟨g, j, none⟩ = some v := fun g j v h z => (z.below.cell (p := ⟨g, j, none⟩) (cell_lt h)).trans h
            dsimp only at c0 c1 c2 c3 c4 c5
            have d0 := xk _ _ _ c0
            have d1 := xk _ _ _ c1
            have d2 := xk _ _ _ c2
            have d3 := xk _ _ _ c3
            have d4 := xk _ _ _ c4
            have d5 := xk _ _ _ c5
            clear c0 c1 c2 c3 c4 c5
            obtain ⟨by', oy, y2, rfl, hy2, hcapy, c0, c1, c2, c3, c4, c5⟩ := lk_at hBr k (List.getElem?_eq_some_iff.1 hyk).1
            obtain rfl : y = y2 := by rw [hyk] at hy2; exact Option.some.inj hy2
            have hkl := (List.getElem?_eq_some_iff.1 hyk).1
            have hkl3 : (k : Int) < B.length := by omega
            obtain ⟨yu, yv, yw, yl, ys, yt⟩ := y
            dsimp only at hxu hxv hyu hyv c0 c1 c2 c3 c4 c5
            subst xu
            subst xv
            subst yu
            subst yv
            have e0 := xk _ _ _ c0
            have e1 := xk _ _ _ c1
            have e2 := xk _ _ _ c2
            have e3 := xk _ _ _ c3
            have e4 := xk _ _ _ c4
            have e5 := xk _ _ _ c5
            have kp0 : ∀ z : Ext wr.heap.size wr, z.world.cell? ⟨P, 0, none⟩ = some (.int .i64 (N : Int)) := fun z => cell_blk (j := 0) (lk_next z.below hPr)
            have kp1 := fun z : Ext wr.heap.size wr => (z.below.cell (p := ⟨P, 1, none⟩) (blk_lt hPr)).trans p1
            have kq1 := fun z : Ext wr.heap.size wr => (z.below.cell (p := ⟨Q, 1, none⟩) (blk_lt hQr)).trans q1
            simp only [List.getElem?_toArray, List.getElem?_cons_succ, List.getElem?_cons_zero] at kp1 kq1
            have hs1 := fun z : Ext wr.heap.size wr => rset05_any ⟨U, V, xw, xl, xs, xt⟩ t z.world
            have hs2 := fun z : Ext wr.heap.size wr => rset05_any ⟨U, V, yw, yl, ys, yt⟩ t z.world
            unfold setEv Ev.cells Lk.cells at hs1 hs2
            dsimp only at hs1 hs2
            clear xk hxi hx2 hyk hy2 hAr hBr
            have j1 : decide ((i : Int) < 0) = false := decide_eq_false (by omega)
            have j2 : (0 : Int) ≤ (k : Int) := by omega
            have j3 : (0 : Int) ≤ (i : Int) := by omega
            have j4 : decide ((0 : Int) ≤ (k : Int)) = true := decide_eq_true j2
            go_upto_region 21 with fail
            by_cases hew : xw = yw
            case neg =>
              have g1 : (xw == yw) = false := by simpa using hew
              have g2 : decide (xw = yw) = false := by simpa using hew
              rw [if_neg (fun h => by have := hsame.1 h; simp [sameA, hew] at this)] at hbt0
              have hbt := hbt0
              clear hbt0 hsame hew
              refine wp_region_ext wr.heap.size wr (by kernel_rfl) (by kernel_rfl) (Below.refl _ _) ?_
              try simp only [List.append_eq, List.cons_append, List.nil_append]
              repeat (any_goals (go_big_quiet_step (first | (go_at_call 44; with_reducible exact Calls.ext_of (Nat.le_refl _) (hs1 _)) | (go_at_call 44; with_reducible exact Calls.ext_of (Nat.le_refl _) (hs2 _)))))
              refine wpQuiet_nil ?_
              rintro wr ⟨⟨_, hqq⟩, rfl⟩
              have hownr := hownr.kept (grown_of_below hqq) (Classical.em _)
              have hPr := lk_next hqq hPr
              have hQr := lk_next hqq hQr
              have hbr := hbr.trans (hqq.mono hbr.size)
              clear kp0 kp1 kq1 hs1 hs2 p0 p1 q0 q1 d0 d1 d2 d3 d4 d5 e0 e1 e2 e3 e4 e5

              have c0 := (hqq.cell (p := ⟨by', oy + k * 6, none⟩) (cell_lt c0)).trans c0
              have c1 := (hqq.cell (p := ⟨by', oy + k * 6 + 1, none⟩) (cell_lt c1)).trans c1
              have c2 := (hqq.cell (p := ⟨by', oy + k * 6 + 2, none⟩) (cell_lt c2)).trans c2
              have c3 := (hqq.cell (p := ⟨by', oy + k * 6 + 3, none⟩) (cell_lt c3)).trans c3
              have c4 := (hqq.cell (p := ⟨by', oy + k * 6 + 4, none⟩) (cell_lt c4)).trans c4
              have c5 := (hqq.cell (p := ⟨by', oy + k * 6 + 5, none⟩) (cell_lt c5)).trans c5
              have p0 := cell_blk (j := 0) hPr
              have p1 := cell_blk (j := 1) hPr
              have q0 := cell_blk (j := 0) hQr
              have q1 := cell_blk (j := 1) hQr
              have hcon := fun W => rset05_any ⟨U, V, yw, yl, ys, yt⟩ t W
              unfold setEv Ev.cells at hcon
              clear g1 g2 hqq

              have HRS := Lib.hid (HBET.out _ hbt)
              clear hbt HBET
              unfold Lk.cells at hcon
              dsimp only at hcon c0 c1 c2 c3 c4 c5
              go_wp2_with fail
              refine (hcon _).mono ?_
              rintro _ w5 ⟨rfl, hb5⟩
              have hown5 := (hownr.kept (grown_of_below hb5) (Classical.em _)).alloc (.cells #[.int .i64 1, .int .i64 t, .int .i64 (U : Int), .int .i64 (V : Int), .int .i64 yw, .int .i64 yl, .int .i64 ys] 52)
              have hlx5 := rows_lit1 (E := encEv) w5 (setEv ⟨U, V, yw, yl, ys, yt⟩ t) 52 #[.int .i64 1, .int .i64 t, .int .i64 (U : Int), .int .i64 (V : Int), .int .i64 yw, .int .i64 yl, .int .i64 ys] rfl
              have hb5B := hbr.trans (hb5.mono hbr.size)
              have hb5A := hb5B.alloc hb5B.size (.cells #[.int .i64 1, .int .i64 t, .int .i64 (U : Int), .int .i64 (V : Int), .int .i64 yw, .int .i64 yl, .int .i64 ys] 52)
              clear hb5 hb5B hownr hbr hcon c0 c1 c2 c3 c4 c5 p0 p1 q0 q1 hPr hQr
              go_wp2_with (at_builtin; refine wpList_app_rows evRT rfl _ _ rfl w4.heap.size (.slice ao no co) _ out [(setEv ⟨U, V, yw, yl, ys, yt⟩ t)] rfl (by rw [← HNO.out]; exact hown5) rfl (by exact hlx5) (by rw [← HNO.out]; simp; omega) (by rw [← HNO.out]; simp; omega) hb5A.size ?_; intro v6 w6 hown6 hg6)
              have hb6 := hb5A.grown hg6 hb5A.size (fun g e => (hown5.lt g e).1)
              have hl6 : (out ++ [(setEv ⟨U, V, yw, yl, ys, yt⟩ t)]).length = no + 1 := by rw [List.length_append, ← HNO.out]; rfl
              rw [hl6] at hown6
              obtain ⟨a6, c6, rfl⟩ := owns_shape hown6
              have HNO6 : Hid (no + 1 = (out ++ [(setEv ⟨U, V, yw, yl, ys, yt⟩ t)]).length) := hl6.symm
              clear hl6 hg6
              go_wp2_with fail
              go_roundw
              case rel =>
                first
                  | exact ⟨V + 1, _, a6, no + 1, c6, by omega, hvl, by go_num, rfl, hown6, HNO6, hb6, HNN, HRS⟩
                  | ((repeat apply Exists.intro); exact ⟨⟨V + 1, _, a6, no + 1, c6, by omega, hvl, by go_num, rfl, hown6, HNO6, hb6, HNN, HRS⟩, rfl⟩)
              case measure => simp [intOf]; omega
            case pos =>
            by_cases hel : xl = yl
            case neg =>
              have g1 : (xl == yl) = false := by simpa using hel
              have g2 : decide (xl = yl) = false := by simpa using hel
              rw [if_neg (fun h => by have := hsame.1 h; simp [sameA, hel] at this)] at hbt0
              have hbt := hbt0
              clear hbt0 hsame hel
              subst xw
              refine wp_region_ext wr.heap.size wr (by kernel_rfl) (by kernel_rfl) (Below.refl _ _) ?_
              try simp only [List.append_eq, List.cons_append, List.nil_append]
              repeat (any_goals (go_big_quiet_step (first | (go_at_call 44; with_reducible exact Calls.ext_of (Nat.le_refl _) (hs1 _)) | (go_at_call 44; with_reducible exact Calls.ext_of (Nat.le_refl _) (hs2 _)))))
              refine wpQuiet_nil ?_
              rintro wr ⟨⟨_, hqq⟩, rfl⟩
              have hownr := hownr.kept (grown_of_below hqq) (Classical.em _)
              have hPr := lk_next hqq hPr
              have hQr := lk_next hqq hQr
              have hbr := hbr.trans (hqq.mono hbr.size)
              clear kp0 kp1 kq1 hs1 hs2 p0 p1 q0 q1 d0 d1 d2 d3 d4 d5 e0 e1 e2 e3 e4 e5

              have c0 := (hqq.cell (p := ⟨by', oy + k * 6, none⟩) (cell_lt c0)).trans c0
              have c1 := (hqq.cell (p := ⟨by', oy + k * 6 + 1, none⟩) (cell_lt c1)).trans c1
              have c2 := (hqq.cell (p := ⟨by', oy + k * 6 + 2, none⟩) (cell_lt c2)).trans c2
              have c3 := (hqq.cell (p := ⟨by', oy + k * 6 + 3, none⟩) (cell_lt c3)).trans c3
              have c4 := (hqq.cell (p := ⟨by', oy + k * 6 + 4, none⟩) (cell_lt c4)).trans c4
              have c5 := (hqq.cell (p := ⟨by', oy + k * 6 + 5, none⟩) (cell_lt c5)).trans c5
              have p0 := cell_blk (j := 0) hPr
              have p1 := cell_blk (j := 1) hPr
              have q0 := cell_blk (j := 0) hQr
              have q1 := cell_blk (j := 1) hQr
              have hcon := fun W => rset05_any ⟨U, V, yw, yl, ys, yt⟩ t W
              unfold setEv Ev.cells at hcon
              clear g1 g2 hqq

              have HRS := Lib.hid (HBET.out _ hbt)
              clear hbt HBET
              unfold Lk.cells at hcon
              dsimp only at hcon c0 c1 c2 c3 c4 c5
              go_wp2_with fail
              refine (hcon _).mono ?_
              rintro _ w5 ⟨rfl, hb5⟩
              have hown5 := (hownr.kept (grown_of_below hb5) (Classical.em _)).alloc (.cells #[.int .i64 1, .int .i64 t, .int .i64 (U : Int), .int .i64 (V : Int), .int .i64 yw, .int .i64 yl, .int .i64 ys] 52)
              have hlx5 := rows_lit1 (E := encEv) w5 (setEv ⟨U, V, yw, yl, ys, yt⟩ t) 52 #[.int .i64 1, .int .i64 t, .int .i64 (U : Int), .int .i64 (V : Int), .int .i64 yw, .int .i64 yl, .int .i64 ys] rfl
              have hb5B := hbr.trans (hb5.mono hbr.size)
              have hb5A := hb5B.alloc hb5B.size (.cells #[.int .i64 1, .int .i64 t, .int .i64 (U : Int), .int .i64 (V : Int), .int .i64 yw, .int .i64 yl, .int .i64 ys] 52)
              clear hb5 hb5B hownr hbr hcon c0 c1 c2 c3 c4 c5 p0 p1 q0 q1 hPr hQr
              go_wp2_with (at_builtin; refine wpList_app_rows evRT rfl _ _ rfl w4.heap.size (.slice ao no co) _ out [(setEv ⟨U, V, yw, yl, ys, yt⟩ t)] rfl (by rw [← HNO.out]; exact hown5) rfl (by exact hlx5) (by rw [← HNO.out]; simp; omega) (by rw [← HNO.out]; simp; omega) hb5A.size ?_; intro v6 w6 hown6 hg6)
              have hb6 := hb5A.grown hg6 hb5A.size (fun g e => (hown5.lt g e).1)
              have hl6 : (out ++ [(setEv ⟨U, V, yw, yl, ys, yt⟩ t)]).length = no + 1 := by rw [List.length_append, ← HNO.out]; rfl
              rw [hl6] at hown6
              obtain ⟨a6, c6, rfl⟩ := owns_shape hown6
              have HNO6 : Hid (no + 1 = (out ++ [(setEv ⟨U, V, yw, yl, ys, yt⟩ t)]).length) := hl6.symm
              clear hl6 hg6
              go_wp2_with fail
              go_roundw
              case rel =>
                first
                  | exact ⟨V + 1, _, a6, no + 1, c6, by omega, hvl, by go_num, rfl, hown6, HNO6, hb6, HNN, HRS⟩
                  | ((repeat apply Exists.intro); exact ⟨⟨V + 1, _, a6, no + 1, c6, by omega, hvl, by go_num, rfl, hown6, HNO6, hb6, HNN, HRS⟩, rfl⟩)
              case measure => simp [intOf]; omega
            case pos =>
            by_cases hes : xs = ys
            case neg =>
              have g1 : (xs == ys) = false := by simpa using hes
              have g2 : decide (xs = ys) = false := by simpa using hes
              rw [if_neg (fun h => by have := hsame.1 h; simp [sameA, hes] at this)] at hbt0
              have hbt := hbt0
              clear hbt0 hsame hes
              subst xw
              subst xl
              refine wp_region_ext wr.heap.size wr (by kernel_rfl) (by kernel_rfl) (Below.refl _ _) ?_
              try simp only [List.append_eq, List.cons_append, List.nil_append]
              repeat (any_goals (go_big_quiet_step (first | (go_at_call 44; with_reducible exact Calls.ext_of (Nat.le_refl _) (hs1 _)) | (go_at_call 44; with_reducible exact Calls.ext_of (Nat.le_refl _) (hs2 _)))))
              refine wpQuiet_nil ?_
              rintro wr ⟨⟨_, hqq⟩, rfl⟩
              have hownr := hownr.kept (grown_of_below hqq) (Classical.em _)
              have hPr := lk_next hqq hPr
              have hQr := lk_next hqq hQr
              have hbr := hbr.trans (hqq.mono hbr.size)
              clear kp0 kp1 kq1 hs1 hs2 p0 p1 q0 q1 d0 d1 d2 d3 d4 d5 e0 e1 e2 e3 e4 e5

              have c0 := (hqq.cell (p := ⟨by', oy + k * 6, none⟩) (cell_lt c0)).trans c0
              have c1 := (hqq.cell (p := ⟨by', oy + k * 6 + 1, none⟩) (cell_lt c1)).trans c1
              have c2 := (hqq.cell (p := ⟨by', oy + k * 6 + 2, none⟩) (cell_lt c2)).trans c2
              have c3 := (hqq.cell (p := ⟨by', oy + k * 6 + 3, none⟩) (cell_lt c3)).trans c3
              have c4 := (hqq.cell (p := ⟨by', oy + k * 6 + 4, none⟩) (cell_lt c4)).trans c4
              have c5 := (hqq.cell (p := ⟨by', oy + k * 6 + 5, none⟩) (cell_lt c5)).trans c5
              have p0 := cell_blk (j := 0) hPr
              have p1 := cell_blk (j := 1) hPr
              have q0 := cell_blk (j := 0) hQr
              have q1 := cell_blk (j := 1) hQr
              have hcon := fun W => rset05_any ⟨U, V, yw, yl, ys, yt⟩ t W
              unfold setEv Ev.cells at hcon
              clear g1 g2 hqq

              have HRS := Lib.hid (HBET.out _ hbt)
              clear hbt HBET
              unfold Lk.cells at hcon
              dsimp only at hcon c0 c1 c2 c3 c4 c5
              go_wp2_with fail
              refine (hcon _).mono ?_
              rintro _ w5 ⟨rfl, hb5⟩
              have hown5 := (hownr.kept (grown_of_below hb5) (Classical.em _)).alloc (.cells #[.int .i64 1, .int .i64 t, .int .i64 (U : Int), .int .i64 (V : Int), .int .i64 yw, .int .i64 yl, .int .i64 ys] 52)
              have hlx5 := rows_lit1 (E := encEv) w5 (setEv ⟨U, V, yw, yl, ys, yt⟩ t) 52 #[.int .i64 1, .int .i64 t, .int .i64 (U : Int), .int .i64 (V : Int), .int .i64 yw, .int .i64 yl, .int .i64 ys] rfl
              have hb5B := hbr.trans (hb5.mono hbr.size)
              have hb5A := hb5B.alloc hb5B.size (.cells #[.int .i64 1, .int .i64 t, .int .i64 (U : Int), .int .i64 (V : Int), .int .i64 yw, .int .i64 yl, .int .i64 ys] 52)
              clear hb5 hb5B hownr hbr hcon c0 c1 c2 c3 c4 c5 p0 p1 q0 q1 hPr hQr
              go_wp2_with (at_builtin; refine wpList_app_rows evRT rfl _ _ rfl w4.heap.size (.slice ao no co) _ out [(setEv ⟨U, V, yw, yl, ys, yt⟩ t)] rfl (by rw [← HNO.out]; exact hown5) rfl (by exact hlx5) (by rw [← HNO.out]; simp; omega) (by rw [← HNO.out]; simp; omega) hb5A.size ?_; intro v6 w6 hown6 hg6)
              have hb6 := hb5A.grown hg6 hb5A.size (fun g e => (hown5.lt g e).1)
              have hl6 : (out ++ [(setEv ⟨U, V, yw, yl, ys, yt⟩ t)]).length = no + 1 := by rw [List.length_append, ← HNO.out]; rfl
              rw [hl6] at hown6
              obtain ⟨a6, c6, rfl⟩ := owns_shape hown6
              have HNO6 : Hid (no + 1 = (out ++ [(setEv ⟨U, V, yw, yl, ys, yt⟩ t)]).length) := hl6.symm
              clear hl6 hg6
              go_wp2_with fail
              go_roundw
              case rel =>
                first
                  | exact ⟨V + 1, _, a6, no + 1, c6, by omega, hvl, by go_num, rfl, hown6, HNO6, hb6, HNN, HRS⟩
                  | ((repeat apply Exists.intro); exact ⟨⟨V + 1, _, a6, no + 1, c6, by omega, hvl, by go_num, rfl, hown6, HNO6, hb6, HNN, HRS⟩, rfl⟩)
              case measure => simp [intOf]; omega
            case pos =>
              rw [if_pos (hsame.2 (by simp [sameA, hew, hel, hes]))] at hbt0
              have hbt := hbt0
              clear hbt0 hsame
              subst xw
              subst xl
              subst xs
              refine wp_region_ext wr.heap.size wr (by kernel_rfl) (by kernel_rfl) (Below.refl _ _) ?_
              try simp only [List.append_eq, List.cons_append, List.nil_append]
              repeat (any_goals (go_big_quiet_step (first | (go_at_call 44; with_reducible exact Calls.ext_of (Nat.le_refl _) (hs1 _)) | (go_at_call 44; with_reducible exact Calls.ext_of (Nat.le_refl _) (hs2 _)))))
              refine wpQuiet_nil ?_
              rintro wr ⟨⟨_, hqq⟩, rfl⟩
              have hownr := hownr.kept (grown_of_below hqq) (Classical.em _)
              have hPr := lk_next hqq hPr
              have hQr := lk_next hqq hQr
              have hbr := hbr.trans (hqq.mono hbr.size)
              clear kp0 kp1 kq1 hs1 hs2 p0 p1 q0 q1 d0 d1 d2 d3 d4 d5 e0 e1 e2 e3 e4 e5
              clear c0 c1 c2 c3 c4 c5
              have HRS := Lib.hid (HBET.out _ hbt)
              rw [List.append_nil] at HRS
              have HN1 : Hid (no + (N - (V + 1)) ≤ U * 64 + N) := (show _ ≤ _ by have := HNN.out; omega)
              clear hbt HBET HNN
              go_wp2_with fail
              go_roundw
              case rel =>
                first
                  | exact ⟨V + 1, out, ao, no, co, by omega, hvl, by go_num, rfl, hownr, HNO, hbr, HN1, HRS⟩
                  | ((repeat apply Exists.intro); exact ⟨⟨V + 1, out, ao, no, co, by omega, hvl, by go_num, rfl, hownr, HNO, hbr, HN1, HRS⟩, rfl⟩)
              case measure => simp [intOf]; omega
        · obtain rfl : V = N := by omega
          have hres := HRES.out
          rw [Nat.sub_self, betV, List.nil_append, ← HTL.out] at hres
          have HRS := Lib.hid hres
          have HNU : Hid (no ≤ (U + 1) * 64) := (show _ ≤ _ by have := HN.out; omega)
          clear hres HRES HN hPr hQr
          go_wp2_with fail
          go_roundw
          case rel =>
            first
              | exact ⟨U + 1, out, ao, no, co, hlt, by go_num, rfl, hownr, HNO, hbr, HNU, HRS⟩
              | ((repeat apply Exists.intro); exact ⟨⟨U + 1, out, ao, no, co, hlt, by go_num, rfl, hownr, HNO, hbr, HNU, HRS⟩, rfl⟩)
          case measure => simp [intOf]; omega
    · obtain rfl : U = N := by omega
      have hres := HRES.out
      rw [Nat.sub_self, betU, List.append_nil] at hres
      have hnn := HN.out
      subst hres
      have hno := HNO.out
      subst hno
      clear HRES HN
      obtain ⟨a5, c5, hv5, hr5, -⟩ := RowAt.of_owns hown (by omega)
      cases hv5
      go_wp2_with fail
      go_ret2
      exact ⟨_, _, rfl, hr5, hb04.trans (hbr.mono hb04.size)⟩
end Go.Proofs.Ytpblaoeaeljmhaa
