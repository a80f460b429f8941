/- ref05.Find and ref05.Where. -/
import Derived.Test.YtkadeibinhkbjaaOutBox
import Derived.Test.YtkadeibinhkbjaaLkApply
import Derived.Test.YtkadeibinhkbjaaLkFnd
import Derived.Test.YtkadeibinhkbjaaLkWh
import Derived.Test.YtkadeibinhkbjaaRef02
namespace Go.Proofs.Ytkadeibinhkbjaa
open Go.RowKit Go.BigFrame

theorem lkIdx_drop {t : Lk} {ls : List Lk} {i : Nat} {x : Lk} (h : ls[i]? = some x) : lkIdx t i (ls.drop i) = if sameE x t = true then (i : Int) else lkIdx t (i + 1) (ls.drop (i + 1)) := by
  rw [drop_at ls i x h]; rfl
set_option maxRecDepth 100000 in
set_option maxHeartbeats 3200000 in
theorem rfind05_any (n u v : Int) (ls : List Lk) (a : Option Addr) (cap : Nat) (w : World) (hl : RowAt encLk w (.slice a ls.length cap) ls) :
    Calls Try.prog 27 #[.agg #[.int .i64 n, .slice a ls.length cap], .int .i64 u, .int .i64 v] w fun e w' => e = .returned (.int .i64 (lfS n ls u v)) ∧ Below w.heap.size w w' := by
  have hsm := hl.small
  have hb := (Below.refl w.heap.size w).alloc (Nat.le_refl _) (.cells #[.int .i64 n, .slice a ls.length cap] 24)
  have hX := heap_alloc_new w (.cells #[.int .i64 n, .slice a ls.length cap] 24)
  have hck := rcheck05_any n a cap ls _ (hl.below hb)
  have x0 := cell_blk (j := 0) hX
  have x1 := cell_blk (j := 1) hX
  unfold lfS
  by_cases hS : stS n ls = 0
  case neg =>
    rw [if_pos hS]
    obtain ⟨Z, hZ⟩ : ∃ Z, stS n ls = Z := ⟨_, rfl⟩
    rw [hZ] at hck hS
    have d2 : (Z != 0) = true := by simpa using hS
    clear hS hZ hX
    go_enter Try.func27, Try.ntmps27
    go_wp2_with fail
    refine hck.mono ?_
    rintro _ w1 ⟨rfl, hb1⟩
    go_wp2_with fail
    go_ret
    exact ⟨rfl, hb.trans (hb1.mono hb.size)⟩
  rw [if_neg (by simp [hS])]
  rw [hS] at hck
  obtain ⟨R, hR⟩ : ∃ R, lkIdx (edgeL u v) 0 ls = R := ⟨_, rfl⟩
  rw [hR]
  have HR : Hid (lkIdx (edgeL u v) 0 (ls.drop 0) = R) := (show _ = _ from hR)
  clear hS hR
  go_enter Try.func27, Try.ntmps27
  go_wp2_with fail
  refine hck.mono ?_
  rintro _ w1 ⟨rfl, hb1⟩
  have hb01 := hb.trans (hb1.mono hb.size)
  have hX1 := lk_next hb1 hX
  have y1 := cell_blk (j := 1) hX1
  clear x0 x1 hX hck hb1 hb
  go_wp2_with fail
  clear y1
  go_loopw [15] (fun vi wr => ∃ i : Nat, i ≤ ls.length ∧ vi = .int .i64 i ∧ Hid (lkIdx (edgeL u v) i (ls.drop i) = R) ∧ Below w1.heap.size w1 wr) (fun vi _ => ls.length - (intOf vi).toNat)
  case atStart => exact ⟨0, Nat.zero_le _, rfl, HR, Below.refl _ _⟩
  case round =>
    obtain ⟨i, hi, rfl, HK, hbr⟩ := hrel
    by_cases hlt : i < ls.length
    · have hlt3 : (i : Int) < ls.length := by omega
      have hbe := hb01.trans (hbr.mono hb01.size)
      obtain ⟨b, off, x, rfl, hx, hcap, c0, c1, c2, c3, c4, c5⟩ := lk_at (hl.below hbe) i hlt
      have hk := HK.out
      rw [lkIdx_drop hx] at hk
      have HK2 := Lib.hid hk
      obtain ⟨xu, xv, x1, x2, x3, x4⟩ := x
      dsimp only at c0 c1 c2 c3 c4 c5 HK2
      have hbn := (Below.refl wr.heap.size wr).alloc (Nat.le_refl _) (.cells #[.int .i64 xu, .int .i64 xv, .int .i64 x1, .int .i64 x2, .int .i64 x3, .int .i64 x4] 50)
      have hbE := hbr.trans (hbn.mono hbr.size)
      obtain ⟨q0, q1, q2, q3, q4, q5⟩ := cells6 (heap_alloc_new wr (.cells #[.int .i64 xu, .int .i64 xv, .int .i64 x1, .int .i64 x2, .int .i64 x3, .int .i64 x4] 50))
      clear hk hx HK
      by_cases h1 : xu = min u v
      · have d1 : (xu == min u v) = true := by simpa using h1
        by_cases h2 : xv = max u v
        · have d2 : (xv == max u v) = true := by simpa using h2
          have HF : Hid (R = (i : Int)) := (show _ = _ by rw [← HK2.out, if_pos (by rw [sameE_iff]; exact ⟨h1, h2⟩)])
          clear h1 h2 HK2
          go_wp2_with fail
          go_ret
          exact ⟨by rw [HF.out]; rfl, hb01.trans (hbE.mono hb01.size)⟩
        · have d2 : (xv == max u v) = false := by simpa using h2
          have HN : Hid (lkIdx (edgeL u v) (i + 1) (ls.drop (i + 1)) = R) := (show _ = _ by rw [← HK2.out, if_neg (by rw [sameE_iff]; exact fun h => h2 h.2)])
          clear h1 h2 HK2
          go_wp2_with fail
          go_roundw
          case rel => exact ⟨i + 1, by omega, by go_num, HN, hbE⟩
          case measure => simp [intOf]; omega
      · have d1 : (xu == min u v) = false := by simpa using h1
        have HN : Hid (lkIdx (edgeL u v) (i + 1) (ls.drop (i + 1)) = R) := (show _ = _ by rw [← HK2.out, if_neg (by rw [sameE_iff]; exact fun h => h1 h.1)])
        clear h1 HK2
        go_wp2_with fail
        go_roundw
        case rel => exact ⟨i + 1, by omega, by go_num, HN, hbE⟩
        case measure => simp [intOf]; omega
    · obtain rfl : i = ls.length := by omega
      have HF : Hid (R = -1) := (show _ = _ by rw [← HK.out, List.drop_length]; rfl)
      go_wp2_with fail
      go_ret
      exact ⟨by rw [HF.out]; rfl, hb01.trans (hbr.mono hb01.size)⟩
/-- a state's box and an empty state's -/
structure SsW (w wr : World) (n : Int) (v : Value) : Prop where
  s : wr.heap[w.heap.size]? = some (.cells #[.int .i64 n, v] 24 (0, 0))
  r : wr.heap[w.heap.size + 1]? = some (.cells #[.int .i64 0, .slice none 0 0] 24 (0, 0))
  be : Below w.heap.size w wr
theorem SsW.next {w wr w' : World} {n : Int} {v : Value} (h : SsW w wr n v) (hb : Below wr.heap.size wr w') : SsW w w' n v := ⟨lk_next hb h.s, lk_next hb h.r, h.be.trans (hb.mono h.be.size)⟩
theorem SsW.start (w : World) (n : Int) (v : Value) : SsW w ((w.alloc (.cells #[.int .i64 n, v] 24)).alloc (.cells #[.int .i64 0, .slice none 0 0] 24)) n v := by
  have hb1 := (Below.refl w.heap.size w).alloc (Nat.le_refl _) (.cells #[.int .i64 n, v] 24)
  have hS := heap_alloc_new w (.cells #[.int .i64 n, v] 24)
  have hz1 : (w.alloc (.cells #[.int .i64 n, v] 24)).heap.size = w.heap.size + 1 := by simp
  have hR := heap_alloc_new (w.alloc (.cells #[.int .i64 n, v] 24)) (.cells #[.int .i64 0, .slice none 0 0] 24)
  rw [hz1] at hR
  have hb2 := (Below.refl _ (w.alloc (.cells #[.int .i64 n, v] 24))).alloc (Nat.le_refl _) (.cells #[.int .i64 0, .slice none 0 0] 24)
  exact ⟨lk_next hb2 hS, hR, hb1.trans (hb2.mono hb1.size)⟩
set_option maxRecDepth 100000 in
set_option maxHeartbeats 6400000 in
theorem rwhere_any (n : Int) (ls : List Lk) (a a2 : Option Addr) (cap cap2 : Nat) (labels : List Int) (sign least : Int) (w : World) (hl : RowAt encLk w (.slice a ls.length cap) ls) (hi2 : IntsAt w (.slice a2 labels.length cap2) labels) :
    Calls Try.prog 26 #[.agg #[.int .i64 n, .slice a ls.length cap], .slice a2 labels.length cap2, .int .i64 sign, .int .i64 least] w (WherePost w (whX n ls labels sign least)) := by
  have hsm := hl.small
  have hW := SsW.start w n (.slice a ls.length cap)
  have hck := fun W h => rcheck05_any n a cap ls W h
  have hl0 := hl.below hW.be
  unfold WherePost whX
  obtain ⟨F, hF⟩ : ∃ L, ls.filter (whB labels sign least) = L := ⟨_, rfl⟩
  rw [hF]
  have HF := Lib.hid hF
  clear hF
  have s0 := cell_blk (j := 0) hW.s
  have s1 := cell_blk (j := 1) hW.s
  by_cases hS : stS n ls = 0
  case neg =>
    rw [if_pos hS]
    obtain ⟨Z, hZ⟩ : ∃ Z, stS n ls = Z := ⟨_, rfl⟩
    rw [hZ] at hck hS ⊢
    have d1 : (Z == 0) = false := by simpa using hS
    have d2 : (Z != 0) = true := by simpa using hS
    have hck2 := hck _ hl0
    clear hS hZ hck
    dsimp only
    go_enter Try.func26, Try.ntmps26
    go_wp2_with fail
    refine hck2.mono ?_
    rintro _ w1 ⟨rfl, hb1⟩
    have hW1 := hW.next hb1
    have r0 := cell_blk (j := 0) hW1.r
    have r1 := cell_blk (j := 1) hW1.r
    have g0 := free_blk (j := 0) hW1.r
    have g1 := free_blk (j := 1) hW1.r
    go_wp2_with fail
    have hfin := set_two (u := .int .i64 0) (v := .slice none 0 0) hW1.r
    have t0 := cell_blk (j := 0) hfin
    have t1 := cell_blk (j := 1) hfin
    exact bodyPost_ret (v := .tuple #[.agg #[.int .i64 0, .slice none 0 0], .int .i64 Z]) (by simp [results, Try.results26, go_sem, t0, t1]) rfl ⟨none, 0, rfl, RowAt.nil _, hW1.be.grown (grown_trans grown_lk grown_lk) hW1.be.size (fun k e => by cases e; omega)⟩
  rw [if_neg (by rw [hS]; simp)]
  have hv := ((stS_iff n ls).1 hS).length_le
  rw [hS] at hck
  have hck2 := hck _ hl0
  clear hck hS
  dsimp only
  go_enter Try.func26, Try.ntmps26
  go_wp2_with fail
  refine hck2.mono ?_
  rintro _ w1 ⟨rfl, hb1⟩
  have hW1 := hW.next hb1
  have z0 := cell_blk (j := 0) hW1.s
  have z1 := cell_blk (j := 1) hW1.s
  have hbO := (Below.refl w1.heap.size w1).alloc (Nat.le_refl _) (.cells #[.int .i64 n, .slice none 0 0] 24)
  have hW2 := hW1.next hbO
  have hsz := blk_lt hW1.r
  have hOut : OutB w (w1.alloc (.cells #[.int .i64 n, .slice none 0 0] 24)) w.heap.size (w.heap.size + 1) w1.heap.size (.cells #[.int .i64 n, .slice a ls.length cap] 24 (0, 0)) (.cells #[.int .i64 0, .slice none 0 0] 24 (0, 0)) 24 50 encLk.k n (.slice none 0 0) 0 (flatR encLk []) :=
    ⟨hW2.s, hW2.r, heap_alloc_new _ _, World.ownsRow_nil _ _ _ _, by omega, by omega, hW2.be, by omega⟩
  have s0 := cell_blk (j := 0) hOut.s
  have s1 := cell_blk (j := 1) hOut.s
  clear hbO hW2 hW hW1 hl0 hck2 hb1
  go_wp2_with fail
  obtain ⟨OO, hOO⟩ : ∃ O, w1.heap.size = O := ⟨_, rfl⟩
  rw [hOO] at hOut hsz
  try rw [hOO]
  obtain ⟨w3, hw3⟩ : ∃ W : World, W = w1.alloc (.cells #[.int .i64 n, .slice none 0 0] 24) := ⟨_, rfl⟩
  rw [← hw3] at hOut ⊢
  clear hw3 hOO s0 s1 z0 z1
  go_loopw [26] (fun vi wr => ∃ (i nl : Nat) (K : List Lk) (sl : Value), i ≤ ls.length ∧ vi = .int .i64 i ∧ Hid (K = (ls.take i).filter (whB labels sign least)) ∧ Hid (nl = K.length) ∧ nl ≤ i ∧ OutB w wr w.heap.size (w.heap.size + 1) OO (.cells #[.int .i64 n, .slice a ls.length cap] 24 (0, 0)) (.cells #[.int .i64 0, .slice none 0 0] 24 (0, 0)) 24 50 encLk.k n sl nl (flatR encLk K)) (fun vi _ => ls.length - (intOf vi).toNat)
  case atStart => exact ⟨0, 0, [], _, Nat.zero_le _, rfl, (show _ = _ from rfl), (show _ = _ from rfl), Nat.le_refl _, hOut⟩
  case round =>
    clear hOut
    obtain ⟨i, nl, K, sl, hi, rfl, HK, HNL, hnl, hO⟩ := hrel
    obtain ⟨al, cl, rfl⟩ := owns_shape hO.own
    by_cases hlt : i < ls.length
    · have hlt3 : (i : Int) < ls.length := by omega
      obtain ⟨b, off, x, rfl, hx, hcap, c0, c1, c2, c3, c4, c5⟩ := lk_at (hl.below hO.be) i hlt
      have htk := take_at ls i x hx
      have hsn := where_snoc labels sign least (ls.take i) x
      rw [← htk, ← HK.out] at hsn
      obtain ⟨B, hB⟩ : ∃ B, whB labels sign least x = B := ⟨_, rfl⟩
      rw [hB] at hsn
      have HSN := Lib.hid hsn
      have HWB : Hid (B = ((decide (labels.length = 0) || decide (x.label ∈ labels)) && (decide (sign = 0) || decide (x.sign = sign)) && decide (least ≤ x.weight))) := (show _ = _ from hB.symm)
      have hrow1 := fun W : World => rows_lit1 (E := encLk) W x 50 x.cells rfl
      obtain ⟨y, hy⟩ : ∃ y, x = y := ⟨_, rfl⟩
      rw [hy] at HSN
      have HY := Lib.hid hy
      obtain ⟨xu, xv, x1, x2, x3, x4⟩ := x
      dsimp only at c0 c1 c2 c3 c4 c5 HWB
      unfold Lk.cells at hrow1
      dsimp only at hrow1
      rw [hy] at hrow1
      have hO1 := (hO.alloc (.cells #[.int .i64 xu, .int .i64 xv, .int .i64 x1, .int .i64 x2, .int .i64 x3, .int .i64 x4] 50))
      have hX := heap_alloc_new wr (.cells #[.int .i64 xu, .int .i64 xv, .int .i64 x1, .int .i64 x2, .int .i64 x3, .int .i64 x4] 50)
      have hi1 := hi2.below hO1.be
      have hhas := fun W h => has_any a2 cap2 labels x2 W h
      obtain ⟨D, hD⟩ : ∃ D, decide (x2 ∈ labels) = D := ⟨_, rfl⟩
      rw [hD] at hhas HWB
      obtain ⟨nb, hnb⟩ : ∃ n, labels.length = n := ⟨_, rfl⟩
      rw [hnb] at hhas HWB hi1
      try rw [hnb]
      clear hx htk hsn hD hnb hy hO hB
      obtain ⟨q0, q1, q2, q3, q4, q5⟩ := cells6 hX
      go_upto_region 8 with fail
      obtain ⟨wA, hwA⟩ : ∃ W : World, W = wr.alloc (.cells #[.int .i64 xu, .int .i64 xv, .int .i64 x1, .int .i64 x2, .int .i64 x3, .int .i64 x4] 50) := ⟨_, rfl⟩
      obtain ⟨Q, hQ⟩ : ∃ Q, wr.heap.size = Q := ⟨_, rfl⟩
      rw [hQ] at hX q0 q1 q2 q3 q4 q5
      try rw [hQ]
      rw [← hwA] at hO1 hX hi1 q0 q1 q2 q3 q4 q5 ⊢
      clear hwA hQ
      go_cut [54] from 30 to 54 (fun c wx => c = .bool B ∧ wx = wA)
      case first =>
        have hh2 := hhas _ hi1
        clear hhas hrow1
        by_cases h5 : least ≤ x1 <;> by_cases h1 : nb = 0 <;> cases D <;> by_cases h3 : sign = 0 <;> by_cases h4 : x3 = sign
        all_goals
          have HB := HWB.out
          simp only [h1, h3, h4, h5, decide_true, decide_false, Bool.true_or, Bool.or_true, Bool.or_false, Bool.and_true, Bool.and_false] at HB
          have HB2 := Lib.hid HB
          first | (have d1 : ((nb : Int) == 0) = true := by simp [h1]) | (have d1 : ((nb : Int) == 0) = false := by simp; exact h1)
          first | (have d3 : (sign == 0) = true := by simp [h3]) | (have d3 : (sign == 0) = false := by simpa using h3)
          first | (have d4 : (x3 == sign) = true := by simp [h4]) | (have d4 : (x3 == sign) = false := by simpa using h4)
          first | (have d5 : decide (least ≤ x1) = true := decide_eq_true h5) | (have d5 : decide (least ≤ x1) = false := decide_eq_false h5)
          clear h1 h3 h4 h5 HB HWB
          go_wp2_with (go_at_call 47; refine hh2.mono ?_; rintro _ w' ⟨rfl, rfl⟩)
          go_meet
          exact ⟨by rw [HB2.out], rfl⟩
      case rest =>
        obtain ⟨rfl, rfl⟩ := hcut
        clear hhas HWB hi1
        cases B with
        | false =>
          have HN : Hid (K = (ls.take (i + 1)).filter (whB labels sign least)) := (show _ = _ by rw [HSN.out, if_neg (by simp)])
          go_wp2_with fail
          go_roundw
          case rel => exact ⟨i + 1, nl, K, _, by omega, by go_num, HN, HNL, by omega, hO1⟩
          case measure => simp [intOf]; omega
        | true =>
          have HN : Hid (K ++ [y] = (ls.take (i + 1)).filter (whB labels sign least)) := (show _ = _ by rw [HSN.out, if_pos rfl])
          have o1 := hO1.c1
          have hlx := hrow1 wc
          have hO2 := hO1.alloc (.cells #[.int .i64 xu, .int .i64 xv, .int .i64 x1, .int .i64 x2, .int .i64 x3, .int .i64 x4] 50)
          go_wp2_with (at_builtin; refine wpList_app_rows lkRT rfl _ _ rfl (OO + 1) (.slice al nl cl) _ K [y] rfl (by rw [← HNL.out]; exact hO2.own) rfl hlx (by rw [← HNL.out]; simp; omega) (by rw [← HNL.out]; simp; omega) hO2.base ?_; intro v6 w6 hown6 hg6; have hl6 : (K ++ [y]).length = nl + 1 := (by rw [List.length_append, ← HNL.out]; rfl); rw [hl6] at hown6; have hO7 := hO2.app hown6 hg6; obtain ⟨a6, c6, rfl⟩ := owns_shape hown6; have ho6 := (hO2.grown hg6).2.2.1; have o61 := cell_blk (j := 1) ho6; have f61 := free_blk (j := 1) ho6)
          go_roundw
          case rel => exact ⟨i + 1, nl + 1, K ++ [y], _, by omega, by go_num, HN, (show _ = _ by rw [List.length_append, ← HNL.out]; rfl), by omega, hO7⟩
          case measure => simp [intOf]; omega
    · obtain rfl : i = ls.length := by omega
      have hK : K = F := by rw [HK.out, List.take_length, HF.out]
      have HKF := Lib.hid hK
      have o0 := hO.c0
      have o1 := hO.c1
      have r0 := cell_blk (j := 0) hO.r
      have r1 := cell_blk (j := 1) hO.r
      have g0 := free_blk (j := 0) hO.r
      have g1 := free_blk (j := 1) hO.r
      have hbe := hO.be
      have hRO := hO.ro
      have HFIN := Lib.hid (set_two (u := .int .i64 n) (v := .slice al nl cl) hO.r)
      obtain ⟨_, _, hv', hre, hpe⟩ := RowAt.of_owns (xs := K) (by rw [← HNL.out]; exact hO.own) (by rw [← HNL.out]; omega)
      rw [← HNL.out] at hv'
      obtain ⟨rfl, -, rfl⟩ := Value.slice.inj hv'
      clear hK hv'
      go_wp2_with fail
      have t0 := cell_blk (j := 0) HFIN.out
      have t1 := cell_blk (j := 1) HFIN.out
      have hg2 : wr.grownBy ((wr.setCell ⟨w.heap.size + 1, 0, none⟩ (.int .i64 n)).setCell ⟨w.heap.size + 1, 1, none⟩ (.slice al nl cl)) (some (w.heap.size + 1)) := grown_trans grown_lk grown_lk
      have hr9 := hre.grown hg2 (fun g e n c p hp => by cases e; have := hpe p (Value.slice.inj hp).1; omega)
      exact bodyPost_ret (v := .tuple #[.agg #[.int .i64 n, .slice al nl cl], .int .i64 0]) (by simp [results, Try.results26, go_sem, t0, t1]) rfl ⟨al, cl, by rw [← HKF.out, ← HNL.out], by rw [← HKF.out]; exact hr9, hbe.grown hg2 hbe.size (fun k e => by cases e; omega)⟩
end Go.Proofs.Ytkadeibinhkbjaa
