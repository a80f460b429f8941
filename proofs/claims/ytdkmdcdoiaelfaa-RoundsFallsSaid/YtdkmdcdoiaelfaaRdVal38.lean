/- The contracts of ref38's tests for worlds. -/
import Derived.Test.YtdkmdcdoiaelfaaRdPlan
import Derived.Test.YtdkmdcdoiaelfaaRefCheck
import Derived.BigQuiet
namespace Go.Proofs.Ytdkmdcdoiaelfaa
open Go.RowKit Go.BigFrame

set_option maxRecDepth 100000 in
set_option maxHeartbeats 1600000 in
theorem num38_any (n : Int) (a : Option Addr) (cap : Nat) (l : List Int) (w : World) (hi : IntsAt w (.slice a l.length cap) l) :
    Calls Try.prog 87 #[.slice a l.length cap, .int .i64 n] w fun e w' => e = .returned (.bool (okK n l)) ∧ w = w' := by
  have hl : l.length ≤ 70368744177664 := by obtain ⟨_, _, _, _, _, h, _⟩ := hi; exact h
  obtain ⟨R, hR⟩ : ∃ R, okK n l = R := ⟨_, rfl⟩
  rw [hR]
  unfold okK at hR
  have HR := Lib.hid hR
  clear hR
  by_cases h1 : (l.length : Int) = n
  · obtain ⟨B, hB⟩ : ∃ B, l.all (okN n) = B := ⟨_, rfl⟩
    have hr := HR.out
    rw [decide_eq_true h1, Bool.true_and, hB] at hr
    have HB := Lib.hid hB
    have HRB := Lib.hid hr
    clear hr hB
    subst h1
    go_enter Try.func87, Try.ntmps87
    go_wp2_with fail
    go_loop [5] (fun vk => ∃ k : Nat, k ≤ l.length ∧ vk = .int .i64 (k : Int) ∧ Hid ((l.drop k).all (okN l.length) = B)) (fun vk => l.length - (intOf vk).toNat)
    case atStart => exact ⟨0, Nat.zero_le _, rfl, HB⟩
    case round =>
      obtain ⟨k, hk, rfl, HK⟩ := hrel
      by_cases hlt : k < l.length
      · have hlt3 : (k : Int) < l.length := by omega
        obtain ⟨b, off, x, rfl, hx, -, -, c0⟩ := hi.at k hlt
        have hd := all_drop (okN l.length) l k x hx
        rw [HK.out] at hd
        unfold okN at hd
        have HD := Lib.hid hd
        clear hd hx
        by_cases h2 : x < 0
        · have HF : Hid (R = false) := (show _ = _ by rw [← HRB.out, HD.out, decide_eq_false (show ¬ 0 ≤ x by omega)]; rfl)
          go_wp2_with fail
          go_ret
          exact ⟨ret_bool HF.out.symm, rfl⟩
        · by_cases h3 : (l.length : Int) < x
          · have HF : Hid (R = false) := (show _ = _ by rw [← HRB.out, HD.out, decide_eq_false (show ¬ x ≤ (l.length : Int) by omega)]; simp)
            go_wp2_with fail
            go_ret
            exact ⟨ret_bool HF.out.symm, rfl⟩
          · have HF : Hid ((l.drop (k + 1)).all (okN l.length) = B) := (show _ = _ by rw [HD.out, decide_eq_true (show 0 ≤ x by omega), decide_eq_true (show x ≤ (l.length : Int) by omega)]; rfl)
            go_wp2_with fail
            go_round
            case rel => exact ⟨k + 1, by omega, by go_num, HF⟩
            case measure => simp [intOf]; omega
      · have HF : Hid (R = true) := (show _ = _ by rw [← HRB.out, ← HK.out, List.drop_of_length_le (by omega)]; rfl)
        go_wp2_with fail
        go_ret
        exact ⟨ret_bool HF.out.symm, rfl⟩
  · have HF : Hid (R = false) := (show _ = _ by rw [← HR.out, decide_eq_false h1]; rfl)
    go_enter Try.func87, Try.ntmps87
    go_wp2_with fail
    go_ret
    exact ⟨ret_bool HF.out.symm, rfl⟩
set_option maxRecDepth 100000 in
set_option maxHeartbeats 3200000 in
theorem mes38_any (n : Int) (a : Option Addr) (cap : Nat) (l : List Msg) (w : World) (hi : RowAt encM w (.slice a l.length cap) l) (hl : l.length ≤ 1000000) :
    Calls Try.prog 88 #[.slice a l.length cap, .int .i64 n] w fun e w' => e = .returned (.bool (l.all (okM n))) ∧ w = w' := by
  obtain ⟨B, hB⟩ : ∃ B, l.all (okM n) = B := ⟨_, rfl⟩
  rw [hB]
  have HB := Lib.hid hB
  clear hB
  go_enter Try.func88, Try.ntmps88
  go_wp2_with fail
  go_loop [5] (fun vk => ∃ k : Nat, k ≤ l.length ∧ vk = .int .i64 (k : Int) ∧ Hid ((l.drop k).all (okM n) = B)) (fun vk => l.length - (intOf vk).toNat)
  case atStart => exact ⟨0, Nat.zero_le _, rfl, HB⟩
  case round =>
    obtain ⟨k, hk, rfl, HK⟩ := hrel
    by_cases hlt : k < l.length
    · have hlt3 : (k : Int) < l.length := by omega
      obtain ⟨b, off, x, y, z, rfl, hx, c0, c1, c2⟩ := msg_at hi k hlt
      have hd := all_drop (okM n) l k _ hx
      rw [HK.out] at hd
      unfold okM okN at hd
      dsimp only at hd
      have HD := Lib.hid hd
      clear hd hx
      cases z
      · by_cases h1 : x < 0
        · have HF : Hid (B = false) := (show _ = _ by rw [HD.out, decide_eq_false (show ¬ 0 ≤ x by omega)]; rfl)
          go_wp2_with fail
          go_ret
          exact ⟨ret_bool HF.out.symm, rfl⟩
        by_cases h2 : n ≤ x
        · have HF : Hid (B = false) := (show _ = _ by rw [HD.out, decide_eq_false (show ¬ x < n by omega)]; simp)
          go_wp2_with fail
          go_ret
          exact ⟨ret_bool HF.out.symm, rfl⟩
        by_cases h3 : y < 0
        · have HF : Hid (B = false) := (show _ = _ by rw [HD.out, decide_eq_false (show ¬ 0 ≤ y by omega)]; simp)
          go_wp2_with fail
          go_ret
          exact ⟨ret_bool HF.out.symm, rfl⟩
        by_cases h4 : n < y
        · have HF : Hid (B = false) := (show _ = _ by rw [HD.out, decide_eq_false (show ¬ y ≤ n by omega)]; simp)
          go_wp2_with fail
          go_ret
          exact ⟨ret_bool HF.out.symm, rfl⟩
        · have HF : Hid ((l.drop (k + 1)).all (okM n) = B) := (show _ = _ by rw [HD.out, decide_eq_true (show 0 ≤ x by omega), decide_eq_true (show x < n by omega), decide_eq_true (show 0 ≤ y by omega), decide_eq_true (show y ≤ n by omega)]; rfl)
          go_wp2_with fail
          go_round
          case rel => exact ⟨k + 1, by omega, by go_num, HF⟩
          case measure => simp [intOf]; omega
      · have HF : Hid (B = false) := (show _ = _ by rw [HD.out]; rfl)
        go_wp2_with fail
        go_ret
        exact ⟨ret_bool HF.out.symm, rfl⟩
    · have HF : Hid (B = true) := (show _ = _ by rw [← HK.out, List.drop_of_length_le (by omega)]; rfl)
      go_wp2_with fail
      go_ret
      exact ⟨ret_bool HF.out.symm, rfl⟩
set_option maxRecDepth 100000 in
set_option maxHeartbeats 1600000 in
theorem fault38_any (n P : Int) (es : List E2) (ow hv : List Int) (ae ao ah : Option Addr) (ce co ch : Nat) (w : World) (he : EdgesAt w (.slice ae es.length ce) es) (ho : IntsAt w (.slice ao ow.length co) ow) (hh : IntsAt w (.slice ah hv.length ch) hv) :
    Calls Try.prog 86 #[.agg #[.int .i64 n, .slice ae es.length ce], .agg #[.int .i64 P, .slice ao ow.length co, .slice ah hv.length ch]] w fun e w' => e = .returned (.int .i64 (fltS n es P ow hv)) ∧ Below w.heap.size w w' := by
  obtain ⟨hX0, hb0⟩ := boxG_new w #[.int .i64 n, .slice ae es.length ce] 27
  obtain ⟨hY0, hb1⟩ := boxG_new (w.alloc (.cells #[.int .i64 n, .slice ae es.length ce] 27)) #[.int .i64 P, .slice ao ow.length co, .slice ah hv.length ch] 54
  have hX1 := lit_next' hb1 hX0
  have hb01 := hb0.trans (hb1.mono hb0.size)
  have hz : (w.alloc (.cells #[.int .i64 n, .slice ae es.length ce] 27)).heap.size = w.heap.size + 1 := by simp
  rw [hz] at hY0
  obtain ⟨wA, hwA⟩ : ∃ W : World, W = (w.alloc (.cells #[.int .i64 n, .slice ae es.length ce] 27)).alloc (.cells #[.int .i64 P, .slice ao ow.length co, .slice ah hv.length ch] 54) := ⟨_, rfl⟩
  rw [← hwA] at hX1 hY0 hb01
  have hcg := check_any n ae ce es wA (he.below hb01)
  have ho1 := ho.below hb01
  have hh1 := hh.below hb01
  have q0 : wA.cell? ⟨w.heap.size, 0, none⟩ = some (.int .i64 n) := cell_blk hX1
  have q1 : wA.cell? ⟨w.heap.size, 1, none⟩ = some (.slice ae es.length ce) := cell_blk hX1
  have r0 : wA.cell? ⟨w.heap.size + 1, 0, none⟩ = some (.int .i64 P) := cell_blk hY0
  have r1 : wA.cell? ⟨w.heap.size + 1, 1, none⟩ = some (.slice ao ow.length co) := cell_blk hY0
  have r2 : wA.cell? ⟨w.heap.size + 1, 2, none⟩ = some (.slice ah hv.length ch) := cell_blk hY0
  obtain ⟨G, hG⟩ : ∃ G, checkS n es = G := ⟨_, rfl⟩
  obtain ⟨R, hR⟩ : ∃ R, fltS n es P ow hv = R := ⟨_, rfl⟩
  rw [hR]
  unfold fltS at hR
  rw [hG] at hcg hR
  have HR := Lib.hid hR
  have HWA := Lib.hid hwA
  have HB := Lib.hid hb01
  clear hR hG hwA hX0 hX1 hY0 hb0 hb1 hz he ho hh
  go_enter Try.func86, Try.ntmps86
  go_wp2_with (rw [← HWA.out])
  refine hcg.mono ?_
  rintro e w1 ⟨rfl, hb1⟩
  have hbE := HB.out.trans (hb1.mono HB.out.size)
  by_cases h0 : G = 0
  · have HF : Hid (R = plnS P ow hv n) := (show _ = _ by rw [← HR.out, if_neg (fun h => h h0)])
    have hpc := rpcheck_any P n ow hv ao ah co ch w1 (ho1.below hb1) (hh1.below hb1)
    rw [← HF.out] at hpc
    have k0 := (hb1.cell (p := ⟨w.heap.size, 0, none⟩) (cell_lt q0)).trans q0
    have l0 := (hb1.cell (p := ⟨w.heap.size + 1, 0, none⟩) (cell_lt r0)).trans r0
    have l1 := (hb1.cell (p := ⟨w.heap.size + 1, 1, none⟩) (cell_lt r1)).trans r1
    have l2 := (hb1.cell (p := ⟨w.heap.size + 1, 2, none⟩) (cell_lt r2)).trans r2
    clear q0 q1 r0 r1 r2 hcg
    subst h0
    go_wp2_with fail
    refine hpc.mono ?_
    rintro e w2 ⟨rfl, hb2⟩
    go_wp2_with fail
    go_ret
    exact ⟨rfl, hbE.trans (hb2.mono hbE.size)⟩
  · have HF : Hid (R = G) := (show _ = _ by rw [← HR.out, if_pos h0])
    go_wp2_with fail
    go_ret
    exact ⟨ret_int HF.out.symm, hbE⟩
theorem quiet_sym38 {P : Program} {f : FuncId} {args : Array Value} {w : World} {v : Value} (h : Calls P f args w fun e w' => e = .returned v ∧ w = w') : Calls P f args w fun e w' => e = .returned v ∧ w' = w := h.mono fun _ _ q => ⟨q.1, q.2.symm⟩
theorem all_range {α : Type} (f : α → Bool) (d : α) : ∀ l : List α, l.all f = (List.range l.length).all fun i => f (l.getD i d) := fun l => by
  rw [Bool.eq_iff_iff, List.all_eq_true, List.all_eq_true]
  constructor
  · intro h i hi
    have hi2 := List.mem_range.1 hi
    rw [List.getD_eq_getElem?_getD, List.getElem?_eq_getElem hi2]
    exact h _ (List.getElem_mem hi2)
  · intro h x hx
    obtain ⟨i, hi, e⟩ := List.mem_iff_getElem.1 hx
    have := h i (List.mem_range.2 hi)
    rw [List.getD_eq_getElem?_getD, List.getElem?_eq_getElem hi, e] at this
    exact this
theorem all_both {α : Type} (p q : α → Bool) (l : List α) : (l.all p && l.all q) = l.all fun x => p x && q x := by
  rw [Bool.eq_iff_iff, Bool.and_eq_true, List.all_eq_true, List.all_eq_true, List.all_eq_true]
  constructor
  · rintro ⟨h1, h2⟩ x hx; rw [h1 x hx, h2 x hx]; rfl
  · intro h
    exact ⟨fun x hx => by have := h x hx; rw [Bool.and_eq_true] at this; exact this.1, fun x hx => by have := h x hx; rw [Bool.and_eq_true] at this; exact this.2⟩
set_option linter.unusedSimpArgs false in
set_option maxRecDepth 100000 in
set_option maxHeartbeats 3200000 in
theorem valid38_any (W : WdL) (v : Value) (w : World) (h : WldAt w v W) (hbm : ∀ r ∈ W.bx, ∀ m ∈ r, m.length ≤ 1000000) :
    Calls Try.prog 47 #[v] w fun e w' => e = .returned (.bool (valB W)) ∧ Below w.heap.size w w' := by
  obtain ⟨n, es, P, ow, hv, kn, bx⟩ := W
  obtain ⟨ae, ao, ah, ak, ab, ce, co, ch, ck, cb, rfl, he, ho, hh, hk, hb⟩ := h
  dsimp only at he ho hh hk hb hbm ⊢
  obtain ⟨hX0, hb0⟩ := boxG_new w #[.int .i64 n, .slice ae es.length ce, .int .i64 P, .slice ao ow.length co, .slice ah hv.length ch, .slice ak kn.length ck, .slice ab bx.length cb] 59
  obtain ⟨wA, hwA⟩ : ∃ W : World, W = w.alloc (.cells #[.int .i64 n, .slice ae es.length ce, .int .i64 P, .slice ao ow.length co, .slice ah hv.length ch, .slice ak kn.length ck, .slice ab bx.length cb] 59) := ⟨_, rfl⟩
  rw [← hwA] at hX0 hb0
  obtain ⟨X, hX⟩ : ∃ X, w.heap.size = X := ⟨_, rfl⟩
  rw [hX] at hX0
  obtain ⟨q0, q1, q2, q3, q4, q5, q6⟩ := cells7 hX0
  have hch := fault38_any n P es ow hv ae ao ah ce co ch wA (he.below hb0) (ho.below hb0) (hh.below hb0)
  obtain ⟨R, hR⟩ : ∃ R, valB ⟨n, es, P, ow, hv, kn, bx⟩ = R := ⟨_, rfl⟩
  obtain ⟨F, hF⟩ : ∃ F, fltS n es P ow hv = F := ⟨_, rfl⟩
  rw [hR]
  unfold valB at hR
  dsimp only at hR
  rw [hF] at hR hch
  have HR := Lib.hid hR
  have HWA := Lib.hid hwA
  have HB := Lib.hid hb0
  clear hR hF hwA he ho hh
  go_enter Try.func47, Try.ntmps47
  go_wp2_with (rw [← HWA.out])
  refine hch.mono ?_
  rintro e w2 ⟨rfl, hb2⟩
  have hb02 := HB.out.trans (hb2.mono HB.out.size)
  have hX2 := lit_next' hb2 hX0
  have hk2 := hk.below hb02
  have hbx2 := hb.below hb02
  clear hch q0 q1 q2 q3 q4 q5 q6 hX0 hk hb hb2
  obtain ⟨q0, q1, q2, q3, q4, q5, q6⟩ := cells7 hX2
  by_cases h0 : F = 0
  · subst h0
    by_cases h1 : (kn.length : Int) = P
    · by_cases h2 : (bx.length : Int) = P
      · obtain ⟨B, hB⟩ : ∃ B, ((List.range bx.length).all fun i => okK n (kn.getD i []) && okB n P bx i) = B := ⟨_, rfl⟩
        have hr := HR.out
        have hle : kn.length = bx.length := by omega
        rw [decide_eq_true h1, decide_eq_true h2, all_range (okK n) [] kn, hle, all_both, hB] at hr
        have HLE := Lib.hid hle
        have HRB : Hid (R = B) := (show _ = _ by rw [← hr]; simp)
        have HB2 := Lib.hid hB
        have hkl : kn.length ≤ 1099511627776 := by obtain ⟨L, hL, hL2, -⟩ := hk2; have := hL.small; rw [← hL2, List.length_map]; exact this
        have hbl : bx.length ≤ 1099511627776 := by obtain ⟨L, hL, hL2, -⟩ := hbx2; have := hL.small; rw [← hL2, List.length_map]; exact this
        clear hr hB HR hle
        go_wp2_with fail
        have HH2 := Lib.hid h2
        clear h2
        go_loopw [3] (fun vi wr => ∃ i : Nat, i ≤ kn.length ∧ vi = .int .i64 (i : Int) ∧ Hid (((List.range bx.length).drop i).all (fun i => okK n (kn.getD i []) && okB n P bx i) = B) ∧ Below w2.heap.size w2 wr) (fun i _ => kn.length - (intOf i).toNat)
        case atStart => exact ⟨0, Nat.zero_le _, rfl, HB2, Below.refl _ _⟩
        case round =>
          clear q0 q1 q2 q3 q4 q5 q6
          obtain ⟨i, hii, rfl, HI, hbr⟩ := hrel
          obtain ⟨q0, q1, q2, q3, q4, q5, q6⟩ := cells7 (lit_next' hbr hX2)
          by_cases hlt : i < kn.length
          · have hlt3 : (i : Int) < kn.length := by omega
            have hltb : i < bx.length := by rw [← HLE.out]; exact hlt
            have hltb3 : (i : Int) < bx.length := by omega
            obtain ⟨-, hcapk, kb, koff, sl, rfl, hc0, hi⟩ := hk2.at i _ (List.getElem?_eq_getElem hlt)
            have hd := all_drop (fun i => okK n (kn.getD i []) && okB n P bx i) (List.range bx.length) i i (List.getElem?_range hltb)
            obtain ⟨l, hl⟩ : ∃ l, kn[i] = l := ⟨_, rfl⟩
            have hgk : kn.getD i [] = l := by rw [List.getD_eq_getElem?_getD, List.getElem?_eq_getElem hlt, hl]; rfl
            rw [hl] at hi
            rw [HI.out, hgk] at hd
            have hi2 := hi.below hbr
            have hc1 := (hbr.cell (p := ⟨kb, koff + i, none⟩) (cell_lt hc0)).trans hc0
            obtain ⟨sa, sn, sc⟩ := sl
            have hsn : sn = l.length := IntsAt.lenE hi2
            subst hsn
            change wr.cell? _ = some (Value.slice sa l.length sc) at hc1
            change IntsAt wr (Value.slice sa l.length sc) l at hi2
            have hq := fun m => quiet_sym38 (num38_any n sa sc l (wr.drewN m) (hi2.below ((Below.refl _ _).drewN m)))
            obtain ⟨D, hD⟩ : ∃ D, okK n l = D := ⟨_, rfl⟩
            rw [hD] at hd hq
            have HDl := Lib.hid hd
            clear hd hD hi hc0 hl hgk
            have hbE := hb02.trans (hbr.mono hb02.size)
            cases D
            · have HF : Hid (R = false) := (show _ = _ by rw [HRB.out, HDl.out]; simp)
              go_wp2_with fail
              go_quiet ((go_at_call 87; exact Calls.quiet_of_same (hq _)))
              go_wp2_with fail
              go_ret
              exact ⟨ret_bool HF.out.symm, hbE.drewN nq⟩
            · obtain ⟨-, hcapb, b, off, sl, rfl, hc2, hi3⟩ := hbx2.at i _ (List.getElem?_eq_getElem hltb)
              obtain ⟨row, hrow⟩ : ∃ l, bx[i] = l := ⟨_, rfl⟩
              have hgd : bx.getD i [] = row := by rw [List.getD_eq_getElem?_getD, List.getElem?_eq_getElem hltb, hrow]; rfl
              have hrm : row ∈ bx := by rw [← hrow]; exact List.getElem_mem hltb
              rw [hrow] at hi3
              have hR3 : BoxR w2 (slV sl) row := hi3
              obtain ⟨ra, rn, rc⟩ := sl
              have hsn : rn = row.length := (NestA.len hR3).1
              subst hsn
              change w2.cell? _ = some (Value.slice ra row.length rc) at hc2
              change BoxR w2 (Value.slice ra row.length rc) row at hR3
              have hc3 := (hbr.cell (p := ⟨b, off + i, none⟩) (cell_lt hc2)).trans hc2
              have hrl : row.length ≤ 1099511627776 := by obtain ⟨L, hL, hL2, -⟩ := hR3; have := hL.small; rw [← hL2, List.length_map]; exact this
              have hd := HDl.out
              unfold okB at hd
              rw [hgd, Bool.true_and] at hd
              have HD2 := Lib.hid hd
              have hcb := hc2
              clear hd HDl hgd hrow hi3 hc2
              by_cases hrp : (row.length : Int) = P
              · have hil : i < row.length := by omega
                have hil2 : (i : Int) < row.length := by omega
                obtain ⟨-, hcapr, rb, roff, sl, rfl, hc4, hi4⟩ := hR3.at i _ (List.getElem?_eq_getElem hil)
                obtain ⟨sa2, sn2, sc2⟩ := sl
                have hsn2 : sn2 = row[i].length := RowAt.lenE hi4
                have hc5 := (hbr.cell (p := ⟨rb, roff + i, none⟩) (cell_lt hc4)).trans hc4
                change wr.cell? _ = some (Value.slice sa2 sn2 sc2) at hc5
                have hgd : row.getD i [] = row[i] := by rw [List.getD_eq_getElem?_getD, List.getElem?_eq_getElem hil]; rfl
                have hd := HD2.out
                rw [hgd, ← hsn2, decide_eq_true hrp, Bool.true_and] at hd
                have HD3 := Lib.hid hd
                clear hd hgd hsn2 hi4 hc4 HD2
                by_cases hs0 : sn2 = 0
                · subst hs0
                  obtain ⟨B3, hB3⟩ : ∃ B, (row.all fun b => b.all (okM n)) = B := ⟨_, rfl⟩
                  have hd := HD3.out
                  rw [hB3, decide_eq_true rfl, Bool.true_and] at hd
                  have HD4 := Lib.hid hd
                  have HB3 := Lib.hid hB3
                  clear hd hB3 HD3
                  go_wp2_with fail
                  go_quiet ((go_at_call 87; exact Calls.quiet_of_same (hq _)))
                  have hbd := hbr.drewN nq
                  go_wp2_with fail
                  go_loopw [4] (fun vk wq => ∃ k : Nat, k ≤ row.length ∧ vk = .int .i64 (k : Int) ∧ Hid ((row.drop k).all (fun b => b.all (okM n)) = B3) ∧ Below w2.heap.size w2 wq) (fun i _ => row.length - (intOf i).toNat)
                  case atStart => exact ⟨0, Nat.zero_le _, rfl, HB3, hbd⟩
                  case round =>
                    clear hbr hbd hbE q0 q1 q2 q3 q4 q5 q6 hc1 hi2 hq hc3 hc5
                    obtain ⟨k, hkk, rfl, HK, hbr⟩ := hrel
                    have hbE := hb02.trans (hbr.mono hb02.size)
                    obtain ⟨q0, q1, q2, q3, q4, q5, q6⟩ := cells7 (lit_next' hbr hX2)
                    have hc3 := (hbr.cell (p := ⟨b, off + i, none⟩) (cell_lt hcb)).trans hcb
                    by_cases hlt5 : k < row.length
                    · have hlt6 : (k : Int) < row.length := by omega
                      obtain ⟨-, hcapr, _, _, sl, e, hc4, hi4⟩ := hR3.at k _ (List.getElem?_eq_getElem hlt5)
                      cases e
                      obtain ⟨ms, hms⟩ : ∃ l, row[k] = l := ⟨_, rfl⟩
                      have hmm : ms ∈ row := by rw [← hms]; exact List.getElem_mem hlt5
                      have hml := hbm row hrm ms hmm
                      have hd := all_drop (fun b => b.all (okM n)) row k _ (List.getElem?_eq_getElem hlt5)
                      rw [hms] at hi4 hd
                      rw [HK.out] at hd
                      obtain ⟨sa2, sn2, sc2⟩ := sl
                      have hsn2 : sn2 = ms.length := RowAt.lenE hi4
                      subst hsn2
                      have hc5 := (hbr.cell (p := ⟨rb, roff + k, none⟩) (cell_lt hc4)).trans hc4
                      change wr.cell? _ = some (Value.slice sa2 ms.length sc2) at hc5
                      have hi5 : RowAt encM wr (Value.slice sa2 ms.length sc2) ms := hi4.below hbr
                      have hq := fun m => quiet_sym38 (mes38_any n sa2 sc2 ms (wr.drewN m) (hi5.below ((Below.refl _ _).drewN m)) hml)
                      obtain ⟨D, hD⟩ : ∃ D, ms.all (okM n) = D := ⟨_, rfl⟩
                      rw [hD] at hd hq
                      have HD := Lib.hid hd
                      clear hd hD hms hi4 hc4
                      cases D
                      · have HF : Hid (R = false) := (show _ = _ by rw [HRB.out, HD4.out, HD.out]; simp)
                        go_wp2_with fail
                        go_quiet ((go_at_call 88; exact Calls.quiet_of_same (hq _)))
                        go_wp2_with fail
                        go_ret
                        exact ⟨ret_bool HF.out.symm, hbE.drewN nq⟩
                      · have HF : Hid ((row.drop (k + 1)).all (fun b => b.all (okM n)) = B3) := (show _ = _ by rw [HD.out]; rfl)
                        go_wp2_with fail
                        go_quiet ((go_at_call 88; exact Calls.quiet_of_same (hq _)))
                        go_wp2_with fail
                        go_roundw
                        case rel => exact ⟨k + 1, by omega, by go_num, HF, hbr.drewN nq⟩
                        case measure => simp [intOf]; omega
                    · have HB4 : Hid (B3 = true) := (show _ = _ by rw [← HK.out, List.drop_of_length_le (by omega)]; rfl)
                      have HF : Hid (((List.range bx.length).drop (i + 1)).all (fun i => okK n (kn.getD i []) && okB n P bx i) = B) := (show _ = _ by rw [HD4.out, HB4.out]; rfl)
                      go_wp2_with fail
                      go_roundw
                      case rel => exact ⟨i + 1, by omega, by go_num, HF, hbr⟩
                      case measure => simp [intOf]; omega
                · have HF : Hid (R = false) := (show _ = _ by rw [HRB.out, HD3.out, decide_eq_false hs0]; simp)
                  have hs1 : 0 < sn2 := by omega
                  go_wp2_with fail
                  go_quiet ((go_at_call 87; exact Calls.quiet_of_same (hq _)))
                  go_wp2_with fail
                  go_ret
                  exact ⟨ret_bool HF.out.symm, hbE.drewN nq⟩
              · have HF : Hid (R = false) := (show _ = _ by rw [HRB.out, HD2.out, decide_eq_false hrp]; simp)
                go_wp2_with fail
                go_quiet ((go_at_call 87; exact Calls.quiet_of_same (hq _)))
                go_wp2_with fail
                go_ret
                exact ⟨ret_bool HF.out.symm, hbE.drewN nq⟩
          · have HF : Hid (R = true) := (show _ = _ by rw [HRB.out, ← HI.out, List.drop_of_length_le (by simp; rw [← HLE.out]; omega)]; rfl)
            go_wp2_with fail
            go_ret
            exact ⟨ret_bool HF.out.symm, hb02.trans (hbr.mono hb02.size)⟩
      · have HF : Hid (R = false) := (show _ = _ by rw [← HR.out, decide_eq_false h2]; simp)
        go_wp2_with fail
        go_ret
        exact ⟨ret_bool HF.out.symm, hb02⟩
    · have HF : Hid (R = false) := (show _ = _ by rw [← HR.out, decide_eq_false h1]; simp)
      go_wp2_with fail
      go_ret
      exact ⟨ret_bool HF.out.symm, hb02⟩
  · have HF : Hid (R = false) := (show _ = _ by rw [← HR.out, decide_eq_false h0]; simp)
    go_wp2_with fail
    go_ret
    exact ⟨ret_bool HF.out.symm, hb02⟩
end Go.Proofs.Ytdkmdcdoiaelfaa
