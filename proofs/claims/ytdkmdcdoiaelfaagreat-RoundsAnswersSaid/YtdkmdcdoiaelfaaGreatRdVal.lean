/- The contracts of slices.ContainsFunc for functions with captured variables, partition.Check and rounds.check. The contract of rounds.Valid. The contract of rounds.ready. -/
import Derived.Test.YtdkmdcdoiaelfaaGreatRdWld
import Derived.Test.YtdkmdcdoiaelfaaGreatGraphCheck
namespace Go.Proofs.YtdkmdcdoiaelfaaGreat
open Go.RowKit Go.BigFrame

theorem anyI_drop (p : Int → Bool) (es : List Int) (k : Nat) (e : Int) (hk : es[k]? = some e) : (es.drop k).any p = (p e || (es.drop (k + 1)).any p) := by
  obtain ⟨hlt, he⟩ := List.getElem?_eq_some_iff.1 hk
  rw [List.drop_eq_getElem_cons hlt, List.any_cons, he]
/-- a function with a body is entered -/
theorem enter_of {P : Program} {f : FuncId} {fn : Func} {c : Code} (hf : P.funcs[f]? = some fn) (hname : (fn.name == "runtime.NumGoroutine") = false) (hb : fn.body = some c) (args : Array Value) (w : World) : (callFunc f args).run P w = .ok (.enter f args) w := by
  have h1 : ¬ fn.name = "runtime.NumGoroutine" := by simpa using hname
  simp [callFunc, hf, h1, hb]
set_option maxRecDepth 100000 in
set_option maxHeartbeats 1600000 in
theorem iidx_any (p : Int → Bool) (F : FuncId) (caps : Array Value) (a : Option Addr) (cap : Nat) (xs : List Int) (w : World) (he : IntsAt w (.slice a xs.length cap) xs) (hF : ∀ args W, (callFunc F args).run Tryz.prog W = .ok (.enter F args) W)
    (hf : ∀ x W, Below w.heap.size w W → Calls Tryz.prog F (#[.int .i64 x] ++ caps) W fun e W' => e = .returned (.bool (p x)) ∧ Below W.heap.size W W') :
    Calls Tryz.prog 78 #[.slice a xs.length cap, .func (.func F) #[] caps] w fun e w' => ∃ i : Int, e = .returned (.int .i64 i) ∧ decide (0 ≤ i) = xs.any p ∧ Below w.heap.size w w' := by
  have hl : xs.length ≤ 70368744177664 := by obtain ⟨_, _, _, _, _, h, _⟩ := he; exact h
  obtain ⟨B, hB⟩ : ∃ B, xs.any p = B := ⟨_, rfl⟩
  rw [hB]
  have HB := Lib.hid hB
  clear hB
  go_enter Tryz.func78, Tryz.ntmps78
  go_wp2_with fail
  go_loopw [8] (fun i wr => ∃ k : Nat, k ≤ xs.length ∧ i = .int .i64 k ∧ Hid ((xs.drop k).any p = B) ∧ Below w.heap.size w wr) (fun i _ => xs.length - (intOf i).toNat)
  case atStart => exact ⟨0, Nat.zero_le _, rfl, HB, Below.refl _ _⟩
  case round =>
    obtain ⟨k, hk, rfl, HR, hb⟩ := hrel
    by_cases hlt : k < xs.length
    · have hlt3 : (k : Int) < xs.length := by omega
      obtain ⟨b, off, x, rfl, hx, -, -, c0⟩ := (he.below hb).at k hlt
      have hd := anyI_drop p xs k x hx
      rw [HR.out] at hd
      have hcl := hf x wr hb
      obtain ⟨D, hD⟩ : ∃ D, p x = D := ⟨_, rfl⟩
      rw [hD] at hcl hd
      have HD := Lib.hid hd
      clear hd hD hx
      cases D
      · have HF : Hid ((xs.drop (k + 1)).any p = B) := (show _ = _ by rw [HD.out]; simp)
        go_wp2_with fail
        refine hcl.mono ?_
        rintro e w2 ⟨rfl, hb2⟩
        go_wp2_with fail
        go_roundw
        case rel => exact ⟨k + 1, by omega, by go_num, HF, hb.trans (hb2.mono hb.size)⟩
        case measure => simp [intOf]; omega
      · have HF : Hid (B = true) := (show _ = _ by rw [HD.out]; simp)
        go_wp2_with fail
        refine hcl.mono ?_
        rintro e w2 ⟨rfl, hb2⟩
        go_wp2_with fail
        go_ret
        exact ⟨(k : Int), rfl, by rw [HF.out]; simp, hb.trans (hb2.mono hb.size)⟩
    · have HF : Hid (B = false) := (show _ = _ by rw [← HR.out, List.drop_of_length_le (by omega)]; rfl)
      go_wp2_with fail
      go_ret
      exact ⟨-1, rfl, by rw [HF.out]; rfl, hb⟩
theorem icontains_any (p : Int → Bool) (F : FuncId) (caps : Array Value) (a : Option Addr) (cap : Nat) (xs : List Int) (w : World) (he : IntsAt w (.slice a xs.length cap) xs) (hF : ∀ args W, (callFunc F args).run Tryz.prog W = .ok (.enter F args) W)
    (hf : ∀ x W, Below w.heap.size w W → Calls Tryz.prog F (#[.int .i64 x] ++ caps) W fun e W' => e = .returned (.bool (p x)) ∧ Below W.heap.size W W') :
    Calls Tryz.prog 51 #[.slice a xs.length cap, .func (.func F) #[] caps] w fun e w' => e = .returned (.bool (xs.any p)) ∧ Below w.heap.size w w' := by
  have hix := iidx_any p F caps a cap xs w he hF hf
  generalize xs.any p = B at *
  go_enter Tryz.func51, Tryz.ntmps51
  go_wp2_with fail
  refine hix.mono ?_
  rintro e w1 ⟨i, rfl, hi, hb⟩
  go_wp2_with fail
  go_ret
  exact ⟨rfl, hb⟩
theorem pwork_any (n : Int) (w : World) : Calls Tryz.prog 82 #[.int .i64 n] w fun e w' => e = .returned (.bool (decide (1 ≤ n ∧ n ≤ 8))) ∧ w = w' := by
  obtain ⟨D, hD⟩ : ∃ D, decide (1 ≤ n ∧ n ≤ 8) = D := ⟨_, rfl⟩
  rw [hD]
  by_cases h1 : 1 ≤ n
  · by_cases h2 : n ≤ 8
    · rw [decide_eq_true (p := 1 ≤ n ∧ n ≤ 8) ⟨h1, h2⟩] at hD
      subst hD
      go_enter Tryz.func82, Tryz.ntmps82
      go_wp2
      go_ret
      exact ⟨ret_bool (by simp), rfl⟩
    · rw [decide_eq_false (p := 1 ≤ n ∧ n ≤ 8) (fun h => h2 h.2)] at hD
      subst hD
      go_enter Tryz.func82, Tryz.ntmps82
      go_wp2
      go_ret
      exact ⟨ret_bool (by simp), rfl⟩
  · rw [decide_eq_false (p := 1 ≤ n ∧ n ≤ 8) (fun h => h1 h.1)] at hD
    subst hD
    go_enter Tryz.func82, Tryz.ntmps82
    go_wp2
    go_ret
    exact ⟨rfl, rfl⟩
theorem pchk1_any (x P : Int) (X : Nat) (w : World) (hX : w.cell? ⟨X, 0, none⟩ = some (.int .i64 P)) :
    Calls Tryz.prog 84 #[.int .i64 x, .pointer (some ⟨X, 0, none⟩)] w fun e w' => e = .returned (.bool (decide (x < 0) || decide (P ≤ x))) ∧ Below w.heap.size w w' := by
  by_cases h1 : x < 0
  · go_enter Tryz.func84, Tryz.ntmps84
    go_wp2
    go_ret
    exact ⟨ret_bool (by simp [h1]), Below.refl _ _⟩
  · by_cases h2 : P ≤ x
    · go_enter Tryz.func84, Tryz.ntmps84
      go_wp2
      go_ret
      exact ⟨ret_bool (by simp), Below.refl _ _⟩
    · go_enter Tryz.func84, Tryz.ntmps84
      go_wp2
      go_ret
      exact ⟨ret_bool (by simp [h1, h2]), Below.refl _ _⟩
set_option maxRecDepth 100000 in
set_option maxHeartbeats 1600000 in
theorem pcheck_any (P n : Int) (ow hv : List Int) (ao ah : Option Addr) (co ch : Nat) (w : World) (ho : IntsAt w (.slice ao ow.length co) ow) (hh : IntsAt w (.slice ah hv.length ch) hv) :
    Calls Tryz.prog 64 #[.agg #[.int .i64 P, .slice ao ow.length co, .slice ah hv.length ch], .int .i64 n] w fun e w' => e = .returned (.int .i64 (plnS P ow hv n)) ∧ Below w.heap.size w w' := by
  obtain ⟨hX0, hb0⟩ := boxG_new w #[.int .i64 P, .slice ao ow.length co, .slice ah hv.length ch] 27
  obtain ⟨wA, hwA⟩ : ∃ W : World, W = w.alloc (.cells #[.int .i64 P, .slice ao ow.length co, .slice ah hv.length ch] 27) := ⟨_, rfl⟩
  obtain ⟨X, hX⟩ : ∃ X, w.heap.size = X := ⟨_, rfl⟩
  rw [← hwA] at hX0 hb0
  have ho1 := ho.below hb0
  have hh1 := hh.below hb0
  rw [hX] at hX0
  have q0 : wA.cell? ⟨X, 0, none⟩ = some (.int .i64 P) := cell_blk hX0
  have q1 : wA.cell? ⟨X, 1, none⟩ = some (.slice ao ow.length co) := cell_blk hX0
  have q2 : wA.cell? ⟨X, 2, none⟩ = some (.slice ah hv.length ch) := cell_blk hX0
  have hl : ow.length ≤ 70368744177664 := by obtain ⟨_, _, _, _, _, h, _⟩ := ho; exact h
  have hpw := pwork_any P wA
  have hnv := nvalidZ_any ah ch hv n wA hh1
  have hcf := icontains_any (fun x => decide (x < 0) || decide (P ≤ x)) 84 #[.pointer (some ⟨X, 0, none⟩)] ao co ow wA ho1 (enter_of Tryz.func84 (by kernel_rfl) rfl) (fun x W hb => pchk1_any x P X W ((hb.cell (p := ⟨X, 0, none⟩) (cell_lt q0)).trans q0))
  obtain ⟨R, hR⟩ : ∃ R, plnS P ow hv n = R := ⟨_, rfl⟩
  rw [hR]
  unfold plnS at hR
  have HR := Lib.hid hR
  have HWA := Lib.hid hwA
  have HX := Lib.hid hX
  have HB := Lib.hid hb0
  clear hR hwA hX0 ho hh ho1 hh1
  by_cases h1 : 1 ≤ P ∧ P ≤ 8
  · rw [decide_eq_true h1] at hpw
    by_cases h2 : (ow.length : Int) = n
    · obtain ⟨V, hV⟩ : ∃ V, validZ none hv n = V := ⟨_, rfl⟩
      obtain ⟨C, hC⟩ : ∃ C, (ow.any fun x => decide (x < 0) || decide (P ≤ x)) = C := ⟨_, rfl⟩
      rw [hV] at hnv
      rw [hC] at hcf
      have hr := HR.out
      rw [if_neg (by omega), hV, hC] at hr
      have HR2 := Lib.hid hr
      clear hr hV hC
      go_enter Tryz.func64, Tryz.ntmps64
      go_wp2_with (rw [← HWA.out])
      refine hpw.mono ?_
      rintro e w1 ⟨rfl, rfl⟩
      cases V
      · have HF : Hid (R = 4) := (show _ = _ by rw [← HR2.out]; simp)
        subst h2
        go_wp2_with fail
        refine hnv.mono ?_
        rintro e w1 ⟨rfl, rfl⟩
        go_wp2_with fail
        go_ret
        exact ⟨ret_int HF.out.symm, HB.out⟩
      · subst h2
        go_wp2_with fail
        refine hnv.mono ?_
        rintro e w1 ⟨rfl, rfl⟩
        go_wp2_with fail
        refine hcf.mono ?_
        rintro e w2 ⟨rfl, hb2⟩
        have hbE := HB.out.trans (hb2.mono HB.out.size)
        cases C
        · have HF : Hid (R = 0) := (show _ = _ by rw [← HR2.out]; simp)
          go_wp2_with fail
          go_ret
          exact ⟨ret_int HF.out.symm, hbE⟩
        · have HF : Hid (R = 30) := (show _ = _ by rw [← HR2.out]; simp)
          go_wp2_with fail
          go_ret
          exact ⟨ret_int HF.out.symm, hbE⟩
    · have HF : Hid (R = 4) := (show _ = _ by rw [← HR.out, if_neg (by omega), if_pos (.inl h2)])
      go_enter Tryz.func64, Tryz.ntmps64
      go_wp2_with (rw [← HWA.out])
      refine hpw.mono ?_
      rintro e w1 ⟨rfl, rfl⟩
      go_wp2_with fail
      go_ret
      exact ⟨ret_int HF.out.symm, HB.out⟩
  · have hd : decide (1 ≤ P ∧ P ≤ 8) = false := decide_eq_false h1
    rw [hd] at hpw
    have HF : Hid (R = 1) := (show _ = _ by rw [← HR.out, if_pos (by omega)])
    go_enter Tryz.func64, Tryz.ntmps64
    go_wp2_with (rw [← HWA.out])
    refine hpw.mono ?_
    rintro e w1 ⟨rfl, rfl⟩
    go_wp2_with fail
    go_ret
    exact ⟨ret_int HF.out.symm, HB.out⟩
set_option maxRecDepth 100000 in
set_option maxHeartbeats 1600000 in
theorem rdcheck_any (n P : Int) (es : List E2) (ow hv : List Int) (ae ao ah : Option Addr) (ce co ch : Nat) (w : World) (he : EdgesAt w (.slice ae es.length ce) es) (ho : IntsAt w (.slice ao ow.length co) ow) (hh : IntsAt w (.slice ah hv.length ch) hv) :
    Calls Tryz.prog 32 #[.agg #[.int .i64 n, .slice ae es.length ce], .agg #[.int .i64 P, .slice ao ow.length co, .slice ah hv.length ch]] w fun e w' => e = .returned (.int .i64 (fltS n es P ow hv)) ∧ Below w.heap.size w w' := by
  obtain ⟨hX0, hb0⟩ := boxG_new w #[.int .i64 n, .slice ae es.length ce] 25
  obtain ⟨hY0, hb1⟩ := boxG_new (w.alloc (.cells #[.int .i64 n, .slice ae es.length ce] 25)) #[.int .i64 P, .slice ao ow.length co, .slice ah hv.length ch] 27
  have hX1 := lit_next' hb1 hX0
  have hb01 := hb0.trans (hb1.mono hb0.size)
  have hz : (w.alloc (.cells #[.int .i64 n, .slice ae es.length ce] 25)).heap.size = w.heap.size + 1 := by simp
  rw [hz] at hY0
  obtain ⟨wA, hwA⟩ : ∃ W : World, W = (w.alloc (.cells #[.int .i64 n, .slice ae es.length ce] 25)).alloc (.cells #[.int .i64 P, .slice ao ow.length co, .slice ah hv.length ch] 27) := ⟨_, rfl⟩
  rw [← hwA] at hX1 hY0 hb01
  have hcg := gcheck_any n ae ce es wA (he.below hb01)
  have ho1 := ho.below hb01
  have hh1 := hh.below hb01
  have q0 : wA.cell? ⟨w.heap.size, 0, none⟩ = some (.int .i64 n) := cell_blk hX1
  have q1 : wA.cell? ⟨w.heap.size, 1, none⟩ = some (.slice ae es.length ce) := cell_blk hX1
  have r0 : wA.cell? ⟨w.heap.size + 1, 0, none⟩ = some (.int .i64 P) := cell_blk hY0
  have r1 : wA.cell? ⟨w.heap.size + 1, 1, none⟩ = some (.slice ao ow.length co) := cell_blk hY0
  have r2 : wA.cell? ⟨w.heap.size + 1, 2, none⟩ = some (.slice ah hv.length ch) := cell_blk hY0
  obtain ⟨G, hG⟩ : ∃ G, checkS n es = G := ⟨_, rfl⟩
  obtain ⟨R, hR⟩ : ∃ R, fltS n es P ow hv = R := ⟨_, rfl⟩
  rw [hR]
  unfold fltS at hR
  rw [hG] at hcg hR
  have HR := Lib.hid hR
  have HWA := Lib.hid hwA
  have HB := Lib.hid hb01
  clear hR hG hwA hX0 hX1 hY0 hb0 hb1 hz he ho hh
  go_enter Tryz.func32, Tryz.ntmps32
  go_wp2_with (rw [← HWA.out])
  refine hcg.mono ?_
  rintro e w1 ⟨rfl, hb1⟩
  have hbE := HB.out.trans (hb1.mono HB.out.size)
  by_cases h0 : G = 0
  · have HF : Hid (R = plnS P ow hv n) := (show _ = _ by rw [← HR.out, if_neg (fun h => h h0)])
    have hpc := pcheck_any P n ow hv ao ah co ch w1 (ho1.below hb1) (hh1.below hb1)
    rw [← HF.out] at hpc
    have k0 := (hb1.cell (p := ⟨w.heap.size, 0, none⟩) (cell_lt q0)).trans q0
    have l0 := (hb1.cell (p := ⟨w.heap.size + 1, 0, none⟩) (cell_lt r0)).trans r0
    have l1 := (hb1.cell (p := ⟨w.heap.size + 1, 1, none⟩) (cell_lt r1)).trans r1
    have l2 := (hb1.cell (p := ⟨w.heap.size + 1, 2, none⟩) (cell_lt r2)).trans r2
    clear q0 q1 r0 r1 r2 hcg
    subst h0
    go_wp2_with fail
    refine hpc.mono ?_
    rintro e w2 ⟨rfl, hb2⟩
    go_wp2_with fail
    go_ret
    exact ⟨rfl, hbE.trans (hb2.mono hbE.size)⟩
  · have HF : Hid (R = G) := (show _ = _ by rw [← HR.out, if_pos h0])
    go_wp2_with fail
    go_ret
    exact ⟨ret_int HF.out.symm, hbE⟩
end Go.Proofs.YtdkmdcdoiaelfaaGreat

namespace Go.Proofs.YtdkmdcdoiaelfaaGreat
open Go.RowKit Go.BigFrame

theorem anyM_drop (p : Msg → Bool) (es : List Msg) (k : Nat) (e : Msg) (hk : es[k]? = some e) : (es.drop k).any p = (p e || (es.drop (k + 1)).any p) := by
  obtain ⟨hlt, he⟩ := List.getElem?_eq_some_iff.1 hk
  rw [List.drop_eq_getElem_cons hlt, List.any_cons, he]
/-- a message's three cells -/
theorem msg_at {w : World} {a : Option Addr} {cap : Nat} {xs : List Msg} (h : RowAt encM w (.slice a xs.length cap) xs) (i : Nat) (hi : i < xs.length) :
    ∃ b off x y z, a = some ⟨b, off, none⟩ ∧ xs[i]? = some (x, y, z) ∧ w.cell? ⟨b, off + i * 3, none⟩ = some (.int .i64 x) ∧ w.cell? ⟨b, off + i * 3 + 1, none⟩ = some (.int .i64 y) ∧ w.cell? ⟨b, off + i * 3 + 2, none⟩ = some (.bool z) := by
  obtain ⟨b, off, ⟨x, y, z⟩, rfl, hp, _, hc⟩ := h.elem i hi
  have h0 := hc 0 _ rfl
  have h1 := hc 1 _ rfl
  have h2 := hc 2 _ rfl
  exact ⟨b, off, x, y, z, rfl, hp, h0, h1, h2⟩
set_option maxRecDepth 100000 in
set_option maxHeartbeats 1600000 in
theorem midx_any (p : Msg → Bool) (F : FuncId) (caps : Array Value) (a : Option Addr) (cap : Nat) (xs : List Msg) (w : World) (he : RowAt encM w (.slice a xs.length cap) xs) (hl : xs.length ≤ 1000000) (hF : ∀ args W, (callFunc F args).run Tryz.prog W = .ok (.enter F args) W)
    (hf : ∀ x y z W, Below w.heap.size w W → Calls Tryz.prog F (#[.agg #[.int .i64 x, .int .i64 y, .bool z]] ++ caps) W fun e W' => e = .returned (.bool (p (x, y, z))) ∧ Below W.heap.size W W') :
    Calls Tryz.prog 79 #[.slice a xs.length cap, .func (.func F) #[] caps] w fun e w' => ∃ i : Int, e = .returned (.int .i64 i) ∧ decide (0 ≤ i) = xs.any p ∧ Below w.heap.size w w' := by
  obtain ⟨B, hB⟩ : ∃ B, xs.any p = B := ⟨_, rfl⟩
  rw [hB]
  have HB := Lib.hid hB
  clear hB
  go_enter Tryz.func79, Tryz.ntmps79
  go_wp2_with fail
  go_loopw [8] (fun i wr => ∃ k : Nat, k ≤ xs.length ∧ i = .int .i64 k ∧ Hid ((xs.drop k).any p = B) ∧ Below w.heap.size w wr) (fun i _ => xs.length - (intOf i).toNat)
  case atStart => exact ⟨0, Nat.zero_le _, rfl, HB, Below.refl _ _⟩
  case round =>
    obtain ⟨k, hk, rfl, HR, hb⟩ := hrel
    by_cases hlt : k < xs.length
    · have hlt3 : (k : Int) < xs.length := by omega
      obtain ⟨b, off, x, y, z, rfl, hx, c0, c1, c2⟩ := msg_at (he.below hb) k hlt
      have hd := anyM_drop p xs k _ hx
      rw [HR.out] at hd
      have hcl := hf x y z wr hb
      obtain ⟨D, hD⟩ : ∃ D, p (x, y, z) = D := ⟨_, rfl⟩
      rw [hD] at hcl hd
      have HD := Lib.hid hd
      clear hd hD hx
      cases D
      · have HF : Hid ((xs.drop (k + 1)).any p = B) := (show _ = _ by rw [HD.out]; simp)
        go_wp2_with fail
        refine hcl.mono ?_
        rintro e w2 ⟨rfl, hb2⟩
        go_wp2_with fail
        go_roundw
        case rel => exact ⟨k + 1, by omega, by go_num, HF, hb.trans (hb2.mono hb.size)⟩
        case measure => simp [intOf]; omega
      · have HF : Hid (B = true) := (show _ = _ by rw [HD.out]; simp)
        go_wp2_with fail
        refine hcl.mono ?_
        rintro e w2 ⟨rfl, hb2⟩
        go_wp2_with fail
        go_ret
        exact ⟨(k : Int), rfl, by rw [HF.out]; simp, hb.trans (hb2.mono hb.size)⟩
    · have HF : Hid (B = false) := (show _ = _ by rw [← HR.out, List.drop_of_length_le (by omega)]; rfl)
      go_wp2_with fail
      go_ret
      exact ⟨-1, rfl, by rw [HF.out]; rfl, hb⟩
theorem mcontains_any (p : Msg → Bool) (F : FuncId) (caps : Array Value) (a : Option Addr) (cap : Nat) (xs : List Msg) (w : World) (he : RowAt encM w (.slice a xs.length cap) xs) (hl : xs.length ≤ 1000000) (hF : ∀ args W, (callFunc F args).run Tryz.prog W = .ok (.enter F args) W)
    (hf : ∀ x y z W, Below w.heap.size w W → Calls Tryz.prog F (#[.agg #[.int .i64 x, .int .i64 y, .bool z]] ++ caps) W fun e W' => e = .returned (.bool (p (x, y, z))) ∧ Below W.heap.size W W') :
    Calls Tryz.prog 53 #[.slice a xs.length cap, .func (.func F) #[] caps] w fun e w' => e = .returned (.bool (xs.any p)) ∧ Below w.heap.size w w' := by
  have hix := midx_any p F caps a cap xs w he hl hF hf
  generalize xs.any p = B at *
  go_enter Tryz.func53, Tryz.ntmps53
  go_wp2_with fail
  refine hix.mono ?_
  rintro e w1 ⟨i, rfl, hi, hb⟩
  go_wp2_with fail
  go_ret
  exact ⟨rfl, hb⟩
theorem val1_any (x n : Int) (X : Nat) (w : World) (hX : w.cell? ⟨X, 0, none⟩ = some (.int .i64 n)) :
    Calls Tryz.prog 50 #[.int .i64 x, .pointer (some ⟨X, 0, none⟩)] w fun e w' => e = .returned (.bool (okN n x)) ∧ Below w.heap.size w w' := by
  obtain ⟨D, hD⟩ : ∃ D, okN n x = D := ⟨_, rfl⟩
  rw [hD]
  unfold okN at hD
  by_cases h1 : 0 ≤ x
  · rw [decide_eq_true h1, Bool.true_and] at hD
    have HD := Lib.hid hD
    clear hD
    go_enter Tryz.func50, Tryz.ntmps50
    go_wp2
    go_ret
    exact ⟨ret_bool (by rw [← HD.out]), Below.refl _ _⟩
  · rw [decide_eq_false h1, Bool.false_and] at hD
    subst hD
    go_enter Tryz.func50, Tryz.ntmps50
    go_wp2
    go_ret
    exact ⟨ret_bool (by simp), Below.refl _ _⟩
theorem val2_any (x n : Int) (X Y : Nat) (w : World) (hX : w.cell? ⟨X, 0, none⟩ = some (.int .i64 n)) (hY : w.cell? ⟨Y, 0, none⟩ = some (.func (.func 50) #[] #[.pointer (some ⟨X, 0, none⟩)])) :
    Calls Tryz.prog 52 #[.int .i64 x, .pointer (some ⟨Y, 0, none⟩)] w fun e w' => e = .returned (.bool (!okN n x)) ∧ Below w.heap.size w w' := by
  have h1 := val1_any x n X w hX
  go_enter Tryz.func52, Tryz.ntmps52
  go_wp2_with fail
  refine h1.mono ?_
  rintro e w1 ⟨rfl, hb⟩
  go_wp2_with fail
  go_ret
  exact ⟨rfl, hb⟩
set_option maxRecDepth 100000 in
set_option maxHeartbeats 1600000 in
theorem val3_any (x y n : Int) (z : Bool) (X Y : Nat) (w : World) (hX : w.cell? ⟨X, 0, none⟩ = some (.int .i64 n)) (hY : w.cell? ⟨Y, 0, none⟩ = some (.func (.func 50) #[] #[.pointer (some ⟨X, 0, none⟩)])) :
    Calls Tryz.prog 54 #[.agg #[.int .i64 x, .int .i64 y, .bool z], .pointer (some ⟨X, 0, none⟩), .pointer (some ⟨Y, 0, none⟩)] w fun e w' => e = .returned (.bool (!okM n (x, y, z))) ∧ Below w.heap.size w w' := by
  obtain ⟨hM0, hb0⟩ := boxG_new w #[.int .i64 x, .int .i64 y, .bool z] 89
  have hXl := cell_lt hX
  have hYl := cell_lt hY
  have h1 := val1_any y n X _ ((hb0.cell (p := ⟨X, 0, none⟩) hXl).trans hX)
  have c0 : (w.alloc (.cells #[.int .i64 x, .int .i64 y, .bool z] 89)).cell? ⟨w.heap.size, 0, none⟩ = some (.int .i64 x) := cell_blk hM0
  have c1 : (w.alloc (.cells #[.int .i64 x, .int .i64 y, .bool z] 89)).cell? ⟨w.heap.size, 1, none⟩ = some (.int .i64 y) := cell_blk hM0
  have c2 : (w.alloc (.cells #[.int .i64 x, .int .i64 y, .bool z] 89)).cell? ⟨w.heap.size, 2, none⟩ = some (.bool z) := cell_blk hM0
  have k0 := (hb0.cell (p := ⟨X, 0, none⟩) hXl).trans hX
  have l0 := (hb0.cell (p := ⟨Y, 0, none⟩) hYl).trans hY
  obtain ⟨D, hD⟩ : ∃ D, (!okM n (x, y, z)) = D := ⟨_, rfl⟩
  obtain ⟨E, hE⟩ : ∃ E, okN n y = E := ⟨_, rfl⟩
  rw [hD]
  unfold okM at hD
  dsimp only at hD
  rw [hE] at hD h1
  have HD := Lib.hid hD
  have HB := Lib.hid hb0
  clear hD hE hM0 hb0
  cases z
  · by_cases h2 : x < 0
    · go_enter Tryz.func54, Tryz.ntmps54
      go_wp2_with fail
      go_ret
      exact ⟨ret_bool (by rw [← HD.out]; simp; omega), HB.out⟩
    · by_cases h3 : n ≤ x
      · go_enter Tryz.func54, Tryz.ntmps54
        go_wp2_with fail
        go_ret
        exact ⟨ret_bool (by rw [← HD.out]; simp; omega), HB.out⟩
      · go_enter Tryz.func54, Tryz.ntmps54
        go_wp2_with fail
        refine h1.mono ?_
        rintro e w1 ⟨rfl, hb⟩
        go_wp2_with fail
        go_ret
        exact ⟨ret_bool (by rw [← HD.out, decide_eq_true (show 0 ≤ x by omega), decide_eq_true (show x < n by omega)]; simp), HB.out.trans (hb.mono HB.out.size)⟩
  · go_enter Tryz.func54, Tryz.ntmps54
    go_wp2_with fail
    go_ret
    exact ⟨ret_bool (by rw [← HD.out]; simp), HB.out⟩
theorem IntsAt.lenE {w : World} {a : Option Addr} {n c : Nat} {xs : List Int} (h : IntsAt w (.slice a n c) xs) : n = xs.length := by obtain ⟨_, _, e, _⟩ := h; cases e; rfl
theorem RowAt.lenE {α : Type} {E : Enc α} {w : World} {a : Option Addr} {n c : Nat} {xs : List α} (h : RowAt E w (.slice a n c) xs) : n = xs.length := by obtain ⟨_, _, e, _⟩ := h; cases e; rfl
theorem all_not_any {α : Type} (p : α → Bool) (l : List α) : l.any (fun x => !p x) = !l.all p := by
  induction l with
  | nil => rfl
  | cons x l ih => rw [List.any_cons, List.all_cons, ih, Bool.not_and]
/-- the boxes of rounds.Valid -/
structure ValS (w : World) (X Y : Nat) (n : Int) (cs : Array Value) (wr : World) : Prop where
  x : wr.heap[X]? = some (.cells cs 36 (0, 0))
  n : wr.heap[X + 1]? = some (.cells #[.int .i64 n] 3 (0, 0))
  f : wr.heap[Y]? = some (.cells #[.func (.func 50) #[] #[.pointer (some ⟨X + 1, 0, none⟩)]] 77 (0, 0))
  be : Below w.heap.size w wr
theorem ValS.next {w wr w' : World} {X Y : Nat} {n : Int} {cs : Array Value} (h : ValS w X Y n cs wr) (hb : Below wr.heap.size wr w') : ValS w X Y n cs w' := ⟨lit_next' hb h.x, lit_next' hb h.n, lit_next' hb h.f, h.be.trans (hb.mono h.be.size)⟩
set_option linter.unusedSimpArgs false in
set_option maxRecDepth 100000 in
set_option maxHeartbeats 3200000 in
theorem rdvalid_any (W : WdL) (v : Value) (w : World) (h : WldAt w v W) (hbm : ∀ r ∈ W.bx, ∀ m ∈ r, m.length ≤ 1000000) :
    Calls Tryz.prog 17 #[v] w fun e w' => e = .returned (.bool (valB W)) ∧ Below w.heap.size w w' := by
  obtain ⟨n, es, P, ow, hv, kn, bx⟩ := W
  obtain ⟨ae, ao, ah, ak, ab, ce, co, ch, ck, cb, rfl, he, ho, hh, hk, hb⟩ := h
  dsimp only at he ho hh hk hb hbm ⊢
  obtain ⟨hX0, hb0⟩ := boxG_new w #[.int .i64 n, .slice ae es.length ce, .int .i64 P, .slice ao ow.length co, .slice ah hv.length ch, .slice ak kn.length ck, .slice ab bx.length cb] 36
  obtain ⟨w1, hw1⟩ : ∃ W : World, W = w.alloc (.cells #[.int .i64 n, .slice ae es.length ce, .int .i64 P, .slice ao ow.length co, .slice ah hv.length ch, .slice ak kn.length ck, .slice ab bx.length cb] 36) := ⟨_, rfl⟩
  rw [← hw1] at hX0 hb0
  obtain ⟨hN0, hb1⟩ := boxG_new w1 #[.int .i64 n] 3
  have hz : w1.heap.size = w.heap.size + 1 := by rw [hw1]; simp
  have hX1 := lit_next' hb1 hX0
  have hb01 := hb0.trans (hb1.mono hb0.size)
  rw [hz] at hN0
  obtain ⟨X, hX⟩ : ∃ X, w.heap.size = X := ⟨_, rfl⟩
  rw [hX] at hX0 hX1 hN0 hz
  have p0 : w1.cell? ⟨X, 0, none⟩ = some (.int .i64 n) := cell_blk hX0
  obtain ⟨wA, hwA⟩ : ∃ W : World, W = w1.alloc (.cells #[.int .i64 n] 3) := ⟨_, rfl⟩
  rw [← hwA] at hN0 hX1 hb01
  obtain ⟨q0, q1, q2, q3, q4, q5, q6⟩ := cells7 hX1
  have hch := rdcheck_any n P es ow hv ae ao ah ce co ch wA (he.below hb01) (ho.below hb01) (hh.below hb01)
  obtain ⟨R, hR⟩ : ∃ R, valB ⟨n, es, P, ow, hv, kn, bx⟩ = R := ⟨_, rfl⟩
  obtain ⟨F, hF⟩ : ∃ F, fltS n es P ow hv = F := ⟨_, rfl⟩
  rw [hR]
  unfold valB at hR
  dsimp only at hR
  rw [hF] at hR hch
  have HR := Lib.hid hR
  have HWA := Lib.hid hwA
  have HW1 := Lib.hid hw1
  have HB := Lib.hid hb01
  clear hR hF hwA hw1 hX0 hb0 hb1 he ho hh
  go_enter Tryz.func17, Tryz.ntmps17
  go_wp2_with (first | rw [← HW1.out] | rw [← HWA.out])
  refine hch.mono ?_
  rintro e w2 ⟨rfl, hb2⟩
  have hb02 := HB.out.trans (hb2.mono HB.out.size)
  have hX2 := lit_next' hb2 hX1
  have hN2 := lit_next' hb2 hN0
  have hk2 := hk.below hb02
  have hbx2 := hb.below hb02
  clear hch p0 q0 q1 q2 q3 q4 q5 q6 hX1 hN0 hb01 hk hb hb2
  obtain ⟨q0, q1, q2, q3, q4, q5, q6⟩ := cells7 hX2
  by_cases h0 : F = 0
  · subst h0
    by_cases h1 : (kn.length : Int) = P
    · by_cases h2 : (bx.length : Int) = P
      · obtain ⟨hf00, hb3a⟩ := boxG_new w2 #[.nilFunc] 77
        have fc : (w2.alloc (.cells #[.nilFunc] 77)).cell? ⟨w2.heap.size, 0, none⟩ = some .nilFunc := cell_blk hf00
        have ff : (w2.alloc (.cells #[.nilFunc] 77)).frozen? ⟨w2.heap.size, 0, none⟩ = false := free_blk hf00
        have hf0 := heap_setCell_same _ _ 0 _ _ (.func (.func 50) #[] #[.pointer (some ⟨X + 1, 0, none⟩)]) hf00
        have hb3 := hb3a.setCell (p := ⟨w2.heap.size, 0, none⟩) (Nat.le_refl _) (.func (.func 50) #[] #[.pointer (some ⟨X + 1, 0, none⟩)])
        obtain ⟨w3, hw3⟩ : ∃ W : World, W = (w2.alloc (.cells #[.nilFunc] 77)).setCell ⟨w2.heap.size, 0, none⟩ (.func (.func 50) #[] #[.pointer (some ⟨X + 1, 0, none⟩)]) := ⟨_, rfl⟩
        rw [← hw3] at hf0 hb3
        have hk3 := hk2.below hb3
        have hbx3 := hbx2.below hb3
        have hX3 := lit_next' hb3 hX2
        have hN3 := lit_next' hb3 hN2
        have hb03 := hb02.trans (hb3.mono hb02.size)
        obtain ⟨Y, hY⟩ : ∃ Y, w2.heap.size = Y := ⟨_, rfl⟩
        rw [hY] at hf0 hw3 fc ff
        have hst : (store ⟨Y, 0, none⟩ (.func (.func 50) #[] #[.pointer (some ⟨X + 1, 0, none⟩)])).run Tryz.prog (w2.alloc (.cells #[.nilFunc] 77)) = .ok () w3 := by
          rw [run_store _ _ _ _ _ rfl, hw3]
          simp [stored, fc, ff]
        have hS0 : ValS w X Y n _ w3 := ⟨hX3, hN3, hf0, hb03⟩
        have HW3 := Lib.hid hw3
        have HY := Lib.hid hY
        obtain ⟨B1, hB1⟩ : ∃ B, kn.all (okK n) = B := ⟨_, rfl⟩
        obtain ⟨B2, hB2⟩ : ∃ B, (List.range bx.length).all (okB n P bx) = B := ⟨_, rfl⟩
        have hr := HR.out
        rw [decide_eq_true h1, decide_eq_true h2, hB1, hB2] at hr
        have HR2 : Hid (R = (B1 && B2)) := (show _ = _ by rw [← hr]; simp)
        have HB1 := Lib.hid hB1
        have HB2 := Lib.hid hB2
        have hkl : kn.length ≤ 1099511627776 := by obtain ⟨L, hL, hL2, -⟩ := hk2; have := hL.small; rw [← hL2, List.length_map]; exact this
        have hbl : bx.length ≤ 1099511627776 := by obtain ⟨L, hL, hL2, -⟩ := hbx2; have := hL.small; rw [← hL2, List.length_map]; exact this
        clear hb3a hf00 hX3 hN3 hb03 hr hB1 hB2 hw3 hk2 hbx2 hX2 hN2 hb02 hf0 hb3
        obtain ⟨k0, k1, k2, k3, k4, k5, k6⟩ := cells7 hS0.x
        go_wp2_with fail
        clear fc ff hst
        clear q0 q1 q2 q3 q4 q5 q6 k0 k1 k2 k3 k4 k5 k6
        go_loopw [42] (fun vi wr => ∃ k : Nat, k ≤ kn.length ∧ vi = .int .i64 (k : Int) ∧ Hid ((kn.drop k).all (okK n) = B1) ∧ ValS w X Y n #[.int .i64 n, .slice ae es.length ce, .int .i64 P, .slice ao ow.length co, .slice ah hv.length ch, .slice ak kn.length ck, .slice ab bx.length cb] wr ∧ Below w3.heap.size w3 wr) (fun i _ => kn.length - (intOf i).toNat)
        case atStart => exact ⟨0, Nat.zero_le _, rfl, HB1, hS0, Below.refl _ _⟩
        case round =>
          clear hS0
          obtain ⟨k, hkk, rfl, HK, hS, hbr⟩ := hrel
          by_cases hlt : k < kn.length
          · have hlt3 : (k : Int) < kn.length := by omega
            obtain ⟨-, hcap, b, off, sl, rfl, hc0, hi⟩ := hk3.at k _ (List.getElem?_eq_getElem hlt)
            have hd := all_drop (okK n) kn k _ (List.getElem?_eq_getElem hlt)
            obtain ⟨l, hl⟩ : ∃ l, kn[k] = l := ⟨_, rfl⟩
            rw [hl] at hi hd
            rw [HK.out] at hd
            have hi2 := hi.below hbr
            have hc1 := (hbr.cell (p := ⟨b, off + k, none⟩) (cell_lt hc0)).trans hc0
            obtain ⟨sa, sn, sc⟩ := sl
            have hsn : sn = l.length := IntsAt.lenE hi2
            subst hsn
            change wr.cell? _ = some (Value.slice sa l.length sc) at hc1
            change IntsAt wr (Value.slice sa l.length sc) l at hi2
            have hcn : wr.cell? ⟨X + 1, 0, none⟩ = some (.int .i64 n) := cell_blk hS.n
            have hcf : wr.cell? ⟨Y, 0, none⟩ = some (.func (.func 50) #[] #[.pointer (some ⟨X + 1, 0, none⟩)]) := cell_blk hS.f
            have HDl := Lib.hid hd
            clear hd hl hi hc0
            by_cases hln : (l.length : Int) = n
            · have hcc := icontains_any (fun x => !okN n x) 52 #[.pointer (some ⟨Y, 0, none⟩)] sa sc l wr hi2 (enter_of Tryz.func52 (by kernel_rfl) rfl) (fun x W hbW => val2_any x n (X + 1) Y W ((hbW.cell (p := ⟨X + 1, 0, none⟩) (cell_lt hcn)).trans hcn) ((hbW.cell (p := ⟨Y, 0, none⟩) (cell_lt hcf)).trans hcf))
              rw [all_not_any] at hcc
              obtain ⟨D, hD⟩ : ∃ D, l.all (okN n) = D := ⟨_, rfl⟩
              rw [hD] at hcc
              have hd := HDl.out
              unfold okK at hd
              rw [hD, decide_eq_true hln, Bool.true_and] at hd
              have HD := Lib.hid hd
              clear hd hD
              cases D
              · have HF : Hid (R = false) := (show _ = _ by rw [HR2.out, HD.out]; simp)
                go_wp2_with fail
                refine hcc.mono ?_
                rintro e w4 ⟨rfl, hb4⟩
                go_wp2_with fail
                go_ret
                exact ⟨ret_bool HF.out.symm, hS.be.trans (hb4.mono hS.be.size)⟩
              · have HF : Hid ((kn.drop (k + 1)).all (okK n) = B1) := (show _ = _ by rw [HD.out]; rfl)
                go_wp2_with fail
                refine hcc.mono ?_
                rintro e w4 ⟨rfl, hb4⟩
                go_wp2_with fail
                go_roundw
                case rel => exact ⟨k + 1, by omega, by go_num, HF, hS.next hb4, hbr.trans (hb4.mono hbr.size)⟩
                case measure => simp [intOf]; omega
            · have HF : Hid (R = false) := (show _ = _ by rw [HR2.out, HDl.out]; unfold okK; rw [decide_eq_false hln]; simp)
              go_wp2_with fail
              go_ret
              exact ⟨ret_bool HF.out.symm, hS.be⟩
          · have HK1 : Hid (B1 = true) := (show _ = _ by rw [← HK.out, List.drop_of_length_le (by omega)]; rfl)
            have HR3 : Hid (R = B2) := (show _ = _ by rw [HR2.out, HK1.out, Bool.true_and])
            clear HR2 HK HK1 HB1 HR
            obtain ⟨k0, k1, k2, k3, k4, k5, k6⟩ := cells7 hS.x
            go_wp2_with fail
            go_loopw [59] (fun vi wq => ∃ i : Nat, i ≤ bx.length ∧ vi = .int .i64 (i : Int) ∧ Hid (((List.range bx.length).drop i).all (okB n P bx) = B2) ∧ ValS w X Y n #[.int .i64 n, .slice ae es.length ce, .int .i64 P, .slice ao ow.length co, .slice ah hv.length ch, .slice ak kn.length ck, .slice ab bx.length cb] wq ∧ Below w3.heap.size w3 wq) (fun i _ => bx.length - (intOf i).toNat)
            case atStart => exact ⟨0, Nat.zero_le _, rfl, HB2, hS, hbr⟩
            case round =>
              clear hS hbr k0 k1 k2 k3 k4 k5 k6
              obtain ⟨i, hii, rfl, HI, hS, hbr⟩ := hrel
              by_cases hlt2 : i < bx.length
              · have hlt4 : (i : Int) < bx.length := by omega
                obtain ⟨-, hcap, b, off, sl, rfl, hc0, hi⟩ := hbx3.at i _ (List.getElem?_eq_getElem hlt2)
                have hd := all_drop (okB n P bx) (List.range bx.length) i i (List.getElem?_range hlt2)
                obtain ⟨row, hrow⟩ : ∃ l, bx[i] = l := ⟨_, rfl⟩
                have hgd : bx.getD i [] = row := by rw [List.getD_eq_getElem?_getD, List.getElem?_eq_getElem hlt2, hrow]; rfl
                have hrm : row ∈ bx := by rw [← hrow]; exact List.getElem_mem hlt2
                rw [hrow] at hi
                rw [HI.out] at hd
                unfold okB at hd
                rw [hgd] at hd
                have hR3 : BoxR w3 (slV sl) row := hi
                have hc1 := (hbr.cell (p := ⟨b, off + i, none⟩) (cell_lt hc0)).trans hc0
                obtain ⟨sa, sn, sc⟩ := sl
                have hsn : sn = row.length := (NestA.len hR3).1
                subst hsn
                change wr.cell? _ = some (Value.slice sa row.length sc) at hc1
                change BoxR w3 (Value.slice sa row.length sc) row at hR3
                have hrl : row.length ≤ 1099511627776 := by obtain ⟨L, hL, hL2, -⟩ := hR3; have := hL.small; rw [← hL2, List.length_map]; exact this
                have HDl := Lib.hid hd
                clear hd hi hc0 hgd hrow
                obtain ⟨x0, x1, x2, x3, x4, x5, x6⟩ := cells7 hS.x
                by_cases hrp : (row.length : Int) = P
                · have hil : i < row.length := by omega
                  have hil2 : (i : Int) < row.length := by omega
                  obtain ⟨-, hcapr, rb, roff, sl, rfl, hc2, hi2⟩ := hR3.at i _ (List.getElem?_eq_getElem hil)
                  obtain ⟨sa2, sn2, sc2⟩ := sl
                  have hsn2 : sn2 = row[i].length := RowAt.lenE hi2
                  have hc3 := (hbr.cell (p := ⟨rb, roff + i, none⟩) (cell_lt hc2)).trans hc2
                  change wr.cell? _ = some (Value.slice sa2 sn2 sc2) at hc3
                  have hgd : row.getD i [] = row[i] := by rw [List.getD_eq_getElem?_getD, List.getElem?_eq_getElem hil]; rfl
                  have hd := HDl.out
                  rw [hgd, ← hsn2, decide_eq_true hrp, Bool.true_and] at hd
                  have HD2 := Lib.hid hd
                  clear hd hgd hsn2 hi2 hc2
                  by_cases hs0 : sn2 = 0
                  · subst hs0
                    obtain ⟨B3, hB3⟩ : ∃ B, (row.all fun b => b.all (okM n)) = B := ⟨_, rfl⟩
                    have hd := HD2.out
                    rw [hB3, decide_eq_true rfl, Bool.true_and] at hd
                    have HD3 := Lib.hid hd
                    have HB3 := Lib.hid hB3
                    clear hd hB3 HDl HD2
                    go_wp2_with fail
                    rw [decide_eq_true (show (i : Int) < P by omega)]
                    go_loopw [80] (fun vk wq => ∃ k : Nat, k ≤ row.length ∧ vk = .int .i64 (k : Int) ∧ Hid ((row.drop k).all (fun b => b.all (okM n)) = B3) ∧ ValS w X Y n #[.int .i64 n, .slice ae es.length ce, .int .i64 P, .slice ao ow.length co, .slice ah hv.length ch, .slice ak kn.length ck, .slice (some ⟨b, off, none⟩) bx.length cb] wq ∧ Below w3.heap.size w3 wq) (fun i _ => row.length - (intOf i).toNat)
                    case atStart => exact ⟨0, Nat.zero_le _, rfl, HB3, hS, hbr⟩
                    case round =>
                      clear hS hbr x0 x1 x2 x3 x4 x5 x6 hc1 hc3
                      obtain ⟨k, hkk, rfl, HK, hS, hbr⟩ := hrel
                      by_cases hlt5 : k < row.length
                      · have hlt6 : (k : Int) < row.length := by omega
                        have hkP : (k : Int) < P := by omega
                        obtain ⟨-, hcapr, _, _, sl, e, hc2, hi2⟩ := hR3.at k _ (List.getElem?_eq_getElem hlt5)
                        cases e
                        obtain ⟨ms, hms⟩ : ∃ l, row[k] = l := ⟨_, rfl⟩
                        have hmm : ms ∈ row := by rw [← hms]; exact List.getElem_mem hlt5
                        have hml := hbm row hrm ms hmm
                        have hd := all_drop (fun b => b.all (okM n)) row k _ (List.getElem?_eq_getElem hlt5)
                        rw [hms] at hi2 hd
                        rw [HK.out] at hd
                        obtain ⟨sa2, sn2, sc2⟩ := sl
                        have hsn2 : sn2 = ms.length := RowAt.lenE hi2
                        subst hsn2
                        have hc3 := (hbr.cell (p := ⟨rb, roff + k, none⟩) (cell_lt hc2)).trans hc2
                        change wr.cell? _ = some (Value.slice sa2 ms.length sc2) at hc3
                        have hi3 : RowAt encM wr (Value.slice sa2 ms.length sc2) ms := hi2.below hbr
                        have hcn : wr.cell? ⟨X + 1, 0, none⟩ = some (.int .i64 n) := cell_blk hS.n
                        have hcf : wr.cell? ⟨Y, 0, none⟩ = some (.func (.func 50) #[] #[.pointer (some ⟨X + 1, 0, none⟩)]) := cell_blk hS.f
                        have hcc := mcontains_any (fun m => !okM n m) 54 #[.pointer (some ⟨X + 1, 0, none⟩), .pointer (some ⟨Y, 0, none⟩)] sa2 sc2 ms wr hi3 hml (enter_of Tryz.func54 (by kernel_rfl) rfl) (fun x y z W hbW => val3_any x y n z (X + 1) Y W ((hbW.cell (p := ⟨X + 1, 0, none⟩) (cell_lt hcn)).trans hcn) ((hbW.cell (p := ⟨Y, 0, none⟩) (cell_lt hcf)).trans hcf))
                        rw [all_not_any] at hcc
                        obtain ⟨D, hD⟩ : ∃ D, ms.all (okM n) = D := ⟨_, rfl⟩
                        rw [hD] at hcc hd
                        have HD := Lib.hid hd
                        clear hd hD hms hi2 hc2
                        cases D
                        · have HF : Hid (R = false) := (show _ = _ by rw [HR3.out, HD3.out, HD.out]; simp)
                          go_wp2_with fail
                          refine hcc.mono ?_
                          rintro e w4 ⟨rfl, hb4⟩
                          go_wp2_with fail
                          go_ret
                          exact ⟨ret_bool HF.out.symm, hS.be.trans (hb4.mono hS.be.size)⟩
                        · have HF : Hid ((row.drop (k + 1)).all (fun b => b.all (okM n)) = B3) := (show _ = _ by rw [HD.out]; rfl)
                          go_wp2_with fail
                          refine hcc.mono ?_
                          rintro e w4 ⟨rfl, hb4⟩
                          go_wp2_with fail
                          go_roundw
                          case rel => exact ⟨k + 1, by omega, by go_num, HF, hS.next hb4, hbr.trans (hb4.mono hbr.size)⟩
                          case measure => simp [intOf]; omega
                      · have HB4 : Hid (B3 = true) := (show _ = _ by rw [← HK.out, List.drop_of_length_le (by omega)]; rfl)
                        have HF : Hid (((List.range bx.length).drop (i + 1)).all (okB n P bx) = B2) := (show _ = _ by rw [HD3.out, HB4.out]; rfl)
                        go_wp2_with fail
                        go_roundw
                        case rel => exact ⟨i + 1, by omega, by go_num, HF, hS, hbr⟩
                        case measure => simp [intOf]; omega
                  · have HF : Hid (R = false) := (show _ = _ by rw [HR3.out, HD2.out, decide_eq_false hs0]; simp)
                    have hs1 : 0 < sn2 := by omega
                    go_wp2_with fail
                    go_ret
                    exact ⟨ret_bool HF.out.symm, hS.be⟩
                · have HF : Hid (R = false) := (show _ = _ by rw [HR3.out, HDl.out, decide_eq_false hrp]; simp)
                  go_wp2_with fail
                  go_ret
                  exact ⟨ret_bool HF.out.symm, hS.be⟩
              · have HF : Hid (R = true) := (show _ = _ by rw [HR3.out, ← HI.out, List.drop_of_length_le (by simp; omega)]; rfl)
                go_wp2_with fail
                go_ret
                exact ⟨ret_bool HF.out.symm, hS.be⟩
      · have HF : Hid (R = false) := (show _ = _ by rw [← HR.out, decide_eq_false h2]; simp)
        go_wp2_with fail
        go_ret
        exact ⟨ret_bool HF.out.symm, hb02⟩
    · have HF : Hid (R = false) := (show _ = _ by rw [← HR.out, decide_eq_false h1]; simp)
      go_wp2_with fail
      go_ret
      exact ⟨ret_bool HF.out.symm, hb02⟩
  · have HF : Hid (R = false) := (show _ = _ by rw [← HR.out, decide_eq_false h0]; simp)
    go_wp2_with fail
    go_ret
    exact ⟨ret_bool HF.out.symm, hb02⟩
end Go.Proofs.YtdkmdcdoiaelfaaGreat

namespace Go.Proofs.YtdkmdcdoiaelfaaGreat
open Go.RowKit Go.BigFrame

/-- channels: pairs of numbers -/
def encC : Enc E2 := ⟨2, fun p => [.int .i64 p.1, .int .i64 p.2], fun _ => rfl, fun e u hu => by simp at hu; rcases hu with h | h <;> subst h <;> rfl, by decide⟩
theorem chRT : SliceT Tryz.prog 52 54 (.agg #[.int .i64 0, .int .i64 0]) encC.k 16 := ⟨Tryz.underlying52, by kernel_rfl, rfl, by decide⟩
theorem rdrow_len (i : Nat) (row : List (List Msg)) : ∀ k, (rdrow i row k).length ≤ k
  | 0 => Nat.le_refl _
  | k + 1 => by
    have := rdrow_len i row k
    rw [rdrow, List.length_append]
    split <;> simp <;> omega
theorem rdyR_len (bx : List (List (List Msg))) (hr : ∀ r ∈ bx, r.length ≤ 64) : ∀ k, k ≤ bx.length → (rdyR bx k).length ≤ k * 64
  | 0, _ => Nat.le_refl _
  | k + 1, h => by
    have h1 := rdyR_len bx hr k (by omega)
    have h2 := rdrow_len k (bx.getD k []) (bx.getD k []).length
    have h3 : (bx.getD k []).length ≤ 64 := by
      rw [List.getD_eq_getElem?_getD, List.getElem?_eq_getElem (show k < bx.length by omega)]
      exact hr _ (List.getElem_mem _)
    rw [rdyR, List.length_append]; omega
def RdyPost (w : World) (L : List E2) (e : Ending) (w' : World) : Prop := ∃ a cap, e = .returned (.slice a L.length cap) ∧ RowAt encC w' (.slice a L.length cap) L ∧ Below w.heap.size w w'
set_option linter.unusedSimpArgs false in
set_option maxRecDepth 100000 in
set_option maxHeartbeats 3200000 in
theorem rdready_any (n P : Int) (bx : List (List (List Msg))) (V1 V2 V3 V5 : Value) (ab : Option Addr) (cb : Nat) (w : World) (hb : BoxA w (.slice ab bx.length cb) bx) (hbl : bx.length ≤ 64) (hr : ∀ r ∈ bx, r.length ≤ 64) :
    Calls Tryz.prog 57 #[.agg #[.int .i64 n, V1, .int .i64 P, V2, V3, V5, .slice ab bx.length cb]] w (RdyPost w (rdyL bx)) := by
  obtain ⟨hX0, hb0⟩ := boxG_new w #[.int .i64 n, V1, .int .i64 P, V2, V3, V5, .slice ab bx.length cb] 36
  obtain ⟨X, hX⟩ : ∃ X, w.heap.size = X := ⟨_, rfl⟩
  rw [hX] at hX0
  obtain ⟨wA, hwA⟩ : ∃ W : World, W = w.alloc (.cells #[.int .i64 n, V1, .int .i64 P, V2, V3, V5, .slice ab bx.length cb] 36) := ⟨_, rfl⟩
  rw [← hwA] at hb0 hX0
  obtain ⟨q0, q1, q2, q3, q4, q5, q6⟩ := cells7 hX0
  have hbA := hb.below hb0
  have hXl : X < wA.heap.size := blk_lt hX0
  have HWA := Lib.hid hwA
  have HX := Lib.hid hX
  clear hwA hb
  go_enter Tryz.func57, Tryz.ntmps57
  go_wp2_with (rw [← HWA.out])
  clear q0 q1 q2 q3 q4 q5 q6
  go_loopw [3, 11] (fun vs vi wr => ∃ (i m : Nat), i ≤ bx.length ∧ vi = .int .i64 (i : Int) ∧ wr.ownsRow wA.heap.size 54 encC.k vs m (flatR encC (rdyR bx i)) ∧ m = (rdyR bx i).length ∧ Below wA.heap.size wA wr) (fun _ vi _ => bx.length - (intOf vi).toNat)
  case atStart => exact ⟨0, 0, Nat.zero_le _, rfl, World.ownsRow_nil _ _ _ _, rfl, Below.refl _ _⟩
  case round =>
    obtain ⟨i, m, hi, rfl, hown, rfl, hbr⟩ := hrel
    by_cases hlt : i < bx.length
    · have hlt3 : (i : Int) < bx.length := by omega
      obtain ⟨-, hcap, b, off, sl, rfl, hc0, hR0⟩ := hbA.at i _ (List.getElem?_eq_getElem hlt)
      obtain ⟨row, hrow⟩ : ∃ l, bx[i] = l := ⟨_, rfl⟩
      have hgd : bx.getD i [] = row := by rw [List.getD_eq_getElem?_getD, List.getElem?_eq_getElem hlt, hrow]; rfl
      have hrm : row ∈ bx := by rw [← hrow]; exact List.getElem_mem hlt
      rw [hrow] at hR0
      have hR3 : BoxR wA (slV sl) row := hR0
      have hc1 := (hbr.cell (p := ⟨b, off + i, none⟩) (cell_lt hc0)).trans hc0
      obtain ⟨sa, sn, sc⟩ := sl
      have hsn : sn = row.length := (NestA.len hR3).1
      subst hsn
      change wr.cell? _ = some (Value.slice sa row.length sc) at hc1
      change BoxR wA (Value.slice sa row.length sc) row at hR3
      have hrl := hr row hrm
      have hml := rdyR_len bx hr i (by omega)
      have hml2 : i * 64 ≤ 4096 := by omega
      have HS : Hid (rdyR bx (i + 1) = rdyR bx i ++ rdrow i row row.length) := (show _ = _ by rw [rdyR, hgd])
      obtain ⟨L, hL⟩ : ∃ L, rdyR bx i = L := ⟨_, rfl⟩
      rw [hL] at hown HS hml
      clear hL hrow hgd hR0 hc0
      go_wp2_with fail
      go_loopw [3, 18] (fun vs vk wq => ∃ (k m : Nat), k ≤ row.length ∧ vk = .int .i64 (k : Int) ∧ wq.ownsRow wA.heap.size 54 encC.k vs m (flatR encC (L ++ rdrow i row k)) ∧ m = (L ++ rdrow i row k).length ∧ Below wA.heap.size wA wq) (fun _ vk _ => row.length - (intOf vk).toNat)
      case atStart => exact ⟨0, _, Nat.zero_le _, rfl, by rw [rdrow, List.append_nil]; exact hown, by rw [rdrow, List.append_nil], hbr⟩
      case round =>
        clear hown hbr hc1
        obtain ⟨k, m, hkk, rfl, hown, rfl, hbr⟩ := hrel
        by_cases hlt5 : k < row.length
        · have hlt6 : (k : Int) < row.length := by omega
          obtain ⟨-, hcapr, b2, off2, sl, rfl, hc2, hi2⟩ := hR3.at k _ (List.getElem?_eq_getElem hlt5)
          obtain ⟨sa2, sn2, sc2⟩ := sl
          have hsn2 : sn2 = row[k].length := RowAt.lenE hi2
          have hgd2 : row.getD k [] = row[k] := by rw [List.getD_eq_getElem?_getD, List.getElem?_eq_getElem hlt5]; rfl
          have hc3 := (hbr.cell (p := ⟨b2, off2 + k, none⟩) (cell_lt hc2)).trans hc2
          change wr.cell? _ = some (Value.slice sa2 sn2 sc2) at hc3
          have hst : rdrow i row (k + 1) = rdrow i row k ++ (if sn2 = 0 then [] else [((i : Int), (k : Int))]) := by rw [rdrow, hgd2, hsn2]
          have hkl := rdrow_len i row k
          clear hsn2 hgd2 hi2 hc2
          by_cases hs0 : sn2 = 0
          · subst hs0
            rw [if_pos rfl, List.append_nil] at hst
            rw [← hst] at hown
            have HO := Lib.hid hown
            go_wp2_with fail
            go_roundw
            case rel => exact ⟨k + 1, _, by omega, by go_num, hown, by rw [hst], hbr⟩
            case measure => simp [intOf]; omega
          · rw [if_neg hs0] at hst
            have hs1 : 0 < sn2 := by omega
            obtain ⟨M, hM⟩ : ∃ M, L ++ rdrow i row k = M := ⟨_, rfl⟩
            have hst2 : L ++ rdrow i row (k + 1) = M ++ [((i : Int), (k : Int))] := by rw [hst, ← List.append_assoc, hM]
            have hMl : M.length ≤ 10000 := by rw [← hM, List.length_append]; omega
            rw [hM] at hown
            have hlit : RowAt encC (wr.alloc (.cells #[.int .i64 (i : Int), .int .i64 (k : Int)] 54)) (.slice (some ⟨wr.heap.size, 0, none⟩) 1 1) [((i : Int), (k : Int))] := rows_lit1 wr ((i : Int), (k : Int)) 54 _ rfl
            have hba : Below wr.heap.size wr (wr.alloc (.cells #[.int .i64 (i : Int), .int .i64 (k : Int)] 54)) := (Below.refl _ _).alloc (Nat.le_refl _) _
            have hMl2 : M.length + [((i : Int), (k : Int))].length ≤ 10001 := by simp; omega
            have hMb : wA.heap.size ≤ (wr.alloc (.cells #[.int .i64 (i : Int), .int .i64 (k : Int)] 54)).heap.size := Nat.le_trans hbr.size hba.size
            have hown1 := hown.kept (grown_of_below hba) (Classical.em _)
            go_wp2_with (at_builtin; refine wpList_app_rows chRT rfl _ _ rfl wA.heap.size _ _ M [((i : Int), (k : Int))] rfl hown1 rfl hlit (by omega) (by omega) hMb ?_; intro v6 w6 hown6 hg6)
            go_roundw
            case rel => exact ⟨k + 1, _, by omega, by go_num, by rw [hst2]; exact hown6, by rw [hst2], below_app' (hbr.trans (hba.mono hbr.size)) hown1 hg6⟩
            case measure => simp [intOf]; omega
        · obtain rfl : k = row.length := by omega
          go_wp2_with fail
          go_roundw
          case rel => exact ⟨i + 1, _, by omega, by go_num, by rw [HS.out]; exact hown, by rw [HS.out], hbr⟩
          case measure => simp [intOf]; omega
    · obtain rfl : i = bx.length := by omega
      have hml := rdyR_len bx hr bx.length (Nat.le_refl _)
      obtain ⟨a', c', rfl, h', -⟩ := RowAt.of_owns hown (by omega)
      have hbE := hb0.trans (hbr.mono hb0.size)
      go_wp2_with fail
      go_ret
      exact ⟨a', c', rfl, h', hbE⟩
end Go.Proofs.YtdkmdcdoiaelfaaGreat
