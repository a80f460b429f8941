/- The contracts of rounds.Ready and rounds.Numbers for valid worlds. The sanity check of the laws on rounds holds. -/
import Derived.Test.YtdkmdcdoiaelfaaGreatRdVal
import Derived.Test.YtdkmdcdoiaelfaaGreatRdSta
import Derived.Test.YtdkmdcdoiaelfaaGreatSameI
namespace Go.Proofs.YtdkmdcdoiaelfaaGreat
open Go.RowKit Go.BigFrame

structure GoodW (n P : Nat) (es : List E2) (ow : Nat → Nat) (hv : List Int) (W : WdP) : Prop where
  hg : Valid n es
  hP : 1 ≤ P ∧ P ≤ 8
  how : ∀ v, v < n → ow v < P
  hh : validZ none hv n = true
  hhl : hv.length ≤ 1000000
  vld : VldP n P W
  bl : ∀ i j, i < P → j < P → (W.bx i j).length ≤ 1000000
section
variable {n P : Nat} {es : List E2} {ow : Nat → Nat} {hv : List Int} {W : WdP}
theorem GoodW.val (h : GoodW n P es ow hv W) : valB (wdL n P es ow hv W) = true := val_wd h.hg h.hP h.how h.hh h.vld
theorem GoodW.box (h : GoodW n P es ow hv W) : ∀ r ∈ (wdL n P es ow hv W).bx, ∀ m ∈ r, m.length ≤ 1000000 := fun r hr m hm => by
  obtain ⟨i, hi, rfl⟩ := List.mem_map.1 hr
  obtain ⟨j, hj, rfl⟩ := List.mem_map.1 hm
  exact h.bl i j (List.mem_range.1 hi) (List.mem_range.1 hj)
end
set_option maxRecDepth 100000 in
set_option maxHeartbeats 1600000 in
theorem rdReady_any (n P : Nat) (es : List E2) (ow : Nat → Nat) (hv : List Int) (W : WdP) (v : Value) (w : World) (hG : GoodW n P es ow hv W) (h : WldAt w v (wdL n P es ow hv W)) :
    Calls Tryz.prog 21 #[v] w (RdyPost w (rdyW P W)) := by
  have hrows : ∀ r ∈ (wdL n P es ow hv W).bx, r.length ≤ 64 := fun r hr => by
    obtain ⟨i, hi, rfl⟩ := List.mem_map.1 hr
    have := hG.hP.2
    simp; omega
  have hbl : (wdL n P es ow hv W).bx.length ≤ 64 := by have := hG.hP.2; simp [wdL]; omega
  have hva := rdvalid_any (wdL n P es ow hv W) v
  rw [hG.val] at hva
  have hlw : ∀ W', Below w.heap.size w W' → WldAt W' v (wdL n P es ow hv W) := fun W' hb => h.below hb
  obtain ⟨ae, ao, ah, ak, ab, ce, co, ch, ck, cb, rfl, he, ho, hh, hk, hb⟩ := h
  obtain ⟨bx, hbx⟩ : ∃ b, (wdL n P es ow hv W).bx = b := ⟨_, rfl⟩
  obtain ⟨kn, hkn⟩ : ∃ b, (wdL n P es ow hv W).kn = b := ⟨_, rfl⟩
  obtain ⟨os, hos⟩ : ∃ b, (wdL n P es ow hv W).ow = b := ⟨_, rfl⟩
  have hrw : rdyW P W = rdyL bx := by rw [← hbx]; rfl
  rw [hrw]
  have hbox := hG.box
  rw [hbx] at hbox hbl hrows hb
  have hn : (wdL n P es ow hv W).n = (n : Int) := rfl
  have hP : (wdL n P es ow hv W).P = (P : Int) := rfl
  have hes : (wdL n P es ow hv W).es = es := rfl
  have hhv : (wdL n P es ow hv W).hv = hv := rfl
  obtain ⟨hX0, hb0⟩ := boxG_new w #[.int .i64 (n : Int), .slice ae es.length ce, .int .i64 (P : Int), .slice ao os.length co, .slice ah hv.length ch, .slice ak kn.length ck, .slice ab bx.length cb] 36
  obtain ⟨wA, hwA⟩ : ∃ W : World, W = w.alloc (.cells #[.int .i64 (n : Int), .slice ae es.length ce, .int .i64 (P : Int), .slice ao os.length co, .slice ah hv.length ch, .slice ak kn.length ck, .slice ab bx.length cb] 36) := ⟨_, rfl⟩
  rw [← hwA] at hX0 hb0
  have hva2 := hva wA (hlw wA hb0) (by rw [hbx]; exact hbox)
  rw [hn, hP, hes, hhv, hbx, hkn, hos] at hva2 ⊢
  obtain ⟨X, hX⟩ : ∃ X, w.heap.size = X := ⟨_, rfl⟩
  rw [hX] at hX0
  obtain ⟨q0, q1, q2, q3, q4, q5, q6⟩ := cells7 hX0
  have HWA := Lib.hid hwA
  clear hwA hva hlw hbx hkn hos hrw hn hP hes hhv
  go_enter Tryz.func21, Tryz.ntmps21
  go_wp2_with (rw [← HWA.out])
  refine hva2.mono ?_
  rintro e w1 ⟨rfl, hb1⟩
  have hX1 := lit_next' hb1 hX0
  clear q0 q1 q2 q3 q4 q5 q6
  obtain ⟨q0, q1, q2, q3, q4, q5, q6⟩ := cells7 hX1
  have hb01 := hb0.trans (hb1.mono hb0.size)
  go_wp2_with fail
  refine (rdready_any n P bx _ _ _ _ ab cb w1 (hb.below hb01) hbl hrows).mono ?_
  rintro e w2 ⟨a2, c2, rfl, hr, hb2⟩
  go_wp2_with fail
  go_ret
  exact ⟨a2, c2, rfl, hr, hb01.trans (hb2.mono hb01.size)⟩
/-- a row that is filled from its beginning -/
def filK (n : Nat) (f : Nat → Int) (k : Nat) : List Int := fnL n fun u => if u < k then f u else 0
theorem filK_len (n : Nat) (f : Nat → Int) (k : Nat) : (filK n f k).length = n := fnL_length _ _
theorem filK_zero (n : Nat) (f : Nat → Int) : filK n f 0 = List.replicate n 0 := by
  apply List.ext_getElem?
  intro i
  by_cases h : i < n
  · rw [filK, fnL_get n _ i h, List.getElem?_replicate, if_pos h, if_neg (by omega)]
  · rw [List.getElem?_eq_none (by rw [filK_len]; omega), List.getElem?_eq_none (by rw [List.length_replicate]; omega)]
theorem filK_all (n : Nat) (f : Nat → Int) : filK n f n = fnL n f := by
  apply List.ext_getElem?
  intro i
  by_cases h : i < n
  · rw [filK, fnL_get n _ i h, fnL_get n _ i h, if_pos h]
  · rw [List.getElem?_eq_none (by rw [filK_len]; omega), List.getElem?_eq_none (by rw [fnL_length]; omega)]
theorem filK_set (n : Nat) (f : Nat → Int) (k : Nat) (hk : k < n) : (filK n f k).set k (f k) = filK n f (k + 1) := by
  apply List.ext_getElem?
  intro i
  by_cases h : i < n
  · rw [List.getElem?_set, filK_len, filK, filK, fnL_get n _ i h, fnL_get n _ i h]
    by_cases e : k = i
    · subst e; rw [if_pos rfl, if_pos hk, if_pos (by omega)]
    · rw [if_neg e]
      by_cases e2 : i < k
      · rw [if_pos e2, if_pos (by omega)]
      · rw [if_neg e2, if_neg (by omega)]
  · rw [List.getElem?_eq_none (by rw [List.length_set, filK_len]; omega), List.getElem?_eq_none (by rw [filK_len]; omega)]
/-- what the owners know -/
def numW (n : Nat) (ow : Nat → Nat) (W : WdP) : List Int := fnL n fun v => (W.kn (ow v)).getD v 0
set_option linter.unusedSimpArgs false in
set_option maxRecDepth 100000 in
set_option maxHeartbeats 3200000 in
theorem rdNumbers_any (n P : Nat) (es : List E2) (ow : Nat → Nat) (hv : List Int) (W : WdP) (v : Value) (w : World) (hG : GoodW n P es ow hv W) (h : WldAt w v (wdL n P es ow hv W)) :
    Calls Tryz.prog 19 #[v] w fun e w' => ∃ g, e = .returned (.slice (some ⟨g, 0, none⟩) n n) ∧ w.heap.size ≤ g ∧ w'.heap[g]? = some (.cells (intsV (numW n ow W)).toArray 3 (0, 0)) ∧ Below w.heap.size w w' := by
  have hn64 : n ≤ 64 := by have := hG.hg.2.1; omega
  have hva := rdvalid_any (wdL n P es ow hv W) v
  rw [hG.val] at hva
  have hlw : ∀ W', Below w.heap.size w W' → WldAt W' v (wdL n P es ow hv W) := fun W' hb => h.below hb
  obtain ⟨ae, ao, ah, ak, ab, ce, co, ch, ck, cb, rfl, he, ho, hh, hk, hb⟩ := h
  have hbox := hG.box
  have hkl : (wdL n P es ow hv W).kn.length = P := by simp [wdL]
  have hbl : (wdL n P es ow hv W).bx.length = P := by simp [wdL]
  have hol : (wdL n P es ow hv W).ow.length = n := owI_length n ow
  have hn : (wdL n P es ow hv W).n = (n : Int) := rfl
  have hP : (wdL n P es ow hv W).P = (P : Int) := rfl
  have hes : (wdL n P es ow hv W).es = es := rfl
  have hhv : (wdL n P es ow hv W).hv = hv := rfl
  obtain ⟨hX0, hb0⟩ := boxG_new w #[.int .i64 (n : Int), .slice ae es.length ce, .int .i64 (P : Int), .slice ao n co, .slice ah hv.length ch, .slice ak P ck, .slice ab P cb] 36
  obtain ⟨wA, hwA⟩ : ∃ W : World, W = w.alloc (.cells #[.int .i64 (n : Int), .slice ae es.length ce, .int .i64 (P : Int), .slice ao n co, .slice ah hv.length ch, .slice ak P ck, .slice ab P cb] 36) := ⟨_, rfl⟩
  rw [← hwA] at hX0 hb0
  have hva2 := hva wA (hlw wA hb0) hbox
  rw [hn, hP, hes, hhv, hbl, hkl, hol] at hva2 ⊢
  rw [hkl] at hk
  rw [hol] at ho
  have ho2 : IntsAt w (.slice ao n co) (owI n ow) := ho
  have hk2 : KnA w (.slice ak P ck) ((List.range P).map W.kn) := hk
  obtain ⟨X, hX⟩ : ∃ X, w.heap.size = X := ⟨_, rfl⟩
  rw [hX] at hX0
  obtain ⟨q0, q1, q2, q3, q4, q5, q6⟩ := cells7 hX0
  have HWA := Lib.hid hwA
  clear hwA hva hlw hn hP hes hhv ho hk hol hkl hbl hb
  go_enter Tryz.func19, Tryz.ntmps19
  go_wp2_with (rw [← HWA.out])
  refine hva2.mono ?_
  rintro e w1 ⟨rfl, hb1⟩
  have hX1 := lit_next' hb1 hX0
  have hb01 := hb0.trans (hb1.mono hb0.size)
  have hmk := make_ints n (by omega)
  obtain ⟨hG0, hb2⟩ := boxG_new w1 (intsV (List.replicate n 0)).toArray 3
  obtain ⟨w2, hw2⟩ : ∃ W : World, W = w1.alloc (.cells (intsV (List.replicate n 0)).toArray 3) := ⟨_, rfl⟩
  rw [← hw2] at hG0 hb2
  have hX2 := lit_next' hb2 hX1
  have hb02 := hb01.trans (hb2.mono hb01.size)
  have hz1 := hb01.size
  have hXg := blk_lt hX1
  obtain ⟨g, hgg⟩ : ∃ g, w1.heap.size = g := ⟨_, rfl⟩
  rw [hgg] at hG0 hz1 hXg
  have hG1 : w2.heap[g]? = some (.cells (intsV (filK n (fun v => (W.kn (ow v)).getD v 0) 0)).toArray 3 (0, 0)) := by rw [filK_zero]; exact hG0
  have HW2 := Lib.hid hw2
  clear q0 q1 q2 q3 q4 q5 q6
  obtain ⟨q0, q1, q2, q3, q4, q5, q6⟩ := cells7 hX1
  obtain ⟨p0, p1, p2, p3, p4, p5, p6⟩ := cells7 hX2
  rw [hw2] at p3
  clear hw2 hva2 hG0 hX0 hb0 hb1 hX1
  go_wp2_with fail
  rw [← HW2.out]
  clear q0 q1 q2 q3 q4 q5 q6 p0 p1 p2 p3 p4 p5 p6 hmk
  go_loopw [17] (fun vk wr => ∃ k : Nat, k ≤ n ∧ vk = .int .i64 (k : Int) ∧ wr.heap[g]? = some (.cells (intsV (filK n (fun v => (W.kn (ow v)).getD v 0) k)).toArray 3 (0, 0)) ∧ Fr (fun b => b = g) w2 wr) (fun vk _ => n - (intOf vk).toNat)
  case atStart => exact ⟨0, Nat.zero_le _, rfl, hG1, Fr.refl _ _⟩
  case round =>
    clear hG1
    obtain ⟨k, hkn, rfl, hgk, hF⟩ := hrel
    by_cases hlt : k < n
    · have hlt3 : (k : Int) < n := by omega
      have hXk := hF.blk hX2 (fun e => by omega)
      obtain ⟨q0, q1, q2, q3, q4, q5, q6⟩ := cells7 hXk
      have hlift : ∀ b o v, w.cell? ⟨b, o, none⟩ = some v → wr.cell? ⟨b, o, none⟩ = some v := fun b o v h => hF.cell ((hb02.cell (p := ⟨b, o, none⟩) (cell_lt h)).trans h) (by have := cell_lt h; omega)
      have ho4 : IntsAt w (.slice ao (owI n ow).length co) (owI n ow) := by rw [owI_length]; exact ho2
      obtain ⟨bo, oo, y, rfl, hy, -, -, co0⟩ := ho4.at k (by rw [owI_length]; exact hlt)
      rw [owI_get n ow k hlt] at hy
      obtain rfl := (Option.some.inj hy).symm
      have howk := hG.how k hlt
      have howk2 : ((ow k : Nat) : Int) < P := by omega
      have hkr : ((List.range P).map W.kn)[ow k]? = some (W.kn (ow k)) := by rw [List.getElem?_map, List.getElem?_range howk]; rfl
      obtain ⟨-, -, bk, ok, sl, rfl, hck, hik⟩ := hk2.at (ow k) _ hkr
      have hkl := hG.vld.len _ howk
      obtain ⟨sa, sn, sc⟩ := sl
      obtain rfl : sn = n := (IntsAt.lenE hik).trans hkl
      have hik2 : IntsAt w (.slice sa (W.kn (ow k)).length sc) (W.kn (ow k)) := by rw [hkl]; exact hik
      obtain ⟨bi, oi, x, rfl, hx, -, -, ci0⟩ := hik2.at k (by rw [hkl]; exact hlt)
      have hxd : (W.kn (ow k)).getD k 0 = x := by rw [List.getD_eq_getElem?_getD, hx]; rfl
      have cg : wr.cell? ⟨g, k, none⟩ = some (.int .i64 ((filK sn (fun v => (W.kn (ow v)).getD v 0) k)[k]'(by rw [filK_len]; exact hlt))) := by
        rw [cell_blk hgk]; simp [intsV, filK_len, hlt]
      have fg : wr.frozen? ⟨g, k, none⟩ = false := free_blk hgk
      have hst := heap_setCell_same _ _ k _ _ (.int .i64 x) hgk
      rw [intsV_set, ← hxd, filK_set sn (fun v => (W.kn (ow v)).getD v 0) k hlt, hxd] at hst
      have hFs : Fr (fun b => b = g) w2 (wr.setCell ⟨g, k, none⟩ (.int .i64 x)) := hF.grown grown_store (fun b e => .inl (Option.some.inj e).symm)
      have z0 := hlift _ _ _ co0
      have z1 : wr.cell? ⟨bk, ok + ow k, none⟩ = some (.slice (some ⟨bi, oi, none⟩) sn sc) := hlift _ _ _ hck
      have z2 := hlift _ _ _ ci0
      clear hik2 hik hkl hx hxd hkr hy ho4 co0 hck ci0
      go_wp2_with fail
      go_roundw
      case rel => exact ⟨k + 1, by omega, by go_num, hst, hFs⟩
      case measure => simp [intOf]; omega
    · obtain rfl : k = n := by omega
      rw [filK_all] at hgk
      have hbF : Below w.heap.size w wr := hb02.trans (hF.below (fun b e => by omega) hb02.size)
      go_wp2_with fail
      go_ret
      exact ⟨g, rfl, by omega, hgk, hbF⟩
end Go.Proofs.YtdkmdcdoiaelfaaGreat

namespace Go.Proofs.YtdkmdcdoiaelfaaGreat
open Go.RowKit Go.BigFrame

theorem GoodW.start {n P : Nat} {es : List E2} {ow : Nat → Nat} {hv : List Int} (hg : Valid n es) (hP : 1 ≤ P ∧ P ≤ 8) (how : ∀ v, v < n → ow v < P) (hh : validZ none hv n = true) (hhl : hv.length ≤ 1000000) : GoodW n P es ow hv (staP es n P ow) :=
  ⟨hg, hP, how, hh, hhl, (sta_inv hg how).vld, fun i j hi hj => by
    have h1 := telK_len es n P ow i (setX es n ow i (beg es n ow i)) (fun _ => true) n j
    rw [telK_all] at h1
    have := hg.2.1
    show (telL es n P ow i (setX es n ow i (beg es n ow i)) (fun _ => true) j).length ≤ 1000000
    omega⟩
def awE : List E2 := [(0, 1), (1, 2)]
def awO (v : Nat) : Nat := if v = 1 then 1 else 0
theorem aw_num : numW 3 (fun _ => 0) (staP awE 3 1 (fun _ => 0)) = [1, 1, 1] := by kernel_rfl
theorem aw_rdy : (rdyW 2 (staP awE 3 2 awO)).length = 2 := by kernel_rfl
theorem ints_three (w : World) (x y z : Int) (T : TypeId) : IntsAt (w.alloc (.cells #[.int .i64 x, .int .i64 y, .int .i64 z] T)) (.slice (some ⟨w.heap.size, 0, none⟩) 3 3) [x, y, z] := by
  refine ⟨_, 3, rfl, by simp, (fun h => by cases h), by simp, fun i e hi => ⟨w.heap.size, 0, rfl, ?_⟩⟩
  rw [cell_blk (heap_alloc_new _ _), Nat.zero_add]
  match i, hi with
  | 0, hi => cases hi; rfl
  | 1, hi => cases hi; rfl
  | 2, hi => cases hi; rfl
  | (_ + 3), hi => cases hi
theorem WldAt.shape {w : World} {v : Value} {W : WdL} (h : WldAt w v W) : ∃ (k0 k2 : Int) (ae ao ah ak ab : Option Addr) (l1 l3 l4 l5 l6 c1 c3 c4 c5 c6 : Nat), v = .agg #[.int .i64 k0, .slice ae l1 c1, .int .i64 k2, .slice ao l3 c3, .slice ah l4 c4, .slice ak l5 c5, .slice ab l6 c6] := by
  obtain ⟨ae, ao, ah, ak, ab, ce, co, ch, ck, cb, rfl, -⟩ := h
  exact ⟨_, _, _, _, _, _, _, _, _, _, _, _, _, _, _, _, _, rfl⟩
theorem ints_none (w : World) : IntsAt w (.slice none ([] : List Int).length 0) [] := ⟨none, 0, rfl, Nat.le_refl _, fun _ => rfl, by simp, fun i e hi => by cases hi⟩
set_option maxRecDepth 100000 in
set_option maxHeartbeats 3200000 in
theorem rdawake_any (w : World) : Calls Tryz.prog 6 #[] w fun e w' => e = .returned (.bool true) ∧ Below w.heap.size w w' := by
  have hv : Valid (3 : Nat) awE := (valid_iff _ _).1 (by kernel_rfl)
  obtain ⟨hE0, hb0⟩ := boxG_new w #[.int .i64 0, .int .i64 1, .int .i64 1, .int .i64 2] 62
  obtain ⟨w1, hw1⟩ : ∃ W : World, W = w.alloc (.cells #[.int .i64 0, .int .i64 1, .int .i64 1, .int .i64 2] 62) := ⟨_, rfl⟩
  have hz1 : w1.heap.size = w.heap.size + 1 := by rw [hw1]; simp
  rw [← hw1] at hE0 hb0
  have he1 : EdgesAt w1 (.slice (some ⟨w.heap.size, 0, none⟩) 2 2) awE := by
    refine ⟨_, 2, rfl, by decide, (fun h => by cases h), by decide, fun i e hi => ⟨w.heap.size, 0, rfl, ?_, ?_⟩⟩
    all_goals
      rw [cell_blk hE0, Nat.zero_add]
      match i, hi with
      | 0, hi => cases hi; rfl
      | 1, hi => cases hi; rfl
      | (_ + 2), hi => cases hi
  obtain ⟨hG0, hb1⟩ := boxG_new w1 #[.int .i64 3, .slice (some ⟨w.heap.size, 0, none⟩) 2 2] 25
  obtain ⟨w2, hw2⟩ : ∃ W : World, W = w1.alloc (.cells #[.int .i64 3, .slice (some ⟨w.heap.size, 0, none⟩) 2 2] 25) := ⟨_, rfl⟩
  have hz2 : w2.heap.size = w.heap.size + 1 + 1 := by rw [hw2]; simp [hz1]
  rw [← hw2] at hG0 hb1
  have hi3 := ints_three w2 0 0 0 3
  have hb2 : Below w2.heap.size w2 (w2.alloc (.cells #[.int .i64 0, .int .i64 0, .int .i64 0] 3)) := (Below.refl _ _).alloc (Nat.le_refl _) _
  obtain ⟨w3, hw3⟩ : ∃ W : World, W = w2.alloc (.cells #[.int .i64 0, .int .i64 0, .int .i64 0] 3) := ⟨_, rfl⟩
  have hz3 : w3.heap.size = w2.heap.size + 1 := by rw [hw3]; simp
  rw [← hw3] at hi3 hb2
  have hG3 := lit_next' hb2 hG0
  have he3 := (he1.below hb1).below hb2
  have hb03 : Below w.heap.size w w3 := hb0.trans ((hb1.trans (hb2.mono hb1.size)).mono hb0.size)
  obtain ⟨X, hX⟩ : ∃ X, w.heap.size = X := ⟨_, rfl⟩
  rw [hz1] at hG3
  rw [hX] at hG3 he3 hz1 hz2
  rw [hz2] at hi3 hz3
  have hs1 := rdstart_any 3 1 awE (fun _ => 0) [] (some ⟨X, 0, none⟩) (some ⟨X + 1 + 1, 0, none⟩) none 2 3 0 w3 hv (by decide) (fun _ _ => by decide) (by unfold validZ; rfl) (by decide) he3 hi3 (ints_none w3) (fun n' c p e => by cases e; rw [hz3]; exact Nat.lt_succ_self _)
  rw [hX] at hw2
  have HW3 := Lib.hid hw3
  have HW2 := Lib.hid hw2
  have HW1 := Lib.hid hw1
  have x0 : w2.cell? ⟨X + 1, 0, none⟩ = some (.int .i64 3) := by rw [hz1, hX] at hG0; exact cell_blk hG0
  have x1 : w2.cell? ⟨X + 1, 1, none⟩ = some (.slice (some ⟨X, 0, none⟩) 2 2) := by rw [hz1, hX] at hG0; exact cell_blk hG0
  clear hw1 hw2 hw3 hE0 hG0 he1
  go_enter Tryz.func6, Tryz.ntmps6
  go_wp2_with (first | rw [← HW1.out] | rw [← HW2.out] | rw [← HW3.out])
  refine (show Calls Tryz.prog 9 #[.agg #[.int .i64 3, .slice (some ⟨X, 0, none⟩) 2 2], .agg #[.int .i64 1, .slice (some ⟨X + 1 + 1, 0, none⟩) 3 3, .slice none 0 0]] _ _ from hs1).mono ?_
  rintro e w4 ⟨v1, rfl, hw4, hb4⟩
  obtain ⟨k0, k2, ae, ao, ah, ak, ab, l1, l3, l4, l5, l6, c1, c3, c4, c5, c6, rfl⟩ := hw4.shape
  obtain ⟨hB0, hb5⟩ := boxG_new w4 #[.int .i64 k0, .slice ae l1 c1, .int .i64 k2, .slice ao l3 c3, .slice ah l4 c4, .slice ak l5 c5, .slice ab l6 c6] 36
  obtain ⟨w5, hw5⟩ : ∃ W : World, W = w4.alloc (.cells #[.int .i64 k0, .slice ae l1 c1, .int .i64 k2, .slice ao l3 c3, .slice ah l4 c4, .slice ak l5 c5, .slice ab l6 c6] 36) := ⟨_, rfl⟩
  have hz5 : w5.heap.size = w4.heap.size + 1 := by rw [hw5]; simp
  rw [← hw5] at hB0 hb5
  have hb35 := hb4.trans (hb5.mono hb4.size)
  have hG5 := lit_next' hb35 hG3
  have hW5 := hw4.below hb5
  have hi6 := ints_three w5 0 1 0 3
  have hb6 : Below w5.heap.size w5 (w5.alloc (.cells #[.int .i64 0, .int .i64 1, .int .i64 0] 3)) := (Below.refl _ _).alloc (Nat.le_refl _) _
  obtain ⟨w6, hw6⟩ : ∃ W : World, W = w5.alloc (.cells #[.int .i64 0, .int .i64 1, .int .i64 0] 3) := ⟨_, rfl⟩
  have hz6 : w6.heap.size = w5.heap.size + 1 := by rw [hw6]; simp
  rw [← hw6] at hi6 hb6
  have hB6 := lit_next' hb6 hB0
  have hW6 := hW5.below hb6
  have hb36 := hb35.trans (hb6.mono hb35.size)
  have he6 := he3.below hb36
  obtain ⟨B, hB⟩ : ∃ B, w4.heap.size = B := ⟨_, rfl⟩
  rw [hB] at hz5 hB6
  rw [hz5] at hi6 hz6
  have y0 : w5.cell? ⟨X + 1, 0, none⟩ = some (.int .i64 3) := cell_blk hG5
  have y1 : w5.cell? ⟨X + 1, 1, none⟩ = some (.slice (some ⟨X, 0, none⟩) 2 2) := cell_blk hG5
  have HW5 := Lib.hid hw5
  have HW6 := Lib.hid hw6
  have hs2 := rdstart_any 3 2 awE awO [] (some ⟨X, 0, none⟩) (some ⟨B + 1, 0, none⟩) none 2 3 0 w6 hv (by decide) (fun v _ => by unfold awO; split <;> decide) (by unfold validZ; rfl) (by decide) he6 hi6 (ints_none w6) (fun n' c p e => by cases e; rw [hz6]; exact Nat.lt_succ_self _)
  clear hw5 hw6 x0 x1 hs1 he3 hi3 hb4 hb5 hb6 hW5 hB0 hG3 hw4
  go_wp2_with (rw [← HW5.out])
  rw [← HW6.out]
  refine (show Calls Tryz.prog 9 #[.agg #[.int .i64 3, .slice (some ⟨X, 0, none⟩) 2 2], .agg #[.int .i64 2, .slice (some ⟨B + 1, 0, none⟩) 3 3, .slice none 0 0]] _ _ from hs2).mono ?_
  rintro e w7 ⟨v2, rfl, hw7, hb7⟩
  obtain ⟨m0, m2, be, bo, bh, bk, bb, j1, j3, j4, j5, j6, d1, d3, d4, d5, d6, rfl⟩ := hw7.shape
  obtain ⟨hC0, hb8⟩ := boxG_new w7 #[.int .i64 m0, .slice be j1 d1, .int .i64 m2, .slice bo j3 d3, .slice bh j4 d4, .slice bk j5 d5, .slice bb j6 d6] 36
  obtain ⟨w8, hw8⟩ : ∃ W : World, W = w7.alloc (.cells #[.int .i64 m0, .slice be j1 d1, .int .i64 m2, .slice bo j3 d3, .slice bh j4 d4, .slice bk j5 d5, .slice bb j6 d6] 36) := ⟨_, rfl⟩
  rw [← hw8] at hC0 hb8
  have hb68 := hb7.trans (hb8.mono hb7.size)
  have hB8 := lit_next' hb68 hB6
  have hW8 := hW6.below hb68
  have hV8 := hw7.below hb8
  obtain ⟨C, hC⟩ : ∃ C, w7.heap.size = C := ⟨_, rfl⟩
  rw [hC] at hC0
  have HW8 := Lib.hid hw8
  have hG1 := GoodW.start (hv := []) hv (P := 1) (ow := fun _ => 0) (by decide) (fun _ _ => by decide) (by unfold validZ; rfl) (by decide)
  have hG2 := GoodW.start (hv := []) hv (P := 2) (ow := awO) (by decide) (fun v _ => by unfold awO; split <;> decide) (by unfold validZ; rfl) (by decide)
  have hnu := rdNumbers_any 3 1 awE (fun _ => 0) [] _ _ w8 hG1 hW8
  rw [aw_num] at hnu
  obtain ⟨t0, t1, t2, t3, t4, t5, t6⟩ := cells7 hB8
  have hb38 := hb36.trans (hb68.mono hb36.size)
  clear hw8 hs2 y0 y1 hi6 he6 hb7 hb8 hW6 hW8 hw7 hB6 hb35 hb36 hb68 hG5
  go_wp2_with (rw [← HW8.out])
  refine hnu.mono ?_
  rintro e w9 ⟨g, rfl, hgl, hgb, hb9⟩
  have hin : IntsAt w9 (.slice (some ⟨g, 0, none⟩) ([1, 1, 1] : List Int).length 3) [1, 1, 1] := by
    refine ⟨_, 3, rfl, by simp, (fun h => by cases h), by simp, fun i e hi => ⟨g, 0, rfl, ?_⟩⟩
    rw [cell_blk hgb, Nat.zero_add]
    match i, hi with
    | 0, hi => cases hi; rfl
    | 1, hi => cases hi; rfl
    | 2, hi => cases hi; rfl
    | (_ + 3), hi => cases hi
  have hi9 := ints_three w9 1 1 1 3
  have hba : Below w9.heap.size w9 (w9.alloc (.cells #[.int .i64 1, .int .i64 1, .int .i64 1] 3)) := (Below.refl _ _).alloc (Nat.le_refl _) _
  have hcm := icmp_same (some ⟨g, 0, none⟩) (some ⟨w9.heap.size, 0, none⟩) 3 3 [1, 1, 1] _ (hin.below hba) hi9
  have hb9a := hb9.trans (hba.mono hb9.size)
  have hCa := lit_next' hb9a hC0
  have hVa := hV8.below hb9a
  clear hnu t0 t1 t2 t3 t4 t5 t6 hgb hin hi9 hba hb9
  go_wp2_with fail
  refine (show Calls Tryz.prog 13 #[.slice (some ⟨g, 0, none⟩) 3 3, .slice (some ⟨w9.heap.size, 0, none⟩) 3 3] _ _ from hcm).mono ?_
  rintro e w10 ⟨rfl, hb10⟩
  have hC10 := lit_next' hb10 hCa
  have hV10 := hVa.below hb10
  have hb810 := hb9a.trans (hb10.mono hb9a.size)
  obtain ⟨t0, t1, t2, t3, t4, t5, t6⟩ := cells7 hC10
  have hrd := rdReady_any 3 2 awE awO [] _ _ w10 hG2 hV10
  clear hcm hCa hVa hb10
  go_wp2_with fail
  refine hrd.mono ?_
  rintro e w11 ⟨a2, c2, rfl, -, hb11⟩
  rw [aw_rdy]
  have hC11 := lit_next' hb11 hC10
  have hV11 := hV10.below hb11
  have hb811 := hb810.trans (hb11.mono hb810.size)
  have hva := rdvalid_any _ _ w11 hV11 hG2.box
  rw [hG2.val] at hva
  clear t0 t1 t2 t3 t4 t5 t6 hrd hC10 hV10
  obtain ⟨t0, t1, t2, t3, t4, t5, t6⟩ := cells7 hC11
  go_wp2_with fail
  refine hva.mono ?_
  rintro e w12 ⟨rfl, hb12⟩
  have hb3E := hb38.trans ((hb811.trans (hb12.mono hb811.size)).mono hb38.size)
  have hbE := hb03.trans (hb3E.mono hb03.size)
  go_wp2_with fail
  go_ret
  exact ⟨rfl, by rw [← hX] at *; exact hbE⟩
end Go.Proofs.YtdkmdcdoiaelfaaGreat
