/- The contract of the program's peeling of nodes: the order, and the core numbers. -/
import Derived.Test.YtkknknehchnccaaDoorMaskFn
import Derived.Test.YtkknknehchnccaaDoorGrFind
import Derived.Test.YtkknknehchnccaaDoorPop
import Derived.Deep.LoopGhost
import Derived.StillTailTactics
import Derived.WalkMore
namespace Go.Proofs.YtkknknehchnccaaDoor
open Go.RowKit Go.BigFrame

set_option maxRecDepth 100000 in
theorem count_any (m : Nat) (hm : m < 18446744073709551616) (w : World) : Calls Tryd.prog 144 #[.int .u64 m] w fun e w' => e = .returned (.int .i64 ((bitsL m).length : Int)) ∧ w = w' := by
  have h1 := fun W => ones_any (m : Int) W
  rw [oc64_bits m hm] at h1
  generalize ((bitsL m).length : Int) = X at *
  go_enter Tryd.func144, Tryd.ntmps144
  go_wp2_with (go_at_call 151; refine (h1 _).mono ?_; rintro e w1 ⟨rfl, rfl⟩)
  go_ret
  exact ⟨rfl, rfl⟩
@[go_sem] theorem ite_maxC (a b : Nat) : (if a < b then (b : Int) else (a : Int)) = max (a : Int) (b : Int) := by split <;> omega
theorem nodup_drop2 {l : List Nat} (hn : l.Nodup) (t x : Nat) (hx : l[t]? = some x) (h : x ∈ l.take t) : False := by
  obtain ⟨i, hi, he⟩ := List.getElem_of_mem h
  rw [List.length_take] at hi
  rw [List.getElem_take] at he
  obtain ⟨ht, hxe⟩ := List.getElem?_eq_some_iff.1 hx
  have := (List.getElem_inj (h₀ := by omega) (h₁ := ht) hn).1 (he.trans hxe.symm)
  omega
/-- what stays while the degrees of a node's neighbours fall -/
structure PkI (w1 : World) (bk nb : Nat) (vo : Value) (m : Nat) (fl : List Value) (NM : List Int) (vz : Value) (Z : List Int) (wr : World) : Prop where
  own : wr.ownsRow (nb + 1) 3 1 vo m fl
  num : NumAt wr nb NM
  z : IntsAt wr vz Z
  zo : ∀ n c p, vz = .slice (some p) n c → nb < p.block
  be : Below bk w1 wr
  sz : nb + 1 ≤ wr.heap.size
theorem PkI.set {w1 : World} {bk nb : Nat} {vo : Value} {m : Nat} {fl : List Value} {NM : List Int} {vz : Value} {Z : List Int} {wr : World} (h : PkI w1 bk nb vo m fl NM vz Z wr) (hnb : bk + 1 < nb) (c j : Nat) (v : Value) (h1 : bk ≤ c) (h2 : c ≤ bk + 1) :
    PkI w1 bk nb vo m fl NM vz Z (wr.setCell ⟨c, j, none⟩ v) := by
  have hg : wr.grownBy (wr.setCell ⟨c, j, none⟩ v) (some c) := ⟨rfl, rfl, rfl, by simp, fun k _ hk => Below.heap_setCell _ _ _ _ (fun e => hk (by simp [e]))⟩
  refine ⟨h.own.kept hg ?_, numAt_other h.num (by omega), h.z.grown hg (fun g e n' c' p hp => by cases e; have := h.zo n' c' p hp; omega), h.zo, h.be.setCell (p := ⟨c, j, none⟩) h1 _, by simpa using h.sz⟩
  cases hs : vo.ownBlock with
  | none => exact .inl rfl
  | some k => have := (h.own.lt k hs).1; exact .inr (by simp; omega)
set_option maxRecDepth 100000 in
set_option maxHeartbeats 6400000 in
theorem cpeel_any (n : Nat) (a : Option Addr) (cap : Nat) (es : List E2) (w : World) (he : EdgesAt w (.slice a es.length cap) es) (hv : Valid n es) (hT : TzAt w) :
    Calls Tryd.prog 129 #[.agg #[.int .i64 n, .slice a es.length cap]] w fun e w' => ∃ ao co nb, e = .returned (.tuple #[.slice ao n co, .slice (some ⟨nb, 0, none⟩) n n]) ∧ IntsAt w' (.slice ao n co) (castL (peelO (dgS es n) n n)) ∧ NumAt w' nb (corT es n) ∧ w.heap.size ≤ nb ∧ (∀ p, ao = some p → w.heap.size ≤ p.block) ∧ Below w.heap.size w w' := by
  have hel := hv.length_le
  have hn64 : n ≤ 64 := by have := hv.2.1; omega
  have hb0 : Below w.heap.size w (w.alloc (.cells #[.int .i64 n, .slice a es.length cap] 25)) := (Below.refl _ _).alloc (Nat.le_refl _) _
  have hmk := make_ints n (by omega)
  go_enter Tryd.func129, Tryd.ntmps129
  go_wp2
  go_step3
  go_wp2_with fail
  refine (rows_any n a cap es _ (he.below hb0) hv).mono ?_
  rintro e w1 ⟨g, rfl, hg, hR, hb1⟩
  have hb01 := hb0.trans (hb1.mono hb0.size)
  clear hb1 hb0
  have hzr : (#[Value.int .u64 0, .int .u64 0, .int .u64 0, .int .u64 0, .int .u64 0, .int .u64 0, .int .u64 0, .int .u64 0, .int .u64 0, .int .u64 0, .int .u64 0, .int .u64 0, .int .u64 0, .int .u64 0, .int .u64 0, .int .u64 0, .int .u64 0, .int .u64 0, .int .u64 0, .int .u64 0, .int .u64 0, .int .u64 0, .int .u64 0, .int .u64 0, .int .u64 0, .int .u64 0, .int .u64 0, .int .u64 0, .int .u64 0, .int .u64 0, .int .u64 0, .int .u64 0, .int .u64 0, .int .u64 0, .int .u64 0, .int .u64 0, .int .u64 0, .int .u64 0, .int .u64 0, .int .u64 0, .int .u64 0, .int .u64 0, .int .u64 0, .int .u64 0, .int .u64 0, .int .u64 0, .int .u64 0, .int .u64 0, .int .u64 0, .int .u64 0, .int .u64 0, .int .u64 0, .int .u64 0, .int .u64 0, .int .u64 0, .int .u64 0, .int .u64 0, .int .u64 0, .int .u64 0, .int .u64 0, .int .u64 0, .int .u64 0, .int .u64 0, .int .u64 0] : Array Value) = (fnU 64 (fun _ => 0)).toArray := by rfl
  have HZR := Lib.hid hzr
  clear hzr
  go_wp2_with fail
  rw [HZR.out]
  have hbA := ((Below.refl w1.heap.size w1).alloc (Nat.le_refl _) (.cells (fnU 64 (fun _ => 0)).toArray 161)).alloc (by simp) (.cells (intsV (List.replicate n 0)).toArray 3)
  have hB0 : MaskAt ((w1.alloc (.cells (fnU 64 (fun _ => 0)).toArray 161)).alloc (.cells (intsV (List.replicate n 0)).toArray 3)) w1.heap.size 161 64 (fun _ => 0) :=
    (Below.heap_alloc _ _ _ (by simp)).trans (heap_alloc_new _ _)
  have hN0 : NumAt ((w1.alloc (.cells (fnU 64 (fun _ => 0)).toArray 161)).alloc (.cells (intsV (List.replicate n 0)).toArray 3)) (w1.heap.size + 1) (fnL n (fun x => if x < 0 then (dgS es n (restB n []) x : Int) else 0)) := by
    rw [fnL_congr n (fun x => if x < 0 then (dgS es n (restB n []) x : Int) else 0) (fun _ => 0) (fun x _ => by simp), ← fnL_zero]
    have h := heap_alloc_new (w1.alloc (.cells (fnU 64 (fun _ => 0)).toArray 161)) (.cells (intsV (List.replicate n 0)).toArray 3)
    simpa [NumAt] using h
  obtain ⟨w2, hw2⟩ : ∃ W : World, W = (w1.alloc (.cells (fnU 64 (fun _ => 0)).toArray 161)).alloc (.cells (intsV (List.replicate n 0)).toArray 3) := ⟨_, rfl⟩
  rw [← hw2] at hbA hB0 hN0 ⊢
  obtain ⟨bk, hbk⟩ : ∃ s, w1.heap.size = s := ⟨_, rfl⟩
  have HBK := Lib.hid hbk
  have hgb : g < bk := by rw [← hbk]; exact blk_lt hR
  rw [hbk] at hbA hB0 hN0 ⊢
  clear hw2 hbk hmk
  obtain ⟨deg, hdeg⟩ : ∃ F, dgS es n (restB n []) = F := ⟨_, rfl⟩
  rw [hdeg] at hN0
  have hdlt : ∀ x, x < n → deg x < 64 := fun x hx => by
    have := dg_lt hv (restB n []) x hx
    rw [hdeg] at this; omega
  have hdrow : ∀ x, x < n → (bitsL (rowN es x)).length = deg x := fun x _ => by rw [row_deg hv, hdeg]
  have HDL := Lib.hid hdlt
  have HDR := Lib.hid hdrow
  have HDG := Lib.hid hdeg
  clear hdlt hdrow hdeg
  have hK0 : BK (fun x => decide (x < 0)) deg (fun _ => 0) := (BK.start deg).congr (fun x => by simp) (fun x h => by cases h)
  go_loopw [22] (fun vi wr => ∃ k : Nat, k ≤ n ∧ vi = .int .i64 k ∧ NumAt wr (bk + 1) (fnL n (fun x => if x < k then (deg x : Int) else 0)) ∧ (∃ B, MaskAt wr bk 161 64 B ∧ Hid (BK (fun x => decide (x < k)) deg B)) ∧ Below bk w1 wr) (fun vi _ => n - (intOf vi).toNat)
  case atStart => exact ⟨0, Nat.zero_le _, rfl, hN0, ⟨_, hB0, hK0⟩, hbA⟩
  case round =>
    clear hN0 hB0 hbA hK0
    obtain ⟨k, hk, rfl, hN, ⟨B, hB, HK⟩, hb⟩ := hrel
    by_cases hlt : k < n
    · have hlt3 : (k : Int) < n := by omega
      have hRw : wr.heap[g]? = some (.cells (rowsV n es).toArray 97 (0, 0)) := blk_below hb hgb hR
      have r0 : wr.cell? ⟨g, k, none⟩ = some (.int .u64 (rowN es k)) := by rw [cell_blk hRw, List.getElem?_toArray]; exact rowsV_get n es k hlt
      have hcnt := fun W => count_any (rowN es k) (rowN_lt64 hv k) W
      rw [HDR.out k hlt] at hcnt
      have hd := HDL.out k hlt
      obtain ⟨v0, n0⟩ : ∃ v0, wr.cell? ⟨bk + 1, k, none⟩ = some v0 := ⟨_, numAt_fn hN k hlt⟩
      have nf : ∀ j, wr.frozen? ⟨bk + 1, j, none⟩ = false := fun j => free_blk hN
      have hst := numAt_set hN k (deg k : Int)
      have hbs := hB.other (v := .int .i64 (deg k : Int)) (b := bk + 1) (j := k) (by omega)
      have hk64 : k < 64 := by omega
      have hBd := HK.out.lt _ hd
      have hKs := HK.out.add hk64 hd
      have hbit := fun W => bit_any k hk64 W
      have hor := bits_or_u64_nat (B (deg k)) (2 ^ k) hBd (pow64 k hk64)
      have hS1 := hbs.set (deg k) (B (deg k) ||| 2 ^ k)
      have hN1 : NumAt ((wr.setCell ⟨bk + 1, k, none⟩ (.int .i64 (deg k : Int))).setCell ⟨bk, deg k, none⟩ (.int .u64 ((B (deg k) ||| 2 ^ k : Nat) : Int))) (bk + 1) (fnL n (fun x => if x < k + 1 then (deg x : Int) else 0)) := by
        refine numAt_other ?_ (by omega)
        rw [fnL_congr n _ (fun x => if x = k then (deg k : Int) else if x < k then (deg x : Int) else 0) (fun x _ => by
          by_cases e : x = k
          · subst e; simp
          · by_cases h2 : x < k
            · simp [e, h2, show x < k + 1 by omega]
            · simp [e, h2, show ¬ x < k + 1 by omega])]
        exact hst
      have hb2 : Below bk w1 ((wr.setCell ⟨bk + 1, k, none⟩ (.int .i64 (deg k : Int))).setCell ⟨bk, deg k, none⟩ (.int .u64 ((B (deg k) ||| 2 ^ k : Nat) : Int))) := (hb.setCell (p := ⟨bk + 1, k, none⟩) (Nat.le_succ _) _).setCell (p := ⟨bk, deg k, none⟩) (Nat.le_refl _) _
      have hK2 : BK (fun x => decide (x < k + 1)) deg (updN B (deg k) (B (deg k) ||| 2 ^ k)) := hKs.congr (fun x => by
        rw [Bool.eq_iff_iff]; simp only [Bool.or_eq_true, decide_eq_true_eq]; omega) (fun _ _ => rfl)
      have HK2 := Lib.hid hK2
      have b0 := hbs.cell (deg k) hd
      have bf : ∀ j, (wr.setCell ⟨bk + 1, k, none⟩ (.int .i64 (deg k : Int))).frozen? ⟨bk, j, none⟩ = false := fun j => free_blk hbs
      have n1 := numAt_fn hst k hlt
      rw [if_pos rfl] at n1
      obtain ⟨w3, hw3⟩ : ∃ W : World, W = wr.setCell ⟨bk + 1, k, none⟩ (.int .i64 (deg k : Int)) := ⟨_, rfl⟩
      rw [← hw3] at hS1 hN1 hb2 b0 bf n1
      have HW3 := Lib.hid hw3
      obtain ⟨M, hM⟩ : ∃ M, B (deg k) ||| 2 ^ k = M := ⟨_, rfl⟩
      obtain ⟨P, hP⟩ : ∃ P, 2 ^ k = P := ⟨_, rfl⟩
      rw [hM] at hor hS1 hN1 hb2 HK2
      rw [hP] at hor hbit
      obtain ⟨D, hD⟩ : ∃ D, deg k = D := ⟨_, rfl⟩
      rw [hD] at hor hS1 hN1 hb2 b0 n1 HK2 hcnt hd HW3
      obtain ⟨X, hX⟩ : ∃ X, B D = X := ⟨_, rfl⟩
      rw [hX] at hor b0
      have hd3 : (D : Int) < 64 := by omega
      clear hRw hN hB hst hbs hKs hBd hK2 hw3 hM hP hD hX
      go_wp2_with (go_at_call 144; refine (hcnt _).mono ?_; rintro e w4 ⟨rfl, rfl⟩)
      rw [← HW3.out]
      refine wp_region_still_tail 10 (by kernel_rfl) (by kernel_rfl) ?_
      simp only [List.take_succ_cons, List.take_zero, List.drop_succ_cons, List.drop_zero]
      repeat still_step
      still_call ((hbit _).mono fun _ _ h => ⟨h.1, h.2.symm⟩)
      repeat still_step
      refine wpStill_nil ?_
      change wpList _ _ _ _ _ w3.drew
      go_wp2_with fail
      go_roundw
      case rel => exact ⟨k + 1, by omega, by go_num, hN1, ⟨_, hS1, HK2⟩, hb2.drew⟩
      case measure => simp [intOf]; omega
    · obtain rfl : n = k := by omega
      have hmk := make_ints n (by omega)
      have hall := fun W => mall_any n hn64 W
      have hab := all_bit n
      have hA0l : 2 ^ n - 1 < 18446744073709551616 := by
        have h1 : 2 ^ n ≤ 2 ^ 64 := Nat.pow_le_pow_right (by decide) hn64
        have h2 : 0 < 2 ^ n := Nat.pos_of_ne_zero (by simp)
        omega
      obtain ⟨A0, hA0⟩ : ∃ A, 2 ^ n - 1 = A := ⟨_, rfl⟩
      rw [hA0] at hall hab hA0l
      have HAB := Lib.hid hab
      have hs0 : bk + 1 < wr.heap.size := blk_lt hN
      have hbn := (Below.refl wr.heap.size wr).alloc (Nat.le_refl _) (.cells (intsV (List.replicate n 0)).toArray 3)
      have hN2 : NumAt _ _ _ := lit_next' hbn hN
      have hB2 := hB.below hbn
      have hM2 : NumAt (wr.alloc (.cells (intsV (List.replicate n 0)).toArray 3)) wr.heap.size (fnL n (numP (dgS es n) n 0)) := by
        rw [show numP (dgS es n) n 0 = fun _ => 0 from rfl, ← fnL_zero]
        exact heap_alloc_new _ _
      have hb2 := hb.trans (hbn.mono (by omega))
      have hz2 : (wr.alloc (.cells (intsV (List.replicate n 0)).toArray 3)).heap.size = wr.heap.size + 1 := by simp
      rw [fnL_congr n _ (fun x => (deg x : Int)) (fun x hx => by rw [if_pos hx])] at hN2
      have HKK : Hid (BK (restB n (peelO (dgS es n) n 0)) deg B) := (show BK (restB n (peelO (dgS es n) n 0)) deg B from HK.out.congr (fun x => by rw [show peelO (dgS es n) n 0 = [] from rfl, restB_nil]) (fun _ _ => rfl))
      have HFF : Hid (∀ x, restB n (peelO (dgS es n) n 0) x = true → deg x = dgS es n (restB n (peelO (dgS es n) n 0)) x) := (show ∀ x, _ from fun x _ => by rw [show peelO (dgS es n) n 0 = [] from rfl, HDG.out])
      obtain ⟨w2, hw2⟩ : ∃ W : World, W = wr.alloc (.cells (intsV (List.replicate n 0)).toArray 3) := ⟨_, rfl⟩
      have HW2 := Lib.hid hw2
      rw [← hw2] at hN2 hB2 hM2 hb2 hz2
      obtain ⟨nb, hnb⟩ : ∃ s, wr.heap.size = s := ⟨_, rfl⟩
      have HNB := Lib.hid hnb
      rw [hnb] at hs0 hM2 hz2
      have HLL : Hid (∀ x, A0.testBit x = restB n (peelO (dgS es n) n 0) x) := (show ∀ x, _ from fun x => by rw [show peelO (dgS es n) n 0 = [] from rfl, restB_nil, hab])
      clear hA0 hab hN hB hb hbn HK hw2 hnb
      go_wp2_with (go_at_call 101; refine (hall _).mono ?_; rintro e w4 ⟨rfl, rfl⟩)
      rw [← HW2.out, HNB.out]
      clear hmk hall
      go_step3
      go_wp2_with fail
      go_loopg [2, 9, 10] n (fun gh vo vl vk wr => ∃ (j L : Nat), j + gh = n ∧ wr.ownsRow (nb + 1) 3 1 vo j (intsV (castL (peelO (dgS es n) n j))) ∧ vl = .int .u64 L ∧ L < 18446744073709551616 ∧ Hid (∀ x, L.testBit x = restB n (peelO (dgS es n) n j) x) ∧ vk = .int .i64 (topP (dgS es n) n j) ∧
        (∃ F : Nat → Nat, NumAt wr (bk + 1) (fnL n (fun x => (F x : Int))) ∧ Hid (∀ x, restB n (peelO (dgS es n) n j) x = true → F x = dgS es n (restB n (peelO (dgS es n) n j)) x) ∧ ∃ B, MaskAt wr bk 161 64 B ∧ Hid (BK (restB n (peelO (dgS es n) n j)) F B)) ∧
        NumAt wr nb (fnL n (numP (dgS es n) n j)) ∧ Below bk w1 wr ∧ nb + 1 ≤ wr.heap.size)
      case atStart => exact ⟨0, A0, by omega, World.ownsRow_nil _ _ _ _, rfl, hA0l, HLL, rfl, ⟨deg, hN2, HFF, B, hB2, HKK⟩, hM2, hb2, by omega⟩
      case round =>
        clear hN2 HFF hB2 HKK hM2 hb2 hz2 HLL hA0l HAB
        obtain ⟨j, L, hj, hown, rfl, hL, HL, rfl, ⟨F, hN, HF, B, hB, HK⟩, hM, hb, hz⟩ := hrel
        obtain ⟨ao, co, hvo⟩ := owns_shape hown
        subst hvo
        cases gk with
        | zero =>
          obtain rfl : n = j := by omega
          have hL0 : L = 0 := (mask_zero L hL).2 fun x _ => by
            rw [HL.out]
            cases h : restB n (peelO (dgS es n) n n) x with
            | false => rfl
            | true =>
              obtain ⟨i, _, he⟩ := peel_mem (dgS es n) n x ((restB_iff ..).1 h).1
              exact absurd (List.mem_of_getElem? he) ((restB_iff ..).1 h).2
          subst hL0
          have hlen : (castL (peelO (dgS es n) n n)).length = n := by rw [castL_length, (peelO_spec _ _ _ (Nat.le_refl _)).1]
          obtain ⟨a', c', hv', hi', hp'⟩ := IntsAt.of_owns (xs := castL (peelO (dgS es n) n n)) (by rw [hlen]; exact hown) (by omega)
          rw [hlen] at hv' hi'
          cases hv'
          have hbe : Below w.heap.size w wr := hb01.trans ((show Below w1.heap.size w1 wr by rw [HBK.out]; exact hb).mono hb01.size)
          have hbkw : w.heap.size ≤ bk := by rw [← HBK.out]; exact hb01.size
          clear hb hN hB HF HK HL hown hL
          go_wp2_with fail
          try rw [Exit.noGoto_ret]
          go_ret2
          exact ⟨ao, co, nb, rfl, hi', hM, by omega, fun p hp => by have := hp' p hp; omega, hbe⟩
        | succ gh =>
          have hlt : j < n := by omega
          obtain ⟨b, hbest, hstep, hbr, _⟩ := peelO_step (dgS es n) n j hlt
          have htk : takS (dgS es n) n j = dgS es n (restB n (peelO (dgS es n) n j)) b := by
            unfold takS
            rw [List.getD_eq_getElem?_getD, peel_get _ _ _ hlt, hbest]; rfl
          have hgb' : (peelO (dgS es n) n n).getD j 0 = b := by rw [List.getD_eq_getElem?_getD, peel_get _ _ _ hlt, hbest]; rfl
          have htop := topP_step (dgS es n) n j
          rw [htk] at htop
          have hol := (peelO_spec (dgS es n) n j (by omega)).1
          have hnumstep : ∀ x, x < n → (if x = b then (topP (dgS es n) n (j + 1) : Int) else numP (dgS es n) n j x) = numP (dgS es n) n (j + 1) x := fun x _ => by
            rw [numP, hgb']
          have hbn : b < n := ((restB_iff ..).1 hbr).1
          have hL0 : L ≠ 0 := fun h => by
            have h1 := HL.out b
            rw [hbr, h] at h1
            simp at h1
          have hF64 : ∀ x, restB n (peelO (dgS es n) n j) x = true → F x < 64 := fun x hx => by
            rw [HF.out x hx]
            have := dg_lt hv (restB n (peelO (dgS es n) n j)) x ((restB_iff ..).1 hx).1
            omega
          have hKd : BK (restB n (peelO (dgS es n) n j)) (dgS es n (restB n (peelO (dgS es n) n j))) B := HK.out.congr (fun _ => rfl) HF.out
          obtain ⟨O, hO⟩ : ∃ O, peelO (dgS es n) n j = O := ⟨_, rfl⟩
          rw [hO] at hown HF HL HK hbr htop hstep hbest hol hF64 hKd
          have HTOP := Lib.hid htop
          have HSTEP := Lib.hid hstep
          have HBEST := Lib.hid hbest
          have HOL := Lib.hid hol
          have HNS := Lib.hid hnumstep
          have HF64 := Lib.hid hF64
          have HKD := Lib.hid hKd
          have HBR := Lib.hid hbr
          clear hgb' htop hstep hbest htk hol hnumstep hO hF64 hKd hbr
          have d1 : ((L : Int) != 0) = true := by simpa using hL0
          have d2 : (L != 0) = true := by simpa using hL0
          clear hL0
          obtain ⟨wb, hwb⟩ : ∃ W : World, W = wr := ⟨_, rfl⟩
          rw [← hwb] at hN hB hM hown hb hz ⊢
          clear hwb
          go_wp2_with fail
          go_loopg [2, 9, 10, 51] 64 (fun g2 vo vl vk vd wy => ∃ d : Nat, d + g2 = 64 ∧ vo = .slice ao j co ∧ vl = .int .u64 L ∧ vk = .int .i64 (topP (dgS es n) n j) ∧ vd = .int .i64 d ∧ Hid (∀ i, i < d → B i = 0) ∧ wb = wy)
          case atStart => exact ⟨0, by omega, rfl, rfl, rfl, rfl, (show ∀ i, _ from fun i hi => absurd hi (Nat.not_lt_zero i)), rfl⟩
          case round =>
            obtain ⟨d, hdg, rfl, rfl, rfl, rfl, HD, rfl⟩ := hrel
            cases gk with
            | zero =>
              exfalso
              have h1 := bk_some HK.out b HBR.out (HF64.out b HBR.out)
              exact h1 (HD.out _ (by have := HF64.out b HBR.out; omega))
            | succ g2 =>
              have hd64 : d < 64 := by omega
              have hd3 : (d : Int) < 64 := by omega
              by_cases h0 : B d = 0
              · have b0 : wb.cell? ⟨bk, d, none⟩ = some (.int .u64 0) := by have := hB.cell d hd64; rw [h0] at this; exact this
                have HD2 : Hid (∀ i, i < d + 1 → B i = 0) := (show ∀ i, _ from fun i hi => by
                  by_cases e : i = d
                  · rw [e, h0]
                  · exact HD.out i (by omega))
                clear h0 HD
                go_wp2_with fail
                go_roundg g2
                case measure => omega
                case rel => exact ⟨d + 1, by omega, rfl, rfl, rfl, by go_num, HD2, rfl⟩
              · obtain ⟨q1, q2, q3⟩ := bk_best HKD.out hd64 h0 HD.out
                have hvb : Lib.ctz 64 (B d) = b := by
                  rw [HBEST.out] at q1
                  exact (Option.some.inj q1).symm
                rw [hvb] at q2 q3
                have hb64 : b < 64 := by omega
                have hbn3 : (b : Int) < n := by omega
                have hFb : F b = d := by rw [HF.out b HBR.out]; exact q3
                have hmax : max (topP (dgS es n) n j : Int) (d : Int) = (topP (dgS es n) n (j + 1) : Int) := by
                  have := HTOP.out; rw [q3] at this; omega
                have hwB : Below w.heap.size w wb := hb01.trans ((show Below w1.heap.size w1 wb by rw [HBK.out]; exact hb).mono hb01.size)
                have hBd := HK.out.lt d hd64
                have hls := least_any (B d) hBd h0 wb (hT.below hwB)
                rw [hvb] at hls
                have hbit := fun W => bit_any b hb64 W
                have b0 := hB.cell d hd64
                obtain ⟨v0, m0⟩ : ∃ v0, wb.cell? ⟨nb, b, none⟩ = some v0 := ⟨_, numAt_fn hM b hbn⟩
                have mf : ∀ j, wb.frozen? ⟨nb, j, none⟩ = false := fun j => free_blk hM
                have hM1 : NumAt (wb.setCell ⟨nb, b, none⟩ (.int .i64 (topP (dgS es n) n (j + 1) : Int))) nb (fnL n (numP (dgS es n) n (j + 1))) := by
                  rw [← fnL_congr _ _ _ HNS.out]
                  exact numAt_set hM b _
                have hN1 := numAt_other (v := .int .i64 (topP (dgS es n) n (j + 1) : Int)) (b := nb) (j := b) hN (by omega)
                have hB1 := hB.other (v := .int .i64 (topP (dgS es n) n (j + 1) : Int)) (b := nb) (j := b) (by omega)
                have hgs : wb.grownBy (wb.setCell ⟨nb, b, none⟩ (.int .i64 (topP (dgS es n) n (j + 1) : Int))) (some nb) := ⟨rfl, rfl, rfl, by simp, fun k _ hk => Below.heap_setCell _ _ _ _ (fun e => hk (by simp [e]))⟩
                have hnbo : ∀ g, (Value.slice ao j co).ownBlock = some g → nb + 1 ≤ g := fun g e => (hown.lt g e).1
                have hown1 := hown.kept hgs (by
                  cases hs : (Value.slice ao j co).ownBlock with
                  | none => exact .inl rfl
                  | some k => have := hnbo k hs; exact .inr (by simp; omega))
                have hb1 : Below bk w1 (wb.setCell ⟨nb, b, none⟩ (.int .i64 (topP (dgS es n) n (j + 1) : Int))) := hb.setCell (p := ⟨nb, b, none⟩) (show bk ≤ nb by omega) _
                have hz1 : (wb.setCell ⟨nb, b, none⟩ (.int .i64 (topP (dgS es n) n (j + 1) : Int))).heap.size = wb.heap.size := by simp
                have hlx := ints_lit1 (wb.setCell ⟨nb, b, none⟩ (.int .i64 (topP (dgS es n) n (j + 1) : Int))) (b : Int) 3
                rw [hz1] at hlx
                have hownA := hown1.alloc (.cells #[.int .i64 (b : Int)] 3)
                have hbnA := (Below.refl _ (wb.setCell ⟨nb, b, none⟩ (.int .i64 (topP (dgS es n) n (j + 1) : Int)))).alloc (Nat.le_refl _) (.cells #[.int .i64 (b : Int)] 3)
                have hMA : NumAt _ _ _ := lit_next' hbnA hM1
                have hNA : NumAt _ _ _ := lit_next' hbnA hN1
                have hBA := hB1.below hbnA
                have hbA : Below bk w1 _ := hb1.trans (hbnA.mono (by rw [hz1]; omega))
                have hcl : (castL O).length = j := by rw [castL_length]; exact HOL.out
                have hlbj : nb + 1 ≤ ((wb.setCell ⟨nb, b, none⟩ (.int .i64 (topP (dgS es n) n (j + 1) : Int))).alloc (.cells #[.int .i64 (b : Int)] 3)).heap.size := by simp; omega
                have han := u64_andNot_nat L (2 ^ b) hL (pow64 b hb64)
                have hanB := u64_andNot_nat (B d) (2 ^ b) hBd (pow64 b hb64)
                have hoL : L &&& (18446744073709551615 - 2 ^ b) = offN L b := rfl
                have hoB : B d &&& (18446744073709551615 - 2 ^ b) = offN (B d) b := rfl
                rw [hoL] at han
                rw [hoB] at hanB
                have hL2 := offN_lt L b hL
                have hL2b : ∀ x, (offN L b).testBit x = restB n (O ++ [b]) x := fun x => by rw [offN_bit L b x hL hb64, HL.out x, restB_snoc]
                have hK1 := HK.out.take hb64 (by rw [hFb]; exact hd64)
                rw [hFb] at hK1
                have hsf : ∀ x, offB (restB n O) b x = restB n (O ++ [b]) x := fun x => by rw [restB_snoc]; rfl
                have hK2 : BK (restB n (O ++ [b])) F (updN B d (offN (B d) b)) := hK1.congr hsf (fun _ _ => rfl)
                obtain ⟨Z, hZ⟩ : ∃ Z, selL n (fun x => adjB es b x && restB n (O ++ [b]) x) = Z := ⟨_, rfl⟩
                have hbits : bitsL (rowN es b &&& offN L b) = castL Z := by
                  rw [← hZ]
                  exact bits_sel _ n hn64 _ (fun x => by rw [Nat.testBit_and, row_bits hv, hL2b x, Bool.and_assoc])
                have hZm : ∀ x, x ∈ Z ↔ adjB es b x = true ∧ restB n (O ++ [b]) x = true := fun x => by
                  rw [← hZ]
                  unfold selL
                  rw [List.mem_filter, List.mem_range, Bool.and_eq_true]
                  exact ⟨fun h => h.2, fun h => ⟨((restB_iff ..).1 h.2).1, h⟩⟩
                have hZn : Z.Nodup := by rw [← hZ]; exact selL_nodup _ _
                have hZl : Z.length ≤ 64 := by rw [← hZ]; exact Nat.le_trans (selL_len _ _) hn64
                have hand := bits_and_u64_nat (rowN es b) (offN L b) (rowN_lt64 hv b) hL2
                have hml : rowN es b &&& offN L b < 18446744073709551616 := Nat.lt_of_le_of_lt Nat.and_le_right hL2
                have hlist := fun W h => list_any (rowN es b &&& offN L b) hml W h
                rw [hbits] at hlist
                have HHAND := Lib.hid hbits
                clear hbits hZ hK1 hsf hoL hoB hvb q1 q2 q3
                obtain ⟨MZ, hMZ⟩ : ∃ M, rowN es b &&& offN L b = M := ⟨_, rfl⟩
                rw [hMZ] at hand hlist
                obtain ⟨L2, hL2e⟩ : ∃ M, offN L b = M := ⟨_, rfl⟩
                rw [hL2e] at han hL2 hL2b hand
                obtain ⟨M1, hM1e⟩ : ∃ M, offN (B d) b = M := ⟨_, rfl⟩
                rw [hM1e] at hanB hK2
                obtain ⟨P, hP⟩ : ∃ P, 2 ^ b = P := ⟨_, rfl⟩
                rw [hP] at hbit han hanB
                obtain ⟨X, hX⟩ : ∃ X, B d = X := ⟨_, rfl⟩
                rw [hX] at hanB b0 hls
                obtain ⟨RB, hRB⟩ : ∃ X, rowN es b = X := ⟨_, rfl⟩
                rw [hRB] at hand
                generalize hTJ : topP (dgS es n) n (j + 1) = TJ at *
                have HTJ := Lib.hid hTJ
                clear hTJ
                generalize topP (dgS es n) n j = TP at *
                have HZM := Lib.hid hZm
                have HL2B := Lib.hid hL2b
                have HK2 := Lib.hid hK2
                have HRB := Lib.hid hRB
                have HX := Lib.hid hX
                have HHFB := Lib.hid hFb
                have h0i : ((X : Int) == 0) = false := by
                  have : X ≠ 0 := by rw [← hX]; exact h0
                  simp; omega
                have h0n : (X == 0) = false := by
                  have : X ≠ 0 := by rw [← hX]; exact h0
                  simpa using this
                clear hMZ hL2e hM1e hP hX hRB h0 hM1 hB1 hN1 hgs hown1 hb1 hbnA hZm hL2b hK2 hFb hBd hM hB hN hown HHAND
                go_wp2_with (first
                  | (go_at_call 145; refine hls.mono ?_; rintro e w4 ⟨rfl, rfl⟩)
                  | (go_at_call 103; refine (hbit _).mono ?_; rintro e w5 ⟨rfl, rfl⟩)
                  | (at_builtin; refine wpList_app_ints intsT rfl _ _ rfl (nb + 1) (.slice ao j co) _ (castL O) [(b : Int)] rfl (by rw [hcl]; exact hownA) rfl hlx (by rw [hcl]; simp; omega) hlbj ?_; intro v6 w6 hown6 hg6))
                have hM6 : NumAt w6 _ _ := grown_blk hg6 hMA (by intro e; have := hnbo _ e.symm; omega)
                have hN6 : NumAt w6 _ _ := grown_blk hg6 hNA (by intro e; have := hnbo _ e.symm; omega)
                have hB6 : MaskAt w6 bk 161 64 B := grown_blk hg6 hBA (by intro e; have := hnbo _ e.symm; omega)
                have hb6 : Below bk w1 w6 := hbA.grown hg6 (by omega) (fun g e => by have := hnbo g e; omega)
                have hz6 : nb + 1 ≤ w6.heap.size := Nat.le_trans hlbj hg6.size
                have b6 := hB6.cell d hd64
                rw [HX.out] at b6
                have f6 : ∀ j, w6.frozen? ⟨bk, j, none⟩ = false := fun j => free_blk hB6
                have hB7 := hB6.set d M1
                have hN7 := numAt_other (v := .int .u64 (M1 : Int)) (b := bk) (j := d) hN6 (by omega)
                have hM7 := numAt_other (v := .int .u64 (M1 : Int)) (b := bk) (j := d) hM6 (by omega)
                have hg7 : w6.grownBy (w6.setCell ⟨bk, d, none⟩ (.int .u64 (M1 : Int))) (some bk) := ⟨rfl, rfl, rfl, by simp, fun k _ hk => Below.heap_setCell _ _ _ _ (fun e => hk (by simp [e]))⟩
                have hown7 := hown6.kept hg7 (by
                  cases hs : v6.ownBlock with
                  | none => exact .inl rfl
                  | some k => have := (hown6.lt k hs).1; exact .inr (by simp; omega))
                have hb7 : Below bk w1 (w6.setCell ⟨bk, d, none⟩ (.int .u64 (M1 : Int))) := hb6.setCell (p := ⟨bk, d, none⟩) (Nat.le_refl _) _
                have hz7 : nb + 1 ≤ (w6.setCell ⟨bk, d, none⟩ (.int .u64 (M1 : Int))).heap.size := by simpa using hz6
                have hwB7 : Below w.heap.size w (w6.setCell ⟨bk, d, none⟩ (.int .u64 (M1 : Int))) := hb01.trans ((show Below w1.heap.size w1 _ by rw [HBK.out]; exact hb7).mono hb01.size)
                have r7 : (w6.setCell ⟨bk, d, none⟩ (.int .u64 (M1 : Int))).cell? ⟨g, b, none⟩ = some (.int .u64 (RB : Int)) := by
                  rw [cell_blk (blk_below hb7 hgb hR), List.getElem?_toArray, rowsV_get n es b hbn, HRB.out]
                have hne1 : ¬ g = bk := by omega
                have hne2 : ¬ bk = g := by omega
                have hlist7 := hlist (w6.setCell ⟨bk, d, none⟩ (.int .u64 (M1 : Int))).drew (hT.below hwB7.drew)
                obtain ⟨w7, hw7⟩ : ∃ W : World, W = w6.setCell ⟨bk, d, none⟩ (.int .u64 (M1 : Int)) := ⟨_, rfl⟩
                rw [← hw7] at hB7 hN7 hM7 hown7 hb7 hz7 hwB7 r7 hlist7
                have HW7 := Lib.hid hw7
                clear hM6 hN6 hB6 hb6 hg7 hown6 hg6 hMA hNA hBA hbA hownA hlbj hlx hw7 hls hmax m0 mf b0
                refine wp_region_still_tail 7 (by kernel_rfl) (by kernel_rfl) ?_
                simp only [List.take_succ_cons, List.take_zero, List.drop_succ_cons, List.drop_zero]
                repeat still_step
                still_call ((hbit _).mono fun _ _ h => ⟨h.1, h.2.symm⟩)
                repeat still_step
                refine wpStill_nil ?_
                change wpList _ _ _ _ _ w6.drew
                go_wp2_with (rw [← HW7.out])
                refine hlist7.mono ?_
                rintro e w8 ⟨vz, rfl, hownz, hb8⟩
                have hzl : (castL Z).length = Z.length := castL_length Z
                obtain ⟨az, cz, rfl, hiz, haz⟩ := IntsAt.of_owns hownz (by omega)
                have hd7 : w7.drew.heap.size = w7.heap.size := rfl
                have hB8 : MaskAt w8 _ _ _ _ := MaskAt.below (w := w7.drew) hB7 hb8
                have hN8 : NumAt w8 _ _ := lit_next' (w := w7.drew) hb8 hN7
                have hP8 : PkI w1 bk nb v6 (castL O ++ [(b : Int)]).length (intsV (castL O ++ [(b : Int)])) (fnL n (numP (dgS es n) n (j + 1))) (.slice az (castL Z).length cz) (castL Z) w8 :=
                  ⟨World.ownsRow.kept (w := w7.drew) hown7 (grown_of_below hb8) (Classical.em _), lit_next' (w := w7.drew) hb8 hM7, hiz, fun n' c' p hp => by have := haz p (Value.slice.inj hp).1; omega, hb7.drew.trans (hb8.mono (by omega)), by have := hb8.size; omega⟩
                have HF8 : Hid (∀ x, F x = F x - (if x ∈ Z.take 0 then 1 else 0)) := (show ∀ x, _ from fun x => by simp)
                clear hB7 hN7 hM7 hown7 hb7 hz7 hwB7 r7 hlist7 hownz haz hb8 hiz hd7 b6 f6 hlist
                go_wp2_with fail
                go_loopw [92] (fun vi wr => ∃ t : Nat, t ≤ (castL Z).length ∧ vi = .int .i64 t ∧ (∃ Ft : Nat → Nat, NumAt wr (bk + 1) (fnL n (fun x => (Ft x : Int))) ∧ Hid (∀ x, Ft x = F x - (if x ∈ Z.take t then 1 else 0)) ∧ ∃ Bt, MaskAt wr bk 161 64 Bt ∧ Hid (BK (restB n (O ++ [b])) Ft Bt)) ∧
                  PkI w1 bk nb v6 (castL O ++ [(b : Int)]).length (intsV (castL O ++ [(b : Int)])) (fnL n (numP (dgS es n) n (j + 1))) (.slice az (castL Z).length cz) (castL Z) wr) (fun vi _ => (castL Z).length - (intOf vi).toNat)
                case atStart => exact ⟨0, Nat.zero_le _, rfl, ⟨F, hN8, HF8, _, hB8, HK2⟩, hP8⟩
                case round =>
                  clear hN8 HF8 hB8 HK2 hP8
                  obtain ⟨t, ht, rfl, ⟨Ft, hN, HFt, Bt, hB, HKt⟩, hP⟩ := hrel
                  by_cases hltt : t < (castL Z).length
                  · have hltt3 : (t : Int) < (castL Z).length := by omega
                    have hts : t < Z.length := by omega
                    have hx : Z[t]? = some (Z[t]'hts) := List.getElem?_eq_getElem hts
                    obtain ⟨x, hxx⟩ : ∃ x, (Z[t]'hts) = x := ⟨_, rfl⟩
                    rw [hxx] at hx
                    obtain ⟨hadj, hxr⟩ := (HZM.out x).1 (List.mem_of_getElem? hx)
                    have hxn := ((restB_iff ..).1 hxr).1
                    have hx64 : x < 64 := by omega
                    have hxn3 : (x : Int) < n := by omega
                    obtain ⟨b9, o9, z, rfl, hz9, _, _, c0⟩ := hP.z.at t hltt
                    have hzx : z = x := by
                      unfold castL at hz9
                      rw [List.getElem?_map, hx] at hz9
                      exact (Option.some.inj hz9).symm
                    subst hzx
                    have hnin : x ∉ Z.take t := fun h => nodup_drop2 hZn t x hx h
                    have hFx : Ft x = F x := by rw [HFt.out x, if_neg hnin]; rfl
                    have hRx : restB n O x = true := by rw [restB_snoc] at hxr; simp only [Bool.and_eq_true] at hxr; exact hxr.1
                    have hsf : restB n (O ++ [b]) = offB (restB n O) b := by funext y; rw [restB_snoc]; rfl
                    have hdo := dg_off (es := es) (n := n) (restB n O) b x HBR.out hbn
                    rw [← hsf, adj_comm es x b, hadj, if_pos rfl, ← HF.out x hRx] at hdo
                    obtain ⟨D, hD⟩ : ∃ D, dgS es n (restB n (O ++ [b])) x = D := ⟨_, rfl⟩
                    rw [hD] at hdo
                    have hFD : Ft x = D + 1 := by omega
                    have hD64 : D + 1 < 64 := by have := HF64.out x hRx; omega
                    have n0 := numAt_fn hN x hxn
                    rw [hFD] at n0
                    have n0' : wr.cell? ⟨bk + 1, x, none⟩ = some (.int .i64 ((D : Int) + 1)) := n0
                    have nf : ∀ j, wr.frozen? ⟨bk + 1, j, none⟩ = false := fun j => free_blk hN
                    have bf : ∀ j, wr.frozen? ⟨bk, j, none⟩ = false := fun j => free_blk hB
                    have b1 := hB.cell (D + 1) hD64
                    have b2 := hB.cell D (by omega)
                    have l1 := HKt.out.lt (D + 1) hD64
                    have l2 := HKt.out.lt D (by omega)
                    have hmv := HKt.out.move hx64 hxr hFD hD64
                    have a1 := u64_andNot_nat (Bt (D + 1)) (2 ^ x) l1 (pow64 x hx64)
                    rw [show Bt (D + 1) &&& (18446744073709551615 - 2 ^ x) = offN (Bt (D + 1)) x from rfl] at a1
                    have a2 := bits_or_u64_nat (Bt D) (2 ^ x) l2 (pow64 x hx64)
                    have hbitx := fun W => bit_any x hx64 W
                    have hB3 := ((hB.set (D + 1) (offN (Bt (D + 1)) x)).other (b := bk + 1) (j := x) (v := .int .i64 (D : Int)) (by omega)).set D (Bt D ||| 2 ^ x)
                    have hN3 := numAt_other (b := bk) (j := D) (v := .int .u64 ((Bt D ||| 2 ^ x : Nat) : Int)) (numAt_set (numAt_other (b := bk) (j := D + 1) (v := .int .u64 (offN (Bt (D + 1)) x : Int)) hN (by omega)) x (D : Int)) (by omega)
                    have hP3 := ((hP.set hs0 bk (D + 1) (.int .u64 (offN (Bt (D + 1)) x : Int)) (Nat.le_refl _) (by omega)).set hs0 (bk + 1) x (.int .i64 (D : Int)) (by omega) (Nat.le_refl _)).set hs0 bk D (.int .u64 ((Bt D ||| 2 ^ x : Nat) : Int)) (Nat.le_refl _) (by omega)
                    rw [fnL_congr n _ (fun y => (updN Ft x D y : Int)) (fun y _ => by
                      unfold updN
                      by_cases e : y = x
                      · rw [if_pos e, if_pos e]
                      · rw [if_neg e, if_neg e])] at hN3
                    have HF2 : Hid (∀ y, updN Ft x D y = F y - (if y ∈ Z.take (t + 1) then 1 else 0)) := (show ∀ y, _ from fun y => by
                      rw [take_at _ _ _ hx]
                      unfold updN
                      by_cases e : y = x
                      · subst e; rw [if_pos rfl, if_pos (by simp)]; omega
                      · rw [if_neg e, HFt.out y]
                        simp only [List.mem_append, List.mem_singleton, e, or_false])
                    have HKm := Lib.hid hmv
                    obtain ⟨V1, hV1⟩ : ∃ V, offN (Bt (D + 1)) x = V := ⟨_, rfl⟩
                    obtain ⟨V2, hV2⟩ : ∃ V, Bt D ||| 2 ^ x = V := ⟨_, rfl⟩
                    obtain ⟨P2, hP2⟩ : ∃ V, 2 ^ x = V := ⟨_, rfl⟩
                    rw [hV1] at a1 hB3 hN3 hP3 HKm
                    rw [hV2] at a2 hB3 hN3 hP3 HKm
                    rw [hP2] at a1 a2 hbitx
                    obtain ⟨Y1, hY1⟩ : ∃ V, Bt (D + 1) = V := ⟨_, rfl⟩
                    obtain ⟨Y2, hY2⟩ : ∃ V, Bt D = V := ⟨_, rfl⟩
                    rw [hY1] at b1 a1
                    rw [hY2] at b2 a2
                    obtain ⟨W2, hW2⟩ : ∃ W : World, W = ((wr.setCell ⟨bk, D + 1, none⟩ (.int .u64 (V1 : Int))).setCell ⟨bk + 1, x, none⟩ (.int .i64 (D : Int))).drew := ⟨_, rfl⟩
                    have hBW := (hB.set (D + 1) V1).other (b := bk + 1) (j := x) (v := .int .i64 (D : Int)) (by omega)
                    have hNW := numAt_set (numAt_other (b := bk) (j := D + 1) (v := .int .u64 (V1 : Int)) hN (by omega)) x (D : Int)
                    have w1c := hBW.cell D (by omega)
                    rw [show updN Bt (D + 1) V1 D = Bt D by unfold updN; rw [if_neg (by omega)], hY2] at w1c
                    have w2c := numAt_fn hNW x hxn
                    rw [if_pos rfl] at w2c
                    have w3f : ∀ j, W2.frozen? ⟨bk, j, none⟩ = false := fun j => by rw [hW2]; exact free_blk hBW
                    have w1d : W2.cell? ⟨bk, D, none⟩ = some (.int .u64 (Y2 : Int)) := by rw [hW2]; exact w1c
                    have w2d : W2.cell? ⟨bk + 1, x, none⟩ = some (.int .i64 (D : Int)) := by rw [hW2]; exact w2c
                    have hB3' : MaskAt (W2.setCell ⟨bk, D, none⟩ (.int .u64 (V2 : Int))) bk 161 64 (updN (updN Bt (D + 1) V1) D V2) := by rw [hW2]; exact hB3
                    have hN3' : NumAt (W2.setCell ⟨bk, D, none⟩ (.int .u64 (V2 : Int))) (bk + 1) (fnL n (fun y => (updN Ft x D y : Int))) := by rw [hW2]; exact hN3
                    have hP3' : PkI w1 bk nb v6 (castL O ++ [(b : Int)]).length (intsV (castL O ++ [(b : Int)])) (fnL n (numP (dgS es n) n (j + 1))) (.slice (some ⟨b9, o9, none⟩) (castL Z).length cz) (castL Z) (W2.setCell ⟨bk, D, none⟩ (.int .u64 (V2 : Int))) := by
                      rw [hW2]; exact ⟨hP3.own, hP3.num, hP3.z, hP3.zo, ⟨hP3.be.os, hP3.be.tape, hP3.be.output, hP3.be.size, hP3.be.block⟩, hP3.sz⟩
                    clear w1c w2c hB3 hN3 hP3
                    have HW2' := Lib.hid hW2
                    clear hW2 hBW hNW
                    have hi1 : (D : Int) + 1 < 64 := by omega
                    have hi2 : (D : Int) < 64 := by omega
                    have hi3 : (0 : Int) ≤ (D : Int) + 1 := by omega
                    clear hV1 hV2 hP2 hY1 hY2 hmv HFt HKt hFD hFx hdo hD hnin hN hB hP hz9 hx hxx l1 l2 n0
                    go_wp2_with fail
                    refine wp_region_still_tail 10 (by kernel_rfl) (by kernel_rfl) ?_
                    simp only [List.take_succ_cons, List.take_zero, List.drop_succ_cons, List.drop_zero]
                    repeat still_step
                    still_call ((hbitx _).mono fun _ _ h => ⟨h.1, h.2.symm⟩)
                    repeat still_step
                    refine wpStill_nil ?_
                    change wpList _ _ _ _ _ wr.drew
                    go_wp2_with fail
                    rw [← HW2'.out]
                    refine wp_region_still_tail 10 (by kernel_rfl) (by kernel_rfl) ?_
                    simp only [List.take_succ_cons, List.take_zero, List.drop_succ_cons, List.drop_zero]
                    repeat still_step
                    still_call ((hbitx _).mono fun _ _ h => ⟨h.1, h.2.symm⟩)
                    repeat still_step
                    refine wpStill_nil ?_
                    change wpList _ _ _ _ _ W2.drew
                    go_wp2_with fail
                    go_roundw
                    case rel => exact ⟨t + 1, by omega, by go_num, ⟨updN Ft x D, hN3', HF2, _, hB3', HKm⟩, ⟨hP3'.own, hP3'.num, hP3'.z, hP3'.zo, hP3'.be.drew, hP3'.sz⟩⟩
                    case measure => simp [intOf]; omega
                  · obtain rfl : (castL Z).length = t := by omega
                    have hF2 : ∀ x, restB n (O ++ [b]) x = true → Ft x = dgS es n (restB n (O ++ [b])) x := fun x hx => by
                      have hRx : restB n O x = true := by rw [restB_snoc] at hx; simp only [Bool.and_eq_true] at hx; exact hx.1
                      have hsf : restB n (O ++ [b]) = offB (restB n O) b := by funext y; rw [restB_snoc]; rfl
                      have hdo := dg_off (es := es) (n := n) (restB n O) b x HBR.out hbn
                      rw [← hsf, adj_comm es x b, ← HF.out x hRx] at hdo
                      rw [HFt.out x, hzl, List.take_length]
                      by_cases ha : adjB es b x = true
                      · rw [if_pos ((HZM.out x).2 ⟨ha, hx⟩)]; rw [if_pos ha] at hdo; omega
                      · rw [if_neg (fun h => ha ((HZM.out x).1 h).1)]; rw [if_neg ha] at hdo; omega
                    have hlq : (castL O ++ [(b : Int)]).length = j + 1 := by rw [List.length_append, hcl]; rfl
                    have hown9 := hP.own
                    rw [hlq, ← castL_snoc, ← HSTEP.out] at hown9
                    rw [← HSTEP.out] at hF2 HKt HL2B
                    have HF9 := Lib.hid hF2
                    have hnum9 := hP.num
                    have hbe9 := hP.be
                    have hsz9 := hP.sz
                    clear HFt hP hF2
                    go_wp2_with fail
                    go_roundg gh
                    case measure => omega
                    case rel => exact ⟨j + 1, L2, by omega, hown9, rfl, hL2, HL2B, by rw [HTJ.out], ⟨Ft, hN, HF9, Bt, hB, HKt⟩, hnum9, hbe9, hsz9⟩
end Go.Proofs.YtkknknehchnccaaDoor
