/- Sets of nodes as one number; the contracts of core.Numbers, of the nodes of a level and above it, and of what settles. -/
import Derived.Test.YtkknknehchnccaaDoorCorePeel
import Derived.Test.YtkknknehchnccaaDoorRef10
import Derived.Test.YtkknknehchnccaaDoorRepS
namespace Go.Proofs.YtkknknehchnccaaDoor
open Go.RowKit Go.BigFrame

/-- a set of nodes below n as a number -/
def mskN (S : Nat → Bool) : Nat → Nat
  | 0 => 0
  | k + 1 => if S k = true then mskN S k ||| 2 ^ k else mskN S k
theorem mskN_bit (S : Nat → Bool) : ∀ n x, (mskN S n).testBit x = (decide (x < n) && S x) := by
  intro n
  induction n with
  | zero => intro x; simp [mskN]
  | succ n ih =>
    intro x
    unfold mskN
    by_cases hs : S n = true
    · rw [if_pos hs, orN_bit, ih]
      by_cases e : x = n
      · subst e; simp [hs]
      · have : (x < n + 1) = (x < n) := by rw [eq_iff_iff]; omega
        simp [e, this]
    · rw [if_neg hs, ih]
      by_cases e : x = n
      · subst e
        have : S x = false := by simpa using hs
        simp [this]
      · have : (x < n + 1) = (x < n) := by rw [eq_iff_iff]; omega
        simp [this]
theorem mskN_lt (S : Nat → Bool) : ∀ n, n ≤ 64 → mskN S n < 18446744073709551616 := by
  intro n
  induction n with
  | zero => intro _; show 0 < 18446744073709551616; decide
  | succ n ih =>
    intro h
    unfold mskN
    split
    · exact orN_lt _ _ (ih (by omega)) (by omega)
    · exact ih (by omega)
theorem mskN_congr {S T : Nat → Bool} (n : Nat) (h : ∀ x, x < n → S x = T x) : mskN S n = mskN T n := by
  apply Nat.eq_of_testBit_eq
  intro i
  rw [mskN_bit, mskN_bit]
  by_cases hi : i < n
  · rw [h i hi]
  · simp [hi]
theorem mskN_or (S : Nat → Bool) (n x : Nat) (hx : x < n) : mskN S n ||| 2 ^ x = mskN (fun y => S y || decide (y = x)) n := by
  apply Nat.eq_of_testBit_eq
  intro i
  rw [orN_bit, mskN_bit, mskN_bit]
  by_cases e : i = x
  · subst e; simp [hx]
  · simp [e]
theorem mskN_join (S T : Nat → Bool) (n : Nat) : mskN S n ||| mskN T n = mskN (fun y => S y || T y) n := by
  apply Nat.eq_of_testBit_eq
  intro i
  rw [Nat.testBit_or, mskN_bit, mskN_bit, mskN_bit]
  by_cases e : i < n <;> simp [e]
theorem mskN_meet (S T : Nat → Bool) (n : Nat) : mskN S n &&& mskN T n = mskN (fun y => S y && T y) n := by
  apply Nat.eq_of_testBit_eq
  intro i
  rw [Nat.testBit_and, mskN_bit, mskN_bit, mskN_bit]
  by_cases e : i < n <;> simp [e]
theorem mskN_off (S T : Nat → Bool) (n : Nat) (hn : n ≤ 64) : mskN S n &&& (18446744073709551615 - mskN T n) = mskN (fun y => S y && !T y) n := by
  apply Nat.eq_of_testBit_eq
  intro i
  have hT := mskN_lt T n hn
  have h : (18446744073709551615 - mskN T n).testBit i = (decide (i < 64) && !(mskN T n).testBit i) := by
    have := Nat.testBit_two_pow_sub_succ (x := mskN T n) (n := 64) hT i
    rw [show 2 ^ 64 - (mskN T n + 1) = 18446744073709551615 - mskN T n by omega] at this
    exact this
  rw [Nat.testBit_and, h, mskN_bit, mskN_bit, mskN_bit]
  by_cases e : i < n
  · have : i < 64 := by omega
    simp [e, this]
  · simp [e]
theorem mskN_one (n x : Nat) (hx : x < n) : 2 ^ x = mskN (fun y => decide (y = x)) n := by
  apply Nat.eq_of_testBit_eq
  intro i
  rw [mskN_bit, pow_bitR]
  by_cases e : i = x
  · subst e; simp [hx]
  · simp [e]
theorem mskN_list (S : Nat → Bool) (n : Nat) (hn : n ≤ 64) : bitsL (mskN S n) = castL (selL n S) := bits_sel _ n hn S (mskN_bit S n)
theorem mskN_zero (S : Nat → Bool) (n : Nat) (hn : n ≤ 64) : mskN S n = 0 ↔ ∀ x, x < n → S x = false := by
  rw [mask_zero _ (mskN_lt S n hn)]
  constructor
  · intro h x hx
    have := h x (by omega)
    rw [mskN_bit] at this
    simpa [hx] using this
  · intro h x _
    rw [mskN_bit]
    by_cases e : x < n
    · rw [h x e]; simp
    · simp [e]
theorem rowN_msk {n : Nat} {es : List E2} (hv : Valid n es) (v : Nat) : rowN es v = mskN (adjB es v) n := by
  apply Nat.eq_of_testBit_eq
  intro i
  rw [row_bits hv, mskN_bit]
theorem settle_one {B : Nat → Nat → Bool} {n : Nat} {R U : Nat → Bool} {k : Nat} {S T : Nat → Bool} (h : Settle B n R U k S) (g : Settle B n R U k T) (x : Nat) : S x = T x := by
  have h1 := g.top S h.sub h.good x
  have h2 := h.top T g.sub g.good x
  cases hr : S x with
  | true => exact (h1 hr).symm
  | false => cases ht : T x with
    | false => rfl
    | true => rw [h2 ht] at hr; cases hr
/-- the nodes of a level, and those above it -/
def levS (l : List Int) (k : Int) (x : Nat) : Bool := decide (l[x]?.getD 0 = k)
def abvS (l : List Int) (k : Int) (x : Nat) : Bool := decide (k < l[x]?.getD 0)
set_option maxRecDepth 100000 in
set_option maxHeartbeats 1600000 in
theorem cnumbers_any (n : Int) (a : Option Addr) (cap : Nat) (es : List E2) (w : World) (he : EdgesAt w (.slice a es.length cap) es) (hT : TzAt w) :
    Calls Tryd.prog 85 #[.agg #[.int .i64 n, .slice a es.length cap]] w (TPost w (corX n es)) := by
  have hb0 : Below w.heap.size w (w.alloc (.cells #[.int .i64 n, .slice a es.length cap] 25)) := (Below.refl _ _).alloc (Nat.le_refl _) _
  have hG0 := heap_alloc_new w (.cells #[.int .i64 n, .slice a es.length cap] 25)
  have hck := fun W h => gcheck_any n a cap es W h
  unfold TPost corX
  by_cases hC : checkS n es = 0
  case neg =>
    rw [if_pos hC]
    obtain ⟨C, hCC⟩ : ∃ C, checkS n es = C := ⟨_, rfl⟩
    rw [hCC] at hck hC ⊢
    have d1 : (C != 0) = true := by simpa using hC
    have d2 : (C == 0) = false := by simpa using hC
    clear hC hCC
    go_enter Tryd.func85, Tryd.ntmps85
    go_wp2_with fail
    refine (hck _ (he.below hb0)).mono ?_
    rintro e w1 ⟨rfl, hb1⟩
    go_wp2_with fail
    go_ret2
    exact ⟨none, 0, rfl, ints_nil _, fun p h => (by cases h), hb0.trans (hb1.mono hb0.size)⟩
  have hv := (valid_iff n es).1 hC
  rw [if_neg (by simpa using hC)]
  rw [hC] at hck
  obtain ⟨n, rfl⟩ := Int.eq_ofNat_of_zero_le hv.1
  rw [Int.toNat_natCast]
  go_enter Tryd.func85, Tryd.ntmps85
  go_wp2_with fail
  refine (hck _ (he.below hb0)).mono ?_
  rintro e w1 ⟨rfl, hb1⟩
  have hb01 := hb0.trans (hb1.mono hb0.size)
  have hG1 := lit_next' hb1 hG0
  have g0 : w1.cell? ⟨w.heap.size, 0, none⟩ = some (.int .i64 n) := by rw [cell_blk hG1]; rfl
  have g1 : w1.cell? ⟨w.heap.size, 1, none⟩ = some (.slice a es.length cap) := by rw [cell_blk hG1]; rfl
  clear hck hG0 hb0 hb1
  go_wp2_with fail
  refine (cpeel_any n a cap es _ (he.below hb01) hv (hT.below hb01)).mono ?_
  rintro e w2 ⟨ao, co, nb, rfl, -, hN, hnb, -, hb2⟩
  have hl := corT_length es n
  have hn64 := hv.2.1
  have hi : IntsAt w2 (.slice (some ⟨nb, 0, none⟩) (corT es n).length n) (corT es n) := by
    have h := hN.ints (by rw [hl]; omega)
    rw [hl] at h ⊢; exact h
  have hz := hb01.size
  go_wp2_with fail
  go_ret2
  exact ⟨_, _, by rw [hl]; rfl, hi, fun p h => (by cases h; exact Nat.le_trans hz hnb), hb01.trans (hb2.mono hz)⟩
set_option maxRecDepth 100000 in
set_option maxHeartbeats 800000 in
theorem level_any (a : Option Addr) (cap : Nat) (xs : List Int) (k : Int) (w : World) (hi : IntsAt w (.slice a xs.length cap) xs) (hl : xs.length ≤ 64) :
    Calls Tryd.prog 127 #[.slice a xs.length cap, .int .i64 k] w fun e w' => e = .returned (.int .u64 (mskN (levS xs k) xs.length : Int)) ∧ w = w' := by
  go_enter Tryd.func127, Tryd.ntmps127
  go_wp2_with fail
  go_loop [5, 10] (fun m i => ∃ (t M : Nat), t ≤ xs.length ∧ i = .int .i64 t ∧ m = .int .u64 M ∧ Hid (M = mskN (levS xs k) t) ∧ M < 18446744073709551616) (fun _ i => xs.length - (intOf i).toNat)
  case atStart => exact ⟨0, 0, Nat.zero_le _, rfl, rfl, rfl, by decide⟩
  case round =>
    obtain ⟨t, M, ht, rfl, rfl, HM, hM⟩ := hrel
    by_cases hlt : t < xs.length
    · have hlt3 : (t : Int) < xs.length := by omega
      obtain ⟨b, off, y, rfl, hy, -, -, c0⟩ := hi.at t hlt
      have hst : mskN (levS xs k) (t + 1) = if y = k then mskN (levS xs k) t ||| 2 ^ t else mskN (levS xs k) t := by
        show (if levS xs k t = true then _ else _) = _
        unfold levS
        rw [hy]
        simp only [Option.getD_some, decide_eq_true_eq]
      have hb := fun W => bit_any t (by omega) W
      have hor := bits_or_u64_nat M (2 ^ t) hM (pow64 t (by omega))
      have hol := orN_lt M t hM (by omega)
      by_cases hk : y = k
      · have d1 : (y == k) = true := by simpa using hk
        rw [if_pos hk] at hst
        have HM2 : Hid (M ||| 2 ^ t = mskN (levS xs k) (t + 1)) := (show _ = _ by rw [hst, HM.out])
        obtain ⟨P, hP⟩ : ∃ P, 2 ^ t = P := ⟨_, rfl⟩
        rw [hP] at hb hor hol HM2
        obtain ⟨M2, hMM⟩ : ∃ m, M ||| P = m := ⟨_, rfl⟩
        rw [hMM] at hor hol HM2
        clear hst hy hP hMM HM hk
        go_wp2_with (go_at_call 103; refine (hb _).mono ?_; rintro e w1 ⟨rfl, rfl⟩)
        go_round
        case rel => exact ⟨t + 1, M2, by omega, by go_num, rfl, HM2, hol⟩
        case measure => simp [intOf]; omega
      · have d1 : (y == k) = false := by simpa using hk
        rw [if_neg hk] at hst
        have HM2 : Hid (M = mskN (levS xs k) (t + 1)) := (show _ = _ by rw [hst, HM.out])
        clear hst hy HM hor hol hk
        go_wp2_with fail
        go_round
        case rel => exact ⟨t + 1, M, by omega, by go_num, rfl, HM2, hM⟩
        case measure => simp [intOf]; omega
    · obtain rfl : xs.length = t := by omega
      go_wp2_with fail
      go_ret
      rw [HM.out]
      exact ⟨rfl, rfl⟩
set_option maxRecDepth 100000 in
set_option maxHeartbeats 800000 in
theorem above_any (a : Option Addr) (cap : Nat) (xs : List Int) (k : Int) (w : World) (hi : IntsAt w (.slice a xs.length cap) xs) (hl : xs.length ≤ 64) :
    Calls Tryd.prog 125 #[.slice a xs.length cap, .int .i64 k] w fun e w' => e = .returned (.int .u64 (mskN (abvS xs k) xs.length : Int)) ∧ w = w' := by
  go_enter Tryd.func125, Tryd.ntmps125
  go_wp2_with fail
  go_loop [5, 10] (fun m i => ∃ (t M : Nat), t ≤ xs.length ∧ i = .int .i64 t ∧ m = .int .u64 M ∧ Hid (M = mskN (abvS xs k) t) ∧ M < 18446744073709551616) (fun _ i => xs.length - (intOf i).toNat)
  case atStart => exact ⟨0, 0, Nat.zero_le _, rfl, rfl, rfl, by decide⟩
  case round =>
    obtain ⟨t, M, ht, rfl, rfl, HM, hM⟩ := hrel
    by_cases hlt : t < xs.length
    · have hlt3 : (t : Int) < xs.length := by omega
      obtain ⟨b, off, y, rfl, hy, -, -, c0⟩ := hi.at t hlt
      have hst : mskN (abvS xs k) (t + 1) = if k < y then mskN (abvS xs k) t ||| 2 ^ t else mskN (abvS xs k) t := by
        show (if abvS xs k t = true then _ else _) = _
        unfold abvS
        rw [hy]
        simp only [Option.getD_some, decide_eq_true_eq]
      have hb := fun W => bit_any t (by omega) W
      have hor := bits_or_u64_nat M (2 ^ t) hM (pow64 t (by omega))
      have hol := orN_lt M t hM (by omega)
      by_cases hk : k < y
      · have d1 : decide (k < y) = true := decide_eq_true hk
        rw [if_pos hk] at hst
        have HM2 : Hid (M ||| 2 ^ t = mskN (abvS xs k) (t + 1)) := (show _ = _ by rw [hst, HM.out])
        obtain ⟨P, hP⟩ : ∃ P, 2 ^ t = P := ⟨_, rfl⟩
        rw [hP] at hb hor hol HM2
        obtain ⟨M2, hMM⟩ : ∃ m, M ||| P = m := ⟨_, rfl⟩
        rw [hMM] at hor hol HM2
        clear hst hy hP hMM HM hk
        go_wp2_with (go_at_call 103; refine (hb _).mono ?_; rintro e w1 ⟨rfl, rfl⟩)
        go_round
        case rel => exact ⟨t + 1, M2, by omega, by go_num, rfl, HM2, hol⟩
        case measure => simp [intOf]; omega
      · have d1 : decide (k < y) = false := decide_eq_false hk
        rw [if_neg hk] at hst
        have HM2 : Hid (M = mskN (abvS xs k) (t + 1)) := (show _ = _ by rw [hst, HM.out])
        clear hst hy HM hor hol hk
        go_wp2_with fail
        go_round
        case rel => exact ⟨t + 1, M, by omega, by go_num, rfl, HM2, hM⟩
        case measure => simp [intOf]; omega
    · obtain rfl : xs.length = t := by omega
      go_wp2_with fail
      go_ret
      rw [HM.out]
      exact ⟨rfl, rfl⟩
set_option maxRecDepth 100000 in
set_option maxHeartbeats 1600000 in
theorem settle_any (n g k : Nat) (es : List E2) (R U : Nat → Bool) (w : World) (hv : Valid n es) (hR : w.heap[g]? = some (.cells (rowsV n es).toArray 97 (0, 0))) (hRn : ∀ x, R x = true → x < n) (hT : TzAt w) :
    Calls Tryd.prog 124 #[.slice (some ⟨g, 0, none⟩) n n, .int .u64 (mskN R n : Int), .int .u64 (mskN U n : Int), .int .i64 k] w fun e w' => e = .returned (.int .u64 (mskN (setB (adjB es) n R U k) n : Int)) ∧ Below w.heap.size w w' := by
  have hn : n ≤ 64 := by have := hv.2.1; omega
  have hgl := blk_lt hR
  have HRn := Lib.hid hRn
  clear hRn
  go_enter Tryd.func124, Tryd.ntmps124
  go_wp2_with fail
  go_loopw [1] (fun vs wr => ∃ S : Nat → Bool, vs = .int .u64 (mskN S n : Int) ∧ Hid (SettI (adjB es) n R U k S) ∧ Below w.heap.size w wr) (fun vs _ => (bitsL (intOf vs).toNat).length)
  case atStart => exact ⟨R, rfl, settI_start _ _ _ _ _, Below.refl _ _⟩
  case round =>
    obtain ⟨S, rfl, HI, hb⟩ := hrel
    have hSn : ∀ x, S x = true → x < n := fun x hx => HRn.out x (HI.out.sub x hx)
    have HSN := Lib.hid hSn
    have hlist := list_any (mskN S n) (mskN_lt S n hn) wr (hT.below hb)
    rw [mskN_list S n hn] at hlist
    have hzl : (castL (selL n S)).length ≤ 64 := by rw [castL_length]; exact Nat.le_trans (selL_len _ _) hn
    clear hSn
    obtain ⟨SM, hSM⟩ : ∃ M, mskN S n = M := ⟨_, rfl⟩
    have hSMl := mskN_lt S n hn
    have HSM := Lib.hid hSM
    rw [hSM] at hlist hSMl ⊢
    obtain ⟨UM, hUM⟩ : ∃ M, mskN U n = M := ⟨_, rfl⟩
    have hUMl := mskN_lt U n hn
    have HUM := Lib.hid hUM
    rw [hUM] at hUMl ⊢
    have hjo : SM ||| UM = mskN (fun y => S y || U y) n := by rw [← HSM.out, ← HUM.out, mskN_join]
    have hjl := mskN_lt (fun y => S y || U y) n hn
    have hor := bits_or_u64_nat SM UM hSMl hUMl
    rw [hjo] at hor
    clear hSM hUM hjo
    obtain ⟨JM, hJM⟩ : ∃ M, mskN (fun y => S y || U y) n = M := ⟨_, rfl⟩
    have HJM := Lib.hid hJM
    rw [hJM] at hjl hor
    clear hJM
    go_wp2_with fail
    refine hlist.mono ?_
    rintro e w1 ⟨vz, rfl, hownz, hb1⟩
    obtain ⟨az, cz, rfl, hiz, haz⟩ := IntsAt.of_owns hownz (by omega)
    have hb01 := hb.trans (hb1.mono hb.size)
    have HBAD0 : Hid (0 = mskN (fun x => decide (x ∈ (selL n S).take 0) && decide (dgA (adjB es) n (fun y => S y || U y) x < k)) n) := (show _ = _ from ((mskN_zero _ n hn).2 (fun x _ => by simp)).symm)
    clear hownz haz hlist hb1
    go_wp2_with fail
    go_loopw [9, 15] (fun vb vi wr => ∃ (t M : Nat), t ≤ (castL (selL n S)).length ∧ vi = .int .i64 t ∧ vb = .int .u64 M ∧ M < 18446744073709551616 ∧ Hid (M = mskN (fun x => decide (x ∈ (selL n S).take t) && decide (dgA (adjB es) n (fun y => S y || U y) x < k)) n) ∧ w1 = wr) (fun _ vi _ => (castL (selL n S)).length - (intOf vi).toNat)
    case atStart => exact ⟨0, 0, Nat.zero_le _, rfl, rfl, by decide, HBAD0, rfl⟩
    case round =>
      clear HBAD0
      obtain ⟨t, M, ht, rfl, rfl, hM, HM, rfl⟩ := hrel
      by_cases hlt : t < (castL (selL n S)).length
      · have hlt3 : (t : Int) < (castL (selL n S)).length := by omega
        have hts : t < (selL n S).length := by rw [castL_length] at hlt; exact hlt
        have hx : (selL n S)[t]? = some ((selL n S)[t]'hts) := List.getElem?_eq_getElem hts
        obtain ⟨x, hxx⟩ : ∃ x, ((selL n S)[t]'hts) = x := ⟨_, rfl⟩
        rw [hxx] at hx
        have hxS := (selL_mem HSN.out x).1 (List.mem_of_getElem? hx)
        have hxn := HSN.out x hxS
        obtain ⟨b9, o9, z, rfl, hz9, _, _, c0⟩ := hiz.at t hlt
        have hzx : z = x := by
          unfold castL at hz9
          rw [List.getElem?_map, hx] at hz9
          exact (Option.some.inj hz9).symm
        subst hzx
        have hxn3 : (x : Int) < n := by omega
        have hx64 : x < 64 := by omega
        have hRw := blk_below hb01 hgl hR
        have r0 : w1.cell? ⟨g, x, none⟩ = some (.int .u64 (rowN es x : Int)) := by rw [cell_blk hRw, List.getElem?_toArray]; exact rowsV_get n es x hxn
        have hrl := rowN_lt64 hv x
        have hand := bits_and_u64_nat (rowN es x) JM hrl hjl
        have hcnt := fun W => count_any (rowN es x &&& JM) (Nat.lt_of_le_of_lt Nat.and_le_right hjl) W
        have hdg : (bitsL (rowN es x &&& JM)).length = dgA (adjB es) n (fun y => S y || U y) x := by
          rw [← HJM.out]
          exact row_count hv x _ (fun y => S y || U y) (fun y hy => by rw [mskN_bit]; simp [hy])
        rw [hdg] at hcnt
        obtain ⟨DG, hDG⟩ : ∃ d, dgA (adjB es) n (fun y => S y || U y) x = d := ⟨_, rfl⟩
        rw [hDG] at hcnt
        obtain ⟨RX, hRX⟩ : ∃ M, rowN es x = M := ⟨_, rfl⟩
        rw [hRX] at r0 hand hcnt
        obtain ⟨RJ, hRJ⟩ : ∃ M, RX &&& JM = M := ⟨_, rfl⟩
        rw [hRJ] at hand hcnt
        have hbit := fun W => bit_any x hx64 W
        have hob := bits_or_u64_nat M (2 ^ x) hM (pow64 x hx64)
        have hol := orN_lt M x hM hx64
        have htk := take_at _ _ _ hx
        by_cases hk2 : DG < k
        · have d1 : decide ((DG : Int) < (k : Int)) = true := by simpa using hk2
          have d2 : decide (DG < k) = true := by simpa using hk2
          have hM2 : Hid (M ||| 2 ^ x = mskN (fun y => decide (y ∈ (selL n S).take (t + 1)) && decide (dgA (adjB es) n (fun y => S y || U y) y < k)) n) := (show _ = _ by
            rw [HM.out, mskN_or _ n x hxn, htk]
            refine mskN_congr n fun y _ => ?_
            by_cases e : y = x
            · subst e; simp [hDG, hk2]
            · simp [e])
          obtain ⟨P, hP⟩ : ∃ P, 2 ^ x = P := ⟨_, rfl⟩
          rw [hP] at hob hbit hol hM2
          obtain ⟨M2, hMM⟩ : ∃ m, M ||| P = m := ⟨_, rfl⟩
          rw [hMM] at hob hol hM2
          clear hdg hDG hRX hRJ hMM hP hz9 hx hxx htk HM hRw hk2
          go_wp2_with (first
            | (go_at_call 144; refine (hcnt _).mono ?_; rintro e w4 ⟨rfl, rfl⟩)
            | (go_at_call 103; refine (hbit _).mono ?_; rintro e w5 ⟨rfl, rfl⟩))
          go_roundw
          case rel => exact ⟨t + 1, M2, by omega, by go_num, rfl, hol, hM2, by trivial⟩
          case measure => simp [intOf]; omega
        · have d1 : decide ((DG : Int) < (k : Int)) = false := by simpa using hk2
          have d2 : decide (DG < k) = false := by simpa using hk2
          have hM2 : Hid (M = mskN (fun y => decide (y ∈ (selL n S).take (t + 1)) && decide (dgA (adjB es) n (fun y => S y || U y) y < k)) n) := (show _ = _ by
            rw [HM.out, htk]
            refine mskN_congr n fun y _ => ?_
            by_cases e : y = x
            · subst e; simp [hDG, d2]
            · simp [e])
          clear hdg hDG hRX hRJ hz9 hx hxx htk HM hRw hk2 hob hol
          go_wp2_with (first
            | (go_at_call 144; refine (hcnt _).mono ?_; rintro e w4 ⟨rfl, rfl⟩))
          go_roundw
          case rel => exact ⟨t + 1, M, by omega, by go_num, rfl, hM, hM2, by trivial⟩
          case measure => simp [intOf]; omega
      · obtain rfl : (castL (selL n S)).length = t := by omega
        have hbad : M = mskN (fun x => S x && decide (dgA (adjB es) n (fun y => S y || U y) x < k)) n := by
          rw [HM.out, castL_length, List.take_length]
          refine mskN_congr n fun y _ => ?_
          congr 1
          rw [Bool.eq_iff_iff, decide_eq_true_eq, selL_mem HSN.out]
        by_cases h0 : M = 0
        · have hz := (mskN_zero _ n hn).1 (hbad.symm.trans h0)
          have hse : Settle (adjB es) n R U k S := settI_end HI.out (fun x hx => by
            have h1 := hz x (HSN.out x hx)
            rw [hx] at h1
            simp only [Bool.true_and, decide_eq_false_iff_not] at h1
            omega)
          have hres : SM = mskN (setB (adjB es) n R U k) n := by
            rw [← HSM.out]
            exact mskN_congr n fun x _ => settle_one hse (setB_is _ _ _ _ _) x
          have HRES := Lib.hid hres
          subst h0
          clear hbad hres hz HM
          go_wp2_with fail
          go_ret
          rw [HRES.out]
          exact ⟨rfl, hb01⟩
        · have d1 : ((M : Int) == 0) = false := by simp; omega
          have d2 : (M == 0) = false := by simpa using h0
          have hno := u64_andNot_nat SM M hSMl hM
          have hS2 : SM &&& (18446744073709551615 - M) = mskN (fun x => S x && decide (k ≤ dgA (adjB es) n (fun y => S y || U y) x)) n := by
            rw [← HSM.out, hbad, mskN_off _ _ n hn]
            refine mskN_congr n fun y _ => ?_
            by_cases h1 : dgA (adjB es) n (fun y => S y || U y) y < k
            · have h2 : ¬ k ≤ dgA (adjB es) n (fun y => S y || U y) y := by omega
              cases S y <;> simp [h1, h2]
            · have h2 : k ≤ dgA (adjB es) n (fun y => S y || U y) y := by omega
              cases S y <;> simp [h1, h2]
          rw [hS2] at hno
          have hI2 : SettI (adjB es) n R U k (fun x => S x && decide (k ≤ dgA (adjB es) n (fun y => S y || U y) x)) := settI_step HI.out (fun x => by simp)
          have hms : (bitsL (mskN (fun x => S x && decide (k ≤ dgA (adjB es) n (fun y => S y || U y) x)) n)).length < (bitsL SM).length := by
            rw [← HSM.out, mskN_list _ n hn, mskN_list _ n hn, castL_length, castL_length]
            have hx : ∃ x, S x = true ∧ dgA (adjB es) n (fun y => S y || U y) x < k := by
              refine Classical.byContradiction fun hno => h0 ?_
              rw [hbad, mskN_zero _ n hn]
              intro x _
              cases hs : S x with
              | false => rfl
              | true =>
                have : ¬ dgA (adjB es) n (fun y => S y || U y) x < k := fun h => hno ⟨x, hs, h⟩
                simp [this]
            obtain ⟨x, hxs, hxd⟩ := hx
            have h1 := selL_off HSN.out x hxs
            refine Nat.lt_of_le_of_lt ?_ h1
            unfold selL
            refine filter_le_of _ _ _ fun y _ hy => ?_
            simp only [Bool.and_eq_true, decide_eq_true_eq] at hy
            rw [offB_iff]
            exact ⟨hy.1, fun e => by rw [e] at hy; omega⟩
          have HMS := Lib.hid hms
          have HI2 := Lib.hid hI2
          clear hS2 hbad hI2 hms HM h0
          generalize (fun x => S x && decide (k ≤ dgA (adjB es) n (fun y => S y || U y) x)) = S2 at *
          obtain ⟨SM2, hSM2⟩ : ∃ M, mskN S2 n = M := ⟨_, rfl⟩
          have HSM2 := Lib.hid hSM2
          rw [hSM2] at hno HMS
          clear hSM2
          go_wp2_with fail
          go_roundw
          case rel => exact ⟨S2, by rw [HSM2.out], HI2, hb01⟩
          case measure => have := HMS.out; simp only [intOf]; simpa using this
end Go.Proofs.YtkknknehchnccaaDoor
