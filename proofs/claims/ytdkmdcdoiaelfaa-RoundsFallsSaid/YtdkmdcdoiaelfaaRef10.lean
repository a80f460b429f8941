/- The contracts of the reference's ranges, cores and core numbers. -/
import Derived.Test.YtdkmdcdoiaelfaaCoreP
import Derived.Test.YtdkmdcdoiaelfaaGrFind
namespace Go.Proofs.Ytdkmdcdoiaelfaa
open Go.RowKit Go.BigFrame

set_option maxRecDepth 100000 in
set_option maxHeartbeats 1600000 in
theorem range_any (n : Nat) (w : World) (hn : n ≤ 64) :
    Calls Try.prog 105 #[.int .i64 n] w (IntsNw w (castL (List.range n))) := by
  go_enter Try.func105, Try.ntmps105
  go_wp2_with fail
  go_loopw [3, 4] (fun vo vi wr => ∃ k : Nat, k ≤ n ∧ vi = .int .i64 k ∧ wr.ownsRow w.heap.size 3 1 vo k (intsV (castL (List.range k))) ∧ Below w.heap.size w wr) (fun _ vi _ => n - (intOf vi).toNat)
  case atStart => exact ⟨0, Nat.zero_le _, rfl, World.ownsRow_nil _ _ _ _, Below.refl _ _⟩
  case round =>
    obtain ⟨k, hk, rfl, hown, hb⟩ := hrel
    obtain ⟨ao, co, hvo⟩ := owns_shape hown
    subst hvo
    by_cases hlt : k < n
    · have hlt3 : (k : Int) < n := by omega
      have d1 : decide ((k : Int) < n) = true := decide_eq_true hlt3
      have d2 : decide ((k : Int) < 64) = true := decide_eq_true (by omega)
      have d3 : decide (k < n) = true := decide_eq_true hlt
      have d4 : decide (k < 64) = true := decide_eq_true (by omega)
      have hlx := ints_lit1 wr (k : Int) 3
      have hownA := hown.alloc (.cells #[.int .i64 (k : Int)] 3)
      have hbA := hb.alloc hb.size (.cells #[.int .i64 (k : Int)] 3)
      have hsl : (castL (List.range k)).length = k := by rw [castL_length, List.length_range]
      go_wp2_with (at_builtin; refine wpList_app_ints intsT rfl _ _ rfl w.heap.size (.slice ao k co) _ (castL (List.range k)) [(k : Int)] rfl (by rw [hsl]; exact hownA) rfl hlx (by rw [hsl]; simp; omega) hbA.size ?_; intro v6 w6 hown6 hg6)
      have hl6 : (castL (List.range k) ++ [(k : Int)]).length = k + 1 := by rw [List.length_append, hsl]; rfl
      rw [hl6, ← castL_snoc, ← List.range_succ] at hown6
      go_roundw
      case rel => exact ⟨k + 1, by omega, by go_num, hown6, hbA.grown hg6 hbA.size (fun g e => (hownA.lt g e).1)⟩
      case measure => simp [intOf]; omega
    · obtain rfl : k = n := by omega
      have d1 : decide ((k : Int) < (k : Int)) = false := decide_eq_false (by omega)
      have hsl : (castL (List.range k)).length = k := by rw [castL_length, List.length_range]
      have hp := ints_nw hb (by rw [hsl]; exact hown) (by rw [hsl]; omega)
      go_wp2_with fail
      go_ret
      exact hp
set_option maxRecDepth 100000 in
set_option maxHeartbeats 6400000 in
theorem rcore10_any (n : Nat) (k : Int) (a : Option Addr) (cap : Nat) (es : List E2) (w : World) (he : EdgesAt w (.slice a es.length cap) es) (hv : Valid n es) :
    Calls Try.prog 61 #[.agg #[.int .i64 n, .slice a es.length cap], .int .i64 k] w (IntsNw w (castL (corI es n k))) := by
  have hel : n ≤ 64 := by have := hv.2.1; omega
  have hb0 : Below w.heap.size w (w.alloc (.cells #[.int .i64 n, .slice a es.length cap] 27)) := (Below.refl _ _).alloc (Nat.le_refl _) _
  have hG0 := heap_alloc_new w (.cells #[.int .i64 n, .slice a es.length cap] 27)
  go_enter Try.func61, Try.ntmps61
  have q0 := cell_blk (j := 0) hG0
  go_wp2_with fail
  clear q0
  refine (range_any n _ hel).mono ?_
  rintro e w1 ⟨a1, c1, rfl, hi1, ha1, hb1⟩
  have ha1' : ∀ p, a1 = some p → w.heap.size ≤ p.block := fun p hp => Nat.le_trans hb0.size (ha1 p hp)
  have hb01 := hb0.trans (hb1.mono hb0.size)
  have hG1 := lit_next' hb1 hG0
  have hfull : List.range n = selL n (fun x => decide (x < n)) := by
    unfold selL
    rw [List.filter_eq_self.2]
    intro x hx; simpa using List.mem_range.1 hx
  rw [hfull] at hi1 ⊢
  clear hb0 hb1 hG0 hfull
  go_wp2_with fail
  go_loopw [5, 6] (fun vl va wr => ∃ (S : Nat → Bool) (al : Option Addr) (cl : Nat) (ag : Bool), vl = .slice al (castL (selL n S)).length cl ∧ va = .bool ag ∧ IntsAt wr (.slice al (castL (selL n S)).length cl) (castL (selL n S)) ∧
    Hid (∀ x, S x = true → x < n) ∧ Hid (∀ x, InCore (dgS es n) n k.toNat x → S x = true) ∧ Hid (ag = false → ∀ x, S x = true → k ≤ (dgS es n S x : Int)) ∧ Hid (∀ p, al = some p → w.heap.size ≤ p.block) ∧ Below w1.heap.size w1 wr) (fun vl va _ => if boolV va = true then lenV vl + 1 else 0)
  case atStart => exact ⟨_, a1, c1, true, rfl, rfl, hi1, (show _ from fun x hx => by simpa using hx), (show _ from fun x hx => by simpa using hx.lt), (show _ from fun h => by cases h), ha1', Below.refl _ _⟩
  case round =>
    clear hi1
    obtain ⟨S, al, cl, ag, rfl, rfl, hil, HS, HC, HA, HAL, hb⟩ := hrel
    cases ag with
    | false =>
      have hS := cor_is hv k S HS.out HC.out (HA.out rfl)
      have hbw := hb01.trans (hb.mono hb01.size)
      go_wp2_with fail
      go_ret
      refine ⟨al, cl, ?_, ?_, HAL.out, hbw⟩
      · unfold corI; rw [← hS]; rfl
      · unfold corI; rw [← hS]; exact hil
    | true =>
      have hlS : (castL (selL n S)).length ≤ n := by rw [castL_length]; exact selL_len _ _
      go_wp2_with fail
      obtain ⟨w2, hw2⟩ : ∃ W : World, W = wr := ⟨_, rfl⟩
      rw [← hw2] at hil hb ⊢
      clear hw2 HA
      go_loopw [5, 6, 15] (fun vl va vi wr => ∃ (t : Nat) (R : Nat → Bool) (ar : Option Addr) (cr : Nat) (ag : Bool), t ≤ (castL (selL n S)).length ∧ vi = .int .i64 t ∧ vl = .slice ar (castL (selL n R)).length cr ∧ va = .bool ag ∧ IntsAt wr (.slice ar (castL (selL n R)).length cr) (castL (selL n R)) ∧
        Hid (∀ x, R x = true → S x = true) ∧ Hid (∀ x, InCore (dgS es n) n k.toNat x → R x = true) ∧ Hid (∀ y, y ∈ (selL n S).drop t → R y = true) ∧ Hid (ag = false → R = S ∧ ∀ y, y ∈ (selL n S).take t → k ≤ (dgS es n S y : Int)) ∧ Hid (ag = true → (selL n R).length < (selL n S).length) ∧ Hid (∀ p, ar = some p → w.heap.size ≤ p.block) ∧ Below w2.heap.size w2 wr) (fun _ _ vi _ => (castL (selL n S)).length - (intOf vi).toNat)
      case atStart => exact ⟨0, S, al, cl, false, Nat.zero_le _, rfl, rfl, rfl, hil, (show _ from fun x hx => hx), HC, (show _ from fun y hy => (selL_mem HS.out y).1 hy), (show _ from fun _ => ⟨rfl, fun y hy => by simp at hy⟩), (show _ from fun h => by cases h), HAL, Below.refl _ _⟩
      case round =>
        obtain ⟨t, R, ar, cr, ag, ht, rfl, rfl, rfl, hir, HSub, HCore, HAh, HA0, HA1, HAR, hbr⟩ := hrel
        have hlR : (castL (selL n R)).length ≤ n := by rw [castL_length]; exact selL_len _ _
        by_cases hltt : t < (castL (selL n S)).length
        · have hts : t < (selL n S).length := by rw [castL_length] at hltt; exact hltt
          have hx : (selL n S)[t]? = some ((selL n S)[t]'hts) := List.getElem?_eq_getElem (by rw [castL_length] at hltt; exact hltt)
          obtain ⟨x, hxx⟩ : ∃ x, ((selL n S)[t]'hts) = x := ⟨_, rfl⟩
          rw [hxx] at hx
          have hRx : R x = true := HAh.out x (by rw [drop_at _ _ _ hx]; exact List.mem_cons_self)
          have hxl : x < n := HS.out x (HSub.out x hRx)
          obtain ⟨b9, o9, z, rfl, hz, _, _, c0⟩ := (hil.below hbr).at t hltt
          have hzx : z = x := by
            unfold castL at hz
            rw [List.getElem?_map, hx] at hz
            exact (Option.some.inj hz).symm
          subst hzx
          have hlt3 : (t : Int) < (castL (selL n S)).length := by omega
          have hbw := hb01.trans ((hb.trans (hbr.mono hb.size)).mono hb01.size)
          have hG := lit_next' (hb.trans (hbr.mono hb.size)) hG1
          have g0 : wr.cell? ⟨w.heap.size, 0, none⟩ = some (.int .i64 n) := by rw [cell_blk hG]; rfl
          have g1 : wr.cell? ⟨w.heap.size, 1, none⟩ = some (.slice a es.length cap) := by rw [cell_blk hG]; rfl
          have hwi := dg_meet hv (selL n R) R (fun y => (selL_mem (fun y hy => HS.out y (HSub.out y hy)) y).symm) x
          have HW := Lib.hid hwi
          have hnb := neigh_any (n : Int) a cap es (x : Int) _ (he.below hbw) hv
          have hnl : (neighS es (x : Int)).length ≤ 64 := by
            rw [neigh_eq hv, List.length_map]
            have h := List.length_filter_le (fun y => adjB es x y) (List.range n)
            rw [List.length_range] at h
            exact Nat.le_trans h hel
          unfold IntsPost at hnb
          obtain ⟨nx, hnx⟩ : ∃ l, neighS es (x : Int) = l := ⟨_, rfl⟩
          rw [hnx] at hnb hnl HW
          clear hnx hwi
          have htake : ∀ y, y ∈ (selL n S).take (t + 1) → y ∈ (selL n S).take t ∨ y = x := fun y hy => by
            rw [take_at _ _ _ hx] at hy
            rcases List.mem_append.1 hy with h | h
            · exact .inl h
            · exact .inr (List.mem_singleton.1 h)
          have hdrop : ∀ y, y ∈ (selL n S).drop (t + 1) → R y = true ∧ y ≠ x := fun y hy => ⟨HAh.out y (drop_mem _ _ _ hy), nodup_drop (selL_nodup _ _) t x y hx hy⟩
          have HT := Lib.hid htake
          have HD := Lib.hid hdrop
          clear htake hdrop hx hxx hG hz hts
          by_cases hk : (dgS es n R x : Int) < k
          · have d1 : decide ((dgS es n R x : Int) < k) = true := by simpa using hk
            have hoff := selL_off (fun y hy => HS.out y (HSub.out y hy)) x hRx
            have hms := minus_sel n R x
            have hco := cor_off hv k R HCore.out x hk
            have hle : (selL n R).length ≤ (selL n S).length := by
              cases ag with
              | false => rw [(HA0.out rfl).1]; exact Nat.le_refl _
              | true => exact Nat.le_of_lt (HA1.out rfl)
            have hS2 : Hid (∀ y, offB R x y = true → S y = true) := (show _ from fun y hy => HSub.out y ((offB_iff ..).1 hy).1)
            have hD2 : Hid (∀ y, y ∈ (selL n S).drop (t + 1) → offB R x y = true) := (show _ from fun y hy => (offB_iff ..).2 (HD.out y hy))
            have hA2 : Hid (true = true → (selL n (offB R x)).length < (selL n S).length) := (show _ from fun _ => by omega)
            have HCO := Lib.hid hco
            clear hoff hco hk hle HT HD HA0 HA1
            generalize dgS es n R x = sx at *
            go_wp2_with fail
            refine hnb.mono ?_
            rintro e wn ⟨an, cn, rfl, hin, hbn⟩
            have hmt := meet_any an ar cn cr nx (castL (selL n R)) _ hin (hir.below hbn) (by omega)
            unfold IntsPost at hmt
            obtain ⟨MM, hMM⟩ : ∃ l, meetS nx (castL (selL n R)) = l := ⟨_, rfl⟩
            rw [hMM] at hmt HW
            clear hMM
            go_wp2_with fail
            refine hmt.mono ?_
            rw [HW.out]
            rintro e w3 ⟨am, cm, rfl, -, hb3'⟩
            have hb3 := hbn.trans (hb3'.mono hbn.size)
            clear hbn hb3' hin hmt
            have hir3 := hir.below hb3
            have hlx := ints_lit1 w3 (x : Int) 3
            have hbA := (Below.refl w3.heap.size w3).alloc (Nat.le_refl _) (.cells #[.int .i64 (x : Int)] 3)
            have hmi := minus_any ar (some ⟨w3.heap.size, 0, none⟩) cr 1 (castL (selL n R)) [(x : Int)] _ (hir3.below hbA) hlx (by omega)
            rw [hms] at hmi
            go_wp2_with fail
            refine hmi.mono ?_
            rintro e w4 ⟨a4, c4, rfl, hi4, ha4, hb4⟩
            have ha4' : Hid (∀ p, a4 = some p → w.heap.size ≤ p.block) := (show _ from fun p hp => by have := ha4 p hp; have := hbw.size; have := hb3.size; have := hbA.size; omega)
            have hb34 := hbr.trans ((hb3.trans ((hbA.trans (hb4.mono hbA.size)).mono hb3.size)).mono hbr.size)
            go_wp2_with fail
            go_roundw
            case rel => exact ⟨t + 1, _, a4, c4, true, by omega, by go_num, rfl, rfl, hi4, hS2, HCO, hD2, (show _ from fun h => by cases h), (show _ from fun _ => hA2.out trivial), ha4', hb34⟩
            case measure => simp [intOf]; omega
          · have d1 : decide ((dgS es n R x : Int) < k) = false := by simpa using hk
            have hD2 : Hid (∀ y, y ∈ (selL n S).drop (t + 1) → R y = true) := (show _ from fun y hy => (HD.out y hy).1)
            have hA2 : Hid (ag = false → R = S ∧ ∀ y, y ∈ (selL n S).take (t + 1) → k ≤ (dgS es n S y : Int)) := (show _ from fun h => by
              obtain ⟨h1, h2⟩ := HA0.out h
              refine ⟨h1, fun y hy => ?_⟩
              rcases HT.out y hy with h3 | h3
              · exact h2 y h3
              · subst h3; rw [h1] at hk; omega)
            clear hk HT HD HA0
            generalize dgS es n R x = sx at *
            go_wp2_with fail
            refine hnb.mono ?_
            rintro e wn ⟨an, cn, rfl, hin, hbn⟩
            have hmt := meet_any an ar cn cr nx (castL (selL n R)) _ hin (hir.below hbn) (by omega)
            unfold IntsPost at hmt
            obtain ⟨MM, hMM⟩ : ∃ l, meetS nx (castL (selL n R)) = l := ⟨_, rfl⟩
            rw [hMM] at hmt HW
            clear hMM
            go_wp2_with fail
            refine hmt.mono ?_
            rw [HW.out]
            rintro e w3 ⟨am, cm, rfl, -, hb3'⟩
            have hb3 := hbn.trans (hb3'.mono hbn.size)
            clear hbn hb3' hin hmt
            go_wp2_with fail
            go_roundw
            case rel => exact ⟨t + 1, R, ar, cr, ag, by omega, by go_num, rfl, rfl, (hir.below hb3), HSub, HCore, hD2, hA2, HA1, HAR, hbr.trans (hb3.mono hbr.size)⟩
            case measure => simp [intOf]; omega
        · obtain rfl : t = (castL (selL n S)).length := by omega
          go_wp2_with fail
          go_roundw
          case rel =>
            refine ⟨R, ar, cr, ag, rfl, rfl, hir, (show _ from fun x hx => HS.out x (HSub.out x hx)), HCore, (show _ from fun h x hx => ?_), HAR, hb.trans (hbr.mono hb.size)⟩
            obtain ⟨h1, h2⟩ := HA0.out h
            rw [h1] at hx ⊢
            refine h2 x ?_
            rw [castL_length, List.take_length]
            exact (selL_mem HS.out x).2 hx
          case measure =>
            cases ag with
            | false => simp [boolV]
            | true => have := HA1.out rfl; simp only [boolV, lenV, if_true, castL_length]; omega
/-- what Numbers returns for any graph -/
def corX (n : Int) (es : List E2) : List Int × Int := if checkS n es ≠ 0 then ([], checkS n es) else (corT es n.toNat, 0)
set_option maxRecDepth 100000 in
set_option maxHeartbeats 3200000 in
theorem rnumbers10_any (n : Int) (a : Option Addr) (cap : Nat) (es : List E2) (w : World) (he : EdgesAt w (.slice a es.length cap) es) :
    Calls Try.prog 21 #[.agg #[.int .i64 n, .slice a es.length cap]] w (TPost w (corX n es)) := by
  have hb0 : Below w.heap.size w (w.alloc (.cells #[.int .i64 n, .slice a es.length cap] 27)) := (Below.refl _ _).alloc (Nat.le_refl _) _
  have hG0 := heap_alloc_new w (.cells #[.int .i64 n, .slice a es.length cap] 27)
  have hck := fun W h => check_any n a cap es W h
  unfold TPost corX
  by_cases hC : checkS n es = 0
  case neg =>
    rw [if_pos hC]
    obtain ⟨C, hCC⟩ : ∃ C, checkS n es = C := ⟨_, rfl⟩
    rw [hCC] at hck hC ⊢
    have d1 : (C != 0) = true := by simpa using hC
    have d2 : (C == 0) = false := by simpa using hC
    clear hC hCC
    go_enter Try.func21, Try.ntmps21
    go_wp2_with fail
    refine (hck _ (he.below hb0)).mono ?_
    rintro e w1 ⟨rfl, hb1⟩
    go_wp2_with fail
    go_ret2
    exact ⟨none, 0, rfl, ints_nil _, fun p h => (by cases h), hb0.trans (hb1.mono hb0.size)⟩
  have hv := (valid_iff n es).1 hC
  rw [if_neg (by simpa using hC)]
  rw [hC] at hck
  obtain ⟨n, rfl⟩ := Int.eq_ofNat_of_zero_le hv.1
  rw [Int.toNat_natCast]
  have hel := hv.length_le
  have hn64 := hv.2.1
  have hmk := make_ints n (by omega)
  go_enter Try.func21, Try.ntmps21
  go_wp2_with fail
  refine (hck _ (he.below hb0)).mono ?_
  rintro e w1 ⟨rfl, hb1⟩
  have hb01 := hb0.trans (hb1.mono hb0.size)
  have hG1 := lit_next' hb1 hG0
  have g1 : w1.cell? ⟨w.heap.size, 0, none⟩ = some (.int .i64 n) := by rw [cell_blk hG1]; rfl
  have hF0 : Hid (∀ x, x < n → (0 : Int) = min (corF es n x) (((1 : Nat) : Int) - 1)) := (show _ from fun x hx => by
    obtain ⟨c, hc⟩ := cor_nat es n x hx
    omega)
  clear hck hG0 hb0 hb1 hC
  go_wp2_with fail
  have hN0 : NumAt (w1.alloc (.cells (intsV (List.replicate n 0)).toArray 3)) w1.heap.size (fnL n (fun _ => 0)) := by
    rw [← fnL_zero]; exact heap_alloc_new _ _
  have hbA := (Below.refl w1.heap.size w1).alloc (Nat.le_refl _) (.cells (intsV (List.replicate n 0)).toArray 3)
  obtain ⟨wA, hwA⟩ : ∃ W : World, W = w1.alloc (.cells (intsV (List.replicate n 0)).toArray 3) := ⟨_, rfl⟩
  rw [← hwA] at hN0 hbA ⊢
  obtain ⟨s0, hs0⟩ : ∃ s, w1.heap.size = s := ⟨_, rfl⟩
  have hws : w.heap.size ≤ s0 := by rw [← hs0]; exact hb01.size
  have HS := Lib.hid hs0
  rw [hs0] at hN0 hbA ⊢
  clear hwA hmk g1 hs0
  go_loopw [6] (fun vk wr => ∃ k : Nat, 1 ≤ k ∧ k ≤ 65 ∧ vk = .int .i64 k ∧ (∃ F, NumAt wr s0 (fnL n F) ∧ Hid (∀ x, x < n → F x = min (corF es n x) ((k : Int) - 1))) ∧ Below s0 w1 wr) (fun vk _ => 65 - (intOf vk).toNat)
  case atStart => exact ⟨1, Nat.le_refl _, by omega, rfl, ⟨_, hN0, hF0⟩, hbA⟩
  case round =>
    clear hN0 hF0 hbA
    obtain ⟨k, hk1, hk65, rfl, ⟨F, hN, HF⟩, hb⟩ := hrel
    have hbw : Below w1.heap.size w1 wr := by rw [HS.out]; exact hb
    have hb0w := hb01.trans (hbw.mono hb01.size)
    have hG := lit_next' hbw hG1
    have g0 : wr.cell? ⟨w.heap.size, 0, none⟩ = some (.int .i64 n) := by rw [cell_blk hG]; rfl
    have g1 : wr.cell? ⟨w.heap.size, 1, none⟩ = some (.slice a es.length cap) := by rw [cell_blk hG]; rfl
    by_cases hlt : k < n
    · have hlt3 : (k : Int) < n := by omega
      have htr := rcore10_any n (k : Int) a cap es _ (he.below hb0w) hv
      have hlen : (castL (corI es n k)).length ≤ n := by rw [castL_length]; exact selL_len _ _
      clear hG
      go_wp2_with fail
      refine htr.mono ?_
      rintro e w3 ⟨a3, c3, rfl, hi3, ha3, hb3⟩
      have hq3 : ∀ p, a3 = some p → p.block ≠ s0 := fun p hp => by have := ha3 p hp; have := blk_lt hN; omega
      have hb13 : Below s0 w1 w3 := hb.trans (hb3.mono (by have := hb.size; have := HS.out; omega))
      have hN3 : NumAt w3 _ _ := lit_next' hb3 hN
      have hoff3 : ∀ x, F x = F x := fun _ => rfl
      · have hF1 : Hid (∀ x, x < n → F x = if x ∈ (corI es n k).take 0 then (k : Int) else min (corF es n x) ((k : Int) - 1)) := (show _ from fun x hx => by rw [HF.out x hx]; simp)
        clear hN hoff3 htr HF
        go_wp2_with fail
        go_loopw [27] (fun vi wr => ∃ t : Nat, t ≤ (castL (corI es n k)).length ∧ vi = .int .i64 t ∧ (∃ F, NumAt wr s0 (fnL n F) ∧ Hid (∀ x, x < n → F x = if x ∈ (corI es n k).take t then (k : Int) else min (corF es n x) ((k : Int) - 1))) ∧ w3.grownBy wr (some s0)) (fun vi _ => (castL (corI es n k)).length - (intOf vi).toNat)
        case atStart => exact ⟨0, Nat.zero_le _, rfl, ⟨F, hN3, hF1⟩, grown_refl _ _⟩
        case round =>
          clear hN3 hF1
          obtain ⟨t, ht, rfl, ⟨F, hN, HF⟩, hgr⟩ := hrel
          by_cases hltt : t < (castL (corI es n k)).length
          · have hts : t < (corI es n k).length := by rw [castL_length] at hltt; exact hltt
            have hx : (corI es n k)[t]? = some ((corI es n k)[t]'hts) := List.getElem?_eq_getElem hts
            obtain ⟨x, hxx⟩ : ∃ x, ((corI es n k)[t]'hts) = x := ⟨_, rfl⟩
            rw [hxx] at hx
            have hxl := ((corI_mem es n k x).1 (List.mem_of_getElem? hx)).1
            have hiw := hi3.grown hgr (fun g e n' c' p hp => by cases e; exact hq3 p (Value.slice.inj hp).1)
            obtain ⟨b9, o9, z, rfl, hz, _, _, c0⟩ := hiw.at t hltt
            have hzx : z = x := by
              unfold castL at hz
              rw [List.getElem?_map, hx] at hz
              exact (Option.some.inj hz).symm
            subst hzx
            have hltt3 : (t : Int) < (castL (corI es n k)).length := by omega
            have hxl3 : (x : Int) < n := by omega
            have p0 := numAt_fn hN x hxl
            have pf : ∀ j, wr.frozen? ⟨s0, j, none⟩ = false := fun j => free_blk hN
            have hst := numAt_set hN x (k : Int)
            have hF2 : Hid (∀ y, y < n → (if y = x then (k : Int) else F y) = if y ∈ (corI es n k).take (t + 1) then (k : Int) else min (corF es n y) ((k : Int) - 1)) := (show _ from fun y hy => by
              rw [take_at _ _ _ hx]
              by_cases e : y = x
              · subst e; rw [if_pos rfl, if_pos (by simp)]
              · rw [if_neg e, HF.out y hy]
                simp only [List.mem_append, List.mem_singleton, e, or_false])
            have hgr2 : w3.grownBy (wr.setCell ⟨s0, x, none⟩ (.int .i64 (k : Int))) (some s0) := grown_trans hgr ⟨rfl, rfl, rfl, by simp, fun k _ hk => Below.heap_setCell _ _ _ _ (fun e => hk (by simp [e]))⟩
            clear hN HF hx hxx hts hz hiw
            go_wp2_with fail
            go_roundw
            case rel => exact ⟨t + 1, by omega, by go_num, ⟨_, hst, hF2⟩, hgr2⟩
            case measure => simp [intOf]; omega
          · obtain rfl : t = (castL (corI es n k)).length := by omega
            have hF3 : Hid (∀ x, x < n → F x = min (corF es n x) (((k + 1 : Nat) : Int) - 1)) := (show _ from fun x hx => by
              rw [HF.out x hx, castL_length, List.take_length]
              by_cases h : x ∈ corI es n k
              · rw [if_pos h]
                have := ((corI_mem es n k x).1 h).2
                omega
              · rw [if_neg h]
                rw [corI_mem] at h
                omega)
            have hb14 : Below s0 w1 wr := hb13.grown hgr (by have := hb13.size; have := HS.out; omega) (fun g e => by cases e; exact Nat.le_refl _)
            clear HF hgr
            go_wp2_with fail
            go_roundw
            case rel => exact ⟨k + 1, by omega, by omega, by go_num, ⟨F, hN, hF3⟩, hb14⟩
            case measure => simp [intOf]; omega
    · have hall : fnL n F = corT es n := fnL_congr _ _ _ fun x hx => by
        rw [HF.out x hx]
        have h := cor_lt hv x hx
        show min (corF es n x) _ = corF es n x
        omega
      rw [hall] at hN
      have hl := corT_length es n
      have hi : IntsAt wr (.slice (some ⟨s0, 0, none⟩) (corT es n).length n) (corT es n) := by
        have h := hN.ints (by rw [hl]; omega)
        rw [hl] at h ⊢; exact h
      have hlt3 : ¬ (k : Int) < n := by omega
      have hi' : IntsAt wr (.slice (some ⟨s0, 0, none⟩) n n) (corT es n) := by rw [hl] at hi; exact hi
      clear hN hall hi
      go_wp2_with fail
      go_ret2
      exact ⟨some ⟨s0, 0, none⟩, n, rfl, hi', fun p h => (by cases h; exact hws), hb0w⟩
end Go.Proofs.Ytdkmdcdoiaelfaa
