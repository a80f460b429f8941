/- The contracts of the reference's trusses, and of its truss numbers. The contract of the reference's truss numbers, for any graph. The contract of the reference's order of edges, for any graph. -/
import Derived.Test.YtbkacbbhiecnkaaDoorTrNum
namespace Go.Proofs.YtbkacbbhiecnkaaDoor
open Go.RowKit Go.BigFrame

def lenV : Value → Nat
  | .slice _ n _ => n
  | _ => 0
def boolV : Value → Bool
  | .bool b => b
  | _ => false
theorem drop_mem (l : List Nat) (t y : Nat) (h : y ∈ l.drop (t + 1)) : y ∈ l.drop t := by
  rw [← List.drop_drop] at h
  exact List.mem_of_mem_drop h
theorem nodup_drop {l : List Nat} (hn : l.Nodup) (t x y : Nat) (hx : l[t]? = some x) (h : y ∈ l.drop (t + 1)) : y ≠ x := fun e => by
  rw [e] at h
  have hd : l.drop t = x :: l.drop (t + 1) := drop_at l t x hx
  have h2 : (l.drop t).Nodup := hn.sublist (List.drop_sublist t l)
  rw [hd] at h2
  exact (List.nodup_cons.1 h2).1 h
set_option maxRecDepth 100000 in
set_option maxHeartbeats 6400000 in
theorem rtruss_any (n : Nat) (k : Int) (a : Option Addr) (cap : Nat) (es : List E2) (w : World) (he : EdgesAt w (.slice a es.length cap) es) (hv : Valid n es) :
    Calls Tryd.prog 105 #[.agg #[.int .i64 n, .slice a es.length cap], .int .i64 k] w (IntsNw w (castL (trI es n k))) := by
  have hel := hv.length_le
  have hb0 : Below w.heap.size w (w.alloc (.cells #[.int .i64 n, .slice a es.length cap] 27)) := (Below.refl _ _).alloc (Nat.le_refl _) _
  have hG0 := heap_alloc_new w (.cells #[.int .i64 n, .slice a es.length cap] 27)
  go_enter Tryd.func105, Tryd.ntmps105
  go_wp2_with fail
  refine (rall12_any n a cap es _ (by omega)).mono ?_
  rintro e w1 ⟨a1, c1, rfl, hi1, ha1, hb1⟩
  have ha1' : ∀ p, a1 = some p → w.heap.size ≤ p.block := fun p hp => Nat.le_trans hb0.size (ha1 p hp)
  have hb01 := hb0.trans (hb1.mono hb0.size)
  have hG1 := lit_next' hb1 hG0
  have hfull : List.range es.length = selL es.length (fun x => decide (x < es.length)) := by
    unfold selL
    rw [List.filter_eq_self.2]
    intro x hx; simpa using List.mem_range.1 hx
  rw [hfull] at hi1 ⊢
  clear hb0 hb1 hG0 hfull
  go_wp2_with fail
  go_loopw [5, 6] (fun vl va wr => ∃ (S : Nat → Bool) (al : Option Addr) (cl : Nat) (ag : Bool), vl = .slice al (castL (selL es.length S)).length cl ∧ va = .bool ag ∧ IntsAt wr (.slice al (castL (selL es.length S)).length cl) (castL (selL es.length S)) ∧
    Hid (∀ x, S x = true → x < es.length) ∧ Hid (∀ x, InCore (trS es n) es.length k.toNat x → S x = true) ∧ Hid (ag = false → ∀ x, S x = true → k ≤ (trS es n S x : Int)) ∧ Hid (∀ p, al = some p → w.heap.size ≤ p.block) ∧ Below w1.heap.size w1 wr) (fun vl va _ => if boolV va = true then lenV vl + 1 else 0)
  case atStart => exact ⟨_, a1, c1, true, rfl, rfl, hi1, (show _ from fun x hx => by simpa using hx), (show _ from fun x hx => by simpa using hx.lt), (show _ from fun h => by cases h), ha1', Below.refl _ _⟩
  case round =>
    clear hi1
    obtain ⟨S, al, cl, ag, rfl, rfl, hil, HS, HC, HA, HAL, hb⟩ := hrel
    cases ag with
    | false =>
      have hS := core_is hv k S HS.out HC.out (HA.out rfl)
      have hbw := hb01.trans (hb.mono hb01.size)
      go_wp2_with fail
      go_ret
      refine ⟨al, cl, ?_, ?_, HAL.out, hbw⟩
      · unfold trI; rw [← hS]; rfl
      · unfold trI; rw [← hS]; exact hil
    | true =>
      have hlS : (castL (selL es.length S)).length ≤ es.length := by rw [castL_length]; exact selL_len _ _
      go_wp2_with fail
      obtain ⟨w2, hw2⟩ : ∃ W : World, W = wr := ⟨_, rfl⟩
      rw [← hw2] at hil hb ⊢
      clear hw2 HA
      go_loopw [5, 6, 14] (fun vl va vi wr => ∃ (t : Nat) (R : Nat → Bool) (ar : Option Addr) (cr : Nat) (ag : Bool), t ≤ (castL (selL es.length S)).length ∧ vi = .int .i64 t ∧ vl = .slice ar (castL (selL es.length R)).length cr ∧ va = .bool ag ∧ IntsAt wr (.slice ar (castL (selL es.length R)).length cr) (castL (selL es.length R)) ∧
        Hid (∀ x, R x = true → S x = true) ∧ Hid (∀ x, InCore (trS es n) es.length k.toNat x → R x = true) ∧ Hid (∀ y, y ∈ (selL es.length S).drop t → R y = true) ∧ Hid (ag = false → R = S ∧ ∀ y, y ∈ (selL es.length S).take t → k ≤ (trS es n S y : Int)) ∧ Hid (ag = true → (selL es.length R).length < (selL es.length S).length) ∧ Hid (∀ p, ar = some p → w.heap.size ≤ p.block) ∧ Below w2.heap.size w2 wr) (fun _ _ vi _ => (castL (selL es.length S)).length - (intOf vi).toNat)
      case atStart => exact ⟨0, S, al, cl, false, Nat.zero_le _, rfl, rfl, rfl, hil, (show _ from fun x hx => hx), HC, (show _ from fun y hy => (selL_mem HS.out y).1 hy), (show _ from fun _ => ⟨rfl, fun y hy => by simp at hy⟩), (show _ from fun h => by cases h), HAL, Below.refl _ _⟩
      case round =>
        obtain ⟨t, R, ar, cr, ag, ht, rfl, rfl, rfl, hir, HSub, HCore, HAh, HA0, HA1, HAR, hbr⟩ := hrel
        have hlR : (castL (selL es.length R)).length ≤ es.length := by rw [castL_length]; exact selL_len _ _
        by_cases hltt : t < (castL (selL es.length S)).length
        · have hts : t < (selL es.length S).length := by rw [castL_length] at hltt; exact hltt
          have hx : (selL es.length S)[t]? = some ((selL es.length S)[t]'hts) := List.getElem?_eq_getElem (by rw [castL_length] at hltt; exact hltt)
          obtain ⟨x, hxx⟩ : ∃ x, ((selL es.length S)[t]'hts) = x := ⟨_, rfl⟩
          rw [hxx] at hx
          have hRx : R x = true := HAh.out x (by rw [drop_at _ _ _ hx]; exact List.mem_cons_self)
          have hxl : x < es.length := HS.out x (HSub.out x hRx)
          obtain ⟨b9, o9, z, rfl, hz, _, _, c0⟩ := (hil.below hbr).at t hltt
          have hzx : z = x := by
            unfold castL at hz
            rw [List.getElem?_map, hx] at hz
            exact (Option.some.inj hz).symm
          subst hzx
          have hlt3 : (t : Int) < (castL (selL es.length S)).length := by omega
          have hbw := hb01.trans ((hb.trans (hbr.mono hb.size)).mono hb01.size)
          have hG := lit_next' (hb.trans (hbr.mono hb.size)) hG1
          have g0 : wr.cell? ⟨w.heap.size, 0, none⟩ = some (.int .i64 n) := by rw [cell_blk hG]; rfl
          have g1 : wr.cell? ⟨w.heap.size, 1, none⟩ = some (.slice a es.length cap) := by rw [cell_blk hG]; rfl
          have hwi := rwithin12_any n x a cap es ar cr (castL (selL es.length R)) _ (he.below hbw) hv hxl hir
          rw [wiN_sup es n x (selL es.length R) R (fun y => (selL_mem (fun y hy => HS.out y (HSub.out y hy)) y).symm)] at hwi
          have htake : ∀ y, y ∈ (selL es.length S).take (t + 1) → y ∈ (selL es.length S).take t ∨ y = x := fun y hy => by
            rw [take_at _ _ _ hx] at hy
            rcases List.mem_append.1 hy with h | h
            · exact .inl h
            · exact .inr (List.mem_singleton.1 h)
          have hdrop : ∀ y, y ∈ (selL es.length S).drop (t + 1) → R y = true ∧ y ≠ x := fun y hy => ⟨HAh.out y (drop_mem _ _ _ hy), nodup_drop (selL_nodup _ _) t x y hx hy⟩
          have HT := Lib.hid htake
          have HD := Lib.hid hdrop
          clear htake hdrop hx hxx hG hz hts
          by_cases hk : (trS es n R x : Int) < k
          · have d1 : decide ((trS es n R x : Int) < k) = true := by simpa using hk
            have hoff := selL_off (fun y hy => HS.out y (HSub.out y hy)) x hRx
            have hms := minus_sel es.length R x
            have hco := core_off hv k R HCore.out x hk
            have hle : (selL es.length R).length ≤ (selL es.length S).length := by
              cases ag with
              | false => rw [(HA0.out rfl).1]; exact Nat.le_refl _
              | true => exact Nat.le_of_lt (HA1.out rfl)
            have hS2 : Hid (∀ y, offB R x y = true → S y = true) := (show _ from fun y hy => HSub.out y ((offB_iff ..).1 hy).1)
            have hD2 : Hid (∀ y, y ∈ (selL es.length S).drop (t + 1) → offB R x y = true) := (show _ from fun y hy => (offB_iff ..).2 (HD.out y hy))
            have hA2 : Hid (true = true → (selL es.length (offB R x)).length < (selL es.length S).length) := (show _ from fun _ => by omega)
            have HCO := Lib.hid hco
            clear hoff hco hk hle HT HD HA0 HA1
            generalize trS es n R x = sx at *
            go_wp2_with fail
            refine hwi.mono ?_
            rintro e w3 ⟨rfl, hb3⟩
            have hir3 := hir.below hb3
            have hlx := ints_lit1 w3 (x : Int) 3
            have hbA := (Below.refl w3.heap.size w3).alloc (Nat.le_refl _) (.cells #[.int .i64 (x : Int)] 3)
            have hmi := minus_any ar (some ⟨w3.heap.size, 0, none⟩) cr 1 (castL (selL es.length R)) [(x : Int)] _ (hir3.below hbA) hlx (by omega)
            rw [hms] at hmi
            go_wp2_with fail
            refine hmi.mono ?_
            rintro e w4 ⟨a4, c4, rfl, hi4, ha4, hb4⟩
            have ha4' : Hid (∀ p, a4 = some p → w.heap.size ≤ p.block) := (show _ from fun p hp => by have := ha4 p hp; have := hbw.size; have := hb3.size; have := hbA.size; omega)
            have hb34 := hbr.trans ((hb3.trans ((hbA.trans (hb4.mono hbA.size)).mono hb3.size)).mono hbr.size)
            go_wp2_with fail
            go_roundw
            case rel => exact ⟨t + 1, _, a4, c4, true, by omega, by go_num, rfl, rfl, hi4, hS2, HCO, hD2, (show _ from fun h => by cases h), (show _ from fun _ => hA2.out trivial), ha4', hb34⟩
            case measure => simp [intOf]; omega
          · have d1 : decide ((trS es n R x : Int) < k) = false := by simpa using hk
            have hD2 : Hid (∀ y, y ∈ (selL es.length S).drop (t + 1) → R y = true) := (show _ from fun y hy => (HD.out y hy).1)
            have hA2 : Hid (ag = false → R = S ∧ ∀ y, y ∈ (selL es.length S).take (t + 1) → k ≤ (trS es n S y : Int)) := (show _ from fun h => by
              obtain ⟨h1, h2⟩ := HA0.out h
              refine ⟨h1, fun y hy => ?_⟩
              rcases HT.out y hy with h3 | h3
              · exact h2 y h3
              · subst h3; rw [h1] at hk; omega)
            clear hk HT HD HA0
            generalize trS es n R x = sx at *
            go_wp2_with fail
            refine hwi.mono ?_
            rintro e w3 ⟨rfl, hb3⟩
            go_wp2_with fail
            go_roundw
            case rel => exact ⟨t + 1, R, ar, cr, ag, by omega, by go_num, rfl, rfl, hir.below hb3, HSub, HCore, hD2, hA2, HA1, HAR, hbr.trans (hb3.mono hbr.size)⟩
            case measure => simp [intOf]; omega
        · obtain rfl : t = (castL (selL es.length S)).length := by omega
          go_wp2_with fail
          go_roundw
          case rel =>
            refine ⟨R, ar, cr, ag, rfl, rfl, hir, (show _ from fun x hx => HS.out x (HSub.out x hx)), HCore, (show _ from fun h x hx => ?_), HAR, hb.trans (hbr.mono hb.size)⟩
            obtain ⟨h1, h2⟩ := HA0.out h
            rw [h1] at hx ⊢
            refine h2 x ?_
            rw [castL_length, List.take_length]
            exact (selL_mem HS.out x).2 hx
          case measure =>
            cases ag with
            | false => simp [boolV]
            | true => have := HA1.out rfl; simp only [boolV, lenV, if_true, castL_length]; omega
end Go.Proofs.YtbkacbbhiecnkaaDoor

namespace Go.Proofs.YtbkacbbhiecnkaaDoor
open Go.RowKit Go.BigFrame

theorem trI_mem (es : List E2) (n : Nat) (k : Int) (x : Nat) : x ∈ trI es n k ↔ x < es.length ∧ k ≤ numF es n x := by
  unfold trI
  rw [selL_mem (trB_lt es n k)]
  simp [trB]
set_option maxRecDepth 100000 in
set_option maxHeartbeats 3200000 in
theorem rnumbers12_any (n : Int) (a : Option Addr) (cap : Nat) (es : List E2) (w : World) (he : EdgesAt w (.slice a es.length cap) es) :
    Calls Tryd.prog 49 #[.agg #[.int .i64 n, .slice a es.length cap]] w (TPost w (numX n es)) := by
  have hb0 : Below w.heap.size w (w.alloc (.cells #[.int .i64 n, .slice a es.length cap] 27)) := (Below.refl _ _).alloc (Nat.le_refl _) _
  have hG0 := heap_alloc_new w (.cells #[.int .i64 n, .slice a es.length cap] 27)
  have hck := fun W h => check_any n a cap es W h
  unfold TPost numX
  by_cases hC : checkS n es = 0
  case neg =>
    rw [if_pos hC]
    obtain ⟨C, hCC⟩ : ∃ C, checkS n es = C := ⟨_, rfl⟩
    rw [hCC] at hck hC ⊢
    have d1 : (C != 0) = true := by simpa using hC
    have d2 : (C == 0) = false := by simpa using hC
    clear hC hCC
    go_enter Tryd.func49, Tryd.ntmps49
    go_wp2_with fail
    refine (hck _ (he.below hb0)).mono ?_
    rintro e w1 ⟨rfl, hb1⟩
    go_wp2_with fail
    go_ret2
    exact ⟨none, 0, rfl, ints_nil _, fun p h => (by cases h), hb0.trans (hb1.mono hb0.size)⟩
  have hv := (valid_iff n es).1 hC
  rw [if_neg (by simpa using hC)]
  rw [hC] at hck
  obtain ⟨n, rfl⟩ := Int.eq_ofNat_of_zero_le hv.1
  rw [Int.toNat_natCast]
  have hel := hv.length_le
  have hn64 := hv.2.1
  have hmk := make_ints es.length (by omega)
  go_enter Tryd.func49, Tryd.ntmps49
  go_wp2_with fail
  refine (hck _ (he.below hb0)).mono ?_
  rintro e w1 ⟨rfl, hb1⟩
  have hb01 := hb0.trans (hb1.mono hb0.size)
  have hG1 := lit_next' hb1 hG0
  have g1 : w1.cell? ⟨w.heap.size, 1, none⟩ = some (.slice a es.length cap) := by rw [cell_blk hG1]; rfl
  have hF0 : Hid (∀ x, x < es.length → (0 : Int) = min (numF es n x) (((1 : Nat) : Int) - 1)) := (show _ from fun x hx => by
    obtain ⟨c, hc⟩ := num_nat es n x hx
    omega)
  clear hck hG0 hb0 hb1 hC
  go_wp2_with fail
  have hN0 : NumAt (w1.alloc (.cells (intsV (List.replicate es.length 0)).toArray 3)) w1.heap.size (fnL es.length (fun _ => 0)) := by
    rw [← fnL_zero]; exact heap_alloc_new _ _
  have hbA := (Below.refl w1.heap.size w1).alloc (Nat.le_refl _) (.cells (intsV (List.replicate es.length 0)).toArray 3)
  obtain ⟨wA, hwA⟩ : ∃ W : World, W = w1.alloc (.cells (intsV (List.replicate es.length 0)).toArray 3) := ⟨_, rfl⟩
  rw [← hwA] at hN0 hbA ⊢
  obtain ⟨s0, hs0⟩ : ∃ s, w1.heap.size = s := ⟨_, rfl⟩
  have hws : w.heap.size ≤ s0 := by rw [← hs0]; exact hb01.size
  have HS := Lib.hid hs0
  rw [hs0] at hN0 hbA ⊢
  clear hwA hmk g1 hs0
  go_loopw [6] (fun vk wr => ∃ k : Nat, 1 ≤ k ∧ k ≤ 65 ∧ vk = .int .i64 k ∧ (∃ F, NumAt wr s0 (fnL es.length F) ∧ Hid (∀ x, x < es.length → F x = min (numF es n x) ((k : Int) - 1))) ∧ Below s0 w1 wr) (fun vk _ => 65 - (intOf vk).toNat)
  case atStart => exact ⟨1, Nat.le_refl _, by omega, rfl, ⟨_, hN0, hF0⟩, hbA⟩
  case round =>
    clear hN0 hF0 hbA
    obtain ⟨k, hk1, hk65, rfl, ⟨F, hN, HF⟩, hb⟩ := hrel
    have hbw : Below w1.heap.size w1 wr := by rw [HS.out]; exact hb
    have hb0w := hb01.trans (hbw.mono hb01.size)
    have hG := lit_next' hbw hG1
    have g0 : wr.cell? ⟨w.heap.size, 0, none⟩ = some (.int .i64 n) := by rw [cell_blk hG]; rfl
    have g1 : wr.cell? ⟨w.heap.size, 1, none⟩ = some (.slice a es.length cap) := by rw [cell_blk hG]; rfl
    by_cases hlt : k < n
    · have hlt3 : (k : Int) < n := by omega
      have htr := rtruss_any n (k : Int) a cap es _ (he.below hb0w) hv
      have hlen : (castL (trI es n k)).length ≤ es.length := by rw [castL_length]; exact selL_len _ _
      clear hG
      go_wp2_with fail
      refine htr.mono ?_
      rintro e w3 ⟨a3, c3, rfl, hi3, ha3, hb3⟩
      have hq3 : ∀ p, a3 = some p → p.block ≠ s0 := fun p hp => by have := ha3 p hp; have := blk_lt hN; omega
      have hb13 : Below s0 w1 w3 := hb.trans (hb3.mono (by have := hb.size; have := HS.out; omega))
      have hN3 : NumAt w3 _ _ := lit_next' hb3 hN
      have hoff3 : ∀ x, F x = F x := fun _ => rfl
      by_cases hempty : (castL (trI es n k)).length = 0
      · have d1 : ((castL (trI es n k)).length == 0) = true := by simpa using hempty
        have hall : fnL es.length F = numT es n := fnL_congr _ _ _ fun x hx => by
          rw [HF.out x hx]
          have hnot : x ∉ trI es n k := fun h => by
            rw [castL_length] at hempty
            have := List.length_pos_of_mem h; omega
          rw [trI_mem] at hnot
          show min (numF es n x) _ = numF es n x
          omega
        rw [hall] at hN3
        have hl := numT_length es n
        have hi : IntsAt w3 (.slice (some ⟨s0, 0, none⟩) (numT es n).length es.length) (numT es n) := by
          have h := hN3.ints (by rw [hl]; omega)
          rw [hl] at h ⊢; exact h
        clear hN hall hoff3 htr
        rw [hempty] at *
        go_wp2_with fail
        go_ret2
        exact ⟨some ⟨s0, 0, none⟩, es.length, by rw [hl]; rfl, hi, fun p h => (by cases h; exact hws), hb01.trans ((show Below w.heap.size w1 w3 from hb13.mono hws))⟩
      · have d1 : ((castL (trI es n k)).length == 0) = false := by simpa using hempty
        have d2 : (((castL (trI es n k)).length : Int) == 0) = false := by simp; simpa using hempty
        have hF1 : Hid (∀ x, x < es.length → F x = if x ∈ (trI es n k).take 0 then (k : Int) else min (numF es n x) ((k : Int) - 1)) := (show _ from fun x hx => by rw [HF.out x hx]; simp)
        clear hN hoff3 htr hempty HF
        go_wp2_with fail
        go_loopw [33] (fun vi wr => ∃ t : Nat, t ≤ (castL (trI es n k)).length ∧ vi = .int .i64 t ∧ (∃ F, NumAt wr s0 (fnL es.length F) ∧ Hid (∀ x, x < es.length → F x = if x ∈ (trI es n k).take t then (k : Int) else min (numF es n x) ((k : Int) - 1))) ∧ w3.grownBy wr (some s0)) (fun vi _ => (castL (trI es n k)).length - (intOf vi).toNat)
        case atStart => exact ⟨0, Nat.zero_le _, rfl, ⟨F, hN3, hF1⟩, grown_refl _ _⟩
        case round =>
          clear hN3 hF1
          obtain ⟨t, ht, rfl, ⟨F, hN, HF⟩, hgr⟩ := hrel
          by_cases hltt : t < (castL (trI es n k)).length
          · have hts : t < (trI es n k).length := by rw [castL_length] at hltt; exact hltt
            have hx : (trI es n k)[t]? = some ((trI es n k)[t]'hts) := List.getElem?_eq_getElem hts
            obtain ⟨x, hxx⟩ : ∃ x, ((trI es n k)[t]'hts) = x := ⟨_, rfl⟩
            rw [hxx] at hx
            have hxl := ((trI_mem es n k x).1 (List.mem_of_getElem? hx)).1
            have hiw := hi3.grown hgr (fun g e n' c' p hp => by cases e; exact hq3 p (Value.slice.inj hp).1)
            obtain ⟨b9, o9, z, rfl, hz, _, _, c0⟩ := hiw.at t hltt
            have hzx : z = x := by
              unfold castL at hz
              rw [List.getElem?_map, hx] at hz
              exact (Option.some.inj hz).symm
            subst hzx
            have hltt3 : (t : Int) < (castL (trI es n k)).length := by omega
            have hxl3 : (x : Int) < es.length := by omega
            have p0 := numAt_fn hN x hxl
            have pf : ∀ j, wr.frozen? ⟨s0, j, none⟩ = false := fun j => free_blk hN
            have hst := numAt_set hN x (k : Int)
            have hF2 : Hid (∀ y, y < es.length → (if y = x then (k : Int) else F y) = if y ∈ (trI es n k).take (t + 1) then (k : Int) else min (numF es n y) ((k : Int) - 1)) := (show _ from fun y hy => by
              rw [take_at _ _ _ hx]
              by_cases e : y = x
              · subst e; rw [if_pos rfl, if_pos (by simp)]
              · rw [if_neg e, HF.out y hy]
                simp only [List.mem_append, List.mem_singleton, e, or_false])
            have hgr2 : w3.grownBy (wr.setCell ⟨s0, x, none⟩ (.int .i64 (k : Int))) (some s0) := grown_trans hgr ⟨rfl, rfl, rfl, by simp, fun k _ hk => Below.heap_setCell _ _ _ _ (fun e => hk (by simp [e]))⟩
            clear hN HF hx hxx hts hz hiw
            go_wp2_with fail
            go_roundw
            case rel => exact ⟨t + 1, by omega, by go_num, ⟨_, hst, hF2⟩, hgr2⟩
            case measure => simp [intOf]; omega
          · obtain rfl : t = (castL (trI es n k)).length := by omega
            have hF3 : Hid (∀ x, x < es.length → F x = min (numF es n x) (((k + 1 : Nat) : Int) - 1)) := (show _ from fun x hx => by
              rw [HF.out x hx, castL_length, List.take_length]
              by_cases h : x ∈ trI es n k
              · rw [if_pos h]
                have := ((trI_mem es n k x).1 h).2
                omega
              · rw [if_neg h]
                rw [trI_mem] at h
                omega)
            have hb14 : Below s0 w1 wr := hb13.grown hgr (by have := hb13.size; have := HS.out; omega) (fun g e => by cases e; exact Nat.le_refl _)
            clear HF hgr
            go_wp2_with fail
            go_roundw
            case rel => exact ⟨k + 1, by omega, by omega, by go_num, ⟨F, hN, hF3⟩, hb14⟩
            case measure => simp [intOf]; omega
    · have hall : fnL es.length F = numT es n := fnL_congr _ _ _ fun x hx => by
        rw [HF.out x hx]
        have h := num_lt hv x hx
        show min (numF es n x) _ = numF es n x
        omega
      rw [hall] at hN
      have hl := numT_length es n
      have hi : IntsAt wr (.slice (some ⟨s0, 0, none⟩) (numT es n).length es.length) (numT es n) := by
        have h := hN.ints (by rw [hl]; omega)
        rw [hl] at h ⊢; exact h
      have hlt3 : ¬ (k : Int) < n := by omega
      have hi' : IntsAt wr (.slice (some ⟨s0, 0, none⟩) es.length es.length) (numT es n) := by rw [hl] at hi; exact hi
      clear hN hall hi
      go_wp2_with fail
      go_ret2
      exact ⟨some ⟨s0, 0, none⟩, es.length, rfl, hi', fun p h => (by cases h; exact hws), hb0w⟩
end Go.Proofs.YtbkacbbhiecnkaaDoor

namespace Go.Proofs.YtbkacbbhiecnkaaDoor
open Go.RowKit Go.BigFrame

def leastI (f : Nat → Nat) : Option Nat → Int
  | none => 0
  | some b => f b
theorem left_full (sup : (Nat → Bool) → Nat → Nat) (m : Nat) : leftL m (peelO sup m m) = [] := by
  unfold leftL
  rw [List.filter_eq_nil_iff]
  intro x hx
  obtain ⟨i, _, he⟩ := peel_mem sup m x (List.mem_range.1 hx)
  have := List.mem_of_getElem? he
  rw [restB_iff]
  exact fun h => h.2 this
theorem left_next (m : Nat) (o : List Nat) (b : Nat) : leftL m (o ++ [b]) = selL m (offB (restB m o) b) := by
  unfold leftL selL
  exact List.filter_congr fun x _ => restB_snoc m o b x
set_option maxRecDepth 100000 in
set_option maxHeartbeats 6400000 in
theorem rorder12_any (n : Int) (a : Option Addr) (cap : Nat) (es : List E2) (w : World) (he : EdgesAt w (.slice a es.length cap) es) :
    Calls Tryd.prog 50 #[.agg #[.int .i64 n, .slice a es.length cap]] w (TPost w (ordX n es)) := by
  have hb0 : Below w.heap.size w (w.alloc (.cells #[.int .i64 n, .slice a es.length cap] 27)) := (Below.refl _ _).alloc (Nat.le_refl _) _
  have hG0 := heap_alloc_new w (.cells #[.int .i64 n, .slice a es.length cap] 27)
  have hck := fun W h => check_any n a cap es W h
  unfold TPost ordX
  by_cases hC : checkS n es = 0
  case neg =>
    rw [if_pos hC]
    obtain ⟨C, hCC⟩ : ∃ C, checkS n es = C := ⟨_, rfl⟩
    rw [hCC] at hck hC ⊢
    have d1 : (C != 0) = true := by simpa using hC
    have d2 : (C == 0) = false := by simpa using hC
    clear hC hCC
    go_enter Tryd.func50, Tryd.ntmps50
    go_wp2_with fail
    refine (hck _ (he.below hb0)).mono ?_
    rintro e w1 ⟨rfl, hb1⟩
    go_wp2_with fail
    go_ret2
    exact ⟨none, 0, rfl, ints_nil _, fun p h => (by cases h), hb0.trans (hb1.mono hb0.size)⟩
  have hv := (valid_iff n es).1 hC
  rw [if_neg (by simpa using hC)]
  rw [hC] at hck
  obtain ⟨n, rfl⟩ := Int.eq_ofNat_of_zero_le hv.1
  rw [Int.toNat_natCast]
  have hel := hv.length_le
  go_enter Tryd.func50, Tryd.ntmps50
  go_wp2_with fail
  refine (hck _ (he.below hb0)).mono ?_
  rintro e w1 ⟨rfl, hb1⟩
  have hb01 := hb0.trans (hb1.mono hb0.size)
  have hG1 := lit_next' hb1 hG0
  have g0 : w1.cell? ⟨w.heap.size, 0, none⟩ = some (.int .i64 n) := by rw [cell_blk hG1]; rfl
  have g1 : w1.cell? ⟨w.heap.size, 1, none⟩ = some (.slice a es.length cap) := by rw [cell_blk hG1]; rfl
  clear hck hG0 hb0 hb1 hC
  go_wp2_with fail
  refine (rall12_any n a cap es _ (by omega)).mono ?_
  rintro e w2 ⟨a2, c2, rfl, hi2, -, hb2⟩
  have hfull : List.range es.length = leftL es.length (peelO (trS es n) es.length 0) := by
    unfold leftL
    rw [List.filter_eq_self.2]
    intro x hx
    rw [show peelO (trS es n) es.length 0 = [] from rfl, restB_nil]
    simpa using List.mem_range.1 hx
  rw [hfull] at hi2 ⊢
  have hG2 := lit_next' hb2 hG1
  have hb02 := hb01.trans (hb2.mono hb01.size)
  clear hfull g0 g1 hb01 hG1 hb2
  go_wp2_with fail
  go_loopw [5, 6] (fun vl vo wr => ∃ (j : Nat) (al : Option Addr) (cl : Nat), j ≤ es.length ∧ vl = .slice al (castL (leftL es.length (peelO (trS es n) es.length j))).length cl ∧ IntsAt wr (.slice al (castL (leftL es.length (peelO (trS es n) es.length j))).length cl) (castL (leftL es.length (peelO (trS es n) es.length j))) ∧
    wr.ownsRow w2.heap.size 3 1 vo j (intsV (castL (peelO (trS es n) es.length j))) ∧ Hid (∀ p g, al = some p → vo.ownBlock = some g → p.block ≠ g) ∧ Below w2.heap.size w2 wr) (fun _ vo _ => es.length - lenV vo)
  case atStart => exact ⟨0, a2, c2, Nat.zero_le _, rfl, hi2, World.ownsRow_nil _ _ _ _, (show _ from fun p g _ h => by cases h), Below.refl _ _⟩
  case round =>
    clear hi2
    obtain ⟨j, al, cl, hj, rfl, hil, hown, HOFF, hb⟩ := hrel
    obtain ⟨ao, co, hvo⟩ := owns_shape hown
    subst hvo
    by_cases hlt : j < es.length
    · obtain ⟨b, hbest, hstep, hbr, _⟩ := peelO_step (trS es n) es.length j hlt
      have hol := (peelO_spec (trS es n) es.length j (by omega)).1
      have hne := left_ne es.length (peelO (trS es n) es.length j) (by omega)
      have hnx := left_next es.length (peelO (trS es n) es.length j) b
      have hms := minus_sel es.length (restB es.length (peelO (trS es n) es.length j)) b
      rw [← hnx, ← hstep] at hms
      have hmem : ∀ x, restB es.length (peelO (trS es n) es.length j) x = true ↔ x ∈ leftL es.length (peelO (trS es n) es.length j) := fun x => (leftL_mem _ _ x).symm
      have HMS : Hid (minusS (castL (leftL es.length (peelO (trS es n) es.length j))) [(b : Int)] = castL (leftL es.length (peelO (trS es n) es.length (j + 1)))) := hms
      have hpos : 0 < (castL (leftL es.length (peelO (trS es n) es.length j))).length := by rw [castL_length]; exact List.length_pos_iff.2 hne
      have hple : (castL (leftL es.length (peelO (trS es n) es.length j))).length ≤ es.length := by
        rw [castL_length]
        exact selL_len _ _
      have HSTEP := Lib.hid hstep
      have HBEST := Lib.hid hbest
      have HOL := Lib.hid hol
      have HMEM := Lib.hid hmem
      clear hstep hbest hol hne hnx hms hmem
      obtain ⟨O, hO⟩ : ∃ O, peelO (trS es n) es.length j = O := ⟨_, rfl⟩
      rw [hO] at hil hown hbr hpos hple HMS HSTEP HBEST HOL HMEM ⊢
      clear hO
      obtain ⟨L, hL⟩ : ∃ L, leftL es.length O = L := ⟨_, rfl⟩
      rw [hL] at hil hpos hple HMS HBEST HMEM ⊢
      have hLlt : Hid (∀ x ∈ L, x < es.length) := (show _ from fun x hx => ((restB_iff _ _ _).1 ((HMEM.out x).2 hx)).1)
      clear hL
      obtain ⟨f, hf⟩ : ∃ f, trS es n (restB es.length O) = f := ⟨_, rfl⟩
      have HFF := Lib.hid hf
      rw [hf] at HBEST
      clear hf
      have hlend : ((castL L).length == 0) = false := beq_false_of_ne (by omega)
      have hpos3 : (0 : Int) < (castL L).length := by omega
      go_wp2_with fail
      obtain ⟨wb, hwb⟩ : ∃ W : World, W = wr := ⟨_, rfl⟩
      rw [← hwb] at hil hown hb ⊢
      clear hwb
      go_loopw [7, 8, 24] (fun vb vm vi wr => ∃ (t : Nat) (r : Option Nat), t ≤ (castL L).length ∧ vi = .int .i64 t ∧ vb = .int .i64 (bestI r) ∧ vm = .int .i64 (leastI f r) ∧ Hid (r = bestL f (L.take t)) ∧ Below wb.heap.size wb wr) (fun _ _ vi _ => (castL L).length - (intOf vi).toNat)
      case atStart => exact ⟨0, none, Nat.zero_le _, rfl, rfl, rfl, rfl, Below.refl _ _⟩
      case round =>
        obtain ⟨t, r, ht, rfl, rfl, rfl, HR, hbw⟩ := hrel
        by_cases hltt : t < (castL L).length
        · have hts : t < L.length := by rw [castL_length] at hltt; exact hltt
          have hx : L[t]? = some (L[t]'hts) := List.getElem?_eq_getElem hts
          obtain ⟨x, hxx⟩ : ∃ x, (L[t]'hts) = x := ⟨_, rfl⟩
          rw [hxx] at hx
          have hxl := hLlt.out x (List.mem_of_getElem? hx)
          obtain ⟨b9, o9, z, rfl, hz, _, _, c0⟩ := (hil.below hbw).at t hltt
          have hzx : z = x := by
            unfold castL at hz
            rw [List.getElem?_map, hx] at hz
            exact (Option.some.inj hz).symm
          subst hzx
          have hltt3 : (t : Int) < (castL L).length := by omega
          have hbt := hb02.trans ((hb.trans (hbw.mono hb.size)).mono hb02.size)
          have hG := lit_next' (hb.trans (hbw.mono hb.size)) hG2
          have g0 : wr.cell? ⟨w.heap.size, 0, none⟩ = some (.int .i64 n) := by rw [cell_blk hG]; rfl
          have g1 : wr.cell? ⟨w.heap.size, 1, none⟩ = some (.slice a es.length cap) := by rw [cell_blk hG]; rfl
          have hwi := rwithin12_any n x a cap es (some ⟨b9, o9, none⟩) cl (castL L) _ (he.below hbt) hv hxl (hil.below hbw)
          rw [wiN_sup es n x L (restB es.length O) HMEM.out, HFF.out] at hwi
          have hsn := bestL_snoc f (L.take t) x
          rw [← take_at _ _ _ hx, ← HR.out] at hsn
          have hfx : True := trivial
          clear hx hxx hts hz hG HR hxl
          cases r with
          | none =>
            have hnx : Hid (some x = bestL f (L.take (t + 1))) := hsn.symm
            rw [show bestI none = -1 from rfl]
            clear hsn
            generalize hfx2 : f x = fx at *
            have HFX := Lib.hid hfx2
            clear hfx2
            go_wp2_with fail
            refine hwi.mono ?_
            rintro e w3 ⟨rfl, hb3⟩
            go_wp2_with fail
            go_roundw
            case rel => exact ⟨t + 1, some x, by omega, by go_num, rfl, by rw [← HFX.out]; rfl, hnx, hbw.trans (hb3.mono hbw.size)⟩
            case measure => simp [intOf]; omega
          | some c =>
            have dc : decide ((c : Int) < 0) = false := by simp
            rw [show bestI (some c) = (c : Int) from rfl, show leastI f (some c) = (f c : Int) from rfl]
            by_cases hfl : f x < f c
            · have d1 : decide ((f x : Int) < (f c : Int)) = true := by simpa using hfl
              have d2 : decide (f x < f c) = true := by simpa using hfl
              have hnx : Hid (some x = bestL f (L.take (t + 1))) := by show _ = _; rw [hsn]; simp [stepL, hfl]
              clear hsn hfl
              generalize hfx2 : f x = fx at *
              have HFX := Lib.hid hfx2
              clear hfx2
              generalize f c = fc at *
              go_wp2_with fail
              refine hwi.mono ?_
              rintro e w3 ⟨rfl, hb3⟩
              go_wp2_with fail
              go_roundw
              case rel => exact ⟨t + 1, some x, by omega, by go_num, rfl, by rw [← HFX.out]; rfl, hnx, hbw.trans (hb3.mono hbw.size)⟩
              case measure => simp [intOf]; omega
            · have d1 : decide ((f x : Int) < (f c : Int)) = false := by simpa using hfl
              have d2 : decide (f x < f c) = false := by simpa using hfl
              have hnx : Hid (some c = bestL f (L.take (t + 1))) := by show _ = _; rw [hsn]; simp [stepL, hfl]
              clear hsn hfl
              generalize hfx2 : f c = fc at *
              have HFX := Lib.hid hfx2
              clear hfx2
              generalize f x = fx at *
              go_wp2_with fail
              refine hwi.mono ?_
              rintro e w3 ⟨rfl, hb3⟩
              go_wp2_with fail
              go_roundw
              case rel => exact ⟨t + 1, some c, by omega, by go_num, rfl, by rw [← HFX.out]; rfl, hnx, hbw.trans (hb3.mono hbw.size)⟩
              case measure => simp [intOf]; omega
        · obtain rfl : t = (castL L).length := by omega
          have hr : r = some b := by
            rw [HR.out, castL_length, List.take_length]; exact HBEST.out
          subst hr
          rw [show bestI (some b) = (b : Int) from rfl]
          have hil2 := hil.below hbw
          have hown2 := hown.kept (grown_of_below hbw) (Classical.em _)
          have hb22 := hb.trans (hbw.mono hb.size)
          have hcl : (castL O).length = j := by rw [castL_length]; exact HOL.out
          have hlx := ints_lit1 wr (b : Int) 3
          have hownA := hown2.alloc (.cells #[.int .i64 (b : Int)] 3)
          have hbnA := (Below.refl wr.heap.size wr).alloc (Nat.le_refl _) (.cells #[.int .i64 (b : Int)] 3)
          have hilA := hil2.below hbnA
          have hbA := hb22.trans (hbnA.mono hb22.size)
          clear hil hown hb hbw HR hil2 hown2 hbnA HBEST HFF hLlt HMEM
          generalize leastI f (some b) = lm at *
          go_wp2_with (at_builtin; refine wpList_app_ints intsT rfl _ _ rfl w2.heap.size (.slice ao j co) _ (castL O) [(b : Int)] rfl (by rw [hcl]; exact hownA) rfl hlx (by rw [hcl]; simp; omega) hbA.size ?_; intro v6 w6 hown6 hg6)
          have hil6 := hilA.grown hg6 (fun g e n' c' p hp => HOFF.out p g (Value.slice.inj hp).1 e)
          have hbB := (Below.refl w6.heap.size w6).alloc (Nat.le_refl _) (.cells #[.int .i64 (b : Int)] 3)
          have hlx6 := ints_lit1 w6 (b : Int) 3
          have hb26 : Below w2.heap.size w2 w6 := hbA.grown hg6 hbA.size (fun g e => (hownA.lt g e).1)
          have hmi := minus_any al (some ⟨w6.heap.size, 0, none⟩) cl 1 (castL L) [(b : Int)] _ (hil6.below hbB) hlx6 (by omega)
          rw [HMS.out] at hmi
          refine hmi.mono ?_
          rintro e w8 ⟨a8, c8, rfl, hi8, ha8, hb8⟩
          have hown8 := hown6.kept (grown_of_below (hbB.trans (hb8.mono hbB.size))) (Classical.em _)
          have hlq : (castL O ++ [(b : Int)]).length = j + 1 := by rw [List.length_append, hcl]; rfl
          rw [hlq, ← castL_snoc, ← HSTEP.out] at hown8
          have hoff8 : Hid (∀ p g, a8 = some p → v6.ownBlock = some g → p.block ≠ g) := (show _ from fun p g hp hg => by
            have h1 := ha8 p hp
            have h2 := (hown6.lt g hg).2
            have h3 := hbB.size
            omega)
          have hlen8 : lenV v6 = j + 1 := by
            rw [hlq] at hown6
            obtain ⟨ax, cx, hvx⟩ := owns_shape hown6
            rw [hvx]; rfl
          have HL8 := Lib.hid hlen8
          clear hlen8 hil6 hlx6 hmi hown6 hilA hownA
          go_wp2_with fail
          go_roundw
          case rel => exact ⟨j + 1, a8, c8, by omega, rfl, hi8, hown8, hoff8, hb26.trans ((hbB.trans (hb8.mono hbB.size)).mono hb26.size)⟩
          case measure => rw [HL8.out]; simp only [lenV]; omega
    · obtain rfl : j = es.length := by omega
      have hlf := left_full (trS es n) es.length
      rw [hlf] at hil ⊢
      have hol := ordT_length es n
      obtain ⟨a8, c8, hv8, hi8, hp8⟩ := IntsAt.of_owns (xs := ordT es n) (by rw [hol]; exact hown) (by omega)
      rw [hol] at hv8
      cases hv8
      have hz := hb02.size
      rw [show (castL []).length = 0 from rfl]
      go_wp2_with fail
      go_ret2
      exact ⟨_, _, by rw [hol]; rfl, hi8, fun p h => Nat.le_trans hz (hp8 p h), hb02.trans (hb.mono hz)⟩
end Go.Proofs.YtbkacbbhiecnkaaDoor
