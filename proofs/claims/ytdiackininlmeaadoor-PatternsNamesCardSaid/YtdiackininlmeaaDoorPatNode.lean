/- The contract of the program's counts of the sets with a node. -/
import Derived.Test.YtdiackininlmeaaDoorPatSolve2
namespace Go.Proofs.YtdiackininlmeaaDoor
open Go.RowKit Go.BigFrame

theorem contains_any (a : Option Addr) (cap : Nat) (xs : List Int) (x : Int) (w : World) (hi : IntsAt w (.slice a xs.length cap) xs) :
    Calls Tryd.prog 55 #[.slice a xs.length cap, .int .i64 x] w fun e w' => e = .returned (.bool (decide (0 ≤ idxFrom 0 xs x))) ∧ w = w' := by
  go_enter Tryd.func55, Tryd.ntmps55
  go_wp2_with fail
  refine (index_any _ _ xs x _ hi).mono ?_
  rintro e w1 ⟨rfl, rfl⟩
  go_wp2_with fail
  go_ret
  exact ⟨rfl, rfl⟩

/-- is a node one of four nodes? -/
def phiN (v : Int) (d c b a : Nat) : Bool := decide (0 ≤ idxFrom 0 [(d : Int), (c : Int), (b : Int), (a : Int)] v)

theorem ints_four (w : World) (v1 v2 v3 v4 : Int) (T : TypeId) : IntsAt (w.alloc (.cells #[.int .i64 v1, .int .i64 v2, .int .i64 v3, .int .i64 v4] T)) (.slice (some ⟨w.heap.size, 0, none⟩) 4 4) [v1, v2, v3, v4] := by
  refine ⟨_, 4, rfl, by simp, (fun h => by cases h), by simp, fun i x hi => ⟨w.heap.size, 0, rfl, ?_⟩⟩
  rw [cell_blk (heap_alloc_new _ _), Nat.zero_add]
  have h4 : i < 4 := (List.getElem?_eq_some_iff.1 hi).1
  rcases (by omega : i = 0 ∨ i = 1 ∨ i = 2 ∨ i = 3) with rfl | rfl | rfl | rfl <;> (cases hi; rfl)

theorem node1_any (v1 v2 v3 v4 : Int) (bv : Nat) (v : Int) (w : World) (hc : w.cell? ⟨bv, 0, none⟩ = some (.int .i64 v)) :
    Calls Tryd.prog 54 #[.agg #[.int .i64 v1, .int .i64 v2, .int .i64 v3, .int .i64 v4], .pointer (some ⟨bv, 0, none⟩)] w fun e w' => e = .returned (.bool (decide (0 ≤ idxFrom 0 [v1, v2, v3, v4] v))) ∧ Below w.heap.size w w' := by
  have h4 := ints_four w v1 v2 v3 v4 68
  have hc2 := cell_alloc (o := .cells #[.int .i64 v1, .int .i64 v2, .int .i64 v3, .int .i64 v4] 68) hc
  have hb : Below w.heap.size w (w.alloc (.cells #[.int .i64 v1, .int .i64 v2, .int .i64 v3, .int .i64 v4] 68)) := (Below.refl _ _).alloc (Nat.le_refl _) _
  have hsl : ∀ wz, (Instr.sliceAt 68 (.pointer (some ⟨w.heap.size, 0, none⟩)) none none none).run Tryd.prog wz = .ok (.slice (some ⟨w.heap.size, 0, none⟩) 4 4) wz := fun _ => by kernel_rfl
  go_enter Tryd.func54, Tryd.ntmps54
  go_wp2_with fail
  go_region_with (go_at_call 55; refine (contains_any _ _ [v1, v2, v3, v4] _ _ (h4.below (Below.refl _ _).drew)).mono ?_; rintro e w2 ⟨rfl, rfl⟩)
  go_wp2_with fail
  go_ret
  exact ⟨rfl, hb.drew⟩

set_option maxRecDepth 100000 in
set_option maxHeartbeats 1600000 in
theorem sums_node (v : Int) (bv : Nat) (n : Nat) (a : Option Addr) (cap : Nat) (es : List E2) (w : World) (he : EdgesAt w (.slice a es.length cap) es) (hv : Valid n es) (ht : TabsAt w) (hc : w.cell? ⟨bv, 0, none⟩ = some (.int .i64 v)) :
    Calls Tryd.prog 51 #[.agg #[.int .i64 n, .slice a es.length cap], .func (.func 54) #[] #[.pointer (some ⟨bv, 0, none⟩)]] w (fun e w' => ∃ g, e = .returned (.slice (some ⟨g, 0, none⟩) 11 11) ∧ w.heap.size ≤ g ∧ NumAt w' g (cntV (kA es (phiN v) n)) ∧ Below w.heap.size w w') := by
  have hn : n ≤ 64 := by have := hv.2.1; omega
  have hcl := cell_lt hc
  have HCV := Lib.hid hc
  clear hc
  go_enter Tryd.func51, Tryd.ntmps51
  go_wp2_with fail
  refine (joined_any n a cap es _ (he.below ((Below.refl _ _).alloc (Nat.le_refl _) _)) hv).mono ?_
  rintro e w1 ⟨g, rfl, hT, hgw, hb1⟩
  have b0 : w1.cell? ⟨w.heap.size, 0, none⟩ = some (.int .i64 n) := (hb1.cell (p := ⟨w.heap.size, 0, none⟩) (by simp)).trans (cell_blk (heap_alloc_new _ _))
  have hbw : Below w.heap.size w w1 := ((Below.refl _ _).alloc (Nat.le_refl _) _).trans (hb1.mono (by simp))
  have ht1 := ht.below hbw
  clear hb1
  have hmk := make11
  have hzw : w.heap.size < w1.heap.size := cell_lt b0
  go_wp2_with fail
  clear hmk
  have hgz := hgw
  have hC0 : CntAt (w1.alloc (.cells (intsV (cntV [])).toArray 3)) w1.heap.size (kT es (phiN v) 0 0 0 0) := heap_alloc_new _ _
  have hb0 : Below w.heap.size w (w1.alloc (.cells (intsV (cntV [])).toArray 3)) := hbw.alloc hbw.size _
  have hT0 : TableAt (w1.alloc (.cells (intsV (cntV [])).toArray 3)) g es := by
    obtain ⟨cs, h1, h2⟩ := hT
    exact ⟨cs, (Below.heap_alloc _ _ _ (blk_lt h1)).trans h1, h2⟩
  have hgl : g < w1.heap.size := by obtain ⟨cs, h1, h2⟩ := hT; exact blk_lt h1
  go_loopw [17] (fun i wr => ∃ a : Nat, a ≤ n ∧ i = .int .i64 a ∧ Below w.heap.size w wr ∧ TableAt wr g es ∧ CntAt wr w1.heap.size (kT es (phiN v) a 0 0 0)) (fun i _ => n - (intOf i).toNat)
  case atStart => exact ⟨0, by omega, rfl, hb0, hT0, hC0⟩
  case round =>
    clear hC0 hb0 hT0 hT ht1 hbw
    obtain ⟨a', hka, rfl, hb, hT, hC⟩ := hrel
    by_cases hlt : a' < n
    · go_wp2_with fail
      obtain ⟨wo, rfl⟩ : ∃ wo : World, wo = wr := ⟨_, rfl⟩
      go_loopw [21] (fun i wr => ∃ b : Nat, b ≤ a' ∧ i = .int .i64 b ∧ Below w.heap.size w wr ∧ TableAt wr g es ∧ CntAt wr w1.heap.size (kT es (phiN v) a' b 0 0)) (fun i _ => a' - (intOf i).toNat)
      case atStart => exact ⟨0, by omega, rfl, hb, hT, hC⟩
      case round =>
        clear hb hT hC
        obtain ⟨b', hkb, rfl, hb, hT, hC⟩ := hrel
        by_cases hltb : b' < a'
        · go_wp2_with fail
          obtain ⟨wo, rfl⟩ : ∃ wo : World, wo = wr := ⟨_, rfl⟩
          go_loopw [25] (fun i wr => ∃ c : Nat, c ≤ b' ∧ i = .int .i64 c ∧ Below w.heap.size w wr ∧ TableAt wr g es ∧ CntAt wr w1.heap.size (kT es (phiN v) a' b' c 0)) (fun i _ => b' - (intOf i).toNat)
          case atStart => exact ⟨0, by omega, rfl, hb, hT, hC⟩
          case round =>
            clear hb hT hC
            obtain ⟨c', hkc, rfl, hb, hT, hC⟩ := hrel
            by_cases hltc : c' < b'
            · go_wp2_with fail
              obtain ⟨wo, rfl⟩ : ∃ wo : World, wo = wr := ⟨_, rfl⟩
              go_loopw [29] (fun i wr => ∃ d : Nat, d ≤ c' ∧ i = .int .i64 d ∧ Below w.heap.size w wr ∧ TableAt wr g es ∧ CntAt wr w1.heap.size (kT es (phiN v) a' b' c' d)) (fun i _ => c' - (intOf i).toNat)
              case atStart => exact ⟨0, by omega, rfl, hb, hT, hC⟩
              case round =>
                clear hb hT hC
                obtain ⟨d', hkd, rfl, hb, hT, hC⟩ := hrel
                by_cases hltd : d' < c'
                · go_wp2_with fail
                  refine (node1_any _ _ _ _ bv v _ (cell_alloc ((hb.cell (p := ⟨bv, 0, none⟩) hcl).trans HCV.out))).mono ?_
                  rintro e w2 ⟨rfl, hb2⟩
                  have hph : decide (0 ≤ idxFrom 0 [(d' : Int), (c' : Int), (b' : Int), (a' : Int)] v) = phiN v d' c' b' a' := rfl
                  rw [hph]
                  clear hph
                  have hb02 : Below wr.heap.size wr w2 := ((Below.refl _ _).alloc (Nat.le_refl _) _).trans (hb2.mono (by simp))
                  cases hφ : phiN v d' c' b' a'
                  · have HP := Lib.hid hφ
                    clear hφ
                    have hb22 := hb.trans (hb02.mono hb.size)
                    have hT2 := hT.below hb02
                    have hC2 := hC.below hb02
                    clear hb2
                    go_wp2_with fail
                    go_roundw
                    case rel => exact ⟨d' + 1, by omega, by go_num, hb22, hT2, by rw [kT_d, HP.out, if_neg (by simp), List.append_nil]; exact hC2⟩
                    case measure => simp [intOf]; omega
                  · have HP := Lib.hid hφ
                    clear hφ
                    have s0 := (hb2.cell (p := ⟨wr.heap.size, 0, none⟩) (by simp)).trans (cell_fresh wr _ _ 0 _ rfl)
                    have s1 := (hb2.cell (p := ⟨wr.heap.size, 1, none⟩) (by simp)).trans (cell_fresh wr _ _ 1 _ rfl)
                    have s2 := (hb2.cell (p := ⟨wr.heap.size, 2, none⟩) (by simp)).trans (cell_fresh wr _ _ 2 _ rfl)
                    have s3 := (hb2.cell (p := ⟨wr.heap.size, 3, none⟩) (by simp)).trans (cell_fresh wr _ _ 3 _ rfl)
                    have hbw2 := hb.trans (hb02.mono hb.size)
                    obtain ⟨κ, hκ⟩ := Int.eq_ofNat_of_zero_le (ofKS_bd es d' c' b' a').1
                    have hk11 : κ < 11 := by have := (ofKS_bd es d' c' b' a').2; omega
                    have HK := Lib.hid hκ
                    have hsz2 := hb02.size
                    clear hκ hb2
                    go_wp2_with fail
                    refine (of4_any g es d' c' b' a' _ (by omega) (by omega) (by omega) (by omega) (ht.below hbw2) (hT.below hb02)).mono ?_
                    rintro e w3 ⟨rfl, hb3⟩
                    rw [HK.out]
                    have hb03 := hb02.trans (hb3.mono hb02.size)
                    have hC3 := hC.below hb03
                    have hT3 := hT.below hb03
                    have r0 := hC3.cell κ hk11
                    have r1 : w3.frozen? ⟨w1.heap.size, κ, none⟩ = false := free_blk hC3
                    have hcb := cnt_bd (kT es (phiN v) a' b' c' d') κ
                    have hcl := kT_le es (phiN v) a' b' c' d' (by omega) (by omega) (by omega) (by omega)
                    have HS := Lib.hid (hC3.step κ hk11)
                    clear hb3 s0 s1 s2 s3
                    generalize hcv : ((kT es (phiN v) a' b' c' d').filter (fun x => x == (κ : Int))).length = cv at *
                    have HV := Lib.hid hcv
                    clear hcv
                    go_wp2_with fail
                    go_roundw
                    case rel => exact ⟨d' + 1, by omega, by go_num, (hb.trans (hb03.mono hb.size)).setCell (p := ⟨w1.heap.size, κ, none⟩) (Nat.le_of_lt hzw) _, hT3.set (by omega), by rw [kT_d, if_pos HP.out, HK.out]; exact HS.out⟩
                    case measure => simp [intOf]; omega
                · obtain rfl : d' = c' := by omega
                  go_wp2_with fail
                  go_roundw
                  case rel => exact ⟨d' + 1, by omega, by go_num, hb, hT, by rw [kT_c]; exact hC⟩
                  case measure => simp [intOf]; omega
            · obtain rfl : c' = b' := by omega
              go_wp2_with fail
              go_roundw
              case rel => exact ⟨c' + 1, by omega, by go_num, hb, hT, by rw [kT_b]; exact hC⟩
              case measure => simp [intOf]; omega
        · obtain rfl : b' = a' := by omega
          go_wp2_with fail
          go_roundw
          case rel => exact ⟨b' + 1, by omega, by go_num, hb, hT, by rw [kT_a]; exact hC⟩
          case measure => simp [intOf]; omega
    · obtain rfl : a' = n := by omega
      go_wp2_with fail
      go_ret
      have hK : kT es (phiN v) a' 0 0 0 = kA es (phiN v) a' := by simp [kT, kB, kC, kD]
      rw [hK] at hC
      exact ⟨_, rfl, Nat.le_of_lt hzw, hC, hb⟩
end Go.Proofs.YtdiackininlmeaaDoor
