/- The walk of the law on the cycles. -/
import Derived.Test.YtdiackininlmeaaDoorSqCyc
import Derived.Test.YtdiackininlmeaaDoorSqSides
import Derived.Test.YtdiackininlmeaaDoorRef03Add
import Derived.Deep.RegionHeld3
namespace Go.Proofs.YtdiackininlmeaaDoor
open Go.RowKit Go.BigFrame

/-- a graph in block g -/
def GA (n : Int) (es : List E2) (g : Nat) (w : World) : Prop := ∃ a cap, w.heap[g]? = some (.cells #[.int .i64 n, .slice a es.length cap] 27 (0, 0)) ∧ EdgesAt w (.slice a es.length cap) es ∧ ∀ p, a = some p → p.block ≠ g
theorem GA.below {n : Int} {es : List E2} {g : Nat} {w w' : World} (h : GA n es g w) (hb : Below w.heap.size w w') : GA n es g w' := by
  obtain ⟨a, cap, h1, h2, h3⟩ := h
  exact ⟨a, cap, (hb.block _ (blk_lt h1)).trans h1, h2.below hb, h3⟩
set_option maxRecDepth 100000 in
set_option maxHeartbeats 3200000 in
theorem cycles_law (x : Nat) (w : World) (hx : x < 256) (hT : TzAt w) :
    Calls Tryd.prog 7 #[.int .u8 x] w fun e w' => e = .returned (.bool true) ∧ Below w.heap.size w w' := by
  obtain ⟨a, ha⟩ : ∃ a, x % 30 = a := ⟨_, rfl⟩
  have e1 : ((x : Int)) % 30 = (a : Int) := by omega
  obtain ⟨k, hk⟩ : ∃ k, 4 + a = k := ⟨_, rfl⟩
  have e3 : (4 : Int) + (a : Int) = (k : Int) := by omega
  have hk4 : 4 ≤ k := by omega
  have hk34 : k < 34 := by omega
  clear ha hk
  go_enter Tryd.func7, Tryd.ntmps7
  go_wp2_with fail
  clear e1 e3
  have hR0 : GA k (cyR k 0) w.heap.size (w.alloc (.cells #[.int .i64 k, .slice none 0 0] 27)) := ⟨none, 0, heap_alloc_new _ _, EdgesAt.empty none 0 (fun _ => rfl), fun p h => by cases h⟩
  have hb0 : Below w.heap.size w (w.alloc (.cells #[.int .i64 k, .slice none 0 0] 27)) := (Below.refl _ _).alloc (Nat.le_refl _) _
  go_loopw [5] (fun i wr => ∃ u : Nat, i = .int .i64 u ∧ u ≤ k ∧ Below w.heap.size w wr ∧ GA k (cyR k u) w.heap.size wr) (fun i _ => k - (intOf i).toNat)
  case atStart => exact ⟨0, rfl, Nat.zero_le _, hb0, hR0⟩
  case round =>
    clear hR0 hb0
    obtain ⟨u, rfl, huk, hb, hR⟩ := hrel
    by_cases hlt : u < k
    · have HR := Lib.hid hR
      obtain ⟨a1, cap1, hG, hE, hO⟩ := hR
      have hv := cyR_valid k hk4 (by omega) u huk
      have hnew := cyR_new k u hk4 hlt
      have hstep : Hid (insE (cyR k u) (cyA k u) = cyR k (u + 1)) := rfl
      obtain ⟨m, hm⟩ : ∃ m, (u + 1) % k = m := ⟨_, rfl⟩
      have hmk : m < k := by rw [← hm]; exact Nat.mod_lt _ (by omega)
      have hum : ¬ (u : Int) = (m : Int) := by
        rw [mod_next k u hlt] at hm
        split at hm <;> omega
      have hcy : cyA k u = (min (u : Int) (m : Int), max (u : Int) (m : Int)) := by rw [← hm]; rfl
      rw [hcy] at hnew
      have HST : Hid (insE (cyR k u) (min (u : Int) (m : Int), max (u : Int) (m : Int)) = cyR k (u + 1)) := by show _ = _; rw [← hcy]; rfl
      clear hstep hcy
      have hmod : ((u : Int) + 1) % (k : Int) = (m : Int) := by rw [← hm]; simp
      clear hm
      have q0 : wr.cell? ⟨w.heap.size, 0, none⟩ = some (.int .i64 k) := cell_blk hG
      have q1 : wr.cell? ⟨w.heap.size, 1, none⟩ = some (.slice a1 (cyR k u).length cap1) := cell_blk hG
      have hlen := hv.length_le
      have hlenI := insE_length (cyR k u) (min (u : Int) (m : Int), max (u : Int) (m : Int))
      have hA := add_any k a1 cap1 (cyR k u) u m wr.drew (hE.below (Below.refl _ _).drew) hv (by omega) (by omega) (by omega) (by omega) hum hnew
      generalize cyR k u = es at *
      have hw1 : IntKind.i64.wrap ((u : Int) + 1) = (u : Int) + 1 := IntWalk.i64_in _ (by omega)
      have hk1 : ¬ k = 0 := by omega
      have hnn : 0 ≤ (u : Int) + 1 := by omega
      have hGd : wr.drew.heap[w.heap.size]? = some (.cells #[.int .i64 k, .slice a1 es.length cap1] 27 (0, 0)) := hG
      have hbd : Below w.heap.size w wr.drew := hb.drew
      have htm : ((u : Int) + 1).tmod (k : Int) = (m : Int) := by rw [Int.tmod_eq_emod_of_nonneg hnn]; exact hmod
      clear hG hE hb HR
      go_wp2_with fail
      go_region_law (go_simp; go_at_call 29; refine hA.mono ?_; rintro e w5 ⟨a5, cap5, rfl, he5, hb5, ho5⟩; have hG5 := (hb5.block _ (blk_lt hGd)).trans hGd; have s0 := cell_blk (j := 0) hG5; have s1 := cell_blk (j := 1) hG5; have s2 := free_blk (j := 0) hG5; have s3 := free_blk (j := 1) hG5)
      rw [HST.out] at he5
      have hbb := hbd.trans (hb5.mono hbd.size)
      have hg9 : w5.grownBy ((w5.setCell ⟨w.heap.size, 0, none⟩ (.int .i64 k)).setCell ⟨w.heap.size, 1, none⟩ (.slice a5 (insE es (min (u : Int) (m : Int), max (u : Int) (m : Int))).length cap5)) (some w.heap.size) := grown_trans grown_store grown_store
      have hzd := blk_lt hGd
      have hbf := hbb.grown hg9 hbb.size (fun k hk => by cases hk; exact Nat.le_refl _)
      have hfin := set_two (u := .int .i64 k) (v := .slice a5 (insE es (min (u : Int) (m : Int), max (u : Int) (m : Int))).length cap5) hG5
      have HFIN := Lib.hid hfin
      clear hfin s0 s1 s2 s3
      go_wp2_with fail
      go_roundw
      case rel =>
        refine ⟨u + 1, by go_num, by omega, hbf, ?_⟩
        have h := HFIN.out
        rw [HST.out] at h hg9 ⊢
        exact ⟨a5, cap5, h, he5.grown hg9 (fun g e n c p ep => by cases e; cases ep; have := ho5 _ rfl; have hs : wr.drew.heap.size = wr.heap.size := rfl; omega), fun p hp => by have := ho5 p hp; have hs : wr.drew.heap.size = wr.heap.size := rfl; omega⟩
      case measure => simp [intOf]; omega
    · obtain rfl : u = k := by omega
      have hv := cyR_valid u hk4 (by omega) u (Nat.le_refl _)
      obtain ⟨hwed, hsq⟩ := cyc_at u hk4 hk34
      obtain ⟨a1, cap1, hG, hE, hO⟩ := hR
      have HW := Lib.hid hwed
      have HS := Lib.hid hsq
      clear hwed hsq
      have hch := fun h5 : 5 ≤ u => cho_at u h5 hk34
      have hcv := fun h5 : 5 ≤ u => cho_valid u h5 (by omega)
      have hcn := fun h5 : 5 ≤ u => chord_new u h5
      have q0 : wr.cell? ⟨w.heap.size, 0, none⟩ = some (.int .i64 u) := cell_blk hG
      have q1 : wr.cell? ⟨w.heap.size, 1, none⟩ = some (.slice a1 (cyR u u).length cap1) := cell_blk hG
      generalize cyR u u = es at *
      have HCH := Lib.hid hch
      have HCV := Lib.hid hcv
      have HCN := Lib.hid hcn
      clear hch hcv hcn
      by_cases h4 : u = 4
      · rw [if_pos h4] at HS
        have hu4 : ((u : Int) == 4) = true := by simp; omega
        clear h4
        go_wp2_with fail
        refine (scount_any u a1 cap1 es _ hE hv (hT.below hb)).mono ?_
        rintro e w3 ⟨rfl, hb3⟩
        have hb03 := hb.trans (hb3.mono hb.size)
        have he3 := hE.below hb3
        have hG3 := (hb3.block _ (blk_lt hG)).trans hG
        have g0 : w3.cell? ⟨w.heap.size, 0, none⟩ = some (.int .i64 u) := cell_blk hG3
        have g1 : w3.cell? ⟨w.heap.size, 1, none⟩ = some (.slice a1 es.length cap1) := cell_blk hG3
        rw [HS.out]
        clear q0 q1 hb3 hG hE hb
        go_wp2_with fail
        refine (swedges_any u a1 cap1 es _ he3 hv).mono ?_
        rintro e w4 ⟨rfl, hb4⟩
        have hb04 := hb03.trans (hb4.mono hb03.size)
        have he4 := he3.below hb4
        have hG4 := (hb4.block _ (blk_lt hG3)).trans hG3
        have g0 : w4.cell? ⟨w.heap.size, 0, none⟩ = some (.int .i64 u) := cell_blk hG4
        have g1 : w4.cell? ⟨w.heap.size, 1, none⟩ = some (.slice a1 es.length cap1) := cell_blk hG4
        rw [HW.out]
        clear hb4 hb03 he3 hG3
        go_wp2_with fail
        refine (awake30_any _ (hT.below hb04)).mono ?_
        rintro e w7 ⟨rfl, hb7⟩
        have hb07 := hb04.trans (hb7.mono hb04.size)
        clear hb7 hb04
        go_wp2_with fail
        go_ret
        exact ⟨rfl, hb07⟩
      · rw [if_neg h4] at HS
        go_wp2_with fail
        refine (scount_any u a1 cap1 es _ hE hv (hT.below hb)).mono ?_
        rintro e w3 ⟨rfl, hb3⟩
        have hb03 := hb.trans (hb3.mono hb.size)
        have he3 := hE.below hb3
        have hG3 := (hb3.block _ (blk_lt hG)).trans hG
        have g0 : w3.cell? ⟨w.heap.size, 0, none⟩ = some (.int .i64 u) := cell_blk hG3
        have g1 : w3.cell? ⟨w.heap.size, 1, none⟩ = some (.slice a1 es.length cap1) := cell_blk hG3
        rw [HS.out]
        clear q0 q1 hb3 hG hE hb
        go_wp2_with fail
        refine (swedges_any u a1 cap1 es _ he3 hv).mono ?_
        rintro e w4 ⟨rfl, hb4⟩
        have hb04 := hb03.trans (hb4.mono hb03.size)
        have he4 := he3.below hb4
        have hG4 := (hb4.block _ (blk_lt hG3)).trans hG3
        have g0 : w4.cell? ⟨w.heap.size, 0, none⟩ = some (.int .i64 u) := cell_blk hG4
        have g1 : w4.cell? ⟨w.heap.size, 1, none⟩ = some (.slice a1 es.length cap1) := cell_blk hG4
        rw [HW.out]
        clear hb4 hb03 he3 hG3
        have h5 : 5 ≤ u := by omega
        have hu4 : ((u : Int) == 4) = false := by simp; omega
        go_wp2_with fail
        have hadd := add_any u a1 cap1 es 0 3 w4 he4 hv (by omega) (by omega) (by omega) (by omega) (by omega) (HCN.out h5)
        refine hadd.mono ?_
        rintro e w5 ⟨a5, cap5, rfl, he5, hb5, ho5⟩
        have hv5 := HCV.out h5
        have HC5 := Lib.hid (HCH.out h5)
        have hb05 := hb04.trans (hb5.mono hb04.size)
        clear hadd hb5 hb04 he4 hG4 g0 g1
        have e03 : ((min (0 : Int) 3, max (0 : Int) 3) : E2) = (0, 3) := rfl
        rw [e03] at he5 ⊢
        clear e03
        generalize insE es (0, 3) = es5 at *
        by_cases h6 : u = 6
        · rw [if_pos h6] at HC5
          have hu6 : ((u : Int) == 6) = true := by simp; omega
          clear h6
          go_wp2_with fail
          refine (scount_any u a5 cap5 es5 _ (he5.below ((Below.refl _ _).alloc (Nat.le_refl _) _)) hv5 (hT.below (hb05.alloc hb05.size _))).mono ?_
          rintro e w6 ⟨rfl, hb6⟩
          have hb06 := (hb05.alloc hb05.size _).trans (hb6.mono (hb05.alloc hb05.size _).size)
          rw [HC5.out]
          clear hb6 hb05 he5
          go_wp2_with fail
          refine (awake30_any _ (hT.below hb06)).mono ?_
          rintro e w7 ⟨rfl, hb7⟩
          have hb07 := hb06.trans (hb7.mono hb06.size)
          clear hb7 hb06
          go_wp2_with fail
          go_ret
          exact ⟨rfl, hb07⟩
        · rw [if_neg h6] at HC5
          have hu6 : ((u : Int) == 6) = false := by simp; omega
          clear h6
          go_wp2_with fail
          refine (scount_any u a5 cap5 es5 _ (he5.below ((Below.refl _ _).alloc (Nat.le_refl _) _)) hv5 (hT.below (hb05.alloc hb05.size _))).mono ?_
          rintro e w6 ⟨rfl, hb6⟩
          have hb06 := (hb05.alloc hb05.size _).trans (hb6.mono (hb05.alloc hb05.size _).size)
          rw [HC5.out]
          clear hb6 hb05 he5
          go_wp2_with fail
          refine (awake30_any _ (hT.below hb06)).mono ?_
          rintro e w7 ⟨rfl, hb7⟩
          have hb07 := hb06.trans (hb7.mono hb06.size)
          clear hb7 hb06
          go_wp2_with fail
          go_ret
          exact ⟨rfl, hb07⟩
end Go.Proofs.YtdiackininlmeaaDoor
