/- The contracts of slices.Sort at numbers of one's own, and of the h-index of the program. -/
import Derived.Test.YtdkmdcdoiaelfaaGreatHIdx
import Derived.Test.YtdkmdcdoiaelfaaGreatIClone
import Derived.Test.YtdkmdcdoiaelfaaGreatShelf
import Derived.Sort.OwnSortedInts
namespace Go.Proofs.YtdkmdcdoiaelfaaGreat
open Go.RowKit Go.BigFrame Go.Sort

/-- numbers in order -/
def srt (xs : List Int) : List Int := xs.mergeSort fun x y => decide (x ≤ y)
theorem srt_perm (xs : List Int) : (srt xs).Perm xs := List.mergeSort_perm _ _
theorem srt_length (xs : List Int) : (srt xs).length = xs.length := (srt_perm xs).length_eq
theorem srt_asc (xs : List Int) : (srt xs).Pairwise (· ≤ ·) := by
  have := List.pairwise_mergeSort (le := fun x y : Int => decide (x ≤ y)) (by intro a b c h1 h2; simp only [decide_eq_true_eq] at *; omega) (by intro a b; simp only [Bool.or_eq_true, decide_eq_true_eq]; omega) xs
  exact this.imp fun h => of_decide_eq_true h
/-- slices.Sort at a row of one's own -/
theorem sort_own {s : Nat} (v : Value) (xs : List Int) (w : World) (hown : w.ownsRow s 3 1 v xs.length (intsV xs)) (hl : xs.length ≤ 1000000) :
    Calls Tryz.prog 87 #[v] w fun e w' => e = .returned (.tuple #[]) ∧ w'.ownsRow s 3 1 v xs.length (intsV (srt xs)) ∧ w.grownBy w' v.ownBlock := by
  rcases hown.2 with ⟨rfl, h0⟩ | ⟨g, cap, cur, rfl, hbase, hb, h1, h2, h3, h4⟩
  · obtain rfl := List.eq_nil_of_length_eq_zero h0
    refine (Tryz.slices_Sort_int_none none 0 w).mono ?_
    rintro e w' ⟨rfl, rfl⟩
    refine ⟨rfl, ?_, grown_none (grown_of_below (Below.refl _ _))⟩
    have : srt [] = [] := by simp [srt]
    rw [this]; exact hown
  · have hH := holds_of_blockI hb (show cur.toList.take xs.length = xs.map (Value.int .i64) by rw [Nat.mul_one] at h4; exact h4)
    refine (Tryz.slices_Sort_int g 0 cap xs w hH (blk_lt hb) (by omega)).mono ?_
    rintro e w' ⟨rfl, n, os, rfl⟩
    refine ⟨rfl, ownsRow_sortedI (ts := srt xs) (srt_length xs) hbase hb h1 h2 h3, grownBy_sortedI _⟩
set_option maxRecDepth 100000 in
set_option maxHeartbeats 1600000 in
theorem degh_any (a : Option Addr) (cap : Nat) (xs : List Int) (w : World) (hi : IntsAt w (.slice a xs.length cap) xs) (hn : xs.length ≤ 1000000) :
    Calls Tryz.prog 71 #[.slice a xs.length cap] w fun e w' => e = .returned (.int .i64 (hX xs : Nat)) ∧ Below w.heap.size w w' := by
  have hcl := iclone_any a cap xs w hi hn
  have hiff : ∀ k, k ≤ hX xs ↔ k ≤ cntGe (srt xs) k := fun k => by rw [hX_iff, cntGe_perm (srt_perm xs)]
  have hXn := hX_len xs
  obtain ⟨H, hH⟩ : ∃ H, hX xs = H := ⟨_, rfl⟩
  rw [hH] at hiff hXn ⊢
  clear hH
  go_enter Tryz.func71, Tryz.ntmps71
  go_wp2_with fail
  refine hcl.mono ?_
  rintro e w1 ⟨v, rfl, hown, hb1⟩
  have hso := sort_own v xs w1 hown hn
  have hlt := fun k e => (hown.lt k e).1
  clear hown hcl hi
  go_wp2_with fail
  refine hso.mono ?_
  rintro e w2 ⟨rfl, hown2, hg2⟩
  have hb2 := hb1.grown hg2 hb1.size hlt
  obtain ⟨n, hnn⟩ : ∃ n, xs.length = n := ⟨_, rfl⟩
  have hsl := srt_length xs
  have hasc := srt_asc xs
  generalize srt xs = s at *
  rw [hnn] at hsl hown2 hXn
  have hown3 : w2.ownsRow w.heap.size 3 1 v s.length (intsV s) := by rw [hsl]; exact hown2
  obtain ⟨a2, c2, rfl, hi2, -⟩ := IntsAt.of_owns hown3 (by omega)
  rw [hnn] at hn
  have HSL := Lib.hid hsl
  have HIFF := Lib.hid hiff
  have HASC := Lib.hid hasc
  have hsn : s.length ≤ 1000000 := by omega
  have hXs : H ≤ s.length := by omega
  clear hsl hiff hasc hown2 hown3 hnn hso hg2 hlt hb1 hXn hn
  go_wp2_with fail
  go_loopw [3] (fun vh wr => ∃ h : Nat, vh = .int .i64 h ∧ h ≤ H ∧ Below w2.heap.size w2 wr) (fun vh _ => s.length - (intOf vh).toNat)
  case atStart => exact ⟨0, rfl, Nat.zero_le _, Below.refl _ _⟩
  case round =>
    obtain ⟨h, rfl, hh, hb⟩ := hrel
    by_cases hlt : h < s.length
    · have hlt3 : (h : Int) < s.length := by omega
      obtain ⟨b, o, x, rfl, hx, -, -, c0⟩ := (hi2.below hb).at (s.length - 1 - h) (by omega)
      have hst := asc_step HASC.out hlt hx
      have e1 : IntKind.i64.wrap ((s.length : Int) - 1) = (s.length : Int) - 1 := IntWalk.i64_in _ (by omega)
      have e2 : IntKind.i64.wrap ((s.length : Int) - 1 - h) = (s.length : Int) - 1 - h := IntWalk.i64_in _ (by omega)
      have e3 : ((s.length : Int) - 1 - h).toNat = s.length - 1 - h := by omega
      have e4 : (0 : Int) ≤ (s.length : Int) - 1 - h := by omega
      have e5 : (s.length : Int) - 1 - h < s.length := by omega
      by_cases hgt : (h : Int) < x
      · have d1 : decide ((h : Int) < x) = true := by simpa using hgt
        have hh2 : h + 1 ≤ H := (HIFF.out (h + 1)).2 (hst.1 hgt)
        clear hst hx hgt
        go_wp2_with fail
        go_roundw
        case rel => exact ⟨h + 1, by go_num, hh2, hb⟩
        case measure => simp [intOf]; omega
      · have d1 : decide ((h : Int) < x) = false := by simpa using hgt
        have hh2 : H = h := by
          have : ¬ h + 1 ≤ H := fun h1 => hgt (hst.2 ((HIFF.out (h + 1)).1 h1))
          omega
        have HH := Lib.hid hh2
        clear hst hx hgt hh2
        go_wp2_with fail
        go_ret
        rw [HH.out]
        exact ⟨rfl, hb2.trans (hb.mono hb2.size)⟩
    · have hh2 : H = h := by omega
      have d1 : decide (h < s.length) = false := by simp; omega
      have d2 : decide ((h : Int) < (s.length : Int)) = false := by simp; omega
      have HH := Lib.hid hh2
      clear hh2
      go_wp2_with fail
      go_ret
      rw [HH.out]
      exact ⟨rfl, hb2.trans (hb.mono hb2.size)⟩
end Go.Proofs.YtdkmdcdoiaelfaaGreat
