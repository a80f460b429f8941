/- The contracts of the program's counts of squares. -/
import Derived.Test.YtdiackininlmeaaDoorSqShared
namespace Go.Proofs.YtdiackininlmeaaDoor
open Go.RowKit Go.BigFrame

/-- the squares of node v with the nodes before k opposite -/
def sqN (es : List E2) (n v k : Nat) : Int := sumN (fun u => pairI (cntP (shV es n) v u)) k
/-- the squares of all nodes before v -/
def sqT (es : List E2) (n v : Nat) : Int := sumN (fun u => sqN es n u n) v
def sqV (es : List E2) (n v k : Nat) : List Int := (List.range n).map fun (i : Nat) => if i < v then sqN es n i n else if i = v then sqN es n v k else 0
theorem sqV_length (es : List E2) (n v k : Nat) : (sqV es n v k).length = n := by simp [sqV]
theorem sqV_get (es : List E2) (n v k i : Nat) (hi : i < n) : (sqV es n v k)[i]? = some (if i < v then sqN es n i n else if i = v then sqN es n v k else 0) := by simp [sqV, hi]
theorem sqV_zero (es : List E2) (n : Nat) : sqV es n 0 0 = List.replicate n 0 := by
  apply List.ext_getElem?
  intro i
  by_cases hi : i < n
  · rw [sqV_get _ _ _ _ _ hi, if_neg (by omega), List.getElem?_replicate, if_pos hi]
    split <;> rfl
  · rw [List.getElem?_eq_none (by rw [sqV_length]; omega), List.getElem?_eq_none (by simp; omega)]
theorem sqV_next (es : List E2) (n v : Nat) : sqV es n v n = sqV es n (v + 1) 0 := by
  unfold sqV
  apply List.map_congr_left
  intro i _
  by_cases h1 : i < v
  · rw [if_pos h1, if_pos (by omega)]
  · rw [if_neg h1]
    by_cases h2 : i = v
    · rw [if_pos h2, if_pos (by omega), h2]
    · rw [if_neg h2, if_neg (by omega)]
      split <;> rfl
theorem sqV_step (es : List E2) (n v k : Nat) : (sqV es n v k).set v (sqN es n v k + pairI (cntP (shV es n) v k)) = sqV es n v (k + 1) := by
  apply List.ext_getElem?
  intro i
  by_cases hi : i < n
  · rw [List.getElem?_set, sqV_get _ _ _ _ _ hi, sqV_get _ _ _ _ _ hi, sqV_length]
    by_cases h : v = i
    · subst h; rw [if_pos rfl, if_pos hi, if_neg (by omega), if_pos rfl]; rfl
    · rw [if_neg h]
      by_cases h1 : i < v
      · rw [if_pos h1, if_pos h1]
      · rw [if_neg h1, if_neg h1, if_neg (by omega), if_neg (by omega)]
  · rw [List.getElem?_eq_none (by rw [List.length_set, sqV_length]; omega), List.getElem?_eq_none (by rw [sqV_length]; omega)]
theorem cnt_small (es : List E2) (n : Nat) (hn : n ≤ 64) (a b : Nat) : 0 ≤ cntP (shV es n) a b ∧ cntP (shV es n) a b ≤ 262144 := by
  have h1 := cntP_bd (shV es n) a b
  have h2 := shV_le es n
  omega
theorem sqN_bd (es : List E2) (n : Nat) (hn : n ≤ 64) (v k : Nat) : 0 ≤ sqN es n v k ∧ sqN es n v k ≤ k * 34359738368 :=
  sumN_bd _ 34359738368 k (fun u _ => pairI_bd _ (cnt_small es n hn v u).1 (cnt_small es n hn v u).2)
theorem sqT_bd (es : List E2) (n : Nat) (hn : n ≤ 64) (v : Nat) : 0 ≤ sqT es n v ∧ sqT es n v ≤ v * 2199023255552 :=
  sumN_bd _ 2199023255552 v (fun u _ => by have := sqN_bd es n hn u n; omega)

set_option maxRecDepth 100000 in
set_option maxHeartbeats 1600000 in
theorem counts_any (n : Nat) (a : Option Addr) (cap : Nat) (es : List E2) (w : World) (he : EdgesAt w (.slice a es.length cap) es) (hv : Valid n es) (hT : TzAt w) :
    Calls Tryd.prog 56 #[.agg #[.int .i64 n, .slice a es.length cap]] w fun e w' => ∃ g, e = .returned (.tuple #[.int .i64 (sqT es n n / 4), .slice (some ⟨g, 0, none⟩) n n]) ∧ w.heap.size ≤ g ∧ NumAt w' g (sqV es n n 0) ∧ Below w.heap.size w w' := by
  have hn : n ≤ 64 := by have := hv.2.1; omega
  have hbd0 : Below w.heap.size w (w.alloc (.cells #[.int .i64 n, .slice a es.length cap] 27)) := (Below.refl _ _).alloc (Nat.le_refl _) _
  have hmk := make_ints n (by omega)
  go_enter Tryd.func56, Tryd.ntmps56
  go_wp2_with fail
  refine (shared_any n a cap es _ (he.below hbd0) hv (hT.below hbd0)).mono ?_
  rintro e w1 ⟨g, rfl, hg, hS, hb1⟩
  have b0 : w1.cell? ⟨w.heap.size, 0, none⟩ = some (.int .i64 n) := (hb1.cell (p := ⟨w.heap.size, 0, none⟩) (by simp)).trans (cell_blk (heap_alloc_new _ _))
  have hbw := hbd0.trans (hb1.mono hbd0.size)
  have hgl := hS.lt
  have hgw : w.heap.size ≤ g := Nat.le_trans hbd0.size hg
  clear hb1 hbd0
  go_wp2_with fail
  go_region
  go_wp2_with fail
  clear hmk b0
  have hN0 : NumAt ((w1.alloc (.cells (intsV (List.replicate n 0)).toArray 3)).drew) w1.heap.size (sqV es n 0 0) := by rw [sqV_zero]; exact heap_alloc_new _ _
  have hbx : Below w1.heap.size w1 ((w1.alloc (.cells (intsV (List.replicate n 0)).toArray 3)).drew) := ((Below.refl _ _).alloc (Nat.le_refl _) _).drew
  go_loopw [5, 16] (fun s i wr => ∃ v : Nat, v ≤ n ∧ s = .int .i64 (sqT es n v) ∧ i = .int .i64 v ∧ Below w1.heap.size w1 wr ∧ NumAt wr w1.heap.size (sqV es n v 0)) (fun _ i _ => n - (intOf i).toNat)
  case atStart => exact ⟨0, by omega, rfl, rfl, hbx, hN0⟩
  case round =>
    clear hbx hN0
    obtain ⟨v, hk, rfl, rfl, hb, hN⟩ := hrel
    by_cases hlt : v < n
    · go_wp2_with fail
      obtain ⟨wo, rfl⟩ : ∃ wo : World, wo = wr := ⟨_, rfl⟩
      go_loopw [21] (fun i wr => ∃ k : Nat, k ≤ n ∧ i = .int .i64 k ∧ Below w1.heap.size w1 wr ∧ NumAt wr w1.heap.size (sqV es n v k)) (fun i _ => n - (intOf i).toNat)
      case atStart => exact ⟨0, by omega, rfl, hb, hN⟩
      case round =>
        clear hb hN
        obtain ⟨k, hk2, rfl, hb, hN⟩ := hrel
        by_cases hltk : k < n
        · have c0 := hN.cell v _ (sqV_get _ _ _ _ _ hlt)
          rw [if_neg (by omega), if_pos rfl] at c0
          have f0 : wr.frozen? ⟨w1.heap.size, v, none⟩ = false := free_blk hN
          have t0 := (hS.below hb).cell v k (by omega) (by omega)
          have cs := cnt_small es n hn v k
          have sb := sqN_bd es n hn v k
          have pb := pairI_bd _ cs.1 cs.2
          have HN := Lib.hid (hN.set v (sqN es n v k + pairI (cntP (shV es n) v k)))
          have HS := Lib.hid (sqV_step es n v k)
          clear hN
          generalize cntP (shV es n) v k = c at *
          generalize sqN es n v k = s at *
          have hw : IntKind.i64.wrap (s + pairI c) = s + pairI c := IntWalk.i64_in _ (by omega)
          have hv64 : v < 64 := by omega
          have hk64 : k < 64 := by omega
          go_wp2_with fail
          go_region_with (go_at_call 79; refine (pairs_any c _ cs.1 cs.2).mono ?_; rintro e w2 ⟨rfl, rfl⟩)
          all_goals
            go_wp2_with fail
            go_roundw
            case rel => exact ⟨k + 1, by omega, by go_num, (hb.setCell (p := ⟨w1.heap.size, v, none⟩) (Nat.le_refl _) _).drew, by rw [← HS.out]; exact HN.out⟩
            case measure => simp [intOf]; omega
        · obtain rfl : k = n := by omega
          have c0 := hN.cell v _ (sqV_get _ _ _ _ _ hlt)
          rw [if_neg (by omega), if_pos rfl] at c0
          have sb := sqN_bd es k hn v k
          have tb := sqT_bd es k hn v
          have HT : Hid (sqT es k (v + 1) = sqT es k v + sqN es k v k) := rfl
          have HX := Lib.hid (sqV_next es k v)
          generalize sqT es k v = t at *
          have hw : IntKind.i64.wrap (t + sqN es k v k) = t + sqN es k v k := IntWalk.i64_in _ (by omega)
          go_wp2_with fail
          go_roundw
          case rel => exact ⟨v + 1, by omega, by rw [HT.out], by go_num, hb, by rw [← HX.out]; exact hN⟩
          case measure => simp [intOf]; omega
    · obtain rfl : v = n := by omega
      have tb := sqT_bd es v hn v
      have hq : wrap64 ((sqT es v v).tdiv 4) = sqT es v v / 4 := by
        rw [Int.tdiv_eq_ediv_of_nonneg tb.1]
        unfold wrap64
        omega
      go_wp2_with fail
      go_ret2
      exact ⟨_, rfl, hbw.size, hN, hbw.trans (hb.mono hbw.size)⟩
end Go.Proofs.YtdiackininlmeaaDoor
