/- The contracts of the reference's sets and neighbours once more, with what they hand back in new blocks. Printed by wip/mknew.py. -/
import Derived.Test.YtdkmdcdoiaelfaaRef03
import Derived.Test.YtdkmdcdoiaelfaaOfNew
namespace Go.Proofs.Ytdkmdcdoiaelfaa
open Go.RowKit Go.BigFrame
set_option maxRecDepth 100000 in
set_option maxHeartbeats 800000 in
theorem meet_new (a a2 : Option Addr) (cap cap2 : Nat) (xs ys : List Int) (w : World) (hi : IntsAt w (.slice a xs.length cap) xs) (hj : IntsAt w (.slice a2 ys.length cap2) ys) (hn : xs.length ≤ 1073741824) :
    Calls Try.prog 106 #[.slice a xs.length cap, .slice a2 ys.length cap2] w (IntsNew w (meetS xs ys)) := by
  go_enter Try.func106, Try.ntmps106
  go_wp2_with fail
  refine (of_any _ _ xs _ hi hn).mono ?_
  rintro e w1 ⟨a3, cap3, rfl, hi3, hb3⟩
  have hzl := ofS_length xs
  have HM : Hid (meetS xs ys = (ofS xs).filter (fun x => decide (x ∈ ys))) := rfl
  generalize ofS xs = zs at *
  have hj1 := hj.below hb3
  go_wp2_with fail
  go_loopw [5, 11] (fun v i wr => ∃ (k : Nat) (acc : List Int), k ≤ zs.length ∧ i = .int .i64 k ∧ Below w1.heap.size w1 wr ∧ wr.ownsRow w1.heap.size 3 1 v acc.length (intsV acc) ∧ acc.length ≤ k ∧ Hid (meetS xs ys = acc ++ (zs.drop k).filter (fun x => decide (x ∈ ys)))) (fun _ i _ => zs.length - (intOf i).toNat)
  case atStart => exact ⟨0, [], Nat.zero_le _, rfl, Below.refl _ _, World.ownsRow_nil _ _ _ _, by simp, by show _ = _; rw [HM.out]; rfl⟩
  case round =>
    clear HM
    obtain ⟨k, acc, hk, rfl, hb, hown, hal, HR⟩ := hrel
    by_cases hlt : k < zs.length
    · obtain ⟨b, off, y, rfl, _, hd, _, c0⟩ := (hi3.below hb).at k hlt
      have HD := Lib.hid hd
      clear hd
      by_cases hm : y ∈ ys
      · have hm' : decide (y ∈ ys) = true := by simpa using hm
        have HF : Hid (meetS xs ys = (acc ++ [y]) ++ (zs.drop (k + 1)).filter (fun x => decide (x ∈ ys))) := by show _ = _; rw [HR.out, HD.out]; simp [hm]
        clear hm HR HD
        go_wp2_with (first
          | (go_at_call 72; refine (has_any _ _ ys _ _ (hj1.below hb)).mono ?_; rintro e w2 ⟨rfl, rfl⟩)
          | (at_builtin; refine wpList_app_ints intsT rfl _ _ rfl w1.heap.size _ _ acc [y] rfl (hown.alloc _) rfl (ints_lit1 _ _ _) (by simp; omega) (by have := hb.size; simp; omega) ?_; intro v6 w6 hown6 hg6))
        have hb6 := below_app' (hb.alloc hb.size _) (hown.alloc _) hg6
        go_roundw
        case rel => exact ⟨k + 1, acc ++ [y], by omega, by go_num, hb6, hown6, by simp; omega, HF⟩
        case measure => simp [intOf]; omega
      · have hm' : decide (y ∈ ys) = false := by simpa using hm
        have HF : Hid (meetS xs ys = acc ++ (zs.drop (k + 1)).filter (fun x => decide (x ∈ ys))) := by show _ = _; rw [HR.out, HD.out]; simp [hm]
        clear hm HR HD
        go_wp2_with (go_at_call 72; refine (has_any _ _ ys _ _ (hj1.below hb)).mono ?_; rintro e w2 ⟨rfl, rfl⟩)
        go_roundw
        case rel => exact ⟨k + 1, acc, by omega, by go_num, hb, hown, by omega, HF⟩
        case measure => simp [intOf]; omega
    · have HE : Hid (meetS xs ys = acc) := by show _ = _; rw [HR.out, List.drop_of_length_le (by omega)]; simp
      obtain ⟨a4, cap4, hv, hi4, ho4⟩ := IntsAt.of_owns hown (by omega)
      subst hv
      go_wp2
      go_ret
      rw [HE.out]
      exact ⟨_, _, rfl, hi4, hb3.trans (hb.mono hb3.size), fun p hp => Nat.le_trans hb3.size (ho4 p hp)⟩

set_option maxRecDepth 100000 in
set_option maxHeartbeats 1600000 in
theorem neigh_new (n : Int) (a : Option Addr) (cap : Nat) (es : List E2) (v : Int) (w : World) (he : EdgesAt w (.slice a es.length cap) es) (hv : Valid n es) :
    Calls Try.prog 27 #[.agg #[.int .i64 n, .slice a es.length cap], .int .i64 v] w (IntsNew w (neighS es v)) := by
  have hl := hv.length_le
  go_enter Try.func27, Try.ntmps27
  go_wp2_with fail
  refine (check_any n a cap es _ (he.below ((Below.refl _ _).alloc (Nat.le_refl _) _))).mono ?_
  rintro e w1 ⟨rfl, hb1⟩
  rw [(valid_iff n es).2 hv]
  have b1 : w1.cell? ⟨w.heap.size, 1, none⟩ = some (.slice a es.length cap) := (hb1.cell (p := ⟨w.heap.size, 1, none⟩) (by simp)).trans (cell_blk (heap_alloc_new _ _))
  have hbw : Below w.heap.size w w1 := ((Below.refl _ _).alloc (Nat.le_refl _) _).trans (hb1.mono (by simp))
  have he1 := he.below hbw
  clear hb1
  go_wp2_with fail
  clear b1
  go_loopw [5, 14] (fun o i wr => ∃ (k : Nat) (acc : List Int), k ≤ es.length ∧ i = .int .i64 k ∧ Below w1.heap.size w1 wr ∧ wr.ownsRow w1.heap.size 3 1 o acc.length (intsV acc) ∧ acc.length ≤ k * 2 ∧ Hid (es.flatMap (endsS v) = acc ++ (es.drop k).flatMap (endsS v))) (fun _ i _ => es.length - (intOf i).toNat)
  case atStart => exact ⟨0, [], Nat.zero_le _, rfl, Below.refl _ _, World.ownsRow_nil _ _ _ _, by simp, rfl⟩
  case round =>
    obtain ⟨k, acc, hk, rfl, hb, hown, hal, HR⟩ := hrel
    by_cases hlt : k < es.length
    · obtain ⟨b, off, x, y, rfl, hxy, hd, _, c0, c1⟩ := (he1.below hb).at k hlt
      have hin : Ins n (x, y) := hv.2.2.1 _ (List.mem_of_getElem? hxy)
      have HD := Lib.hid hd
      clear hd hxy
      have hz2 : b < wr.heap.size := cell_lt c0
      have hb' := hb.alloc hb.size (.cells #[.int .i64 x, .int .i64 y] 73)
      have hown' := hown.alloc (.cells #[.int .i64 x, .int .i64 y] 73)
      by_cases hx : x = v
      · have hy : ¬ y = v := by unfold Ins at hin; dsimp at hin; omega
        have q1 : (x == v) = true := by simpa using hx
        have q2 : (y == v) = false := by simpa using hy
        have HF : Hid (es.flatMap (endsS v) = (acc ++ [y]) ++ (es.drop (k + 1)).flatMap (endsS v)) := by show _ = _; rw [HR.out, HD.out]; simp [endsS, hx, hy]
        clear hx hy HR HD hin
        go_wp2_with (at_builtin; refine wpList_app_ints intsT rfl _ _ rfl w1.heap.size _ _ acc [y] rfl (hown'.alloc _) rfl (ints_lit1' _ _ (by simp) _ _) (by simp; omega) (by have := hb.size; simp; omega) ?_; intro v6 w6 hown6 hg6; have c6 : w6.cell? ⟨wr.heap.size, 0, none⟩ = some (.int .i64 x) := (by exact hg6.cell (cell_alloc (cell_fresh _ _ _ 0 _ rfl)) (by intro e; have := hown.lt _ e.symm; dsimp at this; omega)); have d6 : w6.cell? ⟨wr.heap.size, 1, none⟩ = some (.int .i64 y) := (by exact hg6.cell (cell_alloc (cell_fresh _ _ _ 1 _ rfl)) (by intro e; have := hown.lt _ e.symm; dsimp at this; omega)))
        have hb6 := below_app' (hb'.alloc hb'.size _) (hown'.alloc _) hg6
        go_roundw
        case rel => exact ⟨k + 1, acc ++ [y], by omega, by go_num, hb6, hown6, by simp; omega, HF⟩
        case measure => simp [intOf]; omega
      by_cases hy : y = v
      · have q1 : (x == v) = false := by simpa using hx
        have q2 : (y == v) = true := by simpa using hy
        have HF : Hid (es.flatMap (endsS v) = (acc ++ [x]) ++ (es.drop (k + 1)).flatMap (endsS v)) := by show _ = _; rw [HR.out, HD.out]; simp [endsS, hx, hy]
        clear hx hy HR HD hin
        go_wp2_with (at_builtin; refine wpList_app_ints intsT rfl _ _ rfl w1.heap.size _ _ acc [x] rfl (hown'.alloc _) rfl (ints_lit1' _ _ (by simp) _ _) (by simp; omega) (by have := hb.size; simp; omega) ?_; intro v6 w6 hown6 hg6; have c6 : w6.cell? ⟨wr.heap.size, 0, none⟩ = some (.int .i64 x) := (by exact hg6.cell (cell_alloc (cell_fresh _ _ _ 0 _ rfl)) (by intro e; have := hown.lt _ e.symm; dsimp at this; omega)); have d6 : w6.cell? ⟨wr.heap.size, 1, none⟩ = some (.int .i64 y) := (by exact hg6.cell (cell_alloc (cell_fresh _ _ _ 1 _ rfl)) (by intro e; have := hown.lt _ e.symm; dsimp at this; omega)))
        have hb6 := below_app' (hb'.alloc hb'.size _) (hown'.alloc _) hg6
        go_roundw
        case rel => exact ⟨k + 1, acc ++ [x], by omega, by go_num, hb6, hown6, by simp; omega, HF⟩
        case measure => simp [intOf]; omega
      · have q1 : (x == v) = false := by simpa using hx
        have q2 : (y == v) = false := by simpa using hy
        have HF : Hid (es.flatMap (endsS v) = acc ++ (es.drop (k + 1)).flatMap (endsS v)) := by show _ = _; rw [HR.out, HD.out]; simp [endsS, hx, hy]
        clear hx hy HR HD hin
        go_wp2
        go_roundw
        case rel => exact ⟨k + 1, acc, by omega, by go_num, hb', hown', by omega, HF⟩
        case measure => simp [intOf]; omega
    · have HE : Hid (neighS es v = ofS acc) := by show _ = _; unfold neighS; rw [HR.out, List.drop_of_length_le (by omega)]; simp
      obtain ⟨a4, cap4, hv4, hi4, _⟩ := IntsAt.of_owns hown (by omega)
      subst hv4
      go_wp2_with (go_at_call 62; refine (of_new _ _ acc _ hi4 (by omega)).mono ?_; rintro e w5 ⟨a5, cap5, rfl, hi5, hb5, ho5⟩)
      go_ret
      rw [HE.out]
      exact ⟨_, _, rfl, hi5, (hbw.trans (hb.mono hbw.size)).trans (hb5.mono (by have := hbw.size; have := hb.size; omega)), fun p hp => by have := ho5 p hp; have := hbw.size; have := hb.size; omega⟩


set_option maxRecDepth 100000 in
set_option maxHeartbeats 800000 in
theorem common_new (n : Int) (a : Option Addr) (cap : Nat) (es : List E2) (u v : Int) (w : World) (he : EdgesAt w (.slice a es.length cap) es) (hv : Valid n es) (huv : u ≠ v) :
    Calls Try.prog 82 #[.agg #[.int .i64 n, .slice a es.length cap], .int .i64 u, .int .i64 v] w (IntsNew w (meetS (neighS es u) (neighS es v))) := by
  have hl := hv.length_le
  have hne : (u == v) = false := by simpa using huv
  go_enter Try.func82, Try.ntmps82
  go_wp2_with fail
  have hw0 : Below w.heap.size w (w.alloc (.cells #[.int .i64 n, .slice a es.length cap] 27)) := (Below.refl _ _).alloc (Nat.le_refl _) _
  have hs : Below (w.heap.size + 1) (w.alloc (.cells #[.int .i64 n, .slice a es.length cap] 27)) (w.alloc (.cells #[.int .i64 n, .slice a es.length cap] 27)).drew := (Below.refl _ _).drew
  have hzs : w.heap.size + 1 ≤ (w.alloc (.cells #[.int .i64 n, .slice a es.length cap] 27)).heap.size := by simp
  go_region_held3 (fun w' => w'.cell? ⟨w.heap.size, 0, none⟩ = some (.int .i64 n) ∧ w'.cell? ⟨w.heap.size, 1, none⟩ = some (.slice a es.length cap) ∧ Below (w.heap.size + 1) (w.alloc (.cells #[.int .i64 n, .slice a es.length cap] 27)) w')
    (exact ⟨cell_new hs 0 _ rfl, cell_new hs 1 _ rfl, hs⟩)
    (first
      | (go_at_call 27; refine (neigh_any n a cap es _ _ (by exact he.below (hw0.trans (hs.mono (by omega)))) hv).mono ?_; rintro e w' ⟨a', cap', rfl, hi', hb'⟩; have hs := hs.trans (hb'.mono (Nat.le_trans hzs hs.size)))
      | (go_at_call 106; refine (meet_new _ _ _ _ (neighS es u) (neighS es v) _ (by exact IntsAt.below (by assumption) (by assumption)) (by assumption) (by have := neighS_length es u; omega)).mono ?_; rintro e w' ⟨a', cap', rfl, hi', hb', ho'⟩; have ho := (fun p hp => Nat.le_trans (Nat.le_trans (Nat.le_trans (Nat.le_succ _) hzs) hs.size) (ho' p hp)); have hs := hs.trans (hb'.mono (Nat.le_trans hzs hs.size))))
  go_wp2
  go_ret
  exact ⟨_, _, rfl, hi', hw0.trans (hs.mono (by omega)), ho⟩

end Go.Proofs.Ytdkmdcdoiaelfaa
