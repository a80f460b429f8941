/- The contracts of the reference's sets and neighbours once more, with what they hand back in new blocks. Printed by wip/mknew.py. -/
import Derived.Test.YtdkmdcdoiaelfaaGreatRef03
import Derived.Test.YtdkmdcdoiaelfaaGreatOfNew
namespace Go.Proofs.YtdkmdcdoiaelfaaGreat
open Go.RowKit Go.BigFrame
set_option maxRecDepth 100000 in
set_option maxHeartbeats 1600000 in
theorem neigh_new (n : Int) (a : Option Addr) (cap : Nat) (es : List E2) (v : Int) (w : World) (he : EdgesAt w (.slice a es.length cap) es) (hv : Valid n es) :
    Calls Tryz.prog 47 #[.agg #[.int .i64 n, .slice a es.length cap], .int .i64 v] w (IntsNew w (neighS es v)) := by
  have hl := hv.length_le
  go_enter Tryz.func47, Tryz.ntmps47
  go_wp2_with fail
  refine (check_any n a cap es _ (he.below ((Below.refl _ _).alloc (Nat.le_refl _) _))).mono ?_
  rintro e w1 ⟨rfl, hb1⟩
  rw [(valid_iff n es).2 hv]
  have b1 : w1.cell? ⟨w.heap.size, 1, none⟩ = some (.slice a es.length cap) := (hb1.cell (p := ⟨w.heap.size, 1, none⟩) (by simp)).trans (cell_blk (heap_alloc_new _ _))
  have hbw : Below w.heap.size w w1 := ((Below.refl _ _).alloc (Nat.le_refl _) _).trans (hb1.mono (by simp))
  have he1 := he.below hbw
  clear hb1
  go_wp2_with fail
  clear b1
  go_loopw [5, 14] (fun o i wr => ∃ (k : Nat) (acc : List Int), k ≤ es.length ∧ i = .int .i64 k ∧ Below w1.heap.size w1 wr ∧ wr.ownsRow w1.heap.size 3 1 o acc.length (intsV acc) ∧ acc.length ≤ k * 2 ∧ Hid (es.flatMap (endsS v) = acc ++ (es.drop k).flatMap (endsS v))) (fun _ i _ => es.length - (intOf i).toNat)
  case atStart => exact ⟨0, [], Nat.zero_le _, rfl, Below.refl _ _, World.ownsRow_nil _ _ _ _, by simp, rfl⟩
  case round =>
    obtain ⟨k, acc, hk, rfl, hb, hown, hal, HR⟩ := hrel
    by_cases hlt : k < es.length
    · obtain ⟨b, off, x, y, rfl, hxy, hd, _, c0, c1⟩ := (he1.below hb).at k hlt
      have hin : Ins n (x, y) := hv.2.2.1 _ (List.mem_of_getElem? hxy)
      have HD := Lib.hid hd
      clear hd hxy
      have hz2 : b < wr.heap.size := cell_lt c0
      have hb' := hb.alloc hb.size (.cells #[.int .i64 x, .int .i64 y] 62)
      have hown' := hown.alloc (.cells #[.int .i64 x, .int .i64 y] 62)
      by_cases hx : x = v
      · have hy : ¬ y = v := by unfold Ins at hin; dsimp at hin; omega
        have q1 : (x == v) = true := by simpa using hx
        have q2 : (y == v) = false := by simpa using hy
        have HF : Hid (es.flatMap (endsS v) = (acc ++ [y]) ++ (es.drop (k + 1)).flatMap (endsS v)) := by show _ = _; rw [HR.out, HD.out]; simp [endsS, hx, hy]
        clear hx hy HR HD hin
        go_wp2_with (at_builtin; refine wpList_app_ints intsT rfl _ _ rfl w1.heap.size _ _ acc [y] rfl (hown'.alloc _) rfl (ints_lit1' _ _ (by simp) _ _) (by simp; omega) (by have := hb.size; simp; omega) ?_; intro v6 w6 hown6 hg6; have c6 : w6.cell? ⟨wr.heap.size, 0, none⟩ = some (.int .i64 x) := (by exact hg6.cell (cell_alloc (cell_fresh _ _ _ 0 _ rfl)) (by intro e; have := hown.lt _ e.symm; dsimp at this; omega)); have d6 : w6.cell? ⟨wr.heap.size, 1, none⟩ = some (.int .i64 y) := (by exact hg6.cell (cell_alloc (cell_fresh _ _ _ 1 _ rfl)) (by intro e; have := hown.lt _ e.symm; dsimp at this; omega)))
        have hb6 := below_app' (hb'.alloc hb'.size _) (hown'.alloc _) hg6
        go_roundw
        case rel => exact ⟨k + 1, acc ++ [y], by omega, by go_num, hb6, hown6, by simp; omega, HF⟩
        case measure => simp [intOf]; omega
      by_cases hy : y = v
      · have q1 : (x == v) = false := by simpa using hx
        have q2 : (y == v) = true := by simpa using hy
        have HF : Hid (es.flatMap (endsS v) = (acc ++ [x]) ++ (es.drop (k + 1)).flatMap (endsS v)) := by show _ = _; rw [HR.out, HD.out]; simp [endsS, hx, hy]
        clear hx hy HR HD hin
        go_wp2_with (at_builtin; refine wpList_app_ints intsT rfl _ _ rfl w1.heap.size _ _ acc [x] rfl (hown'.alloc _) rfl (ints_lit1' _ _ (by simp) _ _) (by simp; omega) (by have := hb.size; simp; omega) ?_; intro v6 w6 hown6 hg6; have c6 : w6.cell? ⟨wr.heap.size, 0, none⟩ = some (.int .i64 x) := (by exact hg6.cell (cell_alloc (cell_fresh _ _ _ 0 _ rfl)) (by intro e; have := hown.lt _ e.symm; dsimp at this; omega)); have d6 : w6.cell? ⟨wr.heap.size, 1, none⟩ = some (.int .i64 y) := (by exact hg6.cell (cell_alloc (cell_fresh _ _ _ 1 _ rfl)) (by intro e; have := hown.lt _ e.symm; dsimp at this; omega)))
        have hb6 := below_app' (hb'.alloc hb'.size _) (hown'.alloc _) hg6
        go_roundw
        case rel => exact ⟨k + 1, acc ++ [x], by omega, by go_num, hb6, hown6, by simp; omega, HF⟩
        case measure => simp [intOf]; omega
      · have q1 : (x == v) = false := by simpa using hx
        have q2 : (y == v) = false := by simpa using hy
        have HF : Hid (es.flatMap (endsS v) = acc ++ (es.drop (k + 1)).flatMap (endsS v)) := by show _ = _; rw [HR.out, HD.out]; simp [endsS, hx, hy]
        clear hx hy HR HD hin
        go_wp2
        go_roundw
        case rel => exact ⟨k + 1, acc, by omega, by go_num, hb', hown', by omega, HF⟩
        case measure => simp [intOf]; omega
    · have HE : Hid (neighS es v = ofS acc) := by show _ = _; unfold neighS; rw [HR.out, List.drop_of_length_le (by omega)]; simp
      obtain ⟨a4, cap4, hv4, hi4, _⟩ := IntsAt.of_owns hown (by omega)
      subst hv4
      go_wp2_with (go_at_call 76; refine (of_new _ _ acc _ hi4 (by omega)).mono ?_; rintro e w5 ⟨a5, cap5, rfl, hi5, hb5, ho5⟩)
      go_ret
      rw [HE.out]
      exact ⟨_, _, rfl, hi5, (hbw.trans (hb.mono hbw.size)).trans (hb5.mono (by have := hbw.size; have := hb.size; omega)), fun p hp => by have := ho5 p hp; have := hbw.size; have := hb.size; omega⟩


end Go.Proofs.YtdkmdcdoiaelfaaGreat
