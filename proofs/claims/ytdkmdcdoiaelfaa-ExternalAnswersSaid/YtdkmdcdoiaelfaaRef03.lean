/- Contracts of the reference's graphs: edge, Find, Neighbours, Common, Degree, for valid graphs. -/
import Derived.Test.YtdkmdcdoiaelfaaRef02
import Derived.Test.YtdkmdcdoiaelfaaRefCheck
import Derived.Deep.RegionHeld3
namespace Go.Proofs.Ytdkmdcdoiaelfaa
open Go.RowKit Go.BigFrame

theorem edge_any (u v : Int) (w : World) :
    Calls Try.prog 146 #[.int .i64 u, .int .i64 v] w fun e w' => e = .returned (.agg #[.int .i64 (min u v), .int .i64 (max u v)]) ∧ Below w.heap.size w w' := by
  go_enter Try.func146, Try.ntmps146
  go_wp2
  refine bodyPost_ret (v := .agg #[.int .i64 (min u v), .int .i64 (max u v)]) (by simp [results, Try.results146, go_sem]) rfl ⟨rfl, (Below.refl _ _).alloc (Nat.le_refl _) _⟩

/-- the index of an edge, -1 if there is none, from place k on -/
def findFrom : Nat → List E2 → E2 → Int
  | _, [], _ => -1
  | k, e :: es, p => if e = p then k else findFrom (k + 1) es p
def findS (es : List E2) (u v : Int) : Int := findFrom 0 es (min u v, max u v)

set_option maxRecDepth 100000 in
set_option maxHeartbeats 800000 in
theorem find_any (n : Int) (a : Option Addr) (cap : Nat) (es : List E2) (u v : Int) (w : World) (he : EdgesAt w (.slice a es.length cap) es) (hv : Valid n es) :
    Calls Try.prog 121 #[.agg #[.int .i64 n, .slice a es.length cap], .int .i64 u, .int .i64 v] w fun e w' => e = .returned (.int .i64 (findS es u v)) ∧ Below w.heap.size w w' := by
  have hl := hv.length_le
  go_enter Try.func121, Try.ntmps121
  go_wp2_with fail
  refine (check_any n a cap es _ (he.below ((Below.refl _ _).alloc (Nat.le_refl _) _))).mono ?_
  rintro e w1 ⟨rfl, hb1⟩
  rw [(valid_iff n es).2 hv]
  have b0 : w1.cell? ⟨w.heap.size, 0, none⟩ = some (.int .i64 n) := (hb1.cell (p := ⟨w.heap.size, 0, none⟩) (by simp)).trans (cell_blk (heap_alloc_new _ _))
  have b1 : w1.cell? ⟨w.heap.size, 1, none⟩ = some (.slice a es.length cap) := (hb1.cell (p := ⟨w.heap.size, 1, none⟩) (by simp)).trans (cell_blk (heap_alloc_new _ _))
  have hbw : Below w.heap.size w w1 := ((Below.refl _ _).alloc (Nat.le_refl _) _).trans (hb1.mono (by simp))
  have he1 := he.below hbw
  clear hb1
  go_wp2_with fail
  clear b0 b1
  go_loopw [15] (fun i wr => ∃ k : Nat, k ≤ es.length ∧ i = .int .i64 k ∧ Below w1.heap.size w1 wr ∧ Hid (findS es u v = findFrom k (es.drop k) (min u v, max u v))) (fun i _ => es.length - (intOf i).toNat)
  case atStart => exact ⟨0, Nat.zero_le _, rfl, Below.refl _ _, rfl⟩
  case round =>
    obtain ⟨k, hk, rfl, hb, HR⟩ := hrel
    by_cases hlt : k < es.length
    · obtain ⟨b, off, x, y, rfl, _, hd, _, c0, c1⟩ := (he1.below hb).at k hlt
      have HD := Lib.hid hd
      clear hd
      have hz2 : b < wr.heap.size := cell_lt c0
      by_cases hx : x = min u v
      · by_cases hy : y = max u v
        · have HT : Hid (findS es u v = k) := by show _ = _; rw [HR.out, HD.out, findFrom, if_pos (by rw [hx, hy])]
          subst hx hy
          go_wp2_with fail
          have e0 : ∀ z : Ext (wr.heap.size + 1) (wr.alloc (.cells #[.int .i64 (min u v), .int .i64 (max u v)] 73)), z.world.cell? ⟨wr.heap.size, 0, none⟩ = some (.int .i64 (min u v)) := fun z => cell_new z.below 0 _ rfl
          have e1 : ∀ z : Ext (wr.heap.size + 1) (wr.alloc (.cells #[.int .i64 (min u v), .int .i64 (max u v)] 73)), z.world.cell? ⟨wr.heap.size, 1, none⟩ = some (.int .i64 (max u v)) := fun z => cell_new z.below 1 _ rfl
          refine wp_region_ext (wr.heap.size + 1) (wr.alloc (.cells #[.int .i64 (min u v), .int .i64 (max u v)] 73)) (by kernel_rfl) (by kernel_rfl) (Below.refl _ _) ?_
          repeat (go_big_quiet_step ((go_at_call 146; exact Calls.ext_of (by simp) (edge_any u v _))))
          refine wpQuiet_nil ?_
          rintro _ ⟨⟨wq, hq⟩, rfl⟩
          clear e0 e1
          have hbq : Below w1.heap.size w1 _ := (hb.alloc hb.size _).trans (hq.mono (by have := hb.size; omega))
          go_wp2
          go_ret
          exact ⟨ret_int HT.out.symm, hbw.trans (hbq.mono hbw.size)⟩
        · have HT : Hid (findS es u v = findFrom (k + 1) (es.drop (k + 1)) (min u v, max u v)) := by show _ = _; rw [HR.out, HD.out, findFrom, if_neg (by intro e; cases e; exact hy rfl)]
          subst hx
          go_wp2_with fail
          have e0 : ∀ z : Ext (wr.heap.size + 1) (wr.alloc (.cells #[.int .i64 (min u v), .int .i64 y] 73)), z.world.cell? ⟨wr.heap.size, 0, none⟩ = some (.int .i64 (min u v)) := fun z => cell_new z.below 0 _ rfl
          have e1 : ∀ z : Ext (wr.heap.size + 1) (wr.alloc (.cells #[.int .i64 (min u v), .int .i64 y] 73)), z.world.cell? ⟨wr.heap.size, 1, none⟩ = some (.int .i64 y) := fun z => cell_new z.below 1 _ rfl
          refine wp_region_ext (wr.heap.size + 1) (wr.alloc (.cells #[.int .i64 (min u v), .int .i64 y] 73)) (by kernel_rfl) (by kernel_rfl) (Below.refl _ _) ?_
          repeat (go_big_quiet_step ((go_at_call 146; exact Calls.ext_of (by simp) (edge_any u v _))))
          refine wpQuiet_nil ?_
          rintro _ ⟨⟨wq, hq⟩, rfl⟩
          clear e0 e1
          have hbq : Below w1.heap.size w1 _ := (hb.alloc hb.size _).trans (hq.mono (by have := hb.size; omega))
          go_wp2
          go_roundw
          case rel => exact ⟨k + 1, by omega, by go_num, hbq, HT⟩
          case measure => simp [intOf]; omega
      · have HT : Hid (findS es u v = findFrom (k + 1) (es.drop (k + 1)) (min u v, max u v)) := by show _ = _; rw [HR.out, HD.out, findFrom, if_neg (by intro e; cases e; exact hx rfl)]
        go_wp2_with fail
        have e0 : ∀ z : Ext (wr.heap.size + 1) (wr.alloc (.cells #[.int .i64 x, .int .i64 y] 73)), z.world.cell? ⟨wr.heap.size, 0, none⟩ = some (.int .i64 x) := fun z => cell_new z.below 0 _ rfl
        have e1 : ∀ z : Ext (wr.heap.size + 1) (wr.alloc (.cells #[.int .i64 x, .int .i64 y] 73)), z.world.cell? ⟨wr.heap.size, 1, none⟩ = some (.int .i64 y) := fun z => cell_new z.below 1 _ rfl
        refine wp_region_ext (wr.heap.size + 1) (wr.alloc (.cells #[.int .i64 x, .int .i64 y] 73)) (by kernel_rfl) (by kernel_rfl) (Below.refl _ _) ?_
        repeat (go_big_quiet_step ((go_at_call 146; exact Calls.ext_of (by simp) (edge_any u v _))))
        refine wpQuiet_nil ?_
        rintro _ ⟨⟨wq, hq⟩, rfl⟩
        clear e0 e1
        have hbq : Below w1.heap.size w1 _ := (hb.alloc hb.size _).trans (hq.mono (by have := hb.size; omega))
        go_wp2
        go_roundw
        case rel => exact ⟨k + 1, by omega, by go_num, hbq, HT⟩
        case measure => simp [intOf]; omega
    · have HT : Hid (findS es u v = -1) := by show _ = _; rw [HR.out, List.drop_of_length_le (by omega)]; rfl
      go_wp2
      go_ret
      exact ⟨ret_int HT.out.symm, hbw.trans (hb.mono hbw.size)⟩

set_option maxRecDepth 100000 in
set_option maxHeartbeats 1600000 in
theorem neigh_any (n : Int) (a : Option Addr) (cap : Nat) (es : List E2) (v : Int) (w : World) (he : EdgesAt w (.slice a es.length cap) es) (hv : Valid n es) :
    Calls Try.prog 27 #[.agg #[.int .i64 n, .slice a es.length cap], .int .i64 v] w (IntsPost w (neighS es v)) := by
  have hl := hv.length_le
  go_enter Try.func27, Try.ntmps27
  go_wp2_with fail
  refine (check_any n a cap es _ (he.below ((Below.refl _ _).alloc (Nat.le_refl _) _))).mono ?_
  rintro e w1 ⟨rfl, hb1⟩
  rw [(valid_iff n es).2 hv]
  have b1 : w1.cell? ⟨w.heap.size, 1, none⟩ = some (.slice a es.length cap) := (hb1.cell (p := ⟨w.heap.size, 1, none⟩) (by simp)).trans (cell_blk (heap_alloc_new _ _))
  have hbw : Below w.heap.size w w1 := ((Below.refl _ _).alloc (Nat.le_refl _) _).trans (hb1.mono (by simp))
  have he1 := he.below hbw
  clear hb1
  go_wp2_with fail
  clear b1
  go_loopw [5, 14] (fun o i wr => ∃ (k : Nat) (acc : List Int), k ≤ es.length ∧ i = .int .i64 k ∧ Below w1.heap.size w1 wr ∧ wr.ownsRow w1.heap.size 3 1 o acc.length (intsV acc) ∧ acc.length ≤ k * 2 ∧ Hid (es.flatMap (endsS v) = acc ++ (es.drop k).flatMap (endsS v))) (fun _ i _ => es.length - (intOf i).toNat)
  case atStart => exact ⟨0, [], Nat.zero_le _, rfl, Below.refl _ _, World.ownsRow_nil _ _ _ _, by simp, rfl⟩
  case round =>
    obtain ⟨k, acc, hk, rfl, hb, hown, hal, HR⟩ := hrel
    by_cases hlt : k < es.length
    · obtain ⟨b, off, x, y, rfl, hxy, hd, _, c0, c1⟩ := (he1.below hb).at k hlt
      have hin : Ins n (x, y) := hv.2.2.1 _ (List.mem_of_getElem? hxy)
      have HD := Lib.hid hd
      clear hd hxy
      have hz2 : b < wr.heap.size := cell_lt c0
      have hb' := hb.alloc hb.size (.cells #[.int .i64 x, .int .i64 y] 73)
      have hown' := hown.alloc (.cells #[.int .i64 x, .int .i64 y] 73)
      by_cases hx : x = v
      · have hy : ¬ y = v := by unfold Ins at hin; dsimp at hin; omega
        have q1 : (x == v) = true := by simpa using hx
        have q2 : (y == v) = false := by simpa using hy
        have HF : Hid (es.flatMap (endsS v) = (acc ++ [y]) ++ (es.drop (k + 1)).flatMap (endsS v)) := by show _ = _; rw [HR.out, HD.out]; simp [endsS, hx, hy]
        clear hx hy HR HD hin
        go_wp2_with (at_builtin; refine wpList_app_ints intsT rfl _ _ rfl w1.heap.size _ _ acc [y] rfl (hown'.alloc _) rfl (ints_lit1' _ _ (by simp) _ _) (by simp; omega) (by have := hb.size; simp; omega) ?_; intro v6 w6 hown6 hg6; have c6 : w6.cell? ⟨wr.heap.size, 0, none⟩ = some (.int .i64 x) := (by exact hg6.cell (cell_alloc (cell_fresh _ _ _ 0 _ rfl)) (by intro e; have := hown.lt _ e.symm; dsimp at this; omega)); have d6 : w6.cell? ⟨wr.heap.size, 1, none⟩ = some (.int .i64 y) := (by exact hg6.cell (cell_alloc (cell_fresh _ _ _ 1 _ rfl)) (by intro e; have := hown.lt _ e.symm; dsimp at this; omega)))
        have hb6 := below_app' (hb'.alloc hb'.size _) (hown'.alloc _) hg6
        go_roundw
        case rel => exact ⟨k + 1, acc ++ [y], by omega, by go_num, hb6, hown6, by simp; omega, HF⟩
        case measure => simp [intOf]; omega
      by_cases hy : y = v
      · have q1 : (x == v) = false := by simpa using hx
        have q2 : (y == v) = true := by simpa using hy
        have HF : Hid (es.flatMap (endsS v) = (acc ++ [x]) ++ (es.drop (k + 1)).flatMap (endsS v)) := by show _ = _; rw [HR.out, HD.out]; simp [endsS, hx, hy]
        clear hx hy HR HD hin
        go_wp2_with (at_builtin; refine wpList_app_ints intsT rfl _ _ rfl w1.heap.size _ _ acc [x] rfl (hown'.alloc _) rfl (ints_lit1' _ _ (by simp) _ _) (by simp; omega) (by have := hb.size; simp; omega) ?_; intro v6 w6 hown6 hg6; have c6 : w6.cell? ⟨wr.heap.size, 0, none⟩ = some (.int .i64 x) := (by exact hg6.cell (cell_alloc (cell_fresh _ _ _ 0 _ rfl)) (by intro e; have := hown.lt _ e.symm; dsimp at this; omega)); have d6 : w6.cell? ⟨wr.heap.size, 1, none⟩ = some (.int .i64 y) := (by exact hg6.cell (cell_alloc (cell_fresh _ _ _ 1 _ rfl)) (by intro e; have := hown.lt _ e.symm; dsimp at this; omega)))
        have hb6 := below_app' (hb'.alloc hb'.size _) (hown'.alloc _) hg6
        go_roundw
        case rel => exact ⟨k + 1, acc ++ [x], by omega, by go_num, hb6, hown6, by simp; omega, HF⟩
        case measure => simp [intOf]; omega
      · have q1 : (x == v) = false := by simpa using hx
        have q2 : (y == v) = false := by simpa using hy
        have HF : Hid (es.flatMap (endsS v) = acc ++ (es.drop (k + 1)).flatMap (endsS v)) := by show _ = _; rw [HR.out, HD.out]; simp [endsS, hx, hy]
        clear hx hy HR HD hin
        go_wp2
        go_roundw
        case rel => exact ⟨k + 1, acc, by omega, by go_num, hb', hown', by omega, HF⟩
        case measure => simp [intOf]; omega
    · have HE : Hid (neighS es v = ofS acc) := by show _ = _; unfold neighS; rw [HR.out, List.drop_of_length_le (by omega)]; simp
      obtain ⟨a4, cap4, hv4, hi4, _⟩ := IntsAt.of_owns hown (by omega)
      subst hv4
      go_wp2_with (go_at_call 62; refine (of_any _ _ acc _ hi4 (by omega)).mono ?_; rintro e w5 ⟨a5, cap5, rfl, hi5, hb5⟩)
      go_ret
      rw [HE.out]
      exact ⟨_, _, rfl, hi5, (hbw.trans (hb.mono hbw.size)).trans (hb5.mono (by have := hbw.size; have := hb.size; omega))⟩

set_option maxRecDepth 100000 in
set_option maxHeartbeats 800000 in
theorem common_any (n : Int) (a : Option Addr) (cap : Nat) (es : List E2) (u v : Int) (w : World) (he : EdgesAt w (.slice a es.length cap) es) (hv : Valid n es) (huv : u ≠ v) :
    Calls Try.prog 82 #[.agg #[.int .i64 n, .slice a es.length cap], .int .i64 u, .int .i64 v] w (IntsPost w (meetS (neighS es u) (neighS es v))) := by
  have hl := hv.length_le
  have hne : (u == v) = false := by simpa using huv
  go_enter Try.func82, Try.ntmps82
  go_wp2_with fail
  have hw0 : Below w.heap.size w (w.alloc (.cells #[.int .i64 n, .slice a es.length cap] 27)) := (Below.refl _ _).alloc (Nat.le_refl _) _
  have hs : Below (w.heap.size + 1) (w.alloc (.cells #[.int .i64 n, .slice a es.length cap] 27)) (w.alloc (.cells #[.int .i64 n, .slice a es.length cap] 27)).drew := (Below.refl _ _).drew
  have hzs : w.heap.size + 1 ≤ (w.alloc (.cells #[.int .i64 n, .slice a es.length cap] 27)).heap.size := by simp
  go_region_held3 (fun w' => w'.cell? ⟨w.heap.size, 0, none⟩ = some (.int .i64 n) ∧ w'.cell? ⟨w.heap.size, 1, none⟩ = some (.slice a es.length cap) ∧ Below (w.heap.size + 1) (w.alloc (.cells #[.int .i64 n, .slice a es.length cap] 27)) w')
    (exact ⟨cell_new hs 0 _ rfl, cell_new hs 1 _ rfl, hs⟩)
    (first
      | (go_at_call 27; refine (neigh_any n a cap es _ _ (by exact he.below (hw0.trans (hs.mono (by omega)))) hv).mono ?_; rintro e w' ⟨a', cap', rfl, hi', hb'⟩; have hs := hs.trans (hb'.mono (Nat.le_trans hzs hs.size)))
      | (go_at_call 106; refine (meet_any _ _ _ _ (neighS es u) (neighS es v) _ (by exact IntsAt.below (by assumption) (by assumption)) (by assumption) (by have := neighS_length es u; omega)).mono ?_; rintro e w' ⟨a', cap', rfl, hi', hb'⟩; have hs := hs.trans (hb'.mono (Nat.le_trans hzs hs.size))))
  go_wp2
  go_ret
  exact ⟨_, _, rfl, hi', hw0.trans (hs.mono (by omega))⟩

theorem degree_any (n : Int) (a : Option Addr) (cap : Nat) (es : List E2) (v : Int) (w : World) (he : EdgesAt w (.slice a es.length cap) es) (hv : Valid n es) :
    Calls Try.prog 23 #[.agg #[.int .i64 n, .slice a es.length cap], .int .i64 v] w fun e w' => e = .returned (.int .i64 (neighS es v).length) ∧ Below w.heap.size w w' := by
  go_enter Try.func23, Try.ntmps23
  go_wp2_with fail
  refine (neigh_any n a cap es v _ (he.below ((Below.refl _ _).alloc (Nat.le_refl _) _)) hv).mono ?_
  rintro e w1 ⟨a1, cap1, rfl, hi1, hb1⟩
  go_wp2
  go_ret
  exact ⟨rfl, ((Below.refl _ _).alloc (Nat.le_refl _) _).trans (hb1.mono (by simp))⟩
end Go.Proofs.Ytdkmdcdoiaelfaa
