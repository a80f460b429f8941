/- The contracts of the reference's sets and neighbours once more, with what they hand back in new blocks. Printed by wip/mknew.py. -/
import Derived.Test.YtbkacbbhiecnkaaDoorRef03
namespace Go.Proofs.YtbkacbbhiecnkaaDoor
open Go.RowKit Go.BigFrame

/-- numbers are handed back, in new blocks or where they came from -/
def IntsFrom (a0 : Option Addr) (w : World) (ys : List Int) (e : Ending) (w' : World) : Prop := ∃ a cap, e = .returned (.slice a ys.length cap) ∧ IntsAt w' (.slice a ys.length cap) ys ∧ Below w.heap.size w w' ∧ ∀ p, a = some p → w.heap.size ≤ p.block ∨ a0 = some p
def IntsNew (w : World) (ys : List Int) (e : Ending) (w' : World) : Prop := ∃ a cap, e = .returned (.slice a ys.length cap) ∧ IntsAt w' (.slice a ys.length cap) ys ∧ Below w.heap.size w w' ∧ ∀ p, a = some p → w.heap.size ≤ p.block
theorem ints_from {a0 : Option Addr} {w w' : World} {T : Nat} {v : Value} {xs : List Int} (hb : Below w.heap.size w w') (hown : w'.ownsRow w.heap.size T 1 v xs.length (intsV xs)) (hl : xs.length ≤ 70368744177664) : IntsFrom a0 w xs (.returned v) w' := by
  obtain ⟨a, cap, rfl, h, ho⟩ := IntsAt.of_owns hown hl
  exact ⟨a, cap, rfl, h, hb, fun p hp => .inl (ho p hp)⟩
theorem new_step {w wr : World} {a2 a3 : Option Addr} {n3 c3 n2 c2 : Nat} (hb : Below w.heap.size w wr) (hn3 : ∀ p, a3 = some p → wr.heap.size ≤ p.block ∨ a2 = some p) (hnew : ∀ p n c, (Value.slice a2 n2 c2) = .slice (some p) n c → w.heap.size ≤ p.block) :
    ∀ p n c, (Value.slice a3 n3 c3) = .slice (some p) n c → w.heap.size ≤ p.block := by
  intro p n c h
  have h3 : a3 = some p := by simp at h; exact h.1
  rcases hn3 p h3 with h | h
  · exact Nat.le_trans hb.size h
  · exact hnew p n2 c2 (by rw [h])

set_option maxRecDepth 100000 in
set_option maxHeartbeats 1600000 in
theorem put_new (a : Option Addr) (cap : Nat) (xs : List Int) (x : Int) (w : World) (hi : IntsAt w (.slice a xs.length cap) xs) (hn : xs.length ≤ 1073741824) :
    Calls Tryd.prog 153 #[.slice a xs.length cap, .int .i64 x] w (IntsFrom a w (putS xs x)) := by
  have hi' := hi
  obtain ⟨a', cap', hv, hcap, hnone, hl, hcell⟩ := hi
  obtain ⟨rfl, _, rfl⟩ : a = a' ∧ True ∧ cap = cap' := by simpa using hv
  clear hv
  have H := Lib.hid hcell
  clear hcell
  go_enter Tryd.func153, Tryd.ntmps153
  go_wp2
  go_loop [5] (fun i => ∃ k : Nat, k ≤ xs.length ∧ i = .int .i64 k ∧ Hid (putS xs x = xs.take k ++ putS (xs.drop k) x)) (fun i => xs.length - (intOf i).toNat)
  case atStart => exact ⟨0, Nat.zero_le _, rfl, rfl⟩
  case round =>
    obtain ⟨k, hk, rfl, HP⟩ := hrel
    by_cases hlt : k < xs.length
    · obtain ⟨y, hy⟩ : ∃ y, xs[k]? = some y := ⟨_, List.getElem?_eq_getElem hlt⟩
      obtain ⟨b, off, rfl, c0⟩ := H.out k _ hy
      have HD : Hid (xs.drop k = y :: xs.drop (k + 1)) := by
        show _ = _
        obtain ⟨_, he⟩ := List.getElem?_eq_some_iff.1 hy
        rw [List.drop_eq_getElem_cons hlt, he]
      have HT : Hid (xs.take (k + 1) = xs.take k ++ [y]) := by
        show _ = _
        obtain ⟨_, he⟩ := List.getElem?_eq_some_iff.1 hy
        rw [List.take_succ_eq_append_getElem hlt, he]
      clear hy
      by_cases hyx : y < x
      · go_wp2
        go_round
        case rel => exact ⟨k + 1, by omega, by go_num, by show _ = _; rw [HP.out, HD.out, putS, if_pos hyx, HT.out]; simp⟩
        case measure => simp [intOf]; omega
      · by_cases he : y = x
        · have : putS xs x = xs := by rw [HP.out, HD.out, putS, if_neg hyx, if_pos he, ← HD.out, List.take_append_drop]
          rw [this]
          subst he
          go_wp2
          go_ret
          exact ⟨_, _, rfl, hi', Below.refl _ _, fun p hp => .inr hp⟩
        · have he2 : (y == x) = false := by simpa using he
          have hck : ¬ cap = k := by omega
          have HF : Hid (putS xs x = xs.take k ++ [x] ++ xs.drop k) := by show _ = _; rw [HP.out, HD.out, putS, if_neg hyx, if_neg he]; simp
          go_wp2_with (at_builtin; refine wpList_app_ints intsT rfl _ _ rfl w.heap.size _ _ [] (xs.take k) rfl (World.ownsRow_nil _ _ _ _) rfl (hi'.take k hk) (by simp; omega) (Nat.le_refl _) ?_; intro v6 w6 hown6 hg6)
          have hb6 : Below w.heap.size w w6 := below_of_grown hg6
          go_region_law (first
            | (refine step_app_ints intsT rfl (.tmp 38) (.tmp 40) rfl w.heap.size _ _ ([] ++ xs.take k) [x] rfl (by exact (hown6.alloc _)) rfl (by exact ints_lit1 _ _ _) (by simp; omega) (by have := hb6.size; simp; omega) ?_; intro v7 w7 hown7 hg7; have hb7 : Below w.heap.size w w7 := (by exact below_app' (hb6.alloc hb6.size _).drew (hown6.alloc _) hg7))
            | (refine step_app_ints intsT rfl (.tmp 41) (.tmp 44) rfl w.heap.size _ _ ([] ++ xs.take k ++ [x]) (xs.drop k) rfl (by assumption) rfl (by exact (hi'.drop k hlt).below (by assumption)) (by simp; omega) (by exact Below.size (by assumption)) ?_; intro v8 w8 hown8 hg8; have hb8 : Below w.heap.size w w8 := (by exact below_app' (by assumption) (by assumption) hg8)))
          go_wp2
          go_ret
          rw [HF.out]
          exact ints_from (v := v8) (by assumption) (by simpa only [List.nil_append, List.append_nil] using hown8) (by simp; omega)
    · obtain rfl : k = xs.length := by omega
      have HF : Hid (putS xs x = xs ++ [x]) := by show _ = _; rw [HP.out]; simp [putS]
      go_wp2_with (at_builtin; refine wpList_app_ints intsT rfl _ _ rfl w.heap.size _ _ [] xs rfl (World.ownsRow_nil _ _ _ _) rfl hi' (by simp; omega) (Nat.le_refl _) ?_; intro v6 w6 hown6 hg6)
      have hb6 : Below w.heap.size w w6 := below_of_grown hg6
      have hnil : (if cap = xs.length then a else Option.map (fun x => x.add xs.length) a) = none → cap - xs.length = 0 := by
        intro e
        split at e
        · omega
        · have := hnone (by simpa using e); omega
      go_region_law (first
        | (refine step_app_ints intsT rfl (.tmp 38) (.tmp 40) rfl w.heap.size _ _ ([] ++ xs) [x] rfl (by exact (hown6.alloc _)) rfl (by exact ints_lit1 _ _ _) (by simp; omega) (by have := hb6.size; simp; omega) ?_; intro v7 w7 hown7 hg7; have hb7 : Below w.heap.size w w7 := (by exact below_app' (hb6.alloc hb6.size _).drew (hown6.alloc _) hg7))
        | (refine step_app_ints intsT rfl (.tmp 41) (.tmp 44) rfl w.heap.size _ _ ([] ++ xs ++ [x]) [] rfl (by assumption) rfl (by exact IntsAt.empty _ _ hnil) (by simp; omega) (by exact Below.size (by assumption)) ?_; intro v8 w8 hown8 hg8; have hb8 : Below w.heap.size w w8 := (by exact below_app' (by assumption) (by assumption) hg8)))
      go_wp2
      all_goals
        go_ret
        rw [HF.out]
        exact ints_from (v := v8) (by assumption) (by simpa only [List.nil_append, List.append_nil] using hown8) (by simp; omega)


set_option maxRecDepth 100000 in
set_option maxHeartbeats 800000 in
theorem of_new (a : Option Addr) (cap : Nat) (xs : List Int) (w : World) (hi : IntsAt w (.slice a xs.length cap) xs) (hn : xs.length ≤ 1073741824) :
    Calls Tryd.prog 139 #[.slice a xs.length cap] w (IntsNew w (ofS xs)) := by
  go_enter Tryd.func139, Tryd.ntmps139
  go_wp2
  go_loopw [3, 8] (fun v i wr => ∃ (k : Nat) (acc : List Int), k ≤ xs.length ∧ i = .int .i64 k ∧ Below w.heap.size w wr ∧ IntsAt wr v acc ∧ (∀ p n c, v = .slice (some p) n c → w.heap.size ≤ p.block) ∧ acc.length ≤ k ∧ Hid (ofS xs = (xs.drop k).foldl putS acc)) (fun _ i _ => xs.length - (intOf i).toNat)
  case atStart => exact ⟨0, [], Nat.zero_le _, rfl, Below.refl _ _, IntsAt.empty none 0 (fun _ => rfl), (fun p n c h => by cases h), by simp, rfl⟩
  case round =>
    obtain ⟨k, acc, hk, rfl, hb, hacc, hnew, hal, HR⟩ := hrel
    obtain ⟨a2, cap2, hv, _⟩ := id hacc
    subst hv
    by_cases hlt : k < xs.length
    · obtain ⟨b, off, y, rfl, _, hd, _, c0⟩ := (hi.below hb).at k hlt
      have HD := Lib.hid hd
      clear hd
      go_wp2_with (go_at_call 153; refine (put_new _ _ acc _ _ hacc (by omega)).mono ?_; rintro e w2 ⟨a3, cap3, rfl, hi3, hb3, hn3⟩)
      go_roundw
      case rel => exact ⟨k + 1, putS acc y, by omega, by go_num, hb.trans (hb3.mono hb.size), hi3, (fun p n c h => new_step hb hn3 hnew p n c h), by have := putS_length acc y; omega, by show _ = _; rw [HR.out, HD.out]; rfl⟩
      case measure => simp [intOf]; omega
    · obtain rfl : k = xs.length := by omega
      have HE : Hid (ofS xs = acc) := by show _ = _; rw [HR.out]; simp
      go_wp2
      go_ret
      rw [HE.out]
      exact ⟨_, _, rfl, hacc, hb, fun p hp => by cases hp; exact hnew p _ _ rfl⟩


set_option maxRecDepth 100000 in
set_option maxHeartbeats 800000 in
theorem meet_new (a a2 : Option Addr) (cap cap2 : Nat) (xs ys : List Int) (w : World) (hi : IntsAt w (.slice a xs.length cap) xs) (hj : IntsAt w (.slice a2 ys.length cap2) ys) (hn : xs.length ≤ 1073741824) :
    Calls Tryd.prog 121 #[.slice a xs.length cap, .slice a2 ys.length cap2] w (IntsNew w (meetS xs ys)) := by
  go_enter Tryd.func121, Tryd.ntmps121
  go_wp2_with fail
  refine (of_any _ _ xs _ hi hn).mono ?_
  rintro e w1 ⟨a3, cap3, rfl, hi3, hb3⟩
  have hzl := ofS_length xs
  have HM : Hid (meetS xs ys = (ofS xs).filter (fun x => decide (x ∈ ys))) := rfl
  generalize ofS xs = zs at *
  have hj1 := hj.below hb3
  go_wp2_with fail
  go_loopw [5, 11] (fun v i wr => ∃ (k : Nat) (acc : List Int), k ≤ zs.length ∧ i = .int .i64 k ∧ Below w1.heap.size w1 wr ∧ wr.ownsRow w1.heap.size 3 1 v acc.length (intsV acc) ∧ acc.length ≤ k ∧ Hid (meetS xs ys = acc ++ (zs.drop k).filter (fun x => decide (x ∈ ys)))) (fun _ i _ => zs.length - (intOf i).toNat)
  case atStart => exact ⟨0, [], Nat.zero_le _, rfl, Below.refl _ _, World.ownsRow_nil _ _ _ _, by simp, by show _ = _; rw [HM.out]; rfl⟩
  case round =>
    clear HM
    obtain ⟨k, acc, hk, rfl, hb, hown, hal, HR⟩ := hrel
    by_cases hlt : k < zs.length
    · obtain ⟨b, off, y, rfl, _, hd, _, c0⟩ := (hi3.below hb).at k hlt
      have HD := Lib.hid hd
      clear hd
      by_cases hm : y ∈ ys
      · have hm' : decide (y ∈ ys) = true := by simpa using hm
        have HF : Hid (meetS xs ys = (acc ++ [y]) ++ (zs.drop (k + 1)).filter (fun x => decide (x ∈ ys))) := by show _ = _; rw [HR.out, HD.out]; simp [hm]
        clear hm HR HD
        go_wp2_with (first
          | (go_at_call 138; refine (has_any _ _ ys _ _ (hj1.below hb)).mono ?_; rintro e w2 ⟨rfl, rfl⟩)
          | (at_builtin; refine wpList_app_ints intsT rfl _ _ rfl w1.heap.size _ _ acc [y] rfl (hown.alloc _) rfl (ints_lit1 _ _ _) (by simp; omega) (by have := hb.size; simp; omega) ?_; intro v6 w6 hown6 hg6))
        have hb6 := below_app' (hb.alloc hb.size _) (hown.alloc _) hg6
        go_roundw
        case rel => exact ⟨k + 1, acc ++ [y], by omega, by go_num, hb6, hown6, by simp; omega, HF⟩
        case measure => simp [intOf]; omega
      · have hm' : decide (y ∈ ys) = false := by simpa using hm
        have HF : Hid (meetS xs ys = acc ++ (zs.drop (k + 1)).filter (fun x => decide (x ∈ ys))) := by show _ = _; rw [HR.out, HD.out]; simp [hm]
        clear hm HR HD
        go_wp2_with (go_at_call 138; refine (has_any _ _ ys _ _ (hj1.below hb)).mono ?_; rintro e w2 ⟨rfl, rfl⟩)
        go_roundw
        case rel => exact ⟨k + 1, acc, by omega, by go_num, hb, hown, by omega, HF⟩
        case measure => simp [intOf]; omega
    · have HE : Hid (meetS xs ys = acc) := by show _ = _; rw [HR.out, List.drop_of_length_le (by omega)]; simp
      obtain ⟨a4, cap4, hv, hi4, ho4⟩ := IntsAt.of_owns hown (by omega)
      subst hv
      go_wp2
      go_ret
      rw [HE.out]
      exact ⟨_, _, rfl, hi4, hb3.trans (hb.mono hb3.size), fun p hp => Nat.le_trans hb3.size (ho4 p hp)⟩

set_option maxRecDepth 100000 in
set_option maxHeartbeats 1600000 in
theorem neigh_new (n : Int) (a : Option Addr) (cap : Nat) (es : List E2) (v : Int) (w : World) (he : EdgesAt w (.slice a es.length cap) es) (hv : Valid n es) :
    Calls Tryd.prog 122 #[.agg #[.int .i64 n, .slice a es.length cap], .int .i64 v] w (IntsNew w (neighS es v)) := by
  have hl := hv.length_le
  go_enter Tryd.func122, Tryd.ntmps122
  go_wp2_with fail
  refine (check_any n a cap es _ (he.below ((Below.refl _ _).alloc (Nat.le_refl _) _))).mono ?_
  rintro e w1 ⟨rfl, hb1⟩
  rw [(valid_iff n es).2 hv]
  have b1 : w1.cell? ⟨w.heap.size, 1, none⟩ = some (.slice a es.length cap) := (hb1.cell (p := ⟨w.heap.size, 1, none⟩) (by simp)).trans (cell_blk (heap_alloc_new _ _))
  have hbw : Below w.heap.size w w1 := ((Below.refl _ _).alloc (Nat.le_refl _) _).trans (hb1.mono (by simp))
  have he1 := he.below hbw
  clear hb1
  go_wp2_with fail
  clear b1
  go_loopw [5, 14] (fun o i wr => ∃ (k : Nat) (acc : List Int), k ≤ es.length ∧ i = .int .i64 k ∧ Below w1.heap.size w1 wr ∧ wr.ownsRow w1.heap.size 3 1 o acc.length (intsV acc) ∧ acc.length ≤ k * 2 ∧ Hid (es.flatMap (endsS v) = acc ++ (es.drop k).flatMap (endsS v))) (fun _ i _ => es.length - (intOf i).toNat)
  case atStart => exact ⟨0, [], Nat.zero_le _, rfl, Below.refl _ _, World.ownsRow_nil _ _ _ _, by simp, rfl⟩
  case round =>
    obtain ⟨k, acc, hk, rfl, hb, hown, hal, HR⟩ := hrel
    by_cases hlt : k < es.length
    · obtain ⟨b, off, x, y, rfl, hxy, hd, _, c0, c1⟩ := (he1.below hb).at k hlt
      have hin : Ins n (x, y) := hv.2.2.1 _ (List.mem_of_getElem? hxy)
      have HD := Lib.hid hd
      clear hd hxy
      have hz2 : b < wr.heap.size := cell_lt c0
      have hb' := hb.alloc hb.size (.cells #[.int .i64 x, .int .i64 y] 42)
      have hown' := hown.alloc (.cells #[.int .i64 x, .int .i64 y] 42)
      by_cases hx : x = v
      · have hy : ¬ y = v := by unfold Ins at hin; dsimp at hin; omega
        have q1 : (x == v) = true := by simpa using hx
        have q2 : (y == v) = false := by simpa using hy
        have HF : Hid (es.flatMap (endsS v) = (acc ++ [y]) ++ (es.drop (k + 1)).flatMap (endsS v)) := by show _ = _; rw [HR.out, HD.out]; simp [endsS, hx, hy]
        clear hx hy HR HD hin
        go_wp2_with (at_builtin; refine wpList_app_ints intsT rfl _ _ rfl w1.heap.size _ _ acc [y] rfl (hown'.alloc _) rfl (ints_lit1' _ _ (by simp) _ _) (by simp; omega) (by have := hb.size; simp; omega) ?_; intro v6 w6 hown6 hg6; have c6 : w6.cell? ⟨wr.heap.size, 0, none⟩ = some (.int .i64 x) := (by exact hg6.cell (cell_alloc (cell_fresh _ _ _ 0 _ rfl)) (by intro e; have := hown.lt _ e.symm; dsimp at this; omega)); have d6 : w6.cell? ⟨wr.heap.size, 1, none⟩ = some (.int .i64 y) := (by exact hg6.cell (cell_alloc (cell_fresh _ _ _ 1 _ rfl)) (by intro e; have := hown.lt _ e.symm; dsimp at this; omega)))
        have hb6 := below_app' (hb'.alloc hb'.size _) (hown'.alloc _) hg6
        go_roundw
        case rel => exact ⟨k + 1, acc ++ [y], by omega, by go_num, hb6, hown6, by simp; omega, HF⟩
        case measure => simp [intOf]; omega
      by_cases hy : y = v
      · have q1 : (x == v) = false := by simpa using hx
        have q2 : (y == v) = true := by simpa using hy
        have HF : Hid (es.flatMap (endsS v) = (acc ++ [x]) ++ (es.drop (k + 1)).flatMap (endsS v)) := by show _ = _; rw [HR.out, HD.out]; simp [endsS, hx, hy]
        clear hx hy HR HD hin
        go_wp2_with (at_builtin; refine wpList_app_ints intsT rfl _ _ rfl w1.heap.size _ _ acc [x] rfl (hown'.alloc _) rfl (ints_lit1' _ _ (by simp) _ _) (by simp; omega) (by have := hb.size; simp; omega) ?_; intro v6 w6 hown6 hg6; have c6 : w6.cell? ⟨wr.heap.size, 0, none⟩ = some (.int .i64 x) := (by exact hg6.cell (cell_alloc (cell_fresh _ _ _ 0 _ rfl)) (by intro e; have := hown.lt _ e.symm; dsimp at this; omega)); have d6 : w6.cell? ⟨wr.heap.size, 1, none⟩ = some (.int .i64 y) := (by exact hg6.cell (cell_alloc (cell_fresh _ _ _ 1 _ rfl)) (by intro e; have := hown.lt _ e.symm; dsimp at this; omega)))
        have hb6 := below_app' (hb'.alloc hb'.size _) (hown'.alloc _) hg6
        go_roundw
        case rel => exact ⟨k + 1, acc ++ [x], by omega, by go_num, hb6, hown6, by simp; omega, HF⟩
        case measure => simp [intOf]; omega
      · have q1 : (x == v) = false := by simpa using hx
        have q2 : (y == v) = false := by simpa using hy
        have HF : Hid (es.flatMap (endsS v) = acc ++ (es.drop (k + 1)).flatMap (endsS v)) := by show _ = _; rw [HR.out, HD.out]; simp [endsS, hx, hy]
        clear hx hy HR HD hin
        go_wp2
        go_roundw
        case rel => exact ⟨k + 1, acc, by omega, by go_num, hb', hown', by omega, HF⟩
        case measure => simp [intOf]; omega
    · have HE : Hid (neighS es v = ofS acc) := by show _ = _; unfold neighS; rw [HR.out, List.drop_of_length_le (by omega)]; simp
      obtain ⟨a4, cap4, hv4, hi4, _⟩ := IntsAt.of_owns hown (by omega)
      subst hv4
      go_wp2_with (go_at_call 139; refine (of_new _ _ acc _ hi4 (by omega)).mono ?_; rintro e w5 ⟨a5, cap5, rfl, hi5, hb5, ho5⟩)
      go_ret
      rw [HE.out]
      exact ⟨_, _, rfl, hi5, (hbw.trans (hb.mono hbw.size)).trans (hb5.mono (by have := hbw.size; have := hb.size; omega)), fun p hp => by have := ho5 p hp; have := hbw.size; have := hb.size; omega⟩


set_option maxRecDepth 100000 in
set_option maxHeartbeats 800000 in
theorem common_new (n : Int) (a : Option Addr) (cap : Nat) (es : List E2) (u v : Int) (w : World) (he : EdgesAt w (.slice a es.length cap) es) (hv : Valid n es) (huv : u ≠ v) :
    Calls Tryd.prog 67 #[.agg #[.int .i64 n, .slice a es.length cap], .int .i64 u, .int .i64 v] w (IntsNew w (meetS (neighS es u) (neighS es v))) := by
  have hl := hv.length_le
  have hne : (u == v) = false := by simpa using huv
  go_enter Tryd.func67, Tryd.ntmps67
  go_wp2_with fail
  have hw0 : Below w.heap.size w (w.alloc (.cells #[.int .i64 n, .slice a es.length cap] 27)) := (Below.refl _ _).alloc (Nat.le_refl _) _
  have hs : Below (w.heap.size + 1) (w.alloc (.cells #[.int .i64 n, .slice a es.length cap] 27)) (w.alloc (.cells #[.int .i64 n, .slice a es.length cap] 27)).drew := (Below.refl _ _).drew
  have hzs : w.heap.size + 1 ≤ (w.alloc (.cells #[.int .i64 n, .slice a es.length cap] 27)).heap.size := by simp
  go_region_held3 (fun w' => w'.cell? ⟨w.heap.size, 0, none⟩ = some (.int .i64 n) ∧ w'.cell? ⟨w.heap.size, 1, none⟩ = some (.slice a es.length cap) ∧ Below (w.heap.size + 1) (w.alloc (.cells #[.int .i64 n, .slice a es.length cap] 27)) w')
    (exact ⟨cell_new hs 0 _ rfl, cell_new hs 1 _ rfl, hs⟩)
    (first
      | (go_at_call 122; refine (neigh_any n a cap es _ _ (by exact he.below (hw0.trans (hs.mono (by omega)))) hv).mono ?_; rintro e w' ⟨a', cap', rfl, hi', hb'⟩; have hs := hs.trans (hb'.mono (Nat.le_trans hzs hs.size)))
      | (go_at_call 121; refine (meet_new _ _ _ _ (neighS es u) (neighS es v) _ (by exact IntsAt.below (by assumption) (by assumption)) (by assumption) (by have := neighS_length es u; omega)).mono ?_; rintro e w' ⟨a', cap', rfl, hi', hb', ho'⟩; have ho := (fun p hp => Nat.le_trans (Nat.le_trans (Nat.le_trans (Nat.le_succ _) hzs) hs.size) (ho' p hp)); have hs := hs.trans (hb'.mono (Nat.le_trans hzs hs.size))))
  go_wp2
  go_ret
  exact ⟨_, _, rfl, hi', hw0.trans (hs.mono (by omega)), ho⟩

end Go.Proofs.YtbkacbbhiecnkaaDoor
