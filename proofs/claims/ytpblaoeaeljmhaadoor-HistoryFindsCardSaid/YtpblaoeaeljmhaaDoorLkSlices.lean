/- The contracts of slices.Clone, Insert, Delete at a slice of 6 cells an element. -/
import Derived.Test.YtpblaoeaeljmhaaDoorLkPlain
import Derived.Deep.RegionLaw
import Derived.Deep.RegionWith
namespace Go.Proofs.YtpblaoeaeljmhaaDoor
open Go.RowKit Go.BigFrame

theorem lkRT : SliceT Tryd.prog 51 69 (.agg #[.int .i64 0, .int .i64 0, .int .i64 0, .int .i64 0, .int .i64 0, .int .i64 0]) encLk.k 48 := ⟨Tryd.underlying51, by kernel_rfl, rfl, by decide⟩
theorem lk_nil (x : Addr) (n c : Nat) (w : World) : (binOp .eql 51 (.slice (some x) n c) (.slice none 0 0)).run Tryd.prog w = .ok (.bool false) w := by
  have h : ∀ d : Nat, (Op.equalIn (d + 1) 51 (.slice (some x) n c) (.slice none 0 0)).run Tryd.prog w = .ok false w := fun d => by
    simp [Op.equalIn, run_underlying Tryd.underlying51]
  simp only [binOp]
  simp [Op.equal, Op.maxDepth, h 9999]
set_option maxRecDepth 100000 in
theorem lkclone_any (v : Value) (xs : List _) (w : World) (hi : RowAt encLk w v xs) (hn : xs.length ≤ 1000000) :
    Calls Tryd.prog 69 #[v] w fun e w' => ∃ x, e = .returned x ∧ w'.ownsRow w.heap.size 69 encLk.k x xs.length (flatR encLk xs) ∧ Below w.heap.size w w' := by
  obtain ⟨a, cap, rfl, h1, h2⟩ := hi.shape
  cases a with
  | none =>
    obtain rfl := h2 rfl
    obtain rfl : xs = [] := List.eq_nil_of_length_eq_zero (by omega)
    have hnil := @Lib.run_eql_slice_nil
    go_enter Tryd.func69, Tryd.ntmps69
    go_wp2
    go_ret
    exact ⟨_, rfl, World.ownsRow_nil _ _ _ _, Below.refl _ _⟩
  | some ad =>
    clear h2
    have hnil := lk_nil ad xs.length cap
    have hb0 : Below w.heap.size w (w.alloc (.cells #[] 69)) := (Below.refl _ _).alloc (Nat.le_refl _) _
    have hown0 : (w.alloc (.cells #[] 69)).ownsRow w.heap.size 69 encLk.k (.slice (some ⟨w.heap.size, 0, none⟩) 0 0) 0 (flatR encLk []) := World.ownsRow_lit w #[] 0 (Nat.le_refl _) (by unfold maxLen; omega) rfl
    go_enter Tryd.func69, Tryd.ntmps69
    go_wp2_with (at_builtin; refine wpList_app_rows lkRT rfl _ _ rfl w.heap.size _ _ [] xs rfl hown0 rfl (hi.below hb0) (by simp; omega) (by simp; omega) (by simp) ?_; intro v6 w6 hown6 hg6)
    go_ret
    have hb6 := below_app' hb0 hown0 hg6
    rw [List.nil_append] at hown6
    exact ⟨_, rfl, hown6, hb6⟩
theorem lk_size : (Tryd.prog.info? 69).map (·.size) = some encLk.k := by
  obtain ⟨i, hi, _, hs, _⟩ := info_parts lkRT.info
  rw [hi]; exact congrArg some hs
/-- copy into a known block of such elements -/
theorem lkcopy_eq (w : World) (g o dLen dCap : Nat) (a : Addr) (sLen sCap : Nat) (cur : Array Value) (t : TypeId) (ys : List _) (ty : TypeId)
    (hg : w.heap[g]? = some (.cells cur t (0, 0))) (hn : ys.length = Nat.min sLen dLen) (hsrc : ∀ j v, (flatR encLk ys)[j]? = some v → w.cell? (a.add j) = some v) (hfit : o + ys.length * encLk.k ≤ cur.size) :
    (Builtin.copy_ #[51, 51] ty #[.slice (some ⟨g, o, none⟩) dLen dCap, .slice (some a) sLen sCap]).run Tryd.prog w = .ok (goInt ys.length) (w.setRow g (splice cur.toList o (flatR encLk ys)).toArray) := by
  rw [hn]
  exact run_copy_rowK w _ _ ty 69 encLk.k g o dLen dCap a sLen sCap cur t (flatR encLk ys) lkRT.ht lk_size hg (by rw [flatR_length, hn]) hsrc (by rw [flatR_length]; exact hfit) (flatR_oneCell _ _)
set_option maxRecDepth 100000 in
set_option maxHeartbeats 1600000 in
/-- at the end -/
theorem lkinsert_end (base : Nat) (xs : List _) (x : _) (v : Value) (vb vT : Nat) (cx : Array Value) (w : World) (hown : w.ownsRow base 69 encLk.k v xs.length (flatR encLk xs))
    (hx : w.heap[vb]? = some (.cells cx vT (0, 0))) (hcx : cx.toList = encLk.enc x) (hne : v.ownBlock ≠ some vb) (hbase : base ≤ w.heap.size) (hn : xs.length ≤ 1000000) :
    Calls Tryd.prog 68 #[v, .int .i64 xs.length, .slice (some ⟨vb, 0, none⟩) 1 1] w fun e w' => ∃ v', e = .returned v' ∧ w'.ownsRow base 69 encLk.k v' (xs ++ [x]).length (flatR encLk (xs ++ [x])) ∧ w.grownBy w' v.ownBlock := by
  have hsrc : RowAt encLk w (.slice (some ⟨vb, 0, none⟩) 1 1) [x] := ⟨_, 1, rfl, Nat.le_refl _, (fun h => by cases h), by simp, fun j u hj => ⟨vb, 0, rfl, by rw [cell_blk hx, Nat.zero_add]; rw [flatR_one, ← hcx] at hj; simpa using hj⟩⟩
  obtain ⟨a, cap, hv⟩ := owns_shape hown
  subst hv
  by_cases hcap : cap = xs.length
  all_goals
    have hsh : xs.length ≤ cap ∧ (a = none → cap = 0) := by
      rcases hown.2 with ⟨h, h0⟩ | ⟨g, cp, cur, h, _, _, h1, _⟩
      · obtain ⟨_, _, e3⟩ := Value.slice.inj h; exact ⟨by omega, fun _ => e3⟩
      · cases h; exact ⟨h1, fun h => by cases h⟩
    have HC := Lib.hid hcap
    first | (subst hcap) | skip
    go_enter Tryd.func68, Tryd.ntmps68
    go_wp2_with (at_builtin; refine wpList_app_rows lkRT rfl _ _ rfl base _ _ xs [x] rfl hown rfl hsrc (by simp; omega) (by simp; omega) hbase ?_; intro v6 w6 hown6 hg6)
    go_ret
    exact ⟨v6, rfl, by simpa using hown6, hg6⟩
set_option maxRecDepth 100000 in
set_option maxHeartbeats 1600000 in
/-- before the end, with room: in place -/
theorem lkinsert_room (i g cap : Nat) (cur : Array Value) (xs : List _) (x : _) (vb vT : Nat) (cx : Array Value) (w : World) (hg : w.heap[g]? = some (.cells cur 69 (0, 0))) (hcur : cur.toList.take (xs.length * encLk.k) = flatR encLk xs) (hcs : cur.size = cap * encLk.k) (hcap : xs.length + 1 ≤ cap) (_hcap2 : cap ≤ maxLen)
    (hx : w.heap[vb]? = some (.cells cx vT (0, 0))) (hcx : cx.toList = encLk.enc x) (hne : vb ≠ g) (hi : i < xs.length) (hn : xs.length ≤ 1000000) :
    Calls Tryd.prog 68 #[.slice (some ⟨g, 0, none⟩) xs.length cap, .int .i64 i, .slice (some ⟨vb, 0, none⟩) 1 1] w fun e w' => ∃ cur', e = .returned (.slice (some ⟨g, 0, none⟩) (xs.length + 1) cap) ∧ w'.heap[g]? = some (.cells cur' 69 (0, 0)) ∧ cur'.toList.take ((xs.length + 1) * encLk.k) = flatR encLk (xs.take i ++ x :: xs.drop i) ∧ cur'.size = cap * encLk.k ∧ w.grownBy w' (some g) := by
  unfold maxLen at _hcap2
  obtain ⟨n, hN⟩ : ∃ n, xs.length = n := ⟨_, rfl⟩
  have hlc : cur.toList.length = cap * encLk.k := by rw [Array.length_toList]; exact hcs
  have hkc : (n + 1) * 6 ≤ cur.size := by have := Nat.mul_le_mul_right 6 hcap; rw [hN] at this; rw [hcs]; exact this
  rw [hN] at hcur hcap hn hi ⊢
  have hov : ∀ lb cb, (callFunc 75 #[.slice (some ⟨vb, 0, none⟩) 1 1, .slice (some ⟨g, (i + 1) * 6, none⟩) lb cb]).run Tryd.prog w = .ok (.value (.bool false)) w := fun lb cb => by
    rw [run_callFunc_extern Tryd.func75 (by kernel_rfl) (by kernel_rfl) (by kernel_rfl) (e := Extern.SlicesOverlaps.overlaps #[51, 51] #[4]) (by kernel_rfl),
      Lib.run_overlaps_apart w 51 4 69 lkRT.ht 6 (fun _ => by kernel_rfl) ⟨vb, 0, none⟩ ⟨g, (i + 1) * 6, none⟩ 1 1 lb cb hne vT 69 cx.size cur.size (by simp [World.shape?, hx]) (by simp [World.shape?, hg]) (by omega) (by simp [World.frozen?, hx]) (by simp [World.frozen?, hx])]
    rfl
  have hdl : (xs.drop i).length = n - i := by rw [List.length_drop, hN]
  have hfd : ∀ j v, (flatR encLk (xs.drop i))[j]? = some v → cur[i * 6 + j]? = some v := by
    intro j v hj
    have hjl := (List.getElem?_eq_some_iff.1 hj).1
    rw [flatR_length, hdl] at hjl
    have hk : encLk.k = 6 := rfl
    have e := flatR_drop encLk xs i
    rw [← e, ← hcur, List.getElem?_drop, List.getElem?_take, hk] at hj
    split at hj
    · simpa using hj
    · cases hj
  obtain ⟨L1, hL1⟩ : ∃ L1, L1 = splice cur.toList ((i + 1) * 6) (flatR encLk (xs.drop i)) := ⟨_, rfl⟩
  obtain ⟨L2, hL2⟩ : ∃ L2, L2 = splice L1 (i * 6) (flatR encLk [x]) := ⟨_, rfl⟩
  have hl1 : L1.length = cur.size := by rw [hL1, length_splice _ _ _ (by rw [flatR_length, hdl]; show (i + 1) * 6 + (n - i) * 6 ≤ cur.toList.length; rw [Array.length_toList]; omega), Array.length_toList]
  have hl2 : L2.length = cur.size := by rw [hL2, length_splice _ _ _ (by rw [flatR_length, hl1]; show i * 6 + 1 * 6 ≤ cur.size; omega), hl1]
  have hcp1 : ∀ (W : World), W.heap = w.heap → ∀ ty dc sc, (Builtin.copy_ #[51, 51] ty #[.slice (some ⟨g, (i + 1) * 6, none⟩) (n - i) dc, .slice (some ⟨g, i * 6, none⟩) (n + 1 - i) sc]).run Tryd.prog W = .ok (goInt (xs.drop i).length) (W.setRow g L1.toArray) := fun W hW ty dc sc => by
    rw [hL1]
    exact lkcopy_eq W g ((i + 1) * 6) (n - i) dc ⟨g, i * 6, none⟩ (n + 1 - i) sc cur 69 (xs.drop i) ty (by rw [hW]; exact hg) (by rw [hdl]; simp only [Nat.min_def]; split <;> omega)
      (fun j v hj => by rw [Addr.add_lit, cell_blk (by rw [hW]; exact hg)]; exact hfd j v hj) (by rw [hdl]; show (i + 1) * 6 + (n - i) * 6 ≤ cur.size; omega)
  have hcp2 : ∀ (W : World), W.heap[g]? = some (.cells L1.toArray 69 (0, 0)) → W.heap[vb]? = some (.cells cx vT (0, 0)) → ∀ ty dc, (Builtin.copy_ #[51, 51] ty #[.slice (some ⟨g, i * 6, none⟩) (n + 1 - i) dc, .slice (some ⟨vb, 0, none⟩) 1 1]).run Tryd.prog W = .ok (goInt ([x] : List _).length) (W.setRow g L2.toArray) := fun W hWg hWx ty dc => by
    rw [hL2]
    have h := lkcopy_eq W g (i * 6) (n + 1 - i) dc ⟨vb, 0, none⟩ 1 1 L1.toArray 69 [x] ty hWg (by simp only [Nat.min_def, List.length_cons, List.length_nil]; split <;> omega)
      (fun j v hj => by rw [Addr.add_lit, cell_blk hWx, Nat.zero_add]; rw [flatR_one, ← hcx] at hj; simpa using hj) (by rw [List.size_toArray, hl1]; show i * 6 + 1 * 6 ≤ cur.size; omega)
    simpa using h
  have hfin : L2.take ((n + 1) * 6) = flatR encLk (xs.take i ++ x :: xs.drop i) := by
    have hA : L2.take (i * 6) = flatR encLk (xs.take i) := by
      have e1 : L2.take (i * 6) = L1.take (i * 6) := by rw [hL2]; unfold splice; rw [List.take_append_of_le_length (by rw [List.length_take]; omega), List.take_take, Nat.min_self]
      have e2 : L1.take (i * 6) = cur.toList.take (i * 6) := by
        rw [hL1]; unfold splice
        rw [List.take_append_of_le_length (by rw [List.length_take, Array.length_toList]; omega), List.take_take, Nat.min_eq_left (by omega)]
      have e3 : (flatR encLk xs).take (i * 6) = flatR encLk (xs.take i) := flatR_take encLk xs i
      rw [e1, e2, ← e3, ← hcur, List.take_take]
      show _ = List.take (min (i * 6) (n * 6)) _
      rw [Nat.min_eq_left (by omega)]
    have hB : (L2.drop (i * 6)).take 6 = flatR encLk [x] := by
      have hl : (flatR encLk [x]).length = 6 := flatR_length _ _
      rw [hL2]; unfold splice
      rw [List.drop_append_of_le_length (by rw [List.length_take]; omega), List.drop_of_length_le (by rw [List.length_take]; omega), List.nil_append, List.take_append_of_le_length (by omega), List.take_of_length_le (by omega)]
    have hC : (L2.drop ((i + 1) * 6)).take ((n - i) * 6) = flatR encLk (xs.drop i) := by
      have hl : (flatR encLk [x]).length = 6 := flatR_length _ _
      have hl3 : (flatR encLk (xs.drop i)).length = (n - i) * 6 := by rw [flatR_length, hdl]; rfl
      have e1 : L2.drop ((i + 1) * 6) = L1.drop ((i + 1) * 6) := by
        rw [hL2]; unfold splice
        rw [List.drop_append, List.length_take, Nat.min_eq_left (by omega), List.drop_of_length_le (by rw [List.length_take]; omega), List.nil_append, List.drop_append, List.drop_of_length_le (by omega), List.nil_append, List.drop_drop]
        congr 1; omega
      rw [e1, hL1]; unfold splice
      rw [List.drop_append_of_le_length (by rw [List.length_take, Array.length_toList]; omega), List.drop_of_length_le (by rw [List.length_take]; omega), List.nil_append, List.take_append_of_le_length (by omega), List.take_of_length_le (by omega)]
    have e : L2.take ((n + 1) * 6) = L2.take (i * 6) ++ ((L2.drop (i * 6)).take 6 ++ (L2.drop ((i + 1) * 6)).take ((n - i) * 6)) := by
      have e1 : (n + 1) * 6 = i * 6 + (6 + (n - i) * 6) := by omega
      rw [e1, List.take_add, List.take_add, List.drop_drop]
      have e2 : (i + 1) * 6 = i * 6 + 6 := by omega
      rw [e2]
    rw [e, hA, hB, hC, flatR_append, flatR_one, ← flatR_cons]
  have hw1 : IntKind.i64.wrap ((i : Int) + 1) = (i : Int) + 1 := by rw [IntKind.wrap_i64]; omega
  have hw2 : IntKind.i64.wrap ((n : Int) + 1) = (n : Int) + 1 := by rw [IntKind.wrap_i64]; omega
  have hb1 : (0 : Int) ≤ (i : Int) + 1 := by omega
  have htn : ((i : Int) + 1).toNat = i + 1 := by omega
  have htn2 : ((n : Int) + 1).toNat = n + 1 := by omega
  have hz2 : ¬ ((i : Int) = (n : Int)) := by omega
  have hb2 : ¬ (cap = i + 1) := by omega
  have hb3 : (i : Int) ≤ (n : Int) + 1 := by omega
  have hb4 : ¬ (cap = i) := by omega
  have hb5 : (i : Int) + 1 ≤ (n : Int) + 1 := by omega
  have HL3 := Lib.hid (show L2.toArray.size = cap * encLk.k by rw [List.size_toArray, hl2, hcs])
  clear hL1 hL2 hkc hcs hlc hdl hfd hcur hN
  go_enter Tryd.func68, Tryd.ntmps68
  go_wp2_with (simp only [hov])
  have q1 := hcp1 w.drew rfl 3 (cap - (i + 1)) (cap - i)
  clear hcp1
  go_region
  have hWg : (w.drew.setRow g L1.toArray).heap[g]? = some (.cells L1.toArray 69 (0, 0)) := setRow_heap w.drew g cur _ _ _ hg
  have hWx : (w.drew.setRow g L1.toArray).heap[vb]? = some (.cells cx vT (0, 0)) := by rw [setRow_other _ _ _ _ hne]; exact hx
  go_wp2_with (at_builtin; refine wpList_copy_eq rfl _ _ 51 51 rfl _ _ rfl rfl (hcp2 _ hWg hWx _ _) ?_)
  go_ret
  exact ⟨L2.toArray, rfl, setRow_heap _ g _ _ _ _ hWg, hfin, HL3.out, ⟨rfl, rfl, rfl, by simp [World.setRow], fun k _ hk => by
    have : k ≠ g := fun e => hk (by rw [e])
    rw [setRow_other _ _ _ _ this, setRow_other _ _ _ _ this]; rfl⟩⟩
set_option maxRecDepth 100000 in
set_option maxHeartbeats 1600000 in
/-- before the end, without room: a new row -/
theorem lkinsert_grow (i g cap : Nat) (cur : Array Value) (xs : List _) (x : _) (vb vT : Nat) (cx : Array Value) (w : World) (hg : w.heap[g]? = some (.cells cur 69 (0, 0))) (hcur : cur.toList.take (xs.length * encLk.k) = flatR encLk xs) (hcap : ¬ xs.length + 1 ≤ cap) (hcap2 : xs.length ≤ cap)
    (hx : w.heap[vb]? = some (.cells cx vT (0, 0))) (hcx : cx.toList = encLk.enc x) (hi : i < xs.length) (hn : xs.length ≤ 1000000) :
    Calls Tryd.prog 68 #[.slice (some ⟨g, 0, none⟩) xs.length cap, .int .i64 i, .slice (some ⟨vb, 0, none⟩) 1 1] w fun e w' => ∃ v', e = .returned v' ∧ w'.ownsRow w.heap.size 69 encLk.k v' (xs.length + 1) (flatR encLk (xs.take i ++ x :: xs.drop i)) ∧ Below w.heap.size w w' := by
  obtain ⟨n, hN⟩ : ∃ n, xs.length = n := ⟨_, rfl⟩
  obtain ⟨i0, hi0, hz0, hzs, hzb⟩ := info_parts lkRT.info
  rw [hN] at hcur hcap hcap2 hn hi ⊢
  obtain rfl : cap = n := by omega
  have hgl : g < w.heap.size := blk_lt hg
  have hcl : cap * 6 ≤ cur.size := by
    have h := congrArg List.length hcur
    rw [flatR_length, hN, List.length_take, Array.length_toList] at h
    show cap * encLk.k ≤ _
    omega
  have hold : (Builtin.firstCells i0.size i (.slice (some ⟨g, 0, none⟩) i cap)).run Tryd.prog w.drew = .ok (flatR encLk (xs.take i)).toArray w.drew := by
    rw [hzs]
    refine run_firstCells_some w.drew _ i ⟨g, 0, none⟩ i cap (flatR encLk (xs.take i)) (by rw [flatR_length, List.length_take, hN, Nat.min_eq_left (by omega)]) fun j v hj => ?_
    rw [Addr.add_lit, Nat.zero_add, cell_blk (show w.drew.heap[g]? = _ from hg)]
    rw [← flatR_take, ← hcur, List.getElem?_take, List.getElem?_take] at hj
    split at hj
    · split at hj
      · simpa using hj
      · cases hj
    · cases hj
  obtain ⟨G, hG⟩ : ∃ G, grownCap w (cap + 1) cap 69 = G := ⟨_, rfl⟩
  have hGn : cap + 1 ≤ G := by rw [← hG]; exact grownCap_ge w _ _ _
  have hG63 : G ≤ maxLen := by rw [← hG]; exact grownCap_le_maxLen w (cap + 1) cap 69 (by unfold maxLen; omega)
  obtain ⟨R0, hR0⟩ : ∃ R0 : Array Value, (flatR encLk (xs.take i)).toArray ++ Builtin.zeroCells (Value.cells (.agg #[.int .i64 0, .int .i64 0, .int .i64 0, .int .i64 0, .int .i64 0, .int .i64 0])) (cap + 1 - i) ++ Builtin.zeroCells (Value.cells (.agg #[.int .i64 0, .int .i64 0, .int .i64 0, .int .i64 0, .int .i64 0, .int .i64 0])) (G - (cap + 1)) = R0 := ⟨_, rfl⟩
  have hrz : ∀ ty, (Builtin.append_ #[51, 3] ty #[.slice (some ⟨g, 0, none⟩) i cap, .int .i64 ((cap : Int) + 1 - (i : Int))]).run Tryd.prog w =
      .ok (.slice (some ⟨w.heap.size, 0, none⟩) (cap + 1) G) (w.drew.alloc (.cells R0 69)) := fun ty => by
    have h := Lib.run_append_grow_zeros w 51 3 ty 69 i0 _ .i64 .i64 lkRT.ht Tryd.underlying3 hi0 hz0 (some ⟨g, 0, none⟩) i cap (flatR encLk (xs.take i)) hold (cap + 1 - i) (by omega) (by rw [hzs]; exact encLk.pos) (by omega) (by omega) (by rw [hzb]; omega) (by rw [hzb]; exact growslice_fits (by omega) (by omega))
    have e1 : i + (cap + 1 - i) = cap + 1 := by omega
    have e2 : ((cap + 1 - i : Nat) : Int) = (cap : Int) + 1 - (i : Int) := by omega
    rw [e1, e2, hG, hR0] at h
    exact h
  have hRl : R0.size = G * 6 := by
    have e0 : (Value.cells (.agg #[.int .i64 0, .int .i64 0, .int .i64 0, .int .i64 0, .int .i64 0, .int .i64 0])).size = 6 := rfl
    have e1 : (flatR encLk (xs.take i)).length = i * 6 := by rw [flatR_length, List.length_take, hN, Nat.min_eq_left (by omega)]; rfl
    rw [← hR0, Array.size_append, Array.size_append, size_zeroCells, size_zeroCells, e0, List.size_toArray, e1]; omega
  have hRt : R0.toList.take (i * 6) = flatR encLk (xs.take i) := by
    have e1 : (flatR encLk (xs.take i)).length = i * 6 := by rw [flatR_length, List.length_take, hN, Nat.min_eq_left (by omega)]; rfl
    rw [← hR0]
    simp only [Array.toList_append]
    rw [List.append_assoc, List.take_append_of_le_length (by omega), List.take_of_length_le (by omega)]
  clear hold hR0
  obtain ⟨W1, hW1⟩ : ∃ W1, w.drew.alloc (.cells R0 69) = W1 := ⟨_, rfl⟩
  have hW1g : W1.heap[g]? = some (.cells cur 69 (0, 0)) := by rw [← hW1, Below.heap_alloc w.drew _ g hgl]; exact hg
  have hW1x : W1.heap[vb]? = some (.cells cx vT (0, 0)) := by rw [← hW1, Below.heap_alloc w.drew _ vb (blk_lt hx)]; exact hx
  have hW1n : W1.heap[w.heap.size]? = some (.cells R0 69 (0, 0)) := by rw [← hW1]; exact heap_alloc_new w.drew _
  have hbW : Below w.heap.size w W1 := by rw [← hW1]; exact ((Below.refl _ _).drew).alloc (Nat.le_refl _) _
  rw [hW1] at hrz
  have hdl : (xs.drop i).length = cap - i := by rw [List.length_drop, hN]
  obtain ⟨L1, hL1⟩ : ∃ L1, L1 = splice R0.toList (i * 6) (flatR encLk [x]) := ⟨_, rfl⟩
  obtain ⟨L2, hL2⟩ : ∃ L2, L2 = splice L1 ((i + 1) * 6) (flatR encLk (xs.drop i)) := ⟨_, rfl⟩
  have hl1 : L1.length = R0.size := by rw [hL1, length_splice _ _ _ (by rw [flatR_length, Array.length_toList]; show i * 6 + 1 * 6 ≤ R0.size; omega), Array.length_toList]
  have hl2 : L2.length = R0.size := by rw [hL2, length_splice _ _ _ (by rw [flatR_length, hl1, hdl]; show (i + 1) * 6 + (cap - i) * 6 ≤ R0.size; omega), hl1]
  have hcp1 : ∀ (W : World), W = W1 → ∀ ty dc, (Builtin.copy_ #[51, 51] ty #[.slice (some ⟨w.heap.size, i * 6, none⟩) (cap + 1 - i) dc, .slice (some ⟨vb, 0, none⟩) 1 1]).run Tryd.prog W = .ok (goInt ([x] : List _).length) (W1.setRow w.heap.size L1.toArray) := fun W hW ty dc => by
    rw [hL1, hW]
    exact lkcopy_eq W1 w.heap.size (i * 6) (cap + 1 - i) dc ⟨vb, 0, none⟩ 1 1 R0 69 [x] ty hW1n (by simp only [Nat.min_def, List.length_cons, List.length_nil]; split <;> omega)
      (fun j v hj => by rw [Addr.add_lit, cell_blk hW1x, Nat.zero_add]; rw [flatR_one, ← hcx] at hj; simpa using hj) (by show i * 6 + 1 * 6 ≤ R0.size; omega)
  obtain ⟨W2, hW2⟩ : ∃ W2, W1.setRow w.heap.size L1.toArray = W2 := ⟨_, rfl⟩
  have hW2g : W2.heap[g]? = some (.cells cur 69 (0, 0)) := by rw [← hW2, setRow_other _ _ _ _ (by omega)]; exact hW1g
  have hW2n : W2.heap[w.heap.size]? = some (.cells L1.toArray 69 (0, 0)) := by rw [← hW2]; exact setRow_heap _ _ _ _ _ _ hW1n
  have hbW2 : Below w.heap.size w W2 := by rw [← hW2]; exact below_setRow hbW (Nat.le_refl _) _
  rw [hW2] at hcp1
  have hcp2 : ∀ ty dc sc, (Builtin.copy_ #[51, 51] ty #[.slice (some ⟨w.heap.size, (i + 1) * 6, none⟩) (cap - i) dc, .slice (some ⟨g, i * 6, none⟩) (cap - i) sc]).run Tryd.prog W2.drew = .ok (goInt (xs.drop i).length) (W2.drew.setRow w.heap.size L2.toArray) := fun ty dc sc => by
    rw [hL2]
    have h := lkcopy_eq W2.drew w.heap.size ((i + 1) * 6) (cap - i) dc ⟨g, i * 6, none⟩ (cap - i) sc L1.toArray 69 (xs.drop i) ty hW2n (by rw [hdl]; exact (Nat.min_self _).symm)
      (fun j v hj => by
        rw [Addr.add_lit, cell_blk (show W2.drew.heap[g]? = _ from hW2g)]
        have hk : encLk.k = 6 := rfl
        rw [← flatR_drop, ← hcur, List.getElem?_drop, List.getElem?_take, hk] at hj
        split at hj
        · simpa using hj
        · cases hj) (by rw [hdl, List.size_toArray, hl1]; show (i + 1) * 6 + (cap - i) * 6 ≤ R0.size; omega)
    simpa using h
  have hfin : L2.take ((cap + 1) * encLk.k) = flatR encLk (xs.take i ++ x :: xs.drop i) := by
    show L2.take ((cap + 1) * 6) = _
    have hl : (flatR encLk [x]).length = 6 := flatR_length _ _
    have hl3 : (flatR encLk (xs.drop i)).length = (cap - i) * 6 := by rw [flatR_length, hdl]; rfl
    have hA : L2.take (i * 6) = flatR encLk (xs.take i) := by
      have e1 : L2.take (i * 6) = L1.take (i * 6) := by rw [hL2]; unfold splice; rw [List.take_append_of_le_length (by rw [List.length_take]; omega), List.take_take, Nat.min_eq_left (by omega)]
      have e2 : L1.take (i * 6) = R0.toList.take (i * 6) := by
        rw [hL1]; unfold splice
        rw [List.take_append_of_le_length (by rw [List.length_take, Array.length_toList]; omega), List.take_take, Nat.min_self]
      rw [e1, e2, hRt]
    have hB : (L2.drop (i * 6)).take 6 = flatR encLk [x] := by
      have e1 : (L2.drop (i * 6)).take 6 = (L2.take ((i + 1) * 6)).drop (i * 6) := by rw [List.drop_take]; congr 1; omega
      have e2 : L2.take ((i + 1) * 6) = L1.take ((i + 1) * 6) := by rw [hL2]; unfold splice; rw [List.take_append_of_le_length (by rw [List.length_take]; omega), List.take_take, Nat.min_self]
      rw [e1, e2, List.drop_take]
      have e3 : (i + 1) * 6 - i * 6 = 6 := by omega
      rw [e3, hL1]; unfold splice
      rw [List.drop_append_of_le_length (by rw [List.length_take, Array.length_toList]; omega), List.drop_of_length_le (by rw [List.length_take]; omega), List.nil_append, List.take_append_of_le_length (by omega), List.take_of_length_le (by omega)]
    have hC : (L2.drop ((i + 1) * 6)).take ((cap - i) * 6) = flatR encLk (xs.drop i) := by
      rw [hL2]; unfold splice
      rw [List.drop_append_of_le_length (by rw [List.length_take]; omega), List.drop_of_length_le (by rw [List.length_take]; omega), List.nil_append, List.take_append_of_le_length (by omega), List.take_of_length_le (by omega)]
    have e : L2.take ((cap + 1) * 6) = L2.take (i * 6) ++ ((L2.drop (i * 6)).take 6 ++ (L2.drop ((i + 1) * 6)).take ((cap - i) * 6)) := by
      have e1 : (cap + 1) * 6 = i * 6 + (6 + (cap - i) * 6) := by omega
      rw [e1, List.take_add, List.take_add, List.drop_drop]
      have e2 : (i + 1) * 6 = i * 6 + 6 := by omega
      rw [e2]
    rw [e, hA, hB, hC, flatR_append, flatR_one, ← flatR_cons]
  have hRow : ((W2.drew.setRow w.heap.size L2.toArray)).ownsRow w.heap.size 69 encLk.k (.slice (some ⟨w.heap.size, 0, none⟩) (cap + 1) G) (cap + 1) (flatR encLk (xs.take i ++ x :: xs.drop i)) := by
    refine ⟨by rw [flatR_length]; congr 1; rw [List.length_append, List.length_cons, List.length_take, hdl, hN]; omega, .inr ⟨w.heap.size, G, L2.toArray, rfl, Nat.le_refl _, setRow_heap W2.drew _ _ _ _ _ hW2n, hGn, hG63, ?_, hfin⟩⟩
    rw [List.size_toArray, hl2, hRl]; rfl
  have hbE : Below w.heap.size w (W2.drew.setRow w.heap.size L2.toArray) := below_setRow hbW2.drew (Nat.le_refl _) _
  have q1 := hcp2 3 (G - (i + 1)) (cap - i)
  unfold maxLen at hG63
  have hw1 : IntKind.i64.wrap ((i : Int) + 1) = (i : Int) + 1 := by rw [IntKind.wrap_i64]; omega
  have hb1 : (0 : Int) ≤ (i : Int) + 1 := by omega
  have htn : ((i : Int) + 1).toNat = i + 1 := by omega
  have hz2 : ¬ ((i : Int) = (cap : Int)) := by omega
  have hb2 : ¬ (G = i + 1) := by omega
  have hb4 : ¬ (cap = i) := by omega
  have hb5 : ¬ (G = i) := by omega
  have hb6 : (i : Int) ≤ (cap : Int) + 1 := by omega
  have HR := Lib.hid hRow
  have HB := Lib.hid hbE
  clear hL1 hL2 hl1 hl2 hcp2 hRow hbE hfin hRt hRl hW1 hW2 hW1g hW1x hW1n hW2g hW2n hG hN hcl hdl hcur hbW hbW2 hzs hzb hi0 hz0
  go_enter Tryd.func68, Tryd.ntmps68
  go_wp2_with (first
    | (at_builtin; refine Lib.wpList_append_run _ rfl _ _ _ _ rfl _ _ rfl rfl _ _ (hrz _) ?_)
    | (at_builtin; refine wpList_copy_eq rfl _ _ 51 51 rfl _ _ rfl rfl (hcp1 _ rfl _ _) ?_))
  go_region
  go_wp2
  go_ret
  exact ⟨_, rfl, HR.out, HB.out⟩
/-- AN ELEMENT IS INSERTED into a row that the caller owns. -/
theorem lkinsert_any (base i : Nat) (xs : List _) (x : _) (v : Value) (vb vT : Nat) (cx : Array Value) (w : World) (hown : w.ownsRow base 69 encLk.k v xs.length (flatR encLk xs))
    (hx : w.heap[vb]? = some (.cells cx vT (0, 0))) (hcx : cx.toList = encLk.enc x) (hne : v.ownBlock ≠ some vb) (hbase : base ≤ w.heap.size) (hi : i ≤ xs.length) (hn : xs.length ≤ 1000000) :
    Calls Tryd.prog 68 #[v, .int .i64 i, .slice (some ⟨vb, 0, none⟩) 1 1] w fun e w' => ∃ v', e = .returned v' ∧ w'.ownsRow base 69 encLk.k v' (xs.take i ++ x :: xs.drop i).length (flatR encLk (xs.take i ++ x :: xs.drop i)) ∧ w.grownBy w' v.ownBlock := by
  by_cases hin : i = xs.length
  · subst hin
    have e : xs.take xs.length ++ x :: xs.drop xs.length = xs ++ [x] := by rw [List.take_length, List.drop_length]
    rw [e]
    exact lkinsert_end base xs x v vb vT cx w hown hx hcx hne hbase hn
  · have hl : (xs.take i ++ x :: xs.drop i).length = xs.length + 1 := by rw [List.length_append, List.length_cons, List.length_take, List.length_drop]; omega
    rw [hl]
    obtain ⟨_, ⟨_, h0⟩ | ⟨g, cap, cur, rfl, hg, hG, hc1, hc2, hs, ht⟩⟩ := hown
    · omega
    · by_cases hr : xs.length + 1 ≤ cap
      · refine (lkinsert_room i g cap cur xs x vb vT cx w hG ht hs hr hc2 hx hcx (fun e => hne (by rw [e]; rfl)) (by omega) hn).mono ?_
        rintro e w' ⟨cur', rfl, hG', ht', hs', hgr⟩
        exact ⟨_, rfl, ⟨by rw [flatR_length, hl], .inr ⟨g, cap, cur', rfl, hg, hG', hr, hc2, hs', ht'⟩⟩, hgr⟩
      · refine (lkinsert_grow i g cap cur xs x vb vT cx w hG ht hr hc1 hx hcx (by omega) hn).mono ?_
        rintro e w' ⟨v', rfl, ho, hb⟩
        refine ⟨v', rfl, ⟨ho.1, ?_⟩, grown_none (grown_of_below hb)⟩
        rcases ho.2 with h | ⟨g', cap', cur', h1, h2, h3⟩
        · exact .inl h
        · exact .inr ⟨g', cap', cur', h1, by omega, h3⟩
end Go.Proofs.YtpblaoeaeljmhaaDoor
