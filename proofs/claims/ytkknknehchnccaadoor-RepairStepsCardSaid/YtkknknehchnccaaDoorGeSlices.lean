/- Edges as elements of two cells. The contracts of slices.Clone, Insert, Delete at a slice of 2 cells an element. The contract of slices.Delete at a slice of edges (one edge that goes). -/
import Derived.Test.YtkknknehchnccaaDoorSeqs
import Derived.Deep.RegionLaw
import Derived.Deep.RegionWith
import Derived.Test.YtkknknehchnccaaDoorAppAt
namespace Go.Proofs.YtkknknehchnccaaDoor
open Go.RowKit Go.BigFrame

def encE : Enc E2 := ⟨2, fun p => [.int .i64 p.1, .int .i64 p.2], fun _ => rfl, fun e u hu => by simp at hu; rcases hu with h | h <;> subst h <;> rfl, by decide⟩
theorem flatR_E (es : List E2) : flatR encE es = flatE es := rfl
theorem EdgesAt.row {w : World} {v : Value} {es : List E2} (h : EdgesAt w v es) (hl : es.length ≤ 1000000) : RowAt encE w v es := by
  obtain ⟨a, cap, rfl, h1, h2, _, h4⟩ := h
  refine ⟨a, cap, rfl, h1, h2, by omega, fun j u hj => ?_⟩
  have hjl := (List.getElem?_eq_some_iff.1 hj).1
  rw [flatR_length] at hjl
  have hk : encE.k = 2 := rfl
  rw [hk] at hjl
  have hq : j / 2 < es.length := by omega
  obtain ⟨b, off, ha, c0, c1⟩ := h4 (j / 2) _ (List.getElem?_eq_getElem hq)
  refine ⟨b, off, ha, ?_⟩
  have hu : (flatE es)[j]? = some u := hj
  by_cases hp : j % 2 = 0
  · have hj2 : j = j / 2 * 2 := by omega
    rw [hj2] at hu ⊢
    rw [(flatE_get es _ _ (List.getElem?_eq_getElem hq)).1] at hu
    rw [← Option.some.inj hu]
    exact c0
  · have hj2 : j = j / 2 * 2 + 1 := by omega
    rw [hj2] at hu ⊢
    rw [(flatE_get es _ _ (List.getElem?_eq_getElem hq)).2] at hu
    rw [← Option.some.inj hu]
    exact c1
end Go.Proofs.YtkknknehchnccaaDoor

namespace Go.Proofs.YtkknknehchnccaaDoor
open Go.RowKit Go.BigFrame

theorem geRT : SliceT Tryd.prog 23 39 (.agg #[.int .i64 0, .int .i64 0]) encE.k 16 := ⟨Tryd.underlying23, by kernel_rfl, rfl, by decide⟩
theorem ge_nil (x : Addr) (n c : Nat) (w : World) : (binOp .eql 23 (.slice (some x) n c) (.slice none 0 0)).run Tryd.prog w = .ok (.bool false) w := by
  have h : ∀ d : Nat, (Op.equalIn (d + 1) 23 (.slice (some x) n c) (.slice none 0 0)).run Tryd.prog w = .ok false w := fun d => by
    simp [Op.equalIn, run_underlying Tryd.underlying23]
  simp only [binOp]
  simp [Op.equal, Op.maxDepth, h 9999]
set_option maxRecDepth 100000 in
theorem geclone_any (v : Value) (xs : List _) (w : World) (hi : RowAt encE w v xs) (hn : xs.length ≤ 1000000) :
    Calls Tryd.prog 86 #[v] w fun e w' => ∃ x, e = .returned x ∧ w'.ownsRow w.heap.size 39 encE.k x xs.length (flatR encE xs) ∧ Below w.heap.size w w' := by
  obtain ⟨a, cap, rfl, h1, h2⟩ := hi.shape
  cases a with
  | none =>
    obtain rfl := h2 rfl
    obtain rfl : xs = [] := List.eq_nil_of_length_eq_zero (by omega)
    have hnil := @Lib.run_eql_slice_nil
    go_enter Tryd.func86, Tryd.ntmps86
    go_wp2
    go_ret
    exact ⟨_, rfl, World.ownsRow_nil _ _ _ _, Below.refl _ _⟩
  | some ad =>
    clear h2
    have hnil := ge_nil ad xs.length cap
    have hb0 : Below w.heap.size w (w.alloc (.cells #[] 39)) := (Below.refl _ _).alloc (Nat.le_refl _) _
    have hown0 : (w.alloc (.cells #[] 39)).ownsRow w.heap.size 39 encE.k (.slice (some ⟨w.heap.size, 0, none⟩) 0 0) 0 (flatR encE []) := World.ownsRow_lit w #[] 0 (Nat.le_refl _) (by unfold maxLen; omega) rfl
    go_enter Tryd.func86, Tryd.ntmps86
    go_wp2_with (at_builtin; refine wpList_app_rows geRT rfl _ _ rfl w.heap.size _ _ [] xs rfl hown0 rfl (hi.below hb0) (by simp; omega) (by simp; omega) (by simp) ?_; intro v6 w6 hown6 hg6)
    go_ret
    have hb6 := below_app' hb0 hown0 hg6
    rw [List.nil_append] at hown6
    exact ⟨_, rfl, hown6, hb6⟩
theorem ge_size : (Tryd.prog.info? 39).map (·.size) = some encE.k := by
  obtain ⟨i, hi, _, hs, _⟩ := info_parts geRT.info
  rw [hi]; exact congrArg some hs
/-- copy into a known block of such elements -/
theorem gecopy_eq (w : World) (g o dLen dCap : Nat) (a : Addr) (sLen sCap : Nat) (cur : Array Value) (t : TypeId) (ys : List _) (ty : TypeId)
    (hg : w.heap[g]? = some (.cells cur t (0, 0))) (hn : ys.length = Nat.min sLen dLen) (hsrc : ∀ j v, (flatR encE ys)[j]? = some v → w.cell? (a.add j) = some v) (hfit : o + ys.length * encE.k ≤ cur.size) :
    (Builtin.copy_ #[23, 23] ty #[.slice (some ⟨g, o, none⟩) dLen dCap, .slice (some a) sLen sCap]).run Tryd.prog w = .ok (goInt ys.length) (w.setRow g (splice cur.toList o (flatR encE ys)).toArray) := by
  rw [hn]
  exact run_copy_rowK w _ _ ty 39 encE.k g o dLen dCap a sLen sCap cur t (flatR encE ys) geRT.ht ge_size hg (by rw [flatR_length, hn]) hsrc (by rw [flatR_length]; exact hfit) (flatR_oneCell _ _)
set_option maxRecDepth 100000 in
set_option maxHeartbeats 1600000 in
/-- at the end -/
theorem geinsert_end (base : Nat) (xs : List _) (x : _) (v : Value) (vb vT : Nat) (cx : Array Value) (w : World) (hown : w.ownsRow base 39 encE.k v xs.length (flatR encE xs))
    (hx : w.heap[vb]? = some (.cells cx vT (0, 0))) (hcx : cx.toList = encE.enc x) (hne : v.ownBlock ≠ some vb) (hbase : base ≤ w.heap.size) (hn : xs.length ≤ 1000000) :
    Calls Tryd.prog 121 #[v, .int .i64 xs.length, .slice (some ⟨vb, 0, none⟩) 1 1] w fun e w' => ∃ v', e = .returned v' ∧ w'.ownsRow base 39 encE.k v' (xs ++ [x]).length (flatR encE (xs ++ [x])) ∧ w.grownBy w' v.ownBlock := by
  have hsrc : RowAt encE w (.slice (some ⟨vb, 0, none⟩) 1 1) [x] := ⟨_, 1, rfl, Nat.le_refl _, (fun h => by cases h), by simp, fun j u hj => ⟨vb, 0, rfl, by rw [cell_blk hx, Nat.zero_add]; rw [flatR_one, ← hcx] at hj; simpa using hj⟩⟩
  obtain ⟨a, cap, hv⟩ := owns_shape hown
  subst hv
  by_cases hcap : cap = xs.length
  all_goals
    have hsh : xs.length ≤ cap ∧ (a = none → cap = 0) := by
      rcases hown.2 with ⟨h, h0⟩ | ⟨g, cp, cur, h, _, _, h1, _⟩
      · obtain ⟨_, _, e3⟩ := Value.slice.inj h; exact ⟨by omega, fun _ => e3⟩
      · cases h; exact ⟨h1, fun h => by cases h⟩
    have HC := Lib.hid hcap
    first | (subst hcap) | skip
    go_enter Tryd.func121, Tryd.ntmps121
    go_wp2_with (at_builtin; refine wpList_app_rows geRT rfl _ _ rfl base _ _ xs [x] rfl hown rfl hsrc (by simp; omega) (by simp; omega) hbase ?_; intro v6 w6 hown6 hg6)
    go_ret
    exact ⟨v6, rfl, by simpa using hown6, hg6⟩
set_option maxRecDepth 100000 in
set_option maxHeartbeats 1600000 in
/-- before the end, with room: in place -/
theorem geinsert_room (i g cap : Nat) (cur : Array Value) (xs : List _) (x : _) (vb vT : Nat) (cx : Array Value) (w : World) (hg : w.heap[g]? = some (.cells cur 39 (0, 0))) (hcur : cur.toList.take (xs.length * encE.k) = flatR encE xs) (hcs : cur.size = cap * encE.k) (hcap : xs.length + 1 ≤ cap) (_hcap2 : cap ≤ maxLen)
    (hx : w.heap[vb]? = some (.cells cx vT (0, 0))) (hcx : cx.toList = encE.enc x) (hne : vb ≠ g) (hi : i < xs.length) (hn : xs.length ≤ 1000000) :
    Calls Tryd.prog 121 #[.slice (some ⟨g, 0, none⟩) xs.length cap, .int .i64 i, .slice (some ⟨vb, 0, none⟩) 1 1] w fun e w' => ∃ cur', e = .returned (.slice (some ⟨g, 0, none⟩) (xs.length + 1) cap) ∧ w'.heap[g]? = some (.cells cur' 39 (0, 0)) ∧ cur'.toList.take ((xs.length + 1) * encE.k) = flatR encE (xs.take i ++ x :: xs.drop i) ∧ cur'.size = cap * encE.k ∧ w.grownBy w' (some g) := by
  unfold maxLen at _hcap2
  obtain ⟨n, hN⟩ : ∃ n, xs.length = n := ⟨_, rfl⟩
  have hlc : cur.toList.length = cap * encE.k := by rw [Array.length_toList]; exact hcs
  have hkc : (n + 1) * 2 ≤ cur.size := by have := Nat.mul_le_mul_right 2 hcap; rw [hN] at this; rw [hcs]; exact this
  rw [hN] at hcur hcap hn hi ⊢
  have hov : ∀ lb cb, (callFunc 142 #[.slice (some ⟨vb, 0, none⟩) 1 1, .slice (some ⟨g, (i + 1) * 2, none⟩) lb cb]).run Tryd.prog w = .ok (.value (.bool false)) w := fun lb cb => by
    rw [run_callFunc_extern Tryd.func142 (by kernel_rfl) (by kernel_rfl) (by kernel_rfl) (e := Extern.SlicesOverlaps.overlaps #[23, 23] #[4]) (by kernel_rfl),
      Lib.run_overlaps_apart w 23 4 39 geRT.ht 2 (fun _ => by kernel_rfl) ⟨vb, 0, none⟩ ⟨g, (i + 1) * 2, none⟩ 1 1 lb cb hne vT 39 cx.size cur.size (by simp [World.shape?, hx]) (by simp [World.shape?, hg]) (by omega) (by simp [World.frozen?, hx]) (by simp [World.frozen?, hx])]
    rfl
  have hdl : (xs.drop i).length = n - i := by rw [List.length_drop, hN]
  have hfd : ∀ j v, (flatR encE (xs.drop i))[j]? = some v → cur[i * 2 + j]? = some v := by
    intro j v hj
    have hjl := (List.getElem?_eq_some_iff.1 hj).1
    rw [flatR_length, hdl] at hjl
    have hk : encE.k = 2 := rfl
    have e := flatR_drop encE xs i
    rw [← e, ← hcur, List.getElem?_drop, List.getElem?_take, hk] at hj
    split at hj
    · simpa using hj
    · cases hj
  obtain ⟨L1, hL1⟩ : ∃ L1, L1 = splice cur.toList ((i + 1) * 2) (flatR encE (xs.drop i)) := ⟨_, rfl⟩
  obtain ⟨L2, hL2⟩ : ∃ L2, L2 = splice L1 (i * 2) (flatR encE [x]) := ⟨_, rfl⟩
  have hl1 : L1.length = cur.size := by rw [hL1, length_splice _ _ _ (by rw [flatR_length, hdl]; show (i + 1) * 2 + (n - i) * 2 ≤ cur.toList.length; rw [Array.length_toList]; omega), Array.length_toList]
  have hl2 : L2.length = cur.size := by rw [hL2, length_splice _ _ _ (by rw [flatR_length, hl1]; show i * 2 + 1 * 2 ≤ cur.size; omega), hl1]
  have hcp1 : ∀ (W : World), W.heap = w.heap → ∀ ty dc sc, (Builtin.copy_ #[23, 23] ty #[.slice (some ⟨g, (i + 1) * 2, none⟩) (n - i) dc, .slice (some ⟨g, i * 2, none⟩) (n + 1 - i) sc]).run Tryd.prog W = .ok (goInt (xs.drop i).length) (W.setRow g L1.toArray) := fun W hW ty dc sc => by
    rw [hL1]
    exact gecopy_eq W g ((i + 1) * 2) (n - i) dc ⟨g, i * 2, none⟩ (n + 1 - i) sc cur 39 (xs.drop i) ty (by rw [hW]; exact hg) (by rw [hdl]; simp only [Nat.min_def]; split <;> omega)
      (fun j v hj => by rw [Addr.add_lit, cell_blk (by rw [hW]; exact hg)]; exact hfd j v hj) (by rw [hdl]; show (i + 1) * 2 + (n - i) * 2 ≤ cur.size; omega)
  have hcp2 : ∀ (W : World), W.heap[g]? = some (.cells L1.toArray 39 (0, 0)) → W.heap[vb]? = some (.cells cx vT (0, 0)) → ∀ ty dc, (Builtin.copy_ #[23, 23] ty #[.slice (some ⟨g, i * 2, none⟩) (n + 1 - i) dc, .slice (some ⟨vb, 0, none⟩) 1 1]).run Tryd.prog W = .ok (goInt ([x] : List _).length) (W.setRow g L2.toArray) := fun W hWg hWx ty dc => by
    rw [hL2]
    have h := gecopy_eq W g (i * 2) (n + 1 - i) dc ⟨vb, 0, none⟩ 1 1 L1.toArray 39 [x] ty hWg (by simp only [Nat.min_def, List.length_cons, List.length_nil]; split <;> omega)
      (fun j v hj => by rw [Addr.add_lit, cell_blk hWx, Nat.zero_add]; rw [flatR_one, ← hcx] at hj; simpa using hj) (by rw [List.size_toArray, hl1]; show i * 2 + 1 * 2 ≤ cur.size; omega)
    simpa using h
  have hfin : L2.take ((n + 1) * 2) = flatR encE (xs.take i ++ x :: xs.drop i) := by
    have hA : L2.take (i * 2) = flatR encE (xs.take i) := by
      have e1 : L2.take (i * 2) = L1.take (i * 2) := by rw [hL2]; unfold splice; rw [List.take_append_of_le_length (by rw [List.length_take]; omega), List.take_take, Nat.min_self]
      have e2 : L1.take (i * 2) = cur.toList.take (i * 2) := by
        rw [hL1]; unfold splice
        rw [List.take_append_of_le_length (by rw [List.length_take, Array.length_toList]; omega), List.take_take, Nat.min_eq_left (by omega)]
      have e3 : (flatR encE xs).take (i * 2) = flatR encE (xs.take i) := flatR_take encE xs i
      rw [e1, e2, ← e3, ← hcur, List.take_take]
      show _ = List.take (min (i * 2) (n * 2)) _
      rw [Nat.min_eq_left (by omega)]
    have hB : (L2.drop (i * 2)).take 2 = flatR encE [x] := by
      have hl : (flatR encE [x]).length = 2 := flatR_length _ _
      rw [hL2]; unfold splice
      rw [List.drop_append_of_le_length (by rw [List.length_take]; omega), List.drop_of_length_le (by rw [List.length_take]; omega), List.nil_append, List.take_append_of_le_length (by omega), List.take_of_length_le (by omega)]
    have hC : (L2.drop ((i + 1) * 2)).take ((n - i) * 2) = flatR encE (xs.drop i) := by
      have hl : (flatR encE [x]).length = 2 := flatR_length _ _
      have hl3 : (flatR encE (xs.drop i)).length = (n - i) * 2 := by rw [flatR_length, hdl]; rfl
      have e1 : L2.drop ((i + 1) * 2) = L1.drop ((i + 1) * 2) := by
        rw [hL2]; unfold splice
        rw [List.drop_append, List.length_take, Nat.min_eq_left (by omega), List.drop_of_length_le (by rw [List.length_take]; omega), List.nil_append, List.drop_append, List.drop_of_length_le (by omega), List.nil_append, List.drop_drop]
        congr 1; omega
      rw [e1, hL1]; unfold splice
      rw [List.drop_append_of_le_length (by rw [List.length_take, Array.length_toList]; omega), List.drop_of_length_le (by rw [List.length_take]; omega), List.nil_append, List.take_append_of_le_length (by omega), List.take_of_length_le (by omega)]
    have e : L2.take ((n + 1) * 2) = L2.take (i * 2) ++ ((L2.drop (i * 2)).take 2 ++ (L2.drop ((i + 1) * 2)).take ((n - i) * 2)) := by
      have e1 : (n + 1) * 2 = i * 2 + (2 + (n - i) * 2) := by omega
      rw [e1, List.take_add, List.take_add, List.drop_drop]
      have e2 : (i + 1) * 2 = i * 2 + 2 := by omega
      rw [e2]
    rw [e, hA, hB, hC, flatR_append, flatR_one, ← flatR_cons]
  have hw1 : IntKind.i64.wrap ((i : Int) + 1) = (i : Int) + 1 := by rw [IntKind.wrap_i64]; omega
  have hw2 : IntKind.i64.wrap ((n : Int) + 1) = (n : Int) + 1 := by rw [IntKind.wrap_i64]; omega
  have hb1 : (0 : Int) ≤ (i : Int) + 1 := by omega
  have htn : ((i : Int) + 1).toNat = i + 1 := by omega
  have htn2 : ((n : Int) + 1).toNat = n + 1 := by omega
  have hz2 : ¬ ((i : Int) = (n : Int)) := by omega
  have hb2 : ¬ (cap = i + 1) := by omega
  have hb3 : (i : Int) ≤ (n : Int) + 1 := by omega
  have hb4 : ¬ (cap = i) := by omega
  have hb5 : (i : Int) + 1 ≤ (n : Int) + 1 := by omega
  have HL3 := Lib.hid (show L2.toArray.size = cap * encE.k by rw [List.size_toArray, hl2, hcs])
  clear hL1 hL2 hkc hcs hlc hdl hfd hcur hN
  go_enter Tryd.func121, Tryd.ntmps121
  go_wp2_with (simp only [hov])
  have q1 := hcp1 w.drew rfl 3 (cap - (i + 1)) (cap - i)
  clear hcp1
  go_region
  have hWg : (w.drew.setRow g L1.toArray).heap[g]? = some (.cells L1.toArray 39 (0, 0)) := setRow_heap w.drew g cur _ _ _ hg
  have hWx : (w.drew.setRow g L1.toArray).heap[vb]? = some (.cells cx vT (0, 0)) := by rw [setRow_other _ _ _ _ hne]; exact hx
  go_wp2_with (at_builtin; refine wpList_copy_eq rfl _ _ 23 23 rfl _ _ rfl rfl (hcp2 _ hWg hWx _ _) ?_)
  go_ret
  exact ⟨L2.toArray, rfl, setRow_heap _ g _ _ _ _ hWg, hfin, HL3.out, ⟨rfl, rfl, rfl, by simp [World.setRow], fun k _ hk => by
    have : k ≠ g := fun e => hk (by rw [e])
    rw [setRow_other _ _ _ _ this, setRow_other _ _ _ _ this]; rfl⟩⟩
set_option maxRecDepth 100000 in
set_option maxHeartbeats 1600000 in
/-- before the end, without room: a new row -/
theorem geinsert_grow (i g cap : Nat) (cur : Array Value) (xs : List _) (x : _) (vb vT : Nat) (cx : Array Value) (w : World) (hg : w.heap[g]? = some (.cells cur 39 (0, 0))) (hcur : cur.toList.take (xs.length * encE.k) = flatR encE xs) (hcap : ¬ xs.length + 1 ≤ cap) (hcap2 : xs.length ≤ cap)
    (hx : w.heap[vb]? = some (.cells cx vT (0, 0))) (hcx : cx.toList = encE.enc x) (hi : i < xs.length) (hn : xs.length ≤ 1000000) :
    Calls Tryd.prog 121 #[.slice (some ⟨g, 0, none⟩) xs.length cap, .int .i64 i, .slice (some ⟨vb, 0, none⟩) 1 1] w fun e w' => ∃ v', e = .returned v' ∧ w'.ownsRow w.heap.size 39 encE.k v' (xs.length + 1) (flatR encE (xs.take i ++ x :: xs.drop i)) ∧ Below w.heap.size w w' := by
  obtain ⟨n, hN⟩ : ∃ n, xs.length = n := ⟨_, rfl⟩
  obtain ⟨i0, hi0, hz0, hzs, hzb⟩ := info_parts geRT.info
  rw [hN] at hcur hcap hcap2 hn hi ⊢
  obtain rfl : cap = n := by omega
  have hgl : g < w.heap.size := blk_lt hg
  have hcl : cap * 2 ≤ cur.size := by
    have h := congrArg List.length hcur
    rw [flatR_length, hN, List.length_take, Array.length_toList] at h
    show cap * encE.k ≤ _
    omega
  have hold : (Builtin.firstCells i0.size i (.slice (some ⟨g, 0, none⟩) i cap)).run Tryd.prog w.drew = .ok (flatR encE (xs.take i)).toArray w.drew := by
    rw [hzs]
    refine run_firstCells_some w.drew _ i ⟨g, 0, none⟩ i cap (flatR encE (xs.take i)) (by rw [flatR_length, List.length_take, hN, Nat.min_eq_left (by omega)]) fun j v hj => ?_
    rw [Addr.add_lit, Nat.zero_add, cell_blk (show w.drew.heap[g]? = _ from hg)]
    rw [← flatR_take, ← hcur, List.getElem?_take, List.getElem?_take] at hj
    split at hj
    · split at hj
      · simpa using hj
      · cases hj
    · cases hj
  obtain ⟨G, hG⟩ : ∃ G, grownCap w (cap + 1) cap 39 = G := ⟨_, rfl⟩
  have hGn : cap + 1 ≤ G := by rw [← hG]; exact grownCap_ge w _ _ _
  have hG63 : G ≤ maxLen := by rw [← hG]; exact grownCap_le_maxLen w (cap + 1) cap 39 (by unfold maxLen; omega)
  obtain ⟨R0, hR0⟩ : ∃ R0 : Array Value, (flatR encE (xs.take i)).toArray ++ Builtin.zeroCells (Value.cells (.agg #[.int .i64 0, .int .i64 0])) (cap + 1 - i) ++ Builtin.zeroCells (Value.cells (.agg #[.int .i64 0, .int .i64 0])) (G - (cap + 1)) = R0 := ⟨_, rfl⟩
  have hrz : ∀ ty, (Builtin.append_ #[23, 3] ty #[.slice (some ⟨g, 0, none⟩) i cap, .int .i64 ((cap : Int) + 1 - (i : Int))]).run Tryd.prog w =
      .ok (.slice (some ⟨w.heap.size, 0, none⟩) (cap + 1) G) (w.drew.alloc (.cells R0 39)) := fun ty => by
    have h := Lib.run_append_grow_zeros w 23 3 ty 39 i0 _ .i64 .i64 geRT.ht Tryd.underlying3 hi0 hz0 (some ⟨g, 0, none⟩) i cap (flatR encE (xs.take i)) hold (cap + 1 - i) (by omega) (by rw [hzs]; exact encE.pos) (by omega) (by omega) (by rw [hzb]; omega) (by rw [hzb]; exact growslice_fits (by omega) (by omega))
    have e1 : i + (cap + 1 - i) = cap + 1 := by omega
    have e2 : ((cap + 1 - i : Nat) : Int) = (cap : Int) + 1 - (i : Int) := by omega
    rw [e1, e2, hG, hR0] at h
    exact h
  have hRl : R0.size = G * 2 := by
    have e0 : (Value.cells (.agg #[.int .i64 0, .int .i64 0])).size = 2 := rfl
    have e1 : (flatR encE (xs.take i)).length = i * 2 := by rw [flatR_length, List.length_take, hN, Nat.min_eq_left (by omega)]; rfl
    rw [← hR0, Array.size_append, Array.size_append, size_zeroCells, size_zeroCells, e0, List.size_toArray, e1]; omega
  have hRt : R0.toList.take (i * 2) = flatR encE (xs.take i) := by
    have e1 : (flatR encE (xs.take i)).length = i * 2 := by rw [flatR_length, List.length_take, hN, Nat.min_eq_left (by omega)]; rfl
    rw [← hR0]
    simp only [Array.toList_append]
    rw [List.append_assoc, List.take_append_of_le_length (by omega), List.take_of_length_le (by omega)]
  clear hold hR0
  obtain ⟨W1, hW1⟩ : ∃ W1, w.drew.alloc (.cells R0 39) = W1 := ⟨_, rfl⟩
  have hW1g : W1.heap[g]? = some (.cells cur 39 (0, 0)) := by rw [← hW1, Below.heap_alloc w.drew _ g hgl]; exact hg
  have hW1x : W1.heap[vb]? = some (.cells cx vT (0, 0)) := by rw [← hW1, Below.heap_alloc w.drew _ vb (blk_lt hx)]; exact hx
  have hW1n : W1.heap[w.heap.size]? = some (.cells R0 39 (0, 0)) := by rw [← hW1]; exact heap_alloc_new w.drew _
  have hbW : Below w.heap.size w W1 := by rw [← hW1]; exact ((Below.refl _ _).drew).alloc (Nat.le_refl _) _
  rw [hW1] at hrz
  have hdl : (xs.drop i).length = cap - i := by rw [List.length_drop, hN]
  obtain ⟨L1, hL1⟩ : ∃ L1, L1 = splice R0.toList (i * 2) (flatR encE [x]) := ⟨_, rfl⟩
  obtain ⟨L2, hL2⟩ : ∃ L2, L2 = splice L1 ((i + 1) * 2) (flatR encE (xs.drop i)) := ⟨_, rfl⟩
  have hl1 : L1.length = R0.size := by rw [hL1, length_splice _ _ _ (by rw [flatR_length, Array.length_toList]; show i * 2 + 1 * 2 ≤ R0.size; omega), Array.length_toList]
  have hl2 : L2.length = R0.size := by rw [hL2, length_splice _ _ _ (by rw [flatR_length, hl1, hdl]; show (i + 1) * 2 + (cap - i) * 2 ≤ R0.size; omega), hl1]
  have hcp1 : ∀ (W : World), W = W1 → ∀ ty dc, (Builtin.copy_ #[23, 23] ty #[.slice (some ⟨w.heap.size, i * 2, none⟩) (cap + 1 - i) dc, .slice (some ⟨vb, 0, none⟩) 1 1]).run Tryd.prog W = .ok (goInt ([x] : List _).length) (W1.setRow w.heap.size L1.toArray) := fun W hW ty dc => by
    rw [hL1, hW]
    exact gecopy_eq W1 w.heap.size (i * 2) (cap + 1 - i) dc ⟨vb, 0, none⟩ 1 1 R0 39 [x] ty hW1n (by simp only [Nat.min_def, List.length_cons, List.length_nil]; split <;> omega)
      (fun j v hj => by rw [Addr.add_lit, cell_blk hW1x, Nat.zero_add]; rw [flatR_one, ← hcx] at hj; simpa using hj) (by show i * 2 + 1 * 2 ≤ R0.size; omega)
  obtain ⟨W2, hW2⟩ : ∃ W2, W1.setRow w.heap.size L1.toArray = W2 := ⟨_, rfl⟩
  have hW2g : W2.heap[g]? = some (.cells cur 39 (0, 0)) := by rw [← hW2, setRow_other _ _ _ _ (by omega)]; exact hW1g
  have hW2n : W2.heap[w.heap.size]? = some (.cells L1.toArray 39 (0, 0)) := by rw [← hW2]; exact setRow_heap _ _ _ _ _ _ hW1n
  have hbW2 : Below w.heap.size w W2 := by rw [← hW2]; exact below_setRow hbW (Nat.le_refl _) _
  rw [hW2] at hcp1
  have hcp2 : ∀ ty dc sc, (Builtin.copy_ #[23, 23] ty #[.slice (some ⟨w.heap.size, (i + 1) * 2, none⟩) (cap - i) dc, .slice (some ⟨g, i * 2, none⟩) (cap - i) sc]).run Tryd.prog W2.drew = .ok (goInt (xs.drop i).length) (W2.drew.setRow w.heap.size L2.toArray) := fun ty dc sc => by
    rw [hL2]
    have h := gecopy_eq W2.drew w.heap.size ((i + 1) * 2) (cap - i) dc ⟨g, i * 2, none⟩ (cap - i) sc L1.toArray 39 (xs.drop i) ty hW2n (by rw [hdl]; exact (Nat.min_self _).symm)
      (fun j v hj => by
        rw [Addr.add_lit, cell_blk (show W2.drew.heap[g]? = _ from hW2g)]
        have hk : encE.k = 2 := rfl
        rw [← flatR_drop, ← hcur, List.getElem?_drop, List.getElem?_take, hk] at hj
        split at hj
        · simpa using hj
        · cases hj) (by rw [hdl, List.size_toArray, hl1]; show (i + 1) * 2 + (cap - i) * 2 ≤ R0.size; omega)
    simpa using h
  have hfin : L2.take ((cap + 1) * encE.k) = flatR encE (xs.take i ++ x :: xs.drop i) := by
    show L2.take ((cap + 1) * 2) = _
    have hl : (flatR encE [x]).length = 2 := flatR_length _ _
    have hl3 : (flatR encE (xs.drop i)).length = (cap - i) * 2 := by rw [flatR_length, hdl]; rfl
    have hA : L2.take (i * 2) = flatR encE (xs.take i) := by
      have e1 : L2.take (i * 2) = L1.take (i * 2) := by rw [hL2]; unfold splice; rw [List.take_append_of_le_length (by rw [List.length_take]; omega), List.take_take, Nat.min_eq_left (by omega)]
      have e2 : L1.take (i * 2) = R0.toList.take (i * 2) := by
        rw [hL1]; unfold splice
        rw [List.take_append_of_le_length (by rw [List.length_take, Array.length_toList]; omega), List.take_take, Nat.min_self]
      rw [e1, e2, hRt]
    have hB : (L2.drop (i * 2)).take 2 = flatR encE [x] := by
      have e1 : (L2.drop (i * 2)).take 2 = (L2.take ((i + 1) * 2)).drop (i * 2) := by rw [List.drop_take]; congr 1; omega
      have e2 : L2.take ((i + 1) * 2) = L1.take ((i + 1) * 2) := by rw [hL2]; unfold splice; rw [List.take_append_of_le_length (by rw [List.length_take]; omega), List.take_take, Nat.min_self]
      rw [e1, e2, List.drop_take]
      have e3 : (i + 1) * 2 - i * 2 = 2 := by omega
      rw [e3, hL1]; unfold splice
      rw [List.drop_append_of_le_length (by rw [List.length_take, Array.length_toList]; omega), List.drop_of_length_le (by rw [List.length_take]; omega), List.nil_append, List.take_append_of_le_length (by omega), List.take_of_length_le (by omega)]
    have hC : (L2.drop ((i + 1) * 2)).take ((cap - i) * 2) = flatR encE (xs.drop i) := by
      rw [hL2]; unfold splice
      rw [List.drop_append_of_le_length (by rw [List.length_take]; omega), List.drop_of_length_le (by rw [List.length_take]; omega), List.nil_append, List.take_append_of_le_length (by omega), List.take_of_length_le (by omega)]
    have e : L2.take ((cap + 1) * 2) = L2.take (i * 2) ++ ((L2.drop (i * 2)).take 2 ++ (L2.drop ((i + 1) * 2)).take ((cap - i) * 2)) := by
      have e1 : (cap + 1) * 2 = i * 2 + (2 + (cap - i) * 2) := by omega
      rw [e1, List.take_add, List.take_add, List.drop_drop]
      have e2 : (i + 1) * 2 = i * 2 + 2 := by omega
      rw [e2]
    rw [e, hA, hB, hC, flatR_append, flatR_one, ← flatR_cons]
  have hRow : ((W2.drew.setRow w.heap.size L2.toArray)).ownsRow w.heap.size 39 encE.k (.slice (some ⟨w.heap.size, 0, none⟩) (cap + 1) G) (cap + 1) (flatR encE (xs.take i ++ x :: xs.drop i)) := by
    refine ⟨by rw [flatR_length]; congr 1; rw [List.length_append, List.length_cons, List.length_take, hdl, hN]; omega, .inr ⟨w.heap.size, G, L2.toArray, rfl, Nat.le_refl _, setRow_heap W2.drew _ _ _ _ _ hW2n, hGn, hG63, ?_, hfin⟩⟩
    rw [List.size_toArray, hl2, hRl]; rfl
  have hbE : Below w.heap.size w (W2.drew.setRow w.heap.size L2.toArray) := below_setRow hbW2.drew (Nat.le_refl _) _
  have q1 := hcp2 3 (G - (i + 1)) (cap - i)
  unfold maxLen at hG63
  have hw1 : IntKind.i64.wrap ((i : Int) + 1) = (i : Int) + 1 := by rw [IntKind.wrap_i64]; omega
  have hb1 : (0 : Int) ≤ (i : Int) + 1 := by omega
  have htn : ((i : Int) + 1).toNat = i + 1 := by omega
  have hz2 : ¬ ((i : Int) = (cap : Int)) := by omega
  have hb2 : ¬ (G = i + 1) := by omega
  have hb4 : ¬ (cap = i) := by omega
  have hb5 : ¬ (G = i) := by omega
  have hb6 : (i : Int) ≤ (cap : Int) + 1 := by omega
  have HR := Lib.hid hRow
  have HB := Lib.hid hbE
  clear hL1 hL2 hl1 hl2 hcp2 hRow hbE hfin hRt hRl hW1 hW2 hW1g hW1x hW1n hW2g hW2n hG hN hcl hdl hcur hbW hbW2 hzs hzb hi0 hz0
  go_enter Tryd.func121, Tryd.ntmps121
  go_wp2_with (first
    | (at_builtin; refine Lib.wpList_append_run _ rfl _ _ _ _ rfl _ _ rfl rfl _ _ (hrz _) ?_)
    | (at_builtin; refine wpList_copy_eq rfl _ _ 23 23 rfl _ _ rfl rfl (hcp1 _ rfl _ _) ?_))
  go_region
  go_wp2
  go_ret
  exact ⟨_, rfl, HR.out, HB.out⟩
/-- AN ELEMENT IS INSERTED into a row that the caller owns. -/
theorem geinsert_any (base i : Nat) (xs : List _) (x : _) (v : Value) (vb vT : Nat) (cx : Array Value) (w : World) (hown : w.ownsRow base 39 encE.k v xs.length (flatR encE xs))
    (hx : w.heap[vb]? = some (.cells cx vT (0, 0))) (hcx : cx.toList = encE.enc x) (hne : v.ownBlock ≠ some vb) (hbase : base ≤ w.heap.size) (hi : i ≤ xs.length) (hn : xs.length ≤ 1000000) :
    Calls Tryd.prog 121 #[v, .int .i64 i, .slice (some ⟨vb, 0, none⟩) 1 1] w fun e w' => ∃ v', e = .returned v' ∧ w'.ownsRow base 39 encE.k v' (xs.take i ++ x :: xs.drop i).length (flatR encE (xs.take i ++ x :: xs.drop i)) ∧ w.grownBy w' v.ownBlock := by
  by_cases hin : i = xs.length
  · subst hin
    have e : xs.take xs.length ++ x :: xs.drop xs.length = xs ++ [x] := by rw [List.take_length, List.drop_length]
    rw [e]
    exact geinsert_end base xs x v vb vT cx w hown hx hcx hne hbase hn
  · have hl : (xs.take i ++ x :: xs.drop i).length = xs.length + 1 := by rw [List.length_append, List.length_cons, List.length_take, List.length_drop]; omega
    rw [hl]
    obtain ⟨_, ⟨_, h0⟩ | ⟨g, cap, cur, rfl, hg, hG, hc1, hc2, hs, ht⟩⟩ := hown
    · omega
    · by_cases hr : xs.length + 1 ≤ cap
      · refine (geinsert_room i g cap cur xs x vb vT cx w hG ht hs hr hc2 hx hcx (fun e => hne (by rw [e]; rfl)) (by omega) hn).mono ?_
        rintro e w' ⟨cur', rfl, hG', ht', hs', hgr⟩
        exact ⟨_, rfl, ⟨by rw [flatR_length, hl], .inr ⟨g, cap, cur', rfl, hg, hG', hr, hc2, hs', ht'⟩⟩, hgr⟩
      · refine (geinsert_grow i g cap cur xs x vb vT cx w hG ht hr hc1 hx hcx (by omega) hn).mono ?_
        rintro e w' ⟨v', rfl, ho, hb⟩
        refine ⟨v', rfl, ⟨ho.1, ?_⟩, grown_none (grown_of_below hb)⟩
        rcases ho.2 with h | ⟨g', cap', cur', h1, h2, h3⟩
        · exact .inl h
        · exact .inr ⟨g', cap', cur', h1, by omega, h3⟩
end Go.Proofs.YtkknknehchnccaaDoor

namespace Go.Proofs.YtkknknehchnccaaDoor
open Go.RowKit Go.BigFrame

section
variable {P : Program} {w : World}
theorem step_append_eq {ops : Array Oper} {o : Oper} {a : Act} {K : Act → World → Prop} {Q : Exit → Act → World → Prop} {X : Prop}
    (hg : o.guard = none) (d x : Operand) (dT sT : TypeId) (hop : o.op = Op.call { callee := Callee.builtin Builtin.append, args := #[d, x], argTypes := #[dT, sT] })
    (v u : Value) (hd : a.eval d = v) (hx : a.eval x = u) {v' : Value} {w' : World} (hr : (Builtin.append_ #[dT, sT] o.type #[v, u]).run P w = .ok v' w') (hK : K (a.put o.dst v') w') :
    if Region.wanted o (yielded ops a.tmps) = true then Oper.wp P o a w K Q else X := by
  rw [if_pos (by simp [Region.wanted, hg])]
  unfold Oper.wp execOp
  simp only [hop, resolve, invoke, builtin, Sem.run_bind, Sem.run_pure, Result.andThen_ok, List.map_toArray, List.map_cons, List.map_nil, hd, hx, hr]
  exact hK
end
theorem geclear_eq (w : World) (g o c : Nat) (cur : Array Value) (t : TypeId) (ty : TypeId) (hg : w.heap[g]? = some (.cells cur t (0, 0))) (hfit : o + 2 ≤ cur.size) :
    (Builtin.clear_ #[23] ty #[.slice (some ⟨g, o, none⟩) 1 c]).run Tryd.prog w = .ok (.tuple #[]) (w.setRow g (splice cur.toList o [.int .i64 0, .int .i64 0]).toArray) := by
  have hst := run_storeCells_at Tryd.prog g o t [.int .i64 0, .int .i64 0] 0 cur w hg (by simpa using hfit) (by simp [Value.oneCell'])
  rw [Nat.add_zero] at hst
  have hz : (Builtin.zeroCells (Value.agg #[.int .i64 0, .int .i64 0]).cells 1).toList = [.int .i64 0, .int .i64 0] := by
    show (Builtin.zeroCells #[.int .i64 0, .int .i64 0] 1).toList = _
    simp [Builtin.zeroCells]
    apply List.ext_getElem (by simp)
    intro k h1 h2
    match k, h2 with
    | 0, _ => simp
    | 1, _ => simp
    | k + 2, h2 => simp at h2; omega
  have e : splice cur.toList o [.int .i64 0, .int .i64 0] = cur.toList.take o ++ [.int .i64 0, .int .i64 0] ++ cur.toList.drop (o + 2) := by simp [splice]
  rw [e]
  simp [Builtin.clear_, run_underlying geRT.ht, hz, hst]
set_option maxRecDepth 100000 in
set_option maxHeartbeats 1600000 in
theorem gedelete_any (base i : Nat) (xs : List E2) (v : Value) (w : World) (hown : w.ownsRow base 39 encE.k v xs.length (flatR encE xs)) (hi : i < xs.length) (hn : xs.length ≤ 1000000) :
    Calls Tryd.prog 126 #[v, .int .i64 i, .int .i64 ((i : Int) + 1)] w fun e w' => ∃ v', e = .returned v' ∧ w'.ownsRow base 39 encE.k v' (xs.take i ++ xs.drop (i + 1)).length (flatR encE (xs.take i ++ xs.drop (i + 1))) ∧ w.grownBy w' v.ownBlock := by
  obtain ⟨_, ⟨_, h0⟩ | ⟨g, cap, cur, rfl, hgb, hG, hc1, hc2, hs, ht⟩⟩ := hown
  · omega
  unfold maxLen at hc2
  have hk : encE.k = 2 := rfl
  obtain ⟨n, hN⟩ : ∃ n, xs.length = n := ⟨_, rfl⟩
  rw [hN] at hc1 ht hi hn ⊢
  have hll : (xs.take i ++ xs.drop (i + 1)).length = n - 1 := by rw [List.length_append, List.length_take, List.length_drop, hN]; omega
  have hdl : (xs.drop (i + 1)).length = n - (i + 1) := by rw [List.length_drop, hN]
  have hlc : cur.toList.length = cap * 2 := by rw [Array.length_toList]; exact hs
  have hfd : ∀ j u, (flatR encE (xs.drop (i + 1)))[j]? = some u → cur[(i + 1) * 2 + j]? = some u := by
    intro j u hj
    rw [← flatR_drop, ← ht, List.getElem?_drop, List.getElem?_take, hk] at hj
    split at hj
    · simpa using hj
    · cases hj
  obtain ⟨L1, hL1⟩ : ∃ L1, L1 = cur.toList.take (i * 2) ++ flatR encE (xs.drop (i + 1)) ++ cur.toList.drop (i * 2 + (n - (i + 1)) * 2) := ⟨_, rfl⟩
  have hfl : (flatR encE (xs.drop (i + 1))).length = (n - (i + 1)) * 2 := by rw [flatR_length, hdl]; rfl
  have hl1 : L1.length = cap * 2 := by rw [hL1, List.length_append, List.length_append, List.length_take, List.length_drop, hfl, hlc]; omega
  obtain ⟨inf, hinf, _, hinfs, _⟩ := info_parts geRT.info
  have happ : ∀ (W : World) (a : Addr) (c : Nat), W.heap = w.heap → (∀ j u, (flatR encE (xs.drop (i + 1)))[j]? = some u → W.cell? (a.add j) = some u) → ∀ ty, (Builtin.append_ #[23, 23] ty #[.slice (some ⟨g, 0, none⟩) i cap, .slice (some a) (n - (i + 1)) c]).run Tryd.prog W = .ok (.slice (some ⟨g, 0, none⟩) (n - 1) cap) (W.setRow g L1.toArray) := fun W a c hW hn2 ty => by
    have h := run_append_room (P := Tryd.prog) W 23 ty 39 inf geRT.ht hinf g i cap cur (by rw [hW]; exact hG) a (n - (i + 1)) c (flatR encE (xs.drop (i + 1))) (by rw [hfl, hinfs]; rfl) hn2 (flatR_oneCell _ _) (by omega) (by rw [hfl, hinfs, hk, hs, hk]; omega)
    rw [h, hinfs, hk, hfl, hL1, show i + (n - (i + 1)) = n - 1 by omega]
  obtain ⟨L2, hL2⟩ : ∃ L2, L2 = splice L1 ((n - 1) * 2) [.int .i64 0, .int .i64 0] := ⟨_, rfl⟩
  have hl2 : L2.length = cap * 2 := by rw [hL2, length_splice _ _ _ (by rw [hl1]; show (n - 1) * 2 + 2 ≤ _; omega), hl1]
  have hfin : L2.take ((n - 1) * 2) = flatR encE (xs.take i ++ xs.drop (i + 1)) := by
    have e1 : L2.take ((n - 1) * 2) = L1.take ((n - 1) * 2) := by
      rw [hL2]; unfold splice
      rw [List.take_append_of_le_length (by rw [List.length_take]; omega), List.take_take, Nat.min_self]
    have e3 : (flatR encE xs).take (i * 2) = flatR encE (xs.take i) := flatR_take encE xs i
    have e4 : cur.toList.take (i * 2) = flatR encE (xs.take i) := by
      rw [← e3, ← ht, List.take_take]
      show _ = List.take (min (i * 2) (n * 2)) _
      rw [Nat.min_eq_left (by omega)]
    have e5 : (flatR encE (xs.take i)).length = i * 2 := by rw [flatR_length, List.length_take, hN, Nat.min_eq_left (by omega)]; rfl
    rw [e1, hL1, e4, flatR_append]
    rw [List.take_append_of_le_length (by rw [List.length_append, e5, hfl]; omega), List.take_of_length_le (by rw [List.length_append, e5, hfl]; omega)]
  have hwr : ∀ W : World, W.heap[g]? = some (.cells L1.toArray 39 (0, 0)) → ∀ m, m = 1 → ∀ ty c, (Builtin.clear_ #[23] ty #[.slice (some ⟨g, (n - 1) * 2, none⟩) m c]).run Tryd.prog W = .ok (.tuple #[]) (W.setRow g L2.toArray) := fun W hW m hm ty c => by
    rw [hL2, hm]
    exact geclear_eq W g ((n - 1) * 2) c L1.toArray _ ty hW (by rw [List.size_toArray, hl1]; omega)
  have hG1 : ∀ W : World, W.heap = w.heap → (W.setRow g L1.toArray).heap[g]? = some (.cells L1.toArray 39 (0, 0)) := fun W hW => setRow_heap W g cur _ _ _ (by rw [hW]; exact hG)
  have HF : Hid (∀ W : World, W.heap = w.heap → W.os = w.os → W.tape = w.tape → W.output = w.output → ((W.setRow g L1.toArray).setRow g L2.toArray).ownsRow base 39 encE.k (.slice (some ⟨g, 0, none⟩) (n - 1) cap) (xs.take i ++ xs.drop (i + 1)).length (flatR encE (xs.take i ++ xs.drop (i + 1))) ∧ w.grownBy ((W.setRow g L1.toArray).setRow g L2.toArray) (some g)) := by
    show ∀ W : World, _
    intro W h1 h2 h3 h4
    refine ⟨?_, ?_⟩
    · rw [hll]
      refine ⟨by rw [flatR_length, hll], .inr ⟨g, cap, L2.toArray, rfl, hgb, setRow_heap _ g _ _ _ _ (hG1 W h1), by omega, by unfold maxLen; omega, by rw [List.size_toArray, hl2]; rfl, ?_⟩⟩
      exact hfin
    · exact ⟨h2, h3, h4, by simp [World.setRow, h1], fun k _ hk => by
        have : k ≠ g := fun e => hk (by rw [e])
        rw [setRow_other _ _ _ _ this, setRow_other _ _ _ _ this, h1]⟩
  have hv2 : (Value.slice (some ⟨g, 0, none⟩) (n - 1) cap).ownBlock = some g := rfl
  have hwp : IntKind.i64.wrap ((i : Int) + 1) = (i : Int) + 1 := by rw [IntKind.wrap_i64]; omega
  have hb1 : (0 : Int) ≤ (i : Int) + 1 := by omega
  have htn : ((i : Int) + 1).toNat = i + 1 := by omega
  have hne : ¬ ((i : Int) = (i : Int) + 1) := by omega
  have hle : (i : Int) + 1 ≤ (n : Int) := by omega
  have hle2 : (i : Int) ≤ (cap : Int) := by omega
  have hnn : n ≤ cap := hc1
  have hcn : ¬ cap = n - 1 := by omega
  have hci : ¬ cap = i := by omega
  clear hL1 hL2 hl1 hl2 hfin hlc hdl ht hs
  by_cases hce : cap = i + 1
  · have hni : n = i + 1 := by omega
    subst hni
    subst hce
    have hii : (i : Int) ≤ (i : Int) + 1 := by omega
    have hxs : xs.drop (i + 1) = [] := List.drop_of_length_le (by omega)
    have q1 := happ w.drew ⟨g, 0, none⟩ 0 rfl (fun j u hj => by rw [hxs] at hj; simp [flatR] at hj)
    have q2 := hwr (w.drew.setRow g L1.toArray) (hG1 w.drew rfl) 1 rfl
    obtain ⟨r1, r2⟩ := HF.out w.drew rfl rfl rfl rfl
    simp only [Nat.sub_self, Nat.add_sub_cancel] at q1 q2 r1 r2
    have R1 := Lib.hid r1
    have R2 := Lib.hid r2
    clear happ hfd hwr HF hG1 r1 r2 hxs
    go_enter Tryd.func126, Tryd.ntmps126
    go_wp2_with fail
    go_region_law (refine step_append_eq rfl _ _ _ _ rfl _ _ rfl rfl (q1 _) ?_)
    go_wp2_with fail
    go_ret
    exact ⟨_, rfl, R1.out, R2.out⟩
  · have q1 := happ w.drew ⟨g, (i + 1) * 2, none⟩ (cap - (i + 1)) rfl (fun j u hj => by rw [Addr.add_lit, cell_blk (show w.drew.heap[g]? = _ from hG)]; exact hfd j u hj)
    have q2 := hwr (w.drew.setRow g L1.toArray) (hG1 w.drew rfl) (n - (n - 1)) (by omega)
    obtain ⟨r1, r2⟩ := HF.out w.drew rfl rfl rfl rfl
    have R1 := Lib.hid r1
    have R2 := Lib.hid r2
    clear happ hfd hwr HF hG1 r1 r2
    go_enter Tryd.func126, Tryd.ntmps126
    go_wp2_with fail
    go_region_law (refine step_append_eq rfl _ _ _ _ rfl _ _ rfl rfl (q1 _) ?_)
    go_wp2_with fail
    go_ret
    exact ⟨_, rfl, R1.out, R2.out⟩
end Go.Proofs.YtkknknehchnccaaDoor
