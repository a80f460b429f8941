/- The contracts of the sets of nodes as bits: the least bit, the list. The contract of the list of a set of nodes. The contract of the rows of a graph: each node's neighbours as a set of bits. The contracts of a node's row and of its neighbours, for valid graphs. The contract of the number of nodes of a set, and of a node's degree. -/
import Derived.Test.YtkknknehchnccaaDoorRef25
import Derived.Laws.Bits64b
import Derived.Lib.TrailingZeros
namespace Go.Proofs.YtkknknehchnccaaDoor
open Go.RowKit Go.BigFrame

/-- the library's table -/
def TzAt (w : World) : Prop := ∀ j, j < 64 → w.cell? ⟨0, j, none⟩ = some (.int .u8 (Lib.deBruijn64tab.getD j 0))
theorem TzAt.below {w w' : World} (h : TzAt w) (hb : Below w.heap.size w w') : TzAt w' :=
  fun j hj => (hb.cell (p := ⟨_, j, none⟩) (cell_lt (h j hj))).trans (h j hj)

theorem tz_key (x a : Nat) (hx : x < 18446744073709551616) (hx0 : x ≠ 0) (hlow : x &&& (18446744073709551616 - x) = a) :
    IntKind.u64.wrap (bits BinOp.and IntKind.u64 (x : Int) (IntKind.u64.wrap (-(x : Int))) * 285870213051353865) / 288230376151711744 = ((a * 285870213051353865 % 18446744073709551616 / 288230376151711744 : Nat) : Int) := by
  have e1 : IntKind.u64.wrap (-(x : Int)) = ((18446744073709551616 - x : Nat) : Int) := by rw [IntKind.wrap_u64]; omega
  rw [e1, bits_and_u64_nat x _ hx (by omega), hlow, IntKind.wrap_u64]
  omega

set_option maxHeartbeats 1000000 in
theorem tz_core (x k idx : Nat) (w : World) (hx0 : ((x : Int) == 0) = false)
    (key : IntKind.u64.wrap (bits BinOp.and IntKind.u64 (x : Int) (IntKind.u64.wrap (-(x : Int))) * 285870213051353865) / 288230376151711744 = (idx : Int))
    (hi : idx < 64) (hk : k < 64) (hcell : w.cell? ⟨0, idx, none⟩ = some (.int .u8 k)) :
    Calls Tryd.prog 108 #[.int .u64 x] w fun e w' => e = .returned (.int .i64 k) ∧ w = w' := by
  go_enter Tryd.func108, Tryd.ntmps108
  go_wp2_with (simp only [key])
  go_ret
  exact ⟨rfl, rfl⟩
theorem tz_any (x : Nat) (hx : x < 18446744073709551616) (hx0 : x ≠ 0) (w : World) (hT : TzAt w) :
    Calls Tryd.prog 108 #[.int .u64 x] w fun e w' => e = .returned (.int .i64 (Lib.ctz 64 x)) ∧ w = w' := by
  obtain ⟨hlow, hk⟩ := Lib.lowest_bit 64 x hx0 hx
  obtain ⟨hi, htab⟩ := Lib.deBruijn64_at _ hk
  have hcell := hT _ hi
  rw [htab] at hcell
  exact tz_core x _ _ w (by simp; omega) (tz_key x _ hx hx0 hlow) hi hk hcell

/-- the nodes of a set, ascending -/
def bitsL (m : Nat) : List Int := ((List.range 64).filter fun i => m.testBit i).map fun (i : Nat) => (i : Int)
theorem bitsL_length (m : Nat) : (bitsL m).length ≤ 64 := by
  unfold bitsL
  rw [List.length_map]
  have := List.length_filter_le (fun i => m.testBit i) (List.range 64)
  simpa using this
theorem low_parts (m : Nat) (h0 : m ≠ 0) (h : m < 2 ^ 64) : ∃ q, m = 2 ^ Lib.ctz 64 m * (2 * q + 1) ∧ Lib.ctz 64 m < 64 := by
  have := Lib.ctzFrom_spec 64 m (by omega) h
  unfold Lib.ctz
  rw [if_neg h0]
  exact this
theorem clear_low (k q i : Nat) : (2 ^ k * (2 * q + 1) &&& (2 ^ k * (2 * q + 1) - 1)).testBit i = (decide (i ≠ k) && (2 ^ k * (2 * q + 1)).testBit i) := by
  have hp : 0 < 2 ^ k := Nat.two_pow_pos k
  have e1 : 2 ^ k * (2 * q + 1) - 1 = 2 ^ k * (2 * q) + (2 ^ k - 1) := by rw [Nat.mul_add, Nat.mul_one]; omega
  have t1 : (2 ^ k * (2 * q + 1)).testBit i = if i < k then false else (2 * q + 1).testBit (i - k) := by
    have := Nat.testBit_two_pow_mul_add (2 * q + 1) hp i
    rw [Nat.add_zero] at this
    rw [this]; simp
  have t2 : (2 ^ k * (2 * q) + (2 ^ k - 1)).testBit i = if i < k then (2 ^ k - 1).testBit i else (2 * q).testBit (i - k) := Nat.testBit_two_pow_mul_add (2 * q) (by omega) i
  rw [Nat.testBit_and, e1, t1, t2]
  by_cases h1 : i < k
  · simp [h1]
  · rw [if_neg h1, if_neg h1]
    by_cases h2 : i = k
    · subst h2; simp
    · obtain ⟨j, hj⟩ : ∃ j, i - k = j + 1 := ⟨i - k - 1, by omega⟩
      rw [hj, Nat.testBit_succ, Nat.testBit_succ]
      have a1 : (2 * q + 1) / 2 = q := by omega
      have a2 : 2 * q / 2 = q := by omega
      rw [a1, a2]
      simp [h2]
theorem filter_head : ∀ (N k : Nat) (p : Nat → Bool), k < N → p k = true → (∀ i, i < k → p i = false) → (List.range N).filter p = k :: (List.range N).filter (fun i => decide (i ≠ k) && p i) := by
  intro N
  induction N with
  | zero => intro k p hk; omega
  | succ N ih =>
    intro k p hk hp hlow
    rw [List.range_succ, List.filter_append, List.filter_append]
    by_cases h : k = N
    · subst h
      have h1 : (List.range k).filter p = [] := by
        rw [List.filter_eq_nil_iff]; intro i hi; rw [hlow i (List.mem_range.1 hi)]; simp
      have h2 : (List.range k).filter (fun i => decide (i ≠ k) && p i) = [] := by
        rw [List.filter_eq_nil_iff]; intro i hi; rw [hlow i (List.mem_range.1 hi)]; simp
      rw [h1, h2]
      simp [hp]
    · rw [ih k p (by omega) hp hlow]
      have : (List.filter p [N]) = List.filter (fun i => decide (i ≠ k) && p i) [N] := by
        have : (decide (N ≠ k)) = true := by simp; omega
        simp [List.filter, this]
      rw [this]
      rfl
theorem bitsL_step (m : Nat) (h0 : m ≠ 0) (h : m < 2 ^ 64) : bitsL m = (Lib.ctz 64 m : Int) :: bitsL (m &&& (m - 1)) := by
  obtain ⟨q, hq, hk⟩ := low_parts m h0 h
  generalize Lib.ctz 64 m = k at *
  subst hq
  unfold bitsL
  have hp : 0 < 2 ^ k := Nat.two_pow_pos k
  have t1 : ∀ i, (2 ^ k * (2 * q + 1)).testBit i = if i < k then false else (2 * q + 1).testBit (i - k) := by
    intro i
    have := Nat.testBit_two_pow_mul_add (2 * q + 1) hp i
    rw [Nat.add_zero] at this
    rw [this]; simp
  rw [filter_head 64 k _ hk (by rw [t1]; simp) (fun i hi => by rw [t1, if_pos hi])]
  rw [List.map_cons]
  congr 3
  funext i
  rw [clear_low]
theorem bitsL_zero : bitsL 0 = [] := by
  unfold bitsL
  rw [List.map_eq_nil_iff, List.filter_eq_nil_iff]
  intro i _
  simp
end Go.Proofs.YtkknknehchnccaaDoor

namespace Go.Proofs.YtkknknehchnccaaDoor
open Go.RowKit Go.BigFrame

set_option maxRecDepth 100000 in
set_option maxHeartbeats 1000000 in
theorem list_any (m : Nat) (hm : m < 18446744073709551616) (w : World) (hT : TzAt w) :
    Calls Tryd.prog 65 #[.int .u64 m] w fun e w' => ∃ v, e = .returned v ∧ w'.ownsRow w.heap.size 3 1 v (bitsL m).length (intsV (bitsL m)) ∧ Below w.heap.size w w' := by
  go_enter Tryd.func65, Tryd.ntmps65
  go_wp2_with fail
  go_loopw [0, 3] (fun i v wr => ∃ (k : Nat) (acc : List Int), k < 18446744073709551616 ∧ i = .int .u64 k ∧ Below w.heap.size w wr ∧ wr.ownsRow w.heap.size 3 1 v acc.length (intsV acc) ∧ Hid (bitsL m = acc ++ bitsL k)) (fun i _ _ => (intOf i).toNat)
  case atStart => exact ⟨m, [], hm, rfl, Below.refl _ _, World.ownsRow_nil _ _ _ _, rfl⟩
  case round =>
    obtain ⟨k, acc, hk, rfl, hb, hown, HR⟩ := hrel
    obtain ⟨a1, cap1, hv1⟩ := owns_shape hown
    subst hv1
    by_cases h0 : k = 0
    · subst h0
      have HF : Hid (bitsL m = acc) := by show _ = _; rw [HR.out, bitsL_zero, List.append_nil]
      go_wp2_with fail
      go_ret
      rw [HF.out]
      exact ⟨_, rfl, hown, hb⟩
    · have hz : ((k : Int) == 0) = false := by simp; omega
      have hz2 : (k == 0) = false := by simpa using h0
      have HF : Hid (bitsL m = (acc ++ [(Lib.ctz 64 k : Int)]) ++ bitsL (k &&& (k - 1))) := by show _ = _; rw [HR.out, bitsL_step k h0 hk]; simp
      have hal : acc.length ≤ 64 := by have := bitsL_length m; rw [HR.out, List.length_append] at this; omega
      have hand : bits BinOp.and IntKind.u64 (k : Int) ((k : Int) - 1) = ((k &&& (k - 1) : Nat) : Int) := by rw [show (k : Int) - 1 = ((k - 1 : Nat) : Int) by omega]; exact bits_and_u64_nat k (k - 1) hk (by omega)
      have hwr : IntKind.u64.wrap ((k : Int) - 1) = (k : Int) - 1 := by rw [IntKind.wrap_u64]; omega
      have hlt : k &&& (k - 1) < k := Nat.lt_of_le_of_lt Nat.and_le_right (by omega)
      have hwt := hT.below hb
      generalize k &&& (k - 1) = k2 at *
      go_wp2_with (first
        | (go_at_call 108; refine (tz_any k hk h0 _ hwt).mono ?_; rintro e w1 ⟨rfl, rfl⟩)
        | (at_builtin; refine wpList_app_ints intsT rfl _ _ rfl w.heap.size _ _ acc [(Lib.ctz 64 k : Int)] rfl (hown.alloc _) rfl (ints_lit1 _ _ _) (by simp; omega) (by have := hb.size; simp; omega) ?_; intro v6 w6 hown6 hg6))
      have hb6 := below_app' (hb.alloc hb.size _) (hown.alloc _) hg6
      obtain ⟨a6, cap6, hv6⟩ := owns_shape hown6
      subst hv6
      go_wp2_with fail
      go_roundw
      case rel => exact ⟨k2, acc ++ [(Lib.ctz 64 k : Int)], by omega, by go_num, hb6, hown6, HF⟩
      case measure => simp [intOf]; omega
end Go.Proofs.YtkknknehchnccaaDoor

namespace Go.Proofs.YtkknknehchnccaaDoor
open Go.RowKit Go.BigFrame

/-- the neighbours of v as a set -/
def rowE (v : Nat) (m : Nat) (e : E2) : Nat := if e.1 = (v : Int) then m ||| 2 ^ e.2.toNat else if e.2 = (v : Int) then m ||| 2 ^ e.1.toNat else m
def rowN (es : List E2) (v : Nat) : Nat := es.foldl (rowE v) 0
/-- the rows of n nodes -/
def rowsV (n : Nat) (es : List E2) : List Value := (List.range n).map fun (v : Nat) => Value.int .u64 (rowN es v)
theorem rowsV_get (n : Nat) (es : List E2) (v : Nat) (hv : v < n) : (rowsV n es)[v]? = some (.int .u64 (rowN es v)) := by simp [rowsV, hv]
theorem rowN_snoc (es : List E2) (e : E2) (v : Nat) : rowN (es ++ [e]) v = rowE v (rowN es v) e := by simp [rowN, List.foldl_append]
theorem make_rows (n : Nat) (hn : n ≤ 64) : ∀ w, (Instr.makeSlice 98 (.int .i64 (n : Int)) (.int .i64 (n : Int))).run Tryd.prog w = .ok (.slice (some ⟨w.heap.size, 0, none⟩) n n) (w.alloc (.cells (rowsV n []).toArray 97)) := by
  intro w
  obtain ⟨i, hi, hz, hs, hb⟩ := info_parts (P := Tryd.prog) (e := 97) (z := .int .u64 0) (size := 1) (bytes := 8) (by kernel_rfl)
  have h := run_make (P := Tryd.prog) w 98 97 i (.int .u64 0) Tryd.underlying98 hi hz .i64 .i64 (n : Int) (n : Int) (by omega) (Int.le_refl _) (by rw [hb]; omega) (by omega)
  rw [h, hs]
  simp only [Int.toNat_natCast, Nat.mul_one, Value.cells]
  have hm : madeCells #[Value.int .u64 0] n = (rowsV n []).toArray := by
    apply Array.ext_getElem?
    intro j
    simp only [madeCells, rowsV]
    by_cases hj : j < n
    · simp [hj, Nat.mod_one, rowN]
    · simp [hj]
  rw [hm]
theorem rowsV_length (n : Nat) (es : List E2) : (rowsV n es).length = n := by simp [rowsV]
theorem rowE_lt (v m : Nat) (e : E2) (n : Int) (hn : n ≤ 64) (he : Ins n e) (hm : m < 2 ^ 64) : rowE v m e < 2 ^ 64 := by
  unfold Ins at he
  have p : ∀ x : Nat, x < 64 → 2 ^ x < 2 ^ 64 := fun x hx => Nat.pow_lt_pow_right (by omega) hx
  unfold rowE
  split
  · exact Nat.or_lt_two_pow hm (p _ (by omega))
  · split
    · exact Nat.or_lt_two_pow hm (p _ (by omega))
    · exact hm
theorem rowN_lt (n : Int) (hn : n ≤ 64) (v : Nat) : ∀ (es : List E2) (m : Nat), m < 2 ^ 64 → (∀ e ∈ es, Ins n e) → es.foldl (rowE v) m < 2 ^ 64 := by
  intro es
  induction es with
  | nil => intro m hm _; exact hm
  | cons e es ih => intro m hm h; exact ih _ (rowE_lt v m e n hn (h e List.mem_cons_self) hm) (fun x hx => h x (List.mem_cons_of_mem _ hx))
theorem rows_step (n : Nat) (es : List E2) (p q : Nat) (hpq : p < q) :
    ((rowsV n es).set p (.int .u64 ((rowN es p ||| 2 ^ q : Nat) : Int))).set q (.int .u64 ((rowN es q ||| 2 ^ p : Nat) : Int)) = rowsV n (es ++ [((p : Int), (q : Int))]) := by
  apply List.ext_getElem?
  intro j
  by_cases hj : j < n
  · rw [rowsV_get _ _ _ hj, rowN_snoc, List.getElem?_set, List.length_set, rowsV_length]
    unfold rowE
    by_cases h1 : q = j
    · subst h1
      rw [if_pos rfl, if_pos hj, if_neg (by dsimp; omega), if_pos rfl]
      simp
    · rw [if_neg h1, List.getElem?_set, rowsV_length]
      by_cases h2 : p = j
      · subst h2
        rw [if_pos rfl, if_pos hj, if_pos rfl]
        simp
      · rw [if_neg h2, rowsV_get _ _ _ hj, if_neg (by dsimp; omega), if_neg (by dsimp; omega)]
  · rw [List.getElem?_eq_none (by rw [List.length_set, List.length_set, rowsV_length]; omega), List.getElem?_eq_none (by rw [rowsV_length]; omega)]
theorem pow64 (x : Nat) (hx : x < 64) : 2 ^ x < 18446744073709551616 := by
  have h : 2 ^ x < 2 ^ 64 := Nat.pow_lt_pow_right (by omega) hx
  simpa using h
theorem shl_fact (q : Nat) (hq : q < 64) : IntKind.u64.wrap ((2 : Int) ^ q) = ((2 ^ q : Nat) : Int) := by
  have h : 2 ^ q < 2 ^ 64 := Nat.pow_lt_pow_right (by omega) hq
  have e : (2 : Int) ^ q = ((2 ^ q : Nat) : Int) := by simp
  rw [e, IntKind.wrap_u64]
  generalize 2 ^ q = x at *
  omega

set_option maxRecDepth 100000 in
set_option maxHeartbeats 1600000 in
theorem rows_any (n : Nat) (a : Option Addr) (cap : Nat) (es : List E2) (w : World) (he : EdgesAt w (.slice a es.length cap) es) (hv : Valid n es) :
    Calls Tryd.prog 100 #[.agg #[.int .i64 n, .slice a es.length cap]] w fun e w' => ∃ g, e = .returned (.slice (some ⟨g, 0, none⟩) n n) ∧ w.heap.size ≤ g ∧ w'.heap[g]? = some (.cells (rowsV n es).toArray 97 (0, 0)) ∧ Below w.heap.size w w' := by
  have hn := hv.2.1
  have hel := hv.length_le
  have hbd0 : Below w.heap.size w (w.alloc (.cells #[.int .i64 n, .slice a es.length cap] 25)) := (Below.refl _ _).alloc (Nat.le_refl _) _
  have hmx : max (n : Int) 0 = n := by omega
  have hmn : min (n : Int) 64 = n := by omega
  have hmk := make_rows n (by omega)
  go_enter Tryd.func100, Tryd.ntmps100
  go_wp2_with fail
  clear hmk hmx hmn
  have hR0 : ((w.alloc (.cells #[.int .i64 n, .slice a es.length cap] 25)).alloc (.cells (rowsV n []).toArray 97)).heap[w.heap.size + 1]? = some (.cells (rowsV n (es.take 0)).toArray 97 (0, 0)) := by
    have := heap_alloc_new (w.alloc (.cells #[.int .i64 n, .slice a es.length cap] 25)) (.cells (rowsV n []).toArray 97)
    simpa using this
  have hbw : Below w.heap.size w ((w.alloc (.cells #[.int .i64 n, .slice a es.length cap] 25)).alloc (.cells (rowsV n []).toArray 97)) := hbd0.alloc hbd0.size _
  clear hbd0
  go_loopw [14] (fun i wr => ∃ k : Nat, k ≤ es.length ∧ i = .int .i64 k ∧ Below w.heap.size w wr ∧ wr.heap[w.heap.size + 1]? = some (.cells (rowsV n (es.take k)).toArray 97 (0, 0))) (fun i _ => es.length - (intOf i).toNat)
  case atStart => exact ⟨0, Nat.zero_le _, rfl, hbw, hR0⟩
  case round =>
    clear hbw hR0
    obtain ⟨k, hk, rfl, hb, hR⟩ := hrel
    by_cases hlt : k < es.length
    · obtain ⟨b, off, x, y, rfl, hxy, _, ht, c0, c1⟩ := (he.below hb).at k hlt
      have hin : Ins n (x, y) := hv.2.2.1 _ (List.mem_of_getElem? hxy)
      unfold Ins at hin
      dsimp at hin
      have HT := Lib.hid ht
      clear ht hxy
      obtain ⟨p, rfl⟩ := Int.eq_ofNat_of_zero_le hin.1
      obtain ⟨q, rfl⟩ := Int.eq_ofNat_of_zero_le (show 0 ≤ y by omega)
      have hpn : p < n := by omega
      have hqn : q < n := by omega
      have hpq : p < q := by omega
      have hne : ¬ p = q := by omega
      have hne2 : ¬ q = p := by omega
      have hz2 : b < wr.heap.size := cell_lt c0
      have hzR := blk_lt hR
      have t1 : wr.cell? ⟨w.heap.size + 1, p, none⟩ = some (.int .u64 (rowN (es.take k) p)) := by rw [cell_blk hR]; simpa using rowsV_get n (es.take k) p hpn
      have t2 : wr.cell? ⟨w.heap.size + 1, q, none⟩ = some (.int .u64 (rowN (es.take k) q)) := by rw [cell_blk hR]; simpa using rowsV_get n (es.take k) q hqn
      have t3 : wr.frozen? ⟨w.heap.size + 1, p, none⟩ = false := free_blk hR
      have t4 : wr.frozen? ⟨w.heap.size + 1, q, none⟩ = false := free_blk hR
      have l1 : rowN (es.take k) p < 2 ^ 64 := rowN_lt n hn p _ 0 (by omega) (fun e h => hv.2.2.1 e (List.mem_of_mem_take h))
      have l2 : rowN (es.take k) q < 2 ^ 64 := rowN_lt n hn q _ 0 (by omega) (fun e h => hv.2.2.1 e (List.mem_of_mem_take h))
      have s1 := shl_fact q (by omega)
      have s2 := shl_fact p (by omega)
      have o1 : bits BinOp.or IntKind.u64 (rowN (es.take k) p : Int) ((2 : Int) ^ q) = ((rowN (es.take k) p ||| 2 ^ q : Nat) : Int) := by rw [← bits_or_u64_nat (rowN (es.take k) p) (2 ^ q) l1 (pow64 q (by omega))]; simp
      have o2 : bits BinOp.or IntKind.u64 (rowN (es.take k) q : Int) ((2 : Int) ^ p) = ((rowN (es.take k) q ||| 2 ^ p : Nat) : Int) := by rw [← bits_or_u64_nat (rowN (es.take k) q) (2 ^ p) l2 (pow64 p (by omega))]; simp
      have HR := Lib.hid hR
      have HS := Lib.hid (rows_step n (es.take k) p q hpq)
      clear hR hin l1 l2
      go_wp2_with fail
      go_region
      go_wp2_with fail
      go_region
      go_wp2_with fail
      go_roundw
      case rel =>
        refine ⟨k + 1, by omega, by go_num, ?_, ?_⟩
        · have h2 := (hb.setCell (p := ⟨w.heap.size + 1, p, none⟩) (Nat.le_succ _) (.int .u64 ((rowN (es.take k) p ||| 2 ^ q : Nat) : Int))).setCell (p := ⟨w.heap.size + 1, q, none⟩) (Nat.le_succ _) (.int .u64 ((rowN (es.take k) q ||| 2 ^ p : Nat) : Int))
          exact (h2.alloc h2.size _).drew.drew
        · rw [HT.out, ← HS.out]
          have g1 := heap_setCell_same _ _ q _ _ (.int .u64 ((rowN (es.take k) q ||| 2 ^ p : Nat) : Int)) (heap_setCell_same wr _ p _ _ (.int .u64 ((rowN (es.take k) p ||| 2 ^ q : Nat) : Int)) HR.out)
          have g3 : (((rowsV n (es.take k)).toArray.setIfInBounds p (.int .u64 ((rowN (es.take k) p ||| 2 ^ q : Nat) : Int))).setIfInBounds q (.int .u64 ((rowN (es.take k) q ||| 2 ^ p : Nat) : Int))) = (((rowsV n (es.take k)).set p (.int .u64 ((rowN (es.take k) p ||| 2 ^ q : Nat) : Int))).set q (.int .u64 ((rowN (es.take k) q ||| 2 ^ p : Nat) : Int))).toArray := by simp only [List.setIfInBounds_toArray]
          rw [g3] at g1
          exact (Below.heap_alloc _ _ _ (blk_lt g1)).trans g1
      case measure => simp [intOf]; omega
    · have : es.take k = es := List.take_of_length_le (by omega)
      rw [this] at hR
      go_wp2_with fail
      go_ret
      exact ⟨_, rfl, by omega, hR, hb⟩
end Go.Proofs.YtkknknehchnccaaDoor

namespace Go.Proofs.YtkknknehchnccaaDoor
open Go.RowKit Go.BigFrame

theorem rowN_lt64 {n : Nat} {es : List E2} (hv : Valid n es) (v : Nat) : rowN es v < 18446744073709551616 := by
  have h : rowN es v < 2 ^ 64 := rowN_lt n hv.2.1 v es 0 (by omega) hv.2.2.1
  simpa using h
/-- the neighbours of a node by the program -/
def nbS (es : List E2) (v : Nat) : List Int := bitsL (rowN es v)
end Go.Proofs.YtkknknehchnccaaDoor

namespace Go.Proofs.YtkknknehchnccaaDoor
open Go.RowKit Go.BigFrame

def oc1 (x : Int) : Int := IntKind.u64.wrap (bits BinOp.and IntKind.u64 (x / 2) 6148914691236517205 + bits BinOp.and IntKind.u64 x 6148914691236517205)
def oc2 (x : Int) : Int := IntKind.u64.wrap (bits BinOp.and IntKind.u64 (x / 4) 3689348814741910323 + bits BinOp.and IntKind.u64 x 3689348814741910323)
def oc3 (x : Int) : Int := bits BinOp.and IntKind.u64 (IntKind.u64.wrap (x / 16 + x)) 1085102592571150095
def oc4 (x : Int) : Int := IntKind.u64.wrap (x + x / 256)
def oc5 (x : Int) : Int := IntKind.u64.wrap (x + x / 65536)
def oc6 (x : Int) : Int := IntKind.u64.wrap (x + x / 4294967296)
def oc7 (x : Int) : Int := bits BinOp.and IntKind.i64 (wrap64 x) 127
/-- the program's number of bits -/
def oc64 (x : Int) : Int := oc7 (oc6 (oc5 (oc4 (oc3 (oc2 (oc1 x))))))
set_option maxHeartbeats 1000000 in
theorem ones_any (x : Int) (w : World) :
    Calls Tryd.prog 151 #[.int .u64 x] w fun e w' => e = .returned (.int .i64 (oc64 x)) ∧ w = w' := by
  obtain ⟨y1, h1⟩ : ∃ y, oc1 x = y := ⟨_, rfl⟩
  obtain ⟨y2, h2⟩ : ∃ y, oc2 y1 = y := ⟨_, rfl⟩
  obtain ⟨y3, h3⟩ : ∃ y, oc3 y2 = y := ⟨_, rfl⟩
  obtain ⟨y4, h4⟩ : ∃ y, oc4 y3 = y := ⟨_, rfl⟩
  obtain ⟨y5, h5⟩ : ∃ y, oc5 y4 = y := ⟨_, rfl⟩
  obtain ⟨y6, h6⟩ : ∃ y, oc6 y5 = y := ⟨_, rfl⟩
  obtain ⟨y7, h7⟩ : ∃ y, oc7 y6 = y := ⟨_, rfl⟩
  have HE : Hid (oc64 x = y7) := by show _ = _; unfold oc64; rw [h1, h2, h3, h4, h5, h6, h7]
  unfold oc1 at h1
  unfold oc2 at h2
  unfold oc3 at h3
  unfold oc4 at h4
  unfold oc5 at h5
  unfold oc6 at h6
  unfold oc7 at h7
  go_enter Tryd.func151, Tryd.ntmps151
  go_wp2
  go_ret
  exact ⟨ret_int HE.out.symm, rfl⟩
end Go.Proofs.YtkknknehchnccaaDoor
