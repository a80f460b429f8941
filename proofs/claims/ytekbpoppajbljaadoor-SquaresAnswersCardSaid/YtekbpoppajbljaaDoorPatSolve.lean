/- The contract of the program's solving of copies, and that it undoes the copies. The walk of the program's solving of copies, and that it undoes the copies. The contract of the program's counts of the sets with a node. The contract of the program's Node: the numbers of the sets with a node. -/
import Derived.Test.YtekbpoppajbljaaDoorRef25
namespace Go.Proofs.YtekbpoppajbljaaDoor
open Go.RowKit Go.BigFrame

/-- numbers, and maybe spare room, in block g -/
def TailAt (w : World) (g : Nat) (l : List Int) : Prop := ∃ r : List Value, w.heap[g]? = some (.cells (intsV l ++ r).toArray 3 (0, 0))
theorem TailAt.cell {w : World} {g : Nat} {l : List Int} (h : TailAt w g l) (k : Nat) (x : Int) (hk : l[k]? = some x) : w.cell? ⟨g, k, none⟩ = some (.int .i64 x) := by
  obtain ⟨r, h⟩ := h
  have hl : k < l.length := (List.getElem?_eq_some_iff.1 hk).1
  rw [cell_blk h]
  simp only [List.getElem?_toArray]
  rw [List.getElem?_append_left (by simpa [intsV] using hl)]
  simp [intsV, hk]
theorem TailAt.set {w : World} {g : Nat} {l : List Int} (h : TailAt w g l) (k : Nat) (x : Int) (hk : k < l.length) : TailAt (w.setCell ⟨g, k, none⟩ (.int .i64 x)) g (l.set k x) := by
  obtain ⟨r, h⟩ := h
  refine ⟨r, ?_⟩
  rw [heap_setCell_same _ _ _ _ _ _ h]
  have : (intsV l ++ r).toArray.setIfInBounds k (.int .i64 x) = (intsV (l.set k x) ++ r).toArray := by
    simp only [List.setIfInBounds_toArray, intsV, List.map_set]
    rw [List.set_append_left _ _ (by simpa using hk)]
  rw [this]
theorem TailAt.free {w : World} {g : Nat} {l : List Int} (h : TailAt w g l) (k : Nat) : w.frozen? ⟨g, k, none⟩ = false := by
  obtain ⟨r, h⟩ := h
  exact free_blk h
theorem TailAt.lt {w : World} {g : Nat} {l : List Int} (h : TailAt w g l) : g < w.heap.size := by obtain ⟨r, h⟩ := h; exact blk_lt h
theorem TailAt.ints {w : World} {g cap : Nat} {l : List Int} (h : TailAt w g l) (hl : l.length ≤ 1000000) (hc : l.length ≤ cap) : IntsAt w (.slice (some ⟨g, 0, none⟩) l.length cap) l := by
  refine ⟨_, cap, rfl, hc, (fun e => by cases e), by omega, fun i x hi => ⟨g, 0, rfl, ?_⟩⟩
  rw [Nat.zero_add]; exact h.cell i x hi

theorem slice_nil (x : Addr) (n c : Nat) (w : World) : (binOp .eql 22 (.slice (some x) n c) (.slice none 0 0)).run Tryd.prog w = .ok (.bool false) w := by
  have h : ∀ d : Nat, (Op.equalIn (d + 1) 22 (.slice (some x) n c) (.slice none 0 0)).run Tryd.prog w = .ok false w := fun d => by
    simp [Op.equalIn, run_underlying Tryd.underlying22]
  simp only [binOp]
  simp [Op.equal, Op.maxDepth, h 9999]
set_option maxRecDepth 100000 in
theorem clone_any (a : Option Addr) (cap : Nat) (xs : List Int) (w : World) (hi : IntsAt w (.slice a xs.length cap) xs) (h1 : 1 ≤ xs.length) (hn : xs.length ≤ 1000000) :
    Calls Tryd.prog 94 #[.slice a xs.length cap] w fun e w' => ∃ g cap', e = .returned (.slice (some ⟨g, 0, none⟩) xs.length cap') ∧ xs.length ≤ cap' ∧ TailAt w' g xs ∧ w.heap.size ≤ g ∧ Below w.heap.size w w' := by
  obtain ⟨b, off, y, rfl, _, _, _, _⟩ := hi.at 0 (by omega)
  have hnil := slice_nil ⟨b, off, none⟩ xs.length cap
  go_enter Tryd.func94, Tryd.ntmps94
  have hb0 : Below w.heap.size w (w.alloc (.cells #[] 3)) := (Below.refl _ _).alloc (Nat.le_refl _) _
  have hown0 : (w.alloc (.cells #[] 3)).ownsRow w.heap.size 3 1 (.slice (some ⟨w.heap.size, 0, none⟩) 0 0) 0 (intsV []) := World.ownsRow_lit w #[] 0 (Nat.le_refl _) (by unfold maxLen; omega) rfl
  go_wp2_with (at_builtin; refine wpList_app_ints intsT rfl _ _ rfl w.heap.size _ _ [] xs rfl hown0 rfl (hi.below hb0) (by simp; omega) (by simp) ?_; intro v6 w6 hown6 hg6)
  go_ret
  have hb6 := below_app' hb0 hown0 hg6
  rw [List.nil_append] at hown6
  obtain ⟨hlen, ⟨rfl, h0⟩ | ⟨g, cp, cur, rfl, hg, hh, hc1, _, hsz, htk⟩⟩ := hown6
  · omega
  · refine ⟨g, cp, rfl, hc1, ⟨cur.toList.drop (xs.length * 1), ?_⟩, hg, hb6⟩
    rw [hh, ← htk, List.take_append_drop]

/-- a number of copies that is too great or too small -/
def farB (x : Int) : Bool := decide (x < -1099511627776) || decide (1099511627776 < x)
def farFrom : Nat → List Int → Int
  | _, [] => -1
  | k, x :: l => if farB x then k else farFrom (k + 1) l
theorem farFrom_neg : ∀ (l : List Int) k, (decide (0 ≤ farFrom k l)) = l.any farB := by
  intro l
  induction l with
  | nil => intro k; rfl
  | cons x l ih =>
    intro k
    rw [farFrom, List.any_cons]
    cases farB x
    · rw [if_neg (by simp), ih]; rfl
    · rw [if_pos rfl]; simp

/-- how often kind a lies in kind b -/
def matS (a b : Nat) : Int := (matV (wAll 11) a).getD b 0
def stepS (l : List Int) (a b : Nat) : List Int := l.set a (l.getD a 0 - matS a b * l.getD b 0)
def inS (l : List Int) (a : Nat) : Nat → List Int
  | 0 => l
  | k + 1 => stepS (inS l a k) a (a + 1 + k)
def outS (c : List Int) : Nat → List Int
  | 0 => c
  | k + 1 => inS (outS c k) (10 - k) k
/-- what is solved -/
def solS (c : List Int) : List Int := outS c 11
theorem inS_length (l : List Int) (a : Nat) : ∀ k, (inS l a k).length = l.length := by
  intro k
  induction k with
  | zero => rfl
  | succ k ih => rw [inS, stepS, List.length_set, ih]
theorem outS_length (c : List Int) : ∀ k, (outS c k).length = c.length := by
  intro k
  induction k with
  | zero => rfl
  | succ k ih => rw [outS, inS_length, ih]
theorem inS_other (l : List Int) (a : Nat) : ∀ k i, i ≠ a → (inS l a k).getD i 0 = l.getD i 0 := by
  intro k
  induction k with
  | zero => intro i _; rfl
  | succ k ih =>
    intro i hi
    rw [inS, stepS, List.getD_eq_getElem?_getD, List.getElem?_set_ne (Ne.symm hi), ← List.getD_eq_getElem?_getD, ih i hi]
/-- the part that is taken away -/
def parS (l : List Int) (a : Nat) : Nat → Int
  | 0 => 0
  | k + 1 => parS l a k + matS a (a + 1 + k) * l.getD (a + 1 + k) 0
theorem inS_self (l : List Int) (a : Nat) (ha : a < l.length) : ∀ k, (inS l a k).getD a 0 = l.getD a 0 - parS l a k := by
  intro k
  induction k with
  | zero => simp [inS, parS]
  | succ k ih =>
    rw [inS, stepS, List.getD_eq_getElem?_getD, List.getElem?_set_self (by rw [inS_length]; exact ha), Option.getD_some, ih, inS_other _ _ _ _ (by omega), parS]
    omega

def bdL : List Nat := [5421, 3757, 1040, 262, 60, 60, 181, 41, 11, 7, 1]
def bdS (i : Nat) : Nat := bdL.getD i 0 * 1099511627776
def parB (a : Nat) : Nat → Nat
  | 0 => 0
  | k + 1 => parB a k + (matS a (a + 1 + k)).toNat * bdL.getD (a + 1 + k) 0
set_option maxRecDepth 100000 in
theorem bd_ok : ∀ a, a < 11 → ∀ k, k ≤ 10 - a → 1 + parB a k ≤ bdL.getD a 0 := by decide +kernel
set_option maxRecDepth 100000 in
theorem mat_small : ∀ a, a < 11 → ∀ b, b < 11 → 0 ≤ matS a b ∧ matS a b ≤ 12 := by decide +kernel
theorem bdS_le (i : Nat) : bdS i ≤ 5421 * 1099511627776 := by
  have : ∀ i, i < 11 → bdL.getD i 0 ≤ 5421 := by decide
  unfold bdS
  by_cases h : i < 11
  · have := this i h; omega
  · rw [List.getD_eq_getElem?_getD, List.getElem?_eq_none (by simp [bdL]; omega)]; simp
theorem lin1 (A B : Nat) (t r : Int) (h1 : -(A : Int) ≤ t ∧ t ≤ (A : Int)) (h4 : r ≤ (B : Int)) (h5 : -(B : Int) ≤ r) : -((A + B : Nat) : Int) ≤ t + r ∧ t + r ≤ ((A + B : Nat) : Int) := by omega
theorem lin2 (M s r : Nat) (t u : Int) (h1 : -((s * M : Nat) : Int) ≤ t ∧ t ≤ ((s * M : Nat) : Int)) (h2 : -(M : Int) ≤ u ∧ u ≤ (M : Int)) (h3 : 1 + s ≤ r) : -((r * M : Nat) : Int) ≤ u - t ∧ u - t ≤ ((r * M : Nat) : Int) := by
  have h := Nat.mul_le_mul_right M h3
  rw [Nat.add_mul, Nat.one_mul] at h
  generalize s * M = a at *
  generalize r * M = b at *
  omega
/-- the numbers during round p -/
def FitS (l : List Int) (p : Nat) : Prop := ∀ i, i < 11 → -((if i + p < 11 then 1099511627776 else bdS i : Nat) : Int) ≤ l.getD i 0 ∧ l.getD i 0 ≤ ((if i + p < 11 then 1099511627776 else bdS i : Nat) : Int)
set_option maxRecDepth 100000 in
theorem par_bd {l : List Int} {p : Nat} (hp : p < 11) (h : FitS l p) : ∀ k, k ≤ p → -((parB (10 - p) k * 1099511627776 : Nat) : Int) ≤ parS l (10 - p) k ∧ parS l (10 - p) k ≤ ((parB (10 - p) k * 1099511627776 : Nat) : Int) := by
  intro k
  induction k with
  | zero => intro _; simp [parS, parB]
  | succ k ih =>
    intro hk
    have h1 := ih (by omega)
    have h2 := h (10 - p + 1 + k) (by omega)
    rw [if_neg (by omega)] at h2
    have h3 := mat_small (10 - p) (by omega) (10 - p + 1 + k) (by omega)
    rw [parS, parB]
    generalize 10 - p + 1 + k = b at *
    obtain ⟨m, hm⟩ := Int.eq_ofNat_of_zero_le h3.1
    rw [hm] at *
    simp only [Int.toNat_natCast]
    have h4 : (m : Int) * l.getD b 0 ≤ (m : Int) * (bdS b : Int) := Int.mul_le_mul_of_nonneg_left h2.2 (by omega)
    have h5 : (m : Int) * -(bdS b : Int) ≤ (m : Int) * l.getD b 0 := Int.mul_le_mul_of_nonneg_left h2.1 (by omega)
    have h6 : (m : Int) * (bdS b : Int) = ((m * bdL.getD b 0 * 1099511627776 : Nat) : Int) := by unfold bdS; rw [← Int.natCast_mul, Nat.mul_assoc]
    rw [Int.mul_neg] at h5
    rw [h6] at h4 h5
    rw [Nat.add_mul]
    exact lin1 _ _ _ _ h1 h4 h5
set_option maxRecDepth 100000 in
theorem in_bd {l : List Int} {p : Nat} (hp : p < 11) (hl : l.length = 11) (h : FitS l p) (k : Nat) (hk : k ≤ p) : -(bdS (10 - p) : Int) ≤ (inS l (10 - p) k).getD (10 - p) 0 ∧ (inS l (10 - p) k).getD (10 - p) 0 ≤ (bdS (10 - p) : Int) := by
  have h1 := par_bd hp h k hk
  have h2 := h (10 - p) (by omega)
  rw [if_pos (by omega)] at h2
  have h3 := bd_ok (10 - p) (by omega) k (by omega)
  rw [inS_self _ _ (by omega)]
  exact lin2 _ _ _ _ _ h1 h2 h3
theorem fit_next {l : List Int} {p : Nat} (hp : p < 11) (hl : l.length = 11) (h : FitS l p) : FitS (inS l (10 - p) p) (p + 1) := by
  intro i hi
  by_cases hip : i = 10 - p
  · subst hip
    rw [if_neg (by omega)]
    exact in_bd hp hl h p (Nat.le_refl _)
  · rw [inS_other _ _ _ _ hip]
    have := h i hi
    by_cases h2 : i + p < 11
    · rw [if_pos h2] at this; rw [if_pos (by omega)]; exact this
    · rw [if_neg h2] at this; rw [if_neg (by omega)]; exact this
theorem fit_out {c : List Int} (hl : c.length = 11) (h : c.any farB = false) : ∀ p, p ≤ 11 → FitS (outS c p) p := by
  intro p
  induction p with
  | zero =>
    intro _ i hi
    rw [if_pos (by omega), outS, List.getD_eq_getElem?_getD, List.getElem?_eq_getElem (by omega)]
    have h1 := List.any_eq_false.1 h c[i] (List.getElem_mem _)
    simp [farB] at h1
    simp only [Option.getD_some]
    omega
  | succ p ih =>
    intro hp
    exact fit_next (by omega) (by rw [outS_length]; exact hl) (ih (by omega))
end Go.Proofs.YtekbpoppajbljaaDoor

namespace Go.Proofs.YtekbpoppajbljaaDoor
open Go.RowKit Go.BigFrame

set_option maxRecDepth 100000 in
theorem mat_low : ∀ a, a < 11 → (∀ b, b < a → matS a b = 0) ∧ matS a a = 1 := by decide +kernel
theorem dot_low (x : List Int) (a : Nat) (ha : a < 11) : ∀ k, k ≤ a → dotS (matV (wAll 11) a) x k = 0 := by
  intro k
  induction k with
  | zero => intro _; rfl
  | succ k ih =>
    intro hk
    have h := (mat_low a ha).1 k (by omega)
    unfold matS at h
    rw [dotS, ih (by omega), h]
    simp
theorem dot_par (x : List Int) (a : Nat) (ha : a < 11) : ∀ k, dotS (matV (wAll 11) a) x (a + 1 + k) = x.getD a 0 + parS x a k := by
  intro k
  induction k with
  | zero =>
    have h := (mat_low a ha).2
    unfold matS at h
    rw [Nat.add_zero, dotS, dot_low x a ha a (Nat.le_refl _), h, parS]
    simp
  | succ k ih =>
    show dotS (matV (wAll 11) a) x (a + 1 + k + 1) = _
    rw [dotS, ih, parS]
    unfold matS
    omega
theorem par_congr (l x : List Int) (a : Nat) : ∀ k, (∀ j, j < k → l.getD (a + 1 + j) 0 = x.getD (a + 1 + j) 0) → parS l a k = parS x a k := by
  intro k
  induction k with
  | zero => intro _; rfl
  | succ k ih => intro h; rw [parS, parS, ih (fun j hj => h j (by omega)), h k (by omega)]
theorem cop_get (x : List Int) (i : Nat) (hi : i < 11) : (copS x).getD i 0 = dotS (matV (wAll 11) i) x 11 := by
  rw [List.getD_eq_getElem?_getD, copS, copV_get _ _ _ _ hi, if_pos hi]; rfl
theorem undo (x : List Int) : ∀ p, p ≤ 11 → ∀ i, i < 11 → (outS (copS x) p).getD i 0 = if i + p < 11 then (copS x).getD i 0 else x.getD i 0 := by
  intro p
  induction p with
  | zero => intro _ i hi; rw [if_pos (by omega)]; rfl
  | succ p ih =>
    intro hp i hi
    have h := ih (by omega)
    rw [outS]
    by_cases hip : i = 10 - p
    · subst hip
      rw [if_neg (by omega), inS_self _ _ (by rw [outS_length, copS, copV_length]; omega), h _ (by omega), if_pos (by omega), cop_get _ _ (by omega)]
      have h11 : 11 = 10 - p + 1 + p := by omega
      rw [show dotS (matV (wAll 11) (10 - p)) x 11 = dotS (matV (wAll 11) (10 - p)) x (10 - p + 1 + p) from congrArg _ h11, dot_par x _ (by omega)]
      rw [par_congr (outS (copS x) p) x _ p (fun j hj => by rw [h _ (by omega), if_neg (by omega)])]
      omega
    · rw [inS_other _ _ _ _ hip, h i hi]
      by_cases h2 : i + p < 11
      · rw [if_pos h2, if_pos (by omega)]
      · rw [if_neg h2, if_neg (by omega)]
theorem sol_cop (x : List Int) (hx : x.length = 11) : solS (copS x) = x := by
  apply List.ext_getElem?
  intro i
  by_cases hi : i < 11
  · have h := undo x 11 (Nat.le_refl _) i hi
    rw [if_neg (by omega)] at h
    have hl : (solS (copS x)).length = 11 := by rw [solS, outS_length, copS, copV_length]
    rw [List.getD_eq_getElem?_getD, List.getD_eq_getElem?_getD, List.getElem?_eq_getElem (by rw [outS_length, copS, copV_length]; exact hi), List.getElem?_eq_getElem (by omega)] at h
    rw [List.getElem?_eq_getElem (by omega), List.getElem?_eq_getElem (by omega)]
    exact congrArg some h
  · rw [List.getElem?_eq_none (by rw [solS, outS_length, copS, copV_length]; omega), List.getElem?_eq_none (by omega)]

end Go.Proofs.YtekbpoppajbljaaDoor

namespace Go.Proofs.YtekbpoppajbljaaDoor
open Go.RowKit Go.BigFrame

theorem contains_any (a : Option Addr) (cap : Nat) (xs : List Int) (x : Int) (w : World) (hi : IntsAt w (.slice a xs.length cap) xs) :
    Calls Tryd.prog 57 #[.slice a xs.length cap, .int .i64 x] w fun e w' => e = .returned (.bool (decide (0 ≤ idxFrom 0 xs x))) ∧ w = w' := by
  go_enter Tryd.func57, Tryd.ntmps57
  go_wp2_with fail
  refine (index_any _ _ xs x _ hi).mono ?_
  rintro e w1 ⟨rfl, rfl⟩
  go_wp2_with fail
  go_ret
  exact ⟨rfl, rfl⟩

/-- is a node one of four nodes? -/
def phiN (v : Int) (d c b a : Nat) : Bool := decide (0 ≤ idxFrom 0 [(d : Int), (c : Int), (b : Int), (a : Int)] v)

theorem ints_four (w : World) (v1 v2 v3 v4 : Int) (T : TypeId) : IntsAt (w.alloc (.cells #[.int .i64 v1, .int .i64 v2, .int .i64 v3, .int .i64 v4] T)) (.slice (some ⟨w.heap.size, 0, none⟩) 4 4) [v1, v2, v3, v4] := by
  refine ⟨_, 4, rfl, by simp, (fun h => by cases h), by simp, fun i x hi => ⟨w.heap.size, 0, rfl, ?_⟩⟩
  rw [cell_blk (heap_alloc_new _ _), Nat.zero_add]
  have h4 : i < 4 := (List.getElem?_eq_some_iff.1 hi).1
  rcases (by omega : i = 0 ∨ i = 1 ∨ i = 2 ∨ i = 3) with rfl | rfl | rfl | rfl <;> (cases hi; rfl)

theorem node1_any (v1 v2 v3 v4 : Int) (bv : Nat) (v : Int) (w : World) (hc : w.cell? ⟨bv, 0, none⟩ = some (.int .i64 v)) :
    Calls Tryd.prog 56 #[.agg #[.int .i64 v1, .int .i64 v2, .int .i64 v3, .int .i64 v4], .pointer (some ⟨bv, 0, none⟩)] w fun e w' => e = .returned (.bool (decide (0 ≤ idxFrom 0 [v1, v2, v3, v4] v))) ∧ Below w.heap.size w w' := by
  have h4 := ints_four w v1 v2 v3 v4 74
  have hc2 := cell_alloc (o := .cells #[.int .i64 v1, .int .i64 v2, .int .i64 v3, .int .i64 v4] 74) hc
  have hb : Below w.heap.size w (w.alloc (.cells #[.int .i64 v1, .int .i64 v2, .int .i64 v3, .int .i64 v4] 74)) := (Below.refl _ _).alloc (Nat.le_refl _) _
  have hsl : ∀ wz, (Instr.sliceAt 74 (.pointer (some ⟨w.heap.size, 0, none⟩)) none none none).run Tryd.prog wz = .ok (.slice (some ⟨w.heap.size, 0, none⟩) 4 4) wz := fun _ => by kernel_rfl
  go_enter Tryd.func56, Tryd.ntmps56
  go_wp2_with fail
  go_region_with (go_at_call 57; refine (contains_any _ _ [v1, v2, v3, v4] _ _ (h4.below (Below.refl _ _).drew)).mono ?_; rintro e w2 ⟨rfl, rfl⟩)
  go_wp2_with fail
  go_ret
  exact ⟨rfl, hb.drew⟩

set_option maxRecDepth 100000 in
set_option maxHeartbeats 1600000 in
theorem sums_node (v : Int) (bv : Nat) (n : Nat) (a : Option Addr) (cap : Nat) (es : List E2) (w : World) (he : EdgesAt w (.slice a es.length cap) es) (hv : Valid n es) (ht : TabsAt w) (hc : w.cell? ⟨bv, 0, none⟩ = some (.int .i64 v)) :
    Calls Tryd.prog 54 #[.agg #[.int .i64 n, .slice a es.length cap], .func (.func 56) #[] #[.pointer (some ⟨bv, 0, none⟩)]] w (fun e w' => ∃ g, e = .returned (.slice (some ⟨g, 0, none⟩) 11 11) ∧ w.heap.size ≤ g ∧ NumAt w' g (cntV (kA es (phiN v) n)) ∧ Below w.heap.size w w') := by
  have hn : n ≤ 64 := by have := hv.2.1; omega
  have hcl := cell_lt hc
  have HCV := Lib.hid hc
  clear hc
  go_enter Tryd.func54, Tryd.ntmps54
  go_wp2_with fail
  refine (joined_any n a cap es _ (he.below ((Below.refl _ _).alloc (Nat.le_refl _) _)) hv).mono ?_
  rintro e w1 ⟨g, rfl, hT, hgw, hb1⟩
  have b0 : w1.cell? ⟨w.heap.size, 0, none⟩ = some (.int .i64 n) := (hb1.cell (p := ⟨w.heap.size, 0, none⟩) (by simp)).trans (cell_blk (heap_alloc_new _ _))
  have hbw : Below w.heap.size w w1 := ((Below.refl _ _).alloc (Nat.le_refl _) _).trans (hb1.mono (by simp))
  have ht1 := ht.below hbw
  clear hb1
  have hmk := make11
  have hzw : w.heap.size < w1.heap.size := cell_lt b0
  go_wp2_with fail
  clear hmk
  have hgz := hgw
  have hC0 : CntAt (w1.alloc (.cells (intsV (cntV [])).toArray 3)) w1.heap.size (kT es (phiN v) 0 0 0 0) := heap_alloc_new _ _
  have hb0 : Below w.heap.size w (w1.alloc (.cells (intsV (cntV [])).toArray 3)) := hbw.alloc hbw.size _
  have hT0 : TableAt (w1.alloc (.cells (intsV (cntV [])).toArray 3)) g es := by
    obtain ⟨cs, h1, h2⟩ := hT
    exact ⟨cs, (Below.heap_alloc _ _ _ (blk_lt h1)).trans h1, h2⟩
  have hgl : g < w1.heap.size := by obtain ⟨cs, h1, h2⟩ := hT; exact blk_lt h1
  go_loopw [17] (fun i wr => ∃ a : Nat, a ≤ n ∧ i = .int .i64 a ∧ Below w.heap.size w wr ∧ TableAt wr g es ∧ CntAt wr w1.heap.size (kT es (phiN v) a 0 0 0)) (fun i _ => n - (intOf i).toNat)
  case atStart => exact ⟨0, by omega, rfl, hb0, hT0, hC0⟩
  case round =>
    clear hC0 hb0 hT0 hT ht1 hbw
    obtain ⟨a', hka, rfl, hb, hT, hC⟩ := hrel
    by_cases hlt : a' < n
    · go_wp2_with fail
      obtain ⟨wo, rfl⟩ : ∃ wo : World, wo = wr := ⟨_, rfl⟩
      go_loopw [21] (fun i wr => ∃ b : Nat, b ≤ a' ∧ i = .int .i64 b ∧ Below w.heap.size w wr ∧ TableAt wr g es ∧ CntAt wr w1.heap.size (kT es (phiN v) a' b 0 0)) (fun i _ => a' - (intOf i).toNat)
      case atStart => exact ⟨0, by omega, rfl, hb, hT, hC⟩
      case round =>
        clear hb hT hC
        obtain ⟨b', hkb, rfl, hb, hT, hC⟩ := hrel
        by_cases hltb : b' < a'
        · go_wp2_with fail
          obtain ⟨wo, rfl⟩ : ∃ wo : World, wo = wr := ⟨_, rfl⟩
          go_loopw [25] (fun i wr => ∃ c : Nat, c ≤ b' ∧ i = .int .i64 c ∧ Below w.heap.size w wr ∧ TableAt wr g es ∧ CntAt wr w1.heap.size (kT es (phiN v) a' b' c 0)) (fun i _ => b' - (intOf i).toNat)
          case atStart => exact ⟨0, by omega, rfl, hb, hT, hC⟩
          case round =>
            clear hb hT hC
            obtain ⟨c', hkc, rfl, hb, hT, hC⟩ := hrel
            by_cases hltc : c' < b'
            · go_wp2_with fail
              obtain ⟨wo, rfl⟩ : ∃ wo : World, wo = wr := ⟨_, rfl⟩
              go_loopw [29] (fun i wr => ∃ d : Nat, d ≤ c' ∧ i = .int .i64 d ∧ Below w.heap.size w wr ∧ TableAt wr g es ∧ CntAt wr w1.heap.size (kT es (phiN v) a' b' c' d)) (fun i _ => c' - (intOf i).toNat)
              case atStart => exact ⟨0, by omega, rfl, hb, hT, hC⟩
              case round =>
                clear hb hT hC
                obtain ⟨d', hkd, rfl, hb, hT, hC⟩ := hrel
                by_cases hltd : d' < c'
                · go_wp2_with fail
                  refine (node1_any _ _ _ _ bv v _ (cell_alloc ((hb.cell (p := ⟨bv, 0, none⟩) hcl).trans HCV.out))).mono ?_
                  rintro e w2 ⟨rfl, hb2⟩
                  have hph : decide (0 ≤ idxFrom 0 [(d' : Int), (c' : Int), (b' : Int), (a' : Int)] v) = phiN v d' c' b' a' := rfl
                  rw [hph]
                  clear hph
                  have hb02 : Below wr.heap.size wr w2 := ((Below.refl _ _).alloc (Nat.le_refl _) _).trans (hb2.mono (by simp))
                  cases hφ : phiN v d' c' b' a'
                  · have HP := Lib.hid hφ
                    clear hφ
                    have hb22 := hb.trans (hb02.mono hb.size)
                    have hT2 := hT.below hb02
                    have hC2 := hC.below hb02
                    clear hb2
                    go_wp2_with fail
                    go_roundw
                    case rel => exact ⟨d' + 1, by omega, by go_num, hb22, hT2, by rw [kT_d, HP.out, if_neg (by simp), List.append_nil]; exact hC2⟩
                    case measure => simp [intOf]; omega
                  · have HP := Lib.hid hφ
                    clear hφ
                    have s0 := (hb2.cell (p := ⟨wr.heap.size, 0, none⟩) (by simp)).trans (cell_fresh wr _ _ 0 _ rfl)
                    have s1 := (hb2.cell (p := ⟨wr.heap.size, 1, none⟩) (by simp)).trans (cell_fresh wr _ _ 1 _ rfl)
                    have s2 := (hb2.cell (p := ⟨wr.heap.size, 2, none⟩) (by simp)).trans (cell_fresh wr _ _ 2 _ rfl)
                    have s3 := (hb2.cell (p := ⟨wr.heap.size, 3, none⟩) (by simp)).trans (cell_fresh wr _ _ 3 _ rfl)
                    have hbw2 := hb.trans (hb02.mono hb.size)
                    obtain ⟨κ, hκ⟩ := Int.eq_ofNat_of_zero_le (ofKS_bd es d' c' b' a').1
                    have hk11 : κ < 11 := by have := (ofKS_bd es d' c' b' a').2; omega
                    have HK := Lib.hid hκ
                    have hsz2 := hb02.size
                    clear hκ hb2
                    go_wp2_with fail
                    refine (of4_any g es d' c' b' a' _ (by omega) (by omega) (by omega) (by omega) (ht.below hbw2) (hT.below hb02)).mono ?_
                    rintro e w3 ⟨rfl, hb3⟩
                    rw [HK.out]
                    have hb03 := hb02.trans (hb3.mono hb02.size)
                    have hC3 := hC.below hb03
                    have hT3 := hT.below hb03
                    have r0 := hC3.cell κ hk11
                    have r1 : w3.frozen? ⟨w1.heap.size, κ, none⟩ = false := free_blk hC3
                    have hcb := cnt_bd (kT es (phiN v) a' b' c' d') κ
                    have hcl := kT_le es (phiN v) a' b' c' d' (by omega) (by omega) (by omega) (by omega)
                    have HS := Lib.hid (hC3.step κ hk11)
                    clear hb3 s0 s1 s2 s3
                    generalize hcv : ((kT es (phiN v) a' b' c' d').filter (fun x => x == (κ : Int))).length = cv at *
                    have HV := Lib.hid hcv
                    clear hcv
                    go_wp2_with fail
                    go_roundw
                    case rel => exact ⟨d' + 1, by omega, by go_num, (hb.trans (hb03.mono hb.size)).setCell (p := ⟨w1.heap.size, κ, none⟩) (Nat.le_of_lt hzw) _, hT3.set (by omega), by rw [kT_d, if_pos HP.out, HK.out]; exact HS.out⟩
                    case measure => simp [intOf]; omega
                · obtain rfl : d' = c' := by omega
                  go_wp2_with fail
                  go_roundw
                  case rel => exact ⟨d' + 1, by omega, by go_num, hb, hT, by rw [kT_c]; exact hC⟩
                  case measure => simp [intOf]; omega
            · obtain rfl : c' = b' := by omega
              go_wp2_with fail
              go_roundw
              case rel => exact ⟨c' + 1, by omega, by go_num, hb, hT, by rw [kT_b]; exact hC⟩
              case measure => simp [intOf]; omega
        · obtain rfl : b' = a' := by omega
          go_wp2_with fail
          go_roundw
          case rel => exact ⟨b' + 1, by omega, by go_num, hb, hT, by rw [kT_a]; exact hC⟩
          case measure => simp [intOf]; omega
    · obtain rfl : a' = n := by omega
      go_wp2_with fail
      go_ret
      have hK : kT es (phiN v) a' 0 0 0 = kA es (phiN v) a' := by simp [kT, kB, kC, kD]
      rw [hK] at hC
      exact ⟨_, rfl, Nat.le_of_lt hzw, hC, hb⟩
end Go.Proofs.YtekbpoppajbljaaDoor

namespace Go.Proofs.YtekbpoppajbljaaDoor
open Go.RowKit Go.BigFrame

def nodS (es : List E2) (n : Nat) (v : Int) : List Int := cntV (kA es (phiN v) n)
theorem nodS_length (es : List E2) (n : Nat) (v : Int) : (nodS es n v).length = 11 := cntV_length _

set_option maxRecDepth 100000 in
set_option maxHeartbeats 800000 in
theorem node_any (n : Nat) (v : Int) (a : Option Addr) (cap : Nat) (es : List E2) (w : World) (he : EdgesAt w (.slice a es.length cap) es) (hv : Valid n es) (ht : TabsAt w) (h0 : 0 ≤ v) (h1 : v < n) :
    Calls Tryd.prog 23 #[.agg #[.int .i64 n, .slice a es.length cap], .int .i64 v] w fun e w' => ∃ g, e = .returned (.tuple #[.slice (some ⟨g, 0, none⟩) 11 11, .int .i64 0]) ∧ w.heap.size ≤ g ∧ NumAt w' g (nodS es n v) ∧ Below w.heap.size w w' := by
  have d0 : decide (v < 0) = false := by simp; omega
  have d1 : decide ((n : Int) ≤ v) = false := by simp; omega
  have hbd0 : Below w.heap.size w ((w.alloc (.cells #[.int .i64 n, .slice a es.length cap] 27)).alloc (.cells #[.int .i64 v] 3)) := ((Below.refl _ _).alloc (Nat.le_refl _) _).alloc (by simp) _
  go_enter Tryd.func23, Tryd.ntmps23
  go_wp2_with fail
  refine (gcheck_any n a cap es _ (he.below hbd0)).mono ?_
  rintro e w1 ⟨rfl, hb1⟩
  rw [(valid_iff n es).2 hv]
  have b0 : w1.cell? ⟨w.heap.size, 0, none⟩ = some (.int .i64 n) := (hb1.cell (p := ⟨w.heap.size, 0, none⟩) (by simp; omega)).trans (cell_alloc (cell_blk (heap_alloc_new _ _)))
  have b1 : w1.cell? ⟨w.heap.size, 1, none⟩ = some (.slice a es.length cap) := (hb1.cell (p := ⟨w.heap.size, 1, none⟩) (by simp; omega)).trans (cell_alloc (cell_blk (heap_alloc_new _ _)))
  have b2 : w1.cell? ⟨w.heap.size + 1, 0, none⟩ = some (.int .i64 v) := (hb1.cell (p := ⟨w.heap.size + 1, 0, none⟩) (by simp)).trans (by rw [show w.heap.size + 1 = (w.alloc (.cells #[.int .i64 n, .slice a es.length cap] 27)).heap.size by simp]; exact cell_blk (heap_alloc_new _ _))
  have hbw : Below w.heap.size w w1 := hbd0.trans (hb1.mono (by simp; omega))
  clear hb1 hbd0
  go_wp2_with fail
  refine (sums_node v (w.heap.size + 1) n a cap es _ (he.below hbw) hv (ht.below hbw) b2).mono ?_
  rintro e w2 ⟨g, rfl, hg, hi2, hb2⟩
  go_wp2
  go_ret2
  exact ⟨_, rfl, Nat.le_trans hbw.size hg, hi2, hbw.trans (hb2.mono hbw.size)⟩
end Go.Proofs.YtekbpoppajbljaaDoor
