/- The contract of the program's solving of copies, and that it undoes the copies. -/
import Derived.Test.YtdiackininlmeaaDoorRef25
namespace Go.Proofs.YtdiackininlmeaaDoor
open Go.RowKit Go.BigFrame

/-- numbers, and maybe spare room, in block g -/
def TailAt (w : World) (g : Nat) (l : List Int) : Prop := ∃ r : List Value, w.heap[g]? = some (.cells (intsV l ++ r).toArray 3 (0, 0))
theorem TailAt.cell {w : World} {g : Nat} {l : List Int} (h : TailAt w g l) (k : Nat) (x : Int) (hk : l[k]? = some x) : w.cell? ⟨g, k, none⟩ = some (.int .i64 x) := by
  obtain ⟨r, h⟩ := h
  have hl : k < l.length := (List.getElem?_eq_some_iff.1 hk).1
  rw [cell_blk h]
  simp only [List.getElem?_toArray]
  rw [List.getElem?_append_left (by simpa [intsV] using hl)]
  simp [intsV, hk]
theorem TailAt.set {w : World} {g : Nat} {l : List Int} (h : TailAt w g l) (k : Nat) (x : Int) (hk : k < l.length) : TailAt (w.setCell ⟨g, k, none⟩ (.int .i64 x)) g (l.set k x) := by
  obtain ⟨r, h⟩ := h
  refine ⟨r, ?_⟩
  rw [heap_setCell_same _ _ _ _ _ _ h]
  have : (intsV l ++ r).toArray.setIfInBounds k (.int .i64 x) = (intsV (l.set k x) ++ r).toArray := by
    simp only [List.setIfInBounds_toArray, intsV, List.map_set]
    rw [List.set_append_left _ _ (by simpa using hk)]
  rw [this]
theorem TailAt.free {w : World} {g : Nat} {l : List Int} (h : TailAt w g l) (k : Nat) : w.frozen? ⟨g, k, none⟩ = false := by
  obtain ⟨r, h⟩ := h
  exact free_blk h
theorem TailAt.lt {w : World} {g : Nat} {l : List Int} (h : TailAt w g l) : g < w.heap.size := by obtain ⟨r, h⟩ := h; exact blk_lt h
theorem TailAt.ints {w : World} {g cap : Nat} {l : List Int} (h : TailAt w g l) (hl : l.length ≤ 1000000) (hc : l.length ≤ cap) : IntsAt w (.slice (some ⟨g, 0, none⟩) l.length cap) l := by
  refine ⟨_, cap, rfl, hc, (fun e => by cases e), by omega, fun i x hi => ⟨g, 0, rfl, ?_⟩⟩
  rw [Nat.zero_add]; exact h.cell i x hi

theorem slice_nil (x : Addr) (n c : Nat) (w : World) : (binOp .eql 22 (.slice (some x) n c) (.slice none 0 0)).run Tryd.prog w = .ok (.bool false) w := by
  have h : ∀ d : Nat, (Op.equalIn (d + 1) 22 (.slice (some x) n c) (.slice none 0 0)).run Tryd.prog w = .ok false w := fun d => by
    simp [Op.equalIn, run_underlying Tryd.underlying22]
  simp only [binOp]
  simp [Op.equal, Op.maxDepth, h 9999]
set_option maxRecDepth 100000 in
theorem clone_any (a : Option Addr) (cap : Nat) (xs : List Int) (w : World) (hi : IntsAt w (.slice a xs.length cap) xs) (h1 : 1 ≤ xs.length) (hn : xs.length ≤ 1000000) :
    Calls Tryd.prog 71 #[.slice a xs.length cap] w fun e w' => ∃ g cap', e = .returned (.slice (some ⟨g, 0, none⟩) xs.length cap') ∧ xs.length ≤ cap' ∧ TailAt w' g xs ∧ w.heap.size ≤ g ∧ Below w.heap.size w w' := by
  obtain ⟨b, off, y, rfl, _, _, _, _⟩ := hi.at 0 (by omega)
  have hnil := slice_nil ⟨b, off, none⟩ xs.length cap
  go_enter Tryd.func71, Tryd.ntmps71
  have hb0 : Below w.heap.size w (w.alloc (.cells #[] 3)) := (Below.refl _ _).alloc (Nat.le_refl _) _
  have hown0 : (w.alloc (.cells #[] 3)).ownsRow w.heap.size 3 1 (.slice (some ⟨w.heap.size, 0, none⟩) 0 0) 0 (intsV []) := World.ownsRow_lit w #[] 0 (Nat.le_refl _) (by unfold maxLen; omega) rfl
  go_wp2_with (at_builtin; refine wpList_app_ints intsT rfl _ _ rfl w.heap.size _ _ [] xs rfl hown0 rfl (hi.below hb0) (by simp; omega) (by simp) ?_; intro v6 w6 hown6 hg6)
  go_ret
  have hb6 := below_app' hb0 hown0 hg6
  rw [List.nil_append] at hown6
  obtain ⟨hlen, ⟨rfl, h0⟩ | ⟨g, cp, cur, rfl, hg, hh, hc1, _, hsz, htk⟩⟩ := hown6
  · omega
  · refine ⟨g, cp, rfl, hc1, ⟨cur.toList.drop (xs.length * 1), ?_⟩, hg, hb6⟩
    rw [hh, ← htk, List.take_append_drop]

/-- a number of copies that is too great or too small -/
def farB (x : Int) : Bool := decide (x < -1099511627776) || decide (1099511627776 < x)
theorem solve1_any (x : Int) (w : World) : Calls Tryd.prog 70 #[.int .i64 x] w fun e w' => e = .returned (.bool (farB x)) ∧ w = w' := by
  by_cases h1 : x < -1099511627776
  · have d1 : decide (x < -1099511627776) = true := by simpa using h1
    go_enter Tryd.func70, Tryd.ntmps70
    go_wp2
    go_ret
    exact ⟨ret_bool (by simp [farB, d1]), rfl⟩
  · have d1 : decide (x < -1099511627776) = false := by simpa using h1
    go_enter Tryd.func70, Tryd.ntmps70
    go_wp2
    go_ret
    exact ⟨ret_bool (by simp [farB, d1]), rfl⟩

def farFrom : Nat → List Int → Int
  | _, [] => -1
  | k, x :: l => if farB x then k else farFrom (k + 1) l
theorem farFrom_neg : ∀ (l : List Int) k, (decide (0 ≤ farFrom k l)) = l.any farB := by
  intro l
  induction l with
  | nil => intro k; rfl
  | cons x l ih =>
    intro k
    rw [farFrom, List.any_cons]
    cases farB x
    · rw [if_neg (by simp), ih]; rfl
    · rw [if_pos rfl]; simp

set_option maxRecDepth 100000 in
theorem idxfunc_any (a : Option Addr) (cap : Nat) (xs : List Int) (w : World) (hi : IntsAt w (.slice a xs.length cap) xs) :
    Calls Tryd.prog 81 #[.slice a xs.length cap, .func (.func 70) #[] #[]] w fun e w' => e = .returned (.int .i64 (farFrom 0 xs)) ∧ w = w' := by
  have hl : xs.length ≤ 70368744177664 := by obtain ⟨_, _, hv, _, _, hl, _⟩ := hi; exact hl
  go_enter Tryd.func81, Tryd.ntmps81
  go_wp2_with fail
  go_loop [8] (fun i => ∃ k : Nat, k ≤ xs.length ∧ i = .int .i64 k ∧ Hid (farFrom 0 xs = farFrom k (xs.drop k))) (fun i => xs.length - (intOf i).toNat)
  case atStart => exact ⟨0, Nat.zero_le _, rfl, rfl⟩
  case round =>
    obtain ⟨k, hk, rfl, HR⟩ := hrel
    by_cases hlt : k < xs.length
    · obtain ⟨b, off, y, rfl, _, hd, _, c0⟩ := hi.at k hlt
      have HD := Lib.hid hd
      clear hd
      go_wp2_with fail
      refine (solve1_any _ _).mono ?_
      rintro e w1 ⟨rfl, rfl⟩
      cases hf : farB y
      · have HT : Hid (farFrom 0 xs = farFrom (k + 1) (xs.drop (k + 1))) := by show _ = _; rw [HR.out, HD.out, farFrom, hf, if_neg (by simp)]
        go_wp2_with fail
        go_round
        case rel => exact ⟨k + 1, by omega, by go_num, HT⟩
        case measure => simp [intOf]; omega
      · have HT : Hid (farFrom 0 xs = k) := by show _ = _; rw [HR.out, HD.out, farFrom, hf, if_pos rfl]
        go_wp2_with fail
        go_ret
        exact ⟨ret_int HT.out.symm, rfl⟩
    · have HT : Hid (farFrom 0 xs = -1) := by show _ = _; rw [HR.out, List.drop_of_length_le (by omega)]; rfl
      go_wp2_with fail
      go_ret
      exact ⟨ret_int HT.out.symm, rfl⟩
theorem confunc_any (a : Option Addr) (cap : Nat) (xs : List Int) (w : World) (hi : IntsAt w (.slice a xs.length cap) xs) :
    Calls Tryd.prog 69 #[.slice a xs.length cap, .func (.func 70) #[] #[]] w fun e w' => e = .returned (.bool (xs.any farB)) ∧ w = w' := by
  have hf := farFrom_neg xs 0
  go_enter Tryd.func69, Tryd.ntmps69
  go_wp2_with fail
  refine (idxfunc_any _ _ xs _ hi).mono ?_
  rintro e w1 ⟨rfl, rfl⟩
  go_wp2_with fail
  go_ret
  exact ⟨rfl, rfl⟩

/-- how often kind a lies in kind b -/
def matS (a b : Nat) : Int := (matV (wAll 11) a).getD b 0
def stepS (l : List Int) (a b : Nat) : List Int := l.set a (l.getD a 0 - matS a b * l.getD b 0)
def inS (l : List Int) (a : Nat) : Nat → List Int
  | 0 => l
  | k + 1 => stepS (inS l a k) a (a + 1 + k)
def outS (c : List Int) : Nat → List Int
  | 0 => c
  | k + 1 => inS (outS c k) (10 - k) k
/-- what is solved -/
def solS (c : List Int) : List Int := outS c 11
theorem inS_length (l : List Int) (a : Nat) : ∀ k, (inS l a k).length = l.length := by
  intro k
  induction k with
  | zero => rfl
  | succ k ih => rw [inS, stepS, List.length_set, ih]
theorem outS_length (c : List Int) : ∀ k, (outS c k).length = c.length := by
  intro k
  induction k with
  | zero => rfl
  | succ k ih => rw [outS, inS_length, ih]
theorem inS_other (l : List Int) (a : Nat) : ∀ k i, i ≠ a → (inS l a k).getD i 0 = l.getD i 0 := by
  intro k
  induction k with
  | zero => intro i _; rfl
  | succ k ih =>
    intro i hi
    rw [inS, stepS, List.getD_eq_getElem?_getD, List.getElem?_set_ne (Ne.symm hi), ← List.getD_eq_getElem?_getD, ih i hi]
/-- the part that is taken away -/
def parS (l : List Int) (a : Nat) : Nat → Int
  | 0 => 0
  | k + 1 => parS l a k + matS a (a + 1 + k) * l.getD (a + 1 + k) 0
theorem inS_self (l : List Int) (a : Nat) (ha : a < l.length) : ∀ k, (inS l a k).getD a 0 = l.getD a 0 - parS l a k := by
  intro k
  induction k with
  | zero => simp [inS, parS]
  | succ k ih =>
    rw [inS, stepS, List.getD_eq_getElem?_getD, List.getElem?_set_self (by rw [inS_length]; exact ha), Option.getD_some, ih, inS_other _ _ _ _ (by omega), parS]
    omega

def bdL : List Nat := [5421, 3757, 1040, 262, 60, 60, 181, 41, 11, 7, 1]
def bdS (i : Nat) : Nat := bdL.getD i 0 * 1099511627776
def parB (a : Nat) : Nat → Nat
  | 0 => 0
  | k + 1 => parB a k + (matS a (a + 1 + k)).toNat * bdL.getD (a + 1 + k) 0
set_option maxRecDepth 100000 in
theorem bd_ok : ∀ a, a < 11 → ∀ k, k ≤ 10 - a → 1 + parB a k ≤ bdL.getD a 0 := by decide +kernel
set_option maxRecDepth 100000 in
theorem mat_small : ∀ a, a < 11 → ∀ b, b < 11 → 0 ≤ matS a b ∧ matS a b ≤ 12 := by decide +kernel
theorem bdS_le (i : Nat) : bdS i ≤ 5421 * 1099511627776 := by
  have : ∀ i, i < 11 → bdL.getD i 0 ≤ 5421 := by decide
  unfold bdS
  by_cases h : i < 11
  · have := this i h; omega
  · rw [List.getD_eq_getElem?_getD, List.getElem?_eq_none (by simp [bdL]; omega)]; simp
theorem lin1 (A B : Nat) (t r : Int) (h1 : -(A : Int) ≤ t ∧ t ≤ (A : Int)) (h4 : r ≤ (B : Int)) (h5 : -(B : Int) ≤ r) : -((A + B : Nat) : Int) ≤ t + r ∧ t + r ≤ ((A + B : Nat) : Int) := by omega
theorem lin2 (M s r : Nat) (t u : Int) (h1 : -((s * M : Nat) : Int) ≤ t ∧ t ≤ ((s * M : Nat) : Int)) (h2 : -(M : Int) ≤ u ∧ u ≤ (M : Int)) (h3 : 1 + s ≤ r) : -((r * M : Nat) : Int) ≤ u - t ∧ u - t ≤ ((r * M : Nat) : Int) := by
  have h := Nat.mul_le_mul_right M h3
  rw [Nat.add_mul, Nat.one_mul] at h
  generalize s * M = a at *
  generalize r * M = b at *
  omega
/-- the numbers during round p -/
def FitS (l : List Int) (p : Nat) : Prop := ∀ i, i < 11 → -((if i + p < 11 then 1099511627776 else bdS i : Nat) : Int) ≤ l.getD i 0 ∧ l.getD i 0 ≤ ((if i + p < 11 then 1099511627776 else bdS i : Nat) : Int)
set_option maxRecDepth 100000 in
theorem par_bd {l : List Int} {p : Nat} (hp : p < 11) (h : FitS l p) : ∀ k, k ≤ p → -((parB (10 - p) k * 1099511627776 : Nat) : Int) ≤ parS l (10 - p) k ∧ parS l (10 - p) k ≤ ((parB (10 - p) k * 1099511627776 : Nat) : Int) := by
  intro k
  induction k with
  | zero => intro _; simp [parS, parB]
  | succ k ih =>
    intro hk
    have h1 := ih (by omega)
    have h2 := h (10 - p + 1 + k) (by omega)
    rw [if_neg (by omega)] at h2
    have h3 := mat_small (10 - p) (by omega) (10 - p + 1 + k) (by omega)
    rw [parS, parB]
    generalize 10 - p + 1 + k = b at *
    obtain ⟨m, hm⟩ := Int.eq_ofNat_of_zero_le h3.1
    rw [hm] at *
    simp only [Int.toNat_natCast]
    have h4 : (m : Int) * l.getD b 0 ≤ (m : Int) * (bdS b : Int) := Int.mul_le_mul_of_nonneg_left h2.2 (by omega)
    have h5 : (m : Int) * -(bdS b : Int) ≤ (m : Int) * l.getD b 0 := Int.mul_le_mul_of_nonneg_left h2.1 (by omega)
    have h6 : (m : Int) * (bdS b : Int) = ((m * bdL.getD b 0 * 1099511627776 : Nat) : Int) := by unfold bdS; rw [← Int.natCast_mul, Nat.mul_assoc]
    rw [Int.mul_neg] at h5
    rw [h6] at h4 h5
    rw [Nat.add_mul]
    exact lin1 _ _ _ _ h1 h4 h5
set_option maxRecDepth 100000 in
theorem in_bd {l : List Int} {p : Nat} (hp : p < 11) (hl : l.length = 11) (h : FitS l p) (k : Nat) (hk : k ≤ p) : -(bdS (10 - p) : Int) ≤ (inS l (10 - p) k).getD (10 - p) 0 ∧ (inS l (10 - p) k).getD (10 - p) 0 ≤ (bdS (10 - p) : Int) := by
  have h1 := par_bd hp h k hk
  have h2 := h (10 - p) (by omega)
  rw [if_pos (by omega)] at h2
  have h3 := bd_ok (10 - p) (by omega) k (by omega)
  rw [inS_self _ _ (by omega)]
  exact lin2 _ _ _ _ _ h1 h2 h3
theorem fit_next {l : List Int} {p : Nat} (hp : p < 11) (hl : l.length = 11) (h : FitS l p) : FitS (inS l (10 - p) p) (p + 1) := by
  intro i hi
  by_cases hip : i = 10 - p
  · subst hip
    rw [if_neg (by omega)]
    exact in_bd hp hl h p (Nat.le_refl _)
  · rw [inS_other _ _ _ _ hip]
    have := h i hi
    by_cases h2 : i + p < 11
    · rw [if_pos h2] at this; rw [if_pos (by omega)]; exact this
    · rw [if_neg h2] at this; rw [if_neg (by omega)]; exact this
theorem fit_out {c : List Int} (hl : c.length = 11) (h : c.any farB = false) : ∀ p, p ≤ 11 → FitS (outS c p) p := by
  intro p
  induction p with
  | zero =>
    intro _ i hi
    rw [if_pos (by omega), outS, List.getD_eq_getElem?_getD, List.getElem?_eq_getElem (by omega)]
    have h1 := List.any_eq_false.1 h c[i] (List.getElem_mem _)
    simp [farB] at h1
    simp only [Option.getD_some]
    omega
  | succ p ih =>
    intro hp
    exact fit_next (by omega) (by rw [outS_length]; exact hl) (ih (by omega))
end Go.Proofs.YtdiackininlmeaaDoor
