/- The contracts of the sets of nodes as bits: the least bit, the list. -/
import Derived.Test.YtdiackininlmeaaDoorRef25
import Derived.Laws.Bits64b
import Derived.Lib.TrailingZeros
namespace Go.Proofs.YtdiackininlmeaaDoor
open Go.RowKit Go.BigFrame

/-- the library's table -/
def TzAt (w : World) : Prop := ∀ j, j < 64 → w.cell? ⟨3, j, none⟩ = some (.int .u8 (Lib.deBruijn64tab.getD j 0))
theorem TzAt.below {w w' : World} (h : TzAt w) (hb : Below w.heap.size w w') : TzAt w' :=
  fun j hj => (hb.cell (p := ⟨_, j, none⟩) (cell_lt (h j hj))).trans (h j hj)

theorem tz_key (x a : Nat) (hx : x < 18446744073709551616) (hx0 : x ≠ 0) (hlow : x &&& (18446744073709551616 - x) = a) :
    IntKind.u64.wrap (bits BinOp.and IntKind.u64 (x : Int) (IntKind.u64.wrap (-(x : Int))) * 285870213051353865) / 288230376151711744 = ((a * 285870213051353865 % 18446744073709551616 / 288230376151711744 : Nat) : Int) := by
  have e1 : IntKind.u64.wrap (-(x : Int)) = ((18446744073709551616 - x : Nat) : Int) := by rw [IntKind.wrap_u64]; omega
  rw [e1, bits_and_u64_nat x _ hx (by omega), hlow, IntKind.wrap_u64]
  omega

set_option maxHeartbeats 1000000 in
theorem tz_core (x k idx : Nat) (w : World) (hx0 : ((x : Int) == 0) = false)
    (key : IntKind.u64.wrap (bits BinOp.and IntKind.u64 (x : Int) (IntKind.u64.wrap (-(x : Int))) * 285870213051353865) / 288230376151711744 = (idx : Int))
    (hi : idx < 64) (hk : k < 64) (hcell : w.cell? ⟨3, idx, none⟩ = some (.int .u8 k)) :
    Calls Tryd.prog 95 #[.int .u64 x] w fun e w' => e = .returned (.int .i64 k) ∧ w = w' := by
  go_enter Tryd.func95, Tryd.ntmps95
  go_wp2_with (simp only [key])
  go_ret
  exact ⟨rfl, rfl⟩
theorem tz_any (x : Nat) (hx : x < 18446744073709551616) (hx0 : x ≠ 0) (w : World) (hT : TzAt w) :
    Calls Tryd.prog 95 #[.int .u64 x] w fun e w' => e = .returned (.int .i64 (Lib.ctz 64 x)) ∧ w = w' := by
  obtain ⟨hlow, hk⟩ := Lib.lowest_bit 64 x hx0 hx
  obtain ⟨hi, htab⟩ := Lib.deBruijn64_at _ hk
  have hcell := hT _ hi
  rw [htab] at hcell
  exact tz_core x _ _ w (by simp; omega) (tz_key x _ hx hx0 hlow) hi hk hcell

/-- the nodes of a set, ascending -/
def bitsL (m : Nat) : List Int := ((List.range 64).filter fun i => m.testBit i).map fun (i : Nat) => (i : Int)
theorem bitsL_length (m : Nat) : (bitsL m).length ≤ 64 := by
  unfold bitsL
  rw [List.length_map]
  have := List.length_filter_le (fun i => m.testBit i) (List.range 64)
  simpa using this
theorem low_parts (m : Nat) (h0 : m ≠ 0) (h : m < 2 ^ 64) : ∃ q, m = 2 ^ Lib.ctz 64 m * (2 * q + 1) ∧ Lib.ctz 64 m < 64 := by
  have := Lib.ctzFrom_spec 64 m (by omega) h
  unfold Lib.ctz
  rw [if_neg h0]
  exact this
theorem clear_low (k q i : Nat) : (2 ^ k * (2 * q + 1) &&& (2 ^ k * (2 * q + 1) - 1)).testBit i = (decide (i ≠ k) && (2 ^ k * (2 * q + 1)).testBit i) := by
  have hp : 0 < 2 ^ k := Nat.two_pow_pos k
  have e1 : 2 ^ k * (2 * q + 1) - 1 = 2 ^ k * (2 * q) + (2 ^ k - 1) := by rw [Nat.mul_add, Nat.mul_one]; omega
  have t1 : (2 ^ k * (2 * q + 1)).testBit i = if i < k then false else (2 * q + 1).testBit (i - k) := by
    have := Nat.testBit_two_pow_mul_add (2 * q + 1) hp i
    rw [Nat.add_zero] at this
    rw [this]; simp
  have t2 : (2 ^ k * (2 * q) + (2 ^ k - 1)).testBit i = if i < k then (2 ^ k - 1).testBit i else (2 * q).testBit (i - k) := Nat.testBit_two_pow_mul_add (2 * q) (by omega) i
  rw [Nat.testBit_and, e1, t1, t2]
  by_cases h1 : i < k
  · simp [h1]
  · rw [if_neg h1, if_neg h1]
    by_cases h2 : i = k
    · subst h2; simp
    · obtain ⟨j, hj⟩ : ∃ j, i - k = j + 1 := ⟨i - k - 1, by omega⟩
      rw [hj, Nat.testBit_succ, Nat.testBit_succ]
      have a1 : (2 * q + 1) / 2 = q := by omega
      have a2 : 2 * q / 2 = q := by omega
      rw [a1, a2]
      simp [h2]
theorem filter_head : ∀ (N k : Nat) (p : Nat → Bool), k < N → p k = true → (∀ i, i < k → p i = false) → (List.range N).filter p = k :: (List.range N).filter (fun i => decide (i ≠ k) && p i) := by
  intro N
  induction N with
  | zero => intro k p hk; omega
  | succ N ih =>
    intro k p hk hp hlow
    rw [List.range_succ, List.filter_append, List.filter_append]
    by_cases h : k = N
    · subst h
      have h1 : (List.range k).filter p = [] := by
        rw [List.filter_eq_nil_iff]; intro i hi; rw [hlow i (List.mem_range.1 hi)]; simp
      have h2 : (List.range k).filter (fun i => decide (i ≠ k) && p i) = [] := by
        rw [List.filter_eq_nil_iff]; intro i hi; rw [hlow i (List.mem_range.1 hi)]; simp
      rw [h1, h2]
      simp [hp]
    · rw [ih k p (by omega) hp hlow]
      have : (List.filter p [N]) = List.filter (fun i => decide (i ≠ k) && p i) [N] := by
        have : (decide (N ≠ k)) = true := by simp; omega
        simp [List.filter, this]
      rw [this]
      rfl
theorem bitsL_step (m : Nat) (h0 : m ≠ 0) (h : m < 2 ^ 64) : bitsL m = (Lib.ctz 64 m : Int) :: bitsL (m &&& (m - 1)) := by
  obtain ⟨q, hq, hk⟩ := low_parts m h0 h
  generalize Lib.ctz 64 m = k at *
  subst hq
  unfold bitsL
  have hp : 0 < 2 ^ k := Nat.two_pow_pos k
  have t1 : ∀ i, (2 ^ k * (2 * q + 1)).testBit i = if i < k then false else (2 * q + 1).testBit (i - k) := by
    intro i
    have := Nat.testBit_two_pow_mul_add (2 * q + 1) hp i
    rw [Nat.add_zero] at this
    rw [this]; simp
  rw [filter_head 64 k _ hk (by rw [t1]; simp) (fun i hi => by rw [t1, if_pos hi])]
  rw [List.map_cons]
  congr 3
  funext i
  rw [clear_low]
theorem bitsL_zero : bitsL 0 = [] := by
  unfold bitsL
  rw [List.map_eq_nil_iff, List.filter_eq_nil_iff]
  intro i _
  simp
end Go.Proofs.YtdiackininlmeaaDoor
