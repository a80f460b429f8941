/- The program's number of bits (OnesCount64) is how many bits are set. -/
import Derived.Test.YtkknknehchnccaaDoorMasks
namespace Go.Proofs.YtkknknehchnccaaDoor
open Go.RowKit Go.BigFrame

theorem land_cat (x M b m : Nat) (hb : b < 256) (hm : m < 256) : (256 * x + b) &&& (256 * M + m) = 256 * (x &&& M) + (b &&& m) := by
  apply Nat.eq_of_testBit_eq
  intro i
  rw [show (256 : Nat) = 2 ^ 8 from rfl] at *
  have hbm : b &&& m < 2 ^ 8 := Nat.and_lt_two_pow b hm
  rw [Nat.testBit_and, Nat.testBit_two_pow_mul_add x hb, Nat.testBit_two_pow_mul_add M hm, Nat.testBit_two_pow_mul_add _ hbm]
  split
  · rw [Nat.testBit_and]
  · rw [Nat.testBit_and]
def valB : List Nat → Nat
  | [] => 0
  | b :: l => 256 * valB l + b
def mskB (m : Nat) : Nat → Nat
  | 0 => 0
  | k + 1 => 256 * mskB m k + m
def digB : Nat → Nat → List Nat
  | 0, _ => []
  | k + 1, m => m % 256 :: digB k (m / 256)
theorem digB_val : ∀ (k m : Nat), m < 256 ^ k → valB (digB k m) = m := by
  intro k
  induction k with
  | zero => intro m h; simp at h; subst h; rfl
  | succ k ih =>
    intro m h
    unfold digB valB
    rw [ih (m / 256) (by rw [Nat.pow_succ] at h; omega)]
    omega
theorem digB_lt : ∀ (k m : Nat), ∀ b ∈ digB k m, b < 256 := by
  intro k
  induction k with
  | zero => intro m b h; cases h
  | succ k ih =>
    intro m b h
    unfold digB at h
    rcases List.mem_cons.1 h with h | h
    · omega
    · exact ih _ _ h
theorem digB_length : ∀ (k m : Nat), (digB k m).length = k := by
  intro k
  induction k with
  | zero => intro m; rfl
  | succ k ih => intro m; unfold digB; rw [List.length_cons, ih]
def hB1 (b : Nat) : Nat := (b / 2 &&& 85) + (b &&& 85)
def hB2 (b : Nat) : Nat := (b / 4 &&& 51) + (b &&& 51)
def hB3 (b : Nat) : Nat := (b / 16 + b) &&& 15
theorem low1 : ∀ r, r < 2 → ∀ c, c < 128 → (128 * r + c) &&& 85 = c &&& 85 := by decide +kernel
theorem low2 : ∀ r, r < 4 → ∀ c, c < 64 → (64 * r + c) &&& 51 = c &&& 51 := by decide +kernel
theorem low3 : ∀ r, r < 5 → ∀ c, c < 73 → (16 * r + c) &&& 15 = c &&& 15 := by decide +kernel
theorem valB_mod (l : List Nat) : ∀ b, b < 256 → valB (b :: l) % 256 = b := by intro b h; unfold valB; omega
theorem st1 : ∀ l : List Nat, (∀ b ∈ l, b < 256) → (valB l / 2 &&& mskB 85 l.length) + (valB l &&& mskB 85 l.length) = valB (l.map hB1) := by
  intro l
  induction l with
  | nil => intro _; rfl
  | cons b l ih =>
    intro h
    have hb := h b List.mem_cons_self
    have ih := ih fun x hx => h x (List.mem_cons_of_mem _ hx)
    rw [List.map_cons]
    show ((256 * valB l + b) / 2 &&& (256 * mskB 85 l.length + 85)) + ((256 * valB l + b) &&& (256 * mskB 85 l.length + 85)) = 256 * valB (l.map hB1) + hB1 b
    rw [← ih, land_cat _ _ b 85 hb (by decide)]
    have e : (256 * valB l + b) / 2 = 256 * (valB l / 2) + (128 * (valB l % 2) + b / 2) := by omega
    rw [e, land_cat _ _ _ 85 (by omega) (by decide), low1 _ (by omega) _ (by omega)]
    unfold hB1; omega
theorem st2 : ∀ l : List Nat, (∀ b ∈ l, b < 256) → (valB l / 4 &&& mskB 51 l.length) + (valB l &&& mskB 51 l.length) = valB (l.map hB2) := by
  intro l
  induction l with
  | nil => intro _; rfl
  | cons b l ih =>
    intro h
    have hb := h b List.mem_cons_self
    have ih := ih fun x hx => h x (List.mem_cons_of_mem _ hx)
    rw [List.map_cons]
    show ((256 * valB l + b) / 4 &&& (256 * mskB 51 l.length + 51)) + ((256 * valB l + b) &&& (256 * mskB 51 l.length + 51)) = 256 * valB (l.map hB2) + hB2 b
    rw [← ih, land_cat _ _ b 51 hb (by decide)]
    have e : (256 * valB l + b) / 4 = 256 * (valB l / 4) + (64 * (valB l % 4) + b / 4) := by omega
    rw [e, land_cat _ _ _ 51 (by omega) (by decide), low2 _ (by omega) _ (by omega)]
    unfold hB2; omega
theorem st3 : ∀ l : List Nat, (∀ b ∈ l, b % 16 ≤ 4 ∧ b ≤ 68) → (valB l / 16 + valB l) &&& mskB 15 l.length = valB (l.map hB3) := by
  intro l
  induction l with
  | nil => intro _; rfl
  | cons b l ih =>
    intro h
    have hb := h b List.mem_cons_self
    have ih := ih fun x hx => h x (List.mem_cons_of_mem _ hx)
    have hv : valB l % 16 ≤ 4 := by
      cases l with
      | nil => decide
      | cons c l => have hc := h c (by simp); unfold valB; omega
    rw [List.map_cons]
    show ((256 * valB l + b) / 16 + (256 * valB l + b)) &&& (256 * mskB 15 l.length + 15) = 256 * valB (l.map hB3) + hB3 b
    rw [← ih]
    have e : (256 * valB l + b) / 16 + (256 * valB l + b) = 256 * (valB l / 16 + valB l) + (16 * (valB l % 16) + (b / 16 + b)) := by omega
    rw [e, land_cat _ _ _ 15 (by omega) (by decide), low3 _ (by omega) _ (by omega)]
    rfl
def popB (b : Nat) : Nat := ((List.range 8).filter b.testBit).length
theorem h123 : ∀ b, b < 256 → hB3 (hB2 (hB1 b)) = popB b ∧ hB1 b < 256 ∧ hB2 (hB1 b) % 16 ≤ 4 ∧ hB2 (hB1 b) ≤ 68 ∧ popB b ≤ 8 := by decide +kernel
def popN (N m : Nat) : Nat := ((List.range N).filter m.testBit).length
theorem popN_val : ∀ l : List Nat, (∀ b ∈ l, b < 256) → popN (8 * l.length) (valB l) = (l.map popB).sum := by
  intro l
  induction l with
  | nil => intro _; rfl
  | cons b l ih =>
    intro h
    have hb : b < 2 ^ 8 := h b List.mem_cons_self
    rw [List.map_cons, List.sum_cons, ← ih fun x hx => h x (List.mem_cons_of_mem _ hx)]
    unfold popN popB
    rw [List.length_cons, show 8 * (l.length + 1) = 8 + 8 * l.length by omega, List.range_add, List.filter_append, List.length_append, List.filter_map, List.length_map]
    have e : ∀ i, (valB (b :: l)).testBit i = if i < 8 then b.testBit i else (valB l).testBit (i - 8) := fun i => by
      show (2 ^ 8 * valB l + b).testBit i = _
      exact Nat.testBit_two_pow_mul_add (valB l) hb i
    congr 1
    · congr 1
      apply List.filter_congr
      intro i hi
      rw [e, if_pos (List.mem_range.1 hi)]
    · congr 1
      apply List.filter_congr
      intro i _
      show (valB (b :: l)).testBit (8 + i) = _
      rw [e, if_neg (by omega), Nat.add_sub_cancel_left]
theorem valB_lt : ∀ l : List Nat, (∀ b ∈ l, b < 256) → valB l < 256 ^ l.length := by
  intro l
  induction l with
  | nil => intro _; exact Nat.one_pos
  | cons b l ih =>
    intro h
    have := ih fun x hx => h x (List.mem_cons_of_mem _ hx)
    have hb := h b List.mem_cons_self
    rw [List.length_cons, Nat.pow_succ]
    unfold valB; omega
theorem div256 (a q : Nat) (h : a < 256) : (a + 256 * q) / 256 = q := by omega
theorem div65536 (a q : Nat) (h : a < 65536) : (a + 65536 * q) / 65536 = q := by omega
theorem div32 (a q : Nat) (h : a < 4294967296) : (a + 4294967296 * q) / 4294967296 = q := by omega
theorem sum8 (a b c d e f g h : Nat) (H : a ≤ 8 ∧ b ≤ 8 ∧ c ≤ 8 ∧ d ≤ 8 ∧ e ≤ 8 ∧ f ≤ 8 ∧ g ≤ 8 ∧ h ≤ 8) (x y z t : Nat) (h1 : x = valB [a, b, c, d, e, f, g, h]) (h2 : y = x + x / 256) (h3 : z = y + y / 65536) (h4 : t = z + z / 4294967296) : t % 128 = a + b + c + d + e + f + g + h ∧ y < 18446744073709551616 ∧ z < 18446744073709551616 ∧ t < 18446744073709551616 := by
  obtain ⟨ha, hb, hc, hd, he, hf, hg, hh⟩ := H
  have e1 : x = a + 256 * (b + 256 * c + 65536 * d + 16777216 * e + 4294967296 * f + 1099511627776 * g + 281474976710656 * h) := by
    rw [h1]; clear h1 h2 h3 h4; unfold valB valB valB valB valB valB valB valB valB; omega
  have e2 : x / 256 = b + 256 * c + 65536 * d + 16777216 * e + 4294967296 * f + 1099511627776 * g + 281474976710656 * h := by rw [e1]; clear h1 h2 h3 h4 e1; exact div256 _ _ (by omega)
  have e3 : y = (a + b + 256 * (b + c)) + 65536 * ((c + d) + 256 * (d + e) + 65536 * (e + f) + 16777216 * (f + g) + 4294967296 * (g + h) + 1099511627776 * h) := by rw [h2, e2, e1]; clear h1 h2 h3 h4 e1 e2; omega
  clear h1 h2 e1 e2
  have e4 : y / 65536 = (c + d) + 256 * (d + e) + 65536 * (e + f) + 16777216 * (f + g) + 4294967296 * (g + h) + 1099511627776 * h := by rw [e3]; clear h3 h4 e3; exact div65536 _ _ (by omega)
  have e5 : z = ((a + b + c + d) + 256 * (b + c + d + e) + 65536 * (c + d + e + f) + 16777216 * (d + e + f + g)) + 4294967296 * ((e + f + g + h) + 256 * (f + g + h) + 65536 * (g + h) + 16777216 * h) := by rw [h3, e4, e3]; clear h3 h4 e3 e4; omega
  have e6 : z / 4294967296 = (e + f + g + h) + 256 * (f + g + h) + 65536 * (g + h) + 16777216 * h := by rw [e5]; clear h3 h4 e3 e4 e5; exact div32 _ _ (by omega)
  have e7 : t = (a + b + c + d + e + f + g + h) + 128 * (2 * (b + c + d + e + f + g + h) + 512 * (c + d + e + f + g + h) + 131072 * (d + e + f + g + h) + 33554432 * (e + f + g + h) + 8589934592 * (f + g + h) + 2199023255552 * (g + h) + 562949953421312 * h) := by rw [h4, e6, e5]; clear h3 h4 e3 e4 e5 e6; omega
  clear h3 h4 e4 e6
  refine ⟨?_, ?_, ?_, ?_⟩
  · rw [e7, Nat.add_mul_mod_self_left]; clear e3 e5 e7; exact Nat.mod_eq_of_lt (by omega)
  · rw [e3]; clear e3 e5 e7; omega
  · rw [e5]; clear e3 e5 e7; omega
  · rw [e7]; clear e3 e5 e7; omega
theorem bits127 (x : Nat) (h : x < 9223372036854775808) : bits .and .i64 (x : Int) 127 = ((x % 128 : Nat) : Int) := by
  have h1 : (BitVec.ofInt 64 (x : Int)).toNat = x := by
    rw [BitVec.ofInt_natCast, BitVec.toNat_ofNat]; exact Nat.mod_eq_of_lt (by omega)
  have h2 : (BitVec.ofInt 64 (127 : Int)).toNat = 2 ^ 7 - 1 := by decide
  show IntKind.i64.wrap ((BitVec.ofInt 64 (x : Int) &&& BitVec.ofInt 64 (127 : Int)).toNat : Int) = _
  rw [BitVec.toNat_and, h1, h2, Nat.and_two_pow_sub_one_eq_mod, IntKind.wrap_i64]
  omega
theorem wrapU (x : Nat) (h : x < 18446744073709551616) : IntKind.u64.wrap (x : Int) = (x : Int) := by rw [IntKind.wrap_u64]; omega
theorem list8 (l : List Nat) (h : l.length = 8) : ∃ a b c d e f g i, l = [a, b, c, d, e, f, g, i] := by
  match l, h with
  | [a, b, c, d, e, f, g, i], _ => exact ⟨a, b, c, d, e, f, g, i, rfl⟩
/-- THE PROGRAM COUNTS BITS. -/
theorem oc64_pop (m : Nat) (hm : m < 18446744073709551616) : oc64 (m : Int) = (popN 64 m : Int) := by
  obtain ⟨l, hl⟩ : ∃ l, digB 8 m = l := ⟨_, rfl⟩
  have hll : l.length = 8 := by rw [← hl]; exact digB_length 8 m
  have hlb : ∀ b ∈ l, b < 256 := by rw [← hl]; exact digB_lt 8 m
  have hv : valB l = m := by rw [← hl]; exact digB_val 8 m (by omega)
  have k1 : ∀ b ∈ l.map hB1, b < 256 := fun b hb => by obtain ⟨c, hc, rfl⟩ := List.mem_map.1 hb; exact (h123 c (hlb c hc)).2.1
  have k2 : ∀ b ∈ (l.map hB1).map hB2, b % 16 ≤ 4 ∧ b ≤ 68 := fun b hb => by
    obtain ⟨c, hc, rfl⟩ := List.mem_map.1 hb
    obtain ⟨d, hd, rfl⟩ := List.mem_map.1 hc
    exact ⟨(h123 d (hlb d hd)).2.2.1, (h123 d (hlb d hd)).2.2.2.1⟩
  have k3 : ((l.map hB1).map hB2).map hB3 = l.map popB := by
    rw [List.map_map, List.map_map]
    exact List.map_congr_left fun b hb => (h123 b (hlb b hb)).1
  have s1 := st1 l hlb
  have s2 := st2 (l.map hB1) k1
  have s3 := st3 ((l.map hB1).map hB2) k2
  have v1 := valB_lt (l.map hB1) k1
  have v2 := valB_lt ((l.map hB1).map hB2) fun b hb => by have := k2 b hb; omega
  rw [List.length_map, hll] at s2 v1
  rw [List.length_map, List.length_map, hll] at s3 v2
  rw [hll] at s1
  rw [k3] at s3
  rw [hv] at s1
  have p64 : (256 : Nat) ^ 8 = 18446744073709551616 := by decide
  rw [p64] at v1 v2
  have m1 : mskB 85 8 = 6148914691236517205 := by decide
  have m2 : mskB 51 8 = 3689348814741910323 := by decide
  have m3 : mskB 15 8 = 1085102592571150095 := by decide
  rw [m1] at s1
  rw [m2] at s2
  rw [m3] at s3
  obtain ⟨y1, hy1⟩ : ∃ y, valB (l.map hB1) = y := ⟨_, rfl⟩
  obtain ⟨y2, hy2⟩ : ∃ y, valB ((l.map hB1).map hB2) = y := ⟨_, rfl⟩
  obtain ⟨y3, hy3⟩ : ∃ y, valB (l.map popB) = y := ⟨_, rfl⟩
  rw [hy1] at s1 s2 v1
  rw [hy2] at s2 s3 v2
  rw [hy3] at s3
  have e1 : oc1 (m : Int) = (y1 : Int) := by
    unfold oc1
    rw [show (m : Int) / 2 = ((m / 2 : Nat) : Int) by omega]
    erw [bits_and_u64_nat (m / 2) 6148914691236517205 (by omega) (by omega), bits_and_u64_nat m 6148914691236517205 hm (by omega)]
    rw [← Int.natCast_add, s1]
    exact wrapU _ v1
  have e2 : oc2 (y1 : Int) = (y2 : Int) := by
    unfold oc2
    rw [show (y1 : Int) / 4 = ((y1 / 4 : Nat) : Int) by omega]
    erw [bits_and_u64_nat (y1 / 4) 3689348814741910323 (by omega) (by omega), bits_and_u64_nat y1 3689348814741910323 v1 (by omega)]
    rw [← Int.natCast_add, s2]
    exact wrapU _ v2
  have v2' : y2 ≤ 4919131752989213764 := by
    obtain ⟨a, b, c, d, e, f, g, i, hL⟩ := list8 ((l.map hB1).map hB2) (by rw [List.length_map, List.length_map, hll])
    rw [hL] at hy2 k2
    have ha := (k2 a (by simp)).2
    have hb := (k2 b (by simp)).2
    have hc := (k2 c (by simp)).2
    have hd := (k2 d (by simp)).2
    have he := (k2 e (by simp)).2
    have hf := (k2 f (by simp)).2
    have hg := (k2 g (by simp)).2
    have hi := (k2 i (by simp)).2
    rw [← hy2]
    clear hy2 hL k2 s1 s2 s3 e1 e2 v1 v2 hy1 hy3 m1 m2 m3 hv hl hm
    unfold valB valB valB valB valB valB valB valB valB
    omega
  have e3 : oc3 (y2 : Int) = (y3 : Int) := by
    unfold oc3
    rw [show (y2 : Int) / 16 + (y2 : Int) = ((y2 / 16 + y2 : Nat) : Int) by omega, wrapU _ (by omega)]
    erw [bits_and_u64_nat (y2 / 16 + y2) 1085102592571150095 (by omega) (by omega)]
    rw [s3]
  obtain ⟨a, b, c, d, e, f, g, i, hL⟩ := list8 (l.map popB) (by rw [List.length_map, hll])
  have k4 : ∀ b ∈ l.map popB, b ≤ 8 := fun b hb => by obtain ⟨c, hc, rfl⟩ := List.mem_map.1 hb; exact (h123 c (hlb c hc)).2.2.2.2
  have hpop := popN_val l hlb
  rw [hll, hv, hL] at hpop
  rw [hL] at hy3 k4
  have H : a ≤ 8 ∧ b ≤ 8 ∧ c ≤ 8 ∧ d ≤ 8 ∧ e ≤ 8 ∧ f ≤ 8 ∧ g ≤ 8 ∧ i ≤ 8 := ⟨k4 _ (by simp), k4 _ (by simp), k4 _ (by simp), k4 _ (by simp), k4 _ (by simp), k4 _ (by simp), k4 _ (by simp), k4 _ (by simp)⟩
  obtain ⟨r1, r2, r3, r4⟩ := sum8 a b c d e f g i H y3 _ _ _ hy3.symm rfl rfl rfl
  obtain ⟨y4, hy4⟩ : ∃ y, y3 + y3 / 256 = y := ⟨_, rfl⟩
  rw [hy4] at r1 r2 r3 r4
  obtain ⟨y5, hy5⟩ : ∃ y, y4 + y4 / 65536 = y := ⟨_, rfl⟩
  rw [hy5] at r1 r3 r4
  obtain ⟨y6, hy6⟩ : ∃ y, y5 + y5 / 4294967296 = y := ⟨_, rfl⟩
  rw [hy6] at r1 r4
  have e4 : oc4 (y3 : Int) = (y4 : Int) := by
    unfold oc4
    rw [show (y3 : Int) + (y3 : Int) / 256 = ((y3 + y3 / 256 : Nat) : Int) by omega, hy4]; exact wrapU _ r2
  have e5 : oc5 (y4 : Int) = (y5 : Int) := by
    unfold oc5
    rw [show (y4 : Int) + (y4 : Int) / 65536 = ((y4 + y4 / 65536 : Nat) : Int) by omega, hy5]; exact wrapU _ r3
  have e6 : oc6 (y5 : Int) = (y6 : Int) := by
    unfold oc6
    rw [show (y5 : Int) + (y5 : Int) / 4294967296 = ((y5 + y5 / 4294967296 : Nat) : Int) by omega, hy6]; exact wrapU _ r4
  have e7 : oc7 (y6 : Int) = ((y6 % 128 : Nat) : Int) := by
    unfold oc7
    by_cases h : y6 < 9223372036854775808
    · rw [show wrap64 (y6 : Int) = (y6 : Int) by unfold wrap64; omega]; exact bits127 y6 h
    · exfalso
      have hy3b : y3 ≤ 72340172838076673 * 8 := by
        rw [← hy3]
        obtain ⟨h1, h2, h3, h4, h5, h6, h7, h8⟩ := H
        clear hy3 hL k4 hpop s1 s2 s3 e1 e2 e3 e4 e5 e6 v1 v2 v2' hy1 hy2 hy4 hy5 hy6 m1 m2 m3 hv hl hm r1 r2 r3 r4 h
        unfold valB valB valB valB valB valB valB valB valB
        omega
      clear hy3 hL k4 hpop s1 s2 s3 e1 e2 e3 e4 e5 e6 v1 v2 v2' hy1 hy2 m1 m2 m3 hv hl hm r1 r2 r3 r4 H
      omega
  unfold oc64
  rw [e1, e2, e3, e4, e5, e6, e7, r1]
  have : popN 64 m = a + b + c + d + e + f + g + i := by
    have h64 : 8 * 8 = 64 := rfl
    rw [h64] at hpop
    rw [hpop]; simp; omega
  rw [this]
theorem oc64_bits (m : Nat) (hm : m < 18446744073709551616) : oc64 (m : Int) = ((bitsL m).length : Int) := by
  rw [oc64_pop m hm]; unfold popN bitsL; rw [List.length_map]
end Go.Proofs.YtkknknehchnccaaDoor
