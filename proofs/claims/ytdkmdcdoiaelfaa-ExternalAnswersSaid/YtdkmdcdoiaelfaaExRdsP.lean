/- In plain words: how many records are read by groups: one between two groups once for each group, one within a group for each two groups. -/
import Derived.Test.YtdkmdcdoiaelfaaExTri
namespace Go.Proofs.Ytdkmdcdoiaelfaa
open Go.RowKit

theorem sumQ_add (f h : Nat → Nat) (a : Nat) : ∀ n, sumQ (fun x => f x + h x) a n = sumQ f a n + sumQ h a n
  | 0 => rfl
  | n + 1 => by
    have := sumQ_add f h a n
    show sumQ (fun x => f x + h x) a n + (f (a + n) + h (a + n)) = (sumQ f a n + f (a + n)) + (sumQ h a n + h (a + n))
    omega
theorem sumQ_congr (f h : Nat → Nat) (a : Nat) (n : Nat) (e : ∀ x, f x = h x) : sumQ f a n = sumQ h a n := by rw [show f = h from funext e]
theorem cubeR_add (F H : Nat → Nat → Nat → Nat) (g : Nat) : cubeR (fun i j k => F i j k + H i j k) g = cubeR F g + cubeR H g := by
  unfold cubeR
  rw [← sumQ_add]
  refine sumQ_congr _ _ _ _ fun i => ?_
  unfold cubeI
  rw [← sumQ_add]
  refine sumQ_congr _ _ _ _ fun j => ?_
  unfold cubeJ
  rw [← sumQ_add]
theorem sumQ_zero (a : Nat) : ∀ n, sumQ (fun _ => 0) a n = 0
  | 0 => rfl
  | n + 1 => by show sumQ (fun _ => 0) a n + 0 = 0; rw [sumQ_zero a n]
theorem cubeR_zero (g : Nat) : cubeR (fun _ _ _ => 0) g = 0 := by
  unfold cubeR
  rw [sumQ_congr _ (fun _ => 0) _ _ fun i => ?_, sumQ_zero]
  unfold cubeI
  rw [sumQ_congr _ (fun _ => 0) _ _ fun j => ?_, sumQ_zero]
  unfold cubeJ
  exact sumQ_zero _ _
def oneN (p q i j k : Nat) : Nat := cond (Nat.beq p i || (Nat.beq p j || Nat.beq p k)) (cond (Nat.beq q i || (Nat.beq q j || Nat.beq q k)) 1 0) 0
def wantQ (g p q : Nat) : Nat := cond (Nat.beq p q) (g * (g + 1) / 2) g
def chkG (g p q : Nat) : Bool := Nat.beq (cubeR (oneN p q) g) (wantQ g p q)
theorem allG : (List.range 17).all (fun g => (List.range g).all fun p => (List.range g).all fun q => chkG g p q) = true := by decide +kernel
theorem one_cube (g p q : Nat) (hg : g ≤ 16) (hp : p < g) (hq : q < g) : cubeR (oneN p q) g = wantQ g p q := by
  have h1 := List.all_eq_true.1 allG g (List.mem_range.2 (by omega))
  have h2 := List.all_eq_true.1 h1 p (List.mem_range.2 hp)
  have h3 := List.all_eq_true.1 h2 q (List.mem_range.2 hq)
  exact Nat.eq_of_beq_eq_true h3
theorem tmod_nat {v : Int} (h : 0 ≤ v) (g : Nat) : v.tmod g = ((v.toNat % g : Nat) : Int) := by
  obtain ⟨x, rfl⟩ := Int.eq_ofNat_of_zero_le h
  rw [Int.toNat_natCast]; rfl
theorem inG_nat {v : Int} (h : 0 ≤ v) (g i j k : Nat) : inG g i j k v = (Nat.beq (v.toNat % g) i || (Nat.beq (v.toNat % g) j || Nat.beq (v.toNat % g) k)) := by
  have hb : ∀ a b : Nat, (((a : Int)) == (b : Int)) = Nat.beq a b := fun a b => by
    rw [Bool.eq_iff_iff, beq_iff_eq, Nat.beq_eq]; omega
  unfold inG
  rw [tmod_nat h, hb, hb, hb]
/-- what one record adds to the reads -/
def wantE (g : Nat) (e : E2) : Nat := if e.1.tmod g == e.2.tmod g then g * (g + 1) / 2 else g
def wantL (g : Nat) (rs : List E2) : Nat := (rs.map (wantE g)).sum
theorem wantL_snoc (g : Nat) (rs : List E2) (e : E2) : wantL g (rs ++ [e]) = wantL g rs + wantE g e := by simp [wantL]
theorem wantE_q {e : E2} (h1 : 0 ≤ e.1) (h2 : 0 ≤ e.2) (g : Nat) : wantE g e = wantQ g (e.1.toNat % g) (e.2.toNat % g) := by
  unfold wantE wantQ
  rw [tmod_nat h1, tmod_nat h2]
  by_cases h : e.1.toNat % g = e.2.toNat % g
  · rw [h, if_pos (by simp), show Nat.beq (e.2.toNat % g) (e.2.toNat % g) = true by simp]; rfl
  · rw [if_neg (by simp only [beq_iff_eq]; omega), show Nat.beq (e.1.toNat % g) (e.2.toNat % g) = false by rw [Bool.eq_false_iff]; intro e2; exact h (Nat.eq_of_beq_eq_true e2)]; rfl
theorem redF_cons (e : E2) (rs : List E2) (g : Nat) (h1 : 0 ≤ e.1) (h2 : 0 ≤ e.2) : redF (e :: rs) g = fun i j k => oneN (e.1.toNat % g) (e.2.toNat % g) i j k + redF rs g i j k := by
  funext i j k
  unfold redF partX oneN
  rw [List.filter_cons, inG_nat h1, inG_nat h2]
  cases (Nat.beq (e.1.toNat % g) i || (Nat.beq (e.1.toNat % g) j || Nat.beq (e.1.toNat % g) k)) <;> cases (Nat.beq (e.2.toNat % g) i || (Nat.beq (e.2.toNat % g) j || Nat.beq (e.2.toNat % g) k)) <;> simp [Nat.add_comm]
theorem reads_all (rs : List E2) (g : Nat) (hg1 : 1 ≤ g) (hg : g ≤ 16) (h : ∀ e ∈ rs, 0 ≤ e.1 ∧ 0 ≤ e.2) : cubeR (redF rs g) g = wantL g rs := by
  induction rs with
  | nil => rw [show redF [] g = fun _ _ _ => 0 from rfl, cubeR_zero]; rfl
  | cons e rs ih =>
    obtain ⟨h1, h2⟩ := h e (List.mem_cons_self)
    rw [redF_cons e rs g h1 h2, cubeR_add, ih (fun x hx => h x (List.mem_cons_of_mem _ hx)), one_cube g _ _ hg (Nat.mod_lt _ (by omega)) (Nat.mod_lt _ (by omega))]
    unfold wantL
    rw [List.map_cons, List.sum_cons, wantE_q h1 h2]
theorem recN_len (es : List E2) (n : Nat) : (recN es n).length ≤ n * n := by
  unfold recN
  have h : ∀ m, ((List.range m).flatMap fun i => (nbL es n i).map fun (j : Nat) => ((i : Int), (j : Int))).length ≤ m * n := by
    intro m
    induction m with
    | zero => simp
    | succ m ih =>
      have h2 : (nbL es n m).length ≤ n := by
        unfold nbL
        have := List.length_filter_le (fun x => adjB es m x) (List.range n)
        rwa [List.length_range] at this
      rw [List.range_succ, List.flatMap_append, List.length_append, Nat.add_mul]
      have : (([m] : List Nat).flatMap fun i => (nbL es n i).map fun (j : Nat) => ((i : Int), (j : Int))).length = (nbL es n m).length := by simp
      omega
  exact h n
end Go.Proofs.Ytdkmdcdoiaelfaa
