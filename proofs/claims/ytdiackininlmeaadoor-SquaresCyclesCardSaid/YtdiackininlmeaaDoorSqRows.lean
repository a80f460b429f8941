/- Plain: squares and wedges by rows of bits; the graphs with all edges between two sides. -/
import Derived.Test.YtdiackininlmeaaDoorSqPlain2
import Derived.Test.YtdiackininlmeaaDoorRef25
namespace Go.Proofs.YtdiackininlmeaaDoor
open Go.RowKit Go.BigFrame

def sqR (R : Nat → Nat) (n : Nat) : Int := sumN (fun v => sumN (fun u => pairI (sumN (fun x => bif v != u && ((R x).testBit v && (R x).testBit u) then 1 else 0) n)) n) n
def wedR (R : Nat → Nat) (n : Nat) : Int := sumN (fun u => pairI (oc64 (R u))) n
theorem sqF_rows {n : Nat} {es : List E2} (hv : Valid n es) (R : Nat → Nat) (h : ∀ x, x < n → rowN es x = R x) : sqF es n = sqR R n := by
  unfold sqF sqR
  refine sumN_congr _ _ n fun v hvn => sumN_congr _ _ n fun u hun => ?_
  congr 1
  refine sumN_congr _ _ n fun x hx => ?_
  rw [← h x hx, row_bit hv, row_bit hv]
  by_cases hvu : v = u
  · subst hvu; simp
  · have hb : (v != u) = true := by simpa using hvu
    rw [hb]
    cases adjB es x v <;> cases adjB es x u <;> simp [hvu]
theorem wedS_rows {n : Nat} {es : List E2} (R : Nat → Nat) (h : ∀ x, x < n → rowN es x = R x) : wedS es n = wedR R n := by
  unfold wedS wedR
  refine sumN_congr _ _ n fun u hu => ?_
  rw [h u hu]
def allN (p : Nat → Bool) : Nat → Bool
  | 0 => true
  | n + 1 => allN p n && p n
theorem allN_at (p : Nat → Bool) : ∀ n, allN p n = true → ∀ i, i < n → p i = true := by
  intro n
  induction n with
  | zero => intro _ i hi; omega
  | succ n ih =>
    intro h i hi
    simp only [allN, Bool.and_eq_true] at h
    by_cases e : i = n
    · rw [e]; exact h.2
    · exact ih h.1 i (by omega)

/-- the edges of the first u nodes, and k of node u -/
def eT (a b u k : Nat) : List E2 := ((List.range u).flatMap fun (i : Nat) => (List.range b).map fun (j : Nat) => ((i : Int), ((a + j : Nat) : Int))) ++ (List.range k).map fun (j : Nat) => ((u : Int), ((a + j : Nat) : Int))
theorem eT_next (a b u : Nat) : eT a b u b = eT a b (u + 1) 0 := by simp [eT, List.range_succ]
theorem eT_step (a b u k : Nat) : eT a b u (k + 1) = eT a b u k ++ [((u : Int), ((a + k : Nat) : Int))] := by simp [eT, List.range_succ, List.append_assoc]
theorem eT_length (a b u k : Nat) : (eT a b u k).length = u * b + k := by
  have h : ∀ u, ((List.range u).flatMap fun (i : Nat) => (List.range b).map fun (j : Nat) => ((i : Int), ((a + j : Nat) : Int))).length = u * b := by
    intro u
    induction u with
    | zero => simp
    | succ u ih => rw [List.range_succ, List.flatMap_append, List.length_append, ih, Nat.succ_mul]; simp
  unfold eT
  rw [List.length_append, h]; simp
def rS (a b u : Nat) : Nat := bif Nat.blt u a then (2 ^ b - 1) * 2 ^ a else 2 ^ a - 1
def sideB (a b : Nat) : Bool := checkS ((a + b : Nat) : Int) (eT a b a 0) == 0 && (allN (fun u => rowN (eT a b a 0) u == rS a b u) (a + b) && (wedR (rS a b) (a + b) == (a : Int) * b * ((b : Int) - 1) / 2 + (b : Int) * a * ((a : Int) - 1) / 2 && sqR (rS a b) (a + b) / 4 == (chS a 2 : Int) * (chS b 2 : Int)))
set_option maxRecDepth 100000 in
theorem side_all : allN (fun a => allN (fun b => sideB a b) 7) 7 = true := by decide +kernel
theorem side_at (a b : Nat) (ha : a < 7) (hb : b < 7) : Valid ((a + b : Nat) : Int) (eT a b a 0) ∧ wedS (eT a b a 0) (a + b) = (a : Int) * b * ((b : Int) - 1) / 2 + (b : Int) * a * ((a : Int) - 1) / 2 ∧ sqT (eT a b a 0) (a + b) (a + b) / 4 = (chS a 2 : Int) * (chS b 2 : Int) := by
  have h := allN_at _ _ (allN_at _ _ side_all a ha) b hb
  simp only [sideB, Bool.and_eq_true, beq_iff_eq] at h
  obtain ⟨h1, h2, h3, h4⟩ := h
  have hv := (valid_iff _ _).1 h1
  have hr : ∀ x, x < a + b → rowN (eT a b a 0) x = rS a b x := fun x hx => by simpa using allN_at _ _ h2 x hx
  exact ⟨hv, by rw [wedS_rows _ hr]; exact h3, by rw [sqT_eq hv, sqF_rows hv _ hr]; exact h4⟩
end Go.Proofs.YtdiackininlmeaaDoor
