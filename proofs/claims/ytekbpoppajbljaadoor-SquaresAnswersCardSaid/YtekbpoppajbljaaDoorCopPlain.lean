/- Plain: the numbers of copies as sums over all tuples of nodes. Plain: edges, wedges, disjoint pairs of edges and triangles among the copies. Plain: disjoint pairs of edges among the copies. -/
import Derived.Test.YtekbpoppajbljaaDoorNeigh
import Derived.Test.YtekbpoppajbljaaDoorRef30
namespace Go.Proofs.YtekbpoppajbljaaDoor
open Go.RowKit Go.BigFrame

def mRow (a : Nat) (k : Int) : Int := (matV (wAll 11) a).getD k.toNat 0
/-- a row of the matrix, as the kernel reckons it -/
def rowM (a : Nat) : List Int := [[1, 1, 1, 1, 1, 1, 1, 1, 1, 1, 1], [0, 1, 2, 2, 3, 3, 3, 4, 4, 5, 6], [0, 0, 1, 0, 3, 3, 2, 5, 4, 8, 12], [0, 0, 0, 1, 0, 0, 1, 1, 2, 2, 3], [0, 0, 0, 0, 1, 0, 0, 1, 0, 2, 4], [0, 0, 0, 0, 0, 1, 0, 1, 0, 2, 4], [0, 0, 0, 0, 0, 0, 1, 2, 4, 6, 12], [0, 0, 0, 0, 0, 0, 0, 1, 0, 4, 12], [0, 0, 0, 0, 0, 0, 0, 0, 1, 1, 3], [0, 0, 0, 0, 0, 0, 0, 0, 0, 1, 6], [0, 0, 0, 0, 0, 0, 0, 0, 0, 0, 1]].getD a []
set_option maxRecDepth 100000 in
theorem rowM_eq : ∀ a, a < 11 → matV (wAll 11) a = rowM a := by decide +kernel
theorem sort4_add_mul (x : Int) (n : Nat) (F : Nat → Nat → Nat → Nat → Int) : x * sort4 n F = sort4 n (fun a b c d => x * F a b c d) := (sort4_mul x n F).symm
theorem ind_get (es : List E2) (n k : Nat) (hk : k < 11) : (indS es n).getD k 0 = sort4 n (fun a b c d => ind (ofKS es d c b a == (k : Int))) := by
  have h : (indS es n).getD k 0 = cntK k (kA es allS n) := by rw [List.getD_eq_getElem?_getD, indS, cntV_get _ _ hk]; rfl
  rw [h, cnt_A]
  rfl
theorem dot_sort (es : List E2) (n : Nat) (x : List Int) : dotS x (indS es n) 11 = sort4 n (fun a b c d => x.getD (ofKS es d c b a).toNat 0) := by
  have e : dotS x (indS es n) 11 = sort4 n (fun a b c d => x.getD 0 0 * ind (ofKS es d c b a == 0) + x.getD 1 0 * ind (ofKS es d c b a == 1) + x.getD 2 0 * ind (ofKS es d c b a == 2) + x.getD 3 0 * ind (ofKS es d c b a == 3) + x.getD 4 0 * ind (ofKS es d c b a == 4) + x.getD 5 0 * ind (ofKS es d c b a == 5) + x.getD 6 0 * ind (ofKS es d c b a == 6) + x.getD 7 0 * ind (ofKS es d c b a == 7) + x.getD 8 0 * ind (ofKS es d c b a == 8) + x.getD 9 0 * ind (ofKS es d c b a == 9) + x.getD 10 0 * ind (ofKS es d c b a == 10)) := by
    simp only [dotS, ind_get es n 0 (by omega), ind_get es n 1 (by omega), ind_get es n 2 (by omega), ind_get es n 3 (by omega), ind_get es n 4 (by omega), ind_get es n 5 (by omega), ind_get es n 6 (by omega), ind_get es n 7 (by omega), ind_get es n 8 (by omega), ind_get es n 9 (by omega), ind_get es n 10 (by omega), sort4_add_mul]
    rw [Int.zero_add, ← sort4_add, ← sort4_add, ← sort4_add, ← sort4_add, ← sort4_add, ← sort4_add, ← sort4_add, ← sort4_add, ← sort4_add, ← sort4_add]
    rfl
  rw [e]
  refine sort4_congr n _ _ fun a b c d _ _ _ _ => ?_
  have hb := ofKS_bd es d c b a
  generalize ofKS es d c b a = k at *
  rcases (by omega : k = 0 ∨ k = 1 ∨ k = 2 ∨ k = 3 ∨ k = 4 ∨ k = 5 ∨ k = 6 ∨ k = 7 ∨ k = 8 ∨ k = 9 ∨ k = 10) with rfl | rfl | rfl | rfl | rfl | rfl | rfl | rfl | rfl | rfl | rfl <;> simp [ind]
theorem cop_sort (es : List E2) (n a : Nat) (ha : a < 11) : (copS (indS es n)).getD a 0 = sort4 n (fun x y z t => (rowM a).getD (ofKS es t z y x).toNat 0) := by
  rw [cop_get _ a ha, rowM_eq a ha, dot_sort]

/-- a function of the six answers, where the four are different -/
def onG (es : List E2) (g : Bool → Bool → Bool → Bool → Bool → Bool → Int) (a b c d : Nat) : Int := if dist4 a b c d = true then g (adjB es a b) (adjB es a c) (adjB es a d) (adjB es b c) (adjB es b d) (adjB es c d) else 0
theorem onG_apart (es : List E2) (g : Bool → Bool → Bool → Bool → Bool → Bool → Int) : Apart4 (onG es g) := by
  constructor <;> intro a b c <;> simp [onG, dist4]
/-- the same in all orders: x0 .. x5 are the answers ab ac ad bc bd cd -/
def P6 (g : Bool → Bool → Bool → Bool → Bool → Bool → Int) (x0 x1 x2 x3 x4 x5 : Bool) : Int :=
  g x0 x1 x2 x3 x4 x5 + g x0 x2 x1 x4 x3 x5 + (g x1 x0 x2 x3 x5 x4 + g x2 x0 x1 x4 x5 x3) + (g x1 x2 x0 x5 x3 x4 + g x2 x1 x0 x5 x4 x3) +
  (g x0 x3 x4 x1 x2 x5 + g x0 x4 x3 x2 x1 x5 + (g x1 x3 x5 x0 x2 x4 + g x2 x4 x5 x0 x1 x3) + (g x1 x5 x3 x2 x0 x4 + g x2 x5 x4 x1 x0 x3)) +
  (g x3 x0 x4 x1 x5 x2 + g x4 x0 x3 x2 x5 x1 + (g x3 x1 x5 x0 x4 x2 + g x4 x2 x5 x0 x3 x1) + (g x5 x1 x3 x2 x4 x0 + g x5 x2 x4 x1 x3 x0)) +
  (g x3 x4 x0 x5 x1 x2 + g x4 x3 x0 x5 x2 x1 + (g x3 x5 x1 x4 x0 x2 + g x4 x5 x2 x3 x0 x1) + (g x5 x3 x1 x4 x2 x0 + g x5 x4 x2 x3 x1 x0))
theorem P4_onG (es : List E2) (g : Bool → Bool → Bool → Bool → Bool → Bool → Int) (a b c d : Nat) (h : dist4 a b c d = true) :
    P4 (onG es g) a b c d = P6 g (adjB es a b) (adjB es a c) (adjB es a d) (adjB es b c) (adjB es b d) (adjB es c d) := by
  have hd : ∀ x y z t, dist4 x y z t = true → onG es g x y z t = g (adjB es x y) (adjB es x z) (adjB es x t) (adjB es y z) (adjB es y t) (adjB es z t) := fun x y z t h => if_pos h
  have h0 := (dist4_iff a b c d).1 h
  unfold P4 P3 P2
  dsimp only
  rw [hd a b c d h, hd a b d c (by rw [dist4_iff]; omega), hd a c b d (by rw [dist4_iff]; omega), hd a d b c (by rw [dist4_iff]; omega), hd a c d b (by rw [dist4_iff]; omega), hd a d c b (by rw [dist4_iff]; omega),
    hd b a c d (by rw [dist4_iff]; omega), hd b a d c (by rw [dist4_iff]; omega), hd c a b d (by rw [dist4_iff]; omega), hd d a b c (by rw [dist4_iff]; omega), hd c a d b (by rw [dist4_iff]; omega), hd d a c b (by rw [dist4_iff]; omega),
    hd b c a d (by rw [dist4_iff]; omega), hd b d a c (by rw [dist4_iff]; omega), hd c b a d (by rw [dist4_iff]; omega), hd d b a c (by rw [dist4_iff]; omega), hd c d a b (by rw [dist4_iff]; omega), hd d c a b (by rw [dist4_iff]; omega),
    hd b c d a (by rw [dist4_iff]; omega), hd b d c a (by rw [dist4_iff]; omega), hd c b d a (by rw [dist4_iff]; omega), hd d b c a (by rw [dist4_iff]; omega), hd c d b a (by rw [dist4_iff]; omega), hd d c b a (by rw [dist4_iff]; omega)]
  rw [adjB_comm es a b, adjB_comm es a c, adjB_comm es a d, adjB_comm es b c, adjB_comm es b d, adjB_comm es c d]
  rfl
/-- A NUMBER OF COPIES IS A SUM OVER ALL TUPLES. -/
theorem cop_all (es : List E2) (n a : Nat) (ha : a < 11) (t : Int) (g : Bool → Bool → Bool → Bool → Bool → Bool → Int)
    (h : ∀ x0 x1 x2 x3 x4 x5, P6 g x5 x4 x2 x3 x1 x0 = t * (rowM a).getD (kB6 x0 x1 x2 x3 x4 x5).toNat 0) : t * (copS (indS es n)).getD a 0 = all4 n (onG es g) := by
  rw [cop_sort es n a ha, sort4_add_mul, sym4 _ (onG_apart es g)]
  refine sort4_congr n _ _ fun x y z w hx hy hz hw => ?_
  rw [P4_onG es g x y z w (by rw [dist4_iff]; omega), ofKS_kB6, ← h, adjB_comm es z w, adjB_comm es y w, adjB_comm es x w, adjB_comm es y z, adjB_comm es x z, adjB_comm es x y]
end Go.Proofs.YtekbpoppajbljaaDoor

namespace Go.Proofs.YtekbpoppajbljaaDoor
open Go.RowKit Go.BigFrame

theorem sumN_const (s : Int) : ∀ n : Nat, sumN (fun _ => s) n = (n : Int) * s := by
  intro n
  induction n with
  | zero => simp [sumN]
  | succ n ih => simp only [sumN, ih]; rw [Int.natCast_add, Int.add_mul]; omega
theorem sumN_one (a n : Nat) (s : Int) (ha : a < n) : sumN (fun c => if c = a then s else 0) n = s := by rw [sumN_single a (fun _ => s) n, if_pos ha]
/-- who is free beside three -/
theorem free3 (n a b c : Nat) (s : Int) (ha : a < n) (hb : b < n) (hc : c < n) (h1 : a ≠ b) (h2 : a ≠ c) (h3 : b ≠ c) : sumN (fun d => if dist4 a b c d = true then s else 0) n = ((n : Int) - 3) * s := by
  have e : ∀ d, d < n → ((if dist4 a b c d = true then s else 0) + ((if d = a then s else 0) + ((if d = b then s else 0) + (if d = c then s else 0)))) = s := by
    intro d _
    by_cases hd : dist4 a b c d = true
    · rw [if_pos hd]
      have := (dist4_iff a b c d).1 hd
      rw [if_neg (by omega), if_neg (by omega), if_neg (by omega)]; omega
    · rw [if_neg hd]
      have hn : d = a ∨ d = b ∨ d = c := by
        rcases Decidable.em (d = a ∨ d = b ∨ d = c) with h | h
        · exact h
        · exact absurd ((dist4_iff a b c d).2 (by omega)) hd
      rcases hn with rfl | rfl | rfl
      · rw [if_pos rfl, if_neg (by omega), if_neg (by omega)]; omega
      · rw [if_neg (by omega), if_pos rfl, if_neg (by omega)]; omega
      · rw [if_neg (by omega), if_neg (by omega), if_pos rfl]; omega
  have h := sumN_congr _ _ n e
  rw [sumN_add, sumN_add, sumN_add, sumN_one a n s ha, sumN_one b n s hb, sumN_one c n s hc, sumN_const] at h
  rw [Int.sub_mul]; omega
theorem free2 (n a b : Nat) (s : Int) (ha : a < n) (hb : b < n) (h1 : a ≠ b) : sumN (fun c => if a ≠ c ∧ b ≠ c then s else 0) n = ((n : Int) - 2) * s := by
  have e : ∀ c, c < n → ((if a ≠ c ∧ b ≠ c then s else 0) + ((if c = a then s else 0) + (if c = b then s else 0))) = s := by
    intro c _
    by_cases h2 : c = a
    · rw [if_neg (by omega), if_pos h2, if_neg (by omega)]; omega
    · by_cases h3 : c = b
      · rw [if_neg (by omega), if_neg h2, if_pos h3]; omega
      · rw [if_pos (by omega), if_neg h2, if_neg h3]; omega
  have h := sumN_congr _ _ n e
  rw [sumN_add, sumN_add, sumN_one a n s ha, sumN_one b n s hb, sumN_const] at h
  rw [Int.sub_mul]; omega
theorem all2_mul (t : Int) (n : Nat) (F : Nat → Nat → Int) : all2 n (fun a b => t * F a b) = t * all2 n F := by simp only [all2, sumN_mul]
theorem all3_mul (t : Int) (n : Nat) (F : Nat → Nat → Nat → Int) : all3 n (fun a b c => t * F a b c) = t * all3 n F := by simp only [all3, all2_mul, sumN_mul]
theorem all2_congr (n : Nat) (F G : Nat → Nat → Int) (h : ∀ a b, a < n → b < n → F a b = G a b) : all2 n F = all2 n G := sumN_congr _ _ n fun a ha => sumN_congr _ _ n fun b hb => h a b ha hb
theorem all3_congr (n : Nat) (F G : Nat → Nat → Nat → Int) (h : ∀ a b c, a < n → b < n → c < n → F a b c = G a b c) : all3 n F = all3 n G := sumN_congr _ _ n fun a ha => all2_congr n _ _ fun b c hb hc => h a b c ha hb hc
/-- a value of three different nodes, the fourth one free -/
theorem four_three (n : Nat) (G : Nat → Nat → Nat → Int) (h1 : ∀ a c, G a a c = 0) (h2 : ∀ a b, G a b a = 0) (h3 : ∀ a b, G a b b = 0) : all4 n (fun a b c d => if dist4 a b c d = true then G a b c else 0) = ((n : Int) - 3) * all3 n G := by
  rw [← all3_mul]
  refine all3_congr n _ _ fun a b c ha hb hc => ?_
  by_cases e1 : a = b
  · subst e1
    rw [h1, sumN_congr _ (fun _ => 0) n (fun d _ => by simp [dist4]), sumN_zero]; simp
  · by_cases e2 : a = c
    · subst e2
      rw [h2, sumN_congr _ (fun _ => 0) n (fun d _ => by simp [dist4]), sumN_zero]; simp
    · by_cases e3 : b = c
      · subst e3
        rw [h3, sumN_congr _ (fun _ => 0) n (fun d _ => by simp [dist4]), sumN_zero]; simp
      · exact free3 n a b c _ ha hb hc e1 e2 e3
def A2 (es : List E2) (u v : Nat) : Int := ind (adjB es u v)
theorem A2_comm (es : List E2) (u v : Nat) : A2 es v u = A2 es u v := by unfold A2; rw [adjB_comm]
theorem A2_self {n : Nat} {es : List E2} (hv : Valid n es) (u : Nat) : A2 es u u = 0 := by unfold A2; rw [adj_irrefl hv]; rfl
theorem A2_sq (es : List E2) (u v : Nat) : A2 es u v * A2 es u v = A2 es u v := by unfold A2; cases adjB es u v <;> simp [ind]
theorem deg_A2 {n : Nat} {es : List E2} (hv : Valid n es) (v : Nat) : deg30 es v = sumN (fun x => A2 es v x) n := deg_sum hv v
/-- twice the edges -/
theorem edges_A2 {n : Nat} {es : List E2} (hv : Valid n es) : 2 * (es.length : Int) = all2 n (A2 es) := by
  have h := edges_sum hv (fun _ _ => 1) (fun _ _ => rfl)
  have e : (es.map fun _ : E2 => (1 : Int)).sum = es.length := by
    clear h hv
    induction es with
    | nil => rfl
    | cons e es ih => rw [List.map_cons, List.sum_cons, ih, List.length_cons]; omega
  rw [e] at h
  rw [h]
  refine all2_congr n _ _ fun a b _ _ => ?_
  show ind _ * 1 = _
  rw [Int.mul_one]; rfl
def gg1 (x0 _x1 _x2 _x3 _x4 _x5 : Bool) : Int := ind x0
def gg2 (x0 x1 _x2 _x3 _x4 _x5 : Bool) : Int := ind x0 * ind x1
def gg3 (x0 _x1 _x2 _x3 _x4 x5 : Bool) : Int := ind x0 * ind x5
def gg4 (x0 x1 _x2 x3 _x4 _x5 : Bool) : Int := ind x0 * ind x1 * ind x3
theorem gg1_ok : ∀ x0 x1 x2 x3 x4 x5, P6 gg1 x5 x4 x2 x3 x1 x0 = 4 * (rowM 1).getD (kB6 x0 x1 x2 x3 x4 x5).toNat 0 := by decide +kernel
theorem gg2_ok : ∀ x0 x1 x2 x3 x4 x5, P6 gg2 x5 x4 x2 x3 x1 x0 = 2 * (rowM 2).getD (kB6 x0 x1 x2 x3 x4 x5).toNat 0 := by decide +kernel
theorem gg3_ok : ∀ x0 x1 x2 x3 x4 x5, P6 gg3 x5 x4 x2 x3 x1 x0 = 8 * (rowM 3).getD (kB6 x0 x1 x2 x3 x4 x5).toNat 0 := by decide +kernel
theorem gg4_ok : ∀ x0 x1 x2 x3 x4 x5, P6 gg4 x5 x4 x2 x3 x1 x0 = 6 * (rowM 4).getD (kB6 x0 x1 x2 x3 x4 x5).toNat 0 := by decide +kernel
/-- EDGES. -/
theorem cop1 {n : Nat} {es : List E2} (hv : Valid n es) : 2 * (copS (indS es n)).getD 1 0 = ((n : Int) - 3) * (((n : Int) - 2) * (es.length : Int)) := by
  have h := cop_all es n 1 (by omega) 4 gg1 gg1_ok
  have e : all4 n (onG es gg1) = all4 n (fun a b c d => if dist4 a b c d = true then (if (a ≠ b ∧ a ≠ c) ∧ b ≠ c then A2 es a b else 0) else 0) := by
    refine all4_congr n _ _ fun a b c d _ _ _ _ => ?_
    unfold onG
    by_cases hd : dist4 a b c d = true
    · have := (dist4_iff a b c d).1 hd
      rw [if_pos hd, if_pos hd, if_pos (by omega)]; rfl
    · rw [if_neg hd, if_neg hd]
  rw [e, four_three n (fun a b c => if (a ≠ b ∧ a ≠ c) ∧ b ≠ c then A2 es a b else 0) (fun a c => by simp) (fun a b => by simp) (fun a b => by simp)] at h
  have e2 : all3 n (fun a b c => if (a ≠ b ∧ a ≠ c) ∧ b ≠ c then A2 es a b else 0) = ((n : Int) - 2) * all2 n (A2 es) := by
    rw [← all2_mul]
    refine all2_congr n _ _ fun a b ha hb => ?_
    by_cases hab : a = b
    · subst hab
      rw [A2_self hv, sumN_congr _ (fun _ => 0) n (fun d _ => by simp), sumN_zero]; simp
    · have e4 : ∀ c, c < n → (if (a ≠ b ∧ a ≠ c) ∧ b ≠ c then A2 es a b else 0) = if a ≠ c ∧ b ≠ c then A2 es a b else 0 := by
        intro c _
        have hiff : ((a ≠ b ∧ a ≠ c) ∧ b ≠ c) ↔ (a ≠ c ∧ b ≠ c) := by omega
        by_cases hc : a ≠ c ∧ b ≠ c
        · rw [if_pos hc, if_pos (hiff.2 hc)]
        · rw [if_neg hc, if_neg (fun h => hc (hiff.1 h))]
      rw [sumN_congr _ _ n e4]
      exact free2 n a b _ ha hb hab
  rw [e2, ← edges_A2 hv] at h
  have e3 : ((n : Int) - 3) * (((n : Int) - 2) * (2 * (es.length : Int))) = 2 * (((n : Int) - 3) * (((n : Int) - 2) * (es.length : Int))) := by
    rw [Int.mul_left_comm ((n : Int) - 2) 2, Int.mul_left_comm ((n : Int) - 3) 2]
  rw [e3] at h
  omega
/-- twice the wedges -/
def D2 (es : List E2) (n : Nat) : Int := sumN (fun a => deg30 es a * deg30 es a) n
theorem deg_all2 {n : Nat} {es : List E2} (hv : Valid n es) : all2 n (A2 es) = sumN (fun a => deg30 es a) n := by
  unfold all2
  exact sumN_congr _ _ n fun a _ => (deg_A2 hv a).symm
theorem wed_D2 {n : Nat} {es : List E2} (hv : Valid n es) : 2 * wed30 es n + 2 * (es.length : Int) = D2 es n := by
  rw [edges_A2 hv, deg_all2 hv]
  unfold wed30 D2
  have e : ∀ a, a < n → 2 * pairI (deg30 es a) + deg30 es a = deg30 es a * deg30 es a := by
    intro a _
    unfold pairI
    generalize deg30 es a = x
    have h1 : x * (x - 1) = x * x - x := by rw [Int.mul_sub, Int.mul_one]
    have h2 : x * (x - 1) % 2 = 0 := by
      rcases (by omega : x % 2 = 0 ∨ x % 2 = 1) with h | h
      · rw [Int.mul_emod, h]; simp
      · have : (x - 1) % 2 = 0 := by omega
        rw [Int.mul_emod, this]; simp
    omega
  rw [← sumN_congr _ _ n e, sumN_add, sumN_mul]
/-- WEDGES. -/
theorem cop2 {n : Nat} {es : List E2} (hv : Valid n es) : (copS (indS es n)).getD 2 0 = ((n : Int) - 3) * wed30 es n := by
  have h := cop_all es n 2 (by omega) 2 gg2 gg2_ok
  have e : all4 n (onG es gg2) = all4 n (fun a b c d => if dist4 a b c d = true then (if b ≠ c then A2 es a b * A2 es a c else 0) else 0) := by
    refine all4_congr n _ _ fun a b c d _ _ _ _ => ?_
    unfold onG
    by_cases hd : dist4 a b c d = true
    · have := (dist4_iff a b c d).1 hd
      rw [if_pos hd, if_pos hd, if_pos (by omega)]; rfl
    · rw [if_neg hd, if_neg hd]
  rw [e, four_three n (fun a b c => if b ≠ c then A2 es a b * A2 es a c else 0) (fun a c => by rw [A2_self hv]; simp) (fun a b => by rw [A2_self hv]; simp) (fun a b => by simp)] at h
  have e2 : all3 n (fun a b c => if b ≠ c then A2 es a b * A2 es a c else 0) = 2 * wed30 es n := by
    have e3 : ∀ a, a < n → all2 n (fun b c => if b ≠ c then A2 es a b * A2 es a c else 0) + deg30 es a = deg30 es a * deg30 es a := by
      intro a _
      have e4 : ∀ b, b < n → sumN (fun c => if b ≠ c then A2 es a b * A2 es a c else 0) n + A2 es a b = A2 es a b * deg30 es a := by
        intro b hb
        have e5 : ∀ c, c < n → (if b ≠ c then A2 es a b * A2 es a c else 0) + (if c = b then A2 es a b else 0) = A2 es a b * A2 es a c := by
          intro c _
          by_cases hbc : c = b
          · subst hbc; rw [if_neg (by simp), if_pos rfl, A2_sq]; omega
          · rw [if_pos (by omega), if_neg hbc]; omega
        have h5 := sumN_congr _ _ n e5
        rw [sumN_add, sumN_one b n _ hb, sumN_mul, ← deg_A2 hv] at h5
        exact h5
      have h4 := sumN_congr _ _ n e4
      rw [sumN_add, ← deg_A2 hv] at h4
      have h6 : sumN (fun b => A2 es a b * deg30 es a) n = deg30 es a * deg30 es a := by
        rw [sumN_congr _ (fun b => deg30 es a * A2 es a b) n (fun b _ => Int.mul_comm _ _), sumN_mul, ← deg_A2 hv]
      rw [h6] at h4
      exact h4
    have h3 := sumN_congr _ _ n e3
    rw [sumN_add, ← deg_all2 hv, ← edges_A2 hv] at h3
    have h7 := wed_D2 hv
    unfold D2 at h7
    have h8 : all3 n (fun a b c => if b ≠ c then A2 es a b * A2 es a c else 0) = sumN (fun a => all2 n (fun b c => if b ≠ c then A2 es a b * A2 es a c else 0)) n := rfl
    rw [h8]
    omega
  rw [e2, Int.mul_left_comm] at h
  omega
/-- TRIANGLES: three times as many as the third nodes of all edges. -/
theorem tri_sum {n : Nat} {es : List E2} (hv : Valid n es) : 2 * ((tri29 es n es.length).length : Int) = all3 n (fun a b c => A2 es a b * A2 es a c * A2 es b c) := by
  have h := edges_sum hv (fun u v => ((cmL es n u v).length : Int)) (fun u v => by
    have : cmL es n v u = cmL es n u v := by unfold cmL; congr 1; funext x; exact Bool.and_comm _ _
    rw [this])
  have e : (es.map fun e => ((cmL es n e.1.toNat e.2.toNat).length : Int)).sum = ((tri29 es n es.length).length : Int) := by
    unfold tri29
    rw [List.take_length]
    clear h hv
    have key : ∀ l : List E2, (l.map fun e => ((cmL es n e.1.toNat e.2.toNat).length : Int)).sum = ((l.flatMap fun e => cmL es n e.1.toNat e.2.toNat).length : Int) := by
      intro l
      induction l with
      | nil => rfl
      | cons e l ih => rw [List.map_cons, List.sum_cons, ih, List.flatMap_cons, List.length_append]; omega
    exact key es
  rw [e] at h
  rw [h]
  refine all2_congr n _ _ fun a b _ _ => ?_
  have h1 : ((cmL es n a b).length : Int) = sumN (fun x => A2 es a x * A2 es b x) n := by
    unfold cmL
    rw [filter_len]
    refine sumN_congr _ _ n fun x _ => ?_
    unfold A2
    cases adjB es a x <;> cases adjB es b x <;> simp [ind]
  rw [h1]
  show A2 es a b * _ = _
  rw [← sumN_mul]
  exact sumN_congr _ _ n fun x _ => (Int.mul_assoc _ _ _).symm
theorem cop4 {n : Nat} {es : List E2} (hv : Valid n es) : 3 * (copS (indS es n)).getD 4 0 = ((n : Int) - 3) * ((tri29 es n es.length).length : Int) ∧ ((tri29 es n es.length).length : Int) % 3 = 0 := by
  have h := cop_all es n 4 (by omega) 6 gg4 gg4_ok
  have e : all4 n (onG es gg4) = all4 n (fun a b c d => if dist4 a b c d = true then A2 es a b * A2 es a c * A2 es b c else 0) := by
    refine all4_congr n _ _ fun a b c d _ _ _ _ => ?_
    unfold onG
    by_cases hd : dist4 a b c d = true
    · rw [if_pos hd, if_pos hd]; rfl
    · rw [if_neg hd, if_neg hd]
  have z1 : ∀ a c, A2 es a a * A2 es a c * A2 es a c = 0 := fun a c => by rw [A2_self hv]; simp
  have z2 : ∀ a b, A2 es a b * A2 es a a * A2 es b a = 0 := fun a b => by rw [A2_self hv]; simp
  have z3 : ∀ a b, A2 es a b * A2 es a b * A2 es b b = 0 := fun a b => by rw [A2_self hv]; simp
  rw [e, four_three n (fun a b c => A2 es a b * A2 es a c * A2 es b c) z1 z2 z3, ← tri_sum hv] at h
  have h3 := tri_sum hv
  rw [sym3 (fun a b c => A2 es a b * A2 es a c * A2 es b c) z1 z2 z3] at h3
  have e6 : (fun a b c => P3 (fun a b c => A2 es a b * A2 es a c * A2 es b c) a b c) = fun a b c => 6 * (A2 es a b * A2 es a c * A2 es b c) := by
    funext a b c
    refine P3_same _ (fun a b c => ?_) (fun a b c => ?_) a b c
    · rw [A2_comm es a b, Int.mul_assoc, Int.mul_assoc, Int.mul_comm (A2 es b c)]
    · rw [A2_comm es b c, Int.mul_comm (A2 es a c)]
  have e7 : sort3 n (fun a b c => P3 (fun a b c => A2 es a b * A2 es a c * A2 es b c) a b c) = 6 * sort3 n (fun a b c => A2 es a b * A2 es a c * A2 es b c) := by
    rw [e6]; simp only [sort3, sort2, sumN_mul]
  have e8 : sort3 n (P3 fun a b c => A2 es a b * A2 es a c * A2 es b c) = 6 * sort3 n (fun a b c => A2 es a b * A2 es a c * A2 es b c) := e7
  rw [e8] at h3
  rw [Int.mul_left_comm] at h
  constructor
  · omega
  · omega
end Go.Proofs.YtekbpoppajbljaaDoor

namespace Go.Proofs.YtekbpoppajbljaaDoor
open Go.RowKit Go.BigFrame

theorem row_at {n : Nat} {es : List E2} (hv : Valid n es) (a : Nat) (ha : a < n) : all2 n (fun c d => if c = a then A2 es c d else 0) = deg30 es a := by
  have e : ∀ c, c < n → sumN (fun d => if c = a then A2 es c d else 0) n = if c = a then deg30 es c else 0 := by
    intro c _
    by_cases h : c = a
    · rw [if_pos h, deg_A2 hv]; exact sumN_congr _ _ n fun d _ => if_pos h
    · rw [if_neg h, sumN_congr _ (fun _ => 0) n (fun d _ => if_neg h), sumN_zero]
  unfold all2
  rw [sumN_congr _ _ n e, sumN_single a (fun c => deg30 es c) n, if_pos ha]
theorem col_at {n : Nat} {es : List E2} (hv : Valid n es) (a : Nat) (ha : a < n) : all2 n (fun c d => if d = a then A2 es c d else 0) = deg30 es a := by
  have e : ∀ c, c < n → sumN (fun d => if d = a then A2 es c d else 0) n = A2 es a c := by
    intro c _
    rw [sumN_single a (fun d => A2 es c d) n, if_pos ha, A2_comm]
  unfold all2
  rw [sumN_congr _ _ n e, deg_A2 hv]
theorem one_at {n : Nat} (es : List E2) (a b : Nat) (ha : a < n) (hb : b < n) : all2 n (fun c d => if c = a then (if d = b then A2 es c d else 0) else 0) = A2 es a b := by
  have e : ∀ c, c < n → sumN (fun d => if c = a then (if d = b then A2 es c d else 0) else 0) n = if c = a then A2 es c b else 0 := by
    intro c _
    by_cases h : c = a
    · rw [if_pos h, sumN_congr _ (fun d => if d = b then A2 es c d else 0) n (fun d _ => if_pos h), sumN_single b (fun d => A2 es c d) n, if_pos hb]
    · rw [if_neg h, sumN_congr _ (fun _ => 0) n (fun d _ => if_neg h), sumN_zero]
  unfold all2
  rw [sumN_congr _ _ n e, sumN_single a (fun c => A2 es c b) n, if_pos ha]
theorem apart_two {n : Nat} {es : List E2} (hv : Valid n es) (a b : Nat) (ha : a < n) (hb : b < n) (hab : a ≠ b) :
    all2 n (fun c d => if dist4 a b c d = true then A2 es c d else 0) + (2 * deg30 es a + 2 * deg30 es b) = all2 n (A2 es) + 2 * A2 es a b := by
  have e : ∀ c d, c < n → d < n → (if dist4 a b c d = true then A2 es c d else 0) + (((if c = a then A2 es c d else 0) + (if c = b then A2 es c d else 0)) + ((if d = a then A2 es c d else 0) + (if d = b then A2 es c d else 0))) =
      A2 es c d + ((if c = a then (if d = b then A2 es c d else 0) else 0) + (if c = b then (if d = a then A2 es c d else 0) else 0)) := by
    intro c d _ _
    by_cases c1 : c = a
    · subst c1
      rw [if_neg (by rw [dist4_iff]; omega), if_pos rfl, if_neg hab, if_pos rfl, if_neg hab]
      by_cases d1 : d = c
      · subst d1; rw [if_pos rfl, if_neg hab, A2_self hv]; rfl
      · rw [if_neg d1]
        by_cases d2 : d = b
        · rw [if_pos d2]; omega
        · rw [if_neg d2]; omega
    · by_cases c2 : c = b
      · subst c2
        rw [if_neg (by rw [dist4_iff]; omega), if_neg c1, if_pos rfl, if_neg c1, if_pos rfl]
        by_cases d1 : d = a
        · rw [if_pos d1, if_neg (by omega)]; omega
        · rw [if_neg d1]
          by_cases d2 : d = c
          · subst d2; rw [if_pos rfl, A2_self hv]; rfl
          · rw [if_neg d2]; omega
      · rw [if_neg c1, if_neg c2, if_neg c1, if_neg c2]
        by_cases d1 : d = a
        · rw [if_neg (by rw [dist4_iff]; omega), if_pos d1, if_neg (by omega)]; omega
        · by_cases d2 : d = b
          · rw [if_neg (by rw [dist4_iff]; omega), if_neg d1, if_pos d2]; omega
          · rw [if_neg d1, if_neg d2]
            by_cases d3 : c = d
            · subst d3; rw [if_neg (by rw [dist4_iff]; omega), A2_self hv]; rfl
            · rw [if_pos (by rw [dist4_iff]; omega)]; omega
  have h := all2_congr n _ _ e
  rw [all2_add, all2_add, all2_add, all2_add, all2_add, all2_add, row_at hv a ha, row_at hv b hb, col_at hv a ha, col_at hv b hb, one_at es a b ha hb, one_at es b a hb ha, A2_comm es a b] at h
  have h2 : all2 n (fun c d => A2 es c d) = all2 n (A2 es) := rfl
  omega
/-- DISJOINT PAIRS OF EDGES. -/
theorem cop3 {n : Nat} {es : List E2} (hv : Valid n es) : 2 * (copS (indS es n)).getD 3 0 + 2 * wed30 es n = (es.length : Int) * (es.length : Int) - (es.length : Int) := by
  have h := cop_all es n 3 (by omega) 8 gg3 gg3_ok
  have e : all4 n (onG es gg3) = all2 n (fun a b => A2 es a b * all2 n (fun c d => if dist4 a b c d = true then A2 es c d else 0)) := by
    refine all2_congr n _ _ fun a b _ _ => ?_
    show all2 n (fun c d => onG es gg3 a b c d) = _
    rw [← all2_mul]
    refine all2_congr n _ _ fun c d _ _ => ?_
    unfold onG
    by_cases hd : dist4 a b c d = true
    · rw [if_pos hd, if_pos hd]; rfl
    · rw [if_neg hd, if_neg hd, Int.mul_zero]
  have e2 : ∀ a b, a < n → b < n → A2 es a b * all2 n (fun c d => if dist4 a b c d = true then A2 es c d else 0) + (2 * (deg30 es a * A2 es a b) + 2 * (deg30 es b * A2 es a b)) = (all2 n (A2 es) + 2) * A2 es a b := by
    intro a b ha hb
    by_cases hab : a = b
    · subst hab; rw [A2_self hv]; simp
    · have hk := apart_two hv a b ha hb hab
      have h01 : A2 es a b = 0 ∨ A2 es a b = 1 := by unfold A2; cases adjB es a b <;> simp [ind]
      rcases h01 with h0 | h0
      · rw [h0]; simp
      · rw [h0] at hk ⊢; omega
  have h2 := all2_congr n _ _ e2
  rw [all2_add, all2_add, all2_mul, all2_mul, all2_mul] at h2
  have e3 : all2 n (fun a b => deg30 es a * A2 es a b) = D2 es n := by
    unfold all2 D2
    exact sumN_congr _ _ n fun a _ => by rw [sumN_mul, ← deg_A2 hv]
  have e4 : all2 n (fun a b => deg30 es b * A2 es a b) = D2 es n := by
    have hs : all2 n (fun a b => deg30 es b * A2 es a b) = sumN (fun b => sumN (fun a => deg30 es b * A2 es a b) n) n := by
      unfold all2
      have swap : ∀ m : Nat, sumN (fun a => sumN (fun b => deg30 es b * A2 es a b) m) n = sumN (fun b => sumN (fun a => deg30 es b * A2 es a b) n) m := by
        intro m
        induction m with
        | zero => exact sumN_zero n
        | succ m ih => simp only [sumN, sumN_add, ih]
      exact swap n
    rw [hs]
    unfold D2
    refine sumN_congr _ _ n fun b _ => ?_
    rw [sumN_mul, sumN_congr (fun a => A2 es a b) (fun a => A2 es b a) n (fun a _ => A2_comm es b a), ← deg_A2 hv]
  rw [e3, e4, ← e, ← h, ← edges_A2 hv] at h2
  have h3 := wed_D2 hv
  have h4 : (2 * (es.length : Int) + 2) * (2 * (es.length : Int)) = 4 * ((es.length : Int) * (es.length : Int)) + 4 * (es.length : Int) := by
    generalize (es.length : Int) = m
    rw [Int.add_mul, Int.mul_assoc 2 m, Int.mul_left_comm m 2 m]; omega
  rw [h4] at h2
  generalize (es.length : Int) * (es.length : Int) = mm at *
  omega
theorem ch_two : ∀ m : Nat, 2 * (chS m 2 : Int) = (m : Int) * (m : Int) - (m : Int) := by
  intro m
  induction m with
  | zero => rfl
  | succ m ih =>
    have h1 : chS (m + 1) 2 = chS m 1 + chS m 2 := rfl
    have h5 : (chS (m + 1) 2 : Int) = (m : Int) + (chS m 2 : Int) := by rw [h1, ch_one]; exact Int.natCast_add _ _
    have h6 : ((m + 1 : Nat) : Int) * ((m + 1 : Nat) : Int) = (m : Int) * (m : Int) + 2 * (m : Int) + 1 := by
      rw [Int.natCast_add, Int.add_mul, Int.mul_add]
      generalize (m : Int) * (m : Int) = mm
      omega
    rw [h5, h6]
    generalize (m : Int) * (m : Int) = mm at *
    omega
end Go.Proofs.YtekbpoppajbljaaDoor
