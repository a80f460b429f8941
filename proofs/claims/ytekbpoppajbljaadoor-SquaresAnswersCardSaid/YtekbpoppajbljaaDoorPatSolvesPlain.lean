/- Plain law: the numbers of the sets with a node add up to four times the numbers of all sets, which are as many as there are sets. Plain: sums over all tuples of different nodes are sums over sets, each set in all its orders. Plain law: with other names of the nodes the kinds of the sets are as many. -/
import Derived.Test.YtekbpoppajbljaaDoorPatSolve
namespace Go.Proofs.YtekbpoppajbljaaDoor
open Go.RowKit Go.BigFrame

/-- the sum over the nodes before N -/
def sumN (f : Nat → Int) : Nat → Int
  | 0 => 0
  | N + 1 => sumN f N + f N
theorem sumN_add (f g : Nat → Int) : ∀ N, sumN (fun v => f v + g v) N = sumN f N + sumN g N := by
  intro N
  induction N with
  | zero => rfl
  | succ N ih => simp only [sumN, ih]; omega
theorem sumN_congr (f g : Nat → Int) : ∀ N, (∀ v, v < N → f v = g v) → sumN f N = sumN g N := by
  intro N
  induction N with
  | zero => intro _; rfl
  | succ N ih => intro h; simp only [sumN]; rw [ih (fun v hv => h v (by omega)), h N (by omega)]
theorem sumN_zero : ∀ N, sumN (fun _ => 0) N = 0 := by
  intro N
  induction N with
  | zero => rfl
  | succ N ih => simp only [sumN, ih]; rfl
theorem sumN_ind (d : Nat) : ∀ N, sumN (fun v => if v = d then 1 else 0) N = if d < N then 1 else 0 := by
  intro N
  induction N with
  | zero => simp [sumN]
  | succ N ih =>
    simp only [sumN, ih]
    by_cases h : N = d
    · subst h; simp
    · rw [if_neg h]
      by_cases h2 : d < N
      · rw [if_pos h2, if_pos (by omega)]; rfl
      · rw [if_neg h2, if_neg (by omega)]; rfl
theorem phiN_iff (v d c b a : Nat) : phiN (v : Int) d c b a = true ↔ v = d ∨ v = c ∨ v = b ∨ v = a := by
  unfold phiN
  rw [decide_eq_true_eq]
  simp only [idxFrom]
  by_cases h1 : (v : Int) = d
  · rw [if_pos h1]; constructor
    · intro _; omega
    · intro _; simp
  · rw [if_neg h1]
    by_cases h2 : (v : Int) = c
    · rw [if_pos h2]; constructor
      · intro _; omega
      · intro _; simp
    · rw [if_neg h2]
      by_cases h3 : (v : Int) = b
      · rw [if_pos h3]; constructor
        · intro _; omega
        · intro _; simp
      · rw [if_neg h3]
        by_cases h4 : (v : Int) = a
        · rw [if_pos h4]; constructor
          · intro _; omega
          · intro _; simp
        · rw [if_neg h4]; constructor
          · intro h; omega
          · intro h; omega
theorem sum_phi (N d c b a : Nat) (h1 : d < c) (h2 : c < b) (h3 : b < a) (h4 : a < N) (t : Int) : sumN (fun v => if phiN (v : Int) d c b a then t else 0) N = 4 * t := by
  have e : ∀ v, v < N → (if phiN (v : Int) d c b a then t else 0) = (if v = d then 1 else 0) * t + (if v = c then 1 else 0) * t + ((if v = b then 1 else 0) * t + (if v = a then 1 else 0) * t) := by
    intro v _
    by_cases hp : phiN (v : Int) d c b a = true
    · rw [if_pos hp]
      rcases (phiN_iff v d c b a).1 hp with h | h | h | h
      · rw [if_pos h, if_neg (by omega), if_neg (by omega), if_neg (by omega)]; omega
      · rw [if_neg (by omega), if_pos h, if_neg (by omega), if_neg (by omega)]; omega
      · rw [if_neg (by omega), if_neg (by omega), if_pos h, if_neg (by omega)]; omega
      · rw [if_neg (by omega), if_neg (by omega), if_neg (by omega), if_pos h]; omega
    · rw [if_neg hp]
      have hn := fun h => hp ((phiN_iff v d c b a).2 h)
      rw [if_neg (fun h => hn (.inl h)), if_neg (fun h => hn (.inr (.inl h))), if_neg (fun h => hn (.inr (.inr (.inl h)))), if_neg (fun h => hn (.inr (.inr (.inr h))))]; omega
  have em : ∀ (x : Nat), sumN (fun v => (if v = x then 1 else 0) * t) N = (if x < N then 1 else 0) * t := by
    intro x
    rw [← sumN_ind x N]
    induction N with
    | zero => simp [sumN]
    | succ N ih =>
      clear e
      suffices hh : ∀ N, sumN (fun v => (if v = x then 1 else 0) * t) N = sumN (fun v => if v = x then 1 else 0) N * t from hh _
      intro N
      induction N with
      | zero => simp [sumN]
      | succ N ih => simp only [sumN, ih]; rw [Int.add_mul]
  rw [sumN_congr _ _ N e, sumN_add, sumN_add, sumN_add, em, em, em, em, if_pos (by omega), if_pos (by omega), if_pos (by omega), if_pos (by omega)]
  omega

/-- how often a kind occurs -/
def cntK (k : Nat) (K : List Int) : Int := ((K.filter (fun x => x == (k : Int))).length : Int)
theorem cntK_append (k : Nat) (A B : List Int) : cntK k (A ++ B) = cntK k A + cntK k B := by simp [cntK, List.filter_append]
theorem cntK_nil (k : Nat) : cntK k [] = 0 := rfl
abbrev allS : Nat → Nat → Nat → Nat → Bool := fun _ _ _ _ => true
section
variable (es : List E2) (k N : Nat)
theorem four_D (a b c : Nat) (h2 : c < b) (h3 : b < a) (h4 : a < N) : ∀ d, d ≤ c → sumN (fun v => cntK k (kD es (phiN (v : Int)) a b c d)) N = 4 * cntK k (kD es allS a b c d) := by
  intro d
  induction d with
  | zero => intro _; simp only [kD, List.range_zero, List.flatMap_nil, cntK_nil]; rw [sumN_zero]; rfl
  | succ d ih =>
    intro hd
    have e : ∀ v, v < N → cntK k (kD es (phiN (v : Int)) a b c (d + 1)) = cntK k (kD es (phiN (v : Int)) a b c d) + if phiN (v : Int) d c b a then cntK k [ofKS es d c b a] else 0 := by
      intro v _
      rw [kD_succ, cntK_append]
      congr 1
      split <;> simp [cntK_nil]
    rw [sumN_congr _ _ N e, sumN_add, ih (by omega), sum_phi N d c b a (by omega) h2 h3 h4, kD_succ, cntK_append, if_pos rfl]
    omega
theorem four_C (a b : Nat) (h3 : b < a) (h4 : a < N) : ∀ c, c ≤ b → sumN (fun v => cntK k (kC es (phiN (v : Int)) a b c)) N = 4 * cntK k (kC es allS a b c) := by
  intro c
  induction c with
  | zero => intro _; simp only [kC, List.range_zero, List.flatMap_nil, cntK_nil]; rw [sumN_zero]; rfl
  | succ c ih =>
    intro hc
    have e : ∀ v, v < N → cntK k (kC es (phiN (v : Int)) a b (c + 1)) = cntK k (kC es (phiN (v : Int)) a b c) + cntK k (kD es (phiN (v : Int)) a b c c) := by
      intro v _
      rw [kC_succ, cntK_append]
    rw [sumN_congr _ _ N e, sumN_add, ih (by omega), four_D es k N a b c (by omega) h3 h4 c (Nat.le_refl _), kC_succ, cntK_append]
    omega
theorem four_B (a : Nat) (h4 : a < N) : ∀ b, b ≤ a → sumN (fun v => cntK k (kB es (phiN (v : Int)) a b)) N = 4 * cntK k (kB es allS a b) := by
  intro b
  induction b with
  | zero => intro _; simp only [kB, List.range_zero, List.flatMap_nil, cntK_nil]; rw [sumN_zero]; rfl
  | succ b ih =>
    intro hb
    have e : ∀ v, v < N → cntK k (kB es (phiN (v : Int)) a (b + 1)) = cntK k (kB es (phiN (v : Int)) a b) + cntK k (kC es (phiN (v : Int)) a b b) := by
      intro v _
      rw [kB_succ, cntK_append]
    rw [sumN_congr _ _ N e, sumN_add, ih (by omega), four_C es k N a b (by omega) h4 b (Nat.le_refl _), kB_succ, cntK_append]
    omega
theorem four_A : ∀ a, a ≤ N → sumN (fun v => cntK k (kA es (phiN (v : Int)) a)) N = 4 * cntK k (kA es allS a) := by
  intro a
  induction a with
  | zero => intro _; simp only [kA, List.range_zero, List.flatMap_nil, cntK_nil]; rw [sumN_zero]; rfl
  | succ a ih =>
    intro ha
    have e : ∀ v, v < N → cntK k (kA es (phiN (v : Int)) (a + 1)) = cntK k (kA es (phiN (v : Int)) a) + cntK k (kB es (phiN (v : Int)) a a) := by
      intro v _
      rw [kA_succ, cntK_append]
    rw [sumN_congr _ _ N e, sumN_add, ih (by omega), four_B es k N a (by omega) a (Nat.le_refl _), kA_succ, cntK_append]
    omega
end
/-- THE NUMBERS OF ALL NODES ADD UP TO FOUR TIMES AS MANY. -/
theorem four_all (es : List E2) (n k : Nat) (hk : k < 11) : sumN (fun v => (nodS es n (v : Int)).getD k 0) n = 4 * (indS es n).getD k 0 := by
  have e : ∀ v, v < n → (nodS es n (v : Int)).getD k 0 = cntK k (kA es (phiN (v : Int)) n) := by
    intro v _
    rw [List.getD_eq_getElem?_getD, nodS, cntV_get _ _ hk]; rfl
  rw [sumN_congr _ _ n e, four_A es k n n (Nat.le_refl _), List.getD_eq_getElem?_getD, indS, cntV_get _ _ hk]
  rfl

/-- the sum of the first k numbers -/
def totS (l : List Int) : Nat → Int
  | 0 => 0
  | k + 1 => totS l k + l.getD k 0
theorem ch_one : ∀ n, chS n 1 = n := by
  intro n
  induction n with
  | zero => rfl
  | succ n ih => rw [chS, chS_zero, ih]; omega
theorem len_D (es : List E2) (a b c : Nat) : ∀ d, (kD es allS a b c d).length = d := by
  intro d
  induction d with
  | zero => rfl
  | succ d ih => rw [kD_succ, List.length_append, ih]; rfl
theorem len_C (es : List E2) (a b : Nat) : ∀ c, (kC es allS a b c).length = chS c 2 := by
  intro c
  induction c with
  | zero => rfl
  | succ c ih => rw [kC_succ, List.length_append, ih, len_D]; show _ = chS c 1 + chS c 2; rw [ch_one]; omega
theorem len_B (es : List E2) (a : Nat) : ∀ b, (kB es allS a b).length = chS b 3 := by
  intro b
  induction b with
  | zero => rfl
  | succ b ih => rw [kB_succ, List.length_append, ih, len_C]; show _ = chS b 2 + chS b 3; omega
theorem len_A (es : List E2) : ∀ a, (kA es allS a).length = chS a 4 := by
  intro a
  induction a with
  | zero => rfl
  | succ a ih => rw [kA_succ, List.length_append, ih, len_B]; show _ = chS a 3 + chS a 4; omega
theorem tot_cnt : ∀ (K : List Int), (∀ x ∈ K, 0 ≤ x ∧ x < 11) → totS (cntV K) 11 = K.length := by
  intro K
  have ex : ∀ K : List Int, totS (cntV K) 11 = cntK 0 K + cntK 1 K + cntK 2 K + cntK 3 K + cntK 4 K + cntK 5 K + cntK 6 K + cntK 7 K + cntK 8 K + cntK 9 K + cntK 10 K := by
    intro K
    have g : ∀ k, k < 11 → (cntV K).getD k 0 = cntK k K := fun k hk => by rw [List.getD_eq_getElem?_getD, cntV_get _ _ hk]; rfl
    simp only [totS]
    rw [g 0 (by omega), g 1 (by omega), g 2 (by omega), g 3 (by omega), g 4 (by omega), g 5 (by omega), g 6 (by omega), g 7 (by omega), g 8 (by omega), g 9 (by omega), g 10 (by omega)]
    omega
  induction K with
  | nil => intro _; rw [ex]; rfl
  | cons x K ih =>
    intro h
    have h1 := ih (fun y hy => h y (List.mem_cons_of_mem _ hy))
    have hx := h x (List.mem_cons_self)
    rw [ex] at h1 ⊢
    have hc : ∀ k, cntK k (x :: K) = cntK k [x] + cntK k K := fun k => cntK_append k [x] K
    simp only [hc, List.length_cons]
    have hx1 : cntK 0 [x] + cntK 1 [x] + cntK 2 [x] + cntK 3 [x] + cntK 4 [x] + cntK 5 [x] + cntK 6 [x] + cntK 7 [x] + cntK 8 [x] + cntK 9 [x] + cntK 10 [x] = 1 := by
      rcases (by omega : x = 0 ∨ x = 1 ∨ x = 2 ∨ x = 3 ∨ x = 4 ∨ x = 5 ∨ x = 6 ∨ x = 7 ∨ x = 8 ∨ x = 9 ∨ x = 10) with rfl | rfl | rfl | rfl | rfl | rfl | rfl | rfl | rfl | rfl | rfl <;> rfl
    omega
theorem kinds_bd (es : List E2) (φ : Nat → Nat → Nat → Nat → Bool) (n : Nat) : ∀ x ∈ kA es φ n, 0 ≤ x ∧ x < 11 := by
  intro x hx
  simp only [kA, kB, kC, kD, List.mem_flatMap] at hx
  obtain ⟨a, _, b, _, c, _, d, _, h⟩ := hx
  split at h
  · simp only [List.mem_singleton] at h
    rw [h]; exact ofKS_bd es _ _ _ _
  · cases h
/-- ALL SETS ARE COUNTED. -/
theorem tot_all (es : List E2) (n : Nat) : totS (indS es n) 11 = chS n 4 := by
  rw [indS, tot_cnt _ (kinds_bd es _ n)]
  exact congrArg Int.ofNat (len_A es n)
theorem nodS_bd (es : List E2) (n : Nat) (v : Int) (hn : n ≤ 64) (k : Nat) : 0 ≤ (nodS es n v).getD k 0 ∧ (nodS es n v).getD k 0 ≤ 16777216 := by
  rw [List.getD_eq_getElem?_getD]
  by_cases hk : k < 11
  · unfold nodS
    rw [cntV_get _ _ hk]
    have := cnt_bd (kA es (phiN v) n) k
    have := kA_le es (phiN v) n hn
    simp only [Option.getD_some]; omega
  · rw [List.getElem?_eq_none (by rw [nodS_length]; omega)]; simp
theorem sumN_bd (f : Nat → Int) (B : Int) : ∀ N : Nat, (∀ v, v < N → 0 ≤ f v ∧ f v ≤ B) → 0 ≤ sumN f N ∧ sumN f N ≤ N * B := by
  intro N
  induction N with
  | zero => intro _; simp [sumN]
  | succ N ih =>
    intro h
    have h1 := ih (fun v hv => h v (by omega))
    have h2 := h N (by omega)
    simp only [sumN]
    rw [Int.natCast_add, Int.add_mul]
    omega
theorem totS_bd (l : List Int) (B : Int) (h : ∀ k, 0 ≤ l.getD k 0 ∧ l.getD k 0 ≤ B) : ∀ N : Nat, 0 ≤ totS l N ∧ totS l N ≤ N * B := by
  intro N
  induction N with
  | zero => simp [totS]
  | succ N ih =>
    have h2 := h N
    simp only [totS]
    rw [Int.natCast_add, Int.add_mul]
    omega
end Go.Proofs.YtekbpoppajbljaaDoor

namespace Go.Proofs.YtekbpoppajbljaaDoor
open Go.RowKit Go.BigFrame

def all2 (n : Nat) (G : Nat → Nat → Int) : Int := sumN (fun a => sumN (fun b => G a b) n) n
def all3 (n : Nat) (G : Nat → Nat → Nat → Int) : Int := sumN (fun a => all2 n (G a)) n
def all4 (n : Nat) (G : Nat → Nat → Nat → Nat → Int) : Int := sumN (fun a => all3 n (G a)) n
def sort2 (n : Nat) (G : Nat → Nat → Int) : Int := sumN (fun a => sumN (fun b => G a b) a) n
def sort3 (n : Nat) (G : Nat → Nat → Nat → Int) : Int := sumN (fun a => sort2 a (G a)) n
def sort4 (n : Nat) (G : Nat → Nat → Nat → Nat → Int) : Int := sumN (fun a => sort3 a (G a)) n
def P2 (G : Nat → Nat → Int) (a b : Nat) : Int := G a b + G b a
def P3 (G : Nat → Nat → Nat → Int) (a b c : Nat) : Int := P2 (G a) b c + P2 (fun x y => G x a y) b c + P2 (fun x y => G x y a) b c
def P4 (G : Nat → Nat → Nat → Nat → Int) (a b c d : Nat) : Int := P3 (G a) b c d + P3 (fun x y z => G x a y z) b c d + P3 (fun x y z => G x y a z) b c d + P3 (fun x y z => G x y z a) b c d

theorem all2_add (n : Nat) (F G : Nat → Nat → Int) : all2 n (fun a b => F a b + G a b) = all2 n F + all2 n G := by simp only [all2, sumN_add]
theorem all3_add (n : Nat) (F G : Nat → Nat → Nat → Int) : all3 n (fun a b c => F a b c + G a b c) = all3 n F + all3 n G := by simp only [all3, all2_add, sumN_add]
theorem sort2_add (n : Nat) (F G : Nat → Nat → Int) : sort2 n (fun a b => F a b + G a b) = sort2 n F + sort2 n G := by simp only [sort2, sumN_add]
theorem sort3_add (n : Nat) (F G : Nat → Nat → Nat → Int) : sort3 n (fun a b c => F a b c + G a b c) = sort3 n F + sort3 n G := by simp only [sort3, sort2_add, sumN_add]
theorem sort4_add (n : Nat) (F G : Nat → Nat → Nat → Nat → Int) : sort4 n (fun a b c d => F a b c d + G a b c d) = sort4 n F + sort4 n G := by simp only [sort4, sort3_add, sumN_add]

theorem all2_succ (n : Nat) (G : Nat → Nat → Int) : all2 (n + 1) G = all2 n G + sumN (fun a => G a n) n + sumN (fun b => G n b) n + G n n := by
  simp only [all2, sumN, sumN_add]; omega
theorem all3_succ (n : Nat) (G : Nat → Nat → Nat → Int) (h1 : ∀ a c, G a a c = 0) (h2 : ∀ a b, G a b a = 0) (h3 : ∀ a b, G a b b = 0) : all3 (n + 1) G = all3 n G + all2 n (G n) + all2 n (fun x y => G x n y) + all2 n (fun x y => G x y n) := by
  have e : ∀ a, all2 (n + 1) (G a) = all2 n (G a) + sumN (fun b => G a b n) n + sumN (fun c => G a n c) n := by
    intro a; rw [all2_succ, h3]; omega
  have e2 : all2 (n + 1) (G n) = all2 n (G n) := by
    rw [all2_succ, h3, sumN_congr (fun b => G n b n) (fun _ => 0) n (fun b _ => h2 n b), sumN_congr (fun c => G n n c) (fun _ => 0) n (fun c _ => h1 n c), sumN_zero]; omega
  unfold all3
  rw [show sumN (fun a => all2 (n + 1) (G a)) (n + 1) = sumN (fun a => all2 (n + 1) (G a)) n + all2 (n + 1) (G n) from rfl, e2]
  rw [sumN_congr _ _ n (fun a _ => e a)]
  simp only [sumN_add, all2]
  omega
theorem sym2 (G : Nat → Nat → Int) (h : ∀ a, G a a = 0) : ∀ n, all2 n G = sort2 n (P2 G) := by
  intro n
  induction n with
  | zero => rfl
  | succ n ih =>
    rw [all2_succ, ih, h]
    show _ = sort2 n (P2 G) + sumN (fun b => G n b + G b n) n
    rw [sumN_add]
    have e : sumN (fun b => G n b) n = sumN (G n) n := rfl
    omega
theorem sym3 (G : Nat → Nat → Nat → Int) (h1 : ∀ a c, G a a c = 0) (h2 : ∀ a b, G a b a = 0) (h3 : ∀ a b, G a b b = 0) : ∀ n, all3 n G = sort3 n (P3 G) := by
  intro n
  induction n with
  | zero => rfl
  | succ n ih =>
    rw [all3_succ n G h1 h2 h3, ih, sym2 (G n) (h3 n), sym2 (fun x y => G x n y) (fun a => h2 a n), sym2 (fun x y => G x y n) (fun a => h1 a n)]
    show _ = sort3 n (P3 G) + sort2 n (fun b c => P2 (G n) b c + P2 (fun x y => G x n y) b c + P2 (fun x y => G x y n) b c)
    rw [sort2_add, sort2_add]
    omega
/-- no value where two of the four are the same -/
structure Apart4 (G : Nat → Nat → Nat → Nat → Int) : Prop where
  ab : ∀ a c d, G a a c d = 0
  ac : ∀ a b d, G a b a d = 0
  ad : ∀ a b c, G a b c a = 0
  bc : ∀ a b d, G a b b d = 0
  bd : ∀ a b c, G a b c b = 0
  cd : ∀ a b c, G a b c c = 0
theorem all4_succ (n : Nat) (G : Nat → Nat → Nat → Nat → Int) (h : Apart4 G) : all4 (n + 1) G = all4 n G + all3 n (G n) + all3 n (fun x y z => G x n y z) + all3 n (fun x y z => G x y n z) + all3 n (fun x y z => G x y z n) := by
  have e : ∀ a, all3 (n + 1) (G a) = all3 n (G a) + all2 n (G a n) + all2 n (fun x y => G a x n y) + all2 n (fun x y => G a x y n) := fun a => all3_succ n (G a) (fun b d => h.bc a b d) (fun b c => h.bd a b c) (fun b c => h.cd a b c)
  have z2 : ∀ (F : Nat → Nat → Int), (∀ x y, F x y = 0) → all2 n F = 0 := by
    intro F hF
    unfold all2
    rw [sumN_congr _ (fun _ => 0) n (fun a _ => by rw [sumN_congr _ (fun _ => 0) n (fun b _ => hF a b), sumN_zero]), sumN_zero]
  have e2 : all3 (n + 1) (G n) = all3 n (G n) := by
    rw [e, z2 _ (fun x y => h.ab n x y), z2 _ (fun x y => h.ac n x y), z2 _ (fun x y => h.ad n x y)]; omega
  unfold all4
  rw [show sumN (fun a => all3 (n + 1) (G a)) (n + 1) = sumN (fun a => all3 (n + 1) (G a)) n + all3 (n + 1) (G n) from rfl, e2]
  rw [sumN_congr _ _ n (fun a _ => e a)]
  simp only [sumN_add, all3]
  have e3 : sumN (fun a => all2 n (fun y z => G a n y z)) n = sumN (fun v => all2 n (G v n)) n := rfl
  omega
/-- ALL TUPLES ARE ALL SETS IN ALL ORDERS. -/
theorem sym4 (G : Nat → Nat → Nat → Nat → Int) (h : Apart4 G) : ∀ n, all4 n G = sort4 n (P4 G) := by
  intro n
  induction n with
  | zero => rfl
  | succ n ih =>
    rw [all4_succ n G h, ih, sym3 (G n) (fun a c => h.bc n a c) (fun a b => h.bd n a b) (fun a b => h.cd n a b), sym3 (fun x y z => G x n y z) (fun a c => h.ac a n c) (fun a b => h.ad a n b) (fun a b => h.cd a n b),
      sym3 (fun x y z => G x y n z) (fun a c => h.ab a n c) (fun a b => h.ad a b n) (fun a b => h.bd a b n), sym3 (fun x y z => G x y z n) (fun a c => h.ab a c n) (fun a b => h.ac a b n) (fun a b => h.bc a b n)]
    show _ = sort4 n (P4 G) + sort3 n (fun b c d => P3 (G n) b c d + P3 (fun x y z => G x n y z) b c d + P3 (fun x y z => G x y n z) b c d + P3 (fun x y z => G x y z n) b c d)
    rw [sort3_add, sort3_add, sort3_add]
    omega
theorem P3_same (G : Nat → Nat → Nat → Int) (s1 : ∀ a b c, G b a c = G a b c) (s2 : ∀ a b c, G a c b = G a b c) (a b c : Nat) : P3 G a b c = 6 * G a b c := by
  show G a b c + G a c b + (G b a c + G c a b) + (G b c a + G c b a) = _
  have e1 := s2 a b c
  have e2 := s1 a b c
  have e3 := s1 a c b
  have e4 : G b c a = G b a c := s2 b a c
  have e5 : G c b a = G c a b := s2 c a b
  omega
theorem P4_same (G : Nat → Nat → Nat → Nat → Int) (s1 : ∀ a b c d, G b a c d = G a b c d) (s2 : ∀ a b c d, G a c b d = G a b c d) (s3 : ∀ a b c d, G a b d c = G a b c d) (a b c d : Nat) : P4 G a b c d = 24 * G a b c d := by
  unfold P4
  have f1 : (fun x y z => G x a y z) = G a := by funext x y z; exact s1 a x y z
  have f2 : (fun x y z => G x y a z) = G a := by funext x y z; rw [s2 x a y z, s1 a x y z]
  have f3 : (fun x y z => G x y z a) = G a := by funext x y z; rw [s3 x y a z, s2 x a y z, s1 a x y z]
  rw [f1, f2, f3, P3_same (G a) (s2 a) (s3 a)]
  omega

/-- the sum over a list -/
def lsum (f : Nat → Int) : List Nat → Int
  | [] => 0
  | x :: l => f x + lsum f l
theorem lsum_append (f : Nat → Int) (l m : List Nat) : lsum f (l ++ m) = lsum f l + lsum f m := by
  induction l with
  | nil => simp [lsum]
  | cons x l ih => simp only [List.cons_append, lsum, ih]; omega
theorem lsum_perm (f : Nat → Int) {l m : List Nat} (h : l.Perm m) : lsum f l = lsum f m := by
  induction h with
  | nil => rfl
  | cons x _ ih => simp only [lsum, ih]
  | swap x y l => simp only [lsum]; omega
  | trans _ _ ih1 ih2 => exact ih1.trans ih2
theorem lsum_range (f : Nat → Int) : ∀ n, lsum f (List.range n) = sumN f n := by
  intro n
  induction n with
  | zero => rfl
  | succ n ih => rw [List.range_succ, lsum_append, ih]; simp [lsum, sumN]
theorem sumN_head (f : Nat → Int) : ∀ n, sumN f (n + 1) = f 0 + sumN (fun i => f (i + 1)) n := by
  intro n
  induction n with
  | zero => simp [sumN]
  | succ n ih => rw [show sumN f (n + 1 + 1) = sumN f (n + 1) + f (n + 1) from rfl, ih]; simp only [sumN]; omega
theorem lsum_get (f : Nat → Int) : ∀ l : List Nat, lsum f l = sumN (fun i => f (l.getD i 0)) l.length := by
  intro l
  induction l with
  | nil => rfl
  | cons x l ih => rw [List.length_cons, sumN_head, lsum, ih]; rfl
/-- A SUM IN ANOTHER ORDER. -/
theorem sumN_names (f : Nat → Int) (n : Nat) (l : List Nat) (h : l.Perm (List.range n)) : sumN (fun i => f (l.getD i 0)) n = sumN f n := by
  have hl : l.length = n := by rw [h.length_eq]; simp
  have := lsum_get f l
  rw [hl] at this
  rw [← this, lsum_perm f h, lsum_range]
theorem all4_names (G : Nat → Nat → Nat → Nat → Int) (n : Nat) (l : List Nat) (h : l.Perm (List.range n)) : all4 n (fun a b c d => G (l.getD a 0) (l.getD b 0) (l.getD c 0) (l.getD d 0)) = all4 n G := by
  unfold all4 all3 all2
  have e1 : ∀ a b c, sumN (fun d => G a b c (l.getD d 0)) n = sumN (fun d => G a b c d) n := fun a b c => sumN_names (G a b c) n l h
  have e2 : ∀ a b, sumN (fun c => sumN (fun d => G a b (l.getD c 0) (l.getD d 0)) n) n = sumN (fun c => sumN (fun d => G a b c d) n) n := by
    intro a b
    rw [sumN_congr _ _ n (fun c _ => e1 a b (l.getD c 0))]
    exact sumN_names (fun c => sumN (fun d => G a b c d) n) n l h
  have e3 : ∀ a, sumN (fun b => sumN (fun c => sumN (fun d => G a (l.getD b 0) (l.getD c 0) (l.getD d 0)) n) n) n = sumN (fun b => sumN (fun c => sumN (fun d => G a b c d) n) n) n := by
    intro a
    rw [sumN_congr _ _ n (fun b _ => e2 a (l.getD b 0))]
    exact sumN_names (fun b => sumN (fun c => sumN (fun d => G a b c d) n) n) n l h
  rw [sumN_congr _ _ n (fun a _ => e3 (l.getD a 0))]
  exact sumN_names (fun a => sumN (fun b => sumN (fun c => sumN (fun d => G a b c d) n) n) n) n l h
end Go.Proofs.YtekbpoppajbljaaDoor

namespace Go.Proofs.YtekbpoppajbljaaDoor
open Go.RowKit Go.BigFrame

theorem adjB_comm (es : List E2) (i j : Nat) : adjB es j i = adjB es i j := by
  unfold adjB
  congr 1
  funext e
  exact decide_eq_decide.2 ⟨fun h => h.symm, fun h => h.symm⟩
def ind (p : Bool) : Int := if p then 1 else 0
section
variable (es : List E2) (φ : Nat → Nat → Nat → Nat → Bool) (k : Nat)
def q4 (a b c d : Nat) : Bool := φ d c b a && ofKS es d c b a == (k : Int)
theorem cnt_D (a b c : Nat) : ∀ d, cntK k (kD es φ a b c d) = sumN (fun d => ind (q4 es φ k a b c d)) d := by
  intro d
  induction d with
  | zero => rfl
  | succ d ih =>
    rw [kD_succ, cntK_append, ih]
    show _ = _ + ind (q4 es φ k a b c d)
    congr 1
    unfold q4 ind
    cases φ d c b a
    · rfl
    · simp only [if_true, Bool.true_and, cntK]
      cases h : (ofKS es d c b a == (k : Int)) <;> simp [h]
theorem cnt_C (a b : Nat) : ∀ c, cntK k (kC es φ a b c) = sort2 c (fun c d => ind (q4 es φ k a b c d)) := by
  intro c
  induction c with
  | zero => rfl
  | succ c ih => rw [kC_succ, cntK_append, ih, cnt_D]; rfl
theorem cnt_B (a : Nat) : ∀ b, cntK k (kB es φ a b) = sort3 b (fun b c d => ind (q4 es φ k a b c d)) := by
  intro b
  induction b with
  | zero => rfl
  | succ b ih => rw [kB_succ, cntK_append, ih, cnt_C]; rfl
theorem cnt_A : ∀ a, cntK k (kA es φ a) = sort4 a (fun a b c d => ind (q4 es φ k a b c d)) := by
  intro a
  induction a with
  | zero => rfl
  | succ a ih => rw [kA_succ, cntK_append, ih, cnt_B]; rfl
end
theorem sort4_congr (n : Nat) (F G : Nat → Nat → Nat → Nat → Int) (h : ∀ a b c d, a < n → b < a → c < b → d < c → F a b c d = G a b c d) : sort4 n F = sort4 n G :=
  sumN_congr _ _ n fun a ha => sumN_congr _ _ a fun b hb => sumN_congr _ _ b fun c hc => sumN_congr _ _ c fun d hd => h a b c d ha hb hc hd
theorem all4_congr (n : Nat) (F G : Nat → Nat → Nat → Nat → Int) (h : ∀ a b c d, a < n → b < n → c < n → d < n → F a b c d = G a b c d) : all4 n F = all4 n G :=
  sumN_congr _ _ n fun a ha => sumN_congr _ _ n fun b hb => sumN_congr _ _ n fun c hc => sumN_congr _ _ n fun d hd => h a b c d ha hb hc hd
theorem sumN_mul (t : Int) (f : Nat → Int) : ∀ n, sumN (fun v => t * f v) n = t * sumN f n := by
  intro n
  induction n with
  | zero => simp [sumN]
  | succ n ih => simp only [sumN, ih, Int.mul_add]
theorem sort4_mul (t : Int) (n : Nat) (F : Nat → Nat → Nat → Nat → Int) : sort4 n (fun a b c d => t * F a b c d) = t * sort4 n F := by
  simp only [sort4, sort3, sort2, sumN_mul]
/-- four different nodes -/
def dist4 (a b c d : Nat) : Bool := a != b && (a != c && (a != d && (b != c && (b != d && c != d))))
theorem dist4_iff (a b c d : Nat) : dist4 a b c d = true ↔ a ≠ b ∧ a ≠ c ∧ a ≠ d ∧ b ≠ c ∧ b ≠ d ∧ c ≠ d := by simp [dist4]
def on4 (q : Nat → Nat → Nat → Nat → Bool) (a b c d : Nat) : Int := ind (dist4 a b c d && q a b c d)
theorem on4_apart (q : Nat → Nat → Nat → Nat → Bool) : Apart4 (on4 q) := by
  constructor <;> intro a b c <;> simp [on4, dist4, ind]
theorem bool_eq_of {p q : Bool} (h : p = true ↔ q = true) : p = q := by cases p <;> cases q <;> simp_all
theorem on4_swap (q : Nat → Nat → Nat → Nat → Bool) (a b c d a' b' c' d' : Nat) (hd : dist4 a' b' c' d' = dist4 a b c d) (hq : q a' b' c' d' = q a b c d) : on4 q a' b' c' d' = on4 q a b c d := by
  unfold on4; rw [hd, hq]
/-- a number of sets, counted in all orders -/
theorem sort4_all (n : Nat) (q : Nat → Nat → Nat → Nat → Bool) (s1 : ∀ a b c d, q b a c d = q a b c d) (s2 : ∀ a b c d, q a c b d = q a b c d) (s3 : ∀ a b c d, q a b d c = q a b c d) :
    24 * sort4 n (fun a b c d => ind (q a b c d)) = all4 n (on4 q) := by
  rw [sym4 _ (on4_apart q), ← sort4_mul]
  refine sort4_congr n _ _ fun a b c d ha hb hc hd => ?_
  rw [P4_same]
  · unfold on4
    rw [(dist4_iff a b c d).2 (by omega), Bool.true_and]
  · intro a b c d; exact on4_swap q _ _ _ _ _ _ _ _ (bool_eq_of (by rw [dist4_iff, dist4_iff]; omega)) (s1 a b c d)
  · intro a b c d; exact on4_swap q _ _ _ _ _ _ _ _ (bool_eq_of (by rw [dist4_iff, dist4_iff]; omega)) (s2 a b c d)
  · intro a b c d; exact on4_swap q _ _ _ _ _ _ _ _ (bool_eq_of (by rw [dist4_iff, dist4_iff]; omega)) (s3 a b c d)
/-- the kind by six answers -/
def kB6 (x0 x1 x2 x3 x4 x5 : Bool) : Int := kindS (maskF (fun i => match i with | 0 => x0 | 1 => x1 | 2 => x2 | 3 => x3 | 4 => x4 | _ => x5) 6)
theorem ofKS_kB6 (es : List E2) (a b c d : Nat) : ofKS es a b c d = kB6 (adjB es a b) (adjB es a c) (adjB es a d) (adjB es b c) (adjB es b d) (adjB es c d) := by
  unfold ofKS kB6
  simp only [maskF, pairF]
theorem kB6_s1 : ∀ x0 x1 x2 x3 x4 x5, kB6 x0 x3 x4 x1 x2 x5 = kB6 x0 x1 x2 x3 x4 x5 := by decide
theorem kB6_s2 : ∀ x0 x1 x2 x3 x4 x5, kB6 x1 x0 x2 x3 x5 x4 = kB6 x0 x1 x2 x3 x4 x5 := by decide
theorem kB6_s3 : ∀ x0 x1 x2 x3 x4 x5, kB6 x0 x2 x1 x4 x3 x5 = kB6 x0 x1 x2 x3 x4 x5 := by decide
theorem ofKS_s1 (es : List E2) (a b c d : Nat) : ofKS es b a c d = ofKS es a b c d := by rw [ofKS_kB6, ofKS_kB6, adjB_comm es a b, kB6_s1]
theorem ofKS_s2 (es : List E2) (a b c d : Nat) : ofKS es a c b d = ofKS es a b c d := by rw [ofKS_kB6, ofKS_kB6, adjB_comm es b c, kB6_s2]
theorem ofKS_s3 (es : List E2) (a b c d : Nat) : ofKS es a b d c = ofKS es a b c d := by rw [ofKS_kB6, ofKS_kB6, adjB_comm es c d, kB6_s3]
/-- a test of four nodes that does not know their order -/
structure Sym (φ : Nat → Nat → Nat → Nat → Bool) : Prop where
  s1 : ∀ a b c d, φ b a c d = φ a b c d
  s2 : ∀ a b c d, φ a c b d = φ a b c d
  s3 : ∀ a b c d, φ a b d c = φ a b c d
theorem cnt_all (es : List E2) (φ : Nat → Nat → Nat → Nat → Bool) (hφ : Sym φ) (k n : Nat) : 24 * cntK k (kA es φ n) = all4 n (on4 (q4 es φ k)) := by
  rw [cnt_A]
  refine sort4_all n (q4 es φ k) (fun a b c d => ?_) (fun a b c d => ?_) (fun a b c d => ?_)
  · unfold q4; rw [hφ.s3, ofKS_s3]
  · unfold q4; rw [hφ.s2, ofKS_s2]
  · unfold q4; rw [hφ.s1, ofKS_s1]
/-- other names: an order of the nodes -/
structure Names (n : Nat) (l : List Nat) (es es' : List E2) : Prop where
  perm : l.Perm (List.range n)
  adj : ∀ a b, a < n → b < n → adjB es' (l.getD a 0) (l.getD b 0) = adjB es a b
theorem Names.len {n : Nat} {l : List Nat} {es es' : List E2} (h : Names n l es es') : l.length = n := by rw [h.perm.length_eq]; simp
theorem perm_inj {n : Nat} {l : List Nat} (h : l.Perm (List.range n)) (a b : Nat) (ha : a < n) (hb : b < n) : l.getD a 0 = l.getD b 0 ↔ a = b := by
  have hl : l.length = n := by rw [h.length_eq]; simp
  have hnd : l.Nodup := h.nodup_iff.2 List.nodup_range
  constructor
  · intro e
    rw [List.getD_eq_getElem?_getD, List.getD_eq_getElem?_getD, List.getElem?_eq_getElem (by omega), List.getElem?_eq_getElem (by omega)] at e
    exact (List.getElem_inj hnd).1 (by simpa using e)
  · rintro rfl; rfl
theorem names_cnt {n : Nat} {l : List Nat} {es es' : List E2} (h : Names n l es es') (φ φ' : Nat → Nat → Nat → Nat → Bool) (hφ : Sym φ) (hφ' : Sym φ') (k : Nat)
    (hq : ∀ a b c d, a < n → b < n → c < n → d < n → φ' (l.getD d 0) (l.getD c 0) (l.getD b 0) (l.getD a 0) = φ d c b a) : cntK k (kA es' φ' n) = cntK k (kA es φ n) := by
  have h1 := cnt_all es φ hφ k n
  have h2 := cnt_all es' φ' hφ' k n
  rw [← all4_names _ n l h.perm] at h2
  rw [all4_congr n _ (on4 (q4 es φ k)) (fun a b c d ha hb hc hd => ?_)] at h2
  · omega
  · unfold on4
    have hdd : dist4 (l.getD a 0) (l.getD b 0) (l.getD c 0) (l.getD d 0) = dist4 a b c d := by
      refine bool_eq_of ?_
      rw [dist4_iff, dist4_iff]
      simp only [ne_eq, perm_inj h.perm a b ha hb, perm_inj h.perm a c ha hc, perm_inj h.perm a d ha hd, perm_inj h.perm b c hb hc, perm_inj h.perm b d hb hd, perm_inj h.perm c d hc hd]
    rw [hdd]
    unfold q4
    rw [hq a b c d ha hb hc hd, ofKS_kB6, ofKS_kB6, h.adj d c hd hc, h.adj d b hd hb, h.adj d a hd ha, h.adj c b hc hb, h.adj c a hc ha, h.adj b a hb ha]
theorem cntV_congr (K K' : List Int) (h : ∀ k, k < 11 → cntK k K = cntK k K') : cntV K = cntV K' := by
  unfold cntV
  apply List.map_congr_left
  intro k hk
  exact h k (List.mem_range.1 hk)
theorem all_sym : Sym allS := ⟨fun _ _ _ _ => rfl, fun _ _ _ _ => rfl, fun _ _ _ _ => rfl⟩
theorem phi_sym (v : Nat) : Sym (phiN (v : Int)) := by
  constructor <;> intro a b c d <;> refine bool_eq_of ?_ <;> rw [phiN_iff, phiN_iff] <;> omega
/-- WITH OTHER NAMES THE KINDS ARE AS MANY. -/
theorem ind_names {n : Nat} {l : List Nat} {es es' : List E2} (h : Names n l es es') : indS es' n = indS es n :=
  cntV_congr _ _ fun k _ => names_cnt h allS allS all_sym all_sym k (fun _ _ _ _ _ _ _ _ => rfl)
theorem nod_names {n : Nat} {l : List Nat} {es es' : List E2} (h : Names n l es es') (v : Nat) (hv : v < n) : nodS es' n ((l.getD v 0 : Nat) : Int) = nodS es n (v : Int) :=
  cntV_congr _ _ fun k _ => names_cnt h _ _ (phi_sym v) (phi_sym _) k (fun a b c d ha hb hc hd => bool_eq_of (by
    rw [phiN_iff, phiN_iff, perm_inj h.perm v d hv hd, perm_inj h.perm v c hv hc, perm_inj h.perm v b hv hb, perm_inj h.perm v a hv ha]))
end Go.Proofs.YtekbpoppajbljaaDoor
