/- Plain law: the numbers of the sets with a node add up to four times the numbers of all sets, which are as many as there are sets. -/
import Derived.Test.YtdiackininlmeaaDoorPatNode2
namespace Go.Proofs.YtdiackininlmeaaDoor
open Go.RowKit Go.BigFrame

/-- the sum over the nodes before N -/
def sumN (f : Nat → Int) : Nat → Int
  | 0 => 0
  | N + 1 => sumN f N + f N
theorem sumN_add (f g : Nat → Int) : ∀ N, sumN (fun v => f v + g v) N = sumN f N + sumN g N := by
  intro N
  induction N with
  | zero => rfl
  | succ N ih => simp only [sumN, ih]; omega
theorem sumN_congr (f g : Nat → Int) : ∀ N, (∀ v, v < N → f v = g v) → sumN f N = sumN g N := by
  intro N
  induction N with
  | zero => intro _; rfl
  | succ N ih => intro h; simp only [sumN]; rw [ih (fun v hv => h v (by omega)), h N (by omega)]
theorem sumN_zero : ∀ N, sumN (fun _ => 0) N = 0 := by
  intro N
  induction N with
  | zero => rfl
  | succ N ih => simp only [sumN, ih]; rfl
theorem sumN_ind (d : Nat) : ∀ N, sumN (fun v => if v = d then 1 else 0) N = if d < N then 1 else 0 := by
  intro N
  induction N with
  | zero => simp [sumN]
  | succ N ih =>
    simp only [sumN, ih]
    by_cases h : N = d
    · subst h; simp
    · rw [if_neg h]
      by_cases h2 : d < N
      · rw [if_pos h2, if_pos (by omega)]; rfl
      · rw [if_neg h2, if_neg (by omega)]; rfl
theorem phiN_iff (v d c b a : Nat) : phiN (v : Int) d c b a = true ↔ v = d ∨ v = c ∨ v = b ∨ v = a := by
  unfold phiN
  rw [decide_eq_true_eq]
  simp only [idxFrom]
  by_cases h1 : (v : Int) = d
  · rw [if_pos h1]; constructor
    · intro _; omega
    · intro _; simp
  · rw [if_neg h1]
    by_cases h2 : (v : Int) = c
    · rw [if_pos h2]; constructor
      · intro _; omega
      · intro _; simp
    · rw [if_neg h2]
      by_cases h3 : (v : Int) = b
      · rw [if_pos h3]; constructor
        · intro _; omega
        · intro _; simp
      · rw [if_neg h3]
        by_cases h4 : (v : Int) = a
        · rw [if_pos h4]; constructor
          · intro _; omega
          · intro _; simp
        · rw [if_neg h4]; constructor
          · intro h; omega
          · intro h; omega
theorem sum_phi (N d c b a : Nat) (h1 : d < c) (h2 : c < b) (h3 : b < a) (h4 : a < N) (t : Int) : sumN (fun v => if phiN (v : Int) d c b a then t else 0) N = 4 * t := by
  have e : ∀ v, v < N → (if phiN (v : Int) d c b a then t else 0) = (if v = d then 1 else 0) * t + (if v = c then 1 else 0) * t + ((if v = b then 1 else 0) * t + (if v = a then 1 else 0) * t) := by
    intro v _
    by_cases hp : phiN (v : Int) d c b a = true
    · rw [if_pos hp]
      rcases (phiN_iff v d c b a).1 hp with h | h | h | h
      · rw [if_pos h, if_neg (by omega), if_neg (by omega), if_neg (by omega)]; omega
      · rw [if_neg (by omega), if_pos h, if_neg (by omega), if_neg (by omega)]; omega
      · rw [if_neg (by omega), if_neg (by omega), if_pos h, if_neg (by omega)]; omega
      · rw [if_neg (by omega), if_neg (by omega), if_neg (by omega), if_pos h]; omega
    · rw [if_neg hp]
      have hn := fun h => hp ((phiN_iff v d c b a).2 h)
      rw [if_neg (fun h => hn (.inl h)), if_neg (fun h => hn (.inr (.inl h))), if_neg (fun h => hn (.inr (.inr (.inl h)))), if_neg (fun h => hn (.inr (.inr (.inr h))))]; omega
  have em : ∀ (x : Nat), sumN (fun v => (if v = x then 1 else 0) * t) N = (if x < N then 1 else 0) * t := by
    intro x
    rw [← sumN_ind x N]
    induction N with
    | zero => simp [sumN]
    | succ N ih =>
      clear e
      suffices hh : ∀ N, sumN (fun v => (if v = x then 1 else 0) * t) N = sumN (fun v => if v = x then 1 else 0) N * t from hh _
      intro N
      induction N with
      | zero => simp [sumN]
      | succ N ih => simp only [sumN, ih]; rw [Int.add_mul]
  rw [sumN_congr _ _ N e, sumN_add, sumN_add, sumN_add, em, em, em, em, if_pos (by omega), if_pos (by omega), if_pos (by omega), if_pos (by omega)]
  omega

/-- how often a kind occurs -/
def cntK (k : Nat) (K : List Int) : Int := ((K.filter (fun x => x == (k : Int))).length : Int)
theorem cntK_append (k : Nat) (A B : List Int) : cntK k (A ++ B) = cntK k A + cntK k B := by simp [cntK, List.filter_append]
theorem cntK_nil (k : Nat) : cntK k [] = 0 := rfl
abbrev allS : Nat → Nat → Nat → Nat → Bool := fun _ _ _ _ => true
section
variable (es : List E2) (k N : Nat)
theorem four_D (a b c : Nat) (h2 : c < b) (h3 : b < a) (h4 : a < N) : ∀ d, d ≤ c → sumN (fun v => cntK k (kD es (phiN (v : Int)) a b c d)) N = 4 * cntK k (kD es allS a b c d) := by
  intro d
  induction d with
  | zero => intro _; simp only [kD, List.range_zero, List.flatMap_nil, cntK_nil]; rw [sumN_zero]; rfl
  | succ d ih =>
    intro hd
    have e : ∀ v, v < N → cntK k (kD es (phiN (v : Int)) a b c (d + 1)) = cntK k (kD es (phiN (v : Int)) a b c d) + if phiN (v : Int) d c b a then cntK k [ofKS es d c b a] else 0 := by
      intro v _
      rw [kD_succ, cntK_append]
      congr 1
      split <;> simp [cntK_nil]
    rw [sumN_congr _ _ N e, sumN_add, ih (by omega), sum_phi N d c b a (by omega) h2 h3 h4, kD_succ, cntK_append, if_pos rfl]
    omega
theorem four_C (a b : Nat) (h3 : b < a) (h4 : a < N) : ∀ c, c ≤ b → sumN (fun v => cntK k (kC es (phiN (v : Int)) a b c)) N = 4 * cntK k (kC es allS a b c) := by
  intro c
  induction c with
  | zero => intro _; simp only [kC, List.range_zero, List.flatMap_nil, cntK_nil]; rw [sumN_zero]; rfl
  | succ c ih =>
    intro hc
    have e : ∀ v, v < N → cntK k (kC es (phiN (v : Int)) a b (c + 1)) = cntK k (kC es (phiN (v : Int)) a b c) + cntK k (kD es (phiN (v : Int)) a b c c) := by
      intro v _
      rw [kC_succ, cntK_append]
    rw [sumN_congr _ _ N e, sumN_add, ih (by omega), four_D es k N a b c (by omega) h3 h4 c (Nat.le_refl _), kC_succ, cntK_append]
    omega
theorem four_B (a : Nat) (h4 : a < N) : ∀ b, b ≤ a → sumN (fun v => cntK k (kB es (phiN (v : Int)) a b)) N = 4 * cntK k (kB es allS a b) := by
  intro b
  induction b with
  | zero => intro _; simp only [kB, List.range_zero, List.flatMap_nil, cntK_nil]; rw [sumN_zero]; rfl
  | succ b ih =>
    intro hb
    have e : ∀ v, v < N → cntK k (kB es (phiN (v : Int)) a (b + 1)) = cntK k (kB es (phiN (v : Int)) a b) + cntK k (kC es (phiN (v : Int)) a b b) := by
      intro v _
      rw [kB_succ, cntK_append]
    rw [sumN_congr _ _ N e, sumN_add, ih (by omega), four_C es k N a b (by omega) h4 b (Nat.le_refl _), kB_succ, cntK_append]
    omega
theorem four_A : ∀ a, a ≤ N → sumN (fun v => cntK k (kA es (phiN (v : Int)) a)) N = 4 * cntK k (kA es allS a) := by
  intro a
  induction a with
  | zero => intro _; simp only [kA, List.range_zero, List.flatMap_nil, cntK_nil]; rw [sumN_zero]; rfl
  | succ a ih =>
    intro ha
    have e : ∀ v, v < N → cntK k (kA es (phiN (v : Int)) (a + 1)) = cntK k (kA es (phiN (v : Int)) a) + cntK k (kB es (phiN (v : Int)) a a) := by
      intro v _
      rw [kA_succ, cntK_append]
    rw [sumN_congr _ _ N e, sumN_add, ih (by omega), four_B es k N a (by omega) a (Nat.le_refl _), kA_succ, cntK_append]
    omega
end
/-- THE NUMBERS OF ALL NODES ADD UP TO FOUR TIMES AS MANY. -/
theorem four_all (es : List E2) (n k : Nat) (hk : k < 11) : sumN (fun v => (nodS es n (v : Int)).getD k 0) n = 4 * (indS es n).getD k 0 := by
  have e : ∀ v, v < n → (nodS es n (v : Int)).getD k 0 = cntK k (kA es (phiN (v : Int)) n) := by
    intro v _
    rw [List.getD_eq_getElem?_getD, nodS, cntV_get _ _ hk]; rfl
  rw [sumN_congr _ _ n e, four_A es k n n (Nat.le_refl _), List.getD_eq_getElem?_getD, indS, cntV_get _ _ hk]
  rfl

/-- the sum of the first k numbers -/
def totS (l : List Int) : Nat → Int
  | 0 => 0
  | k + 1 => totS l k + l.getD k 0
theorem ch_one : ∀ n, chS n 1 = n := by
  intro n
  induction n with
  | zero => rfl
  | succ n ih => rw [chS, chS_zero, ih]; omega
theorem len_D (es : List E2) (a b c : Nat) : ∀ d, (kD es allS a b c d).length = d := by
  intro d
  induction d with
  | zero => rfl
  | succ d ih => rw [kD_succ, List.length_append, ih]; rfl
theorem len_C (es : List E2) (a b : Nat) : ∀ c, (kC es allS a b c).length = chS c 2 := by
  intro c
  induction c with
  | zero => rfl
  | succ c ih => rw [kC_succ, List.length_append, ih, len_D]; show _ = chS c 1 + chS c 2; rw [ch_one]; omega
theorem len_B (es : List E2) (a : Nat) : ∀ b, (kB es allS a b).length = chS b 3 := by
  intro b
  induction b with
  | zero => rfl
  | succ b ih => rw [kB_succ, List.length_append, ih, len_C]; show _ = chS b 2 + chS b 3; omega
theorem len_A (es : List E2) : ∀ a, (kA es allS a).length = chS a 4 := by
  intro a
  induction a with
  | zero => rfl
  | succ a ih => rw [kA_succ, List.length_append, ih, len_B]; show _ = chS a 3 + chS a 4; omega
theorem tot_cnt : ∀ (K : List Int), (∀ x ∈ K, 0 ≤ x ∧ x < 11) → totS (cntV K) 11 = K.length := by
  intro K
  have ex : ∀ K : List Int, totS (cntV K) 11 = cntK 0 K + cntK 1 K + cntK 2 K + cntK 3 K + cntK 4 K + cntK 5 K + cntK 6 K + cntK 7 K + cntK 8 K + cntK 9 K + cntK 10 K := by
    intro K
    have g : ∀ k, k < 11 → (cntV K).getD k 0 = cntK k K := fun k hk => by rw [List.getD_eq_getElem?_getD, cntV_get _ _ hk]; rfl
    simp only [totS]
    rw [g 0 (by omega), g 1 (by omega), g 2 (by omega), g 3 (by omega), g 4 (by omega), g 5 (by omega), g 6 (by omega), g 7 (by omega), g 8 (by omega), g 9 (by omega), g 10 (by omega)]
    omega
  induction K with
  | nil => intro _; rw [ex]; rfl
  | cons x K ih =>
    intro h
    have h1 := ih (fun y hy => h y (List.mem_cons_of_mem _ hy))
    have hx := h x (List.mem_cons_self)
    rw [ex] at h1 ⊢
    have hc : ∀ k, cntK k (x :: K) = cntK k [x] + cntK k K := fun k => cntK_append k [x] K
    simp only [hc, List.length_cons]
    have hx1 : cntK 0 [x] + cntK 1 [x] + cntK 2 [x] + cntK 3 [x] + cntK 4 [x] + cntK 5 [x] + cntK 6 [x] + cntK 7 [x] + cntK 8 [x] + cntK 9 [x] + cntK 10 [x] = 1 := by
      rcases (by omega : x = 0 ∨ x = 1 ∨ x = 2 ∨ x = 3 ∨ x = 4 ∨ x = 5 ∨ x = 6 ∨ x = 7 ∨ x = 8 ∨ x = 9 ∨ x = 10) with rfl | rfl | rfl | rfl | rfl | rfl | rfl | rfl | rfl | rfl | rfl <;> rfl
    omega
theorem kinds_bd (es : List E2) (φ : Nat → Nat → Nat → Nat → Bool) (n : Nat) : ∀ x ∈ kA es φ n, 0 ≤ x ∧ x < 11 := by
  intro x hx
  simp only [kA, kB, kC, kD, List.mem_flatMap] at hx
  obtain ⟨a, _, b, _, c, _, d, _, h⟩ := hx
  split at h
  · simp only [List.mem_singleton] at h
    rw [h]; exact ofKS_bd es _ _ _ _
  · cases h
/-- ALL SETS ARE COUNTED. -/
theorem tot_all (es : List E2) (n : Nat) : totS (indS es n) 11 = chS n 4 := by
  rw [indS, tot_cnt _ (kinds_bd es _ n)]
  exact congrArg Int.ofNat (len_A es n)
theorem nodS_bd (es : List E2) (n : Nat) (v : Int) (hn : n ≤ 64) (k : Nat) : 0 ≤ (nodS es n v).getD k 0 ∧ (nodS es n v).getD k 0 ≤ 16777216 := by
  rw [List.getD_eq_getElem?_getD]
  by_cases hk : k < 11
  · unfold nodS
    rw [cntV_get _ _ hk]
    have := cnt_bd (kA es (phiN v) n) k
    have := kA_le es (phiN v) n hn
    simp only [Option.getD_some]; omega
  · rw [List.getElem?_eq_none (by rw [nodS_length]; omega)]; simp
theorem sumN_bd (f : Nat → Int) (B : Int) : ∀ N : Nat, (∀ v, v < N → 0 ≤ f v ∧ f v ≤ B) → 0 ≤ sumN f N ∧ sumN f N ≤ N * B := by
  intro N
  induction N with
  | zero => intro _; simp [sumN]
  | succ N ih =>
    intro h
    have h1 := ih (fun v hv => h v (by omega))
    have h2 := h N (by omega)
    simp only [sumN]
    rw [Int.natCast_add, Int.add_mul]
    omega
theorem totS_bd (l : List Int) (B : Int) (h : ∀ k, 0 ≤ l.getD k 0 ∧ l.getD k 0 ≤ B) : ∀ N : Nat, 0 ≤ totS l N ∧ totS l N ≤ N * B := by
  intro N
  induction N with
  | zero => simp [totS]
  | succ N ih =>
    have h2 := h N
    simp only [totS]
    rw [Int.natCast_add, Int.add_mul]
    omega
end Go.Proofs.YtdiackininlmeaaDoor
