/- In plain words: the triangles that are counted by groups are all triangles (under way). -/
import Derived.Test.YtdkmdcdoiaelfaaExRdsP
import Derived.Test.YtdkmdcdoiaelfaaExAwk
import Derived.Test.YtdkmdcdoiaelfaaSumR
namespace Go.Proofs.Ytdkmdcdoiaelfaa
open Go.RowKit

theorem sumQ_none (f : Nat → Nat) (a : Nat) : ∀ n, (∀ y, a ≤ y → y < a + n → f y = 0) → sumQ f a n = 0
  | 0, _ => rfl
  | n + 1, h => by rw [sumQ_step, sumQ_none f a n (fun y h1 h2 => h y h1 (by omega)), h (a + n) (by omega) (by omega)]
theorem sumQ_single (f : Nat → Nat) (a x : Nat) : ∀ n, a ≤ x → x < a + n → (∀ y, y ≠ x → f y = 0) → sumQ f a n = f x
  | 0, h1, h2, _ => by omega
  | n + 1, h1, h2, h3 => by
    rw [sumQ_step]
    by_cases h : x = a + n
    · rw [sumQ_none f a n (fun y _ h5 => h3 y (by omega)), h, Nat.zero_add]
    · rw [sumQ_single f a x n h1 (by omega) h3, h3 (a + n) (fun e => h e.symm), Nat.add_zero]
/-- of all groups in order, one alone counts -/
theorem cube_single {F : Nat → Nat → Nat → Nat} {g p q r : Nat} (h1 : p ≤ q) (h2 : q ≤ r) (h3 : r < g) (h0 : ∀ i j k, ¬ (i = p ∧ j = q ∧ k = r) → F i j k = 0) : cubeR F g = F p q r := by
  have hJ : ∀ i j, ¬ (i = p ∧ j = q) → cubeJ F g i j = 0 := fun i j h => sumQ_none _ _ _ fun k _ _ => h0 i j k fun e => h ⟨e.1, e.2.1⟩
  have hI : ∀ i, i ≠ p → cubeI F g i = 0 := fun i h => sumQ_none _ _ _ fun j _ _ => hJ i j fun e => h e.1
  unfold cubeR
  rw [sumQ_single _ 0 p g (Nat.zero_le _) (by omega) (fun i hi => hI i hi)]
  unfold cubeI
  rw [sumQ_single _ p q (g - p) h1 (by omega) (fun j hj => hJ p j fun e => hj e.2)]
  unfold cubeJ
  rw [sumQ_single _ q r (g - q) h2 (by omega) (fun k hk => h0 p q k fun e => hk e.2.2)]
theorem cube_list {α : Type} (l : List α) (F : α → Nat → Nat → Nat → Nat) (g : Nat) : cubeR (fun i j k => (l.map fun x => F x i j k).sum) g = (l.map fun x => cubeR (F x) g).sum := by
  induction l with
  | nil => exact cubeR_zero g
  | cons x l ih =>
    simp only [List.map_cons, List.sum_cons]
    rw [cubeR_add, ih]
/-- the third node makes a triangle, whatever the groups -/
def thirdB (rs : List E2) (x : E2) (w : Int) : Bool := !decide (w < x.2) && decide (w ∈ rowR rs x.1.toNat)
def triG (rs : List E2) (g : Nat) (x : E2) (w : Int) (i j k : Nat) : Nat := if thirdB rs x w = true ∧ sort3 (x.1.tmod g) (x.2.tmod g) (w.tmod g) = [(i : Int), (j : Int), (k : Int)] then 1 else 0
theorem sort3_mem {a b c : Int} {i j k : Nat} (h : sort3 a b c = [(i : Int), (j : Int), (k : Int)]) : ∀ v : Int, v = a ∨ v = b ∨ v = c → v = i ∨ v = j ∨ v = k := by
  intro v hv
  unfold sort3 at h
  split at h <;> split at h <;> (try split at h) <;> (simp only [List.cons.injEq, and_true] at h; omega)
theorem inG_of {v : Int} {g i j k : Nat} (h : v.tmod g = i ∨ v.tmod g = j ∨ v.tmod g = k) : inG g i j k v = true := by
  unfold inG
  rcases h with h | h | h <;> simp [h]
theorem rowR_in (rs : List E2) (v : Nat) (w : Int) : w ∈ rowR rs v ↔ ((v : Int), w) ∈ rs := by
  unfold rowR
  rw [List.mem_map]
  constructor
  · rintro ⟨e, he, rfl⟩
    have h1 := List.mem_filter.1 he
    have h2 : e.1 = (v : Int) := by simpa using h1.2
    rw [← h2]; exact h1.1
  · intro h
    exact ⟨_, List.mem_filter.2 ⟨h, by simp⟩, rfl⟩
theorem map_zero {α : Type} (l : List α) (f : α → Nat) (h : ∀ x ∈ l, f x = 0) : (l.map f).sum = 0 := by
  induction l with
  | nil => rfl
  | cons x l ih => rw [List.map_cons, List.sum_cons, h x List.mem_cons_self, ih (fun y hy => h y (List.mem_cons_of_mem _ hy))]
theorem triF_sum (rs : List E2) (g i j k : Nat) (hr : ∀ e ∈ rs, 0 ≤ e.1 ∧ 0 ≤ e.2) : triF rs g i j k = (rs.map fun x => if x.2 < x.1 then 0 else ((rowR rs x.2.toNat).map fun w => triG rs g x w i j k).sum).sum := by
  unfold triF amN
  have hP : partX rs g i j k = rs.filter fun e => inG g i j k e.1 && inG g i j k e.2 := rfl
  obtain ⟨P, hPP⟩ : ∃ P, partX rs g i j k = P := ⟨_, rfl⟩
  have e1 : ((partX rs g i j k).map (amX P g [(i : Int), (j : Int), (k : Int)])).sum = (rs.map fun x => if (inG g i j k x.1 && inG g i j k x.2) = true then amX P g [(i : Int), (j : Int), (k : Int)] x else 0).sum := by rw [hP, sum_filter]
  rw [hPP] at e1 ⊢
  rw [e1]
  congr 1
  refine List.map_congr_left fun x hx => ?_
  obtain ⟨hx0, hx1⟩ := hr x hx
  have hin : ∀ w, w ∈ rowR P x.1.toNat ↔ (x.1, w) ∈ rs ∧ (inG g i j k x.1 && inG g i j k w) = true := fun w => by
    rw [rowR_in, ← hPP, hP, List.mem_filter, Int.toNat_of_nonneg hx0]
  have hin2 : ∀ w, w ∈ rowR rs x.1.toNat ↔ (x.1, w) ∈ rs := fun w => by rw [rowR_in, Int.toNat_of_nonneg hx0]
  by_cases hG : (inG g i j k x.1 && inG g i j k x.2) = true
  · rw [if_pos hG]
    unfold amX
    by_cases hlt : x.2 < x.1
    · rw [if_pos hlt, if_pos hlt]
    · rw [if_neg hlt, if_neg hlt]
      have e2 : rowR P x.2.toNat = ((rs.filter fun e => inG g i j k e.1 && inG g i j k e.2).filter fun e => decide (e.1 = ((x.2.toNat : Nat) : Int))).map Prod.snd := by rw [← hPP, hP]; rfl
      have e3 : rowR rs x.2.toNat = (rs.filter fun e => decide (e.1 = ((x.2.toNat : Nat) : Int))).map Prod.snd := rfl
      rw [e2, e3, countP_sum, List.map_map, List.map_map, sum_filter, sum_filter, sum_filter]
      congr 1
      refine List.map_congr_left fun e he => ?_
      simp only [Function.comp]
      by_cases hq : e.1 = ((x.2.toNat : Nat) : Int)
      · have hqd : decide (e.1 = ((x.2.toNat : Nat) : Int)) = true := decide_eq_true hq
        have hq2 : e.1 = x.2 := by rw [hq, Int.toNat_of_nonneg hx1]
        rw [if_pos hqd, if_pos hqd]
        by_cases hs : sort3 (x.1.tmod g) (x.2.tmod g) (e.2.tmod g) = [(i : Int), (j : Int), (k : Int)]
        · have m1 := inG_of (sort3_mem hs _ (.inl rfl))
          have m2 := inG_of (sort3_mem hs _ (.inr (.inl rfl)))
          have m3 := inG_of (sort3_mem hs _ (.inr (.inr rfl)))
          rw [if_pos (show (inG g i j k e.1 && inG g i j k e.2) = true by rw [hq2, m2, m3]; rfl)]
          unfold triG thirdB
          rw [amW_3]
          unfold amW3
          simp only [hin, hin2, m1, m3, hs, Bool.and_self, and_true, decide_true, Bool.and_true]
        · have hz : amW P g [(i : Int), (j : Int), (k : Int)] x e.2 = false := by rw [amW_3]; unfold amW3; simp [hs]
          unfold triG
          simp [hz, hs]
      · have hqd : ¬ (decide (e.1 = ((x.2.toNat : Nat) : Int)) = true) := fun h => hq (of_decide_eq_true h)
        rw [if_neg hqd, if_neg hqd]
        split <;> rfl
  · rw [if_neg hG]
    by_cases hlt : x.2 < x.1
    · rw [if_pos hlt]
    · rw [if_neg hlt]
      refine (map_zero _ _ fun w _ => ?_).symm
      unfold triG
      rw [if_neg]
      rintro ⟨-, hs⟩
      refine hG ?_
      rw [inG_of (sort3_mem hs _ (.inl rfl)), inG_of (sort3_mem hs _ (.inr (.inl rfl)))]
      rfl
theorem sort3_nat (a b c : Nat) : ∃ p q r : Nat, sort3 (a : Int) (b : Int) (c : Int) = [(p : Int), (q : Int), (r : Int)] ∧ p ≤ q ∧ q ≤ r ∧ (r = a ∨ r = b ∨ r = c) := by
  unfold sort3
  split <;> split <;> (try split)
  · exact ⟨a, b, c, rfl, by omega, by omega, by omega⟩
  · exact ⟨a, c, b, rfl, by omega, by omega, by omega⟩
  · exact ⟨c, a, b, rfl, by omega, by omega, by omega⟩
  · exact ⟨b, a, c, rfl, by omega, by omega, by omega⟩
  · exact ⟨b, c, a, rfl, by omega, by omega, by omega⟩
  · exact ⟨c, b, a, rfl, by omega, by omega, by omega⟩
theorem triG_cube (rs : List E2) (g : Nat) (hg : 1 ≤ g) (x : E2) (w : Int) (h1 : 0 ≤ x.1) (h2 : 0 ≤ x.2) (h3 : 0 ≤ w) : cubeR (triG rs g x w) g = if thirdB rs x w = true then 1 else 0 := by
  by_cases ht : thirdB rs x w = true
  · rw [if_pos ht]
    obtain ⟨p, q, r, hs, hpq, hqr, hr⟩ := sort3_nat (x.1.toNat % g) (x.2.toNat % g) (w.toNat % g)
    have hm := Nat.mod_lt x.1.toNat hg
    have hm2 := Nat.mod_lt x.2.toNat hg
    have hm3 := Nat.mod_lt w.toNat hg
    rw [cube_single hpq hqr (by omega) (fun i j k h => ?_)]
    · unfold triG
      rw [tmod_nat h1, tmod_nat h2, tmod_nat h3, hs, if_pos ⟨ht, rfl⟩]
    · unfold triG
      rw [tmod_nat h1, tmod_nat h2, tmod_nat h3, hs, if_neg]
      rintro ⟨-, e⟩
      simp only [List.cons.injEq, and_true] at e
      exact h (by omega)
  · rw [if_neg ht, show triG rs g x w = fun _ _ _ => 0 from funext fun i => funext fun j => funext fun k => by unfold triG; rw [if_neg (fun h => ht h.1)], cubeR_zero]
/-- all groups together: all triangles, each once -/
theorem tri_all (rs : List E2) (g : Nat) (hg : 1 ≤ g) (hr : ∀ e ∈ rs, 0 ≤ e.1 ∧ 0 ≤ e.2) : cubeR (triF rs g) g = (rs.map fun x => if x.2 < x.1 then 0 else (rowR rs x.2.toNat).countP (thirdB rs x)).sum := by
  rw [show triF rs g = fun i j k => (rs.map fun x => (fun i j k => if x.2 < x.1 then 0 else ((rowR rs x.2.toNat).map fun w => triG rs g x w i j k).sum) i j k).sum from funext fun i => funext fun j => funext fun k => triF_sum rs g i j k hr, cube_list]
  congr 1
  refine List.map_congr_left fun x hx => ?_
  obtain ⟨h1, h2⟩ := hr x hx
  by_cases hlt : x.2 < x.1
  · simp only [hlt, if_true]
    exact cubeR_zero g
  · simp only [hlt, if_false]
    rw [cube_list, countP_sum]
    congr 1
    refine List.map_congr_left fun w hw => ?_
    exact triG_cube rs g hg x w h1 h2 (hr _ ((rowR_in rs _ w).1 hw)).2
/-- one group reads every record once -/
theorem wantL_one (rs : List E2) : wantL 1 rs = rs.length := by
  induction rs with
  | nil => rfl
  | cons e rs ih =>
    have h : wantE 1 e = 1 := by unfold wantE; simp
    unfold wantL at ih ⊢
    rw [List.map_cons, List.sum_cons, ih, h, List.length_cons, Nat.add_comm]
end Go.Proofs.Ytdkmdcdoiaelfaa
