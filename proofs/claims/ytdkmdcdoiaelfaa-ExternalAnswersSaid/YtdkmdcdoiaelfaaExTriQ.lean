/- In plain words: three times the triangles that are counted by groups is the sum of the common neighbours of the ends of all edges. -/
import Derived.Test.YtdkmdcdoiaelfaaExTriP
namespace Go.Proofs.Ytdkmdcdoiaelfaa
open Go.RowKit

theorem sum_nb (es : List E2) (n i : Nat) (F : Nat → Nat) : ((nbL es n i).map F).sum = sumR n fun j => if adjB es i j = true then F j else 0 := by
  unfold nbL
  rw [sum_filter, sum_range]
theorem sum_rec (es : List E2) (n : Nat) (F : E2 → Nat) : ((recN es n).map F).sum = sumR n fun i => sumR n fun j => if adjB es i j = true then F ((i : Int), (j : Int)) else 0 := by
  unfold recN
  rw [sum_flat, sum_range]
  refine sumR_congr n fun i _ => ?_
  rw [List.map_map, sum_nb]
  rfl
/-- three nodes in order that are joined -/
def ttN (es : List E2) (a b c : Nat) : Nat := if (adjB es a b = true ∧ adjB es a c = true ∧ adjB es b c = true) ∧ a < b ∧ b < c then 1 else 0
def ttAll (es : List E2) (n : Nat) : Nat := sumR n fun a => sumR n fun b => sumR n fun c => ttN es a b c
theorem len_cm (es : List E2) (n u v : Nat) : (cmL es n u v).length = sumR n fun w => if (adjB es u w && adjB es v w) = true then 1 else 0 := by
  unfold cmL
  rw [← sum_range, ← countP_sum, List.countP_eq_length_filter]
theorem row_nb (es : List E2) (n i : Nat) (hi : i < n) : rowR (recN es n) i = (nbL es n i).map fun (j : Nat) => (j : Int) := recN_row es n i hi
theorem row_nb_mem {es : List E2} {n i w : Nat} (hi : i < n) (hw : w < n) : ((w : Int) ∈ rowR (recN es n) i) ↔ adjB es i w = true := by
  rw [row_nb es n i hi, List.mem_map]
  constructor
  · rintro ⟨j, hj, e⟩
    obtain rfl : j = w := by omega
    exact (List.mem_filter.1 hj).2
  · intro h
    exact ⟨w, List.mem_filter.2 ⟨List.mem_range.2 hw, h⟩, rfl⟩
theorem cnt_row (es : List E2) (n j : Nat) (hj : j < n) (p : Int → Bool) : (rowR (recN es n) j).countP p = sumR n fun w => if adjB es j w = true then (if p (w : Int) = true then 1 else 0) else 0 := by
  rw [row_nb es n j hj, List.countP_map, countP_sum, sum_nb]
  rfl
/-- the triangles by records -/
theorem tri_rec {n : Nat} {es : List E2} (hv : Valid n es) : ((recN es n).map fun x => if x.2 < x.1 then 0 else (rowR (recN es n) x.2.toNat).countP (thirdB (recN es n) x)).sum = ttAll es n := by
  rw [sum_rec]
  refine sumR_congr n fun i hi => sumR_congr n fun j hj => ?_
  dsimp only
  rw [Int.toNat_natCast]
  by_cases h1 : adjB es i j = true
  · rw [if_pos h1]
    by_cases h2 : (j : Int) < (i : Int)
    · rw [if_pos h2]
      symm
      rw [sumR_congr n (fun c _ => show ttN es i j c = 0 by unfold ttN; rw [if_neg (by omega)]), sumR_zero]
    · rw [if_neg h2, cnt_row es n j hj]
      refine sumR_congr n fun c hc => ?_
      have hij : i ≠ j := fun e => by rw [e, adj_irrefl hv] at h1; cases h1
      have ht : thirdB (recN es n) ((i : Int), (j : Int)) (c : Int) = true ↔ j ≤ c ∧ adjB es i c = true := by
        unfold thirdB
        dsimp only
        rw [Int.toNat_natCast, Bool.and_eq_true, decide_eq_true_eq, row_nb_mem hi hc]
        simp
      have hjc : adjB es j c = true → j ≠ c := fun h e => by rw [e, adj_irrefl hv] at h; cases h
      unfold ttN
      by_cases h3 : adjB es j c = true
      · have := hjc h3
        rw [if_pos h3]
        by_cases h4 : thirdB (recN es n) ((i : Int), (j : Int)) (c : Int) = true
        · rw [if_pos h4, if_pos]
          have := ht.1 h4
          exact ⟨⟨h1, this.2, h3⟩, by omega, by omega⟩
        · rw [if_neg h4, if_neg]
          rintro ⟨⟨_, h5, _⟩, h6⟩
          exact h4 (ht.2 ⟨by omega, h5⟩)
      · rw [if_neg h3, if_neg (fun h => h3 h.1.2.2)]
  · rw [if_neg h1]
    symm
    rw [sumR_congr n (fun c _ => show ttN es i j c = 0 by unfold ttN; rw [if_neg (fun h => h1 h.1.1)]), sumR_zero]
theorem sum3_add (n : Nat) (f g h : Nat → Nat → Nat → Nat) : (sumR n fun i => sumR n fun j => sumR n fun w => f i j w + g i j w + h i j w) = (sumR n fun i => sumR n fun j => sumR n fun w => f i j w) + (sumR n fun i => sumR n fun j => sumR n fun w => g i j w) + (sumR n fun i => sumR n fun j => sumR n fun w => h i j w) := by
  simp only [sumR_add]
/-- the common neighbours of the ends of all edges -/
theorem tri_cm {n : Nat} {es : List E2} (hv : Valid n es) : (es.map fun e => (cmL es n e.1.toNat e.2.toNat).length).sum = 3 * ttAll es n := by
  have e0 : (es.map fun e => (cmL es n e.1.toNat e.2.toNat).length).sum = (((recN es n).filter fun e => decide (e.1 < e.2)).map fun e => (cmL es n e.1.toNat e.2.toNat).length).sum := by rw [recN_up hv]
  rw [e0, sum_filter, sum_rec]
  have e1 : (sumR n fun i => sumR n fun j => if adjB es i j = true then (if decide ((i : Int) < (j : Int)) = true then (cmL es n (i : Int).toNat (j : Int).toNat).length else 0) else 0) = sumR n fun i => sumR n fun j => sumR n fun w => ttN es w i j + ttN es i w j + ttN es i j w := by
    refine sumR_congr n fun i hi => sumR_congr n fun j hj => ?_
    rw [Int.toNat_natCast, Int.toNat_natCast]
    have hz : ∀ h : ¬ (adjB es i j = true ∧ i < j), 0 = sumR n fun w => ttN es w i j + ttN es i w j + ttN es i j w := fun h => by
      symm
      rw [sumR_congr n (fun w _ => show ttN es w i j + ttN es i w j + ttN es i j w = 0 by
        unfold ttN
        rw [if_neg (fun q => h ⟨q.1.2.2, q.2.2⟩), if_neg (fun q => h ⟨q.1.2.1, by omega⟩), if_neg (fun q => h ⟨q.1.1, q.2.1⟩)]), sumR_zero]
    by_cases h1 : adjB es i j = true
    · rw [if_pos h1]
      by_cases h2 : i < j
      · rw [if_pos (decide_eq_true (by omega)), len_cm]
        refine sumR_congr n fun w hw => ?_
        have hiw : adjB es i w = true → i ≠ w := fun h e => by rw [e, adj_irrefl hv] at h; cases h
        have hjw : adjB es j w = true → j ≠ w := fun h e => by rw [e, adj_irrefl hv] at h; cases h
        unfold ttN
        rw [adj_comm es w i, adj_comm es w j]
        by_cases h3 : adjB es i w = true
        · by_cases h4 : adjB es j w = true
          · have := hiw h3
            have := hjw h4
            have hs : (adjB es i w && adjB es j w) = true := by rw [h3, h4]; rfl
            rw [if_pos hs]
            rcases Nat.lt_or_ge w i with h5 | h5
            · rw [if_pos ⟨⟨h3, h4, h1⟩, h5, h2⟩, if_neg (by omega), if_neg (by omega)]
            · rcases Nat.lt_or_ge w j with h6 | h6
              · rw [if_neg (by omega), if_pos ⟨⟨h3, h1, h4⟩, by omega, h6⟩, if_neg (by omega)]
              · rw [if_neg (by omega), if_neg (by omega), if_pos ⟨⟨h1, h3, h4⟩, h2, by omega⟩]
          · rw [if_neg (by simp [h4]), if_neg (fun q => h4 q.1.2.1), if_neg (fun q => h4 q.1.2.2), if_neg (fun q => h4 q.1.2.2)]
        · rw [if_neg (by simp [h3]), if_neg (fun q => h3 q.1.1), if_neg (fun q => h3 q.1.1), if_neg (fun q => h3 q.1.2.1)]
      · rw [if_neg (by simpa using (by omega : (j : Int) ≤ i))]
        exact hz fun h => h2 h.2
    · rw [if_neg h1]
      exact hz fun h => h1 h.1
  rw [e1, sum3_add]
  have s1 : (sumR n fun i => sumR n fun j => sumR n fun w => ttN es w i j) = ttAll es n := by
    rw [sumR_congr n (fun i _ => sumR_comm (fun j w => ttN es w i j) n n), sumR_comm (fun i w => sumR n fun j => ttN es w i j) n n]
    rfl
  have s2 : (sumR n fun i => sumR n fun j => sumR n fun w => ttN es i w j) = ttAll es n := by
    rw [sumR_congr n (fun i _ => sumR_comm (fun j w => ttN es i w j) n n)]
    rfl
  rw [s1, s2]
  show _ + _ + ttAll es n = _
  omega
theorem tri_len {n : Nat} {es : List E2} (hv : Valid n es) : ((es.flatMap fun e => cmL es n e.1.toNat e.2.toNat).length) = 3 * ttAll es n := by
  rw [List.length_flatMap, tri_cm hv]
/-- what Triangles answers, for any groups -/
theorem tri_cube {n : Nat} {es : List E2} (hv : Valid n es) (g : Nat) (hg : 1 ≤ g) : cubeR (triF (recN es n) g) g = ttAll es n := by
  rw [tri_all _ g hg (fun e he => by have := (recOk_iff e).1 (recN_ok hv e he).1; omega), tri_rec hv]
/-- what Supports answers for an edge -/
theorem sup_cm (es : List E2) (n u v : Nat) (hu : u < n) (hvn : v < n) : (rowR (recN es n) u).countP (fun w => decide (w ∈ rowR (recN es n) v)) = (cmL es n u v).length := by
  rw [cnt_row es n u hu, len_cm]
  refine sumR_congr n fun w hw => ?_
  have hd : decide ((w : Int) ∈ rowR (recN es n) v) = adjB es v w := by rw [Bool.eq_iff_iff, decide_eq_true_eq, row_nb_mem hvn hw]
  rw [hd]
  cases adjB es u w <;> cases adjB es v w <;> rfl
end Go.Proofs.Ytdkmdcdoiaelfaa
