/- The walk of the law that solving the copies gives the counts, and that the nodes' numbers add up. -/
import Derived.Test.YtekbpoppajbljaaDoorPatSolvesPlain
import Derived.Test.YtekbpoppajbljaaDoorPatTurns
namespace Go.Proofs.YtekbpoppajbljaaDoor
open Go.RowKit Go.BigFrame

/-- the sums: of the nodes before v, and of node v in the first k kinds -/
def sumV (F : Nat → Nat → Int) (v k : Nat) : List Int := (List.range 11).map fun (i : Nat) => if i < k then sumN (fun u => F u i) (v + 1) else sumN (fun u => F u i) v
theorem sumV_length (F : Nat → Nat → Int) (v k : Nat) : (sumV F v k).length = 11 := by simp [sumV]
theorem sumV_get (F : Nat → Nat → Int) (v k i : Nat) (hi : i < 11) : (sumV F v k)[i]? = some (if i < k then sumN (fun u => F u i) (v + 1) else sumN (fun u => F u i) v) := by simp [sumV, hi]
theorem sumV_zero (F : Nat → Nat → Int) : sumV F 0 0 = cntV [] := by
  apply List.ext_getElem?
  intro j
  by_cases hj : j < 11
  · rw [sumV_get _ _ _ _ hj, cntV_get _ _ hj, if_neg (by omega)]; simp [sumN]
  · rw [List.getElem?_eq_none (by rw [sumV_length]; omega), List.getElem?_eq_none (by rw [cntV_length]; omega)]
theorem sumV_next (F : Nat → Nat → Int) (v : Nat) : sumV F v 11 = sumV F (v + 1) 0 := by
  unfold sumV
  apply List.map_congr_left
  intro i hi
  have : i < 11 := List.mem_range.1 hi
  rw [if_pos this, if_neg (by omega)]
theorem sumV_step (F : Nat → Nat → Int) (v k : Nat) : (sumV F v k).set k (sumN (fun u => F u k) v + F v k) = sumV F v (k + 1) := by
  apply List.ext_getElem?
  intro j
  by_cases hj : j < 11
  · rw [List.getElem?_set, sumV_get _ _ _ _ hj, sumV_get _ _ _ _ hj, sumV_length]
    by_cases h : k = j
    · subst h; rw [if_pos rfl, if_pos hj, if_pos (by omega)]; rfl
    · rw [if_neg h]
      by_cases h1 : j < k
      · rw [if_pos h1, if_pos (by omega)]
      · rw [if_neg h1, if_neg (by omega)]
  · rw [List.getElem?_eq_none (by rw [List.length_set, sumV_length]; omega), List.getElem?_eq_none (by rw [sumV_length]; omega)]
theorem far_cop (x : List Int) (h : ∀ k, 0 ≤ x.getD k 0 ∧ x.getD k 0 ≤ 16777216) : (copS x).any farB = false := by
  rw [List.any_eq_false]
  intro y hy
  obtain ⟨i, hi, he⟩ := List.getElem_of_mem hy
  have hi' : i < 11 := by rw [copS, copV_length] at hi; exact hi
  have hc : (copS x).getD i 0 = y := by rw [List.getD_eq_getElem?_getD, List.getElem?_eq_getElem hi, he]; rfl
  rw [cop_get x i hi'] at hc
  have hb := dotS_bd i x h 11 (Nat.le_refl _)
  rw [hc] at hb
  simp [farB]
  omega

theorem copies_11 (n : Nat) (a : Option Addr) (cap : Nat) (es : List E2) (w : World) (he : EdgesAt w (.slice a es.length cap) es) (hv : Valid n es) (ht : TabsAt w) :
    Calls Tryd.prog 13 #[.agg #[.int .i64 n, .slice a es.length cap]] w fun e w' => ∃ a' cap', e = .returned (.tuple #[.slice a' 11 cap', .int .i64 0]) ∧ IntsAt w' (.slice a' 11 cap') (copS (indS es n)) ∧ Below w.heap.size w w' := by
  refine (copies_any n a cap es w he hv ht).mono ?_
  rintro e w' ⟨a', cap', rfl, hi, hb⟩
  have hl : (copS (indS es n)).length = 11 := copV_length _ _ _
  rw [hl] at hi ⊢
  exact ⟨_, _, rfl, hi, hb⟩
theorem induced_11 (n : Nat) (a : Option Addr) (cap : Nat) (es : List E2) (w : World) (he : EdgesAt w (.slice a es.length cap) es) (hv : Valid n es) (ht : TabsAt w) :
    Calls Tryd.prog 22 #[.agg #[.int .i64 n, .slice a es.length cap]] w fun e w' => ∃ a' cap', e = .returned (.tuple #[.slice a' 11 cap', .int .i64 0]) ∧ IntsAt w' (.slice a' 11 cap') (indS es n) ∧ Below w.heap.size w w' := by
  refine (induced_any n a cap es w he hv ht).mono ?_
  rintro e w' ⟨a', cap', rfl, hi, hb⟩
  rw [indS_length] at hi ⊢
  exact ⟨_, _, rfl, hi, hb⟩
theorem IntsAt.at11 {w : World} {a : Option Addr} {cap : Nat} {xs : List Int} (h : IntsAt w (.slice a 11 cap) xs) (hl : xs.length = 11) (k : Nat) (hk : k < 11) : ∃ b off, a = some ⟨b, off, none⟩ ∧ w.cell? ⟨b, off + k, none⟩ = some (.int .i64 (xs.getD k 0)) := by
  have h' : IntsAt w (.slice a xs.length cap) xs := by rw [hl]; exact h
  obtain ⟨b, off, y, ha, hy, _, _, hc⟩ := h'.at k (by omega)
  exact ⟨b, off, ha, by rw [hc, List.getD_eq_getElem?_getD, hy]; rfl⟩
theorem cmp_11 (a a2 : Option Addr) (cap cap2 : Nat) (xs : List Int) (w : World) (hl : xs.length = 11) (h1 : IntsAt w (.slice a 11 cap) xs) (h2 : IntsAt w (.slice a2 11 cap2) xs) :
    Calls Tryd.prog 18 #[.slice a 11 cap, .slice a2 11 cap2] w fun e w' => e = .returned (.int .i64 0) ∧ Below w.heap.size w w' := by
  have h := cmp_same a a2 cap cap2 xs w (by rw [hl]; exact h1) (by rw [hl]; exact h2)
  rw [hl] at h
  exact h

end Go.Proofs.YtekbpoppajbljaaDoor
