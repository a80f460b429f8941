/- Plain: passes by the h-index lead to the core numbers. -/
import Derived.Test.YtdkmdcdoiaelfaaGreatHIdx
import Derived.Test.YtdkmdcdoiaelfaaGreatRunGr
import Derived.Test.YtdkmdcdoiaelfaaGreatCoreP
namespace Go.Proofs.YtdkmdcdoiaelfaaGreat
open Go.RowKit Go.BigFrame

theorem range_get {α : Type} (f : Nat → α) (n v : Nat) (h : v < n) : ((List.range n).map f)[v]? = some (f v) := by
  rw [List.getElem?_map, List.getElem?_range h]; rfl
theorem getD_of {x : List Int} {v : Nat} {y : Int} (h : x[v]? = some y) : x.getD v 0 = y := by rw [List.getD_eq_getElem?_getD, h]; rfl
theorem get_of_getD {x : List Int} {v : Nat} (h : v < x.length) : x[v]? = some (x.getD v 0) := by
  rw [List.getD_eq_getElem?_getD, List.getElem?_eq_getElem h]; rfl
theorem list_ext_D {x y : List Int} {n : Nat} (hx : x.length = n) (hy : y.length = n) (h : ∀ v, v < n → x.getD v 0 = y.getD v 0) : x = y := by
  apply List.ext_getElem?
  intro v
  by_cases hv : v < n
  · rw [get_of_getD (by omega), get_of_getD (by omega), h v hv]
  · rw [List.getElem?_eq_none (by omega), List.getElem?_eq_none (by omega)]
theorem cnt_nb (es : List E2) (n : Nat) (x : Nat → Int) (v k : Nat) : cntGe ((nbL es n v).map x) k = dgS es n (fun w => decide ((k : Int) ≤ x w)) v := by
  unfold cntGe dgS nbL
  rw [List.countP_map, List.countP_filter, List.countP_eq_length_filter]
  congr 1
  refine List.filter_congr fun w _ => ?_
  simp only [Function.comp_apply]
  rw [Bool.and_comm]
theorem dgS_mono {es : List E2} {n : Nat} {S T : Nat → Bool} {v : Nat} (h : ∀ x, x < n → S x = true → T x = true) : dgS es n S v ≤ dgS es n T v := by
  unfold dgS
  refine filter_le_of _ _ _ fun x hx hp => ?_
  rw [Bool.and_eq_true] at hp ⊢
  exact ⟨hp.1, h x (List.mem_range.1 hx) hp.2⟩
def sumR : Nat → (Nat → Nat) → Nat
  | 0, _ => 0
  | n + 1, f => sumR n f + f n
theorem sumR_le {f g : Nat → Nat} : ∀ n, (∀ v, v < n → f v ≤ g v) → sumR n f ≤ sumR n g
  | 0, _ => Nat.le_refl _
  | n + 1, h => Nat.add_le_add (sumR_le n fun v hv => h v (by omega)) (h n (by omega))
theorem sumR_lt {f g : Nat → Nat} {u : Nat} : ∀ n, u < n → (∀ v, v < n → f v ≤ g v) → f u < g u → sumR n f + 1 ≤ sumR n g
  | 0, hu, _, _ => by omega
  | n + 1, hu, h, hl => by
    unfold sumR
    by_cases e : u = n
    · subst e
      have := sumR_le u fun v hv => h v (by omega)
      omega
    · have := sumR_lt n (by omega) (fun v hv => h v (by omega)) hl
      have := h n (by omega)
      omega
theorem sumR_const (c : Nat) : ∀ n, sumR n (fun _ => c) = n * c
  | 0 => by simp [sumR]
  | n + 1 => by unfold sumR; rw [sumR_const c n, Nat.succ_mul]
/-- the degrees -/
def degL (es : List E2) (n : Nat) : List Int := (List.range n).map fun v => ((nbL es n v).length : Int)
theorem degL_getD (es : List E2) (n v : Nat) (h : v < n) : (degL es n).getD v 0 = ((nbL es n v).length : Int) := getD_of (range_get _ n v h)
theorem nb_lt {n : Nat} {es : List E2} (hv : Valid n es) (v : Nat) (h : v < n) : (nbL es n v).length + 1 ≤ n := by
  have := dg_lt hv (fun _ => true) v h
  unfold dgS at this
  simp only [Bool.and_true] at this
  exact this
theorem degL_ge {n : Nat} {es : List E2} (hv : Valid n es) : ∀ v, v < n → corF es n v ≤ (degL es n).getD v 0 := by
  intro v hvn
  rw [degL_getD es n v hvn]
  obtain ⟨k, hk⟩ := cor_nat es n v hvn
  obtain ⟨S, h1, h2, h3⟩ := (cor_core hv v k hvn).2 (by omega)
  have h4 := h1 v h3
  have h5 : dgS es n S v ≤ (nbL es n v).length := by
    unfold dgS nbL
    refine filter_le_of _ _ _ fun x _ hp => ?_
    rw [Bool.and_eq_true] at hp; exact hp.1
  omega
end Go.Proofs.YtdkmdcdoiaelfaaGreat
