/- Plain: passes by the h-index lead to the core numbers. -/
import Derived.Test.YtdkmdcdoiaelfaaHIdx
import Derived.Test.YtdkmdcdoiaelfaaRunP
import Derived.Test.YtdkmdcdoiaelfaaCoreP
namespace Go.Proofs.Ytdkmdcdoiaelfaa
open Go.RowKit Go.BigFrame

/-- a pass -/
def passL (es : List E2) (n : Nat) (x : List Int) : List Int := (List.range n).map fun v => min (x.getD v 0) (hX ((nbL es n v).map fun w => x.getD w 0) : Int)
theorem passL_length (es : List E2) (n : Nat) (x : List Int) : (passL es n x).length = n := by simp [passL]
theorem range_get {α : Type} (f : Nat → α) (n v : Nat) (h : v < n) : ((List.range n).map f)[v]? = some (f v) := by
  rw [List.getElem?_map, List.getElem?_range h]; rfl
theorem getD_of {x : List Int} {v : Nat} {y : Int} (h : x[v]? = some y) : x.getD v 0 = y := by rw [List.getD_eq_getElem?_getD, h]; rfl
theorem get_of_getD {x : List Int} {v : Nat} (h : v < x.length) : x[v]? = some (x.getD v 0) := by
  rw [List.getD_eq_getElem?_getD, List.getElem?_eq_getElem h]; rfl
theorem passL_getD (es : List E2) (n : Nat) (x : List Int) (v : Nat) (h : v < n) : (passL es n x).getD v 0 = min (x.getD v 0) (hX ((nbL es n v).map fun w => x.getD w 0) : Int) := getD_of (range_get _ n v h)
theorem list_ext_D {x y : List Int} {n : Nat} (hx : x.length = n) (hy : y.length = n) (h : ∀ v, v < n → x.getD v 0 = y.getD v 0) : x = y := by
  apply List.ext_getElem?
  intro v
  by_cases hv : v < n
  · rw [get_of_getD (by omega), get_of_getD (by omega), h v hv]
  · rw [List.getElem?_eq_none (by omega), List.getElem?_eq_none (by omega)]
theorem cnt_nb (es : List E2) (n : Nat) (x : Nat → Int) (v k : Nat) : cntGe ((nbL es n v).map x) k = dgS es n (fun w => decide ((k : Int) ≤ x w)) v := by
  unfold cntGe dgS nbL
  rw [List.countP_map, List.countP_filter, List.countP_eq_length_filter]
  congr 1
  refine List.filter_congr fun w _ => ?_
  simp only [Function.comp_apply]
  rw [Bool.and_comm]
theorem dgS_mono {es : List E2} {n : Nat} {S T : Nat → Bool} {v : Nat} (h : ∀ x, x < n → S x = true → T x = true) : dgS es n S v ≤ dgS es n T v := by
  unfold dgS
  refine filter_le_of _ _ _ fun x hx hp => ?_
  rw [Bool.and_eq_true] at hp ⊢
  exact ⟨hp.1, h x (List.mem_range.1 hx) hp.2⟩
theorem pass_ge {n : Nat} {es : List E2} (hv : Valid n es) {x : List Int} (h : ∀ v, v < n → corF es n v ≤ x.getD v 0) : ∀ v, v < n → corF es n v ≤ (passL es n x).getD v 0 := by
  intro v hvn
  rw [passL_getD es n x v hvn]
  obtain ⟨k, hk⟩ := cor_nat es n v hvn
  obtain ⟨S, h1, h2, h3⟩ := (cor_core hv v k hvn).2 (by omega)
  have h4 : k ≤ hX ((nbL es n v).map fun w => x.getD w 0) := by
    rw [hX_iff, cnt_nb]
    refine Nat.le_trans (h1 v h3) (dgS_mono fun w hw hs => decide_eq_true ?_)
    have := (cor_core hv w k hw).1 ⟨S, h1, h2, hs⟩
    have := h w hw
    omega
  have := h v hvn
  omega
theorem pass_le (es : List E2) (n : Nat) (x : List Int) : ∀ v, v < n → (passL es n x).getD v 0 ≤ x.getD v 0 := by
  intro v hvn
  rw [passL_getD es n x v hvn]; omega
theorem pass_fix {n : Nat} {es : List E2} (hv : Valid n es) {x : List Int} (h : passL es n x = x) : ∀ v, v < n → x.getD v 0 ≤ corF es n v := by
  intro v hvn
  obtain ⟨c, hc⟩ := cor_nat es n v hvn
  by_cases h0 : x.getD v 0 ≤ 0
  · omega
  obtain ⟨k, hk⟩ := Int.eq_ofNat_of_zero_le (show 0 ≤ x.getD v 0 by omega)
  rw [hk]
  refine (cor_core hv v k hvn).1 ⟨fun w => decide (w < n ∧ (k : Int) ≤ x.getD w 0), fun w hw => ?_, fun w hw => (of_decide_eq_true hw).1, decide_eq_true ⟨hvn, by omega⟩⟩
  obtain ⟨hwn, hkw⟩ := of_decide_eq_true hw
  have e := passL_getD es n x w hwn
  rw [h] at e
  have h4 : k ≤ hX ((nbL es n w).map fun w => x.getD w 0) := by omega
  rw [hX_iff, cnt_nb] at h4
  refine Nat.le_trans h4 (dgS_mono fun y hy hs => decide_eq_true ⟨hy, of_decide_eq_true hs⟩)
def sumR : Nat → (Nat → Nat) → Nat
  | 0, _ => 0
  | n + 1, f => sumR n f + f n
theorem sumR_le {f g : Nat → Nat} : ∀ n, (∀ v, v < n → f v ≤ g v) → sumR n f ≤ sumR n g
  | 0, _ => Nat.le_refl _
  | n + 1, h => Nat.add_le_add (sumR_le n fun v hv => h v (by omega)) (h n (by omega))
theorem sumR_lt {f g : Nat → Nat} {u : Nat} : ∀ n, u < n → (∀ v, v < n → f v ≤ g v) → f u < g u → sumR n f + 1 ≤ sumR n g
  | 0, hu, _, _ => by omega
  | n + 1, hu, h, hl => by
    unfold sumR
    by_cases e : u = n
    · subst e
      have := sumR_le u fun v hv => h v (by omega)
      omega
    · have := sumR_lt n (by omega) (fun v hv => h v (by omega)) hl
      have := h n (by omega)
      omega
theorem sumR_const (c : Nat) : ∀ n, sumR n (fun _ => c) = n * c
  | 0 => by simp [sumR]
  | n + 1 => by unfold sumR; rw [sumR_const c n, Nat.succ_mul]
/-- how far values are from the core numbers -/
def sumD (es : List E2) (n : Nat) (x : List Int) : Nat := sumR n fun v => (x.getD v 0 - corF es n v).toNat
theorem pass_drop {n : Nat} {es : List E2} (hv : Valid n es) {x : List Int} (hl : x.length = n) (hge : ∀ v, v < n → corF es n v ≤ x.getD v 0) (hne : passL es n x ≠ x) : sumD es n (passL es n x) + 1 ≤ sumD es n x := by
  obtain ⟨u, hu, hlt⟩ : ∃ u, u < n ∧ (passL es n x).getD u 0 < x.getD u 0 := by
    refine Classical.byContradiction fun hc => hne (list_ext_D (passL_length es n x) hl fun v hvn => ?_)
    have h1 := pass_le es n x v hvn
    refine Classical.byContradiction fun h2 => hc ⟨v, hvn, by omega⟩
  unfold sumD
  have hp := pass_ge hv hge
  refine sumR_lt n hu (fun v hvn => ?_) ?_
  · have := pass_le es n x v hvn; omega
  · have := hp u hu; omega
theorem core_fix {n : Nat} {es : List E2} (hv : Valid n es) {x : List Int} (hl : x.length = n) (hge : ∀ v, v < n → corF es n v ≤ x.getD v 0) (h : passL es n x = x) : x = corT es n := by
  refine list_ext_D hl (corT_length es n) fun v hvn => ?_
  have h1 := pass_fix hv h v hvn
  have h2 := hge v hvn
  have h3 : (corT es n).getD v 0 = corF es n v := getD_of (fnL_get n _ v hvn)
  omega
/-- passes, one after the other -/
def itL (es : List E2) (n : Nat) (x : List Int) : Nat → List Int
  | 0 => x
  | i + 1 => passL es n (itL es n x i)
theorem itL_length (es : List E2) (n : Nat) (x : List Int) (hl : x.length = n) : ∀ i, (itL es n x i).length = n
  | 0 => hl
  | _ + 1 => passL_length _ _ _
theorem itL_ge {n : Nat} {es : List E2} (hv : Valid n es) {x : List Int} (h : ∀ v, v < n → corF es n v ≤ x.getD v 0) : ∀ i v, v < n → corF es n v ≤ (itL es n x i).getD v 0
  | 0 => h
  | i + 1 => pass_ge hv (itL_ge hv h i)
/-- behind enough passes: the core numbers -/
theorem itL_core {n : Nat} {es : List E2} (hv : Valid n es) : ∀ (m : Nat) (x : List Int), x.length = n → (∀ v, v < n → corF es n v ≤ x.getD v 0) → sumD es n x ≤ m → itL es n x m = corT es n := by
  have cf : ∀ x : List Int, x.length = n → (∀ v, v < n → corF es n v ≤ x.getD v 0) → sumD es n x = 0 → x = corT es n := fun x hl hge h0 => by
    refine core_fix hv hl hge (Classical.byContradiction fun hne => ?_)
    have := pass_drop hv hl hge hne
    omega
  have sh : ∀ (m : Nat) (x : List Int), itL es n x (m + 1) = itL es n (passL es n x) m := by
    intro m
    induction m with
    | zero => intro x; rfl
    | succ m ih => intro x; show passL es n (itL es n x (m + 1)) = _; rw [ih]; rfl
  intro m
  induction m with
  | zero => intro x hl hge h0; exact cf x hl hge (by omega)
  | succ m ih =>
    intro x hl hge hm
    rw [sh]
    refine ih _ (passL_length _ _ _) (pass_ge hv hge) ?_
    by_cases hne : passL es n x = x
    · rw [hne]
      have := core_fix hv hl hge hne
      have h0 : sumD es n x = 0 := by
        rw [this]
        unfold sumD
        have : sumR n (fun v => ((corT es n).getD v 0 - corF es n v).toNat) ≤ sumR n (fun _ => 0) := sumR_le n fun v hvn => by
          have h3 : (corT es n).getD v 0 = corF es n v := getD_of (fnL_get n _ v hvn)
          rw [h3]; omega
        rw [sumR_const] at this
        omega
      omega
    · have := pass_drop hv hl hge hne
      omega
/-- passes until nothing changes, at most f of them -/
def runP (es : List E2) (n : Nat) : Nat → List Int → Nat → List Int × Nat
  | 0, x, t => (x, t)
  | f + 1, x, t => if passL es n x = x then (x, t + 1) else runP es n f (passL es n x) (t + 1)
theorem runP_spec {n : Nat} {es : List E2} (hv : Valid n es) : ∀ (f : Nat) (x : List Int) (t : Nat), x.length = n → (∀ v, v < n → corF es n v ≤ x.getD v 0) → sumD es n x + 1 ≤ f →
    ∃ p, runP es n f x t = (corT es n, t + p) ∧ 1 ≤ p ∧ p ≤ sumD es n x + 1 ∧ itL es n x p = corT es n := by
  intro f
  induction f with
  | zero => intro x t _ _ h; omega
  | succ f ih =>
    intro x t hl hge hf
    unfold runP
    by_cases hne : passL es n x = x
    · rw [if_pos hne]
      have := core_fix hv hl hge hne
      refine ⟨1, by rw [this], Nat.le_refl _, by omega, ?_⟩
      show passL es n x = _
      rw [hne]; exact this
    · rw [if_neg hne]
      have hd := pass_drop hv hl hge hne
      obtain ⟨p, h1, h2, h3, h4⟩ := ih (passL es n x) (t + 1) (passL_length _ _ _) (pass_ge hv hge) (by omega)
      refine ⟨p + 1, by rw [h1]; congr 1; omega, by omega, by omega, ?_⟩
      have sh : ∀ (m : Nat) (x : List Int), itL es n x (m + 1) = itL es n (passL es n x) m := by
        intro m
        induction m with
        | zero => intro x; rfl
        | succ m ih => intro x; show passL es n (itL es n x (m + 1)) = _; rw [ih]; rfl
      rw [sh]; exact h4
/-- the degrees -/
def degL (es : List E2) (n : Nat) : List Int := (List.range n).map fun v => ((nbL es n v).length : Int)
theorem degL_length (es : List E2) (n : Nat) : (degL es n).length = n := by simp [degL]
theorem degL_getD (es : List E2) (n v : Nat) (h : v < n) : (degL es n).getD v 0 = ((nbL es n v).length : Int) := getD_of (range_get _ n v h)
theorem nb_lt {n : Nat} {es : List E2} (hv : Valid n es) (v : Nat) (h : v < n) : (nbL es n v).length + 1 ≤ n := by
  have := dg_lt hv (fun _ => true) v h
  unfold dgS at this
  simp only [Bool.and_true] at this
  exact this
theorem degL_ge {n : Nat} {es : List E2} (hv : Valid n es) : ∀ v, v < n → corF es n v ≤ (degL es n).getD v 0 := by
  intro v hvn
  rw [degL_getD es n v hvn]
  obtain ⟨k, hk⟩ := cor_nat es n v hvn
  obtain ⟨S, h1, h2, h3⟩ := (cor_core hv v k hvn).2 (by omega)
  have h4 := h1 v h3
  have h5 : dgS es n S v ≤ (nbL es n v).length := by
    unfold dgS nbL
    refine filter_le_of _ _ _ fun x _ hp => ?_
    rw [Bool.and_eq_true] at hp; exact hp.1
  omega
theorem sumD_le {n : Nat} {es : List E2} (hv : Valid n es) {x : List Int} (h : ∀ v, v < n → x.getD v 0 ≤ (degL es n).getD v 0) : sumD es n x ≤ n * (n - 1) := by
  rw [← sumR_const]
  refine sumR_le n fun v hvn => ?_
  have h1 := h v hvn
  rw [degL_getD es n v hvn] at h1
  have h2 := nb_lt hv v hvn
  obtain ⟨k, hk⟩ := cor_nat es n v hvn
  omega
/-- the core numbers by passes, and how many -/
def corsX (es : List E2) (n : Nat) : List Int × Nat := runP es n (n * n + 1) (degL es n) 0
theorem corsX_spec {n : Nat} {es : List E2} (hv : Valid n es) : ∃ p, corsX es n = (corT es n, p) ∧ 1 ≤ p ∧ p ≤ sumD es n (degL es n) + 1 ∧ itL es n (degL es n) p = corT es n := by
  have h1 := sumD_le hv (x := degL es n) (fun v _ => Int.le_refl _)
  have h2 : n * (n - 1) ≤ n * n := Nat.mul_le_mul (Nat.le_refl _) (Nat.sub_le _ _)
  obtain ⟨p, e, h3, h4, h5⟩ := runP_spec hv (n * n + 1) (degL es n) 0 (degL_length es n) (degL_ge hv) (by omega)
  exact ⟨p, by unfold corsX; rw [e, Nat.zero_add], h3, h4, h5⟩
end Go.Proofs.Ytdkmdcdoiaelfaa
