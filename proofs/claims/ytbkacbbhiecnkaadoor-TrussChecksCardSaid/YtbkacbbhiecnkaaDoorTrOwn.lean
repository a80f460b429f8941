/- Plain: the truss numbers pass the check with their own order. -/
import Derived.Test.YtbkacbbhiecnkaaDoorTrCert
namespace Go.Proofs.YtbkacbbhiecnkaaDoor
open Go.RowKit Go.BigFrame

theorem numsF_own (es : List E2) (n x : Nat) (hx : x < es.length) : numsF (numT es n) x = numF es n x := by
  have h := numsF_get (numT es n) x (by rw [numT_length]; exact hx)
  rw [show (numT es n)[x]? = some (numF es n x) from fnL_get _ _ _ hx] at h
  exact (Option.some.inj h).symm
theorem runMax_mono (f : Nat → Nat) (i : Nat) : runMax f i ≤ runMax f (i + 1) := Nat.le_max_left _ _
theorem own_chk {n : Nat} {es : List E2} (hv : Valid n es) : chkB es n (numT es n) (peelO (trS es n) es.length es.length) = true := by
  obtain ⟨hl, hn, hlt⟩ := peelO_spec (trS es n) es.length es.length (Nat.le_refl _)
  have hall : ∀ y, y < es.length → y ∈ peelO (trS es n) es.length es.length := fun y hy => by
    obtain ⟨i, _, he⟩ := peel_mem (trS es n) es.length y hy
    exact List.mem_of_getElem? he
  unfold chkB
  rw [Bool.and_eq_true, decide_eq_true_eq]
  constructor
  · intro x hx
    obtain ⟨i, hi, he⟩ := peel_mem (trS es n) es.length x hx
    have hnum := numP_at (trS es n) es.length es.length (Nat.le_refl _) i x hi he
    unfold passB
    rw [Bool.and_eq_true, decide_eq_true_eq, decide_eq_true_eq, numsF_own es n x hx, hi_sup hv, beh_rest hv hn hall i x he]
    constructor
    · have h1 : trS es n (restB es.length ((peelO (trS es n) es.length es.length).take (i + 1))) x ≤ takS (trS es n) es.length i := by
        unfold takS
        rw [List.getD_eq_getElem?_getD, he]
        refine (triH hv).grows _ _ _ fun y _ hy => ?_
        rw [peelO_take _ _ _ _ (by omega) (Nat.le_refl _)] at hy
        obtain ⟨h2, h3⟩ := (restB_iff _ _ _).1 hy
        refine (restB_iff _ _ _).2 ⟨h2, fun h4 => h3 ?_⟩
        obtain ⟨b, _, hs, _⟩ := peelO_step (trS es n) es.length i hi
        rw [hs]
        exact List.mem_append_left _ h4
      have h2 := runMax_ge (takS (trS es n) es.length) i i (Nat.le_refl _)
      unfold numF
      rw [hnum]
      omega
    · obtain ⟨c, hc⟩ := num_nat es n x hx
      obtain ⟨S, h1, h2, h3⟩ := (num_core hv x c hx).2 (by omega)
      have h4 := h1 x h3
      have h5 : trS es n S x ≤ trS es n (fun z => decide (z < es.length) && decide (numsF (numT es n) x ≤ numsF (numT es n) z)) x := by
        refine (triH hv).grows _ _ _ fun y _ hy => ?_
        have hyl := h2 y hy
        have := (num_core hv y c hyl).1 ⟨S, h1, h2, hy⟩
        rw [Bool.and_eq_true, decide_eq_true_eq, decide_eq_true_eq, numsF_own es n x hx, numsF_own es n y hyl]
        exact ⟨hyl, by omega⟩
      omega
  · unfold sortB
    rw [decide_eq_true_eq]
    intro j hj
    rw [hl] at hj
    have e1 : (peelO (trS es n) es.length es.length)[j]? = some ((peelO (trS es n) es.length es.length).getD j 0) := by rw [List.getD_eq_getElem?_getD, List.getElem?_eq_getElem (by omega)]; rfl
    have e2 : (peelO (trS es n) es.length es.length)[j + 1]? = some ((peelO (trS es n) es.length es.length).getD (j + 1) 0) := by rw [List.getD_eq_getElem?_getD, List.getElem?_eq_getElem (by omega)]; rfl
    have h1 := numP_at (trS es n) es.length es.length (Nat.le_refl _) j _ (by omega) e1
    have h2 := numP_at (trS es n) es.length es.length (Nat.le_refl _) (j + 1) _ (by omega) e2
    rw [numsF_own es n _ (hlt _ (List.mem_of_getElem? e1)), numsF_own es n _ (hlt _ (List.mem_of_getElem? e2))]
    unfold numF
    rw [h1, h2]
    have := runMax_mono (takS (trS es n) es.length) j
    omega
theorem own_chkX {n : Nat} {es : List E2} (hv : Valid n es) : chkX n es (numT es n) (ordT es n) = 0 := by
  obtain ⟨hl, hn, hlt⟩ := peelO_spec (trS es n) es.length es.length (Nat.le_refl _)
  have hok : okW es.length (ordT es n) := by
    refine ⟨fun x hx => ?_, ?_, ordT_length _ _⟩
    · obtain ⟨y, hy, rfl⟩ := List.mem_map.1 hx
      have := hlt y hy; omega
    · unfold ordT castL List.Nodup
      rw [List.pairwise_map]
      exact hn.imp fun h e => h (by omega)
  have hmo : (ordT es n).map Int.toNat = peelO (trS es n) es.length es.length := by
    unfold ordT castL
    rw [List.map_map]
    conv => rhs; rw [← List.map_id (peelO (trS es n) es.length es.length)]
    exact List.map_congr_left fun x _ => by simp
  unfold chkX
  rw [if_neg (by rw [(valid_iff n es).2 hv]; simp), if_neg (by simp [numT_length, hok]), Int.toNat_natCast, hmo, own_chk hv]
  rfl
end Go.Proofs.YtbkacbbhiecnkaaDoor
