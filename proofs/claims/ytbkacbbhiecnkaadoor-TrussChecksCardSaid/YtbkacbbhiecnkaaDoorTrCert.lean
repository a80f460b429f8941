/- Plain: whatever numbers pass the check with an order are the truss numbers. -/
import Derived.Test.YtbkacbbhiecnkaaDoorTrChk
import Derived.Test.YtbkacbbhiecnkaaDoorTrNum
namespace Go.Proofs.YtbkacbbhiecnkaaDoor
open Go.RowKit Go.BigFrame

theorem idx_take {o : List Nat} (hn : o.Nodup) (y k : Nat) (hy : y ∈ o) : y ∈ o.take k ↔ o.idxOf y < k := by
  have hl := List.idxOf_lt_length_of_mem hy
  constructor
  · intro h
    obtain ⟨j, hj, he⟩ := List.getElem_of_mem h
    rw [List.length_take] at hj
    rw [List.getElem_take] at he
    have := idx_at hn j y (by rw [List.getElem?_eq_getElem (by omega), he])
    omega
  · intro h
    have : (o.take k)[o.idxOf y]? = some y := by rw [List.getElem?_take, if_pos h, List.getElem?_eq_getElem hl, List.getElem_idxOf]
    exact List.mem_of_getElem? this
theorem beh_rest {n : Nat} {es : List E2} (hv : Valid n es) {o : List Nat} (hn : o.Nodup) (hall : ∀ y, y < es.length → y ∈ o) (i x : Nat) (hx : o[i]? = some x) :
    cntT es n x (behP (placeF o) x) (triN es n x).length = trS es n (restB es.length (o.take (i + 1))) x := by
  unfold cntT trS supT
  rw [List.take_length]
  congr 1
  refine List.filter_congr fun p hp => ?_
  obtain ⟨_, h1, h2, _⟩ := (triH hv).lt x p hp
  have e : ∀ y, y < es.length → restB es.length (o.take (i + 1)) y = decide (i < o.idxOf y) := fun y hy => by
    rw [Bool.eq_iff_iff, restB_iff, decide_eq_true_eq, idx_take hn y _ (hall y hy)]
    omega
  rw [e _ h1, e _ h2]
  unfold behP placeF
  rw [idx_at hn i x hx, Bool.eq_iff_iff, Bool.and_eq_true, decide_eq_true_eq, decide_eq_true_eq, decide_eq_true_eq]
  omega
theorem hi_sup {n : Nat} {es : List E2} (hv : Valid n es) (l : List Int) (x : Nat) : cntT es n x (hiP l x) (triN es n x).length = trS es n (fun z => decide (z < es.length) && decide (numsF l x ≤ numsF l z)) x := by
  unfold cntT trS supT
  rw [List.take_length]
  congr 1
  refine List.filter_congr fun p hp => ?_
  obtain ⟨_, h1, h2, _⟩ := (triH hv).lt x p hp
  unfold hiP
  dsimp only
  rw [decide_eq_true h1, decide_eq_true h2, Bool.true_and, Bool.true_and, Bool.eq_iff_iff, Bool.and_eq_true, decide_eq_true_eq, decide_eq_true_eq, decide_eq_true_eq]
  omega
theorem sort_all {l : List Int} {o : List Nat} (h : sortB l o = true) : ∀ (j i a b : Nat), i ≤ j → o[i]? = some a → o[j]? = some b → numsF l a ≤ numsF l b := by
  unfold sortB at h
  rw [decide_eq_true_eq] at h
  intro j
  induction j with
  | zero =>
    intro i a b hi ha hb
    rw [show i = 0 by omega, hb] at ha
    rw [Option.some.inj ha]; exact Int.le_refl _
  | succ j ih =>
    intro i a b hi ha hb
    by_cases e : i = j + 1
    · rw [e, hb] at ha
      rw [Option.some.inj ha]; exact Int.le_refl _
    · have hjl := (List.getElem?_eq_some_iff.1 hb).1
      have h1 := ih i a (o.getD j 0) (by omega) ha (by rw [List.getD_eq_getElem?_getD, List.getElem?_eq_getElem (by omega)]; rfl)
      have h2 := h j (by omega)
      have h3 : o.getD (j + 1) 0 = b := by rw [List.getD_eq_getElem?_getD, hb]; rfl
      rw [h3] at h2
      omega
theorem chk_cert {n : Nat} {es : List E2} (hv : Valid n es) (l : List Int) (o : List Nat) (hn : o.Nodup) (hall : ∀ y, y < es.length → y ∈ o) (hlt : ∀ x ∈ o, x < es.length) (h : chkB es n l o = true) (y : Nat) (hy : y < es.length) : numsF l y = numF es n y := by
  unfold chkB at h
  rw [Bool.and_eq_true, decide_eq_true_eq] at h
  obtain ⟨hp, hs⟩ := h
  have hpp : ∀ x, x < es.length → (trS es n (fun z => decide (z < es.length) && decide (numsF l x ≤ numsF l z)) x : Int) ≥ numsF l x := fun x hx => by
    have h1 := hp x hx
    unfold passB at h1
    rw [Bool.and_eq_true, decide_eq_true_eq, decide_eq_true_eq, hi_sup hv] at h1
    exact h1.2
  have hc : ∀ k, InCore (trS es n) es.length k y ↔ (k : Int) ≤ numsF l y := fun k =>
    cert_core (sup := trS es n) (triH hv).grows es.length o hall (numsF l) (fun i j a b hij ha hb => sort_all hs j i a b hij ha hb)
      (fun i a ha => by
        have h1 := hp a (hlt a (List.mem_of_getElem? ha))
        unfold passB at h1
        rw [Bool.and_eq_true, decide_eq_true_eq, decide_eq_true_eq, beh_rest hv hn hall i a ha] at h1
        exact h1.1) (fun a ha => hpp a ha) k y hy
  obtain ⟨c, hcn⟩ := num_nat es n y hy
  have h1 := (hc c).1 ((num_core hv y c hy).2 (by omega))
  have h2 := (num_core hv y (numsF l y).toNat hy).1 ((hc _).2 (by omega))
  omega
/-- what passes is the list of the truss numbers -/
theorem chk_eq {n : Nat} {es : List E2} (hv : Valid n es) (l : List Int) (o : List Nat) (hl : l.length = es.length) (hp : o.Perm (List.range es.length)) (h : chkX n es l (castL o) = 0) : l = numT es n := by
  have hn : o.Nodup := hp.nodup_iff.2 List.nodup_range
  have hmem : ∀ y, y ∈ o ↔ y < es.length := fun y => by rw [hp.mem_iff, List.mem_range]
  have hok : okW es.length (castL o) := by
    refine ⟨fun x hx => ?_, ?_, ?_⟩
    · obtain ⟨y, hy, rfl⟩ := List.mem_map.1 hx
      have := (hmem y).1 hy; omega
    · unfold castL List.Nodup
      rw [List.pairwise_map]
      exact hn.imp fun h e => h (by omega)
    · rw [castL_length, hp.length_eq, List.length_range]
  have hmo : (castL o).map Int.toNat = o := by
    unfold castL
    rw [List.map_map]
    conv => rhs; rw [← List.map_id o]
    exact List.map_congr_left fun x _ => by simp
  unfold chkX at h
  rw [if_neg (by rw [(valid_iff n es).2 hv]; simp), if_neg (by simp [hl, hok]), Int.toNat_natCast, hmo] at h
  have hc : chkB es n l o = true := by
    cases hcc : chkB es n l o with
    | true => rfl
    | false => rw [hcc, if_neg (by simp)] at h; cases h
  apply List.ext_getElem?
  intro j
  by_cases hj : j < es.length
  · rw [numsF_get l j (by omega), chk_cert hv l o hn (fun y hy => (hmem y).2 hy) (fun y hy => (hmem y).1 hy) hc j hj]
    exact (fnL_get _ _ _ hj).symm
  · rw [List.getElem?_eq_none (by omega), List.getElem?_eq_none (by rw [numT_length]; omega)]
end Go.Proofs.YtbkacbbhiecnkaaDoor
