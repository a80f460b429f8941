/- Plain: the truss of a truss is itself, and each of its edges is in enough triangles of it. -/
import Derived.Test.YtbkacbbhiecnkaaDoorTrTruss
namespace Go.Proofs.YtbkacbbhiecnkaaDoor
open Go.RowKit Go.BigFrame

theorem range_get (es : List E2) : (List.range es.length).map (fun i => es.getD i (0, 0)) = es := by
  refine List.ext_getElem? fun i => ?_
  rw [List.getElem?_map]
  by_cases h : i < es.length
  · rw [List.getElem?_range h, List.getElem?_eq_getElem h]
    simp [List.getD_eq_getElem?_getD, List.getElem?_eq_getElem h]
  · rw [List.getElem?_eq_none (by simpa using h), List.getElem?_eq_none (by simpa using h)]; rfl
theorem pick_sub (es : List E2) (S : Nat → Bool) : (pickE es (selL es.length S)).Sublist es := by
  have h := (List.filter_sublist (p := S) (l := List.range es.length)).map (fun i => es.getD i (0, 0))
  rw [range_get] at h
  exact h
theorem Valid.sub {n : Int} {es l : List E2} (h : Valid n es) (hs : l.Sublist es) : Valid n l :=
  ⟨h.1, h.2.1, fun e he => h.2.2.1 e (hs.subset he), h.2.2.2.sublist hs⟩
/-- the edges of the k-truss -/
def truE (es : List E2) (n : Nat) (k : Int) : List E2 := pickE es (trI es n k)
theorem truE_valid {n : Nat} {es : List E2} (hv : Valid n es) (k : Int) : Valid n (truE es n k) := hv.sub (pick_sub es _)
theorem truE_mem {n : Nat} {es : List E2} (k : Int) (e : E2) : e ∈ truE es n k ↔ ∃ j, es[j]? = some e ∧ trB es n k j = true := by
  unfold truE pickE trI
  rw [List.mem_map]
  constructor
  · rintro ⟨j, hj, rfl⟩
    rw [selL_mem (trB_lt es n k)] at hj
    have hl := trB_lt es n k j hj
    exact ⟨j, by rw [List.getD_eq_getElem?_getD, List.getElem?_eq_getElem hl]; rfl, hj⟩
  · rintro ⟨j, hj, hb⟩
    exact ⟨j, (selL_mem (trB_lt es n k) j).2 hb, by rw [List.getD_eq_getElem?_getD, hj]; rfl⟩
theorem adj_of (es : List E2) (p q : Nat) : adjB es p q = true ↔ ∃ e ∈ es, e = ((p : Int), (q : Int)) ∨ e = ((q : Int), (p : Int)) := by
  unfold adjB
  rw [List.any_eq_true]
  constructor
  · rintro ⟨⟨x, y⟩, he, h⟩
    refine ⟨_, he, ?_⟩
    rw [decide_eq_true_eq] at h
    rcases h with ⟨h1, h2⟩ | ⟨h1, h2⟩
    · left; dsimp at h1 h2; rw [h1, h2]
    · right; dsimp at h1 h2; rw [h1, h2]
  · rintro ⟨e, he, rfl | rfl⟩
    · exact ⟨_, he, by simp⟩
    · exact ⟨_, he, by simp⟩
theorem truE_adj {n : Nat} {es : List E2} (hv : Valid n es) (k : Int) (p q : Nat) : adjB (truE es n k) p q = (adjB es p q && trB es n k (ixN es p q)) := by
  rw [Bool.eq_iff_iff, Bool.and_eq_true, adj_of]
  constructor
  · rintro ⟨e, he, h⟩
    obtain ⟨j, hj, hb⟩ := (truE_mem k e).1 he
    have hm := List.mem_of_getElem? hj
    refine ⟨(adj_of es p q).2 ⟨e, hm, h⟩, ?_⟩
    rcases h with rfl | rfl
    · rw [ixN_at hv j p q hj]; exact hb
    · rw [ixN_comm, ixN_at hv j q p hj]; exact hb
  · rintro ⟨h1, h2⟩
    obtain ⟨hg, _⟩ := ixN_get hv p q h1
    refine ⟨_, (truE_mem k _).2 ⟨_, hg, h2⟩, ?_⟩
    rcases Nat.le_total p q with h | h
    · left; rw [Int.min_eq_left (by omega), Int.max_eq_right (by omega)]
    · right; rw [Int.min_eq_right (by omega), Int.max_eq_left (by omega)]
/-- all of the truss, as a set of its own indices -/
def allB (m : Nat) : Nat → Bool := fun y => decide (y < m)
theorem truE_sup {n : Nat} {es : List E2} (hv : Valid n es) (k : Int) (i : Nat) (hi : i < (truE es n k).length) : k ≤ (trS (truE es n k) n (allB (truE es n k).length) i : Int) ∧ trS (truE es n k) n (allB (truE es n k).length) i = (triN (truE es n k) n i).length := by
  have hvT := truE_valid hv k
  have hi2 : (truE es n k)[i]? = some ((truE es n k)[i]) := List.getElem?_eq_getElem hi
  obtain ⟨u, v, huv, hltuv, hvn, _⟩ := edge_at hvT i _ hi2
  rw [huv] at hi2
  have hall : trS (truE es n k) n (allB (truE es n k).length) i = (triN (truE es n k) n i).length := by
    unfold trS supT
    rw [List.filter_eq_self.2]
    intro p hp
    obtain ⟨_, h1, h2, _⟩ := (triH hvT).lt i p hp
    simp [allB, h1, h2]
  refine ⟨?_, hall⟩
  rw [hall, triN_at _ n i u v hi2, List.length_map]
  obtain ⟨j, hj, hb⟩ := (truE_mem k _).1 (List.mem_of_getElem? hi2)
  obtain ⟨S, h1, h2, h3⟩ := (trB_core hv k j).1 hb
  have h4 := h1 j h3
  have h5 := (triH hv).grows S (trB es n k) j (fun y _ hy => (trB_core hv k y).2 ⟨S, h1, h2, hy⟩)
  have h6 : supT (triN es n) (trB es n k) j = (cmL (truE es n k) n u v).length := by
    unfold supT
    rw [triN_at es n j u v hj, List.filter_map, List.length_map]
    unfold cmL
    rw [List.filter_filter]
    congr 1
    refine List.filter_congr fun x _ => ?_
    rw [truE_adj hv, truE_adj hv]
    simp only [Function.comp_apply]
    cases adjB es u x <;> cases adjB es v x <;> cases trB es n k (ixN es u x) <;> cases trB es n k (ixN es v x) <;> rfl
  unfold trS at h4
  omega
theorem truE_num {n : Nat} {es : List E2} (hv : Valid n es) (k : Int) (hk : 0 ≤ k) (i : Nat) (hi : i < (truE es n k).length) : k ≤ numF (truE es n k) n i := by
  have h : InCore (trS (truE es n k) n) (truE es n k).length k.toNat i := ⟨allB (truE es n k).length, fun y hy => by
    have hy' : y < (truE es n k).length := by simpa [allB] using hy
    have := (truE_sup hv k y hy').1
    omega, fun y hy => by simpa [allB] using hy, by simpa [allB] using hi⟩
  have := (num_core (truE_valid hv k) i _ hi).1 h
  omega
theorem truE_self {n : Nat} {es : List E2} (hv : Valid n es) (k : Int) (hk : 0 ≤ k) : truX n (truE es n k) k = ((n : Int), truE es n k, 0) := by
  unfold truX
  rw [if_neg (by rw [(valid_iff n _).2 (truE_valid hv k)]; simp), Int.toNat_natCast]
  have h : trI (truE es n k) n k = List.range (truE es n k).length := by
    unfold trI selL
    rw [List.filter_eq_self.2]
    intro x hx
    have hx' := List.mem_range.1 hx
    unfold trB
    rw [decide_eq_true hx', decide_eq_true (truE_num hv k hk x hx')]; rfl
  rw [h, show pickE (truE es n k) (List.range (truE es n k).length) = truE es n k from range_get _]
theorem truE_get {n : Nat} {es : List E2} (hv : Valid n es) (k : Int) (i : Nat) (hi : i < (truE es n k).length) : k ≤ ((triN (truE es n k) n i).length : Int) := by
  obtain ⟨h1, h2⟩ := truE_sup hv k i hi
  omega
theorem truE_find {n : Nat} {es : List E2} (hv : Valid n es) (k : Int) (j : Nat) (x y : Int) (hj : es[j]? = some (x, y)) : decide (0 ≤ findS (truE es n k) x y) = decide (k ≤ numF es n j) := by
  have hin := hv.2.2.1 _ (List.mem_of_getElem? hj)
  unfold Ins at hin
  dsimp at hin
  have hjl := (List.getElem?_eq_some_iff.1 hj).1
  unfold findS
  rw [Int.min_eq_left (by omega), Int.max_eq_right (by omega)]
  rw [Bool.eq_iff_iff, decide_eq_true_eq, decide_eq_true_eq]
  constructor
  · intro h
    by_cases hm : (x, y) ∈ truE es n k
    · obtain ⟨i, hi, hb⟩ := (truE_mem k _).1 hm
      have e : i = j := by
        have hnd := valid_nodup hv
        have h1 := (List.getElem?_eq_some_iff.1 hi).1
        exact (List.getElem?_inj h1 hnd).1 (hi.trans hj.symm)
      subst e
      simp only [trB, Bool.and_eq_true, decide_eq_true_eq] at hb
      exact hb.2
    · rw [(find_from _ _ 0).2 hm] at h
      omega
  · intro h
    rw [find_idx _ _ _ ((truE_mem k _).2 ⟨j, hj, by unfold trB; rw [decide_eq_true hjl, decide_eq_true h]; rfl⟩)]
    omega
end Go.Proofs.YtbkacbbhiecnkaaDoor
