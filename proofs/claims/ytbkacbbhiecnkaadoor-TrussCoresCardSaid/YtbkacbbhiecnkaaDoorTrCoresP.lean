/- Plain: an edge joins two nodes whose core numbers are greater than its truss number; trusses lie within one another. -/
import Derived.Test.YtbkacbbhiecnkaaDoorTrSelfP
import Derived.Test.YtbkacbbhiecnkaaDoorCoreP
namespace Go.Proofs.YtbkacbbhiecnkaaDoor
open Go.RowKit Go.BigFrame

theorem cmL_comm (es : List E2) (n u v : Nat) : cmL es n u v = cmL es n v u := by
  unfold cmL
  exact List.filter_congr fun x _ => Bool.and_comm _ _
/-- two joined nodes of a truss have enough common neighbours in it -/
theorem truE_common {n : Nat} {es : List E2} (hv : Valid n es) (k : Int) (p q : Nat) (h : adjB (truE es n k) p q = true) : k ≤ ((cmL (truE es n k) n p q).length : Int) := by
  have hvT := truE_valid hv k
  obtain ⟨hg, hl⟩ := ixN_get hvT p q h
  have hk := truE_get hv k _ hl
  rcases Nat.le_total p q with hpq | hpq
  · rw [Int.min_eq_left (by omega), Int.max_eq_right (by omega)] at hg
    rw [triN_at _ n _ p q hg, List.length_map] at hk
    exact hk
  · rw [Int.min_eq_right (by omega), Int.max_eq_left (by omega)] at hg
    rw [triN_at _ n _ q p hg, List.length_map, cmL_comm] at hk
    exact hk
/-- the nodes of a truss -/
def nodB (T : List E2) (n : Nat) (x : Nat) : Bool := decide (x < n) && (List.range n).any fun y => adjB T x y
theorem nodB_of {T : List E2} {n x y : Nat} (hx : x < n) (hy : y < n) (h : adjB T x y = true) : nodB T n x = true := by
  unfold nodB
  rw [decide_eq_true hx, Bool.true_and, List.any_eq_true]
  exact ⟨y, List.mem_range.2 hy, h⟩
theorem adj_ends {n : Nat} {es : List E2} (hv : Valid n es) (p q : Nat) (h : adjB es p q = true) : p < n ∧ q < n := by
  obtain ⟨e, he, hpq⟩ := (adj_of es p q).1 h
  have hi := hv.2.2.1 e he
  unfold Ins at hi
  rcases hpq with rfl | rfl <;> (dsimp at hi; omega)
theorem truE_core {n : Nat} {es : List E2} (hv : Valid n es) (c : Nat) : GoodK (dgS es n) (c + 1) (nodB (truE es n c) n) := by
  intro x hx
  unfold nodB at hx
  rw [Bool.and_eq_true, decide_eq_true_eq, List.any_eq_true] at hx
  obtain ⟨hxn, y, hy, hxy⟩ := hx
  have hyn := List.mem_range.1 hy
  have hvT := truE_valid hv (c : Int)
  have hk := truE_common hv c x y hxy
  have hes : ∀ p q, adjB (truE es n c) p q = true → adjB es p q = true := fun p q h => by
    rw [truE_adj hv, Bool.and_eq_true] at h
    exact h.1
  have hny : y ∉ cmL (truE es n c) n x y := fun h => by
    have := ((cmL_mem _ n x y y).1 h).2.2
    rw [adj_irrefl hvT] at this; cases this
  have h1 : (y :: cmL (truE es n c) n x y).Nodup := List.nodup_cons.2 ⟨hny, List.nodup_range.filter _⟩
  have h2 : ∀ z ∈ (y :: cmL (truE es n c) n x y), z ∈ (List.range n).filter fun z => adjB es x z && nodB (truE es n c) n z := fun z hz => by
    rw [List.mem_filter, List.mem_range, Bool.and_eq_true]
    rcases List.mem_cons.1 hz with rfl | hz
    · exact ⟨hyn, hes _ _ hxy, nodB_of hyn hxn (by rw [adj_comm]; exact hxy)⟩
    · obtain ⟨h3, h4, h5⟩ := (cmL_mem _ n x y z).1 hz
      exact ⟨h3, hes _ _ h4, nodB_of h3 hxn (by rw [adj_comm]; exact h4)⟩
  have h3 := selL_off.sub_len _ _ h1 h2
  rw [List.length_cons] at h3
  unfold dgS
  omega
theorem cores_gt {n : Nat} {es : List E2} (hv : Valid n es) (i : Nat) (u v : Nat) (h : es[i]? = some ((u : Int), (v : Int))) : 0 ≤ numF es n i ∧ numF es n i < corF es n u ∧ numF es n i < corF es n v ∧ u < n ∧ v < n := by
  have hl := (List.getElem?_eq_some_iff.1 h).1
  obtain ⟨c, hc⟩ := num_nat es n i hl
  have hadj : adjB es u v = true := (adj_of es u v).2 ⟨_, List.mem_of_getElem? h, .inl rfl⟩
  obtain ⟨hu, hvn⟩ := adj_ends hv u v hadj
  have hT : adjB (truE es n c) u v = true := by
    rw [truE_adj hv, hadj, ixN_at hv i u v h, Bool.true_and]
    unfold trB
    rw [decide_eq_true hl, hc]; simp
  have hg := truE_core hv c
  have hlt : ∀ y, nodB (truE es n c) n y = true → y < n := fun y hy => by
    unfold nodB at hy
    rw [Bool.and_eq_true, decide_eq_true_eq] at hy
    exact hy.1
  have h1 := (cor_core hv u (c + 1) hu).1 ⟨_, hg, hlt, nodB_of hu hvn hT⟩
  have h2 := (cor_core hv v (c + 1) hvn).1 ⟨_, hg, hlt, nodB_of hvn hu (by rw [adj_comm]; exact hT)⟩
  exact ⟨by omega, by omega, by omega, hu, hvn⟩
theorem truE_nest {n : Nat} {es : List E2} (hv : Valid n es) (k : Int) (x y : Int) (h : (x, y) ∈ truE es n (k + 1)) : 0 ≤ findS (truE es n k) x y := by
  obtain ⟨j, hj, hb⟩ := (truE_mem _ _).1 h
  have hf := truE_find hv k j x y hj
  simp only [trB, Bool.and_eq_true, decide_eq_true_eq] at hb
  rw [decide_eq_true (show k ≤ numF es n j by omega), decide_eq_true_eq] at hf
  exact hf
end Go.Proofs.YtbkacbbhiecnkaaDoor
