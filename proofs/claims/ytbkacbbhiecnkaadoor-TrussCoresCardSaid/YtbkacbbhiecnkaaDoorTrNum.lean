/- Plain: the truss numbers are the greatest levels; the trusses as lists; a list without one element. -/
import Derived.Test.YtbkacbbhiecnkaaDoorRefTr2
namespace Go.Proofs.YtbkacbbhiecnkaaDoor
open Go.RowKit Go.BigFrame

/-- the truss number of an edge -/
def numF (es : List E2) (n x : Nat) : Int := numP (trS es n) es.length es.length x
theorem num_core {n : Nat} {es : List E2} (hv : Valid n es) (x k : Nat) (hx : x < es.length) : InCore (trS es n) es.length k x ↔ (k : Int) ≤ numF es n x := by
  obtain ⟨i, hi, he⟩ := peel_mem (trS es n) es.length x hx
  rw [peel_core (sup := trS es n) (triH hv).grows es.length i x k hi he]
  unfold numF
  rw [numP_at _ _ _ (Nat.le_refl _) i x hi he]
  omega
theorem num_nat (es : List E2) (n x : Nat) (hx : x < es.length) : ∃ c : Nat, numF es n x = c := by
  obtain ⟨i, hi, he⟩ := peel_mem (trS es n) es.length x hx
  exact ⟨_, numP_at _ _ _ (Nat.le_refl _) i x hi he⟩
/-- no edge has as many triangles as there are nodes -/
theorem tri_lt {n : Nat} {es : List E2} (hv : Valid n es) (x : Nat) (hx : x < es.length) : (triN es n x).length + 1 ≤ n := by
  obtain ⟨u, v, huv, hltuv, hvn, hadj⟩ := edge_at hv x _ (List.getElem?_eq_getElem hx)
  have h2 := List.getElem?_eq_getElem hx
  rw [huv] at h2
  rw [triN_len x u v h2]
  have hu : u ∉ cmL es n u v := fun h => by
    have := ((cmL_mem es n u v u).1 h).2.1
    rw [adj_irrefl hv] at this; cases this
  have := nodup_le n (u :: cmL es n u v) (List.nodup_cons.2 ⟨hu, List.nodup_range.filter _⟩) (fun y hy => by
    rcases List.mem_cons.1 hy with rfl | hy
    · omega
    · exact ((cmL_mem es n u v y).1 hy).1)
  simpa using this
theorem num_lt {n : Nat} {es : List E2} (hv : Valid n es) (x : Nat) (hx : x < es.length) : numF es n x + 1 ≤ n := by
  obtain ⟨c, hc⟩ := num_nat es n x hx
  have h := (num_core hv x c hx).2 (by omega)
  obtain ⟨S, h1, h2, h3⟩ := h
  have h4 := h1 x h3
  have h5 : trS es n S x ≤ (triN es n x).length := List.length_filter_le _ _
  have h6 := tri_lt hv x hx
  omega
/-- the members of a set -/
def selL (m : Nat) (S : Nat → Bool) : List Nat := (List.range m).filter S
theorem selL_mem {m : Nat} {S : Nat → Bool} (hS : ∀ x, S x = true → x < m) (x : Nat) : x ∈ selL m S ↔ S x = true := by
  unfold selL
  rw [List.mem_filter, List.mem_range]
  exact ⟨fun h => h.2, fun h => ⟨hS x h, h⟩⟩
theorem selL_nodup (m : Nat) (S : Nat → Bool) : (selL m S).Nodup := List.nodup_range.filter _
theorem selL_len (m : Nat) (S : Nat → Bool) : (selL m S).length ≤ m := by
  have h := List.length_filter_le S (List.range m)
  rw [List.length_range] at h; exact h
theorem selL_asc (m : Nat) (S : Nat → Bool) : Asc (castL (selL m S)) := asc_range S m
theorem ofS_id {l : List Int} (h : Asc l) : ofS l = l := asc_eq _ _ (ofS_asc l) h (fun y => ofS_mem l y)
theorem minus_sel (m : Nat) (S : Nat → Bool) (i : Nat) : minusS (castL (selL m S)) [(i : Int)] = castL (selL m (offB S i)) := by
  unfold minusS
  rw [ofS_id (selL_asc m S)]
  unfold castL selL
  rw [List.filter_map, List.filter_filter]
  congr 1
  refine List.filter_congr fun x _ => ?_
  simp only [Function.comp_apply, List.mem_singleton, offB]
  by_cases h : x = i
  · subst h; simp
  · have h2 : ¬ ((x : Int) = (i : Int)) := by omega
    simp [h, h2]
theorem selL_off {m : Nat} {S : Nat → Bool} (hS : ∀ x, S x = true → x < m) (i : Nat) (hi : S i = true) : (selL m (offB S i)).length < (selL m S).length := by
  have h1 : (i :: selL m (offB S i)).length ≤ (selL m S).length := by
    refine sub_len _ _ (List.nodup_cons.2 ⟨fun h => ?_, selL_nodup m _⟩) (fun y hy => ?_)
    · have := (List.mem_filter.1 h).2
      simp [offB] at this
    · rcases List.mem_cons.1 hy with rfl | hy
      · exact (selL_mem hS y).2 hi
      · obtain ⟨ha, hb⟩ := List.mem_filter.1 hy
        simp only [offB, Bool.and_eq_true] at hb
        exact List.mem_filter.2 ⟨ha, hb.1⟩
  rw [List.length_cons] at h1
  omega
where
  sub_len : ∀ (a b : List Nat), a.Nodup → (∀ y ∈ a, y ∈ b) → a.length ≤ b.length := by
    intro a
    induction a with
    | nil => intro b _ _; exact Nat.zero_le _
    | cons x a ih =>
      intro b hn h
      obtain ⟨h1, h2⟩ := List.nodup_cons.1 hn
      have hx := h x List.mem_cons_self
      have := ih (b.erase x) h2 (fun y hy => (List.mem_erase_of_ne (fun e => by rw [e] at hy; exact h1 hy)).2 (h y (List.mem_cons_of_mem _ hy)))
      rw [List.length_erase_of_mem hx] at this
      have := List.length_pos_of_mem hx
      simp only [List.length_cons]; omega
/-- the edges of a level -/
def trB (es : List E2) (n : Nat) (k : Int) : Nat → Bool := fun x => decide (x < es.length) && decide (k ≤ numF es n x)
theorem trB_lt (es : List E2) (n : Nat) (k : Int) : ∀ x, trB es n k x = true → x < es.length := fun x h => by
  simp only [trB, Bool.and_eq_true, decide_eq_true_eq] at h; exact h.1
def trI (es : List E2) (n : Nat) (k : Int) : List Nat := selL es.length (trB es n k)
theorem trB_core {n : Nat} {es : List E2} (hv : Valid n es) (k : Int) (x : Nat) : trB es n k x = true ↔ InCore (trS es n) es.length k.toNat x := by
  simp only [trB, Bool.and_eq_true, decide_eq_true_eq]
  constructor
  · rintro ⟨h1, h2⟩
    obtain ⟨c, hc⟩ := num_nat es n x h1
    exact (num_core hv x _ h1).2 (by omega)
  · intro h
    have h1 := h.lt
    have h2 := (num_core hv x _ h1).1 h
    exact ⟨h1, by omega⟩
/-- a set that holds the core and is good is the core -/
theorem core_is {n : Nat} {es : List E2} (hv : Valid n es) (k : Int) (S : Nat → Bool) (hS : ∀ x, S x = true → x < es.length) (hc : ∀ x, InCore (trS es n) es.length k.toNat x → S x = true) (hg : ∀ x, S x = true → k ≤ (trS es n S x : Int)) : S = trB es n k := by
  funext x
  rw [Bool.eq_iff_iff, trB_core hv]
  constructor
  · intro h
    exact ⟨S, fun y hy => by have := hg y hy; omega, hS, h⟩
  · exact hc x
/-- what is not of the core may go -/
theorem core_off {n : Nat} {es : List E2} (hv : Valid n es) (k : Int) (S : Nat → Bool) (hc : ∀ x, InCore (trS es n) es.length k.toNat x → S x = true) (i : Nat) (hi : (trS es n S i : Int) < k) : ∀ x, InCore (trS es n) es.length k.toNat x → offB S i x = true := by
  intro x hx
  rw [offB_iff]
  refine ⟨hc x hx, fun e => ?_⟩
  subst e
  obtain ⟨S1, h1, h2, h3⟩ := hx
  have h4 := h1 x h3
  have h5 := (triH hv).grows S1 S x (fun y _ hy => hc y ⟨S1, h1, h2, hy⟩)
  unfold trS at *
  omega
end Go.Proofs.YtbkacbbhiecnkaaDoor
