/- Plain: which nodes are joined; a node's neighbours, and the common ones of two, as parts of the range of the nodes. -/
import Derived.Test.YtdkmdcdoiaelfaaGreatBase
namespace Go.Proofs.YtdkmdcdoiaelfaaGreat
open Go.RowKit Go.BigFrame

/-- are two nodes joined? -/
def adjB (es : List E2) (i j : Nat) : Bool := es.any fun e => decide ((e.1 = i ∧ e.2 = j) ∨ (e.1 = j ∧ e.2 = i))
theorem adjB_iff (es : List E2) (p q : Nat) : adjB es p q = true ↔ ((p : Int), (q : Int)) ∈ es ∨ ((q : Int), (p : Int)) ∈ es := by
  unfold adjB
  rw [List.any_eq_true]
  constructor
  · rintro ⟨⟨x, y⟩, he, h⟩
    simp at h
    rcases h with ⟨rfl, rfl⟩ | ⟨rfl, rfl⟩
    · exact .inl he
    · exact .inr he
  · rintro (h | h)
    · exact ⟨_, h, by simp⟩
    · exact ⟨_, h, by simp⟩
theorem Valid.mem {n : Int} {es : List E2} (h : Valid n es) {p q : Int} (hm : (p, q) ∈ es) : 0 ≤ p ∧ p < q ∧ q < n := h.2.2.1 _ hm
theorem adj_irrefl {n : Int} {es : List E2} (h : Valid n es) (p : Nat) : adjB es p p = false := by
  rw [← Bool.not_eq_true, adjB_iff]
  rintro (h1 | h1) <;> (have := h.mem h1; omega)
def Asc (l : List Int) : Prop := l.Pairwise (· < ·)
theorem putS_mem (l : List Int) (x y : Int) : y ∈ putS l x ↔ y ∈ l ∨ y = x := by
  induction l with
  | nil => simp [putS]
  | cons z l ih =>
    unfold putS
    split
    · simp only [List.mem_cons, ih, or_assoc]
    · split
      · rename_i h; subst h
        simp only [List.mem_cons]
        constructor
        · exact .inl
        · rintro (h | h)
          · exact h
          · exact .inl h
      · simp only [List.mem_cons]
        constructor
        · rintro (h | h)
          · exact .inr h
          · exact .inl h
        · rintro (h | h)
          · exact .inr h
          · exact .inl h
theorem putS_asc (l : List Int) (x : Int) (h : Asc l) : Asc (putS l x) := by
  induction l with
  | nil => exact List.pairwise_singleton _ _
  | cons z l ih =>
    obtain ⟨h1, h2⟩ := List.pairwise_cons.1 h
    unfold putS
    split
    · rename_i hz
      refine List.pairwise_cons.2 ⟨fun y hy => ?_, ih h2⟩
      rcases (putS_mem _ _ _).1 hy with hy | hy
      · exact h1 y hy
      · omega
    · split
      · exact h
      · refine List.pairwise_cons.2 ⟨fun y hy => ?_, h⟩
        rcases List.mem_cons.1 hy with rfl | hy
        · omega
        · have := h1 y hy; omega
theorem fold_put (l : List Int) : ∀ acc, Asc acc → Asc (l.foldl putS acc) ∧ ∀ y, y ∈ l.foldl putS acc ↔ y ∈ acc ∨ y ∈ l := by
  induction l with
  | nil => intro acc h; exact ⟨h, fun y => by simp⟩
  | cons x l ih =>
    intro acc h
    obtain ⟨h1, h2⟩ := ih (putS acc x) (putS_asc acc x h)
    refine ⟨h1, fun y => ?_⟩
    rw [List.foldl_cons, h2, putS_mem, List.mem_cons, or_assoc]
theorem ofS_asc (l : List Int) : Asc (ofS l) := (fold_put l [] List.Pairwise.nil).1
theorem ofS_mem (l : List Int) (y : Int) : y ∈ ofS l ↔ y ∈ l := by
  have := (fold_put l [] List.Pairwise.nil).2 y
  simpa [ofS] using this
theorem asc_eq : ∀ (l m : List Int), Asc l → Asc m → (∀ y, y ∈ l ↔ y ∈ m) → l = m := by
  intro l
  induction l with
  | nil =>
    intro m _ _ h
    cases m with
    | nil => rfl
    | cons y m => exact absurd ((h y).2 List.mem_cons_self) (by simp)
  | cons x l ih =>
    intro m hl hm h
    cases m with
    | nil => exact absurd ((h x).1 List.mem_cons_self) (by simp)
    | cons y m =>
      obtain ⟨a1, a2⟩ := List.pairwise_cons.1 hl
      obtain ⟨b1, b2⟩ := List.pairwise_cons.1 hm
      have hxy : x = y := by
        rcases List.mem_cons.1 ((h x).1 List.mem_cons_self) with e | e
        · exact e
        · rcases List.mem_cons.1 ((h y).2 List.mem_cons_self) with e2 | e2
          · exact e2.symm
          · have := b1 x e; have := a1 y e2; omega
      subst hxy
      rw [ih m a2 b2 (fun z => ?_)]
      constructor
      · intro hz
        rcases List.mem_cons.1 ((h z).1 (List.mem_cons_of_mem _ hz)) with e | e
        · have := a1 z hz; omega
        · exact e
      · intro hz
        rcases List.mem_cons.1 ((h z).2 (List.mem_cons_of_mem _ hz)) with e | e
        · have := b1 z hz; omega
        · exact e
theorem asc_range (p : Nat → Bool) (n : Nat) : Asc (((List.range n).filter p).map fun (i : Nat) => (i : Int)) := by
  unfold Asc
  rw [List.pairwise_map]
  refine List.Pairwise.imp (fun h => by omega) ((List.pairwise_lt_range).filter p)
def nbL (es : List E2) (n v : Nat) : List Nat := (List.range n).filter fun x => adjB es v x
theorem neigh_mem {n : Nat} {es : List E2} (hv : Valid n es) (v : Nat) (y : Int) : y ∈ neighS es v ↔ ∃ x : Nat, y = x ∧ x < n ∧ adjB es v x = true := by
  unfold neighS
  rw [ofS_mem, List.mem_flatMap]
  constructor
  · rintro ⟨⟨p, q⟩, he, hy⟩
    have hi := hv.mem he
    unfold endsS at hy
    rw [List.mem_append] at hy
    dsimp only at hy
    rcases hy with hy | hy
    · split at hy
      · rename_i h
        rw [List.mem_singleton] at hy
        refine ⟨q.toNat, by omega, by omega, ?_⟩
        rw [adjB_iff]
        left
        have e1 : ((q.toNat : Nat) : Int) = q := by omega
        rw [e1, ← h]; exact he
      · cases hy
    · split at hy
      · rename_i h
        rw [List.mem_singleton] at hy
        refine ⟨p.toNat, by omega, by omega, ?_⟩
        rw [adjB_iff]
        right
        have e1 : ((p.toNat : Nat) : Int) = p := by omega
        rw [e1, ← h]; exact he
      · cases hy
  · rintro ⟨x, rfl, hx, ha⟩
    rcases (adjB_iff es v x).1 ha with h | h
    · exact ⟨_, h, by simp [endsS]⟩
    · exact ⟨_, h, by simp [endsS]⟩
theorem neigh_eq {n : Nat} {es : List E2} (hv : Valid n es) (v : Nat) : neighS es v = (nbL es n v).map fun (i : Nat) => (i : Int) := by
  refine asc_eq _ _ (ofS_asc _) (asc_range _ n) fun y => ?_
  rw [neigh_mem hv, List.mem_map]
  constructor
  · rintro ⟨x, rfl, hx, ha⟩; exact ⟨x, List.mem_filter.2 ⟨List.mem_range.2 hx, ha⟩, rfl⟩
  · rintro ⟨x, hx, rfl⟩
    obtain ⟨h1, h2⟩ := List.mem_filter.1 hx
    exact ⟨x, rfl, List.mem_range.1 h1, h2⟩
end Go.Proofs.YtdkmdcdoiaelfaaGreat
