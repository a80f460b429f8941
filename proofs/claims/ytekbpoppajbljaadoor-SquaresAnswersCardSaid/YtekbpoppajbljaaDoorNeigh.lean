/- Plain: a node's neighbours, and the common ones of two, as parts of the range of the nodes. -/
import Derived.Test.YtekbpoppajbljaaDoorPatSolvesPlain
import Derived.Test.YtekbpoppajbljaaDoorPatTurnsPlain
namespace Go.Proofs.YtekbpoppajbljaaDoor
open Go.RowKit Go.BigFrame

def Asc (l : List Int) : Prop := l.Pairwise (· < ·)
theorem putS_mem (l : List Int) (x y : Int) : y ∈ putS l x ↔ y ∈ l ∨ y = x := by
  induction l with
  | nil => simp [putS]
  | cons z l ih =>
    unfold putS
    split
    · simp only [List.mem_cons, ih, or_assoc]
    · split
      · rename_i h; subst h
        simp only [List.mem_cons]
        constructor
        · exact .inl
        · rintro (h | h)
          · exact h
          · exact .inl h
      · simp only [List.mem_cons]
        constructor
        · rintro (h | h)
          · exact .inr h
          · exact .inl h
        · rintro (h | h)
          · exact .inr h
          · exact .inl h
theorem putS_asc (l : List Int) (x : Int) (h : Asc l) : Asc (putS l x) := by
  induction l with
  | nil => exact List.pairwise_singleton _ _
  | cons z l ih =>
    obtain ⟨h1, h2⟩ := List.pairwise_cons.1 h
    unfold putS
    split
    · rename_i hz
      refine List.pairwise_cons.2 ⟨fun y hy => ?_, ih h2⟩
      rcases (putS_mem _ _ _).1 hy with hy | hy
      · exact h1 y hy
      · omega
    · split
      · exact h
      · refine List.pairwise_cons.2 ⟨fun y hy => ?_, h⟩
        rcases List.mem_cons.1 hy with rfl | hy
        · omega
        · have := h1 y hy; omega
theorem fold_put (l : List Int) : ∀ acc, Asc acc → Asc (l.foldl putS acc) ∧ ∀ y, y ∈ l.foldl putS acc ↔ y ∈ acc ∨ y ∈ l := by
  induction l with
  | nil => intro acc h; exact ⟨h, fun y => by simp⟩
  | cons x l ih =>
    intro acc h
    obtain ⟨h1, h2⟩ := ih (putS acc x) (putS_asc acc x h)
    refine ⟨h1, fun y => ?_⟩
    rw [List.foldl_cons, h2, putS_mem, List.mem_cons, or_assoc]
theorem ofS_asc (l : List Int) : Asc (ofS l) := (fold_put l [] List.Pairwise.nil).1
theorem ofS_mem (l : List Int) (y : Int) : y ∈ ofS l ↔ y ∈ l := by
  have := (fold_put l [] List.Pairwise.nil).2 y
  simpa [ofS] using this
theorem asc_eq : ∀ (l m : List Int), Asc l → Asc m → (∀ y, y ∈ l ↔ y ∈ m) → l = m := by
  intro l
  induction l with
  | nil =>
    intro m _ _ h
    cases m with
    | nil => rfl
    | cons y m => exact absurd ((h y).2 List.mem_cons_self) (by simp)
  | cons x l ih =>
    intro m hl hm h
    cases m with
    | nil => exact absurd ((h x).1 List.mem_cons_self) (by simp)
    | cons y m =>
      obtain ⟨a1, a2⟩ := List.pairwise_cons.1 hl
      obtain ⟨b1, b2⟩ := List.pairwise_cons.1 hm
      have hxy : x = y := by
        rcases List.mem_cons.1 ((h x).1 List.mem_cons_self) with e | e
        · exact e
        · rcases List.mem_cons.1 ((h y).2 List.mem_cons_self) with e2 | e2
          · exact e2.symm
          · have := b1 x e; have := a1 y e2; omega
      subst hxy
      rw [ih m a2 b2 (fun z => ?_)]
      constructor
      · intro hz
        rcases List.mem_cons.1 ((h z).1 (List.mem_cons_of_mem _ hz)) with e | e
        · have := a1 z hz; omega
        · exact e
      · intro hz
        rcases List.mem_cons.1 ((h z).2 (List.mem_cons_of_mem _ hz)) with e | e
        · have := b1 z hz; omega
        · exact e
theorem asc_range (p : Nat → Bool) (n : Nat) : Asc (((List.range n).filter p).map fun (i : Nat) => (i : Int)) := by
  unfold Asc
  rw [List.pairwise_map]
  refine List.Pairwise.imp (fun h => by omega) ((List.pairwise_lt_range).filter p)

def nbL (es : List E2) (n v : Nat) : List Nat := (List.range n).filter fun x => adjB es v x
def cmL (es : List E2) (n u v : Nat) : List Nat := (List.range n).filter fun x => adjB es u x && adjB es v x
theorem neigh_mem {n : Nat} {es : List E2} (hv : Valid n es) (v : Nat) (y : Int) : y ∈ neighS es v ↔ ∃ x : Nat, y = x ∧ x < n ∧ adjB es v x = true := by
  unfold neighS
  rw [ofS_mem, List.mem_flatMap]
  constructor
  · rintro ⟨⟨p, q⟩, he, hy⟩
    have hi := hv.mem he
    unfold endsS at hy
    rw [List.mem_append] at hy
    dsimp only at hy
    rcases hy with hy | hy
    · split at hy
      · rename_i h
        rw [List.mem_singleton] at hy
        refine ⟨q.toNat, by omega, by omega, ?_⟩
        rw [adjB_iff]
        left
        have e1 : ((q.toNat : Nat) : Int) = q := by omega
        rw [e1, ← h]; exact he
      · cases hy
    · split at hy
      · rename_i h
        rw [List.mem_singleton] at hy
        refine ⟨p.toNat, by omega, by omega, ?_⟩
        rw [adjB_iff]
        right
        have e1 : ((p.toNat : Nat) : Int) = p := by omega
        rw [e1, ← h]; exact he
      · cases hy
  · rintro ⟨x, rfl, hx, ha⟩
    rcases (adjB_iff es v x).1 ha with h | h
    · exact ⟨_, h, by simp [endsS]⟩
    · exact ⟨_, h, by simp [endsS]⟩
theorem neigh_eq {n : Nat} {es : List E2} (hv : Valid n es) (v : Nat) : neighS es v = (nbL es n v).map fun (i : Nat) => (i : Int) := by
  refine asc_eq _ _ (ofS_asc _) (asc_range _ n) fun y => ?_
  rw [neigh_mem hv, List.mem_map]
  constructor
  · rintro ⟨x, rfl, hx, ha⟩; exact ⟨x, List.mem_filter.2 ⟨List.mem_range.2 hx, ha⟩, rfl⟩
  · rintro ⟨x, hx, rfl⟩
    obtain ⟨h1, h2⟩ := List.mem_filter.1 hx
    exact ⟨x, rfl, List.mem_range.1 h1, h2⟩
theorem common_eq {n : Nat} {es : List E2} (hv : Valid n es) (u v : Nat) : meetS (neighS es u) (neighS es v) = (cmL es n u v).map fun (i : Nat) => (i : Int) := by
  refine asc_eq _ _ ((ofS_asc _).filter _) (asc_range _ n) fun y => ?_
  unfold meetS
  rw [List.mem_filter, ofS_mem, decide_eq_true_eq, neigh_mem hv, neigh_mem hv, List.mem_map]
  constructor
  · rintro ⟨⟨x, rfl, hx, ha⟩, x', hxx, _, hb⟩
    obtain rfl : x = x' := by omega
    exact ⟨x, List.mem_filter.2 ⟨List.mem_range.2 hx, by simp [ha, hb]⟩, rfl⟩
  · rintro ⟨x, hx, rfl⟩
    obtain ⟨h1, h2⟩ := List.mem_filter.1 hx
    simp only [Bool.and_eq_true] at h2
    exact ⟨⟨x, rfl, List.mem_range.1 h1, h2.1⟩, x, rfl, List.mem_range.1 h1, h2.2⟩
theorem filter_len (p : Nat → Bool) : ∀ n, (((List.range n).filter p).length : Int) = sumN (fun x => ind (p x)) n := by
  intro n
  induction n with
  | zero => rfl
  | succ n ih =>
    rw [List.range_succ, List.filter_append, List.length_append]
    simp only [sumN, ← ih]
    cases h : p n <;> simp [h, ind]
theorem deg_sum {n : Nat} {es : List E2} (hv : Valid n es) (v : Nat) : ((neighS es v).length : Int) = sumN (fun x => ind (adjB es v x)) n := by
  rw [neigh_eq hv, List.length_map]; exact filter_len _ n
theorem com_sum {n : Nat} {es : List E2} (hv : Valid n es) (u v : Nat) : ((meetS (neighS es u) (neighS es v)).length : Int) = sumN (fun x => ind (adjB es u x && adjB es v x)) n := by
  rw [common_eq hv, List.length_map]; exact filter_len _ n
theorem sumN_single (q : Nat) (t : Nat → Int) : ∀ n, sumN (fun a => if a = q then t a else 0) n = if q < n then t q else 0 := by
  intro n
  induction n with
  | zero => simp [sumN]
  | succ n ih =>
    simp only [sumN, ih]
    by_cases h : n = q
    · subst h; simp
    · rw [if_neg h]
      by_cases h2 : q < n
      · rw [if_pos h2, if_pos (by omega)]; omega
      · rw [if_neg h2, if_neg (by omega)]; rfl
theorem sort2_single (p q n : Nat) (hpq : p < q) (hq : q < n) (f : Nat → Nat → Int) : sort2 n (fun a b => if a = q then (if b = p then f a b else 0) else 0) = f q p := by
  unfold sort2
  have e : ∀ a, a < n → sumN (fun b => if a = q then (if b = p then f a b else 0) else 0) a = if a = q then f a p else 0 := by
    intro a _
    by_cases h : a = q
    · subst h
      simp only [if_true]
      rw [sumN_single p (fun b => f a b) a, if_pos hpq]
    · simp only [if_neg h]; exact sumN_zero a
  rw [sumN_congr _ _ n e, sumN_single q (fun a => f a p) n, if_pos hq]
theorem edges_sort (n : Nat) (f : Nat → Nat → Int) (hf : ∀ u v, f v u = f u v) : ∀ es : List E2, (∀ e ∈ es, Ins (n : Int) e) → es.Pairwise (fun a b => beforeB a b = true) → (es.map fun e => f e.1.toNat e.2.toNat).sum = sort2 n (fun u v => ind (adjB es u v) * f u v) := by
  intro es
  induction es with
  | nil =>
    intro _ _
    have e : (fun u v => ind (adjB [] u v) * f u v) = fun _ _ => (0 : Int) := by funext u v; simp [adjB, ind]
    rw [e]
    unfold sort2
    rw [sumN_congr _ (fun _ => 0) n (fun a _ => sumN_zero a), sumN_zero]; rfl
  | cons e es ih =>
    intro hi hp
    obtain ⟨p1, p2⟩ := List.pairwise_cons.1 hp
    have he := hi e List.mem_cons_self
    unfold Ins at he
    obtain ⟨p, hpe⟩ := Int.eq_ofNat_of_zero_le he.1
    obtain ⟨q, hqe⟩ := Int.eq_ofNat_of_zero_le (show 0 ≤ e.2 by omega)
    have hnew : ((p : Int), (q : Int)) ∉ es := by
      intro hm
      have := p1 _ hm
      rw [before_iff] at this
      dsimp at this
      omega
    rw [List.map_cons, List.sum_cons, ih (fun x hx => hi x (List.mem_cons_of_mem _ hx)) p2]
    have key : ∀ a b, a < n → b < a → ind (adjB (e :: es) a b) * f a b = (if a = q then (if b = p then f a b else 0) else 0) + ind (adjB es a b) * f a b := by
      intro a b ha hb
      have hc : adjB (e :: es) a b = (decide ((e.1 = a ∧ e.2 = b) ∨ (e.1 = b ∧ e.2 = a)) || adjB es a b) := by simp [adjB]
      rw [hc]
      by_cases h : a = q ∧ b = p
      · obtain ⟨rfl, rfl⟩ := h
        rw [if_pos rfl, if_pos rfl, decide_eq_true (by right; exact ⟨hpe, hqe⟩)]
        have h0 : adjB es a b = false := by
          rw [← Bool.not_eq_true, adjB_iff]
          rintro (h | h)
          · have := hi _ (List.mem_cons_of_mem _ h); unfold Ins at this; dsimp at this; omega
          · exact hnew h
        rw [h0]; simp [ind]
      · have hd : decide ((e.1 = (a : Int) ∧ e.2 = (b : Int)) ∨ (e.1 = (b : Int) ∧ e.2 = (a : Int))) = false := by
          rw [decide_eq_false_iff_not]
          rintro (h2 | h2)
          · omega
          · exact h ⟨by omega, by omega⟩
        rw [hd, Bool.false_or]
        by_cases h1 : a = q
        · rw [if_pos h1, if_neg (fun h2 => h ⟨h1, h2⟩)]; omega
        · rw [if_neg h1]; omega
    have e2 : sort2 n (fun u v => ind (adjB (e :: es) u v) * f u v) = sort2 n (fun a b => (if a = q then (if b = p then f a b else 0) else 0) + ind (adjB es a b) * f a b) :=
      sumN_congr _ _ n fun a ha => sumN_congr _ _ a fun b hb => key a b ha hb
    rw [e2, sort2_add, sort2_single p q n (by omega) (by omega) f, hf p q]
    have e3 : e.1.toNat = p := by omega
    have e4 : e.2.toNat = q := by omega
    rw [e3, e4]
/-- the sum over the edges is the sum over the ordered joined pairs -/
theorem edges_sum {n : Nat} {es : List E2} (hv : Valid n es) (f : Nat → Nat → Int) (hf : ∀ u v, f v u = f u v) : 2 * (es.map fun e => f e.1.toNat e.2.toNat).sum = all2 n (fun u v => ind (adjB es u v) * f u v) := by
  have e1 : (es.map fun e => f e.1.toNat e.2.toNat).sum = sort2 n (fun u v => ind (adjB es u v) * f u v) := by
    exact edges_sort n f hf es hv.2.2.1 hv.2.2.2
  rw [e1, sym2]
  · unfold P2
    have e2 : (fun a b => ind (adjB es a b) * f a b + ind (adjB es b a) * f b a) = fun a b => ind (adjB es a b) * f a b + ind (adjB es a b) * f a b := by
      funext a b; rw [adjB_comm es a b, hf a b]
    show _ = sort2 n (fun a b => ind (adjB es a b) * f a b + ind (adjB es b a) * f b a)
    rw [e2, sort2_add]; omega
  · intro a; rw [adj_irrefl hv]; simp [ind]
end Go.Proofs.YtekbpoppajbljaaDoor
