/- Plain words on lists of edges: the order of edges, the check of a graph, validity. -/
namespace Go.Proofs.YtdkmdcdoiaelfaaGreat

abbrev E2 := Int × Int
def beforeB (a b : E2) : Bool := decide (a.1 < b.1) || (decide (a.1 = b.1) && decide (a.2 < b.2))
def checkE (n : Int) : Option E2 → List E2 → Int
  | _, [] => 0
  | p, e :: es => if e.1 < 0 ∨ e.2 ≤ e.1 ∨ n ≤ e.2 then 6 else if p.any (fun p => !beforeB p e) then 5 else checkE n (some e) es
def checkS (n : Int) (es : List E2) : Int := if n < 0 ∨ 64 < n then 1 else checkE n none es

def Ins (n : Int) (e : E2) : Prop := 0 ≤ e.1 ∧ e.1 < e.2 ∧ e.2 < n
def Valid (n : Int) (es : List E2) : Prop := 0 ≤ n ∧ n ≤ 64 ∧ (∀ e ∈ es, Ins n e) ∧ es.Pairwise (fun a b => beforeB a b = true)

theorem before_iff (a b : E2) : beforeB a b = true ↔ a.1 < b.1 ∨ (a.1 = b.1 ∧ a.2 < b.2) := by simp [beforeB]
theorem before_trans {a b c : E2} (h : beforeB a b = true) (h' : beforeB b c = true) : beforeB a c = true := by
  rw [before_iff] at *; omega
theorem checkE_zero (n : Int) (es : List E2) : ∀ p, checkE n p es = 0 ↔ (∀ e ∈ es, Ins n e) ∧ es.Pairwise (fun a b => beforeB a b = true) ∧ (∀ q, p = some q → ∀ e ∈ es, beforeB q e = true) := by
  induction es with
  | nil => intro p; simp [checkE]
  | cons e es ih =>
    intro p
    unfold checkE
    by_cases h1 : e.1 < 0 ∨ e.2 ≤ e.1 ∨ n ≤ e.2
    · rw [if_pos h1]
      constructor
      · intro h; cases h
      · rintro ⟨h, _⟩
        have := h e (List.mem_cons_self ..)
        unfold Ins at this
        omega
    · rw [if_neg h1]
      by_cases h2 : p.any (fun p => !beforeB p e) = true
      · rw [if_pos h2]
        constructor
        · intro h; cases h
        · rintro ⟨_, _, h⟩
          cases p with
          | none => simp at h2
          | some q => have := h q rfl e (List.mem_cons_self ..); simp [this] at h2
      · rw [if_neg h2, ih]
        have hi : Ins n e := by unfold Ins; omega
        have hp : ∀ q, p = some q → beforeB q e = true := by
          rintro q rfl; simpa using h2
        constructor
        · rintro ⟨a, b, c⟩
          refine ⟨?_, ?_, ?_⟩
          · intro x hx
            rcases List.mem_cons.1 hx with rfl | hx
            · exact hi
            · exact a x hx
          · exact List.pairwise_cons.2 ⟨fun x hx => c e rfl x hx, b⟩
          · intro q hq x hx
            rcases List.mem_cons.1 hx with rfl | hx
            · exact hp q hq
            · exact before_trans (hp q hq) (c e rfl x hx)
        · rintro ⟨a, b, c⟩
          obtain ⟨b1, b2⟩ := List.pairwise_cons.1 b
          exact ⟨fun x hx => a x (List.mem_cons_of_mem _ hx), b2, fun q hq x hx => by cases hq; exact b1 x hx⟩

theorem valid_iff (n : Int) (es : List E2) : checkS n es = 0 ↔ Valid n es := by
  unfold checkS Valid
  by_cases h : n < 0 ∨ 64 < n
  · rw [if_pos h]
    constructor
    · intro h; cases h
    · intro h'; omega
  · rw [if_neg h, checkE_zero]
    constructor
    · rintro ⟨a, b, _⟩; exact ⟨by omega, by omega, a, b⟩
    · rintro ⟨_, _, a, b⟩; exact ⟨a, b, fun q hq => by cases hq⟩

theorem valid_nil {n : Int} (h0 : 0 ≤ n) (h1 : n ≤ 64) : Valid n [] := ⟨h0, h1, by simp, List.Pairwise.nil⟩

/-- all edges come before the pair u, v -/
def Ups (es : List E2) (u v : Int) : Prop := ∀ e ∈ es, beforeB e (u, v) = true
theorem Valid.snoc {n : Int} {es : List E2} {u v : Int} (h : Valid n es) (hu : 0 ≤ u) (huv : u < v) (hv : v < n) (hup : Ups es u v) : Valid n (es ++ [(u, v)]) := by
  obtain ⟨a, b, c, d⟩ := h
  refine ⟨a, b, ?_, ?_⟩
  · intro e he
    rcases List.mem_append.1 he with he | he
    · exact c e he
    · obtain rfl := List.mem_singleton.1 he
      exact ⟨hu, huv, hv⟩
  · rw [List.pairwise_append]
    refine ⟨d, List.pairwise_singleton _ _, fun x hx y hy => ?_⟩
    obtain rfl := List.mem_singleton.1 hy
    exact hup x hx
theorem Ups.step {es : List E2} {u v : Int} (h : Ups es u v) : Ups es u (v + 1) := fun e he => by
  have := h e he; rw [before_iff] at *; dsimp at *; omega
theorem Ups.snoc {es : List E2} {u v : Int} (h : Ups es u v) : Ups (es ++ [(u, v)]) u (v + 1) := fun e he => by
  rcases List.mem_append.1 he with he | he
  · exact h.step e he
  · obtain rfl := List.mem_singleton.1 he
    rw [before_iff]; dsimp; omega
theorem Ups.next {es : List E2} {u v : Int} (h : Ups es u v) (w : Int) : Ups es (u + 1) w := fun e he => by
  have := h e he; rw [before_iff] at *; dsimp at *; omega
theorem Ups.nil {u v : Int} : Ups [] u v := fun _ h => by cases h

theorem length_of_ups (N : Nat) (l : List Nat) : ∀ lo, lo ≤ N → l.Pairwise (· < ·) → (∀ x ∈ l, lo ≤ x ∧ x < N) → l.length + lo ≤ N := by
  induction l with
  | nil => intro lo h _ _; simpa using h
  | cons x l ih =>
    intro lo h hp hm
    obtain ⟨p1, p2⟩ := List.pairwise_cons.1 hp
    have hx := hm x (List.mem_cons_self ..)
    have := ih (x + 1) (by omega) p2 (fun y hy => ⟨p1 y hy, (hm y (List.mem_cons_of_mem _ hy)).2⟩)
    simp only [List.length_cons]
    omega

/-- a valid graph of at most 64 nodes has few edges -/
theorem Valid.length_le {n : Int} {es : List E2} (h : Valid n es) : es.length ≤ 4096 := by
  obtain ⟨h0, h1, h2, h3⟩ := h
  have hnd : (es.map (fun e => (e.1 * 64 + e.2).toNat)).Pairwise (· < ·) := by
    rw [List.pairwise_map]
    refine List.Pairwise.imp_of_mem ?_ h3
    intro a b ha hb hab
    have := h2 a ha; have := h2 b hb
    unfold Ins at *
    rw [before_iff] at hab
    omega
  have := length_of_ups 4096 _ 0 (by omega) hnd (fun x hx => by
    obtain ⟨e, he, rfl⟩ := List.mem_map.1 hx
    have := h2 e he
    unfold Ins at this
    omega)
  simpa using this

/-- a number put into an ascending list -/
def putS : List Int → Int → List Int
  | [], x => [x]
  | y :: l, x => if y < x then y :: putS l x else if y = x then y :: l else x :: y :: l
def ofS (l : List Int) : List Int := l.foldl putS []
def endsS (v : Int) (e : E2) : List Int := (if e.1 = v then [e.2] else []) ++ (if e.2 = v then [e.1] else [])
def neighS (es : List E2) (v : Int) : List Int := ofS (es.flatMap (endsS v))
theorem putS_length (l : List Int) (x : Int) : (putS l x).length ≤ l.length + 1 := by
  induction l with
  | nil => simp [putS]
  | cons y l ih => unfold putS; split <;> (try split) <;> simp <;> omega
end Go.Proofs.YtdkmdcdoiaelfaaGreat
