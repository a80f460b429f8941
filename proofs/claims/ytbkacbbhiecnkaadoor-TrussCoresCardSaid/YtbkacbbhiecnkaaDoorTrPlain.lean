/- Plain: the triangles of the edges of a graph, as pairs of the other edges; the support in a set of edges, and how it falls when an edge goes. -/
import Derived.Test.YtbkacbbhiecnkaaDoorNeigh
import Derived.Test.YtbkacbbhiecnkaaDoorPeel
namespace Go.Proofs.YtbkacbbhiecnkaaDoor

/-- how many pairs lie in a set -/
def supT (T : Nat → List (Nat × Nat)) (S : Nat → Bool) (x : Nat) : Nat := ((T x).filter fun p => S p.1 && S p.2).length
structure TriH (T : Nat → List (Nat × Nat)) (m : Nat) : Prop where
  lt : ∀ x, ∀ p ∈ T x, x < m ∧ p.1 < m ∧ p.2 < m ∧ p.1 ≠ p.2 ∧ p.1 ≠ x ∧ p.2 ≠ x
  nodup : ∀ x, (T x).Nodup
  uniq : ∀ x, ∀ p ∈ T x, ∀ q ∈ T x, ∀ b, (p.1 = b ∨ p.2 = b) → (q.1 = b ∨ q.2 = b) → p = q
  symm1 : ∀ x, ∀ p ∈ T x, (x, p.2) ∈ T p.1 ∨ (p.2, x) ∈ T p.1
  symm2 : ∀ x, ∀ p ∈ T x, (x, p.1) ∈ T p.2 ∨ (p.1, x) ∈ T p.2
theorem filter_le_of {α : Type} (P Q : α → Bool) (l : List α) (h : ∀ x ∈ l, P x = true → Q x = true) : (l.filter P).length ≤ (l.filter Q).length := by
  induction l with
  | nil => exact Nat.le_refl _
  | cons x l ih =>
    have h1 := ih fun y hy => h y (List.mem_cons_of_mem _ hy)
    have h2 := h x List.mem_cons_self
    rw [List.filter_cons, List.filter_cons]
    cases hP : P x with
    | true => rw [h2 hP]; simp; omega
    | false => cases Q x <;> simp <;> omega
theorem TriH.grows {T : Nat → List (Nat × Nat)} {m : Nat} (h : TriH T m) : Grows (supT T) := fun S T' x hST => by
  refine filter_le_of _ _ _ fun p hp hS => ?_
  obtain ⟨_, _, _, _, h1, h2⟩ := h.lt x p hp
  simp only [Bool.and_eq_true] at hS ⊢
  exact ⟨hST _ h1 hS.1, hST _ h2 hS.2⟩
/-- a test that at most one passes -/
theorem filt_one {α : Type} (P : α → Bool) : ∀ l : List α, l.Nodup → (∀ p ∈ l, ∀ q ∈ l, P p = true → P q = true → p = q) → (l.filter P).length ≤ 1 := by
  intro l hn hu
  match hf : l.filter P with
  | [] => simp
  | [_] => simp
  | p :: q :: r =>
    have hp : p ∈ l.filter P := by rw [hf]; simp
    have hq : q ∈ l.filter P := by rw [hf]; simp
    have he := hu p (List.mem_filter.1 hp).1 q (List.mem_filter.1 hq).1 (List.mem_filter.1 hp).2 (List.mem_filter.1 hq).2
    have hnf : (l.filter P).Nodup := hn.filter _
    rw [hf, he] at hnf
    exact absurd hnf (by simp)
theorem filt_split {α : Type} (P Q : α → Bool) (l : List α) : (l.filter P).length = (l.filter fun x => P x && !Q x).length + (l.filter fun x => P x && Q x).length := by
  induction l with
  | nil => rfl
  | cons x l ih =>
    rw [List.filter_cons, List.filter_cons, List.filter_cons]
    cases P x <;> cases Q x <;> simp <;> omega
def hasP (b : Nat) (p : Nat × Nat) : Bool := p.1 == b || p.2 == b
theorem hasP_iff (b : Nat) (p : Nat × Nat) : hasP b p = true ↔ p.1 = b ∨ p.2 = b := by simp [hasP]
def offB (S : Nat → Bool) (b : Nat) : Nat → Bool := fun z => S z && decide (z ≠ b)
theorem offB_iff (S : Nat → Bool) (b z : Nat) : offB S b z = true ↔ S z = true ∧ z ≠ b := by simp [offB]
/-- how many pairs of b, both still there, hold x -/
def lossT (T : Nat → List (Nat × Nat)) (S : Nat → Bool) (b x : Nat) : Nat := ((T b).filter fun p => (S p.1 && S p.2) && hasP x p).length
theorem supT_off {T : Nat → List (Nat × Nat)} {m : Nat} (h : TriH T m) (S : Nat → Bool) (b x : Nat) (hb : S b = true) (hx : S x = true) (hne : x ≠ b) : supT T S x = supT T (offB S b) x + lossT T (offB S b) b x := by
  unfold supT
  rw [filt_split _ (hasP b)]
  congr 1
  · congr 1
    refine List.filter_congr fun p _ => ?_
    simp only [offB, hasP]
    by_cases h1 : p.1 = b <;> by_cases h2 : p.2 = b <;> simp [h1, h2]
  · have l1 : ((T x).filter fun p => (S p.1 && S p.2) && hasP b p).length ≤ 1 := filt_one _ _ (h.nodup x) fun p hp q hq h1 h2 => by
      simp only [Bool.and_eq_true, hasP_iff] at h1 h2
      exact h.uniq x p hp q hq b h1.2 h2.2
    have l2 : lossT T (offB S b) b x ≤ 1 := filt_one _ _ (h.nodup b) fun p hp q hq h1 h2 => by
      simp only [Bool.and_eq_true, hasP_iff] at h1 h2
      exact h.uniq b p hp q hq x h1.2 h2.2
    have hiff : 0 < ((T x).filter fun p => (S p.1 && S p.2) && hasP b p).length ↔ 0 < lossT T (offB S b) b x := by
      unfold lossT
      rw [List.length_pos_iff_exists_mem, List.length_pos_iff_exists_mem]
      constructor
      · rintro ⟨p, hpf⟩
        obtain ⟨hp, hq⟩ := List.mem_filter.1 hpf
        clear hpf
        simp only [Bool.and_eq_true, hasP_iff] at hq
        obtain ⟨⟨hs1, hs2⟩, hq⟩ := hq
        obtain ⟨_, _, _, hd, _, _⟩ := h.lt x p hp
        rcases hq with rfl | rfl
        · have h2 : offB S p.1 p.2 = true := (offB_iff ..).2 ⟨hs2, Ne.symm hd⟩
          have h3 : offB S p.1 x = true := (offB_iff ..).2 ⟨hx, hne⟩
          rcases h.symm1 x p hp with hm | hm
          · exact ⟨_, List.mem_filter.2 ⟨hm, by simp [h2, h3, hasP]⟩⟩
          · exact ⟨_, List.mem_filter.2 ⟨hm, by simp [h2, h3, hasP]⟩⟩
        · have h2 : offB S p.2 p.1 = true := (offB_iff ..).2 ⟨hs1, hd⟩
          have h3 : offB S p.2 x = true := (offB_iff ..).2 ⟨hx, hne⟩
          rcases h.symm2 x p hp with hm | hm
          · exact ⟨_, List.mem_filter.2 ⟨hm, by simp [h2, h3, hasP]⟩⟩
          · exact ⟨_, List.mem_filter.2 ⟨hm, by simp [h2, h3, hasP]⟩⟩
      · rintro ⟨p, hpf⟩
        obtain ⟨hp, hq⟩ := List.mem_filter.1 hpf
        clear hpf
        simp only [Bool.and_eq_true, hasP_iff, offB_iff] at hq
        obtain ⟨⟨hs1, hs2⟩, hq⟩ := hq
        rcases hq with rfl | rfl
        · rcases h.symm1 b p hp with hm | hm
          · exact ⟨_, List.mem_filter.2 ⟨hm, by simp [hb, hs2, hasP]⟩⟩
          · exact ⟨_, List.mem_filter.2 ⟨hm, by simp [hb, hs2, hasP]⟩⟩
        · rcases h.symm2 b p hp with hm | hm
          · exact ⟨_, List.mem_filter.2 ⟨hm, by simp [hb, hs1, hasP]⟩⟩
          · exact ⟨_, List.mem_filter.2 ⟨hm, by simp [hb, hs1, hasP]⟩⟩
    omega

/-- the index of the edge between two nodes -/
def ixN (es : List E2) (p q : Nat) : Nat := es.idxOf (min (p : Int) (q : Int), max (p : Int) (q : Int))
theorem ixN_comm (es : List E2) (p q : Nat) : ixN es q p = ixN es p q := by
  unfold ixN; rw [Int.min_comm, Int.max_comm]
theorem adj_mem {n : Int} {es : List E2} (hv : Valid n es) (p q : Nat) (h : adjB es p q = true) : (min (p : Int) (q : Int), max (p : Int) (q : Int)) ∈ es ∧ p ≠ q := by
  have hne : p ≠ q := fun e => by rw [e, adj_irrefl hv] at h; cases h
  refine ⟨?_, hne⟩
  by_cases hpq : p < q
  · have := (adj_lt hv hpq).1 h
    rw [Int.min_eq_left (by omega), Int.max_eq_right (by omega)]; exact this
  · have h' : adjB es q p = true := by rw [adj_comm]; exact h
    have := (adj_lt hv (show q < p by omega)).1 h'
    rw [Int.min_eq_right (by omega), Int.max_eq_left (by omega)]; exact this
theorem ixN_get {n : Int} {es : List E2} (hv : Valid n es) (p q : Nat) (h : adjB es p q = true) : es[ixN es p q]? = some (min (p : Int) (q : Int), max (p : Int) (q : Int)) ∧ ixN es p q < es.length := by
  obtain ⟨hm, _⟩ := adj_mem hv p q h
  have hl := List.idxOf_lt_length_of_mem hm
  refine ⟨?_, hl⟩
  unfold ixN
  rw [List.getElem?_eq_getElem hl, List.getElem_idxOf]
theorem valid_nodup {n : Int} {es : List E2} (hv : Valid n es) : es.Nodup := by
  refine List.Pairwise.imp ?_ hv.2.2.2
  intro a b hab e
  rw [e, before_irrefl] at hab; cases hab
theorem ixN_at {n : Int} {es : List E2} (hv : Valid n es) (i : Nat) (p q : Nat) (h : es[i]? = some ((p : Int), (q : Int))) : ixN es p q = i := by
  have hi := (List.getElem?_eq_some_iff.1 h).1
  have hm := List.mem_of_getElem? h
  have hins := hv.2.2.1 _ hm
  unfold Ins at hins
  have e : (min (p : Int) (q : Int), max (p : Int) (q : Int)) = ((p : Int), (q : Int)) := by
    rw [Int.min_eq_left (by simp at hins; omega), Int.max_eq_right (by simp at hins; omega)]
  unfold ixN
  rw [e]
  have hl := List.idxOf_lt_length_of_mem hm
  have h1 := List.getElem_idxOf hl
  have h2 := (List.getElem?_eq_some_iff.1 h).2
  exact (List.getElem_inj (valid_nodup hv)).1 (h1.trans h2.symm)
theorem ixN_inj {n : Int} {es : List E2} (hv : Valid n es) {p q p' q' : Nat} (h : adjB es p q = true) (h' : adjB es p' q' = true) (e : ixN es p q = ixN es p' q') : (p = p' ∧ q = q') ∨ (p = q' ∧ q = p') := by
  have h1 := (ixN_get hv p q h).1
  have h2 := (ixN_get hv p' q' h').1
  rw [e, h2] at h1
  have := Option.some.inj h1
  have e1 := congrArg Prod.fst this
  have e2 := congrArg Prod.snd this
  simp only at e1 e2
  omega
/-- the triangles of edge i: the other two edges of each -/
def triN (es : List E2) (n i : Nat) : List (Nat × Nat) := match es[i]? with
  | none => []
  | some e => (cmL es n e.1.toNat e.2.toNat).map fun w => (ixN es e.1.toNat w, ixN es e.2.toNat w)
theorem triN_at (es : List E2) (n i : Nat) (u v : Nat) (h : es[i]? = some ((u : Int), (v : Int))) : triN es n i = (cmL es n u v).map fun w => (ixN es u w, ixN es v w) := by
  unfold triN; rw [h]; simp
theorem edge_at {n : Nat} {es : List E2} (hv : Valid n es) (i : Nat) (e : E2) (h : es[i]? = some e) : ∃ u v : Nat, e = ((u : Int), (v : Int)) ∧ u < v ∧ v < n ∧ adjB es u v = true := by
  have hm := List.mem_of_getElem? h
  have hins := hv.2.2.1 _ hm
  unfold Ins at hins
  refine ⟨e.1.toNat, e.2.toNat, ?_, by omega, by omega, ?_⟩
  · rw [Int.toNat_of_nonneg (by omega), Int.toNat_of_nonneg (by omega)]
  · rw [adjB_iff, Int.toNat_of_nonneg (by omega), Int.toNat_of_nonneg (by omega)]; exact .inl hm
theorem cmL_mem (es : List E2) (n u v w : Nat) : w ∈ cmL es n u v ↔ w < n ∧ adjB es u w = true ∧ adjB es v w = true := by
  unfold cmL
  rw [List.mem_filter, List.mem_range, Bool.and_eq_true]
theorem tri_mem {n : Nat} {es : List E2} (hv : Valid n es) (i : Nat) (p : Nat × Nat) (h : p ∈ triN es n i) : ∃ u v w : Nat, es[i]? = some ((u : Int), (v : Int)) ∧ u < v ∧ v < n ∧ w < n ∧ adjB es u v = true ∧ adjB es u w = true ∧ adjB es v w = true ∧ p = (ixN es u w, ixN es v w) := by
  cases he : es[i]? with
  | none => unfold triN at h; rw [he] at h; cases h
  | some e =>
    obtain ⟨u, v, rfl, h1, h2, h3⟩ := edge_at hv i e he
    rw [triN_at es n i u v he] at h
    obtain ⟨w, hw, rfl⟩ := List.mem_map.1 h
    obtain ⟨a, b, c⟩ := (cmL_mem ..).1 hw
    exact ⟨u, v, w, rfl, h1, h2, a, h3, b, c, rfl⟩
/-- a triangle is one of each of its edges -/
theorem tri_of {n : Nat} {es : List E2} (hv : Valid n es) (u v w : Nat) (hw : w < n) (h1 : adjB es u v = true) (h2 : adjB es u w = true) (h3 : adjB es v w = true) : (ixN es u w, ixN es v w) ∈ triN es n (ixN es u v) ∨ (ixN es v w, ixN es u w) ∈ triN es n (ixN es u v) := by
  obtain ⟨hg, _⟩ := ixN_get hv u v h1
  obtain ⟨_, hne⟩ := adj_mem hv u v h1
  by_cases huv : u < v
  · rw [Int.min_eq_left (by omega), Int.max_eq_right (by omega)] at hg
    rw [triN_at es n _ u v hg]
    exact .inl (List.mem_map.2 ⟨w, (cmL_mem ..).2 ⟨hw, h2, h3⟩, rfl⟩)
  · rw [Int.min_eq_right (by omega), Int.max_eq_left (by omega)] at hg
    rw [triN_at es n _ v u hg]
    exact .inr (List.mem_map.2 ⟨w, (cmL_mem ..).2 ⟨hw, h3, h2⟩, rfl⟩)
theorem triH {n : Nat} {es : List E2} (hv : Valid n es) : TriH (triN es n) es.length := by
  refine ⟨fun x p hp => ?_, fun x => ?_, fun x p hp q hq b h1 h2 => ?_, fun x p hp => ?_, fun x p hp => ?_⟩
  · obtain ⟨u, v, w, hx, huv, hvn, hw, a1, a2, a3, rfl⟩ := tri_mem hv x p hp
    have hxx := ixN_at hv x u v hx
    have d1 := (adj_mem hv u w a2).2
    have d2 := (adj_mem hv v w a3).2
    refine ⟨(List.getElem?_eq_some_iff.1 hx).1, (ixN_get hv u w a2).2, (ixN_get hv v w a3).2, fun e => ?_, fun e => ?_, fun e => ?_⟩
    · have := ixN_inj hv a2 a3 e; omega
    · have := ixN_inj hv a2 a1 (e.trans hxx.symm); omega
    · have := ixN_inj hv a3 a1 (e.trans hxx.symm); omega
  · cases he : es[x]? with
    | none => unfold triN; rw [he]; exact List.nodup_nil
    | some e =>
      obtain ⟨u, v, rfl, h1, h2, h3⟩ := edge_at hv x e he
      rw [triN_at es n x u v he]
      unfold List.Nodup
      rw [List.pairwise_map]
      have hnd : (cmL es n u v).Nodup := List.nodup_range.filter _
      refine List.Pairwise.imp_of_mem ?_ hnd
      intro w w' hw hw' hne e
      obtain ⟨_, b1, _⟩ := (cmL_mem ..).1 hw
      obtain ⟨_, b2, _⟩ := (cmL_mem ..).1 hw'
      have := ixN_inj hv b1 b2 (congrArg Prod.fst e)
      omega
  · obtain ⟨u, v, w, hx, huv, hvn, hw, a1, a2, a3, rfl⟩ := tri_mem hv x p hp
    obtain ⟨u', v', w', hx', huv', hvn', hw', b1, b2, b3, rfl⟩ := tri_mem hv x q hq
    rw [hx] at hx'
    have e0 := Option.some.inj hx'
    have e1 := congrArg Prod.fst e0
    have e2 := congrArg Prod.snd e0
    simp only at e1 e2
    obtain rfl : u = u' := by omega
    obtain rfl : v = v' := by omega
    have c1 := (adj_mem hv u w a2).2
    have c2 := (adj_mem hv v w a3).2
    have c3 := (adj_mem hv u w' b2).2
    have c4 := (adj_mem hv v w' b3).2
    have hww : w = w' := by
      rcases h1 with h1 | h1 <;> rcases h2 with h2 | h2
      · have := ixN_inj hv a2 b2 (h1.trans h2.symm); omega
      · have := ixN_inj hv a2 b3 (h1.trans h2.symm); omega
      · have := ixN_inj hv a3 b2 (h1.trans h2.symm); omega
      · have := ixN_inj hv a3 b3 (h1.trans h2.symm); omega
    rw [hww]
  · obtain ⟨u, v, w, hx, huv, hvn, hw, a1, a2, a3, rfl⟩ := tri_mem hv x p hp
    have hxx := ixN_at hv x u v hx
    have a3' : adjB es w v = true := by rw [adj_comm]; exact a3
    have := tri_of hv u w v hvn a2 a1 a3'
    rw [hxx, ixN_comm es v w] at this
    exact this
  · obtain ⟨u, v, w, hx, huv, hvn, hw, a1, a2, a3, rfl⟩ := tri_mem hv x p hp
    have hxx := ixN_at hv x u v hx
    have a1' : adjB es v u = true := by rw [adj_comm]; exact a1
    have a2' : adjB es w u = true := by rw [adj_comm]; exact a2
    have := tri_of hv v w u (by omega) a3 a1' a2'
    rw [ixN_comm es u v, hxx, ixN_comm es u w] at this
    exact this
end Go.Proofs.YtbkacbbhiecnkaaDoor
