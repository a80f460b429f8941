/- Slices of structs of any number of one-cell fields, read at a world; append, copy as laws. -/
import Derived.Test.YtdkmdcdoiaelfaaGreatApp
import Derived.Laws.CopyOwn
import Derived.Lib.AppendZerosOnto
import Derived.Lib.Overlaps
import Derived.Laws.Externs
namespace Go.Proofs.YtdkmdcdoiaelfaaGreat
open Go.RowKit

/-- how an element lies in its cells -/
structure Enc (α : Type) where
  k : Nat
  enc : α → List Value
  len : ∀ x, (enc x).length = k
  one : ∀ x, ∀ u ∈ enc x, u.oneCell' = true
  pos : 0 < k
section
variable {α : Type} (E : Enc α)
def flatR (xs : List α) : List Value := xs.flatMap E.enc
theorem flatR_length (xs : List α) : (flatR E xs).length = xs.length * E.k := by
  induction xs with
  | nil => simp [flatR]
  | cons x xs ih =>
    have e : flatR E (x :: xs) = E.enc x ++ flatR E xs := by simp [flatR]
    rw [e, List.length_append, ih, E.len, List.length_cons, Nat.succ_mul, Nat.add_comm]
theorem flatR_append (a b : List α) : flatR E (a ++ b) = flatR E a ++ flatR E b := by simp [flatR]
theorem flatR_one (x : α) : flatR E [x] = E.enc x := by simp [flatR]
theorem flatR_cons (x : α) (xs : List α) : flatR E (x :: xs) = E.enc x ++ flatR E xs := by simp [flatR]
theorem flatR_get : ∀ (xs : List α) (i : Nat) (x : α), xs[i]? = some x → ∀ j u, (E.enc x)[j]? = some u → (flatR E xs)[i * E.k + j]? = some u := by
  intro xs
  induction xs with
  | nil => intro i x h; simp at h
  | cons y xs ih =>
    intro i x h j u hu
    rw [flatR_cons]
    cases i with
    | zero =>
      simp only [List.getElem?_cons_zero, Option.some.injEq] at h
      subst h
      have hj := (List.getElem?_eq_some_iff.1 hu).1
      rw [Nat.zero_mul, Nat.zero_add, List.getElem?_append_left hj]; exact hu
    | succ i =>
      simp only [List.getElem?_cons_succ] at h
      have := ih i x h j u hu
      have e : (i + 1) * E.k + j = E.k + (i * E.k + j) := by rw [Nat.succ_mul]; omega
      rw [e, List.getElem?_append_right (by rw [E.len]; omega), E.len, Nat.add_sub_cancel_left]
      exact this
theorem flatR_drop (xs : List α) (i : Nat) : (flatR E xs).drop (i * E.k) = flatR E (xs.drop i) := by
  by_cases h : i ≤ xs.length
  · have e : flatR E xs = flatR E (xs.take i) ++ flatR E (xs.drop i) := by rw [← flatR_append, List.take_append_drop]
    have hl : (flatR E (xs.take i)).length = i * E.k := by rw [flatR_length, List.length_take, Nat.min_eq_left h]
    rw [e, List.drop_append_of_le_length (by omega), List.drop_of_length_le (by omega)]; rfl
  · have hl := Nat.mul_le_mul_right E.k (show xs.length ≤ i by omega)
    rw [List.drop_of_length_le (by rw [flatR_length]; exact hl), List.drop_of_length_le (by omega)]; rfl
theorem flatR_oneCell (xs : List α) : ∀ u ∈ flatR E xs, u.oneCell' = true := by
  intro u hu
  obtain ⟨x, _, hx⟩ := List.mem_flatMap.1 hu
  exact E.one x u hx

/-- a slice that reads as these elements -/
def RowAt (w : World) (v : Value) (xs : List α) : Prop :=
  ∃ a cap, v = .slice a xs.length cap ∧ xs.length ≤ cap ∧ (a = none → cap = 0) ∧ xs.length ≤ 1099511627776 ∧ ∀ j u, (flatR E xs)[j]? = some u → ∃ b off, a = some ⟨b, off, none⟩ ∧ w.cell? ⟨b, off + j, none⟩ = some u
variable {E}
theorem RowAt.map {w w' : World} {v : Value} {xs : List α} (h : RowAt E w v xs) (hc : ∀ b o x, w.cell? ⟨b, o, none⟩ = some x → (∀ n c p, v = .slice (some p) n c → p.block = b) → w'.cell? ⟨b, o, none⟩ = some x) : RowAt E w' v xs := by
  obtain ⟨a, cap, rfl, h1, h2, h3, h4⟩ := h
  refine ⟨a, cap, rfl, h1, h2, h3, fun j u hu => ?_⟩
  obtain ⟨b, off, rfl, c0⟩ := h4 j u hu
  exact ⟨b, off, rfl, hc _ _ _ c0 (fun n c p e => by cases e; rfl)⟩
theorem RowAt.below {w w' : World} {v : Value} {xs : List α} (h : RowAt E w v xs) (hb : Below w.heap.size w w') : RowAt E w' v xs :=
  h.map fun b o _ hx _ => (hb.cell (p := ⟨b, o, none⟩) (cell_lt hx)).trans hx
theorem RowAt.grown {w w' : World} {v : Value} {xs : List α} {r : Option Nat} (h : RowAt E w v xs) (hg : w.grownBy w' r) (hr : ∀ g, r = some g → Off g v) : RowAt E w' v xs := by
  obtain ⟨a, cap, rfl, h1, h2, h3, h4⟩ := h
  refine ⟨a, cap, rfl, h1, h2, h3, fun i u hu => ?_⟩
  obtain ⟨b, off, rfl, c0⟩ := h4 i u hu
  have hne : some b ≠ r := fun e => hr b e.symm _ _ _ rfl rfl
  exact ⟨b, off, rfl, hg.cell c0 hne⟩
theorem RowAt.shape {w : World} {v : Value} {xs : List α} (h : RowAt E w v xs) : ∃ a cap, v = .slice a xs.length cap ∧ xs.length ≤ cap ∧ (a = none → cap = 0) := by
  obtain ⟨a, cap, rfl, h1, h2, _⟩ := h; exact ⟨a, cap, rfl, h1, h2⟩
theorem RowAt.small {w : World} {v : Value} {xs : List α} (h : RowAt E w v xs) : xs.length ≤ 1099511627776 := by
  obtain ⟨a, cap, rfl, h1, h2, h3, _⟩ := h; exact h3
theorem RowAt.nil (w : World) : RowAt E w (.slice none 0 0) [] := ⟨none, 0, rfl, Nat.le_refl _, fun _ => rfl, by simp, fun j u h => by simp [flatR] at h⟩
theorem take_at {β : Type} (l : List β) (k : Nat) (x : β) (h : l[k]? = some x) : l.take (k + 1) = l.take k ++ [x] := by
  obtain ⟨hk, he⟩ := List.getElem?_eq_some_iff.1 h
  rw [List.take_succ_eq_append_getElem hk, he]
/-- the element at a place, and its cells -/
theorem RowAt.elem {w : World} {a : Option Addr} {cap : Nat} {xs : List α} (h : RowAt E w (.slice a xs.length cap) xs) (i : Nat) (hi : i < xs.length) :
    ∃ b off x, a = some ⟨b, off, none⟩ ∧ xs[i]? = some x ∧ xs.length ≤ cap ∧ ∀ j u, (E.enc x)[j]? = some u → w.cell? ⟨b, off + i * E.k + j, none⟩ = some u := by
  obtain ⟨a', cap', e, h1, h2, h3, h4⟩ := h
  cases e
  have hx : xs[i]? = some xs[i] := List.getElem?_eq_getElem hi
  have h0 : (E.enc xs[i])[0]? = some ((E.enc xs[i])[0]'(by rw [E.len]; exact E.pos)) := List.getElem?_eq_getElem _
  obtain ⟨b, off, rfl, _⟩ := h4 _ _ (flatR_get E xs i _ hx 0 _ h0)
  refine ⟨b, off, xs[i], rfl, hx, h1, fun j u hu => ?_⟩
  obtain ⟨b', off', e, c⟩ := h4 _ _ (flatR_get E xs i _ hx j u hu)
  cases e
  rw [Nat.add_assoc]; exact c
/-- a part from a place on -/
theorem RowAt.drop {w : World} {b off cap : Nat} {xs : List α} (h : RowAt E w (.slice (some ⟨b, off, none⟩) xs.length cap) xs) (i cap' : Nat) (hc : xs.length - i ≤ cap') : RowAt E w (.slice (some ⟨b, off + i * E.k, none⟩) (xs.length - i) cap') (xs.drop i) := by
  obtain ⟨a', capx, e, h1, h2, h3, h4⟩ := h
  cases e
  have hl : (xs.drop i).length = xs.length - i := List.length_drop
  refine ⟨_, cap', by rw [hl], by rw [hl]; exact hc, (fun h => by cases h), by rw [hl]; omega, fun j u hu => ?_⟩
  rw [← flatR_drop, List.getElem?_drop] at hu
  obtain ⟨b', off', e, c⟩ := h4 _ _ hu
  cases e
  exact ⟨b, off + i * E.k, rfl, by rw [Nat.add_assoc]; exact c⟩
/-- no element: whatever address -/
theorem RowAt.void {w : World} {a : Option Addr} {cap : Nat} (hn : a = none → cap = 0) : RowAt E w (.slice a 0 cap) [] := ⟨a, cap, rfl, Nat.zero_le _, hn, by simp, fun j u h => by simp [flatR] at h⟩
theorem RowAt.of_owns {w : World} {base T : Nat} {v : Value} {xs : List α} (h : w.ownsRow base T E.k v xs.length (flatR E xs)) (hl : xs.length ≤ 1099511627776) :
    ∃ a cap, v = .slice a xs.length cap ∧ RowAt E w (.slice a xs.length cap) xs ∧ (∀ p, a = some p → base ≤ p.block) := by
  rcases h.2 with ⟨rfl, h0⟩ | ⟨g, cap, cur, rfl, hb, hg, hn, hc, hs, ht⟩
  · refine ⟨none, 0, by rw [h0], ?_, fun p hp => by cases hp⟩
    obtain rfl : xs = [] := List.eq_nil_of_length_eq_zero h0
    exact RowAt.nil w
  · refine ⟨_, cap, rfl, ⟨_, cap, rfl, hn, (fun h => by cases h), hl, fun j u hu => ⟨g, 0, rfl, ?_⟩⟩, fun p hp => by cases hp; exact hb⟩
    have hlt := (List.getElem?_eq_some_iff.1 hu).1
    rw [flatR_length] at hlt
    have := h.cellAt (0 + j) (by omega)
    rw [this, Nat.zero_add]
    exact hu
theorem news_of_rows {w : World} {src : Value} {ys : List α} (h : RowAt E w src ys) : ∃ ao c, src = .slice ao ys.length c ∧ (ao = none → ys.length = 0 ∧ c = 0) ∧ (∀ ad, ao = some ad → ∀ j u, (flatR E ys)[j]? = some u → w.cell? (ad.add j) = some u) := by
  obtain ⟨ao, c, rfl, h1, h2, h3, h4⟩ := h
  refine ⟨ao, c, rfl, fun e => ⟨by have := h2 e; omega, h2 e⟩, ?_⟩
  rintro ad rfl j u hu
  obtain ⟨b, off, hb, c0⟩ := h4 j u hu
  cases hb
  rw [Addr.add_lit]; exact c0

variable {P : Program} {w : World} {t e : TypeId} {z : Value} {bytes : Nat}
theorem wp_app_rows {o : Oper} {a : Act} {K : Act → World → Prop} {Q : Exit → Act → World → Prop} (S : SliceT P t e z E.k bytes) (s x : Operand)
    (ho : o.op = .call { callee := .builtin .append, args := #[s, x], argTypes := #[t, t] }) (base : Nat) (v src : Value) (xs ys : List α) (hs : a.eval s = v) (hown : w.ownsRow base e E.k v xs.length (flatR E xs))
    (hx : a.eval x = src) (hsrc : RowAt E w src ys) (hlen : (xs.length + ys.length) * bytes ≤ 140737488355328) (hlen2 : xs.length + ys.length ≤ 140737488355328) (hbase : base ≤ w.heap.size)
    (h : ∀ v' w', w'.ownsRow base e E.k v' (xs ++ ys).length (flatR E (xs ++ ys)) → w.grownBy w' v.ownBlock → K (a.put o.dst v') w') : o.wp P a w K Q := by
  obtain ⟨ao, c, rfl, hn, hc⟩ := news_of_rows hsrc
  refine wp_app S s x ho base v xs.length (flatR E xs) hs hown ao ys.length c (flatR E ys) hx (flatR_length E ys) hn hc (flatR_oneCell E ys) (by unfold maxLen; omega) hlen hbase ?_
  intro v' w' h1 h2
  exact h v' w' (by rw [List.length_append, flatR_append]; exact h1) h2
theorem wpList_app_rows {ops : Array Oper} {rest : List Oper} {o : Oper} {a : Act} {Q : Exit → Act → World → Prop} (S : SliceT P t e z E.k bytes) (hgd : o.guard = none) (s x : Operand)
    (ho : o.op = .call { callee := .builtin .append, args := #[s, x], argTypes := #[t, t] }) (base : Nat) (v src : Value) (xs ys : List α) (hs : a.eval s = v) (hown : w.ownsRow base e E.k v xs.length (flatR E xs))
    (hx : a.eval x = src) (hsrc : RowAt E w src ys) (hlen : (xs.length + ys.length) * bytes ≤ 140737488355328) (hlen2 : xs.length + ys.length ≤ 140737488355328) (hbase : base ≤ w.heap.size)
    (h : ∀ v' w', w'.ownsRow base e E.k v' (xs ++ ys).length (flatR E (xs ++ ys)) → w.grownBy w' v.ownBlock → wpList P ops Q rest (a.put o.dst v') w') : wpList P ops Q (o :: rest) a w :=
  wpList_plain hgd fun _ hK => wp_app_rows S s x ho base v src xs ys hs hown hx hsrc hlen hlen2 hbase fun v' w' h1 h2 => hK _ _ (h v' w' h1 h2)
/-- one element, laid in a new block -/
theorem rows_lit1 (w : World) (x : α) (T : TypeId) (cs : Array Value) (hcs : cs.toList = E.enc x) : RowAt E (w.alloc (.cells cs T)) (.slice (some ⟨w.heap.size, 0, none⟩) 1 1) [x] := by
  refine ⟨_, 1, rfl, Nat.le_refl _, (fun h => by cases h), by simp, fun j u hj => ⟨w.heap.size, 0, rfl, ?_⟩⟩
  rw [cell_blk (heap_alloc_new _ _), Nat.zero_add]
  rw [flatR_one, ← hcs] at hj
  simpa using hj

/-- copy into a block that is known whole -/
theorem run_copy_rowK (w : World) (dT sT ty elem k : Nat) (g o dLen dCap : Nat) (a : Addr) (sLen sCap : Nat) (cur : Array Value) (t : TypeId) (cs : List Value)
    (hu : P.underlying dT = some (.slice elem)) (hs : (P.info? elem).map (·.size) = some k)
    (hg : w.heap[g]? = some (.cells cur t (0, 0))) (hn : cs.length = Nat.min sLen dLen * k)
    (hsrc : ∀ j v, cs[j]? = some v → w.cell? (a.add j) = some v) (hfit : o + cs.length ≤ cur.size) (h1 : ∀ v ∈ cs, v.oneCell' = true) :
    (Builtin.copy_ #[dT, sT] ty #[.slice (some ⟨g, o, none⟩) dLen dCap, .slice (some a) sLen sCap]).run P w =
      .ok (goInt (Nat.min sLen dLen)) (w.setRow g (splice cur.toList o cs).toArray) := by
  have hl := run_firstCells_some (P := P) w k (Nat.min sLen dLen) a sLen sCap cs hn hsrc
  have hst := run_storeCells_at P g o t cs 0 cur w hg (by simpa using hfit) h1
  rw [Nat.add_zero] at hst
  cases hq : P.info? elem with
  | none => simp [hq] at hs
  | some i =>
    have hi : i.size = k := by simpa [hq] using hs
    have e : splice cur.toList o cs = cur.toList.take o ++ cs ++ cur.toList.drop (o + cs.length) := by simp [splice]
    rw [e]
    simp [Builtin.copy_, run_underlying hu, Builtin.lenOf, sizeOf, typeInfo, hq, hi, hl, hst]

theorem wp_copy_eq {o : Oper} {a : Act} {K : Act → World → Prop} {Q : Exit → Act → World → Prop} (d s : Operand) (t t' : TypeId)
    (ho : o.op = .call { callee := .builtin .copy, args := #[d, s], argTypes := #[t, t'] }) (v u : Value) (hd : a.eval d = v) (hs : a.eval s = u) {v' : Value} {w' : World}
    (hr : (Builtin.copy_ #[t, t'] o.type #[v, u]).run P w = .ok v' w') (h : K (a.put o.dst v') w') : o.wp P a w K Q := by
  unfold Oper.wp execOp
  simp only [ho, resolve, invoke, builtin, Sem.run_bind, Sem.run_pure, Result.andThen_ok, List.map_toArray, List.map_cons, List.map_nil, hd, hs, hr]
  exact h
theorem wpList_copy_eq {ops : Array Oper} {rest : List Oper} {o : Oper} {a : Act} {Q : Exit → Act → World → Prop} (hgd : o.guard = none) (d s : Operand) (t t' : TypeId)
    (ho : o.op = .call { callee := .builtin .copy, args := #[d, s], argTypes := #[t, t'] }) (v u : Value) (hd : a.eval d = v) (hs : a.eval s = u) {v' : Value} {w' : World}
    (hr : (Builtin.copy_ #[t, t'] o.type #[v, u]).run P w = .ok v' w') (h : wpList P ops Q rest (a.put o.dst v') w') : wpList P ops Q (o :: rest) a w :=
  wpList_plain hgd fun _ hK => wp_copy_eq d s t t' ho v u hd hs hr (hK _ _ h)
end
theorem cells4 {w : World} {g T : Nat} {x y z u : Value} (h : w.heap[g]? = some (.cells #[x, y, z, u] T (0, 0))) : w.cell? ⟨g, 0, none⟩ = some x ∧ w.cell? ⟨g, 1, none⟩ = some y ∧ w.cell? ⟨g, 2, none⟩ = some z ∧ w.cell? ⟨g, 3, none⟩ = some u :=
  ⟨by rw [cell_blk h]; rfl, by rw [cell_blk h]; rfl, by rw [cell_blk h]; rfl, by rw [cell_blk h]; rfl⟩
end Go.Proofs.YtdkmdcdoiaelfaaGreat
