/- Appends of rows that also tell where the grown row lies. -/
import Derived.Test.YtdkmdcdoiaelfaaGreatSeqs
import Derived.Maps.AppendAt
namespace Go.Proofs.YtdkmdcdoiaelfaaGreat
open Go.RowKit Go.BigFrame

section
variable {α : Type} {E : Enc α} {P : Program} {w : World} {t e : TypeId} {z : Value} {bytes : Nat}
theorem wp_app_rows_at {o : Oper} {a : Act} {K : Act → World → Prop} {Q : Exit → Act → World → Prop} (S : SliceT P t e z E.k bytes) (s x : Operand)
    (ho : o.op = .call { callee := .builtin .append, args := #[s, x], argTypes := #[t, t] }) (base : Nat) (v src : Value) (xs ys : List α) (hs : a.eval s = v) (hown : w.ownsRow base e E.k v xs.length (flatR E xs))
    (hx : a.eval x = src) (hsrc : RowAt E w src ys) (hlen : (xs.length + ys.length) * bytes ≤ 140737488355328) (hlen2 : xs.length + ys.length ≤ 140737488355328) (hbase : base ≤ w.heap.size)
    (h : ∀ v' w', w'.ownsRow base e E.k v' (xs ++ ys).length (flatR E (xs ++ ys)) → w.grownBy w' v.ownBlock → (v'.ownBlock = v.ownBlock ∨ v'.ownBlock = some w.heap.size) → K (a.put o.dst v') w') : o.wp P a w K Q := by
  obtain ⟨i, hi, hz, hsz, hb⟩ := info_parts S.info
  obtain ⟨ao, c, rfl, hn, hc⟩ := news_of_rows hsrc
  obtain ⟨v', w', hr, h2, h3, h4⟩ : ∃ v' w', (Builtin.append_ #[t, t] o.type #[v, .slice ao ys.length c]).run P w = .ok v' w' ∧ w'.ownsRow base e E.k v' (xs.length + ys.length) (flatR E xs ++ flatR E ys) ∧ w.grownBy w' v.ownBlock ∧ (v'.ownBlock = v.ownBlock ∨ v'.ownBlock = some w.heap.size) := by
    cases ao with
    | none =>
      obtain ⟨h0, rfl⟩ := hn rfl
      obtain rfl : ys = [] := List.eq_nil_of_length_eq_zero h0
      refine ⟨v, w, run_append_owned_none w base t o.type e i E.k S.ht hi v xs.length (flatR E xs) hown, ?_, World.grownBy.refl _ _, .inl rfl⟩
      simpa [flatR] using hown
    | some ad =>
      obtain ⟨v', w', h2, h3, h4, _, h5⟩ := run_append_own_at (P := P) w base t o.type e i z E.k bytes S.ht hi hz hsz hb S.hzs S.hsz v xs.length (flatR E xs) hown ad ys.length c (flatR E ys) (flatR_length E ys) (hc ad rfl) (flatR_oneCell E ys) (by unfold maxLen; omega) hlen hbase
      exact ⟨v', w', h2, h3, h4, h5⟩
  unfold Oper.wp execOp
  simp only [ho, resolve, invoke, builtin, Sem.run_bind, Sem.run_pure, Result.andThen_ok, List.map_toArray, List.map_cons, List.map_nil, hs, hx, hr]
  exact h v' w' (by rw [List.length_append, flatR_append]; exact h2) h3 h4
theorem wpList_app_rows_at' {ops : Array Oper} {rest : List Oper} {o : Oper} {a : Act} {Q : Exit → Act → World → Prop} (S : SliceT P t e z E.k bytes) (hgd : o.guard = none) (s x : Operand)
    (ho : o.op = .call { callee := .builtin .append, args := #[s, x], argTypes := #[t, t] }) (base : Nat) (v src : Value) (xs ys : List α) (hs : a.eval s = v) (hown : w.ownsRow base e E.k v xs.length (flatR E xs))
    (hx : a.eval x = src) (hsrc : RowAt E w src ys) (hlen : (xs.length + ys.length) * bytes ≤ 140737488355328) (hlen2 : xs.length + ys.length ≤ 140737488355328) (hbase : base ≤ w.heap.size)
    (h : ∀ v' w', w'.ownsRow base e E.k v' (xs ++ ys).length (flatR E (xs ++ ys)) → w.grownBy w' v.ownBlock → (v'.ownBlock = v.ownBlock ∨ v'.ownBlock = some w.heap.size) → wpList P ops Q rest (a.put o.dst v') w') : wpList P ops Q (o :: rest) a w :=
  wpList_plain hgd fun _ hK => wp_app_rows_at S s x ho base v src xs ys hs hown hx hsrc hlen hlen2 hbase fun v' w' h1 h2 h3 => hK _ _ (h v' w' h1 h2 h3)
end
end Go.Proofs.YtdkmdcdoiaelfaaGreat
