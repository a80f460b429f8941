/- Rows of numbers that are one's own: cloned, stored to, cut short, made with room. -/
import Derived.Test.YtdkmdcdoiaelfaaNumAt
import Derived.Maps.AppendAt
namespace Go.Proofs.Ytdkmdcdoiaelfaa
open Go.RowKit Go.BigFrame

theorem islice_nil (x : Addr) (n c : Nat) (w : World) : (binOp .eql 22 (.slice (some x) n c) (.slice none 0 0)).run Try.prog w = .ok (.bool false) w := by
  have h : ∀ d : Nat, (Op.equalIn (d + 1) 22 (.slice (some x) n c) (.slice none 0 0)).run Try.prog w = .ok false w := fun d => by
    simp [Op.equalIn, run_underlying Try.underlying22]
  simp only [binOp]
  simp [Op.equal, Op.maxDepth, h 9999]
set_option maxRecDepth 100000 in
theorem iclone_any (a : Option Addr) (cap : Nat) (xs : List Int) (w : World) (hi : IntsAt w (.slice a xs.length cap) xs) (hn : xs.length ≤ 1000000) :
    Calls Try.prog 111 #[.slice a xs.length cap] w fun e w' => ∃ x, e = .returned x ∧ w'.ownsRow w.heap.size 3 1 x xs.length (intsV xs) ∧ Below w.heap.size w w' := by
  obtain ⟨a', cap', hv, h1, h2, -, -⟩ := id hi
  obtain ⟨rfl, -, rfl⟩ : a = a' ∧ True ∧ cap = cap' := by simpa using hv
  clear hv
  cases a with
  | none =>
    obtain rfl := h2 rfl
    obtain rfl : xs = [] := List.eq_nil_of_length_eq_zero (by omega)
    have hnil := @Lib.run_eql_slice_nil
    go_enter Try.func111, Try.ntmps111
    go_wp2
    go_ret
    exact ⟨_, rfl, World.ownsRow_nil _ _ _ _, Below.refl _ _⟩
  | some ad =>
    clear h2
    have hnil := islice_nil ad xs.length cap
    have hb0 : Below w.heap.size w (w.alloc (.cells #[] 3)) := (Below.refl _ _).alloc (Nat.le_refl _) _
    have hown0 : (w.alloc (.cells #[] 3)).ownsRow w.heap.size 3 1 (.slice (some ⟨w.heap.size, 0, none⟩) 0 0) 0 (intsV []) := World.ownsRow_lit w #[] 0 (Nat.le_refl _) (by unfold maxLen; omega) rfl
    go_enter Try.func111, Try.ntmps111
    go_wp2_with (at_builtin; refine wpList_app_ints intsT rfl _ _ rfl w.heap.size _ _ [] xs rfl hown0 rfl (hi.below hb0) (by simp; omega) (by simp) ?_; intro v6 w6 hown6 hg6)
    go_ret
    have hb6 := below_app' hb0 hown0 hg6
    rw [List.nil_append] at hown6
    exact ⟨_, rfl, hown6, hb6⟩
/-- what a row of one's own holds, when it is not empty -/
theorem ownsI_at {w : World} {base n : Nat} {v : Value} {xs : List Int} (h : w.ownsRow base 3 1 v n (intsV xs)) (hn : 0 < n) : ∃ g cap, v = .slice (some ⟨g, 0, none⟩) n cap ∧ base ≤ g ∧ n ≤ cap ∧ g < w.heap.size ∧ (∀ j, w.frozen? ⟨g, j, none⟩ = false) ∧ ∀ i x, xs[i]? = some x → w.cell? ⟨g, i, none⟩ = some (.int .i64 x) := by
  obtain ⟨hl, ⟨rfl, h0⟩ | ⟨g, cp, cur, rfl, hg, hh, hc1, hc2, hsz, htk⟩⟩ := h
  · omega
  · refine ⟨g, cp, rfl, hg, hc1, blk_lt hh, fun j => free_blk hh, fun i x hi => ?_⟩
    rw [cell_blk hh]
    have hlt := (List.getElem?_eq_some_iff.1 hi).1
    have h1 : (intsV xs)[i]? = some (.int .i64 x) := by simp [intsV, hi]
    rw [← htk, List.getElem?_take] at h1
    split at h1
    · simpa using h1
    · cases h1
theorem ownsI_set {w : World} {base n cap g : Nat} {xs : List Int} (h : w.ownsRow base 3 1 (.slice (some ⟨g, 0, none⟩) n cap) n (intsV xs)) (i : Nat) (x : Int) : (w.setCell ⟨g, i, none⟩ (.int .i64 x)).ownsRow base 3 1 (.slice (some ⟨g, 0, none⟩) n cap) n (intsV (xs.set i x)) := by
  obtain ⟨hl, ⟨hv, h0⟩ | ⟨g', cp, cur, hv, hg, hh, hc1, hc2, hsz, htk⟩⟩ := h
  · cases hv
  · cases hv
    refine ⟨by simpa [intsV] using hl, .inr ⟨g, cap, cur.setIfInBounds i (.int .i64 x), rfl, hg, heap_setCell_same _ _ _ _ _ _ hh, hc1, hc2, by simpa using hsz, ?_⟩⟩
    have e1 : intsV (xs.set i x) = (intsV xs).set i (.int .i64 x) := by simp [intsV, List.map_set]
    rw [e1, ← htk, Array.toList_setIfInBounds, List.take_set]
theorem ownsI_take {w : World} {base n cap : Nat} {a : Option Addr} {xs : List Int} (h : w.ownsRow base 3 1 (.slice a n cap) n (intsV xs)) (k : Nat) (hk : k ≤ n) (ha : a ≠ none) : w.ownsRow base 3 1 (.slice a k cap) k (intsV (xs.take k)) := by
  obtain ⟨hl, ⟨hv, h0⟩ | ⟨g', cp, cur, hv, hg, hh, hc1, hc2, hsz, htk⟩⟩ := h
  · cases hv; exact absurd rfl ha
  · cases hv
    have hxl : xs.length = n := by simpa [intsV] using hl
    refine ⟨by simp [intsV]; omega, .inr ⟨g', cap, cur, rfl, hg, hh, by omega, hc2, hsz, ?_⟩⟩
    have e1 : intsV (xs.take k) = (intsV xs).take k := by simp [intsV, List.map_take]
    rw [e1, ← htk, List.take_take]
    congr 1
    omega
theorem make_room (n : Nat) (hn : n ≤ 1000000) : ∀ w, (Instr.makeSlice 22 (.int .i64 0) (.int .i64 (n : Int))).run Try.prog w = .ok (.slice (some ⟨w.heap.size, 0, none⟩) 0 n) (w.alloc (.cells (intsV (List.replicate n 0)).toArray 3)) := by
  intro w
  obtain ⟨i, hi, hz, hs, hb⟩ := info_parts intsT.info
  have h := run_make (P := Try.prog) w 22 3 i (.int .i64 0) Try.underlying22 hi hz .i64 .i64 0 (n : Int) (by omega) (by omega) (by rw [hb]; omega) (by omega)
  rw [h, hs]
  simp only [Int.toNat_natCast, Nat.mul_one, Value.cells]
  have hm : madeCells #[Value.int .i64 0] n = (intsV (List.replicate n 0)).toArray := by
    apply Array.ext_getElem?
    intro j
    simp only [madeCells, intsV]
    by_cases hj : j < n
    · simp [hj, Nat.mod_one]
    · simp [hj]
  rw [hm]
  rfl
theorem ownsI_room (w : World) (base n : Nat) (hb : base ≤ w.heap.size) (hn : n ≤ 1000000) : (w.alloc (.cells (intsV (List.replicate n 0)).toArray 3)).ownsRow base 3 1 (.slice (some ⟨w.heap.size, 0, none⟩) 0 n) 0 (intsV []) :=
  ⟨rfl, .inr ⟨w.heap.size, n, _, rfl, hb, heap_alloc_new _ _, Nat.zero_le _, by unfold maxLen; omega, by simp [intsV], by simp [intsV]⟩⟩
section
variable {P : Program} {w : World} {t e : TypeId}
/-- an append that tells where the grown row lies -/
theorem wpList_app_ints_at {ops : Array Oper} {rest : List Oper} {o : Oper} {a : Act} {Q : Exit → Act → World → Prop} (S : SliceT P t e (.int .i64 0) 1 8) (hgd : o.guard = none) (s x : Operand)
    (ho : o.op = .call { callee := .builtin .append, args := #[s, x], argTypes := #[t, t] }) (base : Nat) (v src : Value) (xs ys : List Int) (hs : a.eval s = v) (hown : w.ownsRow base e 1 v xs.length (intsV xs))
    (hx : a.eval x = src) (hsrc : IntsAt w src ys) (hlen : xs.length + ys.length ≤ 17592186044416) (hbase : base ≤ w.heap.size)
    (h : ∀ v' w', w'.ownsRow base e 1 v' (xs ++ ys).length (intsV (xs ++ ys)) → w.grownBy w' v.ownBlock → (v'.ownBlock = v.ownBlock ∨ v'.ownBlock = some w.heap.size) → wpList P ops Q rest (a.put o.dst v') w') : wpList P ops Q (o :: rest) a w := by
  refine wpList_plain hgd fun _ hK => ?_
  obtain ⟨i, hi, hz, hsz, hb⟩ := info_parts S.info
  obtain ⟨ao, c, rfl, hn, hc⟩ := news_of_ints hsrc
  have hone : ∀ u ∈ intsV ys, u.oneCell' = true := fun u hu => by
    simp only [intsV, List.mem_map] at hu
    obtain ⟨y, _, rfl⟩ := hu
    rfl
  obtain ⟨v', w', hr, h2, h3, h4⟩ : ∃ v' w', (Builtin.append_ #[t, t] o.type #[v, .slice ao ys.length c]).run P w = .ok v' w' ∧ w'.ownsRow base e 1 v' (xs.length + ys.length) (intsV xs ++ intsV ys) ∧ w.grownBy w' v.ownBlock ∧ (v'.ownBlock = v.ownBlock ∨ v'.ownBlock = some w.heap.size) := by
    cases ao with
    | none =>
      obtain ⟨h0, rfl⟩ := hn rfl
      obtain rfl : ys = [] := List.eq_nil_of_length_eq_zero h0
      exact ⟨v, w, run_append_owned_none w base t o.type e i 1 S.ht hi v xs.length (intsV xs) hown, by simpa [intsV] using hown, World.grownBy.refl _ _, .inl rfl⟩
    | some ad =>
      obtain ⟨v', w', h2, h3, h4, _, h5⟩ := run_append_own_at (P := P) w base t o.type e i (.int .i64 0) 1 8 S.ht hi hz hsz hb S.hzs S.hsz v xs.length (intsV xs) hown ad ys.length c (intsV ys) (by simp [intsV]) (hc ad rfl) hone (by unfold maxLen; omega) (by omega) hbase
      exact ⟨v', w', h2, h3, h4, h5⟩
  unfold Oper.wp execOp
  simp only [ho, resolve, invoke, builtin, Sem.run_bind, Sem.run_pure, Result.andThen_ok, List.map_toArray, List.map_cons, List.map_nil, hs, hx, hr]
  exact hK _ _ (h v' w' (by rw [List.length_append, show intsV (xs ++ ys) = intsV xs ++ intsV ys by simp [intsV]]; exact h2) h3 h4)
end
end Go.Proofs.Ytdkmdcdoiaelfaa
