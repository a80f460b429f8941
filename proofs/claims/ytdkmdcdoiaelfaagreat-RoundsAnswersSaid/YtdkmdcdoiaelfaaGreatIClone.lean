/- Rows of numbers that are one's own: cloned, stored to, cut short, made with room. -/
import Derived.Test.YtdkmdcdoiaelfaaGreatNumAt
import Derived.Maps.AppendAt
namespace Go.Proofs.YtdkmdcdoiaelfaaGreat
open Go.RowKit Go.BigFrame

theorem islice_nil (x : Addr) (n c : Nat) (w : World) : (binOp .eql 22 (.slice (some x) n c) (.slice none 0 0)).run Tryz.prog w = .ok (.bool false) w := by
  have h : ∀ d : Nat, (Op.equalIn (d + 1) 22 (.slice (some x) n c) (.slice none 0 0)).run Tryz.prog w = .ok false w := fun d => by
    simp [Op.equalIn, run_underlying Tryz.underlying22]
  simp only [binOp]
  simp [Op.equal, Op.maxDepth, h 9999]
set_option maxRecDepth 100000 in
theorem iclone_any (a : Option Addr) (cap : Nat) (xs : List Int) (w : World) (hi : IntsAt w (.slice a xs.length cap) xs) (hn : xs.length ≤ 1000000) :
    Calls Tryz.prog 46 #[.slice a xs.length cap] w fun e w' => ∃ x, e = .returned x ∧ w'.ownsRow w.heap.size 3 1 x xs.length (intsV xs) ∧ Below w.heap.size w w' := by
  obtain ⟨a', cap', hv, h1, h2, -, -⟩ := id hi
  obtain ⟨rfl, -, rfl⟩ : a = a' ∧ True ∧ cap = cap' := by simpa using hv
  clear hv
  cases a with
  | none =>
    obtain rfl := h2 rfl
    obtain rfl : xs = [] := List.eq_nil_of_length_eq_zero (by omega)
    have hnil := @Lib.run_eql_slice_nil
    go_enter Tryz.func46, Tryz.ntmps46
    go_wp2
    go_ret
    exact ⟨_, rfl, World.ownsRow_nil _ _ _ _, Below.refl _ _⟩
  | some ad =>
    clear h2
    have hnil := islice_nil ad xs.length cap
    have hb0 : Below w.heap.size w (w.alloc (.cells #[] 3)) := (Below.refl _ _).alloc (Nat.le_refl _) _
    have hown0 : (w.alloc (.cells #[] 3)).ownsRow w.heap.size 3 1 (.slice (some ⟨w.heap.size, 0, none⟩) 0 0) 0 (intsV []) := World.ownsRow_lit w #[] 0 (Nat.le_refl _) (by unfold maxLen; omega) rfl
    go_enter Tryz.func46, Tryz.ntmps46
    go_wp2_with (at_builtin; refine wpList_app_ints intsT rfl _ _ rfl w.heap.size _ _ [] xs rfl hown0 rfl (hi.below hb0) (by simp; omega) (by simp) ?_; intro v6 w6 hown6 hg6)
    go_ret
    have hb6 := below_app' hb0 hown0 hg6
    rw [List.nil_append] at hown6
    exact ⟨_, rfl, hown6, hb6⟩
/-- what a row of one's own holds, when it is not empty -/
theorem ownsI_at {w : World} {base n : Nat} {v : Value} {xs : List Int} (h : w.ownsRow base 3 1 v n (intsV xs)) (hn : 0 < n) : ∃ g cap, v = .slice (some ⟨g, 0, none⟩) n cap ∧ base ≤ g ∧ n ≤ cap ∧ g < w.heap.size ∧ (∀ j, w.frozen? ⟨g, j, none⟩ = false) ∧ ∀ i x, xs[i]? = some x → w.cell? ⟨g, i, none⟩ = some (.int .i64 x) := by
  obtain ⟨hl, ⟨rfl, h0⟩ | ⟨g, cp, cur, rfl, hg, hh, hc1, hc2, hsz, htk⟩⟩ := h
  · omega
  · refine ⟨g, cp, rfl, hg, hc1, blk_lt hh, fun j => free_blk hh, fun i x hi => ?_⟩
    rw [cell_blk hh]
    have hlt := (List.getElem?_eq_some_iff.1 hi).1
    have h1 : (intsV xs)[i]? = some (.int .i64 x) := by simp [intsV, hi]
    rw [← htk, List.getElem?_take] at h1
    split at h1
    · simpa using h1
    · cases h1
theorem ownsI_set {w : World} {base n cap g : Nat} {xs : List Int} (h : w.ownsRow base 3 1 (.slice (some ⟨g, 0, none⟩) n cap) n (intsV xs)) (i : Nat) (x : Int) : (w.setCell ⟨g, i, none⟩ (.int .i64 x)).ownsRow base 3 1 (.slice (some ⟨g, 0, none⟩) n cap) n (intsV (xs.set i x)) := by
  obtain ⟨hl, ⟨hv, h0⟩ | ⟨g', cp, cur, hv, hg, hh, hc1, hc2, hsz, htk⟩⟩ := h
  · cases hv
  · cases hv
    refine ⟨by simpa [intsV] using hl, .inr ⟨g, cap, cur.setIfInBounds i (.int .i64 x), rfl, hg, heap_setCell_same _ _ _ _ _ _ hh, hc1, hc2, by simpa using hsz, ?_⟩⟩
    have e1 : intsV (xs.set i x) = (intsV xs).set i (.int .i64 x) := by simp [intsV, List.map_set]
    rw [e1, ← htk, Array.toList_setIfInBounds, List.take_set]
section
variable {P : Program} {w : World} {t e : TypeId}
end
end Go.Proofs.YtdkmdcdoiaelfaaGreat
