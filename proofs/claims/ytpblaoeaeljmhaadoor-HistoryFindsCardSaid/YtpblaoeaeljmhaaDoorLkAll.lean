/- The contract of applying events. -/
import Derived.Test.YtpblaoeaeljmhaaDoorLkApply
namespace Go.Proofs.YtpblaoeaeljmhaaDoor
open Go.RowKit Go.BigFrame

theorem setL_mem (x : Lk) : ∀ (ls : List Lk) (y : Lk), y ∈ setL x ls → y = x ∨ y ∈ ls := by
  intro ls
  induction ls with
  | nil => intro y h; simp [setL] at h; exact .inl h
  | cons l ls ih =>
    intro y h
    unfold setL at h
    split at h
    · rcases List.mem_cons.1 h with h | h
      · exact .inl h
      · exact .inr h
    · split at h
      · rcases List.mem_cons.1 h with h | h
        · exact .inl h
        · exact .inr (List.mem_cons_of_mem _ h)
      · rcases List.mem_cons.1 h with h | h
        · exact .inr (by rw [h]; exact List.mem_cons_self)
        · rcases ih y h with h | h
          · exact .inl h
          · exact .inr (List.mem_cons_of_mem _ h)
theorem setL_sorted (x : Lk) : ∀ ls : List Lk, ls.Pairwise (fun a b => lkB a b = true) → (setL x ls).Pairwise (fun a b => lkB a b = true) := by
  intro ls
  induction ls with
  | nil => intro _; simp [setL]
  | cons l ls ih =>
    intro h
    obtain ⟨h1, h2⟩ := List.pairwise_cons.1 h
    unfold setL
    split
    · rename_i hx
      refine List.pairwise_cons.2 ⟨fun y hy => ?_, h⟩
      rcases List.mem_cons.1 hy with rfl | hy
      · exact hx
      · exact lkB_trans hx (h1 y hy)
    · rename_i hx
      split
      · rename_i hs
        refine List.pairwise_cons.2 ⟨fun y hy => ?_, h2⟩
        have h3 := h1 y hy
        rw [sameE_iff] at hs
        rw [lkB_iff] at h3 ⊢
        omega
      · rename_i hs
        refine List.pairwise_cons.2 ⟨fun y hy => ?_, ih h2⟩
        rcases setL_mem x ls y hy with rfl | hy
        · rcases lk_tri l y with h4 | h4 | h4
          · exact h4
          · exact absurd h4 hx
          · exact absurd h4 hs
        · exact h1 y hy
theorem fit_zero {n : Int} {e : Ev} (h : fitS n e = 0) : evS e = 0 ∧ e.u < n ∧ e.v < n := by
  unfold fitS at h
  split at h
  · rename_i h1; exact absurd h h1
  · rename_i h1
    split at h
    · simp at h
    · exact ⟨by simpa using h1, by omega, by omega⟩
theorem stepL_valid {n : Int} {e : Ev} {ls : List Lk} (hv : VSt n ls) (h : fitS n e = 0) : VSt n (stepL e ls) := by
  obtain ⟨h1, h2, h3⟩ := fit_zero h
  refine ⟨hv.1, hv.2.1, fun l hl => ?_, ?_⟩
  · unfold stepL at hl
    split at hl
    · rename_i hk
      rcases setL_mem _ _ _ hl with rfl | hl
      · unfold evS at h1
        split at h1
        · simp at h1
        · split at h1
          · simp at h1
          · rename_i ht
            split at h1
            · simp at h1
            · rename_i he
              split at h1
              · rename_i ha
                have he' : evEnds e = true := by simpa using he
                unfold evEnds at he'
                rw [if_neg (by omega)] at he'
                simp only [nodeB, Bool.and_eq_true, decide_eq_true_eq] at he'
                unfold LkOk ofEv
                refine ⟨?_, ?_, ?_, ha, ?_, ?_⟩ <;> (dsimp only; omega)
              · simp at h1
      · exact hv.2.2.1 l hl
    · exact hv.2.2.1 l (List.mem_filter.1 hl).1
  · unfold stepL
    split
    · exact setL_sorted _ _ hv.2.2.2
    · exact hv.2.2.2.sublist List.filter_sublist
/-- what All returns, from a state, a place and a count on -/
def allF (n : Int) : List Lk → List Ev → Nat → Nat → (Int × List Lk) × Int × Int
  | ls, [], _, c => ((n, ls), (c : Int), 0)
  | ls, e :: es, i, c => if fitS n e ≠ 0 then ((0, []), (i : Int), fitS n e) else allF n (stepL e ls) es (i + 1) (c + (stepC e ls).length)
def allX (n : Int) (ls : List Lk) (es : List Ev) : (Int × List Lk) × Int × Int := if stS n ls ≠ 0 then ((0, []), 0, stS n ls) else allF n ls es 0 0
theorem stepC_len (e : Ev) (ls : List Lk) : (stepC e ls).length ≤ ls.length + 1 := by
  unfold stepC
  split
  · split <;> simp
  · rw [List.length_map]
    exact Nat.le_succ_of_le (List.length_filter_le _ _)
theorem row_off {α : Type} {E : Enc α} {w : World} {a : Option Addr} {cap g T : Nat} {xs : List α} {x y : Value} (hk : 2 < E.k) (h : RowAt E w (.slice a xs.length cap) xs) (h0 : 0 < xs.length) (hb : w.heap[g]? = some (.cells #[x, y] T (0, 0))) : ∀ p, a = some p → p.block ≠ g := fun p hp e => by
  obtain ⟨b, off, z, ha, _, _, hat⟩ := h.elem 0 h0
  have hu : (E.enc z)[2]? = some ((E.enc z)[2]'(by rw [E.len]; exact hk)) := List.getElem?_eq_getElem _
  have hc := hat 2 _ hu
  rw [hp] at ha
  cases ha
  dsimp only at e
  rw [e, cell_blk hb] at hc
  have : (#[x, y] : Array Value)[off + 0 * E.k + 2]? = none := by
    rw [Array.getElem?_eq_none_iff]; simp
  rw [this] at hc
  cases hc
def AllPost (w : World) (r : (Int × List Lk) × Int × Int) (e : Ending) (w' : World) : Prop :=
  ∃ a1 c1, e = .returned (.tuple #[.agg #[.int .i64 r.1.1, .slice a1 r.1.2.length c1], .int .i64 r.2.1, .int .i64 r.2.2]) ∧ RowAt encLk w' (.slice a1 r.1.2.length c1) r.1.2 ∧ (∀ p, a1 = some p → w.heap.size ≤ p.block) ∧ Below w.heap.size w w'
/-- the boxes of All -/
structure AlW (w wr : World) (n : Int) (v : Value) : Prop where
  s : wr.heap[w.heap.size]? = some (.cells #[.int .i64 n, v] 53 (0, 0))
  r : wr.heap[w.heap.size + 1]? = some (.cells #[.int .i64 0, .slice none 0 0] 53 (0, 0))
  be : Below w.heap.size w wr
theorem AlW.next {w wr w' : World} {n : Int} {v : Value} (h : AlW w wr n v) (hb : Below wr.heap.size wr w') : AlW w w' n v :=
  ⟨lk_next hb h.s, lk_next hb h.r, h.be.trans (hb.mono h.be.size)⟩
theorem AlW.start (w : World) (n : Int) (v : Value) : AlW w ((w.alloc (.cells #[.int .i64 n, v] 53)).alloc (.cells #[.int .i64 0, .slice none 0 0] 53)) n v := by
  have hb1 := (Below.refl w.heap.size w).alloc (Nat.le_refl _) (.cells #[.int .i64 n, v] 53)
  have hb2 := (Below.refl _ (w.alloc (.cells #[.int .i64 n, v] 53))).alloc (Nat.le_refl _) (.cells #[.int .i64 0, .slice none 0 0] 53)
  have hz1 : (w.alloc (.cells #[.int .i64 n, v] 53)).heap.size = w.heap.size + 1 := by simp
  have h1 := heap_alloc_new w (.cells #[.int .i64 n, v] 53)
  have h2 := heap_alloc_new (w.alloc (.cells #[.int .i64 n, v] 53)) (.cells #[.int .i64 0, .slice none 0 0] 53)
  rw [hz1] at h2
  exact ⟨lk_next hb2 h1, h2, hb1.trans (hb2.mono hb1.size)⟩
theorem AlW.put {w wr : World} {n : Int} {v : Value} (v' : Value) (h : AlW w wr n v) : AlW w ((wr.setCell ⟨w.heap.size, 0, none⟩ (.int .i64 n)).setCell ⟨w.heap.size, 1, none⟩ v') n v' :=
  ⟨set_two h.s, grown_blk (grown_trans grown_lk grown_lk) h.r (by intro e; have := Option.some.inj e; omega), h.be.grown (grown_trans grown_lk grown_lk) h.be.size (fun k e => by cases e; exact Nat.le_refl _)⟩
end Go.Proofs.YtpblaoeaeljmhaaDoor
