/- The contracts of applying an event, and events. -/
import Derived.Test.YtpblaoeaeljmhaaDoorLkStep
import Derived.Test.YtpblaoeaeljmhaaDoorAppAt
namespace Go.Proofs.YtpblaoeaeljmhaaDoor
open Go.RowKit Go.BigFrame

theorem VSt.valid {n : Int} {ls : List Lk} (h : VSt n ls) : Valid n (ls.map fun l => (l.u, l.v)) := by
  refine ⟨h.1, h.2.1, fun e he => ?_, ?_⟩
  · obtain ⟨l, hl, rfl⟩ := List.mem_map.1 he
    have := h.2.2.1 l hl
    exact ⟨this.1, this.2.1, this.2.2.1⟩
  · rw [List.pairwise_map]
    exact h.2.2.2
theorem VSt.length_le {n : Int} {ls : List Lk} (h : VSt n ls) : ls.length ≤ 4096 := by
  have := h.valid.length_le
  rw [List.length_map] at this
  exact this
theorem setL_len (x : Lk) : ∀ ls : List Lk, (setL x ls).length ≤ ls.length + 1 := by
  intro ls
  induction ls with
  | nil => simp [setL]
  | cons l ls ih =>
    unfold setL
    split
    · simp
    · split
      · simp
      · simp only [List.length_cons]; omega
theorem stepL_len (e : Ev) (ls : List Lk) : (stepL e ls).length ≤ ls.length + 1 := by
  unfold stepL
  split
  · exact setL_len _ _
  · exact Nat.le_succ_of_le (List.length_filter_le _ _)
def AppPost (w : World) (r : (Int × List Lk) × List Ev × Int) (e : Ending) (w' : World) : Prop :=
  ∃ a1 c1 a2 c2, e = .returned (.tuple #[.agg #[.int .i64 r.1.1, .slice a1 r.1.2.length c1], .slice a2 r.2.1.length c2, .int .i64 r.2.2]) ∧ RowAt encLk w' (.slice a1 r.1.2.length c1) r.1.2 ∧ RowAt encEv w' (.slice a2 r.2.1.length c2) r.2.1 ∧ (∀ p, a1 = some p → w.heap.size ≤ p.block) ∧ (∀ p, a2 = some p → w.heap.size ≤ p.block) ∧ Below w.heap.size w w'
end Go.Proofs.YtpblaoeaeljmhaaDoor
