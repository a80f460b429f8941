/- A struct of a number and a slice that grows: boxes of a function that returns one. -/
import Derived.Test.YtpblaoeaeljmhaaDoorLkChk
import Derived.Test.YtpblaoeaeljmhaaDoorLkSet
namespace Go.Proofs.YtpblaoeaeljmhaaDoor
open Go.RowKit Go.BigFrame

/-- two boxes that stay, and a box at O whose slice owns a row -/
structure OutB (w wr : World) (S R O : Nat) (oS oR : Obj) (T Te k : Nat) (m : Int) (sl : Value) (n : Nat) (fl : List Value) : Prop where
  s : wr.heap[S]? = some oS
  r : wr.heap[R]? = some oR
  o : wr.heap[O]? = some (.cells #[.int .i64 m, sl] T (0, 0))
  own : wr.ownsRow (O + 1) Te k sl n fl
  so : S < O
  ro : R < O
  be : Below w.heap.size w wr
  wr0 : w.heap.size ≤ R
section
variable {w wr w' : World} {S R O : Nat} {oS oR : Obj} {T Te k : Nat} {m : Int} {sl : Value} {n : Nat} {fl : List Value}
theorem OutB.next (h : OutB w wr S R O oS oR T Te k m sl n fl) (hb : Below wr.heap.size wr w') : OutB w w' S R O oS oR T Te k m sl n fl :=
  ⟨lk_next hb h.s, lk_next hb h.r, lk_next hb h.o, h.own.kept (row := none) ⟨hb.os, hb.tape, hb.output, hb.size, fun k hk _ => hb.block k hk⟩ (by
    cases hs : sl.ownBlock with
    | none => exact .inl rfl
    | some g => exact .inr (by simp)), h.so, h.ro, h.be.trans (hb.mono h.be.size), h.wr0⟩
theorem OutB.alloc (h : OutB w wr S R O oS oR T Te k m sl n fl) (o : Obj) : OutB w (wr.alloc o) S R O oS oR T Te k m sl n fl := h.next ((Below.refl _ _).alloc (Nat.le_refl _) _)
theorem OutB.base (h : OutB w wr S R O oS oR T Te k m sl n fl) : O + 1 ≤ wr.heap.size := blk_lt h.o
theorem OutB.c0 (h : OutB w wr S R O oS oR T Te k m sl n fl) : wr.cell? ⟨O, 0, none⟩ = some (.int .i64 m) := cell_blk (j := 0) h.o
theorem OutB.c1 (h : OutB w wr S R O oS oR T Te k m sl n fl) : wr.cell? ⟨O, 1, none⟩ = some sl := cell_blk (j := 1) h.o
theorem OutB.grown (h : OutB w wr S R O oS oR T Te k m sl n fl) (hg : wr.grownBy w' sl.ownBlock) :
    w'.heap[S]? = some oS ∧ w'.heap[R]? = some oR ∧ w'.heap[O]? = some (.cells #[.int .i64 m, sl] T (0, 0)) ∧ Below w.heap.size w w' := by
  have hne : ∀ k, k ≤ O → some k ≠ sl.ownBlock := fun k hk e => by have := (h.own.lt k e.symm).1; omega
  have := h.so
  have := h.ro
  have := h.wr0
  exact ⟨grown_blk hg h.s (hne _ (by omega)), grown_blk hg h.r (hne _ (by omega)), grown_blk hg h.o (hne _ (Nat.le_refl _)), h.be.grown hg h.be.size (fun k e => by have := (h.own.lt k e).1; omega)⟩
/-- the row has grown, and its slice is stored -/
theorem OutB.app {v : Value} {n2 : Nat} {f2 : List Value} (h : OutB w wr S R O oS oR T Te k m sl n fl) (hown : w'.ownsRow (O + 1) Te k v n2 f2) (hg : wr.grownBy w' sl.ownBlock) :
    OutB w (w'.setCell ⟨O, 1, none⟩ v) S R O oS oR T Te k m v n2 f2 := by
  obtain ⟨h1, h2, h3, h4⟩ := h.grown hg
  have hso := h.so
  have hro := h.ro
  have hwr := h.wr0
  exact ⟨(Below.heap_setCell w' ⟨O, 1, none⟩ _ S (by show S ≠ O; omega)).trans h1, (Below.heap_setCell w' ⟨O, 1, none⟩ _ R (by show R ≠ O; omega)).trans h2, heap_setCell_same w' O 1 _ _ _ h3,
    hown.kept grown_lk (by
      cases hs : v.ownBlock with
      | none => exact .inl rfl
      | some k => have := (hown.lt k hs).1; exact .inr (by intro e; have := Option.some.inj e; omega)), hso, hro, h4.grown grown_lk h4.size (fun k e => by cases e; omega), hwr⟩
end
end Go.Proofs.YtpblaoeaeljmhaaDoor
