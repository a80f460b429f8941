/- A range over a function whose iterator keeps a state of its own in a box: the law at the wide fence, block by block. -/
import Derived.RangeFuncNested
import Derived.RangeFuncBound
import Derived.RangeFuncCalls
import Derived.RangeFuncLeaves
namespace Go.Proofs.YtpblaoeaeljmhaaDoor
open Go Go.RowKit

variable {P : Program} {α : Type}

/-- the three blocks from b on lie as they lay: what the loop keeps for its rounds' deferred calls, its record, and the iterator's box -/
structure KeepBk (b : Nat) (W W' : World) : Prop where
  size : W.heap.size ≤ W'.heap.size
  same : ∀ k, b ≤ k → k ≤ b + 2 → W'.heap[k]? = W.heap[k]?
theorem KeepBk.refl (b : Nat) (W : World) : KeepBk b W W := ⟨Nat.le_refl _, fun _ _ _ => rfl⟩
theorem KeepBk.trans {b : Nat} {A B C : World} (h : KeepBk b A B) (k : KeepBk b B C) : KeepBk b A C := ⟨Nat.le_trans h.size k.size, fun i h1 h2 => (k.same i h1 h2).trans (h.same i h1 h2)⟩
theorem KeepBk.grown {b : Nat} {A B : World} {row : Option Nat} (hg : A.grownBy B row) (hs : b + 3 ≤ A.heap.size) (hr : ∀ r, row = some r → r < b ∨ b + 2 < r) : KeepBk b A B :=
  ⟨hg.size, fun k h1 h2 => hg.block k (by omega) (fun e => by have := hr k e.symm; omega)⟩

/-- what an iterator gives: to each round the values, with St of what it has laid; between two rounds J; sbk: the block that the values point to -/
def SeqOwn (P : Program) (gf : Nat) (lb : Array Value) (encs : α → Array Value) (St : α → World → Prop) (sbk : α → Option Nat) (E : World → Prop) (S Sp : List α → Prop) (b : Nat) : Prop :=
  ∀ (l : Nat) (J : List α → Option Nat → World → Prop) (Jx : List α → World → Prop) (W : World), W.heap.size = b + 2 →
    (∀ pre sb A B row, J pre sb A → A.grownBy B row → (∀ r, row = some r → r = b + 2) → J pre sb B) →
    (∀ pre sb sb' A, J pre sb A → (∀ k, sb' = some k → A.heap.size ≤ k) → J pre sb' A) →
    (∀ pre sb A, J pre sb A → E A) →
    (∀ pre x W1, J pre (sbk x) W1 → St x W1 → Sp (pre ++ [x]) → b + 3 ≤ W1.heap.size → YieldAt Fence.wide 4 P l (encs x) W1 fun e W' =>
      (e = .returned (.bool true) ∧ J (pre ++ [x]) (sbk x) W' ∧ St x W' ∧ W'.heap[b + 2]? = W1.heap[b + 2]? ∧ W1.heap.size ≤ W'.heap.size) ∨ (e = .returned (.bool false) ∧ Jx (pre ++ [x]) W')) →
    J [] none W →
    Calls P gf (#[.func (.yield l) #[] #[]] ++ lb) W fun e W' => (∃ v, e = .returned v) ∧ ((∃ xs sb, S xs ∧ J xs sb W') ∨ (∃ pre, Sp pre ∧ Jx pre W'))

/-- how a round's body may be left -/
def rndPost (b : Nat) (St : α → World → Prop) (sbk : α → Option Nat) (I : List α → Option Nat → World → Prop) (Ix : Code → List α → World → Prop) (pre : List α) (x : α) (W : World) : Exit → Act → World → Prop
  | .normal, _, W' => KeepBk b W W' ∧ St x W' ∧ I (pre ++ [x]) (sbk x) W'
  | .ret, _, W' => KeepBk b W W' ∧ Ix .ret (pre ++ [x]) W'
  | .exit id, _, W' => KeepBk b W W' ∧ Ix (.exit id) (pre ++ [x]) W'
  | .goto t, _, W' => KeepBk b W W' ∧ Ix (.goto t) (pre ++ [x]) W'
  | .panic _, _, _ => False
  | .outgrown, _, _ => False

theorem wp_range_own {g : Operand} {ps : Array Tmp} {assign body : Code} {Q : Exit → Act → World → Prop} {a : Act} {w : World} {gf : Nat} {lb : Array Value} (hg : a.eval g = .func (.func gf) #[] lb)
    (eg : ∀ args w, (callFunc gf args).run P w = .ok (.enter gf args) w) {encs : α → Array Value} {St : α → World → Prop} {sbk : α → Option Nat} {E : World → Prop} {S Sp : List α → Prop}
    (hps : ∀ x, (encs x).size = ps.size) (hseq : SeqOwn P gf lb encs St sbk E S Sp w.heap.size)
    (I : List α → Option Nat → World → Prop) (Ix : Code → List α → World → Prop)
    (hI : ∀ pre sb A B row, I pre sb A → A.grownBy B row → (∀ r, row = some r → w.heap.size ≤ r ∧ r ≤ w.heap.size + 2) → I pre sb B)
    (hF : ∀ pre sb sb' A, I pre sb A → (∀ k, sb' = some k → A.heap.size ≤ k) → I pre sb' A) (hE : ∀ pre sb A, I pre sb A → E A)
    (hIx : ∀ c pre A B row, Ix c pre A → A.grownBy B row → (∀ r, row = some r → w.heap.size ≤ r ∧ r ≤ w.heap.size + 2) → Ix c pre B)
    (hSt : ∀ x A B row, St x A → A.grownBy B row → (∀ r, row = some r → w.heap.size ≤ r ∧ r ≤ w.heap.size + 2) → St x B)
    (h0 : I [] none w)
    (hround : ∀ (l : Nat) (pre : List α) (x : α) (W : World) (K : Act → World → Prop), I pre (sbk x) W → St x W → Sp (pre ++ [x]) → w.heap.size + 3 ≤ W.heap.size →
      (∀ a' W', KeepBk w.heap.size W W' → (∀ W2, W'.grownBy W2 (some (w.heap.size + 1)) → body.wpIn (Fence.wide.inRound l) 4 P (rndPost w.heap.size St sbk I Ix pre x W2) a' W2) → K a' W') →
      assign.wpIn (Fence.wide.inRound l) 4 P (Exit.then K (fun _ _ _ => False)) { tmps := (ps.zip (encs x)).foldl (fun t (p, v) => t.setIfInBounds p v) a.tmps, defers := [] } W)
    (hdone : ∀ (D : Nat) (xs : List α) (sb : Option Nat) (W : World), D = w.heap.size → S xs → I xs sb W → W.heap[D]? = some (.deferred (some [])) → Q .normal { a with defers := { target := .collected D, args := #[] } :: a.defers } W)
    (hstop : ∀ (D : Nat) (c : Code) (pre : List α) (W : World), D = w.heap.size → Sp pre → Ix c pre W → W.heap[D]? = some (.deferred (some [])) → c.wpIn Fence.wide 6 P Q { a with defers := { target := .collected D, args := #[] } :: a.defers } W) :
    (Code.rangeFunc g ps assign body).wpIn Fence.wide 6 P Q a w := by
  refine wpIn_rangeFunc fun fn hfn => ?_
  obtain ⟨b, hb⟩ : ∃ b, w.heap.size = b := ⟨_, rfl⟩
  obtain ⟨rec, hrec⟩ : ∃ rec : LoopState → Option Code → Loop, rec = fun st pe => { state := st, pending := pe, fn, tmps := a.tmps, params := ps, assign, body, defers := b } := ⟨_, rfl⟩
  obtain ⟨W1, hW1⟩ : ∃ W1, (w.alloc (.deferred (some []))).alloc (.loop (rec .ready none)) = W1 := ⟨_, rfl⟩
  have hs1 : W1.heap.size = b + 2 := by rw [← hW1, ← hb]; simp
  have hL1 : W1.heap[b + 1]? = some (.loop (rec .ready none)) := by
    have := World.alloc_heap_new (w.alloc (.deferred (some []))) (.loop (rec .ready none))
    rw [World.size_alloc, hb, hW1] at this
    exact this
  have hK1 : W1.heap[b]? = some (.deferred (some [])) := by
    rw [← hW1, ← hb]; exact (Below.heap_alloc _ _ _ (by simp)).trans (World.alloc_heap_new w _)
  rw [hb] at hseq hI hIx hSt hround hdone hstop
  have hI1 : I [] none W1 := by
    rw [← hW1]
    exact hI _ _ _ _ none (hI _ _ _ _ none h0 (World.grownBy_alloc _ _ _) (fun r e => by cases e)) (World.grownBy_alloc _ _ _) (fun r e => by cases e)
  refine ⟨b + 1, [{ target := .collected b, args := #[] }], W1, { target := .fn (.func gf) lb, args := #[.func (.yield (b + 1)) #[] #[]] }, W1, gf, #[.func (.yield (b + 1)) #[] #[]] ++ lb, W1, ?_, ?_, ?_, ?_, (fun h => by cases h), ?_⟩
  · rw [← hW1, hrec, ← hb]; exact run_enterLoop_outer _ _ _ _ _
  · simp only [resolve, hg]
    simp [go_sem]
  · intro f' _; trivial
  · simp [invoke, go_sem, eg]
  refine callsIn_wide.2 ((hseq (b + 1) (fun pre sb W => I pre sb W ∧ W.heap[b + 1]? = some (.loop (rec .ready none)) ∧ W.heap[b]? = some (.deferred (some [])))
    (fun pre W => ∃ c, Ix c pre W ∧ W.heap[b + 1]? = some (.loop (rec .done (some c))) ∧ W.heap[b]? = some (.deferred (some []))) W1 hs1 ?_ ?_ ?_ ?_ ⟨hI1, hL1, hK1⟩).mono ?_)
  · rintro pre sb A B row ⟨h1, h2, h3⟩ hgr hr
    have hne : ∀ k, k ≤ b + 1 → some k ≠ row := fun k hk e => by have := hr k e.symm; omega
    exact ⟨hI _ _ _ _ row h1 hgr (fun r e => by have := hr r e; omega), (hgr.block _ (Array.getElem?_eq_some_iff.1 h2).1 (hne _ (Nat.le_refl _))).trans h2, (hgr.block _ (Array.getElem?_eq_some_iff.1 h3).1 (hne _ (Nat.le_succ _))).trans h3⟩
  · rintro pre sb sb' A ⟨h1, h2, h3⟩ hk
    exact ⟨hF _ _ _ _ h1 hk, h2, h3⟩
  · rintro pre sb A ⟨h1, -, -⟩
    exact hE _ _ _ h1
  · -- one round
    rintro pre x W ⟨hi, hl, hk⟩ hst hsp hsz
    have hy := run_yield (P := P) (args := encs x) hl (by rw [hrec]; exact hps x)
    rw [hrec] at hy
    refine ⟨fn, _, assign, body, hy, roundIn_of_wpIn hfn (hround _ pre x W _ hi hst hsp hsz ?_)⟩
    clear hy
    intro a' Wa hka hbody
    have hla := (hka.same (b + 1) (by omega) (by omega)).trans hl
    have hda := (hka.same b (Nat.le_refl _) (by omega)).trans hk
    have hsa : b + 3 ≤ Wa.heap.size := Nat.le_trans hsz hka.size
    refine ⟨_, run_beginRound hla (by rw [hrec]), ?_⟩
    have hgb := grownBy_putObj' Wa (b + 1) (.loop { rec .ready none with state := .busy })
    have hrow : ∀ r, some (b + 1) = some r → b ≤ r ∧ r ≤ b + 2 := fun r e => by cases e; omega
    have hl2 : (Wa.putObj (b + 1) (.loop { rec .ready none with state := .busy })).heap[b + 1]? = some (.loop { rec .ready none with state := .busy }) := World.putObj_heap_same (by omega)
    have hd2 : (Wa.putObj (b + 1) (.loop { rec .ready none with state := .busy })).heap[b]? = some (.deferred (some [])) := (World.putObj_heap_other (by omega)).trans hda
    have hg2 : (Wa.putObj (b + 1) (.loop { rec .ready none with state := .busy })).heap[b + 2]? = W.heap[b + 2]? := (World.putObj_heap_other (by omega)).trans (hka.same (b + 2) (by omega) (Nat.le_refl _))
    refine wpIn_mono (hbody _ hgb) ?_
    have fin : ∀ (jump : Option Code) (W3 : World), KeepBk b (Wa.putObj (b + 1) (.loop { rec .ready none with state := .busy })) W3 →
        (Instr.endRound (b + 1) jump).run P W3 = .ok (.bool jump.isNone) (W3.putObj (b + 1) (.loop (rec (if jump.isNone then .ready else .done) jump))) ∧
        (W3.putObj (b + 1) (.loop (rec (if jump.isNone then .ready else .done) jump))).heap[b + 1]? = some (.loop (rec (if jump.isNone then .ready else .done) jump)) ∧
        (W3.putObj (b + 1) (.loop (rec (if jump.isNone then .ready else .done) jump))).heap[b]? = some (.deferred (some [])) ∧
        (W3.putObj (b + 1) (.loop (rec (if jump.isNone then .ready else .done) jump))).heap[b + 2]? = W.heap[b + 2]? ∧ W.heap.size ≤ (W3.putObj (b + 1) (.loop (rec (if jump.isNone then .ready else .done) jump))).heap.size := fun jump W3 hk3 => by
      have hl3 := (hk3.same (b + 1) (by omega) (by omega)).trans hl2
      have h4 := run_endRound (P := P) jump hl3
      rw [hrec] at h4 ⊢
      have h5 : W.heap.size ≤ W3.heap.size := by
        have := hk3.size
        rw [show (Wa.putObj (b + 1) (.loop { rec .ready none with state := .busy })).heap.size = Wa.heap.size by simp] at this
        exact Nat.le_trans hka.size this
      exact ⟨h4, World.putObj_heap_same (Array.getElem?_eq_some_iff.1 hl3).1, (World.putObj_heap_other (by omega)).trans ((hk3.same b (Nat.le_refl _) (by omega)).trans hd2), (World.putObj_heap_other (by omega)).trans ((hk3.same (b + 2) (by omega) (Nat.le_refl _)).trans hg2), by simpa using h5⟩
    rintro e a3 W3 hp
    cases e with
    | normal =>
      obtain ⟨hk3, hs3, hi3⟩ := hp
      obtain ⟨hr, h4, h5, h6, h7⟩ := fin none W3 hk3
      exact ⟨_, _, hr, .inl ⟨rfl, ⟨hI _ _ _ _ _ hi3 (grownBy_putObj' _ _ _) hrow, h4, h5⟩, hSt _ _ _ _ hs3 (grownBy_putObj' _ _ _) hrow, h6, h7⟩⟩
    | ret =>
      obtain ⟨hk3, hi3⟩ := hp
      obtain ⟨hr, h4, h5, -, -⟩ := fin (some .ret) W3 hk3
      exact ⟨_, _, hr, .inr ⟨rfl, .ret, hIx _ _ _ _ _ hi3 (grownBy_putObj' _ _ _) hrow, h4, h5⟩⟩
    | exit id =>
      obtain ⟨hk3, hi3⟩ := hp
      obtain ⟨hr, h4, h5, -, -⟩ := fin (some (.exit id)) W3 hk3
      exact ⟨_, _, hr, .inr ⟨rfl, .exit id, hIx _ _ _ _ _ hi3 (grownBy_putObj' _ _ _) hrow, h4, h5⟩⟩
    | goto t =>
      obtain ⟨hk3, hi3⟩ := hp
      obtain ⟨hr, h4, h5, -, -⟩ := fin (some (.goto t)) W3 hk3
      exact ⟨_, _, hr, .inr ⟨rfl, .goto t, hIx _ _ _ _ _ hi3 (grownBy_putObj' _ _ _) hrow, h4, h5⟩⟩
    | panic ch => exact hp.elim
    | outgrown => exact hp.elim
  · rintro e W2 ⟨⟨v, rfl⟩, (⟨xs, sb, hS, hi, hl, hk⟩ | ⟨pre, hSp, c, hi, hl, hk⟩)⟩
    · have h4 := run_endLoop (P := P) hl (by rw [hrec]; simp)
      rw [hrec] at h4
      refine ⟨none, _, h4, ?_⟩
      have hgb := grownBy_putObj' W2 (b + 1) (.loop { rec .ready none with state := .exhausted })
      rw [hrec] at hgb
      exact hdone _ xs sb _ rfl hS (hI _ _ _ _ _ hi hgb (fun r e => by cases e; omega)) ((World.putObj_heap_other (by omega)).trans hk)
    · have h4 := run_endLoop (P := P) hl (by rw [hrec]; simp)
      rw [hrec] at h4
      refine ⟨some c, _, h4, ?_⟩
      have hgb := grownBy_putObj' W2 (b + 1) (.loop { rec .done (some c) with state := .exhausted })
      rw [hrec] at hgb
      exact hstop _ c pre _ rfl hSp (hIx _ _ _ _ _ hi hgb (fun r e => by cases e; omega)) ((World.putObj_heap_other (by omega)).trans hk)
end Go.Proofs.YtpblaoeaeljmhaaDoor
