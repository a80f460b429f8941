/- The memory of a world of workers: rows of numbers and boxes of messages; what stays as it was. -/
import Derived.Test.YtdkmdcdoiaelfaaRdOwn
import Derived.Test.YtdkmdcdoiaelfaaAppAt
namespace Go.Proofs.Ytdkmdcdoiaelfaa
open Go.RowKit Go.BigFrame

/-- all blocks are as they were but those of which D holds -/
structure Fr (D : Nat → Prop) (w w' : World) : Prop where
  os : w'.os = w.os
  tape : w'.tape = w.tape
  output : w'.output = w.output
  size : w.heap.size ≤ w'.heap.size
  block : ∀ b, b < w.heap.size → ¬ D b → w'.heap[b]? = w.heap[b]?
section
variable {D D' : Nat → Prop} {w w1 w2 : World}
theorem Fr.refl (D : Nat → Prop) (w : World) : Fr D w w := ⟨rfl, rfl, rfl, Nat.le_refl _, fun _ _ _ => rfl⟩
theorem Fr.grown {r : Option Nat} (h : Fr D w w1) (g : w1.grownBy w2 r) (hr : ∀ b, r = some b → D b ∨ w.heap.size ≤ b) : Fr D w w2 :=
  ⟨g.os.trans h.os, g.tape.trans h.tape, g.output.trans h.output, Nat.le_trans h.size g.size, fun b hb hd => (g.block b (Nat.lt_of_lt_of_le hb h.size) (fun e => by
    rcases hr b e.symm with h1 | h1
    · exact hd h1
    · omega)).trans (h.block b hb hd)⟩
theorem Fr.trans (h : Fr D w w1) (g : Fr D' w1 w2) (hr : ∀ b, D' b → D b ∨ w.heap.size ≤ b) : Fr D w w2 :=
  ⟨g.os.trans h.os, g.tape.trans h.tape, g.output.trans h.output, Nat.le_trans h.size g.size, fun b hb hd => (g.block b (Nat.lt_of_lt_of_le hb h.size) (fun e => by
    rcases hr b e with h1 | h1
    · exact hd h1
    · omega)).trans (h.block b hb hd)⟩
theorem Fr.mono (h : Fr D w w1) (hd : ∀ b, D b → D' b) : Fr D' w w1 := ⟨h.os, h.tape, h.output, h.size, fun b hb hn => h.block b hb (fun e => hn (hd b e))⟩
theorem Fr.of_below (h : Below w.heap.size w w1) : Fr D w w1 := ⟨h.os, h.tape, h.output, h.size, fun b hb _ => h.block b hb⟩
theorem Fr.below {lo : Nat} (h : Fr D w w1) (hd : ∀ b, D b → lo ≤ b) (hl : lo ≤ w.heap.size) : Below lo w w1 :=
  ⟨h.os, h.tape, h.output, h.size, fun b hb => h.block b (by omega) (fun e => by have := hd b e; omega)⟩
theorem Fr.cell {b o : Nat} {v : Value} (h : Fr D w w1) (hc : w.cell? ⟨b, o, none⟩ = some v) (hd : ¬ D b) : w1.cell? ⟨b, o, none⟩ = some v := (heap_cell (h.block b (cell_lt hc) hd)).1.trans hc
theorem Fr.blk {g : Nat} {o : Obj} (h : Fr D w w1) (hg : w.heap[g]? = some o) (hd : ¬ D g) : w1.heap[g]? = some o := (h.block g (blk_lt hg) hd).trans hg
theorem Fr.ints {v : Value} {xs : List Int} (h : Fr D w w1) (hi : IntsAt w v xs) (hd : ∀ n c p, v = .slice (some p) n c → ¬ D p.block) : IntsAt w1 v xs := by
  obtain ⟨a, cap, rfl, h1, h2, h3, h4⟩ := hi
  refine ⟨a, cap, rfl, h1, h2, h3, fun i e he => ?_⟩
  obtain ⟨b, off, rfl, c0⟩ := h4 i e he
  exact ⟨b, off, rfl, h.cell c0 (hd _ _ _ rfl)⟩
theorem Fr.rows {Q : Nat → Prop} {v : Value} {Ls : List (List Int)} (h : Fr D w w1) (hr : RowsX Q w v Ls) (hd : ∀ b, Q b → ¬ D b) : RowsX Q w1 v Ls := by
  obtain ⟨a, cap, rfl, h1, h2, h3, h4⟩ := hr
  refine ⟨a, cap, rfl, h1, h2, h3, fun i L hL => ?_⟩
  obtain ⟨b, off, a2, c2, rfl, hq, hc, hi, hp⟩ := h4 i L hL
  exact ⟨b, off, a2, c2, rfl, hq, h.cell hc (hd b hq), h.ints hi (fun n c p e => by
    obtain rfl : a2 = some p := (Value.slice.inj e).1
    exact hd _ (hp p rfl)), hp⟩
end
/-- messages -/
def encM : Enc Msg where
  k := 3
  enc m := [.int .i64 m.1, .int .i64 m.2.1, .bool m.2.2]
  len _ := rfl
  one m u hu := by simp only [List.mem_cons, List.not_mem_nil, or_false] at hu; rcases hu with rfl | rfl | rfl <;> rfl
  pos := by decide
theorem msgT : SliceT Try.prog 63 85 (.agg #[.int .i64 0, .int .i64 0, .bool false]) encM.k 24 := ⟨Try.underlying63, by kernel_rfl, rfl, by decide⟩
def TEf (i : Ix) : Nat := if i.1 < 2 then 3 else 85
def kkf (i : Ix) : Nat := if i.1 < 2 then 1 else encM.k
/-- what the rows hold: 0: known values, 1: neighbours, 2 and up: boxes -/
def csF (K N : Nat → List Int) (B : Nat → Nat → List Msg) (i : Ix) : List Value := match i.1 with
  | 0 => intsV (K i.2)
  | 1 => intsV (N i.2)
  | r + 2 => flatR encM (B r i.2)
def lenF (K N : Nat → List Int) (B : Nat → Nat → List Msg) (i : Ix) : Nat := match i.1 with
  | 0 => (K i.2).length
  | 1 => (N i.2).length
  | r + 2 => (B r i.2).length
abbrev GW (w : World) (lo : Nat) (I : Ix → Prop) (ad : Ix → Nat × Nat) (vs : Ix → Value) (K N : Nat → List Int) (B : Nat → Nat → List Msg) : Prop := GridA w lo I ad vs TEf kkf (lenF K N B) (csF K N B)
section
variable {w w' : World} {lo : Nat} {I : Ix → Prop} {ad : Ix → Nat × Nat} {vs : Ix → Value} {K N : Nat → List Int} {B B' : Nat → Nat → List Msg} {r t : Nat}
theorem GW.box (h : GW w lo I ad vs K N B) (hi : I (r + 2, t)) : w.ownsRow lo 85 encM.k (vs (r + 2, t)) (B r t).length (flatR encM (B r t)) := h.own _ hi
theorem GW.kn (h : GW w lo I ad vs K N B) (hi : I (0, t)) : w.ownsRow lo 3 1 (vs (0, t)) (K t).length (intsV (K t)) := h.own _ hi
theorem GW.nr (h : GW w lo I ad vs K N B) (hi : I (1, t)) : w.ownsRow lo 3 1 (vs (1, t)) (N t).length (intsV (N t)) := h.own _ hi
/-- other words for the boxes -/
theorem GW.boxes (h : GW w lo I ad vs K N B) (e : ∀ r t, I (r + 2, t) → B r t = B' r t) : GW w lo I ad vs K N B' := h.congr (fun i hi => by
    obtain ⟨a, b⟩ := i
    match a with
    | 0 => rfl
    | 1 => rfl
    | r + 2 => show (B r b).length = (B' r b).length; rw [e r b hi]) (fun i hi => by
    obtain ⟨a, b⟩ := i
    match a with
    | 0 => rfl
    | 1 => rfl
    | r + 2 => show flatR encM (B r b) = flatR encM (B' r b); rw [e r b hi])
/-- a box has turned: what it became is stored -/
theorem GW.step {l : List Msg} {v : Value} (h : GW w lo I ad vs K N B) (hi : I (r + 2, t)) (hg : w.grownBy w' (vs (r + 2, t)).ownBlock) (hown : w'.ownsRow lo 85 encM.k v l.length (flatR encM l)) (hat : ∀ b, v.ownBlock = some b → (vs (r + 2, t)).ownBlock = some b ∨ w.heap.size ≤ b) :
    GW (w'.setCell ⟨(ad (r + 2, t)).1, (ad (r + 2, t)).2, none⟩ v) lo I ad (updX vs (r + 2, t) v) K N (fun r' t' => if r' = r ∧ t' = t then l else B r' t') := by
  refine (GridA.step h hi hg hown hat).congr (fun i _ => ?_) (fun i _ => ?_)
  all_goals
    obtain ⟨a, b⟩ := i
    unfold updX
    match a with
    | 0 => rw [if_neg (fun e => by have := (Prod.mk.inj e).1; omega)]; rfl
    | 1 => rw [if_neg (fun e => by have := (Prod.mk.inj e).1; omega)]; rfl
    | a + 2 =>
      by_cases e : a = r ∧ b = t
      · obtain ⟨rfl, rfl⟩ := e
        rw [if_pos rfl]
        simp [lenF, csF]
      · rw [if_neg (fun q => e ⟨by have := (Prod.mk.inj q).1; omega, (Prod.mk.inj q).2⟩)]
        simp [lenF, csF, e]
end
end Go.Proofs.Ytdkmdcdoiaelfaa
