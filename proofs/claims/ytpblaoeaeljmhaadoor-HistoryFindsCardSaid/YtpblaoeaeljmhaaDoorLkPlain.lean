/- Links in plain words: states, what an event does to them, and how links lie in memory. -/
import Derived.Test.YtpblaoeaeljmhaaDoorReoPlain
namespace Go.Proofs.YtpblaoeaeljmhaaDoor
open Go.RowKit

structure Lk where
  u : Int
  v : Int
  weight : Int
  label : Int
  sign : Int
  time : Int
deriving DecidableEq
def Lk.cells (l : Lk) : Array Value := #[.int .i64 l.u, .int .i64 l.v, .int .i64 l.weight, .int .i64 l.label, .int .i64 l.sign, .int .i64 l.time]
def encLk : Enc Lk := ⟨6, fun e => e.cells.toList, fun _ => rfl, fun e u hu => by simp [Lk.cells] at hu; rcases hu with h | h | h | h | h | h <;> subst h <;> rfl, by decide⟩
/-- the link at a place, and its six cells -/
theorem lk_at {w : World} {a : Option Addr} {cap : Nat} {xs : List Lk} (h : RowAt encLk w (.slice a xs.length cap) xs) (i : Nat) (hi : i < xs.length) :
    ∃ b off x, a = some ⟨b, off, none⟩ ∧ xs[i]? = some x ∧ xs.length ≤ cap ∧ w.cell? ⟨b, off + i * 6, none⟩ = some (.int .i64 x.u) ∧ w.cell? ⟨b, off + i * 6 + 1, none⟩ = some (.int .i64 x.v) ∧ w.cell? ⟨b, off + i * 6 + 2, none⟩ = some (.int .i64 x.weight) ∧
      w.cell? ⟨b, off + i * 6 + 3, none⟩ = some (.int .i64 x.label) ∧ w.cell? ⟨b, off + i * 6 + 4, none⟩ = some (.int .i64 x.sign) ∧ w.cell? ⟨b, off + i * 6 + 5, none⟩ = some (.int .i64 x.time) := by
  obtain ⟨b, off, x, e, hx, hc, hat⟩ := h.elem i hi
  exact ⟨b, off, x, e, hx, hc, hat 0 _ rfl, hat 1 _ rfl, hat 2 _ rfl, hat 3 _ rfl, hat 4 _ rfl, hat 5 _ rfl⟩
/-- the order of the edges of two links -/
def lkB (a b : Lk) : Bool := decide (a.u < b.u) || (decide (a.u = b.u) && decide (a.v < b.v))
def lkO (a b : Lk) : Int := if a.u < b.u then -1 else if b.u < a.u then 1 else if a.v < b.v then -1 else if b.v < a.v then 1 else 0
theorem lkB_iff (a b : Lk) : lkB a b = true ↔ a.u < b.u ∨ (a.u = b.u ∧ a.v < b.v) := by simp [lkB]
theorem lkO_neg (a b : Lk) : lkO a b < 0 ↔ lkB a b = true := by
  rw [lkB_iff]; unfold lkO
  split
  · simp; omega
  · split
    · simp; omega
    · split
      · simp; omega
      · split
        · simp; omega
        · simp; omega
theorem lkO_zero (a b : Lk) : lkO a b = 0 ↔ a.u = b.u ∧ a.v = b.v := by
  unfold lkO
  split
  · simp; omega
  · split
    · simp; omega
    · split
      · simp; omega
      · split
        · simp; omega
        · simp; omega
/-- the first error of a link behind another one -/
def lkE (n : Int) (p : Option Lk) (l : Lk) : Int :=
  if l.u < 0 ∨ l.v ≤ l.u ∨ n ≤ l.v then 6 else if attS l.weight l.label l.sign = false then 1 else if l.time < 0 ∨ 1048576 < l.time then 9 else if p.any (fun p => !lkB p l) then 5 else 0
def lksE (n : Int) : Option Lk → List Lk → Int
  | _, [] => 0
  | p, l :: ls => if lkE n p l ≠ 0 then lkE n p l else lksE n (some l) ls
/-- the first error of a state -/
def stS (n : Int) (ls : List Lk) : Int := if n < 0 ∨ 64 < n then 1 else lksE n none ls
/-- a link that is right in itself -/
def LkOk (n : Int) (l : Lk) : Prop := 0 ≤ l.u ∧ l.u < l.v ∧ l.v < n ∧ attS l.weight l.label l.sign = true ∧ 0 ≤ l.time ∧ l.time ≤ 1048576
def VSt (n : Int) (ls : List Lk) : Prop := 0 ≤ n ∧ n ≤ 64 ∧ (∀ l ∈ ls, LkOk n l) ∧ ls.Pairwise (fun a b => lkB a b = true)
theorem lkB_trans {a b c : Lk} (h : lkB a b = true) (h' : lkB b c = true) : lkB a c = true := by
  rw [lkB_iff] at *; omega
theorem lkE_zero (n : Int) (p : Option Lk) (l : Lk) : lkE n p l = 0 ↔ LkOk n l ∧ ∀ q, p = some q → lkB q l = true := by
  unfold lkE LkOk
  constructor
  · intro h
    split at h
    · simp at h
    · rename_i h1
      split at h
      · simp at h
      · rename_i h2
        split at h
        · simp at h
        · rename_i h3
          split at h
          · simp at h
          · rename_i h4
            refine ⟨⟨by omega, by omega, by omega, by simpa using h2, by omega, by omega⟩, fun q hq => ?_⟩
            subst hq
            simpa using h4
  · rintro ⟨⟨h1, h2, h3, h4, h5, h6⟩, h7⟩
    rw [if_neg (by omega), if_neg (by simp [h4]), if_neg (by omega), if_neg]
    cases p with
    | none => simp
    | some q => simp [h7 q rfl]
theorem lksE_zero (n : Int) : ∀ (ls : List Lk) (p : Option Lk), lksE n p ls = 0 ↔ (∀ l ∈ ls, LkOk n l) ∧ ls.Pairwise (fun a b => lkB a b = true) ∧ (∀ q l, p = some q → ls.head? = some l → lkB q l = true) := by
  intro ls
  induction ls with
  | nil => intro p; simp [lksE]
  | cons l ls ih =>
    intro p
    unfold lksE
    by_cases h : lkE n p l = 0
    · rw [if_neg (by simp [h]), ih]
      obtain ⟨h1, h2⟩ := (lkE_zero n p l).1 h
      constructor
      · rintro ⟨h3, h4, h5⟩
        refine ⟨fun x hx => ?_, ?_, fun q x hq hx => ?_⟩
        · rcases List.mem_cons.1 hx with rfl | hx
          · exact h1
          · exact h3 x hx
        · refine List.pairwise_cons.2 ⟨fun y hy => ?_, h4⟩
          cases ls with
          | nil => simp at hy
          | cons z zs =>
            have hz := h5 l z rfl rfl
            rcases List.mem_cons.1 hy with rfl | hy
            · exact hz
            · exact lkB_trans hz ((List.pairwise_cons.1 h4).1 y hy)
        · simp only [List.head?_cons, Option.some.injEq] at hx
          subst hx
          exact h2 q hq
      · rintro ⟨h3, h4, h5⟩
        obtain ⟨h6, h7⟩ := List.pairwise_cons.1 h4
        refine ⟨fun x hx => h3 x (List.mem_cons_of_mem _ hx), h7, fun q x hq hx => ?_⟩
        cases hq
        exact h6 x (List.mem_of_mem_head? (by rw [hx]; rfl))
    · rw [if_pos h]
      refine ⟨fun h' => absurd h' h, fun ⟨h3, h4, h5⟩ => absurd ((lkE_zero n p l).2 ⟨h3 l List.mem_cons_self, fun q hq => h5 q l hq rfl⟩) h⟩
theorem stS_iff (n : Int) (ls : List Lk) : stS n ls = 0 ↔ VSt n ls := by
  unfold stS VSt
  by_cases h : n < 0 ∨ 64 < n
  · rw [if_pos h]
    refine ⟨fun h' => by simp at h', fun h' => by omega⟩
  · rw [if_neg h, lksE_zero]
    refine ⟨fun ⟨h1, h2, _⟩ => ⟨by omega, by omega, h1, h2⟩, fun ⟨_, _, h1, h2⟩ => ⟨h1, h2, fun q l hq => by cases hq⟩⟩
/-- the link that an event sets -/
def ofEv (e : Ev) : Lk := ⟨min e.u e.v, max e.u e.v, e.weight, e.label, e.sign, e.time⟩
def sameE (a b : Lk) : Bool := decide (a.u = b.u) && decide (a.v = b.v)
def setL (x : Lk) : List Lk → List Lk
  | [] => [x]
  | l :: ls => if lkB x l = true then x :: l :: ls else if sameE l x = true then x :: ls else l :: setL x ls
/-- the event that sets a link, and the one that cuts it -/
def setEv (l : Lk) (t : Int) : Ev := ⟨1, t, l.u, l.v, l.weight, l.label, l.sign⟩
def cutEv (l : Lk) (t : Int) : Ev := ⟨2, t, l.u, l.v, 0, 0, 0⟩
/-- whether an event takes a link away -/
def goneB (e : Ev) (l : Lk) : Bool := if e.kind = 2 then decide (l.u = min e.u e.v) && decide (l.v = max e.u e.v) else decide (l.u = e.u) || decide (l.v = e.u)
/-- the links behind an event, and what changed -/
def stepL (e : Ev) (ls : List Lk) : List Lk := if e.kind = 1 then setL (ofEv e) ls else ls.filter fun l => !goneB e l
def stepC (e : Ev) (ls : List Lk) : List Ev := if e.kind = 1 then (if ofEv e ∈ ls then [] else [setEv (ofEv e) e.time]) else (ls.filter (goneB e)).map fun l => cutEv l e.time
def fitS (n : Int) (e : Ev) : Int := if evS e ≠ 0 then evS e else if n ≤ e.u ∨ n ≤ e.v then 6 else 0
/-- what Apply returns -/
def appX (n : Int) (ls : List Lk) (e : Ev) : (Int × List Lk) × List Ev × Int :=
  if stS n ls ≠ 0 then ((0, []), [], stS n ls) else if fitS n e ≠ 0 then ((0, []), [], fitS n e) else ((n, stepL e ls), stepC e ls, 0)
end Go.Proofs.YtpblaoeaeljmhaaDoor
