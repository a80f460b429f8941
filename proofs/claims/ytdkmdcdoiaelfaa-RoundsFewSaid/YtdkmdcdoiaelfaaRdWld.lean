/- Worlds of workers as values: what they hold, read; what stays true whatever changes elsewhere. -/
import Derived.Test.YtdkmdcdoiaelfaaRdCopy
import Derived.Test.YtdkmdcdoiaelfaaRndP
namespace Go.Proofs.Ytdkmdcdoiaelfaa
open Go.RowKit Go.BigFrame

/-- it holds, whatever changes in the blocks of which D holds -/
def Stb (D : Nat → Prop) (w : World) (p : World → Prop) : Prop := ∀ w', Fr D w w' → p w'
section
variable {D D' D1 : Nat → Prop} {w w1 : World} {p q : World → Prop}
theorem Stb.now (h : Stb D w p) : p w := h w (Fr.refl D w)
theorem Fr.sub (h : Fr D' w w1) (hr : ∀ b, D' b → D b ∨ w.heap.size ≤ b) : Fr D w w1 := (Fr.refl D w).trans h hr
theorem Stb.step (h : Stb D w p) (g : Fr D' w w1) (h1 : ∀ b, D' b → D b ∨ w.heap.size ≤ b) (h2 : ∀ b, D1 b → D b ∨ w.heap.size ≤ b) : Stb D1 w1 p := fun w' g' => h w' ((Fr.sub g h1).trans g' h2)
theorem Stb.imp (h : Stb D w p) (hp : ∀ w', p w' → q w') : Stb D w q := fun w' g => hp w' (h w' g)
theorem Fr.row {α : Type} {E : Enc α} {v : Value} {xs : List α} (h : Fr D w w1) (hi : RowAt E w v xs) (hd : ∀ n c p, v = .slice (some p) n c → ¬ D p.block) : RowAt E w1 v xs := by
  obtain ⟨a, cap, rfl, h1, h2, h3, h4⟩ := hi
  refine ⟨a, cap, rfl, h1, h2, h3, fun i u hu => ?_⟩
  obtain ⟨b, off, rfl, c0⟩ := h4 i u hu
  exact ⟨b, off, rfl, h.cell c0 (hd _ _ _ rfl)⟩
theorem ownBlock_of {a : Option Addr} {n c n' c' : Nat} {p : Addr} (e : Value.slice a n c = .slice (some p) n' c') : (Value.slice a n c).ownBlock = some p.block := by cases e; rfl
/-- rows of one's own, read -/
theorem Stb.ints {s : Nat} {v : Value} {xs : List Int} (h : w.ownsRow s 3 1 v xs.length (intsV xs)) (hl : xs.length ≤ 1000000) (hd : ∀ b, v.ownBlock = some b → ¬ D b) : Stb D w fun w' => IntsAt w' v xs := fun w' g => by
  obtain ⟨a', c', rfl, h', -⟩ := IntsAt.of_owns h (by omega)
  exact g.ints h' fun n c p e => hd _ (ownBlock_of e)
theorem Stb.row {α : Type} {E : Enc α} {s T : Nat} {v : Value} {xs : List α} (h : w.ownsRow s T E.k v xs.length (flatR E xs)) (hl : xs.length ≤ 1000000) (hd : ∀ b, v.ownBlock = some b → ¬ D b) : Stb D w fun w' => RowAt E w' v xs := fun w' g => by
  obtain ⟨a', c', rfl, h', -⟩ := RowAt.of_owns h (by omega)
  exact g.row h' fun n c p e => hd _ (ownBlock_of e)
end
def slOf : Value → Sl
  | .slice a n c => (a, n, c)
  | _ => (none, 0, 0)
theorem slOf_owns {w : World} {base T size n : Nat} {v : Value} {xs : List Value} (h : w.ownsRow base T size v n xs) : slV (slOf v) = v := by
  obtain ⟨a, c, rfl⟩ := owns_shape h
  rfl
theorem flatP_eq {α : Type} : ∀ L : List (Sl × α), flatR (encP α) L = L.map fun p => slV p.1
  | [] => rfl
  | p :: L => by rw [flatR_cons, flatP_eq L]; rfl
theorem flatP_get {α : Type} (L : List (Sl × α)) (j : Nat) (u : Value) (h : (flatR (encP α) L)[j]? = some u) : ∃ p, L[j]? = some p ∧ u = slV p.1 := by
  rw [flatP_eq, List.getElem?_map] at h
  cases hp : L[j]? with
  | none => rw [hp] at h; cases h
  | some p => rw [hp] at h; exact ⟨p, rfl, (Option.some.inj h).symm⟩
/-- cells that follow one another hold slices, each of which is read -/
theorem NestA.cells {α : Type} {R : World → Value → α → Prop} {w : World} {g m c : Nat} (s : Nat → Value) (x : Nat → α) (hm : m ≤ 1000000) (hc : m ≤ c) (h1 : ∀ i, i < m → w.cell? ⟨g, i, none⟩ = some (s i)) (h2 : ∀ i, i < m → slV (slOf (s i)) = s i) (h3 : ∀ i, i < m → R w (s i) (x i)) : NestA R w (.slice (some ⟨g, 0, none⟩) m c) ((List.range m).map x) := by
  have hl : ((List.range m).map fun i => (slOf (s i), x i)).length = m := by simp
  refine ⟨(List.range m).map fun i => (slOf (s i), x i), ⟨some ⟨g, 0, none⟩, c, by rw [hl], by rw [hl]; exact hc, (fun e => by cases e), by rw [hl]; omega, fun j u hu => ?_⟩, ?_, ?_⟩
  · obtain ⟨p, hp, rfl⟩ := flatP_get _ _ _ hu
    have hj : j < m := by
      have := (List.getElem?_eq_some_iff.1 hp).1
      rw [hl] at this; exact this
    rw [List.getElem?_map, List.getElem?_range hj] at hp
    obtain rfl := Option.some.inj hp
    refine ⟨g, 0, rfl, ?_⟩
    rw [Nat.zero_add, h1 j hj]
    show some (s j) = some (slV (slOf (s j)))
    rw [h2 j hj]
  · rw [List.map_map]; rfl
  · intro p hp
    obtain ⟨i, hi, rfl⟩ := List.mem_map.1 hp
    have hi2 := List.mem_range.1 hi
    show R w (slV (slOf (s i))) (x i)
    rw [h2 i hi2]
    exact h3 i hi2
theorem NestA.nil {α : Type} {R : World → Value → α → Prop} {w : World} {a : Option Addr} {cap : Nat} (hn : a = none → cap = 0) : NestA R w (.slice a 0 cap) [] := ⟨[], RowAt.void hn, rfl, by simp⟩
/-- a world in plain words -/
structure WdL where
  n : Int
  es : List E2
  P : Int
  ow : List Int
  hv : List Int
  kn : List (List Int)
  bx : List (List (List Msg))
/-- a value that reads as this world -/
def WldAt (w : World) (v : Value) (W : WdL) : Prop := ∃ ae ao ah ak ab ce co ch ck cb, v = .agg #[.int .i64 W.n, .slice ae W.es.length ce, .int .i64 W.P, .slice ao W.ow.length co, .slice ah W.hv.length ch, .slice ak W.kn.length ck, .slice ab W.bx.length cb] ∧
  EdgesAt w (.slice ae W.es.length ce) W.es ∧ IntsAt w (.slice ao W.ow.length co) W.ow ∧ IntsAt w (.slice ah W.hv.length ch) W.hv ∧ KnA w (.slice ak W.kn.length ck) W.kn ∧ BoxA w (.slice ab W.bx.length cb) W.bx
theorem WldAt.below {w w' : World} {v : Value} {W : WdL} (h : WldAt w v W) (hb : Below w.heap.size w w') : WldAt w' v W := by
  obtain ⟨ae, ao, ah, ak, ab, ce, co, ch, ck, cb, rfl, h1, h2, h3, h4, h5⟩ := h
  exact ⟨ae, ao, ah, ak, ab, ce, co, ch, ck, cb, rfl, h1.below hb, h2.below hb, h3.below hb, h4.below hb, h5.below hb⟩
def wdL (n P : Nat) (es : List E2) (ow : Nat → Nat) (hv : List Int) (W : WdP) : WdL := ⟨n, es, P, owI n ow, hv, (List.range P).map W.kn, (List.range P).map fun r => (List.range P).map (W.bx r)⟩
/-- what is one's own, read -/
theorem OwnW.kn {w : World} {lo P KB BB cK cB : Nat} {R cR : Nat → Nat} {vs : Ix → Value} {K : Nat → List Int} {B : Nat → Nat → List Msg} (h : OwnW w lo P KB BB cK cB R cR vs K B) (hP : P ≤ 64) (hl : ∀ r, r < P → (K r).length ≤ 1000000) : KnA w (.slice (some ⟨KB, 0, none⟩) P cK) ((List.range P).map K) :=
  NestA.cells (fun i => vs (0, i)) K (by omega) h.cK (fun i hi => h.grid.cell (0, i) (.inl ⟨rfl, hi⟩)) (fun i hi => slOf_owns (h.grid.own (0, i) (.inl ⟨rfl, hi⟩))) (fun i hi => by
    obtain ⟨a', c', e, h', -⟩ := IntsAt.of_owns (h.grid.kn (t := i) (.inl ⟨rfl, hi⟩)) (by have := hl i hi; omega)
    show IntsAt w (vs (0, i)) (K i)
    rw [e]; exact h')
theorem cpI_box {P r t : Nat} (hr : r < P) (ht : t < P) : CpI P P 0 (r + 2, t) := .inr ⟨by show 2 ≤ r + 2; omega, ht, .inl (by show r + 2 < P + 2; omega)⟩
theorem OwnW.bx {w : World} {lo P KB BB cK cB : Nat} {R cR : Nat → Nat} {vs : Ix → Value} {K : Nat → List Int} {B : Nat → Nat → List Msg} (h : OwnW w lo P KB BB cK cB R cR vs K B) (hP : P ≤ 64) (hl : ∀ r t, r < P → t < P → (B r t).length ≤ 1000000) : BoxA w (.slice (some ⟨BB, 0, none⟩) P cB) ((List.range P).map fun r => (List.range P).map (B r)) :=
  NestA.cells (R := BoxR) (fun r => .slice (some ⟨R r, 0, none⟩) P (cR r)) (fun r => (List.range P).map (B r)) (by omega) h.cB (fun r hr => (h.out r hr).1) (fun _ _ => rfl) (fun r hr =>
    NestA.cells (R := RowAt encM) (fun t => vs (r + 2, t)) (B r) (by omega) (h.out r hr).2 (fun t ht => h.grid.cell (r + 2, t) (cpI_box hr ht)) (fun t ht => slOf_owns (h.grid.own (r + 2, t) (cpI_box hr ht))) (fun t ht => by
      obtain ⟨a', c', e, h', -⟩ := RowAt.of_owns (E := encM) (h.grid.box (cpI_box hr ht)) (by have := hl r t hr ht; omega)
      show RowAt encM w (vs (r + 2, t)) (B r t)
      rw [e]; exact h'))
end Go.Proofs.Ytdkmdcdoiaelfaa
