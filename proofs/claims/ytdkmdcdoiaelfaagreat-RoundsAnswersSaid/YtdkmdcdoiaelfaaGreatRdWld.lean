/- Worlds of workers as values: what they hold, read; what stays true whatever changes elsewhere. Plain: which worlds of workers are valid, in words of lists. -/
import Derived.Test.YtdkmdcdoiaelfaaGreatRdCopy
import Derived.Test.YtdkmdcdoiaelfaaGreatRndP
import Derived.Test.YtdkmdcdoiaelfaaGreatSets
namespace Go.Proofs.YtdkmdcdoiaelfaaGreat
open Go.RowKit Go.BigFrame

/-- it holds, whatever changes in the blocks of which D holds -/
def Stb (D : Nat → Prop) (w : World) (p : World → Prop) : Prop := ∀ w', Fr D w w' → p w'
section
variable {D D' D1 : Nat → Prop} {w w1 : World} {p q : World → Prop}
theorem Stb.now (h : Stb D w p) : p w := h w (Fr.refl D w)
theorem Fr.sub (h : Fr D' w w1) (hr : ∀ b, D' b → D b ∨ w.heap.size ≤ b) : Fr D w w1 := (Fr.refl D w).trans h hr
theorem Stb.step (h : Stb D w p) (g : Fr D' w w1) (h1 : ∀ b, D' b → D b ∨ w.heap.size ≤ b) (h2 : ∀ b, D1 b → D b ∨ w.heap.size ≤ b) : Stb D1 w1 p := fun w' g' => h w' ((Fr.sub g h1).trans g' h2)
theorem Stb.imp (h : Stb D w p) (hp : ∀ w', p w' → q w') : Stb D w q := fun w' g => hp w' (h w' g)
theorem Fr.row {α : Type} {E : Enc α} {v : Value} {xs : List α} (h : Fr D w w1) (hi : RowAt E w v xs) (hd : ∀ n c p, v = .slice (some p) n c → ¬ D p.block) : RowAt E w1 v xs := by
  obtain ⟨a, cap, rfl, h1, h2, h3, h4⟩ := hi
  refine ⟨a, cap, rfl, h1, h2, h3, fun i u hu => ?_⟩
  obtain ⟨b, off, rfl, c0⟩ := h4 i u hu
  exact ⟨b, off, rfl, h.cell c0 (hd _ _ _ rfl)⟩
theorem ownBlock_of {a : Option Addr} {n c n' c' : Nat} {p : Addr} (e : Value.slice a n c = .slice (some p) n' c') : (Value.slice a n c).ownBlock = some p.block := by cases e; rfl
/-- rows of one's own, read -/
theorem Stb.ints {s : Nat} {v : Value} {xs : List Int} (h : w.ownsRow s 3 1 v xs.length (intsV xs)) (hl : xs.length ≤ 1000000) (hd : ∀ b, v.ownBlock = some b → ¬ D b) : Stb D w fun w' => IntsAt w' v xs := fun w' g => by
  obtain ⟨a', c', rfl, h', -⟩ := IntsAt.of_owns h (by omega)
  exact g.ints h' fun n c p e => hd _ (ownBlock_of e)
theorem Stb.row {α : Type} {E : Enc α} {s T : Nat} {v : Value} {xs : List α} (h : w.ownsRow s T E.k v xs.length (flatR E xs)) (hl : xs.length ≤ 1000000) (hd : ∀ b, v.ownBlock = some b → ¬ D b) : Stb D w fun w' => RowAt E w' v xs := fun w' g => by
  obtain ⟨a', c', rfl, h', -⟩ := RowAt.of_owns h (by omega)
  exact g.row h' fun n c p e => hd _ (ownBlock_of e)
end
def slOf : Value → Sl
  | .slice a n c => (a, n, c)
  | _ => (none, 0, 0)
theorem slOf_owns {w : World} {base T size n : Nat} {v : Value} {xs : List Value} (h : w.ownsRow base T size v n xs) : slV (slOf v) = v := by
  obtain ⟨a, c, rfl⟩ := owns_shape h
  rfl
theorem flatP_eq {α : Type} : ∀ L : List (Sl × α), flatR (encP α) L = L.map fun p => slV p.1
  | [] => rfl
  | p :: L => by rw [flatR_cons, flatP_eq L]; rfl
theorem flatP_get {α : Type} (L : List (Sl × α)) (j : Nat) (u : Value) (h : (flatR (encP α) L)[j]? = some u) : ∃ p, L[j]? = some p ∧ u = slV p.1 := by
  rw [flatP_eq, List.getElem?_map] at h
  cases hp : L[j]? with
  | none => rw [hp] at h; cases h
  | some p => rw [hp] at h; exact ⟨p, rfl, (Option.some.inj h).symm⟩
/-- cells that follow one another hold slices, each of which is read -/
theorem NestA.cells {α : Type} {R : World → Value → α → Prop} {w : World} {g m c : Nat} (s : Nat → Value) (x : Nat → α) (hm : m ≤ 1000000) (hc : m ≤ c) (h1 : ∀ i, i < m → w.cell? ⟨g, i, none⟩ = some (s i)) (h2 : ∀ i, i < m → slV (slOf (s i)) = s i) (h3 : ∀ i, i < m → R w (s i) (x i)) : NestA R w (.slice (some ⟨g, 0, none⟩) m c) ((List.range m).map x) := by
  have hl : ((List.range m).map fun i => (slOf (s i), x i)).length = m := by simp
  refine ⟨(List.range m).map fun i => (slOf (s i), x i), ⟨some ⟨g, 0, none⟩, c, by rw [hl], by rw [hl]; exact hc, (fun e => by cases e), by rw [hl]; omega, fun j u hu => ?_⟩, ?_, ?_⟩
  · obtain ⟨p, hp, rfl⟩ := flatP_get _ _ _ hu
    have hj : j < m := by
      have := (List.getElem?_eq_some_iff.1 hp).1
      rw [hl] at this; exact this
    rw [List.getElem?_map, List.getElem?_range hj] at hp
    obtain rfl := Option.some.inj hp
    refine ⟨g, 0, rfl, ?_⟩
    rw [Nat.zero_add, h1 j hj]
    show some (s j) = some (slV (slOf (s j)))
    rw [h2 j hj]
  · rw [List.map_map]; rfl
  · intro p hp
    obtain ⟨i, hi, rfl⟩ := List.mem_map.1 hp
    have hi2 := List.mem_range.1 hi
    show R w (slV (slOf (s i))) (x i)
    rw [h2 i hi2]
    exact h3 i hi2
theorem NestA.nil {α : Type} {R : World → Value → α → Prop} {w : World} {a : Option Addr} {cap : Nat} (hn : a = none → cap = 0) : NestA R w (.slice a 0 cap) [] := ⟨[], RowAt.void hn, rfl, by simp⟩
/-- a world in plain words -/
structure WdL where
  n : Int
  es : List E2
  P : Int
  ow : List Int
  hv : List Int
  kn : List (List Int)
  bx : List (List (List Msg))
/-- a value that reads as this world -/
def WldAt (w : World) (v : Value) (W : WdL) : Prop := ∃ ae ao ah ak ab ce co ch ck cb, v = .agg #[.int .i64 W.n, .slice ae W.es.length ce, .int .i64 W.P, .slice ao W.ow.length co, .slice ah W.hv.length ch, .slice ak W.kn.length ck, .slice ab W.bx.length cb] ∧
  EdgesAt w (.slice ae W.es.length ce) W.es ∧ IntsAt w (.slice ao W.ow.length co) W.ow ∧ IntsAt w (.slice ah W.hv.length ch) W.hv ∧ KnA w (.slice ak W.kn.length ck) W.kn ∧ BoxA w (.slice ab W.bx.length cb) W.bx
theorem WldAt.below {w w' : World} {v : Value} {W : WdL} (h : WldAt w v W) (hb : Below w.heap.size w w') : WldAt w' v W := by
  obtain ⟨ae, ao, ah, ak, ab, ce, co, ch, ck, cb, rfl, h1, h2, h3, h4, h5⟩ := h
  exact ⟨ae, ao, ah, ak, ab, ce, co, ch, ck, cb, rfl, h1.below hb, h2.below hb, h3.below hb, h4.below hb, h5.below hb⟩
/-- and it stays so whatever changes in the blocks below s -/
def WldS (s : Nat) (w : World) (v : Value) (W : WdL) : Prop := Stb (fun b => b < s) w fun U => WldAt U v W
theorem WldS.now {s : Nat} {w : World} {v : Value} {W : WdL} (h : WldS s w v W) : WldAt w v W := Stb.now h
theorem WldS.less {s s' : Nat} {w : World} {v : Value} {W : WdL} (h : WldS s w v W) (hs : s' ≤ s) : WldS s' w v W := fun U g => h U (g.mono fun b hb => by omega)
def wdL (n P : Nat) (es : List E2) (ow : Nat → Nat) (hv : List Int) (W : WdP) : WdL := ⟨n, es, P, owI n ow, hv, (List.range P).map W.kn, (List.range P).map fun r => (List.range P).map (W.bx r)⟩
/-- what is one's own, read -/
theorem OwnW.kn {w : World} {lo P KB BB cK cB : Nat} {R cR : Nat → Nat} {vs : Ix → Value} {K : Nat → List Int} {B : Nat → Nat → List Msg} (h : OwnW w lo P KB BB cK cB R cR vs K B) (hP : P ≤ 64) (hl : ∀ r, r < P → (K r).length ≤ 1000000) : KnA w (.slice (some ⟨KB, 0, none⟩) P cK) ((List.range P).map K) :=
  NestA.cells (fun i => vs (0, i)) K (by omega) h.cK (fun i hi => h.grid.cell (0, i) (.inl ⟨rfl, hi⟩)) (fun i hi => slOf_owns (h.grid.own (0, i) (.inl ⟨rfl, hi⟩))) (fun i hi => by
    obtain ⟨a', c', e, h', -⟩ := IntsAt.of_owns (h.grid.kn (t := i) (.inl ⟨rfl, hi⟩)) (by have := hl i hi; omega)
    show IntsAt w (vs (0, i)) (K i)
    rw [e]; exact h')
theorem cpI_box {P r t : Nat} (hr : r < P) (ht : t < P) : CpI P P 0 (r + 2, t) := .inr ⟨by show 2 ≤ r + 2; omega, ht, .inl (by show r + 2 < P + 2; omega)⟩
theorem OwnW.bx {w : World} {lo P KB BB cK cB : Nat} {R cR : Nat → Nat} {vs : Ix → Value} {K : Nat → List Int} {B : Nat → Nat → List Msg} (h : OwnW w lo P KB BB cK cB R cR vs K B) (hP : P ≤ 64) (hl : ∀ r t, r < P → t < P → (B r t).length ≤ 1000000) : BoxA w (.slice (some ⟨BB, 0, none⟩) P cB) ((List.range P).map fun r => (List.range P).map (B r)) :=
  NestA.cells (R := BoxR) (fun r => .slice (some ⟨R r, 0, none⟩) P (cR r)) (fun r => (List.range P).map (B r)) (by omega) h.cB (fun r hr => (h.out r hr).1) (fun _ _ => rfl) (fun r hr =>
    NestA.cells (R := RowAt encM) (fun t => vs (r + 2, t)) (B r) (by omega) (h.out r hr).2 (fun t ht => h.grid.cell (r + 2, t) (cpI_box hr ht)) (fun t ht => slOf_owns (h.grid.own (r + 2, t) (cpI_box hr ht))) (fun t ht => by
      obtain ⟨a', c', e, h', -⟩ := RowAt.of_owns (E := encM) (h.grid.box (cpI_box hr ht)) (by have := hl r t hr ht; omega)
      show RowAt encM w (vs (r + 2, t)) (B r t)
      rw [e]; exact h'))
end Go.Proofs.YtdkmdcdoiaelfaaGreat

namespace Go.Proofs.YtdkmdcdoiaelfaaGreat
open Go.RowKit Go.BigFrame

/-- what is wrong with a plan; with a graph and a plan -/
def plnS (P : Int) (ow hv : List Int) (n : Int) : Int := if P < 1 ∨ 8 < P then 1 else if (ow.length : Int) ≠ n ∨ validZ none hv n = false then 4 else if ow.any (fun w => decide (w < 0) || decide (P ≤ w)) = true then 30 else 0
def fltS (n : Int) (es : List E2) (P : Int) (ow hv : List Int) : Int := if checkS n es ≠ 0 then checkS n es else plnS P ow hv n
def okN (n x : Int) : Bool := decide (0 ≤ x) && decide (x ≤ n)
def okM (n : Int) (m : Msg) : Bool := !m.2.2 && (decide (0 ≤ m.1) && (decide (m.1 < n) && okN n m.2.1))
def okK (n : Int) (l : List Int) : Bool := decide ((l.length : Int) = n) && l.all (okN n)
def okB (n P : Int) (bx : List (List (List Msg))) (i : Nat) : Bool := decide (((bx.getD i []).length : Int) = P) && (decide (((bx.getD i []).getD i []).length = 0) && (bx.getD i []).all fun b => b.all (okM n))
def valB (W : WdL) : Bool := decide (fltS W.n W.es W.P W.ow W.hv = 0) && (decide ((W.kn.length : Int) = W.P) && (decide ((W.bx.length : Int) = W.P) && (W.kn.all (okK W.n) && (List.range W.bx.length).all (okB W.n W.P W.bx))))
theorem all_drop {α : Type} (p : α → Bool) (l : List α) (k : Nat) (e : α) (hk : l[k]? = some e) : (l.drop k).all p = (p e && (l.drop (k + 1)).all p) := by
  obtain ⟨hlt, he⟩ := List.getElem?_eq_some_iff.1 hk
  rw [List.drop_eq_getElem_cons hlt, List.all_cons, he]
theorem owI_mem {n : Nat} {ow : Nat → Nat} {x : Int} (h : x ∈ owI n ow) : ∃ v, v < n ∧ x = (ow v : Int) := by
  obtain ⟨i, hi, e⟩ := List.mem_iff_getElem.1 h
  have hi2 : i < n := by rw [owI_length] at hi; exact hi
  have h3 := owI_get n ow i hi2
  rw [List.getElem?_eq_getElem hi, e] at h3
  exact ⟨i, hi2, Option.some.inj h3⟩
theorem flt_wd {n P : Nat} {es : List E2} {ow : Nat → Nat} {hv : List Int} (hg : Valid n es) (hP : 1 ≤ P ∧ P ≤ 8) (how : ∀ v, v < n → ow v < P) (hh : validZ none hv n = true) : fltS n es P (owI n ow) hv = 0 := by
  unfold fltS plnS
  rw [if_neg (fun h => h ((valid_iff _ _).2 hg)), if_neg (by omega), if_neg, if_neg]
  · rw [Bool.not_eq_true, List.any_eq_false]
    intro x hx
    obtain ⟨v, hv, rfl⟩ := owI_mem hx
    have := how v hv
    simp; omega
  · rw [owI_length, hh]; simp
theorem val_wd {n P : Nat} {es : List E2} {ow : Nat → Nat} {hv : List Int} {W : WdP} (hg : Valid n es) (hP : 1 ≤ P ∧ P ≤ 8) (how : ∀ v, v < n → ow v < P) (hh : validZ none hv n = true) (hV : VldP n P W) : valB (wdL n P es ow hv W) = true := by
  have hx : (wdL n P es ow hv W).bx = bxL P W := rfl
  unfold valB
  rw [hx]
  simp only [Bool.and_eq_true, decide_eq_true_eq]
  refine ⟨flt_wd hg hP how hh, by simp [wdL], by rw [bxL_len]; rfl, ?_, ?_⟩
  · rw [List.all_eq_true]
    intro l hl
    obtain ⟨w, hw, rfl⟩ := List.mem_map.1 hl
    have hw2 := List.mem_range.1 hw
    unfold okK
    rw [Bool.and_eq_true, decide_eq_true_eq, List.all_eq_true]
    refine ⟨by rw [hV.len w hw2]; rfl, fun x hx => ?_⟩
    obtain ⟨i, hi, e⟩ := List.mem_iff_getElem.1 hx
    have h1 := hV.ge w hw2 i
    have h2 := hV.le w hw2 i
    have h3 : (W.kn w).getD i 0 = x := by rw [List.getD_eq_getElem?_getD, List.getElem?_eq_getElem hi, e]; rfl
    unfold okN
    rw [h3] at h1 h2
    simp only [Bool.and_eq_true, decide_eq_true_eq]
    exact ⟨h1, h2⟩
  · rw [List.all_eq_true]
    intro i hi
    rw [bxL_len] at hi
    have hi2 := List.mem_range.1 hi
    unfold okB
    rw [bxL_box P W i i hi2 hi2, bxL_rowD P W i hi2]
    simp only [Bool.and_eq_true, decide_eq_true_eq]
    refine ⟨by simp [wdL], ?_, ?_⟩
    · cases hb : W.bx i i with
      | nil => rfl
      | cons m r => exact absurd rfl (hV.msg i i hi2 hi2 m (by rw [hb]; exact List.mem_cons_self)).1
    · rw [List.all_eq_true]
      intro b hb
      obtain ⟨j, hj, rfl⟩ := List.mem_map.1 hb
      rw [List.all_eq_true]
      intro m hm
      obtain ⟨-, h2, h3, h4, h5, h6⟩ := hV.msg i j hi2 (List.mem_range.1 hj) m hm
      unfold okM okN
      rw [h4]
      simp only [Bool.and_eq_true, decide_eq_true_eq]
      exact ⟨rfl, h2, h3, h5, h6⟩
end Go.Proofs.YtdkmdcdoiaelfaaGreat
