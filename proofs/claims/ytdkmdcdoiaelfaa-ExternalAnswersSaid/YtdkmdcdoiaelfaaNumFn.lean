/- Numbers and truth values in a block as functions; lists of nodes; numbers and an error that are handed back. -/
import Derived.Test.YtdkmdcdoiaelfaaAdj
import Derived.Test.YtdkmdcdoiaelfaaPeel
import Derived.Test.YtdkmdcdoiaelfaaNumAt
import Derived.Test.YtdkmdcdoiaelfaaRef03New
import Derived.Test.YtdkmdcdoiaelfaaSeqs
namespace Go.Proofs.Ytdkmdcdoiaelfaa
open Go.RowKit Go.BigFrame

theorem filter_le_of {α : Type} (P Q : α → Bool) (l : List α) (h : ∀ x ∈ l, P x = true → Q x = true) : (l.filter P).length ≤ (l.filter Q).length := by
  induction l with
  | nil => exact Nat.le_refl _
  | cons x l ih =>
    have h1 := ih fun y hy => h y (List.mem_cons_of_mem _ hy)
    have h2 := h x List.mem_cons_self
    rw [List.filter_cons, List.filter_cons]
    cases hP : P x with
    | true => rw [h2 hP]; simp; omega
    | false => cases Q x <;> simp <;> omega
def offB (S : Nat → Bool) (b : Nat) : Nat → Bool := fun z => S z && decide (z ≠ b)
theorem offB_iff (S : Nat → Bool) (b z : Nat) : offB S b z = true ↔ S z = true ∧ z ≠ b := by simp [offB]
/-- numbers as a function -/
def fnL (m : Nat) (F : Nat → Int) : List Int := (List.range m).map F
theorem fnL_length (m : Nat) (F : Nat → Int) : (fnL m F).length = m := by simp [fnL]
theorem fnL_get (m : Nat) (F : Nat → Int) (i : Nat) (h : i < m) : (fnL m F)[i]? = some (F i) := by simp [fnL, h]
theorem fnL_set (m : Nat) (F : Nat → Int) (i : Nat) (v : Int) : (fnL m F).set i v = fnL m (fun x => if x = i then v else F x) := by
  apply List.ext_getElem?
  intro j
  by_cases hj : j < m
  · rw [List.getElem?_set, fnL_get _ _ _ hj, fnL_get _ _ _ hj, fnL_length]
    by_cases e : i = j
    · subst e; simp [hj]
    · rw [if_neg e, if_neg (Ne.symm e)]
  · rw [List.getElem?_eq_none (by rw [List.length_set, fnL_length]; omega), List.getElem?_eq_none (by rw [fnL_length]; omega)]
theorem fnL_zero (m : Nat) : List.replicate m (0 : Int) = fnL m (fun _ => 0) := by
  apply List.ext_getElem?
  intro j
  by_cases hj : j < m
  · rw [fnL_get _ _ _ hj, List.getElem?_replicate, if_pos hj]
  · rw [List.getElem?_eq_none (by rw [List.length_replicate]; omega), List.getElem?_eq_none (by rw [fnL_length]; omega)]
theorem fnL_congr (m : Nat) (F G : Nat → Int) (h : ∀ x, x < m → F x = G x) : fnL m F = fnL m G := List.map_congr_left fun x hx => h x (List.mem_range.1 hx)
/-- truth values as a function -/
def fnB (m : Nat) (F : Nat → Bool) : List Value := (List.range m).map fun x => Value.bool (F x)
theorem fnB_length (m : Nat) (F : Nat → Bool) : (fnB m F).length = m := by simp [fnB]
theorem fnB_get (m : Nat) (F : Nat → Bool) (i : Nat) (h : i < m) : (fnB m F)[i]? = some (.bool (F i)) := by simp [fnB, h]
theorem fnB_set (m : Nat) (F : Nat → Bool) (i : Nat) (v : Bool) : (fnB m F).set i (.bool v) = fnB m (fun x => if x = i then v else F x) := by
  apply List.ext_getElem?
  intro j
  by_cases hj : j < m
  · rw [List.getElem?_set, fnB_get _ _ _ hj, fnB_get _ _ _ hj, fnB_length]
    by_cases e : i = j
    · subst e; simp [hj]
    · rw [if_neg e, if_neg (Ne.symm e)]
  · rw [List.getElem?_eq_none (by rw [List.length_set, fnB_length]; omega), List.getElem?_eq_none (by rw [fnB_length]; omega)]
def BoolAt (w : World) (g m : Nat) (F : Nat → Bool) : Prop := w.heap[g]? = some (.cells (fnB m F).toArray 4 (0, 0))
theorem BoolAt.cell {w : World} {g m : Nat} {F : Nat → Bool} (h : BoolAt w g m F) (i : Nat) (hi : i < m) : w.cell? ⟨g, i, none⟩ = some (.bool (F i)) := by
  rw [cell_blk h]; simpa using fnB_get m F i hi
theorem BoolAt.set {w : World} {g m : Nat} {F : Nat → Bool} (h : BoolAt w g m F) (i : Nat) (v : Bool) : BoolAt (w.setCell ⟨g, i, none⟩ (.bool v)) g m (fun x => if x = i then v else F x) := by
  unfold BoolAt
  rw [heap_setCell_same _ _ _ _ _ _ h, ← fnB_set]
  simp
theorem BoolAt.congr {w : World} {g m : Nat} {F G : Nat → Bool} (h : BoolAt w g m F) (e : ∀ x, x < m → F x = G x) : BoolAt w g m G := by
  have : fnB m F = fnB m G := List.map_congr_left fun x hx => by rw [e x (List.mem_range.1 hx)]
  unfold BoolAt; rw [← this]; exact h
theorem numAt_fn {w : World} {g m : Nat} {F : Nat → Int} (h : NumAt w g (fnL m F)) (i : Nat) (hi : i < m) : w.cell? ⟨g, i, none⟩ = some (.int .i64 (F i)) := h.cell i _ (fnL_get m F i hi)
theorem numAt_set {w : World} {g m : Nat} {F : Nat → Int} (h : NumAt w g (fnL m F)) (i : Nat) (v : Int) : NumAt (w.setCell ⟨g, i, none⟩ (.int .i64 v)) g (fnL m (fun x => if x = i then v else F x)) := by
  rw [← fnL_set]; exact h.set i v
theorem numAt_other {w : World} {g b j : Nat} {l : List Int} {v : Value} (h : NumAt w g l) (hne : g ≠ b) : NumAt (w.setCell ⟨b, j, none⟩ v) g l := (Below.heap_setCell _ _ _ _ (by show g ≠ b; exact hne)).trans h
theorem boolAt_other {w : World} {g m b j : Nat} {F : Nat → Bool} {v : Value} (h : BoolAt w g m F) (hne : g ≠ b) : BoolAt (w.setCell ⟨b, j, none⟩ v) g m F := (Below.heap_setCell _ _ _ _ (by show g ≠ b; exact hne)).trans h
def castL (l : List Nat) : List Int := l.map fun (i : Nat) => (i : Int)
theorem castL_length (l : List Nat) : (castL l).length = l.length := List.length_map _
theorem castL_snoc (l : List Nat) (x : Nat) : castL (l ++ [x]) = castL l ++ [(x : Int)] := by simp [castL]
def bestI : Option Nat → Int
  | none => -1
  | some b => b
theorem left_snoc (i : Nat) (R : Nat → Bool) : (List.range (i + 1)).filter R = (List.range i).filter R ++ (if R i = true then [i] else []) := by
  rw [List.range_succ, List.filter_append]
  congr 1
  cases h : R i <;> simp [h]
theorem rest_lt {m : Nat} {o : List Nat} {x : Nat} (hx : x < m) : restB m o x = !(o.contains x) := by simp [restB, hx]
theorem range_left (m : Nat) (o : List Nat) : leftL m o = (List.range m).filter (restB m o) := rfl
/-- numbers and an error are handed back -/
def TPost (w : World) (r : List Int × Int) (e : Ending) (w' : World) : Prop := ∃ a c, e = .returned (.tuple #[.slice a r.1.length c, .int .i64 r.2]) ∧ IntsAt w' (.slice a r.1.length c) r.1 ∧ (∀ p, a = some p → w.heap.size ≤ p.block) ∧ Below w.heap.size w w'
theorem ints_nil (w : World) : IntsAt w (.slice none 0 0) [] := ⟨none, 0, rfl, Nat.le_refl _, fun _ => rfl, by simp, fun i x h => by simp at h⟩
theorem mem_castL (l : List Nat) (x : Nat) : (x : Int) ∈ castL l ↔ x ∈ l := by
  unfold castL
  rw [List.mem_map]
  constructor
  · rintro ⟨y, hy, e⟩
    have : y = x := by omega
    rw [← this]; exact hy
  · intro h; exact ⟨x, h, rfl⟩
def IntsNw (w : World) (ys : List Int) (e : Ending) (w' : World) : Prop := ∃ a cap, e = .returned (.slice a ys.length cap) ∧ IntsAt w' (.slice a ys.length cap) ys ∧ (∀ p, a = some p → w.heap.size ≤ p.block) ∧ Below w.heap.size w w'
theorem ints_nw {w w' : World} {T : Nat} {v : Value} {xs : List Int} (hb : Below w.heap.size w w') (hown : w'.ownsRow w.heap.size T 1 v xs.length (intsV xs)) (hl : xs.length ≤ 70368744177664) : IntsNw w xs (.returned v) w' := by
  obtain ⟨a, cap, rfl, h, hp⟩ := IntsAt.of_owns hown hl
  exact ⟨a, cap, rfl, h, hp, hb⟩
def minusS (xs ys : List Int) : List Int := (ofS xs).filter (fun x => !decide (x ∈ ys))
set_option maxRecDepth 100000 in
set_option maxHeartbeats 1600000 in
theorem minus_any (a a2 : Option Addr) (cap cap2 : Nat) (xs ys : List Int) (w : World) (hi : IntsAt w (.slice a xs.length cap) xs) (hj : IntsAt w (.slice a2 ys.length cap2) ys) (hn : xs.length ≤ 1073741824) :
    Calls Try.prog 32 #[.slice a xs.length cap, .slice a2 ys.length cap2] w (IntsNw w (minusS xs ys)) := by
  go_enter Try.func32, Try.ntmps32
  go_wp2_with fail
  refine (of_any a cap xs _ hi hn).mono ?_
  rintro e w1 ⟨a1, c1, rfl, hi1, hb1⟩
  have hol := ofS_length xs
  have hj1 := hj.below hb1
  have hmn : minusS xs ys = (ofS xs).filter (fun x => !decide (x ∈ ys)) := rfl
  obtain ⟨zs, hzs⟩ : ∃ zs, ofS xs = zs := ⟨_, rfl⟩
  rw [hzs] at hi1 hol hmn ⊢
  have HMN := Lib.hid hmn
  clear hzs hmn
  go_wp2_with fail
  go_loopw [5, 11] (fun vo vi wr => ∃ k : Nat, k ≤ zs.length ∧ vi = .int .i64 k ∧ ∃ P : List Int, wr.ownsRow w1.heap.size 3 1 vo P.length (intsV P) ∧ Hid (P = (zs.take k).filter (fun x => !decide (x ∈ ys))) ∧ P.length ≤ k ∧ Below w1.heap.size w1 wr) (fun _ vi _ => zs.length - (intOf vi).toNat)
  case atStart => exact ⟨0, Nat.zero_le _, rfl, [], World.ownsRow_nil _ _ _ _, (show _ = _ by simp), Nat.le_refl _, Below.refl _ _⟩
  case round =>
    obtain ⟨k, hk, rfl, P, hown, HP, hPk, hb⟩ := hrel
    obtain ⟨ao, co, hvo⟩ := owns_shape hown
    subst hvo
    by_cases hlt : k < zs.length
    · obtain ⟨b9, o9, z, rfl, hz, _, _, c0⟩ := (hi1.below hb).at k hlt
      have htk : (zs.take (k + 1)).filter (fun x => !decide (x ∈ ys)) = P ++ (if z ∈ ys then [] else [z]) := by
        rw [take_at _ _ _ hz, List.filter_append, ← HP.out]
        congr 1
        by_cases h : z ∈ ys <;> simp [h]
      have hhas := has_any a2 cap2 ys z _ (hj1.below hb)
      have hlt3 : (k : Int) < zs.length := by omega
      by_cases hzy : z ∈ ys
      · rw [if_pos hzy, List.append_nil] at htk
        have HT := Lib.hid htk
        rw [decide_eq_true hzy] at hhas
        clear htk hz hzy
        go_wp2_with (go_at_call 72; with_reducible refine hhas.mono ?_; rintro e w4 ⟨rfl, rfl⟩)
        go_roundw
        case rel => exact ⟨k + 1, by omega, by go_num, P, hown, HT.out.symm, by omega, hb⟩
        case measure => simp [intOf]; omega
      · rw [if_neg hzy] at htk
        have HT := Lib.hid htk
        rw [decide_eq_false hzy] at hhas
        have hlx := ints_lit1 wr z 3
        have hownA := hown.alloc (.cells #[.int .i64 z] 3)
        have hbA := hb.alloc hb.size (.cells #[.int .i64 z] 3)
        clear htk hz hzy
        go_wp2_with (first
          | (go_at_call 72; with_reducible refine hhas.mono ?_; rintro e w4 ⟨rfl, rfl⟩)
          | (at_builtin; refine wpList_app_ints intsT rfl _ _ rfl w1.heap.size (.slice ao P.length co) _ P [z] rfl hownA rfl hlx (by simp; omega) hbA.size ?_; intro v6 w6 hown6 hg6))
        go_roundw
        case rel => exact ⟨k + 1, by omega, by go_num, P ++ [z], hown6, HT.out.symm, by simp; omega, hbA.grown hg6 hbA.size (fun g e => (hownA.lt g e).1)⟩
        case measure => simp [intOf]; omega
    · obtain rfl : k = zs.length := by omega
      have hPP := HP.out
      rw [List.take_length] at hPP
      have hz := hb1.size
      have hp := ints_nw (w := w) (hb1.trans (hb.mono hz)) (owns_base hown hz) (by omega)
      have hq : IntsNw w (minusS xs ys) (.returned (.slice ao P.length co)) wr := by rw [HMN.out, ← hPP]; exact hp
      clear hPP hp
      go_wp2_with fail
      go_ret
      exact hq
/-- the members of a set -/
def selL (m : Nat) (S : Nat → Bool) : List Nat := (List.range m).filter S
theorem selL_mem {m : Nat} {S : Nat → Bool} (hS : ∀ x, S x = true → x < m) (x : Nat) : x ∈ selL m S ↔ S x = true := by
  unfold selL
  rw [List.mem_filter, List.mem_range]
  exact ⟨fun h => h.2, fun h => ⟨hS x h, h⟩⟩
theorem selL_nodup (m : Nat) (S : Nat → Bool) : (selL m S).Nodup := List.nodup_range.filter _
theorem selL_len (m : Nat) (S : Nat → Bool) : (selL m S).length ≤ m := by
  have h := List.length_filter_le S (List.range m)
  rw [List.length_range] at h; exact h
theorem selL_asc (m : Nat) (S : Nat → Bool) : Asc (castL (selL m S)) := asc_range S m
theorem ofS_id {l : List Int} (h : Asc l) : ofS l = l := asc_eq _ _ (ofS_asc l) h (fun y => ofS_mem l y)
theorem minus_sel (m : Nat) (S : Nat → Bool) (i : Nat) : minusS (castL (selL m S)) [(i : Int)] = castL (selL m (offB S i)) := by
  unfold minusS
  rw [ofS_id (selL_asc m S)]
  unfold castL selL
  rw [List.filter_map, List.filter_filter]
  congr 1
  refine List.filter_congr fun x _ => ?_
  simp only [Function.comp_apply, List.mem_singleton, offB]
  by_cases h : x = i
  · subst h; simp
  · have h2 : ¬ ((x : Int) = (i : Int)) := by omega
    simp [h, h2]
theorem selL_off {m : Nat} {S : Nat → Bool} (hS : ∀ x, S x = true → x < m) (i : Nat) (hi : S i = true) : (selL m (offB S i)).length < (selL m S).length := by
  have h1 : (i :: selL m (offB S i)).length ≤ (selL m S).length := by
    refine sub_len _ _ (List.nodup_cons.2 ⟨fun h => ?_, selL_nodup m _⟩) (fun y hy => ?_)
    · have := (List.mem_filter.1 h).2
      simp [offB] at this
    · rcases List.mem_cons.1 hy with rfl | hy
      · exact (selL_mem hS y).2 hi
      · obtain ⟨ha, hb⟩ := List.mem_filter.1 hy
        simp only [offB, Bool.and_eq_true] at hb
        exact List.mem_filter.2 ⟨ha, hb.1⟩
  rw [List.length_cons] at h1
  omega
where
  sub_len : ∀ (a b : List Nat), a.Nodup → (∀ y ∈ a, y ∈ b) → a.length ≤ b.length := by
    intro a
    induction a with
    | nil => intro b _ _; exact Nat.zero_le _
    | cons x a ih =>
      intro b hn h
      obtain ⟨h1, h2⟩ := List.nodup_cons.1 hn
      have hx := h x List.mem_cons_self
      have := ih (b.erase x) h2 (fun y hy => (List.mem_erase_of_ne (fun e => by rw [e] at hy; exact h1 hy)).2 (h y (List.mem_cons_of_mem _ hy)))
      rw [List.length_erase_of_mem hx] at this
      have := List.length_pos_of_mem hx
      simp only [List.length_cons]; omega
def lenV : Value → Nat
  | .slice _ n _ => n
  | _ => 0
def boolV : Value → Bool
  | .bool b => b
  | _ => false
theorem drop_mem (l : List Nat) (t y : Nat) (h : y ∈ l.drop (t + 1)) : y ∈ l.drop t := by
  rw [← List.drop_drop] at h
  exact List.mem_of_mem_drop h
theorem nodup_drop {l : List Nat} (hn : l.Nodup) (t x y : Nat) (hx : l[t]? = some x) (h : y ∈ l.drop (t + 1)) : y ≠ x := fun e => by
  rw [e] at h
  have hd : l.drop t = x :: l.drop (t + 1) := drop_at l t x hx
  have h2 : (l.drop t).Nodup := hn.sublist (List.drop_sublist t l)
  rw [hd] at h2
  exact (List.nodup_cons.1 h2).1 h
end Go.Proofs.Ytdkmdcdoiaelfaa
