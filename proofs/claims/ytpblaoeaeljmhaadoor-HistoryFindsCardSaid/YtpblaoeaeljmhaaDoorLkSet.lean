/- The contract of setting a link. -/
import Derived.Test.YtpblaoeaeljmhaaDoorLkFind
import Derived.Test.YtpblaoeaeljmhaaDoorEvSlices
import Derived.Deep.CutRange
import Derived.BigRegion
namespace Go.Proofs.YtpblaoeaeljmhaaDoor
open Go.RowKit Go.BigFrame

theorem lkB_irrefl (a : Lk) : lkB a a = false := by simp [lkB]
theorem lk_tri (a b : Lk) : lkB a b = true ∨ lkB b a = true ∨ sameE a b = true := by
  rw [lkB_iff, lkB_iff, sameE_iff]; omega
theorem same_not {a b : Lk} (h : sameE a b = true) : lkB a b = false ∧ lkB b a = false := by
  rw [sameE_iff] at h
  constructor
  · rw [← Bool.not_eq_true, lkB_iff]; omega
  · rw [← Bool.not_eq_true, lkB_iff]; omega
theorem lkB_not {a b : Lk} (h : lkB a b = true) : lkB b a = false ∧ sameE a b = false ∧ sameE b a = false := by
  rw [lkB_iff] at h
  refine ⟨?_, ?_, ?_⟩
  · rw [← Bool.not_eq_true, lkB_iff]; omega
  · rw [← Bool.not_eq_true, sameE_iff]; omega
  · rw [← Bool.not_eq_true, sameE_iff]; omega
theorem setL_at (x : Lk) : ∀ (ls : List Lk) (i : Nat), i ≤ ls.length → BsL ls x i i → setL x ls = if thereB ls x i = true then ls.set i x else ls.take i ++ x :: ls.drop i := by
  intro ls
  induction ls with
  | nil =>
    intro i hi h
    obtain rfl : i = 0 := by simpa using hi
    simp [setL, thereB]
  | cons l ls ih =>
    intro i hi h
    cases i with
    | zero =>
      have h0 := h.2 0 l (Nat.le_refl _) rfl
      have ht : thereB (l :: ls) x 0 = sameE l x := rfl
      rw [ht]
      unfold setL
      rcases lk_tri x l with h1 | h1 | h1
      · rw [if_pos h1, (lkB_not h1).2.2]; simp
      · rw [h1] at h0; cases h0
      · have h2 : sameE l x = true := by rw [sameE_iff] at h1 ⊢; omega
        rw [if_neg (by rw [(same_not h1).1]; simp), if_pos h2, if_pos h2]; simp
    | succ i =>
      have h0 := h.1 0 l (Nat.succ_pos _) rfl
      have ht : thereB (l :: ls) x (i + 1) = thereB ls x i := rfl
      rw [ht]
      unfold setL
      rw [if_neg (by rw [(lkB_not h0).1]; simp), if_neg (by rw [(lkB_not h0).2.1]; simp)]
      have hB : BsL ls x i i := ⟨fun k e hk he => h.1 (k + 1) e (by omega) (by simpa using he), fun k e hk he => h.2 (k + 1) e (by omega) (by simpa using he)⟩
      rw [ih i (by simpa using hi) hB]
      split <;> simp
theorem BsL.mem {ls : List Lk} {t : Lk} {i : Nat} (h : BsL ls t i i) (hs : ls.Pairwise fun a b => lkB a b = true) : t ∈ ls ↔ ls[i]? = some t := by
  constructor
  · intro hm
    obtain ⟨k, hk⟩ := List.mem_iff_getElem?.1 hm
    have h1 : ¬ k < i := fun hki => by have := h.1 k t hki hk; rw [lkB_irrefl] at this; cases this
    by_cases hki : k = i
    · rw [← hki]; exact hk
    · obtain ⟨h2, hk2⟩ := List.getElem?_eq_some_iff.1 hk
      have h3 : i < ls.length := by omega
      have h4 := List.pairwise_iff_getElem.1 hs i k h3 h2 (by omega)
      rw [hk2] at h4
      have h5 := h.2 i ls[i] (Nat.le_refl _) (List.getElem?_eq_getElem h3)
      rw [h4] at h5; cases h5
  · intro hi; exact List.mem_of_getElem? hi
theorem grown_lk {w : World} {b j : Nat} {v : Value} : w.grownBy (w.setCell ⟨b, j, none⟩ v) (some b) :=
  ⟨rfl, rfl, rfl, by simp, fun k _ hk => Below.heap_setCell _ _ _ _ (fun e => hk (by simp [e]))⟩
theorem lk_cells7 {w : World} {g T : Nat} {x y z u v p q : Value} (h : w.heap[g]? = some (.cells #[x, y, z, u, v, p, q] T (0, 0))) : w.cell? ⟨g, 0, none⟩ = some x ∧ w.cell? ⟨g, 1, none⟩ = some y ∧ w.cell? ⟨g, 2, none⟩ = some z ∧ w.cell? ⟨g, 3, none⟩ = some u ∧ w.cell? ⟨g, 4, none⟩ = some v ∧ w.cell? ⟨g, 5, none⟩ = some p ∧ w.cell? ⟨g, 6, none⟩ = some q :=
  ⟨by rw [cell_blk h]; rfl, by rw [cell_blk h]; rfl, by rw [cell_blk h]; rfl, by rw [cell_blk h]; rfl, by rw [cell_blk h]; rfl, by rw [cell_blk h]; rfl, by rw [cell_blk h]; rfl⟩
theorem set_self {α : Type} (l : List α) (i : Nat) (x : α) (h : l[i]? = some x) : l.set i x = l := by
  refine List.ext_getElem? fun j => ?_
  rw [List.getElem?_set]
  by_cases e : i = j
  · subst e
    rw [if_pos rfl, if_pos (List.getElem?_eq_some_iff.1 h).1, h]
  · rw [if_neg e]
theorem lkblk_owns {w : World} {base T : Nat} {v : Value} {ls : List Lk} (h : w.ownsRow base T encLk.k v ls.length (flatR encLk ls)) (hp : 0 < ls.length) : ∃ g c cur, v = .slice (some ⟨g, 0, none⟩) ls.length c ∧ base ≤ g ∧ ls.length ≤ c ∧ w.heap[g]? = some (.cells cur T (0, 0)) ∧ cur.toList.take (ls.length * 6) = flatR encLk ls := by
  rcases h.2 with ⟨hv, h0⟩ | ⟨g, cap', cur, hv, hb, hg, hn, hc, hs, ht⟩
  · omega
  · exact ⟨g, cap', cur, hv, hb, hn, hg, ht⟩
theorem lkblk_row {w : World} {g c T : Nat} {cur : Array Value} {ls : List Lk} (hb : w.heap[g]? = some (.cells cur T (0, 0))) (ht : cur.toList.take (ls.length * 6) = flatR encLk ls) (hc : ls.length ≤ c) (hs : ls.length ≤ 1099511627776) : RowAt encLk w (.slice (some ⟨g, 0, none⟩) ls.length c) ls := by
  refine ⟨_, c, rfl, hc, (fun e => by cases e), hs, fun j u hu => ⟨g, 0, rfl, ?_⟩⟩
  have hj := (List.getElem?_eq_some_iff.1 hu).1
  rw [flatR_length] at hj
  have hj : j < ls.length * 6 := hj
  rw [Nat.zero_add, cell_blk hb, ← Array.getElem?_toList]
  rw [← ht, List.getElem?_take, if_pos hj] at hu
  exact hu
theorem flat_set6 (x : Lk) : ∀ (ls : List Lk) (i : Nat), i < ls.length → flatR encLk (ls.set i x) = ((((((flatR encLk ls).set (i * 6) (.int .i64 x.u)).set (i * 6 + 1) (.int .i64 x.v)).set (i * 6 + 2) (.int .i64 x.weight)).set (i * 6 + 3) (.int .i64 x.label)).set (i * 6 + 4) (.int .i64 x.sign)).set (i * 6 + 5) (.int .i64 x.time) := by
  intro ls
  induction ls with
  | nil => intro i h; simp at h
  | cons l ls ih =>
    intro i h
    have e : ∀ y : Lk, ∀ zs : List Lk, flatR encLk (y :: zs) = .int .i64 y.u :: .int .i64 y.v :: .int .i64 y.weight :: .int .i64 y.label :: .int .i64 y.sign :: .int .i64 y.time :: flatR encLk zs := fun y zs => by rw [flatR_cons]; rfl
    cases i with
    | zero => rw [List.set_cons_zero, e, e]; rfl
    | succ i =>
      rw [List.set_cons_succ, e, e, ih i (by simpa using h)]
      have a : (i + 1) * 6 = i * 6 + 1 + 1 + 1 + 1 + 1 + 1 := by omega
      rw [a]
      rfl
theorem lkblk_set {w : World} {g T : Nat} {cur : Array Value} {ls : List Lk} {i : Nat} (x : Lk) (hb : w.heap[g]? = some (.cells cur T (0, 0))) (ht : cur.toList.take (ls.length * 6) = flatR encLk ls) (hi : i < ls.length) :
    ∃ cur' : Array Value, ((((((w.setCell ⟨g, i * 6, none⟩ (.int .i64 x.u)).setCell ⟨g, i * 6 + 1, none⟩ (.int .i64 x.v)).setCell ⟨g, i * 6 + 2, none⟩ (.int .i64 x.weight)).setCell ⟨g, i * 6 + 3, none⟩ (.int .i64 x.label)).setCell ⟨g, i * 6 + 4, none⟩ (.int .i64 x.sign)).setCell ⟨g, i * 6 + 5, none⟩ (.int .i64 x.time)).heap[g]? = some (.cells cur' T (0, 0)) ∧ cur'.toList.take ((ls.set i x).length * 6) = flatR encLk (ls.set i x) := by
  refine ⟨_, heap_setCell_same _ _ _ _ _ _ (heap_setCell_same _ _ _ _ _ _ (heap_setCell_same _ _ _ _ _ _ (heap_setCell_same _ _ _ _ _ _ (heap_setCell_same _ _ _ _ _ _ (heap_setCell_same _ _ _ _ _ _ hb))))), ?_⟩
  rw [flat_set6 x ls i hi, List.length_set, ← ht]
  simp only [Array.toList_setIfInBounds, List.take_set]
def SetPost (w : World) (a : Option Addr) (ls0 ls' : List Lk) (ch : List Ev) (e : Ending) (w' : World) : Prop :=
  ∃ a1 c1 a2 c2, e = .returned (.tuple #[.slice a1 ls'.length c1, .slice a2 ch.length c2]) ∧ RowAt encLk w' (.slice a1 ls'.length c1) ls' ∧ RowAt encEv w' (.slice a2 ch.length c2) ch ∧ (∀ p, a1 = some p → w.heap.size ≤ p.block ∨ (a = some p ∧ 0 < ls0.length)) ∧ (∀ p, a2 = some p → w.heap.size ≤ p.block) ∧ Below w.heap.size w w'
set_option maxRecDepth 100000 in
set_option maxHeartbeats 6400000 in
theorem lset_any (e : Ev) (ls : List Lk) (a : Option Addr) (cap : Nat) (w : World) (hl : RowAt encLk w (.slice a ls.length cap) ls) (hs : ls.Pairwise fun a b => lkB a b = true) (hln : ls.length ≤ 4096) (hk1 : e.kind = 1) :
    Calls Tryd.prog 48 #[.slice a ls.length cap, .agg e.cells] w (SetPost w a ls (stepL e ls) (stepC e ls)) := by
  have hsl : stepL e ls = setL (ofEv e) ls := by unfold stepL; rw [if_pos hk1]
  have hsc : stepC e ls = if ofEv e ∈ ls then [] else [setEv (ofEv e) e.time] := by unfold stepC; rw [if_pos hk1]
  rw [hsl, hsc]
  clear hsl hsc
  have hbs := fun W h => lbsearch_any ls (ofEv e) a cap W h (by omega)
  have HSA : Hid (∀ i, i ≤ ls.length → BsL ls (ofEv e) i i → setL (ofEv e) ls = if thereB ls (ofEv e) i = true then ls.set i (ofEv e) else ls.take i ++ ofEv e :: ls.drop i) := setL_at (ofEv e) ls
  have HSM : Hid (∀ i, BsL ls (ofEv e) i i → (ofEv e ∈ ls ↔ ls[i]? = some (ofEv e))) := (show _ from fun i h => h.mem hs)
  obtain ⟨x, hx⟩ : ∃ x, ofEv e = x := ⟨_, rfl⟩
  rw [hx] at hbs HSA HSM ⊢
  obtain ⟨k, t, u, v, wt, lb, sg⟩ := e
  dsimp only at hk1
  subst hk1
  unfold ofEv at hx
  dsimp only at hx
  have hxc : x.cells = #[.int .i64 (min u v), .int .i64 (max u v), .int .i64 wt, .int .i64 lb, .int .i64 sg, .int .i64 t] := by rw [← hx]; rfl
  unfold Ev.cells
  dsimp only
  have hse : setEv x t = ⟨1, t, min u v, max u v, wt, lb, sg⟩ := by rw [← hx]; rfl
  rw [hse]
  rw [hxc] at hbs
  have hxe : encLk.enc x = [.int .i64 (min u v), .int .i64 (max u v), .int .i64 wt, .int .i64 lb, .int .i64 sg, .int .i64 t] := by
    show x.cells.toList = _
    rw [hxc]
  have HXE := Lib.hid hxe
  have hxu : x.u = min u v := by rw [← hx]
  have hxv : x.v = max u v := by rw [← hx]
  have hxw : x.weight = wt ∧ x.label = lb ∧ x.sign = sg ∧ x.time = t := by rw [← hx]; exact ⟨rfl, rfl, rfl, rfl⟩
  have HXU := Lib.hid hxu
  have HXV := Lib.hid hxv
  have HXW := Lib.hid hxw
  obtain ⟨CH, hCH⟩ : ∃ c, (if x ∈ ls then ([] : List Ev) else [⟨1, t, min u v, max u v, wt, lb, sg⟩]) = c := ⟨_, rfl⟩
  obtain ⟨LS, hLS⟩ : ∃ c, setL x ls = c := ⟨_, rfl⟩
  rw [hCH, hLS]
  rw [hLS] at HSA
  have HCH := Lib.hid hCH
  clear hse hx hxc hxe hxu hxv hxw hCH hLS
  have hE0 : ((w.alloc (.cells #[.int .i64 1, .int .i64 t, .int .i64 u, .int .i64 v, .int .i64 wt, .int .i64 lb, .int .i64 sg] 41)).alloc (.cells #[.int .i64 (min u v), .int .i64 (max u v), .int .i64 wt, .int .i64 lb, .int .i64 sg, .int .i64 t] 69)).heap[w.heap.size]? = some (.cells #[.int .i64 1, .int .i64 t, .int .i64 u, .int .i64 v, .int .i64 wt, .int .i64 lb, .int .i64 sg] 41 (0, 0)) := (Below.heap_alloc _ _ _ (by simp)).trans (heap_alloc_new _ _)
  have hX0 : ((w.alloc (.cells #[.int .i64 1, .int .i64 t, .int .i64 u, .int .i64 v, .int .i64 wt, .int .i64 lb, .int .i64 sg] 41)).alloc (.cells #[.int .i64 (min u v), .int .i64 (max u v), .int .i64 wt, .int .i64 lb, .int .i64 sg, .int .i64 t] 69)).heap[w.heap.size + 1]? = some (.cells #[.int .i64 (min u v), .int .i64 (max u v), .int .i64 wt, .int .i64 lb, .int .i64 sg, .int .i64 t] 69 (0, 0)) := by
    have h := heap_alloc_new (w.alloc (.cells #[.int .i64 1, .int .i64 t, .int .i64 u, .int .i64 v, .int .i64 wt, .int .i64 lb, .int .i64 sg] 41)) (.cells #[.int .i64 (min u v), .int .i64 (max u v), .int .i64 wt, .int .i64 lb, .int .i64 sg, .int .i64 t] 69)
    simpa using h
  have hb0 : Below w.heap.size w ((w.alloc (.cells #[.int .i64 1, .int .i64 t, .int .i64 u, .int .i64 v, .int .i64 wt, .int .i64 lb, .int .i64 sg] 41)).alloc (.cells #[.int .i64 (min u v), .int .i64 (max u v), .int .i64 wt, .int .i64 lb, .int .i64 sg, .int .i64 t] 69)) := ((Below.refl _ _).alloc (Nat.le_refl _) _).alloc (by simp) _
  go_enter Tryd.func48, Tryd.ntmps48
  go_wp2_with fail
  refine (hbs _ (hl.below hb0)).mono ?_
  rintro e w2 ⟨i, rfl, hil, HB, hb2⟩
  have hb02 := hb0.trans (hb2.mono hb0.size)
  have hE2 := lk_next hb2 hE0
  have hX2 := lk_next hb2 hX0
  have hl2 := (hl.below hb0).below hb2
  have hX2l := blk_lt hX2
  obtain ⟨x0, x1, x2, x3, x4, x5⟩ := cells6 hX2
  clear hE0 hX0 hb0 hb2 hl hbs
  cases hTB : thereB ls x i with
  | false =>
    have hxn : x ∉ ls := fun h => by
      have h1 := (HSM.out i (HB hs)).1 h
      unfold thereB at hTB
      rw [h1] at hTB
      simp [sameE] at hTB
    have HL : Hid (LS = ls.take i ++ x :: ls.drop i) := by show _ = _; rw [HSA.out i hil (HB hs), if_neg (by rw [hTB]; simp)]
    have HC : Hid (CH = [⟨1, t, min u v, max u v, wt, lb, sg⟩]) := by show _ = _; rw [← HCH.out, if_neg hxn]
    clear hxn hTB HSA HSM HB HCH
    go_wp2_with fail
    go_quiet (fail)
    go_wp2_with fail
    obtain ⟨w3, hw3⟩ : ∃ W : World, W = w2.drewN nq := ⟨_, rfl⟩
    have hb23 : Below w2.heap.size w2 w3 := by rw [hw3]; exact (Below.refl _ _).drewN _
    have hE3 := lk_next hb23 hE2
    have hX3 := lk_next hb23 hX2
    have hl3 := hl2.below hb23
    have hb03 := hb02.trans (hb23.mono hb02.size)
    rw [← hw3]
    clear hw3 hb23 x0 x1 x2 x3 x4 x5
    have hbd := (Below.refl w3.heap.size w3).drew
    have hbl := (Below.refl w3.heap.size w3).alloc (Nat.le_refl _) (.cells #[.int .i64 (min u v), .int .i64 (max u v), .int .i64 wt, .int .i64 lb, .int .i64 sg, .int .i64 t] 69)
    have hlA : RowAt encLk w3.drew (.slice a ls.length cap) ls := hl3.below hbd
    have hlB := (hl3.below hbl).below (Below.refl _ _).drew
    have hXA := lk_next hbd hX3
    have hEA := lk_next hbd hE3
    have hXB := lk_next (Below.refl _ _).drew (lk_next hbl hX3)
    have hEB := lk_next (Below.refl _ _).drew (lk_next hbl hE3)
    have hLB := lk_next (Below.refl _ _).drew (heap_alloc_new w3 (.cells #[.int .i64 (min u v), .int .i64 (max u v), .int .i64 wt, .int .i64 lb, .int .i64 sg, .int .i64 t] 69))
    have hXl3 := blk_lt hX3
    obtain ⟨x0, x1, x2, x3, x4, x5⟩ := cells6 hX3
    have tokA : True := trivial
    go_region_law (first
      | (have _t := tokA; go_simp; go_at_call 69; (with_reducible refine (lkclone_any _ ls _ hlA (by omega)).mono ?_); rintro e w6 ⟨x6, rfl, hown6, hb6⟩; have hX6 := lk_next hb6 hXA; have hE6 := lk_next hb6 hEA; obtain ⟨y0, y1, y2, y3, y4, y5⟩ := cells6 hX6; clear tokA)
      | (have _t := tokA; go_simp; go_at_call 69; (with_reducible refine (lkclone_any _ ls _ hlB (by omega)).mono ?_); rintro e w6 ⟨x6, rfl, hown6, hb6⟩; have hX6 := lk_next hb6 hXB; have hE6 := lk_next hb6 hEB; have hL6 := lk_next hb6 hLB; clear tokA)
      | (go_simp; go_at_call 68; have hq := lkinsert_any _ i ls x x6 w6.heap.size 69 #[.int .i64 (min u v), .int .i64 (max u v), .int .i64 wt, .int .i64 lb, .int .i64 sg, .int .i64 t] (w6.alloc (.cells #[.int .i64 (min u v), .int .i64 (max u v), .int .i64 wt, .int .i64 lb, .int .i64 sg, .int .i64 t] 69)) (hown6.alloc _) (heap_alloc_new _ _) HXE.out.symm (fun e => by have := hown6.lt _ e; omega) (by have := hb6.size; simp at this ⊢; omega) hil (by omega); (with_reducible refine hq.mono ?_); clear hq; rintro e w8 ⟨x8, rfl, hown8, hg8⟩; have hb38 : Below w3.heap.size w3 w8 := ((hbd.trans hb6).alloc hb6.size _).grown hg8 (by have := hb6.size; simp at this ⊢; omega) (fun g e => (hown6.lt g e).1); rw [← HL.out] at hown8; have hll : LS.length ≤ 5000 := (by rw [HL.out, List.length_append, List.length_cons, List.length_take, List.length_drop]; omega); obtain ⟨a8, c8, hv8, hr8, p8'⟩ := RowAt.of_owns hown8 (by omega); subst hv8; have p8 : ∀ p, a8 = some p → w3.heap.size ≤ p.block := (fun p h => by have h1 := p8' p h; first | exact h1 | (simp at h1; omega)); clear p8' hown8 hg8)
      | (go_simp; go_at_call 68; have hq := lkinsert_any _ i ls x x6 w3.heap.size 69 #[.int .i64 (min u v), .int .i64 (max u v), .int .i64 wt, .int .i64 lb, .int .i64 sg, .int .i64 t] w6 hown6 hL6 HXE.out.symm (fun e => by have := hown6.lt _ e; simp at this; omega) (by have := hb6.size; simp at this ⊢; omega) hil (by omega); (with_reducible refine hq.mono ?_); clear hq; rintro e w8 ⟨x8, rfl, hown8, hg8⟩; have hb38 : Below w3.heap.size w3 w8 := (hbl.drew.trans (hb6.mono (by simp))).grown hg8 (by have := hb6.size; simp at this ⊢; omega) (fun g e => by have := (hown6.lt g e).1; simp at this; omega); rw [← HL.out] at hown8; have hll : LS.length ≤ 5000 := (by rw [HL.out, List.length_append, List.length_cons, List.length_take, List.length_drop]; omega); obtain ⟨a8, c8, hv8, hr8, p8'⟩ := RowAt.of_owns hown8 (by omega); subst hv8; have p8 : ∀ p, a8 = some p → w3.heap.size ≤ p.block := (fun p h => by have h1 := p8' p h; first | exact h1 | (simp at h1; omega)); clear p8' hown8 hg8))
    all_goals
      have hE8 := lk_next hb38 hE3
      have hX8 := lk_next hb38 hX3
      have hb08 := hb03.trans (hb38.mono hb03.size)
      have hwp : ∀ p, a8 = some p → w.heap.size < p.block := fun p h => by have := p8 p h; omega
      obtain ⟨x0, x1, x2, x3, x4, x5⟩ := cells6 hX8
      have e2 := free_blk (j := 2) hE8
      have e3 := free_blk (j := 3) hE8
      have ee2 := cell_blk (j := 2) hE8
      have ee3 := cell_blk (j := 3) hE8
      go_wp2_with fail
      go_region
      all_goals
        have hE9 : ((w8.setCell ⟨w.heap.size, 2, none⟩ (.int .i64 (min u v))).setCell ⟨w.heap.size, 3, none⟩ (.int .i64 (max u v))).heap[w.heap.size]? = some (.cells #[.int .i64 1, .int .i64 t, .int .i64 (min u v), .int .i64 (max u v), .int .i64 wt, .int .i64 lb, .int .i64 sg] 41 (0, 0)) := by
          rw [heap_setCell_same _ _ _ _ _ _ (heap_setCell_same _ _ _ _ _ _ hE8)]; rfl
        have hg9 : w8.grownBy ((w8.setCell ⟨w.heap.size, 2, none⟩ (.int .i64 (min u v))).setCell ⟨w.heap.size, 3, none⟩ (.int .i64 (max u v))) (some w.heap.size) := grown_trans grown_lk grown_lk
        have hr9 := hr8.grown hg9 (fun g e n c p hp => by cases e; have := hwp p (Value.slice.inj hp).1; omega)
        have hb09 := hb08.grown hg9 hb08.size (fun g e => by cases e; exact Nat.le_refl _)
        clear x0 x1 x2 x3 x4 x5 e2 e3 ee2 ee3 hE8 hX8 hr8 hb08
        obtain ⟨w9, hw9⟩ : ∃ W : World, W = (w8.setCell ⟨w.heap.size, 2, none⟩ (.int .i64 (min u v))).setCell ⟨w.heap.size, 3, none⟩ (.int .i64 (max u v)) := ⟨_, rfl⟩
        rw [← hw9] at hE9 hr9 hb09 ⊢
        clear hw9 hg9
        obtain ⟨v0, v1, v2, v3, v4, v5, v6⟩ := lk_cells7 hE9
        go_wp2_with fail
        go_region
        all_goals
          have hbn := (Below.refl w9.heap.size w9).alloc (Nat.le_refl _) (.cells #[.int .i64 1, .int .i64 t, .int .i64 (min u v), .int .i64 (max u v), .int .i64 wt, .int .i64 lb, .int .i64 sg] 41)
          have hlv := rows_lit1 (E := encEv) w9 (⟨1, t, min u v, max u v, wt, lb, sg⟩ : Ev) 41 #[.int .i64 1, .int .i64 t, .int .i64 (min u v), .int .i64 (max u v), .int .i64 wt, .int .i64 lb, .int .i64 sg] rfl
          have hrz := hr9.below hbn
          have hbz := hb09.trans (hbn.mono hb09.size)
          clear v0 v1 v2 v3 v4 v5 v6
          go_wp2_with fail
          go_ret2
          unfold SetPost
          first
            | exact ⟨a8, c8, some ⟨w9.heap.size, 0, none⟩, 1, by rw [HC.out]; rfl, hrz, by rw [HC.out]; exact hlv, fun p h => .inl (Nat.le_of_lt (hwp p h)), fun p h => by cases h; exact hb09.size, hbz⟩
            | exact ⟨a8, c8, some ⟨w9.heap.size, 0, none⟩, 1, by rw [HC.out]; rfl, hrz.below (Below.refl _ _).drew.drew, by rw [HC.out]; exact hlv.below (Below.refl _ _).drew.drew, fun p h => .inl (Nat.le_of_lt (hwp p h)), fun p h => by cases h; exact hb09.size, hbz.drew.drew⟩
  | true =>
    have hiy : i < ls.length := by
      by_cases h : i < ls.length
      · exact h
      · unfold thereB at hTB
        rw [List.getElem?_eq_none (by omega)] at hTB
        cases hTB
    obtain ⟨b, off, y, ha, hy, hcap, c0, c1, c2, c3, c4, c5⟩ := lk_at hl2 i hiy
    subst ha
    have hsy : sameE y x = true := by unfold thereB at hTB; rw [hy] at hTB; exact hTB
    rw [sameE_iff] at hsy
    have hLS : LS = ls.set i x := by rw [HSA.out i hil (HB hs), if_pos hTB]
    have hmem := HSM.out i (HB hs)
    rw [hy] at hmem
    have hxw := HXW.out
    have hiy3 : (i : Int) < ls.length := by omega
    have hcase : (y.weight = wt ∧ y.label = lb ∧ y.sign = sg ∧ y.time = t ∧ x ∈ ls) ∨ (x ∉ ls ∧ (y.weight ≠ wt ∨ (y.weight = wt ∧ y.label ≠ lb) ∨ (y.weight = wt ∧ y.label = lb ∧ y.sign ≠ sg) ∨ (y.weight = wt ∧ y.label = lb ∧ y.sign = sg ∧ y.time ≠ t))) := by
      by_cases hm : x ∈ ls
      · left
        have h1 := Option.some.inj (hmem.1 hm)
        subst h1
        exact ⟨hxw.1, hxw.2.1, hxw.2.2.1, hxw.2.2.2, hm⟩
      · right
        refine ⟨hm, ?_⟩
        by_cases h1 : y.weight = wt
        · by_cases h2 : y.label = lb
          · by_cases h3 : y.sign = sg
            · by_cases h4 : y.time = t
              · exfalso
                apply hm
                rw [hmem]
                congr 1
                obtain ⟨yu, yv, yw, yl, ys, yt⟩ := y
                obtain ⟨xu, xv, xw, xl, xs, xt⟩ := x
                dsimp only at *
                obtain ⟨h5, h6⟩ := hsy
                obtain ⟨h7, h8, h9, h10⟩ := hxw
                simp only [Lk.mk.injEq]
                exact ⟨h5, h6, by omega, by omega, by omega, by omega⟩
              · exact .inr (.inr (.inr ⟨h1, h2, h3, h4⟩))
            · exact .inr (.inr (.inl ⟨h1, h2, h3⟩))
          · exact .inr (.inl ⟨h1, h2⟩)
        · exact .inl h1
    have HLS : Hid (LS = ls.set i x) := hLS
    have HEQ : Hid (x ∈ ls → ls[i]? = some x) := (show _ from (HSM.out i (HB hs)).1)
    have HY := Lib.hid hy
    have hyu : y.u = min u v := hsy.1.trans HXU.out
    have hyv : y.v = max u v := hsy.2.trans HXV.out
    rw [hyu] at c0
    rw [hyv] at c1
    obtain ⟨D, hD⟩ : ∃ D, decide (x ∈ ls) = D := ⟨_, rfl⟩
    have HD := Lib.hid hD
    clear hsy hLS hmem hxw hTB HSA HSM HB hy hyu hyv
    go_upto_region 3 with fail
    go_cut [42] from 34 to 42 (fun c wx => c = .bool D ∧ Below w2.heap.size w2 wx)
    case first =>
      obtain ⟨yu, yv, yw, yl, ys, yt⟩ := y
      dsimp only at c2 c3 c4 c5 hcase
      rcases hcase with ⟨rfl, rfl, rfl, rfl, hm⟩ | ⟨hm, h1 | ⟨rfl, h1⟩ | ⟨rfl, rfl, h1⟩ | ⟨rfl, rfl, rfl, h1⟩⟩
      case' inl => have hDv : D = true := by rw [← HD.out]; exact decide_eq_true hm
      case' inr.inl => have hDv : D = false := by rw [← HD.out]; exact decide_eq_false hm
      case' inr.inl => have d1 : (yw == wt) = false := by simpa using h1
      case' inr.inr.inl => have hDv : D = false := by rw [← HD.out]; exact decide_eq_false hm
      case' inr.inr.inl => have d1 : (yl == lb) = false := by simpa using h1
      case' inr.inr.inr.inl => have hDv : D = false := by rw [← HD.out]; exact decide_eq_false hm
      case' inr.inr.inr.inl => have d1 : (ys == sg) = false := by simpa using h1
      case' inr.inr.inr.inr => have hDv : D = false := by rw [← HD.out]; exact decide_eq_false hm
      case' inr.inr.inr.inr => have d1 : (yt == t) = false := by simpa using h1
      all_goals
        clear hm hD
        go_quiet (fail)
        go_wp2_with fail
        go_meet
        exact ⟨by rw [hDv], (Below.refl _ _).drewN _⟩
    case rest =>
      obtain ⟨rfl, hb23⟩ := hcut
      obtain ⟨w3, hw3⟩ : ∃ W : World, W = wc := ⟨_, rfl⟩
      rw [← hw3] at hb23 ⊢
      have hE3 := lk_next hb23 hE2
      have hX3 := lk_next hb23 hX2
      have hl3 := hl2.below hb23
      have hb03 := hb02.trans (hb23.mono hb02.size)
      clear hw3 hb23 x0 x1 x2 x3 x4 x5 c0 c1 c2 c3 c4 c5 hD
      cases D with
      | true =>
        have hm : x ∈ ls := of_decide_eq_true HD.out
        have hC : CH = [] := by rw [← HCH.out, if_pos hm]
        have hL : LS = ls := by rw [HLS.out]; exact set_self _ _ _ (HEQ.out hm)
        clear hm hE2 hX2 hE3 hX3 hl2 hcase HCH HLS HD
        have HC := Lib.hid hC
        have HL := Lib.hid hL
        clear hC hL
        go_wp2_with fail
        go_ret2
        unfold SetPost
        exact ⟨some ⟨b, off, none⟩, cap, none, 0, by rw [HL.out, HC.out]; rfl, by rw [HL.out]; exact hl3, by rw [HC.out]; exact RowAt.nil _, fun p h => .inr ⟨h, by omega⟩, (fun p h => by cases h), hb03⟩
      | false =>
        have hm : x ∉ ls := of_decide_eq_false HD.out
        have HC : Hid (CH = [⟨1, t, min u v, max u v, wt, lb, sg⟩]) := by show _ = _; rw [← HCH.out, if_neg hm]
        clear hm hcase HCH HD HEQ hl2 hE2 hX2
        have hX3l := blk_lt hX3
        go_wp2_with fail
        refine (lkclone_any _ ls _ hl3 (by omega)).mono ?_
        rintro e w6 ⟨x6, rfl, hown6, hb6⟩
        have hE6 := lk_next hb6 hE3
        have hX6 := lk_next hb6 hX3
        have hb06 := hb03.trans (hb6.mono hb03.size)
        obtain ⟨g, c6, cur, rfl, hg6, hcc, hblk, hcur⟩ := lkblk_owns hown6 (by omega)
        obtain ⟨_, _, y6, eg, hy6, -, d0, d1, d2, d3, d4, d5⟩ := lk_at (lkblk_row hblk hcur hcc (by omega)) i hiy
        cases eg
        simp only [Nat.zero_add] at d0 d1 d2 d3 d4 d5
        have ff : ∀ j, w6.frozen? ⟨g, j, none⟩ = false := fun j => free_blk hblk
        obtain ⟨x0, x1, x2, x3, x4, x5⟩ := cells6 hX6
        have hgw : w.heap.size < g := by omega
        have hset := lkblk_set x hblk hcur hiy
        rw [HXU.out, HXV.out, HXW.out.1, HXW.out.2.1, HXW.out.2.2.1, HXW.out.2.2.2] at hset
        obtain ⟨cur', hblk', hcur'⟩ := hset
        have hg68 := grown_trans (grown_trans (grown_trans (grown_trans (grown_trans (grown_lk (w := w6) (b := g) (j := i * 6) (v := .int .i64 (min u v))) (grown_lk (j := i * 6 + 1) (v := .int .i64 (max u v)))) (grown_lk (j := i * 6 + 2) (v := .int .i64 wt))) (grown_lk (j := i * 6 + 3) (v := .int .i64 lb))) (grown_lk (j := i * 6 + 4) (v := .int .i64 sg))) (grown_lk (j := i * 6 + 5) (v := .int .i64 t))
        have hlen : LS.length = ls.length := by rw [HLS.out, List.length_set]
        have HLN := Lib.hid hlen
        clear hE3 hX3 hl3 hown6 hblk hcur hlen
        go_wp2_with fail
        obtain ⟨w8, hw8⟩ : ∃ W : World, W = (((((w6.setCell ⟨g, i * 6, none⟩ (.int .i64 (min u v))).setCell ⟨g, i * 6 + 1, none⟩ (.int .i64 (max u v))).setCell ⟨g, i * 6 + 2, none⟩ (.int .i64 wt)).setCell ⟨g, i * 6 + 3, none⟩ (.int .i64 lb)).setCell ⟨g, i * 6 + 4, none⟩ (.int .i64 sg)).setCell ⟨g, i * 6 + 5, none⟩ (.int .i64 t) := ⟨_, rfl⟩
        rw [← hw8] at hblk' hg68 ⊢
        have hE8 := grown_blk hg68 hE6 (by intro e; have := Option.some.inj e; omega)
        have hX8 := grown_blk hg68 hX6 (by intro e; have := Option.some.inj e; omega)
        have hb08 := hb06.grown hg68 hb06.size (fun k e => by cases e; omega)
        have hr8 : RowAt encLk w8 (.slice (some ⟨g, 0, none⟩) ls.length c6) LS := by
          have h := lkblk_row hblk' hcur' (c := c6) (by rw [List.length_set]; exact hcc) (by rw [List.length_set]; omega)
          rw [← HLS.out, HLN.out] at h
          exact h
        have hwp : ∀ p : Addr, some (⟨g, 0, none⟩ : Addr) = some p → w.heap.size < p.block := fun p h => by cases h; exact hgw
        clear hw8 hblk' hcur' hg68 d0 d1 d2 d3 d4 d5 ff x0 x1 x2 x3 x4 x5 hE6 hX6 hb06
        obtain ⟨x0, x1, x2, x3, x4, x5⟩ := cells6 hX8
        have e2 := free_blk (j := 2) hE8
        have e3 := free_blk (j := 3) hE8
        have ee2 := cell_blk (j := 2) hE8
        have ee3 := cell_blk (j := 3) hE8
        go_wp2_with fail
        go_region
        all_goals
          have hE9 : ((w8.setCell ⟨w.heap.size, 2, none⟩ (.int .i64 (min u v))).setCell ⟨w.heap.size, 3, none⟩ (.int .i64 (max u v))).heap[w.heap.size]? = some (.cells #[.int .i64 1, .int .i64 t, .int .i64 (min u v), .int .i64 (max u v), .int .i64 wt, .int .i64 lb, .int .i64 sg] 41 (0, 0)) := by
            rw [heap_setCell_same _ _ _ _ _ _ (heap_setCell_same _ _ _ _ _ _ hE8)]; rfl
          have hg9 : w8.grownBy ((w8.setCell ⟨w.heap.size, 2, none⟩ (.int .i64 (min u v))).setCell ⟨w.heap.size, 3, none⟩ (.int .i64 (max u v))) (some w.heap.size) := grown_trans grown_lk grown_lk
          have hr9 := hr8.grown hg9 (fun g e n c p hp => by cases e; have := hwp p (Value.slice.inj hp).1; omega)
          have hb09 := hb08.grown hg9 hb08.size (fun g e => by cases e; exact Nat.le_refl _)
          clear x0 x1 x2 x3 x4 x5 e2 e3 ee2 ee3 hE8 hX8 hr8 hb08
          obtain ⟨w9, hw9⟩ : ∃ W : World, W = (w8.setCell ⟨w.heap.size, 2, none⟩ (.int .i64 (min u v))).setCell ⟨w.heap.size, 3, none⟩ (.int .i64 (max u v)) := ⟨_, rfl⟩
          rw [← hw9] at hE9 hr9 hb09 ⊢
          clear hw9 hg9
          obtain ⟨v0, v1, v2, v3, v4, v5, v6⟩ := lk_cells7 hE9
          go_wp2_with fail
          go_region
          all_goals
            have hbn := (Below.refl w9.heap.size w9).alloc (Nat.le_refl _) (.cells #[.int .i64 1, .int .i64 t, .int .i64 (min u v), .int .i64 (max u v), .int .i64 wt, .int .i64 lb, .int .i64 sg] 41)
            have hlv := rows_lit1 (E := encEv) w9 (⟨1, t, min u v, max u v, wt, lb, sg⟩ : Ev) 41 #[.int .i64 1, .int .i64 t, .int .i64 (min u v), .int .i64 (max u v), .int .i64 wt, .int .i64 lb, .int .i64 sg] rfl
            have hrz := hr9.below hbn
            have hbz := hb09.trans (hbn.mono hb09.size)
            clear v0 v1 v2 v3 v4 v5 v6
            go_wp2_with fail
            go_ret2
            unfold SetPost
            first
              | exact ⟨(some ⟨g, 0, none⟩), c6, some ⟨w9.heap.size, 0, none⟩, 1, by rw [HC.out, HLN.out]; rfl, by rw [HLN.out]; exact hrz, by rw [HC.out]; exact hlv, fun p h => .inl (Nat.le_of_lt (hwp p h)), fun p h => by cases h; exact hb09.size, hbz⟩
              | exact ⟨(some ⟨g, 0, none⟩), c6, some ⟨w9.heap.size, 0, none⟩, 1, by rw [HC.out, HLN.out]; rfl, by rw [HLN.out]; exact hrz.below (Below.refl _ _).drew.drew, by rw [HC.out]; exact hlv.below (Below.refl _ _).drew.drew, fun p h => .inl (Nat.le_of_lt (hwp p h)), fun p h => by cases h; exact hb09.size, hbz.drew.drew⟩
end Go.Proofs.YtpblaoeaeljmhaaDoor
