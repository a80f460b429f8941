/- ref05.Apply. -/
import Derived.Test.YtpblaoeaeljmhaaDoorLkRApP
import Derived.Test.YtpblaoeaeljmhaaDoorLkApply
import Derived.Test.YtpblaoeaeljmhaaDoorLkChg
import Derived.Test.YtpblaoeaeljmhaaDoorOutBox
import Derived.Test.YtpblaoeaeljmhaaDoorPeelOp
namespace Go.Proofs.YtpblaoeaeljmhaaDoor
open Go.RowKit Go.BigFrame

set_option maxRecDepth 100000 in
set_option maxHeartbeats 1600000 in
theorem rset05_any (l : Lk) (t : Int) (w : World) : Calls Tryd.prog 60 #[.agg l.cells, .int .i64 t] w fun e w' => e = .returned (.agg (setEv l t).cells) ∧ Below w.heap.size w w' := by
  obtain ⟨u, v, a1, a2, a3, a4⟩ := l
  unfold Lk.cells setEv Ev.cells
  dsimp only
  have hb1 := (Below.refl w.heap.size w).alloc (Nat.le_refl _) (.cells #[.int .i64 u, .int .i64 v, .int .i64 a1, .int .i64 a2, .int .i64 a3, .int .i64 a4] 69)
  have hz : (w.alloc (.cells #[.int .i64 u, .int .i64 v, .int .i64 a1, .int .i64 a2, .int .i64 a3, .int .i64 a4] 69)).heap.size = w.heap.size + 1 := by simp
  have hfin := heap_alloc_new (w.alloc (.cells #[.int .i64 u, .int .i64 v, .int .i64 a1, .int .i64 a2, .int .i64 a3, .int .i64 a4] 69)) (.cells #[.int .i64 1, .int .i64 t, .int .i64 u, .int .i64 v, .int .i64 a1, .int .i64 a2, .int .i64 a3] 41)
  rw [hz] at hfin
  have hbf := hb1.alloc hb1.size (.cells #[.int .i64 1, .int .i64 t, .int .i64 u, .int .i64 v, .int .i64 a1, .int .i64 a2, .int .i64 a3] 41)
  have hX := lk_next ((Below.refl _ _).alloc (Nat.le_refl _) (.cells #[.int .i64 0, .int .i64 0, .int .i64 0, .int .i64 0, .int .i64 0, .int .i64 0, .int .i64 0] 41)) (heap_alloc_new w (.cells #[.int .i64 u, .int .i64 v, .int .i64 a1, .int .i64 a2, .int .i64 a3, .int .i64 a4] 69))
  obtain ⟨q0, q1, q2, q3, q4, q5⟩ := cells6 hX
  go_enter Tryd.func60, Tryd.ntmps60
  go_wp2_with fail
  obtain ⟨t0, t1, t2, t3, t4, t5, t6⟩ := lk_cells7 hfin
  exact bodyPost_ret (v := .agg #[.int .i64 1, .int .i64 t, .int .i64 u, .int .i64 v, .int .i64 a1, .int .i64 a2, .int .i64 a3]) (by simp [results, Tryd.results60, go_sem, t0, t1, t2, t3, t4, t5, t6]) rfl ⟨rfl, hbf⟩
set_option maxRecDepth 100000 in
set_option maxHeartbeats 1600000 in
theorem rcut05_any (l : Lk) (t : Int) (w : World) : Calls Tryd.prog 61 #[.agg l.cells, .int .i64 t] w fun e w' => e = .returned (.agg (cutEv l t).cells) ∧ Below w.heap.size w w' := by
  obtain ⟨u, v, a1, a2, a3, a4⟩ := l
  unfold Lk.cells cutEv Ev.cells
  dsimp only
  have hb1 := (Below.refl w.heap.size w).alloc (Nat.le_refl _) (.cells #[.int .i64 u, .int .i64 v, .int .i64 a1, .int .i64 a2, .int .i64 a3, .int .i64 a4] 69)
  have hz : (w.alloc (.cells #[.int .i64 u, .int .i64 v, .int .i64 a1, .int .i64 a2, .int .i64 a3, .int .i64 a4] 69)).heap.size = w.heap.size + 1 := by simp
  have hfin := heap_alloc_new (w.alloc (.cells #[.int .i64 u, .int .i64 v, .int .i64 a1, .int .i64 a2, .int .i64 a3, .int .i64 a4] 69)) (.cells #[.int .i64 2, .int .i64 t, .int .i64 u, .int .i64 v, .int .i64 0, .int .i64 0, .int .i64 0] 41)
  rw [hz] at hfin
  have hbf := hb1.alloc hb1.size (.cells #[.int .i64 2, .int .i64 t, .int .i64 u, .int .i64 v, .int .i64 0, .int .i64 0, .int .i64 0] 41)
  have hX := lk_next ((Below.refl _ _).alloc (Nat.le_refl _) (.cells #[.int .i64 0, .int .i64 0, .int .i64 0, .int .i64 0, .int .i64 0, .int .i64 0, .int .i64 0] 41)) (heap_alloc_new w (.cells #[.int .i64 u, .int .i64 v, .int .i64 a1, .int .i64 a2, .int .i64 a3, .int .i64 a4] 69))
  obtain ⟨q0, q1, q2, q3, q4, q5⟩ := cells6 hX
  go_enter Tryd.func61, Tryd.ntmps61
  go_wp2_with fail
  obtain ⟨t0, t1, t2, t3, t4, t5, t6⟩ := lk_cells7 hfin
  exact bodyPost_ret (v := .agg #[.int .i64 2, .int .i64 t, .int .i64 u, .int .i64 v, .int .i64 0, .int .i64 0, .int .i64 0]) (by simp [results, Tryd.results61, go_sem, t0, t1, t2, t3, t4, t5, t6]) rfl ⟨rfl, hbf⟩
/-- the boxes of the loop: a state, an event, a result, a state that grows, a link; and two rows -/
structure RaW (w wr : World) (S E R O N : Nat) (n : Int) (sv : Value) (ev nv : Array Value) (so sl : Value) (nl : Nat) (K : List Lk) (cv : Value) (nc : Nat) (C : List Ev) : Prop where
  s : wr.heap[S]? = some (.cells #[.int .i64 n, sv] 53 (0, 0))
  e : wr.heap[E]? = some (.cells ev 41 (0, 0))
  r : wr.heap[R]? = some (.cells #[.int .i64 0, .slice none 0 0] 53 (0, 0))
  o : wr.heap[O]? = some (.cells #[.int .i64 n, so] 53 (0, 0))
  nb : wr.heap[N]? = some (.cells nv 69 (0, 0))
  own1 : wr.ownsRow (N + 1) 69 encLk.k sl nl (flatR encLk K)
  own2 : wr.ownsRow (N + 1) 41 encEv.k cv nc (flatR encEv C)
  ap : sl.ownBlock = none ∨ sl.ownBlock ≠ cv.ownBlock
  ord : S < N ∧ E < N ∧ R < O ∧ O < N ∧ S ≠ O ∧ E ≠ O ∧ w.heap.size ≤ R
  be : Below w.heap.size w wr
section
variable {w wr w' : World} {S E R O N nl nc : Nat} {n : Int} {sv so sl cv : Value} {ev nv : Array Value} {K : List Lk} {C : List Ev}
theorem RaW.next (h : RaW w wr S E R O N n sv ev nv so sl nl K cv nc C) (hb : Below wr.heap.size wr w') : RaW w w' S E R O N n sv ev nv so sl nl K cv nc C :=
  ⟨lk_next hb h.s, lk_next hb h.e, lk_next hb h.r, lk_next hb h.o, lk_next hb h.nb,
    h.own1.kept (row := none) (Below.toGrown hb) (by cases hs : sl.ownBlock with | none => exact .inl rfl | some g => exact .inr (by simp)),
    h.own2.kept (row := none) (Below.toGrown hb) (by cases hs : cv.ownBlock with | none => exact .inl rfl | some g => exact .inr (by simp)), h.ap, h.ord, h.be.trans (hb.mono h.be.size)⟩
theorem RaW.alloc (h : RaW w wr S E R O N n sv ev nv so sl nl K cv nc C) (ob : Obj) : RaW w (wr.alloc ob) S E R O N n sv ev nv so sl nl K cv nc C := h.next ((Below.refl _ _).alloc (Nat.le_refl _) _)
theorem RaW.drew (h : RaW w wr S E R O N n sv ev nv so sl nl K cv nc C) : RaW w wr.drew S E R O N n sv ev nv so sl nl K cv nc C := h.next (Below.refl _ _).drew
theorem RaW.base (h : RaW w wr S E R O N n sv ev nv so sl nl K cv nc C) : N + 1 ≤ wr.heap.size := blk_lt h.nb
theorem RaW.o1 (h : RaW w wr S E R O N n sv ev nv so sl nl K cv nc C) : wr.cell? ⟨O, 1, none⟩ = some so := cell_blk (j := 1) h.o
theorem RaW.kept (h : RaW w wr S E R O N n sv ev nv so sl nl K cv nc C) {r : Option Nat} (hg : wr.grownBy w' r) (hr : ∀ k, r = some k → N + 1 ≤ k) :
    w'.heap[S]? = some (.cells #[.int .i64 n, sv] 53 (0, 0)) ∧ w'.heap[E]? = some (.cells ev 41 (0, 0)) ∧ w'.heap[R]? = some (.cells #[.int .i64 0, .slice none 0 0] 53 (0, 0)) ∧ w'.heap[O]? = some (.cells #[.int .i64 n, so] 53 (0, 0)) ∧ w'.heap[N]? = some (.cells nv 69 (0, 0)) ∧ Below w.heap.size w w' := by
  obtain ⟨o1, o2, o3, o4, o5, o6, o7⟩ := h.ord
  have hne : ∀ k, k ≤ N → some k ≠ r := fun k hk e => by have := hr k e.symm; omega
  exact ⟨grown_blk hg h.s (hne _ (by omega)), grown_blk hg h.e (hne _ (by omega)), grown_blk hg h.r (hne _ (by omega)), grown_blk hg h.o (hne _ (by omega)), grown_blk hg h.nb (hne _ (by omega)), h.be.grown hg h.be.size (fun k e => by have := hr k e; omega)⟩
/-- links are appended -/
theorem RaW.appK {v' : Value} {n2 : Nat} {K2 : List Lk} (h : RaW w wr S E R O N n sv ev nv so sl nl K cv nc C) (hown : w'.ownsRow (N + 1) 69 encLk.k v' n2 (flatR encLk K2)) (hg : wr.grownBy w' sl.ownBlock) (hat : v'.ownBlock = sl.ownBlock ∨ v'.ownBlock = some wr.heap.size) :
    RaW w w' S E R O N n sv ev nv so v' n2 K2 cv nc C := by
  obtain ⟨h1, h2, h3, h4, h5, h6⟩ := h.kept hg (fun k e => (h.own1.lt k e).1)
  refine ⟨h1, h2, h3, h4, h5, hown, h.own2.kept hg ?_, ?_, h.ord, h6⟩
  · rcases h.ap with h0 | h0
    · rw [h0]
      cases hc : cv.ownBlock with
      | none => exact .inl rfl
      | some k => exact .inr (by simp)
    · exact .inr fun e => h0 e.symm
  · rcases hat with hat | hat
    · rw [hat]; exact h.ap
    · rw [hat]
      refine .inr fun e => ?_
      have := (h.own2.lt _ e.symm).2
      omega
/-- events are appended -/
theorem RaW.appC {v' : Value} {n2 : Nat} {C2 : List Ev} (h : RaW w wr S E R O N n sv ev nv so sl nl K cv nc C) (hown : w'.ownsRow (N + 1) 41 encEv.k v' n2 (flatR encEv C2)) (hg : wr.grownBy w' cv.ownBlock) (hat : v'.ownBlock = cv.ownBlock ∨ v'.ownBlock = some wr.heap.size) :
    RaW w w' S E R O N n sv ev nv so sl nl K v' n2 C2 := by
  obtain ⟨h1, h2, h3, h4, h5, h6⟩ := h.kept hg (fun k e => (h.own2.lt k e).1)
  refine ⟨h1, h2, h3, h4, h5, h.own1.kept hg h.ap, hown, ?_, h.ord, h6⟩
  rcases hat with hat | hat
  · rw [hat]; exact h.ap
  · rw [hat]
    cases hs : sl.ownBlock with
    | none => exact .inl rfl
    | some k =>
      refine .inr fun e => ?_
      have := (h.own1.lt _ hs).2
      have := Option.some.inj e
      omega
/-- the row's slice is stored -/
theorem RaW.put (h : RaW w wr S E R O N n sv ev nv so sl nl K cv nc C) : RaW w (wr.setCell ⟨O, 1, none⟩ sl) S E R O N n sv ev nv sl sl nl K cv nc C := by
  obtain ⟨o1, o2, o3, o4, o5, o6, o7⟩ := h.ord
  have hk : ∀ (v : Value), (∀ k, v.ownBlock = some k → N + 1 ≤ k) → v.ownBlock = none ∨ v.ownBlock ≠ some O := fun v hv => by
    cases hs : v.ownBlock with
    | none => exact .inl rfl
    | some k => have := hv k hs; exact .inr (by intro e; have := Option.some.inj e; omega)
  exact ⟨(Below.heap_setCell wr ⟨O, 1, none⟩ _ S (by show S ≠ O; exact o5)).trans h.s, (Below.heap_setCell wr ⟨O, 1, none⟩ _ E (by show E ≠ O; exact o6)).trans h.e, (Below.heap_setCell wr ⟨O, 1, none⟩ _ R (by show R ≠ O; omega)).trans h.r, heap_setCell_same wr O 1 _ _ _ h.o, (Below.heap_setCell wr ⟨O, 1, none⟩ _ N (by show N ≠ O; omega)).trans h.nb,
    h.own1.kept grown_lk (hk _ fun k e => (h.own1.lt k e).1), h.own2.kept grown_lk (hk _ fun k e => (h.own2.lt k e).1), h.ap, h.ord, h.be.grown grown_lk h.be.size (fun k e => by cases e; omega)⟩
/-- the result is stored: what Apply gives -/
theorem RaW.out {al ac : Option Addr} {cl cc : Nat} (h : RaW w wr S E R O N n sv ev nv (.slice al nl cl) (.slice al nl cl) nl K (.slice ac nc cc) nc C) (h1 : Hid (nl = K.length)) (h2 : Hid (nc = C.length)) (hb1 : nl ≤ 1000000000) (hb2 : nc ≤ 1000000000) :
    AppPost w ((n, K), C, 0) (.returned (.tuple #[.agg #[.int .i64 n, .slice al nl cl], .slice ac nc cc, .int .i64 0])) ((wr.setCell ⟨R, 0, none⟩ (.int .i64 n)).setCell ⟨R, 1, none⟩ (.slice al nl cl)) := by
  obtain ⟨o1, o2, o3, o4, o5, o6, o7⟩ := h.ord
  have hg : wr.grownBy ((wr.setCell ⟨R, 0, none⟩ (.int .i64 n)).setCell ⟨R, 1, none⟩ (.slice al nl cl)) (some R) := grown_trans grown_lk grown_lk
  have hl1 := h1.out
  have hl2 := h2.out
  subst hl1 hl2
  obtain ⟨x1, y1, q1, r1, k1⟩ := RowAt.of_owns h.own1 (by omega)
  obtain ⟨x2, y2, q2, r2, k2⟩ := RowAt.of_owns h.own2 (by omega)
  cases q1
  cases q2
  refine ⟨_, _, _, _, rfl, ?_, ?_, fun p hp => by have := k1 p hp; omega, fun p hp => by have := k2 p hp; omega, h.be.grown hg h.be.size (fun k e => by cases e; omega)⟩
  · exact r1.grown hg (fun g e n c p hp => by cases e; have := k1 p (Value.slice.inj hp).1; omega)
  · exact r2.grown hg (fun g e n c p hp => by cases e; have := k2 p (Value.slice.inj hp).1; omega)
end

set_option maxRecDepth 100000 in
set_option linter.unusedSimpArgs false in
set_option maxHeartbeats 6400000 in
theorem rapply05_any (n : Int) (e : Ev) (ls : List Lk) (a : Option Addr) (cap : Nat) (w : World) (hl : RowAt encLk w (.slice a ls.length cap) ls) :
    Calls Tryd.prog 40 #[.agg #[.int .i64 n, .slice a ls.length cap], .agg e.cells] w (AppPost w (appX n ls e)) := by
  have hW := StW.start w n (.slice a ls.length cap) e
  have hck := fun W h => rcheck05_any n a cap ls W h
  have hec := fun W => rcheck_any e W
  have hl0 := hl.below hW.be
  have hRA := fun hv hf => rapp_all (n := n) (e := e) (ls := ls) hv hf
  unfold AppPost appX
  have hLn := stepL_len e ls
  have hCn := stepC_len e ls
  obtain ⟨L, hL⟩ : ∃ L, stepL e ls = L := ⟨_, rfl⟩
  obtain ⟨C, hC⟩ : ∃ L, stepC e ls = L := ⟨_, rfl⟩
  obtain ⟨F, hF⟩ : ∃ L, evS e = L := ⟨_, rfl⟩
  rw [hF] at hec
  rw [hL] at hLn
  rw [hC] at hCn
  rw [hL, hC] at hRA
  rw [hL, hC]
  have s0 := cell_blk (j := 0) hW.s
  have s1 := cell_blk (j := 1) hW.s
  by_cases hS : stS n ls = 0
  case neg =>
    rw [if_pos hS]
    obtain ⟨Z, hZ⟩ : ∃ Z, stS n ls = Z := ⟨_, rfl⟩
    rw [hZ] at hck hS ⊢
    have d2 : (Z != 0) = true := by simpa using hS
    have hck2 := hck _ hl0
    obtain ⟨k, t, u, v, wt, lb, sg⟩ := e
    clear hRA hec hck hS hZ hL hC hF
    dsimp only
    go_enter Tryd.func40, Tryd.ntmps40
    go_wp2_with fail
    refine hck2.mono ?_
    rintro _ w1 ⟨rfl, hb1⟩
    have hW9 := hW.next hb1
    have r0 := cell_blk (j := 0) hW9.r
    have r1 := cell_blk (j := 1) hW9.r
    have g0 := free_blk (j := 0) hW9.r
    have g1 := free_blk (j := 1) hW9.r
    go_wp2_with fail
    have hfin := set_two (u := .int .i64 0) (v := .slice none 0 0) hW9.r
    have t0 := cell_blk (j := 0) hfin
    have t1 := cell_blk (j := 1) hfin
    exact bodyPost_ret (v := .tuple #[.agg #[.int .i64 0, .slice none 0 0], .slice none 0 0, .int .i64 Z]) (by simp [results, Tryd.results40, go_sem, t0, t1]) rfl ⟨none, 0, none, 0, rfl, RowAt.nil _, RowAt.nil _, (fun p h => by cases h), (fun p h => by cases h), hW9.be.grown (grown_trans grown_lk grown_lk) hW9.be.size (fun k e => by cases e; omega)⟩
  rw [if_neg (by rw [hS]; simp)]
  have hv := (stS_iff n ls).1 hS
  have hln := hv.length_le
  rw [hS] at hck
  have hck2 := hck _ hl0
  clear hck hS
  by_cases hF0 : F = 0
  case neg =>
    have hFF : fitS n e = F := by unfold fitS; rw [hF, if_pos hF0]
    rw [hFF, if_pos hF0]
    have d2 : (F != 0) = true := by simpa using hF0
    clear hRA hFF
    obtain ⟨k, t, u, v, wt, lb, sg⟩ := e
    have hee : (⟨k, t, u, v, wt, lb, sg⟩ : Ev).cells = #[.int .i64 k, .int .i64 t, .int .i64 u, .int .i64 v, .int .i64 wt, .int .i64 lb, .int .i64 sg] := rfl
    rw [hee] at hec hW hl0 hck2 s0 s1 ⊢
    clear hF0 hL hC hF
    dsimp only
    go_enter Tryd.func40, Tryd.ntmps40
    go_wp2_with fail
    refine hck2.mono ?_
    rintro _ w1 ⟨rfl, hb1⟩
    have hW1 := hW.next hb1
    have hev : EvBlk _ _ _ := hW1.e
    unfold EvBlk at hev
    rw [hee] at hev
    obtain ⟨e0, e1, e2, e3, e4, e5, e6⟩ := lk_cells7 hev
    go_wp2_with fail
    refine (hec _).mono ?_
    rintro _ w2 ⟨rfl, hb2⟩
    have hW9 := hW1.next hb2
    have r0 := cell_blk (j := 0) hW9.r
    have r1 := cell_blk (j := 1) hW9.r
    have g0 := free_blk (j := 0) hW9.r
    have g1 := free_blk (j := 1) hW9.r
    go_wp2_with fail
    have hfin := set_two (u := .int .i64 0) (v := .slice none 0 0) hW9.r
    have t0 := cell_blk (j := 0) hfin
    have t1 := cell_blk (j := 1) hfin
    exact bodyPost_ret (v := .tuple #[.agg #[.int .i64 0, .slice none 0 0], .slice none 0 0, .int .i64 F]) (by simp [results, Tryd.results40, go_sem, t0, t1]) rfl ⟨none, 0, none, 0, rfl, RowAt.nil _, RowAt.nil _, (fun p h => by cases h), (fun p h => by cases h), hW9.be.grown (grown_trans grown_lk grown_lk) hW9.be.size (fun k e => by cases e; omega)⟩
  subst hF0
  by_cases hO : n ≤ e.u ∨ n ≤ e.v
  case pos =>
    have hFF : fitS n e = 6 := by unfold fitS; rw [if_neg (by rw [hF]; simp), if_pos hO]
    rw [hFF, if_pos (by decide)]
    clear hRA hFF
    obtain ⟨k, t, u, v, wt, lb, sg⟩ := e
    have hee : (⟨k, t, u, v, wt, lb, sg⟩ : Ev).cells = #[.int .i64 k, .int .i64 t, .int .i64 u, .int .i64 v, .int .i64 wt, .int .i64 lb, .int .i64 sg] := rfl
    rw [hee] at hec hW hl0 hck2 s0 s1 ⊢
    clear hL hC hF
    dsimp only at hO ⊢
    go_enter Tryd.func40, Tryd.ntmps40
    go_wp2_with fail
    refine hck2.mono ?_
    rintro _ w1 ⟨rfl, hb1⟩
    have hW1 := hW.next hb1
    have hev : EvBlk _ _ _ := hW1.e
    unfold EvBlk at hev
    rw [hee] at hev
    obtain ⟨e0, e1, e2, e3, e4, e5, e6⟩ := lk_cells7 hev
    go_wp2_with fail
    refine (hec _).mono ?_
    rintro _ w2 ⟨rfl, hb2⟩
    have hW9 := hW1.next hb2
    clear hev e0 e1 e2 e3 e4 e5 e6 s0 s1
    have hev : EvBlk _ _ _ := hW9.e
    unfold EvBlk at hev
    rw [hee] at hev
    obtain ⟨e0, e1, e2, e3, e4, e5, e6⟩ := lk_cells7 hev
    have s0 := cell_blk (j := 0) hW9.s
    by_cases hu : n ≤ u
    · have d3 : decide (u ≥ n) = true := decide_eq_true hu
      clear hO
      have r0 := cell_blk (j := 0) hW9.r
      have r1 := cell_blk (j := 1) hW9.r
      have g0 := free_blk (j := 0) hW9.r
      have g1 := free_blk (j := 1) hW9.r
      go_wp2_with fail
      have hfin := set_two (u := .int .i64 0) (v := .slice none 0 0) hW9.r
      have t0 := cell_blk (j := 0) hfin
      have t1 := cell_blk (j := 1) hfin
      exact bodyPost_ret (v := .tuple #[.agg #[.int .i64 0, .slice none 0 0], .slice none 0 0, .int .i64 6]) (by simp [results, Tryd.results40, go_sem, t0, t1]) rfl ⟨none, 0, none, 0, rfl, RowAt.nil _, RowAt.nil _, (fun p h => by cases h), (fun p h => by cases h), hW9.be.grown (grown_trans grown_lk grown_lk) hW9.be.size (fun k e => by cases e; omega)⟩
    · have d3 : decide (u ≥ n) = false := decide_eq_false hu
      have hv2 : n ≤ v := hO.resolve_left hu
      have d4 : decide (v ≥ n) = true := decide_eq_true hv2
      clear hO
      have r0 := cell_blk (j := 0) hW9.r
      have r1 := cell_blk (j := 1) hW9.r
      have g0 := free_blk (j := 0) hW9.r
      have g1 := free_blk (j := 1) hW9.r
      go_wp2_with fail
      have hfin := set_two (u := .int .i64 0) (v := .slice none 0 0) hW9.r
      have t0 := cell_blk (j := 0) hfin
      have t1 := cell_blk (j := 1) hfin
      exact bodyPost_ret (v := .tuple #[.agg #[.int .i64 0, .slice none 0 0], .slice none 0 0, .int .i64 6]) (by simp [results, Tryd.results40, go_sem, t0, t1]) rfl ⟨none, 0, none, 0, rfl, RowAt.nil _, RowAt.nil _, (fun p h => by cases h), (fun p h => by cases h), hW9.be.grown (grown_trans grown_lk grown_lk) hW9.be.size (fun k e => by cases e; omega)⟩
  have hFF : fitS n e = 0 := by unfold fitS; rw [if_neg (by rw [hF]; simp), if_neg hO]
  rw [if_neg (by rw [hFF]; simp)]
  have hR := hRA hv hFF
  clear hFF
  clear hRA hL hC hF
  obtain ⟨e', he'⟩ : ∃ x, e = x := ⟨_, rfl⟩
  rw [he'] at hR
  obtain ⟨nk, hnk⟩ : ∃ x, ofEv e' = x := ⟨_, rfl⟩
  rw [hnk] at hR
  obtain ⟨k, t, u, v, wt, lb, sg⟩ := e
  have HE : Hid (e'.kind = k ∧ e'.time = t ∧ e'.u = u) := (show _ ∧ _ by rw [← he']; exact ⟨rfl, rfl, rfl⟩)
  have HNC : Hid (nk.cells = #[.int .i64 (min u v), .int .i64 (max u v), .int .i64 wt, .int .i64 lb, .int .i64 sg, .int .i64 t]) := (show _ = _ by rw [← hnk, ← he']; rfl)
  have HNK : Hid (nk = ⟨min u v, max u v, wt, lb, sg, t⟩) := (show _ = _ by rw [← hnk, ← he']; rfl)
  have HNU : Hid (nk.u = min u v ∧ nk.v = max u v) := (show _ ∧ _ by rw [← hnk, ← he']; exact ⟨rfl, rfl⟩)
  rw [HE.out.1] at hR
  have HR : Hid (rapp e' nk (ls.drop 0) [] [] (k != 1) = (L, C)) := (show _ = _ from hR)
  have hee : (⟨k, t, u, v, wt, lb, sg⟩ : Ev).cells = #[.int .i64 k, .int .i64 t, .int .i64 u, .int .i64 v, .int .i64 wt, .int .i64 lb, .int .i64 sg] := rfl
  rw [hee] at hec hW hl0 hck2 s0 s1 ⊢
  dsimp only at hO ⊢
  have d3 : decide (u ≥ n) = false := decide_eq_false (fun h => hO (.inl h))
  have d4 : decide (v ≥ n) = false := decide_eq_false (fun h => hO (.inr h))
  clear hR hO he' hnk
  go_enter Tryd.func40, Tryd.ntmps40
  go_wp2_with fail
  refine hck2.mono ?_
  rintro _ w1 ⟨rfl, hb1⟩
  have hW1 := hW.next hb1
  have hev : EvBlk _ _ _ := hW1.e
  unfold EvBlk at hev
  rw [hee] at hev
  obtain ⟨e0, e1, e2, e3, e4, e5, e6⟩ := lk_cells7 hev
  go_wp2_with fail
  refine (hec _).mono ?_
  rintro _ w2 ⟨rfl, hb2⟩
  have hW2 := hW1.next hb2
  clear hev e0 e1 e2 e3 e4 e5 e6 s0 s1 hW hW1 hb1 hb2 hck2 hec hl0
  have hev : EvBlk _ _ _ := hW2.e
  unfold EvBlk at hev
  rw [hee] at hev
  have hbO := (Below.refl w2.heap.size w2).alloc (Nat.le_refl _) (.cells #[.int .i64 n, .slice none 0 0] 53)
  have hbN := (Below.refl _ (w2.alloc (.cells #[.int .i64 n, .slice none 0 0] 53))).alloc (Nat.le_refl _) (.cells #[.int .i64 (min u v), .int .i64 (max u v), .int .i64 wt, .int .i64 lb, .int .i64 sg, .int .i64 t] 69)
  have hbON := hbO.trans (hbN.mono hbO.size)
  have hzO : (w2.alloc (.cells #[.int .i64 n, .slice none 0 0] 53)).heap.size = w2.heap.size + 1 := by simp
  have hgN := heap_alloc_new (w2.alloc (.cells #[.int .i64 n, .slice none 0 0] 53)) (.cells #[.int .i64 (min u v), .int .i64 (max u v), .int .i64 wt, .int .i64 lb, .int .i64 sg, .int .i64 t] 69)
  rw [hzO] at hgN
  have hRW : RaW w ((w2.alloc (.cells #[.int .i64 n, .slice none 0 0] 53)).alloc (.cells #[.int .i64 (min u v), .int .i64 (max u v), .int .i64 wt, .int .i64 lb, .int .i64 sg, .int .i64 t] 69)) w.heap.size (w.heap.size + 1) (w.heap.size + 2) w2.heap.size (w2.heap.size + 1) n (.slice a ls.length cap) #[.int .i64 k, .int .i64 t, .int .i64 u, .int .i64 v, .int .i64 wt, .int .i64 lb, .int .i64 sg] #[.int .i64 (min u v), .int .i64 (max u v), .int .i64 wt, .int .i64 lb, .int .i64 sg, .int .i64 t] (.slice none 0 0) (.slice none 0 0) 0 [] (.slice none 0 0) 0 [] := by
    have h1 := blk_lt hW2.r
    exact ⟨lk_next hbON hW2.s, lk_next hbON hev, lk_next hbON hW2.r, lk_next hbN (heap_alloc_new _ _), hgN, World.ownsRow_nil _ _ _ _, World.ownsRow_nil _ _ _ _, .inl rfl, ⟨by omega, by omega, by omega, by omega, by omega, by omega, by omega⟩, hW2.be.trans (hbON.mono hW2.be.size)⟩
  obtain ⟨e0, e1, e2, e3, e4, e5, e6⟩ := lk_cells7 hev
  have s0 := cell_blk (j := 0) hW2.s
  obtain ⟨b0, b1, b2, b3, b4, b5, b6⟩ := lk_cells7 (lk_next hbO hev)
  obtain ⟨c0, -, -, -, -, -, -⟩ := lk_cells7 hRW.e
  have s1 := cell_blk (j := 1) hRW.s
  clear hev hbO hbN hbON hzO hgN hee
  go_wp2_with fail
  obtain ⟨O, hOO⟩ : ∃ O, w2.heap.size = O := ⟨_, rfl⟩
  obtain ⟨w3, hw3⟩ : ∃ W : World, W = (w2.alloc (.cells #[.int .i64 n, .slice none 0 0] 53)).alloc (.cells #[.int .i64 (min u v), .int .i64 (max u v), .int .i64 wt, .int .i64 lb, .int .i64 sg, .int .i64 t] 69) := ⟨_, rfl⟩
  rw [← hw3, hOO] at hRW
  rw [← hw3]
  try rw [hOO]
  have HSC : Hid ((setEv nk t).cells = #[.int .i64 1, .int .i64 t, .int .i64 (min u v), .int .i64 (max u v), .int .i64 wt, .int .i64 lb, .int .i64 sg]) := (show _ = _ by
    have h := HNC.out
    obtain ⟨q0, q1, q2, q3, q4, q5⟩ := nk
    unfold Lk.cells at h
    dsimp only at h
    simp only [Array.mk.injEq, List.cons.injEq, Value.int.injEq, true_and, and_true] at h
    obtain ⟨h0, h1, h2, h3, h4, h5⟩ := h
    unfold Ev.cells setEv
    dsimp only
    rw [h0, h1, h2, h3, h4])
  clear hw3 hOO hW2 e0 e1 e2 e3 e4 e5 e6 b0 b1 b2 b3 b4 b5 b6 c0 s0 s1 d3 d4
  go_loopw [10, 12, 69] (fun cv dv vi wr => ∃ (i nl nc : Nat) (K : List Lk) (C1 : List Ev) (d : Bool) (sl : Value), i ≤ ls.length ∧ vi = .int .i64 i ∧ dv = .bool d ∧ Hid (rapp e' nk (ls.drop i) K C1 d = (L, C)) ∧ Hid (nl = K.length) ∧ Hid (nc = C1.length) ∧ nl ≤ 2 * i ∧ nc ≤ 2 * i ∧ RaW w wr w.heap.size (w.heap.size + 1) (w.heap.size + 2) O (O + 1) n (.slice a ls.length cap) #[.int .i64 k, .int .i64 t, .int .i64 u, .int .i64 v, .int .i64 wt, .int .i64 lb, .int .i64 sg] #[.int .i64 (min u v), .int .i64 (max u v), .int .i64 wt, .int .i64 lb, .int .i64 sg, .int .i64 t] sl sl nl K cv nc C1) (fun _ _ vi _ => ls.length - (intOf vi).toNat)
  case atStart => exact ⟨0, 0, 0, [], [], k != 1, _, Nat.zero_le _, rfl, rfl, HR, (show _ = _ from rfl), (show _ = _ from rfl), Nat.zero_le _, Nat.zero_le _, hRW⟩
  case round =>
    clear hRW HR
    obtain ⟨i, nl, nc, K, C1, d, sl, hi, rfl, rfl, HRP, HNL, HNC1, hnl, hnc, hRW⟩ := hrel
    obtain ⟨al, cl, rfl⟩ := owns_shape hRW.own1
    obtain ⟨ac, cc, rfl⟩ := owns_shape hRW.own2
    by_cases hlt : i < ls.length
    · have hlt3 : (i : Int) < ls.length := by omega
      obtain ⟨b, off, x, rfl, hx, hcap, c0, c1, c2, c3, c4, c5⟩ := lk_at (hl.below hRW.be) i hlt
      have HX := Lib.hid hx
      have hXC : x.cells = x.cells := rfl
      obtain ⟨y, hy⟩ : ∃ y, x = y := ⟨_, rfl⟩
      have HY := Lib.hid hy
      obtain ⟨B1, hB1⟩ : ∃ B, lkB nk x = B := ⟨_, rfl⟩
      obtain ⟨H1, hH1⟩ : ∃ B, sameE x nk = B := ⟨_, rfl⟩
      have HLB := Lib.hid hB1
      have HSM := Lib.hid hH1
      obtain ⟨xu, xv, x1, x2, x3, x4⟩ := x
      dsimp only at c0 c1 c2 c3 c4 c5
      clear hx hXC hy hB1 hH1
      have hR1 := hRW.alloc (.cells #[.int .i64 xu, .int .i64 xv, .int .i64 x1, .int .i64 x2, .int .i64 x3, .int .i64 x4] 69)
      have hX := heap_alloc_new wr (.cells #[.int .i64 xu, .int .i64 xv, .int .i64 x1, .int .i64 x2, .int .i64 x3, .int .i64 x4] 69)
      go_upto_region 16 with fail
      obtain ⟨Q, hQ⟩ : ∃ Q, wr.heap.size = Q := ⟨_, rfl⟩
      obtain ⟨wA, hwA⟩ : ∃ W : World, W = wr.alloc (.cells #[.int .i64 xu, .int .i64 xv, .int .i64 x1, .int .i64 x2, .int .i64 x3, .int .i64 x4] 69) := ⟨_, rfl⟩
      rw [hQ] at hX
      try rw [hQ]
      rw [← hwA] at hR1 hX ⊢
      have hq1 : ∀ g, (Value.slice al nl cl).ownBlock = some g → g < Q := fun g h => by rw [← hQ]; exact (hRW.own1.lt g h).2
      have hq2 : ∀ g, (Value.slice ac nc cc).ownBlock = some g → g < Q := fun g h => by rw [← hQ]; exact (hRW.own2.lt g h).2
      have hOQ : O + 1 < Q := by rw [← hQ]; exact blk_lt hRW.nb
      clear hwA hQ hRW c0 c1 c2 c3 c4 c5
      have hE1 := fun W => redge_any nk W
      have hE2 := fun W => redge_any y W
      have hBf := fun W => before_any nk.u nk.v y.u y.v W
      rw [show beforeB (nk.u, nk.v) (y.u, y.v) = lkB nk y from rfl, ← HY.out, HLB.out] at hBf
      rw [HNC.out, HNU.out.1, HNU.out.2] at hE1
      rw [HNU.out.1, HNU.out.2] at hBf
      rw [← HY.out] at hE2
      unfold Lk.cells at hE2
      dsimp only at hE2 hBf
      have xt : ∀ W : World, ∀ (g j : Nat) (v : Value), W.cell? ⟨g, j, none⟩ = some v → ∀ z : Ext W.heap.size W, z.world.cell? ⟨g, j, none⟩ = some v := fun W g j v h z => (z.below.cell (p := ⟨g, j, none⟩) (cell_lt h)).trans h
      go_cut [81] from 73 to 81 (fun c wx => c = .bool (!d && B1) ∧ Below wA.heap.size wA wx)
      case first =>
        cases d with
        | true =>
          clear hE1 hE2 hBf xt
          refine wp_region_ext wA.heap.size wA (by kernel_rfl) (by kernel_rfl) (Below.refl _ _) ?_
          try simp only [List.append_eq, List.cons_append, List.nil_append]
          repeat (any_goals (go_big_quiet_step (fail)))
          refine wpQuiet_nil ?_
          rintro _ ⟨⟨wq, hq⟩, rfl⟩
          go_wp2_with fail
          go_meet
          exact ⟨rfl, hq⟩
        | false =>
          obtain ⟨q0, q1, q2, q3, q4, q5⟩ := cells6 hX
          obtain ⟨m0, m1, m2, m3, m4, m5⟩ := cells6 hR1.nb
          have q0 := xt _ _ _ _ q0
          have q1 := xt _ _ _ _ q1
          have q2 := xt _ _ _ _ q2
          have q3 := xt _ _ _ _ q3
          have q4 := xt _ _ _ _ q4
          have q5 := xt _ _ _ _ q5
          have m0 := xt _ _ _ _ m0
          have m1 := xt _ _ _ _ m1
          have m2 := xt _ _ _ _ m2
          have m3 := xt _ _ _ _ m3
          have m4 := xt _ _ _ _ m4
          have m5 := xt _ _ _ _ m5
          clear xt hX hR1
          refine wp_region_ext wA.heap.size wA (by kernel_rfl) (by kernel_rfl) (Below.refl _ _) ?_
          try simp only [List.append_eq, List.cons_append, List.nil_append]
          repeat (any_goals (go_big_quiet_step (first | (go_at_call 59; exact Calls.ext_of (Nat.le_refl _) (hE1 _)) | (go_at_call 59; exact Calls.ext_of (Nat.le_refl _) (hE2 _)) | (go_at_call 58; exact Calls.ext_of (Nat.le_refl _) (hBf _)))))
          refine wpQuiet_nil ?_
          rintro _ ⟨⟨wq, hq⟩, rfl⟩
          clear q0 q1 q2 q3 q4 q5 m0 m1 m2 m3 m4 m5 hE1 hE2 hBf
          go_wp2_with fail
          go_meet
          exact ⟨rfl, hq⟩
      case rest =>
      obtain ⟨rfl, hbc⟩ := hcut
      have hR2 := hR1.next hbc
      have hX2 := lk_next hbc hX
      obtain ⟨D2, hD2⟩ : ∃ D, (!d && B1) = D := ⟨_, rfl⟩
      try rw [hD2]
      have HD2 := Lib.hid hD2
      clear hR1 hX hbc hBf hD2
      go_upto_if 81 with fail
      go_cut [10, 12] from 82 to 94 (fun cv dv wx => ∃ (nl' nc' : Nat) (K' : List Lk) (C' : List Ev) (sl' : Value), dv = .bool (d || D2) ∧ Hid (K' = if D2 = true then K ++ [nk] else K) ∧ Hid (C' = if D2 = true then C1 ++ [setEv nk t] else C1) ∧ Hid (nl' = K'.length) ∧ Hid (nc' = C'.length) ∧ nl' ≤ 2 * i + 1 ∧ nc' ≤ 2 * i + 1 ∧ RaW w wx w.heap.size (w.heap.size + 1) (w.heap.size + 2) O (O + 1) n (.slice (some ⟨b, off, none⟩) ls.length cap) #[.int .i64 k, .int .i64 t, .int .i64 u, .int .i64 v, .int .i64 wt, .int .i64 lb, .int .i64 sg] #[.int .i64 (min u v), .int .i64 (max u v), .int .i64 wt, .int .i64 lb, .int .i64 sg, .int .i64 t] sl' sl' nl' K' cv nc' C' ∧ wx.heap[Q]? = some (.cells #[.int .i64 xu, .int .i64 xv, .int .i64 x1, .int .i64 x2, .int .i64 x3, .int .i64 x4] 69 (0, 0)))
      case first =>
        cases D2 with
        | false =>
          go_wp2_with fail
          go_meet
          exact ⟨nl, nc, K, C1, _, (show Value.bool d = Value.bool (d || false) by rw [Bool.or_false]), (show _ = _ from rfl), (show _ = _ from rfl), HNL, HNC1, by omega, by omega, hR2, hX2⟩
        | true =>
          --DEV<A
          go_wp2_with fail
          have hcs : ∀ (W : World) (sl : Value) (nl2 : Nat) (K2 : List Lk) (cv : Value) (nc2 : Nat) (C2 : List Ev), RaW w W w.heap.size (w.heap.size + 1) (w.heap.size + 2) O (O + 1) n (.slice (some ⟨b, off, none⟩) ls.length cap) #[.int .i64 k, .int .i64 t, .int .i64 u, .int .i64 v, .int .i64 wt, .int .i64 lb, .int .i64 sg] #[.int .i64 (min u v), .int .i64 (max u v), .int .i64 wt, .int .i64 lb, .int .i64 sg, .int .i64 t] (.slice al nl cl) sl nl2 K2 cv nc2 C2 → (fun w' => w'.cell? ⟨O, 1, none⟩ = some (.slice al nl cl) ∧ w'.cell? ⟨O + 1, 0, none⟩ = some (.int .i64 (min u v)) ∧ w'.cell? ⟨O + 1, 1, none⟩ = some (.int .i64 (max u v)) ∧ w'.cell? ⟨O + 1, 2, none⟩ = some (.int .i64 wt) ∧ w'.cell? ⟨O + 1, 3, none⟩ = some (.int .i64 lb) ∧ w'.cell? ⟨O + 1, 4, none⟩ = some (.int .i64 sg) ∧ w'.cell? ⟨O + 1, 5, none⟩ = some (.int .i64 t) ∧ w'.cell? ⟨w.heap.size + 1, 1, none⟩ = some (.int .i64 t)) W := fun W sl nl2 K2 cv nc2 C2 h => by
            obtain ⟨m0, m1, m2, m3, m4, m5⟩ := cells6 h.nb
            obtain ⟨-, p1, -, -, -, -, -⟩ := lk_cells7 h.e
            exact ⟨h.o1, m0, m1, m2, m3, m4, m5, p1⟩
          have hRA0 := hR2.drew
          have hRA := hRA0.alloc (.cells #[.int .i64 (min u v), .int .i64 (max u v), .int .i64 wt, .int .i64 lb, .int .i64 sg, .int .i64 t] 69)
          have hlx := rows_lit1 (E := encLk) wc.drew nk 69 #[.int .i64 (min u v), .int .i64 (max u v), .int .i64 wt, .int .i64 lb, .int .i64 sg, .int .i64 t] (by rw [← HNC.out]; rfl)
          have hst := fun W => rset05_any nk t W
          rw [HNC.out, HSC.out] at hst
          refine wp_region_peel3 (S := fun w' => w'.cell? ⟨O, 1, none⟩ = some (.slice al nl cl) ∧ w'.cell? ⟨O + 1, 0, none⟩ = some (.int .i64 (min u v)) ∧ w'.cell? ⟨O + 1, 1, none⟩ = some (.int .i64 (max u v)) ∧ w'.cell? ⟨O + 1, 2, none⟩ = some (.int .i64 wt) ∧ w'.cell? ⟨O + 1, 3, none⟩ = some (.int .i64 lb) ∧ w'.cell? ⟨O + 1, 4, none⟩ = some (.int .i64 sg) ∧ w'.cell? ⟨O + 1, 5, none⟩ = some (.int .i64 t) ∧ w'.cell? ⟨w.heap.size + 1, 1, none⟩ = some (.int .i64 t)) 13 (by kernel_rfl) (by kernel_rfl) (by kernel_rfl) (by kernel_rfl) (by kernel_rfl) (by kernel_rfl) (by kernel_rfl) (by kernel_rfl) (by kernel_rfl) (by kernel_rfl) (by kernel_rfl) (hcs _ _ _ _ _ _ _ hRA0) (fun hHeld => ?_)
          simp only [List.take_succ_cons, List.take_zero]
          refine' wpAnyH_take (i := 0) (v := ?v82x0) ?hi82x0 (by kernel_rfl) (by kernel_rfl) (by kernel_rfl) ?hQ82x0 (Or.inl ⟨?hw82x0, ?hy82x0⟩) (by assumption) ?hr82x0
          case hi82x0 => simp only [List.getElem?_toArray, List.getElem?_cons_succ, List.getElem?_cons_zero]; rfl
          case hQ82x0 => exact fun _ _ _ h => h
          case hw82x0 => rfl
          case hy82x0 =>
            intro w hSw; (try dsimp only at hSw)
            go_simp
            try with_reducible rfl
          try simp only [Act.put, List.setIfInBounds_toArray, List.set_cons_zero, List.set_cons_succ]
          refine' wpAnyH_take (i := 1) (v := ?v82x1) ?hi82x1 (by kernel_rfl) (by kernel_rfl) (by kernel_rfl) ?hQ82x1 (Or.inl ⟨?hw82x1, ?hy82x1⟩) (by assumption) ?hr82x1
          case hi82x1 => simp only [List.getElem?_toArray, List.getElem?_cons_succ, List.getElem?_cons_zero]; rfl
          case hQ82x1 => exact fun _ _ _ h => h
          case hw82x1 => rfl
          case hy82x1 =>
            intro w hSw; (try dsimp only at hSw)
            go_simp
            try with_reducible rfl
          try simp only [Act.put, List.setIfInBounds_toArray, List.set_cons_zero, List.set_cons_succ]
          refine' wpAnyH_take (i := 2) (v := ?v82x2) ?hi82x2 (by kernel_rfl) (by kernel_rfl) (by kernel_rfl) ?hQ82x2 (Or.inl ⟨?hw82x2, ?hy82x2⟩) (by assumption) ?hr82x2
          case hi82x2 => simp only [List.getElem?_toArray, List.getElem?_cons_succ, List.getElem?_cons_zero]; rfl
          case hQ82x2 => exact fun _ _ _ h => h
          case hw82x2 => rfl
          case hy82x2 =>
            intro w hSw; (try dsimp only at hSw)
            go_simp
            try with_reducible rfl
          try simp only [Act.put, List.setIfInBounds_toArray, List.set_cons_zero, List.set_cons_succ]
          refine' wpAnyH_take (i := 5) (v := ?v82x5) ?hi82x5 (by kernel_rfl) (by kernel_rfl) (by kernel_rfl) ?hQ82x5 (Or.inl ⟨?hw82x5, ?hy82x5⟩) (by assumption) ?hr82x5
          case hi82x5 => simp only [List.getElem?_toArray, List.getElem?_cons_succ, List.getElem?_cons_zero]; rfl
          case hQ82x5 => exact fun _ _ _ h => h
          case hw82x5 => rfl
          case hy82x5 =>
            intro w hSw; (try dsimp only at hSw)
            go_simp
            try with_reducible rfl
          try simp only [Act.put, List.setIfInBounds_toArray, List.set_cons_zero, List.set_cons_succ]
          refine' wpAnyH_take (i := 6) (v := ?v82x6) ?hi82x6 (by kernel_rfl) (by kernel_rfl) (by kernel_rfl) ?hQ82x6 (Or.inl ⟨?hw82x6, ?hy82x6⟩) (by assumption) ?hr82x6
          case hi82x6 => simp only [List.getElem?_toArray, List.getElem?_cons_succ, List.getElem?_cons_zero]; rfl
          case hQ82x6 => exact fun _ _ _ h => h
          case hw82x6 => rfl
          case hy82x6 =>
            intro w hSw; (try dsimp only at hSw)
            go_simp
            try with_reducible rfl
          try simp only [Act.put, List.setIfInBounds_toArray, List.set_cons_zero, List.set_cons_succ]
          refine' wpAnyH_take (i := 7) (v := ?v82x7) ?hi82x7 (by kernel_rfl) (by kernel_rfl) (by kernel_rfl) ?hQ82x7 (Or.inl ⟨?hw82x7, ?hy82x7⟩) (by assumption) ?hr82x7
          case hi82x7 => simp only [List.getElem?_toArray, List.getElem?_cons_succ, List.getElem?_cons_zero]; rfl
          case hQ82x7 => exact fun _ _ _ h => h
          case hw82x7 => rfl
          case hy82x7 =>
            intro w hSw; (try dsimp only at hSw)
            go_simp
            try with_reducible rfl
          try simp only [Act.put, List.setIfInBounds_toArray, List.set_cons_zero, List.set_cons_succ]
          refine' wpAnyH_take (i := 8) (v := ?v82x8) ?hi82x8 (by kernel_rfl) (by kernel_rfl) (by kernel_rfl) ?hQ82x8 (Or.inl ⟨?hw82x8, ?hy82x8⟩) (by assumption) ?hr82x8
          case hi82x8 => simp only [List.getElem?_toArray, List.getElem?_cons_succ, List.getElem?_cons_zero]; rfl
          case hQ82x8 => exact fun _ _ _ h => h
          case hw82x8 => rfl
          case hy82x8 =>
            intro w hSw; (try dsimp only at hSw)
            go_simp
            try with_reducible rfl
          try simp only [Act.put, List.setIfInBounds_toArray, List.set_cons_zero, List.set_cons_succ]
          refine wpAnyH_ready (rs := [3]) (by kernel_rfl) (by simp) ?_
          refine' AllReadyH.cons ?ho82x3 (fun KQ hKQ => ?_) AllReadyH.nil
          case ho82x3 => simp only [List.getElem?_toArray, List.getElem?_cons_succ, List.getElem?_cons_zero]; rfl
          go_simp
          refine hKQ.out _ _ (hcs _ _ _ _ _ _ _ hRA) (fun hHeld => ?_)
          clear hKQ KQ
          try simp only [Act.put, List.setIfInBounds_toArray, List.set_cons_zero, List.set_cons_succ]
          refine wpAnyH_ready (rs := [4]) (by kernel_rfl) (by simp) ?_
          refine' AllReadyH.cons ?ho82x4 (fun KQ hKQ => ?_) AllReadyH.nil
          case ho82x4 => simp only [List.getElem?_toArray, List.getElem?_cons_succ, List.getElem?_cons_zero]; rfl
          refine step_app_rows_at lkRT rfl (.tmp 83) (.tmp 85) rfl (O + 1 + 1) (.slice al nl cl) _ K [nk] rfl (by rw [← HNL.out]; exact hRA.own1) rfl (by exact hlx) (by rw [← HNL.out]; simp; omega) (by rw [← HNL.out]; simp; omega) (by exact hRA.base) ?_
          intro v6 w6 hown6 hg6 hat6
          have hl6 : (K ++ [nk]).length = nl + 1 := by rw [List.length_append, ← HNL.out]; rfl
          rw [hl6] at hown6
          have hRB := hRA.appK hown6 hg6 hat6
          obtain ⟨a6, c6, rfl⟩ := owns_shape hown6
          clear hl6
          refine hKQ.out _ _ (hcs _ _ _ _ _ _ _ hRB) (fun hHeld => ?_)
          clear hKQ KQ
          try simp only [Act.put, List.setIfInBounds_toArray, List.set_cons_zero, List.set_cons_succ]
          refine' wpAnyH_take (i := 12) (v := ?v82x12) ?hi82x12 (by kernel_rfl) (by kernel_rfl) (by kernel_rfl) ?hQ82x12 (Or.inl ⟨?hw82x12, ?hy82x12⟩) (by assumption) ?hr82x12
          case hi82x12 => simp only [List.getElem?_toArray, List.getElem?_cons_succ, List.getElem?_cons_zero]; rfl
          case hQ82x12 => exact fun _ _ _ h => h
          case hw82x12 => rfl
          case hy82x12 =>
            intro w hSw; (try dsimp only at hSw)
            go_simp
            try with_reducible rfl
          try simp only [Act.put, List.setIfInBounds_toArray, List.set_cons_zero, List.set_cons_succ]
          refine wpAnyH_ready (rs := [9]) (by kernel_rfl) (by simp) ?_
          refine' AllReadyH.cons ?ho82x9 (fun KQ hKQ => ?_) AllReadyH.nil
          case ho82x9 => simp only [List.getElem?_toArray, List.getElem?_cons_succ, List.getElem?_cons_zero]; rfl
          go_simp
          go_at_call 60
          (with_reducible refine (hst _).mono ?_)
          rintro _ w7 ⟨rfl, hb7⟩
          have hRC := hRB.next hb7
          have hRD := hRC.alloc (.cells #[.int .i64 1, .int .i64 t, .int .i64 (min u v), .int .i64 (max u v), .int .i64 wt, .int .i64 lb, .int .i64 sg] 41)
          have hlc := rows_lit1 (E := encEv) w7 (setEv nk t) 41 #[.int .i64 1, .int .i64 t, .int .i64 (min u v), .int .i64 (max u v), .int .i64 wt, .int .i64 lb, .int .i64 sg] (by rw [← HSC.out]; rfl)
          refine hKQ.out _ _ (hcs _ _ _ _ _ _ _ hRC) (fun hHeld => ?_)
          clear hKQ KQ
          try simp only [Act.put, List.setIfInBounds_toArray, List.set_cons_zero, List.set_cons_succ]
          refine wpAnyH_ready (rs := [10]) (by kernel_rfl) (by simp) ?_
          refine' AllReadyH.cons ?ho82x10 (fun KQ hKQ => ?_) AllReadyH.nil
          case ho82x10 => simp only [List.getElem?_toArray, List.getElem?_cons_succ, List.getElem?_cons_zero]; rfl
          go_simp
          refine hKQ.out _ _ (hcs _ _ _ _ _ _ _ hRD) (fun hHeld => ?_)
          clear hKQ KQ
          try simp only [Act.put, List.setIfInBounds_toArray, List.set_cons_zero, List.set_cons_succ]
          refine wpAnyH_ready (rs := [11]) (by kernel_rfl) (by simp) ?_
          refine' AllReadyH.cons ?ho82x11 (fun KQ hKQ => ?_) AllReadyH.nil
          case ho82x11 => simp only [List.getElem?_toArray, List.getElem?_cons_succ, List.getElem?_cons_zero]; rfl
          refine step_app_rows_at evRT rfl (.tmp 87) (.tmp 92) rfl (O + 1 + 1) (.slice ac nc cc) _ C1 [setEv nk t] rfl (by rw [← HNC1.out]; exact hRD.own2) rfl (by exact hlc) (by rw [← HNC1.out]; simp; omega) (by rw [← HNC1.out]; simp; omega) (by exact hRD.base) ?_
          intro v8 w8 hown8 hg8 hat8
          have hl8 : (C1 ++ [setEv nk t]).length = nc + 1 := by rw [List.length_append, ← HNC1.out]; rfl
          rw [hl8] at hown8
          have hRE := hRD.appC hown8 hg8 hat8
          obtain ⟨a8, c8, rfl⟩ := owns_shape hown8
          clear hl8
          refine hKQ.out _ _ (hcs _ _ _ _ _ _ _ hRE) (fun hHeld => ?_)
          clear hKQ KQ
          try simp only [Act.put, List.setIfInBounds_toArray, List.set_cons_zero, List.set_cons_succ]
          refine wpAnyH_done (by kernel_rfl) ?_ _
          have o8 := hRE.o1
          have f8 := free_blk (j := 1) hRE.o
          have hRF := hRE.put
          refine' lastQ_normal ?hlast82x0 (fun KQ hKQ => ?_)
          case hlast82x0 => simp only [List.getElem?_cons_succ, List.getElem?_cons_zero]; rfl
          go_simp
          refine hKQ.out _ _ ?_
          clear hKQ KQ
          try simp only [Act.put, List.setIfInBounds_toArray, List.set_cons_zero, List.set_cons_succ]
          refine' lastQ_normal ?hlast82x1 (fun KQ hKQ => ?_)
          case hlast82x1 => simp only [List.getElem?_cons_succ, List.getElem?_cons_zero]; rfl
          go_simp
          refine hKQ.out _ _ ?_
          clear hKQ KQ
          try simp only [Act.put, List.setIfInBounds_toArray, List.set_cons_zero, List.set_cons_succ]
          refine' lastQ_normal ?hlast82x2 (fun KQ hKQ => ?_)
          case hlast82x2 => simp only [List.getElem?_cons_succ, List.getElem?_cons_zero]; rfl
          go_simp
          refine hKQ.out _ _ ?_
          clear hKQ KQ
          try simp only [Act.put, List.setIfInBounds_toArray, List.set_cons_zero, List.set_cons_succ]
          have hXw : wc.drew.heap[Q]? = some (.cells #[.int .i64 xu, .int .i64 xv, .int .i64 x1, .int .i64 x2, .int .i64 x3, .int .i64 x4] 69 (0, 0)) := hX2
          have hXA := lk_next ((Below.refl _ _).alloc (Nat.le_refl _) (.cells #[.int .i64 (min u v), .int .i64 (max u v), .int .i64 wt, .int .i64 lb, .int .i64 sg, .int .i64 t] 69)) hXw
          have hXB := grown_blk hg6 hXA (by intro e; have := hq1 _ e.symm; omega)
          have hXC := lk_next hb7 hXB
          have hXD := lk_next ((Below.refl _ _).alloc (Nat.le_refl _) (.cells #[.int .i64 1, .int .i64 t, .int .i64 (min u v), .int .i64 (max u v), .int .i64 wt, .int .i64 lb, .int .i64 sg] 41)) hXC
          have hXE := grown_blk hg8 hXD (by intro e; have := hq2 _ e.symm; omega)
          have hXF := (Below.heap_setCell w8 ⟨O, 1, none⟩ (.slice a6 (nl + 1) c6) Q (by show Q ≠ O; omega)).trans hXE
          go_wp2_with fail
          go_meet
          exact ⟨nl + 1, nc + 1, K ++ [nk], C1 ++ [setEv nk t], _, (show Value.bool true = Value.bool (d || true) by rw [Bool.or_true]), (show _ = _ from rfl), (show _ = _ from rfl), (show _ = _ by rw [List.length_append, ← HNL.out]; rfl), (show _ = _ by rw [List.length_append, ← HNC1.out]; rfl), by omega, by omega, hRF, hXF⟩
          --DEV>
      case rest =>
      obtain ⟨nl', nc', K', C', sl', rfl, HK', HC', HNL', HNC', hnl', hnc', hR3, hX3⟩ := hcut
      obtain ⟨al', cl', rfl⟩ := owns_shape hR3.own1
      obtain ⟨ac', cc', rfl⟩ := owns_shape hR3.own2
      have HXY : Hid (ls[i]? = some y) := (show _ = _ by rw [HX.out, ← HY.out])
      have hyu : y.u = xu ∧ y.v = xv := ⟨by rw [← HY.out], by rw [← HY.out]⟩
      have hrp := HRP.out
      rw [rapp_drop (D2 := D2) (K' := K') (C' := C') HXY.out (by have h9 := HLB.out; rw [HY.out] at h9; rw [h9]; exact HD2.out) HK'.out (by rw [HE.out.2.1]; exact HC'.out), HE.out.1, HE.out.2.1, HE.out.2.2, show sameE y nk = H1 by rw [← HY.out]; exact HSM.out, hyu.1, hyu.2] at hrp
      have HRS := Lib.hid hrp
      clear hrp hR2 hX2 HRP HK' HC' HNL HNC1 HD2 HLB HX hq1 hq2 hyu
      obtain ⟨d', hd'⟩ : ∃ D, (d || D2) = D := ⟨_, rfl⟩
      rw [hd'] at HRS
      try rw [hd']
      clear hd'
      go_upto_region 18 with fail
      go_cut [15] from 95 to 99 (fun h wx => h = .bool H1 ∧ RaW w wx w.heap.size (w.heap.size + 1) (w.heap.size + 2) O (O + 1) n (.slice (some ⟨b, off, none⟩) ls.length cap) #[.int .i64 k, .int .i64 t, .int .i64 u, .int .i64 v, .int .i64 wt, .int .i64 lb, .int .i64 sg] #[.int .i64 (min u v), .int .i64 (max u v), .int .i64 wt, .int .i64 lb, .int .i64 sg, .int .i64 t] (.slice al' nl' cl') (.slice al' nl' cl') nl' K' (.slice ac' nc' cc') nc' C' ∧ wx.heap[Q]? = some (.cells #[.int .i64 xu, .int .i64 xv, .int .i64 x1, .int .i64 x2, .int .i64 x3, .int .i64 x4] 69 (0, 0)))
      case first =>
        --DEV<B
        obtain ⟨q0, q1, q2, q3, q4, q5⟩ := cells6 hX3
        obtain ⟨m0, m1, m2, m3, m4, m5⟩ := cells6 hR3.nb
        have q0 := xt _ _ _ _ q0
        have q1 := xt _ _ _ _ q1
        have q2 := xt _ _ _ _ q2
        have q3 := xt _ _ _ _ q3
        have q4 := xt _ _ _ _ q4
        have q5 := xt _ _ _ _ q5
        have m0 := xt _ _ _ _ m0
        have m1 := xt _ _ _ _ m1
        have m2 := xt _ _ _ _ m2
        have m3 := xt _ _ _ _ m3
        have m4 := xt _ _ _ _ m4
        have m5 := xt _ _ _ _ m5
        have hsm := HSM.out
        rw [HY.out] at hsm
        unfold sameE at hsm
        rw [HNU.out.1, HNU.out.2, show y.u = xu from by rw [← HY.out], show y.v = xv from by rw [← HY.out]] at hsm
        have HS2 := Lib.hid hsm
        clear xt hsm
        rcases (by by_cases e1 : xu = min u v <;> by_cases e2 : xv = max u v <;> simp [e1, e2] : (xu = min u v ∧ xv = max u v) ∨ (xu = min u v ∧ ¬ xv = max u v) ∨ ¬ xu = min u v) with ⟨e1, e2⟩ | ⟨e1, e2⟩ | e1
        all_goals
          have hsm := HS2.out
          (first | simp only [e1, e2, decide_true, decide_false, Bool.and_true, Bool.and_false] at hsm | simp only [e1, decide_false, Bool.false_and] at hsm)
          have HS3 := Lib.hid hsm
          first | (have d1 : (xu == min u v) = true := by simp [e1]) | (have d1 : (xu == min u v) = false := by simpa using e1)
          try (first | (have d2 : (xv == max u v) = true := by simp [e2]) | (have d2 : (xv == max u v) = false := by simpa using e2))
          clear hsm e1
          try clear e2
          refine wp_region_ext wc.heap.size wc (by kernel_rfl) (by kernel_rfl) (Below.refl _ _) ?_
          try simp only [List.append_eq, List.cons_append, List.nil_append]
          repeat (any_goals (go_big_quiet_step (first | (go_at_call 59; exact Calls.ext_of (Nat.le_refl _) (hE1 _)) | (go_at_call 59; exact Calls.ext_of (Nat.le_refl _) (hE2 _)))))
          refine wpQuiet_nil ?_
          rintro _ ⟨⟨wq, hq⟩, rfl⟩
          go_wp2_with fail
          go_meet
          exact ⟨by rw [← HS3.out], hR3.next hq, lk_next hq hX3⟩
        --DEV>
      case rest =>
      obtain ⟨rfl, hR4, hX4⟩ := hcut
      clear hR3 hX3 hE1 hE2 xt HSM
      have hyc : y.cells = #[.int .i64 xu, .int .i64 xv, .int .i64 x1, .int .i64 x2, .int .i64 x3, .int .i64 x4] := by rw [← HY.out]; rfl
      have HYC := Lib.hid hyc
      have hct := fun W => rcut05_any y t W
      rw [hyc, show (cutEv y t).cells = #[.int .i64 2, .int .i64 t, .int .i64 xu, .int .i64 xv, .int .i64 0, .int .i64 0, .int .i64 0] by rw [← HY.out]; rfl] at hct
      have HCC : Hid ((cutEv y t).cells = #[.int .i64 2, .int .i64 t, .int .i64 xu, .int .i64 xv, .int .i64 0, .int .i64 0, .int .i64 0]) := (show _ = _ by rw [← HY.out]; rfl)
      clear hyc
      obtain ⟨e0, e1, e2, e3, e4, e5, e6⟩ := lk_cells7 hR4.e
      obtain ⟨q0, q1, q2, q3, q4, q5⟩ := cells6 hX4
      obtain ⟨m0, m1, m2, m3, m4, m5⟩ := cells6 hR4.nb
      have o1 := hR4.o1
      by_cases hB : k = 1 ∧ H1 = true
      · obtain ⟨rfl, rfl⟩ := hB
        have hrs := HRS.out
        rw [if_pos ⟨rfl, rfl⟩] at hrs
        have HR5 := Lib.hid hrs
        clear hrs HRS
        go_upto_region 21 with fail
        go_cut [115] from 113 to 115 (fun c wx => c = .bool (decide (y ≠ nk)) ∧ wx = wc)
        case first =>
          --DEV<C
          by_cases hyn : y = nk
          · have hz : (⟨xu, xv, x1, x2, x3, x4⟩ : Lk) = ⟨min u v, max u v, wt, lb, sg, t⟩ := by rw [HY.out, hyn, HNK.out]
            simp only [Lk.mk.injEq] at hz
            obtain ⟨z0, z1, z2, z3, z4, z5⟩ := hz
            have d0 : (xu == min u v) = true := by simp [z0]
            have d1 : (xv == max u v) = true := by simp [z1]
            have d2 : (x1 == wt) = true := by simp [z2]
            have d3 : (x2 == lb) = true := by simp [z3]
            have d4 : (x3 == sg) = true := by simp [z4]
            have d5 : (x4 == t) = true := by simp [z5]
            have hd : decide (y ≠ nk) = false := decide_eq_false fun h => h hyn
            have HD := Lib.hid hd
            clear z0 z1 z2 z3 z4 z5 hyn hd
            go_wp2_with fail
            go_meet
            exact ⟨(show Value.bool false = _ by rw [HD.out]), rfl⟩
          · have hd := lk_diff hyn
            have hd2 : decide (y ≠ nk) = true := decide_eq_true hyn
            have HD := Lib.hid hd2
            rw [← HY.out, HNK.out] at hd
            dsimp only at hd
            clear hyn hd2
            rcases hd with k1 | ⟨k1, k2⟩ | ⟨k1, k2, k3⟩ | ⟨k1, k2, k3, k4⟩ | ⟨k1, k2, k3, k4, k5⟩ | ⟨k1, k2, k3, k4, k5, k6⟩
            all_goals
              go_wp2_with fail
              go_meet
              exact ⟨(show Value.bool true = _ by rw [HD.out]), rfl⟩
          --DEV>
        case rest =>
        obtain ⟨rfl, rfl⟩ := hcut
        have hlx := fun W : World => rows_lit1 (E := encLk) W nk 69 #[.int .i64 (min u v), .int .i64 (max u v), .int .i64 wt, .int .i64 lb, .int .i64 sg, .int .i64 t] (by rw [← HNC.out]; rfl)
        by_cases hyn : y = nk
        · have hrs := HR5.out
          rw [if_pos hyn] at hrs
          have HR6 := Lib.hid hrs
          have hd : decide (y ≠ nk) = false := decide_eq_false fun h => h hyn
          rw [hd]
          clear hrs HR5 hyn hd
          --DEV<F
          have hR8 := hR4.alloc (.cells #[.int .i64 (min u v), .int .i64 (max u v), .int .i64 wt, .int .i64 lb, .int .i64 sg, .int .i64 t] 69)
          have o8 := hR8.o1
          go_wp2_with (at_builtin; refine wpList_app_rows_at' lkRT rfl _ _ rfl (O + 1 + 1) (.slice al' nl' cl') _ K' [nk] rfl (by rw [← HNL'.out]; exact hR8.own1) rfl (by exact hlx _) (by rw [← HNL'.out]; simp; omega) (by rw [← HNL'.out]; simp; omega) (by exact hR8.base) ?_; intro v6 w6 hown6 hg6 hat6; have hl6 : (K' ++ [nk]).length = nl' + 1 := (by rw [List.length_append, ← HNL'.out]; rfl); rw [hl6] at hown6; have hR9 := hR8.appK hown6 hg6 hat6; obtain ⟨a6, c6, rfl⟩ := owns_shape hown6; have o6 := hR9.o1; have f6 := free_blk (j := 1) hR9.o; have hRA := hR9.put)
          go_wp2_with fail
          go_roundw
          case rel =>
            repeat apply Exists.intro
            exact ⟨⟨i + 1, nl' + 1, nc', K' ++ [nk], C', true, _, by omega, by go_num, rfl, HR6, (show _ = _ by rw [List.length_append, ← HNL'.out]; rfl), HNC', by omega, by omega, hRA⟩, rfl⟩
          case measure => simp [intOf]; omega
          --DEV>
        · have hrs := HR5.out
          rw [if_neg hyn] at hrs
          have HR6 := Lib.hid hrs
          have hd : decide (y ≠ nk) = true := decide_eq_true hyn
          rw [hd]
          clear hrs HR5 hyn hd
          --DEV<G
          have hst := fun W => rset05_any nk t W
          rw [HNC.out, HSC.out] at hst
          have hlc := fun W : World => rows_lit1 (E := encEv) W (setEv nk t) 41 #[.int .i64 1, .int .i64 t, .int .i64 (min u v), .int .i64 (max u v), .int .i64 wt, .int .i64 lb, .int .i64 sg] (by rw [← HSC.out]; rfl)
          go_wp2_with fail
          refine (hst _).mono ?_
          rintro _ w7 ⟨rfl, hb7⟩
          have hR7 := hR4.next hb7
          have hR7A := hR7.alloc (.cells #[.int .i64 1, .int .i64 t, .int .i64 (min u v), .int .i64 (max u v), .int .i64 wt, .int .i64 lb, .int .i64 sg] 41)
          clear e0 e1 e2 e3 e4 e5 e6 q0 q1 q2 q3 q4 q5 m0 m1 m2 m3 m4 m5 o1
          go_wp2_with (first | (at_builtin; refine wpList_app_rows_at' evRT rfl _ _ rfl (O + 1 + 1) (.slice ac' nc' cc') _ C' [setEv nk t] rfl (by rw [← HNC'.out]; exact hR7A.own2) rfl (by exact hlc _) (by rw [← HNC'.out]; simp; omega) (by rw [← HNC'.out]; simp; omega) (by exact hR7A.base) ?_; intro v5 w5 hown5 hg5 hat5; have hl5 : (C' ++ [setEv nk t]).length = nc' + 1 := (by rw [List.length_append, ← HNC'.out]; rfl); rw [hl5] at hown5; have hR5 := hR7A.appC hown5 hg5 hat5; obtain ⟨a5, c5, rfl⟩ := owns_shape hown5; have o5 := hR5.o1; obtain ⟨n0, n1, n2, n3, n4, n5⟩ := cells6 hR5.nb; have hR8 := hR5.alloc (.cells #[.int .i64 (min u v), .int .i64 (max u v), .int .i64 wt, .int .i64 lb, .int .i64 sg, .int .i64 t] 69); have o8 := hR8.o1) | (at_builtin; refine wpList_app_rows_at' lkRT rfl _ _ rfl (O + 1 + 1) (.slice al' nl' cl') _ K' [nk] rfl (by rw [← HNL'.out]; exact hR8.own1) rfl (by exact hlx _) (by rw [← HNL'.out]; simp; omega) (by rw [← HNL'.out]; simp; omega) (by exact hR8.base) ?_; intro v6 w6 hown6 hg6 hat6; have hl6 : (K' ++ [nk]).length = nl' + 1 := (by rw [List.length_append, ← HNL'.out]; rfl); rw [hl6] at hown6; have hR9 := hR8.appK hown6 hg6 hat6; obtain ⟨a6, c6, rfl⟩ := owns_shape hown6; have o6 := hR9.o1; have f6 := free_blk (j := 1) hR9.o; have hRA := hR9.put))
          go_wp2_with fail
          go_roundw
          case rel =>
            repeat apply Exists.intro
            exact ⟨⟨i + 1, nl' + 1, nc' + 1, K' ++ [nk], C' ++ [setEv nk t], true, _, by omega, by go_num, rfl, HR6, (show _ = _ by rw [List.length_append, ← HNL'.out]; rfl), (show _ = _ by rw [List.length_append, ← HNC'.out]; rfl), by omega, by omega, hRA⟩, rfl⟩
          case measure => simp [intOf]; omega
          --DEV>
      · have hrs := HRS.out
        rw [if_neg hB] at hrs
        have HR5 := Lib.hid hrs
        clear hrs HRS
        by_cases hG : (k = 2 ∧ H1 = true) ∨ (k = 3 ∧ (xu = u ∨ xv = u))
        · have hr5 := HR5.out
          rw [if_pos hG] at hr5
          have HR6 := Lib.hid hr5
          clear HR5 hr5
          --DEV<H
          have hlc := fun W : World => rows_lit1 (E := encEv) W (cutEv y t) 41 #[.int .i64 2, .int .i64 t, .int .i64 xu, .int .i64 xv, .int .i64 0, .int .i64 0, .int .i64 0] (by rw [← HCC.out]; rfl)
          rcases (by rcases hG with ⟨h1, h2⟩ | ⟨h1, h2⟩; exact .inl ⟨h1, h2⟩; by_cases h3 : xu = u; exact .inr (.inl ⟨h1, h3⟩); exact .inr (.inr ⟨h1, h3, h2.resolve_left h3⟩) : (k = 2 ∧ H1 = true) ∨ (k = 3 ∧ xu = u) ∨ (k = 3 ∧ ¬ xu = u ∧ xv = u)) with ⟨rfl, rfl⟩ | ⟨rfl, h3⟩ | ⟨rfl, h3, h4⟩
          all_goals
            try (first | (have d3 : (xu == u) = true := by simp [h3]) | (have d3 : (xu == u) = false := by simpa using h3))
            try (have d4 : (xv == u) = true := by simp [h4])
            try clear h3
            try clear h4
            clear hG hB
            go_wp2_with fail
            refine (hct _).mono ?_
            rintro _ w7 ⟨rfl, hb7⟩
            have hR7 := hR4.next hb7
            have hR8 := hR7.alloc (.cells #[.int .i64 2, .int .i64 t, .int .i64 xu, .int .i64 xv, .int .i64 0, .int .i64 0, .int .i64 0] 41)
            clear e0 e1 e2 e3 e4 e5 e6 q0 q1 q2 q3 q4 q5 m0 m1 m2 m3 m4 m5 o1
            go_wp2_with (at_builtin; refine wpList_app_rows_at' evRT rfl _ _ rfl (O + 1 + 1) (.slice ac' nc' cc') _ C' [cutEv y t] rfl (by rw [← HNC'.out]; exact hR8.own2) rfl (by exact hlc _) (by rw [← HNC'.out]; simp; omega) (by rw [← HNC'.out]; simp; omega) (by exact hR8.base) ?_; intro v5 w5 hown5 hg5 hat5; have hl5 : (C' ++ [cutEv y t]).length = nc' + 1 := (by rw [List.length_append, ← HNC'.out]; rfl); rw [hl5] at hown5; have hR5 := hR8.appC hown5 hg5 hat5; obtain ⟨a5, c5, rfl⟩ := owns_shape hown5)
            go_wp2_with fail
            go_roundw
            case rel =>
              repeat apply Exists.intro
              exact ⟨⟨i + 1, nl', nc' + 1, K', C' ++ [cutEv y t], d', _, by omega, by go_num, rfl, HR6, HNL', (show _ = _ by rw [List.length_append, ← HNC'.out]; rfl), by omega, by omega, hR5⟩, rfl⟩
            case measure => simp [intOf]; omega
          --DEV>
        · have hr5 := HR5.out
          rw [if_neg hG] at hr5
          have HR6 := Lib.hid hr5
          clear HR5 hr5
          --DEV<I
          have hlx := fun W : World => rows_lit1 (E := encLk) W y 69 #[.int .i64 xu, .int .i64 xv, .int .i64 x1, .int .i64 x2, .int .i64 x3, .int .i64 x4] (by rw [← HYC.out]; rfl)
          have hR8 := hR4.alloc (.cells #[.int .i64 xu, .int .i64 xv, .int .i64 x1, .int .i64 x2, .int .i64 x3, .int .i64 x4] 69)
          have o8 := hR8.o1
          have hcase : (k = 1 ∧ H1 = false) ∨ (k = 2 ∧ H1 = false) ∨ (k = 3 ∧ ¬ xu = u ∧ ¬ xv = u) ∨ (¬ k = 1 ∧ ¬ k = 2 ∧ ¬ k = 3) := by
            by_cases h1 : k = 1
            · exact .inl ⟨h1, by cases H1 with | false => rfl | true => exact absurd ⟨h1, rfl⟩ hB⟩
            by_cases h2 : k = 2
            · exact .inr (.inl ⟨h2, by cases H1 with | false => rfl | true => exact absurd (.inl ⟨h2, rfl⟩) hG⟩)
            by_cases h3 : k = 3
            · exact .inr (.inr (.inl ⟨h3, fun h => hG (.inr ⟨h3, .inl h⟩), fun h => hG (.inr ⟨h3, .inr h⟩)⟩))
            · exact .inr (.inr (.inr ⟨h1, h2, h3⟩))
          clear hB hG hct HCC
          rcases hcase with ⟨rfl, rfl⟩ | ⟨rfl, rfl⟩ | ⟨rfl, h3, h4⟩ | ⟨h5, h6, h7⟩
          all_goals
            try have d3 : (xu == u) = false := by simpa using h3
            try have d4 : (xv == u) = false := by simpa using h4
            try have d5 : (k == 1) = false := by simpa using h5
            try have d6 : (k == 2) = false := by simpa using h6
            try have d7 : (k == 3) = false := by simpa using h7
            try clear h3 h4
            try clear h5 h6 h7
            go_wp2_with (at_builtin; refine wpList_app_rows_at' lkRT rfl _ _ rfl (O + 1 + 1) (.slice al' nl' cl') _ K' [y] rfl (by rw [← HNL'.out]; exact hR8.own1) rfl (by exact hlx _) (by rw [← HNL'.out]; simp; omega) (by rw [← HNL'.out]; simp; omega) (by exact hR8.base) ?_; intro v6 w6 hown6 hg6 hat6; have hl6 : (K' ++ [y]).length = nl' + 1 := (by rw [List.length_append, ← HNL'.out]; rfl); rw [hl6] at hown6; have hR9 := hR8.appK hown6 hg6 hat6; obtain ⟨a6, c6, rfl⟩ := owns_shape hown6; have o6 := hR9.o1; have f6 := free_blk (j := 1) hR9.o; have hRA := hR9.put)
            go_wp2_with fail
            go_roundw
            case rel => first | exact ⟨i + 1, nl' + 1, nc', K' ++ [y], C', d', _, by omega, by go_num, rfl, HR6, (show _ = _ by rw [List.length_append, ← HNL'.out]; rfl), HNC', by omega, by omega, hRA⟩ | ((repeat apply Exists.intro); exact ⟨⟨i + 1, nl' + 1, nc', K' ++ [y], C', d', _, by omega, by go_num, rfl, HR6, (show _ = _ by rw [List.length_append, ← HNL'.out]; rfl), HNC', by omega, by omega, hRA⟩, rfl⟩)
            case measure => simp [intOf]; omega
          --DEV>
    · obtain rfl : i = ls.length := by omega
      have hrp := HRP.out
      rw [List.drop_length] at hrp
      unfold rapp at hrp
      rw [HE.out.2.1] at hrp
      have hlt3 : ¬ ((ls.length : Int) < ls.length) := by omega
      cases d with
      | true =>
        --DEV<J
        rw [if_pos rfl] at hrp
        obtain ⟨rfl, rfl⟩ := Prod.mk.inj hrp
        clear hrp HRP
        have o0 := cell_blk (j := 0) hRW.o
        have o1 := hRW.o1
        have r0 := cell_blk (j := 0) hRW.r
        have r1 := cell_blk (j := 1) hRW.r
        have g0 := free_blk (j := 0) hRW.r
        have g1 := free_blk (j := 1) hRW.r
        have hend := hRW.out HNL HNC1 (by omega) (by omega)
        go_wp2_with fail
        have hfin := set_two (u := .int .i64 n) (v := .slice al nl cl) hRW.r
        have t0 := cell_blk (j := 0) hfin
        have t1 := cell_blk (j := 1) hfin
        exact bodyPost_ret (v := .tuple #[.agg #[.int .i64 n, .slice al nl cl], .slice ac nc cc, .int .i64 0]) (by simp [results, Tryd.results40, go_sem, t0, t1]) rfl hend
        --DEV>
      | false =>
        --DEV<K
        rw [if_neg (by decide)] at hrp
        obtain ⟨hrl, hrc⟩ := Prod.mk.inj hrp
        have HRL := Lib.hid hrl
        have HRC := Lib.hid hrc
        clear hrp HRP hrl hrc
        go_wp2_with fail
        have hcs : ∀ (W : World) (sl : Value) (nl2 : Nat) (K2 : List Lk) (cv : Value) (nc2 : Nat) (C2 : List Ev), RaW w W w.heap.size (w.heap.size + 1) (w.heap.size + 2) O (O + 1) n (.slice a ls.length cap) #[.int .i64 k, .int .i64 t, .int .i64 u, .int .i64 v, .int .i64 wt, .int .i64 lb, .int .i64 sg] #[.int .i64 (min u v), .int .i64 (max u v), .int .i64 wt, .int .i64 lb, .int .i64 sg, .int .i64 t] (.slice al nl cl) sl nl2 K2 cv nc2 C2 → (fun w' => w'.cell? ⟨O, 1, none⟩ = some (.slice al nl cl) ∧ w'.cell? ⟨O + 1, 0, none⟩ = some (.int .i64 (min u v)) ∧ w'.cell? ⟨O + 1, 1, none⟩ = some (.int .i64 (max u v)) ∧ w'.cell? ⟨O + 1, 2, none⟩ = some (.int .i64 wt) ∧ w'.cell? ⟨O + 1, 3, none⟩ = some (.int .i64 lb) ∧ w'.cell? ⟨O + 1, 4, none⟩ = some (.int .i64 sg) ∧ w'.cell? ⟨O + 1, 5, none⟩ = some (.int .i64 t) ∧ w'.cell? ⟨w.heap.size + 1, 1, none⟩ = some (.int .i64 t)) W := fun W sl nl2 K2 cv nc2 C2 h => by
          obtain ⟨m0, m1, m2, m3, m4, m5⟩ := cells6 h.nb
          obtain ⟨-, p1, -, -, -, -, -⟩ := lk_cells7 h.e
          exact ⟨h.o1, m0, m1, m2, m3, m4, m5, p1⟩
        have hRA0 := hRW.drew
        have hRA := hRA0.alloc (.cells #[.int .i64 (min u v), .int .i64 (max u v), .int .i64 wt, .int .i64 lb, .int .i64 sg, .int .i64 t] 69)
        have hlx := rows_lit1 (E := encLk) wr.drew nk 69 #[.int .i64 (min u v), .int .i64 (max u v), .int .i64 wt, .int .i64 lb, .int .i64 sg, .int .i64 t] (by rw [← HNC.out]; rfl)
        have hst := fun W => rset05_any nk t W
        rw [HNC.out, HSC.out] at hst
        refine wp_region_peel2 (S := fun w' => w'.cell? ⟨O, 1, none⟩ = some (.slice al nl cl) ∧ w'.cell? ⟨O + 1, 0, none⟩ = some (.int .i64 (min u v)) ∧ w'.cell? ⟨O + 1, 1, none⟩ = some (.int .i64 (max u v)) ∧ w'.cell? ⟨O + 1, 2, none⟩ = some (.int .i64 wt) ∧ w'.cell? ⟨O + 1, 3, none⟩ = some (.int .i64 lb) ∧ w'.cell? ⟨O + 1, 4, none⟩ = some (.int .i64 sg) ∧ w'.cell? ⟨O + 1, 5, none⟩ = some (.int .i64 t) ∧ w'.cell? ⟨w.heap.size + 1, 1, none⟩ = some (.int .i64 t)) 13 (by kernel_rfl) (by kernel_rfl) (by kernel_rfl) (by kernel_rfl) (by kernel_rfl) (by kernel_rfl) (by kernel_rfl) (by kernel_rfl) (hcs _ _ _ _ _ _ _ hRA0) (fun hHeld => ?_)
        simp only [List.take_succ_cons, List.take_zero]
        refine' wpAnyH_take (i := 0) (v := ?v165x0) ?hi165x0 (by kernel_rfl) (by kernel_rfl) (by kernel_rfl) ?hQ165x0 (Or.inl ⟨?hw165x0, ?hy165x0⟩) (by assumption) ?hr165x0
        case hi165x0 => simp only [List.getElem?_toArray, List.getElem?_cons_succ, List.getElem?_cons_zero]; rfl
        case hQ165x0 => exact fun _ _ _ h => h
        case hw165x0 => rfl
        case hy165x0 =>
          intro w hSw; (try dsimp only at hSw)
          go_simp
          try with_reducible rfl
        try simp only [Act.put, List.setIfInBounds_toArray, List.set_cons_zero, List.set_cons_succ]
        refine' wpAnyH_take (i := 1) (v := ?v165x1) ?hi165x1 (by kernel_rfl) (by kernel_rfl) (by kernel_rfl) ?hQ165x1 (Or.inl ⟨?hw165x1, ?hy165x1⟩) (by assumption) ?hr165x1
        case hi165x1 => simp only [List.getElem?_toArray, List.getElem?_cons_succ, List.getElem?_cons_zero]; rfl
        case hQ165x1 => exact fun _ _ _ h => h
        case hw165x1 => rfl
        case hy165x1 =>
          intro w hSw; (try dsimp only at hSw)
          go_simp
          try with_reducible rfl
        try simp only [Act.put, List.setIfInBounds_toArray, List.set_cons_zero, List.set_cons_succ]
        refine' wpAnyH_take (i := 2) (v := ?v165x2) ?hi165x2 (by kernel_rfl) (by kernel_rfl) (by kernel_rfl) ?hQ165x2 (Or.inl ⟨?hw165x2, ?hy165x2⟩) (by assumption) ?hr165x2
        case hi165x2 => simp only [List.getElem?_toArray, List.getElem?_cons_succ, List.getElem?_cons_zero]; rfl
        case hQ165x2 => exact fun _ _ _ h => h
        case hw165x2 => rfl
        case hy165x2 =>
          intro w hSw; (try dsimp only at hSw)
          go_simp
          try with_reducible rfl
        try simp only [Act.put, List.setIfInBounds_toArray, List.set_cons_zero, List.set_cons_succ]
        refine' wpAnyH_take (i := 5) (v := ?v165x5) ?hi165x5 (by kernel_rfl) (by kernel_rfl) (by kernel_rfl) ?hQ165x5 (Or.inl ⟨?hw165x5, ?hy165x5⟩) (by assumption) ?hr165x5
        case hi165x5 => simp only [List.getElem?_toArray, List.getElem?_cons_succ, List.getElem?_cons_zero]; rfl
        case hQ165x5 => exact fun _ _ _ h => h
        case hw165x5 => rfl
        case hy165x5 =>
          intro w hSw; (try dsimp only at hSw)
          go_simp
          try with_reducible rfl
        try simp only [Act.put, List.setIfInBounds_toArray, List.set_cons_zero, List.set_cons_succ]
        refine' wpAnyH_take (i := 6) (v := ?v165x6) ?hi165x6 (by kernel_rfl) (by kernel_rfl) (by kernel_rfl) ?hQ165x6 (Or.inl ⟨?hw165x6, ?hy165x6⟩) (by assumption) ?hr165x6
        case hi165x6 => simp only [List.getElem?_toArray, List.getElem?_cons_succ, List.getElem?_cons_zero]; rfl
        case hQ165x6 => exact fun _ _ _ h => h
        case hw165x6 => rfl
        case hy165x6 =>
          intro w hSw; (try dsimp only at hSw)
          go_simp
          try with_reducible rfl
        try simp only [Act.put, List.setIfInBounds_toArray, List.set_cons_zero, List.set_cons_succ]
        refine' wpAnyH_take (i := 7) (v := ?v165x7) ?hi165x7 (by kernel_rfl) (by kernel_rfl) (by kernel_rfl) ?hQ165x7 (Or.inl ⟨?hw165x7, ?hy165x7⟩) (by assumption) ?hr165x7
        case hi165x7 => simp only [List.getElem?_toArray, List.getElem?_cons_succ, List.getElem?_cons_zero]; rfl
        case hQ165x7 => exact fun _ _ _ h => h
        case hw165x7 => rfl
        case hy165x7 =>
          intro w hSw; (try dsimp only at hSw)
          go_simp
          try with_reducible rfl
        try simp only [Act.put, List.setIfInBounds_toArray, List.set_cons_zero, List.set_cons_succ]
        refine' wpAnyH_take (i := 8) (v := ?v165x8) ?hi165x8 (by kernel_rfl) (by kernel_rfl) (by kernel_rfl) ?hQ165x8 (Or.inl ⟨?hw165x8, ?hy165x8⟩) (by assumption) ?hr165x8
        case hi165x8 => simp only [List.getElem?_toArray, List.getElem?_cons_succ, List.getElem?_cons_zero]; rfl
        case hQ165x8 => exact fun _ _ _ h => h
        case hw165x8 => rfl
        case hy165x8 =>
          intro w hSw; (try dsimp only at hSw)
          go_simp
          try with_reducible rfl
        try simp only [Act.put, List.setIfInBounds_toArray, List.set_cons_zero, List.set_cons_succ]
        refine wpAnyH_ready (rs := [3]) (by kernel_rfl) (by simp) ?_
        refine' AllReadyH.cons ?ho165x3 (fun KQ hKQ => ?_) AllReadyH.nil
        case ho165x3 => simp only [List.getElem?_toArray, List.getElem?_cons_succ, List.getElem?_cons_zero]; rfl
        go_simp
        refine hKQ.out _ _ (hcs _ _ _ _ _ _ _ hRA) (fun hHeld => ?_)
        clear hKQ KQ
        try simp only [Act.put, List.setIfInBounds_toArray, List.set_cons_zero, List.set_cons_succ]
        refine wpAnyH_ready (rs := [4]) (by kernel_rfl) (by simp) ?_
        refine' AllReadyH.cons ?ho165x4 (fun KQ hKQ => ?_) AllReadyH.nil
        case ho165x4 => simp only [List.getElem?_toArray, List.getElem?_cons_succ, List.getElem?_cons_zero]; rfl
        refine step_app_rows_at lkRT rfl (.tmp 166) (.tmp 168) rfl (O + 1 + 1) (.slice al nl cl) _ K [nk] rfl (by rw [← HNL.out]; exact hRA.own1) rfl (by exact hlx) (by rw [← HNL.out]; simp; omega) (by rw [← HNL.out]; simp; omega) (by exact hRA.base) ?_
        intro v6 w6 hown6 hg6 hat6
        have hl6 : (K ++ [nk]).length = nl + 1 := by rw [List.length_append, ← HNL.out]; rfl
        rw [hl6] at hown6
        have hRB := hRA.appK hown6 hg6 hat6
        obtain ⟨a6, c6, rfl⟩ := owns_shape hown6
        clear hl6
        refine hKQ.out _ _ (hcs _ _ _ _ _ _ _ hRB) (fun hHeld => ?_)
        clear hKQ KQ
        try simp only [Act.put, List.setIfInBounds_toArray, List.set_cons_zero, List.set_cons_succ]
        refine' wpAnyH_take (i := 12) (v := ?v165x12) ?hi165x12 (by kernel_rfl) (by kernel_rfl) (by kernel_rfl) ?hQ165x12 (Or.inl ⟨?hw165x12, ?hy165x12⟩) (by assumption) ?hr165x12
        case hi165x12 => simp only [List.getElem?_toArray, List.getElem?_cons_succ, List.getElem?_cons_zero]; rfl
        case hQ165x12 => exact fun _ _ _ h => h
        case hw165x12 => rfl
        case hy165x12 =>
          intro w hSw; (try dsimp only at hSw)
          go_simp
          try with_reducible rfl
        try simp only [Act.put, List.setIfInBounds_toArray, List.set_cons_zero, List.set_cons_succ]
        refine wpAnyH_ready (rs := [9]) (by kernel_rfl) (by simp) ?_
        refine' AllReadyH.cons ?ho165x9 (fun KQ hKQ => ?_) AllReadyH.nil
        case ho165x9 => simp only [List.getElem?_toArray, List.getElem?_cons_succ, List.getElem?_cons_zero]; rfl
        go_simp
        go_at_call 60
        (with_reducible refine (hst _).mono ?_)
        rintro _ w7 ⟨rfl, hb7⟩
        have hRC := hRB.next hb7
        have hRD := hRC.alloc (.cells #[.int .i64 1, .int .i64 t, .int .i64 (min u v), .int .i64 (max u v), .int .i64 wt, .int .i64 lb, .int .i64 sg] 41)
        have hlc := rows_lit1 (E := encEv) w7 (setEv nk t) 41 #[.int .i64 1, .int .i64 t, .int .i64 (min u v), .int .i64 (max u v), .int .i64 wt, .int .i64 lb, .int .i64 sg] (by rw [← HSC.out]; rfl)
        refine hKQ.out _ _ (hcs _ _ _ _ _ _ _ hRC) (fun hHeld => ?_)
        clear hKQ KQ
        try simp only [Act.put, List.setIfInBounds_toArray, List.set_cons_zero, List.set_cons_succ]
        refine wpAnyH_ready (rs := [10]) (by kernel_rfl) (by simp) ?_
        refine' AllReadyH.cons ?ho165x10 (fun KQ hKQ => ?_) AllReadyH.nil
        case ho165x10 => simp only [List.getElem?_toArray, List.getElem?_cons_succ, List.getElem?_cons_zero]; rfl
        go_simp
        refine hKQ.out _ _ (hcs _ _ _ _ _ _ _ hRD) (fun hHeld => ?_)
        clear hKQ KQ
        try simp only [Act.put, List.setIfInBounds_toArray, List.set_cons_zero, List.set_cons_succ]
        refine wpAnyH_ready (rs := [11]) (by kernel_rfl) (by simp) ?_
        refine' AllReadyH.cons ?ho165x11 (fun KQ hKQ => ?_) AllReadyH.nil
        case ho165x11 => simp only [List.getElem?_toArray, List.getElem?_cons_succ, List.getElem?_cons_zero]; rfl
        refine step_app_rows_at evRT rfl (.tmp 170) (.tmp 175) rfl (O + 1 + 1) (.slice ac nc cc) _ C1 [setEv nk t] rfl (by rw [← HNC1.out]; exact hRD.own2) rfl (by exact hlc) (by rw [← HNC1.out]; simp; omega) (by rw [← HNC1.out]; simp; omega) (by exact hRD.base) ?_
        intro v8 w8 hown8 hg8 hat8
        have hl8 : (C1 ++ [setEv nk t]).length = nc + 1 := by rw [List.length_append, ← HNC1.out]; rfl
        rw [hl8] at hown8
        have hRE := hRD.appC hown8 hg8 hat8
        obtain ⟨a8, c8, rfl⟩ := owns_shape hown8
        clear hl8
        refine hKQ.out _ _ (hcs _ _ _ _ _ _ _ hRE) (fun hHeld => ?_)
        clear hKQ KQ
        try simp only [Act.put, List.setIfInBounds_toArray, List.set_cons_zero, List.set_cons_succ]
        refine wpAnyH_done (by kernel_rfl) ?_ _
        have o8 := hRE.o1
        have f8 := free_blk (j := 1) hRE.o
        have hRF := hRE.put
        refine' lastQ_normal ?hlast165x0 (fun KQ hKQ => ?_)
        case hlast165x0 => simp only [List.getElem?_cons_succ, List.getElem?_cons_zero]; rfl
        go_simp
        refine hKQ.out _ _ ?_
        clear hKQ KQ
        try simp only [Act.put, List.setIfInBounds_toArray, List.set_cons_zero, List.set_cons_succ]
        refine' lastQ_normal ?hlast165x1 (fun KQ hKQ => ?_)
        case hlast165x1 => simp only [List.getElem?_cons_succ, List.getElem?_cons_zero]; rfl
        go_simp
        refine hKQ.out _ _ ?_
        clear hKQ KQ
        try simp only [Act.put, List.setIfInBounds_toArray, List.set_cons_zero, List.set_cons_succ]
        have r0 := cell_blk (j := 0) hRF.r
        have r1 := cell_blk (j := 1) hRF.r
        have g0 := free_blk (j := 0) hRF.r
        have g1 := free_blk (j := 1) hRF.r
        have q0 := cell_blk (j := 0) hRF.o
        have q1 := hRF.o1
        have hend := hRF.out (show _ = _ by rw [List.length_append, ← HNL.out]; rfl) (show _ = _ by rw [List.length_append, ← HNC1.out]; rfl) (by omega) (by omega)
        rw [HRL.out, HRC.out] at hend
        go_wp2_with fail
        have hfin := set_two (u := .int .i64 n) (v := .slice a6 (nl + 1) c6) hRF.r
        have t0 := cell_blk (j := 0) hfin
        have t1 := cell_blk (j := 1) hfin
        exact bodyPost_ret (v := .tuple #[.agg #[.int .i64 n, .slice a6 (nl + 1) c6], .slice a8 (nc + 1) c8, .int .i64 0]) (by simp [results, Tryd.results40, go_sem, t0, t1]) rfl hend
        --DEV>
end Go.Proofs.YtpblaoeaeljmhaaDoor
