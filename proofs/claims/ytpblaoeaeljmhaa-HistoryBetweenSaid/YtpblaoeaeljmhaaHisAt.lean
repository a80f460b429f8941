/- history.At: the state behind all events up to a time. -/
import Derived.Test.YtpblaoeaeljmhaaHisLife
import Derived.Test.YtpblaoeaeljmhaaLkSlices
namespace Go.Proofs.Ytpblaoeaeljmhaa
open Go.RowKit Go.BigFrame
attribute [local go_sem] Oper.semAt_some

/-- the state of the last of some versions -/
def lastL (xs : List (Int × List Lk × Bool)) : List Lk := ((xs.getLast?).map fun x => x.2.1).getD []
theorem lastL_snoc (xs : List (Int × List Lk × Bool)) (x : Int × List Lk × Bool) : lastL (xs ++ [x]) = x.2.1 := by unfold lastL; simp
def atV (time : Int) (xs : List (Int × List Lk × Bool)) : List Lk := lastL (xs.takeWhile fun x => decide (x.1 ≤ time))
theorem atV_all {time : Int} {xs : List (Int × List Lk × Bool)} (h : ∀ x ∈ xs, x.1 ≤ time) : atV time xs = lastL xs := by
  unfold atV
  congr 1
  induction xs with
  | nil => rfl
  | cons x xs ih =>
    rw [List.takeWhile_cons, if_pos (by simpa using h x List.mem_cons_self), ih fun y hy => h y (List.mem_cons_of_mem _ hy)]
theorem atV_stop {time : Int} {xs ys : List (Int × List Lk × Bool)} {x : Int × List Lk × Bool} (h : ∀ y ∈ xs, y.1 ≤ time) (hx : time < x.1) (hp : xs ++ [x] <+: ys) : atV time ys = lastL xs := by
  obtain ⟨zs, rfl⟩ := hp
  unfold atV
  congr 1
  rw [List.append_assoc]
  induction xs with
  | nil => rw [List.nil_append, List.singleton_append, List.takeWhile_cons, if_neg (by simp; omega)]
  | cons y xs ih =>
    rw [List.cons_append, List.takeWhile_cons, if_pos (by simpa using h y List.mem_cons_self), ih fun z hz => h z (List.mem_cons_of_mem _ hz)]
def atX (n : Int) (es : List Ev) (time : Int) : (Int × List Lk) × Int := if hisS n es ≠ 0 then ((0, []), hisS n es) else ((n, atV time (verF [] false es)), 0)
def AtPost (w : World) (r : (Int × List Lk) × Int) (e : Ending) (w' : World) : Prop :=
  ∃ a c, e = .returned (.tuple #[.agg #[.int .i64 r.1.1, .slice a r.1.2.length c], .int .i64 r.2]) ∧ RowAt encLk w' (.slice a r.1.2.length c) r.1.2 ∧ Below w.heap.size w w'
/-- what At holds between two rounds -/
structure AtW (w0 : World) (n time : Int) (es : List Ev) (ae : Option Addr) (ce o : Nat) (L : List Lk) (W : World) : Prop where
  tb : W.heap[w0.heap.size]? = some (.cells #[.int .i64 time] 3 (0, 0))
  rb : W.heap[w0.heap.size + 1]? = some (.cells #[.int .i64 0, .slice none 0 0] 35 (0, 0))
  sb : ∃ va vc, W.heap[o]? = some (.cells #[.int .i64 n, .slice va L.length vc] 35 (0, 0)) ∧ RowAt encLk W (.slice va L.length vc) L ∧ (∀ p, va = some p → o + 6 ≤ p.block)
  bn : W.heap[o + 1]? = some (.cells #[.int .i64 n] 3 (0, 0))
  be : W.heap[o + 2]? = some (.cells #[.slice ae es.length ce] 26 (0, 0))
  below : Below w0.heap.size w0 W
  lt : w0.heap.size + 2 ≤ o
  small : L.length ≤ 4096
theorem AtW.grown {w0 : World} {n time : Int} {es : List Ev} {ae : Option Addr} {ce o : Nat} {L : List Lk} {A B : World} {row : Option Nat} (h : AtW w0 n time es ae ce o L A) (hg : A.grownBy B row) (hr : ∀ r, row = some r → o + 3 ≤ r ∧ r ≤ o + 5) : AtW w0 n time es ae ce o L B := by
  have hlt := h.lt
  have hne : ∀ k, k ≤ o + 2 → some k ≠ row := fun k hk e => by have := hr k e.symm; omega
  obtain ⟨va, vc, h1, h2, h3⟩ := h.sb
  exact ⟨grown_blk hg h.tb (hne _ (by omega)), grown_blk hg h.rb (hne _ (by omega)), ⟨va, vc, grown_blk hg h1 (hne _ (by omega)), h2.grown hg (fun g e n' c p hp => by have := h3 p (Value.slice.inj hp).1; have := hr g e; omega), h3⟩, grown_blk hg h.bn (hne _ (by omega)), grown_blk hg h.be (hne _ (by omega)), h.below.grown hg h.below.size (fun k e => by have := hr k e; omega), hlt, h.small⟩
set_option maxRecDepth 100000 in
set_option maxHeartbeats 6400000 in
theorem at_any (n : Int) (es : List Ev) (time : Int) (a : Option Addr) (cap : Nat) (w : World) (hes : RowAt encEv w (.slice a es.length cap) es) :
    Calls Try.prog 12 #[.int .i64 n, .slice a es.length cap, .int .i64 time] w (AtPost w (atX n es time)) := by
  have hck := fun W h => hcheck_any n es a cap W h
  have hok := fun h => his_ok (n := n) (es := es) h
  have hb1 := (Below.refl w.heap.size w).alloc (Nat.le_refl _) (.cells #[.int .i64 time] 3)
  have hb2 := (Below.refl _ (w.alloc (.cells #[.int .i64 time] 3))).alloc (Nat.le_refl _) (.cells #[.int .i64 0, .slice none 0 0] 35)
  have hT := lk_next hb2 (heap_alloc_new w (.cells #[.int .i64 time] 3))
  have hR := heap_alloc_new (w.alloc (.cells #[.int .i64 time] 3)) (.cells #[.int .i64 0, .slice none 0 0] 35)
  have hz1 : (w.alloc (.cells #[.int .i64 time] 3)).heap.size = w.heap.size + 1 := by simp
  rw [hz1] at hR
  have hbw := hb1.trans (hb2.mono hb1.size)
  have hck2 := hck _ (hes.below hbw)
  unfold AtPost atX
  obtain ⟨Z, hZ⟩ : ∃ Z, hisS n es = Z := ⟨_, rfl⟩
  rw [hZ] at hck2 hok ⊢
  clear hZ hck hb1 hb2 hz1
  by_cases h0 : Z = 0
  case neg =>
    have d1 : (Z != 0) = true := by simpa using h0
    rw [if_pos h0]
    clear hok h0
    dsimp only
    refine (callsIn_wide (n := 6)).1 (callsIn_of_wp_marks Try.func12 rfl trivial (wpIn_wide.2 ?_))
    simp only [Try.ntmps12, List.size_toArray, List.length_cons, List.length_nil, Nat.reduceAdd, Nat.reduceSub, Array.replicate_succ, Array.replicate_zero, List.push_toArray, List.append_toArray, List.nil_append, List.cons_append]
    go_wp2_with fail
    refine hck2.mono ?_
    rintro _ w1 ⟨rfl, hbe⟩
    have hR1 := lk_next hbe hR
    have r0 := cell_blk (j := 0) hR1
    have r1 := cell_blk (j := 1) hR1
    have g0 := free_blk (j := 0) hR1
    have g1 := free_blk (j := 1) hR1
    have hbw1 := hbw.trans (hbe.mono hbw.size)
    go_wp2_with fail
    have hfin := set_two (u := .int .i64 0) (v := .slice none 0 0) hR1
    have t0 := cell_blk (j := 0) hfin
    have t1 := cell_blk (j := 1) hfin
    exact ⟨.tuple #[.agg #[.int .i64 0, .slice none 0 0], .int .i64 Z], by simp [results, Try.results12, go_sem, t0, t1], none, 0, rfl, RowAt.nil _, hbw1.grown (grown_trans grown_lk grown_lk) hbw1.size (fun k e => by cases e; omega)⟩
  obtain ⟨hn0, hn1, hel, hfit⟩ := hok h0
  subst h0
  rw [if_neg (by simp)]
  dsimp only
  obtain ⟨RL, hRL⟩ : ∃ s, atV time (verF [] false es) = s := ⟨_, rfl⟩
  rw [hRL]
  have HRL := Lib.hid hRL
  clear hRL hok
  refine (callsIn_wide (n := 6)).1 (callsIn_of_wp_marks Try.func12 rfl trivial (wpIn_wide.2 ?_))
  simp only [Try.ntmps12, List.size_toArray, List.length_cons, List.length_nil, Nat.reduceAdd, Nat.reduceSub, Array.replicate_succ, Array.replicate_zero, List.push_toArray, List.append_toArray, List.nil_append, List.cons_append]
  go_wp2_with fail
  refine hck2.mono ?_
  rintro _ w1 ⟨rfl, hbe⟩
  have hbw1 := hbw.trans (hbe.mono hbw.size)
  have hT1 := lk_next hbe hT
  have hR1 := lk_next hbe hR
  have hlt := blk_lt hR1
  clear hck2 hbw hT hR hbe
  go_wp2_with fail
  refine (hversions_any n a es.length cap _).mono ?_
  rintro _ w2 ⟨rfl, rfl⟩
  go_wp2_with fail
  have hO0 := heap_alloc_new w1 (.cells #[.int .i64 n, .slice none 0 0] 35)
  have g0 := World.grownBy_alloc w1 (.cells #[.int .i64 n, .slice none 0 0] 35) none
  have hN0 := heap_alloc_new (w1.alloc (.cells #[.int .i64 n, .slice none 0 0] 35)) (.cells #[.int .i64 n] 3)
  have g1 := World.grownBy_alloc (w1.alloc (.cells #[.int .i64 n, .slice none 0 0] 35)) (.cells #[.int .i64 n] 3) none
  have hL0 := heap_alloc_new ((w1.alloc (.cells #[.int .i64 n, .slice none 0 0] 35)).alloc (.cells #[.int .i64 n] 3)) (.cells #[.slice a es.length cap] 26)
  have g2 := World.grownBy_alloc ((w1.alloc (.cells #[.int .i64 n, .slice none 0 0] 35)).alloc (.cells #[.int .i64 n] 3)) (.cells #[.slice a es.length cap] 26) none
  have k1 : (w1.alloc (.cells #[.int .i64 n, .slice none 0 0] 35)).heap.size = w1.heap.size + 1 := by simp
  have k2 : ((w1.alloc (.cells #[.int .i64 n, .slice none 0 0] 35)).alloc (.cells #[.int .i64 n] 3)).heap.size = w1.heap.size + 2 := by simp
  have k4 : (((w1.alloc (.cells #[.int .i64 n, .slice none 0 0] 35)).alloc (.cells #[.int .i64 n] 3)).alloc (.cells #[.slice a es.length cap] 26)).heap.size = w1.heap.size + 3 := by simp
  rw [k1] at hN0
  rw [k2] at hL0
  have g12 := grown_trans g1 g2
  have g02 := grown_trans g0 g12
  have h0 : AtW w n time es a cap w1.heap.size [] (((w1.alloc (.cells #[.int .i64 n, .slice none 0 0] 35)).alloc (.cells #[.int .i64 n] 3)).alloc (.cells #[.slice a es.length cap] 26)) :=
    ⟨grown_blk g02 hT1 (by simp), grown_blk g02 hR1 (by simp), ⟨none, 0, grown_blk g12 hO0 (by simp), RowAt.nil _, fun p h => by cases h⟩, grown_blk g2 hN0 (by simp), hL0, hbw1.grown g02 hbw1.size (fun k e => by cases e), hlt, Nat.zero_le _⟩
  obtain ⟨WL, hWL⟩ : ∃ W : World, ((w1.alloc (.cells #[.int .i64 n, .slice none 0 0] 35)).alloc (.cells #[.int .i64 n] 3)).alloc (.cells #[.slice a es.length cap] 26) = W := ⟨_, rfl⟩
  obtain ⟨o, hoo⟩ : ∃ o, w1.heap.size = o := ⟨_, rfl⟩
  rw [hWL] at h0 k4 ⊢
  rw [hoo] at h0 k4 hlt
  try rw [hoo]
  clear g0 g1 g2 g12 g02 hO0 hN0 hL0 k1 k2 hWL hoo hT1 hR1 hbw1
  refine (wpIn_wide (n := 6)).1 ?_
  refine wp_range_own (gf := 46) (lb := #[.pointer (some ⟨o + 1, 0, none⟩), .pointer (some ⟨o + 2, 0, none⟩)]) rfl (enters_of Try.func46 (by kernel_rfl) rfl) (encs := verEnc n) (St := VerSt n (o + 3)) (sbk := Ver.blk) (E := VerE n es (o + 1) (o + 2) a cap) (S := fun xs => xs.map Ver.word = verF [] false es) (Sp := fun pre => pre.map Ver.word <+: verF [] false es)
    (fun _ => rfl) (by rw [k4]; exact versions1_own n es (o + 1) (o + 2) a cap (o + 3) hn0 hn1 hfit) (fun pre _ W => (∀ x ∈ pre.map Ver.word, x.1 ≤ time) ∧ AtW w n time es a cap o (lastL (pre.map Ver.word)) W) (fun c pre W => ∃ id pre0 x, c = .exit id ∧ id = 0 ∧ pre = pre0 ++ [x] ∧ (∀ x ∈ pre0.map Ver.word, x.1 ≤ time) ∧ time < x.t ∧ AtW w n time es a cap o (lastL (pre0.map Ver.word)) W)
    (fun pre sb A B row h hg hr => ⟨h.1, h.2.grown hg (fun r e => by have := hr r e; omega)⟩) (fun pre sb sb' A h hk => h) (fun pre sb A h => ⟨h.2.bn, h.2.be, hes.below h.2.below⟩)
    (fun c pre A B row h hg hr => by obtain ⟨id, pre0, x, h1, h1', h2, h3, h4, h5⟩ := h; exact ⟨id, pre0, x, h1, h1', h2, h3, h4, h5.grown hg (fun r e => by have := hr r e; omega)⟩)
    (fun x A B row h hg hr => ⟨h.1.grown hg (fun g e n' c p hp => by have := h.2.1 p (Value.slice.inj hp).1; have := hr g e; omega), h.2⟩) ⟨by simp, h0⟩ ?round ?done ?stop
  case round =>
    intro l pre x W K hi hst hsp hsz hK
    rw [k4] at hsz
    unfold verEnc
    gi_wp2
    refine hK _ _ (KeepBk.grown (World.grownBy_alloc W _ none) (by rw [k4]; exact hsz) (by simp)) (fun W2 hg2 => ?_)
    rw [k4] at hg2 ⊢
    clear hK
    obtain ⟨hall, hi⟩ := hi
    have hga := World.grownBy_alloc W (.cells #[.int .i64 n, .slice x.a x.ls.length x.c, .bool x.ch] 71) (some (o + 3 + 1))
    have hgr := grown_trans hga hg2
    have hX := grown_blk hg2 (heap_alloc_new W (.cells #[.int .i64 n, .slice x.a x.ls.length x.c, .bool x.ch] 71)) (by intro e; have := Option.some.inj e; omega)
    have hi2 := hi.grown hgr (fun r e => by cases e; omega)
    have hr2 := hst.1.grown hgr (fun g e n' c p hp => by cases e; have := hst.2.1 p (Value.slice.inj hp).1; omega)
    have t0 := cell_blk (j := 0) hi2.tb
    have x0 := cell_blk (j := 0) hX
    have x1 := cell_blk (j := 1) hX
    obtain ⟨va, vc, hO, hro, hbo⟩ := hi2.sb
    have o0 := cell_blk (j := 0) hO
    have o1 := cell_blk (j := 1) hO
    have f0 := free_blk (j := 0) hO
    have f1 := free_blk (j := 1) hO
    clear hga hg2 hgr hi hX
    have hall' := Lib.hid hall
    clear hall
    by_cases htm : time < x.t
    · have hgt : decide (x.t > time) = true := decide_eq_true htm
      gi_wp2
      exact ⟨KeepBk.refl _ _, 0, pre, x, rfl, rfl, rfl, hall'.out, htm, hi2⟩
    · have hgt : decide (x.t > time) = false := decide_eq_false htm
      have hgr : W2.grownBy ((W2.setCell ⟨o, 0, none⟩ (.int .i64 n)).setCell ⟨o, 1, none⟩ (.slice x.a x.ls.length x.c)) (some o) := grown_trans grown_lk grown_lk
      have hr3 := hr2.grown hgr (fun g e n' c p hp => by cases e; have := hst.2.1 p (Value.slice.inj hp).1; omega)
      have hne : ∀ k, k ≠ o → some k ≠ some o := fun k hk e => hk (Option.some.inj e)
      have hlt2 := hi2.lt
      have hW3 : AtW w n time es a cap o x.ls ((W2.setCell ⟨o, 0, none⟩ (.int .i64 n)).setCell ⟨o, 1, none⟩ (.slice x.a x.ls.length x.c)) :=
        ⟨grown_blk hgr hi2.tb (hne _ (by omega)), grown_blk hgr hi2.rb (hne _ (by omega)), ⟨x.a, x.c, set_two hO, hr3, hst.2.1⟩, grown_blk hgr hi2.bn (hne _ (by omega)), grown_blk hgr hi2.be (hne _ (by omega)), hi2.below.grown hgr hi2.below.size (fun k e => by cases e; omega), hlt2, hst.2.2.length_le⟩
      have HW := Lib.hid hW3
      have HR3 := Lib.hid hr3
      clear hW3 hr3 hgr hro hr2
      gi_wp2
      refine ⟨⟨by simp, fun k h1 h2 => (Below.heap_setCell _ ⟨o, 1, none⟩ _ k (by show k ≠ o; omega)).trans (Below.heap_setCell _ ⟨o, 0, none⟩ _ k (by show k ≠ o; omega))⟩, ⟨HR3.out, hst.2⟩, ?_, ?_⟩
      · intro y hy
        rcases List.mem_append.1 hy with hy | hy
        · exact hall'.out _ (List.mem_map_of_mem hy)
        · obtain rfl : y = x := by simpa using hy
          show y.t ≤ time
          omega
      · rw [List.map_append, List.map_cons, List.map_nil, lastL_snoc]
        exact HW.out
  case stop =>
    rintro D c pre W hD hsp ⟨id, pre0, x, rfl, rfl, rfl, hall, hx, hI⟩ hK
    rw [k4] at hD
    have hres : lastL (pre0.map Ver.word) = RL := by
      rw [← HRL.out]
      refine (atV_stop hall (x := x.word) hx ?_).symm
      simpa using hsp
    rw [hres] at hI
    subst hD
    obtain ⟨va, vc, hO, hro, -⟩ := hI.sb
    have hsm := hI.small
    have hlt2 := hI.lt
    have o0 := cell_blk (j := 0) hO
    have o1 := cell_blk (j := 1) hO
    gi_wp2
    go_wp2_with fail
    refine (lkclone_any _ RL _ hro (by omega)).mono ?_
    rintro _ w5 ⟨x6, rfl, hown6, hb5⟩
    obtain ⟨a5, c5, rfl⟩ := owns_shape hown6
    obtain ⟨_, _, hv', hr5, hp5⟩ := RowAt.of_owns hown6 (by omega)
    obtain ⟨rfl, -, rfl⟩ := Value.slice.inj hv'
    have hI5 := hI.grown (Below.toGrown hb5) (by simp)
    have hK5 := lk_next hb5 hK
    have hO5 := lk_next hb5 hO
    have hR5 := hI5.rb
    have hbW := blk_lt hK
    have y0 := cell_blk (j := 0) hO5
    have y1 := cell_blk (j := 1) hO5
    have yf := free_blk (j := 1) hO5
    have r0 := cell_blk (j := 0) hR5
    have r1 := cell_blk (j := 1) hR5
    have g0 := free_blk (j := 0) hR5
    have g1 := free_blk (j := 1) hR5
    have hR6 := (Below.heap_setCell w5 ⟨o, 1, none⟩ (.slice a5 RL.length c5) (w.heap.size + 1) (by show w.heap.size + 1 ≠ o; omega)).trans hR5
    have HR6 := Lib.hid hR6
    have hbe := hI5.below
    clear o0 o1 hro hI hI5 hO hown6 hv' hR6
    go_wp2_with fail
    have hR7 := set_two (u := .int .i64 n) (v := .slice a5 RL.length c5) HR6.out
    have ga : w5.grownBy (w5.setCell ⟨o, 1, none⟩ (.slice a5 RL.length c5)) (some o) := grown_lk
    have gb : (w5.setCell ⟨o, 1, none⟩ (.slice a5 RL.length c5)).grownBy (((w5.setCell ⟨o, 1, none⟩ (.slice a5 RL.length c5)).setCell ⟨w.heap.size + 1, 0, none⟩ (.int .i64 n)).setCell ⟨w.heap.size + 1, 1, none⟩ (.slice a5 RL.length c5)) (some (w.heap.size + 1)) := grown_trans grown_lk grown_lk
    have hK7 := grown_blk gb (grown_blk ga hK5 (by intro e; have := Option.some.inj e; omega)) (by intro e; have := Option.some.inj e; omega)
    have gc := grownBy_putObj' (((w5.setCell ⟨o, 1, none⟩ (.slice a5 RL.length c5)).setCell ⟨w.heap.size + 1, 0, none⟩ (.int .i64 n)).setCell ⟨w.heap.size + 1, 1, none⟩ (.slice a5 RL.length c5)) (o + 3) (.deferred none)
    have hR8 := grown_blk gc hR7 (by intro e; have := Option.some.inj e; omega)
    have t0 := cell_blk (j := 0) hR8
    have t1 := cell_blk (j := 1) hR8
    have hsz := hb5.size
    refine ⟨by simp, .inl ⟨_, _, rfl, run_takeDeferred hK7, ?_⟩⟩
    exact ⟨.tuple #[.agg #[.int .i64 n, .slice a5 RL.length c5], .int .i64 0], by simp [results, Try.results12, go_sem, t0, t1], a5, c5, rfl,
      ((hr5.grown ga (fun g e n' c p hp => by cases e; have := hp5 p (Value.slice.inj hp).1; omega)).grown gb (fun g e n' c p hp => by cases e; have := hp5 p (Value.slice.inj hp).1; omega)).grown gc (fun g e n' c p hp => by cases e; have := hp5 p (Value.slice.inj hp).1; omega),
      ((hbe.grown ga hbe.size (fun k e => by cases e; omega)).grown gb (Nat.le_trans hbe.size ga.size) (fun k e => by cases e; omega)).grown gc (Nat.le_trans hbe.size (Nat.le_trans ga.size gb.size)) (fun k e => by cases e; omega)⟩
  case done =>
    rintro D xs sb W hD hS ⟨hall, hI⟩ hK
    rw [k4] at hD
    rw [hS] at hall hI
    have hres : lastL (verF [] false es) = RL := by rw [← HRL.out]; exact (atV_all hall).symm
    rw [hres] at hI
    subst hD
    obtain ⟨va, vc, hO, hro, -⟩ := hI.sb
    have hsm := hI.small
    have hlt2 := hI.lt
    have o0 := cell_blk (j := 0) hO
    have o1 := cell_blk (j := 1) hO
    go_wp2_with fail
    refine (lkclone_any _ RL _ hro (by omega)).mono ?_
    rintro _ w5 ⟨x6, rfl, hown6, hb5⟩
    obtain ⟨a5, c5, rfl⟩ := owns_shape hown6
    obtain ⟨_, _, hv', hr5, hp5⟩ := RowAt.of_owns hown6 (by omega)
    obtain ⟨rfl, -, rfl⟩ := Value.slice.inj hv'
    have hI5 := hI.grown (Below.toGrown hb5) (by simp)
    have hK5 := lk_next hb5 hK
    have hO5 := lk_next hb5 hO
    have hR5 := hI5.rb
    have hbW := blk_lt hK
    have y0 := cell_blk (j := 0) hO5
    have y1 := cell_blk (j := 1) hO5
    have yf := free_blk (j := 1) hO5
    have r0 := cell_blk (j := 0) hR5
    have r1 := cell_blk (j := 1) hR5
    have g0 := free_blk (j := 0) hR5
    have g1 := free_blk (j := 1) hR5
    have hR6 := (Below.heap_setCell w5 ⟨o, 1, none⟩ (.slice a5 RL.length c5) (w.heap.size + 1) (by show w.heap.size + 1 ≠ o; omega)).trans hR5
    have HR6 := Lib.hid hR6
    have hbe := hI5.below
    clear o0 o1 hro hI hI5 hO hown6 hv' hR6
    go_wp2_with fail
    have hR7 := set_two (u := .int .i64 n) (v := .slice a5 RL.length c5) HR6.out
    have ga : w5.grownBy (w5.setCell ⟨o, 1, none⟩ (.slice a5 RL.length c5)) (some o) := grown_lk
    have gb : (w5.setCell ⟨o, 1, none⟩ (.slice a5 RL.length c5)).grownBy (((w5.setCell ⟨o, 1, none⟩ (.slice a5 RL.length c5)).setCell ⟨w.heap.size + 1, 0, none⟩ (.int .i64 n)).setCell ⟨w.heap.size + 1, 1, none⟩ (.slice a5 RL.length c5)) (some (w.heap.size + 1)) := grown_trans grown_lk grown_lk
    have hK7 := grown_blk gb (grown_blk ga hK5 (by intro e; have := Option.some.inj e; omega)) (by intro e; have := Option.some.inj e; omega)
    have gc := grownBy_putObj' (((w5.setCell ⟨o, 1, none⟩ (.slice a5 RL.length c5)).setCell ⟨w.heap.size + 1, 0, none⟩ (.int .i64 n)).setCell ⟨w.heap.size + 1, 1, none⟩ (.slice a5 RL.length c5)) (o + 3) (.deferred none)
    have hR8 := grown_blk gc hR7 (by intro e; have := Option.some.inj e; omega)
    have t0 := cell_blk (j := 0) hR8
    have t1 := cell_blk (j := 1) hR8
    have hsz := hb5.size
    refine ⟨by simp, .inl ⟨_, _, rfl, run_takeDeferred hK7, ?_⟩⟩
    exact ⟨.tuple #[.agg #[.int .i64 n, .slice a5 RL.length c5], .int .i64 0], by simp [results, Try.results12, go_sem, t0, t1], a5, c5, rfl,
      ((hr5.grown ga (fun g e n' c p hp => by cases e; have := hp5 p (Value.slice.inj hp).1; omega)).grown gb (fun g e n' c p hp => by cases e; have := hp5 p (Value.slice.inj hp).1; omega)).grown gc (fun g e n' c p hp => by cases e; have := hp5 p (Value.slice.inj hp).1; omega),
      ((hbe.grown ga hbe.size (fun k e => by cases e; omega)).grown gb (Nat.le_trans hbe.size ga.size) (fun k e => by cases e; omega)).grown gc (Nat.le_trans hbe.size (Nat.le_trans ga.size gb.size)) (fun k e => by cases e; omega)⟩
end Go.Proofs.Ytpblaoeaeljmhaa
