/- history.Times: the times at which something changed; history.First. -/
import Derived.Test.YtpblaoeaeljmhaaHisLife
namespace Go.Proofs.Ytpblaoeaeljmhaa
open Go.RowKit Go.BigFrame
attribute [local go_sem] Oper.semAt_some

def encI1 : Enc Int := ⟨1, fun x => [.int .i64 x], fun _ => rfl, fun e u hu => by simp at hu; subst hu; rfl, by decide⟩
theorem i1RT : SliceT Try.prog 22 3 (.int .i64 0) encI1.k 8 := ⟨Try.underlying22, by kernel_rfl, rfl, by decide⟩
theorem flat_ints (xs : List Int) : flatR encI1 xs = intsV xs := by
  induction xs with
  | nil => rfl
  | cons x xs ih => rw [flatR_cons, ih]; rfl
/-- the times of changes -/
def timesF (xs : List (Int × List Lk × Bool)) : List Int := (xs.filter fun x => x.2.2).map fun x => x.1
theorem timesF_snoc (xs : List (Int × List Lk × Bool)) (x : Int × List Lk × Bool) : timesF (xs ++ [x]) = if x.2.2 = true then timesF xs ++ [x.1] else timesF xs := by
  unfold timesF
  rw [List.filter_append, List.map_append]
  cases h : x.2.2 <;> simp [h]
theorem timesF_len (xs : List (Int × List Lk × Bool)) : (timesF xs).length ≤ xs.length := by unfold timesF; rw [List.length_map]; exact List.length_filter_le _ _
def timesX (n : Int) (es : List Ev) : List Int × Int := if hisS n es ≠ 0 then ([], hisS n es) else (timesF (verF [] false es), 0)
def TimesPost (w : World) (r : List Int × Int) (e : Ending) (w' : World) : Prop :=
  ∃ a c, e = .returned (.tuple #[.slice a r.1.length c, .int .i64 r.2]) ∧ IntsAt w' (.slice a r.1.length c) r.1 ∧ Below w.heap.size w w'
/-- what Times holds between two rounds -/
structure TmW (w0 : World) (n : Int) (es : List Ev) (ae : Option Addr) (ce o : Nat) (os : List Int) (sb : Option Nat) (W : World) : Prop where
  out : ∃ va vc, W.heap[o]? = some (.cells #[.slice va os.length vc] 22 (0, 0)) ∧ W.ownsRow (o + 6) 3 encI1.k (.slice va os.length vc) os.length (flatR encI1 os) ∧ ((Value.slice va os.length vc).ownBlock = none ∨ (Value.slice va os.length vc).ownBlock ≠ sb)
  bn : W.heap[o + 1]? = some (.cells #[.int .i64 n] 3 (0, 0))
  be : W.heap[o + 2]? = some (.cells #[.slice ae es.length ce] 26 (0, 0))
  below : Below w0.heap.size w0 W
  lt : w0.heap.size ≤ o
theorem TmW.grown {w0 : World} {n : Int} {es : List Ev} {ae : Option Addr} {ce o : Nat} {os : List Int} {sb : Option Nat} {A B : World} {row : Option Nat} (h : TmW w0 n es ae ce o os sb A) (hg : A.grownBy B row) (hr : ∀ r, row = some r → o + 3 ≤ r ∧ r ≤ o + 5) : TmW w0 n es ae ce o os sb B := by
  have hlt := h.lt
  have hne : ∀ k, k ≤ o + 2 → some k ≠ row := fun k hk e => by have := hr k e.symm; omega
  obtain ⟨va, vc, h1, h2, h3⟩ := h.out
  refine ⟨⟨va, vc, grown_blk hg h1 (hne _ (by omega)), h2.kept hg ?_, h3⟩, grown_blk hg h.bn (hne _ (by omega)), grown_blk hg h.be (hne _ (by omega)), h.below.grown hg h.below.size (fun k e => by have := hr k e; omega), hlt⟩
  cases hk : (Value.slice va os.length vc).ownBlock with
  | none => exact .inl rfl
  | some k => exact .inr (fun e => by have := (h2.lt k hk).1; have := hr k e.symm; omega)
theorem TmW.fresh {w0 : World} {n : Int} {es : List Ev} {ae : Option Addr} {ce o : Nat} {os : List Int} {sb sb' : Option Nat} {A : World} (h : TmW w0 n es ae ce o os sb A) (hk : ∀ k, sb' = some k → A.heap.size ≤ k) : TmW w0 n es ae ce o os sb' A := by
  obtain ⟨va, vc, h1, h2, h3⟩ := h.out
  refine ⟨⟨va, vc, h1, h2, ?_⟩, h.bn, h.be, h.below, h.lt⟩
  cases hq : (Value.slice va os.length vc).ownBlock with
  | none => exact .inl rfl
  | some k => exact .inr (fun e => by have := (h2.lt k hq).2; have := hk k e.symm; omega)
set_option maxRecDepth 100000 in
set_option maxHeartbeats 6400000 in
theorem times_any (n : Int) (es : List Ev) (a : Option Addr) (cap : Nat) (w : World) (hes : RowAt encEv w (.slice a es.length cap) es) :
    Calls Try.prog 20 #[.int .i64 n, .slice a es.length cap] w (TimesPost w (timesX n es)) := by
  have hck2 := hcheck_any n es a cap w hes
  have hok := fun h => his_ok (n := n) (es := es) h
  unfold TimesPost timesX
  obtain ⟨Z, hZ⟩ : ∃ Z, hisS n es = Z := ⟨_, rfl⟩
  rw [hZ] at hck2 hok ⊢
  clear hZ
  by_cases h0 : Z = 0
  case neg =>
    have d1 : (Z != 0) = true := by simpa using h0
    rw [if_pos h0]
    clear hok h0
    dsimp only
    refine (callsIn_wide (n := 6)).1 (callsIn_of_wp_marks Try.func20 rfl trivial (wpIn_wide.2 ?_))
    simp only [Try.ntmps20, List.size_toArray, List.length_cons, List.length_nil, Nat.reduceAdd, Nat.reduceSub, Array.replicate_succ, Array.replicate_zero, List.push_toArray, List.append_toArray, List.nil_append, List.cons_append]
    go_wp2_with fail
    refine hck2.mono ?_
    rintro _ w1 ⟨rfl, hbe⟩
    go_wp2_with fail
    exact ⟨.tuple #[.slice none 0 0, .int .i64 Z], by simp [results, Try.results20, go_sem], none, 0, rfl, IntsAt.empty none 0 (fun _ => rfl), hbe⟩
  obtain ⟨hn0, hn1, hel, hfit⟩ := hok h0
  subst h0
  rw [if_neg (by simp)]
  dsimp only
  obtain ⟨RL, hRL⟩ : ∃ s, timesF (verF [] false es) = s := ⟨_, rfl⟩
  rw [hRL]
  have HRL := Lib.hid hRL
  clear hRL hok
  refine (callsIn_wide (n := 6)).1 (callsIn_of_wp_marks Try.func20 rfl trivial (wpIn_wide.2 ?_))
  simp only [Try.ntmps20, List.size_toArray, List.length_cons, List.length_nil, Nat.reduceAdd, Nat.reduceSub, Array.replicate_succ, Array.replicate_zero, List.push_toArray, List.append_toArray, List.nil_append, List.cons_append]
  go_wp2_with fail
  refine hck2.mono ?_
  rintro _ w1 ⟨rfl, hbe⟩
  have hlt := hbe.size
  clear hck2
  go_wp2_with fail
  refine (hversions_any n a es.length cap _).mono ?_
  rintro _ w2 ⟨rfl, rfl⟩
  go_wp2_with fail
  have hO0 := heap_alloc_new w1 (.cells #[.slice none 0 0] 22)
  have g0 := World.grownBy_alloc w1 (.cells #[.slice none 0 0] 22) none
  have hN0 := heap_alloc_new (w1.alloc (.cells #[.slice none 0 0] 22)) (.cells #[.int .i64 n] 3)
  have g1 := World.grownBy_alloc (w1.alloc (.cells #[.slice none 0 0] 22)) (.cells #[.int .i64 n] 3) none
  have hL0 := heap_alloc_new ((w1.alloc (.cells #[.slice none 0 0] 22)).alloc (.cells #[.int .i64 n] 3)) (.cells #[.slice a es.length cap] 26)
  have g2 := World.grownBy_alloc ((w1.alloc (.cells #[.slice none 0 0] 22)).alloc (.cells #[.int .i64 n] 3)) (.cells #[.slice a es.length cap] 26) none
  have k1 : (w1.alloc (.cells #[.slice none 0 0] 22)).heap.size = w1.heap.size + 1 := by simp
  have k2 : ((w1.alloc (.cells #[.slice none 0 0] 22)).alloc (.cells #[.int .i64 n] 3)).heap.size = w1.heap.size + 2 := by simp
  have k4 : (((w1.alloc (.cells #[.slice none 0 0] 22)).alloc (.cells #[.int .i64 n] 3)).alloc (.cells #[.slice a es.length cap] 26)).heap.size = w1.heap.size + 3 := by simp
  rw [k1] at hN0
  rw [k2] at hL0
  have g12 := grown_trans g1 g2
  have g02 := grown_trans g0 g12
  have h0 : TmW w n es a cap w1.heap.size [] none (((w1.alloc (.cells #[.slice none 0 0] 22)).alloc (.cells #[.int .i64 n] 3)).alloc (.cells #[.slice a es.length cap] 26)) :=
    ⟨⟨none, 0, grown_blk g12 hO0 (by simp), World.ownsRow_nil _ _ _ _, .inl rfl⟩, grown_blk g2 hN0 (by simp), hL0, hbe.grown g02 hbe.size (fun k e => by cases e), hlt⟩
  obtain ⟨WL, hWL⟩ : ∃ W : World, ((w1.alloc (.cells #[.slice none 0 0] 22)).alloc (.cells #[.int .i64 n] 3)).alloc (.cells #[.slice a es.length cap] 26) = W := ⟨_, rfl⟩
  obtain ⟨o, hoo⟩ : ∃ o, w1.heap.size = o := ⟨_, rfl⟩
  rw [hWL] at h0 k4 ⊢
  rw [hoo] at h0 k4 hlt
  try rw [hoo]
  clear g0 g1 g2 g12 g02 hO0 hN0 hL0 k1 k2 hWL hoo hbe
  refine (wpIn_wide (n := 6)).1 ?_
  refine wp_range_own (gf := 46) (lb := #[.pointer (some ⟨o + 1, 0, none⟩), .pointer (some ⟨o + 2, 0, none⟩)]) rfl (enters_of Try.func46 (by kernel_rfl) rfl) (encs := verEnc n) (St := VerSt n (o + 3)) (sbk := Ver.blk) (E := VerE n es (o + 1) (o + 2) a cap) (S := fun xs => xs.map Ver.word = verF [] false es) (Sp := fun pre => pre.map Ver.word <+: verF [] false es)
    (fun _ => rfl) (by rw [k4]; exact versions1_own n es (o + 1) (o + 2) a cap (o + 3) hn0 hn1 hfit) (fun pre sb W => TmW w n es a cap o (timesF (pre.map Ver.word)) sb W) (fun _ _ _ => False)
    (fun pre sb A B row h hg hr => h.grown hg (fun r e => by have := hr r e; omega)) (fun pre sb sb' A h hk => h.fresh hk) (fun pre sb A h => ⟨h.bn, h.be, hes.below h.below⟩) (fun _ _ _ _ _ h _ _ => h)
    (fun x A B row h hg hr => ⟨h.1.grown hg (fun g e n' c p hp => by have := h.2.1 p (Value.slice.inj hp).1; have := hr g e; omega), h.2⟩) h0 ?round ?done ?stop
  case stop => intro D c pre W hD hsp h _; exact h.elim
  case done =>
    rintro D xs sb W hD hS hI hK
    rw [k4] at hD
    subst hD
    rw [hS, HRL.out] at hI
    obtain ⟨va, vc, hO, hown, -⟩ := hI.out
    have hbe := hI.below
    have hle := timesF_len (verF [] false es)
    have hvl := verF_len es [] false
    rw [HRL.out] at hle
    have q0 := cell_blk (j := 0) hO
    clear hI hS
    go_wp2_with fail
    have hgr := grownBy_putObj' W (o + 3) (.deferred none)
    have hown2 := hown.kept hgr (by
      cases hq : (Value.slice va RL.length vc).ownBlock with
      | none => exact .inl rfl
      | some k => exact .inr (fun e => by have := (hown.lt k hq).1; have := Option.some.inj e; omega))
    rw [flat_ints] at hown2
    obtain ⟨_, _, hvv, hro, -⟩ := IntsAt.of_owns hown2 (by omega)
    obtain ⟨rfl, -, rfl⟩ := Value.slice.inj hvv
    refine ⟨by simp, .inl ⟨_, _, rfl, run_takeDeferred hK, ?_⟩⟩
    exact ⟨.tuple #[.slice va RL.length vc, .int .i64 0], by simp [results, Try.results20, go_sem], va, vc, rfl, hro, hbe.grown hgr hbe.size (fun k e => by cases e; omega)⟩
  case round =>
    intro l pre x W K hi hst hsp hsz hK
    rw [k4] at hsz
    unfold verEnc
    gi_wp2
    refine hK _ _ (KeepBk.grown (World.grownBy_alloc W _ none) (by rw [k4]; exact hsz) (by simp)) (fun W2 hg2 => ?_)
    rw [k4] at hg2 ⊢
    clear hK
    have hga := World.grownBy_alloc W (.cells #[.int .i64 n, .slice x.a x.ls.length x.c, .bool x.ch] 71) (some (o + 3 + 1))
    have hgr := grown_trans hga hg2
    have hX := grown_blk hg2 (heap_alloc_new W (.cells #[.int .i64 n, .slice x.a x.ls.length x.c, .bool x.ch] 71)) (by intro e; have := Option.some.inj e; omega)
    have hi2 := hi.grown hgr (fun r e => by cases e; omega)
    have hr2 := hst.1.grown hgr (fun g e n' c p hp => by cases e; have := hst.2.1 p (Value.slice.inj hp).1; omega)
    have x2 := cell_blk (j := 2) hX
    have hz3 : o + 6 ≤ W2.heap.size := by have := blk_lt hX; have := hg2.size; simp at this; omega
    have hpl := hsp.length_le
    rw [List.length_map, List.length_append, List.length_singleton] at hpl
    have hvl := verF_len es [] false
    have hle := timesF_len (pre.map Ver.word)
    rw [List.length_map] at hle
    have hst3 : VerSt n (o + 3) x W2 := ⟨hr2, hst.2⟩
    have HST := Lib.hid hst3
    obtain ⟨va, vc, hO, hown, hne⟩ := hi2.out
    have o0 := cell_blk (j := 0) hO
    have of := free_blk (j := 0) hO
    have hsn := timesF_snoc (pre.map Ver.word) x.word
    have HSN : Hid (timesF ((pre ++ [x]).map Ver.word) = if x.ch = true then timesF (pre.map Ver.word) ++ [x.t] else timesF (pre.map Ver.word)) := (show _ = _ by rw [List.map_append, List.map_cons, List.map_nil]; exact hsn)
    obtain ⟨os1, hs1⟩ : ∃ s, timesF (pre.map Ver.word) = s := ⟨_, rfl⟩
    rw [hs1] at hO hown hne hle o0 hi2 HSN
    clear hga hg2 hgr hi hr2 hst3 hX hs1 hsn
    cases hch : x.ch with
    | false =>
      rw [hch] at x2
      gi_wp2
      refine ⟨KeepBk.refl _ _, HST.out, ?_⟩
      have h := HSN.out
      rw [hch, if_neg (by decide)] at h
      show TmW w n es a cap o (timesF ((pre ++ [x]).map Ver.word)) x.blk _
      rw [h]
      exact hi2
    | true =>
      rw [hch] at x2
      have hlx := rows_lit1 (E := encI1) W2 x.t 3 #[.int .i64 x.t] rfl
      have hga := World.grownBy_alloc W2 (.cells #[.int .i64 x.t] 3) none
      have hO4 := grown_blk hga hO (by simp)
      have hown4 := hown.alloc (.cells #[.int .i64 x.t] 3)
      have hz4 : o + 6 ≤ (W2.alloc (.cells #[.int .i64 x.t] 3)).heap.size := by simp; omega
      have how : ∀ k, (Value.slice va os1.length vc).ownBlock = some k → o + 6 ≤ k := fun k hk => (hown.lt k hk).1
      have hns : ∀ k, k ≤ o + 5 → some k ≠ (Value.slice va os1.length vc).ownBlock := fun k hk e => by have := how k e.symm; omega
      gi_wp2_with (gi_at_builtin; refine wpListIn_app_rows_at i1RT rfl _ _ rfl (o + 6) (.slice va os1.length vc) _ os1 [x.t] rfl (by exact hown4) rfl (by exact hlx) (by simp; omega) (by simp; omega) (by exact hz4) ?_; intro v6 W6 hown6 hg6 hat6; have hl6 : (os1 ++ [x.t]).length = os1.length + 1 := (by simp); have hO6 := grown_blk hg6 hO4 (hns _ (by omega)); rw [hl6] at hown6; obtain ⟨a6, c6, rfl⟩ := owns_shape hown6; have o6 := cell_blk (j := 0) hO6; have of6 := free_blk (j := 0) hO6)
      have hG1 := grown_trans (World.grownBy_alloc W2 (.cells #[.int .i64 x.t] 3) (Value.slice va os1.length vc).ownBlock) hg6
      have hblk : ∀ k, W2.heap.size ≤ k → some k ≠ x.blk := fun k hk e => by
        unfold Ver.blk blkOf at e
        split at e
        · cases e
        · cases hxa : x.a with
          | none => rw [hxa] at e; cases e
          | some p =>
            have h1 := HST.out.1
            rw [hxa] at h1 e
            have := row_lt (by decide) h1 (by omega)
            have hkp : k = p.block := Option.some.inj e
            omega
      have hoffx : ∀ g, (Value.slice va os1.length vc).ownBlock = some g → 0 < x.ls.length → Off g (.slice x.a x.ls.length x.c) := fun g hg h0 n' c p hp => by
        have hxa := (Value.slice.inj hp).1
        intro e
        rcases hne with h | h
        · rw [h] at hg; cases hg
        · refine h ?_
          rw [hg]
          unfold Ver.blk blkOf
          rw [if_neg (by omega), hxa, ← e]
          rfl
      have hr6 := HST.out.1.grown' hG1 hoffx
      have hxb : ∀ p, x.a = some p → o + 3 + 3 ≤ p.block := HST.out.2.1
      have hB : ∀ k, k ≠ o → (W6.setCell ⟨o, 0, none⟩ (.slice a6 (os1.length + 1) c6)).heap[k]? = W6.heap[k]? := fun k h1 => Below.heap_setCell _ ⟨o, 0, none⟩ _ k (by show k ≠ o; exact h1)
      have hW : ∀ k, k ≤ o + 5 → W6.heap[k]? = W2.heap[k]? := fun k hk => hG1.block k (by omega) (hns k hk)
      have gA : W6.grownBy (W6.setCell ⟨o, 0, none⟩ (.slice a6 (os1.length + 1) c6)) (some o) := grown_lk
      have hso : (Value.slice a6 (os1.length + 1) c6).ownBlock = none ∨ (Value.slice a6 (os1.length + 1) c6).ownBlock ≠ some o := by
        cases hq : (Value.slice a6 (os1.length + 1) c6).ownBlock with
        | none => exact .inl rfl
        | some k => exact .inr (fun e => by have := (hown6.lt k hq).1; have := Option.some.inj e; omega)
      have hlt3 := hi2.lt
      refine ⟨⟨Nat.le_trans hG1.size gA.size, fun k h1 h2 => (hB k (by omega)).trans (hW k (by omega))⟩, ⟨hr6.grown gA (fun g e n' c p hp => by cases e; have := hxb p (Value.slice.inj hp).1; omega), HST.out.2⟩, ?_⟩
      have h := HSN.out
      rw [hch, if_pos rfl] at h
      show TmW w n es a cap o (timesF ((pre ++ [x]).map Ver.word)) x.blk _
      rw [h]
      refine ⟨⟨a6, c6, ?_, ?_, ?_⟩, ((hB _ (by omega)).trans (hW _ (by omega))).trans hi2.bn, ((hB _ (by omega)).trans (hW _ (by omega))).trans hi2.be, ?_, hlt3⟩
      · rw [hl6]
        exact heap_setCell_same _ _ _ _ _ _ hO6
      · rw [hl6]
        exact hown6.kept gA hso
      · rw [hl6]
        rcases hat6 with h | h
        · rw [h]; exact hne
        · rw [h]; exact .inr (hblk _ (by simp))
      · have hb6 := hi2.below.grown hG1 hi2.below.size (fun k e => by have := how k e; omega)
        exact hb6.grown gA hb6.size (fun k e => by cases e; omega)
def firstX (n : Int) (es : List Ev) (u v : Int) : Int × Bool × Int :=
  match lifeX n es u v with
  | (os, z) => if z ≠ 0 ∨ os = [] then (0, false, z) else ((os.getD 0 (0, 0)).1, true, 0)
set_option maxRecDepth 100000 in
set_option maxHeartbeats 1600000 in
theorem first_any (n : Int) (es : List Ev) (u v : Int) (a : Option Addr) (cap : Nat) (w : World) (hes : RowAt encEv w (.slice a es.length cap) es) :
    Calls Try.prog 13 #[.int .i64 n, .slice a es.length cap, .int .i64 u, .int .i64 v] w fun e w' => e = .returned (.tuple #[.int .i64 (firstX n es u v).1, .bool (firstX n es u v).2.1, .int .i64 (firstX n es u v).2.2]) ∧ Below w.heap.size w w' := by
  have h1 := life_any n es u v a cap w hes
  unfold firstX
  obtain ⟨⟨os, z⟩, hs⟩ : ∃ s, lifeX n es u v = s := ⟨_, rfl⟩
  rw [hs] at h1 ⊢
  unfold LifePost at h1
  dsimp only at h1 ⊢
  by_cases hz : z = 0
  · subst hz
    cases os with
    | nil =>
      rw [if_pos (.inr rfl)]
      dsimp only
      go_enter Try.func13, Try.ntmps13
      go_wp2_with fail
      refine h1.mono ?_
      rintro _ w1 ⟨a1, c1, rfl, hr, hb⟩
      go_wp2_with fail
      exact bodyPost_ret (v := .tuple #[.int .i64 0, .bool false, .int .i64 0]) (by simp [results, Try.results13, go_sem]) rfl ⟨rfl, hb⟩
    | cons x os =>
      rw [if_neg (by simp)]
      dsimp only
      go_enter Try.func13, Try.ntmps13
      go_wp2_with fail
      refine h1.mono ?_
      rintro _ w1 ⟨a1, c1, rfl, hr, hb⟩
      obtain ⟨b, off, y, rfl, hy, hc, hat⟩ := hr.elem 0 (by simp)
      simp only [List.getElem?_cons_zero, Option.some.injEq] at hy
      subst hy
      have q0 := hat 0 _ rfl
      simp only [Nat.zero_mul, Nat.add_zero] at q0
      have hn0 : ((x :: os).length : Int) ≠ 0 := by simp; omega
      have hn1 : 0 < (x :: os).length := by simp
      obtain ⟨m, hm⟩ : ∃ m, (x :: os).length = m := ⟨_, rfl⟩
      rw [hm] at hn0 hn1 hc ⊢
      have d1 : ((m : Int) == 0) = false := by simpa using hn0
      clear hr hat
      go_wp2_with fail
      exact bodyPost_ret (v := .tuple #[.int .i64 x.1, .bool true, .int .i64 0]) (by simp [results, Try.results13, go_sem]) rfl ⟨rfl, hb⟩
  · rw [if_pos (.inl hz)]
    have d1 : (z != 0) = true := by simpa using hz
    dsimp only
    go_enter Try.func13, Try.ntmps13
    go_wp2_with fail
    refine h1.mono ?_
    rintro _ w1 ⟨a1, c1, rfl, hr, hb⟩
    go_wp2_with fail
    exact bodyPost_ret (v := .tuple #[.int .i64 0, .bool false, .int .i64 z]) (by simp [results, Try.results13, go_sem]) rfl ⟨rfl, hb⟩
end Go.Proofs.Ytpblaoeaeljmhaa
