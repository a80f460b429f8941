/- history.At: the state behind all events up to a time. history.Times: the times at which something changed; history.First. -/
import Derived.Test.YtpblaoeaeljmhaaDoorHisLife
import Derived.Test.YtpblaoeaeljmhaaDoorLkSlices
namespace Go.Proofs.YtpblaoeaeljmhaaDoor
open Go.RowKit Go.BigFrame
attribute [local go_sem] Oper.semAt_some

/-- the state of the last of some versions -/
def lastL (xs : List (Int × List Lk × Bool)) : List Lk := ((xs.getLast?).map fun x => x.2.1).getD []
theorem lastL_snoc (xs : List (Int × List Lk × Bool)) (x : Int × List Lk × Bool) : lastL (xs ++ [x]) = x.2.1 := by unfold lastL; simp
def atV (time : Int) (xs : List (Int × List Lk × Bool)) : List Lk := lastL (xs.takeWhile fun x => decide (x.1 ≤ time))
theorem atV_all {time : Int} {xs : List (Int × List Lk × Bool)} (h : ∀ x ∈ xs, x.1 ≤ time) : atV time xs = lastL xs := by
  unfold atV
  congr 1
  induction xs with
  | nil => rfl
  | cons x xs ih =>
    rw [List.takeWhile_cons, if_pos (by simpa using h x List.mem_cons_self), ih fun y hy => h y (List.mem_cons_of_mem _ hy)]
theorem atV_stop {time : Int} {xs ys : List (Int × List Lk × Bool)} {x : Int × List Lk × Bool} (h : ∀ y ∈ xs, y.1 ≤ time) (hx : time < x.1) (hp : xs ++ [x] <+: ys) : atV time ys = lastL xs := by
  obtain ⟨zs, rfl⟩ := hp
  unfold atV
  congr 1
  rw [List.append_assoc]
  induction xs with
  | nil => rw [List.nil_append, List.singleton_append, List.takeWhile_cons, if_neg (by simp; omega)]
  | cons y xs ih =>
    rw [List.cons_append, List.takeWhile_cons, if_pos (by simpa using h y List.mem_cons_self), ih fun z hz => h z (List.mem_cons_of_mem _ hz)]
def atX (n : Int) (es : List Ev) (time : Int) : (Int × List Lk) × Int := if hisS n es ≠ 0 then ((0, []), hisS n es) else ((n, atV time (verF [] false es)), 0)
def AtPost (w : World) (r : (Int × List Lk) × Int) (e : Ending) (w' : World) : Prop :=
  ∃ a c, e = .returned (.tuple #[.agg #[.int .i64 r.1.1, .slice a r.1.2.length c], .int .i64 r.2]) ∧ RowAt encLk w' (.slice a r.1.2.length c) r.1.2 ∧ Below w.heap.size w w'
/-- what At holds between two rounds -/
structure AtW (w0 : World) (n time : Int) (es : List Ev) (ae : Option Addr) (ce o : Nat) (L : List Lk) (W : World) : Prop where
  tb : W.heap[w0.heap.size]? = some (.cells #[.int .i64 time] 3 (0, 0))
  rb : W.heap[w0.heap.size + 1]? = some (.cells #[.int .i64 0, .slice none 0 0] 53 (0, 0))
  sb : ∃ va vc, W.heap[o]? = some (.cells #[.int .i64 n, .slice va L.length vc] 53 (0, 0)) ∧ RowAt encLk W (.slice va L.length vc) L ∧ (∀ p, va = some p → o + 6 ≤ p.block)
  bn : W.heap[o + 1]? = some (.cells #[.int .i64 n] 3 (0, 0))
  be : W.heap[o + 2]? = some (.cells #[.slice ae es.length ce] 27 (0, 0))
  below : Below w0.heap.size w0 W
  lt : w0.heap.size + 2 ≤ o
  small : L.length ≤ 4096
theorem AtW.grown {w0 : World} {n time : Int} {es : List Ev} {ae : Option Addr} {ce o : Nat} {L : List Lk} {A B : World} {row : Option Nat} (h : AtW w0 n time es ae ce o L A) (hg : A.grownBy B row) (hr : ∀ r, row = some r → o + 3 ≤ r ∧ r ≤ o + 5) : AtW w0 n time es ae ce o L B := by
  have hlt := h.lt
  have hne : ∀ k, k ≤ o + 2 → some k ≠ row := fun k hk e => by have := hr k e.symm; omega
  obtain ⟨va, vc, h1, h2, h3⟩ := h.sb
  exact ⟨grown_blk hg h.tb (hne _ (by omega)), grown_blk hg h.rb (hne _ (by omega)), ⟨va, vc, grown_blk hg h1 (hne _ (by omega)), h2.grown hg (fun g e n' c p hp => by have := h3 p (Value.slice.inj hp).1; have := hr g e; omega), h3⟩, grown_blk hg h.bn (hne _ (by omega)), grown_blk hg h.be (hne _ (by omega)), h.below.grown hg h.below.size (fun k e => by have := hr k e; omega), hlt, h.small⟩
end Go.Proofs.YtpblaoeaeljmhaaDoor

namespace Go.Proofs.YtpblaoeaeljmhaaDoor
open Go.RowKit Go.BigFrame
attribute [local go_sem] Oper.semAt_some

def encI1 : Enc Int := ⟨1, fun x => [.int .i64 x], fun _ => rfl, fun e u hu => by simp at hu; subst hu; rfl, by decide⟩
theorem i1RT : SliceT Tryd.prog 22 3 (.int .i64 0) encI1.k 8 := ⟨Tryd.underlying22, by kernel_rfl, rfl, by decide⟩
theorem flat_ints (xs : List Int) : flatR encI1 xs = intsV xs := by
  induction xs with
  | nil => rfl
  | cons x xs ih => rw [flatR_cons, ih]; rfl
/-- the times of changes -/
def timesF (xs : List (Int × List Lk × Bool)) : List Int := (xs.filter fun x => x.2.2).map fun x => x.1
theorem timesF_snoc (xs : List (Int × List Lk × Bool)) (x : Int × List Lk × Bool) : timesF (xs ++ [x]) = if x.2.2 = true then timesF xs ++ [x.1] else timesF xs := by
  unfold timesF
  rw [List.filter_append, List.map_append]
  cases h : x.2.2 <;> simp [h]
theorem timesF_len (xs : List (Int × List Lk × Bool)) : (timesF xs).length ≤ xs.length := by unfold timesF; rw [List.length_map]; exact List.length_filter_le _ _
def timesX (n : Int) (es : List Ev) : List Int × Int := if hisS n es ≠ 0 then ([], hisS n es) else (timesF (verF [] false es), 0)
def TimesPost (w : World) (r : List Int × Int) (e : Ending) (w' : World) : Prop :=
  ∃ a c, e = .returned (.tuple #[.slice a r.1.length c, .int .i64 r.2]) ∧ IntsAt w' (.slice a r.1.length c) r.1 ∧ Below w.heap.size w w'
/-- what Times holds between two rounds -/
structure TmW (w0 : World) (n : Int) (es : List Ev) (ae : Option Addr) (ce o : Nat) (os : List Int) (sb : Option Nat) (W : World) : Prop where
  out : ∃ va vc, W.heap[o]? = some (.cells #[.slice va os.length vc] 22 (0, 0)) ∧ W.ownsRow (o + 6) 3 encI1.k (.slice va os.length vc) os.length (flatR encI1 os) ∧ ((Value.slice va os.length vc).ownBlock = none ∨ (Value.slice va os.length vc).ownBlock ≠ sb)
  bn : W.heap[o + 1]? = some (.cells #[.int .i64 n] 3 (0, 0))
  be : W.heap[o + 2]? = some (.cells #[.slice ae es.length ce] 27 (0, 0))
  below : Below w0.heap.size w0 W
  lt : w0.heap.size ≤ o
theorem TmW.grown {w0 : World} {n : Int} {es : List Ev} {ae : Option Addr} {ce o : Nat} {os : List Int} {sb : Option Nat} {A B : World} {row : Option Nat} (h : TmW w0 n es ae ce o os sb A) (hg : A.grownBy B row) (hr : ∀ r, row = some r → o + 3 ≤ r ∧ r ≤ o + 5) : TmW w0 n es ae ce o os sb B := by
  have hlt := h.lt
  have hne : ∀ k, k ≤ o + 2 → some k ≠ row := fun k hk e => by have := hr k e.symm; omega
  obtain ⟨va, vc, h1, h2, h3⟩ := h.out
  refine ⟨⟨va, vc, grown_blk hg h1 (hne _ (by omega)), h2.kept hg ?_, h3⟩, grown_blk hg h.bn (hne _ (by omega)), grown_blk hg h.be (hne _ (by omega)), h.below.grown hg h.below.size (fun k e => by have := hr k e; omega), hlt⟩
  cases hk : (Value.slice va os.length vc).ownBlock with
  | none => exact .inl rfl
  | some k => exact .inr (fun e => by have := (h2.lt k hk).1; have := hr k e.symm; omega)
theorem TmW.fresh {w0 : World} {n : Int} {es : List Ev} {ae : Option Addr} {ce o : Nat} {os : List Int} {sb sb' : Option Nat} {A : World} (h : TmW w0 n es ae ce o os sb A) (hk : ∀ k, sb' = some k → A.heap.size ≤ k) : TmW w0 n es ae ce o os sb' A := by
  obtain ⟨va, vc, h1, h2, h3⟩ := h.out
  refine ⟨⟨va, vc, h1, h2, ?_⟩, h.bn, h.be, h.below, h.lt⟩
  cases hq : (Value.slice va os.length vc).ownBlock with
  | none => exact .inl rfl
  | some k => exact .inr (fun e => by have := (h2.lt k hq).2; have := hk k e.symm; omega)
def firstX (n : Int) (es : List Ev) (u v : Int) : Int × Bool × Int :=
  match lifeX n es u v with
  | (os, z) => if z ≠ 0 ∨ os = [] then (0, false, z) else ((os.getD 0 (0, 0)).1, true, 0)
set_option maxRecDepth 100000 in
set_option maxHeartbeats 1600000 in
theorem first_any (n : Int) (es : List Ev) (u v : Int) (a : Option Addr) (cap : Nat) (w : World) (hes : RowAt encEv w (.slice a es.length cap) es) :
    Calls Tryd.prog 11 #[.int .i64 n, .slice a es.length cap, .int .i64 u, .int .i64 v] w fun e w' => e = .returned (.tuple #[.int .i64 (firstX n es u v).1, .bool (firstX n es u v).2.1, .int .i64 (firstX n es u v).2.2]) ∧ Below w.heap.size w w' := by
  have h1 := life_any n es u v a cap w hes
  unfold firstX
  obtain ⟨⟨os, z⟩, hs⟩ : ∃ s, lifeX n es u v = s := ⟨_, rfl⟩
  rw [hs] at h1 ⊢
  unfold LifePost at h1
  dsimp only at h1 ⊢
  by_cases hz : z = 0
  · subst hz
    cases os with
    | nil =>
      rw [if_pos (.inr rfl)]
      dsimp only
      go_enter Tryd.func11, Tryd.ntmps11
      go_wp2_with fail
      refine h1.mono ?_
      rintro _ w1 ⟨a1, c1, rfl, hr, hb⟩
      go_wp2_with fail
      exact bodyPost_ret (v := .tuple #[.int .i64 0, .bool false, .int .i64 0]) (by simp [results, Tryd.results11, go_sem]) rfl ⟨rfl, hb⟩
    | cons x os =>
      rw [if_neg (by simp)]
      dsimp only
      go_enter Tryd.func11, Tryd.ntmps11
      go_wp2_with fail
      refine h1.mono ?_
      rintro _ w1 ⟨a1, c1, rfl, hr, hb⟩
      obtain ⟨b, off, y, rfl, hy, hc, hat⟩ := hr.elem 0 (by simp)
      simp only [List.getElem?_cons_zero, Option.some.injEq] at hy
      subst hy
      have q0 := hat 0 _ rfl
      simp only [Nat.zero_mul, Nat.add_zero] at q0
      have hn0 : ((x :: os).length : Int) ≠ 0 := by simp; omega
      have hn1 : 0 < (x :: os).length := by simp
      obtain ⟨m, hm⟩ : ∃ m, (x :: os).length = m := ⟨_, rfl⟩
      rw [hm] at hn0 hn1 hc ⊢
      have d1 : ((m : Int) == 0) = false := by simpa using hn0
      clear hr hat
      go_wp2_with fail
      exact bodyPost_ret (v := .tuple #[.int .i64 x.1, .bool true, .int .i64 0]) (by simp [results, Tryd.results11, go_sem]) rfl ⟨rfl, hb⟩
  · rw [if_pos (.inl hz)]
    have d1 : (z != 0) = true := by simpa using hz
    dsimp only
    go_enter Tryd.func11, Tryd.ntmps11
    go_wp2_with fail
    refine h1.mono ?_
    rintro _ w1 ⟨a1, c1, rfl, hr, hb⟩
    go_wp2_with fail
    exact bodyPost_ret (v := .tuple #[.int .i64 0, .bool false, .int .i64 z]) (by simp [results, Tryd.results11, go_sem]) rfl ⟨rfl, hb⟩
end Go.Proofs.YtpblaoeaeljmhaaDoor
