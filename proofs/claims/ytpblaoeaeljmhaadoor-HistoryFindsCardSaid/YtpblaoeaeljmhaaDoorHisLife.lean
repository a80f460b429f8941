/- An append of rows in a round of a loop over an iterator. history.Life: the spans of time in which an edge is there. -/
import Derived.Test.YtpblaoeaeljmhaaDoorAppAt
import Derived.OwnWalkIn
import Derived.Test.YtpblaoeaeljmhaaDoorHisVers
import Derived.Test.YtpblaoeaeljmhaaDoorHisStream
import Derived.Test.YtpblaoeaeljmhaaDoorLkFnd
import Derived.RangeFuncLeaves
namespace Go.Proofs.YtpblaoeaeljmhaaDoor
open Go.RowKit

section
variable {α : Type} {E : Enc α} {P : Program} {w : World} {t e : TypeId} {z : Value} {bytes : Nat}
theorem wpListIn_app_rows_at {F : Fence} {n : Nat} {ops : Array Oper} {rest : List Oper} {o : Oper} {a : Act} {Q : Exit → Act → World → Prop} (S : SliceT P t e z E.k bytes) (hgd : o.guard = none) (s x : Operand)
    (ho : o.op = .call { callee := .builtin .append, args := #[s, x], argTypes := #[t, t] }) (base : Nat) (v src : Value) (xs ys : List α) (hs : a.eval s = v) (hown : w.ownsRow base e E.k v xs.length (flatR E xs))
    (hx : a.eval x = src) (hsrc : RowAt E w src ys) (hlen : (xs.length + ys.length) * bytes ≤ 140737488355328) (hlen2 : xs.length + ys.length ≤ 140737488355328) (hbase : base ≤ w.heap.size)
    (h : ∀ v' w', w'.ownsRow base e E.k v' (xs ++ ys).length (flatR E (xs ++ ys)) → w.grownBy w' v.ownBlock → (v'.ownBlock = v.ownBlock ∨ v'.ownBlock = some w.heap.size) → wpListIn F n P ops Q rest (a.put o.dst v') w') : wpListIn F n P ops Q (o :: rest) a w := by
  refine wpListIn_plain hgd fun K hK => ?_
  obtain ⟨i, hi, hz, hsz, hb⟩ := info_parts S.info
  obtain ⟨ao, c, rfl, hn, hc⟩ := news_of_rows hsrc
  obtain ⟨v', w', hr, h2, h3, h4⟩ : ∃ v' w', (Builtin.append_ #[t, t] o.type #[v, .slice ao ys.length c]).run P w = .ok v' w' ∧ w'.ownsRow base e E.k v' (xs.length + ys.length) (flatR E xs ++ flatR E ys) ∧ w.grownBy w' v.ownBlock ∧ (v'.ownBlock = v.ownBlock ∨ v'.ownBlock = some w.heap.size) := by
    cases ao with
    | none =>
      obtain ⟨h0, rfl⟩ := hn rfl
      obtain rfl : ys = [] := List.eq_nil_of_length_eq_zero h0
      refine ⟨v, w, run_append_owned_none w base t o.type e i E.k S.ht hi v xs.length (flatR E xs) hown, ?_, World.grownBy.refl _ _, .inl rfl⟩
      simpa [flatR] using hown
    | some ad =>
      obtain ⟨v', w', h2, h3, h4, _, h5⟩ := run_append_own_at (P := P) w base t o.type e i z E.k bytes S.ht hi hz hsz hb S.hzs S.hsz v xs.length (flatR E xs) hown ad ys.length c (flatR E ys) (flatR_length E ys) (hc ad rfl) (flatR_oneCell E ys) (by unfold maxLen; omega) hlen hbase
      exact ⟨v', w', h2, h3, h4, h5⟩
  unfold Oper.wpIn
  refine ⟨?_, ?_⟩
  · simp [Oper.about, ho, resolve, Target.leads, Sem.run_pure]
  · rw [Oper.semAt_plain F _ _ (by rw [ho]; intro c hc'; cases hc')]
    simp [execOp, ho, resolve, invoke, builtin, hs, hx, hr, Result.andThen]
    exact hK _ _ (h v' w' (by rw [List.length_append, flatR_append]; exact h2) h3 h4)
end
end Go.Proofs.YtpblaoeaeljmhaaDoor

namespace Go.Proofs.YtpblaoeaeljmhaaDoor
open Go.RowKit Go.BigFrame
attribute [local go_sem] Oper.semAt_some

def encI2 : Enc (Int × Int) := ⟨2, fun p => [.int .i64 p.1, .int .i64 p.2], fun _ => rfl, fun e u hu => by simp at hu; rcases hu with h | h <;> subst h <;> rfl, by decide⟩
theorem i2RT : SliceT Tryd.prog 30 29 (.agg #[.int .i64 0, .int .i64 0]) encI2.k 16 := ⟨Tryd.underlying30, by kernel_rfl, rfl, by decide⟩
theorem hisL_ok {n : Int} : ∀ (es : List Ev) (last : Int), hisL n last es = 0 → ∀ e ∈ es, fitS n e = 0 := by
  intro es
  induction es with
  | nil => intro _ _ e he; cases he
  | cons x es ih =>
    intro last h e he
    unfold hisL at h
    split at h
    · rename_i h1; exact absurd h h1
    · rename_i h1
      split at h
      · cases h
      · rcases List.mem_cons.1 he with rfl | he
        · simpa using h1
        · exact ih _ h e he
theorem his_ok {n : Int} {es : List Ev} (h : hisS n es = 0) : 0 ≤ n ∧ n ≤ 64 ∧ es.length ≤ 65536 ∧ ∀ e ∈ es, fitS n e = 0 := by
  unfold hisS at h
  split at h
  · cases h
  · rename_i h1
    split at h
    · cases h
    · exact ⟨by omega, by omega, by omega, hisL_ok _ _ h⟩
theorem edge_ok {n u v : Int} {es : List Ev} (h : edgeS n es u v = 0) : hisS n es = 0 ∧ endsB n u v = true := by
  unfold edgeS at h
  split at h
  · rename_i h1; exact absurd h h1
  · rename_i h1
    split at h
    · rename_i h2; exact ⟨by simpa using h1, h2⟩
    · cases h
theorem verF_len : ∀ (es : List Ev) (ls : List Lk) (ch : Bool), (verF ls ch es).length ≤ es.length := by
  intro es
  induction es with
  | nil => intro ls ch; simp [verF]
  | cons e es ih =>
    intro ls ch
    cases es with
    | nil => simp [verF]
    | cons e2 es =>
      unfold verF
      dsimp only
      split
      · exact Nat.le_succ_of_le (ih _ _)
      · rw [List.length_cons, List.length_cons]
        exact Nat.succ_le_succ (ih _ _)
/-- the last span ends -/
def setLast (os : List (Int × Int)) (t : Int) : List (Int × Int) := os.set (os.length - 1) ((os.getD (os.length - 1) (0, 0)).1, t)
def lifeStep (n u v : Int) (s : List (Int × Int) × Bool) (x : Int × List Lk × Bool) : List (Int × Int) × Bool :=
  if 0 ≤ lfS n x.2.1 u v then (if s.2 = true then s else (s.1 ++ [(x.1, -1)], true)) else (if s.2 = true then (setLast s.1 x.1, false) else s)
def lifeF (n u v : Int) (xs : List (Int × List Lk × Bool)) : List (Int × Int) × Bool := xs.foldl (lifeStep n u v) ([], false)
theorem lifeF_snoc (n u v : Int) (xs : List (Int × List Lk × Bool)) (x : Int × List Lk × Bool) : lifeF n u v (xs ++ [x]) = lifeStep n u v (lifeF n u v xs) x := by unfold lifeF; rw [List.foldl_append]; rfl
theorem lifeStep_inv {n u v : Int} {s : List (Int × Int) × Bool} {x : Int × List Lk × Bool} {k : Nat} (h : s.1.length ≤ k ∧ (s.2 = true → 0 < s.1.length)) : (lifeStep n u v s x).1.length ≤ k + 1 ∧ ((lifeStep n u v s x).2 = true → 0 < (lifeStep n u v s x).1.length) := by
  unfold lifeStep setLast
  split
  · split
    · exact ⟨by omega, h.2⟩
    · simp; omega
  · split
    · simp; omega
    · exact ⟨by omega, h.2⟩
theorem lifeF_inv' (n u v : Int) : ∀ (xs : List (Int × List Lk × Bool)) (s : List (Int × Int) × Bool) (k : Nat), (s.1.length ≤ k ∧ (s.2 = true → 0 < s.1.length)) → (xs.foldl (lifeStep n u v) s).1.length ≤ k + xs.length ∧ ((xs.foldl (lifeStep n u v) s).2 = true → 0 < (xs.foldl (lifeStep n u v) s).1.length) := by
  intro xs
  induction xs with
  | nil => intro s k h; exact h
  | cons x xs ih =>
    intro s k h
    have h2 := ih _ (k + 1) (lifeStep_inv (n := n) (u := u) (v := v) (x := x) h)
    rw [List.foldl_cons, List.length_cons]
    exact ⟨by omega, h2.2⟩
theorem lifeF_inv (n u v : Int) (xs : List (Int × List Lk × Bool)) : (lifeF n u v xs).1.length ≤ xs.length ∧ ((lifeF n u v xs).2 = true → 0 < (lifeF n u v xs).1.length) := by
  have := lifeF_inv' n u v xs ([], false) 0 (by simp)
  unfold lifeF
  rw [Nat.zero_add] at this
  exact this
def lifeX (n : Int) (es : List Ev) (u v : Int) : List (Int × Int) × Int := if edgeS n es u v ≠ 0 then ([], edgeS n es u v) else ((lifeF n u v (verF [] false es)).1, 0)
def LifePost (w : World) (r : List (Int × Int) × Int) (e : Ending) (w' : World) : Prop :=
  ∃ a c, e = .returned (.tuple #[.slice a r.1.length c, .int .i64 r.2]) ∧ RowAt encI2 w' (.slice a r.1.length c) r.1 ∧ Below w.heap.size w w'
set_option maxRecDepth 100000 in
theorem hversions_any (n : Int) (a : Option Addr) (len cap : Nat) (w : World) :
    Calls Tryd.prog 21 #[.int .i64 n, .slice a len cap] w fun e w' => e = .returned (.func (.func 33) #[] #[.pointer (some ⟨w.heap.size, 0, none⟩), .pointer (some ⟨w.heap.size + 1, 0, none⟩)]) ∧ w' = (w.alloc (.cells #[.int .i64 n] 3)).alloc (.cells #[.slice a len cap] 27) := by
  go_enter Tryd.func21, Tryd.ntmps21
  go_wp2_with fail
  go_ret
  exact ⟨rfl, rfl⟩
theorem row_lt {α : Type} {E : Enc α} {w : World} {p : Addr} {cap n : Nat} {xs : List α} (hk : 0 < E.k) (h : RowAt E w (.slice (some p) n cap) xs) (h0 : 0 < xs.length) : p.block < w.heap.size := by
  obtain ⟨a, c, he, -, -, -, hat⟩ := h
  obtain ⟨ha, -, -⟩ := Value.slice.inj he
  have hl : 0 < (flatR E xs).length := by rw [flatR_length]; exact Nat.mul_pos h0 hk
  obtain ⟨b, off, hb, hc⟩ := hat 0 _ (List.getElem?_eq_getElem hl)
  rw [← ha] at hb
  have := Option.some.inj hb
  rw [this]
  exact cell_lt hc
/-- what Life holds between two rounds -/
structure LfW (w0 : World) (n u v : Int) (es : List Ev) (ae : Option Addr) (ce o : Nat) (pre : List Ver) (sb : Option Nat) (W : World) : Prop where
  ub : W.heap[w0.heap.size]? = some (.cells #[.int .i64 u] 3 (0, 0))
  vb : W.heap[w0.heap.size + 1]? = some (.cells #[.int .i64 v] 3 (0, 0))
  th : W.heap[o + 1]? = some (.cells #[.bool (lifeF n u v (pre.map Ver.word)).2] 4 (0, 0))
  out : ∃ va vc, W.heap[o]? = some (.cells #[.slice va (lifeF n u v (pre.map Ver.word)).1.length vc] 30 (0, 0)) ∧ W.ownsRow (o + 7) 29 encI2.k (.slice va (lifeF n u v (pre.map Ver.word)).1.length vc) (lifeF n u v (pre.map Ver.word)).1.length (flatR encI2 (lifeF n u v (pre.map Ver.word)).1) ∧ ((Value.slice va (lifeF n u v (pre.map Ver.word)).1.length vc).ownBlock = none ∨ (Value.slice va (lifeF n u v (pre.map Ver.word)).1.length vc).ownBlock ≠ sb)
  bn : W.heap[o + 2]? = some (.cells #[.int .i64 n] 3 (0, 0))
  be : W.heap[o + 3]? = some (.cells #[.slice ae es.length ce] 27 (0, 0))
  below : Below w0.heap.size w0 W
  lt : w0.heap.size + 2 ≤ o
theorem LfW.grown {w0 : World} {n u v : Int} {es : List Ev} {ae : Option Addr} {ce o : Nat} {pre : List Ver} {sb : Option Nat} {A B : World} {row : Option Nat} (h : LfW w0 n u v es ae ce o pre sb A) (hg : A.grownBy B row) (hr : ∀ r, row = some r → o + 4 ≤ r ∧ r ≤ o + 6) : LfW w0 n u v es ae ce o pre sb B := by
  have hlt := h.lt
  have hne : ∀ k, k ≤ o + 3 → some k ≠ row := fun k hk e => by have := hr k e.symm; omega
  obtain ⟨va, vc, h1, h2, h3⟩ := h.out
  refine ⟨grown_blk hg h.ub (hne _ (by omega)), grown_blk hg h.vb (hne _ (by omega)), grown_blk hg h.th (hne _ (by omega)), ⟨va, vc, grown_blk hg h1 (hne _ (by omega)), h2.kept hg ?_, h3⟩, grown_blk hg h.bn (hne _ (by omega)), grown_blk hg h.be (hne _ (by omega)), h.below.grown hg h.below.size (fun k e => by have := hr k e; omega), hlt⟩
  cases hk : (Value.slice va (lifeF n u v (pre.map Ver.word)).1.length vc).ownBlock with
  | none => exact .inl rfl
  | some k => exact .inr (fun e => by have := (h2.lt k hk).1; have := hr k e.symm; omega)
theorem LfW.fresh {w0 : World} {n u v : Int} {es : List Ev} {ae : Option Addr} {ce o : Nat} {pre : List Ver} {sb sb' : Option Nat} {A : World} (h : LfW w0 n u v es ae ce o pre sb A) (hk : ∀ k, sb' = some k → A.heap.size ≤ k) : LfW w0 n u v es ae ce o pre sb' A := by
  obtain ⟨va, vc, h1, h2, h3⟩ := h.out
  refine ⟨h.ub, h.vb, h.th, ⟨va, vc, h1, h2, ?_⟩, h.bn, h.be, h.below, h.lt⟩
  cases hq : (Value.slice va (lifeF n u v (pre.map Ver.word)).1.length vc).ownBlock with
  | none => exact .inl rfl
  | some k => exact .inr (fun e => by have := (h2.lt k hq).2; have := hk k e.symm; omega)
theorem flatR_set2 {α : Type} {E : Enc α} {x y : α} {f : Nat} {v : Value} : ∀ (ls : List α) (i : Nat), ls[i]? = some x → f < E.k → E.enc y = (E.enc x).set f v → flatR E (ls.set i y) = (flatR E ls).set (i * E.k + f) v := by
  intro ls
  induction ls with
  | nil => intro i h; simp at h
  | cons l ls ih =>
    intro i h hf he
    cases i with
    | zero =>
      simp only [List.getElem?_cons_zero, Option.some.injEq] at h
      subst h
      rw [List.set_cons_zero, flatR_cons, flatR_cons, he, List.set_append_left _ _ (by rw [Nat.zero_mul, Nat.zero_add, E.len]; exact hf), Nat.zero_mul, Nat.zero_add]
    | succ i =>
      rw [List.getElem?_cons_succ] at h
      rw [List.set_cons_succ, flatR_cons, flatR_cons, ih i h hf he, List.set_append_right _ _ (by rw [E.len, Nat.succ_mul]; omega)]
      congr 2
      rw [E.len, Nat.succ_mul]; omega
theorem LfW.put {w0 : World} {n u v : Int} {es : List Ev} {ae : Option Addr} {ce o : Nat} {pre : List Ver} {sb : Option Nat} {A B : World} {x : Ver} {s : List (Int × Int) × Bool} (h : LfW w0 n u v es ae ce o pre sb A) (hs : lifeStep n u v (lifeF n u v (pre.map Ver.word)) x.word = s)
    (hk : ∀ k, k ≤ o + 3 → k ≠ o → k ≠ o + 1 → B.heap[k]? = A.heap[k]?) (hth : B.heap[o + 1]? = some (.cells #[.bool s.2] 4 (0, 0)))
    (ho : ∃ va vc, B.heap[o]? = some (.cells #[.slice va s.1.length vc] 30 (0, 0)) ∧ B.ownsRow (o + 7) 29 encI2.k (.slice va s.1.length vc) s.1.length (flatR encI2 s.1) ∧ ((Value.slice va s.1.length vc).ownBlock = none ∨ (Value.slice va s.1.length vc).ownBlock ≠ sb))
    (hb : Below w0.heap.size w0 B) : LfW w0 n u v es ae ce o (pre ++ [x]) sb B := by
  have hlt := h.lt
  have he : lifeF n u v ((pre ++ [x]).map Ver.word) = s := by rw [List.map_append, List.map_cons, List.map_nil, lifeF_snoc, hs]
  refine ⟨(hk _ (by omega) (by omega) (by omega)).trans h.ub, (hk _ (by omega) (by omega) (by omega)).trans h.vb, ?_, ?_, (hk _ (by omega) (by omega) (by omega)).trans h.bn, (hk _ (by omega) (by omega) (by omega)).trans h.be, hb, hlt⟩
  · rw [he]; exact hth
  · rw [he]; exact ho
theorem setLast_flat (os : List (Int × Int)) (t : Int) (h : 0 < os.length) : flatR encI2 (setLast os t) = (flatR encI2 os).set ((os.length - 1) * 2 + 1) (.int .i64 t) := by
  have hx : os[os.length - 1]? = some (os.getD (os.length - 1) (0, 0)) := by
    rw [List.getD_eq_getElem?_getD, List.getElem?_eq_getElem (by omega)]; rfl
  unfold setLast
  exact flatR_set2 os (os.length - 1) (f := 1) hx (by decide) rfl
set_option maxRecDepth 100000 in
set_option maxHeartbeats 6400000 in
theorem life_any (n : Int) (es : List Ev) (u v : Int) (a : Option Addr) (cap : Nat) (w : World) (hes : RowAt encEv w (.slice a es.length cap) es) :
    Calls Tryd.prog 9 #[.int .i64 n, .slice a es.length cap, .int .i64 u, .int .i64 v] w (LifePost w (lifeX n es u v)) := by
  have hck := fun W h => hedge_any n es u v a cap W h
  have hok := fun h => edge_ok (n := n) (u := u) (v := v) (es := es) h
  have hb1 := (Below.refl w.heap.size w).alloc (Nat.le_refl _) (.cells #[.int .i64 u] 3)
  have hb2 := (Below.refl _ (w.alloc (.cells #[.int .i64 u] 3))).alloc (Nat.le_refl _) (.cells #[.int .i64 v] 3)
  have hU := lk_next hb2 (heap_alloc_new w (.cells #[.int .i64 u] 3))
  have hV := heap_alloc_new (w.alloc (.cells #[.int .i64 u] 3)) (.cells #[.int .i64 v] 3)
  have hz1 : (w.alloc (.cells #[.int .i64 u] 3)).heap.size = w.heap.size + 1 := by simp
  rw [hz1] at hV
  have hbw := hb1.trans (hb2.mono hb1.size)
  have hck2 := hck _ (hes.below hbw)
  have u0 := cell_blk (j := 0) hU
  have v0 := cell_blk (j := 0) hV
  unfold LifePost lifeX
  obtain ⟨Z, hZ⟩ : ∃ Z, edgeS n es u v = Z := ⟨_, rfl⟩
  rw [hZ] at hck2 hok ⊢
  clear hZ hck hb1 hb2 hz1
  by_cases h0 : Z = 0
  case neg =>
    have d1 : (Z != 0) = true := by simpa using h0
    rw [if_pos h0]
    clear hok h0
    refine (callsIn_wide (n := 6)).1 (callsIn_of_wp_marks Tryd.func9 rfl trivial (wpIn_wide.2 ?_))
    simp only [Tryd.ntmps9, List.size_toArray, List.length_cons, List.length_nil, Nat.reduceAdd, Nat.reduceSub, Array.replicate_succ, Array.replicate_zero, List.push_toArray, List.append_toArray, List.nil_append, List.cons_append]
    go_wp2_with fail
    refine hck2.mono ?_
    rintro _ w1 ⟨rfl, hbe⟩
    go_wp2_with fail
    exact ⟨.tuple #[.slice none 0 0, .int .i64 Z], by simp [results, Tryd.results9, go_sem], none, 0, rfl, RowAt.nil _, hbw.trans (hbe.mono hbw.size)⟩
  obtain ⟨hhis, -⟩ := hok h0
  obtain ⟨hn0, hn1, hel, hfit⟩ := his_ok hhis
  subst h0
  rw [if_neg (by simp)]
  dsimp only
  obtain ⟨os, hos⟩ : ∃ s, (lifeF n u v (verF [] false es)).1 = s := ⟨_, rfl⟩
  rw [hos]
  have HOS := Lib.hid hos
  clear hos
  clear hok hhis
  refine (callsIn_wide (n := 6)).1 (callsIn_of_wp_marks Tryd.func9 rfl trivial (wpIn_wide.2 ?_))
  simp only [Tryd.ntmps9, List.size_toArray, List.length_cons, List.length_nil, Nat.reduceAdd, Nat.reduceSub, Array.replicate_succ, Array.replicate_zero, List.push_toArray, List.append_toArray, List.nil_append, List.cons_append]
  go_wp2_with fail
  refine hck2.mono ?_
  rintro _ w1 ⟨rfl, hbe⟩
  have hbw1 := hbw.trans (hbe.mono hbw.size)
  have hU1 := lk_next hbe hU
  have hV1 := lk_next hbe hV
  have hlt := blk_lt hV1
  have hE1 := hes.below hbw1
  clear hck2 hbw hU hV u0 v0 hbe
  go_wp2_with fail
  refine (hversions_any n a es.length cap _).mono ?_
  rintro _ w2 ⟨rfl, rfl⟩
  go_wp2_with fail
  have hO0 := heap_alloc_new w1 (.cells #[.slice none 0 0] 30)
  have g0 := World.grownBy_alloc w1 (.cells #[.slice none 0 0] 30) none
  have hT0 := heap_alloc_new (w1.alloc (.cells #[.slice none 0 0] 30)) (.cells #[.bool false] 4)
  have g1 := World.grownBy_alloc (w1.alloc (.cells #[.slice none 0 0] 30)) (.cells #[.bool false] 4) none
  have hN0 := heap_alloc_new ((w1.alloc (.cells #[.slice none 0 0] 30)).alloc (.cells #[.bool false] 4)) (.cells #[.int .i64 n] 3)
  have g2 := World.grownBy_alloc ((w1.alloc (.cells #[.slice none 0 0] 30)).alloc (.cells #[.bool false] 4)) (.cells #[.int .i64 n] 3) none
  have hL0 := heap_alloc_new (((w1.alloc (.cells #[.slice none 0 0] 30)).alloc (.cells #[.bool false] 4)).alloc (.cells #[.int .i64 n] 3)) (.cells #[.slice a es.length cap] 27)
  have g3 := World.grownBy_alloc (((w1.alloc (.cells #[.slice none 0 0] 30)).alloc (.cells #[.bool false] 4)).alloc (.cells #[.int .i64 n] 3)) (.cells #[.slice a es.length cap] 27) none
  have k1 : (w1.alloc (.cells #[.slice none 0 0] 30)).heap.size = w1.heap.size + 1 := by simp
  have k2 : ((w1.alloc (.cells #[.slice none 0 0] 30)).alloc (.cells #[.bool false] 4)).heap.size = w1.heap.size + 2 := by simp
  have k3 : (((w1.alloc (.cells #[.slice none 0 0] 30)).alloc (.cells #[.bool false] 4)).alloc (.cells #[.int .i64 n] 3)).heap.size = w1.heap.size + 3 := by simp
  have k4 : ((((w1.alloc (.cells #[.slice none 0 0] 30)).alloc (.cells #[.bool false] 4)).alloc (.cells #[.int .i64 n] 3)).alloc (.cells #[.slice a es.length cap] 27)).heap.size = w1.heap.size + 4 := by simp
  rw [k1] at hT0
  rw [k2] at hN0
  rw [k3] at hL0
  have g23 := grown_trans g2 g3
  have g13 := grown_trans g1 g23
  have g03 := grown_trans g0 g13
  have h0 : LfW w n u v es a cap w1.heap.size [] none ((((w1.alloc (.cells #[.slice none 0 0] 30)).alloc (.cells #[.bool false] 4)).alloc (.cells #[.int .i64 n] 3)).alloc (.cells #[.slice a es.length cap] 27)) :=
    ⟨grown_blk g03 hU1 (by simp), grown_blk g03 hV1 (by simp), grown_blk g23 hT0 (by simp), ⟨none, 0, grown_blk g13 hO0 (by simp), World.ownsRow_nil _ _ _ _, .inl rfl⟩, grown_blk g3 hN0 (by simp), hL0, hbw1.grown g03 hbw1.size (fun k e => by cases e), hlt⟩
  obtain ⟨WL, hWL⟩ : ∃ W : World, (((w1.alloc (.cells #[.slice none 0 0] 30)).alloc (.cells #[.bool false] 4)).alloc (.cells #[.int .i64 n] 3)).alloc (.cells #[.slice a es.length cap] 27) = W := ⟨_, rfl⟩
  obtain ⟨o, hoo⟩ : ∃ o, w1.heap.size = o := ⟨_, rfl⟩
  rw [hWL] at h0 k4 ⊢
  rw [hoo] at h0 k4 hlt
  try rw [hoo]
  clear g0 g1 g2 g3 g23 g13 g03 hO0 hT0 hN0 hL0 k1 k2 k3 hWL hoo hU1 hV1 hbw1 hE1
  refine (wpIn_wide (n := 6)).1 ?_
  refine wp_range_own (gf := 33) (lb := #[.pointer (some ⟨o + 2, 0, none⟩), .pointer (some ⟨o + 3, 0, none⟩)]) rfl (enters_of Tryd.func33 (by kernel_rfl) rfl) (encs := verEnc n) (St := VerSt n (o + 4)) (sbk := Ver.blk) (E := VerE n es (o + 2) (o + 3) a cap) (S := fun xs => xs.map Ver.word = verF [] false es) (Sp := fun pre => pre.map Ver.word <+: verF [] false es)
    (fun _ => rfl) (by rw [k4]; exact versions1_own n es (o + 2) (o + 3) a cap (o + 4) hn0 hn1 hfit) (LfW w n u v es a cap o) (fun _ _ _ => False)
    (fun pre sb A B row h hg hr => h.grown hg (fun r e => by have := hr r e; omega)) (fun pre sb sb' A h hk => h.fresh hk) (fun pre sb A h => ⟨h.bn, h.be, hes.below h.below⟩) (fun _ _ _ _ _ h _ _ => h)
    (fun x A B row h hg hr => ⟨h.1.grown hg (fun g e n' c p hp => by have := h.2.1 p (Value.slice.inj hp).1; have := hr g e; omega), h.2⟩) h0 ?round ?done ?stop
  case stop => intro D c pre W hD hsp h _; exact h.elim
  case done =>
    intro D xs sb W hD hS hI hK
    rw [k4] at hD
    subst hD
    obtain ⟨va, vc, hO, hown, -⟩ := hI.out
    have hle := (lifeF_inv n u v (xs.map Ver.word)).1
    have hbe := hI.below
    rw [hS] at hO hown hle
    have hvl := verF_len es [] false
    rw [HOS.out] at hO hown hle
    have q0 := cell_blk (j := 0) hO
    clear hI hS
    go_wp2_with fail
    have hgr := grownBy_putObj' W (o + 4) (.deferred none)
    obtain ⟨_, _, hvv, hro, hpo⟩ := RowAt.of_owns hown (by omega)
    obtain ⟨rfl, -, rfl⟩ := Value.slice.inj hvv
    refine ⟨by simp, .inl ⟨_, _, rfl, run_takeDeferred hK, ?_⟩⟩
    exact ⟨.tuple #[.slice va os.length vc, .int .i64 0], by simp [results, Tryd.results9, go_sem], va, vc, rfl, hro.grown hgr (fun g e n' c p hp => by cases e; have := hpo p (Value.slice.inj hp).1; omega), hbe.grown hgr hbe.size (fun k e => by cases e; omega)⟩
  case round =>
    intro l pre x W K hi hst hsp hsz hK
    rw [k4] at hsz
    unfold verEnc
    gi_wp2
    refine hK _ _ (KeepBk.grown (World.grownBy_alloc W _ none) (by rw [k4]; exact hsz) (by simp)) (fun W2 hg2 => ?_)
    rw [k4] at hg2 ⊢
    clear hK
    have hga := World.grownBy_alloc W (.cells #[.int .i64 n, .slice x.a x.ls.length x.c, .bool x.ch] 55) (some (o + 4 + 1))
    have hgr := grown_trans hga hg2
    have hX := grown_blk hg2 (heap_alloc_new W (.cells #[.int .i64 n, .slice x.a x.ls.length x.c, .bool x.ch] 55)) (by intro e; have := Option.some.inj e; omega)
    have hi2 := hi.grown hgr (fun r e => by cases e; omega)
    have hr2 := hst.1.grown hgr (fun g e n' c p hp => by cases e; have := hst.2.1 p (Value.slice.inj hp).1; omega)
    have hln := hst.2.2.length_le
    have hfd := lfind_any n u v x.ls x.a x.c W2 hr2 (by omega)
    have u0 := cell_blk (j := 0) hi2.ub
    have v0 := cell_blk (j := 0) hi2.vb
    have x0 := cell_blk (j := 0) hX
    have x1 := cell_blk (j := 1) hX
    have hgz := hg2
    clear hga hg2 hgr
    gi_wp2
    refine ⟨trivial, (CallsIn.inRound l (callsIn_wide.2 hfd)).mono ?_⟩
    rintro _ W3 ⟨rfl, hb3⟩
    have hg3 := Below.toGrown hb3
    have hi3 := hi2.grown hg3 (by simp)
    have hr3 := hr2.below hb3
    have hz2 : o + 7 ≤ W2.heap.size := by have := blk_lt hX; have := hgz.size; simp at this; omega
    have hkb : KeepBk (o + 4) W2 W3 := KeepBk.grown hg3 (by omega) (by simp)
    have hz3 : o + 7 ≤ W3.heap.size := Nat.le_trans hz2 hkb.size
    have hpl := hsp.length_le
    rw [List.length_map, List.length_append, List.length_singleton] at hpl
    have hvl := verF_len es [] false
    obtain ⟨hinv, hinv2⟩ := lifeF_inv n u v (pre.map Ver.word)
    rw [List.length_map] at hinv
    have hst3 : VerSt n (o + 4) x W3 := ⟨hr3, hst.2⟩
    obtain ⟨va, vc, hO, hown, hne⟩ := hi3.out
    have hT := hi3.th
    have hput := fun s B => LfW.put (x := x) (s := s) (B := B) hi3
    unfold lifeStep at hput
    obtain ⟨⟨os1, th⟩, hs1⟩ : ∃ s, lifeF n u v (pre.map Ver.word) = s := ⟨_, rfl⟩
    rw [hs1] at hO hown hne hT hinv hinv2 hput
    obtain ⟨F, hF⟩ : ∃ F, lfS n x.ls u v = F := ⟨_, rfl⟩
    have hF2 : lfS n x.word.2.1 u v = F := hF
    rw [hF2] at hput
    rw [hF]
    dsimp only at hO hown hne hT hinv hinv2 hput
    have HPUT := Lib.hid hput
    have HST := Lib.hid hst3
    have HINV := Lib.hid hinv2
    have hbe3 := hi3.below
    have HKB := Lib.hid hkb
    have t0 := cell_blk (j := 0) hT
    have tf := free_blk (j := 0) hT
    have o0 := cell_blk (j := 0) hO
    have of := free_blk (j := 0) hO
    have hxw : x.word.1 = x.t := rfl
    have HXW := Lib.hid hxw
    clear hxw hfd u0 v0 x0 x1 hg3 hi3 hr3 hs1 hF hF2 hput hst hst3 hinv2 hX hi2 hb3 hkb hr2
    by_cases hF0 : 0 ≤ F
    · cases th with
      | true =>
        gi_wp2
        refine ⟨HKB.out, HST.out, HPUT.out (os1, true) W3 (by simp [hF0]) (fun _ _ _ _ => rfl) hT ⟨va, vc, hO, hown, hne⟩ hbe3⟩
      | false =>
        have hlx := rows_lit1 (E := encI2) W3 (x.t, -1) 29 #[.int .i64 x.t, .int .i64 (-1)] rfl
        have hga := World.grownBy_alloc W3 (.cells #[.int .i64 x.t, .int .i64 (-1)] 29) none
        have hT4 := grown_blk hga hT (by simp)
        have hO4 := grown_blk hga hO (by simp)
        have hown4 := hown.alloc (.cells #[.int .i64 x.t, .int .i64 (-1)] 29)
        have hz4 : o + 7 ≤ (W3.alloc (.cells #[.int .i64 x.t, .int .i64 (-1)] 29)).heap.size := by simp; omega
        have how : ∀ k, (Value.slice va os1.length vc).ownBlock = some k → o + 7 ≤ k := fun k hk => (hown.lt k hk).1
        have hns : ∀ k, k ≤ o + 6 → some k ≠ (Value.slice va os1.length vc).ownBlock := fun k hk e => by have := how k e.symm; omega
        gi_wp2_with (gi_at_builtin; refine wpListIn_app_rows_at i2RT rfl _ _ rfl (o + 7) (.slice va os1.length vc) _ os1 [(x.t, -1)] rfl (by exact hown4) rfl (by exact hlx) (by simp; omega) (by simp; omega) (by exact hz4) ?_; intro v6 W6 hown6 hg6 hat6; have hl6 : (os1 ++ [(x.t, (-1 : Int))]).length = os1.length + 1 := (by simp); have hO6 := grown_blk hg6 hO4 (hns _ (by omega)); have hT6 := grown_blk hg6 hT4 (hns _ (by omega)); rw [hl6] at hown6; obtain ⟨a6, c6, rfl⟩ := owns_shape hown6; have o6 := cell_blk (j := 0) hO6; have of6 := free_blk (j := 0) hO6; have t6 := cell_blk (j := 0) hT6; have tf6 := free_blk (j := 0) hT6)
        have hG1 := grown_trans (World.grownBy_alloc W3 (.cells #[.int .i64 x.t, .int .i64 (-1)] 29) (Value.slice va os1.length vc).ownBlock) hg6
        have hblk : ∀ k, W3.heap.size ≤ k → some k ≠ x.blk := fun k hk e => by
          unfold Ver.blk blkOf at e
          split at e
          · cases e
          · cases hxa : x.a with
            | none => rw [hxa] at e; cases e
            | some p =>
              have h1 := HST.out.1
              rw [hxa] at h1 e
              have := row_lt (by decide) h1 (by omega)
              have hkp : k = p.block := Option.some.inj e
              omega
        have hoffx : ∀ g, (Value.slice va os1.length vc).ownBlock = some g → 0 < x.ls.length → Off g (.slice x.a x.ls.length x.c) := fun g hg h0 n' c p hp => by
          have hxa := (Value.slice.inj hp).1
          intro e
          rcases hne with h | h
          · rw [h] at hg; cases hg
          · refine h ?_
            rw [hg]
            unfold Ver.blk blkOf
            rw [if_neg (by omega), hxa, ← e]
            rfl
        have hr6 := HST.out.1.grown' hG1 hoffx
        have hxb : ∀ p, x.a = some p → o + 4 + 3 ≤ p.block := HST.out.2.1
        have hB : ∀ k, k ≠ o → k ≠ o + 1 → ((W6.setCell ⟨o, 0, none⟩ (.slice a6 (os1.length + 1) c6)).setCell ⟨o + 1, 0, none⟩ (.bool true)).heap[k]? = W6.heap[k]? := fun k h1 h2 => (Below.heap_setCell _ ⟨o + 1, 0, none⟩ _ k (by show k ≠ o + 1; exact h2)).trans (Below.heap_setCell _ ⟨o, 0, none⟩ _ k (by show k ≠ o; exact h1))
        have hW : ∀ k, k ≤ o + 6 → W6.heap[k]? = W3.heap[k]? := fun k hk => hG1.block k (by omega) (hns k hk)
        have gA : W6.grownBy (W6.setCell ⟨o, 0, none⟩ (.slice a6 (os1.length + 1) c6)) (some o) := grown_lk
        have gB : (W6.setCell ⟨o, 0, none⟩ (.slice a6 (os1.length + 1) c6)).grownBy ((W6.setCell ⟨o, 0, none⟩ (.slice a6 (os1.length + 1) c6)).setCell ⟨o + 1, 0, none⟩ (.bool true)) (some (o + 1)) := grown_lk
        have hso : ∀ j, j ≤ o + 6 → (Value.slice a6 (os1.length + 1) c6).ownBlock = none ∨ (Value.slice a6 (os1.length + 1) c6).ownBlock ≠ some j := fun j hj => by
          cases hq : (Value.slice a6 (os1.length + 1) c6).ownBlock with
          | none => exact .inl rfl
          | some k => exact .inr (fun e => by have := (hown6.lt k hq).1; have := Option.some.inj e; omega)
        refine ⟨?_, ⟨?_, HST.out.2⟩, HPUT.out (os1 ++ [(x.t, -1)], true) _ (by rw [if_pos hF0, if_neg (by decide)]; rfl) (fun k h1 h2 h3 => (hB k h2 h3).trans (hW k (by omega))) ?_ ⟨a6, c6, ?_, ?_, ?_⟩ ?_⟩
        · refine HKB.out.trans ⟨Nat.le_trans hG1.size (Nat.le_trans gA.size gB.size), fun k h1 h2 => (hB k (by omega) (by omega)).trans (hW k (by omega))⟩
        · exact (hr6.grown gA (fun g e n' c p hp => by cases e; have := hxb p (Value.slice.inj hp).1; omega)).grown gB (fun g e n' c p hp => by cases e; have := hxb p (Value.slice.inj hp).1; omega)
        · exact heap_setCell_same _ _ _ _ _ _ ((Below.heap_setCell _ ⟨o, 0, none⟩ _ (o + 1) (by show o + 1 ≠ o; omega)).trans hT6)
        · rw [hl6]
          exact (Below.heap_setCell _ ⟨o + 1, 0, none⟩ _ o (by show o ≠ o + 1; omega)).trans (heap_setCell_same _ _ _ _ _ _ hO6)
        · rw [hl6]
          exact (hown6.kept gA (hso o (by omega))).kept gB (hso (o + 1) (by omega))
        · rw [hl6]
          rcases hat6 with h | h
          · rw [h]; exact hne
          · rw [h]; exact .inr (hblk _ (by simp))
        · have hb6 := hbe3.grown hG1 hbe3.size (fun k e => by have := how k e; have := hi.lt; omega)
          have h6s := hb6.size
          exact (hb6.grown gA h6s (fun k e => by cases e; have := hi.lt; omega)).grown gB (Nat.le_trans h6s gA.size) (fun k e => by cases e; have := hi.lt; omega)
    · cases th with
      | false =>
        gi_wp2
        refine ⟨HKB.out, HST.out, HPUT.out (os1, false) W3 (by rw [if_neg (by omega)]; simp) (fun _ _ _ _ => rfl) hT ⟨va, vc, hO, hown, hne⟩ hbe3⟩
      | true =>
        have hpos := HINV.out rfl
        obtain ⟨g, cg, hvg, hbg, hgl⟩ : ∃ g cg, Value.slice va os1.length vc = .slice (some ⟨g, 0, none⟩) os1.length cg ∧ o + 7 ≤ g ∧ g < W3.heap.size := by
          rcases hown.2 with ⟨_, h0⟩ | ⟨g, cg, cur, hvg, hbg, hgh, -⟩
          · omega
          · exact ⟨g, cg, hvg, hbg, blk_lt hgh⟩
        obtain ⟨rfl, -, rfl⟩ := Value.slice.inj hvg
        have hj2 : (os1.length - 1) * 2 + 1 < os1.length * 2 := by omega
        have hcell := hown.cellAt ((os1.length - 1) * 2 + 1) hj2
        have hcl : (flatR encI2 os1)[(os1.length - 1) * 2 + 1]? = some ((flatR encI2 os1)[(os1.length - 1) * 2 + 1]'(by rw [flatR_length]; exact hj2)) := List.getElem?_eq_getElem _
        obtain ⟨cv, hcv⟩ : ∃ cv, W3.cell? ⟨g, (os1.length - 1) * 2 + 1, none⟩ = some cv := ⟨_, hcell.trans hcl⟩
        have hfro := hown.frozenAt ((os1.length - 1) * 2 + 1)
        have hst5 := hown.stored ((os1.length - 1) * 2 + 1) (.int .i64 x.t)
        rw [← setLast_flat os1 x.t hpos] at hst5
        have v1 : IntKind.i64.wrap ((os1.length : Int) - 1) = ((os1.length - 1 : Nat) : Int) := by rw [IntWalk.i64_in _ (by omega)]; omega
        clear hvg hcl hcell
        have hlt6 : os1.length - 1 < os1.length := by omega
        gi_wp2
        obtain ⟨hs5, hg5⟩ := hst5
        have hgx : some g ≠ x.blk := by
          rcases hne with h | h
          · cases h
          · exact h
        have hoffx : ∀ k, some g = some k → 0 < x.ls.length → Off k (.slice x.a x.ls.length x.c) := fun k hk h0 n' c p hp => by
          cases hk
          have hxa := (Value.slice.inj hp).1
          intro e
          refine hgx ?_
          unfold Ver.blk blkOf
          rw [if_neg (by omega), hxa, ← e]
          rfl
        have hxb : ∀ p, x.a = some p → o + 4 + 3 ≤ p.block := HST.out.2.1
        have hr6 := HST.out.1.grown' hg5 hoffx
        have gB : (W3.setCell ⟨g, (os1.length - 1) * 2 + 1, none⟩ (.int .i64 x.t)).grownBy ((W3.setCell ⟨g, (os1.length - 1) * 2 + 1, none⟩ (.int .i64 x.t)).setCell ⟨o + 1, 0, none⟩ (.bool false)) (some (o + 1)) := grown_lk
        have hB : ∀ k, k ≠ g → k ≠ o + 1 → ((W3.setCell ⟨g, (os1.length - 1) * 2 + 1, none⟩ (.int .i64 x.t)).setCell ⟨o + 1, 0, none⟩ (.bool false)).heap[k]? = W3.heap[k]? := fun k h1 h2 => (Below.heap_setCell _ ⟨o + 1, 0, none⟩ _ k (by show k ≠ o + 1; exact h2)).trans (Below.heap_setCell _ ⟨g, (os1.length - 1) * 2 + 1, none⟩ _ k (by show k ≠ g; exact h1))
        have hll : (setLast os1 x.t).length = os1.length := by unfold setLast; rw [List.length_set]
        have hbe := hi.lt
        refine ⟨?_, ⟨?_, HST.out.2⟩, HPUT.out (setLast os1 x.t, false) _ (by rw [if_neg (by omega), if_pos trivial]; rfl) (fun k h1 h2 h3 => hB k (by omega) h3) ?_ ⟨some ⟨g, 0, none⟩, vc, ?_, ?_, ?_⟩ ?_⟩
        · exact HKB.out.trans ⟨Nat.le_trans hg5.size gB.size, fun k h1 h2 => hB k (by omega) (by omega)⟩
        · exact hr6.grown gB (fun g e n' c p hp => by cases e; have := hxb p (Value.slice.inj hp).1; omega)
        · exact heap_setCell_same _ _ _ _ _ _ ((Below.heap_setCell _ ⟨g, (os1.length - 1) * 2 + 1, none⟩ _ (o + 1) (by show o + 1 ≠ g; omega)).trans hT)
        · rw [hll]
          exact (hB o (by omega) (by omega)).trans hO
        · rw [hll]
          exact hs5.kept gB (.inr (by intro e; have h9 : g = o + 1 := Option.some.inj e; omega))
        · rw [hll]
          exact .inr hgx
        · have hb6 := hbe3.grown hg5 hbe3.size (fun k e => by cases e; omega)
          exact hb6.grown gB hb6.size (fun k e => by cases e; omega)
end Go.Proofs.YtpblaoeaeljmhaaDoor
