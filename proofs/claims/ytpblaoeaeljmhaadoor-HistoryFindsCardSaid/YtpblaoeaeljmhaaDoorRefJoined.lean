/- history.Joined: the first time at which all nodes of a set lie in one component. The reference's search over links: what its list of reached nodes holds. The reference's joined and Joined. -/
import Derived.Test.YtpblaoeaeljmhaaDoorLkJoined
import Derived.Test.YtpblaoeaeljmhaaDoorHisLife
import Derived.Test.YtpblaoeaeljmhaaDoorSets
import Derived.Test.YtpblaoeaeljmhaaDoorRefLife
namespace Go.Proofs.YtpblaoeaeljmhaaDoor
open Go.RowKit Go.BigFrame
attribute [local go_sem] Oper.semAt_some

/-- the first version in which the nodes are joined -/
def JoinedR (xs : List Int) : List (Int × List Lk × Bool) → Int → Bool → Prop
  | [], t, ok => ok = false ∧ t = 0
  | x :: V, t, ok => (JoinP (edgesL x.2.1) xs ∧ ok = true ∧ t = x.1) ∨ (¬ JoinP (edgesL x.2.1) xs ∧ JoinedR xs V t ok)
theorem JoinedR.det {xs : List Int} : ∀ {V : List (Int × List Lk × Bool)} {t t' : Int} {ok ok' : Bool}, JoinedR xs V t ok → JoinedR xs V t' ok' → t = t' ∧ ok = ok' := by
  intro V
  induction V with
  | nil => intro t t' ok ok' h h'; exact ⟨h.2.trans h'.2.symm, h.1.trans h'.1.symm⟩
  | cons x V ih =>
    intro t t' ok ok' h h'
    rcases h with ⟨h1, h2, h3⟩ | ⟨h1, h2⟩ <;> rcases h' with ⟨k1, k2, k3⟩ | ⟨k1, k2⟩
    · exact ⟨h3.trans k3.symm, h2.trans k2.symm⟩
    · exact absurd h1 k1
    · exact absurd k1 h1
    · exact ih h2 k2
theorem JoinedR.skip {xs : List Int} {V : List (Int × List Lk × Bool)} {t : Int} {ok : Bool} : ∀ {pre : List (Int × List Lk × Bool)}, (∀ y ∈ pre, ¬ JoinP (edgesL y.2.1) xs) → JoinedR xs V t ok → JoinedR xs (pre ++ V) t ok := by
  intro pre
  induction pre with
  | nil => intro _ h; exact h
  | cons x pre ih => intro h h2; exact .inr ⟨h x List.mem_cons_self, ih (fun y hy => h y (List.mem_cons_of_mem _ hy)) h2⟩
theorem JoinedR.none {xs : List Int} {V : List (Int × List Lk × Bool)} (h : ∀ y ∈ V, ¬ JoinP (edgesL y.2.1) xs) : JoinedR xs V 0 false := by
  have := JoinedR.skip (V := []) h ⟨rfl, rfl⟩
  rwa [List.append_nil] at this
def JdX (n : Int) (es : List Ev) (xs : List Int) (t : Int) (ok : Bool) (z : Int) : Prop :=
  if hisS n es ≠ 0 then t = 0 ∧ ok = false ∧ z = hisS n es else if validZ none xs n = false then t = 0 ∧ ok = false ∧ z = 6 else if xs.length < 2 then t = 0 ∧ ok = true ∧ z = 0 else JoinedR xs (verF [] false es) t ok ∧ z = 0
theorem JdX.det {n : Int} {es : List Ev} {xs : List Int} {t t' z z' : Int} {ok ok' : Bool} (h : JdX n es xs t ok z) (h' : JdX n es xs t' ok' z') : t = t' ∧ ok = ok' ∧ z = z' := by
  unfold JdX at h h'
  split at h
  · rename_i h0; rw [if_pos h0] at h'; exact ⟨h.1.trans h'.1.symm, h.2.1.trans h'.2.1.symm, h.2.2.trans h'.2.2.symm⟩
  · rename_i h0
    rw [if_neg h0] at h'
    split at h
    · rename_i h1; rw [if_pos h1] at h'; exact ⟨h.1.trans h'.1.symm, h.2.1.trans h'.2.1.symm, h.2.2.trans h'.2.2.symm⟩
    · rename_i h1
      rw [if_neg h1] at h'
      split at h
      · rename_i h2; rw [if_pos h2] at h'; exact ⟨h.1.trans h'.1.symm, h.2.1.trans h'.2.1.symm, h.2.2.trans h'.2.2.symm⟩
      · rename_i h2
        rw [if_neg h2] at h'
        obtain ⟨d1, d2⟩ := JoinedR.det h.1 h'.1
        exact ⟨d1, d2, h.2.trans h'.2.symm⟩
def JdPost (n : Int) (es : List Ev) (xs : List Int) (w : World) (e : Ending) (w' : World) : Prop :=
  ∃ t ok z, e = .returned (.tuple #[.int .i64 t, .bool ok, .int .i64 z]) ∧ JdX n es xs t ok z ∧ Below w.heap.size w w'
theorem validZ_in {n : Int} : ∀ {xs : List Int} {p : Option Int}, validZ p xs n = true → ∀ x ∈ xs, 0 ≤ x ∧ x < n := by
  intro xs
  induction xs with
  | nil => intro p _ x hx; cases hx
  | cons y ys ih =>
    intro p h x hx
    unfold validZ at h
    simp only [Bool.and_eq_true, decide_eq_true_eq] at h
    rcases List.mem_cons.1 hx with rfl | hx
    · exact ⟨h.1.1.1, h.1.1.2⟩
    · exact ih h.2 x hx
/-- three results in three boxes -/
theorem set_one {W : World} {b T : Nat} {x v : Value} (h : W.heap[b]? = some (.cells #[x] T (0, 0))) : (W.setCell ⟨b, 0, none⟩ v).heap[b]? = some (.cells #[v] T (0, 0)) := heap_setCell_same _ _ _ _ _ _ h
structure JrW (w0 : World) (aS : Option Addr) (cS len : Nat) (t : Int) (ok : Bool) (z : Int) (W : World) : Prop where
  bs : W.heap[w0.heap.size]? = some (.cells #[.slice aS len cS] 22 (0, 0))
  r0 : W.heap[w0.heap.size + 1]? = some (.cells #[.int .i64 t] 3 (0, 0))
  r1 : W.heap[w0.heap.size + 1 + 1]? = some (.cells #[.bool ok] 4 (0, 0))
  r2 : W.heap[w0.heap.size + 1 + 1 + 1]? = some (.cells #[.int .i64 z] 31 (0, 0))
  below : Below w0.heap.size w0 W
section
variable {w0 A B : World} {aS : Option Addr} {cS len : Nat} {t z : Int} {ok : Bool}
theorem JrW.start (w : World) (aS : Option Addr) (cS len : Nat) : JrW w aS cS len 0 false 0 ((((w.alloc (.cells #[.slice aS len cS] 22)).alloc (.cells #[.int .i64 0] 3)).alloc (.cells #[.bool false] 4)).alloc (.cells #[.int .i64 0] 31)) := by
  have k1 : (w.alloc (.cells #[.slice aS len cS] 22)).heap.size = w.heap.size + 1 := by simp
  have k2 : ((w.alloc (.cells #[.slice aS len cS] 22)).alloc (.cells #[.int .i64 0] 3)).heap.size = w.heap.size + 1 + 1 := by simp
  have k3 : (((w.alloc (.cells #[.slice aS len cS] 22)).alloc (.cells #[.int .i64 0] 3)).alloc (.cells #[.bool false] 4)).heap.size = w.heap.size + 1 + 1 + 1 := by simp
  have b0 := (Below.refl w.heap.size w).alloc (Nat.le_refl _) (.cells #[.slice aS len cS] 22)
  have b1 := (Below.refl _ (w.alloc (.cells #[.slice aS len cS] 22))).alloc (Nat.le_refl _) (.cells #[.int .i64 0] 3)
  have b2 := (Below.refl _ ((w.alloc (.cells #[.slice aS len cS] 22)).alloc (.cells #[.int .i64 0] 3))).alloc (Nat.le_refl _) (.cells #[.bool false] 4)
  have b3 := (Below.refl _ (((w.alloc (.cells #[.slice aS len cS] 22)).alloc (.cells #[.int .i64 0] 3)).alloc (.cells #[.bool false] 4))).alloc (Nat.le_refl _) (.cells #[.int .i64 0] 31)
  have h0 := heap_alloc_new w (.cells #[.slice aS len cS] 22)
  have h1 := heap_alloc_new (w.alloc (.cells #[.slice aS len cS] 22)) (.cells #[.int .i64 0] 3)
  have h2 := heap_alloc_new ((w.alloc (.cells #[.slice aS len cS] 22)).alloc (.cells #[.int .i64 0] 3)) (.cells #[.bool false] 4)
  have h3 := heap_alloc_new (((w.alloc (.cells #[.slice aS len cS] 22)).alloc (.cells #[.int .i64 0] 3)).alloc (.cells #[.bool false] 4)) (.cells #[.int .i64 0] 31)
  rw [k1] at h1
  rw [k2] at h2
  rw [k3] at h3
  have b12 := b1.trans (b2.mono b1.size)
  have b123 := b12.trans (b3.mono b12.size)
  have b23 := b2.trans (b3.mono b2.size)
  exact ⟨lk_next b123 h0, lk_next b23 h1, lk_next b3 h2, h3, b0.trans (b123.mono b0.size)⟩
theorem JrW.grown {row : Option Nat} (h : JrW w0 aS cS len t ok z A) (hg : A.grownBy B row) (hr : ∀ r, row = some r → w0.heap.size + 4 ≤ r) : JrW w0 aS cS len t ok z B := by
  have hne : ∀ k, k ≤ w0.heap.size + 3 → some k ≠ row := fun k hk e => by have := hr k e.symm; omega
  exact ⟨grown_blk hg h.bs (hne _ (by omega)), grown_blk hg h.r0 (hne _ (by omega)), grown_blk hg h.r1 (hne _ (by omega)), grown_blk hg h.r2 (hne _ (by omega)), h.below.grown hg h.below.size (fun k e => by have := hr k e; omega)⟩
theorem JrW.next (h : JrW w0 aS cS len t ok z A) (hb : Below A.heap.size A B) : JrW w0 aS cS len t ok z B := h.grown (Below.toGrown hb) (fun r e => by cases e)
theorem JrW.put (h : JrW w0 aS cS len t ok z A) (t' : Int) (ok' : Bool) (z' : Int) : JrW w0 aS cS len t' ok' z' (((A.setCell ⟨w0.heap.size + 1, 0, none⟩ (.int .i64 t')).setCell ⟨w0.heap.size + 1 + 1, 0, none⟩ (.bool ok')).setCell ⟨w0.heap.size + 1 + 1 + 1, 0, none⟩ (.int .i64 z')) := by
  have g1 : A.grownBy (A.setCell ⟨w0.heap.size + 1, 0, none⟩ (.int .i64 t')) (some (w0.heap.size + 1)) := grown_lk
  have g2 : (A.setCell ⟨w0.heap.size + 1, 0, none⟩ (.int .i64 t')).grownBy ((A.setCell ⟨w0.heap.size + 1, 0, none⟩ (.int .i64 t')).setCell ⟨w0.heap.size + 1 + 1, 0, none⟩ (.bool ok')) (some (w0.heap.size + 1 + 1)) := grown_lk
  have g3 : ((A.setCell ⟨w0.heap.size + 1, 0, none⟩ (.int .i64 t')).setCell ⟨w0.heap.size + 1 + 1, 0, none⟩ (.bool ok')).grownBy (((A.setCell ⟨w0.heap.size + 1, 0, none⟩ (.int .i64 t')).setCell ⟨w0.heap.size + 1 + 1, 0, none⟩ (.bool ok')).setCell ⟨w0.heap.size + 1 + 1 + 1, 0, none⟩ (.int .i64 z')) (some (w0.heap.size + 1 + 1 + 1)) := grown_lk
  have hne : ∀ k m : Nat, k ≠ m → some k ≠ some m := fun k m hk e => hk (Option.some.inj e)
  refine ⟨grown_blk g3 (grown_blk g2 (grown_blk g1 h.bs (hne _ _ (by omega))) (hne _ _ (by omega))) (hne _ _ (by omega)), grown_blk g3 (grown_blk g2 (set_one h.r0) (hne _ _ (by omega))) (hne _ _ (by omega)), grown_blk g3 (set_one (grown_blk g1 h.r1 (hne _ _ (by omega)))) (hne _ _ (by omega)), set_one (grown_blk g2 (grown_blk g1 h.r2 (hne _ _ (by omega))) (hne _ _ (by omega))), ?_⟩
  have b1 := h.below.grown g1 h.below.size (fun k e => by cases e; omega)
  have b2 := b1.grown g2 b1.size (fun k e => by cases e; omega)
  exact b2.grown g3 b2.size (fun k e => by cases e; omega)
end
structure JnW (w0 : World) (n : Int) (es : List Ev) (ae aS : Option Addr) (ce cS len o : Nat) (t : Int) (ok : Bool) (z : Int) (W : World) : Prop where
  j : JrW w0 aS cS len t ok z W
  bn : W.heap[o]? = some (.cells #[.int .i64 n] 3 (0, 0))
  be : W.heap[o + 1]? = some (.cells #[.slice ae es.length ce] 27 (0, 0))
  lt : w0.heap.size + 4 ≤ o
theorem JnW.grown {w0 A B : World} {n : Int} {es : List Ev} {ae aS : Option Addr} {ce cS len o : Nat} {t z : Int} {ok : Bool} {row : Option Nat} (h : JnW w0 n es ae aS ce cS len o t ok z A) (hg : A.grownBy B row) (hr : ∀ r, row = some r → o + 2 ≤ r ∧ r ≤ o + 4) : JnW w0 n es ae aS ce cS len o t ok z B := by
  have hlt := h.lt
  have hne : ∀ k, k ≤ o + 1 → some k ≠ row := fun k hk e => by have := hr k e.symm; omega
  exact ⟨h.j.grown hg (fun r e => by have := hr r e; omega), grown_blk hg h.bn (hne _ (by omega)), grown_blk hg h.be (hne _ (by omega)), hlt⟩
theorem JnW.put {w0 A : World} {n : Int} {es : List Ev} {ae aS : Option Addr} {ce cS len o : Nat} {t z : Int} {ok : Bool} (h : JnW w0 n es ae aS ce cS len o t ok z A) (t' : Int) (ok' : Bool) (z' : Int) (hs : o + 5 ≤ A.heap.size) :
    JnW w0 n es ae aS ce cS len o t' ok' z' (((A.setCell ⟨w0.heap.size + 1, 0, none⟩ (.int .i64 t')).setCell ⟨w0.heap.size + 1 + 1, 0, none⟩ (.bool ok')).setCell ⟨w0.heap.size + 1 + 1 + 1, 0, none⟩ (.int .i64 z')) ∧ KeepBk (o + 2) A (((A.setCell ⟨w0.heap.size + 1, 0, none⟩ (.int .i64 t')).setCell ⟨w0.heap.size + 1 + 1, 0, none⟩ (.bool ok')).setCell ⟨w0.heap.size + 1 + 1 + 1, 0, none⟩ (.int .i64 z')) := by
  have hlt := h.lt
  have g1 : A.grownBy (A.setCell ⟨w0.heap.size + 1, 0, none⟩ (.int .i64 t')) (some (w0.heap.size + 1)) := grown_lk
  have g2 : (A.setCell ⟨w0.heap.size + 1, 0, none⟩ (.int .i64 t')).grownBy ((A.setCell ⟨w0.heap.size + 1, 0, none⟩ (.int .i64 t')).setCell ⟨w0.heap.size + 1 + 1, 0, none⟩ (.bool ok')) (some (w0.heap.size + 1 + 1)) := grown_lk
  have g3 : ((A.setCell ⟨w0.heap.size + 1, 0, none⟩ (.int .i64 t')).setCell ⟨w0.heap.size + 1 + 1, 0, none⟩ (.bool ok')).grownBy (((A.setCell ⟨w0.heap.size + 1, 0, none⟩ (.int .i64 t')).setCell ⟨w0.heap.size + 1 + 1, 0, none⟩ (.bool ok')).setCell ⟨w0.heap.size + 1 + 1 + 1, 0, none⟩ (.int .i64 z')) (some (w0.heap.size + 1 + 1 + 1)) := grown_lk
  have hne : ∀ k m : Nat, k ≠ m → some k ≠ some m := fun k m hk e => hk (Option.some.inj e)
  have k1 := KeepBk.grown (b := o + 2) g1 (by omega) (fun r e => by cases e; omega)
  have k2 := KeepBk.grown (b := o + 2) g2 (Nat.le_trans (by omega) g1.size) (fun r e => by cases e; omega)
  have k3 := KeepBk.grown (b := o + 2) g3 (Nat.le_trans (Nat.le_trans (by omega) g1.size) g2.size) (fun r e => by cases e; omega)
  exact ⟨⟨h.j.put t' ok' z', grown_blk g3 (grown_blk g2 (grown_blk g1 h.bn (hne _ _ (by omega))) (hne _ _ (by omega))) (hne _ _ (by omega)), grown_blk g3 (grown_blk g2 (grown_blk g1 h.be (hne _ _ (by omega))) (hne _ _ (by omega))) (hne _ _ (by omega)), hlt⟩, (k1.trans k2).trans k3⟩
set_option maxRecDepth 100000 in
set_option maxHeartbeats 6400000 in
theorem hjoined_any (n : Int) (es : List Ev) (xs : List Int) (a aS : Option Addr) (cap cS : Nat) (w : World) (hes : RowAt encEv w (.slice a es.length cap) es) (hi : IntsAt w (.slice aS xs.length cS) xs) (hTz : TzAt w) :
    Calls Tryd.prog 14 #[.int .i64 n, .slice a es.length cap, .slice aS xs.length cS] w (JdPost n es xs w) := by
  have hok := fun h => his_ok (n := n) (es := es) h
  have hJ := JrW.start w aS cS xs.length
  have hck := hcheck_any n es a cap _ (hes.below hJ.below)
  obtain ⟨JX, hJX⟩ : ∃ P : Int → Bool → Int → Prop, JdX n es xs = P := ⟨_, rfl⟩
  unfold JdPost
  rw [hJX]
  have HJX : Hid (∀ t ok z, (if hisS n es ≠ 0 then t = 0 ∧ ok = false ∧ z = hisS n es else if validZ none xs n = false then t = 0 ∧ ok = false ∧ z = 6 else if xs.length < 2 then t = 0 ∧ ok = true ∧ z = 0 else JoinedR xs (verF [] false es) t ok ∧ z = 0) → JX t ok z) := by
    show ∀ t ok z, _ → _
    intro t ok z h
    rw [← hJX]
    exact h
  clear hJX
  obtain ⟨Z, hZ⟩ : ∃ Z, hisS n es = Z := ⟨_, rfl⟩
  rw [hZ] at hck hok HJX
  clear hZ
  have s0 := cell_blk (j := 0) hJ.bs
  have q0 := cell_blk (j := 0) hJ.r0
  have q1 := cell_blk (j := 0) hJ.r1
  have q2 := cell_blk (j := 0) hJ.r2
  by_cases h0 : Z = 0
  case neg =>
    have d1 : (Z == 0) = false := by simpa using h0
    have d2 : (Z != 0) = true := by simpa using h0
    have hjx := HJX.out 0 false Z (by rw [if_pos h0]; exact ⟨rfl, rfl, rfl⟩)
    clear hok h0 HJX
    refine (callsIn_wide (n := 6)).1 (callsIn_of_wp_marks Tryd.func14 rfl trivial (wpIn_wide.2 ?_))
    simp only [Tryd.ntmps14, List.size_toArray, List.length_cons, List.length_nil, Nat.reduceAdd, Nat.reduceSub, Array.replicate_succ, Array.replicate_zero, List.push_toArray, List.append_toArray, List.nil_append, List.cons_append]
    go_wp2_with fail
    refine hck.mono ?_
    rintro _ w1 ⟨rfl, hbe⟩
    have hJ1 := hJ.next hbe
    have r0 := cell_blk (j := 0) hJ1.r0
    have r1 := cell_blk (j := 0) hJ1.r1
    have r2 := cell_blk (j := 0) hJ1.r2
    have f0 := free_blk (j := 0) hJ1.r0
    have f1 := free_blk (j := 0) hJ1.r1
    have f2 := free_blk (j := 0) hJ1.r2
    clear s0 q0 q1 q2
    go_wp2_with fail
    have hJ2 := hJ1.put 0 false Z
    have t0 := cell_blk (j := 0) hJ2.r0
    have t1 := cell_blk (j := 0) hJ2.r1
    have t2 := cell_blk (j := 0) hJ2.r2
    exact ⟨.tuple #[.int .i64 0, .bool false, .int .i64 Z], by simp [results, Tryd.results14, go_sem, t0, t1, t2], 0, false, Z, rfl, hjx, hJ2.below⟩
  obtain ⟨hn0, hn1, hel, hfit⟩ := hok h0
  subst h0
  have hjx := fun t ok z => HJX.out t ok z
  simp only [ne_eq, not_true_eq_false, ↓reduceIte] at hjx
  have HJX2 := Lib.hid hjx
  clear hok HJX hjx
  refine (callsIn_wide (n := 6)).1 (callsIn_of_wp_marks Tryd.func14 rfl trivial (wpIn_wide.2 ?_))
  simp only [Tryd.ntmps14, List.size_toArray, List.length_cons, List.length_nil, Nat.reduceAdd, Nat.reduceSub, Array.replicate_succ, Array.replicate_zero, List.push_toArray, List.append_toArray, List.nil_append, List.cons_append]
  go_wp2_with fail
  refine hck.mono ?_
  rintro _ w1 ⟨rfl, hbe⟩
  have hJ1 := hJ.next hbe
  have hi1 := hi.below hJ1.below
  have hnv := nvalidZ_any aS cS xs n _ hi1
  have s1 := cell_blk (j := 0) hJ1.bs
  have r0 := cell_blk (j := 0) hJ1.r0
  have r1 := cell_blk (j := 0) hJ1.r1
  have r2 := cell_blk (j := 0) hJ1.r2
  have f0 := free_blk (j := 0) hJ1.r0
  have f1 := free_blk (j := 0) hJ1.r1
  have f2 := free_blk (j := 0) hJ1.r2
  have hJlt := blk_lt hJ1.r2
  clear s0 q0 q1 q2 hck hJ hbe
  cases hvz : validZ none xs n with
  | false =>
    have hjx := HJX2.out 0 false 6 (by rw [if_pos hvz]; exact ⟨rfl, rfl, rfl⟩)
    rw [hvz] at hnv
    clear hvz HJX2
    go_wp2_with fail
    refine hnv.mono ?_
    rintro _ w2 ⟨rfl, rfl⟩
    go_wp2_with fail
    have hJ2 := hJ1.put 0 false 6
    have t0 := cell_blk (j := 0) hJ2.r0
    have t1 := cell_blk (j := 0) hJ2.r1
    have t2 := cell_blk (j := 0) hJ2.r2
    exact ⟨.tuple #[.int .i64 0, .bool false, .int .i64 6], by simp [results, Tryd.results14, go_sem, t0, t1, t2], 0, false, 6, rfl, hjx, hJ2.below⟩
  | true =>
    rw [hvz] at hnv
    have hin := validZ_in hvz
    have HJX3 : Hid (∀ t ok z, (if xs.length < 2 then t = 0 ∧ ok = true ∧ z = 0 else JoinedR xs (verF [] false es) t ok ∧ z = 0) → JX t ok z) := by
      show ∀ t ok z, _ → _
      intro t ok z h
      exact HJX2.out t ok z (by rw [if_neg (by rw [hvz]; simp)]; exact h)
    have HIN := Lib.hid hin
    clear hvz HJX2 hin
    by_cases h2 : xs.length < 2
    · have hjx := HJX3.out 0 true 0 (by rw [if_pos h2]; exact ⟨rfl, rfl, rfl⟩)
      have h23 : (xs.length : Int) < 2 := by omega
      clear HJX3
      go_wp2_with fail
      refine hnv.mono ?_
      rintro _ w2 ⟨rfl, rfl⟩
      go_wp2_with fail
      have hJ2 := hJ1.put 0 true 0
      have t0 := cell_blk (j := 0) hJ2.r0
      have t1 := cell_blk (j := 0) hJ2.r1
      have t2 := cell_blk (j := 0) hJ2.r2
      exact ⟨.tuple #[.int .i64 0, .bool true, .int .i64 0], by simp [results, Tryd.results14, go_sem, t0, t1, t2], 0, true, 0, rfl, hjx, hJ2.below⟩
    · have h23 : ¬ (xs.length : Int) < 2 := by omega
      have HJX4 : Hid (∀ t ok, JoinedR xs (verF [] false es) t ok → JX t ok 0) := by
        show ∀ t ok, _ → _
        intro t ok h
        exact HJX3.out t ok 0 (by rw [if_neg h2]; exact ⟨h, rfl⟩)
      obtain ⟨N, rfl⟩ := Int.eq_ofNat_of_zero_le hn0
      clear HJX3
      go_wp2_with fail
      refine hnv.mono ?_
      rintro _ w2 ⟨rfl, rfl⟩
      clear hnv
      go_wp2_with fail
      refine (hversions_any N a es.length cap _).mono ?_
      rintro _ w2 ⟨rfl, rfl⟩
      clear s1 r0 r1 r2 f0 f1 f2
      go_wp2_with fail
      have hN0 := heap_alloc_new w1 (.cells #[.int .i64 N] 3)
      have g1 := World.grownBy_alloc w1 (.cells #[.int .i64 N] 3) none
      have hL0 := heap_alloc_new (w1.alloc (.cells #[.int .i64 N] 3)) (.cells #[.slice a es.length cap] 27)
      have g2 := World.grownBy_alloc (w1.alloc (.cells #[.int .i64 N] 3)) (.cells #[.slice a es.length cap] 27) none
      have k1 : (w1.alloc (.cells #[.int .i64 N] 3)).heap.size = w1.heap.size + 1 := by simp
      have k4 : ((w1.alloc (.cells #[.int .i64 N] 3)).alloc (.cells #[.slice a es.length cap] 27)).heap.size = w1.heap.size + 2 := by simp
      rw [k1] at hL0
      have g02 := grown_trans g1 g2
      have h0 : JnW w N es a aS cap cS xs.length w1.heap.size 0 false 0 ((w1.alloc (.cells #[.int .i64 N] 3)).alloc (.cells #[.slice a es.length cap] 27)) :=
        ⟨hJ1.grown g02 (fun r e => by cases e), grown_blk g2 hN0 (by simp), hL0, by omega⟩
      obtain ⟨WL, hWL⟩ : ∃ W : World, (w1.alloc (.cells #[.int .i64 N] 3)).alloc (.cells #[.slice a es.length cap] 27) = W := ⟨_, rfl⟩
      obtain ⟨o, hoo⟩ : ∃ o, w1.heap.size = o := ⟨_, rfl⟩
      rw [hWL] at h0 k4 ⊢
      rw [hoo] at h0 k4 hJlt
      try rw [hoo]
      clear g1 g2 g02 hN0 hL0 k1 hWL hoo hJ1 hi1
      refine (wpIn_wide (n := 6)).1 ?_
      refine wp_range_own (gf := 33) (lb := #[.pointer (some ⟨o, 0, none⟩), .pointer (some ⟨o + 1, 0, none⟩)]) rfl (enters_of Tryd.func33 (by kernel_rfl) rfl) (encs := verEnc N) (St := VerSt N (o + 2)) (sbk := Ver.blk) (E := VerE N es o (o + 1) a cap) (S := fun xs => xs.map Ver.word = verF [] false es) (Sp := fun pre => pre.map Ver.word <+: verF [] false es)
        (fun _ => rfl) (by rw [k4]; exact versions1_own N es o (o + 1) a cap (o + 2) hn0 hn1 hfit) (fun pre _ W => (∀ x ∈ pre.map Ver.word, ¬ JoinP (edgesL x.2.1) xs) ∧ JnW w N es a aS cap cS xs.length o 0 false 0 W) (fun c pre W => ∃ pre0 x, c = .ret ∧ pre = pre0 ++ [x] ∧ (∀ y ∈ pre0.map Ver.word, ¬ JoinP (edgesL y.2.1) xs) ∧ JoinP (edgesL x.ls) xs ∧ JnW w N es a aS cap cS xs.length o x.t true 0 W)
        (fun pre sb A B row h hg hr => ⟨h.1, h.2.grown hg (fun r e => by have := hr r e; omega)⟩) (fun pre sb sb' A h hk => h) (fun pre sb A h => ⟨h.2.bn, h.2.be, hes.below h.2.j.below⟩)
        (fun c pre A B row h hg hr => by obtain ⟨pre0, x, h1, h2, h3, h4, h5⟩ := h; exact ⟨pre0, x, h1, h2, h3, h4, h5.grown hg (fun r e => by have := hr r e; omega)⟩)
        (fun x A B row h hg hr => ⟨h.1.grown hg (fun g e n' c p hp => by have := h.2.1 p (Value.slice.inj hp).1; have := hr g e; omega), h.2⟩) ⟨by simp, h0⟩ ?round ?done ?stop
      case round =>
        intro l pre x W K hi' hst hsp hsz hK
        rw [k4] at hsz
        unfold verEnc
        gi_wp2
        refine hK _ _ (KeepBk.grown (World.grownBy_alloc W _ none) (by rw [k4]; exact hsz) (by simp)) (fun W2 hg2 => ?_)
        rw [k4] at hg2 ⊢
        clear hK
        obtain ⟨hall, hi2⟩ := hi'
        have hga := World.grownBy_alloc W (.cells #[.int .i64 N, .slice x.a x.ls.length x.c, .bool x.ch] 55) (some (o + 2 + 1))
        have hgr := grown_trans hga hg2
        have hX := grown_blk hg2 (heap_alloc_new W (.cells #[.int .i64 N, .slice x.a x.ls.length x.c, .bool x.ch] 55)) (by intro e; have := Option.some.inj e; omega)
        have hi3 := hi2.grown hgr (fun r e => by cases e; omega)
        have hr2 := hst.1.grown hgr (fun g e n' c p hp => by cases e; have := hst.2.1 p (Value.slice.inj hp).1; omega)
        have x0 := cell_blk (j := 0) hX
        have x1 := cell_blk (j := 1) hX
        have s0 := cell_blk (j := 0) hi3.j.bs
        have hjn := ljoined_any N x.a aS x.c cS x.ls xs W2 hr2 hst.2.2 (hi.below hi3.j.below) HIN.out (by omega) (hTz.below hi3.j.below)
        have hz2 : o + 5 ≤ W2.heap.size := by have := blk_lt hX; have := hgr.size; omega
        have HALL := Lib.hid hall
        have HST := Lib.hid hst
        clear hall hst hga hg2 hgr hi2 hsp
        gi_wp2
        refine ⟨trivial, (CallsIn.inRound l (callsIn_wide.2 hjn)).mono ?_⟩
        rintro _ W3 ⟨bb, rfl, hbb, hb3⟩
        have hg3 := Below.toGrown hb3
        have hi4 := hi3.grown hg3 (by simp)
        have hr3 := hr2.below hb3
        have hkb : KeepBk (o + 2) W2 W3 := KeepBk.grown hg3 (by omega) (by simp)
        have hz3 : o + 5 ≤ W3.heap.size := Nat.le_trans hz2 hkb.size
        have HBB := Lib.hid hbb
        have r0 := cell_blk (j := 0) hi4.j.r0
        have r1 := cell_blk (j := 0) hi4.j.r1
        have r2 := cell_blk (j := 0) hi4.j.r2
        have f0 := free_blk (j := 0) hi4.j.r0
        have f1 := free_blk (j := 0) hi4.j.r1
        have f2 := free_blk (j := 0) hi4.j.r2
        have HKB := Lib.hid hkb
        clear hjn x0 x1 s0 hX hi3 hr2 hb3 hg3 hbb hkb
        cases bb with
        | false =>
          gi_wp2
          refine ⟨HKB.out, ⟨hr3, HST.out.2⟩, ?_, hi4⟩
          intro y hy
          rw [List.map_append] at hy
          rcases List.mem_append.1 hy with hy | hy
          · exact HALL.out _ hy
          · obtain rfl : y = x.word := by simpa using hy
            intro hj
            have := HBB.out.2 hj
            cases this
        | true =>
          obtain ⟨hput, hkp⟩ := hi4.put x.t true 0 hz3
          have HPUT := Lib.hid hput
          have HKP := Lib.hid hkp
          clear hput hkp
          gi_wp2
          exact ⟨HKB.out.trans HKP.out, pre, x, rfl, rfl, HALL.out, HBB.out.1 (by simp), HPUT.out⟩
      case done =>
        rintro D xs2 sb W hD hS ⟨hall, hI⟩ hK
        rw [k4] at hD
        rw [hS] at hall
        have hjx := HJX4.out 0 false (JoinedR.none hall)
        subst hD
        have r0 := cell_blk (j := 0) hI.j.r0
        have r1 := cell_blk (j := 0) hI.j.r1
        have r2 := cell_blk (j := 0) hI.j.r2
        have f0 := free_blk (j := 0) hI.j.r0
        have f1 := free_blk (j := 0) hI.j.r1
        have f2 := free_blk (j := 0) hI.j.r2
        clear hall
        go_wp2_with fail
        have hJ2 := hI.j.put 0 false 0
        have hK7 : (((W.setCell ⟨w.heap.size + 1, 0, none⟩ (.int .i64 0)).setCell ⟨w.heap.size + 1 + 1, 0, none⟩ (.bool false)).setCell ⟨w.heap.size + 1 + 1 + 1, 0, none⟩ (.int .i64 0)).heap[o + 2]? = some (.deferred (some [])) := (Below.heap_setCell _ ⟨w.heap.size + 1 + 1 + 1, 0, none⟩ _ (o + 2) (by show o + 2 ≠ w.heap.size + 1 + 1 + 1; omega)).trans ((Below.heap_setCell _ ⟨w.heap.size + 1 + 1, 0, none⟩ _ (o + 2) (by show o + 2 ≠ w.heap.size + 1 + 1; omega)).trans ((Below.heap_setCell _ ⟨w.heap.size + 1, 0, none⟩ _ (o + 2) (by show o + 2 ≠ w.heap.size + 1; omega)).trans hK))
        have gc := grownBy_putObj' (((W.setCell ⟨w.heap.size + 1, 0, none⟩ (.int .i64 0)).setCell ⟨w.heap.size + 1 + 1, 0, none⟩ (.bool false)).setCell ⟨w.heap.size + 1 + 1 + 1, 0, none⟩ (.int .i64 0)) (o + 2) (.deferred none)
        have hJ3 := hJ2.grown gc (fun r e => by cases e; omega)
        have t0 := cell_blk (j := 0) hJ3.r0
        have t1 := cell_blk (j := 0) hJ3.r1
        have t2 := cell_blk (j := 0) hJ3.r2
        refine ⟨by simp, .inl ⟨_, _, rfl, run_takeDeferred hK7, ?_⟩⟩
        exact ⟨.tuple #[.int .i64 0, .bool false, .int .i64 0], by simp [results, Tryd.results14, go_sem, t0, t1, t2], 0, false, 0, rfl, hjx, hJ3.below⟩
      case stop =>
        rintro D c pre W hD hsp ⟨pre0, x, rfl, rfl, hall, hj, hI⟩ hK
        rw [k4] at hD
        subst hD
        have hjx := HJX4.out x.t true (by
          obtain ⟨zs, hzs⟩ := hsp
          rw [← hzs, List.map_append, List.append_assoc]
          exact JoinedR.skip hall (.inl ⟨hj, rfl, rfl⟩))
        clear hall hj hsp
        gi_wp2
        have hJ2 := hI.j
        have hK7 := hK
        have gc := grownBy_putObj' W (o + 2) (.deferred none)
        have hJ3 := hJ2.grown gc (fun r e => by cases e; omega)
        have t0 := cell_blk (j := 0) hJ3.r0
        have t1 := cell_blk (j := 0) hJ3.r1
        have t2 := cell_blk (j := 0) hJ3.r2
        refine ⟨by simp, .inl ⟨_, _, rfl, run_takeDeferred hK7, ?_⟩⟩
        exact ⟨.tuple #[.int .i64 x.t, .bool true, .int .i64 0], by simp [results, Tryd.results14, go_sem, t0, t1, t2], x.t, true, 0, rfl, hjx, hJ3.below⟩
end Go.Proofs.YtpblaoeaeljmhaaDoor

namespace Go.Proofs.YtpblaoeaeljmhaaDoor
open Go.RowKit

theorem subJ_len : ∀ (a b : List Int), a.Nodup → (∀ y ∈ a, y ∈ b) → a.length ≤ b.length := by
  intro a
  induction a with
  | nil => intro b _ _; exact Nat.zero_le _
  | cons x a ih =>
    intro b hn hs
    obtain ⟨h1, h2⟩ := List.nodup_cons.1 hn
    have hx := hs x List.mem_cons_self
    have h := ih (b.erase x) h2 fun y hy => by
      have hne : y ≠ x := fun e => h1 (e ▸ hy)
      exact (List.mem_erase_of_ne hne).2 (hs y (List.mem_cons_of_mem _ hy))
    rw [List.length_erase_of_mem hx] at h
    have : 0 < b.length := List.length_pos_of_mem hx
    rw [List.length_cons]
    omega
theorem adj_link {L : List Lk} {i j : Nat} : adjR (edgesL L) i j = true ↔ ∃ l ∈ L, (l.u = (i : Int) ∧ l.v = (j : Int)) ∨ (l.u = (j : Int) ∧ l.v = (i : Int)) := by
  unfold adjR edgesL
  rw [List.any_map, List.any_eq_true]
  constructor
  · rintro ⟨l, hl, h⟩
    exact ⟨l, hl, by simpa using h⟩
  · rintro ⟨l, hl, h⟩
    exact ⟨l, hl, by simpa using h⟩
/-- what the list of reached nodes holds; its first k are done -/
structure RI (L : List Lk) (n s : Nat) (R : List Int) (k : Nat) : Prop where
  nd : R.Nodup
  rng : ∀ x ∈ R, ∃ i : Nat, x = (i : Int) ∧ i < n ∧ Rch (edgesL L) s i
  st : (s : Int) ∈ R
  done : ∀ j x, j < k → R[j]? = some x → ∀ l ∈ L, (l.u = x → l.v ∈ R) ∧ (l.v = x → l.u ∈ R)
theorem RI.len {L : List Lk} {n s : Nat} {R : List Int} {k : Nat} (h : RI L n s R k) : R.length ≤ n := by
  have := subJ_len R ((List.range n).map fun i : Nat => (i : Int)) h.nd fun y hy => by
    obtain ⟨i, rfl, hi, -⟩ := h.rng y hy
    exact List.mem_map.2 ⟨i, List.mem_range.2 hi, rfl⟩
  simpa using this
theorem RI.start {L : List Lk} {n s : Nat} (hs : s < n) : RI L n s [(s : Int)] 0 :=
  ⟨by simp, fun x hx => ⟨s, by simpa using hx, hs, .refl⟩, by simp, fun j x hj => by omega⟩
/-- a node more -/
theorem RI.add {L : List Lk} {n s : Nat} {R : List Int} {k : Nat} (h : RI L n s R k) {y : Int} (hy : y ∉ R) {i : Nat} (hi : y = (i : Int)) (hin : i < n) (hr : Rch (edgesL L) s i) (hk : k ≤ R.length) : RI L n s (R ++ [y]) k := by
  refine ⟨?_, fun x hx => ?_, List.mem_append_left _ h.st, fun j x hj hx l hl => ?_⟩
  · rw [List.nodup_append]
    refine ⟨h.nd, by simp, fun a ha b hb => ?_⟩
    rw [List.mem_singleton.1 hb]
    exact fun e => hy (e ▸ ha)
  · rcases List.mem_append.1 hx with hx | hx
    · exact h.rng x hx
    · exact ⟨i, by rw [List.mem_singleton.1 hx]; exact hi, hin, hr⟩
  · rw [List.getElem?_append_left (by omega)] at hx
    obtain ⟨h1, h2⟩ := h.done j x hj hx l hl
    exact ⟨fun e => List.mem_append_left _ (h1 e), fun e => List.mem_append_left _ (h2 e)⟩
/-- the links so far of node k -/
def RQ (L : List Lk) (R : List Int) (x : Int) (q : Nat) : Prop := ∀ l ∈ L.take q, (l.u = x → l.v ∈ R) ∧ (l.v = x → l.u ∈ R)
theorem RQ.mono {L : List Lk} {R : List Int} {x : Int} {q : Nat} (h : RQ L R x q) (y : Int) : RQ L (R ++ [y]) x q := fun l hl => ⟨fun e => List.mem_append_left _ ((h l hl).1 e), fun e => List.mem_append_left _ ((h l hl).2 e)⟩
theorem RQ.step {L : List Lk} {R : List Int} {x : Int} {q : Nat} {l : Lk} (h : RQ L R x q) (hl : L[q]? = some l) (h1 : l.u = x → l.v ∈ R) (h2 : l.v = x → l.u ∈ R) : RQ L R x (q + 1) := fun l' hl' => by
  rw [take_at _ _ _ hl] at hl'
  rcases List.mem_append.1 hl' with hl' | hl'
  · exact h l' hl'
  · rw [List.mem_singleton.1 hl']; exact ⟨h1, h2⟩
theorem RI.next {L : List Lk} {n s : Nat} {R : List Int} {k : Nat} {x : Int} (h : RI L n s R k) (hx : R[k]? = some x) (hq : RQ L R x L.length) : RI L n s R (k + 1) :=
  ⟨h.nd, h.rng, h.st, fun j y hj hy l hl => by
    by_cases hjk : j = k
    · subst hjk
      rw [hx] at hy
      obtain rfl := Option.some.inj hy
      exact hq l (by rw [List.take_of_length_le (Nat.le_refl _)]; exact hl)
    · exact h.done j y (by omega) hy l hl⟩
/-- at the end all that can be reached is in the list -/
theorem RI.end' {L : List Lk} {n s : Nat} {R : List Int} (h : RI L n s R R.length) : ∀ i : Nat, (i : Int) ∈ R ↔ Rch (edgesL L) s i := by
  intro i
  constructor
  · intro hi
    obtain ⟨j, hj, -, hr⟩ := h.rng _ hi
    have : i = j := by omega
    rw [this]; exact hr
  · intro hr
    induction hr with
    | refl => exact h.st
    | step hra ha ih =>
      obtain ⟨j, hj, he⟩ := List.mem_iff_getElem.1 ih
      obtain ⟨l, hl, hc⟩ := adj_link.1 ha
      obtain ⟨d1, d2⟩ := h.done j _ hj (by rw [List.getElem?_eq_getElem hj, he]) l hl
      rcases hc with ⟨c1, c2⟩ | ⟨c1, c2⟩
      · rw [← c2]; exact d1 c1
      · rw [← c1]; exact d2 c2
theorem RI.join {L : List Lk} {n s : Nat} {R xs : List Int} (h : RI L n s R R.length) (hs : (xs.getD 0 0).toNat = s) (hx : ∀ x ∈ xs, 0 ≤ x ∧ x < n) : (∀ x ∈ xs, x ∈ R) ↔ JoinP (edgesL L) xs := by
  unfold JoinP
  rw [hs]
  constructor
  · intro hw x hxm
    obtain ⟨h0, -⟩ := hx x hxm
    obtain ⟨i, rfl⟩ := Int.eq_ofNat_of_zero_le h0
    exact (h.end' i).1 (hw _ hxm)
  · intro hj x hxm
    obtain ⟨h0, -⟩ := hx x hxm
    obtain ⟨i, rfl⟩ := Int.eq_ofNat_of_zero_le h0
    exact (h.end' i).2 (hj _ hxm)
end Go.Proofs.YtpblaoeaeljmhaaDoor

namespace Go.Proofs.YtpblaoeaeljmhaaDoor
open Go.RowKit Go.BigFrame

set_option maxRecDepth 100000 in
set_option maxHeartbeats 1600000 in
theorem rwithin_any (a a2 : Option Addr) (cap cap2 : Nat) (xs ys : List Int) (w : World) (hi : IntsAt w (.slice a xs.length cap) xs) (hj : IntsAt w (.slice a2 ys.length cap2) ys) :
    Calls Tryd.prog 45 #[.slice a xs.length cap, .slice a2 ys.length cap2] w fun e w' => e = .returned (.bool (decide (∀ x ∈ xs, x ∈ ys))) ∧ w = w' := by
  have hl : xs.length ≤ 70368744177664 := by obtain ⟨_, _, hv, _, _, hl, _⟩ := hi; exact hl
  obtain ⟨RB, hRB⟩ : ∃ b, decide (∀ x ∈ xs, x ∈ ys) = b := ⟨_, rfl⟩
  rw [hRB]
  have HRB := Lib.hid hRB
  clear hRB
  go_enter Tryd.func45, Tryd.ntmps45
  go_wp2_with fail
  go_loop [9] (fun i => ∃ k : Nat, k ≤ xs.length ∧ i = .int .i64 k ∧ Hid (∀ x ∈ xs.take k, x ∈ ys)) (fun i => xs.length - (intOf i).toNat)
  case atStart => exact ⟨0, Nat.zero_le _, rfl, (show ∀ x ∈ ([] : List Int), _ by simp)⟩
  case round =>
    obtain ⟨k, hk, rfl, HK⟩ := hrel
    by_cases hlt : k < xs.length
    · have hlt3 : (k : Int) < xs.length := by omega
      obtain ⟨b, off, y, rfl, hy, -, -, c0⟩ := hi.at k hlt
      have hh := has_any a2 cap2 ys y w hj
      have htk := take_at _ _ _ hy
      have hym := List.mem_of_getElem? hy
      by_cases hm : y ∈ ys
      · rw [decide_eq_true hm] at hh
        have HK2 : Hid (∀ x ∈ xs.take (k + 1), x ∈ ys) := by
          show ∀ x ∈ _, _
          rw [htk]
          intro x hx
          rcases List.mem_append.1 hx with hx | hx
          · exact HK.out x hx
          · rw [List.mem_singleton.1 hx]; exact hm
        clear htk hym hy hm HK
        go_wp2_with (go_at_call 44; refine hh.mono ?_; rintro _ w' ⟨rfl, rfl⟩)
        go_round
        case rel => exact ⟨k + 1, by omega, by go_num, HK2⟩
        case measure => simp [intOf]; omega
      · rw [decide_eq_false hm] at hh
        have hf : RB = false := by rw [← HRB.out]; exact decide_eq_false fun h => hm (h y hym)
        subst hf
        clear htk hym hy hm HK
        go_wp2_with (go_at_call 44; refine hh.mono ?_; rintro _ w' ⟨rfl, rfl⟩)
        go_ret
        exact ⟨rfl, rfl⟩
    · obtain rfl : k = xs.length := by omega
      have hlt3 : ¬ (xs.length : Int) < xs.length := by omega
      have hf : RB = true := by rw [← HRB.out]; exact decide_eq_true fun x hx => HK.out x (by rw [List.take_of_length_le (Nat.le_refl _)]; exact hx)
      subst hf
      clear HK
      go_wp2_with fail
      go_ret
      exact ⟨rfl, rfl⟩
theorem quiet_sym {f : FuncId} {args : Array Value} {w : World} {v : Value} (h : Calls Tryd.prog f args w fun e w' => e = .returned v ∧ w = w') : Calls Tryd.prog f args w fun e w' => e = .returned v ∧ w' = w := h.mono fun _ _ ⟨a, b⟩ => ⟨a, b.symm⟩
set_option maxRecDepth 100000 in
set_option maxHeartbeats 6400000 in
theorem rjoined_any (n : Nat) (a a2 : Option Addr) (cap cap2 : Nat) (L : List Lk) (xs : List Int) (w : World) (hl : RowAt encLk w (.slice a L.length cap) L) (hS : VSt n L) (hi : IntsAt w (.slice a2 xs.length cap2) xs) (hx : ∀ x ∈ xs, 0 ≤ x ∧ x < n) (h2 : 2 ≤ xs.length) :
    Calls Tryd.prog 30 #[.agg #[.int .i64 n, .slice a L.length cap], .slice a2 xs.length cap2] w (JoinPost (edgesL L) xs w) := by
  have hn64 := hS.2.1
  have hLl := hS.length_le
  have hxl : xs.length ≤ 70368744177664 := by obtain ⟨_, _, hv, _, _, hl, _⟩ := hi; exact hl
  have b1 := (Below.refl w.heap.size w).alloc (Nat.le_refl _) (.cells #[.int .i64 n, .slice a L.length cap] 53)
  have hG := heap_alloc_new w (.cells #[.int .i64 n, .slice a L.length cap] 53)
  have hl1 := hl.below b1
  have hi1 := hi.below b1
  obtain ⟨b, off, y, rfl, hy, -, -, c0⟩ := hi1.at 0 (by omega)
  rw [Nat.add_zero] at c0
  have hy0 : xs.getD 0 0 = y := by rw [List.getD_eq_getElem?_getD, hy]; rfl
  obtain ⟨hyl, hyr⟩ := hx y (List.mem_of_getElem? hy)
  obtain ⟨s, rfl⟩ := Int.eq_ofNat_of_zero_le hyl
  have hs : s < n := by omega
  have hjo := fun R h => RI.join (L := L) (n := n) (s := s) (R := R) (xs := xs) h (by rw [hy0]; rfl) hx
  have HJO := Lib.hid hjo
  have HLK : Hid (∀ l ∈ L, ∃ i j : Nat, l.u = (i : Int) ∧ l.v = (j : Int) ∧ i < j ∧ j < n) := by
    show ∀ l ∈ L, _
    intro l hl'
    obtain ⟨q1, q2, q3, -⟩ := hS.2.2.1 l hl'
    obtain ⟨i, hi'⟩ := Int.eq_ofNat_of_zero_le q1
    obtain ⟨j, hj'⟩ := Int.eq_ofNat_of_zero_le (show 0 ≤ l.v by omega)
    exact ⟨i, j, hi', hj', by omega, by omega⟩
  have h21 : 0 < xs.length := by omega
  have h22 : ¬ (xs.length : Int) < 2 := by omega
  have h23 : (0 : Int) < xs.length := by omega
  have hRI0 : Hid (RI L n s [(s : Int)] 0) := RI.start hs
  have bR := (Below.refl _ (w.alloc (.cells #[.int .i64 n, .slice a L.length cap] 53))).alloc (Nat.le_refl _) (.cells #[.int .i64 s] 3)
  have b1R := b1.trans (bR.mono b1.size)
  have hG2 := lk_next bR hG
  have hl2 := hl1.below bR
  have hi2 := hi1.below bR
  have hown0 := World.ownsRow_lit (base := w.heap.size + 1) (e := 3) (size := 1) (w.alloc (.cells #[.int .i64 n, .slice a L.length cap] 53)) #[.int .i64 s] 1 (by simp) (by decide) rfl
  have hz1 : (w.alloc (.cells #[.int .i64 n, .slice a L.length cap] 53)).heap.size = w.heap.size + 1 := by simp
  rw [hz1] at hown0
  clear hS hx hl1 hi1 hy hy0 hyl hyr hjo b1 hG bR
  go_enter Tryd.func30, Tryd.ntmps30
  go_wp2_with fail
  obtain ⟨S, hSS⟩ : ∃ S, w.heap.size = S := ⟨_, rfl⟩
  rw [hSS] at hown0 hG2 ⊢
  clear hz1
  --LOOP<
  go_loopw [5, 6] (fun vr vk wr => ∃ (R : List Int) (k : Nat) (ao : Option Addr) (no co : Nat), k ≤ no ∧ vk = .int .i64 k ∧ vr = .slice ao no co ∧ wr.ownsRow (S + 1) 3 1 (.slice ao no co) no (intsV R) ∧ Hid (no = R.length) ∧ no ≤ n ∧ wr.heap[S]? = some (.cells #[.int .i64 n, .slice a L.length cap] 53 (0, 0)) ∧ Below w.heap.size w wr ∧ Hid (RI L n s R k)) (fun _ vk _ => 64 - (intOf vk).toNat)
  case atStart => exact ⟨[(s : Int)], 0, _, 1, 1, Nat.zero_le _, rfl, rfl, hown0, rfl, by omega, hG2, b1R, hRI0⟩
  case round =>
    clear hown0 hG2 b1R hRI0 hl2 hi2
    obtain ⟨R, k, ao, no, co, hk, rfl, rfl, hown, HNO, hnn, hG, hbr, HRI⟩ := hrel
    by_cases hkn : k < no
    · have hkn3 : (k : Int) < no := by omega
      obtain ⟨x, hx⟩ : ∃ x, R[k]? = some x := ⟨_, List.getElem?_eq_getElem (by rw [← HNO.out]; exact hkn)⟩
      have HXK := Lib.hid hx
      have s1 := cell_blk (j := 1) hG
      have HRQ : Hid (RQ L R x 0) := (show RQ L R x 0 from fun l hl => by simp at hl)
      clear hx
      go_wp2_with fail
      obtain ⟨wi, hwi⟩ : ∃ W : World, W = wr := ⟨_, rfl⟩
      subst hwi
      clear s1
      go_loopw [5, 25] (fun vr vq wr => ∃ (R : List Int) (q : Nat) (ao : Option Addr) (no co : Nat), q ≤ L.length ∧ vq = .int .i64 q ∧ vr = .slice ao no co ∧ wr.ownsRow (S + 1) 3 1 (.slice ao no co) no (intsV R) ∧ Hid (no = R.length) ∧ no ≤ n ∧ k < no ∧ wr.heap[S]? = some (.cells #[.int .i64 n, .slice a L.length cap] 53 (0, 0)) ∧ Below w.heap.size w wr ∧ Hid (RI L n s R k) ∧ Hid (R[k]? = some x) ∧ Hid (RQ L R x q)) (fun _ vq _ => L.length - (intOf vq).toNat)
      case atStart => exact ⟨R, 0, ao, no, co, Nat.zero_le _, rfl, rfl, hown, HNO, hnn, hkn, hG, hbr, HRI, HXK, HRQ⟩
      case round =>
        clear hown HNO hnn hkn hkn3 hG hbr HRI HXK HRQ hk
        obtain ⟨R, q, ao, no, co, hq, rfl, rfl, hown, HNO, hnn, hkn, hG, hbr, HRI, HXK, HRQ⟩ := hrel
        have hkn3 : (k : Int) < no := by omega
        have hkn4 : (0 : Int) ≤ (k : Int) := by omega
        by_cases hql : q < L.length
        · have hql3 : (q : Int) < L.length := by omega
          obtain ⟨bL, oL, l, rfl, hlq, hcapl, c0, c1, c2, c3, c4, c5⟩ := lk_at (hl.below hbr) q hql
          obtain ⟨i, j, hli, hlj, hij, hjn⟩ := HLK.out l (List.mem_of_getElem? hlq)
          have hlm := List.mem_of_getElem? hlq
          obtain ⟨i0, hi0, hi0n, hri0⟩ := HRI.out.rng x (List.mem_of_getElem? HXK.out)
          have HAD1 : Hid (l.u = x → Rch (edgesL L) s j) := (show _ → _ from fun e => .step hri0 (adj_link.2 ⟨l, hlm, .inl ⟨e.trans hi0, hlj⟩⟩))
          have HAD2 : Hid (l.v = x → Rch (edgesL L) s i) := (show _ → _ from fun e => .step hri0 (adj_link.2 ⟨l, hlm, .inr ⟨hli, e.trans hi0⟩⟩))
          have HST : Hid (∀ R2, RQ L R2 x q → (l.u = x → l.v ∈ R2) → (l.v = x → l.u ∈ R2) → RQ L R2 x (q + 1)) := (show ∀ R2, _ → _ → _ → _ from fun R2 h1 h2 h3 => RQ.step h1 hlq h2 h3)
          obtain ⟨lu, lv, lw, ll, ls, lt⟩ := l
          dsimp only at hli hlj HAD1 HAD2 HST c0 c1 c2 c3 c4 c5
          have huv : lu ≠ lv := by omega
          have HIJ : Hid (lu = (i : Int) ∧ lv = (j : Int) ∧ i < n ∧ j < n) := ⟨hli, hlj, by omega, hjn⟩
          have HQN0 : Hid (∀ g, (Value.slice ao no co).ownBlock = some g → g < wr.heap.size ∧ S < g) := (show ∀ g, _ → _ from fun g e => by have := hown.lt g e; omega)
          have bX := (Below.refl _ wr).alloc (Nat.le_refl _) (.cells #[.int .i64 lu, .int .i64 lv, .int .i64 lw, .int .i64 ll, .int .i64 ls, .int .i64 lt] 69)
          have hX := heap_alloc_new wr (.cells #[.int .i64 lu, .int .i64 lv, .int .i64 lw, .int .i64 ll, .int .i64 ls, .int .i64 lt] 69)
          have hownX := hown.alloc (.cells #[.int .i64 lu, .int .i64 lv, .int .i64 lw, .int .i64 ll, .int .i64 ls, .int .i64 lt] 69)
          have hGX := lk_next bX hG
          have hbX := hbr.trans (bX.mono hbr.size)
          clear hlq hlm hi0 hi0n hri0 hli hlj hij hjn bX hown hG hbr
          go_upto_region 10 with fail
          obtain ⟨wx, hwx⟩ : ∃ W : World, wr.alloc (.cells #[.int .i64 lu, .int .i64 lv, .int .i64 lw, .int .i64 ll, .int .i64 ls, .int .i64 lt] 69) = W := ⟨_, rfl⟩
          obtain ⟨Q, hQ⟩ : ∃ Q, wr.heap.size = Q := ⟨_, rfl⟩
          rw [hwx] at hX hownX hGX hbX ⊢
          rw [hQ] at hX HQN0
          try rw [hQ]
          clear hwx hQ c0 c1 c2 c3 c4 c5
          have x0 : wx.cell? ⟨Q, 0, none⟩ = some (.int .i64 lu) := cell_blk (j := 0) hX
          have x1 : wx.cell? ⟨Q, 1, none⟩ = some (.int .i64 lv) := cell_blk (j := 1) hX
          obtain ⟨_, _, hvR, hiR, -⟩ := IntsAt.of_owns (T := 3) (w := wx) (xs := R) (by rw [← HNO.out]; exact hownX) (by rw [← HNO.out]; omega)
          obtain ⟨rfl, -, rfl⟩ := Value.slice.inj hvR
          clear hvR
          obtain ⟨bR, oR, yR, haR, hyR, -, -, cR⟩ := hiR.at k (by rw [← HNO.out]; omega)
          obtain rfl : yR = x := Option.some.inj (hyR.symm.trans HXK.out)
          have hhv := fun W h => has_any ao co R lv W h
          have hhu := fun W h => has_any ao co R lu W h
          rw [← HNO.out] at hhv hhu hiR
          subst haR
          have hQN : Hid (∀ g, (Value.slice (some ⟨bR, oR, none⟩) no co).ownBlock = some g → g < Q ∧ S < g) := HQN0
          clear HQN0 hyR
          by_cases hux : lu = yR
          · --THE FIRST END IS THE NODE
            subst yR
            have e1 : (lv == lu) = false := by simpa using fun e => huv e.symm
            have e2 : decide (lv = lu) = false := by simpa using fun e => huv e.symm
            by_cases hm : lv ∈ R
            · have hq1 := fun m => quiet_sym (hhv (wx.drewN m) (hiR.below ((Below.refl _ _).drewN m)))
              rw [decide_eq_true hm] at hq1
              have HQ2 : Hid (RQ L R lu (q + 1)) := HST.out R HRQ.out (fun _ => hm) (fun e => absurd e.symm huv)
              clear hm hhv hhu hiR HST HAD1 HAD2 HRQ HIJ huv
              go_quiet ((go_at_call 44; exact Calls.quiet_of_same (hq1 _)))
              clear hq1
              have bq := (Below.refl wx.heap.size wx).drewN nq
              have hownX := hownX.kept (grown_of_below bq) (Classical.em _)
              have hGX := lk_next bq hGX
              have hX := lk_next bq hX
              have hbX := hbX.drewN nq
              have cR := (bq.cell (p := ⟨bR, oR + k, none⟩) (cell_lt cR)).trans cR
              obtain ⟨wx, hwx⟩ : ∃ W : World, wx.drewN nq = W := ⟨_, rfl⟩
              rw [hwx] at hownX hGX hX hbX cR ⊢
              clear bq hwx x0 x1
              have x0 : wx.cell? ⟨Q, 0, none⟩ = some (.int .i64 lu) := cell_blk (j := 0) hX
              have x1 : wx.cell? ⟨Q, 1, none⟩ = some (.int .i64 lv) := cell_blk (j := 1) hX
              go_wp2_with fail
              go_quiet (fail)
              have bq := (Below.refl wx.heap.size wx).drewN nq
              have hownX := hownX.kept (grown_of_below bq) (Classical.em _)
              have hGX := lk_next bq hGX
              have hX := lk_next bq hX
              have hbX := hbX.drewN nq
              have cR := (bq.cell (p := ⟨bR, oR + k, none⟩) (cell_lt cR)).trans cR
              obtain ⟨wx, hwx⟩ : ∃ W : World, wx.drewN nq = W := ⟨_, rfl⟩
              rw [hwx] at hownX hGX hX hbX cR ⊢
              clear bq hwx x0 x1
              have x0 : wx.cell? ⟨Q, 0, none⟩ = some (.int .i64 lu) := cell_blk (j := 0) hX
              have x1 : wx.cell? ⟨Q, 1, none⟩ = some (.int .i64 lv) := cell_blk (j := 1) hX
              clear x0 x1 cR
              go_wp2_with fail
              go_roundw
              case rel =>
                first
                  | exact ⟨R, q + 1, _, no, _, by omega, by go_num, rfl, hownX, HNO, hnn, hkn, hGX, hbX, HRI, HXK, HQ2⟩
                  | ((repeat apply Exists.intro); exact ⟨⟨R, q + 1, _, no, _, by omega, by go_num, rfl, hownX, HNO, hnn, hkn, hGX, hbX, HRI, HXK, HQ2⟩, rfl⟩)
              case measure => simp [intOf]; omega
            · have hq1 := fun m => quiet_sym (hhv (wx.drewN m) (hiR.below ((Below.refl _ _).drewN m)))
              rw [decide_eq_false hm] at hq1
              obtain ⟨hli, hlj, hin, hjn⟩ := HIJ.out
              have HRI2 : Hid (RI L n s (R ++ [lv]) k) := HRI.out.add hm hlj hjn (HAD1.out rfl) (by rw [← HNO.out]; omega)
              have HQ2 : Hid (RQ L (R ++ [lv]) lu (q + 1)) := HST.out _ (HRQ.out.mono lv) (fun _ => by simp) (fun e => absurd e.symm huv)
              clear hm hhv hhu hiR HST HAD1 HAD2 HRQ HIJ huv hli hlj hin hjn HRI
              go_quiet ((go_at_call 44; exact Calls.quiet_of_same (hq1 _)))
              clear hq1
              have bq := (Below.refl wx.heap.size wx).drewN nq
              have hownX := hownX.kept (grown_of_below bq) (Classical.em _)
              have hGX := lk_next bq hGX
              have hX := lk_next bq hX
              have hbX := hbX.drewN nq
              have cR := (bq.cell (p := ⟨bR, oR + k, none⟩) (cell_lt cR)).trans cR
              obtain ⟨wx, hwx⟩ : ∃ W : World, wx.drewN nq = W := ⟨_, rfl⟩
              rw [hwx] at hownX hGX hX hbX cR ⊢
              clear bq hwx x0 x1
              have x0 : wx.cell? ⟨Q, 0, none⟩ = some (.int .i64 lu) := cell_blk (j := 0) hX
              have x1 : wx.cell? ⟨Q, 1, none⟩ = some (.int .i64 lv) := cell_blk (j := 1) hX
              have hownA := hownX.alloc (.cells #[.int .i64 lv] 3)
              have hbA := hbX.alloc hbX.size (.cells #[.int .i64 lv] 3)
              have hXA := lk_next ((Below.refl _ wx).alloc (Nat.le_refl _) (.cells #[.int .i64 lv] 3)) hX
              have hGA := lk_next ((Below.refl _ wx).alloc (Nat.le_refl _) (.cells #[.int .i64 lv] 3)) hGX
              have hSlt := blk_lt hGA
              have hlen : R.length ≤ 64 := by rw [← HNO.out]; omega
              clear hownX hbX hX hGX cR
              go_wp2_with (at_builtin; refine wpList_app_ints intsT rfl _ _ rfl (S + 1) _ _ R [lv] rfl (by rw [← HNO.out]; exact hownA) rfl (by exact ints_lit1 _ _ _) (by simp; omega) (by omega) ?_; intro v7 w7 hown7 hg7)
              have hb7 := hbA.grown hg7 hbA.size (fun g e => by have := (hownA.lt g e).1; omega)
              have hX7 := grown_blk hg7 hXA (by intro e; have := (hQN.out _ e.symm).1; omega)
              have hG7 := grown_blk hg7 hGA (by intro e; have := (hQN.out _ e.symm).2; omega)
              have hl7 : (R ++ [lv]).length = no + 1 := by rw [List.length_append, ← HNO.out]; rfl
              rw [hl7] at hown7
              obtain ⟨a7, c7, rfl⟩ := owns_shape hown7
              have HNO7 : Hid (no + 1 = (R ++ [lv]).length) := hl7.symm
              have HXK7 : Hid ((R ++ [lv])[k]? = some lu) := (show _ = _ by rw [List.getElem?_append_left (by rw [← HNO.out]; exact hkn)]; exact HXK.out)
              have hnn7 : no + 1 ≤ n := by rw [HNO7.out]; exact HRI2.out.len
              have hkn7 : k < no + 1 := by omega
              have hkn8 : (k : Int) < (no : Int) + 1 := by omega
              obtain ⟨_, _, hvR, hiR7, -⟩ := IntsAt.of_owns (T := 3) (w := w7) (xs := R ++ [lv]) (by rw [← HNO7.out]; exact hown7) (by rw [← HNO7.out]; omega)
              obtain ⟨rfl, -, rfl⟩ := Value.slice.inj hvR
              obtain ⟨bS, oS, yS, haS, hyS, -, -, cS⟩ := hiR7.at k (by rw [← HNO7.out]; omega)
              obtain rfl : lu = yS := (Option.some.inj (hyS.symm.trans HXK7.out)).symm
              subst haS
              clear hvR hiR7 hyS hl7 hg7 hXA hGA hbA hownA x0 x1 HXK HNO hnn hkn hkn3 hQN
              have x0 : w7.cell? ⟨Q, 0, none⟩ = some (.int .i64 lu) := cell_blk (j := 0) hX7
              have x1 : w7.cell? ⟨Q, 1, none⟩ = some (.int .i64 lv) := cell_blk (j := 1) hX7
              go_quiet (fail)
              have bq := (Below.refl w7.heap.size w7).drewN nq
              have hown7 := hown7.kept (grown_of_below bq) (Classical.em _)
              have hG7 := lk_next bq hG7
              have hb7 := hb7.drewN nq
              go_wp2_with fail
              go_roundw
              case rel =>
                first
                  | exact ⟨R ++ [lv], q + 1, _, no + 1, _, by omega, by go_num, rfl, hown7, HNO7, hnn7, hkn7, hG7, hb7, HRI2, HXK7, HQ2⟩
                  | ((repeat apply Exists.intro); exact ⟨⟨R ++ [lv], q + 1, _, no + 1, _, by omega, by go_num, rfl, hown7, HNO7, hnn7, hkn7, hG7, hb7, HRI2, HXK7, HQ2⟩, rfl⟩)
              case measure => simp [intOf]; omega
          · have e1 : (lu == yR) = false := by simpa using hux
            have e2 : decide (lu = yR) = false := by simpa using hux
            go_quiet (fail)
            have bq := (Below.refl wx.heap.size wx).drewN nq
            have hownX := hownX.kept (grown_of_below bq) (Classical.em _)
            have hGX := lk_next bq hGX
            have hX := lk_next bq hX
            have hbX := hbX.drewN nq
            have hiR := hiR.below bq
            have cR := (bq.cell (p := ⟨bR, oR + k, none⟩) (cell_lt cR)).trans cR
            obtain ⟨wx, hwx⟩ : ∃ W : World, wx.drewN nq = W := ⟨_, rfl⟩
            rw [hwx] at hownX hGX hX hbX cR hiR ⊢
            clear bq hwx x0 x1
            have x0 : wx.cell? ⟨Q, 0, none⟩ = some (.int .i64 lu) := cell_blk (j := 0) hX
            have x1 : wx.cell? ⟨Q, 1, none⟩ = some (.int .i64 lv) := cell_blk (j := 1) hX
            go_wp2_with fail
            by_cases hvx : lv = yR
            · --THE SECOND END IS THE NODE
              subst yR
              have hq1 := fun m => quiet_sym (hhu (wx.drewN m) (hiR.below ((Below.refl _ _).drewN m)))
              by_cases hm : lu ∈ R
              · rw [decide_eq_true hm] at hq1
                have HQ2 : Hid (RQ L R lv (q + 1)) := HST.out R HRQ.out (fun e => absurd e huv) (fun _ => hm)
                clear hm hhv hhu hiR HST HAD1 HAD2 HRQ HIJ huv hux e1 e2
                go_quiet ((go_at_call 44; exact Calls.quiet_of_same (hq1 _)))
                clear hq1
                have bq := (Below.refl wx.heap.size wx).drewN nq
                have hownX := hownX.kept (grown_of_below bq) (Classical.em _)
                have hGX := lk_next bq hGX
                have hX := lk_next bq hX
                have hbX := hbX.drewN nq
                have cR := (bq.cell (p := ⟨bR, oR + k, none⟩) (cell_lt cR)).trans cR
                obtain ⟨wx, hwx⟩ : ∃ W : World, wx.drewN nq = W := ⟨_, rfl⟩
                rw [hwx] at hownX hGX hX hbX cR ⊢
                clear bq hwx x0 x1
                have x0 : wx.cell? ⟨Q, 0, none⟩ = some (.int .i64 lu) := cell_blk (j := 0) hX
                have x1 : wx.cell? ⟨Q, 1, none⟩ = some (.int .i64 lv) := cell_blk (j := 1) hX
                clear x0 x1 cR
                go_wp2_with fail
                go_roundw
                case rel =>
                  first
                    | exact ⟨R, q + 1, _, no, _, by omega, by go_num, rfl, hownX, HNO, hnn, hkn, hGX, hbX, HRI, HXK, HQ2⟩
                    | ((repeat apply Exists.intro); exact ⟨⟨R, q + 1, _, no, _, by omega, by go_num, rfl, hownX, HNO, hnn, hkn, hGX, hbX, HRI, HXK, HQ2⟩, rfl⟩)
                case measure => simp [intOf]; omega
              · rw [decide_eq_false hm] at hq1
                obtain ⟨hli, hlj, hin, hjn⟩ := HIJ.out
                have HRI2 : Hid (RI L n s (R ++ [lu]) k) := HRI.out.add hm hli hin (HAD2.out rfl) (by rw [← HNO.out]; omega)
                have HQ2 : Hid (RQ L (R ++ [lu]) lv (q + 1)) := HST.out _ (HRQ.out.mono lu) (fun e => absurd e huv) (fun _ => by simp)
                clear hm hhv hhu hiR HST HAD1 HAD2 HRQ HIJ huv hli hlj hin hjn HRI hux e1 e2
                go_quiet ((go_at_call 44; exact Calls.quiet_of_same (hq1 _)))
                clear hq1
                have bq := (Below.refl wx.heap.size wx).drewN nq
                have hownX := hownX.kept (grown_of_below bq) (Classical.em _)
                have hGX := lk_next bq hGX
                have hX := lk_next bq hX
                have hbX := hbX.drewN nq
                have cR := (bq.cell (p := ⟨bR, oR + k, none⟩) (cell_lt cR)).trans cR
                obtain ⟨wx, hwx⟩ : ∃ W : World, wx.drewN nq = W := ⟨_, rfl⟩
                rw [hwx] at hownX hGX hX hbX cR ⊢
                clear bq hwx x0 x1
                have x0 : wx.cell? ⟨Q, 0, none⟩ = some (.int .i64 lu) := cell_blk (j := 0) hX
                have x1 : wx.cell? ⟨Q, 1, none⟩ = some (.int .i64 lv) := cell_blk (j := 1) hX
                have hownA := hownX.alloc (.cells #[.int .i64 lu] 3)
                have hbA := hbX.alloc hbX.size (.cells #[.int .i64 lu] 3)
                have hXA := lk_next ((Below.refl _ wx).alloc (Nat.le_refl _) (.cells #[.int .i64 lu] 3)) hX
                have hGA := lk_next ((Below.refl _ wx).alloc (Nat.le_refl _) (.cells #[.int .i64 lu] 3)) hGX
                have hSlt := blk_lt hGA
                have hlen : R.length ≤ 64 := by rw [← HNO.out]; omega
                clear hownX hbX hX hGX cR
                go_wp2_with (at_builtin; refine wpList_app_ints intsT rfl _ _ rfl (S + 1) _ _ R [lu] rfl (by rw [← HNO.out]; exact hownA) rfl (by exact ints_lit1 _ _ _) (by simp; omega) (by omega) ?_; intro v7 w7 hown7 hg7)
                have hb7 := hbA.grown hg7 hbA.size (fun g e => by have := (hownA.lt g e).1; omega)
                have hX7 := grown_blk hg7 hXA (by intro e; have := (hQN.out _ e.symm).1; omega)
                have hG7 := grown_blk hg7 hGA (by intro e; have := (hQN.out _ e.symm).2; omega)
                have hl7 : (R ++ [lu]).length = no + 1 := by rw [List.length_append, ← HNO.out]; rfl
                rw [hl7] at hown7
                obtain ⟨a7, c7, rfl⟩ := owns_shape hown7
                have HNO7 : Hid (no + 1 = (R ++ [lu]).length) := hl7.symm
                have HXK7 : Hid ((R ++ [lu])[k]? = some lv) := (show _ = _ by rw [List.getElem?_append_left (by rw [← HNO.out]; exact hkn)]; exact HXK.out)
                have hnn7 : no + 1 ≤ n := by rw [HNO7.out]; exact HRI2.out.len
                have hkn7 : k < no + 1 := by omega
                have hkn8 : (k : Int) < (no : Int) + 1 := by omega
                obtain ⟨_, _, hvR, hiR7, -⟩ := IntsAt.of_owns (T := 3) (w := w7) (xs := R ++ [lu]) (by rw [← HNO7.out]; exact hown7) (by rw [← HNO7.out]; omega)
                obtain ⟨rfl, -, rfl⟩ := Value.slice.inj hvR
                obtain ⟨bS, oS, yS, haS, hyS, -, -, cS⟩ := hiR7.at k (by rw [← HNO7.out]; omega)
                obtain rfl : lv = yS := (Option.some.inj (hyS.symm.trans HXK7.out)).symm
                subst haS
                clear hvR hiR7 hyS hl7 hg7 hXA hGA hbA hownA x0 x1 HXK HNO hnn hkn hkn3 hQN
                have x0 : w7.cell? ⟨Q, 0, none⟩ = some (.int .i64 lu) := cell_blk (j := 0) hX7
                have x1 : w7.cell? ⟨Q, 1, none⟩ = some (.int .i64 lv) := cell_blk (j := 1) hX7
                go_wp2_with fail
                go_roundw
                case rel =>
                  first
                    | exact ⟨R ++ [lu], q + 1, _, no + 1, _, by omega, by go_num, rfl, hown7, HNO7, hnn7, hkn7, hG7, hb7, HRI2, HXK7, HQ2⟩
                    | ((repeat apply Exists.intro); exact ⟨⟨R ++ [lu], q + 1, _, no + 1, _, by omega, by go_num, rfl, hown7, HNO7, hnn7, hkn7, hG7, hb7, HRI2, HXK7, HQ2⟩, rfl⟩)
                case measure => simp [intOf]; omega
            · have e3 : (lv == yR) = false := by simpa using hvx
              have e4 : decide (lv = yR) = false := by simpa using hvx
              have HQ2 : Hid (RQ L R yR (q + 1)) := HST.out R HRQ.out (fun e => absurd e hux) (fun e => absurd e hvx)
              clear hhv hhu hiR HST HAD1 HAD2 HRQ HIJ huv hux hvx
              go_quiet (fail)
              have bq := (Below.refl wx.heap.size wx).drewN nq
              have hownX := hownX.kept (grown_of_below bq) (Classical.em _)
              have hGX := lk_next bq hGX
              have hX := lk_next bq hX
              have hbX := hbX.drewN nq
              have cR := (bq.cell (p := ⟨bR, oR + k, none⟩) (cell_lt cR)).trans cR
              obtain ⟨wx, hwx⟩ : ∃ W : World, wx.drewN nq = W := ⟨_, rfl⟩
              rw [hwx] at hownX hGX hX hbX cR ⊢
              clear bq hwx x0 x1
              have x0 : wx.cell? ⟨Q, 0, none⟩ = some (.int .i64 lu) := cell_blk (j := 0) hX
              have x1 : wx.cell? ⟨Q, 1, none⟩ = some (.int .i64 lv) := cell_blk (j := 1) hX
              clear x0 x1 cR
              go_wp2_with fail
              go_roundw
              case rel =>
                first
                  | exact ⟨R, q + 1, _, no, _, by omega, by go_num, rfl, hownX, HNO, hnn, hkn, hGX, hbX, HRI, HXK, HQ2⟩
                  | ((repeat apply Exists.intro); exact ⟨⟨R, q + 1, _, no, _, by omega, by go_num, rfl, hownX, HNO, hnn, hkn, hGX, hbX, HRI, HXK, HQ2⟩, rfl⟩)
              case measure => simp [intOf]; omega
        · obtain rfl : q = L.length := by omega
          have hql3 : ¬ (L.length : Int) < L.length := by omega
          have HRI3 : Hid (RI L n s R (k + 1)) := HRI.out.next HXK.out HRQ.out
          clear HRI HRQ HXK
          go_wp2_with fail
          go_roundw
          case rel =>
            first
              | exact ⟨R, k + 1, ao, no, co, hkn, by go_num, rfl, hown, HNO, hnn, hG, hbr, HRI3⟩
              | ((repeat apply Exists.intro); exact ⟨⟨R, k + 1, ao, no, co, hkn, by go_num, rfl, hown, HNO, hnn, hG, hbr, HRI3⟩, rfl⟩)
          case measure => simp [intOf]; omega
    · obtain rfl : k = no := by omega
      have hkn3 : ¬ (k : Int) < k := by omega
      obtain ⟨_, _, hvR, hiR, -⟩ := IntsAt.of_owns (T := 3) (w := wr) (xs := R) (by rw [← HNO.out]; exact hown) (by rw [← HNO.out]; omega)
      obtain ⟨rfl, -, rfl⟩ := Value.slice.inj hvR
      have hw := rwithin_any _ ao cap2 co xs R wr (hi.below hbr) hiR
      rw [← HNO.out] at hw
      have hri := HRI.out
      rw [HNO.out] at hri
      have hj := HJO.out R hri
      obtain ⟨bb, hbb⟩ : ∃ b, decide (∀ x ∈ xs, x ∈ R) = b := ⟨_, rfl⟩
      rw [hbb] at hw
      have HB : Hid (bb = true ↔ JoinP (edgesL L) xs) := (show _ ↔ _ by rw [← hj, ← hbb]; simp)
      clear hj hbb hvR hiR hri HRI HJO HLK
      go_wp2_with fail
      refine hw.mono ?_
      rintro _ w9 ⟨rfl, rfl⟩
      go_wp2_with fail
      go_ret
      exact ⟨bb, rfl, HB.out, hbr⟩
  --LOOP>
theorem verF_valid {n : Int} : ∀ (es : List Ev) (ls : List Lk) (ch : Bool), VSt n ls → (∀ e ∈ es, fitS n e = 0) → ∀ x ∈ verF ls ch es, VSt n x.2.1 := by
  intro es
  induction es with
  | nil => intro ls ch _ _ x hx; simp [verF] at hx
  | cons e es ih =>
    intro ls ch hv hf x hx
    have hv2 := stepL_valid hv (hf e List.mem_cons_self)
    have hf2 : ∀ x ∈ es, fitS n x = 0 := fun x hx => hf x (List.mem_cons_of_mem _ hx)
    cases es with
    | nil =>
      rw [show verF ls ch [e] = [(e.time, stepL e ls, ch || decide (0 < (stepC e ls).length))] from rfl, List.mem_singleton] at hx
      rw [hx]; exact hv2
    | cons e2 es =>
      unfold verF at hx
      dsimp only at hx
      split at hx
      · exact ih _ _ hv2 hf2 x hx
      · rcases List.mem_cons.1 hx with rfl | hx
        · exact hv2
        · exact ih _ _ hv2 hf2 x hx
set_option maxRecDepth 100000 in
set_option maxHeartbeats 6400000 in
theorem rhjoined_any (n : Int) (es : List Ev) (xs : List Int) (a aS : Option Addr) (cap cS : Nat) (w : World) (hes : RowAt encEv w (.slice a es.length cap) es) (hi : IntsAt w (.slice aS xs.length cS) xs) :
    Calls Tryd.prog 15 #[.int .i64 n, .slice a es.length cap, .slice aS xs.length cS] w (JdPost n es xs w) := by
  have hck := rhcheck_any n es a cap w hes
  have hval := fun h => his_valid (n := n) (es := es) h
  have hat := fun t W h => rhat_any n es t a cap W h
  have haX : hisS n es = 0 → ∀ t, atX n es t = ((n, atV t (verF [] false es)), 0) := fun h t => by unfold atX; rw [if_neg (by simp [h])]
  obtain ⟨JX, hJX⟩ : ∃ P : Int → Bool → Int → Prop, JdX n es xs = P := ⟨_, rfl⟩
  unfold JdPost
  rw [hJX]
  have HJX : Hid (∀ t ok z, (if hisS n es ≠ 0 then t = 0 ∧ ok = false ∧ z = hisS n es else if validZ none xs n = false then t = 0 ∧ ok = false ∧ z = 6 else if xs.length < 2 then t = 0 ∧ ok = true ∧ z = 0 else JoinedR xs (verF [] false es) t ok ∧ z = 0) → JX t ok z) := by
    show ∀ t ok z, _ → _
    intro t ok z h
    rw [← hJX]
    exact h
  clear hJX
  obtain ⟨Z, hZ⟩ : ∃ Z, hisS n es = Z := ⟨_, rfl⟩
  rw [hZ] at hck hval haX HJX
  clear hZ
  by_cases h0 : Z = 0
  case neg =>
    have d1 : (Z == 0) = false := by simpa using h0
    have d2 : (Z != 0) = true := by simpa using h0
    have hjx := HJX.out 0 false Z (by rw [if_pos h0]; exact ⟨rfl, rfl, rfl⟩)
    have HJ := Lib.hid hjx
    clear hval hat haX h0 hjx HJX
    go_enter Tryd.func15, Tryd.ntmps15
    go_wp2_with fail
    refine hck.mono ?_
    rintro _ w1 ⟨rfl, hb1⟩
    go_wp2_with fail
    go_ret3
    exact ⟨0, false, Z, rfl, HJ.out, hb1⟩
  obtain ⟨hn0, hn1, hel, hfit, hup⟩ := hval h0
  have HAX := Lib.hid (haX h0)
  subst h0
  have hjx := fun t ok z => HJX.out t ok z
  simp only [ne_eq, not_true_eq_false, ↓reduceIte] at hjx
  have HJX2 := Lib.hid hjx
  have HUP := Lib.hid hup
  have HFIT := Lib.hid hfit
  clear hval haX hfit hup HJX hjx
  go_enter Tryd.func15, Tryd.ntmps15
  go_wp2_with fail
  refine hck.mono ?_
  rintro _ w1 ⟨rfl, hb1⟩
  have hnv := rsvalidZ_any aS cS xs n _ (hi.below hb1)
  clear hck
  cases hvz : validZ none xs n with
  | false =>
    have HJ := Lib.hid (HJX2.out 0 false 6 (by rw [if_pos hvz]; exact ⟨rfl, rfl, rfl⟩))
    rw [hvz] at hnv
    clear hvz HJX2
    go_wp2_with fail
    refine hnv.mono ?_
    rintro _ w2 ⟨rfl, rfl⟩
    go_wp2_with fail
    go_ret3
    exact ⟨0, false, 6, rfl, HJ.out, hb1⟩
  | true =>
    rw [hvz] at hnv
    have HIN := Lib.hid (validZ_in hvz)
    have HJX3 : Hid (∀ t ok z, (if xs.length < 2 then t = 0 ∧ ok = true ∧ z = 0 else JoinedR xs (verF [] false es) t ok ∧ z = 0) → JX t ok z) := by
      show ∀ t ok z, _ → _
      intro t ok z h
      exact HJX2.out t ok z (by rw [if_neg (by rw [hvz]; simp)]; exact h)
    clear hvz HJX2
    by_cases h2 : xs.length < 2
    · have HJ := Lib.hid (HJX3.out 0 true 0 (by rw [if_pos h2]; exact ⟨rfl, rfl, rfl⟩))
      have h23 : (xs.length : Int) < 2 := by omega
      clear HJX3
      go_wp2_with fail
      refine hnv.mono ?_
      rintro _ w2 ⟨rfl, rfl⟩
      go_wp2_with fail
      go_ret3
      exact ⟨0, true, 0, rfl, HJ.out, hb1⟩
    · have h23 : ¬ (xs.length : Int) < 2 := by omega
      obtain ⟨N, rfl⟩ := Int.eq_ofNat_of_zero_le hn0
      have hvs := rversions_any es a cap _ (hes.below hb1) hel
      rw [rvF_all es HUP.out] at hvs
      have hVup := (verF_up es [] false HUP.out).1
      have hVst := verF_len es [] false
      have hVV := fun x (hx : x ∈ verF [] false es) => hx
      obtain ⟨V, hV⟩ : ∃ V, verF [] false es = V := ⟨_, rfl⟩
      have HAX2 : Hid (∀ t, atX N es t = (((N : Int), atV t V), (0 : Int))) := (show ∀ t, _ by rw [← hV]; exact HAX.out)
      have HJX4 : Hid (∀ t ok, JoinedR xs V t ok → JX t ok 0) := by
        show ∀ t ok, _ → _
        intro t ok h
        exact HJX3.out t ok 0 (by rw [if_neg h2, hV]; exact ⟨h, rfl⟩)
      have hvalid : ∀ x ∈ V, VSt N x.2.1 := by
        rw [← hV]
        exact verF_valid es [] false ⟨hn0, hn1, by simp, List.Pairwise.nil⟩ HFIT.out
      rw [hV] at hvs hVup hVst
      have HVUP := Lib.hid hVup
      have HVAL := Lib.hid hvalid
      obtain ⟨ts, hts⟩ : ∃ l, V.map (fun x => x.1) = l := ⟨_, rfl⟩
      rw [hts] at hvs
      have htl : ts.length = V.length := by rw [← hts, List.length_map]
      have HTS := Lib.hid hts
      have HTL := Lib.hid htl
      have htl2 : ts.length ≤ 65536 := by omega
      unfold IntsNew at hvs
      clear hts htl hV hVup hVst HAX HJX3 hVV hvalid
      go_wp2_with fail
      refine hnv.mono ?_
      rintro _ w2 ⟨rfl, rfl⟩
      clear hnv
      go_wp2_with fail
      refine hvs.mono ?_
      rintro _ w2 ⟨aT, cT, rfl, hT2, hb2, -⟩
      have hb02 := hb1.trans (hb2.mono hb1.size)
      clear hvs hb1 hb2
      go_wp2_with fail
      go_loopw [30] (fun vi wr => ∃ i : Nat, i ≤ ts.length ∧ vi = .int .i64 i ∧ Below w2.heap.size w2 wr ∧ Hid (∀ y ∈ V.take i, ¬ JoinP (edgesL y.2.1) xs)) (fun vi _ => ts.length - (intOf vi).toNat)
      case atStart => exact ⟨0, Nat.zero_le _, rfl, Below.refl _ _, (show ∀ y ∈ _, _ by simp)⟩
      case round =>
        obtain ⟨i, hil, rfl, hbr, HNJ⟩ := hrel
        have hb0r := hb02.trans (hbr.mono hb02.size)
        by_cases hlt : i < ts.length
        · have hlt3 : (i : Int) < ts.length := by omega
          obtain ⟨bT, oT, y, rfl, hy, -, hcT, c0⟩ := (hT2.below hbr).at i hlt
          have hiV : i < V.length := by rw [← HTL.out]; exact hlt
          obtain ⟨x, hx⟩ : ∃ x, V[i]? = some x := ⟨_, List.getElem?_eq_getElem hiV⟩
          have hyx : y = x.1 := by
            have h : (V.map fun x => x.1)[i]? = some x.1 := by rw [List.getElem?_map, hx]; rfl
            rw [HTS.out, hy] at h
            exact Option.some.inj h
          subst hyx
          have hav := atV_ver HVUP.out hx
          have hat2 := hat x.1 _ (hes.below hb0r)
          rw [HAX2.out x.1, hav] at hat2
          unfold AtPost at hat2
          dsimp only at hat2
          have hvl := HVAL.out x (List.mem_of_getElem? hx)
          have HX := Lib.hid hx
          obtain ⟨xt, L, xch⟩ := x
          dsimp only at hat2 c0 hvl
          have hjn := fun a c W h1 h2' => rjoined_any N a aS c cS L xs W h1 hvl h2' HIN.out (by omega)
          clear hav hx hy hvl
          go_wp2_with fail
          refine hat2.mono ?_
          rintro _ w5 ⟨aL, cL, rfl, hr5, hb5⟩
          have bn := (Below.refl _ w5).alloc (Nat.le_refl _) (.cells #[.int .i64 N, .slice aL L.length cL] 53)
          have b5 := hb5.trans (bn.mono hb5.size)
          have hS5 := heap_alloc_new w5 (.cells #[.int .i64 N, .slice aL L.length cL] 53)
          have hb05 := hbr.trans (b5.mono hbr.size)
          have hb005 := hb0r.trans (b5.mono hb0r.size)
          have hj5 := hjn _ _ _ (hr5.below bn) (hi.below hb005)
          have s0 := cell_blk (j := 0) hS5
          have s1 := cell_blk (j := 1) hS5
          unfold JoinPost at hj5
          clear hat2 hr5 hb5 bn b5 hS5 hjn c0
          go_wp2_with fail
          refine hj5.mono ?_
          rintro _ w6 ⟨bb, rfl, hbb, hb6⟩
          have hb06 := hb05.trans (hb6.mono hb05.size)
          have hb006 := hb005.trans (hb6.mono hb005.size)
          have HBB := Lib.hid hbb
          clear hj5 s0 s1 hb6 hbb
          cases bb with
          | false =>
            have HNJ2 : Hid (∀ y ∈ V.take (i + 1), ¬ JoinP (edgesL y.2.1) xs) := by
              show ∀ y ∈ _, _
              intro y hy
              rw [take_at _ _ _ HX.out] at hy
              rcases List.mem_append.1 hy with hy | hy
              · exact HNJ.out y hy
              · rw [List.mem_singleton.1 hy]
                intro hj
                have := HBB.out.2 hj
                cases this
            clear HNJ HBB
            go_wp2_with fail
            go_roundw
            case rel =>
              first
                | exact ⟨i + 1, by omega, by go_num, hb06, HNJ2⟩
                | ((repeat apply Exists.intro); exact ⟨⟨i + 1, by omega, by go_num, hb06, HNJ2⟩, rfl⟩)
            case measure => simp [intOf]; omega
          | true =>
            have HJ : Hid (JX xt true 0) := (show JX xt true 0 from HJX4.out xt true (by
              have e : V = V.take i ++ (xt, L, xch) :: V.drop (i + 1) := by rw [← drop_at _ _ _ HX.out, List.take_append_drop]
              rw [e]
              exact JoinedR.skip HNJ.out (.inl ⟨HBB.out.1 (by simp), rfl, rfl⟩)))
            clear HNJ HBB
            go_wp2_with fail
            go_ret3
            exact ⟨xt, true, 0, rfl, HJ.out, hb006⟩
        · obtain rfl : i = ts.length := by omega
          have HJ : Hid (JX 0 false 0) := (show JX 0 false 0 from HJX4.out 0 false (JoinedR.none fun y hy => HNJ.out y (by rw [HTL.out, List.take_of_length_le (Nat.le_refl _)]; exact hy)))
          clear HNJ
          go_wp2_with fail
          go_ret3
          exact ⟨0, false, 0, rfl, HJ.out, hb0r⟩
end Go.Proofs.YtpblaoeaeljmhaaDoor
