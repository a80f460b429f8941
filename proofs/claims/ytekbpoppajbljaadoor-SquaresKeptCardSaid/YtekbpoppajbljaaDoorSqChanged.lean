/- The contract of the numbers of a graph in which an edge has come or gone. -/
import Derived.Test.YtekbpoppajbljaaDoorSqOpen
import Derived.Test.YtekbpoppajbljaaDoorSqKeptJ
import Derived.Test.YtekbpoppajbljaaDoorCntW
import Derived.Test.YtekbpoppajbljaaDoorPatSolve
namespace Go.Proofs.YtekbpoppajbljaaDoor
open Go.RowKit Go.BigFrame

/-- numbers as a function -/
def fnN (m : Nat) (F : Nat → Int) : List Int := (List.range m).map F
theorem fnN_length (m : Nat) (F : Nat → Int) : (fnN m F).length = m := by simp [fnN]
theorem fnN_get (m : Nat) (F : Nat → Int) (i : Nat) (h : i < m) : (fnN m F)[i]? = some (F i) := by simp [fnN, h]
theorem fnN_set (m : Nat) (F : Nat → Int) (i : Nat) (v : Int) : (fnN m F).set i v = fnN m (fun x => if x = i then v else F x) := by
  apply List.ext_getElem?
  intro j
  by_cases hj : j < m
  · rw [List.getElem?_set, fnN_get _ _ _ hj, fnN_get _ _ _ hj, fnN_length]
    by_cases e : i = j
    · subst e; simp [hj]
    · rw [if_neg e, if_neg (Ne.symm e)]
  · rw [List.getElem?_eq_none (by rw [List.length_set, fnN_length]; omega), List.getElem?_eq_none (by rw [fnN_length]; omega)]
theorem fnN_congr (m : Nat) (F G : Nat → Int) (h : ∀ x, x < m → F x = G x) : fnN m F = fnN m G := List.map_congr_left fun x hx => h x (List.mem_range.1 hx)
theorem fnN_of (l : List Int) : l = fnN l.length fun i => l.getD i 0 := by
  apply List.ext_getElem?
  intro j
  by_cases hj : j < l.length
  · rw [fnN_get _ _ _ hj, List.getElem?_eq_getElem hj, List.getD_eq_getElem?_getD, List.getElem?_eq_getElem hj]; rfl
  · rw [List.getElem?_eq_none (by omega), List.getElem?_eq_none (by rw [fnN_length]; omega)]
/-- the nodes that a square over an edge touches -/
def tou (u v : Nat) (P : List (Nat × Nat)) : List Nat := P.flatMap fun x => [u, v, x.1, x.2]
theorem occ_append (P Q : List Nat) (x : Nat) : occ (P ++ Q) x = occ P x + occ Q x := by simp [occ, List.filter_append]
theorem tou_hit (u v w : Nat) (P : List (Nat × Nat)) : occ (tou u v P) w = hitN P u v w := by
  induction P with
  | nil => simp [tou, occ, hitN]
  | cons x P ih =>
    have e : tou u v (x :: P) = [u, v, x.1, x.2] ++ tou u v P := rfl
    rw [e, occ_append, ih]
    unfold hitN occ
    simp only [List.filter_cons, List.filter_nil, beq_iff_eq, List.length_cons]
    by_cases h1 : u = w <;> by_cases h2 : v = w <;> by_cases h3 : x.1 = w <;> by_cases h4 : x.2 = w <;> simp [h1, h2, h3, h4, eq_comm (a := w)] <;> omega
theorem occ_bd (P : List Nat) (x : Nat) : 0 ≤ occ P x ∧ occ P x ≤ P.length := by
  unfold occ
  exact ⟨by omega, by exact_mod_cast List.length_filter_le _ _⟩
theorem tou_len (u v : Nat) : ∀ P : List (Nat × Nat), (tou u v P).length = P.length * 4 := by
  intro P
  induction P with
  | nil => rfl
  | cons x P ih => show ([u, v, x.1, x.2] ++ tou u v P).length = _; rw [List.length_append, ih]; simp only [List.length_cons, List.length_nil]; omega
theorem tou_snoc (u v : Nat) (P : List (Nat × Nat)) (x : Nat × Nat) : tou u v (P ++ [x]) = (((tou u v P ++ [u]) ++ [v]) ++ [x.1]) ++ [x.2] := by simp [tou]
/-- the numbers behind some touches -/
def chF (B : Nat → Int) (by_ : Int) (L : List Nat) (w : Nat) : Int := B w + by_ * occ L w
theorem chF_snoc (n : Nat) (B : Nat → Int) (by_ : Int) (L : List Nat) (z : Nat) : (fnN n (chF B by_ L)).set z (chF B by_ L z + by_) = fnN n (chF B by_ (L ++ [z])) := by
  rw [fnN_set]
  refine fnN_congr n _ _ fun w _ => ?_
  unfold chF
  rw [occ_snoc]
  by_cases h : w = z
  · subst h; rw [if_pos rfl, if_pos rfl, Int.mul_add, Int.mul_one]; omega
  · rw [if_neg h, if_neg (fun e => h e.symm), Int.add_zero]
theorem chF_bd (B : Nat → Int) (by_ : Int) (L : List Nat) (w : Nat) (hb : by_ = 1 ∨ by_ = -1) (hB : 0 ≤ B w ∧ B w ≤ 1125899906842624) (hL : L.length ≤ 100000) : -200000 ≤ chF B by_ L w ∧ chF B by_ L w ≤ 1125899907842624 := by
  unfold chF
  have := occ_bd L w
  rcases hb with h | h <;> subst h <;> omega
theorem ovN_lt {n : Nat} {es : List E2} (hv : Valid n es) (u v : Nat) : ∀ x ∈ ovN es u v, x.1 < n ∧ x.2 < n := by
  intro x hx
  unfold ovN ovA ovB at hx
  obtain ⟨a, ha, hx⟩ := List.mem_flatMap.1 hx
  split at hx
  · cases hx
  · obtain ⟨b, hb, rfl⟩ := List.mem_map.1 hx
    obtain ⟨hb, _⟩ := List.mem_filter.1 hb
    rw [nbN_nbL hv] at ha hb
    obtain ⟨ha, _⟩ := List.mem_filter.1 ha
    obtain ⟨hb, _⟩ := List.mem_filter.1 hb
    exact ⟨List.mem_range.1 ha, List.mem_range.1 hb⟩
def step4 (T : List Nat) (u v x y : Nat) : Nat → List Nat
  | 0 => T
  | 1 => T ++ [u]
  | 2 => (T ++ [u]) ++ [v]
  | 3 => ((T ++ [u]) ++ [v]) ++ [x]
  | _ => (((T ++ [u]) ++ [v]) ++ [x]) ++ [y]
theorem step4_len (T : List Nat) (u v x y j : Nat) : (step4 T u v x y j).length ≤ T.length + 4 := by
  match j with
  | 0 => simp [step4]
  | 1 => simp [step4]
  | 2 => simp [step4]
  | 3 => simp [step4]
  | _ + 4 => simp [step4]
/-- three boxes of arguments, and the box of the result -/
structure Bx4 (w : World) (o0 o1 o2 : Obj) (y0 y1 y2 y3 y4 : Value) (T : Nat) (wr : World) : Prop where
  a : wr.heap[w.heap.size]? = some o0
  b : wr.heap[w.heap.size + 1]? = some o1
  c : wr.heap[w.heap.size + 2]? = some o2
  o : wr.heap[w.heap.size + 3]? = some (.cells #[y0, y1, y2, y3, y4] T (0, 0))
  be : Below w.heap.size w wr
section
variable {w wr w' : World} {o0 o1 o2 : Obj} {y0 y1 y2 y3 y4 : Value} {T : Nat}
theorem Bx4.next (h : Bx4 w o0 o1 o2 y0 y1 y2 y3 y4 T wr) (hb : Below wr.heap.size wr w') : Bx4 w o0 o1 o2 y0 y1 y2 y3 y4 T w' := ⟨lit_next' hb h.a, lit_next' hb h.b, lit_next' hb h.c, lit_next' hb h.o, h.be.trans (hb.mono h.be.size)⟩
theorem Bx4.alloc (h : Bx4 w o0 o1 o2 y0 y1 y2 y3 y4 T wr) (o : Obj) : Bx4 w o0 o1 o2 y0 y1 y2 y3 y4 T (wr.alloc o) := h.next ((Below.refl _ _).alloc (Nat.le_refl _) _)
theorem Bx4.drew (h : Bx4 w o0 o1 o2 y0 y1 y2 y3 y4 T wr) : Bx4 w o0 o1 o2 y0 y1 y2 y3 y4 T wr.drew := h.next (Below.refl _ _).drew
theorem Bx4.grown {r : Option Nat} (h : Bx4 w o0 o1 o2 y0 y1 y2 y3 y4 T wr) (hg : wr.grownBy w' r) (hr : ∀ k, r = some k → w.heap.size + 4 ≤ k) : Bx4 w o0 o1 o2 y0 y1 y2 y3 y4 T w' :=
  ⟨grown_blk hg h.a (fun e => by have := hr _ e.symm; omega), grown_blk hg h.b (fun e => by have := hr _ e.symm; omega), grown_blk hg h.c (fun e => by have := hr _ e.symm; omega), grown_blk hg h.o (fun e => by have := hr _ e.symm; omega), h.be.grown hg h.be.size (fun k e => by have := hr k e; omega)⟩
theorem Bx4.base (h : Bx4 w o0 o1 o2 y0 y1 y2 y3 y4 T wr) : w.heap.size + 4 ≤ wr.heap.size := blk_lt h.o
theorem Bx4.start (w : World) (o0 o1 o2 : Obj) (y0 y1 y2 y3 y4 : Value) (T : Nat) : Bx4 w o0 o1 o2 y0 y1 y2 y3 y4 T ((((w.alloc o0).alloc o1).alloc o2).alloc (.cells #[y0, y1, y2, y3, y4] T)) := by
  have s1 : (w.alloc o0).heap.size = w.heap.size + 1 := by simp
  have s2 : ((w.alloc o0).alloc o1).heap.size = w.heap.size + 2 := by simp
  have s3 : (((w.alloc o0).alloc o1).alloc o2).heap.size = w.heap.size + 3 := by simp
  have h0 := heap_alloc_new w o0
  have h1 := heap_alloc_new (w.alloc o0) o1
  have h2 := heap_alloc_new ((w.alloc o0).alloc o1) o2
  have h3 := heap_alloc_new (((w.alloc o0).alloc o1).alloc o2) (.cells #[y0, y1, y2, y3, y4] T)
  rw [s1] at h1
  rw [s2] at h2
  rw [s3] at h3
  have b1 := (Below.refl _ (w.alloc o0)).alloc (Nat.le_refl _) o1
  have b2 := (Below.refl _ ((w.alloc o0).alloc o1)).alloc (Nat.le_refl _) o2
  have b3 := (Below.refl _ (((w.alloc o0).alloc o1).alloc o2)).alloc (Nat.le_refl _) (.cells #[y0, y1, y2, y3, y4] T)
  exact ⟨lit_next' b3 (lit_next' b2 (lit_next' b1 h0)), lit_next' b3 (lit_next' b2 h1), lit_next' b3 h2, h3, ((((Below.refl _ _).alloc (Nat.le_refl _) _).alloc (by simp) _).alloc (by simp; omega) _).alloc (by simp; omega) _⟩
end
/-- the numbers in a block, the struct that holds them, and the pairs -/
structure ChS (w : World) (o0 o1 o2 : Obj) (n g Q : Nat) (B : Nat → Int) (by_ : Int) (oq : Obj) (ap : Option Addr) (cp : Nat) (P : List (Nat × Nat)) (L : List Nat) (wr : World) : Prop where
  tail : TailAt wr g (fnN n (chF B by_ L))
  q : wr.heap[Q]? = some oq
  row : RowAt encP wr (.slice ap P.length cp) P
  bx : Bx4 w o0 o1 o2 (.int .i64 0) (.slice none 0 0) (.int .i64 0) (.int .i64 0) (.slice none 0 0) 46 wr
  gQ : g ≠ Q
  gw : w.heap.size + 4 ≤ g
  off : 0 < P.length → ∀ p, ap = some p → p.block ≠ g
theorem TailAt.below {w w' : World} {g : Nat} {l : List Int} (h : TailAt w g l) (hb : Below w.heap.size w w') : TailAt w' g l := by
  obtain ⟨r, h⟩ := h
  exact ⟨r, lit_next' hb h⟩
section
variable {w wr w' : World} {o0 o1 o2 : Obj} {n g Q : Nat} {B : Nat → Int} {by_ : Int} {oq : Obj} {ap : Option Addr} {cp : Nat} {P : List (Nat × Nat)} {L : List Nat}
theorem ChS.next (h : ChS w o0 o1 o2 n g Q B by_ oq ap cp P L wr) (hb : Below wr.heap.size wr w') : ChS w o0 o1 o2 n g Q B by_ oq ap cp P L w' := ⟨h.tail.below hb, lit_next' hb h.q, h.row.below hb, h.bx.next hb, h.gQ, h.gw, h.off⟩
theorem ChS.alloc (h : ChS w o0 o1 o2 n g Q B by_ oq ap cp P L wr) (o : Obj) : ChS w o0 o1 o2 n g Q B by_ oq ap cp P L (wr.alloc o) := h.next ((Below.refl _ _).alloc (Nat.le_refl _) _)
theorem ChS.cell (h : ChS w o0 o1 o2 n g Q B by_ oq ap cp P L wr) (z : Nat) (hz : z < n) : wr.cell? ⟨g, z, none⟩ = some (.int .i64 (chF B by_ L z)) := h.tail.cell z _ (fnN_get n _ z hz)
theorem ChS.step (h : ChS w o0 o1 o2 n g Q B by_ oq ap cp P L wr) (z : Nat) (hz : z < n) : ChS w o0 o1 o2 n g Q B by_ oq ap cp P (L ++ [z]) (wr.setCell ⟨g, z, none⟩ (.int .i64 (chF B by_ L z + by_))) := by
  have hg : wr.grownBy (wr.setCell ⟨g, z, none⟩ (.int .i64 (chF B by_ L z + by_))) (some g) := grown_store
  have ht := h.tail.set z (chF B by_ L z + by_) (by rw [fnN_length]; exact hz)
  rw [chF_snoc] at ht
  exact ⟨ht, grown_blk hg h.q (fun e => h.gQ (Option.some.inj e).symm), h.row.grown' hg (fun k e hn n' c' p ep => by cases e; exact h.off hn p (Value.slice.inj ep).1), h.bx.grown hg (fun k e => by cases e; exact h.gw), h.gQ, h.gw, h.off⟩
end
theorem ChS.start {w wb : World} {o0 o1 o2 : Obj} {n g Q : Nat} {B : Nat → Int} {by_ : Int} {ap : Option Addr} {cp : Nat} {P : List (Nat × Nat)} {L : List Nat} {NS : List Int} (h : Bx4 w o0 o1 o2 (.int .i64 0) (.slice none 0 0) (.int .i64 0) (.int .i64 0) (.slice none 0 0) 46 wb)
    (hQ : wb.heap[Q]? = some (.cells #[.int .i64 0, .slice none 0 0, .int .i64 0, .int .i64 0, .slice none 0 0] 46 (0, 0))) (hT : TailAt wb g NS) (hN : fnN n (chF B by_ L) = NS) (hr : RowAt encP wb (.slice ap P.length cp) P) (hgQ : g ≠ Q) (hgw : w.heap.size + 4 ≤ g) (hQw : w.heap.size + 4 ≤ Q)
    (hoff : 0 < P.length → ∀ p, ap = some p → p.block ≠ g ∧ p.block ≠ Q) (x0 x1 x2 x3 x4 : Value) : ChS w o0 o1 o2 n g Q B by_ (.cells #[x0, x1, x2, x3, x4] 46 (0, 0)) ap cp P L (((((wb.setCell ⟨Q, 0, none⟩ x0).setCell ⟨Q, 1, none⟩ x1).setCell ⟨Q, 2, none⟩ x2).setCell ⟨Q, 3, none⟩ x3).setCell ⟨Q, 4, none⟩ x4) := by
  have hg := set5_grown wb Q x0 x1 x2 x3 x4
  have h5 := set5_at hQ x0 x1 x2 x3 x4
  obtain ⟨r, hT⟩ := hT
  have key : ChS w o0 o1 o2 n g Q B by_ (.cells #[x0, x1, x2, x3, x4] 46 (0, 0)) ap cp P L (set5 wb Q x0 x1 x2 x3 x4) :=
    ⟨⟨r, by rw [hN]; exact grown_blk hg hT (fun e => hgQ (Option.some.inj e))⟩, h5, hr.grown' hg (fun k e hn n' c' p ep => by cases e; exact (hoff hn p (Value.slice.inj ep).1).2), h.grown hg (fun k e => by cases e; exact hQw), hgQ, hgw, fun hn p hp => (hoff hn p hp).1⟩
  exact key
theorem ChS.laid {w wb : World} {o0 o1 o2 oq : Obj} {n g Q : Nat} {B : Nat → Int} {by_ : Int} {ap : Option Addr} {cp : Nat} {P : List (Nat × Nat)} {L : List Nat} {NS : List Int} (h : Bx4 w o0 o1 o2 (.int .i64 0) (.slice none 0 0) (.int .i64 0) (.int .i64 0) (.slice none 0 0) 46 wb)
    (hQ : wb.heap[Q]? = some oq) (hT : TailAt wb g NS) (hN : fnN n (chF B by_ L) = NS) (hr : RowAt encP wb (.slice ap P.length cp) P) (hgQ : g ≠ Q) (hgw : w.heap.size + 4 ≤ g) (hoff : 0 < P.length → ∀ p, ap = some p → p.block ≠ g) : ChS w o0 o1 o2 n g Q B by_ oq ap cp P L wb :=
  ⟨by rw [hN]; exact hT, hQ, hr, h, hgQ, hgw, hoff⟩
theorem pr_at {w : World} {a : Option Addr} {cap : Nat} {P : List (Nat × Nat)} (h : RowAt encP w (.slice a P.length cap) P) (k : Nat) (hk : k < P.length) : ∃ b off x y, a = some ⟨b, off, none⟩ ∧ P[k]? = some (x, y) ∧ w.cell? ⟨b, off + k * 2, none⟩ = some (.int .i64 (x : Nat)) ∧ w.cell? ⟨b, off + k * 2 + 1, none⟩ = some (.int .i64 (y : Nat)) := by
  obtain ⟨b, off, x, ha, hx, _, hc⟩ := h.elem k hk
  exact ⟨b, off, x.1, x.2, ha, hx, hc 0 _ rfl, hc 1 _ rfl⟩
theorem cell_two {w : World} {g T : Nat} {x y : Value} (h : w.heap[g]? = some (.cells #[x, y] T (0, 0))) : w.cell? ⟨g, 0, none⟩ = some x ∧ w.cell? ⟨g, 1, none⟩ = some y := ⟨cell_blk h, cell_blk h⟩
set_option maxRecDepth 100000 in
set_option maxHeartbeats 12800000 in
theorem changed_any (n0 : Int) (sl0 : Value) (WD CT : Int) (an : Option Addr) (cn : Nat) (NS : List Int) (m : Int) (sl1 : Value) (n u v : Nat) (a : Option Addr) (cap : Nat) (es : List E2) (by_ : Int) (w : World)
    (s0 : ∃ p l c, sl0 = .slice p l c) (s1 : ∃ p l c, sl1 = .slice p l c)
    (he : EdgesAt w (.slice a es.length cap) es) (hi : IntsAt w (.slice an NS.length cn) NS) (hv : Valid n es) (hu : u < n) (hvn : v < n) (hT : TzAt w) (hby : by_ = 1 ∨ by_ = -1) (hNS : NS.length = n)
    (hB : ∀ x ∈ NS, 0 ≤ x ∧ x ≤ 1125899906842624) (hW : 0 ≤ WD ∧ WD ≤ 1125899906842624) (hC : 0 ≤ CT ∧ CT ≤ 1125899906842624) :
    Calls Tryd.prog 66 #[.agg #[.int .i64 n0, sl0, .int .i64 WD, .int .i64 CT, .slice an NS.length cn], .agg #[.int .i64 m, sl1], .agg #[.int .i64 n, .slice a es.length cap], .int .i64 u, .int .i64 v, .int .i64 by_] w fun e w' =>
      ∃ g c2, e = .returned (.tuple #[.agg #[.int .i64 m, sl1, .int .i64 (WD + by_ * (oc64 (rowN es u : Int) + oc64 (rowN es v : Int))), .int .i64 (CT + by_ * ((ovN es u v).length : Int)), .slice (some ⟨g, 0, none⟩) n c2], .int .i64 ((ovN es u v).length : Int), .int .i64 0]) ∧
        IntsAt w' (.slice (some ⟨g, 0, none⟩) n c2) (fnN n fun i => NS.getD i 0 + by_ * hitN (ovN es u v) u v i) ∧ w.heap.size ≤ g ∧ Below w.heap.size w w' := by
  obtain ⟨p0, l0, c0, rfl⟩ := s0
  obtain ⟨p1, l1, c1, rfl⟩ := s1
  have hfin : (fnN n fun i => NS.getD i 0 + by_ * hitN (ovN es u v) u v i) = fnN n (chF (fun i => NS.getD i 0) by_ (tou u v (ovN es u v))) := fnN_congr _ _ _ fun x _ => by unfold chF; rw [tou_hit]
  rw [hfin]
  clear hfin
  have hn64 : n ≤ 64 := by have := hv.2.1; omega
  have hov := fun W h t => over_any n u v a cap es W h hv hu hvn t
  have hdu := fun W h => gdegree_any n u a cap es W h hv hu
  have hdv := fun W h => gdegree_any n v a cap es W h hv hvn
  have hPl := ovN_len es u v
  have hPn := ovN_lt hv u v
  have hou := oc64_bd (rowN es u : Int)
  have hovd := oc64_bd (rowN es v : Int)
  obtain ⟨OU, hOU⟩ : ∃ x, oc64 (rowN es u : Int) = x := ⟨_, rfl⟩
  obtain ⟨OV, hOV⟩ : ∃ x, oc64 (rowN es v : Int) = x := ⟨_, rfl⟩
  obtain ⟨P, hP⟩ : ∃ x, ovN es u v = x := ⟨_, rfl⟩
  rw [hOU] at hdu hou ⊢
  rw [hOV] at hdv hovd ⊢
  rw [hP] at hov hPl hPn ⊢
  clear hOU hOV hP
  have hBB : ∀ i, 0 ≤ NS.getD i 0 ∧ NS.getD i 0 ≤ 1125899906842624 := fun i => by
    rw [List.getD_eq_getElem?_getD]
    cases h : NS[i]? with
    | none => simp
    | some x => exact hB x (List.mem_of_getElem? h)
  have v1 : IntKind.i64.wrap (OU + OV) = OU + OV := IntWalk.i64_in _ (by omega)
  have b1 : -300 ≤ by_ * (OU + OV) ∧ by_ * (OU + OV) ≤ 300 := by rcases hby with h | h <;> subst h <;> omega
  have b2 : -5000 ≤ by_ * (P.length : Int) ∧ by_ * (P.length : Int) ≤ 5000 := by rcases hby with h | h <;> subst h <;> omega
  obtain ⟨X1, hX1⟩ : ∃ x, by_ * (OU + OV) = x := ⟨_, rfl⟩
  obtain ⟨X2, hX2⟩ : ∃ x, by_ * (P.length : Int) = x := ⟨_, rfl⟩
  rw [hX1] at b1
  rw [hX2] at b2
  rw [hX1, hX2]
  have v2 : IntKind.i64.wrap (by_ * (OU + OV)) = X1 := by rw [hX1]; exact IntWalk.i64_in _ (by omega)
  have v3 : IntKind.i64.wrap (by_ * (P.length : Int)) = X2 := by rw [hX2]; exact IntWalk.i64_in _ (by omega)
  have v4 : IntKind.i64.wrap (WD + X1) = WD + X1 := IntWalk.i64_in _ (by omega)
  have v5 : IntKind.i64.wrap (CT + X2) = CT + X2 := IntWalk.i64_in _ (by omega)
  have h0 := Bx4.start w (.cells #[.int .i64 n0, .slice p0 l0 c0, .int .i64 WD, .int .i64 CT, .slice an NS.length cn] 46) (.cells #[.int .i64 m, .slice p1 l1 c1] 27) (.cells #[.int .i64 n, .slice a es.length cap] 27) (.int .i64 0) (.slice none 0 0) (.int .i64 0) (.int .i64 0) (.slice none 0 0) 46
  have HNS := Lib.hid hNS
  have hn1 : 1 ≤ NS.length := by omega
  have hn2 : NS.length ≤ 64 := by omega
  have hne : fnN n (chF (fun i => NS.getD i 0) by_ []) = NS := by
    refine Eq.trans ?_ (fnN_of NS).symm
    rw [hNS]
    exact fnN_congr _ _ _ fun x _ => by show _ + by_ * (0 : Int) = _; rw [Int.mul_zero, Int.add_zero]
  have HNE := Lib.hid hne
  clear hNS hX1 hX2 hB hne
  go_enter Tryd.func66, Tryd.ntmps66
  go_wp2_with fail
  refine (hov _ (he.below h0.be) (hT.below h0.be)).mono ?_
  rintro e w1 ⟨ap, cp, rfl, hrP, hb1⟩
  have h1 := (h0.next hb1).drew
  have hoff : 0 < P.length → ∀ p, ap = some p → p.block < w1.heap.size := fun hn p hp => by
    obtain ⟨b, off, x, y, ha, _, c0, _⟩ := pr_at hrP 0 hn
    rw [hp] at ha
    cases ha
    exact cell_lt c0
  have hrP1 : RowAt encP w1.drew (.slice ap P.length cp) P := hrP.below (Below.refl _ _).drew
  have h1A := ((h0.next hb1).alloc (.cells #[.int .i64 0, .slice none 0 0, .int .i64 0, .int .i64 0, .slice none 0 0] 46)).drew
  have hbA1 := ((Below.refl w1.heap.size w1).alloc (Nat.le_refl _) (.cells #[.int .i64 0, .slice none 0 0, .int .i64 0, .int .i64 0, .slice none 0 0] 46)).drew
  have hrPA := hrP.below hbA1
  have hQ1 : (w1.alloc (.cells #[.int .i64 0, .slice none 0 0, .int .i64 0, .int .i64 0, .slice none 0 0] 46)).drew.heap[w1.heap.size]? = _ := heap_alloc_new w1 (.cells #[.int .i64 0, .slice none 0 0, .int .i64 0, .int .i64 0, .slice none 0 0] 46)
  clear hov hb1 h0 hrP
  have hcx : ∀ W : World, Bx4 w (.cells #[.int .i64 n0, .slice p0 l0 c0, .int .i64 WD, .int .i64 CT, .slice an NS.length cn] 46) (.cells #[.int .i64 m, .slice p1 l1 c1] 27) (.cells #[.int .i64 n, .slice a es.length cap] 27) (.int .i64 0) (.slice none 0 0) (.int .i64 0) (.int .i64 0) (.slice none 0 0) 46 W → W.cell? ⟨w.heap.size, 2, none⟩ = some (.int .i64 WD) ∧ W.cell? ⟨w.heap.size, 3, none⟩ = some (.int .i64 CT) ∧ W.cell? ⟨w.heap.size, 4, none⟩ = some (.slice an NS.length cn) ∧ W.cell? ⟨w.heap.size + 1, 0, none⟩ = some (.int .i64 m) ∧ W.cell? ⟨w.heap.size + 1, 1, none⟩ = some (.slice p1 l1 c1) ∧ W.cell? ⟨w.heap.size + 2, 0, none⟩ = some (.int .i64 n) ∧ W.cell? ⟨w.heap.size + 2, 1, none⟩ = some (.slice a es.length cap) := fun W h => ⟨(cells5 h.a).2.2.1, (cells5 h.a).2.2.2.1, (cells5 h.a).2.2.2.2, (cell_two h.b).1, (cell_two h.b).2, (cell_two h.c).1, (cell_two h.c).2⟩
  go_wp2_with fail
  have hcxF := True.intro
  have hHA := True.intro
  go_region_held3 (fun W => W.cell? ⟨w.heap.size, 2, none⟩ = some (.int .i64 WD) ∧ W.cell? ⟨w.heap.size, 3, none⟩ = some (.int .i64 CT) ∧ W.cell? ⟨w.heap.size, 4, none⟩ = some (.slice an NS.length cn) ∧ W.cell? ⟨w.heap.size + 1, 0, none⟩ = some (.int .i64 m) ∧ W.cell? ⟨w.heap.size + 1, 1, none⟩ = some (.slice p1 l1 c1) ∧ W.cell? ⟨w.heap.size + 2, 0, none⟩ = some (.int .i64 n) ∧ W.cell? ⟨w.heap.size + 2, 1, none⟩ = some (.slice a es.length cap))
    (first
      | (with_reducible exact hcx _ (by with_reducible assumption))
      | with_reducible exact hHA
      | with_reducible exact hcxF)
    (first
      | (go_at_call 85; (with_reducible refine (hdu w1.drew (he.below h1.be)).mono ?_); rintro e w2 ⟨rfl, hb2⟩; have h2 := h1.next hb2; have h2A := h2.alloc (.cells #[.int .i64 0, .slice none 0 0, .int .i64 0, .int .i64 0, .slice none 0 0] 46); have hr2 := hrP1.below hb2; have hs2 : w1.heap.size ≤ w2.heap.size := hb2.size)
      | (go_at_call 85; (with_reducible refine (hdu (w1.alloc (.cells #[.int .i64 0, .slice none 0 0, .int .i64 0, .int .i64 0, .slice none 0 0] 46)).drew (he.below h1A.be)).mono ?_); rintro e w2 ⟨rfl, hb2⟩; have h2 := h1A.next hb2; have hQ2 := lit_next' hb2 hQ1; have hqw : w.heap.size + 4 ≤ w1.heap.size := h1.base; have hqs : w1.heap.size ≤ w1.heap.size := Nat.le_refl _; have hr2 := hrPA.below hb2; have hs2 : w1.heap.size ≤ w2.heap.size := Nat.le_trans hbA1.size hb2.size)
      | (go_at_call 85; (with_reducible refine (hdv w2 (he.below h2.be)).mono ?_); rintro e w3 ⟨rfl, hb3⟩; have h3 := h2.next hb3; have hQ3 := lit_next' hb3 hQ2; have hr3 := hr2.below hb3; have hs3 : w1.heap.size ≤ w3.heap.size := Nat.le_trans hs2 hb3.size)
      | (go_at_call 85; (with_reducible refine (hdv w2 (he.below h2.be)).mono ?_); rintro e w3 ⟨rfl, hb3⟩; have h3 := h2.next hb3; have h3A := h3.alloc (.cells #[.int .i64 0, .slice none 0 0, .int .i64 0, .int .i64 0, .slice none 0 0] 46); have hr3 := hr2.below hb3; have hs3 : w1.heap.size ≤ w3.heap.size := Nat.le_trans hs2 hb3.size)
      | (go_at_call 85; (with_reducible refine (hdv (w2.alloc (.cells #[.int .i64 0, .slice none 0 0, .int .i64 0, .int .i64 0, .slice none 0 0] 46)) (he.below h2A.be)).mono ?_); rintro e w3 ⟨rfl, hb3⟩; have h3 := h2A.next hb3; have hQ3 := lit_next' hb3 (heap_alloc_new w2 (.cells #[.int .i64 0, .slice none 0 0, .int .i64 0, .int .i64 0, .slice none 0 0] 46)); have hbA := (Below.refl w2.heap.size w2).alloc (Nat.le_refl _) (.cells #[.int .i64 0, .slice none 0 0, .int .i64 0, .int .i64 0, .slice none 0 0] 46); have hqw : w.heap.size + 4 ≤ w2.heap.size := h2.base; have hqs : w1.heap.size ≤ w2.heap.size := hs2; have hr3 := (hr2.below hbA).below hb3; have hs3 : w1.heap.size ≤ w3.heap.size := Nat.le_trans (Nat.le_trans hs2 hbA.size) hb3.size)
      | (go_at_call 94; (with_reducible refine (clone_any an cn NS w3 (hi.below h3.be) hn1 (by omega)).mono ?_); rintro e w4 ⟨g, c4, rfl, hc4, hT4, hg4, hb4⟩; have hQ4 := lit_next' hb4 hQ3; have hql := blk_lt hQ3; have h4 := h3.next hb4; have hr4 := hr3.below hb4; have hs4 := hb4.size; obtain ⟨k0, k1, k2, k3, k4⟩ := cells5 hQ4; obtain ⟨f0, f1, f2, f3, f4⟩ := frees5 hQ4; have hcxF := hcx _ (h4.grown (set5_grown _ _ (.int .i64 m) (.slice p1 l1 c1) (.int .i64 (WD + X1)) (.int .i64 (CT + X2)) (.slice (some ⟨g, 0, none⟩) NS.length c4)) (fun k e => by cases e; exact hqw)); unfold set5 at hcxF; have HSt := Lib.hid (ChS.start h4 hQ4 hT4 HNE.out hr4 (by omega) (by have := h3.base; omega) hqw (fun hn p hp => by have := hoff hn p hp; omega) (.int .i64 m) (.slice p1 l1 c1) (.int .i64 (WD + X1)) (.int .i64 (CT + X2)) (.slice (some ⟨g, 0, none⟩) NS.length c4)))
      | (go_at_call 94; (with_reducible refine (clone_any an cn NS (w3.alloc (.cells #[.int .i64 0, .slice none 0 0, .int .i64 0, .int .i64 0, .slice none 0 0] 46)) (hi.below h3A.be) hn1 (by omega)).mono ?_); rintro e w4 ⟨g, c4, rfl, hc4, hT4, hg4, hb4⟩; have hQ4 := lit_next' hb4 (heap_alloc_new w3 (.cells #[.int .i64 0, .slice none 0 0, .int .i64 0, .int .i64 0, .slice none 0 0] 46)); have hql := blk_lt (heap_alloc_new w3 (.cells #[.int .i64 0, .slice none 0 0, .int .i64 0, .int .i64 0, .slice none 0 0] 46)); have hbA := (Below.refl w3.heap.size w3).alloc (Nat.le_refl _) (.cells #[.int .i64 0, .slice none 0 0, .int .i64 0, .int .i64 0, .slice none 0 0] 46); have h4 := h3A.next hb4; have hr4 := (hr3.below hbA).below hb4; have hqw : w.heap.size + 4 ≤ w3.heap.size := h3.base; have hqs : w1.heap.size ≤ w3.heap.size := hs3; have hbs := hbA.size; have hs4 := hb4.size; obtain ⟨k0, k1, k2, k3, k4⟩ := cells5 hQ4; obtain ⟨f0, f1, f2, f3, f4⟩ := frees5 hQ4; have hcxF := hcx _ (h4.grown (set5_grown _ _ (.int .i64 m) (.slice p1 l1 c1) (.int .i64 (WD + X1)) (.int .i64 (CT + X2)) (.slice (some ⟨g, 0, none⟩) NS.length c4)) (fun k e => by cases e; exact hqw)); unfold set5 at hcxF; have HSt := Lib.hid (ChS.start h4 hQ4 hT4 HNE.out hr4 (by omega) (by have := h3.base; omega) hqw (fun hn p hp => by have := hoff hn p hp; omega) (.int .i64 m) (.slice p1 l1 c1) (.int .i64 (WD + X1)) (.int .i64 (CT + X2)) (.slice (some ⟨g, 0, none⟩) NS.length c4)))
      | (go_at_call 94; (with_reducible refine (clone_any an cn NS w3 (hi.below h3.be) hn1 (by omega)).mono ?_); rintro e w4 ⟨g, c4, rfl, hc4, hT4, hg4, hb4⟩; have h4n := h3.next hb4; have h4z := h4n.alloc (.cells #[.int .i64 0, .slice none 0 0, .int .i64 0, .int .i64 0, .slice none 0 0] 46); have h4 := h4n.alloc (.cells #[.int .i64 m, .slice p1 l1 c1, .int .i64 (WD + X1), .int .i64 (CT + X2), .slice (some ⟨g, 0, none⟩) NS.length c4] 46); have hQ4 := heap_alloc_new w4 (.cells #[.int .i64 m, .slice p1 l1 c1, .int .i64 (WD + X1), .int .i64 (CT + X2), .slice (some ⟨g, 0, none⟩) NS.length c4] 46); have hbA := (Below.refl w4.heap.size w4).alloc (Nat.le_refl _) (.cells #[.int .i64 m, .slice p1 l1 c1, .int .i64 (WD + X1), .int .i64 (CT + X2), .slice (some ⟨g, 0, none⟩) NS.length c4] 46); have hHA := hcx _ h4; have HSt := Lib.hid (ChS.laid h4 hQ4 (hT4.below hbA) HNE.out ((hr3.below hb4).below hbA) (by have := hT4.lt; omega) (by have := h3.base; omega) (fun hn p hp => by have := hoff hn p hp; omega))))
  all_goals
    have hc4n : n ≤ c4 := by rw [← HNS.out]; exact hc4
    have hg4w : w.heap.size ≤ g := by have := HSt.out.gw; omega
    clear hcx hdu hdv
    go_wp2_with fail
    clear hcxF hHA
    go_loopw [51] (fun i wr => ∃ k : Nat, k ≤ P.length ∧ i = .int .i64 k ∧ ChS w (.cells #[.int .i64 n0, .slice p0 l0 c0, .int .i64 WD, .int .i64 CT, .slice an NS.length cn] 46) (.cells #[.int .i64 m, .slice p1 l1 c1] 27) (.cells #[.int .i64 n, .slice a es.length cap] 27) n g _ (fun i => NS.getD i 0) by_ (.cells #[.int .i64 m, .slice p1 l1 c1, .int .i64 (WD + X1), .int .i64 (CT + X2), .slice (some ⟨g, 0, none⟩) NS.length c4] 46) ap cp P (tou u v (P.take k)) wr) (fun i _ => P.length - (intOf i).toNat)
    case atStart => exact ⟨0, Nat.zero_le _, rfl, HSt.out⟩
    case round =>
      obtain ⟨k, hk, rfl, hS⟩ := hrel
      clear HSt
      by_cases hlt : k < P.length
      · obtain ⟨bp, op, x, y, rfl, hx, m0, m1⟩ := pr_at hS.row k hlt
        obtain ⟨hxn, hyn⟩ := hPn (x, y) (List.mem_of_getElem? hx)
        dsimp only at hxn hyn
        have htk := tou_snoc u v (P.take k) (x, y)
        rw [← take_at P k _ hx] at htk
        have HTK := Lib.hid htk
        have htl : (tou u v (P.take k)).length ≤ 20000 := by rw [tou_len, List.length_take]; omega
        have hki : (k : Int) < P.length := by omega
        clear htk hx
        go_wp2_with fail
        go_loopw [62] (fun i wr => ∃ j : Nat, j ≤ 4 ∧ i = .int .i64 j ∧ ChS w (.cells #[.int .i64 n0, .slice p0 l0 c0, .int .i64 WD, .int .i64 CT, .slice an NS.length cn] 46) (.cells #[.int .i64 m, .slice p1 l1 c1] 27) (.cells #[.int .i64 n, .slice a es.length cap] 27) n g _ (fun i => NS.getD i 0) by_ (.cells #[.int .i64 m, .slice p1 l1 c1, .int .i64 (WD + X1), .int .i64 (CT + X2), .slice (some ⟨g, 0, none⟩) NS.length c4] 46) (some ⟨bp, op, none⟩) cp P (step4 (tou u v (P.take k)) u v x y j) wr) (fun i _ => 4 - (intOf i).toNat)
        case atStart => exact ⟨0, by omega, rfl, hS.alloc _⟩
        case round =>
          clear hS m0 m1
          obtain ⟨j, hj, rfl, hR⟩ := hrel
          rcases (by omega : j = 0 ∨ j = 1 ∨ j = 2 ∨ j = 3 ∨ j = 4) with rfl | rfl | rfl | rfl | rfl
          · have iyj := iy0 (u : Int) (v : Int) (x : Int) (y : Int)
            have cz := hR.cell u hu
            have fz := hR.tail.free u
            have q4 := (cells5 hR.q).2.2.2.2
            have hst := hR.step u hu
            have hbd := chF_bd (fun i => NS.getD i 0) by_ (step4 (tou u v (P.take k)) u v x y 0) u hby (hBB u) (by have := step4_len (tou u v (P.take k)) u v x y 0; omega)
            obtain ⟨F, hF⟩ : ∃ F, chF (fun i => NS.getD i 0) by_ (step4 (tou u v (P.take k)) u v x y 0) u = F := ⟨_, rfl⟩
            rw [hF] at cz hst hbd
            have vb : IntKind.i64.wrap (F + by_) = F + by_ := IntWalk.i64_in _ (by rcases hby with h | h <;> subst h <;> omega)
            have hz2 : (u : Int) < NS.length := by have := HNS.out; omega
            have hz3 : u < NS.length := by omega
            have HR2 := Lib.hid hst
            clear hst hF hbd hR
            go_wp2_with fail
            go_roundw
            case rel => exact ⟨1, by omega, by go_num, HR2.out⟩
            case measure => simp [intOf]
          · have iyj := iy1 (u : Int) (v : Int) (x : Int) (y : Int)
            have cz := hR.cell v hvn
            have fz := hR.tail.free v
            have q4 := (cells5 hR.q).2.2.2.2
            have hst := hR.step v hvn
            have hbd := chF_bd (fun i => NS.getD i 0) by_ (step4 (tou u v (P.take k)) u v x y 1) v hby (hBB v) (by have := step4_len (tou u v (P.take k)) u v x y 1; omega)
            obtain ⟨F, hF⟩ : ∃ F, chF (fun i => NS.getD i 0) by_ (step4 (tou u v (P.take k)) u v x y 1) v = F := ⟨_, rfl⟩
            rw [hF] at cz hst hbd
            have vb : IntKind.i64.wrap (F + by_) = F + by_ := IntWalk.i64_in _ (by rcases hby with h | h <;> subst h <;> omega)
            have hz2 : (v : Int) < NS.length := by have := HNS.out; omega
            have hz3 : v < NS.length := by omega
            have HR2 := Lib.hid hst
            clear hst hF hbd hR
            go_wp2_with fail
            go_roundw
            case rel => exact ⟨2, by omega, by go_num, HR2.out⟩
            case measure => simp [intOf]
          · have iyj := iy2 (u : Int) (v : Int) (x : Int) (y : Int)
            have cz := hR.cell x hxn
            have fz := hR.tail.free x
            have q4 := (cells5 hR.q).2.2.2.2
            have hst := hR.step x hxn
            have hbd := chF_bd (fun i => NS.getD i 0) by_ (step4 (tou u v (P.take k)) u v x y 2) x hby (hBB x) (by have := step4_len (tou u v (P.take k)) u v x y 2; omega)
            obtain ⟨F, hF⟩ : ∃ F, chF (fun i => NS.getD i 0) by_ (step4 (tou u v (P.take k)) u v x y 2) x = F := ⟨_, rfl⟩
            rw [hF] at cz hst hbd
            have vb : IntKind.i64.wrap (F + by_) = F + by_ := IntWalk.i64_in _ (by rcases hby with h | h <;> subst h <;> omega)
            have hz2 : (x : Int) < NS.length := by have := HNS.out; omega
            have hz3 : x < NS.length := by omega
            have HR2 := Lib.hid hst
            clear hst hF hbd hR
            go_wp2_with fail
            go_roundw
            case rel => exact ⟨3, by omega, by go_num, HR2.out⟩
            case measure => simp [intOf]
          · have iyj := iy3 (u : Int) (v : Int) (x : Int) (y : Int)
            have cz := hR.cell y hyn
            have fz := hR.tail.free y
            have q4 := (cells5 hR.q).2.2.2.2
            have hst := hR.step y hyn
            have hbd := chF_bd (fun i => NS.getD i 0) by_ (step4 (tou u v (P.take k)) u v x y 3) y hby (hBB y) (by have := step4_len (tou u v (P.take k)) u v x y 3; omega)
            obtain ⟨F, hF⟩ : ∃ F, chF (fun i => NS.getD i 0) by_ (step4 (tou u v (P.take k)) u v x y 3) y = F := ⟨_, rfl⟩
            rw [hF] at cz hst hbd
            have vb : IntKind.i64.wrap (F + by_) = F + by_ := IntWalk.i64_in _ (by rcases hby with h | h <;> subst h <;> omega)
            have hz2 : (y : Int) < NS.length := by have := HNS.out; omega
            have hz3 : y < NS.length := by omega
            have HR2 := Lib.hid hst
            clear hst hF hbd hR
            go_wp2_with fail
            go_roundw
            case rel => exact ⟨4, by omega, by go_num, HR2.out⟩
            case measure => simp [intOf]
          · have HR2 := Lib.hid hR
            clear hR
            go_wp2_with fail
            go_roundw
            case rel => exact ⟨k + 1, by omega, by go_num, by rw [HTK.out]; exact HR2.out⟩
            case measure => simp [intOf]; omega
      · obtain rfl : k = P.length := by omega
        have hq := hS.q
        rw [HNS.out] at hq
        obtain ⟨q0, q1, q2, q3, q4⟩ := cells5 hS.q
        obtain ⟨o0, o1, o2, o3, o4⟩ := cells5 hS.bx.o
        obtain ⟨f0, f1, f2, f3, f4⟩ := frees5 hS.bx.o
        have hbe := hS.bx.be
        have hgg := set5_grown wr (w.heap.size + 3) (.int .i64 m) (.slice p1 l1 c1) (.int .i64 (WD + X1)) (.int .i64 (CT + X2)) (.slice (some ⟨g, 0, none⟩) NS.length c4)
        have hfin := set5_at hS.bx.o (.int .i64 m) (.slice p1 l1 c1) (.int .i64 (WD + X1)) (.int .i64 (CT + X2)) (.slice (some ⟨g, 0, none⟩) NS.length c4)
        have hI := TailAt.ints (cap := c4) hS.tail (by rw [fnN_length]; omega) (by rw [fnN_length]; exact hc4n)
        rw [fnN_length, List.take_length] at hI
        have hgw := hS.gw
        have HI := Lib.hid (IntsAt.grown hI hgg (fun k e n' c' p ep => by cases e; have h1 := (Value.slice.inj ep).1; cases h1; show g ≠ w.heap.size + 3; omega))
        have HBE := Lib.hid (hbe.grown hgg hbe.size (fun k e => by cases e; omega))
        have HFI := Lib.hid hfin
        clear hI hgg hfin hbe hS hq
        go_wp2_with fail
        obtain ⟨t0, t1, t2, t3, t4⟩ := cells5 HFI.out
        unfold set5 at t0 t1 t2 t3 t4
        exact bodyPost_ret (v := .tuple #[.agg #[.int .i64 m, .slice p1 l1 c1, .int .i64 (WD + X1), .int .i64 (CT + X2), .slice (some ⟨g, 0, none⟩) NS.length c4], .int .i64 (P.length : Int), .int .i64 0]) (by simp [results, Tryd.results66, go_sem, t0, t1, t2, t3, t4]) rfl ⟨g, c4, by rw [HNS.out], HI.out, hg4w, HBE.out⟩
end Go.Proofs.YtekbpoppajbljaaDoor
