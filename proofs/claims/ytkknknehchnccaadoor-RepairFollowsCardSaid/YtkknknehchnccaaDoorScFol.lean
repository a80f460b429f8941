/- The contract of graph.Find, for valid graphs. Plain: what following events answers. The contract of the edges that an event touches, for valid graphs and events that fit. The contract of following events, for any graph and numbers. -/
import Derived.Test.YtkknknehchnccaaDoorGrFind
import Derived.Test.YtkknknehchnccaaDoorAdj
import Derived.Test.YtkknknehchnccaaDoorRepS
import Derived.Test.YtkknknehchnccaaDoorScChk
import Derived.Test.YtkknknehchnccaaDoorRepId
import Derived.Test.YtkknknehchnccaaDoorScEv
namespace Go.Proofs.YtkknknehchnccaaDoor
open Go.RowKit Go.BigFrame

theorem adj_min {n : Int} {es : List E2} (hv : Valid n es) (p q : Nat) : decide ((min (p : Int) (q : Int), max (p : Int) (q : Int)) ∈ es) = adjB es p q := by
  by_cases h : adjB es p q = true
  · rw [h, decide_eq_true_eq]
    rcases (adjB_iff es p q).1 h with h | h
    · have := (hv.2.2.1 _ h).2.1
      rw [Int.min_eq_left (by omega), Int.max_eq_right (by omega)]; exact h
    · have := (hv.2.2.1 _ h).2.1
      rw [Int.min_eq_right (by omega), Int.max_eq_left (by omega)]; exact h
  · have hf : adjB es p q = false := by simpa using h
    rw [hf, decide_eq_false_iff_not]
    intro hm
    apply h
    rw [adjB_iff]
    by_cases hpq : (p : Int) ≤ q
    · rw [Int.min_eq_left hpq, Int.max_eq_right hpq] at hm; exact .inl hm
    · rw [Int.min_eq_right (by omega), Int.max_eq_left (by omega)] at hm; exact .inr hm
set_option maxRecDepth 100000 in
set_option maxHeartbeats 1600000 in
theorem gfind_any (n : Nat) (a : Option Addr) (cap : Nat) (es : List E2) (u v : Nat) (w : World) (he : EdgesAt w (.slice a es.length cap) es) (hv : Valid n es) :
    Calls Tryd.prog 134 #[.agg #[.int .i64 n, .slice a es.length cap], .int .i64 u, .int .i64 v] w fun e w' => ∃ r : Int, e = .returned (.int .i64 r) ∧ decide (0 ≤ r) = adjB es u v ∧ Below w.heap.size w w' := by
  have hel := hv.length_le
  have hb0 : Below w.heap.size w (w.alloc (.cells #[.int .i64 n, .slice a es.length cap] 25)) := (Below.refl _ _).alloc (Nat.le_refl _) _
  have hG0 := heap_alloc_new w (.cells #[.int .i64 n, .slice a es.length cap] 25)
  have hpl := fun W h => place_any n a cap es u v W h hv.2.2.2 (by omega)
  rw [adj_min hv] at hpl
  have hck := fun W h => gcheck_any n a cap es W h
  rw [(valid_iff n es).2 hv] at hck
  obtain ⟨D, hD⟩ : ∃ D, adjB es u v = D := ⟨_, rfl⟩
  rw [hD] at hpl
  have HD := Lib.hid hD
  clear hD
  go_enter Tryd.func134, Tryd.ntmps134
  go_wp2_with fail
  refine (hpl _ (he.below hb0)).mono ?_
  rintro e w1 ⟨i, rfl, -, -, hb1⟩
  have hb01 := hb0.trans (hb1.mono hb0.size)
  have hG1 := lit_next' hb1 hG0
  have g0 : w1.cell? ⟨w.heap.size, 0, none⟩ = some (.int .i64 n) := by rw [cell_blk hG1]; rfl
  have g1 : w1.cell? ⟨w.heap.size, 1, none⟩ = some (.slice a es.length cap) := by rw [cell_blk hG1]; rfl
  clear hb1 hb0 hG0 hpl
  cases D with
  | false =>
    go_wp2_with fail
    go_ret
    exact ⟨-1, rfl, by rw [HD.out]; rfl, hb01⟩
  | true =>
    go_wp2_with fail
    refine (hck _ (he.below hb01)).mono ?_
    rintro e w2 ⟨rfl, hb2⟩
    go_wp2_with fail
    go_ret
    exact ⟨i, rfl, by rw [HD.out]; simp, hb01.trans (hb2.mono hb01.size)⟩
end Go.Proofs.YtkknknehchnccaaDoor

namespace Go.Proofs.YtkknknehchnccaaDoor
open Go.RowKit Go.BigFrame

/-- the edges that an event adds or removes -/
def touE (es : List E2) (e : Ev) : List E2 := if e.kind = 3 then es.filter (fun x => decide (x.1 = e.u) || decide (x.2 = e.u)) else if adjB es e.u.toNat e.v.toNat = decide (e.kind = 2) then [(min e.u e.v, max e.u e.v)] else []
def stpE (ins : Bool) (es : List E2) (x : E2) : List E2 := if ins = true then insE es x else delE es x
def stpF (n : Nat) (ins : Bool) (s : List E2 × Int) (x : E2) : List E2 × Int := (stpE ins s.1 x, s.2 + ((chgL n (corT s.1 n) (corT (stpE ins s.1 x) n)).length : Int))
def insK (e : Ev) : Bool := decide (e.kind = 1)
def evF (n : Nat) (s : List E2 × Int) (e : Ev) : List E2 × Int := (touE s.1 e).foldl (stpF n (insK e)) s
def folF (n : Nat) : List E2 × Int → List Ev → List E2 × Int × Int
  | s, [] => (s.1, s.2, 0)
  | s, e :: l => if fitS n e ≠ 0 then ([], 0, fitS n e) else folF n (evF n s e) l
def folX (c : Cr) (evs : List Ev) : Cr × Int × Int := if crOk c = false then (Cr.zero, 0, 12) else if (folF c.n.toNat (c.es, 0) evs).2.2 ≠ 0 then (Cr.zero, 0, (folF c.n.toNat (c.es, 0) evs).2.2) else (crN c.n.toNat (folF c.n.toNat (c.es, 0) evs).1, (folF c.n.toNat (c.es, 0) evs).2.1, 0)
/-- what is still to be added or removed fits the graph -/
structure OkT (n : Nat) (ins : Bool) (es rest : List E2) : Prop where
  v : Valid n es
  a : ins = true → rest.length ≤ 1 ∧ ∀ x ∈ rest, Ins n x ∧ x ∉ es
  d : ins = false → rest.Nodup ∧ ∀ x ∈ rest, x ∈ es
theorem OkT.step {n : Nat} {ins : Bool} {es rest : List E2} {x : E2} (h : OkT n ins es (x :: rest)) : Ins n x ∧ (ins = true → x ∉ es) ∧ (ins = false → x ∈ es) ∧ OkT n ins (stpE ins es x) rest := by
  cases ins with
  | true =>
    obtain ⟨h1, h2⟩ := h.a rfl
    obtain ⟨h3, h4⟩ := h2 x List.mem_cons_self
    have : rest = [] := List.eq_nil_of_length_eq_zero (by simp only [List.length_cons] at h1; omega)
    subst this
    exact ⟨h3, (fun _ => h4), (fun e => by cases e), h.v.ins x h3, (fun _ => ⟨by simp, fun y hy => by cases hy⟩), (fun e => by cases e)⟩
  | false =>
    obtain ⟨h1, h2⟩ := h.d rfl
    have h3 := h2 x List.mem_cons_self
    obtain ⟨h4, h5⟩ := List.nodup_cons.1 h1
    refine ⟨h.v.2.2.1 x h3, (fun e => by cases e), fun _ => h3, h.v.del x, (fun e => by cases e), fun _ => ⟨h5, fun y hy => ?_⟩⟩
    show y ∈ delE es x
    exact delE_mem.2 ⟨h2 y (List.mem_cons_of_mem _ hy), fun e => h4 (e ▸ hy)⟩
theorem sorted_nodup {es : List E2} (h : es.Pairwise (fun a b => beforeB a b = true)) : es.Nodup := h.imp fun {a b} hab e => by
  subst e; rw [before_irrefl] at hab; cases hab
theorem min_adj {n : Nat} {es : List E2} (hv : Valid n es) (u v : Nat) : adjB es u v = decide ((min (u : Int) v, max (u : Int) v) ∈ es) := by
  rw [Bool.eq_iff_iff, decide_eq_true_eq]
  constructor
  · intro h
    rw [adjB_iff] at h
    rcases h with h | h
    · have := hv.2.2.1 _ h
      unfold Ins at this
      dsimp only at this
      rw [show min (u : Int) v = u by omega, show max (u : Int) v = v by omega]; exact h
    · have := hv.2.2.1 _ h
      unfold Ins at this
      dsimp only at this
      rw [show min (u : Int) v = v by omega, show max (u : Int) v = u by omega]; exact h
  · exact adj_pair
/-- what an event that fits is -/
theorem fit_parts {n : Nat} {e : Ev} (hn : n ≤ 64) (h : fitS n e = 0) : ∃ u v : Nat, e.u = u ∧ e.v = v ∧ u < n ∧ v < n ∧ (e.kind = 1 ∨ e.kind = 2 ∨ e.kind = 3) ∧ (e.kind ≠ 3 → u ≠ v) := by
  obtain ⟨h1, h2, h3⟩ := fit_zero h
  unfold evS at h1
  split at h1
  · simp at h1
  · rename_i hk
    split at h1
    · simp at h1
    · split at h1
      · simp at h1
      · rename_i he
        have he' : evEnds e = true := by simpa using he
        unfold evEnds at he'
        by_cases h5 : e.kind = 3
        · rw [if_pos h5] at he'
          simp only [nodeB, Bool.and_eq_true, decide_eq_true_eq] at he'
          obtain ⟨u, hu⟩ := Int.eq_ofNat_of_zero_le he'.1.1
          exact ⟨u, 0, hu, he'.2, by omega, by omega, .inr (.inr h5), fun h => absurd h5 h⟩
        · rw [if_neg h5] at he'
          simp only [nodeB, Bool.and_eq_true, decide_eq_true_eq] at he'
          obtain ⟨u, hu⟩ := Int.eq_ofNat_of_zero_le he'.1.1
          obtain ⟨v, hv⟩ := Int.eq_ofNat_of_zero_le he'.2.1.1
          exact ⟨u, v, hu, hv, by omega, by omega, by omega, fun _ e => by have := he'.2.2; omega⟩
theorem tou_ok {n : Nat} {es : List E2} {e : Ev} (hv : Valid n es) (h : fitS n e = 0) : OkT n (insK e) es (touE es e) := by
  have hn : n ≤ 64 := by have := hv.2.1; omega
  obtain ⟨u, v, hu, hv2, hun, hvn, hk, hne⟩ := fit_parts hn h
  unfold touE insK
  rw [hu, hv2, Int.toNat_natCast, Int.toNat_natCast]
  by_cases h3 : e.kind = 3
  · rw [if_pos h3, decide_eq_false (by omega)]
    refine ⟨hv, (fun e => by cases e), fun _ => ⟨(sorted_nodup hv.2.2.2).filter _, fun x hx => (List.mem_filter.1 hx).1⟩⟩
  · rw [if_neg h3, min_adj hv]
    have hne' := hne h3
    by_cases h1 : e.kind = 1
    · rw [decide_eq_true h1, decide_eq_false (show ¬ e.kind = 2 by omega)]
      refine ⟨hv, fun _ => ?_, fun e => by cases e⟩
      split
      · rename_i hm
        refine ⟨by simp, fun x hx => ?_⟩
        rw [List.mem_singleton.1 hx]
        exact ⟨ends_pair hun hvn hne', of_decide_eq_false hm⟩
      · exact ⟨by simp, fun x hx => by cases hx⟩
    · have h2 : e.kind = 2 := by omega
      rw [decide_eq_false h1, decide_eq_true h2]
      refine ⟨hv, (fun e => by cases e), fun _ => ?_⟩
      split
      · rename_i hm
        refine ⟨by simp, fun x hx => ?_⟩
        rw [List.mem_singleton.1 hx]
        exact of_decide_eq_true hm
      · exact ⟨by simp, fun x hx => by cases hx⟩
theorem chgL_len (n : Nat) (l m : List Int) : (chgL n l m).length ≤ n := by unfold chgL; rw [castL_length]; exact selL_len _ _
theorem tou_len {n : Nat} {es : List E2} (hv : Valid n es) (e : Ev) : (touE es e).length ≤ 4096 := by
  unfold touE
  split
  · exact Nat.le_trans (List.length_filter_le _ _) hv.length_le
  · split <;> simp
/-- the steps of an event: the graph stays valid, the count grows slowly -/
theorem steps_ok {n : Nat} (hn : n ≤ 64) (ins : Bool) : ∀ (rest : List E2) (es : List E2) (c : Int), OkT n ins es rest → Valid n (rest.foldl (stpF n ins) (es, c)).1 ∧ c ≤ (rest.foldl (stpF n ins) (es, c)).2 ∧ (rest.foldl (stpF n ins) (es, c)).2 ≤ c + 64 * rest.length := by
  intro rest
  induction rest with
  | nil => intro es c h; exact ⟨h.v, Int.le_refl _, by simp⟩
  | cons x rest ih =>
    intro es c h
    obtain ⟨-, -, -, h4⟩ := h.step
    have h5 := ih (stpE ins es x) (c + ((chgL n (corT es n) (corT (stpE ins es x) n)).length : Int)) h4
    have h6 := chgL_len n (corT es n) (corT (stpE ins es x) n)
    have e1 : (x :: rest).foldl (stpF n ins) (es, c) = rest.foldl (stpF n ins) (stpE ins es x, c + ((chgL n (corT es n) (corT (stpE ins es x) n)).length : Int)) := rfl
    rw [e1]
    refine ⟨h5.1, by omega, ?_⟩
    have := h5.2.2
    simp only [List.length_cons]
    omega
theorem ev_ok {n : Nat} {s : List E2 × Int} {e : Ev} (hv : Valid n s.1) (h : fitS n e = 0) : Valid n (evF n s e).1 ∧ s.2 ≤ (evF n s e).2 ∧ (evF n s e).2 ≤ s.2 + 262144 := by
  obtain ⟨es, c⟩ := s
  dsimp only at hv
  have hn : n ≤ 64 := by have := hv.2.1; omega
  have h1 := steps_ok hn (insK e) (touE es e) es c (tou_ok hv h)
  have h2 := tou_len hv e
  unfold evF
  dsimp only
  exact ⟨h1.1, h1.2.1, by have := h1.2.2; omega⟩
/-- if all events fit, they may be divided -/
theorem fol_append {n : Nat} (l m : List Ev) : ∀ s, (folF n s l).2.2 = 0 → folF n s (l ++ m) = folF n ((folF n s l).1, (folF n s l).2.1) m := by
  induction l with
  | nil => intro s _; rfl
  | cons e l ih =>
    intro s h
    have e1 : ∀ k, folF n s (e :: k) = if fitS n e ≠ 0 then ([], 0, fitS n e) else folF n (evF n s e) k := fun _ => rfl
    rw [List.cons_append, e1, e1]
    rw [e1] at h
    split
    · rename_i h1
      rw [if_pos h1] at h
      exact absurd h h1
    · rename_i h1
      rw [if_neg h1] at h
      exact ih _ h
theorem fol_fit {n : Nat} : ∀ (l : List Ev) s, (∀ e ∈ l, fitS n e = 0) → (folF n s l).2.2 = 0 := by
  intro l
  induction l with
  | nil => intro s _; rfl
  | cons e l ih =>
    intro s h
    unfold folF
    rw [if_neg (by rw [h e List.mem_cons_self]; simp)]
    exact ih _ fun x hx => h x (List.mem_cons_of_mem _ hx)
theorem fol_valid {n : Nat} : ∀ (l : List Ev) s, Valid n s.1 → (∀ e ∈ l, fitS n e = 0) → Valid n (folF n s l).1 := by
  intro l
  induction l with
  | nil => intro s h _; exact h
  | cons e l ih =>
    intro s hv h
    unfold folF
    rw [if_neg (by rw [h e List.mem_cons_self]; simp)]
    exact ih _ (ev_ok hv (h e List.mem_cons_self)).1 fun x hx => h x (List.mem_cons_of_mem _ hx)
/-- the count only adds up -/
theorem stp_shift (n : Nat) (ins : Bool) (d : Int) : ∀ (rest : List E2) (es : List E2) (c : Int), rest.foldl (stpF n ins) (es, c + d) = ((rest.foldl (stpF n ins) (es, c)).1, (rest.foldl (stpF n ins) (es, c)).2 + d) := by
  intro rest
  induction rest with
  | nil => intro es c; rfl
  | cons x rest ih =>
    intro es c
    have e1 : ∀ k, (x :: rest).foldl (stpF n ins) (es, k) = rest.foldl (stpF n ins) (stpE ins es x, k + ((chgL n (corT es n) (corT (stpE ins es x) n)).length : Int)) := fun _ => rfl
    rw [e1, e1, ← ih]
    congr 2
    omega
theorem fol_shift {n : Nat} : ∀ (l : List Ev) (es : List E2) (c d : Int), (∀ e ∈ l, fitS n e = 0) → folF n (es, c + d) l = ((folF n (es, c) l).1, (folF n (es, c) l).2.1 + d, (folF n (es, c) l).2.2) := by
  intro l
  induction l with
  | nil => intro es c d _; rfl
  | cons e l ih =>
    intro es c d h
    unfold folF
    rw [if_neg (by rw [h e List.mem_cons_self]; simp), if_neg (by rw [h e List.mem_cons_self]; simp)]
    have e1 : evF n (es, c + d) e = ((evF n (es, c) e).1, (evF n (es, c) e).2 + d) := by
      unfold evF
      exact stp_shift n _ d _ _ _
    rw [e1]
    exact ih _ _ _ fun x hx => h x (List.mem_cons_of_mem _ hx)
/-- however the events are divided -/
theorem fol_cut {n : Nat} (es : List E2) (l m : List Ev) (h1 : ∀ e ∈ l, fitS n e = 0) (h2 : ∀ e ∈ m, fitS n e = 0) : (folF n (es, 0) (l ++ m)).1 = (folF n ((folF n (es, 0) l).1, 0) m).1 ∧ (folF n (es, 0) (l ++ m)).2.1 = (folF n (es, 0) l).2.1 + (folF n ((folF n (es, 0) l).1, 0) m).2.1 := by
  rw [fol_append l m (es, 0) (fol_fit l _ h1)]
  have h := fol_shift m (folF n (es, 0) l).1 0 (folF n (es, 0) l).2.1 h2
  rw [Int.zero_add] at h
  rw [h]
  exact ⟨rfl, by dsimp only; omega⟩
end Go.Proofs.YtkknknehchnccaaDoor

namespace Go.Proofs.YtkknknehchnccaaDoor
open Go.RowKit Go.BigFrame

def EdNw (w : World) (ts : List E2) (e : Ending) (w' : World) : Prop := ∃ a c, e = .returned (.slice a ts.length c) ∧ EdgesAt w' (.slice a ts.length c) ts ∧ (∀ p, a = some p → w.heap.size ≤ p.block) ∧ Below w.heap.size w w'
set_option maxRecDepth 100000 in
set_option maxHeartbeats 3200000 in
theorem rptouched_any (n u v : Nat) (k t wt lb sg : Int) (a : Option Addr) (cap : Nat) (es : List E2) (w : World) (he : EdgesAt w (.slice a es.length cap) es) (hv : Valid n es) (hk : k = 1 ∨ k = 2 ∨ k = 3) :
    Calls Tryd.prog 95 #[.agg #[.int .i64 n, .slice a es.length cap], .agg #[.int .i64 k, .int .i64 t, .int .i64 u, .int .i64 v, .int .i64 wt, .int .i64 lb, .int .i64 sg]] w (EdNw w (touE es ⟨k, t, u, v, wt, lb, sg⟩)) := by
  have hel := hv.length_le
  obtain ⟨wA, hwA⟩ : ∃ W : World, W = (w.alloc (.cells #[.int .i64 n, .slice a es.length cap] 25)).alloc (.cells #[.int .i64 k, .int .i64 t, .int .i64 u, .int .i64 v, .int .i64 wt, .int .i64 lb, .int .i64 sg] 78) := ⟨_, rfl⟩
  have hGA : wA.heap[w.heap.size]? = some (.cells #[.int .i64 n, .slice a es.length cap] 25 (0, 0)) := by rw [hwA, Below.heap_alloc _ _ _ (by simp)]; exact heap_alloc_new _ _
  have hEA : wA.heap[w.heap.size + 1]? = some (.cells #[.int .i64 k, .int .i64 t, .int .i64 u, .int .i64 v, .int .i64 wt, .int .i64 lb, .int .i64 sg] 78 (0, 0)) := by
    rw [hwA]
    have := heap_alloc_new (w.alloc (.cells #[.int .i64 n, .slice a es.length cap] 25)) (.cells #[.int .i64 k, .int .i64 t, .int .i64 u, .int .i64 v, .int .i64 wt, .int .i64 lb, .int .i64 sg] 78)
    simpa using this
  have hbA : Below w.heap.size w wA := by rw [hwA]; exact ((Below.refl _ _).alloc (Nat.le_refl _) _).alloc (by simp) _
  have HWA := Lib.hid hwA
  have hfi := gfind_any n a cap es u v wA (he.below hbA) hv
  have g0 := cell_blk (j := 0) hGA
  have g1 := cell_blk (j := 1) hGA
  have e0 := cell_blk (j := 0) hEA
  have e2 := cell_blk (j := 2) hEA
  have e3 := cell_blk (j := 3) hEA
  clear hwA
  unfold touE
  dsimp only
  rw [Int.toNat_natCast, Int.toNat_natCast]
  obtain ⟨B, hB⟩ : ∃ B, adjB es u v = B := ⟨_, rfl⟩
  rw [hB] at hfi ⊢
  clear hB
  by_cases h3 : k = 3
  · subst h3
    rw [if_pos rfl]
    have HF : Hid (∀ x : E2, (decide (x.1 = (u : Int)) || decide (x.2 = (u : Int))) = ((x.1 == (u : Int)) || (x.2 == (u : Int)))) := (show ∀ x : E2, _ from fun x => by
      rw [Bool.eq_iff_iff]; simp)
    obtain ⟨f, hf⟩ : ∃ f : E2 → Bool, (fun x : E2 => decide (x.1 = (u : Int)) || decide (x.2 = (u : Int))) = f := ⟨_, rfl⟩
    rw [hf]
    have HFF : Hid (∀ x : E2, f x = ((x.1 == (u : Int)) || (x.2 == (u : Int)))) := (show ∀ x : E2, _ from fun x => by rw [← hf]; exact HF.out x)
    clear hf HF
    go_enter Tryd.func95, Tryd.ntmps95
    go_wp2_with (rw [← HWA.out])
    refine hfi.mono ?_
    rintro _ w1 ⟨r, rfl, -, hb1⟩
    have hG1 := lit_next' hb1 hGA
    have hE1 := lit_next' hb1 hEA
    have hb01 := hbA.trans (hb1.mono hbA.size)
    clear g0 g1 e0 e2 e3 hGA hEA hbA hb1 hfi
    have e0 := cell_blk (j := 0) hE1
    have g1 := cell_blk (j := 1) hG1
    have hz1 : w.heap.size + 2 ≤ w1.heap.size := blk_lt hE1
    go_wp2_with fail
    go_loopw [6, 23] (fun vo vi wr => ∃ t : Nat, t ≤ es.length ∧ vi = .int .i64 t ∧ (∃ P : List E2, Hid (P = (es.take t).filter f) ∧ P.length ≤ t ∧ wr.ownsRow w1.heap.size 39 2 vo P.length (flatE P)) ∧ Below w1.heap.size w1 wr) (fun _ vi _ => es.length - (intOf vi).toNat)
    case atStart => exact ⟨0, Nat.zero_le _, rfl, ⟨[], (show _ = _ by simp), Nat.le_refl _, World.ownsRow_nil _ _ _ _⟩, Below.refl _ _⟩
    case round =>
      clear e0 g1
      obtain ⟨t, ht, rfl, ⟨P, HP, hPl, hown⟩, hb⟩ := hrel
      obtain ⟨ao, co, hvo⟩ := owns_shape hown
      subst hvo
      have hE := lit_next' hb hE1
      by_cases hlt : t < es.length
      · have hlt3 : (t : Int) < es.length := by omega
        obtain ⟨b9, o9, x, y, rfl, hx, -, -, c0, c1⟩ := (he.below (hb01.trans (hb.mono hb01.size))).at t hlt
        have htk : (es.take (t + 1)).filter f = P ++ (if f (x, y) = true then [(x, y)] else []) := by
          rw [take_at _ _ _ hx, List.filter_append, ← HP.out]
          congr 1
          cases hf : f (x, y) <;> simp [hf]
        have hfx := HFF.out (x, y)
        dsimp only at hfx
        obtain ⟨wX, hwX⟩ : ∃ W : World, W = wr.alloc (.cells #[.int .i64 x, .int .i64 y] 39) := ⟨_, rfl⟩
        have hbX : Below wr.heap.size wr wX := by rw [hwX]; exact (Below.refl _ _).alloc (Nat.le_refl _) _
        have hXX : wX.heap[wr.heap.size]? = some (.cells #[.int .i64 x, .int .i64 y] 39 (0, 0)) := by rw [hwX]; exact heap_alloc_new _ _
        have hEX := lit_next' hbX hE
        have hownX := hown.kept (grown_of_below hbX) (Classical.em _)
        have e2 := cell_blk (j := 2) hEX
        obtain ⟨x0, x1⟩ := cells2 hXX
        have HWX := Lib.hid hwX
        obtain ⟨X, hX⟩ : ∃ X, wr.heap.size = X := ⟨_, rfl⟩
        have HX := Lib.hid hX
        rw [hX] at x0 x1
        have hb1X := hb.trans (hbX.mono hb.size)
        have hlx := edges_lit1 wX x y 39
        have hownA := hownX.alloc (.cells #[.int .i64 x, .int .i64 y] 39)
        have hbA2 := hb1X.alloc hb1X.size (.cells #[.int .i64 x, .int .i64 y] 39)
        clear hwX hX hXX hEX hownX hE hx
        by_cases hxu : x = u
        · have d1 : (x == (u : Int)) = true := by simpa using hxu
          rw [d1, Bool.true_or] at hfx
          rw [hfx, if_pos rfl] at htk
          have HT := Lib.hid htk
          clear htk hfx hxu
          go_upto_region 7 with fail
          rw [← HWX.out, HX.out]
          go_wp2_with (at_builtin; refine wpList_app_edges edgesT rfl _ _ rfl w1.heap.size (.slice ao P.length co) _ P [(x, y)] rfl hownA rfl hlx (by simp; omega) hbA2.size ?_; intro v6 w6 hown6 hg6)
          have hb6 := hbA2.grown hg6 hbA2.size (fun g e => (hownA.lt g e).1)
          obtain ⟨a6, c6, hv6⟩ := owns_shape hown6
          subst hv6
          go_wp2_with fail
          go_roundw
          case rel => exact ⟨t + 1, by omega, by go_num, ⟨P ++ [(x, y)], HT.out.symm, by simp; omega, hown6⟩, hb6⟩
          case measure => simp [intOf]; omega
        · have d1 : (x == (u : Int)) = false := by simpa using hxu
          by_cases hyu : y = u
          · have d2 : (y == (u : Int)) = true := by simpa using hyu
            rw [d1, d2, Bool.false_or] at hfx
            rw [hfx, if_pos rfl] at htk
            have HT := Lib.hid htk
            clear htk hfx hxu hyu
            go_upto_region 7 with fail
            rw [← HWX.out, HX.out]
            go_wp2_with (at_builtin; refine wpList_app_edges edgesT rfl _ _ rfl w1.heap.size (.slice ao P.length co) _ P [(x, y)] rfl hownA rfl hlx (by simp; omega) hbA2.size ?_; intro v6 w6 hown6 hg6)
            have hb6 := hbA2.grown hg6 hbA2.size (fun g e => (hownA.lt g e).1)
            obtain ⟨a6, c6, hv6⟩ := owns_shape hown6
            subst hv6
            go_wp2_with fail
            go_roundw
            case rel => exact ⟨t + 1, by omega, by go_num, ⟨P ++ [(x, y)], HT.out.symm, by simp; omega, hown6⟩, hb6⟩
            case measure => simp [intOf]; omega
          · have d2 : (y == (u : Int)) = false := by simpa using hyu
            rw [d1, d2, Bool.false_or] at hfx
            rw [hfx, if_neg (by simp), List.append_nil] at htk
            have HT := Lib.hid htk
            have hownX2 := hown.kept (grown_of_below hbX) (Classical.em _)
            clear htk hfx hxu hyu
            go_upto_region 7 with fail
            rw [← HWX.out, HX.out]
            go_wp2_with fail
            go_roundw
            case rel => exact ⟨t + 1, by omega, by go_num, ⟨P, HT.out.symm, by omega, hownX2⟩, hb1X⟩
            case measure => simp [intOf]; omega
      · obtain rfl : es.length = t := by omega
        have hPf : P = es.filter f := by rw [HP.out, List.take_length]
        subst hPf
        obtain ⟨a6, c6, hv6, hi6, ho6⟩ := EdgesAt.of_owns hown (by omega)
        cases hv6
        go_wp2_with fail
        go_ret
        exact ⟨ao, co, rfl, hi6, fun p hp => by have := ho6 p hp; omega, hb01.trans (hb.mono hb01.size)⟩
  · rw [if_neg h3]
    have d3 : (k == 3) = false := by simpa using h3
    obtain ⟨D, hD⟩ : ∃ D, decide (k = 2) = D := ⟨_, rfl⟩
    have d2 : (k == 2) = D := by rw [← hD, Bool.eq_iff_iff]; simp
    rw [hD]
    clear hD
    cases B <;> cases D
    all_goals
      go_enter Tryd.func95, Tryd.ntmps95
      go_wp2_with (rw [← HWA.out])
      refine hfi.mono ?_
      rintro _ w1 ⟨r, rfl, hr, hb1⟩
      have hE1 := lit_next' hb1 hEA
      have hb01 := hbA.trans (hb1.mono hbA.size)
      have hlx := edges_lit1 w1 (min (u : Int) v) (max (u : Int) v) 39
      have hbB := hb01.alloc hb01.size (.cells #[.int .i64 (min (u : Int) v), .int .i64 (max (u : Int) v)] 39)
      have hz := hb01.size
      clear g0 g1 e0 e2 e3 hGA hEA hbA hb1
      have e0 := cell_blk (j := 0) hE1
      have e2 := cell_blk (j := 2) hE1
      have e3 := cell_blk (j := 3) hE1
      go_wp2_with fail
      go_ret
      first
        | exact ⟨none, 0, rfl, edges_nil _, (fun p hp => by cases hp), hb01⟩
        | exact ⟨some ⟨w1.heap.size, 0, none⟩, 1, rfl, hlx, (fun p hp => by cases hp; exact hz), hbB⟩
end Go.Proofs.YtkknknehchnccaaDoor

namespace Go.Proofs.YtkknknehchnccaaDoor
open Go.RowKit Go.BigFrame

def FPost (w : World) (x : Cr × Int × Int) (e : Ending) (w' : World) : Prop :=
  ∃ a cap a2 c2, e = .returned (.tuple #[.agg #[.int .i64 x.1.n, .slice a x.1.es.length cap, .slice a2 x.1.l.length c2], .int .i64 x.2.1, .int .i64 x.2.2]) ∧ CIn w' w.heap.size a cap x.1.es a2 c2 x.1.l ∧ Below w.heap.size w w'
/-- the box of the graph that is followed -/
structure FolW (w : World) (n : Nat) (es : List E2) (a : Option Addr) (cap : Nat) (a2 : Option Addr) (c2 : Nat) (wr : World) : Prop where
  b : Bx4 w (.int .i64 n) (.slice a es.length cap) (.slice a2 (corT es n).length c2) (.int .i64 0) (.slice none 0 0) (.slice none 0 0) wr
  c : CIn wr (w.heap.size + 2) a cap es a2 c2 (corT es n)
section
variable {w wr w' : World} {n : Nat} {es fs : List E2} {a ag a2 a3 : Option Addr} {cap cg c2 c3 : Nat}
theorem FolW.next (h : FolW w n es a cap a2 c2 wr) (hb : Below wr.heap.size wr w') : FolW w n es a cap a2 c2 w' := ⟨h.b.next hb, h.c.below hb⟩
theorem FolW.alloc (h : FolW w n es a cap a2 c2 wr) (o : Obj) : FolW w n es a cap a2 c2 (wr.alloc o) := h.next ((Below.refl _ _).alloc (Nat.le_refl _) _)
theorem Bx4.setc {x0 x1 x2 c0 c1 c2 y0 y1 y2 : Value} (h : Bx4 w c0 c1 c2 y0 y1 y2 wr) : Bx4 w x0 x1 x2 y0 y1 y2 (set3 wr w.heap.size x0 x1 x2) :=
  ⟨set3_at h.c x0 x1 x2, (set3_other _ _ _ _ _ _ (by omega)).trans h.o, h.be.grown (set3_grown _ _ _ _ _) h.be.size (fun k e => by cases e; omega)⟩
theorem FolW.set {x1 x2 c0 : Value} (hb : Bx4 w c0 x1 x2 (.int .i64 0) (.slice none 0 0) (.slice none 0 0) wr) (hc : CIn wr (w.heap.size + 2) ag cg fs a3 c3 (corT fs n)) :
    FolW w n fs ag cg a3 c3 (set3 wr w.heap.size (.int .i64 n) (.slice ag fs.length cg) (.slice a3 (corT fs n).length c3)) :=
  ⟨hb.setc, hc.grown (set3_grown _ _ _ _ _) (fun k e => by cases e; omega)⟩
end
theorem _root_.Go.World.grownBy.trans' {A B C : World} {k : Nat} (h : A.grownBy B (some k)) (hb : Below B.heap.size B C) : A.grownBy C (some k) := grown_trans h (grown_none (grown_of_below hb))
theorem _root_.Go.World.grownBy.trans'' {A B C : World} {k : Nat} (h : A.grownBy B (some k)) (hb : B.grownBy C (some k)) : A.grownBy C (some k) := grown_trans h hb
theorem fol_drop (n : Nat) (s : List E2 × Int) (evs : List Ev) (i : Nat) (e : Ev) (he : evs[i]? = some e) : folF n s (evs.drop i) = if fitS n e ≠ 0 then ([], 0, fitS n e) else folF n (evF n s e) (evs.drop (i + 1)) := by
  obtain ⟨hi, rfl⟩ := List.getElem?_eq_some_iff.1 he
  rw [List.drop_eq_getElem_cons hi]
  rfl
theorem stp_drop (n : Nat) (ins : Bool) (s : List E2 × Int) (ts : List E2) (j : Nat) (x : E2) (hx : ts[j]? = some x) : (ts.drop j).foldl (stpF n ins) s = (ts.drop (j + 1)).foldl (stpF n ins) (stpF n ins s x) := by
  obtain ⟨hi, rfl⟩ := List.getElem?_eq_some_iff.1 hx
  rw [List.drop_eq_getElem_cons hi]
  rfl
theorem stp_one (n : Nat) (ins : Bool) (es : List E2) (c : Int) (x : E2) : stpF n ins (es, c) x = (stpE ins es x, c + ((chgL n (corT es n) (corT (stpE ins es x) n)).length : Int)) := rfl
theorem okt_drop {n : Nat} {ins : Bool} {es ts : List E2} {j : Nat} {x : E2} (hx : ts[j]? = some x) (h : OkT n ins es (ts.drop j)) : OkT n ins es (x :: ts.drop (j + 1)) := by
  obtain ⟨hi, rfl⟩ := List.getElem?_eq_some_iff.1 hx
  rwa [List.drop_eq_getElem_cons hi] at h
set_option maxRecDepth 100000 in
set_option maxHeartbeats 6400000 in
theorem rpfollow_any (n : Int) (a a2 av : Option Addr) (cap c2 cv : Nat) (es : List E2) (l : List Int) (evs : List Ev) (w : World) (he : EdgesAt w (.slice a es.length cap) es) (hi : IntsAt w (.slice a2 l.length c2) l) (hr : RowAt encEv w (.slice av evs.length cv) evs) (hlen : evs.length ≤ 1000) (hT : TzAt w) :
    Calls Tryd.prog 54 #[.agg #[.int .i64 n, .slice a es.length cap, .slice a2 l.length c2], .slice av evs.length cv] w (FPost w (folX ⟨n, es, l⟩ evs)) := by
  have h0 := Bx4.start w (.int .i64 n) (.slice a es.length cap) (.slice a2 l.length c2) (.int .i64 0) (.slice none 0 0) (.slice none 0 0)
  obtain ⟨wA, hwA⟩ : ∃ W : World, W = (w.alloc (.cells #[.int .i64 n, .slice a es.length cap, .slice a2 l.length c2] 62)).alloc (.cells #[.int .i64 0, .slice none 0 0, .slice none 0 0] 62) := ⟨_, rfl⟩
  rw [← hwA] at h0
  have HWA := Lib.hid hwA
  clear hwA
  have hva := fun W h1 h2 h3 => rpvalid_any n a a2 cap c2 es l W h1 h2 h3
  unfold folX FPost
  dsimp only
  obtain ⟨k0, k1, k2⟩ := cells3 h0.c
  cases hok : crOk ⟨n, es, l⟩ with
  | false =>
    rw [hok] at hva
    rw [if_pos rfl]
    clear hok
    go_enter Tryd.func54, Tryd.ntmps54
    go_wp2_with (rw [← HWA.out])
    refine (hva wA (he.below h0.be) (hi.below h0.be) (hT.below h0.be)).mono ?_
    rintro e w1 ⟨rfl, hb1⟩
    have h1 := h0.next hb1
    obtain ⟨r0, r1, r2⟩ := cells3 h1.o
    obtain ⟨f0, f1, f2⟩ := frees3 h1.o
    have hF := h1.fin (.int .i64 0) (.slice none 0 0) (.slice none 0 0)
    have hbF := hF.be
    obtain ⟨t0, t1, t2⟩ := cells3 hF.o
    unfold set3 at t0 t1 t2 hbF
    clear hF h1 h0 hb1
    go_wp2_with fail
    exact bodyPost_ret (v := .tuple #[.agg #[.int .i64 0, .slice none 0 0, .slice none 0 0], .int .i64 0, .int .i64 12]) (by simp [results, Tryd.results54, go_sem, t0, t1, t2]) rfl ⟨none, 0, none, 0, rfl, CIn.void _ _, hbF⟩
  | true =>
  rw [hok] at hva
  rw [if_neg (by simp)]
  obtain ⟨m, hv, hc⟩ := (crOk_iff _).1 hok
  dsimp only at hv hc
  obtain ⟨rfl, -, rfl⟩ := Cr.mk.inj hc
  clear hok hc
  rw [Int.toNat_natCast]
  have hn : m ≤ 64 := by have := hv.2.1; omega
  have hel := hv.length_le
  obtain ⟨K, hK⟩ : ∃ K, folF m (es, 0) evs = K := ⟨_, rfl⟩
  rw [hK]
  have HK := Lib.hid hK
  clear hK
  obtain ⟨RES, hRES⟩ : ∃ R, (if K.2.2 ≠ 0 then (Cr.zero, (0 : Int), K.2.2) else (crN m K.1, K.2.1, 0)) = R := ⟨_, rfl⟩
  rw [hRES]
  have HRES := Lib.hid hRES
  clear hRES
  go_enter Tryd.func54, Tryd.ntmps54
  go_wp2_with (rw [← HWA.out])
  refine (hva wA (he.below h0.be) (hi.below h0.be) (hT.below h0.be)).mono ?_
  rintro e w1 ⟨rfl, hb1⟩
  have h1 := h0.next hb1
  clear h0 hb1 k0 k1 k2
  obtain ⟨k0, k1, k2⟩ := cells3 h1.c
  obtain ⟨f0, f1, f2⟩ := frees3 h1.c
  go_upto_region 3 with fail
  go_cut [] from 22 to 33 (fun wx => ∃ a4 c4 a5 c5, FolW w m es a4 c4 a5 c5 wx)
  case first =>
    have hz1 := h1.base
    have he1 := he.below h1.be
    have hi1 := hi.below h1.be
    have hcl : (corT es m).length ≤ 100 := by rw [corT_length]; omega
    have hcE : ∀ W, Below w1.heap.size w1 W → RowAt encE W (.slice a es.length cap) es := fun W hb => (he1.below hb).row (by omega)
    have hcI : ∀ W, Below w1.heap.size w1 W → IntsAt W (.slice a2 (corT es m).length c2) (corT es m) := fun W hb => hi1.below hb
    have hb1d : Below w1.heap.size w1 w1.drew := (Below.refl _ _).drew
    go_region_law (first
      | (go_simp; go_at_call 86; (with_reducible refine (geclone_any _ es _ (hcE _ hbI) (by omega)).mono ?_); rintro e wE ⟨xE, rfl, hownE, hbE⟩; obtain ⟨aE, kE, rfl, heE, haE⟩ := EdgesAt.of_owns hownE (by omega); have hbF := hbI.trans (hbE.mono hbI.size); have hF := h1.next hbF; obtain ⟨x0, x1, x2⟩ := cells3 hF.c; obtain ⟨y0, y1, y2⟩ := frees3 hF.c)
      | (go_simp; go_at_call 86; (with_reducible refine (geclone_any _ es _ (hcE _ hb1d) (by omega)).mono ?_); rintro e wE ⟨xE, rfl, hownE, hbE⟩; obtain ⟨aE, kE, rfl, heE, haE⟩ := EdgesAt.of_owns hownE (by omega); have hbE1 := hb1d.trans (hbE.mono hb1d.size); obtain ⟨j0, j1, j2⟩ := cells3 (h1.next hbE1).c)
      | (go_simp; go_at_call 93; (with_reducible refine (iclone_any _ _ (corT es m) _ (hcI _ hbE1) (by omega)).mono ?_); rintro e wI ⟨xI, rfl, hownI, hbI⟩; obtain ⟨aI, kI, rfl, hiI, haI⟩ := IntsAt.of_owns hownI (by omega); have hbF := hbE1.trans (hbI.mono hbE1.size); have hF := h1.next hbF; obtain ⟨x0, x1, x2⟩ := cells3 hF.c; obtain ⟨y0, y1, y2⟩ := frees3 hF.c)
      | (go_simp; go_at_call 93; (with_reducible refine (iclone_any _ _ (corT es m) _ (hcI _ hb1d) (by omega)).mono ?_); rintro e wI ⟨xI, rfl, hownI, hbI1⟩; obtain ⟨aI, kI, rfl, hiI, haI⟩ := IntsAt.of_owns hownI (by omega); have hbI := hb1d.trans (hbI1.mono hb1d.size); obtain ⟨j0, j1, j2⟩ := cells3 (h1.next hbI).c))
    all_goals
      have hd1 : w1.drew.heap.size = w1.heap.size := rfl
      first
        | (have hz := hbI.size
           have hFo := FolW.set (fs := es) hF ⟨heE, hiI.below hbE, (fun p h => by have := haE p h; omega), (fun p h => by have := haI p h; omega)⟩)
        | (have hz := hbE1.size
           have hFo := FolW.set (fs := es) hF ⟨heE.below hbI, hiI, (fun p h => by have := haE p h; omega), (fun p h => by have := haI p h; omega)⟩)
      go_wp2_with fail
      go_meet
      exact ⟨aE, kE, aI, kI, hFo⟩
  case rest =>
  obtain ⟨aE, cE, aI, cI, hW⟩ := hcut
  clear h1 k0 k1 k2 f0 f1 f2
  go_wp2_with fail
  go_loopw [7, 36] (fun vn vi wr => ∃ (i : Nat) (c : Int) (ys : List E2) (a4 a5 : Option Addr) (c4 c5 : Nat), i ≤ evs.length ∧ vi = .int .i64 i ∧ vn = .int .i64 c ∧ 0 ≤ c ∧ c ≤ 262144 * (i : Int) ∧ Valid m ys ∧ Hid (folF m (ys, c) (evs.drop i) = K) ∧ FolW w m ys a4 c4 a5 c5 wr) (fun _ vi _ => evs.length - (intOf vi).toNat)
  case atStart => exact ⟨0, 0, es, aE, aI, cE, cI, Nat.zero_le _, rfl, rfl, Int.le_refl _, by simp, hv, HK.out, hW⟩
  case round =>
    clear hv hW he hi hva hel
    obtain ⟨i, c, ys, a4, a5, c4, c5, hil, rfl, rfl, hc0, hc1, hvy, HR, hW⟩ := hrel
    by_cases hlt : i < evs.length
    · have hi3 : (i : Int) < evs.length := by omega
      obtain ⟨bb, off, x, rfl, hx, hcap, e0, e1, e2, e3, e4, e5, e6⟩ := ev_at (hr.below hW.b.be) i hlt
      have hR := HR.out
      rw [fol_drop m _ evs i x hx] at hR
      have hfi := fun W => lfits_any (m : Int) x W
      have hfp := fun h => fit_parts hn (e := x) h
      have hok := fun h => tou_ok (e := x) hvy h
      have htl := tou_len hvy x
      obtain ⟨k, t, u, v, wt, lb, sg⟩ := x
      unfold Ev.cells at hfi
      dsimp only at hfi hfp e0 e1 e2 e3 e4 e5 e6
      obtain ⟨F, hF⟩ : ∃ F, fitS m ⟨k, t, u, v, wt, lb, sg⟩ = F := ⟨_, rfl⟩
      rw [hF] at hfi hR hfp hok
      obtain ⟨hXX, hbX⟩ := box_new wr #[.int .i64 k, .int .i64 t, .int .i64 u, .int .i64 v, .int .i64 wt, .int .i64 lb, .int .i64 sg] 78
      obtain ⟨wX, hwX⟩ : ∃ W : World, W = wr.alloc (.cells #[.int .i64 k, .int .i64 t, .int .i64 u, .int .i64 v, .int .i64 wt, .int .i64 lb, .int .i64 sg] 78) := ⟨_, rfl⟩
      rw [← hwX] at hXX hbX
      have HWX := Lib.hid hwX
      have hWX := hW.next hbX
      have hzr := hW.b.base
      obtain ⟨X, hX⟩ : ∃ X, wr.heap.size = X := ⟨_, rfl⟩
      have HX := Lib.hid hX
      rw [hX] at hXX hzr
      have x0 := cell_blk (j := 0) hXX
      have x1 := cell_blk (j := 1) hXX
      have x2 := cell_blk (j := 2) hXX
      have x3 := cell_blk (j := 3) hXX
      have x4 := cell_blk (j := 4) hXX
      have x5 := cell_blk (j := 5) hXX
      have x6 := cell_blk (j := 6) hXX
      obtain ⟨g0, g1, g2⟩ := cells3 hWX.b.c
      clear hwX hX hx hF hW hbX
      by_cases hz : F = 0
      case neg =>
        rw [if_pos hz] at hR
        subst hR
        have d1 : (F != 0) = true := by simpa using hz
        have hres : RES = (Cr.zero, 0, F) := by rw [← HRES.out]; exact if_pos hz
        subst hres
        clear hz hfp hok hvy
        go_upto_region 8 with fail
        rw [← HWX.out, HX.out]
        go_wp2_with fail
        refine (hfi wX).mono ?_
        rintro e w2 ⟨rfl, hb2⟩
        have h2 := (hWX.next hb2).b
        obtain ⟨r0, r1, r2⟩ := cells3 h2.o
        obtain ⟨f0, f1, f2⟩ := frees3 h2.o
        have hF := h2.fin (.int .i64 0) (.slice none 0 0) (.slice none 0 0)
        have hbF := hF.be
        obtain ⟨t0, t1, t2⟩ := cells3 hF.o
        unfold set3 at t0 t1 t2 hbF
        clear hF h2 hb2 hWX x0 x1 x2 x3 x4 x5 x6 g0 g1 g2
        go_wp2_with fail
        exact bodyPost_ret (v := .tuple #[.agg #[.int .i64 0, .slice none 0 0, .slice none 0 0], .int .i64 0, .int .i64 F]) (by simp [results, Tryd.results54, go_sem, t0, t1, t2]) rfl ⟨none, 0, none, 0, rfl, CIn.void _ _, hbF⟩
      subst hz
      rw [if_neg (by simp)] at hR
      obtain ⟨u, v, rfl, rfl, hum, hvm, hkk, -⟩ := hfp rfl
      have hoo := hok rfl
      clear hok
      have htw := fun W h => rptouched_any m u v k t wt lb sg a4 c4 ys W h hvy hkk
      unfold EdNw at htw
      obtain ⟨E, hE⟩ : ∃ E, evF m (ys, c) ⟨k, t, (u : Int), (v : Int), wt, lb, sg⟩ = E := ⟨_, rfl⟩
      rw [hE] at hR
      unfold evF at hE
      dsimp only at hE
      unfold insK at hE hoo
      dsimp only at hE hoo
      obtain ⟨ts, hts⟩ : ∃ ts, touE ys ⟨k, t, (u : Int), (v : Int), wt, lb, sg⟩ = ts := ⟨_, rfl⟩
      rw [hts] at hE hoo htl htw
      have HE := Lib.hid hE
      have HRR := Lib.hid hR
      clear hE hR hts hfp
      go_upto_region 8 with fail
      rw [← HWX.out, HX.out]
      go_wp2_with fail
      refine (hfi wX).mono ?_
      rintro e w2 ⟨rfl, hb2⟩
      have hW2 := hWX.next hb2
      have hX2 := lit_next' hb2 hXX
      clear x0 x1 x2 x3 x4 x5 x6 g0 g1 g2 hXX hWX hb2
      have x0 := cell_blk (j := 0) hX2
      have x1 := cell_blk (j := 1) hX2
      have x2 := cell_blk (j := 2) hX2
      have x3 := cell_blk (j := 3) hX2
      have x4 := cell_blk (j := 4) hX2
      have x5 := cell_blk (j := 5) hX2
      have x6 := cell_blk (j := 6) hX2
      obtain ⟨g0, g1, g2⟩ := cells3 hW2.b.c
      go_wp2_with fail
      refine (htw w2 hW2.c.e).mono ?_
      rintro e w3 ⟨at_, ct, rfl, hts, hat, hb3⟩
      have hW3 := hW2.next hb3
      have hX3 := lit_next' hb3 hX2
      have hz2 := hW2.b.base
      clear x0 x1 x2 x3 x4 x5 x6 g0 g1 g2 hX2 hW2 hb3 hfi htw
      go_wp2_with fail
      go_loopw [7, 54] (fun vn vj wq => ∃ (j : Nat) (c' : Int) (zs : List E2) (a6 a7 : Option Addr) (c6 c7 : Nat), j ≤ ts.length ∧ vj = .int .i64 j ∧ vn = .int .i64 c' ∧ 0 ≤ c' ∧ c' ≤ c + 64 * (j : Int) ∧ OkT m (decide (k = 1)) zs (ts.drop j) ∧ Hid ((ts.drop j).foldl (stpF m (decide (k = 1))) (zs, c') = E) ∧ FolW w m zs a6 c6 a7 c7 wq ∧ w3.grownBy wq (some w.heap.size)) (fun _ vj _ => ts.length - (intOf vj).toNat)
      case atStart => exact ⟨0, c, ys, a4, a5, c4, c5, Nat.zero_le _, rfl, rfl, hc0, by simp, hoo, HE.out, hW3, grown_refl _ _⟩
      case round =>
        clear hoo hW3 hvy
        obtain ⟨j, c', zs, a6, a7, c6, c7, hjl, rfl, rfl, hc0', hc1', hoz, HZ, hQ, hgq⟩ := hrel
        by_cases hjt : j < ts.length
        · have hj3 : (j : Int) < ts.length := by omega
          obtain ⟨b9, o9, xx, y, rfl, hx, -, -, q0, q1⟩ := (hts.grown hgq (fun g e n c p ep => by cases e; have := hat p (Value.slice.inj ep).1; omega)).at j hjt
          have hvz := hoz.v
          have hoz' := okt_drop hx hoz
          have HZ' := HZ.out
          rw [stp_drop m _ _ ts j _ hx] at HZ'
          rw [stp_one] at HZ'
          have hXq := grown_blk hgq hX3 (fun e => by have := Option.some.inj e; omega)
          obtain ⟨hPP, hbP⟩ := box_new wr #[.int .i64 xx, .int .i64 y] 39
          obtain ⟨wP, hwP⟩ : ∃ W : World, W = wr.alloc (.cells #[.int .i64 xx, .int .i64 y] 39) := ⟨_, rfl⟩
          rw [← hwP] at hPP hbP
          have hP := hQ.next hbP
          have hXP := lit_next' hbP hXq
          have hgP := hgq.trans' hbP
          have HWP := Lib.hid hwP
          clear hwP hQ hgq hXq hbP hx hoz HZ
          have x0 := cell_blk (j := 0) hXP
          obtain ⟨y0, y1⟩ := cells2 hPP
          obtain ⟨g0, g1, g2⟩ := cells3 hP.b.c
          by_cases hk1 : k = 1
          · have dk : (k == 1) = true := by simpa using hk1
            have hkd : decide (k = 1) = true := by simpa using hk1
            rw [hkd] at hoz' HZ'
            obtain ⟨hxi, hxn, hxy, hon⟩ := hoz'.step
            obtain ⟨p, hp⟩ := Int.eq_ofNat_of_zero_le hxi.1
            obtain ⟨q, hq⟩ := Int.eq_ofNat_of_zero_le (show 0 ≤ y by have := hxi.1; have := hxi.2.1; dsimp only at *; omega)
            dsimp only at hp hq
            subst hp hq
            have hpn : p < m := by have := hxi.2.1; have := hxi.2.2; dsimp only at *; omega
            have hqn : q < m := by have := hxi.2.2; dsimp only at *; omega
            have hpq : p ≠ q := by have := hxi.2.1; dsimp only at *; omega
            have hpp : (min (p : Int) q, max (p : Int) q) = ((p : Int), (q : Int)) := by have := hxi.2.1; dsimp only at *; rw [show min (p : Int) q = p by omega, show max (p : Int) q = q by omega]
            have hga := fun W h => gadd_any (m : Int) a6 c6 zs (p : Int) (q : Int) W h
            have hch := crE_chg hvz hpn hqn hpq
            unfold GrPost addX at hga
            rw [hch, if_neg (by simp)] at hga
            rw [show (if (min (p : Int) q, max (p : Int) q) ∈ zs then _ else _) = _ from if_neg (by rw [hpp]; exact hxn rfl)] at hga
            dsimp only at hga
            have hins := fun ag cg W h1 h2 h3 h4 => rinsert_any m p q a6 a7 ag c6 c7 cg zs W h1 h2 h3 hvz hpn hqn hpq h4
            rw [hpp] at hga hins
            unfold stpE at HZ' hon
            rw [if_pos rfl] at HZ' hon
            obtain ⟨fs, hfs⟩ : ∃ fs, insE zs ((p : Int), (q : Int)) = fs := ⟨_, rfl⟩
            rw [hfs] at hga hins HZ' hon
            have hcl := chgL_len m (corT zs m) (corT fs m)
            obtain ⟨ch, hchg⟩ : ∃ ch, chgL m (corT zs m) (corT fs m) = ch := ⟨_, rfl⟩
            rw [hchg] at hins HZ' hcl
            have HZZ := Lib.hid HZ'
            have HON := Lib.hid hon
            have v1 : IntKind.i64.wrap (c' + (ch.length : Int)) = c' + (ch.length : Int) := IntWalk.i64_in _ (by omega)
            have V1 := Lib.hid v1
            have HKD := Lib.hid hkd
            clear hfs hchg hch hxi hxn hxy hon hoz' HZ' hkd hpp hpq hpn hqn hvz v1 hk1
            go_upto_region 14 with fail
            rw [← HWP.out]
            go_wp2_with fail
            refine (hga wP hP.c.e).mono ?_
            rintro e w5 ⟨ag, cg, rfl, hga5, hag, hb5⟩
            have h5 := hP.b.next hb5
            have hI5 := hP.c.i.below hb5
            have hEd5 := hP.c.e.below hb5
            have hX5 := lit_next' hb5 hXP
            have hP5 := lit_next' hb5 hPP
            obtain ⟨hbx, hbb⟩ := box_new w5 #[.int .i64 m, .slice ag fs.length cg] 25
            have hszP := hP.b.base
            have hg5 := hgP.trans' hb5
            obtain ⟨w6, hw6⟩ : ∃ W : World, W = w5.alloc (.cells #[.int .i64 m, .slice ag fs.length cg] 25) := ⟨_, rfl⟩
            rw [← hw6] at hbx hbb
            have HW6 := Lib.hid hw6
            have h6 := h5.next hbb
            have hI6 := hI5.below hbb
            have hEd6 := hEd5.below hbb
            have hga6 := hga5.below hbb
            have hX6 := lit_next' hbb hX5
            have hP6 := lit_next' hbb hP5
            have hg6 := hg5.trans' hbb
            clear hw6 hb5 hbb hX5 hP5 hI5 hEd5 h5 hg5 hga5 x0 y0 y1 g0 g1 g2
            obtain ⟨g0, g1, g2⟩ := cells3 h6.c
            obtain ⟨y0, y1⟩ := cells2 hP6
            obtain ⟨z0, z1⟩ := cells2 hbx
            go_upto_region 17 with fail
            rw [← HW6.out]
            go_wp2_with fail
            refine (hins ag cg w6 hEd6 hI6 hga6 (hT.below h6.be)).mono ?_
            rintro e w7 ⟨a3, c3, a8, c8, rfl, hi7, hi8, ha3, ha8, hb7⟩
            have h7 := h6.next hb7
            have hz6 := h6.base
            obtain ⟨f0, f1, f2⟩ := frees3 h7.c
            obtain ⟨l0, l1, l2⟩ := cells3 h7.c
            have hF := FolW.set h7 ⟨hga6.below hb7, hi7, (fun p h => by have := hag p h; omega), (fun p h => by have := ha3 p h; omega)⟩
            have hgF := (hg6.trans' hb7).trans'' (set3_grown w7 w.heap.size (.int .i64 m) (.slice ag fs.length cg) (.slice a3 (corT fs m).length c3))
            unfold set3 at hF hgF
            have HFF := Lib.hid (And.intro hF hgF)
            clear hF hgF hb7 h6 h7 hg6 hi7 hi8 hga6 hI6 hEd6 hX6 hP6 hP hXP hPP g0 g1 g2 y0 y1 z0 z1 hbx
            have v1 := V1.out
            go_wp2_with fail
            go_roundw
            case rel => exact ⟨j + 1, c' + (ch.length : Int), fs, ag, a3, cg, c3, by omega, by go_num, rfl, by omega, by push_cast; omega, (by rw [HKD.out]; exact HON.out), (show _ = _ by rw [HKD.out]; exact HZZ.out), HFF.out.1, HFF.out.2⟩
            case measure => simp [intOf]; omega
          · have dk : (k == 1) = false := by simpa using hk1
            have hkd : decide (k = 1) = false := by simpa using hk1
            rw [hkd] at hoz' HZ'
            obtain ⟨hxi, hxn, hxy, hon⟩ := hoz'.step
            obtain ⟨p, hp⟩ := Int.eq_ofNat_of_zero_le hxi.1
            obtain ⟨q, hq⟩ := Int.eq_ofNat_of_zero_le (show 0 ≤ y by have := hxi.1; have := hxi.2.1; dsimp only at *; omega)
            dsimp only at hp hq
            subst hp hq
            have hpn : p < m := by have := hxi.2.1; have := hxi.2.2; dsimp only at *; omega
            have hqn : q < m := by have := hxi.2.2; dsimp only at *; omega
            have hpq : p ≠ q := by have := hxi.2.1; dsimp only at *; omega
            have hpp : (min (p : Int) q, max (p : Int) q) = ((p : Int), (q : Int)) := by have := hxi.2.1; dsimp only at *; rw [show min (p : Int) q = p by omega, show max (p : Int) q = q by omega]
            have hga := fun W h => gremove_any (m : Int) a6 c6 zs (p : Int) (q : Int) W h
            have hch := crE_chg hvz hpn hqn hpq
            unfold GrPost remX at hga
            rw [hch, if_neg (by simp)] at hga
            rw [show (if (min (p : Int) q, max (p : Int) q) ∈ zs then _ else _) = _ from if_pos (by rw [hpp]; exact hxy rfl)] at hga
            dsimp only at hga
            have hins := fun ag cg W h1 h2 h3 h4 => rdelete_any m p q a6 a7 ag c6 c7 cg zs W h1 h2 h3 hvz hpn hqn hpq (by rw [hpp]; exact hxy rfl) h4
            rw [hpp] at hga hins
            unfold stpE at HZ' hon
            rw [if_neg (by simp)] at HZ' hon
            obtain ⟨fs, hfs⟩ : ∃ fs, delE zs ((p : Int), (q : Int)) = fs := ⟨_, rfl⟩
            rw [hfs] at hga hins HZ' hon
            have hcl := chgL_len m (corT zs m) (corT fs m)
            obtain ⟨ch, hchg⟩ : ∃ ch, chgL m (corT zs m) (corT fs m) = ch := ⟨_, rfl⟩
            rw [hchg] at hins HZ' hcl
            have HZZ := Lib.hid HZ'
            have HON := Lib.hid hon
            have v1 : IntKind.i64.wrap (c' + (ch.length : Int)) = c' + (ch.length : Int) := IntWalk.i64_in _ (by omega)
            have V1 := Lib.hid v1
            have HKD := Lib.hid hkd
            clear hfs hchg hch hxi hxn hxy hon hoz' HZ' hkd hpp hpq hpn hqn hvz v1 hk1
            go_upto_region 14 with fail
            rw [← HWP.out]
            go_wp2_with fail
            refine (hga wP hP.c.e).mono ?_
            rintro e w5 ⟨ag, cg, rfl, hga5, hag, hb5⟩
            have h5 := hP.b.next hb5
            have hI5 := hP.c.i.below hb5
            have hEd5 := hP.c.e.below hb5
            have hX5 := lit_next' hb5 hXP
            have hP5 := lit_next' hb5 hPP
            obtain ⟨hbx, hbb⟩ := box_new w5 #[.int .i64 m, .slice ag fs.length cg] 25
            have hszP := hP.b.base
            have hg5 := hgP.trans' hb5
            obtain ⟨w6, hw6⟩ : ∃ W : World, W = w5.alloc (.cells #[.int .i64 m, .slice ag fs.length cg] 25) := ⟨_, rfl⟩
            rw [← hw6] at hbx hbb
            have HW6 := Lib.hid hw6
            have h6 := h5.next hbb
            have hI6 := hI5.below hbb
            have hEd6 := hEd5.below hbb
            have hga6 := hga5.below hbb
            have hX6 := lit_next' hbb hX5
            have hP6 := lit_next' hbb hP5
            have hg6 := hg5.trans' hbb
            clear hw6 hb5 hbb hX5 hP5 hI5 hEd5 h5 hg5 hga5 x0 y0 y1 g0 g1 g2
            obtain ⟨g0, g1, g2⟩ := cells3 h6.c
            obtain ⟨y0, y1⟩ := cells2 hP6
            obtain ⟨z0, z1⟩ := cells2 hbx
            go_upto_region 19 with fail
            rw [← HW6.out]
            go_wp2_with fail
            refine (hins ag cg w6 hEd6 hI6 hga6 (hT.below h6.be)).mono ?_
            rintro e w7 ⟨a3, c3, a8, c8, rfl, hi7, hi8, ha3, ha8, hb7⟩
            have h7 := h6.next hb7
            have hz6 := h6.base
            obtain ⟨f0, f1, f2⟩ := frees3 h7.c
            obtain ⟨l0, l1, l2⟩ := cells3 h7.c
            have hF := FolW.set h7 ⟨hga6.below hb7, hi7, (fun p h => by have := hag p h; omega), (fun p h => by have := ha3 p h; omega)⟩
            have hgF := (hg6.trans' hb7).trans'' (set3_grown w7 w.heap.size (.int .i64 m) (.slice ag fs.length cg) (.slice a3 (corT fs m).length c3))
            unfold set3 at hF hgF
            have HFF := Lib.hid (And.intro hF hgF)
            clear hF hgF hb7 h6 h7 hg6 hi7 hi8 hga6 hI6 hEd6 hX6 hP6 hP hXP hPP g0 g1 g2 y0 y1 z0 z1 hbx
            have v1 := V1.out
            go_wp2_with fail
            go_roundw
            case rel => exact ⟨j + 1, c' + (ch.length : Int), fs, ag, a3, cg, c3, by omega, by go_num, rfl, by omega, by push_cast; omega, (by rw [HKD.out]; exact HON.out), (show _ = _ by rw [HKD.out]; exact HZZ.out), HFF.out.1, HFF.out.2⟩
            case measure => simp [intOf]; omega
        · obtain rfl : ts.length = j := by omega
          have hZ := HZ.out
          rw [List.drop_length] at hZ
          have hR := HRR.out
          rw [← hZ] at hR
          have HR2 := Lib.hid hR
          have hvz := hoz.v
          clear hZ hR hoz
          go_wp2_with fail
          go_roundw
          case rel => exact ⟨i + 1, c', zs, a6, a7, c6, c7, by omega, by go_num, rfl, hc0', by push_cast; omega, hvz, HR2.out, hQ⟩
          case measure => simp [intOf]; omega
    · obtain rfl : evs.length = i := by omega
      have hR := HR.out
      rw [List.drop_length] at hR
      subst hR
      have hres : RES = (crN m ys, c, 0) := by rw [← HRES.out]; exact if_neg (by simp [folF])
      subst hres
      obtain ⟨g0, g1, g2⟩ := cells3 hW.b.c
      obtain ⟨f0, f1, f2⟩ := frees3 hW.b.o
      obtain ⟨r0, r1, r2⟩ := cells3 hW.b.o
      have hF := hW.b.fin (.int .i64 m) (.slice a4 ys.length c4) (.slice a5 (corT ys m).length c5)
      have hCF := (hW.c.grown (set3_grown wr (w.heap.size + 1) (.int .i64 m) (.slice a4 ys.length c4) (.slice a5 (corT ys m).length c5)) (fun k e => by cases e; omega)).mono (show w.heap.size ≤ w.heap.size + 2 by omega)
      have hbF := hF.be
      obtain ⟨t0, t1, t2⟩ := cells3 hF.o
      unfold set3 at t0 t1 t2 hbF hCF
      have HFF := Lib.hid (And.intro hCF hbF)
      clear hF hCF hbF hW
      go_wp2_with fail
      exact bodyPost_ret (v := .tuple #[.agg #[.int .i64 m, .slice a4 ys.length c4, .slice a5 (corT ys m).length c5], .int .i64 c, .int .i64 0]) (by simp [results, Tryd.results54, go_sem, t0, t1, t2]) rfl ⟨a4, c4, a5, c5, rfl, HFF.out.1, HFF.out.2⟩
end Go.Proofs.YtkknknehchnccaaDoor
