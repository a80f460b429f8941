/- The contract of the reference's insertion of an edge into a list of edges. The contract of the reference's addition of an edge that is not there. The contract of the reference's graph of a list of edges whose ends are right. -/
import Derived.Test.YtdkmdcdoiaelfaaEdgeDel
import Derived.Test.YtdkmdcdoiaelfaaRef03
import Derived.Test.YtdkmdcdoiaelfaaMk
namespace Go.Proofs.Ytdkmdcdoiaelfaa
open Go.RowKit Go.BigFrame

def WithPost (a0 : Option Addr) (w : World) (ys : List E2) (e : Ending) (w' : World) : Prop := ∃ a cap, e = .returned (.slice a ys.length cap) ∧ EdgesAt w' (.slice a ys.length cap) ys ∧ Below w.heap.size w w' ∧ ∀ p, a = some p → w.heap.size ≤ p.block ∨ a0 = some p
theorem with_post {a0 : Option Addr} {w w' : World} {T : Nat} {v : Value} {xs : List E2} (hb : Below w.heap.size w w') (hown : w'.ownsRow w.heap.size T 2 v xs.length (flatE xs)) (hl : xs.length ≤ 70368744177664) : WithPost a0 w xs (.returned v) w' := by
  obtain ⟨a, cap, rfl, h, ha⟩ := EdgesAt.of_owns hown hl
  exact ⟨a, cap, rfl, h, hb, fun p hp => .inl (ha p hp)⟩
/-- a part of a slice of edges -/
theorem EdgesAt.sliced {w : World} {a : Option Addr} {cap : Nat} {xs : List E2} (h : EdgesAt w (.slice a xs.length cap) xs) (l hh : Nat) (h1 : l ≤ hh) (h2 : hh ≤ xs.length) :
    EdgesAt w (.slice (if cap = l then a else a.map (·.add (l * 2))) (hh - l) (cap - l)) ((xs.take hh).drop l) := by
  obtain ⟨a', cap', hv, g1, g2, g3, g4⟩ := h
  obtain ⟨rfl, _, rfl⟩ : a = a' ∧ True ∧ cap = cap' := by simpa using hv
  have hl : ((xs.take hh).drop l).length = hh - l := by simp; omega
  refine ⟨_, cap - l, by rw [hl], by omega, ?_, by omega, fun i x hi => ?_⟩
  · intro e
    split at e
    · omega
    · have := g2 (by simpa using e); omega
  · have hi' := (List.getElem?_eq_some_iff.1 hi).1
    rw [hl] at hi'
    have hx : xs[l + i]? = some x := by
      rw [List.getElem?_drop, List.getElem?_take] at hi
      split at hi
      · exact hi
      · cases hi
    obtain ⟨b, off, rfl, hc, hd⟩ := g4 _ _ hx
    rw [if_neg (by omega)]
    refine ⟨b, off + l * 2, by simp [Addr.add_lit], ?_, ?_⟩
    · rw [show off + l * 2 + i * 2 = off + (l + i) * 2 by omega]; exact hc
    · rw [show off + l * 2 + i * 2 + 1 = off + (l + i) * 2 + 1 by omega]; exact hd
theorem EdgesAt.take {w : World} {a : Option Addr} {cap : Nat} {xs : List E2} (h : EdgesAt w (.slice a xs.length cap) xs) (k : Nat) (hk : k ≤ xs.length) : EdgesAt w (.slice a k cap) (xs.take k) := by
  have := h.sliced 0 k (by omega) hk
  simp only [Nat.sub_zero, Nat.zero_mul, List.drop_zero] at this
  have e : a.map (fun x : Addr => x.add 0) = a := by
    cases a with
    | none => rfl
    | some p => simp only [Option.map_some]; obtain ⟨b, o, s⟩ := p; cases s <;> rfl
  rw [e, ite_self] at this
  exact this
theorem EdgesAt.drop {w : World} {b off : Nat} {cap : Nat} {xs : List E2} (h : EdgesAt w (.slice (some ⟨b, off, none⟩) xs.length cap) xs) (k : Nat) (hk : k < xs.length) : EdgesAt w (.slice (some ⟨b, off + k * 2, none⟩) (xs.length - k) (cap - k)) (xs.drop k) := by
  have := h.sliced k xs.length (by omega) (Nat.le_refl _)
  obtain ⟨_, _, hv, hc, _⟩ := h
  have e : cap ≠ k := by simp at hv; omega
  simpa [e, Addr.add_lit] using this
theorem EdgesAt.empty {w : World} (a : Option Addr) (c : Nat) (h : a = none → c = 0) : EdgesAt w (.slice a 0 c) [] := ⟨a, c, rfl, by simp, h, by simp, fun i x hi => by simp at hi⟩

theorem EdgesAt.caps {w : World} {a : Option Addr} {n cap : Nat} {es : List E2} (h : EdgesAt w (.slice a n cap) es) : n ≤ cap ∧ (a = none → cap = 0) := by
  obtain ⟨a', cap', hv, h1, h2, _⟩ := h
  obtain ⟨rfl, rfl, rfl⟩ : a = a' ∧ n = es.length ∧ cap = cap' := by simpa using hv
  exact ⟨h1, h2⟩

theorem before_yes (u v x y : Int) (w : World) (h : beforeB (u, v) (x, y) = true) :
    Calls Try.prog 95 #[.agg #[.int .i64 u, .int .i64 v], .agg #[.int .i64 x, .int .i64 y]] w fun e w' => e = .returned (.bool true) ∧ Below w.heap.size w w' := by
  have := before_any u v x y w; rw [h] at this; exact this
theorem before_no (u v x y : Int) (w : World) (h : beforeB (u, v) (x, y) = false) :
    Calls Try.prog 95 #[.agg #[.int .i64 u, .int .i64 v], .agg #[.int .i64 x, .int .i64 y]] w fun e w' => e = .returned (.bool false) ∧ Below w.heap.size w w' := by
  have := before_any u v x y w; rw [h] at this; exact this

set_option maxRecDepth 100000 in
set_option maxHeartbeats 1600000 in
theorem with_any (a : Option Addr) (cap : Nat) (es : List E2) (u v : Int) (w : World) (he : EdgesAt w (.slice a es.length cap) es) (hn : es.length ≤ 1073741824) :
    Calls Try.prog 149 #[.slice a es.length cap, .agg #[.int .i64 u, .int .i64 v]] w (WithPost a w (insE es (u, v))) := by
  obtain ⟨hcap, hnone⟩ := he.caps
  have HE := Lib.hid he
  clear he
  go_enter Try.func149, Try.ntmps149
  go_wp2_with fail
  go_loopw [5] (fun i wr => ∃ k : Nat, k ≤ es.length ∧ i = .int .i64 k ∧ Below (w.heap.size + 1) (w.alloc (.cells #[.int .i64 u, .int .i64 v] 73)) wr ∧ Hid (insE es (u, v) = es.take k ++ insE (es.drop k) (u, v))) (fun i _ => es.length - (intOf i).toNat)
  case atStart => exact ⟨0, Nat.zero_le _, rfl, Below.refl _ _, rfl⟩
  case round =>
    obtain ⟨k, hk, rfl, hb, HP⟩ := hrel
    have hbw : Below w.heap.size w wr := ((Below.refl _ _).alloc (Nat.le_refl _) _).trans (hb.mono (Nat.le_succ _))
    have q0 : wr.cell? ⟨w.heap.size, 0, none⟩ = some (.int .i64 u) := cell_new hb 0 _ rfl
    have q1 : wr.cell? ⟨w.heap.size, 1, none⟩ = some (.int .i64 v) := cell_new hb 1 _ rfl
    have hz : w.heap.size < wr.heap.size := by have := hb.size; simp at this; omega
    have e0 : ∀ z : Ext wr.heap.size wr, z.world.cell? ⟨w.heap.size, 0, none⟩ = some (.int .i64 u) := fun z => (z.below.cell (p := ⟨w.heap.size, 0, none⟩) hz).trans q0
    have e1 : ∀ z : Ext wr.heap.size wr, z.world.cell? ⟨w.heap.size, 1, none⟩ = some (.int .i64 v) := fun z => (z.below.cell (p := ⟨w.heap.size, 1, none⟩) hz).trans q1
    have he1 := HE.out.below hbw
    by_cases hlt : k < es.length
    · obtain ⟨b, off, x, y, rfl, hy, hd, ht, c0, c1⟩ := he1.at k hlt
      have HD := Lib.hid hd
      have HT := Lib.hid ht
      clear hd ht hy
      have d1 : decide ((k : Int) < (es.length : Int)) = true := by simpa using hlt
      have d2 : decide (k < es.length) = true := by simpa using hlt
      have e2 : ∀ z : Ext wr.heap.size wr, z.world.cell? ⟨b, off + k * 2, none⟩ = some (.int .i64 x) := fun z => (z.below.cell (p := ⟨b, off + k * 2, none⟩) (cell_lt c0)).trans c0
      have e3 : ∀ z : Ext wr.heap.size wr, z.world.cell? ⟨b, off + k * 2 + 1, none⟩ = some (.int .i64 y) := fun z => (z.below.cell (p := ⟨b, off + k * 2 + 1, none⟩) (cell_lt c1)).trans c1
      by_cases hyx : beforeB (x, y) (u, v) = true
      · have HYX := Lib.hid hyx
        clear hyx
        go_wp2_with fail
        refine wp_region_ext wr.heap.size wr (by kernel_rfl) (by kernel_rfl) (Below.refl _ _) ?_
        repeat (go_big_quiet_step ((go_at_call 95; exact Calls.ext_of (Nat.le_refl _) (before_yes x y u v _ HYX.out))))
        refine wpQuiet_nil ?_
        rintro wq ⟨⟨wq', hq⟩, hqq⟩
        obtain rfl : wq = wq' := hqq
        clear e0 e1 e2 e3 q0 q1
        go_wp2
        go_roundw
        case rel => exact ⟨k + 1, by omega, by go_num, hb.trans (hq.mono hz), by show _ = _; rw [HP.out, HD.out, insE, if_pos HYX.out, HT.out]; simp⟩
        case measure => simp [intOf]; omega
      · have hyf : beforeB (x, y) (u, v) = false := by simpa using hyx
        have HYX := Lib.hid hyf
        have HNX := Lib.hid hyx
        clear hyx hyf
        go_wp2_with fail
        refine wp_region_ext wr.heap.size wr (by kernel_rfl) (by kernel_rfl) (Below.refl _ _) ?_
        repeat (go_big_quiet_step ((go_at_call 95; exact Calls.ext_of (Nat.le_refl _) (before_no x y u v _ HYX.out))))
        refine wpQuiet_nil ?_
        rintro wq ⟨⟨wq', hq⟩, hqq⟩
        obtain rfl : wq = wq' := hqq
        have g0 : wq.cell? ⟨w.heap.size, 0, none⟩ = some (.int .i64 u) := (hq.cell (p := ⟨w.heap.size, 0, none⟩) hz).trans q0
        have g1 : wq.cell? ⟨w.heap.size, 1, none⟩ = some (.int .i64 v) := (hq.cell (p := ⟨w.heap.size, 1, none⟩) hz).trans q1
        have g2 : wq.cell? ⟨b, off + k * 2, none⟩ = some (.int .i64 x) := e2 ⟨wq, hq⟩
        have g3 : wq.cell? ⟨b, off + k * 2 + 1, none⟩ = some (.int .i64 y) := e3 ⟨wq, hq⟩
        have hbq := hbw.trans (hq.mono hbw.size)
        have heq := HE.out.below hbq
        have hzq : w.heap.size < wq.heap.size := Nat.lt_of_lt_of_le hz hq.size
        clear e0 e1 e2 e3 q0 q1 c0 c1 he1 hb hq hz hbw
        by_cases hxy : x = u ∧ y = v
        · obtain ⟨rfl, rfl⟩ := hxy
          have HF : Hid (insE es (x, y) = es) := by show _ = _; rw [HP.out, HD.out, insE, if_neg HNX.out, if_pos rfl, ← HD.out, List.take_append_drop]
          go_wp2_with fail
          go_quiet (fail)
          go_wp2
          go_ret
          rw [HF.out]
          exact ⟨_, _, rfl, heq.below ((Below.refl _ _).drewN _), hbq.drewN _, fun p hp => .inr hp⟩
        · have HF : Hid (insE es (u, v) = es.take k ++ [(u, v)] ++ es.drop k) := by show _ = _; rw [HP.out, HD.out, insE, if_neg HNX.out, if_neg (by intro e; cases e; exact hxy ⟨rfl, rfl⟩)]; simp
          have hck : ¬ cap = k := by omega
          have hcase : ¬ x = u ∨ (x = u ∧ ¬ y = v) := by
            by_cases h1 : x = u
            · exact .inr ⟨h1, fun h2 => hxy ⟨h1, h2⟩⟩
            · exact .inl h1
          clear hxy
          rcases hcase with hxu | ⟨rfl, hyv⟩
          all_goals
            go_wp2_with fail
            go_quiet (fail)
            have hbn := hbq.drewN nq
            have hen := heq.below ((Below.refl _ _).drewN nq)
            have hzn : w.heap.size < (wq.drewN nq).heap.size := hzq
            clear g2 g3
            go_wp2_with (at_builtin; refine wpList_app_edges edgesT rfl _ _ rfl w.heap.size _ _ [] (es.take k) rfl (World.ownsRow_nil _ _ _ _) rfl (hen.take k hk) (by simp <;> omega) hbn.size ?_; intro v6 w6 hown6 hg6)
            have hbk : Below (wq.drewN nq).heap.size (wq.drewN nq) w6 := below_of_grown hg6
            have hb6 : Below w.heap.size w w6 := hbn.trans (hbk.mono hbn.size)
            have g60 := (hbk.cell (p := ⟨w.heap.size, 0, none⟩) hzn).trans g0
            have g61 := (hbk.cell (p := ⟨w.heap.size, 1, none⟩) hzn).trans g1
            clear g0 g1 hbk hg6
            go_region_law (first
              | (refine step_app_edges edgesT rfl (.tmp 38) (.tmp 40) rfl w.heap.size _ _ ([] ++ es.take k) [_] rfl (by exact (hown6.alloc _)) rfl (by exact edges_lit1 _ _ _ _) (by simp; omega) (by have := hb6.size; simp; omega) ?_; intro v7 w7 hown7 hg7; have hb7 : Below w.heap.size w w7 := (by exact below_app' (hb6.alloc hb6.size _).drew (hown6.alloc _) hg7))
              | (refine step_app_edges edgesT rfl (.tmp 41) (.tmp 44) rfl w.heap.size _ _ ([] ++ es.take k ++ [_]) (es.drop k) rfl (by assumption) rfl (by exact (HE.out.drop k hlt).below (by assumption)) (by simp; omega) (by exact Below.size (by assumption)) ?_; intro v8 w8 hown8 hg8; have hb8 : Below w.heap.size w w8 := (by exact below_app' (by assumption) (by assumption) hg8)))
            go_wp2
            go_ret
            rw [HF.out]
            exact with_post (v := v8) (by assumption) (by simpa only [List.nil_append, List.append_nil] using hown8) (by simp; omega)
    · obtain rfl : k = es.length := by omega
      have HF : Hid (insE es (u, v) = es ++ [(u, v)]) := by show _ = _; rw [HP.out]; simp [insE]
      have d1 : decide ((es.length : Int) < (es.length : Int)) = false := by simp
      have d2 : decide (es.length < es.length) = false := by simp
      have hnil : (if cap = es.length then a else Option.map (fun x => x.add (es.length * 2)) a) = none → cap - es.length = 0 := by
        intro e
        split at e
        · omega
        · have := hnone (by simpa using e); omega
      clear e0 e1
      go_wp2_with fail
      go_quiet (fail)
      obtain ⟨n1, rfl⟩ : ∃ n1, n1 = nq := ⟨_, rfl⟩
      go_wp2_with fail
      go_quiet (fail)
      go_wp2_with (at_builtin; refine wpList_app_edges edgesT rfl _ _ rfl w.heap.size _ _ [] es rfl (World.ownsRow_nil _ _ _ _) rfl he1 (by simp <;> omega) hbw.size ?_; intro v6 w6 hown6 hg6)
      have hbk := below_of_grown hg6
      have hb6 : Below w.heap.size w w6 := (hbw.drewN (n1 + nq)).trans (hbk.mono hbw.size)
      have g60 := (hbk.cell (p := ⟨w.heap.size, 0, none⟩) hz).trans q0
      have g61 := (hbk.cell (p := ⟨w.heap.size, 1, none⟩) hz).trans q1
      clear q0 q1 hbk hg6 hb hbw hz he1
      go_region_law (first
        | (refine step_app_edges edgesT rfl (.tmp 38) (.tmp 40) rfl w.heap.size _ _ ([] ++ es) [_] rfl (by exact (hown6.alloc _)) rfl (by exact edges_lit1 _ _ _ _) (by simp; omega) (by have := hb6.size; simp; omega) ?_; intro v7 w7 hown7 hg7; have hb7 : Below w.heap.size w w7 := (by exact below_app' (hb6.alloc hb6.size _).drew (hown6.alloc _) hg7))
        | (refine step_app_edges edgesT rfl (.tmp 41) (.tmp 44) rfl w.heap.size _ _ ([] ++ es ++ [_]) [] rfl (by assumption) rfl (by exact EdgesAt.empty _ _ hnil) (by simp; omega) (by exact Below.size (by assumption)) ?_; intro v8 w8 hown8 hg8; have hb8 : Below w.heap.size w w8 := (by exact below_app' (by assumption) (by assumption) hg8)))
      go_wp2
      all_goals
        go_ret
        rw [HF.out]
        exact with_post (v := v8) (by assumption) (by simpa only [List.nil_append, List.append_nil] using hown8) (by simp; omega)
end Go.Proofs.Ytdkmdcdoiaelfaa

namespace Go.Proofs.Ytdkmdcdoiaelfaa
open Go.RowKit Go.BigFrame

theorem find_no (u v : Int) : ∀ (es : List E2) (k : Nat), (min u v, max u v) ∉ es → findFrom k es (min u v, max u v) = -1 := by
  intro es
  induction es with
  | nil => intro k _; rfl
  | cons e es ih =>
    intro k h
    rw [findFrom, if_neg (fun he => h (by rw [he]; exact List.mem_cons_self)), ih _ (fun hm => h (List.mem_cons_of_mem _ hm))]
theorem ends_yes (n u v : Int) (w : World) (h1 : 0 ≤ u) (h2 : 0 ≤ v) (h3 : u < n) (h4 : v < n) (h5 : ¬ u = v) :
    Calls Try.prog 148 #[.int .i64 n, .int .i64 u, .int .i64 v] w fun e w' => e = .returned (.bool true) ∧ w = w' := by
  have h5b : (u != v) = true := by simpa using h5
  go_enter Try.func148, Try.ntmps148
  go_wp2
  go_ret
  exact ⟨rfl, rfl⟩
def AddPost (n : Int) (ys : List E2) (w : World) (e : Ending) (w' : World) : Prop := ∃ a cap, e = .returned (.tuple #[.agg #[.int .i64 n, .slice a ys.length cap], .int .i64 0]) ∧ EdgesAt w' (.slice a ys.length cap) ys ∧ Below w.heap.size w w' ∧ ∀ p, a = some p → w.heap.size ≤ p.block
end Go.Proofs.Ytdkmdcdoiaelfaa

namespace Go.Proofs.Ytdkmdcdoiaelfaa
open Go.RowKit Go.BigFrame

/-- the edges in order -/
def edS (e : E2) : E2 := (min e.1 e.2, max e.1 e.2)
def ofE (rs : List E2) : List E2 := rs.foldl (fun acc e => insE acc (edS e)) []
def Ends (n : Int) (e : E2) : Prop := 0 ≤ e.1 ∧ 0 ≤ e.2 ∧ e.1 < n ∧ e.2 < n ∧ ¬ e.1 = e.2
theorem edS_ins {n : Int} {e : E2} (h : Ends n e) : Ins n (edS e) := by
  obtain ⟨h1, h2, h3, h4, h5⟩ := h
  unfold Ins edS
  dsimp
  omega
theorem ofE_snoc (rs : List E2) (e : E2) : ofE (rs ++ [e]) = insE (ofE rs) (edS e) := by simp [ofE, List.foldl_append]
theorem fold_valid {n : Int} (rs : List E2) : ∀ acc, Valid n acc → (∀ e ∈ rs, Ends n e) → Valid n (rs.foldl (fun acc e => insE acc (edS e)) acc) := by
  induction rs with
  | nil => intro acc h _; exact h
  | cons e rs ih => intro acc h hr; exact ih _ (h.ins _ (edS_ins (hr e List.mem_cons_self))) (fun x hx => hr x (List.mem_cons_of_mem _ hx))
theorem ofE_valid {n : Int} (rs : List E2) (h0 : 0 ≤ n) (h1 : n ≤ 64) (h : ∀ e ∈ rs, Ends n e) : Valid n (ofE rs) := fold_valid rs [] (valid_nil h0 h1) h
theorem fold_mem (rs : List E2) (x : E2) : ∀ acc, x ∈ rs.foldl (fun acc e => insE acc (edS e)) acc ↔ x ∈ acc ∨ ∃ e ∈ rs, x = edS e := by
  induction rs with
  | nil => intro acc; simp
  | cons e rs ih =>
    intro acc
    rw [List.foldl_cons, ih, insE_mem]
    constructor
    · rintro ((h | h) | ⟨y, h1, h2⟩)
      · exact .inl h
      · exact .inr ⟨e, List.mem_cons_self, h⟩
      · exact .inr ⟨y, List.mem_cons_of_mem _ h1, h2⟩
    · rintro (h | ⟨y, h1, h2⟩)
      · exact .inl (.inl h)
      · rcases List.mem_cons.1 h1 with rfl | h1
        · exact .inl (.inr h2)
        · exact .inr ⟨y, h1, h2⟩
theorem ofE_mem (rs : List E2) (x : E2) : x ∈ ofE rs ↔ ∃ e ∈ rs, x = edS e := by unfold ofE; rw [fold_mem]; simp
theorem ofE_take (rs : List E2) (k : Nat) (u v : Int) (h : rs.take (k + 1) = rs.take k ++ [(u, v)]) : ofE (rs.take (k + 1)) = insE (ofE (rs.take k)) (min u v, max u v) := by rw [h, ofE_snoc]; rfl

/-- a graph in block g -/
def GAt (n : Int) (es : List E2) (g : Nat) (w : World) : Prop := ∃ a cap, w.heap[g]? = some (.cells #[.int .i64 n, .slice a es.length cap] 27 (0, 0)) ∧ EdgesAt w (.slice a es.length cap) es ∧ ∀ p, a = some p → p.block ≠ g ∧ p.block ≠ g - 1 ∧ g - 1 ≤ p.block
def OfPost (n : Int) (ys : List E2) (w : World) (e : Ending) (w' : World) : Prop := ∃ a cap, e = .returned (.tuple #[.agg #[.int .i64 n, .slice a ys.length cap], .int .i64 0]) ∧ EdgesAt w' (.slice a ys.length cap) ys ∧ Below w.heap.size w w' ∧ ∀ p, a = some p → w.heap.size ≤ p.block
set_option maxRecDepth 100000 in
set_option maxHeartbeats 3200000 in
theorem ofg_any (n : Int) (a : Option Addr) (cap : Nat) (rs : List E2) (w : World) (he : EdgesAt w (.slice a rs.length cap) rs) (h0 : 0 ≤ n) (h1 : n ≤ 64) (hr : ∀ e ∈ rs, Ends n e) :
    Calls Try.prog 125 #[.int .i64 n, .slice a rs.length cap] w (OfPost n (ofE rs) w) := by
  have hn0 : ¬ n < 0 := by omega
  have hl : rs.length ≤ 70368744177664 := by obtain ⟨_, _, hv, _, _, hl, _⟩ := he; exact hl
  go_enter Try.func125, Try.ntmps125
  go_wp2_with fail
  have hsz0 : ((w.alloc (.cells #[.int .i64 0, .slice none 0 0] 27)).alloc (.cells #[.int .i64 n, .slice none 0 0] 27)).heap.size = w.heap.size + 2 := by simp
  have hb0 : Below w.heap.size w ((w.alloc (.cells #[.int .i64 0, .slice none 0 0] 27)).alloc (.cells #[.int .i64 n, .slice none 0 0] 27)) := ((Below.refl _ _).alloc (Nat.le_refl _) _).alloc (by simp) _
  have hO0 : ((w.alloc (.cells #[.int .i64 0, .slice none 0 0] 27)).alloc (.cells #[.int .i64 n, .slice none 0 0] 27)).heap[w.heap.size]? = some (.cells #[.int .i64 0, .slice none 0 0] 27 (0, 0)) := (Below.heap_alloc _ _ _ (by simp)).trans (heap_alloc_new _ _)
  have hG0 : ((w.alloc (.cells #[.int .i64 0, .slice none 0 0] 27)).alloc (.cells #[.int .i64 n, .slice none 0 0] 27)).heap[w.heap.size + 1]? = some (.cells #[.int .i64 n, .slice none 0 0] 27 (0, 0)) := by
    have := heap_alloc_new (w.alloc (.cells #[.int .i64 0, .slice none 0 0] 27)) (.cells #[.int .i64 n, .slice none 0 0] 27)
    simpa using this
  go_loopw [20] (fun i wr => ∃ (k : Nat) (acc : List E2), i = .int .i64 k ∧ k ≤ rs.length ∧ acc.length ≤ k ∧ Hid (acc = ofE (rs.take k)) ∧ Below w.heap.size w wr ∧ wr.heap[w.heap.size]? = some (.cells #[.int .i64 0, .slice none 0 0] 27 (0, 0)) ∧ GAt n acc (w.heap.size + 1) wr) (fun i _ => rs.length - (intOf i).toNat)
  case atStart => exact ⟨0, [], rfl, Nat.zero_le _, Nat.le_refl _, rfl, hb0, hO0, none, 0, hG0, EdgesAt.empty none 0 (fun _ => rfl), fun p h => by cases h⟩
  case round =>
    clear hsz0 hb0 hO0 hG0
    obtain ⟨k, acc, rfl, hk, hal, HA, hb, hO, hG⟩ := hrel
    obtain ⟨ag, capg, hGb, hGe, hGo⟩ := hG
    by_cases hlt : k < rs.length
    · obtain ⟨b, off, u, v, rfl, hget, _, htk, c0, c1⟩ := (he.below hb).at k hlt
      obtain ⟨e1, e2, e3, e4, e5⟩ := hr (u, v) (List.mem_of_getElem? hget)
      dsimp only at e1 e2 e3 e4 e5
      have HT := Lib.hid (ofE_take rs k u v htk)
      clear htk hget
      go_wp2_with (go_at_call 148; refine (ends_yes n u v _ e1 e2 e3 e4 e5).mono ?_; rintro e w2 ⟨rfl, rfl⟩)
      have hbd : Below w.heap.size w (wr.alloc (.cells #[.int .i64 u, .int .i64 v] 73)).drew := (hb.alloc hb.size _).drew
      have hbA : Below wr.heap.size wr (wr.alloc (.cells #[.int .i64 u, .int .i64 v] 73)).drew := ((Below.refl _ _).alloc (Nat.le_refl _) _).drew
      have hEd : (wr.alloc (.cells #[.int .i64 u, .int .i64 v] 73)).drew.heap[wr.heap.size]? = some (.cells #[.int .i64 u, .int .i64 v] 73 (0, 0)) := heap_alloc_new wr (.cells #[.int .i64 u, .int .i64 v] 73)
      have hGd := (hbA.block _ (blk_lt hGb)).trans hGb
      have hOd := (hbA.block _ (blk_lt hO)).trans hO
      have hed := hGe.below hbA
      have hzG := blk_lt hGb
      have HRest := Lib.hid he
      have hzd : (wr.alloc (.cells #[.int .i64 u, .int .i64 v] 73)).drew.heap.size = wr.heap.size + 1 := by show (wr.alloc _).heap.size = _; simp
      have HZD := Lib.hid hzd
      have hacl : acc.length ≤ 4096 := by rw [HA.out]; exact (ofE_valid _ h0 h1 (fun e he => hr e (List.mem_of_mem_take he))).length_le
      have q0 := cell_blk (j := 0) hEd
      have q1 := cell_blk (j := 1) hEd
      have q2 := cell_blk (j := 1) hGd
      clear hb hbA hGb hO hGe he c0 c1 hzd
      go_region_law (first
        | (go_simp; go_at_call 146; refine (edge_any u v _).mono ?_; rintro e w4 ⟨rfl, hb4⟩; have he4 := hed.below hb4; have hb04 := hbd.trans (hb4.mono hbd.size); have hO4 := (hb4.block _ (blk_lt hOd)).trans hOd; have hG4 := (hb4.block _ (blk_lt hGd)).trans hGd; have g14 := cell_blk (j := 1) hG4; have hz4 := hb4.size)
        | (go_simp; go_at_call 149; refine (with_any ag capg acc _ _ _ he4 (by omega)).mono ?_; rintro e w5 ⟨a5, cap5, rfl, he5, hb5, ho5⟩; have hb05 : Below w.heap.size w w5 := hb04.trans (hb5.mono hb04.size); have hO5 := (hb5.block _ (blk_lt hO4)).trans hO4; have hG5 := (hb5.block _ (blk_lt hG4)).trans hG4; have s0 := cell_blk (j := 1) hG5; have s1 := free_blk (j := 1) hG5))
      all_goals
        have hz5 : w.heap.size + 1 < w4.heap.size := by have := HZD.out; omega
        have hne : ∀ p, a5 = some p → p.block ≠ w.heap.size + 1 ∧ p.block ≠ w.heap.size + 1 - 1 ∧ w.heap.size + 1 - 1 ≤ p.block := fun p hp => by
          rcases ho5 p hp with h | h
          · omega
          · exact hGo p h
        have hfin := heap_setCell_same w5 (w.heap.size + 1) 1 _ _ (.slice a5 (insE acc (min u v, max u v)).length cap5) hG5
        have hef := he5.grown (grown_store (b := w.heap.size + 1) (j := 1) (v := .slice a5 (insE acc (min u v, max u v)).length cap5)) (fun g e n c p ep => by cases e; cases ep; exact (hne _ rfl).1)
        have hOf := (Below.heap_setCell w5 ⟨w.heap.size + 1, 1, none⟩ (.slice a5 (insE acc (min u v, max u v)).length cap5) w.heap.size (by show w.heap.size ≠ w.heap.size + 1; omega)).trans hO5
        have HF1 := Lib.hid hfin
        have HF2 := Lib.hid hOf
        have HF3 := Lib.hid hef
        have hlI := insE_length acc (min u v, max u v)
        clear s0 s1 hfin hOf hef
        go_wp2_with fail
        go_roundw
        case rel => exact ⟨k + 1, insE acc (min u v, max u v), by go_num, by omega, by omega, by show _ = _; rw [HT.out, ← HA.out], hb05.setCell (p := ⟨w.heap.size + 1, 1, none⟩) (Nat.le_succ _) _, HF2.out, a5, cap5, HF1.out, HF3.out, hne⟩
        case measure => simp [intOf]; omega
    · obtain rfl : k = rs.length := by omega
      have hE : acc = ofE rs := by rw [HA.out, List.take_length]
      subst hE
      have q0 := cell_blk (j := 0) hGb
      have q1 := cell_blk (j := 1) hGb
      have r0 := cell_blk (j := 0) hO
      have r1 := cell_blk (j := 1) hO
      have r2 := free_blk (j := 0) hO
      have r3 := free_blk (j := 1) hO
      go_wp2_with fail
      have hfin := set_two (u := .int .i64 n) (v := .slice ag (ofE rs).length capg) hO
      have t0 := (cell_blk (j := 0) hfin)
      have t1 := (cell_blk (j := 1) hfin)
      have hg9 : wr.grownBy ((wr.setCell ⟨w.heap.size, 0, none⟩ (.int .i64 n)).setCell ⟨w.heap.size, 1, none⟩ (.slice ag (ofE rs).length capg)) (some w.heap.size) := grown_trans grown_store grown_store
      refine bodyPost_ret (v := .tuple #[.agg #[.int .i64 n, .slice ag (ofE rs).length capg], .int .i64 0]) (by simp [results, Try.results125, go_sem, t0, t1]) rfl ⟨ag, capg, rfl, ?_, ?_, fun p hp => by have := (hGo p hp).2.2; simpa using this⟩
      · exact hGe.grown hg9 (fun g e n c p ep => by cases e; cases ep; have := (hGo _ rfl).2.1; simpa using this)
      · exact hb.grown hg9 hb.size (fun k hk => by cases hk; exact Nat.le_refl _)
end Go.Proofs.Ytdkmdcdoiaelfaa
