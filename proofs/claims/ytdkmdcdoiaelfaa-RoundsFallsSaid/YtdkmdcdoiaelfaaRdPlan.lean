/- The contracts of field.Numbers, of a made set of nodes that is valid, and of field.Plan. The contract of ref37.Check; plain: how many other workers own neighbours. -/
import Derived.Test.YtdkmdcdoiaelfaaRdWld
import Derived.Test.YtdkmdcdoiaelfaaMk
import Derived.Test.YtdkmdcdoiaelfaaRdVal
import Derived.Test.YtdkmdcdoiaelfaaNumFn
import Derived.Test.YtdkmdcdoiaelfaaSets
namespace Go.Proofs.Ytdkmdcdoiaelfaa
open Go.RowKit Go.BigFrame

theorem validZ_of (n : Int) : ∀ (l : List Int) (p : Option Int), (∀ x ∈ l, 0 ≤ x ∧ x < n) → l.Pairwise (· < ·) → (∀ y, p = some y → ∀ x ∈ l, y < x) → validZ p l n = true
  | [], _, _, _, _ => by unfold validZ; rfl
  | x :: l, p, h1, h2, h3 => by
    have hx := h1 x List.mem_cons_self
    have h4 := List.pairwise_cons.1 h2
    unfold validZ
    rw [decide_eq_true hx.1, decide_eq_true hx.2, validZ_of n l (some x) (fun y hy => h1 y (List.mem_cons_of_mem _ hy)) h4.2 (fun y e z hz => by cases e; exact h4.1 z hz)]
    cases p with
    | none => rfl
    | some y => simpa using h3 y rfl x List.mem_cons_self
/-- a set of numbers below v -/
def SetZ (l : List Int) (v : Nat) : Prop := ∃ f : Nat → Bool, l = ((List.range v).filter f).map fun (x : Nat) => (x : Int)
theorem SetZ.put {l : List Int} {v : Nat} (h : SetZ l v) : SetZ (l ++ [(v : Int)]) (v + 1) := by
  obtain ⟨f, rfl⟩ := h
  refine ⟨fun x => if x = v then true else f x, ?_⟩
  rw [List.range_succ, List.filter_append, List.map_append]
  congr 1
  · congr 1
    apply List.filter_congr
    intro x hx
    rw [if_neg (by have := List.mem_range.1 hx; omega)]
  · simp
theorem SetZ.skip {l : List Int} {v : Nat} (h : SetZ l v) : SetZ l (v + 1) := by
  obtain ⟨f, rfl⟩ := h
  refine ⟨fun x => if x = v then false else f x, ?_⟩
  rw [List.range_succ, List.filter_append, List.map_append]
  have e : (List.range v).filter (fun x => if x = v then false else f x) = (List.range v).filter f := List.filter_congr fun x hx => by rw [if_neg (by have := List.mem_range.1 hx; omega)]
  rw [e]; simp
theorem SetZ.valid {l : List Int} {v : Nat} (h : SetZ l v) : validZ none l v = true := by
  obtain ⟨f, rfl⟩ := h
  refine validZ_of _ _ _ (fun x hx => ?_) ?_ (fun y e => by cases e)
  · obtain ⟨y, hy, rfl⟩ := List.mem_map.1 hx
    have := List.mem_range.1 (List.mem_filter.1 hy).1
    omega
  · rw [List.pairwise_map]
    refine (List.Pairwise.filter _ List.pairwise_lt_range).imp fun h => ?_
    omega
theorem SetZ.len {l : List Int} {v : Nat} (h : SetZ l v) : l.length ≤ v := by
  obtain ⟨f, rfl⟩ := h
  rw [List.length_map]
  exact Nat.le_trans (List.length_filter_le _ _) (by rw [List.length_range]; exact Nat.le_refl _)
def FSetPost (b : Nat) (w : World) (n : Nat) (e : Ending) (w' : World) : Prop := ∃ (l : List Int) (v : Value), e = .returned v ∧ SetZ l n ∧ w'.ownsRow w.heap.size 3 1 v l.length (intsV l) ∧ DeckAt w' b ∧ w.grownBy w' (some b)
set_option maxRecDepth 100000 in
set_option maxHeartbeats 1600000 in
theorem fset_any (b n : Nat) (w : World) (hd : DeckAt w b) (hn : n ≤ 1000) :
    Calls Try.prog 64 #[.pointer (some ⟨b, 0, none⟩), .int .i64 n] w (FSetPost b w n) := by
  have hbw := hd.lt
  go_enter Try.func64, Try.ntmps64
  go_wp2_with fail
  go_loopw [5, 6] (fun s i wr => ∃ (v : Nat) (l : List Int), i = .int .i64 v ∧ v ≤ n ∧ SetZ l v ∧ wr.ownsRow w.heap.size 3 1 s l.length (intsV l) ∧ DeckAt wr b ∧ w.grownBy wr (some b)) (fun _ i _ => n - (intOf i).toNat)
  case atStart => exact ⟨0, [], rfl, Nat.zero_le _, ⟨fun _ => true, rfl⟩, World.ownsRow_nil _ _ _ _, hd, grown_refl _ _⟩
  case round =>
    clear hd
    obtain ⟨v, l, rfl, hvn, hlv, hown, hdk, hgr⟩ := hrel
    obtain ⟨a, cap, hs⟩ := owns_shape hown
    subst hs
    have hll := hlv.len
    by_cases hlt : v < n
    · go_wp2_with fail
      refine (next_any b 2 _ hdk (by omega) (by omega)).mono ?_
      rintro e w2 ⟨x, hx0, hx1, rfl, hd2, hg2⟩
      have hown2 := own_nextZ hown hbw hg2
      have hgr2 := grown_trans hgr hg2
      clear hown hgr hdk hg2
      by_cases hx : x = 1
      · subst hx
        have hlx := ints_lit1 w2 (v : Int) 3
        have hownA := hown2.alloc (.cells #[.int .i64 (v : Int)] 3)
        have hgrA := grown_trans hgr2 (World.grownBy_alloc w2 (.cells #[.int .i64 (v : Int)] 3) (some b))
        have hdA := hd2.alloc (.cells #[.int .i64 (v : Int)] 3)
        go_wp2_with (at_builtin; refine wpList_app_ints intsT rfl _ _ rfl w.heap.size (.slice a l.length cap) _ l [(v : Int)] rfl hownA rfl hlx (by simp; omega) hgrA.size ?_; intro v6 w6 hown6 hg6)
        have hblk : ∀ g, (Value.slice a l.length cap).ownBlock = some g → b < g ∧ w.heap.size ≤ g := fun g e => by have := hownA.lt g e; omega
        have hd6 := hdA.kept hg6 (fun g e => (hblk g e).1)
        have hgr6 := grown_new hgrA hg6 (fun g e => .inr (hblk g e).2)
        go_roundw
        case rel => exact ⟨v + 1, l ++ [(v : Int)], by go_num, by omega, hlv.put, hown6, hd6, hgr6⟩
        case measure => simp [intOf]; omega
      · have hx0' : x = 0 := by omega
        subst hx0'
        go_wp2_with fail
        go_roundw
        case rel => exact ⟨v + 1, l, by go_num, by omega, hlv.skip, hown2, hd2, hgr2⟩
        case measure => simp [intOf]; omega
    · obtain rfl : v = n := by omega
      go_wp2_with fail
      go_ret
      exact ⟨l, .slice a l.length cap, rfl, hlv, hown, hdk, hgr⟩
def FNumPost (b : Nat) (w : World) (n : Nat) (k : Int) (e : Ending) (w' : World) : Prop := ∃ (l : List Int) (v : Value), e = .returned v ∧ l.length = n ∧ (∀ x ∈ l, 0 ≤ x ∧ x < k) ∧ w'.ownsRow w.heap.size 3 1 v l.length (intsV l) ∧ DeckAt w' b ∧ w.grownBy w' (some b)
set_option maxRecDepth 100000 in
set_option maxHeartbeats 1600000 in
theorem fnumbers_any (b n : Nat) (k : Int) (w : World) (hd : DeckAt w b) (hn : n ≤ 1000) (hk : 1 ≤ k) (hk2 : k ≤ 4611686018427387904) :
    Calls Try.prog 38 #[.pointer (some ⟨b, 0, none⟩), .int .i64 n, .int .i64 k] w (FNumPost b w n k) := by
  have hbw := hd.lt
  go_enter Try.func38, Try.ntmps38
  go_wp2_with fail
  go_loopw [7, 8] (fun s i wr => ∃ (v : Nat) (l : List Int), i = .int .i64 v ∧ v ≤ n ∧ Hid (l.length = v) ∧ (∀ x ∈ l, 0 ≤ x ∧ x < k) ∧ wr.ownsRow w.heap.size 3 1 s l.length (intsV l) ∧ DeckAt wr b ∧ w.grownBy wr (some b)) (fun _ i _ => n - (intOf i).toNat)
  case atStart => exact ⟨0, [], rfl, Nat.zero_le _, rfl, by simp, World.ownsRow_nil _ _ _ _, hd, grown_refl _ _⟩
  case round =>
    clear hd
    obtain ⟨v, l, rfl, hvn, hlv, hlk, hown, hdk, hgr⟩ := hrel
    obtain ⟨a, cap, hs⟩ := owns_shape hown
    subst hs
    have hl5 : l.length ≤ 1000 := by have := hlv.out; omega
    by_cases hlt : v < n
    · go_wp2_with fail
      refine (next_any b k _ hdk hk hk2).mono ?_
      rintro e w2 ⟨x, hx0, hx1, rfl, hd2, hg2⟩
      have hown2 := own_nextZ hown hbw hg2
      have hgr2 := grown_trans hgr hg2
      clear hown hgr hdk hg2
      have hlx := ints_lit1 w2 x 3
      have hownA := hown2.alloc (.cells #[.int .i64 x] 3)
      have hgrA := grown_trans hgr2 (World.grownBy_alloc w2 (.cells #[.int .i64 x] 3) (some b))
      have hdA := hd2.alloc (.cells #[.int .i64 x] 3)
      go_wp2_with (at_builtin; refine wpList_app_ints intsT rfl _ _ rfl w.heap.size (.slice a l.length cap) _ l [x] rfl hownA rfl hlx (by simp; omega) hgrA.size ?_; intro v6 w6 hown6 hg6)
      have hblk : ∀ g, (Value.slice a l.length cap).ownBlock = some g → b < g ∧ w.heap.size ≤ g := fun g e => by have := hownA.lt g e; omega
      have hd6 := hdA.kept hg6 (fun g e => (hblk g e).1)
      have hgr6 := grown_new hgrA hg6 (fun g e => .inr (hblk g e).2)
      go_roundw
      case rel => exact ⟨v + 1, l ++ [x], by go_num, by omega, (show _ = _ by rw [List.length_append, hlv.out]; rfl), (fun y hy => by
        rcases List.mem_append.1 hy with hy | hy
        · exact hlk y hy
        · rw [List.mem_singleton] at hy; subst hy; exact ⟨hx0, hx1⟩), hown6, hd6, hgr6⟩
      case measure => simp [intOf]; omega
    · obtain rfl : v = n := by omega
      go_wp2_with fail
      go_ret
      exact ⟨l, .slice a l.length cap, rfl, hlv.out, hlk, hown, hdk, hgr⟩
/-- numbers of workers, as a function -/
theorem owI_of {n P : Nat} {l : List Int} (hl : l.length = n) (hk : ∀ x ∈ l, 0 ≤ x ∧ x < (P : Int)) : ∃ ow : Nat → Nat, l = owI n ow ∧ ∀ v, v < n → ow v < P := by
  refine ⟨fun v => (l.getD v 0).toNat, ?_, fun v hv => ?_⟩
  · apply List.ext_getElem?
    intro i
    by_cases h : i < n
    · rw [owI_get n _ i h]
      have h2 : i < l.length := by omega
      have h3 := hk l[i] (List.getElem_mem h2)
      rw [List.getElem?_eq_getElem h2, List.getD_eq_getElem?_getD, List.getElem?_eq_getElem h2]
      simp; omega
    · rw [List.getElem?_eq_none (by omega), List.getElem?_eq_none (by rw [owI_length]; omega)]
  · have h2 : v < l.length := by omega
    have h3 := hk l[v] (List.getElem_mem h2)
    show (l.getD v 0).toNat < P
    rw [List.getD_eq_getElem?_getD, List.getElem?_eq_getElem h2]
    simp; omega
/-- a plan that was made -/
def FPlanPost (b : Nat) (w : World) (n : Nat) (e : Ending) (w' : World) : Prop := ∃ (P : Nat) (ow : Nat → Nat) (hv : List Int) (ao ah : Option Addr) (co ch : Nat), e = .returned (.agg #[.int .i64 (P : Int), .slice ao n co, .slice ah hv.length ch]) ∧ 1 ≤ P ∧ P ≤ 4 ∧ (∀ v, v < n → ow v < P) ∧ validZ none hv n = true ∧ hv.length ≤ n ∧
  IntsAt w' (.slice ao n co) (owI n ow) ∧ IntsAt w' (.slice ah hv.length ch) hv ∧ MidV w.heap.size w'.heap.size (.slice ao n co) ∧ MidV w.heap.size w'.heap.size (.slice ah hv.length ch) ∧ DeckAt w' b ∧ w.grownBy w' (some b)
theorem midV_own {w : World} {a T size n : Nat} {v : Value} {xs : List Value} (h : w.ownsRow a T size v n xs) : MidV a w.heap.size v := fun n' c' p e => by
  have h1 := h.lt p.block (by rw [e]; rfl)
  exact ⟨h1.1, h1.2⟩
theorem MidV.mono {a b c d : Nat} {v : Value} (h : MidV a b v) (h1 : c ≤ a) (h2 : b ≤ d) : MidV c d v := fun n' c' p e => by
  have := h n' c' p e
  omega
theorem setP {w : World} {g T : Nat} {c0 c1 c2 : Value} (h : w.heap[g]? = some (.cells #[c0, c1, c2] T (0, 0))) (v : Value) : (w.setCell ⟨g, 1, none⟩ v).heap[g]? = some (.cells #[c0, v, c2] T (0, 0)) ∧ (w.setCell ⟨g, 2, none⟩ v).heap[g]? = some (.cells #[c0, c1, v] T (0, 0)) := by
  refine ⟨?_, ?_⟩ <;> (rw [heap_setCell_same _ _ _ _ _ _ h]; rfl)
theorem set3all {w : World} {g T : Nat} {c0 c1 c2 d0 d1 d2 : Value} (h : w.heap[g]? = some (.cells #[c0, c1, c2] T (0, 0))) : (((w.setCell ⟨g, 0, none⟩ d0).setCell ⟨g, 1, none⟩ d1).setCell ⟨g, 2, none⟩ d2).heap[g]? = some (.cells #[d0, d1, d2] T (0, 0)) := by
  have h0 := heap_setCell_same _ _ 0 _ _ d0 h
  have h1 := heap_setCell_same _ _ 1 _ _ d1 h0
  have h2 := heap_setCell_same _ _ 2 _ _ d2 h1
  rw [h2]; rfl
set_option maxRecDepth 100000 in
set_option maxHeartbeats 3200000 in
theorem fplan_any (b n : Nat) (w : World) (hd : DeckAt w b) (hn : n ≤ 64) :
    Calls Try.prog 30 #[.pointer (some ⟨b, 0, none⟩), .int .i64 (n : Int)] w (FPlanPost b w n) := by
  have hbw := hd.lt
  obtain ⟨hT0, hb0⟩ := boxG_new w #[.int .i64 0, .slice none 0 0, .slice none 0 0] 54
  obtain ⟨wA, hwA⟩ : ∃ W : World, W = w.alloc (.cells #[.int .i64 0, .slice none 0 0, .slice none 0 0] 54) := ⟨_, rfl⟩
  have hzA : wA.heap.size = w.heap.size + 1 := by rw [hwA]; simp
  rw [← hwA] at hT0 hb0
  obtain ⟨T, hT⟩ : ∃ T, w.heap.size = T := ⟨_, rfl⟩
  rw [hT] at hT0 hzA
  have hdA := hd.kept (grown_of_below hb0) (fun g e => by cases e)
  have HWA := Lib.hid hwA
  have hg0 : w.grownBy wA (some b) := grown_none (grown_of_below hb0)
  clear hwA
  go_enter Try.func30, Try.ntmps30
  go_wp2_with (rw [← HWA.out])
  refine (next_any b 4 _ hdA (by omega) (by omega)).mono ?_
  rintro e w1 ⟨x, hx0, hx1, rfl, hd1, hg1⟩
  have hT1 := grown_blk hg1 hT0 (fun e => by have e1 : T = b := Option.some.inj e; omega)
  have hz1 := hg1.size
  obtain ⟨hQ0, hb2⟩ := boxG_new w1 #[.int .i64 (1 + x), .slice none 0 0, .slice none 0 0] 54
  obtain ⟨w2, hw2⟩ : ∃ W : World, W = w1.alloc (.cells #[.int .i64 (1 + x), .slice none 0 0, .slice none 0 0] 54) := ⟨_, rfl⟩
  have hz2 : w2.heap.size = w1.heap.size + 1 := by rw [hw2]; simp
  rw [← hw2] at hQ0 hb2
  obtain ⟨Q, hQ⟩ : ∃ Q, w1.heap.size = Q := ⟨_, rfl⟩
  rw [hQ] at hQ0 hz2 hz1
  have hT2 := lit_next' hb2 hT1
  have hd2 := hd1.kept (grown_of_below hb2) (fun g e => by cases e)
  have hg2 : w.grownBy w2 (some b) := grown_trans (grown_trans hg0 hg1) (grown_none (grown_of_below hb2))
  have HW2 := Lib.hid hw2
  have q0 : w2.cell? ⟨Q, 0, none⟩ = some (.int .i64 (1 + x)) := cell_blk hQ0
  have q0u : (w1.alloc (.cells #[.int .i64 (1 + x), .slice none 0 0, .slice none 0 0] 54)).cell? ⟨Q, 0, none⟩ = some (.int .i64 (1 + x)) := by rw [← hw2]; exact q0
  clear hw2 hT0 hd hdA hg1 hg0 hT1 hb2 hb0 hd1
  go_wp2_with (rw [← HW2.out])
  refine (fnumbers_any b n (1 + x) w2 hd2 (by omega) (by omega) (by omega)).mono ?_
  rintro e w3 ⟨l, v3, rfl, hll, hlk, hown3, hd3, hg3⟩
  rw [hll] at hown3
  obtain ⟨a3, c3, hs3⟩ := owns_shape hown3
  subst hs3
  have hQ3 := grown_blk hg3 hQ0 (fun e => by have e1 : Q = b := Option.some.inj e; omega)
  have hT3 := grown_blk hg3 hT2 (fun e => by have e1 : T = b := Option.some.inj e; omega)
  have hz3 := hg3.size
  have hk3 := hown3.lt
  have hQ4 := (setP hQ3 (.slice a3 n c3)).1
  have hgs : w3.grownBy (w3.setCell ⟨Q, 1, none⟩ (.slice a3 n c3)) (some Q) := grown_store
  have hT4 := grown_blk hgs hT3 (fun e => by have e1 : T = Q := Option.some.inj e; omega)
  have hd4 := hd3.kept hgs (fun g e => by have e1 : Q = g := Option.some.inj e; omega)
  have hown4 := hown3.kept hgs (.inr fun e => by have := (hk3 Q e).1; omega)
  have hg4 : w.grownBy (w3.setCell ⟨Q, 1, none⟩ (.slice a3 n c3)) (some b) := grown_new (grown_trans hg2 hg3) hgs (fun g e => .inr (by have e1 : Q = g := Option.some.inj e; omega))
  have r1 : w3.cell? ⟨Q, 1, none⟩ = some (.slice none 0 0) := cell_blk hQ3
  have f1 : w3.frozen? ⟨Q, 1, none⟩ = false := free_blk hQ3
  obtain ⟨w4, hw4⟩ : ∃ W : World, W = w3.setCell ⟨Q, 1, none⟩ (.slice a3 n c3) := ⟨_, rfl⟩
  rw [← hw4] at hQ4 hT4 hd4 hown4 hg4
  have hz4 : w4.heap.size = w3.heap.size := by rw [hw4]; simp [World.setCell]
  have HW4 := Lib.hid hw4
  clear hw4 hgs hQ0 hT2 hd2 hg2 hQ3 hT3 hd3 hg3 hown3 q0 q0u
  go_wp2_with (rw [← HW4.out])
  refine (next_any b 2 w4 hd4 (by omega) (by omega)).mono ?_
  rintro e w5 ⟨y, hy0, hy1, rfl, hd5, hg5⟩
  have hQ5 := grown_blk hg5 hQ4 (fun e => by have e1 : Q = b := Option.some.inj e; omega)
  have hT5 := grown_blk hg5 hT4 (fun e => by have e1 : T = b := Option.some.inj e; omega)
  have hz5 := hg5.size
  have hown5 := hown4.kept hg5 (.inr fun e => by have := (hk3 b e).1; omega)
  have hgw5 := grown_trans hg4 hg5
  obtain ⟨P, hP⟩ : ∃ P : Nat, Hid (1 + x = (P : Int)) := ⟨(1 + x).toNat, (show _ = _ by omega)⟩
  obtain ⟨ow, hlo, how⟩ := owI_of hll (P := P) (fun z hz => by have := hlk z hz; have := hP.out; omega)
  -- the end: the plan is copied into the result
  have hend : ∀ (hv : List Int) (ah : Option Addr) (ch : Nat) (W : World), W.heap[Q]? = some (.cells #[.int .i64 (1 + x), .slice a3 n c3, .slice ah hv.length ch] 54 (0, 0)) → W.heap[T]? = some (.cells #[.int .i64 0, .slice none 0 0, .slice none 0 0] 54 (0, 0)) → W.ownsRow w2.heap.size 3 1 (.slice a3 n c3) n (intsV l) → W.ownsRow w2.heap.size 3 1 (.slice ah hv.length ch) hv.length (intsV hv) → validZ none hv n = true → hv.length ≤ n → DeckAt W b → w.grownBy W (some b) →
      FPlanPost b w n (.returned (.agg #[.int .i64 (1 + x), .slice a3 n c3, .slice ah hv.length ch])) (((W.setCell ⟨T, 0, none⟩ (.int .i64 (1 + x))).setCell ⟨T, 1, none⟩ (.slice a3 n c3)).setCell ⟨T, 2, none⟩ (.slice ah hv.length ch)) := fun hv ah ch W h1 h2 h3 h4 h5 h6 h7 h8 => by
    have hgs : W.grownBy (((W.setCell ⟨T, 0, none⟩ (.int .i64 (1 + x))).setCell ⟨T, 1, none⟩ (.slice a3 n c3)).setCell ⟨T, 2, none⟩ (.slice ah hv.length ch)) (some T) := grown_trans (grown_trans grown_store grown_store) grown_store
    have h3' := h3.kept hgs (.inr fun e => by have := (h3.lt T e).1; omega)
    have h4' := h4.kept hgs (.inr fun e => by have := (h4.lt T e).1; omega)
    obtain ⟨_, _, e1, hi1, -⟩ := IntsAt.of_owns (xs := l) (by rw [hll]; exact h3') (by omega)
    rw [hll] at e1
    obtain ⟨_, _, e2, hi2, -⟩ := IntsAt.of_owns h4' (by omega)
    cases e1
    cases e2
    have m1 := midV_own h3'
    have m2 := midV_own h4'
    rw [hll, hlo] at hi1
    refine ⟨P, ow, hv, a3, ah, c3, ch, by rw [hP.out], by have := hP.out; omega, by have := hP.out; omega, how, h5, h6, hi1, hi2, m1.mono (by omega) (Nat.le_refl _), m2.mono (by omega) (Nat.le_refl _), h7.kept hgs (fun g e => by have e1 : T = g := Option.some.inj e; omega), grown_new h8 hgs (fun g e => .inr (by have e1 : T = g := Option.some.inj e; omega))⟩
  by_cases hy : y = 1
  · subst hy
    have y1 : w5.cell? ⟨Q, 1, none⟩ = some (.slice a3 n c3) := cell_blk hQ5
    go_wp2_with fail
    refine (fset_any b n w5 hd5 (by omega)).mono ?_
    rintro e w6 ⟨hv, v6, rfl, hset, hown6, hd6, hg6⟩
    obtain ⟨a6, c6, hs6⟩ := owns_shape hown6
    subst hs6
    have hQ6 := grown_blk hg6 hQ5 (fun e => by have e1 : Q = b := Option.some.inj e; omega)
    have hT6 := grown_blk hg6 hT5 (fun e => by have e1 : T = b := Option.some.inj e; omega)
    have hz6 := hg6.size
    have hk6 := hown6.lt
    have hown36 := hown5.kept hg6 (.inr fun e => by have := (hk3 b e).1; omega)
    have hQ7 := (setP hQ6 (.slice a6 hv.length c6)).2
    have hgs : w6.grownBy (w6.setCell ⟨Q, 2, none⟩ (.slice a6 hv.length c6)) (some Q) := grown_store
    have hT7 := grown_blk hgs hT6 (fun e => by have e1 : T = Q := Option.some.inj e; omega)
    have hd7 := hd6.kept hgs (fun g e => by have e1 : Q = g := Option.some.inj e; omega)
    have hown37 := hown36.kept hgs (.inr fun e => by have := (hk3 Q e).1; omega)
    have hown67 := owns_base (hown6.kept hgs (.inr fun e => by have := (hk6 Q e).1; omega)) (show w2.heap.size ≤ w5.heap.size by omega)
    have hg7 := grown_new (grown_trans hgw5 hg6) hgs (fun g e => .inr (by have e1 : Q = g := Option.some.inj e; omega))
    have hfin := hend hv a6 c6 _ hQ7 hT7 hown37 hown67 hset.valid hset.len hd7 hg7
    have r2 : w6.cell? ⟨Q, 2, none⟩ = some (.slice none 0 0) := cell_blk hQ6
    have f2 : w6.frozen? ⟨Q, 2, none⟩ = false := free_blk hQ6
    obtain ⟨w7, hw7⟩ : ∃ W : World, W = w6.setCell ⟨Q, 2, none⟩ (.slice a6 hv.length c6) := ⟨_, rfl⟩
    rw [← hw7] at hQ7 hT7 hfin
    have HW7 := Lib.hid hw7
    have hsl := set3all (d0 := .int .i64 (1 + x)) (d1 := .slice a3 n c3) (d2 := .slice a6 hv.length c6) hT7
    obtain ⟨wF, hwF⟩ : ∃ W : World, W = ((w7.setCell ⟨T, 0, none⟩ (.int .i64 (1 + x))).setCell ⟨T, 1, none⟩ (.slice a3 n c3)).setCell ⟨T, 2, none⟩ (.slice a6 hv.length c6) := ⟨_, rfl⟩
    rw [← hwF] at hfin hsl
    have HWF := Lib.hid hwF
    have t0 : wF.cell? ⟨T, 0, none⟩ = some _ := cell_blk hsl
    have t1 : wF.cell? ⟨T, 1, none⟩ = some _ := cell_blk hsl
    have t2 : wF.cell? ⟨T, 2, none⟩ = some _ := cell_blk hsl
    have qq0 : w7.cell? ⟨Q, 0, none⟩ = some _ := cell_blk hQ7
    have zz0 : w7.cell? ⟨T, 0, none⟩ = some _ := cell_blk hT7
    have fz0 : w7.frozen? ⟨T, 0, none⟩ = false := free_blk hT7
    have qq1 : w7.cell? ⟨Q, 1, none⟩ = some _ := cell_blk hQ7
    have zz1 : w7.cell? ⟨T, 1, none⟩ = some _ := cell_blk hT7
    have fz1 : w7.frozen? ⟨T, 1, none⟩ = false := free_blk hT7
    have qq2 : w7.cell? ⟨Q, 2, none⟩ = some _ := cell_blk hQ7
    have zz2 : w7.cell? ⟨T, 2, none⟩ = some _ := cell_blk hT7
    have fz2 : w7.frozen? ⟨T, 2, none⟩ = false := free_blk hT7
    clear hend hd5 hd6 hd7 hown5 hown6 hown36 hown37 hown67 hg7 hgw5 hgs hg6 hg5 hw7 hwF
    go_upto_region 5 with fail
    rw [← HW7.out]
    go_wp2_with fail
    rw [← HWF.out]
    exact bodyPost_ret (v := .agg #[.int .i64 (1 + x), .slice a3 n c3, .slice a6 hv.length c6]) (by simp [results, Try.results30, go_sem, t0, t1, t2]) rfl hfin
  · have hy2 : y = 0 := by omega
    subst hy2
    have hfin := hend [] none 0 w5 hQ5 hT5 hown5 (World.ownsRow_nil _ _ _ _) (by unfold validZ; rfl) (Nat.zero_le _) hd5 hgw5
    have hsl := set3all (d0 := .int .i64 (1 + x)) (d1 := .slice a3 n c3) (d2 := .slice none 0 0) hT5
    obtain ⟨wF, hwF⟩ : ∃ W : World, W = ((w5.setCell ⟨T, 0, none⟩ (.int .i64 (1 + x))).setCell ⟨T, 1, none⟩ (.slice a3 n c3)).setCell ⟨T, 2, none⟩ (.slice none 0 0) := ⟨_, rfl⟩
    have hfin2 : FPlanPost b w n (.returned (.agg #[.int .i64 (1 + x), .slice a3 n c3, .slice none 0 0])) wF := by rw [hwF]; exact hfin
    rw [← hwF] at hsl
    have HWF := Lib.hid hwF
    have t0 : wF.cell? ⟨T, 0, none⟩ = some _ := cell_blk hsl
    have t1 : wF.cell? ⟨T, 1, none⟩ = some _ := cell_blk hsl
    have t2 : wF.cell? ⟨T, 2, none⟩ = some _ := cell_blk hsl
    have qq0 : w5.cell? ⟨Q, 0, none⟩ = some _ := cell_blk hQ5
    have zz0 : w5.cell? ⟨T, 0, none⟩ = some _ := cell_blk hT5
    have fz0 : w5.frozen? ⟨T, 0, none⟩ = false := free_blk hT5
    have qq1 : w5.cell? ⟨Q, 1, none⟩ = some _ := cell_blk hQ5
    have zz1 : w5.cell? ⟨T, 1, none⟩ = some _ := cell_blk hT5
    have fz1 : w5.frozen? ⟨T, 1, none⟩ = false := free_blk hT5
    have qq2 : w5.cell? ⟨Q, 2, none⟩ = some _ := cell_blk hQ5
    have zz2 : w5.cell? ⟨T, 2, none⟩ = some _ := cell_blk hT5
    have fz2 : w5.frozen? ⟨T, 2, none⟩ = false := free_blk hT5
    clear hend hfin hd5 hown5 hgw5 hg5 hwF
    go_wp2_with fail
    rw [← HWF.out]
    exact bodyPost_ret (v := .agg #[.int .i64 (1 + x), .slice a3 n c3, .slice none 0 0]) (by simp [results, Try.results30, go_sem, t0, t1, t2]) rfl hfin2
end Go.Proofs.Ytdkmdcdoiaelfaa

namespace Go.Proofs.Ytdkmdcdoiaelfaa
open Go.RowKit Go.BigFrame

set_option linter.unusedSimpArgs false in
set_option maxRecDepth 100000 in
set_option maxHeartbeats 1600000 in
theorem rpcheck_any (P n : Int) (ow hv : List Int) (ao ah : Option Addr) (co ch : Nat) (w : World) (ho : IntsAt w (.slice ao ow.length co) ow) (hh : IntsAt w (.slice ah hv.length ch) hv) :
    Calls Try.prog 33 #[.agg #[.int .i64 P, .slice ao ow.length co, .slice ah hv.length ch], .int .i64 n] w fun e w' => e = .returned (.int .i64 (plnS P ow hv n)) ∧ Below w.heap.size w w' := by
  obtain ⟨hX0, hb0⟩ := boxG_new w #[.int .i64 P, .slice ao ow.length co, .slice ah hv.length ch] 54
  obtain ⟨wA, hwA⟩ : ∃ W : World, W = w.alloc (.cells #[.int .i64 P, .slice ao ow.length co, .slice ah hv.length ch] 54) := ⟨_, rfl⟩
  obtain ⟨X, hX⟩ : ∃ X, w.heap.size = X := ⟨_, rfl⟩
  rw [← hwA] at hX0 hb0
  have ho1 := ho.below hb0
  have hh1 := hh.below hb0
  rw [hX] at hX0
  have q0 : wA.cell? ⟨X, 0, none⟩ = some (.int .i64 P) := cell_blk hX0
  have q1 : wA.cell? ⟨X, 1, none⟩ = some (.slice ao ow.length co) := cell_blk hX0
  have q2 : wA.cell? ⟨X, 2, none⟩ = some (.slice ah hv.length ch) := cell_blk hX0
  have hl : ow.length ≤ 70368744177664 := by obtain ⟨_, _, _, _, _, h, _⟩ := ho; exact h
  have hnv := rsvalidZ_any ah ch hv n wA hh1
  obtain ⟨R, hR⟩ : ∃ R, plnS P ow hv n = R := ⟨_, rfl⟩
  rw [hR]
  unfold plnS at hR
  have HR := Lib.hid hR
  have HWA := Lib.hid hwA
  have HB := Lib.hid hb0
  clear hR hwA hX0 ho hh hh1
  by_cases h1 : 1 ≤ P
  · by_cases h18 : P ≤ 8
    · by_cases h2 : (ow.length : Int) = n
      · obtain ⟨V, hV⟩ : ∃ V, validZ none hv n = V := ⟨_, rfl⟩
        obtain ⟨C, hC⟩ : ∃ C, (ow.any fun x => decide (x < 0) || decide (P ≤ x)) = C := ⟨_, rfl⟩
        rw [hV] at hnv
        have hr := HR.out
        rw [if_neg (by omega), hV, hC] at hr
        have HR2 := Lib.hid hr
        have HC := Lib.hid hC
        clear hr hV hC
        subst h2
        go_enter Try.func33, Try.ntmps33
        go_wp2_with (rw [← HWA.out])
        refine hnv.mono ?_
        rintro e w1 ⟨rfl, rfl⟩
        cases V
        · have HF : Hid (R = 4) := (show _ = _ by rw [← HR2.out]; simp)
          go_wp2_with fail
          go_ret
          exact ⟨ret_int HF.out.symm, HB.out⟩
        · go_wp2_with fail
          go_loopw [5] (fun vk wr => ∃ k : Nat, k ≤ ow.length ∧ vk = .int .i64 (k : Int) ∧ Hid ((ow.drop k).any (fun x => decide (x < 0) || decide (P ≤ x)) = C) ∧ Below wA.heap.size wA wr) (fun vk _ => ow.length - (intOf vk).toNat)
          case atStart => exact ⟨0, Nat.zero_le _, rfl, HC, Below.refl _ _⟩
          case round =>
            obtain ⟨k, hk, rfl, HK, hbr⟩ := hrel
            have r0 := (hbr.cell (p := ⟨X, 0, none⟩) (cell_lt q0)).trans q0
            have r1 := (hbr.cell (p := ⟨X, 1, none⟩) (cell_lt q1)).trans q1
            by_cases hlt : k < ow.length
            · have hlt3 : (k : Int) < ow.length := by omega
              obtain ⟨b, off, x, rfl, hx, -, -, c0⟩ := (ho1.below hbr).at k hlt
              have hd := anyI_drop (fun x => decide (x < 0) || decide (P ≤ x)) ow k x hx
              rw [HK.out] at hd
              have HD := Lib.hid hd
              clear hd hx
              by_cases hx0 : x < 0
              · have HF : Hid (R = 30) := (show _ = _ by rw [← HR2.out, HD.out, decide_eq_true hx0]; simp)
                go_wp2_with fail
                go_region
                go_wp2_with fail
                go_ret
                exact ⟨ret_int HF.out.symm, HB.out.trans (hbr.drew.mono HB.out.size)⟩
              · have hd0 : decide (x < 0) = false := decide_eq_false hx0
                by_cases hxP : P ≤ x
                · have HF : Hid (R = 30) := (show _ = _ by rw [← HR2.out, HD.out, decide_eq_true hxP]; simp)
                  have hd1 : decide (P ≤ x) = true := decide_eq_true hxP
                  go_wp2_with fail
                  go_region
                  go_wp2_with fail
                  go_ret
                  exact ⟨ret_int HF.out.symm, HB.out.trans (hbr.drew.mono HB.out.size)⟩
                · have HF : Hid ((ow.drop (k + 1)).any (fun x => decide (x < 0) || decide (P ≤ x)) = C) := (show _ = _ by rw [HD.out, decide_eq_false hx0, decide_eq_false hxP]; rfl)
                  go_wp2_with fail
                  go_region
                  go_wp2_with fail
                  go_roundw
                  case rel => exact ⟨k + 1, by omega, by go_num, HF, hbr.drew⟩
                  case measure => simp [intOf]; omega
            · have HC2 : Hid (C = false) := (show _ = _ by rw [← HK.out, List.drop_of_length_le (by omega)]; rfl)
              have HF : Hid (R = 0) := (show _ = _ by rw [← HR2.out, HC2.out]; simp)
              go_wp2_with fail
              go_ret
              exact ⟨ret_int HF.out.symm, HB.out.trans (hbr.mono HB.out.size)⟩
      · have HF : Hid (R = 4) := (show _ = _ by rw [← HR.out, if_neg (by omega), if_pos (.inl h2)])
        go_enter Try.func33, Try.ntmps33
        go_wp2_with (rw [← HWA.out])
        go_ret
        exact ⟨ret_int HF.out.symm, HB.out⟩
    · have HF : Hid (R = 1) := (show _ = _ by rw [← HR.out, if_pos (by omega)])
      go_enter Try.func33, Try.ntmps33
      go_wp2_with (rw [← HWA.out])
      go_ret
      exact ⟨ret_int HF.out.symm, hX ▸ HB.out⟩
  · have HF : Hid (R = 1) := (show _ = _ by rw [← HR.out, if_pos (by omega)])
    go_enter Try.func33, Try.ntmps33
    go_wp2_with (rw [← HWA.out])
    go_ret
    exact ⟨ret_int HF.out.symm, hX ▸ HB.out⟩
/-- the owners of a node's neighbours, without its own -/
theorem minus_own {es : List E2} {n P : Nat} {ow : Nat → Nat} (how : ∀ v, v < n → ow v < P) (v : Nat) : minusS ((nbL es n v).map fun y => ((ow y : Nat) : Int)) [((ow v : Nat) : Int)] = castL (ownL es n P ow v) := by
  unfold minusS
  refine asc_eq _ _ (List.Pairwise.filter _ (ofS_asc _)) (asc_range _ P) fun x => ?_
  rw [List.mem_filter, ofS_mem, List.mem_map]
  unfold castL
  rw [List.mem_map]
  constructor
  · rintro ⟨⟨y, hy, rfl⟩, h⟩
    obtain ⟨h3, h4⟩ := List.mem_filter.1 hy
    have h5 := List.mem_range.1 h3
    have h6 : ow y ≠ ow v := fun e => by simp [e] at h
    exact ⟨ow y, ownL_mem.2 ⟨how y h5, h6, y, h5, h4, rfl⟩, rfl⟩
  · rintro ⟨t, ht, rfl⟩
    obtain ⟨h1, h2, y, h3, h4, h5⟩ := ownL_mem.1 ht
    refine ⟨⟨y, List.mem_filter.2 ⟨List.mem_range.2 h3, h4⟩, by rw [h5]⟩, ?_⟩
    simp; omega
end Go.Proofs.Ytdkmdcdoiaelfaa
