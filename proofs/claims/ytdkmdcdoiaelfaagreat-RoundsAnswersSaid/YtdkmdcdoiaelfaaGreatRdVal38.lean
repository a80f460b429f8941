/- The contracts of field.Numbers, of a made set of nodes that is valid, and of field.Plan. The contract of ref37.Check; plain: how many other workers own neighbours. The contracts of ref38's tests for worlds. -/
import Derived.Test.YtdkmdcdoiaelfaaGreatRdWld
import Derived.Test.YtdkmdcdoiaelfaaGreatMk
import Derived.Test.YtdkmdcdoiaelfaaGreatRdVal
import Derived.Test.YtdkmdcdoiaelfaaGreatNumFn
import Derived.Test.YtdkmdcdoiaelfaaGreatSets
import Derived.Test.YtdkmdcdoiaelfaaGreatRefCheck
import Derived.BigQuiet
namespace Go.Proofs.YtdkmdcdoiaelfaaGreat
open Go.RowKit Go.BigFrame

theorem validZ_of (n : Int) : ∀ (l : List Int) (p : Option Int), (∀ x ∈ l, 0 ≤ x ∧ x < n) → l.Pairwise (· < ·) → (∀ y, p = some y → ∀ x ∈ l, y < x) → validZ p l n = true
  | [], _, _, _, _ => by unfold validZ; rfl
  | x :: l, p, h1, h2, h3 => by
    have hx := h1 x List.mem_cons_self
    have h4 := List.pairwise_cons.1 h2
    unfold validZ
    rw [decide_eq_true hx.1, decide_eq_true hx.2, validZ_of n l (some x) (fun y hy => h1 y (List.mem_cons_of_mem _ hy)) h4.2 (fun y e z hz => by cases e; exact h4.1 z hz)]
    cases p with
    | none => rfl
    | some y => simpa using h3 y rfl x List.mem_cons_self
/-- a set of numbers below v -/
def SetZ (l : List Int) (v : Nat) : Prop := ∃ f : Nat → Bool, l = ((List.range v).filter f).map fun (x : Nat) => (x : Int)
theorem SetZ.put {l : List Int} {v : Nat} (h : SetZ l v) : SetZ (l ++ [(v : Int)]) (v + 1) := by
  obtain ⟨f, rfl⟩ := h
  refine ⟨fun x => if x = v then true else f x, ?_⟩
  rw [List.range_succ, List.filter_append, List.map_append]
  congr 1
  · congr 1
    apply List.filter_congr
    intro x hx
    rw [if_neg (by have := List.mem_range.1 hx; omega)]
  · simp
theorem SetZ.skip {l : List Int} {v : Nat} (h : SetZ l v) : SetZ l (v + 1) := by
  obtain ⟨f, rfl⟩ := h
  refine ⟨fun x => if x = v then false else f x, ?_⟩
  rw [List.range_succ, List.filter_append, List.map_append]
  have e : (List.range v).filter (fun x => if x = v then false else f x) = (List.range v).filter f := List.filter_congr fun x hx => by rw [if_neg (by have := List.mem_range.1 hx; omega)]
  rw [e]; simp
theorem SetZ.valid {l : List Int} {v : Nat} (h : SetZ l v) : validZ none l v = true := by
  obtain ⟨f, rfl⟩ := h
  refine validZ_of _ _ _ (fun x hx => ?_) ?_ (fun y e => by cases e)
  · obtain ⟨y, hy, rfl⟩ := List.mem_map.1 hx
    have := List.mem_range.1 (List.mem_filter.1 hy).1
    omega
  · rw [List.pairwise_map]
    refine (List.Pairwise.filter _ List.pairwise_lt_range).imp fun h => ?_
    omega
theorem SetZ.len {l : List Int} {v : Nat} (h : SetZ l v) : l.length ≤ v := by
  obtain ⟨f, rfl⟩ := h
  rw [List.length_map]
  exact Nat.le_trans (List.length_filter_le _ _) (by rw [List.length_range]; exact Nat.le_refl _)
def FSetPost (b : Nat) (w : World) (n : Nat) (e : Ending) (w' : World) : Prop := ∃ (l : List Int) (v : Value), e = .returned v ∧ SetZ l n ∧ w'.ownsRow w.heap.size 3 1 v l.length (intsV l) ∧ DeckAt w' b ∧ w.grownBy w' (some b)
set_option maxRecDepth 100000 in
set_option maxHeartbeats 1600000 in
theorem fset_any (b n : Nat) (w : World) (hd : DeckAt w b) (hn : n ≤ 1000) :
    Calls Tryz.prog 62 #[.pointer (some ⟨b, 0, none⟩), .int .i64 n] w (FSetPost b w n) := by
  have hbw := hd.lt
  go_enter Tryz.func62, Tryz.ntmps62
  go_wp2_with fail
  go_loopw [5, 6] (fun s i wr => ∃ (v : Nat) (l : List Int), i = .int .i64 v ∧ v ≤ n ∧ SetZ l v ∧ wr.ownsRow w.heap.size 3 1 s l.length (intsV l) ∧ DeckAt wr b ∧ w.grownBy wr (some b)) (fun _ i _ => n - (intOf i).toNat)
  case atStart => exact ⟨0, [], rfl, Nat.zero_le _, ⟨fun _ => true, rfl⟩, World.ownsRow_nil _ _ _ _, hd, grown_refl _ _⟩
  case round =>
    clear hd
    obtain ⟨v, l, rfl, hvn, hlv, hown, hdk, hgr⟩ := hrel
    obtain ⟨a, cap, hs⟩ := owns_shape hown
    subst hs
    have hll := hlv.len
    by_cases hlt : v < n
    · go_wp2_with fail
      refine (next_any b 2 _ hdk (by omega) (by omega)).mono ?_
      rintro e w2 ⟨x, hx0, hx1, rfl, hd2, hg2⟩
      have hown2 := own_nextZ hown hbw hg2
      have hgr2 := grown_trans hgr hg2
      clear hown hgr hdk hg2
      by_cases hx : x = 1
      · subst hx
        have hlx := ints_lit1 w2 (v : Int) 3
        have hownA := hown2.alloc (.cells #[.int .i64 (v : Int)] 3)
        have hgrA := grown_trans hgr2 (World.grownBy_alloc w2 (.cells #[.int .i64 (v : Int)] 3) (some b))
        have hdA := hd2.alloc (.cells #[.int .i64 (v : Int)] 3)
        go_wp2_with (at_builtin; refine wpList_app_ints intsT rfl _ _ rfl w.heap.size (.slice a l.length cap) _ l [(v : Int)] rfl hownA rfl hlx (by simp; omega) hgrA.size ?_; intro v6 w6 hown6 hg6)
        have hblk : ∀ g, (Value.slice a l.length cap).ownBlock = some g → b < g ∧ w.heap.size ≤ g := fun g e => by have := hownA.lt g e; omega
        have hd6 := hdA.kept hg6 (fun g e => (hblk g e).1)
        have hgr6 := grown_new hgrA hg6 (fun g e => .inr (hblk g e).2)
        go_roundw
        case rel => exact ⟨v + 1, l ++ [(v : Int)], by go_num, by omega, hlv.put, hown6, hd6, hgr6⟩
        case measure => simp [intOf]; omega
      · have hx0' : x = 0 := by omega
        subst hx0'
        go_wp2_with fail
        go_roundw
        case rel => exact ⟨v + 1, l, by go_num, by omega, hlv.skip, hown2, hd2, hgr2⟩
        case measure => simp [intOf]; omega
    · obtain rfl : v = n := by omega
      go_wp2_with fail
      go_ret
      exact ⟨l, .slice a l.length cap, rfl, hlv, hown, hdk, hgr⟩
def FNumPost (b : Nat) (w : World) (n : Nat) (k : Int) (e : Ending) (w' : World) : Prop := ∃ (l : List Int) (v : Value), e = .returned v ∧ l.length = n ∧ (∀ x ∈ l, 0 ≤ x ∧ x < k) ∧ w'.ownsRow w.heap.size 3 1 v l.length (intsV l) ∧ DeckAt w' b ∧ w.grownBy w' (some b)
set_option maxRecDepth 100000 in
set_option maxHeartbeats 1600000 in
theorem fnumbers_any (b n : Nat) (k : Int) (w : World) (hd : DeckAt w b) (hn : n ≤ 1000) (hk : 1 ≤ k) (hk2 : k ≤ 4611686018427387904) :
    Calls Tryz.prog 12 #[.pointer (some ⟨b, 0, none⟩), .int .i64 n, .int .i64 k] w (FNumPost b w n k) := by
  have hbw := hd.lt
  go_enter Tryz.func12, Tryz.ntmps12
  go_wp2_with fail
  go_loopw [7, 8] (fun s i wr => ∃ (v : Nat) (l : List Int), i = .int .i64 v ∧ v ≤ n ∧ Hid (l.length = v) ∧ (∀ x ∈ l, 0 ≤ x ∧ x < k) ∧ wr.ownsRow w.heap.size 3 1 s l.length (intsV l) ∧ DeckAt wr b ∧ w.grownBy wr (some b)) (fun _ i _ => n - (intOf i).toNat)
  case atStart => exact ⟨0, [], rfl, Nat.zero_le _, rfl, by simp, World.ownsRow_nil _ _ _ _, hd, grown_refl _ _⟩
  case round =>
    clear hd
    obtain ⟨v, l, rfl, hvn, hlv, hlk, hown, hdk, hgr⟩ := hrel
    obtain ⟨a, cap, hs⟩ := owns_shape hown
    subst hs
    have hl5 : l.length ≤ 1000 := by have := hlv.out; omega
    by_cases hlt : v < n
    · go_wp2_with fail
      refine (next_any b k _ hdk hk hk2).mono ?_
      rintro e w2 ⟨x, hx0, hx1, rfl, hd2, hg2⟩
      have hown2 := own_nextZ hown hbw hg2
      have hgr2 := grown_trans hgr hg2
      clear hown hgr hdk hg2
      have hlx := ints_lit1 w2 x 3
      have hownA := hown2.alloc (.cells #[.int .i64 x] 3)
      have hgrA := grown_trans hgr2 (World.grownBy_alloc w2 (.cells #[.int .i64 x] 3) (some b))
      have hdA := hd2.alloc (.cells #[.int .i64 x] 3)
      go_wp2_with (at_builtin; refine wpList_app_ints intsT rfl _ _ rfl w.heap.size (.slice a l.length cap) _ l [x] rfl hownA rfl hlx (by simp; omega) hgrA.size ?_; intro v6 w6 hown6 hg6)
      have hblk : ∀ g, (Value.slice a l.length cap).ownBlock = some g → b < g ∧ w.heap.size ≤ g := fun g e => by have := hownA.lt g e; omega
      have hd6 := hdA.kept hg6 (fun g e => (hblk g e).1)
      have hgr6 := grown_new hgrA hg6 (fun g e => .inr (hblk g e).2)
      go_roundw
      case rel => exact ⟨v + 1, l ++ [x], by go_num, by omega, (show _ = _ by rw [List.length_append, hlv.out]; rfl), (fun y hy => by
        rcases List.mem_append.1 hy with hy | hy
        · exact hlk y hy
        · rw [List.mem_singleton] at hy; subst hy; exact ⟨hx0, hx1⟩), hown6, hd6, hgr6⟩
      case measure => simp [intOf]; omega
    · obtain rfl : v = n := by omega
      go_wp2_with fail
      go_ret
      exact ⟨l, .slice a l.length cap, rfl, hlv.out, hlk, hown, hdk, hgr⟩
/-- numbers of workers, as a function -/
theorem owI_of {n P : Nat} {l : List Int} (hl : l.length = n) (hk : ∀ x ∈ l, 0 ≤ x ∧ x < (P : Int)) : ∃ ow : Nat → Nat, l = owI n ow ∧ ∀ v, v < n → ow v < P := by
  refine ⟨fun v => (l.getD v 0).toNat, ?_, fun v hv => ?_⟩
  · apply List.ext_getElem?
    intro i
    by_cases h : i < n
    · rw [owI_get n _ i h]
      have h2 : i < l.length := by omega
      have h3 := hk l[i] (List.getElem_mem h2)
      rw [List.getElem?_eq_getElem h2, List.getD_eq_getElem?_getD, List.getElem?_eq_getElem h2]
      simp; omega
    · rw [List.getElem?_eq_none (by omega), List.getElem?_eq_none (by rw [owI_length]; omega)]
  · have h2 : v < l.length := by omega
    have h3 := hk l[v] (List.getElem_mem h2)
    show (l.getD v 0).toNat < P
    rw [List.getD_eq_getElem?_getD, List.getElem?_eq_getElem h2]
    simp; omega
/-- a plan that was made -/
def FPlanPost (b : Nat) (w : World) (n : Nat) (e : Ending) (w' : World) : Prop := ∃ (P : Nat) (ow : Nat → Nat) (hv : List Int) (ao ah : Option Addr) (co ch : Nat), e = .returned (.agg #[.int .i64 (P : Int), .slice ao n co, .slice ah hv.length ch]) ∧ 1 ≤ P ∧ P ≤ 4 ∧ (∀ v, v < n → ow v < P) ∧ validZ none hv n = true ∧ hv.length ≤ n ∧
  IntsAt w' (.slice ao n co) (owI n ow) ∧ IntsAt w' (.slice ah hv.length ch) hv ∧ MidV w.heap.size w'.heap.size (.slice ao n co) ∧ MidV w.heap.size w'.heap.size (.slice ah hv.length ch) ∧ DeckAt w' b ∧ w.grownBy w' (some b)
theorem midV_own {w : World} {a T size n : Nat} {v : Value} {xs : List Value} (h : w.ownsRow a T size v n xs) : MidV a w.heap.size v := fun n' c' p e => by
  have h1 := h.lt p.block (by rw [e]; rfl)
  exact ⟨h1.1, h1.2⟩
theorem MidV.mono {a b c d : Nat} {v : Value} (h : MidV a b v) (h1 : c ≤ a) (h2 : b ≤ d) : MidV c d v := fun n' c' p e => by
  have := h n' c' p e
  omega
theorem setP {w : World} {g T : Nat} {c0 c1 c2 : Value} (h : w.heap[g]? = some (.cells #[c0, c1, c2] T (0, 0))) (v : Value) : (w.setCell ⟨g, 1, none⟩ v).heap[g]? = some (.cells #[c0, v, c2] T (0, 0)) ∧ (w.setCell ⟨g, 2, none⟩ v).heap[g]? = some (.cells #[c0, c1, v] T (0, 0)) := by
  refine ⟨?_, ?_⟩ <;> (rw [heap_setCell_same _ _ _ _ _ _ h]; rfl)
theorem set3all {w : World} {g T : Nat} {c0 c1 c2 d0 d1 d2 : Value} (h : w.heap[g]? = some (.cells #[c0, c1, c2] T (0, 0))) : (((w.setCell ⟨g, 0, none⟩ d0).setCell ⟨g, 1, none⟩ d1).setCell ⟨g, 2, none⟩ d2).heap[g]? = some (.cells #[d0, d1, d2] T (0, 0)) := by
  have h0 := heap_setCell_same _ _ 0 _ _ d0 h
  have h1 := heap_setCell_same _ _ 1 _ _ d1 h0
  have h2 := heap_setCell_same _ _ 2 _ _ d2 h1
  rw [h2]; rfl
set_option maxRecDepth 100000 in
set_option maxHeartbeats 3200000 in
theorem fplan_any (b n : Nat) (w : World) (hd : DeckAt w b) (hn : n ≤ 64) :
    Calls Tryz.prog 31 #[.pointer (some ⟨b, 0, none⟩), .int .i64 (n : Int)] w (FPlanPost b w n) := by
  have hbw := hd.lt
  obtain ⟨hT0, hb0⟩ := boxG_new w #[.int .i64 0, .slice none 0 0, .slice none 0 0] 27
  obtain ⟨wA, hwA⟩ : ∃ W : World, W = w.alloc (.cells #[.int .i64 0, .slice none 0 0, .slice none 0 0] 27) := ⟨_, rfl⟩
  have hzA : wA.heap.size = w.heap.size + 1 := by rw [hwA]; simp
  rw [← hwA] at hT0 hb0
  obtain ⟨T, hT⟩ : ∃ T, w.heap.size = T := ⟨_, rfl⟩
  rw [hT] at hT0 hzA
  have hdA := hd.kept (grown_of_below hb0) (fun g e => by cases e)
  have HWA := Lib.hid hwA
  have hg0 : w.grownBy wA (some b) := grown_none (grown_of_below hb0)
  clear hwA
  go_enter Tryz.func31, Tryz.ntmps31
  go_wp2_with (rw [← HWA.out])
  refine (next_any b 4 _ hdA (by omega) (by omega)).mono ?_
  rintro e w1 ⟨x, hx0, hx1, rfl, hd1, hg1⟩
  have hT1 := grown_blk hg1 hT0 (fun e => by have e1 : T = b := Option.some.inj e; omega)
  have hz1 := hg1.size
  obtain ⟨hQ0, hb2⟩ := boxG_new w1 #[.int .i64 (1 + x), .slice none 0 0, .slice none 0 0] 27
  obtain ⟨w2, hw2⟩ : ∃ W : World, W = w1.alloc (.cells #[.int .i64 (1 + x), .slice none 0 0, .slice none 0 0] 27) := ⟨_, rfl⟩
  have hz2 : w2.heap.size = w1.heap.size + 1 := by rw [hw2]; simp
  rw [← hw2] at hQ0 hb2
  obtain ⟨Q, hQ⟩ : ∃ Q, w1.heap.size = Q := ⟨_, rfl⟩
  rw [hQ] at hQ0 hz2 hz1
  have hT2 := lit_next' hb2 hT1
  have hd2 := hd1.kept (grown_of_below hb2) (fun g e => by cases e)
  have hg2 : w.grownBy w2 (some b) := grown_trans (grown_trans hg0 hg1) (grown_none (grown_of_below hb2))
  have HW2 := Lib.hid hw2
  have q0 : w2.cell? ⟨Q, 0, none⟩ = some (.int .i64 (1 + x)) := cell_blk hQ0
  have q0u : (w1.alloc (.cells #[.int .i64 (1 + x), .slice none 0 0, .slice none 0 0] 27)).cell? ⟨Q, 0, none⟩ = some (.int .i64 (1 + x)) := by rw [← hw2]; exact q0
  clear hw2 hT0 hd hdA hg1 hg0 hT1 hb2 hb0 hd1
  go_wp2_with (rw [← HW2.out])
  refine (fnumbers_any b n (1 + x) w2 hd2 (by omega) (by omega) (by omega)).mono ?_
  rintro e w3 ⟨l, v3, rfl, hll, hlk, hown3, hd3, hg3⟩
  rw [hll] at hown3
  obtain ⟨a3, c3, hs3⟩ := owns_shape hown3
  subst hs3
  have hQ3 := grown_blk hg3 hQ0 (fun e => by have e1 : Q = b := Option.some.inj e; omega)
  have hT3 := grown_blk hg3 hT2 (fun e => by have e1 : T = b := Option.some.inj e; omega)
  have hz3 := hg3.size
  have hk3 := hown3.lt
  have hQ4 := (setP hQ3 (.slice a3 n c3)).1
  have hgs : w3.grownBy (w3.setCell ⟨Q, 1, none⟩ (.slice a3 n c3)) (some Q) := grown_store
  have hT4 := grown_blk hgs hT3 (fun e => by have e1 : T = Q := Option.some.inj e; omega)
  have hd4 := hd3.kept hgs (fun g e => by have e1 : Q = g := Option.some.inj e; omega)
  have hown4 := hown3.kept hgs (.inr fun e => by have := (hk3 Q e).1; omega)
  have hg4 : w.grownBy (w3.setCell ⟨Q, 1, none⟩ (.slice a3 n c3)) (some b) := grown_new (grown_trans hg2 hg3) hgs (fun g e => .inr (by have e1 : Q = g := Option.some.inj e; omega))
  have r1 : w3.cell? ⟨Q, 1, none⟩ = some (.slice none 0 0) := cell_blk hQ3
  have f1 : w3.frozen? ⟨Q, 1, none⟩ = false := free_blk hQ3
  obtain ⟨w4, hw4⟩ : ∃ W : World, W = w3.setCell ⟨Q, 1, none⟩ (.slice a3 n c3) := ⟨_, rfl⟩
  rw [← hw4] at hQ4 hT4 hd4 hown4 hg4
  have hz4 : w4.heap.size = w3.heap.size := by rw [hw4]; simp [World.setCell]
  have HW4 := Lib.hid hw4
  clear hw4 hgs hQ0 hT2 hd2 hg2 hQ3 hT3 hd3 hg3 hown3 q0 q0u
  go_wp2_with (rw [← HW4.out])
  refine (next_any b 2 w4 hd4 (by omega) (by omega)).mono ?_
  rintro e w5 ⟨y, hy0, hy1, rfl, hd5, hg5⟩
  have hQ5 := grown_blk hg5 hQ4 (fun e => by have e1 : Q = b := Option.some.inj e; omega)
  have hT5 := grown_blk hg5 hT4 (fun e => by have e1 : T = b := Option.some.inj e; omega)
  have hz5 := hg5.size
  have hown5 := hown4.kept hg5 (.inr fun e => by have := (hk3 b e).1; omega)
  have hgw5 := grown_trans hg4 hg5
  obtain ⟨P, hP⟩ : ∃ P : Nat, Hid (1 + x = (P : Int)) := ⟨(1 + x).toNat, (show _ = _ by omega)⟩
  obtain ⟨ow, hlo, how⟩ := owI_of hll (P := P) (fun z hz => by have := hlk z hz; have := hP.out; omega)
  -- the end: the plan is copied into the result
  have hend : ∀ (hv : List Int) (ah : Option Addr) (ch : Nat) (W : World), W.heap[Q]? = some (.cells #[.int .i64 (1 + x), .slice a3 n c3, .slice ah hv.length ch] 27 (0, 0)) → W.heap[T]? = some (.cells #[.int .i64 0, .slice none 0 0, .slice none 0 0] 27 (0, 0)) → W.ownsRow w2.heap.size 3 1 (.slice a3 n c3) n (intsV l) → W.ownsRow w2.heap.size 3 1 (.slice ah hv.length ch) hv.length (intsV hv) → validZ none hv n = true → hv.length ≤ n → DeckAt W b → w.grownBy W (some b) →
      FPlanPost b w n (.returned (.agg #[.int .i64 (1 + x), .slice a3 n c3, .slice ah hv.length ch])) (((W.setCell ⟨T, 0, none⟩ (.int .i64 (1 + x))).setCell ⟨T, 1, none⟩ (.slice a3 n c3)).setCell ⟨T, 2, none⟩ (.slice ah hv.length ch)) := fun hv ah ch W h1 h2 h3 h4 h5 h6 h7 h8 => by
    have hgs : W.grownBy (((W.setCell ⟨T, 0, none⟩ (.int .i64 (1 + x))).setCell ⟨T, 1, none⟩ (.slice a3 n c3)).setCell ⟨T, 2, none⟩ (.slice ah hv.length ch)) (some T) := grown_trans (grown_trans grown_store grown_store) grown_store
    have h3' := h3.kept hgs (.inr fun e => by have := (h3.lt T e).1; omega)
    have h4' := h4.kept hgs (.inr fun e => by have := (h4.lt T e).1; omega)
    obtain ⟨_, _, e1, hi1, -⟩ := IntsAt.of_owns (xs := l) (by rw [hll]; exact h3') (by omega)
    rw [hll] at e1
    obtain ⟨_, _, e2, hi2, -⟩ := IntsAt.of_owns h4' (by omega)
    cases e1
    cases e2
    have m1 := midV_own h3'
    have m2 := midV_own h4'
    rw [hll, hlo] at hi1
    refine ⟨P, ow, hv, a3, ah, c3, ch, by rw [hP.out], by have := hP.out; omega, by have := hP.out; omega, how, h5, h6, hi1, hi2, m1.mono (by omega) (Nat.le_refl _), m2.mono (by omega) (Nat.le_refl _), h7.kept hgs (fun g e => by have e1 : T = g := Option.some.inj e; omega), grown_new h8 hgs (fun g e => .inr (by have e1 : T = g := Option.some.inj e; omega))⟩
  by_cases hy : y = 1
  · subst hy
    have y1 : w5.cell? ⟨Q, 1, none⟩ = some (.slice a3 n c3) := cell_blk hQ5
    go_wp2_with fail
    refine (fset_any b n w5 hd5 (by omega)).mono ?_
    rintro e w6 ⟨hv, v6, rfl, hset, hown6, hd6, hg6⟩
    obtain ⟨a6, c6, hs6⟩ := owns_shape hown6
    subst hs6
    have hQ6 := grown_blk hg6 hQ5 (fun e => by have e1 : Q = b := Option.some.inj e; omega)
    have hT6 := grown_blk hg6 hT5 (fun e => by have e1 : T = b := Option.some.inj e; omega)
    have hz6 := hg6.size
    have hk6 := hown6.lt
    have hown36 := hown5.kept hg6 (.inr fun e => by have := (hk3 b e).1; omega)
    have hQ7 := (setP hQ6 (.slice a6 hv.length c6)).2
    have hgs : w6.grownBy (w6.setCell ⟨Q, 2, none⟩ (.slice a6 hv.length c6)) (some Q) := grown_store
    have hT7 := grown_blk hgs hT6 (fun e => by have e1 : T = Q := Option.some.inj e; omega)
    have hd7 := hd6.kept hgs (fun g e => by have e1 : Q = g := Option.some.inj e; omega)
    have hown37 := hown36.kept hgs (.inr fun e => by have := (hk3 Q e).1; omega)
    have hown67 := owns_base (hown6.kept hgs (.inr fun e => by have := (hk6 Q e).1; omega)) (show w2.heap.size ≤ w5.heap.size by omega)
    have hg7 := grown_new (grown_trans hgw5 hg6) hgs (fun g e => .inr (by have e1 : Q = g := Option.some.inj e; omega))
    have hfin := hend hv a6 c6 _ hQ7 hT7 hown37 hown67 hset.valid hset.len hd7 hg7
    have r2 : w6.cell? ⟨Q, 2, none⟩ = some (.slice none 0 0) := cell_blk hQ6
    have f2 : w6.frozen? ⟨Q, 2, none⟩ = false := free_blk hQ6
    obtain ⟨w7, hw7⟩ : ∃ W : World, W = w6.setCell ⟨Q, 2, none⟩ (.slice a6 hv.length c6) := ⟨_, rfl⟩
    rw [← hw7] at hQ7 hT7 hfin
    have HW7 := Lib.hid hw7
    have hsl := set3all (d0 := .int .i64 (1 + x)) (d1 := .slice a3 n c3) (d2 := .slice a6 hv.length c6) hT7
    obtain ⟨wF, hwF⟩ : ∃ W : World, W = ((w7.setCell ⟨T, 0, none⟩ (.int .i64 (1 + x))).setCell ⟨T, 1, none⟩ (.slice a3 n c3)).setCell ⟨T, 2, none⟩ (.slice a6 hv.length c6) := ⟨_, rfl⟩
    rw [← hwF] at hfin hsl
    have HWF := Lib.hid hwF
    have t0 : wF.cell? ⟨T, 0, none⟩ = some _ := cell_blk hsl
    have t1 : wF.cell? ⟨T, 1, none⟩ = some _ := cell_blk hsl
    have t2 : wF.cell? ⟨T, 2, none⟩ = some _ := cell_blk hsl
    have qq0 : w7.cell? ⟨Q, 0, none⟩ = some _ := cell_blk hQ7
    have zz0 : w7.cell? ⟨T, 0, none⟩ = some _ := cell_blk hT7
    have fz0 : w7.frozen? ⟨T, 0, none⟩ = false := free_blk hT7
    have qq1 : w7.cell? ⟨Q, 1, none⟩ = some _ := cell_blk hQ7
    have zz1 : w7.cell? ⟨T, 1, none⟩ = some _ := cell_blk hT7
    have fz1 : w7.frozen? ⟨T, 1, none⟩ = false := free_blk hT7
    have qq2 : w7.cell? ⟨Q, 2, none⟩ = some _ := cell_blk hQ7
    have zz2 : w7.cell? ⟨T, 2, none⟩ = some _ := cell_blk hT7
    have fz2 : w7.frozen? ⟨T, 2, none⟩ = false := free_blk hT7
    clear hend hd5 hd6 hd7 hown5 hown6 hown36 hown37 hown67 hg7 hgw5 hgs hg6 hg5 hw7 hwF
    go_upto_region 5 with fail
    rw [← HW7.out]
    go_wp2_with fail
    rw [← HWF.out]
    exact bodyPost_ret (v := .agg #[.int .i64 (1 + x), .slice a3 n c3, .slice a6 hv.length c6]) (by simp [results, Tryz.results31, go_sem, t0, t1, t2]) rfl hfin
  · have hy2 : y = 0 := by omega
    subst hy2
    have hfin := hend [] none 0 w5 hQ5 hT5 hown5 (World.ownsRow_nil _ _ _ _) (by unfold validZ; rfl) (Nat.zero_le _) hd5 hgw5
    have hsl := set3all (d0 := .int .i64 (1 + x)) (d1 := .slice a3 n c3) (d2 := .slice none 0 0) hT5
    obtain ⟨wF, hwF⟩ : ∃ W : World, W = ((w5.setCell ⟨T, 0, none⟩ (.int .i64 (1 + x))).setCell ⟨T, 1, none⟩ (.slice a3 n c3)).setCell ⟨T, 2, none⟩ (.slice none 0 0) := ⟨_, rfl⟩
    have hfin2 : FPlanPost b w n (.returned (.agg #[.int .i64 (1 + x), .slice a3 n c3, .slice none 0 0])) wF := by rw [hwF]; exact hfin
    rw [← hwF] at hsl
    have HWF := Lib.hid hwF
    have t0 : wF.cell? ⟨T, 0, none⟩ = some _ := cell_blk hsl
    have t1 : wF.cell? ⟨T, 1, none⟩ = some _ := cell_blk hsl
    have t2 : wF.cell? ⟨T, 2, none⟩ = some _ := cell_blk hsl
    have qq0 : w5.cell? ⟨Q, 0, none⟩ = some _ := cell_blk hQ5
    have zz0 : w5.cell? ⟨T, 0, none⟩ = some _ := cell_blk hT5
    have fz0 : w5.frozen? ⟨T, 0, none⟩ = false := free_blk hT5
    have qq1 : w5.cell? ⟨Q, 1, none⟩ = some _ := cell_blk hQ5
    have zz1 : w5.cell? ⟨T, 1, none⟩ = some _ := cell_blk hT5
    have fz1 : w5.frozen? ⟨T, 1, none⟩ = false := free_blk hT5
    have qq2 : w5.cell? ⟨Q, 2, none⟩ = some _ := cell_blk hQ5
    have zz2 : w5.cell? ⟨T, 2, none⟩ = some _ := cell_blk hT5
    have fz2 : w5.frozen? ⟨T, 2, none⟩ = false := free_blk hT5
    clear hend hfin hd5 hown5 hgw5 hg5 hwF
    go_wp2_with fail
    rw [← HWF.out]
    exact bodyPost_ret (v := .agg #[.int .i64 (1 + x), .slice a3 n c3, .slice none 0 0]) (by simp [results, Tryz.results31, go_sem, t0, t1, t2]) rfl hfin2
end Go.Proofs.YtdkmdcdoiaelfaaGreat

namespace Go.Proofs.YtdkmdcdoiaelfaaGreat
open Go.RowKit Go.BigFrame

set_option linter.unusedSimpArgs false in
set_option maxRecDepth 100000 in
set_option maxHeartbeats 1600000 in
theorem rpcheck_any (P n : Int) (ow hv : List Int) (ao ah : Option Addr) (co ch : Nat) (w : World) (ho : IntsAt w (.slice ao ow.length co) ow) (hh : IntsAt w (.slice ah hv.length ch) hv) :
    Calls Tryz.prog 74 #[.agg #[.int .i64 P, .slice ao ow.length co, .slice ah hv.length ch], .int .i64 n] w fun e w' => e = .returned (.int .i64 (plnS P ow hv n)) ∧ Below w.heap.size w w' := by
  obtain ⟨hX0, hb0⟩ := boxG_new w #[.int .i64 P, .slice ao ow.length co, .slice ah hv.length ch] 27
  obtain ⟨wA, hwA⟩ : ∃ W : World, W = w.alloc (.cells #[.int .i64 P, .slice ao ow.length co, .slice ah hv.length ch] 27) := ⟨_, rfl⟩
  obtain ⟨X, hX⟩ : ∃ X, w.heap.size = X := ⟨_, rfl⟩
  rw [← hwA] at hX0 hb0
  have ho1 := ho.below hb0
  have hh1 := hh.below hb0
  rw [hX] at hX0
  have q0 : wA.cell? ⟨X, 0, none⟩ = some (.int .i64 P) := cell_blk hX0
  have q1 : wA.cell? ⟨X, 1, none⟩ = some (.slice ao ow.length co) := cell_blk hX0
  have q2 : wA.cell? ⟨X, 2, none⟩ = some (.slice ah hv.length ch) := cell_blk hX0
  have hl : ow.length ≤ 70368744177664 := by obtain ⟨_, _, _, _, _, h, _⟩ := ho; exact h
  have hnv := rsvalidZ_any ah ch hv n wA hh1
  obtain ⟨R, hR⟩ : ∃ R, plnS P ow hv n = R := ⟨_, rfl⟩
  rw [hR]
  unfold plnS at hR
  have HR := Lib.hid hR
  have HWA := Lib.hid hwA
  have HB := Lib.hid hb0
  clear hR hwA hX0 ho hh hh1
  by_cases h1 : 1 ≤ P
  · by_cases h18 : P ≤ 8
    · by_cases h2 : (ow.length : Int) = n
      · obtain ⟨V, hV⟩ : ∃ V, validZ none hv n = V := ⟨_, rfl⟩
        obtain ⟨C, hC⟩ : ∃ C, (ow.any fun x => decide (x < 0) || decide (P ≤ x)) = C := ⟨_, rfl⟩
        rw [hV] at hnv
        have hr := HR.out
        rw [if_neg (by omega), hV, hC] at hr
        have HR2 := Lib.hid hr
        have HC := Lib.hid hC
        clear hr hV hC
        subst h2
        go_enter Tryz.func74, Tryz.ntmps74
        go_wp2_with (rw [← HWA.out])
        refine hnv.mono ?_
        rintro e w1 ⟨rfl, rfl⟩
        cases V
        · have HF : Hid (R = 4) := (show _ = _ by rw [← HR2.out]; simp)
          go_wp2_with fail
          go_ret
          exact ⟨ret_int HF.out.symm, HB.out⟩
        · go_wp2_with fail
          go_loopw [5] (fun vk wr => ∃ k : Nat, k ≤ ow.length ∧ vk = .int .i64 (k : Int) ∧ Hid ((ow.drop k).any (fun x => decide (x < 0) || decide (P ≤ x)) = C) ∧ Below wA.heap.size wA wr) (fun vk _ => ow.length - (intOf vk).toNat)
          case atStart => exact ⟨0, Nat.zero_le _, rfl, HC, Below.refl _ _⟩
          case round =>
            obtain ⟨k, hk, rfl, HK, hbr⟩ := hrel
            have r0 := (hbr.cell (p := ⟨X, 0, none⟩) (cell_lt q0)).trans q0
            have r1 := (hbr.cell (p := ⟨X, 1, none⟩) (cell_lt q1)).trans q1
            by_cases hlt : k < ow.length
            · have hlt3 : (k : Int) < ow.length := by omega
              obtain ⟨b, off, x, rfl, hx, -, -, c0⟩ := (ho1.below hbr).at k hlt
              have hd := anyI_drop (fun x => decide (x < 0) || decide (P ≤ x)) ow k x hx
              rw [HK.out] at hd
              have HD := Lib.hid hd
              clear hd hx
              by_cases hx0 : x < 0
              · have HF : Hid (R = 30) := (show _ = _ by rw [← HR2.out, HD.out, decide_eq_true hx0]; simp)
                go_wp2_with fail
                go_region
                go_wp2_with fail
                go_ret
                exact ⟨ret_int HF.out.symm, HB.out.trans (hbr.drew.mono HB.out.size)⟩
              · have hd0 : decide (x < 0) = false := decide_eq_false hx0
                by_cases hxP : P ≤ x
                · have HF : Hid (R = 30) := (show _ = _ by rw [← HR2.out, HD.out, decide_eq_true hxP]; simp)
                  have hd1 : decide (P ≤ x) = true := decide_eq_true hxP
                  go_wp2_with fail
                  go_region
                  go_wp2_with fail
                  go_ret
                  exact ⟨ret_int HF.out.symm, HB.out.trans (hbr.drew.mono HB.out.size)⟩
                · have HF : Hid ((ow.drop (k + 1)).any (fun x => decide (x < 0) || decide (P ≤ x)) = C) := (show _ = _ by rw [HD.out, decide_eq_false hx0, decide_eq_false hxP]; rfl)
                  go_wp2_with fail
                  go_region
                  go_wp2_with fail
                  go_roundw
                  case rel => exact ⟨k + 1, by omega, by go_num, HF, hbr.drew⟩
                  case measure => simp [intOf]; omega
            · have HC2 : Hid (C = false) := (show _ = _ by rw [← HK.out, List.drop_of_length_le (by omega)]; rfl)
              have HF : Hid (R = 0) := (show _ = _ by rw [← HR2.out, HC2.out]; simp)
              go_wp2_with fail
              go_ret
              exact ⟨ret_int HF.out.symm, HB.out.trans (hbr.mono HB.out.size)⟩
      · have HF : Hid (R = 4) := (show _ = _ by rw [← HR.out, if_neg (by omega), if_pos (.inl h2)])
        go_enter Tryz.func74, Tryz.ntmps74
        go_wp2_with (rw [← HWA.out])
        go_ret
        exact ⟨ret_int HF.out.symm, HB.out⟩
    · have HF : Hid (R = 1) := (show _ = _ by rw [← HR.out, if_pos (by omega)])
      go_enter Tryz.func74, Tryz.ntmps74
      go_wp2_with (rw [← HWA.out])
      go_ret
      exact ⟨ret_int HF.out.symm, hX ▸ HB.out⟩
  · have HF : Hid (R = 1) := (show _ = _ by rw [← HR.out, if_pos (by omega)])
    go_enter Tryz.func74, Tryz.ntmps74
    go_wp2_with (rw [← HWA.out])
    go_ret
    exact ⟨ret_int HF.out.symm, hX ▸ HB.out⟩
end Go.Proofs.YtdkmdcdoiaelfaaGreat

namespace Go.Proofs.YtdkmdcdoiaelfaaGreat
open Go.RowKit Go.BigFrame

set_option maxRecDepth 100000 in
set_option maxHeartbeats 1600000 in
theorem num38_any (n : Int) (a : Option Addr) (cap : Nat) (l : List Int) (w : World) (hi : IntsAt w (.slice a l.length cap) l) :
    Calls Tryz.prog 55 #[.slice a l.length cap, .int .i64 n] w fun e w' => e = .returned (.bool (okK n l)) ∧ w = w' := by
  have hl : l.length ≤ 70368744177664 := by obtain ⟨_, _, _, _, _, h, _⟩ := hi; exact h
  obtain ⟨R, hR⟩ : ∃ R, okK n l = R := ⟨_, rfl⟩
  rw [hR]
  unfold okK at hR
  have HR := Lib.hid hR
  clear hR
  by_cases h1 : (l.length : Int) = n
  · obtain ⟨B, hB⟩ : ∃ B, l.all (okN n) = B := ⟨_, rfl⟩
    have hr := HR.out
    rw [decide_eq_true h1, Bool.true_and, hB] at hr
    have HB := Lib.hid hB
    have HRB := Lib.hid hr
    clear hr hB
    subst h1
    go_enter Tryz.func55, Tryz.ntmps55
    go_wp2_with fail
    go_loop [5] (fun vk => ∃ k : Nat, k ≤ l.length ∧ vk = .int .i64 (k : Int) ∧ Hid ((l.drop k).all (okN l.length) = B)) (fun vk => l.length - (intOf vk).toNat)
    case atStart => exact ⟨0, Nat.zero_le _, rfl, HB⟩
    case round =>
      obtain ⟨k, hk, rfl, HK⟩ := hrel
      by_cases hlt : k < l.length
      · have hlt3 : (k : Int) < l.length := by omega
        obtain ⟨b, off, x, rfl, hx, -, -, c0⟩ := hi.at k hlt
        have hd := all_drop (okN l.length) l k x hx
        rw [HK.out] at hd
        unfold okN at hd
        have HD := Lib.hid hd
        clear hd hx
        by_cases h2 : x < 0
        · have HF : Hid (R = false) := (show _ = _ by rw [← HRB.out, HD.out, decide_eq_false (show ¬ 0 ≤ x by omega)]; rfl)
          go_wp2_with fail
          go_ret
          exact ⟨ret_bool HF.out.symm, rfl⟩
        · by_cases h3 : (l.length : Int) < x
          · have HF : Hid (R = false) := (show _ = _ by rw [← HRB.out, HD.out, decide_eq_false (show ¬ x ≤ (l.length : Int) by omega)]; simp)
            go_wp2_with fail
            go_ret
            exact ⟨ret_bool HF.out.symm, rfl⟩
          · have HF : Hid ((l.drop (k + 1)).all (okN l.length) = B) := (show _ = _ by rw [HD.out, decide_eq_true (show 0 ≤ x by omega), decide_eq_true (show x ≤ (l.length : Int) by omega)]; rfl)
            go_wp2_with fail
            go_round
            case rel => exact ⟨k + 1, by omega, by go_num, HF⟩
            case measure => simp [intOf]; omega
      · have HF : Hid (R = true) := (show _ = _ by rw [← HRB.out, ← HK.out, List.drop_of_length_le (by omega)]; rfl)
        go_wp2_with fail
        go_ret
        exact ⟨ret_bool HF.out.symm, rfl⟩
  · have HF : Hid (R = false) := (show _ = _ by rw [← HR.out, decide_eq_false h1]; rfl)
    go_enter Tryz.func55, Tryz.ntmps55
    go_wp2_with fail
    go_ret
    exact ⟨ret_bool HF.out.symm, rfl⟩
set_option maxRecDepth 100000 in
set_option maxHeartbeats 3200000 in
theorem mes38_any (n : Int) (a : Option Addr) (cap : Nat) (l : List Msg) (w : World) (hi : RowAt encM w (.slice a l.length cap) l) (hl : l.length ≤ 1000000) :
    Calls Tryz.prog 56 #[.slice a l.length cap, .int .i64 n] w fun e w' => e = .returned (.bool (l.all (okM n))) ∧ w = w' := by
  obtain ⟨B, hB⟩ : ∃ B, l.all (okM n) = B := ⟨_, rfl⟩
  rw [hB]
  have HB := Lib.hid hB
  clear hB
  go_enter Tryz.func56, Tryz.ntmps56
  go_wp2_with fail
  go_loop [5] (fun vk => ∃ k : Nat, k ≤ l.length ∧ vk = .int .i64 (k : Int) ∧ Hid ((l.drop k).all (okM n) = B)) (fun vk => l.length - (intOf vk).toNat)
  case atStart => exact ⟨0, Nat.zero_le _, rfl, HB⟩
  case round =>
    obtain ⟨k, hk, rfl, HK⟩ := hrel
    by_cases hlt : k < l.length
    · have hlt3 : (k : Int) < l.length := by omega
      obtain ⟨b, off, x, y, z, rfl, hx, c0, c1, c2⟩ := msg_at hi k hlt
      have hd := all_drop (okM n) l k _ hx
      rw [HK.out] at hd
      unfold okM okN at hd
      dsimp only at hd
      have HD := Lib.hid hd
      clear hd hx
      cases z
      · by_cases h1 : x < 0
        · have HF : Hid (B = false) := (show _ = _ by rw [HD.out, decide_eq_false (show ¬ 0 ≤ x by omega)]; rfl)
          go_wp2_with fail
          go_ret
          exact ⟨ret_bool HF.out.symm, rfl⟩
        by_cases h2 : n ≤ x
        · have HF : Hid (B = false) := (show _ = _ by rw [HD.out, decide_eq_false (show ¬ x < n by omega)]; simp)
          go_wp2_with fail
          go_ret
          exact ⟨ret_bool HF.out.symm, rfl⟩
        by_cases h3 : y < 0
        · have HF : Hid (B = false) := (show _ = _ by rw [HD.out, decide_eq_false (show ¬ 0 ≤ y by omega)]; simp)
          go_wp2_with fail
          go_ret
          exact ⟨ret_bool HF.out.symm, rfl⟩
        by_cases h4 : n < y
        · have HF : Hid (B = false) := (show _ = _ by rw [HD.out, decide_eq_false (show ¬ y ≤ n by omega)]; simp)
          go_wp2_with fail
          go_ret
          exact ⟨ret_bool HF.out.symm, rfl⟩
        · have HF : Hid ((l.drop (k + 1)).all (okM n) = B) := (show _ = _ by rw [HD.out, decide_eq_true (show 0 ≤ x by omega), decide_eq_true (show x < n by omega), decide_eq_true (show 0 ≤ y by omega), decide_eq_true (show y ≤ n by omega)]; rfl)
          go_wp2_with fail
          go_round
          case rel => exact ⟨k + 1, by omega, by go_num, HF⟩
          case measure => simp [intOf]; omega
      · have HF : Hid (B = false) := (show _ = _ by rw [HD.out]; rfl)
        go_wp2_with fail
        go_ret
        exact ⟨ret_bool HF.out.symm, rfl⟩
    · have HF : Hid (B = true) := (show _ = _ by rw [← HK.out, List.drop_of_length_le (by omega)]; rfl)
      go_wp2_with fail
      go_ret
      exact ⟨ret_bool HF.out.symm, rfl⟩
set_option maxRecDepth 100000 in
set_option maxHeartbeats 1600000 in
theorem fault38_any (n P : Int) (es : List E2) (ow hv : List Int) (ae ao ah : Option Addr) (ce co ch : Nat) (w : World) (he : EdgesAt w (.slice ae es.length ce) es) (ho : IntsAt w (.slice ao ow.length co) ow) (hh : IntsAt w (.slice ah hv.length ch) hv) :
    Calls Tryz.prog 39 #[.agg #[.int .i64 n, .slice ae es.length ce], .agg #[.int .i64 P, .slice ao ow.length co, .slice ah hv.length ch]] w fun e w' => e = .returned (.int .i64 (fltS n es P ow hv)) ∧ Below w.heap.size w w' := by
  obtain ⟨hX0, hb0⟩ := boxG_new w #[.int .i64 n, .slice ae es.length ce] 25
  obtain ⟨hY0, hb1⟩ := boxG_new (w.alloc (.cells #[.int .i64 n, .slice ae es.length ce] 25)) #[.int .i64 P, .slice ao ow.length co, .slice ah hv.length ch] 27
  have hX1 := lit_next' hb1 hX0
  have hb01 := hb0.trans (hb1.mono hb0.size)
  have hz : (w.alloc (.cells #[.int .i64 n, .slice ae es.length ce] 25)).heap.size = w.heap.size + 1 := by simp
  rw [hz] at hY0
  obtain ⟨wA, hwA⟩ : ∃ W : World, W = (w.alloc (.cells #[.int .i64 n, .slice ae es.length ce] 25)).alloc (.cells #[.int .i64 P, .slice ao ow.length co, .slice ah hv.length ch] 27) := ⟨_, rfl⟩
  rw [← hwA] at hX1 hY0 hb01
  have hcg := check_any n ae ce es wA (he.below hb01)
  have ho1 := ho.below hb01
  have hh1 := hh.below hb01
  have q0 : wA.cell? ⟨w.heap.size, 0, none⟩ = some (.int .i64 n) := cell_blk hX1
  have q1 : wA.cell? ⟨w.heap.size, 1, none⟩ = some (.slice ae es.length ce) := cell_blk hX1
  have r0 : wA.cell? ⟨w.heap.size + 1, 0, none⟩ = some (.int .i64 P) := cell_blk hY0
  have r1 : wA.cell? ⟨w.heap.size + 1, 1, none⟩ = some (.slice ao ow.length co) := cell_blk hY0
  have r2 : wA.cell? ⟨w.heap.size + 1, 2, none⟩ = some (.slice ah hv.length ch) := cell_blk hY0
  obtain ⟨G, hG⟩ : ∃ G, checkS n es = G := ⟨_, rfl⟩
  obtain ⟨R, hR⟩ : ∃ R, fltS n es P ow hv = R := ⟨_, rfl⟩
  rw [hR]
  unfold fltS at hR
  rw [hG] at hcg hR
  have HR := Lib.hid hR
  have HWA := Lib.hid hwA
  have HB := Lib.hid hb01
  clear hR hG hwA hX0 hX1 hY0 hb0 hb1 hz he ho hh
  go_enter Tryz.func39, Tryz.ntmps39
  go_wp2_with (rw [← HWA.out])
  refine hcg.mono ?_
  rintro e w1 ⟨rfl, hb1⟩
  have hbE := HB.out.trans (hb1.mono HB.out.size)
  by_cases h0 : G = 0
  · have HF : Hid (R = plnS P ow hv n) := (show _ = _ by rw [← HR.out, if_neg (fun h => h h0)])
    have hpc := rpcheck_any P n ow hv ao ah co ch w1 (ho1.below hb1) (hh1.below hb1)
    rw [← HF.out] at hpc
    have k0 := (hb1.cell (p := ⟨w.heap.size, 0, none⟩) (cell_lt q0)).trans q0
    have l0 := (hb1.cell (p := ⟨w.heap.size + 1, 0, none⟩) (cell_lt r0)).trans r0
    have l1 := (hb1.cell (p := ⟨w.heap.size + 1, 1, none⟩) (cell_lt r1)).trans r1
    have l2 := (hb1.cell (p := ⟨w.heap.size + 1, 2, none⟩) (cell_lt r2)).trans r2
    clear q0 q1 r0 r1 r2 hcg
    subst h0
    go_wp2_with fail
    refine hpc.mono ?_
    rintro e w2 ⟨rfl, hb2⟩
    go_wp2_with fail
    go_ret
    exact ⟨rfl, hbE.trans (hb2.mono hbE.size)⟩
  · have HF : Hid (R = G) := (show _ = _ by rw [← HR.out, if_pos h0])
    go_wp2_with fail
    go_ret
    exact ⟨ret_int HF.out.symm, hbE⟩
theorem quiet_sym38 {P : Program} {f : FuncId} {args : Array Value} {w : World} {v : Value} (h : Calls P f args w fun e w' => e = .returned v ∧ w = w') : Calls P f args w fun e w' => e = .returned v ∧ w' = w := h.mono fun _ _ q => ⟨q.1, q.2.symm⟩
theorem all_range {α : Type} (f : α → Bool) (d : α) : ∀ l : List α, l.all f = (List.range l.length).all fun i => f (l.getD i d) := fun l => by
  rw [Bool.eq_iff_iff, List.all_eq_true, List.all_eq_true]
  constructor
  · intro h i hi
    have hi2 := List.mem_range.1 hi
    rw [List.getD_eq_getElem?_getD, List.getElem?_eq_getElem hi2]
    exact h _ (List.getElem_mem hi2)
  · intro h x hx
    obtain ⟨i, hi, e⟩ := List.mem_iff_getElem.1 hx
    have := h i (List.mem_range.2 hi)
    rw [List.getD_eq_getElem?_getD, List.getElem?_eq_getElem hi, e] at this
    exact this
theorem all_both {α : Type} (p q : α → Bool) (l : List α) : (l.all p && l.all q) = l.all fun x => p x && q x := by
  rw [Bool.eq_iff_iff, Bool.and_eq_true, List.all_eq_true, List.all_eq_true, List.all_eq_true]
  constructor
  · rintro ⟨h1, h2⟩ x hx; rw [h1 x hx, h2 x hx]; rfl
  · intro h
    exact ⟨fun x hx => by have := h x hx; rw [Bool.and_eq_true] at this; exact this.1, fun x hx => by have := h x hx; rw [Bool.and_eq_true] at this; exact this.2⟩
set_option linter.unusedSimpArgs false in
set_option maxRecDepth 100000 in
set_option maxHeartbeats 3200000 in
theorem valid38_any (W : WdL) (v : Value) (w : World) (h : WldAt w v W) (hbm : ∀ r ∈ W.bx, ∀ m ∈ r, m.length ≤ 1000000) :
    Calls Tryz.prog 18 #[v] w fun e w' => e = .returned (.bool (valB W)) ∧ Below w.heap.size w w' := by
  obtain ⟨n, es, P, ow, hv, kn, bx⟩ := W
  obtain ⟨ae, ao, ah, ak, ab, ce, co, ch, ck, cb, rfl, he, ho, hh, hk, hb⟩ := h
  dsimp only at he ho hh hk hb hbm ⊢
  obtain ⟨hX0, hb0⟩ := boxG_new w #[.int .i64 n, .slice ae es.length ce, .int .i64 P, .slice ao ow.length co, .slice ah hv.length ch, .slice ak kn.length ck, .slice ab bx.length cb] 36
  obtain ⟨wA, hwA⟩ : ∃ W : World, W = w.alloc (.cells #[.int .i64 n, .slice ae es.length ce, .int .i64 P, .slice ao ow.length co, .slice ah hv.length ch, .slice ak kn.length ck, .slice ab bx.length cb] 36) := ⟨_, rfl⟩
  rw [← hwA] at hX0 hb0
  obtain ⟨X, hX⟩ : ∃ X, w.heap.size = X := ⟨_, rfl⟩
  rw [hX] at hX0
  obtain ⟨q0, q1, q2, q3, q4, q5, q6⟩ := cells7 hX0
  have hch := fault38_any n P es ow hv ae ao ah ce co ch wA (he.below hb0) (ho.below hb0) (hh.below hb0)
  obtain ⟨R, hR⟩ : ∃ R, valB ⟨n, es, P, ow, hv, kn, bx⟩ = R := ⟨_, rfl⟩
  obtain ⟨F, hF⟩ : ∃ F, fltS n es P ow hv = F := ⟨_, rfl⟩
  rw [hR]
  unfold valB at hR
  dsimp only at hR
  rw [hF] at hR hch
  have HR := Lib.hid hR
  have HWA := Lib.hid hwA
  have HB := Lib.hid hb0
  clear hR hF hwA he ho hh
  go_enter Tryz.func18, Tryz.ntmps18
  go_wp2_with (rw [← HWA.out])
  refine hch.mono ?_
  rintro e w2 ⟨rfl, hb2⟩
  have hb02 := HB.out.trans (hb2.mono HB.out.size)
  have hX2 := lit_next' hb2 hX0
  have hk2 := hk.below hb02
  have hbx2 := hb.below hb02
  clear hch q0 q1 q2 q3 q4 q5 q6 hX0 hk hb hb2
  obtain ⟨q0, q1, q2, q3, q4, q5, q6⟩ := cells7 hX2
  by_cases h0 : F = 0
  · subst h0
    by_cases h1 : (kn.length : Int) = P
    · by_cases h2 : (bx.length : Int) = P
      · obtain ⟨B, hB⟩ : ∃ B, ((List.range bx.length).all fun i => okK n (kn.getD i []) && okB n P bx i) = B := ⟨_, rfl⟩
        have hr := HR.out
        have hle : kn.length = bx.length := by omega
        rw [decide_eq_true h1, decide_eq_true h2, all_range (okK n) [] kn, hle, all_both, hB] at hr
        have HLE := Lib.hid hle
        have HRB : Hid (R = B) := (show _ = _ by rw [← hr]; simp)
        have HB2 := Lib.hid hB
        have hkl : kn.length ≤ 1099511627776 := by obtain ⟨L, hL, hL2, -⟩ := hk2; have := hL.small; rw [← hL2, List.length_map]; exact this
        have hbl : bx.length ≤ 1099511627776 := by obtain ⟨L, hL, hL2, -⟩ := hbx2; have := hL.small; rw [← hL2, List.length_map]; exact this
        clear hr hB HR hle
        go_wp2_with fail
        have HH2 := Lib.hid h2
        clear h2
        go_loopw [3] (fun vi wr => ∃ i : Nat, i ≤ kn.length ∧ vi = .int .i64 (i : Int) ∧ Hid (((List.range bx.length).drop i).all (fun i => okK n (kn.getD i []) && okB n P bx i) = B) ∧ Below w2.heap.size w2 wr) (fun i _ => kn.length - (intOf i).toNat)
        case atStart => exact ⟨0, Nat.zero_le _, rfl, HB2, Below.refl _ _⟩
        case round =>
          clear q0 q1 q2 q3 q4 q5 q6
          obtain ⟨i, hii, rfl, HI, hbr⟩ := hrel
          obtain ⟨q0, q1, q2, q3, q4, q5, q6⟩ := cells7 (lit_next' hbr hX2)
          by_cases hlt : i < kn.length
          · have hlt3 : (i : Int) < kn.length := by omega
            have hltb : i < bx.length := by rw [← HLE.out]; exact hlt
            have hltb3 : (i : Int) < bx.length := by omega
            obtain ⟨-, hcapk, kb, koff, sl, rfl, hc0, hi⟩ := hk2.at i _ (List.getElem?_eq_getElem hlt)
            have hd := all_drop (fun i => okK n (kn.getD i []) && okB n P bx i) (List.range bx.length) i i (List.getElem?_range hltb)
            obtain ⟨l, hl⟩ : ∃ l, kn[i] = l := ⟨_, rfl⟩
            have hgk : kn.getD i [] = l := by rw [List.getD_eq_getElem?_getD, List.getElem?_eq_getElem hlt, hl]; rfl
            rw [hl] at hi
            rw [HI.out, hgk] at hd
            have hi2 := hi.below hbr
            have hc1 := (hbr.cell (p := ⟨kb, koff + i, none⟩) (cell_lt hc0)).trans hc0
            obtain ⟨sa, sn, sc⟩ := sl
            have hsn : sn = l.length := IntsAt.lenE hi2
            subst hsn
            change wr.cell? _ = some (Value.slice sa l.length sc) at hc1
            change IntsAt wr (Value.slice sa l.length sc) l at hi2
            have hq := fun m => quiet_sym38 (num38_any n sa sc l (wr.drewN m) (hi2.below ((Below.refl _ _).drewN m)))
            obtain ⟨D, hD⟩ : ∃ D, okK n l = D := ⟨_, rfl⟩
            rw [hD] at hd hq
            have HDl := Lib.hid hd
            clear hd hD hi hc0 hl hgk
            have hbE := hb02.trans (hbr.mono hb02.size)
            cases D
            · have HF : Hid (R = false) := (show _ = _ by rw [HRB.out, HDl.out]; simp)
              go_wp2_with fail
              go_quiet ((go_at_call 55; exact Calls.quiet_of_same (hq _)))
              go_wp2_with fail
              go_ret
              exact ⟨ret_bool HF.out.symm, hbE.drewN nq⟩
            · obtain ⟨-, hcapb, b, off, sl, rfl, hc2, hi3⟩ := hbx2.at i _ (List.getElem?_eq_getElem hltb)
              obtain ⟨row, hrow⟩ : ∃ l, bx[i] = l := ⟨_, rfl⟩
              have hgd : bx.getD i [] = row := by rw [List.getD_eq_getElem?_getD, List.getElem?_eq_getElem hltb, hrow]; rfl
              have hrm : row ∈ bx := by rw [← hrow]; exact List.getElem_mem hltb
              rw [hrow] at hi3
              have hR3 : BoxR w2 (slV sl) row := hi3
              obtain ⟨ra, rn, rc⟩ := sl
              have hsn : rn = row.length := (NestA.len hR3).1
              subst hsn
              change w2.cell? _ = some (Value.slice ra row.length rc) at hc2
              change BoxR w2 (Value.slice ra row.length rc) row at hR3
              have hc3 := (hbr.cell (p := ⟨b, off + i, none⟩) (cell_lt hc2)).trans hc2
              have hrl : row.length ≤ 1099511627776 := by obtain ⟨L, hL, hL2, -⟩ := hR3; have := hL.small; rw [← hL2, List.length_map]; exact this
              have hd := HDl.out
              unfold okB at hd
              rw [hgd, Bool.true_and] at hd
              have HD2 := Lib.hid hd
              have hcb := hc2
              clear hd HDl hgd hrow hi3 hc2
              by_cases hrp : (row.length : Int) = P
              · have hil : i < row.length := by omega
                have hil2 : (i : Int) < row.length := by omega
                obtain ⟨-, hcapr, rb, roff, sl, rfl, hc4, hi4⟩ := hR3.at i _ (List.getElem?_eq_getElem hil)
                obtain ⟨sa2, sn2, sc2⟩ := sl
                have hsn2 : sn2 = row[i].length := RowAt.lenE hi4
                have hc5 := (hbr.cell (p := ⟨rb, roff + i, none⟩) (cell_lt hc4)).trans hc4
                change wr.cell? _ = some (Value.slice sa2 sn2 sc2) at hc5
                have hgd : row.getD i [] = row[i] := by rw [List.getD_eq_getElem?_getD, List.getElem?_eq_getElem hil]; rfl
                have hd := HD2.out
                rw [hgd, ← hsn2, decide_eq_true hrp, Bool.true_and] at hd
                have HD3 := Lib.hid hd
                clear hd hgd hsn2 hi4 hc4 HD2
                by_cases hs0 : sn2 = 0
                · subst hs0
                  obtain ⟨B3, hB3⟩ : ∃ B, (row.all fun b => b.all (okM n)) = B := ⟨_, rfl⟩
                  have hd := HD3.out
                  rw [hB3, decide_eq_true rfl, Bool.true_and] at hd
                  have HD4 := Lib.hid hd
                  have HB3 := Lib.hid hB3
                  clear hd hB3 HD3
                  go_wp2_with fail
                  go_quiet ((go_at_call 55; exact Calls.quiet_of_same (hq _)))
                  have hbd := hbr.drewN nq
                  go_wp2_with fail
                  go_loopw [4] (fun vk wq => ∃ k : Nat, k ≤ row.length ∧ vk = .int .i64 (k : Int) ∧ Hid ((row.drop k).all (fun b => b.all (okM n)) = B3) ∧ Below w2.heap.size w2 wq) (fun i _ => row.length - (intOf i).toNat)
                  case atStart => exact ⟨0, Nat.zero_le _, rfl, HB3, hbd⟩
                  case round =>
                    clear hbr hbd hbE q0 q1 q2 q3 q4 q5 q6 hc1 hi2 hq hc3 hc5
                    obtain ⟨k, hkk, rfl, HK, hbr⟩ := hrel
                    have hbE := hb02.trans (hbr.mono hb02.size)
                    obtain ⟨q0, q1, q2, q3, q4, q5, q6⟩ := cells7 (lit_next' hbr hX2)
                    have hc3 := (hbr.cell (p := ⟨b, off + i, none⟩) (cell_lt hcb)).trans hcb
                    by_cases hlt5 : k < row.length
                    · have hlt6 : (k : Int) < row.length := by omega
                      obtain ⟨-, hcapr, _, _, sl, e, hc4, hi4⟩ := hR3.at k _ (List.getElem?_eq_getElem hlt5)
                      cases e
                      obtain ⟨ms, hms⟩ : ∃ l, row[k] = l := ⟨_, rfl⟩
                      have hmm : ms ∈ row := by rw [← hms]; exact List.getElem_mem hlt5
                      have hml := hbm row hrm ms hmm
                      have hd := all_drop (fun b => b.all (okM n)) row k _ (List.getElem?_eq_getElem hlt5)
                      rw [hms] at hi4 hd
                      rw [HK.out] at hd
                      obtain ⟨sa2, sn2, sc2⟩ := sl
                      have hsn2 : sn2 = ms.length := RowAt.lenE hi4
                      subst hsn2
                      have hc5 := (hbr.cell (p := ⟨rb, roff + k, none⟩) (cell_lt hc4)).trans hc4
                      change wr.cell? _ = some (Value.slice sa2 ms.length sc2) at hc5
                      have hi5 : RowAt encM wr (Value.slice sa2 ms.length sc2) ms := hi4.below hbr
                      have hq := fun m => quiet_sym38 (mes38_any n sa2 sc2 ms (wr.drewN m) (hi5.below ((Below.refl _ _).drewN m)) hml)
                      obtain ⟨D, hD⟩ : ∃ D, ms.all (okM n) = D := ⟨_, rfl⟩
                      rw [hD] at hd hq
                      have HD := Lib.hid hd
                      clear hd hD hms hi4 hc4
                      cases D
                      · have HF : Hid (R = false) := (show _ = _ by rw [HRB.out, HD4.out, HD.out]; simp)
                        go_wp2_with fail
                        go_quiet ((go_at_call 56; exact Calls.quiet_of_same (hq _)))
                        go_wp2_with fail
                        go_ret
                        exact ⟨ret_bool HF.out.symm, hbE.drewN nq⟩
                      · have HF : Hid ((row.drop (k + 1)).all (fun b => b.all (okM n)) = B3) := (show _ = _ by rw [HD.out]; rfl)
                        go_wp2_with fail
                        go_quiet ((go_at_call 56; exact Calls.quiet_of_same (hq _)))
                        go_wp2_with fail
                        go_roundw
                        case rel => exact ⟨k + 1, by omega, by go_num, HF, hbr.drewN nq⟩
                        case measure => simp [intOf]; omega
                    · have HB4 : Hid (B3 = true) := (show _ = _ by rw [← HK.out, List.drop_of_length_le (by omega)]; rfl)
                      have HF : Hid (((List.range bx.length).drop (i + 1)).all (fun i => okK n (kn.getD i []) && okB n P bx i) = B) := (show _ = _ by rw [HD4.out, HB4.out]; rfl)
                      go_wp2_with fail
                      go_roundw
                      case rel => exact ⟨i + 1, by omega, by go_num, HF, hbr⟩
                      case measure => simp [intOf]; omega
                · have HF : Hid (R = false) := (show _ = _ by rw [HRB.out, HD3.out, decide_eq_false hs0]; simp)
                  have hs1 : 0 < sn2 := by omega
                  go_wp2_with fail
                  go_quiet ((go_at_call 55; exact Calls.quiet_of_same (hq _)))
                  go_wp2_with fail
                  go_ret
                  exact ⟨ret_bool HF.out.symm, hbE.drewN nq⟩
              · have HF : Hid (R = false) := (show _ = _ by rw [HRB.out, HD2.out, decide_eq_false hrp]; simp)
                go_wp2_with fail
                go_quiet ((go_at_call 55; exact Calls.quiet_of_same (hq _)))
                go_wp2_with fail
                go_ret
                exact ⟨ret_bool HF.out.symm, hbE.drewN nq⟩
          · have HF : Hid (R = true) := (show _ = _ by rw [HRB.out, ← HI.out, List.drop_of_length_le (by simp; rw [← HLE.out]; omega)]; rfl)
            go_wp2_with fail
            go_ret
            exact ⟨ret_bool HF.out.symm, hb02.trans (hbr.mono hb02.size)⟩
      · have HF : Hid (R = false) := (show _ = _ by rw [← HR.out, decide_eq_false h2]; simp)
        go_wp2_with fail
        go_ret
        exact ⟨ret_bool HF.out.symm, hb02⟩
    · have HF : Hid (R = false) := (show _ = _ by rw [← HR.out, decide_eq_false h1]; simp)
      go_wp2_with fail
      go_ret
      exact ⟨ret_bool HF.out.symm, hb02⟩
  · have HF : Hid (R = false) := (show _ = _ by rw [← HR.out, decide_eq_false h0]; simp)
    go_wp2_with fail
    go_ret
    exact ⟨ret_bool HF.out.symm, hb02⟩
end Go.Proofs.YtdkmdcdoiaelfaaGreat
