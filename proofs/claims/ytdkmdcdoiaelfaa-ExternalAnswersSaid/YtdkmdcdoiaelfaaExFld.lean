/- cohesionfield.Records, ref34.Patch, cohesionfield.Run (printed by wip/mkexf.py). -/
import Derived.Test.YtdkmdcdoiaelfaaExR36
import Derived.Test.YtdkmdcdoiaelfaaMkGraph
import Derived.Test.YtdkmdcdoiaelfaaHeldK
import Derived.BigQuiet
namespace Go.Proofs.Ytdkmdcdoiaelfaa
open Go.RowKit Go.BigFrame

theorem own_nextZ {w wr w' : World} {b T n size : Nat} {v : Value} {xs : List Value} (h : wr.ownsRow w.heap.size T size v n xs) (hb : b < w.heap.size) (hg : wr.grownBy w' (some b)) : w'.ownsRow w.heap.size T size v n xs :=
  h.kept hg (by
    cases hs : v.ownBlock with
    | none => exact .inl rfl
    | some k => have := h.lt k hs; exact .inr (by simp; omega))

def FNumPost (b : Nat) (w : World) (n : Nat) (k : Int) (e : Ending) (w' : World) : Prop := ∃ (l : List Int) (v : Value), e = .returned v ∧ l.length = n ∧ (∀ x ∈ l, 0 ≤ x ∧ x < k) ∧ w'.ownsRow w.heap.size 3 1 v l.length (intsV l) ∧ DeckAt w' b ∧ w.grownBy w' (some b)
set_option maxRecDepth 100000 in
set_option maxHeartbeats 1600000 in
theorem fnumbers_any (b n : Nat) (k : Int) (w : World) (hd : DeckAt w b) (hn : n ≤ 1000) (hk : 1 ≤ k) (hk2 : k ≤ 4611686018427387904) :
    Calls Try.prog 38 #[.pointer (some ⟨b, 0, none⟩), .int .i64 n, .int .i64 k] w (FNumPost b w n k) := by
  have hbw := hd.lt
  go_enter Try.func38, Try.ntmps38
  go_wp2_with fail
  go_loopw [7, 8] (fun s i wr => ∃ (v : Nat) (l : List Int), i = .int .i64 v ∧ v ≤ n ∧ Hid (l.length = v) ∧ (∀ x ∈ l, 0 ≤ x ∧ x < k) ∧ wr.ownsRow w.heap.size 3 1 s l.length (intsV l) ∧ DeckAt wr b ∧ w.grownBy wr (some b)) (fun _ i _ => n - (intOf i).toNat)
  case atStart => exact ⟨0, [], rfl, Nat.zero_le _, rfl, by simp, World.ownsRow_nil _ _ _ _, hd, grown_refl _ _⟩
  case round =>
    clear hd
    obtain ⟨v, l, rfl, hvn, hlv, hlk, hown, hdk, hgr⟩ := hrel
    obtain ⟨a, cap, hs⟩ := owns_shape hown
    subst hs
    have hl5 : l.length ≤ 1000 := by have := hlv.out; omega
    by_cases hlt : v < n
    · go_wp2_with fail
      refine (next_any b k _ hdk hk hk2).mono ?_
      rintro e w2 ⟨x, hx0, hx1, rfl, hd2, hg2⟩
      have hown2 := own_nextZ hown hbw hg2
      have hgr2 := grown_trans hgr hg2
      clear hown hgr hdk hg2
      have hlx := ints_lit1 w2 x 3
      have hownA := hown2.alloc (.cells #[.int .i64 x] 3)
      have hgrA := grown_trans hgr2 (World.grownBy_alloc w2 (.cells #[.int .i64 x] 3) (some b))
      have hdA := hd2.alloc (.cells #[.int .i64 x] 3)
      go_wp2_with (at_builtin; refine wpList_app_ints intsT rfl _ _ rfl w.heap.size (.slice a l.length cap) _ l [x] rfl hownA rfl hlx (by simp; omega) hgrA.size ?_; intro v6 w6 hown6 hg6)
      have hblk : ∀ g, (Value.slice a l.length cap).ownBlock = some g → b < g ∧ w.heap.size ≤ g := fun g e => by have := hownA.lt g e; omega
      have hd6 := hdA.kept hg6 (fun g e => (hblk g e).1)
      have hgr6 := grown_new hgrA hg6 (fun g e => .inr (hblk g e).2)
      go_roundw
      case rel => exact ⟨v + 1, l ++ [x], by go_num, by omega, (show _ = _ by rw [List.length_append, hlv.out]; rfl), (fun y hy => by
        rcases List.mem_append.1 hy with hy | hy
        · exact hlk y hy
        · rw [List.mem_singleton] at hy; subst hy; exact ⟨hx0, hx1⟩), hown6, hd6, hgr6⟩
      case measure => simp [intOf]; omega
    · obtain rfl : v = n := by omega
      go_wp2_with fail
      go_ret
      exact ⟨l, .slice a l.length cap, rfl, hlv.out, hlk, hown, hdk, hgr⟩

def FRecPost (b : Nat) (w : World) (e : Ending) (w' : World) : Prop := ∃ (l : List E2) (v : Value), e = .returned v ∧ l.length ≤ 4 ∧ w'.ownsRow w.heap.size 37 2 v l.length (flatE l) ∧ DeckAt w' b ∧ w.grownBy w' (some b)
set_option maxRecDepth 100000 in
set_option maxHeartbeats 1600000 in
theorem frecords_any (b : Nat) (w : World) (hd : DeckAt w b) :
    Calls Try.prog 79 #[.pointer (some ⟨b, 0, none⟩), .int .i64 4] w (FRecPost b w) := by
  have hbw := hd.lt
  go_enter Try.func79, Try.ntmps79
  go_wp2_with fail
  refine (next_any b 5 _ hd (by omega) (by omega)).mono ?_
  rintro e w1 ⟨k0, hk0, hk1, rfl, hd1, hg1⟩
  obtain ⟨K, rfl⟩ := Int.eq_ofNat_of_zero_le hk0
  have hK : K ≤ 4 := by omega
  go_upto_region 3 with fail
  go_loopw [5, 6] (fun vo vk wr => ∃ (k : Nat) (l : List E2), vk = .int .i64 (k : Int) ∧ k + l.length ≤ 4 ∧ wr.ownsRow w.heap.size 37 2 vo l.length (flatE l) ∧ DeckAt wr b ∧ w.grownBy wr (some b)) (fun _ vk _ => (intOf vk).toNat)
  case atStart => exact ⟨K, [], rfl, by simpa using hK, World.ownsRow_nil _ _ _ _, hd1, hg1⟩
  case round =>
    clear hd hd1 hg1
    obtain ⟨k, l, rfl, hkl, hown, hdk, hgr⟩ := hrel
    obtain ⟨a, cap, hs⟩ := owns_shape hown
    subst hs
    by_cases hlt : 0 < k
    · have hlt3 : (0 : Int) < k := by omega
      have hdl : decide ((0 : Int) < k) = true := by simp; omega
      go_wp2_with fail
      refine (next_any b 7 _ hdk (by omega) (by omega)).mono ?_
      rintro e w2 ⟨u, hu0, hu1, rfl, hd2, hg2⟩
      have hown2 := own_nextZ hown hbw hg2
      have hgr2 := grown_trans hgr hg2
      go_wp2_with fail
      refine (next_any b 6 _ hd2 (by omega) (by omega)).mono ?_
      rintro e w3 ⟨x, hx0, hx1, rfl, hd3, hg3⟩
      have hown3 := own_nextZ hown2 hbw hg3
      have hgr3 := grown_trans hgr2 hg3
      obtain ⟨z, hz⟩ : ∃ z, (u + 1 + x).tmod 7 = z := ⟨_, rfl⟩
      have hz2 : (u + 1 + x) % 7 = z := by rw [← hz, Int.tmod_eq_emod_of_nonneg (by omega)]
      have hz3 : 0 ≤ z ∧ z < 7 := by omega
      have hw1 : IntKind.i64.wrap (u + 1) = u + 1 := IntWalk.i64_in _ (by omega)
      have hw2 : IntKind.i64.wrap (u + 1 + x) = u + 1 + x := IntWalk.i64_in _ (by omega)
      have hw3 : IntKind.i64.wrap z = z := IntWalk.i64_in _ (by omega)
      clear hown hgr hdk hg2 hg3 hown2 hgr2 hd2
      have hlx := edges_lit1 w3 u z 37
      have hownA := hown3.alloc (.cells #[.int .i64 u, .int .i64 z] 37)
      have hgrA := grown_trans hgr3 (World.grownBy_alloc w3 (.cells #[.int .i64 u, .int .i64 z] 37) (some b))
      have hdA := hd3.alloc (.cells #[.int .i64 u, .int .i64 z] 37)
      go_wp2_with (at_builtin; refine wpList_app_edges pairsT rfl _ _ rfl w.heap.size (.slice a l.length cap) _ l [(u, z)] rfl hownA rfl hlx (by simp; omega) hgrA.size ?_; intro v6 w6 hown6 hg6)
      have hblk : ∀ g, (Value.slice a l.length cap).ownBlock = some g → b < g ∧ w.heap.size ≤ g := fun g e => by have := hownA.lt g e; omega
      have hd6 := hdA.kept hg6 (fun g e => (hblk g e).1)
      have hgr6 := grown_new hgrA hg6 (fun g e => .inr (hblk g e).2)
      have hkm : (k : Int) - 1 = ((k - 1 : Nat) : Int) := by omega
      go_roundw
      case rel => exact ⟨k - 1, l ++ [(u, z)], by go_num, by rw [List.length_append, List.length_singleton]; omega, hown6, hd6, hgr6⟩
      case measure => simp [intOf]; omega
    · obtain rfl : k = 0 := by omega
      go_wp2_with fail
      go_ret
      exact ⟨l, .slice a l.length cap, rfl, by omega, hown, hdk, hgr⟩
/-- the boxes of Patch: the run, and what is handed back -/
structure PtW (w : World) (n : Int) (sl : Value) (wr : World) : Prop where
  g : wr.heap[w.heap.size]? = some (.cells #[.int .i64 n, sl] 33 (0, 0))
  o : wr.heap[w.heap.size + 1]? = some (.cells #[.int .i64 0, .slice none 0 0] 33 (0, 0))
  be : Below w.heap.size w wr
section
variable {w wr w' : World} {n : Int} {sl : Value}
theorem PtW.next (h : PtW w n sl wr) (hb : Below wr.heap.size wr w') : PtW w n sl w' := ⟨lit_next' hb h.g, lit_next' hb h.o, h.be.trans (hb.mono h.be.size)⟩
theorem PtW.base (h : PtW w n sl wr) : w.heap.size + 2 ≤ wr.heap.size := blk_lt h.o
theorem PtW.grown {r : Option Nat} (h : PtW w n sl wr) (hg : wr.grownBy w' r) (hr : ∀ k, r = some k → w.heap.size + 2 ≤ k) : PtW w n sl w' :=
  ⟨grown_blk hg h.g (fun e => by have := hr _ e.symm; omega), grown_blk hg h.o (fun e => by have := hr _ e.symm; omega), h.be.grown hg h.be.size (fun k e => by have := hr k e; omega)⟩
theorem PtW.start (w : World) (n : Int) (sl : Value) : PtW w n sl ((w.alloc (.cells #[.int .i64 n, sl] 33)).alloc (.cells #[.int .i64 0, .slice none 0 0] 33)) := by
  have h1 := heap_alloc_new w (.cells #[.int .i64 n, sl] 33)
  have h2 := heap_alloc_new (w.alloc (.cells #[.int .i64 n, sl] 33)) (.cells #[.int .i64 0, .slice none 0 0] 33)
  have hz : (w.alloc (.cells #[.int .i64 n, sl] 33)).heap.size = w.heap.size + 1 := by simp
  rw [hz] at h2
  exact ⟨(Below.heap_alloc _ _ _ (blk_lt h1)).trans h1, h2, ((Below.refl _ _).alloc (Nat.le_refl _) _).alloc (by simp) _⟩
theorem PtW.fin (h : PtW w n sl wr) (N : Int) {a : Option Addr} {cap : Nat} {ys : List E2} (he : EdgesAt wr (.slice a ys.length cap) ys) (ha : ∀ p, a = some p → w.heap.size + 2 ≤ p.block) :
    ((wr.setCell ⟨w.heap.size + 1, 0, none⟩ (.int .i64 N)).setCell ⟨w.heap.size + 1, 1, none⟩ (.slice a ys.length cap)).cell? ⟨w.heap.size + 1, 0, none⟩ = some (.int .i64 N) ∧
    ((wr.setCell ⟨w.heap.size + 1, 0, none⟩ (.int .i64 N)).setCell ⟨w.heap.size + 1, 1, none⟩ (.slice a ys.length cap)).cell? ⟨w.heap.size + 1, 1, none⟩ = some (.slice a ys.length cap) ∧
    EdgesAt ((wr.setCell ⟨w.heap.size + 1, 0, none⟩ (.int .i64 N)).setCell ⟨w.heap.size + 1, 1, none⟩ (.slice a ys.length cap)) (.slice a ys.length cap) ys ∧ Below w.heap.size w ((wr.setCell ⟨w.heap.size + 1, 0, none⟩ (.int .i64 N)).setCell ⟨w.heap.size + 1, 1, none⟩ (.slice a ys.length cap)) := by
  have hfin := set_two (u := .int .i64 N) (v := .slice a ys.length cap) h.o
  have hg9 : wr.grownBy ((wr.setCell ⟨w.heap.size + 1, 0, none⟩ (.int .i64 N)).setCell ⟨w.heap.size + 1, 1, none⟩ (.slice a ys.length cap)) (some (w.heap.size + 1)) := grown_trans grown_store grown_store
  exact ⟨cell_blk hfin, cell_blk hfin, he.grown hg9 (fun g e n c p ep => by cases e; have := ha p (Value.slice.inj ep).1; omega), h.be.grown hg9 h.be.size (fun k hk => by cases hk; omega)⟩
end
theorem recN_le7 (es : List E2) (n : Nat) : (recN es n).length ≤ n * n := by
  unfold recN
  rw [List.length_flatMap]
  have key : ∀ k, ((List.range k).map fun i => ((nbL es n i).map fun (j : Nat) => ((i : Int), (j : Int))).length).sum ≤ k * n := by
    intro k
    induction k with
    | zero => simp
    | succ k ih =>
      rw [List.range_succ, List.map_append, List.sum_append, Nat.succ_mul]
      simp only [List.map_cons, List.map_nil, List.sum_cons, List.sum_nil, List.length_map]
      have h1 : (nbL es n k).length ≤ (List.range n).length := List.length_filter_le _ _
      rw [List.length_range] at h1
      simp only [List.length_map] at ih
      omega
  exact key n
theorem bldX_len {n : Int} {es : List E2} (s : Int) (hn : n ≤ 7) : (bldX n es s).2.1.length ≤ 49 := by
  unfold bldX
  split
  · simp
  · split
    · simp
    · have h1 := recN_le7 es n.toNat
      have h2 : n.toNat * n.toNat ≤ 7 * 7 := Nat.mul_le_mul (by omega) (by omega)
      dsimp only
      omega
def PatchPost (w : World) (m : Nat) (e : Ending) (w' : World) : Prop := ∃ (z : Int) (a : Option Addr) (cap : Nat) (ys : List E2) (C : Int), e = .returned (.tuple #[.agg #[.int .i64 z, .slice a ys.length cap], .int .i64 C]) ∧ EdgesAt w' (.slice a ys.length cap) ys ∧ ys.length ≤ m ∧ (∀ p, a = some p → w.heap.size ≤ p.block) ∧ Below w.heap.size w w'
set_option linter.unusedSimpArgs false in
set_option maxRecDepth 100000 in
set_option maxHeartbeats 6400000 in
theorem patch34_any (size : Int) (a a1 a2 : Option Addr) (cap cap1 cap2 : Nat) (rs us cs : List E2) (w : World) (he : EdgesAt w (.slice a rs.length cap) rs) (h1 : EdgesAt w (.slice a1 us.length cap1) us) (h2 : EdgesAt w (.slice a2 cs.length cap2) cs) (hl : rs.length ≤ 10000) (hl1 : us.length ≤ 10000) (hl2 : cs.length ≤ 10000) :
    Calls Try.prog 78 #[.agg #[.int .i64 size, .slice a rs.length cap], .slice a1 us.length cap1, .slice a2 cs.length cap2] w (PatchPost w (rs.length + us.length)) := by
  have h0 := PtW.start w size (.slice a rs.length cap)
  obtain ⟨wA, hwA⟩ : ∃ W : World, W = (w.alloc (.cells #[.int .i64 size, .slice a rs.length cap] 33)).alloc (.cells #[.int .i64 0, .slice none 0 0] 33) := ⟨_, rfl⟩
  rw [← hwA] at h0
  have HWA := Lib.hid hwA
  clear hwA
  have hck := check34_any size a cap rs wA (he.below h0.be)
  obtain ⟨C, hC⟩ : ∃ C, chkR size rs = C := ⟨_, rfl⟩
  rw [hC] at hck
  clear hC
  obtain ⟨k0, k1⟩ := cells2R h0.g
  unfold PatchPost
  go_enter Try.func78, Try.ntmps78
  go_wp2_with (rw [← HWA.out])
  refine hck.mono ?_
  rintro e w1 ⟨rfl, hb1⟩
  have hW := h0.next hb1
  clear k0 k1 hck h0 hb1
  by_cases hz : C = 0
  case neg =>
    have d1 : (C != 0) = true := by simpa using hz
    clear hz
    obtain ⟨t0, t1, hef, hbf⟩ := hW.fin (a := none) (cap := 0) (ys := []) 0 (edges_nilR _) (fun p h => by cases h)
    have f0 := free_blk (j := 0) hW.o
    have f1 := free_blk (j := 1) hW.o
    obtain ⟨r0, r1⟩ := cells2R hW.o
    dsimp only [List.length_nil] at t0 t1 hef hbf
    go_wp2_with fail
    exact bodyPost_ret (v := .tuple #[.agg #[.int .i64 0, .slice none 0 0], .int .i64 C]) (by simp [results, Try.results78, go_sem, t0, t1]) rfl ⟨0, none, 0, [], C, rfl, hef, Nat.zero_le _, (fun p h => by cases h), hbf⟩
  subst hz
  have he1 := he.below hW.be
  have h11 := h1.below hW.be
  have h21 := h2.below hW.be
  go_upto_region 6 with (first
    | (at_builtin; refine wpList_app_edges pairsT rfl _ _ rfl w1.heap.size (.slice none 0 0) _ [] us rfl (World.ownsRow_nil _ _ _ _) rfl h11 (by simp; omega) (Nat.le_refl _) ?_; intro v2 w2 hown2 hg2; rw [List.nil_append] at hown2)
    | (at_builtin; refine wpList_app_edges pairsT rfl _ _ rfl w1.heap.size v2 _ us cs rfl hown2 rfl (h21.below (below_of_grown hg2)) (by omega) hg2.size ?_; intro v3 w3 hown3 hg3))
  have hb12 : Below w1.heap.size w1 w2 := below_of_grown hg2
  have hb13 := below_app' hb12 hown2 hg3
  have hall : (us ++ cs).length ≤ 20000 := by simp; omega
  obtain ⟨AL, hAL⟩ : ∃ L, us ++ cs = L := ⟨_, rfl⟩
  rw [hAL] at hown3 hall
  obtain ⟨aA, cA, eA, hiA, -⟩ := EdgesAt.of_owns hown3 (by omega)
  subst eA
  have hW3 := hW.next hb13
  clear hW hown2 hown3 hg2 hg3 hAL hb12
  go_loopw [10] (fun vi wr => ∃ k : Nat, k ≤ AL.length ∧ vi = .int .i64 (k : Int) ∧ Below w3.heap.size w3 wr) (fun vi _ => AL.length - (intOf vi).toNat)
  case atStart => exact ⟨0, Nat.zero_le _, rfl, Below.refl _ _⟩
  case round =>
    obtain ⟨k, hk, rfl, hb⟩ := hrel
    have hW := hW3.next hb
    by_cases hlt : k < AL.length
    · have hlt3 : (k : Int) < AL.length := by omega
      obtain ⟨bA, oA, u, v, rfl, -, -, -, c0, c1⟩ := (hiA.below hb).at k hlt
      have hri := right34_any u v wr
      obtain ⟨R, hR⟩ : ∃ R, recOk (u, v) = R := ⟨_, rfl⟩
      rw [hR] at hri
      clear hR
      go_wp2_with fail
      refine hri.mono ?_
      rintro e w4 ⟨rfl, hb4⟩
      have hb34 := hb.trans (hb4.mono hb.size)
      cases R
      case false =>
        have hW := hW3.next hb34
        obtain ⟨t0, t1, hef, hbf⟩ := hW.fin (a := none) (cap := 0) (ys := []) 0 (edges_nilR _) (fun p h => by cases h)
        have f0 := free_blk (j := 0) hW.o
        have f1 := free_blk (j := 1) hW.o
        obtain ⟨r0, r1⟩ := cells2R hW.o
        dsimp only [List.length_nil] at t0 t1 hef hbf
        go_wp2_with fail
        exact bodyPost_ret (v := .tuple #[.agg #[.int .i64 0, .slice none 0 0], .int .i64 6]) (by simp [results, Try.results78, go_sem, t0, t1]) rfl ⟨0, none, 0, [], 6, rfl, hef, Nat.zero_le _, (fun p h => by cases h), hbf⟩
      case true =>
      clear c0 c1
      go_wp2_with fail
      go_roundw
      case rel => exact ⟨k + 1, by omega, by go_num, hb34⟩
      case measure => simp [intOf]; omega
    · obtain rfl : AL.length = k := by omega
      obtain ⟨w2', hw2'⟩ : ∃ W : World, W = wr := ⟨_, rfl⟩
      rw [← hw2'] at hW ⊢
      have hb13' := hb13.trans (hb.mono hb13.size)
      rw [← hw2'] at hb13'
      clear hw2' hb hb13
      have hx1 := he1.below hb13'
      have hx2 := h11.below hb13'
      have hx3 := h21.below hb13'
      obtain ⟨k0, k1⟩ := cells2R hW.g
      go_wp2_with (first
        | (at_builtin; refine wpList_app_edges pairsT rfl _ _ rfl w2'.heap.size (.slice none 0 0) _ [] rs rfl (World.ownsRow_nil _ _ _ _) rfl hx1 (by simp; omega) (Nat.le_refl _) ?_; intro v2 w2 hown2 hg2; rw [List.nil_append] at hown2)
        | (at_builtin; refine wpList_app_edges pairsT rfl _ _ rfl w2'.heap.size v2 _ rs us rfl hown2 rfl (hx2.below (below_of_grown hg2)) (by omega) hg2.size ?_; intro v3 w3' hown3 hg3))
      have hb22 : Below w2'.heap.size w2' w2 := below_of_grown hg2
      have hb23 := below_app' hb22 hown2 hg3
      obtain ⟨aB, cB, eB, hiB, -⟩ := EdgesAt.of_owns hown3 (by simp; omega)
      subst eB
      have hBl : (rs ++ us).length ≤ 20000 := by simp; omega
      have hlen := ofR_len (rs ++ us)
      have hso := sorted34_any aB cB (rs ++ us) w3' hiB (by omega)
      rw [List.length_append] at hlen
      obtain ⟨LL, hLL⟩ : ∃ L, ofR (rs ++ us) = L := ⟨_, rfl⟩
      rw [hLL] at hso hlen
      have hWn := hW.next hb23
      have hx3n := hx3.below hb23
      clear hown2 hown3 hg2 hg3 hLL k0 k1 hb22
      refine hso.mono ?_
      rintro e w4 ⟨aL, cL, rfl, hiL, hb4, haL⟩
      have hW4 := hWn.next hb4
      have hx34 := hx3n.below hb4
      obtain ⟨hBo, hbB⟩ := boxG_new w4 #[.int .i64 size, .slice none 0 0] 33
      obtain ⟨w5, hw5⟩ : ∃ W : World, W = w4.alloc (.cells #[.int .i64 size, .slice none 0 0] 33) := ⟨_, rfl⟩
      rw [← hw5] at hBo hbB
      have HW5 := Lib.hid hw5
      obtain ⟨k0, k1⟩ := cells2R hW4.g
      have hbase4 := hW4.base
      have haL2 : ∀ p, aL = some p → w.heap.size ≤ p.block := fun p h => by have := haL p h; have := hWn.base; have := hb23.size; have := hW.base; omega
      clear hw5 hso
      go_upto_region 12 with fail
      rw [← HW5.out]
      go_upto_region 13 with fail
      go_loopw [13] (fun vi wr => ∃ (k : Nat) (P : List E2) (ao : Option Addr) (co : Nat), k ≤ LL.length ∧ vi = .int .i64 (k : Int) ∧ P.length ≤ k ∧ wr.heap[w4.heap.size]? = some (.cells #[.int .i64 size, .slice ao P.length co] 33 (0, 0)) ∧ wr.ownsRow (w4.heap.size + 1) 37 2 (.slice ao P.length co) P.length (flatE P) ∧ Below w4.heap.size w4 wr) (fun vi _ => LL.length - (intOf vi).toNat)
      case atStart => exact ⟨0, [], none, 0, Nat.zero_le _, rfl, Nat.le_refl _, hBo, World.ownsRow_nil _ _ _ _, hbB⟩
      case round =>
        clear hBo hbB k0 k1
        obtain ⟨k, P, ao, co, hk, rfl, hPk, hBr, hown, hb⟩ := hrel
        by_cases hlt : k < LL.length
        · have hlt3 : (k : Int) < LL.length := by omega
          obtain ⟨bL, oL, x, y, rfl, -, -, -, c0, c1⟩ := (hiL.below hb).at k hlt
          have c0' := c0
          obtain ⟨_, _, _, _, eL, -, -, -, d0, d1⟩ := hiL.at k hlt
          cases eL
          have hbL : bL < w4.heap.size := cell_lt d0
          have hhs := has34_any a2 cap2 cs x y wr (hx34.below hb)
          obtain ⟨R, hR⟩ : ∃ R, cs.contains (x, y) = R := ⟨_, rfl⟩
          rw [hR] at hhs
          clear hR d0 d1 c0'
          go_wp2_with fail
          refine hhs.mono ?_
          rintro e wq ⟨rfl, hq⟩
          have hbq := hb.trans (hq.mono hb.size)
          have hBq := lit_next' hq hBr
          have hownq := hown.kept (grown_of_below hq) (Classical.em _)
          have hk1 := (hq.cell (p := ⟨bL, oL + k * 2, none⟩) (cell_lt c0)).trans c0
          have hk2 := (hq.cell (p := ⟨bL, oL + k * 2 + 1, none⟩) (cell_lt c1)).trans c1
          clear c0 c1 hhs hb hBr hown
          have c0 := hk1
          have c1 := hk2
          clear hk1 hk2
          cases R
          case true =>
            go_wp2_with fail
            go_roundw
            case rel => exact ⟨k + 1, P, ao, co, by omega, by go_num, by omega, hBq, hownq, hbq⟩
            case measure => simp [intOf]; omega
          case false =>
          obtain ⟨r0, r1⟩ := cells2R hBq
          have hPb : P.length ≤ 20000 := by omega
          go_upto_region 16 with fail
          refine wp_region_heldK (k := 9) (S := fun b W => match b with | false => (W.cell? ⟨w4.heap.size, 1, none⟩ = some (.slice ao P.length co) ∧ W.cell? ⟨bL, oL + k * 2, none⟩ = some (.int .i64 x) ∧ W.cell? ⟨bL, oL + k * 2 + 1, none⟩ = some (.int .i64 y)) | true => True) (by kernel_rfl) ?_
          have hS0 : (wq.drew.cell? ⟨w4.heap.size, 1, none⟩ = some (.slice ao P.length co) ∧ wq.drew.cell? ⟨bL, oL + k * 2, none⟩ = some (.int .i64 x) ∧ wq.drew.cell? ⟨bL, oL + k * 2 + 1, none⟩ = some (.int .i64 y)) := ⟨r1, c0, c1⟩
          refine wpAnyK_take (i := 0) (v := .pointer (some ⟨w4.heap.size, 1, none⟩)) false rfl (by kernel_rfl) (by kernel_rfl) (by kernel_rfl) (by kernel_rfl) (by kernel_rfl) (fun _ _ _ h => h) (fun _ _ => trivial) (Or.inl ⟨by rfl, by intro w hSw; (try dsimp only at hSw); go_simp⟩) (b := false) (by kernel_rfl) hS0 ?_
          try simp only [Act.put, List.setIfInBounds_toArray, List.set_cons_zero, List.set_cons_succ]
          refine wpAnyK_take (i := 1) (v := .slice ao P.length co) false rfl (by kernel_rfl) (by kernel_rfl) (by kernel_rfl) (by kernel_rfl) (by kernel_rfl) (fun _ _ _ h => h) (fun _ _ => trivial) (Or.inl ⟨by rfl, by intro w hSw; (try dsimp only at hSw); go_simp⟩) (b := false) (by kernel_rfl) hS0 ?_
          try simp only [Act.put, List.setIfInBounds_toArray, List.set_cons_zero, List.set_cons_succ]
          refine wpAnyK_take (i := 2) (v := .slice (some ⟨bL, oL, none⟩) LL.length cL) false rfl (by kernel_rfl) (by kernel_rfl) (by kernel_rfl) (by kernel_rfl) (by kernel_rfl) (fun _ _ _ h => h) (fun _ _ => trivial) (Or.inl ⟨by rfl, by intro w hSw; (try dsimp only at hSw); go_simp⟩) (b := false) (by kernel_rfl) hS0 ?_
          try simp only [Act.put, List.setIfInBounds_toArray, List.set_cons_zero, List.set_cons_succ]
          refine wpAnyK_take (i := 3) (v := .int .i64 (k : Int)) false rfl (by kernel_rfl) (by kernel_rfl) (by kernel_rfl) (by kernel_rfl) (by kernel_rfl) (fun _ _ _ h => h) (fun _ _ => trivial) (Or.inl ⟨by rfl, by intro w hSw; (try dsimp only at hSw); go_simp⟩) (b := false) (by kernel_rfl) hS0 ?_
          try simp only [Act.put, List.setIfInBounds_toArray, List.set_cons_zero, List.set_cons_succ]
          refine wpAnyK_take (i := 4) (v := .pointer (some ⟨bL, oL + k * 2, none⟩)) false rfl (by kernel_rfl) (by kernel_rfl) (by kernel_rfl) (by kernel_rfl) (by kernel_rfl) (fun _ _ _ h => h) (fun _ _ => trivial) (Or.inl ⟨by rfl, by intro w hSw; (try dsimp only at hSw); go_simp⟩) (b := false) (by kernel_rfl) hS0 ?_
          try simp only [Act.put, List.setIfInBounds_toArray, List.set_cons_zero, List.set_cons_succ]
          refine wpAnyK_take (i := 5) (v := .agg #[.int .i64 x, .int .i64 y]) false rfl (by kernel_rfl) (by kernel_rfl) (by kernel_rfl) (by kernel_rfl) (by kernel_rfl) (fun _ _ _ h => h) (fun _ _ => trivial) (Or.inl ⟨by rfl, by intro w hSw; (try dsimp only at hSw); go_simp⟩) (b := false) (by kernel_rfl) hS0 ?_
          try simp only [Act.put, List.setIfInBounds_toArray, List.set_cons_zero, List.set_cons_succ]
          refine wpAnyK_one (i := 6) (by kernel_rfl) rfl (by rfl) (b := false) (by kernel_rfl) (fun K hK => ?_)
          go_simp
          have hlit := edges_lit1 wq.drew x y 37
          have hownA := hownq.drew.alloc (.cells #[.int .i64 x, .int .i64 y] 37)
          have hbd : Below w4.heap.size w4 wq.drew := hbq.drew
          have hbA := hbd.alloc hbd.size (.cells #[.int .i64 x, .int .i64 y] 37)
          refine hK.out _ _ (show ((wq.drew.alloc (.cells #[.int .i64 x, .int .i64 y] 37)).cell? ⟨w4.heap.size, 1, none⟩ = some (.slice ao P.length co) ∧ (wq.drew.alloc (.cells #[.int .i64 x, .int .i64 y] 37)).cell? ⟨bL, oL + k * 2, none⟩ = some (.int .i64 x) ∧ (wq.drew.alloc (.cells #[.int .i64 x, .int .i64 y] 37)).cell? ⟨bL, oL + k * 2 + 1, none⟩ = some (.int .i64 y)) from ⟨cell_alloc hS0.1, cell_alloc hS0.2.1, cell_alloc hS0.2.2⟩) ?_
          try simp only [Act.put, List.setIfInBounds_toArray, List.set_cons_zero, List.set_cons_succ]
          refine wpAnyK_one (i := 7) (by kernel_rfl) rfl (by rfl) (b := false) (by kernel_rfl) (fun K hK => ?_)
          refine wp_app_edges pairsT (.tmp 60) (.tmp 65) rfl (w4.heap.size + 1) (.slice ao P.length co) _ P [(x, y)] rfl hownA rfl hlit (by simp; omega) (by have := blk_lt hBq; simp; omega) ?_
          intro v6 w6 hown6 hg6
          have hP2l : (P ++ [(x, y)]).length ≤ k + 1 := by rw [List.length_append, List.length_singleton]; omega
          obtain ⟨P2, hP2⟩ : ∃ L, P ++ [(x, y)] = L := ⟨_, rfl⟩
          rw [hP2] at hown6 hP2l
          clear hP2
          have hlt6 : ∀ g, (Value.slice ao P.length co).ownBlock = some g → w4.heap.size + 1 ≤ g := fun g e => (hownA.lt g e).1
          have hb6 := hbA.grown hg6 hbA.size (fun g e => by have := hlt6 g e; omega)
          have hS6 : (w6.cell? ⟨w4.heap.size, 1, none⟩ = some (.slice ao P.length co) ∧ w6.cell? ⟨bL, oL + k * 2, none⟩ = some (.int .i64 x) ∧ w6.cell? ⟨bL, oL + k * 2 + 1, none⟩ = some (.int .i64 y)) := ⟨hg6.cell (cell_alloc hS0.1) (fun e => by have h := hlt6 _ e.symm; (try dsimp only at h); omega), hg6.cell (cell_alloc hS0.2.1) (fun e => by have h := hlt6 _ e.symm; (try dsimp only at h); omega), hg6.cell (cell_alloc hS0.2.2) (fun e => by have h := hlt6 _ e.symm; (try dsimp only at h); omega)⟩
          have hB6 := grown_blk hg6 (lit_next' ((Below.refl wq.heap.size wq).drew.alloc (Nat.le_refl _) (.cells #[.int .i64 x, .int .i64 y] 37)) hBq) (fun e => by have h := hlt6 _ e.symm; (try dsimp only at h); omega)
          obtain ⟨a6, c6, hv6⟩ := owns_shape hown6
          subst hv6
          obtain ⟨rr0, rr1⟩ := cells2R hB6
          have ff1 := free_blk (j := 1) hB6
          refine hK.out _ _ hS6 ?_
          try simp only [Act.put, List.setIfInBounds_toArray, List.set_cons_zero, List.set_cons_succ]
          refine wpAnyK_take (i := 8) (v := .pointer (some ⟨w4.heap.size, 1, none⟩)) false rfl (by kernel_rfl) (by kernel_rfl) (by kernel_rfl) (by kernel_rfl) (by kernel_rfl) (fun _ _ _ h => h) (fun _ _ => trivial) (Or.inl ⟨by rfl, by intro w hSw; (try dsimp only at hSw); go_simp⟩) (b := false) (by kernel_rfl) hS6 ?_
          try simp only [Act.put, List.setIfInBounds_toArray, List.set_cons_zero, List.set_cons_succ]
          refine wpAnyK_one (i := 9) (by kernel_rfl) rfl (by rfl) (b := true) (by kernel_rfl) (fun K hK => ?_)
          go_simp
          refine hK.out _ _ trivial (wpAnyK_done (by kernel_rfl) ?_ _)
          have hBs := set1R (v := .slice a6 P2.length c6) hB6
          have hgs : w6.grownBy (w6.setCell ⟨w4.heap.size, 1, none⟩ (.slice a6 P2.length c6)) (some w4.heap.size) := grown_store
          have hbs := hb6.grown hgs hb6.size (fun g e => by have e1 := Option.some.inj e; omega)
          have howns := hown6.kept hgs (by first | exact Classical.em _ | exact .inr (fun e => by have := (hown6.lt _ e).1; omega) | exact .inr (fun e => by have := (hown6.lt _ e.symm).1; omega))
          go_wp2_with fail
          go_roundw
          case rel => exact ⟨k + 1, P2, a6, c6, by omega, by go_num, hP2l, hBs, howns, hbs⟩
          case measure => simp [intOf]; omega
        · obtain rfl : LL.length = k := by omega
          obtain ⟨a8, c8, e8, hi8, hp8⟩ := EdgesAt.of_owns hown (by omega)
          cases e8
          have hWr := hW4.next (hb)
          obtain ⟨g0, g1⟩ := cells2R hBr
          obtain ⟨t0, t1, hef, hbf⟩ := hWr.fin size hi8 (fun p h => by have := hp8 p h; omega)
          have f0 := free_blk (j := 0) hWr.o
          have f1 := free_blk (j := 1) hWr.o
          obtain ⟨r0, r1⟩ := cells2R hWr.o
          go_wp2_with fail
          exact bodyPost_ret (v := .tuple #[.agg #[.int .i64 size, .slice ao P.length co], .int .i64 0]) (by simp [results, Try.results78, go_sem, t0, t1]) rfl ⟨size, ao, co, P, 0, rfl, hef, by omega, (fun p h => by have := hp8 p h; omega), hbf⟩
theorem grown_of_below' {w w' : World} {r : Option Nat} (h : Below w.heap.size w w') : w.grownBy w' r := grown_none (grown_of_below h)
def FRunPost (b : Nat) (w : World) (e : Ending) (w' : World) : Prop := ∃ (z : Int) (a : Option Addr) (cap : Nat) (ys : List E2), e = .returned (.agg #[.int .i64 z, .slice a ys.length cap]) ∧ EdgesAt w' (.slice a ys.length cap) ys ∧ ys.length ≤ 200 ∧ (∀ p, a = some p → w.heap.size ≤ p.block) ∧ DeckAt w' b ∧ w.grownBy w' (some b)
theorem frun_fin {b : Nat} {w wr : World} {z : Int} {a : Option Addr} {cap : Nat} {ys : List E2} (hd : DeckAt wr b) (hg : w.grownBy wr (some b)) (hR : wr.heap[w.heap.size]? = some (.cells #[.int .i64 0, .slice none 0 0] 33 (0, 0))) (hi : EdgesAt wr (.slice a ys.length cap) ys) (hl : ys.length ≤ 200) (ha : ∀ p, a = some p → w.heap.size < p.block) :
    ((wr.setCell ⟨w.heap.size, 0, none⟩ (.int .i64 z)).setCell ⟨w.heap.size, 1, none⟩ (.slice a ys.length cap)).cell? ⟨w.heap.size, 0, none⟩ = some (.int .i64 z) ∧ ((wr.setCell ⟨w.heap.size, 0, none⟩ (.int .i64 z)).setCell ⟨w.heap.size, 1, none⟩ (.slice a ys.length cap)).cell? ⟨w.heap.size, 1, none⟩ = some (.slice a ys.length cap) ∧
    (DeckAt w b → FRunPost b w (.returned (.agg #[.int .i64 z, .slice a ys.length cap])) ((wr.setCell ⟨w.heap.size, 0, none⟩ (.int .i64 z)).setCell ⟨w.heap.size, 1, none⟩ (.slice a ys.length cap))) := by
  have hfin := set_two (u := .int .i64 z) (v := .slice a ys.length cap) hR
  have hg9 : wr.grownBy ((wr.setCell ⟨w.heap.size, 0, none⟩ (.int .i64 z)).setCell ⟨w.heap.size, 1, none⟩ (.slice a ys.length cap)) (some w.heap.size) := grown_trans grown_store grown_store
  refine ⟨cell_blk hfin, cell_blk hfin, fun hdw => ⟨z, a, cap, ys, rfl, hi.grown hg9 (fun g e n c p ep => by cases e; have := ha p (Value.slice.inj ep).1; omega), hl, (fun p h => Nat.le_of_lt (ha p h)), hd.kept hg9 (fun g e => by have e1 := Option.some.inj e; have := hdw.lt; omega), grown_new hg hg9 (fun g e => .inr (by have e1 := Option.some.inj e; omega))⟩⟩
set_option linter.unusedSimpArgs false in
set_option maxRecDepth 100000 in
set_option maxHeartbeats 6400000 in
theorem frun_any (b : Nat) (w : World) (hd : DeckAt w b) :
    Calls Try.prog 37 #[.pointer (some ⟨b, 0, none⟩), .int .i64 7] w (FRunPost b w) := by
  have hbw := hd.lt
  obtain ⟨hR0, hb0⟩ := boxG_new w #[.int .i64 0, .slice none 0 0] 33
  obtain ⟨wA, hwA⟩ : ∃ W : World, W = w.alloc (.cells #[.int .i64 0, .slice none 0 0] 33) := ⟨_, rfl⟩
  rw [← hwA] at hR0 hb0
  have hdA := hd.kept (grown_of_below hb0) (fun g e => by cases e)
  have HWA := Lib.hid hwA
  clear hwA
  go_enter Try.func37, Try.ntmps37
  go_upto_region 1 with fail
  rw [← HWA.out]
  go_wp2_with fail
  refine (mkgraph_any b 7 _ hdA (by omega) (by omega)).mono ?_
  rintro e w1 ⟨n, es, ag, cg, rfl, he1, hv, hn7, hd1, hg1, ho1⟩
  go_wp2_with fail
  refine (next_any b 6 _ hd1 (by omega) (by omega)).mono ?_
  rintro e w2 ⟨x, hx0, hx1, rfl, hd2, hg2⟩
  have he2 := he1.grown hg2 (fun g e n' c' p ep => by
    have e1 := Option.some.inj e
    have h1 := ho1 p (Value.slice.inj ep).1
    have := hb0.size
    omega)
  have hbl := build34_any n ag cg es (1 + x) w2 he2
  have hxw : IntKind.i64.wrap (1 + x) = 1 + x := IntWalk.i64_in _ (by omega)
  have hbx := bldX_len (es := es) (1 + x) hn7
  obtain ⟨⟨z, rs, Cb⟩, hX⟩ : ∃ X, bldX n es (1 + x) = X := ⟨_, rfl⟩
  rw [hX] at hbl hbx
  unfold RGPost at hbl
  dsimp only at hbl hbx
  clear hX
  go_wp2_with fail
  refine hbl.mono ?_
  rintro e w3 ⟨ar, cr, rfl, hir, hor, hb3⟩
  obtain ⟨hB3, hbB⟩ := boxG_new w3 #[.int .i64 z, .slice ar rs.length cr] 33
  obtain ⟨w3b, hw3⟩ : ∃ W : World, W = w3.alloc (.cells #[.int .i64 z, .slice ar rs.length cr] 33) := ⟨_, rfl⟩
  rw [← hw3] at hB3 hbB
  have hb23 := hb3.trans (hbB.mono hb3.size)
  have hd3 := hd2.kept (grown_of_below hb23) (fun g e => by cases e)
  have hir3 := hir.below hbB
  have hgr3 : w.grownBy w3b (some b) := grown_trans (grown_trans (grown_trans (grown_of_below' hb0) hg1) hg2) (grown_of_below' hb23)
  have hz2 : w.heap.size < w2.heap.size := by have := blk_lt hR0; have := hg1.size; have := hg2.size; omega
  have hR3 := grown_blk (grown_trans hg1 (grown_trans hg2 (grown_of_below' hb23))) hR0 (fun e => by have e1 := Option.some.inj e; omega)
  have hz3 := hb3.size
  obtain ⟨B2, hB2⟩ : ∃ B, w3.heap.size = B := ⟨_, rfl⟩
  rw [hB2] at hB3 hz3
  have HW3 := Lib.hid hw3
  clear hw3 hbl hdA hd1 hd2 hg1 hg2 he1 he2 hb3 hbB hb23
  go_upto_region 2 with fail
  rw [← HW3.out]
  try rw [hB2]
  go_wp2_with fail
  refine (next_any b 5 _ hd3 (by omega) (by omega)).mono ?_
  rintro e w4 ⟨q, hq0, hq1, rfl, hd4, hg4⟩
  have hgr4 := grown_trans hgr3 hg4
  have hB4 := grown_blk hg4 hB3 (fun e => by have e1 := Option.some.inj e; omega)
  have hro : ∀ n' c' p, Value.slice ar rs.length cr = .slice (some p) n' c' → ¬ p.block = b := fun n' c' p e => by
    have := hor p (Value.slice.inj e).1
    omega
  have hir4 : EdgesAt w4 (.slice ar rs.length cr) rs := hir3.grown hg4 (fun g e n' c' p ep => by
    have e1 := Option.some.inj e
    have := hro n' c' p ep
    omega)
  obtain ⟨r0, r1⟩ := cells2R hB4
  have hR4 := grown_blk hg4 hR3 (fun e => by have e1 := Option.some.inj e; omega)
  have hW0 : w.heap.size < B2 := by omega
  by_cases hq4 : q = 4
  case neg =>
    have hqd : (q == 4) = false := by simpa using hq4
    obtain ⟨t0, t1, hpost⟩ := frun_fin (z := z) hd4 hgr4 hR4 hir4 (by omega : rs.length ≤ 200) (fun p h => by have := hor p h; omega)
    obtain ⟨z0, z1⟩ := cells2R hR4
    have f0 := free_blk (j := 0) hR4
    have f1 := free_blk (j := 1) hR4
    clear hq4
    go_wp2_with fail
    exact bodyPost_ret (v := .agg #[.int .i64 z, .slice ar rs.length cr]) (by simp [results, Try.results37, go_sem, t0, t1]) rfl (hpost hd)
  case pos =>
    subst hq4
    go_upto_region 3 with fail
    refine wp_region_heldK (k := 9) (S := fun b W => match b with | false => (W.cell? ⟨B2, 0, none⟩ = some (.int .i64 z) ∧ W.cell? ⟨B2, 1, none⟩ = some (.slice ar rs.length cr)) | true => True) (by kernel_rfl) ?_
    have hS0 : (w4.drew.cell? ⟨B2, 0, none⟩ = some (.int .i64 z) ∧ w4.drew.cell? ⟨B2, 1, none⟩ = some (.slice ar rs.length cr)) := ⟨r0, r1⟩
    refine wpAnyK_take (i := 0) (v := .agg #[.int .i64 z, .slice ar rs.length cr]) false rfl (by kernel_rfl) (by kernel_rfl) (by kernel_rfl) (by kernel_rfl) (by kernel_rfl) (fun _ _ _ h => h) (fun _ _ => trivial) (Or.inl ⟨by rfl, by intro w hSw; (try dsimp only at hSw); go_simp⟩) (b := false) (by kernel_rfl) hS0 ?_
    try simp only [Act.put, List.setIfInBounds_toArray, List.set_cons_zero, List.set_cons_succ]
    refine wpAnyK_take (i := 1) (v := .pointer (some ⟨b, 0, none⟩)) false rfl (by kernel_rfl) (by kernel_rfl) (by kernel_rfl) (by kernel_rfl) (by kernel_rfl) (fun _ _ _ h => h) (fun _ _ => trivial) (Or.inl ⟨by rfl, by intro w hSw; (try dsimp only at hSw); go_simp⟩) (b := false) (by kernel_rfl) hS0 ?_
    try simp only [Act.put, List.setIfInBounds_toArray, List.set_cons_zero, List.set_cons_succ]
    refine wpAnyK_take (i := 3) (v := .pointer (some ⟨b, 0, none⟩)) false rfl (by kernel_rfl) (by kernel_rfl) (by kernel_rfl) (by kernel_rfl) (by kernel_rfl) (fun _ _ _ h => h) (fun _ _ => trivial) (Or.inl ⟨by rfl, by intro w hSw; (try dsimp only at hSw); go_simp⟩) (b := false) (by kernel_rfl) hS0 ?_
    try simp only [Act.put, List.setIfInBounds_toArray, List.set_cons_zero, List.set_cons_succ]
    refine wpAnyK_one (i := 2) (by kernel_rfl) rfl (by rfl) (b := false) (by kernel_rfl) (fun K hK => ?_)
    go_simp
    go_at_call 79
    refine (frecords_any b _ (hd4.drew)).mono ?_
    rintro e w5 ⟨us, vu, rfl, hus, hownus, hdw5, hgw5⟩
    have hgr5 : w.grownBy w5 (some b) := grown_trans (grown_trans hgr4 (grown_of_below' (Below.refl w4.heap.size w4).drew)) hgw5
    have hS5 : (w5.cell? ⟨B2, 0, none⟩ = some (.int .i64 z) ∧ w5.cell? ⟨B2, 1, none⟩ = some (.slice ar rs.length cr)) := ⟨hgw5.cell hS0.1 (fun e => by have e1 := Option.some.inj e; (try dsimp only at e1); omega), hgw5.cell hS0.2 (fun e => by have e1 := Option.some.inj e; (try dsimp only at e1); omega)⟩
    obtain ⟨au, cu, hvu⟩ := owns_shape hownus
    subst hvu
    dsimp only
    refine hK.out _ _ hS5 ?_
    try simp only [Act.put, List.setIfInBounds_toArray, List.set_cons_zero, List.set_cons_succ]
    refine wpAnyK_one (i := 4) (by kernel_rfl) rfl (by rfl) (b := false) (by kernel_rfl) (fun K hK => ?_)
    go_simp
    go_at_call 79
    refine (frecords_any b _ (hdw5)).mono ?_
    rintro e w6 ⟨cs, vc, rfl, hcs, howncs, hdw6, hgw6⟩
    have hgr6 := grown_trans hgr5 hgw6
    have hS6 : (w6.cell? ⟨B2, 0, none⟩ = some (.int .i64 z) ∧ w6.cell? ⟨B2, 1, none⟩ = some (.slice ar rs.length cr)) := ⟨hgw6.cell hS5.1 (fun e => by have e1 := Option.some.inj e; (try dsimp only at e1); omega), hgw6.cell hS5.2 (fun e => by have e1 := Option.some.inj e; (try dsimp only at e1); omega)⟩
    obtain ⟨ac, cc, hvc⟩ := owns_shape howncs
    subst hvc
    dsimp only
    refine hK.out _ _ hS6 ?_
    try simp only [Act.put, List.setIfInBounds_toArray, List.set_cons_zero, List.set_cons_succ]
    have hbd4 := hd4.lt
    have hown6 := own_nextZ (w := w4.drew) hownus hd4.lt hgw6
    obtain ⟨_, _, eu, hiu, hpu⟩ := EdgesAt.of_owns hown6 (by omega)
    cases eu
    obtain ⟨_, _, ec, hic, hpc⟩ := EdgesAt.of_owns howncs (by omega)
    cases ec
    have hir6 : EdgesAt w6 (.slice ar rs.length cr) rs := (hir4.grown (grown_trans (grown_of_below' (Below.refl w4.heap.size w4).drew) (grown_trans hgw5 hgw6)) (fun g e n' c' p ep => by cases e; exact hro _ _ _ ep))
    have hpt := patch34_any z ar au ac cr cu cc rs us cs w6 hir6 hiu hic (by omega) (by omega) (by omega)
    refine wpAnyK_one (i := 5) (by kernel_rfl) rfl (by rfl) (b := false) (by kernel_rfl) (fun K hK => ?_)
    go_simp
    go_at_call 78
    refine hpt.mono ?_
    rintro e w7 ⟨z7, a7, c7, ys, C7, rfl, hi7, hl7, hp7, hb7⟩
    have hS7 : (w7.cell? ⟨B2, 0, none⟩ = some (.int .i64 z) ∧ w7.cell? ⟨B2, 1, none⟩ = some (.slice ar rs.length cr)) := ⟨(hb7.cell (p := ⟨B2, 0, none⟩) (cell_lt hS6.1)).trans hS6.1, (hb7.cell (p := ⟨B2, 1, none⟩) (cell_lt hS6.2)).trans hS6.2⟩
    dsimp only
    refine hK.out _ _ hS7 ?_
    try simp only [Act.put, List.setIfInBounds_toArray, List.set_cons_zero, List.set_cons_succ]
    refine wpAnyK_take (i := 6) (v := .tuple #[.agg #[.int .i64 z7, .slice a7 ys.length c7], .int .i64 C7]) false rfl (by kernel_rfl) (by kernel_rfl) (by kernel_rfl) (by kernel_rfl) (by kernel_rfl) (fun _ _ _ h => h) (fun _ _ => trivial) (Or.inl ⟨by rfl, by intro w hSw; (try dsimp only at hSw); go_simp⟩) (b := false) (by kernel_rfl) hS7 ?_
    try simp only [Act.put, List.setIfInBounds_toArray, List.set_cons_zero, List.set_cons_succ]
    refine wpAnyK_take (i := 7) (v := .agg #[.int .i64 z7, .slice a7 ys.length c7]) false rfl (by kernel_rfl) (by kernel_rfl) (by kernel_rfl) (by kernel_rfl) (by kernel_rfl) (fun _ _ _ h => h) (fun _ _ => trivial) (Or.inl ⟨by rfl, by intro w hSw; (try dsimp only at hSw); go_simp⟩) (b := false) (by kernel_rfl) hS7 ?_
    try simp only [Act.put, List.setIfInBounds_toArray, List.set_cons_zero, List.set_cons_succ]
    refine wpAnyK_take (i := 8) (v := .int .i64 C7) true rfl (by kernel_rfl) (by kernel_rfl) (by kernel_rfl) (by kernel_rfl) (by kernel_rfl) (fun _ _ _ h => h) (fun _ _ => trivial) (Or.inl ⟨by rfl, by intro w hSw; (try dsimp only at hSw); go_simp⟩) (b := false) (by kernel_rfl) hS7 ?_
    try simp only [Act.put, List.setIfInBounds_toArray, List.set_cons_zero, List.set_cons_succ]
    have hB7 := lit_next' hb7 (grown_blk hgw6 (grown_blk hgw5 (lit_next' (Below.refl w4.heap.size w4).drew hB4) (fun e => by have e1 := Option.some.inj e; omega)) (fun e => by have e1 := Option.some.inj e; omega))
    obtain ⟨s0, s1⟩ := cells2R hB7
    have ff0 := free_blk (j := 0) hB7
    have ff1 := free_blk (j := 1) hB7
    refine wpAnyK_one (i := 9) (by kernel_rfl) rfl (by rfl) (b := true) (by kernel_rfl) (fun K hK => ?_)
    go_simp
    refine hK.out _ _ trivial (wpAnyK_done (by kernel_rfl) ?_ _)
    have hbs2 := set_two (u := .int .i64 z7) (v := .slice a7 ys.length c7) hB7
    have hgs2 : w7.grownBy ((w7.setCell ⟨B2, 0, none⟩ (.int .i64 z7)).setCell ⟨B2, 1, none⟩ (.slice a7 ys.length c7)) (some B2) := grown_trans grown_store grown_store
    have hgr7 := grown_trans hgr6 (grown_of_below' hb7)
    have hw6s : w.heap.size < w6.heap.size := by have := hgw5.size; have := hgw6.size; have := blk_lt hR4; have : w4.drew.heap.size = w4.heap.size := rfl; omega
    have hd7 := (hdw6.kept (grown_of_below hb7) (fun g e => by cases e)).kept hgs2 (fun g e => by have e1 := Option.some.inj e; omega)
    have hgr8 := grown_new hgr7 hgs2 (fun g e => .inr (by have e1 := Option.some.inj e; omega))
    have hR7 := grown_blk hgs2 (lit_next' hb7 (grown_blk hgw6 (grown_blk hgw5 (lit_next' (Below.refl w4.heap.size w4).drew hR4) (fun e => by have e1 := Option.some.inj e; omega)) (fun e => by have e1 := Option.some.inj e; omega))) (fun e => by have e1 := Option.some.inj e; omega)
    have hi8 := hi7.grown hgs2 (fun g e n' c' p ep => by have e1 := Option.some.inj e; have h1 := hp7 p (Value.slice.inj ep).1; have h2 := cell_lt hS6.1; omega)
    obtain ⟨t0, t1, hpost⟩ := frun_fin (z := z7) hd7 hgr8 hR7 hi8 (by omega) (fun p h => by have := hp7 p h; omega)
    obtain ⟨z0, z1⟩ := cells2R hR7
    obtain ⟨s0', s1'⟩ := cells2R hbs2
    have f0 := free_blk (j := 0) hR7
    have f1 := free_blk (j := 1) hR7
    obtain ⟨w8, hw8⟩ : ∃ W : World, W = ((w7.setCell ⟨B2, 0, none⟩ (.int .i64 z7)).setCell ⟨B2, 1, none⟩ (.slice a7 ys.length c7)) := ⟨_, rfl⟩
    rw [← hw8] at t0 t1 hpost z0 z1 s0' s1' f0 f1 ⊢
    clear hw8
    go_wp2_with fail
    exact bodyPost_ret (v := .agg #[.int .i64 z7, .slice a7 ys.length c7]) (by simp [results, Try.results37, go_sem, t0, t1]) rfl (hpost hd)
end Go.Proofs.Ytdkmdcdoiaelfaa
