/- The contract of the program's graph of a run. -/
import Derived.Test.YtdkmdcdoiaelfaaRunChk
import Derived.Test.YtdkmdcdoiaelfaaMk
import Derived.Deep.DeepCutAuto
namespace Go.Proofs.Ytdkmdcdoiaelfaa
open Go.RowKit Go.BigFrame

theorem gr1_any (x y m : Int) (P : Nat) (w : World) (hP : w.cell? ⟨P, 0, none⟩ = some (.int .i64 m)) :
    Calls Try.prog 99 #[.agg #[.int .i64 x, .int .i64 y], .pointer (some ⟨P, 0, none⟩)] w fun e w' => e = .returned (.bool (decide (m ≤ max x y))) ∧ Below w.heap.size w w' := by
  have hb := (Below.refl w.heap.size w).alloc (Nat.le_refl _) (.cells #[.int .i64 x, .int .i64 y] 37)
  have hP2 := cell_alloc (o := .cells #[.int .i64 x, .int .i64 y] 37) hP
  obtain ⟨B, hB⟩ : ∃ B, decide (m ≤ max x y) = B := ⟨_, rfl⟩
  rw [hB]
  cases B
  all_goals
    go_enter Try.func99, Try.ntmps99
    go_wp2
    go_ret
    exact ⟨rfl, hb⟩
theorem any_drop (p : E2 → Bool) (es : List E2) (k : Nat) (e : E2) (hk : es[k]? = some e) : (es.drop k).any p = (p e || (es.drop (k + 1)).any p) := by
  obtain ⟨hlt, he⟩ := List.getElem?_eq_some_iff.1 hk
  rw [List.drop_eq_getElem_cons hlt, List.any_cons, he]
set_option maxRecDepth 100000 in
set_option maxHeartbeats 1600000 in
theorem ridx_any (m : Int) (P : Nat) (a : Option Addr) (cap : Nat) (rs : List E2) (w : World) (he : EdgesAt w (.slice a rs.length cap) rs) (hP : w.cell? ⟨P, 0, none⟩ = some (.int .i64 m)) :
    Calls Try.prog 132 #[.slice a rs.length cap, .func (.func 99) #[] #[.pointer (some ⟨P, 0, none⟩)]] w fun e w' => ∃ i : Int, e = .returned (.int .i64 i) ∧ decide (0 ≤ i) = rs.any (fun e => decide (m ≤ max e.1 e.2)) ∧ Below w.heap.size w w' := by
  have hl : rs.length ≤ 70368744177664 := by obtain ⟨_, _, _, _, _, h, _⟩ := he; exact h
  obtain ⟨B, hB⟩ : ∃ B, rs.any (fun e => decide (m ≤ max e.1 e.2)) = B := ⟨_, rfl⟩
  rw [hB]
  have HB := Lib.hid hB
  clear hB
  go_enter Try.func132, Try.ntmps132
  go_wp2_with fail
  go_loopw [8] (fun i wr => ∃ k : Nat, k ≤ rs.length ∧ i = .int .i64 k ∧ Hid ((rs.drop k).any (fun e => decide (m ≤ max e.1 e.2)) = B) ∧ Below w.heap.size w wr) (fun i _ => rs.length - (intOf i).toNat)
  case atStart => exact ⟨0, Nat.zero_le _, rfl, HB, Below.refl _ _⟩
  case round =>
    obtain ⟨k, hk, rfl, HR, hb⟩ := hrel
    by_cases hlt : k < rs.length
    · have hlt3 : (k : Int) < rs.length := by omega
      obtain ⟨b, off, x, y, rfl, hxy, -, -, c0, c1⟩ := (he.below hb).at k hlt
      have hd := any_drop (fun e => decide (m ≤ max e.1 e.2)) rs k (x, y) hxy
      rw [HR.out] at hd
      dsimp only at hd
      have hcl := gr1_any x y m P wr ((hb.cell (p := ⟨P, 0, none⟩) (cell_lt hP)).trans hP)
      obtain ⟨D, hD⟩ : ∃ D, decide (m ≤ max x y) = D := ⟨_, rfl⟩
      rw [hD] at hcl hd
      have HD := Lib.hid hd
      clear hd hD hxy
      cases D
      · have HF : Hid ((rs.drop (k + 1)).any (fun e => decide (m ≤ max e.1 e.2)) = B) := (show _ = _ by rw [HD.out]; simp)
        go_wp2_with fail
        refine hcl.mono ?_
        rintro e w2 ⟨rfl, hb2⟩
        go_wp2_with fail
        go_roundw
        case rel => exact ⟨k + 1, by omega, by go_num, HF, hb.trans (hb2.mono hb.size)⟩
        case measure => simp [intOf]; omega
      · have HF : Hid (B = true) := (show _ = _ by rw [HD.out]; simp)
        go_wp2_with fail
        refine hcl.mono ?_
        rintro e w2 ⟨rfl, hb2⟩
        go_wp2_with fail
        go_ret
        exact ⟨(k : Int), rfl, by rw [HF.out]; simp, hb.trans (hb2.mono hb.size)⟩
    · have HF : Hid (B = false) := (show _ = _ by rw [← HR.out, List.drop_of_length_le (by omega)]; rfl)
      go_wp2_with fail
      go_ret
      exact ⟨-1, rfl, by rw [HF.out]; rfl, hb⟩
theorem rcontains_any (m : Int) (P : Nat) (a : Option Addr) (cap : Nat) (rs : List E2) (w : World) (he : EdgesAt w (.slice a rs.length cap) rs) (hP : w.cell? ⟨P, 0, none⟩ = some (.int .i64 m)) :
    Calls Try.prog 98 #[.slice a rs.length cap, .func (.func 99) #[] #[.pointer (some ⟨P, 0, none⟩)]] w fun e w' => e = .returned (.bool (rs.any (fun e => decide (m ≤ max e.1 e.2)))) ∧ Below w.heap.size w w' := by
  have hix := ridx_any m P a cap rs w he hP
  generalize rs.any (fun e => decide (m ≤ max e.1 e.2)) = B at *
  go_enter Try.func98, Try.ntmps98
  go_wp2_with fail
  refine hix.mono ?_
  rintro e w1 ⟨i, rfl, hi, hb⟩
  go_wp2_with fail
  go_ret
  exact ⟨rfl, hb⟩
/-- the boxes of runs.Graph: the run, the number of nodes, the result -/
structure RgW (w : World) (size m : Int) (sl : Value) (wr : World) : Prop where
  r : wr.heap[w.heap.size]? = some (.cells #[.int .i64 size, sl] 33 (0, 0))
  n : wr.heap[w.heap.size + 1]? = some (.cells #[.int .i64 m] 3 (0, 0))
  o : wr.heap[w.heap.size + 1 + 1]? = some (.cells #[.int .i64 0, .slice none 0 0] 27 (0, 0))
  be : Below w.heap.size w wr
section
variable {w wr w' : World} {size m : Int} {sl : Value}
theorem RgW.next (h : RgW w size m sl wr) (hb : Below wr.heap.size wr w') : RgW w size m sl w' := ⟨lit_next' hb h.r, lit_next' hb h.n, lit_next' hb h.o, h.be.trans (hb.mono h.be.size)⟩
theorem RgW.base (h : RgW w size m sl wr) : w.heap.size + 3 ≤ wr.heap.size := blk_lt h.o
theorem RgW.grown {r : Option Nat} (h : RgW w size m sl wr) (hg : wr.grownBy w' r) (hr : ∀ k, r = some k → w.heap.size + 3 ≤ k) : RgW w size m sl w' :=
  ⟨grown_blk hg h.r (fun e => by have := hr _ e.symm; omega), grown_blk hg h.n (fun e => by have := hr _ e.symm; omega), grown_blk hg h.o (fun e => by have := hr _ e.symm; omega), h.be.grown hg h.be.size (fun k e => by have := hr k e; omega)⟩
theorem RgW.start (w : World) (size m : Int) (sl : Value) : RgW w size m sl (((w.alloc (.cells #[.int .i64 size, sl] 33)).alloc (.cells #[.int .i64 m] 3)).alloc (.cells #[.int .i64 0, .slice none 0 0] 27)) := by
  have h1 := heap_alloc_new w (.cells #[.int .i64 size, sl] 33)
  have h2 := heap_alloc_new (w.alloc (.cells #[.int .i64 size, sl] 33)) (.cells #[.int .i64 m] 3)
  have h3 := heap_alloc_new ((w.alloc (.cells #[.int .i64 size, sl] 33)).alloc (.cells #[.int .i64 m] 3)) (.cells #[.int .i64 0, .slice none 0 0] 27)
  have z1 : (w.alloc (.cells #[.int .i64 size, sl] 33)).heap.size = w.heap.size + 1 := by simp
  have z2 : ((w.alloc (.cells #[.int .i64 size, sl] 33)).alloc (.cells #[.int .i64 m] 3)).heap.size = w.heap.size + 1 + 1 := by simp
  rw [z1] at h2
  rw [z2] at h3
  refine ⟨(Below.heap_alloc _ _ _ (by rw [z2]; omega)).trans ((Below.heap_alloc _ _ _ (by rw [z1]; omega)).trans h1), (Below.heap_alloc _ _ _ (by rw [z2]; omega)).trans h2, h3, (((Below.refl _ _).alloc (Nat.le_refl _) _).alloc (by rw [z1]; omega) _).alloc (by rw [z2]; omega) _⟩
/-- the result is stored -/
theorem RgW.fin (h : RgW w size m sl wr) (N : Int) {a : Option Addr} {cap : Nat} {ys : List E2} (he : EdgesAt wr (.slice a ys.length cap) ys) (ha : ∀ p, a = some p → w.heap.size + 3 ≤ p.block) :
    ((wr.setCell ⟨w.heap.size + 1 + 1, 0, none⟩ (.int .i64 N)).setCell ⟨w.heap.size + 1 + 1, 1, none⟩ (.slice a ys.length cap)).cell? ⟨w.heap.size + 1 + 1, 0, none⟩ = some (.int .i64 N) ∧
    ((wr.setCell ⟨w.heap.size + 1 + 1, 0, none⟩ (.int .i64 N)).setCell ⟨w.heap.size + 1 + 1, 1, none⟩ (.slice a ys.length cap)).cell? ⟨w.heap.size + 1 + 1, 1, none⟩ = some (.slice a ys.length cap) ∧
    EdgesAt ((wr.setCell ⟨w.heap.size + 1 + 1, 0, none⟩ (.int .i64 N)).setCell ⟨w.heap.size + 1 + 1, 1, none⟩ (.slice a ys.length cap)) (.slice a ys.length cap) ys ∧ Below w.heap.size w ((wr.setCell ⟨w.heap.size + 1 + 1, 0, none⟩ (.int .i64 N)).setCell ⟨w.heap.size + 1 + 1, 1, none⟩ (.slice a ys.length cap)) := by
  have hfin := set_two (u := .int .i64 N) (v := .slice a ys.length cap) h.o
  have hg9 : wr.grownBy ((wr.setCell ⟨w.heap.size + 1 + 1, 0, none⟩ (.int .i64 N)).setCell ⟨w.heap.size + 1 + 1, 1, none⟩ (.slice a ys.length cap)) (some (w.heap.size + 1 + 1)) := grown_trans grown_store grown_store
  exact ⟨cell_blk hfin, cell_blk hfin, he.grown hg9 (fun g e n c p ep => by cases e; have := ha p (Value.slice.inj ep).1; omega), h.be.grown hg9 h.be.size (fun k hk => by cases hk; omega)⟩
end
theorem cells2R {w : World} {g T : Nat} {x y : Value} (h : w.heap[g]? = some (.cells #[x, y] T (0, 0))) : w.cell? ⟨g, 0, none⟩ = some x ∧ w.cell? ⟨g, 1, none⟩ = some y := ⟨cell_blk h, cell_blk h⟩
theorem cells1R {w : World} {g T : Nat} {x : Value} (h : w.heap[g]? = some (.cells #[x] T (0, 0))) : w.cell? ⟨g, 0, none⟩ = some x := cell_blk h
theorem set1R {w : World} {g T : Nat} {x y v : Value} (h : w.heap[g]? = some (.cells #[x, y] T (0, 0))) : (w.setCell ⟨g, 1, none⟩ v).heap[g]? = some (.cells #[x, v] T (0, 0)) := by rw [heap_setCell_same _ _ _ _ _ _ h]; simp
theorem edges_nilR (w : World) : EdgesAt w (.slice none 0 0) [] := ⟨none, 0, rfl, Nat.le_refl _, fun _ => rfl, by simp, fun i e h => by simp at h⟩
def RGPost (w : World) (x : Int × List E2 × Int) (e : Ending) (w' : World) : Prop := ∃ a cap, e = .returned (.tuple #[.agg #[.int .i64 x.1, .slice a x.2.1.length cap], .int .i64 x.2.2]) ∧ EdgesAt w' (.slice a x.2.1.length cap) x.2.1 ∧ (∀ p, a = some p → w.heap.size ≤ p.block) ∧ Below w.heap.size w w'
set_option maxRecDepth 100000 in
set_option maxHeartbeats 6400000 in
theorem rungraph_any (size m : Int) (a : Option Addr) (cap : Nat) (rs : List E2) (w : World) (he : EdgesAt w (.slice a rs.length cap) rs) (hl : rs.length ≤ 100000) :
    Calls Try.prog 55 #[.agg #[.int .i64 size, .slice a rs.length cap], .int .i64 m] w (RGPost w (graphR size m rs)) := by
  have h0 := RgW.start w size m (.slice a rs.length cap)
  obtain ⟨wA, hwA⟩ : ∃ W : World, W = ((w.alloc (.cells #[.int .i64 size, .slice a rs.length cap] 33)).alloc (.cells #[.int .i64 m] 3)).alloc (.cells #[.int .i64 0, .slice none 0 0] 27) := ⟨_, rfl⟩
  rw [← hwA] at h0
  have HWA := Lib.hid hwA
  clear hwA
  have hck := rncheck_any size a cap rs wA (he.below h0.be)
  unfold RGPost
  obtain ⟨⟨RN, RE, RC⟩, hRES⟩ : ∃ F, graphR size m rs = F := ⟨_, rfl⟩
  rw [hRES]
  dsimp only
  obtain ⟨C, hC⟩ : ∃ C, chkR size rs = C := ⟨_, rfl⟩
  unfold graphR at hRES
  rw [hC] at hck hRES
  have HRES := Lib.hid hRES
  clear hRES
  obtain ⟨k0, k1⟩ := (show wA.cell? ⟨w.heap.size, 0, none⟩ = some (.int .i64 size) ∧ wA.cell? ⟨w.heap.size, 1, none⟩ = some (.slice a rs.length cap) from ⟨cell_blk h0.r, cell_blk h0.r⟩)
  go_enter Try.func55, Try.ntmps55
  go_wp2_with (rw [← HWA.out])
  refine hck.mono ?_
  rintro e w1 ⟨rfl, hb1⟩
  have h1 := h0.next hb1
  clear k0 k1 hck h0 hb1
  by_cases hz : C = 0
  case neg =>
    have hr := HRES.out
    rw [if_pos hz] at hr
    obtain ⟨rfl, h2⟩ := Prod.mk.inj hr
    obtain ⟨rfl, rfl⟩ := Prod.mk.inj h2
    clear hr h2 HRES
    have d1 : (C != 0) = true := by simpa using hz
    obtain ⟨t0, t1, hef, hbf⟩ := h1.fin (a := none) (cap := 0) (ys := []) 0 (edges_nilR _) (fun p h => by cases h)
    have f0 := free_blk (j := 0) h1.o
    obtain ⟨r0, r1⟩ := cells2R h1.o
    have f1 := free_blk (j := 1) h1.o
    clear hz hC
    dsimp only [List.length_nil] at t0 t1 hef hbf
    go_wp2_with fail
    exact bodyPost_ret (v := .tuple #[.agg #[.int .i64 0, .slice none 0 0], .int .i64 C]) (by simp [results, Try.results55, go_sem, t0, t1]) rfl ⟨none, 0, rfl, hef, (fun p h => by cases h), hbf⟩
  subst hz
  have hr := HRES.out
  rw [if_neg (by simp)] at hr
  have HRES := Lib.hid hr
  clear hr
  have hsort : Hid (rs.Pairwise fun a b => beforeB a b = true) := (show rs.Pairwise _ by
    unfold chkR at hC
    split at hC
    · cases hC
    · exact (chkRec_of rs none hC).2.1)
  clear hC
  have n0 := cells1R h1.n
  by_cases hm : m < 0 ∨ 64 < m
  · have hr := HRES.out
    rw [if_pos hm] at hr
    obtain ⟨rfl, h2⟩ := Prod.mk.inj hr
    obtain ⟨rfl, rfl⟩ := Prod.mk.inj h2
    clear hr h2 HRES
    obtain ⟨t0, t1, hef, hbf⟩ := h1.fin (a := none) (cap := 0) (ys := []) 0 (edges_nilR _) (fun p h => by cases h)
    have f0 := free_blk (j := 0) h1.o
    obtain ⟨r0, r1⟩ := cells2R h1.o
    have f1 := free_blk (j := 1) h1.o
    dsimp only [List.length_nil] at t0 t1 hef hbf
    by_cases hm0 : m < 0
    · have d1 : decide (m < 0) = true := by simpa using hm0
      clear hm hm0
      go_wp2_with fail
      exact bodyPost_ret (v := .tuple #[.agg #[.int .i64 0, .slice none 0 0], .int .i64 1]) (by simp [results, Try.results55, go_sem, t0, t1]) rfl ⟨none, 0, rfl, hef, (fun p h => by cases h), hbf⟩
    · have d1 : decide (m < 0) = false := by simpa using hm0
      have d2 : decide (64 < m) = true := by simp; omega
      clear hm hm0
      go_wp2_with fail
      exact bodyPost_ret (v := .tuple #[.agg #[.int .i64 0, .slice none 0 0], .int .i64 1]) (by simp [results, Try.results55, go_sem, t0, t1]) rfl ⟨none, 0, rfl, hef, (fun p h => by cases h), hbf⟩
  have hr := HRES.out
  rw [if_neg hm] at hr
  have d1 : decide (m < 0) = false := by simp; omega
  have d2 : decide (64 < m) = false := by simp; omega
  have hmm : 0 ≤ m ∧ m ≤ 64 := by omega
  clear hm
  have hco := rcontains_any m (w.heap.size + 1) a cap rs w1 (he.below h1.be) n0
  obtain ⟨B, hB⟩ : ∃ B, rs.any (fun e => decide (m ≤ max e.1 e.2)) = B := ⟨_, rfl⟩
  rw [hB] at hco hr
  have HBB := Lib.hid hB
  have HRES := Lib.hid hr
  clear hr
  clear hB
  obtain ⟨k0, k1⟩ := (show w1.cell? ⟨w.heap.size, 0, none⟩ = some (.int .i64 size) ∧ w1.cell? ⟨w.heap.size, 1, none⟩ = some (.slice a rs.length cap) from ⟨cell_blk h1.r, cell_blk h1.r⟩)
  cases B
  case true =>
    have hr := HRES.out
    rw [if_pos rfl] at hr
    obtain ⟨rfl, h2⟩ := Prod.mk.inj hr
    obtain ⟨rfl, rfl⟩ := Prod.mk.inj h2
    clear hr h2 HRES
    go_wp2_with fail
    refine hco.mono ?_
    rintro e w2 ⟨rfl, hb2⟩
    have h2 := h1.next hb2
    obtain ⟨t0, t1, hef, hbf⟩ := h2.fin (a := none) (cap := 0) (ys := []) 0 (edges_nilR _) (fun p h => by cases h)
    have f0 := free_blk (j := 0) h2.o
    obtain ⟨r0, r1⟩ := cells2R h2.o
    have f1 := free_blk (j := 1) h2.o
    dsimp only [List.length_nil] at t0 t1 hef hbf
    go_wp2_with fail
    exact bodyPost_ret (v := .tuple #[.agg #[.int .i64 0, .slice none 0 0], .int .i64 6]) (by simp [results, Try.results55, go_sem, t0, t1]) rfl ⟨none, 0, rfl, hef, (fun p h => by cases h), hbf⟩
  case false =>
  have hr := HRES.out
  rw [if_neg (by simp)] at hr
  obtain ⟨F, hF⟩ : ∃ F : E2 → Bool, (fun e : E2 => decide (e.1 < e.2)) = F := ⟨_, rfl⟩
  rw [hF] at hr
  have HFF : Hid (∀ x y : Int, F (x, y) = decide (x < y)) := (show ∀ x y : Int, _ from fun x y => by rw [← hF])
  clear hF
  obtain ⟨D, hD⟩ : ∃ D, rs.any (fun e => !rs.contains (e.2, e.1)) = D := ⟨_, rfl⟩
  rw [hD] at hr
  have HD := Lib.hid hD
  have HRES := Lib.hid hr
  clear hD hr
  go_wp2_with fail
  refine hco.mono ?_
  rintro e w2 ⟨rfl, hb2⟩
  have h2 := h1.next hb2
  have n2 := cells1R h2.n
  obtain ⟨hQQ, hQb⟩ := (show (w2.alloc (.cells #[.int .i64 m, .slice none 0 0] 27)).heap[w2.heap.size]? = some (.cells #[.int .i64 m, .slice none 0 0] 27 (0, 0)) ∧ Below w2.heap.size w2 (w2.alloc (.cells #[.int .i64 m, .slice none 0 0] 27)) from ⟨heap_alloc_new _ _, (Below.refl _ _).alloc (Nat.le_refl _) _⟩)
  have h3 := h2.next hQb
  have hQ3 : w.heap.size + 3 ≤ w2.heap.size := h2.base
  obtain ⟨w3, hw3⟩ : ∃ W : World, W = w2.alloc (.cells #[.int .i64 m, .slice none 0 0] 27) := ⟨_, rfl⟩
  obtain ⟨Q, hQ⟩ : ∃ Q, w2.heap.size = Q := ⟨_, rfl⟩
  rw [← hw3] at hQQ h3
  rw [hQ] at hQQ hQ3
  have HW3 := Lib.hid hw3
  have HQ := Lib.hid hQ
  clear hw3 hQ hQb h1 hb2 hco n0 k0 k1 h2
  go_upto_region 9 with fail
  rw [← HW3.out, HQ.out]
  obtain ⟨k0, k1⟩ := (show w3.cell? ⟨w.heap.size, 0, none⟩ = some (.int .i64 size) ∧ w3.cell? ⟨w.heap.size, 1, none⟩ = some (.slice a rs.length cap) from ⟨cell_blk h3.r, cell_blk h3.r⟩)
  clear n2
  go_wp2_with fail
  clear k0 k1
  have hw3 : Q < w3.heap.size := blk_lt hQQ
  go_loopw [35] (fun i wr => ∃ k : Nat, k ≤ rs.length ∧ i = .int .i64 k ∧ Hid ((rs.drop k).any (fun e => !rs.contains (e.2, e.1)) = D) ∧ RgW w size m (.slice a rs.length cap) wr ∧ ∃ (ao : Option Addr) (co : Nat) (P : List E2), Hid (P = (rs.take k).filter F) ∧ P.length ≤ k ∧ wr.heap[Q]? = some (.cells #[.int .i64 m, .slice ao P.length co] 27 (0, 0)) ∧ wr.ownsRow w3.heap.size 73 2 (.slice ao P.length co) P.length (flatE P) ∧ w3.grownBy wr (some Q)) (fun i _ => rs.length - (intOf i).toNat)
  case atStart => exact ⟨0, Nat.zero_le _, rfl, HD, h3, none, 0, [], (show _ = _ by simp), Nat.le_refl _, hQQ, World.ownsRow_nil _ _ _ _, grown_none (grown_of_below (Below.refl _ _))⟩
  case round =>
    clear h3 hQQ
    obtain ⟨k, hk, rfl, HR, hW, ao, co, P, HP, hPk, hQQ, hown, hgr⟩ := hrel
    by_cases hlt : k < rs.length
    · have hlt3 : (k : Int) < rs.length := by omega
      obtain ⟨b, off, x, y, rfl, hxy, -, -, c0, c1⟩ := (he.below hW.be).at k hlt
      have hd := any_drop (fun e => !rs.contains (e.2, e.1)) rs k (x, y) hxy
      rw [HR.out] at hd
      dsimp only at hd
      have htk : (rs.take (k + 1)).filter F = P ++ (if F (x, y) = true then [(x, y)] else []) := by
        rw [take_at _ _ _ hxy, List.filter_append, ← HP.out]
        congr 1
        cases hf : F (x, y) <;> simp [hf]
      rw [HFF.out] at htk
      have HTK := Lib.hid htk
      have HDD := Lib.hid hd
      obtain ⟨hXX, hXb⟩ := box_pair wr x y 37
      have hWX := hW.next hXb
      have hQX := lit_next' hXb hQQ
      have hownX := hown.kept (grown_of_below hXb) (Classical.em _)
      have hgX := grown_trans hgr (grown_none (grown_of_below hXb))
      obtain ⟨wX, hwX⟩ : ∃ W : World, W = wr.alloc (.cells #[.int .i64 x, .int .i64 y] 37) := ⟨_, rfl⟩
      obtain ⟨X, hX⟩ : ∃ X, wr.heap.size = X := ⟨_, rfl⟩
      rw [← hwX] at hXX hWX hQX hownX hgX
      rw [hX] at hXX
      have HWX := Lib.hid hwX
      have HX := Lib.hid hX
      clear hwX hX hXb hW hQQ hown hgr hd htk hxy
      obtain ⟨x0, x1⟩ := cells2R hXX
      obtain ⟨k0, k1⟩ := (show wX.cell? ⟨w.heap.size, 0, none⟩ = some (.int .i64 size) ∧ wX.cell? ⟨w.heap.size, 1, none⟩ = some (.slice (some ⟨b, off, none⟩) rs.length cap) from ⟨cell_blk hWX.r, cell_blk hWX.r⟩)
      have hbs := rbsearch_any rs (y, x) (some ⟨b, off, none⟩) cap wX (he.below hWX.be) hsort.out hl
      go_upto_region 12 with fail
      rw [← HWX.out, HX.out]
      go_wp2_with fail
      refine hbs.mono ?_
      rintro e w5 ⟨i, bb, rfl, -, -, hbb, hb5⟩
      have hW5 := hWX.next hb5
      have hQ5 := lit_next' hb5 hQX
      have hX5 := lit_next' hb5 hXX
      have hown5 := hownX.kept (grown_of_below hb5) (Classical.em _)
      have hg5 := grown_trans hgX (grown_none (grown_of_below hb5))
      clear hbs hWX hQX hXX hownX hgX hb5 x0 x1 k0 k1 c0 c1
      obtain ⟨x0, x1⟩ := cells2R hX5
      by_cases hin : (y, x) ∈ rs
      · have hb1 : bb = true := by rw [hbb]; simpa using hin
        have HD2 : Hid ((rs.drop (k + 1)).any (fun e => !rs.contains (e.2, e.1)) = D) := (show _ = _ by rw [HDD.out]; simp [hin])
        subst hb1
        clear hbb hin HDD
        by_cases hxy : x < y
        · have d3 : decide (x < y) = true := by simpa using hxy
          have HT2 : Hid (P ++ [(x, y)] = (rs.take (k + 1)).filter F) := (show _ = _ by rw [HTK.out, d3]; simp)
          obtain ⟨q0, q1⟩ := cells2R hQ5
          have hlx := edges_lit1 w5 x y 73
          have hownA := hown5.alloc (.cells #[.int .i64 x, .int .i64 y] 73)
          have hal : Below w5.heap.size w5 (w5.alloc (.cells #[.int .i64 x, .int .i64 y] 73)) := (Below.refl _ _).alloc (Nat.le_refl _) _
          have hszA : w3.heap.size ≤ (w5.alloc (.cells #[.int .i64 x, .int .i64 y] 73)).heap.size := by have := hg5.size; have := hal.size; omega
          have hWA := hW5.next hal
          have hQA := lit_next' hal hQ5
          have hgA := grown_trans hg5 (grown_none (grown_of_below hal))
          have hQW : ∀ w6 : World, (w5.alloc (.cells #[.int .i64 x, .int .i64 y] 73)).grownBy w6 (Value.slice ao P.length co).ownBlock → w6.heap[Q]? = some (.cells #[.int .i64 m, .slice ao P.length co] 27 (0, 0)) := fun w6 hg => grown_blk hg hQA (fun e => by have := (hownA.lt _ e.symm).1; omega)
          clear hxy HTK HP
          go_wp2_with (at_builtin; refine wpList_app_edges edgesT rfl _ _ rfl w3.heap.size (.slice ao P.length co) _ P [(x, y)] rfl ?_ rfl ?_ ?_ ?_ ?_)
          case refine_1 => exact hownA
          case refine_2 => exact hlx
          case refine_3 => simp; omega
          case refine_4 => exact hszA
          intro v6 w6 hown6 hg6
          have hpl : (P ++ [(x, y)]).length = P.length + 1 := by simp
          have hQ6 := hQW w6 hg6
          have f1 := free_blk (j := 1) hQ6
          clear q0 q1
          obtain ⟨q0, q1⟩ := cells2R hQ6
          obtain ⟨a6, c6, hv6⟩ := owns_shape hown6
          subst hv6
          go_wp2_with fail
          have hW6 := hWA.grown hg6 (fun j e => by have := (hownA.lt j e).1; omega)
          have hst : w6.grownBy (w6.setCell ⟨Q, 1, none⟩ (.slice a6 (P.length + 1) c6)) (some Q) := grown_store
          have hW7 := hW6.grown hst (fun j e => by cases e; omega)
          have hQ7 := set1R (v := .slice a6 (P.length + 1) c6) hQ6
          have hown7 := hown6.kept hst (by
            rcases Classical.em ((Value.slice a6 (P.length + 1) c6).ownBlock = none) with e | e
            · exact .inl e
            · exact .inr fun e2 => by have := (hown6.lt _ e2).1; omega)
          have hg7 := grown_trans (grown_new hgA hg6 (fun j e => .inr ((hownA.lt j e).1))) hst
          clear hW6 hQ6 hst hown6 hg6 hWA hQA hgA hQW hal hownA q0 q1 f1
          go_roundw
          case rel => exact ⟨k + 1, by omega, by go_num, HD2, hW7, a6, c6, P ++ [(x, y)], HT2, (by rw [hpl]; omega), (by rw [hpl]; exact hQ7), (by rw [hpl]; exact hown7), hg7⟩
          case measure => simp [intOf]; omega
        · have d3 : decide (x < y) = false := by simpa using hxy
          have HT2 : Hid (P = (rs.take (k + 1)).filter F) := (show _ = _ by rw [HTK.out, d3]; simp)
          clear hxy HTK HP
          go_wp2_with fail
          go_roundw
          case rel => exact ⟨k + 1, by omega, by go_num, HD2, hW5, ao, co, P, HT2, by omega, hQ5, hown5, hg5⟩
          case measure => simp [intOf]; omega
      · have hb1 : bb = false := by rw [hbb]; simpa using hin
        have hD1 : D = true := by rw [HDD.out]; simp [hin]
        have hr := HRES.out
        rw [if_pos hD1] at hr
        obtain ⟨rfl, h2⟩ := Prod.mk.inj hr
        obtain ⟨rfl, rfl⟩ := Prod.mk.inj h2
        subst hb1
        clear hr h2 HRES hD1 hbb hin HDD
        obtain ⟨t0, t1, hef, hbf⟩ := hW5.fin (a := none) (cap := 0) (ys := []) 0 (edges_nilR _) (fun p h => by cases h)
        have f0 := free_blk (j := 0) hW5.o
        obtain ⟨r0, r1⟩ := cells2R hW5.o
        have f1 := free_blk (j := 1) hW5.o
        dsimp only [List.length_nil] at t0 t1 hef hbf
        go_wp2_with fail
        exact bodyPost_ret (v := .tuple #[.agg #[.int .i64 0, .slice none 0 0], .int .i64 4]) (by simp [results, Try.results55, go_sem, t0, t1]) rfl ⟨none, 0, rfl, hef, (fun p h => by cases h), hbf⟩
    · have hkl : k = rs.length := by omega
      have hD1 : D = false := by rw [← HR.out, hkl, List.drop_length]; rfl
      have hr := HRES.out
      rw [hD1, if_neg (by simp)] at hr
      have hPf : P = rs.filter F := by rw [HP.out, hkl, List.take_length]
      rw [← hPf] at hr
      obtain ⟨rfl, h2⟩ := Prod.mk.inj hr
      obtain ⟨rfl, rfl⟩ := Prod.mk.inj h2
      clear hr h2 HRES hPf HP
      obtain ⟨a6, c6, e6, hiP, hap⟩ := EdgesAt.of_owns hown (by omega)
      cases e6
      obtain ⟨t0, t1, hef, hbf⟩ := hW.fin m hiP (fun p h => by have := hap p h; omega)
      have f0 := free_blk (j := 0) hW.o
      obtain ⟨r0, r1⟩ := cells2R hW.o
      have f1 := free_blk (j := 1) hW.o
      obtain ⟨q0, q1⟩ := cells2R hQQ
      go_wp2_with fail
      exact bodyPost_ret (v := .tuple #[.agg #[.int .i64 m, .slice ao P.length co], .int .i64 0]) (by simp [results, Try.results55, go_sem, t0, t1]) rfl ⟨ao, co, rfl, hef, (fun p h => by have := hap p h; omega), hbf⟩
end Go.Proofs.Ytdkmdcdoiaelfaa
