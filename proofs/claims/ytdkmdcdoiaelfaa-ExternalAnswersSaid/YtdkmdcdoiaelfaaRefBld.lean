/- The contracts of the reference's sorted and Build: the run of a graph. -/
import Derived.Test.YtdkmdcdoiaelfaaRefRun
import Derived.Deep.RegionHeld3
import Derived.Deep.DeepCutAuto
namespace Go.Proofs.Ytdkmdcdoiaelfaa
open Go.RowKit Go.BigFrame

/-- records in order, each once -/
def ofR (rs : List E2) : List E2 := rs.foldl insE []
theorem foldR_asc (rs : List E2) : ∀ acc : List E2, acc.Pairwise (fun a b => beforeB a b = true) → (rs.foldl insE acc).Pairwise (fun a b => beforeB a b = true) := by
  induction rs with
  | nil => intro acc h; exact h
  | cons r rs ih => intro acc h; exact ih _ (insE_sorted acc r h)
theorem foldR_mem (rs : List E2) (x : E2) : ∀ acc : List E2, x ∈ rs.foldl insE acc ↔ x ∈ acc ∨ x ∈ rs := by
  induction rs with
  | nil => intro acc; simp
  | cons r rs ih =>
    intro acc
    rw [List.foldl_cons, ih, insE_mem, List.mem_cons, or_assoc]
theorem ofR_len (rs : List E2) : (ofR rs).length ≤ rs.length := by
  unfold ofR
  have : ∀ acc : List E2, (rs.foldl insE acc).length ≤ acc.length + rs.length := by
    induction rs with
    | nil => intro acc; simp
    | cons r rs ih =>
      intro acc
      rw [List.foldl_cons]
      have h1 := ih (insE acc r)
      have h2 := insE_length acc r
      rw [List.length_cons]; omega
  simpa using this []
theorem ofR_snoc (rs : List E2) (x : E2) : ofR (rs ++ [x]) = insE (ofR rs) x := by simp [ofR, List.foldl_append]
/-- both directions of the edges -/
def dirR (es : List E2) : List E2 := es.flatMap fun e => [(e.1, e.2), (e.2, e.1)]
theorem dirR_snoc (es : List E2) (x y : Int) : dirR (es ++ [(x, y)]) = dirR es ++ [(x, y), (y, x)] := by simp [dirR]
theorem dirR_len (es : List E2) : (dirR es).length = es.length * 2 := by
  unfold dirR
  induction es with
  | nil => rfl
  | cons e es ih => rw [List.flatMap_cons, List.length_append, ih, List.length_cons]; simp; omega
theorem ofR_rec {n : Nat} {es : List E2} (hv : Valid n es) : ofR (dirR es) = recN es n := by
  refine order_one _ _ (foldR_asc _ [] List.Pairwise.nil) (recN_asc es n) fun x => ?_
  unfold ofR
  rw [foldR_mem, recN_mem hv]
  unfold dirR
  rw [List.mem_flatMap]
  obtain ⟨a, b⟩ := x
  constructor
  · rintro (h | ⟨e, he, h⟩)
    · cases h
    · rcases List.mem_cons.1 h with h | h
      · left; rw [h]; exact he
      · rw [List.mem_singleton] at h
        right
        have h1 := congrArg Prod.fst h
        have h2 := congrArg Prod.snd h
        dsimp only at h1 h2 ⊢
        rw [h1, h2]; exact he
  · rintro (h | h)
    · exact .inr ⟨_, h, by simp⟩
    · exact .inr ⟨_, h, by simp⟩
set_option maxRecDepth 100000 in
set_option maxHeartbeats 1600000 in
theorem sorted34_any (a : Option Addr) (cap : Nat) (rs : List E2) (w : World) (he : EdgesAt w (.slice a rs.length cap) rs) (hl : rs.length ≤ 100000) :
    Calls Try.prog 54 #[.slice a rs.length cap] w fun e w' => ∃ a' cap', e = .returned (.slice a' (ofR rs).length cap') ∧ EdgesAt w' (.slice a' (ofR rs).length cap') (ofR rs) ∧ Below w.heap.size w w' ∧ ∀ p, a' = some p → w.heap.size ≤ p.block := by
  go_enter Try.func54, Try.ntmps54
  go_wp2_with fail
  go_loopw [3, 4] (fun vo vi wr => ∃ (k : Nat) (ao : Option Addr) (co : Nat) (P : List E2), k ≤ rs.length ∧ vi = .int .i64 k ∧ vo = .slice ao P.length co ∧ Hid (P = ofR (rs.take k)) ∧ P.length ≤ k ∧ EdgesAt wr (.slice ao P.length co) P ∧ (∀ p, ao = some p → w.heap.size ≤ p.block) ∧ Below w.heap.size w wr) (fun _ vi _ => rs.length - (intOf vi).toNat)
  case atStart => exact ⟨0, none, 0, [], Nat.zero_le _, rfl, rfl, (show _ = _ from rfl), Nat.le_refl _, edges_nilR _, (fun p h => by cases h), Below.refl _ _⟩
  case round =>
    obtain ⟨k, ao, co, P, hk, rfl, rfl, HP, hPk, hiP, hap, hb⟩ := hrel
    by_cases hlt : k < rs.length
    · have hlt3 : (k : Int) < rs.length := by omega
      obtain ⟨b, off, x, y, rfl, hxy, -, -, c0, c1⟩ := (he.below hb).at k hlt
      have hpu := put34_any ao co P x y wr hiP (by omega)
      have HP2 : Hid (insE P (x, y) = ofR (rs.take (k + 1))) := (show _ = _ by rw [take_at _ _ _ hxy, ofR_snoc, ← HP.out])
      have hP2 := insE_length P (x, y)
      generalize insE P (x, y) = P2 at *
      clear hxy HP
      go_wp2_with fail
      refine hpu.mono ?_
      rintro e w5 ⟨a5, c5, rfl, h5a, h5b, h5c⟩
      have hn5 : ∀ p, a5 = some p → w.heap.size ≤ p.block := fun p hp => by
        rcases h5c p hp with h | h
        · have := hb.size; omega
        · exact hap p h
      go_wp2_with fail
      go_roundw
      case rel => exact ⟨k + 1, a5, c5, P2, by omega, by go_num, rfl, HP2, by omega, h5a, hn5, hb.trans (h5b.mono hb.size)⟩
      case measure => simp [intOf]; omega
    · obtain rfl : k = rs.length := by omega
      have hPf : P = ofR rs := by rw [HP.out, List.take_length]
      subst hPf
      go_wp2_with fail
      go_ret
      exact ⟨ao, co, rfl, hiP, hb, hap⟩
theorem edges_lit2 (w : World) (u v x y : Int) (T : TypeId) : EdgesAt (w.alloc (.cells #[.int .i64 u, .int .i64 v, .int .i64 x, .int .i64 y] T)) (.slice (some ⟨w.heap.size, 0, none⟩) 2 2) [(u, v), (x, y)] := by
  refine ⟨_, 2, rfl, by simp, (fun h => by cases h), by simp, fun i e hi => ?_⟩
  have h0 : i < 2 := by have := (List.getElem?_eq_some_iff.1 hi).1; simpa using this
  have hc := heap_alloc_new w (.cells #[.int .i64 u, .int .i64 v, .int .i64 x, .int .i64 y] T)
  rcases (show i = 0 ∨ i = 1 by omega) with rfl | rfl
  · simp at hi
    subst hi
    exact ⟨w.heap.size, 0, rfl, by rw [cell_blk hc]; rfl, by rw [cell_blk hc]; rfl⟩
  · simp at hi
    subst hi
    exact ⟨w.heap.size, 0, rfl, by rw [cell_blk hc]; rfl, by rw [cell_blk hc]; rfl⟩
/-- the run of a graph, or the error -/
def bldX (n : Int) (es : List E2) (size : Int) : Int × List E2 × Int := if checkS n es ≠ 0 then (0, [], checkS n es) else if size < 1 ∨ 1024 < size then (0, [], 1) else (size, recN es n.toNat, 0)
/-- the boxes: the graph, and the run that is handed back -/
structure BdW (w : World) (n : Int) (sl : Value) (wr : World) : Prop where
  g : wr.heap[w.heap.size]? = some (.cells #[.int .i64 n, sl] 27 (0, 0))
  o : wr.heap[w.heap.size + 1]? = some (.cells #[.int .i64 0, .slice none 0 0] 33 (0, 0))
  be : Below w.heap.size w wr
section
variable {w wr w' : World} {n : Int} {sl : Value}
theorem BdW.next (h : BdW w n sl wr) (hb : Below wr.heap.size wr w') : BdW w n sl w' := ⟨lit_next' hb h.g, lit_next' hb h.o, h.be.trans (hb.mono h.be.size)⟩
theorem BdW.base (h : BdW w n sl wr) : w.heap.size + 2 ≤ wr.heap.size := blk_lt h.o
theorem BdW.grown {r : Option Nat} (h : BdW w n sl wr) (hg : wr.grownBy w' r) (hr : ∀ k, r = some k → w.heap.size + 2 ≤ k) : BdW w n sl w' :=
  ⟨grown_blk hg h.g (fun e => by have := hr _ e.symm; omega), grown_blk hg h.o (fun e => by have := hr _ e.symm; omega), h.be.grown hg h.be.size (fun k e => by have := hr k e; omega)⟩
theorem BdW.start (w : World) (n : Int) (sl : Value) : BdW w n sl ((w.alloc (.cells #[.int .i64 n, sl] 27)).alloc (.cells #[.int .i64 0, .slice none 0 0] 33)) := by
  have h1 := heap_alloc_new w (.cells #[.int .i64 n, sl] 27)
  have h2 := heap_alloc_new (w.alloc (.cells #[.int .i64 n, sl] 27)) (.cells #[.int .i64 0, .slice none 0 0] 33)
  have hz : (w.alloc (.cells #[.int .i64 n, sl] 27)).heap.size = w.heap.size + 1 := by simp
  rw [hz] at h2
  exact ⟨(Below.heap_alloc _ _ _ (blk_lt h1)).trans h1, h2, ((Below.refl _ _).alloc (Nat.le_refl _) _).alloc (by simp) _⟩
theorem BdW.fin (h : BdW w n sl wr) (N : Int) {a : Option Addr} {cap : Nat} {ys : List E2} (he : EdgesAt wr (.slice a ys.length cap) ys) (ha : ∀ p, a = some p → w.heap.size + 2 ≤ p.block) :
    ((wr.setCell ⟨w.heap.size + 1, 0, none⟩ (.int .i64 N)).setCell ⟨w.heap.size + 1, 1, none⟩ (.slice a ys.length cap)).cell? ⟨w.heap.size + 1, 0, none⟩ = some (.int .i64 N) ∧
    ((wr.setCell ⟨w.heap.size + 1, 0, none⟩ (.int .i64 N)).setCell ⟨w.heap.size + 1, 1, none⟩ (.slice a ys.length cap)).cell? ⟨w.heap.size + 1, 1, none⟩ = some (.slice a ys.length cap) ∧
    EdgesAt ((wr.setCell ⟨w.heap.size + 1, 0, none⟩ (.int .i64 N)).setCell ⟨w.heap.size + 1, 1, none⟩ (.slice a ys.length cap)) (.slice a ys.length cap) ys ∧ Below w.heap.size w ((wr.setCell ⟨w.heap.size + 1, 0, none⟩ (.int .i64 N)).setCell ⟨w.heap.size + 1, 1, none⟩ (.slice a ys.length cap)) := by
  have hfin := set_two (u := .int .i64 N) (v := .slice a ys.length cap) h.o
  have hg9 : wr.grownBy ((wr.setCell ⟨w.heap.size + 1, 0, none⟩ (.int .i64 N)).setCell ⟨w.heap.size + 1, 1, none⟩ (.slice a ys.length cap)) (some (w.heap.size + 1)) := grown_trans grown_store grown_store
  exact ⟨cell_blk hfin, cell_blk hfin, he.grown hg9 (fun g e n c p ep => by cases e; have := ha p (Value.slice.inj ep).1; omega), h.be.grown hg9 h.be.size (fun k hk => by cases hk; omega)⟩
end
set_option maxRecDepth 100000 in
set_option maxHeartbeats 6400000 in
theorem build34_any (n : Int) (a : Option Addr) (cap : Nat) (es : List E2) (size : Int) (w : World) (he : EdgesAt w (.slice a es.length cap) es) :
    Calls Try.prog 18 #[.agg #[.int .i64 n, .slice a es.length cap], .int .i64 size] w (RGPost w (bldX n es size)) := by
  have h0 := BdW.start w n (.slice a es.length cap)
  obtain ⟨wA, hwA⟩ : ∃ W : World, W = (w.alloc (.cells #[.int .i64 n, .slice a es.length cap] 27)).alloc (.cells #[.int .i64 0, .slice none 0 0] 33) := ⟨_, rfl⟩
  rw [← hwA] at h0
  have HWA := Lib.hid hwA
  clear hwA
  have hck := check_any n a cap es wA (he.below h0.be)
  unfold bldX RGPost
  obtain ⟨C, hC⟩ : ∃ C, checkS n es = C := ⟨_, rfl⟩
  rw [hC] at hck ⊢
  obtain ⟨k0, k1⟩ := cells2R h0.g
  by_cases hz : C = 0
  case neg =>
    rw [if_pos hz]
    have d1 : (C != 0) = true := by simpa using hz
    clear hz hC
    dsimp only [List.length_nil]
    go_enter Try.func18, Try.ntmps18
    go_wp2_with (rw [← HWA.out])
    refine hck.mono ?_
    rintro e w1 ⟨rfl, hb1⟩
    have h1 := h0.next hb1
    obtain ⟨t0, t1, hef, hbf⟩ := h1.fin (a := none) (cap := 0) (ys := []) 0 (edges_nilR _) (fun p h => by cases h)
    have f0 := free_blk (j := 0) h1.o
    have f1 := free_blk (j := 1) h1.o
    obtain ⟨r0, r1⟩ := cells2R h1.o
    dsimp only [List.length_nil] at t0 t1 hef hbf
    go_wp2_with fail
    exact bodyPost_ret (v := .tuple #[.agg #[.int .i64 0, .slice none 0 0], .int .i64 C]) (by simp [results, Try.results18, go_sem, t0, t1]) rfl ⟨none, 0, rfl, hef, (fun p h => by cases h), hbf⟩
  subst hz
  rw [if_neg (by simp)]
  have hv0 := (valid_iff n es).1 hC
  obtain ⟨m, rfl⟩ := Int.eq_ofNat_of_zero_le hv0.1
  have hv : Valid m es := hv0
  clear hC hv0
  by_cases hs : size < 1 ∨ 1024 < size
  case pos =>
    rw [if_pos hs]
    dsimp only [List.length_nil]
    obtain ⟨B1, hB1⟩ : ∃ B, decide (size < 1) = B := ⟨_, rfl⟩
    have hB2 : B1 = false → decide (1024 < size) = true := fun e => by rw [e] at hB1; simp at hB1; simp; omega
    clear hs
    cases B1
    case true =>
      clear hB2
      go_enter Try.func18, Try.ntmps18
      go_wp2_with (rw [← HWA.out])
      refine hck.mono ?_
      rintro e w1 ⟨rfl, hb1⟩
      have h1 := h0.next hb1
      obtain ⟨t0, t1, hef, hbf⟩ := h1.fin (a := none) (cap := 0) (ys := []) 0 (edges_nilR _) (fun p h => by cases h)
      have f0 := free_blk (j := 0) h1.o
      have f1 := free_blk (j := 1) h1.o
      obtain ⟨r0, r1⟩ := cells2R h1.o
      dsimp only [List.length_nil] at t0 t1 hef hbf
      go_wp2_with fail
      exact bodyPost_ret (v := .tuple #[.agg #[.int .i64 0, .slice none 0 0], .int .i64 1]) (by simp [results, Try.results18, go_sem, t0, t1]) rfl ⟨none, 0, rfl, hef, (fun p h => by cases h), hbf⟩
    case false =>
      have d2 := hB2 rfl
      clear hB2
      go_enter Try.func18, Try.ntmps18
      go_wp2_with (rw [← HWA.out])
      refine hck.mono ?_
      rintro e w1 ⟨rfl, hb1⟩
      have h1 := h0.next hb1
      obtain ⟨t0, t1, hef, hbf⟩ := h1.fin (a := none) (cap := 0) (ys := []) 0 (edges_nilR _) (fun p h => by cases h)
      have f0 := free_blk (j := 0) h1.o
      have f1 := free_blk (j := 1) h1.o
      obtain ⟨r0, r1⟩ := cells2R h1.o
      dsimp only [List.length_nil] at t0 t1 hef hbf
      go_wp2_with fail
      exact bodyPost_ret (v := .tuple #[.agg #[.int .i64 0, .slice none 0 0], .int .i64 1]) (by simp [results, Try.results18, go_sem, t0, t1]) rfl ⟨none, 0, rfl, hef, (fun p h => by cases h), hbf⟩
  rw [if_neg hs]
  have d1 : decide (size < 1) = false := by simp; omega
  have d2 : decide (1024 < size) = false := by simp; omega
  clear hs
  dsimp only
  rw [Int.toNat_natCast]
  have hel := hv.length_le
  obtain ⟨RS, hRS⟩ : ∃ R, recN es m = R := ⟨_, rfl⟩
  rw [hRS]
  have hof : ofR (dirR es) = RS := by rw [ofR_rec hv, hRS]
  have HOF := Lib.hid hof
  clear hof hRS
  go_enter Try.func18, Try.ntmps18
  go_wp2_with (rw [← HWA.out])
  refine hck.mono ?_
  rintro e w1 ⟨rfl, hb1⟩
  have h1 := h0.next hb1
  have he1 := he.below h1.be
  clear hck h0 hb1 k0 k1
  go_wp2_with fail
  go_loopw [7, 8] (fun vl vi wr => ∃ (k : Nat) (P : List E2), k ≤ es.length ∧ vi = .int .i64 k ∧ Hid (P = dirR (es.take k)) ∧ P.length ≤ k * 2 ∧ wr.ownsRow w1.heap.size 37 2 vl P.length (flatE P) ∧ Below w1.heap.size w1 wr) (fun _ vi _ => es.length - (intOf vi).toNat)
  case atStart => exact ⟨0, [], Nat.zero_le _, rfl, (show _ = _ from rfl), Nat.le_refl _, World.ownsRow_nil _ _ _ _, Below.refl _ _⟩
  case round =>
    obtain ⟨k, P, hk, rfl, HP, hPk, hown, hb⟩ := hrel
    obtain ⟨ao, co, hvo⟩ := owns_shape hown
    subst hvo
    have hW := h1.next hb
    obtain ⟨k0, k1⟩ := cells2R hW.g
    by_cases hlt : k < es.length
    · have hlt3 : (k : Int) < es.length := by omega
      obtain ⟨b, off, x, y, rfl, hxy, -, -, c0, c1⟩ := (he1.below hb).at k hlt
      have HP2 : Hid (P ++ [(x, y), (y, x)] = dirR (es.take (k + 1))) := (show _ = _ by rw [take_at _ _ _ hxy, dirR_snoc, ← HP.out])
      have hxyK := hxy
      clear hxy HP
      have hlx := fun W => edges_lit2 W x y y x 37
      have hPl2 : P.length ≤ 100000 := by omega
      obtain ⟨b1, o1, x1, y1, e1, hxy1, -, -, c01, c11⟩ := he1.at k hlt
      obtain ⟨rfl, rfl⟩ : x1 = x ∧ y1 = y := by
        have := hxy1.symm.trans hxyK
        exact ⟨congrArg Prod.fst (Option.some.inj this), congrArg Prod.snd (Option.some.inj this)⟩
      cases e1
      have g1c := (cells2R h1.g).2
      have hSS : ∀ W : World, Below w1.heap.size w1 W → W.cell? ⟨w.heap.size, 1, none⟩ = some (.slice (some ⟨b, off, none⟩) es.length cap) ∧ W.cell? ⟨b, off + k * 2, none⟩ = some (.int .i64 x1) ∧ W.cell? ⟨b, off + k * 2 + 1, none⟩ = some (.int .i64 y1) := fun W h =>
        ⟨(h.cell (p := ⟨w.heap.size, 1, none⟩) (cell_lt g1c)).trans g1c, (h.cell (p := ⟨b, off + k * 2, none⟩) (cell_lt c01)).trans c01, (h.cell (p := ⟨b, off + k * 2 + 1, none⟩) (cell_lt c11)).trans c11⟩
      have hbd := hb.drew
      have hbA := hb.alloc hb.size (.cells #[.int .i64 x1, .int .i64 y1, .int .i64 y1, .int .i64 x1] 37)
      have hbAd := hbA.drew
      have hownA := hown.alloc (.cells #[.int .i64 x1, .int .i64 y1, .int .i64 y1, .int .i64 x1] 37)
      have hlA := hlx wr
      clear hxy1 hxyK
      go_wp2_with fail
      go_region_held3 (fun w' => w'.cell? ⟨w.heap.size, 1, none⟩ = some (.slice (some ⟨b, off, none⟩) es.length cap) ∧ w'.cell? ⟨b, off + k * 2, none⟩ = some (.int .i64 x1) ∧ w'.cell? ⟨b, off + k * 2 + 1, none⟩ = some (.int .i64 y1))
        (first | with_reducible exact hSS _ hbd | with_reducible exact hSS _ hbA | with_reducible exact hSS _ hbAd | with_reducible exact hSS _ hb6)
        (first | (refine step_app_edges pairsT rfl (.tmp 29) (.tmp 56) rfl w1.heap.size (.slice ao P.length co) _ P [(x1, y1), (y1, x1)] rfl (by exact hownA) rfl (by exact hlA) (by simp; omega) (by exact hbA.size) ?_; intro v6 w6 hown6 hg6; have hb6 := hbAd.grown hg6 hbAd.size (fun j e => (hownA.lt j e).1)))
      have hPl3 : (P ++ [(x1, y1), (y1, x1)]).length ≤ (k + 1) * 2 := by simp; omega
      go_wp2_with fail
      go_roundw
      case rel => exact ⟨k + 1, P ++ [(x1, y1), (y1, x1)], by omega, by go_num, HP2, hPl3, hown6, hb6⟩
      case measure => simp [intOf]; omega
    · obtain rfl : k = es.length := by omega
      have hPf : ofR P = RS := by rw [HP.out, List.take_length]; exact HOF.out
      have HPF := Lib.hid hPf
      obtain ⟨a5, c5, e5, hiP, -⟩ := EdgesAt.of_owns hown (by omega)
      cases e5
      have hso := sorted34_any ao co P wr hiP (by omega)
      rw [hPf] at hso
      clear hPf HP hown
      go_wp2_with fail
      refine hso.mono ?_
      rintro e w6 ⟨a6, c6, rfl, hi6, hb6, ha6⟩
      have hW6 := hW.next hb6
      have hbs := hW.base
      obtain ⟨t0, t1, hef, hbf⟩ := hW6.fin size hi6 (fun p h => by have := ha6 p h; omega)
      have f0 := free_blk (j := 0) hW6.o
      have f1 := free_blk (j := 1) hW6.o
      obtain ⟨r0, r1⟩ := cells2R hW6.o
      go_wp2_with fail
      exact bodyPost_ret (v := .tuple #[.agg #[.int .i64 size, .slice a6 RS.length c6], .int .i64 0]) (by simp [results, Try.results18, go_sem, t0, t1]) rfl ⟨a6, c6, rfl, hef, (fun p h => by have := ha6 p h; omega), hbf⟩
end Go.Proofs.Ytdkmdcdoiaelfaa
