/- The contract of the reference's numbers of sets of four nodes of each kind. Plain law: the reference's numbers of sets of each kind are the program's, for graphs of few nodes. The contracts of the numbers of sets of each kind, of any graph, in the program and in the reference. -/
import Derived.Test.YtbkacbbhiecnkaaDoorRef32Set
import Derived.Test.YtbkacbbhiecnkaaDoorCntW
import Derived.Test.YtbkacbbhiecnkaaDoorPatSolvesPlain
import Derived.Test.YtbkacbbhiecnkaaDoorSeqs
import Derived.Test.YtbkacbbhiecnkaaDoorPatAwake
namespace Go.Proofs.YtbkacbbhiecnkaaDoor
open Go.RowKit Go.BigFrame

/-- all that numbers above lo and before hi give -/
def upL (lo hi : Nat) (f : Nat → List Nat) : List Nat := (List.range hi).flatMap fun x => if lo < x then f x else []
theorem upL_start (lo : Nat) (f : Nat → List Nat) : upL lo (lo + 1) f = [] := by
  unfold upL
  rw [List.flatMap_eq_nil_iff]
  intro x hx
  rw [if_neg (by have := List.mem_range.1 hx; omega)]
theorem upL_step (lo hi : Nat) (f : Nat → List Nat) (h : lo < hi) : upL lo (hi + 1) f = upL lo hi f ++ f hi := by
  unfold upL
  rw [List.range_succ, List.flatMap_append]
  simp [h]
def allL (hi : Nat) (f : Nat → List Nat) : List Nat := (List.range hi).flatMap f
theorem allL_step (hi : Nat) (f : Nat → List Nat) : allL (hi + 1) f = allL hi f ++ f hi := by
  unfold allL
  rw [List.range_succ, List.flatMap_append]
  simp
def hasV (v : Int) (a b c d : Nat) : Bool := decide (v < 0) || ((v == (a : Int)) || ((v == (b : Int)) || ((v == (c : Int)) || (v == (d : Int)))))
/-- the kinds of the sets of four nodes, in the reference's order -/
def rL4 (es : List E2) (v : Int) (a b c d : Nat) : List Nat := if hasV v a b c d = true then [(ofKS es a b c d).toNat] else []
def rL3 (es : List E2) (v : Int) (n a b c : Nat) : List Nat := upL c n (rL4 es v a b c)
def rL2 (es : List E2) (v : Int) (n a b : Nat) : List Nat := upL b n (rL3 es v n a b)
def rL1 (es : List E2) (v : Int) (n a : Nat) : List Nat := upL a n (rL2 es v n a)
def rL (es : List E2) (v : Int) (n : Nat) : List Nat := allL n (rL1 es v n)
theorem has_cases (v : Int) (a b c d : Nat) : (hasV v a b c d = true ∧ (v < 0 ∨ (¬ v < 0 ∧ v = a) ∨ (¬ v < 0 ∧ v ≠ a ∧ v = b) ∨ (¬ v < 0 ∧ v ≠ a ∧ v ≠ b ∧ v = c) ∨ (¬ v < 0 ∧ v ≠ a ∧ v ≠ b ∧ v ≠ c ∧ v = d))) ∨ (hasV v a b c d = false ∧ ¬ v < 0 ∧ v ≠ a ∧ v ≠ b ∧ v ≠ c ∧ v ≠ d) := by
  unfold hasV
  by_cases h0 : v < 0
  · left; exact ⟨by simp [h0], .inl h0⟩
  by_cases h1 : v = a
  · left; exact ⟨by simp [h1], .inr (.inl ⟨h0, h1⟩)⟩
  by_cases h2 : v = b
  · left; exact ⟨by simp [h2], .inr (.inr (.inl ⟨h0, h1, h2⟩))⟩
  by_cases h3 : v = c
  · left; exact ⟨by simp [h3], .inr (.inr (.inr (.inl ⟨h0, h1, h2, h3⟩)))⟩
  by_cases h4 : v = d
  · left; exact ⟨by simp [h4], .inr (.inr (.inr (.inr ⟨h0, h1, h2, h3, h4⟩)))⟩
  · right; exact ⟨by simp [h0, h1, h2, h3, h4], h0, h1, h2, h3, h4⟩
/-- the box of the graph and the numbers so far -/
structure CtR (w : World) (n : Nat) (sl : Value) (P : List Nat) (wr : World) : Prop where
  bel : Below w.heap.size w wr
  box : wr.heap[w.heap.size]? = some (.cells #[.int .i64 n, sl] 27 (0, 0))
  num : NumAt wr (w.heap.size + 1) (cntW 11 P)
set_option maxRecDepth 100000 in
set_option maxHeartbeats 6400000 in
theorem rcounts_any (n : Nat) (ga : Option Addr) (cap : Nat) (es : List E2) (v : Int) (w : World) (he : EdgesAt w (.slice ga es.length cap) es) (hv : Valid n es) :
    Calls Tryd.prog 99 #[.agg #[.int .i64 n, .slice ga es.length cap], .int .i64 v] w fun e w' => ∃ g, e = .returned (.slice (some ⟨g, 0, none⟩) 11 11) ∧ w.heap.size ≤ g ∧ NumAt w' g (cntW 11 (rL es v n)) ∧ Below w.heap.size w w' := by
  have hn : n ≤ 64 := by have := hv.2.1; omega
  have hmk : ∀ w, (Instr.makeSlice 22 (.int .i64 11) (.int .i64 11)).run Tryd.prog w = .ok (.slice (some ⟨w.heap.size, 0, none⟩) 11 11) (w.alloc (.cells (intsV (cntW 11 [])).toArray 3)) := by rw [cntW_nil]; exact make11
  have hC0 : CtR w n (.slice ga es.length cap) [] ((w.alloc (.cells #[.int .i64 n, .slice ga es.length cap] 27)).alloc (.cells (intsV (cntW 11 [])).toArray 3)) := by
    refine ⟨((Below.refl _ _).alloc (Nat.le_refl _) _).alloc (by simp) _, (Below.heap_alloc _ _ _ (by simp)).trans (heap_alloc_new _ _), ?_⟩
    have h := heap_alloc_new (w.alloc (.cells #[.int .i64 n, .slice ga es.length cap] 27)) (.cells (intsV (cntW 11 [])).toArray 3)
    simpa [NumAt] using h
  go_enter Tryd.func99, Tryd.ntmps99
  go_wp2_with fail
  clear hmk
  go_loopw [6] (fun va wr => ∃ a : Nat, a ≤ n ∧ va = .int .i64 a ∧ CtR w n (.slice ga es.length cap) (allL a (rL1 es v n)) wr) (fun va _ => n - (intOf va).toNat)
  case atStart => exact ⟨0, Nat.zero_le _, rfl, hC0⟩
  case round =>
    clear hC0
    obtain ⟨a, ha, rfl, hC⟩ := hrel
    have g0 : wr.cell? ⟨w.heap.size, 0, none⟩ = some (.int .i64 n) := by rw [cell_blk hC.box]; rfl
    by_cases hlta : a < n
    · have hst := allL_step a (rL1 es v n)
      obtain ⟨PA, hPA⟩ : ∃ P, allL a (rL1 es v n) = P := ⟨_, rfl⟩
      rw [hPA] at hC hst
      have HSA : Hid (allL (a + 1) (rL1 es v n) = PA ++ upL a n (rL2 es v n a)) := hst
      have hC1 : CtR w n (.slice ga es.length cap) (PA ++ upL a (a + 1) (rL2 es v n a)) wr := by rw [upL_start, List.append_nil]; exact hC
      clear hst hPA hC
      go_wp2_with fail
      clear g0
      go_loopw [7] (fun va wr => ∃ b : Nat, a < b ∧ b ≤ n ∧ va = .int .i64 b ∧ CtR w n (.slice ga es.length cap) (PA ++ upL a b (rL2 es v n a)) wr) (fun va _ => n - (intOf va).toNat)
      case atStart => exact ⟨a + 1, by omega, by omega, by go_num, hC1⟩
      case round =>
        clear hC1
        obtain ⟨b, hab, hb, rfl, hC⟩ := hrel
        have g0 : wr.cell? ⟨w.heap.size, 0, none⟩ = some (.int .i64 n) := by rw [cell_blk hC.box]; rfl
        by_cases hltb : b < n
        · have hst := upL_step a b (rL2 es v n a) hab
          obtain ⟨PB, hPB⟩ : ∃ P, upL a b (rL2 es v n a) = P := ⟨_, rfl⟩
          rw [hPB] at hC hst
          have HSB : Hid (PA ++ upL a (b + 1) (rL2 es v n a) = PA ++ PB ++ upL b n (rL3 es v n a b)) := by show _ = _; rw [hst, List.append_assoc]; rfl
          obtain ⟨QB, hQB⟩ : ∃ Q, PA ++ PB = Q := ⟨_, rfl⟩
          rw [hQB] at hC HSB
          have hC1 : CtR w n (.slice ga es.length cap) (QB ++ upL b (b + 1) (rL3 es v n a b)) wr := by rw [upL_start, List.append_nil]; exact hC
          clear hst hPB hC hQB
          go_wp2_with fail
          clear g0
          go_loopw [8] (fun va wr => ∃ c : Nat, b < c ∧ c ≤ n ∧ va = .int .i64 c ∧ CtR w n (.slice ga es.length cap) (QB ++ upL b c (rL3 es v n a b)) wr) (fun va _ => n - (intOf va).toNat)
          case atStart => exact ⟨b + 1, by omega, by omega, by go_num, hC1⟩
          case round =>
            clear hC1
            obtain ⟨c, hbc, hc, rfl, hC⟩ := hrel
            have g0 : wr.cell? ⟨w.heap.size, 0, none⟩ = some (.int .i64 n) := by rw [cell_blk hC.box]; rfl
            by_cases hltc : c < n
            · have hst := upL_step b c (rL3 es v n a b) hbc
              obtain ⟨PC, hPC⟩ : ∃ P, upL b c (rL3 es v n a b) = P := ⟨_, rfl⟩
              rw [hPC] at hC hst
              have HSC : Hid (QB ++ upL b (c + 1) (rL3 es v n a b) = QB ++ PC ++ upL c n (rL4 es v a b c)) := by show _ = _; rw [hst, List.append_assoc]; rfl
              obtain ⟨QC, hQC⟩ : ∃ Q, QB ++ PC = Q := ⟨_, rfl⟩
              rw [hQC] at hC HSC
              have hC1 : CtR w n (.slice ga es.length cap) (QC ++ upL c (c + 1) (rL4 es v a b c)) wr := by rw [upL_start, List.append_nil]; exact hC
              clear hst hPC hC hQC
              go_wp2_with fail
              clear g0
              go_loopw [9] (fun va wr => ∃ d : Nat, c < d ∧ d ≤ n ∧ va = .int .i64 d ∧ CtR w n (.slice ga es.length cap) (QC ++ upL c d (rL4 es v a b c)) wr) (fun va _ => n - (intOf va).toNat)
              case atStart => exact ⟨c + 1, by omega, by omega, by go_num, hC1⟩
              case round =>
                clear hC1
                obtain ⟨d, hcd, hd, rfl, hC⟩ := hrel
                have g0 : wr.cell? ⟨w.heap.size, 0, none⟩ = some (.int .i64 n) := by rw [cell_blk hC.box]; rfl
                have g1 : wr.cell? ⟨w.heap.size, 1, none⟩ = some (.slice ga es.length cap) := by rw [cell_blk hC.box]; rfl
                by_cases hltd : d < n
                · have hst := upL_step c d (rL4 es v a b c) hcd
                  obtain ⟨PD, hPD⟩ : ∃ P, upL c d (rL4 es v a b c) = P := ⟨_, rfl⟩
                  rw [hPD] at hC hst
                  rcases has_cases v a b c d with ⟨hf, hcase⟩ | ⟨hf, h0, h1, h2, h3, h4⟩
                  · have hr4 : rL4 es v a b c d = [(ofKS es a b c d).toNat] := by unfold rL4; rw [if_pos hf]
                    obtain ⟨x, hx⟩ := Int.eq_ofNat_of_zero_le (ofKS_bd es a b c d).1
                    have hx11 : x < 11 := by have := (ofKS_bd es a b c d).2; omega
                    rw [hr4, hx, Int.toNat_natCast] at hst
                    have HSD : Hid (QC ++ upL c (d + 1) (rL4 es v a b c) = QC ++ PD ++ [x]) := by show _ = _; rw [hst, List.append_assoc]
                    obtain ⟨Q, hQ⟩ : ∃ Q, QC ++ PD = Q := ⟨_, rfl⟩
                    rw [hQ] at hC HSD
                    have hkx : kindS (maskF (pairF es a b c d) 6) = (x : Int) := hx
                    have hbn := (Below.refl wr.heap.size wr).alloc (Nat.le_refl _) (.cells #[.int .i64 a, .int .i64 b, .int .i64 c, .int .i64 d] 3)
                    have hI : IntsAt (wr.alloc (.cells #[.int .i64 a, .int .i64 b, .int .i64 c, .int .i64 d] 3)) (.slice (some ⟨wr.heap.size, 0, none⟩) 4 4) [(a : Int), (b : Int), (c : Int), (d : Int)] := ints_blk (xs := [(a : Int), (b : Int), (c : Int), (d : Int)]) (heap_alloc_new _ _) (by simp) 4 (by simp)
                    have hbt := rbits_any n ga cap es (.slice (some ⟨wr.heap.size, 0, none⟩) 4 4) a b c d _ (he.below (hC.bel.trans (hbn.mono hC.bel.size))) hv hI (by omega) (by omega) (by omega) (by omega) (by omega) (by omega)
                    have hkd := fun W => rkind_any (maskF (pairF es a b c d) 6) W (maskF_lt _ 6)
                    rw [hkx] at hkd
                    obtain ⟨M, hM⟩ : ∃ M, maskF (pairF es a b c d) 6 = M := ⟨_, rfl⟩
                    rw [hM] at hbt hkd
                    have hdec : decide (v < 0) = true ∨ (decide (v < 0) = false ∧ (v == (a : Int)) = true) ∨ (decide (v < 0) = false ∧ (v == (a : Int)) = false ∧ (v == (b : Int)) = true) ∨ (decide (v < 0) = false ∧ (v == (a : Int)) = false ∧ (v == (b : Int)) = false ∧ (v == (c : Int)) = true) ∨ (decide (v < 0) = false ∧ (v == (a : Int)) = false ∧ (v == (b : Int)) = false ∧ (v == (c : Int)) = false ∧ (v == (d : Int)) = true) := by
                      simpa only [decide_eq_true_eq, decide_eq_false_iff_not, beq_iff_eq, beq_eq_false_iff_ne, ne_eq] using hcase
                    have hzC := blk_lt hC.num
                    clear hst hPD hr4 hf hcase hx hQ hkx hM hI
                    rcases hdec with e0 | ⟨e0, e1⟩ | ⟨e0, e1, e2⟩ | ⟨e0, e1, e2, e3⟩ | ⟨e0, e1, e2, e3, e4⟩
                    all_goals
                      go_wp2_with fail
                      refine hbt.mono ?_
                      rintro e w3 ⟨rfl, hb3⟩
                      have hb13 := hbn.trans (hb3.mono hbn.size)
                      go_wp2_with fail
                      refine (hkd _).mono ?_
                      rintro e w4 ⟨rfl, hb4⟩
                      have hb14 := hb13.trans (hb4.mono hb13.size)
                      have hN4 := hC.num.below hb14
                      have hG4 := lit_next' hb14 hC.box
                      have hbel4 := hC.bel.trans (hb14.mono hC.bel.size)
                      have cn := hN4.cell x _ (cntW_get 11 Q x hx11)
                      have fn : w4.frozen? ⟨w.heap.size + 1, x, none⟩ = false := free_blk hN4
                      have hset := hN4.set x (wrap64 (wrap64 (occ Q x) + 1))
                      rw [cntW_snoc] at hset
                      have HSET := Lib.hid hset
                      clear hset hN4 g0 g1
                      go_wp2_with fail
                      go_roundw
                      case rel => exact ⟨d + 1, by omega, by omega, by go_num, by rw [HSD.out]; exact ⟨hbel4.setCell (p := ⟨w.heap.size + 1, x, none⟩) (Nat.le_succ _) _, (Below.heap_setCell _ _ _ _ (by show w.heap.size ≠ w.heap.size + 1; omega)).trans hG4, HSET.out⟩⟩
                      case measure => simp [intOf]; omega
                  · have hr4 : rL4 es v a b c d = [] := by unfold rL4; rw [hf]; rfl
                    rw [hr4, List.append_nil] at hst
                    have HSD : Hid (QC ++ upL c (d + 1) (rL4 es v a b c) = QC ++ PD) := by show _ = _; rw [hst]
                    have e1 : (v == (a : Int)) = false := by simpa using h1
                    have e2 : (v == (b : Int)) = false := by simpa using h2
                    have e3 : (v == (c : Int)) = false := by simpa using h3
                    have e4 : (v == (d : Int)) = false := by simpa using h4
                    have e0 : decide (v < 0) = false := by simpa using h0
                    clear hst hPD hr4 hf h1 h2 h3 h4
                    go_wp2_with fail
                    go_roundw
                    case rel => exact ⟨d + 1, by omega, by omega, by go_num, by rw [HSD.out]; exact hC⟩
                    case measure => simp [intOf]; omega
                · obtain rfl : d = n := by omega
                  go_wp2_with fail
                  go_roundw
                  case rel => exact ⟨c + 1, by omega, by omega, by go_num, by rw [HSC.out]; exact hC⟩
                  case measure => simp [intOf]; omega
            · obtain rfl : c = n := by omega
              go_wp2_with fail
              go_roundw
              case rel => exact ⟨b + 1, by omega, by omega, by go_num, by rw [HSB.out]; exact hC⟩
              case measure => simp [intOf]; omega
        · obtain rfl : b = n := by omega
          go_wp2_with fail
          go_roundw
          case rel => exact ⟨a + 1, by omega, by go_num, by rw [HSA.out]; exact hC⟩
          case measure => simp [intOf]; omega
    · obtain rfl : a = n := by omega
      go_wp2_with fail
      go_ret
      exact ⟨w.heap.size + 1, rfl, Nat.le_succ _, hC.num, hC.bel⟩
end Go.Proofs.YtbkacbbhiecnkaaDoor

namespace Go.Proofs.YtbkacbbhiecnkaaDoor
open Go.RowKit Go.BigFrame

theorem sumN_swp (F : Nat → Nat → Int) (m : Nat) : ∀ n, sumN (fun a => sumN (fun b => F a b) m) n = sumN (fun b => sumN (fun a => F a b) n) m := by
  intro n
  induction n with
  | zero => exact (sumN_zero m).symm
  | succ n ih =>
    show sumN (fun a => sumN (fun b => F a b) m) n + sumN (fun b => F n b) m = sumN (fun b => sumN (fun a => F a b) n + F n b) m
    rw [ih, sumN_add]
theorem sumN_ct (g : Nat → Int) (x : Nat) : ∀ n, x ≤ n → sumN (fun u => if u < x then g u else 0) n = sumN g x := by
  intro n
  induction n with
  | zero => intro h; rw [show x = 0 by omega]; rfl
  | succ n ih =>
    intro h
    by_cases hx : x = n + 1
    · subst hx; exact sumN_congr _ _ _ fun v hv => if_pos hv
    · show sumN _ n + (if n < x then g n else 0) = _
      rw [ih (by omega), if_neg (by omega), Int.add_zero]
theorem if_sum (p : Prop) [Decidable p] (f : Nat → Int) (n : Nat) : (if p then sumN f n else 0) = sumN (fun x => if p then f x else 0) n := by
  split
  · rfl
  · exact (sumN_zero n).symm
theorem occ_app (A B : List Nat) (k : Nat) : occ (A ++ B) k = occ A k + occ B k := by
  unfold occ; rw [List.filter_append, List.length_append]; omega
theorem occ_all (f : Nat → List Nat) (k : Nat) : ∀ n, occ (allL n f) k = sumN (fun a => occ (f a) k) n := by
  intro n
  induction n with
  | zero => rfl
  | succ n ih => rw [allL_step, occ_app, ih]; rfl
theorem occ_up (lo : Nat) (f : Nat → List Nat) (k : Nat) : ∀ n, occ (upL lo n f) k = sumN (fun a => if lo < a then occ (f a) k else 0) n := by
  intro n
  induction n with
  | zero => rfl
  | succ n ih =>
    by_cases h : lo < n
    · rw [upL_step lo n f h, occ_app, ih]
      show _ = _ + (if lo < n then occ (f n) k else 0)
      rw [if_pos h]
    · have e : upL lo (n + 1) f = upL lo n f := by
        unfold upL
        rw [List.range_succ, List.flatMap_append]
        simp [h]
      rw [e, ih]
      show _ = _ + (if lo < n then occ (f n) k else 0)
      rw [if_neg h, Int.add_zero]
def tR (es : List E2) (v : Int) (k a b c d : Nat) : Int := ind (hasV v a b c d && ofKS es a b c d == (k : Int))
theorem occ_rL4 (es : List E2) (v : Int) (k a b c d : Nat) : occ (rL4 es v a b c d) k = tR es v k a b c d := by
  unfold rL4 tR
  have hb := ofKS_bd es a b c d
  cases hasV v a b c d with
  | false => rfl
  | true =>
    rw [if_pos rfl, Bool.true_and]
    obtain ⟨x, hx⟩ := Int.eq_ofNat_of_zero_le hb.1
    rw [hx, Int.toNat_natCast]
    unfold occ ind
    by_cases h : x = k
    · subst h; simp
    · have h1 : (x == k) = false := by simpa using h
      have h2 : ((x : Int) == (k : Int)) = false := by simp; omega
      simp [h1, h2]
theorem occ_rL (es : List E2) (v : Int) (n k : Nat) : occ (rL es v n) k = sort4 n (fun a b c d => tR es v k d c b a) := by
  unfold rL
  rw [occ_all]
  have e1 : ∀ a b c, occ (rL3 es v n a b c) k = sumN (fun d => if c < d then tR es v k a b c d else 0) n := fun a b c => by
    unfold rL3; rw [occ_up]; exact sumN_congr _ _ n fun d _ => by rw [occ_rL4]
  have e2 : ∀ a b, occ (rL2 es v n a b) k = sumN (fun c => if b < c then sumN (fun d => if c < d then tR es v k a b c d else 0) n else 0) n := fun a b => by
    unfold rL2; rw [occ_up]; exact sumN_congr _ _ n fun c _ => by rw [e1]
  have e3 : ∀ a, occ (rL1 es v n a) k = sumN (fun b => if a < b then sumN (fun c => if b < c then sumN (fun d => if c < d then tR es v k a b c d else 0) n else 0) n else 0) n := fun a => by
    unfold rL1; rw [occ_up]; exact sumN_congr _ _ n fun b _ => by rw [e2]
  rw [sumN_congr _ _ n fun a _ => e3 a]
  -- bring the sums to the greatest node first
  rw [sumN_swp]
  have s1 : ∀ b, sumN (fun a => if a < b then sumN (fun c => if b < c then sumN (fun d => if c < d then tR es v k a b c d else 0) n else 0) n else 0) n
      = sumN (fun c => if b < c then sumN (fun d => if c < d then sumN (fun a => if a < b then tR es v k a b c d else 0) n else 0) n else 0) n := fun b => by
    rw [sumN_congr _ (fun a => sumN (fun c => if b < c then sumN (fun d => if c < d then (if a < b then tR es v k a b c d else 0) else 0) n else 0) n) n (fun a _ => by
      rw [if_sum]
      refine sumN_congr _ _ n fun c _ => ?_
      by_cases h1 : b < c
      · rw [if_pos h1, if_pos h1, if_sum]
        refine sumN_congr _ _ n fun d _ => ?_
        by_cases h2 : c < d <;> by_cases h3 : a < b <;> simp [h2, h3]
      · rw [if_neg h1, if_neg h1]; split <;> rfl)]
    rw [sumN_swp]
    refine sumN_congr _ _ n fun c _ => ?_
    by_cases h1 : b < c
    · simp only [if_pos h1]
      rw [sumN_swp]
      refine sumN_congr _ _ n fun d _ => ?_
      by_cases h2 : c < d
      · simp only [if_pos h2]
      · simp only [if_neg h2]; exact sumN_zero n
    · simp only [if_neg h1]; exact sumN_zero n
  rw [sumN_congr _ _ n fun b _ => s1 b, sumN_swp]
  have s2 : ∀ c, sumN (fun b => if b < c then sumN (fun d => if c < d then sumN (fun a => if a < b then tR es v k a b c d else 0) n else 0) n else 0) n
      = sumN (fun d => if c < d then sumN (fun b => if b < c then sumN (fun a => if a < b then tR es v k a b c d else 0) n else 0) n else 0) n := fun c => by
    rw [sumN_congr _ (fun b => sumN (fun d => if c < d then (if b < c then sumN (fun a => if a < b then tR es v k a b c d else 0) n else 0) else 0) n) n (fun b _ => by
      rw [if_sum]
      refine sumN_congr _ _ n fun d _ => ?_
      by_cases h2 : c < d <;> by_cases h3 : b < c <;> simp [h2, h3])]
    rw [sumN_swp]
    refine sumN_congr _ _ n fun d _ => ?_
    by_cases h2 : c < d
    · simp only [if_pos h2]
    · simp only [if_neg h2]; exact sumN_zero n
  rw [sumN_congr _ _ n fun c _ => s2 c, sumN_swp]
  show _ = sumN (fun d => sumN (fun c => sumN (fun b => sumN (fun a => tR es v k a b c d) b) c) d) n
  refine sumN_congr _ _ n fun d hd => ?_
  rw [sumN_ct _ d n (by omega)]
  refine sumN_congr _ _ d fun c hc => ?_
  rw [sumN_ct _ c n (by omega)]
  refine sumN_congr _ _ c fun b hb => ?_
  rw [sumN_ct _ b n (by omega)]
theorem allL_len (m : Nat) (f : Nat → List Nat) (h : ∀ a, (f a).length ≤ m) : ∀ n, (allL n f).length ≤ n * m := by
  intro n
  induction n with
  | zero => simp [allL]
  | succ n ih => rw [allL_step, List.length_append, Nat.succ_mul]; have := h n; omega
theorem upL_len (lo m : Nat) (f : Nat → List Nat) (h : ∀ a, (f a).length ≤ m) : ∀ n, (upL lo n f).length ≤ n * m := by
  intro n
  have e : upL lo n f = allL n (fun x => if lo < x then f x else []) := rfl
  rw [e]
  exact allL_len m _ (fun a => by show (if lo < a then f a else []).length ≤ m; split; exact h a; exact Nat.zero_le _) n
theorem rL_len (es : List E2) (v : Int) (n : Nat) : (rL es v n).length ≤ n * (n * (n * (n * 1))) := by
  refine allL_len _ _ (fun a => upL_len _ _ _ (fun b => upL_len _ _ _ (fun c => upL_len _ _ _ (fun d => ?_) n) n) n) n
  unfold rL4; split <;> simp
theorem rL_cnt (es : List E2) (v : Int) (n : Nat) (hn : n ≤ 20) (φ : Nat → Nat → Nat → Nat → Bool) (hφ : ∀ a b c d, φ d c b a = hasV v d c b a) : cntW 11 (rL es v n) = cntV (kA es φ n) := by
  apply List.ext_getElem?
  intro k
  by_cases hk : k < 11
  · rw [cntW_get 11 _ k hk, cntV_get _ k hk]
    have h1 := occ_rL es v n k
    have h2 : (((kA es φ n).filter fun x => x == (k : Int)).length : Int) = sort4 n (fun a b c d => ind (q4 es φ k a b c d)) := cnt_A es φ k n
    have h3 : sort4 n (fun a b c d => ind (q4 es φ k a b c d)) = sort4 n (fun a b c d => tR es v k d c b a) := sort4_congr n _ _ fun a b c d _ _ _ _ => by unfold q4 tR; rw [hφ]
    rw [h2, h3, ← h1]
    have hl := rL_len es v n
    have h4 : (n * (n * (n * (n * 1)))) ≤ 160000 := by
      have a1 : n * 1 ≤ 20 := by omega
      have a2 := Nat.mul_le_mul hn a1
      have a3 := Nat.mul_le_mul hn a2
      exact Nat.mul_le_mul hn a3
    have ho : (0 : Int) ≤ occ (rL es v n) k ∧ occ (rL es v n) k ≤ 160000 := by
      have h5 := List.length_filter_le (fun y => y == k) (rL es v n)
      unfold occ
      omega
    rw [wrap64_in _ (by omega) (by omega)]
  · rw [List.getElem?_eq_none (by rw [cntW_length]; omega), List.getElem?_eq_none (by rw [cntV_length]; omega)]
theorem rL_ind (es : List E2) (n : Nat) (hn : n ≤ 20) : cntW 11 (rL es (-1) n) = indS es n := rL_cnt es (-1) n hn _ fun a b c d => by unfold hasV; simp
theorem idx_four (v : Int) (a b c d : Nat) : 0 ≤ idxFrom 0 [(d : Int), (c : Int), (b : Int), (a : Int)] v ↔ v = d ∨ v = c ∨ v = b ∨ v = a := by
  show 0 ≤ (if v = (d : Int) then ((0 : Nat) : Int) else if v = (c : Int) then ((0 + 1 : Nat) : Int) else if v = (b : Int) then ((0 + 1 + 1 : Nat) : Int) else if v = (a : Int) then ((0 + 1 + 1 + 1 : Nat) : Int) else -1) ↔ _
  by_cases h1 : v = d
  · rw [if_pos h1]; omega
  by_cases h2 : v = c
  · rw [if_neg h1, if_pos h2]; omega
  by_cases h3 : v = b
  · rw [if_neg h1, if_neg h2, if_pos h3]; omega
  by_cases h4 : v = a
  · rw [if_neg h1, if_neg h2, if_neg h3, if_pos h4]; omega
  · rw [if_neg h1, if_neg h2, if_neg h3, if_neg h4]; omega
theorem rL_nod (es : List E2) (n : Nat) (v : Int) (hv : 0 ≤ v) (hn : n ≤ 20) : cntW 11 (rL es v n) = nodS es n v := rL_cnt es v n hn _ fun a b c d => by
  unfold phiN hasV
  have h0 : decide (v < 0) = false := by simp; omega
  rw [h0, Bool.false_or, Bool.eq_iff_iff, decide_eq_true_eq, idx_four]
  simp
end Go.Proofs.YtbkacbbhiecnkaaDoor

namespace Go.Proofs.YtbkacbbhiecnkaaDoor
open Go.RowKit Go.BigFrame

/-- numbers and an error are handed back -/
def ErrPost (w : World) (r : List Int × Int) (e : Ending) (w' : World) : Prop := ∃ a c, e = .returned (.tuple #[.slice a r.1.length c, .int .i64 r.2]) ∧ IntsAt w' (.slice a r.1.length c) r.1 ∧ Below w.heap.size w w'
def indX (n : Int) (es : List E2) : List Int × Int := if checkS n es ≠ 0 then ([], checkS n es) else (indS es n.toNat, 0)
def nodX (n : Int) (es : List E2) (v : Int) : List Int × Int := if checkS n es ≠ 0 then ([], checkS n es) else if v < 0 ∨ n ≤ v then ([], 6) else (nodS es n.toNat v, 0)
theorem ints_none (w : World) : IntsAt w (.slice none 0 0) [] := ⟨none, 0, rfl, Nat.le_refl _, fun _ => rfl, by simp, fun i x h => by simp at h⟩
theorem ints_num {w : World} {g : Nat} {l : List Int} (h : NumAt w g l) (hl : l.length = 11) : IntsAt w (.slice (some ⟨g, 0, none⟩) l.length 11) l := by
  have h2 := NumAt.ints h (by omega)
  rw [hl] at h2 ⊢; exact h2
set_option maxRecDepth 100000 in
set_option maxHeartbeats 1600000 in
theorem rinduced_any (n : Int) (a : Option Addr) (cap : Nat) (es : List E2) (w : World) (he : EdgesAt w (.slice a es.length cap) es) (hn : checkS n es = 0 → n ≤ 20) :
    Calls Tryd.prog 40 #[.agg #[.int .i64 n, .slice a es.length cap]] w (ErrPost w (indX n es)) := by
  have hb0 : Below w.heap.size w (w.alloc (.cells #[.int .i64 n, .slice a es.length cap] 27)) := (Below.refl _ _).alloc (Nat.le_refl _) _
  have hG0 := heap_alloc_new w (.cells #[.int .i64 n, .slice a es.length cap] 27)
  have hck := fun W h => check_any n a cap es W h
  unfold ErrPost indX
  by_cases hC : checkS n es = 0
  case neg =>
    rw [if_pos hC]
    obtain ⟨C, hCC⟩ : ∃ C, checkS n es = C := ⟨_, rfl⟩
    rw [hCC] at hck hC ⊢
    have d1 : (C != 0) = true := by simpa using hC
    have d2 : (C == 0) = false := by simpa using hC
    clear hC hCC hn
    go_enter Tryd.func40, Tryd.ntmps40
    go_wp2_with fail
    refine (hck _ (he.below hb0)).mono ?_
    rintro e w1 ⟨rfl, hb1⟩
    go_wp2_with fail
    go_ret2
    exact ⟨none, 0, rfl, ints_none _, hb0.trans (hb1.mono hb0.size)⟩
  rw [if_neg (by simpa using hC)]
  have hv := (valid_iff n es).1 hC
  have hn20 := hn hC
  rw [hC] at hck
  obtain ⟨n, rfl⟩ := Int.eq_ofNat_of_zero_le hv.1
  rw [Int.toNat_natCast, ← rL_ind es n (by omega)]
  obtain ⟨R, hR⟩ : ∃ R, cntW 11 (rL es (-1) n) = R := ⟨_, rfl⟩
  have hRl : R.length = 11 := by rw [← hR]; exact cntW_length _ _
  have hct := fun W h => rcounts_any n a cap es (-1) W h hv
  rw [hR] at hct ⊢
  have HRL := Lib.hid hRl
  clear hR hRl hn hC
  go_enter Tryd.func40, Tryd.ntmps40
  go_wp2_with fail
  refine (hck _ (he.below hb0)).mono ?_
  rintro e w1 ⟨rfl, hb1⟩
  have hb01 := hb0.trans (hb1.mono hb0.size)
  have hG1 := lit_next' hb1 hG0
  have g0 : w1.cell? ⟨w.heap.size, 0, none⟩ = some (.int .i64 n) := by rw [cell_blk hG1]; rfl
  have g1 : w1.cell? ⟨w.heap.size, 1, none⟩ = some (.slice a es.length cap) := by rw [cell_blk hG1]; rfl
  go_wp2_with fail
  refine (hct _ (he.below hb01)).mono ?_
  rintro e w2 ⟨g, rfl, -, hN, hb2⟩
  go_wp2_with fail
  go_ret2
  exact ⟨some ⟨g, 0, none⟩, 11, by rw [HRL.out]; rfl, ints_num hN HRL.out, hb01.trans (hb2.mono hb01.size)⟩
set_option maxRecDepth 100000 in
set_option maxHeartbeats 1600000 in
theorem rnode32_any (n : Int) (v : Int) (a : Option Addr) (cap : Nat) (es : List E2) (w : World) (he : EdgesAt w (.slice a es.length cap) es) (hn : checkS n es = 0 → n ≤ 20) :
    Calls Tryd.prog 42 #[.agg #[.int .i64 n, .slice a es.length cap], .int .i64 v] w (ErrPost w (nodX n es v)) := by
  have hb0 : Below w.heap.size w (w.alloc (.cells #[.int .i64 n, .slice a es.length cap] 27)) := (Below.refl _ _).alloc (Nat.le_refl _) _
  have hG0 := heap_alloc_new w (.cells #[.int .i64 n, .slice a es.length cap] 27)
  have hck := fun W h => check_any n a cap es W h
  unfold ErrPost nodX
  by_cases hC : checkS n es = 0
  case neg =>
    rw [if_pos hC]
    obtain ⟨C, hCC⟩ : ∃ C, checkS n es = C := ⟨_, rfl⟩
    rw [hCC] at hck hC ⊢
    have d1 : (C != 0) = true := by simpa using hC
    have d2 : (C == 0) = false := by simpa using hC
    clear hC hCC hn
    go_enter Tryd.func42, Tryd.ntmps42
    go_wp2_with fail
    refine (hck _ (he.below hb0)).mono ?_
    rintro e w1 ⟨rfl, hb1⟩
    go_wp2_with fail
    go_ret2
    exact ⟨none, 0, rfl, ints_none _, hb0.trans (hb1.mono hb0.size)⟩
  rw [if_neg (by simpa using hC)]
  have hv := (valid_iff n es).1 hC
  have hn20 := hn hC
  rw [hC] at hck
  by_cases hvv : v < 0 ∨ n ≤ v
  case pos =>
    rw [if_pos hvv]
    have hcase : decide (v < 0) = true ∨ (decide (v < 0) = false ∧ decide (n ≤ v) = true) := by
      by_cases h : v < 0
      · left; simpa using h
      · right; exact ⟨by simpa using h, by simp; omega⟩
    clear hvv hn hC
    rcases hcase with d1 | ⟨d1, d2⟩
    all_goals
      go_enter Tryd.func42, Tryd.ntmps42
      go_wp2_with fail
      refine (hck _ (he.below hb0)).mono ?_
      rintro e w1 ⟨rfl, hb1⟩
      have hG1 := lit_next' hb1 hG0
      have g0 : w1.cell? ⟨w.heap.size, 0, none⟩ = some (.int .i64 n) := by rw [cell_blk hG1]; rfl
      go_wp2_with fail
      go_ret2
      exact ⟨none, 0, rfl, ints_none _, hb0.trans (hb1.mono hb0.size)⟩
  rw [if_neg hvv]
  obtain ⟨n, rfl⟩ := Int.eq_ofNat_of_zero_le hv.1
  have d1 : decide (v < 0) = false := by simp; omega
  have d2 : decide ((n : Int) ≤ v) = false := by simp; omega
  rw [Int.toNat_natCast, ← rL_nod es n v (by omega) (by omega)]
  obtain ⟨R, hR⟩ : ∃ R, cntW 11 (rL es v n) = R := ⟨_, rfl⟩
  have hRl : R.length = 11 := by rw [← hR]; exact cntW_length _ _
  have hct := fun W h => rcounts_any n a cap es v W h hv
  rw [hR] at hct ⊢
  have HRL := Lib.hid hRl
  clear hR hRl hn hC hvv
  go_enter Tryd.func42, Tryd.ntmps42
  go_wp2_with fail
  refine (hck _ (he.below hb0)).mono ?_
  rintro e w1 ⟨rfl, hb1⟩
  have hb01 := hb0.trans (hb1.mono hb0.size)
  have hG1 := lit_next' hb1 hG0
  have g0 : w1.cell? ⟨w.heap.size, 0, none⟩ = some (.int .i64 n) := by rw [cell_blk hG1]; rfl
  have g1 : w1.cell? ⟨w.heap.size, 1, none⟩ = some (.slice a es.length cap) := by rw [cell_blk hG1]; rfl
  go_wp2_with fail
  refine (hct _ (he.below hb01)).mono ?_
  rintro e w2 ⟨g, rfl, -, hN, hb2⟩
  go_wp2_with fail
  go_ret2
  exact ⟨some ⟨g, 0, none⟩, 11, by rw [HRL.out]; rfl, ints_num hN HRL.out, hb01.trans (hb2.mono hb01.size)⟩
set_option maxRecDepth 100000 in
set_option maxHeartbeats 1600000 in
theorem pinduced_any (n : Int) (a : Option Addr) (cap : Nat) (es : List E2) (w : World) (he : EdgesAt w (.slice a es.length cap) es) (ht : TabsAt w) :
    Calls Tryd.prog 28 #[.agg #[.int .i64 n, .slice a es.length cap]] w (ErrPost w (indX n es)) := by
  have hb0 : Below w.heap.size w (w.alloc (.cells #[.int .i64 n, .slice a es.length cap] 27)) := (Below.refl _ _).alloc (Nat.le_refl _) _
  have hG0 := heap_alloc_new w (.cells #[.int .i64 n, .slice a es.length cap] 27)
  have hck := fun W h => gcheck_any n a cap es W h
  unfold ErrPost indX
  by_cases hC : checkS n es = 0
  case neg =>
    rw [if_pos hC]
    obtain ⟨C, hCC⟩ : ∃ C, checkS n es = C := ⟨_, rfl⟩
    rw [hCC] at hck hC ⊢
    have d1 : (C != 0) = true := by simpa using hC
    have d2 : (C == 0) = false := by simpa using hC
    clear hC hCC
    go_enter Tryd.func28, Tryd.ntmps28
    go_wp2_with fail
    refine (hck _ (he.below hb0)).mono ?_
    rintro e w1 ⟨rfl, hb1⟩
    go_wp2_with fail
    go_ret2
    exact ⟨none, 0, rfl, ints_none _, hb0.trans (hb1.mono hb0.size)⟩
  rw [if_neg (by simpa using hC)]
  have hv := (valid_iff n es).1 hC
  rw [hC] at hck
  obtain ⟨n, rfl⟩ := Int.eq_ofNat_of_zero_le hv.1
  rw [Int.toNat_natCast]
  exact induced_any n a cap es w he hv ht
set_option maxRecDepth 100000 in
set_option maxHeartbeats 1600000 in
theorem pnode32_any (n : Int) (v : Int) (a : Option Addr) (cap : Nat) (es : List E2) (w : World) (he : EdgesAt w (.slice a es.length cap) es) (ht : TabsAt w) :
    Calls Tryd.prog 29 #[.agg #[.int .i64 n, .slice a es.length cap], .int .i64 v] w (ErrPost w (nodX n es v)) := by
  have hb0 : Below w.heap.size w ((w.alloc (.cells #[.int .i64 n, .slice a es.length cap] 27)).alloc (.cells #[.int .i64 v] 3)) := ((Below.refl _ _).alloc (Nat.le_refl _) _).alloc (by simp) _
  have hG0 := (Below.heap_alloc (w.alloc (.cells #[.int .i64 n, .slice a es.length cap] 27)) (.cells #[.int .i64 v] 3) _ (by simp)).trans (heap_alloc_new w (.cells #[.int .i64 n, .slice a es.length cap] 27))
  have hV0 : ((w.alloc (.cells #[.int .i64 n, .slice a es.length cap] 27)).alloc (.cells #[.int .i64 v] 3)).heap[w.heap.size + 1]? = some (.cells #[.int .i64 v] 3 (0, 0)) := by
    have h := heap_alloc_new (w.alloc (.cells #[.int .i64 n, .slice a es.length cap] 27)) (.cells #[.int .i64 v] 3)
    simpa using h
  have hck := fun W h => gcheck_any n a cap es W h
  unfold ErrPost nodX
  by_cases hC : checkS n es = 0
  case neg =>
    rw [if_pos hC]
    obtain ⟨C, hCC⟩ : ∃ C, checkS n es = C := ⟨_, rfl⟩
    rw [hCC] at hck hC ⊢
    have d1 : (C != 0) = true := by simpa using hC
    have d2 : (C == 0) = false := by simpa using hC
    clear hC hCC
    go_enter Tryd.func29, Tryd.ntmps29
    go_wp2_with fail
    refine (hck _ (he.below hb0)).mono ?_
    rintro e w1 ⟨rfl, hb1⟩
    go_wp2_with fail
    go_ret2
    exact ⟨none, 0, rfl, ints_none _, hb0.trans (hb1.mono hb0.size)⟩
  rw [if_neg (by simpa using hC)]
  have hv := (valid_iff n es).1 hC
  rw [hC] at hck
  by_cases hvv : v < 0 ∨ n ≤ v
  case pos =>
    rw [if_pos hvv]
    have hcase : decide (v < 0) = true ∨ (decide (v < 0) = false ∧ decide (n ≤ v) = true) := by
      by_cases h : v < 0
      · left; simpa using h
      · right; exact ⟨by simpa using h, by simp; omega⟩
    clear hvv hC
    rcases hcase with d1 | ⟨d1, d2⟩
    all_goals
      go_enter Tryd.func29, Tryd.ntmps29
      go_wp2_with fail
      refine (hck _ (he.below hb0)).mono ?_
      rintro e w1 ⟨rfl, hb1⟩
      have hG1 := lit_next' hb1 hG0
      have v0 : w1.cell? ⟨w.heap.size + 1, 0, none⟩ = some (.int .i64 v) := by rw [cell_blk (lit_next' hb1 hV0)]; rfl
      have g0 : w1.cell? ⟨w.heap.size, 0, none⟩ = some (.int .i64 n) := by rw [cell_blk hG1]; rfl
      go_wp2_with fail
      go_ret2
      exact ⟨none, 0, rfl, ints_none _, hb0.trans (hb1.mono hb0.size)⟩
  rw [if_neg hvv]
  obtain ⟨n, rfl⟩ := Int.eq_ofNat_of_zero_le hv.1
  rw [Int.toNat_natCast]
  refine (node_any n v a cap es w he hv ht (by omega) (by omega)).mono ?_
  rintro e w' ⟨g, rfl, -, hN, hb⟩
  have hl : (nodS es n v).length = 11 := cntV_length _
  exact ⟨some ⟨g, 0, none⟩, 11, by rw [hl], ints_num hN hl, hb⟩
end Go.Proofs.YtbkacbbhiecnkaaDoor
