/- The contract of slices.Repeat at []int, for one number. A world that grows: its outer rows of known values and of boxes; rows that are one's own. The contract of rounds.Start (printed by wip/mksta.py). -/
import Derived.Test.YtdkmdcdoiaelfaaGreatIClone
import Derived.Test.YtdkmdcdoiaelfaaGreatNumAt
import Derived.Test.YtdkmdcdoiaelfaaGreatShelf
import Derived.Test.YtdkmdcdoiaelfaaGreatSeqs
import Derived.Test.YtdkmdcdoiaelfaaGreatRdWld
import Derived.Test.YtdkmdcdoiaelfaaGreatRdVal
namespace Go.Proofs.YtdkmdcdoiaelfaaGreat
open Go.RowKit Go.BigFrame

/-- a row of which the first k are written -/
def repL (x : Int) (n k : Nat) : List Value := intsV (List.replicate k x ++ List.replicate (n - k) 0)
theorem repL_len (x : Int) (n k : Nat) (h : k ≤ n) : (repL x n k).length = n := by simp [repL, intsV]; omega
theorem repL_get (x : Int) (n k j : Nat) (h : j < k) : (repL x n k)[j]? = some (.int .i64 x) := by
  unfold repL intsV
  rw [List.getElem?_map, List.getElem?_append_left (by simpa using h), List.getElem?_replicate, if_pos h]; rfl
theorem repL_splice (x : Int) (n k m : Nat) : splice (repL x n k) k (intsV (List.replicate m x)) = repL x n (k + m) := by
  have hl : (intsV (List.replicate m x)).length = m := by simp [intsV]
  have hk : (intsV (List.replicate k x)).length = k := by simp [intsV]
  have e1 : repL x n k = intsV (List.replicate k x) ++ intsV (List.replicate (n - k) 0) := by simp [repL, intsV]
  have e2 : splice (repL x n k) k (intsV (List.replicate m x)) = (repL x n k).take k ++ intsV (List.replicate m x) ++ (repL x n k).drop (k + (intsV (List.replicate m x)).length) := by simp [splice]
  rw [e2, hl, e1, List.take_left' hk, List.drop_append, hk, List.drop_of_length_le (by rw [hk]; omega)]
  have e3 : (intsV (List.replicate (n - k) 0)).drop (k + m - k) = intsV (List.replicate (n - (k + m)) 0) := by
    unfold intsV
    rw [← List.map_drop, List.drop_replicate]
    congr 2; omega
  rw [e3]
  simp [repL, intsV]
theorem int_size : (Tryz.prog.info? 3).map (·.size) = some 1 := by
  obtain ⟨i, hi, _, hs, _⟩ := info_parts intsT.info
  rw [hi]; exact congrArg some hs
theorem rep_cp (W : World) (g n k m sLen sCap dLen dCap : Nat) (a : Addr) (x : Int) (hW : W.heap[g]? = some (.cells (repL x n k).toArray 3 (0, 0))) (hm : Nat.min sLen dLen = m) (hk : k ≤ n) (hkm : k + m ≤ n) (hsrc : ∀ j, j < m → W.cell? (a.add j) = some (.int .i64 x)) (ty : TypeId) :
    (Builtin.copy_ #[22, 22] ty #[.slice (some ⟨g, k, none⟩) dLen dCap, .slice (some a) sLen sCap]).run Tryz.prog W = .ok (goInt m) (W.setRow g (repL x n (k + m)).toArray) := by
  have hl : (intsV (List.replicate m x)).length = m := by simp [intsV]
  have h := run_copy_rowK (P := Tryz.prog) W 22 22 ty 3 1 g k dLen dCap a sLen sCap (repL x n k).toArray 3 (intsV (List.replicate m x)) intsT.ht int_size hW (by rw [hl, hm, Nat.mul_one]) (fun j v hj => by
    have hlt := (List.getElem?_eq_some_iff.1 hj).1
    rw [hl] at hlt
    rw [hsrc j hlt, ← hj]
    unfold intsV
    rw [List.getElem?_map, List.getElem?_replicate, if_pos hlt]; rfl) (by rw [hl, List.size_toArray, repL_len x n k hk]; exact hkm) (fun v hv => by
    unfold intsV at hv
    obtain ⟨y, _, rfl⟩ := List.mem_map.1 hv
    rfl)
  rw [hm, show (repL x n k).toArray.toList = repL x n k from rfl, repL_splice] at h
  exact h
set_option linter.unusedSimpArgs false in
set_option maxRecDepth 100000 in
set_option maxHeartbeats 3200000 in
theorem rep_any (x : Int) (n : Nat) (h : Nat) (T : TypeId) (w : World) (hn : n ≤ 64) (hx : w.heap[h]? = some (.cells #[.int .i64 x] T (0, 0))) :
    Calls Tryz.prog 35 #[.slice (some ⟨h, 0, none⟩) 1 1, .int .i64 (n : Int)] w fun e w' => ∃ g, e = .returned (.slice (some ⟨g, 0, none⟩) n n) ∧ w.heap.size ≤ g ∧ w'.heap[g]? = some (.cells (intsV (List.replicate n x)).toArray 3 (0, 0)) ∧ Below w.heap.size w w' := by
  have hmul := Tryz.bits_Mul 1 n (by omega) (by omega) w
  rw [show 1 * n / 18446744073709551616 = 0 by omega, show 1 * n % 18446744073709551616 = n by omega] at hmul
  have hmk := make_ints n (by omega)
  have hx0 : w.cell? ⟨h, 0, none⟩ = some (.int .i64 x) := cell_blk hx
  obtain ⟨g, hg⟩ : ∃ g, w.heap.size = g := ⟨_, rfl⟩
  have hhg : h < g := by rw [← hg]; exact blk_lt hx
  obtain ⟨w0, hw0⟩ : ∃ W : World, W = w.alloc (.cells (intsV (List.replicate n 0)).toArray 3) := ⟨_, rfl⟩
  have hb0 : Below g w w0 := by rw [hw0, ← hg]; exact (Below.refl _ _).alloc (Nat.le_refl _) _
  have hW0 : w0.heap[g]? = some (.cells (repL x n 0).toArray 3 (0, 0)) := by
    rw [hw0, ← hg, heap_alloc_new]
    simp [repL]
  have hc0 : w0.cell? ⟨h, 0, none⟩ = some (.int .i64 x) := (hb0.cell (p := ⟨h, 0, none⟩) hhg).trans hx0
  have hcp0 := fun ty => rep_cp w0 g n 0 (Nat.min 1 n) 1 1 n n ⟨h, 0, none⟩ x hW0 rfl (Nat.zero_le _) (by rw [Nat.zero_add]; exact Nat.min_le_right _ _) (fun j hj => by
    have h1 : Nat.min 1 n ≤ 1 := Nat.min_le_left _ _
    obtain rfl : j = 0 := by omega
    exact hc0) ty
  rw [Nat.zero_add] at hcp0
  have HW0 := Lib.hid hw0
  have HG := Lib.hid hg
  obtain ⟨w1, hw1⟩ : ∃ W : World, W = w0.setRow g (repL x n (Nat.min 1 n)).toArray := ⟨_, rfl⟩
  have hW1 : w1.heap[g]? = some (.cells (repL x n (Nat.min 1 n)).toArray 3 (0, 0)) := by rw [hw1]; exact setRow_heap _ g _ _ _ _ hW0
  have hb1 : Below g w w1 := by rw [hw1]; exact below_setRow hb0 (Nat.le_refl _) _
  rw [← hw1] at hcp0
  have HW1 := Lib.hid hw1
  clear hW0 hw0 hg hw1 hc0 hx0 hb0
  have hcp1 : ∀ ty, (Builtin.copy_ #[22, 22] ty #[.slice (some ⟨w.heap.size, 0, none⟩) n n, .slice (some ⟨h, 0, none⟩) 1 1]).run Tryz.prog (w.alloc (.cells (intsV (List.replicate n 0)).toArray 3)) = .ok (goInt (Nat.min 1 n)) w1 := fun ty => by rw [HG.out, ← HW0.out]; exact hcp0 ty
  clear hcp0
  obtain ⟨m1, hm1⟩ : ∃ m, Nat.min 1 n = m := ⟨_, rfl⟩
  have hm1a : m1 ≤ n := by rw [← hm1]; exact Nat.min_le_right _ _
  have hm1b : n = 0 ∨ 0 < m1 := by
    by_cases e : n = 0
    · exact .inl e
    · right; rw [← hm1]; have : Nat.min 1 n = 1 := Nat.min_eq_left (by omega); omega
  rw [hm1] at hcp1 hW1
  clear hm1 HW1
  go_enter Tryz.func35, Tryz.ntmps35
  go_wp2_with fail
  refine hmul.mono ?_
  rintro e w' ⟨rfl, rfl⟩
  go_wp2_with (at_builtin; refine wpList_copy_eq rfl _ _ 22 22 rfl _ _ rfl rfl (hcp1 _) ?_)
  rw [HG.out]
  clear hmul hmk hcp1
  go_loopw [8] (fun vi wr => ∃ k : Nat, k ≤ n ∧ (n = 0 ∨ 0 < k) ∧ vi = .int .i64 (k : Int) ∧ wr.heap[g]? = some (.cells (repL x n k).toArray 3 (0, 0)) ∧ Below g w' wr) (fun i _ => n - (intOf i).toNat)
  case atStart => exact ⟨m1, hm1a, hm1b, rfl, hW1, hb1⟩
  case round =>
    obtain ⟨k, hk, hk0, rfl, hW, hb⟩ := hrel
    by_cases hlt : k < n
    · have hlt3 : (k : Int) < n := by omega
      have hkp : 0 < k := by omega
      obtain ⟨m, hm⟩ : ∃ m, Nat.min k (n - k) = m := ⟨_, rfl⟩
      have hmn : k + m ≤ n := by have : Nat.min k (n - k) ≤ n - k := Nat.min_le_right _ _; omega
      have hmk : m ≤ k := by have : Nat.min k (n - k) ≤ k := Nat.min_le_left _ _; omega
      have hmp : 0 < m := by
        rw [← hm]
        show 0 < min k (n - k)
        omega
      have q1 := fun ty => rep_cp wr.drew g n k m k n (n - k) (n - k) ⟨g, 0, none⟩ x hW hm hk hmn (fun j hj => by
        have e : (⟨g, 0, none⟩ : Addr).add j = ⟨g, j, none⟩ := by simp [Addr.add]; omega
        rw [e, show wr.drew.cell? ⟨g, j, none⟩ = wr.cell? ⟨g, j, none⟩ from rfl, cell_blk hW]
        have := repL_get x n k j (by omega)
        simpa using this) ty
      have hW2 : (wr.drew.setRow g (repL x n (k + m)).toArray).heap[g]? = some (.cells (repL x n (k + m)).toArray 3 (0, 0)) := setRow_heap _ g _ _ _ _ hW
      have hb2 : Below g w' (wr.drew.setRow g (repL x n (k + m)).toArray) := below_setRow hb.drew (Nat.le_refl _) _
      have q2 := q1 3
      clear q1
      go_wp2_with fail
      go_region
      go_wp2_with fail
      go_roundw
      case rel => exact ⟨k + m, hmn, .inr (by omega), by go_num, hW2, hb2⟩
      case measure => simp [intOf]; omega
    · obtain rfl : k = n := by omega
      have e : (repL x k k).toArray = (intsV (List.replicate k x)).toArray := by simp [repL]
      rw [e] at hW
      go_wp2_with fail
      go_ret
      exact ⟨g, rfl, by rw [HG.out]; exact Nat.le_refl _, hW, by rw [HG.out]; exact hb⟩
end Go.Proofs.YtdkmdcdoiaelfaaGreat

namespace Go.Proofs.YtdkmdcdoiaelfaaGreat
open Go.RowKit Go.BigFrame

structure OutS (w : World) (lo O : Nat) (c0 c1 c2 c3 c4 uK uB vK vB : Value) (i j : Nat) (LK : List (Sl × List Int)) (LB : List (Sl × List (List Msg))) : Prop where
  blk : w.heap[O]? = some (.cells #[c0, c1, c2, c3, c4, uK, uB] 36 (0, 0))
  ownK : w.ownsRow lo 22 (encP (List Int)).k vK i (flatR (encP (List Int)) LK)
  ownB : w.ownsRow lo 75 (encP (List (List Msg))).k vB j (flatR (encP (List (List Msg))) LB)
  kO : vK.ownBlock ≠ some O
  bO : vB.ownBlock ≠ some O
  kb : ∀ b, vK.ownBlock = some b → vB.ownBlock ≠ some b
section
variable {w w' : World} {lo O : Nat} {c0 c1 c2 c3 c4 uK uB vK vB vK' vB' : Value} {i j i' j' : Nat} {LK LK' : List (Sl × List Int)} {LB LB' : List (Sl × List (List Msg))}
theorem OutS.below (h : OutS w lo O c0 c1 c2 c3 c4 uK uB vK vB i j LK LB) (hb : Below w.heap.size w w') : OutS w' lo O c0 c1 c2 c3 c4 uK uB vK vB i j LK LB :=
  ⟨lit_next' hb h.blk, h.ownK.kept (grown_of_below hb) (Classical.em _), h.ownB.kept (grown_of_below hb) (Classical.em _), h.kO, h.bO, h.kb⟩
theorem OutS.appK (h : OutS w lo O c0 c1 c2 c3 c4 uK uB vK vB i j LK LB) (hown : w'.ownsRow lo 22 (encP (List Int)).k vK' i' (flatR (encP (List Int)) LK')) (hg : w.grownBy w' vK.ownBlock) (hat : vK'.ownBlock = vK.ownBlock ∨ vK'.ownBlock = some w.heap.size) :
    OutS w' lo O c0 c1 c2 c3 c4 uK uB vK' vB i' j LK' LB := by
  have hO := blk_lt h.blk
  refine ⟨grown_blk hg h.blk (fun e => h.kO e.symm), hown, h.ownB.kept hg ?_, ?_, h.bO, ?_⟩
  · cases e : vB.ownBlock with
    | none => exact .inl rfl
    | some b => exact .inr fun e2 => h.kb b e2.symm e
  · rcases hat with e | e
    · rw [e]; exact h.kO
    · rw [e]; intro e2; have := Option.some.inj e2; omega
  · intro b e2
    rcases hat with e | e
    · rw [e] at e2; exact h.kb b e2
    · rw [e] at e2
      intro e3
      have := (h.ownB.lt b e3).2
      have := Option.some.inj e2
      omega
theorem OutS.appB (h : OutS w lo O c0 c1 c2 c3 c4 uK uB vK vB i j LK LB) (hown : w'.ownsRow lo 75 (encP (List (List Msg))).k vB' j' (flatR (encP (List (List Msg))) LB')) (hg : w.grownBy w' vB.ownBlock) (hat : vB'.ownBlock = vB.ownBlock ∨ vB'.ownBlock = some w.heap.size) :
    OutS w' lo O c0 c1 c2 c3 c4 uK uB vK vB' i j' LK LB' := by
  have hO := blk_lt h.blk
  refine ⟨grown_blk hg h.blk (fun e => h.bO e.symm), h.ownK.kept hg ?_, hown, h.kO, ?_, ?_⟩
  · cases e : vK.ownBlock with
    | none => exact .inl rfl
    | some b => exact .inr fun e2 => h.kb b e e2.symm
  · rcases hat with e | e
    · rw [e]; exact h.bO
    · rw [e]; intro e2; have := Option.some.inj e2; omega
  · intro b e2 e3
    rcases hat with e | e
    · rw [e] at e3; exact h.kb b e2 e3
    · rw [e] at e3
      have := (h.ownK.lt b e2).2
      have := Option.some.inj e3
      omega
theorem OutS.store (h : OutS w lo O c0 c1 c2 c3 c4 uK uB vK vB i j LK LB) : OutS ((w.setCell ⟨O, 5, none⟩ vK).setCell ⟨O, 6, none⟩ vB) lo O c0 c1 c2 c3 c4 vK vB vK vB i j LK LB := by
  have h1 := (set7 h.blk vK).2.2.2.1
  have h2 := (set7 h1 vB).2.2.2.2
  have hg : w.grownBy ((w.setCell ⟨O, 5, none⟩ vK).setCell ⟨O, 6, none⟩ vB) (some O) := grown_trans grown_store grown_store
  exact ⟨h2, h.ownK.kept hg (.inr h.kO), h.ownB.kept hg (.inr h.bO), h.kO, h.bO, h.kb⟩
/-- a row that fills its block -/
theorem ownsI_blk {g : Nat} {l : List Int} (h : w.heap[g]? = some (.cells (intsV l).toArray 3 (0, 0))) (hb : lo ≤ g) (hl : l.length ≤ 1000000) : w.ownsRow lo 3 1 (.slice (some ⟨g, 0, none⟩) l.length l.length) l.length (intsV l) :=
  ⟨by simp [intsV], .inr ⟨g, l.length, _, rfl, hb, h, Nat.le_refl _, by unfold maxLen; omega, by simp [intsV], by rw [Nat.mul_one]; exact List.take_of_length_le (by simp [intsV])⟩⟩
end
/-- what a worker knows at the beginning, of the first k nodes -/
def begK (es : List E2) (n : Nat) (ow : Nat → Nat) (o k : Nat) : List Int := fnL n fun u => if u < k ∧ ow u = o then ((nbL es n u).length : Int) else (n : Int)
theorem begK_len (es : List E2) (n : Nat) (ow : Nat → Nat) (o k : Nat) : (begK es n ow o k).length = n := fnL_length _ _
theorem begK_zero (es : List E2) (n : Nat) (ow : Nat → Nat) (o : Nat) : begK es n ow o 0 = List.replicate n (n : Int) := by
  apply List.ext_getElem?
  intro i
  by_cases h : i < n
  · rw [begK, fnL_get n _ i h, List.getElem?_replicate, if_pos h, if_neg (fun q => by omega)]
  · rw [List.getElem?_eq_none (by rw [begK_len]; omega), List.getElem?_eq_none (by rw [List.length_replicate]; omega)]
theorem begK_all (es : List E2) (n : Nat) (ow : Nat → Nat) (o : Nat) : begK es n ow o n = beg es n ow o := by
  apply List.ext_getElem?
  intro i
  by_cases h : i < n
  · rw [begK, beg, fnL_get n _ i h, fnL_get n _ i h]
    by_cases e : ow i = o
    · rw [if_pos ⟨h, e⟩, if_pos e]
    · rw [if_neg (fun q => e q.2), if_neg e]
  · rw [List.getElem?_eq_none (by rw [begK_len]; omega), List.getElem?_eq_none (by rw [beg, fnL_length]; omega)]
theorem begK_no (es : List E2) (n : Nat) (ow : Nat → Nat) (o k : Nat) (h : ow k ≠ o) : begK es n ow o (k + 1) = begK es n ow o k := by
  apply List.ext_getElem?
  intro i
  by_cases hi : i < n
  · rw [begK, begK, fnL_get n _ i hi, fnL_get n _ i hi]
    by_cases e : i < k ∧ ow i = o
    · rw [if_pos e, if_pos ⟨by omega, e.2⟩]
    · rw [if_neg e, if_neg]
      rintro ⟨q1, q2⟩
      by_cases e2 : i = k
      · subst e2; exact h q2
      · exact e ⟨by omega, q2⟩
  · rw [List.getElem?_eq_none (by rw [begK_len]; omega), List.getElem?_eq_none (by rw [begK_len]; omega)]
theorem begK_set (es : List E2) (n : Nat) (ow : Nat → Nat) (o k : Nat) (hk : k < n) (h : ow k = o) : (begK es n ow o k).set k ((nbL es n k).length : Int) = begK es n ow o (k + 1) := by
  apply List.ext_getElem?
  intro i
  by_cases hi : i < n
  · rw [List.getElem?_set, begK_len, begK, begK, fnL_get n _ i hi, fnL_get n _ i hi]
    by_cases e2 : k = i
    · subst e2
      rw [if_pos rfl, if_pos hk, if_pos ⟨by omega, h⟩]
    · rw [if_neg e2]
      by_cases e : i < k ∧ ow i = o
      · rw [if_pos e, if_pos ⟨by omega, e.2⟩]
      · rw [if_neg e, if_neg]
        rintro ⟨q1, q2⟩
        exact e ⟨by omega, q2⟩
  · rw [List.getElem?_eq_none (by rw [List.length_set, begK_len]; omega), List.getElem?_eq_none (by rw [begK_len]; omega)]
section
variable {w : World} {lo R P : Nat} {vs : Ix → Value} {K N : Nat → List Int} {B : Nat → Nat → List Msg}
/-- new boxes of a worker -/
theorem GW.made (K N : Nat → List Int) (h : w.heap[R]? = some (.cells ((List.range P).map fun _ => Value.slice none 0 0).toArray 87 (0, 0))) (hl : lo ≤ R) : GW w lo (fun x => x.1 = 2 ∧ x.2 < P) (fun x => (R, x.2)) (fun _ => .slice none 0 0) K N (fun _ _ => []) := by
  refine ⟨fun _ _ => hl, fun i hi => ?_, fun i _ => free_blk h, fun i hi => ?_, (fun _ _ _ _ e => by cases e), (fun _ _ _ _ _ b e => by cases e), fun i j hi hj hne e => ?_⟩
  · rw [cell_blk h]
    simp [hi.2]
  · obtain ⟨a, b⟩ := i
    obtain ⟨h1, h2⟩ := hi
    dsimp only at h1
    subst h1
    exact World.ownsRow_nil _ _ _ _
  · have h2 := (Prod.mk.inj e).2
    exact hne (Prod.ext (hi.1.trans hj.1.symm) h2)
/-- they are read so whatever changes elsewhere -/
theorem GW.boxR {D : Nat → Prop} {c : Nat} (h : GW w lo (fun x => x.1 = 2 ∧ x.2 < P) (fun x => (R, x.2)) vs K N B) (hP : P ≤ 64) (hc : P ≤ c) (hl : ∀ t, t < P → (B 0 t).length ≤ 1000000) (hD : ¬ D R) (hDv : ∀ t, t < P → ∀ b, (vs (2, t)).ownBlock = some b → ¬ D b) :
    Stb D w fun w' => BoxR w' (.slice (some ⟨R, 0, none⟩) P c) ((List.range P).map (B 0)) := fun w' g =>
  NestA.cells (R := RowAt encM) (fun t => vs (2, t)) (B 0) (by omega) hc (fun t ht => g.cell (h.cell (2, t) ⟨rfl, ht⟩) hD) (fun t ht => slOf_owns (h.own (2, t) ⟨rfl, ht⟩)) (fun t ht => Stb.row (E := encM) (h.box (r := 0) (t := t) ⟨rfl, ht⟩) (hl t ht) (hDv t ht) w' g)
end
theorem mrT : SliceT Tryz.prog 75 87 (.slice none 0 0) 1 24 := ⟨Tryz.underlying75, by kernel_rfl, rfl, by decide⟩
theorem make_mrows (n : Nat) (hn : n ≤ 1000000) : ∀ w, (Instr.makeSlice 75 (.int .i64 (n : Int)) (.int .i64 (n : Int))).run Tryz.prog w = .ok (.slice (some ⟨w.heap.size, 0, none⟩) n n) (w.alloc (.cells ((List.range n).map fun _ => Value.slice none 0 0).toArray 87)) := by
  intro w
  obtain ⟨i, hi, hz, hs, hb⟩ := info_parts mrT.info
  have h := run_make (P := Tryz.prog) w 75 87 i (.slice none 0 0) Tryz.underlying75 hi hz .i64 .i64 (n : Int) (n : Int) (by omega) (Int.le_refl _) (by rw [hb]; omega) (by omega)
  rw [h, hs]
  simp only [Int.toNat_natCast, Nat.mul_one, Value.cells]
  have hm : madeCells #[Value.slice none 0 0] n = ((List.range n).map fun _ => Value.slice none 0 0).toArray := by
    apply Array.ext_getElem?
    intro j
    simp only [madeCells]
    by_cases hj : j < n
    · simp [hj, Nat.mod_one]
    · simp [hj]
  rw [hm]
end Go.Proofs.YtdkmdcdoiaelfaaGreat

namespace Go.Proofs.YtdkmdcdoiaelfaaGreat
open Go.RowKit Go.BigFrame

theorem sta1_any (v : Int) (W : World) : Calls Tryz.prog 38 #[.int .i64 v] W fun e W' => e = .returned (.bool true) ∧ ∃ m, W' = W.drewN m := by
  go_enter Tryz.func38, Tryz.ntmps38
  go_wp2
  go_ret
  exact ⟨rfl, 0, rfl⟩
theorem GridO.rowsX {w : World} {s g T m cap : Nat} {vs : Nat → Value} {Ls : Nat → List Int} (h : GridO w s g T m 3 1 vs (fun i => (Ls i).length) (fun i => intsV (Ls i))) (hm : m ≤ 1000000) (hc : m ≤ cap) (hl : ∀ i, i < m → (Ls i).length ≤ 70368744177664) (Q : Nat → Prop) (hg : Q g) (hQ : ∀ i, i < m → ∀ b, (vs i).ownBlock = some b → Q b) :
    RowsX Q w (.slice (some ⟨g, 0, none⟩) m cap) ((List.range m).map Ls) := by
  have hlen : ((List.range m).map Ls).length = m := by simp
  refine ⟨some ⟨g, 0, none⟩, cap, by rw [hlen], by rw [hlen]; exact hc, (fun e => by cases e), by rw [hlen]; exact hm, fun i L hL => ?_⟩
  have hi : i < m := by
    have := (List.getElem?_eq_some_iff.1 hL).1
    rw [hlen] at this; exact this
  rw [List.getElem?_map, List.getElem?_range hi] at hL
  obtain rfl := Option.some.inj hL
  obtain ⟨a2, c2, e, hi2, -⟩ := IntsAt.of_owns (h.own i hi) (hl i hi)
  have hcell := h.blk.cell i hi
  rw [e] at hcell
  refine ⟨g, 0, a2, c2, rfl, hg, by rw [Nat.zero_add]; exact hcell, hi2, fun p hp => ?_⟩
  refine hQ i hi _ ?_
  rw [e, hp]; rfl
theorem frees4 {w : World} {g T : Nat} {x y z u : Value} (h : w.heap[g]? = some (.cells #[x, y, z, u] T (0, 0))) : w.frozen? ⟨g, 0, none⟩ = false ∧ w.frozen? ⟨g, 1, none⟩ = false ∧ w.frozen? ⟨g, 2, none⟩ = false ∧ w.frozen? ⟨g, 3, none⟩ = false := ⟨free_blk h, free_blk h, free_blk h, free_blk h⟩
theorem set4all {w : World} {g T : Nat} {c0 c1 c2 c3 d0 d1 d2 d3 : Value} (h : w.heap[g]? = some (.cells #[c0, c1, c2, c3] T (0, 0))) : ((((w.setCell ⟨g, 0, none⟩ d0).setCell ⟨g, 1, none⟩ d1).setCell ⟨g, 2, none⟩ d2).setCell ⟨g, 3, none⟩ d3).heap[g]? = some (.cells #[d0, d1, d2, d3] T (0, 0)) := by
  have h0 := heap_setCell_same _ _ 0 _ _ d0 h
  have h1 := heap_setCell_same _ _ 1 _ _ d1 h0
  have h2 := heap_setCell_same _ _ 2 _ _ d2 h1
  have h3 := heap_setCell_same _ _ 3 _ _ d3 h2
  rw [h3]; rfl
theorem set4_below {w w' : World} (hb : Below w.heap.size w w') {g : Nat} (hg : w.heap.size ≤ g) (d0 d1 d2 d3 : Value) : Below w.heap.size w ((((w'.setCell ⟨g, 0, none⟩ d0).setCell ⟨g, 1, none⟩ d1).setCell ⟨g, 2, none⟩ d2).setCell ⟨g, 3, none⟩ d3) :=
  (((hb.setCell (p := ⟨g, 0, none⟩) hg _).setCell (p := ⟨g, 1, none⟩) hg _).setCell (p := ⟨g, 2, none⟩) hg _).setCell (p := ⟨g, 3, none⟩) hg _
theorem set4_grown (w : World) (g : Nat) (d0 d1 d2 d3 : Value) : w.grownBy ((((w.setCell ⟨g, 0, none⟩ d0).setCell ⟨g, 1, none⟩ d1).setCell ⟨g, 2, none⟩ d2).setCell ⟨g, 3, none⟩ d3) (some g) := grown_trans (grown_trans (grown_trans grown_store grown_store) grown_store) grown_store
theorem owns_fr {D : Nat → Prop} {w w1 : World} {base T size n : Nat} {v : Value} {xs : List Value} (h : w.ownsRow base T size v n xs) (hf : Fr D w w1) (hd : ∀ b, v.ownBlock = some b → ¬ D b) : w1.ownsRow base T size v n xs := by
  obtain ⟨hl, h | ⟨g, cp, cur, rfl, hg, hh, hr⟩⟩ := h
  · exact ⟨hl, .inl h⟩
  · exact ⟨hl, .inr ⟨g, cp, cur, rfl, hg, hf.blk hh (hd g rfl), hr⟩⟩
theorem OutS.fr {D : Nat → Prop} {w w' : World} {lo O : Nat} {c0 c1 c2 c3 c4 uK uB vK vB : Value} {i j : Nat} {LK : List (Sl × List Int)} {LB : List (Sl × List (List Msg))} (h : OutS w lo O c0 c1 c2 c3 c4 uK uB vK vB i j LK LB) (hf : Fr D w w') (h1 : ¬ D O) (h2 : ∀ b, vK.ownBlock = some b → ¬ D b) (h3 : ∀ b, vB.ownBlock = some b → ¬ D b) : OutS w' lo O c0 c1 c2 c3 c4 uK uB vK vB i j LK LB :=
  ⟨hf.blk h.blk h1, owns_fr h.ownK hf h2, owns_fr h.ownB hf h3, h.kO, h.bO, h.kb⟩
theorem intsV_set (l : List Int) (k : Nat) (x : Int) : (intsV l).toArray.setIfInBounds k (.int .i64 x) = (intsV (l.set k x)).toArray := by
  simp [intsV, List.map_set]
theorem WldAt.of {w : World} {n P : Nat} {es : List E2} {ow : Nat → Nat} {hv : List Int} {W : WdP} {ae ao ah ak ab : Option Addr} {ce co ch ck cb : Nat} (hE : EdgesAt w (.slice ae es.length ce) es) (hO : IntsAt w (.slice ao (owI n ow).length co) (owI n ow)) (hH : IntsAt w (.slice ah hv.length ch) hv)
    (hK : KnA w (.slice ak P ck) ((List.range P).map W.kn)) (hB : BoxA w (.slice ab P cb) ((List.range P).map fun r => (List.range P).map (W.bx r))) : WldAt w (.agg #[.int .i64 (n : Int), .slice ae es.length ce, .int .i64 (P : Int), .slice ao (owI n ow).length co, .slice ah hv.length ch, .slice ak P ck, .slice ab P cb]) (wdL n P es ow hv W) := by
  have h1 : (wdL n P es ow hv W).kn.length = P := by simp [wdL]
  have h2 : (wdL n P es ow hv W).bx.length = P := by simp [wdL]
  exact ⟨ae, ao, ah, ak, ab, ce, co, ch, ck, cb, by rw [h1, h2]; rfl, hE, hO, hH, by rw [h1]; exact hK, by rw [h2]; exact hB⟩
def outD (O : Nat) (vK vB : Value) (b : Nat) : Prop := b = O ∨ vK.ownBlock = some b ∨ vB.ownBlock = some b
def outZ (O Z : Nat) (vK vB : Value) (b : Nat) : Prop := outD O vK vB b ∨ b ≤ Z
/-- the world that Start makes, behind i workers -/
def StaS (w5 : World) (D0 : Nat → Prop) (lo O Z n P : Nat) (es : List E2) (ow : Nat → Nat) (c0 c1 c2 c3 c4 : Value) (i : Nat) (wr : World) : Prop :=
  ∃ (vK vB : Value) (LK : List (Sl × List Int)) (LB : List (Sl × List (List Msg))), OutS wr lo O c0 c1 c2 c3 c4 vK vB vK vB LK.length LB.length LK LB ∧ LK.map Prod.snd = (List.range i).map (staP es n P ow).kn ∧ LB.map Prod.snd = (List.range i).map (fun r => (List.range P).map ((staP es n P ow).bx r)) ∧
    Stb (outZ O Z vK vB) wr (fun w' => (∀ p ∈ LK, IntsAt w' (slV p.1) p.2) ∧ ∀ p ∈ LB, BoxR w' (slV p.1) p.2) ∧ Fr D0 w5 wr ∧ (∀ b, vK.ownBlock = some b → D0 b ∨ w5.heap.size ≤ b) ∧ (∀ b, vB.ownBlock = some b → D0 b ∨ w5.heap.size ≤ b)
/-- both rows have got one more -/
theorem StaS.next {w5 w11 W : World} {D0 : Nat → Prop} {lo O Z n P i : Nat} {es : List E2} {ow : Nat → Nat} {c0 c1 c2 c3 c4 vK vB vK' vB' : Value} {LK : List (Sl × List Int)} {LB : List (Sl × List (List Msg))} {sK sB : Sl} {x : List Int} {y : List (List Msg)}
    (hO : OutS W lo O c0 c1 c2 c3 c4 vK vB vK' vB' (LK ++ [(sK, x)]).length (LB ++ [(sB, y)]).length (LK ++ [(sK, x)]) (LB ++ [(sB, y)])) (hF : Fr (outD O vK vB) w11 W) (hK : ∀ b, vK'.ownBlock = some b → vK.ownBlock = some b ∨ w11.heap.size ≤ b) (hB : ∀ b, vB'.ownBlock = some b → vB.ownBlock = some b ∨ w11.heap.size ≤ b)
    (hLK : LK.map Prod.snd = (List.range i).map (staP es n P ow).kn) (hLB : LB.map Prod.snd = (List.range i).map (fun r => (List.range P).map ((staP es n P ow).bx r))) (hx : x = (staP es n P ow).kn i) (hy : y = (List.range P).map ((staP es n P ow).bx i))
    (hS : Stb (outZ O Z vK vB) w11 (fun w' => (∀ p ∈ LK, IntsAt w' (slV p.1) p.2) ∧ ∀ p ∈ LB, BoxR w' (slV p.1) p.2)) (hSK : Stb (outZ O Z vK vB) w11 fun w' => IntsAt w' (slV sK) x) (hSB : Stb (outZ O Z vK vB) w11 fun w' => BoxR w' (slV sB) y)
    (hF5 : Fr D0 w5 w11) (hK5 : ∀ b, vK.ownBlock = some b → D0 b ∨ w5.heap.size ≤ b) (hB5 : ∀ b, vB.ownBlock = some b → D0 b ∨ w5.heap.size ≤ b) (hO5 : D0 O) : StaS w5 D0 lo O Z n P es ow c0 c1 c2 c3 c4 (i + 1) ((W.setCell ⟨O, 5, none⟩ vK').setCell ⟨O, 6, none⟩ vB') := by
  have hg : W.grownBy ((W.setCell ⟨O, 5, none⟩ vK').setCell ⟨O, 6, none⟩ vB') (some O) := grown_trans grown_store grown_store
  have hFW := hF.grown hg (fun b e => .inl (.inl (Option.some.inj e).symm))
  have hz5 := hF5.size
  refine ⟨vK', vB', LK ++ [(sK, x)], LB ++ [(sB, y)], hO.store, ?_, ?_, ?_, hF5.trans hFW ?_, ?_, ?_⟩
  · rw [List.map_append, hLK, List.range_succ, List.map_append, hx]; rfl
  · rw [List.map_append, hLB, List.range_succ, List.map_append, hy]; rfl
  · have hall : Stb (outZ O Z vK vB) w11 (fun w' => (∀ p ∈ LK ++ [(sK, x)], IntsAt w' (slV p.1) p.2) ∧ ∀ p ∈ LB ++ [(sB, y)], BoxR w' (slV p.1) p.2) := fun w' g => ⟨fun p hp => by
      rcases List.mem_append.1 hp with hp | hp
      · exact (hS w' g).1 p hp
      · rw [List.mem_singleton] at hp; subst hp; exact hSK w' g, fun p hp => by
      rcases List.mem_append.1 hp with hp | hp
      · exact (hS w' g).2 p hp
      · rw [List.mem_singleton] at hp; subst hp; exact hSB w' g⟩
    refine hall.step hFW (fun b h => .inl (.inl h)) (fun b h => ?_)
    rcases h with (h | h | h) | h
    · exact .inl (.inl (.inl h))
    · rcases hK b h with h | h
      · exact .inl (.inl (.inr (.inl h)))
      · exact .inr h
    · rcases hB b h with h | h
      · exact .inl (.inl (.inr (.inr h)))
      · exact .inr h
    · exact .inl (.inr h)
  · intro b h
    rcases h with h | h | h
    · subst h; exact .inl hO5
    · exact hK5 b h
    · exact hB5 b h
  · intro b h
    rcases hK b h with h | h
    · exact hK5 b h
    · right; omega
  · intro b h
    rcases hB b h with h | h
    · exact hB5 b h
    · right; omega
set_option linter.unusedSimpArgs false in
set_option maxRecDepth 100000 in
set_option maxHeartbeats 6400000 in
theorem rdstartS_any (n P : Nat) (es : List E2) (ow : Nat → Nat) (hv : List Int) (ae ao ah : Option Addr) (ce co ch : Nat) (w : World) (hg : Valid n es) (hP : 1 ≤ P ∧ P ≤ 8) (how : ∀ v, v < n → ow v < P) (hhv : validZ none hv n = true) (hhl : hv.length ≤ 1000000)
    (he : EdgesAt w (.slice ae es.length ce) es) (ho : IntsAt w (.slice ao n co) (owI n ow)) (hh : IntsAt w (.slice ah hv.length ch) hv) (hol : LowV w.heap.size (.slice ao n co)) :
    Calls Tryz.prog 9 #[.agg #[.int .i64 (n : Int), .slice ae es.length ce], .agg #[.int .i64 (P : Int), .slice ao n co, .slice ah hv.length ch]] w fun e w' => ∃ v, e = .returned (.tuple #[v, .int .i64 0]) ∧ WldS w.heap.size w' v (wdL n P es ow hv (staP es n P ow)) ∧ Below w.heap.size w w' := by
  have hn64 : n ≤ 64 := by have := hg.2.1; omega
  have hel := hg.length_le
  obtain ⟨hX0, hb0⟩ := boxG_new w #[.int .i64 (n : Int), .slice ae es.length ce] 25
  obtain ⟨w1, hw1⟩ : ∃ W : World, W = w.alloc (.cells #[.int .i64 (n : Int), .slice ae es.length ce] 25) := ⟨_, rfl⟩
  have hz1 : w1.heap.size = w.heap.size + 1 := by rw [hw1]; simp
  rw [← hw1] at hX0 hb0
  obtain ⟨hY0, hb1⟩ := boxG_new w1 #[.int .i64 (P : Int), .slice ao n co, .slice ah hv.length ch] 27
  obtain ⟨w2, hw2⟩ : ∃ W : World, W = w1.alloc (.cells #[.int .i64 (P : Int), .slice ao n co, .slice ah hv.length ch] 27) := ⟨_, rfl⟩
  have hz2 : w2.heap.size = w.heap.size + 1 + 1 := by rw [hw2]; simp [hz1]
  rw [← hw2] at hY0 hb1
  obtain ⟨hZ0, hb2⟩ := boxG_new w2 #[.int .i64 0, .slice none 0 0, .int .i64 0, .slice none 0 0, .slice none 0 0, .slice none 0 0, .slice none 0 0] 36
  obtain ⟨wA, hwA⟩ : ∃ W : World, W = w2.alloc (.cells #[.int .i64 0, .slice none 0 0, .int .i64 0, .slice none 0 0, .slice none 0 0, .slice none 0 0, .slice none 0 0] 36) := ⟨_, rfl⟩
  rw [← hwA] at hZ0 hb2
  have hX1 := lit_next' hb2 (lit_next' hb1 hX0)
  have hY1 := lit_next' hb2 hY0
  have hbA := hb0.trans ((hb1.trans (hb2.mono hb1.size)).mono hb0.size)
  obtain ⟨X, hX⟩ : ∃ X, w.heap.size = X := ⟨_, rfl⟩
  rw [hz1] at hY1
  rw [hz2] at hZ0
  rw [hX] at hX1 hY1 hZ0
  have hwA3 : wA = ((w.alloc (.cells #[.int .i64 (n : Int), .slice ae es.length ce] 25)).alloc (.cells #[.int .i64 (P : Int), .slice ao n co, .slice ah hv.length ch] 27)).alloc (.cells #[.int .i64 0, .slice none 0 0, .int .i64 0, .slice none 0 0, .slice none 0 0, .slice none 0 0, .slice none 0 0] 36) := by rw [hwA, hw2, hw1]
  have HWA := Lib.hid hwA3
  have hch := rdcheck_any n P es (owI n ow) hv ae ao ah ce co ch wA (he.below hbA) (by rw [owI_length]; exact ho.below hbA) (hh.below hbA)
  rw [owI_length, flt_wd hg hP how hhv] at hch
  clear hX0 hY0 hb0 hb1 hb2 hz1 hz2 hw1 hw2 hwA hwA3 w1 w2
  have x0 : wA.cell? ⟨X, 0, none⟩ = some (.int .i64 (n : Int)) := cell_blk hX1
  have x1 : wA.cell? ⟨X, 1, none⟩ = some (.slice ae es.length ce) := cell_blk hX1
  have y0 : wA.cell? ⟨X + 1, 0, none⟩ = some (.int .i64 (P : Int)) := cell_blk hY1
  have y1 : wA.cell? ⟨X + 1, 1, none⟩ = some (.slice ao n co) := cell_blk hY1
  have y2 : wA.cell? ⟨X + 1, 2, none⟩ = some (.slice ah hv.length ch) := cell_blk hY1
  go_enter Tryz.func9, Tryz.ntmps9
  go_wp2_with (rw [← HWA.out])
  refine hch.mono ?_
  rintro e w1 ⟨rfl, hb1⟩
  have hX2 := lit_next' hb1 hX1
  have hY2 := lit_next' hb1 hY1
  have hZ2 := lit_next' hb1 hZ0
  have hbw1 := hbA.trans (hb1.mono hbA.size)
  have hZl : X + 2 < w1.heap.size := blk_lt hZ2
  have hXl : X < w1.heap.size := blk_lt hX2
  have hYl : X + 1 < w1.heap.size := blk_lt hY2
  clear hch x0 x1 y0 y1 y2 hX1 hY1 hZ0 hb1 hbA
  have x0 : w1.cell? ⟨X, 0, none⟩ = some (.int .i64 (n : Int)) := cell_blk hX2
  have x1 : w1.cell? ⟨X, 1, none⟩ = some (.slice ae es.length ce) := cell_blk hX2
  have y0 : w1.cell? ⟨X + 1, 0, none⟩ = some (.int .i64 (P : Int)) := cell_blk hY2
  have y1 : w1.cell? ⟨X + 1, 1, none⟩ = some (.slice ao n co) := cell_blk hY2
  have y2 : w1.cell? ⟨X + 1, 2, none⟩ = some (.slice ah hv.length ch) := cell_blk hY2
  go_upto_region 4 with fail
  go_cut [7] from 22 to 25 (fun cv wx => ∃ C N, cv = .pointer (some ⟨C, 0, none⟩) ∧ wx.heap[C]? = some (.cells #[.int .i64 (P : Int), .slice ao n co, .slice ah hv.length ch, .slice (some ⟨N, 0, none⟩) n n] 70 (0, 0)) ∧ RowsX (fun b => w1.heap.size ≤ b ∧ b < wx.heap.size ∧ b ≠ C) wx (.slice (some ⟨N, 0, none⟩) n n) (nearL es n) ∧ Below w1.heap.size w1 wx)
  case first =>
    have heA := he.below hbw1
    refine wp_region_heldK (k := 5) (S := fun b W => match b with | false => (W.cell? ⟨X, 0, none⟩ = some (.int .i64 (n : Int)) ∧ W.cell? ⟨X, 1, none⟩ = some (.slice ae es.length ce) ∧ W.cell? ⟨X + 1, 0, none⟩ = some (.int .i64 (P : Int)) ∧ W.cell? ⟨X + 1, 1, none⟩ = some (.slice ao n co) ∧ W.cell? ⟨X + 1, 2, none⟩ = some (.slice ah hv.length ch)) | true => True) (by kernel_rfl) ?_
    have hS0 : (w1.drew.cell? ⟨X, 0, none⟩ = some (.int .i64 (n : Int)) ∧ w1.drew.cell? ⟨X, 1, none⟩ = some (.slice ae es.length ce) ∧ w1.drew.cell? ⟨X + 1, 0, none⟩ = some (.int .i64 (P : Int)) ∧ w1.drew.cell? ⟨X + 1, 1, none⟩ = some (.slice ao n co) ∧ w1.drew.cell? ⟨X + 1, 2, none⟩ = some (.slice ah hv.length ch)) := ⟨x0, x1, y0, y1, y2⟩
    refine tkA 0 (.agg #[.int .i64 (P : Int), .slice ao n co, .slice ah hv.length ch]) false rfl (fun _ _ => trivial) false hS0 ?_
    refine tkA 1 (.agg #[.int .i64 (n : Int), .slice ae es.length ce]) false rfl (fun _ _ => trivial) false hS0 ?_
    try simp only [Act.put, List.setIfInBounds_toArray, List.set_cons_zero, List.set_cons_succ]
    refine wpAnyK_two (i := 2) (j := 4) (by kernel_rfl) rfl rfl (by rfl) (by rfl) (b := false) (b2 := false) (by kernel_rfl) (by kernel_rfl) (fun K hK => ?_) (fun K hK => ?_)
    · go_simp
      go_at_call 33
      refine (rdneigh_any n ae ce es w1.drew (heA.below (Below.refl _ _).drew) hg).mono ?_
      rintro e w2 ⟨N, rfl, hN, vs, hG, hb2'⟩
      have hb2 : Below w1.heap.size w1 w2 := (Below.refl w1.heap.size w1).drew.trans hb2'
      have hS2 : (w2.cell? ⟨X, 0, none⟩ = some (.int .i64 (n : Int)) ∧ w2.cell? ⟨X, 1, none⟩ = some (.slice ae es.length ce) ∧ w2.cell? ⟨X + 1, 0, none⟩ = some (.int .i64 (P : Int)) ∧ w2.cell? ⟨X + 1, 1, none⟩ = some (.slice ao n co) ∧ w2.cell? ⟨X + 1, 2, none⟩ = some (.slice ah hv.length ch)) := ⟨(hb2.cell (p := ⟨X, 0, none⟩) hXl).trans x0, (hb2.cell (p := ⟨X, 1, none⟩) hXl).trans x1, (hb2.cell (p := ⟨X + 1, 0, none⟩) hYl).trans y0, (hb2.cell (p := ⟨X + 1, 1, none⟩) hYl).trans y1, (hb2.cell (p := ⟨X + 1, 2, none⟩) hYl).trans y2⟩
      dsimp only
      refine hK.out _ _ hS2 ?_
      try simp only [Act.put, List.setIfInBounds_toArray, List.set_cons_zero, List.set_cons_succ]
      refine tkA 3 (.agg #[.int .i64 (P : Int), .slice ao n co, .slice ah hv.length ch, .slice (some ⟨N, 0, none⟩) n n]) true rfl (fun _ _ => trivial) false hS2 ?_
      try simp only [Act.put, List.setIfInBounds_toArray, List.set_cons_zero, List.set_cons_succ]
      refine wpAnyK_one (i := 4) (by kernel_rfl) rfl (by rfl) (b := false) (by kernel_rfl) (fun K hK => ?_)
      go_simp
      refine hK.out _ _ (show ((w2.alloc (.cells #[.int .i64 0, .slice none 0 0, .slice none 0 0, .slice none 0 0] 70)).cell? ⟨X, 0, none⟩ = some (.int .i64 (n : Int)) ∧ (w2.alloc (.cells #[.int .i64 0, .slice none 0 0, .slice none 0 0, .slice none 0 0] 70)).cell? ⟨X, 1, none⟩ = some (.slice ae es.length ce) ∧ (w2.alloc (.cells #[.int .i64 0, .slice none 0 0, .slice none 0 0, .slice none 0 0] 70)).cell? ⟨X + 1, 0, none⟩ = some (.int .i64 (P : Int)) ∧ (w2.alloc (.cells #[.int .i64 0, .slice none 0 0, .slice none 0 0, .slice none 0 0] 70)).cell? ⟨X + 1, 1, none⟩ = some (.slice ao n co) ∧ (w2.alloc (.cells #[.int .i64 0, .slice none 0 0, .slice none 0 0, .slice none 0 0] 70)).cell? ⟨X + 1, 2, none⟩ = some (.slice ah hv.length ch)) from ⟨cell_alloc hS2.1, cell_alloc hS2.2.1, cell_alloc hS2.2.2.1, cell_alloc hS2.2.2.2.1, cell_alloc hS2.2.2.2.2⟩) ?_
      try simp only [Act.put, List.setIfInBounds_toArray, List.set_cons_zero, List.set_cons_succ]
      refine wpAnyK_one (i := 5) (by kernel_rfl) rfl (by rfl) (b := true) (by kernel_rfl) (fun K hK => ?_)
      go_simp
      refine hK.out _ _ trivial (wpAnyK_done (by kernel_rfl) ?_ _)
      have hzd : w1.drew.heap.size = w1.heap.size := rfl
      have hC := heap_alloc_new w2 (.cells #[.int .i64 (P : Int), .slice ao n co, .slice ah hv.length ch, .slice (some ⟨N, 0, none⟩) n n] 70)
      have hbC : Below w2.heap.size w2 (w2.alloc (.cells #[.int .i64 (P : Int), .slice ao n co, .slice ah hv.length ch, .slice (some ⟨N, 0, none⟩) n n] 70)) := (Below.refl _ _).alloc (Nat.le_refl _) _
      have hzC : (w2.alloc (.cells #[.int .i64 (P : Int), .slice ao n co, .slice ah hv.length ch, .slice (some ⟨N, 0, none⟩) n n] 70)).heap.size = w2.heap.size + 1 := by simp
      have hR : RowsX (fun b => w1.heap.size ≤ b ∧ b < (w2.alloc (.cells #[.int .i64 (P : Int), .slice ao n co, .slice ah hv.length ch, .slice (some ⟨N, 0, none⟩) n n] 70)).heap.size ∧ b ≠ w2.heap.size) w2 (.slice (some ⟨N, 0, none⟩) n n) (nearL es n) := GridO.rowsX (Ls := fun i => castL (nbL es n i)) hG (by omega) (Nat.le_refl _) (fun i hi => by have := nb_lt hg i hi; rw [castL, List.length_map]; omega) _ (by have := hG.lt; have := hbC.size; exact ⟨by omega, by omega, by omega⟩) (fun i hi b e => by have := (hG.own i hi).lt b e; have := hbC.size; exact ⟨by omega, by omega, by omega⟩)
      go_wp2_with fail
      go_meet
      exact ⟨w2.heap.size, N, rfl, hC, hR.below hbC, hb2.trans (hbC.mono hb2.size)⟩
    · go_simp
      have hC0 := heap_alloc_new w1.drew (.cells #[.int .i64 0, .slice none 0 0, .slice none 0 0, .slice none 0 0] 70)
      have hbC : Below w1.heap.size w1 (w1.drew.alloc (.cells #[.int .i64 0, .slice none 0 0, .slice none 0 0, .slice none 0 0] 70)) := ((Below.refl w1.heap.size w1).drew).alloc (Nat.le_refl _) _
      have hzC : (w1.drew.alloc (.cells #[.int .i64 0, .slice none 0 0, .slice none 0 0, .slice none 0 0] 70)).heap.size = w1.drew.heap.size + 1 := by simp
      refine hK.out _ _ (show ((w1.drew.alloc (.cells #[.int .i64 0, .slice none 0 0, .slice none 0 0, .slice none 0 0] 70)).cell? ⟨X, 0, none⟩ = some (.int .i64 (n : Int)) ∧ (w1.drew.alloc (.cells #[.int .i64 0, .slice none 0 0, .slice none 0 0, .slice none 0 0] 70)).cell? ⟨X, 1, none⟩ = some (.slice ae es.length ce) ∧ (w1.drew.alloc (.cells #[.int .i64 0, .slice none 0 0, .slice none 0 0, .slice none 0 0] 70)).cell? ⟨X + 1, 0, none⟩ = some (.int .i64 (P : Int)) ∧ (w1.drew.alloc (.cells #[.int .i64 0, .slice none 0 0, .slice none 0 0, .slice none 0 0] 70)).cell? ⟨X + 1, 1, none⟩ = some (.slice ao n co) ∧ (w1.drew.alloc (.cells #[.int .i64 0, .slice none 0 0, .slice none 0 0, .slice none 0 0] 70)).cell? ⟨X + 1, 2, none⟩ = some (.slice ah hv.length ch)) from ⟨cell_alloc x0, cell_alloc x1, cell_alloc y0, cell_alloc y1, cell_alloc y2⟩) ?_
      try simp only [Act.put, List.setIfInBounds_toArray, List.set_cons_zero, List.set_cons_succ]
      refine wpAnyK_one (i := 2) (by kernel_rfl) rfl (by rfl) (b := false) (by kernel_rfl) (fun K hK => ?_)
      go_simp
      go_at_call 33
      refine (rdneigh_any n ae ce es _ (heA.below hbC) hg).mono ?_
      rintro e w2 ⟨N, rfl, hN, vs, hG, hb2'⟩
      have hb2 : Below w1.heap.size w1 w2 := hbC.trans (hb2'.mono hbC.size)
      have hS2 : (w2.cell? ⟨X, 0, none⟩ = some (.int .i64 (n : Int)) ∧ w2.cell? ⟨X, 1, none⟩ = some (.slice ae es.length ce) ∧ w2.cell? ⟨X + 1, 0, none⟩ = some (.int .i64 (P : Int)) ∧ w2.cell? ⟨X + 1, 1, none⟩ = some (.slice ao n co) ∧ w2.cell? ⟨X + 1, 2, none⟩ = some (.slice ah hv.length ch)) := ⟨(hb2.cell (p := ⟨X, 0, none⟩) hXl).trans x0, (hb2.cell (p := ⟨X, 1, none⟩) hXl).trans x1, (hb2.cell (p := ⟨X + 1, 0, none⟩) hYl).trans y0, (hb2.cell (p := ⟨X + 1, 1, none⟩) hYl).trans y1, (hb2.cell (p := ⟨X + 1, 2, none⟩) hYl).trans y2⟩
      have hC2 : w2.heap[w1.heap.size]? = _ := lit_next' hb2' hC0
      obtain ⟨k0, k1, k2, k3⟩ := cells4 hC2
      obtain ⟨f0, f1, f2, f3⟩ := frees4 hC2
      dsimp only
      refine hK.out _ _ hS2 ?_
      try simp only [Act.put, List.setIfInBounds_toArray, List.set_cons_zero, List.set_cons_succ]
      refine tkA 3 (.agg #[.int .i64 (P : Int), .slice ao n co, .slice ah hv.length ch, .slice (some ⟨N, 0, none⟩) n n]) true rfl (fun _ _ => trivial) false hS2 ?_
      try simp only [Act.put, List.setIfInBounds_toArray, List.set_cons_zero, List.set_cons_succ]
      refine wpAnyK_one (i := 5) (by kernel_rfl) rfl (by rfl) (b := true) (by kernel_rfl) (fun K hK => ?_)
      go_simp
      refine hK.out _ _ trivial (wpAnyK_done (by kernel_rfl) ?_ _)
      have hzd : w1.drew.heap.size = w1.heap.size := rfl
      have hC3 := set4all (d0 := .int .i64 (P : Int)) (d1 := .slice ao n co) (d2 := .slice ah hv.length ch) (d3 := .slice (some ⟨N, 0, none⟩) n n) hC2
      have hg4 := set4_grown w2 w1.heap.size (.int .i64 (P : Int)) (.slice ao n co) (.slice ah hv.length ch) (.slice (some ⟨N, 0, none⟩) n n)
      have hb4 := set4_below hb2 (g := w1.heap.size) (Nat.le_refl _) (.int .i64 (P : Int)) (.slice ao n co) (.slice ah hv.length ch) (.slice (some ⟨N, 0, none⟩) n n)
      have hR : RowsX (fun b => w1.heap.size ≤ b ∧ b < ((((w2.setCell ⟨w1.heap.size, 0, none⟩ (.int .i64 (P : Int))).setCell ⟨w1.heap.size, 1, none⟩ (.slice ao n co)).setCell ⟨w1.heap.size, 2, none⟩ (.slice ah hv.length ch)).setCell ⟨w1.heap.size, 3, none⟩ (.slice (some ⟨N, 0, none⟩) n n)).heap.size ∧ b ≠ w1.heap.size) w2 (.slice (some ⟨N, 0, none⟩) n n) (nearL es n) := GridO.rowsX (Ls := fun i => castL (nbL es n i)) hG (by omega) (Nat.le_refl _) (fun i hi => by have := nb_lt hg i hi; rw [castL, List.length_map]; omega) _ (by have := hG.lt; have := hg4.size; exact ⟨by omega, by omega, by omega⟩) (fun i hi b e => by have := (hG.own i hi).lt b e; have := hg4.size; exact ⟨by omega, by omega, by omega⟩)
      go_wp2_with fail
      go_meet
      exact ⟨w1.heap.size, N, rfl, hC3, hR.grown hg4 (fun b hq e => hq.2.2 (Option.some.inj e).symm), hb4⟩

  case rest =>
    obtain ⟨C, N, rfl, hC3, hN3, hb3⟩ := hcut
    obtain ⟨Z, hZe⟩ : ∃ Z, X + 1 + 1 = Z := ⟨_, rfl⟩
    have hX3 := lit_next' hb3 hX2
    have hY3 := lit_next' hb3 hY2
    have hZ3 := lit_next' hb3 hZ2
    rw [hZe] at hZ3 ⊢
    have hbw3 := hbw1.trans (hb3.mono hbw1.size)
    have hzc := hb3.size
    have hwc0 := hbw3.size
    have heC := he.below hbw3
    have hoC := ho.below hbw3
    have hhC := hh.below hbw3
    clear x0 x1 y0 y1 y2 hX2 hY2 hZ2 hb3 hbw1
    have x0 : wc.cell? ⟨X, 0, none⟩ = some (.int .i64 (n : Int)) := cell_blk hX3
    have x1 : wc.cell? ⟨X, 1, none⟩ = some (.slice ae es.length ce) := cell_blk hX3
    have y0 : wc.cell? ⟨X + 1, 0, none⟩ = some (.int .i64 (P : Int)) := cell_blk hY3
    have y1 : wc.cell? ⟨X + 1, 1, none⟩ = some (.slice ao n co) := cell_blk hY3
    have y2 : wc.cell? ⟨X + 1, 2, none⟩ = some (.slice ah hv.length ch) := cell_blk hY3
    have hcp := rdcopy0_any n P es (owI n ow) hv ae ao ah ce co ch wc heC (by omega) (by rw [owI_length]; exact hoC) (by rw [owI_length]; omega) hhC hhl
    rw [owI_length] at hcp
    go_wp2_with fail
    refine hcp.mono ?_
    rintro e w4 hpost
    obtain ⟨ae1, ao1, ah1, ce1, co1, ch1, ak, ck, ab, cb, lo, rfl, hE4, hO4, hH4, hLE, hLO, hLH, hlo, hlo4, hwK, hwB, hap, hb4⟩ := hpost
    obtain ⟨hO0, hb5⟩ := boxG_new w4 #[.int .i64 (n : Int), .slice ae1 es.length ce1, .int .i64 (P : Int), .slice ao1 (owI n ow).length co1, .slice ah1 hv.length ch1, .slice ak 0 ck, .slice ab 0 cb] 36
    obtain ⟨w5, hw5⟩ : ∃ W : World, W = w4.alloc (.cells #[.int .i64 (n : Int), .slice ae1 es.length ce1, .int .i64 (P : Int), .slice ao1 (owI n ow).length co1, .slice ah1 hv.length ch1, .slice ak 0 ck, .slice ab 0 cb] 36) := ⟨_, rfl⟩
    rw [← hw5] at hO0 hb5
    have hz5 : w5.heap.size = w4.heap.size + 1 := by rw [hw5]; simp
    have HW5 := Lib.hid hw5
    have hb4c := hb4.trans (hb5.mono hb4.size)
    have hX5 := lit_next' hb4c hX3
    have hY5 := lit_next' hb4c hY3
    have hw4c := hb4.size
    have hwK5 := hwK.kept (grown_of_below hb5) (Classical.em _)
    have hwB5 := hwB.kept (grown_of_below hb5) (Classical.em _)
    have hE5 := hE4.below hb5
    have hO5 := hO4.below hb5
    have hH5 := hH4.below hb5
    have hKl := hwK.lt
    have hBl := hwB.lt
    obtain ⟨O, hOe⟩ : ∃ O, w4.heap.size = O := ⟨_, rfl⟩
    rw [hOe] at hO0 hz5
    clear x0 x1 y0 y1 y2 hcp hw5 hE4 hO4 hH4 hwK hwB hb4 hb5
    have y0 : w5.cell? ⟨X + 1, 0, none⟩ = some (.int .i64 (P : Int)) := cell_blk hY5
    have hD0 : ∀ b, outD O (.slice ak 0 ck) (.slice ab 0 cb) b → lo ≤ b := fun b h => by
      rcases h with h | h | h
      · omega
      · exact (hKl b h).1
      · exact (hBl b h).1
    have hJ0 : StaS w5 (outD O (.slice ak 0 ck) (.slice ab 0 cb)) lo O Z n P es ow (.int .i64 (n : Int)) (.slice ae1 es.length ce1) (.int .i64 (P : Int)) (.slice ao1 (owI n ow).length co1) (.slice ah1 hv.length ch1) 0 w5 := ⟨_, _, [], [], ⟨hO0, hwK5, hwB5, fun e => by have := (hKl _ e).2; omega, fun e => by have := (hBl _ e).2; omega, hap⟩, rfl, rfl, fun w' _ => ⟨by simp, by simp⟩, Fr.refl _ _, fun b h => .inl (.inr (.inl h)), fun b h => .inl (.inr (.inr h))⟩
    have hKD : ∀ b, (Value.slice ak 0 ck).ownBlock = some b → outD O (.slice ak 0 ck) (.slice ab 0 cb) b := fun b h => .inr (.inl h)
    obtain ⟨D0, hD0e⟩ : ∃ D, outD O (.slice ak 0 ck) (.slice ab 0 cb) = D := ⟨_, rfl⟩
    have hDO : D0 O := by rw [← hD0e]; exact .inl rfl
    rw [hD0e] at hJ0 hD0
    clear hD0e hKD hwK5 hwB5 hap hKl hBl hO0
    have y0u : (w4.alloc (.cells #[.int .i64 (n : Int), .slice ae1 es.length ce1, .int .i64 (P : Int), .slice ao1 (owI n ow).length co1, .slice ah1 hv.length ch1, .slice ak 0 ck, .slice ab 0 cb] 36)).cell? ⟨X + 1, 0, none⟩ = some (.int .i64 (P : Int)) := by rw [← HW5.out]; exact y0
    go_wp2_with fail
    rw [← HW5.out]
    clear y0 y0u
    go_loopw [32] (fun vi wr => ∃ i : Nat, i ≤ P ∧ vi = .int .i64 (i : Int) ∧ StaS w5 D0 lo O Z n P es ow (.int .i64 (n : Int)) (.slice ae1 es.length ce1) (.int .i64 (P : Int)) (.slice ao1 (owI n ow).length co1) (.slice ah1 hv.length ch1) i wr) (fun vi _ => P - (intOf vi).toNat)
    case atStart => exact ⟨0, Nat.zero_le _, rfl, hJ0⟩
    case round =>
      clear hJ0
      obtain ⟨i, hi, rfl, vK, vB, LK, LB, hOut, hLK, hLB, hSt, hF5, hK5, hB5⟩ := hrel
      have hlK : LK.length = i := by have := congrArg List.length hLK; simpa using this
      have hlB : LB.length = i := by have := congrArg List.length hLB; simpa using this
      have hbr : Below wc.heap.size wc wr := hb4c.trans (hF5.below (fun b h => by have := hD0 b h; omega) hb4c.size)
      have hXr := lit_next' hbr hX3
      have hYr := lit_next' hbr hY3
      have hCr := lit_next' hbr hC3
      have hNr := hN3.below hbr
      have hor := hoC.below hbr
      have hzr := hbr.size
      by_cases hlt : i < P
      · have hlt3 : (i : Int) < P := by omega
        have x0 : wr.cell? ⟨X, 0, none⟩ = some (.int .i64 (n : Int)) := cell_blk hXr
        obtain ⟨hl0, hba⟩ := boxG_new wr #[.int .i64 (n : Int)] 3
        have hrep := rep_any (n : Int) n wr.heap.size 3 (wr.alloc (.cells #[.int .i64 (n : Int)] 3)) hn64 hl0
        have hza : (wr.alloc (.cells #[.int .i64 (n : Int)] 3)).heap.size = wr.heap.size + 1 := by simp
        have xa0 : (wr.alloc (.cells #[.int .i64 (n : Int)] 3)).cell? ⟨X, 0, none⟩ = some (.int .i64 (n : Int)) := cell_alloc x0
        go_wp2_with fail
        refine hrep.mono ?_
        rintro e w6 ⟨g, rfl, hgl, hgb, hb6⟩
        rw [hza] at hgl
        have hb6r : Below wr.heap.size wr w6 := hba.trans (hb6.mono hba.size)
        have hX6 := lit_next' hb6r hXr
        have hY6 := lit_next' hb6r hYr
        have hC6 := lit_next' hb6r hCr
        have hN6 := hNr.below hb6r
        have ho6 := hor.below hb6r
        rw [← begK_zero es n ow i] at hgb
        have hg6 : g < w6.heap.size := blk_lt hgb
        have hz6 := hb6r.size
        have hlwo := hbr.size
        have houtl : ∀ b, outD O vK vB b → b < w6.heap.size ∧ b < g := fun b h => by
          rcases h with h | h | h
          · have := blk_lt hOut.blk; omega
          · have := (hOut.ownK.lt b h).2; omega
          · have := (hOut.ownB.lt b h).2; omega
        have hOut6 := hOut.below hb6r
        have hSt6 : Stb (fun b => outZ O Z vK vB b ∨ b = g) w6 _ := hSt.step (Fr.of_below (D := fun _ => False) hb6r) (fun b h => h.elim) (fun b h => h.elim .inl (fun e => .inr (by omega)))
        have hF6 := hF5.trans (Fr.of_below (D := fun _ => False) hb6r) (fun b h => h.elim)
        have hg5 : w5.heap.size ≤ g := by have := hF5.size; omega
        have hCl : C < wc.heap.size := blk_lt hC3
        clear x0 xa0 hrep hl0 hba hza hb6
        have k1 : w6.cell? ⟨C, 3, none⟩ = some (.slice (some ⟨N, 0, none⟩) n n) := cell_blk hC6
        go_wp2_with fail
        clear k1
        go_loopw [44] (fun vk wi => ∃ k : Nat, k ≤ n ∧ vk = .int .i64 (k : Int) ∧ wi.heap[g]? = some (.cells (intsV (begK es n ow i k)).toArray 3 (0, 0)) ∧ Fr (fun b => b = g) w6 wi) (fun vk _ => n - (intOf vk).toNat)
        case atStart => exact ⟨0, Nat.zero_le _, rfl, hgb, Fr.refl _ _⟩
        case round =>
          clear hgb
          obtain ⟨k, hkn, rfl, hgk, hFk⟩ := hrel
          have hXk := hFk.blk hX6 (fun e => by omega)
          have hYk := hFk.blk hY6 (fun e => by omega)
          have hCk := hFk.blk hC6 (fun e => by omega)
          have hok := hFk.ints ho6 (fun n' c' p e q => by have := hol n' c' p e; omega)
          have hNk := hFk.rows hN6 (fun b hq e => by have := hq.2.1; omega)
          by_cases hltk : k < n
          · have hlt4 : (k : Int) < n := by omega
            obtain ⟨-, bN, offN, a2, c2, e, hcN, hqN, hcell, hir, -⟩ := hNk.at k _ (nearL_get es n k hltk)
            cases e
            have hcl : (castL (nbL es n k)).length = (nbL es n k).length := by rw [castL, List.length_map]
            rw [hcl] at hcell
            rw [Nat.zero_add] at hcell
            have hok2 : IntsAt wr (.slice ao (owI n ow).length co) (owI n ow) := by rw [owI_length]; exact hok
            obtain ⟨bo, oo, y, rfl, hy, -, -, co0⟩ := hok2.at k (by rw [owI_length]; exact hltk)
            rw [owI_get n ow k hltk] at hy
            obtain rfl := (Option.some.inj hy).symm
            have y1 : wr.cell? ⟨X + 1, 1, none⟩ = some (.slice (some ⟨bo, oo, none⟩) n co) := cell_blk hYk
            clear hok2 hir hcl hy
            by_cases hoi : ow k = i
            · have hst := heap_setCell_same _ _ k _ _ (.int .i64 ((nbL es n k).length : Int)) hgk
              rw [intsV_set, begK_set es n ow i k hltk hoi] at hst
              have cg : wr.cell? ⟨g, k, none⟩ = some (.int .i64 ((begK es n ow i k)[k]'(by rw [begK_len]; exact hltk))) := by
                rw [cell_blk hgk]; simp [intsV, begK_len, hltk]
              have fg : wr.frozen? ⟨g, k, none⟩ = false := free_blk hgk
              have hoi2 : ((ow k : Nat) : Int) = (i : Int) := by omega
              go_wp2_with fail
              go_roundw
              case rel => exact ⟨k + 1, by omega, by go_num, hst, hFk.grown grown_store (fun b e => .inl (Option.some.inj e).symm)⟩
              case measure => simp [intOf]; omega
            · rw [← begK_no es n ow i k hoi] at hgk
              have hoi2 : ¬ ((ow k : Nat) : Int) = (i : Int) := by omega
              go_wp2_with fail
              go_roundw
              case rel => exact ⟨k + 1, by omega, by go_num, hgk, hFk⟩
              case measure => simp [intOf]; omega
          · have hkn2 : k = n := by omega
            rw [hkn2, begK_all] at hgk
            have k0 : wr.cell? ⟨C, 0, none⟩ = some (.int .i64 (P : Int)) := cell_blk hCk
            have k1 : wr.cell? ⟨C, 1, none⟩ = some (.slice ao n co) := cell_blk hCk
            have k2 : wr.cell? ⟨C, 2, none⟩ = some (.slice ah hv.length ch) := cell_blk hCk
            have k3 : wr.cell? ⟨C, 3, none⟩ = some (.slice (some ⟨N, 0, none⟩) n n) := cell_blk hCk
            obtain ⟨hB8, hb8⟩ := boxG_new wr #[.int .i64 (P : Int), .slice ao n co, .slice ah hv.length ch, .slice (some ⟨N, 0, none⟩) n n, .int .i64 (i : Int), .slice (some ⟨g, 0, none⟩) n n] 74
            obtain ⟨w8, hw8⟩ : ∃ W : World, W = wr.alloc (.cells #[.int .i64 (P : Int), .slice ao n co, .slice ah hv.length ch, .slice (some ⟨N, 0, none⟩) n n, .int .i64 (i : Int), .slice (some ⟨g, 0, none⟩) n n] 74) := ⟨_, rfl⟩
            have hz8 : w8.heap.size = wr.heap.size + 1 := by rw [hw8]; simp
            rw [← hw8] at hB8 hb8
            have hgw : g < wr.heap.size := blk_lt hgk
            have hg8 := lit_next' hb8 hgk
            have hok8 := hok.below hb8
            have hNk8 := hNk.below hb8
            have hbl : (beg es n ow i).length = n := fnL_length _ _
            have hown8 : w8.ownsRow g 3 1 (.slice (some ⟨g, 0, none⟩) n n) n (intsV (beg es n ow i)) := by
              have h1 := ownsI_blk (lo := g) hg8 (Nat.le_refl _) (by omega)
              rw [hbl] at h1; exact h1
            have hSW : SetW w8 g n es ow ao (some ⟨N, 0, none⟩) (some ⟨g, 0, none⟩) co n n (beg es n ow i) := ⟨hown8, hok8, fun b e n' c p ep => by
              have e1 : g = b := Option.some.inj e
              have := hol n' c p ep
              omega, hNk8.imp (fun b hq e => by
              have e1 : g = b := Option.some.inj e
              have := hq.2.1
              omega)⟩
            have hset := rdsettle_any n i P (.slice ah hv.length ch) es ow ao (some ⟨N, 0, none⟩) (some ⟨g, 0, none⟩) co n n g (beg es n ow i) w8 hn64 hSW
            obtain ⟨Bx, hBx⟩ : ∃ B, wr.heap.size = B := ⟨_, rfl⟩
            rw [hBx] at hB8 hz8 hgw
            obtain ⟨b0, b1, b2, b3, b4, b5⟩ := cells6 hB8
            obtain ⟨d0, d1, d2, d3, d4, d5⟩ := cells6 hB8
            rw [hw8] at b0 b1 b2 b3 b4 b5
            have HW8 := Lib.hid hw8
            clear hw8
            go_wp2_with (rw [← HW8.out])
            refine hset.mono ?_
            rintro e w9 ⟨rfl, hown9, hg9⟩
            have hF9 : Fr (fun b => b = g) w6 w9 := (hFk.trans (Fr.of_below (D := fun _ => False) hb8) (fun b h => h.elim)).grown hg9 (fun b e => .inl (Option.some.inj e).symm)
            have hB9 := grown_blk hg9 hB8 (fun e => by have e1 : Bx = g := Option.some.inj e; omega)
            have hY9 := hF9.blk hY6 (fun e => by omega)
            have hO9 := hF9.ints ho6 (fun n' c' p e q => by have := hol n' c' p e; omega)
            have hN9 := hF9.rows hN6 (fun b hq e => by have := hq.2.1; omega)
            have hz9 := hg9.size
            clear d0 d1 d2 d3 d4 d5 b0 b1 b2 b3 b4 b5 k0 k1 k2 k3 hset hSW hown8 hNk8 hok8 hg8 hb8 hB8 hNk hok hCk hYk hXk hgk
            have hmk := make_mrows P (by omega)
            obtain ⟨hR0, hb10⟩ := boxG_new w9 ((List.range P).map fun _ => Value.slice none 0 0).toArray 87
            obtain ⟨w10, hw10⟩ : ∃ W : World, W = w9.alloc (.cells ((List.range P).map fun _ => Value.slice none 0 0).toArray 87) := ⟨_, rfl⟩
            have hz10 : w10.heap.size = w9.heap.size + 1 := by rw [hw10]; simp
            rw [← hw10] at hR0 hb10
            have hB10 := lit_next' hb10 hB9
            have hO10 := hO9.below hb10
            have hN10 := hN9.below hb10
            have hown10 := hown9.kept (grown_of_below hb10) (Classical.em _)
            obtain ⟨R, hR⟩ : ∃ R, w9.heap.size = R := ⟨_, rfl⟩
            rw [hR] at hR0 hz10 hz9
            obtain ⟨x, hx⟩ : ∃ x, setX es n ow i (beg es n ow i) = x := ⟨_, rfl⟩
            rw [hx] at hown9 hown10
            have hxl : x.length = n := by rw [← hx]; exact (setX_dn _).1.trans hbl
            have hTD : ∀ b, tellD R P 0 (fun _ => .slice none 0 0) b → b = R := fun b h => by
              rcases h with h | ⟨t, _, h⟩
              · exact h
              · cases h
            have hGW := GW.made (lo := g) (P := P) (fun _ => []) (fun _ => []) hR0 (by omega)
            have htl := rdtellS_any n P i 0 R P g (.slice ah hv.length ch) es ow ao (some ⟨N, 0, none⟩) (some ⟨g, 0, none⟩) co n n g x (fun _ => true) (fun x => x.1 = 2 ∧ x.2 < P) (fun x => (R, x.2)) (fun _ => .slice none 0 0) (fun _ => []) (fun _ => []) (fun _ _ => []) (fun b => w1.heap.size ≤ b ∧ b < wc.heap.size ∧ b ≠ C) w10 hn64 (by omega) how (by omega) hGW (fun t ht => ⟨rfl, ht⟩) (fun t _ => rfl) (Nat.le_refl _) (by omega) hO10 (fun n' c p e h => by have := hTD _ h; have := hol n' c p e; omega) hN10 (fun b hq h => by have := hTD _ h; have := hq.2.1; omega) (fun k hk => ⟨rfl, by
              obtain ⟨g', cap', e', -, -, -, -, hc⟩ := ownsI_at hown10 (by omega)
              cases e'
              have hk2 : x[k]? = some (x.getD k 0) := by rw [List.getD_eq_getElem?_getD, List.getElem?_eq_getElem (show k < x.length by omega)]; rfl
              exact hc k _ hk2⟩) (fun h => by have := hTD _ h; omega) (Nat.le_refl _) (fun t _ => by simp) (fun v _ W _ => sta1_any v W)
            have y0 : w9.cell? ⟨X + 1, 0, none⟩ = some (.int .i64 (P : Int)) := cell_blk hY9
            obtain ⟨b0, b1, b2, b3, b4, b5⟩ := cells6 hB10
            obtain ⟨d0, d1, d2, d3, d4, d5⟩ := cells6 hB10
            rw [hw10] at b0 b1 b2 b3 b4 b5
            have HW10 := Lib.hid hw10
            clear hw10
            go_wp2_with (rw [← HW10.out])
            refine htl.mono ?_
            rintro e w11 ⟨rfl, vs', hGW11, hFT, hfr, -⟩
            clear htl hmk d0 d1 d2 d3 d4 d5 b0 b1 b2 b3 b4 b5 y0
            have hF11 : Fr (fun b => b = g) w6 w11 := (hF9.trans (Fr.of_below (D := fun _ => False) hb10) (fun b h => h.elim)).trans hFT (fun b h => by have := hTD _ h; have := hF9.size; omega)
            have hown11 := owns_fr hown10 hFT (fun b e h => by have := hTD _ h; have e1 : g = b := Option.some.inj e; omega)
            have hSK : Stb (outZ O Z vK vB) w11 fun w' => IntsAt w' (slV (some ⟨g, 0, none⟩, n, n)) x := Stb.ints (by rw [hxl]; exact hown11) (by omega) (fun b e h => by
              have e1 : g = b := Option.some.inj e
              rcases h with h | h
              · have := (houtl b h).2; omega
              · omega)
            have hSB0 := hGW11.boxR (D := outZ O Z vK vB) (c := P) (by omega) (Nat.le_refl _) (fun t ht => by
              have h1 := telK_len es n P ow i x (fun _ => true) n t
              rw [telK_all] at h1
              simp; omega) (fun h => by
              have := hF9.size
              rcases h with h | h
              · have := (houtl _ h).1; omega
              · omega) (fun t ht b e h => by
              have h2 : b < g := h.elim (fun h => (houtl b h).2) (fun h => by omega)
              have h3 := hF9.size
              rcases hfr t ht b e with h4 | h4
              · have := hTD _ h4; omega
              · omega)
            have hBe : (List.range P).map ((fun (r' t' : Nat) => if r' = 0 then ([] : List Msg) ++ telL es n P ow i x (fun _ => true) t' else []) 0) = (List.range P).map ((staP es n P ow).bx i) := by
              apply List.map_congr_left
              intro t _
              simp [staP, hx]
            have hSB : Stb (outZ O Z vK vB) w11 fun w' => BoxR w' (slV (some ⟨R, 0, none⟩, P, P)) ((List.range P).map ((staP es n P ow).bx i)) := by
              rw [← hBe]; exact hSB0
            have hOut11 := hOut6.fr hF11 (fun e => by have := (houtl O (.inl rfl)).2; omega) (fun b e h => by have := (houtl b (.inr (.inl e))).2; omega) (fun b e h => by have := (houtl b (.inr (.inr e))).2; omega)
            have hSt11 := hSt6.step hF11 (fun b e => .inl (.inr e)) (fun b h => .inl (.inl h) : ∀ b, outZ O Z vK vB b → _)
            have hF511 := hF6.trans hF11 (fun b e => .inr (by omega))
            have hlo11 : lo ≤ w11.heap.size := by have := hF511.size; omega
            clear hSB0 hBe hGW11 hGW hown11 hown10 hown9 hFT hfr hTD hN10 hO10 hB10 hR0 hN9 hO9 hY9 hB9 hg9
            go_upto_region 20 with fail
            refine wp_region_heldK (k := 11) (S := fun b W => match b with | false => (W.cell? ⟨O, 5, none⟩ = some vK ∧ W.cell? ⟨O, 6, none⟩ = some vB) | true => True) (by kernel_rfl) ?_
            obtain ⟨LK2, hEK⟩ : ∃ L, LK ++ [(((some ⟨g, 0, none⟩, n, n) : Sl), x)] = L := ⟨_, rfl⟩
            obtain ⟨LB2, hEB⟩ : ∃ L, LB ++ [(((some ⟨R, 0, none⟩, P, P) : Sl), (List.range P).map ((staP es n P ow).bx i))] = L := ⟨_, rfl⟩
            have hzd : w11.drew.heap.size = w11.heap.size := rfl
            have hOd := hOut11.below ((Below.refl w11.heap.size w11).drew)
            have hFd : Fr (outD O vK vB) w11 w11.drew := Fr.of_below ((Below.refl w11.heap.size w11).drew)
            have hS0 : w11.drew.cell? ⟨O, 5, none⟩ = some vK ∧ w11.drew.cell? ⟨O, 6, none⟩ = some vB := ⟨cell_blk hOd.blk, cell_blk hOd.blk⟩
            refine tkA 0 (.pointer (some ⟨O, 5, none⟩)) true rfl (fun _ _ => trivial) false hS0 ?_
            refine tkA 1 (vK) false rfl (fun _ _ => trivial) false hS0 ?_
            refine tkA 2 (.slice (some ⟨g, 0, none⟩) n n) true rfl (fun _ _ => trivial) false hS0 ?_
            refine tkA 5 (.pointer (some ⟨O, 6, none⟩)) true rfl (fun _ _ => trivial) false hS0 ?_
            refine tkA 6 (vB) false rfl (fun _ _ => trivial) false hS0 ?_
            refine tkA 7 (.slice (some ⟨R, 0, none⟩) P P) true rfl (fun _ _ => trivial) false hS0 ?_
            try simp only [Act.put, List.setIfInBounds_toArray, List.set_cons_zero, List.set_cons_succ]
            refine wpAnyK_two (i := 3) (j := 8) (by kernel_rfl) rfl rfl (by rfl) (by rfl) (b := false) (b2 := false) (by kernel_rfl) (by kernel_rfl) (fun K hK => ?_) (fun K hK => ?_)
            · go_simp
              have ha1 : Below w11.drew.heap.size w11.drew (w11.drew.alloc (.cells #[.slice (some ⟨g, 0, none⟩) n n] 22)) := (Below.refl _ _).alloc (Nat.le_refl _) _
              have hO1 := hOd.below ha1
              have hF1 := hFd.trans (Fr.of_below (D := fun _ => False) ha1) (fun b h => h.elim)
              have hLK1 := rows_lit1 (E := encP (List Int)) w11.drew (((some ⟨g, 0, none⟩, n, n), x)) 22 #[.slice (some ⟨g, 0, none⟩) n n] rfl
              refine hK.out _ _ ⟨cell_blk hO1.blk, cell_blk hO1.blk⟩ ?_
              try simp only [Act.put, List.setIfInBounds_toArray, List.set_cons_zero, List.set_cons_succ]
              refine wpAnyK_two (i := 4) (j := 8) (by kernel_rfl) rfl rfl (by rfl) (by rfl) (b := false) (b2 := false) (by kernel_rfl) (by kernel_rfl) (fun K hK => ?_) (fun K hK => ?_)
              · refine wp_app_rows_at (rrT (List Int)) (.tmp 75) (.tmp 77) rfl lo vK _ LK [((some ⟨g, 0, none⟩, n, n), x)] rfl hO1.ownK rfl hLK1 (by rw [hlK, List.length_singleton]; omega) (by rw [hlK, List.length_singleton]; omega) (Nat.le_trans hlo11 hF1.size) ?_
                intro vK' wK hownK hgK hatK
                have hO2 := hO1.appK hownK hgK hatK
                have hF2 := hF1.grown hgK (fun b e => .inl (.inr (.inl e)))
                have hfrK : ∀ b, vK'.ownBlock = some b → vK.ownBlock = some b ∨ w11.heap.size ≤ b := fun b e => by
                  rcases hatK with h | h
                  · left; rw [← h]; exact e
                  · right; rw [h] at e; have e1 : _ = b := Option.some.inj e; rw [← e1]; exact hF1.size
                rw [hEK] at hO2
                obtain ⟨aK, cK, hsK⟩ := owns_shape hO2.ownK
                subst hsK
                have hCK : wK.cell? ⟨O, 5, none⟩ = some vK ∧ wK.cell? ⟨O, 6, none⟩ = some vB := ⟨cell_blk hO2.blk, cell_blk hO2.blk⟩
                refine hK.out _ _ hCK ?_
                try simp only [Act.put, List.setIfInBounds_toArray, List.set_cons_zero, List.set_cons_succ]
                refine tkA 10 (.pointer (some ⟨O, 5, none⟩)) true rfl (fun _ _ => trivial) false hCK ?_
                try simp only [Act.put, List.setIfInBounds_toArray, List.set_cons_zero, List.set_cons_succ]
                refine wpAnyK_one (i := 8) (by kernel_rfl) rfl (by rfl) (b := false) (by kernel_rfl) (fun K hK => ?_)
                go_simp
                have ha3 : Below wK.heap.size wK (wK.alloc (.cells #[.slice (some ⟨R, 0, none⟩) P P] 75)) := (Below.refl _ _).alloc (Nat.le_refl _) _
                have hO3 := hO2.below ha3
                have hF3 := hF2.trans (Fr.of_below (D := fun _ => False) ha3) (fun b h => h.elim)
                have hLB3 := rows_lit1 (E := encP (List (List Msg))) wK (((some ⟨R, 0, none⟩, P, P), (List.range P).map ((staP es n P ow).bx i))) 75 #[.slice (some ⟨R, 0, none⟩) P P] rfl
                refine hK.out _ _ ⟨cell_blk hO3.blk, cell_blk hO3.blk⟩ ?_
                try simp only [Act.put, List.setIfInBounds_toArray, List.set_cons_zero, List.set_cons_succ]
                refine wpAnyK_one (i := 9) (by kernel_rfl) rfl (by rfl) (b := false) (by kernel_rfl) (fun K hK => ?_)
                refine wp_app_rows_at (rrmT (List (List Msg))) (.tmp 80) (.tmp 82) rfl lo vB _ LB [((some ⟨R, 0, none⟩, P, P), (List.range P).map ((staP es n P ow).bx i))] rfl hO3.ownB rfl hLB3 (by rw [hlB, List.length_singleton]; omega) (by rw [hlB, List.length_singleton]; omega) (Nat.le_trans hlo11 hF3.size) ?_
                intro vB' wB hownB hgB hatB
                have hO4 := hO3.appB hownB hgB hatB
                have hF4 := hF3.grown hgB (fun b e => .inl (.inr (.inr e)))
                have hfrB : ∀ b, vB'.ownBlock = some b → vB.ownBlock = some b ∨ w11.heap.size ≤ b := fun b e => by
                  rcases hatB with h | h
                  · left; rw [← h]; exact e
                  · right; rw [h] at e; have e1 : _ = b := Option.some.inj e; rw [← e1]; exact hF3.size
                rw [hEB] at hO4
                obtain ⟨aB, cB, hsB⟩ := owns_shape hO4.ownB
                subst hsB
                have hCB : wB.cell? ⟨O, 5, none⟩ = some vK ∧ wB.cell? ⟨O, 6, none⟩ = some vB := ⟨cell_blk hO4.blk, cell_blk hO4.blk⟩
                refine hK.out _ _ hCB ?_
                try simp only [Act.put, List.setIfInBounds_toArray, List.set_cons_zero, List.set_cons_succ]
                obtain ⟨-, -, -, -, -, r5, r6⟩ := cells7 hO4.blk
                have f5 : wB.frozen? ⟨O, 5, none⟩ = false := free_blk hO4.blk
                have hs5 := (set7 hO4.blk (.slice aK LK2.length cK)).2.2.2.1
                have r6' : (wB.setCell ⟨O, 5, none⟩ (.slice aK LK2.length cK)).cell? ⟨O, 6, none⟩ = some vB := cell_blk hs5
                have f6 : (wB.setCell ⟨O, 5, none⟩ (.slice aK LK2.length cK)).frozen? ⟨O, 6, none⟩ = false := free_blk hs5
                have hSf : wB.cell? ⟨O, 5, none⟩ = some vK ∧ wB.cell? ⟨O, 6, none⟩ = some vB := ⟨r5, r6⟩
                refine wpAnyK_one (i := 11) (by kernel_rfl) rfl (by rfl) (b := true) (by kernel_rfl) (fun K hK => ?_)
                go_simp
                refine hK.out _ _ trivial ?_
                try simp only [Act.put, List.setIfInBounds_toArray, List.set_cons_zero, List.set_cons_succ]
                refine tkA 12 (.pointer (some ⟨O, 6, none⟩)) true rfl (fun _ _ => trivial) true trivial ?_
                try simp only [Act.put, List.setIfInBounds_toArray, List.set_cons_zero, List.set_cons_succ]
                refine wpAnyK_one (i := 13) (by kernel_rfl) rfl (by rfl) (b := true) (by kernel_rfl) (fun K hK => ?_)
                go_simp
                refine hK.out _ _ trivial (wpAnyK_done (by kernel_rfl) ?_ _)
                go_wp2_with fail
                go_roundw
                case rel => subst hEK hEB; exact ⟨i + 1, by omega, by go_num, StaS.next hO4 hF4 hfrK hfrB hLK hLB (by rw [← hx]; rfl) rfl hSt11 hSK hSB hF511 hK5 hB5 hDO⟩
                case measure => simp [intOf]; omega
              · go_simp
                have ha2 : Below (w11.drew.alloc (.cells #[.slice (some ⟨g, 0, none⟩) n n] 22)).heap.size (w11.drew.alloc (.cells #[.slice (some ⟨g, 0, none⟩) n n] 22)) ((w11.drew.alloc (.cells #[.slice (some ⟨g, 0, none⟩) n n] 22)).alloc (.cells #[.slice (some ⟨R, 0, none⟩) P P] 75)) := (Below.refl _ _).alloc (Nat.le_refl _) _
                have hO2 := hO1.below ha2
                have hF2 := hF1.trans (Fr.of_below (D := fun _ => False) ha2) (fun b h => h.elim)
                have hLB2 := rows_lit1 (E := encP (List (List Msg))) (w11.drew.alloc (.cells #[.slice (some ⟨g, 0, none⟩) n n] 22)) (((some ⟨R, 0, none⟩, P, P), (List.range P).map ((staP es n P ow).bx i))) 75 #[.slice (some ⟨R, 0, none⟩) P P] rfl
                rw [show (w11.drew.alloc (.cells #[.slice (some ⟨g, 0, none⟩) n n] 22)).heap.size = w11.heap.size + 1 by simp] at hLB2
                refine hK.out _ _ ⟨cell_blk hO2.blk, cell_blk hO2.blk⟩ ?_
                try simp only [Act.put, List.setIfInBounds_toArray, List.set_cons_zero, List.set_cons_succ]
                refine wpAnyK_one (i := 4) (by kernel_rfl) rfl (by rfl) (b := false) (by kernel_rfl) (fun K hK => ?_)
                refine wp_app_rows_at (rrT (List Int)) (.tmp 75) (.tmp 77) rfl lo vK _ LK [((some ⟨g, 0, none⟩, n, n), x)] rfl hO2.ownK rfl (hLK1.below ha2) (by rw [hlK, List.length_singleton]; omega) (by rw [hlK, List.length_singleton]; omega) (Nat.le_trans hlo11 hF2.size) ?_
                intro vK' wK hownK hgK hatK
                have hO3 := hO2.appK hownK hgK hatK
                have hF3 := hF2.grown hgK (fun b e => .inl (.inr (.inl e)))
                have hfrK : ∀ b, vK'.ownBlock = some b → vK.ownBlock = some b ∨ w11.heap.size ≤ b := fun b e => by
                  rcases hatK with h | h
                  · left; rw [← h]; exact e
                  · right; rw [h] at e; have e1 : _ = b := Option.some.inj e; rw [← e1]; exact hF2.size
                rw [hEK] at hO3
                obtain ⟨aK, cK, hsK⟩ := owns_shape hO3.ownK
                subst hsK
                have hCK : wK.cell? ⟨O, 5, none⟩ = some vK ∧ wK.cell? ⟨O, 6, none⟩ = some vB := ⟨cell_blk hO3.blk, cell_blk hO3.blk⟩
                refine hK.out _ _ hCK ?_
                try simp only [Act.put, List.setIfInBounds_toArray, List.set_cons_zero, List.set_cons_succ]
                refine tkA 10 (.pointer (some ⟨O, 5, none⟩)) true rfl (fun _ _ => trivial) false hCK ?_
                try simp only [Act.put, List.setIfInBounds_toArray, List.set_cons_zero, List.set_cons_succ]
                refine wpAnyK_one (i := 9) (by kernel_rfl) rfl (by rfl) (b := false) (by kernel_rfl) (fun K hK => ?_)
                have hLB3 := hLB2.grown hgK (fun g' e n' c' p ep e2 => by
                  obtain rfl := Option.some.inj (Value.slice.inj ep).1
                  have h1 := (hOd.ownK.lt g' e).2
                  dsimp only at e2
                  omega)
                refine wp_app_rows_at (rrmT (List (List Msg))) (.tmp 80) (.tmp 82) rfl lo vB _ LB [((some ⟨R, 0, none⟩, P, P), (List.range P).map ((staP es n P ow).bx i))] rfl hO3.ownB rfl hLB3 (by rw [hlB, List.length_singleton]; omega) (by rw [hlB, List.length_singleton]; omega) (Nat.le_trans hlo11 hF3.size) ?_
                intro vB' wB hownB hgB hatB
                have hO4 := hO3.appB hownB hgB hatB
                have hF4 := hF3.grown hgB (fun b e => .inl (.inr (.inr e)))
                have hfrB : ∀ b, vB'.ownBlock = some b → vB.ownBlock = some b ∨ w11.heap.size ≤ b := fun b e => by
                  rcases hatB with h | h
                  · left; rw [← h]; exact e
                  · right; rw [h] at e; have e1 : _ = b := Option.some.inj e; rw [← e1]; exact hF3.size
                rw [hEB] at hO4
                obtain ⟨aB, cB, hsB⟩ := owns_shape hO4.ownB
                subst hsB
                have hCB : wB.cell? ⟨O, 5, none⟩ = some vK ∧ wB.cell? ⟨O, 6, none⟩ = some vB := ⟨cell_blk hO4.blk, cell_blk hO4.blk⟩
                refine hK.out _ _ hCB ?_
                try simp only [Act.put, List.setIfInBounds_toArray, List.set_cons_zero, List.set_cons_succ]
                obtain ⟨-, -, -, -, -, r5, r6⟩ := cells7 hO4.blk
                have f5 : wB.frozen? ⟨O, 5, none⟩ = false := free_blk hO4.blk
                have hs5 := (set7 hO4.blk (.slice aK LK2.length cK)).2.2.2.1
                have r6' : (wB.setCell ⟨O, 5, none⟩ (.slice aK LK2.length cK)).cell? ⟨O, 6, none⟩ = some vB := cell_blk hs5
                have f6 : (wB.setCell ⟨O, 5, none⟩ (.slice aK LK2.length cK)).frozen? ⟨O, 6, none⟩ = false := free_blk hs5
                have hSf : wB.cell? ⟨O, 5, none⟩ = some vK ∧ wB.cell? ⟨O, 6, none⟩ = some vB := ⟨r5, r6⟩
                refine wpAnyK_one (i := 11) (by kernel_rfl) rfl (by rfl) (b := true) (by kernel_rfl) (fun K hK => ?_)
                go_simp
                refine hK.out _ _ trivial ?_
                try simp only [Act.put, List.setIfInBounds_toArray, List.set_cons_zero, List.set_cons_succ]
                refine tkA 12 (.pointer (some ⟨O, 6, none⟩)) true rfl (fun _ _ => trivial) true trivial ?_
                try simp only [Act.put, List.setIfInBounds_toArray, List.set_cons_zero, List.set_cons_succ]
                refine wpAnyK_one (i := 13) (by kernel_rfl) rfl (by rfl) (b := true) (by kernel_rfl) (fun K hK => ?_)
                go_simp
                refine hK.out _ _ trivial (wpAnyK_done (by kernel_rfl) ?_ _)
                go_wp2_with fail
                go_roundw
                case rel => subst hEK hEB; exact ⟨i + 1, by omega, by go_num, StaS.next hO4 hF4 hfrK hfrB hLK hLB (by rw [← hx]; rfl) rfl hSt11 hSK hSB hF511 hK5 hB5 hDO⟩
                case measure => simp [intOf]; omega
            · go_simp
              have ha1 : Below w11.drew.heap.size w11.drew (w11.drew.alloc (.cells #[.slice (some ⟨R, 0, none⟩) P P] 75)) := (Below.refl _ _).alloc (Nat.le_refl _) _
              have hO1 := hOd.below ha1
              have hF1 := hFd.trans (Fr.of_below (D := fun _ => False) ha1) (fun b h => h.elim)
              have hLB1 := rows_lit1 (E := encP (List (List Msg))) w11.drew (((some ⟨R, 0, none⟩, P, P), (List.range P).map ((staP es n P ow).bx i))) 75 #[.slice (some ⟨R, 0, none⟩) P P] rfl
              refine hK.out _ _ ⟨cell_blk hO1.blk, cell_blk hO1.blk⟩ ?_
              try simp only [Act.put, List.setIfInBounds_toArray, List.set_cons_zero, List.set_cons_succ]
              refine wpAnyK_one (i := 3) (by kernel_rfl) rfl (by rfl) (b := false) (by kernel_rfl) (fun K hK => ?_)
              go_simp
              have ha2 : Below (w11.drew.alloc (.cells #[.slice (some ⟨R, 0, none⟩) P P] 75)).heap.size (w11.drew.alloc (.cells #[.slice (some ⟨R, 0, none⟩) P P] 75)) ((w11.drew.alloc (.cells #[.slice (some ⟨R, 0, none⟩) P P] 75)).alloc (.cells #[.slice (some ⟨g, 0, none⟩) n n] 22)) := (Below.refl _ _).alloc (Nat.le_refl _) _
              have hO2 := hO1.below ha2
              have hF2 := hF1.trans (Fr.of_below (D := fun _ => False) ha2) (fun b h => h.elim)
              have hLK2 := rows_lit1 (E := encP (List Int)) (w11.drew.alloc (.cells #[.slice (some ⟨R, 0, none⟩) P P] 75)) (((some ⟨g, 0, none⟩, n, n), x)) 22 #[.slice (some ⟨g, 0, none⟩) n n] rfl
              rw [show (w11.drew.alloc (.cells #[.slice (some ⟨R, 0, none⟩) P P] 75)).heap.size = w11.heap.size + 1 by simp] at hLK2
              refine hK.out _ _ ⟨cell_blk hO2.blk, cell_blk hO2.blk⟩ ?_
              try simp only [Act.put, List.setIfInBounds_toArray, List.set_cons_zero, List.set_cons_succ]
              refine wpAnyK_one (i := 4) (by kernel_rfl) rfl (by rfl) (b := false) (by kernel_rfl) (fun K hK => ?_)
              refine wp_app_rows_at (rrT (List Int)) (.tmp 75) (.tmp 77) rfl lo vK _ LK [((some ⟨g, 0, none⟩, n, n), x)] rfl hO2.ownK rfl hLK2 (by rw [hlK, List.length_singleton]; omega) (by rw [hlK, List.length_singleton]; omega) (Nat.le_trans hlo11 hF2.size) ?_
              intro vK' wK hownK hgK hatK
              have hO3 := hO2.appK hownK hgK hatK
              have hF3 := hF2.grown hgK (fun b e => .inl (.inr (.inl e)))
              have hfrK : ∀ b, vK'.ownBlock = some b → vK.ownBlock = some b ∨ w11.heap.size ≤ b := fun b e => by
                rcases hatK with h | h
                · left; rw [← h]; exact e
                · right; rw [h] at e; have e1 : _ = b := Option.some.inj e; rw [← e1]; exact hF2.size
              rw [hEK] at hO3
              obtain ⟨aK, cK, hsK⟩ := owns_shape hO3.ownK
              subst hsK
              have hCK : wK.cell? ⟨O, 5, none⟩ = some vK ∧ wK.cell? ⟨O, 6, none⟩ = some vB := ⟨cell_blk hO3.blk, cell_blk hO3.blk⟩
              refine hK.out _ _ hCK ?_
              try simp only [Act.put, List.setIfInBounds_toArray, List.set_cons_zero, List.set_cons_succ]
              refine tkA 10 (.pointer (some ⟨O, 5, none⟩)) true rfl (fun _ _ => trivial) false hCK ?_
              try simp only [Act.put, List.setIfInBounds_toArray, List.set_cons_zero, List.set_cons_succ]
              refine wpAnyK_one (i := 9) (by kernel_rfl) rfl (by rfl) (b := false) (by kernel_rfl) (fun K hK => ?_)
              have hLB3 := (hLB1.below ha2).grown hgK (fun g' e n' c' p ep e2 => by
                obtain rfl := Option.some.inj (Value.slice.inj ep).1
                have h1 := (hOd.ownK.lt g' e).2
                dsimp only at e2
                omega)
              refine wp_app_rows_at (rrmT (List (List Msg))) (.tmp 80) (.tmp 82) rfl lo vB _ LB [((some ⟨R, 0, none⟩, P, P), (List.range P).map ((staP es n P ow).bx i))] rfl hO3.ownB rfl hLB3 (by rw [hlB, List.length_singleton]; omega) (by rw [hlB, List.length_singleton]; omega) (Nat.le_trans hlo11 hF3.size) ?_
              intro vB' wB hownB hgB hatB
              have hO4 := hO3.appB hownB hgB hatB
              have hF4 := hF3.grown hgB (fun b e => .inl (.inr (.inr e)))
              have hfrB : ∀ b, vB'.ownBlock = some b → vB.ownBlock = some b ∨ w11.heap.size ≤ b := fun b e => by
                rcases hatB with h | h
                · left; rw [← h]; exact e
                · right; rw [h] at e; have e1 : _ = b := Option.some.inj e; rw [← e1]; exact hF3.size
              rw [hEB] at hO4
              obtain ⟨aB, cB, hsB⟩ := owns_shape hO4.ownB
              subst hsB
              have hCB : wB.cell? ⟨O, 5, none⟩ = some vK ∧ wB.cell? ⟨O, 6, none⟩ = some vB := ⟨cell_blk hO4.blk, cell_blk hO4.blk⟩
              refine hK.out _ _ hCB ?_
              try simp only [Act.put, List.setIfInBounds_toArray, List.set_cons_zero, List.set_cons_succ]
              obtain ⟨-, -, -, -, -, r5, r6⟩ := cells7 hO4.blk
              have f5 : wB.frozen? ⟨O, 5, none⟩ = false := free_blk hO4.blk
              have hs5 := (set7 hO4.blk (.slice aK LK2.length cK)).2.2.2.1
              have r6' : (wB.setCell ⟨O, 5, none⟩ (.slice aK LK2.length cK)).cell? ⟨O, 6, none⟩ = some vB := cell_blk hs5
              have f6 : (wB.setCell ⟨O, 5, none⟩ (.slice aK LK2.length cK)).frozen? ⟨O, 6, none⟩ = false := free_blk hs5
              have hSf : wB.cell? ⟨O, 5, none⟩ = some vK ∧ wB.cell? ⟨O, 6, none⟩ = some vB := ⟨r5, r6⟩
              refine wpAnyK_one (i := 11) (by kernel_rfl) rfl (by rfl) (b := true) (by kernel_rfl) (fun K hK => ?_)
              go_simp
              refine hK.out _ _ trivial ?_
              try simp only [Act.put, List.setIfInBounds_toArray, List.set_cons_zero, List.set_cons_succ]
              refine tkA 12 (.pointer (some ⟨O, 6, none⟩)) true rfl (fun _ _ => trivial) true trivial ?_
              try simp only [Act.put, List.setIfInBounds_toArray, List.set_cons_zero, List.set_cons_succ]
              refine wpAnyK_one (i := 13) (by kernel_rfl) rfl (by rfl) (b := true) (by kernel_rfl) (fun K hK => ?_)
              go_simp
              refine hK.out _ _ trivial (wpAnyK_done (by kernel_rfl) ?_ _)
              go_wp2_with fail
              go_roundw
              case rel => subst hEK hEB; exact ⟨i + 1, by omega, by go_num, StaS.next hO4 hF4 hfrK hfrB hLK hLB (by rw [← hx]; rfl) rfl hSt11 hSK hSB hF511 hK5 hB5 hDO⟩
              case measure => simp [intOf]; omega
      · obtain rfl : i = P := by omega
        obtain ⟨aK, cK, hvK, hRK, -⟩ := RowAt.of_owns hOut.ownK (by omega)
        obtain ⟨aB, cB, hvB, hRB, -⟩ := RowAt.of_owns hOut.ownB (by omega)
        have hbo := hOut.blk
        have hlK2 := hOut.ownK.lt
        have hlB2 := hOut.ownB.lt
        subst hvK hvB
        rw [hlK] at hbo hRK
        rw [hlB] at hbo hRB
        have hZr := lit_next' hbr hZ3
        obtain ⟨o0, o1, o2, o3, o4, o5, o6⟩ := cells7 hbo
        obtain ⟨z0, z1, z2, z3, z4, z5, z6⟩ := cells7 hZr
        have fZ := fun t => free_blk (j := t) hZr
        have fZ0 := fZ 0
        have fZ1 := fZ 1
        have fZ2 := fZ 2
        have fZ3 := fZ 3
        have fZ4 := fZ 4
        have fZ5 := fZ 5
        have fZ6 := fZ 6
        obtain ⟨wF, hwF⟩ : ∃ W : World, W = (((((((wr.setCell ⟨Z, 0, none⟩ (.int .i64 (n : Int))).setCell ⟨Z, 1, none⟩ (.slice ae1 es.length ce1)).setCell ⟨Z, 2, none⟩ (.int .i64 (i : Int))).setCell ⟨Z, 3, none⟩ (.slice ao1 (owI n ow).length co1)).setCell ⟨Z, 4, none⟩ (.slice ah1 hv.length ch1)).setCell ⟨Z, 5, none⟩ (.slice aK i cK)).setCell ⟨Z, 6, none⟩ (.slice aB i cB)) := ⟨_, rfl⟩
        have hfin := set7all (d0 := .int .i64 (n : Int)) (d1 := .slice ae1 es.length ce1) (d2 := .int .i64 (i : Int)) (d3 := .slice ao1 (owI n ow).length co1) (d4 := .slice ah1 hv.length ch1) (d5 := .slice aK i cK) (d6 := .slice aB i cB) hZr
        have hgF := set7_grown wr Z (.int .i64 (n : Int)) (.slice ae1 es.length ce1) (.int .i64 (i : Int)) (.slice ao1 (owI n ow).length co1) (.slice ah1 hv.length ch1) (.slice aK i cK) (.slice aB i cB)
        rw [← hwF] at hfin hgF
        have HWF := Lib.hid hwF
        obtain ⟨t0, t1, t2, t3, t4, t5, t6⟩ := cells7 hfin
        have hFz : Fr (fun b => b = Z) wr wF := (Fr.refl _ _).grown hgF (fun b e => .inl (Option.some.inj e).symm)
        have hWS : WldS w.heap.size wF (.agg #[.int .i64 (n : Int), .slice ae1 es.length ce1, .int .i64 (i : Int), .slice ao1 (owI n ow).length co1, .slice ah1 hv.length ch1, .slice aK i cK, .slice aB i cB]) (wdL n i es ow hv (staP es n i ow)) := fun wU gU => by
          have hFzU : Fr (fun b => b ≤ Z) wr wU := (hFz.mono (fun b h => (by omega : b ≤ Z))).trans gU (fun b h => .inl (by omega))
          have hFw : Fr (fun b => D0 b ∨ b ≤ Z) w5 wU := (hF5.mono (fun b h => .inl h)).trans hFzU (fun b h => .inl (.inr h))
          have hEF := hFw.edges hE5 (fun n' c p e h => by
            have h1 := hLE n' c p e
            rcases h with h | h
            · have := hD0 _ h; omega
            · omega)
          have hOF := hFw.ints hO5 (fun n' c p e h => by
            have h1 := hLO n' c p e
            rcases h with h | h
            · have := hD0 _ h; omega
            · omega)
          have hHF := hFw.ints hH5 (fun n' c p e h => by
            have h1 := hLH n' c p e
            rcases h with h | h
            · have := hD0 _ h; omega
            · omega)
          have hStF := hSt wU (hFzU.mono (fun b h => .inr h))
          have hRKF := hFzU.row hRK (fun n' c p e h => by
            have h1 := (hlK2 p.block (by cases e; rfl)).1
            omega)
          have hRBF := hFzU.row hRB (fun n' c p e h => by
            have h1 := (hlB2 p.block (by cases e; rfl)).1
            omega)
          exact WldAt.of hEF hOF hHF ⟨LK, hRKF, hLK, hStF.1⟩ ⟨LB, hRBF, hLB, hStF.2⟩
        have hbF : Below w.heap.size w wF := (hbw3.trans (hbr.mono hbw3.size)).grown hgF (by have := hbr.size; have := hbw3.size; omega) (fun k e => by cases e; omega)
        clear hFz hgF hfin hZr hRK hRB hSt fZ
        go_wp2_with fail
        rw [← HWF.out]
        exact bodyPost_ret (v := .tuple #[.agg #[.int .i64 (n : Int), .slice ae1 es.length ce1, .int .i64 (i : Int), .slice ao1 (owI n ow).length co1, .slice ah1 hv.length ch1, .slice aK i cK, .slice aB i cB], .int .i64 0]) (by simp [results, Tryz.results9, go_sem, t0, t1, t2, t3, t4, t5, t6]) rfl ⟨_, rfl, hWS, hbF⟩
theorem rdstart_any (n P : Nat) (es : List E2) (ow : Nat → Nat) (hv : List Int) (ae ao ah : Option Addr) (ce co ch : Nat) (w : World) (hg : Valid n es) (hP : 1 ≤ P ∧ P ≤ 8) (how : ∀ v, v < n → ow v < P) (hhv : validZ none hv n = true) (hhl : hv.length ≤ 1000000)
    (he : EdgesAt w (.slice ae es.length ce) es) (ho : IntsAt w (.slice ao n co) (owI n ow)) (hh : IntsAt w (.slice ah hv.length ch) hv) (hol : LowV w.heap.size (.slice ao n co)) :
    Calls Tryz.prog 9 #[.agg #[.int .i64 (n : Int), .slice ae es.length ce], .agg #[.int .i64 (P : Int), .slice ao n co, .slice ah hv.length ch]] w fun e w' => ∃ v, e = .returned (.tuple #[v, .int .i64 0]) ∧ WldAt w' v (wdL n P es ow hv (staP es n P ow)) ∧ Below w.heap.size w w' :=
  (rdstartS_any n P es ow hv ae ao ah ce co ch w hg hP how hhv hhl he ho hh hol).mono fun _ _ ⟨v, h1, h2, h3⟩ => ⟨v, h1, h2.now, h3⟩
end Go.Proofs.YtdkmdcdoiaelfaaGreat
