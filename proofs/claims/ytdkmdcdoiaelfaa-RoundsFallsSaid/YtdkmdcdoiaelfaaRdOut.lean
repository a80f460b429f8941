/- The contract of slices.Repeat at []int, for one number. A world that grows: its outer rows of known values and of boxes; rows that are one's own. -/
import Derived.Test.YtdkmdcdoiaelfaaIClone
import Derived.Test.YtdkmdcdoiaelfaaNumAt
import Derived.Test.YtdkmdcdoiaelfaaShelf
import Derived.Test.YtdkmdcdoiaelfaaSeqs
import Derived.Test.YtdkmdcdoiaelfaaRdWld
namespace Go.Proofs.Ytdkmdcdoiaelfaa
open Go.RowKit Go.BigFrame

/-- a row of which the first k are written -/
def repL (x : Int) (n k : Nat) : List Value := intsV (List.replicate k x ++ List.replicate (n - k) 0)
theorem repL_len (x : Int) (n k : Nat) (h : k ≤ n) : (repL x n k).length = n := by simp [repL, intsV]; omega
theorem repL_get (x : Int) (n k j : Nat) (h : j < k) : (repL x n k)[j]? = some (.int .i64 x) := by
  unfold repL intsV
  rw [List.getElem?_map, List.getElem?_append_left (by simpa using h), List.getElem?_replicate, if_pos h]; rfl
theorem repL_splice (x : Int) (n k m : Nat) : splice (repL x n k) k (intsV (List.replicate m x)) = repL x n (k + m) := by
  have hl : (intsV (List.replicate m x)).length = m := by simp [intsV]
  have hk : (intsV (List.replicate k x)).length = k := by simp [intsV]
  have e1 : repL x n k = intsV (List.replicate k x) ++ intsV (List.replicate (n - k) 0) := by simp [repL, intsV]
  have e2 : splice (repL x n k) k (intsV (List.replicate m x)) = (repL x n k).take k ++ intsV (List.replicate m x) ++ (repL x n k).drop (k + (intsV (List.replicate m x)).length) := by simp [splice]
  rw [e2, hl, e1, List.take_left' hk, List.drop_append, hk, List.drop_of_length_le (by rw [hk]; omega)]
  have e3 : (intsV (List.replicate (n - k) 0)).drop (k + m - k) = intsV (List.replicate (n - (k + m)) 0) := by
    unfold intsV
    rw [← List.map_drop, List.drop_replicate]
    congr 2; omega
  rw [e3]
  simp [repL, intsV]
theorem int_size : (Try.prog.info? 3).map (·.size) = some 1 := by
  obtain ⟨i, hi, _, hs, _⟩ := info_parts intsT.info
  rw [hi]; exact congrArg some hs
theorem rep_cp (W : World) (g n k m sLen sCap dLen dCap : Nat) (a : Addr) (x : Int) (hW : W.heap[g]? = some (.cells (repL x n k).toArray 3 (0, 0))) (hm : Nat.min sLen dLen = m) (hk : k ≤ n) (hkm : k + m ≤ n) (hsrc : ∀ j, j < m → W.cell? (a.add j) = some (.int .i64 x)) (ty : TypeId) :
    (Builtin.copy_ #[22, 22] ty #[.slice (some ⟨g, k, none⟩) dLen dCap, .slice (some a) sLen sCap]).run Try.prog W = .ok (goInt m) (W.setRow g (repL x n (k + m)).toArray) := by
  have hl : (intsV (List.replicate m x)).length = m := by simp [intsV]
  have h := run_copy_rowK (P := Try.prog) W 22 22 ty 3 1 g k dLen dCap a sLen sCap (repL x n k).toArray 3 (intsV (List.replicate m x)) intsT.ht int_size hW (by rw [hl, hm, Nat.mul_one]) (fun j v hj => by
    have hlt := (List.getElem?_eq_some_iff.1 hj).1
    rw [hl] at hlt
    rw [hsrc j hlt, ← hj]
    unfold intsV
    rw [List.getElem?_map, List.getElem?_replicate, if_pos hlt]; rfl) (by rw [hl, List.size_toArray, repL_len x n k hk]; exact hkm) (fun v hv => by
    unfold intsV at hv
    obtain ⟨y, _, rfl⟩ := List.mem_map.1 hv
    rfl)
  rw [hm, show (repL x n k).toArray.toList = repL x n k from rfl, repL_splice] at h
  exact h
set_option linter.unusedSimpArgs false in
set_option maxRecDepth 100000 in
set_option maxHeartbeats 3200000 in
theorem rep_any (x : Int) (n : Nat) (h : Nat) (T : TypeId) (w : World) (hn : n ≤ 64) (hx : w.heap[h]? = some (.cells #[.int .i64 x] T (0, 0))) :
    Calls Try.prog 68 #[.slice (some ⟨h, 0, none⟩) 1 1, .int .i64 (n : Int)] w fun e w' => ∃ g, e = .returned (.slice (some ⟨g, 0, none⟩) n n) ∧ w.heap.size ≤ g ∧ w'.heap[g]? = some (.cells (intsV (List.replicate n x)).toArray 3 (0, 0)) ∧ Below w.heap.size w w' := by
  have hmul := Try.bits_Mul 1 n (by omega) (by omega) w
  rw [show 1 * n / 18446744073709551616 = 0 by omega, show 1 * n % 18446744073709551616 = n by omega] at hmul
  have hmk := make_ints n (by omega)
  have hx0 : w.cell? ⟨h, 0, none⟩ = some (.int .i64 x) := cell_blk hx
  obtain ⟨g, hg⟩ : ∃ g, w.heap.size = g := ⟨_, rfl⟩
  have hhg : h < g := by rw [← hg]; exact blk_lt hx
  obtain ⟨w0, hw0⟩ : ∃ W : World, W = w.alloc (.cells (intsV (List.replicate n 0)).toArray 3) := ⟨_, rfl⟩
  have hb0 : Below g w w0 := by rw [hw0, ← hg]; exact (Below.refl _ _).alloc (Nat.le_refl _) _
  have hW0 : w0.heap[g]? = some (.cells (repL x n 0).toArray 3 (0, 0)) := by
    rw [hw0, ← hg, heap_alloc_new]
    simp [repL]
  have hc0 : w0.cell? ⟨h, 0, none⟩ = some (.int .i64 x) := (hb0.cell (p := ⟨h, 0, none⟩) hhg).trans hx0
  have hcp0 := fun ty => rep_cp w0 g n 0 (Nat.min 1 n) 1 1 n n ⟨h, 0, none⟩ x hW0 rfl (Nat.zero_le _) (by rw [Nat.zero_add]; exact Nat.min_le_right _ _) (fun j hj => by
    have h1 : Nat.min 1 n ≤ 1 := Nat.min_le_left _ _
    obtain rfl : j = 0 := by omega
    exact hc0) ty
  rw [Nat.zero_add] at hcp0
  have HW0 := Lib.hid hw0
  have HG := Lib.hid hg
  obtain ⟨w1, hw1⟩ : ∃ W : World, W = w0.setRow g (repL x n (Nat.min 1 n)).toArray := ⟨_, rfl⟩
  have hW1 : w1.heap[g]? = some (.cells (repL x n (Nat.min 1 n)).toArray 3 (0, 0)) := by rw [hw1]; exact setRow_heap _ g _ _ _ _ hW0
  have hb1 : Below g w w1 := by rw [hw1]; exact below_setRow hb0 (Nat.le_refl _) _
  rw [← hw1] at hcp0
  have HW1 := Lib.hid hw1
  clear hW0 hw0 hg hw1 hc0 hx0 hb0
  have hcp1 : ∀ ty, (Builtin.copy_ #[22, 22] ty #[.slice (some ⟨w.heap.size, 0, none⟩) n n, .slice (some ⟨h, 0, none⟩) 1 1]).run Try.prog (w.alloc (.cells (intsV (List.replicate n 0)).toArray 3)) = .ok (goInt (Nat.min 1 n)) w1 := fun ty => by rw [HG.out, ← HW0.out]; exact hcp0 ty
  clear hcp0
  obtain ⟨m1, hm1⟩ : ∃ m, Nat.min 1 n = m := ⟨_, rfl⟩
  have hm1a : m1 ≤ n := by rw [← hm1]; exact Nat.min_le_right _ _
  have hm1b : n = 0 ∨ 0 < m1 := by
    by_cases e : n = 0
    · exact .inl e
    · right; rw [← hm1]; have : Nat.min 1 n = 1 := Nat.min_eq_left (by omega); omega
  rw [hm1] at hcp1 hW1
  clear hm1 HW1
  go_enter Try.func68, Try.ntmps68
  go_wp2_with fail
  refine hmul.mono ?_
  rintro e w' ⟨rfl, rfl⟩
  go_wp2_with (at_builtin; refine wpList_copy_eq rfl _ _ 22 22 rfl _ _ rfl rfl (hcp1 _) ?_)
  rw [HG.out]
  clear hmul hmk hcp1
  go_loopw [8] (fun vi wr => ∃ k : Nat, k ≤ n ∧ (n = 0 ∨ 0 < k) ∧ vi = .int .i64 (k : Int) ∧ wr.heap[g]? = some (.cells (repL x n k).toArray 3 (0, 0)) ∧ Below g w' wr) (fun i _ => n - (intOf i).toNat)
  case atStart => exact ⟨m1, hm1a, hm1b, rfl, hW1, hb1⟩
  case round =>
    obtain ⟨k, hk, hk0, rfl, hW, hb⟩ := hrel
    by_cases hlt : k < n
    · have hlt3 : (k : Int) < n := by omega
      have hkp : 0 < k := by omega
      obtain ⟨m, hm⟩ : ∃ m, Nat.min k (n - k) = m := ⟨_, rfl⟩
      have hmn : k + m ≤ n := by have : Nat.min k (n - k) ≤ n - k := Nat.min_le_right _ _; omega
      have hmk : m ≤ k := by have : Nat.min k (n - k) ≤ k := Nat.min_le_left _ _; omega
      have hmp : 0 < m := by
        rw [← hm]
        show 0 < min k (n - k)
        omega
      have q1 := fun ty => rep_cp wr.drew g n k m k n (n - k) (n - k) ⟨g, 0, none⟩ x hW hm hk hmn (fun j hj => by
        have e : (⟨g, 0, none⟩ : Addr).add j = ⟨g, j, none⟩ := by simp [Addr.add]; omega
        rw [e, show wr.drew.cell? ⟨g, j, none⟩ = wr.cell? ⟨g, j, none⟩ from rfl, cell_blk hW]
        have := repL_get x n k j (by omega)
        simpa using this) ty
      have hW2 : (wr.drew.setRow g (repL x n (k + m)).toArray).heap[g]? = some (.cells (repL x n (k + m)).toArray 3 (0, 0)) := setRow_heap _ g _ _ _ _ hW
      have hb2 : Below g w' (wr.drew.setRow g (repL x n (k + m)).toArray) := below_setRow hb.drew (Nat.le_refl _) _
      have q2 := q1 3
      clear q1
      go_wp2_with fail
      go_region
      go_wp2_with fail
      go_roundw
      case rel => exact ⟨k + m, hmn, .inr (by omega), by go_num, hW2, hb2⟩
      case measure => simp [intOf]; omega
    · obtain rfl : k = n := by omega
      have e : (repL x k k).toArray = (intsV (List.replicate k x)).toArray := by simp [repL]
      rw [e] at hW
      go_wp2_with fail
      go_ret
      exact ⟨g, rfl, by rw [HG.out]; exact Nat.le_refl _, hW, by rw [HG.out]; exact hb⟩
end Go.Proofs.Ytdkmdcdoiaelfaa

namespace Go.Proofs.Ytdkmdcdoiaelfaa
open Go.RowKit Go.BigFrame

structure OutS (w : World) (lo O : Nat) (c0 c1 c2 c3 c4 uK uB vK vB : Value) (i j : Nat) (LK : List (Sl × List Int)) (LB : List (Sl × List (List Msg))) : Prop where
  blk : w.heap[O]? = some (.cells #[c0, c1, c2, c3, c4, uK, uB] 59 (0, 0))
  ownK : w.ownsRow lo 22 (encP (List Int)).k vK i (flatR (encP (List Int)) LK)
  ownB : w.ownsRow lo 62 (encP (List (List Msg))).k vB j (flatR (encP (List (List Msg))) LB)
  kO : vK.ownBlock ≠ some O
  bO : vB.ownBlock ≠ some O
  kb : ∀ b, vK.ownBlock = some b → vB.ownBlock ≠ some b
section
variable {w w' : World} {lo O : Nat} {c0 c1 c2 c3 c4 uK uB vK vB vK' vB' : Value} {i j i' j' : Nat} {LK LK' : List (Sl × List Int)} {LB LB' : List (Sl × List (List Msg))}
theorem OutS.below (h : OutS w lo O c0 c1 c2 c3 c4 uK uB vK vB i j LK LB) (hb : Below w.heap.size w w') : OutS w' lo O c0 c1 c2 c3 c4 uK uB vK vB i j LK LB :=
  ⟨lit_next' hb h.blk, h.ownK.kept (grown_of_below hb) (Classical.em _), h.ownB.kept (grown_of_below hb) (Classical.em _), h.kO, h.bO, h.kb⟩
theorem OutS.appK (h : OutS w lo O c0 c1 c2 c3 c4 uK uB vK vB i j LK LB) (hown : w'.ownsRow lo 22 (encP (List Int)).k vK' i' (flatR (encP (List Int)) LK')) (hg : w.grownBy w' vK.ownBlock) (hat : vK'.ownBlock = vK.ownBlock ∨ vK'.ownBlock = some w.heap.size) :
    OutS w' lo O c0 c1 c2 c3 c4 uK uB vK' vB i' j LK' LB := by
  have hO := blk_lt h.blk
  refine ⟨grown_blk hg h.blk (fun e => h.kO e.symm), hown, h.ownB.kept hg ?_, ?_, h.bO, ?_⟩
  · cases e : vB.ownBlock with
    | none => exact .inl rfl
    | some b => exact .inr fun e2 => h.kb b e2.symm e
  · rcases hat with e | e
    · rw [e]; exact h.kO
    · rw [e]; intro e2; have := Option.some.inj e2; omega
  · intro b e2
    rcases hat with e | e
    · rw [e] at e2; exact h.kb b e2
    · rw [e] at e2
      intro e3
      have := (h.ownB.lt b e3).2
      have := Option.some.inj e2
      omega
theorem OutS.appB (h : OutS w lo O c0 c1 c2 c3 c4 uK uB vK vB i j LK LB) (hown : w'.ownsRow lo 62 (encP (List (List Msg))).k vB' j' (flatR (encP (List (List Msg))) LB')) (hg : w.grownBy w' vB.ownBlock) (hat : vB'.ownBlock = vB.ownBlock ∨ vB'.ownBlock = some w.heap.size) :
    OutS w' lo O c0 c1 c2 c3 c4 uK uB vK vB' i j' LK LB' := by
  have hO := blk_lt h.blk
  refine ⟨grown_blk hg h.blk (fun e => h.bO e.symm), h.ownK.kept hg ?_, hown, h.kO, ?_, ?_⟩
  · cases e : vK.ownBlock with
    | none => exact .inl rfl
    | some b => exact .inr fun e2 => h.kb b e e2.symm
  · rcases hat with e | e
    · rw [e]; exact h.bO
    · rw [e]; intro e2; have := Option.some.inj e2; omega
  · intro b e2 e3
    rcases hat with e | e
    · rw [e] at e3; exact h.kb b e2 e3
    · rw [e] at e3
      have := (h.ownK.lt b e2).2
      have := Option.some.inj e3
      omega
theorem OutS.store (h : OutS w lo O c0 c1 c2 c3 c4 uK uB vK vB i j LK LB) : OutS ((w.setCell ⟨O, 5, none⟩ vK).setCell ⟨O, 6, none⟩ vB) lo O c0 c1 c2 c3 c4 vK vB vK vB i j LK LB := by
  have h1 := (set7 h.blk vK).2.2.2.1
  have h2 := (set7 h1 vB).2.2.2.2
  have hg : w.grownBy ((w.setCell ⟨O, 5, none⟩ vK).setCell ⟨O, 6, none⟩ vB) (some O) := grown_trans grown_store grown_store
  exact ⟨h2, h.ownK.kept hg (.inr h.kO), h.ownB.kept hg (.inr h.bO), h.kO, h.bO, h.kb⟩
/-- a row that fills its block -/
theorem ownsI_blk {g : Nat} {l : List Int} (h : w.heap[g]? = some (.cells (intsV l).toArray 3 (0, 0))) (hb : lo ≤ g) (hl : l.length ≤ 1000000) : w.ownsRow lo 3 1 (.slice (some ⟨g, 0, none⟩) l.length l.length) l.length (intsV l) :=
  ⟨by simp [intsV], .inr ⟨g, l.length, _, rfl, hb, h, Nat.le_refl _, by unfold maxLen; omega, by simp [intsV], by rw [Nat.mul_one]; exact List.take_of_length_le (by simp [intsV])⟩⟩
end
/-- what a worker knows at the beginning, of the first k nodes -/
def begK (es : List E2) (n : Nat) (ow : Nat → Nat) (o k : Nat) : List Int := fnL n fun u => if u < k ∧ ow u = o then ((nbL es n u).length : Int) else (n : Int)
theorem begK_len (es : List E2) (n : Nat) (ow : Nat → Nat) (o k : Nat) : (begK es n ow o k).length = n := fnL_length _ _
theorem begK_zero (es : List E2) (n : Nat) (ow : Nat → Nat) (o : Nat) : begK es n ow o 0 = List.replicate n (n : Int) := by
  apply List.ext_getElem?
  intro i
  by_cases h : i < n
  · rw [begK, fnL_get n _ i h, List.getElem?_replicate, if_pos h, if_neg (fun q => by omega)]
  · rw [List.getElem?_eq_none (by rw [begK_len]; omega), List.getElem?_eq_none (by rw [List.length_replicate]; omega)]
theorem begK_all (es : List E2) (n : Nat) (ow : Nat → Nat) (o : Nat) : begK es n ow o n = beg es n ow o := by
  apply List.ext_getElem?
  intro i
  by_cases h : i < n
  · rw [begK, beg, fnL_get n _ i h, fnL_get n _ i h]
    by_cases e : ow i = o
    · rw [if_pos ⟨h, e⟩, if_pos e]
    · rw [if_neg (fun q => e q.2), if_neg e]
  · rw [List.getElem?_eq_none (by rw [begK_len]; omega), List.getElem?_eq_none (by rw [beg, fnL_length]; omega)]
theorem begK_no (es : List E2) (n : Nat) (ow : Nat → Nat) (o k : Nat) (h : ow k ≠ o) : begK es n ow o (k + 1) = begK es n ow o k := by
  apply List.ext_getElem?
  intro i
  by_cases hi : i < n
  · rw [begK, begK, fnL_get n _ i hi, fnL_get n _ i hi]
    by_cases e : i < k ∧ ow i = o
    · rw [if_pos e, if_pos ⟨by omega, e.2⟩]
    · rw [if_neg e, if_neg]
      rintro ⟨q1, q2⟩
      by_cases e2 : i = k
      · subst e2; exact h q2
      · exact e ⟨by omega, q2⟩
  · rw [List.getElem?_eq_none (by rw [begK_len]; omega), List.getElem?_eq_none (by rw [begK_len]; omega)]
theorem begK_set (es : List E2) (n : Nat) (ow : Nat → Nat) (o k : Nat) (hk : k < n) (h : ow k = o) : (begK es n ow o k).set k ((nbL es n k).length : Int) = begK es n ow o (k + 1) := by
  apply List.ext_getElem?
  intro i
  by_cases hi : i < n
  · rw [List.getElem?_set, begK_len, begK, begK, fnL_get n _ i hi, fnL_get n _ i hi]
    by_cases e2 : k = i
    · subst e2
      rw [if_pos rfl, if_pos hk, if_pos ⟨by omega, h⟩]
    · rw [if_neg e2]
      by_cases e : i < k ∧ ow i = o
      · rw [if_pos e, if_pos ⟨by omega, e.2⟩]
      · rw [if_neg e, if_neg]
        rintro ⟨q1, q2⟩
        exact e ⟨by omega, q2⟩
  · rw [List.getElem?_eq_none (by rw [List.length_set, begK_len]; omega), List.getElem?_eq_none (by rw [begK_len]; omega)]
section
variable {w : World} {lo R P : Nat} {vs : Ix → Value} {K N : Nat → List Int} {B : Nat → Nat → List Msg}
/-- new boxes of a worker -/
theorem GW.made (K N : Nat → List Int) (h : w.heap[R]? = some (.cells ((List.range P).map fun _ => Value.slice none 0 0).toArray 63 (0, 0))) (hl : lo ≤ R) : GW w lo (fun x => x.1 = 2 ∧ x.2 < P) (fun x => (R, x.2)) (fun _ => .slice none 0 0) K N (fun _ _ => []) := by
  refine ⟨fun _ _ => hl, fun i hi => ?_, fun i _ => free_blk h, fun i hi => ?_, (fun _ _ _ _ e => by cases e), (fun _ _ _ _ _ b e => by cases e), fun i j hi hj hne e => ?_⟩
  · rw [cell_blk h]
    simp [hi.2]
  · obtain ⟨a, b⟩ := i
    obtain ⟨h1, h2⟩ := hi
    dsimp only at h1
    subst h1
    exact World.ownsRow_nil _ _ _ _
  · have h2 := (Prod.mk.inj e).2
    exact hne (Prod.ext (hi.1.trans hj.1.symm) h2)
/-- they are read so whatever changes elsewhere -/
theorem GW.boxR {D : Nat → Prop} {c : Nat} (h : GW w lo (fun x => x.1 = 2 ∧ x.2 < P) (fun x => (R, x.2)) vs K N B) (hP : P ≤ 64) (hc : P ≤ c) (hl : ∀ t, t < P → (B 0 t).length ≤ 1000000) (hD : ¬ D R) (hDv : ∀ t, t < P → ∀ b, (vs (2, t)).ownBlock = some b → ¬ D b) :
    Stb D w fun w' => BoxR w' (.slice (some ⟨R, 0, none⟩) P c) ((List.range P).map (B 0)) := fun w' g =>
  NestA.cells (R := RowAt encM) (fun t => vs (2, t)) (B 0) (by omega) hc (fun t ht => g.cell (h.cell (2, t) ⟨rfl, ht⟩) hD) (fun t ht => slOf_owns (h.own (2, t) ⟨rfl, ht⟩)) (fun t ht => Stb.row (E := encM) (h.box (r := 0) (t := t) ⟨rfl, ht⟩) (hl t ht) (hDv t ht) w' g)
end
theorem mrT : SliceT Try.prog 62 63 (.slice none 0 0) 1 24 := ⟨Try.underlying62, by kernel_rfl, rfl, by decide⟩
theorem make_mrows (n : Nat) (hn : n ≤ 1000000) : ∀ w, (Instr.makeSlice 62 (.int .i64 (n : Int)) (.int .i64 (n : Int))).run Try.prog w = .ok (.slice (some ⟨w.heap.size, 0, none⟩) n n) (w.alloc (.cells ((List.range n).map fun _ => Value.slice none 0 0).toArray 63)) := by
  intro w
  obtain ⟨i, hi, hz, hs, hb⟩ := info_parts mrT.info
  have h := run_make (P := Try.prog) w 62 63 i (.slice none 0 0) Try.underlying62 hi hz .i64 .i64 (n : Int) (n : Int) (by omega) (Int.le_refl _) (by rw [hb]; omega) (by omega)
  rw [h, hs]
  simp only [Int.toNat_natCast, Nat.mul_one, Value.cells]
  have hm : madeCells #[Value.slice none 0 0] n = ((List.range n).map fun _ => Value.slice none 0 0).toArray := by
    apply Array.ext_getElem?
    intro j
    simp only [madeCells]
    by_cases hj : j < n
    · simp [hj, Nat.mod_one]
    · simp [hj]
  rw [hm]
end Go.Proofs.Ytdkmdcdoiaelfaa
