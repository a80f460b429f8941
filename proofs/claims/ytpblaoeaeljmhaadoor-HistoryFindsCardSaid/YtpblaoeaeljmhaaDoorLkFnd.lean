/- The contract of finding a link. -/
import Derived.Test.YtpblaoeaeljmhaaDoorLkSet
namespace Go.Proofs.YtpblaoeaeljmhaaDoor
open Go.RowKit Go.BigFrame

/-- the index of the link of an edge, from k on -/
def lkIdx (t : Lk) : Nat → List Lk → Int
  | _, [] => -1
  | k, l :: ls => if sameE l t = true then k else lkIdx t (k + 1) ls
def edgeL (u v : Int) : Lk := ⟨min u v, max u v, 0, 0, 0, 0⟩
def lfS (n : Int) (ls : List Lk) (u v : Int) : Int := if stS n ls ≠ 0 then -1 else lkIdx (edgeL u v) 0 ls
theorem lkIdx_none (t : Lk) : ∀ (ls : List Lk) (k : Nat), (∀ l ∈ ls, sameE l t = false) → lkIdx t k ls = -1 := by
  intro ls
  induction ls with
  | nil => intro k _; rfl
  | cons l ls ih =>
    intro k h
    unfold lkIdx
    rw [if_neg (by rw [h l List.mem_cons_self]; simp)]
    exact ih _ fun x hx => h x (List.mem_cons_of_mem _ hx)
theorem lkIdx_at (t : Lk) : ∀ (ls : List Lk) (k i : Nat) (x : Lk), ls[i]? = some x → sameE x t = true → (∀ j y, j < i → ls[j]? = some y → sameE y t = false) → lkIdx t k ls = ((k + i : Nat) : Int) := by
  intro ls
  induction ls with
  | nil => intro k i x h; simp at h
  | cons l ls ih =>
    intro k i x h hs hb
    unfold lkIdx
    cases i with
    | zero =>
      simp only [List.getElem?_cons_zero, Option.some.injEq] at h
      subst h
      rw [if_pos hs]; simp
    | succ i =>
      rw [if_neg (by rw [hb 0 l (Nat.succ_pos _) rfl]; simp), ih (k + 1) i x (by simpa using h) hs (fun j y hj hy => hb (j + 1) y (by omega) (by simpa using hy))]
      congr 1
      omega
theorem lkIdx_bs {ls : List Lk} {t : Lk} {i : Nat} (h : BsL ls t i i) (hs : ls.Pairwise fun a b => lkB a b = true) : lkIdx t 0 ls = if thereB ls t i = true then (i : Int) else -1 := by
  by_cases ht : thereB ls t i = true
  · rw [if_pos ht]
    unfold thereB at ht
    cases hx : ls[i]? with
    | none => rw [hx] at ht; cases ht
    | some x =>
      rw [hx] at ht
      have := lkIdx_at t ls 0 i x hx ht (fun j y hj hy => (lkB_not (h.1 j y hj hy)).2.1)
      rw [this, Nat.zero_add]
  · rw [if_neg ht]
    refine lkIdx_none t ls 0 fun l hl => ?_
    obtain ⟨k, hk⟩ := List.mem_iff_getElem?.1 hl
    by_cases hki : k < i
    · exact (lkB_not (h.1 k l hki hk)).2.1
    · cases hsl : sameE l t with
      | false => rfl
      | true =>
        exfalso
        by_cases hke : k = i
        · subst hke
          apply ht
          unfold thereB
          rw [hk]; exact hsl
        · obtain ⟨h2, hk2⟩ := List.getElem?_eq_some_iff.1 hk
          have h3 : i < ls.length := by omega
          have h4 := List.pairwise_iff_getElem.1 hs i k h3 h2 (by omega)
          rw [hk2] at h4
          have h5 := h.2 i ls[i] (Nat.le_refl _) (List.getElem?_eq_getElem h3)
          rw [sameE_iff] at hsl
          have h6 : lkB ls[i] t = true := by
            rw [lkB_iff] at h4 ⊢
            omega
          rw [h6] at h5; cases h5
set_option maxRecDepth 100000 in
set_option maxHeartbeats 1600000 in
theorem lfind_any (n u v : Int) (ls : List Lk) (a : Option Addr) (cap : Nat) (w : World) (hl : RowAt encLk w (.slice a ls.length cap) ls) (hln : ls.length ≤ 100000) :
    Calls Tryd.prog 22 #[.agg #[.int .i64 n, .slice a ls.length cap], .int .i64 u, .int .i64 v] w fun e w' => e = .returned (.int .i64 (lfS n ls u v)) ∧ Below w.heap.size w w' := by
  have hb := (Below.refl w.heap.size w).alloc (Nat.le_refl _) (.cells #[.int .i64 n, .slice a ls.length cap] 53)
  have hX := heap_alloc_new w (.cells #[.int .i64 n, .slice a ls.length cap] 53)
  have hbs := lbsearch_any ls (edgeL u v) a cap _ (hl.below hb) hln
  have hck := fun W h => lcheck_any n a cap ls W h
  unfold edgeL Lk.cells at hbs
  dsimp only at hbs
  have HL : Hid (∀ i, (ls.Pairwise (fun a b => lkB a b = true) → BsL ls (edgeL u v) i i) → lfS n ls u v = if stS n ls ≠ 0 then -1 else if thereB ls (edgeL u v) i = true then (i : Int) else -1) := (show _ from fun i h => by
    unfold lfS
    by_cases hS : stS n ls = 0
    · rw [if_neg (by simp [hS]), if_neg (by simp [hS])]
      have hv := ((stS_iff n ls).1 hS).2.2.2
      exact lkIdx_bs (h hv) hv
    · rw [if_pos hS, if_pos hS])
  obtain ⟨R, hR⟩ : ∃ R, lfS n ls u v = R := ⟨_, rfl⟩
  obtain ⟨Z, hZ⟩ : ∃ R, stS n ls = R := ⟨_, rfl⟩
  rw [hR, hZ] at HL
  rw [hZ] at hck
  rw [hR]
  clear hR hZ
  have x1 := cell_blk (j := 1) hX
  go_enter Tryd.func22, Tryd.ntmps22
  go_wp2_with fail
  refine hbs.mono ?_
  rintro _ w2 ⟨i, rfl, hil, HB, hb2⟩
  have hX2 := lk_next hb2 hX
  have hb02 := hb.trans (hb2.mono hb.size)
  have hl2 := hl.below hb02
  have hres := HL.out i HB
  have ht2 : thereB ls ⟨min u v, max u v, 0, 0, 0, 0⟩ i = thereB ls (edgeL u v) i := rfl
  rw [ht2]
  cases hT : thereB ls (edgeL u v) i with
  | false =>
    have HR : Hid (R = -1) := by show _ = _; rw [hres, hT]; simp
    clear hres HL hck hT
    go_wp2_with fail
    go_ret
    exact ⟨by rw [HR.out]; rfl, hb02⟩
  | true =>
    rw [hT, if_pos rfl] at hres
    have HRS := Lib.hid hres
    have y0 := cell_blk (j := 0) hX2
    have y1 := cell_blk (j := 1) hX2
    have hck2 := hck _ hl2
    clear hres HL hck hT x1
    by_cases hz : Z = 0
    · have d1 : (Z != 0) = false := by simpa using hz
      have HR : Hid (R = (i : Int)) := by show _ = _; rw [HRS.out, if_neg (by simpa using hz)]
      clear hz HRS
      go_wp2_with fail
      refine hck2.mono ?_
      rintro _ w3 ⟨rfl, hb3⟩
      go_wp2_with fail
      go_ret
      exact ⟨by rw [HR.out]; rfl, hb02.trans (hb3.mono hb02.size)⟩
    · have d1 : (Z != 0) = true := by simpa using hz
      have HR : Hid (R = -1) := by show _ = _; rw [HRS.out, if_pos hz]
      clear hz HRS
      go_wp2_with fail
      refine hck2.mono ?_
      rintro _ w3 ⟨rfl, hb3⟩
      go_wp2_with fail
      go_ret
      exact ⟨by rw [HR.out]; rfl, hb02.trans (hb3.mono hb02.size)⟩
end Go.Proofs.YtpblaoeaeljmhaaDoor
