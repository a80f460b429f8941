/- The walk of the law LinksWhere. -/
import Derived.Test.YtkadeibinhkbjaaLkWh
import Derived.Test.YtkadeibinhkbjaaLkAwake
import Derived.Test.YtkadeibinhkbjaaLkSame
import Derived.Test.YtkadeibinhkbjaaMkState
namespace Go.Proofs.Ytkadeibinhkbjaa
open Go.RowKit Go.BigFrame

theorem filter_signs (k : Int) : ∀ ls : List Lk, (∀ l ∈ ls, l.sign = 1 ∨ l.sign = -1) → (ls.filter (whB [] 1 k)).length + (ls.filter (whB [] (-1) k)).length = (ls.filter (whB [] 0 k)).length := by
  intro ls
  induction ls with
  | nil => intro _; rfl
  | cons l ls ih =>
    intro h
    have hi := ih fun x hx => h x (List.mem_cons_of_mem _ hx)
    have hl := h l List.mem_cons_self
    by_cases hw : k ≤ l.weight
    · rcases hl with h1 | h1
      · rw [List.filter_cons_of_pos (by simp [whB, h1, hw]), List.filter_cons_of_neg (by simp [whB, h1]), List.filter_cons_of_pos (by simp [whB, hw])]
        simp only [List.length_cons]; omega
      · rw [List.filter_cons_of_neg (by simp [whB, h1]), List.filter_cons_of_pos (by simp [whB, h1, hw]), List.filter_cons_of_pos (by simp [whB, hw])]
        simp only [List.length_cons]; omega
    · rw [List.filter_cons_of_neg (by simp [whB, hw]), List.filter_cons_of_neg (by simp [whB, hw]), List.filter_cons_of_neg (by simp [whB, hw])]
      exact hi
theorem filter_twice (k : Int) (ls : List Lk) (h : ∀ l ∈ ls, 0 ≤ l.weight) : (ls.filter (whB [] 1 k)).filter (whB [0, 2] 0 0) = ls.filter (whB [2, 0] 1 k) := by
  rw [List.filter_filter]
  refine List.filter_congr fun l hl => ?_
  have h0 := h l hl
  simp only [whB, List.length_nil, List.length_cons, List.mem_cons, List.not_mem_nil]
  by_cases h1 : l.sign = 1 <;> by_cases h2 : k ≤ l.weight <;> by_cases h3 : l.label = 0 <;> by_cases h4 : l.label = 2 <;> simp_all
theorem VSt.filter {n : Int} {ls : List Lk} (h : VSt n ls) (f : Lk → Bool) : VSt n (ls.filter f) :=
  ⟨h.1, h.2.1, fun l hl => h.2.2.1 l ((List.mem_filter.1 hl).1), h.2.2.2.sublist List.filter_sublist⟩
theorem VSt.sign {n : Int} {ls : List Lk} (h : VSt n ls) : ∀ l ∈ ls, (l.sign = 1 ∨ l.sign = -1) ∧ 0 ≤ l.weight := fun l hl => by
  have := (h.2.2.1 l hl).2.2.2.1
  simp only [attS, Bool.and_eq_true, Bool.or_eq_true, decide_eq_true_eq] at this
  omega
theorem whX_ok {n : Int} {ls : List Lk} (h : VSt n ls) (labels : List Int) (sign least : Int) : whX n ls labels sign least = ((n, ls.filter (whB labels sign least)), 0) := by
  unfold whX
  rw [if_neg (by simp [(stS_iff n ls).2 h])]
set_option maxRecDepth 100000 in
set_option maxHeartbeats 6400000 in
theorem where_law (a : Option Addr) (len cap : Nat) (x : Int) (w : World) (hl : ListAt w a len) :
    Calls Try.prog 6 #[.slice a len cap, .int .i64 x] w fun e w' => e = .returned (.bool true) ∧ Below w.heap.size w w' := by
  have hdk := deck_new (cap := cap) hl
  have hb1 : Below w.heap.size w (w.alloc (.cells #[.slice a len cap, .int .i64 0] 66)) := (Below.refl _ _).alloc (Nat.le_refl _) _
  go_enter Try.func6, Try.ntmps6
  go_wp2_with (go_at_call 9; refine (new_any _ _ _ _).mono ?_; rintro e w' ⟨rfl, rfl⟩)
  refine (mkstate_any w.heap.size 7 _ hdk (by omega) (by omega)).mono ?_
  rintro _ w2 ⟨n, ls, al, cl, rfl, hr2, hv, hn7, ht, hd2, hg2, ho2⟩
  have hb2 := hb1.grown hg2 hb1.size (fun g e => by cases e; exact Nat.le_refl _)
  have hX := heap_alloc_new w2 (.cells #[.int .i64 n, .slice al ls.length cl] 24)
  have hbn := (Below.refl _ w2).alloc (Nat.le_refl _) (.cells #[.int .i64 n, .slice al ls.length cl] 24)
  have hb3 := hb2.trans (hbn.mono hb2.size)
  have hr3 := hr2.below hbn
  go_wp2_with fail
  refine (mod_any _ _ _ (by omega) (by omega)).mono ?_
  rintro _ _ ⟨rfl, rfl⟩
  obtain ⟨k, hk⟩ : ∃ k, modS x 8 = k := ⟨_, rfl⟩
  rw [hk]
  obtain ⟨w3, hw3⟩ : ∃ W : World, W = w2.alloc (.cells #[.int .i64 n, .slice al ls.length cl] 24) := ⟨_, rfl⟩
  rw [← hw3] at hX hb3 hr3 ⊢
  have hS := hX
  have hr := hr3
  have hb := hb3
  obtain ⟨S, hSS⟩ : ∃ S, w2.heap.size = S := ⟨_, rfl⟩
  rw [hSS] at hS
  try rw [hSS]
  clear hdk hb1 hb2 hX hbn hb3 hr3 hr2 hd2 hg2 ho2 hSS hk hl hw3
  have E1 := whX_ok hv [] 1 k
  have E2 := whX_ok hv [] (-1) k
  have E3 := whX_ok hv [] 0 k
  have E4 := whX_ok (hv.filter (whB [] 1 k)) [0, 2] 0 0
  have E5 := whX_ok hv [2, 0] 1 k
  rw [filter_twice k ls fun l h => (hv.sign l h).2] at E4
  have EL := filter_signs k ls fun l h => (hv.sign l h).1
  obtain ⟨L1, hL1⟩ : ∃ L, ls.filter (whB [] 1 k) = L := ⟨_, rfl⟩
  obtain ⟨L2, hL2⟩ : ∃ L, ls.filter (whB [] (-1) k) = L := ⟨_, rfl⟩
  obtain ⟨L3, hL3⟩ : ∃ L, ls.filter (whB [] 0 k) = L := ⟨_, rfl⟩
  obtain ⟨L5, hL5⟩ : ∃ L, ls.filter (whB [2, 0] 1 k) = L := ⟨_, rfl⟩
  have hsm := hv.length_le
  have hz1 : L1.length ≤ ls.length := by rw [← hL1]; exact List.length_filter_le _ _
  have hz2 : L2.length ≤ ls.length := by rw [← hL2]; exact List.length_filter_le _ _
  have hz3 : L3.length ≤ ls.length := by rw [← hL3]; exact List.length_filter_le _ _
  rw [hL1] at E1 E4 EL
  rw [hL2] at E2 EL
  rw [hL3] at E3 EL
  rw [hL5] at E4 E5
  clear hL1 hL2 hL3 hL5 hv ht

  have s0 := cell_blk (j := 0) hS
  have s1 := cell_blk (j := 1) hS
  have h := lwhere_any n ls al none cl 0 [] 1 k _ hr (IntsAt.empty none 0 (fun _ => rfl))
  rw [E1] at h
  unfold WherePost at h
  dsimp only at h
  go_wp2_with fail
  refine (show Calls Try.prog 25 #[.agg #[.int .i64 n, .slice al ls.length cl], .slice none 0 0, .int .i64 1, .int .i64 k] _ _ from h).mono ?_
  rintro _ v1 ⟨a1, c1, rfl, hr1, hbn⟩
  have hS := lk_next hbn hS
  have hr := hr.below hbn
  have hb := hb.trans (hbn.mono hb.size)
  clear s0 s1 h hbn E1
  have hbn := (Below.refl _ v1).alloc (Nat.le_refl _) (.cells #[.int .i64 n, .slice a1 L1.length c1] 24)
  have hB1 := heap_alloc_new v1 (.cells #[.int .i64 n, .slice a1 L1.length c1] 24)
  have hS := lk_next hbn hS
  have hr := hr.below hbn
  have hr1 := hr1.below hbn
  have hb := hb.trans (hbn.mono hb.size)
  clear hbn
  have s0 := cell_blk (j := 0) hS
  have s1 := cell_blk (j := 1) hS
  have h := lwhere_any n ls al none cl 0 [] (-1) k _ hr (IntsAt.empty none 0 (fun _ => rfl))
  rw [E2] at h
  unfold WherePost at h
  dsimp only at h
  go_wp2_with fail
  refine (show Calls Try.prog 25 #[.agg #[.int .i64 n, .slice al ls.length cl], .slice none 0 0, .int .i64 (-1), .int .i64 k] _ _ from h).mono ?_
  rintro _ v2 ⟨a2, c2, rfl, hr2, hbn⟩
  have hS := lk_next hbn hS
  have hB1 := lk_next hbn hB1
  have hr := hr.below hbn
  have hr1 := hr1.below hbn
  have hb := hb.trans (hbn.mono hb.size)
  clear s0 s1 h hbn E2
  have hbn := (Below.refl _ v2).alloc (Nat.le_refl _) (.cells #[.int .i64 n, .slice a2 L2.length c2] 24)
  have hB2 := heap_alloc_new v2 (.cells #[.int .i64 n, .slice a2 L2.length c2] 24)
  have hS := lk_next hbn hS
  have hB1 := lk_next hbn hB1
  have hr := hr.below hbn
  have hr1 := hr1.below hbn
  have hr2 := hr2.below hbn
  have hb := hb.trans (hbn.mono hb.size)
  clear hbn
  have s0 := cell_blk (j := 0) hS
  have s1 := cell_blk (j := 1) hS
  have h := lwhere_any n ls al none cl 0 [] 0 k _ hr (IntsAt.empty none 0 (fun _ => rfl))
  rw [E3] at h
  unfold WherePost at h
  dsimp only at h
  go_wp2_with fail
  refine (show Calls Try.prog 25 #[.agg #[.int .i64 n, .slice al ls.length cl], .slice none 0 0, .int .i64 0, .int .i64 k] _ _ from h).mono ?_
  rintro _ v3 ⟨a3, c3, rfl, hr3, hbn⟩
  have hS := lk_next hbn hS
  have hB1 := lk_next hbn hB1
  have hB2 := lk_next hbn hB2
  have hr := hr.below hbn
  have hr1 := hr1.below hbn
  have hr2 := hr2.below hbn
  have hb := hb.trans (hbn.mono hb.size)
  clear s0 s1 h hbn E3
  have hbn := (Below.refl _ v3).alloc (Nat.le_refl _) (.cells #[.int .i64 n, .slice a3 L3.length c3] 24)
  have hB3 := heap_alloc_new v3 (.cells #[.int .i64 n, .slice a3 L3.length c3] 24)
  have hS := lk_next hbn hS
  have hB1 := lk_next hbn hB1
  have hB2 := lk_next hbn hB2
  have hr := hr.below hbn
  have hr1 := hr1.below hbn
  have hr2 := hr2.below hbn
  have hr3 := hr3.below hbn
  have hb := hb.trans (hbn.mono hb.size)
  clear hbn
  have s0 := cell_blk (j := 0) hB1
  have s1 := cell_blk (j := 1) hB1
  have bl := (Below.refl _ (v3.alloc (.cells #[.int .i64 n, .slice a3 L3.length c3] 24))).alloc (Nat.le_refl _) (.cells #[.int .i64 0, .int .i64 2] 3)
  have hz : (v3.alloc (.cells #[.int .i64 n, .slice a3 L3.length c3] 24)).heap.size = v3.heap.size + 1 := by simp
  have hi := ints_lit2 (v3.alloc (.cells #[.int .i64 n, .slice a3 L3.length c3] 24)) (v3.heap.size + 1) hz 0 2 3
  have h := lwhere_any n L1 a1 _ c1 2 [0, 2] 0 0 _ (hr1.below bl) hi
  rw [E4] at h
  unfold WherePost at h
  dsimp only at h
  go_wp2_with fail
  refine (show Calls Try.prog 25 #[.agg #[.int .i64 n, .slice a1 L1.length c1], .slice (some ⟨v3.heap.size + 1, 0, none⟩) 2 2, .int .i64 0, .int .i64 0] _ _ from h).mono ?_
  rintro _ v4 ⟨a4, c4, rfl, hr4, hbn⟩
  have hbn := bl.trans (hbn.mono bl.size)
  clear bl hi hz
  have hS := lk_next hbn hS
  have hB1 := lk_next hbn hB1
  have hB2 := lk_next hbn hB2
  have hB3 := lk_next hbn hB3
  have hr := hr.below hbn
  have hr1 := hr1.below hbn
  have hr2 := hr2.below hbn
  have hr3 := hr3.below hbn
  have hb := hb.trans (hbn.mono hb.size)
  clear s0 s1 h hbn E4
  have hbn := (Below.refl _ v4).alloc (Nat.le_refl _) (.cells #[.int .i64 n, .slice a4 L5.length c4] 24)
  have hB4 := heap_alloc_new v4 (.cells #[.int .i64 n, .slice a4 L5.length c4] 24)
  have hS := lk_next hbn hS
  have hB1 := lk_next hbn hB1
  have hB2 := lk_next hbn hB2
  have hB3 := lk_next hbn hB3
  have hr := hr.below hbn
  have hr1 := hr1.below hbn
  have hr2 := hr2.below hbn
  have hr3 := hr3.below hbn
  have hr4 := hr4.below hbn
  have hb := hb.trans (hbn.mono hb.size)
  clear hbn
  have s0 := cell_blk (j := 0) hS
  have s1 := cell_blk (j := 1) hS
  have bl := (Below.refl _ (v4.alloc (.cells #[.int .i64 n, .slice a4 L5.length c4] 24))).alloc (Nat.le_refl _) (.cells #[.int .i64 2, .int .i64 0] 3)
  have hz : (v4.alloc (.cells #[.int .i64 n, .slice a4 L5.length c4] 24)).heap.size = v4.heap.size + 1 := by simp
  have hi := ints_lit2 (v4.alloc (.cells #[.int .i64 n, .slice a4 L5.length c4] 24)) (v4.heap.size + 1) hz 2 0 3
  have h := lwhere_any n ls al _ cl 2 [2, 0] 1 k _ (hr.below bl) hi
  rw [E5] at h
  unfold WherePost at h
  dsimp only at h
  go_wp2_with fail
  refine (show Calls Try.prog 25 #[.agg #[.int .i64 n, .slice al ls.length cl], .slice (some ⟨v4.heap.size + 1, 0, none⟩) 2 2, .int .i64 1, .int .i64 k] _ _ from h).mono ?_
  rintro _ v5 ⟨a5, c5, rfl, hr5, hbn⟩
  have hbn := bl.trans (hbn.mono bl.size)
  clear bl hi hz
  have hS := lk_next hbn hS
  have hB1 := lk_next hbn hB1
  have hB2 := lk_next hbn hB2
  have hB3 := lk_next hbn hB3
  have hB4 := lk_next hbn hB4
  have hr := hr.below hbn
  have hr1 := hr1.below hbn
  have hr2 := hr2.below hbn
  have hr3 := hr3.below hbn
  have hr4 := hr4.below hbn
  have hb := hb.trans (hbn.mono hb.size)
  clear s0 s1 h hbn E5
  have hbn := (Below.refl _ v5).alloc (Nat.le_refl _) (.cells #[.int .i64 n, .slice a5 L5.length c5] 24)
  have hB5 := heap_alloc_new v5 (.cells #[.int .i64 n, .slice a5 L5.length c5] 24)
  have hS := lk_next hbn hS
  have hB1 := lk_next hbn hB1
  have hB2 := lk_next hbn hB2
  have hB3 := lk_next hbn hB3
  have hB4 := lk_next hbn hB4
  have hr := hr.below hbn
  have hr1 := hr1.below hbn
  have hr2 := hr2.below hbn
  have hr3 := hr3.below hbn
  have hr4 := hr4.below hbn
  have hr5 := hr5.below hbn
  have hb := hb.trans (hbn.mono hb.size)
  clear hbn
  have p1 := cell_blk (j := 1) hB1
  have p2 := cell_blk (j := 1) hB2
  have p3 := cell_blk (j := 1) hB3
  have p40 := cell_blk (j := 0) hB4
  have p41 := cell_blk (j := 1) hB4
  have p50 := cell_blk (j := 0) hB5
  have p51 := cell_blk (j := 1) hB5
  have h4 := rsame05_any n n a4 a5 c4 c5 L5 L5 _ hr4 hr5
  rw [show decide (n = n ∧ L5 = L5) = true by simp] at h4
  have u1 : IntKind.i64.wrap ((L1.length : Int) + L2.length) = (L1.length : Int) + L2.length := IntWalk.i64_in _ (by omega)
  have u2 : (((L1.length : Int) + L2.length) == (L3.length : Int)) = true := by simp; omega
  have u3 : (L1.length : Int) + L2.length = L3.length := by omega
  go_wp2_with fail
  refine h4.mono ?_
  rintro _ w20 ⟨rfl, hb20⟩
  have hb := hb.trans (hb20.mono hb.size)
  go_wp2_with fail
  refine (awake05_any _).mono ?_
  rintro _ w21 ⟨rfl, hb21⟩
  have hb := hb.trans (hb21.mono hb.size)
  go_wp2_with fail
  go_ret
  exact ⟨rfl, hb⟩
end Go.Proofs.Ytkadeibinhkbjaa
