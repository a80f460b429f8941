/- The contract of sorting. -/
import Derived.Test.YtdljkobgghnkpaaReoSort
import Derived.Test.YtdljkobgghnkpaaMk
namespace Go.Proofs.Ytdljkobgghnkpaa
open Go.RowKit Go.BigFrame

theorem push_len (b : Buf) (e : Ev) : (pushS b e).2.1.length ≤ b.wait.length + 1 := by
  unfold pushS
  split
  · simp
  · split
    · simp
    · split
      · simp
      · split
        · simp
        · have h := out_rest (max b.latest e.time - b.bound - 1) (insS e b.wait)
          have h2 := insS_length e b.wait
          show (outS (max b.latest e.time - b.bound - 1) (insS e b.wait)).length ≤ _
          omega
theorem flush_len (b : Buf) : (flushS b).2.1.length ≤ b.wait.length := by
  unfold flushS
  split
  · simp
  · have h := out_rest b.latest b.wait
    show (outS b.latest b.wait).length ≤ _
    omega
theorem bufB_wait {b : Buf} (h : bufB b = true) : b.wait.length ≤ 4096 := by
  unfold bufB at h
  rw [Bool.and_eq_true] at h
  obtain ⟨h, _⟩ := h
  simp only [bufH, Bool.and_eq_true, decide_eq_true_eq] at h
  omega
theorem sortL_cons (b : Buf) (out : List Ev) (late : Int) (x : Ev) (l : List Ev) : sortL b out late (x :: l) = if (pushS b x).2.2 = 10 then sortL b out (late + 1) l else if (pushS b x).2.2 ≠ 0 then ([], 0, (pushS b x).2.2) else sortL (pushS b x).1 (out ++ (pushS b x).2.1) late l := rfl
/-- what is known at the head of each round -/
structure SortR (w : World) (B : Nat) (b0 : Buf) (l : List Ev) (k : Nat) (buf : Buf) (out : List Ev) (late : Int) (vo : Value) (ab : Option Addr) (cb : Nat) (wr : World) : Prop where
  bel : Below w.heap.size w wr
  hB : w.heap.size ≤ B
  own : wr.ownsRow (B + 1) 26 encEv.k vo out.length (flatR encEv out)
  len : out.length ≤ k * 5000
  val : bufB buf = true
  box : wr.heap[B]? = some (.cells #[.int .i64 buf.bound, .int .i64 buf.latest, .int .i64 buf.mark, .slice ab buf.wait.length cb] 24 (0, 0))
  row : RowAt encEv wr (.slice ab buf.wait.length cb) buf.wait
  eq : sortL b0 [] 0 l = sortL buf out late (l.drop k)
set_option maxRecDepth 100000 in
set_option maxHeartbeats 6400000 in
theorem sort_any (m : Int) (l : List Ev) (a : Option Addr) (cap : Nat) (w : World) (hr : RowAt encEv w (.slice a l.length cap) l) (hn : l.length ≤ 100000) :
    Calls Try.prog 14 #[.int .i64 m, .slice a l.length cap] w fun e w' => ∃ a1 c1, e = .returned (.tuple #[.slice a1 (sortS m l).1.length c1, .int .i64 (sortS m l).2.1, .int .i64 (sortS m l).2.2]) ∧ RowAt encEv w' (.slice a1 (sortS m l).1.length c1) (sortS m l).1 ∧ Below w.heap.size w w' := by
  have hop := open_any m
  have hov := open_valid m
  obtain ⟨r, hrr⟩ : ∃ r, sortS m l = r := ⟨_, rfl⟩
  rw [hrr]
  unfold sortS at hrr
  obtain ⟨⟨⟨b0, b1, b2, b3⟩, E⟩, hO⟩ : ∃ o, openS m = o := ⟨_, rfl⟩
  have hb3 : b3 = [] := by
    unfold openS at hO
    split at hO <;> simp at hO <;> exact hO.1.2.2.2
  subst hb3
  rw [hO] at hop hov hrr
  unfold BufV at hop
  dsimp only at hop hov hrr
  clear hO
  by_cases hE : E = 0
  case neg =>
    rw [if_pos hE] at hrr
    subst hrr
    have d1 : (E == 0) = false := by simpa using hE
    have d2 : (E != 0) = true := by simpa using hE
    clear hov
    dsimp only
    go_enter Try.func14, Try.ntmps14
    go_wp2_with fail
    refine (hop _).mono ?_
    rintro e w1 ⟨rfl, hb1⟩
    go_wp2_with fail
    go_ret3
    exact ⟨none, 0, rfl, RowAt.nil _, hb1.alloc hb1.size _⟩
  subst hE
  rw [if_neg (by simp)] at hrr
  have hov2 : bufB ⟨b0, b1, b2, []⟩ = true := hov (by first | rfl | trivial)
  clear hov
  have HRR := Lib.hid hrr
  clear hrr
  go_enter Try.func14, Try.ntmps14
  go_wp2_with fail
  refine (hop _).mono ?_
  rintro e w1 ⟨rfl, hb1⟩
  have hS0 : SortR w w1.heap.size ⟨b0, b1, b2, []⟩ l 0 ⟨b0, b1, b2, []⟩ [] 0 (.slice none 0 0) none 0 (w1.alloc (.cells #[.int .i64 b0, .int .i64 b1, .int .i64 b2, .slice none 0 0] 24)) :=
    ⟨hb1.alloc hb1.size _, hb1.size, World.ownsRow_nil _ _ _ _, by simp, hov2, heap_alloc_new _ _, RowAt.nil _, by rw [List.drop_zero]⟩
  clear hop hov2
  go_wp2_with fail
  go_loopw [29, 9, 10] (fun i vo vl wr => ∃ k : Nat, k ≤ l.length ∧ i = .int .i64 k ∧ ∃ (buf : Buf) (out : List Ev) (late : Int) (ab : Option Addr) (cb : Nat), vl = .int .i64 late ∧ 0 ≤ late ∧ late ≤ k ∧ SortR w w1.heap.size ⟨b0, b1, b2, []⟩ l k buf out late vo ab cb wr) (fun i _ _ _ => l.length - (intOf i).toNat)
  case atStart => exact ⟨0, Nat.zero_le _, rfl, _, _, 0, none, 0, rfl, by omega, by omega, hS0⟩
  case round =>
    clear hS0
    obtain ⟨k, hk, rfl, buf, out, late, ab, cb, rfl, hl0, hl1, hS⟩ := hrel
    obtain ⟨ao, co, hvo⟩ := owns_shape hS.own
    subst hvo
    have hwl := bufB_wait hS.val
    have hol := hS.len
    obtain ⟨g0, g1, g2, g3⟩ := cells4 hS.box
    have hzB := blk_lt hS.box
    by_cases hlt : k < l.length
    · obtain ⟨bb, off, x, rfl, hx, hcap, c0, c1, c2, c3, c4, c5, c6⟩ := ev_at (hr.below hS.bel) k hlt
      obtain ⟨P, hP⟩ : ∃ P, pushS buf x = P := ⟨_, rfl⟩
      have hpv := push_valid hS.val x
      have hpl := push_len buf x
      have hcall := fun W h => push_any buf x ab cb W h (by omega)
      have heq := hS.eq
      rw [drop_at _ _ _ hx] at heq
      rw [sortL_cons] at heq
      rw [hP] at hpv hpl hcall heq
      unfold PushPost BufV Ev.cells at hcall
      obtain ⟨q, po, pe⟩ := P
      dsimp only at hpv hpl hcall heq
      have hcx := hcall (wr.alloc (.cells #[.int .i64 x.kind, .int .i64 x.time, .int .i64 x.u, .int .i64 x.v, .int .i64 x.weight, .int .i64 x.label, .int .i64 x.sign] 26)) (hS.row.below ((Below.refl _ _).alloc (Nat.le_refl _) _))
      have HEQ := Lib.hid heq
      have HPV := Lib.hid hpv
      clear hP heq hcall hpv hx
      go_wp2_with fail
      refine hcx.mono ?_
      rintro e w3 ⟨a1, c1, a2, c2, rfl, hr1, hr2, hb3, hn1, hn2⟩
      have hb13 : Below wr.heap.size wr w3 := ((Below.refl _ _).alloc (Nat.le_refl _) _).trans (hb3.mono (by simp))
      have hbox3 := lit_next hb13 hS.box
      have hown3 := hS.own.kept (grown_of_below hb13) (Classical.em _)
      have hz3 := blk_lt hbox3
      have hbw3 := hS.bel.trans (hb13.mono hS.bel.size)
      have hB := hS.hB
      by_cases hE0 : pe = 0
      · subst hE0
        have hownA : ((w3.alloc (.cells #[.int .i64 q.bound, .int .i64 q.latest, .int .i64 q.mark, .slice a1 q.wait.length c1] 24)).drew).ownsRow (w1.heap.size + 1) 26 encEv.k (.slice ao out.length co) out.length (flatR encEv out) := hown3.alloc _
        have hr2A : RowAt encEv ((w3.alloc (.cells #[.int .i64 q.bound, .int .i64 q.latest, .int .i64 q.mark, .slice a1 q.wait.length c1] 24)).drew) (.slice a2 po.length c2) po := hr2.below ((Below.refl _ _).alloc (Nat.le_refl _) _).drew
        have hr1A : RowAt encEv ((w3.alloc (.cells #[.int .i64 q.bound, .int .i64 q.latest, .int .i64 q.mark, .slice a1 q.wait.length c1] 24)).drew) (.slice a1 q.wait.length c1) q.wait := hr1.below ((Below.refl _ _).alloc (Nat.le_refl _) _).drew
        have hYA : ((w3.alloc (.cells #[.int .i64 q.bound, .int .i64 q.latest, .int .i64 q.mark, .slice a1 q.wait.length c1] 24)).drew).heap[w3.heap.size]? = some (.cells #[.int .i64 q.bound, .int .i64 q.latest, .int .i64 q.mark, .slice a1 q.wait.length c1] 24 (0, 0)) := heap_alloc_new _ _
        have hBA : ((w3.alloc (.cells #[.int .i64 q.bound, .int .i64 q.latest, .int .i64 q.mark, .slice a1 q.wait.length c1] 24)).drew).heap[w1.heap.size]? = some (.cells #[.int .i64 buf.bound, .int .i64 buf.latest, .int .i64 buf.mark, .slice ab buf.wait.length cb] 24 (0, 0)) := (Below.heap_alloc _ _ _ hz3).trans hbox3
        have hbA : Below w.heap.size w ((w3.alloc (.cells #[.int .i64 q.bound, .int .i64 q.latest, .int .i64 q.mark, .slice a1 q.wait.length c1] 24)).drew) := (hbw3.alloc hbw3.size _).drew
        have hoB : ∀ g, (Value.slice ao out.length co).ownBlock = some g → w1.heap.size < g ∧ g < w3.heap.size ∧ g < wr.heap.size := fun g e => by have h1 := hown3.lt g e; have h2 := hS.own.lt g e; omega
        clear hown3 hr1 hr2 g0 g1 g2 g3
        go_wp2_with fail
        go_region_law (refine step_app_rows evRT rfl (.tmp 45) (.tmp 46) rfl (w1.heap.size + 1) (.slice ao out.length co) (.slice a2 po.length c2) out po rfl (by with_reducible exact hownA) rfl (by with_reducible exact hr2A) (by omega) (by omega) (by simp; omega) ?_; intro v6 w6 hown6 hg6; have hB6 := grown_blk hg6 hBA (fun e => by have := hoB _ e.symm; omega); have hY6 := grown_blk hg6 hYA (fun e => by have := hoB _ e.symm; omega); have y0 := cell_blk (j := 0) hY6; have y1 := cell_blk (j := 1) hY6; have y2 := cell_blk (j := 2) hY6; have y3 := cell_blk (j := 3) hY6; have b0' := cell_blk (j := 0) hB6; have b1' := cell_blk (j := 1) hB6; have b2' := cell_blk (j := 2) hB6; have b3' := cell_blk (j := 3) hB6; have fB : ∀ j, w6.frozen? ⟨w1.heap.size, j, none⟩ = false := (fun j => free_blk hB6))
        all_goals
          go_wp2_with fail
          go_roundw
          case rel =>
            have hlo := hown6.lt
            have hne : v6.ownBlock = none ∨ v6.ownBlock ≠ some w1.heap.size := by
              cases hv : v6.ownBlock with
              | none => exact .inl rfl
              | some g => exact .inr fun e => by cases e; have := hlo _ hv; omega
            have hoA : 0 < q.wait.length → Off w1.heap.size (.slice a1 q.wait.length c1) := fun _ n c p e => by cases e; have := hn1 p rfl; simp at this; omega
            have hrow6 := hr1A.grown hg6 (fun g e n c p ep => by cases ep; have := hoB g e; have := hn1 p rfl; simp at this; omega)
            refine ⟨k + 1, by omega, by go_num, q, out ++ po, late, a1, c1, rfl, hl0, by omega, ⟨?_, hB, ?_, ?_, HPV.out, set_four hB6, ?_, ?_⟩⟩
            · have hb6 : Below w.heap.size w w6 := hbA.grown hg6 hbA.size (fun g e => by have := hoB g e; omega)
              exact (((hb6.setCell (p := ⟨_, 0, none⟩) hB _).setCell (p := ⟨_, 1, none⟩) hB _).setCell (p := ⟨_, 2, none⟩) hB _).setCell (p := ⟨_, 3, none⟩) hB _
            · exact hown6.kept (grown_trans (grown_trans (grown_trans grown_store grown_store) grown_store) grown_store) hne
            · rw [List.length_append]; omega
            · exact (((hrow6.set_off hoA).set_off hoA).set_off hoA).set_off hoA
            · rw [HEQ.out, if_neg (by decide), if_neg (by decide)]
          case measure => simp [intOf]; omega
      · by_cases hE10 : pe = 10
        · subst hE10
          go_wp2_with fail
          go_roundw
          case rel =>
            refine ⟨k + 1, by omega, by go_num, buf, out, late + 1, ab, cb, by go_num, by omega, by omega, ⟨(hbw3.alloc hbw3.size _), hB, hown3.alloc _, by omega, hS.val, (Below.heap_alloc _ _ _ hz3).trans hbox3, (hS.row.below hb13).below ((Below.refl _ _).alloc (Nat.le_refl _) _), ?_⟩⟩
            rw [HEQ.out]; simp
          case measure => simp [intOf]; omega
        · have d1 : (pe == 0) = false := by simpa using hE0
          have d2 : (pe == 10) = false := by simpa using hE10
          have hq : sortL ⟨b0, b1, b2, []⟩ [] 0 l = ([], 0, pe) := by rw [HEQ.out, if_neg hE10, if_pos hE0]
          have HQ := Lib.hid hq
          clear hq hE0 hE10
          go_wp2_with fail
          go_ret3
          have hrq : r = ([], 0, pe) := by rw [← HRR.out]; exact HQ.out
          subst hrq
          exact ⟨none, 0, rfl, RowAt.nil _, hbw3.alloc hbw3.size _⟩
    · obtain rfl : k = l.length := by omega
      obtain ⟨P, hP⟩ : ∃ P, flushS buf = P := ⟨_, rfl⟩
      have hpl := flush_len buf
      have hcall := fun W h => flush_any buf ab cb W h (by omega)
      have heq := hS.eq
      rw [List.drop_length] at heq
      have heq : sortL ⟨b0, b1, b2, []⟩ [] 0 l = (out ++ (flushS buf).2.1, late, 0) := heq
      rw [hP] at hpl hcall heq
      unfold PushPost BufV at hcall
      obtain ⟨q, po, pe⟩ := P
      dsimp only at hpl hcall heq
      have hcx := hcall wr hS.row
      have HEQ := Lib.hid heq
      clear hP heq hcall
      go_wp2_with fail
      refine hcx.mono ?_
      rintro e w3 ⟨a1, c1, a2, c2, rfl, hr1, hr2, hb3, hn1, hn2⟩
      have hown3 := (hS.own.kept (grown_of_below hb3) (Classical.em _)).alloc (.cells #[.int .i64 q.bound, .int .i64 q.latest, .int .i64 q.mark, .slice a1 q.wait.length c1] 24)
      have hbw3 := hS.bel.trans (hb3.mono hS.bel.size)
      have hbw4 := hbw3.alloc hbw3.size (.cells #[.int .i64 q.bound, .int .i64 q.latest, .int .i64 q.mark, .slice a1 q.wait.length c1] 24)
      have hr2A := hr2.below ((Below.refl _ _).alloc (Nat.le_refl _) (.cells #[.int .i64 q.bound, .int .i64 q.latest, .int .i64 q.mark, .slice a1 q.wait.length c1] 24))
      have hsz := hb3.size
      have hB := hS.hB
      clear g0 g1 g2 g3 hr1 hr2
      go_wp2_with (at_builtin; refine wpList_app_rows evRT rfl _ _ rfl (w1.heap.size + 1) (.slice ao out.length co) (.slice a2 po.length c2) out po rfl hown3 rfl hr2A (by omega) (by omega) (by simp; omega) ?_; intro v6 w6 hown6 hg6; obtain ⟨a6, cap6, hv6, hr6, p6⟩ := RowAt.of_owns hown6 (by rw [List.length_append]; omega); subst hv6)
      go_ret3
      have hrq : r = (out ++ po, late, 0) := by rw [← HRR.out]; exact HEQ.out
      subst hrq
      exact ⟨a6, cap6, by rw [List.length_append]; rfl, hr6, hbw4.grown hg6 hbw4.size (fun g e => by have := hown3.lt g e; omega)⟩
end Go.Proofs.Ytdljkobgghnkpaa
