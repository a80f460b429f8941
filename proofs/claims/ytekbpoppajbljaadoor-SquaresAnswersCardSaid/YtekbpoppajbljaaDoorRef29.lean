/- The contracts of the reference's triangles: nodes, count. -/
import Derived.Test.YtekbpoppajbljaaDoorCntW
import Derived.Test.YtekbpoppajbljaaDoorRef03New
import Derived.Test.YtekbpoppajbljaaDoorNeigh
import Derived.Test.YtekbpoppajbljaaDoorPatNames
import Derived.Deep.RegionHeld3
namespace Go.Proofs.YtekbpoppajbljaaDoor
open Go.RowKit Go.BigFrame

/-- the third nodes of the triangles of the first k edges -/
def tri29 (es : List E2) (n k : Nat) : List Nat := (es.take k).flatMap fun e => cmL es n e.1.toNat e.2.toNat
theorem tri29_succ (es : List E2) (n k : Nat) (u v : Nat) (h : es.take (k + 1) = es.take k ++ [((u : Int), (v : Int))]) : tri29 es n (k + 1) = tri29 es n k ++ cmL es n u v := by
  unfold tri29; rw [h]; simp
theorem cmL_lt (es : List E2) (n u v x : Nat) (h : x ∈ cmL es n u v) : x < n := List.mem_range.1 (List.mem_filter.1 h).1
theorem take_next {α : Type} (l : List α) (k : Nat) (x : α) (h : l[k]? = some x) : l.take (k + 1) = l.take k ++ [x] := by
  obtain ⟨hk, he⟩ := List.getElem?_eq_some_iff.1 h
  rw [List.take_succ_eq_append_getElem hk, he]
set_option maxRecDepth 100000 in
set_option maxHeartbeats 3200000 in
theorem nodes29_any (n : Nat) (a : Option Addr) (cap : Nat) (es : List E2) (w : World) (he : EdgesAt w (.slice a es.length cap) es) (hv : Valid n es) :
    Calls Tryd.prog 48 #[.agg #[.int .i64 n, .slice a es.length cap]] w fun e w' => ∃ g, e = .returned (.tuple #[.slice (some ⟨g, 0, none⟩) n n, .int .i64 0]) ∧ w.heap.size ≤ g ∧ NumAt w' g (cntW n (tri29 es n es.length)) ∧ Below w.heap.size w w' := by
  have hn64 : n ≤ 64 := by have := hv.2.1; omega
  have hlen := hv.length_le
  have hG0 : (w.alloc (.cells #[.int .i64 n, .slice a es.length cap] 27)).heap[w.heap.size]? = some (.cells #[.int .i64 n, .slice a es.length cap] 27 (0, 0)) := heap_alloc_new _ _
  have hb0 : Below w.heap.size w (w.alloc (.cells #[.int .i64 n, .slice a es.length cap] 27)) := (Below.refl _ _).alloc (Nat.le_refl _) _
  have hmk := make_ints n (by omega)
  go_enter Tryd.func48, Tryd.ntmps48
  go_wp2_with fail
  refine (check_any n a cap es _ (he.below hb0)).mono ?_
  rintro e w1 ⟨rfl, hb1⟩
  rw [(valid_iff n es).2 hv]
  have hG1 := (hb1.block _ (blk_lt hG0)).trans hG0
  have hbw := hb0.trans (hb1.mono hb0.size)
  obtain ⟨g0, g1⟩ := cells2 hG1
  clear hb1 hb0 hG0
  have hz1 := blk_lt hG1
  go_wp2_with fail
  clear hmk
  have hN0 := NumAt.new w1 n
  have hbx : Below w1.heap.size w1 (w1.alloc (.cells (intsV (List.replicate n 0)).toArray 3)) := (Below.refl _ _).alloc (Nat.le_refl _) _
  go_loopw [6] (fun i wr => ∃ k : Nat, k ≤ es.length ∧ i = .int .i64 k ∧ Below w1.heap.size w1 wr ∧ NumAt wr w1.heap.size (cntW n (tri29 es n k))) (fun i _ => es.length - (intOf i).toNat)
  case atStart => exact ⟨0, Nat.zero_le _, rfl, hbx, hN0⟩
  case round =>
    clear hbx hN0 g0 g1
    obtain ⟨k, hk, rfl, hb, hN⟩ := hrel
    have hbr := hbw.trans (hb.mono hbw.size)
    have hGr := (hb.block _ (blk_lt hG1)).trans hG1
    obtain ⟨q0, q1⟩ := cells2 hGr
    by_cases hlt : k < es.length
    · obtain ⟨b, off, x, y, rfl, hget, _, htk, c0, c1⟩ := (he.below hbr).at k hlt
      have hins := hv.2.2.1 (x, y) (List.mem_of_getElem? hget)
      unfold Ins at hins
      dsimp only at hins
      obtain ⟨u, rfl⟩ := Int.eq_ofNat_of_zero_le hins.1
      obtain ⟨v, rfl⟩ := Int.eq_ofNat_of_zero_le (show 0 ≤ y by omega)
      have huv : (u : Int) ≠ (v : Int) := by omega
      have hcm := common_eq hv u v
      have HT := Lib.hid (tri29_succ es n k u v htk)
      have hcl := fun x hx => cmL_lt es n u v x hx
      have hcall := fun w' h => common_new n (some ⟨b, off, none⟩) cap es u v w' h hv huv
      rw [hcm] at hcall
      have hee := he.below hbr
      clear hins huv hcm hget htk
      generalize cmL es n u v = cl at *
      go_wp2_with fail
      have hz0 := cell_lt q0
      have hzb := cell_lt c0
      go_region_held3 (fun w' => w'.cell? ⟨w.heap.size, 0, none⟩ = some (.int .i64 n) ∧ w'.cell? ⟨w.heap.size, 1, none⟩ = some (.slice (some ⟨b, off, none⟩) es.length cap) ∧ w'.cell? ⟨b, off + k * 2, none⟩ = some (.int .i64 u) ∧ w'.cell? ⟨b, off + k * 2 + 1, none⟩ = some (.int .i64 v))
        (first
          | go_keep
          | exact ⟨(hb5.cell (p := ⟨w.heap.size, 0, none⟩) hz0).trans q0, (hb5.cell (p := ⟨w.heap.size, 1, none⟩) hz0).trans q1, (hb5.cell (p := ⟨b, off + k * 2, none⟩) hzb).trans c0, (hb5.cell (p := ⟨b, off + k * 2 + 1, none⟩) hzb).trans c1⟩)
        (first
          | (go_at_call 29; refine (hcall _ (hee.below (Below.refl _ _).drew)).mono ?_; rintro e w5 ⟨a5, cap5, rfl, hi5, hb5, ho5⟩))
      have hbd : Below w1.heap.size w1 w5 := hb.drew.trans (hb5.mono hb.drew.size)
      have hN5 := (ofe_drew hN).below hb5
      have hzN : w1.heap.size < wr.heap.size := blk_lt hN
      have hi6 : IntsAt w5 (.slice a5 cl.length cap5) (natI cl) := by have h := hi5; rw [List.length_map] at h; exact h
      have ho6 : ∀ p, a5 = some p → p.block ≠ w1.heap.size := fun p hp => by have h := ho5 p hp; have hs : wr.drew.heap.size = wr.heap.size := rfl; omega
      have hclen : cl.length ≤ 70368744177664 := by obtain ⟨_, _, _, _, _, h, _⟩ := hi6; rw [natI_length] at h; exact h
      clear hi5 ho5 hb5 hb hN c0 c1 q0 q1 hcall hee hGr hbr
      go_wp2_with fail
      go_loopw [8] (fun i wr => ∃ j : Nat, j ≤ cl.length ∧ i = .int .i64 j ∧ Below w1.heap.size w1 wr ∧ NumAt wr w1.heap.size (cntW n (tri29 es n k ++ cl.take j)) ∧ IntsAt wr (.slice a5 cl.length cap5) (natI cl)) (fun i _ => cl.length - (intOf i).toNat)
      case atStart => exact ⟨0, Nat.zero_le _, rfl, hbd, by simpa using hN5, hi6⟩
      case round =>
        clear hbd hN5 hi6
        obtain ⟨j, hj, rfl, hb, hN, hI⟩ := hrel
        by_cases hltj : j < cl.length
        · obtain ⟨bl, ol, rfl, cx⟩ := natI_at hI j hltj
          have hx : cl.getD j 0 < n := by rw [List.getD_eq_getElem?_getD, List.getElem?_eq_getElem hltj]; exact hcl _ (List.getElem_mem _)
          have HTK : Hid (cl.take (j + 1) = cl.take j ++ [cl.getD j 0]) := by
            show _ = _
            rw [List.getD_eq_getElem?_getD, List.getElem?_eq_getElem hltj]
            exact List.take_succ_eq_append_getElem hltj
          generalize cl.getD j 0 = x at *
          have cn := hN.cell x _ (cntW_get _ _ x hx)
          have fn : wr.frozen? ⟨w1.heap.size, x, none⟩ = false := free_blk hN
          have HN2 := Lib.hid (hN.set x (wrap64 (wrap64 (occ (tri29 es n k ++ cl.take j) x) + 1)))
          rw [cntW_snoc, List.append_assoc] at HN2
          have HI2 : Hid (IntsAt (wr.setCell ⟨w1.heap.size, x, none⟩ (.int .i64 (wrap64 (wrap64 (occ (tri29 es n k ++ cl.take j) x) + 1)))) (.slice (some ⟨bl, ol, none⟩) cl.length cap5) (natI cl)) := hI.grown grown_store (fun g e n c p ep => by cases e; cases ep; exact ho6 _ rfl)
          clear hN hI
          generalize occ (tri29 es n k ++ cl.take j) x = c at *
          go_wp2_with fail
          go_roundw
          case rel => exact ⟨j + 1, by omega, by go_num, hb.setCell (p := ⟨w1.heap.size, x, none⟩) (Nat.le_refl _) _, by rw [HTK.out]; exact HN2.out, HI2.out⟩
          case measure => simp [intOf]; omega
        · obtain rfl : j = cl.length := by omega
          rw [List.take_length, ← HT.out] at hN
          go_wp2_with fail
          go_roundw
          case rel => exact ⟨k + 1, by omega, by go_num, hb, hN⟩
          case measure => simp [intOf]; omega
    · obtain rfl : k = es.length := by omega
      go_wp2_with fail
      go_ret2
      exact ⟨_, rfl, hbw.size, hN, hbr⟩
/-- the sum of the counts of a list is its length -/
theorem occ_sum (n : Nat) : ∀ P : List Nat, (∀ x ∈ P, x < n) → sumN (fun x => occ P x) n = P.length := by
  intro P
  induction P with
  | nil => intro _; simp only [occ, List.filter_nil]; exact sumN_zero n
  | cons y P ih =>
    intro h
    have e : ∀ x, x < n → occ (y :: P) x = (if x = y then 1 else 0) + occ P x := by
      intro x _
      unfold occ
      by_cases hxy : y = x
      · subst hxy; simp; omega
      · have : (y == x) = false := by simpa using hxy
        have h2 : ¬ x = y := fun e => hxy e.symm
        simp [this, h2]
    rw [sumN_congr _ _ n e, sumN_add, ih (fun x hx => h x (List.mem_cons_of_mem _ hx)), sumN_single y (fun _ => 1) n, if_pos (h y List.mem_cons_self)]
    simp; omega
theorem tri29_lt (es : List E2) (n k : Nat) : ∀ x ∈ tri29 es n k, x < n := by
  intro x hx
  obtain ⟨e, _, h⟩ := List.mem_flatMap.1 hx
  exact cmL_lt es n _ _ x h
theorem wrap64_add (a b : Int) : wrap64 (wrap64 a + wrap64 b) = wrap64 (a + b) := by unfold wrap64; omega
/-- the program's sum over an array of counts -/
def sumW (P : List Nat) (k : Nat) : Int := wrap64 (sumN (fun x => occ P x) k)
theorem sumW_succ (P : List Nat) (k : Nat) : wrap64 (sumW P k + wrap64 (occ P k)) = sumW P (k + 1) := by unfold sumW; rw [wrap64_add]; rfl
set_option maxRecDepth 100000 in
set_option maxHeartbeats 800000 in
theorem count29_any (n : Nat) (a : Option Addr) (cap : Nat) (es : List E2) (w : World) (he : EdgesAt w (.slice a es.length cap) es) (hv : Valid n es) :
    Calls Tryd.prog 14 #[.agg #[.int .i64 n, .slice a es.length cap]] w fun e w' => e = .returned (.tuple #[.int .i64 (wrap64 ((sumW (tri29 es n es.length) n).tdiv 3)), .int .i64 0]) ∧ Below w.heap.size w w' := by
  have hn64 : n ≤ 64 := by have := hv.2.1; omega
  have hb0 : Below w.heap.size w (w.alloc (.cells #[.int .i64 n, .slice a es.length cap] 27)) := (Below.refl _ _).alloc (Nat.le_refl _) _
  have hc := nodes29_any n a cap es _ (he.below hb0) hv
  obtain ⟨P, hP⟩ : ∃ P, tri29 es n es.length = P := ⟨_, rfl⟩
  rw [hP] at hc ⊢
  clear hP
  go_enter Tryd.func14, Tryd.ntmps14
  go_wp2_with fail
  refine hc.mono ?_
  rintro e w1 ⟨g, rfl, hg, hN, hb1⟩
  have hbw := hb0.trans (hb1.mono hb0.size)
  clear hb1 hb0 hc
  go_wp2_with fail
  go_loop [6, 7] (fun s i => ∃ k : Nat, k ≤ n ∧ i = .int .i64 k ∧ s = .int .i64 (sumW P k)) (fun _ i => n - (intOf i).toNat)
  case atStart => exact ⟨0, Nat.zero_le _, rfl, by simp [sumW, sumN, wrap64]⟩
  case round =>
    obtain ⟨k, hk, rfl, rfl⟩ := hrel
    by_cases hlt : k < n
    · have cn := hN.cell k _ (cntW_get n P k hlt)
      have HS := Lib.hid (sumW_succ P k)
      generalize sumW P k = s at *
      generalize wrap64 (occ P k) = y at *
      go_wp2_with fail
      go_round
      case rel => exact ⟨k + 1, by omega, by go_num, by rw [← HS.out]⟩
      case measure => simp [intOf]; omega
    · obtain rfl : k = n := by omega
      go_wp2_with fail
      go_ret2
      exact ⟨rfl, hbw⟩
end Go.Proofs.YtekbpoppajbljaaDoor
