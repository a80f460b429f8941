/- The contract of choosing links. -/
import Derived.Test.YtkadeibinhkbjaaLkWhere
namespace Go.Proofs.Ytkadeibinhkbjaa
open Go.RowKit Go.BigFrame

theorem where_snoc (labels : List Int) (sign least : Int) (l : List Lk) (x : Lk) : (l ++ [x]).filter (whB labels sign least) = if whB labels sign least x = true then l.filter (whB labels sign least) ++ [x] else l.filter (whB labels sign least) := by
  rw [List.filter_append]
  cases h : whB labels sign least x <;> simp [h]
/-- the boxes of Only -/
structure OnW (w wr : World) (n : Int) (v v2 : Value) : Prop where
  s : wr.heap[w.heap.size]? = some (.cells #[.int .i64 n, v] 24 (0, 0))
  r : wr.heap[w.heap.size + 1]? = some (.cells #[.int .i64 0, .slice none 0 0] 24 (0, 0))
  o : wr.heap[w.heap.size + 2]? = some (.cells #[.int .i64 n, v2] 24 (0, 0))
  be : Below w.heap.size w wr
theorem OnW.next {w wr w' : World} {n : Int} {v v2 : Value} (h : OnW w wr n v v2) (hb : Below wr.heap.size wr w') : OnW w w' n v v2 :=
  ⟨lk_next hb h.s, lk_next hb h.r, lk_next hb h.o, h.be.trans (hb.mono h.be.size)⟩
/-- the first two boxes -/
structure OnS (w wr : World) (n : Int) (v : Value) : Prop where
  s : wr.heap[w.heap.size]? = some (.cells #[.int .i64 n, v] 24 (0, 0))
  r : wr.heap[w.heap.size + 1]? = some (.cells #[.int .i64 0, .slice none 0 0] 24 (0, 0))
  sz : wr.heap.size = w.heap.size + 2
  be : Below w.heap.size w wr
theorem AlState (w : World) (n : Int) (v : Value) : OnS w ((w.alloc (.cells #[.int .i64 n, v] 24)).alloc (.cells #[.int .i64 0, .slice none 0 0] 24)) n v := by
  have hb1 := (Below.refl w.heap.size w).alloc (Nat.le_refl _) (.cells #[.int .i64 n, v] 24)
  have hb2 := (Below.refl _ (w.alloc (.cells #[.int .i64 n, v] 24))).alloc (Nat.le_refl _) (.cells #[.int .i64 0, .slice none 0 0] 24)
  have hz1 : (w.alloc (.cells #[.int .i64 n, v] 24)).heap.size = w.heap.size + 1 := by simp
  have h1 := heap_alloc_new w (.cells #[.int .i64 n, v] 24)
  have h2 := heap_alloc_new (w.alloc (.cells #[.int .i64 n, v] 24)) (.cells #[.int .i64 0, .slice none 0 0] 24)
  rw [hz1] at h2
  exact ⟨lk_next hb2 h1, h2, by simp, hb1.trans (hb2.mono hb1.size)⟩
theorem OnS.more {w wr : World} {n : Int} {v : Value} (m : Int) (h : OnS w wr m v) (hn : m = n := by rfl) : OnW w (wr.alloc (.cells #[.int .i64 n, .slice none 0 0] 24)) n v (.slice none 0 0) := by
  subst hn
  have hb := (Below.refl wr.heap.size wr).alloc (Nat.le_refl _) (.cells #[.int .i64 m, .slice none 0 0] 24)
  have h2 := heap_alloc_new wr (.cells #[.int .i64 m, .slice none 0 0] 24)
  rw [h.sz] at h2
  exact ⟨lk_next hb h.s, lk_next hb h.r, h2, h.be.trans (hb.mono h.be.size)⟩
def OnlyPost (w : World) (n : Int) (ls' : List Lk) (e : Ending) (w' : World) : Prop :=
  ∃ a1 c1, e = .returned (.agg #[.int .i64 n, .slice a1 ls'.length c1]) ∧ RowAt encLk w' (.slice a1 ls'.length c1) ls' ∧ (∀ p, a1 = some p → w.heap.size ≤ p.block) ∧ Below w.heap.size w w'
set_option maxRecDepth 100000 in
set_option maxHeartbeats 6400000 in
theorem lonly_any (n : Int) (ls : List Lk) (a a2 : Option Addr) (cap cap2 B1 B2 B3 : Nat) (labels : List Int) (sign least : Int) (w : World) (hl : RowAt encLk w (.slice a ls.length cap) ls) (hln : ls.length ≤ 4096) (hW : WhW w B1 B2 B3 a2 cap2 labels sign least) :
    Calls Try.prog 44 #[.agg #[.int .i64 n, .slice a ls.length cap], .func (.func 45) #[] #[.pointer (some ⟨B1, 0, none⟩), .pointer (some ⟨B2, 0, none⟩), .pointer (some ⟨B3, 0, none⟩)]] w (OnlyPost w n (ls.filter (whB labels sign least))) := by
  have hst := AlState w n (.slice a ls.length cap)
  obtain ⟨F, hF⟩ : ∃ F, ls.filter (whB labels sign least) = F := ⟨_, rfl⟩
  rw [hF]
  have HF := Lib.hid hF
  clear hF
  have s0 := cell_blk (j := 0) hst.s
  have s1 := cell_blk (j := 1) hst.s
  go_enter Try.func44, Try.ntmps44
  go_wp2_with fail
  have hO := hst.more n
  obtain ⟨w3, hw3⟩ : ∃ W : World, W = ((w.alloc (.cells #[.int .i64 n, .slice a ls.length cap] 24)).alloc (.cells #[.int .i64 0, .slice none 0 0] 24)).alloc (.cells #[.int .i64 n, .slice none 0 0] 24) := ⟨_, rfl⟩
  rw [← hw3] at hO ⊢
  clear hw3 hst s0 s1
  go_loopw [14] (fun vi wr => ∃ (i nl : Nat) (K : List Lk) (al : Option Addr) (cl : Nat), i ≤ ls.length ∧ vi = .int .i64 i ∧ Hid (K = (ls.take i).filter (whB labels sign least)) ∧ Hid (nl = K.length) ∧ nl ≤ i ∧ OnW w wr n (.slice a ls.length cap) (.slice al nl cl) ∧ wr.ownsRow (w.heap.size + 3) 50 encLk.k (.slice al nl cl) nl (flatR encLk K)) (fun vi _ => ls.length - (intOf vi).toNat)
  case atStart => exact ⟨0, 0, [], none, 0, Nat.zero_le _, rfl, (show _ = _ from rfl), (show _ = _ from rfl), Nat.le_refl _, hO, World.ownsRow_nil _ _ _ _⟩
  case round =>
    clear hO
    obtain ⟨i, nl, K, al, cl, hi, rfl, HK, HNL, hnl, hO, hown⟩ := hrel
    by_cases hlt : i < ls.length
    · have hlt3 : (i : Int) < ls.length := by omega
      obtain ⟨b, off, x, rfl, hx, hcap, c0, c1, c2, c3, c4, c5⟩ := lk_at (hl.below hO.be) i hlt
      have htk := take_at ls i x hx
      have hsn := where_snoc labels sign least (ls.take i) x
      rw [← htk, ← HK.out] at hsn
      have hbx := (Below.refl wr.heap.size wr).alloc (Nat.le_refl _) (.cells x.cells 50)
      have hX := heap_alloc_new wr (.cells x.cells 50)
      have hO1 := hO.next hbx
      have hown1 := hown.alloc (.cells x.cells 50)
      have hw1 := fun W h => where1_any B1 B2 B3 a2 cap2 labels sign least x W h
      have hWh := hW.next hO1.be
      obtain ⟨B, hB⟩ : ∃ B, whB labels sign least x = B := ⟨_, rfl⟩
      rw [hB] at hw1 hsn
      have HSN := Lib.hid hsn
      have hEnc : encLk.enc x = x.cells.toList := rfl
      have HENC := Lib.hid hEnc
      obtain ⟨y, hy⟩ : ∃ y, x = y := ⟨_, rfl⟩
      rw [hy] at HSN HENC
      have HY := Lib.hid hy
      clear hx htk hsn hB hEnc hy hO hown
      obtain ⟨xu, xv, x1, x2, x3, x4⟩ := x
      have HYC : Hid (y.cells = #[.int .i64 xu, .int .i64 xv, .int .i64 x1, .int .i64 x2, .int .i64 x3, .int .i64 x4]) := (show _ = _ by rw [← HY.out]; rfl)
      unfold Lk.cells at hbx hX hO1 hown1 hw1 hWh
      dsimp only at c0 c1 c2 c3 c4 c5 hbx hX hO1 hown1 hw1 hWh
      obtain ⟨q0, q1, q2, q3, q4, q5⟩ := cells6 hX
      go_wp2_with fail
      refine (hw1 _ hWh).mono ?_
      rintro _ w5 ⟨rfl, hb5⟩
      have hO5 := hO1.next hb5
      have hX5 := lk_next hb5 hX
      have hown5 : w5.ownsRow (w.heap.size + 3) 50 encLk.k (.slice al nl cl) nl (flatR encLk K) := hown1.kept (row := none) ⟨hb5.os, hb5.tape, hb5.output, hb5.size, fun k hk _ => hb5.block k hk⟩ (by
        cases hs : (Value.slice al nl cl).ownBlock with
        | none => exact .inl rfl
        | some g => exact .inr (by simp))
      clear hw1 hWh hb5 hbx hX hO1 hown1 c0 c1 c2 c3 c4 c5 q0 q1 q2 q3 q4 q5
      cases B with
      | false =>
        have HN : Hid (K = (ls.take (i + 1)).filter (whB labels sign least)) := (show _ = _ by rw [HSN.out, if_neg (by simp)])
        go_wp2_with fail
        go_roundw
        case rel => exact ⟨i + 1, nl, K, al, cl, by omega, by go_num, HN, HNL, by omega, hO5, hown5⟩
        case measure => simp [intOf]; omega
      | true =>
        have HN : Hid (K ++ [y] = (ls.take (i + 1)).filter (whB labels sign least)) := (show _ = _ by rw [HSN.out, if_pos rfl])
        obtain ⟨q0, q1, q2, q3, q4, q5⟩ := cells6 hX5
        have o1 := cell_blk (j := 1) hO5.o
        have hlx := rows_lit1 (E := encLk) w5 y 50 #[.int .i64 xu, .int .i64 xv, .int .i64 x1, .int .i64 x2, .int .i64 x3, .int .i64 x4] (by rw [HENC.out, HYC.out])
        have hbA := (Below.refl w5.heap.size w5).alloc (Nat.le_refl _) (.cells #[.int .i64 xu, .int .i64 xv, .int .i64 x1, .int .i64 x2, .int .i64 x3, .int .i64 x4] 50)
        have hOA := hO5.next hbA
        have hownA := hown5.alloc (.cells #[.int .i64 xu, .int .i64 xv, .int .i64 x1, .int .i64 x2, .int .i64 x3, .int .i64 x4] 50)
        have hzA : w.heap.size + 3 ≤ (w5.alloc (.cells #[.int .i64 xu, .int .i64 xv, .int .i64 x1, .int .i64 x2, .int .i64 x3, .int .i64 x4] 50)).heap.size := blk_lt hOA.o
        clear hO5 hown5 hX5
        go_wp2_with (at_builtin; refine wpList_app_rows lkRT rfl _ _ rfl (w.heap.size + 3) (.slice al nl cl) _ K [y] rfl (by rw [← HNL.out]; exact hownA) rfl hlx (by rw [← HNL.out]; simp; omega) (by rw [← HNL.out]; simp; omega) hzA ?_; intro v6 w6 hown6 hg6; have hl6 : (K ++ [y]).length = nl + 1 := (by rw [List.length_append, ← HNL.out]; rfl); rw [hl6] at hown6; obtain ⟨a6, c6, rfl⟩ := owns_shape hown6; have hne : ∀ k, k ≤ w.heap.size + 2 → some k ≠ (Value.slice al nl cl).ownBlock := (fun k hk e => by have := (hownA.lt k e.symm).1; omega); have hs6 := grown_blk hg6 hOA.s (hne _ (by omega)); have hr6 := grown_blk hg6 hOA.r (hne _ (by omega)); have ho6 := grown_blk hg6 hOA.o (hne _ (by omega)); have o61 := cell_blk (j := 1) ho6; have f61 := free_blk (j := 1) ho6)
        have hbe6 := hOA.be.grown hg6 hOA.be.size (fun k e => by have := (hownA.lt k e).1; omega)
        have hO7 : OnW w (w6.setCell ⟨w.heap.size + 2, 1, none⟩ (.slice a6 (nl + 1) c6)) n (.slice (some ⟨b, off, none⟩) ls.length cap) (.slice a6 (nl + 1) c6) :=
          ⟨(Below.heap_setCell w6 ⟨w.heap.size + 2, 1, none⟩ _ w.heap.size (by show w.heap.size ≠ w.heap.size + 2; omega)).trans hs6, (Below.heap_setCell w6 ⟨w.heap.size + 2, 1, none⟩ _ (w.heap.size + 1) (by show w.heap.size + 1 ≠ w.heap.size + 2; omega)).trans hr6, heap_setCell_same w6 (w.heap.size + 2) 1 _ _ _ ho6, hbe6.grown grown_lk hbe6.size (fun k e => by cases e; omega)⟩
        have hown7 : (w6.setCell ⟨w.heap.size + 2, 1, none⟩ (.slice a6 (nl + 1) c6)).ownsRow (w.heap.size + 3) 50 encLk.k (.slice a6 (nl + 1) c6) (nl + 1) (flatR encLk (K ++ [y])) := hown6.kept grown_lk (by
          cases hs : (Value.slice a6 (nl + 1) c6).ownBlock with
          | none => exact .inl rfl
          | some k => have := (hown6.lt k hs).1; exact .inr (by intro e; have := Option.some.inj e; omega))
        go_wp2_with fail
        go_roundw
        case rel => exact ⟨i + 1, nl + 1, K ++ [y], a6, c6, by omega, by go_num, HN, (show _ = _ by rw [List.length_append, ← HNL.out]; rfl), by omega, hO7, hown7⟩
        case measure => simp [intOf]; omega
    · obtain rfl : i = ls.length := by omega
      have hK : K = F := by rw [HK.out, List.take_length, HF.out]
      have HKF := Lib.hid hK
      have o0 := cell_blk (j := 0) hO.o
      have o1 := cell_blk (j := 1) hO.o
      have r0 := cell_blk (j := 0) hO.r
      have r1 := cell_blk (j := 1) hO.r
      have g0 := free_blk (j := 0) hO.r
      have g1 := free_blk (j := 1) hO.r
      have hbe := hO.be
      have hfin := set_two (u := .int .i64 n) (v := .slice al nl cl) hO.r
      have HFIN := Lib.hid hfin
      obtain ⟨_, _, hv', hre, hpe⟩ := RowAt.of_owns (xs := K) (by rw [← HNL.out]; exact hown) (by rw [← HNL.out]; omega)
      rw [← HNL.out] at hv'
      obtain ⟨rfl, -, rfl⟩ := Value.slice.inj hv'
      clear hK hfin hv' hown
      go_wp2_with fail
      have t0 := cell_blk (j := 0) HFIN.out
      have t1 := cell_blk (j := 1) HFIN.out
      have hg2 : wr.grownBy ((wr.setCell ⟨w.heap.size + 1, 0, none⟩ (.int .i64 n)).setCell ⟨w.heap.size + 1, 1, none⟩ (.slice al nl cl)) (some (w.heap.size + 1)) := grown_trans grown_lk grown_lk
      have hr9 := hre.grown hg2 (fun g e n c p hp => by cases e; have := hpe p (Value.slice.inj hp).1; omega)
      exact bodyPost_ret (v := .agg #[.int .i64 n, .slice al nl cl]) (by simp [results, Try.results44, go_sem, t0, t1]) rfl ⟨al, cl, by rw [← HKF.out, ← HNL.out], by rw [← HKF.out]; exact hr9, (fun p h => by have := hpe p h; omega), hbe.grown hg2 hbe.size (fun k e => by cases e; omega)⟩
end Go.Proofs.Ytkadeibinhkbjaa
