/- The walk of the law HistoryStands. -/
import Derived.Test.YtpblaoeaeljmhaaHisStandsP
import Derived.Test.YtpblaoeaeljmhaaHisAwake
import Derived.Test.YtpblaoeaeljmhaaLkRAll
import Derived.Test.YtpblaoeaeljmhaaLkSame
import Derived.Test.YtpblaoeaeljmhaaLkRef
namespace Go.Proofs.Ytpblaoeaeljmhaa
open Go.RowKit Go.BigFrame

theorem lastT_snoc (t l : Int) (ts : List Int) (x : Int) : lastT t l (ts ++ [x]) = if x ≤ t then x else lastT t l ts := by unfold lastT; rw [List.foldl_append]; rfl
set_option maxRecDepth 100000 in
set_option maxHeartbeats 6400000 in
theorem stands_law (a : Option Addr) (len cap : Nat) (ta : Int) (w : World) (hl : ListAt w a len) :
    Calls Try.prog 5 #[.slice a len cap, .int .i64 ta] w fun e w' => e = .returned (.bool true) ∧ Below w.heap.size w w' := by
  have hdk := deck_new (cap := cap) hl
  have hb1 : Below w.heap.size w (w.alloc (.cells #[.slice a len cap, .int .i64 0] 65)) := (Below.refl _ _).alloc (Nat.le_refl _) _
  go_enter Try.func5, Try.ntmps5
  go_wp2_with (go_at_call 7; refine (new_any _ _ _ _).mono ?_; rintro e w' ⟨rfl, rfl⟩)
  refine (next_any w.heap.size 5 _ hdk (by omega) (by omega)).mono ?_
  rintro _ w2 ⟨y, hy0, hy1, rfl, hd2, hg2⟩
  have hb2 := hb1.grown hg2 hb1.size (fun g e => by cases e; exact Nat.le_refl _)
  have v1 : IntKind.i64.wrap (2 + y) = 2 + y := IntWalk.i64_in _ (by omega)
  clear hdk hb1 hg2
  go_wp2_with fail
  obtain ⟨n, hn⟩ : ∃ n, 2 + y = n := ⟨_, rfl⟩
  have hn2 : 2 ≤ n := by omega
  have hn5 : n ≤ 6 := by omega
  rw [hn]
  clear hn v1 hy0 hy1
  refine (events_any w.heap.size n 14 _ hd2 hn2 (by omega) (by omega) (by omega)).mono ?_
  rintro _ w3 ⟨ae, ce, es, rfl, hes3, hok, hlen, hd3, hg3, hpe⟩
  have hb3 := hb2.grown hg3 hb2.size (fun g e => by cases e; exact Nat.le_refl _)
  clear hd2 hg3 hb2 hpe hd3
  have hhis : hisS n es = 0 := hok.his hn2 (by omega) (by omega)
  obtain ⟨t, ht⟩ : ∃ t, modS ta 50 = t := ⟨_, rfl⟩
  obtain ⟨hP1, ⟨kk, hP2⟩⟩ := stands_plain hok hn2 (by omega) t
  have haX : ∀ t, atX n es t = ((n, atV t (verF [] false es)), 0) := fun t => by unfold atX; rw [if_neg (by simp [hhis])]
  have htX : timesX n es = (timesF (verF [] false es), 0) := by unfold timesX; rw [if_neg (by simp [hhis])]
  have hA2 := haX (lastT t (-1) (timesF (verF [] false es)))
  rw [hP1] at hA2
  have hA1 := haX t
  have htl := timesF_len (verF [] false es)
  have hvl := verF_len es [] false
  obtain ⟨L, hL⟩ : ∃ L, atV t (verF [] false es) = L := ⟨_, rfl⟩
  rw [hL] at hA1 hA2 hP2
  obtain ⟨VS, hVS⟩ : ∃ s, verF [] false es = s := ⟨_, rfl⟩
  rw [hVS] at hA2 htX htl hvl
  obtain ⟨ts, hts⟩ : ∃ s, timesF VS = s := ⟨_, rfl⟩
  rw [hts] at hA2 htX htl
  have h1 := at_any n es t ae ce _ hes3
  rw [hA1] at h1
  unfold AtPost at h1
  dsimp only at h1
  clear haX hP1 hVS hts hA1 hL hhis hok
  go_wp2_with fail
  refine (mod_any ta 50 _ (by omega) (by omega)).mono ?_
  rintro _ w4 ⟨rfl, rfl⟩
  rw [ht]
  clear ht
  go_wp2_with fail
  refine h1.mono ?_
  rintro _ w5 ⟨a1, c1, rfl, hr1, hb5⟩
  have bn := (Below.refl _ w5).alloc (Nat.le_refl _) (.cells #[.int .i64 n, .slice a1 L.length c1] 35)
  have b5n := hb5.trans (bn.mono hb5.size)
  have hS1 := heap_alloc_new w5 (.cells #[.int .i64 n, .slice a1 L.length c1] 35)
  have hr1' := hr1.below bn
  have hes5 := hes3.below b5n
  have hb05 := hb3.trans (b5n.mono hb3.size)
  have h2 := times_any n es ae ce _ hes5
  rw [htX] at h2
  unfold TimesPost at h2
  dsimp only at h2
  clear h1 hr1 hb5 bn b5n hes3 hb3 htX
  go_wp2_with fail
  obtain ⟨S1, hSS1⟩ : ∃ S, w5.heap.size = S := ⟨_, rfl⟩
  rw [hSS1] at hS1
  try rw [hSS1]
  clear hSS1
  refine h2.mono ?_
  rintro _ w6 ⟨at1, ct1, rfl, hts6, hb6⟩
  have hS1 := lk_next hb6 hS1
  have hr1' := hr1'.below hb6
  have hes6 := hes5.below hb6
  have hb06 := hb05.trans (hb6.mono hb05.size)
  clear h2 hes5 hb05 hb6
  go_wp2_with fail
  go_loopw [13, 49] (fun vl vi wr => ∃ i : Nat, i ≤ ts.length ∧ vi = .int .i64 i ∧ vl = .int .i64 (lastT t (-1) (ts.take i)) ∧ wr = w6) (fun _ vi _ => ts.length - (intOf vi).toNat)
  case atStart => exact ⟨0, Nat.zero_le _, rfl, rfl, rfl⟩
  case round =>
    obtain ⟨i, hi, rfl, rfl, rfl⟩ := hrel
    by_cases hlt : i < ts.length
    · have hlt3 : (i : Int) < ts.length := by omega
      obtain ⟨bb, off, x, rfl, hx, -, htk, c0⟩ := hts6.at i hlt
      have hsn := lastT_snoc t (-1) (ts.take i) x
      rw [← htk] at hsn
      have HSN := Lib.hid hsn
      clear htk hsn hx
      by_cases hxt : x ≤ t
      · go_wp2_with fail
        go_roundw
        case rel =>
          first
            | exact ⟨i + 1, by omega, by go_num, by rw [HSN.out, if_pos hxt], trivial⟩
            | exact ⟨i + 1, by omega, by go_num, by rw [HSN.out, if_pos hxt], rfl⟩
        case measure => simp [intOf]; omega
      · go_wp2_with fail
        go_roundw
        case rel =>
          first
            | exact ⟨i + 1, by omega, by go_num, by rw [HSN.out, if_neg hxt], trivial⟩
            | exact ⟨i + 1, by omega, by go_num, by rw [HSN.out, if_neg hxt], rfl⟩
        case measure => simp [intOf]; omega
    · obtain rfl : i = ts.length := by omega
      have hlt3 : ¬ (ts.length : Int) < ts.length := by omega
      have htk : ts.take ts.length = ts := List.take_of_length_le (Nat.le_refl _)
      rw [htk]
      obtain ⟨la, hla⟩ : ∃ l, lastT t (-1) ts = l := ⟨_, rfl⟩
      rw [hla] at hA2 ⊢
      have h3 := at_any n es la ae ce _ hes6
      rw [hA2] at h3
      unfold AtPost at h3
      dsimp only at h3
      clear hA2 hla htk hts6
      go_wp2_with fail
      refine h3.mono ?_
      rintro _ w7 ⟨a2, c2, rfl, hr2, hb7⟩
      have bn := (Below.refl _ w7).alloc (Nat.le_refl _) (.cells #[.int .i64 n, .slice a2 L.length c2] 35)
      have b7n := hb7.trans (bn.mono hb7.size)
      have hS2 := heap_alloc_new w7 (.cells #[.int .i64 n, .slice a2 L.length c2] 35)
      have hr2' := hr2.below bn
      have hS1 := lk_next b7n hS1
      have hr1' := hr1'.below b7n
      have hes7 := hes6.below b7n
      have hb07 := hb06.trans (b7n.mono hb06.size)
      clear h3 hr2 hb7 bn b7n hes6 hb06
      go_wp2_with fail
      obtain ⟨wS, hwS⟩ : ∃ W : World, W = w7.alloc (.cells #[.int .i64 n, .slice a2 L.length c2] 35) := ⟨_, rfl⟩
      obtain ⟨S2, hSS⟩ : ∃ S, w7.heap.size = S := ⟨_, rfl⟩
      rw [hSS] at hS2
      rw [← hwS] at hS2 hr2' hS1 hr1' hes7 hb07 ⊢
      try rw [hSS]
      clear hwS hSS
      go_loopw [18, 67] (fun vs vi wr => ∃ (i : Nat) (R : List Ev), i ≤ es.length ∧ vi = .int .i64 i ∧ Hid (R = (es.take i).filter fun e => decide (e.time ≤ t)) ∧ wr.ownsRow wS.heap.size 52 encEv.k vs R.length (flatR encEv R) ∧ Below wS.heap.size wS wr ∧ R.length ≤ i) (fun _ vi _ => es.length - (intOf vi).toNat)
      case atStart => exact ⟨0, [], Nat.zero_le _, rfl, rfl, World.ownsRow_nil _ _ _ _, Below.refl _ _, Nat.le_refl _⟩
      case round =>
        obtain ⟨i, R, hi, rfl, HR, hown, hbr, hRl⟩ := hrel
        have hesr := hes7.below hbr
        obtain ⟨a7, cap7, rfl⟩ := owns_shape hown
        by_cases hlt : i < es.length
        · have hlt3 : (i : Int) < es.length := by omega
          obtain ⟨b, off, x, rfl, hx, hcap, c0, c1, c2, c3, c4, c5, c6⟩ := ev_at hesr i hlt
          have hX := heap_alloc_new wr (.cells x.cells 52)
          have bX := (Below.refl _ wr).alloc (Nat.le_refl _) (.cells x.cells 52)
          have hownX := hown.alloc (.cells x.cells 52)
          have htk := take_at es i x hx
          have HN : Hid ((es.take (i + 1)).filter (fun e => decide (e.time ≤ t)) = if x.time ≤ t then R ++ [x] else R) := (show _ = _ by rw [htk, List.filter_append, ← HR.out]; by_cases h : x.time ≤ t <;> simp [h])
          have hlx := lit_ev' (wr.alloc (.cells x.cells 52)) x 52
          rw [World.size_alloc] at hlx
          have hownA := hownX.alloc (.cells x.cells 52)
          have hbX := hbr.trans (bX.mono hbr.size)
          have hbA := hbX.alloc (by have := hbX.size; simpa using this) (.cells x.cells 52)
          obtain ⟨xk, xt, xu, xv, xw, xl, xs⟩ := x
          unfold Ev.cells at hX hownX hlx hownA hbX hbA bX
          dsimp only at c0 c1 c2 c3 c4 c5 c6 HN hX hownX hlx hownA hbX hbA bX
          obtain ⟨e0, e1, e2, e3, e4, e5, e6⟩ := lk_cells7 hX
          clear htk hown hx HR hesr
          by_cases hxt : xt ≤ t
          · go_wp2_with (at_builtin; refine wpList_app_rows evRT rfl _ _ rfl wS.heap.size (.slice a7 R.length cap7) _ R [(⟨xk, xt, xu, xv, xw, xl, xs⟩ : Ev)] rfl (by exact hownA) rfl (by exact hlx) (by simp; omega) (by simp; omega) hbA.size ?_; intro v6 w6 hown6 hg6)
            have hb6 := hbA.grown hg6 hbA.size (fun g e => (hownA.lt g e).1)
            go_roundw
            case rel =>
              first
                | exact ⟨i + 1, R ++ [_], by omega, by go_num, (show _ = _ by rw [HN.out, if_pos hxt]), hown6, hb6, by simp; omega⟩
                | ((repeat apply Exists.intro); exact ⟨⟨i + 1, R ++ [_], by omega, by go_num, (show _ = _ by rw [HN.out, if_pos hxt]), hown6, hb6, by simp; omega⟩, rfl⟩)
            case measure => simp [intOf]; omega
          · go_wp2_with fail
            go_roundw
            case rel =>
              first
                | exact ⟨i + 1, R, by omega, by go_num, (show _ = _ by rw [HN.out, if_neg hxt]), hownX, hbX, by omega⟩
                | ((repeat apply Exists.intro); exact ⟨⟨i + 1, R, by omega, by go_num, (show _ = _ by rw [HN.out, if_neg hxt]), hownX, hbX, by omega⟩, rfl⟩)
            case measure => simp [intOf]; omega
        · obtain rfl : i = es.length := by omega
          have hlt3 : ¬ (es.length : Int) < es.length := by omega
          have hR := HR.out
          rw [List.take_of_length_le (Nat.le_refl _)] at hR
          rw [← hR] at hP2
          obtain ⟨_, _, hvv, hRr, -⟩ := RowAt.of_owns hown (by omega)
          obtain ⟨rfl, -, rfl⟩ := Value.slice.inj hvv
          have h4 := rall05_any n R [] none a7 0 cap7 wr (RowAt.nil _) hRr
          rw [hP2] at h4
          unfold RAllPost at h4
          dsimp only at h4
          have hS1 := lk_next hbr hS1
          have hS2 := lk_next hbr hS2
          have hr1' := hr1'.below hbr
          have hr2' := hr2'.below hbr
          have hb08 := hb07.trans (hbr.mono hb07.size)
          clear hR hP2 HR hvv hown hbr hRr hb07 hes7 hesr
          go_wp2_with fail
          refine h4.mono ?_
          rintro _ w8 ⟨a3, c3, rfl, hr3, hb8⟩
          have bn := (Below.refl _ w8).alloc (Nat.le_refl _) (.cells #[.int .i64 n, .slice a3 L.length c3] 35)
          have b8n := hb8.trans (bn.mono hb8.size)
          have hS3 := heap_alloc_new w8 (.cells #[.int .i64 n, .slice a3 L.length c3] 35)
          have hr3' := hr3.below bn
          have hS1 := lk_next b8n hS1
          have hS2 := lk_next b8n hS2
          have hr1' := hr1'.below b8n
          have hr2' := hr2'.below b8n
          have hb09 := hb08.trans (b8n.mono hb08.size)
          have s0 := cell_blk (j := 0) hS1
          have s1 := cell_blk (j := 1) hS1
          have s2 := cell_blk (j := 0) hS2
          have s3 := cell_blk (j := 1) hS2
          have h5 := rsame05_any n n a1 a2 c1 c2 L L _ hr1' hr2'
          rw [show decide (n = n ∧ L = L) = true by simp] at h5
          clear h4 hr3 hb8 bn b8n hb08
          go_wp2_with fail
          refine h5.mono ?_
          rintro _ w10 ⟨rfl, hb10⟩
          have hS1 := lk_next hb10 hS1
          have hS3 := lk_next hb10 hS3
          have hr1' := hr1'.below hb10
          have hr3' := hr3'.below hb10
          have hb010 := hb09.trans (hb10.mono hb09.size)
          clear s0 s1 s2 s3 h5 hb10 hb09
          have s0 := cell_blk (j := 0) hS1
          have s1 := cell_blk (j := 1) hS1
          have s2 := cell_blk (j := 0) hS3
          have s3 := cell_blk (j := 1) hS3
          have h5 := rsame05_any n n a1 a3 c1 c3 L L _ hr1' hr3'
          rw [show decide (n = n ∧ L = L) = true by simp] at h5
          go_wp2_with fail
          refine h5.mono ?_
          rintro _ w11 ⟨rfl, hb11⟩
          have hb011 := hb010.trans (hb11.mono hb010.size)
          clear s0 s1 s2 s3 h5
          go_wp2_with fail
          refine (hawake_any _).mono ?_
          rintro _ w12 ⟨rfl, hb12⟩
          go_wp2_with fail
          go_ret
          exact ⟨rfl, hb011.trans (hb12.mono hb011.size)⟩
end Go.Proofs.Ytpblaoeaeljmhaa
