/- The walk of the law HistoryLives. -/
import Derived.Test.YtpblaoeaeljmhaaHisLivesP
import Derived.Test.YtpblaoeaeljmhaaHisAwake
import Derived.Test.YtpblaoeaeljmhaaLkRef
namespace Go.Proofs.Ytpblaoeaeljmhaa
open Go.RowKit Go.BigFrame

theorem rem_in8 {n u y : Int} (hn : 2 ≤ n) (hu0 : 0 ≤ u) (hu1 : u < n) (hy0 : 0 ≤ y) (hy1 : y < n - 1) : 0 ≤ (u + 1 + y).tmod n ∧ (u + 1 + y).tmod n < n ∧ u ≠ (u + 1 + y).tmod n := by
  rw [Int.tmod_eq_emod_of_nonneg (by omega)]
  refine ⟨Int.emod_nonneg _ (by omega), Int.emod_lt_of_pos _ (by omega), ?_⟩
  by_cases h : u + 1 + y < n
  · rw [Int.emod_eq_of_lt (by omega) h]; omega
  · have e : u + 1 + y = (u + 1 + y - n) + n * 1 := by omega
    rw [e, Int.add_mul_emod_self_left, Int.emod_eq_of_lt (by omega) (by omega)]; omega
theorem inB_take {t : Int} {os : List (Int × Int)} {i : Nat} {x : Int × Int} (h : os[i]? = some x) : inB t (os.take (i + 1)) = (inB t (os.take i) || decide (x.1 ≤ t ∧ (x.2 < 0 ∨ t < x.2))) := by
  rw [take_at os i x h, inB_append]
  unfold inB
  simp
set_option maxRecDepth 100000 in
set_option maxHeartbeats 6400000 in
theorem lives_law (a : Option Addr) (len cap : Nat) (ta : Int) (w : World) (hl : ListAt w a len) :
    Calls Try.prog 3 #[.slice a len cap, .int .i64 ta] w fun e w' => e = .returned (.bool true) ∧ Below w.heap.size w w' := by
  have hdk := deck_new (cap := cap) hl
  have hb1 : Below w.heap.size w (w.alloc (.cells #[.slice a len cap, .int .i64 0] 65)) := (Below.refl _ _).alloc (Nat.le_refl _) _
  go_enter Try.func3, Try.ntmps3
  go_wp2_with (go_at_call 7; refine (new_any _ _ _ _).mono ?_; rintro e w' ⟨rfl, rfl⟩)
  refine (next_any w.heap.size 4 _ hdk (by omega) (by omega)).mono ?_
  rintro _ w2 ⟨y, hy0, hy1, rfl, hd2, hg2⟩
  have hb2 := hb1.grown hg2 hb1.size (fun g e => by cases e; exact Nat.le_refl _)
  have v1 : IntKind.i64.wrap (2 + y) = 2 + y := IntWalk.i64_in _ (by omega)
  clear hdk hb1 hg2
  go_wp2_with fail
  obtain ⟨n, hn⟩ : ∃ n, 2 + y = n := ⟨_, rfl⟩
  have hn2 : 2 ≤ n := by omega
  have hn5 : n ≤ 5 := by omega
  rw [hn]
  clear hn v1 hy0 hy1
  refine (events_any w.heap.size n 14 _ hd2 hn2 (by omega) (by omega) (by omega)).mono ?_
  rintro _ w3 ⟨ae, ce, es, rfl, hes3, hok, hlen, hd3, hg3, hpe⟩
  have hb3 := hb2.grown hg3 hb2.size (fun g e => by cases e; exact Nat.le_refl _)
  have hdl := hd2.lt
  have hoff : ∀ g : Nat, some w.heap.size = some g → Off g (.slice ae es.length ce) := fun g e n' c' p hp => by cases e; have := hpe p (Value.slice.inj hp).1; omega
  clear hd2 hg3 hb2
  go_wp2_with fail
  refine (next_any w.heap.size n _ hd3 (by omega) (by omega)).mono ?_
  rintro _ w4 ⟨u, hu0, hu1, rfl, hd4, hg4⟩
  have hb4 := hb3.grown hg4 hb3.size (fun g e => by cases e; exact Nat.le_refl _)
  have hes4 := hes3.grown hg4 hoff
  have v1 : IntKind.i64.wrap (u + 1) = u + 1 := IntWalk.i64_in _ (by omega)
  have v2 : IntKind.i64.wrap (n - 1) = n - 1 := IntWalk.i64_in _ (by omega)
  clear hd3 hg4 hb3 hes3
  go_wp2_with fail
  refine (next_any w.heap.size (n - 1) _ hd4 (by omega) (by omega)).mono ?_
  rintro _ w5 ⟨y, hy0, hy1, rfl, hd5, hg5⟩
  have hb5 := hb4.grown hg5 hb4.size (fun g e => by cases e; exact Nat.le_refl _)
  have hes5 := hes4.grown hg5 hoff
  have v3 : IntKind.i64.wrap (u + 1 + y) = u + 1 + y := IntWalk.i64_in _ (by omega)
  have hnz : ¬ n = 0 := by omega
  have hnz2 : (n == 0) = false := by simpa using hnz
  have hvb := rem_in8 hn2 hu0 hu1 hy0 hy1
  clear hd4 hg5 hb4 hes4 hoff hpe hdl hd5
  -- what is reckoned
  obtain ⟨v, hv⟩ : ∃ v, (u + 1 + y).tmod n = v := ⟨_, rfl⟩
  have hv64 : IntKind.i64.wrap v = v := IntWalk.i64_in _ (by rw [hv] at hvb; omega)
  go_wp2_with fail
  try rw [hv]
  rw [hv] at hvb
  obtain ⟨hv0, hv1, huv⟩ := hvb
  have hhis : hisS n es = 0 := hok.his hn2 (by omega) (by omega)
  have hends : endsB n u v = true := by unfold endsB; exact decide_eq_true ⟨huv, hu0, hv0, hu1, hv1⟩
  have hedge : edgeS n es u v = 0 := by unfold edgeS; rw [if_neg (by simp [hhis]), if_pos hends]
  obtain ⟨hsp, hin⟩ := lives_plain (u := u) (v := v) hok
  have hlX : lifeX n es u v = ((lifeF n u v (verF [] false es)).1, 0) := by unfold lifeX; rw [if_neg (by simp [hedge])]
  obtain ⟨t, ht⟩ : ∃ t, modS ta 50 = t := ⟨_, rfl⟩
  have haX : atX n es t = ((n, atV t (verF [] false es)), 0) := by unfold atX; rw [if_neg (by simp [hhis])]
  have hfX : firstX n es u v = if (lifeF n u v (verF [] false es)).1 = [] then (0, false, 0) else (((lifeF n u v (verF [] false es)).1.getD 0 (0, 0)).1, true, 0) := by
    unfold firstX
    rw [hlX]
    simp
  have hil := (lifeF_inv n u v (verF [] false es)).1
  have hvl := verF_len es [] false
  have hin := hin t
  obtain ⟨VS, hVS⟩ : ∃ s, verF [] false es = s := ⟨_, rfl⟩
  rw [hVS] at hsp hin hlX haX hfX hil hvl
  obtain ⟨os, hos⟩ : ∃ s, (lifeF n u v VS).1 = s := ⟨_, rfl⟩
  rw [hos] at hsp hin hlX hfX hil
  obtain ⟨L, hL⟩ : ∃ L, atV t VS = L := ⟨_, rfl⟩
  rw [hL] at hin haX
  have h1 := life_any n es u v ae ce _ hes5
  rw [hlX] at h1
  unfold LifePost at h1
  dsimp only at h1
  clear hVS hos hL hlX hhis hends hedge v1 v2 v3 hnz hnz2 hv hv64
  refine h1.mono ?_
  rintro _ w6 ⟨ao, co, rfl, hos6, hb6⟩
  have hes6 := hes5.below hb6
  have hb06 := hb5.trans (hb6.mono hb5.size)
  clear h1 hes5 hb5 hb6
  go_wp2_with fail
  refine (mod_any ta 50 _ (by omega) (by omega)).mono ?_
  rintro _ w7 ⟨rfl, rfl⟩
  rw [ht]
  clear ht
  have h2 := at_any n es t ae ce _ hes6
  rw [haX] at h2
  unfold AtPost at h2
  dsimp only at h2
  clear haX
  go_wp2_with fail
  refine h2.mono ?_
  rintro _ w8 ⟨aL, cL, rfl, hL8, hb8⟩
  have bn := (Below.refl _ w8).alloc (Nat.le_refl _) (.cells #[.int .i64 n, .slice aL L.length cL] 35)
  have b8n := hb8.trans (bn.mono hb8.size)
  have hS9 := heap_alloc_new w8 (.cells #[.int .i64 n, .slice aL L.length cL] 35)
  have hL9 := hL8.below bn
  have hos9 := hos6.below b8n
  have hes9 := hes6.below b8n
  have hb09 := hb06.trans (b8n.mono hb06.size)
  clear h2 hos6 hes6 hb06 hL8 hb8 bn b8n
  go_wp2_with fail
  obtain ⟨wS, hwS⟩ : ∃ W : World, W = w8.alloc (.cells #[.int .i64 n, .slice aL L.length cL] 35) := ⟨_, rfl⟩
  obtain ⟨S, hSS⟩ : ∃ S, w8.heap.size = S := ⟨_, rfl⟩
  rw [hSS] at hS9
  rw [← hwS] at hS9 hL9 hos9 hes9 hb09 ⊢
  try rw [hSS]
  clear hwS hSS
  go_loopw [15, 60] (fun vin vi wr => ∃ i : Nat, i ≤ os.length ∧ vi = .int .i64 i ∧ vin = .bool (inB t (os.take i)) ∧ Below wS.heap.size wS wr) (fun _ vi _ => os.length - (intOf vi).toNat)
  case atStart => exact ⟨0, Nat.zero_le _, rfl, rfl, Below.refl _ _⟩
  case round =>
    obtain ⟨i, hi, rfl, rfl, hbr⟩ := hrel
    have hosr := hos9.below hbr
    by_cases hlt : i < os.length
    · have hlt3 : (i : Int) < os.length := by omega
      obtain ⟨bb, off, x, rfl, hx, hc, hat⟩ := hosr.elem i hlt
      obtain ⟨x0, x1⟩ := x
      have c0 : wr.cell? ⟨bb, off + i * 2, none⟩ = some (.int .i64 x0) := hat 0 _ rfl
      have c1 : wr.cell? ⟨bb, off + i * 2 + 1, none⟩ = some (.int .i64 x1) := hat 1 _ rfl
      have hcl := hsp.cl i _ hx
      have hop := hsp.op i _ hx
      have hnx := inB_take (t := t) hx
      have hpv : ∀ k, i = k + 1 → ∃ y0 y1 : Int, wr.cell? ⟨bb, off + k * 2 + 1, none⟩ = some (.int .i64 y1) ∧ y1 < x0 := fun k hk => by
        obtain ⟨bb', off', y, ha, hy, -, hat'⟩ := hosr.elem k (by omega)
        have hbb := Option.some.inj ha
        simp only [Addr.mk.injEq, and_true] at hbb
        obtain ⟨rfl, rfl⟩ := hbb
        refine ⟨y.1, y.2, hat' 1 _ rfl, ?_⟩
        rw [hk] at hx
        exact hsp.up k _ y hx hy
      dsimp only at hcl hop hnx
      obtain ⟨B0, hB0⟩ : ∃ B, inB t (os.take i) = B := ⟨_, rfl⟩
      obtain ⟨B1, hB1⟩ : ∃ B, (B0 || decide (x0 ≤ t ∧ (x1 < 0 ∨ t < x1))) = B := ⟨_, rfl⟩
      rw [hB0, hB1] at hnx
      rw [hB0]
      have HNX := Lib.hid hnx
      have HB1 := Lib.hid hB1
      have HCL := Lib.hid hcl
      have HOP := Lib.hid hop
      have hX := heap_alloc_new wr (.cells #[.int .i64 x0, .int .i64 x1] 38)
      have bX := (Below.refl _ wr).alloc (Nat.le_refl _) (.cells #[.int .i64 x0, .int .i64 x1] 38)
      clear hat hx hB0 hB1 hnx hcl hop hosr
      go_upto_region 13 with fail
      obtain ⟨wA, hwA⟩ : ∃ W : World, W = wr.alloc (.cells #[.int .i64 x0, .int .i64 x1] 38) := ⟨_, rfl⟩
      obtain ⟨Q, hQ⟩ : ∃ Q, wr.heap.size = Q := ⟨_, rfl⟩
      have hbA := hbr.trans (bX.mono hbr.size)
      have cA1 := fun k y1 (h : wr.cell? ⟨bb, off + k * 2 + 1, none⟩ = some (.int .i64 y1)) => (bX.cell (p := ⟨bb, off + k * 2 + 1, none⟩) (cell_lt h)).trans h
      rw [hQ] at hX
      rw [← hwA] at hX hbA cA1 ⊢
      try rw [hQ]
      have q0 := cell_blk (j := 0) hX
      have q1 := cell_blk (j := 1) hX
      have HPV : Hid (∀ k, i = k + 1 → ∃ y1 : Int, wA.cell? ⟨bb, off + k * 2 + 1, none⟩ = some (.int .i64 y1) ∧ y1 < x0) := (show ∀ k, _ from fun k hk => by
        obtain ⟨y0, y1, h1, h2⟩ := hpv k hk
        exact ⟨y1, cA1 k y1 h1, h2⟩)
      clear hwA hQ bX cA1 hpv c0 c1 hX hbr
      go_cut [15] from 65 to 82 (fun bv wx => bv = .bool B1 ∧ wx = wA)
      case first =>
        cases B0 with
        | true =>
          go_wp2_with fail
          go_meet
          exact ⟨by rw [← HB1.out]; rfl, rfl⟩
        | false =>
          by_cases h1 : x0 ≤ t
          · by_cases h2 : x1 < 0
            · have hb : B1 = true := by rw [← HB1.out]; simp [h1, h2]
              have HB := Lib.hid hb
              clear hb
              go_wp2_with fail
              go_meet
              exact ⟨by rw [HB.out], rfl⟩
            · by_cases h3 : t < x1
              · have hb : B1 = true := by rw [← HB1.out]; simp [h1, h3]
                have HB := Lib.hid hb
                clear hb
                go_wp2_with fail
                go_meet
                exact ⟨by rw [HB.out], rfl⟩
              · have hb : B1 = false := by rw [← HB1.out]; simp; omega
                have HB := Lib.hid hb
                clear hb
                go_wp2_with fail
                go_meet
                exact ⟨by rw [HB.out], rfl⟩
          · have hb : B1 = false := by rw [← HB1.out]; simp [h1]
            have HB := Lib.hid hb
            clear hb
            go_wp2_with fail
            go_meet
            exact ⟨by rw [HB.out], rfl⟩
      case rest =>
      obtain ⟨rfl, rfl⟩ := hcut
      clear HB1
      go_upto_if 119 with fail
      go_cut [119] from 83 to 119 (fun bv wx => bv = .bool false ∧ Below wS.heap.size wS wx)
      case first =>
        have HBA := Lib.hid (fun m => (hbA.trans (((Below.refl _ wc).drewN m).mono hbA.size)))
        have v1 : IntKind.i64.wrap ((os.length : Int) - 1) = (os.length : Int) - 1 := IntWalk.i64_in _ (by omega)
        have hz : i = 0 ∨ ∃ k, i = k + 1 := by
          cases i with
          | zero => exact .inl rfl
          | succ k => exact .inr ⟨k, rfl⟩
        have HZ := Lib.hid hz
        clear hz
        by_cases h1 : x1 < 0
        · have h2 := HOP.out h1
          have h3 : ¬ (i : Int) < (os.length : Int) - 1 := by omega
          have h4 : ¬ x1 ≥ 0 := by omega
          clear h2
          rcases HZ.out with h0 | ⟨k, hk⟩
          · have h5 : ¬ (0 : Int) < (i : Int) := by omega
            have hp2 : decide (0 < i) = false := decide_eq_false (by omega)
            have hp3 : decide ((0 : Int) < (i : Int)) = false := decide_eq_false h5
            clear h0
            go_quiet (fail)
            go_wp2_with fail
            go_meet
            exact ⟨rfl, HBA.out _⟩
          · have h5 : (0 : Int) < (i : Int) := by omega
            have hp2 : decide (0 < i) = true := decide_eq_true (by omega)
            have hp3 : decide ((0 : Int) < (i : Int)) = true := decide_eq_true h5
            have v2 : IntKind.i64.wrap ((i : Int) - 1) = (k : Int) := by rw [IntWalk.i64_in _ (by omega)]; omega
            obtain ⟨y1, hy, hyl⟩ := HPV.out k hk
            have h6 : ¬ y1 ≥ x0 := by omega
            have h8 : (k : Int) < os.length := by omega
            have h9 : k < os.length := by omega
            clear hk hyl
            go_quiet (fail)
            go_wp2_with fail
            go_meet
            exact ⟨rfl, HBA.out _⟩
        · have h2 := HCL.out (by omega)
          have h4 : x1 ≥ 0 := by omega
          have h7 : ¬ x1 ≤ x0 := by omega
          clear h2
          rcases HZ.out with h0 | ⟨k, hk⟩
          · have h5 : ¬ (0 : Int) < (i : Int) := by omega
            have hp2 : decide (0 < i) = false := decide_eq_false (by omega)
            have hp3 : decide ((0 : Int) < (i : Int)) = false := decide_eq_false h5
            clear h0
            go_quiet (fail)
            go_wp2_with fail
            go_meet
            exact ⟨rfl, HBA.out _⟩
          · have h5 : (0 : Int) < (i : Int) := by omega
            have hp2 : decide (0 < i) = true := decide_eq_true (by omega)
            have hp3 : decide ((0 : Int) < (i : Int)) = true := decide_eq_true h5
            have v2 : IntKind.i64.wrap ((i : Int) - 1) = (k : Int) := by rw [IntWalk.i64_in _ (by omega)]; omega
            obtain ⟨y1, hy, hyl⟩ := HPV.out k hk
            have h6 : ¬ y1 ≥ x0 := by omega
            have h8 : (k : Int) < os.length := by omega
            have h9 : k < os.length := by omega
            clear hk hyl
            go_quiet (fail)
            go_wp2_with fail
            go_meet
            exact ⟨rfl, HBA.out _⟩
      case rest =>
      obtain ⟨rfl, hbB⟩ := hcut
      clear HPV q0 q1 hbA
      go_wp2_with fail
      go_roundw
      case rel =>
        first
          | exact ⟨i + 1, by omega, by go_num, by rw [HNX.out], hbB⟩
          | ((repeat apply Exists.intro); exact ⟨⟨i + 1, by omega, by go_num, by rw [HNX.out], hbB⟩, rfl⟩)
      case measure => simp [intOf]; omega
    · obtain rfl : i = os.length := by omega
      have hlt3 : ¬ (os.length : Int) < os.length := by omega
      have htk : inB t (os.take os.length) = decide (0 ≤ lfS n L u v) := by rw [List.take_of_length_le (Nat.le_refl _)]; exact hin
      rw [htk]
      have hesr := hes9.below hbr
      have hLr := hL9.below hbr
      have hSr := lk_next hbr hS9
      have hbr0 := hb09.trans (hbr.mono hb09.size)
      have h1 := first_any n es u v ae ce _ hesr
      rw [hfX] at h1
      have hrf := fun W h => rfind05_any n u v L aL cL W h
      obtain ⟨F, hF⟩ : ∃ F, lfS n L u v = F := ⟨_, rfl⟩
      rw [hF] at hrf ⊢
      have hbF : ∃ B, decide (0 ≤ F) = B := ⟨_, rfl⟩
      obtain ⟨B, hB⟩ := hbF
      have hB2 : decide (F ≥ 0) = B := hB
      rw [hB]
      clear htk hin hF hsp hok hfX hL9 hS9 hes9 hb09 hbr hos9 hil hvl hB
      cases os with
      | nil =>
        rw [if_pos rfl] at h1
        dsimp only at h1
        go_wp2_with fail
        refine h1.mono ?_
        rintro _ w9 ⟨rfl, hb9⟩
        have hL10 := hLr.below hb9
        have hS10 := lk_next hb9 hSr
        have hb10 := hbr0.trans (hb9.mono hbr0.size)
        have s0 := cell_blk (j := 0) hS10
        have s1 := cell_blk (j := 1) hS10
        clear h1 hesr hLr hSr hbr0 hb9 hosr
        go_wp2_with fail
        refine (hrf _ hL10).mono ?_
        rintro _ w10 ⟨rfl, hb10'⟩
        have hb11 := hb10.trans (hb10'.mono hb10.size)
        clear hrf hL10 s0 s1 hS10 hb10'
        cases B
        all_goals
          go_wp2_with fail
          refine (hawake_any _).mono ?_
          rintro _ w11 ⟨rfl, hb12⟩
          go_wp2_with fail
          go_ret
          exact ⟨rfl, hb11.trans (hb12.mono hb11.size)⟩
      | cons o1 os2 =>
        rw [if_neg (by simp)] at h1
        dsimp only at h1
        have hpos : 0 < (o1 :: os2).length := by simp
        have hel : ∀ W', Below wr.heap.size wr W' → ∃ bb off, ao = some ⟨bb, off, none⟩ ∧ W'.cell? ⟨bb, off, none⟩ = some (.int .i64 o1.1) ∧ W'.cell? ⟨bb, off + 1, none⟩ = some (.int .i64 o1.2) := fun W' hb => by
          obtain ⟨bb, off, y, ha, hy, -, hat⟩ := (hosr.below hb).elem 0 hpos
          simp only [List.getElem?_cons_zero, Option.some.injEq] at hy
          subst hy
          have q0 := hat 0 _ rfl
          have q1 := hat 1 _ rfl
          simp only [Nat.zero_mul, Nat.add_zero] at q0 q1
          exact ⟨bb, off, ha, q0, q1⟩
        have hgd : ((o1 :: os2).getD 0 (0, 0)).1 = o1.1 := rfl
        rw [hgd] at h1
        obtain ⟨m, hm⟩ : ∃ m, (o1 :: os2).length = m := ⟨_, rfl⟩
        rw [hm] at hpos ⊢
        obtain ⟨bb, off, rfl, -, -⟩ := hel wr (Below.refl _ _)
        have hm2 : (0 : Int) < (m : Int) := by omega
        clear hosr hgd hm
        go_wp2_with fail
        refine h1.mono ?_
        rintro _ w9 ⟨rfl, hb9⟩
        have hL10 := hLr.below hb9
        have hS10 := lk_next hb9 hSr
        have hb10 := hbr0.trans (hb9.mono hbr0.size)
        have s0 := cell_blk (j := 0) hS10
        have s1 := cell_blk (j := 1) hS10
        clear h1 hesr hLr hSr hbr0
        go_wp2_with fail
        refine (hrf _ hL10).mono ?_
        rintro _ w10 ⟨rfl, hb10'⟩
        have hb11 := hb10.trans (hb10'.mono hb10.size)
        obtain ⟨bb', off', ha, q0, q1⟩ := hel w10 (hb9.trans (hb10'.mono hb9.size))
        have hbb := Option.some.inj ha
        simp only [Addr.mk.injEq, and_true] at hbb
        obtain ⟨rfl, rfl⟩ := hbb
        have HEL := Lib.hid hel
        clear hrf hL10 s0 s1 hS10 hb10' hel ha hb9 hb10
        cases B
        all_goals
          go_wp2_with fail
          refine (hawake_any _).mono ?_
          rintro _ w11 ⟨rfl, hb12⟩
          go_wp2_with fail
          go_ret
          exact ⟨rfl, hb11.trans (hb12.mono hb11.size)⟩
end Go.Proofs.Ytpblaoeaeljmhaa
