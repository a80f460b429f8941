/- The walk of the law on external.Triangles and external.Supports. -/
import Derived.Test.YtdkmdcdoiaelfaaExTriQ
import Derived.Test.YtdkmdcdoiaelfaaExSup
import Derived.Test.YtdkmdcdoiaelfaaExS12
import Derived.Test.YtdkmdcdoiaelfaaMkGraph
namespace Go.Proofs.Ytdkmdcdoiaelfaa
open Go.RowKit Go.BigFrame

/-- what Supports answers is the edges, each with the number of the common neighbours of its ends -/
theorem supL_cm {n : Nat} {es : List E2} (hv : Valid n es) : supL (recN es n) (recN es n) = es.map fun e => (e, (cmL es n e.1.toNat e.2.toNat).length) := by
  unfold supL
  have h0 : (recN es n).filter (fun e => !decide (e.2 < e.1)) = es := by
    refine Eq.trans (List.filter_congr fun e he => ?_) (recN_up hv)
    have h2 := (recOk_iff e).1 (recN_ok hv e he).1
    by_cases h3 : e.1 < e.2
    · simp [h3]; omega
    · simp [h3]; omega
  rw [h0]
  refine List.map_congr_left fun e he => ?_
  have hin := hv.2.2.1 e he
  unfold Ins at hin
  obtain ⟨x, y⟩ := e
  dsimp only at hin
  obtain ⟨u, rfl⟩ := Int.eq_ofNat_of_zero_le hin.1
  obtain ⟨v, rfl⟩ := Int.eq_ofNat_of_zero_le (show 0 ≤ y by omega)
  unfold supE cntB
  dsimp only
  rw [Int.toNat_natCast, Int.toNat_natCast, List.take_length, sup_cm es n u v (by omega) (by omega)]
theorem rowR_asc {n : Nat} {es : List E2} (hv : Valid n es) (v : Nat) : (rowR (recN es n) v).Pairwise (· ≤ ·) := by
  by_cases h : v < n
  · rw [row_nb es n v h]
    exact (asc_range _ n).imp (fun h => by omega)
  · have h0 : rowR (recN es n) v = [] := by
      rw [List.eq_nil_iff_forall_not_mem]
      intro w hw
      have h1 := recN_lt hv _ ((rowR_in _ _ _).1 hw)
      dsimp only at h1
      omega
    rw [h0]; exact List.Pairwise.nil
/-- the sum of the first so many -/
def sumS (l : List (E2 × Nat)) (k : Nat) : Nat := ((l.take k).map Prod.snd).sum
theorem sumS_step (l : List (E2 × Nat)) (k : Nat) (p : E2 × Nat) (h : l[k]? = some p) : sumS l (k + 1) = sumS l k + p.2 := by
  unfold sumS
  rw [take_at _ _ _ h, List.map_append, List.sum_append]; simp
theorem sumS_le (l : List (E2 × Nat)) (b : Nat) (h : ∀ p ∈ l, p.2 ≤ b) (k : Nat) : sumS l k ≤ k * b := by
  unfold sumS
  have key : ∀ m : List (E2 × Nat), (∀ p ∈ m, p.2 ≤ b) → (m.map Prod.snd).sum ≤ m.length * b := by
    intro m
    induction m with
    | nil => intro _; simp
    | cons p m ih =>
      intro h
      rw [List.map_cons, List.sum_cons, List.length_cons, Nat.succ_mul]
      have := ih (fun q hq => h q (List.mem_cons_of_mem _ hq))
      have := h p List.mem_cons_self
      omega
  refine Nat.le_trans (key _ (fun p hp => h p (List.mem_of_mem_take hp))) (Nat.mul_le_mul_right _ ?_)
  rw [List.length_take]; omega
theorem cmL_le (es : List E2) (n u v : Nat) : (cmL es n u v).length ≤ n := by
  unfold cmL
  exact Nat.le_trans (List.length_filter_le _ _) (by rw [List.length_range]; exact Nat.le_refl _)
theorem tri29_t {n : Nat} {es : List E2} (hv : Valid n es) : wrap64 ((sumW (tri29 es n es.length) n).tdiv 3) = (ttAll es n : Int) := by
  have h0 : tri29 es n es.length = es.flatMap fun e => cmL es n e.1.toNat e.2.toNat := by unfold tri29; rw [List.take_length]
  have h1 := tri_len hv
  have hb : (es.flatMap fun e => cmL es n e.1.toNat e.2.toNat).length ≤ es.length * 64 := by
    rw [List.length_flatMap]
    have := sumS_le (es.map fun e => (e, (cmL es n e.1.toNat e.2.toNat).length)) 64 (fun p hp => by
      obtain ⟨e, _, rfl⟩ := List.mem_map.1 hp
      have := cmL_le es n e.1.toNat e.2.toNat
      have := hv.2.1
      dsimp only; omega) es.length
    unfold sumS at this
    rw [List.take_of_length_le (by simp), List.map_map] at this
    exact this
  have hel := hv.length_le
  have h2 : sumW (tri29 es n es.length) n = ((3 * ttAll es n : Nat) : Int) := by
    unfold sumW
    rw [occ_sum n _ (tri29_lt es n es.length), h0, h1]
    rw [h1] at hb
    unfold wrap64; omega
  rw [h1] at hb
  rw [h2]
  have h3 : ((3 * ttAll es n : Nat) : Int).tdiv 3 = (ttAll es n : Int) := by
    rw [Int.tdiv_eq_ediv_of_nonneg (by omega)]; omega
  rw [h3]
  unfold wrap64; omega
theorem supV_at {n : Nat} {es : List E2} (i : Nat) (u v : Nat) (h : es[i]? = some ((u : Int), (v : Int))) : (supV es n es.length)[i]? = some ((cmL es n u v).length : Int) := by
  have hi := (List.getElem?_eq_some_iff.1 h).1
  unfold supV
  rw [List.getElem?_map, List.getElem?_range hi]
  simp only [Option.map_some]
  rw [triN_len i u v h]
set_option maxRecDepth 100000 in
set_option maxHeartbeats 6400000 in
theorem tri_law (a : Option Addr) (len cap : Nat) (x y : Nat) (w : World) (hl : ListAt w a len) (hx : x < 256) (hy : y < 256) :
    Calls Try.prog 8 #[.slice a len cap, .int .u8 x, .int .u8 y] w fun e w' => e = .returned (.bool true) ∧ Below w.heap.size w w' := by
  by_cases hfew : len ≤ 500
  case neg =>
    have hd : decide (len ≤ 500) = false := by simpa using hfew
    go_enter Try.func8, Try.ntmps8
    go_wp2_with (first
      | (go_at_call 14; refine (few_any _ _ _ _).mono ?_; rintro e w' ⟨rfl, rfl⟩)
      | (go_at_call 15; refine (awake36_any _).mono ?_; rintro e w' ⟨rfl, hb⟩))
    go_ret
    exact ⟨rfl, hb⟩
  case pos =>
  have hd : decide (len ≤ 500) = true := by simpa using hfew
  have hdk := deck_new (cap := cap) hl
  have hb1 : Below w.heap.size w (w.alloc (.cells #[.slice a len cap, .int .i64 0] 92)) := (Below.refl _ _).alloc (Nat.le_refl _) _
  obtain ⟨b, hb⟩ : ∃ b, x % 16 = b := ⟨_, rfl⟩
  have hb16 : b < 16 := by omega
  have e1 : ((x : Int)) % 16 = (b : Int) := by omega
  obtain ⟨G, hG⟩ : ∃ G, 1 + b = G := ⟨_, rfl⟩
  have e3 : (1 : Int) + (b : Int) = (G : Int) := by omega
  have hG1 : 1 ≤ G := by omega
  have hG2 : G ≤ 16 := by omega
  obtain ⟨c, hc⟩ : ∃ c, y % 7 = c := ⟨_, rfl⟩
  have hc7 : c < 7 := by omega
  have e2 : ((y : Int)) % 7 = (c : Int) := by omega
  obtain ⟨Z, hZ⟩ : ∃ Z, 1 + c = Z := ⟨_, rfl⟩
  have e4 : (1 : Int) + (c : Int) = (Z : Int) := by omega
  have hZ1 : 1 ≤ Z := by omega
  have hZ2 : Z ≤ 7 := by omega
  clear hb hG hc hZ
  go_enter Try.func8, Try.ntmps8
  go_wp2_with (first
    | (go_at_call 14; refine (few_any _ _ _ _).mono ?_; rintro e w' ⟨rfl, rfl⟩)
    | (go_at_call 17; refine (new_any _ _ _ _).mono ?_; rintro e w' ⟨rfl, rfl⟩)
    | (go_at_call 16; refine (mkgraph_any w.heap.size 9 _ hdk (by omega) (by omega)).mono ?_; rintro e w2 ⟨n0, es, a2, cap2, rfl, he2, hv, hn9, hd2, hg2, ho2⟩))
  have hb2 : Below w.heap.size w w2 := below_deck hb1 hg2 (Nat.le_refl _) hb1.size
  have hck := (valid_iff n0 es).2 hv
  obtain ⟨n, rfl⟩ := Int.eq_ofNat_of_zero_le hv.1
  have hn9 : n ≤ 9 := by omega
  obtain ⟨hxG, hbx3⟩ := boxG_new w2 #[.int .i64 n, .slice a2 es.length cap2] 27
  have hb3 := hb2.trans (hbx3.mono hb2.size)
  have hbu := build34_any n a2 cap2 es Z _ (he2.below hbx3)
  have hgr := graphR_rec hv (size := Z) (m := 64) (by omega) (by omega) (by omega) (by omega)
  have hlen := recN_len es n
  have hnn : n * n ≤ 9 * 9 := Nat.mul_le_mul hn9 hn9
  have hrok := fun e he => (recOk_iff e).1 (recN_ok hv e he).1
  have hbld : bldX n es Z = ((Z : Int), recN es n, 0) := by unfold bldX; rw [if_neg (by rw [hck]; simp), if_neg (by omega), Int.toNat_natCast]
  rw [hbld] at hbu
  unfold RGPost at hbu
  dsimp only at hbu
  have hchk : chkR Z (recN es n) = 0 := by unfold chkR; rw [if_neg (by omega), recN_chk hv]
  obtain ⟨T, hT⟩ : ∃ T, ttAll es n = T := ⟨_, rfl⟩
  have hcu := tri_cube hv
  have ht29 := tri29_t hv
  have hsl := supL_cm hv
  have hslen : (supL (recN es n) (recN es n)).length = es.length := by rw [hsl, List.length_map]
  have hsum : sumS (supL (recN es n) (recN es n)) es.length = 3 * T := by
    have h1 := tri_cm hv
    rw [hT] at h1
    unfold sumS
    rw [hsl, List.take_of_length_le (by simp), List.map_map]
    exact h1
  have hsb : ∀ k, sumS (supL (recN es n) (recN es n)) k ≤ k * 64 := sumS_le _ 64 (fun p hp => by
    rw [hsl] at hp
    obtain ⟨e, _, rfl⟩ := List.mem_map.1 hp
    have := cmL_le es n e.1.toNat e.2.toNat
    dsimp only; omega)
  have hat : ∀ i u v : Nat, es[i]? = some ((u : Int), (v : Int)) → (supL (recN es n) (recN es n))[i]? = some (((u : Int), (v : Int)), (cmL es n u v).length) := fun i u v h => by
    rw [hsl, List.getElem?_map, h]; rfl
  have hasc := rowR_asc hv
  obtain ⟨RS, hRS⟩ : ∃ R, recN es n = R := ⟨_, rfl⟩
  rw [hRS] at hbu hgr hlen hrok hchk hcu hslen hsum hsb hat hasc
  rw [hT] at hcu ht29
  have hl81 : RS.length ≤ 81 := by omega
  obtain ⟨CR, hCR⟩ : ∃ C, cubeR (redF RS G) G = C := ⟨_, rfl⟩
  have htx : triXR Z G RS = (T, CR, 0) := by
    unfold triXR
    rw [hgr, if_neg (by simp), if_neg (by omega), Int.toNat_natCast, hCR, hcu G hG1]
  have htx1 : triXR Z 1 RS = (T, RS.length, 0) := by
    unfold triXR
    rw [hgr, if_neg (by simp), if_neg (by omega), show (1 : Int).toNat = 1 from rfl, hcu 1 (Nat.le_refl _), reads_all RS 1 (Nat.le_refl _) (by omega) (fun e he => by have := hrok e he; omega), wantL_one]
  obtain ⟨SL, hSL⟩ : ∃ S, supL RS RS = S := ⟨_, rfl⟩
  rw [hSL] at hslen hsum hsb hat
  have HTX := Lib.hid htx
  have HTX1 := Lib.hid htx1
  have HSLE := Lib.hid hslen
  have HSUM := Lib.hid hsum
  have HSB := Lib.hid hsb
  have HAT := Lib.hid hat
  have HSL := Lib.hid hSL
  have HT29 := Lib.hid ht29
  have hel := hv.length_le
  have helb : es.length ≤ 4096 := by omega
  have hT3 : 3 * T ≤ 262144 := by rw [← hsum]; have := hsb es.length; omega
  clear hCR htx htx1 hcu ht29 hsl hslen hsum hsb hat hT hSL hRS hlen hnn hbld hck hb1 hdk hd2 hg2 ho2 hb2
  go_wp2_with fail
  refine hbu.mono ?_
  rintro e w4 ⟨a4, c4, rfl, he4, -, hb4⟩
  have hb04 := hb3.trans (hb4.mono hb3.size)
  have hxG4 := lit_next' hb4 hxG
  obtain ⟨hx5, hbx5⟩ := boxG_new w4 #[.int .i64 Z, .slice a4 RS.length c4] 33
  have hb05 := hb04.trans (hbx5.mono hb04.size)
  have he5 := he4.below hbx5
  have hxG5 := lit_next' hbx5 hxG4
  obtain ⟨w5, hw5⟩ : ∃ W : World, W = w4.alloc (.cells #[.int .i64 Z, .slice a4 RS.length c4] 33) := ⟨_, rfl⟩
  obtain ⟨Bx, hBx⟩ : ∃ B, w4.heap.size = B := ⟨_, rfl⟩
  obtain ⟨Gx, hGx⟩ : ∃ B, w2.heap.size = B := ⟨_, rfl⟩
  have he25 : EdgesAt w5 (.slice a2 es.length cap2) es := by rw [hw5]; exact ((he2.below hbx3).below hb4).below hbx5
  rw [← hw5] at hx5 hb05 he5 hxG5
  rw [hBx] at hx5
  rw [hGx] at hxG5
  have HW5 := Lib.hid hw5
  have HBx := Lib.hid hBx
  have HGx := Lib.hid hGx
  clear hw5 hBx hGx hbx5 he4 hb4 hb04 hbu hbx3 hb3 hxG hxG4 he2
  obtain ⟨k0, k1⟩ := cells2R hx5
  obtain ⟨g0, g1⟩ := cells2R hxG5
  have ht1 := extri_any Z G a4 c4 RS w5 he5 (by omega)
  rw [HTX.out] at ht1
  unfold T3Post at ht1
  dsimp only at ht1
  go_upto_region 5 with fail
  rw [← HW5.out, HBx.out, HGx.out]
  go_wp2_with fail
  refine ht1.mono ?_
  rintro e w6 ⟨rfl, hb6⟩
  have hb06 := hb05.trans (hb6.mono hb05.size)
  have hx6 := lit_next' hb6 hx5
  have hxG6 := lit_next' hb6 hxG5
  have he6 := he5.below hb6
  have he26 := he25.below hb6
  have ht2 := extri_any Z 1 a4 c4 RS w6 he6 (by omega)
  rw [HTX1.out] at ht2
  unfold T3Post at ht2
  dsimp only at ht2
  clear k0 k1 g0 g1 ht1
  obtain ⟨k0, k1⟩ := cells2R hx6
  go_wp2_with fail
  refine ht2.mono ?_
  rintro e w7 ⟨rfl, hb7⟩
  have hb07 := hb06.trans (hb7.mono hb06.size)
  have hx7 := lit_next' hb7 hx6
  have hxG7 := lit_next' hb7 hxG6
  have he7 := he6.below hb7
  have he27 := he26.below hb7
  have hsp := exsup_any Z 64 es a4 c4 RS w7 he7 (by omega) hgr hchk (fun e he => by have := hrok e he; omega) hasc
  rw [HSL.out] at hsp
  unfold SPost at hsp
  rw [HSLE.out] at hsp
  clear k0 k1 ht2 hgr hchk
  obtain ⟨k0, k1⟩ := cells2R hx7
  go_wp2_with fail
  refine hsp.mono ?_
  rintro e w8 ⟨a8, c8, r8, rfl, hr8, -, hb8⟩
  have hb08 := hb07.trans (hb8.mono hb07.size)
  have hx8 := lit_next' hb8 hx7
  have hxG8 := lit_next' hb8 hxG7
  have he28 := he27.below hb8
  have hc29 := count29_any n a2 cap2 es w8 he28 hv
  rw [HT29.out] at hc29
  clear k0 k1 hsp
  obtain ⟨g0, g1⟩ := cells2R hxG8
  go_wp2_with fail
  refine hc29.mono ?_
  rintro e w9 ⟨rfl, hb9⟩
  have hb09 := hb08.trans (hb9.mono hb08.size)
  have hx9 := lit_next' hb9 hx8
  have hxG9 := lit_next' hb9 hxG8
  have he29 := he28.below hb9
  have hr9 : RowAt encT w9 (.slice a8 es.length c8) SL := hr8.below hb9
  have hs12 := rsupport12_any n a2 cap2 es w9 he29
  have hspx : supX n es = (supV es n es.length, 0) := by
    unfold supX
    rw [if_neg (by rw [(valid_iff _ es).2 hv]; simp), Int.toNat_natCast]
  rw [hspx] at hs12
  unfold TPost at hs12
  dsimp only at hs12
  rw [supV_length] at hs12
  clear g0 g1 hc29 hr8 hspx
  obtain ⟨g0, g1⟩ := cells2R hxG9
  go_wp2_with fail
  refine hs12.mono ?_
  rintro e wA ⟨a10, c10, rfl, hi10, -, hbA⟩
  have hb0A := hb09.trans (hbA.mono hb09.size)
  have hxA := lit_next' hbA hx9
  have hxGA := lit_next' hbA hxG9
  have he2A := he29.below hbA
  have hrA := hr9.below hbA
  clear g0 g1 hs12
  obtain ⟨g0, g1⟩ := cells2R hxGA
  have hnn : ((es.length : Int) != (es.length : Int)) = false := by simp
  go_wp2_with fail
  go_loopw [23, 94] (fun vs vi wr => ∃ t : Nat, t ≤ es.length ∧ vi = .int .i64 (t : Int) ∧ vs = .int .i64 (sumS SL t : Int) ∧ Below wA.heap.size wA wr) (fun _ vi _ => es.length - (intOf vi).toNat)
  case atStart => exact ⟨0, Nat.zero_le _, rfl, rfl, Below.refl _ _⟩
  case round =>
    clear g0 g1
    obtain ⟨t, ht, rfl, rfl, hb⟩ := hrel
    have hxr := lit_next' hb hxA
    have hxGr := lit_next' hb hxGA
    by_cases hlt : t < es.length
    · have hlt3 : (t : Int) < es.length := by omega
      have hk2 : es[t]? = some es[t] := List.getElem?_eq_getElem hlt
      obtain ⟨u, v, huv, -, -, -⟩ := edge_at hv t _ hk2
      rw [huv] at hk2
      have hst := HAT.out t u v hk2
      have hsu := sumS_step SL t _ hst
      have hwn := supV_at (n := n) t u v hk2
      have hsbt := HSB.out t
      have hcl := cmL_le es n u v
      obtain ⟨C, hC⟩ : ∃ C, (cmL es n u v).length = C := ⟨_, rfl⟩
      rw [hC] at hst hsu hwn hcl
      have HSU := Lib.hid hsu
      dsimp only at HSU
      have hrr : RowAt encT wr (.slice a8 SL.length c8) SL := by rw [HSLE.out]; exact hrA.below hb
      obtain ⟨b7, o7, p, rfl, hp, hcap7, hat⟩ := hrr.elem t (by rw [HSLE.out]; exact hlt)
      rw [hst] at hp
      obtain rfl := Option.some.inj hp
      rw [HSLE.out] at hcap7
      have y0 : wr.cell? ⟨b7, o7 + t * 3, none⟩ = some (.int .i64 (u : Int)) := hat 0 _ rfl
      have y1 : wr.cell? ⟨b7, o7 + t * 3 + 1, none⟩ = some (.int .i64 (v : Int)) := hat 1 _ rfl
      have y2 : wr.cell? ⟨b7, o7 + t * 3 + 2, none⟩ = some (.int .i64 (C : Int)) := hat 2 _ rfl
      obtain ⟨hXX, hXb⟩ := boxG_new wr #[.int .i64 (u : Int), .int .i64 (v : Int), .int .i64 (C : Int)] 71
      have hbX := hb.trans (hXb.mono hb.size)
      have hxGX := lit_next' hXb hxGr
      obtain ⟨wX, hwX⟩ : ∃ W : World, W = wr.alloc (.cells #[.int .i64 (u : Int), .int .i64 (v : Int), .int .i64 (C : Int)] 71) := ⟨_, rfl⟩
      obtain ⟨X, hX⟩ : ∃ X, wr.heap.size = X := ⟨_, rfl⟩
      rw [← hwX] at hXX hbX hxGX
      rw [hX] at hXX
      have HWX := Lib.hid hwX
      have HX := Lib.hid hX
      obtain ⟨b2, o2, rfl, z0, z1⟩ : ∃ b off, a2 = some ⟨b, off, none⟩ ∧ wX.cell? ⟨b, off + t * 2, none⟩ = some (.int .i64 (u : Int)) ∧ wX.cell? ⟨b, off + t * 2 + 1, none⟩ = some (.int .i64 (v : Int)) := by
        obtain ⟨_, _, hv', _, _, _, h4⟩ := he2A.below hbX
        cases hv'
        exact h4 t _ hk2
      have hce : es.length ≤ cap2 := by obtain ⟨_, _, hv', h1, _⟩ := he2A; cases hv'; exact h1
      obtain ⟨b10, o10, rfl, v0⟩ : ∃ b off, a10 = some ⟨b, off, none⟩ ∧ wX.cell? ⟨b, off + t, none⟩ = some (.int .i64 (C : Int)) := by
        have hi11 : IntsAt wX (.slice a10 (supV es n es.length).length c10) (supV es n es.length) := by rw [supV_length]; exact hi10.below hbX
        obtain ⟨_, _, hv', _, _, _, h4⟩ := hi11
        cases hv'
        exact h4 t _ hwn
      have hcw : es.length ≤ c10 := by
        have hi11 : IntsAt wA (.slice (some ⟨b10, o10, none⟩) (supV es n es.length).length c10) (supV es n es.length) := by rw [supV_length]; exact hi10
        obtain ⟨_, _, hv', h1, _⟩ := hi11
        cases hv'
        rw [supV_length] at h1; exact h1
      have hq : ∀ W, (Op.equalIn 10000 71 (.agg #[.int .i64 (u : Int), .int .i64 (v : Int), .int .i64 (C : Int)]) (.agg #[.int .i64 (u : Int), .int .i64 (v : Int), .int .i64 (C : Int)])).run Try.prog W = .ok true W := fun W => by rw [eq_i3]; simp
      have hs9 : (sumS SL t : Int) + (C : Int) ≤ 9000000000 := by omega
      obtain ⟨x0, x1, x2⟩ : wX.cell? ⟨X, 0, none⟩ = some (.int .i64 (u : Int)) ∧ wX.cell? ⟨X, 1, none⟩ = some (.int .i64 (v : Int)) ∧ wX.cell? ⟨X, 2, none⟩ = some (.int .i64 (C : Int)) := ⟨cell_blk hXX, cell_blk hXX, cell_blk hXX⟩
      obtain ⟨g0, g1⟩ := cells2R hxGX
      clear hwX hX hsu hst hC hat hk2 huv hp hwn
      go_upto_region 16 with fail
      rw [← HWX.out, HX.out]
      go_wp2_with fail
      go_quiet (fail)
      have hbq := hbX.drewN nq
      go_wp2_with fail
      go_roundw
      case rel => exact ⟨t + 1, by omega, by go_num, by rw [HSU.out]; go_num, hbq⟩
      case measure => simp [intOf]; omega
    · obtain rfl : t = es.length := by omega
      have hb0r := hb0A.trans (hb.mono hb0A.size)
      obtain ⟨k0, k1⟩ := cells2R hxr
      rw [HSUM.out]
      have hm9 : (3 : Int) * (T : Int) ≤ 9000000000 := by omega
      have d1 : ((T : Int) == (T : Int)) = true := by simp
      have d2 : ((RS.length : Int) == (RS.length : Int)) = true := by simp
      have d3 : (((3 * T : Nat) : Int) == 3 * (T : Int)) = true := by simp
      go_wp2_with fail
      refine (awake36_any _).mono ?_
      rintro e wF ⟨rfl, hbF⟩
      have hb0F := hb0r.trans (hbF.mono hb0r.size)
      go_wp2_with fail
      go_ret
      exact ⟨rfl, hb0F⟩
end Go.Proofs.Ytdkmdcdoiaelfaa
