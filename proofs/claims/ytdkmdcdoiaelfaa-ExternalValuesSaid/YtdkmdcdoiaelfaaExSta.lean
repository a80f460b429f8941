/- The walk of the law that passes from any values between the core numbers and the degrees lead to the core numbers. -/
import Derived.Test.YtdkmdcdoiaelfaaExCorL
import Derived.Deep.RegionHeld3
namespace Go.Proofs.Ytdkmdcdoiaelfaa
open Go.RowKit Go.BigFrame

theorem deck_below {w w' : World} {D : Nat} (h : DeckAt w D) (hb : Below w.heap.size w w') : DeckAt w' D := h.kept (grown_of_below hb) (fun g e => by cases e)
theorem owns_off {w w' : World} {base T size n D : Nat} {v : Value} {xs : List Value} (h : w.ownsRow base T size v n xs) (hg : w.grownBy w' (some D)) (hD : D < base) : w'.ownsRow base T size v n xs := h.kept hg (by
  rcases Classical.em (v.ownBlock = none) with e | e
  · exact .inl e
  · exact .inr fun e2 => by have := (h.lt _ e2).1; omega)
theorem getD_snoc (X : List Int) (y : Int) (v : Nat) : (X ++ [y]).getD v 0 = if v < X.length then X.getD v 0 else if v = X.length then y else 0 := by
  rw [List.getD_eq_getElem?_getD, List.getD_eq_getElem?_getD, List.getElem?_append]
  by_cases h : v < X.length
  · rw [if_pos h, if_pos h]
  · rw [if_neg h, if_neg h]
    by_cases h2 : v = X.length
    · subst h2; simp
    · rw [if_neg h2, List.getElem?_eq_none (by simp; omega)]; rfl
set_option maxRecDepth 100000 in
set_option maxHeartbeats 6400000 in
theorem starts_law (a : Option Addr) (len cap : Nat) (w : World) (hl : ListAt w a len) :
    Calls Try.prog 5 #[.slice a len cap] w fun e w' => e = .returned (.bool true) ∧ Below w.heap.size w w' := by
  by_cases hfew : len ≤ 500
  case neg =>
    have hd : decide (len ≤ 500) = false := by simpa using hfew
    go_enter Try.func5, Try.ntmps5
    go_wp2_with (first
      | (go_at_call 14; refine (few_any _ _ _ _).mono ?_; rintro e w' ⟨rfl, rfl⟩)
      | (go_at_call 15; refine (awake36_any _).mono ?_; rintro e w' ⟨rfl, hb⟩))
    go_ret
    exact ⟨rfl, hb⟩
  case pos =>
  have hd : decide (len ≤ 500) = true := by simpa using hfew
  have hdk := deck_new (cap := cap) hl
  have hb1 : Below w.heap.size w (w.alloc (.cells #[.slice a len cap, .int .i64 0] 92)) := (Below.refl _ _).alloc (Nat.le_refl _) _
  go_enter Try.func5, Try.ntmps5
  go_wp2_with (first
    | (go_at_call 14; refine (few_any _ _ _ _).mono ?_; rintro e w' ⟨rfl, rfl⟩)
    | (go_at_call 17; refine (new_any _ _ _ _).mono ?_; rintro e w' ⟨rfl, rfl⟩)
    | (go_at_call 16; refine (mkgraph_any w.heap.size 8 _ hdk (by omega) (by omega)).mono ?_; rintro e w2 ⟨n0, es, a2, cap2, rfl, he2, hv, hn9, hd2, hg2, ho2⟩))
  have hb2 : Below w.heap.size w w2 := below_deck hb1 hg2 (Nat.le_refl _) hb1.size
  have hck := (valid_iff n0 es).2 hv
  obtain ⟨n, rfl⟩ := Int.eq_ofNat_of_zero_le hv.1
  have hn9 : n ≤ 8 := by omega
  have ho2' : ∀ p, a2 = some p → w.heap.size < p.block := fun p hp => by have := ho2 p hp; simp at this; omega
  have hxg := heap_alloc_new w2 (.cells #[.int .i64 n, .slice a2 es.length cap2] 27)
  have hbx3 := (Below.refl w2.heap.size w2).alloc (Nat.le_refl _) (.cells #[.int .i64 n, .slice a2 es.length cap2] 27)
  have hb3 := hb2.trans (hbx3.mono hb2.size)
  have he3 := he2.below hbx3
  have hd3 := deck_below hd2 hbx3
  have hD2 := hd2.lt
  obtain ⟨w3, hw3⟩ : ∃ W : World, W = w2.alloc (.cells #[.int .i64 n, .slice a2 es.length cap2] 27) := ⟨_, rfl⟩
  obtain ⟨Bg, hBg⟩ : ∃ B, w2.heap.size = B := ⟨_, rfl⟩
  rw [← hw3] at hxg hb3 he3 hd3
  rw [hBg] at hxg hD2
  have HW3 := Lib.hid hw3
  have HBg := Lib.hid hBg
  have hbu := build34_any n a2 cap2 es 4 w3 he3
  have hgr := graphR_rec hv (size := 4) (m := n) (by omega) (by omega) (by omega) (by omega)
  have hlen := recN_len es n
  have hnn : n * n ≤ 8 * 8 := Nat.mul_le_mul hn9 hn9
  have hbld : bldX n es 4 = (4, recN es n, 0) := by unfold bldX; rw [if_neg (by rw [hck]; simp), if_neg (by omega), Int.toNat_natCast]
  rw [hbld] at hbu
  unfold RGPost at hbu
  dsimp only at hbu
  obtain ⟨RS, hRS⟩ : ∃ R, recN es n = R := ⟨_, rfl⟩
  rw [hRS] at hbu hgr hlen
  have hl81 : RS.length ≤ 81 := by omega
  have hnum : corX n es = (corT es n, 0) := by unfold corX; rw [if_neg (by rw [hck]; simp), Int.toNat_natCast]
  have hpas : ∀ X : List Int, X.length = n → passX 4 RS X = (passL es n X, 0) := fun X hX => by
    unfold passX
    rw [hX, hgr, if_neg (by simp)]
  have HNUM := Lib.hid hnum
  have HPAS := Lib.hid hpas
  clear hnum hpas hRS hlen hnn hbld hgr hck hb1 hdk hg2 ho2 he2 hb2 hbx3 hw3 hBg hd2
  obtain ⟨g0, g1⟩ := cells2R hxg
  go_upto_region 5 with fail
  rw [← HW3.out, HBg.out]
  go_wp2_with fail
  refine hbu.mono ?_
  rintro e w4 ⟨a4, c4, rfl, he4, ha4, hb4⟩
  have hb04 := hb3.trans (hb4.mono hb3.size)
  obtain ⟨hx5, hbx5⟩ := boxG_new w4 #[.int .i64 4, .slice a4 RS.length c4] 33
  have hb35 := hb4.trans (hbx5.mono hb4.size)
  have hb05 := hb04.trans (hbx5.mono hb04.size)
  have he5 := he4.below hbx5
  have hsz4 := hb4.size
  have hszg := blk_lt hxg
  have ha4' : ∀ p, a4 = some p → w.heap.size < p.block := fun p hp => by have := ha4 p hp; omega
  obtain ⟨w5, hw5⟩ : ∃ W : World, W = w4.alloc (.cells #[.int .i64 4, .slice a4 RS.length c4] 33) := ⟨_, rfl⟩
  obtain ⟨Bx, hBx⟩ : ∃ B, w4.heap.size = B := ⟨_, rfl⟩
  rw [← hw5] at hx5 hb35 hb05 he5
  rw [hBx] at hx5 hsz4
  have hDx : w.heap.size < Bx := by omega
  have HW5 := Lib.hid hw5
  have HBx := Lib.hid hBx
  have hd5 := deck_below hd3 hb35
  clear hw5 hBx hbx5 he4 hb4 hb04 hbu ha4 hd3
  have hxg5 := lit_next' hb35 hxg
  have heg5 := he3.below hb35
  clear g0 g1 hxg he3 hb35 hb3 hszg hsz4
  obtain ⟨g0, g1⟩ := cells2R hxg5
  have hnu := rnumbers10_any n a2 cap2 es w5 heg5
  rw [HNUM.out] at hnu
  unfold TPost at hnu
  dsimp only at hnu
  rw [corT_length] at hnu
  go_upto_region 6 with fail
  rw [← HW5.out, HBx.out]
  go_wp2_with fail
  refine hnu.mono ?_
  rintro e wL ⟨a7, c7, rfl, hi7, ha7, hb7⟩
  have hbL := hb05.trans (hb7.mono hb05.size)
  have hsx := blk_lt hx5
  have ha7' : ∀ p, a7 = some p → w.heap.size < p.block := fun p hp => by have := ha7 p hp; omega
  have hxgL := lit_next' hb7 hxg5
  have hxL := lit_next' hb7 hx5
  have heL := he5.below hb7
  have hegL := heg5.below hb7
  have hdL := deck_below hd5 hb7
  have hDL := hdL.lt
  clear g0 g1 hnu hxg5 hx5 he5 heg5 hd5 hb7 hb05 hsx ha7
  obtain ⟨D, hD⟩ : ∃ D, w.heap.size = D := ⟨_, rfl⟩
  have HD := Lib.hid hD
  rw [hD] at hbL ha7' ha4' ho2' hD2 hDx hdL hDL
  go_wp2_with (rw [HD.out])
  have hofG : ∀ g : Nat, (some D) = some g → Off g (.slice a2 es.length cap2) := fun g e n c p ep => by cases e; have := ho2' p (Value.slice.inj ep).1; omega
  have hof4 : ∀ g : Nat, (some D) = some g → Off g (.slice a4 RS.length c4) := fun g e n c p ep => by cases e; have := ha4' p (Value.slice.inj ep).1; omega
  have hof7 : ∀ g : Nat, (some D) = some g → Off g (.slice a7 n c7) := fun g e n c p ep => by cases e; have := ha7' p (Value.slice.inj ep).1; omega
  have hnG : ∀ W : World, wL.grownBy W (some D) → W.heap[Bg]? = some (.cells #[.int .i64 n, .slice a2 es.length cap2] 27 (0, 0)) := fun W hg => grown_blk hg hxgL (fun e => by have := Option.some.inj e; omega)
  have hnX : ∀ W : World, wL.grownBy W (some D) → W.heap[Bx]? = some (.cells #[.int .i64 4, .slice a4 RS.length c4] 33 (0, 0)) := fun W hg => grown_blk hg hxL (fun e => by have := Option.some.inj e; omega)
  clear ho2' ha4' ha7' hxgL hxL hD2 hDx
  go_loopw [9, 34] (fun vx vi wr => ∃ (k : Nat) (X : List Int), k ≤ n ∧ vi = .int .i64 k ∧ Hid (X.length = k) ∧ X.length ≤ 8 ∧ Hid (∀ v, v < k → corF es n v ≤ X.getD v 0 ∧ X.getD v 0 ≤ (degL es n).getD v 0) ∧ wr.ownsRow wL.heap.size 3 1 vx X.length (intsV X) ∧ DeckAt wr D ∧ wL.grownBy wr (some D)) (fun _ vi _ => n - (intOf vi).toNat)
  case atStart => exact ⟨0, [], Nat.zero_le _, rfl, (show _ = _ from rfl), by simp, (show ∀ v, v < 0 → _ from fun v h => by omega), World.ownsRow_nil _ _ _ _, hdL, grown_refl _ _⟩
  case round =>
    obtain ⟨k, X, hk, rfl, HX, hX8, HB, hown, hdw, hgw⟩ := hrel
    obtain ⟨ao, co, hvo⟩ := owns_shape hown
    subst hvo
    by_cases hlt : k < n
    · have hlt3 : (k : Int) < n := by omega
      have hn1 := hi7.grown hgw hof7
      obtain ⟨bc, oc, ec7, cc0⟩ := ints_atn hn1 (corT_length es n) k hlt
      subst ec7
      rw [corT_at hlt] at cc0
      obtain ⟨c, hcv⟩ : ∃ c, c = corF es n k := ⟨_, rfl⟩
      rw [← hcv] at cc0
      have hcd := degL_ge hv k hlt
      rw [degL_getD es n k hlt, ← hcv] at hcd
      obtain ⟨C, hC⟩ := cor_nat es n k hlt
      rw [← hcv] at hC
      have hnl := nb_lt hv k hlt
      subst hC
      obtain ⟨L, hL⟩ : ∃ L, (nbL es n k).length = L := ⟨_, rfl⟩
      have hdg := fun W (h : wL.grownBy W (some D)) => degree3_any n a2 cap2 es k W (hegL.grown h hofG) hv
      rw [hL] at hcd hnl hdg
      have hCD : C ≤ L := by omega
      have hL64 : L ≤ 64 := by omega
      obtain ⟨E, hE⟩ : ∃ E, L - C = E := ⟨_, rfl⟩
      have hEE : (L : Int) - (C : Int) = (E : Int) := by omega
      have hE64 : E ≤ 64 := by omega
      have v1 : IntKind.i64.wrap (E : Int) = E := IntWalk.i64_in _ (by omega)
      have v2 : IntKind.i64.wrap ((E : Int) + 1) = (E : Int) + 1 := IntWalk.i64_in _ (by omega)
      have HBD : Hid (∀ y : Int, 0 ≤ y → y < E + 1 → ∀ v, v < k + 1 → corF es n v ≤ (X ++ [C + y]).getD v 0 ∧ (X ++ [C + y]).getD v 0 ≤ (degL es n).getD v 0) := (show ∀ y : Int, _ from fun y hy0 hy1 v hvk => by
        rw [getD_snoc]
        have hxl := HX.out
        by_cases h : v < k
        · rw [if_pos (by omega)]; exact HB.out v h
        · obtain rfl : v = k := by omega
          rw [if_neg (by omega), if_pos hxl.symm, degL_getD es n v hlt, hL, ← hcv]; omega)
      have hg0 : wL.grownBy wr.drew (some D) := grown_trans hgw (grown_none (grown_of_below (Below.refl wr.heap.size wr).drew))
      have hdeg := hdg _ hg0
      have hown0 : wr.drew.ownsRow wL.heap.size 3 1 (.slice ao X.length co) X.length (intsV X) := hown.drew
      have hd0 : DeckAt wr.drew D := hdw.drew
      have hS : ∀ W : World, wL.grownBy W (some D) → W.cell? ⟨Bg, 0, none⟩ = some (.int .i64 (n : Int)) ∧ W.cell? ⟨Bg, 1, none⟩ = some (.slice a2 es.length cap2) ∧ W.cell? ⟨bc, oc + k, none⟩ = some (.int .i64 (C : Int)) := fun W hg => by
        obtain ⟨u0, u1⟩ := cells2R (hnG W hg)
        obtain ⟨b8, o8, e8, c8⟩ := ints_atn (hi7.grown hg hof7) (corT_length es n) k hlt
        rw [corT_at hlt, ← hcv] at c8
        cases e8
        exact ⟨u0, u1, c8⟩
      have hSw := hS wr hgw
      obtain ⟨g0, g1, -⟩ := hSw
      clear hcv hcd hnl hL hE hdg HB hn1
      go_wp2_with fail
      go_region_held3 (fun w' => w'.cell? ⟨Bg, 0, none⟩ = some (.int .i64 (n : Int)) ∧ w'.cell? ⟨Bg, 1, none⟩ = some (.slice a2 es.length cap2) ∧ w'.cell? ⟨bc, oc + k, none⟩ = some (.int .i64 (C : Int)))
        (first | with_reducible exact hS _ hg0 | with_reducible exact hS _ hg5 | with_reducible exact hS _ hg6 | with_reducible exact hS _ hgA | with_reducible exact hS _ hg7)
        (first
          | (go_at_call 23; (with_reducible refine hdeg.mono ?_); rintro e w5 ⟨rfl, hb5⟩; have hg5 := grown_trans hg0 (grown_none (grown_of_below hb5)); have hd5 := deck_below hd0 hb5; have hown5 := hown0.kept (grown_of_below hb5) (Classical.em _); have hnx := next_any D ((E : Int) + 1) w5 hd5 (by omega) (by omega))
          | (go_at_call 26; (with_reducible refine hnx.mono ?_); rintro e w6 ⟨y, hy0, hy1, rfl, hd6, hgn⟩; have hg6 := grown_trans hg5 hgn; have hown6 := owns_off hown5 hgn hDL; have v3 : IntKind.i64.wrap ((C : Int) + y) = (C : Int) + y := IntWalk.i64_in _ (by omega); have hba := (Below.refl w6.heap.size w6).alloc (Nat.le_refl _) (.cells #[.int .i64 ((C : Int) + y)] 3); have hgA := grown_trans hg6 (grown_none (grown_of_below hba)); have hownA := hown6.alloc (.cells #[.int .i64 ((C : Int) + y)] 3); have hlA := ints_lit1 w6 ((C : Int) + y) 3; have hdA := deck_below hd6 hba)
          | (refine step_app_ints intsT rfl (.tmp 37) (.tmp 54) rfl wL.heap.size (.slice ao X.length co) _ X [(C : Int) + y] rfl (by exact hownA) rfl (by exact hlA) (by simp; omega) (by exact hgA.size) ?_; intro v7 w7 hown7 hgn7; have hg7 := grown_new hgA hgn7 (fun j e => .inr (hownA.lt j e).1); have hd7 := hdA.kept hgn7 (fun j e => by have := (hownA.lt j e).1; omega)))
      have HX2 : Hid ((X ++ [(C : Int) + y]).length = k + 1) := (show _ = _ by rw [List.length_append, HX.out]; rfl)
      have hX2 : (X ++ [(C : Int) + y]).length ≤ 8 := by rw [HX2.out]; omega
      have HB2 : Hid (∀ v, v < k + 1 → corF es n v ≤ (X ++ [(C : Int) + y]).getD v 0 ∧ (X ++ [(C : Int) + y]).getD v 0 ≤ (degL es n).getD v 0) := (show ∀ v, v < k + 1 → _ from HBD.out y hy0 hy1)
      go_wp2_with fail
      go_roundw
      case rel => exact ⟨k + 1, X ++ [(C : Int) + y], by omega, by go_num, HX2, hX2, HB2, hown7, hd7, hg7⟩
      case measure => simp [intOf]; omega
    · obtain rfl : k = n := by omega
      obtain ⟨a5, c5, e5, hiX, -⟩ := IntsAt.of_owns hown (by omega)
      cases e5
      have hXk : X.length = k := HX.out
      rw [hXk] at hiX
      have hge : ∀ v, v < k → corF es k v ≤ X.getD v 0 := fun v h => (HB.out v h).1
      have hsum := sumD_le hv (x := X) (fun v h => (HB.out v h).2)
      have hnn2 : k * (k - 1) ≤ 8 * 7 := Nat.mul_le_mul hn9 (by omega)
      have hcore := itL_core hv 60 X hXk hge (by omega)
      have hxl := itL_length es k X hXk
      obtain ⟨IT, hIT⟩ : ∃ F : Nat → List Int, itL es k X = F := ⟨_, rfl⟩
      have HST : Hid (∀ i, IT (i + 1) = passL es k (IT i)) := (show ∀ i, _ from fun i => by rw [← hIT]; rfl)
      have hi90 : IntsAt wr (.slice ao k co) (IT 0) := by rw [← hIT]; exact hiX
      rw [hIT] at hxl hcore
      have HCO := Lib.hid hcore
      have hx9 := hnX wr hgw
      have he9 := heL.grown hgw hof4
      have hi9 := hi7.grown hgw hof7
      have hb09 : Below w.heap.size w wr := by rw [HD.out]; exact hbL.grown hgw (by omega) (fun j e => by cases e; omega)
      obtain ⟨w9, rfl⟩ : ∃ W : World, W = wr := ⟨_, rfl⟩
      have hown9 : X.length ≤ 8 := hX8
      rw [hXk]
      clear hIT hcore hiX hown hge hsum hnn2 HX HB hnG hnX hof4 hof7 hofG hegL heL hi7 hgw hdw hdL hbL hown9 hXk hX8
      go_wp2_with fail
      go_loopw [9, 11] (fun vx vi wr => ∃ (i : Nat) (ax : Option Addr) (cx : Nat), i ≤ 60 ∧ vi = .int .i64 i ∧ vx = .slice ax k cx ∧ IntsAt wr (.slice ax k cx) (IT i) ∧ Below w9.heap.size w9 wr) (fun _ vi _ => 60 - (intOf vi).toNat)
      case atStart => exact ⟨0, ao, co, Nat.zero_le _, rfl, rfl, hi90, Below.refl _ _⟩
      case round =>
        clear hi90
        obtain ⟨i, ax, cx, hip, rfl, rfl, hix, hbi⟩ := hrel
        obtain ⟨wi, rfl⟩ : ∃ W : World, W = wr := ⟨_, rfl⟩
        obtain ⟨k0, k1⟩ := cells2R (lit_next' hbi hx9)
        by_cases hlti : i < 60
        · have hlti3 : (i : Int) < 60 := by omega
          have hpa := expass_any 4 a4 ax c4 cx RS (IT i) wi (he9.below hbi) (by omega) (by rw [hxl i]; exact hix)
          rw [HPAS.out _ (hxl i), ← HST.out] at hpa
          unfold TPost at hpa
          dsimp only at hpa
          rw [hxl i, hxl (i + 1)] at hpa
          go_wp2_with fail
          refine hpa.mono ?_
          rintro e w10 ⟨ay, cy, rfl, hiy, -, hb10⟩
          have hbi2 := hbi.trans (hb10.mono hbi.size)
          go_wp2_with fail
          go_roundw
          case rel => exact ⟨i + 1, ay, cy, by omega, by go_num, rfl, hiy, hbi2⟩
          case measure => simp [intOf]; omega
        · obtain rfl : i = 60 := by omega
          have hbe := hb09.trans (hbi.mono hb09.size)
          rw [HCO.out] at hix
          have hl7 : IntsAt wi (.slice a7 (corT es k).length c7) (corT es k) := by rw [corT_length]; exact hi9.below hbi
          have hlx : IntsAt wi (.slice ax (corT es k).length cx) (corT es k) := by rw [corT_length]; exact hix
          have hs1 := icmp_same ax a7 cx c7 (corT es k) wi hlx hl7
          rw [corT_length] at hs1
          clear hl7 hlx hix
          go_wp2_with fail
          refine hs1.mono ?_
          rintro e w11 ⟨rfl, hb11⟩
          have hbe2 := hbe.trans (hb11.mono hbe.size)
          go_wp2_with fail
          refine (awake36_any _).mono ?_
          rintro e w13 ⟨rfl, hb13⟩
          have hbe4 := hbe2.trans (hb13.mono hbe2.size)
          go_wp2_with fail
          go_ret
          exact ⟨rfl, hbe4⟩
end Go.Proofs.Ytdkmdcdoiaelfaa
