/- The walk of the law on greater bounds. -/
import Derived.Test.YtdljkobgghnkpaaReoAwake
import Derived.Test.YtdljkobgghnkpaaMkMixed
import Derived.Test.YtdljkobgghnkpaaReoStable
import Derived.Test.YtdljkobgghnkpaaEvSame
namespace Go.Proofs.Ytdljkobgghnkpaa
open Go.RowKit Go.BigFrame

theorem farC_step (k M : Int) (l : List Ev) (j : Nat) (y : Ev) (h : l[j]? = some y) : farC k M (l.drop j) = (decide (k < M - y.time) || farC k (max M y.time) (l.drop (j + 1))) := by
  rw [drop_at _ _ _ h]; rfl
set_option maxRecDepth 100000 in
set_option maxHeartbeats 6400000 in
theorem bound_law (a : Option Addr) (len cap : Nat) (x : Int) (w : World) (hl : ListAt w a len) :
    Calls Try.prog 5 #[.slice a len cap, .int .i64 x] w fun e w' => e = .returned (.bool true) ∧ Below w.heap.size w w' := by
  have hkb := modS_bd x 7 (by omega)
  have hmod := fun w => mod_any x 7 w (by omega) (by omega)
  obtain ⟨k, hk⟩ : ∃ k, modS x 7 = k := ⟨_, rfl⟩
  rw [hk] at hkb hmod
  clear hk
  have hdk := deck_new (cap := cap) hl
  have hb1 : Below w.heap.size w (w.alloc (.cells #[.slice a len cap, .int .i64 0] 50)) := (Below.refl _ _).alloc (Nat.le_refl _) _
  go_enter Try.func5, Try.ntmps5
  go_wp2_with (go_at_call 8; refine (new_any _ _ _ _).mono ?_; rintro e w' ⟨rfl, rfl⟩)
  refine (mixed_any w.heap.size 6 20 _ hdk (by omega) (by omega) (by omega) (by omega)).mono ?_
  rintro e w2 ⟨a2, cap2, l, rfl, hr2, hl2, hlen, -, hg2, -⟩
  have hb2 := hb1.grown hg2 hb1.size (fun g e => by cases e; exact Nat.le_refl _)
  have hs1 := sort_right k hkb.1 (by omega) l hl2 (by omega)
  have hs2 := sort_right (k + 1) (by omega) (by omega) l hl2 (by omega)
  have hmn := lateC_less k l (-1)
  have hn0 := lateC_nn k l (-1)
  have hm0 := lateC_nn (k + 1) l (-1)
  have hTl := tak_length k l (-1)
  have HFN := Lib.hid (fun h => far_none k l (-1) 0 (by omega) (fun y hy => (evS_time (hl2 y hy)).1) h)
  have HEV := Lib.hid (fun y hy => evS_time (hl2 y hy))
  obtain ⟨n, hn⟩ : ∃ n, lateC k (-1) l = n := ⟨_, rfl⟩
  obtain ⟨m, hm⟩ : ∃ m, lateC (k + 1) (-1) l = m := ⟨_, rfl⟩
  obtain ⟨T, hT⟩ : ∃ T, stabS (takS k (-1) l) = T := ⟨_, rfl⟩
  obtain ⟨T2, hT2⟩ : ∃ T, stabS (takS (k + 1) (-1) l) = T := ⟨_, rfl⟩
  have hTL : (T.length : Int) + n = l.length := by rw [← hT, stabS_length, ← hn]; exact hTl
  rw [hn] at hs1 hmn hn0
  rw [hm] at hs2 hmn hm0
  rw [hT] at hs1
  rw [hT2] at hs2
  have HN := Lib.hid hn
  have HT := Lib.hid hT
  have hcall1 := fun W h => sort_any k l a2 cap2 W h (by omega)
  have hcall2 := fun W h => sort_any (k + 1) l a2 cap2 W h (by omega)
  rw [hs1] at hcall1
  rw [hs2] at hcall2
  dsimp only at hcall1 hcall2
  clear hs1 hs2 hn hm hT hT2 hTl hl2 hg2 hb1 hdk hl
  have v1 : IntKind.i64.wrap (k + 1) = k + 1 := IntWalk.i64_in _ (by omega)
  go_wp2_with (go_at_call 23; refine (hmod _).mono ?_; rintro e w' ⟨rfl, rfl⟩)
  refine (hcall1 _ hr2).mono ?_
  rintro e w3 ⟨a3, c3, rfl, hr3, hb3⟩
  have hb13 := hb2.trans (hb3.mono hb2.size)
  have hr23 := hr2.below hb3
  clear hb2 hb3 hr2 hcall1
  go_wp2_with fail
  refine (hcall2 _ hr23).mono ?_
  rintro e w4 ⟨a4, c4, rfl, -, hb4⟩
  have hb14 := hb13.trans (hb4.mono hb13.size)
  have hr24 := hr23.below hb4
  have hr34 := hr3.below hb4
  clear hb13 hr23 hr3 hb4 hcall2 hmod
  go_wp2_with fail
  go_loopw [41, 14, 15] (fun i vm vf wr => ∃ j : Nat, j ≤ l.length ∧ i = .int .i64 j ∧ ∃ (M : Int) (F : Bool), vm = .int .i64 M ∧ vf = .bool F ∧ 0 ≤ M ∧ M ≤ 1048576 ∧ Hid (farC k 0 l = (F || farC k M (l.drop j))) ∧ Below w4.heap.size w4 wr) (fun i _ _ _ => l.length - (intOf i).toNat)
  case atStart => exact ⟨0, Nat.zero_le _, rfl, 0, false, rfl, rfl, by omega, by omega, by show _ = _; rw [List.drop_zero, Bool.false_or], Below.refl _ _⟩
  case round =>
    obtain ⟨j, hj, rfl, M, F, rfl, rfl, hM0, hM1, HF, hb⟩ := hrel
    by_cases hlt : j < l.length
    · obtain ⟨bb, off, y, rfl, hy, hcap, c0, c1, c2, c3', c4', c5, c6⟩ := ev_at (hr24.below hb) j hlt
      have hyt := HEV.out y (List.mem_of_getElem? hy)
      have hst := farC_step k M l j y hy
      have HF2 : Hid (farC k 0 l = ((F || decide (k < M - y.time)) || farC k (max M y.time) (l.drop (j + 1)))) := by show _ = _; rw [HF.out, hst, Bool.or_assoc]
      have v2 : IntKind.i64.wrap (M - y.time) = M - y.time := IntWalk.i64_in _ (by omega)
      clear hst hy HF
      cases F with
      | true =>
        go_wp2_with fail
        go_roundw
        case rel => exact ⟨j + 1, by omega, by go_num, max M y.time, true, rfl, rfl, by omega, by omega, HF2, hb.alloc hb.size _⟩
        case measure => simp [intOf]; omega
      | false =>
        obtain ⟨D, hD⟩ : ∃ D, decide (k < M - y.time) = D := ⟨_, rfl⟩
        rw [Bool.false_or, hD] at HF2
        go_wp2_with fail
        go_roundw
        case rel => exact ⟨j + 1, by omega, by go_num, max M y.time, D, rfl, rfl, by omega, by omega, HF2, hb.alloc hb.size _⟩
        case measure => simp [intOf]; omega
    · obtain rfl : j = l.length := by omega
      have hF : farC k 0 l = F := by
        have h := HF.out
        rw [List.drop_length] at h
        rw [h]; cases F <;> rfl
      have d1 : decide (m ≤ n) = true := by simpa using hmn
      have v3 : IntKind.i64.wrap ((T.length : Int) + n) = (l.length : Int) := by rw [hTL]; exact IntWalk.i64_in _ (by omega)
      have hb04 := hb14.trans (hb.mono hb14.size)
      cases F with
      | true =>
        go_wp2_with fail
        refine (awake_any _).mono ?_
        rintro e w5 ⟨rfl, hb5⟩
        go_wp2_with fail
        go_ret
        exact ⟨rfl, hb04.trans (hb5.mono hb04.size)⟩
      | false =>
        obtain ⟨hn0', htk⟩ := HFN.out hF
        obtain rfl : n = 0 := by rw [← HN.out]; exact hn0'
        obtain rfl : T = stabS l := by rw [← HT.out, htk]
        have hr24 := hr24.below hb
        have hr34 := hr34.below hb
        clear hb
        go_wp2_with fail
        refine (stable_any l a2 cap2 _ hr24 (by omega)).mono ?_
        rintro e w5 ⟨a5, c5, rfl, hr5, hb5⟩
        have hr35 := hr34.below hb5
        have hb05 := hb04.trans (hb5.mono hb04.size)
        go_wp2_with fail
        refine (evsame_eq (stabS l) a3 a5 c3 c5 _ hr35 hr5).mono ?_
        rintro e w6 ⟨rfl, hb6⟩
        have hb06 := hb05.trans (hb6.mono hb05.size)
        go_wp2_with fail
        refine (awake_any _).mono ?_
        rintro e w7 ⟨rfl, hb7⟩
        go_wp2_with fail
        go_ret
        exact ⟨rfl, hb06.trans (hb7.mono hb06.size)⟩
end Go.Proofs.Ytdljkobgghnkpaa
