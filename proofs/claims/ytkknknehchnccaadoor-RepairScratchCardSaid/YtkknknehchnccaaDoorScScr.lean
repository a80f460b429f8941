/- The walk of the law RepairScratch. The law on following events by parts and from the start returns true for each list of choices and each cut, and changes nothing that was there. -/
import Derived.Test.YtkknknehchnccaaDoorScFol
import Derived.Test.YtkknknehchnccaaDoorRepBack
import Derived.Test.YtkknknehchnccaaDoorScMix
import Derived.Test.YtkknknehchnccaaDoorSqCard
import Derived.Test.YtkknknehchnccaaDoorArgOpen
namespace Go.Proofs.YtkknknehchnccaaDoor
open Go.RowKit Go.BigFrame

set_option maxRecDepth 100000 in
/-- the events up to a place, and from there on -/
theorem ev_cuts {w : World} {av : Option Addr} {cv : Nat} {L : List Ev} (hr : RowAt encEv w (.slice av L.length cv) L) (k : Nat) (hk : k ≤ L.length) :
    ∃ a', (∀ W, (Instr.slice 79 (.slice av L.length cv) none (some (.int .i64 k)) none).run Tryd.prog W = .ok (.slice av k cv) W) ∧
      (∀ W, (Instr.slice 79 (.slice av L.length cv) (some (.int .i64 k)) none none).run Tryd.prog W = .ok (.slice a' (L.length - k) (cv - k)) W) ∧
      ∀ W, RowAt encEv W (.slice av L.length cv) L → RowAt encEv W (.slice av k cv) (L.take k) ∧ RowAt encEv W (.slice a' (L.length - k) (cv - k)) (L.drop k) := by
  obtain ⟨ax, cx, e, h1, h2, h3, h4⟩ := id hr
  cases e
  have hz : ∀ W, (sizeOf (Tryd.prog.elem 79)).run Tryd.prog W = .ok 7 W := fun W => by kernel_rfl
  refine ⟨if cv = k then av else av.map (·.add (k * 7)), fun W => ?_, fun W => ?_, fun W hW => ⟨hW.take k cv hk (by omega) h2, ?_⟩⟩
  · rw [run_slice_h (P := Tryd.prog) (w := W) 79 av L.length cv Tryd.underlying79 .i64 k (by omega) (by omega), hz]
    simp only [Result.andThen, sliced, Int.toNat_natCast, Nat.zero_mul, Nat.sub_zero]
    cases av <;> simp [Addr.add]
  · rw [run_slice_l (P := Tryd.prog) (w := W) 79 av L.length cv Tryd.underlying79 .i64 k (by omega) (by omega), hz]
    simp only [Result.andThen, sliced, Int.toNat_natCast]
  · by_cases hc : cv = k
    · rw [if_pos hc]
      have e1 : L.length = k := by omega
      rw [e1, Nat.sub_self, ← e1, List.drop_length]
      exact RowAt.void (fun h => by have := h2 h; omega)
    · rw [if_neg hc]
      cases av with
      | none => exact absurd (h2 rfl) (by omega)
      | some p =>
        obtain ⟨b, off, z, e, -⟩ : ∃ b off z, p = ⟨b, off, z⟩ ∧ True := ⟨_, _, _, rfl, trivial⟩
        subst e
        by_cases hL : L = []
        · subst hL
          simp only [List.length_nil, Nat.zero_sub, List.drop_nil]
          exact RowAt.void (fun h => by cases h)
        · obtain ⟨b', off', x, e, -⟩ := hW.elem 0 (List.length_pos_iff.2 hL)
          cases e
          have e9 : (if k * 7 = 0 then (⟨b, off, none⟩ : Addr) else ⟨b, off + k * 7, none⟩) = ⟨b, off + k * 7, none⟩ := by split <;> simp_all
          simp only [Option.map_some, Addr.add, e9]
          exact hW.drop k (cv - k) (by omega)
/-- core numbers in a box -/
structure CBx (Q n : Nat) (es : List E2) (a : Option Addr) (cap : Nat) (a2 : Option Addr) (c2 : Nat) (W : World) : Prop where
  x : W.heap[Q]? = some (.cells #[.int .i64 n, .slice a es.length cap, .slice a2 (corT es n).length c2] 62 (0, 0))
  q : CIn W 0 a cap es a2 c2 (corT es n)
section
variable {W W' W2 : World} {Q n : Nat} {es : List E2} {a a2 : Option Addr} {cap c2 : Nat}
theorem CBx.below (h : CBx Q n es a cap a2 c2 W) (hb : Below W.heap.size W W') : CBx Q n es a cap a2 c2 W' := ⟨lit_next' hb h.x, h.q.below hb⟩
theorem CBx.past {k : Nat} (h : CBx Q n es a cap a2 c2 W) (hb : Below W.heap.size W W') (hg : W'.grownBy W2 (some k)) (hk : W.heap.size ≤ k) : CBx Q n es a cap a2 c2 W2 :=
  ⟨grown_blk hg (lit_next' hb h.x) (fun e => by have := blk_lt h.x; have := Option.some.inj e; omega), h.q.e.past hb hg hk, h.q.i.past hb hg hk, fun _ _ => Nat.zero_le _, fun _ _ => Nat.zero_le _⟩
theorem CBx.new {W : World} (h : CIn W 0 a cap es a2 c2 (corT es n)) : CBx W.heap.size n es a cap a2 c2 (W.alloc (.cells #[.int .i64 n, .slice a es.length cap, .slice a2 (corT es n).length c2] 62)) :=
  ⟨(box_new _ _ _).1, h.below (box_new _ _ _).2⟩
end
theorem fol_ok {n : Nat} {es : List E2} {L : List Ev} (hv : Valid n es) (hL : ∀ e ∈ L, fitS n e = 0) : folX ⟨n, es, corT es n⟩ L = (crN n (folF n (es, 0) L).1, (folF n (es, 0) L).2.1, 0) := by
  unfold folX
  rw [(crOk_iff _).2 ⟨n, hv, rfl⟩, if_neg (by simp)]
  dsimp only
  rw [Int.toNat_natCast, fol_fit L _ hL, if_neg (by simp)]
/-- the count stays small -/
theorem fol_bd {n : Nat} : ∀ (l : List Ev) s, Valid n s.1 → (∀ e ∈ l, fitS n e = 0) → s.2 ≤ (folF n s l).2.1 ∧ (folF n s l).2.1 ≤ s.2 + 262144 * l.length := by
  intro l
  induction l with
  | nil => intro s _ _; exact ⟨Int.le_refl _, by simp [folF]⟩
  | cons e l ih =>
    intro s hv h
    have h1 := ev_ok hv (h e List.mem_cons_self)
    have h2 := ih (evF n s e) h1.1 fun x hx => h x (List.mem_cons_of_mem _ hx)
    unfold folF
    rw [if_neg (by rw [h e List.mem_cons_self]; simp)]
    simp only [List.length_cons]
    omega
/-- following events that fit -/
def FolP (w : World) (n : Nat) (F : List E2) (P : Int) (e : Ending) (w' : World) : Prop :=
  ∃ a cap a2 c2, e = .returned (.tuple #[.agg #[.int .i64 n, .slice a F.length cap, .slice a2 (corT F n).length c2], .int .i64 P, .int .i64 0]) ∧ CIn w' w.heap.size a cap F a2 c2 (corT F n) ∧ Below w.heap.size w w'
theorem scr_follow (n : Nat) (es F : List E2) (P : Int) (a a2 av : Option Addr) (cap c2 cv k : Nat) (L : List Ev) (W : World) (hv : Valid n es) (hL : ∀ e ∈ L, fitS n e = 0) (hk : L.length = k) (hlen : k ≤ 1000)
    (hF : (folF n (es, 0) L).1 = F) (hP : (folF n (es, 0) L).2.1 = P) (hq : CIn W 0 a cap es a2 c2 (corT es n)) (hr : RowAt encEv W (.slice av k cv) L) (hT : TzAt W) :
    Calls Tryd.prog 54 #[.agg #[.int .i64 n, .slice a es.length cap, .slice a2 (corT es n).length c2], .slice av k cv] W (FolP W n F P) := by
  subst hk hF hP
  have h := rpfollow_any (n : Int) a a2 av cap c2 cv es (corT es n) L W hq.e hq.i hr hlen hT
  rw [fol_ok hv hL] at h
  exact h
set_option maxRecDepth 100000 in
set_option maxHeartbeats 12800000 in
theorem repairScratch_law (cut : Int) (a : Option Addr) (len cap : Nat) (w : World) (hl : ListAt w a len) (hT : TzAt w) :
    Calls Tryd.prog 11 #[.slice a len cap, .int .i64 cut] w fun e w' => e = .returned (.bool true) ∧ Below w.heap.size w w' := by
  have hdk := deck_new (cap := cap) hl
  have hb1 : Below w.heap.size w (w.alloc (.cells #[.slice a len cap, .int .i64 0] 86)) := (Below.refl _ _).alloc (Nat.le_refl _) _
  go_enter Tryd.func11, Tryd.ntmps11
  go_wp2_with (first
    | (go_at_call 13; refine (new_any _ _ _ _).mono ?_; rintro e w' ⟨rfl, rfl⟩))
  refine (next_any w.heap.size 6 _ hdk (by omega) (by omega)).mono ?_
  rintro _ w1 ⟨y, hy0, hy1, rfl, hd1, hg1⟩
  obtain ⟨y, rfl⟩ := Int.eq_ofNat_of_zero_le hy0
  have hb1' := below_deck hb1 hg1 (Nat.le_refl _) hb1.size
  clear hb1 hdk hg1
  have hw2 : IntKind.i64.wrap (2 + (y : Int)) = ((2 + y : Nat) : Int) := by rw [IntWalk.i64_in _ (by omega)]; omega
  obtain ⟨n, hn⟩ : ∃ n, 2 + y = n := ⟨_, rfl⟩
  rw [hn] at hw2
  have hn2 : 2 ≤ n := by omega
  have hn7 : n ≤ 8 := by omega
  clear hn hy0 hy1
  go_wp2_with fail
  refine (mixed_in w.heap.size (n : Int) 14 _ hd1 (by omega) (by omega) (by omega) (by omega)).mono ?_
  rintro _ w2 ⟨av, cv, L, rfl, hr, hA, hLl, hd2, hg2, -⟩
  have hb2 := below_deck hb1' hg2 (Nat.le_refl _) hb1'.size
  have hfit : ∀ e ∈ L, fitS (n : Int) e = 0 := fun e he => by
    obtain ⟨h1, h2, h3⟩ := hA e he
    unfold fitS
    rw [if_neg (by rw [h1]; simp), if_neg (by omega)]
  clear hb1' hg2 hd1 hd2 hA hw2 hl
  have hv0 := valid_nil (n := (n : Int)) (by omega) (by omega)
  have hop := rpopen_any (n : Int) none 0 [] w2 (edges_nil _) (hT.below hb2)
  rw [show copX (n : Int) [] = (crN n [], 0) by unfold copX; rw [(valid_iff _ _).2 hv0, if_neg (by simp)]; rfl] at hop
  obtain ⟨es, hes, hve⟩ : ∃ es : List E2, crN n [] = crN n es ∧ Valid n es := ⟨[], rfl, hv0⟩
  rw [hes, List.length_nil] at hop
  clear hes hv0
  -- what is followed
  obtain ⟨k, hk⟩ := Int.eq_ofNat_of_zero_le (modS_bd cut ((L.length : Int) + 1) (by omega)).1
  have hkl : k ≤ L.length := by have := (modS_bd cut ((L.length : Int) + 1) (by omega)).2; omega
  have hft : ∀ e ∈ L.take k, fitS (n : Int) e = 0 := fun e he => hfit e (List.mem_of_mem_take he)
  have hfd : ∀ e ∈ L.drop k, fitS (n : Int) e = 0 := fun e he => hfit e (List.mem_of_mem_drop he)
  have hcu := fol_cut es (L.take k) (L.drop k) hft hfd
  rw [List.take_append_drop] at hcu
  have hvf := fol_valid (L.take k) (es, 0) hve hft
  have hvF := fol_valid L (es, 0) hve hfit
  have hbP := fol_bd (L.take k) (es, 0) hve hft
  have hbQ := fol_bd (L.drop k) ((folF n (es, 0) (L.take k)).1, 0) hvf hfd
  have hlt : (L.take k).length = k := by rw [List.length_take]; omega
  have hld : (L.drop k).length = L.length - k := List.length_drop
  rw [hlt] at hbP
  rw [hld] at hbQ
  obtain ⟨F, hF⟩ : ∃ F, (folF n (es, 0) L).1 = F := ⟨_, rfl⟩
  obtain ⟨P, hP⟩ : ∃ F, (folF n (es, 0) L).2.1 = F := ⟨_, rfl⟩
  obtain ⟨F1, hF1⟩ : ∃ F, (folF n (es, 0) (L.take k)).1 = F := ⟨_, rfl⟩
  obtain ⟨P1, hP1⟩ : ∃ F, (folF n (es, 0) (L.take k)).2.1 = F := ⟨_, rfl⟩
  obtain ⟨P2, hP2⟩ : ∃ F, (folF n (F1, 0) (L.drop k)).2.1 = F := ⟨_, rfl⟩
  rw [hF1] at hcu hvf hbQ
  rw [hF] at hcu hvF
  rw [hP, hP1, hP2] at hcu
  rw [hP1] at hbP
  rw [hP2] at hbQ
  obtain ⟨hF2, hPP⟩ := hcu
  have hPb : 0 ≤ P1 ∧ P1 ≤ 10000000 ∧ 0 ≤ P2 ∧ P2 ≤ 10000000 := by dsimp only at hbP hbQ; omega
  subst hPP
  have hf1 := fun a a2 cap c2 W hq hr hT => scr_follow n es F (P1 + P2) a a2 av cap c2 cv L.length L W hve hfit rfl (by omega) hF hP hq hr hT
  have hf2 := fun a a2 cap c2 W hq hr hT => scr_follow n es F1 P1 a a2 av cap c2 cv k (L.take k) W hve hft hlt (by omega) hF1 hP1 hq hr hT
  obtain ⟨ad, hc1, hc2, hc3⟩ := ev_cuts hr k hkl
  have hf3 := fun a a2 cap c2 W hq hr hT => scr_follow n F1 F P2 a a2 ad cap c2 (cv - k) (L.length - k) (L.drop k) W hvf hfd hld (by omega) hF2.symm hP2 hq hr hT
  have hop2 := fun a cap W he hT => rpopen_any (n : Int) a cap F W he hT
  rw [show copX (n : Int) F = (crN n F, 0) by unfold copX; rw [(valid_iff _ _).2 hvF, if_neg (by simp)]; rfl] at hop2
  have HLT := Lib.hid hlt
  have HLD := Lib.hid hld
  have hll : L.length ≤ 14 := by omega
  have hmd := fun W => mod_any cut ((L.length : Int) + 1) W (by omega) (by omega)
  rw [hk] at hmd
  have hw1 : IntKind.i64.wrap ((L.length : Int) + 1) = (L.length : Int) + 1 := IntWalk.i64_in _ (by omega)
  have HKL := Lib.hid hkl
  clear hlt hld hbP hbQ hF hP hF1 hP1 hP2 hF2 hvf hvF hft hfd hfit hve hk hkl hLl hn2 hn7
  go_wp2_with fail
  refine hop.mono ?_
  rintro _ w3 ⟨a6, c6, a7, c7, rfl, hq3, hb3⟩
  unfold crN at hq3 ⊢
  dsimp only at hq3 ⊢
  have hA4 := CBx.new (hq3.mono (Nat.zero_le _))
  have hr3 := hr.below hb3
  have hb03 := hb2.trans (hb3.mono hb2.size)
  obtain ⟨W4, hW4⟩ : ∃ W : World, W = w3.alloc (.cells #[.int .i64 n, .slice a6 es.length c6, .slice a7 (corT es n).length c7] 62) := ⟨_, rfl⟩
  have hb34 : Below w3.heap.size w3 W4 := by rw [hW4]; exact (box_new _ _ _).2
  obtain ⟨A, hA⟩ : ∃ X, w3.heap.size = X := ⟨_, rfl⟩
  rw [← hW4, hA] at hA4
  have hr4 := hr3.below hb34
  have hb4 := hb03.trans (hb34.mono hb03.size)
  have HW4 := Lib.hid hW4
  have HA := Lib.hid hA
  clear hW4 hA hb34 hb03 hr3 hb3 hq3 hop hr hb2
  go_upto_region 5 with fail
  rw [← HW4.out, HA.out]
  obtain ⟨x0, x1, x2⟩ := cells3 hA4.x
  go_wp2_with fail
  refine (hf1 a6 a7 c6 c7 W4 hA4.q hr4 (hT.below hb4)).mono ?_
  rintro _ w5 ⟨a8, c8, a9, c9, rfl, hq5, hb5⟩
  have hX6 := CBx.new (hq5.mono (Nat.zero_le _))
  have hr5 := hr4.below hb5
  have hb05 := hb4.trans (hb5.mono hb4.size)
  have hA5 := hA4.below hb5
  obtain ⟨W6, hW6⟩ : ∃ W : World, W = w5.alloc (.cells #[.int .i64 n, .slice a8 F.length c8, .slice a9 (corT F n).length c9] 62) := ⟨_, rfl⟩
  have hb56 : Below w5.heap.size w5 W6 := by rw [hW6]; exact (box_new _ _ _).2
  obtain ⟨X, hX⟩ : ∃ X, w5.heap.size = X := ⟨_, rfl⟩
  rw [← hW6, hX] at hX6
  have hr6 := hr5.below hb56
  have hA6 := hA5.below hb56
  have hb6 := hb05.trans (hb56.mono hb05.size)
  have HW6 := Lib.hid hW6
  have HX := Lib.hid hX
  clear hW6 hX hb56 hb05 hr5 hb5 hq5 hf1 hr4 hA5 hA4 hb4 x0 x1 x2
  go_upto_region 6 with fail
  rw [← HW6.out, HX.out]
  go_upto_region 7 with (go_at_call 19; refine (hmd _).mono ?_; rintro _ _ ⟨rfl, rfl⟩)
  go_cut [14, 15, 16] from 47 to 55 (fun bv pv fv wx => ∃ (R : Nat) (a b : Option Addr) (c d : Nat), bv = .pointer (some ⟨R, 0, none⟩) ∧ pv = .int .i64 P1 ∧ fv = .int .i64 0 ∧ W6.heap.size ≤ R ∧ CBx R n F1 a c b d wx ∧ Below W6.heap.size W6 wx)
  case first =>
    have hbd : Below W6.heap.size W6 W6.drew := (Below.refl _ _).drew
    obtain ⟨hz7, hbz⟩ := box_new W6 #[.int .i64 0, .slice none 0 0, .slice none 0 0] 62
    have hbzd := hbz.drew
    have hzd : (W6.alloc (.cells #[.int .i64 0, .slice none 0 0, .slice none 0 0] 62)).drew.heap[W6.heap.size]? = some (.cells #[.int .i64 0, .slice none 0 0, .slice none 0 0] 62 (0, 0)) := hz7
    have hfW : ∀ W, Below W6.heap.size W6 W → Calls Tryd.prog 54 #[.agg #[.int .i64 n, .slice a6 es.length c6, .slice a7 (corT es n).length c7], .slice av k cv] W (FolP W n F1 P1) :=
      fun W hb => hf2 a6 a7 c6 c7 W (hA6.below hb).q (hc3 W (hr6.below hb)).1 (hT.below (hb6.trans (hb.mono hb6.size)))
    obtain ⟨x0, x1, x2⟩ := cells3 hA6.x
    obtain ⟨p0, p1, p2⟩ := cells3 (hA6.below hbz).x
    clear hf2 hf3 hop2 hc2 hmd hw1 hll hX6
    go_region_law (first
      | (go_simp; go_at_call 54; (with_reducible refine (hfW _ hbd).mono ?_); rintro _ w7 ⟨a8', c8', a9', c9', rfl, hq7, hb7⟩; have hb67 := hbd.trans (hb7.mono hbd.size))
      | (go_simp; go_at_call 54; (with_reducible refine (hfW _ hbzd).mono ?_); rintro _ w7 ⟨a8', c8', a9', c9', rfl, hq7, hb7⟩; have hb67 := hbzd.trans (hb7.mono hbzd.size); have hz9 := lit_next' hb7 hzd; obtain ⟨y0, y1, y2⟩ := cells3 hz9; obtain ⟨f0, f1, f2⟩ := frees3 hz9))
    all_goals
      go_wp2_with fail
      go_meet
      first
        | exact ⟨W6.heap.size, a8', a9', c8', c9', rfl, rfl, rfl, Nat.le_refl _, ⟨set3_at hz9 _ _ _, (hq7.grown (set3_grown w7 W6.heap.size (.int .i64 n) (.slice a8' F1.length c8') (.slice a9' (corT F1 n).length c9')) (fun k e => by cases e; simp)).mono (Nat.zero_le _)⟩, hb67.grown (set3_grown w7 W6.heap.size (.int .i64 n) (.slice a8' F1.length c8') (.slice a9' (corT F1 n).length c9')) hb67.size (fun k e => by cases e; exact Nat.le_refl _)⟩
        | exact ⟨w7.heap.size, a8', a9', c8', c9', rfl, rfl, rfl, hb67.size, CBx.new (hq7.mono (Nat.zero_le _)), hb67.alloc hb67.size _⟩
  case rest =>
  obtain ⟨R, ab, bb, cb, db, rfl, rfl, rfl, hR, hB, hb7⟩ := hcut
  go_upto_region 8 with fail
  go_cut [17, 18] from 56 to 64 (fun qv iv wx => qv = .int .i64 P2 ∧ iv = .int .i64 0 ∧ ∃ (a b : Option Addr) (c d : Nat), CBx R n F a c b d wx ∧ CBx X n F a8 c8 a9 c9 wx ∧ Below w.heap.size w wx)
  case first =>
    have hbd : Below wc.heap.size wc wc.drew := (Below.refl _ _).drew
    have hBd := hB.below hbd
    have hb7d := hb7.trans (hbd.mono hb7.size)
    have hf := hf3 ab bb cb db wc.drew hBd.q (hc3 _ (hr6.below hb7d)).2 (hT.below (hb6.trans (hb7d.mono hb6.size)))
    obtain ⟨x0, x1, x2⟩ := cells3 hB.x
    have hRl : R < wc.heap.size := blk_lt hB.x
    clear hf2 hf3 hop2 hc1 hmd hw1 hll
    go_region_law (first
      | (go_simp; go_at_call 54; (with_reducible refine hf.mono ?_); rintro _ w8 ⟨a10, c10, a11, c11, rfl, hq8, hb8⟩; have hx8 := lit_next' hb8 hBd.x; obtain ⟨y0, y1, y2⟩ := cells3 hx8; obtain ⟨f0, f1, f2⟩ := frees3 hx8))
    all_goals
      have hb78 := hb7d.trans (hb8.mono hb7d.size)
      have hg9 := set3_grown w8 R (.int .i64 n) (.slice a10 F.length c10) (.slice a11 (corT F n).length c11)
      have hB9 : CBx R n F a10 c10 a11 c11 (set3 w8 R (.int .i64 n) (.slice a10 F.length c10) (.slice a11 (corT F n).length c11)) := ⟨set3_at hx8 _ _ _, (hq8.grown hg9 (fun k e => by cases e; exact hRl)).mono (Nat.zero_le _)⟩
      have hX9 := hX6.past hb78 hg9 hR
      have hb9 := (hb6.trans (hb78.mono hb6.size)).grown hg9 (Nat.le_trans hb6.size hb78.size) (fun k e => by cases e; exact Nat.le_trans hb6.size hR)
      go_wp2_with fail
      go_meet
      exact ⟨rfl, rfl, a10, a11, c10, c11, hB9, hX9, hb9⟩
  case rest =>
  obtain ⟨rfl, rfl, a10, a11, c10, c11, hB9, hX9, hb9⟩ := hcut
  clear hB hb7 hR hX6 hA6 hr6 hb6 hf2 hf3 hc1 hc2 hc3 hmd hw1 hll
  obtain ⟨x0, x1, x2⟩ := cells3 hX9.x
  have hv1 : IntKind.i64.wrap (P1 + P2) = P1 + P2 := IntWalk.i64_in _ (by omega)
  go_upto_region 9 with fail
  go_wp2_with fail
  refine (hop2 a8 c8 wc hX9.q.e (hT.below hb9)).mono ?_
  rintro _ w10 ⟨a12, c12, a13, c13, rfl, hq10, hb10⟩
  unfold crN at hq10 ⊢
  dsimp only at hq10 ⊢
  have hE := CBx.new (hq10.mono (Nat.zero_le _))
  have hXn := hX9.below hb10
  have hBn := hB9.below hb10
  have hbn := hb9.trans (hb10.mono hb9.size)
  obtain ⟨W11, hW11⟩ : ∃ W : World, W = w10.alloc (.cells #[.int .i64 n, .slice a12 F.length c12, .slice a13 (corT F n).length c13] 62) := ⟨_, rfl⟩
  have hba : Below w10.heap.size w10 W11 := by rw [hW11]; exact (box_new _ _ _).2
  obtain ⟨E, hEq⟩ : ∃ X, w10.heap.size = X := ⟨_, rfl⟩
  rw [← hW11, hEq] at hE
  have hX11 := hXn.below hba
  have hB11 := hBn.below hba
  have hb11 := hbn.trans (hba.mono hbn.size)
  have HW11 := Lib.hid hW11
  have HE := Lib.hid hEq
  clear hW11 hEq hba hXn hBn hbn hb10 hq10 hX9 hB9 hb9 hop2 x0 x1 x2
  go_upto_region 10 with fail
  rw [← HW11.out, HE.out]
  obtain ⟨x0, x1, x2⟩ := cells3 hX11.x
  obtain ⟨y0, y1, y2⟩ := cells3 hE.x
  go_wp2_with fail
  refine (rsame11_same n a8 a9 a12 a13 c8 c9 c12 c13 F (corT F n) W11 hX11.q.e hX11.q.i hE.q.e hE.q.i).mono ?_
  rintro _ w12 ⟨rfl, hb12⟩
  have hX12 := hX11.below hb12
  have hB12 := hB11.below hb12
  have hbb := hb11.trans (hb12.mono hb11.size)
  clear x0 x1 x2 y0 y1 y2 hX11 hB11 hE hb12 hb11
  obtain ⟨x0, x1, x2⟩ := cells3 hX12.x
  obtain ⟨y0, y1, y2⟩ := cells3 hB12.x
  go_wp2_with fail
  refine (rsame11_same n a8 a9 a10 a11 c8 c9 c10 c11 F (corT F n) w12 hX12.q.e hX12.q.i hB12.q.e hB12.q.i).mono ?_
  rintro _ w13 ⟨rfl, hb13⟩
  have hbc := hbb.trans (hb13.mono hbb.size)
  clear x0 x1 x2 y0 y1 y2 hX12 hB12 hb13 hbb
  go_wp2_with fail
  refine (awake11_any w13 (hT.below hbc)).mono ?_
  rintro _ w14 ⟨rfl, hb14⟩
  go_wp2_with fail
  go_ret
  exact ⟨rfl, hbc.trans (hb14.mono hbc.size)⟩
end Go.Proofs.YtkknknehchnccaaDoor

namespace Go.Proofs.YtkknknehchnccaaDoor.repairScratch
open Go.ChangeShapes Go.WideShapes Go.ChangeAt Go.RowKit

theorem laid_met (os : Os) : laidMet Tryd.prog Rows.repairScratchRow.laid ((tzWorld os).forCall (fun _ _ => 0) ⟨#[], #[.slice none 0 0, .int .i64 0], []⟩).memory :=
  laidMet_of_run' 8 (by kernel_rfl) (by kernel_rfl)
theorem reads (os : Os) {H : Type} (enc : TypeId × Value → H) : ∃ places, DataW.whole enc Tryd.prog ((tzWorld os).forCall (fun _ _ => 0) ⟨#[], #[.slice none 0 0, .int .i64 0], []⟩).memory Tryd.f11.params.toList Rows.repairScratchSpec.vars false #[Value.slice none 0 0, Value.int .i64 0].toList 8 = some ([.nil, .lit (.int .i64 0)], [], places) :=
  ⟨[], by kernel_rfl⟩

set_option maxRecDepth 100000 in
theorem lifted (os : Os) (started : os.Started) (H : Type) (enc : TypeId × Value → H) (F : Stop.Interp) :
    ReturnsInHanded {} Tryd.checked os 11 .any ((OpenSpec.ofChange Rows.repairScratchSpec).preRow enc Tryd.prog Tryd.f11 Rows.repairScratchRow.domain false Rows.repairScratchRow.laid) (((OpenSpec.ofChange Rows.repairScratchSpec).at F).post enc Tryd.prog Tryd.f11 false true false false) := by
  obtain ⟨places, hx⟩ := reads os enc
  refine returnsInHanded_of_row (C := Tryd.checked) (s := OpenSpec.ofChange Rows.repairScratchSpec) ownG started (by kernel_rfl) Tryd.func11
    (witness_row_at (enc := enc) (C := Tryd.checked) false (tzWorld os) #[.slice none 0 0, .int .i64 0] rfl (by kernel_rfl) (by kernel_rfl) (by kernel_rfl)
      (OpenSpec.preRow_of_cond 8 hx (by kernel_rfl) (fun k hk => by cases hk) (by kernel_rfl) (laid_met os))) ?_
  intro W base args ds gs before hval0 hW _ _ _ hL _ _
  have hval : ∀ (j : Nat) t v, Tryd.f11.params[j]? = some t → args[j]? = some v → Value.okWide Tryd.prog W .any base t v := hval0
  have hW' := hW
  obtain ⟨p, q, hA0, hV, rfl, hfz, hnd⟩ := hW
  have hA : DataW.TrodAll enc Tryd.prog W 0 (fun _ => true) true Tryd.f11.params.toList args.toList ds p := hA0
  rw [Tryd.params11] at hA hval
  obtain ⟨v0, vs0, d0, ds0, p0, q0, hargs, rfl, rfl, h0, r0⟩ := trodAll_cons hA
  obtain ⟨v1, vs1, d1, ds1, p1, q1, rfl, rfl, rfl, h1, r1⟩ := trodAll_cons r0
  obtain ⟨rfl, rfl, rfl⟩ := trodAll_nil r1
  obtain rfl : args = #[v0, v1] := by cases args; simp_all
  obtain ⟨rfl, rfl⟩ := trodVars_none hV
  obtain ⟨a0, len0, cap0, rfl⟩ := okWide_slice Tryd.underlying22 (hval 0 22 v0 rfl rfl)
  have k0 := h0
  have lt0 : ∀ x ∈ p0, x.block < W.heap.size := by obtain ⟨m, hm⟩ := k0; exact DataW.trod_lt m _ _ _ hm
  obtain ⟨x1, rfl, rfl, rfl, w1⟩ := open_int Tryd.underlying3 (hval 1 3 v1 rfl rfl) h1
  have b1 : -9223372036854775808 ≤ x1 ∧ x1 ≤ 9223372036854775807 := by have h := w1; simp only [Lit.wf, Bool.and_eq_true, decide_eq_true_eq] at h; exact h
  clear hA0 hval0
  refine (repairScratch_law x1 a0 len0 cap0 W (list_from_trod h0) (tz_of_laid hL)).mono fun e W' ⟨he, bel⟩ => ?_
  subst he
  exact ⟨_, rfl, _, _, _, [], _, [], hW', trodAll_mk1 (shut_bool Tryd.underlying4 _), (trodAll_cons_mk (Below.trod laidOutG (by kernel_rfl) (of_decide_eq_true (by kernel_rfl)) k0 bel lt0) (trodAll_cons_mk (shut_int Tryd.underlying3 w1) trodAll_mk0)), rfl, bel.frame _, fun h => by cases h⟩

theorem said : Rows.RepairScratchSaid :=
  OpenClaim.holds_of_cond 11 Tryd.f11 rfl rfl rfl rfl rfl rfl rfl ⟨rfl, rfl, rfl, rfl, rfl⟩ rfl rfl rfl rfl rfl (by kernel_rfl) Tryd.func11 (by kernel_rfl)
    (of_decide_eq_true (by kernel_rfl)) (by unfold Func.isWrapper; first | (rw [if_pos (by decide +kernel)]; kernel_rfl) | (rw [if_neg (by decide +kernel)]; exact ⟨rfl, rfl⟩))
    (fun os started H enc _ F => by rw [OpenClaim.pre_eq_preRow]; exact lifted os started H enc F)

theorem plain (f : FuncId) (fn : Func) (hf : Tryd.pinned.checked.prog.funcNamed "cohesion/cohesionlaw11.RepairScratch" = some f) (hfn : Tryd.pinned.checked.prog.funcs[f]? = some fn) :
    false = Tryd.pinned.checked.prog.looks [] ∧ ∀ (j : Nat) t, fn.params[j]? = some t → Tryd.pinned.checked.prog.wantsStandIn t = false := by
  obtain rfl : f = 11 := Option.some.inj ((show Tryd.prog.funcNamed "cohesion/cohesionlaw11.RepairScratch" = some 11 by kernel_rfl).symm.trans hf) |>.symm
  obtain rfl : fn = Tryd.f11 := (Option.some.inj (Tryd.func11.symm.trans hfn)).symm
  refine ⟨by kernel_rfl, fun j t ht => ?_⟩
  rw [Tryd.params11] at ht
  have hm := Array.mem_of_getElem? ht
  have ho : t = 22 ∨ t = 3 := by simpa using hm
  rcases ho with rfl | rfl
  · exact (show Tryd.prog.wantsStandIn 22 = false by kernel_rfl)
  · exact (show Tryd.prog.wantsStandIn 3 = false by kernel_rfl)

/-- THE CARD. -/
theorem card : Rows.RepairScratchCardSaid :=
  Claim7.holds_tied_plain_at .later [] _ _ _ _ said (fun _ h => by cases h) (by kernel_rfl) (fun _ h => by cases h) repairScratch_row_tie rfl ⟨rfl, rfl⟩ (by kernel_rfl) rfl plain (by kernel_rfl)
#print axioms card
end Go.Proofs.YtkknknehchnccaaDoor.repairScratch
