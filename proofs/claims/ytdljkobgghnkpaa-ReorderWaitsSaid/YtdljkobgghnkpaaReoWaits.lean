/- The walk of the law on what waits. -/
import Derived.Test.YtdljkobgghnkpaaReoAwake
import Derived.Test.YtdljkobgghnkpaaMkMixed
namespace Go.Proofs.Ytdljkobgghnkpaa
open Go.RowKit Go.BigFrame

/-- what a push leaves -/
theorem push_waits {b : Buf} {k : Int} (h : bufB b = true) (hk : b.bound = k) (hm : b.mark = max (-1) (b.latest - k - 1)) (e : Ev) :
    (pushS b e).1.bound = k ∧ (pushS b e).1.latest = (if (pushS b e).2.2 = 0 then max b.latest e.time else b.latest) ∧ (pushS b e).1.mark = max (-1) ((pushS b e).1.latest - k - 1) := by
  unfold pushS
  rw [if_neg (by rw [h]; simp)]
  split
  · rename_i he; exact ⟨hk, rfl, hm⟩
  · split
    · exact ⟨hk, rfl, hm⟩
    · split
      · exact ⟨hk, rfl, hm⟩
      · refine ⟨hk, rfl, ?_⟩
        dsimp only [relS]
        omega
structure WaitR (w : World) (B : Nat) (k : Int) (l : List Ev) (vl : Value) (buf : Buf) (ab : Option Addr) (cb : Nat) (wr : World) : Prop where
  bel : Below w.heap.size w wr
  hB : w.heap.size ≤ B
  off : 0 < l.length → Off B vl
  rowl : RowAt encEv wr vl l
  val : bufB buf = true
  bd : buf.bound = k
  mrk : buf.mark = max (-1) (buf.latest - k - 1)
  box : wr.heap[B]? = some (.cells #[.int .i64 buf.bound, .int .i64 buf.latest, .int .i64 buf.mark, .slice ab buf.wait.length cb] 24 (0, 0))
  row : RowAt encEv wr (.slice ab buf.wait.length cb) buf.wait
theorem buf_bounds {b : Buf} (h : bufB b = true) : 0 ≤ b.bound ∧ b.bound ≤ 1048576 ∧ -1 ≤ b.mark ∧ b.mark ≤ b.latest ∧ b.latest ≤ 1048576 ∧ b.wait.length ≤ 4096 ∧ ∀ x ∈ b.wait, b.mark < x.time ∧ x.time ≤ b.latest := by
  unfold bufB at h
  rw [Bool.and_eq_true] at h
  obtain ⟨hh, hv⟩ := h
  simp only [bufH, Bool.and_eq_true, decide_eq_true_eq] at hh
  obtain ⟨h1, h2, h3, h4, h5, h6⟩ := hh
  refine ⟨h1, h2, h3, h4, h5, h6, fun x hx => ?_⟩
  have := (vld_up _ _ _ hv).2 x hx
  omega
set_option maxRecDepth 100000 in
set_option maxHeartbeats 6400000 in
theorem waits_law (a : Option Addr) (len cap : Nat) (x : Int) (w : World) (hl : ListAt w a len) :
    Calls Try.prog 6 #[.slice a len cap, .int .i64 x] w fun e w' => e = .returned (.bool true) ∧ Below w.heap.size w w' := by
  have hkb := modS_bd x 6 (by omega)
  have hmod := fun w => mod_any x 6 w (by omega) (by omega)
  obtain ⟨k, hk⟩ : ∃ k, modS x 6 = k := ⟨_, rfl⟩
  rw [hk] at hkb hmod
  have hop := open_any k
  have hov := open_valid k
  have hO : openS k = (⟨k, -1, -1, []⟩, 0) := by unfold openS; rw [if_neg (by omega)]
  rw [hO] at hop hov
  unfold BufV at hop
  dsimp only at hop hov
  have hov2 : bufB ⟨k, -1, -1, []⟩ = true := hov (by first | rfl | trivial)
  clear hov hO hk
  have hdk := deck_new (cap := cap) hl
  have hb1 : Below w.heap.size w (w.alloc (.cells #[.slice a len cap, .int .i64 0] 50)) := (Below.refl _ _).alloc (Nat.le_refl _) _
  go_enter Try.func6, Try.ntmps6
  go_wp2_with (first
    | (go_at_call 8; refine (new_any _ _ _ _).mono ?_; rintro e w' ⟨rfl, rfl⟩)
    | (go_at_call 23; refine (hmod _).mono ?_; rintro e w' ⟨rfl, rfl⟩))
  refine (hop _).mono ?_
  rintro e w1 ⟨rfl, hbo⟩
  have hd1 := hdk.kept (grown_of_below hbo) (fun _ h => by cases h)
  have hb2 := hb1.trans (hbo.mono hb1.size)
  have hd2 := hd1.alloc (.cells #[.int .i64 k, .int .i64 (-1), .int .i64 (-1), .slice none 0 0] 24)
  have hb3 := hb2.alloc hb2.size (.cells #[.int .i64 k, .int .i64 (-1), .int .i64 (-1), .slice none 0 0] 24)
  have hX := heap_alloc_new w1 (.cells #[.int .i64 k, .int .i64 (-1), .int .i64 (-1), .slice none 0 0] 24)
  have hdl := hd1.lt
  clear hop hdk hb1 hbo
  go_wp2_with fail
  refine (mixed_any w.heap.size 6 15 _ hd2 (by omega) (by omega) (by omega) (by omega)).mono ?_
  rintro e w2 ⟨a2, cap2, l, rfl, hr2, hl2, hlen, hd2', hg2, hn2⟩
  have hS0 : WaitR w w1.heap.size k l (.slice a2 l.length cap2) ⟨k, -1, -1, []⟩ none 0 w2 :=
    ⟨hb3.grown hg2 hb3.size (fun g e => by cases e; exact Nat.le_refl _), hb2.size, fun _ n c p e => by cases e; have := hn2 p rfl; simp at this; omega, hr2, hov2, rfl, by dsimp only; omega, grown_blk hg2 hX (by intro e; have := Option.some.inj e; omega), RowAt.nil _⟩
  have HL := Lib.hid hl2
  clear hl2 hr2 hd1 hd2 hb2 hb3 hX hg2 hd2' hov2
  go_wp2_with fail
  go_loopw [31, 9] (fun i vt wr => ∃ j : Nat, j ≤ l.length ∧ i = .int .i64 j ∧ ∃ (buf : Buf) (ab : Option Addr) (cb : Nat), vt = .int .i64 buf.latest ∧ WaitR w w1.heap.size k l (.slice a2 l.length cap2) buf ab cb wr) (fun i _ _ => l.length - (intOf i).toNat)
  case atStart => exact ⟨0, Nat.zero_le _, rfl, _, none, 0, rfl, hS0⟩
  case round =>
    clear hS0
    obtain ⟨j, hj, rfl, buf, ab, cb, rfl, hS⟩ := hrel
    obtain ⟨g0, g1, g2, g3⟩ := cells4 hS.box
    have hzB := blk_lt hS.box
    by_cases hlt : j < l.length
    · obtain ⟨bb, off, y, rfl, hy, hcap, e0, e1, e2, e3, e4, e5, e6⟩ := ev_at hS.rowl j hlt
      have hbnd := buf_bounds hS.val
      have hwl := hbnd.2.2.2.2.2.1
      obtain ⟨P, hP⟩ : ∃ P, pushS buf y = P := ⟨_, rfl⟩
      have hpv := push_valid hS.val y
      have hpw := push_waits hS.val hS.bd hS.mrk y
      have hcall := fun W h => push_any buf y ab cb W h (by omega)
      have hty := evS_time (HL.out y (List.mem_of_getElem? hy))
      rw [hP] at hpv hpw hcall
      unfold PushPost BufV Ev.cells at hcall
      obtain ⟨q, po, pe⟩ := P
      dsimp only at hpv hpw hcall
      obtain ⟨hq1, hq2, hq3⟩ := hpw
      have hqb := buf_bounds hpv
      have hcx := hcall (wr.alloc (.cells #[.int .i64 y.kind, .int .i64 y.time, .int .i64 y.u, .int .i64 y.v, .int .i64 y.weight, .int .i64 y.label, .int .i64 y.sign] 26)) (hS.row.below ((Below.refl _ _).alloc (Nat.le_refl _) _))
      have HPV := Lib.hid hpv
      have HQ := Lib.hid hqb.2.2.2.2.2.2
      clear hP hcall hpv hy
      go_wp2_with fail
      refine hcx.mono ?_
      rintro e w3 ⟨a1, c1, a2', c2, rfl, hr1, hr2, hb3, hn1, hn2'⟩
      have hb13 : Below wr.heap.size wr w3 := ((Below.refl _ _).alloc (Nat.le_refl _) _).trans (hb3.mono (by simp))
      have hE3 := lit_next hb3 (heap_alloc_new wr (.cells #[.int .i64 y.kind, .int .i64 y.time, .int .i64 y.u, .int .i64 y.v, .int .i64 y.weight, .int .i64 y.label, .int .i64 y.sign] 26))
      have hE4 := (Below.heap_alloc w3 (.cells #[.int .i64 q.bound, .int .i64 q.latest, .int .i64 q.mark, .slice a1 q.wait.length c1] 24) _ (blk_lt hE3)).trans hE3
      have hC4 := heap_alloc_new w3 (.cells #[.int .i64 q.bound, .int .i64 q.latest, .int .i64 q.mark, .slice a1 q.wait.length c1] 24)
      have hb14 := hb13.alloc hb13.size (.cells #[.int .i64 q.bound, .int .i64 q.latest, .int .i64 q.mark, .slice a1 q.wait.length c1] 24)
      have hr4 := hr1.below ((Below.refl _ _).alloc (Nat.le_refl _) (.cells #[.int .i64 q.bound, .int .i64 q.latest, .int .i64 q.mark, .slice a1 q.wait.length c1] 24))
      have hz3 := blk_lt hE3
      clear hr1 hr2 hE3 hcx e0 e1 e2 e3 e4 e5 e6 g0 g1 g2 g3 hb3 hn2'
      obtain ⟨L, hL⟩ : ∃ L, L = (if pe = 0 then max buf.latest y.time else buf.latest) := ⟨_, rfl⟩
      have hqL : q.latest = L := by rw [hq2, hL]
      have d1 : (q.latest != L) = false := by simp [hqL]
      have d2 : (q.mark != max (-1) (L - k - 1)) = false := by rw [hq3, hqL]; simp
      have v1 : IntKind.i64.wrap (L - k) = L - k := IntWalk.i64_in _ (by omega)
      have v2 : IntKind.i64.wrap (L - k - 1) = L - k - 1 := IntWalk.i64_in _ (by omega)
      have hql := hqb.2.2.2.2.2.1
      have HB := Lib.hid hq1
      have HM := Lib.hid hq3
      have HQL := Lib.hid hqL
      have hLb : -1 ≤ L ∧ L ≤ 1048576 := by omega
      have p1 : (w3.alloc (.cells #[.int .i64 q.bound, .int .i64 q.latest, .int .i64 q.mark, .slice a1 q.wait.length c1] 24)).cell? ⟨wr.heap.size, 1, none⟩ = some (.int .i64 y.time) := by rw [cell_blk hE4]; rfl
      obtain ⟨s0, s1, s2, s3⟩ := cells4 hC4
      by_cases hpe : pe = 0
      case' pos =>
        rw [if_pos hpe] at hL
        subst hpe
        rw [hL] at d1 d2 v1 v2
        have HLL := Lib.hid (show max buf.latest y.time = q.latest by rw [hqL, hL])
        clear hq1 hq2 hq3 hqL hL hqb
        go_wp2_with fail
        generalize max buf.latest y.time = MX at HLL ⊢
      case' neg =>
        rw [if_neg hpe] at hL
        rw [hL] at d1 d2 v1 v2
        have HLL := Lib.hid (show buf.latest = q.latest by rw [hqL, hL])
        have d3 : (pe == 0) = false := by simpa using hpe
        clear hq1 hq2 hq3 hqL hL hqb
        go_wp2_with fail
        generalize buf.latest = MX at HLL ⊢
      all_goals
        clear d1 d2 v1 v2 p1 s0 s1 s2 s3
        refine (valid_any q a1 c1 _ hr4).mono ?_
        rintro e w5 ⟨rfl, hb5⟩
        rw [HPV.out]
        have hr5 := hr4.below hb5
        have hC5 := lit_next hb5 hC4
        have hb15 := hb14.trans (hb5.mono hb14.size)
        obtain ⟨s0, s1, s2, s3⟩ := cells4 hC5
        have hz5 := blk_lt hC5
        clear hr4 hC4 hE4 hb5 hb14 hb13
        go_wp2_with fail
        go_loopw [70] (fun i wi => ∃ m : Nat, m ≤ q.wait.length ∧ i = .int .i64 m ∧ Below w5.heap.size w5 wi) (fun i _ => q.wait.length - (intOf i).toNat)
        case atStart => exact ⟨0, Nat.zero_le _, rfl, Below.refl _ _⟩
        case round =>
          clear s0 s1 s2 s3
          obtain ⟨m, hm, rfl, hbi⟩ := hrel
          have hCi := lit_next hbi hC5
          obtain ⟨s0, s1, s2, s3⟩ := cells4 hCi
          have hzi := blk_lt hCi
          by_cases hlt2 : m < q.wait.length
          · obtain ⟨zb, zo, z, rfl, hz, hzc, f0, f1, f2, f3, f4, f5, f6⟩ := ev_at (hr5.below hbi) m hlt2
            have hQ := HQ.out z (List.mem_of_getElem? hz)
            have e1 : decide (z.time ≤ q.mark) = false := by simp; omega
            have e2 : decide (MX < z.time) = false := by rw [HLL.out]; simp; omega
            clear hQ hz
            go_wp2_with fail
            go_roundw
            case rel => exact ⟨m + 1, by omega, by go_num, hbi.alloc hbi.size _⟩
            case measure => simp [intOf]; omega
          · obtain rfl : m = q.wait.length := by omega
            have hball := hb15.trans (hbi.mono hb15.size)
            have hBi := lit_next hball hS.box
            obtain ⟨b0, b1, b2, b3⟩ := cells4 hBi
            have fB : ∀ j, wr.frozen? ⟨w1.heap.size, j, none⟩ = false := fun j => free_blk hBi
            go_wp2_with fail
            go_roundw
            case rel =>
              have hB := hS.hB
              have hoA : 0 < q.wait.length → Off w1.heap.size (.slice a1 q.wait.length c1) := fun _ n c p e => by cases e; have := hn1 p rfl; simp at this; omega
              refine ⟨j + 1, by omega, by go_num, q, a1, c1, by rw [HLL.out], ⟨?_, hB, hS.off, ?_, HPV.out, HB.out, HM.out, set_four hBi, ?_⟩⟩
              · exact ((((hS.bel.trans (hball.mono hS.bel.size)).setCell (p := ⟨_, 0, none⟩) hB _).setCell (p := ⟨_, 1, none⟩) hB _).setCell (p := ⟨_, 2, none⟩) hB _).setCell (p := ⟨_, 3, none⟩) hB _
              · exact ((((hS.rowl.below hball).set_off hS.off).set_off hS.off).set_off hS.off).set_off hS.off
              · exact ((((hr5.below hbi).set_off hoA).set_off hoA).set_off hoA).set_off hoA
            case measure => simp [intOf]; omega
    · obtain rfl : j = l.length := by omega
      go_wp2_with fail
      refine (awake_any _).mono ?_
      rintro e w3 ⟨rfl, hb3⟩
      go_wp2_with fail
      go_ret
      exact ⟨rfl, hS.bel.trans (hb3.mono hS.bel.size)⟩
end Go.Proofs.Ytdljkobgghnkpaa
