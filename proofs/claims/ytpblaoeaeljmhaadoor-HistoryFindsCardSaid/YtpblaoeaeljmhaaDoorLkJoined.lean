/- graph.Together and links.Joined: whether nodes lie in one component. -/
import Derived.Test.YtpblaoeaeljmhaaDoorReach
import Derived.Test.YtpblaoeaeljmhaaDoorLkEdges
import Derived.Deep.RegionHeld3
namespace Go.Proofs.YtpblaoeaeljmhaaDoor
open Go.RowKit Go.BigFrame

/-- whether all of a list can be reached from its first -/
def JoinP (es : List E2) (xs : List Int) : Prop := ∀ x ∈ xs, Rch es (xs.getD 0 0).toNat x.toNat
def JoinPost (es : List E2) (xs : List Int) (w : World) (e : Ending) (w' : World) : Prop := ∃ b : Bool, e = .returned (.bool b) ∧ (b = true ↔ JoinP es xs) ∧ Below w.heap.size w w'
theorem join_bits {es : List E2} {xs : List Int} {F : Nat} (hx : ∀ x ∈ xs, 0 ≤ x ∧ x < 64) (h : ∀ i, F.testBit i = true ↔ Rch es (xs.getD 0 0).toNat i) (hF : F < 18446744073709551616) : (ofN xs &&& (18446744073709551615 - F)) = 0 ↔ JoinP es xs := by
  have hb : ∀ i, (ofN xs &&& (18446744073709551615 - F)).testBit i = (decide (∃ x ∈ xs, x.toNat = i) && (decide (i < 64) && !F.testBit i)) := fun i => by
    have := Nat.testBit_two_pow_sub_succ (x := F) (n := 64) (by simpa using hF) i
    rw [show 2 ^ 64 - (F + 1) = 18446744073709551615 - F by omega] at this
    rw [Nat.testBit_and, ofN_bit, this]
  constructor
  · intro h0 x hxm
    have h1 := hb x.toNat
    rw [h0, Nat.zero_testBit] at h1
    have hlt : x.toNat < 64 := by have := hx x hxm; omega
    cases hf : F.testBit x.toNat with
    | true => exact (h _).1 hf
    | false =>
      rw [hf] at h1
      simp only [hlt, decide_true, Bool.not_false, Bool.and_true, Bool.false_eq] at h1
      have := of_decide_eq_false h1.symm.symm
      exact absurd ⟨x, hxm, rfl⟩ this
  · intro hj
    apply Nat.eq_of_testBit_eq
    intro i
    rw [hb, Nat.zero_testBit]
    by_cases hex : ∃ x ∈ xs, x.toNat = i
    · obtain ⟨x, hxm, rfl⟩ := hex
      rw [(h _).2 (hj x hxm)]
      simp
    · simp [hex]
set_option maxRecDepth 100000 in
set_option maxHeartbeats 3200000 in
theorem together_any (n : Nat) (a a2 : Option Addr) (cap cap2 : Nat) (es : List E2) (xs : List Int) (w : World) (he : EdgesAt w (.slice a es.length cap) es) (hv : Valid n es) (hi : IntsAt w (.slice a2 xs.length cap2) xs) (hx : ∀ x ∈ xs, 0 ≤ x ∧ x < n) (h2 : 2 ≤ xs.length) (hT : TzAt w) :
    Calls Tryd.prog 42 #[.agg #[.int .i64 n, .slice a es.length cap], .slice a2 xs.length cap2] w (JoinPost es xs w) := by
  have hn := hv.2.1
  have hl : xs.length ≤ 70368744177664 := by obtain ⟨_, _, hv, _, _, hl, _⟩ := hi; exact hl
  have b1 := (Below.refl w.heap.size w).alloc (Nat.le_refl _) (.cells #[.int .i64 n, .slice a es.length cap] 79)
  have hG := heap_alloc_new w (.cells #[.int .i64 n, .slice a es.length cap] 79)
  have he1 := he.below b1
  have hi1 := hi.below b1
  have hT1 := hT.below b1
  have hx64 : ∀ x ∈ xs, 0 ≤ x ∧ x < 64 := fun x hxm => by have := hx x hxm; omega
  have hof := mof_any a2 cap2 xs _ hi1 hx64
  obtain ⟨b, off, y, rfl, hy, -, -, c0⟩ := hi1.at 0 (by omega)
  have hy0 : xs.getD 0 0 = y := by rw [List.getD_eq_getElem?_getD, hy]; rfl
  obtain ⟨hyl, hyr⟩ := hx y (List.mem_of_getElem? hy)
  obtain ⟨s, rfl⟩ := Int.eq_ofNat_of_zero_le hyl
  have hs : s < n := by omega
  have hjb := fun F h1 h2 => join_bits (es := es) (xs := xs) (F := F) hx64 h1 h2
  rw [hy0] at hjb
  have hoflt : ofN xs < 18446744073709551616 := by
    have := ofN_lt xs 0 (by decide) (fun x hxm => by have := hx64 x hxm; omega)
    simpa [ofN] using this
  obtain ⟨M, hM⟩ : ∃ M, ofN xs = M := ⟨_, rfl⟩
  rw [hM] at hof hjb hoflt
  have HJB := Lib.hid hjb
  have HV := Lib.hid hv
  obtain ⟨w1, hw1⟩ : ∃ W : World, w.alloc (.cells #[.int .i64 n, .slice a es.length cap] 79) = W := ⟨_, rfl⟩
  rw [hw1] at b1 hG he1 hi1 hT1 hof c0
  have hrows := rows_any n a cap es w1.drew (he1.below (Below.refl _ _).drew) hv
  have hbit := fun W => bit_any s (by omega) W
  have hall := fun W => mall_any n (by omega) W
  obtain ⟨PS, hPS⟩ : ∃ P, 2 ^ s = P := ⟨_, rfl⟩
  obtain ⟨PN, hPN⟩ : ∃ P, 2 ^ n - 1 = P := ⟨_, rfl⟩
  rw [hPS] at hbit
  rw [hPN] at hall
  have HREACH : Hid (∀ (g : Nat) (W : World), W.heap[g]? = some (.cells (rowsV n es).toArray 96 (0, 0)) → TzAt W → Calls Tryd.prog 63 #[.slice (some ⟨g, 0, none⟩) n n, .int .u64 (PS : Int), .int .u64 (PN : Int)] W (ReachPost es s W)) := by
    show ∀ _ _ _ _, _
    rw [← hPS, ← hPN]
    exact fun g W h1 h2 => reach_any n s g n es W hv hs h1 h2
  have hl2 : ¬ (xs.length : Int) < 2 := by omega
  have hl3 : (0 : Int) < xs.length := by omega
  have hl4 : 0 < xs.length := by omega
  have hl5 : (0 : Int) ≤ 0 := Int.le_refl _
  have p0 : w1.cell? ⟨w.heap.size, 0, none⟩ = some (.int .i64 n) := cell_blk (j := 0) hG
  have p1 : w1.cell? ⟨w.heap.size, 1, none⟩ = some (.slice a es.length cap) := cell_blk (j := 1) hG
  rw [Nat.add_zero] at c0
  have hcx : Hid (∀ W, Below w1.heap.size w1 W → W.cell? ⟨w.heap.size, 0, none⟩ = some (.int .i64 n) ∧ W.cell? ⟨w.heap.size, 1, none⟩ = some (.slice a es.length cap) ∧ W.cell? ⟨b, off, none⟩ = some (.int .i64 s)) := by
    show ∀ W, _ → _
    intro W hb
    exact ⟨(hb.cell (p := ⟨w.heap.size, 0, none⟩) (cell_lt p0)).trans p0, (hb.cell (p := ⟨w.heap.size, 1, none⟩) (cell_lt p1)).trans p1, (hb.cell (p := ⟨b, off, none⟩) (cell_lt c0)).trans c0⟩
  have hbd : Below w1.heap.size w1 w1.drew := (Below.refl _ _).drew
  clear hG he1 hi1 hv hy hy0 hyl hyr hx64 hjb hM hPS hPN he hi hT hx p0 p1 c0
  go_enter Tryd.func42, Tryd.ntmps42
  go_upto_region 1 with fail
  try rw [hw1]
  go_wp2_with (go_at_call 62; refine hof.mono ?_; rintro e w' ⟨rfl, rfl⟩)
  clear hw1 hof
  go_region_held3 (fun w' => w'.cell? ⟨w.heap.size, 0, none⟩ = some (.int .i64 n) ∧ w'.cell? ⟨w.heap.size, 1, none⟩ = some (.slice a es.length cap) ∧ w'.cell? ⟨b, off, none⟩ = some (.int .i64 s))
    (first
      | exact hcx.out _ hb5
      | exact hcx.out _ hbd)
    (first
      | (go_at_call 65; (with_reducible refine (hbit _).mono ?_); rintro e w' ⟨rfl, rfl⟩)
      | (go_at_call 66; (with_reducible refine (hall _).mono ?_); rintro e w' ⟨rfl, rfl⟩)
      | (go_at_call 63; (with_reducible refine hre5.mono ?_); rintro e w' ⟨F, rfl, hFlt, hFr, rfl⟩; have a3 := u64_andNot_nat M F hoflt hFlt)
      | (go_at_call 64; (with_reducible refine hrows.mono ?_); rintro e w5 ⟨g, rfl, hg5, hG5, hb5'⟩; have hb5 := hbd.trans (hb5'.mono hbd.size); have hre5 := HREACH.out g w5 hG5 (hT1.below hb5)))
  all_goals
    have hj := HJB.out F (by simpa using hFr) hFlt
    obtain ⟨X, hX⟩ : ∃ X, M &&& (18446744073709551615 - F) = X := ⟨_, rfl⟩
    rw [hX] at hj ⊢
    obtain ⟨bb, hbb⟩ : ∃ bb, ((X : Int) == 0) = bb := ⟨_, rfl⟩
    rw [hbb]
    have HB : Hid (bb = true ↔ JoinP es xs) := (show _ ↔ _ by rw [← hj, ← hbb]; simp)
    clear hj hX hbb a3 hFr hre5
    go_wp2_with fail
    go_ret
    exact ⟨bb, rfl, HB.out, b1.trans (hb5.mono b1.size)⟩
set_option maxRecDepth 100000 in
set_option maxHeartbeats 1600000 in
theorem ljoined_any (n : Nat) (a a2 : Option Addr) (cap cap2 : Nat) (ls : List Lk) (xs : List Int) (w : World) (hl : RowAt encLk w (.slice a ls.length cap) ls) (hS : VSt n ls) (hi : IntsAt w (.slice a2 xs.length cap2) xs) (hx : ∀ x ∈ xs, 0 ≤ x ∧ x < n) (h2 : 2 ≤ xs.length) (hT : TzAt w) :
    Calls Tryd.prog 28 #[.agg #[.int .i64 n, .slice a ls.length cap], .slice a2 xs.length cap2] w (JoinPost (edgesL ls) xs w) := by
  have b1 := (Below.refl w.heap.size w).alloc (Nat.le_refl _) (.cells #[.int .i64 n, .slice a ls.length cap] 53)
  have hG := heap_alloc_new w (.cells #[.int .i64 n, .slice a ls.length cap] 53)
  have hed := ledges_any n ls a cap _ (hl.below b1)
  have hi1 := hi.below b1
  have hT1 := hT.below b1
  have hv := hS.valid
  have htg := fun (a : Option Addr) (W : World) (c : Nat) (h1 : EdgesAt W (.slice a (edgesL ls).length c) (edgesL ls)) h2' h3 => together_any n a a2 c cap2 (edgesL ls) xs W h1 hv h2' hx h2 h3
  have HTG := Lib.hid htg
  have p0 := cell_blk (j := 0) hG
  have p1 := cell_blk (j := 1) hG
  unfold EdPost at hed
  obtain ⟨E, hE⟩ : ∃ E, edgesL ls = E := ⟨_, rfl⟩
  rw [hE] at hed HTG ⊢
  clear htg hv hi hT hl hS hx h2 hE
  go_enter Tryd.func28, Tryd.ntmps28
  go_wp2_with fail
  refine hed.mono ?_
  rintro _ w2 ⟨a1, c1, rfl, he2, -, hb2⟩
  have htg := HTG.out a1 w2 c1 he2 (hi1.below hb2) (hT1.below hb2)
  have hb02 := b1.trans (hb2.mono b1.size)
  clear hed p0 p1 hG
  go_wp2_with fail
  refine htg.mono ?_
  rintro _ w3 ⟨bb, rfl, hbb, hb3⟩
  have HB := Lib.hid hbb
  clear hbb htg HTG
  go_wp2_with fail
  go_ret
  exact ⟨bb, rfl, HB.out, hb02.trans (hb3.mono hb02.size)⟩
end Go.Proofs.YtpblaoeaeljmhaaDoor
