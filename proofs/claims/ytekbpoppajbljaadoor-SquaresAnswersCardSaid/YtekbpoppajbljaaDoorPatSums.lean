/- The program's sums over sets of four nodes. -/
import Derived.Test.YtekbpoppajbljaaDoorPatOf
namespace Go.Proofs.YtekbpoppajbljaaDoor
open Go.RowKit Go.BigFrame

/-- how often each kind occurs -/
def cntV (K : List Int) : List Int := (List.range 11).map fun (k : Nat) => ((K.filter (fun x => x == (k : Int))).length : Int)
theorem cntV_length (K : List Int) : (cntV K).length = 11 := by simp [cntV]
theorem cntV_get (K : List Int) (k : Nat) (hk : k < 11) : (cntV K)[k]? = some ((K.filter (fun x => x == (k : Int))).length : Int) := by simp [cntV, hk]
theorem cntV_snoc (K : List Int) (k : Nat) (hk : k < 11) : cntV (K ++ [(k : Int)]) = (cntV K).set k (((K.filter (fun x => x == (k : Int))).length : Int) + 1) := by
  apply List.ext_getElem?
  intro j
  by_cases hj : j < 11
  · rw [cntV_get _ j hj, List.getElem?_set, cntV_get _ j hj, cntV_length]
    by_cases h : k = j
    · subst h; simp [hk]
    · rw [if_neg h]
      have : ((k : Int) == (j : Int)) = false := by simp; omega
      simp [List.filter_append, this]
  · rw [List.getElem?_eq_none (by rw [cntV_length]; omega), List.getElem?_eq_none (by rw [List.length_set, cntV_length]; omega)]

theorem kindS_bd : ∀ m : Nat, m < 64 → 0 ≤ kindS m ∧ kindS m < 11 := by decide +kernel
theorem ofKS_bd (es : List E2) (a b c d : Nat) : 0 ≤ ofKS es a b c d ∧ ofKS es a b c d < 11 := kindS_bd _ (maskF_lt _ 6)

section
variable (es : List E2) (φ : Nat → Nat → Nat → Nat → Bool)
/-- the kinds of the sets so far -/
def kD (a b c d : Nat) : List Int := (List.range d).flatMap fun x => if φ x c b a then [ofKS es x c b a] else []
def kC (a b c : Nat) : List Int := (List.range c).flatMap fun x => kD es φ a b x x
def kB (a b : Nat) : List Int := (List.range b).flatMap fun x => kC es φ a x x
def kA (a : Nat) : List Int := (List.range a).flatMap fun x => kB es φ x x
theorem kD_succ (a b c d : Nat) : kD es φ a b c (d + 1) = kD es φ a b c d ++ if φ d c b a then [ofKS es d c b a] else [] := by simp [kD, List.range_succ]
theorem kC_succ (a b c : Nat) : kC es φ a b (c + 1) = kC es φ a b c ++ kD es φ a b c c := by simp [kC, List.range_succ]
theorem kB_succ (a b : Nat) : kB es φ a (b + 1) = kB es φ a b ++ kC es φ a b b := by simp [kB, List.range_succ]
theorem kA_succ (a : Nat) : kA es φ (a + 1) = kA es φ a ++ kB es φ a a := by simp [kA, List.range_succ]
theorem flat_le {α : Type} (f : Nat → List α) (B : Nat) : ∀ n, (∀ x, x < n → (f x).length ≤ B) → ((List.range n).flatMap f).length ≤ n * B := by
  intro n
  induction n with
  | zero => intro _; simp
  | succ n ih =>
    intro h
    have := ih (fun x hx => h x (by omega))
    have := h n (by omega)
    rw [List.range_succ, List.flatMap_append, List.length_append, Nat.succ_mul]
    simp only [List.flatMap_cons, List.flatMap_nil, List.append_nil]
    omega
theorem kD_le (a b c d : Nat) (hd : d ≤ 64) : (kD es φ a b c d).length ≤ 64 := by
  have := flat_le (fun x => if φ x c b a then [ofKS es x c b a] else []) 1 d (fun x _ => by split <;> simp)
  unfold kD; omega
theorem kC_le (a b c : Nat) (hc : c ≤ 64) : (kC es φ a b c).length ≤ 4096 := by
  have := flat_le (fun x => kD es φ a b x x) 64 c (fun x hx => kD_le es φ a b x x (by omega))
  have : c * 64 ≤ 4096 := by omega
  unfold kC; omega
theorem kB_le (a b : Nat) (hb : b ≤ 64) : (kB es φ a b).length ≤ 262144 := by
  have := flat_le (fun x => kC es φ a x x) 4096 b (fun x hx => kC_le es φ a x x (by omega))
  have : b * 4096 ≤ 262144 := by omega
  unfold kB; omega
theorem kA_le (a : Nat) (ha : a ≤ 64) : (kA es φ a).length ≤ 16777216 := by
  have := flat_le (fun x => kB es φ x x) 262144 a (fun x hx => kB_le es φ x x (by omega))
  have : a * 262144 ≤ 16777216 := by omega
  unfold kA; omega
/-- all kinds up to a place in the four loops -/
def kT (a b c d : Nat) : List Int := kA es φ a ++ kB es φ a b ++ kC es φ a b c ++ kD es φ a b c d
theorem kT_le (a b c d : Nat) (ha : a ≤ 64) (hb : b ≤ 64) (hc : c ≤ 64) (hd : d ≤ 64) : (kT es φ a b c d).length ≤ 33554432 := by
  have := kA_le es φ a ha; have := kB_le es φ a b hb; have := kC_le es φ a b c hc; have := kD_le es φ a b c d hd
  unfold kT; simp only [List.length_append]; omega
theorem kT_zero : kT es φ 0 0 0 0 = [] := rfl
theorem kT_d (a b c d : Nat) : kT es φ a b c (d + 1) = kT es φ a b c d ++ if φ d c b a then [ofKS es d c b a] else [] := by unfold kT; rw [kD_succ, ← List.append_assoc]
theorem kT_c (a b c : Nat) : kT es φ a b (c + 1) 0 = kT es φ a b c c := by unfold kT; rw [kC_succ]; simp [kD]
theorem kT_b (a b : Nat) : kT es φ a (b + 1) 0 0 = kT es φ a b b 0 := by unfold kT; rw [kB_succ]; simp [kC, kD]
theorem kT_a (a : Nat) : kT es φ (a + 1) 0 0 0 = kT es φ a a 0 0 := by unfold kT; rw [kA_succ]; simp [kB, kC, kD]
end

/-- the counts in block g -/
def CntAt (w : World) (g : Nat) (K : List Int) : Prop := w.heap[g]? = some (.cells (intsV (cntV K)).toArray 3 (0, 0))
theorem CntAt.cell {w : World} {g : Nat} {K : List Int} (h : CntAt w g K) (k : Nat) (hk : k < 11) : w.cell? ⟨g, k, none⟩ = some (.int .i64 ((K.filter (fun x => x == (k : Int))).length : Int)) := by
  rw [cell_blk h]; simp [intsV, cntV_get K k hk]
theorem CntAt.step {w : World} {g : Nat} {K : List Int} (h : CntAt w g K) (k : Nat) (hk : k < 11) : CntAt (w.setCell ⟨g, k, none⟩ (.int .i64 (((K.filter (fun x => x == (k : Int))).length : Int) + 1))) g (K ++ [(k : Int)]) := by
  unfold CntAt
  rw [heap_setCell_same _ _ _ _ _ _ h, cntV_snoc K k hk]
  simp [intsV, List.map_set]

theorem CntAt.below {w w' : World} {g : Nat} {K : List Int} (h : CntAt w g K) (hb : Below w.heap.size w w') : CntAt w' g K := (hb.block g (blk_lt h)).trans h
theorem TableAt.below {w w' : World} {g : Nat} {es : List E2} (h : TableAt w g es) (hb : Below w.heap.size w w') : TableAt w' g es := by
  obtain ⟨cs, h1, h2⟩ := h
  exact ⟨cs, (hb.block g (blk_lt h1)).trans h1, h2⟩
theorem TableAt.set {w : World} {g g' j : Nat} {es : List E2} {v : Value} (h : TableAt w g es) (hne : g ≠ g') : TableAt (w.setCell ⟨g', j, none⟩ v) g es := by
  obtain ⟨cs, h1, h2⟩ := h
  exact ⟨cs, (Below.heap_setCell _ _ _ _ hne).trans h1, h2⟩
theorem cnt_bd (K : List Int) (k : Nat) : (0 : Int) ≤ ((K.filter (fun x => x == (k : Int))).length : Int) ∧ ((K.filter (fun x => x == (k : Int))).length : Int) ≤ K.length := by
  have := List.length_filter_le (fun x => x == (k : Int)) K
  omega
theorem CntAt.ints {w : World} {g : Nat} {K : List Int} (h : CntAt w g K) : IntsAt w (.slice (some ⟨g, 0, none⟩) (cntV K).length 11) (cntV K) := by
  refine ⟨_, 11, rfl, by simp [cntV_length], (fun e => by cases e), by simp [cntV_length], fun i x hi => ⟨g, 0, rfl, ?_⟩⟩
  rw [cell_blk h, Nat.zero_add]
  simp [intsV, hi]

theorem ind1_any (v1 v2 v3 v4 : Int) (w : World) : Calls Tryd.prog 55 #[.agg #[.int .i64 v1, .int .i64 v2, .int .i64 v3, .int .i64 v4]] w fun e w' => e = .returned (.bool true) ∧ Below w.heap.size w w' := by
  go_enter Tryd.func55, Tryd.ntmps55
  go_wp2
  go_ret
  exact ⟨rfl, (Below.refl _ _).alloc (Nat.le_refl _) _⟩

theorem make11 : ∀ w, (Instr.makeSlice 22 (.int .i64 11) (.int .i64 11)).run Tryd.prog w = .ok (.slice (some ⟨w.heap.size, 0, none⟩) 11 11) (w.alloc (.cells (intsV (cntV [])).toArray 3)) := fun _ => by kernel_rfl

set_option maxRecDepth 100000 in
set_option maxHeartbeats 1600000 in
theorem sums_all (n : Nat) (a : Option Addr) (cap : Nat) (es : List E2) (w : World) (he : EdgesAt w (.slice a es.length cap) es) (hv : Valid n es) (ht : TabsAt w) :
    Calls Tryd.prog 54 #[.agg #[.int .i64 n, .slice a es.length cap], .func (.func 55) #[] #[]] w (IntsPost w (cntV (kA es (fun _ _ _ _ => true) n))) := by
  have hn : n ≤ 64 := by have := hv.2.1; omega
  go_enter Tryd.func54, Tryd.ntmps54
  go_wp2_with fail
  refine (joined_any n a cap es _ (he.below ((Below.refl _ _).alloc (Nat.le_refl _) _)) hv).mono ?_
  rintro e w1 ⟨g, rfl, hT, hgw, hb1⟩
  have b0 : w1.cell? ⟨w.heap.size, 0, none⟩ = some (.int .i64 n) := (hb1.cell (p := ⟨w.heap.size, 0, none⟩) (by simp)).trans (cell_blk (heap_alloc_new _ _))
  have hbw : Below w.heap.size w w1 := ((Below.refl _ _).alloc (Nat.le_refl _) _).trans (hb1.mono (by simp))
  have ht1 := ht.below hbw
  clear hb1
  have hmk := make11
  have hzw : w.heap.size < w1.heap.size := cell_lt b0
  go_wp2_with fail
  clear hmk
  have hgz := hgw
  have hC0 : CntAt (w1.alloc (.cells (intsV (cntV [])).toArray 3)) w1.heap.size (kT es (fun _ _ _ _ => true) 0 0 0 0) := heap_alloc_new _ _
  have hb0 : Below w.heap.size w (w1.alloc (.cells (intsV (cntV [])).toArray 3)) := hbw.alloc hbw.size _
  have hT0 : TableAt (w1.alloc (.cells (intsV (cntV [])).toArray 3)) g es := by
    obtain ⟨cs, h1, h2⟩ := hT
    exact ⟨cs, (Below.heap_alloc _ _ _ (blk_lt h1)).trans h1, h2⟩
  have hgl : g < w1.heap.size := by obtain ⟨cs, h1, h2⟩ := hT; exact blk_lt h1
  go_loopw [17] (fun i wr => ∃ a : Nat, a ≤ n ∧ i = .int .i64 a ∧ Below w.heap.size w wr ∧ TableAt wr g es ∧ CntAt wr w1.heap.size (kT es (fun _ _ _ _ => true) a 0 0 0)) (fun i _ => n - (intOf i).toNat)
  case atStart => exact ⟨0, by omega, rfl, hb0, hT0, hC0⟩
  case round =>
    clear hC0 hb0 hT0 hT ht1 hbw
    obtain ⟨a', hka, rfl, hb, hT, hC⟩ := hrel
    by_cases hlt : a' < n
    · go_wp2_with fail
      obtain ⟨wo, rfl⟩ : ∃ wo : World, wo = wr := ⟨_, rfl⟩
      go_loopw [21] (fun i wr => ∃ b : Nat, b ≤ a' ∧ i = .int .i64 b ∧ Below w.heap.size w wr ∧ TableAt wr g es ∧ CntAt wr w1.heap.size (kT es (fun _ _ _ _ => true) a' b 0 0)) (fun i _ => a' - (intOf i).toNat)
      case atStart => exact ⟨0, by omega, rfl, hb, hT, hC⟩
      case round =>
        clear hb hT hC
        obtain ⟨b', hkb, rfl, hb, hT, hC⟩ := hrel
        by_cases hltb : b' < a'
        · go_wp2_with fail
          obtain ⟨wo, rfl⟩ : ∃ wo : World, wo = wr := ⟨_, rfl⟩
          go_loopw [25] (fun i wr => ∃ c : Nat, c ≤ b' ∧ i = .int .i64 c ∧ Below w.heap.size w wr ∧ TableAt wr g es ∧ CntAt wr w1.heap.size (kT es (fun _ _ _ _ => true) a' b' c 0)) (fun i _ => b' - (intOf i).toNat)
          case atStart => exact ⟨0, by omega, rfl, hb, hT, hC⟩
          case round =>
            clear hb hT hC
            obtain ⟨c', hkc, rfl, hb, hT, hC⟩ := hrel
            by_cases hltc : c' < b'
            · go_wp2_with fail
              obtain ⟨wo, rfl⟩ : ∃ wo : World, wo = wr := ⟨_, rfl⟩
              go_loopw [29] (fun i wr => ∃ d : Nat, d ≤ c' ∧ i = .int .i64 d ∧ Below w.heap.size w wr ∧ TableAt wr g es ∧ CntAt wr w1.heap.size (kT es (fun _ _ _ _ => true) a' b' c' d)) (fun i _ => c' - (intOf i).toNat)
              case atStart => exact ⟨0, by omega, rfl, hb, hT, hC⟩
              case round =>
                clear hb hT hC
                obtain ⟨d', hkd, rfl, hb, hT, hC⟩ := hrel
                by_cases hltd : d' < c'
                · go_wp2_with fail
                  refine (ind1_any _ _ _ _ _).mono ?_
                  rintro e w2 ⟨rfl, hb2⟩
                  have hb02 : Below wr.heap.size wr w2 := ((Below.refl _ _).alloc (Nat.le_refl _) _).trans (hb2.mono (by simp))
                  have s0 := (hb2.cell (p := ⟨wr.heap.size, 0, none⟩) (by simp)).trans (cell_fresh wr _ _ 0 _ rfl)
                  have s1 := (hb2.cell (p := ⟨wr.heap.size, 1, none⟩) (by simp)).trans (cell_fresh wr _ _ 1 _ rfl)
                  have s2 := (hb2.cell (p := ⟨wr.heap.size, 2, none⟩) (by simp)).trans (cell_fresh wr _ _ 2 _ rfl)
                  have s3 := (hb2.cell (p := ⟨wr.heap.size, 3, none⟩) (by simp)).trans (cell_fresh wr _ _ 3 _ rfl)
                  have hbw2 := hb.trans (hb02.mono hb.size)
                  obtain ⟨κ, hκ⟩ := Int.eq_ofNat_of_zero_le (ofKS_bd es d' c' b' a').1
                  have hk11 : κ < 11 := by have := (ofKS_bd es d' c' b' a').2; omega
                  have HK := Lib.hid hκ
                  have hsz2 := hb02.size
                  clear hκ hb2
                  go_wp2_with fail
                  refine (of4_any g es d' c' b' a' _ (by omega) (by omega) (by omega) (by omega) (ht.below hbw2) (hT.below hb02)).mono ?_
                  rintro e w3 ⟨rfl, hb3⟩
                  rw [HK.out]
                  have hb03 := hb02.trans (hb3.mono hb02.size)
                  have hC3 := hC.below hb03
                  have hT3 := hT.below hb03
                  have r0 := hC3.cell κ hk11
                  have r1 : w3.frozen? ⟨w1.heap.size, κ, none⟩ = false := free_blk hC3
                  have hcb := cnt_bd (kT es (fun _ _ _ _ => true) a' b' c' d') κ
                  have hcl := kT_le es (fun _ _ _ _ => true) a' b' c' d' (by omega) (by omega) (by omega) (by omega)
                  have HS := Lib.hid (hC3.step κ hk11)
                  clear hb3 s0 s1 s2 s3
                  generalize hcv : ((kT es (fun _ _ _ _ => true) a' b' c' d').filter (fun x => x == (κ : Int))).length = cv at *
                  have HV := Lib.hid hcv
                  clear hcv
                  go_wp2_with fail
                  go_roundw
                  case rel => exact ⟨d' + 1, by omega, by go_num, (hb.trans (hb03.mono hb.size)).setCell (p := ⟨w1.heap.size, κ, none⟩) (Nat.le_of_lt hzw) _, hT3.set (by omega), by rw [kT_d, if_pos rfl, HK.out]; exact HS.out⟩
                  case measure => simp [intOf]; omega
                · obtain rfl : d' = c' := by omega
                  go_wp2_with fail
                  go_roundw
                  case rel => exact ⟨d' + 1, by omega, by go_num, hb, hT, by rw [kT_c]; exact hC⟩
                  case measure => simp [intOf]; omega
            · obtain rfl : c' = b' := by omega
              go_wp2_with fail
              go_roundw
              case rel => exact ⟨c' + 1, by omega, by go_num, hb, hT, by rw [kT_b]; exact hC⟩
              case measure => simp [intOf]; omega
        · obtain rfl : b' = a' := by omega
          go_wp2_with fail
          go_roundw
          case rel => exact ⟨b' + 1, by omega, by go_num, hb, hT, by rw [kT_a]; exact hC⟩
          case measure => simp [intOf]; omega
    · obtain rfl : a' = n := by omega
      go_wp2_with fail
      go_ret
      have hK : kT es (fun _ _ _ _ => true) a' 0 0 0 = kA es (fun _ _ _ _ => true) a' := by simp [kT, kB, kC, kD]
      rw [hK] at hC
      have hi := hC.ints
      exact ⟨_, _, by rw [cntV_length]; rfl, hi, hb⟩
end Go.Proofs.YtekbpoppajbljaaDoor
