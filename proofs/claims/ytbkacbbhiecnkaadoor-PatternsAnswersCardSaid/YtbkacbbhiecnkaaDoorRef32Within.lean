/- The contract of the reference's matrix: how often each kind lies in each kind. -/
import Derived.Test.YtbkacbbhiecnkaaDoorRef32Set
import Derived.Test.YtbkacbbhiecnkaaDoorPatWithin
import Derived.Test.YtbkacbbhiecnkaaDoorAppAt
import Derived.Test.YtbkacbbhiecnkaaDoorGrFind
import Derived.Test.YtbkacbbhiecnkaaDoorMk
namespace Go.Proofs.YtbkacbbhiecnkaaDoor
open Go.RowKit Go.BigFrame

/-- the least graph of each kind -/
def lsN (k : Nat) : Nat := [0, 1, 3, 12, 11, 7, 13, 15, 30, 31, 63].getD k 0
theorem lsN_kind : ∀ b, b < 11 → kindS (lsN b) = (b : Int) ∧ lsN b < 64 ∧ ∀ m, m < lsN b → kindS m ≠ (b : Int) := by decide +kernel
def wRowR (b s : Nat) : List (Nat × Nat) := (List.range s).flatMap fun x => if subB x (lsN b) then [((kindS x).toNat, b)] else []
def wAllR (b : Nat) : List (Nat × Nat) := (List.range b).flatMap fun x => wRowR x 64
theorem wRowR_succ (b s : Nat) : wRowR b (s + 1) = wRowR b s ++ if subB s (lsN b) then [((kindS s).toNat, b)] else [] := by simp [wRowR, List.range_succ]
theorem wAllR_succ (b : Nat) : wAllR (b + 1) = wAllR b ++ wRowR b 64 := by simp [wAllR, List.range_succ]
theorem wR_len : ∀ b p, b < 11 → p < 64 → (wAllR b ++ wRowR b p).length ≤ 1000000 := by
  intro b p hb hp
  have h1 : (wRowR b p).length ≤ 64 := by
    have := flat_le (fun x => if subB x (lsN b) then [((kindS x).toNat, b)] else []) 1 p (fun x _ => by split <;> simp)
    unfold wRowR; omega
  have h2 : (wAllR b).length ≤ 704 := by
    have := flat_le (fun x => wRowR x 64) 64 b (fun x _ => by
      have := flat_le (fun y => if subB y (lsN x) then [((kindS y).toNat, x)] else []) 1 64 (fun y _ => by split <;> simp)
      unfold wRowR; omega)
    unfold wAllR; omega
  rw [List.length_append]; omega
theorem wAllR_eq : ∀ a, a < 11 → matV (wAllR 11) a = matV (wAll 11) a := by decide +kernel
def encS : Enc Nat := ⟨1, fun g => [.slice (some ⟨g, 0, none⟩) 11 11], fun _ => rfl, fun e u hu => by simp at hu; subst hu; rfl, by decide⟩
theorem mtRT : SliceT Tryd.prog 49 22 (.slice none 0 0) encS.k 24 := ⟨Tryd.underlying49, by kernel_rfl, rfl, by decide⟩
/-- the rows' blocks -/
structure MatR (w : World) (fs : List Nat) (L : List (Nat × Nat)) (wr : World) : Prop where
  bel : Below w.heap.size w wr
  row : ∀ (i g : Nat), fs[i]? = some g → wr.heap[g]? = some (.cells (intsV (matV L i)).toArray 3 (0, 0)) ∧ w.heap.size ≤ g
  dis : ∀ (i j g : Nat), fs[i]? = some g → fs[j]? = some g → i = j
theorem MatR.below {w wr w' : World} {fs : List Nat} {L : List (Nat × Nat)} (h : MatR w fs L wr) (hb : Below wr.heap.size wr w') : MatR w fs L w' :=
  ⟨h.bel.trans (hb.mono h.bel.size), fun i g hg => ⟨lit_next' hb (h.row i g hg).1, (h.row i g hg).2⟩, h.dis⟩
theorem MatR.step {w wr : World} {fs : List Nat} {L : List (Nat × Nat)} (h : MatR w fs L wr) (a b g : Nat) (ha : fs[a]? = some g) (hb : b < 11) :
    MatR w fs (L ++ [(a, b)]) (wr.setCell ⟨g, b, none⟩ (.int .i64 (((L.filter (fun x => x == (a, b))).length : Int) + 1))) := by
  refine ⟨h.bel.setCell (p := ⟨g, b, none⟩) (h.row a g ha).2 _, fun i g' hg' => ⟨?_, (h.row i g' hg').2⟩, h.dis⟩
  by_cases e : i = a
  · subst e
    rw [ha] at hg'
    cases hg'
    rw [heap_setCell_same _ _ _ _ _ _ (h.row i g ha).1, matV_snoc L i b hb]
    simp [intsV, List.map_set]
  · have hne : g' ≠ g := fun e2 => e (h.dis i a g (by rw [← e2]; exact hg') ha)
    rw [Below.heap_setCell _ _ _ _ (by show g' ≠ g; exact hne), (h.row i g' hg').1, matV_other L a b i e]
set_option maxRecDepth 100000 in
set_option maxHeartbeats 6400000 in
theorem rwithin_any (w : World) : Calls Tryd.prog 47 #[] w fun e w' => ∃ G cap fs, e = .returned (.slice (some ⟨G, 0, none⟩) 11 cap) ∧ fs.length = 11 ∧ RowAt encS w' (.slice (some ⟨G, 0, none⟩) 11 cap) fs ∧ MatR w fs (wAllR 11) w' := by
  have hmk := make11'
  go_enter Tryd.func47, Tryd.ntmps47
  go_wp2_with fail
  go_loopw [2, 1] (fun vi vo wr => ∃ fs : List Nat, fs.length ≤ 11 ∧ vi = .int .i64 fs.length ∧ wr.ownsRow w.heap.size 22 encS.k vo fs.length (flatR encS fs) ∧ (∀ (i g : Nat), fs[i]? = some g → vo.ownBlock ≠ some g) ∧ MatR w fs [] wr) (fun vi _ _ => 11 - (intOf vi).toNat)
  case atStart => exact ⟨[], by simp, rfl, World.ownsRow_nil _ _ _ _, fun i g h => by simp at h, ⟨Below.refl _ _, fun i g h => by simp at h, fun i j g h => by simp at h⟩⟩
  case round =>
    obtain ⟨fs, hfl, rfl, hown, hnb, hM⟩ := hrel
    obtain ⟨ao, co, hvo⟩ := owns_shape hown
    subst hvo
    by_cases hlt : fs.length < 11
    · have d1 : decide ((fs.length : Int) < 11) = true := by simp; omega
      have d2 : decide (fs.length < 11) = true := by simpa using hlt
      have hbn := (Below.refl wr.heap.size wr).alloc (Nat.le_refl _) (.cells (intsV (matV [] 0)).toArray 3)
      have hl1 : RowAt encS ((wr.alloc (.cells (intsV (matV [] 0)).toArray 3)).alloc (.cells #[.slice (some ⟨wr.heap.size, 0, none⟩) 11 11] 22)) (.slice (some ⟨wr.heap.size + 1, 0, none⟩) 1 1) [wr.heap.size] := by
        have h := rows_lit1 (E := encS) (wr.alloc (.cells (intsV (matV [] 0)).toArray 3)) wr.heap.size 22 #[.slice (some ⟨wr.heap.size, 0, none⟩) 11 11] rfl
        simpa using h
      have hoA := (hown.alloc (.cells (intsV (matV [] 0)).toArray 3)).alloc (.cells #[.slice (some ⟨wr.heap.size, 0, none⟩) 11 11] 22)
      have hM2 := (hM.below hbn).below ((Below.refl _ _).alloc (Nat.le_refl _) (.cells #[.slice (some ⟨wr.heap.size, 0, none⟩) 11 11] 22))
      have hnew : ((wr.alloc (.cells (intsV (matV [] 0)).toArray 3)).alloc (.cells #[.slice (some ⟨wr.heap.size, 0, none⟩) 11 11] 22)).heap[wr.heap.size]? = some (.cells (intsV (matV [] 0)).toArray 3 (0, 0)) := (Below.heap_alloc _ _ _ (by simp)).trans (heap_alloc_new _ _)
      have hlo := hown.lt
      have hsz := hM.bel.size
      have hlr : ∀ (i g : Nat), fs[i]? = some g → g < wr.heap.size := fun i g h => blk_lt (hM.row i g h).1
      go_wp2_with (at_builtin; refine wpList_app_rows_at' mtRT rfl _ _ rfl w.heap.size (.slice ao fs.length co) (.slice (some ⟨wr.heap.size + 1, 0, none⟩) 1 1) fs [wr.heap.size] rfl hoA rfl hl1 (by simp; omega) (by simp; omega) (by simp; omega) ?_; intro v6 w6 hown6 hg6 hat6)
      go_roundw
      case rel =>
        refine ⟨fs ++ [wr.heap.size], by simp; omega, by simp, hown6, fun i g hg e => ?_, ⟨hM2.bel.grown hg6 hM2.bel.size (fun g e => (hoA.lt g e).1), fun i g hg => ?_, fun i j g h1 h2 => ?_⟩⟩
        · have hgl : g ≤ wr.heap.size := by
            rw [List.getElem?_append] at hg
            split at hg
            · have := hlr i g hg; omega
            · have h3 := List.mem_of_getElem? hg
              rw [List.mem_singleton.1 h3]; exact Nat.le_refl _
          rcases hat6 with h | h
          · rw [h] at e
            by_cases hgi : i < fs.length
            · rw [List.getElem?_append_left hgi] at hg; exact hnb i g hg e
            · have h4 := (hlo g e).2
              rw [List.getElem?_append_right (by omega)] at hg
              have h3 := List.mem_of_getElem? hg
              rw [List.mem_singleton.1 h3] at h4; omega
          · rw [h] at e
            have h5 := Option.some.inj e
            simp at h5; omega
        · by_cases hgi : i < fs.length
          · rw [List.getElem?_append_left hgi] at hg
            obtain ⟨h1, h2⟩ := hM2.row i g hg
            exact ⟨grown_blk hg6 h1 (fun e => hnb i g hg e.symm), h2⟩
          · rw [List.getElem?_append_right (by omega)] at hg
            have h3 := List.mem_of_getElem? hg
            obtain rfl := List.mem_singleton.1 h3
            refine ⟨grown_blk hg6 (by rw [hnew]; rfl) (fun e => by have := (hlo _ e.symm).2; omega), hsz⟩
        · by_cases hi : i < fs.length
          · rw [List.getElem?_append_left hi] at h1
            by_cases hj : j < fs.length
            · rw [List.getElem?_append_left hj] at h2; exact hM.dis i j g h1 h2
            · rw [List.getElem?_append_right (by omega)] at h2
              have h3 := List.mem_singleton.1 (List.mem_of_getElem? h2)
              have := hlr i g h1; omega
          · by_cases hj : j < fs.length
            · rw [List.getElem?_append_left hj] at h2
              rw [List.getElem?_append_right (by omega)] at h1
              have h3 := List.mem_singleton.1 (List.mem_of_getElem? h1)
              have := hlr j g h2; omega
            · have a1 := (List.getElem?_eq_some_iff.1 h1).1
              have a2 := (List.getElem?_eq_some_iff.1 h2).1
              rw [List.length_append, List.length_singleton] at a1 a2
              omega
      case measure => simp [intOf]; omega
    · have hf11 : fs.length = 11 := by omega
      obtain ⟨G, rfl⟩ : ∃ G, ao = some ⟨G, 0, none⟩ := by
        rcases hown.2 with ⟨_, h0⟩ | ⟨G, _, _, hv, _⟩
        · omega
        · exact ⟨G, (Value.slice.inj hv).1⟩
      have hGn : ∀ (i g : Nat), fs[i]? = some g → G ≠ g := fun i g h e => hnb i g h (by rw [e]; rfl)
      obtain ⟨a6, c6, hv6, hr6, -⟩ := RowAt.of_owns hown (by omega)
      cases hv6
      have d1 : decide ((fs.length : Int) < 11) = false := by simp; omega
      have d2 : decide (fs.length < 11) = false := by simp; omega
      have HGN := Lib.hid hGn
      have HF := Lib.hid hf11
      clear hown hnb hGn hmk hf11
      go_wp2_with fail
      clear d1 d2
      go_loopw [3] (fun vb wr => ∃ b : Nat, b ≤ 11 ∧ vb = .int .i64 b ∧ MatR w fs (wAllR b) wr ∧ RowAt encS wr (.slice (some ⟨G, 0, none⟩) fs.length co) fs) (fun vb _ => 11 - (intOf vb).toNat)
      case atStart => exact ⟨0, by omega, rfl, hM, hr6⟩
      case round =>
        clear hM hr6
        obtain ⟨b, hb11, rfl, hM, hr⟩ := hrel
        by_cases hltb : b < 11
        · have dB : decide ((b : Int) < 11) = true := by simp; omega
          have dB2 : decide (b < 11) = true := by simpa using hltb
          obtain ⟨hk1, hk2, hk3⟩ := lsN_kind b hltb
          have HK3 := Lib.hid hk3
          have hsub : ∀ p, subB p (lsN b) = (bits BinOp.andNot IntKind.i64 (p : Int) (lsN b : Int) == 0) := fun p => rfl
          have hW : ∀ p, wRowR b (p + 1) = wRowR b p ++ if subB p (lsN b) then [((kindS p).toNat, b)] else [] := wRowR_succ b
          have HW := Lib.hid hW
          have HSB := Lib.hid hsub
          obtain ⟨Ls, hLs⟩ : ∃ L, lsN b = L := ⟨_, rfl⟩
          rw [hLs] at hk1 hk2 HK3 HW HSB
          clear hk3 hsub hW hLs
          go_wp2_with fail
          go_loopw [4] (fun vm wr => ∃ m : Nat, m ≤ Ls ∧ vm = .int .i64 m ∧ MatR w fs (wAllR b) wr ∧ RowAt encS wr (.slice (some ⟨G, 0, none⟩) fs.length co) fs) (fun vm _ => Ls - (intOf vm).toNat)
          case atStart => exact ⟨0, Nat.zero_le _, rfl, hM, hr⟩
          case round =>
            clear hM hr
            obtain ⟨m, hm, rfl, hM, hr⟩ := hrel
            have hkd := fun W => rkind_any m W (by omega)
            obtain ⟨Km, hKm⟩ : ∃ K, kindS m = K := ⟨_, rfl⟩
            rw [hKm] at hkd
            by_cases hml : m < Ls
            · have d1 : (Km != (b : Int)) = true := by have := HK3.out m hml; rw [hKm] at this; simpa using this
              clear hKm
              go_wp2_with fail
              refine (hkd _).mono ?_
              rintro e w2 ⟨rfl, hb2⟩
              go_wp2_with fail
              go_roundw
              case rel => exact ⟨m + 1, by omega, by go_num, hM.below hb2, hr.below hb2⟩
              case measure => simp [intOf]; omega
            · obtain rfl : m = Ls := by omega
              have d1 : (Km != (b : Int)) = false := by rw [hk1] at hKm; rw [← hKm]; simp
              clear hKm
              go_wp2_with fail
              refine (hkd _).mono ?_
              rintro e w2 ⟨rfl, hb2⟩
              have hM2 : MatR w fs (wAllR b ++ wRowR b 0) w2 := by
                have h := hM.below hb2
                rw [show wRowR b 0 = [] from rfl, List.append_nil]; exact h
              have hr2 := hr.below hb2
              clear hM hr hb2 hkd
              go_wp2_with fail
              go_loopw [5] (fun vp wr => ∃ p : Nat, p ≤ 64 ∧ vp = .int .i64 p ∧ MatR w fs (wAllR b ++ wRowR b p) wr ∧ RowAt encS wr (.slice (some ⟨G, 0, none⟩) fs.length co) fs) (fun vp _ => 64 - (intOf vp).toNat)
              case atStart => exact ⟨0, by omega, rfl, hM2, hr2⟩
              case round =>
                clear hM2 hr2
                obtain ⟨p, hp, rfl, hM, hr⟩ := hrel
                by_cases hlp : p < 64
                · obtain ⟨S, hS⟩ : ∃ S, subB p m = S := ⟨_, rfl⟩
                  have hst := HW.out p
                  have d1 := HSB.out p
                  rw [hS] at hst d1
                  have hkp := fun W => rkind_any p W hlp
                  have hkb := kindS_bd p hlp
                  cases S with
                  | false =>
                    have HST : Hid (wRowR b (p + 1) = wRowR b p) := by show _ = _; rw [hst]; simp
                    have d2 : (bits BinOp.andNot IntKind.i64 (p : Int) (m : Int) == 0) = false := d1.symm
                    clear hst d1 hS hkp hkb
                    go_wp2_with fail
                    go_roundw
                    case rel => exact ⟨p + 1, by omega, by go_num, by rw [HST.out]; exact hM, hr⟩
                    case measure => simp [intOf]; omega
                  | true =>
                    have d2 : (bits BinOp.andNot IntKind.i64 (p : Int) (m : Int) == 0) = true := d1.symm
                    rw [if_pos rfl] at hst
                    obtain ⟨K, hK⟩ := Int.eq_ofNat_of_zero_le hkb.1
                    rw [hK] at hkp hkb hst
                    rw [Int.toNat_natCast] at hst
                    have hK11 : K < 11 := by omega
                    have hqb : ∀ p, p < 64 → (wAllR b ++ wRowR b p).length ≤ 1000000 := fun p hp => wR_len b p hltb hp
                    have HST : Hid (wAllR b ++ wRowR b (p + 1) = wAllR b ++ wRowR b p ++ [(K, b)]) := by show _ = _; rw [hst, List.append_assoc]
                    obtain ⟨Q, hQ⟩ : ∃ Q, wAllR b ++ wRowR b p = Q := ⟨_, rfl⟩
                    have hQl : Q.length ≤ 1000000 := by rw [← hQ]; exact hqb p hlp
                    rw [hQ] at hM HST
                    clear hst d1 hS hK hQ hkb
                    go_wp2_with fail
                    refine (hkp _).mono ?_
                    rintro e w3 ⟨rfl, hb3⟩
                    have hM3 := hM.below hb3
                    have hr3 := hr.below hb3
                    have hr3' := hr3
                    obtain ⟨b0, o0, g, e9, hg, hcap, hat⟩ := hr3'.elem K (by rw [HF.out]; omega)
                    cases e9
                    have c0 : w3.cell? ⟨G, K, none⟩ = some (.slice (some ⟨g, 0, none⟩) 11 11) := by have h := hat 0 _ rfl; simpa [encS] using h
                    have hrow := (hM3.row K g hg).1
                    have hne := HGN.out K g hg
                    have hcb := mat_bd Q K b
                    have hKl : K < fs.length := by rw [HF.out]; exact hK11
                    have cb : w3.cell? ⟨g, b, none⟩ = some (.int .i64 ((Q.filter (fun x => x == (K, b))).length : Int)) := NumAt.cell hrow b _ (matV_get Q K b hltb)
                    have fg : w3.frozen? ⟨g, b, none⟩ = false := free_blk hrow
                    have hstep := hM3.step K b g hg hltb
                    obtain ⟨N, hN⟩ : ∃ N : Int, ((Q.filter (fun x => x == (K, b))).length : Int) = N := ⟨_, rfl⟩
                    rw [hN] at hcb cb hstep
                    have v1 : IntKind.i64.wrap (N + 1) = N + 1 := IntWalk.i64_in _ (by omega)
                    clear hM hr hr3' hat hg hcap hN hrow hM3
                    go_wp2_with fail
                    go_roundw
                    case rel => exact ⟨p + 1, by omega, by go_num, by rw [HST.out]; exact hstep, hr3.grown' grown_store (fun g2 e2 _ n c q e => by cases e2; obtain ⟨h1, _, _⟩ := Value.slice.inj e; cases h1; exact hne)⟩
                    case measure => simp [intOf]; omega
                · obtain rfl : p = 64 := by omega
                  rw [← wAllR_succ] at hM
                  go_wp2_with fail
                  go_roundw
                  case rel => exact ⟨b + 1, by omega, by go_num, hM, hr⟩
                  case measure => simp [intOf]; omega
        · obtain rfl : b = 11 := by omega
          go_wp2_with fail
          go_ret
          refine ⟨G, co, fs, ?_, HF.out, by rw [← HF.out]; exact hr, hM⟩
          rw [show Value.slice (some ⟨G, 0, none⟩) 11 co = Value.slice (some ⟨G, 0, none⟩) fs.length co from by rw [HF.out]]
          rfl
end Go.Proofs.YtbkacbbhiecnkaaDoor
