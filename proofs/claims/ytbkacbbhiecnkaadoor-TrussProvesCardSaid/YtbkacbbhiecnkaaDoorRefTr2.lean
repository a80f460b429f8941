/- The contracts of the reference's number of triangles within a set, of all edges, and of what is in the first list and not in the second. -/
import Derived.Test.YtbkacbbhiecnkaaDoorRefTr
namespace Go.Proofs.YtbkacbbhiecnkaaDoor
open Go.RowKit Go.BigFrame

def wiP (xs : List Int) (p : Nat × Nat) : Bool := decide ((p.1 : Int) ∈ xs) && decide ((p.2 : Int) ∈ xs)
def wiN (es : List E2) (n i : Nat) (xs : List Int) (t : Nat) : Nat := (((triN es n i).take t).filter (wiP xs)).length
theorem wiN_step (es : List E2) (n i : Nat) (xs : List Int) (t : Nat) (p : Nat × Nat) (h : (triN es n i)[t]? = some p) : wiN es n i xs (t + 1) = wiN es n i xs t + (if wiP xs p = true then 1 else 0) := by
  unfold wiN
  rw [take_at _ _ _ h, List.filter_append, List.length_append]
  congr 1
  cases hq : wiP xs p <;> simp [List.filter, hq]
theorem wiN_le (es : List E2) (n i : Nat) (xs : List Int) (t : Nat) : wiN es n i xs t ≤ n := by
  unfold wiN
  refine Nat.le_trans (List.length_filter_le _ _) ?_
  have := tri_le es n i
  rw [List.length_take]; omega
theorem mem_castL (l : List Nat) (x : Nat) : (x : Int) ∈ castL l ↔ x ∈ l := by
  unfold castL
  rw [List.mem_map]
  constructor
  · rintro ⟨y, hy, e⟩
    have : y = x := by omega
    rw [← this]; exact hy
  · intro h; exact ⟨x, h, rfl⟩
/-- within a list of edges: the support there -/
theorem wiN_sup (es : List E2) (n i : Nat) (l : List Nat) (S : Nat → Bool) (h : ∀ x, S x = true ↔ x ∈ l) : wiN es n i (castL l) (triN es n i).length = trS es n S i := by
  unfold wiN trS supT
  rw [List.take_length]
  congr 1
  refine List.filter_congr fun p _ => ?_
  unfold wiP
  have e : ∀ x : Nat, decide ((x : Int) ∈ castL l) = S x := fun x => by
    rw [Bool.eq_iff_iff, decide_eq_true_eq, mem_castL, h]
  rw [e, e]
set_option maxRecDepth 100000 in
set_option maxHeartbeats 3200000 in
theorem rwithin12_any (n i : Nat) (a : Option Addr) (cap : Nat) (es : List E2) (a2 : Option Addr) (cap2 : Nat) (xs : List Int) (w : World) (he : EdgesAt w (.slice a es.length cap) es) (hv : Valid n es) (hi : i < es.length) (hx : IntsAt w (.slice a2 xs.length cap2) xs) :
    Calls Tryd.prog 107 #[.agg #[.int .i64 n, .slice a es.length cap], .int .i64 i, .slice a2 xs.length cap2] w fun e w' => e = .returned (.int .i64 (wiN es n i xs (triN es n i).length : Int)) ∧ Below w.heap.size w w' := by
  have hb0 : Below w.heap.size w (w.alloc (.cells #[.int .i64 n, .slice a es.length cap] 27)) := (Below.refl _ _).alloc (Nat.le_refl _) _
  go_enter Tryd.func107, Tryd.ntmps107
  go_wp2_with fail
  refine (rpairs_any n i a cap es _ (he.below hb0) hv hi).mono ?_
  rintro e w1 ⟨a1, c1, rfl, hr1, -, hb1⟩
  have hb01 := hb0.trans (hb1.mono hb0.size)
  have hx1 := hx.below hb01
  have hn64 := hv.2.1
  have htb := tri_le es n i
  clear hb0 hb1 hx
  go_wp2_with fail
  go_loopw [7, 14] (fun vc vi wr => ∃ t : Nat, t ≤ (triN es n i).length ∧ vi = .int .i64 t ∧ ∃ C : Nat, vc = .int .i64 C ∧ Hid (C = wiN es n i xs t) ∧ C ≤ n ∧ Below w1.heap.size w1 wr) (fun _ vi _ => (triN es n i).length - (intOf vi).toNat)
  case atStart => exact ⟨0, Nat.zero_le _, rfl, 0, rfl, (show (0 : Nat) = _ by simp [wiN]), Nat.zero_le _, Below.refl _ _⟩
  case round =>
    obtain ⟨t, ht, rfl, C, rfl, HC, hCn, hb⟩ := hrel
    by_cases hlt : t < (triN es n i).length
    · obtain ⟨b9, o9, p, rfl, hp, hcap9, hat9⟩ := (hr1.below hb).elem t hlt
      have x0 : wr.cell? ⟨b9, o9 + t * 2, none⟩ = some (.int .i64 (p.1 : Int)) := hat9 0 _ rfl
      have x1 : wr.cell? ⟨b9, o9 + t * 2 + 1, none⟩ = some (.int .i64 (p.2 : Int)) := hat9 1 _ rfl
      have hlt3 : (t : Int) < (triN es n i).length := by omega
      have hst := wiN_step es n i xs t p hp
      have hle := wiN_le es n i xs (t + 1)
      rw [← HC.out] at hst
      rw [hst] at hle
      have HST := Lib.hid hst
      have hbA := hb.alloc hb.size (.cells #[.int .i64 (p.1 : Int), .int .i64 (p.2 : Int)] 77)
      have h1 := has_any a2 cap2 xs (p.1 : Int) _ (hx1.below hbA)
      have h2 := has_any a2 cap2 xs (p.2 : Int) _ (hx1.below hbA)
      have hw : wiP xs p = (decide ((p.1 : Int) ∈ xs) && decide ((p.2 : Int) ∈ xs)) := rfl
      rw [hw] at HST hle
      obtain ⟨A, hA⟩ : ∃ A, decide ((p.1 : Int) ∈ xs) = A := ⟨_, rfl⟩
      obtain ⟨B, hB⟩ : ∃ B, decide ((p.2 : Int) ∈ xs) = B := ⟨_, rfl⟩
      rw [hA, hB] at HST hle
      rw [hA] at h1
      rw [hB] at h2
      clear hst hw hA hB hat9 hp HC
      cases A with
      | false =>
        go_wp2_with (go_at_call 138; with_reducible refine h1.mono ?_; rintro e w4 ⟨rfl, rfl⟩)
        go_roundw
        case rel => exact ⟨t + 1, by omega, by go_num, C, rfl, (show C = _ by rw [HST.out]; simp), hCn, hbA⟩
        case measure => simp [intOf]; omega
      | true =>
        cases B with
        | false =>
          go_wp2_with (first
            | (go_at_call 138; with_reducible refine h1.mono ?_; rintro e w4 ⟨rfl, rfl⟩)
            | (go_at_call 138; with_reducible refine h2.mono ?_; rintro e w4 ⟨rfl, rfl⟩))
          go_roundw
          case rel => exact ⟨t + 1, by omega, by go_num, C, rfl, (show C = _ by rw [HST.out]; simp), hCn, hbA⟩
          case measure => simp [intOf]; omega
        | true =>
          go_wp2_with (first
            | (go_at_call 138; with_reducible refine h1.mono ?_; rintro e w4 ⟨rfl, rfl⟩)
            | (go_at_call 138; with_reducible refine h2.mono ?_; rintro e w4 ⟨rfl, rfl⟩))
          go_roundw
          case rel => exact ⟨t + 1, by omega, by go_num, C + 1, by go_num, (show C + 1 = _ by rw [HST.out]; simp), by simpa using hle, hbA⟩
          case measure => simp [intOf]; omega
    · obtain rfl : t = (triN es n i).length := by omega
      have hz := hb01.size
      go_wp2_with fail
      go_ret
      exact ⟨by rw [HC.out]; rfl, hb01.trans (hb.mono hz)⟩
set_option maxRecDepth 100000 in
set_option maxHeartbeats 1600000 in
theorem rall12_any (n : Int) (a : Option Addr) (cap : Nat) (es : List E2) (w : World) (hel : es.length ≤ 100000) :
    Calls Tryd.prog 106 #[.agg #[.int .i64 n, .slice a es.length cap]] w (IntsPost w (castL (List.range es.length))) := by
  have hb0 : Below w.heap.size w (w.alloc (.cells #[.int .i64 n, .slice a es.length cap] 27)) := (Below.refl _ _).alloc (Nat.le_refl _) _
  go_enter Tryd.func106, Tryd.ntmps106
  go_wp2_with fail
  go_loopw [3, 8] (fun vo vi wr => ∃ k : Nat, k ≤ es.length ∧ vi = .int .i64 k ∧ wr.ownsRow w.heap.size 3 1 vo k (intsV (castL (List.range k))) ∧ Below w.heap.size w wr) (fun _ vi _ => es.length - (intOf vi).toNat)
  case atStart => exact ⟨0, Nat.zero_le _, rfl, World.ownsRow_nil _ _ _ _, hb0⟩
  case round =>
    obtain ⟨k, hk, rfl, hown, hb⟩ := hrel
    obtain ⟨ao, co, hvo⟩ := owns_shape hown
    subst hvo
    by_cases hlt : k < es.length
    · have hlt3 : (k : Int) < es.length := by omega
      have hlx := ints_lit1 wr (k : Int) 3
      have hownA := hown.alloc (.cells #[.int .i64 (k : Int)] 3)
      have hbA := hb.alloc hb.size (.cells #[.int .i64 (k : Int)] 3)
      have hsl : (castL (List.range k)).length = k := by rw [castL_length, List.length_range]
      go_wp2_with (at_builtin; refine wpList_app_ints intsT rfl _ _ rfl w.heap.size (.slice ao k co) _ (castL (List.range k)) [(k : Int)] rfl (by rw [hsl]; exact hownA) rfl hlx (by rw [hsl]; simp; omega) hbA.size ?_; intro v6 w6 hown6 hg6)
      have hl6 : (castL (List.range k) ++ [(k : Int)]).length = k + 1 := by rw [List.length_append, hsl]; rfl
      rw [hl6, ← castL_snoc, ← List.range_succ] at hown6
      go_roundw
      case rel => exact ⟨k + 1, by omega, by go_num, hown6, hbA.grown hg6 hbA.size (fun g e => (hownA.lt g e).1)⟩
      case measure => simp [intOf]; omega
    · obtain rfl : k = es.length := by omega
      have hsl : (castL (List.range es.length)).length = es.length := by rw [castL_length, List.length_range]
      have hp := ints_post hb (by rw [hsl]; exact hown) (by rw [hsl]; omega)
      go_wp2_with fail
      go_ret
      exact hp
def minusS (xs ys : List Int) : List Int := (ofS xs).filter (fun x => !decide (x ∈ ys))
set_option maxRecDepth 100000 in
set_option maxHeartbeats 1600000 in
theorem minus_any (a a2 : Option Addr) (cap cap2 : Nat) (xs ys : List Int) (w : World) (hi : IntsAt w (.slice a xs.length cap) xs) (hj : IntsAt w (.slice a2 ys.length cap2) ys) (hn : xs.length ≤ 1073741824) :
    Calls Tryd.prog 108 #[.slice a xs.length cap, .slice a2 ys.length cap2] w (IntsPost w (minusS xs ys)) := by
  go_enter Tryd.func108, Tryd.ntmps108
  go_wp2_with fail
  refine (of_any a cap xs _ hi hn).mono ?_
  rintro e w1 ⟨a1, c1, rfl, hi1, hb1⟩
  have hol := ofS_length xs
  have hj1 := hj.below hb1
  have hmn : minusS xs ys = (ofS xs).filter (fun x => !decide (x ∈ ys)) := rfl
  obtain ⟨zs, hzs⟩ : ∃ zs, ofS xs = zs := ⟨_, rfl⟩
  rw [hzs] at hi1 hol hmn ⊢
  have HMN := Lib.hid hmn
  clear hzs hmn
  go_wp2_with fail
  go_loopw [5, 11] (fun vo vi wr => ∃ k : Nat, k ≤ zs.length ∧ vi = .int .i64 k ∧ ∃ P : List Int, wr.ownsRow w1.heap.size 3 1 vo P.length (intsV P) ∧ Hid (P = (zs.take k).filter (fun x => !decide (x ∈ ys))) ∧ P.length ≤ k ∧ Below w1.heap.size w1 wr) (fun _ vi _ => zs.length - (intOf vi).toNat)
  case atStart => exact ⟨0, Nat.zero_le _, rfl, [], World.ownsRow_nil _ _ _ _, (show _ = _ by simp), Nat.le_refl _, Below.refl _ _⟩
  case round =>
    obtain ⟨k, hk, rfl, P, hown, HP, hPk, hb⟩ := hrel
    obtain ⟨ao, co, hvo⟩ := owns_shape hown
    subst hvo
    by_cases hlt : k < zs.length
    · obtain ⟨b9, o9, z, rfl, hz, _, _, c0⟩ := (hi1.below hb).at k hlt
      have htk : (zs.take (k + 1)).filter (fun x => !decide (x ∈ ys)) = P ++ (if z ∈ ys then [] else [z]) := by
        rw [take_at _ _ _ hz, List.filter_append, ← HP.out]
        congr 1
        by_cases h : z ∈ ys <;> simp [h]
      have hhas := has_any a2 cap2 ys z _ (hj1.below hb)
      have hlt3 : (k : Int) < zs.length := by omega
      by_cases hzy : z ∈ ys
      · rw [if_pos hzy, List.append_nil] at htk
        have HT := Lib.hid htk
        rw [decide_eq_true hzy] at hhas
        clear htk hz hzy
        go_wp2_with (go_at_call 138; with_reducible refine hhas.mono ?_; rintro e w4 ⟨rfl, rfl⟩)
        go_roundw
        case rel => exact ⟨k + 1, by omega, by go_num, P, hown, HT.out.symm, by omega, hb⟩
        case measure => simp [intOf]; omega
      · rw [if_neg hzy] at htk
        have HT := Lib.hid htk
        rw [decide_eq_false hzy] at hhas
        have hlx := ints_lit1 wr z 3
        have hownA := hown.alloc (.cells #[.int .i64 z] 3)
        have hbA := hb.alloc hb.size (.cells #[.int .i64 z] 3)
        clear htk hz hzy
        go_wp2_with (first
          | (go_at_call 138; with_reducible refine hhas.mono ?_; rintro e w4 ⟨rfl, rfl⟩)
          | (at_builtin; refine wpList_app_ints intsT rfl _ _ rfl w1.heap.size (.slice ao P.length co) _ P [z] rfl hownA rfl hlx (by simp; omega) hbA.size ?_; intro v6 w6 hown6 hg6))
        go_roundw
        case rel => exact ⟨k + 1, by omega, by go_num, P ++ [z], hown6, HT.out.symm, by simp; omega, hbA.grown hg6 hbA.size (fun g e => (hownA.lt g e).1)⟩
        case measure => simp [intOf]; omega
    · obtain rfl : k = zs.length := by omega
      have hPP := HP.out
      rw [List.take_length] at hPP
      have hz := hb1.size
      have hp := ints_post (w := w) (hb1.trans (hb.mono hz)) (owns_base hown hz) (by omega)
      have hq : IntsPost w (minusS xs ys) (.returned (.slice ao P.length co)) wr := by rw [HMN.out, ← hPP]; exact hp
      clear hPP hp
      go_wp2_with fail
      go_ret
      exact hq
end Go.Proofs.YtbkacbbhiecnkaaDoor
