/- The contracts of the blocks of a run, and of the neighbours of a node in a run. -/
import Derived.Test.YtdkmdcdoiaelfaaSeqs
import Derived.Test.YtdkmdcdoiaelfaaExNb
import Derived.Test.YtdkmdcdoiaelfaaRdsP
namespace Go.Proofs.Ytdkmdcdoiaelfaa
open Go.RowKit Go.BigFrame

/-- a part of the records, and where it lies -/
def encB : Enc ((Option Addr × Nat × Nat) × List E2) where
  k := 1
  enc p := [.slice p.1.1 p.1.2.1 p.1.2.2]
  len _ := rfl
  one p u hu := by rw [List.mem_singleton] at hu; subst hu; rfl
  pos := by decide
structure BlkAt (w : World) (v : Value) (L : List ((Option Addr × Nat × Nat) × List E2)) : Prop where
  row : RowAt encB w v L
  each : ∀ p ∈ L, EdgesAt w (.slice p.1.1 p.1.2.1 p.1.2.2) p.2
theorem blkT : SliceT Try.prog 142 31 (.slice none 0 0) encB.k 24 := ⟨Try.underlying142, by kernel_rfl, rfl, by decide⟩
set_option maxRecDepth 100000 in
/-- the first n of the records, and the others -/
theorem recs_cut {w : World} {b off m c n : Nat} {rs : List E2} (h : EdgesAt w (.slice (some ⟨b, off, none⟩) m c) rs) (hm : m = rs.length) (hn1 : 1 ≤ n) (hn : n ≤ m) :
    EdgesAt w (.slice (some ⟨b, off, none⟩) n n) (rs.take n) ∧ ∃ a' c', EdgesAt w (.slice a' (m - n) c') (rs.drop n) ∧ (m ≠ n → ∃ b2 off2, a' = some ⟨b2, off2, none⟩) ∧
      (∀ W2, (Instr.slice 31 (.slice (some ⟨b, off, none⟩) m c) none (some (.int .i64 (n : Int))) (some (.int .i64 (n : Int)))).run Try.prog W2 = .ok (.slice (some ⟨b, off, none⟩) n n) W2) ∧
      (∀ W2, (Instr.slice 31 (.slice (some ⟨b, off, none⟩) m c) (some (.int .i64 (n : Int))) none none).run Try.prog W2 = .ok (.slice a' (m - n) c') W2) := by
  obtain ⟨_, _, hv, h1, -, h3, h4⟩ := h
  cases hv
  have hz : ∀ W2, (sizeOf (Try.prog.elem 31)).run Try.prog W2 = .ok 2 W2 := fun W2 => by kernel_rfl
  have hlt : (rs.take n).length = n := by rw [List.length_take]; omega
  have hld : (rs.drop n).length = rs.length - n := List.length_drop
  refine ⟨⟨_, n, by rw [hlt], by omega, (fun e => by cases e), by omega, fun i e he => ?_⟩, (if c = n then some ⟨b, off, none⟩ else some ⟨b, off + n * 2, none⟩), c - n, ⟨_, _, by rw [hld], by omega, (fun e => by split at e <;> cases e), by omega, fun i e he => ?_⟩, fun hne => ?_, fun W2 => ?_, fun W2 => ?_⟩
  · rw [List.getElem?_take] at he
    split at he
    · exact h4 i e he
    · cases he
  · have hlt2 := (List.getElem?_eq_some_iff.1 he).1
    rw [hld] at hlt2
    rw [List.getElem?_drop] at he
    obtain ⟨b', off', e1, c0, c1⟩ := h4 _ e he
    cases e1
    refine ⟨b, off + n * 2, by rw [if_neg (by omega)], ?_, ?_⟩
    · rw [show off + n * 2 + i * 2 = off + (n + i) * 2 by omega]; exact c0
    · rw [show off + n * 2 + i * 2 = off + (n + i) * 2 by omega]; exact c1
  · split
    · exact ⟨_, _, rfl⟩
    · exact ⟨_, _, rfl⟩
  · rw [run_slice_hm (P := Try.prog) (w := W2) 31 (some ⟨b, off, none⟩) rs.length c Try.underlying31 .i64 .i64 n n (by omega) (Int.le_refl _) (by omega), hz]
    simp [Result.andThen, sliced, Addr.add]
  · rw [run_slice_l (P := Try.prog) (w := W2) 31 (some ⟨b, off, none⟩) rs.length c Try.underlying31 .i64 n (by omega) (by omega), hz]
    by_cases hc : c = n
    · simp [Result.andThen, sliced, hc]
    · simp only [Result.andThen, sliced, Addr.add, if_neg hc, Int.toNat_natCast, Option.map_some]
      rw [if_neg (show ¬ n * 2 = 0 by omega)]
theorem flat_snoc (L : List ((Option Addr × Nat × Nat) × List E2)) (p : (Option Addr × Nat × Nat) × List E2) : (L ++ [p]).flatMap Prod.snd = L.flatMap Prod.snd ++ p.2 := by simp
/-- the parts are the blocks -/
def Chunks (rs : List E2) (S : Nat) (L : List ((Option Addr × Nat × Nat) × List E2)) : Prop := ∀ (c : Nat) (l : List E2), (L.map Prod.snd)[c]? = some l → l = chkC rs S c
theorem blk_step {rs : List E2} {S k m N : Nat} {L : List ((Option Addr × Nat × Nat) × List E2)} {v : Option Addr × Nat × Nat} (h : (∀ (c : Nat) (l : List E2), (L.map Prod.snd)[c]? = some l → l = chkC rs S c) ∧ k ≤ L.length * S ∧ (0 < m → k = L.length * S)) (hN : N = min S m) (hm : 0 < m) (hkm : k + m = rs.length) :
    (∀ (c : Nat) (l : List E2), ((L ++ [(v, (rs.drop k).take N)]).map Prod.snd)[c]? = some l → l = chkC rs S c) ∧ k + N ≤ (L ++ [(v, (rs.drop k).take N)]).length * S ∧ (0 < m - N → k + N = (L ++ [(v, (rs.drop k).take N)]).length * S) := by
  obtain ⟨h1, h2, h3⟩ := h
  have hk := h3 hm
  have hl : (L ++ [(v, (rs.drop k).take N)]).length * S = L.length * S + S := by rw [List.length_append, List.length_singleton, Nat.add_mul, Nat.one_mul]
  refine ⟨fun c l hc => ?_, by rw [hl]; omega, fun h0 => by rw [hl]; omega⟩
  rw [List.map_append, List.getElem?_append] at hc
  split at hc
  · exact h1 c l hc
  · rename_i hcl
    rw [List.length_map] at hcl hc
    have hc0 : c = L.length := by
      have := (List.getElem?_eq_some_iff.1 hc).1
      simp at this; omega
    subst hc0
    rw [Nat.sub_self] at hc
    have hlv : (rs.drop k).take N = l := by simpa using hc
    subst hlv
    unfold chkC
    rw [← hk, hN]
    by_cases e : S ≤ m
    · rw [Nat.min_eq_left e]
    · rw [Nat.min_eq_right (by omega), List.take_of_length_le (by rw [List.length_drop]; omega), List.take_of_length_le (by rw [List.length_drop]; omega)]
set_option maxRecDepth 100000 in
set_option maxHeartbeats 3200000 in
theorem rblocks_any (size : Int) (a : Option Addr) (cap : Nat) (rs : List E2) (w : World) (he : EdgesAt w (.slice a rs.length cap) rs) (hl : rs.length ≤ 100000) (hs : 1 ≤ size) (hs2 : size ≤ 1024) :
    Calls Try.prog 118 #[.agg #[.int .i64 size, .slice a rs.length cap]] w fun e w' => ∃ a1 c1 L, e = .returned (.slice a1 L.length c1) ∧ BlkAt w' (.slice a1 L.length c1) L ∧ L.flatMap Prod.snd = rs ∧ L.length ≤ rs.length ∧ Chunks rs size.toNat L ∧ rs.length ≤ L.length * size.toNat ∧ Below w.heap.size w w' := by
  have hb0 : Below w.heap.size w (w.alloc (.cells #[.int .i64 size, .slice a rs.length cap] 33)) := (Below.refl _ _).alloc (Nat.le_refl _) _
  have hG0 := heap_alloc_new w (.cells #[.int .i64 size, .slice a rs.length cap] 33)
  obtain ⟨wA, hwA⟩ : ∃ W : World, W = w.alloc (.cells #[.int .i64 size, .slice a rs.length cap] 33) := ⟨_, rfl⟩
  rw [← hwA] at hb0 hG0
  have HWA := Lib.hid hwA
  have heA := he.below hb0
  clear hwA he
  obtain ⟨k0, k1⟩ := cells2R hG0
  go_enter Try.func118, Try.ntmps118
  go_wp2_with fail
  go_loopw [3, 4] (fun vo vl wr => ∃ (k m : Nat) (al : Option Addr) (cl : Nat) (L : List ((Option Addr × Nat × Nat) × List E2)), Hid (k + m = rs.length) ∧ vl = .slice al m cl ∧ EdgesAt wA (.slice al m cl) (rs.drop k) ∧ (m = 0 ∨ ∃ b off, al = some ⟨b, off, none⟩) ∧ wr.ownsRow wA.heap.size 31 encB.k vo L.length (flatR encB L) ∧ (∀ p ∈ L, EdgesAt wA (.slice p.1.1 p.1.2.1 p.1.2.2) p.2) ∧ Hid (L.flatMap Prod.snd = rs.take k) ∧ L.length ≤ k ∧ Hid ((∀ (c : Nat) (l : List E2), (L.map Prod.snd)[c]? = some l → l = chkC rs size.toNat c) ∧ k ≤ L.length * size.toNat ∧ (0 < m → k = L.length * size.toNat)) ∧ Below wA.heap.size wA wr) (fun _ vl _ => match vl with | .slice _ n _ => n | _ => 0)
  case atStart =>
    refine ⟨0, rs.length, a, cap, [], (show _ = _ by simp), rfl, by simpa using heA, ?_, World.ownsRow_nil _ _ _ _, by simp, (show _ = _ by simp), Nat.le_refl _, (show _ ∧ _ from ⟨fun c l h => by simp at h, by simp, fun _ => by simp⟩), by rw [HWA.out]; exact Below.refl _ _⟩
    by_cases h0 : rs.length = 0
    · exact .inl h0
    · right
      have hx : rs[0]? = some (rs[0]'(by omega)) := List.getElem?_eq_getElem _
      obtain ⟨_, _, hv, _, _, _, h4⟩ := heA
      cases hv
      obtain ⟨b, off, h, _⟩ := h4 0 _ hx
      exact ⟨b, off, h⟩
  case round =>
    obtain ⟨k, m, al, cl, L, HKM, rfl, hel, hal, hown, hE, HF, hLk, HCK, hb⟩ := hrel
    obtain ⟨ao, co, hvo⟩ := owns_shape hown
    subst hvo
    have hkm := HKM.out
    by_cases hm : 0 < m
    · obtain ⟨b, off, rfl⟩ : ∃ b off, al = some ⟨b, off, none⟩ := by
        rcases hal with h | h
        · omega
        · exact h
      have hm3 : decide ((0 : Int) < (m : Int)) = true := decide_eq_true (by omega)
      obtain ⟨N, hN⟩ : ∃ N : Nat, min size (m : Int) = (N : Int) := ⟨(min size (m : Int)).toNat, by omega⟩
      have hN1 : 1 ≤ N := by omega
      have hNS : N = min size.toNat m := by omega
      have HNS := Lib.hid hNS
      have hNm : N ≤ m := by omega
      have hdl : m = (rs.drop k).length := by rw [List.length_drop]; omega
      obtain ⟨hP, a', c', hR, hR2, hs1, hs2⟩ := recs_cut hel hdl hN1 hNm
      have hx := (hb.block _ (blk_lt hG0)).trans hG0
      obtain ⟨q0, q1⟩ := cells2R hx
      have hlx := rows_lit1 (E := encB) wr ((some ⟨b, off, none⟩, N, N), (rs.drop k).take N) 31 #[.slice (some ⟨b, off, none⟩) N N] rfl
      have hownA := hown.alloc (.cells #[.slice (some ⟨b, off, none⟩) N N] 31)
      have hbA := hb.alloc hb.size (.cells #[.slice (some ⟨b, off, none⟩) N N] 31)
      have hLb : L.length ≤ 100000 := by omega
      clear hkm hdl hNS
      go_wp2_with (at_builtin; refine wpList_app_rows blkT rfl _ _ rfl wA.heap.size (.slice ao L.length co) _ L [((some ⟨b, off, none⟩, N, N), (rs.drop k).take N)] rfl hownA rfl hlx (by rw [List.length_singleton]; omega) (by rw [List.length_singleton]; omega) hbA.size ?_; intro v6 w6 hown6 hg6)
      have hb6 := hbA.grown hg6 hbA.size (fun g e => (hownA.lt g e).1)
      go_roundw
      case rel =>
        have hkm := HKM.out
        refine ⟨k + N, m - N, a', c', L ++ [((some ⟨b, off, none⟩, N, N), (rs.drop k).take N)], (show _ = _ by omega), rfl, ?_, ?_, hown6, fun p hp => ?_, (show _ = _ by rw [flat_snoc, HF.out, List.take_add]), by simp; omega, (show _ ∧ _ from blk_step HCK.out HNS.out hm hkm), hb6⟩
        · rw [← List.drop_drop]; exact hR
        · by_cases e : m = N
          · left; omega
          · exact .inr (hR2 e)
        · rcases List.mem_append.1 hp with hp | hp
          · exact hE p hp
          · rw [List.mem_singleton] at hp
            subst hp; exact hP
      case measure => show m - N < m; omega
    · obtain rfl : m = 0 := by omega
      obtain rfl : k = rs.length := by omega
      have hF := HF.out
      rw [List.take_length] at hF
      obtain ⟨a8, c8, hv8, hr8, -⟩ := RowAt.of_owns hown (by omega)
      cases hv8
      go_wp2_with fail
      go_ret
      exact ⟨ao, co, L, rfl, ⟨hr8, fun p hp => (hE p hp).below hb⟩, hF, hLk, HCK.out.1, HCK.out.2.1, hb0.trans (hb.mono hb0.size)⟩
theorem row_step (Q P : List E2) (u : Nat) (j : Nat) (x y : Int) (h : P[j]? = some (x, y)) : rowR (Q ++ P.take (j + 1)) u = if x = (u : Int) then rowR (Q ++ P.take j) u ++ [y] else rowR (Q ++ P.take j) u := by
  rw [take_at _ _ _ h, ← List.append_assoc]
  generalize Q ++ P.take j = R
  unfold rowR
  rw [List.filter_append, List.map_append]
  by_cases e : x = (u : Int)
  · rw [if_pos e]; simp [e]
  · rw [if_neg e]; simp [e]
theorem rowU_iff (Q P : List E2) (u : Nat) : hasU (u : Int) P = true ↔ (rowR Q u).length < (rowR (Q ++ P) u).length := by
  unfold rowR hasU
  rw [List.filter_append, List.map_append, List.length_append, List.any_eq_true]
  simp only [List.length_map]
  constructor
  · rintro ⟨e, he, h⟩
    have : 0 < (P.filter fun e => decide (e.1 = (u : Int))).length := List.length_pos_of_mem (List.mem_filter.2 ⟨he, h⟩)
    omega
  · intro h
    have h0 : 0 < (P.filter fun e => decide (e.1 = (u : Int))).length := by omega
    obtain ⟨e, he⟩ := List.exists_mem_of_length_pos h0
    exact ⟨e, (List.mem_filter.1 he).1, (List.mem_filter.1 he).2⟩
def NbPost (w : World) (l : List Int) (m R : Nat) (e : Ending) (w' : World) : Prop := ∃ a c r : Nat, ∃ ad : Option Addr, a = l.length ∧ (r ≤ m ∧ r = R) ∧ e = .returned (.tuple #[.slice ad a c, .int .i64 (r : Int), .int .i64 0]) ∧ IntsAt w' (.slice ad l.length c) l ∧ (∀ p, ad = some p → w.heap.size ≤ p.block) ∧ Below w.heap.size w w'
set_option maxRecDepth 100000 in
set_option maxHeartbeats 3200000 in
theorem rneigh_any (size : Int) (a : Option Addr) (cap : Nat) (rs : List E2) (u : Nat) (w : World) (he : EdgesAt w (.slice a rs.length cap) rs) (hl : rs.length ≤ 100000) (hck : chkR size rs = 0) :
    Calls Try.prog 74 #[.agg #[.int .i64 size, .slice a rs.length cap], .int .i64 (u : Int)] w (NbPost w (rowR rs u) rs.length (rdsN size.toNat rs u)) := by
  have hsz : 1 ≤ size ∧ size ≤ 1024 := by
    unfold chkR at hck
    split at hck
    · cases hck
    · omega
  have hb0 : Below w.heap.size w (w.alloc (.cells #[.int .i64 size, .slice a rs.length cap] 33)) := (Below.refl _ _).alloc (Nat.le_refl _) _
  have hG0 := heap_alloc_new w (.cells #[.int .i64 size, .slice a rs.length cap] 33)
  obtain ⟨wA, hwA⟩ : ∃ W : World, W = w.alloc (.cells #[.int .i64 size, .slice a rs.length cap] 33) := ⟨_, rfl⟩
  rw [← hwA] at hb0 hG0
  have HWA := Lib.hid hwA
  have hcc := rncheck_any size a cap rs wA (he.below hb0)
  rw [hck] at hcc
  clear hwA hck
  obtain ⟨k0, k1⟩ := cells2R hG0
  go_enter Try.func74, Try.ntmps74
  go_wp2_with fail
  rw [← HWA.out]
  refine hcc.mono ?_
  rintro e wB ⟨rfl, hbB⟩
  have hG1 := (hbB.block _ (blk_lt hG0)).trans hG0
  have hb01 := hb0.trans (hbB.mono hb0.size)
  have hbk := rblocks_any size a cap rs wB (he.below hb01) hl hsz.1 hsz.2
  clear k0 k1 hcc
  obtain ⟨k0, k1⟩ := cells2R hG1
  go_wp2_with fail
  refine hbk.mono ?_
  rintro e wC ⟨a1, c1, L, rfl, hB, hF, hLl, hCk, hCe, hbC⟩
  have hend := rdsN_of (u := (u : Int)) (L.map Prod.snd) (by rw [List.length_map]; exact hLl) hCk (by rw [List.length_map]; exact hCe)
  rw [List.countP_map] at hend
  have HEND := Lib.hid hend
  clear hend hCk hCe
  have hb0C := hb01.trans (hbC.mono hb01.size)
  clear hbk k0 k1
  go_wp2_with fail
  go_loopw [8, 9, 23] (fun vo vr vi wr => ∃ k r : Nat, k ≤ L.length ∧ vi = .int .i64 (k : Int) ∧ vr = .int .i64 (r : Int) ∧ r ≤ k ∧ Hid (r = (L.take k).countP (hasU (u : Int) ∘ Prod.snd)) ∧ wr.ownsRow wC.heap.size 3 1 vo (rowR ((L.take k).flatMap Prod.snd) u).length (intsV (rowR ((L.take k).flatMap Prod.snd) u)) ∧ Below wC.heap.size wC wr) (fun _ _ vi _ => L.length - (intOf vi).toNat)
  case atStart => exact ⟨0, 0, Nat.zero_le _, rfl, rfl, Nat.le_refl _, (show _ = _ by simp), World.ownsRow_nil _ _ _ _, Below.refl _ _⟩
  case round =>
    obtain ⟨k, r, hk, rfl, rfl, hrk, HRC, hown, hb⟩ := hrel
    by_cases hlt : k < L.length
    · have hlt3 : (k : Int) < L.length := by omega
      obtain ⟨bL, oL, p, rfl, hp, hcapL, hcl⟩ := (hB.row.below hb).elem k hlt
      have cL := hcl 0 _ rfl
      have hcL1 : L.length ≤ c1 := hcapL
      have hEp := hB.each p (List.mem_of_getElem? hp)
      have hpk : (L.take (k + 1)).flatMap Prod.snd = (L.take k).flatMap Prod.snd ++ p.2 := by rw [take_at _ _ _ hp, flat_snoc]
      have hcp : (L.take (k + 1)).countP (hasU (u : Int) ∘ Prod.snd) = r + if hasU (u : Int) p.2 = true then 1 else 0 := by rw [take_at _ _ _ hp, List.countP_append, ← HRC.out]; simp
      have HCP := Lib.hid hcp
      clear hcp HRC
      obtain ⟨⟨ap, np, cp⟩, P⟩ := p
      dsimp only [encB] at cL hEp hpk
      rw [Nat.mul_one, Nat.add_zero] at cL
      have hnp : np = P.length := by obtain ⟨_, _, hvp, -⟩ := id hEp; cases hvp; rfl
      subst hnp
      obtain ⟨Q, hQ⟩ : ∃ Q, (L.take k).flatMap Prod.snd = Q := ⟨_, rfl⟩
      rw [hQ] at hown hpk
      have hlen : Q.length + P.length ≤ rs.length := by
        have h1 : (L.take (k + 1)).flatMap Prod.snd <+: L.flatMap Prod.snd := by
          refine ⟨(L.drop (k + 1)).flatMap Prod.snd, ?_⟩
          rw [← List.flatMap_append, List.take_append_drop]
        have h2 := h1.length_le
        rw [hpk, hF, List.length_append] at h2
        exact h2
      have hrl := rowR_len Q u
      have HPK := Lib.hid hpk
      obtain ⟨ao, co, hvo⟩ := owns_shape hown
      subst hvo
      have hown0 : wr.ownsRow wC.heap.size 3 1 (.slice ao (rowR Q u).length co) (rowR (Q ++ P.take 0) u).length (intsV (rowR (Q ++ P.take 0) u)) := by rw [List.take_zero, List.append_nil]; exact hown
      obtain ⟨l0, hl0⟩ : ∃ l, (rowR Q u).length = l := ⟨_, rfl⟩
      rw [hl0] at hown0
      rw [hl0]
      have HL0 := Lib.hid hl0
      clear hpk hQ hcl hown hl0
      go_wp2_with fail
      go_loopw [8, 31] (fun vo vi wx => ∃ j : Nat, j ≤ P.length ∧ vi = .int .i64 (j : Int) ∧ wx.ownsRow wC.heap.size 3 1 vo (rowR (Q ++ P.take j) u).length (intsV (rowR (Q ++ P.take j) u)) ∧ Below wC.heap.size wC wx) (fun _ vi _ => P.length - (intOf vi).toNat)
      case atStart => exact ⟨0, Nat.zero_le _, rfl, hown0, hb⟩
      case round =>
        obtain ⟨j, hj, rfl, hown, hb2⟩ := hrel
        obtain ⟨ax, cx, hvx⟩ := owns_shape hown
        subst hvx
        by_cases hltj : j < P.length
        · have hltj3 : (j : Int) < P.length := by omega
          obtain ⟨b9, o9, x, y, rfl, hxy, -, -, c0, c1⟩ := (hEp.below hb2).at j hltj
          have hst := row_step Q P u j x y hxy
          have hlx0 : (rowR (Q ++ P.take j) u).length ≤ 100000 := by
            have h1 := rowR_len (Q ++ P.take j) u
            rw [List.length_append, List.length_take] at h1
            omega
          have hlx1 : (rowR (Q ++ P.take j) u).length ≤ 100000 := hlx0
          obtain ⟨R, hR⟩ : ∃ R, rowR (Q ++ P.take j) u = R := ⟨_, rfl⟩
          rw [hR] at hst hown hlx0 hlx1
          rw [hR]
          have HST := Lib.hid hst
          obtain ⟨hXX, hXb⟩ := box_pair wr x y 37
          have hbX := hb2.trans (hXb.mono hb2.size)
          have hownX := hown.kept (grown_of_below hXb) (Classical.em _)
          obtain ⟨wX, hwX⟩ : ∃ W : World, W = wr.alloc (.cells #[.int .i64 x, .int .i64 y] 37) := ⟨_, rfl⟩
          obtain ⟨X, hX⟩ : ∃ X, wr.heap.size = X := ⟨_, rfl⟩
          rw [← hwX] at hXX hbX hownX
          rw [hX] at hXX
          have HWX := Lib.hid hwX
          have HX := Lib.hid hX
          clear hwX hX hXb hst hxy hR hown hlx0
          obtain ⟨x0, x1⟩ := cells2R hXX
          go_upto_region 13 with fail
          rw [← HWX.out, HX.out]
          by_cases hxu : x = (u : Int)
          · subst hxu
            have hlit := ints_lit1 wX y 3
            have hownA := hownX.alloc (.cells #[.int .i64 y] 3)
            have hbA := hbX.alloc hbX.size (.cells #[.int .i64 y] 3)
            go_wp2_with (at_builtin; refine wpList_app_ints intsT rfl _ _ rfl wC.heap.size (.slice ax R.length cx) _ R [y] rfl hownA rfl hlit (by rw [List.length_singleton]; omega) hbA.size ?_; intro v6 w6 hown6 hg6)
            have hb6 := hbA.grown hg6 hbA.size (fun g e => (hownA.lt g e).1)
            have hl6 := HST.out
            rw [if_pos rfl] at hl6
            rw [← hl6] at hown6
            go_roundw
            case rel => exact ⟨j + 1, by omega, by go_num, hown6, hb6⟩
            case measure => simp [intOf]; omega
          · have hl6 := HST.out
            rw [if_neg hxu] at hl6
            have hxf : (x == (u : Int)) = false := by simpa using hxu
            rw [← hl6] at hownX
            rw [← hl6]
            go_wp2_with fail
            go_roundw
            case rel => exact ⟨j + 1, by omega, by go_num, hownX, hbX⟩
            case measure => simp [intOf]; omega
        · obtain rfl : j = P.length := by omega
          rw [List.take_length, ← HPK.out] at hown
          rw [List.take_length, ← HPK.out]
          obtain ⟨l1, hl1⟩ : ∃ l, (rowR ((L.take (k + 1)).flatMap Prod.snd) u).length = l := ⟨_, rfl⟩
          have HL1 := Lib.hid hl1
          rw [hl1] at hown
          rw [hl1]
          clear hl1
          by_cases hgt : l0 < l1
          · have hgt3 : decide ((l0 : Int) < (l1 : Int)) = true := decide_eq_true (by omega)
            have hr9 : (r : Int) + 1 ≤ 9000000000 := by omega
            go_wp2_with fail
            go_roundw
            case rel => exact ⟨k + 1, r + 1, by omega, by go_num, by go_num, by omega, (show _ = _ by rw [HCP.out, if_pos ((rowU_iff Q P u).2 (by rw [HL0.out, ← HPK.out, HL1.out]; exact hgt))]), by rw [HL1.out]; exact hown, hb2⟩
            case measure => simp [intOf]; omega
          · have hgt3 : decide ((l0 : Int) < (l1 : Int)) = false := decide_eq_false (by omega)
            go_wp2_with fail
            go_roundw
            case rel => exact ⟨k + 1, r, by omega, by go_num, by go_num, by omega, (show _ = _ by rw [HCP.out, if_neg (fun h => hgt (by rw [← HL0.out, ← HL1.out, HPK.out]; exact (rowU_iff Q P u).1 h)), Nat.add_zero]), by rw [HL1.out]; exact hown, hb2⟩
            case measure => simp [intOf]; omega
    · obtain rfl : k = L.length := by omega
      rw [List.take_length, hF] at hown
      have hrl := rowR_len rs u
      obtain ⟨ao, co, hvo⟩ := owns_shape hown
      subst hvo
      obtain ⟨a8, c8, hv8, hr8, hp8⟩ := IntsAt.of_owns (xs := rowR rs u) hown (by omega)
      cases hv8
      go_wp2_with fail
      go_ret3
      exact ⟨_, _, r, _, rfl, ⟨by omega, by have := HRC.out; rw [List.take_length] at this; rw [this]; exact HEND.out⟩, rfl, hr8, fun p e => Nat.le_trans hb0C.size (hp8 p e), hb0C.trans (hb.mono hb0C.size)⟩
end Go.Proofs.Ytdkmdcdoiaelfaa
