/- append(s, make([]int, k)...) onto a row of numbers of one's own, with room and without. -/
import Derived.Test.YtdkmdcdoiaelfaaApp
import Derived.Lib.AppendZerosOnto
namespace Go.Proofs.Ytdkmdcdoiaelfaa
open Go.RowKit Go.BigFrame
section
variable {P : Program} {w : World} {t tn e : TypeId}
theorem zeros_list (k : Nat) : (Builtin.zeroCells #[Value.int .i64 0] k).toList = intsV (List.replicate k 0) := by
  unfold Builtin.zeroCells intsV
  refine List.ext_getElem (by simp) fun i h1 h2 => ?_
  simp [Nat.mod_one]
theorem run_app_zeros (S : SliceT P t e (.int .i64 0) 1 8) (kn : IntKind) (htn : P.underlying tn = some (.int kn)) (ty : TypeId) (base : Nat) (v : Value) (xs : List Int) (hown : w.ownsRow base e 1 v xs.length (intsV xs)) (k : Nat) (hk : 0 < k) (hlen : xs.length + k ≤ 1000000) (hbase : base ≤ w.heap.size) :
    ∃ v' w', (Builtin.append_ #[t, tn] ty #[v, .int .i64 k]).run P w = .ok v' w' ∧ w'.ownsRow base e 1 v' (xs ++ List.replicate k 0).length (intsV (xs ++ List.replicate k 0)) ∧ w.grownBy w' v.ownBlock := by
  obtain ⟨i, hi, hz, hs, hb⟩ := info_parts S.info
  have hzc : (Value.int IntKind.i64 0).cells = #[Value.int .i64 0] := rfl
  have hzl := zeros_list k
  have hiv : intsV (xs ++ List.replicate k 0) = intsV xs ++ intsV (List.replicate k 0) := by simp [intsV]
  have hll : (xs ++ List.replicate k 0).length = xs.length + k := by simp
  have hnl : (intsV (List.replicate k 0)).length = k := by simp [intsV]
  have hxl : (intsV xs).length = xs.length := by simp [intsV]
  have h1 := one_ints (List.replicate k 0)
  rw [hll, hiv]
  have h63 : xs.length + k ≤ maxLen := by unfold maxLen; omega
  have grown : ∀ (old : Nat), old < xs.length + k → ∀ (row : Option Nat),
      (w.drew.alloc (.cells ((intsV xs).toArray ++ (intsV (List.replicate k 0)).toArray ++ Builtin.zeroCells (Value.int IntKind.i64 0).cells (grownCap w (xs.length + k) old e - (xs.length + k))) e)).ownsRow base e 1
        (.slice (some ⟨w.heap.size, 0, none⟩) (xs.length + k) (grownCap w (xs.length + k) old e)) (xs.length + k) (intsV xs ++ intsV (List.replicate k 0)) ∧
      w.grownBy (w.drew.alloc (.cells ((intsV xs).toArray ++ (intsV (List.replicate k 0)).toArray ++ Builtin.zeroCells (Value.int IntKind.i64 0).cells (grownCap w (xs.length + k) old e - (xs.length + k))) e)) row := by
    intro old ho row
    have hge := grownCap_ge w (xs.length + k) old e
    have hcm : grownCap w (xs.length + k) old e ≤ maxLen := grownCap_le_maxLen w (xs.length + k) old e h63
    refine ⟨⟨by rw [List.length_append, hxl, hnl, Nat.mul_one], .inr ⟨w.heap.size, _, _, rfl, hbase, heap_alloc_new w.drew _, hge, hcm, ?_, ?_⟩⟩, ⟨rfl, rfl, rfl, by simp, fun j hj _ => heap_alloc_old w.drew _ hj⟩⟩
    · simp only [Array.size_append, List.size_toArray, size_zeroCells, hxl, hnl, hzc, List.size_toArray, List.length_cons, List.length_nil]
      omega
    · simp only [Array.toList_append, List.append_assoc, Nat.mul_one]
      rw [← List.append_assoc, show xs.length + k = (intsV xs ++ intsV (List.replicate k 0)).length by rw [List.length_append, hxl, hnl]]
      exact List.take_left
  have hza : Builtin.zeroCells (Value.int IntKind.i64 0).cells k = (intsV (List.replicate k 0)).toArray := by
    rw [hzc, ← hzl]
  rcases hown.2 with ⟨rfl, h0⟩ | ⟨g, cap, cur, rfl, hbg, hg, hnc, hcm, hcs, htake⟩
  · obtain rfl : xs = [] := List.eq_nil_of_length_eq_zero (by omega)
    have hr := Lib.run_append_nil_zeros w t tn ty e i (.int .i64 0) .i64 kn S.ht htn hi hz k hk (by omega) (by omega) (by rw [hb]; omega)
    have hgr := grown 0 (by simp; omega) (Value.ownBlock (.slice none 0 0))
    rw [hza] at hr
    simp only [intsV, List.map_nil, List.length_nil, Nat.zero_add, List.nil_append, Array.empty_append] at hgr hr ⊢
    exact ⟨_, _, hr, hgr.1, hgr.2⟩
  · by_cases hroom : xs.length + k ≤ cap
    · have hfit : xs.length + (intsV (List.replicate k 0)).length ≤ cur.size := by rw [hnl, hcs]; omega
      have hst := run_storeCells_at P g xs.length e (intsV (List.replicate k 0)) 0 cur w hg (by simpa using hfit) h1
      have hw : IntKind.i64.wrap (k : Int) = k := by rw [IntKind.wrap_i64]; omega
      have hneg : ¬ ((k : Int) < 0) := by omega
      have h48 : ¬ (281474976710656 < (k : Int) * 8) := by omega
      have hk0 : ¬ (k = 0) := by omega
      have hr : (Builtin.append_ #[t, tn] ty #[.slice (some ⟨g, 0, none⟩) xs.length cap, .int .i64 k]).run P w =
          .ok (.slice (some ⟨g, 0, none⟩) (xs.length + k) cap) (w.setRow g (cur.toList.take xs.length ++ intsV (List.replicate k 0) ++ cur.toList.drop (xs.length + (intsV (List.replicate k 0)).length)).toArray) := by
        simp only [Nat.add_zero] at hst
        simp [Builtin.append_, run_underlying S.ht, run_underlying htn, sizeOf, typeInfo, zeroValue, hi, hz, hs, hb, asInt, asIntOf, hw, hneg, h48, hk0, hroom, Addr.add_lit, hst, hzc, zeros_list]
      refine ⟨_, _, hr, ⟨by rw [List.length_append, hxl, hnl, Nat.mul_one], .inr ⟨g, cap, _, rfl, hbg, setRow_heap w g cur _ e _ hg, hroom, hcm, ?_, ?_⟩⟩, ⟨rfl, rfl, rfl, by simp, fun j _ hj => setRow_other w g j _ (fun e => hj (by simp [Value.ownBlock, e]))⟩⟩
      · simp only [List.size_toArray, List.length_append, List.length_take, List.length_drop, Array.length_toList]
        omega
      · rw [Nat.mul_one] at htake
        rw [htake, Nat.mul_one, show xs.length + k = (intsV xs ++ intsV (List.replicate k 0)).length by rw [List.length_append, hxl, hnl]]
        exact List.take_left
    · have holds : ∀ j u, (intsV xs)[j]? = some u → w.cell? ((⟨g, 0, none⟩ : Addr).add j) = some u := hown.cells (g := g) rfl
      have hf := run_firstCells_some (P := P) w.drew i.size xs.length ⟨g, 0, none⟩ xs.length cap (intsV xs) (by rw [hxl, hs, Nat.mul_one]) holds
      have hr := Lib.run_append_grow_zeros w t tn ty e i (.int .i64 0) .i64 kn S.ht htn hi hz (some ⟨g, 0, none⟩) xs.length cap (intsV xs) hf k hk (by omega) (by omega) (by omega) (by rw [hb]; omega) (growslice_fits (by omega) (by rw [hb]; omega))
      have hgr := grown cap (by omega) (Value.ownBlock (.slice (some ⟨g, 0, none⟩) xs.length cap))
      rw [hza] at hr
      exact ⟨_, _, hr, hgr.1, hgr.2⟩
theorem step_app_zeros {ops : Array Oper} {o : Oper} {a : Act} {K : Act → World → Prop} {Q : Exit → Act → World → Prop} {E : Prop} (S : SliceT P t e (.int .i64 0) 1 8) (kn : IntKind) (htn : P.underlying tn = some (.int kn)) (hgd : o.guard = none) (s x : Operand)
    (ho : o.op = .call { callee := .builtin .append, args := #[s, x], argTypes := #[t, tn] }) (base : Nat) (v : Value) (xs : List Int) (k : Nat) (hs : a.eval s = v) (hown : w.ownsRow base e 1 v xs.length (intsV xs))
    (hx : a.eval x = .int .i64 k) (hk : 0 < k) (hlen : xs.length + k ≤ 1000000) (hbase : base ≤ w.heap.size)
    (h : ∀ v' w', w'.ownsRow base e 1 v' (xs ++ List.replicate k 0).length (intsV (xs ++ List.replicate k 0)) → w.grownBy w' v.ownBlock → K (a.put o.dst v') w') : if Region.wanted o (yielded ops a.tmps) = true then Oper.wp P o a w K Q else E := by
  obtain ⟨v', w', hr, h2, h3⟩ := run_app_zeros S kn htn o.type base v xs hown k hk hlen hbase
  rw [if_pos (by simp [Region.wanted, hgd])]
  exact Lib.wp_append_run w s x t tn ho v _ hs hx v' w' hr (h v' w' h2 h3)
end
end Go.Proofs.Ytdkmdcdoiaelfaa
