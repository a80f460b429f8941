/- The contract of the program's triangles. -/
import Derived.Test.YtbkacbbhiecnkaaDoorTrTri
import Derived.Test.YtbkacbbhiecnkaaDoorMk
namespace Go.Proofs.YtbkacbbhiecnkaaDoor
open Go.RowKit Go.BigFrame Go.Maps

theorem tqRT : SliceT Tryd.prog 106 78 (.slice none 0 0) 1 24 := ⟨Tryd.underlying106, by kernel_rfl, rfl, by decide⟩
theorem make_tris (n : Nat) (hn : n ≤ 1000000) : ∀ w, (Instr.makeSlice 106 (.int .i64 (n : Int)) (.int .i64 (n : Int))).run Tryd.prog w = .ok (.slice (some ⟨w.heap.size, 0, none⟩) n n) (w.alloc (.cells (List.replicate n (Value.slice none 0 0)).toArray 78)) := by
  intro w
  obtain ⟨i, hi, hz, hs, hb⟩ := info_parts tqRT.info
  have h := run_make (P := Tryd.prog) w 106 78 i (.slice none 0 0) Tryd.underlying106 hi hz .i64 .i64 (n : Int) (n : Int) (by omega) (Int.le_refl _) (by rw [hb]; omega) (by omega)
  rw [h, hs]
  simp only [Int.toNat_natCast, Nat.mul_one, Value.cells]
  have hm : madeCells #[Value.slice none 0 0] n = (List.replicate n (Value.slice none 0 0)).toArray := by
    apply Array.ext_getElem?
    intro j
    simp only [madeCells]
    by_cases hj : j < n
    · simp [hj, Nat.mod_one]
    · simp [hj]
  rw [hm]
@[go_sem] theorem ite_minN (a b : Nat) : (if b < a then (b : Int) else (a : Int)) = min (a : Int) (b : Int) := by split <;> omega
@[go_sem] theorem ite_maxN (a b : Nat) : (if a < b then (b : Int) else (a : Int)) = max (a : Int) (b : Int) := by split <;> omega
/-- the rows before row k are done, those from k on are empty -/
structure TriS (G m k : Nat) (T : Nat → List (Nat × Nat)) (cs : Array Value) (wr : World) : Prop where
  blk : wr.heap[G]? = some (.cells cs 78 (0, 0))
  size : cs.size = m
  done : ∀ j, j < k → ∃ a c, cs[j]? = some (.slice a (T j).length c) ∧ RowAt encQ wr (.slice a (T j).length c) (T j) ∧ ∀ p, a = some p → p.block ≠ G
  rest : ∀ j, k ≤ j → j < m → cs[j]? = some (.slice none 0 0)
theorem TriS.below {G m k : Nat} {T : Nat → List (Nat × Nat)} {cs : Array Value} {wr w' : World} (h : TriS G m k T cs wr) (hb : Below wr.heap.size wr w') : TriS G m k T cs w' :=
  ⟨lit_next' hb h.blk, h.size, fun j hj => by
    obtain ⟨a, c, h1, h2, h3⟩ := h.done j hj
    exact ⟨a, c, h1, h2.below hb, h3⟩, h.rest⟩
/-- the next row is whole -/
theorem TriS.step {G m k : Nat} {T : Nat → List (Nat × Nat)} {cs : Array Value} {ws wr : World} {a : Option Addr} {c : Nat} (h : TriS G m k T cs ws) (hg : ws.grownBy wr (some G)) (hk : k < m)
    (hb : wr.heap[G]? = some (.cells (cs.setIfInBounds k (.slice a (T k).length c)) 78 (0, 0))) (hr : RowAt encQ wr (.slice a (T k).length c) (T k)) (ha : ∀ p, a = some p → p.block ≠ G) : TriS G m (k + 1) T (cs.setIfInBounds k (.slice a (T k).length c)) wr := by
  refine ⟨hb, by rw [Array.size_setIfInBounds]; exact h.size, fun j hj => ?_, fun j hj hm => ?_⟩
  · by_cases e : j = k
    · subst e
      exact ⟨a, c, by rw [Array.getElem?_setIfInBounds_self, if_pos (by rw [h.size]; exact hk)], hr, ha⟩
    · obtain ⟨a', c', h1, h2, h3⟩ := h.done j (by omega)
      exact ⟨a', c', by rw [Array.getElem?_setIfInBounds_ne (by omega)]; exact h1, h2.grown hg (fun g e n c p hp => by cases e; exact h3 p (Value.slice.inj hp).1), h3⟩
  · rw [Array.getElem?_setIfInBounds_ne (by omega)]; exact h.rest j (by omega) hm
theorem triN_len {n : Nat} {es : List E2} (i : Nat) (u v : Nat) (h : es[i]? = some ((u : Int), (v : Int))) : (triN es n i).length = (cmL es n u v).length := by
  rw [triN_at es n i u v h, List.length_map]
theorem triN_take {n : Nat} {es : List E2} (i t : Nat) (u v x : Nat) (h : es[i]? = some ((u : Int), (v : Int))) (hx : (cmL es n u v)[t]? = some x) : (triN es n i).take (t + 1) = (triN es n i).take t ++ [(ixN es u x, ixN es v x)] := by
  refine take_at _ _ _ ?_
  rw [triN_at es n i u v h, List.getElem?_map, hx]; rfl
set_option maxRecDepth 100000 in
set_option maxHeartbeats 6400000 in
theorem triangles_any (n : Nat) (a : Option Addr) (cap : Nat) (es : List E2) (w : World) (he : EdgesAt w (.slice a es.length cap) es) (hv : Valid n es) (hT : TzAt w) :
    Calls Tryd.prog 110 #[.agg #[.int .i64 n, .slice a es.length cap]] w fun e w' => ∃ G, e = .returned (.slice (some ⟨G, 0, none⟩) es.length es.length) ∧ w.heap.size ≤ G ∧ TrisAt w' G (triN es n) es.length ∧ Below w.heap.size w w' := by
  have hel := hv.length_le
  have hwf := wfE_of hv
  have hmm := @run_makeMap Tryd.prog
  have hb0 : Below w.heap.size w (w.alloc (.cells #[.int .i64 n, .slice a es.length cap] 27)) := (Below.refl _ _).alloc (Nat.le_refl _) _
  have hG0 := heap_alloc_new w (.cells #[.int .i64 n, .slice a es.length cap] 27)
  have hmap0 : ((w.alloc (.cells #[.int .i64 n, .slice a es.length cap] 27)).alloc (.map #[] 0)).ownsMap Tryd.prog 42 (plainElem (H := Unit) Tryd.prog 3) (w.heap.size + 1) 0 (.map []) := by
    have h := World.ownsMap_made (w.alloc (.cells #[.int .i64 n, .slice a es.length cap] 27)) Tryd.prog 42 (plainElem (H := Unit) Tryd.prog 3)
    simpa using h
  have hb1 := hb0.alloc hb0.size (.map #[] 0)
  have hG1 := lit_next' ((Below.refl _ _).alloc (Nat.le_refl _) (.map #[] 0)) hG0
  go_enter Tryd.func110, Tryd.ntmps110
  go_wp2_with fail
  obtain ⟨w1, hw1⟩ : ∃ W : World, W = (w.alloc (.cells #[.int .i64 n, .slice a es.length cap] 27)).alloc (.map #[] 0) := ⟨_, rfl⟩
  rw [← hw1] at hmap0 hb1 hG1 ⊢
  clear hw1 hmm hb0 hG0
  go_loopw [17] (fun vi wr => ∃ k : Nat, k ≤ es.length ∧ vi = .int .i64 k ∧ wr.ownsMap Tryd.prog 42 (plainElem (H := Unit) Tryd.prog 3) (w.heap.size + 1) k (mapD es k) ∧ Below w.heap.size w wr ∧ wr.heap[w.heap.size]? = some (.cells #[.int .i64 n, .slice a es.length cap] 27 (0, 0))) (fun vi _ => es.length - (intOf vi).toNat)
  case atStart => exact ⟨0, Nat.zero_le _, rfl, hmap0, hb1, hG1⟩
  case round =>
    clear hmap0 hb1 hG1
    obtain ⟨k, hk, rfl, hown, hb, hG⟩ := hrel
    have hzX := blk_lt hG
    by_cases hlt : k < es.length
    · have hk2 : es[k]? = some es[k] := List.getElem?_eq_getElem hlt
      have hD := mapD_step es k _ hk2
      have hwk := hwf _ (List.getElem_mem hlt)
      have hkey := keyE es[k] hwk
      obtain ⟨b0, o0, hb0', c0, c1⟩ : ∃ b off, a = some ⟨b, off, none⟩ ∧ wr.cell? ⟨b, off + k * 2, none⟩ = some (.int .i64 es[k].1) ∧ wr.cell? ⟨b, off + k * 2 + 1, none⟩ = some (.int .i64 es[k].2) := by
        obtain ⟨_, _, hv', _, _, _, hc⟩ := he.below hb
        cases hv'
        exact hc k _ hk2
      have hce : es.length ≤ cap := by obtain ⟨_, _, hv', h1, _⟩ := he; cases hv'; exact h1
      have HD := Lib.hid hD
      have HK := Lib.hid hk2
      clear hD hk2
      generalize es[k] = ek at *
      have hownA := hown.alloc (.cells #[.int .i64 ek.1, .int .i64 ek.2] 42)
      have hbA := hb.alloc hb.size (.cells #[.int .i64 ek.1, .int .i64 ek.2] 42)
      have hGA := lit_next' ((Below.refl _ _).alloc (Nat.le_refl _) (.cells #[.int .i64 ek.1, .int .i64 ek.2] 42)) hG
      subst hb0'
      go_wp2_with (first
        | (at_mapUpdate; refine wpList_mapUpdate_own _ rfl _ _ _ 131 rfl 42 3 lawE Tryd.underlying131 _ (w.heap.size + 1) k _ rfl hownA (by unfold maxLen; omega) _ _ _ rfl rfl hkey _ [] (plainElem_int Tryd.underlying3 (WalkArith.wf_i64 (by omega))) ?_; intro w5 hown5 hgrow5))
      go_roundw
      case rel => exact ⟨k + 1, by omega, by go_num, by rw [HD.out]; exact hown5, hbA.grown hgrow5 hbA.size (fun j hj => by cases hj; omega), grown_blk hgrow5 hGA (by intro e; have := Option.some.inj e; omega)⟩
      case measure => simp [intOf]; omega
    · obtain rfl : k = es.length := by omega
      have g1 : wr.cell? ⟨w.heap.size, 1, none⟩ = some (.slice a es.length cap) := by rw [cell_blk hG]; rfl
      have hmk := make_tris es.length (by omega)
      have gA : ∀ o, (wr.alloc o).cell? ⟨w.heap.size, 1, none⟩ = some (.slice a es.length cap) := fun o => cell_alloc g1
      go_wp2_with fail
      have hT0 : TriS wr.heap.size es.length 0 (triN es n) (Array.replicate es.length (Value.slice none 0 0)) (wr.alloc (.cells (Array.replicate es.length (Value.slice none 0 0)) 78)) :=
        ⟨heap_alloc_new _ _, Array.size_replicate, fun j hj => by omega, fun j _ hj => by rw [Array.getElem?_replicate, if_pos hj]⟩
      have hownA := hown.alloc (.cells (Array.replicate es.length (Value.slice none 0 0)) 78)
      have hbA := hb.alloc hb.size (.cells (Array.replicate es.length (Value.slice none 0 0)) 78)
      have hGA := lit_next' ((Below.refl _ _).alloc (Nat.le_refl _) (.cells (Array.replicate es.length (Value.slice none 0 0)) 78)) hG
      have hMG : w.heap.size + 1 < wr.heap.size := hown.lt
      obtain ⟨G, hGG⟩ : ∃ G, wr.heap.size = G := ⟨_, rfl⟩
      obtain ⟨w2, hw2⟩ : ∃ W : World, W = wr.alloc (.cells (Array.replicate es.length (Value.slice none 0 0)) 78) := ⟨_, rfl⟩
      rw [← hw2] at hT0 hownA hbA hGA ⊢
      rw [hGG] at hT0 hMG ⊢
      clear hw2 hGG hmk gA g1 hG hb hown
      go_loopw [33] (fun vi wr => ∃ k : Nat, k ≤ es.length ∧ vi = .int .i64 k ∧ ∃ cs, TriS G es.length k (triN es n) cs wr ∧ wr.ownsMap Tryd.prog 42 (plainElem (H := Unit) Tryd.prog 3) (w.heap.size + 1) es.length (mapD es es.length) ∧ Below w.heap.size w wr ∧ wr.heap[w.heap.size]? = some (.cells #[.int .i64 n, .slice a es.length cap] 27 (0, 0))) (fun vi _ => es.length - (intOf vi).toNat)
      case atStart => exact ⟨0, Nat.zero_le _, rfl, _, hT0, hownA, hbA, hGA⟩
      case round =>
        clear hT0 hownA hbA hGA
        obtain ⟨k, hk, rfl, cs, hS, hown, hb, hG⟩ := hrel
        by_cases hlt : k < es.length
        · have hk2 : es[k]? = some es[k] := List.getElem?_eq_getElem hlt
          obtain ⟨u, v, huv, hltuv, hvn, hadj⟩ := edge_at hv k _ hk2
          rw [huv] at hk2
          have hdk : decide ((k : Int) < es.length) = true := by simp; omega
          obtain ⟨b0, o0, hb0', c0, c1⟩ : ∃ b off, a = some ⟨b, off, none⟩ ∧ wr.cell? ⟨b, off + k * 2, none⟩ = some (.int .i64 (u : Int)) ∧ wr.cell? ⟨b, off + k * 2 + 1, none⟩ = some (.int .i64 (v : Int)) := by
            obtain ⟨_, _, hv', _, _, _, hc⟩ := he.below hb
            cases hv'
            exact hc k _ hk2
          have hce : es.length ≤ cap := by obtain ⟨_, _, hv', h1, _⟩ := he; cases hv'; exact h1
          have hzX := blk_lt hG
          have hbn := (Below.refl wr.heap.size wr).alloc (Nat.le_refl _) (.cells #[.int .i64 (u : Int), .int .i64 (v : Int)] 42)
          have hEA := heap_alloc_new wr (.cells #[.int .i64 (u : Int), .int .i64 (v : Int)] 42)
          have hGA := lit_next' hbn hG
          have hbA := hb.trans (hbn.mono hb.size)
          have hownA := hown.kept (grown_of_below hbn) (by simp)
          have hSA := hS.below hbn
          have heA := he.below hbA
          have xA : ∀ j, (wr.alloc (.cells #[.int .i64 (u : Int), .int .i64 (v : Int)] 42)).cell? ⟨w.heap.size, j, none⟩ = #[Value.int .i64 n, .slice a es.length cap][j]? := fun j => cell_blk hGA
          have x0 := xA 0
          have x1 := xA 1
          have hcl := cmL_length es n u v
          have hcm := gcommon_any n u v a cap es _ heA hv (by omega) hvn (by omega) (hT.below hbA)
          rw [cmI_length] at hcm
          have HK := Lib.hid hk2
          clear hk2 hbn hS hown hb xA huv hcl
          subst hb0'
          go_wp2_with fail
          refine hcm.mono ?_
          rintro e w3 ⟨x, rfl, hown3, hb3⟩
          have hcl := cmL_length es n u v
          have hn64 := hv.2.1
          rw [← cmI_length] at hown3
          obtain ⟨a3, c3, rfl, hi3, hp3⟩ := IntsAt.of_owns hown3 (by rw [cmI_length]; omega)
          rw [cmI_length]
          have hG3 := lit_next' hb3 hGA
          have hE3 := lit_next' hb3 hEA
          have hb03 := hbA.trans (hb3.mono hbA.size)
          have hb03' := hb03
          have hown3m := hownA.kept (grown_of_below hb3) (by simp)
          have hS3 := hSA.below hb3
          have hGlt := blk_lt hSA.blk
          have hzz := blk_lt hS3.blk
          have hEG : wr.heap.size ≠ G := by have := blk_lt hEA; intro e; have h := hSA.blk; rw [← e, hEA] at h; cases h
          have hp3G : ∀ p, a3 = some p → p.block ≠ G := fun p hp => by have := hp3 p hp; omega
          have hcs0 : cs.setIfInBounds k (.slice none 0 0) = cs := by
            have hr := hS3.rest k (Nat.le_refl _) hlt
            apply Array.ext_getElem?
            intro j
            rw [Array.getElem?_setIfInBounds]
            by_cases e : k = j
            · subst e; rw [if_pos rfl, if_pos (by rw [hS3.size]; exact hlt), hr]
            · rw [if_neg e]
          have hblk3 := hS3.blk
          rw [← hcs0] at hblk3
          obtain ⟨Eb, hEb⟩ : ∃ Eb, wr.heap.size = Eb := ⟨_, rfl⟩
          rw [hEb] at hE3 hEG ⊢
          clear hEb hown3 hp3 hb3 hGA hEA hbA hownA hSA hGlt heA x0 x1 c0 c1 hcm hcs0
          go_wp2_with fail
          go_loopw [45] (fun vi wr => ∃ t : Nat, t ≤ (cmL es n u v).length ∧ vi = .int .i64 t ∧ ∃ v' : Value, wr.heap[G]? = some (.cells (cs.setIfInBounds k v') 78 (0, 0)) ∧ wr.ownsRow w3.heap.size 77 encQ.k v' t (flatR encQ ((triN es n k).take t)) ∧ w3.grownBy wr (some G) ∧ Below w.heap.size w wr) (fun vi _ => (cmL es n u v).length - (intOf vi).toNat)
          case atStart => exact ⟨0, Nat.zero_le _, rfl, .slice none 0 0, hblk3, World.ownsRow_nil _ _ _ _, grown_refl _ _, hb03⟩
          case round =>
            clear hblk3 hb03
            obtain ⟨t, ht, rfl, v', hblk, hor, hgr, hbw⟩ := hrel
            obtain ⟨a6, c6, hv6⟩ := owns_shape hor
            subst hv6
            by_cases hltt : t < (cmL es n u v).length
            · have hx : (cmL es n u v)[t]? = some (cmL es n u v)[t] := List.getElem?_eq_getElem hltt
              obtain ⟨x, hxx⟩ : ∃ x, (cmL es n u v)[t] = x := ⟨_, rfl⟩
              rw [hxx] at hx
              obtain ⟨hxn, hux, hvx⟩ := (cmL_mem es n u v x).1 (List.mem_of_getElem? hx)
              have hiw := hi3.grown hgr (fun g e n' c' p hp => by cases e; exact hp3G p (Value.slice.inj hp).1)
              obtain ⟨b7, o7, hb7, y0⟩ : ∃ b off, a3 = some ⟨b, off, none⟩ ∧ wr.cell? ⟨b, off + t, none⟩ = some (.int .i64 (x : Int)) := by
                obtain ⟨_, _, hv', _, _, _, hc⟩ := hiw
                cases hv'
                refine hc t _ ?_
                unfold cmI
                rw [List.getElem?_map, hx]; rfl
              have hE := grown_blk hgr hE3 (by intro e; exact hEG (Option.some.inj e))
              have e0 : wr.cell? ⟨Eb, 0, none⟩ = some (.int .i64 (u : Int)) := by rw [cell_blk hE]; rfl
              have e1 : wr.cell? ⟨Eb, 1, none⟩ = some (.int .i64 (v : Int)) := by rw [cell_blk hE]; rfl
              have hmw := hown3m.kept hgr (by intro e; have := Option.some.inj e; omega)
              have hkk := mapD_at es hwf (valid_nodup hv) es.length (Nat.le_refl _)
              obtain ⟨hg1, hl1⟩ := ixN_get hv u x hux
              obtain ⟨hg2, hl2⟩ := ixN_get hv v x hvx
              have hkey1 := keyE _ (hwf _ (List.mem_of_getElem? hg1))
              have hkey2 := keyE _ (hwf _ (List.mem_of_getElem? hg2))
              have hC1 : ∀ c : Int, (mapD es es.length).atKey (litE (min (u : Int) x, max (u : Int) x)) (.lit (.int .i64 0)) = .lit (.int .i64 c) → c = (ixN es u x : Int) := fun c hc => by
                rw [hkk _ _ hl1 hg1] at hc
                simpa using hc.symm
              have hC2 : ∀ c : Int, (mapD es es.length).atKey (litE (min (v : Int) x, max (v : Int) x)) (.lit (.int .i64 0)) = .lit (.int .i64 c) → c = (ixN es v x : Int) := fun c hc => by
                rw [hkk _ _ hl2 hg2] at hc
                simpa using hc.symm
              have htk := triN_take (n := n) k t u v x HK.out hx
              have htl : ((triN es n k).take t).length = t := by rw [List.length_take, triN_len k u v HK.out]; omega
              have q0 : wr.cell? ⟨G, k, none⟩ = some (.slice a6 t c6) := by
                rw [cell_blk hblk, Array.getElem?_setIfInBounds_self, if_pos (by rw [hS3.size]; exact hlt)]
              have hlt3 : (t : Int) < (cmL es n u v).length := by omega
              have hlx := rows_lit1 (E := encQ) wr (ixN es u x, ixN es v x) 77 #[.int .i64 (ixN es u x : Int), .int .i64 (ixN es v x : Int)] rfl
              have horA := hor.alloc (.cells #[.int .i64 (ixN es u x : Int), .int .i64 (ixN es v x : Int)] 77)
              have hgrA := grown_trans hgr (World.grownBy_alloc wr (.cells #[.int .i64 (ixN es u x : Int), .int .i64 (ixN es v x : Int)] 77) (some G))
              have hbwA := hbw.alloc hbw.size (.cells #[.int .i64 (ixN es u x : Int), .int .i64 (ixN es v x : Int)] 77)
              have hblkA := lit_next' ((Below.refl _ _).alloc (Nat.le_refl _) (.cells #[.int .i64 (ixN es u x : Int), .int .i64 (ixN es v x : Int)] 77)) hblk
              obtain ⟨P, hP⟩ : ∃ P, (triN es n k).take t = P := ⟨_, rfl⟩
              rw [hP] at htk htl hor horA
              have HTK := Lib.hid htk
              have HTL := Lib.hid htl
              clear htk htl hP hx hxx hkk hg1 hg2 hl1 hl2 hor hgr hbw hiw hE
              generalize ixN es u x = i1 at *
              generalize ixN es v x = i2 at *
              subst hb7
              go_wp2_with (first
                | (at_lookup; refine wpList_lookup_own_int _ rfl _ _ 131 rfl 42 3 .i64 lawE Tryd.underlying131 Tryd.underlying3 (zeroI _) (w.heap.size + 1) es.length _ rfl hmw _ _ rfl hkey1 ?_; intro c hat _; obtain rfl := hC1 c hat; clear hC1)
                | (at_lookup; refine wpList_lookup_own_int _ rfl _ _ 131 rfl 42 3 .i64 lawE Tryd.underlying131 Tryd.underlying3 (zeroI _) (w.heap.size + 1) es.length _ rfl hmw _ _ rfl hkey2 ?_; intro c hat2 _; obtain rfl := hC2 c hat2)
                | (at_builtin; refine wpList_app_rows pqRT rfl _ _ rfl w3.heap.size (.slice a6 t c6) (.slice (some ⟨wr.heap.size, 0, none⟩) 1 1) P [(i1, i2)] rfl (by rw [HTL.out]; exact horA) rfl hlx (by rw [HTL.out]; simp; omega) (by rw [HTL.out]; simp; omega) hgrA.size ?_; intro v7 w7 hown7 hg7; obtain ⟨a7, c7, rfl⟩ := owns_shape hown7; have hblk7 := grown_blk hg7 hblkA (by intro e; have := horA.lt G e.symm; omega); have q7 : w7.cell? ⟨G, k, none⟩ = some (.slice a6 t c6) := (by rw [cell_blk hblk7, Array.getElem?_setIfInBounds_self, if_pos (by rw [hS3.size]; exact hlt)]); have f7 : ∀ j, w7.frozen? ⟨G, j, none⟩ = false := (fun j => free_blk hblk7)))
              go_roundw
              case rel =>
                have hl7 : (P ++ [(i1, i2)]).length = P.length + 1 := List.length_append
                rw [hl7] at hown7
                have hnb : ∀ g, (Value.slice a6 t c6).ownBlock = some g → w3.heap.size ≤ g := fun g e => (horA.lt g e).1
                refine ⟨t + 1, by omega, by go_num, .slice a7 (P.length + 1) c7, ?_, ?_, ?_, ?_⟩
                · rw [heap_setCell_same _ _ _ _ _ _ hblk7, Array.setIfInBounds_setIfInBounds]
                · have h := hown7.kept (grown_store (w := w7) (b := G) (j := k) (v := .slice a7 (P.length + 1) c7)) (by
                    cases hs : (Value.slice a7 (P.length + 1) c7).ownBlock with
                    | none => exact .inl rfl
                    | some g => have := hown7.lt g hs; exact .inr (by simp; omega))
                  rw [HTK.out]
                  have e : t + 1 = P.length + 1 := by rw [HTL.out]
                  rw [e]
                  exact h
                · exact grown_trans (grown_new hgrA hg7 (fun g e => .inr (hnb g e))) grown_store
                · exact (hbwA.grown hg7 hbwA.size (fun g e => by have := hnb g e; have := hb03'.size; omega)).setCell (p := ⟨G, k, none⟩) (show w.heap.size ≤ G by omega) _
              case measure => simp [intOf]; omega
            · obtain rfl : t = (cmL es n u v).length := by omega
              have hlen := triN_len (n := n) k u v HK.out
              rw [List.take_of_length_le (by omega), ← hlen] at hor
              obtain ⟨a8, c8, hv8, hr8, hp8⟩ := RowAt.of_owns hor (by omega)
              cases hv8
              rw [← hlen] at hblk
              have hst := hS3.step hgr hlt hblk hr8 (fun p hp => by have := hp8 p hp; omega)
              go_wp2_with fail
              go_roundw
              case rel => exact ⟨k + 1, by omega, by go_num, _, hst, hown3m.kept hgr (by intro e; have := Option.some.inj e; omega), hbw, grown_blk hgr hG3 (by intro e; have := Option.some.inj e; omega)⟩
              case measure => simp [intOf]; omega
        · obtain rfl : k = es.length := by omega
          go_wp2_with fail
          go_ret
          refine ⟨G, rfl, by omega, ⟨fun j hj => ?_⟩, hb⟩
          obtain ⟨a', c', h1, h2, _⟩ := hS.done j hj
          exact ⟨a', c', by rw [cell_blk hS.blk]; exact h1, h2⟩
end Go.Proofs.YtbkacbbhiecnkaaDoor
