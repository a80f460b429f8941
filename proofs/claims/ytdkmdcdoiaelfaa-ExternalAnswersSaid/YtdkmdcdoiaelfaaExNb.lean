/- The contract of the program's lists of neighbours of a run. -/
import Derived.Test.YtdkmdcdoiaelfaaGrid
import Derived.Test.YtdkmdcdoiaelfaaIClone
import Derived.Test.YtdkmdcdoiaelfaaRunGr
import Derived.Deep.RegionLaw
import Derived.Deep.CutRange
namespace Go.Proofs.Ytdkmdcdoiaelfaa
open Go.RowKit Go.BigFrame

section
variable {P : Program} {w : World} {t e : TypeId}
theorem wp_app_ints_at {o : Oper} {a : Act} {K : Act → World → Prop} {Q : Exit → Act → World → Prop} (S : SliceT P t e (.int .i64 0) 1 8) (s x : Operand)
    (ho : o.op = .call { callee := .builtin .append, args := #[s, x], argTypes := #[t, t] }) (base : Nat) (v src : Value) (xs ys : List Int) (hs : a.eval s = v) (hown : w.ownsRow base e 1 v xs.length (intsV xs))
    (hx : a.eval x = src) (hsrc : IntsAt w src ys) (hlen : xs.length + ys.length ≤ 17592186044416) (hbase : base ≤ w.heap.size)
    (h : ∀ v' w', w'.ownsRow base e 1 v' (xs ++ ys).length (intsV (xs ++ ys)) → w.grownBy w' v.ownBlock → (v'.ownBlock = v.ownBlock ∨ v'.ownBlock = some w.heap.size) → K (a.put o.dst v') w') : Oper.wp P o a w K Q := by
  obtain ⟨i, hi, hz, hsz, hb⟩ := info_parts S.info
  obtain ⟨ao, c, rfl, hn, hc⟩ := news_of_ints hsrc
  have hone : ∀ u ∈ intsV ys, u.oneCell' = true := fun u hu => by
    simp only [intsV, List.mem_map] at hu
    obtain ⟨y, _, rfl⟩ := hu
    rfl
  obtain ⟨v', w', hr, h2, h3, h4⟩ : ∃ v' w', (Builtin.append_ #[t, t] o.type #[v, .slice ao ys.length c]).run P w = .ok v' w' ∧ w'.ownsRow base e 1 v' (xs.length + ys.length) (intsV xs ++ intsV ys) ∧ w.grownBy w' v.ownBlock ∧ (v'.ownBlock = v.ownBlock ∨ v'.ownBlock = some w.heap.size) := by
    cases ao with
    | none =>
      obtain ⟨h0, rfl⟩ := hn rfl
      obtain rfl : ys = [] := List.eq_nil_of_length_eq_zero h0
      exact ⟨v, w, run_append_owned_none w base t o.type e i 1 S.ht hi v xs.length (intsV xs) hown, by simpa [intsV] using hown, World.grownBy.refl _ _, .inl rfl⟩
    | some ad =>
      obtain ⟨v', w', h2, h3, h4, _, h5⟩ := run_append_own_at (P := P) w base t o.type e i (.int .i64 0) 1 8 S.ht hi hz hsz hb S.hzs S.hsz v xs.length (intsV xs) hown ad ys.length c (intsV ys) (by simp [intsV]) (hc ad rfl) hone (by unfold maxLen; omega) (by omega) hbase
      exact ⟨v', w', h2, h3, h4, h5⟩
  unfold Oper.wp execOp
  simp only [ho, resolve, invoke, builtin, Sem.run_bind, Sem.run_pure, Result.andThen_ok, List.map_toArray, List.map_cons, List.map_nil, hs, hx, hr]
  exact h v' w' (by rw [List.length_append, show intsV (xs ++ ys) = intsV xs ++ intsV ys by simp [intsV]]; exact h2) h3 h4
theorem step_app_ints_at {ops : Array Oper} {o : Oper} {a : Act} {K : Act → World → Prop} {Q : Exit → Act → World → Prop} {X : Prop} (S : SliceT P t e (.int .i64 0) 1 8) (hgd : o.guard = none) (s x : Operand)
    (ho : o.op = .call { callee := .builtin .append, args := #[s, x], argTypes := #[t, t] }) (base : Nat) (v src : Value) (xs ys : List Int) (hs : a.eval s = v) (hown : w.ownsRow base e 1 v xs.length (intsV xs))
    (hx : a.eval x = src) (hsrc : IntsAt w src ys) (hlen : xs.length + ys.length ≤ 17592186044416) (hbase : base ≤ w.heap.size)
    (h : ∀ v' w', w'.ownsRow base e 1 v' (xs ++ ys).length (intsV (xs ++ ys)) → w.grownBy w' v.ownBlock → (v'.ownBlock = v.ownBlock ∨ v'.ownBlock = some w.heap.size) → K (a.put o.dst v') w') : if Region.wanted o (yielded ops a.tmps) = true then Oper.wp P o a w K Q else X := by
  rw [if_pos (by simp [Region.wanted, hgd])]
  exact wp_app_ints_at S s x ho base v src xs ys hs hown hx hsrc hlen hbase h
end
/-- the second nodes of the records of a node -/
def rowR (rs : List E2) (i : Nat) : List Int := (rs.filter fun e => decide (e.1 = (i : Int))).map Prod.snd
theorem rowR_snoc (rs : List E2) (x : Nat) (y : Int) (i : Nat) : rowR (rs ++ [((x : Int), y)]) i = if i = x then rowR rs i ++ [y] else rowR rs i := by
  unfold rowR
  rw [List.filter_append, List.map_append]
  by_cases h : i = x
  · rw [if_pos h, h]; simp
  · rw [if_neg h]
    have : ¬ ((x : Int) = (i : Int)) := by omega
    simp [this]
theorem rowR_len (rs : List E2) (i : Nat) : (rowR rs i).length ≤ rs.length := by
  unfold rowR; rw [List.length_map]; exact List.length_filter_le _ _
set_option maxRecDepth 100000 in
set_option maxHeartbeats 6400000 in
theorem exnb_any (size : Int) (n : Nat) (a : Option Addr) (cap : Nat) (rs : List E2) (w : World) (he : EdgesAt w (.slice a rs.length cap) rs) (hl : rs.length ≤ 100000) (hn : n ≤ 64) (hr : ∀ e ∈ rs, 0 ≤ e.1 ∧ e.1 < n) :
    Calls Try.prog 58 #[.agg #[.int .i64 size, .slice a rs.length cap], .int .i64 n] w fun e w' => ∃ g, e = .returned (.slice (some ⟨g, 0, none⟩) n n) ∧ w.heap.size ≤ g ∧ RowsAt w' (.slice (some ⟨g, 0, none⟩) n n) ((List.range n).map (rowR rs)) ∧ Below w.heap.size w w' := by
  have hR := Lib.hid hr
  clear hr
  have hmk := make_rows n (by omega)
  have hb0 : Below w.heap.size w (w.alloc (.cells #[.int .i64 size, .slice a rs.length cap] 33)) := (Below.refl _ _).alloc (Nat.le_refl _) _
  have hG0 := heap_alloc_new w (.cells #[.int .i64 size, .slice a rs.length cap] 33)
  obtain ⟨wA, hwA⟩ : ∃ W : World, W = w.alloc (.cells #[.int .i64 size, .slice a rs.length cap] 33) := ⟨_, rfl⟩
  rw [← hwA] at hb0 hG0
  have HWA := Lib.hid hwA
  have hO := GridO.made wA wA.heap.size 22 n 3 1
  have hb1 := (Below.refl wA.heap.size wA).alloc (Nat.le_refl _) (.cells ((List.range n).map fun _ => Value.slice none 0 0).toArray 22)
  have hG1 := lit_next' hb1 hG0
  have hb01 := hb0.trans (hb1.mono hb0.size)
  obtain ⟨wB, hwB⟩ : ∃ W : World, W = wA.alloc (.cells ((List.range n).map fun _ => Value.slice none 0 0).toArray 22) := ⟨_, rfl⟩
  obtain ⟨g, hg⟩ : ∃ g, wA.heap.size = g := ⟨_, rfl⟩
  rw [← hwB] at hO hG1 hb01
  rw [hg] at hO
  have HWB := Lib.hid hwB
  have HGG := Lib.hid hg
  have hwg : w.heap.size < g := by rw [← hg]; exact blk_lt hG0
  clear hwA hwB hb0 hb1 hG0 hg
  go_enter Try.func58, Try.ntmps58
  go_upto_region 2 with (rw [← HWA.out])
  rw [← HWB.out, HGG.out]
  obtain ⟨k0, k1⟩ := cells2R hG1
  go_wp2_with fail
  clear k0 k1
  have hO0 : GridO wB g g 22 n 3 1 (fun _ => .slice none 0 0) (fun i => (rowR (rs.take 0) i).length) (fun i => intsV (rowR (rs.take 0) i)) := hO
  go_loopw [13] (fun vi wr => ∃ (k : Nat) (vs : Nat → Value), k ≤ rs.length ∧ vi = .int .i64 k ∧ GridO wr g g 22 n 3 1 vs (fun i => (rowR (rs.take k) i).length) (fun i => intsV (rowR (rs.take k) i)) ∧ Below w.heap.size w wr ∧ wr.heap[w.heap.size]? = some (.cells #[.int .i64 size, .slice a rs.length cap] 33 (0, 0))) (fun vi _ => rs.length - (intOf vi).toNat)
  case atStart => exact ⟨0, _, Nat.zero_le _, rfl, hO0, hb01, hG1⟩
  case round =>
    clear hO hO0 hb01 hG1
    obtain ⟨k, vs, hk, rfl, hO, hb, hG⟩ := hrel
    by_cases hlt : k < rs.length
    · have hlt3 : (k : Int) < rs.length := by omega
      obtain ⟨b, off, x0, y, rfl, hxy, -, -, c0, c1⟩ := (he.below hb).at k hlt
      obtain ⟨hx0, hxn⟩ := hR.out _ (List.mem_of_getElem? hxy)
      dsimp only at hx0 hxn
      obtain ⟨x, rfl⟩ := Int.eq_ofNat_of_zero_le hx0
      have hxn2 : x < n := by omega
      have htk := take_at _ _ _ hxy
      have hrow : ∀ i, rowR (rs.take (k + 1)) i = if i = x then rowR (rs.take k) i ++ [y] else rowR (rs.take k) i := fun i => by rw [htk, rowR_snoc]
      have hrl : (rowR (rs.take k) x).length ≤ 100000 := by have := rowR_len (rs.take k) x; rw [List.length_take] at this; omega
      have HROW := Lib.hid hrow
      clear hrow htk hxy hx0
      obtain ⟨hXX, hXb⟩ := box_pair wr x y 37
      have hOX := hO.below hXb
      have hbX := hb.trans (hXb.mono hb.size)
      have hGX := lit_next' hXb hG
      obtain ⟨wX, hwX⟩ : ∃ W : World, W = wr.alloc (.cells #[.int .i64 (x : Int), .int .i64 y] 37) := ⟨_, rfl⟩
      obtain ⟨X, hX⟩ : ∃ X, wr.heap.size = X := ⟨_, rfl⟩
      rw [← hwX] at hXX hOX hbX hGX
      rw [hX] at hXX
      have hgX : g < X := by rw [← hX]; exact hO.lt
      have hvX0 : ∀ k, (vs x).ownBlock = some k → k < X := fun k e => by rw [← hX]; exact ((hO.own x hxn2).lt k e).2
      have HWX := Lib.hid hwX
      have HX := Lib.hid hX
      clear hwX hX hXb hO hb hG
      obtain ⟨L, hL⟩ : ∃ L, rowR (rs.take k) x = L := ⟨_, rfl⟩
      have HLL := Lib.hid hL
      have hown : wX.ownsRow g 3 1 (vs x) L.length (intsV L) := by rw [← hL]; exact hOX.own x hxn2
      obtain ⟨av, cv, hvx⟩ := owns_shape hown
      have HVX := Lib.hid hvx
      rw [hvx] at hown
      rw [hL] at hrl
      have hvX : (Value.slice av L.length cv).ownBlock ≠ some X := fun e => by rw [← hvx] at e; have := hvX0 X e; omega
      obtain ⟨x0, x1⟩ := cells2R hXX
      have gx := hOX.blk.cell x hxn2
      rw [hvx] at gx
      have gf := hOX.blk.free x
      have hoff : (Value.slice av L.length cv).ownBlock ≠ some g := by rw [← hvx]; exact hOX.off x hxn2
      have hxi : (x : Int) < n := by omega
      have hxx : (0 : Int) ≤ x := by omega
      clear hL hvx
      go_upto_region 5 with fail
      rw [← HWX.out, HX.out]
      have hlit := fun W => ints_lit1 W y 3
      have hal := fun W => (Below.refl (World.heap W).size W).alloc (Nat.le_refl _) (.cells #[.int .i64 y] 3)
      have hgs : g ≤ wX.heap.size := Nat.le_of_lt hOX.lt
      have hbl := fun o : Obj => (Below.heap_alloc wX o g hOX.lt).trans hOX.blk
      have hXl := fun o : Obj => (Below.heap_alloc wX o X (blk_lt hXX)).trans hXX
      have gxa := cell_alloc (o := .cells #[.int .i64 y] 3) gx
      have x0a := cell_alloc (o := .cells #[.int .i64 y] 3) x0
      have x1a := cell_alloc (o := .cells #[.int .i64 y] 3) x1
      have hvc : ∀ W : World, SlsAt W g 22 n vs → W.cell? ⟨g, x, none⟩ = some (.slice av L.length cv) := fun W h => by rw [← HVX.out]; exact h.cell x hxn2
      go_region_law (first
        | (refine step_app_ints_at intsT rfl (.tmp 24) (.tmp 27) rfl g (.slice av L.length cv) _ L [y] rfl (by exact hown.alloc _) rfl (by exact hlit _) (by simp; omega) (by simp; omega) ?_; intro v6 w6 hown6 hg6 hat6; obtain ⟨a6, c6, hv6⟩ := owns_shape hown6; subst hv6; have hbk6 : SlsAt w6 g 22 n vs := grown_blk hg6 (hbl _) (fun e => hoff e.symm); have gx6 := hvc w6 hbk6; have gf6 := hbk6.free x; have x06 := (cells2R (grown_blk hg6 (hXl _) (fun e => hvX e.symm))).1))
      all_goals
        have hgo : wX.grownBy w6 (Value.slice av L.length cv).ownBlock := by
          first
          | exact grown_trans (grown_none (grown_of_below (hal wX).drew)) hg6
          | exact grown_trans (grown_none (grown_of_below (hal wX))) hg6
        have hst := hOX.step hxn2 (by rw [HVX.out]; exact hgo) hown6 (fun b e => by
          rw [HVX.out]
          rcases hat6 with h | h
          · left; rw [← h]; exact e
          · right
            rw [h] at e
            have := Option.some.inj e
            simp at this; omega)
        have hO7 : GridO (w6.setCell ⟨g, x, none⟩ (.slice a6 (L ++ [y]).length c6)) g g 22 n 3 1 (updV vs x (.slice a6 (L ++ [y]).length c6)) (fun i => (rowR (rs.take (k + 1)) i).length) (fun i => intsV (rowR (rs.take (k + 1)) i)) := hst.congr
          (fun i _ => by
            rw [HROW.out]
            unfold updA
            by_cases e : i = x
            · rw [if_pos e, if_pos e, e, HLL.out]
            · rw [if_neg e, if_neg e])
          (fun i _ => by
            rw [HROW.out]
            unfold updA
            by_cases e : i = x
            · rw [if_pos e, if_pos e, e, HLL.out]
            · rw [if_neg e, if_neg e])
        have hb7 : Below w.heap.size w (w6.setCell ⟨g, x, none⟩ (.slice a6 (L ++ [y]).length c6)) := (hbX.grown hgo hbX.size (fun j e => by have := (hown.lt j e).1; omega)).setCell (p := ⟨g, x, none⟩) (by show w.heap.size ≤ g; omega) _
        have hG7 : (w6.setCell ⟨g, x, none⟩ (.slice a6 (L ++ [y]).length c6)).heap[w.heap.size]? = _ := (Below.heap_setCell _ _ _ _ (by show w.heap.size ≠ g; omega)).trans (grown_blk hgo hGX (fun e => by have := (hown.lt _ e.symm).1; omega))
        have hpl : (L ++ [y]).length = L.length + 1 := by simp
        rw [hpl] at hO7 hb7 hG7
        clear hst hgo hg6 hat6 hown6 hbk6 gx6 gf6 x06
        go_wp2_with fail
        go_roundw
        case rel => exact ⟨k + 1, _, by omega, by go_num, hO7, hb7, hG7⟩
        case measure => simp [intOf]; omega
    · obtain rfl : k = rs.length := by omega
      have hO2 := hO
      rw [List.take_length] at hO2
      have hrw := hO2.rows (cap := n) (by omega) (Nat.le_refl _) (fun i _ => by have := rowR_len rs i; omega)
      go_wp2_with fail
      go_ret
      exact ⟨g, rfl, by omega, hrw, hb⟩
end Go.Proofs.Ytdkmdcdoiaelfaa
