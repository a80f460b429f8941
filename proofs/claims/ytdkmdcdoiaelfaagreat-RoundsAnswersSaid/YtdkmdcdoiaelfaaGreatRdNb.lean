/- The contract of the rounds' lists of neighbours of a graph. -/
import Derived.Test.YtdkmdcdoiaelfaaGreatGridX
import Derived.Test.YtdkmdcdoiaelfaaGreatExNb
import Derived.Test.YtdkmdcdoiaelfaaGreatHeldK
import Derived.Deep.RegionLaw
import Derived.BigQuiet
import Derived.Deep.CutRange
namespace Go.Proofs.YtdkmdcdoiaelfaaGreat
open Go.RowKit Go.BigFrame

/-- an append of numbers, not opened -/
def AppI (args : Array Value) : Sem Value := Builtin.append_ #[22, 22] 22 args
theorem wp_appI_eq {o : Oper} {a : Act} {w : World} {K : Act → World → Prop} {Q : Exit → Act → World → Prop} (s x : Operand) (ho : o.op = .call { callee := .builtin .append, args := #[s, x], argTypes := #[22, 22] }) (ht : o.type = 22) (v u : Value) (hs : a.eval s = v) (hx : a.eval x = u) {v' : Value} {w' : World}
    (hr : (AppI #[v, u]).run Tryz.prog w = .ok v' w') (h : K (a.put o.dst v') w') : o.wp Tryz.prog a w K Q := by
  unfold AppI at hr
  unfold Oper.wp execOp
  simp only [ho, ht, resolve, invoke, builtin, Sem.run_bind, Sem.run_pure, Result.andThen_ok, List.map_toArray, List.map_cons, List.map_nil, hs, hx, hr]
  exact h
theorem grown_setBoth {w w' : World} {g i : Nat} {v : Value} {r : Option Nat} (h : w.grownBy w' r) (hr : r ≠ some g) : (w.setCell ⟨g, i, none⟩ v).grownBy (w'.setCell ⟨g, i, none⟩ v) r := by
  refine ⟨h.os, h.tape, h.output, by simpa [World.setCell] using h.size, fun k hk hne => ?_⟩
  have hk' : k < w.heap.size := by simpa [World.setCell] using hk
  by_cases e : k = g
  · subst e
    have hb := h.block k hk' (fun e => hr e.symm)
    simp only [World.setCell, Array.getElem?_modify, if_true, hb]
  · rw [heap_setCell_other _ _ _ _ e, heap_setCell_other _ _ _ _ e]
    exact h.block k hk' hne
section
variable {w w6 w8 : World} {s g T m TE k : Nat} {vs : Nat → Value} {len : Nat → Nat} {cs : Nat → List Value}
/-- two rows have turned: what they became is stored -/
theorem GridO.step2 {i j n6 n8 : Nat} {v6 v8 : Value} {c6 c8 : List Value} (h : GridO w s g T m TE k vs len cs) (hi : i < m) (hj : j < m) (hij : i ≠ j)
    (hg6 : w.grownBy w6 (vs i).ownBlock) (h6 : w6.ownsRow s TE k v6 n6 c6) (at6 : ∀ b, v6.ownBlock = some b → (vs i).ownBlock = some b ∨ w.heap.size ≤ b)
    (hg8 : w6.grownBy w8 (vs j).ownBlock) (h8 : w8.ownsRow s TE k v8 n8 c8) (at8 : ∀ b, v8.ownBlock = some b → (vs j).ownBlock = some b ∨ w6.heap.size ≤ b) :
    GridO ((w8.setCell ⟨g, i, none⟩ v6).setCell ⟨g, j, none⟩ v8) s g T m TE k (updV (updV vs i v6) j v8) (updA (updA len i n6) j n8) (updA (updA cs i c6) j c8) := by
  have h1 := h.step hi hg6 h6 at6
  have hvj : updV vs i v6 j = vs j := by unfold updV; rw [if_neg (fun e => hij e.symm)]
  have hgs : g < w6.heap.size := Nat.lt_of_lt_of_le h.lt hg6.size
  have hv8 : v8.ownBlock ≠ some g := fun e => by
    rcases at8 g e with e2 | e2
    · exact h.off j hj e2
    · omega
  refine h1.step hj (by rw [hvj]; exact grown_setBoth hg8 (h.off j hj)) (h8.kept grown_store (.inr hv8)) (fun b e => ?_)
  rw [hvj]
  rcases at8 b e with e2 | e2
  · exact .inl e2
  · right
    show (w6.setCell ⟨g, i, none⟩ v6).heap.size ≤ b
    simpa [World.setCell] using e2
end
/-- an append of one number, as an equation -/
theorem iapp_ex (base : Nat) (v : Value) (L : List Int) (y : Int) (ad : Addr) (W : World) (hown : W.ownsRow base 3 1 v L.length (intsV L)) (hsrc : W.cell? ad = some (.int .i64 y)) (hsp : ad.spot = none) (hl : L.length ≤ 100000) (hb : base ≤ W.heap.size) :
    ∃ a' c' w', (AppI #[v, .slice (some ad) 1 1]).run Tryz.prog W = .ok (.slice a' (L.length + 1) c') w' ∧ w'.ownsRow base 3 1 (.slice a' (L.length + 1) c') (L.length + 1) (intsV (L ++ [y])) ∧ W.grownBy w' v.ownBlock ∧ ((Value.slice a' (L.length + 1) c').ownBlock = v.ownBlock ∨ (Value.slice a' (L.length + 1) c').ownBlock = some W.heap.size) := by
  obtain ⟨i, hi, hz, hsz, hby⟩ := info_parts intsT.info
  obtain ⟨b, o, sp⟩ := ad
  dsimp only at hsp
  subst hsp
  obtain ⟨v', w', h2, h3, h4, _, h5⟩ := run_append_own_at (P := Tryz.prog) W base 22 22 3 i (.int .i64 0) 1 8 intsT.ht hi hz hsz hby intsT.hzs intsT.hsz v L.length (intsV L) hown ⟨b, o, none⟩ 1 1 (intsV [y]) rfl (fun j u hu => by
    cases j with
    | zero =>
      obtain rfl : (Value.int .i64 y) = u := by simpa [intsV] using hu
      rw [Addr.add_lit]; exact hsrc
    | succ j => simp [intsV] at hu) (fun u hu => by
    obtain rfl : u = .int .i64 y := by simpa [intsV] using hu
    rfl) (by unfold maxLen; omega) (by omega) hb
  obtain ⟨a', c', hv⟩ := owns_shape h3
  subst hv
  refine ⟨a', c', w', h2, ?_, h4, h5⟩
  rw [show intsV (L ++ [y]) = intsV L ++ intsV [y] by simp [intsV]]
  exact h3
/-- the other ends of the edges at a node, in the order of the edges -/
def nbE (es : List E2) (i : Nat) : List Int := es.flatMap fun e => (if e.1 = (i : Int) then [e.2] else []) ++ (if e.2 = (i : Int) then [e.1] else [])
theorem nbE_snoc (es : List E2) (u v i : Nat) (huv : u ≠ v) : nbE (es ++ [((u : Int), (v : Int))]) i = if i = v then nbE es i ++ [(u : Int)] else if i = u then nbE es i ++ [(v : Int)] else nbE es i := by
  unfold nbE
  rw [List.flatMap_append]
  simp only [List.flatMap_cons, List.flatMap_nil, List.append_nil]
  by_cases h1 : i = v
  · subst h1
    rw [if_pos rfl, if_neg (by omega), if_pos rfl]; rfl
  · rw [if_neg h1]
    by_cases h2 : i = u
    · subst h2
      rw [if_pos rfl, if_pos rfl, if_neg (by omega)]; rfl
    · rw [if_neg h2, if_neg (by omega), if_neg (by omega)]; simp
theorem nbE_len (es : List E2) (i : Nat) : (nbE es i).length ≤ es.length * 2 := by
  unfold nbE
  induction es with
  | nil => simp
  | cons e es ih =>
    rw [List.flatMap_cons, List.length_append, List.length_append, List.length_cons]
    have h1 : (if e.1 = (i : Int) then [e.2] else []).length ≤ 1 := by split <;> simp
    have h2 : (if e.2 = (i : Int) then [e.1] else []).length ≤ 1 := by split <;> simp
    omega
theorem nbE_nb {n : Nat} {es : List E2} (hv : Valid n es) (i : Nat) : nbE es i = castL (nbL es n i) := by
  refine asc_eq _ _ ?_ (asc_range _ n) fun y => ?_
  · unfold nbE Asc
    rw [List.pairwise_flatMap]
    refine ⟨fun e he => ?_, hv.2.2.2.imp_of_mem fun {e f} he hf hef => ?_⟩
    · have hin := hv.2.2.1 e he
      unfold Ins at hin
      split <;> split <;> first | (exfalso; omega) | simp
    · have h1 := hv.2.2.1 e he
      have h2 := hv.2.2.1 f hf
      unfold Ins at h1 h2
      rw [before_iff] at hef
      intro x hx z hz
      rw [List.mem_append] at hx hz
      rcases hx with hx | hx <;> rcases hz with hz | hz <;> (split at hx <;> split at hz <;> simp only [List.mem_singleton, List.not_mem_nil] at hx hz) <;> omega
  · unfold nbE castL nbL
    rw [List.mem_flatMap, List.mem_map]
    constructor
    · rintro ⟨e, he, hy⟩
      have hin := hv.2.2.1 e he
      unfold Ins at hin
      obtain ⟨a, b⟩ := e
      dsimp only at hin hy
      rw [List.mem_append] at hy
      rcases hy with hy | hy
      · split at hy
        · rename_i h
          rw [List.mem_singleton] at hy
          subst hy
          refine ⟨y.toNat, List.mem_filter.2 ⟨List.mem_range.2 (by omega), (adjB_iff es _ _).2 (.inl ?_)⟩, by omega⟩
          rw [show ((y.toNat : Nat) : Int) = y by omega, ← h]; exact he
        · cases hy
      · split at hy
        · rename_i h
          rw [List.mem_singleton] at hy
          subst hy
          refine ⟨y.toNat, List.mem_filter.2 ⟨List.mem_range.2 (by omega), (adjB_iff es _ _).2 (.inr ?_)⟩, by omega⟩
          rw [show ((y.toNat : Nat) : Int) = y by omega, ← h]; exact he
        · cases hy
    · rintro ⟨j, hj, rfl⟩
      rcases (adjB_iff es i j).1 (List.mem_filter.1 hj).2 with h | h
      · exact ⟨_, h, by simp⟩
      · exact ⟨_, h, by simp⟩
theorem imm_ne {g X : Nat} (h : g < X) : ¬ (g = X) ∧ ¬ (X = g) := ⟨by omega, by omega⟩
/-- the rows of neighbours of all nodes -/
def nearL (es : List E2) (n : Nat) : List (List Int) := (List.range n).map fun v => castL (nbL es n v)
/-- both appends of an edge, the second one at whatever world lies behind the first one -/
theorem nb_two {W : World} {s g T n X u v TX : Nat} {vs : Nat → Value} {len : Nat → Nat} {cs : Nat → List Value} {aU aV : Option Addr} {cU cV : Nat} {LU LV : List Int} {adV : Addr}
    (hO : GridO W s g T n 3 1 vs len cs) (hX : W.heap[X]? = some (.cells #[.int .i64 (u : Int), .int .i64 (v : Int)] TX (0, 0))) (hXo : ∀ i, i < n → (vs i).ownBlock ≠ some X) (hun : u < n) (hvn : v < n) (huv : u ≠ v) (hs : s ≤ g)
    (hU : vs u = .slice aU LU.length cU) (hV : vs v = .slice aV LV.length cV) (hcU : len u = LU.length ∧ cs u = intsV LU) (hcV : len v = LV.length ∧ cs v = intsV LV) (hlu : LU.length ≤ 100000) (hlv : LV.length ≤ 100000) (hadV : W.cell? adV = some (.int .i64 (v : Int))) (hsp : adV.spot = none) :
    ∃ a6 c6 w6, (AppI #[.slice aU LU.length cU, .slice (some adV) 1 1]).run Tryz.prog W = .ok (.slice a6 (LU.length + 1) c6) w6 ∧
      w6.cell? ⟨g, u, none⟩ = some (.slice aU LU.length cU) ∧ w6.cell? ⟨g, v, none⟩ = some (.slice aV LV.length cV) ∧ w6.cell? ⟨X, 0, none⟩ = some (.int .i64 (u : Int)) ∧ w6.cell? ⟨X, 1, none⟩ = some (.int .i64 (v : Int)) ∧ W.grownBy w6 (vs u).ownBlock ∧
      ∀ (W6 : World) (adU : Addr), Below w6.heap.size w6 W6 → W6.cell? adU = some (.int .i64 (u : Int)) → adU.spot = none →
        ∃ a8 c8 w8, (AppI #[.slice aV LV.length cV, .slice (some adU) 1 1]).run Tryz.prog W6 = .ok (.slice a8 (LV.length + 1) c8) w8 ∧
          w8.cell? ⟨g, u, none⟩ = some (.slice aU LU.length cU) ∧ w8.cell? ⟨g, v, none⟩ = some (.slice aV LV.length cV) ∧ w8.frozen? ⟨g, u, none⟩ = false ∧ w8.frozen? ⟨g, v, none⟩ = false ∧ w8.cell? ⟨X, 0, none⟩ = some (.int .i64 (u : Int)) ∧ w8.cell? ⟨X, 1, none⟩ = some (.int .i64 (v : Int)) ∧
          GridO ((w8.setCell ⟨g, u, none⟩ (.slice a6 (LU.length + 1) c6)).setCell ⟨g, v, none⟩ (.slice a8 (LV.length + 1) c8)) s g T n 3 1 (updV (updV vs u (.slice a6 (LU.length + 1) c6)) v (.slice a8 (LV.length + 1) c8)) (updA (updA len u (LU.length + 1)) v (LV.length + 1)) (updA (updA cs u (intsV (LU ++ [(v : Int)]))) v (intsV (LV ++ [(u : Int)]))) ∧
          ∀ w, Below s w W → Below s w ((w8.setCell ⟨g, u, none⟩ (.slice a6 (LU.length + 1) c6)).setCell ⟨g, v, none⟩ (.slice a8 (LV.length + 1) c8)) := by
  have hgl := hO.lt
  have ownU : W.ownsRow s 3 1 (.slice aU LU.length cU) LU.length (intsV LU) := by have h := hO.own u hun; rw [hU, hcU.1, hcU.2] at h; exact h
  have ownV : W.ownsRow s 3 1 (.slice aV LV.length cV) LV.length (intsV LV) := by have h := hO.own v hvn; rw [hV, hcV.1, hcV.2] at h; exact h
  obtain ⟨a6, c6, w6, hr6, h6, hg6, hat6⟩ := iapp_ex s _ LU (v : Int) adV W ownU hadV hsp hlu (by omega)
  have hbU : ∀ i, i < n → ∀ b, (vs i).ownBlock = some b → b < W.heap.size := fun i hi b e => ((hO.own i hi).lt b e).2
  have hblk6 : SlsAt w6 g T n vs := grown_blk hg6 hO.blk (fun e => hO.off u hun (by rw [hU]; exact e.symm))
  have hX6 := grown_blk hg6 hX (fun e => hXo u hun (by rw [hU]; exact e.symm))
  have hgr6 : W.grownBy w6 (vs u).ownBlock := by rw [hU]; exact hg6
  have ownV6 : w6.ownsRow s 3 1 (.slice aV LV.length cV) LV.length (intsV LV) := ownV.kept hg6 (by
    cases e : (Value.slice aV LV.length cV).ownBlock with
    | none => exact .inl rfl
    | some b => exact .inr fun e2 => hO.apart v u hvn hun (fun e => huv e.symm) b (by rw [hV]; exact e) (by rw [hU]; exact e2.symm))
  have hgv6 := hblk6.cell v hvn
  rw [hV] at hgv6
  have hgu6 := hblk6.cell u hun
  rw [hU] at hgu6
  refine ⟨a6, c6, w6, hr6, hgu6, hgv6, cell_blk hX6, cell_blk hX6, hgr6, fun W6 adU hB6 hadU hspU => ?_⟩
  have hz6 : W.heap.size ≤ w6.heap.size := hg6.size
  have ownV7 := ownV6.kept (grown_of_below hB6) (Classical.em _)
  obtain ⟨a8, c8, w8, hr8, h8, hg8, hat8⟩ := iapp_ex s _ LV (u : Int) adU W6 ownV7 hadU hspU hlv (by have := hB6.size; omega)
  have hg68 : w6.grownBy w8 (Value.slice aV LV.length cV).ownBlock := grown_trans (grown_none (grown_of_below hB6)) hg8
  have hblk8 : SlsAt w8 g T n vs := grown_blk hg68 hblk6 (fun e => hO.off v hvn (by rw [hV]; exact e.symm))
  have hX8 := grown_blk hg68 hX6 (fun e => hXo v hvn (by rw [hV]; exact e.symm))
  have hgu8 := hblk8.cell u hun
  have hgv8 := hblk8.cell v hvn
  rw [hU] at hgu8
  rw [hV] at hgv8
  refine ⟨a8, c8, w8, hr8, hgu8, hgv8, hblk8.free u, hblk8.free v, cell_blk hX8, cell_blk hX8, ?_, fun w hw => ?_⟩
  · refine hO.step2 hun hvn huv hgr6 h6 (fun b e => ?_) (by rw [hV]; exact hg68) h8 (fun b e => ?_)
    · rcases hat6 with h | h
      · left; rw [hU, ← h]; exact e
      · right; rw [h] at e; have := Option.some.inj e; omega
    · rcases hat8 with h | h
      · left; rw [hV, ← h]; exact e
      · right; rw [h] at e; have := Option.some.inj e; have := hB6.size; omega
  · have h1 := hw.grown hg6 (by omega) (fun j e => (ownU.lt j e).1)
    have h2 := h1.grown hg68 (by omega) (fun j e => (ownV.lt j e).1)
    exact (h2.setCell (p := ⟨g, u, none⟩) hs _).setCell (p := ⟨g, v, none⟩) hs _
set_option linter.unusedSimpArgs false in
set_option maxRecDepth 100000 in
set_option maxHeartbeats 6400000 in
theorem rdneigh_any (n : Nat) (a : Option Addr) (cap : Nat) (es : List E2) (w : World) (he : EdgesAt w (.slice a es.length cap) es) (hv : Valid n es) :
    Calls Tryz.prog 33 #[.agg #[.int .i64 n, .slice a es.length cap]] w fun e w' => ∃ g, e = .returned (.slice (some ⟨g, 0, none⟩) n n) ∧ w.heap.size ≤ g ∧ ∃ vs, GridO w' w.heap.size g 22 n 3 1 vs (fun i => (castL (nbL es n i)).length) (fun i => intsV (castL (nbL es n i))) ∧ Below w.heap.size w w' := by
  have hn64 : n ≤ 64 := by have := hv.2.1; omega
  have hel := hv.length_le
  have hmk := make_rows n (by omega)
  have hb0 := (Below.refl w.heap.size w).alloc (Nat.le_refl _) (.cells #[.int .i64 n, .slice a es.length cap] 25)
  have hG0 := heap_alloc_new w (.cells #[.int .i64 n, .slice a es.length cap] 25)
  obtain ⟨wA, hwA⟩ : ∃ W : World, W = w.alloc (.cells #[.int .i64 n, .slice a es.length cap] 25) := ⟨_, rfl⟩
  rw [← hwA] at hb0 hG0
  have HWA := Lib.hid hwA
  have hO := GridO.made wA w.heap.size 22 n 3 1
  have hb1 := (Below.refl wA.heap.size wA).alloc (Nat.le_refl _) (.cells ((List.range n).map fun _ => Value.slice none 0 0).toArray 22)
  have hG1 := lit_next' hb1 hG0
  have hb01 := hb0.trans (hb1.mono hb0.size)
  obtain ⟨wB, hwB⟩ : ∃ W : World, W = wA.alloc (.cells ((List.range n).map fun _ => Value.slice none 0 0).toArray 22) := ⟨_, rfl⟩
  obtain ⟨g, hg⟩ : ∃ g, wA.heap.size = g := ⟨_, rfl⟩
  rw [← hwB] at hO hG1 hb01
  rw [hg] at hO
  have HWB := Lib.hid hwB
  have HGG := Lib.hid hg
  have hwg : w.heap.size < g := by rw [← hg]; exact blk_lt hG0
  obtain ⟨j0, j1⟩ := cells2R hG0
  clear hwA hwB hb0 hb1 hG0 hg
  obtain ⟨k0, k1⟩ := cells2R hG1
  go_enter Tryz.func33, Tryz.ntmps33
  go_upto_region 2 with (rw [← HWA.out])
  rw [← HWB.out, HGG.out]
  go_wp2_with fail
  clear k0 k1 j0 j1 hmk
  have hO0 : GridO wB w.heap.size g 22 n 3 1 (fun _ => .slice none 0 0) (fun i => (nbE (es.take 0) i).length) (fun i => intsV (nbE (es.take 0) i)) := hO
  go_loopw [12] (fun vi wr => ∃ (k : Nat) (vs : Nat → Value), k ≤ es.length ∧ vi = .int .i64 k ∧ GridO wr w.heap.size g 22 n 3 1 vs (fun i => (nbE (es.take k) i).length) (fun i => intsV (nbE (es.take k) i)) ∧ Below w.heap.size w wr) (fun vi _ => es.length - (intOf vi).toNat)
  case atStart => exact ⟨0, _, Nat.zero_le _, rfl, hO0, hb01⟩
  case round =>
    clear hO hO0 hb01 hG1
    obtain ⟨k, vs, hk, rfl, hO, hb⟩ := hrel
    by_cases hlt : k < es.length
    · have hlt3 : (k : Int) < es.length := by omega
      obtain ⟨b, off, x0, y0, rfl, hxy, -, -, c0, c1⟩ := (he.below hb).at k hlt
      have hins := hv.2.2.1 _ (List.mem_of_getElem? hxy)
      unfold Ins at hins
      dsimp only at hins
      obtain ⟨u, rfl⟩ := Int.eq_ofNat_of_zero_le hins.1
      obtain ⟨v, rfl⟩ := Int.eq_ofNat_of_zero_le (show 0 ≤ y0 by omega)
      have hun : u < n := by omega
      have hvn : v < n := by omega
      have huv : u ≠ v := by omega
      have htk := take_at _ _ _ hxy
      have hrow : ∀ i, nbE (es.take (k + 1)) i = if i = v then nbE (es.take k) i ++ [(u : Int)] else if i = u then nbE (es.take k) i ++ [(v : Int)] else nbE (es.take k) i := fun i => by rw [htk, nbE_snoc _ _ _ _ huv]
      have hLb : ∀ i, (nbE (es.take k) i).length ≤ 100000 := fun i => by have := nbE_len (es.take k) i; rw [List.length_take] at this; omega
      have HROW := Lib.hid hrow
      clear hrow htk hxy hins
      obtain ⟨hXX, hXb⟩ := box_pair wr u v 62
      have hOX := hO.below hXb
      have hbX := hb.trans (hXb.mono hb.size)
      obtain ⟨wX, hwX⟩ : ∃ W : World, W = wr.alloc (.cells #[.int .i64 (u : Int), .int .i64 v] 62) := ⟨_, rfl⟩
      obtain ⟨X, hX⟩ : ∃ X, wr.heap.size = X := ⟨_, rfl⟩
      rw [← hwX] at hXX hOX hbX
      rw [hX] at hXX
      have hgX : g < X := by rw [← hX]; exact hO.lt
      have hvX0 : ∀ i, i < n → ∀ k, (vs i).ownBlock = some k → k < X := fun i hi k e => by rw [← hX]; exact ((hO.own i hi).lt k e).2
      have HWX := Lib.hid hwX
      have HX := Lib.hid hX
      clear hwX hX hXb hO hb
      obtain ⟨LU, hLU⟩ : ∃ L, nbE (es.take k) u = L := ⟨_, rfl⟩
      obtain ⟨LV, hLV⟩ : ∃ L, nbE (es.take k) v = L := ⟨_, rfl⟩
      have HLU := Lib.hid hLU
      have HLV := Lib.hid hLV
      have hlu : LU.length ≤ 100000 := by rw [← hLU]; exact hLb u
      have hlv : LV.length ≤ 100000 := by rw [← hLV]; exact hLb v
      have hownU : wX.ownsRow w.heap.size 3 1 (vs u) LU.length (intsV LU) := by rw [← hLU]; exact hOX.own u hun
      have hownV : wX.ownsRow w.heap.size 3 1 (vs v) LV.length (intsV LV) := by rw [← hLV]; exact hOX.own v hvn
      obtain ⟨aU, cU, hvu⟩ := owns_shape hownU
      obtain ⟨aV, cV, hvv⟩ := owns_shape hownV
      have gu := hOX.blk.cell u hun
      have gv := hOX.blk.cell v hvn
      rw [hvu] at gu
      rw [hvv] at gv
      have hXo : ∀ i, i < n → (vs i).ownBlock ≠ some X := fun i hi e => by have := hvX0 i hi X e; omega
      have hcU : (nbE (es.take k) u).length = LU.length ∧ intsV (nbE (es.take k) u) = intsV LU := by rw [hLU]; exact ⟨rfl, rfl⟩
      have hcV : (nbE (es.take k) v).length = LV.length ∧ intsV (nbE (es.take k) v) = intsV LV := by rw [hLV]; exact ⟨rfl, rfl⟩
      have hsg : w.heap.size ≤ g := by omega
      have hal := fun (W : World) o => (Below.refl W.heap.size W).alloc (Nat.le_refl _) o
      have hzX := hOX.lt
      -- the numbers in new blocks, in both orders
      have hOa := hOX.below (hal wX (.cells #[.int .i64 (v : Int)] 3))
      have hOb := hOa.below (hal _ (.cells #[.int .i64 (u : Int)] 3))
      have hOc0 := hOX.below (hal wX (.cells #[.int .i64 (u : Int)] 3))
      have hOc := hOc0.below (hal _ (.cells #[.int .i64 (v : Int)] 3))
      have hXa := lit_next' (hal wX (.cells #[.int .i64 (v : Int)] 3)) hXX
      have hXbb := lit_next' (hal _ (.cells #[.int .i64 (u : Int)] 3)) hXa
      have hXc0 := lit_next' (hal wX (.cells #[.int .i64 (u : Int)] 3)) hXX
      have hXc := lit_next' (hal _ (.cells #[.int .i64 (v : Int)] 3)) hXc0
      have hdr := fun (W : World) => (Below.refl W.heap.size W).drew
      obtain ⟨a6a, c6a, w6a, ra, a0, a1, a2, a3, -, aN⟩ := nb_two (W := (wX.alloc (.cells #[.int .i64 (v : Int)] 3)).drew) (adV := ⟨wX.heap.size, 0, none⟩) (hOa.below (hdr _)) hXa hXo hun hvn huv hsg hvu hvv hcU hcV hlu hlv (cell_blk (heap_alloc_new wX _)) rfl
      obtain ⟨a8a, c8a, w8a, ra2, a5, a6, a7, a8, a9, a10, aO, aB⟩ := aN (w6a.alloc (.cells #[.int .i64 (u : Int)] 3)) ⟨w6a.heap.size, 0, none⟩ (hal _ _) (cell_blk (heap_alloc_new _ _)) rfl
      obtain ⟨a6b, c6b, w6b, rb, b0, b1, b2, b3, bg, bN⟩ := nb_two (W := ((wX.alloc (.cells #[.int .i64 (v : Int)] 3)).alloc (.cells #[.int .i64 (u : Int)] 3)).drew) (adV := ⟨wX.heap.size, 0, none⟩) (hOb.below (hdr _)) hXbb hXo hun hvn huv hsg hvu hvv hcU hcV hlu hlv (cell_alloc (cell_blk (heap_alloc_new wX _))) rfl
      have hadb : w6b.cell? ⟨wX.heap.size + 1, 0, none⟩ = some (.int .i64 (u : Int)) := by
        have h1 := heap_alloc_new (wX.alloc (.cells #[.int .i64 (v : Int)] 3)) (.cells #[.int .i64 (u : Int)] 3)
        have hz : (wX.alloc (.cells #[.int .i64 (v : Int)] 3)).heap.size = wX.heap.size + 1 := by simp
        rw [hz] at h1
        exact cell_blk (grown_blk bg h1 (fun e => by have := ((hOX.own u hun).lt _ e.symm).2; omega))
      obtain ⟨a8b, c8b, w8b, rb2, b5, b6, b7, b8, b9, b10, bO, bB⟩ := bN w6b ⟨wX.heap.size + 1, 0, none⟩ (Below.refl _ _) hadb rfl
      have hadc0 : ((wX.alloc (.cells #[.int .i64 (u : Int)] 3)).alloc (.cells #[.int .i64 (v : Int)] 3)).cell? ⟨wX.heap.size + 1, 0, none⟩ = some (.int .i64 (v : Int)) := by
        have h1 := heap_alloc_new (wX.alloc (.cells #[.int .i64 (u : Int)] 3)) (.cells #[.int .i64 (v : Int)] 3)
        have hz : (wX.alloc (.cells #[.int .i64 (u : Int)] 3)).heap.size = wX.heap.size + 1 := by simp
        rw [hz] at h1
        exact cell_blk h1
      obtain ⟨a6c, c6c, w6c, rc, c0', c1', c2, c3, cg, cN⟩ := nb_two (W := ((wX.alloc (.cells #[.int .i64 (u : Int)] 3)).alloc (.cells #[.int .i64 (v : Int)] 3)).drew) (adV := ⟨wX.heap.size + 1, 0, none⟩) (hOc.below (hdr _)) hXc hXo hun hvn huv hsg hvu hvv hcU hcV hlu hlv hadc0 rfl
      have hadc : w6c.cell? ⟨wX.heap.size, 0, none⟩ = some (.int .i64 (u : Int)) := by
        have h1 := heap_alloc_new wX (.cells #[.int .i64 (u : Int)] 3)
        have h2 : ((wX.alloc (.cells #[.int .i64 (u : Int)] 3)).alloc (.cells #[.int .i64 (v : Int)] 3)).drew.heap[wX.heap.size]? = _ := (Below.heap_alloc _ _ _ (blk_lt h1)).trans h1
        exact cell_blk (grown_blk cg h2 (fun e => by have := ((hOX.own u hun).lt _ e.symm).2; omega))
      obtain ⟨a8c, c8c, w8c, rc2, c5, c6, c7, c8, c9, c10, cO, cB⟩ := cN w6c ⟨wX.heap.size, 0, none⟩ (Below.refl _ _) hadc rfl
      have hbW : ∀ W, Below wX.heap.size wX W → Below w.heap.size w W := fun W h => hbX.trans (h.mono (by omega))
      have aB2 := aB w (hbW _ (hal wX _).drew)
      have bB2 := bB w (hbW _ ((hal wX _).alloc (by simp) _).drew)
      have cB2 := cB w (hbW _ ((hal wX _).alloc (by simp) _).drew)
      have hfin : ∀ (W : World) (vs' : Nat → Value), GridO W w.heap.size g 22 n 3 1 vs' (updA (updA (fun i => (nbE (es.take k) i).length) u (LU.length + 1)) v (LV.length + 1)) (updA (updA (fun i => intsV (nbE (es.take k) i)) u (intsV (LU ++ [(v : Int)]))) v (intsV (LV ++ [(u : Int)]))) → GridO W w.heap.size g 22 n 3 1 vs' (fun i => (nbE (es.take (k + 1)) i).length) (fun i => intsV (nbE (es.take (k + 1)) i)) := fun W vs' h => h.congr (fun i _ => by
          rw [HROW.out]
          unfold updA
          by_cases e1 : i = v
          · subst e1; rw [if_pos rfl, if_pos rfl, HLV.out]; simp
          · rw [if_neg e1, if_neg e1]
            by_cases e2 : i = u
            · subst e2; rw [if_pos rfl, if_pos rfl, HLU.out]; simp
            · rw [if_neg e2, if_neg e2]) (fun i _ => by
          rw [HROW.out]
          unfold updA
          by_cases e1 : i = v
          · subst e1; rw [if_pos rfl, if_pos rfl, HLV.out]
          · rw [if_neg e1, if_neg e1]
            by_cases e2 : i = u
            · subst e2; rw [if_pos rfl, if_pos rfl, HLU.out]
            · rw [if_neg e2, if_neg e2])
      have aO2 := hfin _ _ aO
      have bO2 := hfin _ _ bO
      have cO2 := hfin _ _ cO
      clear hfin aO bO cO aB bB cB aN bN cN hbW hadc0 hadb hadc bg cg hOa hOb hOc hOc0 hXa hXbb hXc hXc0 hcU hcV hXo hvX0
      obtain ⟨x0, x1⟩ := cells2R hXX
      obtain ⟨n1, n2⟩ := imm_ne hgX
      have hui : (u : Int) < n := by omega
      have hvi : (v : Int) < n := by omega
      go_upto_region 5 with fail
      rw [← HWX.out, HX.out]
      refine wp_region_heldK (k := 25) (S := fun b W => (W.cell? ⟨X, 0, none⟩ = some (.int .i64 (u : Int)) ∧ W.cell? ⟨X, 1, none⟩ = some (.int .i64 (v : Int))) ∧ (match b with | false => (W.cell? ⟨g, u, none⟩ = some (.slice aU LU.length cU) ∧ W.cell? ⟨g, v, none⟩ = some (.slice aV LV.length cV)) | true => True)) (by kernel_rfl) ?_
      have hS0 : (wX.drew.cell? ⟨X, 0, none⟩ = some (.int .i64 (u : Int)) ∧ wX.drew.cell? ⟨X, 1, none⟩ = some (.int .i64 (v : Int))) ∧ (wX.drew.cell? ⟨g, u, none⟩ = some (.slice aU LU.length cU) ∧ wX.drew.cell? ⟨g, v, none⟩ = some (.slice aV LV.length cV)) := ⟨⟨x0, x1⟩, gu, gv⟩
      refine wpAnyK_take (i := 0) (v := .slice (some ⟨g, 0, none⟩) n n) true rfl (by kernel_rfl) (by kernel_rfl) (by kernel_rfl) (by kernel_rfl) (by kernel_rfl) (fun _ _ _ h => h) (fun _ h => ⟨h.1, trivial⟩) (Or.inl ⟨by rfl, by intro w hSw; dsimp only at hSw; go_simp⟩) (b := false) (by kernel_rfl) hS0 ?_
      simp only [Act.put, List.setIfInBounds_toArray, List.set_cons_zero, List.set_cons_succ]
      refine wpAnyK_take (i := 1) (v := .pointer (some ⟨X, 0, none⟩)) true rfl (by kernel_rfl) (by kernel_rfl) (by kernel_rfl) (by kernel_rfl) (by kernel_rfl) (fun _ _ _ h => h) (fun _ h => ⟨h.1, trivial⟩) (Or.inl ⟨by rfl, by intro w hSw; dsimp only at hSw; go_simp⟩) (b := false) (by kernel_rfl) hS0 ?_
      simp only [Act.put, List.setIfInBounds_toArray, List.set_cons_zero, List.set_cons_succ]
      refine wpAnyK_take (i := 2) (v := .int .i64 (u : Int)) true rfl (by kernel_rfl) (by kernel_rfl) (by kernel_rfl) (by kernel_rfl) (by kernel_rfl) (fun _ _ _ h => h) (fun _ h => ⟨h.1, trivial⟩) (Or.inl ⟨by rfl, by intro w hSw; dsimp only at hSw; go_simp⟩) (b := false) (by kernel_rfl) hS0 ?_
      simp only [Act.put, List.setIfInBounds_toArray, List.set_cons_zero, List.set_cons_succ]
      refine wpAnyK_take (i := 3) (v := .slice (some ⟨g, 0, none⟩) n n) true rfl (by kernel_rfl) (by kernel_rfl) (by kernel_rfl) (by kernel_rfl) (by kernel_rfl) (fun _ _ _ h => h) (fun _ h => ⟨h.1, trivial⟩) (Or.inl ⟨by rfl, by intro w hSw; dsimp only at hSw; go_simp⟩) (b := false) (by kernel_rfl) hS0 ?_
      simp only [Act.put, List.setIfInBounds_toArray, List.set_cons_zero, List.set_cons_succ]
      refine wpAnyK_take (i := 4) (v := .pointer (some ⟨X, 1, none⟩)) true rfl (by kernel_rfl) (by kernel_rfl) (by kernel_rfl) (by kernel_rfl) (by kernel_rfl) (fun _ _ _ h => h) (fun _ h => ⟨h.1, trivial⟩) (Or.inl ⟨by rfl, by intro w hSw; dsimp only at hSw; go_simp⟩) (b := false) (by kernel_rfl) hS0 ?_
      simp only [Act.put, List.setIfInBounds_toArray, List.set_cons_zero, List.set_cons_succ]
      refine wpAnyK_take (i := 5) (v := .int .i64 (v : Int)) true rfl (by kernel_rfl) (by kernel_rfl) (by kernel_rfl) (by kernel_rfl) (by kernel_rfl) (fun _ _ _ h => h) (fun _ h => ⟨h.1, trivial⟩) (Or.inl ⟨by rfl, by intro w hSw; dsimp only at hSw; go_simp⟩) (b := false) (by kernel_rfl) hS0 ?_
      simp only [Act.put, List.setIfInBounds_toArray, List.set_cons_zero, List.set_cons_succ]
      refine wpAnyK_take (i := 6) (v := .slice (some ⟨g, 0, none⟩) n n) true rfl (by kernel_rfl) (by kernel_rfl) (by kernel_rfl) (by kernel_rfl) (by kernel_rfl) (fun _ _ _ h => h) (fun _ h => ⟨h.1, trivial⟩) (Or.inl ⟨by rfl, by intro w hSw; dsimp only at hSw; go_simp⟩) (b := false) (by kernel_rfl) hS0 ?_
      simp only [Act.put, List.setIfInBounds_toArray, List.set_cons_zero, List.set_cons_succ]
      refine wpAnyK_take (i := 7) (v := .pointer (some ⟨X, 0, none⟩)) true rfl (by kernel_rfl) (by kernel_rfl) (by kernel_rfl) (by kernel_rfl) (by kernel_rfl) (fun _ _ _ h => h) (fun _ h => ⟨h.1, trivial⟩) (Or.inl ⟨by rfl, by intro w hSw; dsimp only at hSw; go_simp⟩) (b := false) (by kernel_rfl) hS0 ?_
      simp only [Act.put, List.setIfInBounds_toArray, List.set_cons_zero, List.set_cons_succ]
      refine wpAnyK_take (i := 8) (v := .int .i64 (u : Int)) true rfl (by kernel_rfl) (by kernel_rfl) (by kernel_rfl) (by kernel_rfl) (by kernel_rfl) (fun _ _ _ h => h) (fun _ h => ⟨h.1, trivial⟩) (Or.inl ⟨by rfl, by intro w hSw; dsimp only at hSw; go_simp⟩) (b := false) (by kernel_rfl) hS0 ?_
      simp only [Act.put, List.setIfInBounds_toArray, List.set_cons_zero, List.set_cons_succ]
      refine wpAnyK_take (i := 9) (v := .pointer (some ⟨g, u, none⟩)) true rfl (by kernel_rfl) (by kernel_rfl) (by kernel_rfl) (by kernel_rfl) (by kernel_rfl) (fun _ _ _ h => h) (fun _ h => ⟨h.1, trivial⟩) (Or.inl ⟨by rfl, by intro w hSw; dsimp only at hSw; go_simp⟩) (b := false) (by kernel_rfl) hS0 ?_
      simp only [Act.put, List.setIfInBounds_toArray, List.set_cons_zero, List.set_cons_succ]
      refine wpAnyK_take (i := 10) (v := .slice aU LU.length cU) false rfl (by kernel_rfl) (by kernel_rfl) (by kernel_rfl) (by kernel_rfl) (by kernel_rfl) (fun _ _ _ h => h) (fun _ h => ⟨h.1, trivial⟩) (Or.inl ⟨by rfl, by intro w hSw; dsimp only at hSw; go_simp⟩) (b := false) (by kernel_rfl) hS0 ?_
      simp only [Act.put, List.setIfInBounds_toArray, List.set_cons_zero, List.set_cons_succ]
      refine wpAnyK_take (i := 11) (v := .pointer (some ⟨X, 1, none⟩)) true rfl (by kernel_rfl) (by kernel_rfl) (by kernel_rfl) (by kernel_rfl) (by kernel_rfl) (fun _ _ _ h => h) (fun _ h => ⟨h.1, trivial⟩) (Or.inl ⟨by rfl, by intro w hSw; dsimp only at hSw; go_simp⟩) (b := false) (by kernel_rfl) hS0 ?_
      simp only [Act.put, List.setIfInBounds_toArray, List.set_cons_zero, List.set_cons_succ]
      refine wpAnyK_take (i := 12) (v := .int .i64 (v : Int)) true rfl (by kernel_rfl) (by kernel_rfl) (by kernel_rfl) (by kernel_rfl) (by kernel_rfl) (fun _ _ _ h => h) (fun _ h => ⟨h.1, trivial⟩) (Or.inl ⟨by rfl, by intro w hSw; dsimp only at hSw; go_simp⟩) (b := false) (by kernel_rfl) hS0 ?_
      simp only [Act.put, List.setIfInBounds_toArray, List.set_cons_zero, List.set_cons_succ]
      refine wpAnyK_take (i := 15) (v := .slice (some ⟨g, 0, none⟩) n n) true rfl (by kernel_rfl) (by kernel_rfl) (by kernel_rfl) (by kernel_rfl) (by kernel_rfl) (fun _ _ _ h => h) (fun _ h => ⟨h.1, trivial⟩) (Or.inl ⟨by rfl, by intro w hSw; dsimp only at hSw; go_simp⟩) (b := false) (by kernel_rfl) hS0 ?_
      simp only [Act.put, List.setIfInBounds_toArray, List.set_cons_zero, List.set_cons_succ]
      refine wpAnyK_take (i := 16) (v := .pointer (some ⟨X, 1, none⟩)) true rfl (by kernel_rfl) (by kernel_rfl) (by kernel_rfl) (by kernel_rfl) (by kernel_rfl) (fun _ _ _ h => h) (fun _ h => ⟨h.1, trivial⟩) (Or.inl ⟨by rfl, by intro w hSw; dsimp only at hSw; go_simp⟩) (b := false) (by kernel_rfl) hS0 ?_
      simp only [Act.put, List.setIfInBounds_toArray, List.set_cons_zero, List.set_cons_succ]
      refine wpAnyK_take (i := 17) (v := .int .i64 (v : Int)) true rfl (by kernel_rfl) (by kernel_rfl) (by kernel_rfl) (by kernel_rfl) (by kernel_rfl) (fun _ _ _ h => h) (fun _ h => ⟨h.1, trivial⟩) (Or.inl ⟨by rfl, by intro w hSw; dsimp only at hSw; go_simp⟩) (b := false) (by kernel_rfl) hS0 ?_
      simp only [Act.put, List.setIfInBounds_toArray, List.set_cons_zero, List.set_cons_succ]
      refine wpAnyK_take (i := 18) (v := .pointer (some ⟨g, v, none⟩)) true rfl (by kernel_rfl) (by kernel_rfl) (by kernel_rfl) (by kernel_rfl) (by kernel_rfl) (fun _ _ _ h => h) (fun _ h => ⟨h.1, trivial⟩) (Or.inl ⟨by rfl, by intro w hSw; dsimp only at hSw; go_simp⟩) (b := false) (by kernel_rfl) hS0 ?_
      simp only [Act.put, List.setIfInBounds_toArray, List.set_cons_zero, List.set_cons_succ]
      refine wpAnyK_take (i := 19) (v := .slice aV LV.length cV) false rfl (by kernel_rfl) (by kernel_rfl) (by kernel_rfl) (by kernel_rfl) (by kernel_rfl) (fun _ _ _ h => h) (fun _ h => ⟨h.1, trivial⟩) (Or.inl ⟨by rfl, by intro w hSw; dsimp only at hSw; go_simp⟩) (b := false) (by kernel_rfl) hS0 ?_
      simp only [Act.put, List.setIfInBounds_toArray, List.set_cons_zero, List.set_cons_succ]
      refine wpAnyK_take (i := 20) (v := .pointer (some ⟨X, 0, none⟩)) true rfl (by kernel_rfl) (by kernel_rfl) (by kernel_rfl) (by kernel_rfl) (by kernel_rfl) (fun _ _ _ h => h) (fun _ h => ⟨h.1, trivial⟩) (Or.inl ⟨by rfl, by intro w hSw; dsimp only at hSw; go_simp⟩) (b := false) (by kernel_rfl) hS0 ?_
      simp only [Act.put, List.setIfInBounds_toArray, List.set_cons_zero, List.set_cons_succ]
      refine wpAnyK_take (i := 21) (v := .int .i64 (u : Int)) true rfl (by kernel_rfl) (by kernel_rfl) (by kernel_rfl) (by kernel_rfl) (by kernel_rfl) (fun _ _ _ h => h) (fun _ h => ⟨h.1, trivial⟩) (Or.inl ⟨by rfl, by intro w hSw; dsimp only at hSw; go_simp⟩) (b := false) (by kernel_rfl) hS0 ?_
      simp only [Act.put, List.setIfInBounds_toArray, List.set_cons_zero, List.set_cons_succ]
      have hSA : ∀ o, ((wX.alloc o).drew.cell? ⟨X, 0, none⟩ = some (.int .i64 (u : Int)) ∧ (wX.alloc o).drew.cell? ⟨X, 1, none⟩ = some (.int .i64 (v : Int))) ∧ ((wX.alloc o).drew.cell? ⟨g, u, none⟩ = some (.slice aU LU.length cU) ∧ (wX.alloc o).drew.cell? ⟨g, v, none⟩ = some (.slice aV LV.length cV)) := fun o => ⟨⟨cell_alloc x0, cell_alloc x1⟩, cell_alloc gu, cell_alloc gv⟩
      have hSB : ∀ o o', (((wX.alloc o).alloc o').drew.cell? ⟨X, 0, none⟩ = some (.int .i64 (u : Int)) ∧ ((wX.alloc o).alloc o').drew.cell? ⟨X, 1, none⟩ = some (.int .i64 (v : Int))) ∧ (((wX.alloc o).alloc o').drew.cell? ⟨g, u, none⟩ = some (.slice aU LU.length cU) ∧ ((wX.alloc o).alloc o').drew.cell? ⟨g, v, none⟩ = some (.slice aV LV.length cV)) := fun o o' => ⟨⟨cell_alloc (cell_alloc x0), cell_alloc (cell_alloc x1)⟩, cell_alloc (cell_alloc gu), cell_alloc (cell_alloc gv)⟩
      refine wpAnyK_two (i := 13) (j := 22) (by kernel_rfl) rfl rfl (by rfl) (by rfl) (b := false) (b2 := false) (by kernel_rfl) (by kernel_rfl) (fun K hK => ?_) (fun K hK => ?_)
      · go_simp
        refine hK.out _ _ (hSA _) ?_
        try simp only [Act.put, List.setIfInBounds_toArray, List.set_cons_zero, List.set_cons_succ]
        refine wpAnyK_two (i := 14) (j := 22) (by kernel_rfl) rfl rfl (by rfl) (by rfl) (b := false) (b2 := false) (by kernel_rfl) (by kernel_rfl) (fun K hK => ?_) (fun K hK => ?_)
        · refine wp_appI_eq (.tmp 26) (.tmp 29) rfl rfl _ _ rfl rfl ra ?_
          refine hK.out _ _ ⟨⟨a2, a3⟩, a0, a1⟩ ?_
          try simp only [Act.put, List.setIfInBounds_toArray, List.set_cons_zero, List.set_cons_succ]
          refine wpAnyK_one (i := 22) (by kernel_rfl) rfl (by rfl) (b := false) (by kernel_rfl) (fun K hK => ?_)
          go_simp
          refine hK.out _ _ ⟨⟨cell_alloc a2, cell_alloc a3⟩, cell_alloc a0, cell_alloc a1⟩ ?_
          try simp only [Act.put, List.setIfInBounds_toArray, List.set_cons_zero, List.set_cons_succ]
          refine wpAnyK_one (i := 23) (by kernel_rfl) rfl (by rfl) (b := false) (by kernel_rfl) (fun K hK => ?_)
          refine wp_appI_eq (.tmp 35) (.tmp 38) rfl rfl _ _ rfl rfl ra2 ?_
          refine hK.out _ _ ⟨⟨a9, a10⟩, a5, a6⟩ ?_
          try simp only [Act.put, List.setIfInBounds_toArray, List.set_cons_zero, List.set_cons_succ]
          have hS4 : (w8a.cell? ⟨X, 0, none⟩ = some (.int .i64 (u : Int)) ∧ w8a.cell? ⟨X, 1, none⟩ = some (.int .i64 (v : Int))) ∧ (w8a.cell? ⟨g, u, none⟩ = some (.slice aU LU.length cU) ∧ w8a.cell? ⟨g, v, none⟩ = some (.slice aV LV.length cV)) := ⟨⟨a9, a10⟩, a5, a6⟩
          have hS5 : ((w8a.setCell ⟨g, u, none⟩ (.slice a6a (LU.length + 1) c6a)).cell? ⟨X, 0, none⟩ = some (.int .i64 (u : Int)) ∧ (w8a.setCell ⟨g, u, none⟩ (.slice a6a (LU.length + 1) c6a)).cell? ⟨X, 1, none⟩ = some (.int .i64 (v : Int))) ∧ True := ⟨⟨(World.cell?_setCell_far _ _ _ _ n1).trans a9, (World.cell?_setCell_far _ _ _ _ n1).trans a10⟩, trivial⟩
          have hgv5 : (w8a.setCell ⟨g, u, none⟩ (.slice a6a (LU.length + 1) c6a)).cell? ⟨g, v, none⟩ = some (.slice aV LV.length cV) := (World.cell?_setCell_other _ _ _ _ (fun e => huv (Addr.mk.inj e).2.1)).trans a6
          refine wpAnyK_take (i := 24) (v := .pointer (some ⟨g, u, none⟩)) true rfl (by kernel_rfl) (by kernel_rfl) (by kernel_rfl) (by kernel_rfl) (by kernel_rfl) (fun _ _ _ h => h) (fun _ h => ⟨h.1, trivial⟩) (Or.inl ⟨by rfl, by intro w hSw; dsimp only at hSw; go_simp⟩) (b := false) (by kernel_rfl) hS4 ?_
          try simp only [Act.put, List.setIfInBounds_toArray, List.set_cons_zero, List.set_cons_succ]
          refine wpAnyK_one (i := 25) (by kernel_rfl) rfl (by rfl) (b := true) (by kernel_rfl) (fun K hK => ?_)
          go_simp
          refine hK.out _ _ hS5 ?_
          try simp only [Act.put, List.setIfInBounds_toArray, List.set_cons_zero, List.set_cons_succ]
          refine wpAnyK_take (i := 26) (v := .pointer (some ⟨g, v, none⟩)) true rfl (by kernel_rfl) (by kernel_rfl) (by kernel_rfl) (by kernel_rfl) (by kernel_rfl) (fun _ _ _ h => h) (fun _ h => ⟨h.1, trivial⟩) (Or.inl ⟨by rfl, by intro w hSw; dsimp only at hSw; go_simp⟩) (b := true) (by kernel_rfl) hS5 ?_
          try simp only [Act.put, List.setIfInBounds_toArray, List.set_cons_zero, List.set_cons_succ]
          refine wpAnyK_one (i := 27) (by kernel_rfl) rfl (by rfl) (b := true) (by kernel_rfl) (fun K hK => ?_)
          go_simp
          refine hK.out _ _ ⟨⟨(World.cell?_setCell_far _ _ _ _ n1).trans hS5.1.1, (World.cell?_setCell_far _ _ _ _ n1).trans hS5.1.2⟩, trivial⟩ (wpAnyK_done (by kernel_rfl) ?_ _)
          go_wp2_with fail
          go_roundw
          case rel => exact ⟨k + 1, _, by omega, by go_num, aO2, aB2⟩
          case measure => simp [intOf]; omega
        · go_simp
          refine hK.out _ _ (hSB _ _) ?_
          try simp only [Act.put, List.setIfInBounds_toArray, List.set_cons_zero, List.set_cons_succ]
          refine wpAnyK_one (i := 14) (by kernel_rfl) rfl (by rfl) (b := false) (by kernel_rfl) (fun K hK => ?_)
          refine wp_appI_eq (.tmp 26) (.tmp 29) rfl rfl _ _ rfl rfl rb ?_
          refine hK.out _ _ ⟨⟨b2, b3⟩, b0, b1⟩ ?_
          try simp only [Act.put, List.setIfInBounds_toArray, List.set_cons_zero, List.set_cons_succ]
          refine wpAnyK_one (i := 23) (by kernel_rfl) rfl (by rfl) (b := false) (by kernel_rfl) (fun K hK => ?_)
          refine wp_appI_eq (.tmp 35) (.tmp 38) rfl rfl _ _ rfl rfl rb2 ?_
          refine hK.out _ _ ⟨⟨b9, b10⟩, b5, b6⟩ ?_
          try simp only [Act.put, List.setIfInBounds_toArray, List.set_cons_zero, List.set_cons_succ]
          have hS4 : (w8b.cell? ⟨X, 0, none⟩ = some (.int .i64 (u : Int)) ∧ w8b.cell? ⟨X, 1, none⟩ = some (.int .i64 (v : Int))) ∧ (w8b.cell? ⟨g, u, none⟩ = some (.slice aU LU.length cU) ∧ w8b.cell? ⟨g, v, none⟩ = some (.slice aV LV.length cV)) := ⟨⟨b9, b10⟩, b5, b6⟩
          have hS5 : ((w8b.setCell ⟨g, u, none⟩ (.slice a6b (LU.length + 1) c6b)).cell? ⟨X, 0, none⟩ = some (.int .i64 (u : Int)) ∧ (w8b.setCell ⟨g, u, none⟩ (.slice a6b (LU.length + 1) c6b)).cell? ⟨X, 1, none⟩ = some (.int .i64 (v : Int))) ∧ True := ⟨⟨(World.cell?_setCell_far _ _ _ _ n1).trans b9, (World.cell?_setCell_far _ _ _ _ n1).trans b10⟩, trivial⟩
          have hgv5 : (w8b.setCell ⟨g, u, none⟩ (.slice a6b (LU.length + 1) c6b)).cell? ⟨g, v, none⟩ = some (.slice aV LV.length cV) := (World.cell?_setCell_other _ _ _ _ (fun e => huv (Addr.mk.inj e).2.1)).trans b6
          refine wpAnyK_take (i := 24) (v := .pointer (some ⟨g, u, none⟩)) true rfl (by kernel_rfl) (by kernel_rfl) (by kernel_rfl) (by kernel_rfl) (by kernel_rfl) (fun _ _ _ h => h) (fun _ h => ⟨h.1, trivial⟩) (Or.inl ⟨by rfl, by intro w hSw; dsimp only at hSw; go_simp⟩) (b := false) (by kernel_rfl) hS4 ?_
          try simp only [Act.put, List.setIfInBounds_toArray, List.set_cons_zero, List.set_cons_succ]
          refine wpAnyK_one (i := 25) (by kernel_rfl) rfl (by rfl) (b := true) (by kernel_rfl) (fun K hK => ?_)
          go_simp
          refine hK.out _ _ hS5 ?_
          try simp only [Act.put, List.setIfInBounds_toArray, List.set_cons_zero, List.set_cons_succ]
          refine wpAnyK_take (i := 26) (v := .pointer (some ⟨g, v, none⟩)) true rfl (by kernel_rfl) (by kernel_rfl) (by kernel_rfl) (by kernel_rfl) (by kernel_rfl) (fun _ _ _ h => h) (fun _ h => ⟨h.1, trivial⟩) (Or.inl ⟨by rfl, by intro w hSw; dsimp only at hSw; go_simp⟩) (b := true) (by kernel_rfl) hS5 ?_
          try simp only [Act.put, List.setIfInBounds_toArray, List.set_cons_zero, List.set_cons_succ]
          refine wpAnyK_one (i := 27) (by kernel_rfl) rfl (by rfl) (b := true) (by kernel_rfl) (fun K hK => ?_)
          go_simp
          refine hK.out _ _ ⟨⟨(World.cell?_setCell_far _ _ _ _ n1).trans hS5.1.1, (World.cell?_setCell_far _ _ _ _ n1).trans hS5.1.2⟩, trivial⟩ (wpAnyK_done (by kernel_rfl) ?_ _)
          go_wp2_with fail
          go_roundw
          case rel => exact ⟨k + 1, _, by omega, by go_num, bO2, bB2⟩
          case measure => simp [intOf]; omega
      · go_simp
        refine hK.out _ _ (hSA _) ?_
        try simp only [Act.put, List.setIfInBounds_toArray, List.set_cons_zero, List.set_cons_succ]
        refine wpAnyK_one (i := 13) (by kernel_rfl) rfl (by rfl) (b := false) (by kernel_rfl) (fun K hK => ?_)
        go_simp
        refine hK.out _ _ (hSB _ _) ?_
        try simp only [Act.put, List.setIfInBounds_toArray, List.set_cons_zero, List.set_cons_succ]
        refine wpAnyK_one (i := 14) (by kernel_rfl) rfl (by rfl) (b := false) (by kernel_rfl) (fun K hK => ?_)
        refine wp_appI_eq (.tmp 26) (.tmp 29) rfl rfl _ _ rfl rfl rc ?_
        refine hK.out _ _ ⟨⟨c2, c3⟩, c0', c1'⟩ ?_
        try simp only [Act.put, List.setIfInBounds_toArray, List.set_cons_zero, List.set_cons_succ]
        refine wpAnyK_one (i := 23) (by kernel_rfl) rfl (by rfl) (b := false) (by kernel_rfl) (fun K hK => ?_)
        refine wp_appI_eq (.tmp 35) (.tmp 38) rfl rfl _ _ rfl rfl rc2 ?_
        refine hK.out _ _ ⟨⟨c9, c10⟩, c5, c6⟩ ?_
        try simp only [Act.put, List.setIfInBounds_toArray, List.set_cons_zero, List.set_cons_succ]
        have hS4 : (w8c.cell? ⟨X, 0, none⟩ = some (.int .i64 (u : Int)) ∧ w8c.cell? ⟨X, 1, none⟩ = some (.int .i64 (v : Int))) ∧ (w8c.cell? ⟨g, u, none⟩ = some (.slice aU LU.length cU) ∧ w8c.cell? ⟨g, v, none⟩ = some (.slice aV LV.length cV)) := ⟨⟨c9, c10⟩, c5, c6⟩
        have hS5 : ((w8c.setCell ⟨g, u, none⟩ (.slice a6c (LU.length + 1) c6c)).cell? ⟨X, 0, none⟩ = some (.int .i64 (u : Int)) ∧ (w8c.setCell ⟨g, u, none⟩ (.slice a6c (LU.length + 1) c6c)).cell? ⟨X, 1, none⟩ = some (.int .i64 (v : Int))) ∧ True := ⟨⟨(World.cell?_setCell_far _ _ _ _ n1).trans c9, (World.cell?_setCell_far _ _ _ _ n1).trans c10⟩, trivial⟩
        have hgv5 : (w8c.setCell ⟨g, u, none⟩ (.slice a6c (LU.length + 1) c6c)).cell? ⟨g, v, none⟩ = some (.slice aV LV.length cV) := (World.cell?_setCell_other _ _ _ _ (fun e => huv (Addr.mk.inj e).2.1)).trans c6
        refine wpAnyK_take (i := 24) (v := .pointer (some ⟨g, u, none⟩)) true rfl (by kernel_rfl) (by kernel_rfl) (by kernel_rfl) (by kernel_rfl) (by kernel_rfl) (fun _ _ _ h => h) (fun _ h => ⟨h.1, trivial⟩) (Or.inl ⟨by rfl, by intro w hSw; dsimp only at hSw; go_simp⟩) (b := false) (by kernel_rfl) hS4 ?_
        try simp only [Act.put, List.setIfInBounds_toArray, List.set_cons_zero, List.set_cons_succ]
        refine wpAnyK_one (i := 25) (by kernel_rfl) rfl (by rfl) (b := true) (by kernel_rfl) (fun K hK => ?_)
        go_simp
        refine hK.out _ _ hS5 ?_
        try simp only [Act.put, List.setIfInBounds_toArray, List.set_cons_zero, List.set_cons_succ]
        refine wpAnyK_take (i := 26) (v := .pointer (some ⟨g, v, none⟩)) true rfl (by kernel_rfl) (by kernel_rfl) (by kernel_rfl) (by kernel_rfl) (by kernel_rfl) (fun _ _ _ h => h) (fun _ h => ⟨h.1, trivial⟩) (Or.inl ⟨by rfl, by intro w hSw; dsimp only at hSw; go_simp⟩) (b := true) (by kernel_rfl) hS5 ?_
        try simp only [Act.put, List.setIfInBounds_toArray, List.set_cons_zero, List.set_cons_succ]
        refine wpAnyK_one (i := 27) (by kernel_rfl) rfl (by rfl) (b := true) (by kernel_rfl) (fun K hK => ?_)
        go_simp
        refine hK.out _ _ ⟨⟨(World.cell?_setCell_far _ _ _ _ n1).trans hS5.1.1, (World.cell?_setCell_far _ _ _ _ n1).trans hS5.1.2⟩, trivial⟩ (wpAnyK_done (by kernel_rfl) ?_ _)
        go_wp2_with fail
        go_roundw
        case rel => exact ⟨k + 1, _, by omega, by go_num, cO2, cB2⟩
        case measure => simp [intOf]; omega
    · obtain rfl : k = es.length := by omega
      rw [List.take_length] at hO
      have hO2 := hO.congr (len' := fun i => (castL (nbL es n i)).length) (cs' := fun i => intsV (castL (nbL es n i))) (fun i _ => by rw [nbE_nb hv]) (fun i _ => by rw [nbE_nb hv])
      go_wp2_with fail
      go_ret
      exact ⟨g, rfl, by omega, vs, hO2, hb⟩
end Go.Proofs.YtdkmdcdoiaelfaaGreat
