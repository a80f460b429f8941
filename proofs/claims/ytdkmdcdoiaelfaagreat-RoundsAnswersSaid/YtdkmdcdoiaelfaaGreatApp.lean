/- append and make as laws for the walk, said of lists of numbers and of edges. -/
import Derived.Test.YtdkmdcdoiaelfaaGreatProg
import Derived.Test.YtdkmdcdoiaelfaaGreatBase
import Derived.WalkKit
import Derived.WalkSpells
import Derived.WalkLawsBesides
import Derived.Laws.StructEq
namespace Go.Proofs.YtdkmdcdoiaelfaaGreat
open Go.RowKit Go.BigFrame

/-- a slice type t of elements e: their zero, cells and bytes -/
structure SliceT (P : Program) (t e : TypeId) (z : Value) (size bytes : Nat) : Prop where
  ht : P.underlying t = some (.slice e)
  info : (P.info? e).map (fun i => (i.zero, i.size, i.bytes)) = some (some z, size, bytes)
  hzs : z.cells.size = size
  hsz : 0 < size

section
variable {P : Program} {w : World} {t e : TypeId} {z : Value} {size bytes : Nat}

theorem run_app (S : SliceT P t e z size bytes) (ty : TypeId) (base : Nat) (v : Value) (n : Nat) (xs : List Value) (hown : w.ownsRow base e size v n xs)
    (ao : Option Addr) (m c : Nat) (news : List Value) (hl : news.length = m * size) (hnone : ao = none → m = 0 ∧ c = 0)
    (hc : ∀ ad, ao = some ad → ∀ j u, news[j]? = some u → w.cell? (ad.add j) = some u) (h1 : ∀ u ∈ news, u.oneCell' = true)
    (h63 : n + m ≤ maxLen) (hbytes : (n + m) * bytes ≤ 140737488355328) (hbase : base ≤ w.heap.size) :
    ∃ v' w', (Builtin.append_ #[t, t] ty #[v, .slice ao m c]).run P w = .ok v' w' ∧ w'.ownsRow base e size v' (n + m) (xs ++ news) ∧ w.grownBy w' v.ownBlock := by
  obtain ⟨i, hi, hz, hs, hb⟩ := info_parts S.info
  cases ao with
  | none =>
    obtain ⟨rfl, rfl⟩ := hnone rfl
    obtain rfl : news = [] := List.eq_nil_of_length_eq_zero (by simpa using hl)
    exact ⟨v, w, run_append_owned_none w base t ty e i size S.ht hi v n xs hown, by simpa using hown, World.grownBy.refl _ _⟩
  | some ad =>
    obtain ⟨v', w', h2, h3, h4, _⟩ := run_append_own (P := P) w base t ty e i z size bytes S.ht hi hz hs hb S.hzs S.hsz v n xs hown ad m c news hl (hc ad rfl) h1 h63 hbytes hbase
    exact ⟨v', w', h2, h3, h4⟩

theorem wp_app {o : Oper} {a : Act} {K : Act → World → Prop} {Q : Exit → Act → World → Prop} (S : SliceT P t e z size bytes) (s x : Operand)
    (ho : o.op = .call { callee := .builtin .append, args := #[s, x], argTypes := #[t, t] }) (base : Nat) (v : Value) (n : Nat) (xs : List Value) (hs : a.eval s = v) (hown : w.ownsRow base e size v n xs)
    (ao : Option Addr) (m c : Nat) (news : List Value) (hx : a.eval x = .slice ao m c) (hl : news.length = m * size) (hnone : ao = none → m = 0 ∧ c = 0)
    (hc : ∀ ad, ao = some ad → ∀ j u, news[j]? = some u → w.cell? (ad.add j) = some u) (h1 : ∀ u ∈ news, u.oneCell' = true)
    (h63 : n + m ≤ maxLen) (hbytes : (n + m) * bytes ≤ 140737488355328) (hbase : base ≤ w.heap.size)
    (h : ∀ v' w', w'.ownsRow base e size v' (n + m) (xs ++ news) → w.grownBy w' v.ownBlock → K (a.put o.dst v') w') : o.wp P a w K Q := by
  obtain ⟨v', w', hr, h2, h3⟩ := run_app (P := P) S o.type base v n xs hown ao m c news hl hnone hc h1 h63 hbytes hbase
  unfold Oper.wp execOp
  simp only [ho, resolve, invoke, builtin, Sem.run_bind, Sem.run_pure, Result.andThen_ok, List.map_toArray, List.map_cons, List.map_nil, hs, hx, hr]
  exact h v' w' h2 h3

theorem news_of_ints {src : Value} {ys : List Int} (h : IntsAt w src ys) : ∃ ao c, src = .slice ao ys.length c ∧ (ao = none → ys.length = 0 ∧ c = 0) ∧ (∀ ad, ao = some ad → ∀ j u, (intsV ys)[j]? = some u → w.cell? (ad.add j) = some u) := by
  obtain ⟨ao, c, rfl, h1, h2, h3, h4⟩ := h
  refine ⟨ao, c, rfl, fun e => ⟨by have := h2 e; omega, h2 e⟩, ?_⟩
  rintro ad rfl j u hu
  simp only [intsV, List.getElem?_map, Option.map_eq_some_iff] at hu
  obtain ⟨y, hy, rfl⟩ := hu
  obtain ⟨b, off, hb, hcell⟩ := h4 j y hy
  cases hb
  rw [Addr.add_lit]; exact hcell
theorem one_ints (ys : List Int) : ∀ u ∈ intsV ys, u.oneCell' = true := by
  intro u hu; obtain ⟨_, _, rfl⟩ := List.mem_map.1 hu; rfl
/-- numbers appended to an owned row of numbers -/
theorem wp_app_ints {o : Oper} {a : Act} {K : Act → World → Prop} {Q : Exit → Act → World → Prop} (S : SliceT P t e (.int .i64 0) 1 8) (s x : Operand)
    (ho : o.op = .call { callee := .builtin .append, args := #[s, x], argTypes := #[t, t] }) (base : Nat) (v src : Value) (xs ys : List Int) (hs : a.eval s = v) (hown : w.ownsRow base e 1 v xs.length (intsV xs))
    (hx : a.eval x = src) (hsrc : IntsAt w src ys) (hlen : xs.length + ys.length ≤ 17592186044416) (hbase : base ≤ w.heap.size)
    (h : ∀ v' w', w'.ownsRow base e 1 v' (xs ++ ys).length (intsV (xs ++ ys)) → w.grownBy w' v.ownBlock → K (a.put o.dst v') w') : o.wp P a w K Q := by
  obtain ⟨ao, c, rfl, hn, hc⟩ := news_of_ints hsrc
  refine wp_app S s x ho base v xs.length (intsV xs) hs hown ao ys.length c (intsV ys) hx (by simp [intsV]) hn hc (one_ints ys) (by unfold maxLen; omega) (by omega) hbase ?_
  intro v' w' h1 h2
  exact h v' w' (by simpa [intsV] using h1) h2
/-- the same, as one step of a plain region's list -/
theorem wpList_app_ints {ops : Array Oper} {rest : List Oper} {o : Oper} {a : Act} {Q : Exit → Act → World → Prop} (S : SliceT P t e (.int .i64 0) 1 8) (hgd : o.guard = none) (s x : Operand)
    (ho : o.op = .call { callee := .builtin .append, args := #[s, x], argTypes := #[t, t] }) (base : Nat) (v src : Value) (xs ys : List Int) (hs : a.eval s = v) (hown : w.ownsRow base e 1 v xs.length (intsV xs))
    (hx : a.eval x = src) (hsrc : IntsAt w src ys) (hlen : xs.length + ys.length ≤ 17592186044416) (hbase : base ≤ w.heap.size)
    (h : ∀ v' w', w'.ownsRow base e 1 v' (xs ++ ys).length (intsV (xs ++ ys)) → w.grownBy w' v.ownBlock → wpList P ops Q rest (a.put o.dst v') w') : wpList P ops Q (o :: rest) a w :=
  wpList_plain hgd fun _ hK => wp_app_ints S s x ho base v src xs ys hs hown hx hsrc hlen hbase fun v' w' h1 h2 => hK _ _ (h v' w' h1 h2)
/-- the same, as one step of a region that draws its order -/
theorem step_app_ints {ops : Array Oper} {o : Oper} {a : Act} {K : Act → World → Prop} {Q : Exit → Act → World → Prop} {E : Prop} (S : SliceT P t e (.int .i64 0) 1 8) (hgd : o.guard = none) (s x : Operand)
    (ho : o.op = .call { callee := .builtin .append, args := #[s, x], argTypes := #[t, t] }) (base : Nat) (v src : Value) (xs ys : List Int) (hs : a.eval s = v) (hown : w.ownsRow base e 1 v xs.length (intsV xs))
    (hx : a.eval x = src) (hsrc : IntsAt w src ys) (hlen : xs.length + ys.length ≤ 17592186044416) (hbase : base ≤ w.heap.size)
    (h : ∀ v' w', w'.ownsRow base e 1 v' (xs ++ ys).length (intsV (xs ++ ys)) → w.grownBy w' v.ownBlock → K (a.put o.dst v') w') : if Region.wanted o (yielded ops a.tmps) = true then Oper.wp P o a w K Q else E := by
  rw [if_pos (by simp [Region.wanted, hgd])]
  exact wp_app_ints S s x ho base v src xs ys hs hown hx hsrc hlen hbase h
/-- one number, laid in a new block -/
theorem ints_lit1 (w : World) (y : Int) (T : TypeId) : IntsAt (w.alloc (.cells #[.int .i64 y] T)) (.slice (some ⟨w.heap.size, 0, none⟩) 1 1) [y] := by
  refine ⟨_, 1, rfl, by simp, (fun h => by cases h), by simp, fun i x hi => ?_⟩
  have h0 : i = 0 := by have := (List.getElem?_eq_some_iff.1 hi).1; simpa using this
  subst h0
  simp at hi
  subst hi
  exact ⟨w.heap.size, 0, rfl, by rw [cell_blk (heap_alloc_new _ _)]; rfl⟩
theorem ints_lit1' (w : World) (g : Nat) (hg : w.heap.size = g) (y : Int) (T : TypeId) : IntsAt (w.alloc (.cells #[.int .i64 y] T)) (.slice (some ⟨g, 0, none⟩) 1 1) [y] := by subst hg; exact ints_lit1 w y T
/-- a part of a slice -/
theorem IntsAt.sliced {a : Option Addr} {cap : Nat} {xs : List Int} (h : IntsAt w (.slice a xs.length cap) xs) (l hh : Nat) (h1 : l ≤ hh) (h2 : hh ≤ xs.length) :
    IntsAt w (.slice (if cap = l then a else a.map (·.add (l * 1))) (hh - l) (cap - l)) ((xs.take hh).drop l) := by
  obtain ⟨a', cap', hv, g1, g2, g3, g4⟩ := h
  obtain ⟨rfl, _, rfl⟩ : a = a' ∧ True ∧ cap = cap' := by simpa using hv
  have hl : ((xs.take hh).drop l).length = hh - l := by simp; omega
  refine ⟨_, cap - l, by rw [hl], by omega, ?_, by omega, fun i x hi => ?_⟩
  · intro e
    split at e
    · omega
    · have := g2 (by simpa using e); omega
  · have hi' := (List.getElem?_eq_some_iff.1 hi).1
    rw [hl] at hi'
    have hx : xs[l + i]? = some x := by
      rw [List.getElem?_drop, List.getElem?_take] at hi
      split at hi
      · exact hi
      · cases hi
    obtain ⟨b, off, rfl, hc⟩ := g4 _ _ hx
    rw [if_neg (by omega)]
    refine ⟨b, off + l, by simp [Addr.add_lit], ?_⟩
    rw [Nat.add_assoc]; exact hc
end

theorem IntsAt.take {w : World} {a : Option Addr} {cap : Nat} {xs : List Int} (h : IntsAt w (.slice a xs.length cap) xs) (k : Nat) (hk : k ≤ xs.length) : IntsAt w (.slice a k cap) (xs.take k) := by
  have := h.sliced 0 k (by omega) hk
  simp only [Nat.sub_zero, Nat.zero_mul, List.drop_zero] at this
  have e : a.map (fun x : Addr => x.add 0) = a := by
    cases a with
    | none => rfl
    | some p => simp only [Option.map_some]; obtain ⟨b, o, s⟩ := p; cases s <;> rfl
  rw [e, ite_self] at this
  exact this
theorem IntsAt.drop {w : World} {b off : Nat} {cap : Nat} {xs : List Int} (h : IntsAt w (.slice (some ⟨b, off, none⟩) xs.length cap) xs) (k : Nat) (hk : k < xs.length) : IntsAt w (.slice (some ⟨b, off + k, none⟩) (xs.length - k) (cap - k)) (xs.drop k) := by
  have := h.sliced k xs.length (by omega) (Nat.le_refl _)
  obtain ⟨_, _, hv, hc, _⟩ := h
  have e : cap ≠ k := by simp at hv; omega
  simpa [e, Addr.add_lit] using this
theorem IntsAt.empty {w : World} (a : Option Addr) (c : Nat) (h : a = none → c = 0) : IntsAt w (.slice a 0 c) [] := ⟨a, c, rfl, by simp, h, by simp, fun i x hi => by simp at hi⟩

theorem below_app {B : Nat} {w w1 w' : World} {T size n : Nat} {v : Value} {xs : List Value} (hb : Below B w w1) (hown : w1.ownsRow B T size v n xs) (hg : w1.grownBy w' v.ownBlock) (hB : B ≤ w1.heap.size) : Below B w w' :=
  hb.grown hg hB (fun k hk => (hown.lt k hk).1)
theorem below_app' {w w1 w' : World} {T size n : Nat} {v : Value} {xs : List Value} (hb : Below w.heap.size w w1) (hown : w1.ownsRow w.heap.size T size v n xs) (hg : w1.grownBy w' v.ownBlock) : Below w.heap.size w w' := below_app hb hown hg hb.size
/-- an owned row of numbers is handed back -/
theorem ints_post {w w' : World} {T : Nat} {v : Value} {xs : List Int} (hb : Below w.heap.size w w') (hown : w'.ownsRow w.heap.size T 1 v xs.length (intsV xs)) (hl : xs.length ≤ 70368744177664) : IntsPost w xs (.returned v) w' := by
  obtain ⟨a, cap, rfl, h, _⟩ := IntsAt.of_owns hown hl
  exact ⟨a, cap, rfl, h, hb⟩

theorem intsT : SliceT Tryz.prog 22 3 (.int .i64 0) 1 8 := ⟨Tryz.underlying22, by kernel_rfl, rfl, by decide⟩
@[go_sem] theorem eqEdge (a b c d : Int) (w : World) : (Op.equalIn 10000 62 (.agg #[.int .i64 a, .int .i64 b]) (.agg #[.int .i64 c, .int .i64 d])).run Tryz.prog w = .ok (a == c && b == d) w := by
  have u3 := Tryz.underlying3
  have hS : Tryz.prog.underlying 62 = some (.struct (Tryz.prog.fieldsOf 62)) := by kernel_rfl
  rw [show (10000 : Nat) = 9999 + 1 from rfl, run_equalIn_agg w 9999 62 _ _ hS (by kernel_rfl)]
  simp only [Program.fieldsOf, Tryz.underlying62]
  go_simp
  by_cases h1 : a = c <;> by_cases h2 : b = d <;> simp [h1, h2]
@[go_sem] theorem guardEdge (op : BinOp) (x y : Operand) (xs ys : Array Value) (w : World) : (eqGuard op 62 x y (.agg xs) (.agg ys)).run Tryz.prog w = .ok () w := run_eqGuard_agg w op 62 x y xs ys (by kernel_rfl)
/-- a slice that is read, element by element -/
theorem IntsAt.at {w : World} {a : Option Addr} {cap : Nat} {xs : List Int} (h : IntsAt w (.slice a xs.length cap) xs) (k : Nat) (hk : k < xs.length) : ∃ b off y, a = some ⟨b, off, none⟩ ∧ xs[k]? = some y ∧ xs.drop k = y :: xs.drop (k + 1) ∧ xs.take (k + 1) = xs.take k ++ [y] ∧ w.cell? ⟨b, off + k, none⟩ = some (.int .i64 y) := by
  obtain ⟨a', cap', hv, _, _, _, hc⟩ := h
  obtain ⟨rfl, _, rfl⟩ : a = a' ∧ True ∧ cap = cap' := by simpa using hv
  have hy : xs[k]? = some xs[k] := List.getElem?_eq_getElem hk
  obtain ⟨b, off, ha, h0⟩ := hc k _ hy
  exact ⟨b, off, xs[k], ha, hy, List.drop_eq_getElem_cons hk, List.take_succ_eq_append_getElem hk, h0⟩
theorem EdgesAt.at {w : World} {a : Option Addr} {cap : Nat} {es : List E2} (h : EdgesAt w (.slice a es.length cap) es) (k : Nat) (hk : k < es.length) : ∃ b off x y, a = some ⟨b, off, none⟩ ∧ es[k]? = some (x, y) ∧ es.drop k = (x, y) :: es.drop (k + 1) ∧ es.take (k + 1) = es.take k ++ [(x, y)] ∧
    w.cell? ⟨b, off + k * 2, none⟩ = some (.int .i64 x) ∧ w.cell? ⟨b, off + k * 2 + 1, none⟩ = some (.int .i64 y) := by
  obtain ⟨a', cap', hv, _, _, _, hc⟩ := h
  obtain ⟨rfl, _, rfl⟩ : a = a' ∧ True ∧ cap = cap' := by simpa using hv
  have hy : es[k]? = some es[k] := List.getElem?_eq_getElem hk
  obtain ⟨b, off, ha, h0⟩ := hc k _ hy
  exact ⟨b, off, es[k].1, es[k].2, ha, hy, List.drop_eq_getElem_cons hk, List.take_succ_eq_append_getElem hk, h0⟩

def cmpS (a b : Int) : Int := if a < b then -1 else if b < a then 1 else 0
def orS : List Int → Int
  | [] => 0
  | x :: l => if x = 0 then orS l else x
theorem nan_any (x : Int) (w : World) : Calls Tryz.prog 96 #[.int .i64 x] w fun e w' => e = .returned (.bool false) ∧ w = w' := by
  go_enter Tryz.func96, Tryz.ntmps96
  go_wp2
  go_ret
  exact ⟨by simp, rfl⟩
theorem cmp_any (x y : Int) (w : World) : Calls Tryz.prog 93 #[.int .i64 x, .int .i64 y] w fun e w' => e = .returned (.int .i64 (cmpS x y)) ∧ w = w' := by
  have hc : cmpS x y = if x < y then -1 else if y < x then 1 else 0 := rfl
  have HC := Lib.hid hc
  clear hc
  rcases Int.lt_trichotomy x y with h | h | h
  · go_enter Tryz.func93, Tryz.ntmps93
    go_wp2_with (go_at_call 96; refine (nan_any _ _).mono ?_; rintro e w' ⟨rfl, rfl⟩)
    go_ret
    exact ⟨ret_int (by rw [HC.out, if_pos h]), rfl⟩
  · have h1 : ¬ x < y := by omega
    have h2 : ¬ y < x := by omega
    clear h
    go_enter Tryz.func93, Tryz.ntmps93
    go_wp2_with (go_at_call 96; refine (nan_any _ _).mono ?_; rintro e w' ⟨rfl, rfl⟩)
    go_ret
    exact ⟨ret_int (by rw [HC.out, if_neg (by omega), if_neg (by omega)]), rfl⟩
  · have h1 : ¬ x < y := by omega
    go_enter Tryz.func93, Tryz.ntmps93
    go_wp2_with (go_at_call 96; refine (nan_any _ _).mono ?_; rintro e w' ⟨rfl, rfl⟩)
    go_ret
    exact ⟨ret_int (by rw [HC.out, if_neg (by omega), if_pos h]), rfl⟩
set_option maxRecDepth 100000 in
theorem or_any (a : Option Addr) (cap : Nat) (xs : List Int) (w : World) (hi : IntsAt w (.slice a xs.length cap) xs) :
    Calls Tryz.prog 92 #[.slice a xs.length cap] w fun e w' => e = .returned (.int .i64 (orS xs)) ∧ w = w' := by
  have hl : xs.length ≤ 70368744177664 := by obtain ⟨_, _, hv, _, _, hl, _⟩ := hi; exact hl
  go_enter Tryz.func92, Tryz.ntmps92
  go_wp2
  go_loop [8] (fun i => ∃ k : Nat, k ≤ xs.length ∧ i = .int .i64 k ∧ Hid (orS xs = orS (xs.drop k))) (fun i => xs.length - (intOf i).toNat)
  case atStart => exact ⟨0, Nat.zero_le _, rfl, rfl⟩
  case round =>
    obtain ⟨k, hk, rfl, HR⟩ := hrel
    by_cases hlt : k < xs.length
    · obtain ⟨b, off, y, rfl, _, hd, _, c0⟩ := hi.at k hlt
      have HD := Lib.hid hd
      clear hd
      by_cases he : y = 0
      · have HT : Hid (orS xs = orS (xs.drop (k + 1))) := by show _ = _; rw [HR.out, HD.out, orS, if_pos he]
        subst he
        go_wp2
        go_round
        case rel => exact ⟨k + 1, by omega, by go_num, HT⟩
        case measure => simp [intOf]; omega
      · have he2 : (y != 0) = true := by simpa using he
        have HT : Hid (orS xs = y) := by show _ = _; rw [HR.out, HD.out, orS, if_neg he]
        go_wp2
        go_ret
        exact ⟨ret_int HT.out.symm, rfl⟩
    · have HT : Hid (orS xs = 0) := by show _ = _; rw [HR.out, List.drop_of_length_le (by omega)]; rfl
      go_wp2
      go_ret
      exact ⟨ret_int HT.out.symm, rfl⟩
theorem ints_lit2 (w : World) (g : Nat) (hg : w.heap.size = g) (x y : Int) (T : TypeId) : IntsAt (w.alloc (.cells #[.int .i64 x, .int .i64 y] T)) (.slice (some ⟨g, 0, none⟩) 2 2) [x, y] := by
  subst hg
  refine ⟨_, 2, rfl, by simp, (fun h => by cases h), by simp, fun i z hi => ?_⟩
  refine ⟨w.heap.size, 0, rfl, ?_⟩
  rw [cell_blk (heap_alloc_new _ _), Nat.zero_add]
  match i, hi with
  | 0, hi => simpa using hi
  | 1, hi => simpa using hi
  | (_ + 2), hi => simp at hi

set_option maxHeartbeats 400000 in
theorem before_any (u v x y : Int) (w : World) :
    Calls Tryz.prog 89 #[.agg #[.int .i64 u, .int .i64 v], .agg #[.int .i64 x, .int .i64 y]] w fun e w' => e = .returned (.bool (beforeB (u, v) (x, y))) ∧ Below w.heap.size w w' := by
  have hp := ((Below.refl w.heap.size w).alloc (Nat.le_refl _) (.cells #[.int .i64 u, .int .i64 v] 62)).alloc (by simp) (.cells #[.int .i64 x, .int .i64 y] 62)
  rcases Int.lt_trichotomy u x with h | h | h
  · have hb : beforeB (u, v) (x, y) = true := by simp [beforeB, h]
    go_enter Tryz.func89, Tryz.ntmps89
    go_wp2
    go_ret
    exact ⟨ret_bool hb.symm, hp⟩
  · subst h
    have hb : beforeB (u, v) (u, y) = decide (v < y) := by simp [beforeB]
    rw [hb]
    have h1 : ¬ u < u := by omega
    go_enter Tryz.func89, Tryz.ntmps89
    go_wp2
    all_goals go_ret
    all_goals exact ⟨by simp_all, hp⟩
  · have hb : beforeB (u, v) (x, y) = false := by simp [beforeB]; omega
    have h1 : ¬ u < x := by omega
    have h2 : (u == x) = false := by simp; omega
    go_enter Tryz.func89, Tryz.ntmps89
    go_wp2
    go_ret
    exact ⟨rfl, hp⟩
end Go.Proofs.YtdkmdcdoiaelfaaGreat
