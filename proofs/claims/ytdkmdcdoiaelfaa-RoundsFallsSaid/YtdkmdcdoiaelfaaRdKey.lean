/- What the laws on rounds want: a world of workers in a block of memory (printed by wip/mkkey.py). -/
import Derived.Test.YtdkmdcdoiaelfaaRdPly
import Derived.Test.YtdkmdcdoiaelfaaRdVal38
import Derived.Test.YtdkmdcdoiaelfaaRdPlan
import Derived.Test.YtdkmdcdoiaelfaaMkGraph
import Derived.Test.YtdkmdcdoiaelfaaRef10
import Derived.Test.YtdkmdcdoiaelfaaRef03
import Derived.Test.YtdkmdcdoiaelfaaGrSame
import Derived.Deep.RegionWith
namespace Go.Proofs.Ytdkmdcdoiaelfaa
open Go.RowKit Go.BigFrame

theorem ply_inv {n P : Nat} {es : List E2} {ow : Nat → Nat} {W : WdP} (hv : Valid n es) (h0 : RInv es n P ow W) (sc : Nat → Int) (k : Nat) : RInv es n P ow (plyK es n P ow W sc k) := ply_ind (fun _ _ _ _ _ hi hj hb hp => dlv_inv hv hp hi hj hb) h0 sc k
theorem GoodW.ply {n P : Nat} {es : List E2} {ow : Nat → Nat} {hv : List Int} {W : WdP} (h : GoodW n P es ow hv W) (hp : potN n P ow W ≤ 800000) (sc : Nat → Int) (k : Nat) : GoodW n P es ow hv (plyK es n P ow W sc k) :=
  ⟨h.hg, h.hP, h.how, h.hh, h.hhl, ply_vld h.how h.vld sc k, fun i j hi hj => by
    have h1 := bx_pot (n := n) (ow := ow) (W := plyK es n P ow W sc k) hi hj
    have h2 := ply_potle (es := es) h.how h.vld sc k
    omega⟩
/-- at the end the owners know the core numbers -/
theorem num_end {n P : Nat} {es : List E2} {ow : Nat → Nat} {W : WdP} (hv : Valid n es) (how : ∀ v, v < n → ow v < P) (hI : RInv es n P ow W) (he : rdyW P W = []) : numW n ow W = corT es n := by
  have h := (end_core hv how hI (rdyW_nil he)).1
  unfold numW corT
  apply List.ext_getElem?
  intro i
  by_cases hi : i < n
  · rw [fnL_get n _ i hi, fnL_get n _ i hi, h i hi]
  · rw [List.getElem?_eq_none (by rw [fnL_length]; omega), List.getElem?_eq_none (by rw [fnL_length]; omega)]
theorem corT_atD {es : List E2} {n k : Nat} (h : k < n) : (corT es n).getD k 0 = corF es n k := getD_of (fnL_get n _ k h)
theorem WldAt.shapeD {w : World} {v : Value} {n P : Nat} {es : List E2} {ow : Nat → Nat} {hv : List Int} {W : WdP} (h : WldAt w v (wdL n P es ow hv W)) : ∃ (ae ao ah ak ab : Option Addr) (ce co ch ck cb : Nat), v = .agg #[.int .i64 (n : Int), .slice ae es.length ce, .int .i64 (P : Int), .slice ao n co, .slice ah hv.length ch, .slice ak P ck, .slice ab P cb] ∧ EdgesAt w (.slice ae es.length ce) es ∧ IntsAt w (.slice ao n co) (owI n ow) ∧ KnA w (.slice ak P ck) ((List.range P).map W.kn) ∧ BoxA w (.slice ab P cb) ((List.range P).map fun r => (List.range P).map (W.bx r)) := by
  obtain ⟨ae, ao, ah, ak, ab, ce, co, ch, ck, cb, rfl, h1, h2, h3, h4, h5⟩ := h
  have hkl : (wdL n P es ow hv W).kn.length = P := by simp [wdL]
  have hbl : (wdL n P es ow hv W).bx.length = P := by simp [wdL]
  have hol : (wdL n P es ow hv W).ow.length = n := owI_length n ow
  rw [hkl] at h4 ⊢
  rw [hbl] at h5 ⊢
  rw [hol] at h2 ⊢
  exact ⟨ae, ao, ah, ak, ab, ce, co, ch, ck, cb, rfl, h1, h2, h4, h5⟩
/-- a block that holds a world which reads so, whatever is stored into that block -/
def WldB (Bw n P : Nat) (es : List E2) (ow : Nat → Nat) (hv : List Int) (W : WdP) (w : World) : Prop := ∃ (ae ao ah ak ab : Option Addr) (ce co ch ck cb : Nat), w.heap[Bw]? = some (.cells #[.int .i64 (n : Int), .slice ae es.length ce, .int .i64 (P : Int), .slice ao n co, .slice ah hv.length ch, .slice ak P ck, .slice ab P cb] 59 (0, 0)) ∧ Stb (fun b => b = Bw) w fun U => WldAt U (.agg #[.int .i64 (n : Int), .slice ae es.length ce, .int .i64 (P : Int), .slice ao n co, .slice ah hv.length ch, .slice ak P ck, .slice ab P cb]) (wdL n P es ow hv W)
section
variable {Bw n P s : Nat} {es : List E2} {ow : Nat → Nat} {hv : List Int} {W : WdP} {w w' : World}
theorem WldB.fr {D : Nat → Prop} (h : WldB Bw n P es ow hv W w) (hf : Fr D w w') (hd : ∀ b, D b → w.heap.size ≤ b) : WldB Bw n P es ow hv W w' := by
  obtain ⟨ae, ao, ah, ak, ab, ce, co, ch, ck, cb, h1, h2⟩ := h
  exact ⟨ae, ao, ah, ak, ab, ce, co, ch, ck, cb, hf.blk h1 (fun e => by have := hd _ e; have := blk_lt h1; omega), h2.step hf (fun b e => .inr (hd b e)) (fun b e => .inl e)⟩
theorem WldB.below (h : WldB Bw n P es ow hv W w) (hb : Below w.heap.size w w') : WldB Bw n P es ow hv W w' := h.fr (Fr.of_below (D := fun _ => False) hb) (fun _ h => h.elim)
/-- it has been made and stored -/
theorem WldB.new {v : Value} {cs : Array Value} (hv2 : WldS s w v (wdL n P es ow hv W)) (hc : v = .agg cs) : WldB w.heap.size n P es ow hv W (w.alloc (.cells cs 59)) := by
  obtain ⟨ae, ao, ah, ak, ab, ce, co, ch, ck, cb, e, -⟩ := hv2.now.shapeD
  subst hc
  obtain rfl := (Value.agg.inj e)
  exact ⟨ae, ao, ah, ak, ab, ce, co, ch, ck, cb, heap_alloc_new w _, Stb.step hv2 (Fr.of_below (D := fun _ => False) ((Below.refl w.heap.size w).alloc (Nat.le_refl _) _)) (fun _ h => h.elim) (fun _ e => .inr (by omega))⟩
theorem WldB.put {T : Nat} {c0 c1 c2 c3 c4 c5 c6 : Value} {ae ao ah ak ab : Option Addr} {ce co ch ck cb : Nat} (hv2 : WldS s w (.agg #[.int .i64 (n : Int), .slice ae es.length ce, .int .i64 (P : Int), .slice ao n co, .slice ah hv.length ch, .slice ak P ck, .slice ab P cb]) (wdL n P es ow hv W)) (hB : w.heap[Bw]? = some (.cells #[c0, c1, c2, c3, c4, c5, c6] T (0, 0))) (hT : T = 59) (hs : Bw < s) : WldB Bw n P es ow hv W (((((((w.setCell ⟨Bw, 0, none⟩ (.int .i64 (n : Int))).setCell ⟨Bw, 1, none⟩ (.slice ae es.length ce)).setCell ⟨Bw, 2, none⟩ (.int .i64 (P : Int))).setCell ⟨Bw, 3, none⟩ (.slice ao n co)).setCell ⟨Bw, 4, none⟩ (.slice ah hv.length ch)).setCell ⟨Bw, 5, none⟩ (.slice ak P ck)).setCell ⟨Bw, 6, none⟩ (.slice ab P cb)) := by
  subst hT
  exact ⟨ae, ao, ah, ak, ab, ce, co, ch, ck, cb, set7all hB, Stb.step hv2 ((Fr.refl (fun b => b = Bw) w).grown (set7_grown w Bw _ _ _ _ _ _ _) (fun b e => .inl (Option.some.inj e).symm)) (fun b e => .inl (by omega)) (fun b e => .inl (by omega))⟩
theorem set7_fr (w : World) (g : Nat) (d0 d1 d2 d3 d4 d5 d6 : Value) : Fr (fun b => b = g) w (((((((w.setCell ⟨g, 0, none⟩ d0).setCell ⟨g, 1, none⟩ d1).setCell ⟨g, 2, none⟩ d2).setCell ⟨g, 3, none⟩ d3).setCell ⟨g, 4, none⟩ d4).setCell ⟨g, 5, none⟩ d5).setCell ⟨g, 6, none⟩ d6) := (Fr.refl _ w).grown (set7_grown w g _ _ _ _ _ _ _) (fun _ e => .inl (Option.some.inj e).symm)
end
theorem frees7 {w : World} {g T : Nat} {x y z u p q r : Value} (h : w.heap[g]? = some (.cells #[x, y, z, u, p, q, r] T (0, 0))) : w.frozen? ⟨g, 0, none⟩ = false ∧ w.frozen? ⟨g, 1, none⟩ = false ∧ w.frozen? ⟨g, 2, none⟩ = false ∧ w.frozen? ⟨g, 3, none⟩ = false ∧ w.frozen? ⟨g, 4, none⟩ = false ∧ w.frozen? ⟨g, 5, none⟩ = false ∧ w.frozen? ⟨g, 6, none⟩ = false := ⟨free_blk h, free_blk h, free_blk h, free_blk h, free_blk h, free_blk h, free_blk h⟩
theorem IntsAt.atn {w : World} {a : Option Addr} {n cap : Nat} {xs : List Int} (h : IntsAt w (.slice a n cap) xs) (hl : xs.length = n) (k : Nat) (hk : k < n) : ∃ b off, a = some ⟨b, off, none⟩ ∧ w.cell? ⟨b, off + k, none⟩ = some (.int .i64 (xs.getD k 0)) := by
  subst hl
  obtain ⟨b, off, y, rfl, hy, -, -, hc⟩ := h.at k hk
  exact ⟨b, off, rfl, by rw [getD_of hy]; exact hc⟩
/-- few messages at the start -/
theorem sumR_leC (f : Nat → Nat) (c : Nat) : ∀ n, (∀ v, v < n → f v ≤ c) → sumR n f ≤ n * c
  | 0, _ => by rw [sumR]; omega
  | n + 1, h => by
    have := sumR_leC f c n (fun v hv => h v (by omega))
    have := h n (by omega)
    rw [sumR, Nat.succ_mul]; omega
theorem sta_potle {n P : Nat} {es : List E2} {ow : Nat → Nat} (hv : Valid n es) (how : ∀ v, v < n → ow v < P) (hn : n ≤ 64) (hP : P ≤ 8) : potN n P ow (staP es n P ow) ≤ 800000 := by
  have h1 := sta_pot (es := es) (P := P) how
  have h2 := sumR_leC (fun v => ((nbL es n v).length + 1) * (P - 1)) 448 n fun v hvn => Nat.le_trans (Nat.mul_le_mul (by have := nb_lt hv v hvn; omega : _ ≤ 64) (by omega : _ ≤ 7)) (by decide)
  omega
theorem ply_potle2 {n P : Nat} {es : List E2} {ow : Nat → Nat} {W : WdP} {c : Nat} (how : ∀ v, v < n → ow v < P) (h0 : VldP n P W) (sc : Nat → Int) (k : Nat) (h : potN n P ow W ≤ c) : potN n P ow (plyK es n P ow W sc k) ≤ c := Nat.le_trans (ply_potle (es := es) how h0 sc k) h
/-- a row of what the workers know -/
theorem KnA.row {w : World} {P : Nat} {a : Option Addr} {cap : Nat} {K : Nat → List Int} (h : KnA w (.slice a P cap) ((List.range P).map K)) (i : Nat) (hi : i < P) : ∃ b off sa sc, a = some ⟨b, off, none⟩ ∧ w.cell? ⟨b, off + i, none⟩ = some (.slice sa (K i).length sc) ∧ IntsAt w (.slice sa (K i).length sc) (K i) := by
  have hl : ((List.range P).map K).length = P := by simp
  have hx : ((List.range P).map K)[i]? = some (K i) := by rw [List.getElem?_map, List.getElem?_range hi]; rfl
  have h' : KnA w (.slice a ((List.range P).map K).length cap) ((List.range P).map K) := by rw [hl]; exact h
  obtain ⟨-, -, b, off, sl, rfl, hc, hI⟩ := h'.at i _ hx
  obtain ⟨sa, sn, sc⟩ := sl
  have hsn : sn = (K i).length := IntsAt.lenE hI
  subst hsn
  exact ⟨b, off, sa, sc, rfl, hc, hI⟩
end Go.Proofs.Ytdkmdcdoiaelfaa
