/- The contracts of the reference's falling and H: the h-index of numbers. -/
import Derived.Test.YtdkmdcdoiaelfaaGreatHIdx
import Derived.Test.YtdkmdcdoiaelfaaGreatNumFn
import Derived.Deep.DeepCutAuto
namespace Go.Proofs.YtdkmdcdoiaelfaaGreat
open Go.RowKit Go.BigFrame

theorem owns_take9 {w : World} {base T : Nat} {a : Option Addr} {n cap : Nat} {xs : List Int} (h : w.ownsRow base T 1 (.slice a n cap) n (intsV xs)) (k : Nat) (hk : k ≤ n) : w.ownsRow base T 1 (.slice a k cap) k (intsV (xs.take k)) := by
  have hl : xs.length = n := by have := h.1; simpa [intsV] using this
  refine ⟨by simp [intsV]; omega, ?_⟩
  rcases h.2 with ⟨hv, h0⟩ | ⟨g, c, cur, hv, hb, hg, hn, hc, hs, ht⟩
  · obtain rfl : k = 0 := by omega
    exact .inl ⟨by simp at hv; simp [hv], rfl⟩
  · refine .inr ⟨g, c, cur, ?_, hb, hg, by omega, hc, hs, ?_⟩
    · simp at hv ⊢; exact hv
    · have : cur.toList.take (k * 1) = (cur.toList.take (n * 1)).take k := by rw [List.take_take]; congr 1; omega
      rw [this, ht]
      simp [intsV]
theorem owns_one9 (w : World) (base : Nat) (y : Int) (T : Nat) (hb : base ≤ w.heap.size) : (w.alloc (.cells #[.int .i64 y] T)).ownsRow base T 1 (.slice (some ⟨w.heap.size, 0, none⟩) 1 1) 1 (intsV [y]) :=
  ⟨rfl, .inr ⟨w.heap.size, 1, #[.int .i64 y], rfl, hb, heap_alloc_new _ _, Nat.le_refl _, by unfold maxLen; omega, rfl, rfl⟩⟩
theorem ints_caps9 {w : World} {a : Option Addr} {n cap : Nat} {es : List Int} (h : IntsAt w (.slice a n cap) es) : n ≤ cap ∧ (a = none → cap = 0) := by
  obtain ⟨a', cap', hv, h1, h2, _⟩ := h
  obtain ⟨rfl, rfl, rfl⟩ : a = a' ∧ n = es.length ∧ cap = cap' := by simpa using hv
  exact ⟨h1, h2⟩
theorem grown_drew9 {w w' : World} {r : Option Nat} (h : w.drew.grownBy w' r) : w.grownBy w' r := ⟨h.os, h.tape, h.output, h.size, h.block⟩
theorem fall_ins {S : List Int} {x : Int} {i : Nat} (hS : S.Pairwise (· ≥ ·)) (hi : i ≤ S.length) (h1 : ∀ y ∈ S.drop i, y < x) (h2 : ∀ y, 0 < i → S[i - 1]? = some y → x ≤ y) : (S.take i ++ x :: S.drop i).Pairwise (· ≥ ·) := by
  have hsp := hS
  rw [← List.take_append_drop i S, List.pairwise_append] at hsp
  obtain ⟨p1, p2, p3⟩ := hsp
  rw [List.pairwise_append]
  refine ⟨p1, ?_, ?_⟩
  · rw [List.pairwise_cons]
    exact ⟨fun y hy => by have := h1 y hy; omega, p2⟩
  · intro u hu v hv
    have hux : x ≤ u := by
      by_cases h0 : i = 0
      · subst h0; simp at hu
      · have hlt : i - 1 < S.length := by omega
        obtain ⟨y, hy⟩ : ∃ y, S[i - 1]? = some y := ⟨_, List.getElem?_eq_getElem hlt⟩
        have hxy := h2 y (by omega) hy
        have ht : S.take i = S.take (i - 1) ++ [y] := by
          obtain ⟨j, rfl⟩ : ∃ j, i = j + 1 := ⟨i - 1, by omega⟩
          rw [List.take_add_one]
          simp only [Nat.add_sub_cancel] at hy ⊢
          rw [hy]; rfl
        rw [ht] at hu p1
        rw [List.pairwise_append] at p1
        rcases List.mem_append.1 hu with h | h
        · have := p1.2.2 u h y (by simp); omega
        · rw [List.mem_singleton] at h; omega
    rcases List.mem_cons.1 hv with h | h
    · rw [h]; exact hux
    · exact p3 u hu v h
def FallPost (w : World) (l : List Int) (e : Ending) (w' : World) : Prop := ∃ (S : List Int) (a : Option Addr) (cap : Nat), e = .returned (.slice a S.length cap) ∧ IntsAt w' (.slice a S.length cap) S ∧ S.Perm l ∧ S.Pairwise (· ≥ ·) ∧ Below w.heap.size w w'
set_option maxRecDepth 100000 in
set_option maxHeartbeats 3200000 in
theorem falling_any (a : Option Addr) (cap : Nat) (l : List Int) (w : World) (he : IntsAt w (.slice a l.length cap) l) (hl : l.length ≤ 10000) :
    Calls Tryz.prog 77 #[.slice a l.length cap] w (FallPost w l) := by
  go_enter Tryz.func77, Tryz.ntmps77
  go_wp2_with fail
  go_loopw [3, 9] (fun vx vi wr => ∃ (k : Nat) (S : List Int), k ≤ l.length ∧ vi = .int .i64 k ∧ Hid (S.length = k) ∧ S.length ≤ 10000 ∧ Hid (S.Perm (l.take k)) ∧ Hid (S.Pairwise (· ≥ ·)) ∧ wr.ownsRow w.heap.size 3 1 vx S.length (intsV S) ∧ Below w.heap.size w wr) (fun _ vi _ => l.length - (intOf vi).toNat)
  case atStart => exact ⟨0, [], Nat.zero_le _, rfl, (show _ = _ from rfl), by simp, (show List.Perm _ _ by simp), (show List.Pairwise _ _ from List.Pairwise.nil), World.ownsRow_nil _ _ _ _, Below.refl _ _⟩
  case round =>
    obtain ⟨k, S, hk, rfl, HSL, hSl, HP, HS, hown, hb⟩ := hrel
    obtain ⟨ao, co, hvo⟩ := owns_shape hown
    subst hvo
    obtain ⟨wr', rfl⟩ : ∃ W : World, W = wr := ⟨_, rfl⟩
    by_cases hlt : k < l.length
    · have hlt3 : (k : Int) < l.length := by omega
      obtain ⟨b, off, x, rfl, hx, -, -, c0⟩ := (he.below hb).at k hlt
      have HX : Hid (l.take (k + 1) = l.take k ++ [x]) := (show _ = _ from take_at _ _ _ hx)
      obtain ⟨a5, c5, e5, hiS, -⟩ := IntsAt.of_owns hown (by omega)
      cases e5
      have hSk : S.length < l.length := by have := HSL.out; omega
      clear hx
      obtain ⟨wK, rfl⟩ : ∃ W : World, W = wr' := ⟨_, rfl⟩
      go_wp2_with fail
      go_loopw [6] (fun vi wx => ∃ i : Nat, i ≤ S.length ∧ vi = .int .i64 i ∧ Hid (∀ y ∈ S.drop i, y < x) ∧ wK = wx) (fun vi _ => (intOf vi).toNat)
      case atStart => exact ⟨S.length, Nat.le_refl _, rfl, (show ∀ y ∈ S.drop S.length, _ by simp), rfl⟩
      case round =>
        obtain ⟨i, hi, rfl, HA, rfl⟩ := hrel
        by_cases hex : ∃ y, 0 < i ∧ S[i - 1]? = some y ∧ y < x
        · obtain ⟨y, hi0, hy, hyx⟩ := hex
          obtain ⟨j, rfl⟩ : ∃ j, i = j + 1 := ⟨i - 1, by omega⟩
          rw [Nat.add_sub_cancel] at hy
          have hjl : j < S.length := by omega
          obtain ⟨b2, o2, y2, rfl, hy2, -, -, c2⟩ := hiS.at j hjl
          obtain rfl : y = y2 := by rw [hy] at hy2; exact Option.some.inj hy2
          have d1 : decide (y < x) = true := by simpa using hyx
          have d2 : decide ((0 : Int) < ((j + 1 : Nat) : Int)) = true := by simp
          have v1 : IntKind.i64.wrap ((j : Int) + 1 - 1) = (j : Int) := by rw [show (j : Int) + 1 - 1 = j by omega]; exact IntWalk.i64_in _ (by omega)
          have HA2 : Hid (∀ z ∈ S.drop j, z < x) := (show ∀ z ∈ S.drop j, _ from fun z hz => by
            have : S.drop j = y :: S.drop (j + 1) := by
              obtain ⟨_, he⟩ := List.getElem?_eq_some_iff.1 hy
              rw [List.drop_eq_getElem_cons hjl, he]
            rw [this] at hz
            rcases List.mem_cons.1 hz with h | h
            · rw [h]; exact hyx
            · exact HA.out z h)
          clear hy hy2 hyx hi0
          go_wp2_with fail
          go_roundw
          case rel => exact ⟨j, by omega, by go_num, HA2, by first | trivial | rfl⟩
          case measure => first | (simp [intOf]; done) | (simp [intOf]; omega)
        · have HZ : ∀ y, 0 < i → S[i - 1]? = some y → x ≤ y := fun y h0 hy => Int.not_lt.1 fun h => hex ⟨y, h0, hy, h⟩
          clear hex
          by_cases hi0 : i = 0
          · have d2 : decide ((0 : Int) < (i : Int)) = false := by simp; omega
            have d3 : decide (0 < i) = false := by simp; omega
            clear hi0
            have hlt5 := hown.lt
            have hcaps := ints_caps9 hiS
            have hic : i ≤ co := by omega
            have hcl : S.length ≤ co := hcaps.1
            have hnone := hcaps.2
            have hown4 := owns_take9 hown i hi
            have HPN : Hid ((S.take i ++ x :: S.drop i).Perm (l.take (k + 1))) := (show List.Perm _ _ by
              rw [HX.out]
              refine List.perm_middle.trans ?_
              rw [List.take_append_drop]
              exact (List.Perm.cons x HP.out).trans (List.perm_append_comm (l₁ := [x])))
            have HSN : Hid ((S.take i ++ x :: S.drop i).Pairwise (· ≥ ·)) := (show List.Pairwise _ _ from fall_ins HS.out hi HA.out HZ)
            have HLN : Hid ((S.take i ++ x :: S.drop i).length = k + 1) := (show _ = _ by have h := HPN.out.length_eq; rw [h, List.length_take]; omega)
            have htl : (S.take i).length = i := by simp; omega
            have HTL := Lib.hid htl
            have hdl : (S.drop i).length = S.length - i := by simp
            have HDL := Lib.hid hdl
            have hown4' : wK.ownsRow w.heap.size 3 1 (.slice ao i co) (S.take i).length (intsV (S.take i)) := by rw [htl]; exact hown4
            clear htl hdl hown4 HZ HP HS HA
            by_cases hil : i < S.length
            · have hck : ¬ co = i := by omega
              obtain ⟨g0, off0, hag⟩ : ∃ g0 off0, ao = some ⟨g0, off0, none⟩ := by
                rcases hown.2 with ⟨hv, h0⟩ | ⟨g, c, cur, hv, _⟩
                · omega
                · cases hv; exact ⟨g, 0, rfl⟩
              subst hag
              have hdrop := IntsAt.drop hiS i hil
              have hg0 := hown.lt g0 rfl
              clear hown
              go_wp2_with fail
              go_region_law (first
                | (refine step_app_ints intsT rfl (.tmp 32) (.tmp 35) rfl wK.heap.size _ _ [x] (S.drop i) rfl (by exact owns_one9 _ _ _ _ (Nat.le_refl _)) (by first | rfl | simp [Act.eval]) (by first | exact hdrop.below ((Below.refl _ _).alloc (Nat.le_refl _) _).drew | exact hdrop.below ((Below.refl _ _).drew.alloc (Nat.le_refl _) _) | exact hdrop.below ((Below.refl _ _).drew)) (by rw [HDL.out]; simp; omega) (by simp) ?_; intro v7 w7 hown7 hg7; have hg7' := grown_drew9 hg7; have hown5 := (hown4'.alloc _).kept hg7' (.inr (by intro e; have h : g0 = wK.heap.size := Option.some.inj e; omega)); have hb7 := (hb.alloc hb.size _).grown hg7' (by have := hb.size; simp; omega) (fun g e => by have h : wK.heap.size = g := Option.some.inj e; have := hb.size; omega); obtain ⟨a7, cap7, hv7, he7, ha7⟩ := IntsAt.of_owns hown7 (by rw [List.length_append, HDL.out]; simp; omega); subst hv7; simp only [List.singleton_append, List.length_cons, List.length_drop] at he7)
                | (refine step_app_ints intsT rfl (.tmp 30) (.tmp 36) rfl w.heap.size _ _ (S.take i) (x :: S.drop i) rfl (by exact hown5) rfl (by exact he7) (by rw [List.length_cons, HDL.out, HTL.out]; omega) (by exact hb7.size) ?_; intro v8 w8 hown8 hg8; have hb8 := hb7.grown hg8 hb7.size (fun g e => by have h : g0 = g := Option.some.inj e; omega)))
              all_goals
                have hz8 : (S.take i ++ x :: S.drop i).length ≤ 10000 := by rw [HLN.out]; omega
                go_wp2_with fail
                go_roundw
                case rel => exact ⟨k + 1, S.take i ++ x :: S.drop i, by omega, by go_num, HLN, hz8, HPN, HSN, hown8, hb8⟩
                case measure => simp [intOf]; omega
            · obtain rfl : i = S.length := by omega
              have hnil : (if co = S.length then ao else Option.map (fun x => x.add S.length) ao) = none → co - S.length = 0 := by
                intro e
                split at e
                · omega
                · have := hnone (by simpa using e); omega
              rw [List.take_of_length_le (Nat.le_refl _)] at hown4'
              have hEE : S.take S.length ++ x :: S.drop S.length = S ++ [x] := by simp
              have HPN2 := HPN.out
              have HSN2 := HSN.out
              have HLN2 := HLN.out
              rw [hEE] at HPN2 HSN2 HLN2
              have HPN3 := Lib.hid HPN2
              have HSN3 := Lib.hid HSN2
              have HLN3 := Lib.hid HLN2
              have hown6 : wK.ownsRow w.heap.size 3 1 (.slice ao S.length co) S.length (intsV S) := hown
              clear hEE HPN HSN HLN HPN2 HSN2 HLN2 hown hown4'
              go_wp2_with fail
              go_region_law (first
                | (refine step_app_ints intsT rfl (.tmp 32) (.tmp 35) rfl wK.heap.size _ _ [x] [] rfl (by exact owns_one9 _ _ _ _ (Nat.le_refl _)) (by first | rfl | simp [Act.eval]) (by exact IntsAt.empty _ _ hnil) (by simp) (by simp) ?_; intro v7 w7 hown7 hg7; have hg7' := grown_drew9 hg7; have hown5 := (hown6.alloc _).kept hg7' (.inr (by intro e; have h := (hlt5 _ e).1; have h2 : (Value.slice (some ⟨wK.heap.size, 0, none⟩) 1 1).ownBlock = some wK.heap.size := rfl; have h3 := (hlt5 _ (e.trans h2)).2; omega)); have hb7 := (hb.alloc hb.size _).grown hg7' (by have := hb.size; simp; omega) (fun g e => by have h : wK.heap.size = g := Option.some.inj e; have := hb.size; omega); obtain ⟨a7, cap7, hv7, he7, ha7⟩ := IntsAt.of_owns hown7 (by simp); subst hv7; simp only [List.append_nil, List.length_cons, List.length_nil] at he7)
                | (refine step_app_ints intsT rfl (.tmp 30) (.tmp 36) rfl w.heap.size _ _ S [x] rfl (by exact hown5) rfl (by exact he7) (by simp; omega) (by exact hb7.size) ?_; intro v8 w8 hown8 hg8; have hb8 := hb7.grown hg8 hb7.size (fun g e => (hlt5 g e).1)))
              all_goals
                have hz8 : (S ++ [x]).length ≤ 10000 := by rw [HLN3.out]; omega
                go_wp2_with fail
                go_roundw
                case rel => exact ⟨k + 1, S ++ [x], by omega, by go_num, HLN3, hz8, HPN3, HSN3, (by first | exact hown8 | (rw [List.length_append]; exact hown8)), hb8⟩
                case measure => simp [intOf]; omega
          · obtain ⟨j, hij⟩ : ∃ j : Nat, i = j + 1 := ⟨i - 1, by omega⟩
            have hjl : j < S.length := by omega
            obtain ⟨b2, o2, y, rfl, hy, -, -, c2⟩ := hiS.at j hjl
            have hxy := HZ y (by omega) (by rw [hij, Nat.add_sub_cancel]; exact hy)
            have d1 : decide (y < x) = false := by simp; omega
            have d2 : decide ((0 : Int) < (i : Int)) = true := by simp; omega
            have d3 : decide (0 < i) = true := by simp; omega
            have hij2 : (i : Int) - 1 = (j : Int) := by omega
            have v1 : IntKind.i64.wrap ((i : Int) - 1) = (j : Int) := by rw [hij2]; exact IntWalk.i64_in _ (by omega)
            clear hy hxy hi0 hij hij2
            have hlt5 := hown.lt
            have hcaps := ints_caps9 hiS
            have hic : i ≤ co := by omega
            have hcl : S.length ≤ co := hcaps.1
            have hnone := hcaps.2
            have hown4 := owns_take9 hown i hi
            have HPN : Hid ((S.take i ++ x :: S.drop i).Perm (l.take (k + 1))) := (show List.Perm _ _ by
              rw [HX.out]
              refine List.perm_middle.trans ?_
              rw [List.take_append_drop]
              exact (List.Perm.cons x HP.out).trans (List.perm_append_comm (l₁ := [x])))
            have HSN : Hid ((S.take i ++ x :: S.drop i).Pairwise (· ≥ ·)) := (show List.Pairwise _ _ from fall_ins HS.out hi HA.out HZ)
            have HLN : Hid ((S.take i ++ x :: S.drop i).length = k + 1) := (show _ = _ by have h := HPN.out.length_eq; rw [h, List.length_take]; omega)
            have htl : (S.take i).length = i := by simp; omega
            have HTL := Lib.hid htl
            have hdl : (S.drop i).length = S.length - i := by simp
            have HDL := Lib.hid hdl
            have hown4' : wK.ownsRow w.heap.size 3 1 (.slice (some ⟨b2, o2, none⟩) i co) (S.take i).length (intsV (S.take i)) := by rw [htl]; exact hown4
            clear htl hdl hown4 HZ HP HS HA
            by_cases hil : i < S.length
            · have hck : ¬ co = i := by omega
              obtain ⟨g0, rfl⟩ : ∃ g, g = b2 := ⟨_, rfl⟩
              obtain ⟨off0, rfl⟩ : ∃ o, o = o2 := ⟨_, rfl⟩
              have hdrop := IntsAt.drop hiS i hil
              have hg0 := hown.lt g0 rfl
              clear hown
              go_wp2_with fail
              go_region_law (first
                | (refine step_app_ints intsT rfl (.tmp 32) (.tmp 35) rfl wK.heap.size _ _ [x] (S.drop i) rfl (by exact owns_one9 _ _ _ _ (Nat.le_refl _)) (by first | rfl | simp [Act.eval]) (by first | exact hdrop.below ((Below.refl _ _).alloc (Nat.le_refl _) _).drew | exact hdrop.below ((Below.refl _ _).drew.alloc (Nat.le_refl _) _) | exact hdrop.below ((Below.refl _ _).drew)) (by rw [HDL.out]; simp; omega) (by simp) ?_; intro v7 w7 hown7 hg7; have hg7' := grown_drew9 hg7; have hown5 := (hown4'.alloc _).kept hg7' (.inr (by intro e; have h : g0 = wK.heap.size := Option.some.inj e; omega)); have hb7 := (hb.alloc hb.size _).grown hg7' (by have := hb.size; simp; omega) (fun g e => by have h : wK.heap.size = g := Option.some.inj e; have := hb.size; omega); obtain ⟨a7, cap7, hv7, he7, ha7⟩ := IntsAt.of_owns hown7 (by rw [List.length_append, HDL.out]; simp; omega); subst hv7; simp only [List.singleton_append, List.length_cons, List.length_drop] at he7)
                | (refine step_app_ints intsT rfl (.tmp 30) (.tmp 36) rfl w.heap.size _ _ (S.take i) (x :: S.drop i) rfl (by exact hown5) rfl (by exact he7) (by rw [List.length_cons, HDL.out, HTL.out]; omega) (by exact hb7.size) ?_; intro v8 w8 hown8 hg8; have hb8 := hb7.grown hg8 hb7.size (fun g e => by have h : g0 = g := Option.some.inj e; omega)))
              all_goals
                have hz8 : (S.take i ++ x :: S.drop i).length ≤ 10000 := by rw [HLN.out]; omega
                go_wp2_with fail
                go_roundw
                case rel => exact ⟨k + 1, S.take i ++ x :: S.drop i, by omega, by go_num, HLN, hz8, HPN, HSN, hown8, hb8⟩
                case measure => simp [intOf]; omega
            · obtain rfl : i = S.length := by omega
              rw [List.take_of_length_le (Nat.le_refl _)] at hown4'
              have hEE : S.take S.length ++ x :: S.drop S.length = S ++ [x] := by simp
              have HPN2 := HPN.out
              have HSN2 := HSN.out
              have HLN2 := HLN.out
              rw [hEE] at HPN2 HSN2 HLN2
              have HPN3 := Lib.hid HPN2
              have HSN3 := Lib.hid HSN2
              have HLN3 := Lib.hid HLN2
              have hown6 : wK.ownsRow w.heap.size 3 1 (.slice (some ⟨b2, o2, none⟩) S.length co) S.length (intsV S) := hown
              clear hEE HPN HSN HLN HPN2 HSN2 HLN2 hown hown4'
              go_wp2_with fail
              go_region_law (first
                | (refine step_app_ints intsT rfl (.tmp 32) (.tmp 35) rfl wK.heap.size _ _ [x] [] rfl (by exact owns_one9 _ _ _ _ (Nat.le_refl _)) (by first | rfl | simp [Act.eval]) (by exact IntsAt.empty _ _ (by intro e; first | (exfalso; revert e; split <;> simp) | (exfalso; simp at e))) (by simp) (by simp) ?_; intro v7 w7 hown7 hg7; have hg7' := grown_drew9 hg7; have hown5 := (hown6.alloc _).kept hg7' (.inr (by intro e; have h := (hlt5 _ e).1; have h2 : (Value.slice (some ⟨wK.heap.size, 0, none⟩) 1 1).ownBlock = some wK.heap.size := rfl; have h3 := (hlt5 _ (e.trans h2)).2; omega)); have hb7 := (hb.alloc hb.size _).grown hg7' (by have := hb.size; simp; omega) (fun g e => by have h : wK.heap.size = g := Option.some.inj e; have := hb.size; omega); obtain ⟨a7, cap7, hv7, he7, ha7⟩ := IntsAt.of_owns hown7 (by simp); subst hv7; simp only [List.append_nil, List.length_cons, List.length_nil] at he7)
                | (refine step_app_ints intsT rfl (.tmp 30) (.tmp 36) rfl w.heap.size _ _ S [x] rfl (by exact hown5) rfl (by exact he7) (by simp; omega) (by exact hb7.size) ?_; intro v8 w8 hown8 hg8; have hb8 := hb7.grown hg8 hb7.size (fun g e => (hlt5 g e).1)))
              all_goals
                have hz8 : (S ++ [x]).length ≤ 10000 := by rw [HLN3.out]; omega
                go_wp2_with fail
                go_roundw
                case rel => exact ⟨k + 1, S ++ [x], by omega, by go_num, HLN3, hz8, HPN3, HSN3, (by first | exact hown8 | (rw [List.length_append]; exact hown8)), hb8⟩
                case measure => simp [intOf]; omega
    · obtain rfl : k = l.length := by omega
      have hp : S.Perm l := by have := HP.out; rwa [List.take_length] at this
      obtain ⟨a5, c5, e5, hiS, -⟩ := IntsAt.of_owns hown (by omega)
      cases e5
      have hd := HS.out
      go_wp2_with fail
      go_ret
      exact ⟨S, ao, co, rfl, hiS, hp, hd, hb⟩
set_option maxRecDepth 100000 in
set_option maxHeartbeats 3200000 in
theorem h09_any (a : Option Addr) (cap : Nat) (l : List Int) (w : World) (hl : l.length ≤ 10000)
    (hf : Calls Tryz.prog 77 #[.slice a l.length cap] w (FallPost w l)) :
    Calls Tryz.prog 48 #[.slice a l.length cap] w fun e w' => e = .returned (.int .i64 (hX l : Nat)) ∧ Below w.heap.size w w' := by
  obtain ⟨HV, hHV⟩ : ∃ h, hX l = h := ⟨_, rfl⟩
  rw [hHV]
  go_enter Tryz.func48, Tryz.ntmps48
  go_wp2_with fail
  refine hf.mono ?_
  rintro e w1 ⟨S, a1, c1, rfl, hi1, hp, hd, hb1⟩
  have hSl : S.length ≤ 10000 := by rw [hp.length_eq]; exact hl
  have HXE : Hid (hX S = HV) := (show _ = _ by rw [hX_perm hp]; exact hHV)
  have HD := Lib.hid hd
  clear hp hd hf hHV
  go_wp2_with fail
  go_loopw [3, 9] (fun vh vi wr => ∃ k h : Nat, k ≤ S.length ∧ vi = .int .i64 k ∧ vh = .int .i64 h ∧ Hid (h = hGo S k) ∧ h ≤ k ∧ Below w1.heap.size w1 wr) (fun _ vi _ => S.length - (intOf vi).toNat)
  case atStart => exact ⟨0, 0, Nat.zero_le _, rfl, rfl, (show _ = _ from rfl), Nat.le_refl _, Below.refl _ _⟩
  case round =>
    obtain ⟨k, h, hk, rfl, rfl, HH, hhk, hb⟩ := hrel
    by_cases hlt : k < S.length
    · have hlt3 : (k : Int) < S.length := by omega
      obtain ⟨b, off, y, rfl, hy, -, -, c0⟩ := (hi1.below hb).at k hlt
      have hds := desc_step HD.out hy
      have hgo : hGo S (k + 1) = if (k : Int) + 1 ≤ y then k + 1 else hGo S k := by
        show (if k + 1 ≤ cntGe S (k + 1) then k + 1 else hGo S k) = _
        by_cases h : (k : Int) + 1 ≤ y
        · rw [if_pos h, if_pos (hds.1 h)]
        · rw [if_neg h, if_neg (fun h2 => h (hds.2 h2))]
      have HGO := Lib.hid hgo
      clear hgo hds hy
      by_cases hyk : (k : Int) + 1 ≤ y
      · have d1 : decide ((k : Int) + 1 ≤ y) = true := by simpa using hyk
        have HH2 : Hid (k + 1 = hGo S (k + 1)) := (show _ = _ by rw [HGO.out, if_pos hyk])
        clear hyk
        go_wp2_with fail
        go_roundw
        case rel => exact ⟨k + 1, k + 1, by omega, by go_num, by go_num, HH2, Nat.le_refl _, hb⟩
        case measure => simp [intOf]; omega
      · have d1 : decide ((k : Int) + 1 ≤ y) = false := by simpa using hyk
        have HH2 : Hid (h = hGo S (k + 1)) := (show _ = _ by rw [HGO.out, if_neg hyk]; exact HH.out)
        clear hyk
        go_wp2_with fail
        go_roundw
        case rel => exact ⟨k + 1, h, by omega, by go_num, rfl, HH2, by omega, hb⟩
        case measure => simp [intOf]; omega
    · obtain rfl : k = S.length := by omega
      have hh : h = HV := HH.out.trans HXE.out
      subst hh
      have hbe := hb1.trans (hb.mono hb1.size)
      go_wp2_with fail
      go_ret
      exact ⟨rfl, hbe⟩
end Go.Proofs.YtdkmdcdoiaelfaaGreat
