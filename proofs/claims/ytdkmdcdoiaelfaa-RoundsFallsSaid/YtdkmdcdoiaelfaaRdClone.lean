/- The contracts of slices.Clone at rows of rows and at messages; what rows of rows hold, read (printed by wip/mkrdclone.py). -/
import Derived.Test.YtdkmdcdoiaelfaaRdTell
namespace Go.Proofs.Ytdkmdcdoiaelfaa
open Go.RowKit Go.BigFrame

/-- a slice's three parts -/
abbrev Sl := Option Addr × Nat × Nat
def slV (s : Sl) : Value := .slice s.1 s.2.1 s.2.2
/-- a row of slices, each with what it holds -/
def encP (α : Type) : Enc (Sl × α) where
  k := 1
  enc p := [slV p.1]
  len _ := rfl
  one p u hu := by rw [List.mem_singleton] at hu; subst hu; rfl
  pos := by decide
/-- rows of rows, read: R says how one of them is read -/
def NestA {α : Type} (R : World → Value → α → Prop) (w : World) (v : Value) (xs : List α) : Prop := ∃ L : List (Sl × α), RowAt (encP α) w v L ∧ L.map Prod.snd = xs ∧ ∀ p ∈ L, R w (slV p.1) p.2
theorem NestA.below {α : Type} {R : World → Value → α → Prop} {w w' : World} {v : Value} {xs : List α} (hR : ∀ u x, R w u x → R w' u x) (h : NestA R w v xs) (hb : Below w.heap.size w w') : NestA R w' v xs := by
  obtain ⟨L, h1, h2, h3⟩ := h
  exact ⟨L, h1.below hb, h2, fun p hp => hR _ _ (h3 p hp)⟩
theorem NestA.at {α : Type} {R : World → Value → α → Prop} {w : World} {a : Option Addr} {n c : Nat} {xs : List α} (h : NestA R w (.slice a n c) xs) (i : Nat) (x : α) (hx : xs[i]? = some x) : n = xs.length ∧ n ≤ c ∧ ∃ b off s, a = some ⟨b, off, none⟩ ∧ w.cell? ⟨b, off + i, none⟩ = some (slV s) ∧ R w (slV s) x := by
  obtain ⟨L, h1, h2, h3⟩ := h
  have hl : L.length = xs.length := by rw [← h2, List.length_map]
  have hi := (List.getElem?_eq_some_iff.1 hx).1
  obtain ⟨_, _, e, hc, _⟩ := id h1
  cases e
  obtain ⟨b, off, p, rfl, hp, _, hc0⟩ := h1.elem i (by omega)
  have hxp : p.2 = x := by
    rw [← h2, List.getElem?_map, hp] at hx
    exact Option.some.inj hx
  refine ⟨hl, hc, b, off, p.1, rfl, ?_, hxp ▸ h3 p (List.mem_of_getElem? hp)⟩
  have := hc0 0 _ rfl
  have hk : (encP α).k = 1 := rfl
  rw [hk, Nat.mul_one, Nat.add_zero] at this
  exact this
theorem NestA.len {α : Type} {R : World → Value → α → Prop} {w : World} {a : Option Addr} {n c : Nat} {xs : List α} (h : NestA R w (.slice a n c) xs) : n = xs.length ∧ n ≤ c ∧ (a = none → c = 0) := by
  obtain ⟨L, h1, h2, -⟩ := h
  have hl : L.length = xs.length := by rw [← h2, List.length_map]
  obtain ⟨a', cap, e, hc, hn, _⟩ := h1
  cases e
  exact ⟨hl, hc, hn⟩
theorem NestA.shape {α : Type} {R : World → Value → α → Prop} {w : World} {v : Value} {xs : List α} (h : NestA R w v xs) : ∃ a c, v = .slice a xs.length c := by
  obtain ⟨L, h1, h2, -⟩ := h
  have hl : L.length = xs.length := by rw [← h2, List.length_map]
  obtain ⟨a, cap, e, _⟩ := h1
  exact ⟨a, cap, by rw [e, hl]⟩
/-- boxes of a worker; of all workers -/
abbrev BoxR : World → Value → List (List Msg) → Prop := NestA (RowAt encM)
abbrev BoxA : World → Value → List (List (List Msg)) → Prop := NestA BoxR
abbrev KnA : World → Value → List (List Int) → Prop := NestA IntsAt
theorem BoxR.below {w w' : World} {v : Value} {xs : List (List Msg)} (h : BoxR w v xs) (hb : Below w.heap.size w w') : BoxR w' v xs := NestA.below (fun _ _ hx => hx.below hb) h hb
theorem BoxA.below {w w' : World} {v : Value} {xs : List (List (List Msg))} (h : BoxA w v xs) (hb : Below w.heap.size w w') : BoxA w' v xs := NestA.below (fun _ _ hx => BoxR.below hx hb) h hb
theorem KnA.below {w w' : World} {v : Value} {xs : List (List Int)} (h : KnA w v xs) (hb : Below w.heap.size w w') : KnA w' v xs := NestA.below (fun _ _ hx => hx.below hb) h hb
def encE : Enc E2 := ⟨2, fun p => [.int .i64 p.1, .int .i64 p.2], fun _ => rfl, fun e u hu => by simp at hu; rcases hu with h | h <;> subst h <;> rfl, by decide⟩
theorem flatR_E (es : List E2) : flatR encE es = flatE es := rfl
theorem EdgesAt.row {w : World} {v : Value} {es : List E2} (h : EdgesAt w v es) (hl : es.length ≤ 1000000) : RowAt encE w v es := by
  obtain ⟨a, cap, rfl, h1, h2, _, h4⟩ := h
  refine ⟨a, cap, rfl, h1, h2, by omega, fun j u hj => ?_⟩
  have hjl := (List.getElem?_eq_some_iff.1 hj).1
  rw [flatR_length] at hjl
  have hk : encE.k = 2 := rfl
  rw [hk] at hjl
  have hq : j / 2 < es.length := by omega
  obtain ⟨b, off, ha, c0, c1⟩ := h4 (j / 2) _ (List.getElem?_eq_getElem hq)
  refine ⟨b, off, ha, ?_⟩
  have hu : (flatE es)[j]? = some u := hj
  by_cases hp : j % 2 = 0
  · have hj2 : j = j / 2 * 2 := by omega
    rw [hj2] at hu ⊢
    rw [(flatE_get es _ _ (List.getElem?_eq_getElem hq)).1] at hu
    rw [← Option.some.inj hu]
    exact c0
  · have hj2 : j = j / 2 * 2 + 1 := by omega
    rw [hj2] at hu ⊢
    rw [(flatE_get es _ _ (List.getElem?_eq_getElem hq)).2] at hu
    rw [← Option.some.inj hu]
    exact c1
theorem geRT : SliceT Try.prog 25 73 (.agg #[.int .i64 0, .int .i64 0]) encE.k 16 := ⟨Try.underlying25, by kernel_rfl, rfl, by decide⟩
theorem ge_nil (x : Addr) (n c : Nat) (w : World) : (binOp .eql 25 (.slice (some x) n c) (.slice none 0 0)).run Try.prog w = .ok (.bool false) w := by
  have h : ∀ d : Nat, (Op.equalIn (d + 1) 25 (.slice (some x) n c) (.slice none 0 0)).run Try.prog w = .ok false w := fun d => by
    simp [Op.equalIn, run_underlying Try.underlying25]
  simp only [binOp]
  simp [Op.equal, Op.maxDepth, h 9999]
set_option maxRecDepth 100000 in
theorem geclone_any (v : Value) (xs : List _) (w : World) (hi : RowAt encE w v xs) (hn : xs.length ≤ 1000000) :
    Calls Try.prog 110 #[v] w fun e w' => ∃ x, e = .returned x ∧ w'.ownsRow w.heap.size 73 encE.k x xs.length (flatR encE xs) ∧ Below w.heap.size w w' := by
  obtain ⟨a, cap, rfl, h1, h2⟩ := hi.shape
  cases a with
  | none =>
    obtain rfl := h2 rfl
    obtain rfl : xs = [] := List.eq_nil_of_length_eq_zero (by omega)
    have hnil := @Lib.run_eql_slice_nil
    go_enter Try.func110, Try.ntmps110
    go_wp2
    go_ret
    exact ⟨_, rfl, World.ownsRow_nil _ _ _ _, Below.refl _ _⟩
  | some ad =>
    clear h2
    have hnil := ge_nil ad xs.length cap
    have hb0 : Below w.heap.size w (w.alloc (.cells #[] 73)) := (Below.refl _ _).alloc (Nat.le_refl _) _
    have hown0 : (w.alloc (.cells #[] 73)).ownsRow w.heap.size 73 encE.k (.slice (some ⟨w.heap.size, 0, none⟩) 0 0) 0 (flatR encE []) := World.ownsRow_lit w #[] 0 (Nat.le_refl _) (by unfold maxLen; omega) rfl
    go_enter Try.func110, Try.ntmps110
    go_wp2_with (at_builtin; refine wpList_app_rows geRT rfl _ _ rfl w.heap.size _ _ [] xs rfl hown0 rfl (hi.below hb0) (by simp; omega) (by simp; omega) (by simp) ?_; intro v6 w6 hown6 hg6)
    go_ret
    have hb6 := below_app' hb0 hown0 hg6
    rw [List.nil_append] at hown6
    exact ⟨_, rfl, hown6, hb6⟩
theorem rrT (α : Type) : SliceT Try.prog 56 22 (.slice none 0 0) (encP α).k 24 := ⟨Try.underlying56, by kernel_rfl, rfl, Nat.zero_lt_one⟩
theorem rmT (α : Type) : SliceT Try.prog 62 63 (.slice none 0 0) (encP α).k 24 := ⟨Try.underlying62, by kernel_rfl, rfl, Nat.zero_lt_one⟩
theorem rrmT (α : Type) : SliceT Try.prog 57 62 (.slice none 0 0) (encP α).k 24 := ⟨Try.underlying57, by kernel_rfl, rfl, Nat.zero_lt_one⟩
theorem rrclone_nil (x : Addr) (n c : Nat) (w : World) : (binOp .eql 56 (.slice (some x) n c) (.slice none 0 0)).run Try.prog w = .ok (.bool false) w := by
  have h : ∀ d : Nat, (Op.equalIn (d + 1) 56 (.slice (some x) n c) (.slice none 0 0)).run Try.prog w = .ok false w := fun d => by
    simp [Op.equalIn, run_underlying Try.underlying56]
  simp only [binOp]
  simp [Op.equal, Op.maxDepth, h 9999]
set_option maxRecDepth 100000 in
theorem rrclone_any {α : Type} (v : Value) (xs : List _) (w : World) (hi : RowAt (encP α) w v xs) (hn : xs.length ≤ 1000000) :
    Calls Try.prog 112 #[v] w fun e w' => ∃ x, e = .returned x ∧ w'.ownsRow w.heap.size 22 (encP α).k x xs.length (flatR (encP α) xs) ∧ Below w.heap.size w w' := by
  obtain ⟨a, cap, rfl, h1, h2⟩ := hi.shape
  cases a with
  | none =>
    obtain rfl := h2 rfl
    obtain rfl : xs = [] := List.eq_nil_of_length_eq_zero (by omega)
    have hnil := @Lib.run_eql_slice_nil
    go_enter Try.func112, Try.ntmps112
    go_wp2
    go_ret
    exact ⟨_, rfl, World.ownsRow_nil _ _ _ _, Below.refl _ _⟩
  | some ad =>
    clear h2
    have hnil := rrclone_nil ad xs.length cap
    have hb0 : Below w.heap.size w (w.alloc (.cells #[] 22)) := (Below.refl _ _).alloc (Nat.le_refl _) _
    have hown0 : (w.alloc (.cells #[] 22)).ownsRow w.heap.size 22 (encP α).k (.slice (some ⟨w.heap.size, 0, none⟩) 0 0) 0 (flatR (encP α) []) := World.ownsRow_lit w #[] 0 (Nat.le_refl _) (by unfold maxLen; omega) rfl
    go_enter Try.func112, Try.ntmps112
    go_wp2_with (at_builtin; refine wpList_app_rows (rrT α) rfl _ _ rfl w.heap.size _ _ [] xs rfl hown0 rfl (hi.below hb0) (by simp; omega) (by simp; omega) (by simp) ?_; intro v6 w6 hown6 hg6)
    go_ret
    have hb6 := below_app' hb0 hown0 hg6
    rw [List.nil_append] at hown6
    exact ⟨_, rfl, hown6, hb6⟩
theorem rrmclone_nil (x : Addr) (n c : Nat) (w : World) : (binOp .eql 57 (.slice (some x) n c) (.slice none 0 0)).run Try.prog w = .ok (.bool false) w := by
  have h : ∀ d : Nat, (Op.equalIn (d + 1) 57 (.slice (some x) n c) (.slice none 0 0)).run Try.prog w = .ok false w := fun d => by
    simp [Op.equalIn, run_underlying Try.underlying57]
  simp only [binOp]
  simp [Op.equal, Op.maxDepth, h 9999]
set_option maxRecDepth 100000 in
theorem rrmclone_any {α : Type} (v : Value) (xs : List _) (w : World) (hi : RowAt (encP α) w v xs) (hn : xs.length ≤ 1000000) :
    Calls Try.prog 113 #[v] w fun e w' => ∃ x, e = .returned x ∧ w'.ownsRow w.heap.size 62 (encP α).k x xs.length (flatR (encP α) xs) ∧ Below w.heap.size w w' := by
  obtain ⟨a, cap, rfl, h1, h2⟩ := hi.shape
  cases a with
  | none =>
    obtain rfl := h2 rfl
    obtain rfl : xs = [] := List.eq_nil_of_length_eq_zero (by omega)
    have hnil := @Lib.run_eql_slice_nil
    go_enter Try.func113, Try.ntmps113
    go_wp2
    go_ret
    exact ⟨_, rfl, World.ownsRow_nil _ _ _ _, Below.refl _ _⟩
  | some ad =>
    clear h2
    have hnil := rrmclone_nil ad xs.length cap
    have hb0 : Below w.heap.size w (w.alloc (.cells #[] 62)) := (Below.refl _ _).alloc (Nat.le_refl _) _
    have hown0 : (w.alloc (.cells #[] 62)).ownsRow w.heap.size 62 (encP α).k (.slice (some ⟨w.heap.size, 0, none⟩) 0 0) 0 (flatR (encP α) []) := World.ownsRow_lit w #[] 0 (Nat.le_refl _) (by unfold maxLen; omega) rfl
    go_enter Try.func113, Try.ntmps113
    go_wp2_with (at_builtin; refine wpList_app_rows (rrmT α) rfl _ _ rfl w.heap.size _ _ [] xs rfl hown0 rfl (hi.below hb0) (by simp; omega) (by simp; omega) (by simp) ?_; intro v6 w6 hown6 hg6)
    go_ret
    have hb6 := below_app' hb0 hown0 hg6
    rw [List.nil_append] at hown6
    exact ⟨_, rfl, hown6, hb6⟩
theorem rmclone_nil (x : Addr) (n c : Nat) (w : World) : (binOp .eql 62 (.slice (some x) n c) (.slice none 0 0)).run Try.prog w = .ok (.bool false) w := by
  have h : ∀ d : Nat, (Op.equalIn (d + 1) 62 (.slice (some x) n c) (.slice none 0 0)).run Try.prog w = .ok false w := fun d => by
    simp [Op.equalIn, run_underlying Try.underlying62]
  simp only [binOp]
  simp [Op.equal, Op.maxDepth, h 9999]
set_option maxRecDepth 100000 in
theorem rmclone_any {α : Type} (v : Value) (xs : List _) (w : World) (hi : RowAt (encP α) w v xs) (hn : xs.length ≤ 1000000) :
    Calls Try.prog 114 #[v] w fun e w' => ∃ x, e = .returned x ∧ w'.ownsRow w.heap.size 63 (encP α).k x xs.length (flatR (encP α) xs) ∧ Below w.heap.size w w' := by
  obtain ⟨a, cap, rfl, h1, h2⟩ := hi.shape
  cases a with
  | none =>
    obtain rfl := h2 rfl
    obtain rfl : xs = [] := List.eq_nil_of_length_eq_zero (by omega)
    have hnil := @Lib.run_eql_slice_nil
    go_enter Try.func114, Try.ntmps114
    go_wp2
    go_ret
    exact ⟨_, rfl, World.ownsRow_nil _ _ _ _, Below.refl _ _⟩
  | some ad =>
    clear h2
    have hnil := rmclone_nil ad xs.length cap
    have hb0 : Below w.heap.size w (w.alloc (.cells #[] 63)) := (Below.refl _ _).alloc (Nat.le_refl _) _
    have hown0 : (w.alloc (.cells #[] 63)).ownsRow w.heap.size 63 (encP α).k (.slice (some ⟨w.heap.size, 0, none⟩) 0 0) 0 (flatR (encP α) []) := World.ownsRow_lit w #[] 0 (Nat.le_refl _) (by unfold maxLen; omega) rfl
    go_enter Try.func114, Try.ntmps114
    go_wp2_with (at_builtin; refine wpList_app_rows (rmT α) rfl _ _ rfl w.heap.size _ _ [] xs rfl hown0 rfl (hi.below hb0) (by simp; omega) (by simp; omega) (by simp) ?_; intro v6 w6 hown6 hg6)
    go_ret
    have hb6 := below_app' hb0 hown0 hg6
    rw [List.nil_append] at hown6
    exact ⟨_, rfl, hown6, hb6⟩
theorem msgclone_nil (x : Addr) (n c : Nat) (w : World) : (binOp .eql 63 (.slice (some x) n c) (.slice none 0 0)).run Try.prog w = .ok (.bool false) w := by
  have h : ∀ d : Nat, (Op.equalIn (d + 1) 63 (.slice (some x) n c) (.slice none 0 0)).run Try.prog w = .ok false w := fun d => by
    simp [Op.equalIn, run_underlying Try.underlying63]
  simp only [binOp]
  simp [Op.equal, Op.maxDepth, h 9999]
set_option maxRecDepth 100000 in
theorem msgclone_any (v : Value) (xs : List _) (w : World) (hi : RowAt encM w v xs) (hn : xs.length ≤ 1000000) :
    Calls Try.prog 115 #[v] w fun e w' => ∃ x, e = .returned x ∧ w'.ownsRow w.heap.size 85 (encM).k x xs.length (flatR encM xs) ∧ Below w.heap.size w w' := by
  obtain ⟨a, cap, rfl, h1, h2⟩ := hi.shape
  cases a with
  | none =>
    obtain rfl := h2 rfl
    obtain rfl : xs = [] := List.eq_nil_of_length_eq_zero (by omega)
    have hnil := @Lib.run_eql_slice_nil
    go_enter Try.func115, Try.ntmps115
    go_wp2
    go_ret
    exact ⟨_, rfl, World.ownsRow_nil _ _ _ _, Below.refl _ _⟩
  | some ad =>
    clear h2
    have hnil := msgclone_nil ad xs.length cap
    have hb0 : Below w.heap.size w (w.alloc (.cells #[] 85)) := (Below.refl _ _).alloc (Nat.le_refl _) _
    have hown0 : (w.alloc (.cells #[] 85)).ownsRow w.heap.size 85 (encM).k (.slice (some ⟨w.heap.size, 0, none⟩) 0 0) 0 (flatR encM []) := World.ownsRow_lit w #[] 0 (Nat.le_refl _) (by unfold maxLen; omega) rfl
    go_enter Try.func115, Try.ntmps115
    go_wp2_with (at_builtin; refine wpList_app_rows msgT rfl _ _ rfl w.heap.size _ _ [] xs rfl hown0 rfl (hi.below hb0) (by simp; omega) (by simp; omega) (by simp) ?_; intro v6 w6 hown6 hg6)
    go_ret
    have hb6 := below_app' hb0 hown0 hg6
    rw [List.nil_append] at hown6
    exact ⟨_, rfl, hown6, hb6⟩
/-- one more cell: a row of one's own in a new block is stored into it -/
theorem GridA.insert {w w1 : World} {lo : Nat} {I : Ix → Prop} {ad : Ix → Nat × Nat} {vs : Ix → Value} {TE kk len : Ix → Nat} {cs : Ix → List Value} {j : Ix} {n : Nat} {v u : Value} {c : List Value} (h : GridA w lo I ad vs TE kk len cs) (hj : ¬ I j) (hb : Below w.heap.size w w1) (hown : w1.ownsRow w.heap.size (TE j) (kk j) v n c)
    (hc : w.cell? ⟨(ad j).1, (ad j).2, none⟩ = some u) (hf : w.frozen? ⟨(ad j).1, (ad j).2, none⟩ = false) (hl : lo ≤ (ad j).1) (hls : lo ≤ w.heap.size) (ho : ∀ i, I i → (vs i).ownBlock ≠ some (ad j).1) (hd : ∀ i, I i → ad i ≠ ad j) :
    GridA (w1.setCell ⟨(ad j).1, (ad j).2, none⟩ v) lo (fun i => I i ∨ i = j) ad (updX vs j v) TE kk (updX len j n) (updX cs j c) := by
  have h1 := h.below hb
  have hc1 : w1.cell? ⟨(ad j).1, (ad j).2, none⟩ = some u := (hb.cell (p := ⟨(ad j).1, (ad j).2, none⟩) (cell_lt hc)).trans hc
  have hf1 : w1.frozen? ⟨(ad j).1, (ad j).2, none⟩ = false := (heap_cell (hb.block _ (cell_lt hc))).2.trans hf
  have hst : w1.grownBy (w1.setCell ⟨(ad j).1, (ad j).2, none⟩ v) (some (ad j).1) := grown_store
  have hne : ∀ i, I i → i ≠ j := fun i hi e => hj (e ▸ hi)
  have hlt := cell_lt hc
  refine ⟨fun i hi => ?_, fun i hi => ?_, fun i hi => ?_, fun i hi => ?_, fun i l hi hl2 => ?_, fun i l hi hl2 hil b hb2 => ?_, fun i l hi hl2 hil => ?_⟩
  · rcases hi with hi | rfl
    · exact h.low i hi
    · exact hl
  · unfold updX
    rcases hi with hi | rfl
    · rw [if_neg (hne i hi), World.cell?_setCell_other]
      · exact h1.cell i hi
      · intro e
        have := Addr.mk.inj e
        exact hd i hi (Prod.ext this.1.symm this.2.1.symm)
    · rw [if_pos rfl]; exact World.cell?_setCell_same _ _ _ hc1
  · rw [World.frozen?_setCell]
    rcases hi with hi | rfl
    · exact h1.free i hi
    · exact hf1
  · unfold updX
    rcases hi with hi | rfl
    · rw [if_neg (hne i hi), if_neg (hne i hi), if_neg (hne i hi)]
      exact (h1.own i hi).kept hst (.inr (ho i hi))
    · rw [if_pos rfl, if_pos rfl, if_pos rfl]
      refine (owns_base hown hls).kept hst (.inr fun e => ?_)
      have := (hown.lt _ e).1
      omega
  · unfold updX
    have hvl : ∀ l, I l ∨ l = j → v.ownBlock ≠ some (ad l).1 := fun l hl2 e => by
      have h2 := (hown.lt _ e).1
      rcases hl2 with hl2 | rfl
      · have := h.lt l hl2; omega
      · omega
    rcases hi with hi | rfl
    · rw [if_neg (hne i hi)]
      rcases hl2 with hl2 | rfl
      · exact h.off i l hi hl2
      · exact ho i hi
    · rw [if_pos rfl]; exact hvl l hl2
  · unfold updX at hb2 ⊢
    rcases hi with hi | rfl
    · rw [if_neg (hne i hi)] at hb2
      rcases hl2 with hl2 | rfl
      · rw [if_neg (hne l hl2)]; exact h.apart i l hi hl2 hil b hb2
      · rw [if_pos rfl]
        intro e
        have h2 := (hown.lt _ e).1
        have := ((h.own i hi).lt b hb2).2
        omega
    · rw [if_pos rfl] at hb2
      have h2 := (hown.lt _ hb2).1
      rcases hl2 with hl2 | rfl
      · rw [if_neg (hne l hl2)]
        intro e
        have := ((h.own l hl2).lt b e).2
        omega
      · exact absurd rfl hil
  · rcases hi with hi | rfl
    · rcases hl2 with hl2 | rfl
      · exact h.dist i l hi hl2 hil
      · exact hd i hi
    · rcases hl2 with hl2 | rfl
      · exact fun e => hd l hl2 e.symm
      · exact absurd rfl hil
theorem GridA.empty (w : World) (lo : Nat) (ad : Ix → Nat × Nat) (vs : Ix → Value) (TE kk len : Ix → Nat) (cs : Ix → List Value) {I : Ix → Prop} (hI : ∀ i, ¬ I i) : GridA w lo I ad vs TE kk len cs :=
  ⟨fun i h => absurd h (hI i), fun i h => absurd h (hI i), fun i h => absurd h (hI i), fun i h => absurd h (hI i), fun i _ h => absurd h (hI i), fun i _ h => absurd h (hI i), fun i _ h => absurd h (hI i)⟩
theorem GridA.addr {w : World} {lo : Nat} {I : Ix → Prop} {ad ad' : Ix → Nat × Nat} {vs vs' : Ix → Value} {TE kk len : Ix → Nat} {cs : Ix → List Value} (h : GridA w lo I ad vs TE kk len cs) (e : ∀ i, I i → ad i = ad' i) (e2 : ∀ i, I i → vs i = vs' i) : GridA w lo I ad' vs' TE kk len cs :=
  ⟨fun i hi => by rw [← e i hi]; exact h.low i hi, fun i hi => by rw [← e i hi, ← e2 i hi]; exact h.cell i hi, fun i hi => by rw [← e i hi]; exact h.free i hi, fun i hi => by rw [← e2 i hi]; exact h.own i hi, fun i j hi hj => by rw [← e j hj, ← e2 i hi]; exact h.off i j hi hj, fun i j hi hj hne b hb => by rw [← e2 j hj]; rw [← e2 i hi] at hb; exact h.apart i j hi hj hne b hb, fun i j hi hj hne => by rw [← e i hi, ← e j hj]; exact h.dist i j hi hj hne⟩
end Go.Proofs.Ytdkmdcdoiaelfaa
