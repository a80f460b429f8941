/- Plain law: with other names of the nodes the kinds of the sets are as many. -/
import Derived.Test.YtdiackininlmeaaDoorSym4
namespace Go.Proofs.YtdiackininlmeaaDoor
open Go.RowKit Go.BigFrame

theorem adjB_comm (es : List E2) (i j : Nat) : adjB es j i = adjB es i j := by
  unfold adjB
  congr 1
  funext e
  exact decide_eq_decide.2 ⟨fun h => h.symm, fun h => h.symm⟩
def ind (p : Bool) : Int := if p then 1 else 0
section
variable (es : List E2) (φ : Nat → Nat → Nat → Nat → Bool) (k : Nat)
def q4 (a b c d : Nat) : Bool := φ d c b a && ofKS es d c b a == (k : Int)
theorem cnt_D (a b c : Nat) : ∀ d, cntK k (kD es φ a b c d) = sumN (fun d => ind (q4 es φ k a b c d)) d := by
  intro d
  induction d with
  | zero => rfl
  | succ d ih =>
    rw [kD_succ, cntK_append, ih]
    show _ = _ + ind (q4 es φ k a b c d)
    congr 1
    unfold q4 ind
    cases φ d c b a
    · rfl
    · simp only [if_true, Bool.true_and, cntK]
      cases h : (ofKS es d c b a == (k : Int)) <;> simp [h]
theorem cnt_C (a b : Nat) : ∀ c, cntK k (kC es φ a b c) = sort2 c (fun c d => ind (q4 es φ k a b c d)) := by
  intro c
  induction c with
  | zero => rfl
  | succ c ih => rw [kC_succ, cntK_append, ih, cnt_D]; rfl
theorem cnt_B (a : Nat) : ∀ b, cntK k (kB es φ a b) = sort3 b (fun b c d => ind (q4 es φ k a b c d)) := by
  intro b
  induction b with
  | zero => rfl
  | succ b ih => rw [kB_succ, cntK_append, ih, cnt_C]; rfl
theorem cnt_A : ∀ a, cntK k (kA es φ a) = sort4 a (fun a b c d => ind (q4 es φ k a b c d)) := by
  intro a
  induction a with
  | zero => rfl
  | succ a ih => rw [kA_succ, cntK_append, ih, cnt_B]; rfl
end
theorem sort4_congr (n : Nat) (F G : Nat → Nat → Nat → Nat → Int) (h : ∀ a b c d, a < n → b < a → c < b → d < c → F a b c d = G a b c d) : sort4 n F = sort4 n G :=
  sumN_congr _ _ n fun a ha => sumN_congr _ _ a fun b hb => sumN_congr _ _ b fun c hc => sumN_congr _ _ c fun d hd => h a b c d ha hb hc hd
theorem all4_congr (n : Nat) (F G : Nat → Nat → Nat → Nat → Int) (h : ∀ a b c d, a < n → b < n → c < n → d < n → F a b c d = G a b c d) : all4 n F = all4 n G :=
  sumN_congr _ _ n fun a ha => sumN_congr _ _ n fun b hb => sumN_congr _ _ n fun c hc => sumN_congr _ _ n fun d hd => h a b c d ha hb hc hd
theorem sumN_mul (t : Int) (f : Nat → Int) : ∀ n, sumN (fun v => t * f v) n = t * sumN f n := by
  intro n
  induction n with
  | zero => simp [sumN]
  | succ n ih => simp only [sumN, ih, Int.mul_add]
theorem sort4_mul (t : Int) (n : Nat) (F : Nat → Nat → Nat → Nat → Int) : sort4 n (fun a b c d => t * F a b c d) = t * sort4 n F := by
  simp only [sort4, sort3, sort2, sumN_mul]
/-- four different nodes -/
def dist4 (a b c d : Nat) : Bool := a != b && (a != c && (a != d && (b != c && (b != d && c != d))))
theorem dist4_iff (a b c d : Nat) : dist4 a b c d = true ↔ a ≠ b ∧ a ≠ c ∧ a ≠ d ∧ b ≠ c ∧ b ≠ d ∧ c ≠ d := by simp [dist4]
def on4 (q : Nat → Nat → Nat → Nat → Bool) (a b c d : Nat) : Int := ind (dist4 a b c d && q a b c d)
theorem on4_apart (q : Nat → Nat → Nat → Nat → Bool) : Apart4 (on4 q) := by
  constructor <;> intro a b c <;> simp [on4, dist4, ind]
theorem bool_eq_of {p q : Bool} (h : p = true ↔ q = true) : p = q := by cases p <;> cases q <;> simp_all
theorem on4_swap (q : Nat → Nat → Nat → Nat → Bool) (a b c d a' b' c' d' : Nat) (hd : dist4 a' b' c' d' = dist4 a b c d) (hq : q a' b' c' d' = q a b c d) : on4 q a' b' c' d' = on4 q a b c d := by
  unfold on4; rw [hd, hq]
/-- a number of sets, counted in all orders -/
theorem sort4_all (n : Nat) (q : Nat → Nat → Nat → Nat → Bool) (s1 : ∀ a b c d, q b a c d = q a b c d) (s2 : ∀ a b c d, q a c b d = q a b c d) (s3 : ∀ a b c d, q a b d c = q a b c d) :
    24 * sort4 n (fun a b c d => ind (q a b c d)) = all4 n (on4 q) := by
  rw [sym4 _ (on4_apart q), ← sort4_mul]
  refine sort4_congr n _ _ fun a b c d ha hb hc hd => ?_
  rw [P4_same]
  · unfold on4
    rw [(dist4_iff a b c d).2 (by omega), Bool.true_and]
  · intro a b c d; exact on4_swap q _ _ _ _ _ _ _ _ (bool_eq_of (by rw [dist4_iff, dist4_iff]; omega)) (s1 a b c d)
  · intro a b c d; exact on4_swap q _ _ _ _ _ _ _ _ (bool_eq_of (by rw [dist4_iff, dist4_iff]; omega)) (s2 a b c d)
  · intro a b c d; exact on4_swap q _ _ _ _ _ _ _ _ (bool_eq_of (by rw [dist4_iff, dist4_iff]; omega)) (s3 a b c d)
/-- the kind by six answers -/
def kB6 (x0 x1 x2 x3 x4 x5 : Bool) : Int := kindS (maskF (fun i => match i with | 0 => x0 | 1 => x1 | 2 => x2 | 3 => x3 | 4 => x4 | _ => x5) 6)
theorem ofKS_kB6 (es : List E2) (a b c d : Nat) : ofKS es a b c d = kB6 (adjB es a b) (adjB es a c) (adjB es a d) (adjB es b c) (adjB es b d) (adjB es c d) := by
  unfold ofKS kB6
  simp only [maskF, pairF]
theorem kB6_s1 : ∀ x0 x1 x2 x3 x4 x5, kB6 x0 x3 x4 x1 x2 x5 = kB6 x0 x1 x2 x3 x4 x5 := by decide
theorem kB6_s2 : ∀ x0 x1 x2 x3 x4 x5, kB6 x1 x0 x2 x3 x5 x4 = kB6 x0 x1 x2 x3 x4 x5 := by decide
theorem kB6_s3 : ∀ x0 x1 x2 x3 x4 x5, kB6 x0 x2 x1 x4 x3 x5 = kB6 x0 x1 x2 x3 x4 x5 := by decide
theorem ofKS_s1 (es : List E2) (a b c d : Nat) : ofKS es b a c d = ofKS es a b c d := by rw [ofKS_kB6, ofKS_kB6, adjB_comm es a b, kB6_s1]
theorem ofKS_s2 (es : List E2) (a b c d : Nat) : ofKS es a c b d = ofKS es a b c d := by rw [ofKS_kB6, ofKS_kB6, adjB_comm es b c, kB6_s2]
theorem ofKS_s3 (es : List E2) (a b c d : Nat) : ofKS es a b d c = ofKS es a b c d := by rw [ofKS_kB6, ofKS_kB6, adjB_comm es c d, kB6_s3]
/-- a test of four nodes that does not know their order -/
structure Sym (φ : Nat → Nat → Nat → Nat → Bool) : Prop where
  s1 : ∀ a b c d, φ b a c d = φ a b c d
  s2 : ∀ a b c d, φ a c b d = φ a b c d
  s3 : ∀ a b c d, φ a b d c = φ a b c d
theorem cnt_all (es : List E2) (φ : Nat → Nat → Nat → Nat → Bool) (hφ : Sym φ) (k n : Nat) : 24 * cntK k (kA es φ n) = all4 n (on4 (q4 es φ k)) := by
  rw [cnt_A]
  refine sort4_all n (q4 es φ k) (fun a b c d => ?_) (fun a b c d => ?_) (fun a b c d => ?_)
  · unfold q4; rw [hφ.s3, ofKS_s3]
  · unfold q4; rw [hφ.s2, ofKS_s2]
  · unfold q4; rw [hφ.s1, ofKS_s1]
/-- other names: an order of the nodes -/
structure Names (n : Nat) (l : List Nat) (es es' : List E2) : Prop where
  perm : l.Perm (List.range n)
  adj : ∀ a b, a < n → b < n → adjB es' (l.getD a 0) (l.getD b 0) = adjB es a b
theorem Names.len {n : Nat} {l : List Nat} {es es' : List E2} (h : Names n l es es') : l.length = n := by rw [h.perm.length_eq]; simp
theorem perm_inj {n : Nat} {l : List Nat} (h : l.Perm (List.range n)) (a b : Nat) (ha : a < n) (hb : b < n) : l.getD a 0 = l.getD b 0 ↔ a = b := by
  have hl : l.length = n := by rw [h.length_eq]; simp
  have hnd : l.Nodup := h.nodup_iff.2 List.nodup_range
  constructor
  · intro e
    rw [List.getD_eq_getElem?_getD, List.getD_eq_getElem?_getD, List.getElem?_eq_getElem (by omega), List.getElem?_eq_getElem (by omega)] at e
    exact (List.getElem_inj hnd).1 (by simpa using e)
  · rintro rfl; rfl
theorem names_cnt {n : Nat} {l : List Nat} {es es' : List E2} (h : Names n l es es') (φ φ' : Nat → Nat → Nat → Nat → Bool) (hφ : Sym φ) (hφ' : Sym φ') (k : Nat)
    (hq : ∀ a b c d, a < n → b < n → c < n → d < n → φ' (l.getD d 0) (l.getD c 0) (l.getD b 0) (l.getD a 0) = φ d c b a) : cntK k (kA es' φ' n) = cntK k (kA es φ n) := by
  have h1 := cnt_all es φ hφ k n
  have h2 := cnt_all es' φ' hφ' k n
  rw [← all4_names _ n l h.perm] at h2
  rw [all4_congr n _ (on4 (q4 es φ k)) (fun a b c d ha hb hc hd => ?_)] at h2
  · omega
  · unfold on4
    have hdd : dist4 (l.getD a 0) (l.getD b 0) (l.getD c 0) (l.getD d 0) = dist4 a b c d := by
      refine bool_eq_of ?_
      rw [dist4_iff, dist4_iff]
      simp only [ne_eq, perm_inj h.perm a b ha hb, perm_inj h.perm a c ha hc, perm_inj h.perm a d ha hd, perm_inj h.perm b c hb hc, perm_inj h.perm b d hb hd, perm_inj h.perm c d hc hd]
    rw [hdd]
    unfold q4
    rw [hq a b c d ha hb hc hd, ofKS_kB6, ofKS_kB6, h.adj d c hd hc, h.adj d b hd hb, h.adj d a hd ha, h.adj c b hc hb, h.adj c a hc ha, h.adj b a hb ha]
theorem cntV_congr (K K' : List Int) (h : ∀ k, k < 11 → cntK k K = cntK k K') : cntV K = cntV K' := by
  unfold cntV
  apply List.map_congr_left
  intro k hk
  exact h k (List.mem_range.1 hk)
theorem all_sym : Sym allS := ⟨fun _ _ _ _ => rfl, fun _ _ _ _ => rfl, fun _ _ _ _ => rfl⟩
theorem phi_sym (v : Nat) : Sym (phiN (v : Int)) := by
  constructor <;> intro a b c d <;> refine bool_eq_of ?_ <;> rw [phiN_iff, phiN_iff] <;> omega
/-- WITH OTHER NAMES THE KINDS ARE AS MANY. -/
theorem ind_names {n : Nat} {l : List Nat} {es es' : List E2} (h : Names n l es es') : indS es' n = indS es n :=
  cntV_congr _ _ fun k _ => names_cnt h allS allS all_sym all_sym k (fun _ _ _ _ _ _ _ _ => rfl)
theorem nod_names {n : Nat} {l : List Nat} {es es' : List E2} (h : Names n l es es') (v : Nat) (hv : v < n) : nodS es' n ((l.getD v 0 : Nat) : Int) = nodS es n (v : Int) :=
  cntV_congr _ _ fun k _ => names_cnt h _ _ (phi_sym v) (phi_sym _) k (fun a b c d ha hb hc hd => bool_eq_of (by
    rw [phiN_iff, phiN_iff, perm_inj h.perm v d hv hd, perm_inj h.perm v c hv hc, perm_inj h.perm v b hv hb, perm_inj h.perm v a hv ha]))
end Go.Proofs.YtdiackininlmeaaDoor
