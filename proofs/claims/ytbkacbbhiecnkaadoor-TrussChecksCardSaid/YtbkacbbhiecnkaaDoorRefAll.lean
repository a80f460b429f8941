/- The contract of the reference's test for whole orders. -/
import Derived.Test.YtbkacbbhiecnkaaDoorCoreWhole
import Derived.Test.YtbkacbbhiecnkaaDoorPatKindOf
import Derived.Test.YtbkacbbhiecnkaaDoorNeigh
namespace Go.Proofs.YtbkacbbhiecnkaaDoor
open Go.RowKit Go.BigFrame

set_option maxRecDepth 100000 in
set_option maxHeartbeats 800000 in
theorem rsvalidT_any (a : Option Addr) (cap : Nat) (xs : List Int) (n : Int) (w : World) (hi : IntsAt w (.slice a xs.length cap) xs) :
    Calls Tryd.prog 96 #[.slice a xs.length cap, .int .i64 n] w fun e w' => e = .returned (.bool (validB none xs n)) ∧ w = w' := by
  have hl : xs.length ≤ 70368744177664 := by obtain ⟨_, _, hv, _, _, hl, _⟩ := hi; exact hl
  go_enter Tryd.func96, Tryd.ntmps96
  go_wp2
  go_loop [9] (fun i => ∃ k : Nat, k ≤ xs.length ∧ i = .int .i64 k ∧ Hid (validB none xs n = validB (prevI xs k) (xs.drop k) n)) (fun i => xs.length - (intOf i).toNat)
  case atStart => exact ⟨0, Nat.zero_le _, rfl, rfl⟩
  case round =>
    obtain ⟨k, hk, rfl, HR⟩ := hrel
    by_cases hlt : k < xs.length
    · obtain ⟨b, off, y, rfl, hy, hd, _, c0⟩ := hi.at k hlt
      have HD : Hid (validB none xs n = (decide (0 ≤ y) && decide (y < n) && (prevI xs k).all (fun z => decide (z < y)) && validB (some y) (xs.drop (k + 1)) n)) := by show _ = _; rw [HR.out, hd, validB]
      have HP : Hid (prevI xs (k + 1) = some y) := by show _ = _; unfold prevI; rw [if_neg (by omega)]; simpa using hy
      clear hd hy HR
      by_cases h1 : y < 0
      · have HF : Hid (validB none xs n = false) := by show _ = _; rw [HD.out]; simp; omega
        go_wp2
        go_ret
        exact ⟨ret_bool HF.out.symm, rfl⟩
      by_cases h2 : n ≤ y
      · have HF : Hid (validB none xs n = false) := by show _ = _; rw [HD.out]; simp; omega
        go_wp2
        go_ret
        exact ⟨ret_bool HF.out.symm, rfl⟩
      by_cases hp : k = 0
      · have hp1 : decide (0 < (k : Int)) = false := by simp [hp]
        have hp2 : decide (0 < k) = false := by simp [hp]
        have HF : Hid (validB none xs n = validB (prevI xs (k + 1)) (xs.drop (k + 1)) n) := by
          show _ = _
          rw [HD.out, HP.out, prevI, if_pos hp]
          simp; omega
        clear hp
        go_wp2
        go_round
        case rel => exact ⟨k + 1, by omega, by go_num, HF⟩
        case measure => simp [intOf]; omega
      · have hp1 : (0 : Int) < (k : Int) := by omega
        have hp2 : 0 < k := by omega
        obtain ⟨b', off', z, hbo, hz, _, _, d0⟩ := hi.at (k - 1) (by omega)
        obtain ⟨rfl, rfl⟩ : b = b' ∧ off = off' := by simpa using hbo
        clear hbo
        have HQ : Hid (prevI xs k = some z) := by show _ = _; rw [prevI, if_neg hp]; exact hz
        clear hz hp
        by_cases hzy : y ≤ z
        · have HF : Hid (validB none xs n = false) := by show _ = _; rw [HD.out, HQ.out]; simp; omega
          go_wp2
          go_ret
          exact ⟨ret_bool HF.out.symm, rfl⟩
        · have HF : Hid (validB none xs n = validB (prevI xs (k + 1)) (xs.drop (k + 1)) n) := by show _ = _; rw [HD.out, HP.out, HQ.out]; simp; omega
          go_wp2
          go_round
          case rel => exact ⟨k + 1, by omega, by go_num, HF⟩
          case measure => simp [intOf]; omega
    · have HF : Hid (validB none xs n = true) := by show _ = _; rw [HR.out, List.drop_of_length_le (by omega)]; rfl
      go_wp2
      go_ret
      exact ⟨ret_bool HF.out.symm, rfl⟩

theorem subI_len : ∀ (a b : List Int), a.Nodup → (∀ y ∈ a, y ∈ b) → a.length ≤ b.length := by
  intro a
  induction a with
  | nil => intro b _ _; exact Nat.zero_le _
  | cons x a ih =>
    intro b hn h
    obtain ⟨h1, h2⟩ := List.nodup_cons.1 hn
    have hx := h x List.mem_cons_self
    have := ih (b.erase x) h2 (fun y hy => (List.mem_erase_of_ne (fun e => by rw [e] at hy; exact h1 hy)).2 (h y (List.mem_cons_of_mem _ hy)))
    rw [List.length_erase_of_mem hx] at this
    have := List.length_pos_of_mem hx
    simp only [List.length_cons]; omega
theorem dup_short : ∀ l : List Int, ¬ l.Nodup → ∃ l' : List Int, l'.length + 1 = l.length ∧ ∀ y ∈ l, y ∈ l' := by
  intro l
  induction l with
  | nil => intro h; exact absurd List.nodup_nil h
  | cons x l ih =>
    intro h
    by_cases hx : x ∈ l
    · exact ⟨l, rfl, fun y hy => by
        rcases List.mem_cons.1 hy with rfl | hy
        · exact hx
        · exact hy⟩
    · obtain ⟨l', h1, h2⟩ := ih (fun hn => h (List.nodup_cons.2 ⟨hx, hn⟩))
      exact ⟨x :: l', by simp [h1], fun y hy => by
        rcases List.mem_cons.1 hy with rfl | hy
        · exact List.mem_cons_self
        · exact List.mem_cons_of_mem _ (h2 y hy)⟩
theorem asc_nodup {l : List Int} (h : Asc l) : l.Nodup := h.imp fun h e => by omega
theorem valid_asc (n : Int) : ∀ (l : List Int) (p : Option Int), Asc l → (∀ q, p = some q → ∀ x ∈ l, q < x) → (validB p l n = true ↔ ∀ x ∈ l, 0 ≤ x ∧ x < n) := by
  intro l
  induction l with
  | nil => intro p _ _; simp [validB]
  | cons x l ih =>
    intro p ha hp
    obtain ⟨h1, h2⟩ := List.pairwise_cons.1 ha
    unfold validB
    have hpp : p.all (fun y => decide (y < x)) = true := by
      cases p with
      | none => rfl
      | some q => simpa using hp q rfl x List.mem_cons_self
    rw [Bool.and_eq_true, Bool.and_eq_true, Bool.and_eq_true, decide_eq_true_eq, decide_eq_true_eq, ih (some x) h2 (fun q hq y hy => by cases hq; exact h1 y hy)]
    simp [hpp]
theorem okW_all (m : Nat) (l : List Int) : okW m l ↔ l.length = m ∧ validB none (ofS l) m = true ∧ (ofS l).length = m := by
  have hv := valid_asc (m : Int) (ofS l) none (ofS_asc l) (fun q h => by cases h)
  rw [hv]
  have hle := subI_len (ofS l) l (asc_nodup (ofS_asc l)) (fun y hy => (ofS_mem l y).1 hy)
  constructor
  · rintro ⟨h1, h2, h3⟩
    have hge := subI_len l (ofS l) h2 (fun y hy => (ofS_mem l y).2 hy)
    exact ⟨h3, fun x hx => h1 x ((ofS_mem l x).1 hx), by omega⟩
  · rintro ⟨h1, h2, h3⟩
    refine ⟨fun x hx => h2 x ((ofS_mem l x).2 hx), ?_, h1⟩
    by_cases hn : l.Nodup
    · exact hn
    · obtain ⟨l', h4, h5⟩ := dup_short l hn
      have := subI_len (ofS l) l' (asc_nodup (ofS_asc l)) (fun y hy => h5 y ((ofS_mem l y).1 hy))
      omega
set_option maxRecDepth 100000 in
set_option maxHeartbeats 1600000 in
theorem rall10_any (m : Nat) (a : Option Addr) (cap : Nat) (l : List Int) (w : World) (hi : IntsAt w (.slice a l.length cap) l) (hm : m ≤ 100000) :
    Calls Tryd.prog 114 #[.slice a l.length cap, .int .i64 m] w fun e w' => e = .returned (.bool (decide (okW m l))) ∧ Below w.heap.size w w' := by
  have hok := okW_all m l
  by_cases hl : l.length = m
  case neg =>
    have hno : decide (okW m l) = false := decide_eq_false fun h => hl h.2.2
    have d1 : ((l.length : Int) == (m : Int)) = false := by simp; omega
    rw [hno]
    clear hok hno hl
    go_enter Tryd.func114, Tryd.ntmps114
    go_wp2_with fail
    go_ret
    exact ⟨rfl, Below.refl _ _⟩
  have d1 : ((l.length : Int) == (m : Int)) = true := by simp; omega
  have hll : l.length ≤ 100000 := by omega
  have hof := fun W h => of_any a cap l W h (by omega)
  have hva := fun ax cx W h => rsvalidT_any ax cx (ofS l) (m : Int) W h
  have hres : decide (okW m l) = (validB none (ofS l) m && decide ((ofS l).length = m)) := by
    rw [Bool.eq_iff_iff, decide_eq_true_eq, hok, Bool.and_eq_true, decide_eq_true_eq]
    exact ⟨fun h => h.2, fun h => ⟨hl, h⟩⟩
  rw [hres]
  have hol := ofS_length l
  obtain ⟨V, hV⟩ : ∃ V, validB none (ofS l) m = V := ⟨_, rfl⟩
  rw [hV] at hva ⊢
  obtain ⟨z, hz⟩ : ∃ z, ofS l = z := ⟨_, rfl⟩
  rw [hz] at hof hva hol ⊢
  clear hok hres hV hz hl
  go_enter Tryd.func114, Tryd.ntmps114
  go_wp2_with fail
  refine (hof _ hi).mono ?_
  rintro e w1 ⟨a1, c1, rfl, hi1, hb1⟩
  go_wp2_with fail
  refine (hva _ _ _ hi1).mono ?_
  rintro e w2 ⟨rfl, rfl⟩
  cases V with
  | false =>
    go_wp2_with fail
    go_ret
    exact ⟨rfl, hb1⟩
  | true =>
    go_wp2_with fail
    refine (hof _ (hi.below hb1)).mono ?_
    rintro e w3 ⟨a3, c3, rfl, hi3, hb3⟩
    by_cases hzl : z.length = m
    · have d3 : ((z.length : Int) == (m : Int)) = true := by simp; omega
      have hD := Lib.hid (decide_eq_true hzl)
      clear hzl
      go_wp2_with fail
      go_ret
      exact ⟨by rw [hD.out]; rfl, hb1.trans (hb3.mono hb1.size)⟩
    · have d3 : ((z.length : Int) == (m : Int)) = false := by simp; omega
      have hD := Lib.hid (decide_eq_false hzl)
      clear hzl
      go_wp2_with fail
      go_ret
      exact ⟨by rw [hD.out]; rfl, hb1.trans (hb3.mono hb1.size)⟩
end Go.Proofs.YtbkacbbhiecnkaaDoor
