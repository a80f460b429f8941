/- The contracts of the reference's Cmp and Same at equal lists of numbers. -/
import Derived.Test.YtdkmdcdoiaelfaaGreatRef02
namespace Go.Proofs.YtdkmdcdoiaelfaaGreat
open Go.RowKit Go.BigFrame

theorem IntsAt.at' {w : World} {a : Option Addr} {cap : Nat} {xs : List Int} (h : IntsAt w (.slice a xs.length cap) xs) (k : Nat) (hk : k < xs.length) : ∃ b off y, a = some ⟨b, off, none⟩ ∧ xs[k]? = some y ∧ xs.length ≤ cap ∧ w.cell? ⟨b, off + k, none⟩ = some (.int .i64 y) := by
  obtain ⟨a', cap', e, h1, h2, h3, h4⟩ := h
  cases e
  obtain ⟨b, off, e, c⟩ := h4 k _ (List.getElem?_eq_getElem hk)
  exact ⟨b, off, _, e, List.getElem?_eq_getElem hk, h1, c⟩
set_option maxRecDepth 100000 in
theorem icmp_same (a a2 : Option Addr) (cap cap2 : Nat) (xs : List Int) (w : World) (h1 : IntsAt w (.slice a xs.length cap) xs) (h2 : IntsAt w (.slice a2 xs.length cap2) xs) :
    Calls Tryz.prog 13 #[.slice a xs.length cap, .slice a2 xs.length cap2] w fun e w' => e = .returned (.int .i64 0) ∧ Below w.heap.size w w' := by
  have hl : xs.length ≤ 70368744177664 := by obtain ⟨_, _, hv, _, _, hl, _⟩ := h1; exact hl
  have hself : decide (xs.length < xs.length) = false := by simp
  go_enter Tryz.func13, Tryz.ntmps13
  go_wp2_with fail
  go_loopw [8] (fun i wr => ∃ k : Nat, k ≤ xs.length ∧ i = .int .i64 k ∧ Below w.heap.size w wr) (fun i _ => xs.length - (intOf i).toNat)
  case atStart => exact ⟨0, by omega, rfl, Below.refl _ _⟩
  case round =>
    obtain ⟨k, hk, rfl, hb⟩ := hrel
    by_cases hlt : k < xs.length
    · obtain ⟨b, off, y, rfl, hy, _, c0⟩ := (h1.below hb).at' k hlt
      obtain ⟨b2, off2, y2, rfl, hy2, _, c2⟩ := (h2.below hb).at' k hlt
      obtain rfl : y = y2 := by rw [hy] at hy2; exact Option.some.inj hy2
      have hd : decide ((xs.length : Int) ≤ k) = false := by simp; omega
      have hd2 : decide (xs.length ≤ k) = false := by simp; omega
      have hyy : decide (y < y) = false := by simp
      clear hy hy2
      go_wp2_with fail
      go_quiet (fail)
      go_wp2_with fail
      go_quiet (fail)
      go_wp2_with fail
      go_roundw
      case rel => exact ⟨k + 1, by omega, by go_num, hb.drewN _⟩
      case measure => simp [intOf]; omega
    · obtain rfl : k = xs.length := by omega
      go_wp2_with fail
      go_ret
      exact ⟨rfl, hb⟩
end Go.Proofs.YtdkmdcdoiaelfaaGreat
