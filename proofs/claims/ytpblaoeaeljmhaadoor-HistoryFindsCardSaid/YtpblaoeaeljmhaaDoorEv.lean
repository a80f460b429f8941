/- Events in plain words, and how they lie in memory. -/
import Derived.Test.YtpblaoeaeljmhaaDoorSeqs
namespace Go.Proofs.YtpblaoeaeljmhaaDoor
open Go.RowKit

structure Ev where
  kind : Int
  time : Int
  u : Int
  v : Int
  weight : Int
  label : Int
  sign : Int
deriving DecidableEq
def Ev.cells (e : Ev) : Array Value := #[.int .i64 e.kind, .int .i64 e.time, .int .i64 e.u, .int .i64 e.v, .int .i64 e.weight, .int .i64 e.label, .int .i64 e.sign]
def encEv : Enc Ev := ⟨7, fun e => e.cells.toList, fun _ => rfl, fun e u hu => by simp [Ev.cells] at hu; rcases hu with h | h | h | h | h | h | h <;> subst h <;> rfl, by decide⟩
/-- the event at a place, and its seven cells -/
theorem ev_at {w : World} {a : Option Addr} {cap : Nat} {xs : List Ev} (h : RowAt encEv w (.slice a xs.length cap) xs) (i : Nat) (hi : i < xs.length) :
    ∃ b off x, a = some ⟨b, off, none⟩ ∧ xs[i]? = some x ∧ xs.length ≤ cap ∧ w.cell? ⟨b, off + i * 7, none⟩ = some (.int .i64 x.kind) ∧ w.cell? ⟨b, off + i * 7 + 1, none⟩ = some (.int .i64 x.time) ∧ w.cell? ⟨b, off + i * 7 + 2, none⟩ = some (.int .i64 x.u) ∧
      w.cell? ⟨b, off + i * 7 + 3, none⟩ = some (.int .i64 x.v) ∧ w.cell? ⟨b, off + i * 7 + 4, none⟩ = some (.int .i64 x.weight) ∧ w.cell? ⟨b, off + i * 7 + 5, none⟩ = some (.int .i64 x.label) ∧ w.cell? ⟨b, off + i * 7 + 6, none⟩ = some (.int .i64 x.sign) := by
  obtain ⟨b, off, x, e, hx, hc, hat⟩ := h.elem i hi
  exact ⟨b, off, x, e, hx, hc, hat 0 _ rfl, hat 1 _ rfl, hat 2 _ rfl, hat 3 _ rfl, hat 4 _ rfl, hat 5 _ rfl, hat 6 _ rfl⟩
end Go.Proofs.YtpblaoeaeljmhaaDoor
