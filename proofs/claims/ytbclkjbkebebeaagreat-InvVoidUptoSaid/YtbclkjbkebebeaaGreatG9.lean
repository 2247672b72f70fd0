/-
 Marks, zeros appended, copies, texts appended. Generic: names no program.
-/
import Derived.Test.YtbclkjbkebebeaaGreatG8
namespace Go.Gx
open Go.RowKit
theorem Hp.nilRow' {N : Nat} {w0 w : World} {S : Fz} {L : List Ent} {m : Nat} (h : Hp N w0 S w L) (e : TypeId) : Hp N w0 S w ((none, .row e [] (0 * m) 0) :: L) := by
 rw [Nat.zero_mul]; exact h.nilRow e
theorem Rd.isnil {α : Type} {K : Kd α} {S : Fz} {w : World} {A : Option Addr} {c : Nat} {xs : List α} (h : Rd K S w A c xs) : (A = none ∧ xs = [] ∧ c = 0) ∨ ∃ a, A = some a := by
 cases A with
 | none =>
  refine .inl ⟨rfl, ?_, h.2.1 rfl⟩
  have h1 := h.1
  rw [h.2.1 rfl] at h1
  exact List.eq_nil_of_length_eq_zero (by omega)
 | some a => exact .inr ⟨a, rfl⟩
theorem si_length {α : Type} (xs : List α) (j : Int) (x : α) : (si xs j x).length = xs.length := by simp [si]
section
variable {P : Program} {X : Prop} {Y : Array Value → World → Prop} {w : World} {fr : Array Value} {ds : List Deferred}
variable {N : Nat} {w0 : World} {S : Fz} {L : List Ent} {α : Type} {K : Kd α}
end
end Go.Gx
