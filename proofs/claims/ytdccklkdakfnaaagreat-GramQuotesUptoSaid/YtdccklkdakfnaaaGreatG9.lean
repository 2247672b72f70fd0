/-
 Marks, zeros appended, copies, texts appended. Generic: names no program.
-/
import Derived.Test.YtdccklkdakfnaaaGreatG8
namespace Go.Gx
open Go.RowKit
theorem Hp.nilRow' {N : Nat} {w0 w : World} {S : Fz} {L : List Ent} {m : Nat} (h : Hp N w0 S w L) (e : TypeId) : Hp N w0 S w ((none, .row e [] (0 * m) 0) :: L) := by
 rw [Nat.zero_mul]; exact h.nilRow e
theorem si_length {α : Type} (xs : List α) (j : Int) (x : α) : (si xs j x).length = xs.length := by simp [si]
section
variable {P : Program} {X : Prop} {Y : Array Value → World → Prop} {w : World} {fr : Array Value} {ds : List Deferred}
variable {N : Nat} {w0 : World} {S : Fz} {L : List Ent} {α : Type} {K : Kd α}
theorem freeze_heap_ne (w : World) (a : Addr) (n b : Nat) (h : b ≠ a.block) : (w.freeze a n).heap[b]? = w.heap[b]? := by
 unfold World.freeze
 split
 ·rfl
 ·simp only [Array.getElem?_modify]
  rw [if_neg (Ne.symm h)]
end
end Go.Gx
