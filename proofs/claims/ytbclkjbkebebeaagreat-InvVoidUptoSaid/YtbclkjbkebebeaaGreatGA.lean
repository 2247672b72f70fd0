/-
  Zeros appended; arrays: cuts, copies, whole loads and stores; results in memory. Generic: names no program.
-/
import Derived.Test.YtbclkjbkebebeaaGreatG9
import Derived.Lib.AppendZerosOnto
namespace Go.Gx
open Go.RowKit
section
variable {P : Program} {X : Prop} {Y : Array Value → World → Prop} {w : World} {fr : Array Value} {ds : List Deferred}
variable {N : Nat} {w0 : World} {S : Fz} {L : List Ent} {α : Type} {K : Kd α}
/-! ### Arrays, whose elements are one cell each -/
/-! ### Results in memory -/
theorem Els.len1 {S : Fz} {w : World} {K : Kd α} {cs : List Value} {xs : List α} {n : Nat} (he : Els K S w cs xs) (hl : cs.length = n) (hK : K.size = 1) : xs.length = n := by
  have := he.length
  rw [hK, Nat.mul_one] at this
  omega
end
end Go.Gx
