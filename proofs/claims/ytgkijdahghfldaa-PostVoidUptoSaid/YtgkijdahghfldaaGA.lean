/-
  Zeros appended; arrays: cuts, copies, whole loads and stores; results in memory. Generic: names no program.
-/
import Derived.Test.YtgkijdahghfldaaG9
import Derived.Lib.AppendZerosOnto
namespace Go.Gx
open Go.RowKit
section
variable {P : Program} {X : Prop} {Y : Array Value → World → Prop} {w : World} {fr : Array Value} {ds : List Deferred}
variable {N : Nat} {w0 : World} {S : Fz} {L : List Ent} {α : Type} {K : Kd α}
/-! ### Arrays, whose elements are one cell each -/
/-! ### Results in memory -/
end
end Go.Gx
