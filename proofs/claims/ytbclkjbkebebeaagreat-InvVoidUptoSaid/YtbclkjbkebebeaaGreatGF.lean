/-
  What a walk of package strings' Builder meets: pointers turned to unsafe ones and back, a pointer held against itself, a text appended, bytes that become a text. Generic: names no program.
-/
import Derived.Test.YtbclkjbkebebeaaGreatGE
import Derived.Lib.Builder
import Derived.Lib.UnsafeStr
import Derived.Lib.AppendStr
set_option linter.unusedVariables false
namespace Go.Gx
open Go.RowKit
section
variable {P : Program} {X : Prop} {Y : Array Value → World → Prop} {w : World} {fr : Array Value} {ds : List Deferred}
variable {N : Nat} {w0 : World} {S : Fz} {L : List Ent}
end
end Go.Gx
