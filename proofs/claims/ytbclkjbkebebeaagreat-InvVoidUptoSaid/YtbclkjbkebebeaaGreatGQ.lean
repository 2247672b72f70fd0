/-
  Structs of numbers, and of arrays of numbers, held against each other. Generic: names no program.
-/
import Derived.Test.YtbclkjbkebebeaaGreatGZ
import Derived.Laws.StructEq
set_option linter.unusedVariables false
namespace Go.Gx
open Go.RowKit
variable {P : Program}
section
variable {fr : Array Value} {ds : List Deferred} {w : World} {X : Prop} {Y : Array Value → World → Prop}
end
end Go.Gx
