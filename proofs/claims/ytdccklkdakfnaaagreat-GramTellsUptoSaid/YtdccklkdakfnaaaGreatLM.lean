/-
  Maps as lists of pairs: what is looked up, set, taken away; their order does not count. Names no program.
-/
import Derived.Test.YtdccklkdakfnaaaGreatGW
import Derived.Sort.KeysCollected
import Derived.Lib.SlKeysI
set_option linter.unusedVariables false
set_option linter.unusedSectionVars false
namespace Go.Gx
section
variable {κ ν : Type} [BEq κ] [LawfulBEq κ] [DecidableEq κ]
end
/-! ### texts in order -/
def bl (s : ByteArray) : List UInt8 := s.data.toList
end Go.Gx
