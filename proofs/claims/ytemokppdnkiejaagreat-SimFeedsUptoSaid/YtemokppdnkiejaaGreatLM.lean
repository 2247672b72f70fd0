/-
  Maps as lists of pairs: what is looked up, set, taken away; their order does not count. Names no program.
-/
import Derived.Test.YtemokppdnkiejaaGreatGW
import Derived.Sort.KeysCollected
import Derived.Lib.SlKeysI
set_option linter.unusedVariables false
set_option linter.unusedSectionVars false
namespace Go.Gx
section
variable {κ ν : Type} [BEq κ] [LawfulBEq κ] [DecidableEq κ]
end
/-! ### texts in order -/
def bl (s : ByteArray) : List UInt8 := s.data.toList
theorem srtI_eq {xs ys : List Int} (hp : xs.Perm ys) (hs : ys.Pairwise (· ≤ ·)) : srtI xs = ys := by
  have e1 : xs.mergeSort (fun x y => decide (x ≤ y)) = ys.mergeSort (fun x y => decide (x ≤ y)) := Go.mergeSort_of_perm_i hp
  show xs.mergeSort (fun x y => decide (x ≤ y)) = ys
  rw [e1]
  exact List.mergeSort_of_pairwise (hs.imp fun h => decide_eq_true h)
end Go.Gx
