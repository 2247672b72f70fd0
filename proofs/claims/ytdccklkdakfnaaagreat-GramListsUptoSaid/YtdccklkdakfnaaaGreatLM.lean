/-
 Maps as lists of pairs: what is looked up, set, taken away; their order does not count. Names no program.
-/
import Derived.Test.YtdccklkdakfnaaaGreatGW
import Derived.Sort.KeysCollected
import Derived.Lib.SlKeysI
set_option linter.unusedVariables false
set_option linter.unusedSectionVars false
namespace Go.Gx
section
variable {κ ν : Type} [BEq κ] [LawfulBEq κ] [DecidableEq κ]
theorem mget_mset {m : List (κ × ν)} (k k' : κ) (v : ν) : mget (mset m k v) k' = if k' = k then some v else mget m k' := by
 induction m with
 | nil => simp only [mset, mget]; by_cases h : k' = k <;> simp [h]
 | cons e m ih =>
  simp only [mset]
  by_cases hk : k = e.1
  ·subst hk
   simp only [beq_self_eq_true, if_true, mget]
   by_cases h : k' = e.1 <;> simp [h]
  ·have hb : (k == e.1) = false := by simpa using hk
   rw [hb]
   simp only [Bool.false_eq_true, if_false, mget, ih]
   by_cases h : k' = e.1
   ·subst h; simp [Ne.symm hk]
   ·have hb' : (k' == e.1) = false := by simpa using h
    rw [hb']; rfl
end
/-! ### texts in order -/
def bl (s : ByteArray) : List UInt8 := s.data.toList
end Go.Gx
