/-
 If an index has, by each gram, the numbers of the texts that have it, Eval has the numbers of the texts that fit: the walk and the law joined. Arguments: any query and texts within the statement's bound.
-/
import Derived.Test.YtdccklkdakfnaaaGreatXGl
import Derived.Test.YtdccklkdakfnaaaGreatPPa
import Derived.Test.YtdccklkdakfnaaaGreatFGl
set_option linter.unusedVariables false
namespace Go.Proofs.YtdccklkdakfnaaaGreat
open Go.Gx Go.Proofs
theorem fq_of : ∀ (e : Nat) (y : T29), okT29 y → FQ e y
 | 0, _, _ => trivial
 | e + 1, y, h => by
  have h1 := h 1
  refine ⟨?_, fun x hx => fq_of e x (fun n => ?_)⟩
  ·have h2 : y.L.length ≤ maxLen := h1.2.2.1
   have e1 : maxLen ≤ 9223372036854775807 := by decide
   omega
  ·exact (h (n + 1)).2.2.2 x hx
theorem gramLists : Rows.GramListsUptoSaid := gramLists_said fun x0 x1 o0 o1 _ => glists_law tidepolelaw14_works_eval x0 x1 (fun e => fq_of e x0 o0)
end Go.Proofs.YtdccklkdakfnaaaGreat
#print axioms Go.Proofs.YtdccklkdakfnaaaGreat.gramLists
