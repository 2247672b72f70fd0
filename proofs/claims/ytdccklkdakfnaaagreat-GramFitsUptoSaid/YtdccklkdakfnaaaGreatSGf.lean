/-
 Whether any text fits any query, and which numbers of any index do, is as the document says, or refused: the walk and the law joined. Arguments: any query, text, entries and numbers within the statement's bound.
-/
import Derived.Test.YtdccklkdakfnaaaGreatXGf
import Derived.Test.YtdccklkdakfnaaaGreatPPa
import Derived.Test.YtdccklkdakfnaaaGreatFGf
set_option linter.unusedVariables false
namespace Go.Proofs.YtdccklkdakfnaaaGreat
open Go.Gx Go.Proofs
theorem fq_of : ∀ (e : Nat) (y : T29), okT29 y → FQ e y
 | 0, _, _ => trivial
 | e + 1, y, h => by
  have h1 := h 1
  refine ⟨?_, fun x hx => fq_of e x (fun n => ?_)⟩
  ·have h2 : y.L.length ≤ maxLen := h1.2.2.1
   have e1 : maxLen ≤ 9223372036854775807 := by decide
   omega
  ·exact (h (n + 1)).2.2.2 x hx
theorem gramFits : Rows.GramFitsUptoSaid := gramFits_said fun x0 x1 x2 x3 o0 o1 o2 o3 _ => gfits_law tidepolelaw14_works_eval x0 x1 x2 x3 (fun e => fq_of e x0 o0)
end Go.Proofs.YtdccklkdakfnaaaGreat
#print axioms Go.Proofs.YtdccklkdakfnaaaGreat.gramFits
