/-
  A text fits the query of its quoted self, which asks for each of its grams, if it is not longer than the texts that are told: the walk and the law joined. Argument: any text within the statement's bound.
-/
import Derived.Test.YtdccklkdakfnaaaGreatXGq
import Derived.Test.YtdccklkdakfnaaaGreatPPa
import Derived.Test.YtdccklkdakfnaaaGreatFGq
set_option linter.unusedVariables false
namespace Go.Proofs.YtdccklkdakfnaaaGreat
open Go.Gx Go.Proofs
theorem gramQuotes : Rows.GramQuotesUptoSaid := gramQuotes_said fun x0 o0 _ => gquotes_law tidepolelaw14_works_eval x0
end Go.Proofs.YtdccklkdakfnaaaGreat
#print axioms Go.Proofs.YtdccklkdakfnaaaGreat.gramQuotes
