/-
  A quoted text means that text alone: the walk and the law joined. Arguments: any two texts within the statement's bound.
-/
import Derived.Test.YtemokppdnkiejaaPQuoQ
import Derived.Test.YtemokppdnkiejaaXQuo
namespace Go.Proofs.Ytemokppdnkiejaa
open Go.Gx
theorem simQuotes : Rows.SimQuotesUptoSaid := simQuotes_said fun x0 x1 _ _ _ => quotes_law x0 x1
end Go.Proofs.Ytemokppdnkiejaa
#print axioms Go.Proofs.Ytemokppdnkiejaa.simQuotes
