/-
  Any text that is read as a pattern has a program that may be: the walk and the law joined. Arguments: any text within the statement's bound.
-/
import Derived.Test.YtemokppdnkiejaaDoorPPrC
import Derived.Test.YtemokppdnkiejaaDoorXPr
namespace Go.Proofs.YtemokppdnkiejaaDoor
open Go.Gx
theorem progReads : Rows.ProgReadsUptoCardSaid := progReads_card fun x0 _ _ => reads_law x0
end Go.Proofs.YtemokppdnkiejaaDoor
#print axioms Go.Proofs.YtemokppdnkiejaaDoor.progReads
