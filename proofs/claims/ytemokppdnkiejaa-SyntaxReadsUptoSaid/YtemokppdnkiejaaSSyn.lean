/-
  The statement that what is read may be: the walk and the law joined.
-/
import Derived.Test.YtemokppdnkiejaaPSyn4
import Derived.Test.YtemokppdnkiejaaXSyn
namespace Go.Proofs.Ytemokppdnkiejaa
open Go.Gx
theorem syntaxReads : Rows.SyntaxReadsUptoSaid := syntaxReads_said pureSyntaxReads
end Go.Proofs.Ytemokppdnkiejaa
#print axioms Go.Proofs.Ytemokppdnkiejaa.syntaxReads
