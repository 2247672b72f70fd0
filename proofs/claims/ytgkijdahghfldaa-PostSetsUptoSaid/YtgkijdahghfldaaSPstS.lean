/-
  The statement that And, Or and But are those of sets, joined.
-/
import Derived.Test.YtgkijdahghfldaaXPst
import Derived.Test.YtgkijdahghfldaaPPstS
namespace Go.Proofs.Ytgkijdahghfldaa
open Go.Gx
theorem postSets : Rows.PostSetsUptoSaid := postSets_said purePostSets
end Go.Proofs.Ytgkijdahghfldaa
#print axioms Go.Proofs.Ytgkijdahghfldaa.postSets
