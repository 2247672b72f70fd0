/-
  The statement that a list is gone through in order, joined.
-/
import Derived.Test.YtgkijdahghfldaaXPst
import Derived.Test.YtgkijdahghfldaaPPstG
namespace Go.Proofs.Ytgkijdahghfldaa
open Go.Gx
theorem postGoes : Rows.PostGoesUptoSaid := postGoes_said purePostGoes
end Go.Proofs.Ytgkijdahghfldaa
#print axioms Go.Proofs.Ytgkijdahghfldaa.postGoes
