/-
  The statement that any lists are judged, put together, and held apart as by the reference, joined.
-/
import Derived.Test.YtgkijdahghfldaaXPst
import Derived.Test.YtgkijdahghfldaaPPstL
namespace Go.Proofs.Ytgkijdahghfldaa
open Go.Gx
theorem postLists : Rows.PostListsUptoSaid := postLists_said purePostLists
end Go.Proofs.Ytgkijdahghfldaa
#print axioms Go.Proofs.Ytgkijdahghfldaa.postLists
