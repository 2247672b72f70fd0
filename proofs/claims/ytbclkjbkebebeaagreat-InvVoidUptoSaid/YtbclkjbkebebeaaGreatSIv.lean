/-
  An index that no call made has and does nothing: the walk and the law joined. Arguments: any number, labels and name within the statement's bound.
-/
import Derived.Test.YtbclkjbkebebeaaGreatXIv
import Derived.Test.YtbclkjbkebebeaaGreatPIvA
import Derived.Test.YtbclkjbkebebeaaGreatFIv
set_option linter.unusedVariables false
namespace Go.Proofs.YtbclkjbkebebeaaGreat
open Go.Gx Go.Proofs
theorem invVoid : Rows.InvVoidUptoSaid := invVoid_said fun x0 x1 x2 o0 o1 o2 _ => void_law tidepolelaw16_works_eval x0 x1 x2
end Go.Proofs.YtbclkjbkebebeaaGreat
#print axioms Go.Proofs.YtbclkjbkebebeaaGreat.invVoid
