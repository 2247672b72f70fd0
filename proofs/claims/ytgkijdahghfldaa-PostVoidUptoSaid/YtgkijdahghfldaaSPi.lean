/-
  The indexes' laws, with no premise.
-/
import Derived.Test.YtgkijdahghfldaaXPi
import Derived.Test.YtgkijdahghfldaaPPiX
set_option linter.unusedVariables false
namespace Go.Proofs.Ytgkijdahghfldaa
open Go.Gx
theorem bk_any {α : Type} (xs : List α) : xs.length ≤ bkSl (fun _ => 1) xs := by
  unfold bkSl
  induction xs with
  | nil => simp
  | cons x xs ih => simp only [List.map_cons, List.sum_cons, List.length_cons] at ih ⊢; omega
theorem postIndexes : Rows.PostIndexesUptoSaid := postIndexes_said fun x0 x1 _ _ h => purePostIndexes x0 x1 (by have := bk_any x0; omega)
theorem postVoid : Rows.PostVoidUptoSaid := postVoid_said fun x0 x1 _ _ _ => purePostVoid x0 x1
end Go.Proofs.Ytgkijdahghfldaa
