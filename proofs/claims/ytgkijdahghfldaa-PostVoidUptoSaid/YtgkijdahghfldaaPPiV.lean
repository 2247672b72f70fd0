/-
  An index that no call made has and does nothing.
-/
import Derived.Test.YtgkijdahghfldaaPPiA
set_option linter.unusedVariables false
namespace Go.Proofs.Ytgkijdahghfldaa
open Go.Gx
theorem works_eq : M.tidepolelaw13_works = some true := by
  have r1 : Rz [1, 3, 5] := by decide
  have r2 : Rz [3, 4, 5] := by decide
  have e1 : mg fBoth [1, 3, 5] [3, 4, 5] = [3, 5] := by simp [mg, keep, fBoth]
  have e2 : mg fOne [1, 3, 5] [3, 4, 5] = [1, 3, 4, 5] := by simp [mg, keep, fOne]
  have e3 : mg fFirst [1, 3, 5] [3, 4, 5] = [1] := by simp [mg, keep, fFirst]
  rw [M.tidepolelaw13_works, and_eq [1, 3, 5] [[3, 4, 5]] (by simp) (by simp only [List.mem_cons, List.not_mem_nil, or_false]; rintro x (rfl | rfl); exact r1; exact r2) (by simp [tot])]
  simp only [Option.bind_eq_bind, Option.bind_some, List.foldl_cons, List.foldl_nil, e1]
  rw [or_eq [1, 3, 5] [[3, 4, 5]] (by simp) (by simp only [List.mem_cons, List.not_mem_nil, or_false]; rintro x (rfl | rfl); exact r1; exact r2) (by simp [tot])]
  simp only [Option.bind_eq_bind, Option.bind_some, List.foldl_cons, List.foldl_nil, e2]
  rw [but_eq _ _ r1 r2 (by simp)]
  simp only [Option.bind_eq_bind, Option.bind_some, e3]
  rw [same_self _ (by simp)]
  simp only [Option.bind_eq_bind, Option.bind_some, if_true]
  rw [same_self _ (by simp)]
  simp only [Option.bind_eq_bind, Option.bind_some, if_true]
  rw [same_self _ (by simp)]
  simp
theorem purePostVoid (x0 : ByteArray) (x1 : Int) : ∃ ps, M.tidepolelaw13_PostVoid x0 x1 [] = some (true, ps) := by
  refine ⟨[[]], ?_⟩
  rw [M.tidepolelaw13_PostVoid, works_eq]
  have e : wr .i64 ((wr .i64 (0 + 0)) + 0) = 0 := by decide +kernel
  show some (decide (wr .i64 ((wr .i64 (0 + 0)) + 0) = 0), ([[]] : List (List (ByteArray × List Int)))) = _
  rw [e]; rfl
end Go.Proofs.Ytgkijdahghfldaa
