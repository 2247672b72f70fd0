import Derived.Test.YtgkijdahghfldaaGW

set_option linter.unusedVariables false

namespace Go.Gx

/-! tidepole/post.rises[uint64] -/
def M.post_rises_uint64_l0 : List Int × Int → Option Bool := fun ⟨x0, x3⟩ =>
  if x3 < (x0.length : Int) then
  if 0 ≤ wr .i64 (x3 - 1) then
  if wr .i64 (x3 - 1) < (x0.length : Int) then
  if 0 ≤ x3 then
  if gi x0 (wr .i64 (x3 - 1)) ≥ gi x0 x3 then
  some false
  else
  M.post_rises_uint64_l0 (x0, wr .i64 (x3 + 1))
  else none
  else none
  else none
  else
  some true
  partial_fixpoint

def M.post_rises_uint64 (x0 : List Int) : Option Bool :=
  M.post_rises_uint64_l0 (x0, 1)

/-! tidepole/post.Check -/
def M.post_Check (x0 : List Int) : Option Int :=
  M.post_rises_uint64 x0 >>= fun y1 =>
  if y1 = true then
  some 0
  else
  some 2

/-! slices.Clone[[]uint64,uint64] -/
def M.slices_Clone_uint64_uint64 (x0 : List Int) : Option (List Int) :=
  if (x0.length : Int) ≤ 1099511627776 then
  some x0
  else none

/-! tidepole/post.merge[uint64] -/
def M.post_merge_uint64 (x0 : List Int) (x1 : List Int) : Option ((List Int) × (List Int)) :=
  some (x0, x1)

/-! tidepole/post.both -/
def M.post_both (x0 : Int) : Option Bool :=
  some (decide (x0 = 3))

/-! tidepole/post.those[uint64] -/
def M.post_those_uint64__r (kq7v0 : List Int) (kq12b0v0 : List Int) (kq12b1v0 : List Int) (a0 : Int) (a1 : Int) : Option ((List Int) × (List Int) × (List Int)) :=
  M.post_both a1 >>= fun y1 =>
  if y1 = true then
  if ((kq7v0 ++ [a0]).length : Int) ≤ 1099511627776 then
  some ((kq7v0 ++ [a0]), kq12b0v0, kq12b1v0)
  else none
  else
  some (kq7v0, kq12b0v0, kq12b1v0)

/-! tidepole/post.merge[uint64]$1 -/
mutual

def M.post_merge_uint64_1_l0 : List Int × List Int × List Int → Option ((List Int) × (List Int) × (List Int)) := fun ⟨x1v0, x2v0, eE2v0⟩ =>
  if (x1v0.length : Int) > 0 then
  M.post_merge_uint64_1_l1 (x1v0, x2v0, true, eE2v0)
  else
  M.post_merge_uint64_1_l1 (x1v0, x2v0, decide ((x2v0.length : Int) > 0), eE2v0)
  partial_fixpoint

def M.post_merge_uint64_1_l1 : List Int × List Int × Bool × List Int → Option ((List Int) × (List Int) × (List Int)) := fun ⟨x1v0, x2v0, x13, eE2v0⟩ =>
  if x13 = true then
  if (x2v0.length : Int) = 0 then
  M.post_merge_uint64_1_l2 (x1v0, x2v0, 0, true, eE2v0)
  else
  if (x1v0.length : Int) > 0 then
  if 0 < (x1v0.length : Int) then
  if 0 < (x2v0.length : Int) then
  M.post_merge_uint64_1_l2 (x1v0, x2v0, 0, decide (gi x1v0 0 ≤ gi x2v0 0), eE2v0)
  else none
  else none
  else
  M.post_merge_uint64_1_l2 (x1v0, x2v0, 0, false, eE2v0)
  else
  some (eE2v0, x1v0, x2v0)
  partial_fixpoint

def M.post_merge_uint64_1_l2 : List Int × List Int × Int × Bool × List Int → Option ((List Int) × (List Int) × (List Int)) := fun ⟨x1v0, x2v0, x4, x30, eE2v0⟩ =>
  if x30 = true then
  M.post_merge_uint64_1_l3 (x1v0, x2v0, ior .i64 x4 1, eE2v0)
  else
  M.post_merge_uint64_1_l3 (x1v0, x2v0, x4, eE2v0)
  partial_fixpoint

def M.post_merge_uint64_1_l3 : List Int × List Int × Int × List Int → Option ((List Int) × (List Int) × (List Int)) := fun ⟨x1v0, x2v0, x4, eE2v0⟩ =>
  if (x1v0.length : Int) = 0 then
  M.post_merge_uint64_1_l4 (x1v0, x2v0, x4, true, eE2v0)
  else
  if (x2v0.length : Int) > 0 then
  if 0 < (x2v0.length : Int) then
  if 0 < (x1v0.length : Int) then
  M.post_merge_uint64_1_l4 (x1v0, x2v0, x4, decide (gi x2v0 0 ≤ gi x1v0 0), eE2v0)
  else none
  else none
  else
  M.post_merge_uint64_1_l4 (x1v0, x2v0, x4, false, eE2v0)
  partial_fixpoint

def M.post_merge_uint64_1_l4 : List Int × List Int × Int × Bool × List Int → Option ((List Int) × (List Int) × (List Int)) := fun ⟨x1v0, x2v0, x4, x49, eE2v0⟩ =>
  if x49 = true then
  M.post_merge_uint64_1_l5 (x1v0, x2v0, ior .i64 x4 2, eE2v0)
  else
  M.post_merge_uint64_1_l5 (x1v0, x2v0, x4, eE2v0)
  partial_fixpoint

def M.post_merge_uint64_1_l5 : List Int × List Int × Int × List Int → Option ((List Int) × (List Int) × (List Int)) := fun ⟨x1v0, x2v0, x4, eE2v0⟩ =>
  if iand .i64 x4 2 = 0 then
  M.post_merge_uint64_1_l6 (x1v0, x2v0, x4, 0, eE2v0)
  else
  if 0 < (x2v0.length : Int) then
  if 1 ≤ (x2v0.length : Int) then
  M.post_merge_uint64_1_l6 (x1v0, (sl x2v0 1 (x2v0.length : Int)), x4, gi x2v0 0, eE2v0)
  else none
  else none
  partial_fixpoint

def M.post_merge_uint64_1_l6 : List Int × List Int × Int × Int × List Int → Option ((List Int) × (List Int) × (List Int)) := fun ⟨x1v0, x2v0, x4, x5, eE2v0⟩ =>
  if iand .i64 x4 1 = 0 then
  M.post_merge_uint64_1_l7 (x1v0, x2v0, x4, x5, eE2v0)
  else
  if 0 < (x1v0.length : Int) then
  if 1 ≤ (x1v0.length : Int) then
  M.post_merge_uint64_1_l7 ((sl x1v0 1 (x1v0.length : Int)), x2v0, x4, gi x1v0 0, eE2v0)
  else none
  else none
  partial_fixpoint

def M.post_merge_uint64_1_l7 : List Int × List Int × Int × Int × List Int → Option ((List Int) × (List Int) × (List Int)) := fun ⟨x1v0, x2v0, x4, x5, eE2v0⟩ =>
  M.post_those_uint64__r eE2v0 x1v0 x2v0 x5 x4 >>= fun y37 =>
  M.post_merge_uint64_1_l0 (y37.2.1, y37.2.2, y37.1)
  partial_fixpoint

end

def M.post_merge_uint64_1 (x0q7v0 : List Int) (x0q12b0v0 : List Int) (x0q12b1v0 : List Int) : Option ((List Int) × (List Int) × (List Int)) :=
  M.post_merge_uint64_1_l0 (x0q12b0v0, x0q12b1v0, x0q7v0)

/-! tidepole/post.those[uint64] -/
def M.post_those_uint64 (x0 : List Int) (x1 : List Int) : Option (List Int) :=
  M.post_merge_uint64 x0 x1 >>= fun y5 =>
  M.post_merge_uint64_1 ([] : List Int) y5.1 y5.2 >>= fun y23 =>
  some y23.1

/-! tidepole/post.fold -/
def M.post_fold_l1 : List Int × List (List Int) × Int × Int → Option ((List Int) × Int) := fun ⟨x9, x35, x36, x37⟩ =>
  if x37 < x36 then
  if 0 ≤ x37 then
  if x37 < (x35.length : Int) then
  M.post_those_uint64 x9 (gi x35 x37) >>= fun y44 =>
  M.post_fold_l1 (y44, x35, x36, wr .i64 (x37 + 1))
  else none
  else none
  else
  some (x9, 0)
  partial_fixpoint

def M.post_fold_l0 : List (List Int) × List (List Int) × Int × Int → Option ((List Int) × Int) := fun ⟨x0, x15, x16, x17⟩ =>
  if x17 < x16 then
  if 0 ≤ x17 then
  if x17 < (x15.length : Int) then
  M.post_Check (gi x15 x17) >>= fun y11 =>
  if y11 = 0 then
  M.post_fold_l0 (x0, x15, x16, wr .i64 (x17 + 1))
  else
  some (([] : List Int), y11)
  else none
  else none
  else
  if (x0.length : Int) = 0 then
  some (([] : List Int), 0)
  else
  if 0 < (x0.length : Int) then
  M.slices_Clone_uint64_uint64 (gi x0 0) >>= fun y23 =>
  if 1 ≤ (x0.length : Int) then
  M.post_fold_l1 (y23, (sl x0 1 (x0.length : Int)), ((sl x0 1 (x0.length : Int)).length : Int), 0)
  else none
  else none
  partial_fixpoint

def M.post_fold (x0 : List (List Int)) : Option ((List Int) × Int) :=
  if (x0.length : Int) > 4096 then
  some (([] : List Int), 3)
  else
  M.post_fold_l0 (x0, x0, (x0.length : Int), 0)

/-! tidepole/post.And -/
def M.post_And (x0 : List (List Int)) : Option ((List Int) × Int) :=
  M.post_fold x0 >>= fun y1 =>
  some (y1.1, y1.2)

/-! tidepole/post.one -/
def M.post_one (x0 : Int) : Option Bool :=
  some (!(decide (x0 = 0)))

/-! tidepole/post.those[uint64] -/
def M.post_those_uint64__r_2 (kq7v0 : List Int) (kq12b0v0 : List Int) (kq12b1v0 : List Int) (a0 : Int) (a1 : Int) : Option ((List Int) × (List Int) × (List Int)) :=
  M.post_one a1 >>= fun y1 =>
  if y1 = true then
  if ((kq7v0 ++ [a0]).length : Int) ≤ 1099511627776 then
  some ((kq7v0 ++ [a0]), kq12b0v0, kq12b1v0)
  else none
  else
  some (kq7v0, kq12b0v0, kq12b1v0)

/-! tidepole/post.merge[uint64]$1 -/
mutual

def M.post_merge_uint64_1_2_l0 : List Int × List Int × List Int → Option ((List Int) × (List Int) × (List Int)) := fun ⟨x1v0, x2v0, eE2v0⟩ =>
  if (x1v0.length : Int) > 0 then
  M.post_merge_uint64_1_2_l1 (x1v0, x2v0, true, eE2v0)
  else
  M.post_merge_uint64_1_2_l1 (x1v0, x2v0, decide ((x2v0.length : Int) > 0), eE2v0)
  partial_fixpoint

def M.post_merge_uint64_1_2_l1 : List Int × List Int × Bool × List Int → Option ((List Int) × (List Int) × (List Int)) := fun ⟨x1v0, x2v0, x13, eE2v0⟩ =>
  if x13 = true then
  if (x2v0.length : Int) = 0 then
  M.post_merge_uint64_1_2_l2 (x1v0, x2v0, 0, true, eE2v0)
  else
  if (x1v0.length : Int) > 0 then
  if 0 < (x1v0.length : Int) then
  if 0 < (x2v0.length : Int) then
  M.post_merge_uint64_1_2_l2 (x1v0, x2v0, 0, decide (gi x1v0 0 ≤ gi x2v0 0), eE2v0)
  else none
  else none
  else
  M.post_merge_uint64_1_2_l2 (x1v0, x2v0, 0, false, eE2v0)
  else
  some (eE2v0, x1v0, x2v0)
  partial_fixpoint

def M.post_merge_uint64_1_2_l2 : List Int × List Int × Int × Bool × List Int → Option ((List Int) × (List Int) × (List Int)) := fun ⟨x1v0, x2v0, x4, x30, eE2v0⟩ =>
  if x30 = true then
  M.post_merge_uint64_1_2_l3 (x1v0, x2v0, ior .i64 x4 1, eE2v0)
  else
  M.post_merge_uint64_1_2_l3 (x1v0, x2v0, x4, eE2v0)
  partial_fixpoint

def M.post_merge_uint64_1_2_l3 : List Int × List Int × Int × List Int → Option ((List Int) × (List Int) × (List Int)) := fun ⟨x1v0, x2v0, x4, eE2v0⟩ =>
  if (x1v0.length : Int) = 0 then
  M.post_merge_uint64_1_2_l4 (x1v0, x2v0, x4, true, eE2v0)
  else
  if (x2v0.length : Int) > 0 then
  if 0 < (x2v0.length : Int) then
  if 0 < (x1v0.length : Int) then
  M.post_merge_uint64_1_2_l4 (x1v0, x2v0, x4, decide (gi x2v0 0 ≤ gi x1v0 0), eE2v0)
  else none
  else none
  else
  M.post_merge_uint64_1_2_l4 (x1v0, x2v0, x4, false, eE2v0)
  partial_fixpoint

def M.post_merge_uint64_1_2_l4 : List Int × List Int × Int × Bool × List Int → Option ((List Int) × (List Int) × (List Int)) := fun ⟨x1v0, x2v0, x4, x49, eE2v0⟩ =>
  if x49 = true then
  M.post_merge_uint64_1_2_l5 (x1v0, x2v0, ior .i64 x4 2, eE2v0)
  else
  M.post_merge_uint64_1_2_l5 (x1v0, x2v0, x4, eE2v0)
  partial_fixpoint

def M.post_merge_uint64_1_2_l5 : List Int × List Int × Int × List Int → Option ((List Int) × (List Int) × (List Int)) := fun ⟨x1v0, x2v0, x4, eE2v0⟩ =>
  if iand .i64 x4 2 = 0 then
  M.post_merge_uint64_1_2_l6 (x1v0, x2v0, x4, 0, eE2v0)
  else
  if 0 < (x2v0.length : Int) then
  if 1 ≤ (x2v0.length : Int) then
  M.post_merge_uint64_1_2_l6 (x1v0, (sl x2v0 1 (x2v0.length : Int)), x4, gi x2v0 0, eE2v0)
  else none
  else none
  partial_fixpoint

def M.post_merge_uint64_1_2_l6 : List Int × List Int × Int × Int × List Int → Option ((List Int) × (List Int) × (List Int)) := fun ⟨x1v0, x2v0, x4, x5, eE2v0⟩ =>
  if iand .i64 x4 1 = 0 then
  M.post_merge_uint64_1_2_l7 (x1v0, x2v0, x4, x5, eE2v0)
  else
  if 0 < (x1v0.length : Int) then
  if 1 ≤ (x1v0.length : Int) then
  M.post_merge_uint64_1_2_l7 ((sl x1v0 1 (x1v0.length : Int)), x2v0, x4, gi x1v0 0, eE2v0)
  else none
  else none
  partial_fixpoint

def M.post_merge_uint64_1_2_l7 : List Int × List Int × Int × Int × List Int → Option ((List Int) × (List Int) × (List Int)) := fun ⟨x1v0, x2v0, x4, x5, eE2v0⟩ =>
  M.post_those_uint64__r_2 eE2v0 x1v0 x2v0 x5 x4 >>= fun y37 =>
  M.post_merge_uint64_1_2_l0 (y37.2.1, y37.2.2, y37.1)
  partial_fixpoint

end

def M.post_merge_uint64_1_2 (x0q7v0 : List Int) (x0q12b0v0 : List Int) (x0q12b1v0 : List Int) : Option ((List Int) × (List Int) × (List Int)) :=
  M.post_merge_uint64_1_2_l0 (x0q12b0v0, x0q12b1v0, x0q7v0)

/-! tidepole/post.those[uint64] -/
def M.post_those_uint64_2 (x0 : List Int) (x1 : List Int) : Option (List Int) :=
  M.post_merge_uint64 x0 x1 >>= fun y5 =>
  M.post_merge_uint64_1_2 ([] : List Int) y5.1 y5.2 >>= fun y23 =>
  some y23.1

/-! tidepole/post.fold -/
def M.post_fold_2_l1 : List Int × List (List Int) × Int × Int → Option ((List Int) × Int) := fun ⟨x9, x35, x36, x37⟩ =>
  if x37 < x36 then
  if 0 ≤ x37 then
  if x37 < (x35.length : Int) then
  M.post_those_uint64_2 x9 (gi x35 x37) >>= fun y44 =>
  M.post_fold_2_l1 (y44, x35, x36, wr .i64 (x37 + 1))
  else none
  else none
  else
  some (x9, 0)
  partial_fixpoint

def M.post_fold_2_l0 : List (List Int) × List (List Int) × Int × Int → Option ((List Int) × Int) := fun ⟨x0, x15, x16, x17⟩ =>
  if x17 < x16 then
  if 0 ≤ x17 then
  if x17 < (x15.length : Int) then
  M.post_Check (gi x15 x17) >>= fun y11 =>
  if y11 = 0 then
  M.post_fold_2_l0 (x0, x15, x16, wr .i64 (x17 + 1))
  else
  some (([] : List Int), y11)
  else none
  else none
  else
  if (x0.length : Int) = 0 then
  some (([] : List Int), 0)
  else
  if 0 < (x0.length : Int) then
  M.slices_Clone_uint64_uint64 (gi x0 0) >>= fun y23 =>
  if 1 ≤ (x0.length : Int) then
  M.post_fold_2_l1 (y23, (sl x0 1 (x0.length : Int)), ((sl x0 1 (x0.length : Int)).length : Int), 0)
  else none
  else none
  partial_fixpoint

def M.post_fold_2 (x0 : List (List Int)) : Option ((List Int) × Int) :=
  if (x0.length : Int) > 4096 then
  some (([] : List Int), 3)
  else
  M.post_fold_2_l0 (x0, x0, (x0.length : Int), 0)

/-! tidepole/post.Or -/
def M.post_Or (x0 : List (List Int)) : Option ((List Int) × Int) :=
  M.post_fold_2 x0 >>= fun y1 =>
  some (y1.1, y1.2)

/-! tidepole/post.first -/
def M.post_first (x0 : Int) : Option Bool :=
  some (decide (x0 = 1))

/-! tidepole/post.those[uint64] -/
def M.post_those_uint64__r_3 (kq7v0 : List Int) (kq12b0v0 : List Int) (kq12b1v0 : List Int) (a0 : Int) (a1 : Int) : Option ((List Int) × (List Int) × (List Int)) :=
  M.post_first a1 >>= fun y1 =>
  if y1 = true then
  if ((kq7v0 ++ [a0]).length : Int) ≤ 1099511627776 then
  some ((kq7v0 ++ [a0]), kq12b0v0, kq12b1v0)
  else none
  else
  some (kq7v0, kq12b0v0, kq12b1v0)

/-! tidepole/post.merge[uint64]$1 -/
mutual

def M.post_merge_uint64_1_3_l0 : List Int × List Int × List Int → Option ((List Int) × (List Int) × (List Int)) := fun ⟨x1v0, x2v0, eE2v0⟩ =>
  if (x1v0.length : Int) > 0 then
  M.post_merge_uint64_1_3_l1 (x1v0, x2v0, true, eE2v0)
  else
  M.post_merge_uint64_1_3_l1 (x1v0, x2v0, decide ((x2v0.length : Int) > 0), eE2v0)
  partial_fixpoint

def M.post_merge_uint64_1_3_l1 : List Int × List Int × Bool × List Int → Option ((List Int) × (List Int) × (List Int)) := fun ⟨x1v0, x2v0, x13, eE2v0⟩ =>
  if x13 = true then
  if (x2v0.length : Int) = 0 then
  M.post_merge_uint64_1_3_l2 (x1v0, x2v0, 0, true, eE2v0)
  else
  if (x1v0.length : Int) > 0 then
  if 0 < (x1v0.length : Int) then
  if 0 < (x2v0.length : Int) then
  M.post_merge_uint64_1_3_l2 (x1v0, x2v0, 0, decide (gi x1v0 0 ≤ gi x2v0 0), eE2v0)
  else none
  else none
  else
  M.post_merge_uint64_1_3_l2 (x1v0, x2v0, 0, false, eE2v0)
  else
  some (eE2v0, x1v0, x2v0)
  partial_fixpoint

def M.post_merge_uint64_1_3_l2 : List Int × List Int × Int × Bool × List Int → Option ((List Int) × (List Int) × (List Int)) := fun ⟨x1v0, x2v0, x4, x30, eE2v0⟩ =>
  if x30 = true then
  M.post_merge_uint64_1_3_l3 (x1v0, x2v0, ior .i64 x4 1, eE2v0)
  else
  M.post_merge_uint64_1_3_l3 (x1v0, x2v0, x4, eE2v0)
  partial_fixpoint

def M.post_merge_uint64_1_3_l3 : List Int × List Int × Int × List Int → Option ((List Int) × (List Int) × (List Int)) := fun ⟨x1v0, x2v0, x4, eE2v0⟩ =>
  if (x1v0.length : Int) = 0 then
  M.post_merge_uint64_1_3_l4 (x1v0, x2v0, x4, true, eE2v0)
  else
  if (x2v0.length : Int) > 0 then
  if 0 < (x2v0.length : Int) then
  if 0 < (x1v0.length : Int) then
  M.post_merge_uint64_1_3_l4 (x1v0, x2v0, x4, decide (gi x2v0 0 ≤ gi x1v0 0), eE2v0)
  else none
  else none
  else
  M.post_merge_uint64_1_3_l4 (x1v0, x2v0, x4, false, eE2v0)
  partial_fixpoint

def M.post_merge_uint64_1_3_l4 : List Int × List Int × Int × Bool × List Int → Option ((List Int) × (List Int) × (List Int)) := fun ⟨x1v0, x2v0, x4, x49, eE2v0⟩ =>
  if x49 = true then
  M.post_merge_uint64_1_3_l5 (x1v0, x2v0, ior .i64 x4 2, eE2v0)
  else
  M.post_merge_uint64_1_3_l5 (x1v0, x2v0, x4, eE2v0)
  partial_fixpoint

def M.post_merge_uint64_1_3_l5 : List Int × List Int × Int × List Int → Option ((List Int) × (List Int) × (List Int)) := fun ⟨x1v0, x2v0, x4, eE2v0⟩ =>
  if iand .i64 x4 2 = 0 then
  M.post_merge_uint64_1_3_l6 (x1v0, x2v0, x4, 0, eE2v0)
  else
  if 0 < (x2v0.length : Int) then
  if 1 ≤ (x2v0.length : Int) then
  M.post_merge_uint64_1_3_l6 (x1v0, (sl x2v0 1 (x2v0.length : Int)), x4, gi x2v0 0, eE2v0)
  else none
  else none
  partial_fixpoint

def M.post_merge_uint64_1_3_l6 : List Int × List Int × Int × Int × List Int → Option ((List Int) × (List Int) × (List Int)) := fun ⟨x1v0, x2v0, x4, x5, eE2v0⟩ =>
  if iand .i64 x4 1 = 0 then
  M.post_merge_uint64_1_3_l7 (x1v0, x2v0, x4, x5, eE2v0)
  else
  if 0 < (x1v0.length : Int) then
  if 1 ≤ (x1v0.length : Int) then
  M.post_merge_uint64_1_3_l7 ((sl x1v0 1 (x1v0.length : Int)), x2v0, x4, gi x1v0 0, eE2v0)
  else none
  else none
  partial_fixpoint

def M.post_merge_uint64_1_3_l7 : List Int × List Int × Int × Int × List Int → Option ((List Int) × (List Int) × (List Int)) := fun ⟨x1v0, x2v0, x4, x5, eE2v0⟩ =>
  M.post_those_uint64__r_3 eE2v0 x1v0 x2v0 x5 x4 >>= fun y37 =>
  M.post_merge_uint64_1_3_l0 (y37.2.1, y37.2.2, y37.1)
  partial_fixpoint

end

def M.post_merge_uint64_1_3 (x0q7v0 : List Int) (x0q12b0v0 : List Int) (x0q12b1v0 : List Int) : Option ((List Int) × (List Int) × (List Int)) :=
  M.post_merge_uint64_1_3_l0 (x0q12b0v0, x0q12b1v0, x0q7v0)

/-! tidepole/post.those[uint64] -/
def M.post_those_uint64_3 (x0 : List Int) (x1 : List Int) : Option (List Int) :=
  M.post_merge_uint64 x0 x1 >>= fun y5 =>
  M.post_merge_uint64_1_3 ([] : List Int) y5.1 y5.2 >>= fun y23 =>
  some y23.1

/-! tidepole/post.fold -/
def M.post_fold_3_l1 : List Int × List (List Int) × Int × Int → Option ((List Int) × Int) := fun ⟨x9, x35, x36, x37⟩ =>
  if x37 < x36 then
  if 0 ≤ x37 then
  if x37 < (x35.length : Int) then
  M.post_those_uint64_3 x9 (gi x35 x37) >>= fun y44 =>
  M.post_fold_3_l1 (y44, x35, x36, wr .i64 (x37 + 1))
  else none
  else none
  else
  some (x9, 0)
  partial_fixpoint

def M.post_fold_3_l0 : List (List Int) × List (List Int) × Int × Int → Option ((List Int) × Int) := fun ⟨x0, x15, x16, x17⟩ =>
  if x17 < x16 then
  if 0 ≤ x17 then
  if x17 < (x15.length : Int) then
  M.post_Check (gi x15 x17) >>= fun y11 =>
  if y11 = 0 then
  M.post_fold_3_l0 (x0, x15, x16, wr .i64 (x17 + 1))
  else
  some (([] : List Int), y11)
  else none
  else none
  else
  if (x0.length : Int) = 0 then
  some (([] : List Int), 0)
  else
  if 0 < (x0.length : Int) then
  M.slices_Clone_uint64_uint64 (gi x0 0) >>= fun y23 =>
  if 1 ≤ (x0.length : Int) then
  M.post_fold_3_l1 (y23, (sl x0 1 (x0.length : Int)), ((sl x0 1 (x0.length : Int)).length : Int), 0)
  else none
  else none
  partial_fixpoint

def M.post_fold_3 (x0 : List (List Int)) : Option ((List Int) × Int) :=
  if (x0.length : Int) > 4096 then
  some (([] : List Int), 3)
  else
  M.post_fold_3_l0 (x0, x0, (x0.length : Int), 0)

/-! tidepole/post.But -/
def M.post_But (x0 : List Int) (x1 : List Int) : Option ((List Int) × Int) :=
  M.post_fold_3 [x0, x1] >>= fun y5 =>
  some (y5.1, y5.2)

/-! tidepole/tidepolelaw13.same -/
def M.tidepolelaw13_same_l0 : List Int × List Int × Int → Option Bool := fun ⟨x0, x1, x5⟩ =>
  if x5 < (x0.length : Int) then
  if 0 ≤ x5 then
  if x5 < (x1.length : Int) then
  if gi x0 x5 = gi x1 x5 then
  M.tidepolelaw13_same_l0 (x0, x1, wr .i64 (x5 + 1))
  else
  some false
  else none
  else none
  else
  some true
  partial_fixpoint

def M.tidepolelaw13_same (x0 : List Int) (x1 : List Int) : Option Bool :=
  if (x0.length : Int) = (x1.length : Int) then
  M.tidepolelaw13_same_l0 (x0, x1, 0)
  else
  some false

/-! tidepole/tidepolelaw13.works -/
def M.tidepolelaw13_works : Option Bool :=
  M.post_And [[1, 3, 5], [3, 4, 5]] >>= fun y13 =>
  M.post_Or [[1, 3, 5], [3, 4, 5]] >>= fun y25 =>
  M.post_But [1, 3, 5] [3, 4, 5] >>= fun y33 =>
  M.tidepolelaw13_same y13.1 [3, 5] >>= fun y46 =>
  if y46 = true then
  M.tidepolelaw13_same y25.1 [1, 3, 4, 5] >>= fun y54 =>
  if y54 = true then
  M.tidepolelaw13_same y33.1 [1] >>= fun y62 =>
  if y62 = true then
  if y13.2 = 0 then
  if y25.2 = 0 then
  some (decide (y33.2 = 0))
  else
  some false
  else
  some false
  else
  some false
  else
  some false
  else
  some false

/-! tidepole/tidepolelaw13.rising -/
mutual

def M.tidepolelaw13_rising_l0 : List Int × List Int × Int × Int → Option (List Int) := fun ⟨x0, x3, x4, x5⟩ =>
  if x5 < (x0.length : Int) then
  M.tidepolelaw13_rising_l1 (x0, x3, x4, x5, decide (x5 < 40))
  else
  M.tidepolelaw13_rising_l1 (x0, x3, x4, x5, false)
  partial_fixpoint

def M.tidepolelaw13_rising_l1 : List Int × List Int × Int × Int × Bool → Option (List Int) := fun ⟨x0, x3, x4, x5, x14⟩ =>
  if x14 = true then
  if 0 ≤ x5 then
  if x5 < (x0.length : Int) then
  if ((x3 ++ [wr .u64 (x4 + (wr .u64 (1 + (irem .u64 (gi x0 x5) 5))))]).length : Int) ≤ 1099511627776 then
  M.tidepolelaw13_rising_l0 (x0, (x3 ++ [wr .u64 (x4 + (wr .u64 (1 + (irem .u64 (gi x0 x5) 5))))]), wr .u64 (x4 + (wr .u64 (1 + (irem .u64 (gi x0 x5) 5)))), wr .i64 (x5 + 1))
  else none
  else none
  else none
  else
  some x3
  partial_fixpoint

end

def M.tidepolelaw13_rising (x0 : List Int) : Option (List Int) :=
  M.tidepolelaw13_rising_l0 (x0, ([] : List Int), 0, 0)

/-! tidepole/tidepolelaw13.and -/
def M.tidepolelaw13_and (x0 : List (List Int)) : Option (List Int) :=
  M.post_And x0 >>= fun y1 =>
  some y1.1

/-! tidepole/tidepolelaw13.or -/
def M.tidepolelaw13_or (x0 : List (List Int)) : Option (List Int) :=
  M.post_Or x0 >>= fun y1 =>
  some y1.1

/-! tidepole/tidepolelaw13.PostSets -/
def M.tidepolelaw13_PostSets (x0 : List Int) (x1 : List Int) (x2 : List Int) : Option Bool :=
  M.tidepolelaw13_works >>= fun y1 =>
  if y1 = true then
  M.tidepolelaw13_rising x0 >>= fun y4 =>
  M.tidepolelaw13_rising x1 >>= fun y12 =>
  M.tidepolelaw13_rising x2 >>= fun y20 =>
  M.post_But y4 y12 >>= fun y30 =>
  M.tidepolelaw13_and [y4, y12, y20] >>= fun y43 =>
  M.tidepolelaw13_and [y20, y4, y12] >>= fun y55 =>
  M.tidepolelaw13_same y43 y55 >>= fun y65 =>
  if y65 = true then
  M.tidepolelaw13_or [y4, y12, y20] >>= fun y72 =>
  M.tidepolelaw13_or [y20, y12, y4] >>= fun y84 =>
  M.tidepolelaw13_same y72 y84 >>= fun y94 =>
  if y94 = true then
  M.tidepolelaw13_or [y12, y20] >>= fun y101 =>
  M.tidepolelaw13_and [y4, y101] >>= fun y114 =>
  M.tidepolelaw13_and [y4, y12] >>= fun y126 =>
  M.tidepolelaw13_and [y4, y20] >>= fun y138 =>
  M.tidepolelaw13_or [y126, y138] >>= fun y152 =>
  M.tidepolelaw13_same y114 y152 >>= fun y162 =>
  if y162 = true then
  M.tidepolelaw13_and [y12, y20] >>= fun y169 =>
  M.tidepolelaw13_or [y4, y169] >>= fun y182 =>
  M.tidepolelaw13_or [y4, y12] >>= fun y194 =>
  M.tidepolelaw13_or [y4, y20] >>= fun y206 =>
  M.tidepolelaw13_and [y194, y206] >>= fun y220 =>
  M.tidepolelaw13_same y182 y220 >>= fun y230 =>
  if y230 = true then
  if y30.2 = 0 then
  M.tidepolelaw13_and [y4, y12] >>= fun y238 =>
  M.tidepolelaw13_or [y30.1, y238] >>= fun y252 =>
  M.tidepolelaw13_same y252 y4 >>= fun y261 =>
  if y261 = true then
  M.tidepolelaw13_and [y30.1, y12] >>= fun y268 =>
  some (decide ((y268.length : Int) = 0))
  else
  some false
  else
  some false
  else
  some false
  else
  some false
  else
  some false
  else
  some false
  else
  some false

/-! tidepole/tidepolelaw13.own -/
def M.tidepolelaw13_own (x0 : List Int) : Option (List Int) :=
  if 0 ≤ imn (x0.length : Int) 60 then
  if imn (x0.length : Int) 60 ≤ (x0.length : Int) then
  if ((sl x0 0 (imn (x0.length : Int) 60)).length : Int) ≤ 1099511627776 then
  some (sl x0 0 (imn (x0.length : Int) 60))
  else none
  else none
  else none

/-! tidepole/post.All -/
def M.post_All (x0 : List Int) : Option (List Int) :=
  some x0

/-! tidepole/tidepolebase.Among -/
def M.tidepolebase_Among (x0 : Int) (x1 : Int) : Option Int :=
  if x1 < 1 then
  some 0
  else
  if wr .u64 x1 ≠ 0 then
  some (wr .i64 (irem .u64 (wr .u64 x0) (wr .u64 x1)))
  else none

/-! tidepole/tidepolelaw13.PostGoes$1 -/
def M.tidepolelaw13_PostGoes_1 (x0 : Int) (x1v0 : List Int) (x2v0 : Int) : Option (Bool × (List Int) × Int) :=
  if ((x1v0 ++ [x0]).length : Int) ≤ 1099511627776 then
  some (decide (((x1v0 ++ [x0]).length : Int) ≤ x2v0), (x1v0 ++ [x0]), x2v0)
  else none

/-! tidepole/post.All$1 -/
def M.post_All_1_l0 : List Int × Int × List Int × Int × Int × List Int → Option ((List Int) × Int × (List Int)) := fun ⟨x0b0v0, x0b1v0, x5, x6, x7, eE2v0⟩ =>
  if x7 < x6 then
  if 0 ≤ x7 then
  if x7 < (x5.length : Int) then
  M.tidepolelaw13_PostGoes_1 (gi x5 x7) x0b0v0 x0b1v0 >>= fun y6 =>
  if y6.1 = true then
  M.post_All_1_l0 (y6.2.1, y6.2.2, x5, x6, wr .i64 (x7 + 1), eE2v0)
  else
  some (y6.2.1, y6.2.2, eE2v0)
  else none
  else none
  else
  some (x0b0v0, x0b1v0, eE2v0)
  partial_fixpoint

def M.post_All_1 (x0b0v0 : List Int) (x0b1v0 : Int) (x1v0 : List Int) : Option ((List Int) × Int × (List Int)) :=
  M.post_All_1_l0 (x0b0v0, x0b1v0, x1v0, (x1v0.length : Int), 0, x1v0)

/-! tidepole/tidepolelaw13.PostGoes$2 -/
def M.tidepolelaw13_PostGoes_2 (x0 : Int) (x1v0 : List Int) : Option (Bool × (List Int)) :=
  if ((x1v0 ++ [x0]).length : Int) ≤ 1099511627776 then
  some (true, (x1v0 ++ [x0]))
  else none

/-! tidepole/post.All$1 -/
def M.post_All_1_2_l0 : List Int × List Int × Int × Int × List Int → Option ((List Int) × (List Int)) := fun ⟨x0b0v0, x5, x6, x7, eE1v0⟩ =>
  if x7 < x6 then
  if 0 ≤ x7 then
  if x7 < (x5.length : Int) then
  M.tidepolelaw13_PostGoes_2 (gi x5 x7) x0b0v0 >>= fun y6 =>
  if y6.1 = true then
  M.post_All_1_2_l0 (y6.2, x5, x6, wr .i64 (x7 + 1), eE1v0)
  else
  some (y6.2, eE1v0)
  else none
  else none
  else
  some (x0b0v0, eE1v0)
  partial_fixpoint

def M.post_All_1_2 (x0b0v0 : List Int) (x1v0 : List Int) : Option ((List Int) × (List Int)) :=
  M.post_All_1_2_l0 (x0b0v0, x1v0, (x1v0.length : Int), 0, x1v0)

/-! tidepole/tidepolelaw13.PostGoes -/
def M.tidepolelaw13_PostGoes (x0 : List Int) (x1 : Int) : Option Bool :=
  M.tidepolelaw13_works >>= fun y3 =>
  if y3 = true then
  M.tidepolelaw13_own x0 >>= fun y6 =>
  M.tidepolelaw13_own y6 >>= fun y15 =>
  M.post_All y15 >>= fun y24 =>
  M.tidepolebase_Among x1 70 >>= fun y31 =>
  M.post_All_1 ([] : List Int) y31 y24 >>= fun y43 =>
  M.post_All_1_2 ([] : List Int) y43.2.2 >>= fun y54 =>
  if 0 ≤ imn (y6.length : Int) (wr .i64 (y43.2.1 + 1)) then
  if imn (y6.length : Int) (wr .i64 (y43.2.1 + 1)) ≤ (y6.length : Int) then
  M.tidepolelaw13_same y43.1 (sl y6 0 (imn (y6.length : Int) (wr .i64 (y43.2.1 + 1)))) >>= fun y71 =>
  if y71 = true then
  M.tidepolelaw13_same y54.1 y6 >>= fun y75 =>
  some y75
  else
  some false
  else none
  else none
  else
  some false

/-! tidepole/tidepoleref13.Check -/
def M.tidepoleref13_Check_l0 : List Int × Int → Option Int := fun ⟨x0, x3⟩ =>
  if x3 < (x0.length : Int) then
  if 0 ≤ wr .i64 (x3 - 1) then
  if wr .i64 (x3 - 1) < (x0.length : Int) then
  if 0 ≤ x3 then
  if gi x0 (wr .i64 (x3 - 1)) ≥ gi x0 x3 then
  some 2
  else
  M.tidepoleref13_Check_l0 (x0, wr .i64 (x3 + 1))
  else none
  else none
  else none
  else
  some 0
  partial_fixpoint

def M.tidepoleref13_Check (x0 : List Int) : Option Int :=
  M.tidepoleref13_Check_l0 (x0, 1)

/-! tidepole/tidepoleref13.all -/
def M.tidepoleref13_all_l0 : List (List Int) × Int → Option Int := fun ⟨x0, x3⟩ =>
  if x3 < (x0.length : Int) then
  if 0 ≤ x3 then
  M.tidepoleref13_Check (gi x0 x3) >>= fun y9 =>
  if y9 = 0 then
  M.tidepoleref13_all_l0 (x0, wr .i64 (x3 + 1))
  else
  some 2
  else none
  else
  some 0
  partial_fixpoint

def M.tidepoleref13_all (x0 : List (List Int)) : Option Int :=
  if (x0.length : Int) > 4096 then
  some 3
  else
  M.tidepoleref13_all_l0 (x0, 0)

/-! tidepole/tidepoleref13.in -/
def M.tidepoleref13_in_l0 : List Int × Int × Int → Option Bool := fun ⟨x0, x1, x5⟩ =>
  if x5 < (x0.length : Int) then
  if 0 ≤ x5 then
  if gi x0 x5 = x1 then
  some true
  else
  M.tidepoleref13_in_l0 (x0, x1, wr .i64 (x5 + 1))
  else none
  else
  some false
  partial_fixpoint

def M.tidepoleref13_in (x0 : List Int) (x1 : Int) : Option Bool :=
  M.tidepoleref13_in_l0 (x0, x1, 0)

/-! tidepole/tidepoleref13.And -/
mutual

def M.tidepoleref13_And_l0 : List (List Int) × List Int × Int → Option ((List Int) × Int) := fun ⟨x0, x5, x6⟩ =>
  if (x0.length : Int) > 0 then
  if 0 < (x0.length : Int) then
  M.tidepoleref13_And_l1 (x0, x5, x6, decide (x6 < ((gi x0 0).length : Int)))
  else none
  else
  M.tidepoleref13_And_l1 (x0, x5, x6, false)
  partial_fixpoint

def M.tidepoleref13_And_l1 : List (List Int) × List Int × Int × Bool → Option ((List Int) × Int) := fun ⟨x0, x5, x6, x25⟩ =>
  if x25 = true then
  M.tidepoleref13_And_l2 (x0, x5, x6, true, 1)
  else
  some (x5, 0)
  partial_fixpoint

def M.tidepoleref13_And_l2 : List (List Int) × List Int × Int × Bool × Int → Option ((List Int) × Int) := fun ⟨x0, x5, x6, x7, x8⟩ =>
  if x8 < (x0.length : Int) then
  if x7 = true then
  if 0 ≤ x8 then
  if 0 < (x0.length : Int) then
  if 0 ≤ x6 then
  if x6 < ((gi x0 0).length : Int) then
  M.tidepoleref13_in (gi x0 x8) (gi (gi x0 0) x6) >>= fun y34 =>
  M.tidepoleref13_And_l3 (x0, x5, x6, y34, x8)
  else none
  else none
  else none
  else none
  else
  M.tidepoleref13_And_l3 (x0, x5, x6, false, x8)
  else
  if x7 = true then
  if 0 < (x0.length : Int) then
  if 0 ≤ x6 then
  if x6 < ((gi x0 0).length : Int) then
  if ((x5 ++ [gi (gi x0 0) x6]).length : Int) ≤ 1099511627776 then
  M.tidepoleref13_And_l4 (x0, (x5 ++ [gi (gi x0 0) x6]), x6)
  else none
  else none
  else none
  else none
  else
  M.tidepoleref13_And_l4 (x0, x5, x6)
  partial_fixpoint

def M.tidepoleref13_And_l3 : List (List Int) × List Int × Int × Bool × Int → Option ((List Int) × Int) := fun ⟨x0, x5, x6, x7, x8⟩ =>
  M.tidepoleref13_And_l2 (x0, x5, x6, x7, wr .i64 (x8 + 1))
  partial_fixpoint

def M.tidepoleref13_And_l4 : List (List Int) × List Int × Int → Option ((List Int) × Int) := fun ⟨x0, x5, x6⟩ =>
  M.tidepoleref13_And_l0 (x0, x5, wr .i64 (x6 + 1))
  partial_fixpoint

end

def M.tidepoleref13_And (x0 : List (List Int)) : Option ((List Int) × Int) :=
  M.tidepoleref13_all x0 >>= fun y1 =>
  if y1 = 0 then
  M.tidepoleref13_And_l0 (x0, ([] : List Int), 0)
  else
  some (([] : List Int), y1)

/-! tidepole/tidepoleref13.Add -/
mutual

def M.tidepoleref13_Add_l0 : List Int × Int × List Int × Bool × Int → Option ((List Int) × Int) := fun ⟨x0, x1, x6, x7, x8⟩ =>
  if x8 < (x0.length : Int) then
  if x7 = true then
  M.tidepoleref13_Add_l1 (x0, x1, x6, true, x8, false)
  else
  if 0 ≤ x8 then
  M.tidepoleref13_Add_l1 (x0, x1, x6, false, x8, decide (gi x0 x8 ≥ x1))
  else none
  else
  if x7 = true then
  some (x6, 0)
  else
  if ((x6 ++ [x1]).length : Int) ≤ 1099511627776 then
  some ((x6 ++ [x1]), 0)
  else none
  partial_fixpoint

def M.tidepoleref13_Add_l1 : List Int × Int × List Int × Bool × Int × Bool → Option ((List Int) × Int) := fun ⟨x0, x1, x6, x7, x8, x28⟩ =>
  if x28 = true then
  if ((x6 ++ [x1]).length : Int) ≤ 1099511627776 then
  M.tidepoleref13_Add_l2 (x0, x1, (x6 ++ [x1]), true, x8)
  else none
  else
  M.tidepoleref13_Add_l2 (x0, x1, x6, x7, x8)
  partial_fixpoint

def M.tidepoleref13_Add_l2 : List Int × Int × List Int × Bool × Int → Option ((List Int) × Int) := fun ⟨x0, x1, x6, x7, x8⟩ =>
  if 0 ≤ x8 then
  if x8 < (x0.length : Int) then
  if gi x0 x8 = x1 then
  M.tidepoleref13_Add_l3 (x0, x1, x6, x7, x8)
  else
  if ((x6 ++ [gi x0 x8]).length : Int) ≤ 1099511627776 then
  M.tidepoleref13_Add_l3 (x0, x1, (x6 ++ [gi x0 x8]), x7, x8)
  else none
  else none
  else none
  partial_fixpoint

def M.tidepoleref13_Add_l3 : List Int × Int × List Int × Bool × Int → Option ((List Int) × Int) := fun ⟨x0, x1, x6, x7, x8⟩ =>
  M.tidepoleref13_Add_l0 (x0, x1, x6, x7, wr .i64 (x8 + 1))
  partial_fixpoint

end

def M.tidepoleref13_Add (x0 : List Int) (x1 : Int) : Option ((List Int) × Int) :=
  M.tidepoleref13_Check x0 >>= fun y1 =>
  if y1 = 0 then
  M.tidepoleref13_Add_l0 (x0, x1, ([] : List Int), false, 0)
  else
  some (([] : List Int), 2)

/-! tidepole/tidepoleref13.Or -/
mutual

def M.tidepoleref13_Or_l0 : List (List Int) × List Int × Int → Option ((List Int) × Int) := fun ⟨x0, x5, x6⟩ =>
  if x6 < (x0.length : Int) then
  M.tidepoleref13_Or_l1 (x0, x5, x6, 0)
  else
  some (x5, 0)
  partial_fixpoint

def M.tidepoleref13_Or_l1 : List (List Int) × List Int × Int × Int → Option ((List Int) × Int) := fun ⟨x0, x5, x6, x7⟩ =>
  if 0 ≤ x6 then
  if x6 < (x0.length : Int) then
  if x7 < ((gi x0 x6).length : Int) then
  if 0 ≤ x7 then
  M.tidepoleref13_Add x5 (gi (gi x0 x6) x7) >>= fun y26 =>
  M.tidepoleref13_Or_l1 (x0, y26.1, x6, wr .i64 (x7 + 1))
  else none
  else
  M.tidepoleref13_Or_l0 (x0, x5, wr .i64 (x6 + 1))
  else none
  else none
  partial_fixpoint

end

def M.tidepoleref13_Or (x0 : List (List Int)) : Option ((List Int) × Int) :=
  M.tidepoleref13_all x0 >>= fun y1 =>
  if y1 = 0 then
  M.tidepoleref13_Or_l0 (x0, ([] : List Int), 0)
  else
  some (([] : List Int), y1)

/-! tidepole/tidepoleref13.But -/
mutual

def M.tidepoleref13_But_l1 : List Int × List Int × List Int × Int → Option ((List Int) × Int) := fun ⟨x0, x1, x6, x7⟩ =>
  if x7 < (x0.length : Int) then
  if 0 ≤ x7 then
  M.tidepoleref13_in x1 (gi x0 x7) >>= fun y15 =>
  if y15 = true then
  M.tidepoleref13_But_l2 (x0, x1, x6, x7)
  else
  if ((x6 ++ [gi x0 x7]).length : Int) ≤ 1099511627776 then
  M.tidepoleref13_But_l2 (x0, x1, (x6 ++ [gi x0 x7]), x7)
  else none
  else none
  else
  some (x6, 0)
  partial_fixpoint

def M.tidepoleref13_But_l2 : List Int × List Int × List Int × Int → Option ((List Int) × Int) := fun ⟨x0, x1, x6, x7⟩ =>
  M.tidepoleref13_But_l1 (x0, x1, x6, wr .i64 (x7 + 1))
  partial_fixpoint

end

def M.tidepoleref13_But_l0 : List Int × List Int × Bool → Option ((List Int) × Int) := fun ⟨x0, x1, x15⟩ =>
  if x15 = true then
  some (([] : List Int), 2)
  else
  M.tidepoleref13_But_l1 (x0, x1, ([] : List Int), 0)

def M.tidepoleref13_But (x0 : List Int) (x1 : List Int) : Option ((List Int) × Int) :=
  M.tidepoleref13_Check x0 >>= fun y1 =>
  if y1 = 0 then
  M.tidepoleref13_Check x1 >>= fun y4 =>
  M.tidepoleref13_But_l0 (x0, x1, !(decide (y4 = 0)))
  else
  M.tidepoleref13_But_l0 (x0, x1, true)

/-! tidepole/post.Add -/
def M.post_Add (x0 : List Int) (x1 : Int) : Option ((List Int) × Int) :=
  M.post_Or [x0, [x1]] >>= fun y9 =>
  some (y9.1, y9.2)

/-! tidepole/post.Drop -/
def M.post_Drop (x0 : List Int) (x1 : Int) : Option ((List Int) × Int) :=
  M.post_But x0 [x1] >>= fun y5 =>
  some (y5.1, y5.2)

/-! tidepole/tidepoleref13.Drop -/
def M.tidepoleref13_Drop (x0 : List Int) (x1 : Int) : Option ((List Int) × Int) :=
  M.tidepoleref13_But x0 [x1] >>= fun y5 =>
  some (y5.1, y5.2)

/-! cmp.isNaN[uint64] -/
def M.cmp_isNaN_uint64 (x0 : Int) : Option Bool :=
  some (!(decide (x0 = x0)))

/-! cmp.Less[uint64] -/
def M.cmp_Less_uint64 (x0 : Int) (x1 : Int) : Option Bool :=
  M.cmp_isNaN_uint64 x0 >>= fun y1 =>
  if y1 = true then
  M.cmp_isNaN_uint64 x1 >>= fun y4 =>
  if y4 = true then
  some (decide (x0 < x1))
  else
  some true
  else
  some (decide (x0 < x1))

/-! slices.isNaN[uint64] -/
def M.slices_isNaN_uint64 (x0 : Int) : Option Bool :=
  some (!(decide (x0 = x0)))

/-! slices.BinarySearch[[]uint64,uint64] -/
mutual

def M.slices_BinarySearch_uint64_uint64_l0 : List Int × Int × Int × Int × Int → Option (Int × Bool) := fun ⟨x0, x1, x6, x7, x8⟩ =>
  if x7 < x8 then
  if 0 ≤ wr .i64 (ishr .u64 (wr .u64 (wr .i64 (x7 + x8))) 1) then
  if wr .i64 (ishr .u64 (wr .u64 (wr .i64 (x7 + x8))) 1) < (x0.length : Int) then
  M.cmp_Less_uint64 (gi x0 (wr .i64 (ishr .u64 (wr .u64 (wr .i64 (x7 + x8))) 1))) x1 >>= fun y6 =>
  if y6 = true then
  M.slices_BinarySearch_uint64_uint64_l1 (x0, x1, x6, wr .i64 ((wr .i64 (ishr .u64 (wr .u64 (wr .i64 (x7 + x8))) 1)) + 1), x8)
  else
  M.slices_BinarySearch_uint64_uint64_l1 (x0, x1, x6, x7, wr .i64 (ishr .u64 (wr .u64 (wr .i64 (x7 + x8))) 1))
  else none
  else none
  else
  if x7 < x6 then
  if 0 ≤ x7 then
  if x7 < (x0.length : Int) then
  if gi x0 x7 = x1 then
  some (x7, true)
  else
  M.slices_isNaN_uint64 (gi x0 x7) >>= fun y17 =>
  if y17 = true then
  M.slices_isNaN_uint64 x1 >>= fun y20 =>
  some (x7, y20)
  else
  some (x7, false)
  else none
  else none
  else
  some (x7, false)
  partial_fixpoint

def M.slices_BinarySearch_uint64_uint64_l1 : List Int × Int × Int × Int × Int → Option (Int × Bool) := fun ⟨x0, x1, x6, x7, x8⟩ =>
  M.slices_BinarySearch_uint64_uint64_l0 (x0, x1, x6, x7, x8)
  partial_fixpoint

end

def M.slices_BinarySearch_uint64_uint64 (x0 : List Int) (x1 : Int) : Option (Int × Bool) :=
  M.slices_BinarySearch_uint64_uint64_l0 (x0, x1, (x0.length : Int), 0, (x0.length : Int))

/-! tidepole/post.Has -/
def M.post_Has (x0 : List Int) (x1 : Int) : Option (Bool × Int) :=
  M.post_Check x0 >>= fun y1 =>
  if y1 = 0 then
  M.slices_BinarySearch_uint64_uint64 x0 x1 >>= fun y4 =>
  some (y4.2, 0)
  else
  some (false, y1)

/-! tidepole/tidepoleref13.Has -/
def M.tidepoleref13_Has (x0 : List Int) (x1 : Int) : Option (Bool × Int) :=
  M.tidepoleref13_Check x0 >>= fun y1 =>
  if y1 = 0 then
  M.tidepoleref13_in x0 x1 >>= fun y4 =>
  some (y4, 0)
  else
  some (false, 2)

/-! tidepole/tidepolelaw13.PostLists -/
def M.tidepolelaw13_PostLists_l0 : Bool → Option Bool := fun x8 =>
  some x8

def M.tidepolelaw13_PostLists_l4 : List Int × Int × Bool → Option Bool := fun ⟨x1, x3, x166⟩ =>
  if x166 = true then
  some false
  else
  M.tidepolelaw13_own x1 >>= fun y199 =>
  M.post_Drop y199 x3 >>= fun y208 =>
  M.tidepoleref13_Drop x1 x3 >>= fun y216 =>
  M.tidepolelaw13_own x1 >>= fun y224 =>
  M.post_Has y224 x3 >>= fun y233 =>
  M.tidepoleref13_Has x1 x3 >>= fun y235 =>
  M.tidepolelaw13_same y208.1 y216.1 >>= fun y239 =>
  if y239 = true then
  if y208.2 = y216.2 then
  if (y233.1 == y235.1) = true then
  if y233.2 = y235.2 then
  M.tidepolelaw13_works >>= fun y245 =>
  some y245
  else
  some false
  else
  some false
  else
  some false
  else
  some false

def M.tidepolelaw13_PostLists_l3 : List Int × List Int × Int × Bool → Option Bool := fun ⟨x1, x2, x3, x119⟩ =>
  if x119 = true then
  some false
  else
  M.tidepolelaw13_own x1 >>= fun y126 =>
  M.tidepolelaw13_own x2 >>= fun y135 =>
  M.post_But y126 y135 >>= fun y145 =>
  M.tidepoleref13_But x1 x2 >>= fun y153 =>
  M.tidepolelaw13_own x1 >>= fun y161 =>
  M.post_Add y161 x3 >>= fun y170 =>
  M.tidepoleref13_Add x1 x3 >>= fun y178 =>
  M.tidepolelaw13_same y145.1 y153.1 >>= fun y188 =>
  if y188 = true then
  if y145.2 = y153.2 then
  M.tidepolelaw13_same y170.1 y178.1 >>= fun y194 =>
  if y194 = true then
  M.tidepolelaw13_PostLists_l4 (x1, x3, !(decide (y170.2 = y178.2)))
  else
  M.tidepolelaw13_PostLists_l4 (x1, x3, true)
  else
  M.tidepolelaw13_PostLists_l4 (x1, x3, true)
  else
  M.tidepolelaw13_PostLists_l4 (x1, x3, true)

mutual

def M.tidepolelaw13_PostLists_l1 : List (List Int) × List Int × List Int × Int × List (List Int) × Int → Option Bool := fun ⟨x0, x1, x2, x3, x13, x14⟩ =>
  if x14 < (x0.length : Int) then
  M.tidepolelaw13_PostLists_l2 (x0, x1, x2, x3, x13, x14, decide (x14 < 6))
  else
  M.tidepolelaw13_PostLists_l2 (x0, x1, x2, x3, x13, x14, false)
  partial_fixpoint

def M.tidepolelaw13_PostLists_l2 : List (List Int) × List Int × List Int × Int × List (List Int) × Int × Bool → Option Bool := fun ⟨x0, x1, x2, x3, x13, x14, x58⟩ =>
  if x58 = true then
  if 0 ≤ x14 then
  if x14 < (x0.length : Int) then
  M.tidepolelaw13_own (gi x0 x14) >>= fun y38 =>
  if ((x13 ++ [y38]).length : Int) ≤ 1099511627776 then
  M.tidepolelaw13_PostLists_l1 (x0, x1, x2, x3, (x13 ++ [y38]), wr .i64 (x14 + 1))
  else none
  else none
  else none
  else
  M.tidepolelaw13_own x1 >>= fun y58 =>
  M.tidepolelaw13_own x2 >>= fun y66 =>
  M.post_And x13 >>= fun y75 =>
  M.tidepoleref13_And x13 >>= fun y83 =>
  M.post_Or x13 >>= fun y91 =>
  M.tidepoleref13_Or x13 >>= fun y99 =>
  M.tidepolelaw13_same y75.1 y83.1 >>= fun y109 =>
  if y109 = true then
  if y75.2 = y83.2 then
  M.tidepolelaw13_same y91.1 y99.1 >>= fun y115 =>
  if y115 = true then
  if y91.2 = y99.2 then
  M.post_Check y58 >>= fun y120 =>
  M.tidepoleref13_Check y58 >>= fun y122 =>
  M.tidepolelaw13_PostLists_l3 (y58, y66, x3, !(decide (y120 = y122)))
  else
  M.tidepolelaw13_PostLists_l3 (y58, y66, x3, true)
  else
  M.tidepolelaw13_PostLists_l3 (y58, y66, x3, true)
  else
  M.tidepolelaw13_PostLists_l3 (y58, y66, x3, true)
  else
  M.tidepolelaw13_PostLists_l3 (y58, y66, x3, true)
  partial_fixpoint

end

def M.tidepolelaw13_PostLists (x0 : List (List Int)) (x1 : List Int) (x2 : List Int) (x3 : Int) : Option Bool :=
  if (x0.length : Int) > 4096 then
  if 4097 ≤ (x0.length : Int) then
  M.post_And (sl x0 0 4097) >>= fun y6 =>
  M.post_Or (sl x0 0 4097) >>= fun y14 =>
  if y6.2 = 3 then
  if y14.2 = y6.2 then
  M.tidepolelaw13_works >>= fun y24 =>
  M.tidepolelaw13_PostLists_l0 y24
  else
  M.tidepolelaw13_PostLists_l0 false
  else
  M.tidepolelaw13_PostLists_l0 false
  else none
  else
  M.tidepolelaw13_PostLists_l1 (x0, x1, x2, x3, ([] : List (List Int)), 0)

end Go.Gx
