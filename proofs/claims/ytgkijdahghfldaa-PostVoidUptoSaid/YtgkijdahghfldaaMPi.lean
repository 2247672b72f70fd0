import Derived.Test.YtgkijdahghfldaaGW

set_option linter.unusedVariables false

namespace Go.Gx

structure T53 where
  Do : Int
  Key : ByteArray
  N : Int
  deriving Inhabited

structure T66 where
  at_ : Option Nat
  deriving Inhabited

structure T68 where
  l : T66
  deriving Inhabited

structure T58 where
  Key : ByteArray
  L : List Int
  deriving Inhabited

structure T51 where
  L : List T58
  deriving Inhabited

/-! tidepole/post.New -/
def M.post_New (pl65 : List (List (ByteArray × (List Int)))) : Option (Nat × (List (List (ByteArray × (List Int))))) :=
  some (pl65.length, (pl65 ++ [[]]))

/-! tidepole/tidepolebase.Among -/
def M.tidepolebase_Among (x0 : Int) (x1 : Int) : Option Int :=
  if x1 < 1 then
  some 0
  else
  if wr .u64 x1 ≠ 0 then
  some (wr .i64 (irem .u64 (wr .u64 x0) (wr .u64 x1)))
  else none

/-! (*tidepole/post.Index).is -/
def M.post_Index_is (x0v_0_0 : Nat) : Option Unit :=
  some ()

/-! tidepole/post.rises[uint64] -/
def M.post_rises_uint64_l0 : (List Int) × Int → Option Bool := fun ⟨x0, x3⟩ =>
  if x3 < (x0.length : Int) then
  if 0 ≤ wr .i64 (x3 - 1) then
  if wr .i64 (x3 - 1) < (x0.length : Int) then
  if 0 ≤ x3 then
  if gi x0 (wr .i64 (x3 - 1)) ≥ gi x0 x3 then
  some false
  else
  M.post_rises_uint64_l0 (x0, wr .i64 (x3 + 1))
  else none
  else none
  else none
  else
  some true
  partial_fixpoint

/-! tidepole/post.rises[uint64] -/
def M.post_rises_uint64 (x0 : List Int) : Option Bool :=
  M.post_rises_uint64_l0 (x0, 1)

/-! tidepole/post.Check -/
def M.post_Check (x0 : List Int) : Option Int :=
  M.post_rises_uint64 x0 >>= fun y1 =>
  if y1 = true then
  some 0
  else
  some 2

/-! slices.Clone[[]uint64,uint64] -/
def M.slices_Clone_uint64_uint64 (x0 : List Int) : Option (List Int) :=
  if (x0.length : Int) ≤ 1099511627776 then
  some x0
  else none

/-! tidepole/post.merge[uint64] -/
def M.post_merge_uint64 (x0 : List Int) (x1 : List Int) : Option ((List Int) × (List Int)) :=
  some (x0, x1)

/-! tidepole/post.one -/
def M.post_one (x0 : Int) : Option Bool :=
  some (!(decide (x0 = 0)))

/-! tidepole/post.those[uint64] -/
def M.post_those_uint64__r (kq7v_0 : List Int) (kq12b0v_0 : List Int) (kq12b1v_0 : List Int) (a0 : Int) (a1 : Int) : Option (List Int) :=
  M.post_one a1 >>= fun y7 =>
  if y7 = true then
  if ((kq7v_0 ++ [a0]).length : Int) ≤ 1099511627776 then
  some (kq7v_0 ++ [a0])
  else none
  else
  some kq7v_0

/-! tidepole/post.merge[uint64]$1 -/
mutual

def M.post_merge_uint64_1_l0 : (List Int) × (List Int) × (List Int) → Option ((List Int) × (List Int) × (List Int)) := fun ⟨e2v_0, e3v_0, e4v_0⟩ =>
  if (e3v_0.length : Int) > 0 then
  M.post_merge_uint64_1_l1 (true, e2v_0, e3v_0, e4v_0)
  else
  M.post_merge_uint64_1_l1 (decide ((e4v_0.length : Int) > 0), e2v_0, e3v_0, e4v_0)
  partial_fixpoint

def M.post_merge_uint64_1_l1 : Bool × (List Int) × (List Int) × (List Int) → Option ((List Int) × (List Int) × (List Int)) := fun ⟨x13, e2v_0, e3v_0, e4v_0⟩ =>
  if x13 = true then
  if (e4v_0.length : Int) = 0 then
  M.post_merge_uint64_1_l2 (0, true, e2v_0, e3v_0, e4v_0)
  else
  if (e3v_0.length : Int) > 0 then
  if 0 < (e3v_0.length : Int) then
  if 0 < (e4v_0.length : Int) then
  M.post_merge_uint64_1_l2 (0, decide (gi e3v_0 0 ≤ gi e4v_0 0), e2v_0, e3v_0, e4v_0)
  else none
  else none
  else
  M.post_merge_uint64_1_l2 (0, false, e2v_0, e3v_0, e4v_0)
  else
  some (e2v_0, e3v_0, e4v_0)
  partial_fixpoint

def M.post_merge_uint64_1_l2 : Int × Bool × (List Int) × (List Int) × (List Int) → Option ((List Int) × (List Int) × (List Int)) := fun ⟨x4, x30, e2v_0, e3v_0, e4v_0⟩ =>
  if x30 = true then
  M.post_merge_uint64_1_l3 (ior .i64 x4 1, e2v_0, e3v_0, e4v_0)
  else
  M.post_merge_uint64_1_l3 (x4, e2v_0, e3v_0, e4v_0)
  partial_fixpoint

def M.post_merge_uint64_1_l3 : Int × (List Int) × (List Int) × (List Int) → Option ((List Int) × (List Int) × (List Int)) := fun ⟨x4, e2v_0, e3v_0, e4v_0⟩ =>
  if (e3v_0.length : Int) = 0 then
  M.post_merge_uint64_1_l4 (x4, true, e2v_0, e3v_0, e4v_0)
  else
  if (e4v_0.length : Int) > 0 then
  if 0 < (e4v_0.length : Int) then
  if 0 < (e3v_0.length : Int) then
  M.post_merge_uint64_1_l4 (x4, decide (gi e4v_0 0 ≤ gi e3v_0 0), e2v_0, e3v_0, e4v_0)
  else none
  else none
  else
  M.post_merge_uint64_1_l4 (x4, false, e2v_0, e3v_0, e4v_0)
  partial_fixpoint

def M.post_merge_uint64_1_l4 : Int × Bool × (List Int) × (List Int) × (List Int) → Option ((List Int) × (List Int) × (List Int)) := fun ⟨x4, x49, e2v_0, e3v_0, e4v_0⟩ =>
  if x49 = true then
  M.post_merge_uint64_1_l5 (ior .i64 x4 2, e2v_0, e3v_0, e4v_0)
  else
  M.post_merge_uint64_1_l5 (x4, e2v_0, e3v_0, e4v_0)
  partial_fixpoint

def M.post_merge_uint64_1_l5 : Int × (List Int) × (List Int) × (List Int) → Option ((List Int) × (List Int) × (List Int)) := fun ⟨x4, e2v_0, e3v_0, e4v_0⟩ =>
  if iand .i64 x4 2 = 0 then
  M.post_merge_uint64_1_l6 (x4, 0, e2v_0, e3v_0, e4v_0)
  else
  if 0 < (e4v_0.length : Int) then
  if 1 ≤ (e4v_0.length : Int) then
  M.post_merge_uint64_1_l6 (x4, gi e4v_0 0, e2v_0, e3v_0, (sl e4v_0 1 (e4v_0.length : Int)))
  else none
  else none
  partial_fixpoint

def M.post_merge_uint64_1_l6 : Int × Int × (List Int) × (List Int) × (List Int) → Option ((List Int) × (List Int) × (List Int)) := fun ⟨x4, x5, e2v_0, e3v_0, e4v_0⟩ =>
  if iand .i64 x4 1 = 0 then
  M.post_merge_uint64_1_l7 (x4, x5, e2v_0, e3v_0, e4v_0)
  else
  if 0 < (e3v_0.length : Int) then
  if 1 ≤ (e3v_0.length : Int) then
  M.post_merge_uint64_1_l7 (x4, gi e3v_0 0, e2v_0, (sl e3v_0 1 (e3v_0.length : Int)), e4v_0)
  else none
  else none
  partial_fixpoint

def M.post_merge_uint64_1_l7 : Int × Int × (List Int) × (List Int) × (List Int) → Option ((List Int) × (List Int) × (List Int)) := fun ⟨x4, x5, e2v_0, e3v_0, e4v_0⟩ =>
  M.post_those_uint64__r e2v_0 e3v_0 e4v_0 x5 x4 >>= fun y57 =>
  M.post_merge_uint64_1_l0 (y57, e3v_0, e4v_0)
  partial_fixpoint

end

/-! tidepole/post.merge[uint64]$1 -/
def M.post_merge_uint64_1 (x0q7v_0 : List Int) (x0q12b0v_0 : List Int) (x0q12b1v_0 : List Int) : Option ((List Int) × (List Int) × (List Int)) :=
  M.post_merge_uint64_1_l0 (x0q7v_0, x0q12b0v_0, x0q12b1v_0)

/-! tidepole/post.those[uint64] -/
def M.post_those_uint64 (x0 : List Int) (x1 : List Int) : Option (List Int) :=
  M.post_merge_uint64 x0 x1 >>= fun y5 =>
  M.post_merge_uint64_1 ([] : List Int) y5.1 y5.2 >>= fun y15 =>
  some y15.1

/-! tidepole/post.fold -/
def M.post_fold_l1 : (List Int) × (List (List Int)) × Int × Int → Option ((List Int) × Int) := fun ⟨x9, x35, x36, x37⟩ =>
  if x37 < x36 then
  if 0 ≤ x37 then
  if x37 < (x35.length : Int) then
  M.post_those_uint64 x9 (gi x35 x37) >>= fun y43 =>
  M.post_fold_l1 (y43, x35, x36, wr .i64 (x37 + 1))
  else none
  else none
  else
  some (x9, 0)
  partial_fixpoint

/-! tidepole/post.fold -/
def M.post_fold_l0 : (List (List Int)) × (List (List Int)) × Int × Int → Option ((List Int) × Int) := fun ⟨x0, x15, x16, x17⟩ =>
  if x17 < x16 then
  if 0 ≤ x17 then
  if x17 < (x15.length : Int) then
  M.post_Check (gi x15 x17) >>= fun y12 =>
  if y12 = 0 then
  M.post_fold_l0 (x0, x15, x16, wr .i64 (x17 + 1))
  else
  some (([] : List Int), y12)
  else none
  else none
  else
  if (x0.length : Int) = 0 then
  some (([] : List Int), 0)
  else
  if 0 < (x0.length : Int) then
  M.slices_Clone_uint64_uint64 (gi x0 0) >>= fun y25 =>
  if 1 ≤ (x0.length : Int) then
  M.post_fold_l1 (y25, (sl x0 1 (x0.length : Int)), ((sl x0 1 (x0.length : Int)).length : Int), 0)
  else none
  else none
  partial_fixpoint

/-! tidepole/post.fold -/
def M.post_fold (x0 : List (List Int)) : Option ((List Int) × Int) :=
  if (x0.length : Int) > 4096 then
  some (([] : List Int), 3)
  else
  M.post_fold_l0 (x0, x0, (x0.length : Int), 0)

/-! tidepole/post.Or -/
def M.post_Or (x0 : List (List Int)) : Option ((List Int) × Int) :=
  M.post_fold x0 >>= fun y1 =>
  some (y1.1, y1.2)

/-! tidepole/post.Add -/
def M.post_Add (x0 : List Int) (x1 : Int) : Option ((List Int) × Int) :=
  M.post_Or [x0, [x1]] >>= fun y9 =>
  some (y9.1, y9.2)

/-! (*tidepole/post.lists[string, uint64]).set -/
def M.post_lists_string_uint64_set (x0v_0_0 : Nat) (x1 : ByteArray) (x2 : List Int) (pl65 : List (List (ByteArray × (List Int)))) : Option (List (List (ByteArray × (List Int)))) :=
  if (x2.length : Int) = 0 then
  some (sn pl65 x0v_0_0 (mdel (gn pl65 x0v_0_0) x1)) >>= fun v3 =>
  some v3
  else
  some (sn pl65 x0v_0_0 (mset (gn pl65 x0v_0_0) x1 x2)) >>= fun v8 =>
  some v8

/-! (*tidepole/post.Index).Put -/
def M.post_Index_Put (x0v_0_0 : Nat) (x1 : ByteArray) (x2 : Int) (pl65 : List (List (ByteArray × (List Int)))) : Option (Int × (List (List (ByteArray × (List Int))))) :=
  M.post_Index_is x0v_0_0 >>= fun y2 =>
  some ((mget (gn pl65 x0v_0_0) x1).getD ([] : List Int)) >>= fun v4 =>
  M.post_Add v4 x2 >>= fun y11 =>
  M.post_lists_string_uint64_set x0v_0_0 x1 y11.1 pl65 >>= fun y15 =>
  some (y11.2, y15)

/-! (*tidepole/tidepoleref13.Index).List -/
def M.tidepoleref13_Index_List_l0 : ByteArray × Int × (List T58) → Option (List Int) := fun ⟨x1, x5, x0v_0⟩ =>
  if x5 < (x0v_0.length : Int) then
  if 0 ≤ x5 then
  if (((gi x0v_0 x5).Key).toList == x1.toList) = true then
  if (((gi x0v_0 x5).L).length : Int) ≤ 1099511627776 then
  some ((gi x0v_0 x5).L)
  else none
  else
  M.tidepoleref13_Index_List_l0 (x1, wr .i64 (x5 + 1), x0v_0)
  else none
  else
  some ([] : List Int)
  partial_fixpoint

/-! (*tidepole/tidepoleref13.Index).List -/
def M.tidepoleref13_Index_List (x0v_0 : List T58) (x1 : ByteArray) : Option (List Int) :=
  M.tidepoleref13_Index_List_l0 (x1, 0, x0v_0)

/-! tidepole/tidepoleref13.Check -/
def M.tidepoleref13_Check_l0 : (List Int) × Int → Option Int := fun ⟨x0, x3⟩ =>
  if x3 < (x0.length : Int) then
  if 0 ≤ wr .i64 (x3 - 1) then
  if wr .i64 (x3 - 1) < (x0.length : Int) then
  if 0 ≤ x3 then
  if gi x0 (wr .i64 (x3 - 1)) ≥ gi x0 x3 then
  some 2
  else
  M.tidepoleref13_Check_l0 (x0, wr .i64 (x3 + 1))
  else none
  else none
  else none
  else
  some 0
  partial_fixpoint

/-! tidepole/tidepoleref13.Check -/
def M.tidepoleref13_Check (x0 : List Int) : Option Int :=
  M.tidepoleref13_Check_l0 (x0, 1)

/-! tidepole/tidepoleref13.Add -/
mutual

def M.tidepoleref13_Add_l0 : (List Int) × Int × (List Int) × Bool × Int → Option ((List Int) × Int) := fun ⟨x0, x1, x6, x7, x8⟩ =>
  if x8 < (x0.length : Int) then
  if x7 = true then
  M.tidepoleref13_Add_l1 (x0, x1, x6, true, x8, false)
  else
  if 0 ≤ x8 then
  M.tidepoleref13_Add_l1 (x0, x1, x6, false, x8, decide (gi x0 x8 ≥ x1))
  else none
  else
  if x7 = true then
  some (x6, 0)
  else
  if ((x6 ++ [x1]).length : Int) ≤ 1099511627776 then
  some ((x6 ++ [x1]), 0)
  else none
  partial_fixpoint

def M.tidepoleref13_Add_l1 : (List Int) × Int × (List Int) × Bool × Int × Bool → Option ((List Int) × Int) := fun ⟨x0, x1, x6, x7, x8, x28⟩ =>
  if x28 = true then
  if ((x6 ++ [x1]).length : Int) ≤ 1099511627776 then
  M.tidepoleref13_Add_l2 (x0, x1, (x6 ++ [x1]), true, x8)
  else none
  else
  M.tidepoleref13_Add_l2 (x0, x1, x6, x7, x8)
  partial_fixpoint

def M.tidepoleref13_Add_l2 : (List Int) × Int × (List Int) × Bool × Int → Option ((List Int) × Int) := fun ⟨x0, x1, x6, x7, x8⟩ =>
  if 0 ≤ x8 then
  if x8 < (x0.length : Int) then
  if gi x0 x8 = x1 then
  M.tidepoleref13_Add_l3 (x0, x1, x6, x7, x8)
  else
  if ((x6 ++ [gi x0 x8]).length : Int) ≤ 1099511627776 then
  M.tidepoleref13_Add_l3 (x0, x1, (x6 ++ [gi x0 x8]), x7, x8)
  else none
  else none
  else none
  partial_fixpoint

def M.tidepoleref13_Add_l3 : (List Int) × Int × (List Int) × Bool × Int → Option ((List Int) × Int) := fun ⟨x0, x1, x6, x7, x8⟩ =>
  M.tidepoleref13_Add_l0 (x0, x1, x6, x7, wr .i64 (x8 + 1))
  partial_fixpoint

end

/-! tidepole/tidepoleref13.Add -/
def M.tidepoleref13_Add (x0 : List Int) (x1 : Int) : Option ((List Int) × Int) :=
  M.tidepoleref13_Check x0 >>= fun y1 =>
  if y1 = 0 then
  M.tidepoleref13_Add_l0 (x0, x1, ([] : List Int), false, 0)
  else
  some (([] : List Int), 2)

/-! (*tidepole/tidepoleref13.Index).set -/
mutual

def M.tidepoleref13_Index_set_l0 : ByteArray × (List Int) × (List T58) × Bool × Int × (List T58) → Option (List T58) := fun ⟨x1, x2, x6, x7, x8, e0v_0⟩ =>
  if x8 < (e0v_0.length : Int) then
  if x7 = true then
  M.tidepoleref13_Index_set_l1 (x1, x2, x6, true, x8, false, e0v_0)
  else
  if 0 ≤ x8 then
  M.tidepoleref13_Index_set_l1 (x1, x2, x6, false, x8, !(Op.bytesLess ((gi e0v_0 x8).Key).toList x1.toList), e0v_0)
  else none
  else
  if x7 = true then
  some x6
  else
  if ((x6 ++ [(⟨x1, x2⟩ : T58)]).length : Int) ≤ 1099511627776 then
  some (x6 ++ [(⟨x1, x2⟩ : T58)])
  else none
  partial_fixpoint

def M.tidepoleref13_Index_set_l1 : ByteArray × (List Int) × (List T58) × Bool × Int × Bool × (List T58) → Option (List T58) := fun ⟨x1, x2, x6, x7, x8, x35, e0v_0⟩ =>
  if x35 = true then
  if ((x6 ++ [(⟨x1, x2⟩ : T58)]).length : Int) ≤ 1099511627776 then
  M.tidepoleref13_Index_set_l2 (x1, x2, (x6 ++ [(⟨x1, x2⟩ : T58)]), true, x8, e0v_0)
  else none
  else
  M.tidepoleref13_Index_set_l2 (x1, x2, x6, x7, x8, e0v_0)
  partial_fixpoint

def M.tidepoleref13_Index_set_l2 : ByteArray × (List Int) × (List T58) × Bool × Int × (List T58) → Option (List T58) := fun ⟨x1, x2, x6, x7, x8, e0v_0⟩ =>
  if 0 ≤ x8 then
  if x8 < (e0v_0.length : Int) then
  if (((gi e0v_0 x8).Key).toList == x1.toList) = true then
  M.tidepoleref13_Index_set_l3 (x1, x2, x6, x7, x8, e0v_0)
  else
  if ((x6 ++ [gi e0v_0 x8]).length : Int) ≤ 1099511627776 then
  M.tidepoleref13_Index_set_l3 (x1, x2, (x6 ++ [gi e0v_0 x8]), x7, x8, e0v_0)
  else none
  else none
  else none
  partial_fixpoint

def M.tidepoleref13_Index_set_l3 : ByteArray × (List Int) × (List T58) × Bool × Int × (List T58) → Option (List T58) := fun ⟨x1, x2, x6, x7, x8, e0v_0⟩ =>
  M.tidepoleref13_Index_set_l0 (x1, x2, x6, x7, wr .i64 (x8 + 1), e0v_0)
  partial_fixpoint

end

/-! (*tidepole/tidepoleref13.Index).set -/
def M.tidepoleref13_Index_set (x0v_0 : List T58) (x1 : ByteArray) (x2 : List Int) : Option (List T58) :=
  M.tidepoleref13_Index_set_l0 (x1, x2, ([] : List T58), decide ((x2.length : Int) = 0), 0, x0v_0)

/-! (*tidepole/tidepoleref13.Index).Put -/
def M.tidepoleref13_Index_Put (x0v_0 : List T58) (x1 : ByteArray) (x2 : Int) : Option (List T58) :=
  M.tidepoleref13_Index_List x0v_0 x1 >>= fun y3 =>
  M.tidepoleref13_Add y3 x2 >>= fun y7 =>
  M.tidepoleref13_Index_set x0v_0 x1 y7.1 >>= fun y11 =>
  some y11

/-! (*tidepole/post.Index).List -/
def M.post_Index_List (x0v_0_0 : Nat) (x1 : ByteArray) (pl65 : List (List (ByteArray × (List Int)))) : Option (List Int) :=
  M.post_Index_is x0v_0_0 >>= fun y2 =>
  some ((mget (gn pl65 x0v_0_0) x1).getD ([] : List Int)) >>= fun v4 =>
  M.slices_Clone_uint64_uint64 v4 >>= fun y11 =>
  some y11

/-! tidepole/tidepolelaw13.same -/
def M.tidepolelaw13_same_l0 : (List Int) × (List Int) × Int → Option Bool := fun ⟨x0, x1, x5⟩ =>
  if x5 < (x0.length : Int) then
  if 0 ≤ x5 then
  if x5 < (x1.length : Int) then
  if gi x0 x5 = gi x1 x5 then
  M.tidepolelaw13_same_l0 (x0, x1, wr .i64 (x5 + 1))
  else
  some false
  else none
  else none
  else
  some true
  partial_fixpoint

/-! tidepole/tidepolelaw13.same -/
def M.tidepolelaw13_same (x0 : List Int) (x1 : List Int) : Option Bool :=
  if (x0.length : Int) = (x1.length : Int) then
  M.tidepolelaw13_same_l0 (x0, x1, 0)
  else
  some false

/-! maps.Keys[map[string][]uint64,string,[]uint64] -/
def M.maps_Keys_map_string_uint64_string_uint64 (x0 : Nat) (pl65 : List (List (ByteArray × (List Int)))) : Option Nat :=
  some x0

/-! slices.AppendSeq[[]string,string] -/
def M.slices_AppendSeq_string_string__r_2 (kq2v_0 : List ByteArray) (kq6b0v_0 : Nat) (a0 : ByteArray) (pl65 : List (List (ByteArray × (List Int)))) : Option (List ByteArray) :=
  if ((kq2v_0 ++ [a0]).length : Int) ≤ 1099511627776 then
  some (kq2v_0 ++ [a0])
  else none

/-! maps.Keys[map[string][]uint64,string,[]uint64]$1 -/
def M.maps_Keys_map_string_uint64_string_uint64_1_2_l0 : Nat × (List (ByteArray × (List Int))) × (List ByteArray) × Nat × (List (List (ByteArray × (List Int)))) → Option (List ByteArray) := fun ⟨x5i, x5, e1v_0, x0q6b0v_0, pl65⟩ =>
  (match x5 with
  | [] =>
  some e1v_0
  | kv13 :: rm14 =>
  M.slices_AppendSeq_string_string__r_2 e1v_0 x0q6b0v_0 kv13.1 pl65 >>= fun y27 =>
  M.maps_Keys_map_string_uint64_string_uint64_1_2_l0 (x5i, rm14, y27, x0q6b0v_0, pl65))
  partial_fixpoint

/-! maps.Keys[map[string][]uint64,string,[]uint64]$1 -/
def M.maps_Keys_map_string_uint64_string_uint64_1_2 (x0q2v_0 : List ByteArray) (x0q6b0v_0 : Nat) (pl65 : List (List (ByteArray × (List Int)))) : Option (List ByteArray) :=
  M.maps_Keys_map_string_uint64_string_uint64_1_2_l0 (x0q6b0v_0, (gn pl65 x0q6b0v_0), x0q2v_0, x0q6b0v_0, pl65)

/-! slices.AppendSeq[[]string,string] -/
def M.slices_AppendSeq_string_string_2 (x1b0v_0 : Nat) (pl65 : List (List (ByteArray × (List Int)))) : Option (List ByteArray) :=
  M.maps_Keys_map_string_uint64_string_uint64_1_2 ([] : List ByteArray) x1b0v_0 pl65 >>= fun y10 =>
  some y10

/-! slices.Collect[string] -/
def M.slices_Collect_string (x0b0v_0 : Nat) (pl65 : List (List (ByteArray × (List Int)))) : Option (List ByteArray) :=
  M.slices_AppendSeq_string_string_2 x0b0v_0 pl65 >>= fun y2 =>
  some y2

/-! slices.Sorted[string] -/
def M.slices_Sorted_string (x0b0v_0 : Nat) (pl65 : List (List (ByteArray × (List Int)))) : Option (List ByteArray) :=
  M.slices_Collect_string x0b0v_0 pl65 >>= fun y2 =>
  if (y2.length : Int) ≤ 1099511627776 then
  some (srtS y2)
  else none

/-! (*tidepole/post.lists[string, uint64]).keys -/
def M.post_lists_string_uint64_keys (x0v_0_0 : Nat) (pl65 : List (List (ByteArray × (List Int)))) : Option (List ByteArray) :=
  M.maps_Keys_map_string_uint64_string_uint64 x0v_0_0 pl65 >>= fun y2 =>
  M.slices_Sorted_string y2 pl65 >>= fun y5 =>
  some y5

/-! (*tidepole/post.Index).Keys -/
def M.post_Index_Keys (x0v_0_0 : Nat) (pl65 : List (List (ByteArray × (List Int)))) : Option (List ByteArray) :=
  M.post_Index_is x0v_0_0 >>= fun y2 =>
  M.post_lists_string_uint64_keys x0v_0_0 pl65 >>= fun y4 =>
  some y4

/-! tidepole/tidepolebase.SameTexts -/
def M.tidepolebase_SameTexts_l0 : (List ByteArray) × (List ByteArray) × Int → Option Bool := fun ⟨x0, x1, x5⟩ =>
  if x5 < (x0.length : Int) then
  if 0 ≤ x5 then
  if x5 < (x1.length : Int) then
  if ((gi x0 x5).toList == (gi x1 x5).toList) = true then
  M.tidepolebase_SameTexts_l0 (x0, x1, wr .i64 (x5 + 1))
  else
  some false
  else none
  else none
  else
  some true
  partial_fixpoint

/-! tidepole/tidepolebase.SameTexts -/
def M.tidepolebase_SameTexts (x0 : List ByteArray) (x1 : List ByteArray) : Option Bool :=
  if (x0.length : Int) = (x1.length : Int) then
  M.tidepolebase_SameTexts_l0 (x0, x1, 0)
  else
  some false

/-! (*tidepole/post.lists[string, uint64]).size -/
def M.post_lists_string_uint64_size_l0 : Int × Nat × (List (ByteArray × (List Int))) × Nat × (List (List (ByteArray × (List Int)))) → Option Int := fun ⟨x3, x10i, x10, x0v_0_0, pl65⟩ =>
  (match x10 with
  | [] =>
  some x3
  | kv9 :: rm10 =>
  M.post_lists_string_uint64_size_l0 (wr .i64 (x3 + (kv9.2.length : Int)), x10i, rm10, x0v_0_0, pl65))
  partial_fixpoint

/-! (*tidepole/post.lists[string, uint64]).size -/
def M.post_lists_string_uint64_size (x0v_0_0 : Nat) (pl65 : List (List (ByteArray × (List Int)))) : Option Int :=
  M.post_lists_string_uint64_size_l0 (0, x0v_0_0, (gn pl65 x0v_0_0), x0v_0_0, pl65)

/-! (*tidepole/post.Index).Size -/
def M.post_Index_Size (x0v_0_0 : Nat) (pl65 : List (List (ByteArray × (List Int)))) : Option Int :=
  M.post_Index_is x0v_0_0 >>= fun y2 =>
  M.post_lists_string_uint64_size x0v_0_0 pl65 >>= fun y4 =>
  some y4

/-! tidepole/post.first -/
def M.post_first (x0 : Int) : Option Bool :=
  some (decide (x0 = 1))

/-! tidepole/post.those[uint64] -/
def M.post_those_uint64__r_2 (kq7v_0 : List Int) (kq12b0v_0 : List Int) (kq12b1v_0 : List Int) (a0 : Int) (a1 : Int) : Option (List Int) :=
  M.post_first a1 >>= fun y7 =>
  if y7 = true then
  if ((kq7v_0 ++ [a0]).length : Int) ≤ 1099511627776 then
  some (kq7v_0 ++ [a0])
  else none
  else
  some kq7v_0

/-! tidepole/post.merge[uint64]$1 -/
mutual

def M.post_merge_uint64_1_2_l0 : (List Int) × (List Int) × (List Int) → Option ((List Int) × (List Int) × (List Int)) := fun ⟨e2v_0, e3v_0, e4v_0⟩ =>
  if (e3v_0.length : Int) > 0 then
  M.post_merge_uint64_1_2_l1 (true, e2v_0, e3v_0, e4v_0)
  else
  M.post_merge_uint64_1_2_l1 (decide ((e4v_0.length : Int) > 0), e2v_0, e3v_0, e4v_0)
  partial_fixpoint

def M.post_merge_uint64_1_2_l1 : Bool × (List Int) × (List Int) × (List Int) → Option ((List Int) × (List Int) × (List Int)) := fun ⟨x13, e2v_0, e3v_0, e4v_0⟩ =>
  if x13 = true then
  if (e4v_0.length : Int) = 0 then
  M.post_merge_uint64_1_2_l2 (0, true, e2v_0, e3v_0, e4v_0)
  else
  if (e3v_0.length : Int) > 0 then
  if 0 < (e3v_0.length : Int) then
  if 0 < (e4v_0.length : Int) then
  M.post_merge_uint64_1_2_l2 (0, decide (gi e3v_0 0 ≤ gi e4v_0 0), e2v_0, e3v_0, e4v_0)
  else none
  else none
  else
  M.post_merge_uint64_1_2_l2 (0, false, e2v_0, e3v_0, e4v_0)
  else
  some (e2v_0, e3v_0, e4v_0)
  partial_fixpoint

def M.post_merge_uint64_1_2_l2 : Int × Bool × (List Int) × (List Int) × (List Int) → Option ((List Int) × (List Int) × (List Int)) := fun ⟨x4, x30, e2v_0, e3v_0, e4v_0⟩ =>
  if x30 = true then
  M.post_merge_uint64_1_2_l3 (ior .i64 x4 1, e2v_0, e3v_0, e4v_0)
  else
  M.post_merge_uint64_1_2_l3 (x4, e2v_0, e3v_0, e4v_0)
  partial_fixpoint

def M.post_merge_uint64_1_2_l3 : Int × (List Int) × (List Int) × (List Int) → Option ((List Int) × (List Int) × (List Int)) := fun ⟨x4, e2v_0, e3v_0, e4v_0⟩ =>
  if (e3v_0.length : Int) = 0 then
  M.post_merge_uint64_1_2_l4 (x4, true, e2v_0, e3v_0, e4v_0)
  else
  if (e4v_0.length : Int) > 0 then
  if 0 < (e4v_0.length : Int) then
  if 0 < (e3v_0.length : Int) then
  M.post_merge_uint64_1_2_l4 (x4, decide (gi e4v_0 0 ≤ gi e3v_0 0), e2v_0, e3v_0, e4v_0)
  else none
  else none
  else
  M.post_merge_uint64_1_2_l4 (x4, false, e2v_0, e3v_0, e4v_0)
  partial_fixpoint

def M.post_merge_uint64_1_2_l4 : Int × Bool × (List Int) × (List Int) × (List Int) → Option ((List Int) × (List Int) × (List Int)) := fun ⟨x4, x49, e2v_0, e3v_0, e4v_0⟩ =>
  if x49 = true then
  M.post_merge_uint64_1_2_l5 (ior .i64 x4 2, e2v_0, e3v_0, e4v_0)
  else
  M.post_merge_uint64_1_2_l5 (x4, e2v_0, e3v_0, e4v_0)
  partial_fixpoint

def M.post_merge_uint64_1_2_l5 : Int × (List Int) × (List Int) × (List Int) → Option ((List Int) × (List Int) × (List Int)) := fun ⟨x4, e2v_0, e3v_0, e4v_0⟩ =>
  if iand .i64 x4 2 = 0 then
  M.post_merge_uint64_1_2_l6 (x4, 0, e2v_0, e3v_0, e4v_0)
  else
  if 0 < (e4v_0.length : Int) then
  if 1 ≤ (e4v_0.length : Int) then
  M.post_merge_uint64_1_2_l6 (x4, gi e4v_0 0, e2v_0, e3v_0, (sl e4v_0 1 (e4v_0.length : Int)))
  else none
  else none
  partial_fixpoint

def M.post_merge_uint64_1_2_l6 : Int × Int × (List Int) × (List Int) × (List Int) → Option ((List Int) × (List Int) × (List Int)) := fun ⟨x4, x5, e2v_0, e3v_0, e4v_0⟩ =>
  if iand .i64 x4 1 = 0 then
  M.post_merge_uint64_1_2_l7 (x4, x5, e2v_0, e3v_0, e4v_0)
  else
  if 0 < (e3v_0.length : Int) then
  if 1 ≤ (e3v_0.length : Int) then
  M.post_merge_uint64_1_2_l7 (x4, gi e3v_0 0, e2v_0, (sl e3v_0 1 (e3v_0.length : Int)), e4v_0)
  else none
  else none
  partial_fixpoint

def M.post_merge_uint64_1_2_l7 : Int × Int × (List Int) × (List Int) × (List Int) → Option ((List Int) × (List Int) × (List Int)) := fun ⟨x4, x5, e2v_0, e3v_0, e4v_0⟩ =>
  M.post_those_uint64__r_2 e2v_0 e3v_0 e4v_0 x5 x4 >>= fun y57 =>
  M.post_merge_uint64_1_2_l0 (y57, e3v_0, e4v_0)
  partial_fixpoint

end

/-! tidepole/post.merge[uint64]$1 -/
def M.post_merge_uint64_1_2 (x0q7v_0 : List Int) (x0q12b0v_0 : List Int) (x0q12b1v_0 : List Int) : Option ((List Int) × (List Int) × (List Int)) :=
  M.post_merge_uint64_1_2_l0 (x0q7v_0, x0q12b0v_0, x0q12b1v_0)

/-! tidepole/post.those[uint64] -/
def M.post_those_uint64_2 (x0 : List Int) (x1 : List Int) : Option (List Int) :=
  M.post_merge_uint64 x0 x1 >>= fun y5 =>
  M.post_merge_uint64_1_2 ([] : List Int) y5.1 y5.2 >>= fun y15 =>
  some y15.1

/-! tidepole/post.fold -/
def M.post_fold_2_l1 : (List Int) × (List (List Int)) × Int × Int → Option ((List Int) × Int) := fun ⟨x9, x35, x36, x37⟩ =>
  if x37 < x36 then
  if 0 ≤ x37 then
  if x37 < (x35.length : Int) then
  M.post_those_uint64_2 x9 (gi x35 x37) >>= fun y43 =>
  M.post_fold_2_l1 (y43, x35, x36, wr .i64 (x37 + 1))
  else none
  else none
  else
  some (x9, 0)
  partial_fixpoint

/-! tidepole/post.fold -/
def M.post_fold_2_l0 : (List (List Int)) × (List (List Int)) × Int × Int → Option ((List Int) × Int) := fun ⟨x0, x15, x16, x17⟩ =>
  if x17 < x16 then
  if 0 ≤ x17 then
  if x17 < (x15.length : Int) then
  M.post_Check (gi x15 x17) >>= fun y12 =>
  if y12 = 0 then
  M.post_fold_2_l0 (x0, x15, x16, wr .i64 (x17 + 1))
  else
  some (([] : List Int), y12)
  else none
  else none
  else
  if (x0.length : Int) = 0 then
  some (([] : List Int), 0)
  else
  if 0 < (x0.length : Int) then
  M.slices_Clone_uint64_uint64 (gi x0 0) >>= fun y25 =>
  if 1 ≤ (x0.length : Int) then
  M.post_fold_2_l1 (y25, (sl x0 1 (x0.length : Int)), ((sl x0 1 (x0.length : Int)).length : Int), 0)
  else none
  else none
  partial_fixpoint

/-! tidepole/post.fold -/
def M.post_fold_2 (x0 : List (List Int)) : Option ((List Int) × Int) :=
  if (x0.length : Int) > 4096 then
  some (([] : List Int), 3)
  else
  M.post_fold_2_l0 (x0, x0, (x0.length : Int), 0)

/-! tidepole/post.But -/
def M.post_But (x0 : List Int) (x1 : List Int) : Option ((List Int) × Int) :=
  M.post_fold_2 [x0, x1] >>= fun y5 =>
  some (y5.1, y5.2)

/-! tidepole/post.Drop -/
def M.post_Drop (x0 : List Int) (x1 : Int) : Option ((List Int) × Int) :=
  M.post_But x0 [x1] >>= fun y5 =>
  some (y5.1, y5.2)

/-! (*tidepole/post.Index).Take -/
def M.post_Index_Take (x0v_0_0 : Nat) (x1 : ByteArray) (x2 : Int) (pl65 : List (List (ByteArray × (List Int)))) : Option (Int × (List (List (ByteArray × (List Int))))) :=
  M.post_Index_is x0v_0_0 >>= fun y2 =>
  some ((mget (gn pl65 x0v_0_0) x1).getD ([] : List Int)) >>= fun v4 =>
  M.post_Drop v4 x2 >>= fun y11 =>
  M.post_lists_string_uint64_set x0v_0_0 x1 y11.1 pl65 >>= fun y15 =>
  some (y11.2, y15)

/-! tidepole/tidepoleref13.in -/
def M.tidepoleref13_in_l0 : (List Int) × Int × Int → Option Bool := fun ⟨x0, x1, x5⟩ =>
  if x5 < (x0.length : Int) then
  if 0 ≤ x5 then
  if gi x0 x5 = x1 then
  some true
  else
  M.tidepoleref13_in_l0 (x0, x1, wr .i64 (x5 + 1))
  else none
  else
  some false
  partial_fixpoint

/-! tidepole/tidepoleref13.in -/
def M.tidepoleref13_in (x0 : List Int) (x1 : Int) : Option Bool :=
  M.tidepoleref13_in_l0 (x0, x1, 0)

/-! tidepole/tidepoleref13.But -/
mutual

def M.tidepoleref13_But_l1 : (List Int) × (List Int) × (List Int) × Int → Option ((List Int) × Int) := fun ⟨x0, x1, x6, x7⟩ =>
  if x7 < (x0.length : Int) then
  if 0 ≤ x7 then
  M.tidepoleref13_in x1 (gi x0 x7) >>= fun y17 =>
  if y17 = true then
  M.tidepoleref13_But_l2 (x0, x1, x6, x7)
  else
  if ((x6 ++ [gi x0 x7]).length : Int) ≤ 1099511627776 then
  M.tidepoleref13_But_l2 (x0, x1, (x6 ++ [gi x0 x7]), x7)
  else none
  else none
  else
  some (x6, 0)
  partial_fixpoint

def M.tidepoleref13_But_l2 : (List Int) × (List Int) × (List Int) × Int → Option ((List Int) × Int) := fun ⟨x0, x1, x6, x7⟩ =>
  M.tidepoleref13_But_l1 (x0, x1, x6, wr .i64 (x7 + 1))
  partial_fixpoint

end

/-! tidepole/tidepoleref13.But -/
def M.tidepoleref13_But_l0 : (List Int) × (List Int) × Bool → Option ((List Int) × Int) := fun ⟨x0, x1, x15⟩ =>
  if x15 = true then
  some (([] : List Int), 2)
  else
  M.tidepoleref13_But_l1 (x0, x1, ([] : List Int), 0)

/-! tidepole/tidepoleref13.But -/
def M.tidepoleref13_But (x0 : List Int) (x1 : List Int) : Option ((List Int) × Int) :=
  M.tidepoleref13_Check x0 >>= fun y1 =>
  if y1 = 0 then
  M.tidepoleref13_Check x1 >>= fun y4 =>
  M.tidepoleref13_But_l0 (x0, x1, !(decide (y4 = 0)))
  else
  M.tidepoleref13_But_l0 (x0, x1, true)

/-! tidepole/tidepoleref13.Drop -/
def M.tidepoleref13_Drop (x0 : List Int) (x1 : Int) : Option ((List Int) × Int) :=
  M.tidepoleref13_But x0 [x1] >>= fun y5 =>
  some (y5.1, y5.2)

/-! (*tidepole/tidepoleref13.Index).Take -/
def M.tidepoleref13_Index_Take (x0v_0 : List T58) (x1 : ByteArray) (x2 : Int) : Option (List T58) :=
  M.tidepoleref13_Index_List x0v_0 x1 >>= fun y3 =>
  M.tidepoleref13_Drop y3 x2 >>= fun y7 =>
  M.tidepoleref13_Index_set x0v_0 x1 y7.1 >>= fun y11 =>
  some y11

/-! tidepole/post.both -/
def M.post_both (x0 : Int) : Option Bool :=
  some (decide (x0 = 3))

/-! tidepole/post.those[uint64] -/
def M.post_those_uint64__r_3 (kq7v_0 : List Int) (kq12b0v_0 : List Int) (kq12b1v_0 : List Int) (a0 : Int) (a1 : Int) : Option (List Int) :=
  M.post_both a1 >>= fun y7 =>
  if y7 = true then
  if ((kq7v_0 ++ [a0]).length : Int) ≤ 1099511627776 then
  some (kq7v_0 ++ [a0])
  else none
  else
  some kq7v_0

/-! tidepole/post.merge[uint64]$1 -/
mutual

def M.post_merge_uint64_1_3_l0 : (List Int) × (List Int) × (List Int) → Option ((List Int) × (List Int) × (List Int)) := fun ⟨e2v_0, e3v_0, e4v_0⟩ =>
  if (e3v_0.length : Int) > 0 then
  M.post_merge_uint64_1_3_l1 (true, e2v_0, e3v_0, e4v_0)
  else
  M.post_merge_uint64_1_3_l1 (decide ((e4v_0.length : Int) > 0), e2v_0, e3v_0, e4v_0)
  partial_fixpoint

def M.post_merge_uint64_1_3_l1 : Bool × (List Int) × (List Int) × (List Int) → Option ((List Int) × (List Int) × (List Int)) := fun ⟨x13, e2v_0, e3v_0, e4v_0⟩ =>
  if x13 = true then
  if (e4v_0.length : Int) = 0 then
  M.post_merge_uint64_1_3_l2 (0, true, e2v_0, e3v_0, e4v_0)
  else
  if (e3v_0.length : Int) > 0 then
  if 0 < (e3v_0.length : Int) then
  if 0 < (e4v_0.length : Int) then
  M.post_merge_uint64_1_3_l2 (0, decide (gi e3v_0 0 ≤ gi e4v_0 0), e2v_0, e3v_0, e4v_0)
  else none
  else none
  else
  M.post_merge_uint64_1_3_l2 (0, false, e2v_0, e3v_0, e4v_0)
  else
  some (e2v_0, e3v_0, e4v_0)
  partial_fixpoint

def M.post_merge_uint64_1_3_l2 : Int × Bool × (List Int) × (List Int) × (List Int) → Option ((List Int) × (List Int) × (List Int)) := fun ⟨x4, x30, e2v_0, e3v_0, e4v_0⟩ =>
  if x30 = true then
  M.post_merge_uint64_1_3_l3 (ior .i64 x4 1, e2v_0, e3v_0, e4v_0)
  else
  M.post_merge_uint64_1_3_l3 (x4, e2v_0, e3v_0, e4v_0)
  partial_fixpoint

def M.post_merge_uint64_1_3_l3 : Int × (List Int) × (List Int) × (List Int) → Option ((List Int) × (List Int) × (List Int)) := fun ⟨x4, e2v_0, e3v_0, e4v_0⟩ =>
  if (e3v_0.length : Int) = 0 then
  M.post_merge_uint64_1_3_l4 (x4, true, e2v_0, e3v_0, e4v_0)
  else
  if (e4v_0.length : Int) > 0 then
  if 0 < (e4v_0.length : Int) then
  if 0 < (e3v_0.length : Int) then
  M.post_merge_uint64_1_3_l4 (x4, decide (gi e4v_0 0 ≤ gi e3v_0 0), e2v_0, e3v_0, e4v_0)
  else none
  else none
  else
  M.post_merge_uint64_1_3_l4 (x4, false, e2v_0, e3v_0, e4v_0)
  partial_fixpoint

def M.post_merge_uint64_1_3_l4 : Int × Bool × (List Int) × (List Int) × (List Int) → Option ((List Int) × (List Int) × (List Int)) := fun ⟨x4, x49, e2v_0, e3v_0, e4v_0⟩ =>
  if x49 = true then
  M.post_merge_uint64_1_3_l5 (ior .i64 x4 2, e2v_0, e3v_0, e4v_0)
  else
  M.post_merge_uint64_1_3_l5 (x4, e2v_0, e3v_0, e4v_0)
  partial_fixpoint

def M.post_merge_uint64_1_3_l5 : Int × (List Int) × (List Int) × (List Int) → Option ((List Int) × (List Int) × (List Int)) := fun ⟨x4, e2v_0, e3v_0, e4v_0⟩ =>
  if iand .i64 x4 2 = 0 then
  M.post_merge_uint64_1_3_l6 (x4, 0, e2v_0, e3v_0, e4v_0)
  else
  if 0 < (e4v_0.length : Int) then
  if 1 ≤ (e4v_0.length : Int) then
  M.post_merge_uint64_1_3_l6 (x4, gi e4v_0 0, e2v_0, e3v_0, (sl e4v_0 1 (e4v_0.length : Int)))
  else none
  else none
  partial_fixpoint

def M.post_merge_uint64_1_3_l6 : Int × Int × (List Int) × (List Int) × (List Int) → Option ((List Int) × (List Int) × (List Int)) := fun ⟨x4, x5, e2v_0, e3v_0, e4v_0⟩ =>
  if iand .i64 x4 1 = 0 then
  M.post_merge_uint64_1_3_l7 (x4, x5, e2v_0, e3v_0, e4v_0)
  else
  if 0 < (e3v_0.length : Int) then
  if 1 ≤ (e3v_0.length : Int) then
  M.post_merge_uint64_1_3_l7 (x4, gi e3v_0 0, e2v_0, (sl e3v_0 1 (e3v_0.length : Int)), e4v_0)
  else none
  else none
  partial_fixpoint

def M.post_merge_uint64_1_3_l7 : Int × Int × (List Int) × (List Int) × (List Int) → Option ((List Int) × (List Int) × (List Int)) := fun ⟨x4, x5, e2v_0, e3v_0, e4v_0⟩ =>
  M.post_those_uint64__r_3 e2v_0 e3v_0 e4v_0 x5 x4 >>= fun y57 =>
  M.post_merge_uint64_1_3_l0 (y57, e3v_0, e4v_0)
  partial_fixpoint

end

/-! tidepole/post.merge[uint64]$1 -/
def M.post_merge_uint64_1_3 (x0q7v_0 : List Int) (x0q12b0v_0 : List Int) (x0q12b1v_0 : List Int) : Option ((List Int) × (List Int) × (List Int)) :=
  M.post_merge_uint64_1_3_l0 (x0q7v_0, x0q12b0v_0, x0q12b1v_0)

/-! tidepole/post.those[uint64] -/
def M.post_those_uint64_3 (x0 : List Int) (x1 : List Int) : Option (List Int) :=
  M.post_merge_uint64 x0 x1 >>= fun y5 =>
  M.post_merge_uint64_1_3 ([] : List Int) y5.1 y5.2 >>= fun y15 =>
  some y15.1

/-! tidepole/post.fold -/
def M.post_fold_3_l1 : (List Int) × (List (List Int)) × Int × Int → Option ((List Int) × Int) := fun ⟨x9, x35, x36, x37⟩ =>
  if x37 < x36 then
  if 0 ≤ x37 then
  if x37 < (x35.length : Int) then
  M.post_those_uint64_3 x9 (gi x35 x37) >>= fun y43 =>
  M.post_fold_3_l1 (y43, x35, x36, wr .i64 (x37 + 1))
  else none
  else none
  else
  some (x9, 0)
  partial_fixpoint

/-! tidepole/post.fold -/
def M.post_fold_3_l0 : (List (List Int)) × (List (List Int)) × Int × Int → Option ((List Int) × Int) := fun ⟨x0, x15, x16, x17⟩ =>
  if x17 < x16 then
  if 0 ≤ x17 then
  if x17 < (x15.length : Int) then
  M.post_Check (gi x15 x17) >>= fun y12 =>
  if y12 = 0 then
  M.post_fold_3_l0 (x0, x15, x16, wr .i64 (x17 + 1))
  else
  some (([] : List Int), y12)
  else none
  else none
  else
  if (x0.length : Int) = 0 then
  some (([] : List Int), 0)
  else
  if 0 < (x0.length : Int) then
  M.slices_Clone_uint64_uint64 (gi x0 0) >>= fun y25 =>
  if 1 ≤ (x0.length : Int) then
  M.post_fold_3_l1 (y25, (sl x0 1 (x0.length : Int)), ((sl x0 1 (x0.length : Int)).length : Int), 0)
  else none
  else none
  partial_fixpoint

/-! tidepole/post.fold -/
def M.post_fold_3 (x0 : List (List Int)) : Option ((List Int) × Int) :=
  if (x0.length : Int) > 4096 then
  some (([] : List Int), 3)
  else
  M.post_fold_3_l0 (x0, x0, (x0.length : Int), 0)

/-! tidepole/post.And -/
def M.post_And (x0 : List (List Int)) : Option ((List Int) × Int) :=
  M.post_fold_3 x0 >>= fun y1 =>
  some (y1.1, y1.2)

/-! tidepole/tidepolelaw13.works -/
def M.tidepolelaw13_works : Option Bool :=
  M.post_And [[1, 3, 5], [3, 4, 5]] >>= fun y13 =>
  M.post_Or [[1, 3, 5], [3, 4, 5]] >>= fun y20 =>
  M.post_But [1, 3, 5] [3, 4, 5] >>= fun y23 =>
  M.tidepolelaw13_same y13.1 [3, 5] >>= fun y31 =>
  if y31 = true then
  M.tidepolelaw13_same y20.1 [1, 3, 4, 5] >>= fun y39 =>
  if y39 = true then
  M.tidepolelaw13_same y23.1 [1] >>= fun y47 =>
  if y47 = true then
  if y13.2 = 0 then
  if y20.2 = 0 then
  some (decide (y23.2 = 0))
  else
  some false
  else
  some false
  else
  some false
  else
  some false
  else
  some false

/-! tidepole/tidepolelaw13.PostIndexes -/
mutual

def M.tidepolelaw13_PostIndexes_l0 : (List T53) × ByteArray × Nat × (List T58) × Int × (List (List (ByteArray × (List Int)))) → Option (Bool × (List (List (ByteArray × (List Int))))) := fun ⟨x0, x1, x5v_0_0, x6v_0, x7, e0⟩ =>
  if x7 < (x0.length : Int) then
  M.tidepolelaw13_PostIndexes_l1 (x0, x1, x5v_0_0, x6v_0, x7, decide (x7 < 60), e0)
  else
  M.tidepolelaw13_PostIndexes_l1 (x0, x1, x5v_0_0, x6v_0, x7, false, e0)
  partial_fixpoint

def M.tidepolelaw13_PostIndexes_l1 : (List T53) × ByteArray × Nat × (List T58) × Int × Bool × (List (List (ByteArray × (List Int)))) → Option (Bool × (List (List (ByteArray × (List Int))))) := fun ⟨x0, x1, x5v_0_0, x6v_0, x7, x24, e0⟩ =>
  if x24 = true then
  if 0 ≤ x7 then
  if x7 < (x0.length : Int) then
  M.tidepolebase_Among ((gi x0 x7).Do) 5 >>= fun y22 =>
  if y22 < 3 then
  M.post_Index_Put x5v_0_0 ((gi x0 x7).Key) ((gi x0 x7).N) e0 >>= fun y25 =>
  if y25.1 = 0 then
  M.tidepoleref13_Index_Put x6v_0 ((gi x0 x7).Key) ((gi x0 x7).N) >>= fun y28 =>
  M.tidepolelaw13_PostIndexes_l2 (x0, x1, x5v_0_0, y28, x7, y25.2)
  else
  some (false, y25.2)
  else
  M.post_Index_Take x5v_0_0 ((gi x0 x7).Key) ((gi x0 x7).N) e0 >>= fun y34 =>
  if y34.1 = 0 then
  M.tidepoleref13_Index_Take x6v_0 ((gi x0 x7).Key) ((gi x0 x7).N) >>= fun y37 =>
  M.tidepolelaw13_PostIndexes_l2 (x0, x1, x5v_0_0, y37, x7, y34.2)
  else
  some (false, y34.2)
  else none
  else none
  else
  M.tidepolelaw13_works >>= fun y40 =>
  some (y40, e0)
  partial_fixpoint

def M.tidepolelaw13_PostIndexes_l2 : (List T53) × ByteArray × Nat × (List T58) × Int × (List (List (ByteArray × (List Int)))) → Option (Bool × (List (List (ByteArray × (List Int))))) := fun ⟨x0, x1, x5v_0_0, x6v_0, x7, e0⟩ =>
  M.tidepolelaw13_PostIndexes_l3 (x0, x1, x5v_0_0, x6v_0, x7, ([] : List ByteArray), 0, 0, e0)
  partial_fixpoint

def M.tidepolelaw13_PostIndexes_l3 : (List T53) × ByteArray × Nat × (List T58) × Int × (List ByteArray) × Int × Int × (List (List (ByteArray × (List Int)))) → Option (Bool × (List (List (ByteArray × (List Int))))) := fun ⟨x0, x1, x5v_0_0, x6v_0, x7, x9, x10, x11, e0⟩ =>
  if x11 < (x6v_0.length : Int) then
  if 0 ≤ x11 then
  if ((x9 ++ [(gi x6v_0 x11).Key]).length : Int) ≤ 1099511627776 then
  M.post_Index_List x5v_0_0 ((gi x6v_0 x11).Key) e0 >>= fun y92 =>
  M.tidepolelaw13_same y92 ((gi x6v_0 x11).L) >>= fun y96 =>
  if y96 = true then
  M.tidepolelaw13_PostIndexes_l3 (x0, x1, x5v_0_0, x6v_0, x7, (x9 ++ [(gi x6v_0 x11).Key]), wr .i64 (x10 + (((gi x6v_0 x11).L).length : Int)), wr .i64 (x11 + 1), e0)
  else
  some (false, e0)
  else none
  else none
  else
  M.post_Index_Keys x5v_0_0 e0 >>= fun y99 =>
  M.tidepolebase_SameTexts y99 x9 >>= fun y104 =>
  if y104 = true then
  M.post_Index_Size x5v_0_0 e0 >>= fun y107 =>
  if y107 = x10 then
  M.post_Index_List x5v_0_0 x1 e0 >>= fun y110 =>
  M.tidepoleref13_Index_List x6v_0 x1 >>= fun y113 =>
  M.tidepolelaw13_same y110 y113 >>= fun y118 =>
  M.tidepolelaw13_PostIndexes_l4 (x0, x1, x5v_0_0, x6v_0, x7, !y118, e0)
  else
  M.tidepolelaw13_PostIndexes_l4 (x0, x1, x5v_0_0, x6v_0, x7, true, e0)
  else
  M.tidepolelaw13_PostIndexes_l4 (x0, x1, x5v_0_0, x6v_0, x7, true, e0)
  partial_fixpoint

def M.tidepolelaw13_PostIndexes_l4 : (List T53) × ByteArray × Nat × (List T58) × Int × Bool × (List (List (ByteArray × (List Int)))) → Option (Bool × (List (List (ByteArray × (List Int))))) := fun ⟨x0, x1, x5v_0_0, x6v_0, x7, x133, e0⟩ =>
  if x133 = true then
  some (false, e0)
  else
  M.tidepolelaw13_PostIndexes_l0 (x0, x1, x5v_0_0, x6v_0, wr .i64 (x7 + 1), e0)
  partial_fixpoint

end

/-! tidepole/tidepolelaw13.PostIndexes -/
def M.tidepolelaw13_PostIndexes (x0 : List T53) (x1 : ByteArray) (pl65 : List (List (ByteArray × (List Int)))) : Option (Bool × (List (List (ByteArray × (List Int))))) :=
  M.post_New pl65 >>= fun y1 =>
  M.tidepolelaw13_PostIndexes_l0 (x0, x1, y1.1, ([] : List T58), 0, y1.2)

/-! (*tidepole/post.Index).is -/
def M.post_Index_is_2 : Option Unit :=
  some ()

/-! (*tidepole/post.Index).Void -/
def M.post_Index_Void : Option Unit :=
  M.post_Index_is_2 >>= fun y1 =>
  some ()

/-! (*tidepole/post.Index).is -/
def M.post_Index_is_3 : Option Unit :=
  some ()

/-! (*tidepole/post.Index).Void -/
def M.post_Index_Void_2 : Option Unit :=
  M.post_Index_is_3 >>= fun y2 =>
  some ()

/-! (*tidepole/post.Index).Void -/
def M.post_Index_Void_3 (x0v_0_0 : Nat) : Option Unit :=
  M.post_Index_is x0v_0_0 >>= fun y2 =>
  some ()

/-! (*tidepole/post.Index).Put -/
def M.post_Index_Put_2 (x1 : ByteArray) (x2 : Int) (pl65 : List (List (ByteArray × (List Int)))) : Option Int :=
  M.post_Index_is_2 >>= fun y1 =>
  some 1

/-! (*tidepole/post.Index).Put -/
def M.post_Index_Put_3 (x1 : ByteArray) (x2 : Int) (pl65 : List (List (ByteArray × (List Int)))) : Option Int :=
  M.post_Index_is_3 >>= fun y2 =>
  some 1

/-! (*tidepole/post.Index).Take -/
def M.post_Index_Take_2 (x1 : ByteArray) (x2 : Int) (pl65 : List (List (ByteArray × (List Int)))) : Option Int :=
  M.post_Index_is_2 >>= fun y1 =>
  some 1

/-! (*tidepole/post.Index).Take -/
def M.post_Index_Take_3 (x1 : ByteArray) (x2 : Int) (pl65 : List (List (ByteArray × (List Int)))) : Option Int :=
  M.post_Index_is_3 >>= fun y2 =>
  some 1

/-! (*tidepole/post.Index).List -/
def M.post_Index_List_2 (x1 : ByteArray) (pl65 : List (List (ByteArray × (List Int)))) : Option Unit :=
  M.post_Index_is_2 >>= fun y1 =>
  some ()

/-! (*tidepole/post.Index).List -/
def M.post_Index_List_3 (x1 : ByteArray) (pl65 : List (List (ByteArray × (List Int)))) : Option Unit :=
  M.post_Index_is_3 >>= fun y2 =>
  some ()

/-! (*tidepole/post.Index).Keys -/
def M.post_Index_Keys_2 (pl65 : List (List (ByteArray × (List Int)))) : Option Unit :=
  M.post_Index_is_2 >>= fun y1 =>
  some ()

/-! (*tidepole/post.Index).Keys -/
def M.post_Index_Keys_3 (pl65 : List (List (ByteArray × (List Int)))) : Option Unit :=
  M.post_Index_is_3 >>= fun y2 =>
  some ()

/-! (*tidepole/post.Index).Size -/
def M.post_Index_Size_2 (pl65 : List (List (ByteArray × (List Int)))) : Option Int :=
  M.post_Index_is_2 >>= fun y1 =>
  some 0

/-! (*tidepole/post.Index).Size -/
def M.post_Index_Size_3 (pl65 : List (List (ByteArray × (List Int)))) : Option Int :=
  M.post_Index_is_3 >>= fun y2 =>
  some 0

/-! tidepole/tidepolelaw13.PostVoid -/
def M.tidepolelaw13_PostVoid (x0 : ByteArray) (x1 : Int) (pl65 : List (List (ByteArray × (List Int)))) : Option (Bool × (List (List (ByteArray × (List Int))))) :=
  M.tidepolelaw13_works >>= fun y1 =>
  if y1 = true then
  M.post_Index_Void >>= fun y6 =>
  M.post_Index_Void_2 >>= fun y8 =>
  M.post_New pl65 >>= fun y10 =>
  M.post_Index_Void_3 y10.1 >>= fun y13 =>
  M.post_Index_Put_2 x0 x1 y10.2 >>= fun y15 =>
  if y15 = 1 then
  M.post_Index_Put_3 x0 x1 y10.2 >>= fun y18 =>
  if y18 = 1 then
  M.post_Index_Take_2 x0 x1 y10.2 >>= fun y21 =>
  if y21 = 1 then
  M.post_Index_Take_3 x0 x1 y10.2 >>= fun y24 =>
  if y24 = 1 then
  M.post_Index_List_2 x0 y10.2 >>= fun y27 =>
  M.post_Index_List_3 x0 y10.2 >>= fun y29 =>
  M.post_Index_Keys_2 y10.2 >>= fun y31 =>
  M.post_Index_Keys_3 y10.2 >>= fun y33 =>
  M.post_Index_Size_2 y10.2 >>= fun y35 =>
  M.post_Index_Size_3 y10.2 >>= fun y37 =>
  some (decide (wr .i64 ((wr .i64 (0 + y35)) + y37) = 0), y10.2)
  else
  some (false, y10.2)
  else
  some (false, y10.2)
  else
  some (false, y10.2)
  else
  some (false, y10.2)
  else
  some (false, pl65)

end Go.Gx
