import Derived.Test.YtbmbligkbbfpbaaGW

set_option linter.unusedVariables false

namespace Go.Gx

/-! tidepole/tidepolelaw02.short -/
def M.tidepolelaw02_short (x0 : List Int) : Option (List Int) :=
  if 0 ≤ imn (x0.length : Int) 300 then
  if imn (x0.length : Int) 300 ≤ (x0.length : Int) then
  some (sl x0 0 (imn (x0.length : Int) 300))
  else none
  else none

/-! tidepole/tidepolebase.Bytes -/
def M.tidepolebase_Bytes (x0 : List Int) : Option (List Int) :=
  if (x0.length : Int) ≤ 1099511627776 then
  some x0
  else none

/-! tidepole/crc.bits -/
def M.crc_bits (x0 : Int) : Option Int :=
  some x0

/-! tidepole/crc.step -/
def M.crc_step_r (kq1v0 : Int) (kq5b0v0 : Int) (a0 : Int) : Option (Int × Int) :=
  some (a0, kq5b0v0)

/-! tidepole/crc.bits$1 -/
def M.crc_bits_1_l0 : Int × Int × Int → Option (Int × Int) := fun ⟨x1v0, x3, eE1v0⟩ =>
  if x3 < 8 then
  M.crc_step_r eE1v0 (ixor .u32 (ishr .u32 x1v0 1) (iand .u32 (wr .u32 (0 - (iand .u32 x1v0 1))) 2197175160)) (ixor .u32 (ishr .u32 x1v0 1) (iand .u32 (wr .u32 (0 - (iand .u32 x1v0 1))) 2197175160)) >>= fun y2 =>
  M.crc_bits_1_l0 (y2.2, wr .i64 (x3 + 1), y2.1)
  else
  some (eE1v0, x1v0)
  partial_fixpoint

def M.crc_bits_1 (x0q1v0 : Int) (x0q5b0v0 : Int) : Option (Int × Int) :=
  M.crc_bits_1_l0 (x0q5b0v0, 0, x0q1v0)

/-! tidepole/crc.step -/
def M.crc_step (x0 : Int) : Option Int :=
  M.crc_bits x0 >>= fun y3 =>
  M.crc_bits_1 x0 y3 >>= fun y12 =>
  some y12.1

/-! tidepole/crc.More -/
def M.crc_More_l0 : Int × List Int × Int × Int → Option Int := fun ⟨x5, x10, x11, x12⟩ =>
  if x12 < x11 then
  if 0 ≤ x12 then
  if x12 < (x10.length : Int) then
  M.crc_step (ixor .u32 x5 (wr .u32 (gi x10 x12))) >>= fun y6 =>
  M.crc_More_l0 (y6, x10, x11, wr .i64 (x12 + 1))
  else none
  else none
  else
  some (ixor .u32 4294967295 x5)
  partial_fixpoint

def M.crc_More (x0 : Int) (x1 : List Int) : Option Int :=
  M.crc_More_l0 (ixor .u32 4294967295 x0, x1, (x1.length : Int), 0)

/-! tidepole/crc.Sum -/
def M.crc_Sum (x0 : List Int) : Option Int :=
  M.crc_More 0 x0 >>= fun y1 =>
  some y1

/-! tidepole/tidepoleref02.step -/
mutual

def M.tidepoleref02_step_l0 : Int × Int → Option Int := fun ⟨x0, x3⟩ =>
  if x3 < 8 then
  if irem .u32 x0 2 = 1 then
  M.tidepoleref02_step_l1 (ixor .u32 (iquo .u32 x0 2) 2197175160, x3)
  else
  M.tidepoleref02_step_l1 (iquo .u32 x0 2, x3)
  else
  some x0
  partial_fixpoint

def M.tidepoleref02_step_l1 : Int × Int → Option Int := fun ⟨x0, x3⟩ =>
  M.tidepoleref02_step_l0 (x0, wr .i64 (x3 + 1))
  partial_fixpoint

end

def M.tidepoleref02_step (x0 : Int) : Option Int :=
  M.tidepoleref02_step_l0 (x0, 0)

/-! tidepole/tidepoleref02.More -/
def M.tidepoleref02_More_l0 : List Int × Int × Int → Option Int := fun ⟨x1, x5, x6⟩ =>
  if x6 < (x1.length : Int) then
  if 0 ≤ x6 then
  M.tidepoleref02_step (ixor .u32 x5 (wr .u32 (gi x1 x6))) >>= fun y5 =>
  M.tidepoleref02_More_l0 (x1, y5, wr .i64 (x6 + 1))
  else none
  else
  some (ixor .u32 x5 4294967295)
  partial_fixpoint

def M.tidepoleref02_More (x0 : Int) (x1 : List Int) : Option Int :=
  M.tidepoleref02_More_l0 (x1, ixor .u32 x0 4294967295, 0)

/-! tidepole/tidepoleref02.Sum -/
def M.tidepoleref02_Sum (x0 : List Int) : Option Int :=
  M.tidepoleref02_More 0 x0 >>= fun y1 =>
  some y1

/-! tidepole/tidepolebase.SameBytes -/
def M.tidepolebase_SameBytes (x0 : List Int) (x1 : List Int) : Option Bool :=
  some ((b2s x0).toList == (b2s x1).toList)

/-! tidepole/crc.Put -/
def M.crc_Put_l0 : Int × List Int × Int → Option (List Int) := fun ⟨x1, x5, x13⟩ =>
  if x13 < 4 then
  if 0 ≤ wr .i64 (8 * x13) then
  if ((x5 ++ [wr .u8 (ishr .u32 x1 (wr .i64 (8 * x13)))]).length : Int) ≤ 1099511627776 then
  M.crc_Put_l0 (x1, (x5 ++ [wr .u8 (ishr .u32 x1 (wr .i64 (8 * x13)))]), wr .i64 (x13 + 1))
  else none
  else none
  else
  some x5
  partial_fixpoint

def M.crc_Put (x0 : List Int) (x1 : Int) : Option (List Int) :=
  if 0 ≤ wr .i64 ((x0.length : Int) + 4) then
  if wr .i64 ((x0.length : Int) + 4) ≤ 1099511627776 then
  if (((List.replicate (0 : Int).toNat 0) ++ x0).length : Int) ≤ 1099511627776 then
  M.crc_Put_l0 (x1, ((List.replicate (0 : Int).toNat 0) ++ x0), 0)
  else none
  else none
  else none

/-! tidepole/crc.Sealed -/
def M.crc_Sealed (x0 : List Int) : Option (List Int) :=
  M.crc_Sum x0 >>= fun y1 =>
  M.crc_Put x0 y1 >>= fun y3 =>
  some y3

/-! tidepole/crc.Read -/
def M.crc_Read_l0 : List Int × Int × Int → Option (Int × Int) := fun ⟨x0, x4, x9⟩ =>
  if x9 < 4 then
  if 0 ≤ x9 then
  if x9 < (x0.length : Int) then
  if 0 ≤ wr .i64 (8 * x9) then
  M.crc_Read_l0 (x0, ior .u32 x4 (ishl .u32 (wr .u32 (gi x0 x9)) (wr .i64 (8 * x9))), wr .i64 (x9 + 1))
  else none
  else none
  else none
  else
  some (x4, 0)
  partial_fixpoint

def M.crc_Read (x0 : List Int) : Option (Int × Int) :=
  if (x0.length : Int) < 4 then
  some (0, 7)
  else
  M.crc_Read_l0 (x0, 0, 0)

/-! tidepole/crc.Open -/
def M.crc_Open (x0 : List Int) : Option ((List Int) × Bool) :=
  if wr .i64 ((x0.length : Int) - 4) < 0 then
  some ([], false)
  else
  if 0 ≤ wr .i64 ((x0.length : Int) - 4) then
  if wr .i64 ((x0.length : Int) - 4) ≤ (x0.length : Int) then
  M.crc_Read (sl x0 (wr .i64 ((x0.length : Int) - 4)) (x0.length : Int)) >>= fun y8 =>
  M.crc_Sum (sl x0 0 (wr .i64 ((x0.length : Int) - 4))) >>= fun y13 =>
  if y8.1 = y13 then
  if ((sl x0 0 (wr .i64 ((x0.length : Int) - 4))).length : Int) ≤ 1099511627776 then
  some ((sl x0 0 (wr .i64 ((x0.length : Int) - 4))), true)
  else none
  else
  some ([], false)
  else none
  else none

/-! tidepole/tidepolelaw02.works -/
def M.tidepolelaw02_works : Option Bool :=
  M.crc_Sealed [97, 98] >>= fun y5 =>
  M.crc_Open y5 >>= fun y14 =>
  M.crc_Sum [49, 50, 51, 52, 53, 54, 55, 56, 57] >>= fun y26 =>
  if y26 = 3808858755 then
  if ((b2s y14.1).toList == (⟨#[97, 98]⟩ : ByteArray).toList) = true then
  some y14.2
  else
  some false
  else
  some false

/-! tidepole/tidepolelaw02.CrcSums -/
def M.tidepolelaw02_CrcSums (x0 : Int) (x1 : List Int) : Option Bool :=
  M.tidepolelaw02_short x1 >>= fun y1 =>
  M.tidepolebase_Bytes y1 >>= fun y6 =>
  M.crc_Sum y6 >>= fun y15 =>
  M.tidepoleref02_Sum y1 >>= fun y17 =>
  if y15 = y17 then
  M.crc_More x0 y6 >>= fun y20 =>
  M.tidepoleref02_More x0 y1 >>= fun y22 =>
  if y20 = y22 then
  M.tidepolebase_SameBytes y6 y1 >>= fun y25 =>
  if y25 = true then
  M.tidepolelaw02_works >>= fun y28 =>
  some y28
  else
  some false
  else
  some false
  else
  some false

/-! tidepole/tidepoleref02.Read -/
def M.tidepoleref02_Read (x0 : List Int) : Option (Int × Int) :=
  if (x0.length : Int) < 4 then
  some (0, 7)
  else
  if 0 < (x0.length : Int) then
  if 1 < (x0.length : Int) then
  if 2 < (x0.length : Int) then
  if 3 < (x0.length : Int) then
  some (wr .u32 ((wr .u32 ((wr .u32 ((wr .u32 (gi x0 0)) + (wr .u32 (256 * (wr .u32 (gi x0 1)))))) + (wr .u32 (65536 * (wr .u32 (gi x0 2)))))) + (wr .u32 (16777216 * (wr .u32 (gi x0 3))))), 0)
  else none
  else none
  else none
  else none

/-! tidepole/tidepoleref02.Open -/
def M.tidepoleref02_Open (x0 : List Int) : Option ((List Int) × Bool) :=
  if (x0.length : Int) < 4 then
  some ([], false)
  else
  if 0 ≤ wr .i64 ((x0.length : Int) - 4) then
  if wr .i64 ((x0.length : Int) - 4) ≤ (x0.length : Int) then
  M.tidepoleref02_Read (sl x0 (wr .i64 ((x0.length : Int) - 4)) (x0.length : Int)) >>= fun y8 =>
  M.tidepoleref02_Sum (sl x0 0 (wr .i64 ((x0.length : Int) - 4))) >>= fun y13 =>
  if y8.1 = y13 then
  if ((sl x0 0 (wr .i64 ((x0.length : Int) - 4))).length : Int) ≤ 1099511627776 then
  some ((sl x0 0 (wr .i64 ((x0.length : Int) - 4))), true)
  else none
  else
  some ([], false)
  else none
  else none

/-! tidepole/tidepoleref02.Put -/
def M.tidepoleref02_Put (x0 : List Int) (x1 : Int) : Option (List Int) :=
  if (x0.length : Int) ≤ 1099511627776 then
  if ((x0 ++ [wr .u8 (irem .u32 x1 256), wr .u8 (irem .u32 (iquo .u32 x1 256) 256), wr .u8 (irem .u32 (iquo .u32 x1 65536) 256), wr .u8 (iquo .u32 x1 16777216)]).length : Int) ≤ 1099511627776 then
  some (x0 ++ [wr .u8 (irem .u32 x1 256), wr .u8 (irem .u32 (iquo .u32 x1 256) 256), wr .u8 (irem .u32 (iquo .u32 x1 65536) 256), wr .u8 (iquo .u32 x1 16777216)])
  else none
  else none

/-! tidepole/tidepoleref02.Sealed -/
def M.tidepoleref02_Sealed (x0 : List Int) : Option (List Int) :=
  M.tidepoleref02_Sum x0 >>= fun y1 =>
  M.tidepoleref02_Put x0 y1 >>= fun y3 =>
  some y3

/-! tidepole/tidepolelaw02.CrcSeals -/
def M.tidepolelaw02_CrcSeals (x0 : List Int) (x1 : Int) : Option Bool :=
  M.tidepolelaw02_short x0 >>= fun y1 =>
  M.tidepolebase_Bytes y1 >>= fun y6 =>
  M.crc_Read y6 >>= fun y15 =>
  M.tidepoleref02_Read y1 >>= fun y17 =>
  M.tidepolebase_Bytes y1 >>= fun y19 =>
  M.crc_Open y19 >>= fun y28 =>
  M.tidepoleref02_Open y1 >>= fun y36 =>
  M.tidepolebase_Bytes y1 >>= fun y44 =>
  M.crc_Put y44 x1 >>= fun y53 =>
  M.tidepoleref02_Put y1 x1 >>= fun y61 =>
  M.tidepolebase_SameBytes y53 y61 >>= fun y71 =>
  if y71 = true then
  if y15.1 = y17.1 then
  if y15.2 = y17.2 then
  M.tidepolebase_Bytes y1 >>= fun y76 =>
  M.crc_Sealed y76 >>= fun y85 =>
  M.tidepoleref02_Sealed y1 >>= fun y93 =>
  M.tidepolebase_SameBytes y85 y93 >>= fun y103 =>
  if y103 = true then
  M.tidepolebase_SameBytes y28.1 y36.1 >>= fun y108 =>
  if y108 = true then
  if (y28.2 == y36.2) = true then
  M.tidepolelaw02_works >>= fun y112 =>
  some y112
  else
  some false
  else
  some false
  else
  some false
  else
  some false
  else
  some false
  else
  some false

/-! tidepole/tidepolebase.Among -/
def M.tidepolebase_Among (x0 : Int) (x1 : Int) : Option Int :=
  if x1 < 1 then
  some 0
  else
  if wr .u64 x1 ≠ 0 then
  some (wr .i64 (irem .u64 (wr .u64 x0) (wr .u64 x1)))
  else none

/-! tidepole/tidepolelaw02.CrcFinds -/
mutual

def M.tidepolelaw02_CrcFinds_l1 : List Int × Int × Int × List Int × Int → Option Bool := fun ⟨x0, x1, x2, x7, x8⟩ =>
  if x8 < 32 then
  if irem .u32 x2 2 = 1 then
  if 0 ≤ iquo .i64 (wr .i64 (x1 + x8)) 8 then
  if iquo .i64 (wr .i64 (x1 + x8)) 8 < (x7.length : Int) then
  if 0 ≤ wr .u64 (irem .i64 (wr .i64 (x1 + x8)) 8) then
  M.tidepolelaw02_CrcFinds_l2 (x0, x1, x2, (si x7 (iquo .i64 (wr .i64 (x1 + x8)) 8) (ixor .u8 (gi x7 (iquo .i64 (wr .i64 (x1 + x8)) 8)) (ishl .u8 1 (wr .u64 (irem .i64 (wr .i64 (x1 + x8)) 8))))), x8)
  else none
  else none
  else none
  else
  M.tidepolelaw02_CrcFinds_l2 (x0, x1, x2, x7, x8)
  else
  M.crc_Sum x7 >>= fun y36 =>
  M.crc_Sum x0 >>= fun y38 =>
  some (!(decide (y36 = y38)))
  partial_fixpoint

def M.tidepolelaw02_CrcFinds_l2 : List Int × Int × Int × List Int × Int → Option Bool := fun ⟨x0, x1, x2, x7, x8⟩ =>
  M.tidepolelaw02_CrcFinds_l1 (x0, x1, iquo .u32 x2 2, x7, wr .i64 (x8 + 1))
  partial_fixpoint

end

def M.tidepolelaw02_CrcFinds_l0 : List Int × Int × Int × Bool → Option Bool := fun ⟨x0, x1, x2, x19⟩ =>
  if x19 = true then
  some true
  else
  M.tidepolebase_Bytes x0 >>= fun y11 =>
  M.tidepolebase_Among x1 (wr .i64 (8 * (wr .i64 ((x0.length : Int) - 4)))) >>= fun y19 =>
  M.tidepolelaw02_CrcFinds_l1 (x0, y19, x2, y11, 0)

def M.tidepolelaw02_CrcFinds (x0 : List Int) (x1 : Int) (x2 : Int) : Option Bool :=
  M.tidepolelaw02_works >>= fun y1 =>
  if y1 = true then
  M.tidepolelaw02_short x0 >>= fun y4 =>
  if (y4.length : Int) < 5 then
  M.tidepolelaw02_CrcFinds_l0 (y4, x1, x2, true)
  else
  M.tidepolelaw02_CrcFinds_l0 (y4, x1, x2, decide (x2 = 0))
  else
  some false

/-! tidepole/tidepolelaw02.CrcOpens -/
def M.tidepolelaw02_CrcOpens (x0 : List Int) : Option Bool :=
  M.tidepolelaw02_works >>= fun y1 =>
  if y1 = true then
  M.tidepolelaw02_short x0 >>= fun y4 =>
  M.crc_Sealed y4 >>= fun y9 =>
  M.crc_Open y9 >>= fun y18 =>
  M.crc_Open y4 >>= fun y26 =>
  if y18.2 = true then
  M.tidepolebase_SameBytes y18.1 y4 >>= fun y36 =>
  if y36 = true then
  if y26.2 = true then
  M.crc_Sealed y26.1 >>= fun y41 =>
  M.tidepolebase_SameBytes y41 y4 >>= fun y50 =>
  some y50
  else
  some true
  else
  some false
  else
  some false
  else
  some false

end Go.Gx
