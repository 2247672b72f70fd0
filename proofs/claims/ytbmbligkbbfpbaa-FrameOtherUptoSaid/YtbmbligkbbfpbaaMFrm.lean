import Derived.Test.YtbmbligkbbfpbaaGW

set_option linter.unusedVariables false

namespace Go.Gx

structure T72 where
  b : List Int
  flags : Int
  deriving Inhabited

/-! tidepole/tidepolebase.Bytes -/
def M.tidepolebase_Bytes (x0 : List Int) : Option (List Int) :=
  if (x0.length : Int) ≤ 1099511627776 then
  some x0
  else none

/-! tidepole/tidepolelaw03.few -/
mutual

def M.tidepolelaw03_few_l0 : (List (List Int)) × (List (List Int)) × Int × Int → Option (List (List Int)) := fun ⟨x0, x3, x4, x5⟩ =>
  if x5 < (x0.length : Int) then
  M.tidepolelaw03_few_l1 (x0, x3, x4, x5, decide (x5 < 12))
  else
  M.tidepolelaw03_few_l1 (x0, x3, x4, x5, false)
  partial_fixpoint

def M.tidepolelaw03_few_l1 : (List (List Int)) × (List (List Int)) × Int × Int × Bool → Option (List (List Int)) := fun ⟨x0, x3, x4, x5, x15⟩ =>
  if x15 = true then
  if 0 ≤ x5 then
  if x5 < (x0.length : Int) then
  if ((gi x0 x5).length : Int) > 65536 then
  if 65537 ≤ ((gi x0 x5).length : Int) then
  M.tidepolelaw03_few_l2 (x0, x3, x4, x5, (sl (gi x0 x5) 0 65537))
  else none
  else
  if 0 ≤ imn ((gi x0 x5).length : Int) x4 then
  if imn ((gi x0 x5).length : Int) x4 ≤ ((gi x0 x5).length : Int) then
  some (sl (gi x0 x5) 0 (imn ((gi x0 x5).length : Int) x4)) >>= fun v27 =>
  M.tidepolelaw03_few_l2 (x0, x3, wr .i64 (x4 - (v27.length : Int)), x5, v27)
  else none
  else none
  else none
  else none
  else
  some x3
  partial_fixpoint

def M.tidepolelaw03_few_l2 : (List (List Int)) × (List (List Int)) × Int × Int × (List Int) → Option (List (List Int)) := fun ⟨x0, x3, x4, x5, x6⟩ =>
  M.tidepolebase_Bytes x6 >>= fun y29 =>
  if ((x3 ++ [y29]).length : Int) ≤ 1099511627776 then
  M.tidepolelaw03_few_l0 (x0, (x3 ++ [y29]), x4, wr .i64 (x5 + 1))
  else none
  partial_fixpoint

end

/-! tidepole/tidepolelaw03.few -/
def M.tidepolelaw03_few (x0 : List (List Int)) : Option (List (List Int)) :=
  M.tidepolelaw03_few_l0 (x0, ([] : List (List Int)), 5000, 0)

/-! tidepole/frame.need[[]byte] -/
def M.frame_need_byte (x0 : List Int) : Option Int :=
  some (imx 1 (iquo .i64 (wr .i64 ((wr .i64 ((x0.length : Int) + 244)) - 1)) 244))

/-! tidepole/frame.Need -/
def M.frame_Need_l0 : Int × (List (List Int)) × Int × Int → Option (Int × Int) := fun ⟨x4, x10, x11, x12⟩ =>
  if x12 < x11 then
  if 0 ≤ x12 then
  if x12 < (x10.length : Int) then
  if ((gi x10 x12).length : Int) > 65536 then
  some (0, 3)
  else
  M.frame_need_byte (gi x10 x12) >>= fun y12 =>
  M.frame_Need_l0 (wr .i64 (x4 + y12), x10, x11, wr .i64 (x12 + 1))
  else none
  else none
  else
  some (x4, 0)
  partial_fixpoint

/-! tidepole/frame.Need -/
def M.frame_Need (x0 : List (List Int)) : Option (Int × Int) :=
  if (x0.length : Int) > 4096 then
  some (0, 3)
  else
  M.frame_Need_l0 (0, x0, (x0.length : Int), 0)

/-! tidepole/frame.pieces -/
def M.frame_pieces (x0 : List Int) : Option (List Int) :=
  some x0

/-! tidepole/crc.bits -/
def M.crc_bits (x0 : Int) : Option Int :=
  some x0

/-! tidepole/crc.step -/
def M.crc_step_r (kq1v_0 : Int) (kq5b0v_0 : Int) (a0 : Int) : Option (Int × Int) :=
  some (a0, kq5b0v_0)

/-! tidepole/crc.bits$1 -/
def M.crc_bits_1_l0 : Int × Int × Int → Option (Int × Int) := fun ⟨x3, e1v_0, e2v_0⟩ =>
  if x3 < 8 then
  M.crc_step_r e1v_0 (ixor .u32 (ishr .u32 e2v_0 1) (iand .u32 (wr .u32 (0 - (iand .u32 e2v_0 1))) 2197175160)) (ixor .u32 (ishr .u32 e2v_0 1) (iand .u32 (wr .u32 (0 - (iand .u32 e2v_0 1))) 2197175160)) >>= fun y5 =>
  M.crc_bits_1_l0 (wr .i64 (x3 + 1), y5.1, y5.2)
  else
  some (e1v_0, e2v_0)
  partial_fixpoint

/-! tidepole/crc.bits$1 -/
def M.crc_bits_1 (x0q1v_0 : Int) (x0q5b0v_0 : Int) : Option (Int × Int) :=
  M.crc_bits_1_l0 (0, x0q1v_0, x0q5b0v_0)

/-! tidepole/crc.step -/
def M.crc_step (x0 : Int) : Option Int :=
  M.crc_bits x0 >>= fun y3 =>
  M.crc_bits_1 x0 y3 >>= fun y11 =>
  some y11.1

/-! tidepole/crc.More -/
def M.crc_More_l0 : Int × (List Int) × Int × Int → Option Int := fun ⟨x5, x10, x11, x12⟩ =>
  if x12 < x11 then
  if 0 ≤ x12 then
  if x12 < (x10.length : Int) then
  M.crc_step (ixor .u32 x5 (wr .u32 (gi x10 x12))) >>= fun y7 =>
  M.crc_More_l0 (y7, x10, x11, wr .i64 (x12 + 1))
  else none
  else none
  else
  some (ixor .u32 4294967295 x5)
  partial_fixpoint

/-! tidepole/crc.More -/
def M.crc_More (x0 : Int) (x1 : List Int) : Option Int :=
  M.crc_More_l0 (ixor .u32 4294967295 x0, x1, (x1.length : Int), 0)

/-! tidepole/crc.Sum -/
def M.crc_Sum (x0 : List Int) : Option Int :=
  M.crc_More 0 x0 >>= fun y1 =>
  some y1

/-! tidepole/crc.Put -/
def M.crc_Put_l0 : Int × (List Int) × Int → Option (List Int) := fun ⟨x1, x5, x13⟩ =>
  if x13 < 4 then
  if 0 ≤ wr .i64 (8 * x13) then
  some (x5 ++ [wr .u8 (ishr .u32 x1 (wr .i64 (8 * x13)))]) >>= fun v24 =>
  if (v24.length : Int) ≤ 1099511627776 then
  M.crc_Put_l0 (x1, v24, wr .i64 (x13 + 1))
  else none
  else none
  else
  some x5
  partial_fixpoint

/-! tidepole/crc.Put -/
def M.crc_Put (x0 : List Int) (x1 : Int) : Option (List Int) :=
  if 0 ≤ wr .i64 ((x0.length : Int) + 4) then
  if wr .i64 ((x0.length : Int) + 4) ≤ 1099511627776 then
  if (x0.length : Int) ≤ 1099511627776 then
  M.crc_Put_l0 (x1, x0, 0)
  else none
  else none
  else none

/-! tidepole/frame.sector -/
def M.frame_sector_l0 : Int × (List Int) × Int × (List Int) × (List Int) × Int → Option (List Int) := fun ⟨x0, x1, x2, x6, x7, x9⟩ =>
  if x9 < 4 then
  if 0 ≤ wr .i64 (8 * x9) then
  if 0 ≤ x9 then
  if x9 < 256 then
  some (si x7 x9 (wr .u8 (ishr .i64 x0 (wr .i64 (8 * x9))))) >>= fun v19 =>
  M.frame_sector_l0 (x0, x1, x2, x6, v19, wr .i64 (x9 + 1))
  else none
  else none
  else none
  else
  some (si (si x7 4 (wr .u8 (x1.length : Int))) 5 (wr .u8 (ishr .i64 (x1.length : Int) 8))) >>= fun v33 =>
  M.crc_Sum (sl (cpy (si v33 6 x2) 7 (256 - 7) x1) 0 251) >>= fun y52 =>
  M.crc_Put ([] : List Int) y52 >>= fun y54 =>
  some (cpy (cpy (si v33 6 x2) 7 (256 - 7) x1) 251 (256 - 251) y54) >>= fun v61 =>
  some (si v61 255 255)
  partial_fixpoint

/-! tidepole/frame.sector -/
def M.frame_sector (x0 : Int) (x1 : List Int) (x2 : Int) : Option (List Int) :=
  M.frame_sector_l0 (x0, x1, x2, (List.replicate 256 0), (List.replicate 256 0), 0)

/-! tidepole/frame.Write -/
def M.frame_Write_r (kq2v_0 : Int) (kq8v_0 : List Int) (kq44 : List (List Int)) (kq45 : Int) (kq46 : Int) (kq51b0v_0 : List Int) (a0 : List Int) (a1 : Int) : Option (Int × (List Int) × (List Int)) :=
  M.frame_sector kq2v_0 a0 a1 >>= fun y6 =>
  if ((kq8v_0 ++ (sl y6 0 256)).length : Int) ≤ 1099511627776 then
  some (wr .i64 (kq2v_0 + 1), (kq8v_0 ++ (sl y6 0 256)), kq51b0v_0)
  else none

/-! tidepole/frame.pieces$1 -/
def M.frame_pieces_1_l0 : Int × Int × (List Int) × (List Int) × (List (List Int)) × Int × Int → Option (Int × (List Int) × (List Int)) := fun ⟨x3, e1v_0, e2v_0, e3v_0, x0q44, x0q45, x0q46⟩ =>
  if (e3v_0.length : Int) > 244 then
  if 244 ≤ (e3v_0.length : Int) then
  M.frame_Write_r e1v_0 e2v_0 x0q44 x0q45 x0q46 e3v_0 (sl e3v_0 0 244) x3 >>= fun y12 =>
  if 244 ≤ (y12.2.2.length : Int) then
  M.frame_pieces_1_l0 (0, y12.1, y12.2.1, (sl y12.2.2 244 (y12.2.2.length : Int)), x0q44, x0q45, x0q46)
  else none
  else none
  else
  M.frame_Write_r e1v_0 e2v_0 x0q44 x0q45 x0q46 e3v_0 e3v_0 (ior .u8 x3 2) >>= fun y19 =>
  some (y19.1, y19.2.1, y19.2.2)
  partial_fixpoint

/-! tidepole/frame.pieces$1 -/
def M.frame_pieces_1 (x0q2v_0 : Int) (x0q8v_0 : List Int) (x0q44 : List (List Int)) (x0q45 : Int) (x0q46 : Int) (x0q51b0v_0 : List Int) : Option (Int × (List Int) × (List Int)) :=
  M.frame_pieces_1_l0 (1, x0q2v_0, x0q8v_0, x0q51b0v_0, x0q44, x0q45, x0q46)

/-! tidepole/frame.Write -/
def M.frame_Write_l1 : Int × (List Int) × (List (List Int)) × Int × Int → Option ((List Int) × Int) := fun ⟨x2v_0, x8v_0, x44, x45, x46⟩ =>
  if x46 < x45 then
  if 0 ≤ x46 then
  if x46 < (x44.length : Int) then
  M.frame_pieces (gi x44 x46) >>= fun y33 =>
  M.frame_pieces_1 x2v_0 x8v_0 x44 x45 x46 y33 >>= fun y41 =>
  M.frame_Write_l1 (y41.1, y41.2.1, x44, x45, wr .i64 (x46 + 1))
  else none
  else none
  else
  some (x8v_0, 0)
  partial_fixpoint

/-! tidepole/frame.Write -/
def M.frame_Write_l0 : (List (List Int)) × Int × Int × Bool → Option ((List Int) × Int) := fun ⟨x1, x2v_0, x6, x23⟩ =>
  if x23 = true then
  some (([] : List Int), 2)
  else
  if 0 ≤ wr .i64 (x6 * 256) then
  if wr .i64 (x6 * 256) ≤ 1099511627776 then
  M.frame_Write_l1 (x2v_0, ([] : List Int), x1, (x1.length : Int), 0)
  else none
  else none

/-! tidepole/frame.Write -/
def M.frame_Write (x0 : Int) (x1 : List (List Int)) : Option ((List Int) × Int) :=
  M.frame_Need x1 >>= fun y3 =>
  if y3.2 = 0 then
  if x0 < 0 then
  M.frame_Write_l0 (x1, x0, y3.1, true)
  else
  if x0 > 4294967295 then
  M.frame_Write_l0 (x1, x0, y3.1, true)
  else
  if y3.1 > 0 then
  M.frame_Write_l0 (x1, x0, y3.1, decide (x0 > wr .i64 ((wr .i64 (4294967295 - y3.1)) + 1)))
  else
  M.frame_Write_l0 (x1, x0, y3.1, false)
  else
  some (([] : List Int), y3.2)

/-! tidepole/tidepoleref03.Need -/
def M.tidepoleref03_Need_l0 : (List (List Int)) × Int × Int → Option (Int × Int) := fun ⟨x0, x4, x5⟩ =>
  if x5 < (x0.length : Int) then
  if 0 ≤ x5 then
  if ((gi x0 x5).length : Int) > 65536 then
  some (0, 3)
  else
  M.tidepoleref03_Need_l0 (x0, wr .i64 (x4 + (imx 1 (iquo .i64 (wr .i64 (((gi x0 x5).length : Int) + 243)) 244))), wr .i64 (x5 + 1))
  else none
  else
  some (x4, 0)
  partial_fixpoint

/-! tidepole/tidepoleref03.Need -/
def M.tidepoleref03_Need (x0 : List (List Int)) : Option (Int × Int) :=
  if (x0.length : Int) > 4096 then
  some (0, 3)
  else
  M.tidepoleref03_Need_l0 (x0, 0, 0)

/-! tidepole/tidepoleref02.step -/
mutual

def M.tidepoleref02_step_l0 : Int × Int → Option Int := fun ⟨x0, x3⟩ =>
  if x3 < 8 then
  if irem .u32 x0 2 = 1 then
  M.tidepoleref02_step_l1 (ixor .u32 (iquo .u32 x0 2) 2197175160, x3)
  else
  M.tidepoleref02_step_l1 (iquo .u32 x0 2, x3)
  else
  some x0
  partial_fixpoint

def M.tidepoleref02_step_l1 : Int × Int → Option Int := fun ⟨x0, x3⟩ =>
  M.tidepoleref02_step_l0 (x0, wr .i64 (x3 + 1))
  partial_fixpoint

end

/-! tidepole/tidepoleref02.step -/
def M.tidepoleref02_step (x0 : Int) : Option Int :=
  M.tidepoleref02_step_l0 (x0, 0)

/-! tidepole/tidepoleref02.More -/
def M.tidepoleref02_More_l0 : (List Int) × Int × Int → Option Int := fun ⟨x1, x5, x6⟩ =>
  if x6 < (x1.length : Int) then
  if 0 ≤ x6 then
  M.tidepoleref02_step (ixor .u32 x5 (wr .u32 (gi x1 x6))) >>= fun y6 =>
  M.tidepoleref02_More_l0 (x1, y6, wr .i64 (x6 + 1))
  else none
  else
  some (ixor .u32 x5 4294967295)
  partial_fixpoint

/-! tidepole/tidepoleref02.More -/
def M.tidepoleref02_More (x0 : Int) (x1 : List Int) : Option Int :=
  M.tidepoleref02_More_l0 (x1, ixor .u32 x0 4294967295, 0)

/-! tidepole/tidepoleref02.Sum -/
def M.tidepoleref02_Sum (x0 : List Int) : Option Int :=
  M.tidepoleref02_More 0 x0 >>= fun y1 =>
  some y1

/-! tidepole/tidepoleref02.Put -/
def M.tidepoleref02_Put (x0 : List Int) (x1 : Int) : Option (List Int) :=
  if (x0.length : Int) ≤ 1099511627776 then
  some [wr .u8 (irem .u32 x1 256), wr .u8 (irem .u32 (iquo .u32 x1 256) 256), wr .u8 (irem .u32 (iquo .u32 x1 65536) 256), wr .u8 (iquo .u32 x1 16777216)] >>= fun v14 =>
  if ((x0 ++ v14).length : Int) ≤ 1099511627776 then
  some (x0 ++ v14)
  else none
  else none

/-! tidepole/tidepoleref03.Sector -/
def M.tidepoleref03_Sector (x0 : Int) (x1 : List Int) (x2 : Int) : Option (List Int) :=
  some [wr .u8 (irem .i64 x0 256), wr .u8 (irem .i64 (iquo .i64 x0 256) 256), wr .u8 (irem .i64 (iquo .i64 x0 65536) 256), wr .u8 (iquo .i64 x0 16777216), wr .u8 (irem .i64 (x1.length : Int) 256), wr .u8 (iquo .i64 (x1.length : Int) 256), wr .u8 x2] >>= fun v3 =>
  if ((v3 ++ x1).length : Int) ≤ 1099511627776 then
  if 0 ≤ wr .i64 (251 - ((v3 ++ x1).length : Int)) then
  if ((v3 ++ x1).length : Int) + (wr .i64 (251 - ((v3 ++ x1).length : Int))) ≤ 1099511627776 then
  some ((v3 ++ x1) ++ List.replicate (wr .i64 (251 - ((v3 ++ x1).length : Int)) : Int).toNat (0 : Int)) >>= fun v19 =>
  M.tidepoleref02_Sum v19 >>= fun y26 =>
  M.tidepoleref02_Put v19 y26 >>= fun y28 =>
  if ((y28 ++ [255]).length : Int) ≤ 1099511627776 then
  some (y28 ++ [255])
  else none
  else none
  else none
  else none

/-! tidepole/tidepoleref03.Write -/
mutual

def M.tidepoleref03_Write_l1 : Int × (List (List Int)) × (List Int) × Int → Option ((List Int) × Int) := fun ⟨x0, x1, x8, x9⟩ =>
  if x9 < (x1.length : Int) then
  M.tidepoleref03_Write_l2 (x0, x1, x8, x9, 0)
  else
  some (x8, 0)
  partial_fixpoint

def M.tidepoleref03_Write_l2 : Int × (List (List Int)) × (List Int) × Int × Int → Option ((List Int) × Int) := fun ⟨x0, x1, x8, x9, x10⟩ =>
  if x10 = 0 then
  M.tidepoleref03_Write_l3 (x0, x1, x8, x9, x10, true)
  else
  if 0 ≤ x9 then
  if x9 < (x1.length : Int) then
  M.tidepoleref03_Write_l3 (x0, x1, x8, x9, x10, decide (x10 < ((gi x1 x9).length : Int)))
  else none
  else none
  partial_fixpoint

def M.tidepoleref03_Write_l3 : Int × (List (List Int)) × (List Int) × Int × Int × Bool → Option ((List Int) × Int) := fun ⟨x0, x1, x8, x9, x10, x55⟩ =>
  if x55 = true then
  if x10 = 0 then
  M.tidepoleref03_Write_l4 (x0, x1, x8, x9, x10, 1)
  else
  M.tidepoleref03_Write_l4 (x0, x1, x8, x9, x10, 0)
  else
  M.tidepoleref03_Write_l1 (x0, x1, x8, wr .i64 (x9 + 1))
  partial_fixpoint

def M.tidepoleref03_Write_l4 : Int × (List (List Int)) × (List Int) × Int × Int × Int → Option ((List Int) × Int) := fun ⟨x0, x1, x8, x9, x10, x11⟩ =>
  if 0 ≤ x9 then
  if x9 < (x1.length : Int) then
  if imn ((gi x1 x9).length : Int) (wr .i64 (x10 + 244)) = ((gi x1 x9).length : Int) then
  M.tidepoleref03_Write_l5 (x0, x1, x8, x9, x10, wr .i64 (x11 + 2), imn ((gi x1 x9).length : Int) (wr .i64 (x10 + 244)))
  else
  M.tidepoleref03_Write_l5 (x0, x1, x8, x9, x10, x11, imn ((gi x1 x9).length : Int) (wr .i64 (x10 + 244)))
  else none
  else none
  partial_fixpoint

def M.tidepoleref03_Write_l5 : Int × (List (List Int)) × (List Int) × Int × Int × Int × Int → Option ((List Int) × Int) := fun ⟨x0, x1, x8, x9, x10, x11, x12⟩ =>
  if 0 ≤ x9 then
  if x9 < (x1.length : Int) then
  if 0 ≤ x10 then
  if x10 ≤ x12 then
  if x12 ≤ ((gi x1 x9).length : Int) then
  M.tidepoleref03_Sector x0 (sl (gi x1 x9) x10 x12) x11 >>= fun y59 =>
  if ((x8 ++ y59).length : Int) ≤ 1099511627776 then
  M.tidepoleref03_Write_l2 (wr .i64 (x0 + 1), x1, (x8 ++ y59), x9, wr .i64 (x10 + 244))
  else none
  else none
  else none
  else none
  else none
  else none
  partial_fixpoint

end

/-! tidepole/tidepoleref03.Write -/
def M.tidepoleref03_Write_l0 : Int × (List (List Int)) × Bool → Option ((List Int) × Int) := fun ⟨x0, x1, x37⟩ =>
  if x37 = true then
  some (([] : List Int), 2)
  else
  M.tidepoleref03_Write_l1 (x0, x1, ([] : List Int), 0)

/-! tidepole/tidepoleref03.Write -/
def M.tidepoleref03_Write (x0 : Int) (x1 : List (List Int)) : Option ((List Int) × Int) :=
  M.tidepoleref03_Need x1 >>= fun y1 =>
  if y1.2 = 0 then
  if x0 < 0 then
  M.tidepoleref03_Write_l0 (x0, x1, true)
  else
  if x0 > 4294967295 then
  M.tidepoleref03_Write_l0 (x0, x1, true)
  else
  if y1.1 > 0 then
  M.tidepoleref03_Write_l0 (x0, x1, decide (x0 > wr .i64 ((wr .i64 (4294967295 - y1.1)) + 1)))
  else
  M.tidepoleref03_Write_l0 (x0, x1, false)
  else
  some (([] : List Int), y1.2)

/-! tidepole/tidepolebase.SameBytes -/
def M.tidepolebase_SameBytes (x0 : List Int) (x1 : List Int) : Option Bool :=
  some ((b2s x0).toList == (b2s x1).toList)

/-! tidepole/frame.sectors -/
def M.frame_sectors (x0 : Int) (x1 : List Int) : Option ((List Int) × Int) :=
  some (x1, x0)

/-! tidepole/frame.First -/
def M.frame_First_l1 : (List Int) × Int × Int × Int × Bool → Option (Int × (List Int) × Int × Int) := fun ⟨x0, x6, x8, x9, x46⟩ =>
  if x46 = true then
  some (0, ([] : List Int), 0, 30)
  else
  if 7 ≤ wr .i64 (7 + x8) then
  if wr .i64 (7 + x8) ≤ (x0.length : Int) then
  if 256 ≤ (x0.length : Int) then
  M.frame_sector x6 (sl x0 7 (wr .i64 (7 + x8))) x9 >>= fun y36 =>
  if y36 = (x0.take 256) then
  if ((sl x0 7 (wr .i64 (7 + x8))).length : Int) ≤ 1099511627776 then
  some (x6, (sl x0 7 (wr .i64 (7 + x8))), wr .i64 x9, 0)
  else none
  else
  some (0, ([] : List Int), 0, 30)
  else none
  else none
  else none

/-! tidepole/frame.First -/
def M.frame_First_l0 : (List Int) × Int × Int → Option (Int × (List Int) × Int × Int) := fun ⟨x0, x6, x14⟩ =>
  if x14 < 4 then
  if 0 ≤ x14 then
  if x14 < (x0.length : Int) then
  if 0 ≤ wr .i64 (8 * x14) then
  M.frame_First_l0 (x0, ior .i64 x6 (ishl .i64 (wr .i64 (gi x0 x14)) (wr .i64 (8 * x14))), wr .i64 (x14 + 1))
  else none
  else none
  else none
  else
  if 4 < (x0.length : Int) then
  if 5 < (x0.length : Int) then
  if 6 < (x0.length : Int) then
  if ior .i64 (wr .i64 (gi x0 4)) (ishl .i64 (wr .i64 (gi x0 5)) 8) > 244 then
  M.frame_First_l1 (x0, x6, ior .i64 (wr .i64 (gi x0 4)) (ishl .i64 (wr .i64 (gi x0 5)) 8), gi x0 6, true)
  else
  M.frame_First_l1 (x0, x6, ior .i64 (wr .i64 (gi x0 4)) (ishl .i64 (wr .i64 (gi x0 5)) 8), gi x0 6, decide (gi x0 6 > 3))
  else none
  else none
  else none
  partial_fixpoint

/-! tidepole/frame.First -/
def M.frame_First (x0 : List Int) : Option (Int × (List Int) × Int × Int) :=
  if (x0.length : Int) < 256 then
  some (0, ([] : List Int), 0, 30)
  else
  M.frame_First_l0 (x0, 0, 0)

/-! tidepole/frame.Read -/
def M.frame_Read_r_l0 : Int × T72 × Bool × (List (List Int)) × (List Int) × Int × Bool × (List Int) × Int → Option (Nat × (List (List Int)) × (List Int) × Int × Bool × (List Int) × Int) := fun ⟨x11, x12v, x41, e1v_0, e2v_0, e3v_0, e4v_0, e5v_0, e6v_0⟩ =>
  if x41 = true then
  some (1, e1v_0, e2v_0, e3v_0, e4v_0, e5v_0, e6v_0)
  else
  if ((e2v_0 ++ x12v.b).length : Int) ≤ 1099511627776 then
  if iand .i64 x12v.flags 2 = 0 then
  some (0, e1v_0, (e2v_0 ++ x12v.b), e3v_0, true, e5v_0, e6v_0)
  else
  if ((e1v_0 ++ [(e2v_0 ++ x12v.b)]).length : Int) ≤ 1099511627776 then
  some (0, (e1v_0 ++ [(e2v_0 ++ x12v.b)]), ([] : List Int), wr .i64 (x11 + 1), false, e5v_0, e6v_0)
  else none
  else none

/-! tidepole/frame.Read -/
def M.frame_Read_r (kq7v_0 : List (List Int)) (kq8v_0 : List Int) (kq9v_0 : Int) (kq10v_0 : Bool) (kq21b0v_0 : List Int) (kq21b1v_0 : Int) (a0 : Int) (a1 : T72) : Option (Nat × (List (List Int)) × (List Int) × Int × Bool × (List Int) × Int) :=
  if ((!(decide (iand .i64 a1.flags 1 = 0))) == kq10v_0) = true then
  M.frame_Read_r_l0 (a0, a1, true, kq7v_0, kq8v_0, kq9v_0, kq10v_0, kq21b0v_0, kq21b1v_0)
  else
  if (a1.b.length : Int) < 244 then
  M.frame_Read_r_l0 (a0, a1, decide (iand .i64 a1.flags 2 = 0), kq7v_0, kq8v_0, kq9v_0, kq10v_0, kq21b0v_0, kq21b1v_0)
  else
  M.frame_Read_r_l0 (a0, a1, false, kq7v_0, kq8v_0, kq9v_0, kq10v_0, kq21b0v_0, kq21b1v_0)

/-! tidepole/frame.sectors$1 -/
mutual

def M.frame_sectors_1_l0 : Int × (List (List Int)) × (List Int) × Int × Bool × (List Int) × Int → Option (Nat × (List (List Int)) × (List Int) × Int × Bool × (List Int) × Int) := fun ⟨x4, e1v_0, e2v_0, e3v_0, e4v_0, e5v_0, e6v_0⟩ =>
  if 0 ≤ imn (e5v_0.length : Int) (wr .i64 (x4 * 256)) then
  if imn (e5v_0.length : Int) (wr .i64 (x4 * 256)) ≤ (e5v_0.length : Int) then
  some (sl e5v_0 (imn (e5v_0.length : Int) (wr .i64 (x4 * 256))) (e5v_0.length : Int)) >>= fun v17 =>
  M.frame_First v17 >>= fun y19 =>
  if y19.2.2.2 = 0 then
  if y19.1 = wr .i64 (e6v_0 + x4) then
  M.frame_Read_r e1v_0 e2v_0 e3v_0 e4v_0 e5v_0 e6v_0 x4 (⟨y19.2.1, y19.2.2.1⟩ : T72) >>= fun y25 =>
  if y25.1 = 0 then
  M.frame_sectors_1_l1 (x4, false, y25.2.1, y25.2.2.1, y25.2.2.2.1, y25.2.2.2.2.1, y25.2.2.2.2.2.1, y25.2.2.2.2.2.2)
  else
  some (y25.1, y25.2.1, y25.2.2.1, y25.2.2.2.1, y25.2.2.2.2.1, y25.2.2.2.2.2.1, y25.2.2.2.2.2.2)
  else
  M.frame_sectors_1_l1 (x4, true, e1v_0, e2v_0, e3v_0, e4v_0, e5v_0, e6v_0)
  else
  M.frame_sectors_1_l1 (x4, true, e1v_0, e2v_0, e3v_0, e4v_0, e5v_0, e6v_0)
  else none
  else none
  partial_fixpoint

def M.frame_sectors_1_l1 : Int × Bool × (List (List Int)) × (List Int) × Int × Bool × (List Int) × Int → Option (Nat × (List (List Int)) × (List Int) × Int × Bool × (List Int) × Int) := fun ⟨x4, x41, e1v_0, e2v_0, e3v_0, e4v_0, e5v_0, e6v_0⟩ =>
  if x41 = true then
  some (0, e1v_0, e2v_0, e3v_0, e4v_0, e5v_0, e6v_0)
  else
  M.frame_sectors_1_l0 (wr .i64 (x4 + 1), e1v_0, e2v_0, e3v_0, e4v_0, e5v_0, e6v_0)
  partial_fixpoint

end

/-! tidepole/frame.sectors$1 -/
def M.frame_sectors_1 (x0q7v_0 : List (List Int)) (x0q8v_0 : List Int) (x0q9v_0 : Int) (x0q10v_0 : Bool) (x0q21b0v_0 : List Int) (x0q21b1v_0 : Int) : Option (Nat × (List (List Int)) × (List Int) × Int × Bool × (List Int) × Int) :=
  M.frame_sectors_1_l0 (0, x0q7v_0, x0q8v_0, x0q9v_0, x0q10v_0, x0q21b0v_0, x0q21b1v_0)

/-! tidepole/frame.Read -/
def M.frame_Read_l0 : Int × (List Int) × Bool → Option ((List (List Int)) × Int × Int) := fun ⟨x0, x1, x18⟩ =>
  if x18 = true then
  some (([] : List (List Int)), 0, 2)
  else
  M.frame_sectors x0 x1 >>= fun y12 =>
  M.frame_sectors_1 ([] : List (List Int)) ([] : List Int) 0 false y12.1 y12.2 >>= fun y23 =>
  if y23.1 = 0 then
  some (y23.2.1, y23.2.2.2.1, 0)
  else
  if y23.1 = 1 then
  some (y23.2.1, y23.2.2.2.1, 0)
  else
  none

/-! tidepole/frame.Read -/
def M.frame_Read (x0 : Int) (x1 : List Int) : Option ((List (List Int)) × Int × Int) :=
  if x0 < 0 then
  M.frame_Read_l0 (x0, x1, true)
  else
  M.frame_Read_l0 (x0, x1, decide (x0 > 4294967295))

/-! tidepole/tidepolelaw03.works -/
def M.tidepolelaw03_works : Option Bool :=
  some [[97], (List.replicate (300 : Int).toNat (0 : Int))] >>= fun v12 =>
  M.frame_Write 5 v12 >>= fun y16 =>
  M.frame_Read 5 y16.1 >>= fun y20 =>
  if (y16.1.length : Int) = 768 then
  if y16.2 = 0 then
  if (y20.1.length : Int) = 2 then
  if 0 < (y20.1.length : Int) then
  if ((gi y20.1 0).length : Int) = 1 then
  if 1 < (y20.1.length : Int) then
  if ((gi y20.1 1).length : Int) = 300 then
  if y20.2.1 = 3 then
  some (decide (y20.2.2 = 0))
  else
  some false
  else
  some false
  else none
  else
  some false
  else none
  else
  some false
  else
  some false
  else
  some false

/-! tidepole/tidepolelaw03.FrameWrites -/
def M.tidepolelaw03_FrameWrites (x0 : Int) (x1 : List (List Int)) : Option Bool :=
  M.tidepolelaw03_few x1 >>= fun y1 =>
  M.tidepolelaw03_few y1 >>= fun y5 =>
  M.frame_Write x0 y5 >>= fun y9 =>
  M.tidepoleref03_Write x0 y1 >>= fun y12 =>
  M.tidepolelaw03_few y1 >>= fun y15 =>
  M.frame_Need y15 >>= fun y19 =>
  M.tidepoleref03_Need y1 >>= fun y21 =>
  M.tidepolebase_SameBytes y9.1 y12.1 >>= fun y25 =>
  if y25 = true then
  if y9.2 = y12.2 then
  if y19.1 = y21.1 then
  if y19.2 = y21.2 then
  M.tidepolelaw03_works >>= fun y31 =>
  some y31
  else
  some false
  else
  some false
  else
  some false
  else
  some false

/-! tidepole/tidepolebase.Among -/
def M.tidepolebase_Among (x0 : Int) (x1 : Int) : Option Int :=
  if x1 < 1 then
  some 0
  else
  if wr .u64 x1 ≠ 0 then
  some (wr .i64 (irem .u64 (wr .u64 x0) (wr .u64 x1)))
  else none

/-! tidepole/tidepolelaw03.laid -/
mutual

def M.tidepolelaw03_laid_l0 : Int × (List (List Int)) × (List (List Int)) × Int → Option (Int × (List (List Int)) × (List Int)) := fun ⟨x0, x1, x7, x8⟩ =>
  if x8 < (x1.length : Int) then
  M.tidepolelaw03_laid_l1 (x0, x1, x7, x8, decide (x8 < 8))
  else
  M.tidepolelaw03_laid_l1 (x0, x1, x7, x8, false)
  partial_fixpoint

def M.tidepolelaw03_laid_l1 : Int × (List (List Int)) × (List (List Int)) × Int × Bool → Option (Int × (List (List Int)) × (List Int)) := fun ⟨x0, x1, x7, x8, x21⟩ =>
  if x21 = true then
  if 0 ≤ x8 then
  if x8 < (x1.length : Int) then
  if 0 ≤ imn ((gi x1 x8).length : Int) 600 then
  if imn ((gi x1 x8).length : Int) 600 ≤ ((gi x1 x8).length : Int) then
  some (sl (gi x1 x8) 0 (imn ((gi x1 x8).length : Int) 600)) >>= fun v29 =>
  M.tidepolebase_Bytes v29 >>= fun y31 =>
  if ((x7 ++ [y31]).length : Int) ≤ 1099511627776 then
  M.tidepolelaw03_laid_l0 (x0, x1, (x7 ++ [y31]), wr .i64 (x8 + 1))
  else none
  else none
  else none
  else none
  else none
  else
  M.frame_Write x0 x7 >>= fun y47 =>
  some (x0, x7, y47.1)
  partial_fixpoint

end

/-! tidepole/tidepolelaw03.laid -/
def M.tidepolelaw03_laid (x0 : Int) (x1 : List (List Int)) : Option (Int × (List (List Int)) × (List Int)) :=
  M.tidepolebase_Among x0 1000000 >>= fun y1 =>
  M.tidepolelaw03_laid_l0 (y1, x1, ([] : List (List Int)), 0)

/-! tidepole/tidepoleref03.First -/
def M.tidepoleref03_First_l1 : (List Int) × Int × Int × (List Int) × Int → Option (Int × (List Int) × Int × Int) := fun ⟨x0, x6, x7, x8, x9⟩ =>
  if x9 < 256 then
  if 0 ≤ x9 then
  if x9 < (x0.length : Int) then
  if x9 < (x8.length : Int) then
  if gi x0 x9 = gi x8 x9 then
  M.tidepoleref03_First_l1 (x0, x6, x7, x8, wr .i64 (x9 + 1))
  else
  some (0, ([] : List Int), 0, 30)
  else none
  else none
  else none
  else
  if 7 ≤ wr .i64 (7 + x7) then
  if wr .i64 (7 + x7) ≤ (x0.length : Int) then
  if 6 < (x0.length : Int) then
  if ((sl x0 7 (wr .i64 (7 + x7))).length : Int) ≤ 1099511627776 then
  some (x6, (sl x0 7 (wr .i64 (7 + x7))), wr .i64 (gi x0 6), 0)
  else none
  else none
  else none
  else none
  partial_fixpoint

/-! tidepole/tidepoleref03.First -/
def M.tidepoleref03_First_l0 : (List Int) × Int × Int × Bool → Option (Int × (List Int) × Int × Int) := fun ⟨x0, x6, x7, x52⟩ =>
  if x52 = true then
  some (0, ([] : List Int), 0, 30)
  else
  if 7 ≤ wr .i64 (7 + x7) then
  if wr .i64 (7 + x7) ≤ (x0.length : Int) then
  if 6 < (x0.length : Int) then
  M.tidepoleref03_Sector x6 (sl x0 7 (wr .i64 (7 + x7))) (wr .i64 (gi x0 6)) >>= fun y43 =>
  M.tidepoleref03_First_l1 (x0, x6, x7, y43, 0)
  else none
  else none
  else none

/-! tidepole/tidepoleref03.First -/
def M.tidepoleref03_First (x0 : List Int) : Option (Int × (List Int) × Int × Int) :=
  if (x0.length : Int) < 256 then
  some (0, ([] : List Int), 0, 30)
  else
  if 0 < (x0.length : Int) then
  if 1 < (x0.length : Int) then
  if 2 < (x0.length : Int) then
  if 3 < (x0.length : Int) then
  if 4 < (x0.length : Int) then
  if 5 < (x0.length : Int) then
  if wr .i64 ((wr .i64 (gi x0 4)) + (wr .i64 (256 * (wr .i64 (gi x0 5))))) > 244 then
  M.tidepoleref03_First_l0 (x0, wr .i64 ((wr .i64 ((wr .i64 ((wr .i64 (gi x0 0)) + (wr .i64 (256 * (wr .i64 (gi x0 1)))))) + (wr .i64 (65536 * (wr .i64 (gi x0 2)))))) + (wr .i64 (16777216 * (wr .i64 (gi x0 3))))), wr .i64 ((wr .i64 (gi x0 4)) + (wr .i64 (256 * (wr .i64 (gi x0 5))))), true)
  else
  if 6 < (x0.length : Int) then
  M.tidepoleref03_First_l0 (x0, wr .i64 ((wr .i64 ((wr .i64 ((wr .i64 (gi x0 0)) + (wr .i64 (256 * (wr .i64 (gi x0 1)))))) + (wr .i64 (65536 * (wr .i64 (gi x0 2)))))) + (wr .i64 (16777216 * (wr .i64 (gi x0 3))))), wr .i64 ((wr .i64 (gi x0 4)) + (wr .i64 (256 * (wr .i64 (gi x0 5))))), decide (gi x0 6 > 3))
  else none
  else none
  else none
  else none
  else none
  else none
  else none

/-! tidepole/tidepolelaw03.same -/
def M.tidepolelaw03_same_l0 : (List (List Int)) × (List (List Int)) × Int → Option Bool := fun ⟨x0, x1, x5⟩ =>
  if x5 < (x0.length : Int) then
  if 0 ≤ x5 then
  if x5 < (x1.length : Int) then
  M.tidepolebase_SameBytes (gi x0 x5) (gi x1 x5) >>= fun y17 =>
  if y17 = true then
  M.tidepolelaw03_same_l0 (x0, x1, wr .i64 (x5 + 1))
  else
  some false
  else none
  else none
  else
  some true
  partial_fixpoint

/-! tidepole/tidepolelaw03.same -/
def M.tidepolelaw03_same (x0 : List (List Int)) (x1 : List (List Int)) : Option Bool :=
  if (x0.length : Int) = (x1.length : Int) then
  M.tidepolelaw03_same_l0 (x0, x1, 0)
  else
  some false

/-! tidepole/tidepolelaw03.FrameBack -/
def M.tidepolelaw03_FrameBack_l0 : Int × (List Int) × (List (List Int)) × (List Int) × Bool → Option Bool := fun ⟨x0, x2, x7, x8, x47⟩ =>
  if x47 = true then
  some true
  else
  M.tidepolebase_Bytes x8 >>= fun y21 =>
  if ((y21 ++ x2).length : Int) ≤ 1099511627776 then
  M.frame_Read x0 (y21 ++ x2) >>= fun y33 =>
  if y33.2.2 = 0 then
  M.tidepolelaw03_same y33.1 x7 >>= fun y39 =>
  if y39 = true then
  if y33.2.1 = iquo .i64 (x8.length : Int) 256 then
  some (decide (irem .i64 (x8.length : Int) 256 = 0))
  else
  some false
  else
  some false
  else
  some false
  else none

/-! tidepole/tidepolelaw03.FrameBack -/
def M.tidepolelaw03_FrameBack (x0 : Int) (x1 : List (List Int)) (x2 : List Int) : Option Bool :=
  M.tidepolelaw03_works >>= fun y1 =>
  if y1 = true then
  M.tidepolelaw03_laid x0 x1 >>= fun y4 =>
  if 0 ≤ imn (x2.length : Int) 600 then
  if imn (x2.length : Int) 600 ≤ (x2.length : Int) then
  M.tidepoleref03_First (sl x2 0 (imn (x2.length : Int) 600)) >>= fun y13 =>
  if y13.2.2.2 = 0 then
  M.tidepolelaw03_FrameBack_l0 (y4.1, (sl x2 0 (imn (x2.length : Int) 600)), y4.2.1, y4.2.2, decide (y13.1 = wr .i64 (y4.1 + (iquo .i64 (y4.2.2.length : Int) 256))))
  else
  M.tidepolelaw03_FrameBack_l0 (y4.1, (sl x2 0 (imn (x2.length : Int) 600)), y4.2.1, y4.2.2, false)
  else none
  else none
  else
  some false

/-! tidepole/tidepolelaw03.FrameFronts -/
def M.tidepolelaw03_FrameFronts_l1 : (List (List Int)) × Int × (List (List Int)) × Int × Int × Int × (List (List Int)) × Int → Option Bool := fun ⟨x9, x11, x13, x14, x15, x16, x17, x18⟩ =>
  if x18 < (x9.length : Int) then
  if 0 ≤ x18 then
  if wr .i64 (x16 + (imx 1 (iquo .i64 (wr .i64 (((gi x9 x18).length : Int) + 243)) 244))) > x11 then
  if x15 = 0 then
  M.tidepolelaw03_same x13 x17 >>= fun y73 =>
  if y73 = true then
  some (decide (x14 = x16))
  else
  some false
  else
  some false
  else
  if ((x17 ++ [gi x9 x18]).length : Int) ≤ 1099511627776 then
  M.tidepolelaw03_FrameFronts_l1 (x9, x11, x13, x14, x15, wr .i64 (x16 + (imx 1 (iquo .i64 (wr .i64 (((gi x9 x18).length : Int) + 243)) 244))), (x17 ++ [gi x9 x18]), wr .i64 (x18 + 1))
  else none
  else none
  else
  if x15 = 0 then
  M.tidepolelaw03_same x13 x17 >>= fun y97 =>
  if y97 = true then
  some (decide (x14 = x16))
  else
  some false
  else
  some false
  partial_fixpoint

/-! tidepole/tidepolelaw03.FrameFronts -/
def M.tidepolelaw03_FrameFronts_l0 : Int × (List (List Int)) × Int × (List Int) → Option Bool := fun ⟨x0, x9, x11, x12⟩ =>
  M.frame_Read x0 x12 >>= fun y51 =>
  M.tidepolelaw03_FrameFronts_l1 (x9, x11, y51.1, y51.2.1, y51.2.2, 0, ([] : List (List Int)), 0)

/-! tidepole/tidepolelaw03.FrameFronts -/
def M.tidepolelaw03_FrameFronts (x0 : Int) (x1 : List (List Int)) (x2 : Int) (x3 : Bool) : Option Bool :=
  M.tidepolelaw03_works >>= fun y1 =>
  if y1 = true then
  M.tidepolelaw03_laid x0 x1 >>= fun y4 =>
  if (y4.2.2.length : Int) = 0 then
  some true
  else
  M.tidepolebase_Among x2 (iquo .i64 (y4.2.2.length : Int) 256) >>= fun y9 =>
  if 0 ≤ wr .i64 (256 * y9) then
  if wr .i64 (256 * y9) ≤ (y4.2.2.length : Int) then
  if 0 ≤ wr .i64 ((wr .i64 (256 * y9)) + 256) then
  if wr .i64 ((wr .i64 (256 * y9)) + 256) ≤ (y4.2.2.length : Int) then
  some (sl y4.2.2 (wr .i64 ((wr .i64 (256 * y9)) + 256)) (y4.2.2.length : Int)) >>= fun v22 =>
  M.tidepolebase_Bytes (sl y4.2.2 0 (wr .i64 (256 * y9))) >>= fun y24 =>
  if ((y24 ++ v22).length : Int) ≤ 1099511627776 then
  if x3 = true then
  M.tidepolebase_Among x2 256 >>= fun y36 =>
  if 0 ≤ wr .i64 ((wr .i64 (256 * y9)) + y36) then
  if wr .i64 ((wr .i64 (256 * y9)) + y36) ≤ (y4.2.2.length : Int) then
  some (sl y4.2.2 0 (wr .i64 ((wr .i64 (256 * y9)) + y36))) >>= fun v43 =>
  M.tidepolebase_Bytes v43 >>= fun y45 =>
  M.tidepolelaw03_FrameFronts_l0 (y4.1, y4.2.1, y9, y45)
  else none
  else none
  else
  M.tidepolelaw03_FrameFronts_l0 (y4.1, y4.2.1, y9, (y24 ++ v22))
  else none
  else none
  else none
  else none
  else none
  else
  some false

/-! tidepole/tidepolelaw03.FrameOther -/
def M.tidepolelaw03_FrameOther (x0 : Int) (x1 : List (List Int)) (x2 : Int) : Option Bool :=
  M.tidepolelaw03_works >>= fun y1 =>
  if y1 = true then
  M.tidepolelaw03_laid x0 x1 >>= fun y4 =>
  M.tidepolebase_Among x2 1000000 >>= fun y8 =>
  M.frame_Read y8 y4.2.2 >>= fun y11 =>
  if y11.2.2 = 0 then
  if y8 = y4.1 then
  M.tidepolelaw03_same y11.1 y4.2.1 >>= fun y18 =>
  if y18 = true then
  some true
  else
  if y8 = y4.1 then
  some false
  else
  if (y11.1.length : Int) = 0 then
  some (decide (y11.2.1 = 0))
  else
  some false
  else
  if y8 = y4.1 then
  some false
  else
  if (y11.1.length : Int) = 0 then
  some (decide (y11.2.1 = 0))
  else
  some false
  else
  some false
  else
  some false

end Go.Gx
