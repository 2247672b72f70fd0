import Derived.Test.YtemokppdnkiejaaDoorGI

set_option linter.unusedVariables false

namespace Go.Gx

structure T27 where
  Kind : Int
  Set : List Int
  L : List T27
  Min : Int
  Max : Int

instance : Inhabited T27 := ⟨⟨default, default, [], default, default⟩⟩

structure T48 where
  Op : Int
  Set : List Int
  X : Int
  Y : Int
  deriving Inhabited

structure T77 where
  l : List T48
  deriving Inhabited

structure T99 where
  n : Int
  code : T27 ⊕ T27 ⊕ (Int × T27)
  deriving Inhabited

structure T72 where
  at_ : Int
  deriving Inhabited

structure T68 where
  s : ByteArray
  at_ : Int
  deep : Int
  bad : Option T72
  deriving Inhabited

structure T126 where
  set_ : List Int
  b : Int
  single : Bool
  deriving Inhabited

def tb2 : List Int := [1, 10, 100, 1000, 10000, 100000, 1000000, 10000000, 100000000, 1000000000, 10000000000, 100000000000, 1000000000000, 10000000000000, 100000000000000, 1000000000000000, 10000000000000000, 100000000000000000, 1000000000000000000, 10000000000000000000]

/-! tidepole/tidepolelaw11.cut -/
mutual

def M.tidepolelaw11_cut : T27 × Int × Int → Option (T27 × Int) := fun ⟨x0, x1, x2v_0⟩ =>
  M.tidepolelaw11_cut_l0 (x1, x0, (⟨0, [0, 0, 0, 0], ([] : List T27), 0, 0⟩ : T27), (⟨x0.Kind, x0.Set, ([] : List T27), x0.Min, x0.Max⟩ : T27), 0, wr .i64 (x2v_0 - 1))
  partial_fixpoint

def M.tidepolelaw11_cut_l0 : Int × T27 × T27 × T27 × Int × Int → Option (T27 × Int) := fun ⟨x1, x3v, x6v, x7v, x8, e0v_0⟩ =>
  if x8 < (x3v.L.length : Int) then
  if x1 > 0 then
  M.tidepolelaw11_cut_l1 (x1, x3v, x6v, x7v, x8, decide (e0v_0 > 0), e0v_0)
  else
  M.tidepolelaw11_cut_l1 (x1, x3v, x6v, x7v, x8, false, e0v_0)
  else
  M.tidepolelaw11_cut_l1 (x1, x3v, x6v, x7v, x8, false, e0v_0)
  partial_fixpoint

def M.tidepolelaw11_cut_l1 : Int × T27 × T27 × T27 × Int × Bool × Int → Option (T27 × Int) := fun ⟨x1, x3v, x6v, x7v, x8, x30, e0v_0⟩ =>
  if x30 = true then
  if 0 ≤ x8 then
  if x8 < (x3v.L.length : Int) then
  M.tidepolelaw11_cut ((⟨(gi x3v.L x8).Kind, ((gi x3v.L x8).Set), (gi x3v.L x8).L, (gi x3v.L x8).Min, (gi x3v.L x8).Max⟩ : T27), wr .i64 (x1 - 1), e0v_0) >>= fun y34 =>
  if ((x7v.L ++ [y34.1]).length : Int) ≤ 1099511627776 then
  M.tidepolelaw11_cut_l0 (x1, x3v, x6v, (⟨x7v.Kind, x7v.Set, (x7v.L ++ [y34.1]), x7v.Min, x7v.Max⟩ : T27), wr .i64 (x8 + 1), y34.2)
  else none
  else none
  else none
  else
  some (x7v, e0v_0)
  partial_fixpoint

end

/-! tidepole/tidepolelaw11.some -/
def M.tidepolelaw11_some (x0 : T27) : Option T27 :=
  M.tidepolelaw11_cut (x0, 130, 100) >>= fun y7 =>
  some y7.1

/-! tidepole/syntax.count -/
mutual

def M.syntax_count : T27 × Int × Int → Option (Bool × Int) := fun ⟨x0, x1, x2v_0⟩ =>
  if x1 = 0 then
  M.syntax_count_l0 (x1, x0, true, wr .i64 (x2v_0 + 1))
  else
  M.syntax_count_l0 (x1, x0, decide (wr .i64 (x2v_0 + 1) > 4096), wr .i64 (x2v_0 + 1))
  partial_fixpoint

def M.syntax_count_l0 : Int × T27 × Bool × Int → Option (Bool × Int) := fun ⟨x1, x3v, x21, e0v_0⟩ =>
  if x21 = true then
  some (false, e0v_0)
  else
  M.syntax_count_l1 (x1, x3v.L, (x3v.L.length : Int), 0, e0v_0)
  partial_fixpoint

def M.syntax_count_l1 : Int × (List T27) × Int × Int × Int → Option (Bool × Int) := fun ⟨x1, x23, x24, x25, e0v_0⟩ =>
  if x25 < x24 then
  if 0 ≤ x25 then
  if x25 < (x23.length : Int) then
  M.syntax_count ((⟨(gi x23 x25).Kind, ((gi x23 x25).Set), (gi x23 x25).L, (gi x23 x25).Min, (gi x23 x25).Max⟩ : T27), wr .i64 (x1 - 1), e0v_0) >>= fun y21 =>
  if y21.1 = true then
  M.syntax_count_l1 (x1, x23, x24, wr .i64 (x25 + 1), y21.2)
  else
  some (false, y21.2)
  else none
  else none
  else
  some (true, e0v_0)
  partial_fixpoint

end

/-! tidepole/syntax.shaped -/
def M.syntax_shaped_l3 : T27 × (List Int) × Bool × Bool → Option Bool := fun ⟨x1v, x3v_0, x5, x6⟩ =>
  if (x1v.L.length : Int) = 1 then
  if x1v.Set = x3v_0 then
  if x5 = true then
  some x6
  else
  some false
  else
  some false
  else
  some false

/-! tidepole/syntax.shaped -/
def M.syntax_shaped_l2 : T27 × (List Int) × Bool → Option Bool := fun ⟨x1v, x3v_0, x5⟩ =>
  if x1v.Max = (-1) then
  M.syntax_shaped_l3 (x1v, x3v_0, x5, true)
  else
  if x1v.Max ≥ x1v.Min then
  M.syntax_shaped_l3 (x1v, x3v_0, x5, decide (x1v.Max ≤ 64))
  else
  M.syntax_shaped_l3 (x1v, x3v_0, x5, false)

/-! tidepole/syntax.shaped -/
def M.syntax_shaped_l1 : T27 × (List Int) × Bool × Int × Bool → Option Bool := fun ⟨x1v, x3v_0, x4, x16, x26⟩ =>
  if x26 = true then
  if x1v.Set = x3v_0 then
  some x4
  else
  some false
  else
  if x16 = 4 then
  if x1v.Min ≥ 0 then
  M.syntax_shaped_l2 (x1v, x3v_0, decide (x1v.Min ≤ 64))
  else
  M.syntax_shaped_l2 (x1v, x3v_0, false)
  else
  some false

/-! tidepole/syntax.shaped -/
def M.syntax_shaped_l0 : T27 × (List Int) × Bool → Option Bool := fun ⟨x1v, x3v_0, x4⟩ =>
  if x1v.Kind = 1 then
  if (x1v.L.length : Int) = 0 then
  some x4
  else
  some false
  else
  if x1v.Kind = 2 then
  M.syntax_shaped_l1 (x1v, x3v_0, x4, x1v.Kind, true)
  else
  M.syntax_shaped_l1 (x1v, x3v_0, x4, x1v.Kind, decide (x1v.Kind = 3))

/-! tidepole/syntax.shaped -/
def M.syntax_shaped (x0 : T27) : Option Bool :=
  if x0.Min = 0 then
  M.syntax_shaped_l0 (x0, [0, 0, 0, 0], decide (x0.Max = 0))
  else
  M.syntax_shaped_l0 (x0, [0, 0, 0, 0], false)

/-! tidepole/syntax.right -/
mutual

def M.syntax_right : T27 → Option Bool := fun x0 =>
  M.syntax_right_l0 (x0, x0.L, (x0.L.length : Int), 0)
  partial_fixpoint

def M.syntax_right_l0 : T27 × (List T27) × Int × Int → Option Bool := fun ⟨x1v, x6, x7, x8⟩ =>
  if x8 < x7 then
  if 0 ≤ x8 then
  if x8 < (x6.length : Int) then
  M.syntax_right (⟨(gi x6 x8).Kind, ((gi x6 x8).Set), (gi x6 x8).L, (gi x6 x8).Min, (gi x6 x8).Max⟩ : T27) >>= fun y18 =>
  if y18 = true then
  M.syntax_right_l0 (x1v, x6, x7, wr .i64 (x8 + 1))
  else
  some false
  else none
  else none
  else
  M.syntax_shaped x1v >>= fun y21 =>
  some y21
  partial_fixpoint

end

/-! tidepole/syntax.Size -/
def M.syntax_Size (x0 : T27) : Option Int :=
  M.syntax_count (x0, 128, 0) >>= fun y5 =>
  if y5.1 = true then
  M.syntax_right x0 >>= fun y8 =>
  if y8 = true then
  some y5.2
  else
  some 0
  else
  some 0

/-! tidepole/syntax.Check -/
def M.syntax_Check (x0 : T27) : Option Bool :=
  M.syntax_Size x0 >>= fun y3 =>
  some (decide (y3 > 0))

/-! tidepole/prog.size -/
mutual

def M.prog_size : T27 → Option Int := fun x0 =>
  if x0.Kind = 3 then
  M.prog_size_l0 (imx 0 (wr .i64 ((x0.L.length : Int) - 1)), x0.L, (x0.L.length : Int), 0)
  else
  if x0.Kind = 2 then
  M.prog_size_l0 (0, x0.L, (x0.L.length : Int), 0)
  else
  if x0.Kind = 4 then
  if 0 < (x0.L.length : Int) then
  M.prog_size (⟨(gi x0.L 0).Kind, ((gi x0.L 0).Set), (gi x0.L 0).L, (gi x0.L 0).Min, (gi x0.L 0).Max⟩ : T27) >>= fun y16 =>
  if x0.Max < 0 then
  some (imn 1048576 (imx 1 (wr .i64 ((wr .i64 (x0.Min * y16)) + (wr .i64 (y16 + 1))))))
  else
  some (imn 1048576 (imx 1 (wr .i64 ((wr .i64 (x0.Min * y16)) + (wr .i64 ((wr .i64 (x0.Max - x0.Min)) * (wr .i64 (y16 + 1))))))))
  else none
  else
  some 1
  partial_fixpoint

def M.prog_size_l0 : Int × (List T27) × Int × Int → Option Int := fun ⟨x3, x21, x22, x23⟩ =>
  if x23 < x22 then
  if 0 ≤ x23 then
  if x23 < (x21.length : Int) then
  M.prog_size (⟨(gi x21 x23).Kind, ((gi x21 x23).Set), (gi x21 x23).L, (gi x21 x23).Min, (gi x21 x23).Max⟩ : T27) >>= fun y33 =>
  M.prog_size_l0 (imn 1048576 (wr .i64 (x3 + y33)), x21, x22, wr .i64 (x23 + 1))
  else none
  else none
  else
  some (imn 1048576 (imx 1 x3))
  partial_fixpoint

end

/-! tidepole/prog.Count -/
def M.prog_Count (x0 : T27) : Option (Int × Int) :=
  M.syntax_Check x0 >>= fun y3 =>
  if y3 = true then
  M.prog_size x0 >>= fun y6 =>
  some (imn 1048576 (wr .i64 (y6 + 1)), 0)
  else
  some (0, 2)

/-! (*tidepole/prog.writer).put -/
def M.prog_writer_put (x0v_0 : List T48) (x1 : T48) : Option (Int × (List T48)) :=
  if ((x0v_0 ++ [x1]).length : Int) ≤ 1099511627776 then
  some (wr .i64 (((x0v_0 ++ [x1]).length : Int) - 1), (x0v_0 ++ [x1]))
  else none

/-! (*tidepole/prog.writer).of -/
def M.prog_writer_of (x0v_0 : List T48) (x1 : T27) : Option T99 :=
  M.prog_size x1 >>= fun y9 =>
  some (⟨y9, ((Sum.inl x1) : T27 ⊕ T27 ⊕ (Int × T27))⟩ : T99)

/-! (*tidepole/prog.writer).loop -/
def M.prog_writer_loop (x0v_0 : List T48) (x1 : T27) : Option T99 :=
  M.prog_size x1 >>= fun y9 =>
  some (⟨wr .i64 (y9 + 1), ((Sum.inr (Sum.inl x1)) : T27 ⊕ T27 ⊕ (Int × T27))⟩ : T99)

/-! (*tidepole/prog.writer).perhaps -/
def M.prog_writer_perhaps (x0v_0 : List T48) (x1 : T27) (x2 : Int) : Option T99 :=
  M.prog_size x1 >>= fun y11 =>
  some (⟨wr .i64 (y11 + 1), ((Sum.inr (Sum.inr (x2, x1))) : T27 ⊕ T27 ⊕ (Int × T27))⟩ : T99)

/-! (*tidepole/prog.writer).times -/
def M.prog_writer_times_l3 : Int × (List T99) × T27 × Int × Int × (List T48) → Option (List T99) := fun ⟨x2, x7, x8v, x37, x38, x0v_0⟩ =>
  if x38 < x37 then
  M.prog_writer_perhaps x0v_0 x8v x2 >>= fun y100 =>
  if ((x7 ++ [y100]).length : Int) ≤ 1099511627776 then
  M.prog_writer_times_l3 (x2, (x7 ++ [y100]), x8v, x37, wr .i64 (x38 + 1), x0v_0)
  else none
  else
  some x7
  partial_fixpoint

/-! (*tidepole/prog.writer).times -/
def M.prog_writer_times_l1 : Int × T27 × (List T99) × T27 × Int × Int × (List T48) → Option (List T99) := fun ⟨x2, x4v, x7, x8v, x14, x15, x0v_0⟩ =>
  if x15 < x14 then
  M.prog_writer_of x0v_0 x8v >>= fun y54 =>
  if ((x7 ++ [y54]).length : Int) ≤ 1099511627776 then
  M.prog_writer_times_l1 (x2, x4v, (x7 ++ [y54]), x8v, x14, wr .i64 (x15 + 1), x0v_0)
  else none
  else
  if x4v.Max < 0 then
  M.prog_writer_loop x0v_0 x8v >>= fun y68 =>
  if ((x7 ++ [y68]).length : Int) ≤ 1099511627776 then
  some (x7 ++ [y68])
  else none
  else
  M.prog_writer_times_l3 (x2, x7, x8v, wr .i64 (x4v.Max - x4v.Min), 0, x0v_0)
  partial_fixpoint

/-! (*tidepole/prog.writer).times -/
def M.prog_writer_times_l2 : Int × T27 × Int × Int × (List T48) → Option (List T99) := fun ⟨x2, x8v, x37, x38, x0v_0⟩ =>
  if x38 < x37 then
  M.prog_writer_perhaps x0v_0 x8v x2 >>= fun y84 =>
  if ([y84].length : Int) ≤ 1099511627776 then
  M.prog_writer_times_l3 (x2, [y84], x8v, x37, wr .i64 (x38 + 1), x0v_0)
  else none
  else
  some ([] : List T99)

/-! (*tidepole/prog.writer).times -/
def M.prog_writer_times_l0 : Int × T27 × T27 × Int × Int × (List T48) → Option (List T99) := fun ⟨x2, x4v, x8v, x14, x15, x0v_0⟩ =>
  if x15 < x14 then
  M.prog_writer_of x0v_0 x8v >>= fun y20 =>
  if ([y20].length : Int) ≤ 1099511627776 then
  M.prog_writer_times_l1 (x2, x4v, [y20], x8v, x14, wr .i64 (x15 + 1), x0v_0)
  else none
  else
  if x4v.Max < 0 then
  M.prog_writer_loop x0v_0 x8v >>= fun y38 =>
  if ([y38].length : Int) ≤ 1099511627776 then
  some [y38]
  else none
  else
  M.prog_writer_times_l2 (x2, x8v, wr .i64 (x4v.Max - x4v.Min), 0, x0v_0)

/-! (*tidepole/prog.writer).times -/
def M.prog_writer_times (x0v_0 : List T48) (x1 : T27) (x2 : Int) : Option (List T99) :=
  if 0 < (x1.L.length : Int) then
  M.prog_writer_times_l0 (x2, x1, (⟨(gi x1.L 0).Kind, ((gi x1.L 0).Set), (gi x1.L 0).L, (gi x1.L 0).Min, (gi x1.L 0).Max⟩ : T27), x1.Min, 0, x0v_0)
  else none

/-! (*tidepole/prog.writer).any, (*tidepole/prog.writer).code, (*tidepole/prog.writer).loop$1, (*tidepole/prog.writer).of$1, (*tidepole/prog.writer).perhaps$1, (*tidepole/prog.writer).row -/
mutual

def M.prog_writer_code : (List T48) × T27 × Int → Option (List T48) := fun ⟨x0v_0, x1, x2⟩ =>
  if x1.Kind = 1 then
  M.prog_writer_put x0v_0 (⟨1, x1.Set, x2, 0⟩ : T48) >>= fun y6 =>
  some y6.2
  else
  if x1.Kind = 3 then
  M.prog_writer_any (x0v_0, x1.L, x2) >>= fun y10 =>
  some y10
  else
  if x1.Kind = 2 then
  M.prog_writer_code_l0 (x2, x1.L, (x1.L.length : Int), 0, x0v_0)
  else
  if x1.Kind = 4 then
  M.prog_writer_times x0v_0 x1 x2 >>= fun y16 =>
  M.prog_writer_code_l1 (x2, y16, x0v_0)
  else
  M.prog_writer_code_l2 (x2, x0v_0)
  partial_fixpoint

def M.prog_writer_any : (List T48) × (List T27) × Int → Option (List T48) := fun ⟨x0v_0, x1, x2⟩ =>
  M.prog_writer_any_l0 (x1, x2, x1, (x1.length : Int), 0, x0v_0)
  partial_fixpoint

def M.prog_writer_any_l0 : (List T27) × Int × (List T27) × Int × Int × (List T48) → Option (List T48) := fun ⟨x1, x2, x9, x10, x11, e0v_0⟩ =>
  if x11 < x10 then
  if 0 ≤ x11 then
  if x11 < (x9.length : Int) then
  if x11 < wr .i64 ((x1.length : Int) - 1) then
  M.prog_size (⟨(gi x9 x11).Kind, ((gi x9 x11).Set), (gi x9 x11).L, (gi x9 x11).Min, (gi x9 x11).Max⟩ : T27) >>= fun y19 =>
  M.prog_writer_put e0v_0 (⟨2, [0, 0, 0, 0], wr .i64 ((e0v_0.length : Int) + 1), wr .i64 ((wr .i64 ((e0v_0.length : Int) + 1)) + y19)⟩ : T48) >>= fun y21 =>
  M.prog_writer_any_l1 (x1, x2, (⟨(gi x9 x11).Kind, ((gi x9 x11).Set), (gi x9 x11).L, (gi x9 x11).Min, (gi x9 x11).Max⟩ : T27), x9, x10, x11, y21.2)
  else
  M.prog_writer_any_l1 (x1, x2, (⟨(gi x9 x11).Kind, ((gi x9 x11).Set), (gi x9 x11).L, (gi x9 x11).Min, (gi x9 x11).Max⟩ : T27), x9, x10, x11, e0v_0)
  else none
  else none
  else
  if (x1.length : Int) = 0 then
  M.prog_writer_put e0v_0 (⟨1, [0, 0, 0, 0], x2, 0⟩ : T48) >>= fun y27 =>
  some y27.2
  else
  some e0v_0
  partial_fixpoint

def M.prog_writer_any_l1 : (List T27) × Int × T27 × (List T27) × Int × Int × (List T48) → Option (List T48) := fun ⟨x1, x2, x7v, x9, x10, x11, e0v_0⟩ =>
  M.prog_writer_code (e0v_0, x7v, x2) >>= fun y30 =>
  M.prog_writer_any_l0 (x1, x2, x9, x10, wr .i64 (x11 + 1), y30)
  partial_fixpoint

def M.prog_writer_code_l0 : Int × (List T27) × Int × Int × (List T48) → Option (List T48) := fun ⟨x2, x29, x30, x31, e0v_0⟩ =>
  if x31 < x30 then
  if 0 ≤ x31 then
  if x31 < (x29.length : Int) then
  M.prog_writer_of e0v_0 (⟨(gi x29 x31).Kind, ((gi x29 x31).Set), (gi x29 x31).L, (gi x29 x31).Min, (gi x29 x31).Max⟩ : T27) >>= fun y36 =>
  if ([y36].length : Int) ≤ 1099511627776 then
  M.prog_writer_code_l3 (x2, [y36], x29, x30, wr .i64 (x31 + 1), e0v_0)
  else none
  else none
  else none
  else
  M.prog_writer_code_l2 (x2, e0v_0)
  partial_fixpoint

def M.prog_writer_code_l3 : Int × (List T99) × (List T27) × Int × Int × (List T48) → Option (List T48) := fun ⟨x2, x6, x29, x30, x31, e0v_0⟩ =>
  if x31 < x30 then
  if 0 ≤ x31 then
  if x31 < (x29.length : Int) then
  M.prog_writer_of e0v_0 (⟨(gi x29 x31).Kind, ((gi x29 x31).Set), (gi x29 x31).L, (gi x29 x31).Min, (gi x29 x31).Max⟩ : T27) >>= fun y84 =>
  if ((x6 ++ [y84]).length : Int) ≤ 1099511627776 then
  M.prog_writer_code_l3 (x2, (x6 ++ [y84]), x29, x30, wr .i64 (x31 + 1), e0v_0)
  else none
  else none
  else none
  else
  M.prog_writer_code_l1 (x2, x6, e0v_0)
  partial_fixpoint

def M.prog_writer_code_l1 : Int × (List T99) × (List T48) → Option (List T48) := fun ⟨x2, x6, e0v_0⟩ =>
  if (x6.length : Int) = 0 then
  M.prog_writer_put e0v_0 (⟨4, [0, 0, 0, 0], x2, 0⟩ : T48) >>= fun y53 =>
  M.prog_writer_row (y53.2, x6, x2) >>= fun y57 =>
  some y57
  else
  M.prog_writer_row (e0v_0, x6, x2) >>= fun y61 =>
  some y61
  partial_fixpoint

def M.prog_writer_row : (List T48) × (List T99) × Int → Option (List T48) := fun ⟨x0v_0, x1, x2⟩ =>
  M.prog_writer_row_l0 (x1, x2, x1, (x1.length : Int), 0, x0v_0)
  partial_fixpoint

def M.prog_writer_row_l0 : (List T99) × Int × (List T99) × Int × Int × (List T48) → Option (List T48) := fun ⟨x1, x2, x9, x10, x11, e0v_0⟩ =>
  if x11 < x10 then
  if 0 ≤ x11 then
  if x11 < (x9.length : Int) then
  if x11 < wr .i64 ((x1.length : Int) - 1) then
  M.prog_writer_row_l1 (x1, x2, gi x9 x11, wr .i64 ((e0v_0.length : Int) + ((gi x9 x11).n)), x9, x10, x11, e0v_0)
  else
  M.prog_writer_row_l1 (x1, x2, gi x9 x11, x2, x9, x10, x11, e0v_0)
  else none
  else none
  else
  some e0v_0
  partial_fixpoint

def M.prog_writer_row_l1 : (List T99) × Int × T99 × Int × (List T99) × Int × Int × (List T48) → Option (List T48) := fun ⟨x1, x2, x7v, x8, x9, x10, x11, e0v_0⟩ =>
  some (x7v.code) >>= fun v19 =>
  (match v19 with
  | .inl y21 =>
  M.prog_writer_of_1 (x8, e0v_0, y21) >>= fun y60 =>
  M.prog_writer_row_l2 (x1, x2, x9, x10, x11, y60)
  | .inr (.inl y33) =>
  M.prog_writer_loop_1 (x8, e0v_0, y33) >>= fun y64 =>
  M.prog_writer_row_l2 (x1, x2, x9, x10, x11, y64)
  | .inr (.inr (y45)) =>
  M.prog_writer_perhaps_1 (x8, e0v_0, y45.1, y45.2) >>= fun y67 =>
  M.prog_writer_row_l2 (x1, x2, x9, x10, x11, y67))
  partial_fixpoint

def M.prog_writer_of_1 : Int × (List T48) × T27 → Option (List T48) := fun ⟨x0, x1v_0, x2⟩ =>
  M.prog_writer_code (x1v_0, x2, x0) >>= fun y3 =>
  some y3
  partial_fixpoint

def M.prog_writer_row_l2 : (List T99) × Int × (List T99) × Int × Int × (List T48) → Option (List T48) := fun ⟨x1, x2, x9, x10, x11, e0v_0⟩ =>
  M.prog_writer_row_l0 (x1, x2, x9, x10, wr .i64 (x11 + 1), e0v_0)
  partial_fixpoint

def M.prog_writer_loop_1 : Int × (List T48) × T27 → Option (List T48) := fun ⟨x0, x1v_0, x2⟩ =>
  M.prog_writer_put x1v_0 (⟨2, [0, 0, 0, 0], wr .i64 ((x1v_0.length : Int) + 1), x0⟩ : T48) >>= fun y3 =>
  M.prog_writer_code (y3.2, x2, y3.1) >>= fun y6 =>
  some y6
  partial_fixpoint

def M.prog_writer_perhaps_1 : Int × (List T48) × Int × T27 → Option (List T48) := fun ⟨x0, x1v_0, x2, x3⟩ =>
  M.prog_writer_put x1v_0 (⟨2, [0, 0, 0, 0], wr .i64 ((x1v_0.length : Int) + 1), x2⟩ : T48) >>= fun y3 =>
  M.prog_writer_code (y3.2, x3, x0) >>= fun y6 =>
  some y6
  partial_fixpoint

def M.prog_writer_code_l2 : Int × (List T48) → Option (List T48) := fun ⟨x2, e0v_0⟩ =>
  M.prog_writer_put e0v_0 (⟨4, [0, 0, 0, 0], x2, 0⟩ : T48) >>= fun y64 =>
  M.prog_writer_row (y64.2, ([] : List T99), x2) >>= fun y67 =>
  some y67
  partial_fixpoint

end

/-! tidepole/prog.Make -/
def M.prog_Make (x0 : T27) : Option ((List T48) × Int) :=
  M.prog_Count x0 >>= fun y3 =>
  if y3.2 = 0 then
  if y3.1 > 2048 then
  some (([] : List T48), 110)
  else
  M.prog_writer_code (([] : List T48), x0, wr .i64 (y3.1 - 1)) >>= fun y11 =>
  M.prog_writer_put y11 (⟨3, [0, 0, 0, 0], 0, 0⟩ : T48) >>= fun y14 =>
  some (y14.2, y3.2)
  else
  some (([] : List T48), y3.2)

/-! tidepole/tidepoleref10.deep -/
mutual

def M.tidepoleref10_deep : T27 × Int → Option (Int × Int) := fun ⟨x0, x1⟩ =>
  M.tidepoleref10_deep_l0 (x1, x0, 0, 1, 0)
  partial_fixpoint

def M.tidepoleref10_deep_l0 : Int × T27 × Int × Int × Int → Option (Int × Int) := fun ⟨x1, x2v, x6, x7, x8⟩ =>
  if x8 < (x2v.L.length : Int) then
  M.tidepoleref10_deep_l1 (x1, x2v, x6, x7, x8, decide (x8 < 5000))
  else
  M.tidepoleref10_deep_l1 (x1, x2v, x6, x7, x8, false)
  partial_fixpoint

def M.tidepoleref10_deep_l1 : Int × T27 × Int × Int × Int × Bool → Option (Int × Int) := fun ⟨x1, x2v, x6, x7, x8, x19⟩ =>
  if x19 = true then
  if x1 = 0 then
  some (999, 9999)
  else
  if 0 ≤ x8 then
  if x8 < (x2v.L.length : Int) then
  M.tidepoleref10_deep ((⟨(gi x2v.L x8).Kind, ((gi x2v.L x8).Set), (gi x2v.L x8).L, (gi x2v.L x8).Min, (gi x2v.L x8).Max⟩ : T27), wr .i64 (x1 - 1)) >>= fun y19 =>
  if wr .i64 (x7 + y19.2) > 4096 then
  M.tidepoleref10_deep_l2 (x1, x2v, imx x6 y19.1, wr .i64 (x7 + y19.2), x8, true)
  else
  M.tidepoleref10_deep_l2 (x1, x2v, imx x6 y19.1, wr .i64 (x7 + y19.2), x8, decide (imx x6 y19.1 ≥ 999))
  else none
  else none
  else
  some (wr .i64 (x6 + 1), x7)
  partial_fixpoint

def M.tidepoleref10_deep_l2 : Int × T27 × Int × Int × Int × Bool → Option (Int × Int) := fun ⟨x1, x2v, x6, x7, x8, x46⟩ =>
  if x46 = true then
  some (999, 9999)
  else
  M.tidepoleref10_deep_l0 (x1, x2v, x6, x7, wr .i64 (x8 + 1))
  partial_fixpoint

end

/-! tidepole/tidepoleref10.shape -/
mutual

def M.tidepoleref10_shape : T27 → Option Bool := fun x0 =>
  if x0.Min = 0 then
  M.tidepoleref10_shape_l0 (x0, decide (x0.Set = [0, 0, 0, 0]), decide (x0.Max = 0))
  else
  M.tidepoleref10_shape_l0 (x0, decide (x0.Set = [0, 0, 0, 0]), false)
  partial_fixpoint

def M.tidepoleref10_shape_l0 : T27 × Bool × Bool → Option Bool := fun ⟨x1v, x3, x4⟩ =>
  if x1v.Kind = 1 then
  if (x1v.L.length : Int) = 0 then
  M.tidepoleref10_shape_l1 (x1v, x4)
  else
  M.tidepoleref10_shape_l1 (x1v, false)
  else
  if x1v.Kind = 2 then
  M.tidepoleref10_shape_l2 (x1v, x3, x4, x1v.Kind, true)
  else
  M.tidepoleref10_shape_l2 (x1v, x3, x4, x1v.Kind, decide (x1v.Kind = 3))
  partial_fixpoint

def M.tidepoleref10_shape_l1 : T27 × Bool → Option Bool := fun ⟨x1v, x5⟩ =>
  M.tidepoleref10_shape_l3 (x1v, x5, 0)
  partial_fixpoint

def M.tidepoleref10_shape_l3 : T27 × Bool × Int → Option Bool := fun ⟨x1v, x5, x6⟩ =>
  if x6 < (x1v.L.length : Int) then
  M.tidepoleref10_shape_l4 (x1v, x5, x6, x5)
  else
  M.tidepoleref10_shape_l4 (x1v, x5, x6, false)
  partial_fixpoint

def M.tidepoleref10_shape_l4 : T27 × Bool × Int × Bool → Option Bool := fun ⟨x1v, x5, x6, x80⟩ =>
  if x80 = true then
  if 0 ≤ x6 then
  if x6 < (x1v.L.length : Int) then
  M.tidepoleref10_shape (⟨(gi x1v.L x6).Kind, ((gi x1v.L x6).Set), (gi x1v.L x6).L, (gi x1v.L x6).Min, (gi x1v.L x6).Max⟩ : T27) >>= fun y34 =>
  M.tidepoleref10_shape_l3 (x1v, y34, wr .i64 (x6 + 1))
  else none
  else none
  else
  some x5
  partial_fixpoint

def M.tidepoleref10_shape_l2 : T27 × Bool × Bool × Int × Bool → Option Bool := fun ⟨x1v, x3, x4, x20, x30⟩ =>
  if x30 = true then
  if x3 = true then
  M.tidepoleref10_shape_l1 (x1v, x4)
  else
  M.tidepoleref10_shape_l1 (x1v, false)
  else
  if x20 = 4 then
  if (x1v.L.length : Int) = 1 then
  if x3 = true then
  if x1v.Min ≥ 0 then
  if x1v.Min ≤ 64 then
  if x1v.Max ≤ 64 then
  if x1v.Max = (-1) then
  M.tidepoleref10_shape_l1 (x1v, true)
  else
  M.tidepoleref10_shape_l1 (x1v, decide (x1v.Max ≥ x1v.Min))
  else
  M.tidepoleref10_shape_l1 (x1v, false)
  else
  M.tidepoleref10_shape_l1 (x1v, false)
  else
  M.tidepoleref10_shape_l1 (x1v, false)
  else
  M.tidepoleref10_shape_l1 (x1v, false)
  else
  M.tidepoleref10_shape_l1 (x1v, false)
  else
  some false
  partial_fixpoint

end

/-! tidepole/tidepoleref10.Check -/
def M.tidepoleref10_Check (x0 : T27) : Option Bool :=
  M.tidepoleref10_deep (x0, 128) >>= fun y3 =>
  if y3.1 ≤ 128 then
  if y3.2 ≤ 4096 then
  M.tidepoleref10_shape x0 >>= fun y7 =>
  some y7
  else
  some false
  else
  some false

/-! tidepole/tidepoleref11.count -/
def M.tidepoleref11_count_l2 : T27 × Int × Bool → Option Int := fun ⟨x1v, x3, x35⟩ =>
  if x35 = true then
  some (imx 1 (imn 1048576 (imn 1048576 (wr .i64 ((wr .i64 (x3 + (x1v.L.length : Int))) - 1)))))
  else
  some (imx 1 (imn 1048576 x3))

/-! tidepole/tidepoleref11.count -/
mutual

def M.tidepoleref11_count : T27 → Option Int := fun x0 =>
  if x0.Kind = 2 then
  M.tidepoleref11_count_l0 (x0, 0, x0.Kind, true)
  else
  M.tidepoleref11_count_l0 (x0, 0, x0.Kind, decide (x0.Kind = 3))
  partial_fixpoint

def M.tidepoleref11_count_l0 : T27 × Int × Int × Bool → Option Int := fun ⟨x1v, x3, x7, x8⟩ =>
  if x8 = true then
  M.tidepoleref11_count_l1 (x1v, x3, 0)
  else
  if x7 = 4 then
  if 0 < (x1v.L.length : Int) then
  M.tidepoleref11_count (⟨(gi x1v.L 0).Kind, ((gi x1v.L 0).Set), (gi x1v.L 0).L, (gi x1v.L 0).Min, (gi x1v.L 0).Max⟩ : T27) >>= fun y18 =>
  if x1v.Max < 0 then
  some (imx 1 (imn 1048576 (wr .i64 ((wr .i64 (x1v.Min * y18)) + (wr .i64 (y18 + 1))))))
  else
  some (imx 1 (imn 1048576 (wr .i64 ((wr .i64 (x1v.Min * y18)) + (wr .i64 ((wr .i64 (x1v.Max - x1v.Min)) * (wr .i64 (y18 + 1))))))))
  else none
  else
  some (imx 1 (imn 1048576 x3))
  partial_fixpoint

def M.tidepoleref11_count_l1 : T27 × Int × Int → Option Int := fun ⟨x1v, x3, x4⟩ =>
  if x4 < (x1v.L.length : Int) then
  if 0 ≤ x4 then
  M.tidepoleref11_count (⟨(gi x1v.L x4).Kind, ((gi x1v.L x4).Set), (gi x1v.L x4).L, (gi x1v.L x4).Min, (gi x1v.L x4).Max⟩ : T27) >>= fun y32 =>
  M.tidepoleref11_count_l1 (x1v, imn 1048576 (wr .i64 (x3 + y32)), wr .i64 (x4 + 1))
  else none
  else
  if x1v.Kind = 3 then
  M.tidepoleref11_count_l2 (x1v, x3, decide ((x1v.L.length : Int) > 0))
  else
  M.tidepoleref11_count_l2 (x1v, x3, false)
  partial_fixpoint

end

/-! tidepole/tidepoleref11.Count -/
def M.tidepoleref11_Count (x0 : T27) : Option (Int × Int) :=
  M.tidepoleref10_Check x0 >>= fun y3 =>
  if y3 = true then
  M.tidepoleref11_count x0 >>= fun y6 =>
  some (imn 1048576 (wr .i64 (y6 + 1)), 0)
  else
  some (0, 2)

/-! tidepole/tidepoleref11.code -/
mutual

def M.tidepoleref11_code : (List T48) × T27 × Int × Int → Option (List T48) := fun ⟨x0, x1, x2, x3⟩ =>
  if x1.Kind = 1 then
  if 0 ≤ x2 then
  if x2 < (x0.length : Int) then
  some (si x0 x2 (⟨1, x1.Set, x3, 0⟩ : T48))
  else none
  else none
  else
  if x1.Kind = 2 then
  if (x1.L.length : Int) = 0 then
  if 0 ≤ x2 then
  if x2 < (x0.length : Int) then
  M.tidepoleref11_code_l0 (x2, x3, x1, (si x0 x2 (⟨4, [0, 0, 0, 0], x3, 0⟩ : T48)))
  else none
  else none
  else
  M.tidepoleref11_code_l0 (x2, x3, x1, x0)
  else
  if x1.Kind = 3 then
  if (x1.L.length : Int) = 0 then
  if 0 ≤ x2 then
  if x2 < (x0.length : Int) then
  M.tidepoleref11_code_l1 (x2, x3, x1, (si x0 x2 (⟨1, [0, 0, 0, 0], x3, 0⟩ : T48)))
  else none
  else none
  else
  M.tidepoleref11_code_l1 (x2, x3, x1, x0)
  else
  if x1.Kind = 4 then
  if 0 < (x1.L.length : Int) then
  M.tidepoleref11_count (⟨(gi x1.L 0).Kind, ((gi x1.L 0).Set), (gi x1.L 0).L, (gi x1.L 0).Min, (gi x1.L 0).Max⟩ : T27) >>= fun y55 =>
  if x1.Max = 0 then
  if 0 ≤ x2 then
  if x2 < (x0.length : Int) then
  some (si x0 x2 (⟨4, [0, 0, 0, 0], x3, 0⟩ : T48))
  else none
  else none
  else
  M.tidepoleref11_code_l2 (x2, x3, x1, y55, 0, x0)
  else none
  else
  some x0
  partial_fixpoint

def M.tidepoleref11_code_l0 : Int × Int × T27 × (List T48) → Option (List T48) := fun ⟨x2, x3, x5v, e0⟩ =>
  M.tidepoleref11_code_l3 (x2, x3, x5v, 0, e0)
  partial_fixpoint

def M.tidepoleref11_code_l3 : Int × Int × T27 × Int × (List T48) → Option (List T48) := fun ⟨x2, x3, x5v, x8, e0⟩ =>
  if x8 < (x5v.L.length : Int) then
  if 0 ≤ x8 then
  M.tidepoleref11_count (⟨(gi x5v.L x8).Kind, ((gi x5v.L x8).Set), (gi x5v.L x8).L, (gi x5v.L x8).Min, (gi x5v.L x8).Max⟩ : T27) >>= fun y113 =>
  if x8 = wr .i64 ((x5v.L.length : Int) - 1) then
  M.tidepoleref11_code (e0, (⟨(gi x5v.L x8).Kind, ((gi x5v.L x8).Set), (gi x5v.L x8).L, (gi x5v.L x8).Min, (gi x5v.L x8).Max⟩ : T27), x2, x3) >>= fun y125 =>
  M.tidepoleref11_code_l7 (x3, x5v, x8, wr .i64 (x2 + y113), y125)
  else
  M.tidepoleref11_code (e0, (⟨(gi x5v.L x8).Kind, ((gi x5v.L x8).Set), (gi x5v.L x8).L, (gi x5v.L x8).Min, (gi x5v.L x8).Max⟩ : T27), x2, wr .i64 (x2 + y113)) >>= fun y137 =>
  M.tidepoleref11_code_l7 (x3, x5v, x8, wr .i64 (x2 + y113), y137)
  else none
  else
  some e0
  partial_fixpoint

def M.tidepoleref11_code_l7 : Int × T27 × Int × Int × (List T48) → Option (List T48) := fun ⟨x3, x5v, x8, x9, e0⟩ =>
  M.tidepoleref11_code_l3 (x9, x3, x5v, wr .i64 (x8 + 1), e0)
  partial_fixpoint

def M.tidepoleref11_code_l1 : Int × Int × T27 × (List T48) → Option (List T48) := fun ⟨x2, x3, x5v, e0⟩ =>
  M.tidepoleref11_code_l4 (x2, x3, x5v, 0, e0)
  partial_fixpoint

def M.tidepoleref11_code_l4 : Int × Int × T27 × Int × (List T48) → Option (List T48) := fun ⟨x2, x3, x5v, x10, e0⟩ =>
  if x10 < (x5v.L.length : Int) then
  if x10 < wr .i64 ((x5v.L.length : Int) - 1) then
  if 0 ≤ x10 then
  M.tidepoleref11_count (⟨(gi x5v.L x10).Kind, ((gi x5v.L x10).Set), (gi x5v.L x10).L, (gi x5v.L x10).Min, (gi x5v.L x10).Max⟩ : T27) >>= fun y151 =>
  if 0 ≤ x2 then
  if x2 < (e0.length : Int) then
  some (si e0 x2 (⟨2, [0, 0, 0, 0], wr .i64 (x2 + 1), wr .i64 ((wr .i64 (x2 + 1)) + y151)⟩ : T48)) >>= fun v161 =>
  M.tidepoleref11_code_l8 (wr .i64 (x2 + 1), x3, x5v, x10, v161)
  else none
  else none
  else none
  else
  M.tidepoleref11_code_l8 (x2, x3, x5v, x10, e0)
  else
  some e0
  partial_fixpoint

def M.tidepoleref11_code_l8 : Int × Int × T27 × Int × (List T48) → Option (List T48) := fun ⟨x2, x3, x5v, x10, e0⟩ =>
  if 0 ≤ x10 then
  if x10 < (x5v.L.length : Int) then
  M.tidepoleref11_code (e0, (⟨(gi x5v.L x10).Kind, ((gi x5v.L x10).Set), (gi x5v.L x10).L, (gi x5v.L x10).Min, (gi x5v.L x10).Max⟩ : T27), x2, x3) >>= fun y181 =>
  M.tidepoleref11_count (⟨(gi x5v.L x10).Kind, ((gi x5v.L x10).Set), (gi x5v.L x10).L, (gi x5v.L x10).Min, (gi x5v.L x10).Max⟩ : T27) >>= fun y192 =>
  M.tidepoleref11_code_l4 (wr .i64 (x2 + y192), x3, x5v, wr .i64 (x10 + 1), y181)
  else none
  else none
  partial_fixpoint

def M.tidepoleref11_code_l2 : Int × Int × T27 × Int × Int × (List T48) → Option (List T48) := fun ⟨x2, x3, x5v, x11, x12, e0⟩ =>
  if x12 < x5v.Min then
  if x12 = wr .i64 (x5v.Min - 1) then
  M.tidepoleref11_code_l5 (x2, x3, x5v, x11, x12, wr .i64 (x2 + x11), decide (x5v.Max = x5v.Min), e0)
  else
  M.tidepoleref11_code_l5 (x2, x3, x5v, x11, x12, wr .i64 (x2 + x11), false, e0)
  else
  if x5v.Max < 0 then
  if 0 ≤ x2 then
  if x2 < (e0.length : Int) then
  some (si e0 x2 (⟨2, [0, 0, 0, 0], wr .i64 (x2 + 1), x3⟩ : T48)) >>= fun v84 =>
  if 0 < (x5v.L.length : Int) then
  M.tidepoleref11_code (v84, (⟨(gi x5v.L 0).Kind, ((gi x5v.L 0).Set), (gi x5v.L 0).L, (gi x5v.L 0).Min, (gi x5v.L 0).Max⟩ : T27), wr .i64 (x2 + 1), x2) >>= fun y99 =>
  M.tidepoleref11_code_l6 (x2, x3, x5v, x11, y99)
  else none
  else none
  else none
  else
  M.tidepoleref11_code_l6 (x2, x3, x5v, x11, e0)
  partial_fixpoint

def M.tidepoleref11_code_l5 : Int × Int × T27 × Int × Int × Int × Bool × (List T48) → Option (List T48) := fun ⟨x2, x3, x5v, x11, x12, x13, x171, e0⟩ =>
  if x171 = true then
  M.tidepoleref11_code_l9 (x2, x3, x5v, x11, x12, x3, e0)
  else
  M.tidepoleref11_code_l9 (x2, x3, x5v, x11, x12, x13, e0)
  partial_fixpoint

def M.tidepoleref11_code_l9 : Int × Int × T27 × Int × Int × Int × (List T48) → Option (List T48) := fun ⟨x2, x3, x5v, x11, x12, x13, e0⟩ =>
  if 0 < (x5v.L.length : Int) then
  M.tidepoleref11_code (e0, (⟨(gi x5v.L 0).Kind, ((gi x5v.L 0).Set), (gi x5v.L 0).L, (gi x5v.L 0).Min, (gi x5v.L 0).Max⟩ : T27), x2, x13) >>= fun y204 =>
  M.tidepoleref11_code_l2 (wr .i64 (x2 + x11), x3, x5v, x11, wr .i64 (x12 + 1), y204)
  else none
  partial_fixpoint

def M.tidepoleref11_code_l6 : Int × Int × T27 × Int × (List T48) → Option (List T48) := fun ⟨x2, x3, x5v, x11, e0⟩ =>
  M.tidepoleref11_code_l10 (x2, x3, x5v, x11, x5v.Min, e0)
  partial_fixpoint

def M.tidepoleref11_code_l10 : Int × Int × T27 × Int × Int × (List T48) → Option (List T48) := fun ⟨x2, x3, x5v, x11, x14, e0⟩ =>
  if x14 < x5v.Max then
  if 0 ≤ x2 then
  if x2 < (e0.length : Int) then
  some (si e0 x2 (⟨2, [0, 0, 0, 0], wr .i64 (x2 + 1), x3⟩ : T48)) >>= fun v215 =>
  if x14 = wr .i64 (x5v.Max - 1) then
  M.tidepoleref11_code_l11 (x2, x3, x5v, x11, x14, x3, v215)
  else
  M.tidepoleref11_code_l11 (x2, x3, x5v, x11, x14, wr .i64 ((wr .i64 (x2 + 1)) + x11), v215)
  else none
  else none
  else
  some e0
  partial_fixpoint

def M.tidepoleref11_code_l11 : Int × Int × T27 × Int × Int × Int × (List T48) → Option (List T48) := fun ⟨x2, x3, x5v, x11, x14, x15, e0⟩ =>
  if 0 < (x5v.L.length : Int) then
  M.tidepoleref11_code (e0, (⟨(gi x5v.L 0).Kind, ((gi x5v.L 0).Set), (gi x5v.L 0).L, (gi x5v.L 0).Min, (gi x5v.L 0).Max⟩ : T27), wr .i64 (x2 + 1), x15) >>= fun y232 =>
  M.tidepoleref11_code_l10 (wr .i64 (x2 + (wr .i64 (x11 + 1))), x3, x5v, x11, wr .i64 (x14 + 1), y232)
  else none
  partial_fixpoint

end

/-! tidepole/tidepoleref11.Make -/
def M.tidepoleref11_Make (x0 : T27) : Option ((List T48) × Int) :=
  M.tidepoleref11_Count x0 >>= fun y3 =>
  if y3.2 = 0 then
  if y3.1 > 2048 then
  some (([] : List T48), 110)
  else
  if 0 ≤ y3.1 then
  if y3.1 ≤ 1099511627776 then
  some (List.replicate (y3.1 : Int).toNat (⟨0, [0, 0, 0, 0], 0, 0⟩ : T48)) >>= fun v10 =>
  M.tidepoleref11_code (v10, x0, 0, wr .i64 (y3.1 - 1)) >>= fun y16 =>
  if 0 ≤ wr .i64 (y3.1 - 1) then
  if wr .i64 (y3.1 - 1) < (v10.length : Int) then
  some (si y16 (wr .i64 (y3.1 - 1)) (⟨3, [0, 0, 0, 0], 0, 0⟩ : T48)) >>= fun v26 =>
  some (v26, 0)
  else none
  else none
  else none
  else none
  else
  some (([] : List T48), y3.2)

/-! tidepole/tidepolelaw11.same -/
def M.tidepolelaw11_same_l0 : (List T48) × (List T48) × Int → Option Bool := fun ⟨x0, x1, x5⟩ =>
  if x5 < (x0.length : Int) then
  if 0 ≤ x5 then
  if x5 < (x1.length : Int) then
  if [(gi x0 x5).Op, gi ((gi x0 x5).Set) 0, gi ((gi x0 x5).Set) 1, gi ((gi x0 x5).Set) 2, gi ((gi x0 x5).Set) 3, (gi x0 x5).X, (gi x0 x5).Y] = [(gi x1 x5).Op, gi ((gi x1 x5).Set) 0, gi ((gi x1 x5).Set) 1, gi ((gi x1 x5).Set) 2, gi ((gi x1 x5).Set) 3, (gi x1 x5).X, (gi x1 x5).Y] then
  M.tidepolelaw11_same_l0 (x0, x1, wr .i64 (x5 + 1))
  else
  some false
  else none
  else none
  else
  some true
  partial_fixpoint

/-! tidepole/tidepolelaw11.same -/
def M.tidepolelaw11_same (x0 : List T48) (x1 : List T48) : Option Bool :=
  if (x0.length : Int) = (x1.length : Int) then
  M.tidepolelaw11_same_l0 (x0, x1, 0)
  else
  some false

/-! (*tidepole/syntax.parser).peek -/
def M.syntax_parser_peek_l0 : Bool × T68 → Option (Int × T68) := fun ⟨x19, e0v⟩ =>
  if x19 = true then
  some (0, e0v)
  else
  if 0 ≤ e0v.at_ then
  if e0v.at_ < (e0v.s.size : Int) then
  some (bt e0v.s e0v.at_, e0v)
  else none
  else none

/-! (*tidepole/syntax.parser).peek -/
def M.syntax_parser_peek (x0v : T68) : Option (Int × T68) :=
  some (x0v.bad) >>= fun v8 =>
  (match v8 with
  | none =>
  M.syntax_parser_peek_l0 (decide (x0v.at_ ≥ (x0v.s.size : Int)), (⟨x0v.s, x0v.at_, x0v.deep, none⟩ : T68))
  | some y3 =>
  M.syntax_parser_peek_l0 (true, (⟨x0v.s, x0v.at_, x0v.deep, (some y3)⟩ : T68)))

/-! (*tidepole/syntax.parser).fail -/
def M.syntax_parser_fail (x0v : T68) (x1 : Int) : Option (T27 × T68) :=
  some (x0v.bad) >>= fun v13 =>
  (match v13 with
  | none =>
  some ((⟨0, [0, 0, 0, 0], ([] : List T27), 0, 0⟩ : T27), (⟨x0v.s, x0v.at_, x0v.deep, (some (⟨x1⟩ : T72))⟩ : T68))
  | some y5 =>
  some ((⟨0, [0, 0, 0, 0], ([] : List T27), 0, 0⟩ : T27), (⟨x0v.s, x0v.at_, x0v.deep, (some y5)⟩ : T68)))

/-! (*tidepole/syntax.parser).take -/
def M.syntax_parser_take_l0 : Bool × T68 → Option (Bool × T68) := fun ⟨x12, e0v⟩ =>
  if x12 = true then
  some (false, e0v)
  else
  some (true, (⟨e0v.s, wr .i64 (e0v.at_ + 1), e0v.deep, e0v.bad⟩ : T68))

/-! (*tidepole/syntax.parser).take -/
def M.syntax_parser_take (x0v : T68) (x1 : Int) : Option (Bool × T68) :=
  if x1 = 0 then
  M.syntax_parser_take_l0 (true, x0v)
  else
  M.syntax_parser_peek x0v >>= fun y3 =>
  M.syntax_parser_take_l0 (!(decide (y3.1 = x1)), y3.2)

/-! tidepole/syntax.one -/
def M.syntax_one (x0 : Int) : Option (List Int) :=
  if 0 ≤ irem .u8 x0 64 then
  if 0 ≤ iquo .u8 x0 64 then
  if iquo .u8 x0 64 < 4 then
  some (si [0, 0, 0, 0] (iquo .u8 x0 64) (ishl .u64 1 (irem .u8 x0 64))) >>= fun v11 =>
  some v11
  else none
  else none
  else none

/-! tidepole/syntax.not -/
def M.syntax_not_l0 : (List Int) × (List Int) × Int → Option (List Int) := fun ⟨x1, x2v_0, x4⟩ =>
  if x4 < 4 then
  if 0 ≤ x4 then
  some (si x1 x4 (ixor .u64 18446744073709551615 (gi x1 x4))) >>= fun v13 =>
  M.syntax_not_l0 (v13, x2v_0, wr .i64 (x4 + 1))
  else none
  else
  some x1
  partial_fixpoint

/-! tidepole/syntax.not -/
def M.syntax_not (x0 : List Int) : Option (List Int) :=
  M.syntax_not_l0 (x0, [0, 0, 0, 0], 0)

/-! (*tidepole/syntax.parser).items -/
def M.syntax_parser_items (x0v : T68) : Option Unit :=
  some ()

/-! tidepole/syntax.span -/
def M.syntax_span_l0 : Int × (List Int) × (List Int) × Int → Option (List Int) := fun ⟨x1, x4v_0, x5, x6⟩ =>
  if x6 ≤ wr .i64 x1 then
  if 0 ≤ iquo .i64 x6 64 then
  if iquo .i64 x6 64 < 4 then
  if 0 ≤ irem .i64 x6 64 then
  some (si x5 (iquo .i64 x6 64) (ior .u64 (gi x5 (iquo .i64 x6 64)) (ishl .u64 1 (irem .i64 x6 64)))) >>= fun v18 =>
  M.syntax_span_l0 (x1, x4v_0, v18, wr .i64 (x6 + 1))
  else none
  else none
  else none
  else
  some x5
  partial_fixpoint

/-! tidepole/syntax.span -/
def M.syntax_span (x0 : Int) (x1 : Int) : Option (List Int) :=
  M.syntax_span_l0 (x1, [0, 0, 0, 0], [0, 0, 0, 0], wr .i64 x0)

/-! tidepole/syntax.join -/
mutual

def M.syntax_join_l0 : (List Int) × (List Int) × (List (List Int)) × Int × Int → Option (List Int) := fun ⟨x2v_0, x3, x7, x8, x9⟩ =>
  if x9 < x8 then
  if 0 ≤ x9 then
  if x9 < (x7.length : Int) then
  M.syntax_join_l1 (x2v_0, x3, (gi x7 x9), x7, x8, x9, 0)
  else none
  else none
  else
  some x3
  partial_fixpoint

def M.syntax_join_l1 : (List Int) × (List Int) × (List Int) × (List (List Int)) × Int × Int × Int → Option (List Int) := fun ⟨x2v_0, x3, x5, x7, x8, x9, x13⟩ =>
  if x13 < 4 then
  if 0 ≤ x13 then
  some (si x3 x13 (ior .u64 (gi x3 x13) (gi x5 x13))) >>= fun v34 =>
  M.syntax_join_l1 (x2v_0, v34, x5, x7, x8, x9, wr .i64 (x13 + 1))
  else none
  else
  M.syntax_join_l0 (x2v_0, x3, x7, x8, wr .i64 (x9 + 1))
  partial_fixpoint

end

/-! tidepole/syntax.join -/
def M.syntax_join (x0 : List (List Int)) : Option (List Int) :=
  M.syntax_join_l0 ([0, 0, 0, 0], [0, 0, 0, 0], x0, (x0.length : Int), 0)

/-! tidepole/syntax.class -/
def M.syntax_class (x0 : Int) : Option ((List Int) × Bool) :=
  if ior .u8 x0 32 = 119 then
  M.syntax_span 97 122 >>= fun y6 =>
  M.syntax_span 65 90 >>= fun y8 =>
  M.syntax_one 95 >>= fun y10 =>
  M.syntax_join [[0, 0, 0, 0], y6, y8, y10] >>= fun y19 =>
  M.syntax_span 48 57 >>= fun y22 =>
  M.syntax_join [y19, y22] >>= fun y30 =>
  if iand .u8 x0 32 = 0 then
  M.syntax_not y30 >>= fun y33 =>
  some (y33, true)
  else
  some (y30, true)
  else
  if ior .u8 x0 32 = 100 then
  M.syntax_span 48 57 >>= fun y38 =>
  M.syntax_join [[0, 0, 0, 0], y38] >>= fun y45 =>
  if iand .u8 x0 32 = 0 then
  M.syntax_not y45 >>= fun y49 =>
  some (y49, true)
  else
  some (y45, true)
  else
  if ior .u8 x0 32 = 115 then
  M.syntax_span 9 10 >>= fun y54 =>
  M.syntax_span 12 13 >>= fun y56 =>
  M.syntax_one 32 >>= fun y58 =>
  M.syntax_join [y54, y56, y58] >>= fun y67 =>
  if iand .u8 x0 32 = 0 then
  M.syntax_not y67 >>= fun y71 =>
  some (y71, true)
  else
  some (y67, true)
  else
  some ([0, 0, 0, 0], false)

/-! tidepole/syntax.lower -/
def M.syntax_lower (x0 : Int) : Option Int :=
  if x0 ≥ 65 then
  if x0 ≤ 70 then
  some (wr .u8 ((wr .u8 (x0 + 97)) - 65))
  else
  some x0
  else
  some x0

/-! internal/stringslite.IndexByte -/
def M.stringslite_IndexByte (x0 : ByteArray) (x1 : Int) : Option Int :=
  some (ixB x0 x1)

/-! strings.IndexByte -/
def M.strings_IndexByte (x0 : ByteArray) (x1 : Int) : Option Int :=
  M.stringslite_IndexByte x0 x1 >>= fun y1 =>
  some y1

/-! tidepole/syntax.nibble -/
def M.syntax_nibble (x0 : Int) : Option Int :=
  M.syntax_lower x0 >>= fun y1 =>
  M.strings_IndexByte (⟨#[48, 49, 50, 51, 52, 53, 54, 55, 56, 57, 97, 98, 99, 100, 101, 102]⟩ : ByteArray) y1 >>= fun y3 =>
  some y3

/-! (*tidepole/syntax.parser).digit -/
def M.syntax_parser_digit (x0v : T68) : Option (Int × T68) :=
  M.syntax_parser_peek x0v >>= fun y2 =>
  M.syntax_nibble y2.1 >>= fun y4 =>
  if y4 < 0 then
  M.syntax_parser_fail y2.2 y2.2.at_ >>= fun y7 =>
  some (0, y7.2)
  else
  some (wr .u8 y4, (⟨y2.2.s, wr .i64 (y2.2.at_ + 1), y2.2.deep, y2.2.bad⟩ : T68))

/-! tidepole/syntax.of -/
def M.syntax_of (x0 : Int) : Option T126 :=
  M.syntax_one x0 >>= fun y3 =>
  some (⟨y3, x0, true⟩ : T126)

/-! (*tidepole/syntax.parser).escape -/
def M.syntax_parser_escape_l0 : T126 × Int × Bool × T68 → Option (T126 × T68) := fun ⟨x2v, x3, x66, e0v⟩ =>
  if x66 = true then
  M.syntax_parser_fail e0v e0v.at_ >>= fun y31 =>
  some ((⟨[0, 0, 0, 0], 0, false⟩ : T126), y31.2)
  else
  M.syntax_of x3 >>= fun y33 =>
  some (y33, (⟨e0v.s, wr .i64 (e0v.at_ + 1), e0v.deep, e0v.bad⟩ : T68))

/-! (*tidepole/syntax.parser).escape -/
def M.syntax_parser_escape (x0v : T68) : Option (T126 × T68) :=
  M.syntax_parser_peek x0v >>= fun y4 =>
  M.syntax_class y4.1 >>= fun y6 =>
  if y6.2 = true then
  some ((⟨y6.1, 0, false⟩ : T126), (⟨y4.2.s, wr .i64 (y4.2.at_ + 1), y4.2.deep, y4.2.bad⟩ : T68))
  else
  if y4.1 = 120 then
  M.syntax_parser_digit (⟨y4.2.s, wr .i64 (y4.2.at_ + 1), y4.2.deep, y4.2.bad⟩ : T68) >>= fun y14 =>
  M.syntax_parser_digit y14.2 >>= fun y16 =>
  M.syntax_of (ior .u8 (ishl .u8 y14.1 4) y16.1) >>= fun y18 =>
  some (y18, y16.2)
  else
  if y4.1 = 110 then
  M.syntax_of 10 >>= fun y21 =>
  some (y21, (⟨y4.2.s, wr .i64 (y4.2.at_ + 1), y4.2.deep, y4.2.bad⟩ : T68))
  else
  if y4.1 = 116 then
  M.syntax_of 9 >>= fun y24 =>
  some (y24, (⟨y4.2.s, wr .i64 (y4.2.at_ + 1), y4.2.deep, y4.2.bad⟩ : T68))
  else
  if y4.1 = 0 then
  M.syntax_parser_escape_l0 ((⟨[0, 0, 0, 0], 0, false⟩ : T126), y4.1, true, y4.2)
  else
  M.strings_IndexByte (⟨#[92, 46, 91, 93, 40, 41, 42, 43, 63, 123, 125, 94, 36, 45, 47, 124]⟩ : ByteArray) y4.1 >>= fun y28 =>
  M.syntax_parser_escape_l0 ((⟨[0, 0, 0, 0], 0, false⟩ : T126), y4.1, decide (y28 < 0), y4.2)

/-! (*tidepole/syntax.parser).item -/
def M.syntax_parser_item_l0 : T126 × Int × Bool × T68 → Option (T126 × T68) := fun ⟨x2v, x3, x11, e0v⟩ =>
  if x11 = true then
  M.syntax_parser_fail e0v e0v.at_ >>= fun y17 =>
  some ((⟨[0, 0, 0, 0], 0, false⟩ : T126), y17.2)
  else
  M.syntax_of x3 >>= fun y19 =>
  some (y19, (⟨e0v.s, wr .i64 (e0v.at_ + 1), e0v.deep, e0v.bad⟩ : T68))

/-! (*tidepole/syntax.parser).item -/
def M.syntax_parser_item (x0v : T68) : Option (T126 × T68) :=
  M.syntax_parser_peek x0v >>= fun y4 =>
  M.syntax_parser_take y4.2 92 >>= fun y6 =>
  if y6.1 = true then
  M.syntax_parser_escape y6.2 >>= fun y9 =>
  some (y9.1, y9.2)
  else
  if y4.1 < 32 then
  M.syntax_parser_item_l0 ((⟨[0, 0, 0, 0], 0, false⟩ : T126), y4.1, true, y6.2)
  else
  if y4.1 > 126 then
  M.syntax_parser_item_l0 ((⟨[0, 0, 0, 0], 0, false⟩ : T126), y4.1, true, y6.2)
  else
  M.strings_IndexByte (⟨#[93, 91, 45]⟩ : ByteArray) y4.1 >>= fun y14 =>
  M.syntax_parser_item_l0 ((⟨[0, 0, 0, 0], 0, false⟩ : T126), y4.1, decide (y14 ≥ 0), y6.2)

/-! (*tidepole/syntax.parser).pair -/
def M.syntax_parser_pair_l0 : (List Int) × Int × T126 × Int × T126 × Bool × T68 → Option ((List Int) × T68) := fun ⟨x2v_0, x3, x4v, x5, x6v, x47, e0v⟩ =>
  if x47 = true then
  some (x4v.set_, e0v)
  else
  if x6v.single = true then
  if x4v.b > x6v.b then
  M.syntax_parser_fail e0v x3 >>= fun y31 =>
  some (x4v.set_, y31.2)
  else
  M.syntax_span x4v.b x6v.b >>= fun y33 =>
  some (y33, e0v)
  else
  M.syntax_parser_fail e0v (wr .i64 (x5 + 1)) >>= fun y36 =>
  some (x4v.set_, y36.2)

/-! (*tidepole/syntax.parser).pair -/
def M.syntax_parser_pair (x0v : T68) : Option ((List Int) × T68) :=
  M.syntax_parser_item x0v >>= fun y4 =>
  M.syntax_parser_peek y4.2 >>= fun y8 =>
  if y8.1 = 45 then
  if y4.1.single = true then
  M.syntax_parser_item (⟨y8.2.s, wr .i64 (y8.2.at_ + 1), y8.2.deep, y8.2.bad⟩ : T68) >>= fun y12 =>
  some (y12.2.bad) >>= fun v25 =>
  (match v25 with
  | none =>
  M.syntax_parser_pair_l0 ([0, 0, 0, 0], x0v.at_, (⟨y4.1.set_, y4.1.b, true⟩ : T126), wr .i64 (y8.2.at_ + 1), y12.1, false, (⟨y12.2.s, y12.2.at_, y12.2.deep, none⟩ : T68))
  | some y17 =>
  M.syntax_parser_pair_l0 ([0, 0, 0, 0], x0v.at_, (⟨y4.1.set_, y4.1.b, true⟩ : T126), wr .i64 (y8.2.at_ + 1), y12.1, true, (⟨y12.2.s, y12.2.at_, y12.2.deep, (some y17)⟩ : T68)))
  else
  M.syntax_parser_fail y8.2 y8.2.at_ >>= fun y26 =>
  some (y4.1.set_, y26.2)
  else
  some (y4.1.set_, y8.2)

/-! (*tidepole/syntax.parser).class -/
def M.syntax_parser_class_r_2 (kq2v : T27) (kq3 : Bool) (kq4 : List Int) (kq9b0v_0v : T68) (a0 : List Int) : Option (List Int) :=
  M.syntax_join [kq4, a0] >>= fun y16 =>
  some y16

/-! (*tidepole/syntax.parser).items$1 -/
mutual

def M.syntax_parser_items_1_l0 : Bool × (List Int) × T68 × T27 × Bool → Option ((List Int) × T68) := fun ⟨x3, e2, e4v, x0q2v, x0q3⟩ =>
  some (e4v.bad) >>= fun v17 =>
  (match v17 with
  | none =>
  if x3 = true then
  M.syntax_parser_items_1_l1 (true, e2, (⟨e4v.s, e4v.at_, e4v.deep, none⟩ : T68), x0q2v, x0q3)
  else
  M.syntax_parser_take (⟨e4v.s, e4v.at_, e4v.deep, none⟩ : T68) 93 >>= fun y15 =>
  M.syntax_parser_items_1_l1 (!y15.1, e2, y15.2, x0q2v, x0q3)
  | some y9 =>
  M.syntax_parser_items_1_l1 (false, e2, (⟨e4v.s, e4v.at_, e4v.deep, (some y9)⟩ : T68), x0q2v, x0q3))
  partial_fixpoint

def M.syntax_parser_items_1_l1 : Bool × (List Int) × T68 × T27 × Bool → Option ((List Int) × T68) := fun ⟨x16, e2, e4v, x0q2v, x0q3⟩ =>
  if x16 = true then
  M.syntax_parser_pair e4v >>= fun y19 =>
  M.syntax_parser_class_r_2 x0q2v x0q3 e2 y19.2 y19.1 >>= fun y21 =>
  M.syntax_parser_items_1_l0 (false, y21, y19.2, x0q2v, x0q3)
  else
  some (e2, e4v)
  partial_fixpoint

end

/-! (*tidepole/syntax.parser).items$1 -/
def M.syntax_parser_items_1 (x0q2v : T27) (x0q3 : Bool) (x0q4v_0 : List Int) (x0q9b0v_0v : T68) : Option ((List Int) × T68) :=
  M.syntax_parser_items_1_l0 (true, x0q4v_0, x0q9b0v_0v, x0q2v, x0q3)

/-! (*tidepole/syntax.parser).class -/
def M.syntax_parser_class (x0v : T68) : Option (T27 × T68) :=
  M.syntax_parser_take x0v 94 >>= fun y4 =>
  M.syntax_parser_items y4.2 >>= fun y8 =>
  M.syntax_parser_items_1 (⟨0, [0, 0, 0, 0], ([] : List T27), 0, 0⟩ : T27) y4.1 [0, 0, 0, 0] y4.2 >>= fun y17 =>
  if y4.1 = true then
  M.syntax_not y17.1 >>= fun y20 =>
  some ((⟨1, y20, ([] : List T27), 0, 0⟩ : T27), y17.2)
  else
  some ((⟨1, y17.1, ([] : List T27), 0, 0⟩ : T27), y17.2)

/-! (*tidepole/syntax.parser).need -/
def M.syntax_parser_need (x0v : T68) (x1 : Int) : Option T68 :=
  M.syntax_parser_take x0v x1 >>= fun y2 =>
  if y2.1 = true then
  some y2.2
  else
  M.syntax_parser_fail y2.2 y2.2.at_ >>= fun y5 =>
  some y5.2

/-! (*tidepole/syntax.parser).number$1 -/
def M.syntax_parser_number_1 (x0v_0v : T68) : Option (Bool × T68) :=
  M.syntax_parser_peek x0v_0v >>= fun y3 =>
  if y3.1 ≥ 48 then
  M.syntax_parser_peek y3.2 >>= fun y6 =>
  some (decide (y6.1 ≤ 57), y6.2)
  else
  some (false, y3.2)

/-! (*tidepole/syntax.parser).number -/
def M.syntax_parser_number_l0 : Int × Bool × T68 → Option (Int × T68) := fun ⟨x4, x25, e0v⟩ =>
  if x25 = true then
  M.syntax_parser_peek e0v >>= fun y14 =>
  some (wr .i64 ((wr .i64 (10 * x4)) + (wr .i64 (wr .u8 (y14.1 - 48)))), (⟨y14.2.s, wr .i64 (y14.2.at_ + 1), y14.2.deep, y14.2.bad⟩ : T68))
  else
  some (x4, e0v)

/-! (*tidepole/syntax.parser).number -/
def M.syntax_parser_number (x0v : T68) : Option (Int × T68) :=
  M.syntax_parser_number_1 x0v >>= fun y4 =>
  if y4.1 = true then
  M.syntax_parser_peek y4.2 >>= fun y7 =>
  if wr .i64 (wr .u8 (y7.1 - 48)) > 0 then
  M.syntax_parser_number_1 (⟨y7.2.s, wr .i64 (y7.2.at_ + 1), y7.2.deep, y7.2.bad⟩ : T68) >>= fun y10 =>
  M.syntax_parser_number_l0 (wr .i64 (wr .u8 (y7.1 - 48)), y10.1, y10.2)
  else
  M.syntax_parser_number_l0 (wr .i64 (wr .u8 (y7.1 - 48)), false, (⟨y7.2.s, wr .i64 (y7.2.at_ + 1), y7.2.deep, y7.2.bad⟩ : T68))
  else
  some ((-1), y4.2)

/-! (*tidepole/syntax.parser).counted -/
def M.syntax_parser_counted_l1 : Int × Int × Int × T68 → Option (Int × Int × T68) := fun ⟨x1, x6, x7, e0v⟩ =>
  M.syntax_parser_need e0v 125 >>= fun y12 =>
  if x6 > 64 then
  M.syntax_parser_fail y12 x1 >>= fun y15 =>
  some (x6, x7, y15.2)
  else
  if x7 > 64 then
  M.syntax_parser_fail y12 x1 >>= fun y18 =>
  some (x6, x7, y18.2)
  else
  if x7 ≥ 0 then
  if x6 > x7 then
  M.syntax_parser_fail y12 x1 >>= fun y22 =>
  some (x6, x7, y22.2)
  else
  some (x6, x7, y12)
  else
  some (x6, x7, y12)

/-! (*tidepole/syntax.parser).counted -/
def M.syntax_parser_counted_l0 : Int × Int × T68 → Option (Int × Int × T68) := fun ⟨x1, x6, e0v⟩ =>
  M.syntax_parser_take e0v 44 >>= fun y7 =>
  if y7.1 = true then
  M.syntax_parser_number y7.2 >>= fun y10 =>
  M.syntax_parser_counted_l1 (x1, x6, y10.1, y10.2)
  else
  M.syntax_parser_counted_l1 (x1, x6, x6, y7.2)

/-! (*tidepole/syntax.parser).counted -/
def M.syntax_parser_counted (x0v : T68) (x1 : Int) : Option (Int × Int × T68) :=
  M.syntax_parser_number x0v >>= fun y2 =>
  if y2.1 < 0 then
  M.syntax_parser_fail y2.2 y2.2.at_ >>= fun y5 =>
  M.syntax_parser_counted_l0 (x1, y2.1, y5.2)
  else
  M.syntax_parser_counted_l0 (x1, y2.1, y2.2)

/-! tidepole/syntax.several -/
def M.syntax_several (x0 : Int) (x1 : List T27) : Option T27 :=
  if (x1.length : Int) = 1 then
  if 0 < (x1.length : Int) then
  some (⟨(gi x1 0).Kind, ((gi x1 0).Set), (gi x1 0).L, (gi x1 0).Min, (gi x1 0).Max⟩ : T27)
  else none
  else
  some (⟨x0, [0, 0, 0, 0], x1, 0, 0⟩ : T27)

/-! (*tidepole/syntax.parser).alternation, (*tidepole/syntax.parser).atom, (*tidepole/syntax.parser).group, (*tidepole/syntax.parser).piece, (*tidepole/syntax.parser).sequence -/
mutual

def M.syntax_parser_alternation : T68 → Option (T27 × T68) := fun x0v =>
  M.syntax_parser_sequence x0v >>= fun y4 =>
  M.syntax_parser_alternation_l0 ((⟨0, [0, 0, 0, 0], ([] : List T27), 0, 0⟩ : T27), [y4.1], y4.2)
  partial_fixpoint

def M.syntax_parser_sequence : T68 → Option (T27 × T68) := fun x0v =>
  M.syntax_parser_sequence_l0 ((⟨0, [0, 0, 0, 0], ([] : List T27), 0, 0⟩ : T27), ([] : List T27), x0v)
  partial_fixpoint

def M.syntax_parser_sequence_l0 : T27 × (List T27) × T68 → Option (T27 × T68) := fun ⟨x2v, x3, e0v⟩ =>
  some (e0v.bad) >>= fun v24 =>
  (match v24 with
  | none =>
  if e0v.at_ < (e0v.s.size : Int) then
  M.syntax_parser_peek (⟨e0v.s, e0v.at_, e0v.deep, none⟩ : T68) >>= fun y16 =>
  if y16.1 = 124 then
  M.syntax_parser_sequence_l1 (x2v, x3, false, y16.2)
  else
  M.syntax_parser_peek y16.2 >>= fun y22 =>
  M.syntax_parser_sequence_l1 (x2v, x3, !(decide (y22.1 = 41)), y22.2)
  else
  M.syntax_parser_sequence_l1 (x2v, x3, false, (⟨e0v.s, e0v.at_, e0v.deep, none⟩ : T68))
  | some y10 =>
  M.syntax_parser_sequence_l1 (x2v, x3, false, (⟨e0v.s, e0v.at_, e0v.deep, (some y10)⟩ : T68)))
  partial_fixpoint

def M.syntax_parser_sequence_l1 : T27 × (List T27) × Bool × T68 → Option (T27 × T68) := fun ⟨x2v, x3, x30, e0v⟩ =>
  if x30 = true then
  M.syntax_parser_piece e0v >>= fun y26 =>
  if ((x3 ++ [y26.1]).length : Int) ≤ 1099511627776 then
  M.syntax_parser_sequence_l0 (x2v, (x3 ++ [y26.1]), y26.2)
  else none
  else
  M.syntax_several 2 x3 >>= fun y40 =>
  some (y40, e0v)
  partial_fixpoint

def M.syntax_parser_piece : T68 → Option (T27 × T68) := fun x0v =>
  M.syntax_parser_atom x0v >>= fun y4 =>
  M.syntax_parser_take y4.2 42 >>= fun y8 =>
  if y8.1 = true then
  some ((⟨4, [0, 0, 0, 0], [y4.1], 0, (-1)⟩ : T27), y8.2)
  else
  M.syntax_parser_take y8.2 43 >>= fun y15 =>
  if y15.1 = true then
  some ((⟨4, [0, 0, 0, 0], [y4.1], 1, (-1)⟩ : T27), y15.2)
  else
  M.syntax_parser_take y15.2 63 >>= fun y22 =>
  if y22.1 = true then
  some ((⟨4, [0, 0, 0, 0], [y4.1], 0, 1⟩ : T27), y22.2)
  else
  M.syntax_parser_take y22.2 123 >>= fun y29 =>
  if y29.1 = true then
  M.syntax_parser_counted y29.2 y4.2.at_ >>= fun y32 =>
  some ((⟨4, [0, 0, 0, 0], [y4.1], y32.1, y32.2.1⟩ : T27), y32.2.2)
  else
  some (y4.1, y29.2)
  partial_fixpoint

def M.syntax_parser_atom : T68 → Option (T27 × T68) := fun x0v =>
  M.syntax_parser_peek x0v >>= fun y4 =>
  if y4.1 < 32 then
  M.syntax_parser_atom_l0 ((⟨0, [0, 0, 0, 0], ([] : List T27), 0, 0⟩ : T27), y4.1, true, y4.2)
  else
  if y4.1 > 126 then
  M.syntax_parser_atom_l0 ((⟨0, [0, 0, 0, 0], ([] : List T27), 0, 0⟩ : T27), y4.1, true, y4.2)
  else
  M.strings_IndexByte (⟨#[93, 41, 42, 43, 63, 123, 125, 94, 36, 124]⟩ : ByteArray) y4.1 >>= fun y12 =>
  M.syntax_parser_atom_l0 ((⟨0, [0, 0, 0, 0], ([] : List T27), 0, 0⟩ : T27), y4.1, decide (y12 ≥ 0), y4.2)
  partial_fixpoint

def M.syntax_parser_atom_l0 : T27 × Int × Bool × T68 → Option (T27 × T68) := fun ⟨x2v, x3, x6, e0v⟩ =>
  if x6 = true then
  M.syntax_parser_fail e0v e0v.at_ >>= fun y16 =>
  some (y16.1, y16.2)
  else
  if x3 = 40 then
  M.syntax_parser_atom_l1 (x2v, x3, decide (e0v.deep = 32), e0v)
  else
  M.syntax_parser_atom_l1 (x2v, x3, false, e0v)
  partial_fixpoint

def M.syntax_parser_atom_l1 : T27 × Int × Bool × T68 → Option (T27 × T68) := fun ⟨x2v, x3, x24, e0v⟩ =>
  if x24 = true then
  M.syntax_parser_fail e0v e0v.at_ >>= fun y22 =>
  some (y22.1, y22.2)
  else
  M.syntax_parser_take e0v 46 >>= fun y24 =>
  if y24.1 = true then
  M.syntax_one 10 >>= fun y27 =>
  M.syntax_not y27 >>= fun y29 =>
  some ((⟨1, y29, ([] : List T27), 0, 0⟩ : T27), y24.2)
  else
  M.syntax_parser_take y24.2 91 >>= fun y32 =>
  if y32.1 = true then
  M.syntax_parser_class y32.2 >>= fun y35 =>
  some (y35.1, y35.2)
  else
  M.syntax_parser_take y32.2 40 >>= fun y37 =>
  if y37.1 = true then
  M.syntax_parser_group y37.2 >>= fun y40 =>
  some (y40.1, y40.2)
  else
  M.syntax_parser_take y37.2 92 >>= fun y42 =>
  if y42.1 = true then
  M.syntax_parser_escape y42.2 >>= fun y45 =>
  some ((⟨1, y45.1.set_, ([] : List T27), 0, 0⟩ : T27), y45.2)
  else
  M.syntax_one x3 >>= fun y47 =>
  some ((⟨1, y47, ([] : List T27), 0, 0⟩ : T27), (⟨y42.2.s, wr .i64 (y42.2.at_ + 1), y42.2.deep, y42.2.bad⟩ : T68))
  partial_fixpoint

def M.syntax_parser_group : T68 → Option (T27 × T68) := fun x0v =>
  M.syntax_parser_take x0v 63 >>= fun y4 =>
  if y4.1 = true then
  M.syntax_parser_need y4.2 58 >>= fun y7 =>
  M.syntax_parser_group_l0 ((⟨0, [0, 0, 0, 0], ([] : List T27), 0, 0⟩ : T27), y7)
  else
  M.syntax_parser_group_l0 ((⟨0, [0, 0, 0, 0], ([] : List T27), 0, 0⟩ : T27), y4.2)
  partial_fixpoint

def M.syntax_parser_group_l0 : T27 × T68 → Option (T27 × T68) := fun ⟨x2v, e0v⟩ =>
  M.syntax_parser_alternation (⟨e0v.s, e0v.at_, wr .i64 (e0v.deep + 1), e0v.bad⟩ : T68) >>= fun y13 =>
  M.syntax_parser_need (⟨y13.2.s, y13.2.at_, wr .i64 (y13.2.deep - 1), y13.2.bad⟩ : T68) 41 >>= fun y17 =>
  some (y13.1, y17)
  partial_fixpoint

def M.syntax_parser_alternation_l0 : T27 × (List T27) × T68 → Option (T27 × T68) := fun ⟨x2v, x3, e0v⟩ =>
  M.syntax_parser_take e0v 124 >>= fun y13 =>
  if y13.1 = true then
  M.syntax_parser_sequence y13.2 >>= fun y16 =>
  if ((x3 ++ [y16.1]).length : Int) ≤ 1099511627776 then
  M.syntax_parser_alternation_l0 (x2v, (x3 ++ [y16.1]), y16.2)
  else none
  else
  M.syntax_several 3 x3 >>= fun y30 =>
  some (y30, y13.2)
  partial_fixpoint

end

/-! tidepole/syntax.Parse -/
def M.syntax_Parse_l2 : T27 × T68 × T27 × Bool → Option (T27 × Int × Int) := fun ⟨x2v, x5v, x6v, x40⟩ =>
  if x40 = true then
  some (x5v.bad) >>= fun v48 =>
  (match v48 with
  | none =>
  none
  | some y43 =>
  some ((⟨0, [0, 0, 0, 0], ([] : List T27), 0, 0⟩ : T27), y43.at_, 100))
  else
  some (x6v, 0, 0)

/-! tidepole/syntax.Parse -/
def M.syntax_Parse_l1 : T27 × T68 × T27 → Option (T27 × Int × Int) := fun ⟨x2v, x5v, x6v⟩ =>
  some (x5v.bad) >>= fun v40 =>
  (match v40 with
  | none =>
  M.syntax_Parse_l2 (x2v, (⟨x5v.s, x5v.at_, x5v.deep, none⟩ : T68), x6v, false)
  | some y31 =>
  M.syntax_Parse_l2 (x2v, (⟨x5v.s, x5v.at_, x5v.deep, (some y31)⟩ : T68), x6v, true))

/-! tidepole/syntax.Parse -/
def M.syntax_Parse_l0 : T27 × T68 × T27 × Bool → Option (T27 × Int × Int) := fun ⟨x2v, x5v, x6v, x29⟩ =>
  if x29 = true then
  M.syntax_parser_fail x5v x5v.at_ >>= fun y24 =>
  M.syntax_Parse_l1 (x2v, y24.2, x6v)
  else
  M.syntax_Parse_l1 (x2v, x5v, x6v)

/-! tidepole/syntax.Parse -/
def M.syntax_Parse (x0 : ByteArray) : Option (T27 × Int × Int) :=
  if (x0.size : Int) > 256 then
  some ((⟨0, [0, 0, 0, 0], ([] : List T27), 0, 0⟩ : T27), 0, 3)
  else
  M.syntax_parser_alternation (⟨x0, 0, 0, none⟩ : T68) >>= fun y6 =>
  some (y6.2.bad) >>= fun v22 =>
  (match v22 with
  | none =>
  M.syntax_Parse_l0 ((⟨0, [0, 0, 0, 0], ([] : List T27), 0, 0⟩ : T27), (⟨y6.2.s, y6.2.at_, y6.2.deep, none⟩ : T68), y6.1, decide (y6.2.at_ < (x0.size : Int)))
  | some y11 =>
  M.syntax_Parse_l0 ((⟨0, [0, 0, 0, 0], ([] : List T27), 0, 0⟩ : T27), (⟨y6.2.s, y6.2.at_, y6.2.deep, (some y11)⟩ : T68), y6.1, false))

/-! tidepole/prog.right$1 -/
def M.prog_right_1 (x0 : Int) (x1v_0 : Int) : Option Bool :=
  if x0 ≥ 0 then
  some (decide (x0 < x1v_0))
  else
  some false

/-! tidepole/prog.right -/
def M.prog_right (x0 : T48) (x1 : Int) : Option Bool :=
  if x0.Op = 1 then
  M.prog_right_1 x0.X x1 >>= fun y6 =>
  if y6 = true then
  some (decide (x0.Y = 0))
  else
  some false
  else
  if x0.Op = 2 then
  if x0.Set = [0, 0, 0, 0] then
  M.prog_right_1 x0.X x1 >>= fun y11 =>
  if y11 = true then
  M.prog_right_1 x0.Y x1 >>= fun y14 =>
  some y14
  else
  some false
  else
  some false
  else
  if x0.Op = 4 then
  if x0.Set = [0, 0, 0, 0] then
  M.prog_right_1 x0.X x1 >>= fun y18 =>
  if y18 = true then
  some (decide (x0.Y = 0))
  else
  some false
  else
  some false
  else
  if x0.Op = 3 then
  if x0.Set = [0, 0, 0, 0] then
  if x0.X = 0 then
  some (decide (x0.Y = 0))
  else
  some false
  else
  some false
  else
  some false

/-! tidepole/prog.Check -/
def M.prog_Check_l1 : (List T48) × (List T48) × Int × Int → Option Int := fun ⟨x0, x13, x14, x15⟩ =>
  if x15 < x14 then
  if 0 ≤ x15 then
  if x15 < (x13.length : Int) then
  M.prog_right (⟨(gi x13 x15).Op, ((gi x13 x15).Set), (gi x13 x15).X, (gi x13 x15).Y⟩ : T48) (x0.length : Int) >>= fun y13 =>
  if y13 = true then
  M.prog_Check_l1 (x0, x13, x14, wr .i64 (x15 + 1))
  else
  some 110
  else none
  else none
  else
  some 0
  partial_fixpoint

/-! tidepole/prog.Check -/
def M.prog_Check_l0 : (List T48) × Bool → Option Int := fun ⟨x0, x12⟩ =>
  if x12 = true then
  some 110
  else
  M.prog_Check_l1 (x0, x0, (x0.length : Int), 0)

/-! tidepole/prog.Check -/
def M.prog_Check (x0 : List T48) : Option Int :=
  if (x0.length : Int) = 0 then
  M.prog_Check_l0 (x0, true)
  else
  M.prog_Check_l0 (x0, decide ((x0.length : Int) > 2048))

/-! tidepole/prog.lines -/
def M.prog_lines (x0 : List T48) : Option (List T48) :=
  some x0

/-! math/bits.OnesCount64 -/
def M.bits_OnesCount64 (x0 : Int) : Option Int :=
  some (iand .i64 (wr .i64 (wr .u64 ((wr .u64 ((wr .u64 ((iand .u64 (wr .u64 ((ishr .u64 (wr .u64 ((iand .u64 (ishr .u64 (wr .u64 ((iand .u64 (ishr .u64 x0 1) 6148914691236517205) + (iand .u64 x0 6148914691236517205))) 2) 3689348814741910323) + (iand .u64 (wr .u64 ((iand .u64 (ishr .u64 x0 1) 6148914691236517205) + (iand .u64 x0 6148914691236517205))) 3689348814741910323))) 4) + (wr .u64 ((iand .u64 (ishr .u64 (wr .u64 ((iand .u64 (ishr .u64 x0 1) 6148914691236517205) + (iand .u64 x0 6148914691236517205))) 2) 3689348814741910323) + (iand .u64 (wr .u64 ((iand .u64 (ishr .u64 x0 1) 6148914691236517205) + (iand .u64 x0 6148914691236517205))) 3689348814741910323))))) 1085102592571150095) + (ishr .u64 (iand .u64 (wr .u64 ((ishr .u64 (wr .u64 ((iand .u64 (ishr .u64 (wr .u64 ((iand .u64 (ishr .u64 x0 1) 6148914691236517205) + (iand .u64 x0 6148914691236517205))) 2) 3689348814741910323) + (iand .u64 (wr .u64 ((iand .u64 (ishr .u64 x0 1) 6148914691236517205) + (iand .u64 x0 6148914691236517205))) 3689348814741910323))) 4) + (wr .u64 ((iand .u64 (ishr .u64 (wr .u64 ((iand .u64 (ishr .u64 x0 1) 6148914691236517205) + (iand .u64 x0 6148914691236517205))) 2) 3689348814741910323) + (iand .u64 (wr .u64 ((iand .u64 (ishr .u64 x0 1) 6148914691236517205) + (iand .u64 x0 6148914691236517205))) 3689348814741910323))))) 1085102592571150095) 8))) + (ishr .u64 (wr .u64 ((iand .u64 (wr .u64 ((ishr .u64 (wr .u64 ((iand .u64 (ishr .u64 (wr .u64 ((iand .u64 (ishr .u64 x0 1) 6148914691236517205) + (iand .u64 x0 6148914691236517205))) 2) 3689348814741910323) + (iand .u64 (wr .u64 ((iand .u64 (ishr .u64 x0 1) 6148914691236517205) + (iand .u64 x0 6148914691236517205))) 3689348814741910323))) 4) + (wr .u64 ((iand .u64 (ishr .u64 (wr .u64 ((iand .u64 (ishr .u64 x0 1) 6148914691236517205) + (iand .u64 x0 6148914691236517205))) 2) 3689348814741910323) + (iand .u64 (wr .u64 ((iand .u64 (ishr .u64 x0 1) 6148914691236517205) + (iand .u64 x0 6148914691236517205))) 3689348814741910323))))) 1085102592571150095) + (ishr .u64 (iand .u64 (wr .u64 ((ishr .u64 (wr .u64 ((iand .u64 (ishr .u64 (wr .u64 ((iand .u64 (ishr .u64 x0 1) 6148914691236517205) + (iand .u64 x0 6148914691236517205))) 2) 3689348814741910323) + (iand .u64 (wr .u64 ((iand .u64 (ishr .u64 x0 1) 6148914691236517205) + (iand .u64 x0 6148914691236517205))) 3689348814741910323))) 4) + (wr .u64 ((iand .u64 (ishr .u64 (wr .u64 ((iand .u64 (ishr .u64 x0 1) 6148914691236517205) + (iand .u64 x0 6148914691236517205))) 2) 3689348814741910323) + (iand .u64 (wr .u64 ((iand .u64 (ishr .u64 x0 1) 6148914691236517205) + (iand .u64 x0 6148914691236517205))) 3689348814741910323))))) 1085102592571150095) 8))) 16))) + (ishr .u64 (wr .u64 ((wr .u64 ((iand .u64 (wr .u64 ((ishr .u64 (wr .u64 ((iand .u64 (ishr .u64 (wr .u64 ((iand .u64 (ishr .u64 x0 1) 6148914691236517205) + (iand .u64 x0 6148914691236517205))) 2) 3689348814741910323) + (iand .u64 (wr .u64 ((iand .u64 (ishr .u64 x0 1) 6148914691236517205) + (iand .u64 x0 6148914691236517205))) 3689348814741910323))) 4) + (wr .u64 ((iand .u64 (ishr .u64 (wr .u64 ((iand .u64 (ishr .u64 x0 1) 6148914691236517205) + (iand .u64 x0 6148914691236517205))) 2) 3689348814741910323) + (iand .u64 (wr .u64 ((iand .u64 (ishr .u64 x0 1) 6148914691236517205) + (iand .u64 x0 6148914691236517205))) 3689348814741910323))))) 1085102592571150095) + (ishr .u64 (iand .u64 (wr .u64 ((ishr .u64 (wr .u64 ((iand .u64 (ishr .u64 (wr .u64 ((iand .u64 (ishr .u64 x0 1) 6148914691236517205) + (iand .u64 x0 6148914691236517205))) 2) 3689348814741910323) + (iand .u64 (wr .u64 ((iand .u64 (ishr .u64 x0 1) 6148914691236517205) + (iand .u64 x0 6148914691236517205))) 3689348814741910323))) 4) + (wr .u64 ((iand .u64 (ishr .u64 (wr .u64 ((iand .u64 (ishr .u64 x0 1) 6148914691236517205) + (iand .u64 x0 6148914691236517205))) 2) 3689348814741910323) + (iand .u64 (wr .u64 ((iand .u64 (ishr .u64 x0 1) 6148914691236517205) + (iand .u64 x0 6148914691236517205))) 3689348814741910323))))) 1085102592571150095) 8))) + (ishr .u64 (wr .u64 ((iand .u64 (wr .u64 ((ishr .u64 (wr .u64 ((iand .u64 (ishr .u64 (wr .u64 ((iand .u64 (ishr .u64 x0 1) 6148914691236517205) + (iand .u64 x0 6148914691236517205))) 2) 3689348814741910323) + (iand .u64 (wr .u64 ((iand .u64 (ishr .u64 x0 1) 6148914691236517205) + (iand .u64 x0 6148914691236517205))) 3689348814741910323))) 4) + (wr .u64 ((iand .u64 (ishr .u64 (wr .u64 ((iand .u64 (ishr .u64 x0 1) 6148914691236517205) + (iand .u64 x0 6148914691236517205))) 2) 3689348814741910323) + (iand .u64 (wr .u64 ((iand .u64 (ishr .u64 x0 1) 6148914691236517205) + (iand .u64 x0 6148914691236517205))) 3689348814741910323))))) 1085102592571150095) + (ishr .u64 (iand .u64 (wr .u64 ((ishr .u64 (wr .u64 ((iand .u64 (ishr .u64 (wr .u64 ((iand .u64 (ishr .u64 x0 1) 6148914691236517205) + (iand .u64 x0 6148914691236517205))) 2) 3689348814741910323) + (iand .u64 (wr .u64 ((iand .u64 (ishr .u64 x0 1) 6148914691236517205) + (iand .u64 x0 6148914691236517205))) 3689348814741910323))) 4) + (wr .u64 ((iand .u64 (ishr .u64 (wr .u64 ((iand .u64 (ishr .u64 x0 1) 6148914691236517205) + (iand .u64 x0 6148914691236517205))) 2) 3689348814741910323) + (iand .u64 (wr .u64 ((iand .u64 (ishr .u64 x0 1) 6148914691236517205) + (iand .u64 x0 6148914691236517205))) 3689348814741910323))))) 1085102592571150095) 8))) 16))) 32)))) 127)

/-! tidepole/prog.line -/
def M.prog_line_l0 : T48 × Int × (List Int) × Int → Option (List ByteArray) := fun ⟨x1v, x4, x12, x13⟩ =>
  if x13 < 4 then
  if 0 ≤ x13 then
  M.bits_OnesCount64 (gi x12 x13) >>= fun y28 =>
  M.prog_line_l0 (x1v, wr .i64 (x4 + y28), x12, wr .i64 (x13 + 1))
  else none
  else
  if -9223372036854775808 ≤ x4 then
  if x4 ≤ 9223372036854775807 then
  if -9223372036854775808 ≤ x1v.X then
  if x1v.X ≤ 9223372036854775807 then
  some [(⟨#[98, 121, 116, 101]⟩ : ByteArray), itoaB x4, itoaB x1v.X] >>= fun v36 =>
  some v36
  else none
  else none
  else none
  else none
  partial_fixpoint

/-! tidepole/prog.line -/
def M.prog_line (x0 : T48) : Option (List ByteArray) :=
  if x0.Op = 1 then
  M.prog_line_l0 (x0, 0, x0.Set, 0)
  else
  if x0.Op = 2 then
  if -9223372036854775808 ≤ x0.X then
  if x0.X ≤ 9223372036854775807 then
  if -9223372036854775808 ≤ x0.Y then
  if x0.Y ≤ 9223372036854775807 then
  some [(⟨#[115, 112, 108, 105, 116]⟩ : ByteArray), itoaB x0.X, itoaB x0.Y] >>= fun v12 =>
  some v12
  else none
  else none
  else none
  else none
  else
  if x0.Op = 4 then
  if -9223372036854775808 ≤ x0.X then
  if x0.X ≤ 9223372036854775807 then
  some [(⟨#[106, 117, 109, 112]⟩ : ByteArray), itoaB x0.X] >>= fun v20 =>
  some v20
  else none
  else none
  else
  some [(⟨#[101, 110, 100]⟩ : ByteArray)]

/-! (*strings.Builder).copyCheck -/
def M.strings_Builder_copyCheck (x0v_1 : List Int) : Option (List Int) :=
  some x0v_1

/-! (*strings.Builder).WriteString -/
def M.strings_Builder_WriteString (x0v_1 : List Int) (x1 : ByteArray) : Option (Int × (List Int)) :=
  M.strings_Builder_copyCheck x0v_1 >>= fun y3 =>
  if ((y3 ++ s2b x1).length : Int) ≤ 1099511627776 then
  some ((x1.size : Int), (y3 ++ s2b x1))
  else none

/-! tidepole/prog.Text -/
def M.prog_Text_r (kq5v_1 : List Int) (kq13b0v_0 : List T48) (a0 : ByteArray) : Option (List Int) :=
  M.strings_Builder_WriteString kq5v_1 a0 >>= fun y5 =>
  some y5.2

/-! (*strings.Builder).copyCheck -/
def M.strings_Builder_copyCheck_2 (x0v_1 : List Int) : Option Unit :=
  some ()

/-! (*strings.Builder).WriteString -/
def M.strings_Builder_WriteString_2 (x0v_1 : List Int) (x1 : ByteArray) : Option (Int × (List Int)) :=
  M.strings_Builder_copyCheck_2 x0v_1 >>= fun y3 =>
  if ((x0v_1 ++ s2b x1).length : Int) ≤ 1099511627776 then
  some ((x1.size : Int), (x0v_1 ++ s2b x1))
  else none

/-! tidepole/prog.Text -/
def M.prog_Text_r_2 (kq5v_1 : List Int) (kq13b0v_0 : List T48) (a0 : ByteArray) : Option (List Int) :=
  M.strings_Builder_WriteString_2 kq5v_1 a0 >>= fun y5 =>
  some y5.2

/-! tidepole/prog.lines$1 -/
def M.prog_lines_1_l1 : (List T48) × Int × Int × (List Int) × (List T48) → Option ((List Int) ⊕ (List Int)) := fun ⟨x5, x6, x7, e1v_1, x0q13b0v_0⟩ =>
  if x7 < x6 then
  if 0 ≤ x7 then
  if x7 < (x5.length : Int) then
  M.prog_line (⟨(gi x5 x7).Op, ((gi x5 x7).Set), (gi x5 x7).X, (gi x5 x7).Y⟩ : T48) >>= fun y39 =>
  if (y39.length : Int) ≤ 140737488355328 then
  if ((joinB y39 (⟨#[32]⟩ : ByteArray)).size : Int) ≤ 140737488355328 then
  if ((joinB y39 (⟨#[32]⟩ : ByteArray)).size : Int) + ((⟨#[10]⟩ : ByteArray).size : Int) ≤ 1099511627776 then
  some ((joinB y39 (⟨#[32]⟩ : ByteArray)) ++ (⟨#[10]⟩ : ByteArray)) >>= fun v46 =>
  M.prog_Text_r_2 e1v_1 x0q13b0v_0 v46 >>= fun y48 =>
  M.prog_lines_1_l1 (x5, x6, wr .i64 (x7 + 1), y48, x0q13b0v_0)
  else none
  else none
  else none
  else none
  else none
  else
  some (.inr e1v_1)
  partial_fixpoint

/-! tidepole/prog.lines$1 -/
def M.prog_lines_1_l0 : (List T48) × Int × Int × (List Int) × (List T48) → Option ((List Int) ⊕ (List Int)) := fun ⟨x5, x6, x7, e1v_1, x0q13b0v_0⟩ =>
  if x7 < x6 then
  if 0 ≤ x7 then
  if x7 < (x5.length : Int) then
  M.prog_line (⟨(gi x5 x7).Op, ((gi x5 x7).Set), (gi x5 x7).X, (gi x5 x7).Y⟩ : T48) >>= fun y16 =>
  if (y16.length : Int) ≤ 140737488355328 then
  if ((joinB y16 (⟨#[32]⟩ : ByteArray)).size : Int) ≤ 140737488355328 then
  if ((joinB y16 (⟨#[32]⟩ : ByteArray)).size : Int) + ((⟨#[10]⟩ : ByteArray).size : Int) ≤ 1099511627776 then
  some ((joinB y16 (⟨#[32]⟩ : ByteArray)) ++ (⟨#[10]⟩ : ByteArray)) >>= fun v23 =>
  M.prog_Text_r e1v_1 x0q13b0v_0 v23 >>= fun y25 =>
  M.prog_lines_1_l1 (x5, x6, wr .i64 (x7 + 1), y25, x0q13b0v_0)
  else none
  else none
  else none
  else none
  else none
  else
  some (.inl e1v_1)

/-! tidepole/prog.lines$1 -/
def M.prog_lines_1 (x0q5v_1 : List Int) (x0q13b0v_0 : List T48) : Option ((List Int) ⊕ (List Int)) :=
  M.prog_lines_1_l0 (x0q13b0v_0, (x0q13b0v_0.length : Int), 0, x0q5v_1, x0q13b0v_0)

/-! (*strings.Builder).String -/
def M.strings_Builder_String (x0v_1 : List Int) : Option (ByteArray × (List Int)) :=
  if (x0v_1.length : Int) ≤ 1099511627776 then
  some (b2s x0v_1, x0v_1)
  else none

/-! (*strings.Builder).String -/
def M.strings_Builder_String_2 (x0v_1 : List Int) : Option (ByteArray × (List Int)) :=
  if (x0v_1.length : Int) ≤ 1099511627776 then
  some (b2s x0v_1, x0v_1)
  else none

/-! tidepole/prog.Text -/
def M.prog_Text (x0 : List T48) : Option (ByteArray × Int) :=
  M.prog_Check x0 >>= fun y1 =>
  if y1 = 0 then
  M.prog_lines x0 >>= fun y6 =>
  M.prog_lines_1 ([] : List Int) y6 >>= fun y15 =>
  (match y15 with
  | .inl y15_0 =>
  M.strings_Builder_String y15_0 >>= fun y18 =>
  some (y18.1, 0)
  | .inr (y15_1) =>
  M.strings_Builder_String_2 y15_1 >>= fun y21 =>
  some (y21.1, 0))
  else
  some ((⟨#[]⟩ : ByteArray), y1)

/-! tidepole/tidepolelaw11.works -/
def M.tidepolelaw11_works : Option Bool :=
  M.syntax_Parse (⟨#[97, 124, 98]⟩ : ByteArray) >>= fun y1 =>
  M.syntax_Parse (⟨#[97, 42]⟩ : ByteArray) >>= fun y5 =>
  M.prog_Make y1.1 >>= fun y9 =>
  M.prog_Make y5.1 >>= fun y12 =>
  M.prog_Text y9.1 >>= fun y16 =>
  M.prog_Text y12.1 >>= fun y19 =>
  if y9.2 = 0 then
  if (y16.1.toList == (⟨#[115, 112, 108, 105, 116, 32, 49, 32, 50, 10, 98, 121, 116, 101, 32, 49, 32, 51, 10, 98, 121, 116, 101, 32, 49, 32, 51, 10, 101, 110, 100, 10]⟩ : ByteArray).toList) = true then
  if y16.2 = 0 then
  some (y19.1.toList == (⟨#[115, 112, 108, 105, 116, 32, 49, 32, 50, 10, 98, 121, 116, 101, 32, 49, 32, 48, 10, 101, 110, 100, 10]⟩ : ByteArray).toList)
  else
  some false
  else
  some false
  else
  some false

/-! tidepole/tidepolelaw11.ProgMakes -/
def M.tidepolelaw11_ProgMakes (x0 : T27) : Option Bool :=
  M.tidepolelaw11_some x0 >>= fun y3 =>
  M.prog_Make y3 >>= fun y7 =>
  M.tidepoleref11_Make y3 >>= fun y10 =>
  M.prog_Count y3 >>= fun y13 =>
  M.tidepoleref11_Count y3 >>= fun y15 =>
  M.tidepolelaw11_same y7.1 y10.1 >>= fun y19 =>
  if y19 = true then
  if y7.2 = y10.2 then
  if y13.1 = y15.1 then
  if y13.2 = y15.2 then
  M.tidepolelaw11_works >>= fun y25 =>
  some y25
  else
  some false
  else
  some false
  else
  some false
  else
  some false

end Go.Gx
