import Derived.Test.YtdccklkdakfnaaaGreatGI
set_option linter.unusedVariables false
namespace Go.Gx
structure T29 where
  Op : Int
  Text : ByteArray
  L : List T29
instance : Inhabited T29 := ⟨⟨default, default, []⟩⟩
structure T69 where
  Key : ByteArray
  N : Int
  deriving Inhabited
structure T38 where
  Op : Int
  Text : ByteArray
  L : List T38
instance : Inhabited T38 := ⟨⟨default, default, []⟩⟩
structure T155 where
  at_ : Option Nat
  deriving Inhabited
structure T157 where
  l : T155
  deriving Inhabited
structure T165 where
  Key : ByteArray
  L : List Int
  deriving Inhabited
structure T66 where
  L : List T165
  deriving Inhabited
structure T26 where
  Kind : Int
  Set : List Int
  L : List T26
  Min : Int
  Max : Int
instance : Inhabited T26 := ⟨⟨default, default, [], default, default⟩⟩
structure T138 where
  at_ : Int
  deriving Inhabited
structure T134 where
  s : ByteArray
  at_ : Int
  deep : Int
  bad : Option T138
  deriving Inhabited
structure T370 where
  set_ : List Int
  b : Int
  single : Bool
  deriving Inhabited
structure T218 where
  l : List ByteArray
  known : Bool
  deriving Inhabited
mutual
def M.a12 : T29 × Int × Int → Option (T29 × Int) := fun ⟨x0, x1, x2v_0⟩ =>
  if 0 ≤ imn (x0.Text.size : Int) 5 then
  if imn (x0.Text.size : Int) 5 ≤ (x0.Text.size : Int) then
  M.a13 (x1, x0, (⟨0, (⟨#[]⟩ : ByteArray), ([] : List T29)⟩ : T29), (⟨x0.Op, ss x0.Text 0 (imn (x0.Text.size : Int) 5), ([] : List T29)⟩ : T29), 0, wr .i64 (x2v_0 - 1))
  else none
  else none
  partial_fixpoint
def M.a13 : Int × T29 × T29 × T29 × Int × Int → Option (T29 × Int) := fun ⟨x1, x3v, x6v, x7v, x8, e0v_0⟩ =>
  if x8 < (x3v.L.length : Int) then
  if x1 > 0 then
  M.ak (x1, x3v, x6v, x7v, x8, decide (e0v_0 > 0), e0v_0)
  else
  M.ak (x1, x3v, x6v, x7v, x8, false, e0v_0)
  else
  M.ak (x1, x3v, x6v, x7v, x8, false, e0v_0)
  partial_fixpoint
def M.ak : Int × T29 × T29 × T29 × Int × Bool × Int → Option (T29 × Int) := fun ⟨x1, x3v, x6v, x7v, x8, x38, e0v_0⟩ =>
  if x38 = true then
  if 0 ≤ x8 then
  if x8 < (x3v.L.length : Int) then
  M.a12 (gi x3v.L x8, wr .i64 (x1 - 1), e0v_0) >>= fun y34 =>
  if ((x7v.L ++ [y34.1]).length : Int) ≤ 1099511627776 then
  M.a13 (x1, x3v, x6v, (⟨x7v.Op, x7v.Text, (x7v.L ++ [y34.1])⟩ : T29), wr .i64 (x8 + 1), y34.2)
  else none
  else none
  else none
  else
  some (x7v, e0v_0)
  partial_fixpoint
end
mutual
def M.a4 : T29 × Int × Int → Option (Bool × Int) := fun ⟨x0, x1, x2v_0⟩ =>
  if x1 = 0 then
  M.at (x1, x0, true, wr .i64 (x2v_0 + 1))
  else
  M.at (x1, x0, decide (wr .i64 (x2v_0 + 1) > 4096), wr .i64 (x2v_0 + 1))
  partial_fixpoint
def M.at : Int × T29 × Bool × Int → Option (Bool × Int) := fun ⟨x1, x3v, x21, e0v_0⟩ =>
  if x21 = true then
  some (false, e0v_0)
  else
  M.ae (x1, x3v.L, (x3v.L.length : Int), 0, e0v_0)
  partial_fixpoint
def M.ae : Int × (List T29) × Int × Int × Int → Option (Bool × Int) := fun ⟨x1, x23, x24, x25, e0v_0⟩ =>
  if x25 < x24 then
  if 0 ≤ x25 then
  if x25 < (x23.length : Int) then
  M.a4 (gi x23 x25, wr .i64 (x1 - 1), e0v_0) >>= fun y19 =>
  if y19.1 = true then
  M.ae (x1, x23, x24, wr .i64 (x25 + 1), y19.2)
  else
  some (false, y19.2)
  else none
  else none
  else
  some (true, e0v_0)
  partial_fixpoint
end
mutual
def M.af : T29 → Option Bool := fun x0 =>
  if x0.Op = 0 then
  M.a5 (x0, x0.Op, true)
  else
  M.a5 (x0, x0.Op, decide (x0.Op = 1))
  partial_fixpoint
def M.a5 : T29 × Int × Bool → Option Bool := fun ⟨x1v, x4, x5⟩ =>
  if x5 = true then
  if (x1v.Text.toList == (⟨#[]⟩ : ByteArray).toList) = true then
  some (decide ((x1v.L.length : Int) = 0))
  else
  some false
  else
  if x4 = 2 then
  if (x1v.Text.size : Int) = 3 then
  some (decide ((x1v.L.length : Int) = 0))
  else
  some false
  else
  if x4 = 3 then
  M.a6 (x1v, true)
  else
  M.a6 (x1v, decide (x4 = 4))
  partial_fixpoint
def M.a6 : T29 × Bool → Option Bool := fun ⟨x1v, x29⟩ =>
  if x29 = true then
  if (x1v.Text.toList == (⟨#[]⟩ : ByteArray).toList) = true then
  M.a2f x1v.L >>= fun y13 =>
  some (!y13)
  else
  some false
  else
  some false
  partial_fixpoint
def M.a2f : (List T29) → Option Bool := fun x0 =>
  M.a2g x0 >>= fun y1 =>
  some (decide (y1 ≥ 0))
  partial_fixpoint
def M.a2g : (List T29) → Option Int := fun x0 =>
  M.ag (x0, (x0.length : Int), 0)
  partial_fixpoint
def M.ag : (List T29) × Int × Int → Option Int := fun ⟨x0, x7, x8⟩ =>
  if x8 < x7 then
  if 0 ≤ x8 then
  if x8 < (x0.length : Int) then
  M.a2h (gi x0 x8) >>= fun y11 =>
  if y11 = true then
  some x8
  else
  M.ag (x0, x7, wr .i64 (x8 + 1))
  else none
  else none
  else
  some (-1)
  partial_fixpoint
def M.a2h : T29 → Option Bool := fun x0 =>
  M.af x0 >>= fun y3 =>
  some (!y3)
  partial_fixpoint
end
def M.au (x0 : T29) : Option Int :=
  M.a4 (x0, 8, 0) >>= fun y5 =>
  if y5.1 = true then
  M.af x0 >>= fun y8 =>
  if y8 = true then
  some 0
  else
  some 2
  else
  some 2
def M.a58 (x0 : ByteArray) : Option ByteArray :=
  some x0
def M.a57 (kq2v_0 : List ByteArray) (kq6b0v_0 : ByteArray) (a0 : ByteArray) : Option (List ByteArray) :=
  if ((kq2v_0 ++ [a0]).length : Int) ≤ 1099511627776 then
  some (kq2v_0 ++ [a0])
  else none
def M.ah : Int × Int × (List ByteArray) × ByteArray → Option (List ByteArray) := fun ⟨x7, x8, e1v_0, x0q6b0v_0⟩ =>
  if x8 < x7 then
  if 0 ≤ x8 then
  if x8 ≤ wr .i64 (x8 + 3) then
  if wr .i64 (x8 + 3) ≤ (x0q6b0v_0.size : Int) then
  M.a57 e1v_0 x0q6b0v_0 (ss x0q6b0v_0 x8 (wr .i64 (x8 + 3))) >>= fun y10 =>
  M.ah (x7, wr .i64 (x8 + 1), y10, x0q6b0v_0)
  else none
  else none
  else none
  else
  some e1v_0
  partial_fixpoint
def M.a2i (x0q2v_0 : List ByteArray) (x0q6b0v_0 : ByteArray) : Option (List ByteArray) :=
  M.ah (wr .i64 ((wr .i64 ((x0q6b0v_0.size : Int) - 3)) + 1), 0, x0q2v_0, x0q6b0v_0)
def M.a40 (x1b0v_0 : ByteArray) : Option (List ByteArray) :=
  M.a2i ([] : List ByteArray) x1b0v_0 >>= fun y10 =>
  some y10
def M.a41 (x0b0v_0 : ByteArray) : Option (List ByteArray) :=
  M.a40 x0b0v_0 >>= fun y2 =>
  some y2
def M.a42 (x0b0v_0 : ByteArray) : Option (List ByteArray) :=
  M.a41 x0b0v_0 >>= fun y2 =>
  if (y2.length : Int) ≤ 1099511627776 then
  some (srtS y2)
  else none
def M.a1g (x0 : ByteArray) : Option (List ByteArray) :=
  M.a58 x0 >>= fun y1 =>
  M.a42 y1 >>= fun y4 =>
  if (y4.length : Int) ≤ 1099511627776 then
  some (cmpL y4)
  else none
def M.a5u (x0 : ByteArray) : Option Bool :=
  some (!(x0.toList == x0.toList))
def M.a5v (x0 : ByteArray) (x1 : ByteArray) : Option Bool :=
  M.a5u x0 >>= fun y1 =>
  if y1 = true then
  M.a5u x1 >>= fun y4 =>
  if y4 = true then
  some (Op.bytesLess x0.toList x1.toList)
  else
  some true
  else
  some (Op.bytesLess x0.toList x1.toList)
def M.a5w (x0 : ByteArray) : Option Bool :=
  some (!(x0.toList == x0.toList))
mutual
def M.a1y : (List ByteArray) × ByteArray × Int × Int × Int → Option (Int × Bool) := fun ⟨x0, x1, x6, x7, x8⟩ =>
  if x7 < x8 then
  if 0 ≤ wr .i64 (ishr .u64 (wr .u64 (wr .i64 (x7 + x8))) 1) then
  if wr .i64 (ishr .u64 (wr .u64 (wr .i64 (x7 + x8))) 1) < (x0.length : Int) then
  some (gi x0 (wr .i64 (ishr .u64 (wr .u64 (wr .i64 (x7 + x8))) 1))) >>= fun v7 =>
  M.a5v v7 x1 >>= fun y9 =>
  if y9 = true then
  M.a4m (x0, x1, x6, wr .i64 ((wr .i64 (ishr .u64 (wr .u64 (wr .i64 (x7 + x8))) 1)) + 1), x8)
  else
  M.a4m (x0, x1, x6, x7, wr .i64 (ishr .u64 (wr .u64 (wr .i64 (x7 + x8))) 1))
  else none
  else none
  else
  if x7 < x6 then
  if 0 ≤ x7 then
  if x7 < (x0.length : Int) then
  if ((gi x0 x7).toList == x1.toList) = true then
  some (x7, true)
  else
  M.a5w (gi x0 x7) >>= fun y22 =>
  if y22 = true then
  M.a5w x1 >>= fun y25 =>
  some (x7, y25)
  else
  some (x7, false)
  else none
  else none
  else
  some (x7, false)
  partial_fixpoint
def M.a4m : (List ByteArray) × ByteArray × Int × Int × Int → Option (Int × Bool) := fun ⟨x0, x1, x6, x7, x8⟩ =>
  M.a1y (x0, x1, x6, x7, x8)
  partial_fixpoint
end
def M.a5x (x0 : List ByteArray) (x1 : ByteArray) : Option (Int × Bool) :=
  M.a1y (x0, x1, (x0.length : Int), 0, (x0.length : Int))
mutual
def M.a1z : T29 × (List ByteArray) → Option Bool := fun ⟨x0, x1⟩ =>
  if x0.Op = 2 then
  M.a5x x1 x0.Text >>= fun y8 =>
  some y8.2
  else
  if x0.Op = 3 then
  M.a6r (x0.L, x1) >>= fun y11 =>
  some (!y11)
  else
  if x0.Op = 4 then
  M.a6s (x0.L, x1) >>= fun y14 =>
  some y14
  else
  some (decide (x0.Op = 0))
  partial_fixpoint
def M.a6r : (List T29) × (List ByteArray) → Option Bool := fun ⟨x0, x1b0v_0b0v_0⟩ =>
  M.a6t (x0, x1b0v_0b0v_0) >>= fun y3 =>
  some (decide (y3 ≥ 0))
  partial_fixpoint
def M.a6t : (List T29) × (List ByteArray) → Option Int := fun ⟨x0, x1b0v_0b0v_0⟩ =>
  M.a20 (x0, (x0.length : Int), 0, x1b0v_0b0v_0)
  partial_fixpoint
def M.a20 : (List T29) × Int × Int × (List ByteArray) → Option Int := fun ⟨x0, x7, x8, x1b0v_0b0v_0⟩ =>
  if x8 < x7 then
  if 0 ≤ x8 then
  if x8 < (x0.length : Int) then
  M.a6u (gi x0 x8, x1b0v_0b0v_0) >>= fun y13 =>
  if y13 = true then
  some x8
  else
  M.a20 (x0, x7, wr .i64 (x8 + 1), x1b0v_0b0v_0)
  else none
  else none
  else
  some (-1)
  partial_fixpoint
def M.a6u : T29 × (List ByteArray) → Option Bool := fun ⟨x0, x1v_0b0v_0⟩ =>
  M.a4n (x0, x1v_0b0v_0) >>= fun y5 =>
  some (!y5)
  partial_fixpoint
def M.a4n : T29 × (List ByteArray) → Option Bool := fun ⟨x0, x1v_0⟩ =>
  M.a1z (x0, x1v_0) >>= fun y4 =>
  some y4
  partial_fixpoint
def M.a6s : (List T29) × (List ByteArray) → Option Bool := fun ⟨x0, x1b0v_0⟩ =>
  M.a6v (x0, x1b0v_0) >>= fun y2 =>
  some (decide (y2 ≥ 0))
  partial_fixpoint
def M.a6v : (List T29) × (List ByteArray) → Option Int := fun ⟨x0, x1b0v_0⟩ =>
  M.a21 (x0, (x0.length : Int), 0, x1b0v_0)
  partial_fixpoint
def M.a21 : (List T29) × Int × Int × (List ByteArray) → Option Int := fun ⟨x0, x7, x8, x1b0v_0⟩ =>
  if x8 < x7 then
  if 0 ≤ x8 then
  if x8 < (x0.length : Int) then
  M.a4n (gi x0 x8, x1b0v_0) >>= fun y12 =>
  if y12 = true then
  some x8
  else
  M.a21 (x0, x7, wr .i64 (x8 + 1), x1b0v_0)
  else none
  else none
  else
  some (-1)
  partial_fixpoint
end
def M.a5y (x0 : T29) (x1 : ByteArray) : Option (Bool × Int) :=
  M.au x0 >>= fun y3 =>
  if y3 = 0 then
  M.a1g x1 >>= fun y6 =>
  M.a1z (x0, y6) >>= fun y10 =>
  some (y10, 0)
  else
  some (false, y3)
mutual
def M.aa : T29 × Int → Option T38 := fun ⟨x0, x1⟩ =>
  M.a22 (x1, x0, (⟨0, (⟨#[]⟩ : ByteArray), ([] : List T38)⟩ : T38), (⟨x0.Op, x0.Text, ([] : List T38)⟩ : T38), 0)
  partial_fixpoint
def M.a22 : Int × T29 × T38 × T38 × Int → Option T38 := fun ⟨x1, x2v, x4v, x5v, x6⟩ =>
  if x6 < (x2v.L.length : Int) then
  M.a3e (x1, x2v, x4v, x5v, x6, decide (x1 > 0))
  else
  M.a3e (x1, x2v, x4v, x5v, x6, false)
  partial_fixpoint
def M.a3e : Int × T29 × T38 × T38 × Int × Bool → Option T38 := fun ⟨x1, x2v, x4v, x5v, x6, x20⟩ =>
  if x20 = true then
  if 0 ≤ x6 then
  if x6 < (x2v.L.length : Int) then
  M.aa (gi x2v.L x6, wr .i64 (x1 - 1)) >>= fun y30 =>
  if ((x5v.L ++ [y30]).length : Int) ≤ 1099511627776 then
  M.a22 (x1, x2v, x4v, (⟨x5v.Op, x5v.Text, (x5v.L ++ [y30])⟩ : T38), wr .i64 (x6 + 1))
  else none
  else none
  else none
  else
  some x5v
  partial_fixpoint
end
mutual
def M.a23 : T38 × Int → Option (Int × Int) := fun ⟨x0, x1⟩ =>
  M.a24 (x1, x0, 0, 1, 0)
  partial_fixpoint
def M.a24 : Int × T38 × Int × Int × Int → Option (Int × Int) := fun ⟨x1, x2v, x6, x7, x8⟩ =>
  if x8 < (x2v.L.length : Int) then
  M.a25 (x1, x2v, x6, x7, x8, decide (x8 < 5000))
  else
  M.a25 (x1, x2v, x6, x7, x8, false)
  partial_fixpoint
def M.a25 : Int × T38 × Int × Int × Int × Bool → Option (Int × Int) := fun ⟨x1, x2v, x6, x7, x8, x19⟩ =>
  if x19 = true then
  if x1 = 0 then
  some (99, 9999)
  else
  if 0 ≤ x8 then
  if x8 < (x2v.L.length : Int) then
  M.a23 (gi x2v.L x8, wr .i64 (x1 - 1)) >>= fun y17 =>
  if wr .i64 (x7 + y17.2) > 4096 then
  M.a4o (x1, x2v, imx x6 y17.1, wr .i64 (x7 + y17.2), x8, true)
  else
  M.a4o (x1, x2v, imx x6 y17.1, wr .i64 (x7 + y17.2), x8, decide (imx x6 y17.1 ≥ 99))
  else none
  else none
  else
  some (wr .i64 (x6 + 1), x7)
  partial_fixpoint
def M.a4o : Int × T38 × Int × Int × Int × Bool → Option (Int × Int) := fun ⟨x1, x2v, x6, x7, x8, x46⟩ =>
  if x46 = true then
  some (99, 9999)
  else
  M.a24 (x1, x2v, x6, x7, wr .i64 (x8 + 1))
  partial_fixpoint
end
mutual
def M.a3f : T38 → Option Bool := fun x0 =>
  if x0.Op = 0 then
  M.a26 (x0, x0.Op, true)
  else
  M.a26 (x0, x0.Op, decide (x0.Op = 1))
  partial_fixpoint
def M.a26 : T38 × Int × Bool → Option Bool := fun ⟨x1v, x6, x7⟩ =>
  if x7 = true then
  if (x1v.Text.toList == (⟨#[]⟩ : ByteArray).toList) = true then
  M.a14 (x1v, decide ((x1v.L.length : Int) = 0))
  else
  M.a14 (x1v, false)
  else
  if x6 = 2 then
  if (x1v.Text.size : Int) = 3 then
  M.a14 (x1v, decide ((x1v.L.length : Int) = 0))
  else
  M.a14 (x1v, false)
  else
  if x6 = 3 then
  M.a27 (x1v, true)
  else
  M.a27 (x1v, decide (x6 = 4))
  partial_fixpoint
def M.a14 : T38 × Bool → Option Bool := fun ⟨x1v, x3⟩ =>
  M.a3g (x1v, x3, 0)
  partial_fixpoint
def M.a3g : T38 × Bool × Int → Option Bool := fun ⟨x1v, x3, x4⟩ =>
  if x4 < (x1v.L.length : Int) then
  M.a4p (x1v, x3, x4, x3)
  else
  M.a4p (x1v, x3, x4, false)
  partial_fixpoint
def M.a4p : T38 × Bool × Int × Bool → Option Bool := fun ⟨x1v, x3, x4, x44⟩ =>
  if x44 = true then
  if 0 ≤ x4 then
  if x4 < (x1v.L.length : Int) then
  M.a3f (gi x1v.L x4) >>= fun y26 =>
  M.a3g (x1v, y26, wr .i64 (x4 + 1))
  else none
  else none
  else
  some x3
  partial_fixpoint
def M.a27 : T38 × Bool → Option Bool := fun ⟨x1v, x31⟩ =>
  if x31 = true then
  M.a14 (x1v, x1v.Text.toList == (⟨#[]⟩ : ByteArray).toList)
  else
  some false
  partial_fixpoint
end
def M.a4q (x0 : T38) : Option Int :=
  M.a23 (x0, 8) >>= fun y3 =>
  if y3.1 > 8 then
  some 2
  else
  if y3.2 > 4096 then
  some 2
  else
  M.a3f x0 >>= fun y7 =>
  if y7 = true then
  some 0
  else
  some 2
mutual
def M.ab : (List ByteArray) × (List ByteArray) × Int → Option (List ByteArray) := fun ⟨x0, x3, x4⟩ =>
  if x4 < (x0.length : Int) then
  M.a3h (x0, x3, x4, 0)
  else
  some x3
  partial_fixpoint
def M.a3h : (List ByteArray) × (List ByteArray) × Int × Int → Option (List ByteArray) := fun ⟨x0, x3, x4, x5⟩ =>
  if x5 < (x3.length : Int) then
  if 0 ≤ x5 then
  if 0 ≤ x4 then
  if x4 < (x0.length : Int) then
  M.a4r (x0, x3, x4, x5, Op.bytesLess (gi x3 x5).toList (gi x0 x4).toList)
  else none
  else none
  else none
  else
  M.a4r (x0, x3, x4, x5, false)
  partial_fixpoint
def M.a4r : (List ByteArray) × (List ByteArray) × Int × Int × Bool → Option (List ByteArray) := fun ⟨x0, x3, x4, x5, x27⟩ =>
  if x27 = true then
  M.a3h (x0, x3, x4, wr .i64 (x5 + 1))
  else
  if x5 < (x3.length : Int) then
  if 0 ≤ x5 then
  if 0 ≤ x4 then
  if x4 < (x0.length : Int) then
  M.a3i (x0, x3, x4, x5, (gi x3 x5).toList == (gi x0 x4).toList)
  else none
  else none
  else none
  else
  M.a3i (x0, x3, x4, x5, false)
  partial_fixpoint
def M.a3i : (List ByteArray) × (List ByteArray) × Int × Int × Bool → Option (List ByteArray) := fun ⟨x0, x3, x4, x5, x44⟩ =>
  if x44 = true then
  M.ab (x0, x3, wr .i64 (x4 + 1))
  else
  if 0 ≤ x5 then
  if x5 ≤ (x3.length : Int) then
  if 0 ≤ x4 then
  if x4 < (x0.length : Int) then
  if (([gi x0 x4] ++ (sl x3 x5 (x3.length : Int))).length : Int) ≤ 1099511627776 then
  some ((x3.take ((x5 : Int).toNat)) ++ ([gi x0 x4] ++ (sl x3 x5 (x3.length : Int)))) >>= fun v61 =>
  if (v61.length : Int) ≤ 1099511627776 then
  M.ab (x0, v61, wr .i64 (x4 + 1))
  else none
  else none
  else none
  else none
  else none
  else none
  partial_fixpoint
end
def M.a4s (x0 : List ByteArray) : Option (List ByteArray) :=
  M.ab (x0, ([] : List ByteArray), 0)
def M.a3j : ByteArray × (List ByteArray) × Int → Option (List ByteArray) := fun ⟨x0, x3, x4⟩ =>
  if wr .i64 (x4 + 3) ≤ (x0.size : Int) then
  if 0 ≤ x4 then
  if x4 ≤ wr .i64 (x4 + 3) then
  if ((x3 ++ [ss x0 x4 (wr .i64 (x4 + 3))]).length : Int) ≤ 1099511627776 then
  M.a3j (x0, (x3 ++ [ss x0 x4 (wr .i64 (x4 + 3))]), wr .i64 (x4 + 1))
  else none
  else none
  else none
  else
  M.a4s x3 >>= fun y20 =>
  some y20
  partial_fixpoint
def M.a5z (x0 : ByteArray) : Option (List ByteArray) :=
  M.a3j (x0, ([] : List ByteArray), 0)
def M.a3k : (List ByteArray) × ByteArray × Int → Option Bool := fun ⟨x0, x1, x5⟩ =>
  if x5 < (x0.length : Int) then
  if 0 ≤ x5 then
  if ((gi x0 x5).toList == x1.toList) = true then
  some true
  else
  M.a3k (x0, x1, wr .i64 (x5 + 1))
  else none
  else
  some false
  partial_fixpoint
def M.a60 (x0 : List ByteArray) (x1 : ByteArray) : Option Bool :=
  M.a3k (x0, x1, 0)
mutual
def M.al : T38 × (List ByteArray) → Option Bool := fun ⟨x0, x1⟩ =>
  if x0.Op = 1 then
  some false
  else
  if x0.Op = 2 then
  M.a60 x1 x0.Text >>= fun y5 =>
  some y5
  else
  if x0.Op = 3 then
  M.a3l (x1, x0, 0)
  else
  if x0.Op = 4 then
  M.a3m (x1, x0, 0)
  else
  some true
  partial_fixpoint
def M.a3l : (List ByteArray) × T38 × Int → Option Bool := fun ⟨x1, x2v, x5⟩ =>
  if x5 < (x2v.L.length : Int) then
  if 0 ≤ x5 then
  M.al (gi x2v.L x5, x1) >>= fun y20 =>
  if y20 = true then
  M.a3l (x1, x2v, wr .i64 (x5 + 1))
  else
  some false
  else none
  else
  some true
  partial_fixpoint
def M.a3m : (List ByteArray) × T38 × Int → Option Bool := fun ⟨x1, x2v, x6⟩ =>
  if x6 < (x2v.L.length : Int) then
  if 0 ≤ x6 then
  M.al (gi x2v.L x6, x1) >>= fun y32 =>
  if y32 = true then
  some true
  else
  M.a3m (x1, x2v, wr .i64 (x6 + 1))
  else none
  else
  some false
  partial_fixpoint
end
def M.a61 (x0 : T38) (x1 : ByteArray) : Option (Bool × Int) :=
  M.a4q x0 >>= fun y3 =>
  if y3 = 0 then
  M.a5z x1 >>= fun y6 =>
  M.al (x0, y6) >>= fun y10 =>
  some (y10, 0)
  else
  some (false, 2)
def M.a6w (pl154 : List (List (ByteArray × (List Int)))) : Option (Nat × (List (List (ByteArray × (List Int))))) :=
  some (pl154.length, (pl154 ++ [[]]))
def M.a28 (x0v_0_0 : Nat) : Option Unit :=
  some ()
def M.am : (List Int) × Int → Option Bool := fun ⟨x0, x3⟩ =>
  if x3 < (x0.length : Int) then
  if 0 ≤ wr .i64 (x3 - 1) then
  if wr .i64 (x3 - 1) < (x0.length : Int) then
  if 0 ≤ x3 then
  if gi x0 (wr .i64 (x3 - 1)) ≥ gi x0 x3 then
  some false
  else
  M.am (x0, wr .i64 (x3 + 1))
  else none
  else none
  else none
  else
  some true
  partial_fixpoint
def M.a62 (x0 : List Int) : Option Bool :=
  M.am (x0, 1)
def M.a15 (x0 : List Int) : Option Int :=
  M.a62 x0 >>= fun y1 =>
  if y1 = true then
  some 0
  else
  some 2
def M.an (x0 : List Int) : Option (List Int) :=
  if (x0.length : Int) ≤ 1099511627776 then
  some x0
  else none
def M.a4t (x0 : List Int) (x1 : List Int) : Option ((List Int) × (List Int)) :=
  some (x0, x1)
def M.a6x (x0 : Int) : Option Bool :=
  some (!(decide (x0 = 0)))
def M.a63 (kq7v_0 : List Int) (kq12b0v_0 : List Int) (kq12b1v_0 : List Int) (a0 : Int) (a1 : Int) : Option (List Int) :=
  M.a6x a1 >>= fun y7 =>
  if y7 = true then
  if ((kq7v_0 ++ [a0]).length : Int) ≤ 1099511627776 then
  some (kq7v_0 ++ [a0])
  else none
  else
  some kq7v_0
mutual
def M.ac : (List Int) × (List Int) × (List Int) → Option ((List Int) × (List Int) × (List Int)) := fun ⟨e2v_0, e3v_0, e4v_0⟩ =>
  if (e3v_0.length : Int) > 0 then
  M.a16 (true, e2v_0, e3v_0, e4v_0)
  else
  M.a16 (decide ((e4v_0.length : Int) > 0), e2v_0, e3v_0, e4v_0)
  partial_fixpoint
def M.a16 : Bool × (List Int) × (List Int) × (List Int) → Option ((List Int) × (List Int) × (List Int)) := fun ⟨x13, e2v_0, e3v_0, e4v_0⟩ =>
  if x13 = true then
  if (e4v_0.length : Int) = 0 then
  M.ao (0, true, e2v_0, e3v_0, e4v_0)
  else
  if (e3v_0.length : Int) > 0 then
  if 0 < (e3v_0.length : Int) then
  if 0 < (e4v_0.length : Int) then
  M.ao (0, decide (gi e3v_0 0 ≤ gi e4v_0 0), e2v_0, e3v_0, e4v_0)
  else none
  else none
  else
  M.ao (0, false, e2v_0, e3v_0, e4v_0)
  else
  some (e2v_0, e3v_0, e4v_0)
  partial_fixpoint
def M.ao : Int × Bool × (List Int) × (List Int) × (List Int) → Option ((List Int) × (List Int) × (List Int)) := fun ⟨x4, x30, e2v_0, e3v_0, e4v_0⟩ =>
  if x30 = true then
  M.a17 (ior .i64 x4 1, e2v_0, e3v_0, e4v_0)
  else
  M.a17 (x4, e2v_0, e3v_0, e4v_0)
  partial_fixpoint
def M.a17 : Int × (List Int) × (List Int) × (List Int) → Option ((List Int) × (List Int) × (List Int)) := fun ⟨x4, e2v_0, e3v_0, e4v_0⟩ =>
  if (e3v_0.length : Int) = 0 then
  M.ap (x4, true, e2v_0, e3v_0, e4v_0)
  else
  if (e4v_0.length : Int) > 0 then
  if 0 < (e4v_0.length : Int) then
  if 0 < (e3v_0.length : Int) then
  M.ap (x4, decide (gi e4v_0 0 ≤ gi e3v_0 0), e2v_0, e3v_0, e4v_0)
  else none
  else none
  else
  M.ap (x4, false, e2v_0, e3v_0, e4v_0)
  partial_fixpoint
def M.ap : Int × Bool × (List Int) × (List Int) × (List Int) → Option ((List Int) × (List Int) × (List Int)) := fun ⟨x4, x49, e2v_0, e3v_0, e4v_0⟩ =>
  if x49 = true then
  M.a18 (ior .i64 x4 2, e2v_0, e3v_0, e4v_0)
  else
  M.a18 (x4, e2v_0, e3v_0, e4v_0)
  partial_fixpoint
def M.a18 : Int × (List Int) × (List Int) × (List Int) → Option ((List Int) × (List Int) × (List Int)) := fun ⟨x4, e2v_0, e3v_0, e4v_0⟩ =>
  if iand .i64 x4 2 = 0 then
  M.a19 (x4, 0, e2v_0, e3v_0, e4v_0)
  else
  if 0 < (e4v_0.length : Int) then
  if 1 ≤ (e4v_0.length : Int) then
  M.a19 (x4, gi e4v_0 0, e2v_0, e3v_0, (sl e4v_0 1 (e4v_0.length : Int)))
  else none
  else none
  partial_fixpoint
def M.a19 : Int × Int × (List Int) × (List Int) × (List Int) → Option ((List Int) × (List Int) × (List Int)) := fun ⟨x4, x5, e2v_0, e3v_0, e4v_0⟩ =>
  if iand .i64 x4 1 = 0 then
  M.a1a (x4, x5, e2v_0, e3v_0, e4v_0)
  else
  if 0 < (e3v_0.length : Int) then
  if 1 ≤ (e3v_0.length : Int) then
  M.a1a (x4, gi e3v_0 0, e2v_0, (sl e3v_0 1 (e3v_0.length : Int)), e4v_0)
  else none
  else none
  partial_fixpoint
def M.a1a : Int × Int × (List Int) × (List Int) × (List Int) → Option ((List Int) × (List Int) × (List Int)) := fun ⟨x4, x5, e2v_0, e3v_0, e4v_0⟩ =>
  M.a63 e2v_0 e3v_0 e4v_0 x5 x4 >>= fun y57 =>
  M.ac (y57, e3v_0, e4v_0)
  partial_fixpoint
end
def M.a6y (x0q7v_0 : List Int) (x0q12b0v_0 : List Int) (x0q12b1v_0 : List Int) : Option ((List Int) × (List Int) × (List Int)) :=
  M.ac (x0q7v_0, x0q12b0v_0, x0q12b1v_0)
def M.a64 (x0 : List Int) (x1 : List Int) : Option (List Int) :=
  M.a4t x0 x1 >>= fun y5 =>
  M.a6y ([] : List Int) y5.1 y5.2 >>= fun y15 =>
  some y15.1
def M.a3n : (List Int) × (List (List Int)) × Int × Int → Option ((List Int) × Int) := fun ⟨x9, x35, x36, x37⟩ =>
  if x37 < x36 then
  if 0 ≤ x37 then
  if x37 < (x35.length : Int) then
  M.a64 x9 (gi x35 x37) >>= fun y43 =>
  M.a3n (y43, x35, x36, wr .i64 (x37 + 1))
  else none
  else none
  else
  some (x9, 0)
  partial_fixpoint
def M.a3o : (List (List Int)) × (List (List Int)) × Int × Int → Option ((List Int) × Int) := fun ⟨x0, x15, x16, x17⟩ =>
  if x17 < x16 then
  if 0 ≤ x17 then
  if x17 < (x15.length : Int) then
  M.a15 (gi x15 x17) >>= fun y12 =>
  if y12 = 0 then
  M.a3o (x0, x15, x16, wr .i64 (x17 + 1))
  else
  some (([] : List Int), y12)
  else none
  else none
  else
  if (x0.length : Int) = 0 then
  some (([] : List Int), 0)
  else
  if 0 < (x0.length : Int) then
  M.an (gi x0 0) >>= fun y25 =>
  if 1 ≤ (x0.length : Int) then
  M.a3n (y25, (sl x0 1 (x0.length : Int)), ((sl x0 1 (x0.length : Int)).length : Int), 0)
  else none
  else none
  partial_fixpoint
def M.a65 (x0 : List (List Int)) : Option ((List Int) × Int) :=
  if (x0.length : Int) > 4096 then
  some (([] : List Int), 3)
  else
  M.a3o (x0, x0, (x0.length : Int), 0)
def M.a4u (x0 : List (List Int)) : Option ((List Int) × Int) :=
  M.a65 x0 >>= fun y1 =>
  some (y1.1, y1.2)
def M.a66 (x0 : List Int) (x1 : Int) : Option ((List Int) × Int) :=
  M.a4u [x0, [x1]] >>= fun y9 =>
  some (y9.1, y9.2)
def M.a4v (x0v_0_0 : Nat) (x1 : ByteArray) (x2 : List Int) (pl154 : List (List (ByteArray × (List Int)))) : Option (List (List (ByteArray × (List Int)))) :=
  if (x2.length : Int) = 0 then
  some (sn pl154 x0v_0_0 (mdel (gn pl154 x0v_0_0) x1)) >>= fun v3 =>
  some v3
  else
  some (sn pl154 x0v_0_0 (mset (gn pl154 x0v_0_0) x1 x2)) >>= fun v8 =>
  some v8
def M.a67 (x0v_0_0 : Nat) (x1 : ByteArray) (x2 : Int) (pl154 : List (List (ByteArray × (List Int)))) : Option (Int × (List (List (ByteArray × (List Int))))) :=
  M.a28 x0v_0_0 >>= fun y2 =>
  some ((mget (gn pl154 x0v_0_0) x1).getD ([] : List Int)) >>= fun v4 =>
  M.a66 v4 x2 >>= fun y11 =>
  M.a4v x0v_0_0 x1 y11.1 pl154 >>= fun y15 =>
  some (y11.2, y15)
def M.a3p : ByteArray × Int × (List T165) → Option (List Int) := fun ⟨x1, x5, x0v_0⟩ =>
  if x5 < (x0v_0.length : Int) then
  if 0 ≤ x5 then
  if (((gi x0v_0 x5).Key).toList == x1.toList) = true then
  if (((gi x0v_0 x5).L).length : Int) ≤ 1099511627776 then
  some ((gi x0v_0 x5).L)
  else none
  else
  M.a3p (x1, wr .i64 (x5 + 1), x0v_0)
  else none
  else
  some ([] : List Int)
  partial_fixpoint
def M.a68 (x0v_0 : List T165) (x1 : ByteArray) : Option (List Int) :=
  M.a3p (x1, 0, x0v_0)
def M.a3q : (List Int) × Int → Option Int := fun ⟨x0, x3⟩ =>
  if x3 < (x0.length : Int) then
  if 0 ≤ wr .i64 (x3 - 1) then
  if wr .i64 (x3 - 1) < (x0.length : Int) then
  if 0 ≤ x3 then
  if gi x0 (wr .i64 (x3 - 1)) ≥ gi x0 x3 then
  some 2
  else
  M.a3q (x0, wr .i64 (x3 + 1))
  else none
  else none
  else none
  else
  some 0
  partial_fixpoint
def M.a3r (x0 : List Int) : Option Int :=
  M.a3q (x0, 1)
mutual
def M.a29 : (List Int) × Int × (List Int) × Bool × Int → Option ((List Int) × Int) := fun ⟨x0, x1, x6, x7, x8⟩ =>
  if x8 < (x0.length : Int) then
  if x7 = true then
  M.a4w (x0, x1, x6, true, x8, false)
  else
  if 0 ≤ x8 then
  M.a4w (x0, x1, x6, false, x8, decide (gi x0 x8 ≥ x1))
  else none
  else
  if x7 = true then
  some (x6, 0)
  else
  if ((x6 ++ [x1]).length : Int) ≤ 1099511627776 then
  some ((x6 ++ [x1]), 0)
  else none
  partial_fixpoint
def M.a4w : (List Int) × Int × (List Int) × Bool × Int × Bool → Option ((List Int) × Int) := fun ⟨x0, x1, x6, x7, x8, x28⟩ =>
  if x28 = true then
  if ((x6 ++ [x1]).length : Int) ≤ 1099511627776 then
  M.a4x (x0, x1, (x6 ++ [x1]), true, x8)
  else none
  else
  M.a4x (x0, x1, x6, x7, x8)
  partial_fixpoint
def M.a4x : (List Int) × Int × (List Int) × Bool × Int → Option ((List Int) × Int) := fun ⟨x0, x1, x6, x7, x8⟩ =>
  if 0 ≤ x8 then
  if x8 < (x0.length : Int) then
  if gi x0 x8 = x1 then
  M.a4y (x0, x1, x6, x7, x8)
  else
  if ((x6 ++ [gi x0 x8]).length : Int) ≤ 1099511627776 then
  M.a4y (x0, x1, (x6 ++ [gi x0 x8]), x7, x8)
  else none
  else none
  else none
  partial_fixpoint
def M.a4y : (List Int) × Int × (List Int) × Bool × Int → Option ((List Int) × Int) := fun ⟨x0, x1, x6, x7, x8⟩ =>
  M.a29 (x0, x1, x6, x7, wr .i64 (x8 + 1))
  partial_fixpoint
end
def M.a3s (x0 : List Int) (x1 : Int) : Option ((List Int) × Int) :=
  M.a3r x0 >>= fun y1 =>
  if y1 = 0 then
  M.a29 (x0, x1, ([] : List Int), false, 0)
  else
  some (([] : List Int), 2)
mutual
def M.a2a : ByteArray × (List Int) × (List T165) × Bool × Int × (List T165) → Option (List T165) := fun ⟨x1, x2, x6, x7, x8, e0v_0⟩ =>
  if x8 < (e0v_0.length : Int) then
  if x7 = true then
  M.a3t (x1, x2, x6, true, x8, false, e0v_0)
  else
  if 0 ≤ x8 then
  M.a3t (x1, x2, x6, false, x8, !(Op.bytesLess ((gi e0v_0 x8).Key).toList x1.toList), e0v_0)
  else none
  else
  if x7 = true then
  some x6
  else
  if ((x6 ++ [(⟨x1, x2⟩ : T165)]).length : Int) ≤ 1099511627776 then
  some (x6 ++ [(⟨x1, x2⟩ : T165)])
  else none
  partial_fixpoint
def M.a3t : ByteArray × (List Int) × (List T165) × Bool × Int × Bool × (List T165) → Option (List T165) := fun ⟨x1, x2, x6, x7, x8, x35, e0v_0⟩ =>
  if x35 = true then
  if ((x6 ++ [(⟨x1, x2⟩ : T165)]).length : Int) ≤ 1099511627776 then
  M.a4z (x1, x2, (x6 ++ [(⟨x1, x2⟩ : T165)]), true, x8, e0v_0)
  else none
  else
  M.a4z (x1, x2, x6, x7, x8, e0v_0)
  partial_fixpoint
def M.a4z : ByteArray × (List Int) × (List T165) × Bool × Int × (List T165) → Option (List T165) := fun ⟨x1, x2, x6, x7, x8, e0v_0⟩ =>
  if 0 ≤ x8 then
  if x8 < (e0v_0.length : Int) then
  if (((gi e0v_0 x8).Key).toList == x1.toList) = true then
  M.a50 (x1, x2, x6, x7, x8, e0v_0)
  else
  if ((x6 ++ [gi e0v_0 x8]).length : Int) ≤ 1099511627776 then
  M.a50 (x1, x2, (x6 ++ [gi e0v_0 x8]), x7, x8, e0v_0)
  else none
  else none
  else none
  partial_fixpoint
def M.a50 : ByteArray × (List Int) × (List T165) × Bool × Int × (List T165) → Option (List T165) := fun ⟨x1, x2, x6, x7, x8, e0v_0⟩ =>
  M.a2a (x1, x2, x6, x7, wr .i64 (x8 + 1), e0v_0)
  partial_fixpoint
end
def M.a51 (x0v_0 : List T165) (x1 : ByteArray) (x2 : List Int) : Option (List T165) :=
  M.a2a (x1, x2, ([] : List T165), decide ((x2.length : Int) = 0), 0, x0v_0)
def M.a69 (x0v_0 : List T165) (x1 : ByteArray) (x2 : Int) : Option (List T165) :=
  M.a68 x0v_0 x1 >>= fun y3 =>
  M.a3s y3 x2 >>= fun y7 =>
  M.a51 x0v_0 x1 y7.1 >>= fun y11 =>
  some y11
def M.a6z (x0v_0_0 : Nat) : Option Unit :=
  M.a28 x0v_0_0 >>= fun y2 =>
  some ()
def M.a52 (x0v_0_0 : Nat) (x1 : ByteArray) (pl154 : List (List (ByteArray × (List Int)))) : Option (List Int) :=
  M.a28 x0v_0_0 >>= fun y2 =>
  some ((mget (gn pl154 x0v_0_0) x1).getD ([] : List Int)) >>= fun v4 =>
  M.an v4 >>= fun y11 =>
  some y11
def M.a70 (x0 : Int) : Option Bool :=
  some (decide (x0 = 3))
def M.a6a (kq7v_0 : List Int) (kq12b0v_0 : List Int) (kq12b1v_0 : List Int) (a0 : Int) (a1 : Int) : Option (List Int) :=
  M.a70 a1 >>= fun y7 =>
  if y7 = true then
  if ((kq7v_0 ++ [a0]).length : Int) ≤ 1099511627776 then
  some (kq7v_0 ++ [a0])
  else none
  else
  some kq7v_0
mutual
def M.ad : (List Int) × (List Int) × (List Int) → Option ((List Int) × (List Int) × (List Int)) := fun ⟨e2v_0, e3v_0, e4v_0⟩ =>
  if (e3v_0.length : Int) > 0 then
  M.a1b (true, e2v_0, e3v_0, e4v_0)
  else
  M.a1b (decide ((e4v_0.length : Int) > 0), e2v_0, e3v_0, e4v_0)
  partial_fixpoint
def M.a1b : Bool × (List Int) × (List Int) × (List Int) → Option ((List Int) × (List Int) × (List Int)) := fun ⟨x13, e2v_0, e3v_0, e4v_0⟩ =>
  if x13 = true then
  if (e4v_0.length : Int) = 0 then
  M.aq (0, true, e2v_0, e3v_0, e4v_0)
  else
  if (e3v_0.length : Int) > 0 then
  if 0 < (e3v_0.length : Int) then
  if 0 < (e4v_0.length : Int) then
  M.aq (0, decide (gi e3v_0 0 ≤ gi e4v_0 0), e2v_0, e3v_0, e4v_0)
  else none
  else none
  else
  M.aq (0, false, e2v_0, e3v_0, e4v_0)
  else
  some (e2v_0, e3v_0, e4v_0)
  partial_fixpoint
def M.aq : Int × Bool × (List Int) × (List Int) × (List Int) → Option ((List Int) × (List Int) × (List Int)) := fun ⟨x4, x30, e2v_0, e3v_0, e4v_0⟩ =>
  if x30 = true then
  M.a1c (ior .i64 x4 1, e2v_0, e3v_0, e4v_0)
  else
  M.a1c (x4, e2v_0, e3v_0, e4v_0)
  partial_fixpoint
def M.a1c : Int × (List Int) × (List Int) × (List Int) → Option ((List Int) × (List Int) × (List Int)) := fun ⟨x4, e2v_0, e3v_0, e4v_0⟩ =>
  if (e3v_0.length : Int) = 0 then
  M.ar (x4, true, e2v_0, e3v_0, e4v_0)
  else
  if (e4v_0.length : Int) > 0 then
  if 0 < (e4v_0.length : Int) then
  if 0 < (e3v_0.length : Int) then
  M.ar (x4, decide (gi e4v_0 0 ≤ gi e3v_0 0), e2v_0, e3v_0, e4v_0)
  else none
  else none
  else
  M.ar (x4, false, e2v_0, e3v_0, e4v_0)
  partial_fixpoint
def M.ar : Int × Bool × (List Int) × (List Int) × (List Int) → Option ((List Int) × (List Int) × (List Int)) := fun ⟨x4, x49, e2v_0, e3v_0, e4v_0⟩ =>
  if x49 = true then
  M.a1d (ior .i64 x4 2, e2v_0, e3v_0, e4v_0)
  else
  M.a1d (x4, e2v_0, e3v_0, e4v_0)
  partial_fixpoint
def M.a1d : Int × (List Int) × (List Int) × (List Int) → Option ((List Int) × (List Int) × (List Int)) := fun ⟨x4, e2v_0, e3v_0, e4v_0⟩ =>
  if iand .i64 x4 2 = 0 then
  M.a1e (x4, 0, e2v_0, e3v_0, e4v_0)
  else
  if 0 < (e4v_0.length : Int) then
  if 1 ≤ (e4v_0.length : Int) then
  M.a1e (x4, gi e4v_0 0, e2v_0, e3v_0, (sl e4v_0 1 (e4v_0.length : Int)))
  else none
  else none
  partial_fixpoint
def M.a1e : Int × Int × (List Int) × (List Int) × (List Int) → Option ((List Int) × (List Int) × (List Int)) := fun ⟨x4, x5, e2v_0, e3v_0, e4v_0⟩ =>
  if iand .i64 x4 1 = 0 then
  M.a1f (x4, x5, e2v_0, e3v_0, e4v_0)
  else
  if 0 < (e3v_0.length : Int) then
  if 1 ≤ (e3v_0.length : Int) then
  M.a1f (x4, gi e3v_0 0, e2v_0, (sl e3v_0 1 (e3v_0.length : Int)), e4v_0)
  else none
  else none
  partial_fixpoint
def M.a1f : Int × Int × (List Int) × (List Int) × (List Int) → Option ((List Int) × (List Int) × (List Int)) := fun ⟨x4, x5, e2v_0, e3v_0, e4v_0⟩ =>
  M.a6a e2v_0 e3v_0 e4v_0 x5 x4 >>= fun y57 =>
  M.ad (y57, e3v_0, e4v_0)
  partial_fixpoint
end
def M.a71 (x0q7v_0 : List Int) (x0q12b0v_0 : List Int) (x0q12b1v_0 : List Int) : Option ((List Int) × (List Int) × (List Int)) :=
  M.ad (x0q7v_0, x0q12b0v_0, x0q12b1v_0)
def M.a6b (x0 : List Int) (x1 : List Int) : Option (List Int) :=
  M.a4t x0 x1 >>= fun y5 =>
  M.a71 ([] : List Int) y5.1 y5.2 >>= fun y15 =>
  some y15.1
def M.a3u : (List Int) × (List (List Int)) × Int × Int → Option ((List Int) × Int) := fun ⟨x9, x35, x36, x37⟩ =>
  if x37 < x36 then
  if 0 ≤ x37 then
  if x37 < (x35.length : Int) then
  M.a6b x9 (gi x35 x37) >>= fun y43 =>
  M.a3u (y43, x35, x36, wr .i64 (x37 + 1))
  else none
  else none
  else
  some (x9, 0)
  partial_fixpoint
def M.a3v : (List (List Int)) × (List (List Int)) × Int × Int → Option ((List Int) × Int) := fun ⟨x0, x15, x16, x17⟩ =>
  if x17 < x16 then
  if 0 ≤ x17 then
  if x17 < (x15.length : Int) then
  M.a15 (gi x15 x17) >>= fun y12 =>
  if y12 = 0 then
  M.a3v (x0, x15, x16, wr .i64 (x17 + 1))
  else
  some (([] : List Int), y12)
  else none
  else none
  else
  if (x0.length : Int) = 0 then
  some (([] : List Int), 0)
  else
  if 0 < (x0.length : Int) then
  M.an (gi x0 0) >>= fun y25 =>
  if 1 ≤ (x0.length : Int) then
  M.a3u (y25, (sl x0 1 (x0.length : Int)), ((sl x0 1 (x0.length : Int)).length : Int), 0)
  else none
  else none
  partial_fixpoint
def M.a6c (x0 : List (List Int)) : Option ((List Int) × Int) :=
  if (x0.length : Int) > 4096 then
  some (([] : List Int), 3)
  else
  M.a3v (x0, x0, (x0.length : Int), 0)
def M.a6d (x0 : List (List Int)) : Option ((List Int) × Int) :=
  M.a6c x0 >>= fun y1 =>
  some (y1.1, y1.2)
mutual
def M.as : T29 × Nat × (List Int) × (List (List (ByteArray × (List Int)))) → Option (List Int) := fun ⟨x0, x1v_0_0, x2, pl154⟩ =>
  if x0.Op = 0 then
  M.an x2 >>= fun y5 =>
  some y5
  else
  if x0.Op = 2 then
  M.a52 x1v_0_0 x0.Text pl154 >>= fun y9 =>
  M.a6d [x2, y9] >>= fun y17 =>
  some y17.1
  else
  if x0.Op = 3 then
  M.an x2 >>= fun y21 =>
  M.a3w (y21, x0.L, (x0.L.length : Int), 0, x1v_0_0, pl154)
  else
  if x0.Op = 4 then
  M.a2b (x2, ([] : List Int), x0.L, (x0.L.length : Int), 0, x1v_0_0, pl154)
  else
  some ([] : List Int)
  partial_fixpoint
def M.a3w : (List Int) × (List T29) × Int × Int × Nat × (List (List (ByteArray × (List Int)))) → Option (List Int) := fun ⟨x7, x35, x36, x37, x1v_0_0, pl154⟩ =>
  if x37 < x36 then
  if 0 ≤ x37 then
  if x37 < (x35.length : Int) then
  M.as (gi x35 x37, x1v_0_0, x7, pl154) >>= fun y42 =>
  M.a3w (y42, x35, x36, wr .i64 (x37 + 1), x1v_0_0, pl154)
  else none
  else none
  else
  some x7
  partial_fixpoint
def M.a2b : (List Int) × (List Int) × (List T29) × Int × Int × Nat × (List (List (ByteArray × (List Int)))) → Option (List Int) := fun ⟨x2, x7, x49, x50, x51, x1v_0_0, pl154⟩ =>
  if x51 < x50 then
  if 0 ≤ x51 then
  if x51 < (x49.length : Int) then
  M.as (gi x49 x51, x1v_0_0, x2, pl154) >>= fun y57 =>
  M.a4u [x7, y57] >>= fun y66 =>
  M.a2b (x2, y66.1, x49, x50, wr .i64 (x51 + 1), x1v_0_0, pl154)
  else none
  else none
  else
  some x7
  partial_fixpoint
end
def M.a53 : (List Int) × T29 × Bool × Nat × (List (List (ByteArray × (List Int)))) → Option ((List Int) × Int) := fun ⟨x2, x3v, x15, x1v_0_0, pl154⟩ =>
  if x15 = true then
  some (([] : List Int), 2)
  else
  M.a6z x1v_0_0 >>= fun y12 =>
  M.as (x3v, x1v_0_0, x2, pl154) >>= fun y14 =>
  some (y14, 0)
def M.a6e (x0 : T29) (x1v_0_0 : Nat) (x2 : List Int) (pl154 : List (List (ByteArray × (List Int)))) : Option ((List Int) × Int) :=
  M.au x0 >>= fun y4 =>
  if y4 = 0 then
  M.a15 x2 >>= fun y7 =>
  M.a53 (x2, x0, !(decide (y7 = 0)), x1v_0_0, pl154)
  else
  M.a53 (x2, x0, true, x1v_0_0, pl154)
def M.a3x : (List Int) × Int × Int → Option Bool := fun ⟨x0, x1, x5⟩ =>
  if x5 < (x0.length : Int) then
  if 0 ≤ x5 then
  if gi x0 x5 = x1 then
  some true
  else
  M.a3x (x0, x1, wr .i64 (x5 + 1))
  else none
  else
  some false
  partial_fixpoint
def M.a6f (x0 : List Int) (x1 : Int) : Option Bool :=
  M.a3x (x0, x1, 0)
def M.a72 (x0 : List Int) (x1 : Int) : Option (Bool × Int) :=
  M.a3r x0 >>= fun y1 =>
  if y1 = 0 then
  M.a6f x0 x1 >>= fun y4 =>
  some (y4, 0)
  else
  some (false, 2)
mutual
def M.a2c : (List Int) × T38 × (List Int) × Int × (List T165) → Option ((List Int) × Int) := fun ⟨x2, x3v, x8, x9, x1v_0⟩ =>
  if x9 < (x2.length : Int) then
  M.a2d (x2, x3v, x8, x9, ([] : List ByteArray), 0, x1v_0)
  else
  some (x8, 0)
  partial_fixpoint
def M.a2d : (List Int) × T38 × (List Int) × Int × (List ByteArray) × Int × (List T165) → Option ((List Int) × Int) := fun ⟨x2, x3v, x8, x9, x10, x11, x1v_0⟩ =>
  if x11 < (x1v_0.length : Int) then
  if 0 ≤ x11 then
  if 0 ≤ x9 then
  if x9 < (x2.length : Int) then
  M.a72 ((gi x1v_0 x11).L) (gi x2 x9) >>= fun y40 =>
  if y40.1 = true then
  if ((x10 ++ [(gi x1v_0 x11).Key]).length : Int) ≤ 1099511627776 then
  M.a54 (x2, x3v, x8, x9, (x10 ++ [(gi x1v_0 x11).Key]), x11, x1v_0)
  else none
  else
  M.a54 (x2, x3v, x8, x9, x10, x11, x1v_0)
  else none
  else none
  else none
  else
  M.al (x3v, x10) >>= fun y65 =>
  if y65 = true then
  if 0 ≤ x9 then
  if x9 < (x2.length : Int) then
  if ((x8 ++ [gi x2 x9]).length : Int) ≤ 1099511627776 then
  M.a55 (x2, x3v, (x8 ++ [gi x2 x9]), x9, x1v_0)
  else none
  else none
  else none
  else
  M.a55 (x2, x3v, x8, x9, x1v_0)
  partial_fixpoint
def M.a54 : (List Int) × T38 × (List Int) × Int × (List ByteArray) × Int × (List T165) → Option ((List Int) × Int) := fun ⟨x2, x3v, x8, x9, x10, x11, x1v_0⟩ =>
  M.a2d (x2, x3v, x8, x9, x10, wr .i64 (x11 + 1), x1v_0)
  partial_fixpoint
def M.a55 : (List Int) × T38 × (List Int) × Int × (List T165) → Option ((List Int) × Int) := fun ⟨x2, x3v, x8, x9, x1v_0⟩ =>
  M.a2c (x2, x3v, x8, wr .i64 (x9 + 1), x1v_0)
  partial_fixpoint
end
def M.a56 : (List Int) × T38 × Bool × (List T165) → Option ((List Int) × Int) := fun ⟨x2, x3v, x21, x1v_0⟩ =>
  if x21 = true then
  some (([] : List Int), 2)
  else
  M.a2c (x2, x3v, ([] : List Int), 0, x1v_0)
def M.a6g (x0 : T38) (x1v_0 : List T165) (x2 : List Int) : Option ((List Int) × Int) :=
  M.a4q x0 >>= fun y5 =>
  if y5 = 0 then
  M.a3r x2 >>= fun y8 =>
  M.a56 (x2, x0, !(decide (y8 = 0)), x1v_0)
  else
  M.a56 (x2, x0, true, x1v_0)
def M.a73 : Bool × T134 → Option (Int × T134) := fun ⟨x19, e0v⟩ =>
  if x19 = true then
  some (0, e0v)
  else
  if 0 ≤ e0v.at_ then
  if e0v.at_ < (e0v.s.size : Int) then
  some (bt e0v.s e0v.at_, e0v)
  else none
  else none
def M.a2 (x0v : T134) : Option (Int × T134) :=
  some (x0v.bad) >>= fun v8 =>
  (match v8 with
  | none =>
  M.a73 (decide (x0v.at_ ≥ (x0v.s.size : Int)), (⟨x0v.s, x0v.at_, x0v.deep, none⟩ : T134))
  | some y3 =>
  M.a73 (true, (⟨x0v.s, x0v.at_, x0v.deep, (some y3)⟩ : T134)))
def M.a1 (x0v : T134) (x1 : Int) : Option (T26 × T134) :=
  some (x0v.bad) >>= fun v13 =>
  (match v13 with
  | none =>
  some ((⟨0, [0, 0, 0, 0], ([] : List T26), 0, 0⟩ : T26), (⟨x0v.s, x0v.at_, x0v.deep, (some (⟨x1⟩ : T138))⟩ : T134))
  | some y5 =>
  some ((⟨0, [0, 0, 0, 0], ([] : List T26), 0, 0⟩ : T26), (⟨x0v.s, x0v.at_, x0v.deep, (some y5)⟩ : T134)))
def M.a74 : Bool × T134 → Option (Bool × T134) := fun ⟨x12, e0v⟩ =>
  if x12 = true then
  some (false, e0v)
  else
  some (true, (⟨e0v.s, wr .i64 (e0v.at_ + 1), e0v.deep, e0v.bad⟩ : T134))
def M.a0 (x0v : T134) (x1 : Int) : Option (Bool × T134) :=
  if x1 = 0 then
  M.a74 (true, x0v)
  else
  M.a2 x0v >>= fun y3 =>
  M.a74 (!(decide (y3.1 = x1)), y3.2)
def M.a8 (x0 : Int) : Option (List Int) :=
  if 0 ≤ irem .u8 x0 64 then
  if 0 ≤ iquo .u8 x0 64 then
  if iquo .u8 x0 64 < 4 then
  some (si [0, 0, 0, 0] (iquo .u8 x0 64) (ishl .u64 1 (irem .u8 x0 64))) >>= fun v11 =>
  some v11
  else none
  else none
  else none
def M.a2j : (List Int) × (List Int) × Int → Option (List Int) := fun ⟨x1, x2v_0, x4⟩ =>
  if x4 < 4 then
  if 0 ≤ x4 then
  some (si x1 x4 (ixor .u64 18446744073709551615 (gi x1 x4))) >>= fun v13 =>
  M.a2j (v13, x2v_0, wr .i64 (x4 + 1))
  else none
  else
  some x1
  partial_fixpoint
def M.av (x0 : List Int) : Option (List Int) :=
  M.a2j (x0, [0, 0, 0, 0], 0)
def M.a6l (x0v : T134) : Option Unit :=
  some ()
def M.a2k : Int × (List Int) × (List Int) × Int → Option (List Int) := fun ⟨x1, x4v_0, x5, x6⟩ =>
  if x6 ≤ wr .i64 x1 then
  if 0 ≤ iquo .i64 x6 64 then
  if iquo .i64 x6 64 < 4 then
  if 0 ≤ irem .i64 x6 64 then
  some (si x5 (iquo .i64 x6 64) (ior .u64 (gi x5 (iquo .i64 x6 64)) (ishl .u64 1 (irem .i64 x6 64)))) >>= fun v18 =>
  M.a2k (x1, x4v_0, v18, wr .i64 (x6 + 1))
  else none
  else none
  else none
  else
  some x5
  partial_fixpoint
def M.a7 (x0 : Int) (x1 : Int) : Option (List Int) :=
  M.a2k (x1, [0, 0, 0, 0], [0, 0, 0, 0], wr .i64 x0)
mutual
def M.a1h : (List Int) × (List Int) × (List (List Int)) × Int × Int → Option (List Int) := fun ⟨x2v_0, x3, x7, x8, x9⟩ =>
  if x9 < x8 then
  if 0 ≤ x9 then
  if x9 < (x7.length : Int) then
  M.a2l (x2v_0, x3, (gi x7 x9), x7, x8, x9, 0)
  else none
  else none
  else
  some x3
  partial_fixpoint
def M.a2l : (List Int) × (List Int) × (List Int) × (List (List Int)) × Int × Int × Int → Option (List Int) := fun ⟨x2v_0, x3, x5, x7, x8, x9, x13⟩ =>
  if x13 < 4 then
  if 0 ≤ x13 then
  some (si x3 x13 (ior .u64 (gi x3 x13) (gi x5 x13))) >>= fun v34 =>
  M.a2l (x2v_0, v34, x5, x7, x8, x9, wr .i64 (x13 + 1))
  else none
  else
  M.a1h (x2v_0, x3, x7, x8, wr .i64 (x9 + 1))
  partial_fixpoint
end
def M.aw (x0 : List (List Int)) : Option (List Int) :=
  M.a1h ([0, 0, 0, 0], [0, 0, 0, 0], x0, (x0.length : Int), 0)
def M.a59 (x0 : Int) : Option ((List Int) × Bool) :=
  if ior .u8 x0 32 = 119 then
  M.a7 97 122 >>= fun y6 =>
  M.a7 65 90 >>= fun y8 =>
  M.a8 95 >>= fun y10 =>
  M.aw [[0, 0, 0, 0], y6, y8, y10] >>= fun y19 =>
  M.a7 48 57 >>= fun y22 =>
  M.aw [y19, y22] >>= fun y30 =>
  if iand .u8 x0 32 = 0 then
  M.av y30 >>= fun y33 =>
  some (y33, true)
  else
  some (y30, true)
  else
  if ior .u8 x0 32 = 100 then
  M.a7 48 57 >>= fun y38 =>
  M.aw [[0, 0, 0, 0], y38] >>= fun y45 =>
  if iand .u8 x0 32 = 0 then
  M.av y45 >>= fun y49 =>
  some (y49, true)
  else
  some (y45, true)
  else
  if ior .u8 x0 32 = 115 then
  M.a7 9 10 >>= fun y54 =>
  M.a7 12 13 >>= fun y56 =>
  M.a8 32 >>= fun y58 =>
  M.aw [y54, y56, y58] >>= fun y67 =>
  if iand .u8 x0 32 = 0 then
  M.av y67 >>= fun y71 =>
  some (y71, true)
  else
  some (y67, true)
  else
  some ([0, 0, 0, 0], false)
def M.a7f (x0 : Int) : Option Int :=
  if x0 ≥ 65 then
  if x0 ≤ 70 then
  some (wr .u8 ((wr .u8 (x0 + 97)) - 65))
  else
  some x0
  else
  some x0
def M.a7g (x0 : ByteArray) (x1 : Int) : Option Int :=
  some (ixB x0 x1)
def M.ax (x0 : ByteArray) (x1 : Int) : Option Int :=
  M.a7g x0 x1 >>= fun y1 =>
  some y1
def M.a7h (x0 : Int) : Option Int :=
  M.a7f x0 >>= fun y1 =>
  M.ax (⟨#[48, 49, 50, 51, 52, 53, 54, 55, 56, 57, 97, 98, 99, 100, 101, 102]⟩ : ByteArray) y1 >>= fun y3 =>
  some y3
def M.a43 (x0v : T134) : Option (Int × T134) :=
  M.a2 x0v >>= fun y2 =>
  M.a7h y2.1 >>= fun y4 =>
  if y4 < 0 then
  M.a1 y2.2 y2.2.at_ >>= fun y7 =>
  some (0, y7.2)
  else
  some (wr .u8 y4, (⟨y2.2.s, wr .i64 (y2.2.at_ + 1), y2.2.deep, y2.2.bad⟩ : T134))
def M.ai (x0 : Int) : Option T370 :=
  M.a8 x0 >>= fun y3 =>
  some (⟨y3, x0, true⟩ : T370)
def M.a44 : T370 × Int × Bool × T134 → Option (T370 × T134) := fun ⟨x2v, x3, x66, e0v⟩ =>
  if x66 = true then
  M.a1 e0v e0v.at_ >>= fun y31 =>
  some ((⟨[0, 0, 0, 0], 0, false⟩ : T370), y31.2)
  else
  M.ai x3 >>= fun y33 =>
  some (y33, (⟨e0v.s, wr .i64 (e0v.at_ + 1), e0v.deep, e0v.bad⟩ : T134))
def M.a45 (x0v : T134) : Option (T370 × T134) :=
  M.a2 x0v >>= fun y4 =>
  M.a59 y4.1 >>= fun y6 =>
  if y6.2 = true then
  some ((⟨y6.1, 0, false⟩ : T370), (⟨y4.2.s, wr .i64 (y4.2.at_ + 1), y4.2.deep, y4.2.bad⟩ : T134))
  else
  if y4.1 = 120 then
  M.a43 (⟨y4.2.s, wr .i64 (y4.2.at_ + 1), y4.2.deep, y4.2.bad⟩ : T134) >>= fun y14 =>
  M.a43 y14.2 >>= fun y16 =>
  M.ai (ior .u8 (ishl .u8 y14.1 4) y16.1) >>= fun y18 =>
  some (y18, y16.2)
  else
  if y4.1 = 110 then
  M.ai 10 >>= fun y21 =>
  some (y21, (⟨y4.2.s, wr .i64 (y4.2.at_ + 1), y4.2.deep, y4.2.bad⟩ : T134))
  else
  if y4.1 = 116 then
  M.ai 9 >>= fun y24 =>
  some (y24, (⟨y4.2.s, wr .i64 (y4.2.at_ + 1), y4.2.deep, y4.2.bad⟩ : T134))
  else
  if y4.1 = 0 then
  M.a44 ((⟨[0, 0, 0, 0], 0, false⟩ : T370), y4.1, true, y4.2)
  else
  M.ax (⟨#[92, 46, 91, 93, 40, 41, 42, 43, 63, 123, 125, 94, 36, 45, 47, 124]⟩ : ByteArray) y4.1 >>= fun y28 =>
  M.a44 ((⟨[0, 0, 0, 0], 0, false⟩ : T370), y4.1, decide (y28 < 0), y4.2)
def M.a1i : T370 × Int × Bool × T134 → Option (T370 × T134) := fun ⟨x2v, x3, x11, e0v⟩ =>
  if x11 = true then
  M.a1 e0v e0v.at_ >>= fun y17 =>
  some ((⟨[0, 0, 0, 0], 0, false⟩ : T370), y17.2)
  else
  M.ai x3 >>= fun y19 =>
  some (y19, (⟨e0v.s, wr .i64 (e0v.at_ + 1), e0v.deep, e0v.bad⟩ : T134))
def M.a46 (x0v : T134) : Option (T370 × T134) :=
  M.a2 x0v >>= fun y4 =>
  M.a0 y4.2 92 >>= fun y6 =>
  if y6.1 = true then
  M.a45 y6.2 >>= fun y9 =>
  some (y9.1, y9.2)
  else
  if y4.1 < 32 then
  M.a1i ((⟨[0, 0, 0, 0], 0, false⟩ : T370), y4.1, true, y6.2)
  else
  if y4.1 > 126 then
  M.a1i ((⟨[0, 0, 0, 0], 0, false⟩ : T370), y4.1, true, y6.2)
  else
  M.ax (⟨#[93, 91, 45]⟩ : ByteArray) y4.1 >>= fun y14 =>
  M.a1i ((⟨[0, 0, 0, 0], 0, false⟩ : T370), y4.1, decide (y14 ≥ 0), y6.2)
def M.a47 : (List Int) × Int × T370 × Int × T370 × Bool × T134 → Option ((List Int) × T134) := fun ⟨x2v_0, x3, x4v, x5, x6v, x47, e0v⟩ =>
  if x47 = true then
  some (x4v.set_, e0v)
  else
  if x6v.single = true then
  if x4v.b > x6v.b then
  M.a1 e0v x3 >>= fun y31 =>
  some (x4v.set_, y31.2)
  else
  M.a7 x4v.b x6v.b >>= fun y33 =>
  some (y33, e0v)
  else
  M.a1 e0v (wr .i64 (x5 + 1)) >>= fun y36 =>
  some (x4v.set_, y36.2)
def M.a5a (x0v : T134) : Option ((List Int) × T134) :=
  M.a46 x0v >>= fun y4 =>
  M.a2 y4.2 >>= fun y8 =>
  if y8.1 = 45 then
  if y4.1.single = true then
  M.a46 (⟨y8.2.s, wr .i64 (y8.2.at_ + 1), y8.2.deep, y8.2.bad⟩ : T134) >>= fun y12 =>
  some (y12.2.bad) >>= fun v25 =>
  (match v25 with
  | none =>
  M.a47 ([0, 0, 0, 0], x0v.at_, (⟨y4.1.set_, y4.1.b, true⟩ : T370), wr .i64 (y8.2.at_ + 1), y12.1, false, (⟨y12.2.s, y12.2.at_, y12.2.deep, none⟩ : T134))
  | some y17 =>
  M.a47 ([0, 0, 0, 0], x0v.at_, (⟨y4.1.set_, y4.1.b, true⟩ : T370), wr .i64 (y8.2.at_ + 1), y12.1, true, (⟨y12.2.s, y12.2.at_, y12.2.deep, (some y17)⟩ : T134)))
  else
  M.a1 y8.2 y8.2.at_ >>= fun y26 =>
  some (y4.1.set_, y26.2)
  else
  some (y4.1.set_, y8.2)
def M.a5b (kq2v : T26) (kq3 : Bool) (kq4 : List Int) (kq9b0v_0v : T134) (a0 : List Int) : Option (List Int) :=
  M.aw [kq4, a0] >>= fun y16 =>
  some y16
mutual
def M.a1j : Bool × (List Int) × T134 × T26 × Bool → Option ((List Int) × T134) := fun ⟨x3, e2, e4v, x0q2v, x0q3⟩ =>
  some (e4v.bad) >>= fun v17 =>
  (match v17 with
  | none =>
  if x3 = true then
  M.a1k (true, e2, (⟨e4v.s, e4v.at_, e4v.deep, none⟩ : T134), x0q2v, x0q3)
  else
  M.a0 (⟨e4v.s, e4v.at_, e4v.deep, none⟩ : T134) 93 >>= fun y15 =>
  M.a1k (!y15.1, e2, y15.2, x0q2v, x0q3)
  | some y9 =>
  M.a1k (false, e2, (⟨e4v.s, e4v.at_, e4v.deep, (some y9)⟩ : T134), x0q2v, x0q3))
  partial_fixpoint
def M.a1k : Bool × (List Int) × T134 × T26 × Bool → Option ((List Int) × T134) := fun ⟨x16, e2, e4v, x0q2v, x0q3⟩ =>
  if x16 = true then
  M.a5a e4v >>= fun y19 =>
  M.a5b x0q2v x0q3 e2 y19.2 y19.1 >>= fun y21 =>
  M.a1j (false, y21, y19.2, x0q2v, x0q3)
  else
  some (e2, e4v)
  partial_fixpoint
end
def M.a5c (x0q2v : T26) (x0q3 : Bool) (x0q4v_0 : List Int) (x0q9b0v_0v : T134) : Option ((List Int) × T134) :=
  M.a1j (true, x0q4v_0, x0q9b0v_0v, x0q2v, x0q3)
def M.a5d (x0v : T134) : Option (T26 × T134) :=
  M.a0 x0v 94 >>= fun y4 =>
  M.a6l y4.2 >>= fun y8 =>
  M.a5c (⟨0, [0, 0, 0, 0], ([] : List T26), 0, 0⟩ : T26) y4.1 [0, 0, 0, 0] y4.2 >>= fun y17 =>
  if y4.1 = true then
  M.av y17.1 >>= fun y20 =>
  some ((⟨1, y20, ([] : List T26), 0, 0⟩ : T26), y17.2)
  else
  some ((⟨1, y17.1, ([] : List T26), 0, 0⟩ : T26), y17.2)
def M.a2m (x0v : T134) (x1 : Int) : Option T134 :=
  M.a0 x0v x1 >>= fun y2 =>
  if y2.1 = true then
  some y2.2
  else
  M.a1 y2.2 y2.2.at_ >>= fun y5 =>
  some y5.2
def M.a75 (x0v_0v : T134) : Option (Bool × T134) :=
  M.a2 x0v_0v >>= fun y3 =>
  if y3.1 ≥ 48 then
  M.a2 y3.2 >>= fun y6 =>
  some (decide (y6.1 ≤ 57), y6.2)
  else
  some (false, y3.2)
def M.a76 : Int × Bool × T134 → Option (Int × T134) := fun ⟨x4, x25, e0v⟩ =>
  if x25 = true then
  M.a2 e0v >>= fun y14 =>
  some (wr .i64 ((wr .i64 (10 * x4)) + (wr .i64 (wr .u8 (y14.1 - 48)))), (⟨y14.2.s, wr .i64 (y14.2.at_ + 1), y14.2.deep, y14.2.bad⟩ : T134))
  else
  some (x4, e0v)
def M.a77 (x0v : T134) : Option (Int × T134) :=
  M.a75 x0v >>= fun y4 =>
  if y4.1 = true then
  M.a2 y4.2 >>= fun y7 =>
  if wr .i64 (wr .u8 (y7.1 - 48)) > 0 then
  M.a75 (⟨y7.2.s, wr .i64 (y7.2.at_ + 1), y7.2.deep, y7.2.bad⟩ : T134) >>= fun y10 =>
  M.a76 (wr .i64 (wr .u8 (y7.1 - 48)), y10.1, y10.2)
  else
  M.a76 (wr .i64 (wr .u8 (y7.1 - 48)), false, (⟨y7.2.s, wr .i64 (y7.2.at_ + 1), y7.2.deep, y7.2.bad⟩ : T134))
  else
  some ((-1), y4.2)
def M.a78 : Int × Int × Int × T134 → Option (Int × Int × T134) := fun ⟨x1, x6, x7, e0v⟩ =>
  M.a2m e0v 125 >>= fun y12 =>
  if x6 > 64 then
  M.a1 y12 x1 >>= fun y15 =>
  some (x6, x7, y15.2)
  else
  if x7 > 64 then
  M.a1 y12 x1 >>= fun y18 =>
  some (x6, x7, y18.2)
  else
  if x7 ≥ 0 then
  if x6 > x7 then
  M.a1 y12 x1 >>= fun y22 =>
  some (x6, x7, y22.2)
  else
  some (x6, x7, y12)
  else
  some (x6, x7, y12)
def M.a79 : Int × Int × T134 → Option (Int × Int × T134) := fun ⟨x1, x6, e0v⟩ =>
  M.a0 e0v 44 >>= fun y7 =>
  if y7.1 = true then
  M.a77 y7.2 >>= fun y10 =>
  M.a78 (x1, x6, y10.1, y10.2)
  else
  M.a78 (x1, x6, x6, y7.2)
def M.a6m (x0v : T134) (x1 : Int) : Option (Int × Int × T134) :=
  M.a77 x0v >>= fun y2 =>
  if y2.1 < 0 then
  M.a1 y2.2 y2.2.at_ >>= fun y5 =>
  M.a79 (x1, y2.1, y5.2)
  else
  M.a79 (x1, y2.1, y2.2)
def M.a48 (x0 : Int) (x1 : List T26) : Option T26 :=
  if (x1.length : Int) = 1 then
  if 0 < (x1.length : Int) then
  some (⟨(gi x1 0).Kind, ((gi x1 0).Set), (gi x1 0).L, (gi x1 0).Min, (gi x1 0).Max⟩ : T26)
  else none
  else
  some (⟨x0, [0, 0, 0, 0], x1, 0, 0⟩ : T26)
mutual
def M.a1l : T134 → Option (T26 × T134) := fun x0v =>
  M.a2n x0v >>= fun y4 =>
  M.a2r ((⟨0, [0, 0, 0, 0], ([] : List T26), 0, 0⟩ : T26), [y4.1], y4.2)
  partial_fixpoint
def M.a2n : T134 → Option (T26 × T134) := fun x0v =>
  M.a2o ((⟨0, [0, 0, 0, 0], ([] : List T26), 0, 0⟩ : T26), ([] : List T26), x0v)
  partial_fixpoint
def M.a2o : T26 × (List T26) × T134 → Option (T26 × T134) := fun ⟨x2v, x3, e0v⟩ =>
  some (e0v.bad) >>= fun v24 =>
  (match v24 with
  | none =>
  if e0v.at_ < (e0v.s.size : Int) then
  M.a2 (⟨e0v.s, e0v.at_, e0v.deep, none⟩ : T134) >>= fun y16 =>
  if y16.1 = 124 then
  M.ay (x2v, x3, false, y16.2)
  else
  M.a2 y16.2 >>= fun y22 =>
  M.ay (x2v, x3, !(decide (y22.1 = 41)), y22.2)
  else
  M.ay (x2v, x3, false, (⟨e0v.s, e0v.at_, e0v.deep, none⟩ : T134))
  | some y10 =>
  M.ay (x2v, x3, false, (⟨e0v.s, e0v.at_, e0v.deep, (some y10)⟩ : T134)))
  partial_fixpoint
def M.ay : T26 × (List T26) × Bool × T134 → Option (T26 × T134) := fun ⟨x2v, x3, x30, e0v⟩ =>
  if x30 = true then
  M.a49 e0v >>= fun y26 =>
  if ((x3 ++ [y26.1]).length : Int) ≤ 1099511627776 then
  M.a2o (x2v, (x3 ++ [y26.1]), y26.2)
  else none
  else
  M.a48 2 x3 >>= fun y40 =>
  some (y40, e0v)
  partial_fixpoint
def M.a49 : T134 → Option (T26 × T134) := fun x0v =>
  M.a4a x0v >>= fun y4 =>
  M.a0 y4.2 42 >>= fun y8 =>
  if y8.1 = true then
  some ((⟨4, [0, 0, 0, 0], [y4.1], 0, (-1)⟩ : T26), y8.2)
  else
  M.a0 y8.2 43 >>= fun y15 =>
  if y15.1 = true then
  some ((⟨4, [0, 0, 0, 0], [y4.1], 1, (-1)⟩ : T26), y15.2)
  else
  M.a0 y15.2 63 >>= fun y22 =>
  if y22.1 = true then
  some ((⟨4, [0, 0, 0, 0], [y4.1], 0, 1⟩ : T26), y22.2)
  else
  M.a0 y22.2 123 >>= fun y29 =>
  if y29.1 = true then
  M.a6m y29.2 y4.2.at_ >>= fun y32 =>
  some ((⟨4, [0, 0, 0, 0], [y4.1], y32.1, y32.2.1⟩ : T26), y32.2.2)
  else
  some (y4.1, y29.2)
  partial_fixpoint
def M.a4a : T134 → Option (T26 × T134) := fun x0v =>
  M.a2 x0v >>= fun y4 =>
  if y4.1 < 32 then
  M.a1m ((⟨0, [0, 0, 0, 0], ([] : List T26), 0, 0⟩ : T26), y4.1, true, y4.2)
  else
  if y4.1 > 126 then
  M.a1m ((⟨0, [0, 0, 0, 0], ([] : List T26), 0, 0⟩ : T26), y4.1, true, y4.2)
  else
  M.ax (⟨#[93, 41, 42, 43, 63, 123, 125, 94, 36, 124]⟩ : ByteArray) y4.1 >>= fun y12 =>
  M.a1m ((⟨0, [0, 0, 0, 0], ([] : List T26), 0, 0⟩ : T26), y4.1, decide (y12 ≥ 0), y4.2)
  partial_fixpoint
def M.a1m : T26 × Int × Bool × T134 → Option (T26 × T134) := fun ⟨x2v, x3, x6, e0v⟩ =>
  if x6 = true then
  M.a1 e0v e0v.at_ >>= fun y16 =>
  some (y16.1, y16.2)
  else
  if x3 = 40 then
  M.a2p (x2v, x3, decide (e0v.deep = 32), e0v)
  else
  M.a2p (x2v, x3, false, e0v)
  partial_fixpoint
def M.a2p : T26 × Int × Bool × T134 → Option (T26 × T134) := fun ⟨x2v, x3, x24, e0v⟩ =>
  if x24 = true then
  M.a1 e0v e0v.at_ >>= fun y22 =>
  some (y22.1, y22.2)
  else
  M.a0 e0v 46 >>= fun y24 =>
  if y24.1 = true then
  M.a8 10 >>= fun y27 =>
  M.av y27 >>= fun y29 =>
  some ((⟨1, y29, ([] : List T26), 0, 0⟩ : T26), y24.2)
  else
  M.a0 y24.2 91 >>= fun y32 =>
  if y32.1 = true then
  M.a5d y32.2 >>= fun y35 =>
  some (y35.1, y35.2)
  else
  M.a0 y32.2 40 >>= fun y37 =>
  if y37.1 = true then
  M.a4b y37.2 >>= fun y40 =>
  some (y40.1, y40.2)
  else
  M.a0 y37.2 92 >>= fun y42 =>
  if y42.1 = true then
  M.a45 y42.2 >>= fun y45 =>
  some ((⟨1, y45.1.set_, ([] : List T26), 0, 0⟩ : T26), y45.2)
  else
  M.a8 x3 >>= fun y47 =>
  some ((⟨1, y47, ([] : List T26), 0, 0⟩ : T26), (⟨y42.2.s, wr .i64 (y42.2.at_ + 1), y42.2.deep, y42.2.bad⟩ : T134))
  partial_fixpoint
def M.a4b : T134 → Option (T26 × T134) := fun x0v =>
  M.a0 x0v 63 >>= fun y4 =>
  if y4.1 = true then
  M.a2m y4.2 58 >>= fun y7 =>
  M.a2q ((⟨0, [0, 0, 0, 0], ([] : List T26), 0, 0⟩ : T26), y7)
  else
  M.a2q ((⟨0, [0, 0, 0, 0], ([] : List T26), 0, 0⟩ : T26), y4.2)
  partial_fixpoint
def M.a2q : T26 × T134 → Option (T26 × T134) := fun ⟨x2v, e0v⟩ =>
  M.a1l (⟨e0v.s, e0v.at_, wr .i64 (e0v.deep + 1), e0v.bad⟩ : T134) >>= fun y13 =>
  M.a2m (⟨y13.2.s, y13.2.at_, wr .i64 (y13.2.deep - 1), y13.2.bad⟩ : T134) 41 >>= fun y17 =>
  some (y13.1, y17)
  partial_fixpoint
def M.a2r : T26 × (List T26) × T134 → Option (T26 × T134) := fun ⟨x2v, x3, e0v⟩ =>
  M.a0 e0v 124 >>= fun y13 =>
  if y13.1 = true then
  M.a2n y13.2 >>= fun y16 =>
  if ((x3 ++ [y16.1]).length : Int) ≤ 1099511627776 then
  M.a2r (x2v, (x3 ++ [y16.1]), y16.2)
  else none
  else
  M.a48 3 x3 >>= fun y30 =>
  some (y30, y13.2)
  partial_fixpoint
end
def M.a7a : T26 × T134 × T26 × Bool → Option (T26 × Int × Int) := fun ⟨x2v, x5v, x6v, x40⟩ =>
  if x40 = true then
  some (x5v.bad) >>= fun v48 =>
  (match v48 with
  | none =>
  none
  | some y43 =>
  some ((⟨0, [0, 0, 0, 0], ([] : List T26), 0, 0⟩ : T26), y43.at_, 100))
  else
  some (x6v, 0, 0)
def M.a7b : T26 × T134 × T26 → Option (T26 × Int × Int) := fun ⟨x2v, x5v, x6v⟩ =>
  some (x5v.bad) >>= fun v40 =>
  (match v40 with
  | none =>
  M.a7a (x2v, (⟨x5v.s, x5v.at_, x5v.deep, none⟩ : T134), x6v, false)
  | some y31 =>
  M.a7a (x2v, (⟨x5v.s, x5v.at_, x5v.deep, (some y31)⟩ : T134), x6v, true))
def M.a4c : T26 × T134 × T26 × Bool → Option (T26 × Int × Int) := fun ⟨x2v, x5v, x6v, x29⟩ =>
  if x29 = true then
  M.a1 x5v x5v.at_ >>= fun y24 =>
  M.a7b (x2v, y24.2, x6v)
  else
  M.a7b (x2v, x5v, x6v)
def M.a5e (x0 : ByteArray) : Option (T26 × Int × Int) :=
  if (x0.size : Int) > 256 then
  some ((⟨0, [0, 0, 0, 0], ([] : List T26), 0, 0⟩ : T26), 0, 3)
  else
  M.a1l (⟨x0, 0, 0, none⟩ : T134) >>= fun y6 =>
  some (y6.2.bad) >>= fun v22 =>
  (match v22 with
  | none =>
  M.a4c ((⟨0, [0, 0, 0, 0], ([] : List T26), 0, 0⟩ : T26), (⟨y6.2.s, y6.2.at_, y6.2.deep, none⟩ : T134), y6.1, decide (y6.2.at_ < (x0.size : Int)))
  | some y11 =>
  M.a4c ((⟨0, [0, 0, 0, 0], ([] : List T26), 0, 0⟩ : T26), (⟨y6.2.s, y6.2.at_, y6.2.deep, (some y11)⟩ : T134), y6.1, false))
mutual
def M.a1n : T26 × Int × Int → Option (Bool × Int) := fun ⟨x0, x1, x2v_0⟩ =>
  if x1 = 0 then
  M.a2s (x1, x0, true, wr .i64 (x2v_0 + 1))
  else
  M.a2s (x1, x0, decide (wr .i64 (x2v_0 + 1) > 4096), wr .i64 (x2v_0 + 1))
  partial_fixpoint
def M.a2s : Int × T26 × Bool × Int → Option (Bool × Int) := fun ⟨x1, x3v, x21, e0v_0⟩ =>
  if x21 = true then
  some (false, e0v_0)
  else
  M.a2t (x1, x3v.L, (x3v.L.length : Int), 0, e0v_0)
  partial_fixpoint
def M.a2t : Int × (List T26) × Int × Int × Int → Option (Bool × Int) := fun ⟨x1, x23, x24, x25, e0v_0⟩ =>
  if x25 < x24 then
  if 0 ≤ x25 then
  if x25 < (x23.length : Int) then
  M.a1n ((⟨(gi x23 x25).Kind, ((gi x23 x25).Set), (gi x23 x25).L, (gi x23 x25).Min, (gi x23 x25).Max⟩ : T26), wr .i64 (x1 - 1), e0v_0) >>= fun y21 =>
  if y21.1 = true then
  M.a2t (x1, x23, x24, wr .i64 (x25 + 1), y21.2)
  else
  some (false, y21.2)
  else none
  else none
  else
  some (true, e0v_0)
  partial_fixpoint
end
def M.a6h : T26 × (List Int) × Bool × Bool → Option Bool := fun ⟨x1v, x3v_0, x5, x6⟩ =>
  if (x1v.L.length : Int) = 1 then
  if x1v.Set = x3v_0 then
  if x5 = true then
  some x6
  else
  some false
  else
  some false
  else
  some false
def M.a7c : T26 × (List Int) × Bool → Option Bool := fun ⟨x1v, x3v_0, x5⟩ =>
  if x1v.Max = (-1) then
  M.a6h (x1v, x3v_0, x5, true)
  else
  if x1v.Max ≥ x1v.Min then
  M.a6h (x1v, x3v_0, x5, decide (x1v.Max ≤ 64))
  else
  M.a6h (x1v, x3v_0, x5, false)
def M.a7d : T26 × (List Int) × Bool × Int × Bool → Option Bool := fun ⟨x1v, x3v_0, x4, x16, x26⟩ =>
  if x26 = true then
  if x1v.Set = x3v_0 then
  some x4
  else
  some false
  else
  if x16 = 4 then
  if x1v.Min ≥ 0 then
  M.a7c (x1v, x3v_0, decide (x1v.Min ≤ 64))
  else
  M.a7c (x1v, x3v_0, false)
  else
  some false
def M.a7e : T26 × (List Int) × Bool → Option Bool := fun ⟨x1v, x3v_0, x4⟩ =>
  if x1v.Kind = 1 then
  if (x1v.L.length : Int) = 0 then
  some x4
  else
  some false
  else
  if x1v.Kind = 2 then
  M.a7d (x1v, x3v_0, x4, x1v.Kind, true)
  else
  M.a7d (x1v, x3v_0, x4, x1v.Kind, decide (x1v.Kind = 3))
def M.a6n (x0 : T26) : Option Bool :=
  if x0.Min = 0 then
  M.a7e (x0, [0, 0, 0, 0], decide (x0.Max = 0))
  else
  M.a7e (x0, [0, 0, 0, 0], false)
mutual
def M.a1o : T26 → Option Bool := fun x0 =>
  M.a2u (x0, x0.L, (x0.L.length : Int), 0)
  partial_fixpoint
def M.a2u : T26 × (List T26) × Int × Int → Option Bool := fun ⟨x1v, x6, x7, x8⟩ =>
  if x8 < x7 then
  if 0 ≤ x8 then
  if x8 < (x6.length : Int) then
  M.a1o (⟨(gi x6 x8).Kind, ((gi x6 x8).Set), (gi x6 x8).L, (gi x6 x8).Min, (gi x6 x8).Max⟩ : T26) >>= fun y18 =>
  if y18 = true then
  M.a2u (x1v, x6, x7, wr .i64 (x8 + 1))
  else
  some false
  else none
  else none
  else
  M.a6n x1v >>= fun y21 =>
  some y21
  partial_fixpoint
end
def M.a5f (x0 : T26) : Option Int :=
  M.a1n (x0, 128, 0) >>= fun y5 =>
  if y5.1 = true then
  M.a1o x0 >>= fun y8 =>
  if y8 = true then
  some y5.2
  else
  some 0
  else
  some 0
def M.a5g (x0 : T26) : Option Bool :=
  M.a5f x0 >>= fun y3 =>
  some (decide (y3 > 0))
def M.a5h (x0 : List Int) (x1 : Int) : Option Bool :=
  if 0 ≤ iquo .u8 x1 64 then
  if iquo .u8 x1 64 < 4 then
  if 0 ≤ irem .u8 x1 64 then
  some (decide (iand .u64 (ishr .u64 (gi x0 (iquo .u8 x1 64)) (irem .u8 x1 64)) 1 = 1))
  else none
  else none
  else none
def M.a3 : Option T218 :=
  some (⟨([] : List ByteArray), false⟩ : T218)
mutual
def M.a1p : (List Int) × T218 × (List ByteArray) × Int → Option T218 := fun ⟨x1, x2v, x3, x5⟩ =>
  if x5 < 256 then
  M.a5h x1 (wr .u8 x5) >>= fun y12 =>
  if y12 = true then
  if ((x3 ++ [b2s [wr .u8 x5]]).length : Int) ≤ 1099511627776 then
  M.a2v (x1, x2v, (x3 ++ [b2s [wr .u8 x5]]), x5)
  else none
  else
  M.a2v (x1, x2v, x3, x5)
  else
  if (x3.length : Int) > 8 then
  M.a3 >>= fun y35 =>
  some y35
  else
  some (⟨x3, true⟩ : T218)
  partial_fixpoint
def M.a2v : (List Int) × T218 × (List ByteArray) × Int → Option T218 := fun ⟨x1, x2v, x3, x5⟩ =>
  M.a1p (x1, x2v, x3, wr .i64 (x5 + 1))
  partial_fixpoint
end
def M.a5i (x0 : List Int) : Option T218 :=
  M.a1p (x0, (⟨([] : List ByteArray), false⟩ : T218), ([] : List ByteArray), 0)
def M.a2w (x0 : List ByteArray) : Option T218 :=
  if (x0.length : Int) ≤ 1099511627776 then
  if ((cmpL (srtS x0)).length : Int) > 32 then
  M.a3 >>= fun y10 =>
  some y10
  else
  some (⟨(cmpL (srtS x0)), true⟩ : T218)
  else none
mutual
def M.a1q : T218 × T218 × (List ByteArray) × (List ByteArray) × Int × Int → Option T218 := fun ⟨x3v, x4v, x5, x20, x21, x22⟩ =>
  if x22 < x21 then
  if 0 ≤ x22 then
  if x22 < (x20.length : Int) then
  M.a2x (x3v, x4v, x5, gi x20 x22, x20, x21, x22, x3v.l, (x3v.l.length : Int), 0)
  else none
  else none
  else
  M.a2w x5 >>= fun y32 =>
  some y32
  partial_fixpoint
def M.a2x : T218 × T218 × (List ByteArray) × ByteArray × (List ByteArray) × Int × Int × (List ByteArray) × Int × Int → Option T218 := fun ⟨x3v, x4v, x5, x7, x20, x21, x22, x27, x28, x29⟩ =>
  if x29 < x28 then
  if 0 ≤ x29 then
  if x29 < (x27.length : Int) then
  if wr .i64 ((x7.size : Int) + ((gi x27 x29).size : Int)) > 32 then
  M.a3 >>= fun y41 =>
  some y41
  else
  if (x7.size : Int) + ((gi x27 x29).size : Int) ≤ 1099511627776 then
  if ((x5 ++ [x7 ++ (gi x27 x29)]).length : Int) ≤ 1099511627776 then
  M.a2x (x3v, x4v, (x5 ++ [x7 ++ (gi x27 x29)]), x7, x20, x21, x22, x27, x28, wr .i64 (x29 + 1))
  else none
  else none
  else none
  else none
  else
  M.a1q (x3v, x4v, x5, x20, x21, wr .i64 (x22 + 1))
  partial_fixpoint
end
def M.a4d : T218 × T218 × T218 × Bool → Option T218 := fun ⟨x2v, x3v, x4v, x17⟩ =>
  if x17 = true then
  M.a3 >>= fun y15 =>
  some y15
  else
  M.a1q (x3v, x4v, ([] : List ByteArray), x2v.l, (x2v.l.length : Int), 0)
def M.a4e (x0 : T218) (x1 : T218) : Option T218 :=
  if x0.known = true then
  M.a4d ((⟨x0.l, true⟩ : T218), x1, (⟨([] : List ByteArray), false⟩ : T218), !x1.known)
  else
  M.a4d ((⟨x0.l, false⟩ : T218), x1, (⟨([] : List ByteArray), false⟩ : T218), true)
def M.a5j : Option T218 :=
  if (0 : Int) ≤ 1099511627776 then
  if ((cmpL (srtS ([] : List ByteArray))).length : Int) > 32 then
  M.a3 >>= fun y10 =>
  some y10
  else
  some (⟨(cmpL (srtS ([] : List ByteArray))), true⟩ : T218)
  else none
def M.a7i : Int → Option (List ByteArray) := fun x1 =>
  if wr .i64 (x1 - 0) > 0 then
  if 0 ≤ wr .i64 (x1 - 0) then
  if (0 : Int) + (wr .i64 (x1 - 0)) ≤ 1099511627776 then
  some (([] : List ByteArray) ++ List.replicate (wr .i64 (x1 - 0) : Int).toNat ((⟨#[]⟩ : ByteArray) : ByteArray)) >>= fun v9 =>
  some (sl v9 0 0)
  else none
  else none
  else
  some ([] : List ByteArray)
def M.a6o (x1 : Int) : Option (List ByteArray) :=
  if x1 < 0 then
  none
  else
  M.a7i x1
def M.a2y : (List ByteArray) × (List (List ByteArray)) × Int × Int → Option (List ByteArray) := fun ⟨x6, x25, x26, x27⟩ =>
  if x27 < x26 then
  if 0 ≤ x27 then
  if x27 < (x25.length : Int) then
  if ((x6 ++ gi x25 x27).length : Int) ≤ 1099511627776 then
  M.a2y ((x6 ++ gi x25 x27), x25, x26, wr .i64 (x27 + 1))
  else none
  else none
  else none
  else
  some x6
  partial_fixpoint
mutual
def M.a1r : (List (List ByteArray)) × Int × (List (List ByteArray)) × Int × Int → Option (List ByteArray) := fun ⟨x0, x3, x9, x10, x11⟩ =>
  if x11 < x10 then
  if 0 ≤ x11 then
  if x11 < (x9.length : Int) then
  if wr .i64 (x3 + ((gi x9 x11).length : Int)) < 0 then
  none
  else
  M.a4f (x0, wr .i64 (x3 + ((gi x9 x11).length : Int)), x9, x10, x11)
  else none
  else none
  else
  M.a6o x3 >>= fun y11 =>
  M.a2y (y11, x0, (x0.length : Int), 0)
  partial_fixpoint
def M.a4f : (List (List ByteArray)) × Int × (List (List ByteArray)) × Int × Int → Option (List ByteArray) := fun ⟨x0, x3, x9, x10, x11⟩ =>
  M.a1r (x0, x3, x9, x10, wr .i64 (x11 + 1))
  partial_fixpoint
end
def M.a5k (x0 : List (List ByteArray)) : Option (List ByteArray) :=
  M.a1r (x0, 0, x0, (x0.length : Int), 0)
def M.a7j (x0 : Int) (x1 : Int) : Option (Int × Int) :=
  some (wr .u64 ((wr .u64 ((wr .u64 ((ishr .u64 x0 32) * (ishr .u64 x1 32))) + (ishr .u64 (wr .u64 ((wr .u64 ((ishr .u64 x0 32) * (iand .u64 x1 4294967295))) + (ishr .u64 (wr .u64 ((iand .u64 x0 4294967295) * (iand .u64 x1 4294967295))) 32))) 32))) + (ishr .u64 (wr .u64 ((iand .u64 (wr .u64 ((wr .u64 ((ishr .u64 x0 32) * (iand .u64 x1 4294967295))) + (ishr .u64 (wr .u64 ((iand .u64 x0 4294967295) * (iand .u64 x1 4294967295))) 32))) 4294967295) + (wr .u64 ((iand .u64 x0 4294967295) * (ishr .u64 x1 32))))) 32)), wr .u64 (x0 * x1))
def M.a6p (x0 : Int) (x1 : Int) : Option (Int × Int) :=
  M.a7j x0 x1 >>= fun y1 =>
  some (y1.1, y1.2)
def M.a2z : (List T26) × Int → Option (List T26) := fun ⟨x7, x8⟩ =>
  if x8 < (x7.length : Int) then
  if 0 ≤ x8 then
  if x8 ≤ (x7.length : Int) then
  some (cpy x7 ((x8 : Int).toNat) (((x7.length : Int) : Int).toNat - (x8 : Int).toNat) (sl x7 0 x8)) >>= fun v27 =>
  M.a2z (v27, wr .i64 (x8 + ((min ((x8 : Int).toNat - (0 : Int).toNat) (((x7.length : Int) : Int).toNat - (x8 : Int).toNat) : Nat) : Int)))
  else none
  else none
  else
  some x7
  partial_fixpoint
def M.a5l : (List T26) × Int → Option (List T26) := fun ⟨x0, x6⟩ =>
  if 0 ≤ wr .i64 x6 then
  if wr .i64 x6 ≤ 1099511627776 then
  some (List.replicate (wr .i64 x6 : Int).toNat (⟨0, [0, 0, 0, 0], ([] : List T26), 0, 0⟩ : T26)) >>= fun v8 =>
  M.a2z ((cpy v8 0 v8.length x0), ((min x0.length v8.length : Nat) : Int))
  else none
  else none
def M.a4g : (List T26) × Int × Bool → Option (List T26) := fun ⟨x0, x6, x26⟩ =>
  if x26 = true then
  none
  else
  M.a5l (x0, x6)
def M.a5m : (List T26) × Int → Option (List T26) := fun ⟨x0, x1⟩ =>
  M.a6p (wr .u64 (x0.length : Int)) (wr .u64 x1) >>= fun y2 =>
  if y2.1 > 0 then
  M.a4g (x0, y2.2, true)
  else
  M.a4g (x0, y2.2, decide (y2.2 > 9223372036854775807))
def M.a5n (x0 : List T26) (x1 : Int) : Option (List T26) :=
  if x1 < 0 then
  none
  else
  M.a5m (x0, x1)
mutual
def M.a9 : T26 → Option T218 := fun x0 =>
  if x0.Kind = 1 then
  M.a5i x0.Set >>= fun y6 =>
  some y6
  else
  if x0.Kind = 2 then
  M.a30 x0.L >>= fun y9 =>
  some y9
  else
  if x0.Kind = 3 then
  M.a5j >>= fun y12 =>
  M.a32 ((⟨([] : List ByteArray), false⟩ : T218), y12, x0.L, (x0.L.length : Int), 0)
  else
  if x0.Min = x0.Max then
  M.a5n x0.L x0.Min >>= fun y21 =>
  M.a30 y21 >>= fun y25 =>
  some y25
  else
  M.a3 >>= fun y27 =>
  some y27
  partial_fixpoint
def M.a30 : (List T26) → Option T218 := fun x0 =>
  M.a2w [(⟨#[]⟩ : ByteArray)] >>= fun y6 =>
  M.a31 ((⟨([] : List ByteArray), false⟩ : T218), y6, x0, (x0.length : Int), 0)
  partial_fixpoint
def M.a31 : T218 × T218 × (List T26) × Int × Int → Option T218 := fun ⟨x2v, x3v, x8, x9, x10⟩ =>
  if x10 < x9 then
  if 0 ≤ x10 then
  if x10 < (x8.length : Int) then
  M.a9 (⟨(gi x8 x10).Kind, ((gi x8 x10).Set), (gi x8 x10).L, (gi x8 x10).Min, (gi x8 x10).Max⟩ : T26) >>= fun y28 =>
  M.a4e x3v y28 >>= fun y30 =>
  if y30.known = true then
  M.a31 (x2v, (⟨y30.l, true⟩ : T218), x8, x9, wr .i64 (x10 + 1))
  else
  some (⟨y30.l, false⟩ : T218)
  else none
  else none
  else
  some x3v
  partial_fixpoint
def M.a32 : T218 × T218 × (List T26) × Int × Int → Option T218 := fun ⟨x2v, x3v, x23, x24, x25⟩ =>
  if x25 < x24 then
  if 0 ≤ x25 then
  if x25 < (x23.length : Int) then
  M.a9 (⟨(gi x23 x25).Kind, ((gi x23 x25).Set), (gi x23 x25).L, (gi x23 x25).Min, (gi x23 x25).Max⟩ : T26) >>= fun y43 =>
  if y43.known = true then
  M.a33 (x2v, x3v, (⟨y43.l, true⟩ : T218), x23, x24, x25, !x3v.known)
  else
  M.a33 (x2v, x3v, (⟨y43.l, false⟩ : T218), x23, x24, x25, true)
  else none
  else none
  else
  some x3v
  partial_fixpoint
def M.a33 : T218 × T218 × T218 × (List T26) × Int × Int × Bool → Option T218 := fun ⟨x2v, x3v, x6v, x23, x24, x25, x38⟩ =>
  if x38 = true then
  M.a3 >>= fun y53 =>
  some y53
  else
  M.a5k [x3v.l, x6v.l] >>= fun y59 =>
  M.a2w y59 >>= fun y62 =>
  M.a32 (x2v, y62, x23, x24, wr .i64 (x25 + 1))
  partial_fixpoint
end
def M.a6q (x0 : Int) : Option (Int × Int) :=
  if x0 = 4 then
  some (1, 0)
  else
  some (0, 1)
mutual
def M.a1s : T29 × T29 → Option Bool := fun ⟨x0, x1⟩ =>
  if x0.Op = x1.Op then
  if (x0.Text.toList == x1.Text.toList) = true then
  M.a4h (x0.L, x1.L) >>= fun y7 =>
  some y7
  else
  some false
  else
  some false
  partial_fixpoint
def M.a4h : (List T29) × (List T29) → Option Bool := fun ⟨x0, x1⟩ =>
  if (x0.length : Int) = (x1.length : Int) then
  M.a34 (x1, x0, (x0.length : Int), 0)
  else
  some false
  partial_fixpoint
def M.a34 : (List T29) × (List T29) × Int × Int → Option Bool := fun ⟨x1, x15, x16, x17⟩ =>
  if x17 < x16 then
  if 0 ≤ x17 then
  if x17 < (x15.length : Int) then
  if x17 < (x1.length : Int) then
  M.a1s (gi x15 x17, gi x1 x17) >>= fun y24 =>
  if y24 = true then
  M.a34 (x1, x15, x16, wr .i64 (x17 + 1))
  else
  some false
  else none
  else none
  else none
  else
  some true
  partial_fixpoint
end
def M.a5o (x0 : T29) (x2v : T29) : Option Bool :=
  M.a1s (x2v, x0) >>= fun y5 =>
  some y5
def M.a35 : (List T29) × Int × Int × T29 → Option Int := fun ⟨x0, x7, x8, x1b1v⟩ =>
  if x8 < x7 then
  if 0 ≤ x8 then
  if x8 < (x0.length : Int) then
  M.a5o (gi x0 x8) x1b1v >>= fun y13 =>
  if y13 = true then
  some x8
  else
  M.a35 (x0, x7, wr .i64 (x8 + 1), x1b1v)
  else none
  else none
  else
  some (-1)
  partial_fixpoint
def M.a5p (x0 : List T29) (x1b1v : T29) : Option Int :=
  M.a35 (x0, (x0.length : Int), 0, x1b1v)
def M.a5q (x0 : List T29) (x1b1v : T29) : Option Bool :=
  M.a5p x0 x1b1v >>= fun y3 =>
  some (decide (y3 ≥ 0))
mutual
def M.a1t : (List T29) × (List T29) × Int × Int → Option (List T29) := fun ⟨x5, x8, x9, x10⟩ =>
  if x10 < x9 then
  if 0 ≤ x10 then
  if x10 < (x8.length : Int) then
  M.a5q x5 (gi x8 x10) >>= fun y19 =>
  if y19 = true then
  M.a36 (x5, x8, x9, x10)
  else
  if ((x5 ++ [gi x8 x10]).length : Int) ≤ 1099511627776 then
  M.a36 ((x5 ++ [gi x8 x10]), x8, x9, x10)
  else none
  else none
  else none
  else
  some x5
  partial_fixpoint
def M.a36 : (List T29) × (List T29) × Int × Int → Option (List T29) := fun ⟨x5, x8, x9, x10⟩ =>
  M.a1t (x5, x8, x9, wr .i64 (x10 + 1))
  partial_fixpoint
end
def M.a5r (x0 : List T29) : Option (List T29) :=
  M.a1t (([] : List T29), x0, (x0.length : Int), 0)
mutual
def M.a1u : Int × T29 × Int × Int × (List T29) × (List T29) × Int × Int → Option T29 := fun ⟨x0, x4v, x5, x6, x7, x15, x16, x17⟩ =>
  if x17 < x16 then
  if 0 ≤ x17 then
  if x17 < (x15.length : Int) then
  if (gi x15 x17).Op = x0 then
  if ((x7 ++ (gi x15 x17).L).length : Int) ≤ 1099511627776 then
  M.a1v (x0, x4v, x5, x6, (x7 ++ (gi x15 x17).L), x15, x16, x17)
  else none
  else
  if (gi x15 x17).Op = x6 then
  some (⟨x6, (⟨#[]⟩ : ByteArray), ([] : List T29)⟩ : T29)
  else
  if (gi x15 x17).Op = x5 then
  M.a1v (x0, x4v, x5, x6, x7, x15, x16, x17)
  else
  if ((x7 ++ [gi x15 x17]).length : Int) ≤ 1099511627776 then
  M.a1v (x0, x4v, x5, x6, (x7 ++ [gi x15 x17]), x15, x16, x17)
  else none
  else none
  else none
  else
  M.a5r x7 >>= fun y48 =>
  if (y48.length : Int) = 0 then
  some (⟨x5, (⟨#[]⟩ : ByteArray), ([] : List T29)⟩ : T29)
  else
  if (y48.length : Int) = 1 then
  if 0 < (y48.length : Int) then
  some (gi y48 0)
  else none
  else
  some (⟨x0, (⟨#[]⟩ : ByteArray), y48⟩ : T29)
  partial_fixpoint
def M.a1v : Int × T29 × Int × Int × (List T29) × (List T29) × Int × Int → Option T29 := fun ⟨x0, x4v, x5, x6, x7, x15, x16, x17⟩ =>
  M.a1u (x0, x4v, x5, x6, x7, x15, x16, wr .i64 (x17 + 1))
  partial_fixpoint
end
def M.az (x0 : Int) (x1 : List T29) : Option T29 :=
  M.a6q x0 >>= fun y3 =>
  M.a1u (x0, (⟨0, (⟨#[]⟩ : ByteArray), ([] : List T29)⟩ : T29), y3.1, y3.2, ([] : List T29), x1, (x1.length : Int), 0)
mutual
def M.a10 : T29 × (List T29) × (List ByteArray) × Int × Int → Option T29 := fun ⟨x2v, x3, x10, x11, x12⟩ =>
  if x12 < x11 then
  if 0 ≤ x12 then
  if x12 < (x10.length : Int) then
  M.a1g (gi x10 x12) >>= fun y16 =>
  M.a4i (x2v, x3, x10, x11, x12, y16, (y16.length : Int), 0)
  else none
  else none
  else
  M.az 4 x3 >>= fun y24 =>
  some y24
  partial_fixpoint
def M.a4i : T29 × (List T29) × (List ByteArray) × Int × Int × (List ByteArray) × Int × Int → Option T29 := fun ⟨x2v, x3, x10, x11, x12, x17, x18, x19⟩ =>
  if x19 < x18 then
  if 0 ≤ x19 then
  if x19 < (x17.length : Int) then
  if ([(⟨2, gi x17 x19, ([] : List T29)⟩ : T29)].length : Int) ≤ 1099511627776 then
  M.a37 (x2v, x3, [(⟨2, gi x17 x19, ([] : List T29)⟩ : T29)], x10, x11, x12, x17, x18, wr .i64 (x19 + 1))
  else none
  else none
  else none
  else
  M.az 3 ([] : List T29) >>= fun y50 =>
  if ((x3 ++ [y50]).length : Int) ≤ 1099511627776 then
  M.a10 (x2v, (x3 ++ [y50]), x10, x11, wr .i64 (x12 + 1))
  else none
  partial_fixpoint
def M.a37 : T29 × (List T29) × (List T29) × (List ByteArray) × Int × Int × (List ByteArray) × Int × Int → Option T29 := fun ⟨x2v, x3, x6, x10, x11, x12, x17, x18, x19⟩ =>
  if x19 < x18 then
  if 0 ≤ x19 then
  if x19 < (x17.length : Int) then
  some (x6 ++ [(⟨2, gi x17 x19, ([] : List T29)⟩ : T29)]) >>= fun v76 =>
  if (v76.length : Int) ≤ 1099511627776 then
  M.a37 (x2v, x3, v76, x10, x11, x12, x17, x18, wr .i64 (x19 + 1))
  else none
  else none
  else none
  else
  M.az 3 x6 >>= fun y84 =>
  if ((x3 ++ [y84]).length : Int) ≤ 1099511627776 then
  M.a10 (x2v, (x3 ++ [y84]), x10, x11, wr .i64 (x12 + 1))
  else none
  partial_fixpoint
end
def M.a4j (x0 : T218) : Option T29 :=
  M.a10 ((⟨0, (⟨#[]⟩ : ByteArray), ([] : List T29)⟩ : T29), ([] : List T29), x0.l, (x0.l.length : Int), 0)
mutual
def M.a1w : (List T26) × T218 × T218 × Int → Option (T218 × Int) := fun ⟨x0, x2v, x4v, x5⟩ =>
  if x4v.known = true then
  M.a38 (x0, x2v, (⟨x4v.l, true⟩ : T218), x5, decide (x5 < (x0.length : Int)))
  else
  M.a38 (x0, x2v, (⟨x4v.l, false⟩ : T218), x5, false)
  partial_fixpoint
def M.a38 : (List T26) × T218 × T218 × Int × Bool → Option (T218 × Int) := fun ⟨x0, x2v, x4v, x5, x18⟩ =>
  if x18 = true then
  if 0 ≤ x5 then
  if x5 < (x0.length : Int) then
  M.a9 (⟨(gi x0 x5).Kind, ((gi x0 x5).Set), (gi x0 x5).L, (gi x0 x5).Min, (gi x0 x5).Max⟩ : T26) >>= fun y37 =>
  M.a4e x4v y37 >>= fun y39 =>
  M.a4k (x0, x2v, x4v, x5, y39)
  else none
  else none
  else
  some (x4v, x5)
  partial_fixpoint
def M.a4k : (List T26) × T218 × T218 × Int × T218 → Option (T218 × Int) := fun ⟨x0, x2v, x4v, x5, x6v⟩ =>
  if x6v.known = true then
  M.a1w (x0, x2v, (⟨x6v.l, true⟩ : T218), wr .i64 (x5 + 1))
  else
  some (x4v, x5)
  partial_fixpoint
end
def M.a5s (x0 : List T26) : Option (T218 × Int) :=
  if 0 < (x0.length : Int) then
  M.a9 (⟨(gi x0 0).Kind, ((gi x0 0).Set), (gi x0 0).L, (gi x0 0).Min, (gi x0 0).Max⟩ : T26) >>= fun y13 =>
  M.a1w (x0, (⟨([] : List ByteArray), false⟩ : T218), y13, 1)
  else none
mutual
def M.aj : T26 → Option T29 := fun x0 =>
  M.a9 x0 >>= fun y5 =>
  if y5.known = true then
  M.a4j (⟨y5.l, true⟩ : T218) >>= fun y10 =>
  some y10
  else
  if x0.Kind = 2 then
  M.a4l x0.L >>= fun y13 =>
  some y13
  else
  if x0.Kind = 3 then
  M.a3b ((⟨0, (⟨#[]⟩ : ByteArray), ([] : List T29)⟩ : T29), ([] : List T29), x0.L, (x0.L.length : Int), 0)
  else
  if x0.Kind = 4 then
  if x0.Min > 0 then
  if 0 < (x0.L.length : Int) then
  M.aj (⟨(gi x0.L 0).Kind, ((gi x0.L 0).Set), (gi x0.L 0).L, (gi x0.L 0).Min, (gi x0.L 0).Max⟩ : T26) >>= fun y33 =>
  some y33
  else none
  else
  some (⟨0, (⟨#[]⟩ : ByteArray), ([] : List T29)⟩ : T29)
  else
  some (⟨0, (⟨#[]⟩ : ByteArray), ([] : List T29)⟩ : T29)
  partial_fixpoint
def M.a4l : (List T26) → Option T29 := fun x0 =>
  M.a39 (x0, (⟨0, (⟨#[]⟩ : ByteArray), ([] : List T29)⟩ : T29), ([] : List T29))
  partial_fixpoint
def M.a39 : (List T26) × T29 × (List T29) → Option T29 := fun ⟨x0, x2v, x3⟩ =>
  if (x0.length : Int) > 0 then
  M.a5s x0 >>= fun y9 =>
  if y9.1.known = true then
  M.a4j (⟨y9.1.l, true⟩ : T218) >>= fun y14 =>
  if ((x3 ++ [y14]).length : Int) ≤ 1099511627776 then
  M.a3a (x0, x2v, (x3 ++ [y14]), y9.2)
  else none
  else
  if 0 < (x0.length : Int) then
  M.aj (⟨(gi x0 0).Kind, ((gi x0 0).Set), (gi x0 0).L, (gi x0 0).Min, (gi x0 0).Max⟩ : T26) >>= fun y40 =>
  if ((x3 ++ [y40]).length : Int) ≤ 1099511627776 then
  M.a3a (x0, x2v, (x3 ++ [y40]), y9.2)
  else none
  else none
  else
  M.az 3 x3 >>= fun y54 =>
  some y54
  partial_fixpoint
def M.a3a : (List T26) × T29 × (List T29) × Int → Option T29 := fun ⟨x0, x2v, x3, x5⟩ =>
  if 0 ≤ x5 then
  if x5 ≤ (x0.length : Int) then
  M.a39 ((sl x0 x5 (x0.length : Int)), x2v, x3)
  else none
  else none
  partial_fixpoint
def M.a3b : T29 × (List T29) × (List T26) × Int × Int → Option T29 := fun ⟨x2v, x4, x23, x24, x25⟩ =>
  if x25 < x24 then
  if 0 ≤ x25 then
  if x25 < (x23.length : Int) then
  M.aj (⟨(gi x23 x25).Kind, ((gi x23 x25).Set), (gi x23 x25).L, (gi x23 x25).Min, (gi x23 x25).Max⟩ : T26) >>= fun y49 =>
  if ((x4 ++ [y49]).length : Int) ≤ 1099511627776 then
  M.a3b (x2v, (x4 ++ [y49]), x23, x24, wr .i64 (x25 + 1))
  else none
  else none
  else none
  else
  M.az 4 x4 >>= fun y63 =>
  some y63
  partial_fixpoint
end
def M.a5t (x0 : T26) : Option (T29 × Int) :=
  M.a5g x0 >>= fun y5 =>
  if y5 = true then
  M.aj x0 >>= fun y8 =>
  some (y8, 0)
  else
  some ((⟨0, (⟨#[]⟩ : ByteArray), ([] : List T29)⟩ : T29), 2)
mutual
def M.a1x : T29 → Option ByteArray := fun x0 =>
  M.au x0 >>= fun y3 =>
  if y3 = 0 then
  M.a3c (x0, ([] : List ByteArray), x0.L, (x0.L.length : Int), 0)
  else
  some (⟨#[]⟩ : ByteArray)
  partial_fixpoint
def M.a3c : T29 × (List ByteArray) × (List T29) × Int × Int → Option ByteArray := fun ⟨x1v, x3, x11, x12, x13⟩ =>
  if x13 < x12 then
  if 0 ≤ x13 then
  if x13 < (x11.length : Int) then
  M.a1x (gi x11 x13) >>= fun y21 =>
  if ((x3 ++ [y21]).length : Int) ≤ 1099511627776 then
  M.a3c (x1v, (x3 ++ [y21]), x11, x12, wr .i64 (x13 + 1))
  else none
  else none
  else none
  else
  if (x3.length : Int) ≤ 140737488355328 then
  if ((joinB x3 (⟨#[32]⟩ : ByteArray)).size : Int) ≤ 140737488355328 then
  if x1v.Op = 1 then
  some (⟨#[45]⟩ : ByteArray)
  else
  if x1v.Op = 2 then
  if ((⟨#[124]⟩ : ByteArray).size : Int) + (x1v.Text.size : Int) ≤ 1099511627776 then
  if (((⟨#[124]⟩ : ByteArray) ++ x1v.Text).size : Int) + ((⟨#[124]⟩ : ByteArray).size : Int) ≤ 1099511627776 then
  some (((⟨#[124]⟩ : ByteArray) ++ x1v.Text) ++ (⟨#[124]⟩ : ByteArray)) >>= fun v41 =>
  some v41
  else none
  else none
  else
  if x1v.Op = 3 then
  if ((⟨#[40]⟩ : ByteArray).size : Int) + ((joinB x3 (⟨#[32]⟩ : ByteArray)).size : Int) ≤ 1099511627776 then
  some ((⟨#[40]⟩ : ByteArray) ++ (joinB x3 (⟨#[32]⟩ : ByteArray))) >>= fun v45 =>
  if (v45.size : Int) + ((⟨#[41]⟩ : ByteArray).size : Int) ≤ 1099511627776 then
  some (v45 ++ (⟨#[41]⟩ : ByteArray))
  else none
  else none
  else
  if x1v.Op = 4 then
  if ((⟨#[91]⟩ : ByteArray).size : Int) + ((joinB x3 (⟨#[32]⟩ : ByteArray)).size : Int) ≤ 1099511627776 then
  some ((⟨#[91]⟩ : ByteArray) ++ (joinB x3 (⟨#[32]⟩ : ByteArray))) >>= fun v50 =>
  if (v50.size : Int) + ((⟨#[93]⟩ : ByteArray).size : Int) ≤ 1099511627776 then
  some (v50 ++ (⟨#[93]⟩ : ByteArray))
  else none
  else none
  else
  some (⟨#[42]⟩ : ByteArray)
  else none
  else none
  partial_fixpoint
end
def M.a3d (x0 : ByteArray) : Option ByteArray :=
  M.a5e x0 >>= fun y1 =>
  M.a5t y1.1 >>= fun y5 =>
  M.a1x y5.1 >>= fun y9 =>
  some y9
def M.a11 : Option Bool :=
  M.a3d (⟨#[97, 98, 99, 100, 124, 120, 121, 122]⟩ : ByteArray) >>= fun y1 =>
  if (y1.toList == (⟨#[91, 40, 124, 97, 98, 99, 124, 32, 124, 98, 99, 100, 124, 41, 32, 124, 120, 121, 122, 124, 93]⟩ : ByteArray).toList) = true then
  M.a3d (⟨#[97, 98, 42]⟩ : ByteArray) >>= fun y4 =>
  if (y4.toList == (⟨#[42]⟩ : ByteArray).toList) = true then
  M.a3d (⟨#[40, 97, 124, 98, 41, 99, 100, 46, 101, 102, 103]⟩ : ByteArray) >>= fun y7 =>
  some (y7.toList == (⟨#[40, 91, 124, 97, 99, 100, 124, 32, 124, 98, 99, 100, 124, 93, 32, 124, 101, 102, 103, 124, 41]⟩ : ByteArray).toList)
  else
  some false
  else
  some false
def M.a3y : (List Int) × (List Int) × Int × (List (List (ByteArray × (List Int)))) → Option (Bool × (List (List (ByteArray × (List Int))))) := fun ⟨x17, x19, x21, e0⟩ =>
  if x21 < (x17.length : Int) then
  if 0 ≤ x21 then
  if x21 < (x19.length : Int) then
  if gi x17 x21 = gi x19 x21 then
  M.a3y (x17, x19, wr .i64 (x21 + 1), e0)
  else
  some (false, e0)
  else none
  else none
  else
  M.a11 >>= fun y108 =>
  some (y108, e0)
  partial_fixpoint
def M.a6i : (List Int) × (List Int) × Bool × (List (List (ByteArray × (List Int)))) → Option (Bool × (List (List (ByteArray × (List Int))))) := fun ⟨x17, x19, x118, e0⟩ =>
  if x118 = true then
  some (false, e0)
  else
  M.a3y (x17, x19, 0, e0)
mutual
def M.a2e : (List T69) × (List Int) × T29 × Nat × (List T165) × Int × (List (List (ByteArray × (List Int)))) → Option (Bool × (List (List (ByteArray × (List Int))))) := fun ⟨x2, x3, x4v, x14v_0_0, x15v_0, x16, e0⟩ =>
  if x16 < (x2.length : Int) then
  M.a3z (x2, x3, x4v, x14v_0_0, x15v_0, x16, decide (x16 < 30), e0)
  else
  M.a3z (x2, x3, x4v, x14v_0_0, x15v_0, x16, false, e0)
  partial_fixpoint
def M.a3z : (List T69) × (List Int) × T29 × Nat × (List T165) × Int × Bool × (List (List (ByteArray × (List Int)))) → Option (Bool × (List (List (ByteArray × (List Int))))) := fun ⟨x2, x3, x4v, x14v_0_0, x15v_0, x16, x65, e0⟩ =>
  if x65 = true then
  if 0 ≤ x16 then
  if x16 < (x2.length : Int) then
  M.a67 x14v_0_0 ((gi x2 x16).Key) ((gi x2 x16).N) e0 >>= fun y54 =>
  M.a69 x15v_0 ((gi x2 x16).Key) ((gi x2 x16).N) >>= fun y62 =>
  M.a2e (x2, x3, x4v, x14v_0_0, y62, wr .i64 (x16 + 1), y54.2)
  else none
  else none
  else
  if (x3.length : Int) ≤ 1099511627776 then
  M.a6e x4v x14v_0_0 x3 e0 >>= fun y78 =>
  M.aa (x4v, 20) >>= fun y81 =>
  M.a6g y81 x15v_0 x3 >>= fun y85 =>
  if (y78.1.length : Int) = (y85.1.length : Int) then
  M.a6i (y78.1, y85.1, !(decide (y78.2 = y85.2)), e0)
  else
  M.a6i (y78.1, y85.1, true, e0)
  else none
  partial_fixpoint
end
def M.a6j : (List T69) × (List Int) × T29 × Bool × (List (List (ByteArray × (List Int)))) → Option (Bool × (List (List (ByteArray × (List Int))))) := fun ⟨x2, x3, x4v, x54, e0⟩ =>
  if x54 = true then
  some (false, e0)
  else
  M.a6w e0 >>= fun y28 =>
  M.a2e (x2, x3, x4v, y28.1, ([] : List T165), 0, y28.2)
def M.a6k (x0 : T29) (x1 : ByteArray) (x2 : List T69) (x3 : List Int) (pl154 : List (List (ByteArray × (List Int)))) : Option (Bool × (List (List (ByteArray × (List Int))))) :=
  if 0 ≤ imn (x1.size : Int) 60 then
  if imn (x1.size : Int) 60 ≤ (x1.size : Int) then
  if 0 ≤ imn (x3.length : Int) 30 then
  if imn (x3.length : Int) 30 ≤ (x3.length : Int) then
  M.a12 (x0, 9, 60) >>= fun y12 =>
  M.a5y y12.1 (ss x1 0 (imn (x1.size : Int) 60)) >>= fun y16 =>
  M.aa (y12.1, 20) >>= fun y18 =>
  M.a61 y18 (ss x1 0 (imn (x1.size : Int) 60)) >>= fun y22 =>
  if (y16.1 == y22.1) = true then
  M.a6j (x2, (sl x3 0 (imn (x3.length : Int) 30)), y12.1, !(decide (y16.2 = y22.2)), pl154)
  else
  M.a6j (x2, (sl x3 0 (imn (x3.length : Int) 30)), y12.1, true, pl154)
  else none
  else none
  else none
  else none
end Go.Gx
