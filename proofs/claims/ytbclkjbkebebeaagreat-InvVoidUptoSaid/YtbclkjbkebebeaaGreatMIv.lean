import Derived.Test.YtbclkjbkebebeaaGreatGW
set_option linter.unusedVariables false
namespace Go.Gx
structure T55 where
  Name : ByteArray
  Value : ByteArray
  deriving Inhabited
structure T80 where
  series : Option Nat
  ids : Option Nat
  columns : Option Nat
  deriving Inhabited
structure T126 where
  values : Option Nat
  numbers : Option Nat
  texts : Option Nat
  grams : Option Nat
  next : Int
  size : Int
  deriving Inhabited
structure T234 where
  at_ : Option Nat
  deriving Inhabited
structure T236 where
  l : T234
  deriving Inhabited
structure T64 where
  Op : Int
  Text : ByteArray
  L : List T64
instance : Inhabited T64 := ⟨⟨default, default, []⟩⟩
structure Z where
  za : List (List (Int × (List T55)))
  zb : List (List (ByteArray × Int))
  zc : List (List (ByteArray × (Option Nat)))
  zd : List T80
  ze : List (List (ByteArray × (Option Nat)))
  zf : List (List (Int × Bool))
  zg : List (List (Int × ByteArray))
  zh : List T126
  zi : List (List (ByteArray × (List Int)))
  zj : List T236
def Z0 : Z := ⟨[], [], [], [], [], [], [], [], [], []⟩
def M.a4q (pl : Z) : Option (Nat × Z) :=
  some (pl.zd ++ [(⟨(some pl.za.length), (some pl.zb.length), (some pl.zc.length)⟩ : T80)]) >>= fun v13 =>
  some (pl.zd.length, {pl with za := (pl.za ++ [[]]), zb := (pl.zb ++ [[]]), zc := (pl.zc ++ [[]]), zd := v13})
def M.a7 (x0 : Nat) (pl : Z) : Option Bool :=
  some ((gn pl.zd x0).series) >>= fun v19 =>
  (match v19 with
  | none =>
  some false
  | some y16 =>
  some true)
def M.a3p : Int × Bool × Bool → Option Bool := fun ⟨x0, x1, x5⟩ =>
  if x5 = true then
  some true
  else
  if x0 ≥ 48 then
  if x0 ≤ 57 then
  some (!x1)
  else
  some false
  else
  some false
def M.a5q : Int × Bool × Bool → Option Bool := fun ⟨x0, x1, x5⟩ =>
  if x5 = true then
  M.a3p (x0, x1, true)
  else
  if x0 ≥ 65 then
  M.a3p (x0, x1, decide (x0 ≤ 90))
  else
  M.a3p (x0, x1, false)
def M.a5c (x0 : Int) (x1 : Bool) : Option Bool :=
  if x0 = 95 then
  M.a3p (x0, x1, true)
  else
  if x0 ≥ 97 then
  M.a5q (x0, x1, decide (x0 ≤ 122))
  else
  M.a5q (x0, x1, false)
def M.a1y : ByteArray × Int × Int → Option Bool := fun ⟨x0, x5, x6⟩ =>
  if x6 < x5 then
  if 0 ≤ x6 then
  if x6 < (x0.size : Int) then
  M.a5c (bt x0 x6) (decide (x6 = 0)) >>= fun y4 =>
  if y4 = true then
  M.a1y (x0, x5, wr .i64 (x6 + 1))
  else
  some false
  else none
  else none
  else
  if (x0.toList == (⟨#[]⟩ : ByteArray).toList) = true then
  some false
  else
  some (decide ((x0.size : Int) ≤ 64))
  partial_fixpoint
def M.a3u (x0 : ByteArray) : Option Bool :=
  M.a1y (x0, (x0.size : Int), 0)
mutual
def M.a1q : ByteArray × (List T55) × Int × Int → Option Int := fun ⟨x3, x14, x15, x16⟩ =>
  if x16 < x15 then
  if 0 ≤ x16 then
  if x16 < (x14.length : Int) then
  M.a3u ((gi x14 x16).Name) >>= fun y11 =>
  if y11 = true then
  if (Op.bytesLess ((gi x14 x16).Name).toList x3.toList || ((gi x14 x16).Name).toList == x3.toList) = true then
  M.a14 (gi x14 x16, x14, x15, x16, true)
  else
  if (((gi x14 x16).Value).toList == (⟨#[]⟩ : ByteArray).toList) = true then
  M.a14 (gi x14 x16, x14, x15, x16, true)
  else
  M.a14 (gi x14 x16, x14, x15, x16, decide ((((gi x14 x16).Value).size : Int) > 256))
  else
  M.a14 (gi x14 x16, x14, x15, x16, true)
  else none
  else none
  else
  some 0
  partial_fixpoint
def M.a14 : T55 × (List T55) × Int × Int × Bool → Option Int := fun ⟨x5v, x14, x15, x16, x40⟩ =>
  if x40 = true then
  some 40
  else
  M.a1q (x5v.Name, x14, x15, wr .i64 (x16 + 1))
  partial_fixpoint
end
def M.a2x : (List T55) × Bool → Option Int := fun ⟨x0, x13⟩ =>
  if x13 = true then
  some 40
  else
  M.a1q ((⟨#[]⟩ : ByteArray), x0, (x0.length : Int), 0)
def M.a3v (x0 : List T55) : Option Int :=
  if (x0.length : Int) = 0 then
  M.a2x (x0, true)
  else
  M.a2x (x0, decide ((x0.length : Int) > 16))
def M.a5d (x0 : Int) : Option Int :=
  some x0
def M.a1z : (List Int) × Int → Option (List Int) := fun ⟨x7, x8⟩ =>
  if x8 > 127 then
  if ((x7 ++ [ior .u8 (wr .u8 x8) 128]).length : Int) ≤ 1099511627776 then
  M.a1z ((x7 ++ [ior .u8 (wr .u8 x8) 128]), ishr .u64 x8 7)
  else none
  else
  if ((x7 ++ [wr .u8 x8]).length : Int) ≤ 1099511627776 then
  some (x7 ++ [wr .u8 x8])
  else none
  partial_fixpoint
def M.a3w (x0 : List Int) (x1 : Int) : Option (List Int) :=
  if 0 ≤ wr .i64 ((x0.length : Int) + 10) then
  if wr .i64 ((x0.length : Int) + 10) ≤ 1099511627776 then
  if (x0.length : Int) ≤ 1099511627776 then
  M.a5d x1 >>= fun y15 =>
  M.a1z (x0, y15)
  else none
  else none
  else none
def M.a2y (x0 : List Int) (x1 : Int) : Option (List Int) :=
  M.a3w x0 x1 >>= fun y1 =>
  some y1
def M.a2z (x0 : List Int) (x1 : List Int) : Option ((List Int) × Int) :=
  if (x1.length : Int) > 65536 then
  some (([] : List Int), 3)
  else
  M.a2y x0 (wr .u64 (x1.length : Int)) >>= fun y3 =>
  if ((y3 ++ x1).length : Int) ≤ 1099511627776 then
  some ((y3 ++ x1), 0)
  else none
def M.a20 : (List Int) × (List T55) × Int × Int → Option ((List Int) × Int) := fun ⟨x7, x20, x21, x22⟩ =>
  if x22 < x21 then
  if 0 ≤ x22 then
  if x22 < (x20.length : Int) then
  M.a2z x7 (s2b ((gi x20 x22).Name)) >>= fun y21 =>
  M.a2z y21.1 (s2b ((gi x20 x22).Value)) >>= fun y28 =>
  M.a20 (y28.1, x20, x21, wr .i64 (x22 + 1))
  else none
  else none
  else
  some (x7, 0)
  partial_fixpoint
def M.a3x (x0 : List Int) (x1 : List T55) : Option ((List Int) × Int) :=
  M.a3v x1 >>= fun y1 =>
  if y1 = 0 then
  M.a2y x0 (wr .u64 (x1.length : Int)) >>= fun y4 =>
  M.a20 (y4, x1, (x1.length : Int), 0)
  else
  some (([] : List Int), y1)
def M.a21 (x0 : List T55) : Option (ByteArray × Int) :=
  M.a3x ([] : List Int) x0 >>= fun y1 =>
  some (b2s y1.1, y1.2)
def M.a5h (x0 : List T55) : Option (List T55) :=
  if (x0.length : Int) ≤ 1099511627776 then
  some x0
  else none
def M.a72 (pl : Z) : Option (Nat × Z) :=
  some (pl.zj ++ [(⟨(⟨(some pl.zi.length)⟩ : T234)⟩ : T236)]) >>= fun v5 =>
  some (pl.zj.length, {pl with zi := (pl.zi ++ [[]]), zj := v5})
def M.a15 (pl : Z) : Option (Nat × Z) :=
  M.a72 ({pl with zb := (pl.zb ++ [[]]), ze := (pl.ze ++ [[]]), zg := (pl.zg ++ [[]])}) >>= fun y13 =>
  some (y13.2.zh ++ [(⟨(some pl.ze.length), (some pl.zb.length), (some pl.zg.length), (some y13.1), 0, 0⟩ : T126)]) >>= fun v15 =>
  some (y13.2.zh.length, {y13.2 with zh := v15})
def M.a5f (x0 : ByteArray) : Option ByteArray :=
  some x0
def M.a5e (kq2v_0 : List ByteArray) (kq6b0v_0 : ByteArray) (a0 : ByteArray) : Option (List ByteArray) :=
  if ((kq2v_0 ++ [a0]).length : Int) ≤ 1099511627776 then
  some (kq2v_0 ++ [a0])
  else none
def M.a22 : Int × Int × (List ByteArray) × ByteArray → Option (List ByteArray) := fun ⟨x7, x8, e1v_0, x0q6b0v_0⟩ =>
  if x8 < x7 then
  if 0 ≤ x8 then
  if x8 ≤ wr .i64 (x8 + 3) then
  if wr .i64 (x8 + 3) ≤ (x0q6b0v_0.size : Int) then
  M.a5e e1v_0 x0q6b0v_0 (ss x0q6b0v_0 x8 (wr .i64 (x8 + 3))) >>= fun y10 =>
  M.a22 (x7, wr .i64 (x8 + 1), y10, x0q6b0v_0)
  else none
  else none
  else none
  else
  some e1v_0
  partial_fixpoint
def M.a3y (x0q2v_0 : List ByteArray) (x0q6b0v_0 : ByteArray) : Option (List ByteArray) :=
  M.a22 (wr .i64 ((wr .i64 ((x0q6b0v_0.size : Int) - 3)) + 1), 0, x0q2v_0, x0q6b0v_0)
def M.a3z (x1b0v_0 : ByteArray) : Option (List ByteArray) :=
  M.a3y ([] : List ByteArray) x1b0v_0 >>= fun y10 =>
  some y10
def M.a40 (x0b0v_0 : ByteArray) : Option (List ByteArray) :=
  M.a3z x0b0v_0 >>= fun y2 =>
  some y2
def M.a41 (x0b0v_0 : ByteArray) : Option (List ByteArray) :=
  M.a40 x0b0v_0 >>= fun y2 =>
  if (y2.length : Int) ≤ 1099511627776 then
  some (srtS y2)
  else none
def M.a30 (x0 : ByteArray) : Option (List ByteArray) :=
  M.a5f x0 >>= fun y1 =>
  M.a41 y1 >>= fun y4 =>
  if (y4.length : Int) ≤ 1099511627776 then
  some (cmpL y4)
  else none
def M.a2b (x0 : Option Nat) (pl : Z) : Option Bool :=
  some (x0) >>= fun v18 =>
  (match v18 with
  | none =>
  some false
  | some y2 =>
  some (((gn pl.zj y2).l).at_) >>= fun v17 =>
  (match v17 with
  | none =>
  some false
  | some y14 =>
  some true))
def M.a23 : (List Int) × Int → Option Bool := fun ⟨x0, x3⟩ =>
  if x3 < (x0.length : Int) then
  if 0 ≤ wr .i64 (x3 - 1) then
  if wr .i64 (x3 - 1) < (x0.length : Int) then
  if 0 ≤ x3 then
  if gi x0 (wr .i64 (x3 - 1)) ≥ gi x0 x3 then
  some false
  else
  M.a23 (x0, wr .i64 (x3 + 1))
  else none
  else none
  else none
  else
  some true
  partial_fixpoint
def M.a42 (x0 : List Int) : Option Bool :=
  M.a23 (x0, 1)
def M.a1r (x0 : List Int) : Option Int :=
  M.a42 x0 >>= fun y1 =>
  if y1 = true then
  some 0
  else
  some 2
def M.ap (x0 : List Int) : Option (List Int) :=
  if (x0.length : Int) ≤ 1099511627776 then
  some x0
  else none
def M.a31 (x0 : List Int) (x1 : List Int) : Option ((List Int) × (List Int)) :=
  some (x0, x1)
def M.a73 (x0 : Int) : Option Bool :=
  some (!(decide (x0 = 0)))
def M.a5g (kq7v_0 : List Int) (kq12b0v_0 : List Int) (kq12b1v_0 : List Int) (a0 : Int) (a1 : Int) : Option (List Int) :=
  M.a73 a1 >>= fun y7 =>
  if y7 = true then
  if ((kq7v_0 ++ [a0]).length : Int) ≤ 1099511627776 then
  some (kq7v_0 ++ [a0])
  else none
  else
  some kq7v_0
mutual
def M.a1s : (List Int) × (List Int) × (List Int) → Option ((List Int) × (List Int) × (List Int)) := fun ⟨e2v_0, e3v_0, e4v_0⟩ =>
  if (e3v_0.length : Int) > 0 then
  M.a24 (true, e2v_0, e3v_0, e4v_0)
  else
  M.a24 (decide ((e4v_0.length : Int) > 0), e2v_0, e3v_0, e4v_0)
  partial_fixpoint
def M.a24 : Bool × (List Int) × (List Int) × (List Int) → Option ((List Int) × (List Int) × (List Int)) := fun ⟨x13, e2v_0, e3v_0, e4v_0⟩ =>
  if x13 = true then
  if (e4v_0.length : Int) = 0 then
  M.a1t (0, true, e2v_0, e3v_0, e4v_0)
  else
  if (e3v_0.length : Int) > 0 then
  if 0 < (e3v_0.length : Int) then
  if 0 < (e4v_0.length : Int) then
  M.a1t (0, decide (gi e3v_0 0 ≤ gi e4v_0 0), e2v_0, e3v_0, e4v_0)
  else none
  else none
  else
  M.a1t (0, false, e2v_0, e3v_0, e4v_0)
  else
  some (e2v_0, e3v_0, e4v_0)
  partial_fixpoint
def M.a1t : Int × Bool × (List Int) × (List Int) × (List Int) → Option ((List Int) × (List Int) × (List Int)) := fun ⟨x4, x30, e2v_0, e3v_0, e4v_0⟩ =>
  if x30 = true then
  M.a25 (ior .i64 x4 1, e2v_0, e3v_0, e4v_0)
  else
  M.a25 (x4, e2v_0, e3v_0, e4v_0)
  partial_fixpoint
def M.a25 : Int × (List Int) × (List Int) × (List Int) → Option ((List Int) × (List Int) × (List Int)) := fun ⟨x4, e2v_0, e3v_0, e4v_0⟩ =>
  if (e3v_0.length : Int) = 0 then
  M.a1u (x4, true, e2v_0, e3v_0, e4v_0)
  else
  if (e4v_0.length : Int) > 0 then
  if 0 < (e4v_0.length : Int) then
  if 0 < (e3v_0.length : Int) then
  M.a1u (x4, decide (gi e4v_0 0 ≤ gi e3v_0 0), e2v_0, e3v_0, e4v_0)
  else none
  else none
  else
  M.a1u (x4, false, e2v_0, e3v_0, e4v_0)
  partial_fixpoint
def M.a1u : Int × Bool × (List Int) × (List Int) × (List Int) → Option ((List Int) × (List Int) × (List Int)) := fun ⟨x4, x49, e2v_0, e3v_0, e4v_0⟩ =>
  if x49 = true then
  M.a26 (ior .i64 x4 2, e2v_0, e3v_0, e4v_0)
  else
  M.a26 (x4, e2v_0, e3v_0, e4v_0)
  partial_fixpoint
def M.a26 : Int × (List Int) × (List Int) × (List Int) → Option ((List Int) × (List Int) × (List Int)) := fun ⟨x4, e2v_0, e3v_0, e4v_0⟩ =>
  if iand .i64 x4 2 = 0 then
  M.a27 (x4, 0, e2v_0, e3v_0, e4v_0)
  else
  if 0 < (e4v_0.length : Int) then
  if 1 ≤ (e4v_0.length : Int) then
  M.a27 (x4, gi e4v_0 0, e2v_0, e3v_0, (sl e4v_0 1 (e4v_0.length : Int)))
  else none
  else none
  partial_fixpoint
def M.a27 : Int × Int × (List Int) × (List Int) × (List Int) → Option ((List Int) × (List Int) × (List Int)) := fun ⟨x4, x5, e2v_0, e3v_0, e4v_0⟩ =>
  if iand .i64 x4 1 = 0 then
  M.a28 (x4, x5, e2v_0, e3v_0, e4v_0)
  else
  if 0 < (e3v_0.length : Int) then
  if 1 ≤ (e3v_0.length : Int) then
  M.a28 (x4, gi e3v_0 0, e2v_0, (sl e3v_0 1 (e3v_0.length : Int)), e4v_0)
  else none
  else none
  partial_fixpoint
def M.a28 : Int × Int × (List Int) × (List Int) × (List Int) → Option ((List Int) × (List Int) × (List Int)) := fun ⟨x4, x5, e2v_0, e3v_0, e4v_0⟩ =>
  M.a5g e2v_0 e3v_0 e4v_0 x5 x4 >>= fun y57 =>
  M.a1s (y57, e3v_0, e4v_0)
  partial_fixpoint
end
def M.a43 (x0q7v_0 : List Int) (x0q12b0v_0 : List Int) (x0q12b1v_0 : List Int) : Option ((List Int) × (List Int) × (List Int)) :=
  M.a1s (x0q7v_0, x0q12b0v_0, x0q12b1v_0)
def M.a44 (x0 : List Int) (x1 : List Int) : Option (List Int) :=
  M.a31 x0 x1 >>= fun y5 =>
  M.a43 ([] : List Int) y5.1 y5.2 >>= fun y15 =>
  some y15.1
def M.a29 : (List Int) × (List (List Int)) × Int × Int → Option ((List Int) × Int) := fun ⟨x9, x35, x36, x37⟩ =>
  if x37 < x36 then
  if 0 ≤ x37 then
  if x37 < (x35.length : Int) then
  M.a44 x9 (gi x35 x37) >>= fun y43 =>
  M.a29 (y43, x35, x36, wr .i64 (x37 + 1))
  else none
  else none
  else
  some (x9, 0)
  partial_fixpoint
def M.a2a : (List (List Int)) × (List (List Int)) × Int × Int → Option ((List Int) × Int) := fun ⟨x0, x15, x16, x17⟩ =>
  if x17 < x16 then
  if 0 ≤ x17 then
  if x17 < (x15.length : Int) then
  M.a1r (gi x15 x17) >>= fun y12 =>
  if y12 = 0 then
  M.a2a (x0, x15, x16, wr .i64 (x17 + 1))
  else
  some (([] : List Int), y12)
  else none
  else none
  else
  if (x0.length : Int) = 0 then
  some (([] : List Int), 0)
  else
  if 0 < (x0.length : Int) then
  M.ap (gi x0 0) >>= fun y25 =>
  if 1 ≤ (x0.length : Int) then
  M.a29 (y25, (sl x0 1 (x0.length : Int)), ((sl x0 1 (x0.length : Int)).length : Int), 0)
  else none
  else none
  partial_fixpoint
def M.a45 (x0 : List (List Int)) : Option ((List Int) × Int) :=
  if (x0.length : Int) > 4096 then
  some (([] : List Int), 3)
  else
  M.a2a (x0, x0, (x0.length : Int), 0)
def M.a32 (x0 : List (List Int)) : Option ((List Int) × Int) :=
  M.a45 x0 >>= fun y1 =>
  some (y1.1, y1.2)
def M.a33 (x0 : List Int) (x1 : Int) : Option ((List Int) × Int) :=
  M.a32 [x0, [x1]] >>= fun y9 =>
  some (y9.1, y9.2)
def M.a1v (x0 : Nat) (x1 : ByteArray) (x2 : List Int) (pl : Z) : Option Z :=
  if (x2.length : Int) = 0 then
  some (((gn pl.zj x0).l).at_) >>= fun v17 =>
  (match v17 with
  | none =>
  some pl
  | some y11 =>
  some ({pl with zi := (sn pl.zi y11 (mdel (gn pl.zi y11) x1))}))
  else
  some (((gn pl.zj x0).l).at_) >>= fun v33 =>
  (match v33 with
  | none =>
  none
  | some y27 =>
  some ({pl with zi := (sn pl.zi y27 (mset (gn pl.zi y27) x1 x2))}))
def M.a46 (x0 : Option Nat) (x1 : ByteArray) (x2 : Int) (pl : Z) : Option (Int × Z) :=
  M.a2b x0 pl >>= fun y1 =>
  if y1 = true then
  some (x0) >>= fun v40 =>
  (match v40 with
  | none =>
  none
  | some y5 =>
  some (((gn pl.zj y5).l).at_) >>= fun v39 =>
  (match v39 with
  | none =>
  M.a33 ([] : List Int) x2 >>= fun y20 =>
  M.a1v y5 x1 y20.1 pl >>= fun y24 =>
  some (y20.2, y24)
  | some y17 =>
  some ((mget (gn pl.zi y17) x1).getD ([] : List Int)) >>= fun v26 =>
  M.a33 v26 x2 >>= fun y33 =>
  M.a1v y5 x1 y33.1 pl >>= fun y37 =>
  some (y33.2, y37)))
  else
  some (1, pl)
def M.a34 : Nat × Int × (Option Nat) × Z → Option Z := fun ⟨x0, x2, x6, e0⟩ =>
  some (x6) >>= fun v208 =>
  (match v208 with
  | none =>
  none
  | some y162 =>
  some (sn e0.zf y162 (mset (gn e0.zf y162) x2 true)) >>= fun v165 =>
  some (sn e0.zh x0 (⟨(gn e0.zh x0).values, (gn e0.zh x0).numbers, (gn e0.zh x0).texts, (gn e0.zh x0).grams, (gn e0.zh x0).next, wr .i64 (((gn e0.zh x0).size) + 1)⟩ : T126)) >>= fun v204 =>
  some ({e0 with zf := v165, zh := v204}))
def M.a2c : Nat × Int × Nat × (List ByteArray) × Int × Int × Z → Option Z := fun ⟨x0, x2, x6, x54, x55, x56, e0⟩ =>
  if x56 < x55 then
  if 0 ≤ x56 then
  if x56 < (x54.length : Int) then
  M.a46 ((gn e0.zh x0).grams) (gi x54 x56) ((gn e0.zh x0).next) e0 >>= fun y237 =>
  M.a2c (x0, x2, x6, x54, x55, wr .i64 (x56 + 1), y237.2)
  else none
  else none
  else
  M.a34 (x0, x2, (some x6), e0)
  partial_fixpoint
def M.a47 : Nat × ByteArray × Int × Nat × Z → Option Z := fun ⟨x0, x1, x2, x6, e0⟩ =>
  M.a30 x1 >>= fun y209 =>
  M.a2c (x0, x2, x6, y209, (y209.length : Int), 0, e0)
def M.a48 : Nat × ByteArray × Int × Nat × Z → Option Z := fun ⟨x0, x1, x2, x6, e0⟩ =>
  some (sn e0.zh x0 (⟨(gn e0.zh x0).values, (gn e0.zh x0).numbers, (gn e0.zh x0).texts, (gn e0.zh x0).grams, wr .u64 (((gn e0.zh x0).next) + 1), (gn e0.zh x0).size⟩ : T126)) >>= fun v104 =>
  some ((gn v104 x0).numbers) >>= fun v160 =>
  (match v160 with
  | none =>
  none
  | some y126 =>
  some (sn e0.zb y126 (mset (gn e0.zb y126) x1 ((mget (gn e0.zb y126) x1).getD 0))) >>= fun v129 =>
  some (sn v129 y126 (mset (gn v129 y126) x1 ((gn v104 x0).next))) >>= fun v137 =>
  some ((gn v104 x0).texts) >>= fun v159 =>
  (match v159 with
  | none =>
  none
  | some y142 =>
  some ((mget (gn e0.zg y142) ((gn v104 x0).next)).getD (⟨#[]⟩ : ByteArray)) >>= fun v145 =>
  some (sn e0.zg y142 (mset (gn e0.zg y142) ((gn v104 x0).next) v145)) >>= fun v147 =>
  some (sn v147 y142 (mset (gn v147 y142) ((gn v104 x0).next) x1)) >>= fun v155 =>
  M.a47 (x0, x1, x2, x6, {e0 with zb := v137, zg := v155, zh := v104})))
def M.a35 : Nat × ByteArray × Int × (Option Nat) × Bool × Z → Option Z := fun ⟨x0, x1, x2, x6, x16, e0⟩ =>
  if x16 = true then
  some ((gn e0.zh x0).values) >>= fun v69 =>
  (match v69 with
  | none =>
  none
  | some y61 =>
  some (sn e0.ze y61 (mset (gn e0.ze y61) x1 (some e0.zf.length))) >>= fun v64 =>
  M.a48 (x0, x1, x2, e0.zf.length, {e0 with ze := v64, zf := (e0.zf ++ [[]])}))
  else
  M.a34 (x0, x2, x6, e0)
def M.a36 : Nat × ByteArray × Int × (Option Nat) × Z → Option Z := fun ⟨x0, x1, x2, x6, e0⟩ =>
  some (x6) >>= fun v37 =>
  (match v37 with
  | none =>
  M.a35 (x0, x1, x2, none, true, e0)
  | some y34 =>
  M.a35 (x0, x1, x2, (some y34), false, e0))
def M.a49 (x0 : Option Nat) (x1 : ByteArray) (x2 : Int) (pl : Z) : Option Z :=
  some (x0) >>= fun v32 =>
  (match v32 with
  | none =>
  none
  | some y2 =>
  some ((gn pl.zh y2).values) >>= fun v31 =>
  (match v31 with
  | none =>
  M.a36 (y2, x1, x2, none, pl)
  | some y23 =>
  some ((mget (gn pl.ze y23) x1).getD (none : Option Nat)) >>= fun v26 =>
  M.a36 (y2, x1, x2, v26, pl)))
mutual
def M.a1w : Nat × Int × Int × (List T55) × Int × Int × Z → Option (Int × Z) := fun ⟨x0, x1, x8, x74, x75, x76, e0⟩ =>
  if x76 < x75 then
  if 0 ≤ x76 then
  if x76 < (x74.length : Int) then
  some ((gn e0.zd x0).columns) >>= fun v161 =>
  (match v161 with
  | none =>
  M.a2d (x0, x1, x8, gi x74 x76, none, x74, x75, x76, e0)
  | some y152 =>
  some ((mget (gn e0.zc y152) ((gi x74 x76).Name)).getD (none : Option Nat)) >>= fun v156 =>
  M.a2d (x0, x1, x8, gi x74 x76, v156, x74, x75, x76, e0))
  else none
  else none
  else
  some (x8, e0)
  partial_fixpoint
def M.a2d : Nat × Int × Int × T55 × (Option Nat) × (List T55) × Int × Int × Z → Option (Int × Z) := fun ⟨x0, x1, x8, x14v, x15, x74, x75, x76, e0⟩ =>
  some (x15) >>= fun v167 =>
  (match v167 with
  | none =>
  M.a2e (x0, x1, x8, x14v, none, x74, x75, x76, true, e0)
  | some y163 =>
  M.a2e (x0, x1, x8, x14v, (some y163), x74, x75, x76, false, e0))
  partial_fixpoint
def M.a2e : Nat × Int × Int × T55 × (Option Nat) × (List T55) × Int × Int × Bool × Z → Option (Int × Z) := fun ⟨x0, x1, x8, x14v, x15, x74, x75, x76, x88, e0⟩ =>
  if x88 = true then
  M.a15 e0 >>= fun y169 =>
  some ((gn y169.2.zd x0).columns) >>= fun v195 =>
  (match v195 with
  | none =>
  none
  | some y186 =>
  some (sn y169.2.zc y186 (mset (gn y169.2.zc y186) x14v.Name (some y169.1))) >>= fun v189 =>
  M.a2f (x0, x1, x8, x14v, (some y169.1), x74, x75, x76, {y169.2 with zc := v189}))
  else
  M.a2f (x0, x1, x8, x14v, x15, x74, x75, x76, e0)
  partial_fixpoint
def M.a2f : Nat × Int × Int × T55 × (Option Nat) × (List T55) × Int × Int × Z → Option (Int × Z) := fun ⟨x0, x1, x8, x14v, x15, x74, x75, x76, e0⟩ =>
  M.a49 x15 x14v.Value x1 e0 >>= fun y196 =>
  M.a1w (x0, x1, x8, x74, x75, wr .i64 (x76 + 1), y196)
  partial_fixpoint
end
def M.a4a : Nat × Int × (List T55) × Int × Z → Option (Int × Z) := fun ⟨x0, x1, x2, x8, e0⟩ =>
  M.a1w (x0, x1, x8, x2, (x2.length : Int), 0, e0)
def M.a37 : Nat × Int × (List T55) × ByteArray × Int × Bool × Z → Option (Int × Z) := fun ⟨x0, x1, x2, x7, x8, x50, e0⟩ =>
  if x50 = true then
  some (4, e0)
  else
  M.a5h x2 >>= fun y90 =>
  some ((gn e0.zd x0).series) >>= fun v128 =>
  (match v128 with
  | none =>
  none
  | some y94 =>
  some ((mget (gn e0.za y94) x1).getD ([] : List T55)) >>= fun v97 =>
  some (sn (sn e0.za y94 (mset (gn e0.za y94) x1 v97)) y94 (mset (gn (sn e0.za y94 (mset (gn e0.za y94) x1 v97)) y94) x1 y90)) >>= fun v109 =>
  some ((gn e0.zd x0).ids) >>= fun v127 =>
  (match v127 with
  | none =>
  none
  | some y114 =>
  some (sn e0.zb y114 (mset (gn e0.zb y114) x7 ((mget (gn e0.zb y114) x7).getD 0))) >>= fun v117 =>
  M.a4a (x0, x1, x2, x8, {e0 with za := v109, zb := (sn v117 y114 (mset (gn v117 y114) x7 x1))})))
def M.a38 : Nat × Int × (List T55) × ByteArray × Int × Bool × Z → Option (Int × Z) := fun ⟨x0, x1, x2, x7, x8, x45, e0⟩ =>
  if x45 = true then
  some (6, e0)
  else
  some ((gn e0.zd x0).series) >>= fun v74 =>
  (match v74 with
  | none =>
  M.a37 (x0, x1, x2, x7, x8, false, e0)
  | some y71 =>
  M.a37 (x0, x1, x2, x7, x8, decide (((gn e0.za y71).length : Int) = 65536), e0))
def M.a39 : Nat × Int × (List T55) × ByteArray × Int × Bool × Bool × Z → Option (Int × Z) := fun ⟨x0, x1, x2, x7, x8, x10, x12, e0⟩ =>
  if x10 = true then
  M.a38 (x0, x1, x2, x7, x8, true, e0)
  else
  M.a38 (x0, x1, x2, x7, x8, x12, e0)
def M.a3a : Nat × Int × (List T55) × ByteArray × Int × Bool × Z → Option (Int × Z) := fun ⟨x0, x1, x2, x7, x8, x10, e0⟩ =>
  some ((gn e0.zd x0).ids) >>= fun v53 =>
  (match v53 with
  | none =>
  M.a39 (x0, x1, x2, x7, x8, x10, false, e0)
  | some y48 =>
  M.a39 (x0, x1, x2, x7, x8, x10, (mget (gn e0.zb y48) x7).isSome, e0))
def M.a16 (x0 : Nat) (x1 : Int) (x2 : List T55) (pl : Z) : Option (Int × Z) :=
  M.a7 x0 pl >>= fun y1 =>
  if y1 = true then
  M.a21 x2 >>= fun y4 =>
  if y4.2 = 0 then
  some ((gn pl.zd x0).series) >>= fun v32 =>
  (match v32 with
  | none =>
  M.a3a (x0, x1, x2, y4.1, y4.2, false, pl)
  | some y22 =>
  some ((mget (gn pl.za y22) x1).getD ([] : List T55)) >>= fun v25 =>
  M.a3a (x0, x1, x2, y4.1, y4.2, (mget (gn pl.za y22) x1).isSome, pl))
  else
  some (y4.2, pl)
  else
  some (1, pl)
def M.a12 (x0 : Nat) (x1 : ByteArray) (pl : Z) : Option ((Option Nat) × Z) :=
  M.a7 x0 pl >>= fun y1 =>
  if y1 = true then
  some ((gn pl.zd x0).columns) >>= fun v60 =>
  (match v60 with
  | none =>
  M.a15 pl >>= fun y22 =>
  some ((some y22.1), y22.2)
  | some y19 =>
  some ((mget (gn pl.zc y19) x1).getD (none : Option Nat)) >>= fun v24 =>
  some (v24) >>= fun v59 =>
  (match v59 with
  | none =>
  M.a15 pl >>= fun y33 =>
  some ((some y33.1), y33.2)
  | some y30 =>
  some ((gn pl.zd x0).columns) >>= fun v58 =>
  (match v58 with
  | none =>
  some (none, pl)
  | some y50 =>
  some ((mget (gn pl.zc y50) x1).getD (none : Option Nat)) >>= fun v53 =>
  some (v53, pl))))
  else
  M.a15 pl >>= fun y61 =>
  some ((some y61.1), y61.2)
def M.a5j (pl : Z) : Option Unit :=
  some ()
def M.a74 : (List Int) × Z → Option Unit := fun ⟨x0q2v_0, pl⟩ =>
  some ()
def M.a75 (x0q2v_0 : List Int) (pl : Z) : Option Unit :=
  M.a74 (x0q2v_0, pl)
def M.a76 (pl : Z) : Option (List Int) :=
  M.a75 ([] : List Int) pl >>= fun y10 =>
  some ([] : List Int)
def M.a5i (pl : Z) : Option (List Int) :=
  M.a76 pl >>= fun y2 =>
  some y2
def M.a13 : Int × Int → Option Int := fun ⟨x0, x2⟩ =>
  if x0 ≥ 256 then
  if 0 ≤ wr .u8 (ishr .u64 x0 8) then
  if wr .u8 (ishr .u64 x0 8) < ((⟨#[0, 1, 2, 2, 3, 3, 3, 3, 4, 4, 4, 4, 4, 4, 4, 4, 5, 5, 5, 5, 5, 5, 5, 5, 5, 5, 5, 5, 5, 5, 5, 5, 6, 6, 6, 6, 6, 6, 6, 6, 6, 6, 6, 6, 6, 6, 6, 6, 6, 6, 6, 6, 6, 6, 6, 6, 6, 6, 6, 6, 6, 6, 6, 6, 7, 7, 7, 7, 7, 7, 7, 7, 7, 7, 7, 7, 7, 7, 7, 7, 7, 7, 7, 7, 7, 7, 7, 7, 7, 7, 7, 7, 7, 7, 7, 7, 7, 7, 7, 7, 7, 7, 7, 7, 7, 7, 7, 7, 7, 7, 7, 7, 7, 7, 7, 7, 7, 7, 7, 7, 7, 7, 7, 7, 7, 7, 7, 7, 8, 8, 8, 8, 8, 8, 8, 8, 8, 8, 8, 8, 8, 8, 8, 8, 8, 8, 8, 8, 8, 8, 8, 8, 8, 8, 8, 8, 8, 8, 8, 8, 8, 8, 8, 8, 8, 8, 8, 8, 8, 8, 8, 8, 8, 8, 8, 8, 8, 8, 8, 8, 8, 8, 8, 8, 8, 8, 8, 8, 8, 8, 8, 8, 8, 8, 8, 8, 8, 8, 8, 8, 8, 8, 8, 8, 8, 8, 8, 8, 8, 8, 8, 8, 8, 8, 8, 8, 8, 8, 8, 8, 8, 8, 8, 8, 8, 8, 8, 8, 8, 8, 8, 8, 8, 8, 8, 8, 8, 8, 8, 8, 8, 8, 8, 8, 8, 8, 8, 8, 8, 8, 8, 8, 8, 8, 8, 8]⟩ : ByteArray).size : Int) then
  some (wr .i64 ((wr .i64 (x2 + 8)) + (wr .i64 (bt (⟨#[0, 1, 2, 2, 3, 3, 3, 3, 4, 4, 4, 4, 4, 4, 4, 4, 5, 5, 5, 5, 5, 5, 5, 5, 5, 5, 5, 5, 5, 5, 5, 5, 6, 6, 6, 6, 6, 6, 6, 6, 6, 6, 6, 6, 6, 6, 6, 6, 6, 6, 6, 6, 6, 6, 6, 6, 6, 6, 6, 6, 6, 6, 6, 6, 7, 7, 7, 7, 7, 7, 7, 7, 7, 7, 7, 7, 7, 7, 7, 7, 7, 7, 7, 7, 7, 7, 7, 7, 7, 7, 7, 7, 7, 7, 7, 7, 7, 7, 7, 7, 7, 7, 7, 7, 7, 7, 7, 7, 7, 7, 7, 7, 7, 7, 7, 7, 7, 7, 7, 7, 7, 7, 7, 7, 7, 7, 7, 7, 8, 8, 8, 8, 8, 8, 8, 8, 8, 8, 8, 8, 8, 8, 8, 8, 8, 8, 8, 8, 8, 8, 8, 8, 8, 8, 8, 8, 8, 8, 8, 8, 8, 8, 8, 8, 8, 8, 8, 8, 8, 8, 8, 8, 8, 8, 8, 8, 8, 8, 8, 8, 8, 8, 8, 8, 8, 8, 8, 8, 8, 8, 8, 8, 8, 8, 8, 8, 8, 8, 8, 8, 8, 8, 8, 8, 8, 8, 8, 8, 8, 8, 8, 8, 8, 8, 8, 8, 8, 8, 8, 8, 8, 8, 8, 8, 8, 8, 8, 8, 8, 8, 8, 8, 8, 8, 8, 8, 8, 8, 8, 8, 8, 8, 8, 8, 8, 8, 8, 8, 8, 8, 8, 8, 8, 8, 8, 8]⟩ : ByteArray) (wr .u8 (ishr .u64 x0 8))))))
  else none
  else none
  else
  if 0 ≤ wr .u8 x0 then
  if wr .u8 x0 < ((⟨#[0, 1, 2, 2, 3, 3, 3, 3, 4, 4, 4, 4, 4, 4, 4, 4, 5, 5, 5, 5, 5, 5, 5, 5, 5, 5, 5, 5, 5, 5, 5, 5, 6, 6, 6, 6, 6, 6, 6, 6, 6, 6, 6, 6, 6, 6, 6, 6, 6, 6, 6, 6, 6, 6, 6, 6, 6, 6, 6, 6, 6, 6, 6, 6, 7, 7, 7, 7, 7, 7, 7, 7, 7, 7, 7, 7, 7, 7, 7, 7, 7, 7, 7, 7, 7, 7, 7, 7, 7, 7, 7, 7, 7, 7, 7, 7, 7, 7, 7, 7, 7, 7, 7, 7, 7, 7, 7, 7, 7, 7, 7, 7, 7, 7, 7, 7, 7, 7, 7, 7, 7, 7, 7, 7, 7, 7, 7, 7, 8, 8, 8, 8, 8, 8, 8, 8, 8, 8, 8, 8, 8, 8, 8, 8, 8, 8, 8, 8, 8, 8, 8, 8, 8, 8, 8, 8, 8, 8, 8, 8, 8, 8, 8, 8, 8, 8, 8, 8, 8, 8, 8, 8, 8, 8, 8, 8, 8, 8, 8, 8, 8, 8, 8, 8, 8, 8, 8, 8, 8, 8, 8, 8, 8, 8, 8, 8, 8, 8, 8, 8, 8, 8, 8, 8, 8, 8, 8, 8, 8, 8, 8, 8, 8, 8, 8, 8, 8, 8, 8, 8, 8, 8, 8, 8, 8, 8, 8, 8, 8, 8, 8, 8, 8, 8, 8, 8, 8, 8, 8, 8, 8, 8, 8, 8, 8, 8, 8, 8, 8, 8, 8, 8, 8, 8, 8, 8]⟩ : ByteArray).size : Int) then
  some (wr .i64 (x2 + (wr .i64 (bt (⟨#[0, 1, 2, 2, 3, 3, 3, 3, 4, 4, 4, 4, 4, 4, 4, 4, 5, 5, 5, 5, 5, 5, 5, 5, 5, 5, 5, 5, 5, 5, 5, 5, 6, 6, 6, 6, 6, 6, 6, 6, 6, 6, 6, 6, 6, 6, 6, 6, 6, 6, 6, 6, 6, 6, 6, 6, 6, 6, 6, 6, 6, 6, 6, 6, 7, 7, 7, 7, 7, 7, 7, 7, 7, 7, 7, 7, 7, 7, 7, 7, 7, 7, 7, 7, 7, 7, 7, 7, 7, 7, 7, 7, 7, 7, 7, 7, 7, 7, 7, 7, 7, 7, 7, 7, 7, 7, 7, 7, 7, 7, 7, 7, 7, 7, 7, 7, 7, 7, 7, 7, 7, 7, 7, 7, 7, 7, 7, 7, 8, 8, 8, 8, 8, 8, 8, 8, 8, 8, 8, 8, 8, 8, 8, 8, 8, 8, 8, 8, 8, 8, 8, 8, 8, 8, 8, 8, 8, 8, 8, 8, 8, 8, 8, 8, 8, 8, 8, 8, 8, 8, 8, 8, 8, 8, 8, 8, 8, 8, 8, 8, 8, 8, 8, 8, 8, 8, 8, 8, 8, 8, 8, 8, 8, 8, 8, 8, 8, 8, 8, 8, 8, 8, 8, 8, 8, 8, 8, 8, 8, 8, 8, 8, 8, 8, 8, 8, 8, 8, 8, 8, 8, 8, 8, 8, 8, 8, 8, 8, 8, 8, 8, 8, 8, 8, 8, 8, 8, 8, 8, 8, 8, 8, 8, 8, 8, 8, 8, 8, 8, 8, 8, 8, 8, 8, 8, 8]⟩ : ByteArray) (wr .u8 x0)))))
  else none
  else none
def M.a4r : Int × Int → Option Int := fun ⟨x0, x2⟩ =>
  if x0 ≥ 65536 then
  M.a13 (ishr .u64 x0 16, wr .i64 (x2 + 16))
  else
  M.a13 (x0, x2)
def M.a4s (x0 : Int) : Option Int :=
  if x0 ≥ 4294967296 then
  M.a4r (ishr .u64 x0 32, 32)
  else
  M.a4r (x0, 0)
def M.a3e (x0 : Int) : Option Int :=
  M.a4s x0 >>= fun y1 =>
  some y1
def M.a4t (x0 : Int) : Option Bool :=
  some (!(decide (x0 = x0)))
def M.a0 (x0 : Int) (x1 : Int) : Option Bool :=
  M.a4t x0 >>= fun y1 =>
  if y1 = true then
  M.a4t x1 >>= fun y4 =>
  if y4 = true then
  some (decide (x0 < x1))
  else
  some true
  else
  some (decide (x0 < x1))
mutual
def M.af : Int × Int × Int × (List Int) → Option (List Int) := fun ⟨x1, x2, x6, e0⟩ =>
  if x6 < x2 then
  M.aq (x1, x2, x6, x6, e0)
  else
  some e0
  partial_fixpoint
def M.aq : Int × Int × Int × Int × (List Int) → Option (List Int) := fun ⟨x1, x2, x6, x7, e0⟩ =>
  if x7 > x1 then
  if 0 ≤ x7 then
  if x7 < (e0.length : Int) then
  if 0 ≤ wr .i64 (x7 - 1) then
  if wr .i64 (x7 - 1) < (e0.length : Int) then
  M.a0 (gi e0 x7) (gi e0 (wr .i64 (x7 - 1))) >>= fun y18 =>
  M.ar (x1, x2, x6, x7, y18, e0)
  else none
  else none
  else none
  else none
  else
  M.ar (x1, x2, x6, x7, false, e0)
  partial_fixpoint
def M.ar : Int × Int × Int × Int × Bool × (List Int) → Option (List Int) := fun ⟨x1, x2, x6, x7, x30, e0⟩ =>
  if x30 = true then
  if 0 ≤ wr .i64 (x7 - 1) then
  if wr .i64 (x7 - 1) < (e0.length : Int) then
  if 0 ≤ x7 then
  if x7 < (e0.length : Int) then
  some (gi (si e0 x7 (gi e0 (wr .i64 (x7 - 1)))) (wr .i64 (x7 - 1))) >>= fun v46 =>
  some (si (si e0 x7 (gi e0 (wr .i64 (x7 - 1)))) (wr .i64 (x7 - 1)) (gi e0 x7)) >>= fun v50 =>
  M.aq (x1, x2, x6, wr .i64 (x7 - 1), v50)
  else none
  else none
  else none
  else none
  else
  M.af (x1, x2, wr .i64 (x6 + 1), e0)
  partial_fixpoint
end
def M.a2g (x0 : List Int) (x1 : Int) (x2 : Int) : Option (List Int) :=
  M.af (x1, x2, wr .i64 (x1 + 1), x0)
mutual
def M.ag : Int × Int × Int × (List Int) → Option (List Int) := fun ⟨x2, x3, x8, e0⟩ =>
  if wr .i64 ((wr .i64 (2 * x8)) + 1) ≥ x2 then
  some e0
  else
  if wr .i64 ((wr .i64 ((wr .i64 (2 * x8)) + 1)) + 1) < x2 then
  if 0 ≤ wr .i64 (x3 + (wr .i64 ((wr .i64 (2 * x8)) + 1))) then
  if wr .i64 (x3 + (wr .i64 ((wr .i64 (2 * x8)) + 1))) < (e0.length : Int) then
  some (gi e0 (wr .i64 (x3 + (wr .i64 ((wr .i64 (2 * x8)) + 1))))) >>= fun v9 =>
  if 0 ≤ wr .i64 ((wr .i64 (x3 + (wr .i64 ((wr .i64 (2 * x8)) + 1)))) + 1) then
  if wr .i64 ((wr .i64 (x3 + (wr .i64 ((wr .i64 (2 * x8)) + 1)))) + 1) < (e0.length : Int) then
  some (gi e0 (wr .i64 ((wr .i64 (x3 + (wr .i64 ((wr .i64 (2 * x8)) + 1)))) + 1))) >>= fun v18 =>
  M.a0 v9 v18 >>= fun y22 =>
  M.a17 (x2, x3, x8, wr .i64 ((wr .i64 (2 * x8)) + 1), y22, e0)
  else none
  else none
  else none
  else none
  else
  M.a17 (x2, x3, x8, wr .i64 ((wr .i64 (2 * x8)) + 1), false, e0)
  partial_fixpoint
def M.a17 : Int × Int × Int × Int × Bool × (List Int) → Option (List Int) := fun ⟨x2, x3, x8, x9, x36, e0⟩ =>
  if x36 = true then
  M.a18 (x2, x3, x8, wr .i64 (x9 + 1), e0)
  else
  M.a18 (x2, x3, x8, x9, e0)
  partial_fixpoint
def M.a18 : Int × Int × Int × Int × (List Int) → Option (List Int) := fun ⟨x2, x3, x8, x9, e0⟩ =>
  if 0 ≤ wr .i64 (x3 + x8) then
  if wr .i64 (x3 + x8) < (e0.length : Int) then
  if 0 ≤ wr .i64 (x3 + x9) then
  if wr .i64 (x3 + x9) < (e0.length : Int) then
  M.a0 (gi e0 (wr .i64 (x3 + x8))) (gi e0 (wr .i64 (x3 + x9))) >>= fun y39 =>
  if y39 = true then
  some (si e0 (wr .i64 (x3 + x8)) (gi e0 (wr .i64 (x3 + x9)))) >>= fun v57 =>
  some (si v57 (wr .i64 (x3 + x9)) (gi e0 (wr .i64 (x3 + x8)))) >>= fun v67 =>
  M.ag (x2, x3, x9, v67)
  else
  some e0
  else none
  else none
  else none
  else none
  partial_fixpoint
end
def M.a2h (x0 : List Int) (x1 : Int) (x2 : Int) (x3 : Int) : Option (List Int) :=
  M.ag (x2, x3, x1, x0)
def M.as : Int × Int × Int × (List Int) → Option (List Int) := fun ⟨x6, x7, x10, e0⟩ =>
  if x10 ≥ 0 then
  if 0 ≤ wr .i64 (x6 + x10) then
  if wr .i64 (x6 + x10) < (e0.length : Int) then
  if 0 ≤ x6 then
  if x6 < (e0.length : Int) then
  some (gi (si e0 x6 (gi e0 (wr .i64 (x6 + x10)))) (wr .i64 (x6 + x10))) >>= fun v31 =>
  some (si (si e0 x6 (gi e0 (wr .i64 (x6 + x10)))) (wr .i64 (x6 + x10)) (gi e0 x6)) >>= fun v35 =>
  M.a2h v35 x7 x10 x6 >>= fun y40 =>
  M.as (x6, x7, wr .i64 (x10 - 1), y40)
  else none
  else none
  else none
  else none
  else
  some e0
  partial_fixpoint
def M.at : Int × Int × Int × Int × (List Int) → Option (List Int) := fun ⟨x6, x7, x8, x9, e0⟩ =>
  if x9 ≥ 0 then
  M.a2h e0 x9 x8 x6 >>= fun y3 =>
  M.at (x6, x7, x8, wr .i64 (x9 - 1), y3)
  else
  M.as (x6, x7, wr .i64 (x8 - 1), e0)
  partial_fixpoint
def M.a2i (x0 : List Int) (x1 : Int) (x2 : Int) : Option (List Int) :=
  M.at (x1, 0, wr .i64 (x2 - x1), iquo .i64 (wr .i64 ((wr .i64 (x2 - x1)) - 1)) 2, x0)
def M.a2v (x0 : List Int) (x1 : Int) (x2 : Int) (x3v_0 : Int) : Option (Int × Int × Int) :=
  if 0 ≤ x2 then
  if x2 < (x0.length : Int) then
  if 0 ≤ x1 then
  if x1 < (x0.length : Int) then
  M.a0 (gi x0 x2) (gi x0 x1) >>= fun y17 =>
  if y17 = true then
  some (x2, x1, wr .i64 (x3v_0 + 1))
  else
  some (x1, x2, x3v_0)
  else none
  else none
  else none
  else none
def M.a3q (x0 : List Int) (x1 : Int) (x2 : Int) (x3 : Int) (x4v_0 : Int) : Option (Int × Int) :=
  M.a2v x0 x1 x2 x4v_0 >>= fun y3 =>
  M.a2v x0 y3.2.1 x3 y3.2.2 >>= fun y5 =>
  M.a2v x0 y3.1 y5.1 y5.2.2 >>= fun y7 =>
  some (y7.2.1, y7.2.2)
def M.a2w (x0 : List Int) (x1 : Int) (x2v_0 : Int) : Option (Int × Int) :=
  M.a3q x0 (wr .i64 (x1 - 1)) x1 (wr .i64 (x1 + 1)) x2v_0 >>= fun y3 =>
  some (y3.1, y3.2)
def M.a3r : Int × Int × (List Int) → Option (Int × Int) := fun ⟨x9v_0, x11, x0⟩ =>
  if x9v_0 = 0 then
  some (x11, 1)
  else
  if x9v_0 = 12 then
  some (x11, 2)
  else
  some (x11, 0)
def M.a3s : Int × Int × Int × Int × (List Int) → Option (Int × Int) := fun ⟨x9v_0, x10, x11, x12, x0⟩ =>
  M.a3q x0 x10 x11 x12 x9v_0 >>= fun y14 =>
  M.a3r (y14.2, y14.1, x0)
def M.a3d (x0 : List Int) (x1 : Int) (x2 : Int) : Option (Int × Int) :=
  if wr .i64 (x2 - x1) ≥ 8 then
  if wr .i64 (x2 - x1) ≥ 50 then
  M.a2w x0 (wr .i64 (x1 + (wr .i64 ((iquo .i64 (wr .i64 (x2 - x1)) 4) * 1)))) 0 >>= fun y6 =>
  M.a2w x0 (wr .i64 (x1 + (wr .i64 ((iquo .i64 (wr .i64 (x2 - x1)) 4) * 2)))) y6.2 >>= fun y8 =>
  M.a2w x0 (wr .i64 (x1 + (wr .i64 ((iquo .i64 (wr .i64 (x2 - x1)) 4) * 3)))) y8.2 >>= fun y10 =>
  M.a3s (y10.2, y6.1, y8.1, y10.1, x0)
  else
  M.a3s (0, wr .i64 (x1 + (wr .i64 ((iquo .i64 (wr .i64 (x2 - x1)) 4) * 1))), wr .i64 (x1 + (wr .i64 ((iquo .i64 (wr .i64 (x2 - x1)) 4) * 2))), wr .i64 (x1 + (wr .i64 ((iquo .i64 (wr .i64 (x2 - x1)) 4) * 3))), x0)
  else
  M.a3r (0, wr .i64 (x1 + (wr .i64 ((iquo .i64 (wr .i64 (x2 - x1)) 4) * 2))), x0)
def M.a19 : Int × Int × (List Int) → Option (List Int) := fun ⟨x6, x7, e0⟩ =>
  if x6 < x7 then
  if 0 ≤ x7 then
  if x7 < (e0.length : Int) then
  if 0 ≤ x6 then
  if x6 < (e0.length : Int) then
  M.a19 (wr .i64 (x6 + 1), wr .i64 (x7 - 1), (si (si e0 x6 (gi e0 x7)) x7 (gi e0 x6)))
  else none
  else none
  else none
  else none
  else
  some e0
  partial_fixpoint
def M.a2j (x0 : List Int) (x1 : Int) (x2 : Int) : Option (List Int) :=
  M.a19 (x1, wr .i64 (x2 - 1), x0)
mutual
def M.ah : Int × Int × Int × Int × (List Int) → Option (Bool × (List Int)) := fun ⟨x1, x2, x7, x8, e0⟩ =>
  if x8 < 5 then
  M.a1a (x1, x2, x7, x8, e0)
  else
  some (false, e0)
  partial_fixpoint
def M.a1a : Int × Int × Int × Int × (List Int) → Option (Bool × (List Int)) := fun ⟨x1, x2, x7, x8, e0⟩ =>
  if x7 < x2 then
  if 0 ≤ x7 then
  if x7 < (e0.length : Int) then
  if 0 ≤ wr .i64 (x7 - 1) then
  if wr .i64 (x7 - 1) < (e0.length : Int) then
  M.a0 (gi e0 x7) (gi e0 (wr .i64 (x7 - 1))) >>= fun y18 =>
  M.au (x1, x2, x7, x8, !y18, e0)
  else none
  else none
  else none
  else none
  else
  M.au (x1, x2, x7, x8, false, e0)
  partial_fixpoint
def M.au : Int × Int × Int × Int × Bool × (List Int) → Option (Bool × (List Int)) := fun ⟨x1, x2, x7, x8, x32, e0⟩ =>
  if x32 = true then
  M.a1a (x1, x2, wr .i64 (x7 + 1), x8, e0)
  else
  if x7 = x2 then
  some (true, e0)
  else
  if wr .i64 (x2 - x1) < 50 then
  some (false, e0)
  else
  if 0 ≤ wr .i64 (x7 - 1) then
  if wr .i64 (x7 - 1) < (e0.length : Int) then
  if 0 ≤ x7 then
  if x7 < (e0.length : Int) then
  some (gi (si e0 x7 (gi e0 (wr .i64 (x7 - 1)))) (wr .i64 (x7 - 1))) >>= fun v48 =>
  some (si (si e0 x7 (gi e0 (wr .i64 (x7 - 1)))) (wr .i64 (x7 - 1)) (gi e0 x7)) >>= fun v52 =>
  if wr .i64 (x7 - x1) ≥ 2 then
  M.av (x1, x2, x7, x8, wr .i64 (x7 - 1), v52)
  else
  M.ai (x1, x2, x7, x8, v52)
  else none
  else none
  else none
  else none
  partial_fixpoint
def M.av : Int × Int × Int × Int × Int × (List Int) → Option (Bool × (List Int)) := fun ⟨x1, x2, x7, x8, x9, e0⟩ =>
  if x9 ≥ 1 then
  if 0 ≤ x9 then
  if x9 < (e0.length : Int) then
  if 0 ≤ wr .i64 (x9 - 1) then
  if wr .i64 (x9 - 1) < (e0.length : Int) then
  M.a0 (gi e0 x9) (gi e0 (wr .i64 (x9 - 1))) >>= fun y73 =>
  if y73 = true then
  some (gi (si e0 x9 (gi e0 (wr .i64 (x9 - 1)))) (wr .i64 (x9 - 1))) >>= fun v97 =>
  some (si (si e0 x9 (gi e0 (wr .i64 (x9 - 1)))) (wr .i64 (x9 - 1)) (gi e0 x9)) >>= fun v101 =>
  M.av (x1, x2, x7, x8, wr .i64 (x9 - 1), v101)
  else
  M.ai (x1, x2, x7, x8, e0)
  else none
  else none
  else none
  else none
  else
  M.ai (x1, x2, x7, x8, e0)
  partial_fixpoint
def M.ai : Int × Int × Int × Int × (List Int) → Option (Bool × (List Int)) := fun ⟨x1, x2, x7, x8, e0⟩ =>
  if wr .i64 (x2 - x7) ≥ 2 then
  M.a1b (x1, x2, x7, x8, wr .i64 (x7 + 1), e0)
  else
  M.aj (x1, x2, x7, x8, e0)
  partial_fixpoint
def M.a1b : Int × Int × Int × Int × Int × (List Int) → Option (Bool × (List Int)) := fun ⟨x1, x2, x7, x8, x10, e0⟩ =>
  if x10 < x2 then
  if 0 ≤ x10 then
  if x10 < (e0.length : Int) then
  if 0 ≤ wr .i64 (x10 - 1) then
  if wr .i64 (x10 - 1) < (e0.length : Int) then
  M.a0 (gi e0 x10) (gi e0 (wr .i64 (x10 - 1))) >>= fun y122 =>
  if y122 = true then
  some (gi (si e0 x10 (gi e0 (wr .i64 (x10 - 1)))) (wr .i64 (x10 - 1))) >>= fun v146 =>
  some (si (si e0 x10 (gi e0 (wr .i64 (x10 - 1)))) (wr .i64 (x10 - 1)) (gi e0 x10)) >>= fun v150 =>
  M.a1b (x1, x2, x7, x8, wr .i64 (x10 + 1), v150)
  else
  M.aj (x1, x2, x7, x8, e0)
  else none
  else none
  else none
  else none
  else
  M.aj (x1, x2, x7, x8, e0)
  partial_fixpoint
def M.aj : Int × Int × Int × Int × (List Int) → Option (Bool × (List Int)) := fun ⟨x1, x2, x7, x8, e0⟩ =>
  M.ah (x1, x2, x7, wr .i64 (x8 + 1), e0)
  partial_fixpoint
end
def M.a2k (x0 : List Int) (x1 : Int) (x2 : Int) : Option (Bool × (List Int)) :=
  M.ah (x1, x2, wr .i64 (x1 + 1), 0, x0)
mutual
def M.aw : Int × Int × Int × (List Int) → Option (Int × (List Int)) := fun ⟨x1, x9, x10, e0⟩ =>
  M.a1c (x1, x9, x10, e0)
  partial_fixpoint
def M.a1c : Int × Int × Int × (List Int) → Option (Int × (List Int)) := fun ⟨x1, x9, x10, e0⟩ =>
  if x9 ≤ x10 then
  if 0 ≤ x1 then
  if x1 < (e0.length : Int) then
  if 0 ≤ x9 then
  if x9 < (e0.length : Int) then
  M.a0 (gi e0 x1) (gi e0 x9) >>= fun y47 =>
  M.a1d (x1, x9, x10, !y47, e0)
  else none
  else none
  else none
  else none
  else
  M.a1d (x1, x9, x10, false, e0)
  partial_fixpoint
def M.a1d : Int × Int × Int × Bool × (List Int) → Option (Int × (List Int)) := fun ⟨x1, x9, x10, x43, e0⟩ =>
  if x43 = true then
  M.a1c (x1, wr .i64 (x9 + 1), x10, e0)
  else
  M.ak (x1, x9, x10, e0)
  partial_fixpoint
def M.ak : Int × Int × Int × (List Int) → Option (Int × (List Int)) := fun ⟨x1, x9, x10, e0⟩ =>
  if x9 ≤ x10 then
  if 0 ≤ x1 then
  if x1 < (e0.length : Int) then
  if 0 ≤ x10 then
  if x10 < (e0.length : Int) then
  M.a0 (gi e0 x1) (gi e0 x10) >>= fun y65 =>
  M.ax (x1, x9, x10, y65, e0)
  else none
  else none
  else none
  else none
  else
  M.ax (x1, x9, x10, false, e0)
  partial_fixpoint
def M.ax : Int × Int × Int × Bool × (List Int) → Option (Int × (List Int)) := fun ⟨x1, x9, x10, x59, e0⟩ =>
  if x59 = true then
  M.ak (x1, x9, wr .i64 (x10 - 1), e0)
  else
  if x9 > x10 then
  some (x9, e0)
  else
  if 0 ≤ x10 then
  if x10 < (e0.length : Int) then
  if 0 ≤ x9 then
  if x9 < (e0.length : Int) then
  M.aw (x1, wr .i64 (x9 + 1), wr .i64 (x10 - 1), (si (si e0 x9 (gi e0 x10)) x10 (gi e0 x9)))
  else none
  else none
  else none
  else none
  partial_fixpoint
end
def M.a2l (x0 : List Int) (x1 : Int) (x2 : Int) (x3 : Int) : Option (Int × (List Int)) :=
  if 0 ≤ x3 then
  if x3 < (x0.length : Int) then
  if 0 ≤ x1 then
  if x1 < (x0.length : Int) then
  M.aw (x1, wr .i64 (x1 + 1), wr .i64 (x2 - 1), (si (si x0 x1 (gi x0 x3)) x3 (gi x0 x1)))
  else none
  else none
  else none
  else none
mutual
def M.ay : Int × Int × Int × (List Int) → Option (Int × Bool × (List Int)) := fun ⟨x1, x10, x11, e0⟩ =>
  M.a1e (x1, x10, x11, e0)
  partial_fixpoint
def M.a1e : Int × Int × Int × (List Int) → Option (Int × Bool × (List Int)) := fun ⟨x1, x10, x11, e0⟩ =>
  if x10 ≤ x11 then
  if 0 ≤ x10 then
  if x10 < (e0.length : Int) then
  if 0 ≤ x1 then
  if x1 < (e0.length : Int) then
  M.a0 (gi e0 x10) (gi e0 x1) >>= fun y144 =>
  M.a1f (x1, x10, x11, y144, e0)
  else none
  else none
  else none
  else none
  else
  M.a1f (x1, x10, x11, false, e0)
  partial_fixpoint
def M.a1f : Int × Int × Int × Bool × (List Int) → Option (Int × Bool × (List Int)) := fun ⟨x1, x10, x11, x112, e0⟩ =>
  if x112 = true then
  M.a1e (x1, wr .i64 (x10 + 1), x11, e0)
  else
  M.al (x1, x10, x11, e0)
  partial_fixpoint
def M.al : Int × Int × Int × (List Int) → Option (Int × Bool × (List Int)) := fun ⟨x1, x10, x11, e0⟩ =>
  if x10 ≤ x11 then
  if 0 ≤ x11 then
  if x11 < (e0.length : Int) then
  if 0 ≤ x1 then
  if x1 < (e0.length : Int) then
  M.a0 (gi e0 x11) (gi e0 x1) >>= fun y162 =>
  M.az (x1, x10, x11, !y162, e0)
  else none
  else none
  else none
  else none
  else
  M.az (x1, x10, x11, false, e0)
  partial_fixpoint
def M.az : Int × Int × Int × Bool × (List Int) → Option (Int × Bool × (List Int)) := fun ⟨x1, x10, x11, x129, e0⟩ =>
  if x129 = true then
  M.al (x1, x10, wr .i64 (x11 - 1), e0)
  else
  if x10 > x11 then
  if 0 ≤ x1 then
  if x1 < (e0.length : Int) then
  if 0 ≤ x11 then
  if x11 < (e0.length : Int) then
  some (x11, false, (si (si e0 x11 (gi e0 x1)) x1 (gi e0 x11)))
  else none
  else none
  else none
  else none
  else
  if 0 ≤ x11 then
  if x11 < (e0.length : Int) then
  if 0 ≤ x10 then
  if x10 < (e0.length : Int) then
  M.ay (x1, wr .i64 (x10 + 1), wr .i64 (x11 - 1), (si (si e0 x10 (gi e0 x11)) x11 (gi e0 x10)))
  else none
  else none
  else none
  else none
  partial_fixpoint
end
mutual
def M.ab : Int × Int × Int × (List Int) → Option (Int × Bool × (List Int)) := fun ⟨x1, x10, x11, e0⟩ =>
  if x10 ≤ x11 then
  if 0 ≤ x11 then
  if x11 < (e0.length : Int) then
  if 0 ≤ x1 then
  if x1 < (e0.length : Int) then
  M.a0 (gi e0 x11) (gi e0 x1) >>= fun y65 =>
  M.a10 (x1, x10, x11, !y65, e0)
  else none
  else none
  else none
  else none
  else
  M.a10 (x1, x10, x11, false, e0)
  partial_fixpoint
def M.a10 : Int × Int × Int × Bool × (List Int) → Option (Int × Bool × (List Int)) := fun ⟨x1, x10, x11, x60, e0⟩ =>
  if x60 = true then
  M.ab (x1, x10, wr .i64 (x11 - 1), e0)
  else
  if x10 > x11 then
  if 0 ≤ x1 then
  if x1 < (e0.length : Int) then
  if 0 ≤ x11 then
  if x11 < (e0.length : Int) then
  some (x11, true, (si (si e0 x11 (gi e0 x1)) x1 (gi e0 x11)))
  else none
  else none
  else none
  else none
  else
  if 0 ≤ x11 then
  if x11 < (e0.length : Int) then
  if 0 ≤ x10 then
  if x10 < (e0.length : Int) then
  M.ay (x1, wr .i64 (x10 + 1), wr .i64 (x11 - 1), (si (si e0 x10 (gi e0 x11)) x11 (gi e0 x10)))
  else none
  else none
  else none
  else none
  partial_fixpoint
end
mutual
def M.a11 : Int × Int × Int × (List Int) → Option (Int × Bool × (List Int)) := fun ⟨x1, x10, x11, e0⟩ =>
  if x10 ≤ x11 then
  if 0 ≤ x10 then
  if x10 < (e0.length : Int) then
  if 0 ≤ x1 then
  if x1 < (e0.length : Int) then
  M.a0 (gi e0 x10) (gi e0 x1) >>= fun y47 =>
  M.a1g (x1, x10, x11, y47, e0)
  else none
  else none
  else none
  else none
  else
  M.a1g (x1, x10, x11, false, e0)
  partial_fixpoint
def M.a1g : Int × Int × Int × Bool × (List Int) → Option (Int × Bool × (List Int)) := fun ⟨x1, x10, x11, x43, e0⟩ =>
  if x43 = true then
  M.a11 (x1, wr .i64 (x10 + 1), x11, e0)
  else
  M.ab (x1, x10, x11, e0)
  partial_fixpoint
end
def M.a2m (x0 : List Int) (x1 : Int) (x2 : Int) (x3 : Int) : Option (Int × Bool × (List Int)) :=
  if 0 ≤ x3 then
  if x3 < (x0.length : Int) then
  if 0 ≤ x1 then
  if x1 < (x0.length : Int) then
  M.a11 (x1, wr .i64 (x1 + 1), wr .i64 (x2 - 1), (si (si x0 x1 (gi x0 x3)) x3 (gi x0 x1)))
  else none
  else none
  else none
  else none
def M.a3c (x0 : Int) : Option Int :=
  M.a3e (wr .u64 x0) >>= fun y1 =>
  if 0 ≤ y1 then
  some (ishl .u64 1 y1)
  else none
def M.a3b (x0v_0 : Int) : Option (Int × Int) :=
  some (ixor .u64 (ixor .u64 (ixor .u64 x0v_0 (ishl .u64 x0v_0 13)) (ishr .u64 (ixor .u64 x0v_0 (ishl .u64 x0v_0 13)) 7)) (ishl .u64 (ixor .u64 (ixor .u64 x0v_0 (ishl .u64 x0v_0 13)) (ishr .u64 (ixor .u64 x0v_0 (ishl .u64 x0v_0 13)) 7)) 17), ixor .u64 (ixor .u64 (ixor .u64 x0v_0 (ishl .u64 x0v_0 13)) (ishr .u64 (ixor .u64 x0v_0 (ishl .u64 x0v_0 13)) 7)) (ishl .u64 (ixor .u64 (ixor .u64 x0v_0 (ishl .u64 x0v_0 13)) (ishr .u64 (ixor .u64 x0v_0 (ishl .u64 x0v_0 13)) 7)) 17))
mutual
def M.a8 : Int × Int × Int × Int × Int × (List Int) → Option (List Int) := fun ⟨x1, x6, x7v_0, x8, x9, e0⟩ =>
  if x9 ≤ wr .i64 ((wr .i64 (x1 + (wr .i64 ((iquo .i64 x6 4) * 2)))) + 1) then
  M.a3b x7v_0 >>= fun y9 =>
  if wr .i64 (iand .u64 y9.1 (wr .u64 (x8 - 1))) ≥ x6 then
  M.a1h (x1, x6, y9.2, x8, x9, wr .i64 ((wr .i64 (iand .u64 y9.1 (wr .u64 (x8 - 1)))) - x6), e0)
  else
  M.a1h (x1, x6, y9.2, x8, x9, wr .i64 (iand .u64 y9.1 (wr .u64 (x8 - 1))), e0)
  else
  some e0
  partial_fixpoint
def M.a1h : Int × Int × Int × Int × Int × Int × (List Int) → Option (List Int) := fun ⟨x1, x6, x7v_0, x8, x9, x10, e0⟩ =>
  if 0 ≤ wr .i64 (x1 + x10) then
  if wr .i64 (x1 + x10) < (e0.length : Int) then
  if 0 ≤ x9 then
  if x9 < (e0.length : Int) then
  some (gi (si e0 x9 (gi e0 (wr .i64 (x1 + x10)))) (wr .i64 (x1 + x10))) >>= fun v38 =>
  some (si (si e0 x9 (gi e0 (wr .i64 (x1 + x10)))) (wr .i64 (x1 + x10)) (gi e0 x9)) >>= fun v42 =>
  M.a8 (x1, x6, x7v_0, x8, wr .i64 (x9 + 1), v42)
  else none
  else none
  else none
  else none
  partial_fixpoint
end
def M.a2n (x0 : List Int) (x1 : Int) (x2 : Int) : Option (List Int) :=
  if wr .i64 (x2 - x1) ≥ 8 then
  M.a3c (wr .i64 (x2 - x1)) >>= fun y5 =>
  M.a8 (x1, wr .i64 (x2 - x1), wr .u64 (wr .i64 (x2 - x1)), y5, wr .i64 ((wr .i64 (x1 + (wr .i64 ((iquo .i64 (wr .i64 (x2 - x1)) 4) * 2)))) - 1), x0)
  else
  some x0
mutual
def M.ac : (List Int) × Int × Int × Int → Option (List Int) := fun ⟨x0, x1, x2, x3⟩ =>
  M.am (x1, x2, x3, true, true, x0)
  partial_fixpoint
def M.am : Int × Int × Int × Bool × Bool × (List Int) → Option (List Int) := fun ⟨x1, x2, x3, x8, x9, e0⟩ =>
  if wr .i64 (x2 - x1) ≤ 12 then
  M.a2g e0 x1 x2 >>= fun y3 =>
  some y3
  else
  if x3 = 0 then
  M.a2i e0 x1 x2 >>= fun y6 =>
  some y6
  else
  if x8 = true then
  M.a1i (x1, x2, x3, true, x9, wr .i64 (x2 - x1), e0)
  else
  M.a2n e0 x1 x2 >>= fun y9 =>
  M.a1i (x1, x2, wr .i64 (x3 - 1), false, x9, wr .i64 (x2 - x1), y9)
  partial_fixpoint
def M.a1i : Int × Int × Int × Bool × Bool × Int × (List Int) → Option (List Int) := fun ⟨x1, x2, x3, x8, x9, x10, e0⟩ =>
  M.a3d e0 x1 x2 >>= fun y11 =>
  if y11.2 = 2 then
  M.a2j e0 x1 x2 >>= fun y14 =>
  M.a1j (x1, x2, x3, x8, x9, x10, wr .i64 ((wr .i64 (x2 - 1)) - (wr .i64 (y11.1 - x1))), 1, y14)
  else
  M.a1j (x1, x2, x3, x8, x9, x10, y11.1, y11.2, e0)
  partial_fixpoint
def M.a1j : Int × Int × Int × Bool × Bool × Int × Int × Int × (List Int) → Option (List Int) := fun ⟨x1, x2, x3, x8, x9, x10, x11, x12, e0⟩ =>
  if x8 = true then
  if x9 = true then
  M.an (x1, x2, x3, true, true, x10, x11, decide (x12 = 1), e0)
  else
  M.an (x1, x2, x3, true, false, x10, x11, false, e0)
  else
  M.an (x1, x2, x3, false, x9, x10, x11, false, e0)
  partial_fixpoint
def M.an : Int × Int × Int × Bool × Bool × Int × Int × Bool × (List Int) → Option (List Int) := fun ⟨x1, x2, x3, x8, x9, x10, x11, x68, e0⟩ =>
  if x68 = true then
  M.a2k e0 x1 x2 >>= fun y19 =>
  if y19.1 = true then
  some y19.2
  else
  M.a1k (x1, x2, x3, x8, x9, x10, x11, y19.2)
  else
  M.a1k (x1, x2, x3, x8, x9, x10, x11, e0)
  partial_fixpoint
def M.a1k : Int × Int × Int × Bool × Bool × Int × Int × (List Int) → Option (List Int) := fun ⟨x1, x2, x3, x8, x9, x10, x11, e0⟩ =>
  if x1 > 0 then
  if 0 ≤ wr .i64 (x1 - 1) then
  if wr .i64 (x1 - 1) < (e0.length : Int) then
  if 0 ≤ x11 then
  if x11 < (e0.length : Int) then
  M.a0 (gi e0 (wr .i64 (x1 - 1))) (gi e0 x11) >>= fun y37 =>
  M.a1l (x1, x2, x3, x8, x9, x10, x11, !y37, e0)
  else none
  else none
  else none
  else none
  else
  M.a1l (x1, x2, x3, x8, x9, x10, x11, false, e0)
  partial_fixpoint
def M.a1l : Int × Int × Int × Bool × Bool × Int × Int × Bool × (List Int) → Option (List Int) := fun ⟨x1, x2, x3, x8, x9, x10, x11, x87, e0⟩ =>
  if x87 = true then
  M.a2l e0 x1 x2 x11 >>= fun y40 =>
  M.am (y40.1, x2, x3, x8, x9, y40.2)
  else
  M.a2m e0 x1 x2 x11 >>= fun y42 =>
  if wr .i64 (y42.1 - x1) < wr .i64 (x2 - y42.1) then
  M.ac (y42.2.2, x1, y42.1, x3) >>= fun y45 =>
  M.a1m (wr .i64 (y42.1 + 1), x2, x3, decide (wr .i64 (y42.1 - x1) ≥ iquo .i64 x10 8), y42.2.1, y45)
  else
  M.ac (y42.2.2, wr .i64 (y42.1 + 1), x2, x3) >>= fun y47 =>
  M.a1m (x1, y42.1, x3, decide (wr .i64 (x2 - y42.1) ≥ iquo .i64 x10 8), y42.2.1, y47)
  partial_fixpoint
def M.a1m : Int × Int × Int × Bool × Bool × (List Int) → Option (List Int) := fun ⟨x1, x2, x3, x8, x9, e0⟩ =>
  M.am (x1, x2, x3, x8, x9, e0)
  partial_fixpoint
end
def M.a6 (x0 : List Int) : Option (List Int) :=
  M.a3e (wr .u64 (x0.length : Int)) >>= fun y2 =>
  if (x0.length : Int) ≤ 65535 then
  M.ac (x0, 0, (x0.length : Int), y2) >>= fun y5 =>
  some y5
  else none
def M.a4b (pl : Z) : Option (List Int) :=
  M.a5i pl >>= fun y2 =>
  M.a6 y2 >>= fun y5 =>
  some y5
def M.a5k (x0 : Nat) (pl : Z) : Option Nat :=
  some x0
def M.a4c (kq2v_0 : List Int) (kq6b0v_0 : Nat) (a0 : Int) (pl : Z) : Option (List Int) :=
  if ((kq2v_0 ++ [a0]).length : Int) ≤ 1099511627776 then
  some (kq2v_0 ++ [a0])
  else none
def M.a5 : Nat × (List (Int × (List T55))) × (List Int) × Nat × Z → Option (List Int) := fun ⟨x5i, x5, e1v_0, x0q6b0v_0, pl⟩ =>
  (match x5 with
  | [] =>
  some e1v_0
  | kv13 :: rm14 =>
  M.a4c e1v_0 x0q6b0v_0 kv13.1 pl >>= fun y27 =>
  M.a5 (x5i, rm14, y27, x0q6b0v_0, pl))
  partial_fixpoint
def M.a4d (x0q2v_0 : List Int) (x0q6b0v_0 : Nat) (pl : Z) : Option (List Int) :=
  M.a5 (x0q6b0v_0, (gn pl.za x0q6b0v_0), x0q2v_0, x0q6b0v_0, pl)
def M.a4e (x1b0v_0 : Nat) (pl : Z) : Option (List Int) :=
  M.a4d ([] : List Int) x1b0v_0 pl >>= fun y10 =>
  some y10
def M.a4f (x0b0v_0 : Nat) (pl : Z) : Option (List Int) :=
  M.a4e x0b0v_0 pl >>= fun y2 =>
  some y2
def M.a4g (x0b0v_0 : Nat) (pl : Z) : Option (List Int) :=
  M.a4f x0b0v_0 pl >>= fun y2 =>
  M.a6 y2 >>= fun y5 =>
  some y5
def M.a1n (x0 : Nat) (pl : Z) : Option (List Int) :=
  M.a7 x0 pl >>= fun y1 =>
  if y1 = true then
  some ((gn pl.zd x0).series) >>= fun v34 =>
  (match v34 with
  | none =>
  M.a5j pl >>= fun y22 =>
  M.a4b pl >>= fun y25 =>
  some y25
  | some y19 =>
  M.a5k y19 pl >>= fun y28 =>
  M.a4g y28 pl >>= fun y31 =>
  some y31)
  else
  some ([] : List Int)
def M.a2p (x0 : Nat) (pl : Z) : Option Nat :=
  some x0
def M.a4h (kq2v_0 : List Int) (kq6b0v_0 : Nat) (a0 : Int) (pl : Z) : Option (List Int) :=
  if ((kq2v_0 ++ [a0]).length : Int) ≤ 1099511627776 then
  some (kq2v_0 ++ [a0])
  else none
def M.a3 : Nat × (List (Int × Bool)) × (List Int) × Nat × Z → Option (List Int) := fun ⟨x5i, x5, e1v_0, x0q6b0v_0, pl⟩ =>
  (match x5 with
  | [] =>
  some e1v_0
  | kv13 :: rm14 =>
  M.a4h e1v_0 x0q6b0v_0 kv13.1 pl >>= fun y24 =>
  M.a3 (x5i, rm14, y24, x0q6b0v_0, pl))
  partial_fixpoint
def M.a3f (x0q2v_0 : List Int) (x0q6b0v_0 : Nat) (pl : Z) : Option (List Int) :=
  M.a3 (x0q6b0v_0, (gn pl.zf x0q6b0v_0), x0q2v_0, x0q6b0v_0, pl)
def M.a3g (x1b0v_0 : Nat) (pl : Z) : Option (List Int) :=
  M.a3f ([] : List Int) x1b0v_0 pl >>= fun y10 =>
  some y10
def M.a3h (x0b0v_0 : Nat) (pl : Z) : Option (List Int) :=
  M.a3g x0b0v_0 pl >>= fun y2 =>
  some y2
def M.a2o (x0b0v_0 : Nat) (pl : Z) : Option (List Int) :=
  M.a3h x0b0v_0 pl >>= fun y2 =>
  M.a6 y2 >>= fun y5 =>
  some y5
def M.a2q (x0 : Nat) (pl : Z) : Option (List Int) :=
  M.a2p x0 pl >>= fun y1 =>
  M.a2o y1 pl >>= fun y4 =>
  some y4
def M.a4i : Nat × Z → Option ((List Int) × Z) := fun ⟨x8, e0⟩ =>
  M.a2q x8 e0 >>= fun y102 =>
  some (y102, e0)
def M.a4j : Nat × Z → Option ((List Int) × Z) := fun ⟨x8, e0⟩ =>
  M.a4i (x8, e0)
mutual
def M.a1 : Nat × Nat × (List (ByteArray × (Option Nat))) × Z → Option ((List Int) × Z) := fun ⟨x8, x41i, x41, e0⟩ =>
  (match x41 with
  | [] =>
  M.a2q x8 e0 >>= fun y117 =>
  some (y117, e0)
  | kv105 :: rm106 =>
  some (kv105.2) >>= fun v137 =>
  (match v137 with
  | none =>
  M.ad (x8, x41i, rm106, e0)
  | some y121 =>
  if x8 ≠ y121 then
  M.ae (x8, x41i, rm106, y121, (gn e0.zf y121), e0)
  else none))
  partial_fixpoint
def M.ad : Nat × Nat × (List (ByteArray × (Option Nat))) × Z → Option ((List Int) × Z) := fun ⟨x8, x41i, x41, e0⟩ =>
  M.ao (x8, x41i, x41, e0)
  partial_fixpoint
def M.ao : Nat × Nat × (List (ByteArray × (Option Nat))) × Z → Option ((List Int) × Z) := fun ⟨x8, x41i, x41, e0⟩ =>
  M.a1 (x8, x41i, x41, e0)
  partial_fixpoint
def M.ae : Nat × Nat × (List (ByteArray × (Option Nat))) × Nat × (List (Int × Bool)) × Z → Option ((List Int) × Z) := fun ⟨x8, x41i, x41, x47i, x47, e0⟩ =>
  M.a2 (x8, x41i, x41, x47i, x47, e0)
  partial_fixpoint
def M.a2 : Nat × Nat × (List (ByteArray × (Option Nat))) × Nat × (List (Int × Bool)) × Z → Option ((List Int) × Z) := fun ⟨x8, x41i, x41, x47i, x47, e0⟩ =>
  (match x47 with
  | [] =>
  M.a1 (x8, x41i, x41, e0)
  | kv142 :: rm143 =>
  if x8 ≠ x47i then
  M.a2 (x8, x41i, x41, x47i, rm143, {e0 with zf := (sn e0.zf x8 (mdel (gn e0.zf x8) kv142.1))})
  else none)
  partial_fixpoint
end
def M.a4k : Nat × Nat × (List (ByteArray × (Option Nat))) × Z → Option ((List Int) × Z) := fun ⟨x8, x41i, x41, e0⟩ =>
  M.a1 (x8, x41i, x41, e0)
def M.a1o : (Option Nat) × Nat × (List Int) × Int × Int × Z → Option ((List Int) × Z) := fun ⟨x7, x8, x28, x29, x30, e0⟩ =>
  if x30 < x29 then
  if 0 ≤ x30 then
  if x30 < (x28.length : Int) then
  some (sn e0.zf x8 (mset (gn e0.zf x8) (gi x28 x30) true)) >>= fun v58 =>
  M.a1o (x7, x8, x28, x29, wr .i64 (x30 + 1), {e0 with zf := v58})
  else none
  else none
  else
  some (x7) >>= fun v99 =>
  (match v99 with
  | none =>
  none
  | some y64 =>
  some ((gn e0.zh y64).values) >>= fun v98 =>
  (match v98 with
  | none =>
  M.a4j (x8, e0)
  | some y85 =>
  M.a4k (x8, y85, (gn e0.ze y85), e0)))
  partial_fixpoint
def M.a3j (pl : Z) : Option Unit :=
  some ()
def M.a77 : (List Int) × Z → Option Unit := fun ⟨x0q2v_0, pl⟩ =>
  some ()
def M.a78 (x0q2v_0 : List Int) (pl : Z) : Option Unit :=
  M.a77 (x0q2v_0, pl)
def M.a79 (pl : Z) : Option (List Int) :=
  M.a78 ([] : List Int) pl >>= fun y10 =>
  some ([] : List Int)
def M.a5l (pl : Z) : Option (List Int) :=
  M.a79 pl >>= fun y2 =>
  some y2
def M.a3i (pl : Z) : Option (List Int) :=
  M.a5l pl >>= fun y2 =>
  M.a6 y2 >>= fun y5 =>
  some y5
def M.a4l (pl : Z) : Option (List Int) :=
  M.a3j pl >>= fun y1 =>
  M.a3i pl >>= fun y4 =>
  some y4
def M.a3k : (List Int) × Z → Option ((List Int) × Z) := fun ⟨x6, e0⟩ =>
  some (x6, e0)
def M.a4m (x0 : Option Nat) (pl : Z) : Option (List Int) :=
  some (x0) >>= fun v17 =>
  (match v17 with
  | none =>
  M.a3j pl >>= fun y5 =>
  M.a3i pl >>= fun y8 =>
  some y8
  | some y2 =>
  M.a2p y2 pl >>= fun y11 =>
  M.a2o y11 pl >>= fun y14 =>
  some y14)
def M.a1p (x0 : Nat) (x1 : ByteArray) (x2 : ByteArray) (pl : Z) : Option ((List Int) × Z) :=
  M.a12 x0 x1 pl >>= fun y1 =>
  if (x2.toList == (⟨#[]⟩ : ByteArray).toList) = true then
  M.a1n x0 ({y1.2 with zf := (y1.2.zf ++ [[]])}) >>= fun y8 =>
  M.a1o (y1.1, y1.2.zf.length, y8, (y8.length : Int), 0, {y1.2 with zf := (y1.2.zf ++ [[]])})
  else
  some (y1.1) >>= fun v50 =>
  (match v50 with
  | none =>
  none
  | some y13 =>
  some ((gn y1.2.zh y13).values) >>= fun v49 =>
  (match v49 with
  | none =>
  M.a4l y1.2 >>= fun y37 =>
  M.a3k (y37, y1.2)
  | some y34 =>
  some ((mget (gn y1.2.ze y34) x2).getD (none : Option Nat)) >>= fun v41 =>
  M.a4m v41 y1.2 >>= fun y46 =>
  M.a3k (y46, y1.2)))
def M.a2r : (List Int) × (List Int) × Int → Option Bool := fun ⟨x0, x1, x5⟩ =>
  if x5 < (x0.length : Int) then
  if 0 ≤ x5 then
  if x5 < (x1.length : Int) then
  if gi x0 x5 = gi x1 x5 then
  M.a2r (x0, x1, wr .i64 (x5 + 1))
  else
  some false
  else none
  else none
  else
  some true
  partial_fixpoint
def M.a3l (x0 : List Int) (x1 : List Int) : Option Bool :=
  if (x0.length : Int) = (x1.length : Int) then
  M.a2r (x0, x1, 0)
  else
  some false
def M.a5n (pl : Z) : Option Unit :=
  some ()
def M.a7a : (List ByteArray) × Z → Option Unit := fun ⟨x0q2v_0, pl⟩ =>
  some ()
def M.a7b (x0q2v_0 : List ByteArray) (pl : Z) : Option Unit :=
  M.a7a (x0q2v_0, pl)
def M.a7c (pl : Z) : Option (List ByteArray) :=
  M.a7b ([] : List ByteArray) pl >>= fun y10 =>
  some ([] : List ByteArray)
def M.a5m (pl : Z) : Option (List ByteArray) :=
  M.a7c pl >>= fun y2 =>
  some y2
def M.a4n (pl : Z) : Option (List ByteArray) :=
  M.a5m pl >>= fun y2 =>
  if (y2.length : Int) ≤ 1099511627776 then
  some (srtS y2)
  else none
def M.a5o (x0 : Nat) (pl : Z) : Option Nat :=
  some x0
def M.a4o (kq2v_0 : List ByteArray) (kq6b0v_0 : Nat) (a0 : ByteArray) (pl : Z) : Option (List ByteArray) :=
  if ((kq2v_0 ++ [a0]).length : Int) ≤ 1099511627776 then
  some (kq2v_0 ++ [a0])
  else none
def M.a4 : Nat × (List (ByteArray × (Option Nat))) × (List ByteArray) × Nat × Z → Option (List ByteArray) := fun ⟨x5i, x5, e1v_0, x0q6b0v_0, pl⟩ =>
  (match x5 with
  | [] =>
  some e1v_0
  | kv13 :: rm14 =>
  M.a4o e1v_0 x0q6b0v_0 kv13.1 pl >>= fun y25 =>
  M.a4 (x5i, rm14, y25, x0q6b0v_0, pl))
  partial_fixpoint
def M.a3m (x0q2v_0 : List ByteArray) (x0q6b0v_0 : Nat) (pl : Z) : Option (List ByteArray) :=
  M.a4 (x0q6b0v_0, (gn pl.ze x0q6b0v_0), x0q2v_0, x0q6b0v_0, pl)
def M.a3n (x1b0v_0 : Nat) (pl : Z) : Option (List ByteArray) :=
  M.a3m ([] : List ByteArray) x1b0v_0 pl >>= fun y10 =>
  some y10
def M.a3o (x0b0v_0 : Nat) (pl : Z) : Option (List ByteArray) :=
  M.a3n x0b0v_0 pl >>= fun y2 =>
  some y2
def M.a2s (x0b0v_0 : Nat) (pl : Z) : Option (List ByteArray) :=
  M.a3o x0b0v_0 pl >>= fun y2 =>
  if (y2.length : Int) ≤ 1099511627776 then
  some (srtS y2)
  else none
def M.a1x (x0 : Nat) (x1 : ByteArray) (pl : Z) : Option ((List ByteArray) × Z) :=
  M.a12 x0 x1 pl >>= fun y1 =>
  some (y1.1) >>= fun v41 =>
  (match v41 with
  | none =>
  none
  | some y4 =>
  some ((gn y1.2.zh y4).values) >>= fun v40 =>
  (match v40 with
  | none =>
  M.a5n y1.2 >>= fun y28 =>
  M.a4n y1.2 >>= fun y31 =>
  some (y31, y1.2)
  | some y25 =>
  M.a5o y25 y1.2 >>= fun y34 =>
  M.a2s y34 y1.2 >>= fun y37 =>
  some (y37, y1.2)))
def M.a2t : (List ByteArray) × (List ByteArray) × Int → Option Bool := fun ⟨x0, x1, x5⟩ =>
  if x5 < (x0.length : Int) then
  if 0 ≤ x5 then
  if x5 < (x1.length : Int) then
  if ((gi x0 x5).toList == (gi x1 x5).toList) = true then
  M.a2t (x0, x1, wr .i64 (x5 + 1))
  else
  some false
  else none
  else none
  else
  some true
  partial_fixpoint
def M.a4p (x0 : List ByteArray) (x1 : List ByteArray) : Option Bool :=
  if (x0.length : Int) = (x1.length : Int) then
  M.a2t (x0, x1, 0)
  else
  some false
def M.a5p (x0 : Nat) (x1 : ByteArray) (pl : Z) : Option (Int × Z) :=
  M.a12 x0 x1 pl >>= fun y1 =>
  some (y1.1) >>= fun v24 =>
  (match v24 with
  | none =>
  none
  | some y4 =>
  some ((gn y1.2.zh y4).size, y1.2))
def M.a2u (pl : Z) : Option (Bool × Z) :=
  M.a4q pl >>= fun y1 =>
  some [(⟨(⟨#[97]⟩ : ByteArray), (⟨#[120]⟩ : ByteArray)⟩ : T55)] >>= fun v5 =>
  M.a16 y1.1 5 v5 y1.2 >>= fun y9 =>
  some [(⟨(⟨#[97]⟩ : ByteArray), (⟨#[121]⟩ : ByteArray)⟩ : T55), (⟨(⟨#[98]⟩ : ByteArray), (⟨#[122]⟩ : ByteArray)⟩ : T55)] >>= fun v13 =>
  M.a16 y1.1 7 v13 y9.2 >>= fun y17 =>
  M.a1p y1.1 (⟨#[97]⟩ : ByteArray) (⟨#[120]⟩ : ByteArray) y17.2 >>= fun y19 =>
  M.a3l y19.1 [5] >>= fun y27 =>
  if y27 = true then
  M.a1p y1.1 (⟨#[98]⟩ : ByteArray) (⟨#[]⟩ : ByteArray) y19.2 >>= fun y30 =>
  M.a3l y30.1 [5] >>= fun y38 =>
  if y38 = true then
  M.a1x y1.1 (⟨#[97]⟩ : ByteArray) y30.2 >>= fun y41 =>
  some [(⟨#[120]⟩ : ByteArray), (⟨#[121]⟩ : ByteArray)] >>= fun v46 =>
  M.a4p y41.1 v46 >>= fun y51 =>
  if y51 = true then
  M.a5p y1.1 (⟨#[98]⟩ : ByteArray) y41.2 >>= fun y54 =>
  some (decide (y54.1 = 1), y54.2)
  else
  some (false, y41.2)
  else
  some (false, y30.2)
  else
  some (false, y19.2)
def M.a9 (pl : Z) : Option Unit :=
  some ()
def M.a5r (x1 : ByteArray) (x2 : T64) (pl : Z) : Option Int :=
  M.a9 pl >>= fun y3 =>
  some 1
mutual
def M.a4u : T64 × Int × Int → Option (Bool × Int) := fun ⟨x0, x1, x2v_0⟩ =>
  if x1 = 0 then
  M.a5s (x1, x0, true, wr .i64 (x2v_0 + 1))
  else
  M.a5s (x1, x0, decide (wr .i64 (x2v_0 + 1) > 4096), wr .i64 (x2v_0 + 1))
  partial_fixpoint
def M.a5s : Int × T64 × Bool × Int → Option (Bool × Int) := fun ⟨x1, x3v, x21, e0v_0⟩ =>
  if x21 = true then
  some (false, e0v_0)
  else
  M.a5t (x1, x3v.L, (x3v.L.length : Int), 0, e0v_0)
  partial_fixpoint
def M.a5t : Int × (List T64) × Int × Int × Int → Option (Bool × Int) := fun ⟨x1, x23, x24, x25, e0v_0⟩ =>
  if x25 < x24 then
  if 0 ≤ x25 then
  if x25 < (x23.length : Int) then
  M.a4u (gi x23 x25, wr .i64 (x1 - 1), e0v_0) >>= fun y19 =>
  if y19.1 = true then
  M.a5t (x1, x23, x24, wr .i64 (x25 + 1), y19.2)
  else
  some (false, y19.2)
  else none
  else none
  else
  some (true, e0v_0)
  partial_fixpoint
end
mutual
def M.a4v : T64 → Option Bool := fun x0 =>
  if x0.Op = 0 then
  M.a5u (x0, x0.Op, true)
  else
  M.a5u (x0, x0.Op, decide (x0.Op = 1))
  partial_fixpoint
def M.a5u : T64 × Int × Bool → Option Bool := fun ⟨x1v, x4, x5⟩ =>
  if x5 = true then
  if (x1v.Text.toList == (⟨#[]⟩ : ByteArray).toList) = true then
  some (decide ((x1v.L.length : Int) = 0))
  else
  some false
  else
  if x4 = 2 then
  if (x1v.Text.size : Int) = 3 then
  some (decide ((x1v.L.length : Int) = 0))
  else
  some false
  else
  if x4 = 3 then
  M.a5v (x1v, true)
  else
  M.a5v (x1v, decide (x4 = 4))
  partial_fixpoint
def M.a5v : T64 × Bool → Option Bool := fun ⟨x1v, x29⟩ =>
  if x29 = true then
  if (x1v.Text.toList == (⟨#[]⟩ : ByteArray).toList) = true then
  M.a7d x1v.L >>= fun y13 =>
  some (!y13)
  else
  some false
  else
  some false
  partial_fixpoint
def M.a7d : (List T64) → Option Bool := fun x0 =>
  M.a7e x0 >>= fun y1 =>
  some (decide (y1 ≥ 0))
  partial_fixpoint
def M.a7e : (List T64) → Option Int := fun x0 =>
  M.a5w (x0, (x0.length : Int), 0)
  partial_fixpoint
def M.a5w : (List T64) × Int × Int → Option Int := fun ⟨x0, x7, x8⟩ =>
  if x8 < x7 then
  if 0 ≤ x8 then
  if x8 < (x0.length : Int) then
  M.a7f (gi x0 x8) >>= fun y11 =>
  if y11 = true then
  some x8
  else
  M.a5w (x0, x7, wr .i64 (x8 + 1))
  else none
  else none
  else
  some (-1)
  partial_fixpoint
def M.a7f : T64 → Option Bool := fun x0 =>
  M.a4v x0 >>= fun y3 =>
  some (!y3)
  partial_fixpoint
end
def M.a5x (x0 : T64) : Option Int :=
  M.a4u (x0, 8, 0) >>= fun y5 =>
  if y5.1 = true then
  M.a4v x0 >>= fun y8 =>
  if y8 = true then
  some 0
  else
  some 2
  else
  some 2
def M.a7g (x0 : Option Nat) (x1 : T64) (pl : Z) : Option ((Option Nat) × T64) :=
  some (x0, x1)
def M.a7h (pl : Z) : Option Unit :=
  some ()
def M.a7i : (List Int) × Z → Option Unit := fun ⟨x0q2v_0, pl⟩ =>
  some ()
def M.a7j (x0q2v_0 : List Int) (pl : Z) : Option Unit :=
  M.a7i (x0q2v_0, pl)
def M.a7k (pl : Z) : Option (List Int) :=
  M.a7j ([] : List Int) pl >>= fun y10 =>
  some ([] : List Int)
def M.a7l (pl : Z) : Option (List Int) :=
  M.a7k pl >>= fun y2 =>
  some y2
def M.a7m (pl : Z) : Option (List Int) :=
  M.a7l pl >>= fun y2 =>
  M.a6 y2 >>= fun y5 =>
  some y5
def M.a7n (x0 : Option Nat) (pl : Z) : Option Bool :=
  M.a2b x0 pl >>= fun y1 =>
  some (!y1)
def M.a7o (x0 : Option Nat) (x1 : ByteArray) (pl : Z) : Option (List Int) :=
  M.a2b x0 pl >>= fun y1 =>
  if y1 = true then
  some (x0) >>= fun v34 =>
  (match v34 with
  | none =>
  none
  | some y5 =>
  some (((gn pl.zj y5).l).at_) >>= fun v33 =>
  (match v33 with
  | none =>
  M.ap ([] : List Int) >>= fun y20 =>
  some y20
  | some y17 =>
  some ((mget (gn pl.zi y17) x1).getD ([] : List Int)) >>= fun v23 =>
  M.ap v23 >>= fun y30 =>
  some y30))
  else
  some ([] : List Int)
def M.a7p (x0 : Int) : Option Bool :=
  some (decide (x0 = 3))
def M.a7q (kq7v_0 : List Int) (kq12b0v_0 : List Int) (kq12b1v_0 : List Int) (a0 : Int) (a1 : Int) : Option (List Int) :=
  M.a7p a1 >>= fun y7 =>
  if y7 = true then
  if ((kq7v_0 ++ [a0]).length : Int) ≤ 1099511627776 then
  some (kq7v_0 ++ [a0])
  else none
  else
  some kq7v_0
mutual
def M.a4w : (List Int) × (List Int) × (List Int) → Option ((List Int) × (List Int) × (List Int)) := fun ⟨e2v_0, e3v_0, e4v_0⟩ =>
  if (e3v_0.length : Int) > 0 then
  M.a5y (true, e2v_0, e3v_0, e4v_0)
  else
  M.a5y (decide ((e4v_0.length : Int) > 0), e2v_0, e3v_0, e4v_0)
  partial_fixpoint
def M.a5y : Bool × (List Int) × (List Int) × (List Int) → Option ((List Int) × (List Int) × (List Int)) := fun ⟨x13, e2v_0, e3v_0, e4v_0⟩ =>
  if x13 = true then
  if (e4v_0.length : Int) = 0 then
  M.a4x (0, true, e2v_0, e3v_0, e4v_0)
  else
  if (e3v_0.length : Int) > 0 then
  if 0 < (e3v_0.length : Int) then
  if 0 < (e4v_0.length : Int) then
  M.a4x (0, decide (gi e3v_0 0 ≤ gi e4v_0 0), e2v_0, e3v_0, e4v_0)
  else none
  else none
  else
  M.a4x (0, false, e2v_0, e3v_0, e4v_0)
  else
  some (e2v_0, e3v_0, e4v_0)
  partial_fixpoint
def M.a4x : Int × Bool × (List Int) × (List Int) × (List Int) → Option ((List Int) × (List Int) × (List Int)) := fun ⟨x4, x30, e2v_0, e3v_0, e4v_0⟩ =>
  if x30 = true then
  M.a5z (ior .i64 x4 1, e2v_0, e3v_0, e4v_0)
  else
  M.a5z (x4, e2v_0, e3v_0, e4v_0)
  partial_fixpoint
def M.a5z : Int × (List Int) × (List Int) × (List Int) → Option ((List Int) × (List Int) × (List Int)) := fun ⟨x4, e2v_0, e3v_0, e4v_0⟩ =>
  if (e3v_0.length : Int) = 0 then
  M.a4y (x4, true, e2v_0, e3v_0, e4v_0)
  else
  if (e4v_0.length : Int) > 0 then
  if 0 < (e4v_0.length : Int) then
  if 0 < (e3v_0.length : Int) then
  M.a4y (x4, decide (gi e4v_0 0 ≤ gi e3v_0 0), e2v_0, e3v_0, e4v_0)
  else none
  else none
  else
  M.a4y (x4, false, e2v_0, e3v_0, e4v_0)
  partial_fixpoint
def M.a4y : Int × Bool × (List Int) × (List Int) × (List Int) → Option ((List Int) × (List Int) × (List Int)) := fun ⟨x4, x49, e2v_0, e3v_0, e4v_0⟩ =>
  if x49 = true then
  M.a60 (ior .i64 x4 2, e2v_0, e3v_0, e4v_0)
  else
  M.a60 (x4, e2v_0, e3v_0, e4v_0)
  partial_fixpoint
def M.a60 : Int × (List Int) × (List Int) × (List Int) → Option ((List Int) × (List Int) × (List Int)) := fun ⟨x4, e2v_0, e3v_0, e4v_0⟩ =>
  if iand .i64 x4 2 = 0 then
  M.a61 (x4, 0, e2v_0, e3v_0, e4v_0)
  else
  if 0 < (e4v_0.length : Int) then
  if 1 ≤ (e4v_0.length : Int) then
  M.a61 (x4, gi e4v_0 0, e2v_0, e3v_0, (sl e4v_0 1 (e4v_0.length : Int)))
  else none
  else none
  partial_fixpoint
def M.a61 : Int × Int × (List Int) × (List Int) × (List Int) → Option ((List Int) × (List Int) × (List Int)) := fun ⟨x4, x5, e2v_0, e3v_0, e4v_0⟩ =>
  if iand .i64 x4 1 = 0 then
  M.a62 (x4, x5, e2v_0, e3v_0, e4v_0)
  else
  if 0 < (e3v_0.length : Int) then
  if 1 ≤ (e3v_0.length : Int) then
  M.a62 (x4, gi e3v_0 0, e2v_0, (sl e3v_0 1 (e3v_0.length : Int)), e4v_0)
  else none
  else none
  partial_fixpoint
def M.a62 : Int × Int × (List Int) × (List Int) × (List Int) → Option ((List Int) × (List Int) × (List Int)) := fun ⟨x4, x5, e2v_0, e3v_0, e4v_0⟩ =>
  M.a7q e2v_0 e3v_0 e4v_0 x5 x4 >>= fun y57 =>
  M.a4w (y57, e3v_0, e4v_0)
  partial_fixpoint
end
def M.a7r (x0q7v_0 : List Int) (x0q12b0v_0 : List Int) (x0q12b1v_0 : List Int) : Option ((List Int) × (List Int) × (List Int)) :=
  M.a4w (x0q7v_0, x0q12b0v_0, x0q12b1v_0)
def M.a7s (x0 : List Int) (x1 : List Int) : Option (List Int) :=
  M.a31 x0 x1 >>= fun y5 =>
  M.a7r ([] : List Int) y5.1 y5.2 >>= fun y15 =>
  some y15.1
def M.a63 : (List Int) × (List (List Int)) × Int × Int → Option ((List Int) × Int) := fun ⟨x9, x35, x36, x37⟩ =>
  if x37 < x36 then
  if 0 ≤ x37 then
  if x37 < (x35.length : Int) then
  M.a7s x9 (gi x35 x37) >>= fun y43 =>
  M.a63 (y43, x35, x36, wr .i64 (x37 + 1))
  else none
  else none
  else
  some (x9, 0)
  partial_fixpoint
def M.a64 : (List (List Int)) × (List (List Int)) × Int × Int → Option ((List Int) × Int) := fun ⟨x0, x15, x16, x17⟩ =>
  if x17 < x16 then
  if 0 ≤ x17 then
  if x17 < (x15.length : Int) then
  M.a1r (gi x15 x17) >>= fun y12 =>
  if y12 = 0 then
  M.a64 (x0, x15, x16, wr .i64 (x17 + 1))
  else
  some (([] : List Int), y12)
  else none
  else none
  else
  if (x0.length : Int) = 0 then
  some (([] : List Int), 0)
  else
  if 0 < (x0.length : Int) then
  M.ap (gi x0 0) >>= fun y25 =>
  if 1 ≤ (x0.length : Int) then
  M.a63 (y25, (sl x0 1 (x0.length : Int)), ((sl x0 1 (x0.length : Int)).length : Int), 0)
  else none
  else none
  partial_fixpoint
def M.a7t (x0 : List (List Int)) : Option ((List Int) × Int) :=
  if (x0.length : Int) > 4096 then
  some (([] : List Int), 3)
  else
  M.a64 (x0, x0, (x0.length : Int), 0)
def M.a7u (x0 : List (List Int)) : Option ((List Int) × Int) :=
  M.a7t x0 >>= fun y1 =>
  some (y1.1, y1.2)
mutual
def M.a3t : T64 × (Option Nat) × (List Int) × Z → Option (List Int) := fun ⟨x0, x1, x2, pl⟩ =>
  if x0.Op = 0 then
  M.ap x2 >>= fun y4 =>
  some y4
  else
  if x0.Op = 2 then
  M.a7o x1 x0.Text pl >>= fun y8 =>
  M.a7u [x2, y8] >>= fun y16 =>
  some y16.1
  else
  if x0.Op = 3 then
  M.ap x2 >>= fun y20 =>
  M.a65 (x1, y20, x0.L, (x0.L.length : Int), 0, pl)
  else
  if x0.Op = 4 then
  M.a66 (x1, x2, ([] : List Int), x0.L, (x0.L.length : Int), 0, pl)
  else
  some ([] : List Int)
  partial_fixpoint
def M.a65 : (Option Nat) × (List Int) × (List T64) × Int × Int × Z → Option (List Int) := fun ⟨x1, x7, x35, x36, x37, pl⟩ =>
  if x37 < x36 then
  if 0 ≤ x37 then
  if x37 < (x35.length : Int) then
  M.a3t (gi x35 x37, x1, x7, pl) >>= fun y41 =>
  M.a65 (x1, y41, x35, x36, wr .i64 (x37 + 1), pl)
  else none
  else none
  else
  some x7
  partial_fixpoint
def M.a66 : (Option Nat) × (List Int) × (List Int) × (List T64) × Int × Int × Z → Option (List Int) := fun ⟨x1, x2, x7, x49, x50, x51, pl⟩ =>
  if x51 < x50 then
  if 0 ≤ x51 then
  if x51 < (x49.length : Int) then
  M.a3t (gi x49 x51, x1, x2, pl) >>= fun y56 =>
  M.a32 [x7, y56] >>= fun y65 =>
  M.a66 (x1, x2, y65.1, x49, x50, wr .i64 (x51 + 1), pl)
  else none
  else none
  else
  some x7
  partial_fixpoint
end
def M.a67 : (Option Nat) × (List Int) × T64 × Bool × Z → Option ((List Int) × Int) := fun ⟨x1, x2, x3v, x15, pl⟩ =>
  if x15 = true then
  some (([] : List Int), 2)
  else
  M.a7n x1 pl >>= fun y11 =>
  if y11 = true then
  some (([] : List Int), 1)
  else
  M.a3t (x3v, x1, x2, pl) >>= fun y15 =>
  some (y15, 0)
def M.a7v (x0 : T64) (x1 : Option Nat) (x2 : List Int) (pl : Z) : Option ((List Int) × Int) :=
  M.a5x x0 >>= fun y3 =>
  if y3 = 0 then
  M.a1r x2 >>= fun y6 =>
  M.a67 (x1, x2, x0, !(decide (y6 = 0)), pl)
  else
  M.a67 (x1, x2, x0, true, pl)
def M.a68 (kq2v_0 : List ByteArray) (kq6b0v_0 : Nat) (kq6b1v : T64) (a0 : ByteArray) (pl : Z) : Option (List ByteArray) :=
  if ((kq2v_0 ++ [a0]).length : Int) ≤ 1099511627776 then
  some (kq2v_0 ++ [a0])
  else none
mutual
def M.a4z : (List Int) × Int × Int × (List ByteArray) × Nat × T64 × Z → Option ((List ByteArray) × Nat) := fun ⟨x25, x26, x27, e1v_0, e2v_0, x0q6b1v, pl⟩ =>
  if x27 < x26 then
  if 0 ≤ x27 then
  if x27 < (x25.length : Int) then
  some ((gn pl.zh e2v_0).texts) >>= fun v110 =>
  (match v110 with
  | none =>
  M.a68 e1v_0 e2v_0 x0q6b1v (⟨#[]⟩ : ByteArray) pl >>= fun y98 =>
  M.a69 (x25, x26, x27, false, y98, e2v_0, x0q6b1v, pl)
  | some y95 =>
  some ((mget (gn pl.zg y95) (gi x25 x27)).getD (⟨#[]⟩ : ByteArray)) >>= fun v103 =>
  M.a68 e1v_0 e2v_0 x0q6b1v v103 pl >>= fun y107 =>
  M.a69 (x25, x26, x27, false, y107, e2v_0, x0q6b1v, pl))
  else none
  else none
  else
  some (e1v_0, e2v_0)
  partial_fixpoint
def M.a69 : (List Int) × Int × Int × Bool × (List ByteArray) × Nat × T64 × Z → Option ((List ByteArray) × Nat) := fun ⟨x25, x26, x27, x39, e1v_0, e2v_0, x0q6b1v, pl⟩ =>
  if x39 = true then
  some (e1v_0, e2v_0)
  else
  M.a4z (x25, x26, wr .i64 (x27 + 1), e1v_0, e2v_0, x0q6b1v, pl)
  partial_fixpoint
end
def M.a6a : (List Int) × (List ByteArray) × Nat × T64 × Z → Option ((List ByteArray) × Nat) := fun ⟨x4, e1v_0, e2v_0, x0q6b1v, pl⟩ =>
  M.a7v x0q6b1v ((gn pl.zh e2v_0).grams) x4 pl >>= fun y65 =>
  M.a4z (y65.1, (y65.1.length : Int), 0, e1v_0, e2v_0, x0q6b1v, pl)
def M.a7w (x0 : Nat) (pl : Z) : Option Nat :=
  some x0
def M.a6b (kq2v_0 : List Int) (kq6b0v_0 : Nat) (a0 : Int) (pl : Z) : Option (List Int) :=
  if ((kq2v_0 ++ [a0]).length : Int) ≤ 1099511627776 then
  some (kq2v_0 ++ [a0])
  else none
def M.aa : Nat × (List (Int × ByteArray)) × (List Int) × Nat × Z → Option (List Int) := fun ⟨x5i, x5, e1v_0, x0q6b0v_0, pl⟩ =>
  (match x5 with
  | [] =>
  some e1v_0
  | kv13 :: rm14 =>
  M.a6b e1v_0 x0q6b0v_0 kv13.1 pl >>= fun y24 =>
  M.aa (x5i, rm14, y24, x0q6b0v_0, pl))
  partial_fixpoint
def M.a7x (x0q2v_0 : List Int) (x0q6b0v_0 : Nat) (pl : Z) : Option (List Int) :=
  M.aa (x0q6b0v_0, (gn pl.zg x0q6b0v_0), x0q2v_0, x0q6b0v_0, pl)
def M.a7y (x1b0v_0 : Nat) (pl : Z) : Option (List Int) :=
  M.a7x ([] : List Int) x1b0v_0 pl >>= fun y10 =>
  some y10
def M.a7z (x0b0v_0 : Nat) (pl : Z) : Option (List Int) :=
  M.a7y x0b0v_0 pl >>= fun y2 =>
  some y2
def M.a80 (x0b0v_0 : Nat) (pl : Z) : Option (List Int) :=
  M.a7z x0b0v_0 pl >>= fun y2 =>
  M.a6 y2 >>= fun y5 =>
  some y5
def M.a81 (x0q2v_0 : List ByteArray) (x0q6b0v_0 : Option Nat) (x0q6b1v : T64) (pl : Z) : Option ((List ByteArray) × Nat) :=
  some (x0q6b0v_0) >>= fun v46 =>
  (match v46 with
  | none =>
  none
  | some y7 =>
  some ((gn pl.zh y7).texts) >>= fun v45 =>
  (match v45 with
  | none =>
  M.a7h pl >>= fun y31 =>
  M.a7m pl >>= fun y34 =>
  M.a6a (y34, x0q2v_0, y7, x0q6b1v, pl)
  | some y28 =>
  M.a7w y28 pl >>= fun y39 =>
  M.a80 y39 pl >>= fun y42 =>
  M.a6a (y42, x0q2v_0, y7, x0q6b1v, pl)))
def M.a82 (x1b0v_0 : Option Nat) (x1b1v : T64) (pl : Z) : Option ((List ByteArray) × Nat) :=
  M.a81 ([] : List ByteArray) x1b0v_0 x1b1v pl >>= fun y11 =>
  some (y11.1, y11.2)
def M.a83 (x0b0v_0 : Option Nat) (x0b1v : T64) (pl : Z) : Option ((List ByteArray) × Nat) :=
  M.a82 x0b0v_0 x0b1v pl >>= fun y3 =>
  some (y3.1, y3.2)
def M.a84 (x0b0v_0 : Option Nat) (x0b1v : T64) (pl : Z) : Option ((List ByteArray) × Nat) :=
  M.a83 x0b0v_0 x0b1v pl >>= fun y3 =>
  if (y3.1.length : Int) ≤ 1099511627776 then
  some ((srtS y3.1), y3.2)
  else none
def M.a50 (x0 : Nat) (x1 : ByteArray) (x2 : T64) (pl : Z) : Option ((List ByteArray) × Int × Z) :=
  M.a7 x0 pl >>= fun y3 =>
  if y3 = true then
  M.a5x x2 >>= fun y6 =>
  if y6 = 0 then
  M.a12 x0 x1 pl >>= fun y9 =>
  M.a7g y9.1 x2 y9.2 >>= fun y11 =>
  M.a84 y11.1 y11.2 y9.2 >>= fun y15 =>
  some (y15.1, 0, y9.2)
  else
  some (([] : List ByteArray), y6, pl)
  else
  some (([] : List ByteArray), 1, pl)
def M.a6c (x1 : Int) (pl : Z) : Option Unit :=
  M.a9 pl >>= fun y1 =>
  some ()
def M.a51 (x0 : Nat) (x1 : List T55) (pl : Z) : Option (Int × Bool) :=
  M.a7 x0 pl >>= fun y1 =>
  if y1 = true then
  M.a21 x1 >>= fun y4 =>
  if y4.2 = 0 then
  some ((gn pl.zd x0).ids) >>= fun v27 =>
  (match v27 with
  | none =>
  some (0, false)
  | some y22 =>
  some (((mget (gn pl.zb y22) y4.1).getD 0), (mget (gn pl.zb y22) y4.1).isSome))
  else
  some (0, false)
  else
  some (0, false)
def M.a6d (x1 : Int) (x2 : List T55) (pl : Z) : Option Int :=
  M.a9 pl >>= fun y1 =>
  some 1
def M.a6e (x1 : Int) (pl : Z) : Option Int :=
  M.a9 pl >>= fun y1 =>
  some 1
def M.a85 (x0 : Int) : Option Bool :=
  some (decide (x0 = 1))
def M.a86 (kq7v_0 : List Int) (kq12b0v_0 : List Int) (kq12b1v_0 : List Int) (a0 : Int) (a1 : Int) : Option (List Int) :=
  M.a85 a1 >>= fun y7 =>
  if y7 = true then
  if ((kq7v_0 ++ [a0]).length : Int) ≤ 1099511627776 then
  some (kq7v_0 ++ [a0])
  else none
  else
  some kq7v_0
mutual
def M.a52 : (List Int) × (List Int) × (List Int) → Option ((List Int) × (List Int) × (List Int)) := fun ⟨e2v_0, e3v_0, e4v_0⟩ =>
  if (e3v_0.length : Int) > 0 then
  M.a6f (true, e2v_0, e3v_0, e4v_0)
  else
  M.a6f (decide ((e4v_0.length : Int) > 0), e2v_0, e3v_0, e4v_0)
  partial_fixpoint
def M.a6f : Bool × (List Int) × (List Int) × (List Int) → Option ((List Int) × (List Int) × (List Int)) := fun ⟨x13, e2v_0, e3v_0, e4v_0⟩ =>
  if x13 = true then
  if (e4v_0.length : Int) = 0 then
  M.a53 (0, true, e2v_0, e3v_0, e4v_0)
  else
  if (e3v_0.length : Int) > 0 then
  if 0 < (e3v_0.length : Int) then
  if 0 < (e4v_0.length : Int) then
  M.a53 (0, decide (gi e3v_0 0 ≤ gi e4v_0 0), e2v_0, e3v_0, e4v_0)
  else none
  else none
  else
  M.a53 (0, false, e2v_0, e3v_0, e4v_0)
  else
  some (e2v_0, e3v_0, e4v_0)
  partial_fixpoint
def M.a53 : Int × Bool × (List Int) × (List Int) × (List Int) → Option ((List Int) × (List Int) × (List Int)) := fun ⟨x4, x30, e2v_0, e3v_0, e4v_0⟩ =>
  if x30 = true then
  M.a6g (ior .i64 x4 1, e2v_0, e3v_0, e4v_0)
  else
  M.a6g (x4, e2v_0, e3v_0, e4v_0)
  partial_fixpoint
def M.a6g : Int × (List Int) × (List Int) × (List Int) → Option ((List Int) × (List Int) × (List Int)) := fun ⟨x4, e2v_0, e3v_0, e4v_0⟩ =>
  if (e3v_0.length : Int) = 0 then
  M.a54 (x4, true, e2v_0, e3v_0, e4v_0)
  else
  if (e4v_0.length : Int) > 0 then
  if 0 < (e4v_0.length : Int) then
  if 0 < (e3v_0.length : Int) then
  M.a54 (x4, decide (gi e4v_0 0 ≤ gi e3v_0 0), e2v_0, e3v_0, e4v_0)
  else none
  else none
  else
  M.a54 (x4, false, e2v_0, e3v_0, e4v_0)
  partial_fixpoint
def M.a54 : Int × Bool × (List Int) × (List Int) × (List Int) → Option ((List Int) × (List Int) × (List Int)) := fun ⟨x4, x49, e2v_0, e3v_0, e4v_0⟩ =>
  if x49 = true then
  M.a6h (ior .i64 x4 2, e2v_0, e3v_0, e4v_0)
  else
  M.a6h (x4, e2v_0, e3v_0, e4v_0)
  partial_fixpoint
def M.a6h : Int × (List Int) × (List Int) × (List Int) → Option ((List Int) × (List Int) × (List Int)) := fun ⟨x4, e2v_0, e3v_0, e4v_0⟩ =>
  if iand .i64 x4 2 = 0 then
  M.a6i (x4, 0, e2v_0, e3v_0, e4v_0)
  else
  if 0 < (e4v_0.length : Int) then
  if 1 ≤ (e4v_0.length : Int) then
  M.a6i (x4, gi e4v_0 0, e2v_0, e3v_0, (sl e4v_0 1 (e4v_0.length : Int)))
  else none
  else none
  partial_fixpoint
def M.a6i : Int × Int × (List Int) × (List Int) × (List Int) → Option ((List Int) × (List Int) × (List Int)) := fun ⟨x4, x5, e2v_0, e3v_0, e4v_0⟩ =>
  if iand .i64 x4 1 = 0 then
  M.a6j (x4, x5, e2v_0, e3v_0, e4v_0)
  else
  if 0 < (e3v_0.length : Int) then
  if 1 ≤ (e3v_0.length : Int) then
  M.a6j (x4, gi e3v_0 0, e2v_0, (sl e3v_0 1 (e3v_0.length : Int)), e4v_0)
  else none
  else none
  partial_fixpoint
def M.a6j : Int × Int × (List Int) × (List Int) × (List Int) → Option ((List Int) × (List Int) × (List Int)) := fun ⟨x4, x5, e2v_0, e3v_0, e4v_0⟩ =>
  M.a86 e2v_0 e3v_0 e4v_0 x5 x4 >>= fun y57 =>
  M.a52 (y57, e3v_0, e4v_0)
  partial_fixpoint
end
def M.a87 (x0q7v_0 : List Int) (x0q12b0v_0 : List Int) (x0q12b1v_0 : List Int) : Option ((List Int) × (List Int) × (List Int)) :=
  M.a52 (x0q7v_0, x0q12b0v_0, x0q12b1v_0)
def M.a88 (x0 : List Int) (x1 : List Int) : Option (List Int) :=
  M.a31 x0 x1 >>= fun y5 =>
  M.a87 ([] : List Int) y5.1 y5.2 >>= fun y15 =>
  some y15.1
def M.a6k : (List Int) × (List (List Int)) × Int × Int → Option ((List Int) × Int) := fun ⟨x9, x35, x36, x37⟩ =>
  if x37 < x36 then
  if 0 ≤ x37 then
  if x37 < (x35.length : Int) then
  M.a88 x9 (gi x35 x37) >>= fun y43 =>
  M.a6k (y43, x35, x36, wr .i64 (x37 + 1))
  else none
  else none
  else
  some (x9, 0)
  partial_fixpoint
def M.a6l : (List (List Int)) × (List (List Int)) × Int × Int → Option ((List Int) × Int) := fun ⟨x0, x15, x16, x17⟩ =>
  if x17 < x16 then
  if 0 ≤ x17 then
  if x17 < (x15.length : Int) then
  M.a1r (gi x15 x17) >>= fun y12 =>
  if y12 = 0 then
  M.a6l (x0, x15, x16, wr .i64 (x17 + 1))
  else
  some (([] : List Int), y12)
  else none
  else none
  else
  if (x0.length : Int) = 0 then
  some (([] : List Int), 0)
  else
  if 0 < (x0.length : Int) then
  M.ap (gi x0 0) >>= fun y25 =>
  if 1 ≤ (x0.length : Int) then
  M.a6k (y25, (sl x0 1 (x0.length : Int)), ((sl x0 1 (x0.length : Int)).length : Int), 0)
  else none
  else none
  partial_fixpoint
def M.a89 (x0 : List (List Int)) : Option ((List Int) × Int) :=
  if (x0.length : Int) > 4096 then
  some (([] : List Int), 3)
  else
  M.a6l (x0, x0, (x0.length : Int), 0)
def M.a8a (x0 : List Int) (x1 : List Int) : Option ((List Int) × Int) :=
  M.a89 [x0, x1] >>= fun y5 =>
  some (y5.1, y5.2)
def M.a6m (x0 : List Int) (x1 : Int) : Option ((List Int) × Int) :=
  M.a8a x0 [x1] >>= fun y5 =>
  some (y5.1, y5.2)
def M.a8b (x0 : Option Nat) (x1 : ByteArray) (x2 : Int) (pl : Z) : Option (Int × Z) :=
  M.a2b x0 pl >>= fun y1 =>
  if y1 = true then
  some (x0) >>= fun v40 =>
  (match v40 with
  | none =>
  none
  | some y5 =>
  some (((gn pl.zj y5).l).at_) >>= fun v39 =>
  (match v39 with
  | none =>
  M.a6m ([] : List Int) x2 >>= fun y20 =>
  M.a1v y5 x1 y20.1 pl >>= fun y24 =>
  some (y20.2, y24)
  | some y17 =>
  some ((mget (gn pl.zi y17) x1).getD ([] : List Int)) >>= fun v26 =>
  M.a6m v26 x2 >>= fun y33 =>
  M.a1v y5 x1 y33.1 pl >>= fun y37 =>
  some (y33.2, y37)))
  else
  some (1, pl)
def M.a6n : Nat × ByteArray × Int × Z → Option Z := fun ⟨x0, x1, x7, e0⟩ =>
  some ((gn e0.zh x0).numbers) >>= fun v238 =>
  (match v238 with
  | none =>
  some ((gn e0.zh x0).texts) >>= fun v209 =>
  (match v209 with
  | none =>
  some e0
  | some y203 =>
  some ({e0 with zg := (sn e0.zg y203 (mdel (gn e0.zg y203) x7))}))
  | some y182 =>
  some ((gn e0.zh x0).texts) >>= fun v237 =>
  (match v237 with
  | none =>
  some ({e0 with zb := (sn e0.zb y182 (mdel (gn e0.zb y182) x1))})
  | some y231 =>
  some ({e0 with zb := (sn e0.zb y182 (mdel (gn e0.zb y182) x1)), zg := (sn e0.zg y231 (mdel (gn e0.zg y231) x7))})))
def M.a6o : Nat × ByteArray × Int × (List ByteArray) × Int × Int × Z → Option Z := fun ⟨x0, x1, x7, x35, x36, x37, e0⟩ =>
  if x37 < x36 then
  if 0 ≤ x37 then
  if x37 < (x35.length : Int) then
  M.a8b ((gn e0.zh x0).grams) (gi x35 x37) x7 e0 >>= fun y137 =>
  M.a6o (x0, x1, x7, x35, x36, wr .i64 (x37 + 1), y137.2)
  else none
  else none
  else
  some ((gn e0.zh x0).values) >>= fun v163 =>
  (match v163 with
  | none =>
  M.a6n (x0, x1, x7, e0)
  | some y157 =>
  M.a6n (x0, x1, x7, {e0 with ze := (sn e0.ze y157 (mdel (gn e0.ze y157) x1))}))
  partial_fixpoint
def M.a6p : Nat × ByteArray × Int × Z → Option Z := fun ⟨x0, x1, x7, e0⟩ =>
  M.a30 x1 >>= fun y109 =>
  M.a6o (x0, x1, x7, y109, (y109.length : Int), 0, e0)
def M.a6q : Nat × ByteArray × Bool × Z → Option Z := fun ⟨x0, x1, x27, e0⟩ =>
  if x27 = true then
  some e0
  else
  some ((gn e0.zh x0).numbers) >>= fun v108 =>
  (match v108 with
  | none =>
  M.a6p (x0, x1, 0, e0)
  | some y103 =>
  M.a6p (x0, x1, ((mget (gn e0.zb y103) x1).getD 0), e0))
def M.a6r : Nat × ByteArray × (Option Nat) × Z → Option Z := fun ⟨x0, x1, x6, e0⟩ =>
  some (sn e0.zh x0 (⟨(gn e0.zh x0).values, (gn e0.zh x0).numbers, (gn e0.zh x0).texts, (gn e0.zh x0).grams, (gn e0.zh x0).next, wr .i64 (((gn e0.zh x0).size) - 1)⟩ : T126)) >>= fun v75 =>
  some (x6) >>= fun v83 =>
  (match v83 with
  | none =>
  M.a6q (x0, x1, false, {e0 with zh := v75})
  | some y80 =>
  M.a6q (x0, x1, decide (((gn e0.zf y80).length : Int) > 0), {e0 with zh := v75}))
def M.a6s : Nat × ByteArray × Int × (Option Nat) × Z → Option Z := fun ⟨x0, x1, x2, x6, e0⟩ =>
  some (x6) >>= fun v40 =>
  (match v40 with
  | none =>
  M.a6r (x0, x1, none, e0)
  | some y34 =>
  M.a6r (x0, x1, (some y34), {e0 with zf := (sn e0.zf y34 (mdel (gn e0.zf y34) x2))}))
def M.a8c (x0 : Option Nat) (x1 : ByteArray) (x2 : Int) (pl : Z) : Option Z :=
  some (x0) >>= fun v32 =>
  (match v32 with
  | none =>
  none
  | some y2 =>
  some ((gn pl.zh y2).values) >>= fun v31 =>
  (match v31 with
  | none =>
  M.a6s (y2, x1, x2, none, pl)
  | some y23 =>
  some ((mget (gn pl.ze y23) x1).getD (none : Option Nat)) >>= fun v26 =>
  M.a6s (y2, x1, x2, v26, pl)))
mutual
def M.a55 : Nat × Int × (List T55) × Int × Int × Z → Option (Int × Z) := fun ⟨x0, x1, x41, x42, x43, e0⟩ =>
  if x43 < x42 then
  if 0 ≤ x43 then
  if x43 < (x41.length : Int) then
  some ((gn e0.zd x0).columns) >>= fun v109 =>
  (match v109 with
  | none =>
  M.a6t (x0, x1, gi x41 x43, none, x41, x42, x43, e0)
  | some y100 =>
  some ((mget (gn e0.zc y100) ((gi x41 x43).Name)).getD (none : Option Nat)) >>= fun v104 =>
  M.a6t (x0, x1, gi x41 x43, v104, x41, x42, x43, e0))
  else none
  else none
  else
  some (0, e0)
  partial_fixpoint
def M.a6t : Nat × Int × T55 × (Option Nat) × (List T55) × Int × Int × Z → Option (Int × Z) := fun ⟨x0, x1, x10v, x11, x41, x42, x43, e0⟩ =>
  M.a8c x11 x10v.Value x1 e0 >>= fun y110 =>
  some (x11) >>= fun v134 =>
  (match v134 with
  | none =>
  none
  | some y113 =>
  M.a8d (x0, x1, x10v, x41, x42, x43, decide ((gn y110.zh y113).size = 0), y110))
  partial_fixpoint
def M.a8d : Nat × Int × T55 × (List T55) × Int × Int × Bool × Z → Option (Int × Z) := fun ⟨x0, x1, x10v, x41, x42, x43, x63, e0⟩ =>
  if x63 = true then
  some ((gn e0.zd x0).columns) >>= fun v159 =>
  (match v159 with
  | none =>
  M.a56 (x0, x1, x41, x42, x43, e0)
  | some y151 =>
  some (sn e0.zc y151 (mdel (gn e0.zc y151) x10v.Name)) >>= fun v154 =>
  M.a56 (x0, x1, x41, x42, x43, {e0 with zc := v154}))
  else
  M.a56 (x0, x1, x41, x42, x43, e0)
  partial_fixpoint
def M.a56 : Nat × Int × (List T55) × Int × Int × Z → Option (Int × Z) := fun ⟨x0, x1, x41, x42, x43, e0⟩ =>
  M.a55 (x0, x1, x41, x42, wr .i64 (x43 + 1), e0)
  partial_fixpoint
end
def M.a6u : Nat × Int × (List T55) × Z → Option (Int × Z) := fun ⟨x0, x1, x5, e0⟩ =>
  M.a55 (x0, x1, x5, (x5.length : Int), 0, e0)
def M.a6v : Nat × Int × (List T55) × ByteArray × Z → Option (Int × Z) := fun ⟨x0, x1, x5, x7, e0⟩ =>
  some ((gn e0.zd x0).ids) >>= fun v76 =>
  (match v76 with
  | none =>
  M.a6u (x0, x1, x5, e0)
  | some y70 =>
  M.a6u (x0, x1, x5, {e0 with zb := (sn e0.zb y70 (mdel (gn e0.zb y70) x7))}))
def M.a6w : Nat × Int × (List T55) × Bool × Z → Option (Int × Z) := fun ⟨x0, x1, x5, x6, e0⟩ =>
  if x6 = true then
  M.a21 x5 >>= fun y31 =>
  some ((gn e0.zd x0).series) >>= fun v54 =>
  (match v54 with
  | none =>
  M.a6v (x0, x1, x5, y31.1, e0)
  | some y48 =>
  M.a6v (x0, x1, x5, y31.1, {e0 with za := (sn e0.za y48 (mdel (gn e0.za y48) x1))}))
  else
  some (5, e0)
def M.a57 (x0 : Nat) (x1 : Int) (pl : Z) : Option (Int × Z) :=
  M.a7 x0 pl >>= fun y1 =>
  if y1 = true then
  some ((gn pl.zd x0).series) >>= fun v29 =>
  (match v29 with
  | none =>
  M.a6w (x0, x1, ([] : List T55), false, pl)
  | some y19 =>
  some ((mget (gn pl.za y19) x1).getD ([] : List T55)) >>= fun v22 =>
  M.a6w (x0, x1, v22, (mget (gn pl.za y19) x1).isSome, pl))
  else
  some (1, pl)
def M.a6x (pl : Z) : Option Unit :=
  M.a9 pl >>= fun y1 =>
  some ()
def M.a8e : Nat × Z → Option ((Option Nat) × Z) := fun ⟨x3, e0⟩ =>
  some ((some x3), e0)
def M.a8f : Nat × Z → Option ((Option Nat) × Z) := fun ⟨x3, e0⟩ =>
  M.a8e (x3, e0)
def M.a58 (x0 : Nat) (pl : Z) : Option ((Option Nat) × Z) :=
  M.a7 x0 pl >>= fun y1 =>
  if y1 = true then
  M.a4q pl >>= fun y4 =>
  some ((gn y4.2.zd x0).series) >>= fun v27 =>
  (match v27 with
  | none =>
  M.a8f (y4.1, y4.2)
  | some y21 =>
  none)
  else
  some (none, pl)
def M.a6y (pl : Z) : Option Unit :=
  M.a9 pl >>= fun y1 =>
  some ()
def M.a6z (pl : Z) : Option Unit :=
  M.a9 pl >>= fun y1 =>
  some ()
def M.a70 (x1 : ByteArray) (pl : Z) : Option (Nat × Z) :=
  M.a9 pl >>= fun y1 =>
  M.a15 pl >>= fun y3 =>
  some (y3.1, y3.2)
def M.a59 (x1 : ByteArray) (pl : Z) : Option (Int × Z) :=
  M.a70 x1 pl >>= fun y1 =>
  some ((gn y1.2.zh y1.1).size, y1.2)
def M.a71 (pl : Z) : Option Int :=
  M.a9 pl >>= fun y1 =>
  some 0
def M.a5a (x0 : Nat) (pl : Z) : Option Int :=
  M.a7 x0 pl >>= fun y1 =>
  if y1 = true then
  some ((gn pl.zd x0).series) >>= fun v22 =>
  (match v22 with
  | none =>
  some 0
  | some y19 =>
  some ((gn pl.za y19).length : Int))
  else
  some 0
def M.a5b (x0 : Int) (x1 : List T55) (x2 : ByteArray) (pl : Z) : Option (Bool × Z) :=
  M.a2u pl >>= fun y1 =>
  if y1.1 = true then
  M.a5r x2 (⟨0, (⟨#[]⟩ : ByteArray), ([] : List T64)⟩ : T64) ({y1.2 with zd := (y1.2.zd ++ [(⟨none, none, none⟩ : T80)])}) >>= fun y8 =>
  M.a50 y1.2.zd.length x2 (⟨0, (⟨#[]⟩ : ByteArray), ([] : List T64)⟩ : T64) ({y1.2 with zd := (y1.2.zd ++ [(⟨none, none, none⟩ : T80)])}) >>= fun y10 =>
  M.a6c x0 y10.2.2 >>= fun y13 =>
  M.a51 y1.2.zd.length x1 y10.2.2 >>= fun y15 =>
  M.a6d x0 x1 y10.2.2 >>= fun y17 =>
  if y17 = 1 then
  M.a16 y1.2.zd.length x0 x1 y10.2.2 >>= fun y20 =>
  if y20.1 = 1 then
  M.a6e x0 y20.2 >>= fun y23 =>
  if y23 = 1 then
  M.a57 y1.2.zd.length x0 y20.2 >>= fun y26 =>
  if y26.1 = 1 then
  if y8 = 1 then
  if y10.2.1 = y8 then
  if y15.2 = true then
  some (false, y26.2)
  else
  M.a6x y26.2 >>= fun y32 =>
  M.a58 y1.2.zd.length y26.2 >>= fun y34 =>
  some (y34.1) >>= fun v59 =>
  (match v59 with
  | none =>
  M.a6y y34.2 >>= fun y40 =>
  M.a1n y1.2.zd.length y34.2 >>= fun y42 =>
  M.a6z y34.2 >>= fun y45 =>
  M.a1x y1.2.zd.length x2 y34.2 >>= fun y47 =>
  M.a59 x2 y47.2 >>= fun y50 =>
  M.a1p y1.2.zd.length x2 (⟨#[]⟩ : ByteArray) y50.2 >>= fun y52 =>
  M.a71 y52.2 >>= fun y55 =>
  M.a5a y1.2.zd.length y52.2 >>= fun y57 =>
  some (decide (wr .i64 ((wr .i64 ((wr .i64 ((wr .i64 ((wr .i64 ((wr .i64 ((wr .i64 (0 + (y42.length : Int))) + 0)) + (y47.1.length : Int))) + y50.1)) + (y52.1.length : Int))) + y55)) + y57) = 0), y52.2)
  | some y37 =>
  some (false, y34.2))
  else
  some (false, y26.2)
  else
  some (false, y26.2)
  else
  some (false, y26.2)
  else
  some (false, y20.2)
  else
  some (false, y20.2)
  else
  some (false, y10.2.2)
  else
  some (false, y1.2)
end Go.Gx
