import Derived.Test.YtdccklkdakfnaaaGreatGI
set_option linter.unusedVariables false
namespace Go.Gx
structure T26 where
  Kind : Int
  Set : List Int
  L : List T26
  Min : Int
  Max : Int
instance : Inhabited T26 := ⟨⟨default, default, [], default, default⟩⟩
structure T29 where
  Op : Int
  Text : ByteArray
  L : List T29
instance : Inhabited T29 := ⟨⟨default, default, []⟩⟩
structure T218 where
  l : List ByteArray
  known : Bool
  deriving Inhabited
structure T38 where
  Op : Int
  Text : ByteArray
  L : List T38
instance : Inhabited T38 := ⟨⟨default, default, []⟩⟩
structure T138 where
  at_ : Int
  deriving Inhabited
structure T134 where
  s : ByteArray
  at_ : Int
  deep : Int
  bad : Option T138
  deriving Inhabited
structure T370 where
  set_ : List Int
  b : Int
  single : Bool
  deriving Inhabited
mutual
def M.a23 : T26 × Int × Int → Option (T26 × Int) := fun ⟨x0, x1, x2v_0⟩ =>
  M.a24 (x1, x0, (⟨0, [0, 0, 0, 0], ([] : List T26), 0, 0⟩ : T26), (⟨x0.Kind, x0.Set, ([] : List T26), x0.Min, x0.Max⟩ : T26), 0, wr .i64 (x2v_0 - 1))
  partial_fixpoint
def M.a24 : Int × T26 × T26 × T26 × Int × Int → Option (T26 × Int) := fun ⟨x1, x3v, x6v, x7v, x8, e0v_0⟩ =>
  if x8 < (x3v.L.length : Int) then
  if x1 > 0 then
  M.a1h (x1, x3v, x6v, x7v, x8, decide (e0v_0 > 0), e0v_0)
  else
  M.a1h (x1, x3v, x6v, x7v, x8, false, e0v_0)
  else
  M.a1h (x1, x3v, x6v, x7v, x8, false, e0v_0)
  partial_fixpoint
def M.a1h : Int × T26 × T26 × T26 × Int × Bool × Int → Option (T26 × Int) := fun ⟨x1, x3v, x6v, x7v, x8, x30, e0v_0⟩ =>
  if x30 = true then
  if 0 ≤ x8 then
  if x8 < (x3v.L.length : Int) then
  M.a23 ((⟨(gi x3v.L x8).Kind, ((gi x3v.L x8).Set), (gi x3v.L x8).L, (gi x3v.L x8).Min, (gi x3v.L x8).Max⟩ : T26), wr .i64 (x1 - 1), e0v_0) >>= fun y34 =>
  if ((x7v.L ++ [y34.1]).length : Int) ≤ 1099511627776 then
  M.a24 (x1, x3v, x6v, (⟨x7v.Kind, x7v.Set, (x7v.L ++ [y34.1]), x7v.Min, x7v.Max⟩ : T26), wr .i64 (x8 + 1), y34.2)
  else none
  else none
  else none
  else
  some (x7v, e0v_0)
  partial_fixpoint
end
def M.a5r (x0 : T26) : Option T26 :=
  M.a23 (x0, 10, 40) >>= fun y7 =>
  some y7.1
mutual
def M.a25 : T29 × Int × Int → Option (T29 × Int) := fun ⟨x0, x1, x2v_0⟩ =>
  if 0 ≤ imn (x0.Text.size : Int) 5 then
  if imn (x0.Text.size : Int) 5 ≤ (x0.Text.size : Int) then
  M.a26 (x1, x0, (⟨0, (⟨#[]⟩ : ByteArray), ([] : List T29)⟩ : T29), (⟨x0.Op, ss x0.Text 0 (imn (x0.Text.size : Int) 5), ([] : List T29)⟩ : T29), 0, wr .i64 (x2v_0 - 1))
  else none
  else none
  partial_fixpoint
def M.a26 : Int × T29 × T29 × T29 × Int × Int → Option (T29 × Int) := fun ⟨x1, x3v, x6v, x7v, x8, e0v_0⟩ =>
  if x8 < (x3v.L.length : Int) then
  if x1 > 0 then
  M.a1i (x1, x3v, x6v, x7v, x8, decide (e0v_0 > 0), e0v_0)
  else
  M.a1i (x1, x3v, x6v, x7v, x8, false, e0v_0)
  else
  M.a1i (x1, x3v, x6v, x7v, x8, false, e0v_0)
  partial_fixpoint
def M.a1i : Int × T29 × T29 × T29 × Int × Bool × Int → Option (T29 × Int) := fun ⟨x1, x3v, x6v, x7v, x8, x38, e0v_0⟩ =>
  if x38 = true then
  if 0 ≤ x8 then
  if x8 < (x3v.L.length : Int) then
  M.a25 (gi x3v.L x8, wr .i64 (x1 - 1), e0v_0) >>= fun y34 =>
  if ((x7v.L ++ [y34.1]).length : Int) ≤ 1099511627776 then
  M.a26 (x1, x3v, x6v, (⟨x7v.Op, x7v.Text, (x7v.L ++ [y34.1])⟩ : T29), wr .i64 (x8 + 1), y34.2)
  else none
  else none
  else none
  else
  some (x7v, e0v_0)
  partial_fixpoint
end
mutual
def M.aa : T26 × Int × Int → Option (Bool × Int) := fun ⟨x0, x1, x2v_0⟩ =>
  if x1 = 0 then
  M.a1q (x1, x0, true, wr .i64 (x2v_0 + 1))
  else
  M.a1q (x1, x0, decide (wr .i64 (x2v_0 + 1) > 4096), wr .i64 (x2v_0 + 1))
  partial_fixpoint
def M.a1q : Int × T26 × Bool × Int → Option (Bool × Int) := fun ⟨x1, x3v, x21, e0v_0⟩ =>
  if x21 = true then
  some (false, e0v_0)
  else
  M.aw (x1, x3v.L, (x3v.L.length : Int), 0, e0v_0)
  partial_fixpoint
def M.aw : Int × (List T26) × Int × Int × Int → Option (Bool × Int) := fun ⟨x1, x23, x24, x25, e0v_0⟩ =>
  if x25 < x24 then
  if 0 ≤ x25 then
  if x25 < (x23.length : Int) then
  M.aa ((⟨(gi x23 x25).Kind, ((gi x23 x25).Set), (gi x23 x25).L, (gi x23 x25).Min, (gi x23 x25).Max⟩ : T26), wr .i64 (x1 - 1), e0v_0) >>= fun y21 =>
  if y21.1 = true then
  M.aw (x1, x23, x24, wr .i64 (x25 + 1), y21.2)
  else
  some (false, y21.2)
  else none
  else none
  else
  some (true, e0v_0)
  partial_fixpoint
end
def M.a3u : T26 × (List Int) × Bool × Bool → Option Bool := fun ⟨x1v, x3v_0, x5, x6⟩ =>
  if (x1v.L.length : Int) = 1 then
  if x1v.Set = x3v_0 then
  if x5 = true then
  some x6
  else
  some false
  else
  some false
  else
  some false
def M.a4x : T26 × (List Int) × Bool → Option Bool := fun ⟨x1v, x3v_0, x5⟩ =>
  if x1v.Max = (-1) then
  M.a3u (x1v, x3v_0, x5, true)
  else
  if x1v.Max ≥ x1v.Min then
  M.a3u (x1v, x3v_0, x5, decide (x1v.Max ≤ 64))
  else
  M.a3u (x1v, x3v_0, x5, false)
def M.a4y : T26 × (List Int) × Bool × Int × Bool → Option Bool := fun ⟨x1v, x3v_0, x4, x16, x26⟩ =>
  if x26 = true then
  if x1v.Set = x3v_0 then
  some x4
  else
  some false
  else
  if x16 = 4 then
  if x1v.Min ≥ 0 then
  M.a4x (x1v, x3v_0, decide (x1v.Min ≤ 64))
  else
  M.a4x (x1v, x3v_0, false)
  else
  some false
def M.a4z : T26 × (List Int) × Bool → Option Bool := fun ⟨x1v, x3v_0, x4⟩ =>
  if x1v.Kind = 1 then
  if (x1v.L.length : Int) = 0 then
  some x4
  else
  some false
  else
  if x1v.Kind = 2 then
  M.a4y (x1v, x3v_0, x4, x1v.Kind, true)
  else
  M.a4y (x1v, x3v_0, x4, x1v.Kind, decide (x1v.Kind = 3))
def M.a4c (x0 : T26) : Option Bool :=
  if x0.Min = 0 then
  M.a4z (x0, [0, 0, 0, 0], decide (x0.Max = 0))
  else
  M.a4z (x0, [0, 0, 0, 0], false)
mutual
def M.ak : T26 → Option Bool := fun x0 =>
  M.ax (x0, x0.L, (x0.L.length : Int), 0)
  partial_fixpoint
def M.ax : T26 × (List T26) × Int × Int → Option Bool := fun ⟨x1v, x6, x7, x8⟩ =>
  if x8 < x7 then
  if 0 ≤ x8 then
  if x8 < (x6.length : Int) then
  M.ak (⟨(gi x6 x8).Kind, ((gi x6 x8).Set), (gi x6 x8).L, (gi x6 x8).Min, (gi x6 x8).Max⟩ : T26) >>= fun y18 =>
  if y18 = true then
  M.ax (x1v, x6, x7, wr .i64 (x8 + 1))
  else
  some false
  else none
  else none
  else
  M.a4c x1v >>= fun y21 =>
  some y21
  partial_fixpoint
end
def M.a34 (x0 : T26) : Option Int :=
  M.aa (x0, 128, 0) >>= fun y5 =>
  if y5.1 = true then
  M.ak x0 >>= fun y8 =>
  if y8 = true then
  some y5.2
  else
  some 0
  else
  some 0
def M.a35 (x0 : T26) : Option Bool :=
  M.a34 x0 >>= fun y3 =>
  some (decide (y3 > 0))
def M.a1r (x0 : List Int) (x1 : Int) : Option Bool :=
  if 0 ≤ iquo .u8 x1 64 then
  if iquo .u8 x1 64 < 4 then
  if 0 ≤ irem .u8 x1 64 then
  some (decide (iand .u64 (ishr .u64 (gi x0 (iquo .u8 x1 64)) (irem .u8 x1 64)) 1 = 1))
  else none
  else none
  else none
def M.a5 : Option T218 :=
  some (⟨([] : List ByteArray), false⟩ : T218)
mutual
def M.ab : (List Int) × T218 × (List ByteArray) × Int → Option T218 := fun ⟨x1, x2v, x3, x5⟩ =>
  if x5 < 256 then
  M.a1r x1 (wr .u8 x5) >>= fun y12 =>
  if y12 = true then
  if ((x3 ++ [b2s [wr .u8 x5]]).length : Int) ≤ 1099511627776 then
  M.a1s (x1, x2v, (x3 ++ [b2s [wr .u8 x5]]), x5)
  else none
  else
  M.a1s (x1, x2v, x3, x5)
  else
  if (x3.length : Int) > 8 then
  M.a5 >>= fun y35 =>
  some y35
  else
  some (⟨x3, true⟩ : T218)
  partial_fixpoint
def M.a1s : (List Int) × T218 × (List ByteArray) × Int → Option T218 := fun ⟨x1, x2v, x3, x5⟩ =>
  M.ab (x1, x2v, x3, wr .i64 (x5 + 1))
  partial_fixpoint
end
def M.a4d (x0 : List Int) : Option T218 :=
  M.ab (x0, (⟨([] : List ByteArray), false⟩ : T218), ([] : List ByteArray), 0)
def M.ay (x0 : List ByteArray) : Option T218 :=
  if (x0.length : Int) ≤ 1099511627776 then
  if ((cmpL (srtS x0)).length : Int) > 32 then
  M.a5 >>= fun y10 =>
  some y10
  else
  some (⟨(cmpL (srtS x0)), true⟩ : T218)
  else none
mutual
def M.ac : T218 × T218 × (List ByteArray) × (List ByteArray) × Int × Int → Option T218 := fun ⟨x3v, x4v, x5, x20, x21, x22⟩ =>
  if x22 < x21 then
  if 0 ≤ x22 then
  if x22 < (x20.length : Int) then
  M.az (x3v, x4v, x5, gi x20 x22, x20, x21, x22, x3v.l, (x3v.l.length : Int), 0)
  else none
  else none
  else
  M.ay x5 >>= fun y32 =>
  some y32
  partial_fixpoint
def M.az : T218 × T218 × (List ByteArray) × ByteArray × (List ByteArray) × Int × Int × (List ByteArray) × Int × Int → Option T218 := fun ⟨x3v, x4v, x5, x7, x20, x21, x22, x27, x28, x29⟩ =>
  if x29 < x28 then
  if 0 ≤ x29 then
  if x29 < (x27.length : Int) then
  if wr .i64 ((x7.size : Int) + ((gi x27 x29).size : Int)) > 32 then
  M.a5 >>= fun y41 =>
  some y41
  else
  if (x7.size : Int) + ((gi x27 x29).size : Int) ≤ 1099511627776 then
  if ((x5 ++ [x7 ++ (gi x27 x29)]).length : Int) ≤ 1099511627776 then
  M.az (x3v, x4v, (x5 ++ [x7 ++ (gi x27 x29)]), x7, x20, x21, x22, x27, x28, wr .i64 (x29 + 1))
  else none
  else none
  else none
  else none
  else
  M.ac (x3v, x4v, x5, x20, x21, wr .i64 (x22 + 1))
  partial_fixpoint
end
def M.a2b : T218 × T218 × T218 × Bool → Option T218 := fun ⟨x2v, x3v, x4v, x17⟩ =>
  if x17 = true then
  M.a5 >>= fun y15 =>
  some y15
  else
  M.ac (x3v, x4v, ([] : List ByteArray), x2v.l, (x2v.l.length : Int), 0)
def M.a2c (x0 : T218) (x1 : T218) : Option T218 :=
  if x0.known = true then
  M.a2b ((⟨x0.l, true⟩ : T218), x1, (⟨([] : List ByteArray), false⟩ : T218), !x1.known)
  else
  M.a2b ((⟨x0.l, false⟩ : T218), x1, (⟨([] : List ByteArray), false⟩ : T218), true)
def M.a36 : Option T218 :=
  if (0 : Int) ≤ 1099511627776 then
  if ((cmpL (srtS ([] : List ByteArray))).length : Int) > 32 then
  M.a5 >>= fun y10 =>
  some y10
  else
  some (⟨(cmpL (srtS ([] : List ByteArray))), true⟩ : T218)
  else none
def M.a5y : Int → Option (List ByteArray) := fun x1 =>
  if wr .i64 (x1 - 0) > 0 then
  if 0 ≤ wr .i64 (x1 - 0) then
  if (0 : Int) + (wr .i64 (x1 - 0)) ≤ 1099511627776 then
  some (([] : List ByteArray) ++ List.replicate (wr .i64 (x1 - 0) : Int).toNat ((⟨#[]⟩ : ByteArray) : ByteArray)) >>= fun v9 =>
  some (sl v9 0 0)
  else none
  else none
  else
  some ([] : List ByteArray)
def M.a4e (x1 : Int) : Option (List ByteArray) :=
  if x1 < 0 then
  none
  else
  M.a5y x1
def M.a10 : (List ByteArray) × (List (List ByteArray)) × Int × Int → Option (List ByteArray) := fun ⟨x6, x25, x26, x27⟩ =>
  if x27 < x26 then
  if 0 ≤ x27 then
  if x27 < (x25.length : Int) then
  if ((x6 ++ gi x25 x27).length : Int) ≤ 1099511627776 then
  M.a10 ((x6 ++ gi x25 x27), x25, x26, wr .i64 (x27 + 1))
  else none
  else none
  else none
  else
  some x6
  partial_fixpoint
mutual
def M.al : (List (List ByteArray)) × Int × (List (List ByteArray)) × Int × Int → Option (List ByteArray) := fun ⟨x0, x3, x9, x10, x11⟩ =>
  if x11 < x10 then
  if 0 ≤ x11 then
  if x11 < (x9.length : Int) then
  if wr .i64 (x3 + ((gi x9 x11).length : Int)) < 0 then
  none
  else
  M.a2d (x0, wr .i64 (x3 + ((gi x9 x11).length : Int)), x9, x10, x11)
  else none
  else none
  else
  M.a4e x3 >>= fun y11 =>
  M.a10 (y11, x0, (x0.length : Int), 0)
  partial_fixpoint
def M.a2d : (List (List ByteArray)) × Int × (List (List ByteArray)) × Int × Int → Option (List ByteArray) := fun ⟨x0, x3, x9, x10, x11⟩ =>
  M.al (x0, x3, x9, x10, wr .i64 (x11 + 1))
  partial_fixpoint
end
def M.a2e (x0 : List (List ByteArray)) : Option (List ByteArray) :=
  M.al (x0, 0, x0, (x0.length : Int), 0)
def M.a5z (x0 : Int) (x1 : Int) : Option (Int × Int) :=
  some (wr .u64 ((wr .u64 ((wr .u64 ((ishr .u64 x0 32) * (ishr .u64 x1 32))) + (ishr .u64 (wr .u64 ((wr .u64 ((ishr .u64 x0 32) * (iand .u64 x1 4294967295))) + (ishr .u64 (wr .u64 ((iand .u64 x0 4294967295) * (iand .u64 x1 4294967295))) 32))) 32))) + (ishr .u64 (wr .u64 ((iand .u64 (wr .u64 ((wr .u64 ((ishr .u64 x0 32) * (iand .u64 x1 4294967295))) + (ishr .u64 (wr .u64 ((iand .u64 x0 4294967295) * (iand .u64 x1 4294967295))) 32))) 4294967295) + (wr .u64 ((iand .u64 x0 4294967295) * (ishr .u64 x1 32))))) 32)), wr .u64 (x0 * x1))
def M.a5i (x0 : Int) (x1 : Int) : Option (Int × Int) :=
  M.a5z x0 x1 >>= fun y1 =>
  some (y1.1, y1.2)
def M.am : (List T26) × Int → Option (List T26) := fun ⟨x7, x8⟩ =>
  if x8 < (x7.length : Int) then
  if 0 ≤ x8 then
  if x8 ≤ (x7.length : Int) then
  some (cpy x7 ((x8 : Int).toNat) (((x7.length : Int) : Int).toNat - (x8 : Int).toNat) (sl x7 0 x8)) >>= fun v27 =>
  M.am (v27, wr .i64 (x8 + ((min ((x8 : Int).toNat - (0 : Int).toNat) (((x7.length : Int) : Int).toNat - (x8 : Int).toNat) : Nat) : Int)))
  else none
  else none
  else
  some x7
  partial_fixpoint
def M.a4f : (List T26) × Int → Option (List T26) := fun ⟨x0, x6⟩ =>
  if 0 ≤ wr .i64 x6 then
  if wr .i64 x6 ≤ 1099511627776 then
  some (List.replicate (wr .i64 x6 : Int).toNat (⟨0, [0, 0, 0, 0], ([] : List T26), 0, 0⟩ : T26)) >>= fun v8 =>
  M.am ((cpy v8 0 v8.length x0), ((min x0.length v8.length : Nat) : Int))
  else none
  else none
def M.a37 : (List T26) × Int × Bool → Option (List T26) := fun ⟨x0, x6, x26⟩ =>
  if x26 = true then
  none
  else
  M.a4f (x0, x6)
def M.a4g : (List T26) × Int → Option (List T26) := fun ⟨x0, x1⟩ =>
  M.a5i (wr .u64 (x0.length : Int)) (wr .u64 x1) >>= fun y2 =>
  if y2.1 > 0 then
  M.a37 (x0, y2.2, true)
  else
  M.a37 (x0, y2.2, decide (y2.2 > 9223372036854775807))
def M.a38 (x0 : List T26) (x1 : Int) : Option (List T26) :=
  if x1 < 0 then
  none
  else
  M.a4g (x0, x1)
mutual
def M.a3 : T26 → Option T218 := fun x0 =>
  if x0.Kind = 1 then
  M.a4d x0.Set >>= fun y6 =>
  some y6
  else
  if x0.Kind = 2 then
  M.a1t x0.L >>= fun y9 =>
  some y9
  else
  if x0.Kind = 3 then
  M.a36 >>= fun y12 =>
  M.a12 ((⟨([] : List ByteArray), false⟩ : T218), y12, x0.L, (x0.L.length : Int), 0)
  else
  if x0.Min = x0.Max then
  M.a38 x0.L x0.Min >>= fun y21 =>
  M.a1t y21 >>= fun y25 =>
  some y25
  else
  M.a5 >>= fun y27 =>
  some y27
  partial_fixpoint
def M.a1t : (List T26) → Option T218 := fun x0 =>
  M.ay [(⟨#[]⟩ : ByteArray)] >>= fun y6 =>
  M.a11 ((⟨([] : List ByteArray), false⟩ : T218), y6, x0, (x0.length : Int), 0)
  partial_fixpoint
def M.a11 : T218 × T218 × (List T26) × Int × Int → Option T218 := fun ⟨x2v, x3v, x8, x9, x10⟩ =>
  if x10 < x9 then
  if 0 ≤ x10 then
  if x10 < (x8.length : Int) then
  M.a3 (⟨(gi x8 x10).Kind, ((gi x8 x10).Set), (gi x8 x10).L, (gi x8 x10).Min, (gi x8 x10).Max⟩ : T26) >>= fun y28 =>
  M.a2c x3v y28 >>= fun y30 =>
  if y30.known = true then
  M.a11 (x2v, (⟨y30.l, true⟩ : T218), x8, x9, wr .i64 (x10 + 1))
  else
  some (⟨y30.l, false⟩ : T218)
  else none
  else none
  else
  some x3v
  partial_fixpoint
def M.a12 : T218 × T218 × (List T26) × Int × Int → Option T218 := fun ⟨x2v, x3v, x23, x24, x25⟩ =>
  if x25 < x24 then
  if 0 ≤ x25 then
  if x25 < (x23.length : Int) then
  M.a3 (⟨(gi x23 x25).Kind, ((gi x23 x25).Set), (gi x23 x25).L, (gi x23 x25).Min, (gi x23 x25).Max⟩ : T26) >>= fun y43 =>
  if y43.known = true then
  M.a13 (x2v, x3v, (⟨y43.l, true⟩ : T218), x23, x24, x25, !x3v.known)
  else
  M.a13 (x2v, x3v, (⟨y43.l, false⟩ : T218), x23, x24, x25, true)
  else none
  else none
  else
  some x3v
  partial_fixpoint
def M.a13 : T218 × T218 × T218 × (List T26) × Int × Int × Bool → Option T218 := fun ⟨x2v, x3v, x6v, x23, x24, x25, x38⟩ =>
  if x38 = true then
  M.a5 >>= fun y53 =>
  some y53
  else
  M.a2e [x3v.l, x6v.l] >>= fun y59 =>
  M.ay y59 >>= fun y62 =>
  M.a12 (x2v, y62, x23, x24, wr .i64 (x25 + 1))
  partial_fixpoint
end
def M.a5k (x0 : ByteArray) : Option ByteArray :=
  some x0
def M.a5j (kq2v_0 : List ByteArray) (kq6b0v_0 : ByteArray) (a0 : ByteArray) : Option (List ByteArray) :=
  if ((kq2v_0 ++ [a0]).length : Int) ≤ 1099511627776 then
  some (kq2v_0 ++ [a0])
  else none
def M.a14 : Int × Int × (List ByteArray) × ByteArray → Option (List ByteArray) := fun ⟨x7, x8, e1v_0, x0q6b0v_0⟩ =>
  if x8 < x7 then
  if 0 ≤ x8 then
  if x8 ≤ wr .i64 (x8 + 3) then
  if wr .i64 (x8 + 3) ≤ (x0q6b0v_0.size : Int) then
  M.a5j e1v_0 x0q6b0v_0 (ss x0q6b0v_0 x8 (wr .i64 (x8 + 3))) >>= fun y10 =>
  M.a14 (x7, wr .i64 (x8 + 1), y10, x0q6b0v_0)
  else none
  else none
  else none
  else
  some e1v_0
  partial_fixpoint
def M.a39 (x0q2v_0 : List ByteArray) (x0q6b0v_0 : ByteArray) : Option (List ByteArray) :=
  M.a14 (wr .i64 ((wr .i64 ((x0q6b0v_0.size : Int) - 3)) + 1), 0, x0q2v_0, x0q6b0v_0)
def M.a4h (x1b0v_0 : ByteArray) : Option (List ByteArray) :=
  M.a39 ([] : List ByteArray) x1b0v_0 >>= fun y10 =>
  some y10
def M.a4i (x0b0v_0 : ByteArray) : Option (List ByteArray) :=
  M.a4h x0b0v_0 >>= fun y2 =>
  some y2
def M.a4j (x0b0v_0 : ByteArray) : Option (List ByteArray) :=
  M.a4i x0b0v_0 >>= fun y2 =>
  if (y2.length : Int) ≤ 1099511627776 then
  some (srtS y2)
  else none
def M.a2f (x0 : ByteArray) : Option (List ByteArray) :=
  M.a5k x0 >>= fun y1 =>
  M.a4j y1 >>= fun y4 =>
  if (y4.length : Int) ≤ 1099511627776 then
  some (cmpL y4)
  else none
def M.a4m (x0 : Int) : Option (Int × Int) :=
  if x0 = 4 then
  some (1, 0)
  else
  some (0, 1)
mutual
def M.a15 : T29 × T29 → Option Bool := fun ⟨x0, x1⟩ =>
  if x0.Op = x1.Op then
  if (x0.Text.toList == x1.Text.toList) = true then
  M.a3a (x0.L, x1.L) >>= fun y7 =>
  some y7
  else
  some false
  else
  some false
  partial_fixpoint
def M.a3a : (List T29) × (List T29) → Option Bool := fun ⟨x0, x1⟩ =>
  if (x0.length : Int) = (x1.length : Int) then
  M.a16 (x1, x0, (x0.length : Int), 0)
  else
  some false
  partial_fixpoint
def M.a16 : (List T29) × (List T29) × Int × Int → Option Bool := fun ⟨x1, x15, x16, x17⟩ =>
  if x17 < x16 then
  if 0 ≤ x17 then
  if x17 < (x15.length : Int) then
  if x17 < (x1.length : Int) then
  M.a15 (gi x15 x17, gi x1 x17) >>= fun y24 =>
  if y24 = true then
  M.a16 (x1, x15, x16, wr .i64 (x17 + 1))
  else
  some false
  else none
  else none
  else none
  else
  some true
  partial_fixpoint
end
def M.a4k (x0 : T29) (x2v : T29) : Option Bool :=
  M.a15 (x2v, x0) >>= fun y5 =>
  some y5
def M.a17 : (List T29) × Int × Int × T29 → Option Int := fun ⟨x0, x7, x8, x1b1v⟩ =>
  if x8 < x7 then
  if 0 ≤ x8 then
  if x8 < (x0.length : Int) then
  M.a4k (gi x0 x8) x1b1v >>= fun y13 =>
  if y13 = true then
  some x8
  else
  M.a17 (x0, x7, wr .i64 (x8 + 1), x1b1v)
  else none
  else none
  else
  some (-1)
  partial_fixpoint
def M.a4l (x0 : List T29) (x1b1v : T29) : Option Int :=
  M.a17 (x0, (x0.length : Int), 0, x1b1v)
def M.a3b (x0 : List T29) (x1b1v : T29) : Option Bool :=
  M.a4l x0 x1b1v >>= fun y3 =>
  some (decide (y3 ≥ 0))
mutual
def M.ad : (List T29) × (List T29) × Int × Int → Option (List T29) := fun ⟨x5, x8, x9, x10⟩ =>
  if x10 < x9 then
  if 0 ≤ x10 then
  if x10 < (x8.length : Int) then
  M.a3b x5 (gi x8 x10) >>= fun y19 =>
  if y19 = true then
  M.a1u (x5, x8, x9, x10)
  else
  if ((x5 ++ [gi x8 x10]).length : Int) ≤ 1099511627776 then
  M.a1u ((x5 ++ [gi x8 x10]), x8, x9, x10)
  else none
  else none
  else none
  else
  some x5
  partial_fixpoint
def M.a1u : (List T29) × (List T29) × Int × Int → Option (List T29) := fun ⟨x5, x8, x9, x10⟩ =>
  M.ad (x5, x8, x9, wr .i64 (x10 + 1))
  partial_fixpoint
end
def M.a3c (x0 : List T29) : Option (List T29) :=
  M.ad (([] : List T29), x0, (x0.length : Int), 0)
mutual
def M.ae : Int × T29 × Int × Int × (List T29) × (List T29) × Int × Int → Option T29 := fun ⟨x0, x4v, x5, x6, x7, x15, x16, x17⟩ =>
  if x17 < x16 then
  if 0 ≤ x17 then
  if x17 < (x15.length : Int) then
  if (gi x15 x17).Op = x0 then
  if ((x7 ++ (gi x15 x17).L).length : Int) ≤ 1099511627776 then
  M.a18 (x0, x4v, x5, x6, (x7 ++ (gi x15 x17).L), x15, x16, x17)
  else none
  else
  if (gi x15 x17).Op = x6 then
  some (⟨x6, (⟨#[]⟩ : ByteArray), ([] : List T29)⟩ : T29)
  else
  if (gi x15 x17).Op = x5 then
  M.a18 (x0, x4v, x5, x6, x7, x15, x16, x17)
  else
  if ((x7 ++ [gi x15 x17]).length : Int) ≤ 1099511627776 then
  M.a18 (x0, x4v, x5, x6, (x7 ++ [gi x15 x17]), x15, x16, x17)
  else none
  else none
  else none
  else
  M.a3c x7 >>= fun y48 =>
  if (y48.length : Int) = 0 then
  some (⟨x5, (⟨#[]⟩ : ByteArray), ([] : List T29)⟩ : T29)
  else
  if (y48.length : Int) = 1 then
  if 0 < (y48.length : Int) then
  some (gi y48 0)
  else none
  else
  some (⟨x0, (⟨#[]⟩ : ByteArray), y48⟩ : T29)
  partial_fixpoint
def M.a18 : Int × T29 × Int × Int × (List T29) × (List T29) × Int × Int → Option T29 := fun ⟨x0, x4v, x5, x6, x7, x15, x16, x17⟩ =>
  M.ae (x0, x4v, x5, x6, x7, x15, x16, wr .i64 (x17 + 1))
  partial_fixpoint
end
def M.af (x0 : Int) (x1 : List T29) : Option T29 :=
  M.a4m x0 >>= fun y3 =>
  M.ae (x0, (⟨0, (⟨#[]⟩ : ByteArray), ([] : List T29)⟩ : T29), y3.1, y3.2, ([] : List T29), x1, (x1.length : Int), 0)
mutual
def M.a8 : T29 × (List T29) × (List ByteArray) × Int × Int → Option T29 := fun ⟨x2v, x3, x10, x11, x12⟩ =>
  if x12 < x11 then
  if 0 ≤ x12 then
  if x12 < (x10.length : Int) then
  M.a2f (gi x10 x12) >>= fun y16 =>
  M.a3d (x2v, x3, x10, x11, x12, y16, (y16.length : Int), 0)
  else none
  else none
  else
  M.af 4 x3 >>= fun y24 =>
  some y24
  partial_fixpoint
def M.a3d : T29 × (List T29) × (List ByteArray) × Int × Int × (List ByteArray) × Int × Int → Option T29 := fun ⟨x2v, x3, x10, x11, x12, x17, x18, x19⟩ =>
  if x19 < x18 then
  if 0 ≤ x19 then
  if x19 < (x17.length : Int) then
  if ([(⟨2, gi x17 x19, ([] : List T29)⟩ : T29)].length : Int) ≤ 1099511627776 then
  M.a19 (x2v, x3, [(⟨2, gi x17 x19, ([] : List T29)⟩ : T29)], x10, x11, x12, x17, x18, wr .i64 (x19 + 1))
  else none
  else none
  else none
  else
  M.af 3 ([] : List T29) >>= fun y50 =>
  if ((x3 ++ [y50]).length : Int) ≤ 1099511627776 then
  M.a8 (x2v, (x3 ++ [y50]), x10, x11, wr .i64 (x12 + 1))
  else none
  partial_fixpoint
def M.a19 : T29 × (List T29) × (List T29) × (List ByteArray) × Int × Int × (List ByteArray) × Int × Int → Option T29 := fun ⟨x2v, x3, x6, x10, x11, x12, x17, x18, x19⟩ =>
  if x19 < x18 then
  if 0 ≤ x19 then
  if x19 < (x17.length : Int) then
  some (x6 ++ [(⟨2, gi x17 x19, ([] : List T29)⟩ : T29)]) >>= fun v76 =>
  if (v76.length : Int) ≤ 1099511627776 then
  M.a19 (x2v, x3, v76, x10, x11, x12, x17, x18, wr .i64 (x19 + 1))
  else none
  else none
  else none
  else
  M.af 3 x6 >>= fun y84 =>
  if ((x3 ++ [y84]).length : Int) ≤ 1099511627776 then
  M.a8 (x2v, (x3 ++ [y84]), x10, x11, wr .i64 (x12 + 1))
  else none
  partial_fixpoint
end
def M.a1a (x0 : T218) : Option T29 :=
  M.a8 ((⟨0, (⟨#[]⟩ : ByteArray), ([] : List T29)⟩ : T29), ([] : List T29), x0.l, (x0.l.length : Int), 0)
mutual
def M.ag : (List T26) × T218 × T218 × Int → Option (T218 × Int) := fun ⟨x0, x2v, x4v, x5⟩ =>
  if x4v.known = true then
  M.a1b (x0, x2v, (⟨x4v.l, true⟩ : T218), x5, decide (x5 < (x0.length : Int)))
  else
  M.a1b (x0, x2v, (⟨x4v.l, false⟩ : T218), x5, false)
  partial_fixpoint
def M.a1b : (List T26) × T218 × T218 × Int × Bool → Option (T218 × Int) := fun ⟨x0, x2v, x4v, x5, x18⟩ =>
  if x18 = true then
  if 0 ≤ x5 then
  if x5 < (x0.length : Int) then
  M.a3 (⟨(gi x0 x5).Kind, ((gi x0 x5).Set), (gi x0 x5).L, (gi x0 x5).Min, (gi x0 x5).Max⟩ : T26) >>= fun y37 =>
  M.a2c x4v y37 >>= fun y39 =>
  M.a3e (x0, x2v, x4v, x5, y39)
  else none
  else none
  else
  some (x4v, x5)
  partial_fixpoint
def M.a3e : (List T26) × T218 × T218 × Int × T218 → Option (T218 × Int) := fun ⟨x0, x2v, x4v, x5, x6v⟩ =>
  if x6v.known = true then
  M.ag (x0, x2v, (⟨x6v.l, true⟩ : T218), wr .i64 (x5 + 1))
  else
  some (x4v, x5)
  partial_fixpoint
end
def M.a1v (x0 : List T26) : Option (T218 × Int) :=
  if 0 < (x0.length : Int) then
  M.a3 (⟨(gi x0 0).Kind, ((gi x0 0).Set), (gi x0 0).L, (gi x0 0).Min, (gi x0 0).Max⟩ : T26) >>= fun y13 =>
  M.ag (x0, (⟨([] : List ByteArray), false⟩ : T218), y13, 1)
  else none
mutual
def M.a6 : T26 → Option T29 := fun x0 =>
  M.a3 x0 >>= fun y5 =>
  if y5.known = true then
  M.a1a (⟨y5.l, true⟩ : T218) >>= fun y10 =>
  some y10
  else
  if x0.Kind = 2 then
  M.a3f x0.L >>= fun y13 =>
  some y13
  else
  if x0.Kind = 3 then
  M.a1c ((⟨0, (⟨#[]⟩ : ByteArray), ([] : List T29)⟩ : T29), ([] : List T29), x0.L, (x0.L.length : Int), 0)
  else
  if x0.Kind = 4 then
  if x0.Min > 0 then
  if 0 < (x0.L.length : Int) then
  M.a6 (⟨(gi x0.L 0).Kind, ((gi x0.L 0).Set), (gi x0.L 0).L, (gi x0.L 0).Min, (gi x0.L 0).Max⟩ : T26) >>= fun y33 =>
  some y33
  else none
  else
  some (⟨0, (⟨#[]⟩ : ByteArray), ([] : List T29)⟩ : T29)
  else
  some (⟨0, (⟨#[]⟩ : ByteArray), ([] : List T29)⟩ : T29)
  partial_fixpoint
def M.a3f : (List T26) → Option T29 := fun x0 =>
  M.an (x0, (⟨0, (⟨#[]⟩ : ByteArray), ([] : List T29)⟩ : T29), ([] : List T29))
  partial_fixpoint
def M.an : (List T26) × T29 × (List T29) → Option T29 := fun ⟨x0, x2v, x3⟩ =>
  if (x0.length : Int) > 0 then
  M.a1v x0 >>= fun y9 =>
  if y9.1.known = true then
  M.a1a (⟨y9.1.l, true⟩ : T218) >>= fun y14 =>
  if ((x3 ++ [y14]).length : Int) ≤ 1099511627776 then
  M.a1w (x0, x2v, (x3 ++ [y14]), y9.2)
  else none
  else
  if 0 < (x0.length : Int) then
  M.a6 (⟨(gi x0 0).Kind, ((gi x0 0).Set), (gi x0 0).L, (gi x0 0).Min, (gi x0 0).Max⟩ : T26) >>= fun y40 =>
  if ((x3 ++ [y40]).length : Int) ≤ 1099511627776 then
  M.a1w (x0, x2v, (x3 ++ [y40]), y9.2)
  else none
  else none
  else
  M.af 3 x3 >>= fun y54 =>
  some y54
  partial_fixpoint
def M.a1w : (List T26) × T29 × (List T29) × Int → Option T29 := fun ⟨x0, x2v, x3, x5⟩ =>
  if 0 ≤ x5 then
  if x5 ≤ (x0.length : Int) then
  M.an ((sl x0 x5 (x0.length : Int)), x2v, x3)
  else none
  else none
  partial_fixpoint
def M.a1c : T29 × (List T29) × (List T26) × Int × Int → Option T29 := fun ⟨x2v, x4, x23, x24, x25⟩ =>
  if x25 < x24 then
  if 0 ≤ x25 then
  if x25 < (x23.length : Int) then
  M.a6 (⟨(gi x23 x25).Kind, ((gi x23 x25).Set), (gi x23 x25).L, (gi x23 x25).Min, (gi x23 x25).Max⟩ : T26) >>= fun y49 =>
  if ((x4 ++ [y49]).length : Int) ≤ 1099511627776 then
  M.a1c (x2v, (x4 ++ [y49]), x23, x24, wr .i64 (x25 + 1))
  else none
  else none
  else none
  else
  M.af 4 x4 >>= fun y63 =>
  some y63
  partial_fixpoint
end
def M.a1x (x0 : T26) : Option (T29 × Int) :=
  M.a35 x0 >>= fun y5 =>
  if y5 = true then
  M.a6 x0 >>= fun y8 =>
  some (y8, 0)
  else
  some ((⟨0, (⟨#[]⟩ : ByteArray), ([] : List T29)⟩ : T29), 2)
mutual
def M.a27 : T26 × Int → Option (Int × Int) := fun ⟨x0, x1⟩ =>
  M.a2n (x1, x0, 0, 1, 0)
  partial_fixpoint
def M.a2n : Int × T26 × Int × Int × Int → Option (Int × Int) := fun ⟨x1, x2v, x6, x7, x8⟩ =>
  if x8 < (x2v.L.length : Int) then
  M.a2o (x1, x2v, x6, x7, x8, decide (x8 < 5000))
  else
  M.a2o (x1, x2v, x6, x7, x8, false)
  partial_fixpoint
def M.a2o : Int × T26 × Int × Int × Int × Bool → Option (Int × Int) := fun ⟨x1, x2v, x6, x7, x8, x19⟩ =>
  if x19 = true then
  if x1 = 0 then
  some (999, 9999)
  else
  if 0 ≤ x8 then
  if x8 < (x2v.L.length : Int) then
  M.a27 ((⟨(gi x2v.L x8).Kind, ((gi x2v.L x8).Set), (gi x2v.L x8).L, (gi x2v.L x8).Min, (gi x2v.L x8).Max⟩ : T26), wr .i64 (x1 - 1)) >>= fun y19 =>
  if wr .i64 (x7 + y19.2) > 4096 then
  M.a50 (x1, x2v, imx x6 y19.1, wr .i64 (x7 + y19.2), x8, true)
  else
  M.a50 (x1, x2v, imx x6 y19.1, wr .i64 (x7 + y19.2), x8, decide (imx x6 y19.1 ≥ 999))
  else none
  else none
  else
  some (wr .i64 (x6 + 1), x7)
  partial_fixpoint
def M.a50 : Int × T26 × Int × Int × Int × Bool → Option (Int × Int) := fun ⟨x1, x2v, x6, x7, x8, x46⟩ =>
  if x46 = true then
  some (999, 9999)
  else
  M.a2n (x1, x2v, x6, x7, wr .i64 (x8 + 1))
  partial_fixpoint
end
mutual
def M.a1j : T26 → Option Bool := fun x0 =>
  if x0.Min = 0 then
  M.a51 (x0, decide (x0.Set = [0, 0, 0, 0]), decide (x0.Max = 0))
  else
  M.a51 (x0, decide (x0.Set = [0, 0, 0, 0]), false)
  partial_fixpoint
def M.a51 : T26 × Bool × Bool → Option Bool := fun ⟨x1v, x3, x4⟩ =>
  if x1v.Kind = 1 then
  if (x1v.L.length : Int) = 0 then
  M.a4 (x1v, x4)
  else
  M.a4 (x1v, false)
  else
  if x1v.Kind = 2 then
  M.a28 (x1v, x3, x4, x1v.Kind, true)
  else
  M.a28 (x1v, x3, x4, x1v.Kind, decide (x1v.Kind = 3))
  partial_fixpoint
def M.a4 : T26 × Bool → Option Bool := fun ⟨x1v, x5⟩ =>
  M.a3v (x1v, x5, 0)
  partial_fixpoint
def M.a3v : T26 × Bool × Int → Option Bool := fun ⟨x1v, x5, x6⟩ =>
  if x6 < (x1v.L.length : Int) then
  M.a52 (x1v, x5, x6, x5)
  else
  M.a52 (x1v, x5, x6, false)
  partial_fixpoint
def M.a52 : T26 × Bool × Int × Bool → Option Bool := fun ⟨x1v, x5, x6, x80⟩ =>
  if x80 = true then
  if 0 ≤ x6 then
  if x6 < (x1v.L.length : Int) then
  M.a1j (⟨(gi x1v.L x6).Kind, ((gi x1v.L x6).Set), (gi x1v.L x6).L, (gi x1v.L x6).Min, (gi x1v.L x6).Max⟩ : T26) >>= fun y34 =>
  M.a3v (x1v, y34, wr .i64 (x6 + 1))
  else none
  else none
  else
  some x5
  partial_fixpoint
def M.a28 : T26 × Bool × Bool × Int × Bool → Option Bool := fun ⟨x1v, x3, x4, x20, x30⟩ =>
  if x30 = true then
  if x3 = true then
  M.a4 (x1v, x4)
  else
  M.a4 (x1v, false)
  else
  if x20 = 4 then
  if (x1v.L.length : Int) = 1 then
  if x3 = true then
  if x1v.Min ≥ 0 then
  if x1v.Min ≤ 64 then
  if x1v.Max ≤ 64 then
  if x1v.Max = (-1) then
  M.a4 (x1v, true)
  else
  M.a4 (x1v, decide (x1v.Max ≥ x1v.Min))
  else
  M.a4 (x1v, false)
  else
  M.a4 (x1v, false)
  else
  M.a4 (x1v, false)
  else
  M.a4 (x1v, false)
  else
  M.a4 (x1v, false)
  else
  some false
  partial_fixpoint
end
def M.a5s (x0 : T26) : Option Bool :=
  M.a27 (x0, 128) >>= fun y3 =>
  if y3.1 ≤ 128 then
  if y3.2 ≤ 4096 then
  M.a1j x0 >>= fun y7 =>
  some y7
  else
  some false
  else
  some false
def M.a5t (x0 : List Int) (x1 : Int) : Option Bool :=
  if 0 ≤ iquo .u8 x1 64 then
  if iquo .u8 x1 64 < 4 then
  if 0 ≤ irem .u8 x1 64 then
  some (decide (irem .u64 (ishr .u64 (gi x0 (iquo .u8 x1 64)) (irem .u8 x1 64)) 2 = 1))
  else none
  else none
  else none
mutual
def M.a1k : T26 × (List ByteArray) × Int → Option ((List ByteArray) × Bool) := fun ⟨x1v, x4, x6⟩ =>
  if x6 < 256 then
  M.a5t x1v.Set (wr .u8 x6) >>= fun y26 =>
  if y26 = true then
  if ((x4 ++ [b2s [wr .u8 x6]]).length : Int) ≤ 1099511627776 then
  M.a53 (x1v, (x4 ++ [b2s [wr .u8 x6]]), x6)
  else none
  else
  M.a53 (x1v, x4, x6)
  else
  some (x4, decide ((x4.length : Int) ≤ 8))
  partial_fixpoint
def M.a53 : T26 × (List ByteArray) × Int → Option ((List ByteArray) × Bool) := fun ⟨x1v, x4, x6⟩ =>
  M.a1k (x1v, x4, wr .i64 (x6 + 1))
  partial_fixpoint
end
mutual
def M.au : (List ByteArray) × (List ByteArray) × Int → Option (List ByteArray) := fun ⟨x0, x3, x4⟩ =>
  if x4 < (x0.length : Int) then
  M.a3w (x0, x3, x4, 0)
  else
  some x3
  partial_fixpoint
def M.a3w : (List ByteArray) × (List ByteArray) × Int × Int → Option (List ByteArray) := fun ⟨x0, x3, x4, x5⟩ =>
  if x5 < (x3.length : Int) then
  if 0 ≤ x5 then
  if 0 ≤ x4 then
  if x4 < (x0.length : Int) then
  M.a54 (x0, x3, x4, x5, Op.bytesLess (gi x3 x5).toList (gi x0 x4).toList)
  else none
  else none
  else none
  else
  M.a54 (x0, x3, x4, x5, false)
  partial_fixpoint
def M.a54 : (List ByteArray) × (List ByteArray) × Int × Int × Bool → Option (List ByteArray) := fun ⟨x0, x3, x4, x5, x27⟩ =>
  if x27 = true then
  M.a3w (x0, x3, x4, wr .i64 (x5 + 1))
  else
  if x5 < (x3.length : Int) then
  if 0 ≤ x5 then
  if 0 ≤ x4 then
  if x4 < (x0.length : Int) then
  M.a3x (x0, x3, x4, x5, (gi x3 x5).toList == (gi x0 x4).toList)
  else none
  else none
  else none
  else
  M.a3x (x0, x3, x4, x5, false)
  partial_fixpoint
def M.a3x : (List ByteArray) × (List ByteArray) × Int × Int × Bool → Option (List ByteArray) := fun ⟨x0, x3, x4, x5, x44⟩ =>
  if x44 = true then
  M.au (x0, x3, wr .i64 (x4 + 1))
  else
  if 0 ≤ x5 then
  if x5 ≤ (x3.length : Int) then
  if 0 ≤ x4 then
  if x4 < (x0.length : Int) then
  if (([gi x0 x4] ++ (sl x3 x5 (x3.length : Int))).length : Int) ≤ 1099511627776 then
  some ((x3.take ((x5 : Int).toNat)) ++ ([gi x0 x4] ++ (sl x3 x5 (x3.length : Int)))) >>= fun v61 =>
  if (v61.length : Int) ≤ 1099511627776 then
  M.au (x0, v61, wr .i64 (x4 + 1))
  else none
  else none
  else none
  else none
  else none
  else none
  partial_fixpoint
end
def M.a2p (x0 : List ByteArray) : Option (List ByteArray) :=
  M.au (x0, ([] : List ByteArray), 0)
mutual
def M.a29 : (List ByteArray) × (List ByteArray) × (List ByteArray) × Int → Option ((List ByteArray) × Bool) := fun ⟨x0, x1, x6, x7⟩ =>
  if x7 < (x0.length : Int) then
  M.a3y (x0, x1, x6, x7, 0)
  else
  M.a2p x6 >>= fun y8 =>
  some (y8, decide ((y8.length : Int) ≤ 32))
  partial_fixpoint
def M.a3y : (List ByteArray) × (List ByteArray) × (List ByteArray) × Int × Int → Option ((List ByteArray) × Bool) := fun ⟨x0, x1, x6, x7, x8⟩ =>
  if x8 < (x1.length : Int) then
  if 0 ≤ x7 then
  if x7 < (x0.length : Int) then
  if 0 ≤ x8 then
  if wr .i64 (((gi x0 x7).size : Int) + ((gi x1 x8).size : Int)) > 32 then
  some (([] : List ByteArray), false)
  else
  if ((gi x0 x7).size : Int) + ((gi x1 x8).size : Int) ≤ 1099511627776 then
  if ((x6 ++ [(gi x0 x7) ++ (gi x1 x8)]).length : Int) ≤ 1099511627776 then
  M.a3y (x0, x1, (x6 ++ [(gi x0 x7) ++ (gi x1 x8)]), x7, wr .i64 (x8 + 1))
  else none
  else none
  else none
  else none
  else none
  else
  M.a29 (x0, x1, x6, wr .i64 (x7 + 1))
  partial_fixpoint
end
def M.a1l (x0 : List ByteArray) (x1 : List ByteArray) : Option ((List ByteArray) × Bool) :=
  M.a29 (x0, x1, ([] : List ByteArray), 0)
mutual
def M.a7 : T26 → Option ((List ByteArray) × Bool) := fun x0 =>
  if x0.Kind = 1 then
  M.a1k (x0, ([] : List ByteArray), 0)
  else
  if x0.Kind = 2 then
  M.a1m (x0, [(⟨#[]⟩ : ByteArray)], true, 0)
  else
  if x0.Kind = 3 then
  M.a3z (x0, ([] : List ByteArray), 0)
  else
  if x0.Min = x0.Max then
  M.a1n (x0, [(⟨#[]⟩ : ByteArray)], true, 0)
  else
  some (([] : List ByteArray), false)
  partial_fixpoint
def M.a1m : T26 × (List ByteArray) × Bool × Int → Option ((List ByteArray) × Bool) := fun ⟨x1v, x4, x5, x7⟩ =>
  if x7 < (x1v.L.length : Int) then
  M.a2q (x1v, x4, x5, x7, x5)
  else
  M.a2q (x1v, x4, x5, x7, false)
  partial_fixpoint
def M.a2q : T26 × (List ByteArray) × Bool × Int × Bool → Option ((List ByteArray) × Bool) := fun ⟨x1v, x4, x5, x7, x51⟩ =>
  if x51 = true then
  if 0 ≤ x7 then
  if x7 < (x1v.L.length : Int) then
  M.a7 (⟨(gi x1v.L x7).Kind, ((gi x1v.L x7).Set), (gi x1v.L x7).L, (gi x1v.L x7).Min, (gi x1v.L x7).Max⟩ : T26) >>= fun y93 =>
  if y93.2 = true then
  M.a1l x4 y93.1 >>= fun y99 =>
  M.a55 (x1v, y99.1, y99.2, x7)
  else
  M.a55 (x1v, x4, false, x7)
  else none
  else none
  else
  some (x4, x5)
  partial_fixpoint
def M.a55 : T26 × (List ByteArray) × Bool × Int → Option ((List ByteArray) × Bool) := fun ⟨x1v, x4, x5, x7⟩ =>
  M.a1m (x1v, x4, x5, wr .i64 (x7 + 1))
  partial_fixpoint
def M.a3z : T26 × (List ByteArray) × Int → Option ((List ByteArray) × Bool) := fun ⟨x1v, x4, x10⟩ =>
  if x10 < (x1v.L.length : Int) then
  if 0 ≤ x10 then
  M.a7 (⟨(gi x1v.L x10).Kind, ((gi x1v.L x10).Set), (gi x1v.L x10).L, (gi x1v.L x10).Min, (gi x1v.L x10).Max⟩ : T26) >>= fun y60 =>
  if ((x4 ++ y60.1).length : Int) ≤ 1099511627776 then
  M.a2p (x4 ++ y60.1) >>= fun y72 =>
  if y60.2 = true then
  M.a2r (x1v, y72, x10, decide ((y72.length : Int) > 32))
  else
  M.a2r (x1v, y72, x10, true)
  else none
  else none
  else
  some (x4, true)
  partial_fixpoint
def M.a2r : T26 × (List ByteArray) × Int × Bool → Option ((List ByteArray) × Bool) := fun ⟨x1v, x4, x10, x101⟩ =>
  if x101 = true then
  some (([] : List ByteArray), false)
  else
  M.a3z (x1v, x4, wr .i64 (x10 + 1))
  partial_fixpoint
def M.a1n : T26 × (List ByteArray) × Bool × Int → Option ((List ByteArray) × Bool) := fun ⟨x1v, x4, x5, x13⟩ =>
  if x13 < x1v.Min then
  M.a2s (x1v, x4, x5, x13, x5)
  else
  M.a2s (x1v, x4, x5, x13, false)
  partial_fixpoint
def M.a2s : T26 × (List ByteArray) × Bool × Int × Bool → Option ((List ByteArray) × Bool) := fun ⟨x1v, x4, x5, x13, x115⟩ =>
  if x115 = true then
  if 0 < (x1v.L.length : Int) then
  M.a7 (⟨(gi x1v.L 0).Kind, ((gi x1v.L 0).Set), (gi x1v.L 0).L, (gi x1v.L 0).Min, (gi x1v.L 0).Max⟩ : T26) >>= fun y117 =>
  if y117.2 = true then
  M.a1l x4 y117.1 >>= fun y123 =>
  M.a56 (x1v, y123.1, y123.2, x13)
  else
  M.a56 (x1v, x4, false, x13)
  else none
  else
  some (x4, x5)
  partial_fixpoint
def M.a56 : T26 × (List ByteArray) × Bool × Int → Option ((List ByteArray) × Bool) := fun ⟨x1v, x4, x5, x13⟩ =>
  M.a1n (x1v, x4, x5, wr .i64 (x13 + 1))
  partial_fixpoint
end
def M.a40 : ByteArray × (List ByteArray) × Int → Option (List ByteArray) := fun ⟨x0, x3, x4⟩ =>
  if wr .i64 (x4 + 3) ≤ (x0.size : Int) then
  if 0 ≤ x4 then
  if x4 ≤ wr .i64 (x4 + 3) then
  if ((x3 ++ [ss x0 x4 (wr .i64 (x4 + 3))]).length : Int) ≤ 1099511627776 then
  M.a40 (x0, (x3 ++ [ss x0 x4 (wr .i64 (x4 + 3))]), wr .i64 (x4 + 1))
  else none
  else none
  else none
  else
  M.a2p x3 >>= fun y20 =>
  some y20
  partial_fixpoint
def M.a57 (x0 : ByteArray) : Option (List ByteArray) :=
  M.a40 (x0, ([] : List ByteArray), 0)
mutual
def M.a2t : T38 × T38 → Option Bool := fun ⟨x0, x1⟩ =>
  if x0.Op = x1.Op then
  if (x0.Text.toList == x1.Text.toList) = true then
  M.a2u (x0, x1, !(decide ((x0.L.length : Int) = (x1.L.length : Int))))
  else
  M.a2u (x0, x1, true)
  else
  M.a2u (x0, x1, true)
  partial_fixpoint
def M.a2u : T38 × T38 × Bool → Option Bool := fun ⟨x2v, x3v, x26⟩ =>
  if x26 = true then
  some false
  else
  M.a41 (x2v, x3v, 0)
  partial_fixpoint
def M.a41 : T38 × T38 × Int → Option Bool := fun ⟨x2v, x3v, x5⟩ =>
  if x5 < (x2v.L.length : Int) then
  if 0 ≤ x5 then
  if x5 < (x3v.L.length : Int) then
  M.a2t (gi x2v.L x5, gi x3v.L x5) >>= fun y29 =>
  if y29 = true then
  M.a41 (x2v, x3v, wr .i64 (x5 + 1))
  else
  some false
  else none
  else none
  else
  some true
  partial_fixpoint
end
mutual
def M.ah : Int × T38 × Int × Int × (List T38) × (List T38) × Int → Option T38 := fun ⟨x0, x4v, x5, x6, x7, x9, x10⟩ =>
  if x10 < (x7.length : Int) then
  if 0 ≤ x10 then
  if (gi x7 x10).Op = x6 then
  some (⟨x6, (⟨#[]⟩ : ByteArray), ([] : List T38)⟩ : T38)
  else
  M.a2v (x0, x4v, x5, x6, x7, x9, x10, decide ((gi x7 x10).Op = x5), 0)
  else none
  else
  if (x9.length : Int) = 0 then
  some (⟨x5, (⟨#[]⟩ : ByteArray), ([] : List T38)⟩ : T38)
  else
  if (x9.length : Int) = 1 then
  if 0 < (x9.length : Int) then
  some (gi x9 0)
  else none
  else
  some (⟨x0, (⟨#[]⟩ : ByteArray), x9⟩ : T38)
  partial_fixpoint
def M.a2v : Int × T38 × Int × Int × (List T38) × (List T38) × Int × Bool × Int → Option T38 := fun ⟨x0, x4v, x5, x6, x7, x9, x10, x11, x12⟩ =>
  if x12 < (x9.length : Int) then
  if x11 = true then
  M.a58 (x0, x4v, x5, x6, x7, x9, x10, true, x12)
  else
  if 0 ≤ x12 then
  if 0 ≤ x10 then
  if x10 < (x7.length : Int) then
  M.a2t (gi x9 x12, gi x7 x10) >>= fun y129 =>
  M.a58 (x0, x4v, x5, x6, x7, x9, x10, y129, x12)
  else none
  else none
  else none
  else
  if x11 = true then
  M.a59 (x0, x4v, x5, x6, x7, x9, x10)
  else
  if 0 ≤ x10 then
  if x10 < (x7.length : Int) then
  if ((x9 ++ [gi x7 x10]).length : Int) ≤ 1099511627776 then
  M.a59 (x0, x4v, x5, x6, x7, (x9 ++ [gi x7 x10]), x10)
  else none
  else none
  else none
  partial_fixpoint
def M.a58 : Int × T38 × Int × Int × (List T38) × (List T38) × Int × Bool × Int → Option T38 := fun ⟨x0, x4v, x5, x6, x7, x9, x10, x11, x12⟩ =>
  M.a2v (x0, x4v, x5, x6, x7, x9, x10, x11, wr .i64 (x12 + 1))
  partial_fixpoint
def M.a59 : Int × T38 × Int × Int × (List T38) × (List T38) × Int → Option T38 := fun ⟨x0, x4v, x5, x6, x7, x9, x10⟩ =>
  M.ah (x0, x4v, x5, x6, x7, x9, wr .i64 (x10 + 1))
  partial_fixpoint
end
mutual
def M.a1o : Int × (List T38) × T38 × Int × Int × (List T38) × Int → Option T38 := fun ⟨x0, x1, x4v, x5, x6, x7, x8⟩ =>
  if x8 < (x1.length : Int) then
  if 0 ≤ x8 then
  if (gi x1 x8).Op = x0 then
  if ((x7 ++ (gi x1 x8).L).length : Int) ≤ 1099511627776 then
  M.a5a (x0, x1, x4v, x5, x6, (x7 ++ (gi x1 x8).L), x8)
  else none
  else
  if ((x7 ++ [gi x1 x8]).length : Int) ≤ 1099511627776 then
  M.a5a (x0, x1, x4v, x5, x6, (x7 ++ [gi x1 x8]), x8)
  else none
  else none
  else
  M.ah (x0, x4v, x5, x6, x7, ([] : List T38), 0)
  partial_fixpoint
def M.a5a : Int × (List T38) × T38 × Int × Int × (List T38) × Int → Option T38 := fun ⟨x0, x1, x4v, x5, x6, x7, x8⟩ =>
  M.a1o (x0, x1, x4v, x5, x6, x7, wr .i64 (x8 + 1))
  partial_fixpoint
end
def M.a5b : Int × (List T38) × T38 × Int × Int → Option T38 := fun ⟨x0, x1, x4v, x5, x6⟩ =>
  M.a1o (x0, x1, x4v, x5, x6, ([] : List T38), 0)
def M.a2w (x0 : Int) (x1 : List T38) : Option T38 :=
  if x0 = 4 then
  M.a5b (x0, x1, (⟨0, (⟨#[]⟩ : ByteArray), ([] : List T38)⟩ : T38), 1, 0)
  else
  M.a5b (x0, x1, (⟨0, (⟨#[]⟩ : ByteArray), ([] : List T38)⟩ : T38), 0, 1)
mutual
def M.a2x : (List ByteArray) × T38 × (List T38) × Int → Option T38 := fun ⟨x0, x2v, x3, x4⟩ =>
  if x4 < (x0.length : Int) then
  if 0 ≤ x4 then
  M.a57 (gi x0 x4) >>= fun y15 =>
  M.a42 (x0, x2v, x3, x4, y15, ([] : List T38), 0)
  else none
  else
  M.a2w 4 x3 >>= fun y27 =>
  some y27
  partial_fixpoint
def M.a42 : (List ByteArray) × T38 × (List T38) × Int × (List ByteArray) × (List T38) × Int → Option T38 := fun ⟨x0, x2v, x3, x4, x5, x6, x7⟩ =>
  if x7 < (x5.length : Int) then
  if 0 ≤ x7 then
  some (x6 ++ [(⟨2, gi x5 x7, ([] : List T38)⟩ : T38)]) >>= fun v41 =>
  if (v41.length : Int) ≤ 1099511627776 then
  M.a42 (x0, x2v, x3, x4, x5, v41, wr .i64 (x7 + 1))
  else none
  else none
  else
  M.a2w 3 x6 >>= fun y49 =>
  if ((x3 ++ [y49]).length : Int) ≤ 1099511627776 then
  M.a2x (x0, x2v, (x3 ++ [y49]), wr .i64 (x4 + 1))
  else none
  partial_fixpoint
end
def M.a1p (x0 : List ByteArray) : Option T38 :=
  M.a2x (x0, (⟨0, (⟨#[]⟩ : ByteArray), ([] : List T38)⟩ : T38), ([] : List T38), 0)
mutual
def M.av : T26 → Option T38 := fun x0 =>
  M.a7 x0 >>= fun y5 =>
  if y5.2 = true then
  M.a1p y5.1 >>= fun y10 =>
  some y10
  else
  if x0.Kind = 2 then
  M.ai (x0, (⟨0, (⟨#[]⟩ : ByteArray), ([] : List T38)⟩ : T38), ([] : List T38), 0)
  else
  if x0.Kind = 3 then
  M.a43 (x0, (⟨0, (⟨#[]⟩ : ByteArray), ([] : List T38)⟩ : T38), ([] : List T38), 0)
  else
  if x0.Kind = 4 then
  if x0.Min > 0 then
  if 0 < (x0.L.length : Int) then
  M.av (⟨(gi x0.L 0).Kind, ((gi x0.L 0).Set), (gi x0.L 0).L, (gi x0.L 0).Min, (gi x0.L 0).Max⟩ : T26) >>= fun y39 =>
  some y39
  else none
  else
  some (⟨0, (⟨#[]⟩ : ByteArray), ([] : List T38)⟩ : T38)
  else
  some (⟨0, (⟨#[]⟩ : ByteArray), ([] : List T38)⟩ : T38)
  partial_fixpoint
def M.ai : T26 × T38 × (List T38) × Int → Option T38 := fun ⟨x1v, x2v, x5, x6⟩ =>
  if x6 < (x1v.L.length : Int) then
  if 0 ≤ x6 then
  M.a7 (⟨(gi x1v.L x6).Kind, ((gi x1v.L x6).Set), (gi x1v.L x6).L, (gi x1v.L x6).Min, (gi x1v.L x6).Max⟩ : T26) >>= fun y52 =>
  if y52.2 = true then
  M.a44 (x1v, x2v, x5, wr .i64 (x6 + 1), y52.1)
  else
  M.av (⟨(gi x1v.L x6).Kind, ((gi x1v.L x6).Set), (gi x1v.L x6).L, (gi x1v.L x6).Min, (gi x1v.L x6).Max⟩ : T26) >>= fun y70 =>
  if ((x5 ++ [y70]).length : Int) ≤ 1099511627776 then
  M.ai (x1v, x2v, (x5 ++ [y70]), wr .i64 (x6 + 1))
  else none
  else none
  else
  M.a2w 3 x5 >>= fun y84 =>
  some y84
  partial_fixpoint
def M.a44 : T26 × T38 × (List T38) × Int × (List ByteArray) → Option T38 := fun ⟨x1v, x2v, x5, x6, x7⟩ =>
  if x6 < (x1v.L.length : Int) then
  if 0 ≤ x6 then
  M.a7 (⟨(gi x1v.L x6).Kind, ((gi x1v.L x6).Set), (gi x1v.L x6).L, (gi x1v.L x6).Min, (gi x1v.L x6).Max⟩ : T26) >>= fun y124 =>
  if y124.2 = true then
  M.a1l x7 y124.1 >>= fun y130 =>
  if y130.2 = true then
  M.a44 (x1v, x2v, x5, wr .i64 (x6 + 1), y130.1)
  else
  M.a1p x7 >>= fun y134 =>
  if ((x5 ++ [y134]).length : Int) ≤ 1099511627776 then
  M.ai (x1v, x2v, (x5 ++ [y134]), x6)
  else none
  else
  M.a1p x7 >>= fun y148 =>
  if ((x5 ++ [y148]).length : Int) ≤ 1099511627776 then
  M.ai (x1v, x2v, (x5 ++ [y148]), x6)
  else none
  else none
  else
  M.a1p x7 >>= fun y162 =>
  if ((x5 ++ [y162]).length : Int) ≤ 1099511627776 then
  M.ai (x1v, x2v, (x5 ++ [y162]), x6)
  else none
  partial_fixpoint
def M.a43 : T26 × T38 × (List T38) × Int → Option T38 := fun ⟨x1v, x2v, x5, x13⟩ =>
  if x13 < (x1v.L.length : Int) then
  if 0 ≤ x13 then
  M.av (⟨(gi x1v.L x13).Kind, ((gi x1v.L x13).Set), (gi x1v.L x13).L, (gi x1v.L x13).Min, (gi x1v.L x13).Max⟩ : T26) >>= fun y97 =>
  if ((x5 ++ [y97]).length : Int) ≤ 1099511627776 then
  M.a43 (x1v, x2v, (x5 ++ [y97]), wr .i64 (x13 + 1))
  else none
  else none
  else
  M.a2w 4 x5 >>= fun y111 =>
  some y111
  partial_fixpoint
end
def M.a5c (x0 : T26) : Option (T38 × Int) :=
  M.a5s x0 >>= fun y5 =>
  if y5 = true then
  M.av x0 >>= fun y8 =>
  some (y8, 0)
  else
  some ((⟨0, (⟨#[]⟩ : ByteArray), ([] : List T38)⟩ : T38), 2)
def M.a45 : (List ByteArray) × (List ByteArray) × Int → Option Bool := fun ⟨x0, x1, x5⟩ =>
  if x5 < (x0.length : Int) then
  if 0 ≤ x5 then
  if x5 < (x1.length : Int) then
  if ((gi x0 x5).toList == (gi x1 x5).toList) = true then
  M.a45 (x0, x1, wr .i64 (x5 + 1))
  else
  some false
  else none
  else none
  else
  some true
  partial_fixpoint
def M.a5u (x0 : List ByteArray) (x1 : List ByteArray) : Option Bool :=
  if (x0.length : Int) = (x1.length : Int) then
  M.a45 (x0, x1, 0)
  else
  some false
mutual
def M.aj : T29 × Int → Option T38 := fun ⟨x0, x1⟩ =>
  M.a2y (x1, x0, (⟨0, (⟨#[]⟩ : ByteArray), ([] : List T38)⟩ : T38), (⟨x0.Op, x0.Text, ([] : List T38)⟩ : T38), 0)
  partial_fixpoint
def M.a2y : Int × T29 × T38 × T38 × Int → Option T38 := fun ⟨x1, x2v, x4v, x5v, x6⟩ =>
  if x6 < (x2v.L.length : Int) then
  M.a46 (x1, x2v, x4v, x5v, x6, decide (x1 > 0))
  else
  M.a46 (x1, x2v, x4v, x5v, x6, false)
  partial_fixpoint
def M.a46 : Int × T29 × T38 × T38 × Int × Bool → Option T38 := fun ⟨x1, x2v, x4v, x5v, x6, x20⟩ =>
  if x20 = true then
  if 0 ≤ x6 then
  if x6 < (x2v.L.length : Int) then
  M.aj (gi x2v.L x6, wr .i64 (x1 - 1)) >>= fun y30 =>
  if ((x5v.L ++ [y30]).length : Int) ≤ 1099511627776 then
  M.a2y (x1, x2v, x4v, (⟨x5v.Op, x5v.Text, (x5v.L ++ [y30])⟩ : T38), wr .i64 (x6 + 1))
  else none
  else none
  else none
  else
  some x5v
  partial_fixpoint
end
mutual
def M.ao : T29 × Int × Int → Option (Bool × Int) := fun ⟨x0, x1, x2v_0⟩ =>
  if x1 = 0 then
  M.a1y (x1, x0, true, wr .i64 (x2v_0 + 1))
  else
  M.a1y (x1, x0, decide (wr .i64 (x2v_0 + 1) > 4096), wr .i64 (x2v_0 + 1))
  partial_fixpoint
def M.a1y : Int × T29 × Bool × Int → Option (Bool × Int) := fun ⟨x1, x3v, x21, e0v_0⟩ =>
  if x21 = true then
  some (false, e0v_0)
  else
  M.a1d (x1, x3v.L, (x3v.L.length : Int), 0, e0v_0)
  partial_fixpoint
def M.a1d : Int × (List T29) × Int × Int × Int → Option (Bool × Int) := fun ⟨x1, x23, x24, x25, e0v_0⟩ =>
  if x25 < x24 then
  if 0 ≤ x25 then
  if x25 < (x23.length : Int) then
  M.ao (gi x23 x25, wr .i64 (x1 - 1), e0v_0) >>= fun y19 =>
  if y19.1 = true then
  M.a1d (x1, x23, x24, wr .i64 (x25 + 1), y19.2)
  else
  some (false, y19.2)
  else none
  else none
  else
  some (true, e0v_0)
  partial_fixpoint
end
mutual
def M.a1e : T29 → Option Bool := fun x0 =>
  if x0.Op = 0 then
  M.ap (x0, x0.Op, true)
  else
  M.ap (x0, x0.Op, decide (x0.Op = 1))
  partial_fixpoint
def M.ap : T29 × Int × Bool → Option Bool := fun ⟨x1v, x4, x5⟩ =>
  if x5 = true then
  if (x1v.Text.toList == (⟨#[]⟩ : ByteArray).toList) = true then
  some (decide ((x1v.L.length : Int) = 0))
  else
  some false
  else
  if x4 = 2 then
  if (x1v.Text.size : Int) = 3 then
  some (decide ((x1v.L.length : Int) = 0))
  else
  some false
  else
  if x4 = 3 then
  M.aq (x1v, true)
  else
  M.aq (x1v, decide (x4 = 4))
  partial_fixpoint
def M.aq : T29 × Bool → Option Bool := fun ⟨x1v, x29⟩ =>
  if x29 = true then
  if (x1v.Text.toList == (⟨#[]⟩ : ByteArray).toList) = true then
  M.a3g x1v.L >>= fun y13 =>
  some (!y13)
  else
  some false
  else
  some false
  partial_fixpoint
def M.a3g : (List T29) → Option Bool := fun x0 =>
  M.a3h x0 >>= fun y1 =>
  some (decide (y1 ≥ 0))
  partial_fixpoint
def M.a3h : (List T29) → Option Int := fun x0 =>
  M.a1f (x0, (x0.length : Int), 0)
  partial_fixpoint
def M.a1f : (List T29) × Int × Int → Option Int := fun ⟨x0, x7, x8⟩ =>
  if x8 < x7 then
  if 0 ≤ x8 then
  if x8 < (x0.length : Int) then
  M.a3i (gi x0 x8) >>= fun y11 =>
  if y11 = true then
  some x8
  else
  M.a1f (x0, x7, wr .i64 (x8 + 1))
  else none
  else none
  else
  some (-1)
  partial_fixpoint
def M.a3i : T29 → Option Bool := fun x0 =>
  M.a1e x0 >>= fun y3 =>
  some (!y3)
  partial_fixpoint
end
def M.a2g (x0 : T29) : Option Int :=
  M.ao (x0, 8, 0) >>= fun y5 =>
  if y5.1 = true then
  M.a1e x0 >>= fun y8 =>
  if y8 = true then
  some 0
  else
  some 2
  else
  some 2
mutual
def M.a2z : T38 × Int → Option (Int × Int) := fun ⟨x0, x1⟩ =>
  M.a30 (x1, x0, 0, 1, 0)
  partial_fixpoint
def M.a30 : Int × T38 × Int × Int × Int → Option (Int × Int) := fun ⟨x1, x2v, x6, x7, x8⟩ =>
  if x8 < (x2v.L.length : Int) then
  M.a31 (x1, x2v, x6, x7, x8, decide (x8 < 5000))
  else
  M.a31 (x1, x2v, x6, x7, x8, false)
  partial_fixpoint
def M.a31 : Int × T38 × Int × Int × Int × Bool → Option (Int × Int) := fun ⟨x1, x2v, x6, x7, x8, x19⟩ =>
  if x19 = true then
  if x1 = 0 then
  some (99, 9999)
  else
  if 0 ≤ x8 then
  if x8 < (x2v.L.length : Int) then
  M.a2z (gi x2v.L x8, wr .i64 (x1 - 1)) >>= fun y17 =>
  if wr .i64 (x7 + y17.2) > 4096 then
  M.a5d (x1, x2v, imx x6 y17.1, wr .i64 (x7 + y17.2), x8, true)
  else
  M.a5d (x1, x2v, imx x6 y17.1, wr .i64 (x7 + y17.2), x8, decide (imx x6 y17.1 ≥ 99))
  else none
  else none
  else
  some (wr .i64 (x6 + 1), x7)
  partial_fixpoint
def M.a5d : Int × T38 × Int × Int × Int × Bool → Option (Int × Int) := fun ⟨x1, x2v, x6, x7, x8, x46⟩ =>
  if x46 = true then
  some (99, 9999)
  else
  M.a30 (x1, x2v, x6, x7, wr .i64 (x8 + 1))
  partial_fixpoint
end
mutual
def M.a47 : T38 → Option Bool := fun x0 =>
  if x0.Op = 0 then
  M.a32 (x0, x0.Op, true)
  else
  M.a32 (x0, x0.Op, decide (x0.Op = 1))
  partial_fixpoint
def M.a32 : T38 × Int × Bool → Option Bool := fun ⟨x1v, x6, x7⟩ =>
  if x7 = true then
  if (x1v.Text.toList == (⟨#[]⟩ : ByteArray).toList) = true then
  M.a2a (x1v, decide ((x1v.L.length : Int) = 0))
  else
  M.a2a (x1v, false)
  else
  if x6 = 2 then
  if (x1v.Text.size : Int) = 3 then
  M.a2a (x1v, decide ((x1v.L.length : Int) = 0))
  else
  M.a2a (x1v, false)
  else
  if x6 = 3 then
  M.a33 (x1v, true)
  else
  M.a33 (x1v, decide (x6 = 4))
  partial_fixpoint
def M.a2a : T38 × Bool → Option Bool := fun ⟨x1v, x3⟩ =>
  M.a48 (x1v, x3, 0)
  partial_fixpoint
def M.a48 : T38 × Bool × Int → Option Bool := fun ⟨x1v, x3, x4⟩ =>
  if x4 < (x1v.L.length : Int) then
  M.a5e (x1v, x3, x4, x3)
  else
  M.a5e (x1v, x3, x4, false)
  partial_fixpoint
def M.a5e : T38 × Bool × Int × Bool → Option Bool := fun ⟨x1v, x3, x4, x44⟩ =>
  if x44 = true then
  if 0 ≤ x4 then
  if x4 < (x1v.L.length : Int) then
  M.a47 (gi x1v.L x4) >>= fun y26 =>
  M.a48 (x1v, y26, wr .i64 (x4 + 1))
  else none
  else none
  else
  some x3
  partial_fixpoint
def M.a33 : T38 × Bool → Option Bool := fun ⟨x1v, x31⟩ =>
  if x31 = true then
  M.a2a (x1v, x1v.Text.toList == (⟨#[]⟩ : ByteArray).toList)
  else
  some false
  partial_fixpoint
end
def M.a5f (x0 : T38) : Option Int :=
  M.a2z (x0, 8) >>= fun y3 =>
  if y3.1 > 8 then
  some 2
  else
  if y3.2 > 4096 then
  some 2
  else
  M.a47 x0 >>= fun y7 =>
  if y7 = true then
  some 0
  else
  some 2
mutual
def M.a9 : T29 → Option ByteArray := fun x0 =>
  M.a2g x0 >>= fun y3 =>
  if y3 = 0 then
  M.ar (x0, ([] : List ByteArray), x0.L, (x0.L.length : Int), 0)
  else
  some (⟨#[]⟩ : ByteArray)
  partial_fixpoint
def M.ar : T29 × (List ByteArray) × (List T29) × Int × Int → Option ByteArray := fun ⟨x1v, x3, x11, x12, x13⟩ =>
  if x13 < x12 then
  if 0 ≤ x13 then
  if x13 < (x11.length : Int) then
  M.a9 (gi x11 x13) >>= fun y21 =>
  if ((x3 ++ [y21]).length : Int) ≤ 1099511627776 then
  M.ar (x1v, (x3 ++ [y21]), x11, x12, wr .i64 (x13 + 1))
  else none
  else none
  else none
  else
  if (x3.length : Int) ≤ 140737488355328 then
  if ((joinB x3 (⟨#[32]⟩ : ByteArray)).size : Int) ≤ 140737488355328 then
  if x1v.Op = 1 then
  some (⟨#[45]⟩ : ByteArray)
  else
  if x1v.Op = 2 then
  if ((⟨#[124]⟩ : ByteArray).size : Int) + (x1v.Text.size : Int) ≤ 1099511627776 then
  if (((⟨#[124]⟩ : ByteArray) ++ x1v.Text).size : Int) + ((⟨#[124]⟩ : ByteArray).size : Int) ≤ 1099511627776 then
  some (((⟨#[124]⟩ : ByteArray) ++ x1v.Text) ++ (⟨#[124]⟩ : ByteArray)) >>= fun v41 =>
  some v41
  else none
  else none
  else
  if x1v.Op = 3 then
  if ((⟨#[40]⟩ : ByteArray).size : Int) + ((joinB x3 (⟨#[32]⟩ : ByteArray)).size : Int) ≤ 1099511627776 then
  some ((⟨#[40]⟩ : ByteArray) ++ (joinB x3 (⟨#[32]⟩ : ByteArray))) >>= fun v45 =>
  if (v45.size : Int) + ((⟨#[41]⟩ : ByteArray).size : Int) ≤ 1099511627776 then
  some (v45 ++ (⟨#[41]⟩ : ByteArray))
  else none
  else none
  else
  if x1v.Op = 4 then
  if ((⟨#[91]⟩ : ByteArray).size : Int) + ((joinB x3 (⟨#[32]⟩ : ByteArray)).size : Int) ≤ 1099511627776 then
  some ((⟨#[91]⟩ : ByteArray) ++ (joinB x3 (⟨#[32]⟩ : ByteArray))) >>= fun v50 =>
  if (v50.size : Int) + ((⟨#[93]⟩ : ByteArray).size : Int) ≤ 1099511627776 then
  some (v50 ++ (⟨#[93]⟩ : ByteArray))
  else none
  else none
  else
  some (⟨#[42]⟩ : ByteArray)
  else none
  else none
  partial_fixpoint
end
mutual
def M.a49 : T38 → Option ByteArray := fun x0 =>
  M.a4a (x0, (⟨#[]⟩ : ByteArray), 0)
  partial_fixpoint
def M.a4a : T38 × ByteArray × Int → Option ByteArray := fun ⟨x1v, x3, x4⟩ =>
  if x4 < (x1v.L.length : Int) then
  M.a4b (x1v, x3, x4, decide (x1v.Op > 2))
  else
  M.a4b (x1v, x3, x4, false)
  partial_fixpoint
def M.a4b : T38 × ByteArray × Int × Bool → Option ByteArray := fun ⟨x1v, x3, x4, x14⟩ =>
  if x14 = true then
  if x4 > 0 then
  if (x3.size : Int) + ((⟨#[32]⟩ : ByteArray).size : Int) ≤ 1099511627776 then
  M.a5g (x1v, x3 ++ (⟨#[32]⟩ : ByteArray), x4)
  else none
  else
  M.a5g (x1v, x3, x4)
  else
  if x1v.Op = 0 then
  some (⟨#[42]⟩ : ByteArray)
  else
  if x1v.Op = 1 then
  some (⟨#[45]⟩ : ByteArray)
  else
  if x1v.Op = 2 then
  if ((⟨#[124]⟩ : ByteArray).size : Int) + (x1v.Text.size : Int) ≤ 1099511627776 then
  if (((⟨#[124]⟩ : ByteArray) ++ x1v.Text).size : Int) + ((⟨#[124]⟩ : ByteArray).size : Int) ≤ 1099511627776 then
  some (((⟨#[124]⟩ : ByteArray) ++ x1v.Text) ++ (⟨#[124]⟩ : ByteArray)) >>= fun v15 =>
  some v15
  else none
  else none
  else
  if x1v.Op = 3 then
  if ((⟨#[40]⟩ : ByteArray).size : Int) + (x3.size : Int) ≤ 1099511627776 then
  if (((⟨#[40]⟩ : ByteArray) ++ x3).size : Int) + ((⟨#[41]⟩ : ByteArray).size : Int) ≤ 1099511627776 then
  some (((⟨#[40]⟩ : ByteArray) ++ x3) ++ (⟨#[41]⟩ : ByteArray)) >>= fun v20 =>
  some v20
  else none
  else none
  else
  if x1v.Op = 4 then
  if ((⟨#[91]⟩ : ByteArray).size : Int) + (x3.size : Int) ≤ 1099511627776 then
  if (((⟨#[91]⟩ : ByteArray) ++ x3).size : Int) + ((⟨#[93]⟩ : ByteArray).size : Int) ≤ 1099511627776 then
  some (((⟨#[91]⟩ : ByteArray) ++ x3) ++ (⟨#[93]⟩ : ByteArray)) >>= fun v25 =>
  some v25
  else none
  else none
  else
  some (⟨#[]⟩ : ByteArray)
  partial_fixpoint
def M.a5g : T38 × ByteArray × Int → Option ByteArray := fun ⟨x1v, x3, x4⟩ =>
  if 0 ≤ x4 then
  if x4 < (x1v.L.length : Int) then
  M.a49 (gi x1v.L x4) >>= fun y36 =>
  if (x3.size : Int) + (y36.size : Int) ≤ 1099511627776 then
  M.a4a (x1v, x3 ++ y36, wr .i64 (x4 + 1))
  else none
  else none
  else none
  partial_fixpoint
end
def M.a5h (x0 : T38) : Option ByteArray :=
  M.a5f x0 >>= fun y3 =>
  if y3 = 0 then
  M.a49 x0 >>= fun y6 =>
  some y6
  else
  some (⟨#[]⟩ : ByteArray)
def M.a60 : Bool × T134 → Option (Int × T134) := fun ⟨x19, e0v⟩ =>
  if x19 = true then
  some (0, e0v)
  else
  if 0 ≤ e0v.at_ then
  if e0v.at_ < (e0v.s.size : Int) then
  some (bt e0v.s e0v.at_, e0v)
  else none
  else none
def M.a2 (x0v : T134) : Option (Int × T134) :=
  some (x0v.bad) >>= fun v8 =>
  (match v8 with
  | none =>
  M.a60 (decide (x0v.at_ ≥ (x0v.s.size : Int)), (⟨x0v.s, x0v.at_, x0v.deep, none⟩ : T134))
  | some y3 =>
  M.a60 (true, (⟨x0v.s, x0v.at_, x0v.deep, (some y3)⟩ : T134)))
def M.a1 (x0v : T134) (x1 : Int) : Option (T26 × T134) :=
  some (x0v.bad) >>= fun v13 =>
  (match v13 with
  | none =>
  some ((⟨0, [0, 0, 0, 0], ([] : List T26), 0, 0⟩ : T26), (⟨x0v.s, x0v.at_, x0v.deep, (some (⟨x1⟩ : T138))⟩ : T134))
  | some y5 =>
  some ((⟨0, [0, 0, 0, 0], ([] : List T26), 0, 0⟩ : T26), (⟨x0v.s, x0v.at_, x0v.deep, (some y5)⟩ : T134)))
def M.a61 : Bool × T134 → Option (Bool × T134) := fun ⟨x12, e0v⟩ =>
  if x12 = true then
  some (false, e0v)
  else
  some (true, (⟨e0v.s, wr .i64 (e0v.at_ + 1), e0v.deep, e0v.bad⟩ : T134))
def M.a0 (x0v : T134) (x1 : Int) : Option (Bool × T134) :=
  if x1 = 0 then
  M.a61 (true, x0v)
  else
  M.a2 x0v >>= fun y3 =>
  M.a61 (!(decide (y3.1 = x1)), y3.2)
def M.at (x0 : Int) : Option (List Int) :=
  if 0 ≤ irem .u8 x0 64 then
  if 0 ≤ iquo .u8 x0 64 then
  if iquo .u8 x0 64 < 4 then
  some (si [0, 0, 0, 0] (iquo .u8 x0 64) (ishl .u64 1 (irem .u8 x0 64))) >>= fun v11 =>
  some v11
  else none
  else none
  else none
def M.a3j : (List Int) × (List Int) × Int → Option (List Int) := fun ⟨x1, x2v_0, x4⟩ =>
  if x4 < 4 then
  if 0 ≤ x4 then
  some (si x1 x4 (ixor .u64 18446744073709551615 (gi x1 x4))) >>= fun v13 =>
  M.a3j (v13, x2v_0, wr .i64 (x4 + 1))
  else none
  else
  some x1
  partial_fixpoint
def M.a1z (x0 : List Int) : Option (List Int) :=
  M.a3j (x0, [0, 0, 0, 0], 0)
def M.a5w (x0v : T134) : Option Unit :=
  some ()
def M.a3k : Int × (List Int) × (List Int) × Int → Option (List Int) := fun ⟨x1, x4v_0, x5, x6⟩ =>
  if x6 ≤ wr .i64 x1 then
  if 0 ≤ iquo .i64 x6 64 then
  if iquo .i64 x6 64 < 4 then
  if 0 ≤ irem .i64 x6 64 then
  some (si x5 (iquo .i64 x6 64) (ior .u64 (gi x5 (iquo .i64 x6 64)) (ishl .u64 1 (irem .i64 x6 64)))) >>= fun v18 =>
  M.a3k (x1, x4v_0, v18, wr .i64 (x6 + 1))
  else none
  else none
  else none
  else
  some x5
  partial_fixpoint
def M.as (x0 : Int) (x1 : Int) : Option (List Int) :=
  M.a3k (x1, [0, 0, 0, 0], [0, 0, 0, 0], wr .i64 x0)
mutual
def M.a2h : (List Int) × (List Int) × (List (List Int)) × Int × Int → Option (List Int) := fun ⟨x2v_0, x3, x7, x8, x9⟩ =>
  if x9 < x8 then
  if 0 ≤ x9 then
  if x9 < (x7.length : Int) then
  M.a3l (x2v_0, x3, (gi x7 x9), x7, x8, x9, 0)
  else none
  else none
  else
  some x3
  partial_fixpoint
def M.a3l : (List Int) × (List Int) × (List Int) × (List (List Int)) × Int × Int × Int → Option (List Int) := fun ⟨x2v_0, x3, x5, x7, x8, x9, x13⟩ =>
  if x13 < 4 then
  if 0 ≤ x13 then
  some (si x3 x13 (ior .u64 (gi x3 x13) (gi x5 x13))) >>= fun v34 =>
  M.a3l (x2v_0, v34, x5, x7, x8, x9, wr .i64 (x13 + 1))
  else none
  else
  M.a2h (x2v_0, x3, x7, x8, wr .i64 (x9 + 1))
  partial_fixpoint
end
def M.a20 (x0 : List (List Int)) : Option (List Int) :=
  M.a2h ([0, 0, 0, 0], [0, 0, 0, 0], x0, (x0.length : Int), 0)
def M.a5l (x0 : Int) : Option ((List Int) × Bool) :=
  if ior .u8 x0 32 = 119 then
  M.as 97 122 >>= fun y6 =>
  M.as 65 90 >>= fun y8 =>
  M.at 95 >>= fun y10 =>
  M.a20 [[0, 0, 0, 0], y6, y8, y10] >>= fun y19 =>
  M.as 48 57 >>= fun y22 =>
  M.a20 [y19, y22] >>= fun y30 =>
  if iand .u8 x0 32 = 0 then
  M.a1z y30 >>= fun y33 =>
  some (y33, true)
  else
  some (y30, true)
  else
  if ior .u8 x0 32 = 100 then
  M.as 48 57 >>= fun y38 =>
  M.a20 [[0, 0, 0, 0], y38] >>= fun y45 =>
  if iand .u8 x0 32 = 0 then
  M.a1z y45 >>= fun y49 =>
  some (y49, true)
  else
  some (y45, true)
  else
  if ior .u8 x0 32 = 115 then
  M.as 9 10 >>= fun y54 =>
  M.as 12 13 >>= fun y56 =>
  M.at 32 >>= fun y58 =>
  M.a20 [y54, y56, y58] >>= fun y67 =>
  if iand .u8 x0 32 = 0 then
  M.a1z y67 >>= fun y71 =>
  some (y71, true)
  else
  some (y67, true)
  else
  some ([0, 0, 0, 0], false)
def M.a69 (x0 : Int) : Option Int :=
  if x0 ≥ 65 then
  if x0 ≤ 70 then
  some (wr .u8 ((wr .u8 (x0 + 97)) - 65))
  else
  some x0
  else
  some x0
def M.a6a (x0 : ByteArray) (x1 : Int) : Option Int :=
  some (ixB x0 x1)
def M.a21 (x0 : ByteArray) (x1 : Int) : Option Int :=
  M.a6a x0 x1 >>= fun y1 =>
  some y1
def M.a6b (x0 : Int) : Option Int :=
  M.a69 x0 >>= fun y1 =>
  M.a21 (⟨#[48, 49, 50, 51, 52, 53, 54, 55, 56, 57, 97, 98, 99, 100, 101, 102]⟩ : ByteArray) y1 >>= fun y3 =>
  some y3
def M.a4n (x0v : T134) : Option (Int × T134) :=
  M.a2 x0v >>= fun y2 =>
  M.a6b y2.1 >>= fun y4 =>
  if y4 < 0 then
  M.a1 y2.2 y2.2.at_ >>= fun y7 =>
  some (0, y7.2)
  else
  some (wr .u8 y4, (⟨y2.2.s, wr .i64 (y2.2.at_ + 1), y2.2.deep, y2.2.bad⟩ : T134))
def M.a1g (x0 : Int) : Option T370 :=
  M.at x0 >>= fun y3 =>
  some (⟨y3, x0, true⟩ : T370)
def M.a4o : T370 × Int × Bool × T134 → Option (T370 × T134) := fun ⟨x2v, x3, x66, e0v⟩ =>
  if x66 = true then
  M.a1 e0v e0v.at_ >>= fun y31 =>
  some ((⟨[0, 0, 0, 0], 0, false⟩ : T370), y31.2)
  else
  M.a1g x3 >>= fun y33 =>
  some (y33, (⟨e0v.s, wr .i64 (e0v.at_ + 1), e0v.deep, e0v.bad⟩ : T134))
def M.a4p (x0v : T134) : Option (T370 × T134) :=
  M.a2 x0v >>= fun y4 =>
  M.a5l y4.1 >>= fun y6 =>
  if y6.2 = true then
  some ((⟨y6.1, 0, false⟩ : T370), (⟨y4.2.s, wr .i64 (y4.2.at_ + 1), y4.2.deep, y4.2.bad⟩ : T134))
  else
  if y4.1 = 120 then
  M.a4n (⟨y4.2.s, wr .i64 (y4.2.at_ + 1), y4.2.deep, y4.2.bad⟩ : T134) >>= fun y14 =>
  M.a4n y14.2 >>= fun y16 =>
  M.a1g (ior .u8 (ishl .u8 y14.1 4) y16.1) >>= fun y18 =>
  some (y18, y16.2)
  else
  if y4.1 = 110 then
  M.a1g 10 >>= fun y21 =>
  some (y21, (⟨y4.2.s, wr .i64 (y4.2.at_ + 1), y4.2.deep, y4.2.bad⟩ : T134))
  else
  if y4.1 = 116 then
  M.a1g 9 >>= fun y24 =>
  some (y24, (⟨y4.2.s, wr .i64 (y4.2.at_ + 1), y4.2.deep, y4.2.bad⟩ : T134))
  else
  if y4.1 = 0 then
  M.a4o ((⟨[0, 0, 0, 0], 0, false⟩ : T370), y4.1, true, y4.2)
  else
  M.a21 (⟨#[92, 46, 91, 93, 40, 41, 42, 43, 63, 123, 125, 94, 36, 45, 47, 124]⟩ : ByteArray) y4.1 >>= fun y28 =>
  M.a4o ((⟨[0, 0, 0, 0], 0, false⟩ : T370), y4.1, decide (y28 < 0), y4.2)
def M.a2i : T370 × Int × Bool × T134 → Option (T370 × T134) := fun ⟨x2v, x3, x11, e0v⟩ =>
  if x11 = true then
  M.a1 e0v e0v.at_ >>= fun y17 =>
  some ((⟨[0, 0, 0, 0], 0, false⟩ : T370), y17.2)
  else
  M.a1g x3 >>= fun y19 =>
  some (y19, (⟨e0v.s, wr .i64 (e0v.at_ + 1), e0v.deep, e0v.bad⟩ : T134))
def M.a4q (x0v : T134) : Option (T370 × T134) :=
  M.a2 x0v >>= fun y4 =>
  M.a0 y4.2 92 >>= fun y6 =>
  if y6.1 = true then
  M.a4p y6.2 >>= fun y9 =>
  some (y9.1, y9.2)
  else
  if y4.1 < 32 then
  M.a2i ((⟨[0, 0, 0, 0], 0, false⟩ : T370), y4.1, true, y6.2)
  else
  if y4.1 > 126 then
  M.a2i ((⟨[0, 0, 0, 0], 0, false⟩ : T370), y4.1, true, y6.2)
  else
  M.a21 (⟨#[93, 91, 45]⟩ : ByteArray) y4.1 >>= fun y14 =>
  M.a2i ((⟨[0, 0, 0, 0], 0, false⟩ : T370), y4.1, decide (y14 ≥ 0), y6.2)
def M.a4r : (List Int) × Int × T370 × Int × T370 × Bool × T134 → Option ((List Int) × T134) := fun ⟨x2v_0, x3, x4v, x5, x6v, x47, e0v⟩ =>
  if x47 = true then
  some (x4v.set_, e0v)
  else
  if x6v.single = true then
  if x4v.b > x6v.b then
  M.a1 e0v x3 >>= fun y31 =>
  some (x4v.set_, y31.2)
  else
  M.as x4v.b x6v.b >>= fun y33 =>
  some (y33, e0v)
  else
  M.a1 e0v (wr .i64 (x5 + 1)) >>= fun y36 =>
  some (x4v.set_, y36.2)
def M.a5m (x0v : T134) : Option ((List Int) × T134) :=
  M.a4q x0v >>= fun y4 =>
  M.a2 y4.2 >>= fun y8 =>
  if y8.1 = 45 then
  if y4.1.single = true then
  M.a4q (⟨y8.2.s, wr .i64 (y8.2.at_ + 1), y8.2.deep, y8.2.bad⟩ : T134) >>= fun y12 =>
  some (y12.2.bad) >>= fun v25 =>
  (match v25 with
  | none =>
  M.a4r ([0, 0, 0, 0], x0v.at_, (⟨y4.1.set_, y4.1.b, true⟩ : T370), wr .i64 (y8.2.at_ + 1), y12.1, false, (⟨y12.2.s, y12.2.at_, y12.2.deep, none⟩ : T134))
  | some y17 =>
  M.a4r ([0, 0, 0, 0], x0v.at_, (⟨y4.1.set_, y4.1.b, true⟩ : T370), wr .i64 (y8.2.at_ + 1), y12.1, true, (⟨y12.2.s, y12.2.at_, y12.2.deep, (some y17)⟩ : T134)))
  else
  M.a1 y8.2 y8.2.at_ >>= fun y26 =>
  some (y4.1.set_, y26.2)
  else
  some (y4.1.set_, y8.2)
def M.a5n (kq2v : T26) (kq3 : Bool) (kq4 : List Int) (kq9b0v_0v : T134) (a0 : List Int) : Option (List Int) :=
  M.a20 [kq4, a0] >>= fun y16 =>
  some y16
mutual
def M.a2j : Bool × (List Int) × T134 × T26 × Bool → Option ((List Int) × T134) := fun ⟨x3, e2, e4v, x0q2v, x0q3⟩ =>
  some (e4v.bad) >>= fun v17 =>
  (match v17 with
  | none =>
  if x3 = true then
  M.a2k (true, e2, (⟨e4v.s, e4v.at_, e4v.deep, none⟩ : T134), x0q2v, x0q3)
  else
  M.a0 (⟨e4v.s, e4v.at_, e4v.deep, none⟩ : T134) 93 >>= fun y15 =>
  M.a2k (!y15.1, e2, y15.2, x0q2v, x0q3)
  | some y9 =>
  M.a2k (false, e2, (⟨e4v.s, e4v.at_, e4v.deep, (some y9)⟩ : T134), x0q2v, x0q3))
  partial_fixpoint
def M.a2k : Bool × (List Int) × T134 × T26 × Bool → Option ((List Int) × T134) := fun ⟨x16, e2, e4v, x0q2v, x0q3⟩ =>
  if x16 = true then
  M.a5m e4v >>= fun y19 =>
  M.a5n x0q2v x0q3 e2 y19.2 y19.1 >>= fun y21 =>
  M.a2j (false, y21, y19.2, x0q2v, x0q3)
  else
  some (e2, e4v)
  partial_fixpoint
end
def M.a5o (x0q2v : T26) (x0q3 : Bool) (x0q4v_0 : List Int) (x0q9b0v_0v : T134) : Option ((List Int) × T134) :=
  M.a2j (true, x0q4v_0, x0q9b0v_0v, x0q2v, x0q3)
def M.a5p (x0v : T134) : Option (T26 × T134) :=
  M.a0 x0v 94 >>= fun y4 =>
  M.a5w y4.2 >>= fun y8 =>
  M.a5o (⟨0, [0, 0, 0, 0], ([] : List T26), 0, 0⟩ : T26) y4.1 [0, 0, 0, 0] y4.2 >>= fun y17 =>
  if y4.1 = true then
  M.a1z y17.1 >>= fun y20 =>
  some ((⟨1, y20, ([] : List T26), 0, 0⟩ : T26), y17.2)
  else
  some ((⟨1, y17.1, ([] : List T26), 0, 0⟩ : T26), y17.2)
def M.a3m (x0v : T134) (x1 : Int) : Option T134 :=
  M.a0 x0v x1 >>= fun y2 =>
  if y2.1 = true then
  some y2.2
  else
  M.a1 y2.2 y2.2.at_ >>= fun y5 =>
  some y5.2
def M.a62 (x0v_0v : T134) : Option (Bool × T134) :=
  M.a2 x0v_0v >>= fun y3 =>
  if y3.1 ≥ 48 then
  M.a2 y3.2 >>= fun y6 =>
  some (decide (y6.1 ≤ 57), y6.2)
  else
  some (false, y3.2)
def M.a63 : Int × Bool × T134 → Option (Int × T134) := fun ⟨x4, x25, e0v⟩ =>
  if x25 = true then
  M.a2 e0v >>= fun y14 =>
  some (wr .i64 ((wr .i64 (10 * x4)) + (wr .i64 (wr .u8 (y14.1 - 48)))), (⟨y14.2.s, wr .i64 (y14.2.at_ + 1), y14.2.deep, y14.2.bad⟩ : T134))
  else
  some (x4, e0v)
def M.a64 (x0v : T134) : Option (Int × T134) :=
  M.a62 x0v >>= fun y4 =>
  if y4.1 = true then
  M.a2 y4.2 >>= fun y7 =>
  if wr .i64 (wr .u8 (y7.1 - 48)) > 0 then
  M.a62 (⟨y7.2.s, wr .i64 (y7.2.at_ + 1), y7.2.deep, y7.2.bad⟩ : T134) >>= fun y10 =>
  M.a63 (wr .i64 (wr .u8 (y7.1 - 48)), y10.1, y10.2)
  else
  M.a63 (wr .i64 (wr .u8 (y7.1 - 48)), false, (⟨y7.2.s, wr .i64 (y7.2.at_ + 1), y7.2.deep, y7.2.bad⟩ : T134))
  else
  some ((-1), y4.2)
def M.a65 : Int × Int × Int × T134 → Option (Int × Int × T134) := fun ⟨x1, x6, x7, e0v⟩ =>
  M.a3m e0v 125 >>= fun y12 =>
  if x6 > 64 then
  M.a1 y12 x1 >>= fun y15 =>
  some (x6, x7, y15.2)
  else
  if x7 > 64 then
  M.a1 y12 x1 >>= fun y18 =>
  some (x6, x7, y18.2)
  else
  if x7 ≥ 0 then
  if x6 > x7 then
  M.a1 y12 x1 >>= fun y22 =>
  some (x6, x7, y22.2)
  else
  some (x6, x7, y12)
  else
  some (x6, x7, y12)
def M.a66 : Int × Int × T134 → Option (Int × Int × T134) := fun ⟨x1, x6, e0v⟩ =>
  M.a0 e0v 44 >>= fun y7 =>
  if y7.1 = true then
  M.a64 y7.2 >>= fun y10 =>
  M.a65 (x1, x6, y10.1, y10.2)
  else
  M.a65 (x1, x6, x6, y7.2)
def M.a5x (x0v : T134) (x1 : Int) : Option (Int × Int × T134) :=
  M.a64 x0v >>= fun y2 =>
  if y2.1 < 0 then
  M.a1 y2.2 y2.2.at_ >>= fun y5 =>
  M.a66 (x1, y2.1, y5.2)
  else
  M.a66 (x1, y2.1, y2.2)
def M.a4s (x0 : Int) (x1 : List T26) : Option T26 :=
  if (x1.length : Int) = 1 then
  if 0 < (x1.length : Int) then
  some (⟨(gi x1 0).Kind, ((gi x1 0).Set), (gi x1 0).L, (gi x1 0).Min, (gi x1 0).Max⟩ : T26)
  else none
  else
  some (⟨x0, [0, 0, 0, 0], x1, 0, 0⟩ : T26)
mutual
def M.a2l : T134 → Option (T26 × T134) := fun x0v =>
  M.a3n x0v >>= fun y4 =>
  M.a3r ((⟨0, [0, 0, 0, 0], ([] : List T26), 0, 0⟩ : T26), [y4.1], y4.2)
  partial_fixpoint
def M.a3n : T134 → Option (T26 × T134) := fun x0v =>
  M.a3o ((⟨0, [0, 0, 0, 0], ([] : List T26), 0, 0⟩ : T26), ([] : List T26), x0v)
  partial_fixpoint
def M.a3o : T26 × (List T26) × T134 → Option (T26 × T134) := fun ⟨x2v, x3, e0v⟩ =>
  some (e0v.bad) >>= fun v24 =>
  (match v24 with
  | none =>
  if e0v.at_ < (e0v.s.size : Int) then
  M.a2 (⟨e0v.s, e0v.at_, e0v.deep, none⟩ : T134) >>= fun y16 =>
  if y16.1 = 124 then
  M.a22 (x2v, x3, false, y16.2)
  else
  M.a2 y16.2 >>= fun y22 =>
  M.a22 (x2v, x3, !(decide (y22.1 = 41)), y22.2)
  else
  M.a22 (x2v, x3, false, (⟨e0v.s, e0v.at_, e0v.deep, none⟩ : T134))
  | some y10 =>
  M.a22 (x2v, x3, false, (⟨e0v.s, e0v.at_, e0v.deep, (some y10)⟩ : T134)))
  partial_fixpoint
def M.a22 : T26 × (List T26) × Bool × T134 → Option (T26 × T134) := fun ⟨x2v, x3, x30, e0v⟩ =>
  if x30 = true then
  M.a4t e0v >>= fun y26 =>
  if ((x3 ++ [y26.1]).length : Int) ≤ 1099511627776 then
  M.a3o (x2v, (x3 ++ [y26.1]), y26.2)
  else none
  else
  M.a4s 2 x3 >>= fun y40 =>
  some (y40, e0v)
  partial_fixpoint
def M.a4t : T134 → Option (T26 × T134) := fun x0v =>
  M.a4u x0v >>= fun y4 =>
  M.a0 y4.2 42 >>= fun y8 =>
  if y8.1 = true then
  some ((⟨4, [0, 0, 0, 0], [y4.1], 0, (-1)⟩ : T26), y8.2)
  else
  M.a0 y8.2 43 >>= fun y15 =>
  if y15.1 = true then
  some ((⟨4, [0, 0, 0, 0], [y4.1], 1, (-1)⟩ : T26), y15.2)
  else
  M.a0 y15.2 63 >>= fun y22 =>
  if y22.1 = true then
  some ((⟨4, [0, 0, 0, 0], [y4.1], 0, 1⟩ : T26), y22.2)
  else
  M.a0 y22.2 123 >>= fun y29 =>
  if y29.1 = true then
  M.a5x y29.2 y4.2.at_ >>= fun y32 =>
  some ((⟨4, [0, 0, 0, 0], [y4.1], y32.1, y32.2.1⟩ : T26), y32.2.2)
  else
  some (y4.1, y29.2)
  partial_fixpoint
def M.a4u : T134 → Option (T26 × T134) := fun x0v =>
  M.a2 x0v >>= fun y4 =>
  if y4.1 < 32 then
  M.a2m ((⟨0, [0, 0, 0, 0], ([] : List T26), 0, 0⟩ : T26), y4.1, true, y4.2)
  else
  if y4.1 > 126 then
  M.a2m ((⟨0, [0, 0, 0, 0], ([] : List T26), 0, 0⟩ : T26), y4.1, true, y4.2)
  else
  M.a21 (⟨#[93, 41, 42, 43, 63, 123, 125, 94, 36, 124]⟩ : ByteArray) y4.1 >>= fun y12 =>
  M.a2m ((⟨0, [0, 0, 0, 0], ([] : List T26), 0, 0⟩ : T26), y4.1, decide (y12 ≥ 0), y4.2)
  partial_fixpoint
def M.a2m : T26 × Int × Bool × T134 → Option (T26 × T134) := fun ⟨x2v, x3, x6, e0v⟩ =>
  if x6 = true then
  M.a1 e0v e0v.at_ >>= fun y16 =>
  some (y16.1, y16.2)
  else
  if x3 = 40 then
  M.a3p (x2v, x3, decide (e0v.deep = 32), e0v)
  else
  M.a3p (x2v, x3, false, e0v)
  partial_fixpoint
def M.a3p : T26 × Int × Bool × T134 → Option (T26 × T134) := fun ⟨x2v, x3, x24, e0v⟩ =>
  if x24 = true then
  M.a1 e0v e0v.at_ >>= fun y22 =>
  some (y22.1, y22.2)
  else
  M.a0 e0v 46 >>= fun y24 =>
  if y24.1 = true then
  M.at 10 >>= fun y27 =>
  M.a1z y27 >>= fun y29 =>
  some ((⟨1, y29, ([] : List T26), 0, 0⟩ : T26), y24.2)
  else
  M.a0 y24.2 91 >>= fun y32 =>
  if y32.1 = true then
  M.a5p y32.2 >>= fun y35 =>
  some (y35.1, y35.2)
  else
  M.a0 y32.2 40 >>= fun y37 =>
  if y37.1 = true then
  M.a4v y37.2 >>= fun y40 =>
  some (y40.1, y40.2)
  else
  M.a0 y37.2 92 >>= fun y42 =>
  if y42.1 = true then
  M.a4p y42.2 >>= fun y45 =>
  some ((⟨1, y45.1.set_, ([] : List T26), 0, 0⟩ : T26), y45.2)
  else
  M.at x3 >>= fun y47 =>
  some ((⟨1, y47, ([] : List T26), 0, 0⟩ : T26), (⟨y42.2.s, wr .i64 (y42.2.at_ + 1), y42.2.deep, y42.2.bad⟩ : T134))
  partial_fixpoint
def M.a4v : T134 → Option (T26 × T134) := fun x0v =>
  M.a0 x0v 63 >>= fun y4 =>
  if y4.1 = true then
  M.a3m y4.2 58 >>= fun y7 =>
  M.a3q ((⟨0, [0, 0, 0, 0], ([] : List T26), 0, 0⟩ : T26), y7)
  else
  M.a3q ((⟨0, [0, 0, 0, 0], ([] : List T26), 0, 0⟩ : T26), y4.2)
  partial_fixpoint
def M.a3q : T26 × T134 → Option (T26 × T134) := fun ⟨x2v, e0v⟩ =>
  M.a2l (⟨e0v.s, e0v.at_, wr .i64 (e0v.deep + 1), e0v.bad⟩ : T134) >>= fun y13 =>
  M.a3m (⟨y13.2.s, y13.2.at_, wr .i64 (y13.2.deep - 1), y13.2.bad⟩ : T134) 41 >>= fun y17 =>
  some (y13.1, y17)
  partial_fixpoint
def M.a3r : T26 × (List T26) × T134 → Option (T26 × T134) := fun ⟨x2v, x3, e0v⟩ =>
  M.a0 e0v 124 >>= fun y13 =>
  if y13.1 = true then
  M.a3n y13.2 >>= fun y16 =>
  if ((x3 ++ [y16.1]).length : Int) ≤ 1099511627776 then
  M.a3r (x2v, (x3 ++ [y16.1]), y16.2)
  else none
  else
  M.a4s 3 x3 >>= fun y30 =>
  some (y30, y13.2)
  partial_fixpoint
end
def M.a67 : T26 × T134 × T26 × Bool → Option (T26 × Int × Int) := fun ⟨x2v, x5v, x6v, x40⟩ =>
  if x40 = true then
  some (x5v.bad) >>= fun v48 =>
  (match v48 with
  | none =>
  none
  | some y43 =>
  some ((⟨0, [0, 0, 0, 0], ([] : List T26), 0, 0⟩ : T26), y43.at_, 100))
  else
  some (x6v, 0, 0)
def M.a68 : T26 × T134 × T26 → Option (T26 × Int × Int) := fun ⟨x2v, x5v, x6v⟩ =>
  some (x5v.bad) >>= fun v40 =>
  (match v40 with
  | none =>
  M.a67 (x2v, (⟨x5v.s, x5v.at_, x5v.deep, none⟩ : T134), x6v, false)
  | some y31 =>
  M.a67 (x2v, (⟨x5v.s, x5v.at_, x5v.deep, (some y31)⟩ : T134), x6v, true))
def M.a4w : T26 × T134 × T26 × Bool → Option (T26 × Int × Int) := fun ⟨x2v, x5v, x6v, x29⟩ =>
  if x29 = true then
  M.a1 x5v x5v.at_ >>= fun y24 =>
  M.a68 (x2v, y24.2, x6v)
  else
  M.a68 (x2v, x5v, x6v)
def M.a5q (x0 : ByteArray) : Option (T26 × Int × Int) :=
  if (x0.size : Int) > 256 then
  some ((⟨0, [0, 0, 0, 0], ([] : List T26), 0, 0⟩ : T26), 0, 3)
  else
  M.a2l (⟨x0, 0, 0, none⟩ : T134) >>= fun y6 =>
  some (y6.2.bad) >>= fun v22 =>
  (match v22 with
  | none =>
  M.a4w ((⟨0, [0, 0, 0, 0], ([] : List T26), 0, 0⟩ : T26), (⟨y6.2.s, y6.2.at_, y6.2.deep, none⟩ : T134), y6.1, decide (y6.2.at_ < (x0.size : Int)))
  | some y11 =>
  M.a4w ((⟨0, [0, 0, 0, 0], ([] : List T26), 0, 0⟩ : T26), (⟨y6.2.s, y6.2.at_, y6.2.deep, (some y11)⟩ : T134), y6.1, false))
def M.a3s (x0 : ByteArray) : Option ByteArray :=
  M.a5q x0 >>= fun y1 =>
  M.a1x y1.1 >>= fun y5 =>
  M.a9 y5.1 >>= fun y9 =>
  some y9
def M.a3t : Option Bool :=
  M.a3s (⟨#[97, 98, 99, 100, 124, 120, 121, 122]⟩ : ByteArray) >>= fun y1 =>
  if (y1.toList == (⟨#[91, 40, 124, 97, 98, 99, 124, 32, 124, 98, 99, 100, 124, 41, 32, 124, 120, 121, 122, 124, 93]⟩ : ByteArray).toList) = true then
  M.a3s (⟨#[97, 98, 42]⟩ : ByteArray) >>= fun y4 =>
  if (y4.toList == (⟨#[42]⟩ : ByteArray).toList) = true then
  M.a3s (⟨#[40, 97, 124, 98, 41, 99, 100, 46, 101, 102, 103]⟩ : ByteArray) >>= fun y7 =>
  some (y7.toList == (⟨#[40, 91, 124, 97, 99, 100, 124, 32, 124, 98, 99, 100, 124, 93, 32, 124, 101, 102, 103, 124, 41]⟩ : ByteArray).toList)
  else
  some false
  else
  some false
def M.a5v (x0 : ByteArray) (x1 : T26) (x2 : T29) : Option Bool :=
  if 0 ≤ imn (x0.size : Int) 100 then
  if imn (x0.size : Int) 100 ≤ (x0.size : Int) then
  M.a5r x1 >>= fun y7 =>
  M.a25 (x2, 9, 80) >>= fun y12 =>
  M.a1x y7 >>= fun y16 =>
  M.a5c y7 >>= fun y20 =>
  M.a2f (ss x0 0 (imn (x0.size : Int) 100)) >>= fun y24 =>
  M.a57 (ss x0 0 (imn (x0.size : Int) 100)) >>= fun y27 =>
  M.a5u y24 y27 >>= fun y32 =>
  if y32 = true then
  if y16.2 = y20.2 then
  M.aj (y16.1, 200) >>= fun y36 =>
  M.a2t (y36, y20.1) >>= fun y40 =>
  if y40 = true then
  M.a2g y12.1 >>= fun y44 =>
  M.aj (y12.1, 20) >>= fun y46 =>
  M.a5f y46 >>= fun y50 =>
  if y44 = y50 then
  M.a9 y12.1 >>= fun y53 =>
  M.aj (y12.1, 20) >>= fun y55 =>
  M.a5h y55 >>= fun y59 =>
  if (y53.toList == y59.toList) = true then
  M.a3t >>= fun y62 =>
  some y62
  else
  some false
  else
  some false
  else
  some false
  else
  some false
  else
  some false
  else none
  else none
end Go.Gx
