import Derived.Test.YtdccklkdakfnaaaGreatGI
set_option linter.unusedVariables false
namespace Go.Gx
structure T26 where
  Kind : Int
  Set : List Int
  L : List T26
  Min : Int
  Max : Int
instance : Inhabited T26 := ⟨⟨default, default, [], default, default⟩⟩
structure T138 where
  at_ : Int
  deriving Inhabited
structure T134 where
  s : ByteArray
  at_ : Int
  deep : Int
  bad : Option T138
  deriving Inhabited
structure T370 where
  set_ : List Int
  b : Int
  single : Bool
  deriving Inhabited
structure T218 where
  l : List ByteArray
  known : Bool
  deriving Inhabited
structure T29 where
  Op : Int
  Text : ByteArray
  L : List T29
instance : Inhabited T29 := ⟨⟨default, default, []⟩⟩
structure T174 where
  Op : Int
  Set : List Int
  X : Int
  Y : Int
  deriving Inhabited
structure T170 where
  l : List T174
  deriving Inhabited
structure T248 where
  n : Int
  code : T26 ⊕ T26 ⊕ (Int × T26)
  deriving Inhabited
structure T265 where
  place : List Int
  list : List Int
  deriving Inhabited
structure T255 where
  l : List T174
  now : T265
  next : T265
  deriving Inhabited
def M.a5k : Bool × T134 → Option (Int × T134) := fun ⟨x19, e0v⟩ =>
  if x19 = true then
  some (0, e0v)
  else
  if 0 ≤ e0v.at_ then
  if e0v.at_ < (e0v.s.size : Int) then
  some (bt e0v.s e0v.at_, e0v)
  else none
  else none
def M.a2 (x0v : T134) : Option (Int × T134) :=
  some (x0v.bad) >>= fun v8 =>
  (match v8 with
  | none =>
  M.a5k (decide (x0v.at_ ≥ (x0v.s.size : Int)), (⟨x0v.s, x0v.at_, x0v.deep, none⟩ : T134))
  | some y3 =>
  M.a5k (true, (⟨x0v.s, x0v.at_, x0v.deep, (some y3)⟩ : T134)))
def M.a1 (x0v : T134) (x1 : Int) : Option (T26 × T134) :=
  some (x0v.bad) >>= fun v13 =>
  (match v13 with
  | none =>
  some ((⟨0, [0, 0, 0, 0], ([] : List T26), 0, 0⟩ : T26), (⟨x0v.s, x0v.at_, x0v.deep, (some (⟨x1⟩ : T138))⟩ : T134))
  | some y5 =>
  some ((⟨0, [0, 0, 0, 0], ([] : List T26), 0, 0⟩ : T26), (⟨x0v.s, x0v.at_, x0v.deep, (some y5)⟩ : T134)))
def M.a5l : Bool × T134 → Option (Bool × T134) := fun ⟨x12, e0v⟩ =>
  if x12 = true then
  some (false, e0v)
  else
  some (true, (⟨e0v.s, wr .i64 (e0v.at_ + 1), e0v.deep, e0v.bad⟩ : T134))
def M.a0 (x0v : T134) (x1 : Int) : Option (Bool × T134) :=
  if x1 = 0 then
  M.a5l (true, x0v)
  else
  M.a2 x0v >>= fun y3 =>
  M.a5l (!(decide (y3.1 = x1)), y3.2)
def M.aj (x0 : Int) : Option (List Int) :=
  if 0 ≤ irem .u8 x0 64 then
  if 0 ≤ iquo .u8 x0 64 then
  if iquo .u8 x0 64 < 4 then
  some (si [0, 0, 0, 0] (iquo .u8 x0 64) (ishl .u64 1 (irem .u8 x0 64))) >>= fun v11 =>
  some v11
  else none
  else none
  else none
def M.a2s : (List Int) × (List Int) × Int → Option (List Int) := fun ⟨x1, x2v_0, x4⟩ =>
  if x4 < 4 then
  if 0 ≤ x4 then
  some (si x1 x4 (ixor .u64 18446744073709551615 (gi x1 x4))) >>= fun v13 =>
  M.a2s (v13, x2v_0, wr .i64 (x4 + 1))
  else none
  else
  some x1
  partial_fixpoint
def M.a1g (x0 : List Int) : Option (List Int) :=
  M.a2s (x0, [0, 0, 0, 0], 0)
def M.a5i (x0v : T134) : Option Unit :=
  some ()
def M.a2t : Int × (List Int) × (List Int) × Int → Option (List Int) := fun ⟨x1, x4v_0, x5, x6⟩ =>
  if x6 ≤ wr .i64 x1 then
  if 0 ≤ iquo .i64 x6 64 then
  if iquo .i64 x6 64 < 4 then
  if 0 ≤ irem .i64 x6 64 then
  some (si x5 (iquo .i64 x6 64) (ior .u64 (gi x5 (iquo .i64 x6 64)) (ishl .u64 1 (irem .i64 x6 64)))) >>= fun v18 =>
  M.a2t (x1, x4v_0, v18, wr .i64 (x6 + 1))
  else none
  else none
  else none
  else
  some x5
  partial_fixpoint
def M.ai (x0 : Int) (x1 : Int) : Option (List Int) :=
  M.a2t (x1, [0, 0, 0, 0], [0, 0, 0, 0], wr .i64 x0)
mutual
def M.a21 : (List Int) × (List Int) × (List (List Int)) × Int × Int → Option (List Int) := fun ⟨x2v_0, x3, x7, x8, x9⟩ =>
  if x9 < x8 then
  if 0 ≤ x9 then
  if x9 < (x7.length : Int) then
  M.a2u (x2v_0, x3, (gi x7 x9), x7, x8, x9, 0)
  else none
  else none
  else
  some x3
  partial_fixpoint
def M.a2u : (List Int) × (List Int) × (List Int) × (List (List Int)) × Int × Int × Int → Option (List Int) := fun ⟨x2v_0, x3, x5, x7, x8, x9, x13⟩ =>
  if x13 < 4 then
  if 0 ≤ x13 then
  some (si x3 x13 (ior .u64 (gi x3 x13) (gi x5 x13))) >>= fun v34 =>
  M.a2u (x2v_0, v34, x5, x7, x8, x9, wr .i64 (x13 + 1))
  else none
  else
  M.a21 (x2v_0, x3, x7, x8, wr .i64 (x9 + 1))
  partial_fixpoint
end
def M.a1h (x0 : List (List Int)) : Option (List Int) :=
  M.a21 ([0, 0, 0, 0], [0, 0, 0, 0], x0, (x0.length : Int), 0)
def M.a4k (x0 : Int) : Option ((List Int) × Bool) :=
  if ior .u8 x0 32 = 119 then
  M.ai 97 122 >>= fun y6 =>
  M.ai 65 90 >>= fun y8 =>
  M.aj 95 >>= fun y10 =>
  M.a1h [[0, 0, 0, 0], y6, y8, y10] >>= fun y19 =>
  M.ai 48 57 >>= fun y22 =>
  M.a1h [y19, y22] >>= fun y30 =>
  if iand .u8 x0 32 = 0 then
  M.a1g y30 >>= fun y33 =>
  some (y33, true)
  else
  some (y30, true)
  else
  if ior .u8 x0 32 = 100 then
  M.ai 48 57 >>= fun y38 =>
  M.a1h [[0, 0, 0, 0], y38] >>= fun y45 =>
  if iand .u8 x0 32 = 0 then
  M.a1g y45 >>= fun y49 =>
  some (y49, true)
  else
  some (y45, true)
  else
  if ior .u8 x0 32 = 115 then
  M.ai 9 10 >>= fun y54 =>
  M.ai 12 13 >>= fun y56 =>
  M.aj 32 >>= fun y58 =>
  M.a1h [y54, y56, y58] >>= fun y67 =>
  if iand .u8 x0 32 = 0 then
  M.a1g y67 >>= fun y71 =>
  some (y71, true)
  else
  some (y67, true)
  else
  some ([0, 0, 0, 0], false)
def M.a6a (x0 : Int) : Option Int :=
  if x0 ≥ 65 then
  if x0 ≤ 70 then
  some (wr .u8 ((wr .u8 (x0 + 97)) - 65))
  else
  some x0
  else
  some x0
def M.a6b (x0 : ByteArray) (x1 : Int) : Option Int :=
  some (ixB x0 x1)
def M.a1i (x0 : ByteArray) (x1 : Int) : Option Int :=
  M.a6b x0 x1 >>= fun y1 =>
  some y1
def M.a6c (x0 : Int) : Option Int :=
  M.a6a x0 >>= fun y1 =>
  M.a1i (⟨#[48, 49, 50, 51, 52, 53, 54, 55, 56, 57, 97, 98, 99, 100, 101, 102]⟩ : ByteArray) y1 >>= fun y3 =>
  some y3
def M.a3m (x0v : T134) : Option (Int × T134) :=
  M.a2 x0v >>= fun y2 =>
  M.a6c y2.1 >>= fun y4 =>
  if y4 < 0 then
  M.a1 y2.2 y2.2.at_ >>= fun y7 =>
  some (0, y7.2)
  else
  some (wr .u8 y4, (⟨y2.2.s, wr .i64 (y2.2.at_ + 1), y2.2.deep, y2.2.bad⟩ : T134))
def M.ar (x0 : Int) : Option T370 :=
  M.aj x0 >>= fun y3 =>
  some (⟨y3, x0, true⟩ : T370)
def M.a3n : T370 × Int × Bool × T134 → Option (T370 × T134) := fun ⟨x2v, x3, x66, e0v⟩ =>
  if x66 = true then
  M.a1 e0v e0v.at_ >>= fun y31 =>
  some ((⟨[0, 0, 0, 0], 0, false⟩ : T370), y31.2)
  else
  M.ar x3 >>= fun y33 =>
  some (y33, (⟨e0v.s, wr .i64 (e0v.at_ + 1), e0v.deep, e0v.bad⟩ : T134))
def M.a3o (x0v : T134) : Option (T370 × T134) :=
  M.a2 x0v >>= fun y4 =>
  M.a4k y4.1 >>= fun y6 =>
  if y6.2 = true then
  some ((⟨y6.1, 0, false⟩ : T370), (⟨y4.2.s, wr .i64 (y4.2.at_ + 1), y4.2.deep, y4.2.bad⟩ : T134))
  else
  if y4.1 = 120 then
  M.a3m (⟨y4.2.s, wr .i64 (y4.2.at_ + 1), y4.2.deep, y4.2.bad⟩ : T134) >>= fun y14 =>
  M.a3m y14.2 >>= fun y16 =>
  M.ar (ior .u8 (ishl .u8 y14.1 4) y16.1) >>= fun y18 =>
  some (y18, y16.2)
  else
  if y4.1 = 110 then
  M.ar 10 >>= fun y21 =>
  some (y21, (⟨y4.2.s, wr .i64 (y4.2.at_ + 1), y4.2.deep, y4.2.bad⟩ : T134))
  else
  if y4.1 = 116 then
  M.ar 9 >>= fun y24 =>
  some (y24, (⟨y4.2.s, wr .i64 (y4.2.at_ + 1), y4.2.deep, y4.2.bad⟩ : T134))
  else
  if y4.1 = 0 then
  M.a3n ((⟨[0, 0, 0, 0], 0, false⟩ : T370), y4.1, true, y4.2)
  else
  M.a1i (⟨#[92, 46, 91, 93, 40, 41, 42, 43, 63, 123, 125, 94, 36, 45, 47, 124]⟩ : ByteArray) y4.1 >>= fun y28 =>
  M.a3n ((⟨[0, 0, 0, 0], 0, false⟩ : T370), y4.1, decide (y28 < 0), y4.2)
def M.a22 : T370 × Int × Bool × T134 → Option (T370 × T134) := fun ⟨x2v, x3, x11, e0v⟩ =>
  if x11 = true then
  M.a1 e0v e0v.at_ >>= fun y17 =>
  some ((⟨[0, 0, 0, 0], 0, false⟩ : T370), y17.2)
  else
  M.ar x3 >>= fun y19 =>
  some (y19, (⟨e0v.s, wr .i64 (e0v.at_ + 1), e0v.deep, e0v.bad⟩ : T134))
def M.a3p (x0v : T134) : Option (T370 × T134) :=
  M.a2 x0v >>= fun y4 =>
  M.a0 y4.2 92 >>= fun y6 =>
  if y6.1 = true then
  M.a3o y6.2 >>= fun y9 =>
  some (y9.1, y9.2)
  else
  if y4.1 < 32 then
  M.a22 ((⟨[0, 0, 0, 0], 0, false⟩ : T370), y4.1, true, y6.2)
  else
  if y4.1 > 126 then
  M.a22 ((⟨[0, 0, 0, 0], 0, false⟩ : T370), y4.1, true, y6.2)
  else
  M.a1i (⟨#[93, 91, 45]⟩ : ByteArray) y4.1 >>= fun y14 =>
  M.a22 ((⟨[0, 0, 0, 0], 0, false⟩ : T370), y4.1, decide (y14 ≥ 0), y6.2)
def M.a3q : (List Int) × Int × T370 × Int × T370 × Bool × T134 → Option ((List Int) × T134) := fun ⟨x2v_0, x3, x4v, x5, x6v, x47, e0v⟩ =>
  if x47 = true then
  some (x4v.set_, e0v)
  else
  if x6v.single = true then
  if x4v.b > x6v.b then
  M.a1 e0v x3 >>= fun y31 =>
  some (x4v.set_, y31.2)
  else
  M.ai x4v.b x6v.b >>= fun y33 =>
  some (y33, e0v)
  else
  M.a1 e0v (wr .i64 (x5 + 1)) >>= fun y36 =>
  some (x4v.set_, y36.2)
def M.a4l (x0v : T134) : Option ((List Int) × T134) :=
  M.a3p x0v >>= fun y4 =>
  M.a2 y4.2 >>= fun y8 =>
  if y8.1 = 45 then
  if y4.1.single = true then
  M.a3p (⟨y8.2.s, wr .i64 (y8.2.at_ + 1), y8.2.deep, y8.2.bad⟩ : T134) >>= fun y12 =>
  some (y12.2.bad) >>= fun v25 =>
  (match v25 with
  | none =>
  M.a3q ([0, 0, 0, 0], x0v.at_, (⟨y4.1.set_, y4.1.b, true⟩ : T370), wr .i64 (y8.2.at_ + 1), y12.1, false, (⟨y12.2.s, y12.2.at_, y12.2.deep, none⟩ : T134))
  | some y17 =>
  M.a3q ([0, 0, 0, 0], x0v.at_, (⟨y4.1.set_, y4.1.b, true⟩ : T370), wr .i64 (y8.2.at_ + 1), y12.1, true, (⟨y12.2.s, y12.2.at_, y12.2.deep, (some y17)⟩ : T134)))
  else
  M.a1 y8.2 y8.2.at_ >>= fun y26 =>
  some (y4.1.set_, y26.2)
  else
  some (y4.1.set_, y8.2)
def M.a4m (kq2v : T26) (kq3 : Bool) (kq4 : List Int) (kq9b0v_0v : T134) (a0 : List Int) : Option (List Int) :=
  M.a1h [kq4, a0] >>= fun y16 =>
  some y16
mutual
def M.a23 : Bool × (List Int) × T134 × T26 × Bool → Option ((List Int) × T134) := fun ⟨x3, e2, e4v, x0q2v, x0q3⟩ =>
  some (e4v.bad) >>= fun v17 =>
  (match v17 with
  | none =>
  if x3 = true then
  M.a24 (true, e2, (⟨e4v.s, e4v.at_, e4v.deep, none⟩ : T134), x0q2v, x0q3)
  else
  M.a0 (⟨e4v.s, e4v.at_, e4v.deep, none⟩ : T134) 93 >>= fun y15 =>
  M.a24 (!y15.1, e2, y15.2, x0q2v, x0q3)
  | some y9 =>
  M.a24 (false, e2, (⟨e4v.s, e4v.at_, e4v.deep, (some y9)⟩ : T134), x0q2v, x0q3))
  partial_fixpoint
def M.a24 : Bool × (List Int) × T134 × T26 × Bool → Option ((List Int) × T134) := fun ⟨x16, e2, e4v, x0q2v, x0q3⟩ =>
  if x16 = true then
  M.a4l e4v >>= fun y19 =>
  M.a4m x0q2v x0q3 e2 y19.2 y19.1 >>= fun y21 =>
  M.a23 (false, y21, y19.2, x0q2v, x0q3)
  else
  some (e2, e4v)
  partial_fixpoint
end
def M.a4n (x0q2v : T26) (x0q3 : Bool) (x0q4v_0 : List Int) (x0q9b0v_0v : T134) : Option ((List Int) × T134) :=
  M.a23 (true, x0q4v_0, x0q9b0v_0v, x0q2v, x0q3)
def M.a4o (x0v : T134) : Option (T26 × T134) :=
  M.a0 x0v 94 >>= fun y4 =>
  M.a5i y4.2 >>= fun y8 =>
  M.a4n (⟨0, [0, 0, 0, 0], ([] : List T26), 0, 0⟩ : T26) y4.1 [0, 0, 0, 0] y4.2 >>= fun y17 =>
  if y4.1 = true then
  M.a1g y17.1 >>= fun y20 =>
  some ((⟨1, y20, ([] : List T26), 0, 0⟩ : T26), y17.2)
  else
  some ((⟨1, y17.1, ([] : List T26), 0, 0⟩ : T26), y17.2)
def M.a2v (x0v : T134) (x1 : Int) : Option T134 :=
  M.a0 x0v x1 >>= fun y2 =>
  if y2.1 = true then
  some y2.2
  else
  M.a1 y2.2 y2.2.at_ >>= fun y5 =>
  some y5.2
def M.a5m (x0v_0v : T134) : Option (Bool × T134) :=
  M.a2 x0v_0v >>= fun y3 =>
  if y3.1 ≥ 48 then
  M.a2 y3.2 >>= fun y6 =>
  some (decide (y6.1 ≤ 57), y6.2)
  else
  some (false, y3.2)
def M.a5n : Int × Bool × T134 → Option (Int × T134) := fun ⟨x4, x25, e0v⟩ =>
  if x25 = true then
  M.a2 e0v >>= fun y14 =>
  some (wr .i64 ((wr .i64 (10 * x4)) + (wr .i64 (wr .u8 (y14.1 - 48)))), (⟨y14.2.s, wr .i64 (y14.2.at_ + 1), y14.2.deep, y14.2.bad⟩ : T134))
  else
  some (x4, e0v)
def M.a5o (x0v : T134) : Option (Int × T134) :=
  M.a5m x0v >>= fun y4 =>
  if y4.1 = true then
  M.a2 y4.2 >>= fun y7 =>
  if wr .i64 (wr .u8 (y7.1 - 48)) > 0 then
  M.a5m (⟨y7.2.s, wr .i64 (y7.2.at_ + 1), y7.2.deep, y7.2.bad⟩ : T134) >>= fun y10 =>
  M.a5n (wr .i64 (wr .u8 (y7.1 - 48)), y10.1, y10.2)
  else
  M.a5n (wr .i64 (wr .u8 (y7.1 - 48)), false, (⟨y7.2.s, wr .i64 (y7.2.at_ + 1), y7.2.deep, y7.2.bad⟩ : T134))
  else
  some ((-1), y4.2)
def M.a5p : Int × Int × Int × T134 → Option (Int × Int × T134) := fun ⟨x1, x6, x7, e0v⟩ =>
  M.a2v e0v 125 >>= fun y12 =>
  if x6 > 64 then
  M.a1 y12 x1 >>= fun y15 =>
  some (x6, x7, y15.2)
  else
  if x7 > 64 then
  M.a1 y12 x1 >>= fun y18 =>
  some (x6, x7, y18.2)
  else
  if x7 ≥ 0 then
  if x6 > x7 then
  M.a1 y12 x1 >>= fun y22 =>
  some (x6, x7, y22.2)
  else
  some (x6, x7, y12)
  else
  some (x6, x7, y12)
def M.a5q : Int × Int × T134 → Option (Int × Int × T134) := fun ⟨x1, x6, e0v⟩ =>
  M.a0 e0v 44 >>= fun y7 =>
  if y7.1 = true then
  M.a5o y7.2 >>= fun y10 =>
  M.a5p (x1, x6, y10.1, y10.2)
  else
  M.a5p (x1, x6, x6, y7.2)
def M.a5j (x0v : T134) (x1 : Int) : Option (Int × Int × T134) :=
  M.a5o x0v >>= fun y2 =>
  if y2.1 < 0 then
  M.a1 y2.2 y2.2.at_ >>= fun y5 =>
  M.a5q (x1, y2.1, y5.2)
  else
  M.a5q (x1, y2.1, y2.2)
def M.a3r (x0 : Int) (x1 : List T26) : Option T26 :=
  if (x1.length : Int) = 1 then
  if 0 < (x1.length : Int) then
  some (⟨(gi x1 0).Kind, ((gi x1 0).Set), (gi x1 0).L, (gi x1 0).Min, (gi x1 0).Max⟩ : T26)
  else none
  else
  some (⟨x0, [0, 0, 0, 0], x1, 0, 0⟩ : T26)
mutual
def M.a25 : T134 → Option (T26 × T134) := fun x0v =>
  M.a2w x0v >>= fun y4 =>
  M.a30 ((⟨0, [0, 0, 0, 0], ([] : List T26), 0, 0⟩ : T26), [y4.1], y4.2)
  partial_fixpoint
def M.a2w : T134 → Option (T26 × T134) := fun x0v =>
  M.a2x ((⟨0, [0, 0, 0, 0], ([] : List T26), 0, 0⟩ : T26), ([] : List T26), x0v)
  partial_fixpoint
def M.a2x : T26 × (List T26) × T134 → Option (T26 × T134) := fun ⟨x2v, x3, e0v⟩ =>
  some (e0v.bad) >>= fun v24 =>
  (match v24 with
  | none =>
  if e0v.at_ < (e0v.s.size : Int) then
  M.a2 (⟨e0v.s, e0v.at_, e0v.deep, none⟩ : T134) >>= fun y16 =>
  if y16.1 = 124 then
  M.a1j (x2v, x3, false, y16.2)
  else
  M.a2 y16.2 >>= fun y22 =>
  M.a1j (x2v, x3, !(decide (y22.1 = 41)), y22.2)
  else
  M.a1j (x2v, x3, false, (⟨e0v.s, e0v.at_, e0v.deep, none⟩ : T134))
  | some y10 =>
  M.a1j (x2v, x3, false, (⟨e0v.s, e0v.at_, e0v.deep, (some y10)⟩ : T134)))
  partial_fixpoint
def M.a1j : T26 × (List T26) × Bool × T134 → Option (T26 × T134) := fun ⟨x2v, x3, x30, e0v⟩ =>
  if x30 = true then
  M.a3s e0v >>= fun y26 =>
  if ((x3 ++ [y26.1]).length : Int) ≤ 1099511627776 then
  M.a2x (x2v, (x3 ++ [y26.1]), y26.2)
  else none
  else
  M.a3r 2 x3 >>= fun y40 =>
  some (y40, e0v)
  partial_fixpoint
def M.a3s : T134 → Option (T26 × T134) := fun x0v =>
  M.a3t x0v >>= fun y4 =>
  M.a0 y4.2 42 >>= fun y8 =>
  if y8.1 = true then
  some ((⟨4, [0, 0, 0, 0], [y4.1], 0, (-1)⟩ : T26), y8.2)
  else
  M.a0 y8.2 43 >>= fun y15 =>
  if y15.1 = true then
  some ((⟨4, [0, 0, 0, 0], [y4.1], 1, (-1)⟩ : T26), y15.2)
  else
  M.a0 y15.2 63 >>= fun y22 =>
  if y22.1 = true then
  some ((⟨4, [0, 0, 0, 0], [y4.1], 0, 1⟩ : T26), y22.2)
  else
  M.a0 y22.2 123 >>= fun y29 =>
  if y29.1 = true then
  M.a5j y29.2 y4.2.at_ >>= fun y32 =>
  some ((⟨4, [0, 0, 0, 0], [y4.1], y32.1, y32.2.1⟩ : T26), y32.2.2)
  else
  some (y4.1, y29.2)
  partial_fixpoint
def M.a3t : T134 → Option (T26 × T134) := fun x0v =>
  M.a2 x0v >>= fun y4 =>
  if y4.1 < 32 then
  M.a26 ((⟨0, [0, 0, 0, 0], ([] : List T26), 0, 0⟩ : T26), y4.1, true, y4.2)
  else
  if y4.1 > 126 then
  M.a26 ((⟨0, [0, 0, 0, 0], ([] : List T26), 0, 0⟩ : T26), y4.1, true, y4.2)
  else
  M.a1i (⟨#[93, 41, 42, 43, 63, 123, 125, 94, 36, 124]⟩ : ByteArray) y4.1 >>= fun y12 =>
  M.a26 ((⟨0, [0, 0, 0, 0], ([] : List T26), 0, 0⟩ : T26), y4.1, decide (y12 ≥ 0), y4.2)
  partial_fixpoint
def M.a26 : T26 × Int × Bool × T134 → Option (T26 × T134) := fun ⟨x2v, x3, x6, e0v⟩ =>
  if x6 = true then
  M.a1 e0v e0v.at_ >>= fun y16 =>
  some (y16.1, y16.2)
  else
  if x3 = 40 then
  M.a2y (x2v, x3, decide (e0v.deep = 32), e0v)
  else
  M.a2y (x2v, x3, false, e0v)
  partial_fixpoint
def M.a2y : T26 × Int × Bool × T134 → Option (T26 × T134) := fun ⟨x2v, x3, x24, e0v⟩ =>
  if x24 = true then
  M.a1 e0v e0v.at_ >>= fun y22 =>
  some (y22.1, y22.2)
  else
  M.a0 e0v 46 >>= fun y24 =>
  if y24.1 = true then
  M.aj 10 >>= fun y27 =>
  M.a1g y27 >>= fun y29 =>
  some ((⟨1, y29, ([] : List T26), 0, 0⟩ : T26), y24.2)
  else
  M.a0 y24.2 91 >>= fun y32 =>
  if y32.1 = true then
  M.a4o y32.2 >>= fun y35 =>
  some (y35.1, y35.2)
  else
  M.a0 y32.2 40 >>= fun y37 =>
  if y37.1 = true then
  M.a3u y37.2 >>= fun y40 =>
  some (y40.1, y40.2)
  else
  M.a0 y37.2 92 >>= fun y42 =>
  if y42.1 = true then
  M.a3o y42.2 >>= fun y45 =>
  some ((⟨1, y45.1.set_, ([] : List T26), 0, 0⟩ : T26), y45.2)
  else
  M.aj x3 >>= fun y47 =>
  some ((⟨1, y47, ([] : List T26), 0, 0⟩ : T26), (⟨y42.2.s, wr .i64 (y42.2.at_ + 1), y42.2.deep, y42.2.bad⟩ : T134))
  partial_fixpoint
def M.a3u : T134 → Option (T26 × T134) := fun x0v =>
  M.a0 x0v 63 >>= fun y4 =>
  if y4.1 = true then
  M.a2v y4.2 58 >>= fun y7 =>
  M.a2z ((⟨0, [0, 0, 0, 0], ([] : List T26), 0, 0⟩ : T26), y7)
  else
  M.a2z ((⟨0, [0, 0, 0, 0], ([] : List T26), 0, 0⟩ : T26), y4.2)
  partial_fixpoint
def M.a2z : T26 × T134 → Option (T26 × T134) := fun ⟨x2v, e0v⟩ =>
  M.a25 (⟨e0v.s, e0v.at_, wr .i64 (e0v.deep + 1), e0v.bad⟩ : T134) >>= fun y13 =>
  M.a2v (⟨y13.2.s, y13.2.at_, wr .i64 (y13.2.deep - 1), y13.2.bad⟩ : T134) 41 >>= fun y17 =>
  some (y13.1, y17)
  partial_fixpoint
def M.a30 : T26 × (List T26) × T134 → Option (T26 × T134) := fun ⟨x2v, x3, e0v⟩ =>
  M.a0 e0v 124 >>= fun y13 =>
  if y13.1 = true then
  M.a2w y13.2 >>= fun y16 =>
  if ((x3 ++ [y16.1]).length : Int) ≤ 1099511627776 then
  M.a30 (x2v, (x3 ++ [y16.1]), y16.2)
  else none
  else
  M.a3r 3 x3 >>= fun y30 =>
  some (y30, y13.2)
  partial_fixpoint
end
def M.a5r : T26 × T134 × T26 × Bool → Option (T26 × Int × Int) := fun ⟨x2v, x5v, x6v, x40⟩ =>
  if x40 = true then
  some (x5v.bad) >>= fun v48 =>
  (match v48 with
  | none =>
  none
  | some y43 =>
  some ((⟨0, [0, 0, 0, 0], ([] : List T26), 0, 0⟩ : T26), y43.at_, 100))
  else
  some (x6v, 0, 0)
def M.a5s : T26 × T134 × T26 → Option (T26 × Int × Int) := fun ⟨x2v, x5v, x6v⟩ =>
  some (x5v.bad) >>= fun v40 =>
  (match v40 with
  | none =>
  M.a5r (x2v, (⟨x5v.s, x5v.at_, x5v.deep, none⟩ : T134), x6v, false)
  | some y31 =>
  M.a5r (x2v, (⟨x5v.s, x5v.at_, x5v.deep, (some y31)⟩ : T134), x6v, true))
def M.a3v : T26 × T134 × T26 × Bool → Option (T26 × Int × Int) := fun ⟨x2v, x5v, x6v, x29⟩ =>
  if x29 = true then
  M.a1 x5v x5v.at_ >>= fun y24 =>
  M.a5s (x2v, y24.2, x6v)
  else
  M.a5s (x2v, x5v, x6v)
def M.a4p (x0 : ByteArray) : Option (T26 × Int × Int) :=
  if (x0.size : Int) > 256 then
  some ((⟨0, [0, 0, 0, 0], ([] : List T26), 0, 0⟩ : T26), 0, 3)
  else
  M.a25 (⟨x0, 0, 0, none⟩ : T134) >>= fun y6 =>
  some (y6.2.bad) >>= fun v22 =>
  (match v22 with
  | none =>
  M.a3v ((⟨0, [0, 0, 0, 0], ([] : List T26), 0, 0⟩ : T26), (⟨y6.2.s, y6.2.at_, y6.2.deep, none⟩ : T134), y6.1, decide (y6.2.at_ < (x0.size : Int)))
  | some y11 =>
  M.a3v ((⟨0, [0, 0, 0, 0], ([] : List T26), 0, 0⟩ : T26), (⟨y6.2.s, y6.2.at_, y6.2.deep, (some y11)⟩ : T134), y6.1, false))
mutual
def M.a7 : T26 × Int × Int → Option (Bool × Int) := fun ⟨x0, x1, x2v_0⟩ =>
  if x1 = 0 then
  M.a1k (x1, x0, true, wr .i64 (x2v_0 + 1))
  else
  M.a1k (x1, x0, decide (wr .i64 (x2v_0 + 1) > 4096), wr .i64 (x2v_0 + 1))
  partial_fixpoint
def M.a1k : Int × T26 × Bool × Int → Option (Bool × Int) := fun ⟨x1, x3v, x21, e0v_0⟩ =>
  if x21 = true then
  some (false, e0v_0)
  else
  M.as (x1, x3v.L, (x3v.L.length : Int), 0, e0v_0)
  partial_fixpoint
def M.as : Int × (List T26) × Int × Int × Int → Option (Bool × Int) := fun ⟨x1, x23, x24, x25, e0v_0⟩ =>
  if x25 < x24 then
  if 0 ≤ x25 then
  if x25 < (x23.length : Int) then
  M.a7 ((⟨(gi x23 x25).Kind, ((gi x23 x25).Set), (gi x23 x25).L, (gi x23 x25).Min, (gi x23 x25).Max⟩ : T26), wr .i64 (x1 - 1), e0v_0) >>= fun y21 =>
  if y21.1 = true then
  M.as (x1, x23, x24, wr .i64 (x25 + 1), y21.2)
  else
  some (false, y21.2)
  else none
  else none
  else
  some (true, e0v_0)
  partial_fixpoint
end
def M.a3i : T26 × (List Int) × Bool × Bool → Option Bool := fun ⟨x1v, x3v_0, x5, x6⟩ =>
  if (x1v.L.length : Int) = 1 then
  if x1v.Set = x3v_0 then
  if x5 = true then
  some x6
  else
  some false
  else
  some false
  else
  some false
def M.a47 : T26 × (List Int) × Bool → Option Bool := fun ⟨x1v, x3v_0, x5⟩ =>
  if x1v.Max = (-1) then
  M.a3i (x1v, x3v_0, x5, true)
  else
  if x1v.Max ≥ x1v.Min then
  M.a3i (x1v, x3v_0, x5, decide (x1v.Max ≤ 64))
  else
  M.a3i (x1v, x3v_0, x5, false)
def M.a48 : T26 × (List Int) × Bool × Int × Bool → Option Bool := fun ⟨x1v, x3v_0, x4, x16, x26⟩ =>
  if x26 = true then
  if x1v.Set = x3v_0 then
  some x4
  else
  some false
  else
  if x16 = 4 then
  if x1v.Min ≥ 0 then
  M.a47 (x1v, x3v_0, decide (x1v.Min ≤ 64))
  else
  M.a47 (x1v, x3v_0, false)
  else
  some false
def M.a49 : T26 × (List Int) × Bool → Option Bool := fun ⟨x1v, x3v_0, x4⟩ =>
  if x1v.Kind = 1 then
  if (x1v.L.length : Int) = 0 then
  some x4
  else
  some false
  else
  if x1v.Kind = 2 then
  M.a48 (x1v, x3v_0, x4, x1v.Kind, true)
  else
  M.a48 (x1v, x3v_0, x4, x1v.Kind, decide (x1v.Kind = 3))
def M.a3w (x0 : T26) : Option Bool :=
  if x0.Min = 0 then
  M.a49 (x0, [0, 0, 0, 0], decide (x0.Max = 0))
  else
  M.a49 (x0, [0, 0, 0, 0], false)
mutual
def M.ak : T26 → Option Bool := fun x0 =>
  M.at (x0, x0.L, (x0.L.length : Int), 0)
  partial_fixpoint
def M.at : T26 × (List T26) × Int × Int → Option Bool := fun ⟨x1v, x6, x7, x8⟩ =>
  if x8 < x7 then
  if 0 ≤ x8 then
  if x8 < (x6.length : Int) then
  M.ak (⟨(gi x6 x8).Kind, ((gi x6 x8).Set), (gi x6 x8).L, (gi x6 x8).Min, (gi x6 x8).Max⟩ : T26) >>= fun y18 =>
  if y18 = true then
  M.at (x1v, x6, x7, wr .i64 (x8 + 1))
  else
  some false
  else none
  else none
  else
  M.a3w x1v >>= fun y21 =>
  some y21
  partial_fixpoint
end
def M.a31 (x0 : T26) : Option Int :=
  M.a7 (x0, 128, 0) >>= fun y5 =>
  if y5.1 = true then
  M.ak x0 >>= fun y8 =>
  if y8 = true then
  some y5.2
  else
  some 0
  else
  some 0
def M.a27 (x0 : T26) : Option Bool :=
  M.a31 x0 >>= fun y3 =>
  some (decide (y3 > 0))
def M.a8 (x0 : List Int) (x1 : Int) : Option Bool :=
  if 0 ≤ iquo .u8 x1 64 then
  if iquo .u8 x1 64 < 4 then
  if 0 ≤ irem .u8 x1 64 then
  some (decide (iand .u64 (ishr .u64 (gi x0 (iquo .u8 x1 64)) (irem .u8 x1 64)) 1 = 1))
  else none
  else none
  else none
def M.a4 : Option T218 :=
  some (⟨([] : List ByteArray), false⟩ : T218)
mutual
def M.a9 : (List Int) × T218 × (List ByteArray) × Int → Option T218 := fun ⟨x1, x2v, x3, x5⟩ =>
  if x5 < 256 then
  M.a8 x1 (wr .u8 x5) >>= fun y12 =>
  if y12 = true then
  if ((x3 ++ [b2s [wr .u8 x5]]).length : Int) ≤ 1099511627776 then
  M.a1l (x1, x2v, (x3 ++ [b2s [wr .u8 x5]]), x5)
  else none
  else
  M.a1l (x1, x2v, x3, x5)
  else
  if (x3.length : Int) > 8 then
  M.a4 >>= fun y35 =>
  some y35
  else
  some (⟨x3, true⟩ : T218)
  partial_fixpoint
def M.a1l : (List Int) × T218 × (List ByteArray) × Int → Option T218 := fun ⟨x1, x2v, x3, x5⟩ =>
  M.a9 (x1, x2v, x3, wr .i64 (x5 + 1))
  partial_fixpoint
end
def M.a3x (x0 : List Int) : Option T218 :=
  M.a9 (x0, (⟨([] : List ByteArray), false⟩ : T218), ([] : List ByteArray), 0)
def M.au (x0 : List ByteArray) : Option T218 :=
  if (x0.length : Int) ≤ 1099511627776 then
  if ((cmpL (srtS x0)).length : Int) > 32 then
  M.a4 >>= fun y10 =>
  some y10
  else
  some (⟨(cmpL (srtS x0)), true⟩ : T218)
  else none
mutual
def M.aa : T218 × T218 × (List ByteArray) × (List ByteArray) × Int × Int → Option T218 := fun ⟨x3v, x4v, x5, x20, x21, x22⟩ =>
  if x22 < x21 then
  if 0 ≤ x22 then
  if x22 < (x20.length : Int) then
  M.av (x3v, x4v, x5, gi x20 x22, x20, x21, x22, x3v.l, (x3v.l.length : Int), 0)
  else none
  else none
  else
  M.au x5 >>= fun y32 =>
  some y32
  partial_fixpoint
def M.av : T218 × T218 × (List ByteArray) × ByteArray × (List ByteArray) × Int × Int × (List ByteArray) × Int × Int → Option T218 := fun ⟨x3v, x4v, x5, x7, x20, x21, x22, x27, x28, x29⟩ =>
  if x29 < x28 then
  if 0 ≤ x29 then
  if x29 < (x27.length : Int) then
  if wr .i64 ((x7.size : Int) + ((gi x27 x29).size : Int)) > 32 then
  M.a4 >>= fun y41 =>
  some y41
  else
  if (x7.size : Int) + ((gi x27 x29).size : Int) ≤ 1099511627776 then
  if ((x5 ++ [x7 ++ (gi x27 x29)]).length : Int) ≤ 1099511627776 then
  M.av (x3v, x4v, (x5 ++ [x7 ++ (gi x27 x29)]), x7, x20, x21, x22, x27, x28, wr .i64 (x29 + 1))
  else none
  else none
  else none
  else none
  else
  M.aa (x3v, x4v, x5, x20, x21, wr .i64 (x22 + 1))
  partial_fixpoint
end
def M.a28 : T218 × T218 × T218 × Bool → Option T218 := fun ⟨x2v, x3v, x4v, x17⟩ =>
  if x17 = true then
  M.a4 >>= fun y15 =>
  some y15
  else
  M.aa (x3v, x4v, ([] : List ByteArray), x2v.l, (x2v.l.length : Int), 0)
def M.a29 (x0 : T218) (x1 : T218) : Option T218 :=
  if x0.known = true then
  M.a28 ((⟨x0.l, true⟩ : T218), x1, (⟨([] : List ByteArray), false⟩ : T218), !x1.known)
  else
  M.a28 ((⟨x0.l, false⟩ : T218), x1, (⟨([] : List ByteArray), false⟩ : T218), true)
def M.a32 : Option T218 :=
  if (0 : Int) ≤ 1099511627776 then
  if ((cmpL (srtS ([] : List ByteArray))).length : Int) > 32 then
  M.a4 >>= fun y10 =>
  some y10
  else
  some (⟨(cmpL (srtS ([] : List ByteArray))), true⟩ : T218)
  else none
def M.a5t : Int → Option (List ByteArray) := fun x1 =>
  if wr .i64 (x1 - 0) > 0 then
  if 0 ≤ wr .i64 (x1 - 0) then
  if (0 : Int) + (wr .i64 (x1 - 0)) ≤ 1099511627776 then
  some (([] : List ByteArray) ++ List.replicate (wr .i64 (x1 - 0) : Int).toNat ((⟨#[]⟩ : ByteArray) : ByteArray)) >>= fun v9 =>
  some (sl v9 0 0)
  else none
  else none
  else
  some ([] : List ByteArray)
def M.a3y (x1 : Int) : Option (List ByteArray) :=
  if x1 < 0 then
  none
  else
  M.a5t x1
def M.aw : (List ByteArray) × (List (List ByteArray)) × Int × Int → Option (List ByteArray) := fun ⟨x6, x25, x26, x27⟩ =>
  if x27 < x26 then
  if 0 ≤ x27 then
  if x27 < (x25.length : Int) then
  if ((x6 ++ gi x25 x27).length : Int) ≤ 1099511627776 then
  M.aw ((x6 ++ gi x25 x27), x25, x26, wr .i64 (x27 + 1))
  else none
  else none
  else none
  else
  some x6
  partial_fixpoint
mutual
def M.al : (List (List ByteArray)) × Int × (List (List ByteArray)) × Int × Int → Option (List ByteArray) := fun ⟨x0, x3, x9, x10, x11⟩ =>
  if x11 < x10 then
  if 0 ≤ x11 then
  if x11 < (x9.length : Int) then
  if wr .i64 (x3 + ((gi x9 x11).length : Int)) < 0 then
  none
  else
  M.a2a (x0, wr .i64 (x3 + ((gi x9 x11).length : Int)), x9, x10, x11)
  else none
  else none
  else
  M.a3y x3 >>= fun y11 =>
  M.aw (y11, x0, (x0.length : Int), 0)
  partial_fixpoint
def M.a2a : (List (List ByteArray)) × Int × (List (List ByteArray)) × Int × Int → Option (List ByteArray) := fun ⟨x0, x3, x9, x10, x11⟩ =>
  M.al (x0, x3, x9, x10, wr .i64 (x11 + 1))
  partial_fixpoint
end
def M.a2b (x0 : List (List ByteArray)) : Option (List ByteArray) :=
  M.al (x0, 0, x0, (x0.length : Int), 0)
def M.a5u (x0 : Int) (x1 : Int) : Option (Int × Int) :=
  some (wr .u64 ((wr .u64 ((wr .u64 ((ishr .u64 x0 32) * (ishr .u64 x1 32))) + (ishr .u64 (wr .u64 ((wr .u64 ((ishr .u64 x0 32) * (iand .u64 x1 4294967295))) + (ishr .u64 (wr .u64 ((iand .u64 x0 4294967295) * (iand .u64 x1 4294967295))) 32))) 32))) + (ishr .u64 (wr .u64 ((iand .u64 (wr .u64 ((wr .u64 ((ishr .u64 x0 32) * (iand .u64 x1 4294967295))) + (ishr .u64 (wr .u64 ((iand .u64 x0 4294967295) * (iand .u64 x1 4294967295))) 32))) 4294967295) + (wr .u64 ((iand .u64 x0 4294967295) * (ishr .u64 x1 32))))) 32)), wr .u64 (x0 * x1))
def M.a4q (x0 : Int) (x1 : Int) : Option (Int × Int) :=
  M.a5u x0 x1 >>= fun y1 =>
  some (y1.1, y1.2)
def M.am : (List T26) × Int → Option (List T26) := fun ⟨x7, x8⟩ =>
  if x8 < (x7.length : Int) then
  if 0 ≤ x8 then
  if x8 ≤ (x7.length : Int) then
  some (cpy x7 ((x8 : Int).toNat) (((x7.length : Int) : Int).toNat - (x8 : Int).toNat) (sl x7 0 x8)) >>= fun v27 =>
  M.am (v27, wr .i64 (x8 + ((min ((x8 : Int).toNat - (0 : Int).toNat) (((x7.length : Int) : Int).toNat - (x8 : Int).toNat) : Nat) : Int)))
  else none
  else none
  else
  some x7
  partial_fixpoint
def M.a3z : (List T26) × Int → Option (List T26) := fun ⟨x0, x6⟩ =>
  if 0 ≤ wr .i64 x6 then
  if wr .i64 x6 ≤ 1099511627776 then
  some (List.replicate (wr .i64 x6 : Int).toNat (⟨0, [0, 0, 0, 0], ([] : List T26), 0, 0⟩ : T26)) >>= fun v8 =>
  M.am ((cpy v8 0 v8.length x0), ((min x0.length v8.length : Nat) : Int))
  else none
  else none
def M.a33 : (List T26) × Int × Bool → Option (List T26) := fun ⟨x0, x6, x26⟩ =>
  if x26 = true then
  none
  else
  M.a3z (x0, x6)
def M.a40 : (List T26) × Int → Option (List T26) := fun ⟨x0, x1⟩ =>
  M.a4q (wr .u64 (x0.length : Int)) (wr .u64 x1) >>= fun y2 =>
  if y2.1 > 0 then
  M.a33 (x0, y2.2, true)
  else
  M.a33 (x0, y2.2, decide (y2.2 > 9223372036854775807))
def M.a34 (x0 : List T26) (x1 : Int) : Option (List T26) :=
  if x1 < 0 then
  none
  else
  M.a40 (x0, x1)
mutual
def M.a3 : T26 → Option T218 := fun x0 =>
  if x0.Kind = 1 then
  M.a3x x0.Set >>= fun y6 =>
  some y6
  else
  if x0.Kind = 2 then
  M.a1m x0.L >>= fun y9 =>
  some y9
  else
  if x0.Kind = 3 then
  M.a32 >>= fun y12 =>
  M.ay ((⟨([] : List ByteArray), false⟩ : T218), y12, x0.L, (x0.L.length : Int), 0)
  else
  if x0.Min = x0.Max then
  M.a34 x0.L x0.Min >>= fun y21 =>
  M.a1m y21 >>= fun y25 =>
  some y25
  else
  M.a4 >>= fun y27 =>
  some y27
  partial_fixpoint
def M.a1m : (List T26) → Option T218 := fun x0 =>
  M.au [(⟨#[]⟩ : ByteArray)] >>= fun y6 =>
  M.ax ((⟨([] : List ByteArray), false⟩ : T218), y6, x0, (x0.length : Int), 0)
  partial_fixpoint
def M.ax : T218 × T218 × (List T26) × Int × Int → Option T218 := fun ⟨x2v, x3v, x8, x9, x10⟩ =>
  if x10 < x9 then
  if 0 ≤ x10 then
  if x10 < (x8.length : Int) then
  M.a3 (⟨(gi x8 x10).Kind, ((gi x8 x10).Set), (gi x8 x10).L, (gi x8 x10).Min, (gi x8 x10).Max⟩ : T26) >>= fun y28 =>
  M.a29 x3v y28 >>= fun y30 =>
  if y30.known = true then
  M.ax (x2v, (⟨y30.l, true⟩ : T218), x8, x9, wr .i64 (x10 + 1))
  else
  some (⟨y30.l, false⟩ : T218)
  else none
  else none
  else
  some x3v
  partial_fixpoint
def M.ay : T218 × T218 × (List T26) × Int × Int → Option T218 := fun ⟨x2v, x3v, x23, x24, x25⟩ =>
  if x25 < x24 then
  if 0 ≤ x25 then
  if x25 < (x23.length : Int) then
  M.a3 (⟨(gi x23 x25).Kind, ((gi x23 x25).Set), (gi x23 x25).L, (gi x23 x25).Min, (gi x23 x25).Max⟩ : T26) >>= fun y43 =>
  if y43.known = true then
  M.az (x2v, x3v, (⟨y43.l, true⟩ : T218), x23, x24, x25, !x3v.known)
  else
  M.az (x2v, x3v, (⟨y43.l, false⟩ : T218), x23, x24, x25, true)
  else none
  else none
  else
  some x3v
  partial_fixpoint
def M.az : T218 × T218 × T218 × (List T26) × Int × Int × Bool → Option T218 := fun ⟨x2v, x3v, x6v, x23, x24, x25, x38⟩ =>
  if x38 = true then
  M.a4 >>= fun y53 =>
  some y53
  else
  M.a2b [x3v.l, x6v.l] >>= fun y59 =>
  M.au y59 >>= fun y62 =>
  M.ay (x2v, y62, x23, x24, wr .i64 (x25 + 1))
  partial_fixpoint
end
def M.a4s (x0 : ByteArray) : Option ByteArray :=
  some x0
def M.a4r (kq2v_0 : List ByteArray) (kq6b0v_0 : ByteArray) (a0 : ByteArray) : Option (List ByteArray) :=
  if ((kq2v_0 ++ [a0]).length : Int) ≤ 1099511627776 then
  some (kq2v_0 ++ [a0])
  else none
def M.a10 : Int × Int × (List ByteArray) × ByteArray → Option (List ByteArray) := fun ⟨x7, x8, e1v_0, x0q6b0v_0⟩ =>
  if x8 < x7 then
  if 0 ≤ x8 then
  if x8 ≤ wr .i64 (x8 + 3) then
  if wr .i64 (x8 + 3) ≤ (x0q6b0v_0.size : Int) then
  M.a4r e1v_0 x0q6b0v_0 (ss x0q6b0v_0 x8 (wr .i64 (x8 + 3))) >>= fun y10 =>
  M.a10 (x7, wr .i64 (x8 + 1), y10, x0q6b0v_0)
  else none
  else none
  else none
  else
  some e1v_0
  partial_fixpoint
def M.a35 (x0q2v_0 : List ByteArray) (x0q6b0v_0 : ByteArray) : Option (List ByteArray) :=
  M.a10 (wr .i64 ((wr .i64 ((x0q6b0v_0.size : Int) - 3)) + 1), 0, x0q2v_0, x0q6b0v_0)
def M.a41 (x1b0v_0 : ByteArray) : Option (List ByteArray) :=
  M.a35 ([] : List ByteArray) x1b0v_0 >>= fun y10 =>
  some y10
def M.a42 (x0b0v_0 : ByteArray) : Option (List ByteArray) :=
  M.a41 x0b0v_0 >>= fun y2 =>
  some y2
def M.a43 (x0b0v_0 : ByteArray) : Option (List ByteArray) :=
  M.a42 x0b0v_0 >>= fun y2 =>
  if (y2.length : Int) ≤ 1099511627776 then
  some (srtS y2)
  else none
def M.a2c (x0 : ByteArray) : Option (List ByteArray) :=
  M.a4s x0 >>= fun y1 =>
  M.a43 y1 >>= fun y4 =>
  if (y4.length : Int) ≤ 1099511627776 then
  some (cmpL y4)
  else none
def M.a46 (x0 : Int) : Option (Int × Int) :=
  if x0 = 4 then
  some (1, 0)
  else
  some (0, 1)
mutual
def M.a11 : T29 × T29 → Option Bool := fun ⟨x0, x1⟩ =>
  if x0.Op = x1.Op then
  if (x0.Text.toList == x1.Text.toList) = true then
  M.a36 (x0.L, x1.L) >>= fun y7 =>
  some y7
  else
  some false
  else
  some false
  partial_fixpoint
def M.a36 : (List T29) × (List T29) → Option Bool := fun ⟨x0, x1⟩ =>
  if (x0.length : Int) = (x1.length : Int) then
  M.a12 (x1, x0, (x0.length : Int), 0)
  else
  some false
  partial_fixpoint
def M.a12 : (List T29) × (List T29) × Int × Int → Option Bool := fun ⟨x1, x15, x16, x17⟩ =>
  if x17 < x16 then
  if 0 ≤ x17 then
  if x17 < (x15.length : Int) then
  if x17 < (x1.length : Int) then
  M.a11 (gi x15 x17, gi x1 x17) >>= fun y24 =>
  if y24 = true then
  M.a12 (x1, x15, x16, wr .i64 (x17 + 1))
  else
  some false
  else none
  else none
  else none
  else
  some true
  partial_fixpoint
end
def M.a44 (x0 : T29) (x2v : T29) : Option Bool :=
  M.a11 (x2v, x0) >>= fun y5 =>
  some y5
def M.a13 : (List T29) × Int × Int × T29 → Option Int := fun ⟨x0, x7, x8, x1b1v⟩ =>
  if x8 < x7 then
  if 0 ≤ x8 then
  if x8 < (x0.length : Int) then
  M.a44 (gi x0 x8) x1b1v >>= fun y13 =>
  if y13 = true then
  some x8
  else
  M.a13 (x0, x7, wr .i64 (x8 + 1), x1b1v)
  else none
  else none
  else
  some (-1)
  partial_fixpoint
def M.a45 (x0 : List T29) (x1b1v : T29) : Option Int :=
  M.a13 (x0, (x0.length : Int), 0, x1b1v)
def M.a37 (x0 : List T29) (x1b1v : T29) : Option Bool :=
  M.a45 x0 x1b1v >>= fun y3 =>
  some (decide (y3 ≥ 0))
mutual
def M.ab : (List T29) × (List T29) × Int × Int → Option (List T29) := fun ⟨x5, x8, x9, x10⟩ =>
  if x10 < x9 then
  if 0 ≤ x10 then
  if x10 < (x8.length : Int) then
  M.a37 x5 (gi x8 x10) >>= fun y19 =>
  if y19 = true then
  M.a1n (x5, x8, x9, x10)
  else
  if ((x5 ++ [gi x8 x10]).length : Int) ≤ 1099511627776 then
  M.a1n ((x5 ++ [gi x8 x10]), x8, x9, x10)
  else none
  else none
  else none
  else
  some x5
  partial_fixpoint
def M.a1n : (List T29) × (List T29) × Int × Int → Option (List T29) := fun ⟨x5, x8, x9, x10⟩ =>
  M.ab (x5, x8, x9, wr .i64 (x10 + 1))
  partial_fixpoint
end
def M.a38 (x0 : List T29) : Option (List T29) :=
  M.ab (([] : List T29), x0, (x0.length : Int), 0)
mutual
def M.ac : Int × T29 × Int × Int × (List T29) × (List T29) × Int × Int → Option T29 := fun ⟨x0, x4v, x5, x6, x7, x15, x16, x17⟩ =>
  if x17 < x16 then
  if 0 ≤ x17 then
  if x17 < (x15.length : Int) then
  if (gi x15 x17).Op = x0 then
  if ((x7 ++ (gi x15 x17).L).length : Int) ≤ 1099511627776 then
  M.a14 (x0, x4v, x5, x6, (x7 ++ (gi x15 x17).L), x15, x16, x17)
  else none
  else
  if (gi x15 x17).Op = x6 then
  some (⟨x6, (⟨#[]⟩ : ByteArray), ([] : List T29)⟩ : T29)
  else
  if (gi x15 x17).Op = x5 then
  M.a14 (x0, x4v, x5, x6, x7, x15, x16, x17)
  else
  if ((x7 ++ [gi x15 x17]).length : Int) ≤ 1099511627776 then
  M.a14 (x0, x4v, x5, x6, (x7 ++ [gi x15 x17]), x15, x16, x17)
  else none
  else none
  else none
  else
  M.a38 x7 >>= fun y48 =>
  if (y48.length : Int) = 0 then
  some (⟨x5, (⟨#[]⟩ : ByteArray), ([] : List T29)⟩ : T29)
  else
  if (y48.length : Int) = 1 then
  if 0 < (y48.length : Int) then
  some (gi y48 0)
  else none
  else
  some (⟨x0, (⟨#[]⟩ : ByteArray), y48⟩ : T29)
  partial_fixpoint
def M.a14 : Int × T29 × Int × Int × (List T29) × (List T29) × Int × Int → Option T29 := fun ⟨x0, x4v, x5, x6, x7, x15, x16, x17⟩ =>
  M.ac (x0, x4v, x5, x6, x7, x15, x16, wr .i64 (x17 + 1))
  partial_fixpoint
end
def M.ad (x0 : Int) (x1 : List T29) : Option T29 :=
  M.a46 x0 >>= fun y3 =>
  M.ac (x0, (⟨0, (⟨#[]⟩ : ByteArray), ([] : List T29)⟩ : T29), y3.1, y3.2, ([] : List T29), x1, (x1.length : Int), 0)
mutual
def M.a6 : T29 × (List T29) × (List ByteArray) × Int × Int → Option T29 := fun ⟨x2v, x3, x10, x11, x12⟩ =>
  if x12 < x11 then
  if 0 ≤ x12 then
  if x12 < (x10.length : Int) then
  M.a2c (gi x10 x12) >>= fun y16 =>
  M.a39 (x2v, x3, x10, x11, x12, y16, (y16.length : Int), 0)
  else none
  else none
  else
  M.ad 4 x3 >>= fun y24 =>
  some y24
  partial_fixpoint
def M.a39 : T29 × (List T29) × (List ByteArray) × Int × Int × (List ByteArray) × Int × Int → Option T29 := fun ⟨x2v, x3, x10, x11, x12, x17, x18, x19⟩ =>
  if x19 < x18 then
  if 0 ≤ x19 then
  if x19 < (x17.length : Int) then
  if ([(⟨2, gi x17 x19, ([] : List T29)⟩ : T29)].length : Int) ≤ 1099511627776 then
  M.a15 (x2v, x3, [(⟨2, gi x17 x19, ([] : List T29)⟩ : T29)], x10, x11, x12, x17, x18, wr .i64 (x19 + 1))
  else none
  else none
  else none
  else
  M.ad 3 ([] : List T29) >>= fun y50 =>
  if ((x3 ++ [y50]).length : Int) ≤ 1099511627776 then
  M.a6 (x2v, (x3 ++ [y50]), x10, x11, wr .i64 (x12 + 1))
  else none
  partial_fixpoint
def M.a15 : T29 × (List T29) × (List T29) × (List ByteArray) × Int × Int × (List ByteArray) × Int × Int → Option T29 := fun ⟨x2v, x3, x6, x10, x11, x12, x17, x18, x19⟩ =>
  if x19 < x18 then
  if 0 ≤ x19 then
  if x19 < (x17.length : Int) then
  some (x6 ++ [(⟨2, gi x17 x19, ([] : List T29)⟩ : T29)]) >>= fun v76 =>
  if (v76.length : Int) ≤ 1099511627776 then
  M.a15 (x2v, x3, v76, x10, x11, x12, x17, x18, wr .i64 (x19 + 1))
  else none
  else none
  else none
  else
  M.ad 3 x6 >>= fun y84 =>
  if ((x3 ++ [y84]).length : Int) ≤ 1099511627776 then
  M.a6 (x2v, (x3 ++ [y84]), x10, x11, wr .i64 (x12 + 1))
  else none
  partial_fixpoint
end
def M.a16 (x0 : T218) : Option T29 :=
  M.a6 ((⟨0, (⟨#[]⟩ : ByteArray), ([] : List T29)⟩ : T29), ([] : List T29), x0.l, (x0.l.length : Int), 0)
mutual
def M.ae : (List T26) × T218 × T218 × Int → Option (T218 × Int) := fun ⟨x0, x2v, x4v, x5⟩ =>
  if x4v.known = true then
  M.a17 (x0, x2v, (⟨x4v.l, true⟩ : T218), x5, decide (x5 < (x0.length : Int)))
  else
  M.a17 (x0, x2v, (⟨x4v.l, false⟩ : T218), x5, false)
  partial_fixpoint
def M.a17 : (List T26) × T218 × T218 × Int × Bool → Option (T218 × Int) := fun ⟨x0, x2v, x4v, x5, x18⟩ =>
  if x18 = true then
  if 0 ≤ x5 then
  if x5 < (x0.length : Int) then
  M.a3 (⟨(gi x0 x5).Kind, ((gi x0 x5).Set), (gi x0 x5).L, (gi x0 x5).Min, (gi x0 x5).Max⟩ : T26) >>= fun y37 =>
  M.a29 x4v y37 >>= fun y39 =>
  M.a3a (x0, x2v, x4v, x5, y39)
  else none
  else none
  else
  some (x4v, x5)
  partial_fixpoint
def M.a3a : (List T26) × T218 × T218 × Int × T218 → Option (T218 × Int) := fun ⟨x0, x2v, x4v, x5, x6v⟩ =>
  if x6v.known = true then
  M.ae (x0, x2v, (⟨x6v.l, true⟩ : T218), wr .i64 (x5 + 1))
  else
  some (x4v, x5)
  partial_fixpoint
end
def M.a1o (x0 : List T26) : Option (T218 × Int) :=
  if 0 < (x0.length : Int) then
  M.a3 (⟨(gi x0 0).Kind, ((gi x0 0).Set), (gi x0 0).L, (gi x0 0).Min, (gi x0 0).Max⟩ : T26) >>= fun y13 =>
  M.ae (x0, (⟨([] : List ByteArray), false⟩ : T218), y13, 1)
  else none
mutual
def M.a5 : T26 → Option T29 := fun x0 =>
  M.a3 x0 >>= fun y5 =>
  if y5.known = true then
  M.a16 (⟨y5.l, true⟩ : T218) >>= fun y10 =>
  some y10
  else
  if x0.Kind = 2 then
  M.a3b x0.L >>= fun y13 =>
  some y13
  else
  if x0.Kind = 3 then
  M.a18 ((⟨0, (⟨#[]⟩ : ByteArray), ([] : List T29)⟩ : T29), ([] : List T29), x0.L, (x0.L.length : Int), 0)
  else
  if x0.Kind = 4 then
  if x0.Min > 0 then
  if 0 < (x0.L.length : Int) then
  M.a5 (⟨(gi x0.L 0).Kind, ((gi x0.L 0).Set), (gi x0.L 0).L, (gi x0.L 0).Min, (gi x0.L 0).Max⟩ : T26) >>= fun y33 =>
  some y33
  else none
  else
  some (⟨0, (⟨#[]⟩ : ByteArray), ([] : List T29)⟩ : T29)
  else
  some (⟨0, (⟨#[]⟩ : ByteArray), ([] : List T29)⟩ : T29)
  partial_fixpoint
def M.a3b : (List T26) → Option T29 := fun x0 =>
  M.an (x0, (⟨0, (⟨#[]⟩ : ByteArray), ([] : List T29)⟩ : T29), ([] : List T29))
  partial_fixpoint
def M.an : (List T26) × T29 × (List T29) → Option T29 := fun ⟨x0, x2v, x3⟩ =>
  if (x0.length : Int) > 0 then
  M.a1o x0 >>= fun y9 =>
  if y9.1.known = true then
  M.a16 (⟨y9.1.l, true⟩ : T218) >>= fun y14 =>
  if ((x3 ++ [y14]).length : Int) ≤ 1099511627776 then
  M.a1p (x0, x2v, (x3 ++ [y14]), y9.2)
  else none
  else
  if 0 < (x0.length : Int) then
  M.a5 (⟨(gi x0 0).Kind, ((gi x0 0).Set), (gi x0 0).L, (gi x0 0).Min, (gi x0 0).Max⟩ : T26) >>= fun y40 =>
  if ((x3 ++ [y40]).length : Int) ≤ 1099511627776 then
  M.a1p (x0, x2v, (x3 ++ [y40]), y9.2)
  else none
  else none
  else
  M.ad 3 x3 >>= fun y54 =>
  some y54
  partial_fixpoint
def M.a1p : (List T26) × T29 × (List T29) × Int → Option T29 := fun ⟨x0, x2v, x3, x5⟩ =>
  if 0 ≤ x5 then
  if x5 ≤ (x0.length : Int) then
  M.an ((sl x0 x5 (x0.length : Int)), x2v, x3)
  else none
  else none
  partial_fixpoint
def M.a18 : T29 × (List T29) × (List T26) × Int × Int → Option T29 := fun ⟨x2v, x4, x23, x24, x25⟩ =>
  if x25 < x24 then
  if 0 ≤ x25 then
  if x25 < (x23.length : Int) then
  M.a5 (⟨(gi x23 x25).Kind, ((gi x23 x25).Set), (gi x23 x25).L, (gi x23 x25).Min, (gi x23 x25).Max⟩ : T26) >>= fun y49 =>
  if ((x4 ++ [y49]).length : Int) ≤ 1099511627776 then
  M.a18 (x2v, (x4 ++ [y49]), x23, x24, wr .i64 (x25 + 1))
  else none
  else none
  else none
  else
  M.ad 4 x4 >>= fun y63 =>
  some y63
  partial_fixpoint
end
def M.a19 (x0 : T26) : Option (T29 × Int) :=
  M.a27 x0 >>= fun y5 =>
  if y5 = true then
  M.a5 x0 >>= fun y8 =>
  some (y8, 0)
  else
  some ((⟨0, (⟨#[]⟩ : ByteArray), ([] : List T29)⟩ : T29), 2)
mutual
def M.af : T29 × Int × Int → Option (Bool × Int) := fun ⟨x0, x1, x2v_0⟩ =>
  if x1 = 0 then
  M.a1q (x1, x0, true, wr .i64 (x2v_0 + 1))
  else
  M.a1q (x1, x0, decide (wr .i64 (x2v_0 + 1) > 4096), wr .i64 (x2v_0 + 1))
  partial_fixpoint
def M.a1q : Int × T29 × Bool × Int → Option (Bool × Int) := fun ⟨x1, x3v, x21, e0v_0⟩ =>
  if x21 = true then
  some (false, e0v_0)
  else
  M.a1a (x1, x3v.L, (x3v.L.length : Int), 0, e0v_0)
  partial_fixpoint
def M.a1a : Int × (List T29) × Int × Int × Int → Option (Bool × Int) := fun ⟨x1, x23, x24, x25, e0v_0⟩ =>
  if x25 < x24 then
  if 0 ≤ x25 then
  if x25 < (x23.length : Int) then
  M.af (gi x23 x25, wr .i64 (x1 - 1), e0v_0) >>= fun y19 =>
  if y19.1 = true then
  M.a1a (x1, x23, x24, wr .i64 (x25 + 1), y19.2)
  else
  some (false, y19.2)
  else none
  else none
  else
  some (true, e0v_0)
  partial_fixpoint
end
mutual
def M.a1b : T29 → Option Bool := fun x0 =>
  if x0.Op = 0 then
  M.ao (x0, x0.Op, true)
  else
  M.ao (x0, x0.Op, decide (x0.Op = 1))
  partial_fixpoint
def M.ao : T29 × Int × Bool → Option Bool := fun ⟨x1v, x4, x5⟩ =>
  if x5 = true then
  if (x1v.Text.toList == (⟨#[]⟩ : ByteArray).toList) = true then
  some (decide ((x1v.L.length : Int) = 0))
  else
  some false
  else
  if x4 = 2 then
  if (x1v.Text.size : Int) = 3 then
  some (decide ((x1v.L.length : Int) = 0))
  else
  some false
  else
  if x4 = 3 then
  M.ap (x1v, true)
  else
  M.ap (x1v, decide (x4 = 4))
  partial_fixpoint
def M.ap : T29 × Bool → Option Bool := fun ⟨x1v, x29⟩ =>
  if x29 = true then
  if (x1v.Text.toList == (⟨#[]⟩ : ByteArray).toList) = true then
  M.a3c x1v.L >>= fun y13 =>
  some (!y13)
  else
  some false
  else
  some false
  partial_fixpoint
def M.a3c : (List T29) → Option Bool := fun x0 =>
  M.a3d x0 >>= fun y1 =>
  some (decide (y1 ≥ 0))
  partial_fixpoint
def M.a3d : (List T29) → Option Int := fun x0 =>
  M.a1c (x0, (x0.length : Int), 0)
  partial_fixpoint
def M.a1c : (List T29) × Int × Int → Option Int := fun ⟨x0, x7, x8⟩ =>
  if x8 < x7 then
  if 0 ≤ x8 then
  if x8 < (x0.length : Int) then
  M.a3e (gi x0 x8) >>= fun y11 =>
  if y11 = true then
  some x8
  else
  M.a1c (x0, x7, wr .i64 (x8 + 1))
  else none
  else none
  else
  some (-1)
  partial_fixpoint
def M.a3e : T29 → Option Bool := fun x0 =>
  M.a1b x0 >>= fun y3 =>
  some (!y3)
  partial_fixpoint
end
def M.a1r (x0 : T29) : Option Int :=
  M.af (x0, 8, 0) >>= fun y5 =>
  if y5.1 = true then
  M.a1b x0 >>= fun y8 =>
  if y8 = true then
  some 0
  else
  some 2
  else
  some 2
mutual
def M.a2d : T29 → Option ByteArray := fun x0 =>
  M.a1r x0 >>= fun y3 =>
  if y3 = 0 then
  M.a3f (x0, ([] : List ByteArray), x0.L, (x0.L.length : Int), 0)
  else
  some (⟨#[]⟩ : ByteArray)
  partial_fixpoint
def M.a3f : T29 × (List ByteArray) × (List T29) × Int × Int → Option ByteArray := fun ⟨x1v, x3, x11, x12, x13⟩ =>
  if x13 < x12 then
  if 0 ≤ x13 then
  if x13 < (x11.length : Int) then
  M.a2d (gi x11 x13) >>= fun y21 =>
  if ((x3 ++ [y21]).length : Int) ≤ 1099511627776 then
  M.a3f (x1v, (x3 ++ [y21]), x11, x12, wr .i64 (x13 + 1))
  else none
  else none
  else none
  else
  if (x3.length : Int) ≤ 140737488355328 then
  if ((joinB x3 (⟨#[32]⟩ : ByteArray)).size : Int) ≤ 140737488355328 then
  if x1v.Op = 1 then
  some (⟨#[45]⟩ : ByteArray)
  else
  if x1v.Op = 2 then
  if ((⟨#[124]⟩ : ByteArray).size : Int) + (x1v.Text.size : Int) ≤ 1099511627776 then
  if (((⟨#[124]⟩ : ByteArray) ++ x1v.Text).size : Int) + ((⟨#[124]⟩ : ByteArray).size : Int) ≤ 1099511627776 then
  some (((⟨#[124]⟩ : ByteArray) ++ x1v.Text) ++ (⟨#[124]⟩ : ByteArray)) >>= fun v41 =>
  some v41
  else none
  else none
  else
  if x1v.Op = 3 then
  if ((⟨#[40]⟩ : ByteArray).size : Int) + ((joinB x3 (⟨#[32]⟩ : ByteArray)).size : Int) ≤ 1099511627776 then
  some ((⟨#[40]⟩ : ByteArray) ++ (joinB x3 (⟨#[32]⟩ : ByteArray))) >>= fun v45 =>
  if (v45.size : Int) + ((⟨#[41]⟩ : ByteArray).size : Int) ≤ 1099511627776 then
  some (v45 ++ (⟨#[41]⟩ : ByteArray))
  else none
  else none
  else
  if x1v.Op = 4 then
  if ((⟨#[91]⟩ : ByteArray).size : Int) + ((joinB x3 (⟨#[32]⟩ : ByteArray)).size : Int) ≤ 1099511627776 then
  some ((⟨#[91]⟩ : ByteArray) ++ (joinB x3 (⟨#[32]⟩ : ByteArray))) >>= fun v50 =>
  if (v50.size : Int) + ((⟨#[93]⟩ : ByteArray).size : Int) ≤ 1099511627776 then
  some (v50 ++ (⟨#[93]⟩ : ByteArray))
  else none
  else none
  else
  some (⟨#[42]⟩ : ByteArray)
  else none
  else none
  partial_fixpoint
end
def M.a3g (x0 : ByteArray) : Option ByteArray :=
  M.a4p x0 >>= fun y1 =>
  M.a19 y1.1 >>= fun y5 =>
  M.a2d y5.1 >>= fun y9 =>
  some y9
def M.a3h : Option Bool :=
  M.a3g (⟨#[97, 98, 99, 100, 124, 120, 121, 122]⟩ : ByteArray) >>= fun y1 =>
  if (y1.toList == (⟨#[91, 40, 124, 97, 98, 99, 124, 32, 124, 98, 99, 100, 124, 41, 32, 124, 120, 121, 122, 124, 93]⟩ : ByteArray).toList) = true then
  M.a3g (⟨#[97, 98, 42]⟩ : ByteArray) >>= fun y4 =>
  if (y4.toList == (⟨#[42]⟩ : ByteArray).toList) = true then
  M.a3g (⟨#[40, 97, 124, 98, 41, 99, 100, 46, 101, 102, 103]⟩ : ByteArray) >>= fun y7 =>
  some (y7.toList == (⟨#[40, 91, 124, 97, 99, 100, 124, 32, 124, 98, 99, 100, 124, 93, 32, 124, 101, 102, 103, 124, 41]⟩ : ByteArray).toList)
  else
  some false
  else
  some false
mutual
def M.a1s : T26 × Int × Int → Option (T26 × Int) := fun ⟨x0, x1, x2v_0⟩ =>
  M.a1t (x1, x0, (⟨0, [0, 0, 0, 0], ([] : List T26), 0, 0⟩ : T26), (⟨x0.Kind, x0.Set, ([] : List T26), x0.Min, x0.Max⟩ : T26), 0, wr .i64 (x2v_0 - 1))
  partial_fixpoint
def M.a1t : Int × T26 × T26 × T26 × Int × Int → Option (T26 × Int) := fun ⟨x1, x3v, x6v, x7v, x8, e0v_0⟩ =>
  if x8 < (x3v.L.length : Int) then
  if x1 > 0 then
  M.a1d (x1, x3v, x6v, x7v, x8, decide (e0v_0 > 0), e0v_0)
  else
  M.a1d (x1, x3v, x6v, x7v, x8, false, e0v_0)
  else
  M.a1d (x1, x3v, x6v, x7v, x8, false, e0v_0)
  partial_fixpoint
def M.a1d : Int × T26 × T26 × T26 × Int × Bool × Int → Option (T26 × Int) := fun ⟨x1, x3v, x6v, x7v, x8, x30, e0v_0⟩ =>
  if x30 = true then
  if 0 ≤ x8 then
  if x8 < (x3v.L.length : Int) then
  M.a1s ((⟨(gi x3v.L x8).Kind, ((gi x3v.L x8).Set), (gi x3v.L x8).L, (gi x3v.L x8).Min, (gi x3v.L x8).Max⟩ : T26), wr .i64 (x1 - 1), e0v_0) >>= fun y34 =>
  if ((x7v.L ++ [y34.1]).length : Int) ≤ 1099511627776 then
  M.a1t (x1, x3v, x6v, (⟨x7v.Kind, x7v.Set, (x7v.L ++ [y34.1]), x7v.Min, x7v.Max⟩ : T26), wr .i64 (x8 + 1), y34.2)
  else none
  else none
  else none
  else
  some (x7v, e0v_0)
  partial_fixpoint
end
def M.a4t (x0 : T26) : Option T26 :=
  M.a1s (x0, 10, 40) >>= fun y7 =>
  some y7.1
mutual
def M.ag : T26 → Option Int := fun x0 =>
  if x0.Kind = 3 then
  M.a2e (imx 0 (wr .i64 ((x0.L.length : Int) - 1)), x0.L, (x0.L.length : Int), 0)
  else
  if x0.Kind = 2 then
  M.a2e (0, x0.L, (x0.L.length : Int), 0)
  else
  if x0.Kind = 4 then
  if 0 < (x0.L.length : Int) then
  M.ag (⟨(gi x0.L 0).Kind, ((gi x0.L 0).Set), (gi x0.L 0).L, (gi x0.L 0).Min, (gi x0.L 0).Max⟩ : T26) >>= fun y16 =>
  if x0.Max < 0 then
  some (imn 1048576 (imx 1 (wr .i64 ((wr .i64 (x0.Min * y16)) + (wr .i64 (y16 + 1))))))
  else
  some (imn 1048576 (imx 1 (wr .i64 ((wr .i64 (x0.Min * y16)) + (wr .i64 ((wr .i64 (x0.Max - x0.Min)) * (wr .i64 (y16 + 1))))))))
  else none
  else
  some 1
  partial_fixpoint
def M.a2e : Int × (List T26) × Int × Int → Option Int := fun ⟨x3, x21, x22, x23⟩ =>
  if x23 < x22 then
  if 0 ≤ x23 then
  if x23 < (x21.length : Int) then
  M.ag (⟨(gi x21 x23).Kind, ((gi x21 x23).Set), (gi x21 x23).L, (gi x21 x23).Min, (gi x21 x23).Max⟩ : T26) >>= fun y33 =>
  M.a2e (imn 1048576 (wr .i64 (x3 + y33)), x21, x22, wr .i64 (x23 + 1))
  else none
  else none
  else
  some (imn 1048576 (imx 1 x3))
  partial_fixpoint
end
def M.a4u (x0 : T26) : Option (Int × Int) :=
  M.a27 x0 >>= fun y3 =>
  if y3 = true then
  M.ag x0 >>= fun y6 =>
  some (imn 1048576 (wr .i64 (y6 + 1)), 0)
  else
  some (0, 2)
def M.ah (x0v_0 : List T174) (x1 : T174) : Option (Int × (List T174)) :=
  if ((x0v_0 ++ [x1]).length : Int) ≤ 1099511627776 then
  some (wr .i64 (((x0v_0 ++ [x1]).length : Int) - 1), (x0v_0 ++ [x1]))
  else none
def M.a2f (x0v_0 : List T174) (x1 : T26) : Option T248 :=
  M.ag x1 >>= fun y9 =>
  some (⟨y9, ((Sum.inl x1) : T26 ⊕ T26 ⊕ (Int × T26))⟩ : T248)
def M.a4a (x0v_0 : List T174) (x1 : T26) : Option T248 :=
  M.ag x1 >>= fun y9 =>
  some (⟨wr .i64 (y9 + 1), ((Sum.inr (Sum.inl x1)) : T26 ⊕ T26 ⊕ (Int × T26))⟩ : T248)
def M.a4b (x0v_0 : List T174) (x1 : T26) (x2 : Int) : Option T248 :=
  M.ag x1 >>= fun y11 =>
  some (⟨wr .i64 (y11 + 1), ((Sum.inr (Sum.inr (x2, x1))) : T26 ⊕ T26 ⊕ (Int × T26))⟩ : T248)
def M.a1u : Int × (List T248) × T26 × Int × Int × (List T174) → Option (List T248) := fun ⟨x2, x7, x8v, x37, x38, x0v_0⟩ =>
  if x38 < x37 then
  M.a4b x0v_0 x8v x2 >>= fun y100 =>
  if ((x7 ++ [y100]).length : Int) ≤ 1099511627776 then
  M.a1u (x2, (x7 ++ [y100]), x8v, x37, wr .i64 (x38 + 1), x0v_0)
  else none
  else
  some x7
  partial_fixpoint
def M.a1v : Int × T26 × (List T248) × T26 × Int × Int × (List T174) → Option (List T248) := fun ⟨x2, x4v, x7, x8v, x14, x15, x0v_0⟩ =>
  if x15 < x14 then
  M.a2f x0v_0 x8v >>= fun y54 =>
  if ((x7 ++ [y54]).length : Int) ≤ 1099511627776 then
  M.a1v (x2, x4v, (x7 ++ [y54]), x8v, x14, wr .i64 (x15 + 1), x0v_0)
  else none
  else
  if x4v.Max < 0 then
  M.a4a x0v_0 x8v >>= fun y68 =>
  if ((x7 ++ [y68]).length : Int) ≤ 1099511627776 then
  some (x7 ++ [y68])
  else none
  else
  M.a1u (x2, x7, x8v, wr .i64 (x4v.Max - x4v.Min), 0, x0v_0)
  partial_fixpoint
def M.a4v : Int × T26 × Int × Int × (List T174) → Option (List T248) := fun ⟨x2, x8v, x37, x38, x0v_0⟩ =>
  if x38 < x37 then
  M.a4b x0v_0 x8v x2 >>= fun y84 =>
  if ([y84].length : Int) ≤ 1099511627776 then
  M.a1u (x2, [y84], x8v, x37, wr .i64 (x38 + 1), x0v_0)
  else none
  else
  some ([] : List T248)
def M.a4w : Int × T26 × T26 × Int × Int × (List T174) → Option (List T248) := fun ⟨x2, x4v, x8v, x14, x15, x0v_0⟩ =>
  if x15 < x14 then
  M.a2f x0v_0 x8v >>= fun y20 =>
  if ([y20].length : Int) ≤ 1099511627776 then
  M.a1v (x2, x4v, [y20], x8v, x14, wr .i64 (x15 + 1), x0v_0)
  else none
  else
  if x4v.Max < 0 then
  M.a4a x0v_0 x8v >>= fun y38 =>
  if ([y38].length : Int) ≤ 1099511627776 then
  some [y38]
  else none
  else
  M.a4v (x2, x8v, wr .i64 (x4v.Max - x4v.Min), 0, x0v_0)
def M.a5v (x0v_0 : List T174) (x1 : T26) (x2 : Int) : Option (List T248) :=
  if 0 < (x1.L.length : Int) then
  M.a4w (x2, x1, (⟨(gi x1.L 0).Kind, ((gi x1.L 0).Set), (gi x1.L 0).L, (gi x1.L 0).Min, (gi x1.L 0).Max⟩ : T26), x1.Min, 0, x0v_0)
  else none
mutual
def M.a1e : (List T174) × T26 × Int → Option (List T174) := fun ⟨x0v_0, x1, x2⟩ =>
  if x1.Kind = 1 then
  M.ah x0v_0 (⟨1, x1.Set, x2, 0⟩ : T174) >>= fun y6 =>
  some y6.2
  else
  if x1.Kind = 3 then
  M.a5w (x0v_0, x1.L, x2) >>= fun y10 =>
  some y10
  else
  if x1.Kind = 2 then
  M.a5x (x2, x1.L, (x1.L.length : Int), 0, x0v_0)
  else
  if x1.Kind = 4 then
  M.a5v x0v_0 x1 x2 >>= fun y16 =>
  M.a1w (x2, y16, x0v_0)
  else
  M.a4x (x2, x0v_0)
  partial_fixpoint
def M.a5w : (List T174) × (List T26) × Int → Option (List T174) := fun ⟨x0v_0, x1, x2⟩ =>
  M.a1x (x1, x2, x1, (x1.length : Int), 0, x0v_0)
  partial_fixpoint
def M.a1x : (List T26) × Int × (List T26) × Int × Int × (List T174) → Option (List T174) := fun ⟨x1, x2, x9, x10, x11, e0v_0⟩ =>
  if x11 < x10 then
  if 0 ≤ x11 then
  if x11 < (x9.length : Int) then
  if x11 < wr .i64 ((x1.length : Int) - 1) then
  M.ag (⟨(gi x9 x11).Kind, ((gi x9 x11).Set), (gi x9 x11).L, (gi x9 x11).Min, (gi x9 x11).Max⟩ : T26) >>= fun y19 =>
  M.ah e0v_0 (⟨2, [0, 0, 0, 0], wr .i64 ((e0v_0.length : Int) + 1), wr .i64 ((wr .i64 ((e0v_0.length : Int) + 1)) + y19)⟩ : T174) >>= fun y21 =>
  M.a4c (x1, x2, (⟨(gi x9 x11).Kind, ((gi x9 x11).Set), (gi x9 x11).L, (gi x9 x11).Min, (gi x9 x11).Max⟩ : T26), x9, x10, x11, y21.2)
  else
  M.a4c (x1, x2, (⟨(gi x9 x11).Kind, ((gi x9 x11).Set), (gi x9 x11).L, (gi x9 x11).Min, (gi x9 x11).Max⟩ : T26), x9, x10, x11, e0v_0)
  else none
  else none
  else
  if (x1.length : Int) = 0 then
  M.ah e0v_0 (⟨1, [0, 0, 0, 0], x2, 0⟩ : T174) >>= fun y27 =>
  some y27.2
  else
  some e0v_0
  partial_fixpoint
def M.a4c : (List T26) × Int × T26 × (List T26) × Int × Int × (List T174) → Option (List T174) := fun ⟨x1, x2, x7v, x9, x10, x11, e0v_0⟩ =>
  M.a1e (e0v_0, x7v, x2) >>= fun y30 =>
  M.a1x (x1, x2, x9, x10, wr .i64 (x11 + 1), y30)
  partial_fixpoint
def M.a5x : Int × (List T26) × Int × Int × (List T174) → Option (List T174) := fun ⟨x2, x29, x30, x31, e0v_0⟩ =>
  if x31 < x30 then
  if 0 ≤ x31 then
  if x31 < (x29.length : Int) then
  M.a2f e0v_0 (⟨(gi x29 x31).Kind, ((gi x29 x31).Set), (gi x29 x31).L, (gi x29 x31).Min, (gi x29 x31).Max⟩ : T26) >>= fun y36 =>
  if ([y36].length : Int) ≤ 1099511627776 then
  M.a2g (x2, [y36], x29, x30, wr .i64 (x31 + 1), e0v_0)
  else none
  else none
  else none
  else
  M.a4x (x2, e0v_0)
  partial_fixpoint
def M.a2g : Int × (List T248) × (List T26) × Int × Int × (List T174) → Option (List T174) := fun ⟨x2, x6, x29, x30, x31, e0v_0⟩ =>
  if x31 < x30 then
  if 0 ≤ x31 then
  if x31 < (x29.length : Int) then
  M.a2f e0v_0 (⟨(gi x29 x31).Kind, ((gi x29 x31).Set), (gi x29 x31).L, (gi x29 x31).Min, (gi x29 x31).Max⟩ : T26) >>= fun y84 =>
  if ((x6 ++ [y84]).length : Int) ≤ 1099511627776 then
  M.a2g (x2, (x6 ++ [y84]), x29, x30, wr .i64 (x31 + 1), e0v_0)
  else none
  else none
  else none
  else
  M.a1w (x2, x6, e0v_0)
  partial_fixpoint
def M.a1w : Int × (List T248) × (List T174) → Option (List T174) := fun ⟨x2, x6, e0v_0⟩ =>
  if (x6.length : Int) = 0 then
  M.ah e0v_0 (⟨4, [0, 0, 0, 0], x2, 0⟩ : T174) >>= fun y53 =>
  M.a2h (y53.2, x6, x2) >>= fun y57 =>
  some y57
  else
  M.a2h (e0v_0, x6, x2) >>= fun y61 =>
  some y61
  partial_fixpoint
def M.a2h : (List T174) × (List T248) × Int → Option (List T174) := fun ⟨x0v_0, x1, x2⟩ =>
  M.a1f (x1, x2, x1, (x1.length : Int), 0, x0v_0)
  partial_fixpoint
def M.a1f : (List T248) × Int × (List T248) × Int × Int × (List T174) → Option (List T174) := fun ⟨x1, x2, x9, x10, x11, e0v_0⟩ =>
  if x11 < x10 then
  if 0 ≤ x11 then
  if x11 < (x9.length : Int) then
  if x11 < wr .i64 ((x1.length : Int) - 1) then
  M.a2i (x1, x2, gi x9 x11, wr .i64 ((e0v_0.length : Int) + ((gi x9 x11).n)), x9, x10, x11, e0v_0)
  else
  M.a2i (x1, x2, gi x9 x11, x2, x9, x10, x11, e0v_0)
  else none
  else none
  else
  some e0v_0
  partial_fixpoint
def M.a2i : (List T248) × Int × T248 × Int × (List T248) × Int × Int × (List T174) → Option (List T174) := fun ⟨x1, x2, x7v, x8, x9, x10, x11, e0v_0⟩ =>
  some (x7v.code) >>= fun v19 =>
  (match v19 with
  | .inl y21 =>
  M.a4y (x8, e0v_0, y21) >>= fun y60 =>
  M.aq (x1, x2, x9, x10, x11, y60)
  | .inr (.inl y33) =>
  M.a4z (x8, e0v_0, y33) >>= fun y64 =>
  M.aq (x1, x2, x9, x10, x11, y64)
  | .inr (.inr (y45)) =>
  M.a50 (x8, e0v_0, y45.1, y45.2) >>= fun y67 =>
  M.aq (x1, x2, x9, x10, x11, y67))
  partial_fixpoint
def M.a4y : Int × (List T174) × T26 → Option (List T174) := fun ⟨x0, x1v_0, x2⟩ =>
  M.a1e (x1v_0, x2, x0) >>= fun y3 =>
  some y3
  partial_fixpoint
def M.aq : (List T248) × Int × (List T248) × Int × Int × (List T174) → Option (List T174) := fun ⟨x1, x2, x9, x10, x11, e0v_0⟩ =>
  M.a1f (x1, x2, x9, x10, wr .i64 (x11 + 1), e0v_0)
  partial_fixpoint
def M.a4z : Int × (List T174) × T26 → Option (List T174) := fun ⟨x0, x1v_0, x2⟩ =>
  M.ah x1v_0 (⟨2, [0, 0, 0, 0], wr .i64 ((x1v_0.length : Int) + 1), x0⟩ : T174) >>= fun y3 =>
  M.a1e (y3.2, x2, y3.1) >>= fun y6 =>
  some y6
  partial_fixpoint
def M.a50 : Int × (List T174) × Int × T26 → Option (List T174) := fun ⟨x0, x1v_0, x2, x3⟩ =>
  M.ah x1v_0 (⟨2, [0, 0, 0, 0], wr .i64 ((x1v_0.length : Int) + 1), x2⟩ : T174) >>= fun y3 =>
  M.a1e (y3.2, x3, x0) >>= fun y6 =>
  some y6
  partial_fixpoint
def M.a4x : Int × (List T174) → Option (List T174) := fun ⟨x2, e0v_0⟩ =>
  M.ah e0v_0 (⟨4, [0, 0, 0, 0], x2, 0⟩ : T174) >>= fun y64 =>
  M.a2h (y64.2, ([] : List T248), x2) >>= fun y67 =>
  some y67
  partial_fixpoint
end
def M.a2j (x0 : T26) : Option ((List T174) × Int) :=
  M.a4u x0 >>= fun y3 =>
  if y3.2 = 0 then
  if y3.1 > 2048 then
  some (([] : List T174), 110)
  else
  M.a1e (([] : List T174), x0, wr .i64 (y3.1 - 1)) >>= fun y11 =>
  M.ah y11 (⟨3, [0, 0, 0, 0], 0, 0⟩ : T174) >>= fun y14 =>
  some (y14.2, y3.2)
  else
  some (([] : List T174), y3.2)
def M.a5y : Bool → Option Bool := fun x4 =>
  some x4
def M.a2k (x0 : Int) (x1v_0 : Int) : Option Bool :=
  if x0 ≥ 0 then
  some (decide (x0 < x1v_0))
  else
  some false
def M.a51 (x0 : T174) (x1 : Int) : Option Bool :=
  if x0.Op = 1 then
  M.a2k x0.X x1 >>= fun y6 =>
  if y6 = true then
  some (decide (x0.Y = 0))
  else
  some false
  else
  if x0.Op = 2 then
  if x0.Set = [0, 0, 0, 0] then
  M.a2k x0.X x1 >>= fun y11 =>
  if y11 = true then
  M.a2k x0.Y x1 >>= fun y14 =>
  some y14
  else
  some false
  else
  some false
  else
  if x0.Op = 4 then
  if x0.Set = [0, 0, 0, 0] then
  M.a2k x0.X x1 >>= fun y18 =>
  if y18 = true then
  some (decide (x0.Y = 0))
  else
  some false
  else
  some false
  else
  if x0.Op = 3 then
  if x0.Set = [0, 0, 0, 0] then
  if x0.X = 0 then
  some (decide (x0.Y = 0))
  else
  some false
  else
  some false
  else
  some false
def M.a3j : (List T174) × (List T174) × Int × Int → Option Int := fun ⟨x0, x13, x14, x15⟩ =>
  if x15 < x14 then
  if 0 ≤ x15 then
  if x15 < (x13.length : Int) then
  M.a51 (⟨(gi x13 x15).Op, ((gi x13 x15).Set), (gi x13 x15).X, (gi x13 x15).Y⟩ : T174) (x0.length : Int) >>= fun y13 =>
  if y13 = true then
  M.a3j (x0, x13, x14, wr .i64 (x15 + 1))
  else
  some 110
  else none
  else none
  else
  some 0
  partial_fixpoint
def M.a52 : (List T174) × Bool → Option Int := fun ⟨x0, x12⟩ =>
  if x12 = true then
  some 110
  else
  M.a3j (x0, x0, (x0.length : Int), 0)
def M.a53 (x0 : List T174) : Option Int :=
  if (x0.length : Int) = 0 then
  M.a52 (x0, true)
  else
  M.a52 (x0, decide ((x0.length : Int) > 2048))
def M.a5z (x0 : List T174) : Option (List T174) :=
  if (x0.length : Int) ≤ 1099511627776 then
  some x0
  else none
def M.a4d (x0 : Int) : Option (List Int) :=
  if 0 ≤ x0 then
  if x0 ≤ 1099511627776 then
  some (List.replicate (x0 : Int).toNat (0 : Int))
  else none
  else none
def M.a4e (x0v : T255) : Option Unit :=
  some ()
def M.a54 (x0v : T265) : Option T265 :=
  some (⟨x0v.place, (sl x0v.list 0 0)⟩ : T265)
def M.a55 (x0v : T265) (x1 : Int) : Option Bool :=
  if 0 ≤ x1 then
  if x1 < (x0v.place.length : Int) then
  if gi x0v.place x1 < (x0v.list.length : Int) then
  if 0 ≤ gi x0v.place x1 then
  some (decide (gi x0v.list (gi x0v.place x1) = x1))
  else none
  else
  some false
  else none
  else none
def M.a2l (x0v : T265) (x1 : Int) : Option (Bool × T265) :=
  M.a55 x0v x1 >>= fun y4 =>
  if y4 = true then
  some (false, x0v)
  else
  if 0 ≤ x1 then
  if x1 < (x0v.place.length : Int) then
  if ((x0v.list ++ [x1]).length : Int) ≤ 1099511627776 then
  some (true, (⟨(si x0v.place x1 (x0v.list.length : Int)), (x0v.list ++ [x1])⟩ : T265))
  else none
  else none
  else none
def M.a1y : (List Int) × T265 × T255 → Option T265 := fun ⟨x6, e1v, x0v⟩ =>
  if (x6.length : Int) > 0 then
  if 0 ≤ wr .i64 ((x6.length : Int) - 1) then
  if wr .i64 ((x6.length : Int) - 1) < (x6.length : Int) then
  if wr .i64 ((x6.length : Int) - 1) ≤ (x6.length : Int) then
  M.a2l e1v (gi x6 (wr .i64 ((x6.length : Int) - 1))) >>= fun y25 =>
  if y25.1 = true then
  if 0 ≤ gi x6 (wr .i64 ((x6.length : Int) - 1)) then
  if gi x6 (wr .i64 ((x6.length : Int) - 1)) < (x0v.l.length : Int) then
  some (gi x0v.l (gi x6 (wr .i64 ((x6.length : Int) - 1)))) >>= fun v35 =>
  if v35.Op = 2 then
  some ((sl x6 0 (wr .i64 ((x6.length : Int) - 1))) ++ [v35.Y]) >>= fun v49 =>
  if (v49.length : Int) ≤ 1099511627776 then
  if ((v49 ++ [v35.X]).length : Int) ≤ 1099511627776 then
  M.a1y ((v49 ++ [v35.X]), y25.2, x0v)
  else none
  else none
  else
  if v35.Op = 4 then
  some ((sl x6 0 (wr .i64 ((x6.length : Int) - 1))) ++ [v35.X]) >>= fun v74 =>
  if (v74.length : Int) ≤ 1099511627776 then
  M.a1y (v74, y25.2, x0v)
  else none
  else
  M.a1y ((sl x6 0 (wr .i64 ((x6.length : Int) - 1))), y25.2, x0v)
  else none
  else none
  else
  M.a1y ((sl x6 0 (wr .i64 ((x6.length : Int) - 1))), y25.2, x0v)
  else none
  else none
  else none
  else
  some e1v
  partial_fixpoint
def M.a56 (x0v : T255) (x2 : Int) : Option T265 :=
  M.a1y ([x2], x0v.now, x0v)
def M.a57 (x0v : T255) : Option T265 :=
  M.a4e x0v >>= fun y9 =>
  M.a54 x0v.now >>= fun y11 =>
  M.a56 (⟨x0v.l, y11, x0v.next⟩ : T255) 0 >>= fun y15 =>
  some y15
def M.a4f (x0 : List T174) : Option ((T255 × Int) ⊕ Int) :=
  M.a53 x0 >>= fun y1 =>
  if y1 = 0 then
  M.a5z x0 >>= fun y4 =>
  M.a4d (x0.length : Int) >>= fun y7 =>
  M.a4d (x0.length : Int) >>= fun y11 =>
  M.a57 (⟨y4, (⟨y7, ([] : List Int)⟩ : T265), (⟨y11, ([] : List Int)⟩ : T265)⟩ : T255) >>= fun y19 =>
  some (.inl ((⟨y4, y19, (⟨y11, ([] : List Int)⟩ : T265)⟩ : T255), 0))
  else
  some (.inr y1)
def M.a58 (x0 : List T174) (x1 : ByteArray) : Option ((T255 × Int) ⊕ Int) :=
  M.a4f x0 >>= fun y1 =>
  (match y1 with
  | .inl y1_0 =>
  if y1_0.2 = 0 then
  if (x1.size : Int) > 65536 then
  some (.inl (y1_0.1, 3))
  else
  some (.inl (y1_0.1, y1_0.2))
  else
  some (.inl (y1_0.1, y1_0.2))
  | .inr (y1_1) =>
  if y1_1 = 0 then
  if (x1.size : Int) > 65536 then
  some (.inr 3)
  else
  some (.inr y1_1)
  else
  some (.inr y1_1))
def M.a6d (x0v : T255) (x1 : Int) : Option Int :=
  some x1
def M.a1z : (List Int) × T265 × T255 → Option T265 := fun ⟨x6, e2v, x0v⟩ =>
  if (x6.length : Int) > 0 then
  if 0 ≤ wr .i64 ((x6.length : Int) - 1) then
  if wr .i64 ((x6.length : Int) - 1) < (x6.length : Int) then
  if wr .i64 ((x6.length : Int) - 1) ≤ (x6.length : Int) then
  M.a2l e2v (gi x6 (wr .i64 ((x6.length : Int) - 1))) >>= fun y25 =>
  if y25.1 = true then
  if 0 ≤ gi x6 (wr .i64 ((x6.length : Int) - 1)) then
  if gi x6 (wr .i64 ((x6.length : Int) - 1)) < (x0v.l.length : Int) then
  some (gi x0v.l (gi x6 (wr .i64 ((x6.length : Int) - 1)))) >>= fun v35 =>
  if v35.Op = 2 then
  some ((sl x6 0 (wr .i64 ((x6.length : Int) - 1))) ++ [v35.Y]) >>= fun v49 =>
  if (v49.length : Int) ≤ 1099511627776 then
  if ((v49 ++ [v35.X]).length : Int) ≤ 1099511627776 then
  M.a1z ((v49 ++ [v35.X]), y25.2, x0v)
  else none
  else none
  else
  if v35.Op = 4 then
  some ((sl x6 0 (wr .i64 ((x6.length : Int) - 1))) ++ [v35.X]) >>= fun v74 =>
  if (v74.length : Int) ≤ 1099511627776 then
  M.a1z (v74, y25.2, x0v)
  else none
  else
  M.a1z ((sl x6 0 (wr .i64 ((x6.length : Int) - 1))), y25.2, x0v)
  else none
  else none
  else
  M.a1z ((sl x6 0 (wr .i64 ((x6.length : Int) - 1))), y25.2, x0v)
  else none
  else none
  else none
  else
  some e2v
  partial_fixpoint
def M.a59 (x0v : T255) (x2 : Int) : Option T265 :=
  M.a1z ([x2], x0v.next, x0v)
def M.a60 (kq2v_0v : T255) (kq16b1v_0 : Int) (a0 : Int) : Option T265 :=
  M.a59 kq2v_0v a0 >>= fun y13 =>
  some y13
mutual
def M.a2m : Int × Int × T265 × T255 × Int → Option T265 := fun ⟨x14, x15, e4v, x0q2v_0v, x0q16b1v_0⟩ =>
  if x15 < x14 then
  if 0 ≤ x15 then
  if x15 < (x0q2v_0v.now.list.length : Int) then
  if 0 ≤ gi x0q2v_0v.now.list x15 then
  if gi x0q2v_0v.now.list x15 < (x0q2v_0v.l.length : Int) then
  if (gi x0q2v_0v.l (gi x0q2v_0v.now.list x15)).Op = 1 then
  M.a8 ((gi x0q2v_0v.l (gi x0q2v_0v.now.list x15)).Set) x0q16b1v_0 >>= fun y33 =>
  if y33 = true then
  M.a60 (⟨x0q2v_0v.l, x0q2v_0v.now, e4v⟩ : T255) x0q16b1v_0 ((gi x0q2v_0v.l (gi x0q2v_0v.now.list x15)).X) >>= fun y36 =>
  M.a3k (x14, x15, false, y36, x0q2v_0v, x0q16b1v_0)
  else
  M.a3k (x14, x15, false, e4v, x0q2v_0v, x0q16b1v_0)
  else
  M.a3k (x14, x15, false, e4v, x0q2v_0v, x0q16b1v_0)
  else none
  else none
  else none
  else none
  else
  some e4v
  partial_fixpoint
def M.a3k : Int × Int × Bool × T265 × T255 × Int → Option T265 := fun ⟨x14, x15, x41, e4v, x0q2v_0v, x0q16b1v_0⟩ =>
  if x41 = true then
  some e4v
  else
  M.a2m (x14, wr .i64 (x15 + 1), e4v, x0q2v_0v, x0q16b1v_0)
  partial_fixpoint
end
def M.a5a (x0q2v_0v : T255) (x0q16b1v_0 : Int) : Option T265 :=
  M.a2m ((x0q2v_0v.now.list.length : Int), 0, x0q2v_0v.next, x0q2v_0v, x0q16b1v_0)
def M.a6e (x0v : T255) : Option Bool :=
  M.a4e x0v >>= fun y9 =>
  some (decide ((x0v.now.list.length : Int) = 0))
def M.a5b (x0v : T255) (x1 : Int) : Option (Bool × (List T174) × T265) :=
  M.a4e x0v >>= fun y11 =>
  M.a54 x0v.next >>= fun y13 =>
  M.a6d (⟨x0v.l, x0v.now, y13⟩ : T255) x1 >>= fun y17 =>
  M.a5a (⟨x0v.l, x0v.now, y13⟩ : T255) y17 >>= fun y26 =>
  M.a6e (⟨x0v.l, y26, x0v.now⟩ : T255) >>= fun y30 =>
  some (!y30, x0v.l, y26)
def M.a61 (x0 : Int) (x1v_0v : T255) : Option Bool :=
  if 0 ≤ x0 then
  if x0 < (x1v_0v.l.length : Int) then
  some (decide ((gi x1v_0v.l x0).Op = 3))
  else none
  else none
def M.a2n : Int × Int × (List Int) × (List T174) × (List Int) × T265 → Option Int := fun ⟨x7, x8, x0, x1b0v_0v_0, x1b0v_0v_1v_0, x1b0v_0v_2v⟩ =>
  if x8 < x7 then
  if 0 ≤ x8 then
  if x8 < (x0.length : Int) then
  M.a61 (gi x0 x8) (⟨x1b0v_0v_0, (⟨x1b0v_0v_1v_0, x0⟩ : T265), x1b0v_0v_2v⟩ : T255) >>= fun y17 =>
  if y17 = true then
  some x8
  else
  M.a2n (x7, wr .i64 (x8 + 1), x0, x1b0v_0v_0, x1b0v_0v_1v_0, x1b0v_0v_2v)
  else none
  else none
  else
  some (-1)
  partial_fixpoint
def M.a62 (x0 : List Int) (x1b0v_0v_0 : List T174) (x1b0v_0v_1v_0 : List Int) (x1b0v_0v_2v : T265) : Option Int :=
  M.a2n ((x0.length : Int), 0, x0, x1b0v_0v_0, x1b0v_0v_1v_0, x1b0v_0v_2v)
def M.a63 (x0 : List Int) (x1b0v_0v_0 : List T174) (x1b0v_0v_1v_0 : List Int) (x1b0v_0v_2v : T265) : Option Bool :=
  M.a62 x0 x1b0v_0v_0 x1b0v_0v_1v_0 x1b0v_0v_2v >>= fun y10 =>
  some (decide (y10 ≥ 0))
def M.a4g (x0v : T255) : Option Bool :=
  M.a4e x0v >>= fun y11 =>
  M.a63 x0v.now.list x0v.l x0v.now.place x0v.next >>= fun y13 =>
  some y13
def M.a3l : ByteArray × T255 × Int × Int × Int → Option (Bool × Int) := fun ⟨x1, x6v, x7, x19, x20⟩ =>
  if x20 < x19 then
  if 0 ≤ x20 then
  if x20 < (x1.size : Int) then
  M.a5b x6v (bt x1 x20) >>= fun y24 =>
  if y24.1 = true then
  M.a3l (x1, (⟨y24.2.1, y24.2.2, x6v.now⟩ : T255), x7, x19, wr .i64 (x20 + 1))
  else
  some (false, x7)
  else none
  else none
  else
  M.a4g x6v >>= fun y30 =>
  some (y30, x7)
  partial_fixpoint
def M.a64 : Option Unit :=
  some ()
def M.a6f (x1 : Int) : Option Unit :=
  M.a64 >>= fun y3 =>
  some ()
def M.a6g : Option Unit :=
  M.a64 >>= fun y3 =>
  some ()
def M.a6h : ByteArray × Int × Int × Int → Option (Bool × Int) := fun ⟨x1, x7, x19, x20⟩ =>
  if x20 < x19 then
  if 0 ≤ x20 then
  if x20 < (x1.size : Int) then
  M.a6f (bt x1 x20) >>= fun y35 =>
  some (false, x7)
  else none
  else none
  else
  M.a6g >>= fun y37 =>
  some (false, x7)
def M.a4h (x0 : List T174) (x1 : ByteArray) : Option (Bool × Int) :=
  M.a58 x0 x1 >>= fun y1 =>
  (match y1 with
  | .inl y1_0 =>
  if y1_0.2 = 0 then
  M.a3l (x1, y1_0.1, y1_0.2, (x1.size : Int), 0)
  else
  some (false, y1_0.2)
  | .inr (y1_1) =>
  if y1_1 = 0 then
  M.a6h (x1, y1_1, (x1.size : Int), 0)
  else
  some (false, y1_1))
def M.a5c (x0 : ByteArray) : Option Bool :=
  some (!(x0.toList == x0.toList))
def M.a5d (x0 : ByteArray) (x1 : ByteArray) : Option Bool :=
  M.a5c x0 >>= fun y1 =>
  if y1 = true then
  M.a5c x1 >>= fun y4 =>
  if y4 = true then
  some (Op.bytesLess x0.toList x1.toList)
  else
  some true
  else
  some (Op.bytesLess x0.toList x1.toList)
def M.a5e (x0 : ByteArray) : Option Bool :=
  some (!(x0.toList == x0.toList))
mutual
def M.a2o : (List ByteArray) × ByteArray × Int × Int × Int → Option (Int × Bool) := fun ⟨x0, x1, x6, x7, x8⟩ =>
  if x7 < x8 then
  if 0 ≤ wr .i64 (ishr .u64 (wr .u64 (wr .i64 (x7 + x8))) 1) then
  if wr .i64 (ishr .u64 (wr .u64 (wr .i64 (x7 + x8))) 1) < (x0.length : Int) then
  some (gi x0 (wr .i64 (ishr .u64 (wr .u64 (wr .i64 (x7 + x8))) 1))) >>= fun v7 =>
  M.a5d v7 x1 >>= fun y9 =>
  if y9 = true then
  M.a4i (x0, x1, x6, wr .i64 ((wr .i64 (ishr .u64 (wr .u64 (wr .i64 (x7 + x8))) 1)) + 1), x8)
  else
  M.a4i (x0, x1, x6, x7, wr .i64 (ishr .u64 (wr .u64 (wr .i64 (x7 + x8))) 1))
  else none
  else none
  else
  if x7 < x6 then
  if 0 ≤ x7 then
  if x7 < (x0.length : Int) then
  if ((gi x0 x7).toList == x1.toList) = true then
  some (x7, true)
  else
  M.a5e (gi x0 x7) >>= fun y22 =>
  if y22 = true then
  M.a5e x1 >>= fun y25 =>
  some (x7, y25)
  else
  some (x7, false)
  else none
  else none
  else
  some (x7, false)
  partial_fixpoint
def M.a4i : (List ByteArray) × ByteArray × Int × Int × Int → Option (Int × Bool) := fun ⟨x0, x1, x6, x7, x8⟩ =>
  M.a2o (x0, x1, x6, x7, x8)
  partial_fixpoint
end
def M.a5f (x0 : List ByteArray) (x1 : ByteArray) : Option (Int × Bool) :=
  M.a2o (x0, x1, (x0.length : Int), 0, (x0.length : Int))
mutual
def M.a2p : T29 × (List ByteArray) → Option Bool := fun ⟨x0, x1⟩ =>
  if x0.Op = 2 then
  M.a5f x1 x0.Text >>= fun y8 =>
  some y8.2
  else
  if x0.Op = 3 then
  M.a65 (x0.L, x1) >>= fun y11 =>
  some (!y11)
  else
  if x0.Op = 4 then
  M.a66 (x0.L, x1) >>= fun y14 =>
  some y14
  else
  some (decide (x0.Op = 0))
  partial_fixpoint
def M.a65 : (List T29) × (List ByteArray) → Option Bool := fun ⟨x0, x1b0v_0b0v_0⟩ =>
  M.a67 (x0, x1b0v_0b0v_0) >>= fun y3 =>
  some (decide (y3 ≥ 0))
  partial_fixpoint
def M.a67 : (List T29) × (List ByteArray) → Option Int := fun ⟨x0, x1b0v_0b0v_0⟩ =>
  M.a2q (x0, (x0.length : Int), 0, x1b0v_0b0v_0)
  partial_fixpoint
def M.a2q : (List T29) × Int × Int × (List ByteArray) → Option Int := fun ⟨x0, x7, x8, x1b0v_0b0v_0⟩ =>
  if x8 < x7 then
  if 0 ≤ x8 then
  if x8 < (x0.length : Int) then
  M.a68 (gi x0 x8, x1b0v_0b0v_0) >>= fun y13 =>
  if y13 = true then
  some x8
  else
  M.a2q (x0, x7, wr .i64 (x8 + 1), x1b0v_0b0v_0)
  else none
  else none
  else
  some (-1)
  partial_fixpoint
def M.a68 : T29 × (List ByteArray) → Option Bool := fun ⟨x0, x1v_0b0v_0⟩ =>
  M.a4j (x0, x1v_0b0v_0) >>= fun y5 =>
  some (!y5)
  partial_fixpoint
def M.a4j : T29 × (List ByteArray) → Option Bool := fun ⟨x0, x1v_0⟩ =>
  M.a2p (x0, x1v_0) >>= fun y4 =>
  some y4
  partial_fixpoint
def M.a66 : (List T29) × (List ByteArray) → Option Bool := fun ⟨x0, x1b0v_0⟩ =>
  M.a69 (x0, x1b0v_0) >>= fun y2 =>
  some (decide (y2 ≥ 0))
  partial_fixpoint
def M.a69 : (List T29) × (List ByteArray) → Option Int := fun ⟨x0, x1b0v_0⟩ =>
  M.a2r (x0, (x0.length : Int), 0, x1b0v_0)
  partial_fixpoint
def M.a2r : (List T29) × Int × Int × (List ByteArray) → Option Int := fun ⟨x0, x7, x8, x1b0v_0⟩ =>
  if x8 < x7 then
  if 0 ≤ x8 then
  if x8 < (x0.length : Int) then
  M.a4j (gi x0 x8, x1b0v_0) >>= fun y12 =>
  if y12 = true then
  some x8
  else
  M.a2r (x0, x7, wr .i64 (x8 + 1), x1b0v_0)
  else none
  else none
  else
  some (-1)
  partial_fixpoint
end
def M.a5g (x0 : T29) (x1 : ByteArray) : Option (Bool × Int) :=
  M.a1r x0 >>= fun y3 =>
  if y3 = 0 then
  M.a2c x1 >>= fun y6 =>
  M.a2p (x0, y6) >>= fun y10 =>
  some (y10, 0)
  else
  some (false, y3)
def M.a20 : ByteArray × (List T174) × Int × T29 × Int × Bool → Option Bool := fun ⟨x1, x5, x6, x7v, x8, x43⟩ =>
  if x43 = true then
  if x8 = 0 then
  M.a5y true
  else
  M.a5y (decide (x6 = 2))
  else
  M.a4h x5 x1 >>= fun y28 =>
  M.a5g x7v x1 >>= fun y30 =>
  if x8 = 0 then
  if y28.2 = 0 then
  if y30.2 = 0 then
  if y30.1 = true then
  some true
  else
  some (!y28.1)
  else
  some false
  else
  some false
  else
  some false
def M.a5h (x0 : T26) (x1 : ByteArray) : Option Bool :=
  M.a3h >>= fun y3 =>
  if y3 = true then
  if 0 ≤ imn (x1.size : Int) 30 then
  if imn (x1.size : Int) 30 ≤ (x1.size : Int) then
  M.a4t x0 >>= fun y8 =>
  M.a2j y8 >>= fun y12 =>
  M.a19 y8 >>= fun y15 =>
  if y12.2 = 0 then
  if (y12.1.length : Int) > 300 then
  M.a20 (ss x1 0 (imn (x1.size : Int) 30), y12.1, y12.2, y15.1, y15.2, true)
  else
  M.a1r y15.1 >>= fun y23 =>
  M.a20 (ss x1 0 (imn (x1.size : Int) 30), y12.1, y12.2, y15.1, y15.2, !(decide (y23 = 0)))
  else
  M.a20 (ss x1 0 (imn (x1.size : Int) 30), y12.1, y12.2, y15.1, y15.2, true)
  else none
  else none
  else
  some false
end Go.Gx
