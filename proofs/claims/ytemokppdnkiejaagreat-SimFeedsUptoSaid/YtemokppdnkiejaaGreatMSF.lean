import Derived.Test.YtemokppdnkiejaaGreatGW
set_option linter.unusedVariables false
namespace Go.Gx
structure T45 where
  Op : Int
  Set : List Int
  X : Int
  Y : Int
  deriving Inhabited
structure T65 where
  place : List Int
  list : List Int
  deriving Inhabited
structure T50 where
  l : List T45
  now : T65
  next : T65
  deriving Inhabited
structure T57 where
  Kind : Int
  Set : List Int
  L : List T57
  Min : Int
  Max : Int
instance : Inhabited T57 := ⟨⟨default, default, [], default, default⟩⟩
structure T82 where
  at_ : Int
  deriving Inhabited
structure T78 where
  s : ByteArray
  at_ : Int
  deep : Int
  bad : Option T82
  deriving Inhabited
structure T142 where
  set_ : List Int
  b : Int
  single : Bool
  deriving Inhabited
structure T87 where
  l : List T45
  deriving Inhabited
structure T108 where
  n : Int
  code : T57 ⊕ T57 ⊕ (Int × T57)
  deriving Inhabited
def M.prog_right_1 (x0 : Int) (x1v_0 : Int) : Option Bool :=
  if x0 ≥ 0 then
  some (decide (x0 < x1v_0))
  else
  some false
def M.prog_right (x0 : T45) (x1 : Int) : Option Bool :=
  if x0.Op = 1 then
  M.prog_right_1 x0.X x1 >>= fun y6 =>
  if y6 = true then
  some (decide (x0.Y = 0))
  else
  some false
  else
  if x0.Op = 2 then
  if x0.Set = [0, 0, 0, 0] then
  M.prog_right_1 x0.X x1 >>= fun y11 =>
  if y11 = true then
  M.prog_right_1 x0.Y x1 >>= fun y14 =>
  some y14
  else
  some false
  else
  some false
  else
  if x0.Op = 4 then
  if x0.Set = [0, 0, 0, 0] then
  M.prog_right_1 x0.X x1 >>= fun y18 =>
  if y18 = true then
  some (decide (x0.Y = 0))
  else
  some false
  else
  some false
  else
  if x0.Op = 3 then
  if x0.Set = [0, 0, 0, 0] then
  if x0.X = 0 then
  some (decide (x0.Y = 0))
  else
  some false
  else
  some false
  else
  some false
def M.prog_Check_l1 : (List T45) × (List T45) × Int × Int → Option Int := fun ⟨x0, x13, x14, x15⟩ =>
  if x15 < x14 then
  if 0 ≤ x15 then
  if x15 < (x13.length : Int) then
  M.prog_right (⟨(gi x13 x15).Op, ((gi x13 x15).Set), (gi x13 x15).X, (gi x13 x15).Y⟩ : T45) (x0.length : Int) >>= fun y13 =>
  if y13 = true then
  M.prog_Check_l1 (x0, x13, x14, wr .i64 (x15 + 1))
  else
  some 110
  else none
  else none
  else
  some 0
  partial_fixpoint
def M.prog_Check_l0 : (List T45) × Bool → Option Int := fun ⟨x0, x12⟩ =>
  if x12 = true then
  some 110
  else
  M.prog_Check_l1 (x0, x0, (x0.length : Int), 0)
def M.prog_Check (x0 : List T45) : Option Int :=
  if (x0.length : Int) = 0 then
  M.prog_Check_l0 (x0, true)
  else
  M.prog_Check_l0 (x0, decide ((x0.length : Int) > 2048))
def M.api_Inst (x0 : List T45) : Option (List T45) :=
  if (x0.length : Int) ≤ 1099511627776 then
  some x0
  else none
def M.sim_state (x0 : Int) : Option (List Int) :=
  if 0 ≤ x0 then
  if x0 ≤ 1099511627776 then
  some (List.replicate (x0 : Int).toNat (0 : Int))
  else none
  else none
def M.sim_Runner_is (x0v : T50) : Option Unit :=
  some ()
def M.sim_state_clear (x0v : T65) : Option T65 :=
  some (⟨x0v.place, (sl x0v.list 0 0)⟩ : T65)
def M.sim_state_has (x0v : T65) (x1 : Int) : Option Bool :=
  if 0 ≤ x1 then
  if x1 < (x0v.place.length : Int) then
  if gi x0v.place x1 < (x0v.list.length : Int) then
  if 0 ≤ gi x0v.place x1 then
  some (decide (gi x0v.list (gi x0v.place x1) = x1))
  else none
  else
  some false
  else none
  else none
def M.sim_state_add (x0v : T65) (x1 : Int) : Option (Bool × T65) :=
  M.sim_state_has x0v x1 >>= fun y4 =>
  if y4 = true then
  some (false, x0v)
  else
  if 0 ≤ x1 then
  if x1 < (x0v.place.length : Int) then
  if ((x0v.list ++ [x1]).length : Int) ≤ 1099511627776 then
  some (true, (⟨(si x0v.place x1 (x0v.list.length : Int)), (x0v.list ++ [x1])⟩ : T65))
  else none
  else none
  else none
def M.sim_Runner_stand_l0 : (List Int) × T65 × T50 → Option T65 := fun ⟨x6, e1v, x0v⟩ =>
  if (x6.length : Int) > 0 then
  if 0 ≤ wr .i64 ((x6.length : Int) - 1) then
  if wr .i64 ((x6.length : Int) - 1) < (x6.length : Int) then
  if wr .i64 ((x6.length : Int) - 1) ≤ (x6.length : Int) then
  M.sim_state_add e1v (gi x6 (wr .i64 ((x6.length : Int) - 1))) >>= fun y25 =>
  if y25.1 = true then
  if 0 ≤ gi x6 (wr .i64 ((x6.length : Int) - 1)) then
  if gi x6 (wr .i64 ((x6.length : Int) - 1)) < (x0v.l.length : Int) then
  some (gi x0v.l (gi x6 (wr .i64 ((x6.length : Int) - 1)))) >>= fun v35 =>
  if v35.Op = 2 then
  some ((sl x6 0 (wr .i64 ((x6.length : Int) - 1))) ++ [v35.Y]) >>= fun v49 =>
  if (v49.length : Int) ≤ 1099511627776 then
  if ((v49 ++ [v35.X]).length : Int) ≤ 1099511627776 then
  M.sim_Runner_stand_l0 ((v49 ++ [v35.X]), y25.2, x0v)
  else none
  else none
  else
  if v35.Op = 4 then
  some ((sl x6 0 (wr .i64 ((x6.length : Int) - 1))) ++ [v35.X]) >>= fun v74 =>
  if (v74.length : Int) ≤ 1099511627776 then
  M.sim_Runner_stand_l0 (v74, y25.2, x0v)
  else none
  else
  M.sim_Runner_stand_l0 ((sl x6 0 (wr .i64 ((x6.length : Int) - 1))), y25.2, x0v)
  else none
  else none
  else
  M.sim_Runner_stand_l0 ((sl x6 0 (wr .i64 ((x6.length : Int) - 1))), y25.2, x0v)
  else none
  else none
  else none
  else
  some e1v
  partial_fixpoint
def M.sim_Runner_stand (x0v : T50) (x2 : Int) : Option T65 :=
  M.sim_Runner_stand_l0 ([x2], x0v.now, x0v)
def M.sim_Runner_Reset (x0v : T50) : Option T65 :=
  M.sim_Runner_is x0v >>= fun y9 =>
  M.sim_state_clear x0v.now >>= fun y11 =>
  M.sim_Runner_stand (⟨x0v.l, y11, x0v.next⟩ : T50) 0 >>= fun y15 =>
  some y15
def M.sim_New (x0 : List T45) : Option ((T50 × Int) ⊕ Int) :=
  M.prog_Check x0 >>= fun y1 =>
  if y1 = 0 then
  M.api_Inst x0 >>= fun y4 =>
  M.sim_state (x0.length : Int) >>= fun y7 =>
  M.sim_state (x0.length : Int) >>= fun y11 =>
  M.sim_Runner_Reset (⟨y4, (⟨y7, ([] : List Int)⟩ : T65), (⟨y11, ([] : List Int)⟩ : T65)⟩ : T50) >>= fun y19 =>
  some (.inl ((⟨y4, y19, (⟨y11, ([] : List Int)⟩ : T65)⟩ : T50), 0))
  else
  some (.inr y1)
mutual
def M.tidepoleref11_Check_l1 : (List T45) × Int → Option Int := fun ⟨x0, x3⟩ =>
  if x3 < (x0.length : Int) then
  if 0 ≤ x3 then
  if (gi x0 x3).Op < 1 then
  M.tidepoleref11_Check_l2 (x0, x3, true)
  else
  if (gi x0 x3).Op > 4 then
  M.tidepoleref11_Check_l2 (x0, x3, true)
  else
  if (gi x0 x3).Op = 1 then
  if (gi x0 x3).Op = 3 then
  if (gi x0 x3).X = 0 then
  if (gi x0 x3).Op = 2 then
  if (gi x0 x3).X < 0 then
  M.tidepoleref11_Check_l2 (x0, x3, true)
  else
  if (gi x0 x3).X ≥ (x0.length : Int) then
  M.tidepoleref11_Check_l2 (x0, x3, true)
  else
  if (gi x0 x3).Y < 0 then
  M.tidepoleref11_Check_l2 (x0, x3, true)
  else
  M.tidepoleref11_Check_l2 (x0, x3, decide ((gi x0 x3).Y ≥ (x0.length : Int)))
  else
  if (gi x0 x3).Y = 0 then
  if (gi x0 x3).X < 0 then
  M.tidepoleref11_Check_l2 (x0, x3, true)
  else
  if (gi x0 x3).X ≥ (x0.length : Int) then
  M.tidepoleref11_Check_l2 (x0, x3, true)
  else
  if (gi x0 x3).Y < 0 then
  M.tidepoleref11_Check_l2 (x0, x3, true)
  else
  M.tidepoleref11_Check_l2 (x0, x3, decide ((gi x0 x3).Y ≥ (x0.length : Int)))
  else
  M.tidepoleref11_Check_l2 (x0, x3, true)
  else
  M.tidepoleref11_Check_l2 (x0, x3, true)
  else
  if (gi x0 x3).Op = 2 then
  if (gi x0 x3).X < 0 then
  M.tidepoleref11_Check_l2 (x0, x3, true)
  else
  if (gi x0 x3).X ≥ (x0.length : Int) then
  M.tidepoleref11_Check_l2 (x0, x3, true)
  else
  if (gi x0 x3).Y < 0 then
  M.tidepoleref11_Check_l2 (x0, x3, true)
  else
  M.tidepoleref11_Check_l2 (x0, x3, decide ((gi x0 x3).Y ≥ (x0.length : Int)))
  else
  if (gi x0 x3).Y = 0 then
  if (gi x0 x3).X < 0 then
  M.tidepoleref11_Check_l2 (x0, x3, true)
  else
  if (gi x0 x3).X ≥ (x0.length : Int) then
  M.tidepoleref11_Check_l2 (x0, x3, true)
  else
  if (gi x0 x3).Y < 0 then
  M.tidepoleref11_Check_l2 (x0, x3, true)
  else
  M.tidepoleref11_Check_l2 (x0, x3, decide ((gi x0 x3).Y ≥ (x0.length : Int)))
  else
  M.tidepoleref11_Check_l2 (x0, x3, true)
  else
  if ((gi x0 x3).Set) = [0, 0, 0, 0] then
  if (gi x0 x3).Op = 3 then
  if (gi x0 x3).X = 0 then
  if (gi x0 x3).Op = 2 then
  if (gi x0 x3).X < 0 then
  M.tidepoleref11_Check_l2 (x0, x3, true)
  else
  if (gi x0 x3).X ≥ (x0.length : Int) then
  M.tidepoleref11_Check_l2 (x0, x3, true)
  else
  if (gi x0 x3).Y < 0 then
  M.tidepoleref11_Check_l2 (x0, x3, true)
  else
  M.tidepoleref11_Check_l2 (x0, x3, decide ((gi x0 x3).Y ≥ (x0.length : Int)))
  else
  if (gi x0 x3).Y = 0 then
  if (gi x0 x3).X < 0 then
  M.tidepoleref11_Check_l2 (x0, x3, true)
  else
  if (gi x0 x3).X ≥ (x0.length : Int) then
  M.tidepoleref11_Check_l2 (x0, x3, true)
  else
  if (gi x0 x3).Y < 0 then
  M.tidepoleref11_Check_l2 (x0, x3, true)
  else
  M.tidepoleref11_Check_l2 (x0, x3, decide ((gi x0 x3).Y ≥ (x0.length : Int)))
  else
  M.tidepoleref11_Check_l2 (x0, x3, true)
  else
  M.tidepoleref11_Check_l2 (x0, x3, true)
  else
  if (gi x0 x3).Op = 2 then
  if (gi x0 x3).X < 0 then
  M.tidepoleref11_Check_l2 (x0, x3, true)
  else
  if (gi x0 x3).X ≥ (x0.length : Int) then
  M.tidepoleref11_Check_l2 (x0, x3, true)
  else
  if (gi x0 x3).Y < 0 then
  M.tidepoleref11_Check_l2 (x0, x3, true)
  else
  M.tidepoleref11_Check_l2 (x0, x3, decide ((gi x0 x3).Y ≥ (x0.length : Int)))
  else
  if (gi x0 x3).Y = 0 then
  if (gi x0 x3).X < 0 then
  M.tidepoleref11_Check_l2 (x0, x3, true)
  else
  if (gi x0 x3).X ≥ (x0.length : Int) then
  M.tidepoleref11_Check_l2 (x0, x3, true)
  else
  if (gi x0 x3).Y < 0 then
  M.tidepoleref11_Check_l2 (x0, x3, true)
  else
  M.tidepoleref11_Check_l2 (x0, x3, decide ((gi x0 x3).Y ≥ (x0.length : Int)))
  else
  M.tidepoleref11_Check_l2 (x0, x3, true)
  else
  M.tidepoleref11_Check_l2 (x0, x3, true)
  else none
  else
  some 0
  partial_fixpoint
def M.tidepoleref11_Check_l2 : (List T45) × Int × Bool → Option Int := fun ⟨x0, x3, x85⟩ =>
  if x85 = true then
  some 110
  else
  M.tidepoleref11_Check_l1 (x0, wr .i64 (x3 + 1))
  partial_fixpoint
end
def M.tidepoleref11_Check_l0 : (List T45) × Bool → Option Int := fun ⟨x0, x12⟩ =>
  if x12 = true then
  some 110
  else
  M.tidepoleref11_Check_l1 (x0, 0)
def M.tidepoleref11_Check (x0 : List T45) : Option Int :=
  if (x0.length : Int) = 0 then
  M.tidepoleref11_Check_l0 (x0, true)
  else
  M.tidepoleref11_Check_l0 (x0, decide ((x0.length : Int) > 2048))
mutual
def M.tidepoleref12_closed_l0 : (List T45) × (List Bool) × Int → Option (List Bool) := fun ⟨x0, x5, x6⟩ =>
  if x6 < (x0.length : Int) then
  M.tidepoleref12_closed_l1 (x0, x5, x6, false, 0)
  else
  some x5
  partial_fixpoint
def M.tidepoleref12_closed_l1 : (List T45) × (List Bool) × Int × Bool × Int → Option (List Bool) := fun ⟨x0, x5, x6, x7, x8⟩ =>
  if x8 < (x0.length : Int) then
  if 0 ≤ x8 then
  if x8 < (x5.length : Int) then
  if (gi x5 x8) = true then
  if (gi x0 x8).Op = 2 then
  if 0 ≤ (gi x0 x8).X then
  if (gi x0 x8).X < (x5.length : Int) then
  M.tidepoleref12_closed_l2 (x0, x5, x6, x7, x8, !(gi x5 ((gi x0 x8).X)))
  else none
  else none
  else
  if (gi x0 x8).Op = 4 then
  if 0 ≤ (gi x0 x8).X then
  if (gi x0 x8).X < (x5.length : Int) then
  M.tidepoleref12_closed_l2 (x0, x5, x6, x7, x8, !(gi x5 ((gi x0 x8).X)))
  else none
  else none
  else
  M.tidepoleref12_closed_l2 (x0, x5, x6, x7, x8, false)
  else
  M.tidepoleref12_closed_l1 (x0, x5, x6, x7, wr .i64 (x8 + 1))
  else none
  else none
  else
  if x7 = true then
  M.tidepoleref12_closed_l0 (x0, x5, wr .i64 (x6 + 1))
  else
  some x5
  partial_fixpoint
def M.tidepoleref12_closed_l2 : (List T45) × (List Bool) × Int × Bool × Int × Bool → Option (List Bool) := fun ⟨x0, x5, x6, x7, x8, x53⟩ =>
  if x53 = true then
  if 0 ≤ x8 then
  if x8 < (x0.length : Int) then
  if 0 ≤ (gi x0 x8).X then
  if (gi x0 x8).X < (x5.length : Int) then
  M.tidepoleref12_closed_l3 (x0, (si x5 ((gi x0 x8).X) true), x6, true, x8)
  else none
  else none
  else none
  else none
  else
  M.tidepoleref12_closed_l3 (x0, x5, x6, x7, x8)
  partial_fixpoint
def M.tidepoleref12_closed_l3 : (List T45) × (List Bool) × Int × Bool × Int → Option (List Bool) := fun ⟨x0, x5, x6, x7, x8⟩ =>
  if 0 ≤ x8 then
  if x8 < (x0.length : Int) then
  if (gi x0 x8).Op = 2 then
  if 0 ≤ (gi x0 x8).Y then
  if (gi x0 x8).Y < (x5.length : Int) then
  M.tidepoleref12_closed_l4 (x0, x5, x6, x7, x8, !(gi x5 ((gi x0 x8).Y)))
  else none
  else none
  else
  M.tidepoleref12_closed_l4 (x0, x5, x6, x7, x8, false)
  else none
  else none
  partial_fixpoint
def M.tidepoleref12_closed_l4 : (List T45) × (List Bool) × Int × Bool × Int × Bool → Option (List Bool) := fun ⟨x0, x5, x6, x7, x8, x77⟩ =>
  if x77 = true then
  if 0 ≤ x8 then
  if x8 < (x0.length : Int) then
  if 0 ≤ (gi x0 x8).Y then
  if (gi x0 x8).Y < (x5.length : Int) then
  M.tidepoleref12_closed_l5 (x0, (si x5 ((gi x0 x8).Y) true), x6, true, x8)
  else none
  else none
  else none
  else none
  else
  M.tidepoleref12_closed_l5 (x0, x5, x6, x7, x8)
  partial_fixpoint
def M.tidepoleref12_closed_l5 : (List T45) × (List Bool) × Int × Bool × Int → Option (List Bool) := fun ⟨x0, x5, x6, x7, x8⟩ =>
  M.tidepoleref12_closed_l1 (x0, x5, x6, x7, wr .i64 (x8 + 1))
  partial_fixpoint
end
def M.tidepoleref12_closed (x0 : List T45) (x1 : List Bool) : Option (List Bool) :=
  if (x1.length : Int) ≤ 1099511627776 then
  M.tidepoleref12_closed_l0 (x0, x1, 0)
  else none
def M.tidepoleref12_Begin (x0 : List T45) : Option (List Bool) :=
  if (x0.length : Int) ≤ 1099511627776 then
  some (List.replicate ((x0.length : Int) : Int).toNat (false : Bool)) >>= fun v2 =>
  if 0 < (v2.length : Int) then
  M.tidepoleref12_closed x0 (si v2 0 true) >>= fun y17 =>
  some y17
  else none
  else none
mutual
def M.tidepoleref12_Accepts_l0 : (List T45) × (List Bool) × Int → Option Bool := fun ⟨x0, x1, x5⟩ =>
  if x5 < (x0.length : Int) then
  if 0 ≤ x5 then
  if x5 < (x1.length : Int) then
  if (gi x1 x5) = true then
  M.tidepoleref12_Accepts_l1 (x0, x1, x5, decide ((gi x0 x5).Op = 3))
  else
  M.tidepoleref12_Accepts_l1 (x0, x1, x5, false)
  else none
  else none
  else
  some false
  partial_fixpoint
def M.tidepoleref12_Accepts_l1 : (List T45) × (List Bool) × Int × Bool → Option Bool := fun ⟨x0, x1, x5, x23⟩ =>
  if x23 = true then
  some true
  else
  M.tidepoleref12_Accepts_l0 (x0, x1, wr .i64 (x5 + 1))
  partial_fixpoint
end
def M.tidepoleref12_Accepts (x0 : List T45) (x1 : List Bool) : Option Bool :=
  M.tidepoleref12_Accepts_l0 (x0, x1, 0)
def M.tidepoleref10_Has (x0 : List Int) (x1 : Int) : Option Bool :=
  if 0 ≤ iquo .u8 x1 64 then
  if iquo .u8 x1 64 < 4 then
  if 0 ≤ irem .u8 x1 64 then
  some (decide (irem .u64 (ishr .u64 (gi x0 (iquo .u8 x1 64)) (irem .u8 x1 64)) 2 = 1))
  else none
  else none
  else none
mutual
def M.tidepoleref12_Step_l0 : (List T45) × (List Bool) × Int × (List Bool) × Int → Option (List Bool) := fun ⟨x0, x1, x2, x7, x8⟩ =>
  if x8 < (x0.length : Int) then
  if 0 ≤ x8 then
  if x8 < (x1.length : Int) then
  if (gi x1 x8) = true then
  if (gi x0 x8).Op = 1 then
  M.tidepoleref10_Has ((gi x0 x8).Set) x2 >>= fun y27 =>
  M.tidepoleref12_Step_l1 (x0, x1, x2, x7, x8, y27)
  else
  M.tidepoleref12_Step_l1 (x0, x1, x2, x7, x8, false)
  else
  M.tidepoleref12_Step_l1 (x0, x1, x2, x7, x8, false)
  else none
  else none
  else
  M.tidepoleref12_closed x0 x7 >>= fun y31 =>
  some y31
  partial_fixpoint
def M.tidepoleref12_Step_l1 : (List T45) × (List Bool) × Int × (List Bool) × Int × Bool → Option (List Bool) := fun ⟨x0, x1, x2, x7, x8, x38⟩ =>
  if x38 = true then
  if 0 ≤ x8 then
  if x8 < (x0.length : Int) then
  if 0 ≤ (gi x0 x8).X then
  if (gi x0 x8).X < (x7.length : Int) then
  M.tidepoleref12_Step_l2 (x0, x1, x2, (si x7 ((gi x0 x8).X) true), x8)
  else none
  else none
  else none
  else none
  else
  M.tidepoleref12_Step_l2 (x0, x1, x2, x7, x8)
  partial_fixpoint
def M.tidepoleref12_Step_l2 : (List T45) × (List Bool) × Int × (List Bool) × Int → Option (List Bool) := fun ⟨x0, x1, x2, x7, x8⟩ =>
  M.tidepoleref12_Step_l0 (x0, x1, x2, x7, wr .i64 (x8 + 1))
  partial_fixpoint
end
def M.tidepoleref12_Step (x0 : List T45) (x1 : List Bool) (x2 : Int) : Option (List Bool) :=
  if (x0.length : Int) ≤ 1099511627776 then
  some (List.replicate ((x0.length : Int) : Int).toNat (false : Bool)) >>= fun v2 =>
  M.tidepoleref12_Step_l0 (x0, x1, x2, v2, 0)
  else none
mutual
def M.tidepoleref12_Ends_l1 : (List T45) × ByteArray × (List Int) × (List Bool) × Int → Option ((List Int) × Int) := fun ⟨x0, x1, x8, x9, x10⟩ =>
  if x10 ≤ (x1.size : Int) then
  M.tidepoleref12_Accepts x0 x9 >>= fun y20 =>
  if y20 = true then
  if ((x8 ++ [x10]).length : Int) ≤ 1099511627776 then
  M.tidepoleref12_Ends_l2 (x0, x1, (x8 ++ [x10]), x9, x10)
  else none
  else
  M.tidepoleref12_Ends_l2 (x0, x1, x8, x9, x10)
  else
  some (x8, 0)
  partial_fixpoint
def M.tidepoleref12_Ends_l2 : (List T45) × ByteArray × (List Int) × (List Bool) × Int → Option ((List Int) × Int) := fun ⟨x0, x1, x8, x9, x10⟩ =>
  if x10 < (x1.size : Int) then
  if 0 ≤ x10 then
  M.tidepoleref12_Step x0 x9 (bt x1 x10) >>= fun y39 =>
  M.tidepoleref12_Ends_l3 (x0, x1, x8, y39, x10)
  else none
  else
  M.tidepoleref12_Ends_l3 (x0, x1, x8, x9, x10)
  partial_fixpoint
def M.tidepoleref12_Ends_l3 : (List T45) × ByteArray × (List Int) × (List Bool) × Int → Option ((List Int) × Int) := fun ⟨x0, x1, x8, x9, x10⟩ =>
  M.tidepoleref12_Ends_l1 (x0, x1, x8, x9, wr .i64 (x10 + 1))
  partial_fixpoint
end
def M.tidepoleref12_Ends_l0 : (List T45) × ByteArray × Int × Bool → Option ((List Int) × Int) := fun ⟨x0, x1, x2, x24⟩ =>
  if x24 = true then
  some (([] : List Int), 2)
  else
  M.tidepoleref12_Begin x0 >>= fun y13 =>
  M.tidepoleref12_Ends_l1 (x0, x1, ([] : List Int), y13, x2)
def M.tidepoleref12_Ends (x0 : List T45) (x1 : ByteArray) (x2 : Int) : Option ((List Int) × Int) :=
  M.tidepoleref11_Check x0 >>= fun y1 =>
  if y1 = 0 then
  if (x1.size : Int) > 65536 then
  some (([] : List Int), 3)
  else
  if x2 < 0 then
  M.tidepoleref12_Ends_l0 (x0, x1, x2, true)
  else
  M.tidepoleref12_Ends_l0 (x0, x1, x2, decide (x2 > (x1.size : Int)))
  else
  some (([] : List Int), 110)
def M.tidepoleref12_Match (x0 : List T45) (x1 : ByteArray) : Option (Bool × Int) :=
  M.tidepoleref12_Ends x0 x1 0 >>= fun y1 =>
  if (y1.1.length : Int) > 0 then
  if 0 ≤ wr .i64 ((y1.1.length : Int) - 1) then
  if wr .i64 ((y1.1.length : Int) - 1) < (y1.1.length : Int) then
  some (decide (gi y1.1 (wr .i64 ((y1.1.length : Int) - 1)) = (x1.size : Int)), y1.2)
  else none
  else none
  else
  some (false, y1.2)
def M.sim_Runner_At_l0 : (List Int) × Int × Int × T50 → Option (List Int) := fun ⟨x3, x16, x17, x0v⟩ =>
  if x17 < x16 then
  if 0 ≤ x17 then
  if x17 < (x0v.now.list.length : Int) then
  if ((x3 ++ [gi x0v.now.list x17]).length : Int) ≤ 1099511627776 then
  M.sim_Runner_At_l0 ((x3 ++ [gi x0v.now.list x17]), x16, wr .i64 (x17 + 1), x0v)
  else none
  else none
  else none
  else
  if (x3.length : Int) ≤ 1099511627776 then
  some (srtI x3)
  else none
  partial_fixpoint
def M.sim_Runner_At (x0v : T50) : Option (List Int) :=
  M.sim_Runner_is x0v >>= fun y9 =>
  M.sim_Runner_At_l0 (([] : List Int), (x0v.now.list.length : Int), 0, x0v)
def M.tidepolebase_SameInts_l0 : (List Int) × (List Int) × Int → Option Bool := fun ⟨x0, x1, x5⟩ =>
  if x5 < (x0.length : Int) then
  if 0 ≤ x5 then
  if x5 < (x1.length : Int) then
  if gi x0 x5 = gi x1 x5 then
  M.tidepolebase_SameInts_l0 (x0, x1, wr .i64 (x5 + 1))
  else
  some false
  else none
  else none
  else
  some true
  partial_fixpoint
def M.tidepolebase_SameInts (x0 : List Int) (x1 : List Int) : Option Bool :=
  if (x0.length : Int) = (x1.length : Int) then
  M.tidepolebase_SameInts_l0 (x0, x1, 0)
  else
  some false
def M.sim_Runner_Dead (x0v : T50) : Option Bool :=
  M.sim_Runner_is x0v >>= fun y9 =>
  some (decide ((x0v.now.list.length : Int) = 0))
def M.sim_Runner_Accepts_1 (x0 : Int) (x1v_0v : T50) : Option Bool :=
  if 0 ≤ x0 then
  if x0 < (x1v_0v.l.length : Int) then
  some (decide ((gi x1v_0v.l x0).Op = 3))
  else none
  else none
def M.sim_state_3_l0 : Int × Int × (List Int) × (List T45) × (List Int) × T65 → Option Int := fun ⟨x7, x8, x0, x1b0v_0v_0, x1b0v_0v_1v_0, x1b0v_0v_2v⟩ =>
  if x8 < x7 then
  if 0 ≤ x8 then
  if x8 < (x0.length : Int) then
  M.sim_Runner_Accepts_1 (gi x0 x8) (⟨x1b0v_0v_0, (⟨x1b0v_0v_1v_0, x0⟩ : T65), x1b0v_0v_2v⟩ : T50) >>= fun y17 =>
  if y17 = true then
  some x8
  else
  M.sim_state_3_l0 (x7, wr .i64 (x8 + 1), x0, x1b0v_0v_0, x1b0v_0v_1v_0, x1b0v_0v_2v)
  else none
  else none
  else
  some (-1)
  partial_fixpoint
def M.sim_state_3 (x0 : List Int) (x1b0v_0v_0 : List T45) (x1b0v_0v_1v_0 : List Int) (x1b0v_0v_2v : T65) : Option Int :=
  M.sim_state_3_l0 ((x0.length : Int), 0, x0, x1b0v_0v_0, x1b0v_0v_1v_0, x1b0v_0v_2v)
def M.sim_state_2 (x0 : List Int) (x1b0v_0v_0 : List T45) (x1b0v_0v_1v_0 : List Int) (x1b0v_0v_2v : T65) : Option Bool :=
  M.sim_state_3 x0 x1b0v_0v_0 x1b0v_0v_1v_0 x1b0v_0v_2v >>= fun y10 =>
  some (decide (y10 ≥ 0))
def M.sim_Runner_Accepts (x0v : T50) : Option Bool :=
  M.sim_Runner_is x0v >>= fun y11 =>
  M.sim_state_2 x0v.now.list x0v.l x0v.now.place x0v.next >>= fun y13 =>
  some y13
def M.sim_Runner_led (x0v : T50) (x1 : Int) : Option Int :=
  some x1
def M.syntax_Has (x0 : List Int) (x1 : Int) : Option Bool :=
  if 0 ≤ iquo .u8 x1 64 then
  if iquo .u8 x1 64 < 4 then
  if 0 ≤ irem .u8 x1 64 then
  some (decide (iand .u64 (ishr .u64 (gi x0 (iquo .u8 x1 64)) (irem .u8 x1 64)) 1 = 1))
  else none
  else none
  else none
def M.sim_Runner_stand_2_l0 : (List Int) × T65 × T50 → Option T65 := fun ⟨x6, e2v, x0v⟩ =>
  if (x6.length : Int) > 0 then
  if 0 ≤ wr .i64 ((x6.length : Int) - 1) then
  if wr .i64 ((x6.length : Int) - 1) < (x6.length : Int) then
  if wr .i64 ((x6.length : Int) - 1) ≤ (x6.length : Int) then
  M.sim_state_add e2v (gi x6 (wr .i64 ((x6.length : Int) - 1))) >>= fun y25 =>
  if y25.1 = true then
  if 0 ≤ gi x6 (wr .i64 ((x6.length : Int) - 1)) then
  if gi x6 (wr .i64 ((x6.length : Int) - 1)) < (x0v.l.length : Int) then
  some (gi x0v.l (gi x6 (wr .i64 ((x6.length : Int) - 1)))) >>= fun v35 =>
  if v35.Op = 2 then
  some ((sl x6 0 (wr .i64 ((x6.length : Int) - 1))) ++ [v35.Y]) >>= fun v49 =>
  if (v49.length : Int) ≤ 1099511627776 then
  if ((v49 ++ [v35.X]).length : Int) ≤ 1099511627776 then
  M.sim_Runner_stand_2_l0 ((v49 ++ [v35.X]), y25.2, x0v)
  else none
  else none
  else
  if v35.Op = 4 then
  some ((sl x6 0 (wr .i64 ((x6.length : Int) - 1))) ++ [v35.X]) >>= fun v74 =>
  if (v74.length : Int) ≤ 1099511627776 then
  M.sim_Runner_stand_2_l0 (v74, y25.2, x0v)
  else none
  else
  M.sim_Runner_stand_2_l0 ((sl x6 0 (wr .i64 ((x6.length : Int) - 1))), y25.2, x0v)
  else none
  else none
  else
  M.sim_Runner_stand_2_l0 ((sl x6 0 (wr .i64 ((x6.length : Int) - 1))), y25.2, x0v)
  else none
  else none
  else none
  else
  some e2v
  partial_fixpoint
def M.sim_Runner_stand_2 (x0v : T50) (x2 : Int) : Option T65 :=
  M.sim_Runner_stand_2_l0 ([x2], x0v.next, x0v)
def M.sim_Runner_Feed_r (kq2v_0v : T50) (kq16b1v_0 : Int) (a0 : Int) : Option T65 :=
  M.sim_Runner_stand_2 kq2v_0v a0 >>= fun y13 =>
  some y13
mutual
def M.sim_Runner_led_1_l0 : Int × Int × T65 × T50 × Int → Option T65 := fun ⟨x14, x15, e4v, x0q2v_0v, x0q16b1v_0⟩ =>
  if x15 < x14 then
  if 0 ≤ x15 then
  if x15 < (x0q2v_0v.now.list.length : Int) then
  if 0 ≤ gi x0q2v_0v.now.list x15 then
  if gi x0q2v_0v.now.list x15 < (x0q2v_0v.l.length : Int) then
  if (gi x0q2v_0v.l (gi x0q2v_0v.now.list x15)).Op = 1 then
  M.syntax_Has ((gi x0q2v_0v.l (gi x0q2v_0v.now.list x15)).Set) x0q16b1v_0 >>= fun y33 =>
  if y33 = true then
  M.sim_Runner_Feed_r (⟨x0q2v_0v.l, x0q2v_0v.now, e4v⟩ : T50) x0q16b1v_0 ((gi x0q2v_0v.l (gi x0q2v_0v.now.list x15)).X) >>= fun y36 =>
  M.sim_Runner_led_1_l1 (x14, x15, false, y36, x0q2v_0v, x0q16b1v_0)
  else
  M.sim_Runner_led_1_l1 (x14, x15, false, e4v, x0q2v_0v, x0q16b1v_0)
  else
  M.sim_Runner_led_1_l1 (x14, x15, false, e4v, x0q2v_0v, x0q16b1v_0)
  else none
  else none
  else none
  else none
  else
  some e4v
  partial_fixpoint
def M.sim_Runner_led_1_l1 : Int × Int × Bool × T65 × T50 × Int → Option T65 := fun ⟨x14, x15, x41, e4v, x0q2v_0v, x0q16b1v_0⟩ =>
  if x41 = true then
  some e4v
  else
  M.sim_Runner_led_1_l0 (x14, wr .i64 (x15 + 1), e4v, x0q2v_0v, x0q16b1v_0)
  partial_fixpoint
end
def M.sim_Runner_led_1 (x0q2v_0v : T50) (x0q16b1v_0 : Int) : Option T65 :=
  M.sim_Runner_led_1_l0 ((x0q2v_0v.now.list.length : Int), 0, x0q2v_0v.next, x0q2v_0v, x0q16b1v_0)
def M.sim_Runner_Feed (x0v : T50) (x1 : Int) : Option (Bool × (List T45) × T65) :=
  M.sim_Runner_is x0v >>= fun y11 =>
  M.sim_state_clear x0v.next >>= fun y13 =>
  M.sim_Runner_led (⟨x0v.l, x0v.now, y13⟩ : T50) x1 >>= fun y17 =>
  M.sim_Runner_led_1 (⟨x0v.l, x0v.now, y13⟩ : T50) y17 >>= fun y26 =>
  M.sim_Runner_Dead (⟨x0v.l, y26, x0v.now⟩ : T50) >>= fun y30 =>
  some (!y30, x0v.l, y26)
def M.syntax_parser_peek_l0 : Bool × T78 → Option (Int × T78) := fun ⟨x19, e0v⟩ =>
  if x19 = true then
  some (0, e0v)
  else
  if 0 ≤ e0v.at_ then
  if e0v.at_ < (e0v.s.size : Int) then
  some (bt e0v.s e0v.at_, e0v)
  else none
  else none
def M.syntax_parser_peek (x0v : T78) : Option (Int × T78) :=
  some (x0v.bad) >>= fun v8 =>
  (match v8 with
  | none =>
  M.syntax_parser_peek_l0 (decide (x0v.at_ ≥ (x0v.s.size : Int)), (⟨x0v.s, x0v.at_, x0v.deep, none⟩ : T78))
  | some y3 =>
  M.syntax_parser_peek_l0 (true, (⟨x0v.s, x0v.at_, x0v.deep, (some y3)⟩ : T78)))
def M.syntax_parser_fail (x0v : T78) (x1 : Int) : Option (T57 × T78) :=
  some (x0v.bad) >>= fun v13 =>
  (match v13 with
  | none =>
  some ((⟨0, [0, 0, 0, 0], ([] : List T57), 0, 0⟩ : T57), (⟨x0v.s, x0v.at_, x0v.deep, (some (⟨x1⟩ : T82))⟩ : T78))
  | some y5 =>
  some ((⟨0, [0, 0, 0, 0], ([] : List T57), 0, 0⟩ : T57), (⟨x0v.s, x0v.at_, x0v.deep, (some y5)⟩ : T78)))
def M.syntax_parser_take_l0 : Bool × T78 → Option (Bool × T78) := fun ⟨x12, e0v⟩ =>
  if x12 = true then
  some (false, e0v)
  else
  some (true, (⟨e0v.s, wr .i64 (e0v.at_ + 1), e0v.deep, e0v.bad⟩ : T78))
def M.syntax_parser_take (x0v : T78) (x1 : Int) : Option (Bool × T78) :=
  if x1 = 0 then
  M.syntax_parser_take_l0 (true, x0v)
  else
  M.syntax_parser_peek x0v >>= fun y3 =>
  M.syntax_parser_take_l0 (!(decide (y3.1 = x1)), y3.2)
def M.syntax_one (x0 : Int) : Option (List Int) :=
  if 0 ≤ irem .u8 x0 64 then
  if 0 ≤ iquo .u8 x0 64 then
  if iquo .u8 x0 64 < 4 then
  some (si [0, 0, 0, 0] (iquo .u8 x0 64) (ishl .u64 1 (irem .u8 x0 64))) >>= fun v11 =>
  some v11
  else none
  else none
  else none
def M.syntax_not_l0 : (List Int) × (List Int) × Int → Option (List Int) := fun ⟨x1, x2v_0, x4⟩ =>
  if x4 < 4 then
  if 0 ≤ x4 then
  some (si x1 x4 (ixor .u64 18446744073709551615 (gi x1 x4))) >>= fun v13 =>
  M.syntax_not_l0 (v13, x2v_0, wr .i64 (x4 + 1))
  else none
  else
  some x1
  partial_fixpoint
def M.syntax_not (x0 : List Int) : Option (List Int) :=
  M.syntax_not_l0 (x0, [0, 0, 0, 0], 0)
def M.syntax_parser_items (x0v : T78) : Option Unit :=
  some ()
def M.syntax_span_l0 : Int × (List Int) × (List Int) × Int → Option (List Int) := fun ⟨x1, x4v_0, x5, x6⟩ =>
  if x6 ≤ wr .i64 x1 then
  if 0 ≤ iquo .i64 x6 64 then
  if iquo .i64 x6 64 < 4 then
  if 0 ≤ irem .i64 x6 64 then
  some (si x5 (iquo .i64 x6 64) (ior .u64 (gi x5 (iquo .i64 x6 64)) (ishl .u64 1 (irem .i64 x6 64)))) >>= fun v18 =>
  M.syntax_span_l0 (x1, x4v_0, v18, wr .i64 (x6 + 1))
  else none
  else none
  else none
  else
  some x5
  partial_fixpoint
def M.syntax_span (x0 : Int) (x1 : Int) : Option (List Int) :=
  M.syntax_span_l0 (x1, [0, 0, 0, 0], [0, 0, 0, 0], wr .i64 x0)
mutual
def M.syntax_join_l0 : (List Int) × (List Int) × (List (List Int)) × Int × Int → Option (List Int) := fun ⟨x2v_0, x3, x7, x8, x9⟩ =>
  if x9 < x8 then
  if 0 ≤ x9 then
  if x9 < (x7.length : Int) then
  M.syntax_join_l1 (x2v_0, x3, (gi x7 x9), x7, x8, x9, 0)
  else none
  else none
  else
  some x3
  partial_fixpoint
def M.syntax_join_l1 : (List Int) × (List Int) × (List Int) × (List (List Int)) × Int × Int × Int → Option (List Int) := fun ⟨x2v_0, x3, x5, x7, x8, x9, x13⟩ =>
  if x13 < 4 then
  if 0 ≤ x13 then
  some (si x3 x13 (ior .u64 (gi x3 x13) (gi x5 x13))) >>= fun v34 =>
  M.syntax_join_l1 (x2v_0, v34, x5, x7, x8, x9, wr .i64 (x13 + 1))
  else none
  else
  M.syntax_join_l0 (x2v_0, x3, x7, x8, wr .i64 (x9 + 1))
  partial_fixpoint
end
def M.syntax_join (x0 : List (List Int)) : Option (List Int) :=
  M.syntax_join_l0 ([0, 0, 0, 0], [0, 0, 0, 0], x0, (x0.length : Int), 0)
def M.syntax_class (x0 : Int) : Option ((List Int) × Bool) :=
  if ior .u8 x0 32 = 119 then
  M.syntax_span 97 122 >>= fun y6 =>
  M.syntax_span 65 90 >>= fun y8 =>
  M.syntax_one 95 >>= fun y10 =>
  M.syntax_join [[0, 0, 0, 0], y6, y8, y10] >>= fun y19 =>
  M.syntax_span 48 57 >>= fun y22 =>
  M.syntax_join [y19, y22] >>= fun y30 =>
  if iand .u8 x0 32 = 0 then
  M.syntax_not y30 >>= fun y33 =>
  some (y33, true)
  else
  some (y30, true)
  else
  if ior .u8 x0 32 = 100 then
  M.syntax_span 48 57 >>= fun y38 =>
  M.syntax_join [[0, 0, 0, 0], y38] >>= fun y45 =>
  if iand .u8 x0 32 = 0 then
  M.syntax_not y45 >>= fun y49 =>
  some (y49, true)
  else
  some (y45, true)
  else
  if ior .u8 x0 32 = 115 then
  M.syntax_span 9 10 >>= fun y54 =>
  M.syntax_span 12 13 >>= fun y56 =>
  M.syntax_one 32 >>= fun y58 =>
  M.syntax_join [y54, y56, y58] >>= fun y67 =>
  if iand .u8 x0 32 = 0 then
  M.syntax_not y67 >>= fun y71 =>
  some (y71, true)
  else
  some (y67, true)
  else
  some ([0, 0, 0, 0], false)
def M.syntax_lower (x0 : Int) : Option Int :=
  if x0 ≥ 65 then
  if x0 ≤ 70 then
  some (wr .u8 ((wr .u8 (x0 + 97)) - 65))
  else
  some x0
  else
  some x0
def M.stringslite_IndexByte (x0 : ByteArray) (x1 : Int) : Option Int :=
  some (ixB x0 x1)
def M.strings_IndexByte (x0 : ByteArray) (x1 : Int) : Option Int :=
  M.stringslite_IndexByte x0 x1 >>= fun y1 =>
  some y1
def M.syntax_nibble (x0 : Int) : Option Int :=
  M.syntax_lower x0 >>= fun y1 =>
  M.strings_IndexByte (⟨#[48, 49, 50, 51, 52, 53, 54, 55, 56, 57, 97, 98, 99, 100, 101, 102]⟩ : ByteArray) y1 >>= fun y3 =>
  some y3
def M.syntax_parser_digit (x0v : T78) : Option (Int × T78) :=
  M.syntax_parser_peek x0v >>= fun y2 =>
  M.syntax_nibble y2.1 >>= fun y4 =>
  if y4 < 0 then
  M.syntax_parser_fail y2.2 y2.2.at_ >>= fun y7 =>
  some (0, y7.2)
  else
  some (wr .u8 y4, (⟨y2.2.s, wr .i64 (y2.2.at_ + 1), y2.2.deep, y2.2.bad⟩ : T78))
def M.syntax_of (x0 : Int) : Option T142 :=
  M.syntax_one x0 >>= fun y3 =>
  some (⟨y3, x0, true⟩ : T142)
def M.syntax_parser_escape_l0 : T142 × Int × Bool × T78 → Option (T142 × T78) := fun ⟨x2v, x3, x66, e0v⟩ =>
  if x66 = true then
  M.syntax_parser_fail e0v e0v.at_ >>= fun y31 =>
  some ((⟨[0, 0, 0, 0], 0, false⟩ : T142), y31.2)
  else
  M.syntax_of x3 >>= fun y33 =>
  some (y33, (⟨e0v.s, wr .i64 (e0v.at_ + 1), e0v.deep, e0v.bad⟩ : T78))
def M.syntax_parser_escape (x0v : T78) : Option (T142 × T78) :=
  M.syntax_parser_peek x0v >>= fun y4 =>
  M.syntax_class y4.1 >>= fun y6 =>
  if y6.2 = true then
  some ((⟨y6.1, 0, false⟩ : T142), (⟨y4.2.s, wr .i64 (y4.2.at_ + 1), y4.2.deep, y4.2.bad⟩ : T78))
  else
  if y4.1 = 120 then
  M.syntax_parser_digit (⟨y4.2.s, wr .i64 (y4.2.at_ + 1), y4.2.deep, y4.2.bad⟩ : T78) >>= fun y14 =>
  M.syntax_parser_digit y14.2 >>= fun y16 =>
  M.syntax_of (ior .u8 (ishl .u8 y14.1 4) y16.1) >>= fun y18 =>
  some (y18, y16.2)
  else
  if y4.1 = 110 then
  M.syntax_of 10 >>= fun y21 =>
  some (y21, (⟨y4.2.s, wr .i64 (y4.2.at_ + 1), y4.2.deep, y4.2.bad⟩ : T78))
  else
  if y4.1 = 116 then
  M.syntax_of 9 >>= fun y24 =>
  some (y24, (⟨y4.2.s, wr .i64 (y4.2.at_ + 1), y4.2.deep, y4.2.bad⟩ : T78))
  else
  if y4.1 = 0 then
  M.syntax_parser_escape_l0 ((⟨[0, 0, 0, 0], 0, false⟩ : T142), y4.1, true, y4.2)
  else
  M.strings_IndexByte (⟨#[92, 46, 91, 93, 40, 41, 42, 43, 63, 123, 125, 94, 36, 45, 47, 124]⟩ : ByteArray) y4.1 >>= fun y28 =>
  M.syntax_parser_escape_l0 ((⟨[0, 0, 0, 0], 0, false⟩ : T142), y4.1, decide (y28 < 0), y4.2)
def M.syntax_parser_item_l0 : T142 × Int × Bool × T78 → Option (T142 × T78) := fun ⟨x2v, x3, x11, e0v⟩ =>
  if x11 = true then
  M.syntax_parser_fail e0v e0v.at_ >>= fun y17 =>
  some ((⟨[0, 0, 0, 0], 0, false⟩ : T142), y17.2)
  else
  M.syntax_of x3 >>= fun y19 =>
  some (y19, (⟨e0v.s, wr .i64 (e0v.at_ + 1), e0v.deep, e0v.bad⟩ : T78))
def M.syntax_parser_item (x0v : T78) : Option (T142 × T78) :=
  M.syntax_parser_peek x0v >>= fun y4 =>
  M.syntax_parser_take y4.2 92 >>= fun y6 =>
  if y6.1 = true then
  M.syntax_parser_escape y6.2 >>= fun y9 =>
  some (y9.1, y9.2)
  else
  if y4.1 < 32 then
  M.syntax_parser_item_l0 ((⟨[0, 0, 0, 0], 0, false⟩ : T142), y4.1, true, y6.2)
  else
  if y4.1 > 126 then
  M.syntax_parser_item_l0 ((⟨[0, 0, 0, 0], 0, false⟩ : T142), y4.1, true, y6.2)
  else
  M.strings_IndexByte (⟨#[93, 91, 45]⟩ : ByteArray) y4.1 >>= fun y14 =>
  M.syntax_parser_item_l0 ((⟨[0, 0, 0, 0], 0, false⟩ : T142), y4.1, decide (y14 ≥ 0), y6.2)
def M.syntax_parser_pair_l0 : (List Int) × Int × T142 × Int × T142 × Bool × T78 → Option ((List Int) × T78) := fun ⟨x2v_0, x3, x4v, x5, x6v, x47, e0v⟩ =>
  if x47 = true then
  some (x4v.set_, e0v)
  else
  if x6v.single = true then
  if x4v.b > x6v.b then
  M.syntax_parser_fail e0v x3 >>= fun y31 =>
  some (x4v.set_, y31.2)
  else
  M.syntax_span x4v.b x6v.b >>= fun y33 =>
  some (y33, e0v)
  else
  M.syntax_parser_fail e0v (wr .i64 (x5 + 1)) >>= fun y36 =>
  some (x4v.set_, y36.2)
def M.syntax_parser_pair (x0v : T78) : Option ((List Int) × T78) :=
  M.syntax_parser_item x0v >>= fun y4 =>
  M.syntax_parser_peek y4.2 >>= fun y8 =>
  if y8.1 = 45 then
  if y4.1.single = true then
  M.syntax_parser_item (⟨y8.2.s, wr .i64 (y8.2.at_ + 1), y8.2.deep, y8.2.bad⟩ : T78) >>= fun y12 =>
  some (y12.2.bad) >>= fun v25 =>
  (match v25 with
  | none =>
  M.syntax_parser_pair_l0 ([0, 0, 0, 0], x0v.at_, (⟨y4.1.set_, y4.1.b, true⟩ : T142), wr .i64 (y8.2.at_ + 1), y12.1, false, (⟨y12.2.s, y12.2.at_, y12.2.deep, none⟩ : T78))
  | some y17 =>
  M.syntax_parser_pair_l0 ([0, 0, 0, 0], x0v.at_, (⟨y4.1.set_, y4.1.b, true⟩ : T142), wr .i64 (y8.2.at_ + 1), y12.1, true, (⟨y12.2.s, y12.2.at_, y12.2.deep, (some y17)⟩ : T78)))
  else
  M.syntax_parser_fail y8.2 y8.2.at_ >>= fun y26 =>
  some (y4.1.set_, y26.2)
  else
  some (y4.1.set_, y8.2)
def M.syntax_parser_class_r_2 (kq2v : T57) (kq3 : Bool) (kq4 : List Int) (kq9b0v_0v : T78) (a0 : List Int) : Option (List Int) :=
  M.syntax_join [kq4, a0] >>= fun y16 =>
  some y16
mutual
def M.syntax_parser_items_1_l0 : Bool × (List Int) × T78 × T57 × Bool → Option ((List Int) × T78) := fun ⟨x3, e2, e4v, x0q2v, x0q3⟩ =>
  some (e4v.bad) >>= fun v17 =>
  (match v17 with
  | none =>
  if x3 = true then
  M.syntax_parser_items_1_l1 (true, e2, (⟨e4v.s, e4v.at_, e4v.deep, none⟩ : T78), x0q2v, x0q3)
  else
  M.syntax_parser_take (⟨e4v.s, e4v.at_, e4v.deep, none⟩ : T78) 93 >>= fun y15 =>
  M.syntax_parser_items_1_l1 (!y15.1, e2, y15.2, x0q2v, x0q3)
  | some y9 =>
  M.syntax_parser_items_1_l1 (false, e2, (⟨e4v.s, e4v.at_, e4v.deep, (some y9)⟩ : T78), x0q2v, x0q3))
  partial_fixpoint
def M.syntax_parser_items_1_l1 : Bool × (List Int) × T78 × T57 × Bool → Option ((List Int) × T78) := fun ⟨x16, e2, e4v, x0q2v, x0q3⟩ =>
  if x16 = true then
  M.syntax_parser_pair e4v >>= fun y19 =>
  M.syntax_parser_class_r_2 x0q2v x0q3 e2 y19.2 y19.1 >>= fun y21 =>
  M.syntax_parser_items_1_l0 (false, y21, y19.2, x0q2v, x0q3)
  else
  some (e2, e4v)
  partial_fixpoint
end
def M.syntax_parser_items_1 (x0q2v : T57) (x0q3 : Bool) (x0q4v_0 : List Int) (x0q9b0v_0v : T78) : Option ((List Int) × T78) :=
  M.syntax_parser_items_1_l0 (true, x0q4v_0, x0q9b0v_0v, x0q2v, x0q3)
def M.syntax_parser_class (x0v : T78) : Option (T57 × T78) :=
  M.syntax_parser_take x0v 94 >>= fun y4 =>
  M.syntax_parser_items y4.2 >>= fun y8 =>
  M.syntax_parser_items_1 (⟨0, [0, 0, 0, 0], ([] : List T57), 0, 0⟩ : T57) y4.1 [0, 0, 0, 0] y4.2 >>= fun y17 =>
  if y4.1 = true then
  M.syntax_not y17.1 >>= fun y20 =>
  some ((⟨1, y20, ([] : List T57), 0, 0⟩ : T57), y17.2)
  else
  some ((⟨1, y17.1, ([] : List T57), 0, 0⟩ : T57), y17.2)
def M.syntax_parser_need (x0v : T78) (x1 : Int) : Option T78 :=
  M.syntax_parser_take x0v x1 >>= fun y2 =>
  if y2.1 = true then
  some y2.2
  else
  M.syntax_parser_fail y2.2 y2.2.at_ >>= fun y5 =>
  some y5.2
def M.syntax_parser_number_1 (x0v_0v : T78) : Option (Bool × T78) :=
  M.syntax_parser_peek x0v_0v >>= fun y3 =>
  if y3.1 ≥ 48 then
  M.syntax_parser_peek y3.2 >>= fun y6 =>
  some (decide (y6.1 ≤ 57), y6.2)
  else
  some (false, y3.2)
def M.syntax_parser_number_l0 : Int × Bool × T78 → Option (Int × T78) := fun ⟨x4, x25, e0v⟩ =>
  if x25 = true then
  M.syntax_parser_peek e0v >>= fun y14 =>
  some (wr .i64 ((wr .i64 (10 * x4)) + (wr .i64 (wr .u8 (y14.1 - 48)))), (⟨y14.2.s, wr .i64 (y14.2.at_ + 1), y14.2.deep, y14.2.bad⟩ : T78))
  else
  some (x4, e0v)
def M.syntax_parser_number (x0v : T78) : Option (Int × T78) :=
  M.syntax_parser_number_1 x0v >>= fun y4 =>
  if y4.1 = true then
  M.syntax_parser_peek y4.2 >>= fun y7 =>
  if wr .i64 (wr .u8 (y7.1 - 48)) > 0 then
  M.syntax_parser_number_1 (⟨y7.2.s, wr .i64 (y7.2.at_ + 1), y7.2.deep, y7.2.bad⟩ : T78) >>= fun y10 =>
  M.syntax_parser_number_l0 (wr .i64 (wr .u8 (y7.1 - 48)), y10.1, y10.2)
  else
  M.syntax_parser_number_l0 (wr .i64 (wr .u8 (y7.1 - 48)), false, (⟨y7.2.s, wr .i64 (y7.2.at_ + 1), y7.2.deep, y7.2.bad⟩ : T78))
  else
  some ((-1), y4.2)
def M.syntax_parser_counted_l1 : Int × Int × Int × T78 → Option (Int × Int × T78) := fun ⟨x1, x6, x7, e0v⟩ =>
  M.syntax_parser_need e0v 125 >>= fun y12 =>
  if x6 > 64 then
  M.syntax_parser_fail y12 x1 >>= fun y15 =>
  some (x6, x7, y15.2)
  else
  if x7 > 64 then
  M.syntax_parser_fail y12 x1 >>= fun y18 =>
  some (x6, x7, y18.2)
  else
  if x7 ≥ 0 then
  if x6 > x7 then
  M.syntax_parser_fail y12 x1 >>= fun y22 =>
  some (x6, x7, y22.2)
  else
  some (x6, x7, y12)
  else
  some (x6, x7, y12)
def M.syntax_parser_counted_l0 : Int × Int × T78 → Option (Int × Int × T78) := fun ⟨x1, x6, e0v⟩ =>
  M.syntax_parser_take e0v 44 >>= fun y7 =>
  if y7.1 = true then
  M.syntax_parser_number y7.2 >>= fun y10 =>
  M.syntax_parser_counted_l1 (x1, x6, y10.1, y10.2)
  else
  M.syntax_parser_counted_l1 (x1, x6, x6, y7.2)
def M.syntax_parser_counted (x0v : T78) (x1 : Int) : Option (Int × Int × T78) :=
  M.syntax_parser_number x0v >>= fun y2 =>
  if y2.1 < 0 then
  M.syntax_parser_fail y2.2 y2.2.at_ >>= fun y5 =>
  M.syntax_parser_counted_l0 (x1, y2.1, y5.2)
  else
  M.syntax_parser_counted_l0 (x1, y2.1, y2.2)
def M.syntax_several (x0 : Int) (x1 : List T57) : Option T57 :=
  if (x1.length : Int) = 1 then
  if 0 < (x1.length : Int) then
  some (⟨(gi x1 0).Kind, ((gi x1 0).Set), (gi x1 0).L, (gi x1 0).Min, (gi x1 0).Max⟩ : T57)
  else none
  else
  some (⟨x0, [0, 0, 0, 0], x1, 0, 0⟩ : T57)
mutual
def M.syntax_parser_alternation : T78 → Option (T57 × T78) := fun x0v =>
  M.syntax_parser_sequence x0v >>= fun y4 =>
  M.syntax_parser_alternation_l0 ((⟨0, [0, 0, 0, 0], ([] : List T57), 0, 0⟩ : T57), [y4.1], y4.2)
  partial_fixpoint
def M.syntax_parser_sequence : T78 → Option (T57 × T78) := fun x0v =>
  M.syntax_parser_sequence_l0 ((⟨0, [0, 0, 0, 0], ([] : List T57), 0, 0⟩ : T57), ([] : List T57), x0v)
  partial_fixpoint
def M.syntax_parser_sequence_l0 : T57 × (List T57) × T78 → Option (T57 × T78) := fun ⟨x2v, x3, e0v⟩ =>
  some (e0v.bad) >>= fun v24 =>
  (match v24 with
  | none =>
  if e0v.at_ < (e0v.s.size : Int) then
  M.syntax_parser_peek (⟨e0v.s, e0v.at_, e0v.deep, none⟩ : T78) >>= fun y16 =>
  if y16.1 = 124 then
  M.syntax_parser_sequence_l1 (x2v, x3, false, y16.2)
  else
  M.syntax_parser_peek y16.2 >>= fun y22 =>
  M.syntax_parser_sequence_l1 (x2v, x3, !(decide (y22.1 = 41)), y22.2)
  else
  M.syntax_parser_sequence_l1 (x2v, x3, false, (⟨e0v.s, e0v.at_, e0v.deep, none⟩ : T78))
  | some y10 =>
  M.syntax_parser_sequence_l1 (x2v, x3, false, (⟨e0v.s, e0v.at_, e0v.deep, (some y10)⟩ : T78)))
  partial_fixpoint
def M.syntax_parser_sequence_l1 : T57 × (List T57) × Bool × T78 → Option (T57 × T78) := fun ⟨x2v, x3, x30, e0v⟩ =>
  if x30 = true then
  M.syntax_parser_piece e0v >>= fun y26 =>
  if ((x3 ++ [y26.1]).length : Int) ≤ 1099511627776 then
  M.syntax_parser_sequence_l0 (x2v, (x3 ++ [y26.1]), y26.2)
  else none
  else
  M.syntax_several 2 x3 >>= fun y40 =>
  some (y40, e0v)
  partial_fixpoint
def M.syntax_parser_piece : T78 → Option (T57 × T78) := fun x0v =>
  M.syntax_parser_atom x0v >>= fun y4 =>
  M.syntax_parser_take y4.2 42 >>= fun y8 =>
  if y8.1 = true then
  some ((⟨4, [0, 0, 0, 0], [y4.1], 0, (-1)⟩ : T57), y8.2)
  else
  M.syntax_parser_take y8.2 43 >>= fun y15 =>
  if y15.1 = true then
  some ((⟨4, [0, 0, 0, 0], [y4.1], 1, (-1)⟩ : T57), y15.2)
  else
  M.syntax_parser_take y15.2 63 >>= fun y22 =>
  if y22.1 = true then
  some ((⟨4, [0, 0, 0, 0], [y4.1], 0, 1⟩ : T57), y22.2)
  else
  M.syntax_parser_take y22.2 123 >>= fun y29 =>
  if y29.1 = true then
  M.syntax_parser_counted y29.2 y4.2.at_ >>= fun y32 =>
  some ((⟨4, [0, 0, 0, 0], [y4.1], y32.1, y32.2.1⟩ : T57), y32.2.2)
  else
  some (y4.1, y29.2)
  partial_fixpoint
def M.syntax_parser_atom : T78 → Option (T57 × T78) := fun x0v =>
  M.syntax_parser_peek x0v >>= fun y4 =>
  if y4.1 < 32 then
  M.syntax_parser_atom_l0 ((⟨0, [0, 0, 0, 0], ([] : List T57), 0, 0⟩ : T57), y4.1, true, y4.2)
  else
  if y4.1 > 126 then
  M.syntax_parser_atom_l0 ((⟨0, [0, 0, 0, 0], ([] : List T57), 0, 0⟩ : T57), y4.1, true, y4.2)
  else
  M.strings_IndexByte (⟨#[93, 41, 42, 43, 63, 123, 125, 94, 36, 124]⟩ : ByteArray) y4.1 >>= fun y12 =>
  M.syntax_parser_atom_l0 ((⟨0, [0, 0, 0, 0], ([] : List T57), 0, 0⟩ : T57), y4.1, decide (y12 ≥ 0), y4.2)
  partial_fixpoint
def M.syntax_parser_atom_l0 : T57 × Int × Bool × T78 → Option (T57 × T78) := fun ⟨x2v, x3, x6, e0v⟩ =>
  if x6 = true then
  M.syntax_parser_fail e0v e0v.at_ >>= fun y16 =>
  some (y16.1, y16.2)
  else
  if x3 = 40 then
  M.syntax_parser_atom_l1 (x2v, x3, decide (e0v.deep = 32), e0v)
  else
  M.syntax_parser_atom_l1 (x2v, x3, false, e0v)
  partial_fixpoint
def M.syntax_parser_atom_l1 : T57 × Int × Bool × T78 → Option (T57 × T78) := fun ⟨x2v, x3, x24, e0v⟩ =>
  if x24 = true then
  M.syntax_parser_fail e0v e0v.at_ >>= fun y22 =>
  some (y22.1, y22.2)
  else
  M.syntax_parser_take e0v 46 >>= fun y24 =>
  if y24.1 = true then
  M.syntax_one 10 >>= fun y27 =>
  M.syntax_not y27 >>= fun y29 =>
  some ((⟨1, y29, ([] : List T57), 0, 0⟩ : T57), y24.2)
  else
  M.syntax_parser_take y24.2 91 >>= fun y32 =>
  if y32.1 = true then
  M.syntax_parser_class y32.2 >>= fun y35 =>
  some (y35.1, y35.2)
  else
  M.syntax_parser_take y32.2 40 >>= fun y37 =>
  if y37.1 = true then
  M.syntax_parser_group y37.2 >>= fun y40 =>
  some (y40.1, y40.2)
  else
  M.syntax_parser_take y37.2 92 >>= fun y42 =>
  if y42.1 = true then
  M.syntax_parser_escape y42.2 >>= fun y45 =>
  some ((⟨1, y45.1.set_, ([] : List T57), 0, 0⟩ : T57), y45.2)
  else
  M.syntax_one x3 >>= fun y47 =>
  some ((⟨1, y47, ([] : List T57), 0, 0⟩ : T57), (⟨y42.2.s, wr .i64 (y42.2.at_ + 1), y42.2.deep, y42.2.bad⟩ : T78))
  partial_fixpoint
def M.syntax_parser_group : T78 → Option (T57 × T78) := fun x0v =>
  M.syntax_parser_take x0v 63 >>= fun y4 =>
  if y4.1 = true then
  M.syntax_parser_need y4.2 58 >>= fun y7 =>
  M.syntax_parser_group_l0 ((⟨0, [0, 0, 0, 0], ([] : List T57), 0, 0⟩ : T57), y7)
  else
  M.syntax_parser_group_l0 ((⟨0, [0, 0, 0, 0], ([] : List T57), 0, 0⟩ : T57), y4.2)
  partial_fixpoint
def M.syntax_parser_group_l0 : T57 × T78 → Option (T57 × T78) := fun ⟨x2v, e0v⟩ =>
  M.syntax_parser_alternation (⟨e0v.s, e0v.at_, wr .i64 (e0v.deep + 1), e0v.bad⟩ : T78) >>= fun y13 =>
  M.syntax_parser_need (⟨y13.2.s, y13.2.at_, wr .i64 (y13.2.deep - 1), y13.2.bad⟩ : T78) 41 >>= fun y17 =>
  some (y13.1, y17)
  partial_fixpoint
def M.syntax_parser_alternation_l0 : T57 × (List T57) × T78 → Option (T57 × T78) := fun ⟨x2v, x3, e0v⟩ =>
  M.syntax_parser_take e0v 124 >>= fun y13 =>
  if y13.1 = true then
  M.syntax_parser_sequence y13.2 >>= fun y16 =>
  if ((x3 ++ [y16.1]).length : Int) ≤ 1099511627776 then
  M.syntax_parser_alternation_l0 (x2v, (x3 ++ [y16.1]), y16.2)
  else none
  else
  M.syntax_several 3 x3 >>= fun y30 =>
  some (y30, y13.2)
  partial_fixpoint
end
def M.syntax_Parse_l2 : T57 × T78 × T57 × Bool → Option (T57 × Int × Int) := fun ⟨x2v, x5v, x6v, x40⟩ =>
  if x40 = true then
  some (x5v.bad) >>= fun v48 =>
  (match v48 with
  | none =>
  none
  | some y43 =>
  some ((⟨0, [0, 0, 0, 0], ([] : List T57), 0, 0⟩ : T57), y43.at_, 100))
  else
  some (x6v, 0, 0)
def M.syntax_Parse_l1 : T57 × T78 × T57 → Option (T57 × Int × Int) := fun ⟨x2v, x5v, x6v⟩ =>
  some (x5v.bad) >>= fun v40 =>
  (match v40 with
  | none =>
  M.syntax_Parse_l2 (x2v, (⟨x5v.s, x5v.at_, x5v.deep, none⟩ : T78), x6v, false)
  | some y31 =>
  M.syntax_Parse_l2 (x2v, (⟨x5v.s, x5v.at_, x5v.deep, (some y31)⟩ : T78), x6v, true))
def M.syntax_Parse_l0 : T57 × T78 × T57 × Bool → Option (T57 × Int × Int) := fun ⟨x2v, x5v, x6v, x29⟩ =>
  if x29 = true then
  M.syntax_parser_fail x5v x5v.at_ >>= fun y24 =>
  M.syntax_Parse_l1 (x2v, y24.2, x6v)
  else
  M.syntax_Parse_l1 (x2v, x5v, x6v)
def M.syntax_Parse (x0 : ByteArray) : Option (T57 × Int × Int) :=
  if (x0.size : Int) > 256 then
  some ((⟨0, [0, 0, 0, 0], ([] : List T57), 0, 0⟩ : T57), 0, 3)
  else
  M.syntax_parser_alternation (⟨x0, 0, 0, none⟩ : T78) >>= fun y6 =>
  some (y6.2.bad) >>= fun v22 =>
  (match v22 with
  | none =>
  M.syntax_Parse_l0 ((⟨0, [0, 0, 0, 0], ([] : List T57), 0, 0⟩ : T57), (⟨y6.2.s, y6.2.at_, y6.2.deep, none⟩ : T78), y6.1, decide (y6.2.at_ < (x0.size : Int)))
  | some y11 =>
  M.syntax_Parse_l0 ((⟨0, [0, 0, 0, 0], ([] : List T57), 0, 0⟩ : T57), (⟨y6.2.s, y6.2.at_, y6.2.deep, (some y11)⟩ : T78), y6.1, false))
mutual
def M.syntax_count : T57 × Int × Int → Option (Bool × Int) := fun ⟨x0, x1, x2v_0⟩ =>
  if x1 = 0 then
  M.syntax_count_l0 (x1, x0, true, wr .i64 (x2v_0 + 1))
  else
  M.syntax_count_l0 (x1, x0, decide (wr .i64 (x2v_0 + 1) > 4096), wr .i64 (x2v_0 + 1))
  partial_fixpoint
def M.syntax_count_l0 : Int × T57 × Bool × Int → Option (Bool × Int) := fun ⟨x1, x3v, x21, e0v_0⟩ =>
  if x21 = true then
  some (false, e0v_0)
  else
  M.syntax_count_l1 (x1, x3v.L, (x3v.L.length : Int), 0, e0v_0)
  partial_fixpoint
def M.syntax_count_l1 : Int × (List T57) × Int × Int × Int → Option (Bool × Int) := fun ⟨x1, x23, x24, x25, e0v_0⟩ =>
  if x25 < x24 then
  if 0 ≤ x25 then
  if x25 < (x23.length : Int) then
  M.syntax_count ((⟨(gi x23 x25).Kind, ((gi x23 x25).Set), (gi x23 x25).L, (gi x23 x25).Min, (gi x23 x25).Max⟩ : T57), wr .i64 (x1 - 1), e0v_0) >>= fun y21 =>
  if y21.1 = true then
  M.syntax_count_l1 (x1, x23, x24, wr .i64 (x25 + 1), y21.2)
  else
  some (false, y21.2)
  else none
  else none
  else
  some (true, e0v_0)
  partial_fixpoint
end
def M.syntax_shaped_l3 : T57 × (List Int) × Bool × Bool → Option Bool := fun ⟨x1v, x3v_0, x5, x6⟩ =>
  if (x1v.L.length : Int) = 1 then
  if x1v.Set = x3v_0 then
  if x5 = true then
  some x6
  else
  some false
  else
  some false
  else
  some false
def M.syntax_shaped_l2 : T57 × (List Int) × Bool → Option Bool := fun ⟨x1v, x3v_0, x5⟩ =>
  if x1v.Max = (-1) then
  M.syntax_shaped_l3 (x1v, x3v_0, x5, true)
  else
  if x1v.Max ≥ x1v.Min then
  M.syntax_shaped_l3 (x1v, x3v_0, x5, decide (x1v.Max ≤ 64))
  else
  M.syntax_shaped_l3 (x1v, x3v_0, x5, false)
def M.syntax_shaped_l1 : T57 × (List Int) × Bool × Int × Bool → Option Bool := fun ⟨x1v, x3v_0, x4, x16, x26⟩ =>
  if x26 = true then
  if x1v.Set = x3v_0 then
  some x4
  else
  some false
  else
  if x16 = 4 then
  if x1v.Min ≥ 0 then
  M.syntax_shaped_l2 (x1v, x3v_0, decide (x1v.Min ≤ 64))
  else
  M.syntax_shaped_l2 (x1v, x3v_0, false)
  else
  some false
def M.syntax_shaped_l0 : T57 × (List Int) × Bool → Option Bool := fun ⟨x1v, x3v_0, x4⟩ =>
  if x1v.Kind = 1 then
  if (x1v.L.length : Int) = 0 then
  some x4
  else
  some false
  else
  if x1v.Kind = 2 then
  M.syntax_shaped_l1 (x1v, x3v_0, x4, x1v.Kind, true)
  else
  M.syntax_shaped_l1 (x1v, x3v_0, x4, x1v.Kind, decide (x1v.Kind = 3))
def M.syntax_shaped (x0 : T57) : Option Bool :=
  if x0.Min = 0 then
  M.syntax_shaped_l0 (x0, [0, 0, 0, 0], decide (x0.Max = 0))
  else
  M.syntax_shaped_l0 (x0, [0, 0, 0, 0], false)
mutual
def M.syntax_right : T57 → Option Bool := fun x0 =>
  M.syntax_right_l0 (x0, x0.L, (x0.L.length : Int), 0)
  partial_fixpoint
def M.syntax_right_l0 : T57 × (List T57) × Int × Int → Option Bool := fun ⟨x1v, x6, x7, x8⟩ =>
  if x8 < x7 then
  if 0 ≤ x8 then
  if x8 < (x6.length : Int) then
  M.syntax_right (⟨(gi x6 x8).Kind, ((gi x6 x8).Set), (gi x6 x8).L, (gi x6 x8).Min, (gi x6 x8).Max⟩ : T57) >>= fun y18 =>
  if y18 = true then
  M.syntax_right_l0 (x1v, x6, x7, wr .i64 (x8 + 1))
  else
  some false
  else none
  else none
  else
  M.syntax_shaped x1v >>= fun y21 =>
  some y21
  partial_fixpoint
end
def M.syntax_Size (x0 : T57) : Option Int :=
  M.syntax_count (x0, 128, 0) >>= fun y5 =>
  if y5.1 = true then
  M.syntax_right x0 >>= fun y8 =>
  if y8 = true then
  some y5.2
  else
  some 0
  else
  some 0
def M.syntax_Check (x0 : T57) : Option Bool :=
  M.syntax_Size x0 >>= fun y3 =>
  some (decide (y3 > 0))
mutual
def M.prog_size : T57 → Option Int := fun x0 =>
  if x0.Kind = 3 then
  M.prog_size_l0 (imx 0 (wr .i64 ((x0.L.length : Int) - 1)), x0.L, (x0.L.length : Int), 0)
  else
  if x0.Kind = 2 then
  M.prog_size_l0 (0, x0.L, (x0.L.length : Int), 0)
  else
  if x0.Kind = 4 then
  if 0 < (x0.L.length : Int) then
  M.prog_size (⟨(gi x0.L 0).Kind, ((gi x0.L 0).Set), (gi x0.L 0).L, (gi x0.L 0).Min, (gi x0.L 0).Max⟩ : T57) >>= fun y16 =>
  if x0.Max < 0 then
  some (imn 1048576 (imx 1 (wr .i64 ((wr .i64 (x0.Min * y16)) + (wr .i64 (y16 + 1))))))
  else
  some (imn 1048576 (imx 1 (wr .i64 ((wr .i64 (x0.Min * y16)) + (wr .i64 ((wr .i64 (x0.Max - x0.Min)) * (wr .i64 (y16 + 1))))))))
  else none
  else
  some 1
  partial_fixpoint
def M.prog_size_l0 : Int × (List T57) × Int × Int → Option Int := fun ⟨x3, x21, x22, x23⟩ =>
  if x23 < x22 then
  if 0 ≤ x23 then
  if x23 < (x21.length : Int) then
  M.prog_size (⟨(gi x21 x23).Kind, ((gi x21 x23).Set), (gi x21 x23).L, (gi x21 x23).Min, (gi x21 x23).Max⟩ : T57) >>= fun y33 =>
  M.prog_size_l0 (imn 1048576 (wr .i64 (x3 + y33)), x21, x22, wr .i64 (x23 + 1))
  else none
  else none
  else
  some (imn 1048576 (imx 1 x3))
  partial_fixpoint
end
def M.prog_Count (x0 : T57) : Option (Int × Int) :=
  M.syntax_Check x0 >>= fun y3 =>
  if y3 = true then
  M.prog_size x0 >>= fun y6 =>
  some (imn 1048576 (wr .i64 (y6 + 1)), 0)
  else
  some (0, 2)
def M.prog_writer_put (x0v_0 : List T45) (x1 : T45) : Option (Int × (List T45)) :=
  if ((x0v_0 ++ [x1]).length : Int) ≤ 1099511627776 then
  some (wr .i64 (((x0v_0 ++ [x1]).length : Int) - 1), (x0v_0 ++ [x1]))
  else none
def M.prog_writer_of (x0v_0 : List T45) (x1 : T57) : Option T108 :=
  M.prog_size x1 >>= fun y9 =>
  some (⟨y9, ((Sum.inl x1) : T57 ⊕ T57 ⊕ (Int × T57))⟩ : T108)
def M.prog_writer_loop (x0v_0 : List T45) (x1 : T57) : Option T108 :=
  M.prog_size x1 >>= fun y9 =>
  some (⟨wr .i64 (y9 + 1), ((Sum.inr (Sum.inl x1)) : T57 ⊕ T57 ⊕ (Int × T57))⟩ : T108)
def M.prog_writer_perhaps (x0v_0 : List T45) (x1 : T57) (x2 : Int) : Option T108 :=
  M.prog_size x1 >>= fun y11 =>
  some (⟨wr .i64 (y11 + 1), ((Sum.inr (Sum.inr (x2, x1))) : T57 ⊕ T57 ⊕ (Int × T57))⟩ : T108)
def M.prog_writer_times_l3 : Int × (List T108) × T57 × Int × Int × (List T45) → Option (List T108) := fun ⟨x2, x7, x8v, x37, x38, x0v_0⟩ =>
  if x38 < x37 then
  M.prog_writer_perhaps x0v_0 x8v x2 >>= fun y100 =>
  if ((x7 ++ [y100]).length : Int) ≤ 1099511627776 then
  M.prog_writer_times_l3 (x2, (x7 ++ [y100]), x8v, x37, wr .i64 (x38 + 1), x0v_0)
  else none
  else
  some x7
  partial_fixpoint
def M.prog_writer_times_l1 : Int × T57 × (List T108) × T57 × Int × Int × (List T45) → Option (List T108) := fun ⟨x2, x4v, x7, x8v, x14, x15, x0v_0⟩ =>
  if x15 < x14 then
  M.prog_writer_of x0v_0 x8v >>= fun y54 =>
  if ((x7 ++ [y54]).length : Int) ≤ 1099511627776 then
  M.prog_writer_times_l1 (x2, x4v, (x7 ++ [y54]), x8v, x14, wr .i64 (x15 + 1), x0v_0)
  else none
  else
  if x4v.Max < 0 then
  M.prog_writer_loop x0v_0 x8v >>= fun y68 =>
  if ((x7 ++ [y68]).length : Int) ≤ 1099511627776 then
  some (x7 ++ [y68])
  else none
  else
  M.prog_writer_times_l3 (x2, x7, x8v, wr .i64 (x4v.Max - x4v.Min), 0, x0v_0)
  partial_fixpoint
def M.prog_writer_times_l2 : Int × T57 × Int × Int × (List T45) → Option (List T108) := fun ⟨x2, x8v, x37, x38, x0v_0⟩ =>
  if x38 < x37 then
  M.prog_writer_perhaps x0v_0 x8v x2 >>= fun y84 =>
  if ([y84].length : Int) ≤ 1099511627776 then
  M.prog_writer_times_l3 (x2, [y84], x8v, x37, wr .i64 (x38 + 1), x0v_0)
  else none
  else
  some ([] : List T108)
def M.prog_writer_times_l0 : Int × T57 × T57 × Int × Int × (List T45) → Option (List T108) := fun ⟨x2, x4v, x8v, x14, x15, x0v_0⟩ =>
  if x15 < x14 then
  M.prog_writer_of x0v_0 x8v >>= fun y20 =>
  if ([y20].length : Int) ≤ 1099511627776 then
  M.prog_writer_times_l1 (x2, x4v, [y20], x8v, x14, wr .i64 (x15 + 1), x0v_0)
  else none
  else
  if x4v.Max < 0 then
  M.prog_writer_loop x0v_0 x8v >>= fun y38 =>
  if ([y38].length : Int) ≤ 1099511627776 then
  some [y38]
  else none
  else
  M.prog_writer_times_l2 (x2, x8v, wr .i64 (x4v.Max - x4v.Min), 0, x0v_0)
def M.prog_writer_times (x0v_0 : List T45) (x1 : T57) (x2 : Int) : Option (List T108) :=
  if 0 < (x1.L.length : Int) then
  M.prog_writer_times_l0 (x2, x1, (⟨(gi x1.L 0).Kind, ((gi x1.L 0).Set), (gi x1.L 0).L, (gi x1.L 0).Min, (gi x1.L 0).Max⟩ : T57), x1.Min, 0, x0v_0)
  else none
mutual
def M.prog_writer_code : (List T45) × T57 × Int → Option (List T45) := fun ⟨x0v_0, x1, x2⟩ =>
  if x1.Kind = 1 then
  M.prog_writer_put x0v_0 (⟨1, x1.Set, x2, 0⟩ : T45) >>= fun y6 =>
  some y6.2
  else
  if x1.Kind = 3 then
  M.prog_writer_any (x0v_0, x1.L, x2) >>= fun y10 =>
  some y10
  else
  if x1.Kind = 2 then
  M.prog_writer_code_l0 (x2, x1.L, (x1.L.length : Int), 0, x0v_0)
  else
  if x1.Kind = 4 then
  M.prog_writer_times x0v_0 x1 x2 >>= fun y16 =>
  M.prog_writer_code_l1 (x2, y16, x0v_0)
  else
  M.prog_writer_code_l2 (x2, x0v_0)
  partial_fixpoint
def M.prog_writer_any : (List T45) × (List T57) × Int → Option (List T45) := fun ⟨x0v_0, x1, x2⟩ =>
  M.prog_writer_any_l0 (x1, x2, x1, (x1.length : Int), 0, x0v_0)
  partial_fixpoint
def M.prog_writer_any_l0 : (List T57) × Int × (List T57) × Int × Int × (List T45) → Option (List T45) := fun ⟨x1, x2, x9, x10, x11, e0v_0⟩ =>
  if x11 < x10 then
  if 0 ≤ x11 then
  if x11 < (x9.length : Int) then
  if x11 < wr .i64 ((x1.length : Int) - 1) then
  M.prog_size (⟨(gi x9 x11).Kind, ((gi x9 x11).Set), (gi x9 x11).L, (gi x9 x11).Min, (gi x9 x11).Max⟩ : T57) >>= fun y19 =>
  M.prog_writer_put e0v_0 (⟨2, [0, 0, 0, 0], wr .i64 ((e0v_0.length : Int) + 1), wr .i64 ((wr .i64 ((e0v_0.length : Int) + 1)) + y19)⟩ : T45) >>= fun y21 =>
  M.prog_writer_any_l1 (x1, x2, (⟨(gi x9 x11).Kind, ((gi x9 x11).Set), (gi x9 x11).L, (gi x9 x11).Min, (gi x9 x11).Max⟩ : T57), x9, x10, x11, y21.2)
  else
  M.prog_writer_any_l1 (x1, x2, (⟨(gi x9 x11).Kind, ((gi x9 x11).Set), (gi x9 x11).L, (gi x9 x11).Min, (gi x9 x11).Max⟩ : T57), x9, x10, x11, e0v_0)
  else none
  else none
  else
  if (x1.length : Int) = 0 then
  M.prog_writer_put e0v_0 (⟨1, [0, 0, 0, 0], x2, 0⟩ : T45) >>= fun y27 =>
  some y27.2
  else
  some e0v_0
  partial_fixpoint
def M.prog_writer_any_l1 : (List T57) × Int × T57 × (List T57) × Int × Int × (List T45) → Option (List T45) := fun ⟨x1, x2, x7v, x9, x10, x11, e0v_0⟩ =>
  M.prog_writer_code (e0v_0, x7v, x2) >>= fun y30 =>
  M.prog_writer_any_l0 (x1, x2, x9, x10, wr .i64 (x11 + 1), y30)
  partial_fixpoint
def M.prog_writer_code_l0 : Int × (List T57) × Int × Int × (List T45) → Option (List T45) := fun ⟨x2, x29, x30, x31, e0v_0⟩ =>
  if x31 < x30 then
  if 0 ≤ x31 then
  if x31 < (x29.length : Int) then
  M.prog_writer_of e0v_0 (⟨(gi x29 x31).Kind, ((gi x29 x31).Set), (gi x29 x31).L, (gi x29 x31).Min, (gi x29 x31).Max⟩ : T57) >>= fun y36 =>
  if ([y36].length : Int) ≤ 1099511627776 then
  M.prog_writer_code_l3 (x2, [y36], x29, x30, wr .i64 (x31 + 1), e0v_0)
  else none
  else none
  else none
  else
  M.prog_writer_code_l2 (x2, e0v_0)
  partial_fixpoint
def M.prog_writer_code_l3 : Int × (List T108) × (List T57) × Int × Int × (List T45) → Option (List T45) := fun ⟨x2, x6, x29, x30, x31, e0v_0⟩ =>
  if x31 < x30 then
  if 0 ≤ x31 then
  if x31 < (x29.length : Int) then
  M.prog_writer_of e0v_0 (⟨(gi x29 x31).Kind, ((gi x29 x31).Set), (gi x29 x31).L, (gi x29 x31).Min, (gi x29 x31).Max⟩ : T57) >>= fun y84 =>
  if ((x6 ++ [y84]).length : Int) ≤ 1099511627776 then
  M.prog_writer_code_l3 (x2, (x6 ++ [y84]), x29, x30, wr .i64 (x31 + 1), e0v_0)
  else none
  else none
  else none
  else
  M.prog_writer_code_l1 (x2, x6, e0v_0)
  partial_fixpoint
def M.prog_writer_code_l1 : Int × (List T108) × (List T45) → Option (List T45) := fun ⟨x2, x6, e0v_0⟩ =>
  if (x6.length : Int) = 0 then
  M.prog_writer_put e0v_0 (⟨4, [0, 0, 0, 0], x2, 0⟩ : T45) >>= fun y53 =>
  M.prog_writer_row (y53.2, x6, x2) >>= fun y57 =>
  some y57
  else
  M.prog_writer_row (e0v_0, x6, x2) >>= fun y61 =>
  some y61
  partial_fixpoint
def M.prog_writer_row : (List T45) × (List T108) × Int → Option (List T45) := fun ⟨x0v_0, x1, x2⟩ =>
  M.prog_writer_row_l0 (x1, x2, x1, (x1.length : Int), 0, x0v_0)
  partial_fixpoint
def M.prog_writer_row_l0 : (List T108) × Int × (List T108) × Int × Int × (List T45) → Option (List T45) := fun ⟨x1, x2, x9, x10, x11, e0v_0⟩ =>
  if x11 < x10 then
  if 0 ≤ x11 then
  if x11 < (x9.length : Int) then
  if x11 < wr .i64 ((x1.length : Int) - 1) then
  M.prog_writer_row_l1 (x1, x2, gi x9 x11, wr .i64 ((e0v_0.length : Int) + ((gi x9 x11).n)), x9, x10, x11, e0v_0)
  else
  M.prog_writer_row_l1 (x1, x2, gi x9 x11, x2, x9, x10, x11, e0v_0)
  else none
  else none
  else
  some e0v_0
  partial_fixpoint
def M.prog_writer_row_l1 : (List T108) × Int × T108 × Int × (List T108) × Int × Int × (List T45) → Option (List T45) := fun ⟨x1, x2, x7v, x8, x9, x10, x11, e0v_0⟩ =>
  some (x7v.code) >>= fun v19 =>
  (match v19 with
  | .inl y21 =>
  M.prog_writer_of_1 (x8, e0v_0, y21) >>= fun y60 =>
  M.prog_writer_row_l2 (x1, x2, x9, x10, x11, y60)
  | .inr (.inl y33) =>
  M.prog_writer_loop_1 (x8, e0v_0, y33) >>= fun y64 =>
  M.prog_writer_row_l2 (x1, x2, x9, x10, x11, y64)
  | .inr (.inr (y45)) =>
  M.prog_writer_perhaps_1 (x8, e0v_0, y45.1, y45.2) >>= fun y67 =>
  M.prog_writer_row_l2 (x1, x2, x9, x10, x11, y67))
  partial_fixpoint
def M.prog_writer_of_1 : Int × (List T45) × T57 → Option (List T45) := fun ⟨x0, x1v_0, x2⟩ =>
  M.prog_writer_code (x1v_0, x2, x0) >>= fun y3 =>
  some y3
  partial_fixpoint
def M.prog_writer_row_l2 : (List T108) × Int × (List T108) × Int × Int × (List T45) → Option (List T45) := fun ⟨x1, x2, x9, x10, x11, e0v_0⟩ =>
  M.prog_writer_row_l0 (x1, x2, x9, x10, wr .i64 (x11 + 1), e0v_0)
  partial_fixpoint
def M.prog_writer_loop_1 : Int × (List T45) × T57 → Option (List T45) := fun ⟨x0, x1v_0, x2⟩ =>
  M.prog_writer_put x1v_0 (⟨2, [0, 0, 0, 0], wr .i64 ((x1v_0.length : Int) + 1), x0⟩ : T45) >>= fun y3 =>
  M.prog_writer_code (y3.2, x2, y3.1) >>= fun y6 =>
  some y6
  partial_fixpoint
def M.prog_writer_perhaps_1 : Int × (List T45) × Int × T57 → Option (List T45) := fun ⟨x0, x1v_0, x2, x3⟩ =>
  M.prog_writer_put x1v_0 (⟨2, [0, 0, 0, 0], wr .i64 ((x1v_0.length : Int) + 1), x2⟩ : T45) >>= fun y3 =>
  M.prog_writer_code (y3.2, x3, x0) >>= fun y6 =>
  some y6
  partial_fixpoint
def M.prog_writer_code_l2 : Int × (List T45) → Option (List T45) := fun ⟨x2, e0v_0⟩ =>
  M.prog_writer_put e0v_0 (⟨4, [0, 0, 0, 0], x2, 0⟩ : T45) >>= fun y64 =>
  M.prog_writer_row (y64.2, ([] : List T108), x2) >>= fun y67 =>
  some y67
  partial_fixpoint
end
def M.prog_Make (x0 : T57) : Option ((List T45) × Int) :=
  M.prog_Count x0 >>= fun y3 =>
  if y3.2 = 0 then
  if y3.1 > 2048 then
  some (([] : List T45), 110)
  else
  M.prog_writer_code (([] : List T45), x0, wr .i64 (y3.1 - 1)) >>= fun y11 =>
  M.prog_writer_put y11 (⟨3, [0, 0, 0, 0], 0, 0⟩ : T45) >>= fun y14 =>
  some (y14.2, y3.2)
  else
  some (([] : List T45), y3.2)
def M.sim_begin (x0 : List T45) (x1 : ByteArray) : Option ((T50 × Int) ⊕ Int) :=
  M.sim_New x0 >>= fun y1 =>
  (match y1 with
  | .inl y1_0 =>
  if y1_0.2 = 0 then
  if (x1.size : Int) > 65536 then
  some (.inl (y1_0.1, 3))
  else
  some (.inl (y1_0.1, y1_0.2))
  else
  some (.inl (y1_0.1, y1_0.2))
  | .inr (y1_1) =>
  if y1_1 = 0 then
  if (x1.size : Int) > 65536 then
  some (.inr 3)
  else
  some (.inr y1_1)
  else
  some (.inr y1_1))
def M.sim_Match_l0 : ByteArray × T50 × Int × Int × Int → Option (Bool × Int) := fun ⟨x1, x6v, x7, x19, x20⟩ =>
  if x20 < x19 then
  if 0 ≤ x20 then
  if x20 < (x1.size : Int) then
  M.sim_Runner_Feed x6v (bt x1 x20) >>= fun y24 =>
  if y24.1 = true then
  M.sim_Match_l0 (x1, (⟨y24.2.1, y24.2.2, x6v.now⟩ : T50), x7, x19, wr .i64 (x20 + 1))
  else
  some (false, x7)
  else none
  else none
  else
  M.sim_Runner_Accepts x6v >>= fun y30 =>
  some (y30, x7)
  partial_fixpoint
def M.sim_Runner_is_2 : Option Unit :=
  some ()
def M.sim_Runner_Feed_2 (x1 : Int) : Option Unit :=
  M.sim_Runner_is_2 >>= fun y3 =>
  some ()
def M.sim_Runner_Accepts_2 : Option Unit :=
  M.sim_Runner_is_2 >>= fun y3 =>
  some ()
def M.sim_Match_l1 : ByteArray × Int × Int × Int → Option (Bool × Int) := fun ⟨x1, x7, x19, x20⟩ =>
  if x20 < x19 then
  if 0 ≤ x20 then
  if x20 < (x1.size : Int) then
  M.sim_Runner_Feed_2 (bt x1 x20) >>= fun y35 =>
  some (false, x7)
  else none
  else none
  else
  M.sim_Runner_Accepts_2 >>= fun y37 =>
  some (false, x7)
def M.sim_Match (x0 : List T45) (x1 : ByteArray) : Option (Bool × Int) :=
  M.sim_begin x0 x1 >>= fun y1 =>
  (match y1 with
  | .inl y1_0 =>
  if y1_0.2 = 0 then
  M.sim_Match_l0 (x1, y1_0.1, y1_0.2, (x1.size : Int), 0)
  else
  some (false, y1_0.2)
  | .inr (y1_1) =>
  if y1_1 = 0 then
  M.sim_Match_l1 (x1, y1_1, (x1.size : Int), 0)
  else
  some (false, y1_1))
def M.sim_Full (x0 : ByteArray) (x1 : ByteArray) : Option (Bool × Int × Int) :=
  M.syntax_Parse x0 >>= fun y1 =>
  if y1.2.2 = 0 then
  M.prog_Make y1.1 >>= fun y6 =>
  if y6.2 = 0 then
  M.sim_Match y6.1 x1 >>= fun y11 =>
  some (y11.1, 0, y11.2)
  else
  some (false, 0, y6.2)
  else
  some (false, y1.2.1, y1.2.2)
def M.sim_Runner_ends (x0v : T50) (x1 : ByteArray) (x2 : Int) : Option (Int × ByteArray) :=
  some (x2, x1)
def M.slices_AppendSeq_int_int__r_2 (kq2v_0 : List Int) (kq6b0v_0 : Int) (kq6b1v_0v : T50) (kq6b2v_0 : ByteArray) (a0 : Int) : Option (List Int) :=
  if ((kq2v_0 ++ [a0]).length : Int) ≤ 1099511627776 then
  some (kq2v_0 ++ [a0])
  else none
mutual
def M.sim_Runner_ends_1_2_l0 : Int × (List Int) × T50 × Int × ByteArray → Option ((List Int) × T50) := fun ⟨x5, e1v_0, e4v, x0q6b0v_0, x0q6b2v_0⟩ =>
  M.sim_Runner_Accepts e4v >>= fun y23 =>
  if y23 = true then
  M.slices_AppendSeq_int_int__r_2 e1v_0 x0q6b0v_0 e4v x0q6b2v_0 x5 >>= fun y26 =>
  M.sim_Runner_ends_1_2_l1 (x5, false, y26, e4v, x0q6b0v_0, x0q6b2v_0)
  else
  M.sim_Runner_ends_1_2_l1 (x5, false, e1v_0, e4v, x0q6b0v_0, x0q6b2v_0)
  partial_fixpoint
def M.sim_Runner_ends_1_2_l1 : Int × Bool × (List Int) × T50 × Int × ByteArray → Option ((List Int) × T50) := fun ⟨x5, x16, e1v_0, e4v, x0q6b0v_0, x0q6b2v_0⟩ =>
  if x16 = true then
  some (e1v_0, e4v)
  else
  if x5 = (x0q6b2v_0.size : Int) then
  M.sim_Runner_ends_1_2_l2 (x5, true, e1v_0, e4v, x0q6b0v_0, x0q6b2v_0)
  else
  if 0 ≤ x5 then
  if x5 < (x0q6b2v_0.size : Int) then
  M.sim_Runner_Feed e4v (bt x0q6b2v_0 x5) >>= fun y49 =>
  M.sim_Runner_ends_1_2_l2 (x5, !y49.1, e1v_0, (⟨y49.2.1, y49.2.2, e4v.now⟩ : T50), x0q6b0v_0, x0q6b2v_0)
  else none
  else none
  partial_fixpoint
def M.sim_Runner_ends_1_2_l2 : Int × Bool × (List Int) × T50 × Int × ByteArray → Option ((List Int) × T50) := fun ⟨x5, x28, e1v_0, e4v, x0q6b0v_0, x0q6b2v_0⟩ =>
  if x28 = true then
  some (e1v_0, e4v)
  else
  M.sim_Runner_ends_1_2_l0 (wr .i64 (x5 + 1), e1v_0, e4v, x0q6b0v_0, x0q6b2v_0)
  partial_fixpoint
end
def M.sim_Runner_ends_1_2 (x0q2v_0 : List Int) (x0q6b0v_0 : Int) (x0q6b1v_0v : T50) (x0q6b2v_0 : ByteArray) : Option ((List Int) × T50) :=
  M.sim_Runner_ends_1_2_l0 (x0q6b0v_0, x0q2v_0, x0q6b1v_0v, x0q6b0v_0, x0q6b2v_0)
def M.slices_AppendSeq_int_int_2 (x1b0v_0 : Int) (x1b1v_0v : T50) (x1b2v_0 : ByteArray) : Option ((List Int) × T50) :=
  M.sim_Runner_ends_1_2 ([] : List Int) x1b0v_0 x1b1v_0v x1b2v_0 >>= fun y20 =>
  some (y20.1, y20.2)
def M.slices_Collect_int (x0b0v_0 : Int) (x0b1v_0v : T50) (x0b2v_0 : ByteArray) : Option ((List Int) × T50) :=
  M.slices_AppendSeq_int_int_2 x0b0v_0 x0b1v_0v x0b2v_0 >>= fun y12 =>
  some (y12.1, y12.2)
def M.sim_Ends_l0 : ByteArray × Int × T50 × Int × Bool → Option ((List Int) × Int) := fun ⟨x1, x2, x8v, x9, x20⟩ =>
  if x20 = true then
  some (([] : List Int), 2)
  else
  M.sim_Runner_ends x8v x1 x2 >>= fun y24 =>
  M.slices_Collect_int y24.1 x8v y24.2 >>= fun y29 =>
  some (y29.1, x9)
def M.sim_Runner_ends_2 (x1 : ByteArray) (x2 : Int) : Option (Int × ByteArray) :=
  some (x2, x1)
mutual
def M.sim_Runner_ends_1_3_l0 : Int × (List Int) × Int × ByteArray → Option Unit := fun ⟨x5, x0q2v_0, x0q6b0v_0, x0q6b2v_0⟩ =>
  M.sim_Runner_Accepts_2 >>= fun y6 =>
  if x5 = (x0q6b2v_0.size : Int) then
  M.sim_Runner_ends_1_3_l1 (x5, true, x0q2v_0, x0q6b0v_0, x0q6b2v_0)
  else
  if 0 ≤ x5 then
  if x5 < (x0q6b2v_0.size : Int) then
  M.sim_Runner_Feed_2 (bt x0q6b2v_0 x5) >>= fun y11 =>
  M.sim_Runner_ends_1_3_l1 (x5, true, x0q2v_0, x0q6b0v_0, x0q6b2v_0)
  else none
  else none
  partial_fixpoint
def M.sim_Runner_ends_1_3_l1 : Int × Bool × (List Int) × Int × ByteArray → Option Unit := fun ⟨x5, x28, x0q2v_0, x0q6b0v_0, x0q6b2v_0⟩ =>
  if x28 = true then
  some ()
  else
  M.sim_Runner_ends_1_3_l0 (wr .i64 (x5 + 1), x0q2v_0, x0q6b0v_0, x0q6b2v_0)
  partial_fixpoint
end
def M.sim_Runner_ends_1_3 (x0q2v_0 : List Int) (x0q6b0v_0 : Int) (x0q6b2v_0 : ByteArray) : Option Unit :=
  M.sim_Runner_ends_1_3_l0 (x0q6b0v_0, x0q2v_0, x0q6b0v_0, x0q6b2v_0)
def M.slices_AppendSeq_int_int_3 (x0 : List Int) (x1b0v_0 : Int) (x1b2v_0 : ByteArray) : Option (List Int) :=
  M.sim_Runner_ends_1_3 x0 x1b0v_0 x1b2v_0 >>= fun y11 =>
  some x0
def M.slices_Collect_int_2 (x0b0v_0 : Int) (x0b2v_0 : ByteArray) : Option (List Int) :=
  M.slices_AppendSeq_int_int_3 ([] : List Int) x0b0v_0 x0b2v_0 >>= fun y4 =>
  some y4
def M.sim_Ends_l1 : ByteArray × Int × Int × Bool → Option ((List Int) × Int) := fun ⟨x1, x2, x9, x20⟩ =>
  if x20 = true then
  some (([] : List Int), 2)
  else
  M.sim_Runner_ends_2 x1 x2 >>= fun y41 =>
  M.slices_Collect_int_2 y41.1 y41.2 >>= fun y46 =>
  some (y46, x9)
def M.sim_Ends (x0 : List T45) (x1 : ByteArray) (x2 : Int) : Option ((List Int) × Int) :=
  M.sim_begin x0 x1 >>= fun y1 =>
  (match y1 with
  | .inl y1_0 =>
  if y1_0.2 = 0 then
  if x2 < 0 then
  M.sim_Ends_l0 (x1, x2, y1_0.1, y1_0.2, true)
  else
  M.sim_Ends_l0 (x1, x2, y1_0.1, y1_0.2, decide (x2 > (x1.size : Int)))
  else
  some (([] : List Int), y1_0.2)
  | .inr (y1_1) =>
  if y1_1 = 0 then
  if x2 < 0 then
  M.sim_Ends_l1 (x1, x2, y1_1, true)
  else
  M.sim_Ends_l1 (x1, x2, y1_1, decide (x2 > (x1.size : Int)))
  else
  some (([] : List Int), y1_1))
def M.tidepolelaw12_works : Option Bool :=
  M.sim_Full (⟨#[40, 97, 124, 98, 41, 42, 99]⟩ : ByteArray) (⟨#[97, 98, 97, 99]⟩ : ByteArray) >>= fun y1 =>
  M.sim_Full (⟨#[40, 97, 124, 98, 41, 42, 99]⟩ : ByteArray) (⟨#[97, 98]⟩ : ByteArray) >>= fun y3 =>
  M.syntax_Parse (⟨#[97, 42]⟩ : ByteArray) >>= fun y5 =>
  M.prog_Make y5.1 >>= fun y9 =>
  M.sim_Ends y9.1 (⟨#[98, 97, 97, 98]⟩ : ByteArray) 1 >>= fun y13 =>
  if y1.1 = true then
  if y1.2.2 = 0 then
  if y3.1 = true then
  some false
  else
  if y3.2.2 = 0 then
  M.tidepolebase_SameInts y13.1 [1, 2, 3] >>= fun y23 =>
  if y23 = true then
  some (decide (y13.2 = 0))
  else
  some false
  else
  some false
  else
  some false
  else
  some false
mutual
def M.tidepolelaw12_SimFeeds_l3 : (List T45) × (List Int) × (List Bool) × T50 × (List Bool) × Int → Option Bool := fun ⟨x0, x1, x2, x7v, x11, x12⟩ =>
  if x12 ≤ (x1.length : Int) then
  M.tidepolelaw12_SimFeeds_l5 (x0, x1, x2, x7v, x11, x12, decide (x12 < 40))
  else
  M.tidepolelaw12_SimFeeds_l5 (x0, x1, x2, x7v, x11, x12, false)
  partial_fixpoint
def M.tidepolelaw12_SimFeeds_l5 : (List T45) × (List Int) × (List Bool) × T50 × (List Bool) × Int × Bool → Option Bool := fun ⟨x0, x1, x2, x7v, x11, x12, x54⟩ =>
  if x54 = true then
  M.tidepolelaw12_SimFeeds_l7 (x0, x1, x2, x7v, x11, x12, ([] : List Int), 0)
  else
  M.tidepolelaw12_works >>= fun y80 =>
  some y80
  partial_fixpoint
def M.tidepolelaw12_SimFeeds_l7 : (List T45) × (List Int) × (List Bool) × T50 × (List Bool) × Int × (List Int) × Int → Option Bool := fun ⟨x0, x1, x2, x7v, x11, x12, x13, x14⟩ =>
  if x14 < (x0.length : Int) then
  if 0 ≤ x14 then
  if x14 < (x11.length : Int) then
  if (gi x11 x14) = true then
  if ((x13 ++ [x14]).length : Int) ≤ 1099511627776 then
  M.tidepolelaw12_SimFeeds_l9 (x0, x1, x2, x7v, x11, x12, (x13 ++ [x14]), x14)
  else none
  else
  M.tidepolelaw12_SimFeeds_l9 (x0, x1, x2, x7v, x11, x12, x13, x14)
  else none
  else none
  else
  M.sim_Runner_At x7v >>= fun y119 =>
  M.tidepolebase_SameInts y119 x13 >>= fun y124 =>
  if y124 = true then
  M.sim_Runner_Dead x7v >>= fun y127 =>
  if (y127 == (decide ((x13.length : Int) = 0))) = true then
  M.sim_Runner_Accepts x7v >>= fun y130 =>
  M.tidepoleref12_Accepts x0 x11 >>= fun y133 =>
  M.tidepolelaw12_SimFeeds_l10 (x0, x1, x2, x7v, x11, x12, !(y130 == y133))
  else
  M.tidepolelaw12_SimFeeds_l10 (x0, x1, x2, x7v, x11, x12, true)
  else
  M.tidepolelaw12_SimFeeds_l10 (x0, x1, x2, x7v, x11, x12, true)
  partial_fixpoint
def M.tidepolelaw12_SimFeeds_l9 : (List T45) × (List Int) × (List Bool) × T50 × (List Bool) × Int × (List Int) × Int → Option Bool := fun ⟨x0, x1, x2, x7v, x11, x12, x13, x14⟩ =>
  M.tidepolelaw12_SimFeeds_l7 (x0, x1, x2, x7v, x11, x12, x13, wr .i64 (x14 + 1))
  partial_fixpoint
def M.tidepolelaw12_SimFeeds_l10 : (List T45) × (List Int) × (List Bool) × T50 × (List Bool) × Int × Bool → Option Bool := fun ⟨x0, x1, x2, x7v, x11, x12, x92⟩ =>
  if x92 = true then
  some false
  else
  if x12 < (x2.length : Int) then
  if 0 ≤ x12 then
  M.tidepolelaw12_SimFeeds_l13 (x0, x1, x2, x7v, x11, x12, gi x2 x12)
  else none
  else
  M.tidepolelaw12_SimFeeds_l13 (x0, x1, x2, x7v, x11, x12, false)
  partial_fixpoint
def M.tidepolelaw12_SimFeeds_l13 : (List T45) × (List Int) × (List Bool) × T50 × (List Bool) × Int × Bool → Option Bool := fun ⟨x0, x1, x2, x7v, x11, x12, x102⟩ =>
  if x102 = true then
  M.sim_Runner_Reset x7v >>= fun y203 =>
  M.tidepoleref12_Begin x0 >>= fun y207 =>
  M.tidepolelaw12_SimFeeds_l15 (x0, x1, x2, (⟨x7v.l, y203, x7v.next⟩ : T50), y207, x12)
  else
  M.tidepolelaw12_SimFeeds_l15 (x0, x1, x2, x7v, x11, x12)
  partial_fixpoint
def M.tidepolelaw12_SimFeeds_l15 : (List T45) × (List Int) × (List Bool) × T50 × (List Bool) × Int → Option Bool := fun ⟨x0, x1, x2, x7v, x11, x12⟩ =>
  if x12 < (x1.length : Int) then
  M.sim_Runner_Dead x7v >>= fun y227 =>
  if 0 ≤ x12 then
  M.sim_Runner_Feed x7v (gi x1 x12) >>= fun y233 =>
  M.tidepoleref12_Step x0 x11 (gi x1 x12) >>= fun y242 =>
  if y227 = true then
  if y233.1 = true then
  M.tidepolelaw12_SimFeeds_l17 (x0, x1, x2, (⟨y233.2.1, y233.2.2, x7v.now⟩ : T50), y242, x12, true)
  else
  M.sim_Runner_Dead (⟨y233.2.1, y233.2.2, x7v.now⟩ : T50) >>= fun y256 =>
  M.tidepolelaw12_SimFeeds_l17 (x0, x1, x2, (⟨y233.2.1, y233.2.2, x7v.now⟩ : T50), y242, x12, false == y256)
  else
  M.sim_Runner_Dead (⟨y233.2.1, y233.2.2, x7v.now⟩ : T50) >>= fun y258 =>
  M.tidepolelaw12_SimFeeds_l17 (x0, x1, x2, (⟨y233.2.1, y233.2.2, x7v.now⟩ : T50), y242, x12, y233.1 == y258)
  else none
  else
  M.tidepolelaw12_SimFeeds_l18 (x0, x1, x2, x7v, x11, x12)
  partial_fixpoint
def M.tidepolelaw12_SimFeeds_l17 : (List T45) × (List Int) × (List Bool) × T50 × (List Bool) × Int × Bool → Option Bool := fun ⟨x0, x1, x2, x7v, x11, x12, x135⟩ =>
  if x135 = true then
  some false
  else
  M.tidepolelaw12_SimFeeds_l18 (x0, x1, x2, x7v, x11, x12)
  partial_fixpoint
def M.tidepolelaw12_SimFeeds_l18 : (List T45) × (List Int) × (List Bool) × T50 × (List Bool) × Int → Option Bool := fun ⟨x0, x1, x2, x7v, x11, x12⟩ =>
  M.tidepolelaw12_SimFeeds_l3 (x0, x1, x2, x7v, x11, wr .i64 (x12 + 1))
  partial_fixpoint
end
def M.tidepolelaw12_SimFeeds_l1 : (List T45) × (List Int) × (List Bool) × T50 × Int × Bool → Option Bool := fun ⟨x0, x1, x2, x7v, x10, x41⟩ =>
  if x41 = true then
  some false
  else
  if x10 = 0 then
  M.tidepoleref12_Begin x0 >>= fun y32 =>
  M.tidepolelaw12_SimFeeds_l3 (x0, x1, x2, x7v, y32, 0)
  else
  M.tidepolelaw12_works >>= fun y44 =>
  some y44
def M.sim_Runner_At_2 : Option Unit :=
  M.sim_Runner_is_2 >>= fun y1 =>
  some ()
def M.sim_Runner_Dead_2 : Option Unit :=
  M.sim_Runner_is_2 >>= fun y1 =>
  some ()
def M.sim_Runner_Reset_2 : Option Unit :=
  M.sim_Runner_is_2 >>= fun y1 =>
  some ()
mutual
def M.tidepolelaw12_SimFeeds_l4 : (List T45) × (List Int) × (List Bool) × (List Bool) × Int → Option Bool := fun ⟨x0, x1, x2, x11, x12⟩ =>
  if x12 ≤ (x1.length : Int) then
  M.tidepolelaw12_SimFeeds_l6 (x0, x1, x2, x11, x12, decide (x12 < 40))
  else
  M.tidepolelaw12_SimFeeds_l6 (x0, x1, x2, x11, x12, false)
  partial_fixpoint
def M.tidepolelaw12_SimFeeds_l6 : (List T45) × (List Int) × (List Bool) × (List Bool) × Int × Bool → Option Bool := fun ⟨x0, x1, x2, x11, x12, x54⟩ =>
  if x54 = true then
  M.tidepolelaw12_SimFeeds_l8 (x0, x1, x2, x11, x12, ([] : List Int), 0)
  else
  M.tidepolelaw12_works >>= fun y88 =>
  some y88
  partial_fixpoint
def M.tidepolelaw12_SimFeeds_l8 : (List T45) × (List Int) × (List Bool) × (List Bool) × Int × (List Int) × Int → Option Bool := fun ⟨x0, x1, x2, x11, x12, x13, x14⟩ =>
  if x14 < (x0.length : Int) then
  if 0 ≤ x14 then
  if x14 < (x11.length : Int) then
  if (gi x11 x14) = true then
  if ((x13 ++ [x14]).length : Int) ≤ 1099511627776 then
  M.tidepolelaw12_SimFeeds_l11 (x0, x1, x2, x11, x12, (x13 ++ [x14]), x14)
  else none
  else
  M.tidepolelaw12_SimFeeds_l11 (x0, x1, x2, x11, x12, x13, x14)
  else none
  else none
  else
  M.sim_Runner_At_2 >>= fun y165 =>
  M.tidepolebase_SameInts ([] : List Int) x13 >>= fun y168 =>
  if y168 = true then
  M.sim_Runner_Dead_2 >>= fun y171 =>
  if (true == (decide ((x13.length : Int) = 0))) = true then
  M.sim_Runner_Accepts_2 >>= fun y174 =>
  M.tidepoleref12_Accepts x0 x11 >>= fun y177 =>
  M.tidepolelaw12_SimFeeds_l12 (x0, x1, x2, x11, x12, !(false == y177))
  else
  M.tidepolelaw12_SimFeeds_l12 (x0, x1, x2, x11, x12, true)
  else
  M.tidepolelaw12_SimFeeds_l12 (x0, x1, x2, x11, x12, true)
  partial_fixpoint
def M.tidepolelaw12_SimFeeds_l11 : (List T45) × (List Int) × (List Bool) × (List Bool) × Int × (List Int) × Int → Option Bool := fun ⟨x0, x1, x2, x11, x12, x13, x14⟩ =>
  M.tidepolelaw12_SimFeeds_l8 (x0, x1, x2, x11, x12, x13, wr .i64 (x14 + 1))
  partial_fixpoint
def M.tidepolelaw12_SimFeeds_l12 : (List T45) × (List Int) × (List Bool) × (List Bool) × Int × Bool → Option Bool := fun ⟨x0, x1, x2, x11, x12, x92⟩ =>
  if x92 = true then
  some false
  else
  if x12 < (x2.length : Int) then
  if 0 ≤ x12 then
  M.tidepolelaw12_SimFeeds_l14 (x0, x1, x2, x11, x12, gi x2 x12)
  else none
  else
  M.tidepolelaw12_SimFeeds_l14 (x0, x1, x2, x11, x12, false)
  partial_fixpoint
def M.tidepolelaw12_SimFeeds_l14 : (List T45) × (List Int) × (List Bool) × (List Bool) × Int × Bool → Option Bool := fun ⟨x0, x1, x2, x11, x12, x102⟩ =>
  if x102 = true then
  M.sim_Runner_Reset_2 >>= fun y220 =>
  M.tidepoleref12_Begin x0 >>= fun y222 =>
  M.tidepolelaw12_SimFeeds_l16 (x0, x1, x2, y222, x12)
  else
  M.tidepolelaw12_SimFeeds_l16 (x0, x1, x2, x11, x12)
  partial_fixpoint
def M.tidepolelaw12_SimFeeds_l16 : (List T45) × (List Int) × (List Bool) × (List Bool) × Int → Option Bool := fun ⟨x0, x1, x2, x11, x12⟩ =>
  if x12 < (x1.length : Int) then
  M.sim_Runner_Dead_2 >>= fun y270 =>
  if 0 ≤ x12 then
  M.sim_Runner_Feed_2 (gi x1 x12) >>= fun y276 =>
  M.tidepoleref12_Step x0 x11 (gi x1 x12) >>= fun y282 =>
  M.sim_Runner_Dead_2 >>= fun y285 =>
  M.tidepolelaw12_SimFeeds_l19 (x0, x1, x2, y282, x12, false)
  else none
  else
  M.tidepolelaw12_SimFeeds_l20 (x0, x1, x2, x11, x12)
  partial_fixpoint
def M.tidepolelaw12_SimFeeds_l19 : (List T45) × (List Int) × (List Bool) × (List Bool) × Int × Bool → Option Bool := fun ⟨x0, x1, x2, x11, x12, x135⟩ =>
  if x135 = true then
  some false
  else
  M.tidepolelaw12_SimFeeds_l20 (x0, x1, x2, x11, x12)
  partial_fixpoint
def M.tidepolelaw12_SimFeeds_l20 : (List T45) × (List Int) × (List Bool) × (List Bool) × Int → Option Bool := fun ⟨x0, x1, x2, x11, x12⟩ =>
  M.tidepolelaw12_SimFeeds_l4 (x0, x1, x2, x11, wr .i64 (x12 + 1))
  partial_fixpoint
end
def M.tidepolelaw12_SimFeeds_l2 : (List T45) × (List Int) × (List Bool) × Int × Bool → Option Bool := fun ⟨x0, x1, x2, x10, x41⟩ =>
  if x41 = true then
  some false
  else
  if x10 = 0 then
  M.tidepoleref12_Begin x0 >>= fun y48 =>
  M.tidepolelaw12_SimFeeds_l4 (x0, x1, x2, y48, 0)
  else
  M.tidepolelaw12_works >>= fun y52 =>
  some y52
def M.tidepolelaw12_SimFeeds_l0 : (List T45) × (List Int) × (List Bool) → Option Bool := fun ⟨x0, x1, x2⟩ =>
  M.sim_New x0 >>= fun y6 =>
  (match y6 with
  | .inl y6_0 =>
  M.tidepoleref12_Match x0 (⟨#[]⟩ : ByteArray) >>= fun y16 =>
  if y6_0.2 = y16.2 then
  M.tidepolelaw12_SimFeeds_l1 (x0, x1, x2, y6_0.1, y16.2, !(false == (!(decide (y16.2 = 0)))))
  else
  M.tidepolelaw12_SimFeeds_l1 (x0, x1, x2, y6_0.1, y16.2, true)
  | .inr (y6_1) =>
  M.tidepoleref12_Match x0 (⟨#[]⟩ : ByteArray) >>= fun y27 =>
  if y6_1 = y27.2 then
  M.tidepolelaw12_SimFeeds_l2 (x0, x1, x2, y27.2, !(true == (!(decide (y27.2 = 0)))))
  else
  M.tidepolelaw12_SimFeeds_l2 (x0, x1, x2, y27.2, true))
def M.tidepolelaw12_SimFeeds (x0 : List T45) (x1 : List Int) (x2 : List Bool) : Option Bool :=
  if (x0.length : Int) > 150 then
  if 150 ≤ (x0.length : Int) then
  M.tidepolelaw12_SimFeeds_l0 ((sl x0 0 150), x1, x2)
  else none
  else
  M.tidepolelaw12_SimFeeds_l0 (x0, x1, x2)
end Go.Gx
