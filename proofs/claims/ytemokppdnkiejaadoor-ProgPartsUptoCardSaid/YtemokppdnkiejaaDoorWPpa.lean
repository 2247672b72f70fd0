import Derived.Test.YtemokppdnkiejaaDoorMPp

import Derived.Test.YtemokppdnkiejaaDoorGG

import Derived.Test.YtemokppdnkiejaaDoorHI

import Derived.Test.YtemokppdnkiejaaDoorProg

set_option linter.unusedVariables false

set_option maxRecDepth 100000

set_option maxHeartbeats 4000000

namespace Go.Gx

open Go.RowKit Go.Proofs

variable (nz : Nat) (wz : World) (S0 : Fz) (w0 : World) (Lr : List Ent)

noncomputable section

def kT27_f (K : Kd T27) : Kd T27 := kMap (fun s => (s.Kind, s.Set, s.L, s.Min, s.Max)) (kProd (kInt .i64) (kProd (kArr 4 (kInt .u64)) (kProd (kSl K) (kProd (kInt .i64) (kInt .i64)))))

theorem kT27_c : Kc kT27_f := Kc.map _ (Kc.prod (Kc.const _) (Kc.prod (Kc.const _) (Kc.prod (Kc.sl Kc.id) (Kc.prod (Kc.const _) (Kc.const _)))))

def kT27 : Kd T27 := kFix kT27_f 8 kT27_c (fun _ => rfl)

theorem kT27_open {S w vs x} (h : kT27.rep S w vs x) : (kT27_f kT27).rep S w vs x := kFix_open kT27_c _ h

theorem kT27_close {S w vs x} (h : (kT27_f kT27).rep S w vs x) : kT27.rep S w vs x := kFix_close kT27_c _ h

def kT72 : Kd T72 := kMap (fun s => s.at_) (kInt .i64)

def kT68 : Kd T68 := kMap (fun s => (s.s, s.at_, s.deep, s.bad)) (kProd kStr (kProd (kInt .i64) (kProd (kInt .i64) (kPtr kT72))))

def kT126 : Kd T126 := kMap (fun s => (s.set_, s.b, s.single)) (kProd (kArr 4 (kInt .u64)) (kProd (kInt .u8) kBool))

def kT48 : Kd T48 := kMap (fun s => (s.Op, s.Set, s.X, s.Y)) (kProd (kInt .i64) (kProd (kArr 4 (kInt .u64)) (kProd (kInt .i64) (kInt .i64))))

def kT77 : Kd T77 := kMap (fun s => s.l) (kSl kT48)

def kC98 (gw : Nat) : Kd (T27 ⊕ T27 ⊕ (Int × T27)) := (kSum (kFn 71 (kMap (fun (y : T27) => ((), y)) (kProd (kFixW gw) (kBox kT27)))) (kSum (kFn 85 (kMap (fun (y : T27) => ((), y)) (kProd (kFixW gw) (kBox kT27)))) (kFn 86 (kMap (fun (y : Int × T27) => ((), y.1, y.2)) (kProd (kFixW gw) (kProd (kBox (kInt .i64)) (kBox kT27))))) rfl) rfl)

def kT99 (gw : Nat) : Kd T99 := kMap (fun s => (s.n, s.code)) (kProd (kInt .i64) (kC98 gw))

class Gw (nz : Nat) (wz : World) : Prop where
 g2 : Tab nz wz 2 .u64 tb2

noncomputable def B8 : Code := (Tryd.f8.body).getD .skip

noncomputable def B11 : Code := (Tryd.f11.body).getD .skip

noncomputable def B14 : Code := (Tryd.f14.body).getD .skip

noncomputable def B15 : Code := (Tryd.f15.body).getD .skip

noncomputable def B17 : Code := (Tryd.f17.body).getD .skip

noncomputable def B20 : Code := (Tryd.f20.body).getD .skip

noncomputable def B21 : Code := (Tryd.f21.body).getD .skip

noncomputable def B23 : Code := (Tryd.f23.body).getD .skip

noncomputable def B27 : Code := (Tryd.f27.body).getD .skip

noncomputable def B28 : Code := (Tryd.f28.body).getD .skip

noncomputable def B30 : Code := (Tryd.f30.body).getD .skip

noncomputable def B31 : Code := (Tryd.f31.body).getD .skip

noncomputable def B32 : Code := (Tryd.f32.body).getD .skip

noncomputable def B34 : Code := (Tryd.f34.body).getD .skip

noncomputable def B35 : Code := (Tryd.f35.body).getD .skip

noncomputable def B36 : Code := (Tryd.f36.body).getD .skip

noncomputable def B38 : Code := (Tryd.f38.body).getD .skip

noncomputable def B41 : Code := (Tryd.f41.body).getD .skip

noncomputable def B44 : Code := (Tryd.f44.body).getD .skip

noncomputable def B45 : Code := (Tryd.f45.body).getD .skip

noncomputable def B46 : Code := (Tryd.f46.body).getD .skip

noncomputable def B47 : Code := (Tryd.f47.body).getD .skip

noncomputable def B48 : Code := (Tryd.f48.body).getD .skip

noncomputable def B49 : Code := (Tryd.f49.body).getD .skip

noncomputable def B50 : Code := (Tryd.f50.body).getD .skip

noncomputable def B53 : Code := (Tryd.f53.body).getD .skip

noncomputable def B54 : Code := (Tryd.f54.body).getD .skip

noncomputable def B55 : Code := (Tryd.f55.body).getD .skip

noncomputable def B56 : Code := (Tryd.f56.body).getD .skip

noncomputable def B59 : Code := (Tryd.f59.body).getD .skip

noncomputable def B61 : Code := (Tryd.f61.body).getD .skip

noncomputable def B62 : Code := (Tryd.f62.body).getD .skip

noncomputable def B63 : Code := (Tryd.f63.body).getD .skip

noncomputable def B65 : Code := (Tryd.f65.body).getD .skip

noncomputable def B66 : Code := (Tryd.f66.body).getD .skip

noncomputable def B67 : Code := (Tryd.f67.body).getD .skip

noncomputable def B68 : Code := (Tryd.f68.body).getD .skip

noncomputable def B71 : Code := (Tryd.f71.body).getD .skip

noncomputable def B72 : Code := (Tryd.f72.body).getD .skip

noncomputable def B73 : Code := (Tryd.f73.body).getD .skip

noncomputable def B76 : Code := (Tryd.f76.body).getD .skip

noncomputable def B78 : Code := (Tryd.f78.body).getD .skip

noncomputable def B79 : Code := (Tryd.f79.body).getD .skip

noncomputable def B80 : Code := (Tryd.f80.body).getD .skip

noncomputable def B85 : Code := (Tryd.f85.body).getD .skip

noncomputable def B86 : Code := (Tryd.f86.body).getD .skip

noncomputable def B89 : Code := (Tryd.f89.body).getD .skip

noncomputable def B90 : Code := (Tryd.f90.body).getD .skip

noncomputable def B91 : Code := (Tryd.f91.body).getD .skip

noncomputable def B92 : Code := (Tryd.f92.body).getD .skip

noncomputable def B93 : Code := (Tryd.f93.body).getD .skip

noncomputable def B94 : Code := (Tryd.f94.body).getD .skip

noncomputable def B95 : Code := (Tryd.f95.body).getD .skip

noncomputable def B101 : Code := (Tryd.f101.body).getD .skip

noncomputable def B102 : Code := (Tryd.f102.body).getD .skip

noncomputable def B103 : Code := (Tryd.f103.body).getD .skip

noncomputable def B104 : Code := (Tryd.f104.body).getD .skip

noncomputable def B105 : Code := (Tryd.f105.body).getD .skip

noncomputable def B106 : Code := (Tryd.f106.body).getD .skip

noncomputable def B111 : Code := (Tryd.f111.body).getD .skip

noncomputable def B112 : Code := (Tryd.f112.body).getD .skip

noncomputable def B113 : Code := (Tryd.f113.body).getD .skip

noncomputable def B114 : Code := (Tryd.f114.body).getD .skip

noncomputable def B120 : Code := (Tryd.f120.body).getD .skip

noncomputable def B121 : Code := (Tryd.f121.body).getD .skip

def Q0 := sub [1, 1] B65
def J0 : List Item := [.code Q0]
def Q1 := sub [1, 0, 1] B65
def J1 : List Item := .code Q1 :: J0
def Q2 := sub [1, 0, 1, 0, 1] B65
def J2 : List Item := .code Q2 :: J0
def Q3 := sub [1, 1, 1] B65
def J3 : List Item := [.code Q3]
def Q4 := sub [1, 1, 0] B65
def J4 : List Item := .code Q4 :: J3

def Post.z0 (gx0 : Nat) (r : Int × T68) (v : Value) (w' : World) : Prop :=
 ∃ S' u0, v = .int .u8 r.1 ∧ Ext S0 w0 S' w' ∧ Hp nz wz S' w' ((some gx0, .row 69 [.string r.2.s, .i r.2.at_, .i r.2.deep, u0] 4 0) :: Lr) ∧ PtO kT72 S' w' u0 r.2.bad

def L.z1 (gx0 : Nat) : Bool × T68 → (Int × T68) → Prop := fun ⟨x19, e0v⟩ r => ∀ S1 w1, Ext S0 w0 S1 w1 → ∀ u0 (_ : Hp nz wz S1 w1 ((some gx0, .row 69 [.string e0v.s, .i e0v.at_, .i e0v.deep, u0] 4 0) :: Lr)) (_ : PtO kT72 S1 w1 u0 e0v.bad) (junk : Nat → Value),
 Goes Tryd.prog (base 65) J1 ⟨lfr 29 [(0, (pt gx0 0)), (19, .bool x19)] junk, []⟩ w1 (Done Tryd.prog 65 (Rets (Post.z0 nz wz S0 w0 Lr gx0 r)))

theorem W.z1 {nz wz S0 w0 Lr} [Gw nz wz] (gx0 : Nat) : ∀ a r, M.syntax_parser_peek_l0 a = some r → L.z1 nz wz S0 w0 Lr gx0 a r := by
 intro ⟨x19, e0v⟩ r h S1 w1 hx u0 p1 u1 junk
 rw [M.syntax_parser_peek_l0] at h
 try dsimp only at h
 refine ite_some h (fun h9 h => ?_) (fun h9 h => ?_)
 ·
  rw [h9]
  refine Goes.rn 5 [(2, .int .u8 0)] J2 ?_
  obtain rfl := Option.some.inj h
  exact Goes.rt Tryd.f65 (.int .u8 0) ⟨S1, u0, rfl, hx, p1, u1⟩
 ·
  have h9' : x19 = false := by simpa using h9
  rw [h9']
  refine Goes.rn 3 [] J4 ?_
  have z3 : Ext S1 w1 S1 (w1).drew := Ext.draw
  have p3 := p1.draw
  refine Goes.drawn (s := []) (F := Fc S1 (w1).drew [(⟨gx0, 0, none⟩, .string e0v.s), (⟨gx0, 1, none⟩, .i e0v.at_)]) 3 10 (by kernel_rfl) (by kernel_rfl) (by kernel_rfl) (by kernel_rfl) ?_
  generalize (w1).drew = w3 at z3 p3 ⊢
  refine AnyG.pu 0 (.move (.tmp 0)) 20 66 ((pt gx0 0)) (Fc.here (p3.cs [(0, 0, 2)])) ?_
  refine AnyG.pu 1 (.nilCheck (.tmp 20)) 21 0 ((pt gx0 0)) (Fc.here (p3.cs [(0, 0, 2)])) ?_
  refine AnyG.pu 2 (.fieldAddr 69 (.tmp 21) 0) 22 0 ((pt gx0 0)) (Fc.here (p3.cs [(0, 0, 2)])) ?_
  refine AnyG.ld1 (i := 3) 9 (.tmp 22) 23 9 ⟨gx0, 0, none⟩ (.string e0v.s) (by kernel_rfl) (by kernel_rfl) (Fc.here (p3.cs [(0, 0, 2)])) (by kernel_rfl) (by kernel_rfl) (fun _ h => h.2.at_ 0 rfl) ?_
  refine AnyG.pu 4 (.move (.tmp 0)) 24 66 ((pt gx0 0)) (Fc.here (p3.cs [(0, 0, 2)])) ?_
  refine AnyG.pu 5 (.nilCheck (.tmp 24)) 25 0 ((pt gx0 0)) (Fc.here (p3.cs [(0, 0, 2)])) ?_
  refine AnyG.pu 6 (.fieldAddr 69 (.tmp 25) 1) 26 0 ((pt gx0 1)) (Fc.here (p3.cs [(0, 0, 2)])) ?_
  refine AnyG.ld1 (i := 7) 3 (.tmp 26) 27 3 ⟨gx0, 1, none⟩ (.i e0v.at_) (by kernel_rfl) (by kernel_rfl) (Fc.here (p3.cs [(0, 0, 2)])) (by kernel_rfl) (by kernel_rfl) (fun _ h => h.2.at_ 1 rfl) ?_
  refine guard_some' h fun g10 h => ?_
  refine guard_some' h fun g11 h => ?_
  refine AnyG.ixS (i := 8) 9 (.tmp 23) (.tmp 27) 28 5 .i64 e0v.s e0v.at_ (by kernel_rfl) (by kernel_rfl) (Fc.here (p3.cs [(0, 0, 2)])) (by kernel_rfl) (by kernel_rfl) (by kernel_rfl) g10 g11 ?_
  refine AnyG.pu 9 (.assign (.tmp 28)) 2 5 (.int .u8 (bt e0v.s e0v.at_)) (Fc.here (p3.cs [(0, 0, 2)])) ?_
  refine AnyG.done (by kernel_rfl) ?_ _
  obtain rfl := Option.some.inj h
  exact Goes.rt Tryd.f65 (.int .u8 (bt e0v.s e0v.at_)) ⟨S1, u0, rfl, (hx.trans z3), p3, (u1.ext z3)⟩

def Q5 := sub [1, 0, 0] B65
def J5 : List Item := .code Q5 :: J1

theorem W.z0 (x0v : T68) (r : Int × T68) (h : M.syntax_parser_peek x0v = some r) {nz wz S0 w0 Lr} [Gw nz wz] (gx0 u2) (p0 : Hp nz wz S0 w0 ((some gx0, .row 69 [.string x0v.s, .i x0v.at_, .i x0v.deep, u2] 4 0) :: Lr)) (u3 : PtO kT72 S0 w0 u2 x0v.bad) :
  Calls Tryd.prog 65 #[(pt gx0 0)] w0 (Rets (Post.z0 nz wz S0 w0 Lr gx0 r)) := by
 refine calls_of_goes (fn := Tryd.f65) (c := B65) (by kernel_rfl) (by kernel_rfl) 28 (by kernel_rfl) ?_
 refine Goes.jp 29 [(0, (pt gx0 0))] (fun junk => ?_)
 delta M.syntax_parser_peek at h
 refine Goes.rn 6 [(2, .int .u8 0)] J5 ?_
 have z2 : Ext S0 w0 S0 (w0).drew := Ext.draw
 have p2 := p0.draw
 refine Goes.drawn (s := []) (F := Fc S0 (w0).drew [(⟨gx0, 3, none⟩, u2), (⟨gx0, 1, none⟩, .i x0v.at_), (⟨gx0, 0, none⟩, .string x0v.s)]) 1 17 (by kernel_rfl) (by kernel_rfl) (by kernel_rfl) (by kernel_rfl) ?_
 generalize (w0).drew = w2 at z2 p2 ⊢
 refine AnyG.pu 0 (.move (.tmp 0)) 3 66 ((pt gx0 0)) (Fc.here (p2.cs [(0, 3, 1), (0, 1, 1), (0, 0, 1)])) ?_
 refine AnyG.pu 1 (.nilCheck (.tmp 3)) 4 0 ((pt gx0 0)) (Fc.here (p2.cs [(0, 3, 1), (0, 1, 1), (0, 0, 1)])) ?_
 refine AnyG.pu 2 (.fieldAddr 69 (.tmp 4) 3) 5 0 ((pt gx0 3)) (Fc.here (p2.cs [(0, 3, 1), (0, 1, 1), (0, 0, 1)])) ?_
 refine AnyG.ld1 (i := 3) 67 (.tmp 5) 6 67 ⟨gx0, 3, none⟩ (u2) (by kernel_rfl) (by kernel_rfl) (Fc.here (p2.cs [(0, 3, 1), (0, 1, 1), (0, 0, 1)])) (by kernel_rfl) (by kernel_rfl) (fun _ h => h.2.at_ 0 rfl) ?_
 refine let_some h fun v8 h2 h => ?_
 rcases v8 with _ | y3
 ·
  try dsimp only at h
  obtain rfl := PtO.nil (u3.ext z2) h2
  refine AnyG.pu 4 (.binOp .neq 67 (.tmp 6) (.const (.pointer none)) 67) 7 4 (.bool false) (Fc.here (p2.cs [(0, 3, 1), (0, 1, 1), (0, 0, 1)])) ?_
  refine AnyG.pu 5 (.move (.tmp 7)) 8 4 (.bool false) (Fc.here (p2.cs [(0, 3, 1), (0, 1, 1), (0, 0, 1)])) ?_
  refine AnyG.pu 6 (.move (.tmp 0)) 9 66 ((pt gx0 0)) (Fc.here (p2.cs [(0, 3, 1), (0, 1, 1), (0, 0, 1)])) ?_
  refine AnyG.pu 7 (.nilCheck (.tmp 9)) 10 0 ((pt gx0 0)) (Fc.here (p2.cs [(0, 3, 1), (0, 1, 1), (0, 0, 1)])) ?_
  refine AnyG.pu 8 (.fieldAddr 69 (.tmp 10) 1) 11 0 ((pt gx0 1)) (Fc.here (p2.cs [(0, 3, 1), (0, 1, 1), (0, 0, 1)])) ?_
  refine AnyG.ld1 (i := 9) 3 (.tmp 11) 12 3 ⟨gx0, 1, none⟩ (.i x0v.at_) (by kernel_rfl) (by kernel_rfl) (Fc.here (p2.cs [(0, 3, 1), (0, 1, 1), (0, 0, 1)])) (by kernel_rfl) (by kernel_rfl) (fun _ h => h.2.at_ 1 rfl) ?_
  refine AnyG.pu 10 (.move (.tmp 0)) 13 66 ((pt gx0 0)) (Fc.here (p2.cs [(0, 3, 1), (0, 1, 1), (0, 0, 1)])) ?_
  refine AnyG.pu 11 (.nilCheck (.tmp 13)) 14 0 ((pt gx0 0)) (Fc.here (p2.cs [(0, 3, 1), (0, 1, 1), (0, 0, 1)])) ?_
  refine AnyG.pu 12 (.fieldAddr 69 (.tmp 14) 0) 15 0 ((pt gx0 0)) (Fc.here (p2.cs [(0, 3, 1), (0, 1, 1), (0, 0, 1)])) ?_
  refine AnyG.ld1 (i := 13) 9 (.tmp 15) 16 9 ⟨gx0, 0, none⟩ (.string x0v.s) (by kernel_rfl) (by kernel_rfl) (Fc.here (p2.cs [(0, 3, 1), (0, 1, 1), (0, 0, 1)])) (by kernel_rfl) (by kernel_rfl) (fun _ h => h.2.at_ 2 rfl) ?_
  refine AnyG.pu 14 (.call { callee := .builtin .len, args := #[(.tmp 16)], argTypes := #[9] }) 17 3 (.i (x0v.s.size : Int)) (Fc.here (p2.cs [(0, 3, 1), (0, 1, 1), (0, 0, 1)])) ?_
  refine AnyG.pu 15 (.binOp .geq 3 (.tmp 12) (.tmp 17) 3) 18 4 (.bool (decide (x0v.at_ ≥ (x0v.s.size : Int)))) (Fc.here (p2.cs [(0, 3, 1), (0, 1, 1), (0, 0, 1)])) ?_
  refine AnyG.pu 16 (.pick (.tmp 8) (.const (.bool true)) (.tmp 18)) 19 4 (.bool (decide (x0v.at_ ≥ (x0v.s.size : Int)))) (Fc.here (p2.cs [(0, 3, 1), (0, 1, 1), (0, 0, 1)])) ?_
  refine AnyG.done (by kernel_rfl) ?_ _
  exact Goes.jp 29 [(0, (pt gx0 0)), (19, .bool (decide (x0v.at_ ≥ (x0v.s.size : Int))))] (W.z1 gx0 _ _ h _ _ ((Ext.refl S0 w0).trans z2) (.pointer none) p2 rfl)
 ·
  try dsimp only at h
  obtain ⟨a5, _, rfl, -, f6, q7⟩ := PtO.got (u3.ext z2) h2
  obtain rfl := q7
  refine AnyG.pu 4 (.binOp .neq 67 (.tmp 6) (.const (.pointer none)) 67) 7 4 (.bool true) (Fc.here (p2.cs [(0, 3, 1), (0, 1, 1), (0, 0, 1)])) ?_
  refine AnyG.pu 5 (.move (.tmp 7)) 8 4 (.bool true) (Fc.here (p2.cs [(0, 3, 1), (0, 1, 1), (0, 0, 1)])) ?_
  refine AnyG.s1 6 9 (Fc.here (p2.cs [(0, 3, 1), (0, 1, 1), (0, 0, 1)])) ?_
  refine AnyG.s1 7 10 (Fc.here (p2.cs [(0, 3, 1), (0, 1, 1), (0, 0, 1)])) ?_
  refine AnyG.s1 8 11 (Fc.here (p2.cs [(0, 3, 1), (0, 1, 1), (0, 0, 1)])) ?_
  refine AnyG.s1 9 12 (Fc.here (p2.cs [(0, 3, 1), (0, 1, 1), (0, 0, 1)])) ?_
  refine AnyG.s1 10 13 (Fc.here (p2.cs [(0, 3, 1), (0, 1, 1), (0, 0, 1)])) ?_
  refine AnyG.s1 11 14 (Fc.here (p2.cs [(0, 3, 1), (0, 1, 1), (0, 0, 1)])) ?_
  refine AnyG.s1 12 15 (Fc.here (p2.cs [(0, 3, 1), (0, 1, 1), (0, 0, 1)])) ?_
  refine AnyG.s1 13 16 (Fc.here (p2.cs [(0, 3, 1), (0, 1, 1), (0, 0, 1)])) ?_
  refine AnyG.s1 14 17 (Fc.here (p2.cs [(0, 3, 1), (0, 1, 1), (0, 0, 1)])) ?_
  refine AnyG.s1 15 18 (Fc.here (p2.cs [(0, 3, 1), (0, 1, 1), (0, 0, 1)])) ?_
  refine AnyG.pu 16 (.pick (.tmp 8) (.const (.bool true)) (.tmp 18)) 19 4 (.bool true) (Fc.here (p2.cs [(0, 3, 1), (0, 1, 1), (0, 0, 1)])) ?_
  refine AnyG.done (by kernel_rfl) ?_ _
  exact Goes.jp 29 [(0, (pt gx0 0)), (19, .bool true)] (W.z1 gx0 _ _ h _ _ ((Ext.refl S0 w0).trans z2) (.pointer (some a5)) p2 ⟨_, _, rfl, List.cons_ne_nil _ _, f6, rfl⟩)

def Q6 := sub [1] B31
def J6 : List Item := [.code Q6]
def Q7 := sub [0] B31
def J7 : List Item := .inRegion (opsOf Q7) [0] :: J6
def Q8 := sub [1, 1] B31
def J8 : List Item := [.code Q8]
def Q9 := sub [1, 0, 1] B31
def J9 : List Item := .code Q9 :: J8
def Qa := sub [1, 0, 0] B31
def Ja : List Item := .inRegion (opsOf Qa) [3, 4] :: J9
def Qb := sub [1, 0, 1, 0] B31
def Jb : List Item := .inRegion (opsOf Qb) [3, 4, 5, 6] :: J8
def Jc : List Item := .inRegion (opsOf Qb) [6] :: J8
def Qc := sub [1, 1, 1] B31
def Jd : List Item := [.code Qc]
def Qd := sub [1, 1, 0] B31
def Je : List Item := .inRegion (opsOf Qd) [1] :: Jd

def Post.z2 (gx0 : Nat) (r : T27 × T68) (v : Value) (w' : World) : Prop :=
 ∃ S' u4 u5 u6 u0, v = (ag (.i r.1.Kind :: U4 r.1.Set [.slice u4 u5 u6, .i r.1.Min, .i r.1.Max])) ∧ Ext S0 w0 S' w' ∧ Hp nz wz S' w' ((some gx0, .row 69 [.string r.2.s, .i r.2.at_, .i r.2.deep, u0] 4 0) :: Lr) ∧ r.1.Set.length = 4 ∧ Rd kT27 S' w' u4 u6 r.1.L ∧ r.1.L.length = u5 ∧ PtO kT72 S' w' u0 r.2.bad

theorem W.z2 (x0v : T68) (x1 : Int) (r : T27 × T68) (h : M.syntax_parser_fail x0v x1 = some r) {nz wz S0 w0 Lr} [Gw nz wz] (gx0 u2) (p0 : Hp nz wz S0 w0 ((some gx0, .row 69 [.string x0v.s, .i x0v.at_, .i x0v.deep, u2] 4 0) :: Lr)) (u3 : PtO kT72 S0 w0 u2 x0v.bad) :
  Calls Tryd.prog 31 #[(pt gx0 0), .i x1] w0 (Rets (Post.z2 nz wz S0 w0 Lr gx0 r)) := by
 refine calls_of_goes (fn := Tryd.f31) (c := B31) (by kernel_rfl) (by kernel_rfl) 15 (by kernel_rfl) ?_
 refine Goes.jp 17 [(0, (pt gx0 0)), (1, .i x1)] (fun junk => ?_)
 delta M.syntax_parser_fail at h
 refine Goes.rn 2 [] J7 ?_
 refine Op_.alloc 28 4 0 (.agg #[.i 0, .u 0, .u 0, .u 0, .u 0, .slice none 0 0, .i 0, .i 0]) [.i 0, .u 0, .u 0, .u 0, .u 0, .slice none 0 0, .i 0, .i 0] p0 Goes.v (by kernel_rfl) (by kernel_rfl) ?_
 intro b2 w2 z2 p2
 refine Goes.rn 7 [(5, (pt gx0 0)), (6, (pt gx0 0)), (7, (pt gx0 3))] Ja ?_
 refine Goes.ld 67 (.tmp 7) 8 67 ⟨gx0, 3, none⟩ (u2) (p2.c 1 3) ?_
 refine let_some h fun v13 h4 h => ?_
 rcases v13 with _ | y5
 ·
  try dsimp only at h
  obtain rfl := PtO.nil (u3.ext z2) h4
  refine Goes.rn 7 [(9, .bool true), (10, (pt gx0 0)), (11, .i x1), (12, .agg #[.i x1])] Jb ?_
  refine Op_.box 73 (.tmp 12) 13 67 (.agg #[.i x1]) [.i x1] p2 Goes.v (by kernel_rfl) (by kernel_rfl) ?_
  intro b10 w3 z3 p3
  refine Goes.rn 2 [(14, (pt gx0 0)), (15, (pt gx0 3))] Jc ?_
  refine Op_.st 67 (.tmp 15) (.tmp 13) 0 2 gx0 3 ((pt b10 0)) [(pt b10 0)] p3 rfl Goes.s (by kernel_rfl) (by kernel_rfl) (by kernel_rfl) (by kernel_rfl) (Nat.zero_le _) (by simp only [List.length_cons, List.length_nil]; omega) (by simp [Value.oneCell']) ?_
  intro w4 z4 p4
  have p4 : Hp nz wz S0 w4 ((some b10, .row 73 [.i x1] 1 0) :: (some b2, .row 28 [.i 0, .u 0, .u 0, .u 0, .u 0, .slice none 0 0, .i 0, .i 0] 8 0) :: (some gx0, .row 69 [.string x0v.s, .i x0v.at_, .i x0v.deep, (pt b10 0)] 4 0) :: Lr) := p4
  refine Goes.rn 4 [(16, .agg #[.i 0, .u 0, .u 0, .u 0, .u 0, .slice none 0 0, .i 0, .i 0])] Je ?_
  refine Op_.st 28 (.tmp 4) (.tmp 16) 0 1 b2 0 (.agg #[.i 0, .u 0, .u 0, .u 0, .u 0, .slice none 0 0, .i 0, .i 0]) [.i 0, .u 0, .u 0, .u 0, .u 0, .slice none 0 0, .i 0, .i 0] p4 rfl Goes.s (by kernel_rfl) (by kernel_rfl) (by kernel_rfl) (by kernel_rfl) (Nat.zero_le _) (by simp only [List.length_cons, List.length_nil]; omega) (by simp [Value.oneCell']) ?_
  intro w5 z5 p5
  have p5 : Hp nz wz S0 w5 ((some b10, .row 73 [.i x1] 1 0) :: (some b2, .row 28 [.i 0, .u 0, .u 0, .u 0, .u 0, .slice none 0 0, .i 0, .i 0] 8 0) :: (some gx0, .row 69 [.string x0v.s, .i x0v.at_, .i x0v.deep, (pt b10 0)] 4 0) :: Lr) := p5
  refine Goes.rn 1 [] Jd ?_
  obtain ⟨S6, z6, p6, f12⟩ := p5.freezeBlk 0 rfl
  obtain rfl := Option.some.inj h
  exact Goes.ret (fn := Tryd.f31) (by kernel_rfl) (v := .agg #[.i 0, .u 0, .u 0, .u 0, .u 0, .slice none 0 0, .i 0, .i 0]) (results_n1 (fn := Tryd.f31) (a := .cell 4 28) (by kernel_rfl) (resV_cell ⟨b2, 0, none⟩ (by kernel_rfl) (run_loadN [.i 0, .u 0, .u 0, .u 0, .u 0, .slice none 0 0, .i 0, .i 0] (by kernel_rfl) (by kernel_rfl) (p6.pa 0 0)))) ⟨S6, none, 0, 0, (pt b10 0), rfl, ((((((Ext.refl S0 w0).trans z2).trans z3).trans z4).trans z5).trans z6), p6.drop, rfl, Rd.none_, rfl, ⟨_, _, rfl, List.cons_ne_nil _ _, f12, rfl⟩⟩
 ·
  try dsimp only at h
  obtain ⟨a7, _, rfl, -, f8, q9⟩ := PtO.got (u3.ext z2) h4
  obtain rfl := q9
  refine Goes.rn 7 [(9, .bool false), (16, .agg #[.i 0, .u 0, .u 0, .u 0, .u 0, .slice none 0 0, .i 0, .i 0])] Je ?_
  refine Op_.st 28 (.tmp 4) (.tmp 16) 0 0 b2 0 (.agg #[.i 0, .u 0, .u 0, .u 0, .u 0, .slice none 0 0, .i 0, .i 0]) [.i 0, .u 0, .u 0, .u 0, .u 0, .slice none 0 0, .i 0, .i 0] p2 rfl Goes.s (by kernel_rfl) (by kernel_rfl) (by kernel_rfl) (by kernel_rfl) (Nat.zero_le _) (by simp only [List.length_cons, List.length_nil]; omega) (by simp [Value.oneCell']) ?_
  intro w7 z7 p7
  have p7 : Hp nz wz S0 w7 ((some b2, .row 28 [.i 0, .u 0, .u 0, .u 0, .u 0, .slice none 0 0, .i 0, .i 0] 8 0) :: (some gx0, .row 69 [.string x0v.s, .i x0v.at_, .i x0v.deep, .pointer (some a7)] 4 0) :: Lr) := p7
  refine Goes.rn 1 [] Jd ?_
  obtain rfl := Option.some.inj h
  exact Goes.ret (fn := Tryd.f31) (by kernel_rfl) (v := .agg #[.i 0, .u 0, .u 0, .u 0, .u 0, .slice none 0 0, .i 0, .i 0]) (results_n1 (fn := Tryd.f31) (a := .cell 4 28) (by kernel_rfl) (resV_cell ⟨b2, 0, none⟩ (by kernel_rfl) (run_loadN [.i 0, .u 0, .u 0, .u 0, .u 0, .slice none 0 0, .i 0, .i 0] (by kernel_rfl) (by kernel_rfl) (p7.pa 0 0)))) ⟨S0, none, 0, 0, .pointer (some a7), rfl, (((Ext.refl S0 w0).trans z2).trans z7), p7.drop, rfl, Rd.none_, rfl, ⟨_, _, rfl, List.cons_ne_nil _ _, (f8.ext z7), rfl⟩⟩

def Qe := sub [1, 1] B48
def Jf : List Item := [.code Qe]
def Qf := sub [1, 0, 1] B48
def Jg : List Item := .code Qf :: Jf
def Qg := sub [1, 0, 1, 0, 1] B48
def Jh : List Item := .code Qg :: Jf
def Qh := sub [1, 1, 1] B48
def Ji : List Item := [.code Qh]
def Qi := sub [1, 1, 0] B48
def Jj : List Item := .inRegion (opsOf Qi) [3, 4, 5, 6, 7] :: Ji
def Jk : List Item := .inRegion (opsOf Qi) [7] :: Ji
def Qj := sub [1, 1, 1, 1] B48
def Jl : List Item := [.code Qj]

def Post.z3 (gx0 : Nat) (r : Bool × T68) (v : Value) (w' : World) : Prop :=
 ∃ S' u0, v = .bool r.1 ∧ Ext S0 w0 S' w' ∧ Hp nz wz S' w' ((some gx0, .row 69 [.string r.2.s, .i r.2.at_, .i r.2.deep, u0] 4 0) :: Lr) ∧ PtO kT72 S' w' u0 r.2.bad

def L.z4 (gx0 : Nat) : Bool × T68 → (Bool × T68) → Prop := fun ⟨x12, e0v⟩ r => ∀ S1 w1, Ext S0 w0 S1 w1 → ∀ u0 (_ : Hp nz wz S1 w1 ((some gx0, .row 69 [.string e0v.s, .i e0v.at_, .i e0v.deep, u0] 4 0) :: Lr)) (_ : PtO kT72 S1 w1 u0 e0v.bad) (junk : Nat → Value),
 Goes Tryd.prog (base 48) Jg ⟨lfr 20 [(0, (pt gx0 0)), (12, .bool x12)] junk, []⟩ w1 (Done Tryd.prog 48 (Rets (Post.z3 nz wz S0 w0 Lr gx0 r)))

theorem W.z4 {nz wz S0 w0 Lr} [Gw nz wz] (gx0 : Nat) : ∀ a r, M.syntax_parser_take_l0 a = some r → L.z4 nz wz S0 w0 Lr gx0 a r := by
 intro ⟨x12, e0v⟩ r h S1 w1 hx u0 p1 u1 junk
 rw [M.syntax_parser_take_l0] at h
 try dsimp only at h
 refine ite_some h (fun h5 h => ?_) (fun h5 h => ?_)
 ·
  rw [h5]
  refine Goes.rn 5 [(4, .bool false)] Jh ?_
  obtain rfl := Option.some.inj h
  exact Goes.rt Tryd.f48 (.bool false) ⟨S1, u0, rfl, hx, p1, u1⟩
 ·
  have h5' : x12 = false := by simpa using h5
  rw [h5']
  refine Goes.rn 7 [(13, (pt gx0 0)), (14, (pt gx0 0)), (15, (pt gx0 1))] Jj ?_
  refine Goes.ld 3 (.tmp 15) 16 3 ⟨gx0, 1, none⟩ (.i e0v.at_) (p1.c 0 1) ?_
  refine Goes.rn 3 [(17, .i (wr .i64 (e0v.at_ + 1))), (18, (pt gx0 0)), (19, (pt gx0 1))] Jk ?_
  refine Op_.st 3 (.tmp 19) (.tmp 17) 0 0 gx0 1 (.i (wr .i64 (e0v.at_ + 1))) [.i (wr .i64 (e0v.at_ + 1))] p1 rfl Goes.s (by kernel_rfl) (by kernel_rfl) (by kernel_rfl) (by kernel_rfl) (Nat.zero_le _) (by simp only [List.length_cons, List.length_nil]; omega) (by simp [Value.oneCell']) ?_
  intro w3 z3 p3
  have p3 : Hp nz wz S1 w3 ((some gx0, .row 69 [.string e0v.s, .i (wr .i64 (e0v.at_ + 1)), .i e0v.deep, u0] 4 0) :: Lr) := p3
  refine Goes.rn 5 [(4, .bool true)] Jl ?_
  obtain rfl := Option.some.inj h
  exact Goes.rt Tryd.f48 (.bool true) ⟨S1, u0, rfl, (hx.trans z3), p3, (u1.ext z3)⟩

def Qk := sub [1, 0, 0] B48
def Jm : List Item := .inRegion (opsOf Qk) [3, 4, 5, 6, 7] :: Jg
def Jn : List Item := .inRegion (opsOf Qk) [4, 5, 6, 7] :: Jg

theorem W.z3 (x0v : T68) (x1 : Int) (r : Bool × T68) (h : M.syntax_parser_take x0v x1 = some r) {nz wz S0 w0 Lr} [Gw nz wz] (gx0 u2) (p0 : Hp nz wz S0 w0 ((some gx0, .row 69 [.string x0v.s, .i x0v.at_, .i x0v.deep, u2] 4 0) :: Lr)) (u3 : PtO kT72 S0 w0 u2 x0v.bad) :
  Calls Tryd.prog 48 #[(pt gx0 0), .int .u8 x1] w0 (Rets (Post.z3 nz wz S0 w0 Lr gx0 r)) := by
 refine calls_of_goes (fn := Tryd.f48) (c := B48) (by kernel_rfl) (by kernel_rfl) 18 (by kernel_rfl) ?_
 refine Goes.jp 20 [(0, (pt gx0 0)), (1, .int .u8 x1)] (fun junk => ?_)
 delta M.syntax_parser_take at h
 refine Goes.rn 10 [(4, .bool false), (5, .int .u8 x1), (6, .bool (decide (x1 = 0))), (7, .bool (decide (x1 = 0)))] Jm ?_
 refine ite_some h (fun h2 h => ?_) (fun h2 h => ?_)
 ·
  rw [decide_eq_true h2]
  refine Goes.rn 6 [(8, undef), (9, undef), (10, undef), (11, undef), (12, .bool true)] Jg ?_
  exact Goes.jp 20 [(0, (pt gx0 0)), (12, .bool true)] (W.z4 gx0 _ _ h _ _ (Ext.refl S0 w0) u2 p0 u3)
 ·
  rw [decide_eq_false h2]
  refine Goes.rn 1 [(8, (pt gx0 0))] Jn ?_
  refine bind_some' h fun y3 e4 h => ?_
  refine Goes.cal (kc 65 [8] #[66]) 9 5 65 _ (W.z0 x0v y3 e4 gx0 u2 p0 u3) ?_
  rintro _ w2 ⟨S2, u7, rfl, z2, p2, u8⟩
  refine Goes.rn 4 [(10, .int .u8 x1), (11, .bool (!(decide (y3.1 = x1)))), (12, .bool (!(decide (y3.1 = x1))))] Jg ?_
  exact Goes.jp 20 [(0, (pt gx0 0)), (12, .bool (!(decide (y3.1 = x1))))] (W.z4 gx0 _ _ h _ _ ((Ext.refl S0 w0).trans z2) u7 p2 u8)

def Ql := sub [1] B90
def Jo : List Item := [.code Ql]
def Qm := sub [0] B90
def Jp : List Item := .inRegion (opsOf Qm) [0] :: Jo
def Qn := sub [1, 1] B90
def Jq : List Item := [.code Qn]
def Qo := sub [1, 0] B90
def Jr : List Item := .inRegion (opsOf Qo) [0] :: Jq
def Qp := sub [1, 1, 1] B90
def Js : List Item := [.code Qp]
def Qq := sub [1, 1, 0] B90
def Jt : List Item := .inRegion (opsOf Qq) [4, 5, 6] :: Js
def Qr := sub [1, 1, 1, 1] B90
def Ju : List Item := [.code Qr]
def Qs := sub [1, 1, 1, 0] B90
def Jv : List Item := .inRegion (opsOf Qs) [0, 1] :: Ju

def Post.z5 (r : List Int) (v : Value) (w' : World) : Prop :=
 ∃ S' vsq, v = .agg vsq.toArray ∧ Ext S0 w0 S' w' ∧ Hp nz wz S' w' (Lr) ∧ Els (kInt .u64) S' w' vsq r ∧ vsq.length = 4

theorem W.z5 (x0 : Int) (r : List Int) (h : M.syntax_one x0 = some r) {nz wz S0 w0 Lr} [Gw nz wz] (p0 : Hp nz wz S0 w0 (Lr)) :
  Calls Tryd.prog 90 #[.int .u8 x0] w0 (Rets (Post.z5 nz wz S0 w0 Lr r)) := by
 refine calls_of_goes (fn := Tryd.f90) (c := B90) (by kernel_rfl) (by kernel_rfl) 10 (by kernel_rfl) ?_
 refine Goes.jp 11 [(0, .int .u8 x0)] (fun junk => ?_)
 delta M.syntax_one at h
 refine Goes.rn 2 [] Jp ?_
 refine Op_.alloc 25 2 0 (.agg #[.u 0, .u 0, .u 0, .u 0]) [.u 0, .u 0, .u 0, .u 0] p0 Goes.v (by kernel_rfl) (by kernel_rfl) ?_
 intro b1 w2 z2 p2
 refine Goes.rn 3 [] Jr ?_
 refine Op_.alloc 25 3 0 (.agg #[.u 0, .u 0, .u 0, .u 0]) [.u 0, .u 0, .u 0, .u 0] p2 Goes.v (by kernel_rfl) (by kernel_rfl) ?_
 intro b3 w3 z3 p3
 refine Goes.rn 7 [(4, .int .u8 x0), (5, .int .u8 (iquo .u8 x0 64)), (6, .int .u8 x0), (7, .int .u8 (irem .u8 x0 64))] Jt ?_
 refine guard_some' h fun g5 h => ?_
 refine Op_.binshl 23 (.const (.int .u64 1)) (.tmp 7) 5 8 23 .u64 .u8 1 (irem .u8 x0 64) Goes.v (by kernel_rfl) (by kernel_rfl) g5 ?_
 have f6 : Els (kInt .u64) S0 w3 ([.u 0, .u 0, .u 0, .u 0] : List Value) [0, 0, 0, 0] := (Els.cons (K := (kInt .u64)) (vs := [.u 0]) (x := 0) rfl (Els.cons (K := (kInt .u64)) (vs := [.u 0]) (x := 0) rfl (Els.cons (K := (kInt .u64)) (vs := [.u 0]) (x := 0) rfl (Els.cons (K := (kInt .u64)) (vs := [.u 0]) (x := 0) rfl Els.nil))))
 refine guard_some' h fun g7 h => ?_
 refine guard_some' h fun g8 h => ?_
 refine Op_.ixA_n (K := (kInt .u64)) 25 (.tmp 3) (.tmp 5) 9 0 23 4 .u8 (iquo .u8 x0 64) 0 (gi [0, 0, 0, 0] (iquo .u8 x0 64)) rfl p3 rfl f6 (Els.len1 f6 rfl rfl) Goes.v (by kernel_rfl) (by kernel_rfl) (by kernel_rfl) (by kernel_rfl) g7 g8 ?_
 intro _ q10 f9
 obtain rfl := q10
 refine let_some h fun v11 e12 h => ?_
 refine Op_.stE_n (K := (kInt .u64)) 23 (.tmp 9) (.tmp 8) 0 0 (iquo .u8 x0 64) (.u (ishl .u64 1 (irem .u8 x0 64))) [.u (ishl .u64 1 (irem .u8 x0 64))] (ishl .u64 1 (irem .u8 x0 64)) v11 4 (Els.len1 f6 rfl rfl) e12 p3 rfl f6 Goes.s (by kernel_rfl) (by kernel_rfl) (by kernel_rfl) rfl (by kernel_rfl) g7 g8 (Nat.zero_le _) ?_
 intro w4 u9 z4 p4 f14 l15
 have l16 : u9.length = 4 := by rw [f14.length, l15]; rfl
 refine Goes.rn 3 [] Jv ?_
 refine Op_.ldN 25 (.tmp 3) 10 25 ⟨b3, 0, none⟩ u9 Goes.v (by kernel_rfl) (by kernel_rfl) (by rw [l16]; kernel_rfl) (At_all (p4.mem 0 rfl)) ?_
 have f17 : Els (kInt .u64) S0 w4 ([.u 0, .u 0, .u 0, .u 0] : List Value) [0, 0, 0, 0] := (Els.cons (K := (kInt .u64)) (vs := [.u 0]) (x := 0) rfl (Els.cons (K := (kInt .u64)) (vs := [.u 0]) (x := 0) rfl (Els.cons (K := (kInt .u64)) (vs := [.u 0]) (x := 0) rfl (Els.cons (K := (kInt .u64)) (vs := [.u 0]) (x := 0) rfl Els.nil))))
 refine Op_.stA 25 (.tmp 2) (.tmp 10) 0 1 b1 4 u9 p4 rfl rfl Goes.s (by kernel_rfl) (by kernel_rfl) (by kernel_rfl) l16 (Els.one f14) ?_
 intro w5 z5 p5
 refine Goes.rn 1 [] Ju ?_
 obtain rfl := Option.some.inj h
 have p5 := p5.dp 0
 exact Goes.ret (fn := Tryd.f90) (by kernel_rfl) (v := .agg u9.toArray) (results_n1 (fn := Tryd.f90) (a := .cell 2 25) (by kernel_rfl) (resV_cell ⟨b1, 0, none⟩ (by kernel_rfl) (run_loadN u9 (by kernel_rfl) (by rw [l16]; kernel_rfl) (At_all (p5.mem 0 rfl))))) ⟨S0, u9, rfl, (((((Ext.refl S0 w0).trans z2).trans z3).trans z4).trans z5), p5.drop, (f14.ext z5), l16⟩

def Qt := sub [1, 1] B89
def Jw : List Item := [.code Qt]
def Jx : List Item := .inBlock 0 :: Jw
def Qu := sub [1, 0, 1, 0, 0] B89
def Jy : List Item := .inLoop Qu :: Jx
def Jz : List Item := .code Qu :: Jy
def Qv := sub [1, 0, 1, 0, 0, 1, 1] B89
def J10 : List Item := .code Qv :: Jy
def Qw := sub [1, 0, 1, 0, 0, 1, 0] B89
def J11 : List Item := .code Qw :: J10
def Qx := sub [1, 0, 1, 0, 0, 1, 1, 1] B89
def J12 : List Item := .code Qx :: Jy
def J13 : List Item := .inBlock 1 :: J12
def Qy := sub [1, 0, 1, 0, 0, 1, 1, 0, 0, 1] B89
def J14 : List Item := .inRegion (opsOf Qy) [2, 3, 4, 5, 6] :: J13
def J15 : List Item := .inRegion (opsOf Qy) [5, 6] :: J13
def Qz := sub [1, 1, 1] B89
def J16 : List Item := [.code Qz]
def Q10 := sub [1, 1, 0] B89
def J17 : List Item := .inRegion (opsOf Q10) [0, 1] :: J16

def Post.z6 (r : List Int) (v : Value) (w' : World) : Prop :=
 ∃ S' vsq, v = .agg vsq.toArray ∧ Ext S0 w0 S' w' ∧ Hp nz wz S' w' (Lr) ∧ Els (kInt .u64) S' w' vsq r ∧ vsq.length = 4

def L.z7 : (List Int) × (List Int) × Int → (List Int) → Prop := fun ⟨x1, ua, x4⟩ r => ∀ S1 w1, Ext S0 w0 S1 w1 → ∀ gx1 ub gx2 (_ : Hp nz wz S1 w1 ((some gx1, .row 25 ub 4 0) :: (some gx2, .row 25 (U4 ua []) 4 0) :: Lr)) (_ : Els (kInt .u64) S1 w1 ub x1) (_ : ub.length = 4) (_ : ua.length = 4) (junk : Nat → Value),
 Goes Tryd.prog (base 89) Jz ⟨lfr 15 [(1, (pt gx1 0)), (2, (pt gx2 0)), (4, .i x4)] junk, []⟩ w1 (Done Tryd.prog 89 (Rets (Post.z6 nz wz S0 w0 Lr r)))

theorem W.z7 {nz wz S0 w0 Lr} [Gw nz wz] : ∀ a r, M.syntax_not_l0 a = some r → (L.z7 nz wz S0 w0 Lr) a r := by
 refine M.syntax_not_l0.partial_correctness (motive := (L.z7 nz wz S0 w0 Lr)) ?_
 intro uc ud ⟨x1, ua, x4⟩ r h S1 w1 hx gx1 ub gx2 p1 fx1 lx1 ue junk
 try dsimp only at h
 refine Goes.rn 5 [(5, .bool (decide (x4 < 4)))] J11 ?_
 refine ite_some h (fun h7 h => ?_) (fun h7 h => ?_)
 ·
  rw [decide_eq_true h7]
  refine Goes.rn 12 [(6, .i x4), (3, .i x4), (7, .i x4), (8, .i x4)] J14 ?_
  refine guard_some' h fun g8 h => ?_
  refine Op_.ixA_n (K := (kInt .u64)) 25 (.tmp 1) (.tmp 8) 9 0 23 4 .i64 x4 0 (gi x1 x4) rfl p1 rfl fx1 (Els.len1 fx1 lx1 rfl) Goes.v (by kernel_rfl) (by kernel_rfl) (by kernel_rfl) (by kernel_rfl) g8 h7 ?_
  intro _ q10 f9
  obtain rfl := q10
  refine Goes.ld 23 (.tmp 9) 10 23 ⟨gx1, (x4 : Int).toNat * (kInt .u64).size, none⟩ (.u (gi x1 x4)) (f9 0 _ rfl) ?_
  refine Goes.rn 1 [(11, .u (ixor .u64 18446744073709551615 (gi x1 x4)))] J15 ?_
  refine Op_.ixA_n (K := (kInt .u64)) 25 (.tmp 1) (.tmp 7) 12 0 23 4 .i64 x4 0 (gi x1 x4) rfl p1 rfl fx1 (Els.len1 fx1 lx1 rfl) Goes.v (by kernel_rfl) (by kernel_rfl) (by kernel_rfl) (by kernel_rfl) g8 h7 ?_
  intro _ q12 f11
  obtain rfl := q12
  refine let_some h fun v13 e14 h => ?_
  refine Op_.stE_n (K := (kInt .u64)) 23 (.tmp 12) (.tmp 11) 0 0 x4 (.u (ixor .u64 18446744073709551615 (gi x1 x4))) [.u (ixor .u64 18446744073709551615 (gi x1 x4))] (ixor .u64 18446744073709551615 (gi x1 x4)) v13 4 (Els.len1 fx1 lx1 rfl) e14 p1 rfl fx1 Goes.s (by kernel_rfl) (by kernel_rfl) (by kernel_rfl) rfl (by kernel_rfl) g8 h7 (Nat.zero_le _) ?_
  intro w4 uf z4 p4 f16 l17
  have l18 : uf.length = 4 := by rw [f16.length, l17]; rfl
  refine Goes.rn 7 [(13, .i (wr .i64 (x4 + 1))), (4, .i (wr .i64 (x4 + 1)))] Jz ?_
  exact Goes.jp 15 [(1, (pt gx1 0)), (2, (pt gx2 0)), (4, .i (wr .i64 (x4 + 1)))] (ud _ _ h _ _ (hx.trans z4) gx1 uf gx2 p4 f16 l18 ue)
 ·
  rw [decide_eq_false h7]
  refine Goes.rn 4 [] J17 ?_
  refine Op_.ldN 25 (.tmp 1) 14 25 ⟨gx1, 0, none⟩ ub Goes.v (by kernel_rfl) (by kernel_rfl) (by rw [lx1]; kernel_rfl) (At_all (p1.mem 0 rfl)) ?_
  have f19 : Els (kInt .u64) S1 w1 ((U4 ua []) : List Value) ua := (els_mk4 (k := .u64) ue)
  refine Op_.stA 25 (.tmp 2) (.tmp 14) 0 1 gx2 4 ub p1 rfl rfl Goes.s (by kernel_rfl) (by kernel_rfl) (by kernel_rfl) lx1 (Els.one fx1) ?_
  intro w5 z5 p5
  refine Goes.rn 1 [] J16 ?_
  obtain rfl := Option.some.inj h
  have p5 := p5.dp 0
  exact Goes.ret (fn := Tryd.f89) (by kernel_rfl) (v := .agg ub.toArray) (results_n1 (fn := Tryd.f89) (a := .cell 2 25) (by kernel_rfl) (resV_cell ⟨gx2, 0, none⟩ (by kernel_rfl) (run_loadN ub (by kernel_rfl) (by rw [lx1]; kernel_rfl) (At_all (p5.mem 0 rfl))))) ⟨S1, ub, rfl, (hx.trans z5), p5.drop, (fx1.ext z5), lx1⟩

def Q11 := sub [1] B89
def J18 : List Item := [.code Q11]
def Q12 := sub [0] B89
def J19 : List Item := .inRegion (opsOf Q12) [0, 1] :: J18

theorem W.z6 (x0 : List Int) (r : List Int) (h : M.syntax_not x0 = some r) {nz wz S0 w0 Lr} [Gw nz wz] (ug) (p0 : Hp nz wz S0 w0 (Lr)) (fx0 : Els (kInt .u64) S0 w0 ug x0) (lx0 : ug.length = 4) :
  Calls Tryd.prog 89 #[.agg ug.toArray] w0 (Rets (Post.z6 nz wz S0 w0 Lr r)) := by
 refine calls_of_goes (fn := Tryd.f89) (c := B89) (by kernel_rfl) (by kernel_rfl) 14 (by kernel_rfl) ?_
 refine Goes.jp 15 [(0, .agg ug.toArray)] (fun junk => ?_)
 delta M.syntax_not at h
 refine Goes.rn 2 [] J19 ?_
 refine Op_.box 25 (.tmp 0) 1 0 (.agg ug.toArray) ug p0 Goes.v (by kernel_rfl) rfl ?_
 intro b1 w2 z2 p2
 replace p2 : Hp nz wz S0 w2 ((some b1, .row 25 ug 4 0) :: Lr) := by rw [show (ug).length = 4 from lx0] at p2; exact p2
 refine Op_.alloc 25 2 0 (.agg #[.u 0, .u 0, .u 0, .u 0]) [.u 0, .u 0, .u 0, .u 0] p2 Goes.v (by kernel_rfl) (by kernel_rfl) ?_
 intro b3 w3 z3 p3
 refine Goes.rn 8 [(4, .i 0)] Jz ?_
 have p3 := (p3.fr 0).fr 1
 exact Goes.jp 15 [(1, (pt b1 0)), (2, (pt b3 0)), (4, .i 0)] (W.z7 _ _ h _ _ (((Ext.refl S0 w0).trans z2).trans z3) b1 ug b3 p3 (fx0.ext (z2.trans z3)) lx0 rfl)

def Q13 := sub [1] B101
def J1a : List Item := [.code Q13]
def Q14 := sub [0] B101
def J1b : List Item := .inRegion (opsOf Q14) [0, 1] :: J1a
def Q15 := sub [1, 1] B101
def J1c : List Item := [.code Q15]

def Post.z8 (gx0 : Nat) (u2 : Value) (x0v : T68) (r : Unit) (v : Value) (w' : World) : Prop :=
 ∃ S' uh, v = .func (.func 111) #[] #[(pt uh 0)] ∧ Ext S0 w0 S' w' ∧ Hp nz wz S' w' ((some uh, .row 66 [(pt gx0 0)] 1 0) :: (some gx0, .row 69 [.string x0v.s, .i x0v.at_, .i x0v.deep, u2] 4 0) :: Lr)

theorem W.z8 (x0v : T68) (r : Unit) (h : M.syntax_parser_items x0v = some r) {nz wz S0 w0 Lr} [Gw nz wz] (gx0 u2) (p0 : Hp nz wz S0 w0 ((some gx0, .row 69 [.string x0v.s, .i x0v.at_, .i x0v.deep, u2] 4 0) :: Lr)) (u3 : PtO kT72 S0 w0 u2 x0v.bad) :
  Calls Tryd.prog 101 #[(pt gx0 0)] w0 (Rets (Post.z8 nz wz S0 w0 Lr gx0 u2 x0v r)) := by
 refine calls_of_goes (fn := Tryd.f101) (c := B101) (by kernel_rfl) (by kernel_rfl) 3 (by kernel_rfl) ?_
 refine Goes.jp 4 [(0, (pt gx0 0))] (fun junk => ?_)
 delta M.syntax_parser_items at h
 refine Goes.rn 2 [] J1b ?_
 refine Op_.box 66 (.tmp 0) 1 0 ((pt gx0 0)) [(pt gx0 0)] p0 Goes.v (by kernel_rfl) (by kernel_rfl) ?_
 intro b2 w2 z2 p2
 refine Goes.rn 7 [(2, .func (.func 111) #[] #[(pt b2 0)]), (3, .func (.func 111) #[] #[(pt b2 0)])] J1c ?_
 obtain rfl := Option.some.inj h
 exact Goes.rt Tryd.f101 (.func (.func 111) #[] #[(pt b2 0)]) ⟨S0, b2, rfl, ((Ext.refl S0 w0).trans z2), p2⟩

def Q16 := sub [1, 1, 1] B113
def J1d : List Item := [.code Q16]
def J1e : List Item := .inBlock 0 :: J1d
def Q17 := sub [1, 1, 0, 1, 0, 0] B113
def J1f : List Item := .inLoop Q17 :: J1e
def J1g : List Item := .code Q17 :: J1f
def Q18 := sub [1, 1, 0, 1, 0, 0, 1] B113
def J1h : List Item := .code Q18 :: J1f
def Q19 := sub [1, 1, 0, 1, 0, 0, 0, 1] B113
def J1i : List Item := .code Q19 :: J1h
def Q1a := sub [1, 1, 0, 1, 0, 0, 1, 1] B113
def J1j : List Item := .code Q1a :: J1f
def J1k : List Item := .inBlock 1 :: J1j
def Q1b := sub [1, 1, 0, 1, 0, 0, 1, 0, 0] B113
def J1l : List Item := .code Q1b :: J1k
def Q1c := sub [1, 1, 1, 1] B113
def J1m : List Item := [.code Q1c]
def Q1d := sub [1, 1, 1, 0] B113
def J1n : List Item := .inRegion (opsOf Q1d) [0, 1] :: J1m

def Post.z9 (r : List Int) (v : Value) (w' : World) : Prop :=
 ∃ S' vsq, v = .agg vsq.toArray ∧ Ext S0 w0 S' w' ∧ Hp nz wz S' w' (Lr) ∧ Els (kInt .u64) S' w' vsq r ∧ vsq.length = 4

def L.za : Int × (List Int) × (List Int) × Int → (List Int) → Prop := fun ⟨x1, ui, x5, x6⟩ r => ∀ S1 w1, Ext S0 w0 S1 w1 → ∀ gx4 gx5 uj (_ : Hp nz wz S1 w1 ((some gx4, .row 25 (U4 ui []) 4 0) :: (some gx5, .row 25 uj 4 0) :: Lr)) (_ : ui.length = 4) (_ : Els (kInt .u64) S1 w1 uj x5) (_ : uj.length = 4) (junk : Nat → Value),
 Goes Tryd.prog (base 113) J1g ⟨lfr 25 [(1, .int .u8 x1), (4, (pt gx4 0)), (5, (pt gx5 0)), (6, .i x6)] junk, []⟩ w1 (Done Tryd.prog 113 (Rets (Post.z9 nz wz S0 w0 Lr r)))

theorem W.za {nz wz S0 w0 Lr} [Gw nz wz] : ∀ a r, M.syntax_span_l0 a = some r → (L.za nz wz S0 w0 Lr) a r := by
 refine M.syntax_span_l0.partial_correctness (motive := (L.za nz wz S0 w0 Lr)) ?_
 intro uk ul ⟨x1, ui, x5, x6⟩ r h S1 w1 hx gx4 gx5 uj p1 um fx5 lx5 junk
 try dsimp only at h
 refine Goes.rn 8 [(9, .i x6), (10, .int .u8 x1), (11, .i (wr .i64 x1)), (12, .bool (decide (x6 ≤ wr .i64 x1)))] J1i ?_
 refine ite_some h (fun h8 h => ?_) (fun h8 h => ?_)
 ·
  rw [decide_eq_true h8]
  refine Goes.rn 4 [] J1l ?_
  have z4 : Ext S1 w1 S1 (w1).drew := Ext.draw
  have p4 := p1.draw
  refine Goes.drawn (s := [9]) (F := Fc S1 (w1).drew ([] ++ (rowCells gx5 uj ++ []))) 5 10 (by kernel_rfl) (by kernel_rfl) (by kernel_rfl) (by kernel_rfl) ?_
  generalize (w1).drew = w4 at z4 p4 ⊢
  refine AnyG.pu 0 (.move (.tmp 6)) 15 3 (.i x6) (Fc.here (Cells.app trivial (Cells.app (Cells.row (p4.mem 1 rfl).cell) trivial))) ?_
  refine AnyG.pu 1 (.binOp .quo 3 (.tmp 15) (.const (.int .i64 64)) 3) 16 3 (.i (iquo .i64 x6 64)) (Fc.here (Cells.app trivial (Cells.app (Cells.row (p4.mem 1 rfl).cell) trivial))) ?_
  refine guard_some' h fun g9 h => ?_
  refine guard_some' h fun g10 h => ?_
  refine AnyG.ixA_n (i := 2) (K := (kInt .u64)) 25 (.tmp 5) (.tmp 16) 17 0 23 4 .i64 (iquo .i64 x6 64) 1 (gi x5 (iquo .i64 x6 64)) rfl p4 rfl (fx5.ext z4) (Els.len1 (fx5.ext z4) lx5 rfl) (by kernel_rfl) (by kernel_rfl) (Fc.here (Cells.app trivial (Cells.app (Cells.row (p4.mem 1 rfl).cell) trivial))) (by kernel_rfl) (by kernel_rfl) (by kernel_rfl) (by kernel_rfl) g9 g10 ?_
  intro _ q12 f13 f11
  obtain rfl := q12
  refine AnyG.ld1 (i := 3) 23 (.tmp 17) 18 23 ⟨gx5, (iquo .i64 x6 64 : Int).toNat * (kInt .u64).size, none⟩ (.u (gi x5 (iquo .i64 x6 64))) (by kernel_rfl) (by kernel_rfl) (Fc.here (Cells.app trivial (Cells.app (Cells.row (p4.mem 1 rfl).cell) trivial))) (by kernel_rfl) (by kernel_rfl) (fun _ h => h.2.right.left.rowAt (f13 0 _ rfl)) ?_
  refine AnyG.pu 4 (.move (.tmp 6)) 19 3 (.i x6) (Fc.here (Cells.app trivial (Cells.app (Cells.row (p4.mem 1 rfl).cell) trivial))) ?_
  refine AnyG.pu 5 (.binOp .rem 3 (.tmp 19) (.const (.int .i64 64)) 3) 20 3 (.i (irem .i64 x6 64)) (Fc.here (Cells.app trivial (Cells.app (Cells.row (p4.mem 1 rfl).cell) trivial))) ?_
  refine guard_some' h fun g14 h => ?_
  refine AnyG.binshl (i := 6) 23 (.const (.int .u64 1)) (.tmp 20) 3 21 23 .u64 .i64 1 (irem .i64 x6 64) (by kernel_rfl) (by kernel_rfl) (Fc.here (Cells.app trivial (Cells.app (Cells.row (p4.mem 1 rfl).cell) trivial))) (by kernel_rfl) (by kernel_rfl) g14 ?_
  refine AnyG.pu 7 (.binOp .or 23 (.tmp 18) (.tmp 21) 23) 22 23 (.u (ior .u64 (gi x5 (iquo .i64 x6 64)) (ishl .u64 1 (irem .i64 x6 64)))) (Fc.here (Cells.app trivial (Cells.app (Cells.row (p4.mem 1 rfl).cell) trivial))) ?_
  refine AnyG.ixA_n (i := 8) (K := (kInt .u64)) 25 (.tmp 5) (.tmp 16) 23 0 23 4 .i64 (iquo .i64 x6 64) 1 (gi x5 (iquo .i64 x6 64)) rfl p4 rfl (fx5.ext z4) (Els.len1 (fx5.ext z4) lx5 rfl) (by kernel_rfl) (by kernel_rfl) (Fc.here (Cells.app trivial (Cells.app (Cells.row (p4.mem 1 rfl).cell) trivial))) (by kernel_rfl) (by kernel_rfl) (by kernel_rfl) (by kernel_rfl) g9 g10 ?_
  intro _ q16 f17 f15
  obtain rfl := q16
  refine let_some h fun v18 e19 h => ?_
  refine Op_.stE_n (K := (kInt .u64)) 23 (.tmp 23) (.tmp 22) 0 1 (iquo .i64 x6 64) (.u (ior .u64 (gi x5 (iquo .i64 x6 64)) (ishl .u64 1 (irem .i64 x6 64)))) [.u (ior .u64 (gi x5 (iquo .i64 x6 64)) (ishl .u64 1 (irem .i64 x6 64)))] (ior .u64 (gi x5 (iquo .i64 x6 64)) (ishl .u64 1 (irem .i64 x6 64))) v18 4 (Els.len1 (fx5.ext z4) lx5 rfl) e19 p4 rfl (fx5.ext z4) (AnyG.ss (i := 9) (by kernel_rfl) (by kernel_rfl)) (by kernel_rfl) (by kernel_rfl) (by kernel_rfl) rfl (by kernel_rfl) g9 g10 (Nat.zero_le _) ?_
  intro w5 un z5 p5 f21 l22
  have l23 : un.length = 4 := by rw [f21.length, l22]; rfl
  refine AnyG.last [] (Fc S1 w5 []) (by decide) ?_
  refine AnyG.done (by kernel_rfl) ?_ _
  refine Goes.rn 7 [(13, .i x6), (14, .i (wr .i64 (x6 + 1))), (6, .i (wr .i64 (x6 + 1)))] J1g ?_
  exact Goes.jp 25 [(1, .int .u8 x1), (4, (pt gx4 0)), (5, (pt gx5 0)), (6, .i (wr .i64 (x6 + 1)))] (ul _ _ h _ _ ((hx.trans z4).trans z5) gx4 gx5 un p5 um f21 l23)
 ·
  rw [decide_eq_false h8]
  refine Goes.rn 4 [] J1n ?_
  refine Op_.ldN 25 (.tmp 5) 24 25 ⟨gx5, 0, none⟩ uj Goes.v (by kernel_rfl) (by kernel_rfl) (by rw [lx5]; kernel_rfl) (At_all (p1.mem 1 rfl)) ?_
  have f24 : Els (kInt .u64) S1 w1 ((U4 ui []) : List Value) ui := (els_mk4 (k := .u64) um)
  refine Op_.stA 25 (.tmp 4) (.tmp 24) 0 0 gx4 4 uj p1 rfl rfl Goes.s (by kernel_rfl) (by kernel_rfl) (by kernel_rfl) lx5 (Els.one fx5) ?_
  intro w6 z6 p6
  refine Goes.rn 1 [] J1m ?_
  obtain rfl := Option.some.inj h
  have p6 := p6.dp 1
  exact Goes.ret (fn := Tryd.f113) (by kernel_rfl) (v := .agg uj.toArray) (results_n1 (fn := Tryd.f113) (a := .cell 4 25) (by kernel_rfl) (resV_cell ⟨gx4, 0, none⟩ (by kernel_rfl) (run_loadN uj (by kernel_rfl) (by rw [lx5]; kernel_rfl) (At_all (p6.mem 0 rfl))))) ⟨S1, uj, rfl, (hx.trans z6), p6.drop, (fx5.ext z6), lx5⟩

def Q1e := sub [1] B113
def J1o : List Item := [.code Q1e]
def Q1f := sub [0] B113
def J1p : List Item := .inRegion (opsOf Q1f) [0] :: J1o
def Q1g := sub [1, 1] B113
def J1q : List Item := [.code Q1g]
def Q1h := sub [1, 0] B113
def J1r : List Item := .inRegion (opsOf Q1h) [0] :: J1q

theorem W.z9 (x0 : Int) (x1 : Int) (r : List Int) (h : M.syntax_span x0 x1 = some r) {nz wz S0 w0 Lr} [Gw nz wz] (p0 : Hp nz wz S0 w0 (Lr)) :
  Calls Tryd.prog 113 #[.int .u8 x0, .int .u8 x1] w0 (Rets (Post.z9 nz wz S0 w0 Lr r)) := by
 refine calls_of_goes (fn := Tryd.f113) (c := B113) (by kernel_rfl) (by kernel_rfl) 23 (by kernel_rfl) ?_
 refine Goes.jp 25 [(0, .int .u8 x0), (1, .int .u8 x1)] (fun junk => ?_)
 delta M.syntax_span at h
 refine Goes.rn 2 [] J1p ?_
 refine Op_.alloc 25 4 0 (.agg #[.u 0, .u 0, .u 0, .u 0]) [.u 0, .u 0, .u 0, .u 0] p0 Goes.v (by kernel_rfl) (by kernel_rfl) ?_
 intro b1 w2 z2 p2
 refine Goes.rn 3 [] J1r ?_
 refine Op_.alloc 25 5 0 (.agg #[.u 0, .u 0, .u 0, .u 0]) [.u 0, .u 0, .u 0, .u 0] p2 Goes.v (by kernel_rfl) (by kernel_rfl) ?_
 intro b3 w3 z3 p3
 refine Goes.rn 10 [(7, .int .u8 x0), (8, .i (wr .i64 x0)), (6, .i (wr .i64 x0))] J1g ?_
 have f7 : Els (kInt .u64) S0 w3 ([.u 0, .u 0, .u 0, .u 0] : List Value) [0, 0, 0, 0] := (Els.cons (K := (kInt .u64)) (vs := [.u 0]) (x := 0) rfl (Els.cons (K := (kInt .u64)) (vs := [.u 0]) (x := 0) rfl (Els.cons (K := (kInt .u64)) (vs := [.u 0]) (x := 0) rfl (Els.cons (K := (kInt .u64)) (vs := [.u 0]) (x := 0) rfl Els.nil))))
 have p3 := (p3.fr 0).fr 1
 exact Goes.jp 25 [(1, .int .u8 x1), (4, (pt b1 0)), (5, (pt b3 0)), (6, .i (wr .i64 x0))] (W.za _ _ h _ _ (((Ext.refl S0 w0).trans z2).trans z3) b1 b3 ([.u 0, .u 0, .u 0, .u 0] : List Value) p3 rfl f7 rfl)

def Q1i := sub [1, 1, 1] B102
def J1s : List Item := [.code Q1i]
def J1t : List Item := .inBlock 0 :: J1s
def Q1j := sub [1, 1, 0, 1, 0, 0] B102
def J1u : List Item := .inLoop Q1j :: J1t
def J1v : List Item := .code Q1j :: J1u
def Q1k := sub [1, 1, 0, 1, 0, 0, 1, 1, 1] B102
def J1w : List Item := .code Q1k :: J1u
def J1x : List Item := .inBlock 1 :: J1w
def J1y : List Item := .inBlock 2 :: J1x
def Q1l := sub [1, 1, 0, 1, 0, 0, 1, 1, 0, 0, 1, 1, 0, 0] B102
def J1z : List Item := .inLoop Q1l :: J1y
def J20 : List Item := .code Q1l :: J1z
def Q1m := sub [1, 1, 0, 1, 0, 0, 1, 1] B102
def J21 : List Item := .code Q1m :: J1u
def Q1n := sub [1, 1, 0, 1, 0, 0, 1, 0] B102
def J22 : List Item := .code Q1n :: J21
def Q1o := sub [1, 1, 0, 1, 0, 0, 1, 1, 0, 0, 1] B102
def J23 : List Item := .code Q1o :: J1x
def Q1p := sub [1, 1, 0, 1, 0, 0, 1, 1, 0, 0, 0] B102
def J24 : List Item := .inRegion (opsOf Q1p) [0, 1, 2, 3] :: J23
def Q1q := sub [1, 1, 1, 1] B102
def J25 : List Item := [.code Q1q]
def Q1r := sub [1, 1, 1, 0] B102
def J26 : List Item := .inRegion (opsOf Q1r) [0, 1] :: J25
def Q1s := sub [1, 1, 0, 1, 0, 0, 1, 1, 0, 0, 1, 1, 0, 0, 1, 1] B102
def J27 : List Item := .code Q1s :: J1z
def Q1t := sub [1, 1, 0, 1, 0, 0, 1, 1, 0, 0, 1, 1, 0, 0, 1, 0] B102
def J28 : List Item := .code Q1t :: J27
def Q1u := sub [1, 1, 0, 1, 0, 0, 1, 1, 0, 0, 1, 1, 0, 0, 1, 1, 1] B102
def J29 : List Item := .code Q1u :: J1z
def J2a : List Item := .inBlock 3 :: J29
def Q1v := sub [1, 1, 0, 1, 0, 0, 1, 1, 0, 0, 1, 1, 0, 0, 1, 1, 0, 0, 1] B102
def J2b : List Item := .code Q1v :: J2a

def Post.zb (r : List Int) (v : Value) (w' : World) : Prop :=
 ∃ S' vsq, v = .agg vsq.toArray ∧ Ext S0 w0 S' w' ∧ Hp nz wz S' w' (Lr) ∧ Els (kInt .u64) S' w' vsq r ∧ vsq.length = 4

def L.zc : (List Int) × (List Int) × (List (List Int)) × Int × Int → (List Int) → Prop := fun ⟨ua, x3, x7, x8, x9⟩ r => ∀ S1 w1, Ext S0 w0 S1 w1 → ∀ gx2 gx3 uo Ax7 nx7 cx7 (_ : Hp nz wz S1 w1 ((some gx2, .row 25 (U4 ua []) 4 0) :: (some gx3, .row 25 uo 4 0) :: Lr)) (_ : ua.length = 4) (_ : Els (kInt .u64) S1 w1 uo x3) (_ : uo.length = 4) (_ : Rd (kArr 4 (kInt .u64)) S1 w1 Ax7 cx7 x7) (_ : x7.length = nx7) (junk : Nat → Value),
 Goes Tryd.prog (base 102) J1v ⟨lfr 27 [(2, (pt gx2 0)), (3, (pt gx3 0)), (7, .slice Ax7 nx7 cx7), (8, .i x8), (9, .i x9)] junk, []⟩ w1 (Done Tryd.prog 102 (Rets (Post.zb nz wz S0 w0 Lr r)))

def L.zd : (List Int) × (List Int) × (List Int) × (List (List Int)) × Int × Int × Int → (List Int) → Prop := fun ⟨ua, x3, x5, x7, x8, x9, x13⟩ r => ∀ S1 w1, Ext S0 w0 S1 w1 → ∀ gx2 gx3 uo gx5 uj Ax7 nx7 cx7 (_ : Hp nz wz S1 w1 ((some gx2, .row 25 (U4 ua []) 4 0) :: (some gx3, .row 25 uo 4 0) :: (some gx5, .row 25 uj 4 0) :: Lr)) (_ : ua.length = 4) (_ : Els (kInt .u64) S1 w1 uo x3) (_ : uo.length = 4) (_ : Els (kInt .u64) S1 w1 uj x5) (_ : uj.length = 4) (_ : Rd (kArr 4 (kInt .u64)) S1 w1 Ax7 cx7 x7) (_ : x7.length = nx7) (junk : Nat → Value),
 Goes Tryd.prog (base 102) J20 ⟨lfr 27 [(2, (pt gx2 0)), (3, (pt gx3 0)), (5, (pt gx5 0)), (7, .slice Ax7 nx7 cx7), (8, .i x8), (9, .i x9), (13, .i x13)] junk, []⟩ w1 (Done Tryd.prog 102 (Rets (Post.zb nz wz S0 w0 Lr r)))

theorem W.ze {nz wz S0 w0 Lr} [Gw nz wz] : (∀ a r, M.syntax_join_l0 a = some r → (L.zc nz wz S0 w0 Lr) a r) ∧ (∀ a r, M.syntax_join_l1 a = some r → (L.zd nz wz S0 w0 Lr) a r) := by
 refine M.syntax_join_l0.mutual_partial_correctness (L.zc nz wz S0 w0 Lr) (L.zd nz wz S0 w0 Lr) ?_ ?_
 ·
  intro up uq ⟨ua, x3, x7, x8, x9⟩ r h S1 w1 hx gx2 gx3 uo Ax7 nx7 cx7 p1 ue fx3 lx3 fx7 lx7 junk
  try dsimp only at h
  subst lx7
  refine Goes.rn 5 [(10, .bool (decide (x9 < x8)))] J22 ?_
  refine ite_some h (fun h8 h => ?_) (fun h8 h => ?_)
  ·
   rw [decide_eq_true h8]
   refine Goes.rn 6 [] J24 ?_
   refine guard_some' h fun g9 h => ?_
   refine guard_some' h fun g10 h => ?_
   refine Op_.ixR_n 151 (.tmp 7) (.tmp 9) 11 0 25 .i64 x9 (gi x7 x9) rfl rfl fx7 Goes.v (by kernel_rfl) (by kernel_rfl) (by kernel_rfl) (by kernel_rfl) g9 g10 ?_
   intro a11 _ f12 q13
   obtain ⟨l14, f15⟩ := q13
   obtain rfl := els_lit4' f15 l14
   refine Goes.ldN 25 (.tmp 11) 12 25 a11 (U4 (gi x7 x9) []) (f12.cell) ?_
   refine Op_.alloc 25 5 0 (.agg #[.u 0, .u 0, .u 0, .u 0]) [.u 0, .u 0, .u 0, .u 0] p1 Goes.v (by kernel_rfl) (by kernel_rfl) ?_
   intro b16 w4 z4 p4
   refine Op_.st 25 (.tmp 5) (.tmp 12) 0 0 b16 0 (ag (U4 (gi x7 x9) [])) (U4 (gi x7 x9) []) p4 rfl Goes.s (by kernel_rfl) (by kernel_rfl) (by kernel_rfl) (by kernel_rfl) (Nat.zero_le _) (by simp only [List.length_cons, List.length_nil]; omega) (by simp [Value.oneCell']) ?_
   intro w5 z5 p5
   have p5 : Hp nz wz S1 w5 ((some b16, .row 25 (U4 (gi x7 x9) []) 4 0) :: (some gx2, .row 25 (U4 ua []) 4 0) :: (some gx3, .row 25 uo 4 0) :: Lr) := p5
   refine Goes.rn 7 [(13, .i 0)] J20 ?_
   have f21 : Els (kInt .u64) S1 w5 ((U4 (gi x7 x9) []) : List Value) (gi x7 x9) := (els_mk4 (k := .u64) l14)
   have p5 := ((p5.fr 0).fr 2).fr 2
   exact Goes.jp 27 [(2, (pt gx2 0)), (3, (pt gx3 0)), (5, (pt b16 0)), (7, .slice Ax7 x7.length cx7), (8, .i x8), (9, .i x9), (13, .i 0)] (uq _ _ h _ _ ((hx.trans z4).trans z5) gx2 gx3 uo b16 ((U4 (gi x7 x9) []) : List Value) Ax7 x7.length cx7 p5 ue (fx3.ext (z4.trans z5)) lx3 f21 rfl (fx7.ext (z4.trans z5)) rfl)
  ·
   rw [decide_eq_false h8]
   refine Goes.rn 4 [] J26 ?_
   refine Op_.ldN 25 (.tmp 3) 26 25 ⟨gx3, 0, none⟩ uo Goes.v (by kernel_rfl) (by kernel_rfl) (by rw [lx3]; kernel_rfl) (At_all (p1.mem 1 rfl)) ?_
   have f22 : Els (kInt .u64) S1 w1 ((U4 ua []) : List Value) ua := (els_mk4 (k := .u64) ue)
   refine Op_.stA 25 (.tmp 2) (.tmp 26) 0 0 gx2 4 uo p1 rfl rfl Goes.s (by kernel_rfl) (by kernel_rfl) (by kernel_rfl) lx3 (Els.one fx3) ?_
   intro w6 z6 p6
   refine Goes.rn 1 [] J25 ?_
   obtain rfl := Option.some.inj h
   have p6 := p6.dp 1
   exact Goes.ret (fn := Tryd.f102) (by kernel_rfl) (v := .agg uo.toArray) (results_n1 (fn := Tryd.f102) (a := .cell 2 25) (by kernel_rfl) (resV_cell ⟨gx2, 0, none⟩ (by kernel_rfl) (run_loadN uo (by kernel_rfl) (by rw [lx3]; kernel_rfl) (At_all (p6.mem 0 rfl))))) ⟨S1, uo, rfl, (hx.trans z6), p6.drop, (fx3.ext z6), lx3⟩
 ·
  intro ur up ut uq ⟨ua, x3, x5, x7, x8, x9, x13⟩ r h S1 w1 hx gx2 gx3 uo gx5 uj Ax7 nx7 cx7 p1 ue fx3 lx3 fx5 lx5 fx7 lx7 junk
  try dsimp only at h
  subst lx7
  refine Goes.rn 5 [(14, .bool (decide (x13 < 4)))] J28 ?_
  refine ite_some h (fun h23 h => ?_) (fun h23 h => ?_)
  ·
   rw [decide_eq_true h23]
   refine Goes.rn 9 [(15, .i x13), (6, .i x13)] J2b ?_
   have z7 : Ext S1 w1 S1 (w1).drew := Ext.draw
   have p7 := p1.draw
   refine Goes.drawn (s := [8]) (F := Fc S1 (w1).drew ([] ++ (rowCells gx3 uo ++ (rowCells gx5 uj ++ [])))) 8 9 (by kernel_rfl) (by kernel_rfl) (by kernel_rfl) (by kernel_rfl) ?_
   generalize (w1).drew = w7 at z7 p7 ⊢
   refine AnyG.pu 0 (.move (.tmp 6)) 16 3 (.i x13) (Fc.here (Cells.app trivial (Cells.app (Cells.row (p7.mem 1 rfl).cell) (Cells.app (Cells.row (p7.mem 2 rfl).cell) trivial)))) ?_
   refine guard_some' h fun g24 h => ?_
   refine AnyG.ixA_n (i := 1) (K := (kInt .u64)) 25 (.tmp 3) (.tmp 16) 17 0 23 4 .i64 x13 1 (gi x3 x13) rfl p7 rfl (fx3.ext z7) (Els.len1 (fx3.ext z7) lx3 rfl) (by kernel_rfl) (by kernel_rfl) (Fc.here (Cells.app trivial (Cells.app (Cells.row (p7.mem 1 rfl).cell) (Cells.app (Cells.row (p7.mem 2 rfl).cell) trivial)))) (by kernel_rfl) (by kernel_rfl) (by kernel_rfl) (by kernel_rfl) g24 h23 ?_
   intro _ q26 f27 f25
   obtain rfl := q26
   refine AnyG.ld1 (i := 2) 23 (.tmp 17) 18 23 ⟨gx3, (x13 : Int).toNat * (kInt .u64).size, none⟩ (.u (gi x3 x13)) (by kernel_rfl) (by kernel_rfl) (Fc.here (Cells.app trivial (Cells.app (Cells.row (p7.mem 1 rfl).cell) (Cells.app (Cells.row (p7.mem 2 rfl).cell) trivial)))) (by kernel_rfl) (by kernel_rfl) (fun _ h => h.2.right.left.rowAt (f27 0 _ rfl)) ?_
   refine AnyG.pu 3 (.move (.tmp 6)) 19 3 (.i x13) (Fc.here (Cells.app trivial (Cells.app (Cells.row (p7.mem 1 rfl).cell) (Cells.app (Cells.row (p7.mem 2 rfl).cell) trivial)))) ?_
   refine AnyG.ixA_n (i := 4) (K := (kInt .u64)) 25 (.tmp 5) (.tmp 19) 20 0 23 4 .i64 x13 2 (gi x5 x13) rfl p7 rfl (fx5.ext z7) (Els.len1 (fx5.ext z7) lx5 rfl) (by kernel_rfl) (by kernel_rfl) (Fc.here (Cells.app trivial (Cells.app (Cells.row (p7.mem 1 rfl).cell) (Cells.app (Cells.row (p7.mem 2 rfl).cell) trivial)))) (by kernel_rfl) (by kernel_rfl) (by kernel_rfl) (by kernel_rfl) g24 h23 ?_
   intro _ q29 f30 f28
   obtain rfl := q29
   refine AnyG.ld1 (i := 5) 23 (.tmp 20) 21 23 ⟨gx5, (x13 : Int).toNat * (kInt .u64).size, none⟩ (.u (gi x5 x13)) (by kernel_rfl) (by kernel_rfl) (Fc.here (Cells.app trivial (Cells.app (Cells.row (p7.mem 1 rfl).cell) (Cells.app (Cells.row (p7.mem 2 rfl).cell) trivial)))) (by kernel_rfl) (by kernel_rfl) (fun _ h => h.2.right.right.left.rowAt (f30 0 _ rfl)) ?_
   refine AnyG.pu 6 (.binOp .or 23 (.tmp 18) (.tmp 21) 23) 22 23 (.u (ior .u64 (gi x3 x13) (gi x5 x13))) (Fc.here (Cells.app trivial (Cells.app (Cells.row (p7.mem 1 rfl).cell) (Cells.app (Cells.row (p7.mem 2 rfl).cell) trivial)))) ?_
   refine AnyG.ixA_n (i := 7) (K := (kInt .u64)) 25 (.tmp 3) (.tmp 16) 23 0 23 4 .i64 x13 1 (gi x3 x13) rfl p7 rfl (fx3.ext z7) (Els.len1 (fx3.ext z7) lx3 rfl) (by kernel_rfl) (by kernel_rfl) (Fc.here (Cells.app trivial (Cells.app (Cells.row (p7.mem 1 rfl).cell) (Cells.app (Cells.row (p7.mem 2 rfl).cell) trivial)))) (by kernel_rfl) (by kernel_rfl) (by kernel_rfl) (by kernel_rfl) g24 h23 ?_
   intro _ q32 f33 f31
   obtain rfl := q32
   refine let_some h fun v34 e35 h => ?_
   refine Op_.stE_n (K := (kInt .u64)) 23 (.tmp 23) (.tmp 22) 0 1 x13 (.u (ior .u64 (gi x3 x13) (gi x5 x13))) [.u (ior .u64 (gi x3 x13) (gi x5 x13))] (ior .u64 (gi x3 x13) (gi x5 x13)) v34 4 (Els.len1 (fx3.ext z7) lx3 rfl) e35 p7 rfl (fx3.ext z7) (AnyG.ss (i := 8) (by kernel_rfl) (by kernel_rfl)) (by kernel_rfl) (by kernel_rfl) (by kernel_rfl) rfl (by kernel_rfl) g24 h23 (Nat.zero_le _) ?_
   intro w8 uu z8 p8 f37 l38
   have l39 : uu.length = 4 := by rw [f37.length, l38]; rfl
   refine AnyG.last [] (Fc S1 w8 []) (by decide) ?_
   refine AnyG.done (by kernel_rfl) ?_ _
   refine Goes.rn 6 [(24, .i (wr .i64 (x13 + 1))), (13, .i (wr .i64 (x13 + 1)))] J20 ?_
   exact Goes.jp 27 [(2, (pt gx2 0)), (3, (pt gx3 0)), (5, (pt gx5 0)), (7, .slice Ax7 x7.length cx7), (8, .i x8), (9, .i x9), (13, .i (wr .i64 (x13 + 1)))] (uq _ _ h _ _ ((hx.trans z7).trans z8) gx2 gx3 uu gx5 uj Ax7 x7.length cx7 p8 ue f37 l39 (fx5.ext (z7.trans z8)) lx5 (fx7.ext (z7.trans z8)) rfl)
  ·
   rw [decide_eq_false h23]
   refine Goes.rn 8 [(25, .i (wr .i64 (x9 + 1))), (9, .i (wr .i64 (x9 + 1)))] J1v ?_
   have p1 := p1.dp 2
   exact Goes.jp 27 [(2, (pt gx2 0)), (3, (pt gx3 0)), (7, .slice Ax7 x7.length cx7), (8, .i x8), (9, .i (wr .i64 (x9 + 1)))] (ut _ _ h _ _ hx gx2 gx3 uo Ax7 x7.length cx7 p1 ue fx3 lx3 fx7 rfl)

theorem W.zc {nz wz S0 w0 Lr} [Gw nz wz] : ∀ a r, M.syntax_join_l0 a = some r → (L.zc nz wz S0 w0 Lr) a r := (W.ze).1

theorem W.zd {nz wz S0 w0 Lr} [Gw nz wz] : ∀ a r, M.syntax_join_l1 a = some r → (L.zd nz wz S0 w0 Lr) a r := (W.ze).2

def Q1w := sub [1] B102
def J2c : List Item := [.code Q1w]
def Q1x := sub [0] B102
def J2d : List Item := .inRegion (opsOf Q1x) [0] :: J2c
def Q1y := sub [1, 1] B102
def J2e : List Item := [.code Q1y]
def Q1z := sub [1, 0] B102
def J2f : List Item := .inRegion (opsOf Q1z) [0] :: J2e

theorem W.zb (x0 : List (List Int)) (r : List Int) (h : M.syntax_join x0 = some r) {nz wz S0 w0 Lr} [Gw nz wz] (Ax0 nx0 cx0) (p0 : Hp nz wz S0 w0 (Lr)) (fx0 : Rd (kArr 4 (kInt .u64)) S0 w0 Ax0 cx0 x0) (lx0 : x0.length = nx0) :
  Calls Tryd.prog 102 #[.slice Ax0 nx0 cx0] w0 (Rets (Post.zb nz wz S0 w0 Lr r)) := by
 subst lx0
 refine calls_of_goes (fn := Tryd.f102) (c := B102) (by kernel_rfl) (by kernel_rfl) 26 (by kernel_rfl) ?_
 refine Goes.jp 27 [(0, .slice Ax0 x0.length cx0)] (fun junk => ?_)
 delta M.syntax_join at h
 refine Goes.rn 2 [] J2d ?_
 refine Op_.alloc 25 2 0 (.agg #[.u 0, .u 0, .u 0, .u 0]) [.u 0, .u 0, .u 0, .u 0] p0 Goes.v (by kernel_rfl) (by kernel_rfl) ?_
 intro b1 w2 z2 p2
 refine Goes.rn 3 [] J2f ?_
 refine Op_.alloc 25 3 0 (.agg #[.u 0, .u 0, .u 0, .u 0]) [.u 0, .u 0, .u 0, .u 0] p2 Goes.v (by kernel_rfl) (by kernel_rfl) ?_
 intro b3 w3 z3 p3
 refine Goes.rn 10 [(7, .slice Ax0 x0.length cx0), (8, .i (x0.length : Int)), (9, .i 0)] J1v ?_
 have f7 : Els (kInt .u64) S0 w3 ([.u 0, .u 0, .u 0, .u 0] : List Value) [0, 0, 0, 0] := (Els.cons (K := (kInt .u64)) (vs := [.u 0]) (x := 0) rfl (Els.cons (K := (kInt .u64)) (vs := [.u 0]) (x := 0) rfl (Els.cons (K := (kInt .u64)) (vs := [.u 0]) (x := 0) rfl (Els.cons (K := (kInt .u64)) (vs := [.u 0]) (x := 0) rfl Els.nil))))
 have p3 := (p3.fr 0).fr 1
 exact Goes.jp 27 [(2, (pt b1 0)), (3, (pt b3 0)), (7, .slice Ax0 x0.length cx0), (8, .i (x0.length : Int)), (9, .i 0)] (W.zc _ _ h _ _ (((Ext.refl S0 w0).trans z2).trans z3) b1 b3 ([.u 0, .u 0, .u 0, .u 0] : List Value) Ax0 x0.length cx0 p3 rfl f7 rfl (fx0.ext (z2.trans z3)) rfl)

def Q20 := sub [1] B103
def J2g : List Item := [.code Q20]
def Q21 := sub [0] B103
def J2h : List Item := .inRegion (opsOf Q21) [0, 1] :: J2g
def Q22 := sub [1, 1] B103
def J2i : List Item := [.code Q22]
def Q23 := sub [1, 0] B103
def J2j : List Item := .inRegion (opsOf Q23) [0] :: J2i
def Q24 := sub [1, 1, 1] B103
def J2k : List Item := [.code Q24]
def J2l : List Item := .inBlock 0 :: J2k
def Q25 := sub [1, 1, 0, 1, 0, 1] B103
def J2m : List Item := .code Q25 :: J2l
def J2n : List Item := .inBlock 4 :: J2m
def Q26 := sub [1, 1, 0, 1, 0, 0, 0, 1] B103
def J2o : List Item := .code Q26 :: J2n
def J2p : List Item := .inBlock 3 :: J2o
def Q27 := sub [1, 1, 0, 1, 0, 0, 0, 0, 0, 1] B103
def J2q : List Item := .code Q27 :: J2p
def J2r : List Item := .inBlock 2 :: J2q
def Q28 := sub [1, 1, 0, 1, 0, 0, 0, 0, 0, 0, 0] B103
def J2s : List Item := .code Q28 :: J2r
def Q29 := sub [1, 1, 0, 1, 0, 0, 0, 0, 0, 0, 0, 1] B103
def J2t : List Item := .code Q29 :: J2r
def J2u : List Item := .inBlock 1 :: J2t
def Q2a := sub [1, 1, 0, 1, 0, 0, 0, 0, 0, 0, 0, 0, 0, 1] B103
def J2v : List Item := .code Q2a :: J2u
def Q2b := sub [1, 1, 0, 1, 0, 0, 0, 0, 0, 0, 0, 0, 0, 0, 1] B103
def J2w : List Item := .code Q2b :: J2v
def Q2c := sub [1, 1, 0, 1, 0, 0, 0, 0, 0, 0, 0, 0, 0, 0, 0, 1] B103
def J2x : List Item := .code Q2c :: J2w
def Q2d := sub [1, 1, 0, 1, 0, 0, 0, 0, 0, 1, 1] B103
def J2y : List Item := .code Q2d :: J2p
def Q2e := sub [1, 1, 0, 1, 0, 0, 0, 0, 0, 1, 0] B103
def J2z : List Item := .code Q2e :: J2y
def Q2f := sub [1, 1, 1, 1] B103
def J30 : List Item := [.code Q2f]
def Q2g := sub [1, 1, 1, 0, 1] B103
def J31 : List Item := .code Q2g :: J30
def Q2h := sub [1, 1, 1, 0, 1, 0] B103
def J32 : List Item := .inRegion (opsOf Q2h) [0, 1, 2] :: J30
def Q2i := sub [1, 1, 1, 1, 1] B103
def J33 : List Item := [.code Q2i]
def Q2j := sub [1, 1, 1, 1, 0] B103
def J34 : List Item := .inRegion (opsOf Q2j) [0, 1, 2] :: J33
def Q2k := sub [1, 1, 0, 1, 0, 0, 0, 0, 0, 0, 0, 0, 0, 0, 1, 1] B103
def J35 : List Item := .code Q2k :: J2v
def Q2l := sub [1, 1, 0, 1, 0, 0, 0, 0, 0, 0, 0, 0, 0, 0, 1, 0, 1] B103
def J36 : List Item := .code Q2l :: J35
def Q2m := sub [1, 1, 0, 1, 0, 0, 0, 0, 0, 0, 0, 0, 0, 0, 1, 1, 1] B103
def J37 : List Item := .code Q2m :: J2v
def Q2n := sub [1, 1, 0, 1, 0, 0, 0, 1, 1] B103
def J38 : List Item := .code Q2n :: J2n
def Q2o := sub [1, 1, 0, 1, 0, 0, 0, 1, 0] B103
def J39 : List Item := .inRegion (opsOf Q2o) [0, 1, 2, 3, 4, 5] :: J38
def Q2p := sub [1, 1, 0, 1, 0, 1, 1] B103
def J3a : List Item := .code Q2p :: J2l
def Q2q := sub [1, 1, 0, 1, 0, 1, 0, 1] B103
def J3b : List Item := .code Q2q :: J3a
def Q2r := sub [1, 1, 0, 1, 0, 1, 0, 0] B103
def J3c : List Item := .inRegion (opsOf Q2r) [0, 1, 2] :: J3b

def Post.zf (r : (List Int) × Bool) (v : Value) (w' : World) : Prop :=
 ∃ S' uv, v = .tuple #[.agg uv.toArray, .bool r.2] ∧ Ext S0 w0 S' w' ∧ Hp nz wz S' w' (Lr) ∧ Els (kInt .u64) S' w' uv r.1 ∧ uv.length = 4

theorem W.zf (x0 : Int) (r : (List Int) × Bool) (h : M.syntax_class x0 = some r) {nz wz S0 w0 Lr} [Gw nz wz] (p0 : Hp nz wz S0 w0 (Lr)) :
  Calls Tryd.prog 103 #[.int .u8 x0] w0 (Rets (Post.zf nz wz S0 w0 Lr r)) := by
 refine calls_of_goes (fn := Tryd.f103) (c := B103) (by kernel_rfl) (by kernel_rfl) 34 (by kernel_rfl) ?_
 refine Goes.jp 35 [(0, .int .u8 x0)] (fun junk => ?_)
 delta M.syntax_class at h
 refine Goes.rn 2 [] J2h ?_
 refine Op_.alloc 25 2 0 (.agg #[.u 0, .u 0, .u 0, .u 0]) [.u 0, .u 0, .u 0, .u 0] p0 Goes.v (by kernel_rfl) (by kernel_rfl) ?_
 intro b1 w2 z2 p2
 refine Goes.rn 4 [(3, .bool false)] J2j ?_
 refine Op_.alloc 25 4 0 (.agg #[.u 0, .u 0, .u 0, .u 0]) [.u 0, .u 0, .u 0, .u 0] p2 Goes.v (by kernel_rfl) (by kernel_rfl) ?_
 intro b3 w3 z3 p3
 refine Goes.rn 14 [(5, .int .u8 x0), (6, .int .u8 (ior .u8 x0 32))] J2s ?_
 refine Goes.rn 9 [(8, .bool (decide (ior .u8 x0 32 = 119))), (7, .bool (decide (ior .u8 x0 32 = 119)))] J2x ?_
 refine ite_some h (fun h5 h => ?_) (fun h5 h => ?_)
 ·
  rw [decide_eq_true h5]
  refine Goes.rn 2 [] J2t ?_
  have z4 : Ext S0 w3 S0 (w3).drew := Ext.draw
  have p4 := p3.draw
  refine Goes.drawn (s := [4, 5, 6]) (F := Fc S0 (w3).drew [(⟨b3, 0, none⟩, .u 0), (⟨b3, 1, none⟩, .u 0), (⟨b3, 2, none⟩, .u 0), (⟨b3, 3, none⟩, .u 0)]) 6 7 (by kernel_rfl) (by kernel_rfl) (by kernel_rfl) (by kernel_rfl) ?_
  generalize (w3).drew = w4 at z4 p4 ⊢
  refine AnyG.ldN (i := 0) 25 (.tmp 4) 13 25 ⟨b3, 0, none⟩ [.u 0, .u 0, .u 0, .u 0] (by kernel_rfl) (by kernel_rfl) (Fc.here (p4.cs [(0, 0, 4)])) (by kernel_rfl) (by kernel_rfl) (by kernel_rfl) (fun _ h j v hj => by match j, hj with | 0, rfl => exact h.2.at_ 0 rfl | 1, rfl => exact h.2.at_ 1 rfl | 2, rfl => exact h.2.at_ 2 rfl | 3, rfl => exact h.2.at_ 3 rfl | (j + 4), hj => simp at hj) ?_
  refine bind_some' h fun y6 e7 h => ?_
  refine Op_.call (.call { callee := .value (.func 113), args := #[(.const (.int .u8 97)), (.const (.int .u8 122))], argTypes := #[5, 5] }) 14 25 113 #[.int .u8 97, .int .u8 122] (AnyG.cs (i := 1) (by kernel_rfl) (by kernel_rfl)) (by kernel_rfl) (W.z9 97 122 y6 e7  p4 ) ?_
  rintro _ w5 ⟨S5, uw, rfl, z5, p5, ux, uy⟩
  refine AnyG.next z5 ⟨(p5.c 0 0), (p5.c 0 1), (p5.c 0 2), (p5.c 0 3), trivial⟩ ?_
  refine bind_some' h fun y8 e9 h => ?_
  refine Op_.call (.call { callee := .value (.func 113), args := #[(.const (.int .u8 65)), (.const (.int .u8 90))], argTypes := #[5, 5] }) 15 25 113 #[.int .u8 65, .int .u8 90] (AnyG.cs (i := 2) (by kernel_rfl) (by kernel_rfl)) (by kernel_rfl) (W.z9 65 90 y8 e9  p5 ) ?_
  rintro _ w6 ⟨S6, uz, rfl, z6, p6, u10, u11⟩
  refine AnyG.next z6 ⟨(p6.c 0 0), (p6.c 0 1), (p6.c 0 2), (p6.c 0 3), trivial⟩ ?_
  refine bind_some' h fun y10 e11 h => ?_
  refine Op_.call (.call { callee := .value (.func 90), args := #[(.const (.int .u8 95))], argTypes := #[5] }) 16 25 90 #[.int .u8 95] (AnyG.cs (i := 3) (by kernel_rfl) (by kernel_rfl)) (by kernel_rfl) (W.z5 95 y10 e11  p6 ) ?_
  rintro _ w7 ⟨S7, u12, rfl, z7, p7, u13, u14⟩
  refine AnyG.next z7 ⟨(p7.c 0 0), (p7.c 0 1), (p7.c 0 2), (p7.c 0 3), trivial⟩ ?_
  have l12 := Els.len1 (ux.ext (z6.trans z7)) uy rfl
  obtain rfl := els_lit4 (ux.ext (z6.trans z7)) uy
  have l13 := Els.len1 (u10.ext z7) u11 rfl
  obtain rfl := els_lit4 (u10.ext z7) u11
  have l14 := Els.len1 u13 u14 rfl
  obtain rfl := els_lit4 u13 u14
  have f16 : Els (kArr 4 (kInt .u64)) S7 w7 ((.u 0 :: .u 0 :: .u 0 :: .u 0 :: U4 y6 (U4 y8 (U4 y10 []))) : List Value) [[0, 0, 0, 0], y6, y8, y10] := by exact (Els.cons (K := (kArr 4 (kInt .u64))) (vs := [.u 0, .u 0, .u 0, .u 0]) (x := [0, 0, 0, 0]) ⟨rfl, (Els.cons (K := (kInt .u64)) (vs := [.u 0]) (x := 0) rfl (Els.cons (K := (kInt .u64)) (vs := [.u 0]) (x := 0) rfl (Els.cons (K := (kInt .u64)) (vs := [.u 0]) (x := 0) rfl (Els.cons (K := (kInt .u64)) (vs := [.u 0]) (x := 0) rfl Els.nil))))⟩ (Els.cons (K := (kArr 4 (kInt .u64))) (vs := (U4 y6 [])) (x := y6) ⟨l12, els_mk4 l12⟩ (Els.cons (K := (kArr 4 (kInt .u64))) (vs := (U4 y8 [])) (x := y8) ⟨l13, els_mk4 l13⟩ (Els.cons (K := (kArr 4 (kInt .u64))) (vs := (U4 y10 [])) (x := y10) ⟨l14, els_mk4 l14⟩ Els.nil))))
  refine Op_.made (.buildSlice 151 4 #[(0, (.tmp 13)), (1, (.tmp 14)), (2, (.tmp 15)), (3, (.tmp 16))]) 17 151 (fun b => .slice (Gp (some b)) 4 4) 25 ((.u 0 :: .u 0 :: .u 0 :: .u 0 :: U4 y6 (U4 y8 (U4 y10 []))) : List Value) p7 (AnyG.vs (i := 4) (by kernel_rfl) (by kernel_rfl)) (by kernel_rfl) ?_
  intro b15 w8 z8 p8
  have p8 : Hp nz wz S7 w8 (((some b15), .row 25 ((.u 0 :: .u 0 :: .u 0 :: .u 0 :: U4 y6 (U4 y8 (U4 y10 []))) : List Value) (4 * (kArr 4 (kInt .u64)).size) 0) :: (some b3, .row 25 [.u 0, .u 0, .u 0, .u 0] 4 0) :: (some b1, .row 25 [.u 0, .u 0, .u 0, .u 0] 4 0) :: Lr) := p8
  refine AnyG.last [5, 6] (Fc S7 w8 []) (by decide) ?_
  obtain ⟨S9, z9, p9, f18⟩ := p8.freezeRd 0 rfl (f16.ext z8) (by decide)
  refine AnyG.refz z9 ?_
  refine bind_some' h fun y19 e20 h => ?_
  refine Op_.call (kc 102 [17] #[151]) 18 25 102 #[.slice (Gp (some b15)) 4 4] (AnyG.cs (i := 5) (by kernel_rfl) (by kernel_rfl)) (by kernel_rfl) (W.zb [[0, 0, 0, 0], y6, y8, y10] y19 e20 (Gp (some b15)) 4 4 p9 f18 rfl) ?_
  rintro _ w10 ⟨S10, u15, rfl, z10, p10, u16, u17⟩
  refine AnyG.last [6] (Fc S10 w10 []) (by decide) ?_
  have f21 : Els (kInt .u64) S10 w10 ([.u 0, .u 0, .u 0, .u 0] : List Value) [0, 0, 0, 0] := (Els.cons (K := (kInt .u64)) (vs := [.u 0]) (x := 0) rfl (Els.cons (K := (kInt .u64)) (vs := [.u 0]) (x := 0) rfl (Els.cons (K := (kInt .u64)) (vs := [.u 0]) (x := 0) rfl (Els.cons (K := (kInt .u64)) (vs := [.u 0]) (x := 0) rfl Els.nil))))
  refine Op_.stA 25 (.tmp 4) (.tmp 18) 0 1 b3 4 u15 p10 rfl rfl (AnyG.ss (i := 6) (by kernel_rfl) (by kernel_rfl)) (by kernel_rfl) (by kernel_rfl) (by kernel_rfl) u17 (Els.one u16) ?_
  intro w11 z11 p11
  refine AnyG.last [] (Fc S10 w11 []) (by decide) ?_
  refine AnyG.done (by kernel_rfl) ?_ _
  have p11 := p11.dp 0
  refine Goes.rn 2 [] J2z ?_
  have z12 : Ext S10 w11 S10 (w11).drew := Ext.draw
  have p12 := p11.draw
  refine Goes.drawn (s := [2, 3, 4]) (F := Fc S10 (w11).drew ([] ++ (rowCells b3 u15 ++ []))) 7 5 (by kernel_rfl) (by kernel_rfl) (by kernel_rfl) (by kernel_rfl) ?_
  generalize (w11).drew = w12 at z12 p12 ⊢
  refine AnyG.ldN (i := 0) 25 (.tmp 4) 19 25 ⟨b3, 0, none⟩ u15 (by kernel_rfl) (by kernel_rfl) (Fc.here (Cells.app trivial (Cells.app (Cells.row (p12.mem 0 rfl).cell) trivial))) (by kernel_rfl) (by kernel_rfl) (by rw [u17]; kernel_rfl) (fun _ h => h.2.right.left.rowsAt (fun q v hq => by rw [Nat.zero_add]; exact hq)) ?_
  refine bind_some' h fun y22 e23 h => ?_
  refine Op_.call (.call { callee := .value (.func 113), args := #[(.const (.int .u8 48)), (.const (.int .u8 57))], argTypes := #[5, 5] }) 20 25 113 #[.int .u8 48, .int .u8 57] (AnyG.cs (i := 1) (by kernel_rfl) (by kernel_rfl)) (by kernel_rfl) (W.z9 48 57 y22 e23  p12 ) ?_
  rintro _ w13 ⟨S13, u18, rfl, z13, p13, u19, u1a⟩
  refine AnyG.next z13 (Cells.app trivial (Cells.app (Cells.row (p13.mem 0 rfl).cell) trivial)) ?_
  have l24 := Els.len1 (u16.ext ((z11.trans z12).trans z13)) u17 rfl
  obtain rfl := els_lit4 (u16.ext ((z11.trans z12).trans z13)) u17
  have l25 := Els.len1 u19 u1a rfl
  obtain rfl := els_lit4 u19 u1a
  have f27 : Els (kArr 4 (kInt .u64)) S13 w13 ((U4 y19 (U4 y22 [])) : List Value) [y19, y22] := by exact (Els.cons (K := (kArr 4 (kInt .u64))) (vs := (U4 y19 [])) (x := y19) ⟨l24, els_mk4 l24⟩ (Els.cons (K := (kArr 4 (kInt .u64))) (vs := (U4 y22 [])) (x := y22) ⟨l25, els_mk4 l25⟩ Els.nil))
  refine Op_.made (.buildSlice 151 2 #[(0, (.tmp 19)), (1, (.tmp 20))]) 21 151 (fun b => .slice (Gp (some b)) 2 2) 25 ((U4 y19 (U4 y22 [])) : List Value) p13 (AnyG.vs (i := 2) (by kernel_rfl) (by kernel_rfl)) (by kernel_rfl) ?_
  intro b26 w14 z14 p14
  have p14 : Hp nz wz S13 w14 (((some b26), .row 25 ((U4 y19 (U4 y22 [])) : List Value) (2 * (kArr 4 (kInt .u64)).size) 0) :: (some b3, .row 25 ((U4 y19 []) : List Value) 4 0) :: (some b1, .row 25 [.u 0, .u 0, .u 0, .u 0] 4 0) :: Lr) := p14
  refine AnyG.last [3, 4] (Fc S13 w14 []) (by decide) ?_
  obtain ⟨S15, z15, p15, f29⟩ := p14.freezeRd 0 rfl (f27.ext z14) (by decide)
  refine AnyG.refz z15 ?_
  refine bind_some' h fun y30 e31 h => ?_
  refine Op_.call (kc 102 [21] #[151]) 22 25 102 #[.slice (Gp (some b26)) 2 2] (AnyG.cs (i := 3) (by kernel_rfl) (by kernel_rfl)) (by kernel_rfl) (W.zb [y19, y22] y30 e31 (Gp (some b26)) 2 2 p15 f29 rfl) ?_
  rintro _ w16 ⟨S16, u1b, rfl, z16, p16, u1c, u1d⟩
  refine AnyG.last [4] (Fc S16 w16 []) (by decide) ?_
  refine Op_.stA 25 (.tmp 4) (.tmp 22) 0 1 b3 4 u1b p16 rfl u17 (AnyG.ss (i := 4) (by kernel_rfl) (by kernel_rfl)) (by kernel_rfl) (by kernel_rfl) (by kernel_rfl) u1d (Els.one u1c) ?_
  intro w17 z17 p17
  refine AnyG.last [] (Fc S16 w17 []) (by decide) ?_
  refine AnyG.done (by kernel_rfl) ?_ _
  have p17 := p17.dp 0
  refine Goes.rn 8 [(29, .int .u8 x0), (30, .int .u8 (iand .u8 x0 32)), (31, .bool (decide (iand .u8 x0 32 = 0)))] J31 ?_
  refine ite_some h (fun h32 h => ?_) (fun h32 h => ?_)
  ·
   rw [decide_eq_true h32]
   refine Goes.rn 2 [] J32 ?_
   refine Op_.ldN 25 (.tmp 4) 32 25 ⟨b3, 0, none⟩ u1b Goes.v (by kernel_rfl) (by kernel_rfl) (by rw [u1d]; kernel_rfl) (At_all (p17.mem 0 rfl)) ?_
   refine bind_some' h fun y33 e34 h => ?_
   refine Goes.cal (kc 89 [32] #[25]) 33 25 89 _ (W.z6 y30 y33 e34 u1b p17 (u1c.ext z17) u1d) ?_
   rintro _ w18 ⟨S18, u1e, rfl, z18, p18, u1f, u1g⟩
   refine Op_.stA 25 (.tmp 4) (.tmp 33) 0 0 b3 4 u1e p18 rfl u1d Goes.s (by kernel_rfl) (by kernel_rfl) (by kernel_rfl) u1g (Els.one u1f) ?_
   intro w19 z19 p19
   refine Goes.rn 3 [] J34 ?_
   refine Op_.ldN 25 (.tmp 4) 34 25 ⟨b3, 0, none⟩ u1e Goes.v (by kernel_rfl) (by kernel_rfl) (by rw [u1g]; kernel_rfl) (At_all (p19.mem 0 rfl)) ?_
   have f35 : Els (kInt .u64) S18 w19 ([.u 0, .u 0, .u 0, .u 0] : List Value) [0, 0, 0, 0] := (Els.cons (K := (kInt .u64)) (vs := [.u 0]) (x := 0) rfl (Els.cons (K := (kInt .u64)) (vs := [.u 0]) (x := 0) rfl (Els.cons (K := (kInt .u64)) (vs := [.u 0]) (x := 0) rfl (Els.cons (K := (kInt .u64)) (vs := [.u 0]) (x := 0) rfl Els.nil))))
   refine Op_.stA 25 (.tmp 2) (.tmp 34) 0 1 b1 4 u1e p19 rfl rfl Goes.s (by kernel_rfl) (by kernel_rfl) (by kernel_rfl) u1g (Els.one (u1f.ext z19)) ?_
   intro w20 z20 p20
   refine Goes.rn 2 [(3, .bool true)] J33 ?_
   obtain rfl := Option.some.inj h
   have p20 := p20.dp 0
   exact Goes.ret (fn := Tryd.f103) (by kernel_rfl) (v := .tuple #[.agg u1e.toArray, .bool true]) (results_n2 (fn := Tryd.f103) (a := .cell 2 25) (b := .tmp 3) (by kernel_rfl) (resV_cell ⟨b1, 0, none⟩ (by kernel_rfl) (run_loadN u1e (by kernel_rfl) (by rw [u1g]; kernel_rfl) (At_all (p20.mem 0 rfl)))) (resV_tmp (by kernel_rfl))) ⟨S18, u1e, rfl, ((((((((((((((((((((Ext.refl S0 w0).trans z2).trans z3).trans z4).trans z5).trans z6).trans z7).trans z8).trans z9).trans z10).trans z11).trans z12).trans z13).trans z14).trans z15).trans z16).trans z17).trans z18).trans z19).trans z20), p20.drop, (u1f.ext (z19.trans z20)), u1g⟩
  ·
   rw [decide_eq_false h32]
   refine Goes.rn 4 [] J34 ?_
   refine Op_.ldN 25 (.tmp 4) 34 25 ⟨b3, 0, none⟩ u1b Goes.v (by kernel_rfl) (by kernel_rfl) (by rw [u1d]; kernel_rfl) (At_all (p17.mem 0 rfl)) ?_
   have f36 : Els (kInt .u64) S16 w17 ([.u 0, .u 0, .u 0, .u 0] : List Value) [0, 0, 0, 0] := (Els.cons (K := (kInt .u64)) (vs := [.u 0]) (x := 0) rfl (Els.cons (K := (kInt .u64)) (vs := [.u 0]) (x := 0) rfl (Els.cons (K := (kInt .u64)) (vs := [.u 0]) (x := 0) rfl (Els.cons (K := (kInt .u64)) (vs := [.u 0]) (x := 0) rfl Els.nil))))
   refine Op_.stA 25 (.tmp 2) (.tmp 34) 0 1 b1 4 u1b p17 rfl rfl Goes.s (by kernel_rfl) (by kernel_rfl) (by kernel_rfl) u1d (Els.one (u1c.ext z17)) ?_
   intro w21 z21 p21
   refine Goes.rn 2 [(3, .bool true)] J33 ?_
   obtain rfl := Option.some.inj h
   have p21 := p21.dp 0
   exact Goes.ret (fn := Tryd.f103) (by kernel_rfl) (v := .tuple #[.agg u1b.toArray, .bool true]) (results_n2 (fn := Tryd.f103) (a := .cell 2 25) (b := .tmp 3) (by kernel_rfl) (resV_cell ⟨b1, 0, none⟩ (by kernel_rfl) (run_loadN u1b (by kernel_rfl) (by rw [u1d]; kernel_rfl) (At_all (p21.mem 0 rfl)))) (resV_tmp (by kernel_rfl))) ⟨S16, u1b, rfl, ((((((((((((((((((Ext.refl S0 w0).trans z2).trans z3).trans z4).trans z5).trans z6).trans z7).trans z8).trans z9).trans z10).trans z11).trans z12).trans z13).trans z14).trans z15).trans z16).trans z17).trans z21), p21.drop, (u1c.ext (z17.trans z21)), u1d⟩
 ·
  rw [decide_eq_false h5]
  refine Goes.rn 8 [(10, .bool (decide (ior .u8 x0 32 = 100))), (9, .bool (decide (ior .u8 x0 32 = 100)))] J36 ?_
  refine ite_some h (fun h37 h => ?_) (fun h37 h => ?_)
  ·
   rw [decide_eq_true h37]
   refine Goes.rn 3 [] J2z ?_
   have z22 : Ext S0 w3 S0 (w3).drew := Ext.draw
   have p22 := p3.draw
   refine Goes.drawn (s := [2, 3, 4]) (F := Fc S0 (w3).drew [(⟨b3, 0, none⟩, .u 0), (⟨b3, 1, none⟩, .u 0), (⟨b3, 2, none⟩, .u 0), (⟨b3, 3, none⟩, .u 0)]) 7 5 (by kernel_rfl) (by kernel_rfl) (by kernel_rfl) (by kernel_rfl) ?_
   generalize (w3).drew = w22 at z22 p22 ⊢
   refine AnyG.ldN (i := 0) 25 (.tmp 4) 19 25 ⟨b3, 0, none⟩ [.u 0, .u 0, .u 0, .u 0] (by kernel_rfl) (by kernel_rfl) (Fc.here (p22.cs [(0, 0, 4)])) (by kernel_rfl) (by kernel_rfl) (by kernel_rfl) (fun _ h j v hj => by match j, hj with | 0, rfl => exact h.2.at_ 0 rfl | 1, rfl => exact h.2.at_ 1 rfl | 2, rfl => exact h.2.at_ 2 rfl | 3, rfl => exact h.2.at_ 3 rfl | (j + 4), hj => simp at hj) ?_
   refine bind_some' h fun y38 e39 h => ?_
   refine Op_.call (.call { callee := .value (.func 113), args := #[(.const (.int .u8 48)), (.const (.int .u8 57))], argTypes := #[5, 5] }) 20 25 113 #[.int .u8 48, .int .u8 57] (AnyG.cs (i := 1) (by kernel_rfl) (by kernel_rfl)) (by kernel_rfl) (W.z9 48 57 y38 e39  p22 ) ?_
   rintro _ w23 ⟨S23, u1h, rfl, z23, p23, u1i, u1j⟩
   refine AnyG.next z23 ⟨(p23.c 0 0), (p23.c 0 1), (p23.c 0 2), (p23.c 0 3), trivial⟩ ?_
   have l40 := Els.len1 u1i u1j rfl
   obtain rfl := els_lit4 u1i u1j
   have f42 : Els (kArr 4 (kInt .u64)) S23 w23 ((.u 0 :: .u 0 :: .u 0 :: .u 0 :: U4 y38 []) : List Value) [[0, 0, 0, 0], y38] := by exact (Els.cons (K := (kArr 4 (kInt .u64))) (vs := [.u 0, .u 0, .u 0, .u 0]) (x := [0, 0, 0, 0]) ⟨rfl, (Els.cons (K := (kInt .u64)) (vs := [.u 0]) (x := 0) rfl (Els.cons (K := (kInt .u64)) (vs := [.u 0]) (x := 0) rfl (Els.cons (K := (kInt .u64)) (vs := [.u 0]) (x := 0) rfl (Els.cons (K := (kInt .u64)) (vs := [.u 0]) (x := 0) rfl Els.nil))))⟩ (Els.cons (K := (kArr 4 (kInt .u64))) (vs := (U4 y38 [])) (x := y38) ⟨l40, els_mk4 l40⟩ Els.nil))
   refine Op_.made (.buildSlice 151 2 #[(0, (.tmp 19)), (1, (.tmp 20))]) 21 151 (fun b => .slice (Gp (some b)) 2 2) 25 ((.u 0 :: .u 0 :: .u 0 :: .u 0 :: U4 y38 []) : List Value) p23 (AnyG.vs (i := 2) (by kernel_rfl) (by kernel_rfl)) (by kernel_rfl) ?_
   intro b41 w24 z24 p24
   have p24 : Hp nz wz S23 w24 (((some b41), .row 25 ((.u 0 :: .u 0 :: .u 0 :: .u 0 :: U4 y38 []) : List Value) (2 * (kArr 4 (kInt .u64)).size) 0) :: (some b3, .row 25 [.u 0, .u 0, .u 0, .u 0] 4 0) :: (some b1, .row 25 [.u 0, .u 0, .u 0, .u 0] 4 0) :: Lr) := p24
   refine AnyG.last [3, 4] (Fc S23 w24 []) (by decide) ?_
   obtain ⟨S25, z25, p25, f44⟩ := p24.freezeRd 0 rfl (f42.ext z24) (by decide)
   refine AnyG.refz z25 ?_
   refine bind_some' h fun y45 e46 h => ?_
   refine Op_.call (kc 102 [21] #[151]) 22 25 102 #[.slice (Gp (some b41)) 2 2] (AnyG.cs (i := 3) (by kernel_rfl) (by kernel_rfl)) (by kernel_rfl) (W.zb [[0, 0, 0, 0], y38] y45 e46 (Gp (some b41)) 2 2 p25 f44 rfl) ?_
   rintro _ w26 ⟨S26, u1k, rfl, z26, p26, u1l, u1m⟩
   refine AnyG.last [4] (Fc S26 w26 []) (by decide) ?_
   have f47 : Els (kInt .u64) S26 w26 ([.u 0, .u 0, .u 0, .u 0] : List Value) [0, 0, 0, 0] := (Els.cons (K := (kInt .u64)) (vs := [.u 0]) (x := 0) rfl (Els.cons (K := (kInt .u64)) (vs := [.u 0]) (x := 0) rfl (Els.cons (K := (kInt .u64)) (vs := [.u 0]) (x := 0) rfl (Els.cons (K := (kInt .u64)) (vs := [.u 0]) (x := 0) rfl Els.nil))))
   refine Op_.stA 25 (.tmp 4) (.tmp 22) 0 1 b3 4 u1k p26 rfl rfl (AnyG.ss (i := 4) (by kernel_rfl) (by kernel_rfl)) (by kernel_rfl) (by kernel_rfl) (by kernel_rfl) u1m (Els.one u1l) ?_
   intro w27 z27 p27
   refine AnyG.last [] (Fc S26 w27 []) (by decide) ?_
   refine AnyG.done (by kernel_rfl) ?_ _
   have p27 := p27.dp 0
   refine Goes.rn 8 [(29, .int .u8 x0), (30, .int .u8 (iand .u8 x0 32)), (31, .bool (decide (iand .u8 x0 32 = 0)))] J31 ?_
   refine ite_some h (fun h48 h => ?_) (fun h48 h => ?_)
   ·
    rw [decide_eq_true h48]
    refine Goes.rn 2 [] J32 ?_
    refine Op_.ldN 25 (.tmp 4) 32 25 ⟨b3, 0, none⟩ u1k Goes.v (by kernel_rfl) (by kernel_rfl) (by rw [u1m]; kernel_rfl) (At_all (p27.mem 0 rfl)) ?_
    refine bind_some' h fun y49 e50 h => ?_
    refine Goes.cal (kc 89 [32] #[25]) 33 25 89 _ (W.z6 y45 y49 e50 u1k p27 (u1l.ext z27) u1m) ?_
    rintro _ w28 ⟨S28, u1n, rfl, z28, p28, u1o, u1p⟩
    refine Op_.stA 25 (.tmp 4) (.tmp 33) 0 0 b3 4 u1n p28 rfl u1m Goes.s (by kernel_rfl) (by kernel_rfl) (by kernel_rfl) u1p (Els.one u1o) ?_
    intro w29 z29 p29
    refine Goes.rn 3 [] J34 ?_
    refine Op_.ldN 25 (.tmp 4) 34 25 ⟨b3, 0, none⟩ u1n Goes.v (by kernel_rfl) (by kernel_rfl) (by rw [u1p]; kernel_rfl) (At_all (p29.mem 0 rfl)) ?_
    have f51 : Els (kInt .u64) S28 w29 ([.u 0, .u 0, .u 0, .u 0] : List Value) [0, 0, 0, 0] := (Els.cons (K := (kInt .u64)) (vs := [.u 0]) (x := 0) rfl (Els.cons (K := (kInt .u64)) (vs := [.u 0]) (x := 0) rfl (Els.cons (K := (kInt .u64)) (vs := [.u 0]) (x := 0) rfl (Els.cons (K := (kInt .u64)) (vs := [.u 0]) (x := 0) rfl Els.nil))))
    refine Op_.stA 25 (.tmp 2) (.tmp 34) 0 1 b1 4 u1n p29 rfl rfl Goes.s (by kernel_rfl) (by kernel_rfl) (by kernel_rfl) u1p (Els.one (u1o.ext z29)) ?_
    intro w30 z30 p30
    refine Goes.rn 2 [(3, .bool true)] J33 ?_
    obtain rfl := Option.some.inj h
    have p30 := p30.dp 0
    exact Goes.ret (fn := Tryd.f103) (by kernel_rfl) (v := .tuple #[.agg u1n.toArray, .bool true]) (results_n2 (fn := Tryd.f103) (a := .cell 2 25) (b := .tmp 3) (by kernel_rfl) (resV_cell ⟨b1, 0, none⟩ (by kernel_rfl) (run_loadN u1n (by kernel_rfl) (by rw [u1p]; kernel_rfl) (At_all (p30.mem 0 rfl)))) (resV_tmp (by kernel_rfl))) ⟨S28, u1n, rfl, ((((((((((((Ext.refl S0 w0).trans z2).trans z3).trans z22).trans z23).trans z24).trans z25).trans z26).trans z27).trans z28).trans z29).trans z30), p30.drop, (u1o.ext (z29.trans z30)), u1p⟩
   ·
    rw [decide_eq_false h48]
    refine Goes.rn 4 [] J34 ?_
    refine Op_.ldN 25 (.tmp 4) 34 25 ⟨b3, 0, none⟩ u1k Goes.v (by kernel_rfl) (by kernel_rfl) (by rw [u1m]; kernel_rfl) (At_all (p27.mem 0 rfl)) ?_
    have f52 : Els (kInt .u64) S26 w27 ([.u 0, .u 0, .u 0, .u 0] : List Value) [0, 0, 0, 0] := (Els.cons (K := (kInt .u64)) (vs := [.u 0]) (x := 0) rfl (Els.cons (K := (kInt .u64)) (vs := [.u 0]) (x := 0) rfl (Els.cons (K := (kInt .u64)) (vs := [.u 0]) (x := 0) rfl (Els.cons (K := (kInt .u64)) (vs := [.u 0]) (x := 0) rfl Els.nil))))
    refine Op_.stA 25 (.tmp 2) (.tmp 34) 0 1 b1 4 u1k p27 rfl rfl Goes.s (by kernel_rfl) (by kernel_rfl) (by kernel_rfl) u1m (Els.one (u1l.ext z27)) ?_
    intro w31 z31 p31
    refine Goes.rn 2 [(3, .bool true)] J33 ?_
    obtain rfl := Option.some.inj h
    have p31 := p31.dp 0
    exact Goes.ret (fn := Tryd.f103) (by kernel_rfl) (v := .tuple #[.agg u1k.toArray, .bool true]) (results_n2 (fn := Tryd.f103) (a := .cell 2 25) (b := .tmp 3) (by kernel_rfl) (resV_cell ⟨b1, 0, none⟩ (by kernel_rfl) (run_loadN u1k (by kernel_rfl) (by rw [u1m]; kernel_rfl) (At_all (p31.mem 0 rfl)))) (resV_tmp (by kernel_rfl))) ⟨S26, u1k, rfl, ((((((((((Ext.refl S0 w0).trans z2).trans z3).trans z22).trans z23).trans z24).trans z25).trans z26).trans z27).trans z31), p31.drop, (u1l.ext (z27.trans z31)), u1m⟩
  ·
   rw [decide_eq_false h37]
   refine Goes.rn 7 [(12, .bool (decide (ior .u8 x0 32 = 115))), (11, .bool (decide (ior .u8 x0 32 = 115)))] J37 ?_
   refine ite_some h (fun h53 h => ?_) (fun h53 h => ?_)
   ·
    rw [decide_eq_true h53]
    refine Goes.rn 4 [] J39 ?_
    refine bind_some' h fun y54 e55 h => ?_
    refine Goes.cal (.call { callee := .value (.func 113), args := #[(.const (.int .u8 9)), (.const (.int .u8 10))], argTypes := #[5, 5] }) 23 25 113 _ (W.z9 9 10 y54 e55  p3 ) ?_
    rintro _ w32 ⟨S32, u1q, rfl, z32, p32, u1r, u1s⟩
    refine bind_some' h fun y56 e57 h => ?_
    refine Goes.cal (.call { callee := .value (.func 113), args := #[(.const (.int .u8 12)), (.const (.int .u8 13))], argTypes := #[5, 5] }) 24 25 113 _ (W.z9 12 13 y56 e57  p32 ) ?_
    rintro _ w33 ⟨S33, u1t, rfl, z33, p33, u1u, u1v⟩
    refine bind_some' h fun y58 e59 h => ?_
    refine Goes.cal (.call { callee := .value (.func 90), args := #[(.const (.int .u8 32))], argTypes := #[5] }) 25 25 90 _ (W.z5 32 y58 e59  p33 ) ?_
    rintro _ w34 ⟨S34, u1w, rfl, z34, p34, u1x, u1y⟩
    have l60 := Els.len1 (u1r.ext (z33.trans z34)) u1s rfl
    obtain rfl := els_lit4 (u1r.ext (z33.trans z34)) u1s
    have l61 := Els.len1 (u1u.ext z34) u1v rfl
    obtain rfl := els_lit4 (u1u.ext z34) u1v
    have l62 := Els.len1 u1x u1y rfl
    obtain rfl := els_lit4 u1x u1y
    have f64 : Els (kArr 4 (kInt .u64)) S34 w34 ((U4 y54 (U4 y56 (U4 y58 []))) : List Value) [y54, y56, y58] := by exact (Els.cons (K := (kArr 4 (kInt .u64))) (vs := (U4 y54 [])) (x := y54) ⟨l60, els_mk4 l60⟩ (Els.cons (K := (kArr 4 (kInt .u64))) (vs := (U4 y56 [])) (x := y56) ⟨l61, els_mk4 l61⟩ (Els.cons (K := (kArr 4 (kInt .u64))) (vs := (U4 y58 [])) (x := y58) ⟨l62, els_mk4 l62⟩ Els.nil)))
    refine Op_.made (.buildSlice 151 3 #[(0, (.tmp 23)), (1, (.tmp 24)), (2, (.tmp 25))]) 26 151 (fun b => .slice (Gp (some b)) 3 3) 25 ((U4 y54 (U4 y56 (U4 y58 []))) : List Value) p34 Goes.v (by kernel_rfl) ?_
    intro b63 w35 z35 p35
    have p35 : Hp nz wz S34 w35 (((some b63), .row 25 ((U4 y54 (U4 y56 (U4 y58 []))) : List Value) (3 * (kArr 4 (kInt .u64)).size) 0) :: (some b3, .row 25 [.u 0, .u 0, .u 0, .u 0] 4 0) :: (some b1, .row 25 [.u 0, .u 0, .u 0, .u 0] 4 0) :: Lr) := p35
    obtain ⟨S36, z36, p36, f66⟩ := p35.freezeRd 0 rfl (f64.ext z35) (by decide)
    refine bind_some' h fun y67 e68 h => ?_
    refine Goes.cal (kc 102 [26] #[151]) 27 25 102 _ (W.zb [y54, y56, y58] y67 e68 (Gp (some b63)) 3 3 p36 f66 rfl) ?_
    rintro _ w37 ⟨S37, u1z, rfl, z37, p37, u20, u21⟩
    have p37 := p37.dp 0
    have f69 : Els (kInt .u64) S37 w37 ([.u 0, .u 0, .u 0, .u 0] : List Value) [0, 0, 0, 0] := (Els.cons (K := (kInt .u64)) (vs := [.u 0]) (x := 0) rfl (Els.cons (K := (kInt .u64)) (vs := [.u 0]) (x := 0) rfl (Els.cons (K := (kInt .u64)) (vs := [.u 0]) (x := 0) rfl (Els.cons (K := (kInt .u64)) (vs := [.u 0]) (x := 0) rfl Els.nil))))
    refine Op_.stA 25 (.tmp 4) (.tmp 27) 0 0 b3 4 u1z p37 rfl rfl Goes.s (by kernel_rfl) (by kernel_rfl) (by kernel_rfl) u21 (Els.one u20) ?_
    intro w38 z38 p38
    refine Goes.rn 9 [(29, .int .u8 x0), (30, .int .u8 (iand .u8 x0 32)), (31, .bool (decide (iand .u8 x0 32 = 0)))] J31 ?_
    refine ite_some h (fun h70 h => ?_) (fun h70 h => ?_)
    ·
     rw [decide_eq_true h70]
     refine Goes.rn 2 [] J32 ?_
     refine Op_.ldN 25 (.tmp 4) 32 25 ⟨b3, 0, none⟩ u1z Goes.v (by kernel_rfl) (by kernel_rfl) (by rw [u21]; kernel_rfl) (At_all (p38.mem 0 rfl)) ?_
     refine bind_some' h fun y71 e72 h => ?_
     refine Goes.cal (kc 89 [32] #[25]) 33 25 89 _ (W.z6 y67 y71 e72 u1z p38 (u20.ext z38) u21) ?_
     rintro _ w39 ⟨S39, u22, rfl, z39, p39, u23, u24⟩
     refine Op_.stA 25 (.tmp 4) (.tmp 33) 0 0 b3 4 u22 p39 rfl u21 Goes.s (by kernel_rfl) (by kernel_rfl) (by kernel_rfl) u24 (Els.one u23) ?_
     intro w40 z40 p40
     refine Goes.rn 3 [] J34 ?_
     refine Op_.ldN 25 (.tmp 4) 34 25 ⟨b3, 0, none⟩ u22 Goes.v (by kernel_rfl) (by kernel_rfl) (by rw [u24]; kernel_rfl) (At_all (p40.mem 0 rfl)) ?_
     have f73 : Els (kInt .u64) S39 w40 ([.u 0, .u 0, .u 0, .u 0] : List Value) [0, 0, 0, 0] := (Els.cons (K := (kInt .u64)) (vs := [.u 0]) (x := 0) rfl (Els.cons (K := (kInt .u64)) (vs := [.u 0]) (x := 0) rfl (Els.cons (K := (kInt .u64)) (vs := [.u 0]) (x := 0) rfl (Els.cons (K := (kInt .u64)) (vs := [.u 0]) (x := 0) rfl Els.nil))))
     refine Op_.stA 25 (.tmp 2) (.tmp 34) 0 1 b1 4 u22 p40 rfl rfl Goes.s (by kernel_rfl) (by kernel_rfl) (by kernel_rfl) u24 (Els.one (u23.ext z40)) ?_
     intro w41 z41 p41
     refine Goes.rn 2 [(3, .bool true)] J33 ?_
     obtain rfl := Option.some.inj h
     have p41 := p41.dp 0
     exact Goes.ret (fn := Tryd.f103) (by kernel_rfl) (v := .tuple #[.agg u22.toArray, .bool true]) (results_n2 (fn := Tryd.f103) (a := .cell 2 25) (b := .tmp 3) (by kernel_rfl) (resV_cell ⟨b1, 0, none⟩ (by kernel_rfl) (run_loadN u22 (by kernel_rfl) (by rw [u24]; kernel_rfl) (At_all (p41.mem 0 rfl)))) (resV_tmp (by kernel_rfl))) ⟨S39, u22, rfl, (((((((((((((Ext.refl S0 w0).trans z2).trans z3).trans z32).trans z33).trans z34).trans z35).trans z36).trans z37).trans z38).trans z39).trans z40).trans z41), p41.drop, (u23.ext (z40.trans z41)), u24⟩
    ·
     rw [decide_eq_false h70]
     refine Goes.rn 4 [] J34 ?_
     refine Op_.ldN 25 (.tmp 4) 34 25 ⟨b3, 0, none⟩ u1z Goes.v (by kernel_rfl) (by kernel_rfl) (by rw [u21]; kernel_rfl) (At_all (p38.mem 0 rfl)) ?_
     have f74 : Els (kInt .u64) S37 w38 ([.u 0, .u 0, .u 0, .u 0] : List Value) [0, 0, 0, 0] := (Els.cons (K := (kInt .u64)) (vs := [.u 0]) (x := 0) rfl (Els.cons (K := (kInt .u64)) (vs := [.u 0]) (x := 0) rfl (Els.cons (K := (kInt .u64)) (vs := [.u 0]) (x := 0) rfl (Els.cons (K := (kInt .u64)) (vs := [.u 0]) (x := 0) rfl Els.nil))))
     refine Op_.stA 25 (.tmp 2) (.tmp 34) 0 1 b1 4 u1z p38 rfl rfl Goes.s (by kernel_rfl) (by kernel_rfl) (by kernel_rfl) u21 (Els.one (u20.ext z38)) ?_
     intro w42 z42 p42
     refine Goes.rn 2 [(3, .bool true)] J33 ?_
     obtain rfl := Option.some.inj h
     have p42 := p42.dp 0
     exact Goes.ret (fn := Tryd.f103) (by kernel_rfl) (v := .tuple #[.agg u1z.toArray, .bool true]) (results_n2 (fn := Tryd.f103) (a := .cell 2 25) (b := .tmp 3) (by kernel_rfl) (resV_cell ⟨b1, 0, none⟩ (by kernel_rfl) (run_loadN u1z (by kernel_rfl) (by rw [u21]; kernel_rfl) (At_all (p42.mem 0 rfl)))) (resV_tmp (by kernel_rfl))) ⟨S37, u1z, rfl, (((((((((((Ext.refl S0 w0).trans z2).trans z3).trans z32).trans z33).trans z34).trans z35).trans z36).trans z37).trans z38).trans z42), p42.drop, (u20.ext (z38.trans z42)), u21⟩
   ·
    rw [decide_eq_false h53]
    refine Goes.rn 6 [] J3c ?_
    refine Goes.ldN 25 (.tmp 4) 28 25 ⟨b3, 0, none⟩ [.u 0, .u 0, .u 0, .u 0] (p3.pa 0 0) ?_
    refine Op_.st 25 (.tmp 2) (.tmp 28) 0 1 b1 0 (.agg #[.u 0, .u 0, .u 0, .u 0]) [.u 0, .u 0, .u 0, .u 0] p3 rfl Goes.s (by kernel_rfl) (by kernel_rfl) (by kernel_rfl) (by kernel_rfl) (Nat.zero_le _) (by simp only [List.length_cons, List.length_nil]; omega) (by simp [Value.oneCell']) ?_
    intro w43 z43 p43
    have p43 : Hp nz wz S0 w43 ((some b3, .row 25 [.u 0, .u 0, .u 0, .u 0] 4 0) :: (some b1, .row 25 [.u 0, .u 0, .u 0, .u 0] 4 0) :: Lr) := p43
    refine Goes.rn 2 [(3, .bool false)] J3b ?_
    obtain rfl := Option.some.inj h
    have p43 := p43.dp 0
    exact Goes.ret (fn := Tryd.f103) (by kernel_rfl) (v := .tuple #[.agg #[.u 0, .u 0, .u 0, .u 0], .bool false]) (results_n2 (fn := Tryd.f103) (a := .cell 2 25) (b := .tmp 3) (by kernel_rfl) (resV_cell ⟨b1, 0, none⟩ (by kernel_rfl) (run_loadN [.u 0, .u 0, .u 0, .u 0] (by kernel_rfl) (by kernel_rfl) (p43.pa 0 0))) (resV_tmp (by kernel_rfl))) ⟨S0, ([.u 0, .u 0, .u 0, .u 0] : List Value), rfl, ((((Ext.refl S0 w0).trans z2).trans z3).trans z43), p43.drop, (show Els (kInt .u64) S0 w43 ([.u 0, .u 0, .u 0, .u 0] : List Value) _ from (Els.cons (K := (kInt .u64)) (vs := [.u 0]) (x := 0) rfl (Els.cons (K := (kInt .u64)) (vs := [.u 0]) (x := 0) rfl (Els.cons (K := (kInt .u64)) (vs := [.u 0]) (x := 0) rfl (Els.cons (K := (kInt .u64)) (vs := [.u 0]) (x := 0) rfl Els.nil))))), rfl⟩

def Q2s := sub [1, 1] B121
def J3d : List Item := [.code Q2s]
def Q2t := sub [1, 0, 1] B121
def J3e : List Item := .code Q2t :: J3d
def Q2u := sub [1, 0, 0] B121
def J3f : List Item := .inRegion (opsOf Q2u) [3, 4, 5] :: J3e
def Q2v := sub [1, 0, 1, 0, 1] B121
def J3g : List Item := .code Q2v :: J3d
def Q2w := sub [1, 1, 1] B121
def J3h : List Item := [.code Q2w]

def Post.zg (r : Int) (v : Value) (w' : World) : Prop :=
 ∃ S', v = .int .u8 r ∧ Ext S0 w0 S' w' ∧ Hp nz wz S' w' (Lr)

theorem W.zg (x0 : Int) (r : Int) (h : M.syntax_lower x0 = some r) {nz wz S0 w0 Lr} [Gw nz wz] (p0 : Hp nz wz S0 w0 (Lr)) :
  Calls Tryd.prog 121 #[.int .u8 x0] w0 (Rets (Post.zg nz wz S0 w0 Lr r)) := by
 refine calls_of_goes (fn := Tryd.f121) (c := B121) (by kernel_rfl) (by kernel_rfl) 12 (by kernel_rfl) ?_
 refine Goes.jp 13 [(0, .int .u8 x0)] (fun junk => ?_)
 delta M.syntax_lower at h
 refine Goes.rn 10 [(2, .int .u8 0), (3, .int .u8 x0), (4, .bool (decide (x0 ≥ 65))), (5, .bool (decide (x0 ≥ 65)))] J3f ?_
 refine ite_some h (fun h1 h => ?_) (fun h1 h => ?_)
 ·
  rw [decide_eq_true h1]
  refine Goes.rn 4 [(6, .int .u8 x0), (7, .bool (decide (x0 ≤ 70))), (8, .bool (decide (x0 ≤ 70)))] J3e ?_
  refine ite_some h (fun h2 h => ?_) (fun h2 h => ?_)
  ·
   rw [decide_eq_true h2]
   refine Goes.rn 8 [(9, .int .u8 x0), (10, .int .u8 (wr .u8 (x0 + 97))), (11, .int .u8 (wr .u8 ((wr .u8 (x0 + 97)) - 65))), (2, .int .u8 (wr .u8 ((wr .u8 (x0 + 97)) - 65)))] J3g ?_
   obtain rfl := Option.some.inj h
   exact Goes.rt Tryd.f121 (.int .u8 (wr .u8 ((wr .u8 (x0 + 97)) - 65))) ⟨S0, rfl, (Ext.refl S0 w0), p0⟩
  ·
   rw [decide_eq_false h2]
   refine Goes.rn 7 [(12, .int .u8 x0), (2, .int .u8 x0)] J3h ?_
   obtain rfl := Option.some.inj h
   exact Goes.rt Tryd.f121 (.int .u8 x0) ⟨S0, rfl, (Ext.refl S0 w0), p0⟩
 ·
  rw [decide_eq_false h1]
  refine Goes.rn 11 [(6, undef), (7, undef), (8, .bool false), (12, .int .u8 x0), (2, .int .u8 x0)] J3h ?_
  obtain rfl := Option.some.inj h
  exact Goes.rt Tryd.f121 (.int .u8 x0) ⟨S0, rfl, (Ext.refl S0 w0), p0⟩

def Q2x := sub [1, 1] B63
def J3i : List Item := [.code Q2x]
def Q2y := sub [1, 0] B63
def J3j : List Item := .inRegion (opsOf Q2y) [2, 3] :: J3i

def Post.zh (r : Int) (v : Value) (w' : World) : Prop :=
 ∃ S', v = .i r ∧ Ext S0 w0 S' w' ∧ Hp nz wz S' w' (Lr)

theorem W.zh (x0 : ByteArray) (x1 : Int) (r : Int) (h : M.stringslite_IndexByte x0 x1 = some r) {nz wz S0 w0 Lr} [Gw nz wz] (p0 : Hp nz wz S0 w0 (Lr)) :
  Calls Tryd.prog 63 #[.string x0, .int .u8 x1] w0 (Rets (Post.zh nz wz S0 w0 Lr r)) := by
 refine calls_of_goes (fn := Tryd.f63) (c := B63) (by kernel_rfl) (by kernel_rfl) 6 (by kernel_rfl) ?_
 refine Goes.jp 8 [(0, .string x0), (1, .int .u8 x1)] (fun junk => ?_)
 delta M.stringslite_IndexByte at h
 refine Goes.rn 8 [(4, .i 0), (5, .string x0), (6, .int .u8 x1)] J3j ?_
 refine Op_.ext { callee := .value (.func 77), args := #[(.tmp 5), (.tmp 6)], argTypes := #[9, 5] } 7 3 77 #[.string x0, .int .u8 x1] Tryd.f77 Extern.BytealgIndexByte.indexByte (.i (ixB x0 x1)) Goes.v (by kernel_rfl) (by kernel_rfl) (by kernel_rfl) (by kernel_rfl) (by kernel_rfl) (by kernel_rfl) (ixB_run _ _) ?_
 refine Goes.rn 2 [(4, .i (ixB x0 x1))] J3i ?_
 obtain rfl := Option.some.inj h
 exact Goes.rt Tryd.f63 (.i (ixB x0 x1)) ⟨S0, rfl, (Ext.refl S0 w0), p0⟩

def Q2z := sub [1, 1] B45
def J3k : List Item := [.code Q2z]
def Q30 := sub [1, 0] B45
def J3l : List Item := .inRegion (opsOf Q30) [2, 3] :: J3k

def Post.zi (r : Int) (v : Value) (w' : World) : Prop :=
 ∃ S', v = .i r ∧ Ext S0 w0 S' w' ∧ Hp nz wz S' w' (Lr)

theorem W.zi (x0 : ByteArray) (x1 : Int) (r : Int) (h : M.strings_IndexByte x0 x1 = some r) {nz wz S0 w0 Lr} [Gw nz wz] (p0 : Hp nz wz S0 w0 (Lr)) :
  Calls Tryd.prog 45 #[.string x0, .int .u8 x1] w0 (Rets (Post.zi nz wz S0 w0 Lr r)) := by
 refine calls_of_goes (fn := Tryd.f45) (c := B45) (by kernel_rfl) (by kernel_rfl) 6 (by kernel_rfl) ?_
 refine Goes.jp 8 [(0, .string x0), (1, .int .u8 x1)] (fun junk => ?_)
 delta M.strings_IndexByte at h
 refine Goes.rn 8 [(4, .i 0), (5, .string x0), (6, .int .u8 x1)] J3l ?_
 refine bind_some' h fun y1 e2 h => ?_
 refine Goes.cal (kc 63 [5, 6] #[9, 5]) 7 3 63 _ (W.zh x0 x1 y1 e2  p0 ) ?_
 rintro _ w2 ⟨S2, rfl, z2, p2⟩
 refine Goes.rn 2 [(4, .i y1)] J3k ?_
 obtain rfl := Option.some.inj h
 exact Goes.rt Tryd.f45 (.i y1) ⟨S2, rfl, ((Ext.refl S0 w0).trans z2), p2⟩

def Q31 := sub [1, 1] B114
def J3m : List Item := [.code Q31]
def Q32 := sub [1, 0] B114
def J3n : List Item := .inRegion (opsOf Q32) [1, 2, 3] :: J3m

def Post.zj (r : Int) (v : Value) (w' : World) : Prop :=
 ∃ S', v = .i r ∧ Ext S0 w0 S' w' ∧ Hp nz wz S' w' (Lr)

theorem W.zj (x0 : Int) (r : Int) (h : M.syntax_nibble x0 = some r) {nz wz S0 w0 Lr} [Gw nz wz] (p0 : Hp nz wz S0 w0 (Lr)) :
  Calls Tryd.prog 114 #[.int .u8 x0] w0 (Rets (Post.zj nz wz S0 w0 Lr r)) := by
 refine calls_of_goes (fn := Tryd.f114) (c := B114) (by kernel_rfl) (by kernel_rfl) 5 (by kernel_rfl) ?_
 refine Goes.jp 6 [(0, .int .u8 x0)] (fun junk => ?_)
 delta M.syntax_nibble at h
 refine Goes.rn 7 [(2, .i 0), (3, .int .u8 x0)] J3n ?_
 refine bind_some' h fun y1 e2 h => ?_
 refine Goes.cal (kc 121 [3] #[5]) 4 5 121 _ (W.zg x0 y1 e2  p0 ) ?_
 rintro _ w2 ⟨S2, rfl, z2, p2⟩
 refine bind_some' h fun y3 e4 h => ?_
 refine Goes.cal (.call { callee := .value (.func 45), args := #[(.const (.string ⟨#[48, 49, 50, 51, 52, 53, 54, 55, 56, 57, 97, 98, 99, 100, 101, 102]⟩)), (.tmp 4)], argTypes := #[9, 5] }) 5 3 45 _ (W.zi (⟨#[48, 49, 50, 51, 52, 53, 54, 55, 56, 57, 97, 98, 99, 100, 101, 102]⟩ : ByteArray) y1 y3 e4  p2 ) ?_
 rintro _ w3 ⟨S3, rfl, z3, p3⟩
 refine Goes.rn 2 [(2, .i y3)] J3m ?_
 obtain rfl := Option.some.inj h
 exact Goes.rt Tryd.f114 (.i y3) ⟨S3, rfl, (((Ext.refl S0 w0).trans z2).trans z3), p3⟩

def Q33 := sub [1, 1] B104
def J3o : List Item := [.code Q33]
def Q34 := sub [1, 0] B104
def J3p : List Item := .inRegion (opsOf Q34) [1, 2, 3] :: J3o
def Q35 := sub [1, 1, 1] B104
def J3q : List Item := [.code Q35]
def Q36 := sub [1, 1, 0, 1] B104
def J3r : List Item := .code Q36 :: J3q
def Q37 := sub [1, 1, 0, 1, 0, 1] B104
def J3s : List Item := .code Q37 :: J3q
def Q38 := sub [1, 1, 0, 1, 0, 0] B104
def J3t : List Item := .inRegion (opsOf Q38) [4, 5] :: J3s
def Q39 := sub [1, 1, 0, 1, 0, 1, 1] B104
def J3u : List Item := .code Q39 :: J3q
def Q3a := sub [1, 1, 1, 1] B104
def J3v : List Item := [.code Q3a]
def Q3b := sub [1, 1, 1, 0] B104
def J3w : List Item := .inRegion (opsOf Q3b) [3, 4, 5, 6, 7] :: J3v
def J3x : List Item := .inRegion (opsOf Q3b) [7] :: J3v
def Q3c := sub [1, 1, 1, 1, 1] B104
def J3y : List Item := [.code Q3c]

def Post.zk (gx0 : Nat) (r : Int × T68) (v : Value) (w' : World) : Prop :=
 ∃ S' u0, v = .int .u8 r.1 ∧ Ext S0 w0 S' w' ∧ Hp nz wz S' w' ((some gx0, .row 69 [.string r.2.s, .i r.2.at_, .i r.2.deep, u0] 4 0) :: Lr) ∧ PtO kT72 S' w' u0 r.2.bad

theorem W.zk (x0v : T68) (r : Int × T68) (h : M.syntax_parser_digit x0v = some r) {nz wz S0 w0 Lr} [Gw nz wz] (gx0 u2) (p0 : Hp nz wz S0 w0 ((some gx0, .row 69 [.string x0v.s, .i x0v.at_, .i x0v.deep, u2] 4 0) :: Lr)) (u3 : PtO kT72 S0 w0 u2 x0v.bad) :
  Calls Tryd.prog 104 #[(pt gx0 0)] w0 (Rets (Post.zk nz wz S0 w0 Lr gx0 r)) := by
 refine calls_of_goes (fn := Tryd.f104) (c := B104) (by kernel_rfl) (by kernel_rfl) 23 (by kernel_rfl) ?_
 refine Goes.jp 24 [(0, (pt gx0 0))] (fun junk => ?_)
 delta M.syntax_parser_digit at h
 refine Goes.rn 7 [(2, .int .u8 0), (4, (pt gx0 0))] J3p ?_
 refine bind_some' h fun y2 e3 h => ?_
 refine Goes.cal (kc 65 [4] #[66]) 5 5 65 _ (W.z0 x0v y2 e3 gx0 u2 p0 u3) ?_
 rintro _ w2 ⟨S2, u7, rfl, z2, p2, u8⟩
 refine bind_some' h fun y4 e5 h => ?_
 refine Goes.cal (kc 114 [5] #[5]) 6 3 114 _ (W.zj y2.1 y4 e5  p2 ) ?_
 rintro _ w3 ⟨S3, rfl, z3, p3⟩
 refine Goes.rn 8 [(3, .i y4), (7, .i y4), (8, .bool (decide (y4 < 0)))] J3r ?_
 refine ite_some h (fun h6 h => ?_) (fun h6 h => ?_)
 ·
  rw [decide_eq_true h6]
  refine Goes.rn 7 [(9, (pt gx0 0)), (10, (pt gx0 0)), (11, (pt gx0 0)), (12, (pt gx0 1))] J3t ?_
  refine Goes.ld 3 (.tmp 12) 13 3 ⟨gx0, 1, none⟩ (.i y2.2.at_) (p3.c 0 1) ?_
  refine bind_some' h fun y7 e8 h => ?_
  refine Goes.cal (kc 31 [9, 13] #[66, 3]) 14 28 31 _ (W.z2 y2.2 y2.2.at_ y7 e8 gx0 u7 p3 (u8.ext z3)) ?_
  rintro _ w4 ⟨S4, u25, u26, u27, u28, rfl, z4, p4, u29, u2a, rfl, u2b⟩
  refine Goes.rn 5 [(2, .int .u8 0)] J3u ?_
  obtain rfl := Option.some.inj h
  exact Goes.rt Tryd.f104 (.int .u8 0) ⟨S4, u28, rfl, ((((Ext.refl S0 w0).trans z2).trans z3).trans z4), p4, u2b⟩
 ·
  rw [decide_eq_false h6]
  refine Goes.rn 7 [(15, (pt gx0 0)), (16, (pt gx0 0)), (17, (pt gx0 1))] J3w ?_
  refine Goes.ld 3 (.tmp 17) 18 3 ⟨gx0, 1, none⟩ (.i y2.2.at_) (p3.c 0 1) ?_
  refine Goes.rn 3 [(19, .i (wr .i64 (y2.2.at_ + 1))), (20, (pt gx0 0)), (21, (pt gx0 1))] J3x ?_
  refine Op_.st 3 (.tmp 21) (.tmp 19) 0 0 gx0 1 (.i (wr .i64 (y2.2.at_ + 1))) [.i (wr .i64 (y2.2.at_ + 1))] p3 rfl Goes.s (by kernel_rfl) (by kernel_rfl) (by kernel_rfl) (by kernel_rfl) (Nat.zero_le _) (by simp only [List.length_cons, List.length_nil]; omega) (by simp [Value.oneCell']) ?_
  intro w5 z5 p5
  have p5 : Hp nz wz S3 w5 ((some gx0, .row 69 [.string y2.2.s, .i (wr .i64 (y2.2.at_ + 1)), .i y2.2.deep, u7] 4 0) :: Lr) := p5
  refine Goes.rn 7 [(22, .i y4), (23, .int .u8 (wr .u8 y4)), (2, .int .u8 (wr .u8 y4))] J3y ?_
  obtain rfl := Option.some.inj h
  exact Goes.rt Tryd.f104 (.int .u8 (wr .u8 y4)) ⟨S3, u7, rfl, ((((Ext.refl S0 w0).trans z2).trans z3).trans z5), p5, (u8.ext (z3.trans z5))⟩

def Q3d := sub [1] B105
def J3z : List Item := [.code Q3d]
def Q3e := sub [0] B105
def J40 : List Item := .inRegion (opsOf Q3e) [0] :: J3z
def Q3f := sub [1, 1] B105
def J41 : List Item := [.code Q3f]
def Q3g := sub [1, 0] B105
def J42 : List Item := .inRegion (opsOf Q3g) [1, 2, 3, 4] :: J41
def J43 : List Item := .inRegion (opsOf Q3g) [3, 4] :: J41
def J44 : List Item := .inRegion (opsOf Q3g) [4] :: J41

def Post.zl (r : T126) (v : Value) (w' : World) : Prop :=
 ∃ S', v = (ag (U4 r.set_ [.int .u8 r.b, .bool r.single])) ∧ Ext S0 w0 S' w' ∧ Hp nz wz S' w' (Lr) ∧ r.set_.length = 4

theorem W.zl (x0 : Int) (r : T126) (h : M.syntax_of x0 = some r) {nz wz S0 w0 Lr} [Gw nz wz] (p0 : Hp nz wz S0 w0 (Lr)) :
  Calls Tryd.prog 105 #[.int .u8 x0] w0 (Rets (Post.zl nz wz S0 w0 Lr r)) := by
 refine calls_of_goes (fn := Tryd.f105) (c := B105) (by kernel_rfl) (by kernel_rfl) 6 (by kernel_rfl) ?_
 refine Goes.jp 7 [(0, .int .u8 x0)] (fun junk => ?_)
 delta M.syntax_of at h
 refine Goes.rn 2 [] J40 ?_
 refine Op_.alloc 127 2 0 (.agg #[.u 0, .u 0, .u 0, .u 0, .int .u8 0, .bool false]) [.u 0, .u 0, .u 0, .u 0, .int .u8 0, .bool false] p0 Goes.v (by kernel_rfl) (by kernel_rfl) ?_
 intro b1 w2 z2 p2
 refine Goes.rn 4 [(3, .int .u8 x0)] J42 ?_
 refine bind_some' h fun y3 e4 h => ?_
 refine Goes.cal (kc 90 [3] #[5]) 4 25 90 _ (W.z5 x0 y3 e4  p2 ) ?_
 rintro _ w3 ⟨S3, u2c, rfl, z3, p3, u2d, u2e⟩
 refine Goes.rn 1 [(5, .int .u8 x0)] J43 ?_
 have l5 := Els.len1 u2d u2e rfl
 obtain rfl := els_lit4 u2d u2e
 refine Goes.rn 1 [(6, (ag (U4 y3 [.int .u8 x0, .bool true])))] J44 ?_
 refine Op_.st 127 (.tmp 2) (.tmp 6) 0 0 b1 0 (ag (U4 y3 [.int .u8 x0, .bool true])) (U4 y3 [.int .u8 x0, .bool true]) p3 rfl Goes.s (by kernel_rfl) (by kernel_rfl) (by kernel_rfl) (by kernel_rfl) (Nat.zero_le _) (by simp only [List.length_cons, List.length_nil]; omega) (by simp [Value.oneCell']) ?_
 intro w4 z4 p4
 have p4 : Hp nz wz S3 w4 ((some b1, .row 127 (U4 y3 [.int .u8 x0, .bool true]) 6 0) :: Lr) := p4
 refine Goes.rn 1 [] J41 ?_
 obtain rfl := Option.some.inj h
 exact Goes.ret (fn := Tryd.f105) (by kernel_rfl) (v := (ag (U4 y3 [.int .u8 x0, .bool true]))) (results_n1 (fn := Tryd.f105) (a := .cell 2 127) (by kernel_rfl) (resV_cell ⟨b1, 0, none⟩ (by kernel_rfl) (run_loadN (U4 y3 [.int .u8 x0, .bool true]) (by kernel_rfl) (by kernel_rfl) (p4.pa 0 0)))) ⟨S3, rfl, ((((Ext.refl S0 w0).trans z2).trans z3).trans z4), p4.drop, l5⟩

def Q3h := sub [1, 1, 1, 1] B93
def J45 : List Item := [.code Q3h]
def J46 : List Item := .inBlock 0 :: J45
def Q3i := sub [1, 1, 1, 0, 0, 1, 1, 1, 1, 1, 1, 1] B93
def J47 : List Item := .code Q3i :: J46
def Q3j := sub [1, 1, 1, 0, 0, 1, 1, 1, 1, 1, 1, 1, 0, 1] B93
def J48 : List Item := .code Q3j :: J46
def Q3k := sub [1, 1, 1, 0, 0, 1, 1, 1, 1, 1, 1, 1, 0, 0] B93
def J49 : List Item := .inRegion (opsOf Q3k) [4, 5] :: J48
def Q3l := sub [1, 1, 1, 0, 0, 1, 1, 1, 1, 1, 1, 1, 0, 1, 1] B93
def J4a : List Item := .code Q3l :: J46
def Q3m := sub [1, 1, 1, 0, 0, 1, 1, 1, 1, 1, 1, 1, 0, 1, 0] B93
def J4b : List Item := .inRegion (opsOf Q3m) [1] :: J4a
def Q3n := sub [1, 1, 1, 1, 1] B93
def J4c : List Item := [.code Q3n]
def Q3o := sub [1, 1, 1, 1, 0] B93
def J4d : List Item := .inRegion (opsOf Q3o) [3, 4, 5, 6, 7] :: J4c
def J4e : List Item := .inRegion (opsOf Q3o) [7] :: J4c
def Q3p := sub [1, 1, 1, 1, 1, 1] B93
def J4f : List Item := [.code Q3p]
def Q3q := sub [1, 1, 1, 1, 1, 0] B93
def J4g : List Item := .inRegion (opsOf Q3q) [1, 2] :: J4f

def Post.zm (gx0 : Nat) (r : T126 × T68) (v : Value) (w' : World) : Prop :=
 ∃ S' u0, v = (ag (U4 r.1.set_ [.int .u8 r.1.b, .bool r.1.single])) ∧ Ext S0 w0 S' w' ∧ Hp nz wz S' w' ((some gx0, .row 69 [.string r.2.s, .i r.2.at_, .i r.2.deep, u0] 4 0) :: Lr) ∧ r.1.set_.length = 4 ∧ PtO kT72 S' w' u0 r.2.bad

def L.zn (gx0 : Nat) : T126 × Int × Bool × T68 → (T126 × T68) → Prop := fun ⟨x2v, x3, x66, e0v⟩ r => ∀ S1 w1, Ext S0 w0 S1 w1 → ∀ gx2 u0 (_ : Hp nz wz S1 w1 ((some gx2, .row 127 (U4 x2v.set_ [.int .u8 x2v.b, .bool x2v.single]) 6 0) :: (some gx0, .row 69 [.string e0v.s, .i e0v.at_, .i e0v.deep, u0] 4 0) :: Lr)) (_ : x2v.set_.length = 4) (_ : PtO kT72 S1 w1 u0 e0v.bad) (junk : Nat → Value),
 Goes Tryd.prog (base 93) J47 ⟨lfr 90 [(0, (pt gx0 0)), (2, (pt gx2 0)), (3, .int .u8 x3), (66, .bool x66)] junk, []⟩ w1 (Done Tryd.prog 93 (Rets (Post.zm nz wz S0 w0 Lr gx0 r)))

theorem W.zn {nz wz S0 w0 Lr} [Gw nz wz] (gx0 : Nat) : ∀ a r, M.syntax_parser_escape_l0 a = some r → L.zn nz wz S0 w0 Lr gx0 a r := by
 intro ⟨x2v, x3, x66, e0v⟩ r h S1 w1 hx gx2 u0 p1 ue u1 junk
 rw [M.syntax_parser_escape_l0] at h
 try dsimp only at h
 refine ite_some h (fun h30 h => ?_) (fun h30 h => ?_)
 ·
  rw [h30]
  refine Goes.rn 7 [(74, (pt gx0 0)), (75, (pt gx0 0)), (76, (pt gx0 0)), (77, (pt gx0 1))] J49 ?_
  refine Goes.ld 3 (.tmp 77) 78 3 ⟨gx0, 1, none⟩ (.i e0v.at_) (p1.c 1 1) ?_
  have p1 := p1.fr 1
  refine bind_some' h fun y31 e32 h => ?_
  refine Goes.cal (kc 31 [74, 78] #[66, 3]) 79 28 31 _ (W.z2 e0v e0v.at_ y31 e32 gx0 u0 p1 u1) ?_
  rintro _ w21 ⟨S21, u2f, u2g, u2h, u2i, rfl, z21, p21, u2j, u2k, rfl, u2l⟩
  refine Goes.rn 4 [(80, .agg #[.u 0, .u 0, .u 0, .u 0, .int .u8 0, .bool false])] J4b ?_
  refine Op_.st 127 (.tmp 2) (.tmp 80) 0 1 gx2 0 (.agg #[.u 0, .u 0, .u 0, .u 0, .int .u8 0, .bool false]) [.u 0, .u 0, .u 0, .u 0, .int .u8 0, .bool false] p21 rfl Goes.s (by kernel_rfl) (by kernel_rfl) (by kernel_rfl) (by kernel_rfl) (Nat.zero_le _) (by simp only [List.length_cons, List.length_nil]; omega) (by simp [Value.oneCell']) ?_
  intro w22 z22 p22
  have p22 : Hp nz wz S21 w22 ((some gx0, .row 69 [.string y31.2.s, .i y31.2.at_, .i y31.2.deep, u2i] 4 0) :: (some gx2, .row 127 [.u 0, .u 0, .u 0, .u 0, .int .u8 0, .bool false] 6 0) :: Lr) := p22
  refine Goes.rn 1 [] J4a ?_
  obtain rfl := Option.some.inj h
  have p22 := (p22.fr 0).fr 1
  exact Goes.ret (fn := Tryd.f93) (by kernel_rfl) (v := .agg #[.u 0, .u 0, .u 0, .u 0, .int .u8 0, .bool false]) (results_n1 (fn := Tryd.f93) (a := .cell 2 127) (by kernel_rfl) (resV_cell ⟨gx2, 0, none⟩ (by kernel_rfl) (run_loadN [.u 0, .u 0, .u 0, .u 0, .int .u8 0, .bool false] (by kernel_rfl) (by kernel_rfl) (p22.pa 0 0)))) ⟨S21, u2i, rfl, ((hx.trans z21).trans z22), p22.drop, rfl, (u2l.ext z22)⟩
 ·
  have u2m : x66 = false := by simpa using h30
  rw [u2m]
  refine Goes.rn 8 [(81, (pt gx0 0)), (82, (pt gx0 0)), (83, (pt gx0 1))] J4d ?_
  refine Goes.ld 3 (.tmp 83) 84 3 ⟨gx0, 1, none⟩ (.i e0v.at_) (p1.c 1 1) ?_
  refine Goes.rn 3 [(85, .i (wr .i64 (e0v.at_ + 1))), (86, (pt gx0 0)), (87, (pt gx0 1))] J4e ?_
  refine Op_.st 3 (.tmp 87) (.tmp 85) 0 1 gx0 1 (.i (wr .i64 (e0v.at_ + 1))) [.i (wr .i64 (e0v.at_ + 1))] p1 rfl Goes.s (by kernel_rfl) (by kernel_rfl) (by kernel_rfl) (by kernel_rfl) (Nat.zero_le _) (by simp only [List.length_cons, List.length_nil]; omega) (by simp [Value.oneCell']) ?_
  intro w23 z23 p23
  have p23 : Hp nz wz S1 w23 ((some gx2, .row 127 (U4 x2v.set_ [.int .u8 x2v.b, .bool x2v.single]) 6 0) :: (some gx0, .row 69 [.string e0v.s, .i (wr .i64 (e0v.at_ + 1)), .i e0v.deep, u0] 4 0) :: Lr) := p23
  refine Goes.rn 4 [(88, .int .u8 x3)] J4g ?_
  refine bind_some' h fun y33 e34 h => ?_
  refine Goes.cal (kc 105 [88] #[5]) 89 127 105 _ (W.zl x3 y33 e34  p23 ) ?_
  rintro _ w24 ⟨S24, rfl, z24, p24, u2n⟩
  refine Op_.st 127 (.tmp 2) (.tmp 89) 0 0 gx2 0 (ag (U4 y33.set_ [.int .u8 y33.b, .bool y33.single])) (U4 y33.set_ [.int .u8 y33.b, .bool y33.single]) p24 rfl Goes.s (by kernel_rfl) (by kernel_rfl) (by kernel_rfl) (by kernel_rfl) (Nat.zero_le _) (by simp only [List.length_cons, List.length_nil]; omega) (by simp [Value.oneCell']) ?_
  intro w25 z25 p25
  have p25 : Hp nz wz S24 w25 ((some gx2, .row 127 (U4 y33.set_ [.int .u8 y33.b, .bool y33.single]) 6 0) :: (some gx0, .row 69 [.string e0v.s, .i (wr .i64 (e0v.at_ + 1)), .i e0v.deep, u0] 4 0) :: Lr) := p25
  refine Goes.rn 1 [] J4f ?_
  obtain rfl := Option.some.inj h
  exact Goes.ret (fn := Tryd.f93) (by kernel_rfl) (v := (ag (U4 y33.set_ [.int .u8 y33.b, .bool y33.single]))) (results_n1 (fn := Tryd.f93) (a := .cell 2 127) (by kernel_rfl) (resV_cell ⟨gx2, 0, none⟩ (by kernel_rfl) (run_loadN (U4 y33.set_ [.int .u8 y33.b, .bool y33.single]) (by kernel_rfl) (by kernel_rfl) (p25.pa 0 0)))) ⟨S24, u0, rfl, (((hx.trans z23).trans z24).trans z25), p25.drop, u2n, (u1.ext ((z23.trans z24).trans z25))⟩

def Q3r := sub [1] B93
def J4h : List Item := [.code Q3r]
def Q3s := sub [0] B93
def J4i : List Item := .inRegion (opsOf Q3s) [0] :: J4h
def Q3t := sub [1, 1] B93
def J4j : List Item := [.code Q3t]
def Q3u := sub [1, 0] B93
def J4k : List Item := .inRegion (opsOf Q3u) [1, 2] :: J4j
def Q3v := sub [1, 1, 1] B93
def J4l : List Item := [.code Q3v]
def Q3w := sub [1, 1, 0, 1] B93
def J4m : List Item := .code Q3w :: J4l
def Q3x := sub [1, 1, 0, 0] B93
def J4n : List Item := .inRegion (opsOf Q3x) [1, 2, 3, 4, 5, 6, 7] :: J4m
def J4o : List Item := .inRegion (opsOf Q3x) [5, 6, 7] :: J4m
def Q3y := sub [1, 1, 0, 1, 1] B93
def J4p : List Item := .code Q3y :: J4l
def Q3z := sub [1, 1, 0, 1, 1, 0, 1] B93
def J4q : List Item := .code Q3z :: J4l
def Q40 := sub [1, 1, 0, 1, 1, 0, 0] B93
def J4r : List Item := .inRegion (opsOf Q40) [3, 4, 5, 6, 7] :: J4q
def J4s : List Item := .inRegion (opsOf Q40) [7] :: J4q
def Q41 := sub [1, 1, 0, 1, 1, 0, 1, 1] B93
def J4t : List Item := .code Q41 :: J4l
def Q42 := sub [1, 1, 0, 1, 1, 0, 1, 0] B93
def J4u : List Item := .inRegion (opsOf Q42) [0, 1, 2] :: J4t
def J4v : List Item := .inRegion (opsOf Q42) [2] :: J4t
def Q43 := sub [1, 1, 1, 0, 0, 1] B93
def J4w : List Item := .code Q43 :: J46
def Q44 := sub [1, 1, 1, 0, 0, 1, 0, 1] B93
def J4x : List Item := .code Q44 :: J46
def Q45 := sub [1, 1, 1, 0, 0, 1, 0, 0] B93
def J4y : List Item := .inRegion (opsOf Q45) [3, 4, 5, 6, 7] :: J4x
def J4z : List Item := .inRegion (opsOf Q45) [7] :: J4x
def Q46 := sub [1, 1, 1, 0, 0, 1, 0, 1, 1] B93
def J50 : List Item := .code Q46 :: J46
def Q47 := sub [1, 1, 1, 0, 0, 1, 0, 1, 0] B93
def J51 : List Item := .inRegion (opsOf Q47) [1, 2] :: J50
def Q48 := sub [1, 1, 1, 0, 0, 1, 0, 1, 1, 1] B93
def J52 : List Item := .code Q48 :: J46
def Q49 := sub [1, 1, 1, 0, 0, 1, 0, 1, 1, 0] B93
def J53 : List Item := .inRegion (opsOf Q49) [1, 2] :: J52
def Q4a := sub [1, 1, 1, 0, 0, 1, 0, 1, 1, 1, 1] B93
def J54 : List Item := .code Q4a :: J46
def Q4b := sub [1, 1, 1, 0, 0, 1, 0, 1, 1, 1, 0] B93
def J55 : List Item := .inRegion (opsOf Q4b) [4, 5] :: J54
def Q4c := sub [1, 1, 1, 0, 0, 1, 1, 1] B93
def J56 : List Item := .code Q4c :: J46
def Q4d := sub [1, 1, 1, 0, 0, 1, 1, 1, 0, 1] B93
def J57 : List Item := .code Q4d :: J46
def Q4e := sub [1, 1, 1, 0, 0, 1, 1, 1, 0, 0] B93
def J58 : List Item := .inRegion (opsOf Q4e) [3, 4, 5, 6, 7] :: J57
def J59 : List Item := .inRegion (opsOf Q4e) [7] :: J57
def Q4f := sub [1, 1, 1, 0, 0, 1, 1, 1, 0, 1, 1] B93
def J5a : List Item := .code Q4f :: J46
def Q4g := sub [1, 1, 1, 0, 0, 1, 1, 1, 0, 1, 0] B93
def J5b : List Item := .inRegion (opsOf Q4g) [0, 1] :: J5a
def Q4h := sub [1, 1, 1, 0, 0, 1, 1, 1, 1, 1] B93
def J5c : List Item := .code Q4h :: J46
def Q4i := sub [1, 1, 1, 0, 0, 1, 1, 1, 1, 1, 0, 1] B93
def J5d : List Item := .code Q4i :: J46
def Q4j := sub [1, 1, 1, 0, 0, 1, 1, 1, 1, 1, 0, 0] B93
def J5e : List Item := .inRegion (opsOf Q4j) [3, 4, 5, 6, 7] :: J5d
def J5f : List Item := .inRegion (opsOf Q4j) [7] :: J5d
def Q4k := sub [1, 1, 1, 0, 0, 1, 1, 1, 1, 1, 0, 1, 1] B93
def J5g : List Item := .code Q4k :: J46
def Q4l := sub [1, 1, 1, 0, 0, 1, 1, 1, 1, 1, 0, 1, 0] B93
def J5h : List Item := .inRegion (opsOf Q4l) [0, 1] :: J5g
def Q4m := sub [1, 1, 1, 0, 0, 1, 1, 1, 1, 1, 1, 0] B93
def J5i : List Item := .inRegion (opsOf Q4m) [3, 4, 5, 6, 7] :: J47
def J5j : List Item := .inRegion (opsOf Q4m) [4, 5, 6, 7] :: J47

theorem W.zm (x0v : T68) (r : T126 × T68) (h : M.syntax_parser_escape x0v = some r) {nz wz S0 w0 Lr} [Gw nz wz] (gx0 u2) (p0 : Hp nz wz S0 w0 ((some gx0, .row 69 [.string x0v.s, .i x0v.at_, .i x0v.deep, u2] 4 0) :: Lr)) (u3 : PtO kT72 S0 w0 u2 x0v.bad) :
  Calls Tryd.prog 93 #[(pt gx0 0)] w0 (Rets (Post.zm nz wz S0 w0 Lr gx0 r)) := by
 refine calls_of_goes (fn := Tryd.f93) (c := B93) (by kernel_rfl) (by kernel_rfl) 89 (by kernel_rfl) ?_
 refine Goes.jp 90 [(0, (pt gx0 0))] (fun junk => ?_)
 delta M.syntax_parser_escape at h
 refine Goes.rn 2 [] J4i ?_
 refine Op_.alloc 127 2 0 (.agg #[.u 0, .u 0, .u 0, .u 0, .int .u8 0, .bool false]) [.u 0, .u 0, .u 0, .u 0, .int .u8 0, .bool false] p0 Goes.v (by kernel_rfl) (by kernel_rfl) ?_
 intro b2 w2 z2 p2
 refine Goes.rn 4 [(8, (pt gx0 0))] J4k ?_
 have p2 := p2.fr 1
 refine bind_some' h fun y4 e5 h => ?_
 refine Goes.cal (kc 65 [8] #[66]) 9 5 65 _ (W.z0 x0v y4 e5 gx0 u2 p2 (u3.ext z2)) ?_
 rintro _ w3 ⟨S3, u2o, rfl, z3, p3, u2p⟩
 refine Goes.rn 6 [(3, .int .u8 y4.1), (11, .int .u8 y4.1)] J4n ?_
 refine bind_some' h fun y6 e7 h => ?_
 refine Goes.cal (kc 103 [11] #[5]) 12 142 103 _ (W.zf y4.1 y6 e7  p3 ) ?_
 rintro _ w4 ⟨S4, u2q, rfl, z4, p4, u2r, u2s⟩
 refine Goes.rn 3 [(10, .tuple #[.agg u2q.toArray, .bool y6.2]), (13, .agg u2q.toArray), (14, .bool y6.2)] J4o ?_
 refine Op_.alloc 25 4 0 (.agg #[.u 0, .u 0, .u 0, .u 0]) [.u 0, .u 0, .u 0, .u 0] p4 Goes.v (by kernel_rfl) (by kernel_rfl) ?_
 intro b8 w5 z5 p5
 have f10 : Els (kInt .u64) S4 w5 ([.u 0, .u 0, .u 0, .u 0] : List Value) [0, 0, 0, 0] := (Els.cons (K := (kInt .u64)) (vs := [.u 0]) (x := 0) rfl (Els.cons (K := (kInt .u64)) (vs := [.u 0]) (x := 0) rfl (Els.cons (K := (kInt .u64)) (vs := [.u 0]) (x := 0) rfl (Els.cons (K := (kInt .u64)) (vs := [.u 0]) (x := 0) rfl Els.nil))))
 refine Op_.stA 25 (.tmp 4) (.tmp 13) 0 0 b8 4 u2q p5 rfl rfl Goes.s (by kernel_rfl) (by kernel_rfl) (by kernel_rfl) u2s (Els.one (u2r.ext z5)) ?_
 intro w6 z6 p6
 refine Goes.rn 6 [(5, .bool y6.2), (15, .bool y6.2)] J4p ?_
 refine ite_some h (fun h11 h => ?_) (fun h11 h => ?_)
 ·
  rw [h11]
  refine Goes.rn 6 [(16, (pt gx0 0)), (17, (pt gx0 0)), (18, (pt gx0 1))] J4r ?_
  refine Goes.ld 3 (.tmp 18) 19 3 ⟨gx0, 1, none⟩ (.i y4.2.at_) (p6.c 1 1) ?_
  refine Goes.rn 3 [(20, .i (wr .i64 (y4.2.at_ + 1))), (21, (pt gx0 0)), (22, (pt gx0 1))] J4s ?_
  refine Op_.st 3 (.tmp 22) (.tmp 20) 0 1 gx0 1 (.i (wr .i64 (y4.2.at_ + 1))) [.i (wr .i64 (y4.2.at_ + 1))] p6 rfl Goes.s (by kernel_rfl) (by kernel_rfl) (by kernel_rfl) (by kernel_rfl) (Nat.zero_le _) (by simp only [List.length_cons, List.length_nil]; omega) (by simp [Value.oneCell']) ?_
  intro w7 z7 p7
  have p7 : Hp nz wz S4 w7 ((some b8, .row 25 u2q 4 0) :: (some gx0, .row 69 [.string y4.2.s, .i (wr .i64 (y4.2.at_ + 1)), .i y4.2.deep, u2o] 4 0) :: (some b2, .row 127 [.u 0, .u 0, .u 0, .u 0, .int .u8 0, .bool false] 6 0) :: Lr) := p7
  refine Goes.rn 3 [] J4u ?_
  refine Op_.ldN 25 (.tmp 4) 23 25 ⟨b8, 0, none⟩ u2q Goes.v (by kernel_rfl) (by kernel_rfl) (by rw [u2s]; kernel_rfl) (At_all (p7.mem 0 rfl)) ?_
  have l12 := Els.len1 (u2r.ext ((z5.trans z6).trans z7)) u2s rfl
  obtain rfl := els_lit4 (u2r.ext ((z5.trans z6).trans z7)) u2s
  refine Goes.rn 1 [(24, (ag (U4 y6.1 [.int .u8 0, .bool false])))] J4v ?_
  refine Op_.st 127 (.tmp 2) (.tmp 24) 0 2 b2 0 (ag (U4 y6.1 [.int .u8 0, .bool false])) (U4 y6.1 [.int .u8 0, .bool false]) p7 rfl Goes.s (by kernel_rfl) (by kernel_rfl) (by kernel_rfl) (by kernel_rfl) (Nat.zero_le _) (by simp only [List.length_cons, List.length_nil]; omega) (by simp [Value.oneCell']) ?_
  intro w8 z8 p8
  have p8 : Hp nz wz S4 w8 ((some b8, .row 25 ((U4 y6.1 []) : List Value) 4 0) :: (some gx0, .row 69 [.string y4.2.s, .i (wr .i64 (y4.2.at_ + 1)), .i y4.2.deep, u2o] 4 0) :: (some b2, .row 127 (U4 y6.1 [.int .u8 0, .bool false]) 6 0) :: Lr) := p8
  refine Goes.rn 1 [] J4t ?_
  obtain rfl := Option.some.inj h
  have p8 := p8.dp 0
  have p8 := (p8.fr 0).fr 1
  exact Goes.ret (fn := Tryd.f93) (by kernel_rfl) (v := (ag (U4 y6.1 [.int .u8 0, .bool false]))) (results_n1 (fn := Tryd.f93) (a := .cell 2 127) (by kernel_rfl) (resV_cell ⟨b2, 0, none⟩ (by kernel_rfl) (run_loadN (U4 y6.1 [.int .u8 0, .bool false]) (by kernel_rfl) (by kernel_rfl) (p8.pa 0 0)))) ⟨S4, u2o, rfl, ((((((((Ext.refl S0 w0).trans z2).trans z3).trans z4).trans z5).trans z6).trans z7).trans z8), p8.drop, l12, (u2p.ext ((((z4.trans z5).trans z6).trans z7).trans z8))⟩
 ·
  have u2t : y6.2 = false := by simpa using h11
  rw [u2t]
  refine Goes.rn 10 [(26, .int .u8 y4.1), (27, .bool (decide (y4.1 = 120))), (25, .bool (decide (y4.1 = 120)))] J4w ?_
  refine ite_some h (fun h13 h => ?_) (fun h13 h => ?_)
  ·
   rw [decide_eq_true h13]
   refine Goes.rn 6 [(28, (pt gx0 0)), (29, (pt gx0 0)), (30, (pt gx0 1))] J4y ?_
   refine Goes.ld 3 (.tmp 30) 31 3 ⟨gx0, 1, none⟩ (.i y4.2.at_) (p6.c 1 1) ?_
   refine Goes.rn 3 [(32, .i (wr .i64 (y4.2.at_ + 1))), (33, (pt gx0 0)), (34, (pt gx0 1))] J4z ?_
   refine Op_.st 3 (.tmp 34) (.tmp 32) 0 1 gx0 1 (.i (wr .i64 (y4.2.at_ + 1))) [.i (wr .i64 (y4.2.at_ + 1))] p6 rfl Goes.s (by kernel_rfl) (by kernel_rfl) (by kernel_rfl) (by kernel_rfl) (Nat.zero_le _) (by simp only [List.length_cons, List.length_nil]; omega) (by simp [Value.oneCell']) ?_
   intro w9 z9 p9
   have p9 : Hp nz wz S4 w9 ((some b8, .row 25 u2q 4 0) :: (some gx0, .row 69 [.string y4.2.s, .i (wr .i64 (y4.2.at_ + 1)), .i y4.2.deep, u2o] 4 0) :: (some b2, .row 127 [.u 0, .u 0, .u 0, .u 0, .int .u8 0, .bool false] 6 0) :: Lr) := p9
   refine Goes.rn 4 [(35, (pt gx0 0))] J51 ?_
   have p9 := p9.fr 1
   refine bind_some' h fun y14 e15 h => ?_
   refine Goes.cal (kc 104 [35] #[66]) 36 5 104 _ (W.zk (⟨y4.2.s, wr .i64 (y4.2.at_ + 1), y4.2.deep, y4.2.bad⟩ : T68) y14 e15 gx0 u2o p9 (u2p.ext (((z4.trans z5).trans z6).trans z9))) ?_
   rintro _ w10 ⟨S10, u2u, rfl, z10, p10, u2v⟩
   have p10 := p10.dp 1
   refine Goes.rn 5 [(6, .int .u8 y14.1), (37, (pt gx0 0))] J53 ?_
   refine bind_some' h fun y16 e17 h => ?_
   refine Goes.cal (kc 104 [37] #[66]) 38 5 104 _ (W.zk y14.2 y16 e17 gx0 u2u p10 u2v) ?_
   rintro _ w11 ⟨S11, u2w, rfl, z11, p11, u2x⟩
   refine Goes.rn 8 [(7, .int .u8 y16.1), (39, .int .u8 y14.1), (40, .int .u8 (ishl .u8 y14.1 4)), (41, .int .u8 y16.1), (42, .int .u8 (ior .u8 (ishl .u8 y14.1 4) y16.1))] J55 ?_
   refine bind_some' h fun y18 e19 h => ?_
   refine Goes.cal (kc 105 [42] #[5]) 43 127 105 _ (W.zl (ior .u8 (ishl .u8 y14.1 4) y16.1) y18 e19  p11 ) ?_
   rintro _ w12 ⟨S12, rfl, z12, p12, u2y⟩
   refine Op_.st 127 (.tmp 2) (.tmp 43) 0 1 b2 0 (ag (U4 y18.set_ [.int .u8 y18.b, .bool y18.single])) (U4 y18.set_ [.int .u8 y18.b, .bool y18.single]) p12 rfl Goes.s (by kernel_rfl) (by kernel_rfl) (by kernel_rfl) (by kernel_rfl) (Nat.zero_le _) (by simp only [List.length_cons, List.length_nil]; omega) (by simp [Value.oneCell']) ?_
   intro w13 z13 p13
   have p13 : Hp nz wz S12 w13 ((some gx0, .row 69 [.string y16.2.s, .i y16.2.at_, .i y16.2.deep, u2w] 4 0) :: (some b2, .row 127 (U4 y18.set_ [.int .u8 y18.b, .bool y18.single]) 6 0) :: Lr) := p13
   refine Goes.rn 1 [] J54 ?_
   obtain rfl := Option.some.inj h
   have p13 := (p13.fr 0).fr 1
   exact Goes.ret (fn := Tryd.f93) (by kernel_rfl) (v := (ag (U4 y18.set_ [.int .u8 y18.b, .bool y18.single]))) (results_n1 (fn := Tryd.f93) (a := .cell 2 127) (by kernel_rfl) (resV_cell ⟨b2, 0, none⟩ (by kernel_rfl) (run_loadN (U4 y18.set_ [.int .u8 y18.b, .bool y18.single]) (by kernel_rfl) (by kernel_rfl) (p13.pa 0 0)))) ⟨S12, u2w, rfl, (((((((((((Ext.refl S0 w0).trans z2).trans z3).trans z4).trans z5).trans z6).trans z9).trans z10).trans z11).trans z12).trans z13), p13.drop, u2y, (u2x.ext (z12.trans z13))⟩
  ·
   rw [decide_eq_false h13]
   refine Goes.rn 7 [(45, .int .u8 y4.1), (46, .bool (decide (y4.1 = 110))), (44, .bool (decide (y4.1 = 110)))] J56 ?_
   refine ite_some h (fun h20 h => ?_) (fun h20 h => ?_)
   ·
    rw [decide_eq_true h20]
    refine Goes.rn 6 [(47, (pt gx0 0)), (48, (pt gx0 0)), (49, (pt gx0 1))] J58 ?_
    refine Goes.ld 3 (.tmp 49) 50 3 ⟨gx0, 1, none⟩ (.i y4.2.at_) (p6.c 1 1) ?_
    refine Goes.rn 3 [(51, .i (wr .i64 (y4.2.at_ + 1))), (52, (pt gx0 0)), (53, (pt gx0 1))] J59 ?_
    refine Op_.st 3 (.tmp 53) (.tmp 51) 0 1 gx0 1 (.i (wr .i64 (y4.2.at_ + 1))) [.i (wr .i64 (y4.2.at_ + 1))] p6 rfl Goes.s (by kernel_rfl) (by kernel_rfl) (by kernel_rfl) (by kernel_rfl) (Nat.zero_le _) (by simp only [List.length_cons, List.length_nil]; omega) (by simp [Value.oneCell']) ?_
    intro w14 z14 p14
    have p14 : Hp nz wz S4 w14 ((some b8, .row 25 u2q 4 0) :: (some gx0, .row 69 [.string y4.2.s, .i (wr .i64 (y4.2.at_ + 1)), .i y4.2.deep, u2o] 4 0) :: (some b2, .row 127 [.u 0, .u 0, .u 0, .u 0, .int .u8 0, .bool false] 6 0) :: Lr) := p14
    refine Goes.rn 3 [] J5b ?_
    refine bind_some' h fun y21 e22 h => ?_
    refine Goes.cal (.call { callee := .value (.func 105), args := #[(.const (.int .u8 10))], argTypes := #[5] }) 54 127 105 _ (W.zl 10 y21 e22  p14 ) ?_
    rintro _ w15 ⟨S15, rfl, z15, p15, u2z⟩
    have p15 := p15.dp 0
    refine Op_.st 127 (.tmp 2) (.tmp 54) 0 1 b2 0 (ag (U4 y21.set_ [.int .u8 y21.b, .bool y21.single])) (U4 y21.set_ [.int .u8 y21.b, .bool y21.single]) p15 rfl Goes.s (by kernel_rfl) (by kernel_rfl) (by kernel_rfl) (by kernel_rfl) (Nat.zero_le _) (by simp only [List.length_cons, List.length_nil]; omega) (by simp [Value.oneCell']) ?_
    intro w16 z16 p16
    have p16 : Hp nz wz S15 w16 ((some gx0, .row 69 [.string y4.2.s, .i (wr .i64 (y4.2.at_ + 1)), .i y4.2.deep, u2o] 4 0) :: (some b2, .row 127 (U4 y21.set_ [.int .u8 y21.b, .bool y21.single]) 6 0) :: Lr) := p16
    refine Goes.rn 1 [] J5a ?_
    obtain rfl := Option.some.inj h
    have p16 := (p16.fr 0).fr 1
    exact Goes.ret (fn := Tryd.f93) (by kernel_rfl) (v := (ag (U4 y21.set_ [.int .u8 y21.b, .bool y21.single]))) (results_n1 (fn := Tryd.f93) (a := .cell 2 127) (by kernel_rfl) (resV_cell ⟨b2, 0, none⟩ (by kernel_rfl) (run_loadN (U4 y21.set_ [.int .u8 y21.b, .bool y21.single]) (by kernel_rfl) (by kernel_rfl) (p16.pa 0 0)))) ⟨S15, u2o, rfl, (((((((((Ext.refl S0 w0).trans z2).trans z3).trans z4).trans z5).trans z6).trans z14).trans z15).trans z16), p16.drop, u2z, (u2p.ext (((((z4.trans z5).trans z6).trans z14).trans z15).trans z16))⟩
   ·
    rw [decide_eq_false h20]
    refine Goes.rn 7 [(56, .int .u8 y4.1), (57, .bool (decide (y4.1 = 116))), (55, .bool (decide (y4.1 = 116)))] J5c ?_
    refine ite_some h (fun h23 h => ?_) (fun h23 h => ?_)
    ·
     rw [decide_eq_true h23]
     refine Goes.rn 6 [(58, (pt gx0 0)), (59, (pt gx0 0)), (60, (pt gx0 1))] J5e ?_
     refine Goes.ld 3 (.tmp 60) 61 3 ⟨gx0, 1, none⟩ (.i y4.2.at_) (p6.c 1 1) ?_
     refine Goes.rn 3 [(62, .i (wr .i64 (y4.2.at_ + 1))), (63, (pt gx0 0)), (64, (pt gx0 1))] J5f ?_
     refine Op_.st 3 (.tmp 64) (.tmp 62) 0 1 gx0 1 (.i (wr .i64 (y4.2.at_ + 1))) [.i (wr .i64 (y4.2.at_ + 1))] p6 rfl Goes.s (by kernel_rfl) (by kernel_rfl) (by kernel_rfl) (by kernel_rfl) (Nat.zero_le _) (by simp only [List.length_cons, List.length_nil]; omega) (by simp [Value.oneCell']) ?_
     intro w17 z17 p17
     have p17 : Hp nz wz S4 w17 ((some b8, .row 25 u2q 4 0) :: (some gx0, .row 69 [.string y4.2.s, .i (wr .i64 (y4.2.at_ + 1)), .i y4.2.deep, u2o] 4 0) :: (some b2, .row 127 [.u 0, .u 0, .u 0, .u 0, .int .u8 0, .bool false] 6 0) :: Lr) := p17
     refine Goes.rn 3 [] J5h ?_
     refine bind_some' h fun y24 e25 h => ?_
     refine Goes.cal (.call { callee := .value (.func 105), args := #[(.const (.int .u8 9))], argTypes := #[5] }) 65 127 105 _ (W.zl 9 y24 e25  p17 ) ?_
     rintro _ w18 ⟨S18, rfl, z18, p18, u30⟩
     have p18 := p18.dp 0
     refine Op_.st 127 (.tmp 2) (.tmp 65) 0 1 b2 0 (ag (U4 y24.set_ [.int .u8 y24.b, .bool y24.single])) (U4 y24.set_ [.int .u8 y24.b, .bool y24.single]) p18 rfl Goes.s (by kernel_rfl) (by kernel_rfl) (by kernel_rfl) (by kernel_rfl) (Nat.zero_le _) (by simp only [List.length_cons, List.length_nil]; omega) (by simp [Value.oneCell']) ?_
     intro w19 z19 p19
     have p19 : Hp nz wz S18 w19 ((some gx0, .row 69 [.string y4.2.s, .i (wr .i64 (y4.2.at_ + 1)), .i y4.2.deep, u2o] 4 0) :: (some b2, .row 127 (U4 y24.set_ [.int .u8 y24.b, .bool y24.single]) 6 0) :: Lr) := p19
     refine Goes.rn 1 [] J5g ?_
     obtain rfl := Option.some.inj h
     have p19 := (p19.fr 0).fr 1
     exact Goes.ret (fn := Tryd.f93) (by kernel_rfl) (v := (ag (U4 y24.set_ [.int .u8 y24.b, .bool y24.single]))) (results_n1 (fn := Tryd.f93) (a := .cell 2 127) (by kernel_rfl) (resV_cell ⟨b2, 0, none⟩ (by kernel_rfl) (run_loadN (U4 y24.set_ [.int .u8 y24.b, .bool y24.single]) (by kernel_rfl) (by kernel_rfl) (p19.pa 0 0)))) ⟨S18, u2o, rfl, (((((((((Ext.refl S0 w0).trans z2).trans z3).trans z4).trans z5).trans z6).trans z17).trans z18).trans z19), p19.drop, u30, (u2p.ext (((((z4.trans z5).trans z6).trans z17).trans z18).trans z19))⟩
    ·
     rw [decide_eq_false h23]
     refine Goes.rn 6 [(67, .int .u8 y4.1), (68, .bool (decide (y4.1 = 0))), (69, .bool (decide (y4.1 = 0)))] J5i ?_
     refine ite_some h (fun h26 h => ?_) (fun h26 h => ?_)
     ·
      rw [decide_eq_true h26]
      refine Goes.rn 6 [(70, undef), (71, undef), (72, undef), (73, .bool true), (66, .bool true)] J47 ?_
      have p6 := p6.dp 0
      have p6 := (p6.fr 0).fr 1
      exact Goes.jp 90 [(0, (pt gx0 0)), (2, (pt b2 0)), (3, .int .u8 y4.1), (66, .bool true)] (W.zn gx0 _ _ h _ _ ((((((Ext.refl S0 w0).trans z2).trans z3).trans z4).trans z5).trans z6) b2 u2o p6 rfl (u2p.ext ((z4.trans z5).trans z6)))
     ·
      rw [decide_eq_false h26]
      refine Goes.rn 1 [(70, .int .u8 y4.1)] J5j ?_
      refine bind_some' h fun y28 e29 h => ?_
      refine Goes.cal (.call { callee := .value (.func 45), args := #[(.const (.string ⟨#[92, 46, 91, 93, 40, 41, 42, 43, 63, 123, 125, 94, 36, 45, 47, 124]⟩)), (.tmp 70)], argTypes := #[9, 5] }) 71 3 45 _ (W.zi (⟨#[92, 46, 91, 93, 40, 41, 42, 43, 63, 123, 125, 94, 36, 45, 47, 124]⟩ : ByteArray) y4.1 y28 e29  p6 ) ?_
      rintro _ w20 ⟨S20, rfl, z20, p20⟩
      have p20 := p20.dp 0
      refine Goes.rn 4 [(72, .bool (decide (y28 < 0))), (73, .bool (decide (y28 < 0))), (66, .bool (decide (y28 < 0)))] J47 ?_
      have p20 := (p20.fr 0).fr 1
      exact Goes.jp 90 [(0, (pt gx0 0)), (2, (pt b2 0)), (3, .int .u8 y4.1), (66, .bool (decide (y28 < 0)))] (W.zn gx0 _ _ h _ _ (((((((Ext.refl S0 w0).trans z2).trans z3).trans z4).trans z5).trans z6).trans z20) b2 u2o p20 rfl (u2p.ext (((z4.trans z5).trans z6).trans z20)))

def Q4n := sub [1, 1, 1] B120
def J5k : List Item := [.code Q4n]
def J5l : List Item := .inBlock 0 :: J5k
def Q4o := sub [1, 1, 0, 0, 1, 1, 1] B120
def J5m : List Item := .code Q4o :: J5l
def Q4p := sub [1, 1, 0, 0, 1, 1, 1, 0, 1] B120
def J5n : List Item := .code Q4p :: J5l
def Q4q := sub [1, 1, 0, 0, 1, 1, 1, 0, 0] B120
def J5o : List Item := .inRegion (opsOf Q4q) [4, 5] :: J5n
def Q4r := sub [1, 1, 0, 0, 1, 1, 1, 0, 1, 1] B120
def J5p : List Item := .code Q4r :: J5l
def Q4s := sub [1, 1, 0, 0, 1, 1, 1, 0, 1, 0] B120
def J5q : List Item := .inRegion (opsOf Q4s) [1] :: J5p
def Q4t := sub [1, 1, 1, 1] B120
def J5r : List Item := [.code Q4t]
def Q4u := sub [1, 1, 1, 0] B120
def J5s : List Item := .inRegion (opsOf Q4u) [3, 4, 5, 6, 7] :: J5r
def J5t : List Item := .inRegion (opsOf Q4u) [7] :: J5r
def Q4v := sub [1, 1, 1, 1, 1] B120
def J5u : List Item := [.code Q4v]
def Q4w := sub [1, 1, 1, 1, 0] B120
def J5v : List Item := .inRegion (opsOf Q4w) [1, 2] :: J5u

def Post.zo (gx0 : Nat) (r : T126 × T68) (v : Value) (w' : World) : Prop :=
 ∃ S' u0, v = (ag (U4 r.1.set_ [.int .u8 r.1.b, .bool r.1.single])) ∧ Ext S0 w0 S' w' ∧ Hp nz wz S' w' ((some gx0, .row 69 [.string r.2.s, .i r.2.at_, .i r.2.deep, u0] 4 0) :: Lr) ∧ r.1.set_.length = 4 ∧ PtO kT72 S' w' u0 r.2.bad

def L.zp (gx0 : Nat) : T126 × Int × Bool × T68 → (T126 × T68) → Prop := fun ⟨x2v, x3, x11, e0v⟩ r => ∀ S1 w1, Ext S0 w0 S1 w1 → ∀ gx2 u0 (_ : Hp nz wz S1 w1 ((some gx2, .row 127 (U4 x2v.set_ [.int .u8 x2v.b, .bool x2v.single]) 6 0) :: (some gx0, .row 69 [.string e0v.s, .i e0v.at_, .i e0v.deep, u0] 4 0) :: Lr)) (_ : x2v.set_.length = 4) (_ : PtO kT72 S1 w1 u0 e0v.bad) (junk : Nat → Value),
 Goes Tryd.prog (base 120) J5m ⟨lfr 39 [(0, (pt gx0 0)), (2, (pt gx2 0)), (3, .int .u8 x3), (11, .bool x11)] junk, []⟩ w1 (Done Tryd.prog 120 (Rets (Post.zo nz wz S0 w0 Lr gx0 r)))

theorem W.zp {nz wz S0 w0 Lr} [Gw nz wz] (gx0 : Nat) : ∀ a r, M.syntax_parser_item_l0 a = some r → L.zp nz wz S0 w0 Lr gx0 a r := by
 intro ⟨x2v, x3, x11, e0v⟩ r h S1 w1 hx gx2 u0 p1 ue u1 junk
 rw [M.syntax_parser_item_l0] at h
 try dsimp only at h
 refine ite_some h (fun h16 h => ?_) (fun h16 h => ?_)
 ·
  rw [h16]
  refine Goes.rn 7 [(23, (pt gx0 0)), (24, (pt gx0 0)), (25, (pt gx0 0)), (26, (pt gx0 1))] J5o ?_
  refine Goes.ld 3 (.tmp 26) 27 3 ⟨gx0, 1, none⟩ (.i e0v.at_) (p1.c 1 1) ?_
  have p1 := p1.fr 1
  refine bind_some' h fun y17 e18 h => ?_
  refine Goes.cal (kc 31 [23, 27] #[66, 3]) 28 28 31 _ (W.z2 e0v e0v.at_ y17 e18 gx0 u0 p1 u1) ?_
  rintro _ w8 ⟨S8, u31, u32, u33, u34, rfl, z8, p8, u35, u36, rfl, u37⟩
  refine Goes.rn 4 [(29, .agg #[.u 0, .u 0, .u 0, .u 0, .int .u8 0, .bool false])] J5q ?_
  refine Op_.st 127 (.tmp 2) (.tmp 29) 0 1 gx2 0 (.agg #[.u 0, .u 0, .u 0, .u 0, .int .u8 0, .bool false]) [.u 0, .u 0, .u 0, .u 0, .int .u8 0, .bool false] p8 rfl Goes.s (by kernel_rfl) (by kernel_rfl) (by kernel_rfl) (by kernel_rfl) (Nat.zero_le _) (by simp only [List.length_cons, List.length_nil]; omega) (by simp [Value.oneCell']) ?_
  intro w9 z9 p9
  have p9 : Hp nz wz S8 w9 ((some gx0, .row 69 [.string y17.2.s, .i y17.2.at_, .i y17.2.deep, u34] 4 0) :: (some gx2, .row 127 [.u 0, .u 0, .u 0, .u 0, .int .u8 0, .bool false] 6 0) :: Lr) := p9
  refine Goes.rn 1 [] J5p ?_
  obtain rfl := Option.some.inj h
  have p9 := (p9.fr 0).fr 1
  exact Goes.ret (fn := Tryd.f120) (by kernel_rfl) (v := .agg #[.u 0, .u 0, .u 0, .u 0, .int .u8 0, .bool false]) (results_n1 (fn := Tryd.f120) (a := .cell 2 127) (by kernel_rfl) (resV_cell ⟨gx2, 0, none⟩ (by kernel_rfl) (run_loadN [.u 0, .u 0, .u 0, .u 0, .int .u8 0, .bool false] (by kernel_rfl) (by kernel_rfl) (p9.pa 0 0)))) ⟨S8, u34, rfl, ((hx.trans z8).trans z9), p9.drop, rfl, (u37.ext z9)⟩
 ·
  have u38 : x11 = false := by simpa using h16
  rw [u38]
  refine Goes.rn 8 [(30, (pt gx0 0)), (31, (pt gx0 0)), (32, (pt gx0 1))] J5s ?_
  refine Goes.ld 3 (.tmp 32) 33 3 ⟨gx0, 1, none⟩ (.i e0v.at_) (p1.c 1 1) ?_
  refine Goes.rn 3 [(34, .i (wr .i64 (e0v.at_ + 1))), (35, (pt gx0 0)), (36, (pt gx0 1))] J5t ?_
  refine Op_.st 3 (.tmp 36) (.tmp 34) 0 1 gx0 1 (.i (wr .i64 (e0v.at_ + 1))) [.i (wr .i64 (e0v.at_ + 1))] p1 rfl Goes.s (by kernel_rfl) (by kernel_rfl) (by kernel_rfl) (by kernel_rfl) (Nat.zero_le _) (by simp only [List.length_cons, List.length_nil]; omega) (by simp [Value.oneCell']) ?_
  intro w10 z10 p10
  have p10 : Hp nz wz S1 w10 ((some gx2, .row 127 (U4 x2v.set_ [.int .u8 x2v.b, .bool x2v.single]) 6 0) :: (some gx0, .row 69 [.string e0v.s, .i (wr .i64 (e0v.at_ + 1)), .i e0v.deep, u0] 4 0) :: Lr) := p10
  refine Goes.rn 4 [(37, .int .u8 x3)] J5v ?_
  refine bind_some' h fun y19 e20 h => ?_
  refine Goes.cal (kc 105 [37] #[5]) 38 127 105 _ (W.zl x3 y19 e20  p10 ) ?_
  rintro _ w11 ⟨S11, rfl, z11, p11, u39⟩
  refine Op_.st 127 (.tmp 2) (.tmp 38) 0 0 gx2 0 (ag (U4 y19.set_ [.int .u8 y19.b, .bool y19.single])) (U4 y19.set_ [.int .u8 y19.b, .bool y19.single]) p11 rfl Goes.s (by kernel_rfl) (by kernel_rfl) (by kernel_rfl) (by kernel_rfl) (Nat.zero_le _) (by simp only [List.length_cons, List.length_nil]; omega) (by simp [Value.oneCell']) ?_
  intro w12 z12 p12
  have p12 : Hp nz wz S11 w12 ((some gx2, .row 127 (U4 y19.set_ [.int .u8 y19.b, .bool y19.single]) 6 0) :: (some gx0, .row 69 [.string e0v.s, .i (wr .i64 (e0v.at_ + 1)), .i e0v.deep, u0] 4 0) :: Lr) := p12
  refine Goes.rn 1 [] J5u ?_
  obtain rfl := Option.some.inj h
  exact Goes.ret (fn := Tryd.f120) (by kernel_rfl) (v := (ag (U4 y19.set_ [.int .u8 y19.b, .bool y19.single]))) (results_n1 (fn := Tryd.f120) (a := .cell 2 127) (by kernel_rfl) (resV_cell ⟨gx2, 0, none⟩ (by kernel_rfl) (run_loadN (U4 y19.set_ [.int .u8 y19.b, .bool y19.single]) (by kernel_rfl) (by kernel_rfl) (p12.pa 0 0)))) ⟨S11, u0, rfl, (((hx.trans z10).trans z11).trans z12), p12.drop, u39, (u1.ext ((z10.trans z11).trans z12))⟩

def Q4x := sub [1] B120
def J5w : List Item := [.code Q4x]
def Q4y := sub [0] B120
def J5x : List Item := .inRegion (opsOf Q4y) [0] :: J5w
def Q4z := sub [1, 1] B120
def J5y : List Item := [.code Q4z]
def Q50 := sub [1, 0] B120
def J5z : List Item := .inRegion (opsOf Q50) [1, 2] :: J5y
def Q51 := sub [1, 1, 0, 0, 1] B120
def J60 : List Item := .code Q51 :: J5l
def Q52 := sub [1, 1, 0, 0, 0] B120
def J61 : List Item := .inRegion (opsOf Q52) [1, 2] :: J60
def Q53 := sub [1, 1, 0, 0, 1, 0, 1] B120
def J62 : List Item := .code Q53 :: J5l
def Q54 := sub [1, 1, 0, 0, 1, 0, 0] B120
def J63 : List Item := .inRegion (opsOf Q54) [1, 2] :: J62
def Q55 := sub [1, 1, 0, 0, 1, 1, 0] B120
def J64 : List Item := .inRegion (opsOf Q55) [3, 4, 5, 6, 7, 8, 9, 10, 11] :: J5m
def J65 : List Item := .inRegion (opsOf Q55) [7, 8, 9, 10, 11] :: J5m
def J66 : List Item := .inRegion (opsOf Q55) [8, 9, 10, 11] :: J5m

theorem W.zo (x0v : T68) (r : T126 × T68) (h : M.syntax_parser_item x0v = some r) {nz wz S0 w0 Lr} [Gw nz wz] (gx0 u2) (p0 : Hp nz wz S0 w0 ((some gx0, .row 69 [.string x0v.s, .i x0v.at_, .i x0v.deep, u2] 4 0) :: Lr)) (u3 : PtO kT72 S0 w0 u2 x0v.bad) :
  Calls Tryd.prog 120 #[(pt gx0 0)] w0 (Rets (Post.zo nz wz S0 w0 Lr gx0 r)) := by
 refine calls_of_goes (fn := Tryd.f120) (c := B120) (by kernel_rfl) (by kernel_rfl) 38 (by kernel_rfl) ?_
 refine Goes.jp 39 [(0, (pt gx0 0))] (fun junk => ?_)
 delta M.syntax_parser_item at h
 refine Goes.rn 2 [] J5x ?_
 refine Op_.alloc 127 2 0 (.agg #[.u 0, .u 0, .u 0, .u 0, .int .u8 0, .bool false]) [.u 0, .u 0, .u 0, .u 0, .int .u8 0, .bool false] p0 Goes.v (by kernel_rfl) (by kernel_rfl) ?_
 intro b2 w2 z2 p2
 refine Goes.rn 4 [(4, (pt gx0 0))] J5z ?_
 have p2 := p2.fr 1
 refine bind_some' h fun y4 e5 h => ?_
 refine Goes.cal (kc 65 [4] #[66]) 5 5 65 _ (W.z0 x0v y4 e5 gx0 u2 p2 (u3.ext z2)) ?_
 rintro _ w3 ⟨S3, u2o, rfl, z3, p3, u2p⟩
 refine Goes.rn 7 [(3, .int .u8 y4.1), (7, (pt gx0 0))] J61 ?_
 refine bind_some' h fun y6 e7 h => ?_
 refine Goes.cal (.call { callee := .value (.func 48), args := #[(.tmp 7), (.const (.int .u8 92))], argTypes := #[66, 5] }) 8 4 48 _ (W.z3 y4.2 92 y6 e7 gx0 u2o p3 u2p) ?_
 rintro _ w4 ⟨S4, u28, rfl, z4, p4, u2b⟩
 refine Goes.rn 2 [(6, .bool y6.1)] J60 ?_
 refine ite_some h (fun h8 h => ?_) (fun h8 h => ?_)
 ·
  rw [h8]
  refine Goes.rn 4 [(9, (pt gx0 0))] J63 ?_
  refine bind_some' h fun y9 e10 h => ?_
  refine Goes.cal (kc 93 [9] #[66]) 10 127 93 _ (W.zm y6.2 y9 e10 gx0 u28 p4 u2b) ?_
  rintro _ w5 ⟨S5, u3a, rfl, z5, p5, u3b, u3c⟩
  refine Op_.st 127 (.tmp 2) (.tmp 10) 0 1 b2 0 (ag (U4 y9.1.set_ [.int .u8 y9.1.b, .bool y9.1.single])) (U4 y9.1.set_ [.int .u8 y9.1.b, .bool y9.1.single]) p5 rfl Goes.s (by kernel_rfl) (by kernel_rfl) (by kernel_rfl) (by kernel_rfl) (Nat.zero_le _) (by simp only [List.length_cons, List.length_nil]; omega) (by simp [Value.oneCell']) ?_
  intro w6 z6 p6
  have p6 : Hp nz wz S5 w6 ((some gx0, .row 69 [.string y9.2.s, .i y9.2.at_, .i y9.2.deep, u3a] 4 0) :: (some b2, .row 127 (U4 y9.1.set_ [.int .u8 y9.1.b, .bool y9.1.single]) 6 0) :: Lr) := p6
  refine Goes.rn 1 [] J62 ?_
  obtain rfl := Option.some.inj h
  have p6 := (p6.fr 0).fr 1
  exact Goes.ret (fn := Tryd.f120) (by kernel_rfl) (v := (ag (U4 y9.1.set_ [.int .u8 y9.1.b, .bool y9.1.single]))) (results_n1 (fn := Tryd.f120) (a := .cell 2 127) (by kernel_rfl) (resV_cell ⟨b2, 0, none⟩ (by kernel_rfl) (run_loadN (U4 y9.1.set_ [.int .u8 y9.1.b, .bool y9.1.single]) (by kernel_rfl) (by kernel_rfl) (p6.pa 0 0)))) ⟨S5, u3a, rfl, ((((((Ext.refl S0 w0).trans z2).trans z3).trans z4).trans z5).trans z6), p6.drop, u3b, (u3c.ext z6)⟩
 ·
  have h8' : y6.1 = false := by simpa using h8
  rw [h8']
  refine Goes.rn 6 [(12, .int .u8 y4.1), (13, .bool (decide (y4.1 < 32))), (14, .bool (decide (y4.1 < 32)))] J64 ?_
  refine ite_some h (fun h11 h => ?_) (fun h11 h => ?_)
  ·
   rw [decide_eq_true h11]
   refine Goes.rn 10 [(15, undef), (16, undef), (17, .bool true), (18, .bool true), (19, undef), (20, undef), (21, undef), (22, .bool true), (11, .bool true)] J5m ?_
   have p4 := (p4.fr 0).fr 1
   exact Goes.jp 39 [(0, (pt gx0 0)), (2, (pt b2 0)), (3, .int .u8 y4.1), (11, .bool true)] (W.zp gx0 _ _ h _ _ ((((Ext.refl S0 w0).trans z2).trans z3).trans z4) b2 u28 p4 rfl u2b)
  ·
   rw [decide_eq_false h11]
   refine Goes.rn 4 [(15, .int .u8 y4.1), (16, .bool (decide (y4.1 > 126))), (17, .bool (decide (y4.1 > 126))), (18, .bool (decide (y4.1 > 126)))] J65 ?_
   refine ite_some h (fun h13 h => ?_) (fun h13 h => ?_)
   ·
    rw [decide_eq_true h13]
    refine Goes.rn 6 [(19, undef), (20, undef), (21, undef), (22, .bool true), (11, .bool true)] J5m ?_
    have p4 := (p4.fr 0).fr 1
    exact Goes.jp 39 [(0, (pt gx0 0)), (2, (pt b2 0)), (3, .int .u8 y4.1), (11, .bool true)] (W.zp gx0 _ _ h _ _ ((((Ext.refl S0 w0).trans z2).trans z3).trans z4) b2 u28 p4 rfl u2b)
   ·
    rw [decide_eq_false h13]
    refine Goes.rn 1 [(19, .int .u8 y4.1)] J66 ?_
    refine bind_some' h fun y14 e15 h => ?_
    refine Goes.cal (.call { callee := .value (.func 45), args := #[(.const (.string ⟨#[93, 91, 45]⟩)), (.tmp 19)], argTypes := #[9, 5] }) 20 3 45 _ (W.zi (⟨#[93, 91, 45]⟩ : ByteArray) y4.1 y14 e15  p4 ) ?_
    rintro _ w7 ⟨S7, rfl, z7, p7⟩
    refine Goes.rn 4 [(21, .bool (decide (y14 ≥ 0))), (22, .bool (decide (y14 ≥ 0))), (11, .bool (decide (y14 ≥ 0)))] J5m ?_
    have p7 := (p7.fr 0).fr 1
    exact Goes.jp 39 [(0, (pt gx0 0)), (2, (pt b2 0)), (3, .int .u8 y4.1), (11, .bool (decide (y14 ≥ 0)))] (W.zp gx0 _ _ h _ _ (((((Ext.refl S0 w0).trans z2).trans z3).trans z4).trans z7) b2 u28 p7 rfl (u2b.ext z7))

def Q56 := sub [1, 1, 1, 1, 1, 1, 1, 1, 1] B112
def J67 : List Item := [.code Q56]
def J68 : List Item := .inBlock 0 :: J67
def Q57 := sub [1, 1, 1, 1, 1, 1, 1, 1, 0, 0, 1] B112
def J69 : List Item := .code Q57 :: J68
def Q58 := sub [1, 1, 1, 1, 1, 1, 1, 1, 1, 1] B112
def J6a : List Item := [.code Q58]
def Q59 := sub [1, 1, 1, 1, 1, 1, 1, 1, 1, 0] B112
def J6b : List Item := .inRegion (opsOf Q59) [1, 2] :: J6a
def Q5a := sub [1, 1, 1, 1, 1, 1, 1, 1, 0, 0, 1, 1, 1] B112
def J6c : List Item := .code Q5a :: J68
def Q5b := sub [1, 1, 1, 1, 1, 1, 1, 1, 0, 0, 1, 1, 0] B112
def J6d : List Item := .inRegion (opsOf Q5b) [1, 2, 3] :: J6c
def Q5c := sub [1, 1, 1, 1, 1, 1, 1, 1, 0, 0, 1, 1, 1, 1, 1] B112
def J6e : List Item := .code Q5c :: J68
def Q5d := sub [1, 1, 1, 1, 1, 1, 1, 1, 0, 0, 1, 1, 1, 1, 0] B112
def J6f : List Item := .inRegion (opsOf Q5d) [1, 2, 3, 4, 5] :: J6e
def J6g : List Item := .inRegion (opsOf Q5d) [3, 4, 5] :: J6e
def Q5e := sub [1, 1, 1, 1, 1, 1, 1, 1, 0, 0, 1, 1, 1, 1, 1, 0] B112
def J6h : List Item := .inRegion (opsOf Q5e) [2] :: J68
def Q5f := sub [1, 1, 1, 1, 1, 1, 1, 1, 0, 0, 1, 1, 1, 1, 1, 1, 1] B112
def J6i : List Item := .code Q5f :: J68
def Q5g := sub [1, 1, 1, 1, 1, 1, 1, 1, 0, 0, 1, 1, 1, 1, 1, 1, 0] B112
def J6j : List Item := .inRegion (opsOf Q5g) [1, 2, 3, 4, 5] :: J6i
def J6k : List Item := .inRegion (opsOf Q5g) [3, 4, 5] :: J6i
def Q5h := sub [1, 1, 1, 1, 1, 1, 1, 1, 0, 0, 1, 1, 1, 0] B112
def J6l : List Item := .inRegion (opsOf Q5h) [3] :: J68

def Post.zq (gx0 : Nat) (r : (List Int) × T68) (v : Value) (w' : World) : Prop :=
 ∃ S' vsq u0, v = .agg vsq.toArray ∧ Ext S0 w0 S' w' ∧ Hp nz wz S' w' ((some gx0, .row 69 [.string r.2.s, .i r.2.at_, .i r.2.deep, u0] 4 0) :: Lr) ∧ Els (kInt .u64) S' w' vsq r.1 ∧ vsq.length = 4 ∧ PtO kT72 S' w' u0 r.2.bad

def L.zr (gx0 : Nat) : (List Int) × Int × T126 × Int × T126 × Bool × T68 → ((List Int) × T68) → Prop := fun ⟨ua, x3, x4v, x5, x6v, x47, e0v⟩ r => ∀ S1 w1, Ext S0 w0 S1 w1 → ∀ gx2 gx4 gx6 u0 (_ : Hp nz wz S1 w1 ((some gx2, .row 25 (U4 ua []) 4 0) :: (some gx4, .row 127 (U4 x4v.set_ [.int .u8 x4v.b, .bool x4v.single]) 6 0) :: (some gx6, .row 127 (U4 x6v.set_ [.int .u8 x6v.b, .bool x6v.single]) 6 0) :: (some gx0, .row 69 [.string e0v.s, .i e0v.at_, .i e0v.deep, u0] 4 0) :: Lr)) (_ : ua.length = 4) (_ : x4v.set_.length = 4) (_ : x6v.set_.length = 4) (_ : PtO kT72 S1 w1 u0 e0v.bad) (junk : Nat → Value),
 Goes Tryd.prog (base 112) J69 ⟨lfr 72 [(0, (pt gx0 0)), (2, (pt gx2 0)), (3, .i x3), (4, (pt gx4 0)), (5, .i x5), (6, (pt gx6 0)), (47, .bool x47)] junk, []⟩ w1 (Done Tryd.prog 112 (Rets (Post.zq nz wz S0 w0 Lr gx0 r)))

theorem W.zr {nz wz S0 w0 Lr} [Gw nz wz] (gx0 : Nat) : ∀ a r, M.syntax_parser_pair_l0 a = some r → L.zr nz wz S0 w0 Lr gx0 a r := by
 intro ⟨ua, x3, x4v, x5, x6v, x47, e0v⟩ r h S1 w1 hx gx2 gx4 gx6 u0 p1 ue um u3d u1 junk
 rw [M.syntax_parser_pair_l0] at h
 try dsimp only at h
 refine ite_some h (fun h28 h => ?_) (fun h28 h => ?_)
 ·
  rw [h28]
  refine Goes.rn 6 [(70, (pt gx4 0))] J6b ?_
  refine Goes.ldN 25 (.tmp 70) 71 25 ⟨gx4, 0, none⟩ (U4 x4v.set_ []) (p1.pa 1 0) ?_
  refine Op_.st 25 (.tmp 2) (.tmp 71) 0 0 gx2 0 (ag (U4 x4v.set_ [])) (U4 x4v.set_ []) p1 rfl Goes.s (by kernel_rfl) (by kernel_rfl) (by kernel_rfl) (by kernel_rfl) (Nat.zero_le _) (by simp only [List.length_cons, List.length_nil]; omega) (by simp [Value.oneCell']) ?_
  intro w14 z14 p14
  have p14 : Hp nz wz S1 w14 ((some gx2, .row 25 (U4 x4v.set_ []) 4 0) :: (some gx4, .row 127 (U4 x4v.set_ [.int .u8 x4v.b, .bool x4v.single]) 6 0) :: (some gx6, .row 127 (U4 x6v.set_ [.int .u8 x6v.b, .bool x6v.single]) 6 0) :: (some gx0, .row 69 [.string e0v.s, .i e0v.at_, .i e0v.deep, u0] 4 0) :: Lr) := p14
  refine Goes.rn 1 [] J6a ?_
  obtain rfl := Option.some.inj h
  have p14 := (p14.dp 1).dp 1
  exact Goes.ret (fn := Tryd.f112) (by kernel_rfl) (v := (ag (U4 x4v.set_ []))) (results_n1 (fn := Tryd.f112) (a := .cell 2 25) (by kernel_rfl) (resV_cell ⟨gx2, 0, none⟩ (by kernel_rfl) (run_loadN (U4 x4v.set_ []) (by kernel_rfl) (by kernel_rfl) (p14.pa 0 0)))) ⟨S1, ((U4 x4v.set_ []) : List Value), u0, rfl, (hx.trans z14), p14.drop, (els_mk4 (S := S1) (w := w14) (k := .u64) um), rfl, (u1.ext z14)⟩
 ·
  have u3e : x47 = false := by simpa using h28
  rw [u3e]
  refine Goes.rn 4 [(54, (pt gx6 5))] J6d ?_
  refine Goes.ld 4 (.tmp 54) 55 4 ⟨gx6, 5, none⟩ (.bool x6v.single) (p1.c 2 5) ?_
  refine Goes.rn 3 [(56, .bool (!x6v.single)), (53, .bool (!x6v.single))] J6c ?_
  refine ite_some h (fun h29 h => ?_) (fun h29 h => ?_)
  ·
   rw [h29]
   have p1 : Hp nz wz S1 w1 ((some gx2, .row 25 (U4 ua []) 4 0) :: (some gx4, .row 127 (U4 x4v.set_ [.int .u8 x4v.b, .bool x4v.single]) 6 0) :: (some gx6, .row 127 (U4 x6v.set_ [.int .u8 x6v.b, .bool true]) 6 0) :: (some gx0, .row 69 [.string e0v.s, .i e0v.at_, .i e0v.deep, u0] 4 0) :: Lr) := by simp only [h29] at p1; exact p1
   refine Goes.rn 4 [(62, (pt gx4 4))] J6f ?_
   refine Goes.ld 5 (.tmp 62) 63 5 ⟨gx4, 4, none⟩ (.int .u8 x4v.b) (p1.c 1 4) ?_
   refine Goes.rn 1 [(64, (pt gx6 4))] J6g ?_
   refine Goes.ld 5 (.tmp 64) 65 5 ⟨gx6, 4, none⟩ (.int .u8 x6v.b) (p1.c 2 4) ?_
   refine Goes.rn 3 [(66, .bool (decide (x4v.b > x6v.b))), (61, .bool (decide (x4v.b > x6v.b)))] J6e ?_
   refine ite_some h (fun h30 h => ?_) (fun h30 h => ?_)
   ·
    rw [decide_eq_true h30]
    refine Goes.rn 4 [(67, (pt gx0 0)), (68, .i x3)] J6h ?_
    have p1 := p1.fr 3
    refine bind_some' h fun y31 e32 h => ?_
    refine Goes.cal (kc 31 [67, 68] #[66, 3]) 69 28 31 _ (W.z2 e0v x3 y31 e32 gx0 u0 p1 u1) ?_
    rintro _ w15 ⟨S15, u3f, u3g, u3h, u3i, rfl, z15, p15, u3j, u3k, rfl, u3l⟩
    have p15 := p15.dp 3
    refine Goes.rn 5 [(70, (pt gx4 0))] J6b ?_
    refine Goes.ldN 25 (.tmp 70) 71 25 ⟨gx4, 0, none⟩ (U4 x4v.set_ []) (p15.pa 2 0) ?_
    refine Op_.st 25 (.tmp 2) (.tmp 71) 0 1 gx2 0 (ag (U4 x4v.set_ [])) (U4 x4v.set_ []) p15 rfl Goes.s (by kernel_rfl) (by kernel_rfl) (by kernel_rfl) (by kernel_rfl) (Nat.zero_le _) (by simp only [List.length_cons, List.length_nil]; omega) (by simp [Value.oneCell']) ?_
    intro w16 z16 p16
    have p16 : Hp nz wz S15 w16 ((some gx0, .row 69 [.string y31.2.s, .i y31.2.at_, .i y31.2.deep, u3i] 4 0) :: (some gx2, .row 25 (U4 x4v.set_ []) 4 0) :: (some gx4, .row 127 (U4 x4v.set_ [.int .u8 x4v.b, .bool x4v.single]) 6 0) :: Lr) := p16
    refine Goes.rn 1 [] J6a ?_
    obtain rfl := Option.some.inj h
    have p16 := p16.dp 2
    have p16 := (p16.fr 0).fr 1
    exact Goes.ret (fn := Tryd.f112) (by kernel_rfl) (v := (ag (U4 x4v.set_ []))) (results_n1 (fn := Tryd.f112) (a := .cell 2 25) (by kernel_rfl) (resV_cell ⟨gx2, 0, none⟩ (by kernel_rfl) (run_loadN (U4 x4v.set_ []) (by kernel_rfl) (by kernel_rfl) (p16.pa 0 0)))) ⟨S15, ((U4 x4v.set_ []) : List Value), u3i, rfl, ((hx.trans z15).trans z16), p16.drop, (els_mk4 (S := S15) (w := w16) (k := .u64) um), rfl, (u3l.ext z16)⟩
   ·
    rw [decide_eq_false h30]
    refine Goes.rn 4 [(42, (pt gx4 4))] J6j ?_
    refine Goes.ld 5 (.tmp 42) 43 5 ⟨gx4, 4, none⟩ (.int .u8 x4v.b) (p1.c 1 4) ?_
    refine Goes.rn 1 [(44, (pt gx6 4))] J6k ?_
    refine Goes.ld 5 (.tmp 44) 45 5 ⟨gx6, 4, none⟩ (.int .u8 x6v.b) (p1.c 2 4) ?_
    refine bind_some' h fun y33 e34 h => ?_
    refine Goes.cal (kc 113 [43, 45] #[5, 5]) 46 25 113 _ (W.z9 x4v.b x6v.b y33 e34  p1 ) ?_
    rintro _ w17 ⟨S17, u3m, rfl, z17, p17, u3n, u3o⟩
    have p17 := (p17.dp 1).dp 1
    have f35 : Els (kInt .u64) S17 w17 ((U4 ua []) : List Value) ua := (els_mk4 (k := .u64) ue)
    refine Op_.stA 25 (.tmp 2) (.tmp 46) 0 0 gx2 4 u3m p17 rfl rfl Goes.s (by kernel_rfl) (by kernel_rfl) (by kernel_rfl) u3o (Els.one u3n) ?_
    intro w18 z18 p18
    refine Goes.rn 1 [] J6i ?_
    obtain rfl := Option.some.inj h
    exact Goes.ret (fn := Tryd.f112) (by kernel_rfl) (v := .agg u3m.toArray) (results_n1 (fn := Tryd.f112) (a := .cell 2 25) (by kernel_rfl) (resV_cell ⟨gx2, 0, none⟩ (by kernel_rfl) (run_loadN u3m (by kernel_rfl) (by rw [u3o]; kernel_rfl) (At_all (p18.mem 0 rfl))))) ⟨S17, u3m, u0, rfl, ((hx.trans z17).trans z18), p18.drop, (u3n.ext z18), u3o, (u1.ext (z17.trans z18))⟩
  ·
   have u3p : x6v.single = false := by simpa using h29
   rw [u3p]
   have p1 : Hp nz wz S1 w1 ((some gx2, .row 25 (U4 ua []) 4 0) :: (some gx4, .row 127 (U4 x4v.set_ [.int .u8 x4v.b, .bool x4v.single]) 6 0) :: (some gx6, .row 127 (U4 x6v.set_ [.int .u8 x6v.b, .bool false]) 6 0) :: (some gx0, .row 69 [.string e0v.s, .i e0v.at_, .i e0v.deep, u0] 4 0) :: Lr) := by simp only [u3p] at p1; exact p1
   refine Goes.rn 5 [(57, (pt gx0 0)), (58, .i x5), (59, .i (wr .i64 (x5 + 1)))] J6l ?_
   have p1 := p1.fr 3
   refine bind_some' h fun y36 e37 h => ?_
   refine Goes.cal (kc 31 [57, 59] #[66, 3]) 60 28 31 _ (W.z2 e0v (wr .i64 (x5 + 1)) y36 e37 gx0 u0 p1 u1) ?_
   rintro _ w19 ⟨S19, u3q, u3r, u3s, u3t, rfl, z19, p19, u3u, u3v, rfl, u3w⟩
   have p19 := p19.dp 3
   refine Goes.rn 5 [(70, (pt gx4 0))] J6b ?_
   refine Goes.ldN 25 (.tmp 70) 71 25 ⟨gx4, 0, none⟩ (U4 x4v.set_ []) (p19.pa 2 0) ?_
   refine Op_.st 25 (.tmp 2) (.tmp 71) 0 1 gx2 0 (ag (U4 x4v.set_ [])) (U4 x4v.set_ []) p19 rfl Goes.s (by kernel_rfl) (by kernel_rfl) (by kernel_rfl) (by kernel_rfl) (Nat.zero_le _) (by simp only [List.length_cons, List.length_nil]; omega) (by simp [Value.oneCell']) ?_
   intro w20 z20 p20
   have p20 : Hp nz wz S19 w20 ((some gx0, .row 69 [.string y36.2.s, .i y36.2.at_, .i y36.2.deep, u3t] 4 0) :: (some gx2, .row 25 (U4 x4v.set_ []) 4 0) :: (some gx4, .row 127 (U4 x4v.set_ [.int .u8 x4v.b, .bool x4v.single]) 6 0) :: Lr) := p20
   refine Goes.rn 1 [] J6a ?_
   obtain rfl := Option.some.inj h
   have p20 := p20.dp 2
   have p20 := (p20.fr 0).fr 1
   exact Goes.ret (fn := Tryd.f112) (by kernel_rfl) (v := (ag (U4 x4v.set_ []))) (results_n1 (fn := Tryd.f112) (a := .cell 2 25) (by kernel_rfl) (resV_cell ⟨gx2, 0, none⟩ (by kernel_rfl) (run_loadN (U4 x4v.set_ []) (by kernel_rfl) (by kernel_rfl) (p20.pa 0 0)))) ⟨S19, ((U4 x4v.set_ []) : List Value), u3t, rfl, ((hx.trans z19).trans z20), p20.drop, (els_mk4 (S := S19) (w := w20) (k := .u64) um), rfl, (u3w.ext z20)⟩

def Q5i := sub [1] B112
def J6m : List Item := [.code Q5i]
def Q5j := sub [0] B112
def J6n : List Item := .inRegion (opsOf Q5j) [0] :: J6m
def Q5k := sub [1, 1] B112
def J6o : List Item := [.code Q5k]
def Q5l := sub [1, 0] B112
def J6p : List Item := .inRegion (opsOf Q5l) [3, 4] :: J6o
def Q5m := sub [1, 1, 1] B112
def J6q : List Item := [.code Q5m]
def Q5n := sub [1, 1, 0] B112
def J6r : List Item := .inRegion (opsOf Q5n) [1, 2, 3] :: J6q
def Q5o := sub [1, 1, 1, 1] B112
def J6s : List Item := [.code Q5o]
def Q5p := sub [1, 1, 1, 0, 1] B112
def J6t : List Item := .code Q5p :: J6s
def Q5q := sub [1, 1, 1, 0, 0] B112
def J6u : List Item := .inRegion (opsOf Q5q) [1, 2] :: J6t
def Q5r := sub [1, 1, 1, 1, 1] B112
def J6v : List Item := [.code Q5r]
def Q5s := sub [1, 1, 1, 1, 0, 1] B112
def J6w : List Item := .code Q5s :: J6v
def Q5t := sub [1, 1, 1, 1, 0, 0] B112
def J6x : List Item := .inRegion (opsOf Q5t) [1, 2] :: J6w
def Q5u := sub [1, 1, 1, 1, 1, 1] B112
def J6y : List Item := [.code Q5u]
def Q5v := sub [1, 1, 1, 1, 1, 0] B112
def J6z : List Item := .inRegion (opsOf Q5v) [3, 4, 5, 6, 7] :: J6y
def J70 : List Item := .inRegion (opsOf Q5v) [7] :: J6y
def Q5w := sub [1, 1, 1, 1, 1, 1, 1] B112
def J71 : List Item := [.code Q5w]
def Q5x := sub [1, 1, 1, 1, 1, 1, 0] B112
def J72 : List Item := .inRegion (opsOf Q5x) [3, 4] :: J71
def Q5y := sub [1, 1, 1, 1, 1, 1, 1, 1] B112
def J73 : List Item := [.code Q5y]
def Q5z := sub [1, 1, 1, 1, 1, 1, 1, 0] B112
def J74 : List Item := .inRegion (opsOf Q5z) [1, 2, 3] :: J73
def Q60 := sub [1, 1, 1, 1, 1, 1, 1, 1, 0, 0, 0] B112
def J75 : List Item := .inRegion (opsOf Q60) [3, 4, 5] :: J69
def Q61 := sub [1, 1, 1, 1, 0, 1, 0, 1] B112
def J76 : List Item := .code Q61 :: J6v
def Q62 := sub [1, 1, 1, 1, 0, 1, 0, 0] B112
def J77 : List Item := .inRegion (opsOf Q62) [4, 5] :: J76
def Q63 := sub [1, 1, 1, 1, 0, 1, 0, 1, 1] B112
def J78 : List Item := .code Q63 :: J6v
def Q64 := sub [1, 1, 1, 1, 0, 1, 0, 1, 0] B112
def J79 : List Item := .inRegion (opsOf Q64) [1, 2] :: J78
def Q65 := sub [1, 1, 1, 0, 1, 0, 1] B112
def J7a : List Item := .code Q65 :: J6s
def Q66 := sub [1, 1, 1, 0, 1, 0, 0] B112
def J7b : List Item := .inRegion (opsOf Q66) [1, 2] :: J7a

theorem W.zq (x0v : T68) (r : (List Int) × T68) (h : M.syntax_parser_pair x0v = some r) {nz wz S0 w0 Lr} [Gw nz wz] (gx0 u2) (p0 : Hp nz wz S0 w0 ((some gx0, .row 69 [.string x0v.s, .i x0v.at_, .i x0v.deep, u2] 4 0) :: Lr)) (u3 : PtO kT72 S0 w0 u2 x0v.bad) :
  Calls Tryd.prog 112 #[(pt gx0 0)] w0 (Rets (Post.zq nz wz S0 w0 Lr gx0 r)) := by
 refine calls_of_goes (fn := Tryd.f112) (c := B112) (by kernel_rfl) (by kernel_rfl) 71 (by kernel_rfl) ?_
 refine Goes.jp 72 [(0, (pt gx0 0))] (fun junk => ?_)
 delta M.syntax_parser_pair at h
 refine Goes.rn 2 [] J6n ?_
 refine Op_.alloc 25 2 0 (.agg #[.u 0, .u 0, .u 0, .u 0]) [.u 0, .u 0, .u 0, .u 0] p0 Goes.v (by kernel_rfl) (by kernel_rfl) ?_
 intro b2 w2 z2 p2
 refine Goes.rn 6 [(7, (pt gx0 0)), (8, (pt gx0 0)), (9, (pt gx0 1))] J6p ?_
 refine Goes.ld 3 (.tmp 9) 10 3 ⟨gx0, 1, none⟩ (.i x0v.at_) (p2.c 1 1) ?_
 refine Goes.rn 5 [(3, .i x0v.at_), (11, (pt gx0 0))] J6r ?_
 have p2 := p2.fr 1
 refine bind_some' h fun y4 e5 h => ?_
 refine Goes.cal (kc 120 [11] #[66]) 12 127 120 _ (W.zo x0v y4 e5 gx0 u2 p2 (u3.ext z2)) ?_
 rintro _ w3 ⟨S3, u2o, rfl, z3, p3, u3x, u2p⟩
 refine Op_.alloc 127 4 0 (.agg #[.u 0, .u 0, .u 0, .u 0, .int .u8 0, .bool false]) [.u 0, .u 0, .u 0, .u 0, .int .u8 0, .bool false] p3 Goes.v (by kernel_rfl) (by kernel_rfl) ?_
 intro b6 w4 z4 p4
 refine Op_.st 127 (.tmp 4) (.tmp 12) 0 0 b6 0 (ag (U4 y4.1.set_ [.int .u8 y4.1.b, .bool y4.1.single])) (U4 y4.1.set_ [.int .u8 y4.1.b, .bool y4.1.single]) p4 rfl Goes.s (by kernel_rfl) (by kernel_rfl) (by kernel_rfl) (by kernel_rfl) (Nat.zero_le _) (by simp only [List.length_cons, List.length_nil]; omega) (by simp [Value.oneCell']) ?_
 intro w5 z5 p5
 have p5 : Hp nz wz S3 w5 ((some b6, .row 127 (U4 y4.1.set_ [.int .u8 y4.1.b, .bool y4.1.single]) 6 0) :: (some gx0, .row 69 [.string y4.2.s, .i y4.2.at_, .i y4.2.deep, u2o] 4 0) :: (some b2, .row 25 [.u 0, .u 0, .u 0, .u 0] 4 0) :: Lr) := p5
 refine Goes.rn 5 [(13, (pt gx0 0))] J6u ?_
 have p5 := p5.fr 1
 refine bind_some' h fun y8 e9 h => ?_
 refine Goes.cal (kc 65 [13] #[66]) 14 5 65 _ (W.z0 y4.2 y8 e9 gx0 u2o p5 (u2p.ext (z4.trans z5))) ?_
 rintro _ w6 ⟨S6, u3y, rfl, z6, p6, u3z⟩
 refine Goes.rn 2 [(15, .bool (!(decide (y8.1 = 45))))] J6t ?_
 refine ite_some h (fun h10 h => ?_) (fun h10 h => ?_)
 ·
  rw [decide_eq_true h10]
  refine Goes.rn 6 [(18, (pt b6 5))] J6x ?_
  refine Goes.ld 4 (.tmp 18) 19 4 ⟨b6, 5, none⟩ (.bool y4.1.single) (p6.c 1 5) ?_
  refine Goes.rn 2 [(20, .bool (!y4.1.single))] J6w ?_
  refine ite_some h (fun h11 h => ?_) (fun h11 h => ?_)
  ·
   rw [h11]
   have p6 : Hp nz wz S6 w6 ((some gx0, .row 69 [.string y8.2.s, .i y8.2.at_, .i y8.2.deep, u3y] 4 0) :: (some b6, .row 127 (U4 y4.1.set_ [.int .u8 y4.1.b, .bool true]) 6 0) :: (some b2, .row 25 [.u 0, .u 0, .u 0, .u 0] 4 0) :: Lr) := by simp only [h11] at p6; exact p6
   refine Goes.rn 7 [(29, (pt gx0 0)), (30, (pt gx0 0)), (31, (pt gx0 1))] J6z ?_
   refine Goes.ld 3 (.tmp 31) 32 3 ⟨gx0, 1, none⟩ (.i y8.2.at_) (p6.c 0 1) ?_
   refine Goes.rn 3 [(33, .i (wr .i64 (y8.2.at_ + 1))), (34, (pt gx0 0)), (35, (pt gx0 1))] J70 ?_
   refine Op_.st 3 (.tmp 35) (.tmp 33) 0 0 gx0 1 (.i (wr .i64 (y8.2.at_ + 1))) [.i (wr .i64 (y8.2.at_ + 1))] p6 rfl Goes.s (by kernel_rfl) (by kernel_rfl) (by kernel_rfl) (by kernel_rfl) (Nat.zero_le _) (by simp only [List.length_cons, List.length_nil]; omega) (by simp [Value.oneCell']) ?_
   intro w7 z7 p7
   have p7 : Hp nz wz S6 w7 ((some gx0, .row 69 [.string y8.2.s, .i (wr .i64 (y8.2.at_ + 1)), .i y8.2.deep, u3y] 4 0) :: (some b6, .row 127 (U4 y4.1.set_ [.int .u8 y4.1.b, .bool true]) 6 0) :: (some b2, .row 25 [.u 0, .u 0, .u 0, .u 0] 4 0) :: Lr) := p7
   refine Goes.rn 6 [(36, (pt gx0 0)), (37, (pt gx0 0)), (38, (pt gx0 1))] J72 ?_
   refine Goes.ld 3 (.tmp 38) 39 3 ⟨gx0, 1, none⟩ (.i (wr .i64 (y8.2.at_ + 1))) (p7.c 0 1) ?_
   refine Goes.rn 5 [(5, .i (wr .i64 (y8.2.at_ + 1))), (40, (pt gx0 0))] J74 ?_
   refine bind_some' h fun y12 e13 h => ?_
   refine Goes.cal (kc 120 [40] #[66]) 41 127 120 _ (W.zo (⟨y8.2.s, wr .i64 (y8.2.at_ + 1), y8.2.deep, y8.2.bad⟩ : T68) y12 e13 gx0 u3y p7 (u3z.ext z7)) ?_
   rintro _ w8 ⟨S8, u34, rfl, z8, p8, u40, u37⟩
   refine Op_.alloc 127 6 0 (.agg #[.u 0, .u 0, .u 0, .u 0, .int .u8 0, .bool false]) [.u 0, .u 0, .u 0, .u 0, .int .u8 0, .bool false] p8 Goes.v (by kernel_rfl) (by kernel_rfl) ?_
   intro b14 w9 z9 p9
   refine Op_.st 127 (.tmp 6) (.tmp 41) 0 0 b14 0 (ag (U4 y12.1.set_ [.int .u8 y12.1.b, .bool y12.1.single])) (U4 y12.1.set_ [.int .u8 y12.1.b, .bool y12.1.single]) p9 rfl Goes.s (by kernel_rfl) (by kernel_rfl) (by kernel_rfl) (by kernel_rfl) (Nat.zero_le _) (by simp only [List.length_cons, List.length_nil]; omega) (by simp [Value.oneCell']) ?_
   intro w10 z10 p10
   have p10 : Hp nz wz S8 w10 ((some b14, .row 127 (U4 y12.1.set_ [.int .u8 y12.1.b, .bool y12.1.single]) 6 0) :: (some gx0, .row 69 [.string y12.2.s, .i y12.2.at_, .i y12.2.deep, u34] 4 0) :: (some b6, .row 127 (U4 y4.1.set_ [.int .u8 y4.1.b, .bool true]) 6 0) :: (some b2, .row 25 [.u 0, .u 0, .u 0, .u 0] 4 0) :: Lr) := p10
   refine Goes.rn 8 [(48, (pt gx0 0)), (49, (pt gx0 0)), (50, (pt gx0 3))] J75 ?_
   refine Goes.ld 67 (.tmp 50) 51 67 ⟨gx0, 3, none⟩ (u34) (p10.c 1 3) ?_
   refine let_some h fun v25 h16 h => ?_
   rcases v25 with _ | y17
   ·
    try dsimp only at h
    obtain rfl := PtO.nil (u37.ext (z9.trans z10)) h16
    refine Goes.rn 3 [(52, .bool false), (47, .bool false)] J69 ?_
    have p10 := (((p10.fr 1).fr 1).fr 2).fr 3
    exact Goes.jp 72 [(0, (pt gx0 0)), (2, (pt b2 0)), (3, .i x0v.at_), (4, (pt b6 0)), (5, .i (wr .i64 (y8.2.at_ + 1))), (6, (pt b14 0)), (47, .bool false)] (W.zr gx0 _ _ h _ _ ((((((((((Ext.refl S0 w0).trans z2).trans z3).trans z4).trans z5).trans z6).trans z7).trans z8).trans z9).trans z10) b2 b6 b14 (.pointer none) p10 rfl u3x u40 rfl)
   ·
    try dsimp only at h
    obtain ⟨a19, _, rfl, -, f20, q21⟩ := PtO.got (u37.ext (z9.trans z10)) h16
    obtain rfl := q21
    refine Goes.rn 3 [(52, .bool true), (47, .bool true)] J69 ?_
    have p10 := (((p10.fr 1).fr 1).fr 2).fr 3
    exact Goes.jp 72 [(0, (pt gx0 0)), (2, (pt b2 0)), (3, .i x0v.at_), (4, (pt b6 0)), (5, .i (wr .i64 (y8.2.at_ + 1))), (6, (pt b14 0)), (47, .bool true)] (W.zr gx0 _ _ h _ _ ((((((((((Ext.refl S0 w0).trans z2).trans z3).trans z4).trans z5).trans z6).trans z7).trans z8).trans z9).trans z10) b2 b6 b14 (.pointer (some a19)) p10 rfl u3x u40 ⟨_, _, rfl, List.cons_ne_nil _ _, f20, rfl⟩)
  ·
   have u2t : y4.1.single = false := by simpa using h11
   rw [u2t]
   have p6 : Hp nz wz S6 w6 ((some gx0, .row 69 [.string y8.2.s, .i y8.2.at_, .i y8.2.deep, u3y] 4 0) :: (some b6, .row 127 (U4 y4.1.set_ [.int .u8 y4.1.b, .bool false]) 6 0) :: (some b2, .row 25 [.u 0, .u 0, .u 0, .u 0] 4 0) :: Lr) := by simp only [u2t] at p6; exact p6
   refine Goes.rn 7 [(21, (pt gx0 0)), (22, (pt gx0 0)), (23, (pt gx0 0)), (24, (pt gx0 1))] J77 ?_
   refine Goes.ld 3 (.tmp 24) 25 3 ⟨gx0, 1, none⟩ (.i y8.2.at_) (p6.c 0 1) ?_
   refine bind_some' h fun y26 e27 h => ?_
   refine Goes.cal (kc 31 [21, 25] #[66, 3]) 26 28 31 _ (W.z2 y8.2 y8.2.at_ y26 e27 gx0 u3y p6 u3z) ?_
   rintro _ w11 ⟨S11, u41, u42, u43, u2w, rfl, z11, p11, u44, u45, rfl, u2x⟩
   refine Goes.rn 4 [(27, (pt b6 0))] J79 ?_
   refine Goes.ldN 25 (.tmp 27) 28 25 ⟨b6, 0, none⟩ (U4 y4.1.set_ []) (p11.pa 1 0) ?_
   refine Op_.st 25 (.tmp 2) (.tmp 28) 0 2 b2 0 (ag (U4 y4.1.set_ [])) (U4 y4.1.set_ []) p11 rfl Goes.s (by kernel_rfl) (by kernel_rfl) (by kernel_rfl) (by kernel_rfl) (Nat.zero_le _) (by simp only [List.length_cons, List.length_nil]; omega) (by simp [Value.oneCell']) ?_
   intro w12 z12 p12
   have p12 : Hp nz wz S11 w12 ((some gx0, .row 69 [.string y26.2.s, .i y26.2.at_, .i y26.2.deep, u2w] 4 0) :: (some b6, .row 127 (U4 y4.1.set_ [.int .u8 y4.1.b, .bool false]) 6 0) :: (some b2, .row 25 (U4 y4.1.set_ []) 4 0) :: Lr) := p12
   refine Goes.rn 1 [] J78 ?_
   obtain rfl := Option.some.inj h
   have p12 := p12.dp 1
   have p12 := (p12.fr 0).fr 1
   exact Goes.ret (fn := Tryd.f112) (by kernel_rfl) (v := (ag (U4 y4.1.set_ []))) (results_n1 (fn := Tryd.f112) (a := .cell 2 25) (by kernel_rfl) (resV_cell ⟨b2, 0, none⟩ (by kernel_rfl) (run_loadN (U4 y4.1.set_ []) (by kernel_rfl) (by kernel_rfl) (p12.pa 0 0)))) ⟨S11, ((U4 y4.1.set_ []) : List Value), u2w, rfl, ((((((((Ext.refl S0 w0).trans z2).trans z3).trans z4).trans z5).trans z6).trans z11).trans z12), p12.drop, (els_mk4 (S := S11) (w := w12) (k := .u64) u3x), rfl, (u2x.ext z12)⟩
 ·
  rw [decide_eq_false h10]
  refine Goes.rn 4 [(16, (pt b6 0))] J7b ?_
  refine Goes.ldN 25 (.tmp 16) 17 25 ⟨b6, 0, none⟩ (U4 y4.1.set_ []) (p6.pa 1 0) ?_
  refine Op_.st 25 (.tmp 2) (.tmp 17) 0 2 b2 0 (ag (U4 y4.1.set_ [])) (U4 y4.1.set_ []) p6 rfl Goes.s (by kernel_rfl) (by kernel_rfl) (by kernel_rfl) (by kernel_rfl) (Nat.zero_le _) (by simp only [List.length_cons, List.length_nil]; omega) (by simp [Value.oneCell']) ?_
  intro w13 z13 p13
  have p13 : Hp nz wz S6 w13 ((some gx0, .row 69 [.string y8.2.s, .i y8.2.at_, .i y8.2.deep, u3y] 4 0) :: (some b6, .row 127 (U4 y4.1.set_ [.int .u8 y4.1.b, .bool y4.1.single]) 6 0) :: (some b2, .row 25 (U4 y4.1.set_ []) 4 0) :: Lr) := p13
  refine Goes.rn 1 [] J7a ?_
  obtain rfl := Option.some.inj h
  have p13 := p13.dp 1
  have p13 := (p13.fr 0).fr 1
  exact Goes.ret (fn := Tryd.f112) (by kernel_rfl) (v := (ag (U4 y4.1.set_ []))) (results_n1 (fn := Tryd.f112) (a := .cell 2 25) (by kernel_rfl) (resV_cell ⟨b2, 0, none⟩ (by kernel_rfl) (run_loadN (U4 y4.1.set_ []) (by kernel_rfl) (by kernel_rfl) (p13.pa 0 0)))) ⟨S6, ((U4 y4.1.set_ []) : List Value), u3y, rfl, (((((((Ext.refl S0 w0).trans z2).trans z3).trans z4).trans z5).trans z6).trans z13), p13.drop, (els_mk4 (S := S6) (w := w13) (k := .u64) u3x), rfl, (u3z.ext z13)⟩

def J7c : List Item := [.inBlock 1]
def Q67 := sub [1, 1, 1, 0, 1, 0, 1, 0] B91
def J7d : List Item := .inRegion (opsOf Q67) [0, 1, 2, 3, 4] :: J7c
def Q68 := sub [1, 1, 1, 0, 1, 0] B91
def Q69 := sub [1, 1, 1, 0, 1, 0, 0] B91
def Q6a := sub [1, 1, 1, 0, 1, 0, 1] B91

def Post.zs (lk : Nat) (rk : Nat) (jkk : Nat → Value) (u46 : Nat) (u47 : Option Nat) (u48 : Nat) (u49 : Nat) (u4a : List Value) (u4b : Nat) (u4c : Nat) (u4d : Nat) (u4e : Value) (u4f : T27) (kq3 : Bool) (u4g : T68) (r : List Int) (v : Value) (w' : World) : Prop :=
 ∃ S' u4h, v = .bool true ∧ Ext S0 w0 S' w' ∧ Hp nz wz S' w' ((some lk, .obj (lpst 91 (lfr 20 [(2, (pt u46 0)), (3, .bool kq3), (4, (pt u4b 0)), (9, .func (.func 111) #[] #[(pt u4c 0)])] jkk) #[10] (rfAssign (Q68)) (rfBody (Q68)) rk .ready none)) :: (some u46, .row 28 (.i u4f.Kind :: U4 u4f.Set [.slice (Gp u47) u48 u49, .i u4f.Min, .i u4f.Max]) 8 0) :: (u47, .row 28 u4a (u49 * kT27.size) 0) :: (some u4b, .row 25 u4h 4 0) :: (some u4c, .row 66 [(pt u4d 0)] 1 0) :: (some u4d, .row 69 [.string u4g.s, .i u4g.at_, .i u4g.deep, u4e] 4 0) :: Lr) ∧ Els (kInt .u64) S' w' u4h r ∧ u4h.length = 4

theorem W.zs (u4f : T27) (kq3 : Bool) (kq4 : List Int) (u4g : T68) (a0 : List Int) (r : List Int) (h : M.syntax_parser_class_r_2 u4f kq3 kq4 u4g a0 = some r) {nz wz S0 w0 Lr} [Gw nz wz] (lk rk jkk u46 u47 u48 u49 u4a u4b u4i u4c u4d u4e u4j) (p0 : Hp nz wz S0 w0 ((some lk, .obj (lpst 91 (lfr 20 [(2, (pt u46 0)), (3, .bool kq3), (4, (pt u4b 0)), (9, .func (.func 111) #[] #[(pt u4c 0)])] jkk) #[10] (rfAssign (Q68)) (rfBody (Q68)) rk .ready none)) :: (some u46, .row 28 (.i u4f.Kind :: U4 u4f.Set [.slice (Gp u47) u48 u49, .i u4f.Min, .i u4f.Max]) 8 0) :: (u47, .row 28 u4a (u49 * kT27.size) 0) :: (some u4b, .row 25 u4i 4 0) :: (some u4c, .row 66 [(pt u4d 0)] 1 0) :: (some u4d, .row 69 [.string u4g.s, .i u4g.at_, .i u4g.deep, u4e] 4 0) :: Lr)) (u4k : u4f.Set.length = 4) (u4l : Els kT27 S0 w0 u4a u4f.L) (u4m : u4f.L.length = u48) (u4n : Els (kInt .u64) S0 w0 u4i kq4) (u4o : u4i.length = 4) (u4p : PtO kT72 S0 w0 u4e u4g.bad) (fa0 : Els (kInt .u64) S0 w0 u4j a0) (la0 : u4j.length = 4) :
  Goes Tryd.prog (rbase 91 lk) [.code (rfAssign (Q68)), .beginRound, .code (rfBody (Q68))] ⟨setp (lfr 20 [(2, (pt u46 0)), (3, .bool kq3), (4, (pt u4b 0)), (9, .func (.func 111) #[] #[(pt u4c 0)])] jkk) #[10] #[.agg u4j.toArray], []⟩ w0 (DoneR (Post.zs nz wz S0 w0 Lr lk rk jkk u46 u47 u48 u49 u4a u4b u4c u4d u4e u4f kq3 u4g r)) := by
 subst u4m
 refine Goes.jp 20 [(2, (pt u46 0)), (3, .bool kq3), (4, (pt u4b 0)), (9, .func (.func 111) #[] #[(pt u4c 0)]), (10, .agg u4j.toArray)] (fun junk => ?_)
 delta M.syntax_parser_class_r_2 at h
 refine Goes.rn 1 [] [.inRegion (opsOf (Q69)) [0, 1], .beginRound, .code (Q6a)] ?_
 refine Op_.alloc 25 5 0 (.agg #[.u 0, .u 0, .u 0, .u 0]) [.u 0, .u 0, .u 0, .u 0] p0 Goes.v (by kernel_rfl) (by kernel_rfl) ?_
 intro b7 w2 z2 p2
 have f9 : Els (kInt .u64) S0 w2 ([.u 0, .u 0, .u 0, .u 0] : List Value) [0, 0, 0, 0] := (Els.cons (K := (kInt .u64)) (vs := [.u 0]) (x := 0) rfl (Els.cons (K := (kInt .u64)) (vs := [.u 0]) (x := 0) rfl (Els.cons (K := (kInt .u64)) (vs := [.u 0]) (x := 0) rfl (Els.cons (K := (kInt .u64)) (vs := [.u 0]) (x := 0) rfl Els.nil))))
 refine Op_.stA 25 (.tmp 5) (.tmp 10) 0 0 b7 4 u4j p2 rfl rfl Goes.s (by kernel_rfl) (by kernel_rfl) (by kernel_rfl) la0 (Els.one (fa0.ext z2)) ?_
 intro w3 z3 p3
 refine Goes.rn 1 [] [.beginRound, .code (Q6a)] ?_
 refine Goes.beginR 1 rfl p3 rfl ?_
 intro w4 z4 p4
 refine Goes.rn 2 [] J7d ?_
 refine Op_.ldN 25 (.tmp 4) 11 25 ⟨u4b, 0, none⟩ u4i Goes.v (by kernel_rfl) (by kernel_rfl) (by rw [u4o]; kernel_rfl) (At_all (p4.mem 4 rfl)) ?_
 refine Op_.ldN 25 (.tmp 5) 12 25 ⟨b7, 0, none⟩ u4j Goes.v (by kernel_rfl) (by kernel_rfl) (by rw [la0]; kernel_rfl) (At_all (p4.mem 0 rfl)) ?_
 have l10 := Els.len1 (u4n.ext ((z2.trans z3).trans z4)) u4o rfl
 obtain rfl := els_lit4 (u4n.ext ((z2.trans z3).trans z4)) u4o
 have l11 := Els.len1 (fa0.ext ((z2.trans z3).trans z4)) la0 rfl
 obtain rfl := els_lit4 (fa0.ext ((z2.trans z3).trans z4)) la0
 have f13 : Els (kArr 4 (kInt .u64)) S0 w4 ((U4 kq4 (U4 a0 [])) : List Value) [kq4, a0] := by exact (Els.cons (K := (kArr 4 (kInt .u64))) (vs := (U4 kq4 [])) (x := kq4) ⟨l10, els_mk4 l10⟩ (Els.cons (K := (kArr 4 (kInt .u64))) (vs := (U4 a0 [])) (x := a0) ⟨l11, els_mk4 l11⟩ Els.nil))
 refine Op_.made (.buildSlice 151 2 #[(0, (.tmp 11)), (1, (.tmp 12))]) 13 151 (fun b => .slice (Gp (some b)) 2 2) 25 ((U4 kq4 (U4 a0 [])) : List Value) p4 Goes.v (by kernel_rfl) ?_
 intro b12 w5 z5 p5
 have p5 : Hp nz wz S0 w5 (((some b12), .row 25 ((U4 kq4 (U4 a0 [])) : List Value) (2 * (kArr 4 (kInt .u64)).size) 0) :: (some b7, .row 25 ((U4 a0 []) : List Value) 4 0) :: (some lk, .obj (lpst 91 (lfr 20 [(2, (pt u46 0)), (3, .bool kq3), (4, (pt u4b 0)), (9, .func (.func 111) #[] #[(pt u4c 0)])] jkk) #[10] (rfAssign (Q68)) (rfBody (Q68)) rk .busy none)) :: (some u46, .row 28 (.i u4f.Kind :: U4 u4f.Set [.slice (Gp u47) u4f.L.length u49, .i u4f.Min, .i u4f.Max]) 8 0) :: (u47, .row 28 u4a (u49 * kT27.size) 0) :: (some u4b, .row 25 ((U4 kq4 []) : List Value) 4 0) :: (some u4c, .row 66 [(pt u4d 0)] 1 0) :: (some u4d, .row 69 [.string u4g.s, .i u4g.at_, .i u4g.deep, u4e] 4 0) :: Lr) := p5
 obtain ⟨S6, z6, p6, f15⟩ := p5.freezeRd 0 rfl (f13.ext z5) (by decide)
 refine bind_some' h fun y16 e17 h => ?_
 refine Goes.cal (kc 102 [13] #[151]) 14 25 102 _ (W.zb [kq4, a0] y16 e17 (Gp (some b12)) 2 2 p6 f15 rfl) ?_
 rintro _ w7 ⟨S7, u12, rfl, z7, p7, u13, u14⟩
 have p7 := (p7.dp 0).dp 0
 refine Op_.stA 25 (.tmp 4) (.tmp 14) 0 3 u4b 4 u12 p7 rfl u4o Goes.s (by kernel_rfl) (by kernel_rfl) (by kernel_rfl) u14 (Els.one u13) ?_
 intro w8 z8 p8
 refine Goes.rn 2 [] [] ?_
 obtain rfl := Option.some.inj h
 refine Goes.endR 0 p8 rfl ?_
 intro w9 z9 p9
 exact ⟨S7, u12, rfl, (((((((((Ext.refl S0 w0).trans z2).trans z3).trans z4).trans z5).trans z6).trans z7).trans z8).trans z9), p9, (u13.ext (z8.trans z9)), u14⟩

def J7e : List Item := [.inBlock 0]
def Q6b := sub [1, 0, 0] B111
def J7f : List Item := .inLoop Q6b :: J7e
def J7g : List Item := .code Q6b :: J7f
def Q6c := sub [1, 0, 0, 1] B111
def J7h : List Item := .code Q6c :: J7f
def Q6d := sub [1, 0, 0, 0, 1] B111
def J7i : List Item := .code Q6d :: J7h
def Q6e := sub [1, 0, 0, 0, 0] B111
def J7j : List Item := .inRegion (opsOf Q6e) [0, 1, 2, 3, 4, 5, 6, 7, 8, 9, 10, 11, 12] :: J7i
def J7k : List Item := .inRegion (opsOf Q6e) [3, 4, 5, 6, 7, 8, 9, 10, 11, 12] :: J7i
def J7l : List Item := .inRegion (opsOf Q6e) [8, 9, 10, 11, 12] :: J7i
def Q6f := sub [1, 0, 0, 1, 1] B111
def J7m : List Item := .code Q6f :: J7f
def J7n : List Item := .inBlock 1 :: J7m
def Q6g := sub [1, 0, 0, 1, 0, 0, 1] B111
def J7o : List Item := .code Q6g :: J7n
def Q6h := sub [1, 0, 0, 1, 0, 0, 0] B111
def J7p : List Item := .inRegion (opsOf Q6h) [1, 2, 3, 4] :: J7o

def Post.zt (lx0 : Nat) (rx0 : Nat) (u4q : Nat → Value) (u4r : Nat) (u4s : Option Nat) (u4t : Nat) (u4u : Nat) (u4v : List Value) (u4w : Nat) (u4x : Nat) (u4y : Nat) (u4z : T27) (u50 : Bool) (r : (List Int) × T68) (v : Value) (w' : World) : Prop :=
 ∃ S' u4h u51, v = .tuple #[] ∧ Ext S0 w0 S' w' ∧ Hp nz wz S' w' ((some lx0, .obj (lpst 91 (lfr 20 [(2, (pt u4r 0)), (3, .bool u50), (4, (pt u4w 0)), (9, .func (.func 111) #[] #[(pt u4x 0)])] u4q) #[10] (rfAssign (Q68)) (rfBody (Q68)) rx0 .ready none)) :: (some u4r, .row 28 (.i u4z.Kind :: U4 u4z.Set [.slice (Gp u4s) u4t u4u, .i u4z.Min, .i u4z.Max]) 8 0) :: (u4s, .row 28 u4v (u4u * kT27.size) 0) :: (some u4w, .row 25 u4h 4 0) :: (some u4x, .row 66 [(pt u4y 0)] 1 0) :: (some u4y, .row 69 [.string r.2.s, .i r.2.at_, .i r.2.deep, u51] 4 0) :: Lr) ∧ Els (kInt .u64) S' w' u4h r.1 ∧ u4h.length = 4 ∧ PtO kT72 S' w' u51 r.2.bad

def L.zu (lx0 : Nat) (rx0 : Nat) (u4q : Nat → Value) (u4r : Nat) (u4s : Option Nat) (u4t : Nat) (u4u : Nat) (u4v : List Value) (u4w : Nat) (u4x : Nat) (u4y : Nat) : Bool × (List Int) × T68 × T27 × Bool → ((List Int) × T68) → Prop := fun ⟨x3, e2, e4v, u4z, u50⟩ r => ∀ S1 w1, Ext S0 w0 S1 w1 → ∀ u4h u51 (_ : Hp nz wz S1 w1 ((some lx0, .obj (lpst 91 (lfr 20 [(2, (pt u4r 0)), (3, .bool u50), (4, (pt u4w 0)), (9, .func (.func 111) #[] #[(pt u4x 0)])] u4q) #[10] (rfAssign (Q68)) (rfBody (Q68)) rx0 .ready none)) :: (some u4r, .row 28 (.i u4z.Kind :: U4 u4z.Set [.slice (Gp u4s) u4t u4u, .i u4z.Min, .i u4z.Max]) 8 0) :: (u4s, .row 28 u4v (u4u * kT27.size) 0) :: (some u4w, .row 25 u4h 4 0) :: (some u4x, .row 66 [(pt u4y 0)] 1 0) :: (some u4y, .row 69 [.string e4v.s, .i e4v.at_, .i e4v.deep, u51] 4 0) :: Lr)) (_ : u4z.Set.length = 4) (_ : Els kT27 S1 w1 u4v u4z.L) (_ : u4z.L.length = u4t) (_ : Els (kInt .u64) S1 w1 u4h e2) (_ : u4h.length = 4) (_ : PtO kT72 S1 w1 u51 e4v.bad) (junk : Nat → Value),
 Goes Tryd.prog (base 111) J7g ⟨lfr 22 [(0, yieldV lx0), (1, (pt u4x 0)), (3, .bool x3)] junk, []⟩ w1 (Done Tryd.prog 111 (Rets (Post.zt nz wz S0 w0 Lr lx0 rx0 u4q u4r u4s u4t u4u u4v u4w u4x u4y u4z u50 r)))

def L.zv (lx0 : Nat) (rx0 : Nat) (u4q : Nat → Value) (u4r : Nat) (u4s : Option Nat) (u4t : Nat) (u4u : Nat) (u4v : List Value) (u4w : Nat) (u4x : Nat) (u4y : Nat) : Bool × (List Int) × T68 × T27 × Bool → ((List Int) × T68) → Prop := fun ⟨x16, e2, e4v, u4z, u50⟩ r => ∀ S1 w1, Ext S0 w0 S1 w1 → ∀ u4h u51 (_ : Hp nz wz S1 w1 ((some lx0, .obj (lpst 91 (lfr 20 [(2, (pt u4r 0)), (3, .bool u50), (4, (pt u4w 0)), (9, .func (.func 111) #[] #[(pt u4x 0)])] u4q) #[10] (rfAssign (Q68)) (rfBody (Q68)) rx0 .ready none)) :: (some u4r, .row 28 (.i u4z.Kind :: U4 u4z.Set [.slice (Gp u4s) u4t u4u, .i u4z.Min, .i u4z.Max]) 8 0) :: (u4s, .row 28 u4v (u4u * kT27.size) 0) :: (some u4w, .row 25 u4h 4 0) :: (some u4x, .row 66 [(pt u4y 0)] 1 0) :: (some u4y, .row 69 [.string e4v.s, .i e4v.at_, .i e4v.deep, u51] 4 0) :: Lr)) (_ : u4z.Set.length = 4) (_ : Els kT27 S1 w1 u4v u4z.L) (_ : u4z.L.length = u4t) (_ : Els (kInt .u64) S1 w1 u4h e2) (_ : u4h.length = 4) (_ : PtO kT72 S1 w1 u51 e4v.bad) (junk : Nat → Value),
 Goes Tryd.prog (base 111) J7i ⟨lfr 22 [(0, yieldV lx0), (1, (pt u4x 0)), (16, .bool x16)] junk, []⟩ w1 (Done Tryd.prog 111 (Rets (Post.zt nz wz S0 w0 Lr lx0 rx0 u4q u4r u4s u4t u4u u4v u4w u4x u4y u4z u50 r)))

theorem W.zw {nz wz S0 w0 Lr} [Gw nz wz] (lx0 : Nat) (rx0 : Nat) (u4q : Nat → Value) (u4r : Nat) (u4s : Option Nat) (u4t : Nat) (u4u : Nat) (u4v : List Value) (u4w : Nat) (u4x : Nat) (u4y : Nat) : (∀ a r, M.syntax_parser_items_1_l0 a = some r → (L.zu nz wz S0 w0 Lr lx0 rx0 u4q u4r u4s u4t u4u u4v u4w u4x u4y) a r) ∧ (∀ a r, M.syntax_parser_items_1_l1 a = some r → (L.zv nz wz S0 w0 Lr lx0 rx0 u4q u4r u4s u4t u4u u4v u4w u4x u4y) a r) := by
 refine M.syntax_parser_items_1_l0.mutual_partial_correctness (L.zu nz wz S0 w0 Lr lx0 rx0 u4q u4r u4s u4t u4u u4v u4w u4x u4y) (L.zv nz wz S0 w0 Lr lx0 rx0 u4q u4r u4s u4t u4u u4v u4w u4x u4y) ?_ ?_
 ·
  intro u52 u53 ⟨x3, e2, e4v, u4z, u50⟩ r h S1 w1 hx u4h u51 p1 u54 fs1 ls1 fe2 le2 u55 junk
  try dsimp only at h
  subst ls1
  refine Goes.rn 3 [] J7j ?_
  refine Goes.ld 66 (.tmp 1) 4 66 ⟨u4x, 0, none⟩ ((pt u4y 0)) (p1.c 4 0) ?_
  refine Goes.rn 2 [(5, (pt u4y 0)), (6, (pt u4y 3))] J7k ?_
  refine Goes.ld 67 (.tmp 6) 7 67 ⟨u4y, 3, none⟩ (u51) (p1.c 5 3) ?_
  refine let_some h fun v17 h8 h => ?_
  rcases v17 with _ | y9
  ·
   try dsimp only at h
   obtain rfl := PtO.nil u55 h8
   refine Goes.rn 4 [(8, .bool true), (9, .bool true), (10, .bool x3), (11, .bool x3)] J7l ?_
   refine ite_some h (fun h14 h => ?_) (fun h14 h => ?_)
   ·
    rw [h14]
    refine Goes.rn 6 [(12, undef), (13, undef), (14, undef), (15, .bool true), (16, .bool true)] J7i ?_
    exact Goes.jp 22 [(0, yieldV lx0), (1, (pt u4x 0)), (16, .bool true)] (u53 _ _ h _ _ hx u4h (.pointer none) p1 u54 fs1 rfl fe2 le2 rfl)
   ·
    have u56 : x3 = false := by simpa using h14
    rw [u56]
    refine Goes.ld 66 (.tmp 1) 12 66 ⟨u4x, 0, none⟩ ((pt u4y 0)) (p1.c 4 0) ?_
    have p1 := p1.fr 5
    refine bind_some' h fun y15 e16 h => ?_
    refine Goes.cal (.call { callee := .value (.func 48), args := #[(.tmp 12), (.const (.int .u8 93))], argTypes := #[66, 5] }) 13 4 48 _ (W.z3 (⟨e4v.s, e4v.at_, e4v.deep, none⟩ : T68) 93 y15 e16 u4y (.pointer none) p1 rfl) ?_
    rintro _ w2 ⟨S2, u7, rfl, z2, p2, u8⟩
    refine Goes.rn 4 [(14, .bool (!y15.1)), (15, .bool (!y15.1)), (16, .bool (!y15.1))] J7i ?_
    have p2 := (((((p2.fr 0).fr 5).fr 5).fr 5).fr 5).fr 5
    exact Goes.jp 22 [(0, yieldV lx0), (1, (pt u4x 0)), (16, .bool (!y15.1))] (u53 _ _ h _ _ (hx.trans z2) u4h u7 p2 u54 (fs1.ext z2) rfl (fe2.ext z2) le2 u8)
  ·
   try dsimp only at h
   obtain ⟨a11, _, rfl, -, f12, q13⟩ := PtO.got u55 h8
   obtain rfl := q13
   refine Goes.rn 10 [(8, .bool false), (9, .bool false), (10, undef), (11, undef), (12, undef), (13, undef), (14, undef), (15, undef), (16, .bool false)] J7i ?_
   exact Goes.jp 22 [(0, yieldV lx0), (1, (pt u4x 0)), (16, .bool false)] (u53 _ _ h _ _ hx u4h (.pointer (some a11)) p1 u54 fs1 rfl fe2 le2 ⟨_, _, rfl, List.cons_ne_nil _ _, f12, rfl⟩)
 ·
  intro u57 u58 ⟨x16, e2, e4v, u4z, u50⟩ r h S1 w1 hx u4h u51 p1 u54 fs1 ls1 fe2 le2 u55 junk
  try dsimp only at h
  subst ls1
  refine ite_some h (fun h18 h => ?_) (fun h18 h => ?_)
  ·
   rw [h18]
   refine Goes.rn 7 [(17, yieldV lx0)] J7p ?_
   refine Goes.ld 66 (.tmp 1) 18 66 ⟨u4x, 0, none⟩ ((pt u4y 0)) (p1.c 4 0) ?_
   have p1 := p1.fr 5
   refine bind_some' h fun y19 e20 h => ?_
   refine Goes.cal (kc 112 [18] #[66]) 19 25 112 _ (W.zq e4v y19 e20 u4y u51 p1 u55) ?_
   rintro _ w3 ⟨S3, u2c, u2o, rfl, z3, p3, u2d, u2e, u2p⟩
   have p3 := (((((p3.fr 0).fr 5).fr 5).fr 5).fr 5).fr 5
   refine bind_some' h fun y21 e22 h => ?_
   refine Goes.yieldAt (.call { callee := .value (.tmp 17), args := #[(.tmp 19)], argTypes := #[25] }) 20 4 0 lx0 #[.agg u2c.toArray] p3 rfl (by kernel_rfl) rfl (fun _ => by kernel_rfl) rfl (W.zs u4z u50 e2 y19.2 y19.1 y21 e22 lx0 rx0 u4q u4r u4s u4z.L.length u4u u4v u4w u4h u4x u4y u2o u2c p3 u54 (fs1.ext z3) rfl (fe2.ext z3) le2 u2p u2d u2e) ?_
   rintro _ w4 ⟨S4, u59, rfl, z4, p4, u5a, u5b⟩
   refine Goes.rn 9 [(21, .bool (!true)), (3, .bool false)] J7g ?_
   exact Goes.jp 22 [(0, yieldV lx0), (1, (pt u4x 0)), (3, .bool false)] (u58 _ _ h _ _ ((hx.trans z3).trans z4) u59 u2o p4 u54 (fs1.ext (z3.trans z4)) rfl u5a u5b (u2p.ext z4))
  ·
   have u5c : x16 = false := by simpa using h18
   rw [u5c]
   refine Goes.rn 2 [] [] ?_
   obtain rfl := Option.some.inj h
   exact Goes.end_ (fn := Tryd.f111) (by kernel_rfl) (v := .tuple #[]) (by kernel_rfl) ⟨S1, u4h, u51, rfl, hx, p1, fe2, le2, u55⟩

theorem W.zu {nz wz S0 w0 Lr} [Gw nz wz] (lx0 : Nat) (rx0 : Nat) (u4q : Nat → Value) (u4r : Nat) (u4s : Option Nat) (u4t : Nat) (u4u : Nat) (u4v : List Value) (u4w : Nat) (u4x : Nat) (u4y : Nat) : ∀ a r, M.syntax_parser_items_1_l0 a = some r → (L.zu nz wz S0 w0 Lr lx0 rx0 u4q u4r u4s u4t u4u u4v u4w u4x u4y) a r := (W.zw lx0 rx0 u4q u4r u4s u4t u4u u4v u4w u4x u4y).1

theorem W.zv {nz wz S0 w0 Lr} [Gw nz wz] (lx0 : Nat) (rx0 : Nat) (u4q : Nat → Value) (u4r : Nat) (u4s : Option Nat) (u4t : Nat) (u4u : Nat) (u4v : List Value) (u4w : Nat) (u4x : Nat) (u4y : Nat) : ∀ a r, M.syntax_parser_items_1_l1 a = some r → (L.zv nz wz S0 w0 Lr lx0 rx0 u4q u4r u4s u4t u4u u4v u4w u4x u4y) a r := (W.zw lx0 rx0 u4q u4r u4s u4t u4u u4v u4w u4x u4y).2

theorem W.zt (u4z : T27) (u50 : Bool) (u5d : List Int) (u5e : T68) (r : (List Int) × T68) (h : M.syntax_parser_items_1 u4z u50 u5d u5e = some r) {nz wz S0 w0 Lr} [Gw nz wz] (lx0 rx0 u4q u4r u4s u4t u4u u4v u4w u4x u4y u5f) (p0 : Hp nz wz S0 w0 ((some lx0, .obj (lpst 91 (lfr 20 [(2, (pt u4r 0)), (3, .bool u50), (4, (pt u4w 0)), (9, .func (.func 111) #[] #[(pt u4x 0)])] u4q) #[10] (rfAssign (Q68)) (rfBody (Q68)) rx0 .ready none)) :: (some u4r, .row 28 (.i u4z.Kind :: U4 u4z.Set [.slice (Gp u4s) u4t u4u, .i u4z.Min, .i u4z.Max]) 8 0) :: (u4s, .row 28 u4v (u4u * kT27.size) 0) :: (some u4w, .row 25 (U4 u5d []) 4 0) :: (some u4x, .row 66 [(pt u4y 0)] 1 0) :: (some u4y, .row 69 [.string u5e.s, .i u5e.at_, .i u5e.deep, u5f] 4 0) :: Lr)) (u54 : u4z.Set.length = 4) (u5g : Els kT27 S0 w0 u4v u4z.L) (u5h : u4z.L.length = u4t) (u5i : u5d.length = 4) (u5j : PtO kT72 S0 w0 u5f u5e.bad) :
  Calls Tryd.prog 111 #[yieldV lx0, (pt u4x 0)] w0 (Rets (Post.zt nz wz S0 w0 Lr lx0 rx0 u4q u4r u4s u4t u4u u4v u4w u4x u4y u4z u50 r)) := by
 subst u5h
 refine calls_of_goes (fn := Tryd.f111) (c := B111) (by kernel_rfl) (by kernel_rfl) 20 (by kernel_rfl) ?_
 refine Goes.jp 22 [(0, yieldV lx0), (1, (pt u4x 0))] (fun junk => ?_)
 delta M.syntax_parser_items_1 at h
 refine Goes.rn 6 [(3, .bool true)] J7g ?_
 have f7 : Els (kInt .u64) S0 w0 ((U4 u5d []) : List Value) u5d := (els_mk4 (k := .u64) u5i)
 exact Goes.jp 22 [(0, yieldV lx0), (1, (pt u4x 0)), (3, .bool true)] (W.zu lx0 rx0 u4q u4r u4s u4z.L.length u4u u4v u4w u4x u4y _ _ h _ _ (Ext.refl S0 w0) ((U4 u5d []) : List Value) u5f p0 u54 u5g rfl f7 rfl u5j)

def Q6i := sub [1] B91
def J7q : List Item := [.code Q6i]
def Q6j := sub [0] B91
def J7r : List Item := .inRegion (opsOf Q6j) [0] :: J7q
def Q6k := sub [1, 1] B91
def J7s : List Item := [.code Q6k]
def Q6l := sub [1, 0] B91
def J7t : List Item := .inRegion (opsOf Q6l) [1, 2] :: J7s
def Q6m := sub [1, 1, 1] B91
def J7u : List Item := [.code Q6m]
def Q6n := sub [1, 1, 0] B91
def J7v : List Item := .inRegion (opsOf Q6n) [0] :: J7u
def Q6o := sub [1, 1, 1, 1] B91
def J7w : List Item := [.code Q6o]
def Q6p := sub [1, 1, 1, 0, 1] B91
def J7x : List Item := .code Q6p :: J7w
def Q6q := sub [1, 1, 1, 0, 0] B91
def J7y : List Item := .inRegion (opsOf Q6q) [1] :: J7x
def J7z : List Item := .inBlock 0 :: J7w
def J80 : List Item := .code Q68 :: J7z
def Q6r := sub [1, 1, 1, 1, 1] B91
def J81 : List Item := [.code Q6r]
def Q6s := sub [1, 1, 1, 1, 0, 1] B91
def J82 : List Item := .code Q6s :: J81
def Q6t := sub [1, 1, 1, 1, 0, 1, 0] B91
def J83 : List Item := .inRegion (opsOf Q6t) [0, 1, 2] :: J81
def Q6u := sub [1, 1, 1, 1, 1, 1] B91
def J84 : List Item := [.code Q6u]
def Q6v := sub [1, 1, 1, 1, 1, 0] B91
def J85 : List Item := .inRegion (opsOf Q6v) [0, 1, 2] :: J84
def J86 : List Item := .inRegion (opsOf Q6v) [2] :: J84

def Post.zx (gx0 : Nat) (r : T27 × T68) (v : Value) (w' : World) : Prop :=
 ∃ S' u4 u5 u6 u0, v = (ag (.i r.1.Kind :: U4 r.1.Set [.slice u4 u5 u6, .i r.1.Min, .i r.1.Max])) ∧ Ext S0 w0 S' w' ∧ Hp nz wz S' w' ((some gx0, .row 69 [.string r.2.s, .i r.2.at_, .i r.2.deep, u0] 4 0) :: Lr) ∧ r.1.Set.length = 4 ∧ Rd kT27 S' w' u4 u6 r.1.L ∧ r.1.L.length = u5 ∧ PtO kT72 S' w' u0 r.2.bad

theorem W.zx (x0v : T68) (r : T27 × T68) (h : M.syntax_parser_class x0v = some r) {nz wz S0 w0 Lr} [Gw nz wz] (gx0 u2) (p0 : Hp nz wz S0 w0 ((some gx0, .row 69 [.string x0v.s, .i x0v.at_, .i x0v.deep, u2] 4 0) :: Lr)) (u3 : PtO kT72 S0 w0 u2 x0v.bad) :
  Calls Tryd.prog 91 #[(pt gx0 0)] w0 (Rets (Post.zx nz wz S0 w0 Lr gx0 r)) := by
 refine calls_of_goes (fn := Tryd.f91) (c := B91) (by kernel_rfl) (by kernel_rfl) 19 (by kernel_rfl) ?_
 refine Goes.jp 20 [(0, (pt gx0 0))] (fun junk => ?_)
 delta M.syntax_parser_class at h
 refine Goes.rn 2 [] J7r ?_
 refine Op_.alloc 28 2 0 (.agg #[.i 0, .u 0, .u 0, .u 0, .u 0, .slice none 0 0, .i 0, .i 0]) [.i 0, .u 0, .u 0, .u 0, .u 0, .slice none 0 0, .i 0, .i 0] p0 Goes.v (by kernel_rfl) (by kernel_rfl) ?_
 intro b2 w2 z2 p2
 refine Goes.rn 4 [(6, (pt gx0 0))] J7t ?_
 have p2 := p2.fr 1
 refine bind_some' h fun y4 e5 h => ?_
 refine Goes.cal (.call { callee := .value (.func 48), args := #[(.tmp 6), (.const (.int .u8 94))], argTypes := #[66, 5] }) 7 4 48 _ (W.z3 x0v 94 y4 e5 gx0 u2 p2 (u3.ext z2)) ?_
 rintro _ w3 ⟨S3, u2o, rfl, z3, p3, u2p⟩
 refine Goes.rn 4 [(3, .bool y4.1)] J7v ?_
 refine Op_.alloc 25 4 0 (.agg #[.u 0, .u 0, .u 0, .u 0]) [.u 0, .u 0, .u 0, .u 0] p3 Goes.v (by kernel_rfl) (by kernel_rfl) ?_
 intro b6 w4 z4 p4
 refine Goes.rn 5 [(8, (pt gx0 0))] J7y ?_
 have p4 := p4.fr 1
 refine bind_some' h fun y8 e9 h => ?_
 refine Goes.cal (kc 101 [8] #[66]) 9 139 101 _ (W.z8 y4.2 y8 e9 gx0 u2o p4 (u2p.ext z4)) ?_
 rintro _ w5 ⟨S5, u5k, rfl, z5, p5⟩
 refine Goes.rn 2 [] J80 ?_
 refine Goes.jp 20 [(2, (pt b2 0)), (3, .bool y4.1), (4, (pt b6 0)), (9, .func (.func 111) #[] #[(pt u5k 0)])] (fun u5l => ?_)
 refine Goes.rangeF (f := 91) (.tmp 9) #[10] 111 #[] #[(pt u5k 0)] (by kernel_rfl) (by kernel_rfl) (fun _ => by kernel_rfl) p5 ?_
 intro r12 l13 w6 z6 p6
 have p6 : Hp nz wz S5 w6 ((none, .row 28 [] (0 * kT27.size) 0) :: (some l13, .obj (lpst 91 (lfr 20 [(2, (pt b2 0)), (3, .bool y4.1), (4, (pt b6 0)), (9, .func (.func 111) #[] #[(pt u5k 0)])] u5l) #[10] (rfAssign (Q68)) (rfBody (Q68)) r12 .ready none)) :: (some r12, .obj (.deferred (some []))) :: (some u5k, .row 66 [(pt gx0 0)] 1 0) :: (some gx0, .row 69 [.string y4.2.s, .i y4.2.at_, .i y4.2.deep, u2o] 4 0) :: (some b6, .row 25 [.u 0, .u 0, .u 0, .u 0] 4 0) :: (some b2, .row 28 [.i 0, .u 0, .u 0, .u 0, .u 0, .slice none 0 0, .i 0, .i 0] 8 0) :: Lr) := p6.nilRow' 28
 have p6 := (((((p6.fr 4).fr 4).fr 5).fr 3).fr 6).fr 5
 refine bind_some' h fun y17 e18 h => ?_
 refine ⟨_, W.zt (⟨0, [0, 0, 0, 0], ([] : List T27), 0, 0⟩ : T27) y4.1 [0, 0, 0, 0] y4.2 y17 e18 l13 r12 u5l b2 none 0 0 [] b6 u5k gx0 u2o p6 rfl (Els.nil (K := kT27)) rfl rfl (u2p.ext ((z4.trans z5).trans z6)), ?_⟩
 rintro _ w7 ⟨S7, u5m, u5n, rfl, z7, p7, u5o, u5p, u5q⟩
 refine Goes.endF 0 p7 rfl rfl ?_
 intro w8 z8 p8
 replace p8 : Hp nz wz S7 w8 ((some b2, .row 28 [.i 0, .u 0, .u 0, .u 0, .u 0, .slice (Gp none) 0 0, .i 0, .i 0] 8 0) :: (none, .row 28 [] (0 * kT27.size) 0) :: (some b6, .row 25 u5m 4 0) :: (some u5k, .row 66 [(pt gx0 0)] 1 0) :: (some gx0, .row 69 [.string y17.2.s, .i y17.2.at_, .i y17.2.deep, u5n] 4 0) :: (some r12, .obj (.deferred (some []))) :: Lr) := (p8.front 0 _ rfl).drop
 show Goes _ _ J7z _ _ _
 refine Goes.rn 6 [(15, .bool y4.1)] J82 ?_
 refine ite_some h (fun h19 h => ?_) (fun h19 h => ?_)
 ·
  rw [h19]
  refine Goes.rn 2 [] J83 ?_
  refine Op_.ldN 25 (.tmp 4) 16 25 ⟨b6, 0, none⟩ u5m Goes.v (by kernel_rfl) (by kernel_rfl) (by rw [u5p]; kernel_rfl) (At_all (p8.mem 2 rfl)) ?_
  refine bind_some' h fun y20 e21 h => ?_
  refine Goes.cal (kc 89 [16] #[25]) 17 25 89 _ (W.z6 y17.1 y20 e21 u5m p8 (u5o.ext z8) u5p) ?_
  rintro _ w9 ⟨S9, u5r, rfl, z9, p9, u5s, u5t⟩
  have p9 := p9.dp 3
  refine Op_.stA 25 (.tmp 4) (.tmp 17) 0 2 b6 4 u5r p9 rfl u5p Goes.s (by kernel_rfl) (by kernel_rfl) (by kernel_rfl) u5t (Els.one u5s) ?_
  intro w10 z10 p10
  refine Goes.rn 3 [] J85 ?_
  refine Op_.ldN 25 (.tmp 4) 18 25 ⟨b6, 0, none⟩ u5r Goes.v (by kernel_rfl) (by kernel_rfl) (by rw [u5t]; kernel_rfl) (At_all (p10.mem 2 rfl)) ?_
  have l22 := Els.len1 (u5s.ext z10) u5t rfl
  obtain rfl := els_lit4 (u5s.ext z10) u5t
  refine Goes.rn 1 [(19, (ag (.i 1 :: U4 y20 [.slice none 0 0, .i 0, .i 0])))] J86 ?_
  refine Op_.st 28 (.tmp 2) (.tmp 19) 0 0 b2 0 (ag (.i 1 :: U4 y20 [.slice none 0 0, .i 0, .i 0])) (.i 1 :: U4 y20 [.slice none 0 0, .i 0, .i 0]) p10 rfl Goes.s (by kernel_rfl) (by kernel_rfl) (by kernel_rfl) (by kernel_rfl) (Nat.zero_le _) (by simp only [List.length_cons, List.length_nil]; omega) (by simp [Value.oneCell']) ?_
  intro w11 z11 p11
  have p11 : Hp nz wz S9 w11 ((some b2, .row 28 (.i 1 :: U4 y20 [.slice none 0 0, .i 0, .i 0]) 8 0) :: (none, .row 28 [] (0 * kT27.size) 0) :: (some b6, .row 25 ((U4 y20 []) : List Value) 4 0) :: (some gx0, .row 69 [.string y17.2.s, .i y17.2.at_, .i y17.2.deep, u5n] 4 0) :: (some r12, .obj (.deferred (some []))) :: Lr) := p11
  refine Goes.rn 1 [] J84 ?_
  obtain rfl := Option.some.inj h
  have p11 := (p11.dp 1).dp 1
  have p11 := ((p11.fr 1).fr 1).fr 2
  refine Goes.retL ?_
  refine lvs_mark 0 rfl rfl p11 rfl ?_
  intro w12 z12 p12
  replace p12 : Hp nz wz S9 w12 ((some b2, .row 28 (.i 1 :: U4 y20 [.slice none 0 0, .i 0, .i 0]) 8 0) :: (some gx0, .row 69 [.string y17.2.s, .i y17.2.at_, .i y17.2.deep, u5n] 4 0) :: Lr) := p12.drop
  exact lvs_done (fn := Tryd.f91) rfl rfl rfl rfl (by kernel_rfl) (v := (ag (.i 1 :: U4 y20 [.slice none 0 0, .i 0, .i 0]))) (results_n1 (fn := Tryd.f91) (a := .cell 2 28) (by kernel_rfl) (resV_cell ⟨b2, 0, none⟩ (by kernel_rfl) (run_loadN (.i 1 :: U4 y20 [.slice none 0 0, .i 0, .i 0]) (by kernel_rfl) (by kernel_rfl) (p12.pa 0 0)))) ⟨S9, none, 0, 0, u5n, rfl, ((((((((((((Ext.refl S0 w0).trans z2).trans z3).trans z4).trans z5).trans z6).trans z7).trans z8).trans z9).trans z10).trans z11).trans z12), p12.drop, l22, Rd.none_, rfl, (u5q.ext ((((z8.trans z9).trans z10).trans z11).trans z12))⟩
 ·
  have u5u : y4.1 = false := by simpa using h19
  rw [u5u]
  refine Goes.rn 4 [] J85 ?_
  refine Op_.ldN 25 (.tmp 4) 18 25 ⟨b6, 0, none⟩ u5m Goes.v (by kernel_rfl) (by kernel_rfl) (by rw [u5p]; kernel_rfl) (At_all (p8.mem 2 rfl)) ?_
  have l23 := Els.len1 (u5o.ext z8) u5p rfl
  obtain rfl := els_lit4 (u5o.ext z8) u5p
  refine Goes.rn 1 [(19, (ag (.i 1 :: U4 y17.1 [.slice none 0 0, .i 0, .i 0])))] J86 ?_
  refine Op_.st 28 (.tmp 2) (.tmp 19) 0 0 b2 0 (ag (.i 1 :: U4 y17.1 [.slice none 0 0, .i 0, .i 0])) (.i 1 :: U4 y17.1 [.slice none 0 0, .i 0, .i 0]) p8 rfl Goes.s (by kernel_rfl) (by kernel_rfl) (by kernel_rfl) (by kernel_rfl) (Nat.zero_le _) (by simp only [List.length_cons, List.length_nil]; omega) (by simp [Value.oneCell']) ?_
  intro w13 z13 p13
  have p13 : Hp nz wz S7 w13 ((some b2, .row 28 (.i 1 :: U4 y17.1 [.slice none 0 0, .i 0, .i 0]) 8 0) :: (none, .row 28 [] (0 * kT27.size) 0) :: (some b6, .row 25 ((U4 y17.1 []) : List Value) 4 0) :: (some u5k, .row 66 [(pt gx0 0)] 1 0) :: (some gx0, .row 69 [.string y17.2.s, .i y17.2.at_, .i y17.2.deep, u5n] 4 0) :: (some r12, .obj (.deferred (some []))) :: Lr) := p13
  refine Goes.rn 1 [] J84 ?_
  obtain rfl := Option.some.inj h
  have p13 := ((p13.dp 1).dp 1).dp 1
  have p13 := ((p13.fr 1).fr 1).fr 2
  refine Goes.retL ?_
  refine lvs_mark 0 rfl rfl p13 rfl ?_
  intro w14 z14 p14
  replace p14 : Hp nz wz S7 w14 ((some b2, .row 28 (.i 1 :: U4 y17.1 [.slice none 0 0, .i 0, .i 0]) 8 0) :: (some gx0, .row 69 [.string y17.2.s, .i y17.2.at_, .i y17.2.deep, u5n] 4 0) :: Lr) := p14.drop
  exact lvs_done (fn := Tryd.f91) rfl rfl rfl rfl (by kernel_rfl) (v := (ag (.i 1 :: U4 y17.1 [.slice none 0 0, .i 0, .i 0]))) (results_n1 (fn := Tryd.f91) (a := .cell 2 28) (by kernel_rfl) (resV_cell ⟨b2, 0, none⟩ (by kernel_rfl) (run_loadN (.i 1 :: U4 y17.1 [.slice none 0 0, .i 0, .i 0]) (by kernel_rfl) (by kernel_rfl) (p14.pa 0 0)))) ⟨S7, none, 0, 0, u5n, rfl, ((((((((((Ext.refl S0 w0).trans z2).trans z3).trans z4).trans z5).trans z6).trans z7).trans z8).trans z13).trans z14), p14.drop, l23, Rd.none_, rfl, (u5q.ext ((z8.trans z13).trans z14))⟩

def Q6w := sub [1] B95
def J87 : List Item := [.code Q6w]
def Q6x := sub [0] B95
def J88 : List Item := .inRegion (opsOf Q6x) [2, 3] :: J87
def Q6y := sub [1, 0] B95
def J89 : List Item := [.inRegion (opsOf Q6y) [4, 5]]

def Post.zy (gx0 : Nat) (r : T68) (v : Value) (w' : World) : Prop :=
 ∃ S' u0, v = .tuple #[] ∧ Ext S0 w0 S' w' ∧ Hp nz wz S' w' ((some gx0, .row 69 [.string r.s, .i r.at_, .i r.deep, u0] 4 0) :: Lr) ∧ PtO kT72 S' w' u0 r.bad

theorem W.zy (x0v : T68) (x1 : Int) (r : T68) (h : M.syntax_parser_need x0v x1 = some r) {nz wz S0 w0 Lr} [Gw nz wz] (gx0 u2) (p0 : Hp nz wz S0 w0 ((some gx0, .row 69 [.string x0v.s, .i x0v.at_, .i x0v.deep, u2] 4 0) :: Lr)) (u3 : PtO kT72 S0 w0 u2 x0v.bad) :
  Calls Tryd.prog 95 #[(pt gx0 0), .int .u8 x1] w0 (Rets (Post.zy nz wz S0 w0 Lr gx0 r)) := by
 refine calls_of_goes (fn := Tryd.f95) (c := B95) (by kernel_rfl) (by kernel_rfl) 12 (by kernel_rfl) ?_
 refine Goes.jp 14 [(0, (pt gx0 0)), (1, .int .u8 x1)] (fun junk => ?_)
 delta M.syntax_parser_need at h
 refine Goes.rn 4 [(4, (pt gx0 0)), (5, .int .u8 x1)] J88 ?_
 refine bind_some' h fun y2 e3 h => ?_
 refine Goes.cal (kc 48 [4, 5] #[66, 5]) 6 4 48 _ (W.z3 x0v x1 y2 e3 gx0 u2 p0 u3) ?_
 rintro _ w2 ⟨S2, u7, rfl, z2, p2, u8⟩
 refine Goes.rn 2 [(7, .bool (!y2.1))] J87 ?_
 refine ite_some h (fun h4 h => ?_) (fun h4 h => ?_)
 ·
  rw [h4]
  refine Goes.rn 2 [] [] ?_
  obtain rfl := Option.some.inj h
  exact Goes.end_ (fn := Tryd.f95) (by kernel_rfl) (v := .tuple #[]) (by kernel_rfl) ⟨S2, u7, rfl, ((Ext.refl S0 w0).trans z2), p2, u8⟩
 ·
  have h4' : y2.1 = false := by simpa using h4
  rw [h4']
  refine Goes.rn 6 [(8, (pt gx0 0)), (9, (pt gx0 0)), (10, (pt gx0 0)), (11, (pt gx0 1))] J89 ?_
  refine Goes.ld 3 (.tmp 11) 12 3 ⟨gx0, 1, none⟩ (.i y2.2.at_) (p2.c 0 1) ?_
  refine bind_some' h fun y5 e6 h => ?_
  refine Goes.cal (kc 31 [8, 12] #[66, 3]) 13 28 31 _ (W.z2 y2.2 y2.2.at_ y5 e6 gx0 u7 p2 u8) ?_
  rintro _ w3 ⟨S3, u5v, u5w, u5x, u2o, rfl, z3, p3, u5y, u5z, rfl, u2p⟩
  refine Goes.rn 1 [] [] ?_
  obtain rfl := Option.some.inj h
  exact Goes.end_ (fn := Tryd.f95) (by kernel_rfl) (v := .tuple #[]) (by kernel_rfl) ⟨S3, u2o, rfl, (((Ext.refl S0 w0).trans z2).trans z3), p3, u2p⟩

def Q6z := sub [1, 1] B106
def J8a : List Item := [.code Q6z]
def Q70 := sub [1, 0] B106
def J8b : List Item := .inRegion (opsOf Q70) [0, 1, 2, 3, 4, 5, 6, 7, 8] :: J8a
def J8c : List Item := .inRegion (opsOf Q70) [4, 5, 6, 7, 8] :: J8a

def Post.zz (gx0 : Nat) (u60 : Nat) (r : Bool × T68) (v : Value) (w' : World) : Prop :=
 ∃ S' u61, v = .bool r.1 ∧ Ext S0 w0 S' w' ∧ Hp nz wz S' w' ((some gx0, .row 66 [(pt u60 0)] 1 0) :: (some u60, .row 69 [.string r.2.s, .i r.2.at_, .i r.2.deep, u61] 4 0) :: Lr) ∧ PtO kT72 S' w' u61 r.2.bad

theorem W.zz (u62 : T68) (r : Bool × T68) (h : M.syntax_parser_number_1 u62 = some r) {nz wz S0 w0 Lr} [Gw nz wz] (gx0 u60 u63) (p0 : Hp nz wz S0 w0 ((some gx0, .row 66 [(pt u60 0)] 1 0) :: (some u60, .row 69 [.string u62.s, .i u62.at_, .i u62.deep, u63] 4 0) :: Lr)) (u64 : PtO kT72 S0 w0 u63 u62.bad) :
  Calls Tryd.prog 106 #[(pt gx0 0)] w0 (Rets (Post.zz nz wz S0 w0 Lr gx0 u60 r)) := by
 refine calls_of_goes (fn := Tryd.f106) (c := B106) (by kernel_rfl) (by kernel_rfl) 9 (by kernel_rfl) ?_
 refine Goes.jp 10 [(0, (pt gx0 0))] (fun junk => ?_)
 delta M.syntax_parser_number_1 at h
 refine Goes.rn 6 [(1, .bool false)] J8b ?_
 refine Goes.ld 66 (.tmp 0) 2 66 ⟨gx0, 0, none⟩ ((pt u60 0)) (p0.c 0 0) ?_
 have p0 := p0.fr 1
 refine bind_some' h fun y3 e4 h => ?_
 refine Goes.cal (kc 65 [2] #[66]) 3 5 65 _ (W.z0 u62 y3 e4 u60 u63 p0 u64) ?_
 rintro _ w2 ⟨S2, u7, rfl, z2, p2, u8⟩
 refine Goes.rn 2 [(4, .bool (decide (y3.1 ≥ 48))), (5, .bool (decide (y3.1 ≥ 48)))] J8c ?_
 refine ite_some h (fun h5 h => ?_) (fun h5 h => ?_)
 ·
  rw [decide_eq_true h5]
  refine Goes.ld 66 (.tmp 0) 6 66 ⟨gx0, 0, none⟩ ((pt u60 0)) (p2.c 1 0) ?_
  refine bind_some' h fun y6 e7 h => ?_
  refine Goes.cal (kc 65 [6] #[66]) 7 5 65 _ (W.z0 y3.2 y6 e7 u60 u7 p2 u8) ?_
  rintro _ w3 ⟨S3, u2o, rfl, z3, p3, u2p⟩
  refine Goes.rn 4 [(8, .bool (decide (y6.1 ≤ 57))), (9, .bool (decide (y6.1 ≤ 57))), (1, .bool (decide (y6.1 ≤ 57)))] J8a ?_
  obtain rfl := Option.some.inj h
  have p3 := (p3.fr 0).fr 1
  exact Goes.rt Tryd.f106 (.bool (decide (y6.1 ≤ 57))) ⟨S3, u2o, rfl, (((Ext.refl S0 w0).trans z2).trans z3), p3, u2p⟩
 ·
  rw [decide_eq_false h5]
  refine Goes.rn 6 [(6, undef), (7, undef), (8, undef), (9, .bool false), (1, .bool false)] J8a ?_
  obtain rfl := Option.some.inj h
  have p2 := (p2.fr 0).fr 1
  exact Goes.rt Tryd.f106 (.bool false) ⟨S2, u7, rfl, ((Ext.refl S0 w0).trans z2), p2, u8⟩

def Q71 := sub [1, 1, 1, 1, 1, 1] B94
def J8d : List Item := [.code Q71]
def Q72 := sub [1, 1, 1, 1, 1, 0, 1] B94
def J8e : List Item := .code Q72 :: J8d
def Q73 := sub [1, 1, 1, 1, 1, 0, 1, 0, 1] B94
def J8f : List Item := .code Q73 :: J8d
def Q74 := sub [1, 1, 1, 1, 1, 0, 1, 0, 0] B94
def J8g : List Item := .inRegion (opsOf Q74) [2, 3, 4, 5, 6, 7] :: J8f
def J8h : List Item := .inRegion (opsOf Q73) [0, 1, 2, 3, 4, 5, 6, 7] :: J8d
def J8i : List Item := .inRegion (opsOf Q73) [3, 4, 5, 6, 7] :: J8d
def J8j : List Item := .inRegion (opsOf Q73) [7] :: J8d
def Q75 := sub [1, 1, 1, 1, 1, 1, 1] B94
def J8k : List Item := [.code Q75]

def Post.z10 (gx0 : Nat) (r : Int × T68) (v : Value) (w' : World) : Prop :=
 ∃ S' u0, v = .i r.1 ∧ Ext S0 w0 S' w' ∧ Hp nz wz S' w' ((some gx0, .row 69 [.string r.2.s, .i r.2.at_, .i r.2.deep, u0] 4 0) :: Lr) ∧ PtO kT72 S' w' u0 r.2.bad

def L.z11 (gx0 : Nat) : Int × Bool × T68 → (Int × T68) → Prop := fun ⟨x4, x25, e0v⟩ r => ∀ S1 w1, Ext S0 w0 S1 w1 → ∀ gx1 u0 (_ : Hp nz wz S1 w1 ((some gx1, .row 66 [(pt gx0 0)] 1 0) :: (some gx0, .row 69 [.string e0v.s, .i e0v.at_, .i e0v.deep, u0] 4 0) :: Lr)) (_ : PtO kT72 S1 w1 u0 e0v.bad) (junk : Nat → Value),
 Goes Tryd.prog (base 94) J8e ⟨lfr 41 [(1, (pt gx1 0)), (4, .i x4), (25, .bool x25)] junk, []⟩ w1 (Done Tryd.prog 94 (Rets (Post.z10 nz wz S0 w0 Lr gx0 r)))

theorem W.z11 {nz wz S0 w0 Lr} [Gw nz wz] (gx0 : Nat) : ∀ a r, M.syntax_parser_number_l0 a = some r → L.z11 nz wz S0 w0 Lr gx0 a r := by
 intro ⟨x4, x25, e0v⟩ r h S1 w1 hx gx1 u0 p1 u1 junk
 rw [M.syntax_parser_number_l0] at h
 try dsimp only at h
 refine ite_some h (fun h13 h => ?_) (fun h13 h => ?_)
 ·
  rw [h13]
  refine Goes.rn 5 [(26, .i x4), (27, .i (wr .i64 (10 * x4)))] J8g ?_
  refine Goes.ld 66 (.tmp 1) 28 66 ⟨gx1, 0, none⟩ ((pt gx0 0)) (p1.c 0 0) ?_
  have p1 := p1.fr 1
  refine bind_some' h fun y14 e15 h => ?_
  refine Goes.cal (kc 65 [28] #[66]) 29 5 65 _ (W.z0 e0v y14 e15 gx0 u0 p1 u1) ?_
  rintro _ w7 ⟨S7, u65, rfl, z7, p7, u66⟩
  refine Goes.rn 6 [(30, .int .u8 (wr .u8 (y14.1 - 48))), (31, .i (wr .i64 (wr .u8 (y14.1 - 48)))), (32, .i (wr .i64 ((wr .i64 (10 * x4)) + (wr .i64 (wr .u8 (y14.1 - 48)))))), (4, .i (wr .i64 ((wr .i64 (10 * x4)) + (wr .i64 (wr .u8 (y14.1 - 48))))))] J8h ?_
  refine Goes.ld 66 (.tmp 1) 33 66 ⟨gx1, 0, none⟩ ((pt gx0 0)) (p7.c 1 0) ?_
  refine Goes.rn 2 [(34, (pt gx0 0)), (35, (pt gx0 1))] J8i ?_
  refine Goes.ld 3 (.tmp 35) 36 3 ⟨gx0, 1, none⟩ (.i y14.2.at_) (p7.c 0 1) ?_
  refine Goes.rn 3 [(37, .i (wr .i64 (y14.2.at_ + 1))), (38, (pt gx0 0)), (39, (pt gx0 1))] J8j ?_
  refine Op_.st 3 (.tmp 39) (.tmp 37) 0 0 gx0 1 (.i (wr .i64 (y14.2.at_ + 1))) [.i (wr .i64 (y14.2.at_ + 1))] p7 rfl Goes.s (by kernel_rfl) (by kernel_rfl) (by kernel_rfl) (by kernel_rfl) (Nat.zero_le _) (by simp only [List.length_cons, List.length_nil]; omega) (by simp [Value.oneCell']) ?_
  intro w8 z8 p8
  have p8 : Hp nz wz S7 w8 ((some gx0, .row 69 [.string y14.2.s, .i (wr .i64 (y14.2.at_ + 1)), .i y14.2.deep, u65] 4 0) :: (some gx1, .row 66 [(pt gx0 0)] 1 0) :: Lr) := p8
  refine Goes.rn 6 [(40, .i (wr .i64 ((wr .i64 (10 * x4)) + (wr .i64 (wr .u8 (y14.1 - 48)))))), (2, .i (wr .i64 ((wr .i64 (10 * x4)) + (wr .i64 (wr .u8 (y14.1 - 48))))))] J8k ?_
  obtain rfl := Option.some.inj h
  have p8 := p8.dp 1
  exact Goes.rt Tryd.f94 (.i (wr .i64 ((wr .i64 (10 * x4)) + (wr .i64 (wr .u8 (y14.1 - 48)))))) ⟨S7, u65, rfl, ((hx.trans z7).trans z8), p8, (u66.ext z8)⟩
 ·
  have u67 : x25 = false := by simpa using h13
  rw [u67]
  refine Goes.rn 7 [(40, .i x4), (2, .i x4)] J8k ?_
  obtain rfl := Option.some.inj h
  have p1 := p1.dp 0
  exact Goes.rt Tryd.f94 (.i x4) ⟨S1, u0, rfl, hx, p1, u1⟩

def Q76 := sub [1] B94
def J8l : List Item := [.code Q76]
def Q77 := sub [0] B94
def J8m : List Item := .inRegion (opsOf Q77) [0, 1] :: J8l
def Q78 := sub [1, 1, 1] B94
def J8n : List Item := [.code Q78]
def Q79 := sub [1, 1, 0, 1] B94
def J8o : List Item := .code Q79 :: J8n
def Q7a := sub [1, 1, 0, 0] B94
def J8p : List Item := .inRegion (opsOf Q7a) [1, 2] :: J8o
def Q7b := sub [1, 1, 1, 1] B94
def J8q : List Item := [.code Q7b]
def Q7c := sub [1, 1, 1, 0] B94
def J8r : List Item := .inRegion (opsOf Q7c) [0, 1, 2, 3, 4] :: J8q
def Q7d := sub [1, 1, 1, 1, 1] B94
def J8s : List Item := [.code Q7d]
def Q7e := sub [1, 1, 1, 1, 0] B94
def J8t : List Item := .inRegion (opsOf Q7e) [0, 1, 2, 3, 4, 5, 6, 7] :: J8s
def J8u : List Item := .inRegion (opsOf Q7e) [3, 4, 5, 6, 7] :: J8s
def J8v : List Item := .inRegion (opsOf Q7e) [7] :: J8s
def Q7f := sub [1, 1, 1, 1, 1, 0, 0] B94
def J8w : List Item := .inRegion (opsOf Q7f) [3, 4, 5] :: J8e
def J8x : List Item := .inRegion (opsOf Q7f) [4, 5] :: J8e
def Q7g := sub [1, 1, 0, 1, 0, 1] B94
def J8y : List Item := .code Q7g :: J8n

theorem W.z10 (x0v : T68) (r : Int × T68) (h : M.syntax_parser_number x0v = some r) {nz wz S0 w0 Lr} [Gw nz wz] (gx0 u2) (p0 : Hp nz wz S0 w0 ((some gx0, .row 69 [.string x0v.s, .i x0v.at_, .i x0v.deep, u2] 4 0) :: Lr)) (u3 : PtO kT72 S0 w0 u2 x0v.bad) :
  Calls Tryd.prog 94 #[(pt gx0 0)] w0 (Rets (Post.z10 nz wz S0 w0 Lr gx0 r)) := by
 refine calls_of_goes (fn := Tryd.f94) (c := B94) (by kernel_rfl) (by kernel_rfl) 40 (by kernel_rfl) ?_
 refine Goes.jp 41 [(0, (pt gx0 0))] (fun junk => ?_)
 delta M.syntax_parser_number at h
 refine Goes.rn 2 [] J8m ?_
 refine Op_.box 66 (.tmp 0) 1 0 ((pt gx0 0)) [(pt gx0 0)] p0 Goes.v (by kernel_rfl) (by kernel_rfl) ?_
 intro b2 w2 z2 p2
 refine Goes.rn 11 [(2, .i 0), (5, .func (.func 106) #[] #[(pt b2 0)]), (3, .func (.func 106) #[] #[(pt b2 0)]), (6, .func (.func 106) #[] #[(pt b2 0)])] J8p ?_
 refine bind_some' h fun y4 e5 h => ?_
 refine Goes.cal (.call { callee := .value (.tmp 6), args := #[], argTypes := #[] }) 7 4 106 _ (W.zz x0v y4 e5 b2 gx0 u2 p2 (u3.ext z2)) ?_
 rintro _ w3 ⟨S3, u68, rfl, z3, p3, u69⟩
 refine Goes.rn 2 [(8, .bool (!y4.1))] J8o ?_
 refine ite_some h (fun h6 h => ?_) (fun h6 h => ?_)
 ·
  rw [h6]
  refine Goes.rn 4 [] J8r ?_
  refine Goes.ld 66 (.tmp 1) 9 66 ⟨b2, 0, none⟩ ((pt gx0 0)) (p3.c 0 0) ?_
  have p3 := p3.fr 1
  refine bind_some' h fun y7 e8 h => ?_
  refine Goes.cal (kc 65 [9] #[66]) 10 5 65 _ (W.z0 y4.2 y7 e8 gx0 u68 p3 u69) ?_
  rintro _ w4 ⟨S4, u28, rfl, z4, p4, u2b⟩
  refine Goes.rn 6 [(11, .int .u8 (wr .u8 (y7.1 - 48))), (12, .i (wr .i64 (wr .u8 (y7.1 - 48)))), (4, .i (wr .i64 (wr .u8 (y7.1 - 48))))] J8t ?_
  refine Goes.ld 66 (.tmp 1) 13 66 ⟨b2, 0, none⟩ ((pt gx0 0)) (p4.c 1 0) ?_
  refine Goes.rn 2 [(14, (pt gx0 0)), (15, (pt gx0 1))] J8u ?_
  refine Goes.ld 3 (.tmp 15) 16 3 ⟨gx0, 1, none⟩ (.i y7.2.at_) (p4.c 0 1) ?_
  refine Goes.rn 3 [(17, .i (wr .i64 (y7.2.at_ + 1))), (18, (pt gx0 0)), (19, (pt gx0 1))] J8v ?_
  refine Op_.st 3 (.tmp 19) (.tmp 17) 0 0 gx0 1 (.i (wr .i64 (y7.2.at_ + 1))) [.i (wr .i64 (y7.2.at_ + 1))] p4 rfl Goes.s (by kernel_rfl) (by kernel_rfl) (by kernel_rfl) (by kernel_rfl) (Nat.zero_le _) (by simp only [List.length_cons, List.length_nil]; omega) (by simp [Value.oneCell']) ?_
  intro w5 z5 p5
  have p5 : Hp nz wz S4 w5 ((some gx0, .row 69 [.string y7.2.s, .i (wr .i64 (y7.2.at_ + 1)), .i y7.2.deep, u28] 4 0) :: (some b2, .row 66 [(pt gx0 0)] 1 0) :: Lr) := p5
  refine Goes.rn 7 [(20, .i (wr .i64 (wr .u8 (y7.1 - 48)))), (21, .bool (decide (wr .i64 (wr .u8 (y7.1 - 48)) > 0))), (22, .bool (decide (wr .i64 (wr .u8 (y7.1 - 48)) > 0)))] J8w ?_
  refine ite_some h (fun h9 h => ?_) (fun h9 h => ?_)
  ·
   rw [decide_eq_true h9]
   refine Goes.rn 1 [(23, .func (.func 106) #[] #[(pt b2 0)])] J8x ?_
   have p5 := (p5.fr 0).fr 1
   refine bind_some' h fun y10 e11 h => ?_
   refine Goes.cal (.call { callee := .value (.tmp 23), args := #[], argTypes := #[] }) 24 4 106 _ (W.zz (⟨y7.2.s, wr .i64 (y7.2.at_ + 1), y7.2.deep, y7.2.bad⟩ : T68) y10 e11 b2 gx0 u28 p5 (u2b.ext z5)) ?_
   rintro _ w6 ⟨S6, u6a, rfl, z6, p6, u6b⟩
   refine Goes.rn 2 [(25, .bool y10.1)] J8e ?_
   exact Goes.jp 41 [(1, (pt b2 0)), (4, .i (wr .i64 (wr .u8 (y7.1 - 48)))), (25, .bool y10.1)] (W.z11 gx0 _ _ h _ _ ((((((Ext.refl S0 w0).trans z2).trans z3).trans z4).trans z5).trans z6) b2 u6a p6 u6b)
  ·
   rw [decide_eq_false h9]
   refine Goes.rn 4 [(23, undef), (24, undef), (25, .bool false)] J8e ?_
   have p5 := (p5.fr 0).fr 1
   exact Goes.jp 41 [(1, (pt b2 0)), (4, .i (wr .i64 (wr .u8 (y7.1 - 48)))), (25, .bool false)] (W.z11 gx0 _ _ h _ _ (((((Ext.refl S0 w0).trans z2).trans z3).trans z4).trans z5) b2 u28 p5 (u2b.ext z5))
 ·
  have h6' : y4.1 = false := by simpa using h6
  rw [h6']
  refine Goes.rn 5 [(2, .i (-1))] J8y ?_
  obtain rfl := Option.some.inj h
  have p3 := p3.dp 0
  exact Goes.rt Tryd.f94 (.i (-1)) ⟨S3, u68, rfl, (((Ext.refl S0 w0).trans z2).trans z3), p3, u69⟩

end

end Go.Gx
