import Derived.Test.YtemokppdnkiejaaDoorMPr

import Derived.Test.YtemokppdnkiejaaDoorGG

import Derived.Test.YtemokppdnkiejaaDoorHI

import Derived.Test.YtemokppdnkiejaaDoorProg

set_option linter.unusedVariables false

set_option maxRecDepth 100000

set_option maxHeartbeats 4000000

namespace Go.Gx

open Go.RowKit Go.Proofs

variable (nz : Nat) (wz : World) (S0 : Fz) (w0 : World) (Lr : List Ent)

noncomputable section

def kT48 : Kd T48 := kMap (fun s => (s.Op, s.Set, s.X, s.Y)) (kProd (kInt .i64) (kProd (kArr 4 (kInt .u64)) (kProd (kInt .i64) (kInt .i64))))

def kT27_f (K : Kd T27) : Kd T27 := kMap (fun s => (s.Kind, s.Set, s.L, s.Min, s.Max)) (kProd (kInt .i64) (kProd (kArr 4 (kInt .u64)) (kProd (kSl K) (kProd (kInt .i64) (kInt .i64)))))

theorem kT27_c : Kc kT27_f := Kc.map _ (Kc.prod (Kc.const _) (Kc.prod (Kc.const _) (Kc.prod (Kc.sl Kc.id) (Kc.prod (Kc.const _) (Kc.const _)))))

def kT27 : Kd T27 := kFix kT27_f 8 kT27_c (fun _ => rfl)

theorem kT27_open {S w vs x} (h : kT27.rep S w vs x) : (kT27_f kT27).rep S w vs x := kFix_open kT27_c _ h

theorem kT27_close {S w vs x} (h : (kT27_f kT27).rep S w vs x) : kT27.rep S w vs x := kFix_close kT27_c _ h

def kT72 : Kd T72 := kMap (fun s => s.at_) (kInt .i64)

def kT68 : Kd T68 := kMap (fun s => (s.s, s.at_, s.deep, s.bad)) (kProd kStr (kProd (kInt .i64) (kProd (kInt .i64) (kPtr kT72))))

def kT126 : Kd T126 := kMap (fun s => (s.set_, s.b, s.single)) (kProd (kArr 4 (kInt .u64)) (kProd (kInt .u8) kBool))

def kT77 : Kd T77 := kMap (fun s => s.l) (kSl kT48)

def kC98 (gw : Nat) : Kd (T27 ⊕ T27 ⊕ (Int × T27)) := (kSum (kFn 71 (kMap (fun (y : T27) => ((), y)) (kProd (kFixW gw) (kBox kT27)))) (kSum (kFn 85 (kMap (fun (y : T27) => ((), y)) (kProd (kFixW gw) (kBox kT27)))) (kFn 86 (kMap (fun (y : Int × T27) => ((), y.1, y.2)) (kProd (kFixW gw) (kProd (kBox (kInt .i64)) (kBox kT27))))) rfl) rfl)

def kT99 (gw : Nat) : Kd T99 := kMap (fun s => (s.n, s.code)) (kProd (kInt .i64) (kC98 gw))

class Gw (nz : Nat) (wz : World) : Prop where
 g2 : Tab nz wz 2 .u64 tb2

noncomputable def B5 : Code := (Tryd.f5.body).getD .skip

noncomputable def B6 : Code := (Tryd.f6.body).getD .skip

noncomputable def B11 : Code := (Tryd.f11.body).getD .skip

noncomputable def B15 : Code := (Tryd.f15.body).getD .skip

noncomputable def B17 : Code := (Tryd.f17.body).getD .skip

noncomputable def B20 : Code := (Tryd.f20.body).getD .skip

noncomputable def B21 : Code := (Tryd.f21.body).getD .skip

noncomputable def B22 : Code := (Tryd.f22.body).getD .skip

noncomputable def B23 : Code := (Tryd.f23.body).getD .skip

noncomputable def B24 : Code := (Tryd.f24.body).getD .skip

noncomputable def B27 : Code := (Tryd.f27.body).getD .skip

noncomputable def B28 : Code := (Tryd.f28.body).getD .skip

noncomputable def B30 : Code := (Tryd.f30.body).getD .skip

noncomputable def B31 : Code := (Tryd.f31.body).getD .skip

noncomputable def B32 : Code := (Tryd.f32.body).getD .skip

noncomputable def B35 : Code := (Tryd.f35.body).getD .skip

noncomputable def B36 : Code := (Tryd.f36.body).getD .skip

noncomputable def B38 : Code := (Tryd.f38.body).getD .skip

noncomputable def B41 : Code := (Tryd.f41.body).getD .skip

noncomputable def B42 : Code := (Tryd.f42.body).getD .skip

noncomputable def B43 : Code := (Tryd.f43.body).getD .skip

noncomputable def B44 : Code := (Tryd.f44.body).getD .skip

noncomputable def B45 : Code := (Tryd.f45.body).getD .skip

noncomputable def B46 : Code := (Tryd.f46.body).getD .skip

noncomputable def B47 : Code := (Tryd.f47.body).getD .skip

noncomputable def B48 : Code := (Tryd.f48.body).getD .skip

noncomputable def B49 : Code := (Tryd.f49.body).getD .skip

noncomputable def B50 : Code := (Tryd.f50.body).getD .skip

noncomputable def B53 : Code := (Tryd.f53.body).getD .skip

noncomputable def B54 : Code := (Tryd.f54.body).getD .skip

noncomputable def B55 : Code := (Tryd.f55.body).getD .skip

noncomputable def B56 : Code := (Tryd.f56.body).getD .skip

noncomputable def B59 : Code := (Tryd.f59.body).getD .skip

noncomputable def B61 : Code := (Tryd.f61.body).getD .skip

noncomputable def B62 : Code := (Tryd.f62.body).getD .skip

noncomputable def B63 : Code := (Tryd.f63.body).getD .skip

noncomputable def B65 : Code := (Tryd.f65.body).getD .skip

noncomputable def B66 : Code := (Tryd.f66.body).getD .skip

noncomputable def B67 : Code := (Tryd.f67.body).getD .skip

noncomputable def B68 : Code := (Tryd.f68.body).getD .skip

noncomputable def B71 : Code := (Tryd.f71.body).getD .skip

noncomputable def B72 : Code := (Tryd.f72.body).getD .skip

noncomputable def B73 : Code := (Tryd.f73.body).getD .skip

noncomputable def B76 : Code := (Tryd.f76.body).getD .skip

noncomputable def B78 : Code := (Tryd.f78.body).getD .skip

noncomputable def B79 : Code := (Tryd.f79.body).getD .skip

noncomputable def B80 : Code := (Tryd.f80.body).getD .skip

noncomputable def B85 : Code := (Tryd.f85.body).getD .skip

noncomputable def B86 : Code := (Tryd.f86.body).getD .skip

noncomputable def B89 : Code := (Tryd.f89.body).getD .skip

noncomputable def B90 : Code := (Tryd.f90.body).getD .skip

noncomputable def B91 : Code := (Tryd.f91.body).getD .skip

noncomputable def B92 : Code := (Tryd.f92.body).getD .skip

noncomputable def B93 : Code := (Tryd.f93.body).getD .skip

noncomputable def B94 : Code := (Tryd.f94.body).getD .skip

noncomputable def B95 : Code := (Tryd.f95.body).getD .skip

noncomputable def B101 : Code := (Tryd.f101.body).getD .skip

noncomputable def B102 : Code := (Tryd.f102.body).getD .skip

noncomputable def B103 : Code := (Tryd.f103.body).getD .skip

noncomputable def B104 : Code := (Tryd.f104.body).getD .skip

noncomputable def B105 : Code := (Tryd.f105.body).getD .skip

noncomputable def B106 : Code := (Tryd.f106.body).getD .skip

noncomputable def B111 : Code := (Tryd.f111.body).getD .skip

noncomputable def B112 : Code := (Tryd.f112.body).getD .skip

noncomputable def B113 : Code := (Tryd.f113.body).getD .skip

noncomputable def B114 : Code := (Tryd.f114.body).getD .skip

noncomputable def B120 : Code := (Tryd.f120.body).getD .skip

noncomputable def B121 : Code := (Tryd.f121.body).getD .skip

def Q0 := sub [1, 1] B62
def J0 : List Item := [.code Q0]
def Q1 := sub [1, 0] B62
def J1 : List Item := .inRegion (opsOf Q1) [3, 4, 5, 6, 7] :: J0
def J2 : List Item := .inRegion (opsOf Q1) [4, 5, 6, 7] :: J0

def Post.z0 (gx1 : Nat) (u0 : Int) (r : Bool) (v : Value) (w' : World) : Prop :=
 ∃ S', v = .bool r ∧ Ext S0 w0 S' w' ∧ Hp nz wz S' w' ((some gx1, .row 3 [.i u0] 1 0) :: Lr)

theorem W.z0 (x0 : Int) (u0 : Int) (r : Bool) (h : M.prog_right_1 x0 u0 = some r) {nz wz S0 w0 Lr} [Gw nz wz] (gx1) (p0 : Hp nz wz S0 w0 ((some gx1, .row 3 [.i u0] 1 0) :: Lr)) :
  Calls Tryd.prog 62 #[.i x0, (pt gx1 0)] w0 (Rets (Post.z0 nz wz S0 w0 Lr gx1 u0 r)) := by
 refine calls_of_goes (fn := Tryd.f62) (c := B62) (by kernel_rfl) (by kernel_rfl) 9 (by kernel_rfl) ?_
 refine Goes.jp 11 [(0, .i x0), (1, (pt gx1 0))] (fun junk => ?_)
 delta M.prog_right_1 at h
 refine Goes.rn 9 [(3, .bool false), (4, .i x0), (5, .bool (decide (x0 ≥ 0))), (6, .bool (decide (x0 ≥ 0)))] J1 ?_
 refine ite_some h (fun h2 h => ?_) (fun h2 h => ?_)
 ·
  rw [decide_eq_true h2]
  refine Goes.rn 1 [(7, .i x0)] J2 ?_
  refine Goes.ld 3 (.tmp 1) 8 3 ⟨gx1, 0, none⟩ (.i u0) (p0.c 0 0) ?_
  refine Goes.rn 4 [(9, .bool (decide (x0 < u0))), (10, .bool (decide (x0 < u0))), (3, .bool (decide (x0 < u0)))] J0 ?_
  obtain rfl := Option.some.inj h
  exact Goes.rt Tryd.f62 (.bool (decide (x0 < u0))) ⟨S0, rfl, (Ext.refl S0 w0), p0⟩
 ·
  rw [decide_eq_false h2]
  refine Goes.rn 6 [(7, undef), (8, undef), (9, undef), (10, .bool false), (3, .bool false)] J0 ?_
  obtain rfl := Option.some.inj h
  exact Goes.rt Tryd.f62 (.bool false) ⟨S0, rfl, (Ext.refl S0 w0), p0⟩

def Q2 := sub [1] B44
def J3 : List Item := [.code Q2]
def Q3 := sub [0] B44
def J4 : List Item := .inRegion (opsOf Q3) [0, 1, 2] :: J3
def Q4 := sub [1, 1, 1] B44
def J5 : List Item := [.code Q4]
def Q5 := sub [1, 1, 0] B44
def J6 : List Item := .inRegion (opsOf Q5) [1, 2, 3, 4] :: J5
def J7 : List Item := .inRegion (opsOf Q5) [3, 4] :: J5
def Q6 := sub [1, 1, 1, 1] B44
def J8 : List Item := [.code Q6]
def Q7 := sub [1, 1, 1, 0, 1] B44
def J9 : List Item := .code Q7 :: J8
def Q8 := sub [1, 1, 1, 0, 0] B44
def Ja : List Item := .inRegion (opsOf Q8) [1] :: J9
def Jb : List Item := .inBlock 0 :: J8
def Q9 := sub [1, 1, 1, 0, 1, 0, 1] B44
def Jc : List Item := .code Q9 :: Jb
def Qa := sub [1, 1, 1, 0, 1, 0, 1, 0, 1] B44
def Jd : List Item := .code Qa :: Jb
def Qb := sub [1, 1, 1, 0, 1, 0, 1, 0, 0] B44
def Je : List Item := .inRegion (opsOf Qb) [2, 3, 4, 5, 6, 7, 8, 9] :: Jd
def Jf : List Item := .inRegion (opsOf Qb) [5, 6, 7, 8, 9] :: Jd
def Jg : List Item := .inRegion (opsOf Qb) [6, 7, 8, 9] :: Jd
def Qc := sub [1, 1, 1, 0, 1, 0, 1, 1, 1] B44
def Jh : List Item := .code Qc :: Jb
def Qd := sub [1, 1, 1, 0, 1, 0, 1, 1, 1, 0, 1] B44
def Ji : List Item := .code Qd :: Jb
def Qe := sub [1, 1, 1, 0, 1, 0, 1, 1, 1, 0, 0] B44
def Jj : List Item := .inRegion (opsOf Qe) [2, 3, 4, 5, 6, 7, 8, 9, 10, 11, 12, 13] :: Ji
def Jk : List Item := .inRegion (opsOf Qe) [4, 5, 6, 7, 8, 9, 10, 11, 12, 13] :: Ji
def Jl : List Item := .inRegion (opsOf Qe) [8, 9, 10, 11, 12, 13] :: Ji
def Jm : List Item := .inRegion (opsOf Qe) [10, 11, 12, 13] :: Ji
def Qf := sub [1, 1, 1, 0, 1, 0, 1, 1, 1, 1, 1] B44
def Jn : List Item := .code Qf :: Jb
def Qg := sub [1, 1, 1, 0, 1, 0, 1, 1, 1, 1, 1, 0, 1] B44
def Jo : List Item := .code Qg :: Jb
def Qh := sub [1, 1, 1, 0, 1, 0, 1, 1, 1, 1, 1, 0, 0] B44
def Jp : List Item := .inRegion (opsOf Qh) [2, 3, 4, 5, 6, 7, 8, 9, 10, 11, 12] :: Jo
def Jq : List Item := .inRegion (opsOf Qh) [4, 5, 6, 7, 8, 9, 10, 11, 12] :: Jo
def Jr : List Item := .inRegion (opsOf Qh) [8, 9, 10, 11, 12] :: Jo
def Js : List Item := .inRegion (opsOf Qh) [9, 10, 11, 12] :: Jo
def Qi := sub [1, 1, 1, 0, 1, 0, 1, 1, 1, 1, 1, 1, 1] B44
def Jt : List Item := .code Qi :: Jb
def Qj := sub [1, 1, 1, 0, 1, 0, 1, 1, 1, 1, 1, 1, 1, 0, 1] B44
def Ju : List Item := .code Qj :: Jb
def Qk := sub [1, 1, 1, 0, 1, 0, 1, 1, 1, 1, 1, 1, 1, 0, 0] B44
def Jv : List Item := .inRegion (opsOf Qk) [2, 3, 4, 5, 6, 7, 8, 9, 10, 11] :: Ju
def Jw : List Item := .inRegion (opsOf Qk) [3, 4, 5, 6, 7, 8, 9, 10, 11] :: Ju
def Jx : List Item := .inRegion (opsOf Qk) [7, 8, 9, 10, 11] :: Ju
def Jy : List Item := .inRegion (opsOf Qk) [8, 9, 10, 11] :: Ju
def Ql := sub [1, 1, 1, 1, 1] B44
def Jz : List Item := [.code Ql]

def Post.z1 (r : Bool) (v : Value) (w' : World) : Prop :=
 ∃ S', v = .bool r ∧ Ext S0 w0 S' w' ∧ Hp nz wz S' w' (Lr)

theorem W.z1 (x0 : T48) (x1 : Int) (r : Bool) (h : M.prog_right x0 x1 = some r) {nz wz S0 w0 Lr} [Gw nz wz] (p0 : Hp nz wz S0 w0 (Lr)) (u1 : x0.Set.length = 4) :
  Calls Tryd.prog 44 #[(ag (.i x0.Op :: U4 x0.Set [.i x0.X, .i x0.Y])), .i x1] w0 (Rets (Post.z1 nz wz S0 w0 Lr r)) := by
 refine calls_of_goes (fn := Tryd.f44) (c := B44) (by kernel_rfl) (by kernel_rfl) 65 (by kernel_rfl) ?_
 refine Goes.jp 67 [(0, (ag (.i x0.Op :: U4 x0.Set [.i x0.X, .i x0.Y]))), (1, .i x1)] (fun junk => ?_)
 delta M.prog_right at h
 refine Goes.rn 2 [] J4 ?_
 refine Op_.box 49 (.tmp 0) 2 0 (ag (.i x0.Op :: U4 x0.Set [.i x0.X, .i x0.Y])) (.i x0.Op :: U4 x0.Set [.i x0.X, .i x0.Y]) p0 Goes.v (by kernel_rfl) (by kernel_rfl) ?_
 intro b1 w2 z2 p2
 refine Op_.box 3 (.tmp 1) 3 0 (.i x1) [.i x1] p2 Goes.v (by kernel_rfl) (by kernel_rfl) ?_
 intro b3 w3 z3 p3
 refine Goes.rn 10 [(4, .bool false), (7, .func (.func 62) #[] #[(pt b3 0)]), (5, .func (.func 62) #[] #[(pt b3 0)]), (8, (pt b1 1))] J6 ?_
 refine Goes.ldN 25 (.tmp 8) 9 25 ⟨b1, 1, none⟩ (U4 x0.Set []) (p3.pa 1 1) ?_
 refine Goes.rn 1 [(10, .agg #[.u 0, .u 0, .u 0, .u 0])] J7 ?_
 refine Op_.eqA 25 (.tmp 9) (.tmp 10) 25 11 4 23 4 .u64 (us := ((U4 x0.Set []) : List Value)) (vs := ([.u 0, .u 0, .u 0, .u 0] : List Value)) Goes.v (by kernel_rfl) (by kernel_rfl) (by kernel_rfl) (by kernel_rfl) (by kernel_rfl) (by kernel_rfl) (by kernel_rfl) (els_mk4 (S := S0) (w := w3) (k := .u64) u1) (show Els (kInt .u64) S0 w3 ([.u 0, .u 0, .u 0, .u 0] : List Value) _ from (Els.cons (K := (kInt .u64)) (vs := [.u 0]) (x := 0) rfl (Els.cons (K := (kInt .u64)) (vs := [.u 0]) (x := 0) rfl (Els.cons (K := (kInt .u64)) (vs := [.u 0]) (x := 0) rfl (Els.cons (K := (kInt .u64)) (vs := [.u 0]) (x := 0) rfl Els.nil))))) (Els.len1 (els_mk4 (S := S0) (w := w3) (k := .u64) u1) rfl rfl) (Els.len1 (show Els (kInt .u64) S0 w3 ([.u 0, .u 0, .u 0, .u 0] : List Value) _ from (Els.cons (K := (kInt .u64)) (vs := [.u 0]) (x := 0) rfl (Els.cons (K := (kInt .u64)) (vs := [.u 0]) (x := 0) rfl (Els.cons (K := (kInt .u64)) (vs := [.u 0]) (x := 0) rfl (Els.cons (K := (kInt .u64)) (vs := [.u 0]) (x := 0) rfl Els.nil))))) rfl rfl) ?_
 refine Goes.rn 6 [(6, .bool (decide (x0.Set = [0, 0, 0, 0]))), (12, (pt b1 0))] Ja ?_
 refine Goes.ld 3 (.tmp 12) 13 3 ⟨b1, 0, none⟩ (.i x0.Op) (p3.c 1 0) ?_
 refine Goes.rn 7 [(15, .bool (decide (x0.Op = 1))), (14, .bool (decide (x0.Op = 1)))] Jc ?_
 refine ite_some h (fun h5 h => ?_) (fun h5 h => ?_)
 ·
  rw [decide_eq_true h5]
  refine Goes.rn 5 [(16, .func (.func 62) #[] #[(pt b3 0)]), (17, (pt b1 5))] Je ?_
  refine Goes.ld 3 (.tmp 17) 18 3 ⟨b1, 5, none⟩ (.i x0.X) (p3.c 1 5) ?_
  refine bind_some' h fun y6 e7 h => ?_
  refine Goes.cal (.call { callee := .value (.tmp 16), args := #[(.tmp 18)], argTypes := #[3] }) 19 4 62 _ (W.z0 x0.X x1 y6 e7 b3 p3 ) ?_
  rintro _ w4 ⟨S4, rfl, z4, p4⟩
  have p4 := p4.dp 0
  refine Goes.rn 1 [(20, .bool y6)] Jf ?_
  refine ite_some h (fun h8 h => ?_) (fun h8 h => ?_)
  ·
   rw [h8]
   refine Goes.rn 1 [(21, (pt b1 6))] Jg ?_
   refine Goes.ld 3 (.tmp 21) 22 3 ⟨b1, 6, none⟩ (.i x0.Y) (p4.c 0 6) ?_
   refine Goes.rn 4 [(23, .bool (decide (x0.Y = 0))), (24, .bool (decide (x0.Y = 0))), (4, .bool (decide (x0.Y = 0)))] Jd ?_
   obtain rfl := Option.some.inj h
   have p4 := p4.dp 0
   exact Goes.rt Tryd.f44 (.bool (decide (x0.Y = 0))) ⟨S4, rfl, ((((Ext.refl S0 w0).trans z2).trans z3).trans z4), p4⟩
  ·
   have h8' : y6 = false := by simpa using h8
   rw [h8']
   refine Goes.rn 6 [(21, undef), (22, undef), (23, undef), (24, .bool false), (4, .bool false)] Jd ?_
   obtain rfl := Option.some.inj h
   have p4 := p4.dp 0
   exact Goes.rt Tryd.f44 (.bool false) ⟨S4, rfl, ((((Ext.refl S0 w0).trans z2).trans z3).trans z4), p4⟩
 ·
  rw [decide_eq_false h5]
  refine Goes.rn 6 [(26, .bool (decide (x0.Op = 2))), (25, .bool (decide (x0.Op = 2)))] Jh ?_
  refine ite_some h (fun h9 h => ?_) (fun h9 h => ?_)
  ·
   rw [decide_eq_true h9]
   refine Goes.rn 5 [(27, .bool (decide (x0.Set = [0, 0, 0, 0]))), (28, .bool (decide (x0.Set = [0, 0, 0, 0])))] Jj ?_
   refine ite_some h (fun h10 h => ?_) (fun h10 h => ?_)
   ·
    rw [decide_eq_true h10]
    refine Goes.rn 2 [(29, .func (.func 62) #[] #[(pt b3 0)]), (30, (pt b1 5))] Jk ?_
    refine Goes.ld 3 (.tmp 30) 31 3 ⟨b1, 5, none⟩ (.i x0.X) (p3.c 1 5) ?_
    refine bind_some' h fun y11 e12 h => ?_
    refine Goes.cal (.call { callee := .value (.tmp 29), args := #[(.tmp 31)], argTypes := #[3] }) 32 4 62 _ (W.z0 x0.X x1 y11 e12 b3 p3 ) ?_
    rintro _ w5 ⟨S5, rfl, z5, p5⟩
    refine Goes.rn 2 [(33, .bool y11), (34, .bool y11)] Jl ?_
    refine ite_some h (fun h13 h => ?_) (fun h13 h => ?_)
    ·
     rw [h13]
     refine Goes.rn 2 [(35, .func (.func 62) #[] #[(pt b3 0)]), (36, (pt b1 6))] Jm ?_
     refine Goes.ld 3 (.tmp 36) 37 3 ⟨b1, 6, none⟩ (.i x0.Y) (p5.c 1 6) ?_
     refine bind_some' h fun y14 e15 h => ?_
     refine Goes.cal (.call { callee := .value (.tmp 35), args := #[(.tmp 37)], argTypes := #[3] }) 38 4 62 _ (W.z0 x0.Y x1 y14 e15 b3 p5 ) ?_
     rintro _ w6 ⟨S6, rfl, z6, p6⟩
     have p6 := (p6.dp 0).dp 0
     refine Goes.rn 3 [(39, .bool y14), (4, .bool y14)] Ji ?_
     obtain rfl := Option.some.inj h
     exact Goes.rt Tryd.f44 (.bool y14) ⟨S6, rfl, (((((Ext.refl S0 w0).trans z2).trans z3).trans z5).trans z6), p6⟩
    ·
     have u2 : y11 = false := by simpa using h13
     rw [u2]
     refine Goes.rn 7 [(35, undef), (36, undef), (37, undef), (38, undef), (39, .bool false), (4, .bool false)] Ji ?_
     obtain rfl := Option.some.inj h
     have p5 := (p5.dp 0).dp 0
     exact Goes.rt Tryd.f44 (.bool false) ⟨S5, rfl, ((((Ext.refl S0 w0).trans z2).trans z3).trans z5), p5⟩
   ·
    rw [decide_eq_false h10]
    refine Goes.rn 13 [(29, undef), (30, undef), (31, undef), (32, undef), (33, .bool false), (34, .bool false), (35, undef), (36, undef), (37, undef), (38, undef), (39, .bool false), (4, .bool false)] Ji ?_
    obtain rfl := Option.some.inj h
    have p3 := (p3.dp 0).dp 0
    exact Goes.rt Tryd.f44 (.bool false) ⟨S0, rfl, (((Ext.refl S0 w0).trans z2).trans z3), p3⟩
  ·
   rw [decide_eq_false h9]
   refine Goes.rn 6 [(41, .bool (decide (x0.Op = 4))), (40, .bool (decide (x0.Op = 4)))] Jn ?_
   refine ite_some h (fun h16 h => ?_) (fun h16 h => ?_)
   ·
    rw [decide_eq_true h16]
    refine Goes.rn 5 [(42, .bool (decide (x0.Set = [0, 0, 0, 0]))), (43, .bool (decide (x0.Set = [0, 0, 0, 0])))] Jp ?_
    refine ite_some h (fun h17 h => ?_) (fun h17 h => ?_)
    ·
     rw [decide_eq_true h17]
     refine Goes.rn 2 [(44, .func (.func 62) #[] #[(pt b3 0)]), (45, (pt b1 5))] Jq ?_
     refine Goes.ld 3 (.tmp 45) 46 3 ⟨b1, 5, none⟩ (.i x0.X) (p3.c 1 5) ?_
     refine bind_some' h fun y18 e19 h => ?_
     refine Goes.cal (.call { callee := .value (.tmp 44), args := #[(.tmp 46)], argTypes := #[3] }) 47 4 62 _ (W.z0 x0.X x1 y18 e19 b3 p3 ) ?_
     rintro _ w7 ⟨S7, rfl, z7, p7⟩
     have p7 := p7.dp 0
     refine Goes.rn 2 [(48, .bool y18), (49, .bool y18)] Jr ?_
     refine ite_some h (fun h20 h => ?_) (fun h20 h => ?_)
     ·
      rw [h20]
      refine Goes.rn 1 [(50, (pt b1 6))] Js ?_
      refine Goes.ld 3 (.tmp 50) 51 3 ⟨b1, 6, none⟩ (.i x0.Y) (p7.c 0 6) ?_
      refine Goes.rn 4 [(52, .bool (decide (x0.Y = 0))), (53, .bool (decide (x0.Y = 0))), (4, .bool (decide (x0.Y = 0)))] Jo ?_
      obtain rfl := Option.some.inj h
      have p7 := p7.dp 0
      exact Goes.rt Tryd.f44 (.bool (decide (x0.Y = 0))) ⟨S7, rfl, ((((Ext.refl S0 w0).trans z2).trans z3).trans z7), p7⟩
     ·
      have u3 : y18 = false := by simpa using h20
      rw [u3]
      refine Goes.rn 6 [(50, undef), (51, undef), (52, undef), (53, .bool false), (4, .bool false)] Jo ?_
      obtain rfl := Option.some.inj h
      have p7 := p7.dp 0
      exact Goes.rt Tryd.f44 (.bool false) ⟨S7, rfl, ((((Ext.refl S0 w0).trans z2).trans z3).trans z7), p7⟩
    ·
     rw [decide_eq_false h17]
     refine Goes.rn 12 [(44, undef), (45, undef), (46, undef), (47, undef), (48, .bool false), (49, .bool false), (50, undef), (51, undef), (52, undef), (53, .bool false), (4, .bool false)] Jo ?_
     obtain rfl := Option.some.inj h
     have p3 := (p3.dp 0).dp 0
     exact Goes.rt Tryd.f44 (.bool false) ⟨S0, rfl, (((Ext.refl S0 w0).trans z2).trans z3), p3⟩
   ·
    rw [decide_eq_false h16]
    refine Goes.rn 6 [(55, .bool (decide (x0.Op = 3))), (54, .bool (decide (x0.Op = 3)))] Jt ?_
    refine ite_some h (fun h21 h => ?_) (fun h21 h => ?_)
    ·
     rw [decide_eq_true h21]
     refine Goes.rn 5 [(56, .bool (decide (x0.Set = [0, 0, 0, 0]))), (57, .bool (decide (x0.Set = [0, 0, 0, 0])))] Jv ?_
     refine ite_some h (fun h22 h => ?_) (fun h22 h => ?_)
     ·
      rw [decide_eq_true h22]
      refine Goes.rn 1 [(58, (pt b1 5))] Jw ?_
      refine Goes.ld 3 (.tmp 58) 59 3 ⟨b1, 5, none⟩ (.i x0.X) (p3.c 1 5) ?_
      refine Goes.rn 3 [(60, .bool (decide (x0.X = 0))), (61, .bool (decide (x0.X = 0))), (62, .bool (decide (x0.X = 0)))] Jx ?_
      refine ite_some h (fun h23 h => ?_) (fun h23 h => ?_)
      ·
       rw [decide_eq_true h23]
       refine Goes.rn 1 [(63, (pt b1 6))] Jy ?_
       refine Goes.ld 3 (.tmp 63) 64 3 ⟨b1, 6, none⟩ (.i x0.Y) (p3.c 1 6) ?_
       refine Goes.rn 4 [(65, .bool (decide (x0.Y = 0))), (66, .bool (decide (x0.Y = 0))), (4, .bool (decide (x0.Y = 0)))] Ju ?_
       obtain rfl := Option.some.inj h
       have p3 := (p3.dp 0).dp 0
       exact Goes.rt Tryd.f44 (.bool (decide (x0.Y = 0))) ⟨S0, rfl, (((Ext.refl S0 w0).trans z2).trans z3), p3⟩
      ·
       rw [decide_eq_false h23]
       refine Goes.rn 6 [(63, undef), (64, undef), (65, undef), (66, .bool false), (4, .bool false)] Ju ?_
       obtain rfl := Option.some.inj h
       have p3 := (p3.dp 0).dp 0
       exact Goes.rt Tryd.f44 (.bool false) ⟨S0, rfl, (((Ext.refl S0 w0).trans z2).trans z3), p3⟩
     ·
      rw [decide_eq_false h22]
      refine Goes.rn 11 [(58, undef), (59, undef), (60, undef), (61, .bool false), (62, .bool false), (63, undef), (64, undef), (65, undef), (66, .bool false), (4, .bool false)] Ju ?_
      obtain rfl := Option.some.inj h
      have p3 := (p3.dp 0).dp 0
      exact Goes.rt Tryd.f44 (.bool false) ⟨S0, rfl, (((Ext.refl S0 w0).trans z2).trans z3), p3⟩
    ·
     rw [decide_eq_false h21]
     refine Goes.rn 7 [(4, .bool false)] Jz ?_
     obtain rfl := Option.some.inj h
     have p3 := (p3.dp 0).dp 0
     exact Goes.rt Tryd.f44 (.bool false) ⟨S0, rfl, (((Ext.refl S0 w0).trans z2).trans z3), p3⟩

def Qm := sub [1, 1, 1] B23
def J10 : List Item := [.code Qm]
def J11 : List Item := .inBlock 0 :: J10
def Qn := sub [1, 1, 0, 1, 0, 0] B23
def J12 : List Item := .inLoop Qn :: J11
def J13 : List Item := .code Qn :: J12
def Qo := sub [1, 1, 0, 1, 0, 0, 1, 1] B23
def J14 : List Item := .code Qo :: J12
def Qp := sub [1, 1, 0, 1, 0, 0, 1, 0] B23
def J15 : List Item := .code Qp :: J14
def Qq := sub [1, 1, 0, 1, 0, 0, 1, 1, 1] B23
def J16 : List Item := .code Qq :: J12
def J17 : List Item := .inBlock 1 :: J16
def Qr := sub [1, 1, 0, 1, 0, 0, 1, 1, 0, 0, 1] B23
def J18 : List Item := .code Qr :: J17
def Qs := sub [1, 1, 0, 1, 0, 0, 1, 1, 0, 0, 0] B23
def J19 : List Item := .inRegion (opsOf Qs) [0, 1, 2, 3] :: J18
def Qt := sub [1, 1, 0, 1, 0, 0, 1, 1, 0, 0, 1, 1] B23
def J1a : List Item := .code Qt :: J17
def Qu := sub [1, 1, 0, 1, 0, 0, 1, 1, 0, 0, 1, 0] B23
def J1b : List Item := .inRegion (opsOf Qu) [0, 1, 2, 3, 4] :: J1a
def J1c : List Item := .inRegion (opsOf Qu) [3, 4] :: J1a
def Qv := sub [1, 1, 0, 1, 0, 0, 1, 1, 0, 0, 1, 1, 0, 1] B23
def J1d : List Item := .code Qv :: J17
def Qw := sub [1, 1, 1, 1] B23
def J1e : List Item := [.code Qw]

def Post.z2 (r : Int) (v : Value) (w' : World) : Prop :=
 ∃ S', v = .i r ∧ Ext S0 w0 S' w' ∧ Hp nz wz S' w' (Lr)

def L.z3 : (List T48) × (List T48) × Int × Int → Int → Prop := fun ⟨x0, x13, x14, x15⟩ r => ∀ S1 w1, Ext S0 w0 S1 w1 → ∀ Ax0 nx0 cx0 u4 u5 u6 (_ : Hp nz wz S1 w1 (Lr)) (_ : Rd kT48 S1 w1 Ax0 cx0 x0) (_ : x0.length = nx0) (_ : Rd kT48 S1 w1 u4 u6 x13) (_ : x13.length = u5) (junk : Nat → Value),
 Goes Tryd.prog (base 23) J13 ⟨lfr 25 [(0, .slice Ax0 nx0 cx0), (13, .slice u4 u5 u6), (14, .i x14), (15, .i x15)] junk, []⟩ w1 (Done Tryd.prog 23 (Rets (Post.z2 nz wz S0 w0 Lr r)))

theorem W.z3 {nz wz S0 w0 Lr} [Gw nz wz] : ∀ a r, M.prog_Check_l1 a = some r → (L.z3 nz wz S0 w0 Lr) a r := by
 refine M.prog_Check_l1.partial_correctness (motive := (L.z3 nz wz S0 w0 Lr)) ?_
 intro u7 u8 ⟨x0, x13, x14, x15⟩ r h S1 w1 hx Ax0 nx0 cx0 u4 u5 u6 p1 fx0 lx0 u9 ua junk
 try dsimp only at h
 subst lx0
 subst ua
 refine Goes.rn 5 [(16, .bool (decide (x15 < x14)))] J15 ?_
 refine ite_some h (fun h3 h => ?_) (fun h3 h => ?_)
 ·
  rw [decide_eq_true h3]
  refine Goes.rn 6 [] J19 ?_
  refine guard_some' h fun g4 h => ?_
  refine guard_some' h fun g5 h => ?_
  refine Op_.ixR_n 37 (.tmp 13) (.tmp 15) 17 0 49 .i64 x15 (gi x13 x15) rfl rfl u9 Goes.v (by kernel_rfl) (by kernel_rfl) (by kernel_rfl) (by kernel_rfl) g4 g5 ?_
  intro a6 _ f7 q8
  obtain ⟨_, _, rfl, rfl, ⟨_, _, rfl, ⟨l9, f10⟩, ⟨_, _, rfl, rfl, rfl⟩⟩⟩ := q8
  obtain rfl := els_lit4' f10 l9
  refine Goes.ldN 49 (.tmp 17) 18 49 a6 ([.i ((gi x13 x15).Op)] ++ ((U4 ((gi x13 x15).Set) []) ++ ([.i ((gi x13 x15).X)] ++ [.i ((gi x13 x15).Y)]))) (f7.cell) ?_
  refine Op_.alloc 49 4 0 (.agg #[.i 0, .u 0, .u 0, .u 0, .u 0, .i 0, .i 0]) [.i 0, .u 0, .u 0, .u 0, .u 0, .i 0, .i 0] p1 Goes.v (by kernel_rfl) (by kernel_rfl) ?_
  intro b11 w2 z2 p2
  refine Op_.st 49 (.tmp 4) (.tmp 18) 0 0 b11 0 (ag (.i ((gi x13 x15).Op) :: U4 ((gi x13 x15).Set) [.i ((gi x13 x15).X), .i ((gi x13 x15).Y)])) (.i ((gi x13 x15).Op) :: U4 ((gi x13 x15).Set) [.i ((gi x13 x15).X), .i ((gi x13 x15).Y)]) p2 rfl Goes.s (by kernel_rfl) (by kernel_rfl) (by kernel_rfl) (by kernel_rfl) (Nat.zero_le _) (by simp only [List.length_cons, List.length_nil]; omega) (by simp [Value.oneCell']) ?_
  intro w3 z3 p3
  have p3 : Hp nz wz S1 w3 ((some b11, .row 49 (.i ((gi x13 x15).Op) :: U4 ((gi x13 x15).Set) [.i ((gi x13 x15).X), .i ((gi x13 x15).Y)]) 7 0) :: Lr) := p3
  refine Goes.rn 3 [] J1b ?_
  refine Goes.ldN 49 (.tmp 4) 19 49 ⟨b11, 0, none⟩ (.i ((gi x13 x15).Op) :: U4 ((gi x13 x15).Set) [.i ((gi x13 x15).X), .i ((gi x13 x15).Y)]) (p3.pa 0 0) ?_
  refine Goes.rn 2 [(20, .slice Ax0 x0.length cx0), (21, .i (x0.length : Int))] J1c ?_
  refine bind_some' h fun y13 e14 h => ?_
  refine Goes.cal (kc 44 [19, 21] #[49, 3]) 22 4 44 _ (W.z1 (⟨(gi x13 x15).Op, ((gi x13 x15).Set), (gi x13 x15).X, (gi x13 x15).Y⟩ : T48) (x0.length : Int) y13 e14  p3 l9) ?_
  rintro _ w4 ⟨S4, rfl, z4, p4⟩
  have p4 := p4.dp 0
  refine Goes.rn 2 [(23, .bool (!y13))] J1a ?_
  refine ite_some h (fun h15 h => ?_) (fun h15 h => ?_)
  ·
   rw [h15]
   refine Goes.rn 8 [(24, .i (wr .i64 (x15 + 1))), (15, .i (wr .i64 (x15 + 1)))] J13 ?_
   exact Goes.jp 25 [(0, .slice Ax0 x0.length cx0), (13, .slice u4 x13.length u6), (14, .i x14), (15, .i (wr .i64 (x15 + 1)))] (u8 _ _ h _ _ (((hx.trans z2).trans z3).trans z4) Ax0 x0.length cx0 u4 x13.length u6 p4 (fx0.ext ((z2.trans z3).trans z4)) rfl (u9.ext ((z2.trans z3).trans z4)) rfl)
  ·
   have ub : y13 = false := by simpa using h15
   rw [ub]
   refine Goes.rn 5 [(2, .i 110)] J1d ?_
   obtain rfl := Option.some.inj h
   exact Goes.rt Tryd.f23 (.i 110) ⟨S4, rfl, (((hx.trans z2).trans z3).trans z4), p4⟩
 ·
  rw [decide_eq_false h3]
  refine Goes.rn 6 [(2, .i 0)] J1e ?_
  obtain rfl := Option.some.inj h
  exact Goes.rt Tryd.f23 (.i 0) ⟨S1, rfl, hx, p1⟩

def Qx := sub [1, 1] B23
def J1f : List Item := [.code Qx]
def Qy := sub [1, 0, 1] B23
def J1g : List Item := .code Qy :: J1f
def Qz := sub [1, 0, 1, 0, 1] B23
def J1h : List Item := .code Qz :: J1f

def L.z4 : (List T48) × Bool → Int → Prop := fun ⟨x0, x12⟩ r => ∀ S1 w1, Ext S0 w0 S1 w1 → ∀ Ax0 nx0 cx0 (_ : Hp nz wz S1 w1 (Lr)) (_ : Rd kT48 S1 w1 Ax0 cx0 x0) (_ : x0.length = nx0) (junk : Nat → Value),
 Goes Tryd.prog (base 23) J1g ⟨lfr 25 [(0, .slice Ax0 nx0 cx0), (12, .bool x12)] junk, []⟩ w1 (Done Tryd.prog 23 (Rets (Post.z2 nz wz S0 w0 Lr r)))

theorem W.z4 {nz wz S0 w0 Lr} [Gw nz wz] : ∀ a r, M.prog_Check_l0 a = some r → L.z4 nz wz S0 w0 Lr a r := by
 intro ⟨x0, x12⟩ r h S1 w1 hx Ax0 nx0 cx0 p1 fx0 lx0 junk
 rw [M.prog_Check_l0] at h
 try dsimp only at h
 subst lx0
 refine ite_some h (fun h2 h => ?_) (fun h2 h => ?_)
 ·
  rw [h2]
  refine Goes.rn 5 [(2, .i 110)] J1h ?_
  obtain rfl := Option.some.inj h
  exact Goes.rt Tryd.f23 (.i 110) ⟨S1, rfl, hx, p1⟩
 ·
  have h2' : x12 = false := by simpa using h2
  rw [h2']
  refine Goes.rn 11 [(13, .slice Ax0 x0.length cx0), (14, .i (x0.length : Int)), (15, .i 0)] J13 ?_
  exact Goes.jp 25 [(0, .slice Ax0 x0.length cx0), (13, .slice Ax0 x0.length cx0), (14, .i (x0.length : Int)), (15, .i 0)] (W.z3 _ _ h _ _ hx Ax0 x0.length cx0 Ax0 x0.length cx0 p1 fx0 rfl fx0 rfl)

def Q10 := sub [1, 0, 0] B23
def J1i : List Item := .inRegion (opsOf Q10) [4, 5, 6, 7] :: J1g

theorem W.z2 (x0 : List T48) (r : Int) (h : M.prog_Check x0 = some r) {nz wz S0 w0 Lr} [Gw nz wz] (Ax0 nx0 cx0) (p0 : Hp nz wz S0 w0 (Lr)) (fx0 : Rd kT48 S0 w0 Ax0 cx0 x0) (lx0 : x0.length = nx0) :
  Calls Tryd.prog 23 #[.slice Ax0 nx0 cx0] w0 (Rets (Post.z2 nz wz S0 w0 Lr r)) := by
 subst lx0
 refine calls_of_goes (fn := Tryd.f23) (c := B23) (by kernel_rfl) (by kernel_rfl) 24 (by kernel_rfl) ?_
 refine Goes.jp 25 [(0, .slice Ax0 x0.length cx0)] (fun junk => ?_)
 delta M.prog_Check at h
 refine Goes.rn 11 [(2, .i 0), (5, .slice Ax0 x0.length cx0), (6, .i (x0.length : Int)), (7, .bool (decide ((x0.length : Int) = 0))), (8, .bool (decide ((x0.length : Int) = 0)))] J1i ?_
 refine ite_some h (fun h1 h => ?_) (fun h1 h => ?_)
 ·
  rw [decide_eq_true h1]
  refine Goes.rn 5 [(9, undef), (10, undef), (11, undef), (12, .bool true)] J1g ?_
  exact Goes.jp 25 [(0, .slice Ax0 x0.length cx0), (12, .bool true)] (W.z4 _ _ h _ _ (Ext.refl S0 w0) Ax0 x0.length cx0 p0 fx0 rfl)
 ·
  rw [decide_eq_false h1]
  refine Goes.rn 5 [(9, .slice Ax0 x0.length cx0), (10, .i (x0.length : Int)), (11, .bool (decide ((x0.length : Int) > 2048))), (12, .bool (decide ((x0.length : Int) > 2048)))] J1g ?_
  exact Goes.jp 25 [(0, .slice Ax0 x0.length cx0), (12, .bool (decide ((x0.length : Int) > 2048)))] (W.z4 _ _ h _ _ (Ext.refl S0 w0) Ax0 x0.length cx0 p0 fx0 rfl)

def Q11 := sub [1] B41
def J1j : List Item := [.code Q11]
def Q12 := sub [0] B41
def J1k : List Item := .inRegion (opsOf Q12) [0, 1] :: J1j
def Q13 := sub [1, 1] B41
def J1l : List Item := [.code Q13]

def Post.z5 (r : List T48) (v : Value) (w' : World) : Prop :=
 ∃ S' uc ud ue uf, v = .func (.func 59) #[] #[(pt uc 0)] ∧ Ext S0 w0 S' w' ∧ Hp nz wz S' w' ((some uc, .row 37 [.slice ud ue uf] 1 0) :: Lr) ∧ Rd kT48 S' w' ud uf r ∧ r.length = ue

theorem W.z5 (x0 : List T48) (r : List T48) (h : M.prog_lines x0 = some r) {nz wz S0 w0 Lr} [Gw nz wz] (Ax0 nx0 cx0) (p0 : Hp nz wz S0 w0 (Lr)) (fx0 : Rd kT48 S0 w0 Ax0 cx0 x0) (lx0 : x0.length = nx0) :
  Calls Tryd.prog 41 #[.slice Ax0 nx0 cx0] w0 (Rets (Post.z5 nz wz S0 w0 Lr r)) := by
 subst lx0
 refine calls_of_goes (fn := Tryd.f41) (c := B41) (by kernel_rfl) (by kernel_rfl) 3 (by kernel_rfl) ?_
 refine Goes.jp 4 [(0, .slice Ax0 x0.length cx0)] (fun junk => ?_)
 delta M.prog_lines at h
 refine Goes.rn 2 [] J1k ?_
 refine Op_.box 37 (.tmp 0) 1 0 (.slice Ax0 x0.length cx0) [.slice Ax0 x0.length cx0] p0 Goes.v (by kernel_rfl) (by kernel_rfl) ?_
 intro b1 w2 z2 p2
 refine Goes.rn 7 [(2, .func (.func 59) #[] #[(pt b1 0)]), (3, .func (.func 59) #[] #[(pt b1 0)])] J1l ?_
 obtain rfl := Option.some.inj h
 exact Goes.rt Tryd.f41 (.func (.func 59) #[] #[(pt b1 0)]) ⟨S0, b1, Ax0, x0.length, cx0, rfl, ((Ext.refl S0 w0).trans z2), p2, (fx0.ext z2), rfl⟩

def Q14 := sub [1, 1] B76
def J1m : List Item := [.code Q14]
def Q15 := sub [1, 1, 1, 1] B76
def J1n : List Item := [.code Q15]
def Q16 := sub [1, 1, 1, 0] B76
def J1o : List Item := .inRegion (opsOf Q16) [2, 3, 4, 5] :: J1n
def Q17 := sub [1, 1, 1, 1, 1, 1] B76
def J1p : List Item := [.code Q17]
def Q18 := sub [1, 1, 1, 1, 1, 0] B76
def J1q : List Item := .code Q18 :: J1p
def Q19 := sub [1, 1, 1, 1, 1, 1, 1] B76
def J1r : List Item := [.code Q19]
def Q1a := sub [1, 1, 1, 1, 1, 1, 0] B76
def J1s : List Item := .inRegion (opsOf Q1a) [] :: J1r
def Q1b := sub [1, 1, 1, 1, 1, 1, 1, 1] B76
def J1t : List Item := [.code Q1b]

def Post.z6 (r : Int) (v : Value) (w' : World) : Prop :=
 ∃ S', v = .i r ∧ Ext S0 w0 S' w' ∧ Hp nz wz S' w' (Lr)

theorem W.z6 (x0 : Int) (r : Int) (h : M.bits_OnesCount64 x0 = some r) {nz wz S0 w0 Lr} [Gw nz wz] (p0 : Hp nz wz S0 w0 (Lr)) :
  Calls Tryd.prog 76 #[.u x0] w0 (Rets (Post.z6 nz wz S0 w0 Lr r)) := by
 refine calls_of_goes (fn := Tryd.f76) (c := B76) (by kernel_rfl) (by kernel_rfl) 34 (by kernel_rfl) ?_
 refine Goes.jp 35 [(0, .u x0)] (fun junk => ?_)
 delta M.bits_OnesCount64 at h
 refine Goes.rn 14 [(2, .i 0), (3, .u x0), (4, .u (ishr .u64 x0 1)), (5, .u (iand .u64 (ishr .u64 x0 1) 6148914691236517205)), (6, .u x0), (7, .u (iand .u64 x0 6148914691236517205)), (8, .u (wr .u64 ((iand .u64 (ishr .u64 x0 1) 6148914691236517205) + (iand .u64 x0 6148914691236517205)))), (0, .u (wr .u64 ((iand .u64 (ishr .u64 x0 1) 6148914691236517205) + (iand .u64 x0 6148914691236517205))))] J1m ?_
 refine Goes.rn 14 [(9, .u (wr .u64 ((iand .u64 (ishr .u64 x0 1) 6148914691236517205) + (iand .u64 x0 6148914691236517205)))), (10, .u (ishr .u64 (wr .u64 ((iand .u64 (ishr .u64 x0 1) 6148914691236517205) + (iand .u64 x0 6148914691236517205))) 2)), (11, .u (iand .u64 (ishr .u64 (wr .u64 ((iand .u64 (ishr .u64 x0 1) 6148914691236517205) + (iand .u64 x0 6148914691236517205))) 2) 3689348814741910323)), (12, .u (wr .u64 ((iand .u64 (ishr .u64 x0 1) 6148914691236517205) + (iand .u64 x0 6148914691236517205)))), (13, .u (iand .u64 (wr .u64 ((iand .u64 (ishr .u64 x0 1) 6148914691236517205) + (iand .u64 x0 6148914691236517205))) 3689348814741910323)), (14, .u (wr .u64 ((iand .u64 (ishr .u64 (wr .u64 ((iand .u64 (ishr .u64 x0 1) 6148914691236517205) + (iand .u64 x0 6148914691236517205))) 2) 3689348814741910323) + (iand .u64 (wr .u64 ((iand .u64 (ishr .u64 x0 1) 6148914691236517205) + (iand .u64 x0 6148914691236517205))) 3689348814741910323)))), (0, .u (wr .u64 ((iand .u64 (ishr .u64 (wr .u64 ((iand .u64 (ishr .u64 x0 1) 6148914691236517205) + (iand .u64 x0 6148914691236517205))) 2) 3689348814741910323) + (iand .u64 (wr .u64 ((iand .u64 (ishr .u64 x0 1) 6148914691236517205) + (iand .u64 x0 6148914691236517205))) 3689348814741910323)))), (15, .u (wr .u64 ((iand .u64 (ishr .u64 (wr .u64 ((iand .u64 (ishr .u64 x0 1) 6148914691236517205) + (iand .u64 x0 6148914691236517205))) 2) 3689348814741910323) + (iand .u64 (wr .u64 ((iand .u64 (ishr .u64 x0 1) 6148914691236517205) + (iand .u64 x0 6148914691236517205))) 3689348814741910323)))), (16, .u (ishr .u64 (wr .u64 ((iand .u64 (ishr .u64 (wr .u64 ((iand .u64 (ishr .u64 x0 1) 6148914691236517205) + (iand .u64 x0 6148914691236517205))) 2) 3689348814741910323) + (iand .u64 (wr .u64 ((iand .u64 (ishr .u64 x0 1) 6148914691236517205) + (iand .u64 x0 6148914691236517205))) 3689348814741910323))) 4))] J1o ?_
 refine Goes.rn 14 [(17, .u (wr .u64 ((iand .u64 (ishr .u64 (wr .u64 ((iand .u64 (ishr .u64 x0 1) 6148914691236517205) + (iand .u64 x0 6148914691236517205))) 2) 3689348814741910323) + (iand .u64 (wr .u64 ((iand .u64 (ishr .u64 x0 1) 6148914691236517205) + (iand .u64 x0 6148914691236517205))) 3689348814741910323)))), (18, .u (wr .u64 ((ishr .u64 (wr .u64 ((iand .u64 (ishr .u64 (wr .u64 ((iand .u64 (ishr .u64 x0 1) 6148914691236517205) + (iand .u64 x0 6148914691236517205))) 2) 3689348814741910323) + (iand .u64 (wr .u64 ((iand .u64 (ishr .u64 x0 1) 6148914691236517205) + (iand .u64 x0 6148914691236517205))) 3689348814741910323))) 4) + (wr .u64 ((iand .u64 (ishr .u64 (wr .u64 ((iand .u64 (ishr .u64 x0 1) 6148914691236517205) + (iand .u64 x0 6148914691236517205))) 2) 3689348814741910323) + (iand .u64 (wr .u64 ((iand .u64 (ishr .u64 x0 1) 6148914691236517205) + (iand .u64 x0 6148914691236517205))) 3689348814741910323)))))), (19, .u (iand .u64 (wr .u64 ((ishr .u64 (wr .u64 ((iand .u64 (ishr .u64 (wr .u64 ((iand .u64 (ishr .u64 x0 1) 6148914691236517205) + (iand .u64 x0 6148914691236517205))) 2) 3689348814741910323) + (iand .u64 (wr .u64 ((iand .u64 (ishr .u64 x0 1) 6148914691236517205) + (iand .u64 x0 6148914691236517205))) 3689348814741910323))) 4) + (wr .u64 ((iand .u64 (ishr .u64 (wr .u64 ((iand .u64 (ishr .u64 x0 1) 6148914691236517205) + (iand .u64 x0 6148914691236517205))) 2) 3689348814741910323) + (iand .u64 (wr .u64 ((iand .u64 (ishr .u64 x0 1) 6148914691236517205) + (iand .u64 x0 6148914691236517205))) 3689348814741910323))))) 1085102592571150095)), (0, .u (wr .u64 ((iand .u64 (wr .u64 ((ishr .u64 (wr .u64 ((iand .u64 (ishr .u64 (wr .u64 ((iand .u64 (ishr .u64 x0 1) 6148914691236517205) + (iand .u64 x0 6148914691236517205))) 2) 3689348814741910323) + (iand .u64 (wr .u64 ((iand .u64 (ishr .u64 x0 1) 6148914691236517205) + (iand .u64 x0 6148914691236517205))) 3689348814741910323))) 4) + (wr .u64 ((iand .u64 (ishr .u64 (wr .u64 ((iand .u64 (ishr .u64 x0 1) 6148914691236517205) + (iand .u64 x0 6148914691236517205))) 2) 3689348814741910323) + (iand .u64 (wr .u64 ((iand .u64 (ishr .u64 x0 1) 6148914691236517205) + (iand .u64 x0 6148914691236517205))) 3689348814741910323))))) 1085102592571150095) + (ishr .u64 (iand .u64 (wr .u64 ((ishr .u64 (wr .u64 ((iand .u64 (ishr .u64 (wr .u64 ((iand .u64 (ishr .u64 x0 1) 6148914691236517205) + (iand .u64 x0 6148914691236517205))) 2) 3689348814741910323) + (iand .u64 (wr .u64 ((iand .u64 (ishr .u64 x0 1) 6148914691236517205) + (iand .u64 x0 6148914691236517205))) 3689348814741910323))) 4) + (wr .u64 ((iand .u64 (ishr .u64 (wr .u64 ((iand .u64 (ishr .u64 x0 1) 6148914691236517205) + (iand .u64 x0 6148914691236517205))) 2) 3689348814741910323) + (iand .u64 (wr .u64 ((iand .u64 (ishr .u64 x0 1) 6148914691236517205) + (iand .u64 x0 6148914691236517205))) 3689348814741910323))))) 1085102592571150095) 8)))), (20, .u (iand .u64 (wr .u64 ((ishr .u64 (wr .u64 ((iand .u64 (ishr .u64 (wr .u64 ((iand .u64 (ishr .u64 x0 1) 6148914691236517205) + (iand .u64 x0 6148914691236517205))) 2) 3689348814741910323) + (iand .u64 (wr .u64 ((iand .u64 (ishr .u64 x0 1) 6148914691236517205) + (iand .u64 x0 6148914691236517205))) 3689348814741910323))) 4) + (wr .u64 ((iand .u64 (ishr .u64 (wr .u64 ((iand .u64 (ishr .u64 x0 1) 6148914691236517205) + (iand .u64 x0 6148914691236517205))) 2) 3689348814741910323) + (iand .u64 (wr .u64 ((iand .u64 (ishr .u64 x0 1) 6148914691236517205) + (iand .u64 x0 6148914691236517205))) 3689348814741910323))))) 1085102592571150095)), (21, .u (iand .u64 (wr .u64 ((ishr .u64 (wr .u64 ((iand .u64 (ishr .u64 (wr .u64 ((iand .u64 (ishr .u64 x0 1) 6148914691236517205) + (iand .u64 x0 6148914691236517205))) 2) 3689348814741910323) + (iand .u64 (wr .u64 ((iand .u64 (ishr .u64 x0 1) 6148914691236517205) + (iand .u64 x0 6148914691236517205))) 3689348814741910323))) 4) + (wr .u64 ((iand .u64 (ishr .u64 (wr .u64 ((iand .u64 (ishr .u64 x0 1) 6148914691236517205) + (iand .u64 x0 6148914691236517205))) 2) 3689348814741910323) + (iand .u64 (wr .u64 ((iand .u64 (ishr .u64 x0 1) 6148914691236517205) + (iand .u64 x0 6148914691236517205))) 3689348814741910323))))) 1085102592571150095)), (22, .u (ishr .u64 (iand .u64 (wr .u64 ((ishr .u64 (wr .u64 ((iand .u64 (ishr .u64 (wr .u64 ((iand .u64 (ishr .u64 x0 1) 6148914691236517205) + (iand .u64 x0 6148914691236517205))) 2) 3689348814741910323) + (iand .u64 (wr .u64 ((iand .u64 (ishr .u64 x0 1) 6148914691236517205) + (iand .u64 x0 6148914691236517205))) 3689348814741910323))) 4) + (wr .u64 ((iand .u64 (ishr .u64 (wr .u64 ((iand .u64 (ishr .u64 x0 1) 6148914691236517205) + (iand .u64 x0 6148914691236517205))) 2) 3689348814741910323) + (iand .u64 (wr .u64 ((iand .u64 (ishr .u64 x0 1) 6148914691236517205) + (iand .u64 x0 6148914691236517205))) 3689348814741910323))))) 1085102592571150095) 8)), (23, .u (wr .u64 ((iand .u64 (wr .u64 ((ishr .u64 (wr .u64 ((iand .u64 (ishr .u64 (wr .u64 ((iand .u64 (ishr .u64 x0 1) 6148914691236517205) + (iand .u64 x0 6148914691236517205))) 2) 3689348814741910323) + (iand .u64 (wr .u64 ((iand .u64 (ishr .u64 x0 1) 6148914691236517205) + (iand .u64 x0 6148914691236517205))) 3689348814741910323))) 4) + (wr .u64 ((iand .u64 (ishr .u64 (wr .u64 ((iand .u64 (ishr .u64 x0 1) 6148914691236517205) + (iand .u64 x0 6148914691236517205))) 2) 3689348814741910323) + (iand .u64 (wr .u64 ((iand .u64 (ishr .u64 x0 1) 6148914691236517205) + (iand .u64 x0 6148914691236517205))) 3689348814741910323))))) 1085102592571150095) + (ishr .u64 (iand .u64 (wr .u64 ((ishr .u64 (wr .u64 ((iand .u64 (ishr .u64 (wr .u64 ((iand .u64 (ishr .u64 x0 1) 6148914691236517205) + (iand .u64 x0 6148914691236517205))) 2) 3689348814741910323) + (iand .u64 (wr .u64 ((iand .u64 (ishr .u64 x0 1) 6148914691236517205) + (iand .u64 x0 6148914691236517205))) 3689348814741910323))) 4) + (wr .u64 ((iand .u64 (ishr .u64 (wr .u64 ((iand .u64 (ishr .u64 x0 1) 6148914691236517205) + (iand .u64 x0 6148914691236517205))) 2) 3689348814741910323) + (iand .u64 (wr .u64 ((iand .u64 (ishr .u64 x0 1) 6148914691236517205) + (iand .u64 x0 6148914691236517205))) 3689348814741910323))))) 1085102592571150095) 8))))] J1q ?_
 refine Goes.rn 14 [(24, .u (wr .u64 ((iand .u64 (wr .u64 ((ishr .u64 (wr .u64 ((iand .u64 (ishr .u64 (wr .u64 ((iand .u64 (ishr .u64 x0 1) 6148914691236517205) + (iand .u64 x0 6148914691236517205))) 2) 3689348814741910323) + (iand .u64 (wr .u64 ((iand .u64 (ishr .u64 x0 1) 6148914691236517205) + (iand .u64 x0 6148914691236517205))) 3689348814741910323))) 4) + (wr .u64 ((iand .u64 (ishr .u64 (wr .u64 ((iand .u64 (ishr .u64 x0 1) 6148914691236517205) + (iand .u64 x0 6148914691236517205))) 2) 3689348814741910323) + (iand .u64 (wr .u64 ((iand .u64 (ishr .u64 x0 1) 6148914691236517205) + (iand .u64 x0 6148914691236517205))) 3689348814741910323))))) 1085102592571150095) + (ishr .u64 (iand .u64 (wr .u64 ((ishr .u64 (wr .u64 ((iand .u64 (ishr .u64 (wr .u64 ((iand .u64 (ishr .u64 x0 1) 6148914691236517205) + (iand .u64 x0 6148914691236517205))) 2) 3689348814741910323) + (iand .u64 (wr .u64 ((iand .u64 (ishr .u64 x0 1) 6148914691236517205) + (iand .u64 x0 6148914691236517205))) 3689348814741910323))) 4) + (wr .u64 ((iand .u64 (ishr .u64 (wr .u64 ((iand .u64 (ishr .u64 x0 1) 6148914691236517205) + (iand .u64 x0 6148914691236517205))) 2) 3689348814741910323) + (iand .u64 (wr .u64 ((iand .u64 (ishr .u64 x0 1) 6148914691236517205) + (iand .u64 x0 6148914691236517205))) 3689348814741910323))))) 1085102592571150095) 8)))), (25, .u (wr .u64 ((iand .u64 (wr .u64 ((ishr .u64 (wr .u64 ((iand .u64 (ishr .u64 (wr .u64 ((iand .u64 (ishr .u64 x0 1) 6148914691236517205) + (iand .u64 x0 6148914691236517205))) 2) 3689348814741910323) + (iand .u64 (wr .u64 ((iand .u64 (ishr .u64 x0 1) 6148914691236517205) + (iand .u64 x0 6148914691236517205))) 3689348814741910323))) 4) + (wr .u64 ((iand .u64 (ishr .u64 (wr .u64 ((iand .u64 (ishr .u64 x0 1) 6148914691236517205) + (iand .u64 x0 6148914691236517205))) 2) 3689348814741910323) + (iand .u64 (wr .u64 ((iand .u64 (ishr .u64 x0 1) 6148914691236517205) + (iand .u64 x0 6148914691236517205))) 3689348814741910323))))) 1085102592571150095) + (ishr .u64 (iand .u64 (wr .u64 ((ishr .u64 (wr .u64 ((iand .u64 (ishr .u64 (wr .u64 ((iand .u64 (ishr .u64 x0 1) 6148914691236517205) + (iand .u64 x0 6148914691236517205))) 2) 3689348814741910323) + (iand .u64 (wr .u64 ((iand .u64 (ishr .u64 x0 1) 6148914691236517205) + (iand .u64 x0 6148914691236517205))) 3689348814741910323))) 4) + (wr .u64 ((iand .u64 (ishr .u64 (wr .u64 ((iand .u64 (ishr .u64 x0 1) 6148914691236517205) + (iand .u64 x0 6148914691236517205))) 2) 3689348814741910323) + (iand .u64 (wr .u64 ((iand .u64 (ishr .u64 x0 1) 6148914691236517205) + (iand .u64 x0 6148914691236517205))) 3689348814741910323))))) 1085102592571150095) 8)))), (26, .u (ishr .u64 (wr .u64 ((iand .u64 (wr .u64 ((ishr .u64 (wr .u64 ((iand .u64 (ishr .u64 (wr .u64 ((iand .u64 (ishr .u64 x0 1) 6148914691236517205) + (iand .u64 x0 6148914691236517205))) 2) 3689348814741910323) + (iand .u64 (wr .u64 ((iand .u64 (ishr .u64 x0 1) 6148914691236517205) + (iand .u64 x0 6148914691236517205))) 3689348814741910323))) 4) + (wr .u64 ((iand .u64 (ishr .u64 (wr .u64 ((iand .u64 (ishr .u64 x0 1) 6148914691236517205) + (iand .u64 x0 6148914691236517205))) 2) 3689348814741910323) + (iand .u64 (wr .u64 ((iand .u64 (ishr .u64 x0 1) 6148914691236517205) + (iand .u64 x0 6148914691236517205))) 3689348814741910323))))) 1085102592571150095) + (ishr .u64 (iand .u64 (wr .u64 ((ishr .u64 (wr .u64 ((iand .u64 (ishr .u64 (wr .u64 ((iand .u64 (ishr .u64 x0 1) 6148914691236517205) + (iand .u64 x0 6148914691236517205))) 2) 3689348814741910323) + (iand .u64 (wr .u64 ((iand .u64 (ishr .u64 x0 1) 6148914691236517205) + (iand .u64 x0 6148914691236517205))) 3689348814741910323))) 4) + (wr .u64 ((iand .u64 (ishr .u64 (wr .u64 ((iand .u64 (ishr .u64 x0 1) 6148914691236517205) + (iand .u64 x0 6148914691236517205))) 2) 3689348814741910323) + (iand .u64 (wr .u64 ((iand .u64 (ishr .u64 x0 1) 6148914691236517205) + (iand .u64 x0 6148914691236517205))) 3689348814741910323))))) 1085102592571150095) 8))) 16)), (27, .u (wr .u64 ((wr .u64 ((iand .u64 (wr .u64 ((ishr .u64 (wr .u64 ((iand .u64 (ishr .u64 (wr .u64 ((iand .u64 (ishr .u64 x0 1) 6148914691236517205) + (iand .u64 x0 6148914691236517205))) 2) 3689348814741910323) + (iand .u64 (wr .u64 ((iand .u64 (ishr .u64 x0 1) 6148914691236517205) + (iand .u64 x0 6148914691236517205))) 3689348814741910323))) 4) + (wr .u64 ((iand .u64 (ishr .u64 (wr .u64 ((iand .u64 (ishr .u64 x0 1) 6148914691236517205) + (iand .u64 x0 6148914691236517205))) 2) 3689348814741910323) + (iand .u64 (wr .u64 ((iand .u64 (ishr .u64 x0 1) 6148914691236517205) + (iand .u64 x0 6148914691236517205))) 3689348814741910323))))) 1085102592571150095) + (ishr .u64 (iand .u64 (wr .u64 ((ishr .u64 (wr .u64 ((iand .u64 (ishr .u64 (wr .u64 ((iand .u64 (ishr .u64 x0 1) 6148914691236517205) + (iand .u64 x0 6148914691236517205))) 2) 3689348814741910323) + (iand .u64 (wr .u64 ((iand .u64 (ishr .u64 x0 1) 6148914691236517205) + (iand .u64 x0 6148914691236517205))) 3689348814741910323))) 4) + (wr .u64 ((iand .u64 (ishr .u64 (wr .u64 ((iand .u64 (ishr .u64 x0 1) 6148914691236517205) + (iand .u64 x0 6148914691236517205))) 2) 3689348814741910323) + (iand .u64 (wr .u64 ((iand .u64 (ishr .u64 x0 1) 6148914691236517205) + (iand .u64 x0 6148914691236517205))) 3689348814741910323))))) 1085102592571150095) 8))) + (ishr .u64 (wr .u64 ((iand .u64 (wr .u64 ((ishr .u64 (wr .u64 ((iand .u64 (ishr .u64 (wr .u64 ((iand .u64 (ishr .u64 x0 1) 6148914691236517205) + (iand .u64 x0 6148914691236517205))) 2) 3689348814741910323) + (iand .u64 (wr .u64 ((iand .u64 (ishr .u64 x0 1) 6148914691236517205) + (iand .u64 x0 6148914691236517205))) 3689348814741910323))) 4) + (wr .u64 ((iand .u64 (ishr .u64 (wr .u64 ((iand .u64 (ishr .u64 x0 1) 6148914691236517205) + (iand .u64 x0 6148914691236517205))) 2) 3689348814741910323) + (iand .u64 (wr .u64 ((iand .u64 (ishr .u64 x0 1) 6148914691236517205) + (iand .u64 x0 6148914691236517205))) 3689348814741910323))))) 1085102592571150095) + (ishr .u64 (iand .u64 (wr .u64 ((ishr .u64 (wr .u64 ((iand .u64 (ishr .u64 (wr .u64 ((iand .u64 (ishr .u64 x0 1) 6148914691236517205) + (iand .u64 x0 6148914691236517205))) 2) 3689348814741910323) + (iand .u64 (wr .u64 ((iand .u64 (ishr .u64 x0 1) 6148914691236517205) + (iand .u64 x0 6148914691236517205))) 3689348814741910323))) 4) + (wr .u64 ((iand .u64 (ishr .u64 (wr .u64 ((iand .u64 (ishr .u64 x0 1) 6148914691236517205) + (iand .u64 x0 6148914691236517205))) 2) 3689348814741910323) + (iand .u64 (wr .u64 ((iand .u64 (ishr .u64 x0 1) 6148914691236517205) + (iand .u64 x0 6148914691236517205))) 3689348814741910323))))) 1085102592571150095) 8))) 16)))), (0, .u (wr .u64 ((wr .u64 ((wr .u64 ((iand .u64 (wr .u64 ((ishr .u64 (wr .u64 ((iand .u64 (ishr .u64 (wr .u64 ((iand .u64 (ishr .u64 x0 1) 6148914691236517205) + (iand .u64 x0 6148914691236517205))) 2) 3689348814741910323) + (iand .u64 (wr .u64 ((iand .u64 (ishr .u64 x0 1) 6148914691236517205) + (iand .u64 x0 6148914691236517205))) 3689348814741910323))) 4) + (wr .u64 ((iand .u64 (ishr .u64 (wr .u64 ((iand .u64 (ishr .u64 x0 1) 6148914691236517205) + (iand .u64 x0 6148914691236517205))) 2) 3689348814741910323) + (iand .u64 (wr .u64 ((iand .u64 (ishr .u64 x0 1) 6148914691236517205) + (iand .u64 x0 6148914691236517205))) 3689348814741910323))))) 1085102592571150095) + (ishr .u64 (iand .u64 (wr .u64 ((ishr .u64 (wr .u64 ((iand .u64 (ishr .u64 (wr .u64 ((iand .u64 (ishr .u64 x0 1) 6148914691236517205) + (iand .u64 x0 6148914691236517205))) 2) 3689348814741910323) + (iand .u64 (wr .u64 ((iand .u64 (ishr .u64 x0 1) 6148914691236517205) + (iand .u64 x0 6148914691236517205))) 3689348814741910323))) 4) + (wr .u64 ((iand .u64 (ishr .u64 (wr .u64 ((iand .u64 (ishr .u64 x0 1) 6148914691236517205) + (iand .u64 x0 6148914691236517205))) 2) 3689348814741910323) + (iand .u64 (wr .u64 ((iand .u64 (ishr .u64 x0 1) 6148914691236517205) + (iand .u64 x0 6148914691236517205))) 3689348814741910323))))) 1085102592571150095) 8))) + (ishr .u64 (wr .u64 ((iand .u64 (wr .u64 ((ishr .u64 (wr .u64 ((iand .u64 (ishr .u64 (wr .u64 ((iand .u64 (ishr .u64 x0 1) 6148914691236517205) + (iand .u64 x0 6148914691236517205))) 2) 3689348814741910323) + (iand .u64 (wr .u64 ((iand .u64 (ishr .u64 x0 1) 6148914691236517205) + (iand .u64 x0 6148914691236517205))) 3689348814741910323))) 4) + (wr .u64 ((iand .u64 (ishr .u64 (wr .u64 ((iand .u64 (ishr .u64 x0 1) 6148914691236517205) + (iand .u64 x0 6148914691236517205))) 2) 3689348814741910323) + (iand .u64 (wr .u64 ((iand .u64 (ishr .u64 x0 1) 6148914691236517205) + (iand .u64 x0 6148914691236517205))) 3689348814741910323))))) 1085102592571150095) + (ishr .u64 (iand .u64 (wr .u64 ((ishr .u64 (wr .u64 ((iand .u64 (ishr .u64 (wr .u64 ((iand .u64 (ishr .u64 x0 1) 6148914691236517205) + (iand .u64 x0 6148914691236517205))) 2) 3689348814741910323) + (iand .u64 (wr .u64 ((iand .u64 (ishr .u64 x0 1) 6148914691236517205) + (iand .u64 x0 6148914691236517205))) 3689348814741910323))) 4) + (wr .u64 ((iand .u64 (ishr .u64 (wr .u64 ((iand .u64 (ishr .u64 x0 1) 6148914691236517205) + (iand .u64 x0 6148914691236517205))) 2) 3689348814741910323) + (iand .u64 (wr .u64 ((iand .u64 (ishr .u64 x0 1) 6148914691236517205) + (iand .u64 x0 6148914691236517205))) 3689348814741910323))))) 1085102592571150095) 8))) 16))) + (ishr .u64 (wr .u64 ((wr .u64 ((iand .u64 (wr .u64 ((ishr .u64 (wr .u64 ((iand .u64 (ishr .u64 (wr .u64 ((iand .u64 (ishr .u64 x0 1) 6148914691236517205) + (iand .u64 x0 6148914691236517205))) 2) 3689348814741910323) + (iand .u64 (wr .u64 ((iand .u64 (ishr .u64 x0 1) 6148914691236517205) + (iand .u64 x0 6148914691236517205))) 3689348814741910323))) 4) + (wr .u64 ((iand .u64 (ishr .u64 (wr .u64 ((iand .u64 (ishr .u64 x0 1) 6148914691236517205) + (iand .u64 x0 6148914691236517205))) 2) 3689348814741910323) + (iand .u64 (wr .u64 ((iand .u64 (ishr .u64 x0 1) 6148914691236517205) + (iand .u64 x0 6148914691236517205))) 3689348814741910323))))) 1085102592571150095) + (ishr .u64 (iand .u64 (wr .u64 ((ishr .u64 (wr .u64 ((iand .u64 (ishr .u64 (wr .u64 ((iand .u64 (ishr .u64 x0 1) 6148914691236517205) + (iand .u64 x0 6148914691236517205))) 2) 3689348814741910323) + (iand .u64 (wr .u64 ((iand .u64 (ishr .u64 x0 1) 6148914691236517205) + (iand .u64 x0 6148914691236517205))) 3689348814741910323))) 4) + (wr .u64 ((iand .u64 (ishr .u64 (wr .u64 ((iand .u64 (ishr .u64 x0 1) 6148914691236517205) + (iand .u64 x0 6148914691236517205))) 2) 3689348814741910323) + (iand .u64 (wr .u64 ((iand .u64 (ishr .u64 x0 1) 6148914691236517205) + (iand .u64 x0 6148914691236517205))) 3689348814741910323))))) 1085102592571150095) 8))) + (ishr .u64 (wr .u64 ((iand .u64 (wr .u64 ((ishr .u64 (wr .u64 ((iand .u64 (ishr .u64 (wr .u64 ((iand .u64 (ishr .u64 x0 1) 6148914691236517205) + (iand .u64 x0 6148914691236517205))) 2) 3689348814741910323) + (iand .u64 (wr .u64 ((iand .u64 (ishr .u64 x0 1) 6148914691236517205) + (iand .u64 x0 6148914691236517205))) 3689348814741910323))) 4) + (wr .u64 ((iand .u64 (ishr .u64 (wr .u64 ((iand .u64 (ishr .u64 x0 1) 6148914691236517205) + (iand .u64 x0 6148914691236517205))) 2) 3689348814741910323) + (iand .u64 (wr .u64 ((iand .u64 (ishr .u64 x0 1) 6148914691236517205) + (iand .u64 x0 6148914691236517205))) 3689348814741910323))))) 1085102592571150095) + (ishr .u64 (iand .u64 (wr .u64 ((ishr .u64 (wr .u64 ((iand .u64 (ishr .u64 (wr .u64 ((iand .u64 (ishr .u64 x0 1) 6148914691236517205) + (iand .u64 x0 6148914691236517205))) 2) 3689348814741910323) + (iand .u64 (wr .u64 ((iand .u64 (ishr .u64 x0 1) 6148914691236517205) + (iand .u64 x0 6148914691236517205))) 3689348814741910323))) 4) + (wr .u64 ((iand .u64 (ishr .u64 (wr .u64 ((iand .u64 (ishr .u64 x0 1) 6148914691236517205) + (iand .u64 x0 6148914691236517205))) 2) 3689348814741910323) + (iand .u64 (wr .u64 ((iand .u64 (ishr .u64 x0 1) 6148914691236517205) + (iand .u64 x0 6148914691236517205))) 3689348814741910323))))) 1085102592571150095) 8))) 16))) 32)))), (28, .u (wr .u64 ((wr .u64 ((iand .u64 (wr .u64 ((ishr .u64 (wr .u64 ((iand .u64 (ishr .u64 (wr .u64 ((iand .u64 (ishr .u64 x0 1) 6148914691236517205) + (iand .u64 x0 6148914691236517205))) 2) 3689348814741910323) + (iand .u64 (wr .u64 ((iand .u64 (ishr .u64 x0 1) 6148914691236517205) + (iand .u64 x0 6148914691236517205))) 3689348814741910323))) 4) + (wr .u64 ((iand .u64 (ishr .u64 (wr .u64 ((iand .u64 (ishr .u64 x0 1) 6148914691236517205) + (iand .u64 x0 6148914691236517205))) 2) 3689348814741910323) + (iand .u64 (wr .u64 ((iand .u64 (ishr .u64 x0 1) 6148914691236517205) + (iand .u64 x0 6148914691236517205))) 3689348814741910323))))) 1085102592571150095) + (ishr .u64 (iand .u64 (wr .u64 ((ishr .u64 (wr .u64 ((iand .u64 (ishr .u64 (wr .u64 ((iand .u64 (ishr .u64 x0 1) 6148914691236517205) + (iand .u64 x0 6148914691236517205))) 2) 3689348814741910323) + (iand .u64 (wr .u64 ((iand .u64 (ishr .u64 x0 1) 6148914691236517205) + (iand .u64 x0 6148914691236517205))) 3689348814741910323))) 4) + (wr .u64 ((iand .u64 (ishr .u64 (wr .u64 ((iand .u64 (ishr .u64 x0 1) 6148914691236517205) + (iand .u64 x0 6148914691236517205))) 2) 3689348814741910323) + (iand .u64 (wr .u64 ((iand .u64 (ishr .u64 x0 1) 6148914691236517205) + (iand .u64 x0 6148914691236517205))) 3689348814741910323))))) 1085102592571150095) 8))) + (ishr .u64 (wr .u64 ((iand .u64 (wr .u64 ((ishr .u64 (wr .u64 ((iand .u64 (ishr .u64 (wr .u64 ((iand .u64 (ishr .u64 x0 1) 6148914691236517205) + (iand .u64 x0 6148914691236517205))) 2) 3689348814741910323) + (iand .u64 (wr .u64 ((iand .u64 (ishr .u64 x0 1) 6148914691236517205) + (iand .u64 x0 6148914691236517205))) 3689348814741910323))) 4) + (wr .u64 ((iand .u64 (ishr .u64 (wr .u64 ((iand .u64 (ishr .u64 x0 1) 6148914691236517205) + (iand .u64 x0 6148914691236517205))) 2) 3689348814741910323) + (iand .u64 (wr .u64 ((iand .u64 (ishr .u64 x0 1) 6148914691236517205) + (iand .u64 x0 6148914691236517205))) 3689348814741910323))))) 1085102592571150095) + (ishr .u64 (iand .u64 (wr .u64 ((ishr .u64 (wr .u64 ((iand .u64 (ishr .u64 (wr .u64 ((iand .u64 (ishr .u64 x0 1) 6148914691236517205) + (iand .u64 x0 6148914691236517205))) 2) 3689348814741910323) + (iand .u64 (wr .u64 ((iand .u64 (ishr .u64 x0 1) 6148914691236517205) + (iand .u64 x0 6148914691236517205))) 3689348814741910323))) 4) + (wr .u64 ((iand .u64 (ishr .u64 (wr .u64 ((iand .u64 (ishr .u64 x0 1) 6148914691236517205) + (iand .u64 x0 6148914691236517205))) 2) 3689348814741910323) + (iand .u64 (wr .u64 ((iand .u64 (ishr .u64 x0 1) 6148914691236517205) + (iand .u64 x0 6148914691236517205))) 3689348814741910323))))) 1085102592571150095) 8))) 16)))), (29, .u (wr .u64 ((wr .u64 ((iand .u64 (wr .u64 ((ishr .u64 (wr .u64 ((iand .u64 (ishr .u64 (wr .u64 ((iand .u64 (ishr .u64 x0 1) 6148914691236517205) + (iand .u64 x0 6148914691236517205))) 2) 3689348814741910323) + (iand .u64 (wr .u64 ((iand .u64 (ishr .u64 x0 1) 6148914691236517205) + (iand .u64 x0 6148914691236517205))) 3689348814741910323))) 4) + (wr .u64 ((iand .u64 (ishr .u64 (wr .u64 ((iand .u64 (ishr .u64 x0 1) 6148914691236517205) + (iand .u64 x0 6148914691236517205))) 2) 3689348814741910323) + (iand .u64 (wr .u64 ((iand .u64 (ishr .u64 x0 1) 6148914691236517205) + (iand .u64 x0 6148914691236517205))) 3689348814741910323))))) 1085102592571150095) + (ishr .u64 (iand .u64 (wr .u64 ((ishr .u64 (wr .u64 ((iand .u64 (ishr .u64 (wr .u64 ((iand .u64 (ishr .u64 x0 1) 6148914691236517205) + (iand .u64 x0 6148914691236517205))) 2) 3689348814741910323) + (iand .u64 (wr .u64 ((iand .u64 (ishr .u64 x0 1) 6148914691236517205) + (iand .u64 x0 6148914691236517205))) 3689348814741910323))) 4) + (wr .u64 ((iand .u64 (ishr .u64 (wr .u64 ((iand .u64 (ishr .u64 x0 1) 6148914691236517205) + (iand .u64 x0 6148914691236517205))) 2) 3689348814741910323) + (iand .u64 (wr .u64 ((iand .u64 (ishr .u64 x0 1) 6148914691236517205) + (iand .u64 x0 6148914691236517205))) 3689348814741910323))))) 1085102592571150095) 8))) + (ishr .u64 (wr .u64 ((iand .u64 (wr .u64 ((ishr .u64 (wr .u64 ((iand .u64 (ishr .u64 (wr .u64 ((iand .u64 (ishr .u64 x0 1) 6148914691236517205) + (iand .u64 x0 6148914691236517205))) 2) 3689348814741910323) + (iand .u64 (wr .u64 ((iand .u64 (ishr .u64 x0 1) 6148914691236517205) + (iand .u64 x0 6148914691236517205))) 3689348814741910323))) 4) + (wr .u64 ((iand .u64 (ishr .u64 (wr .u64 ((iand .u64 (ishr .u64 x0 1) 6148914691236517205) + (iand .u64 x0 6148914691236517205))) 2) 3689348814741910323) + (iand .u64 (wr .u64 ((iand .u64 (ishr .u64 x0 1) 6148914691236517205) + (iand .u64 x0 6148914691236517205))) 3689348814741910323))))) 1085102592571150095) + (ishr .u64 (iand .u64 (wr .u64 ((ishr .u64 (wr .u64 ((iand .u64 (ishr .u64 (wr .u64 ((iand .u64 (ishr .u64 x0 1) 6148914691236517205) + (iand .u64 x0 6148914691236517205))) 2) 3689348814741910323) + (iand .u64 (wr .u64 ((iand .u64 (ishr .u64 x0 1) 6148914691236517205) + (iand .u64 x0 6148914691236517205))) 3689348814741910323))) 4) + (wr .u64 ((iand .u64 (ishr .u64 (wr .u64 ((iand .u64 (ishr .u64 x0 1) 6148914691236517205) + (iand .u64 x0 6148914691236517205))) 2) 3689348814741910323) + (iand .u64 (wr .u64 ((iand .u64 (ishr .u64 x0 1) 6148914691236517205) + (iand .u64 x0 6148914691236517205))) 3689348814741910323))))) 1085102592571150095) 8))) 16)))), (30, .u (ishr .u64 (wr .u64 ((wr .u64 ((iand .u64 (wr .u64 ((ishr .u64 (wr .u64 ((iand .u64 (ishr .u64 (wr .u64 ((iand .u64 (ishr .u64 x0 1) 6148914691236517205) + (iand .u64 x0 6148914691236517205))) 2) 3689348814741910323) + (iand .u64 (wr .u64 ((iand .u64 (ishr .u64 x0 1) 6148914691236517205) + (iand .u64 x0 6148914691236517205))) 3689348814741910323))) 4) + (wr .u64 ((iand .u64 (ishr .u64 (wr .u64 ((iand .u64 (ishr .u64 x0 1) 6148914691236517205) + (iand .u64 x0 6148914691236517205))) 2) 3689348814741910323) + (iand .u64 (wr .u64 ((iand .u64 (ishr .u64 x0 1) 6148914691236517205) + (iand .u64 x0 6148914691236517205))) 3689348814741910323))))) 1085102592571150095) + (ishr .u64 (iand .u64 (wr .u64 ((ishr .u64 (wr .u64 ((iand .u64 (ishr .u64 (wr .u64 ((iand .u64 (ishr .u64 x0 1) 6148914691236517205) + (iand .u64 x0 6148914691236517205))) 2) 3689348814741910323) + (iand .u64 (wr .u64 ((iand .u64 (ishr .u64 x0 1) 6148914691236517205) + (iand .u64 x0 6148914691236517205))) 3689348814741910323))) 4) + (wr .u64 ((iand .u64 (ishr .u64 (wr .u64 ((iand .u64 (ishr .u64 x0 1) 6148914691236517205) + (iand .u64 x0 6148914691236517205))) 2) 3689348814741910323) + (iand .u64 (wr .u64 ((iand .u64 (ishr .u64 x0 1) 6148914691236517205) + (iand .u64 x0 6148914691236517205))) 3689348814741910323))))) 1085102592571150095) 8))) + (ishr .u64 (wr .u64 ((iand .u64 (wr .u64 ((ishr .u64 (wr .u64 ((iand .u64 (ishr .u64 (wr .u64 ((iand .u64 (ishr .u64 x0 1) 6148914691236517205) + (iand .u64 x0 6148914691236517205))) 2) 3689348814741910323) + (iand .u64 (wr .u64 ((iand .u64 (ishr .u64 x0 1) 6148914691236517205) + (iand .u64 x0 6148914691236517205))) 3689348814741910323))) 4) + (wr .u64 ((iand .u64 (ishr .u64 (wr .u64 ((iand .u64 (ishr .u64 x0 1) 6148914691236517205) + (iand .u64 x0 6148914691236517205))) 2) 3689348814741910323) + (iand .u64 (wr .u64 ((iand .u64 (ishr .u64 x0 1) 6148914691236517205) + (iand .u64 x0 6148914691236517205))) 3689348814741910323))))) 1085102592571150095) + (ishr .u64 (iand .u64 (wr .u64 ((ishr .u64 (wr .u64 ((iand .u64 (ishr .u64 (wr .u64 ((iand .u64 (ishr .u64 x0 1) 6148914691236517205) + (iand .u64 x0 6148914691236517205))) 2) 3689348814741910323) + (iand .u64 (wr .u64 ((iand .u64 (ishr .u64 x0 1) 6148914691236517205) + (iand .u64 x0 6148914691236517205))) 3689348814741910323))) 4) + (wr .u64 ((iand .u64 (ishr .u64 (wr .u64 ((iand .u64 (ishr .u64 x0 1) 6148914691236517205) + (iand .u64 x0 6148914691236517205))) 2) 3689348814741910323) + (iand .u64 (wr .u64 ((iand .u64 (ishr .u64 x0 1) 6148914691236517205) + (iand .u64 x0 6148914691236517205))) 3689348814741910323))))) 1085102592571150095) 8))) 16))) 32)), (31, .u (wr .u64 ((wr .u64 ((wr .u64 ((iand .u64 (wr .u64 ((ishr .u64 (wr .u64 ((iand .u64 (ishr .u64 (wr .u64 ((iand .u64 (ishr .u64 x0 1) 6148914691236517205) + (iand .u64 x0 6148914691236517205))) 2) 3689348814741910323) + (iand .u64 (wr .u64 ((iand .u64 (ishr .u64 x0 1) 6148914691236517205) + (iand .u64 x0 6148914691236517205))) 3689348814741910323))) 4) + (wr .u64 ((iand .u64 (ishr .u64 (wr .u64 ((iand .u64 (ishr .u64 x0 1) 6148914691236517205) + (iand .u64 x0 6148914691236517205))) 2) 3689348814741910323) + (iand .u64 (wr .u64 ((iand .u64 (ishr .u64 x0 1) 6148914691236517205) + (iand .u64 x0 6148914691236517205))) 3689348814741910323))))) 1085102592571150095) + (ishr .u64 (iand .u64 (wr .u64 ((ishr .u64 (wr .u64 ((iand .u64 (ishr .u64 (wr .u64 ((iand .u64 (ishr .u64 x0 1) 6148914691236517205) + (iand .u64 x0 6148914691236517205))) 2) 3689348814741910323) + (iand .u64 (wr .u64 ((iand .u64 (ishr .u64 x0 1) 6148914691236517205) + (iand .u64 x0 6148914691236517205))) 3689348814741910323))) 4) + (wr .u64 ((iand .u64 (ishr .u64 (wr .u64 ((iand .u64 (ishr .u64 x0 1) 6148914691236517205) + (iand .u64 x0 6148914691236517205))) 2) 3689348814741910323) + (iand .u64 (wr .u64 ((iand .u64 (ishr .u64 x0 1) 6148914691236517205) + (iand .u64 x0 6148914691236517205))) 3689348814741910323))))) 1085102592571150095) 8))) + (ishr .u64 (wr .u64 ((iand .u64 (wr .u64 ((ishr .u64 (wr .u64 ((iand .u64 (ishr .u64 (wr .u64 ((iand .u64 (ishr .u64 x0 1) 6148914691236517205) + (iand .u64 x0 6148914691236517205))) 2) 3689348814741910323) + (iand .u64 (wr .u64 ((iand .u64 (ishr .u64 x0 1) 6148914691236517205) + (iand .u64 x0 6148914691236517205))) 3689348814741910323))) 4) + (wr .u64 ((iand .u64 (ishr .u64 (wr .u64 ((iand .u64 (ishr .u64 x0 1) 6148914691236517205) + (iand .u64 x0 6148914691236517205))) 2) 3689348814741910323) + (iand .u64 (wr .u64 ((iand .u64 (ishr .u64 x0 1) 6148914691236517205) + (iand .u64 x0 6148914691236517205))) 3689348814741910323))))) 1085102592571150095) + (ishr .u64 (iand .u64 (wr .u64 ((ishr .u64 (wr .u64 ((iand .u64 (ishr .u64 (wr .u64 ((iand .u64 (ishr .u64 x0 1) 6148914691236517205) + (iand .u64 x0 6148914691236517205))) 2) 3689348814741910323) + (iand .u64 (wr .u64 ((iand .u64 (ishr .u64 x0 1) 6148914691236517205) + (iand .u64 x0 6148914691236517205))) 3689348814741910323))) 4) + (wr .u64 ((iand .u64 (ishr .u64 (wr .u64 ((iand .u64 (ishr .u64 x0 1) 6148914691236517205) + (iand .u64 x0 6148914691236517205))) 2) 3689348814741910323) + (iand .u64 (wr .u64 ((iand .u64 (ishr .u64 x0 1) 6148914691236517205) + (iand .u64 x0 6148914691236517205))) 3689348814741910323))))) 1085102592571150095) 8))) 16))) + (ishr .u64 (wr .u64 ((wr .u64 ((iand .u64 (wr .u64 ((ishr .u64 (wr .u64 ((iand .u64 (ishr .u64 (wr .u64 ((iand .u64 (ishr .u64 x0 1) 6148914691236517205) + (iand .u64 x0 6148914691236517205))) 2) 3689348814741910323) + (iand .u64 (wr .u64 ((iand .u64 (ishr .u64 x0 1) 6148914691236517205) + (iand .u64 x0 6148914691236517205))) 3689348814741910323))) 4) + (wr .u64 ((iand .u64 (ishr .u64 (wr .u64 ((iand .u64 (ishr .u64 x0 1) 6148914691236517205) + (iand .u64 x0 6148914691236517205))) 2) 3689348814741910323) + (iand .u64 (wr .u64 ((iand .u64 (ishr .u64 x0 1) 6148914691236517205) + (iand .u64 x0 6148914691236517205))) 3689348814741910323))))) 1085102592571150095) + (ishr .u64 (iand .u64 (wr .u64 ((ishr .u64 (wr .u64 ((iand .u64 (ishr .u64 (wr .u64 ((iand .u64 (ishr .u64 x0 1) 6148914691236517205) + (iand .u64 x0 6148914691236517205))) 2) 3689348814741910323) + (iand .u64 (wr .u64 ((iand .u64 (ishr .u64 x0 1) 6148914691236517205) + (iand .u64 x0 6148914691236517205))) 3689348814741910323))) 4) + (wr .u64 ((iand .u64 (ishr .u64 (wr .u64 ((iand .u64 (ishr .u64 x0 1) 6148914691236517205) + (iand .u64 x0 6148914691236517205))) 2) 3689348814741910323) + (iand .u64 (wr .u64 ((iand .u64 (ishr .u64 x0 1) 6148914691236517205) + (iand .u64 x0 6148914691236517205))) 3689348814741910323))))) 1085102592571150095) 8))) + (ishr .u64 (wr .u64 ((iand .u64 (wr .u64 ((ishr .u64 (wr .u64 ((iand .u64 (ishr .u64 (wr .u64 ((iand .u64 (ishr .u64 x0 1) 6148914691236517205) + (iand .u64 x0 6148914691236517205))) 2) 3689348814741910323) + (iand .u64 (wr .u64 ((iand .u64 (ishr .u64 x0 1) 6148914691236517205) + (iand .u64 x0 6148914691236517205))) 3689348814741910323))) 4) + (wr .u64 ((iand .u64 (ishr .u64 (wr .u64 ((iand .u64 (ishr .u64 x0 1) 6148914691236517205) + (iand .u64 x0 6148914691236517205))) 2) 3689348814741910323) + (iand .u64 (wr .u64 ((iand .u64 (ishr .u64 x0 1) 6148914691236517205) + (iand .u64 x0 6148914691236517205))) 3689348814741910323))))) 1085102592571150095) + (ishr .u64 (iand .u64 (wr .u64 ((ishr .u64 (wr .u64 ((iand .u64 (ishr .u64 (wr .u64 ((iand .u64 (ishr .u64 x0 1) 6148914691236517205) + (iand .u64 x0 6148914691236517205))) 2) 3689348814741910323) + (iand .u64 (wr .u64 ((iand .u64 (ishr .u64 x0 1) 6148914691236517205) + (iand .u64 x0 6148914691236517205))) 3689348814741910323))) 4) + (wr .u64 ((iand .u64 (ishr .u64 (wr .u64 ((iand .u64 (ishr .u64 x0 1) 6148914691236517205) + (iand .u64 x0 6148914691236517205))) 2) 3689348814741910323) + (iand .u64 (wr .u64 ((iand .u64 (ishr .u64 x0 1) 6148914691236517205) + (iand .u64 x0 6148914691236517205))) 3689348814741910323))))) 1085102592571150095) 8))) 16))) 32))))] J1s ?_
 refine Goes.rn 8 [(32, .u (wr .u64 ((wr .u64 ((wr .u64 ((iand .u64 (wr .u64 ((ishr .u64 (wr .u64 ((iand .u64 (ishr .u64 (wr .u64 ((iand .u64 (ishr .u64 x0 1) 6148914691236517205) + (iand .u64 x0 6148914691236517205))) 2) 3689348814741910323) + (iand .u64 (wr .u64 ((iand .u64 (ishr .u64 x0 1) 6148914691236517205) + (iand .u64 x0 6148914691236517205))) 3689348814741910323))) 4) + (wr .u64 ((iand .u64 (ishr .u64 (wr .u64 ((iand .u64 (ishr .u64 x0 1) 6148914691236517205) + (iand .u64 x0 6148914691236517205))) 2) 3689348814741910323) + (iand .u64 (wr .u64 ((iand .u64 (ishr .u64 x0 1) 6148914691236517205) + (iand .u64 x0 6148914691236517205))) 3689348814741910323))))) 1085102592571150095) + (ishr .u64 (iand .u64 (wr .u64 ((ishr .u64 (wr .u64 ((iand .u64 (ishr .u64 (wr .u64 ((iand .u64 (ishr .u64 x0 1) 6148914691236517205) + (iand .u64 x0 6148914691236517205))) 2) 3689348814741910323) + (iand .u64 (wr .u64 ((iand .u64 (ishr .u64 x0 1) 6148914691236517205) + (iand .u64 x0 6148914691236517205))) 3689348814741910323))) 4) + (wr .u64 ((iand .u64 (ishr .u64 (wr .u64 ((iand .u64 (ishr .u64 x0 1) 6148914691236517205) + (iand .u64 x0 6148914691236517205))) 2) 3689348814741910323) + (iand .u64 (wr .u64 ((iand .u64 (ishr .u64 x0 1) 6148914691236517205) + (iand .u64 x0 6148914691236517205))) 3689348814741910323))))) 1085102592571150095) 8))) + (ishr .u64 (wr .u64 ((iand .u64 (wr .u64 ((ishr .u64 (wr .u64 ((iand .u64 (ishr .u64 (wr .u64 ((iand .u64 (ishr .u64 x0 1) 6148914691236517205) + (iand .u64 x0 6148914691236517205))) 2) 3689348814741910323) + (iand .u64 (wr .u64 ((iand .u64 (ishr .u64 x0 1) 6148914691236517205) + (iand .u64 x0 6148914691236517205))) 3689348814741910323))) 4) + (wr .u64 ((iand .u64 (ishr .u64 (wr .u64 ((iand .u64 (ishr .u64 x0 1) 6148914691236517205) + (iand .u64 x0 6148914691236517205))) 2) 3689348814741910323) + (iand .u64 (wr .u64 ((iand .u64 (ishr .u64 x0 1) 6148914691236517205) + (iand .u64 x0 6148914691236517205))) 3689348814741910323))))) 1085102592571150095) + (ishr .u64 (iand .u64 (wr .u64 ((ishr .u64 (wr .u64 ((iand .u64 (ishr .u64 (wr .u64 ((iand .u64 (ishr .u64 x0 1) 6148914691236517205) + (iand .u64 x0 6148914691236517205))) 2) 3689348814741910323) + (iand .u64 (wr .u64 ((iand .u64 (ishr .u64 x0 1) 6148914691236517205) + (iand .u64 x0 6148914691236517205))) 3689348814741910323))) 4) + (wr .u64 ((iand .u64 (ishr .u64 (wr .u64 ((iand .u64 (ishr .u64 x0 1) 6148914691236517205) + (iand .u64 x0 6148914691236517205))) 2) 3689348814741910323) + (iand .u64 (wr .u64 ((iand .u64 (ishr .u64 x0 1) 6148914691236517205) + (iand .u64 x0 6148914691236517205))) 3689348814741910323))))) 1085102592571150095) 8))) 16))) + (ishr .u64 (wr .u64 ((wr .u64 ((iand .u64 (wr .u64 ((ishr .u64 (wr .u64 ((iand .u64 (ishr .u64 (wr .u64 ((iand .u64 (ishr .u64 x0 1) 6148914691236517205) + (iand .u64 x0 6148914691236517205))) 2) 3689348814741910323) + (iand .u64 (wr .u64 ((iand .u64 (ishr .u64 x0 1) 6148914691236517205) + (iand .u64 x0 6148914691236517205))) 3689348814741910323))) 4) + (wr .u64 ((iand .u64 (ishr .u64 (wr .u64 ((iand .u64 (ishr .u64 x0 1) 6148914691236517205) + (iand .u64 x0 6148914691236517205))) 2) 3689348814741910323) + (iand .u64 (wr .u64 ((iand .u64 (ishr .u64 x0 1) 6148914691236517205) + (iand .u64 x0 6148914691236517205))) 3689348814741910323))))) 1085102592571150095) + (ishr .u64 (iand .u64 (wr .u64 ((ishr .u64 (wr .u64 ((iand .u64 (ishr .u64 (wr .u64 ((iand .u64 (ishr .u64 x0 1) 6148914691236517205) + (iand .u64 x0 6148914691236517205))) 2) 3689348814741910323) + (iand .u64 (wr .u64 ((iand .u64 (ishr .u64 x0 1) 6148914691236517205) + (iand .u64 x0 6148914691236517205))) 3689348814741910323))) 4) + (wr .u64 ((iand .u64 (ishr .u64 (wr .u64 ((iand .u64 (ishr .u64 x0 1) 6148914691236517205) + (iand .u64 x0 6148914691236517205))) 2) 3689348814741910323) + (iand .u64 (wr .u64 ((iand .u64 (ishr .u64 x0 1) 6148914691236517205) + (iand .u64 x0 6148914691236517205))) 3689348814741910323))))) 1085102592571150095) 8))) + (ishr .u64 (wr .u64 ((iand .u64 (wr .u64 ((ishr .u64 (wr .u64 ((iand .u64 (ishr .u64 (wr .u64 ((iand .u64 (ishr .u64 x0 1) 6148914691236517205) + (iand .u64 x0 6148914691236517205))) 2) 3689348814741910323) + (iand .u64 (wr .u64 ((iand .u64 (ishr .u64 x0 1) 6148914691236517205) + (iand .u64 x0 6148914691236517205))) 3689348814741910323))) 4) + (wr .u64 ((iand .u64 (ishr .u64 (wr .u64 ((iand .u64 (ishr .u64 x0 1) 6148914691236517205) + (iand .u64 x0 6148914691236517205))) 2) 3689348814741910323) + (iand .u64 (wr .u64 ((iand .u64 (ishr .u64 x0 1) 6148914691236517205) + (iand .u64 x0 6148914691236517205))) 3689348814741910323))))) 1085102592571150095) + (ishr .u64 (iand .u64 (wr .u64 ((ishr .u64 (wr .u64 ((iand .u64 (ishr .u64 (wr .u64 ((iand .u64 (ishr .u64 x0 1) 6148914691236517205) + (iand .u64 x0 6148914691236517205))) 2) 3689348814741910323) + (iand .u64 (wr .u64 ((iand .u64 (ishr .u64 x0 1) 6148914691236517205) + (iand .u64 x0 6148914691236517205))) 3689348814741910323))) 4) + (wr .u64 ((iand .u64 (ishr .u64 (wr .u64 ((iand .u64 (ishr .u64 x0 1) 6148914691236517205) + (iand .u64 x0 6148914691236517205))) 2) 3689348814741910323) + (iand .u64 (wr .u64 ((iand .u64 (ishr .u64 x0 1) 6148914691236517205) + (iand .u64 x0 6148914691236517205))) 3689348814741910323))))) 1085102592571150095) 8))) 16))) 32)))), (33, .i (wr .i64 (wr .u64 ((wr .u64 ((wr .u64 ((iand .u64 (wr .u64 ((ishr .u64 (wr .u64 ((iand .u64 (ishr .u64 (wr .u64 ((iand .u64 (ishr .u64 x0 1) 6148914691236517205) + (iand .u64 x0 6148914691236517205))) 2) 3689348814741910323) + (iand .u64 (wr .u64 ((iand .u64 (ishr .u64 x0 1) 6148914691236517205) + (iand .u64 x0 6148914691236517205))) 3689348814741910323))) 4) + (wr .u64 ((iand .u64 (ishr .u64 (wr .u64 ((iand .u64 (ishr .u64 x0 1) 6148914691236517205) + (iand .u64 x0 6148914691236517205))) 2) 3689348814741910323) + (iand .u64 (wr .u64 ((iand .u64 (ishr .u64 x0 1) 6148914691236517205) + (iand .u64 x0 6148914691236517205))) 3689348814741910323))))) 1085102592571150095) + (ishr .u64 (iand .u64 (wr .u64 ((ishr .u64 (wr .u64 ((iand .u64 (ishr .u64 (wr .u64 ((iand .u64 (ishr .u64 x0 1) 6148914691236517205) + (iand .u64 x0 6148914691236517205))) 2) 3689348814741910323) + (iand .u64 (wr .u64 ((iand .u64 (ishr .u64 x0 1) 6148914691236517205) + (iand .u64 x0 6148914691236517205))) 3689348814741910323))) 4) + (wr .u64 ((iand .u64 (ishr .u64 (wr .u64 ((iand .u64 (ishr .u64 x0 1) 6148914691236517205) + (iand .u64 x0 6148914691236517205))) 2) 3689348814741910323) + (iand .u64 (wr .u64 ((iand .u64 (ishr .u64 x0 1) 6148914691236517205) + (iand .u64 x0 6148914691236517205))) 3689348814741910323))))) 1085102592571150095) 8))) + (ishr .u64 (wr .u64 ((iand .u64 (wr .u64 ((ishr .u64 (wr .u64 ((iand .u64 (ishr .u64 (wr .u64 ((iand .u64 (ishr .u64 x0 1) 6148914691236517205) + (iand .u64 x0 6148914691236517205))) 2) 3689348814741910323) + (iand .u64 (wr .u64 ((iand .u64 (ishr .u64 x0 1) 6148914691236517205) + (iand .u64 x0 6148914691236517205))) 3689348814741910323))) 4) + (wr .u64 ((iand .u64 (ishr .u64 (wr .u64 ((iand .u64 (ishr .u64 x0 1) 6148914691236517205) + (iand .u64 x0 6148914691236517205))) 2) 3689348814741910323) + (iand .u64 (wr .u64 ((iand .u64 (ishr .u64 x0 1) 6148914691236517205) + (iand .u64 x0 6148914691236517205))) 3689348814741910323))))) 1085102592571150095) + (ishr .u64 (iand .u64 (wr .u64 ((ishr .u64 (wr .u64 ((iand .u64 (ishr .u64 (wr .u64 ((iand .u64 (ishr .u64 x0 1) 6148914691236517205) + (iand .u64 x0 6148914691236517205))) 2) 3689348814741910323) + (iand .u64 (wr .u64 ((iand .u64 (ishr .u64 x0 1) 6148914691236517205) + (iand .u64 x0 6148914691236517205))) 3689348814741910323))) 4) + (wr .u64 ((iand .u64 (ishr .u64 (wr .u64 ((iand .u64 (ishr .u64 x0 1) 6148914691236517205) + (iand .u64 x0 6148914691236517205))) 2) 3689348814741910323) + (iand .u64 (wr .u64 ((iand .u64 (ishr .u64 x0 1) 6148914691236517205) + (iand .u64 x0 6148914691236517205))) 3689348814741910323))))) 1085102592571150095) 8))) 16))) + (ishr .u64 (wr .u64 ((wr .u64 ((iand .u64 (wr .u64 ((ishr .u64 (wr .u64 ((iand .u64 (ishr .u64 (wr .u64 ((iand .u64 (ishr .u64 x0 1) 6148914691236517205) + (iand .u64 x0 6148914691236517205))) 2) 3689348814741910323) + (iand .u64 (wr .u64 ((iand .u64 (ishr .u64 x0 1) 6148914691236517205) + (iand .u64 x0 6148914691236517205))) 3689348814741910323))) 4) + (wr .u64 ((iand .u64 (ishr .u64 (wr .u64 ((iand .u64 (ishr .u64 x0 1) 6148914691236517205) + (iand .u64 x0 6148914691236517205))) 2) 3689348814741910323) + (iand .u64 (wr .u64 ((iand .u64 (ishr .u64 x0 1) 6148914691236517205) + (iand .u64 x0 6148914691236517205))) 3689348814741910323))))) 1085102592571150095) + (ishr .u64 (iand .u64 (wr .u64 ((ishr .u64 (wr .u64 ((iand .u64 (ishr .u64 (wr .u64 ((iand .u64 (ishr .u64 x0 1) 6148914691236517205) + (iand .u64 x0 6148914691236517205))) 2) 3689348814741910323) + (iand .u64 (wr .u64 ((iand .u64 (ishr .u64 x0 1) 6148914691236517205) + (iand .u64 x0 6148914691236517205))) 3689348814741910323))) 4) + (wr .u64 ((iand .u64 (ishr .u64 (wr .u64 ((iand .u64 (ishr .u64 x0 1) 6148914691236517205) + (iand .u64 x0 6148914691236517205))) 2) 3689348814741910323) + (iand .u64 (wr .u64 ((iand .u64 (ishr .u64 x0 1) 6148914691236517205) + (iand .u64 x0 6148914691236517205))) 3689348814741910323))))) 1085102592571150095) 8))) + (ishr .u64 (wr .u64 ((iand .u64 (wr .u64 ((ishr .u64 (wr .u64 ((iand .u64 (ishr .u64 (wr .u64 ((iand .u64 (ishr .u64 x0 1) 6148914691236517205) + (iand .u64 x0 6148914691236517205))) 2) 3689348814741910323) + (iand .u64 (wr .u64 ((iand .u64 (ishr .u64 x0 1) 6148914691236517205) + (iand .u64 x0 6148914691236517205))) 3689348814741910323))) 4) + (wr .u64 ((iand .u64 (ishr .u64 (wr .u64 ((iand .u64 (ishr .u64 x0 1) 6148914691236517205) + (iand .u64 x0 6148914691236517205))) 2) 3689348814741910323) + (iand .u64 (wr .u64 ((iand .u64 (ishr .u64 x0 1) 6148914691236517205) + (iand .u64 x0 6148914691236517205))) 3689348814741910323))))) 1085102592571150095) + (ishr .u64 (iand .u64 (wr .u64 ((ishr .u64 (wr .u64 ((iand .u64 (ishr .u64 (wr .u64 ((iand .u64 (ishr .u64 x0 1) 6148914691236517205) + (iand .u64 x0 6148914691236517205))) 2) 3689348814741910323) + (iand .u64 (wr .u64 ((iand .u64 (ishr .u64 x0 1) 6148914691236517205) + (iand .u64 x0 6148914691236517205))) 3689348814741910323))) 4) + (wr .u64 ((iand .u64 (ishr .u64 (wr .u64 ((iand .u64 (ishr .u64 x0 1) 6148914691236517205) + (iand .u64 x0 6148914691236517205))) 2) 3689348814741910323) + (iand .u64 (wr .u64 ((iand .u64 (ishr .u64 x0 1) 6148914691236517205) + (iand .u64 x0 6148914691236517205))) 3689348814741910323))))) 1085102592571150095) 8))) 16))) 32))))), (34, .i (iand .i64 (wr .i64 (wr .u64 ((wr .u64 ((wr .u64 ((iand .u64 (wr .u64 ((ishr .u64 (wr .u64 ((iand .u64 (ishr .u64 (wr .u64 ((iand .u64 (ishr .u64 x0 1) 6148914691236517205) + (iand .u64 x0 6148914691236517205))) 2) 3689348814741910323) + (iand .u64 (wr .u64 ((iand .u64 (ishr .u64 x0 1) 6148914691236517205) + (iand .u64 x0 6148914691236517205))) 3689348814741910323))) 4) + (wr .u64 ((iand .u64 (ishr .u64 (wr .u64 ((iand .u64 (ishr .u64 x0 1) 6148914691236517205) + (iand .u64 x0 6148914691236517205))) 2) 3689348814741910323) + (iand .u64 (wr .u64 ((iand .u64 (ishr .u64 x0 1) 6148914691236517205) + (iand .u64 x0 6148914691236517205))) 3689348814741910323))))) 1085102592571150095) + (ishr .u64 (iand .u64 (wr .u64 ((ishr .u64 (wr .u64 ((iand .u64 (ishr .u64 (wr .u64 ((iand .u64 (ishr .u64 x0 1) 6148914691236517205) + (iand .u64 x0 6148914691236517205))) 2) 3689348814741910323) + (iand .u64 (wr .u64 ((iand .u64 (ishr .u64 x0 1) 6148914691236517205) + (iand .u64 x0 6148914691236517205))) 3689348814741910323))) 4) + (wr .u64 ((iand .u64 (ishr .u64 (wr .u64 ((iand .u64 (ishr .u64 x0 1) 6148914691236517205) + (iand .u64 x0 6148914691236517205))) 2) 3689348814741910323) + (iand .u64 (wr .u64 ((iand .u64 (ishr .u64 x0 1) 6148914691236517205) + (iand .u64 x0 6148914691236517205))) 3689348814741910323))))) 1085102592571150095) 8))) + (ishr .u64 (wr .u64 ((iand .u64 (wr .u64 ((ishr .u64 (wr .u64 ((iand .u64 (ishr .u64 (wr .u64 ((iand .u64 (ishr .u64 x0 1) 6148914691236517205) + (iand .u64 x0 6148914691236517205))) 2) 3689348814741910323) + (iand .u64 (wr .u64 ((iand .u64 (ishr .u64 x0 1) 6148914691236517205) + (iand .u64 x0 6148914691236517205))) 3689348814741910323))) 4) + (wr .u64 ((iand .u64 (ishr .u64 (wr .u64 ((iand .u64 (ishr .u64 x0 1) 6148914691236517205) + (iand .u64 x0 6148914691236517205))) 2) 3689348814741910323) + (iand .u64 (wr .u64 ((iand .u64 (ishr .u64 x0 1) 6148914691236517205) + (iand .u64 x0 6148914691236517205))) 3689348814741910323))))) 1085102592571150095) + (ishr .u64 (iand .u64 (wr .u64 ((ishr .u64 (wr .u64 ((iand .u64 (ishr .u64 (wr .u64 ((iand .u64 (ishr .u64 x0 1) 6148914691236517205) + (iand .u64 x0 6148914691236517205))) 2) 3689348814741910323) + (iand .u64 (wr .u64 ((iand .u64 (ishr .u64 x0 1) 6148914691236517205) + (iand .u64 x0 6148914691236517205))) 3689348814741910323))) 4) + (wr .u64 ((iand .u64 (ishr .u64 (wr .u64 ((iand .u64 (ishr .u64 x0 1) 6148914691236517205) + (iand .u64 x0 6148914691236517205))) 2) 3689348814741910323) + (iand .u64 (wr .u64 ((iand .u64 (ishr .u64 x0 1) 6148914691236517205) + (iand .u64 x0 6148914691236517205))) 3689348814741910323))))) 1085102592571150095) 8))) 16))) + (ishr .u64 (wr .u64 ((wr .u64 ((iand .u64 (wr .u64 ((ishr .u64 (wr .u64 ((iand .u64 (ishr .u64 (wr .u64 ((iand .u64 (ishr .u64 x0 1) 6148914691236517205) + (iand .u64 x0 6148914691236517205))) 2) 3689348814741910323) + (iand .u64 (wr .u64 ((iand .u64 (ishr .u64 x0 1) 6148914691236517205) + (iand .u64 x0 6148914691236517205))) 3689348814741910323))) 4) + (wr .u64 ((iand .u64 (ishr .u64 (wr .u64 ((iand .u64 (ishr .u64 x0 1) 6148914691236517205) + (iand .u64 x0 6148914691236517205))) 2) 3689348814741910323) + (iand .u64 (wr .u64 ((iand .u64 (ishr .u64 x0 1) 6148914691236517205) + (iand .u64 x0 6148914691236517205))) 3689348814741910323))))) 1085102592571150095) + (ishr .u64 (iand .u64 (wr .u64 ((ishr .u64 (wr .u64 ((iand .u64 (ishr .u64 (wr .u64 ((iand .u64 (ishr .u64 x0 1) 6148914691236517205) + (iand .u64 x0 6148914691236517205))) 2) 3689348814741910323) + (iand .u64 (wr .u64 ((iand .u64 (ishr .u64 x0 1) 6148914691236517205) + (iand .u64 x0 6148914691236517205))) 3689348814741910323))) 4) + (wr .u64 ((iand .u64 (ishr .u64 (wr .u64 ((iand .u64 (ishr .u64 x0 1) 6148914691236517205) + (iand .u64 x0 6148914691236517205))) 2) 3689348814741910323) + (iand .u64 (wr .u64 ((iand .u64 (ishr .u64 x0 1) 6148914691236517205) + (iand .u64 x0 6148914691236517205))) 3689348814741910323))))) 1085102592571150095) 8))) + (ishr .u64 (wr .u64 ((iand .u64 (wr .u64 ((ishr .u64 (wr .u64 ((iand .u64 (ishr .u64 (wr .u64 ((iand .u64 (ishr .u64 x0 1) 6148914691236517205) + (iand .u64 x0 6148914691236517205))) 2) 3689348814741910323) + (iand .u64 (wr .u64 ((iand .u64 (ishr .u64 x0 1) 6148914691236517205) + (iand .u64 x0 6148914691236517205))) 3689348814741910323))) 4) + (wr .u64 ((iand .u64 (ishr .u64 (wr .u64 ((iand .u64 (ishr .u64 x0 1) 6148914691236517205) + (iand .u64 x0 6148914691236517205))) 2) 3689348814741910323) + (iand .u64 (wr .u64 ((iand .u64 (ishr .u64 x0 1) 6148914691236517205) + (iand .u64 x0 6148914691236517205))) 3689348814741910323))))) 1085102592571150095) + (ishr .u64 (iand .u64 (wr .u64 ((ishr .u64 (wr .u64 ((iand .u64 (ishr .u64 (wr .u64 ((iand .u64 (ishr .u64 x0 1) 6148914691236517205) + (iand .u64 x0 6148914691236517205))) 2) 3689348814741910323) + (iand .u64 (wr .u64 ((iand .u64 (ishr .u64 x0 1) 6148914691236517205) + (iand .u64 x0 6148914691236517205))) 3689348814741910323))) 4) + (wr .u64 ((iand .u64 (ishr .u64 (wr .u64 ((iand .u64 (ishr .u64 x0 1) 6148914691236517205) + (iand .u64 x0 6148914691236517205))) 2) 3689348814741910323) + (iand .u64 (wr .u64 ((iand .u64 (ishr .u64 x0 1) 6148914691236517205) + (iand .u64 x0 6148914691236517205))) 3689348814741910323))))) 1085102592571150095) 8))) 16))) 32)))) 127)), (2, .i (iand .i64 (wr .i64 (wr .u64 ((wr .u64 ((wr .u64 ((iand .u64 (wr .u64 ((ishr .u64 (wr .u64 ((iand .u64 (ishr .u64 (wr .u64 ((iand .u64 (ishr .u64 x0 1) 6148914691236517205) + (iand .u64 x0 6148914691236517205))) 2) 3689348814741910323) + (iand .u64 (wr .u64 ((iand .u64 (ishr .u64 x0 1) 6148914691236517205) + (iand .u64 x0 6148914691236517205))) 3689348814741910323))) 4) + (wr .u64 ((iand .u64 (ishr .u64 (wr .u64 ((iand .u64 (ishr .u64 x0 1) 6148914691236517205) + (iand .u64 x0 6148914691236517205))) 2) 3689348814741910323) + (iand .u64 (wr .u64 ((iand .u64 (ishr .u64 x0 1) 6148914691236517205) + (iand .u64 x0 6148914691236517205))) 3689348814741910323))))) 1085102592571150095) + (ishr .u64 (iand .u64 (wr .u64 ((ishr .u64 (wr .u64 ((iand .u64 (ishr .u64 (wr .u64 ((iand .u64 (ishr .u64 x0 1) 6148914691236517205) + (iand .u64 x0 6148914691236517205))) 2) 3689348814741910323) + (iand .u64 (wr .u64 ((iand .u64 (ishr .u64 x0 1) 6148914691236517205) + (iand .u64 x0 6148914691236517205))) 3689348814741910323))) 4) + (wr .u64 ((iand .u64 (ishr .u64 (wr .u64 ((iand .u64 (ishr .u64 x0 1) 6148914691236517205) + (iand .u64 x0 6148914691236517205))) 2) 3689348814741910323) + (iand .u64 (wr .u64 ((iand .u64 (ishr .u64 x0 1) 6148914691236517205) + (iand .u64 x0 6148914691236517205))) 3689348814741910323))))) 1085102592571150095) 8))) + (ishr .u64 (wr .u64 ((iand .u64 (wr .u64 ((ishr .u64 (wr .u64 ((iand .u64 (ishr .u64 (wr .u64 ((iand .u64 (ishr .u64 x0 1) 6148914691236517205) + (iand .u64 x0 6148914691236517205))) 2) 3689348814741910323) + (iand .u64 (wr .u64 ((iand .u64 (ishr .u64 x0 1) 6148914691236517205) + (iand .u64 x0 6148914691236517205))) 3689348814741910323))) 4) + (wr .u64 ((iand .u64 (ishr .u64 (wr .u64 ((iand .u64 (ishr .u64 x0 1) 6148914691236517205) + (iand .u64 x0 6148914691236517205))) 2) 3689348814741910323) + (iand .u64 (wr .u64 ((iand .u64 (ishr .u64 x0 1) 6148914691236517205) + (iand .u64 x0 6148914691236517205))) 3689348814741910323))))) 1085102592571150095) + (ishr .u64 (iand .u64 (wr .u64 ((ishr .u64 (wr .u64 ((iand .u64 (ishr .u64 (wr .u64 ((iand .u64 (ishr .u64 x0 1) 6148914691236517205) + (iand .u64 x0 6148914691236517205))) 2) 3689348814741910323) + (iand .u64 (wr .u64 ((iand .u64 (ishr .u64 x0 1) 6148914691236517205) + (iand .u64 x0 6148914691236517205))) 3689348814741910323))) 4) + (wr .u64 ((iand .u64 (ishr .u64 (wr .u64 ((iand .u64 (ishr .u64 x0 1) 6148914691236517205) + (iand .u64 x0 6148914691236517205))) 2) 3689348814741910323) + (iand .u64 (wr .u64 ((iand .u64 (ishr .u64 x0 1) 6148914691236517205) + (iand .u64 x0 6148914691236517205))) 3689348814741910323))))) 1085102592571150095) 8))) 16))) + (ishr .u64 (wr .u64 ((wr .u64 ((iand .u64 (wr .u64 ((ishr .u64 (wr .u64 ((iand .u64 (ishr .u64 (wr .u64 ((iand .u64 (ishr .u64 x0 1) 6148914691236517205) + (iand .u64 x0 6148914691236517205))) 2) 3689348814741910323) + (iand .u64 (wr .u64 ((iand .u64 (ishr .u64 x0 1) 6148914691236517205) + (iand .u64 x0 6148914691236517205))) 3689348814741910323))) 4) + (wr .u64 ((iand .u64 (ishr .u64 (wr .u64 ((iand .u64 (ishr .u64 x0 1) 6148914691236517205) + (iand .u64 x0 6148914691236517205))) 2) 3689348814741910323) + (iand .u64 (wr .u64 ((iand .u64 (ishr .u64 x0 1) 6148914691236517205) + (iand .u64 x0 6148914691236517205))) 3689348814741910323))))) 1085102592571150095) + (ishr .u64 (iand .u64 (wr .u64 ((ishr .u64 (wr .u64 ((iand .u64 (ishr .u64 (wr .u64 ((iand .u64 (ishr .u64 x0 1) 6148914691236517205) + (iand .u64 x0 6148914691236517205))) 2) 3689348814741910323) + (iand .u64 (wr .u64 ((iand .u64 (ishr .u64 x0 1) 6148914691236517205) + (iand .u64 x0 6148914691236517205))) 3689348814741910323))) 4) + (wr .u64 ((iand .u64 (ishr .u64 (wr .u64 ((iand .u64 (ishr .u64 x0 1) 6148914691236517205) + (iand .u64 x0 6148914691236517205))) 2) 3689348814741910323) + (iand .u64 (wr .u64 ((iand .u64 (ishr .u64 x0 1) 6148914691236517205) + (iand .u64 x0 6148914691236517205))) 3689348814741910323))))) 1085102592571150095) 8))) + (ishr .u64 (wr .u64 ((iand .u64 (wr .u64 ((ishr .u64 (wr .u64 ((iand .u64 (ishr .u64 (wr .u64 ((iand .u64 (ishr .u64 x0 1) 6148914691236517205) + (iand .u64 x0 6148914691236517205))) 2) 3689348814741910323) + (iand .u64 (wr .u64 ((iand .u64 (ishr .u64 x0 1) 6148914691236517205) + (iand .u64 x0 6148914691236517205))) 3689348814741910323))) 4) + (wr .u64 ((iand .u64 (ishr .u64 (wr .u64 ((iand .u64 (ishr .u64 x0 1) 6148914691236517205) + (iand .u64 x0 6148914691236517205))) 2) 3689348814741910323) + (iand .u64 (wr .u64 ((iand .u64 (ishr .u64 x0 1) 6148914691236517205) + (iand .u64 x0 6148914691236517205))) 3689348814741910323))))) 1085102592571150095) + (ishr .u64 (iand .u64 (wr .u64 ((ishr .u64 (wr .u64 ((iand .u64 (ishr .u64 (wr .u64 ((iand .u64 (ishr .u64 x0 1) 6148914691236517205) + (iand .u64 x0 6148914691236517205))) 2) 3689348814741910323) + (iand .u64 (wr .u64 ((iand .u64 (ishr .u64 x0 1) 6148914691236517205) + (iand .u64 x0 6148914691236517205))) 3689348814741910323))) 4) + (wr .u64 ((iand .u64 (ishr .u64 (wr .u64 ((iand .u64 (ishr .u64 x0 1) 6148914691236517205) + (iand .u64 x0 6148914691236517205))) 2) 3689348814741910323) + (iand .u64 (wr .u64 ((iand .u64 (ishr .u64 x0 1) 6148914691236517205) + (iand .u64 x0 6148914691236517205))) 3689348814741910323))))) 1085102592571150095) 8))) 16))) 32)))) 127))] J1t ?_
 obtain rfl := Option.some.inj h
 exact Goes.rt Tryd.f76 (.i (iand .i64 (wr .i64 (wr .u64 ((wr .u64 ((wr .u64 ((iand .u64 (wr .u64 ((ishr .u64 (wr .u64 ((iand .u64 (ishr .u64 (wr .u64 ((iand .u64 (ishr .u64 x0 1) 6148914691236517205) + (iand .u64 x0 6148914691236517205))) 2) 3689348814741910323) + (iand .u64 (wr .u64 ((iand .u64 (ishr .u64 x0 1) 6148914691236517205) + (iand .u64 x0 6148914691236517205))) 3689348814741910323))) 4) + (wr .u64 ((iand .u64 (ishr .u64 (wr .u64 ((iand .u64 (ishr .u64 x0 1) 6148914691236517205) + (iand .u64 x0 6148914691236517205))) 2) 3689348814741910323) + (iand .u64 (wr .u64 ((iand .u64 (ishr .u64 x0 1) 6148914691236517205) + (iand .u64 x0 6148914691236517205))) 3689348814741910323))))) 1085102592571150095) + (ishr .u64 (iand .u64 (wr .u64 ((ishr .u64 (wr .u64 ((iand .u64 (ishr .u64 (wr .u64 ((iand .u64 (ishr .u64 x0 1) 6148914691236517205) + (iand .u64 x0 6148914691236517205))) 2) 3689348814741910323) + (iand .u64 (wr .u64 ((iand .u64 (ishr .u64 x0 1) 6148914691236517205) + (iand .u64 x0 6148914691236517205))) 3689348814741910323))) 4) + (wr .u64 ((iand .u64 (ishr .u64 (wr .u64 ((iand .u64 (ishr .u64 x0 1) 6148914691236517205) + (iand .u64 x0 6148914691236517205))) 2) 3689348814741910323) + (iand .u64 (wr .u64 ((iand .u64 (ishr .u64 x0 1) 6148914691236517205) + (iand .u64 x0 6148914691236517205))) 3689348814741910323))))) 1085102592571150095) 8))) + (ishr .u64 (wr .u64 ((iand .u64 (wr .u64 ((ishr .u64 (wr .u64 ((iand .u64 (ishr .u64 (wr .u64 ((iand .u64 (ishr .u64 x0 1) 6148914691236517205) + (iand .u64 x0 6148914691236517205))) 2) 3689348814741910323) + (iand .u64 (wr .u64 ((iand .u64 (ishr .u64 x0 1) 6148914691236517205) + (iand .u64 x0 6148914691236517205))) 3689348814741910323))) 4) + (wr .u64 ((iand .u64 (ishr .u64 (wr .u64 ((iand .u64 (ishr .u64 x0 1) 6148914691236517205) + (iand .u64 x0 6148914691236517205))) 2) 3689348814741910323) + (iand .u64 (wr .u64 ((iand .u64 (ishr .u64 x0 1) 6148914691236517205) + (iand .u64 x0 6148914691236517205))) 3689348814741910323))))) 1085102592571150095) + (ishr .u64 (iand .u64 (wr .u64 ((ishr .u64 (wr .u64 ((iand .u64 (ishr .u64 (wr .u64 ((iand .u64 (ishr .u64 x0 1) 6148914691236517205) + (iand .u64 x0 6148914691236517205))) 2) 3689348814741910323) + (iand .u64 (wr .u64 ((iand .u64 (ishr .u64 x0 1) 6148914691236517205) + (iand .u64 x0 6148914691236517205))) 3689348814741910323))) 4) + (wr .u64 ((iand .u64 (ishr .u64 (wr .u64 ((iand .u64 (ishr .u64 x0 1) 6148914691236517205) + (iand .u64 x0 6148914691236517205))) 2) 3689348814741910323) + (iand .u64 (wr .u64 ((iand .u64 (ishr .u64 x0 1) 6148914691236517205) + (iand .u64 x0 6148914691236517205))) 3689348814741910323))))) 1085102592571150095) 8))) 16))) + (ishr .u64 (wr .u64 ((wr .u64 ((iand .u64 (wr .u64 ((ishr .u64 (wr .u64 ((iand .u64 (ishr .u64 (wr .u64 ((iand .u64 (ishr .u64 x0 1) 6148914691236517205) + (iand .u64 x0 6148914691236517205))) 2) 3689348814741910323) + (iand .u64 (wr .u64 ((iand .u64 (ishr .u64 x0 1) 6148914691236517205) + (iand .u64 x0 6148914691236517205))) 3689348814741910323))) 4) + (wr .u64 ((iand .u64 (ishr .u64 (wr .u64 ((iand .u64 (ishr .u64 x0 1) 6148914691236517205) + (iand .u64 x0 6148914691236517205))) 2) 3689348814741910323) + (iand .u64 (wr .u64 ((iand .u64 (ishr .u64 x0 1) 6148914691236517205) + (iand .u64 x0 6148914691236517205))) 3689348814741910323))))) 1085102592571150095) + (ishr .u64 (iand .u64 (wr .u64 ((ishr .u64 (wr .u64 ((iand .u64 (ishr .u64 (wr .u64 ((iand .u64 (ishr .u64 x0 1) 6148914691236517205) + (iand .u64 x0 6148914691236517205))) 2) 3689348814741910323) + (iand .u64 (wr .u64 ((iand .u64 (ishr .u64 x0 1) 6148914691236517205) + (iand .u64 x0 6148914691236517205))) 3689348814741910323))) 4) + (wr .u64 ((iand .u64 (ishr .u64 (wr .u64 ((iand .u64 (ishr .u64 x0 1) 6148914691236517205) + (iand .u64 x0 6148914691236517205))) 2) 3689348814741910323) + (iand .u64 (wr .u64 ((iand .u64 (ishr .u64 x0 1) 6148914691236517205) + (iand .u64 x0 6148914691236517205))) 3689348814741910323))))) 1085102592571150095) 8))) + (ishr .u64 (wr .u64 ((iand .u64 (wr .u64 ((ishr .u64 (wr .u64 ((iand .u64 (ishr .u64 (wr .u64 ((iand .u64 (ishr .u64 x0 1) 6148914691236517205) + (iand .u64 x0 6148914691236517205))) 2) 3689348814741910323) + (iand .u64 (wr .u64 ((iand .u64 (ishr .u64 x0 1) 6148914691236517205) + (iand .u64 x0 6148914691236517205))) 3689348814741910323))) 4) + (wr .u64 ((iand .u64 (ishr .u64 (wr .u64 ((iand .u64 (ishr .u64 x0 1) 6148914691236517205) + (iand .u64 x0 6148914691236517205))) 2) 3689348814741910323) + (iand .u64 (wr .u64 ((iand .u64 (ishr .u64 x0 1) 6148914691236517205) + (iand .u64 x0 6148914691236517205))) 3689348814741910323))))) 1085102592571150095) + (ishr .u64 (iand .u64 (wr .u64 ((ishr .u64 (wr .u64 ((iand .u64 (ishr .u64 (wr .u64 ((iand .u64 (ishr .u64 x0 1) 6148914691236517205) + (iand .u64 x0 6148914691236517205))) 2) 3689348814741910323) + (iand .u64 (wr .u64 ((iand .u64 (ishr .u64 x0 1) 6148914691236517205) + (iand .u64 x0 6148914691236517205))) 3689348814741910323))) 4) + (wr .u64 ((iand .u64 (ishr .u64 (wr .u64 ((iand .u64 (ishr .u64 x0 1) 6148914691236517205) + (iand .u64 x0 6148914691236517205))) 2) 3689348814741910323) + (iand .u64 (wr .u64 ((iand .u64 (ishr .u64 x0 1) 6148914691236517205) + (iand .u64 x0 6148914691236517205))) 3689348814741910323))))) 1085102592571150095) 8))) 16))) 32)))) 127)) ⟨S0, rfl, (Ext.refl S0 w0), p0⟩

def Q1c := sub [1, 1, 1] B61
def J1u : List Item := [.code Q1c]
def J1v : List Item := .inBlock 0 :: J1u
def Q1d := sub [1, 1, 0, 1, 0, 1, 0, 1, 1] B61
def J1w : List Item := .code Q1d :: J1v
def J1x : List Item := .inBlock 1 :: J1w
def Q1e := sub [1, 1, 0, 1, 0, 1, 0, 1, 0, 1, 0, 0] B61
def J1y : List Item := .inLoop Q1e :: J1x
def J1z : List Item := .code Q1e :: J1y
def Q1f := sub [1, 1, 0, 1, 0, 1, 0, 1, 0, 1, 0, 0, 1, 1] B61
def J20 : List Item := .code Q1f :: J1y
def Q1g := sub [1, 1, 0, 1, 0, 1, 0, 1, 0, 1, 0, 0, 1, 0] B61
def J21 : List Item := .code Q1g :: J20
def Q1h := sub [1, 1, 0, 1, 0, 1, 0, 1, 0, 1, 0, 0, 1, 1, 1] B61
def J22 : List Item := .code Q1h :: J1y
def J23 : List Item := .inBlock 2 :: J22
def Q1i := sub [1, 1, 0, 1, 0, 1, 0, 1, 0, 1, 0, 0, 1, 1, 0, 0, 1] B61
def J24 : List Item := .code Q1i :: J23
def Q1j := sub [1, 1, 0, 1, 0, 1, 0, 1, 0, 1, 0, 0, 1, 1, 0, 0, 0] B61
def J25 : List Item := .inRegion (opsOf Q1j) [0, 1] :: J24
def J26 : List Item := .inRegion (opsOf Q1i) [2, 3, 4] :: J23
def Q1k := sub [1, 1, 0, 1, 0, 1, 0, 1, 1, 1] B61
def J27 : List Item := .code Q1k :: J1v
def Q1l := sub [1, 1, 0, 1, 0, 1, 0, 1, 1, 0] B61
def J28 : List Item := .code Q1l :: J27

def Post.z7 (r : List ByteArray) (v : Value) (w' : World) : Prop :=
 ∃ S' Gq nq cq csq, v = .slice (Gp Gq) nq cq ∧ Ext S0 w0 S' w' ∧ Hp nz wz S' w' ((Gq, .row 9 csq (cq * kStr.size) 0) :: Lr) ∧ Els kStr S' w' csq r ∧ r.length = nq

def L.z8 : T48 × Int × (List Int) × Int → (List ByteArray) → Prop := fun ⟨x1v, x4, x12, x13⟩ r => ∀ S1 w1, Ext S0 w0 S1 w1 → ∀ gx1 (_ : Hp nz wz S1 w1 ((some gx1, .row 49 (.i x1v.Op :: U4 x1v.Set [.i x1v.X, .i x1v.Y]) 7 0) :: Lr)) (_ : x1v.Set.length = 4) (_ : x12.length = 4) (junk : Nat → Value),
 Goes Tryd.prog (base 61) J1z ⟨lfr 48 [(1, (pt gx1 0)), (3, .func (.func 75) #[] #[]), (4, .i x4), (12, (ag (U4 x12 []))), (13, .i x13)] junk, []⟩ w1 (Done Tryd.prog 61 (Rets (Post.z7 nz wz S0 w0 Lr r)))

theorem W.z8 {nz wz S0 w0 Lr} [Gw nz wz] : ∀ a r, M.prog_line_l0 a = some r → (L.z8 nz wz S0 w0 Lr) a r := by
 refine M.prog_line_l0.partial_correctness (motive := (L.z8 nz wz S0 w0 Lr)) ?_
 intro ug uh ⟨x1v, x4, x12, x13⟩ r h S1 w1 hx gx1 p1 ui uj junk
 try dsimp only at h
 refine Goes.rn 5 [(14, .bool (decide (x13 < 4)))] J21 ?_
 refine ite_some h (fun h26 h => ?_) (fun h26 h => ?_)
 ·
  rw [decide_eq_true h26]
  refine Goes.rn 6 [] J25 ?_
  refine guard_some' h fun g27 h => ?_
  refine Op_.ixV 25 (.tmp 12) (.tmp 13) 15 23 23 4 .u64 .i64 x13 (vs := ((U4 x12 []) : List Value)) (xs := x12) Goes.v (by kernel_rfl) (by kernel_rfl) (by kernel_rfl) (by kernel_rfl) (by kernel_rfl) (els_mk4 (S := S1) (w := w1) (k := .u64) uj) rfl g27 h26 ?_
  refine Goes.rn 5 [(6, .u (gi x12 x13)), (16, .i x4), (17, .u (gi x12 x13))] J26 ?_
  refine bind_some' h fun y28 e29 h => ?_
  refine Goes.cal (kc 76 [17] #[23]) 18 3 76 _ (W.z6 (gi x12 x13) y28 e29  p1 ) ?_
  rintro _ w10 ⟨S10, rfl, z10, p10⟩
  refine Goes.rn 9 [(19, .i (wr .i64 (x4 + y28))), (4, .i (wr .i64 (x4 + y28))), (20, .i (wr .i64 (x13 + 1))), (13, .i (wr .i64 (x13 + 1)))] J1z ?_
  exact Goes.jp 48 [(1, (pt gx1 0)), (3, .func (.func 75) #[] #[]), (4, .i (wr .i64 (x4 + y28))), (12, (ag (U4 x12 []))), (13, .i (wr .i64 (x13 + 1)))] (uh _ _ h _ _ (hx.trans z10) gx1 p10 ui uj)
 ·
  rw [decide_eq_false h26]
  refine Goes.rn 3 [] J28 ?_
  have z11 : Ext S1 w1 S1 (w1).drew := Ext.draw
  have p11 := p1.draw
  refine Goes.drawn (s := [6, 7]) (F := Fc S1 (w1).drew [(⟨gx1, 5, none⟩, .i x1v.X)]) 10 9 (by kernel_rfl) (by kernel_rfl) (by kernel_rfl) (by kernel_rfl) ?_
  generalize (w1).drew = w11 at z11 p11 ⊢
  refine AnyG.pu 0 (.move (.tmp 3)) 21 87 (.func (.func 75) #[] #[]) (Fc.here (p11.cs [(0, 5, 1)])) ?_
  refine AnyG.pu 1 (.move (.tmp 4)) 22 3 (.i x4) (Fc.here (p11.cs [(0, 5, 1)])) ?_
  refine AnyG.pu 3 (.move (.tmp 3)) 24 87 (.func (.func 75) #[] #[]) (Fc.here (p11.cs [(0, 5, 1)])) ?_
  refine AnyG.pu 4 (.fieldAddr 49 (.tmp 1) 2) 25 0 ((pt gx1 5)) (Fc.here (p11.cs [(0, 5, 1)])) ?_
  refine AnyG.ld1 (i := 5) 3 (.tmp 25) 26 3 ⟨gx1, 5, none⟩ (.i x1v.X) (by kernel_rfl) (by kernel_rfl) (Fc.here (p11.cs [(0, 5, 1)])) (by kernel_rfl) (by kernel_rfl) (fun _ h => h.2.at_ 0 rfl) ?_
  refine guard_some' h fun g30 h => ?_
  refine guard_some' h fun g31 h => ?_
  refine Op_.call (.call { callee := .value (.tmp 21), args := #[(.tmp 22)], argTypes := #[3] }) 23 9 75 #[.i x4] (AnyG.cs (i := 2) (by kernel_rfl) (by kernel_rfl)) (by kernel_rfl) (itoa_calls Tryd.laysM171 p11 (Gw.g2.to (by decide)) x4 g30 g31) ?_
  rintro _ w12 ⟨rfl, z12, p12⟩
  have p12 : Hp nz wz S1 w12 ((some gx1, .row 49 (.i x1v.Op :: U4 x1v.Set [.i x1v.X, .i x1v.Y]) 7 0) :: Lr) := p12
  refine AnyG.next z12 ⟨(p12.c 0 5), trivial⟩ ?_
  refine guard_some' h fun g32 h => ?_
  refine guard_some' h fun g33 h => ?_
  refine Op_.call (.call { callee := .value (.tmp 24), args := #[(.tmp 26)], argTypes := #[3] }) 27 9 75 #[.i x1v.X] (AnyG.cs (i := 6) (by kernel_rfl) (by kernel_rfl)) (by kernel_rfl) (itoa_calls Tryd.laysM171 p12 (Gw.g2.to (by decide)) x1v.X g32 g33) ?_
  rintro _ w13 ⟨rfl, z13, p13⟩
  have p13 : Hp nz wz S1 w13 ((some gx1, .row 49 (.i x1v.Op :: U4 x1v.Set [.i x1v.X, .i x1v.Y]) 7 0) :: Lr) := p13
  refine AnyG.last [7] (Fc S1 w13 []) (by decide) ?_
  refine let_some h fun v36 e37 h => ?_
  have f35 : Els kStr S1 w13 ([.string (⟨#[98, 121, 116, 101]⟩ : ByteArray), .string (itoaB x4), .string (itoaB x1v.X)] : List Value) v36 := by rw [← e37]; exact (Els.cons (K := kStr) (vs := [.string (⟨#[98, 121, 116, 101]⟩ : ByteArray)]) (x := (⟨#[98, 121, 116, 101]⟩ : ByteArray)) rfl (Els.cons (K := kStr) (vs := [.string (itoaB x4)]) (x := itoaB x4) rfl (Els.cons (K := kStr) (vs := [.string (itoaB x1v.X)]) (x := itoaB x1v.X) rfl Els.nil)))
  refine Op_.made (.buildSlice 107 3 #[(0, (.const (.string ⟨#[98, 121, 116, 101]⟩))), (1, (.tmp 23)), (2, (.tmp 27))]) 28 107 (fun b => .slice (Gp (some b)) 3 3) 9 ([.string (⟨#[98, 121, 116, 101]⟩ : ByteArray), .string (itoaB x4), .string (itoaB x1v.X)] : List Value) p13 (AnyG.vs (i := 7) (by kernel_rfl) (by kernel_rfl)) (by kernel_rfl) ?_
  intro b34 w14 z14 p14
  have p14 : Hp nz wz S1 w14 (((some b34), .row 9 ([.string (⟨#[98, 121, 116, 101]⟩ : ByteArray), .string (itoaB x4), .string (itoaB x1v.X)] : List Value) (3 * kStr.size) 0) :: (some gx1, .row 49 (.i x1v.Op :: U4 x1v.Set [.i x1v.X, .i x1v.Y]) 7 0) :: Lr) := p14
  refine AnyG.last [] (Fc S1 w14 []) (by decide) ?_
  refine AnyG.pu 8 (.assign (.tmp 28)) 2 107 (.slice (Gp (some b34)) 3 3) (Fc.here trivial) ?_
  refine AnyG.done (by kernel_rfl) ?_ _
  have p14 := p14.dp 1
  obtain rfl := Option.some.inj h
  exact Goes.rt Tryd.f61 (.slice (Gp (some b34)) 3 3) ⟨S1, (some b34), 3, 3, ([.string (⟨#[98, 121, 116, 101]⟩ : ByteArray), .string (itoaB x4), .string (itoaB x1v.X)] : List Value), rfl, ((((hx.trans z11).trans z12).trans z13).trans z14), p14, (f35.ext z14), (by rw [← e37]; rfl)⟩

def Q1m := sub [1] B61
def J29 : List Item := [.code Q1m]
def Q1n := sub [0] B61
def J2a : List Item := .inRegion (opsOf Q1n) [0, 1] :: J29
def Q1o := sub [1, 1, 0, 1] B61
def J2b : List Item := .code Q1o :: J1u
def Q1p := sub [1, 1, 0, 0] B61
def J2c : List Item := .inRegion (opsOf Q1p) [1] :: J2b
def Q1q := sub [1, 1, 0, 1, 0, 1] B61
def J2d : List Item := .code Q1q :: J1v
def Q1r := sub [1, 1, 0, 1, 0, 1, 0, 1, 0, 1] B61
def J2e : List Item := .code Q1r :: J1w
def Q1s := sub [1, 1, 0, 1, 0, 1, 0, 1, 0, 0] B61
def J2f : List Item := .inRegion (opsOf Q1s) [1, 2] :: J2e
def Q1t := sub [1, 1, 0, 1, 0, 1, 1, 1] B61
def J2g : List Item := .code Q1t :: J1v
def Q1u := sub [1, 1, 0, 1, 0, 1, 1, 1, 0, 1] B61
def J2h : List Item := .code Q1u :: J1v
def Q1v := sub [1, 1, 0, 1, 0, 1, 1, 1, 0, 0] B61
def J2i : List Item := .code Q1v :: J2h
def Q1w := sub [1, 1, 0, 1, 0, 1, 1, 1, 1, 1] B61
def J2j : List Item := .code Q1w :: J1v
def Q1x := sub [1, 1, 0, 1, 0, 1, 1, 1, 1, 1, 0, 1] B61
def J2k : List Item := .code Q1x :: J1v
def Q1y := sub [1, 1, 0, 1, 0, 1, 1, 1, 1, 1, 0, 0] B61
def J2l : List Item := .inRegion (opsOf Q1y) [2, 3, 4, 5] :: J2k
def Q1z := sub [1, 1, 1, 1] B61
def J2m : List Item := [.code Q1z]
def Q20 := sub [1, 1, 1, 0] B61
def J2n : List Item := .inRegion (opsOf Q20) [0, 1] :: J2m

theorem W.z7 (x0 : T48) (r : List ByteArray) (h : M.prog_line x0 = some r) {nz wz S0 w0 Lr} [Gw nz wz] (p0 : Hp nz wz S0 w0 (Lr)) (u1 : x0.Set.length = 4) :
  Calls Tryd.prog 61 #[(ag (.i x0.Op :: U4 x0.Set [.i x0.X, .i x0.Y]))] w0 (Rets (Post.z7 nz wz S0 w0 Lr r)) := by
 refine calls_of_goes (fn := Tryd.f61) (c := B61) (by kernel_rfl) (by kernel_rfl) 47 (by kernel_rfl) ?_
 refine Goes.jp 48 [(0, (ag (.i x0.Op :: U4 x0.Set [.i x0.X, .i x0.Y])))] (fun junk => ?_)
 delta M.prog_line at h
 refine Goes.rn 2 [] J2a ?_
 refine Op_.box 49 (.tmp 0) 1 0 (ag (.i x0.Op :: U4 x0.Set [.i x0.X, .i x0.Y])) (.i x0.Op :: U4 x0.Set [.i x0.X, .i x0.Y]) p0 Goes.v (by kernel_rfl) (by kernel_rfl) ?_
 intro b1 w2 z2 p2
 refine Goes.rn 10 [(2, .slice none 0 0), (3, .func (.func 75) #[] #[]), (7, (pt b1 0))] J2c ?_
 refine Goes.ld 3 (.tmp 7) 8 3 ⟨b1, 0, none⟩ (.i x0.Op) (p2.c 0 0) ?_
 refine Goes.rn 7 [(10, .bool (decide (x0.Op = 1))), (9, .bool (decide (x0.Op = 1)))] J2d ?_
 refine ite_some h (fun h3 h => ?_) (fun h3 h => ?_)
 ·
  rw [decide_eq_true h3]
  refine Goes.rn 9 [(4, .i 0), (11, (pt b1 1))] J2f ?_
  refine Goes.ldN 25 (.tmp 11) 12 25 ⟨b1, 1, none⟩ (U4 x0.Set []) (p2.pa 0 1) ?_
  refine Goes.rn 4 [(13, .i 0)] J1z ?_
  exact Goes.jp 48 [(1, (pt b1 0)), (3, .func (.func 75) #[] #[]), (4, .i 0), (12, (ag (U4 x0.Set []))), (13, .i 0)] (W.z8 _ _ h _ _ ((Ext.refl S0 w0).trans z2) b1 p2 u1 u1)
 ·
  rw [decide_eq_false h3]
  refine Goes.rn 6 [(30, .bool (decide (x0.Op = 2))), (29, .bool (decide (x0.Op = 2)))] J2g ?_
  refine ite_some h (fun h5 h => ?_) (fun h5 h => ?_)
  ·
   rw [decide_eq_true h5]
   refine Goes.rn 2 [] J2i ?_
   have z3 : Ext S0 w2 S0 (w2).drew := Ext.draw
   have p3 := p2.draw
   refine Goes.drawn (s := [7, 8]) (F := Fc S0 (w2).drew [(⟨b1, 5, none⟩, .i x0.X), (⟨b1, 6, none⟩, .i x0.Y)]) 12 10 (by kernel_rfl) (by kernel_rfl) (by kernel_rfl) (by kernel_rfl) ?_
   generalize (w2).drew = w3 at z3 p3 ⊢
   refine AnyG.pu 0 (.move (.tmp 3)) 31 87 (.func (.func 75) #[] #[]) (Fc.here (p3.cs [(0, 5, 2)])) ?_
   refine AnyG.pu 1 (.fieldAddr 49 (.tmp 1) 2) 32 0 ((pt b1 5)) (Fc.here (p3.cs [(0, 5, 2)])) ?_
   refine AnyG.ld1 (i := 2) 3 (.tmp 32) 33 3 ⟨b1, 5, none⟩ (.i x0.X) (by kernel_rfl) (by kernel_rfl) (Fc.here (p3.cs [(0, 5, 2)])) (by kernel_rfl) (by kernel_rfl) (fun _ h => h.2.at_ 0 rfl) ?_
   refine AnyG.pu 4 (.move (.tmp 3)) 35 87 (.func (.func 75) #[] #[]) (Fc.here (p3.cs [(0, 5, 2)])) ?_
   refine AnyG.pu 5 (.fieldAddr 49 (.tmp 1) 3) 36 0 ((pt b1 6)) (Fc.here (p3.cs [(0, 5, 2)])) ?_
   refine AnyG.ld1 (i := 6) 3 (.tmp 36) 37 3 ⟨b1, 6, none⟩ (.i x0.Y) (by kernel_rfl) (by kernel_rfl) (Fc.here (p3.cs [(0, 5, 2)])) (by kernel_rfl) (by kernel_rfl) (fun _ h => h.2.at_ 1 rfl) ?_
   refine guard_some' h fun g6 h => ?_
   refine guard_some' h fun g7 h => ?_
   refine Op_.call (.call { callee := .value (.tmp 31), args := #[(.tmp 33)], argTypes := #[3] }) 34 9 75 #[.i x0.X] (AnyG.cs (i := 3) (by kernel_rfl) (by kernel_rfl)) (by kernel_rfl) (itoa_calls Tryd.laysM171 p3 (Gw.g2.to (by decide)) x0.X g6 g7) ?_
   rintro _ w4 ⟨rfl, z4, p4⟩
   have p4 : Hp nz wz S0 w4 ((some b1, .row 49 (.i x0.Op :: U4 x0.Set [.i x0.X, .i x0.Y]) 7 0) :: Lr) := p4
   refine AnyG.next z4 ⟨(p4.c 0 5), (p4.c 0 6), trivial⟩ ?_
   refine guard_some' h fun g8 h => ?_
   refine guard_some' h fun g9 h => ?_
   refine Op_.call (.call { callee := .value (.tmp 35), args := #[(.tmp 37)], argTypes := #[3] }) 38 9 75 #[.i x0.Y] (AnyG.cs (i := 7) (by kernel_rfl) (by kernel_rfl)) (by kernel_rfl) (itoa_calls Tryd.laysM171 p4 (Gw.g2.to (by decide)) x0.Y g8 g9) ?_
   rintro _ w5 ⟨rfl, z5, p5⟩
   have p5 : Hp nz wz S0 w5 ((some b1, .row 49 (.i x0.Op :: U4 x0.Set [.i x0.X, .i x0.Y]) 7 0) :: Lr) := p5
   refine AnyG.last [8] (Fc S0 w5 []) (by decide) ?_
   refine let_some h fun v12 e13 h => ?_
   have f11 : Els kStr S0 w5 ([.string (⟨#[115, 112, 108, 105, 116]⟩ : ByteArray), .string (itoaB x0.X), .string (itoaB x0.Y)] : List Value) v12 := by rw [← e13]; exact (Els.cons (K := kStr) (vs := [.string (⟨#[115, 112, 108, 105, 116]⟩ : ByteArray)]) (x := (⟨#[115, 112, 108, 105, 116]⟩ : ByteArray)) rfl (Els.cons (K := kStr) (vs := [.string (itoaB x0.X)]) (x := itoaB x0.X) rfl (Els.cons (K := kStr) (vs := [.string (itoaB x0.Y)]) (x := itoaB x0.Y) rfl Els.nil)))
   refine Op_.made (.buildSlice 107 3 #[(0, (.const (.string ⟨#[115, 112, 108, 105, 116]⟩))), (1, (.tmp 34)), (2, (.tmp 38))]) 39 107 (fun b => .slice (Gp (some b)) 3 3) 9 ([.string (⟨#[115, 112, 108, 105, 116]⟩ : ByteArray), .string (itoaB x0.X), .string (itoaB x0.Y)] : List Value) p5 (AnyG.vs (i := 8) (by kernel_rfl) (by kernel_rfl)) (by kernel_rfl) ?_
   intro b10 w6 z6 p6
   have p6 : Hp nz wz S0 w6 (((some b10), .row 9 ([.string (⟨#[115, 112, 108, 105, 116]⟩ : ByteArray), .string (itoaB x0.X), .string (itoaB x0.Y)] : List Value) (3 * kStr.size) 0) :: (some b1, .row 49 (.i x0.Op :: U4 x0.Set [.i x0.X, .i x0.Y]) 7 0) :: Lr) := p6
   refine AnyG.last [] (Fc S0 w6 []) (by decide) ?_
   refine AnyG.pu 9 (.assign (.tmp 39)) 2 107 (.slice (Gp (some b10)) 3 3) (Fc.here trivial) ?_
   refine AnyG.done (by kernel_rfl) ?_ _
   have p6 := p6.dp 1
   obtain rfl := Option.some.inj h
   exact Goes.rt Tryd.f61 (.slice (Gp (some b10)) 3 3) ⟨S0, (some b10), 3, 3, ([.string (⟨#[115, 112, 108, 105, 116]⟩ : ByteArray), .string (itoaB x0.X), .string (itoaB x0.Y)] : List Value), rfl, ((((((Ext.refl S0 w0).trans z2).trans z3).trans z4).trans z5).trans z6), p6, (f11.ext z6), (by rw [← e13]; rfl)⟩
  ·
   rw [decide_eq_false h5]
   refine Goes.rn 6 [(41, .bool (decide (x0.Op = 4))), (40, .bool (decide (x0.Op = 4)))] J2j ?_
   refine ite_some h (fun h15 h => ?_) (fun h15 h => ?_)
   ·
    rw [decide_eq_true h15]
    refine Goes.rn 5 [(42, .func (.func 75) #[] #[]), (43, (pt b1 5))] J2l ?_
    refine Goes.ld 3 (.tmp 43) 44 3 ⟨b1, 5, none⟩ (.i x0.X) (p2.c 0 5) ?_
    refine guard_some' h fun g16 h => ?_
    refine guard_some' h fun g17 h => ?_
    refine Goes.cal (.call { callee := .value (.tmp 42), args := #[(.tmp 44)], argTypes := #[3] }) 45 9 75 _ (itoa_calls Tryd.laysM171 p2 (Gw.g2.to (by decide)) x0.X g16 g17) ?_
    rintro _ w7 ⟨rfl, z7, p7⟩
    have p7 : Hp nz wz S0 w7 ((some b1, .row 49 (.i x0.Op :: U4 x0.Set [.i x0.X, .i x0.Y]) 7 0) :: Lr) := p7
    refine let_some h fun v20 e21 h => ?_
    have f19 : Els kStr S0 w7 ([.string (⟨#[106, 117, 109, 112]⟩ : ByteArray), .string (itoaB x0.X)] : List Value) v20 := by rw [← e21]; exact (Els.cons (K := kStr) (vs := [.string (⟨#[106, 117, 109, 112]⟩ : ByteArray)]) (x := (⟨#[106, 117, 109, 112]⟩ : ByteArray)) rfl (Els.cons (K := kStr) (vs := [.string (itoaB x0.X)]) (x := itoaB x0.X) rfl Els.nil))
    refine Op_.made (.buildSlice 107 2 #[(0, (.const (.string ⟨#[106, 117, 109, 112]⟩))), (1, (.tmp 45))]) 46 107 (fun b => .slice (Gp (some b)) 2 2) 9 ([.string (⟨#[106, 117, 109, 112]⟩ : ByteArray), .string (itoaB x0.X)] : List Value) p7 Goes.v (by kernel_rfl) ?_
    intro b18 w8 z8 p8
    have p8 : Hp nz wz S0 w8 (((some b18), .row 9 ([.string (⟨#[106, 117, 109, 112]⟩ : ByteArray), .string (itoaB x0.X)] : List Value) (2 * kStr.size) 0) :: (some b1, .row 49 (.i x0.Op :: U4 x0.Set [.i x0.X, .i x0.Y]) 7 0) :: Lr) := p8
    refine Goes.rn 2 [(2, .slice (Gp (some b18)) 2 2)] J2k ?_
    obtain rfl := Option.some.inj h
    have p8 := p8.dp 1
    exact Goes.rt Tryd.f61 (.slice (Gp (some b18)) 2 2) ⟨S0, (some b18), 2, 2, ([.string (⟨#[106, 117, 109, 112]⟩ : ByteArray), .string (itoaB x0.X)] : List Value), rfl, ((((Ext.refl S0 w0).trans z2).trans z7).trans z8), p8, (f19.ext z8), (by rw [← e21]; rfl)⟩
   ·
    rw [decide_eq_false h15]
    refine Goes.rn 5 [] J2n ?_
    have f24 : Els kStr S0 w2 ([.string (⟨#[101, 110, 100]⟩ : ByteArray)] : List Value) [(⟨#[101, 110, 100]⟩ : ByteArray)] := by exact (Els.cons (K := kStr) (vs := [.string (⟨#[101, 110, 100]⟩ : ByteArray)]) (x := (⟨#[101, 110, 100]⟩ : ByteArray)) rfl Els.nil)
    refine Op_.made (.buildSlice 107 1 #[(0, (.const (.string ⟨#[101, 110, 100]⟩)))]) 47 107 (fun b => .slice (Gp (some b)) 1 1) 9 ([.string (⟨#[101, 110, 100]⟩ : ByteArray)] : List Value) p2 Goes.v (by kernel_rfl) ?_
    intro b23 w9 z9 p9
    have p9 : Hp nz wz S0 w9 (((some b23), .row 9 ([.string (⟨#[101, 110, 100]⟩ : ByteArray)] : List Value) (1 * kStr.size) 0) :: (some b1, .row 49 (.i x0.Op :: U4 x0.Set [.i x0.X, .i x0.Y]) 7 0) :: Lr) := p9
    refine Goes.rn 2 [(2, .slice (Gp (some b23)) 1 1)] J2m ?_
    obtain rfl := Option.some.inj h
    have p9 := p9.dp 1
    exact Goes.rt Tryd.f61 (.slice (Gp (some b23)) 1 1) ⟨S0, (some b23), 1, 1, ([.string (⟨#[101, 110, 100]⟩ : ByteArray)] : List Value), rfl, (((Ext.refl S0 w0).trans z2).trans z9), p9, (f24.ext z9), rfl⟩

def Q21 := sub [1] B46
def J2o : List Item := [.code Q21]
def Q22 := sub [0] B46
def J2p : List Item := .inRegion (opsOf Q22) [3, 4] :: J2o
def Q23 := sub [1, 0] B46
def J2q : List Item := [.inRegion (opsOf Q23) [2, 3, 4, 5, 6, 7]]
def J2r : List Item := [.inRegion (opsOf Q23) [7]]

def Post.z9 (gx0 : Nat) (r : List Int) (v : Value) (w' : World) : Prop :=
 ∃ S' uk ul um un, v = .tuple #[] ∧ Ext S0 w0 S' w' ∧ Hp nz wz S' w' ((some gx0, .row 56 [(pt gx0 0), .slice (Gp uk) ul um] 2 0) :: (uk, .row 5 un (um * (kInt .u8).size) 0) :: Lr) ∧ Els (kInt .u8) S' w' un r ∧ r.length = ul

theorem W.z9 (uo : List Int) (r : List Int) (h : M.strings_Builder_copyCheck uo = some r) {nz wz S0 w0 Lr} [Gw nz wz] (gx0 up uq ur ut) (p0 : Hp nz wz S0 w0 ((some gx0, .row 56 [.pointer none, .slice (Gp up) uq ur] 2 0) :: (up, .row 5 ut (ur * (kInt .u8).size) 0) :: Lr)) (uu : Els (kInt .u8) S0 w0 ut uo) (uv : uo.length = uq) :
  Calls Tryd.prog 46 #[(pt gx0 0)] w0 (Rets (Post.z9 nz wz S0 w0 Lr gx0 r)) := by
 subst uv
 refine calls_of_goes (fn := Tryd.f46) (c := B46) (by kernel_rfl) (by kernel_rfl) 19 (by kernel_rfl) ?_
 refine Goes.jp 20 [(0, (pt gx0 0))] (fun junk => ?_)
 delta M.strings_Builder_copyCheck at h
 refine Goes.rn 5 [(2, (pt gx0 0)), (3, (pt gx0 0)), (4, (pt gx0 0))] J2p ?_
 refine Goes.ld 53 (.tmp 4) 5 53 ⟨gx0, 0, none⟩ (.pointer none) (p0.c 0 0) ?_
 refine Goes.rn 6 [(6, .bool true), (7, (pt gx0 0)), (8, (pt gx0 0))] J2q ?_
 refine Op_.toU 53 110 (.tmp 8) 9 110 0 gx0 0 p0 rfl Goes.v (by kernel_rfl) (by kernel_rfl) (by kernel_rfl) ?_
 refine Op_.ext { callee := .value (.func 64), args := #[(.tmp 9)], argTypes := #[110] } 10 110 64 #[(pt gx0 0)] Tryd.f64 Extern.AbiNoEscape.same ((pt gx0 0)) Goes.v (by kernel_rfl) (by kernel_rfl) (by kernel_rfl) (by kernel_rfl) (by kernel_rfl) (by kernel_rfl) (same_run _) ?_
 refine Op_.frU 110 53 (.tmp 10) 11 53 0 gx0 0 p0 rfl Goes.v (by kernel_rfl) (by kernel_rfl) ?_
 refine Goes.rn 2 [(12, (pt gx0 0)), (13, (pt gx0 0))] J2r ?_
 refine Op_.st 53 (.tmp 13) (.tmp 11) 0 0 gx0 0 ((pt gx0 0)) [(pt gx0 0)] p0 rfl Goes.s (by kernel_rfl) (by kernel_rfl) (by kernel_rfl) (by kernel_rfl) (Nat.zero_le _) (by simp only [List.length_cons, List.length_nil]; omega) (by simp [Value.oneCell']) ?_
 intro w2 z2 p2
 have p2 : Hp nz wz S0 w2 ((some gx0, .row 56 [(pt gx0 0), .slice (Gp up) uo.length ur] 2 0) :: (up, .row 5 ut (ur * (kInt .u8).size) 0) :: Lr) := p2
 refine Goes.rn 1 [] [] ?_
 obtain rfl := Option.some.inj h
 exact Goes.end_ (fn := Tryd.f46) (by kernel_rfl) (v := .tuple #[]) (by kernel_rfl) ⟨S0, up, uo.length, ur, ut, rfl, ((Ext.refl S0 w0).trans z2), p2, (uu.ext z2), rfl⟩

def Q24 := sub [1, 1] B27
def J2s : List Item := [.code Q24]
def Q25 := sub [1, 0] B27
def J2t : List Item := .inRegion (opsOf Q25) [1] :: J2s
def Q26 := sub [1, 1, 1] B27
def J2u : List Item := [.code Q26]
def Q27 := sub [1, 1, 0] B27
def J2v : List Item := .inRegion (opsOf Q27) [4, 5, 6, 7, 8, 9] :: J2u
def J2w : List Item := .inRegion (opsOf Q27) [6, 7, 8, 9] :: J2u
def J2x : List Item := .inRegion (opsOf Q27) [9] :: J2u
def Q28 := sub [1, 1, 1, 1] B27
def J2y : List Item := [.code Q28]

def Post.za (gx0 : Nat) (r : Int × (List Int)) (v : Value) (w' : World) : Prop :=
 ∃ S' uk ul um un, v = .tuple #[.i r.1, .nilIface] ∧ Ext S0 w0 S' w' ∧ Hp nz wz S' w' ((some gx0, .row 56 [(pt gx0 0), .slice (Gp uk) ul um] 2 0) :: (uk, .row 5 un (um * (kInt .u8).size) 0) :: Lr) ∧ Els (kInt .u8) S' w' un r.2 ∧ r.2.length = ul

theorem W.za (uo : List Int) (x1 : ByteArray) (r : Int × (List Int)) (h : M.strings_Builder_WriteString uo x1 = some r) {nz wz S0 w0 Lr} [Gw nz wz] (gx0 up uq ur ut) (p0 : Hp nz wz S0 w0 ((some gx0, .row 56 [.pointer none, .slice (Gp up) uq ur] 2 0) :: (up, .row 5 ut (ur * (kInt .u8).size) 0) :: Lr)) (uu : Els (kInt .u8) S0 w0 ut uo) (uv : uo.length = uq) :
  Calls Tryd.prog 27 #[(pt gx0 0), .string x1] w0 (Rets (Post.za nz wz S0 w0 Lr gx0 r)) := by
 subst uv
 refine calls_of_goes (fn := Tryd.f27) (c := B27) (by kernel_rfl) (by kernel_rfl) 17 (by kernel_rfl) ?_
 refine Goes.jp 19 [(0, (pt gx0 0)), (1, .string x1)] (fun junk => ?_)
 delta M.strings_Builder_WriteString at h
 refine Goes.rn 8 [(4, .i 0), (5, .nilIface), (6, (pt gx0 0))] J2t ?_
 refine bind_some' h fun y3 e4 h => ?_
 refine Goes.cal (kc 46 [6] #[53]) 7 0 46 _ (W.z9 uo y3 e4 gx0 up uo.length ur ut p0 uu rfl) ?_
 rintro _ w2 ⟨S2, uw, ux, uy, uz, rfl, z2, p2, u10, rfl⟩
 refine Goes.rn 7 [(8, (pt gx0 0)), (9, (pt gx0 0)), (10, (pt gx0 0)), (11, (pt gx0 1))] J2v ?_
 refine Goes.ld 54 (.tmp 11) 12 54 ⟨gx0, 1, none⟩ (.slice (Gp uw) y3.length uy) (p2.c 0 1) ?_
 refine Goes.rn 1 [(13, .string x1)] J2w ?_
 refine guard_some' h fun g9 h => ?_
 refine Op_.apS 54 9 (.tmp 12) (.tmp 13) 14 54 5 1 1 y3.length uy y3 (y3 ++ s2b x1) x1 rfl rfl p2 rfl u10 Goes.v (by kernel_rfl) (by kernel_rfl) (by kernel_rfl) (by kernel_rfl) (by kernel_rfl) (by have := g9; omega) (by have := g9; omega) ?_
 intro w3 G10 c11 u11 z3 p3 f13
 refine Goes.rn 2 [(15, (pt gx0 0)), (16, (pt gx0 1))] J2x ?_
 refine Op_.st 54 (.tmp 16) (.tmp 14) 0 0 gx0 1 (.slice (Gp G10) ((y3 ++ s2b x1).length) c11) [.slice (Gp G10) ((y3 ++ s2b x1).length) c11] p3 rfl Goes.s (by kernel_rfl) (by kernel_rfl) (by kernel_rfl) (by kernel_rfl) (Nat.zero_le _) (by simp only [List.length_cons, List.length_nil]; omega) (by simp [Value.oneCell']) ?_
 intro w4 z4 p4
 have p4 : Hp nz wz S2 w4 ((some gx0, .row 56 [(pt gx0 0), .slice (Gp G10) ((y3 ++ s2b x1).length) c11] 2 0) :: (G10, .row 5 u11 (c11 * (kInt .u8).size) 0) :: Lr) := p4
 refine Goes.rn 8 [(17, .string x1), (18, .i (x1.size : Int)), (4, .i (x1.size : Int)), (5, .nilIface)] J2y ?_
 obtain rfl := Option.some.inj h
 exact Goes.rt Tryd.f27 (.tuple #[.i (x1.size : Int), .nilIface]) ⟨S2, G10, (y3 ++ s2b x1).length, c11, u11, rfl, ((((Ext.refl S0 w0).trans z2).trans z3).trans z4), p4, (f13.ext z4), rfl⟩

def J2z : List Item := [.inBlock 1]
def Q29 := sub [1, 1, 1, 0, 1, 0, 1, 0] B21
def J30 : List Item := .inRegion (opsOf Q29) [1] :: J2z
def Q2a := sub [1, 1, 1, 0, 1, 0] B21
def Q2b := sub [1, 1, 1, 0, 1, 0, 1] B21

def Post.zb (lk : Nat) (rk : Nat) (jkk : Nat → Value) (u12 : Nat) (u13 : Nat) (u14 : Option Addr) (u15 : Nat) (u16 : Nat) (u17 : List T48) (r : List Int) (v : Value) (w' : World) : Prop :=
 ∃ S' u18 u19 u1a u1b, v = .bool true ∧ Ext S0 w0 S' w' ∧ Hp nz wz S' w' ((some lk, .obj (lpst 21 (lfr 18 [(5, (pt u12 0)), (13, .func (.func 59) #[] #[(pt u13 0)])] jkk) #[14] (rfAssign (Q2a)) (rfBody (Q2a)) rk .ready none)) :: (some u12, .row 56 [(pt u12 0), .slice (Gp u18) u19 u1a] 2 0) :: (u18, .row 5 u1b (u1a * (kInt .u8).size) 0) :: (some u13, .row 37 [.slice u14 u15 u16] 1 0) :: Lr) ∧ Els (kInt .u8) S' w' u1b r ∧ r.length = u19

theorem W.zb (u1c : List Int) (u17 : List T48) (a0 : ByteArray) (r : List Int) (h : M.prog_Text_r u1c u17 a0 = some r) {nz wz S0 w0 Lr} [Gw nz wz] (lk rk jkk u12 u1d u1e u1f u1g u13 u14 u15 u16) (p0 : Hp nz wz S0 w0 ((some lk, .obj (lpst 21 (lfr 18 [(5, (pt u12 0)), (13, .func (.func 59) #[] #[(pt u13 0)])] jkk) #[14] (rfAssign (Q2a)) (rfBody (Q2a)) rk .ready none)) :: (some u12, .row 56 [.pointer none, .slice (Gp u1d) u1e u1f] 2 0) :: (u1d, .row 5 u1g (u1f * (kInt .u8).size) 0) :: (some u13, .row 37 [.slice u14 u15 u16] 1 0) :: Lr)) (u1h : Els (kInt .u8) S0 w0 u1g u1c) (u1i : u1c.length = u1e) (u1j : Rd kT48 S0 w0 u14 u16 u17) (u1k : u17.length = u15) :
  Goes Tryd.prog (rbase 21 lk) [.code (rfAssign (Q2a)), .beginRound, .code (rfBody (Q2a))] ⟨setp (lfr 18 [(5, (pt u12 0)), (13, .func (.func 59) #[] #[(pt u13 0)])] jkk) #[14] #[.string a0], []⟩ w0 (DoneR (Post.zb nz wz S0 w0 Lr lk rk jkk u12 u13 u14 u15 u16 u17 r)) := by
 subst u1i
 subst u1k
 refine Goes.jp 18 [(5, (pt u12 0)), (13, .func (.func 59) #[] #[(pt u13 0)]), (14, .string a0)] (fun junk => ?_)
 delta M.prog_Text_r at h
 refine Goes.rn 3 [(6, .string a0)] [.beginRound, .code (Q2b)] ?_
 refine Goes.beginR 0 rfl p0 rfl ?_
 intro w2 z2 p2
 refine Goes.rn 3 [(15, .string a0)] J30 ?_
 have p2 := (p2.fr 2).fr 2
 refine bind_some' h fun y5 e6 h => ?_
 refine Goes.cal (kc 27 [5, 15] #[56, 9]) 16 61 27 _ (W.za u1c a0 y5 e6 u12 u1d u1c.length u1f u1g p2 (u1h.ext z2) rfl) ?_
 rintro _ w3 ⟨S3, u1l, u1m, u1n, u1o, rfl, z3, p3, u1p, rfl⟩
 refine Goes.rn 2 [] [] ?_
 have p3 := (((p3.fr 3).fr 2).fr 2).fr 3
 obtain rfl := Option.some.inj h
 refine Goes.endR 0 p3 rfl ?_
 intro w4 z4 p4
 exact ⟨S3, u1l, y5.2.length, u1n, u1o, rfl, ((((Ext.refl S0 w0).trans z2).trans z3).trans z4), p4, (u1p.ext z4), rfl⟩

def Q2c := sub [1, 1, 1] B46
def J31 : List Item := [.code Q2c]
def Q2d := sub [1, 1, 0] B46
def J32 : List Item := .inRegion (opsOf Q2d) [3, 4, 5] :: J31
def J33 : List Item := .inRegion (opsOf Q2d) [5] :: J31

def Post.zc (gx0 : Nat) (up : Option Nat) (uq : Nat) (ur : Nat) (ut : List Value) (uo : List Int) (r : Unit) (v : Value) (w' : World) : Prop :=
 ∃ S', v = .tuple #[] ∧ Ext S0 w0 S' w' ∧ Hp nz wz S' w' ((some gx0, .row 56 [(pt gx0 0), .slice (Gp up) uq ur] 2 0) :: (up, .row 5 ut (ur * (kInt .u8).size) 0) :: Lr)

theorem W.zc (uo : List Int) (r : Unit) (h : M.strings_Builder_copyCheck_2 uo = some r) {nz wz S0 w0 Lr} [Gw nz wz] (gx0 up uq ur ut) (p0 : Hp nz wz S0 w0 ((some gx0, .row 56 [(pt gx0 0), .slice (Gp up) uq ur] 2 0) :: (up, .row 5 ut (ur * (kInt .u8).size) 0) :: Lr)) (uu : Els (kInt .u8) S0 w0 ut uo) (uv : uo.length = uq) :
  Calls Tryd.prog 46 #[(pt gx0 0)] w0 (Rets (Post.zc nz wz S0 w0 Lr gx0 up uq ur ut uo r)) := by
 subst uv
 refine calls_of_goes (fn := Tryd.f46) (c := B46) (by kernel_rfl) (by kernel_rfl) 19 (by kernel_rfl) ?_
 refine Goes.jp 20 [(0, (pt gx0 0))] (fun junk => ?_)
 delta M.strings_Builder_copyCheck_2 at h
 refine Goes.rn 5 [(2, (pt gx0 0)), (3, (pt gx0 0)), (4, (pt gx0 0))] J2p ?_
 refine Goes.ld 53 (.tmp 4) 5 53 ⟨gx0, 0, none⟩ ((pt gx0 0)) (p0.c 0 0) ?_
 refine Goes.rn 8 [(6, .bool false), (14, (pt gx0 0)), (15, (pt gx0 0)), (16, (pt gx0 0))] J32 ?_
 refine Goes.ld 53 (.tmp 16) 17 53 ⟨gx0, 0, none⟩ ((pt gx0 0)) (p0.c 0 0) ?_
 refine Goes.rn 1 [(18, (pt gx0 0))] J33 ?_
 refine Op_.neqP 53 (.tmp 17) (.tmp 18) 53 19 4 ⟨gx0, 0, none⟩ Goes.v (by kernel_rfl) (by kernel_rfl) (by kernel_rfl) ?_
 refine Goes.rn 3 [] [] ?_
 obtain rfl := Option.some.inj h
 exact Goes.end_ (fn := Tryd.f46) (by kernel_rfl) (v := .tuple #[]) (by kernel_rfl) ⟨S0, rfl, (Ext.refl S0 w0), p0⟩

def Post.zd (gx0 : Nat) (r : Int × (List Int)) (v : Value) (w' : World) : Prop :=
 ∃ S' uk ul um un, v = .tuple #[.i r.1, .nilIface] ∧ Ext S0 w0 S' w' ∧ Hp nz wz S' w' ((some gx0, .row 56 [(pt gx0 0), .slice (Gp uk) ul um] 2 0) :: (uk, .row 5 un (um * (kInt .u8).size) 0) :: Lr) ∧ Els (kInt .u8) S' w' un r.2 ∧ r.2.length = ul

theorem W.zd (uo : List Int) (x1 : ByteArray) (r : Int × (List Int)) (h : M.strings_Builder_WriteString_2 uo x1 = some r) {nz wz S0 w0 Lr} [Gw nz wz] (gx0 up uq ur ut) (p0 : Hp nz wz S0 w0 ((some gx0, .row 56 [(pt gx0 0), .slice (Gp up) uq ur] 2 0) :: (up, .row 5 ut (ur * (kInt .u8).size) 0) :: Lr)) (uu : Els (kInt .u8) S0 w0 ut uo) (uv : uo.length = uq) :
  Calls Tryd.prog 27 #[(pt gx0 0), .string x1] w0 (Rets (Post.zd nz wz S0 w0 Lr gx0 r)) := by
 subst uv
 refine calls_of_goes (fn := Tryd.f27) (c := B27) (by kernel_rfl) (by kernel_rfl) 17 (by kernel_rfl) ?_
 refine Goes.jp 19 [(0, (pt gx0 0)), (1, .string x1)] (fun junk => ?_)
 delta M.strings_Builder_WriteString_2 at h
 refine Goes.rn 8 [(4, .i 0), (5, .nilIface), (6, (pt gx0 0))] J2t ?_
 refine bind_some' h fun y3 e4 h => ?_
 refine Goes.cal (kc 46 [6] #[53]) 7 0 46 _ (W.zc uo y3 e4 gx0 up uo.length ur ut p0 uu rfl) ?_
 rintro _ w2 ⟨S2, rfl, z2, p2⟩
 refine Goes.rn 7 [(8, (pt gx0 0)), (9, (pt gx0 0)), (10, (pt gx0 0)), (11, (pt gx0 1))] J2v ?_
 refine Goes.ld 54 (.tmp 11) 12 54 ⟨gx0, 1, none⟩ (.slice (Gp up) uo.length ur) (p2.c 0 1) ?_
 refine Goes.rn 1 [(13, .string x1)] J2w ?_
 refine guard_some' h fun g8 h => ?_
 refine Op_.apS 54 9 (.tmp 12) (.tmp 13) 14 54 5 1 1 uo.length ur uo (uo ++ s2b x1) x1 rfl rfl p2 rfl (uu.ext z2) Goes.v (by kernel_rfl) (by kernel_rfl) (by kernel_rfl) (by kernel_rfl) (by kernel_rfl) (by have := g8; omega) (by have := g8; omega) ?_
 intro w3 G9 c10 u1q z3 p3 f12
 refine Goes.rn 2 [(15, (pt gx0 0)), (16, (pt gx0 1))] J2x ?_
 refine Op_.st 54 (.tmp 16) (.tmp 14) 0 0 gx0 1 (.slice (Gp G9) ((uo ++ s2b x1).length) c10) [.slice (Gp G9) ((uo ++ s2b x1).length) c10] p3 rfl Goes.s (by kernel_rfl) (by kernel_rfl) (by kernel_rfl) (by kernel_rfl) (Nat.zero_le _) (by simp only [List.length_cons, List.length_nil]; omega) (by simp [Value.oneCell']) ?_
 intro w4 z4 p4
 have p4 : Hp nz wz S2 w4 ((some gx0, .row 56 [(pt gx0 0), .slice (Gp G9) ((uo ++ s2b x1).length) c10] 2 0) :: (G9, .row 5 u1q (c10 * (kInt .u8).size) 0) :: Lr) := p4
 refine Goes.rn 8 [(17, .string x1), (18, .i (x1.size : Int)), (4, .i (x1.size : Int)), (5, .nilIface)] J2y ?_
 obtain rfl := Option.some.inj h
 exact Goes.rt Tryd.f27 (.tuple #[.i (x1.size : Int), .nilIface]) ⟨S2, G9, (uo ++ s2b x1).length, c10, u1q, rfl, ((((Ext.refl S0 w0).trans z2).trans z3).trans z4), p4, (f12.ext z4), rfl⟩

def Post.ze (lk : Nat) (rk : Nat) (jkk : Nat → Value) (u12 : Nat) (u13 : Nat) (u14 : Option Addr) (u15 : Nat) (u16 : Nat) (u17 : List T48) (r : List Int) (v : Value) (w' : World) : Prop :=
 ∃ S' u18 u19 u1a u1b, v = .bool true ∧ Ext S0 w0 S' w' ∧ Hp nz wz S' w' ((some lk, .obj (lpst 21 (lfr 18 [(5, (pt u12 0)), (13, .func (.func 59) #[] #[(pt u13 0)])] jkk) #[14] (rfAssign (Q2a)) (rfBody (Q2a)) rk .ready none)) :: (some u12, .row 56 [(pt u12 0), .slice (Gp u18) u19 u1a] 2 0) :: (u18, .row 5 u1b (u1a * (kInt .u8).size) 0) :: (some u13, .row 37 [.slice u14 u15 u16] 1 0) :: Lr) ∧ Els (kInt .u8) S' w' u1b r ∧ r.length = u19

theorem W.ze (u1c : List Int) (u17 : List T48) (a0 : ByteArray) (r : List Int) (h : M.prog_Text_r_2 u1c u17 a0 = some r) {nz wz S0 w0 Lr} [Gw nz wz] (lk rk jkk u12 u1d u1e u1f u1g u13 u14 u15 u16) (p0 : Hp nz wz S0 w0 ((some lk, .obj (lpst 21 (lfr 18 [(5, (pt u12 0)), (13, .func (.func 59) #[] #[(pt u13 0)])] jkk) #[14] (rfAssign (Q2a)) (rfBody (Q2a)) rk .ready none)) :: (some u12, .row 56 [(pt u12 0), .slice (Gp u1d) u1e u1f] 2 0) :: (u1d, .row 5 u1g (u1f * (kInt .u8).size) 0) :: (some u13, .row 37 [.slice u14 u15 u16] 1 0) :: Lr)) (u1h : Els (kInt .u8) S0 w0 u1g u1c) (u1i : u1c.length = u1e) (u1j : Rd kT48 S0 w0 u14 u16 u17) (u1k : u17.length = u15) :
  Goes Tryd.prog (rbase 21 lk) [.code (rfAssign (Q2a)), .beginRound, .code (rfBody (Q2a))] ⟨setp (lfr 18 [(5, (pt u12 0)), (13, .func (.func 59) #[] #[(pt u13 0)])] jkk) #[14] #[.string a0], []⟩ w0 (DoneR (Post.ze nz wz S0 w0 Lr lk rk jkk u12 u13 u14 u15 u16 u17 r)) := by
 subst u1i
 subst u1k
 refine Goes.jp 18 [(5, (pt u12 0)), (13, .func (.func 59) #[] #[(pt u13 0)]), (14, .string a0)] (fun junk => ?_)
 delta M.prog_Text_r_2 at h
 refine Goes.rn 3 [(6, .string a0)] [.beginRound, .code (Q2b)] ?_
 refine Goes.beginR 0 rfl p0 rfl ?_
 intro w2 z2 p2
 refine Goes.rn 3 [(15, .string a0)] J30 ?_
 have p2 := (p2.fr 2).fr 2
 refine bind_some' h fun y5 e6 h => ?_
 refine Goes.cal (kc 27 [5, 15] #[56, 9]) 16 61 27 _ (W.zd u1c a0 y5 e6 u12 u1d u1c.length u1f u1g p2 (u1h.ext z2) rfl) ?_
 rintro _ w3 ⟨S3, u1l, u1m, u1n, u1o, rfl, z3, p3, u1p, rfl⟩
 refine Goes.rn 2 [] [] ?_
 have p3 := (((p3.fr 3).fr 2).fr 2).fr 3
 obtain rfl := Option.some.inj h
 refine Goes.endR 0 p3 rfl ?_
 intro w4 z4 p4
 exact ⟨S3, u1l, y5.2.length, u1n, u1o, rfl, ((((Ext.refl S0 w0).trans z2).trans z3).trans z4), p4, (u1p.ext z4), rfl⟩

def J34 : List Item := [.inBlock 0]
def Q2e := sub [1, 0, 0] B59
def J35 : List Item := .inLoop Q2e :: J34
def J36 : List Item := .code Q2e :: J35
def Q2f := sub [1, 0, 0, 1, 1] B59
def J37 : List Item := .code Q2f :: J35
def Q2g := sub [1, 0, 0, 1, 0] B59
def J38 : List Item := .code Q2g :: J37
def Q2h := sub [1, 0, 0, 1, 1, 1] B59
def J39 : List Item := .code Q2h :: J35
def J3a : List Item := .inBlock 1 :: J39
def Q2i := sub [1, 0, 0, 1, 1, 0, 0, 1] B59
def J3b : List Item := .code Q2i :: J3a
def Q2j := sub [1, 0, 0, 1, 1, 0, 0, 0] B59
def J3c : List Item := .inRegion (opsOf Q2j) [0, 1, 2, 3] :: J3b
def Q2k := sub [1, 0, 0, 1, 1, 0, 0, 1, 1] B59
def J3d : List Item := .code Q2k :: J3a
def Q2l := sub [1, 0, 0, 1, 1, 0, 0, 1, 0] B59
def J3e : List Item := .inRegion (opsOf Q2l) [1, 2, 3, 4, 5, 6] :: J3d

def Post.zf (lx0 : Nat) (rx0 : Nat) (u1r : Nat → Value) (u1s : Nat) (u1t : Nat) (u1u : Option Addr) (u1v : Nat) (u1w : Nat) (u1x : List T48) (r : (List Int) ⊕ (List Int)) (v : Value) (w' : World) : Prop :=
 match r with
 | .inl r => ∃ S' u18 u19 u1a u1b, v = .tuple #[] ∧ Ext S0 w0 S' w' ∧ Hp nz wz S' w' ((some lx0, .obj (lpst 21 (lfr 18 [(5, (pt u1s 0)), (13, .func (.func 59) #[] #[(pt u1t 0)])] u1r) #[14] (rfAssign (Q2a)) (rfBody (Q2a)) rx0 .ready none)) :: (some u1s, .row 56 [.pointer none, .slice (Gp u18) u19 u1a] 2 0) :: (u18, .row 5 u1b (u1a * (kInt .u8).size) 0) :: (some u1t, .row 37 [.slice u1u u1v u1w] 1 0) :: Lr) ∧ Els (kInt .u8) S' w' u1b r ∧ r.length = u19
 | .inr (r) => ∃ S' u18 u19 u1a u1b, v = .tuple #[] ∧ Ext S0 w0 S' w' ∧ Hp nz wz S' w' ((some lx0, .obj (lpst 21 (lfr 18 [(5, (pt u1s 0)), (13, .func (.func 59) #[] #[(pt u1t 0)])] u1r) #[14] (rfAssign (Q2a)) (rfBody (Q2a)) rx0 .ready none)) :: (some u1s, .row 56 [(pt u1s 0), .slice (Gp u18) u19 u1a] 2 0) :: (u18, .row 5 u1b (u1a * (kInt .u8).size) 0) :: (some u1t, .row 37 [.slice u1u u1v u1w] 1 0) :: Lr) ∧ Els (kInt .u8) S' w' u1b r ∧ r.length = u19

def L.zg (lx0 : Nat) (rx0 : Nat) (u1r : Nat → Value) (u1s : Nat) (u1t : Nat) (u1u : Option Addr) (u1v : Nat) (u1w : Nat) : (List T48) × Int × Int × (List Int) × (List T48) → ((List Int) ⊕ (List Int)) → Prop := fun ⟨x5, x6, x7, u1y, u1x⟩ r => ∀ S1 w1, Ext S0 w0 S1 w1 → ∀ Ax5 nx5 cx5 u18 u19 u1a u1b (_ : Hp nz wz S1 w1 ((some lx0, .obj (lpst 21 (lfr 18 [(5, (pt u1s 0)), (13, .func (.func 59) #[] #[(pt u1t 0)])] u1r) #[14] (rfAssign (Q2a)) (rfBody (Q2a)) rx0 .ready none)) :: (some u1s, .row 56 [(pt u1s 0), .slice (Gp u18) u19 u1a] 2 0) :: (u18, .row 5 u1b (u1a * (kInt .u8).size) 0) :: (some u1t, .row 37 [.slice u1u u1v u1w] 1 0) :: Lr)) (_ : Rd kT48 S1 w1 Ax5 cx5 x5) (_ : x5.length = nx5) (_ : Els (kInt .u8) S1 w1 u1b u1y) (_ : u1y.length = u19) (_ : Rd kT48 S1 w1 u1u u1w u1x) (_ : u1x.length = u1v) (junk : Nat → Value),
 Goes Tryd.prog (base 59) J36 ⟨lfr 19 [(0, yieldV lx0), (5, .slice Ax5 nx5 cx5), (6, .i x6), (7, .i x7)] junk, []⟩ w1 (Done Tryd.prog 59 (Rets (Post.zf nz wz S0 w0 Lr lx0 rx0 u1r u1s u1t u1u u1v u1w u1x r)))

theorem W.zg {nz wz S0 w0 Lr} [Gw nz wz] (lx0 : Nat) (rx0 : Nat) (u1r : Nat → Value) (u1s : Nat) (u1t : Nat) (u1u : Option Addr) (u1v : Nat) (u1w : Nat) : ∀ a r, M.prog_lines_1_l1 a = some r → (L.zg nz wz S0 w0 Lr lx0 rx0 u1r u1s u1t u1u u1v u1w) a r := by
 refine M.prog_lines_1_l1.partial_correctness (motive := (L.zg nz wz S0 w0 Lr lx0 rx0 u1r u1s u1t u1u u1v u1w)) ?_
 intro u1z u20 ⟨x5, x6, x7, u1y, u1x⟩ r h S1 w1 hx Ax5 nx5 cx5 u18 u19 u1a u1b p1 fx5 lx5 u21 u22 u23 u24 junk
 try dsimp only at h
 subst lx5
 subst u22
 subst u24
 refine Goes.rn 5 [(8, .bool (decide (x7 < x6)))] J38 ?_
 refine ite_some h (fun h29 h => ?_) (fun h29 h => ?_)
 ·
  rw [decide_eq_true h29]
  refine Goes.rn 6 [] J3c ?_
  refine guard_some' h fun g30 h => ?_
  refine guard_some' h fun g31 h => ?_
  refine Op_.ixR_n 37 (.tmp 5) (.tmp 7) 9 0 49 .i64 x7 (gi x5 x7) rfl rfl fx5 Goes.v (by kernel_rfl) (by kernel_rfl) (by kernel_rfl) (by kernel_rfl) g30 g31 ?_
  intro a32 _ f33 q34
  obtain ⟨_, _, rfl, rfl, ⟨_, _, rfl, ⟨l35, f36⟩, ⟨_, _, rfl, rfl, rfl⟩⟩⟩ := q34
  obtain rfl := els_lit4' f36 l35
  refine Goes.ldN 49 (.tmp 9) 10 49 a32 ([.i ((gi x5 x7).Op)] ++ ((U4 ((gi x5 x7).Set) []) ++ ([.i ((gi x5 x7).X)] ++ [.i ((gi x5 x7).Y)]))) (f33.cell) ?_
  refine Op_.alloc 49 4 0 (.agg #[.i 0, .u 0, .u 0, .u 0, .u 0, .i 0, .i 0]) [.i 0, .u 0, .u 0, .u 0, .u 0, .i 0, .i 0] p1 Goes.v (by kernel_rfl) (by kernel_rfl) ?_
  intro b37 w8 z8 p8
  refine Op_.st 49 (.tmp 4) (.tmp 10) 0 0 b37 0 (ag (.i ((gi x5 x7).Op) :: U4 ((gi x5 x7).Set) [.i ((gi x5 x7).X), .i ((gi x5 x7).Y)])) (.i ((gi x5 x7).Op) :: U4 ((gi x5 x7).Set) [.i ((gi x5 x7).X), .i ((gi x5 x7).Y)]) p8 rfl Goes.s (by kernel_rfl) (by kernel_rfl) (by kernel_rfl) (by kernel_rfl) (Nat.zero_le _) (by simp only [List.length_cons, List.length_nil]; omega) (by simp [Value.oneCell']) ?_
  intro w9 z9 p9
  have p9 : Hp nz wz S1 w9 ((some b37, .row 49 (.i ((gi x5 x7).Op) :: U4 ((gi x5 x7).Set) [.i ((gi x5 x7).X), .i ((gi x5 x7).Y)]) 7 0) :: (some lx0, .obj (lpst 21 (lfr 18 [(5, (pt u1s 0)), (13, .func (.func 59) #[] #[(pt u1t 0)])] u1r) #[14] (rfAssign (Q2a)) (rfBody (Q2a)) rx0 .ready none)) :: (some u1s, .row 56 [(pt u1s 0), .slice (Gp u18) u1y.length u1a] 2 0) :: (u18, .row 5 u1b (u1a * (kInt .u8).size) 0) :: (some u1t, .row 37 [.slice u1u u1x.length u1w] 1 0) :: Lr) := p9
  refine Goes.rn 4 [(11, yieldV lx0)] J3e ?_
  refine Goes.ldN 49 (.tmp 4) 12 49 ⟨b37, 0, none⟩ (.i ((gi x5 x7).Op) :: U4 ((gi x5 x7).Set) [.i ((gi x5 x7).X), .i ((gi x5 x7).Y)]) (p9.pa 0 0) ?_
  refine bind_some' h fun y39 e40 h => ?_
  refine Goes.cal (kc 61 [12] #[49]) 13 107 61 _ (W.z7 (⟨(gi x5 x7).Op, ((gi x5 x7).Set), (gi x5 x7).X, (gi x5 x7).Y⟩ : T48) y39 e40  p9 l35) ?_
  rintro _ w10 ⟨S10, u25, u26, u27, u28, rfl, z10, p10, u29, rfl⟩
  have p10 := p10.dp 1
  obtain ⟨S11, z11, p11, f42⟩ := p10.freezeRd 0 rfl u29 (by decide)
  refine guard_some' h fun g43 h => ?_
  refine guard_some' h fun g44 h => ?_
  refine Goes.cal (.call { callee := .value (.func 60), args := #[(.tmp 13), (.const (.string ⟨#[32]⟩))], argTypes := #[107, 9] }) 14 9 60 _ (join_calls Tryd.lays156 Tryd.Builder_Extra_156 p11 rfl f42 (⟨#[32]⟩ : ByteArray) g43 g44) ?_
  rintro _ w12 ⟨rfl, z12, p12⟩
  have p12 : Hp nz wz S11 w12 ((u25, .row 9 u28 (u27 * kStr.size) u28.length) :: (some lx0, .obj (lpst 21 (lfr 18 [(5, (pt u1s 0)), (13, .func (.func 59) #[] #[(pt u1t 0)])] u1r) #[14] (rfAssign (Q2a)) (rfBody (Q2a)) rx0 .ready none)) :: (some u1s, .row 56 [(pt u1s 0), .slice (Gp u18) u1y.length u1a] 2 0) :: (u18, .row 5 u1b (u1a * (kInt .u8).size) 0) :: (some u1t, .row 37 [.slice u1u u1x.length u1w] 1 0) :: Lr) := p12
  refine guard_some' h fun g45 h => ?_
  refine let_some h fun v46 e47 h => ?_
  refine Op_.cat_n 9 (.tmp 14) (.const (.string ⟨#[10]⟩)) 9 15 9 (joinB y39 (⟨#[32]⟩ : ByteArray)) (⟨#[10]⟩ : ByteArray) v46 e47 Goes.v (by kernel_rfl) (by kernel_rfl) g45 ?_
  have p12 := (((p12.fr 4).fr 4).fr 4).fr 4
  refine bind_some' h fun y48 e49 h => ?_
  refine Goes.yieldAt (.call { callee := .value (.tmp 11), args := #[(.tmp 15)], argTypes := #[9] }) 16 4 0 lx0 #[.string v46] p12 rfl (by kernel_rfl) rfl (fun _ => by kernel_rfl) rfl (W.ze u1y u1x v46 y48 e49 lx0 rx0 u1r u1s u18 u1y.length u1a u1b u1t u1u u1x.length u1w p12 (u21.ext ((((z8.trans z9).trans z10).trans z11).trans z12)) rfl (u23.ext ((((z8.trans z9).trans z10).trans z11).trans z12)) rfl) ?_
  rintro _ w13 ⟨S13, u2a, u2b, u2c, u2d, rfl, z13, p13, u2e, rfl⟩
  refine Goes.rn 10 [(17, .bool (!true)), (18, .i (wr .i64 (x7 + 1))), (7, .i (wr .i64 (x7 + 1)))] J36 ?_
  have p13 := p13.dp 4
  exact Goes.jp 19 [(0, yieldV lx0), (5, .slice Ax5 x5.length cx5), (6, .i x6), (7, .i (wr .i64 (x7 + 1)))] (u20 _ _ h _ _ ((((((hx.trans z8).trans z9).trans z10).trans z11).trans z12).trans z13) Ax5 x5.length cx5 u2a y48.length u2c u2d p13 (fx5.ext (((((z8.trans z9).trans z10).trans z11).trans z12).trans z13)) rfl u2e rfl (u23.ext (((((z8.trans z9).trans z10).trans z11).trans z12).trans z13)) rfl)
 ·
  rw [decide_eq_false h29]
  refine Goes.rn 2 [] [] ?_
  obtain rfl := Option.some.inj h
  exact Goes.end_ (fn := Tryd.f59) (by kernel_rfl) (v := .tuple #[]) (by kernel_rfl) ⟨S1, u18, u1y.length, u1a, u1b, rfl, hx, p1, u21, rfl⟩

def L.zh (lx0 : Nat) (rx0 : Nat) (u1r : Nat → Value) (u1s : Nat) (u1t : Nat) (u1u : Option Addr) (u1v : Nat) (u1w : Nat) : (List T48) × Int × Int × (List Int) × (List T48) → ((List Int) ⊕ (List Int)) → Prop := fun ⟨x5, x6, x7, u1y, u1x⟩ r => ∀ S1 w1, Ext S0 w0 S1 w1 → ∀ Ax5 nx5 cx5 u18 u19 u1a u1b (_ : Hp nz wz S1 w1 ((some lx0, .obj (lpst 21 (lfr 18 [(5, (pt u1s 0)), (13, .func (.func 59) #[] #[(pt u1t 0)])] u1r) #[14] (rfAssign (Q2a)) (rfBody (Q2a)) rx0 .ready none)) :: (some u1s, .row 56 [.pointer none, .slice (Gp u18) u19 u1a] 2 0) :: (u18, .row 5 u1b (u1a * (kInt .u8).size) 0) :: (some u1t, .row 37 [.slice u1u u1v u1w] 1 0) :: Lr)) (_ : Rd kT48 S1 w1 Ax5 cx5 x5) (_ : x5.length = nx5) (_ : Els (kInt .u8) S1 w1 u1b u1y) (_ : u1y.length = u19) (_ : Rd kT48 S1 w1 u1u u1w u1x) (_ : u1x.length = u1v) (junk : Nat → Value),
 Goes Tryd.prog (base 59) J36 ⟨lfr 19 [(0, yieldV lx0), (5, .slice Ax5 nx5 cx5), (6, .i x6), (7, .i x7)] junk, []⟩ w1 (Done Tryd.prog 59 (Rets (Post.zf nz wz S0 w0 Lr lx0 rx0 u1r u1s u1t u1u u1v u1w u1x r)))

theorem W.zh {nz wz S0 w0 Lr} [Gw nz wz] (lx0 : Nat) (rx0 : Nat) (u1r : Nat → Value) (u1s : Nat) (u1t : Nat) (u1u : Option Addr) (u1v : Nat) (u1w : Nat) : ∀ a r, M.prog_lines_1_l0 a = some r → L.zh nz wz S0 w0 Lr lx0 rx0 u1r u1s u1t u1u u1v u1w a r := by
 intro ⟨x5, x6, x7, u1y, u1x⟩ r h S1 w1 hx Ax5 nx5 cx5 u18 u19 u1a u1b p1 fx5 lx5 u21 u22 u23 u24 junk
 rw [M.prog_lines_1_l0] at h
 try dsimp only at h
 subst lx5
 subst u22
 subst u24
 refine Goes.rn 5 [(8, .bool (decide (x7 < x6)))] J38 ?_
 refine ite_some h (fun h6 h => ?_) (fun h6 h => ?_)
 ·
  rw [decide_eq_true h6]
  refine Goes.rn 6 [] J3c ?_
  refine guard_some' h fun g7 h => ?_
  refine guard_some' h fun g8 h => ?_
  refine Op_.ixR_n 37 (.tmp 5) (.tmp 7) 9 0 49 .i64 x7 (gi x5 x7) rfl rfl fx5 Goes.v (by kernel_rfl) (by kernel_rfl) (by kernel_rfl) (by kernel_rfl) g7 g8 ?_
  intro a9 _ f10 q11
  obtain ⟨_, _, rfl, rfl, ⟨_, _, rfl, ⟨l12, f13⟩, ⟨_, _, rfl, rfl, rfl⟩⟩⟩ := q11
  obtain rfl := els_lit4' f13 l12
  refine Goes.ldN 49 (.tmp 9) 10 49 a9 ([.i ((gi x5 x7).Op)] ++ ((U4 ((gi x5 x7).Set) []) ++ ([.i ((gi x5 x7).X)] ++ [.i ((gi x5 x7).Y)]))) (f10.cell) ?_
  refine Op_.alloc 49 4 0 (.agg #[.i 0, .u 0, .u 0, .u 0, .u 0, .i 0, .i 0]) [.i 0, .u 0, .u 0, .u 0, .u 0, .i 0, .i 0] p1 Goes.v (by kernel_rfl) (by kernel_rfl) ?_
  intro b14 w2 z2 p2
  refine Op_.st 49 (.tmp 4) (.tmp 10) 0 0 b14 0 (ag (.i ((gi x5 x7).Op) :: U4 ((gi x5 x7).Set) [.i ((gi x5 x7).X), .i ((gi x5 x7).Y)])) (.i ((gi x5 x7).Op) :: U4 ((gi x5 x7).Set) [.i ((gi x5 x7).X), .i ((gi x5 x7).Y)]) p2 rfl Goes.s (by kernel_rfl) (by kernel_rfl) (by kernel_rfl) (by kernel_rfl) (Nat.zero_le _) (by simp only [List.length_cons, List.length_nil]; omega) (by simp [Value.oneCell']) ?_
  intro w3 z3 p3
  have p3 : Hp nz wz S1 w3 ((some b14, .row 49 (.i ((gi x5 x7).Op) :: U4 ((gi x5 x7).Set) [.i ((gi x5 x7).X), .i ((gi x5 x7).Y)]) 7 0) :: (some lx0, .obj (lpst 21 (lfr 18 [(5, (pt u1s 0)), (13, .func (.func 59) #[] #[(pt u1t 0)])] u1r) #[14] (rfAssign (Q2a)) (rfBody (Q2a)) rx0 .ready none)) :: (some u1s, .row 56 [.pointer none, .slice (Gp u18) u1y.length u1a] 2 0) :: (u18, .row 5 u1b (u1a * (kInt .u8).size) 0) :: (some u1t, .row 37 [.slice u1u u1x.length u1w] 1 0) :: Lr) := p3
  refine Goes.rn 4 [(11, yieldV lx0)] J3e ?_
  refine Goes.ldN 49 (.tmp 4) 12 49 ⟨b14, 0, none⟩ (.i ((gi x5 x7).Op) :: U4 ((gi x5 x7).Set) [.i ((gi x5 x7).X), .i ((gi x5 x7).Y)]) (p3.pa 0 0) ?_
  refine bind_some' h fun y16 e17 h => ?_
  refine Goes.cal (kc 61 [12] #[49]) 13 107 61 _ (W.z7 (⟨(gi x5 x7).Op, ((gi x5 x7).Set), (gi x5 x7).X, (gi x5 x7).Y⟩ : T48) y16 e17  p3 l12) ?_
  rintro _ w4 ⟨S4, u2f, u2g, u2h, u2i, rfl, z4, p4, u2j, rfl⟩
  have p4 := p4.dp 1
  obtain ⟨S5, z5, p5, f19⟩ := p4.freezeRd 0 rfl u2j (by decide)
  refine guard_some' h fun g20 h => ?_
  refine guard_some' h fun g21 h => ?_
  refine Goes.cal (.call { callee := .value (.func 60), args := #[(.tmp 13), (.const (.string ⟨#[32]⟩))], argTypes := #[107, 9] }) 14 9 60 _ (join_calls Tryd.lays156 Tryd.Builder_Extra_156 p5 rfl f19 (⟨#[32]⟩ : ByteArray) g20 g21) ?_
  rintro _ w6 ⟨rfl, z6, p6⟩
  have p6 : Hp nz wz S5 w6 ((u2f, .row 9 u2i (u2h * kStr.size) u2i.length) :: (some lx0, .obj (lpst 21 (lfr 18 [(5, (pt u1s 0)), (13, .func (.func 59) #[] #[(pt u1t 0)])] u1r) #[14] (rfAssign (Q2a)) (rfBody (Q2a)) rx0 .ready none)) :: (some u1s, .row 56 [.pointer none, .slice (Gp u18) u1y.length u1a] 2 0) :: (u18, .row 5 u1b (u1a * (kInt .u8).size) 0) :: (some u1t, .row 37 [.slice u1u u1x.length u1w] 1 0) :: Lr) := p6
  refine guard_some' h fun g22 h => ?_
  refine let_some h fun v23 e24 h => ?_
  refine Op_.cat_n 9 (.tmp 14) (.const (.string ⟨#[10]⟩)) 9 15 9 (joinB y16 (⟨#[32]⟩ : ByteArray)) (⟨#[10]⟩ : ByteArray) v23 e24 Goes.v (by kernel_rfl) (by kernel_rfl) g22 ?_
  have p6 := (((p6.fr 4).fr 4).fr 4).fr 4
  refine bind_some' h fun y25 e26 h => ?_
  refine Goes.yieldAt (.call { callee := .value (.tmp 11), args := #[(.tmp 15)], argTypes := #[9] }) 16 4 0 lx0 #[.string v23] p6 rfl (by kernel_rfl) rfl (fun _ => by kernel_rfl) rfl (W.zb u1y u1x v23 y25 e26 lx0 rx0 u1r u1s u18 u1y.length u1a u1b u1t u1u u1x.length u1w p6 (u21.ext ((((z2.trans z3).trans z4).trans z5).trans z6)) rfl (u23.ext ((((z2.trans z3).trans z4).trans z5).trans z6)) rfl) ?_
  rintro _ w7 ⟨S7, u2k, u2l, u2m, u2n, rfl, z7, p7, u2o, rfl⟩
  refine Goes.rn 10 [(17, .bool (!true)), (18, .i (wr .i64 (x7 + 1))), (7, .i (wr .i64 (x7 + 1)))] J36 ?_
  have p7 := p7.dp 4
  exact Goes.jp 19 [(0, yieldV lx0), (5, .slice Ax5 x5.length cx5), (6, .i x6), (7, .i (wr .i64 (x7 + 1)))] (W.zg lx0 rx0 u1r u1s u1t u1u u1x.length u1w _ _ h _ _ ((((((hx.trans z2).trans z3).trans z4).trans z5).trans z6).trans z7) Ax5 x5.length cx5 u2k y25.length u2m u2n p7 (fx5.ext (((((z2.trans z3).trans z4).trans z5).trans z6).trans z7)) rfl u2o rfl (u23.ext (((((z2.trans z3).trans z4).trans z5).trans z6).trans z7)) rfl)
 ·
  rw [decide_eq_false h6]
  refine Goes.rn 2 [] [] ?_
  obtain rfl := Option.some.inj h
  exact Goes.end_ (fn := Tryd.f59) (by kernel_rfl) (v := .tuple #[]) (by kernel_rfl) ⟨S1, u18, u1y.length, u1a, u1b, rfl, hx, p1, u21, rfl⟩

def Q2m := sub [1] B59
def J3f : List Item := [.code Q2m]
def Q2n := sub [0] B59
def J3g : List Item := .inRegion (opsOf Q2n) [0, 1, 2] :: J3f

theorem W.zf (u2p : List Int) (u1x : List T48) (r : (List Int) ⊕ (List Int)) (h : M.prog_lines_1 u2p u1x = some r) {nz wz S0 w0 Lr} [Gw nz wz] (lx0 rx0 u1r u1s u2q u2r u2s u2t u1t u1u u1v u1w) (p0 : Hp nz wz S0 w0 ((some lx0, .obj (lpst 21 (lfr 18 [(5, (pt u1s 0)), (13, .func (.func 59) #[] #[(pt u1t 0)])] u1r) #[14] (rfAssign (Q2a)) (rfBody (Q2a)) rx0 .ready none)) :: (some u1s, .row 56 [.pointer none, .slice (Gp u2q) u2r u2s] 2 0) :: (u2q, .row 5 u2t (u2s * (kInt .u8).size) 0) :: (some u1t, .row 37 [.slice u1u u1v u1w] 1 0) :: Lr)) (u2u : Els (kInt .u8) S0 w0 u2t u2p) (u2v : u2p.length = u2r) (u2w : Rd kT48 S0 w0 u1u u1w u1x) (u2x : u1x.length = u1v) :
  Calls Tryd.prog 59 #[yieldV lx0, (pt u1t 0)] w0 (Rets (Post.zf nz wz S0 w0 Lr lx0 rx0 u1r u1s u1t u1u u1v u1w u1x r)) := by
 subst u2v
 subst u2x
 refine calls_of_goes (fn := Tryd.f59) (c := B59) (by kernel_rfl) (by kernel_rfl) 17 (by kernel_rfl) ?_
 refine Goes.jp 19 [(0, yieldV lx0), (1, (pt u1t 0))] (fun junk => ?_)
 delta M.prog_lines_1 at h
 refine Goes.rn 2 [] J3g ?_
 refine Goes.ld 37 (.tmp 1) 5 37 ⟨u1t, 0, none⟩ (.slice u1u u1x.length u1w) (p0.c 3 0) ?_
 refine Goes.rn 5 [(6, .i (u1x.length : Int)), (7, .i 0)] J36 ?_
 exact Goes.jp 19 [(0, yieldV lx0), (5, .slice u1u u1x.length u1w), (6, .i (u1x.length : Int)), (7, .i 0)] (W.zh lx0 rx0 u1r u1s u1t u1u u1x.length u1w _ _ h _ _ (Ext.refl S0 w0) u1u u1x.length u1w u2q u2p.length u2s u2t p0 u2w rfl u2u rfl u2w rfl)

def Q2o := sub [1, 1] B28
def J3h : List Item := [.code Q2o]
def Q2p := sub [1, 0] B28
def J3i : List Item := .code Q2p :: J3h

def Post.zi (gx0 : Nat) (r : ByteArray × (List Int)) (v : Value) (w' : World) : Prop :=
 ∃ S' u2y ul um, v = .string r.1 ∧ Ext S0 w0 S' w' ∧ Hp nz wz S' w' ((some gx0, .row 56 [.pointer none, .slice u2y ul um] 2 0) :: Lr) ∧ Rd (kInt .u8) S' w' u2y um r.2 ∧ r.2.length = ul

theorem W.zi (uo : List Int) (r : ByteArray × (List Int)) (h : M.strings_Builder_String uo = some r) {nz wz S0 w0 Lr} [Gw nz wz] (gx0 up uq ur ut) (p0 : Hp nz wz S0 w0 ((some gx0, .row 56 [.pointer none, .slice (Gp up) uq ur] 2 0) :: (up, .row 5 ut (ur * (kInt .u8).size) 0) :: Lr)) (uu : Els (kInt .u8) S0 w0 ut uo) (uv : uo.length = uq) :
  Calls Tryd.prog 28 #[(pt gx0 0)] w0 (Rets (Post.zi nz wz S0 w0 Lr gx0 r)) := by
 subst uv
 refine calls_of_goes (fn := Tryd.f28) (c := B28) (by kernel_rfl) (by kernel_rfl) 13 (by kernel_rfl) ?_
 refine Goes.jp 14 [(0, (pt gx0 0))] (fun junk => ?_)
 delta M.strings_Builder_String at h
 refine Goes.rn 5 [(2, .string (⟨#[]⟩ : ByteArray))] J3i ?_
 have z2 : Ext S0 w0 S0 (w0).drew := Ext.draw
 have p2 := p0.draw
 refine Goes.drawn (s := [10]) (F := Fc S0 (w0).drew [(⟨gx0, 1, none⟩, .slice (Gp up) uo.length ur)]) 1 12 (by kernel_rfl) (by kernel_rfl) (by kernel_rfl) (by kernel_rfl) ?_
 generalize (w0).drew = w2 at z2 p2 ⊢
 refine AnyG.pu 0 (.move (.tmp 0)) 3 53 ((pt gx0 0)) (Fc.here (p2.cs [(0, 1, 1)])) ?_
 refine AnyG.pu 1 (.nilCheck (.tmp 3)) 4 0 ((pt gx0 0)) (Fc.here (p2.cs [(0, 1, 1)])) ?_
 refine AnyG.pu 2 (.fieldAddr 56 (.tmp 4) 1) 5 0 ((pt gx0 1)) (Fc.here (p2.cs [(0, 1, 1)])) ?_
 refine AnyG.ld1 (i := 3) 54 (.tmp 5) 6 54 ⟨gx0, 1, none⟩ (.slice (Gp up) uo.length ur) (by kernel_rfl) (by kernel_rfl) (Fc.here (p2.cs [(0, 1, 1)])) (by kernel_rfl) (by kernel_rfl) (fun _ h => h.2.at_ 0 rfl) ?_
 refine AnyG.pu 5 (.move (.tmp 0)) 8 53 ((pt gx0 0)) (Fc.here (p2.cs [(0, 1, 1)])) ?_
 refine AnyG.pu 6 (.nilCheck (.tmp 8)) 9 0 ((pt gx0 0)) (Fc.here (p2.cs [(0, 1, 1)])) ?_
 refine AnyG.pu 7 (.fieldAddr 56 (.tmp 9) 1) 10 0 ((pt gx0 1)) (Fc.here (p2.cs [(0, 1, 1)])) ?_
 refine AnyG.ld1 (i := 8) 54 (.tmp 10) 11 54 ⟨gx0, 1, none⟩ (.slice (Gp up) uo.length ur) (by kernel_rfl) (by kernel_rfl) (Fc.here (p2.cs [(0, 1, 1)])) (by kernel_rfl) (by kernel_rfl) (fun _ h => h.2.at_ 0 rfl) ?_
 refine AnyG.pu 9 (.call { callee := .builtin .len, args := #[(.tmp 11)], argTypes := #[54] }) 12 3 (.i (uo.length : Int)) (Fc.here (p2.cs [(0, 1, 1)])) ?_
 refine Op_.ssd 54 (.tmp 6) 7 90 5 1 uo.length ur p2 rfl (AnyG.vs (i := 4) (by kernel_rfl) (by kernel_rfl)) (by kernel_rfl) (by kernel_rfl) ?_
 intro a3 w3 z3 p3 q4
 refine AnyG.next z3 ⟨(p3.c 0 1), trivial⟩ ?_
 refine guard_some' h fun g5 h => ?_
 refine Op_.ustr 90 3 (.tmp 7) (.tmp 12) 13 9 5 1 (b2s uo) rfl rfl p3 rfl (uu.ext (z2.trans z3)) q4 (by have := g5; omega) (AnyG.vs (i := 10) (by kernel_rfl) (by kernel_rfl)) (by kernel_rfl) (by kernel_rfl) (by kernel_rfl) (by kernel_rfl) ?_
 intro S4 w4 z4 p4 f6
 refine AnyG.last [] (Fc S4 w4 []) (by decide) ?_
 refine AnyG.pu 11 (.assign (.tmp 13)) 2 9 (.string (b2s uo)) (Fc.here trivial) ?_
 refine AnyG.done (by kernel_rfl) ?_ _
 obtain rfl := Option.some.inj h
 exact Goes.rt Tryd.f28 (.string (b2s uo)) ⟨S4, (Gp up), uo.length, ur, rfl, ((((Ext.refl S0 w0).trans z2).trans z3).trans z4), p4, f6, rfl⟩

def Post.zj (gx0 : Nat) (r : ByteArray × (List Int)) (v : Value) (w' : World) : Prop :=
 ∃ S' u2y ul um, v = .string r.1 ∧ Ext S0 w0 S' w' ∧ Hp nz wz S' w' ((some gx0, .row 56 [(pt gx0 0), .slice u2y ul um] 2 0) :: Lr) ∧ Rd (kInt .u8) S' w' u2y um r.2 ∧ r.2.length = ul

theorem W.zj (uo : List Int) (r : ByteArray × (List Int)) (h : M.strings_Builder_String_2 uo = some r) {nz wz S0 w0 Lr} [Gw nz wz] (gx0 up uq ur ut) (p0 : Hp nz wz S0 w0 ((some gx0, .row 56 [(pt gx0 0), .slice (Gp up) uq ur] 2 0) :: (up, .row 5 ut (ur * (kInt .u8).size) 0) :: Lr)) (uu : Els (kInt .u8) S0 w0 ut uo) (uv : uo.length = uq) :
  Calls Tryd.prog 28 #[(pt gx0 0)] w0 (Rets (Post.zj nz wz S0 w0 Lr gx0 r)) := by
 subst uv
 refine calls_of_goes (fn := Tryd.f28) (c := B28) (by kernel_rfl) (by kernel_rfl) 13 (by kernel_rfl) ?_
 refine Goes.jp 14 [(0, (pt gx0 0))] (fun junk => ?_)
 delta M.strings_Builder_String_2 at h
 refine Goes.rn 5 [(2, .string (⟨#[]⟩ : ByteArray))] J3i ?_
 have z2 : Ext S0 w0 S0 (w0).drew := Ext.draw
 have p2 := p0.draw
 refine Goes.drawn (s := [10]) (F := Fc S0 (w0).drew [(⟨gx0, 1, none⟩, .slice (Gp up) uo.length ur)]) 1 12 (by kernel_rfl) (by kernel_rfl) (by kernel_rfl) (by kernel_rfl) ?_
 generalize (w0).drew = w2 at z2 p2 ⊢
 refine AnyG.pu 0 (.move (.tmp 0)) 3 53 ((pt gx0 0)) (Fc.here (p2.cs [(0, 1, 1)])) ?_
 refine AnyG.pu 1 (.nilCheck (.tmp 3)) 4 0 ((pt gx0 0)) (Fc.here (p2.cs [(0, 1, 1)])) ?_
 refine AnyG.pu 2 (.fieldAddr 56 (.tmp 4) 1) 5 0 ((pt gx0 1)) (Fc.here (p2.cs [(0, 1, 1)])) ?_
 refine AnyG.ld1 (i := 3) 54 (.tmp 5) 6 54 ⟨gx0, 1, none⟩ (.slice (Gp up) uo.length ur) (by kernel_rfl) (by kernel_rfl) (Fc.here (p2.cs [(0, 1, 1)])) (by kernel_rfl) (by kernel_rfl) (fun _ h => h.2.at_ 0 rfl) ?_
 refine AnyG.pu 5 (.move (.tmp 0)) 8 53 ((pt gx0 0)) (Fc.here (p2.cs [(0, 1, 1)])) ?_
 refine AnyG.pu 6 (.nilCheck (.tmp 8)) 9 0 ((pt gx0 0)) (Fc.here (p2.cs [(0, 1, 1)])) ?_
 refine AnyG.pu 7 (.fieldAddr 56 (.tmp 9) 1) 10 0 ((pt gx0 1)) (Fc.here (p2.cs [(0, 1, 1)])) ?_
 refine AnyG.ld1 (i := 8) 54 (.tmp 10) 11 54 ⟨gx0, 1, none⟩ (.slice (Gp up) uo.length ur) (by kernel_rfl) (by kernel_rfl) (Fc.here (p2.cs [(0, 1, 1)])) (by kernel_rfl) (by kernel_rfl) (fun _ h => h.2.at_ 0 rfl) ?_
 refine AnyG.pu 9 (.call { callee := .builtin .len, args := #[(.tmp 11)], argTypes := #[54] }) 12 3 (.i (uo.length : Int)) (Fc.here (p2.cs [(0, 1, 1)])) ?_
 refine Op_.ssd 54 (.tmp 6) 7 90 5 1 uo.length ur p2 rfl (AnyG.vs (i := 4) (by kernel_rfl) (by kernel_rfl)) (by kernel_rfl) (by kernel_rfl) ?_
 intro a3 w3 z3 p3 q4
 refine AnyG.next z3 ⟨(p3.c 0 1), trivial⟩ ?_
 refine guard_some' h fun g5 h => ?_
 refine Op_.ustr 90 3 (.tmp 7) (.tmp 12) 13 9 5 1 (b2s uo) rfl rfl p3 rfl (uu.ext (z2.trans z3)) q4 (by have := g5; omega) (AnyG.vs (i := 10) (by kernel_rfl) (by kernel_rfl)) (by kernel_rfl) (by kernel_rfl) (by kernel_rfl) (by kernel_rfl) ?_
 intro S4 w4 z4 p4 f6
 refine AnyG.last [] (Fc S4 w4 []) (by decide) ?_
 refine AnyG.pu 11 (.assign (.tmp 13)) 2 9 (.string (b2s uo)) (Fc.here trivial) ?_
 refine AnyG.done (by kernel_rfl) ?_ _
 obtain rfl := Option.some.inj h
 exact Goes.rt Tryd.f28 (.string (b2s uo)) ⟨S4, (Gp up), uo.length, ur, rfl, ((((Ext.refl S0 w0).trans z2).trans z3).trans z4), p4, f6, rfl⟩

def Q2q := sub [1, 1] B21
def J3j : List Item := [.code Q2q]
def Q2r := sub [1, 0, 1] B21
def J3k : List Item := .code Q2r :: J3j
def Q2s := sub [1, 0, 0] B21
def J3l : List Item := .inRegion (opsOf Q2s) [1, 2] :: J3k
def Q2t := sub [1, 0, 1, 1] B21
def J3m : List Item := .code Q2t :: J3j
def Q2u := sub [1, 1, 1] B21
def J3n : List Item := [.code Q2u]
def Q2v := sub [1, 1, 0] B21
def J3o : List Item := .inRegion (opsOf Q2v) [0] :: J3n
def Q2w := sub [1, 1, 1, 1] B21
def J3p : List Item := [.code Q2w]
def Q2x := sub [1, 1, 1, 0, 1] B21
def J3q : List Item := .code Q2x :: J3p
def Q2y := sub [1, 1, 1, 0, 0] B21
def J3r : List Item := .inRegion (opsOf Q2y) [1] :: J3q
def J3s : List Item := .inBlock 0 :: J3p
def J3t : List Item := .code Q2a :: J3s
def Q2z := sub [1, 1, 1, 1, 1] B21
def J3u : List Item := [.code Q2z]
def Q30 := sub [1, 1, 1, 1, 0] B21
def J3v : List Item := .inRegion (opsOf Q30) [0, 1, 2] :: J3u
def Q31 := sub [1, 0, 1, 1, 0, 1] B21
def J3w : List Item := .code Q31 :: J3j

def Post.zk (r : ByteArray × Int) (v : Value) (w' : World) : Prop :=
 ∃ S', v = .tuple #[.string r.1, .i r.2] ∧ Ext S0 w0 S' w' ∧ Hp nz wz S' w' (Lr)

theorem W.zk (x0 : List T48) (r : ByteArray × Int) (h : M.prog_Text x0 = some r) {nz wz S0 w0 Lr} [Gw nz wz] (Ax0 nx0 cx0) (p0 : Hp nz wz S0 w0 (Lr)) (fx0 : Rd kT48 S0 w0 Ax0 cx0 x0) (lx0 : x0.length = nx0) :
  Calls Tryd.prog 21 #[.slice Ax0 nx0 cx0] w0 (Rets (Post.zk nz wz S0 w0 Lr r)) := by
 subst lx0
 refine calls_of_goes (fn := Tryd.f21) (c := B21) (by kernel_rfl) (by kernel_rfl) 17 (by kernel_rfl) ?_
 refine Goes.jp 18 [(0, .slice Ax0 x0.length cx0)] (fun junk => ?_)
 delta M.prog_Text at h
 refine Goes.rn 9 [(2, .string (⟨#[]⟩ : ByteArray)), (3, .i 0), (7, .slice Ax0 x0.length cx0)] J3l ?_
 refine bind_some' h fun y1 e2 h => ?_
 refine Goes.cal (kc 23 [7] #[37]) 8 29 23 _ (W.z2 x0 y1 e2 Ax0 x0.length cx0 p0 fx0 rfl) ?_
 rintro _ w2 ⟨S2, rfl, z2, p2⟩
 refine Goes.rn 7 [(4, .i y1), (9, .i y1), (10, .bool (!(decide (y1 = 0))))] J3m ?_
 refine ite_some h (fun h3 h => ?_) (fun h3 h => ?_)
 ·
  rw [decide_eq_true h3]
  refine Goes.rn 4 [] J3o ?_
  refine Op_.alloc 56 5 0 (.agg #[.pointer none, .slice none 0 0]) [.pointer none, .slice none 0 0] p2 Goes.v (by kernel_rfl) (by kernel_rfl) ?_
  intro b4 w3 z3 p3
  refine Goes.rn 5 [(12, .slice Ax0 x0.length cx0)] J3r ?_
  refine bind_some' h fun y6 e7 h => ?_
  refine Goes.cal (kc 41 [12] #[37]) 13 84 41 _ (W.z5 x0 y6 e7 Ax0 x0.length cx0 p3 (fx0.ext (z2.trans z3)) rfl) ?_
  rintro _ w4 ⟨S4, u2z, u30, u31, u32, rfl, z4, p4, u33, rfl⟩
  refine Goes.rn 2 [] J3t ?_
  refine Goes.jp 18 [(5, (pt b4 0)), (13, .func (.func 59) #[] #[(pt u2z 0)])] (fun u34 => ?_)
  refine Goes.rangeF (f := 21) (.tmp 13) #[14] 59 #[] #[(pt u2z 0)] (by kernel_rfl) (by kernel_rfl) (fun _ => by kernel_rfl) p4 ?_
  intro r10 l11 w5 z5 p5
  have p5 : Hp nz wz S4 w5 ((none, .row 5 [] (0 * (kInt .u8).size) 0) :: (some l11, .obj (lpst 21 (lfr 18 [(5, (pt b4 0)), (13, .func (.func 59) #[] #[(pt u2z 0)])] u34) #[14] (rfAssign (Q2a)) (rfBody (Q2a)) r10 .ready none)) :: (some r10, .obj (.deferred (some []))) :: (some u2z, .row 37 [.slice u30 y6.length u32] 1 0) :: (some b4, .row 56 [.pointer none, .slice none 0 0] 2 0) :: Lr) := p5.nilRow' 5
  have p5 := (((p5.fr 3).fr 1).fr 4).fr 3
  refine bind_some' h fun y15 e16 h => ?_
  rcases y15 with u35 | u36
  ·
   try dsimp only at h
   refine ⟨_, W.zf ([] : List Int) y6 (Sum.inl u35) e16 l11 r10 u34 b4 none 0 0 [] u2z u30 y6.length u32 p5 (Els.nil (K := (kInt .u8))) rfl (u33.ext z5) rfl, ?_⟩
   rintro _ w6 ⟨S6, u37, u38, u39, u3a, rfl, z6, p6, u3b, rfl⟩
   refine Goes.endF 0 p6 rfl rfl ?_
   intro w7 z7 p7
   replace p7 : Hp nz wz S6 w7 ((some b4, .row 56 [.pointer none, .slice (Gp u37) u35.length u39] 2 0) :: (u37, .row 5 u3a (u39 * (kInt .u8).size) 0) :: (some u2z, .row 37 [.slice u30 y6.length u32] 1 0) :: (some r10, .obj (.deferred (some []))) :: Lr) := (p7.front 0 _ rfl).drop
   show Goes _ _ J3s _ _ _
   refine Goes.rn 3 [] J3v ?_
   refine bind_some' h fun y18 e19 h => ?_
   refine Goes.cal (kc 28 [5] #[56]) 17 9 28 _ (W.zi u35 y18 e19 b4 u37 u35.length u39 u3a p7 (u3b.ext z7) rfl) ?_
   rintro _ w8 ⟨S8, u3c, u3d, u3e, rfl, z8, p8, u3f, rfl⟩
   have p8 := (p8.dp 0).dp 0
   refine Goes.rn 3 [(2, .string y18.1), (3, .i 0)] J3u ?_
   obtain rfl := Option.some.inj h
   refine Goes.retL ?_
   refine lvs_mark 0 rfl rfl p8 rfl ?_
   intro w9 z9 p9
   replace p9 : Hp nz wz S8 w9 (Lr) := p9.drop
   exact lvs_done (fn := Tryd.f21) rfl rfl rfl rfl (by kernel_rfl) (v := .tuple #[.string y18.1, .i 0]) (by kernel_rfl) ⟨S8, rfl, (((((((((Ext.refl S0 w0).trans z2).trans z3).trans z4).trans z5).trans z6).trans z7).trans z8).trans z9), p9⟩
  ·
   try dsimp only at h
   refine ⟨_, W.zf ([] : List Int) y6 (Sum.inr u36) e16 l11 r10 u34 b4 none 0 0 [] u2z u30 y6.length u32 p5 (Els.nil (K := (kInt .u8))) rfl (u33.ext z5) rfl, ?_⟩
   rintro _ w10 ⟨S10, u3g, u3h, u3i, u3j, rfl, z10, p10, u3k, rfl⟩
   refine Goes.endF 0 p10 rfl rfl ?_
   intro w11 z11 p11
   replace p11 : Hp nz wz S10 w11 ((some b4, .row 56 [(pt b4 0), .slice (Gp u3g) u36.length u3i] 2 0) :: (u3g, .row 5 u3j (u3i * (kInt .u8).size) 0) :: (some u2z, .row 37 [.slice u30 y6.length u32] 1 0) :: (some r10, .obj (.deferred (some []))) :: Lr) := (p11.front 0 _ rfl).drop
   show Goes _ _ J3s _ _ _
   refine Goes.rn 3 [] J3v ?_
   refine bind_some' h fun y21 e22 h => ?_
   refine Goes.cal (kc 28 [5] #[56]) 17 9 28 _ (W.zj u36 y21 e22 b4 u3g u36.length u3i u3j p11 (u3k.ext z11) rfl) ?_
   rintro _ w12 ⟨S12, u3l, u3m, u3n, rfl, z12, p12, u3o, rfl⟩
   have p12 := (p12.dp 0).dp 0
   refine Goes.rn 3 [(2, .string y21.1), (3, .i 0)] J3u ?_
   obtain rfl := Option.some.inj h
   refine Goes.retL ?_
   refine lvs_mark 0 rfl rfl p12 rfl ?_
   intro w13 z13 p13
   replace p13 : Hp nz wz S12 w13 (Lr) := p13.drop
   exact lvs_done (fn := Tryd.f21) rfl rfl rfl rfl (by kernel_rfl) (v := .tuple #[.string y21.1, .i 0]) (by kernel_rfl) ⟨S12, rfl, (((((((((Ext.refl S0 w0).trans z2).trans z3).trans z4).trans z5).trans z10).trans z11).trans z12).trans z13), p13⟩
 ·
  rw [decide_eq_false h3]
  refine Goes.rn 7 [(11, .i y1), (2, .string (⟨#[]⟩ : ByteArray)), (3, .i y1)] J3w ?_
  obtain rfl := Option.some.inj h
  exact Goes.rt Tryd.f21 (.tuple #[.string (⟨#[]⟩ : ByteArray), .i y1]) ⟨S2, rfl, ((Ext.refl S0 w0).trans z2), p2⟩

end

end Go.Gx
