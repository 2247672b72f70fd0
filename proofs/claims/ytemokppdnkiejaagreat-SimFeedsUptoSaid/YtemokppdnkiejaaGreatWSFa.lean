import Derived.Test.YtemokppdnkiejaaGreatMSF

import Derived.Test.YtemokppdnkiejaaGreatGZ

import Derived.Test.YtemokppdnkiejaaGreatGK

import Derived.Test.YtemokppdnkiejaaGreatHI

import Derived.Test.YtemokppdnkiejaaGreatProg

set_option linter.unusedVariables false

set_option maxRecDepth 100000

set_option maxHeartbeats 4000000

namespace Go.Gx

open Go.RowKit Go.Proofs

variable (nz : Nat) (wz : World) (S0 : Fz) (w0 : World) (Lr : List Ent)

noncomputable section

def kT45 : Kd T45 := kMap (fun s => (s.Op, s.Set, s.X, s.Y)) (kProd (kInt .i64) (kProd (kArr 4 (kInt .u64)) (kProd (kInt .i64) (kInt .i64))))

def kT65 : Kd T65 := kMap (fun s => (s.place, s.list)) (kProd (kSl (kInt .i64)) (kSl (kInt .i64)))

def kT57_f (K : Kd T57) : Kd T57 := kMap (fun s => (s.Kind, s.Set, s.L, s.Min, s.Max)) (kProd (kInt .i64) (kProd (kArr 4 (kInt .u64)) (kProd (kSl K) (kProd (kInt .i64) (kInt .i64)))))

theorem kT57_c : Kc kT57_f := Kc.map _ (Kc.prod (Kc.const _) (Kc.prod (Kc.const _) (Kc.prod (Kc.sl Kc.id) (Kc.prod (Kc.const _) (Kc.const _)))))

def kT57 : Kd T57 := kFix kT57_f 8 kT57_c (fun _ => rfl)

theorem kT57_open {S w vs x} (h : kT57.rep S w vs x) : (kT57_f kT57).rep S w vs x := kFix_open kT57_c _ h

theorem kT57_close {S w vs x} (h : (kT57_f kT57).rep S w vs x) : kT57.rep S w vs x := kFix_close kT57_c _ h

def kT82 : Kd T82 := kMap (fun s => s.at_) (kInt .i64)

def kT78 : Kd T78 := kMap (fun s => (s.s, s.at_, s.deep, s.bad)) (kProd kStr (kProd (kInt .i64) (kProd (kInt .i64) (kPtr kT82))))

def kT142 : Kd T142 := kMap (fun s => (s.set_, s.b, s.single)) (kProd (kArr 4 (kInt .u64)) (kProd (kInt .u8) kBool))

def kT87 : Kd T87 := kMap (fun s => s.l) (kSl kT45)

def kC107 (gw : Nat) : Kd (T57 ⊕ T57 ⊕ (Int × T57)) := (kSum (kFn 77 (kMap (fun (y : T57) => ((), y)) (kProd (kFixW gw) (kBox kT57)))) (kSum (kFn 90 (kMap (fun (y : T57) => ((), y)) (kProd (kFixW gw) (kBox kT57)))) (kFn 91 (kMap (fun (y : Int × T57) => ((), y.1, y.2)) (kProd (kFixW gw) (kProd (kBox (kInt .i64)) (kBox kT57))))) rfl) rfl)

def kT108 (gw : Nat) : Kd T108 := kMap (fun s => (s.n, s.code)) (kProd (kInt .i64) (kC107 gw))

noncomputable def B3 : Code := (Tryz.f3.body).getD .skip

noncomputable def B4 : Code := (Tryz.f4.body).getD .skip

noncomputable def B5 : Code := (Tryz.f5.body).getD .skip

noncomputable def B6 : Code := (Tryz.f6.body).getD .skip

noncomputable def B7 : Code := (Tryz.f7.body).getD .skip

noncomputable def B8 : Code := (Tryz.f8.body).getD .skip

noncomputable def B9 : Code := (Tryz.f9.body).getD .skip

noncomputable def B10 : Code := (Tryz.f10.body).getD .skip

noncomputable def B11 : Code := (Tryz.f11.body).getD .skip

noncomputable def B12 : Code := (Tryz.f12.body).getD .skip

noncomputable def B13 : Code := (Tryz.f13.body).getD .skip

noncomputable def B14 : Code := (Tryz.f14.body).getD .skip

noncomputable def B15 : Code := (Tryz.f15.body).getD .skip

noncomputable def B16 : Code := (Tryz.f16.body).getD .skip

noncomputable def B17 : Code := (Tryz.f17.body).getD .skip

noncomputable def B18 : Code := (Tryz.f18.body).getD .skip

noncomputable def B19 : Code := (Tryz.f19.body).getD .skip

noncomputable def B20 : Code := (Tryz.f20.body).getD .skip

noncomputable def B21 : Code := (Tryz.f21.body).getD .skip

noncomputable def B22 : Code := (Tryz.f22.body).getD .skip

noncomputable def B23 : Code := (Tryz.f23.body).getD .skip

noncomputable def B24 : Code := (Tryz.f24.body).getD .skip

noncomputable def B25 : Code := (Tryz.f25.body).getD .skip

noncomputable def B27 : Code := (Tryz.f27.body).getD .skip

noncomputable def B28 : Code := (Tryz.f28.body).getD .skip

noncomputable def B29 : Code := (Tryz.f29.body).getD .skip

noncomputable def B30 : Code := (Tryz.f30.body).getD .skip

noncomputable def B31 : Code := (Tryz.f31.body).getD .skip

noncomputable def B32 : Code := (Tryz.f32.body).getD .skip

noncomputable def B33 : Code := (Tryz.f33.body).getD .skip

noncomputable def B34 : Code := (Tryz.f34.body).getD .skip

noncomputable def B35 : Code := (Tryz.f35.body).getD .skip

noncomputable def B36 : Code := (Tryz.f36.body).getD .skip

noncomputable def B37 : Code := (Tryz.f37.body).getD .skip

noncomputable def B38 : Code := (Tryz.f38.body).getD .skip

noncomputable def B39 : Code := (Tryz.f39.body).getD .skip

noncomputable def B40 : Code := (Tryz.f40.body).getD .skip

noncomputable def B41 : Code := (Tryz.f41.body).getD .skip

noncomputable def B42 : Code := (Tryz.f42.body).getD .skip

noncomputable def B43 : Code := (Tryz.f43.body).getD .skip

noncomputable def B46 : Code := (Tryz.f46.body).getD .skip

noncomputable def B47 : Code := (Tryz.f47.body).getD .skip

noncomputable def B48 : Code := (Tryz.f48.body).getD .skip

noncomputable def B49 : Code := (Tryz.f49.body).getD .skip

noncomputable def B50 : Code := (Tryz.f50.body).getD .skip

noncomputable def B51 : Code := (Tryz.f51.body).getD .skip

noncomputable def B52 : Code := (Tryz.f52.body).getD .skip

noncomputable def B53 : Code := (Tryz.f53.body).getD .skip

noncomputable def B54 : Code := (Tryz.f54.body).getD .skip

noncomputable def B55 : Code := (Tryz.f55.body).getD .skip

noncomputable def B56 : Code := (Tryz.f56.body).getD .skip

noncomputable def B57 : Code := (Tryz.f57.body).getD .skip

noncomputable def B58 : Code := (Tryz.f58.body).getD .skip

noncomputable def B59 : Code := (Tryz.f59.body).getD .skip

noncomputable def B60 : Code := (Tryz.f60.body).getD .skip

noncomputable def B61 : Code := (Tryz.f61.body).getD .skip

noncomputable def B73 : Code := (Tryz.f73.body).getD .skip

noncomputable def B74 : Code := (Tryz.f74.body).getD .skip

noncomputable def B75 : Code := (Tryz.f75.body).getD .skip

noncomputable def B76 : Code := (Tryz.f76.body).getD .skip

noncomputable def B77 : Code := (Tryz.f77.body).getD .skip

noncomputable def B78 : Code := (Tryz.f78.body).getD .skip

noncomputable def B79 : Code := (Tryz.f79.body).getD .skip

noncomputable def B86 : Code := (Tryz.f86.body).getD .skip

noncomputable def B87 : Code := (Tryz.f87.body).getD .skip

noncomputable def B88 : Code := (Tryz.f88.body).getD .skip

noncomputable def B89 : Code := (Tryz.f89.body).getD .skip

noncomputable def B90 : Code := (Tryz.f90.body).getD .skip

noncomputable def B91 : Code := (Tryz.f91.body).getD .skip

noncomputable def B93 : Code := (Tryz.f93.body).getD .skip

noncomputable def B94 : Code := (Tryz.f94.body).getD .skip

noncomputable def B95 : Code := (Tryz.f95.body).getD .skip

noncomputable def B96 : Code := (Tryz.f96.body).getD .skip

noncomputable def B97 : Code := (Tryz.f97.body).getD .skip

noncomputable def B98 : Code := (Tryz.f98.body).getD .skip

noncomputable def B99 : Code := (Tryz.f99.body).getD .skip

noncomputable def B100 : Code := (Tryz.f100.body).getD .skip

noncomputable def B101 : Code := (Tryz.f101.body).getD .skip

noncomputable def B102 : Code := (Tryz.f102.body).getD .skip

noncomputable def B103 : Code := (Tryz.f103.body).getD .skip

noncomputable def B104 : Code := (Tryz.f104.body).getD .skip

noncomputable def B105 : Code := (Tryz.f105.body).getD .skip

noncomputable def B106 : Code := (Tryz.f106.body).getD .skip

noncomputable def B107 : Code := (Tryz.f107.body).getD .skip

noncomputable def B108 : Code := (Tryz.f108.body).getD .skip

noncomputable def B110 : Code := (Tryz.f110.body).getD .skip

noncomputable def B111 : Code := (Tryz.f111.body).getD .skip

noncomputable def B112 : Code := (Tryz.f112.body).getD .skip

noncomputable def B113 : Code := (Tryz.f113.body).getD .skip

noncomputable def B114 : Code := (Tryz.f114.body).getD .skip

noncomputable def B115 : Code := (Tryz.f115.body).getD .skip

def J0 := Zs [1, 1] B50 []
def Q1 := sub [1, 0] B50
def J1 := Zr Q1 [3, 4, 5, 6, 7] J0
def J2 := Zr Q1 [4, 5, 6, 7] J0

def Post.z0 (gx1 : Nat) (u0 : Int) (r : Bool) (v : Value) (w' : World) : Prop :=
 ∃ S', v = .bool r ∧ Ext S0 w0 S' w' ∧ Hp nz wz S' w' ((some gx1, .row 3 [.i u0] 1 0) :: Lr)

theorem W.z0 (x0 : Int) (u0 : Int) (r : Bool) (h : M.prog_right_1 x0 u0 = some r) {nz wz S0 w0 Lr} (gx1) (p0 : Hp nz wz S0 w0 ((some gx1, .row 3 [.i u0] 1 0) :: Lr)) :
  Calls Tryz.prog 50 #[.i x0, (pt gx1 0)] w0 (Rets (Post.z0 nz wz S0 w0 Lr gx1 u0 r)) := by
 refine Zf Tryz.f50 B50 9 ?_
 refine Gj 11 [(0, .i x0), (1, (pt gx1 0))] fun junk => ?_
 delta M.prog_right_1 at h
 refine Gn 9 [(3, .bool false), (4, .i x0), (5, .bool (decide (x0 ≥ 0))), (6, .bool (decide (x0 ≥ 0)))] J1 ?_
 refine ite_some h (fun h2 h => ?_) (fun h2 h => ?_)
 ·
  rw [decide_eq_true h2]
  refine Gn 1 [(7, .i x0)] J2 ?_
  refine Goes.ld 3 (.tmp 1) 8 3 ⟨gx1, 0, none⟩ (.i u0) (p0.c 0 0) ?_
  refine Gn 4 [(9, .bool (decide (x0 < u0))), (10, .bool (decide (x0 < u0))), (3, .bool (decide (x0 < u0)))] J0 ?_
  obtain rfl := Option.some.inj h
  exact Goes.rt Tryz.f50 (.bool (decide (x0 < u0))) ⟨S0, rfl, (Ext.refl S0 w0), p0⟩
 ·
  rw [decide_eq_false h2]
  refine Gn 6 [(7, undef), (8, undef), (9, undef), (10, .bool false), (3, .bool false)] J0 ?_
  obtain rfl := Option.some.inj h
  exact Goes.rt Tryz.f50 (.bool false) ⟨S0, rfl, (Ext.refl S0 w0), p0⟩

def J3 := Zs [1] B33 []
def J4 := Zt [0] B33 [0, 1, 2] J3
def J5 := Zs [1, 1, 1] B33 []
def Q5 := sub [1, 1, 0] B33
def J6 := Zr Q5 [1, 2, 3, 4] J5
def J7 := Zr Q5 [3, 4] J5
def J8 := Zs [1, 1, 1, 1] B33 []
def J9 := Zs [1, 1, 1, 0, 1] B33 J8
def Ja := Zt [1, 1, 1, 0, 0] B33 [1] J9
def Jb := Zb 0 J8
def Jc := Zs [1, 1, 1, 0, 1, 0, 1] B33 Jb
def Jd := Zs [1, 1, 1, 0, 1, 0, 1, 0, 1] B33 Jb
def Qb := sub [1, 1, 1, 0, 1, 0, 1, 0, 0] B33
def Je := Zr Qb [2, 3, 4, 5, 6, 7, 8, 9] Jd
def Jf := Zr Qb [5, 6, 7, 8, 9] Jd
def Jg := Zr Qb [6, 7, 8, 9] Jd
def Jh := Zs [1, 1, 1, 0, 1, 0, 1, 1, 1] B33 Jb
def Ji := Zs [1, 1, 1, 0, 1, 0, 1, 1, 1, 0, 1] B33 Jb
def Qe := sub [1, 1, 1, 0, 1, 0, 1, 1, 1, 0, 0] B33
def Jj := Zr Qe [2, 3, 4, 5, 6, 7, 8, 9, 10, 11, 12, 13] Ji
def Jk := Zr Qe [4, 5, 6, 7, 8, 9, 10, 11, 12, 13] Ji
def Jl := Zr Qe [8, 9, 10, 11, 12, 13] Ji
def Jm := Zr Qe [10, 11, 12, 13] Ji
def Jn := Zs [1, 1, 1, 0, 1, 0, 1, 1, 1, 1, 1] B33 Jb
def Jo := Zs [1, 1, 1, 0, 1, 0, 1, 1, 1, 1, 1, 0, 1] B33 Jb
def Qh := sub [1, 1, 1, 0, 1, 0, 1, 1, 1, 1, 1, 0, 0] B33
def Jp := Zr Qh [2, 3, 4, 5, 6, 7, 8, 9, 10, 11, 12] Jo
def Jq := Zr Qh [4, 5, 6, 7, 8, 9, 10, 11, 12] Jo
def Jr := Zr Qh [8, 9, 10, 11, 12] Jo
def Js := Zr Qh [9, 10, 11, 12] Jo
def Jt := Zs [1, 1, 1, 0, 1, 0, 1, 1, 1, 1, 1, 1, 1] B33 Jb
def Ju := Zs [1, 1, 1, 0, 1, 0, 1, 1, 1, 1, 1, 1, 1, 0, 1] B33 Jb
def Qk := sub [1, 1, 1, 0, 1, 0, 1, 1, 1, 1, 1, 1, 1, 0, 0] B33
def Jv := Zr Qk [2, 3, 4, 5, 6, 7, 8, 9, 10, 11] Ju
def Jw := Zr Qk [3, 4, 5, 6, 7, 8, 9, 10, 11] Ju
def Jx := Zr Qk [7, 8, 9, 10, 11] Ju
def Jy := Zr Qk [8, 9, 10, 11] Ju
def Jz := Zs [1, 1, 1, 1, 1] B33 []

def Post.z1 (r : Bool) (v : Value) (w' : World) : Prop :=
 ∃ S', v = .bool r ∧ Ext S0 w0 S' w' ∧ Hp nz wz S' w' (Lr)

theorem W.z1 (x0 : T45) (x1 : Int) (r : Bool) (h : M.prog_right x0 x1 = some r) {nz wz S0 w0 Lr} (p0 : Hp nz wz S0 w0 (Lr)) (u1 : x0.Set.length = 4) :
  Calls Tryz.prog 33 #[(ag (.i x0.Op :: U4 x0.Set [.i x0.X, .i x0.Y])), .i x1] w0 (Rets (Post.z1 nz wz S0 w0 Lr r)) := by
 refine Zf Tryz.f33 B33 65 ?_
 refine Gj 67 [(0, (ag (.i x0.Op :: U4 x0.Set [.i x0.X, .i x0.Y]))), (1, .i x1)] fun junk => ?_
 delta M.prog_right at h
 refine Gn 2 [] J4 ?_
 refine Op_.box 46 (.tmp 0) 2 0 (ag (.i x0.Op :: U4 x0.Set [.i x0.X, .i x0.Y])) (.i x0.Op :: U4 x0.Set [.i x0.X, .i x0.Y]) p0 Goes.v (by kernel_rfl) (by kernel_rfl) ?_
 intro b1 w2 z2 p2
 refine Op_.box 3 (.tmp 1) 3 0 (.i x1) [.i x1] p2 Goes.v (by kernel_rfl) (by kernel_rfl) ?_
 intro b3 w3 z3 p3
 refine Gn 10 [(4, .bool false), (7, .func (.func 50) #[] #[(pt b3 0)]), (5, .func (.func 50) #[] #[(pt b3 0)]), (8, (pt b1 1))] J6 ?_
 refine Goes.ldN 44 (.tmp 8) 9 44 ⟨b1, 1, none⟩ (U4 x0.Set []) (p3.pa 1 1) ?_
 refine Gn 1 [(10, .agg #[.u 0, .u 0, .u 0, .u 0])] J7 ?_
 refine Op_.eqA 44 (.tmp 9) (.tmp 10) 44 11 4 42 4 .u64 (us := ((U4 x0.Set []) : List Value)) (vs := ([.u 0, .u 0, .u 0, .u 0] : List Value)) Goes.v (by kernel_rfl) (by kernel_rfl) (by kernel_rfl) (by kernel_rfl) (by kernel_rfl) (by kernel_rfl) (by kernel_rfl) (els_mk4 (S := S0) (w := w3) (k := .u64) u1) (show Els (kInt .u64) S0 w3 ([.u 0, .u 0, .u 0, .u 0] : List Value) _ from (Els.cons (K := (kInt .u64)) (vs := [.u 0]) (x := 0) rfl (Els.cons (K := (kInt .u64)) (vs := [.u 0]) (x := 0) rfl (Els.cons (K := (kInt .u64)) (vs := [.u 0]) (x := 0) rfl (Els.cons (K := (kInt .u64)) (vs := [.u 0]) (x := 0) rfl Els.nil))))) (Els.len1 (els_mk4 (S := S0) (w := w3) (k := .u64) u1) rfl rfl) (Els.len1 (show Els (kInt .u64) S0 w3 ([.u 0, .u 0, .u 0, .u 0] : List Value) _ from (Els.cons (K := (kInt .u64)) (vs := [.u 0]) (x := 0) rfl (Els.cons (K := (kInt .u64)) (vs := [.u 0]) (x := 0) rfl (Els.cons (K := (kInt .u64)) (vs := [.u 0]) (x := 0) rfl (Els.cons (K := (kInt .u64)) (vs := [.u 0]) (x := 0) rfl Els.nil))))) rfl rfl) ?_
 refine Gn 6 [(6, .bool (decide (x0.Set = [0, 0, 0, 0]))), (12, (pt b1 0))] Ja ?_
 refine Goes.ld 3 (.tmp 12) 13 3 ⟨b1, 0, none⟩ (.i x0.Op) (p3.c 1 0) ?_
 refine Gn 7 [(15, .bool (decide (x0.Op = 1))), (14, .bool (decide (x0.Op = 1)))] Jc ?_
 refine ite_some h (fun h5 h => ?_) (fun h5 h => ?_)
 ·
  rw [decide_eq_true h5]
  refine Gn 5 [(16, .func (.func 50) #[] #[(pt b3 0)]), (17, (pt b1 5))] Je ?_
  refine Goes.ld 3 (.tmp 17) 18 3 ⟨b1, 5, none⟩ (.i x0.X) (p3.c 1 5) ?_
  refine bind_some' h fun y6 e7 h => ?_
  refine Gc (.call { callee := .value (.tmp 16), args := #[(.tmp 18)], argTypes := #[3] }) 19 4 50 _ (W.z0 x0.X x1 y6 e7 b3 p3 ) ?_
  rintro _ w4 ⟨S4, rfl, z4, p4⟩
  have p4 := p4.dp 0
  refine Gn 1 [(20, .bool y6)] Jf ?_
  refine ite_some h (fun h8 h => ?_) (fun h8 h => ?_)
  ·
   rw [h8]
   refine Gn 1 [(21, (pt b1 6))] Jg ?_
   refine Goes.ld 3 (.tmp 21) 22 3 ⟨b1, 6, none⟩ (.i x0.Y) (p4.c 0 6) ?_
   refine Gn 4 [(23, .bool (decide (x0.Y = 0))), (24, .bool (decide (x0.Y = 0))), (4, .bool (decide (x0.Y = 0)))] Jd ?_
   obtain rfl := Option.some.inj h
   have p4 := p4.dp 0
   exact Goes.rt Tryz.f33 (.bool (decide (x0.Y = 0))) ⟨S4, rfl, ((((Ext.refl S0 w0).trans z2).trans z3).trans z4), p4⟩
  ·
   have h8' : y6 = false := by simpa using h8
   rw [h8']
   refine Gn 6 [(21, undef), (22, undef), (23, undef), (24, .bool false), (4, .bool false)] Jd ?_
   obtain rfl := Option.some.inj h
   have p4 := p4.dp 0
   exact Goes.rt Tryz.f33 (.bool false) ⟨S4, rfl, ((((Ext.refl S0 w0).trans z2).trans z3).trans z4), p4⟩
 ·
  rw [decide_eq_false h5]
  refine Gn 6 [(26, .bool (decide (x0.Op = 2))), (25, .bool (decide (x0.Op = 2)))] Jh ?_
  refine ite_some h (fun h9 h => ?_) (fun h9 h => ?_)
  ·
   rw [decide_eq_true h9]
   refine Gn 5 [(27, .bool (decide (x0.Set = [0, 0, 0, 0]))), (28, .bool (decide (x0.Set = [0, 0, 0, 0])))] Jj ?_
   refine ite_some h (fun h10 h => ?_) (fun h10 h => ?_)
   ·
    rw [decide_eq_true h10]
    refine Gn 2 [(29, .func (.func 50) #[] #[(pt b3 0)]), (30, (pt b1 5))] Jk ?_
    refine Goes.ld 3 (.tmp 30) 31 3 ⟨b1, 5, none⟩ (.i x0.X) (p3.c 1 5) ?_
    refine bind_some' h fun y11 e12 h => ?_
    refine Gc (.call { callee := .value (.tmp 29), args := #[(.tmp 31)], argTypes := #[3] }) 32 4 50 _ (W.z0 x0.X x1 y11 e12 b3 p3 ) ?_
    rintro _ w5 ⟨S5, rfl, z5, p5⟩
    refine Gn 2 [(33, .bool y11), (34, .bool y11)] Jl ?_
    refine ite_some h (fun h13 h => ?_) (fun h13 h => ?_)
    ·
     rw [h13]
     refine Gn 2 [(35, .func (.func 50) #[] #[(pt b3 0)]), (36, (pt b1 6))] Jm ?_
     refine Goes.ld 3 (.tmp 36) 37 3 ⟨b1, 6, none⟩ (.i x0.Y) (p5.c 1 6) ?_
     refine bind_some' h fun y14 e15 h => ?_
     refine Gc (.call { callee := .value (.tmp 35), args := #[(.tmp 37)], argTypes := #[3] }) 38 4 50 _ (W.z0 x0.Y x1 y14 e15 b3 p5 ) ?_
     rintro _ w6 ⟨S6, rfl, z6, p6⟩
     have p6 := (p6.dp 0).dp 0
     refine Gn 3 [(39, .bool y14), (4, .bool y14)] Ji ?_
     obtain rfl := Option.some.inj h
     exact Goes.rt Tryz.f33 (.bool y14) ⟨S6, rfl, (((((Ext.refl S0 w0).trans z2).trans z3).trans z5).trans z6), p6⟩
    ·
     have u2 : y11 = false := by simpa using h13
     rw [u2]
     refine Gn 7 [(35, undef), (36, undef), (37, undef), (38, undef), (39, .bool false), (4, .bool false)] Ji ?_
     obtain rfl := Option.some.inj h
     have p5 := (p5.dp 0).dp 0
     exact Goes.rt Tryz.f33 (.bool false) ⟨S5, rfl, ((((Ext.refl S0 w0).trans z2).trans z3).trans z5), p5⟩
   ·
    rw [decide_eq_false h10]
    refine Gn 13 [(29, undef), (30, undef), (31, undef), (32, undef), (33, .bool false), (34, .bool false), (35, undef), (36, undef), (37, undef), (38, undef), (39, .bool false), (4, .bool false)] Ji ?_
    obtain rfl := Option.some.inj h
    have p3 := (p3.dp 0).dp 0
    exact Goes.rt Tryz.f33 (.bool false) ⟨S0, rfl, (((Ext.refl S0 w0).trans z2).trans z3), p3⟩
  ·
   rw [decide_eq_false h9]
   refine Gn 6 [(41, .bool (decide (x0.Op = 4))), (40, .bool (decide (x0.Op = 4)))] Jn ?_
   refine ite_some h (fun h16 h => ?_) (fun h16 h => ?_)
   ·
    rw [decide_eq_true h16]
    refine Gn 5 [(42, .bool (decide (x0.Set = [0, 0, 0, 0]))), (43, .bool (decide (x0.Set = [0, 0, 0, 0])))] Jp ?_
    refine ite_some h (fun h17 h => ?_) (fun h17 h => ?_)
    ·
     rw [decide_eq_true h17]
     refine Gn 2 [(44, .func (.func 50) #[] #[(pt b3 0)]), (45, (pt b1 5))] Jq ?_
     refine Goes.ld 3 (.tmp 45) 46 3 ⟨b1, 5, none⟩ (.i x0.X) (p3.c 1 5) ?_
     refine bind_some' h fun y18 e19 h => ?_
     refine Gc (.call { callee := .value (.tmp 44), args := #[(.tmp 46)], argTypes := #[3] }) 47 4 50 _ (W.z0 x0.X x1 y18 e19 b3 p3 ) ?_
     rintro _ w7 ⟨S7, rfl, z7, p7⟩
     have p7 := p7.dp 0
     refine Gn 2 [(48, .bool y18), (49, .bool y18)] Jr ?_
     refine ite_some h (fun h20 h => ?_) (fun h20 h => ?_)
     ·
      rw [h20]
      refine Gn 1 [(50, (pt b1 6))] Js ?_
      refine Goes.ld 3 (.tmp 50) 51 3 ⟨b1, 6, none⟩ (.i x0.Y) (p7.c 0 6) ?_
      refine Gn 4 [(52, .bool (decide (x0.Y = 0))), (53, .bool (decide (x0.Y = 0))), (4, .bool (decide (x0.Y = 0)))] Jo ?_
      obtain rfl := Option.some.inj h
      have p7 := p7.dp 0
      exact Goes.rt Tryz.f33 (.bool (decide (x0.Y = 0))) ⟨S7, rfl, ((((Ext.refl S0 w0).trans z2).trans z3).trans z7), p7⟩
     ·
      have u3 : y18 = false := by simpa using h20
      rw [u3]
      refine Gn 6 [(50, undef), (51, undef), (52, undef), (53, .bool false), (4, .bool false)] Jo ?_
      obtain rfl := Option.some.inj h
      have p7 := p7.dp 0
      exact Goes.rt Tryz.f33 (.bool false) ⟨S7, rfl, ((((Ext.refl S0 w0).trans z2).trans z3).trans z7), p7⟩
    ·
     rw [decide_eq_false h17]
     refine Gn 12 [(44, undef), (45, undef), (46, undef), (47, undef), (48, .bool false), (49, .bool false), (50, undef), (51, undef), (52, undef), (53, .bool false), (4, .bool false)] Jo ?_
     obtain rfl := Option.some.inj h
     have p3 := (p3.dp 0).dp 0
     exact Goes.rt Tryz.f33 (.bool false) ⟨S0, rfl, (((Ext.refl S0 w0).trans z2).trans z3), p3⟩
   ·
    rw [decide_eq_false h16]
    refine Gn 6 [(55, .bool (decide (x0.Op = 3))), (54, .bool (decide (x0.Op = 3)))] Jt ?_
    refine ite_some h (fun h21 h => ?_) (fun h21 h => ?_)
    ·
     rw [decide_eq_true h21]
     refine Gn 5 [(56, .bool (decide (x0.Set = [0, 0, 0, 0]))), (57, .bool (decide (x0.Set = [0, 0, 0, 0])))] Jv ?_
     refine ite_some h (fun h22 h => ?_) (fun h22 h => ?_)
     ·
      rw [decide_eq_true h22]
      refine Gn 1 [(58, (pt b1 5))] Jw ?_
      refine Goes.ld 3 (.tmp 58) 59 3 ⟨b1, 5, none⟩ (.i x0.X) (p3.c 1 5) ?_
      refine Gn 3 [(60, .bool (decide (x0.X = 0))), (61, .bool (decide (x0.X = 0))), (62, .bool (decide (x0.X = 0)))] Jx ?_
      refine ite_some h (fun h23 h => ?_) (fun h23 h => ?_)
      ·
       rw [decide_eq_true h23]
       refine Gn 1 [(63, (pt b1 6))] Jy ?_
       refine Goes.ld 3 (.tmp 63) 64 3 ⟨b1, 6, none⟩ (.i x0.Y) (p3.c 1 6) ?_
       refine Gn 4 [(65, .bool (decide (x0.Y = 0))), (66, .bool (decide (x0.Y = 0))), (4, .bool (decide (x0.Y = 0)))] Ju ?_
       obtain rfl := Option.some.inj h
       have p3 := (p3.dp 0).dp 0
       exact Goes.rt Tryz.f33 (.bool (decide (x0.Y = 0))) ⟨S0, rfl, (((Ext.refl S0 w0).trans z2).trans z3), p3⟩
      ·
       rw [decide_eq_false h23]
       refine Gn 6 [(63, undef), (64, undef), (65, undef), (66, .bool false), (4, .bool false)] Ju ?_
       obtain rfl := Option.some.inj h
       have p3 := (p3.dp 0).dp 0
       exact Goes.rt Tryz.f33 (.bool false) ⟨S0, rfl, (((Ext.refl S0 w0).trans z2).trans z3), p3⟩
     ·
      rw [decide_eq_false h22]
      refine Gn 11 [(58, undef), (59, undef), (60, undef), (61, .bool false), (62, .bool false), (63, undef), (64, undef), (65, undef), (66, .bool false), (4, .bool false)] Ju ?_
      obtain rfl := Option.some.inj h
      have p3 := (p3.dp 0).dp 0
      exact Goes.rt Tryz.f33 (.bool false) ⟨S0, rfl, (((Ext.refl S0 w0).trans z2).trans z3), p3⟩
    ·
     rw [decide_eq_false h21]
     refine Gn 7 [(4, .bool false)] Jz ?_
     obtain rfl := Option.some.inj h
     have p3 := (p3.dp 0).dp 0
     exact Goes.rt Tryz.f33 (.bool false) ⟨S0, rfl, (((Ext.refl S0 w0).trans z2).trans z3), p3⟩

def J10 := Zs [1, 1, 1] B16 []
def J11 := Zb 0 J10
def Qn := sub [1, 1, 0, 1, 0, 0] B16
def J12 := Zl Qn J11
def J13 := Zc Qn J12
def J14 := Zs [1, 1, 0, 1, 0, 0, 1, 1] B16 J12
def J15 := Zs [1, 1, 0, 1, 0, 0, 1, 0] B16 J14
def J16 := Zs [1, 1, 0, 1, 0, 0, 1, 1, 1] B16 J12
def J17 := Zb 1 J16
def J18 := Zs [1, 1, 0, 1, 0, 0, 1, 1, 0, 0, 1] B16 J17
def J19 := Zt [1, 1, 0, 1, 0, 0, 1, 1, 0, 0, 0] B16 [0, 1, 2, 3] J18
def J1a := Zs [1, 1, 0, 1, 0, 0, 1, 1, 0, 0, 1, 1] B16 J17
def Qu := sub [1, 1, 0, 1, 0, 0, 1, 1, 0, 0, 1, 0] B16
def J1b := Zr Qu [0, 1, 2, 3, 4] J1a
def J1c := Zr Qu [3, 4] J1a
def J1d := Zs [1, 1, 0, 1, 0, 0, 1, 1, 0, 0, 1, 1, 0, 1] B16 J17
def J1e := Zs [1, 1, 1, 1] B16 []

def Post.z2 (r : Int) (v : Value) (w' : World) : Prop :=
 ∃ S', v = .i r ∧ Ext S0 w0 S' w' ∧ Hp nz wz S' w' (Lr)

def L.z3 : (List T45) × (List T45) × Int × Int → Int → Prop := fun ⟨x0, x13, x14, x15⟩ r => ∀ S1 w1, Ext S0 w0 S1 w1 → ∀ Ax0 nx0 cx0 u4 u5 u6 (_ : Hp nz wz S1 w1 (Lr)) (_ : Rd kT45 S1 w1 Ax0 cx0 x0) (_ : x0.length = nx0) (_ : Rd kT45 S1 w1 u4 u6 x13) (_ : x13.length = u5) (junk : Nat → Value),
 Goes Tryz.prog (base 16) J13 ⟨lfr 25 [(0, .slice Ax0 nx0 cx0), (13, .slice u4 u5 u6), (14, .i x14), (15, .i x15)] junk, []⟩ w1 (Done Tryz.prog 16 (Rets (Post.z2 nz wz S0 w0 Lr r)))

theorem W.z3 {nz wz S0 w0 Lr} : ∀ a r, M.prog_Check_l1 a = some r → (L.z3 nz wz S0 w0 Lr) a r := by
 refine M.prog_Check_l1.partial_correctness (motive := (L.z3 nz wz S0 w0 Lr)) ?_
 intro u7 u8 ⟨x0, x13, x14, x15⟩ r h S1 w1 hx Ax0 nx0 cx0 u4 u5 u6 p1 fx0 lx0 u9 ua junk
 try dsimp only at h
 subst lx0
 subst ua
 refine Gn 5 [(16, .bool (decide (x15 < x14)))] J15 ?_
 refine ite_some h (fun h3 h => ?_) (fun h3 h => ?_)
 ·
  rw [decide_eq_true h3]
  refine Gn 6 [] J19 ?_
  refine guard_some' h fun g4 h => ?_
  refine guard_some' h fun g5 h => ?_
  refine Op_.ixR_n 22 (.tmp 13) (.tmp 15) 17 0 46 .i64 x15 (gi x13 x15) rfl rfl u9 Goes.v (by kernel_rfl) (by kernel_rfl) (by kernel_rfl) (by kernel_rfl) g4 g5 ?_
  intro a6 _ f7 q8
  obtain ⟨_, _, rfl, rfl, ⟨_, _, rfl, ⟨l9, f10⟩, ⟨_, _, rfl, rfl, rfl⟩⟩⟩ := q8
  obtain rfl := els_lit4' f10 l9
  refine Goes.ldN 46 (.tmp 17) 18 46 a6 ([.i ((gi x13 x15).Op)] ++ ((U4 ((gi x13 x15).Set) []) ++ ([.i ((gi x13 x15).X)] ++ [.i ((gi x13 x15).Y)]))) (f7.cell) ?_
  refine Op_.alloc 46 4 0 (.agg #[.i 0, .u 0, .u 0, .u 0, .u 0, .i 0, .i 0]) [.i 0, .u 0, .u 0, .u 0, .u 0, .i 0, .i 0] p1 Goes.v (by kernel_rfl) (by kernel_rfl) ?_
  intro b11 w2 z2 p2
  refine So 46 (.tmp 4) (.tmp 18) 0 0 b11 0 (ag (.i ((gi x13 x15).Op) :: U4 ((gi x13 x15).Set) [.i ((gi x13 x15).X), .i ((gi x13 x15).Y)])) (.i ((gi x13 x15).Op) :: U4 ((gi x13 x15).Set) [.i ((gi x13 x15).X), .i ((gi x13 x15).Y)]) p2 rfl Goes.s ?_
  intro w3 z3 p3
  have p3 : Hp nz wz S1 w3 ((some b11, .row 46 (.i ((gi x13 x15).Op) :: U4 ((gi x13 x15).Set) [.i ((gi x13 x15).X), .i ((gi x13 x15).Y)]) 7 0) :: Lr) := p3
  refine Gn 3 [] J1b ?_
  refine Goes.ldN 46 (.tmp 4) 19 46 ⟨b11, 0, none⟩ (.i ((gi x13 x15).Op) :: U4 ((gi x13 x15).Set) [.i ((gi x13 x15).X), .i ((gi x13 x15).Y)]) (p3.pa 0 0) ?_
  refine Gn 2 [(20, .slice Ax0 x0.length cx0), (21, .i (x0.length : Int))] J1c ?_
  refine bind_some' h fun y13 e14 h => ?_
  refine Gc (kc 33 [19, 21] #[46, 3]) 22 4 33 _ (W.z1 (⟨(gi x13 x15).Op, ((gi x13 x15).Set), (gi x13 x15).X, (gi x13 x15).Y⟩ : T45) (x0.length : Int) y13 e14  p3 l9) ?_
  rintro _ w4 ⟨S4, rfl, z4, p4⟩
  have p4 := p4.dp 0
  refine Gn 2 [(23, .bool (!y13))] J1a ?_
  refine ite_some h (fun h15 h => ?_) (fun h15 h => ?_)
  ·
   rw [h15]
   refine Gn 8 [(24, .i (wr .i64 (x15 + 1))), (15, .i (wr .i64 (x15 + 1)))] J13 ?_
   exact Gj 25 [(0, .slice Ax0 x0.length cx0), (13, .slice u4 x13.length u6), (14, .i x14), (15, .i (wr .i64 (x15 + 1)))] (u8 _ _ h _ _ (((hx.trans z2).trans z3).trans z4) Ax0 x0.length cx0 u4 x13.length u6 p4 (fx0.ext ((z2.trans z3).trans z4)) rfl (u9.ext ((z2.trans z3).trans z4)) rfl)
  ·
   have ub : y13 = false := by simpa using h15
   rw [ub]
   refine Gn 5 [(2, .i 110)] J1d ?_
   obtain rfl := Option.some.inj h
   exact Goes.rt Tryz.f16 (.i 110) ⟨S4, rfl, (((hx.trans z2).trans z3).trans z4), p4⟩
 ·
  rw [decide_eq_false h3]
  refine Gn 6 [(2, .i 0)] J1e ?_
  obtain rfl := Option.some.inj h
  exact Goes.rt Tryz.f16 (.i 0) ⟨S1, rfl, hx, p1⟩

def J1f := Zs [1, 1] B16 []
def J1g := Zs [1, 0, 1] B16 J1f
def J1h := Zs [1, 0, 1, 0, 1] B16 J1f

def L.z4 : (List T45) × Bool → Int → Prop := fun ⟨x0, x12⟩ r => ∀ S1 w1, Ext S0 w0 S1 w1 → ∀ Ax0 nx0 cx0 (_ : Hp nz wz S1 w1 (Lr)) (_ : Rd kT45 S1 w1 Ax0 cx0 x0) (_ : x0.length = nx0) (junk : Nat → Value),
 Goes Tryz.prog (base 16) J1g ⟨lfr 25 [(0, .slice Ax0 nx0 cx0), (12, .bool x12)] junk, []⟩ w1 (Done Tryz.prog 16 (Rets (Post.z2 nz wz S0 w0 Lr r)))

theorem W.z4 {nz wz S0 w0 Lr} : ∀ a r, M.prog_Check_l0 a = some r → L.z4 nz wz S0 w0 Lr a r := by
 intro ⟨x0, x12⟩ r h S1 w1 hx Ax0 nx0 cx0 p1 fx0 lx0 junk
 rw [M.prog_Check_l0] at h
 try dsimp only at h
 subst lx0
 refine ite_some h (fun h2 h => ?_) (fun h2 h => ?_)
 ·
  rw [h2]
  refine Gn 5 [(2, .i 110)] J1h ?_
  obtain rfl := Option.some.inj h
  exact Goes.rt Tryz.f16 (.i 110) ⟨S1, rfl, hx, p1⟩
 ·
  have h2' : x12 = false := by simpa using h2
  rw [h2']
  refine Gn 11 [(13, .slice Ax0 x0.length cx0), (14, .i (x0.length : Int)), (15, .i 0)] J13 ?_
  exact Gj 25 [(0, .slice Ax0 x0.length cx0), (13, .slice Ax0 x0.length cx0), (14, .i (x0.length : Int)), (15, .i 0)] (W.z3 _ _ h _ _ hx Ax0 x0.length cx0 Ax0 x0.length cx0 p1 fx0 rfl fx0 rfl)

def J1i := Zt [1, 0, 0] B16 [4, 5, 6, 7] J1g

theorem W.z2 (x0 : List T45) (r : Int) (h : M.prog_Check x0 = some r) {nz wz S0 w0 Lr} (Ax0 nx0 cx0) (p0 : Hp nz wz S0 w0 (Lr)) (fx0 : Rd kT45 S0 w0 Ax0 cx0 x0) (lx0 : x0.length = nx0) :
  Calls Tryz.prog 16 #[.slice Ax0 nx0 cx0] w0 (Rets (Post.z2 nz wz S0 w0 Lr r)) := by
 subst lx0
 refine Zf Tryz.f16 B16 24 ?_
 refine Gj 25 [(0, .slice Ax0 x0.length cx0)] fun junk => ?_
 delta M.prog_Check at h
 refine Gn 11 [(2, .i 0), (5, .slice Ax0 x0.length cx0), (6, .i (x0.length : Int)), (7, .bool (decide ((x0.length : Int) = 0))), (8, .bool (decide ((x0.length : Int) = 0)))] J1i ?_
 refine ite_some h (fun h1 h => ?_) (fun h1 h => ?_)
 ·
  rw [decide_eq_true h1]
  refine Gn 5 [(9, undef), (10, undef), (11, undef), (12, .bool true)] J1g ?_
  exact Gj 25 [(0, .slice Ax0 x0.length cx0), (12, .bool true)] (W.z4 _ _ h _ _ (Ext.refl S0 w0) Ax0 x0.length cx0 p0 fx0 rfl)
 ·
  rw [decide_eq_false h1]
  refine Gn 5 [(9, .slice Ax0 x0.length cx0), (10, .i (x0.length : Int)), (11, .bool (decide ((x0.length : Int) > 2048))), (12, .bool (decide ((x0.length : Int) > 2048)))] J1g ?_
  exact Gj 25 [(0, .slice Ax0 x0.length cx0), (12, .bool (decide ((x0.length : Int) > 2048)))] (W.z4 _ _ h _ _ (Ext.refl S0 w0) Ax0 x0.length cx0 p0 fx0 rfl)

def J1j := Zs [1, 1] B17 []
def J1k := Zs [1, 0, 1] B17 J1j
def J1l := Zt [1, 0, 0] B17 [1] J1k
def J1m := Zs [1, 0, 1, 0, 1] B17 J1j
def J1n := Zs [1, 1, 1] B17 []
def Q16 := sub [1, 1, 0] B17
def J1o := Zr Q16 [0, 1, 2, 3] J1n
def J1p := Zr Q16 [2, 3] J1n

def Post.z5 (r : List T45) (v : Value) (w' : World) : Prop :=
 ∃ S' Gq nq cq csq, v = .slice (Gp Gq) nq cq ∧ Ext S0 w0 S' w' ∧ Hp nz wz S' w' ((Gq, .row 46 csq (cq * kT45.size) 0) :: Lr) ∧ Els kT45 S' w' csq r ∧ r.length = nq

theorem W.z5 (x0 : List T45) (r : List T45) (h : M.api_Inst x0 = some r) {nz wz S0 w0 Lr} (Ax0 nx0 cx0) (p0 : Hp nz wz S0 w0 (Lr)) (fx0 : Rd kT45 S0 w0 Ax0 cx0 x0) (lx0 : x0.length = nx0) :
  Calls Tryz.prog 17 #[.slice Ax0 nx0 cx0] w0 (Rets (Post.z5 nz wz S0 w0 Lr r)) := by
 subst lx0
 refine Zf Tryz.f17 B17 7 ?_
 refine Gj 8 [(0, .slice Ax0 x0.length cx0)] fun junk => ?_
 delta M.api_Inst at h
 refine Gn 8 [(2, .slice none 0 0), (3, .slice Ax0 x0.length cx0)] J1l ?_
 rcases Rd.isnil fx0 with ⟨rfl, rfl, rfl⟩ | ⟨a1, rfl⟩
 ·
  replace h : (some ([] : List T45)) = some r := by first | exact h | (simpa using h) | (simp at h ⊢; exact h)
  refine Gn 7 [(4, .bool true), (2, .slice none 0 0)] J1m ?_
  have p0 : Hp nz wz S0 w0 ((none, .row 46 [] (0 * kT45.size) 0) :: Lr) := p0.nilRow' 46
  obtain rfl := Option.some.inj h
  exact Goes.rt Tryz.f17 (.slice (Gp none) 0 0) ⟨S0, none, 0, 0, [], rfl, (Ext.refl S0 w0), p0, (Els.nil (K := kT45)), rfl⟩
 ·
  refine Gn 6 [(4, .bool false)] J1o ?_
  have f4 : Els kT45 S0 w0 ([] : List Value) ([] : List T45) := by exact Els.nil
  refine Op_.made (.buildSlice 22 0 #[]) 5 22 (fun b => .slice (Gp (some b)) 0 0) 46 ([] : List Value) p0 Goes.v (by kernel_rfl) ?_
  intro b3 w2 z2 p2
  have p2 : Hp nz wz S0 w2 (((some b3), .row 46 ([] : List Value) (0 * kT45.size) 0) :: Lr) := p2
  refine Gn 1 [(6, .slice (some a1) x0.length cx0)] J1p ?_
  obtain ⟨ns6, f7, f8⟩ := src_rd (fx0.ext z2)
  refine guard_some' h fun g9 h => ?_
  refine Op_.ap_n (K := kT45) 22 (.tmp 5) (.tmp 6) 7 22 46 0 (.agg #[.i 0, .u 0, .u 0, .u 0, .u 0, .i 0, .i 0]) 56 0 0 x0.length ([] : List T45) x0 x0 (some a1) cx0 rfl rfl (List.nil_append _) p2 rfl (f4.ext z2) Goes.v (by kernel_rfl) (by kernel_rfl) (by kernel_rfl) (by kernel_rfl) rfl (by decide) f7 f8 (by have := g9; omega) (by have := g9; omega) ?_
  intro w3 G10 c11 uc z3 p3 f13
  refine Gn 2 [(2, .slice (Gp G10) x0.length c11)] J1n ?_
  obtain rfl := Option.some.inj h
  exact Goes.rt Tryz.f17 (.slice (Gp G10) x0.length c11) ⟨S0, G10, x0.length, c11, uc, rfl, (((Ext.refl S0 w0).trans z2).trans z3), p3, f13, rfl⟩

def J1q := Zs [1, 1] B18 []
def Q18 := sub [1, 0] B18
def J1r := Zr Q18 [1, 2, 3, 4] J1q
def J1s := Zr Q18 [3, 4] J1q

def Post.z6 (r : List Int) (v : Value) (w' : World) : Prop :=
 ∃ S' gq ud ue uf ug, v = (pt gq 0) ∧ Ext S0 w0 S' w' ∧ Hp nz wz S' w' ((some gq, .row 66 [.slice (Gp ud) ue uf, .slice none 0 0] 2 0) :: (ud, .row 3 ug (uf * (kInt .i64).size) 0) :: Lr) ∧ Els (kInt .i64) S' w' ug r ∧ r.length = ue

theorem W.z6 (x0 : Int) (r : List Int) (h : M.sim_state x0 = some r) {nz wz S0 w0 Lr} (p0 : Hp nz wz S0 w0 (Lr)) :
  Calls Tryz.prog 18 #[.i x0] w0 (Rets (Post.z6 nz wz S0 w0 Lr r)) := by
 refine Zf Tryz.f18 B18 6 ?_
 refine Gj 7 [(0, .i x0)] fun junk => ?_
 delta M.sim_state at h
 refine Gn 7 [(2, .pointer none), (3, .i x0)] J1r ?_
 refine guard_some' h fun g1 h => ?_
 refine guard_some' h fun g2 h => ?_
 refine Op_.mk_n (K := (kInt .i64)) 33 (.tmp 3) (.tmp 3) 4 33 3 .i64 .i64 x0 x0 (.i 0) [.i 0] 8 (0 : Int) (List.replicate (x0 : Int).toNat (0 : Int)) rfl p0 Goes.v (by kernel_rfl) (by kernel_rfl) (by kernel_rfl) (by kernel_rfl) (by kernel_rfl) (fun _ _ => rfl) g1 (Int.le_refl _) (by have := g2; omega) (by have := g2; omega) ?_
 intro b3 w2 cs4 z2 p2 f5
 refine Gn 1 [(5, .agg #[.slice (Gp (some b3)) ((List.replicate (x0 : Int).toNat (0 : Int)).length) ((x0 : Int).toNat), .slice none 0 0])] J1s ?_
 refine Op_.box 66 (.tmp 5) 6 47 (.agg #[.slice (Gp (some b3)) ((List.replicate (x0 : Int).toNat (0 : Int)).length) ((x0 : Int).toNat), .slice none 0 0]) [.slice (Gp (some b3)) ((List.replicate (x0 : Int).toNat (0 : Int)).length) ((x0 : Int).toNat), .slice none 0 0] p2 Goes.v (by kernel_rfl) (by kernel_rfl) ?_
 intro b7 w3 z3 p3
 refine Gn 2 [(2, (pt b7 0))] J1q ?_
 obtain rfl := Option.some.inj h
 exact Goes.rt Tryz.f18 ((pt b7 0)) ⟨S0, b7, (some b3), (List.replicate (x0 : Int).toNat (0 : Int)).length, (x0 : Int).toNat, cs4, rfl, (((Ext.refl S0 w0).trans z2).trans z3), p3, (f5.ext z3), rfl⟩

def J1t := Zs [1, 1] B25 []
def Q1a := sub [1, 0] B25
def J1u := Zr Q1a [6, 7, 8, 9] J1t

def Post.z7 (gx0 : Nat) (uh : Option Nat) (ui : Nat) (uj : Nat) (uk : List Value) (ul : Nat) (um : Option Nat) (un : Nat) (uo : Nat) (up : List Value) (uq : Option Nat) (ur : Nat) (ut : Nat) (uu : List Value) (uv : Nat) (uw : Option Nat) (ux : Nat) (uy : Nat) (uz : List Value) (u10 : Option Nat) (u11 : Nat) (u12 : Nat) (u13 : List Value) (x0v : T50) (r : Unit) (v : Value) (w' : World) : Prop :=
 ∃ S', v = .bool true ∧ Ext S0 w0 S' w' ∧ Hp nz wz S' w' ((some gx0, .row 51 [.slice (Gp uh) ui uj, (pt ul 0), (pt uv 0)] 3 0) :: (uh, .row 46 uk (uj * kT45.size) 0) :: (some ul, .row 66 [.slice (Gp um) un uo, .slice (Gp uq) ur ut] 2 0) :: (um, .row 3 up (uo * (kInt .i64).size) 0) :: (uq, .row 49 uu (ut * (kInt .i64).size) 0) :: (some uv, .row 66 [.slice (Gp uw) ux uy, .slice (Gp u10) u11 u12] 2 0) :: (uw, .row 3 uz (uy * (kInt .i64).size) 0) :: (u10, .row 49 u13 (u12 * (kInt .i64).size) 0) :: Lr)

theorem W.z7 (x0v : T50) (r : Unit) (h : M.sim_Runner_is x0v = some r) {nz wz S0 w0 Lr} (gx0 uh ui uj uk ul um un uo up uq ur ut uu uv uw ux uy uz u10 u11 u12 u13) (p0 : Hp nz wz S0 w0 ((some gx0, .row 51 [.slice (Gp uh) ui uj, (pt ul 0), (pt uv 0)] 3 0) :: (uh, .row 46 uk (uj * kT45.size) 0) :: (some ul, .row 66 [.slice (Gp um) un uo, .slice (Gp uq) ur ut] 2 0) :: (um, .row 3 up (uo * (kInt .i64).size) 0) :: (uq, .row 49 uu (ut * (kInt .i64).size) 0) :: (some uv, .row 66 [.slice (Gp uw) ux uy, .slice (Gp u10) u11 u12] 2 0) :: (uw, .row 3 uz (uy * (kInt .i64).size) 0) :: (u10, .row 49 u13 (u12 * (kInt .i64).size) 0) :: Lr)) (u14 : Els kT45 S0 w0 uk x0v.l) (u15 : x0v.l.length = ui) (u16 : Els (kInt .i64) S0 w0 up x0v.now.place) (u17 : x0v.now.place.length = un) (u18 : Els (kInt .i64) S0 w0 uu x0v.now.list) (u19 : x0v.now.list.length = ur) (u1a : Els (kInt .i64) S0 w0 uz x0v.next.place) (u1b : x0v.next.place.length = ux) (u1c : Els (kInt .i64) S0 w0 u13 x0v.next.list) (u1d : x0v.next.list.length = u11) :
  Calls Tryz.prog 25 #[(pt gx0 0)] w0 (Rets (Post.z7 nz wz S0 w0 Lr gx0 uh ui uj uk ul um un uo up uq ur ut uu uv uw ux uy uz u10 u11 u12 u13 x0v r)) := by
 subst u15
 subst u17
 subst u19
 subst u1b
 subst u1d
 refine Zf Tryz.f25 B25 11 ?_
 refine Gj 12 [(0, (pt gx0 0))] fun junk => ?_
 delta M.sim_Runner_is at h
 refine Gn 12 [(2, .bool false), (3, (pt gx0 0)), (4, .bool true), (5, .bool true), (6, (pt gx0 0)), (7, (pt gx0 0)), (8, (pt gx0 1))] J1u ?_
 refine Goes.ld 47 (.tmp 8) 9 47 ⟨gx0, 1, none⟩ ((pt ul 0)) (p0.c 0 1) ?_
 refine Gn 4 [(10, .bool true), (11, .bool true), (2, .bool true)] J1t ?_
 obtain rfl := Option.some.inj h
 exact Goes.rt Tryz.f25 (.bool true) ⟨S0, rfl, (Ext.refl S0 w0), p0⟩

def Q1b := sub [] B29
def J1v := Zr Q1b [4, 5, 6, 7, 8] []
def J1w := Zr Q1b [8] []

def Post.z8 (gx0 : Nat) (r : T65) (v : Value) (w' : World) : Prop :=
 ∃ S' u1e u1f u1g u1h u1i u1j u1k u1l, v = .tuple #[] ∧ Ext S0 w0 S' w' ∧ Hp nz wz S' w' ((some gx0, .row 66 [.slice (Gp u1e) u1f u1g, .slice (Gp u1i) u1j u1k] 2 0) :: (u1e, .row 3 u1h (u1g * (kInt .i64).size) 0) :: (u1i, .row 49 u1l (u1k * (kInt .i64).size) 0) :: Lr) ∧ Els (kInt .i64) S' w' u1h r.place ∧ r.place.length = u1f ∧ Els (kInt .i64) S' w' u1l r.list ∧ r.list.length = u1j

theorem W.z8 (x0v : T65) (r : T65) (h : M.sim_state_clear x0v = some r) {nz wz S0 w0 Lr} (gx0 uh ui uj uk u1m u1n u1o u1p) (p0 : Hp nz wz S0 w0 ((some gx0, .row 66 [.slice (Gp uh) ui uj, .slice (Gp u1m) u1n u1o] 2 0) :: (uh, .row 3 uk (uj * (kInt .i64).size) 0) :: (u1m, .row 49 u1p (u1o * (kInt .i64).size) 0) :: Lr)) (u14 : Els (kInt .i64) S0 w0 uk x0v.place) (u15 : x0v.place.length = ui) (u1q : Els (kInt .i64) S0 w0 u1p x0v.list) (u1r : x0v.list.length = u1n) :
  Calls Tryz.prog 29 #[(pt gx0 0)] w0 (Rets (Post.z8 nz wz S0 w0 Lr gx0 r)) := by
 subst u15
 subst u1r
 refine Zf Tryz.f29 B29 9 ?_
 refine Gj 10 [(0, (pt gx0 0))] fun junk => ?_
 delta M.sim_state_clear at h
 refine Gn 5 [(2, (pt gx0 0)), (3, (pt gx0 0)), (4, (pt gx0 0)), (5, (pt gx0 1))] J1v ?_
 refine Goes.ld 64 (.tmp 5) 6 64 ⟨gx0, 1, none⟩ (.slice (Gp u1m) x0v.list.length u1o) (p0.c 0 1) ?_
 refine Op_.slO (K := (kInt .i64)) 64 (.tmp 6) (.const (.int .i64 0)) 7 64 49 .i64 0 2 (sl x0v.list 0 0) rfl rfl p0 rfl rfl (by decide) u1q Goes.v (by kernel_rfl) (by kernel_rfl) (by kernel_rfl) (by kernel_rfl) (by decide : (0 : Int) ≤ 0) (Int.natCast_nonneg _) ?_
 intro cs4 p0 f5
 refine Gn 2 [(8, (pt gx0 0)), (9, (pt gx0 1))] J1w ?_
 refine So 64 (.tmp 9) (.tmp 7) 0 0 gx0 1 (.slice (Gp u1m) ((sl x0v.list 0 0).length) u1o) [.slice (Gp u1m) ((sl x0v.list 0 0).length) u1o] p0 rfl Goes.s ?_
 intro w2 z2 p2
 have p2 : Hp nz wz S0 w2 ((some gx0, .row 66 [.slice (Gp uh) x0v.place.length uj, .slice (Gp u1m) ((sl x0v.list 0 0).length) u1o] 2 0) :: (uh, .row 3 uk (uj * (kInt .i64).size) 0) :: (u1m, .row 49 cs4 (u1o * (kInt .i64).size) 0) :: Lr) := p2
 refine Gn 1 [] [] ?_
 obtain rfl := Option.some.inj h
 exact Goes.end_ (fn := Tryz.f29) (by kernel_rfl) (v := .tuple #[]) (by kernel_rfl) ⟨S0, uh, x0v.place.length, uj, uk, u1m, (sl x0v.list 0 0).length, u1o, cs4, rfl, ((Ext.refl S0 w0).trans z2), p2, (u14.ext z2), rfl, (f5.ext z2), rfl⟩

def J1x := Zs [1, 1] B73 []
def Q1d := sub [1, 0] B73
def J1y := Zr Q1d [3, 4, 5, 6, 7] J1x
def J1z := Zr Q1d [5, 6, 7] J1x
def J20 := Zs [1, 1, 1] B73 []
def Q1f := sub [1, 1, 0] B73
def J21 := Zr Q1f [4, 5, 6, 7, 8, 9, 10, 11, 12, 13, 14, 15, 16, 17, 18] J20
def J22 := Zr Q1f [8, 9, 10, 11, 12, 13, 14, 15, 16, 17, 18] J20
def J23 := Zr Q1f [11, 12, 13, 14, 15, 16, 17, 18] J20
def J24 := Zr Q1f [13, 14, 15, 16, 17, 18] J20

def Post.z9 (gx0 : Nat) (uh : Option Nat) (ui : Nat) (uj : Nat) (uk : List Value) (u1m : Option Nat) (u1n : Nat) (u1o : Nat) (u1p : List Value) (x0v : T65) (r : Bool) (v : Value) (w' : World) : Prop :=
 ∃ S', v = .bool r ∧ Ext S0 w0 S' w' ∧ Hp nz wz S' w' ((some gx0, .row 66 [.slice (Gp uh) ui uj, .slice (Gp u1m) u1n u1o] 2 0) :: (uh, .row 3 uk (uj * (kInt .i64).size) 0) :: (u1m, .row 49 u1p (u1o * (kInt .i64).size) 0) :: Lr)

theorem W.z9 (x0v : T65) (x1 : Int) (r : Bool) (h : M.sim_state_has x0v x1 = some r) {nz wz S0 w0 Lr} (gx0 uh ui uj uk u1m u1n u1o u1p) (p0 : Hp nz wz S0 w0 ((some gx0, .row 66 [.slice (Gp uh) ui uj, .slice (Gp u1m) u1n u1o] 2 0) :: (uh, .row 3 uk (uj * (kInt .i64).size) 0) :: (u1m, .row 49 u1p (u1o * (kInt .i64).size) 0) :: Lr)) (u14 : Els (kInt .i64) S0 w0 uk x0v.place) (u15 : x0v.place.length = ui) (u1q : Els (kInt .i64) S0 w0 u1p x0v.list) (u1r : x0v.list.length = u1n) :
  Calls Tryz.prog 73 #[(pt gx0 0), .i x1] w0 (Rets (Post.z9 nz wz S0 w0 Lr gx0 uh ui uj uk u1m u1n u1o u1p x0v r)) := by
 subst u15
 subst u1r
 refine Zf Tryz.f73 B73 29 ?_
 refine Gj 31 [(0, (pt gx0 0)), (1, .i x1)] fun junk => ?_
 delta M.sim_state_has at h
 refine Gn 9 [(4, .bool false), (6, (pt gx0 0)), (7, (pt gx0 0)), (8, (pt gx0 0))] J1y ?_
 refine Goes.ld 33 (.tmp 8) 9 33 ⟨gx0, 0, none⟩ (.slice (Gp uh) x0v.place.length uj) (p0.c 0 0) ?_
 refine Gn 1 [(10, .i x1)] J1z ?_
 refine guard_some' h fun g4 h => ?_
 refine guard_some' h fun g5 h => ?_
 refine Op_.ixO_n 33 (.tmp 9) (.tmp 10) 11 0 3 .i64 x1 1 x0v.place.length uj (gi x0v.place x1) rfl rfl p0 rfl u14 Goes.v (by kernel_rfl) (by kernel_rfl) (by kernel_rfl) (by kernel_rfl) (by decide) g4 g5 ?_
 rintro b6 _ rfl q8 f7
 obtain rfl := q8
 refine Goes.ld 3 (.tmp 11) 12 3 ⟨b6, (x1 : Int).toNat * (kInt .i64).size, none⟩ (.i (gi x0v.place x1)) (f7 0 _ rfl) ?_
 refine Gn 8 [(5, .i (gi x0v.place x1)), (13, .i (gi x0v.place x1)), (14, (pt gx0 0)), (15, (pt gx0 0)), (16, (pt gx0 1))] J21 ?_
 refine Goes.ld 64 (.tmp 16) 17 64 ⟨gx0, 1, none⟩ (.slice (Gp u1m) x0v.list.length u1o) (p0.c 0 1) ?_
 refine Gn 3 [(18, .i (x0v.list.length : Int)), (19, .bool (decide (gi x0v.place x1 < (x0v.list.length : Int)))), (20, .bool (decide (gi x0v.place x1 < (x0v.list.length : Int))))] J22 ?_
 refine ite_some h (fun h10 h => ?_) (fun h10 h => ?_)
 ·
  rw [decide_eq_true h10]
  refine Gn 3 [(21, (pt gx0 0)), (22, (pt gx0 0)), (23, (pt gx0 1))] J23 ?_
  refine Goes.ld 64 (.tmp 23) 24 64 ⟨gx0, 1, none⟩ (.slice (Gp u1m) x0v.list.length u1o) (p0.c 0 1) ?_
  refine Gn 1 [(25, .i (gi x0v.place x1))] J24 ?_
  refine guard_some' h fun g11 h => ?_
  refine Op_.ixO_n 64 (.tmp 24) (.tmp 25) 26 0 49 .i64 (gi x0v.place x1) 2 x0v.list.length u1o (gi x0v.list (gi x0v.place x1)) rfl rfl p0 rfl u1q Goes.v (by kernel_rfl) (by kernel_rfl) (by kernel_rfl) (by kernel_rfl) (by decide) g11 h10 ?_
  rintro b12 _ rfl q14 f13
  obtain rfl := q14
  refine Goes.ld 49 (.tmp 26) 27 49 ⟨b12, (gi x0v.place x1 : Int).toNat * (kInt .i64).size, none⟩ (.i (gi x0v.list (gi x0v.place x1))) (f13 0 _ rfl) ?_
  refine Gn 5 [(28, .i x1), (29, .bool (decide (gi x0v.list (gi x0v.place x1) = x1))), (30, .bool (decide (gi x0v.list (gi x0v.place x1) = x1))), (4, .bool (decide (gi x0v.list (gi x0v.place x1) = x1)))] J20 ?_
  obtain rfl := Option.some.inj h
  exact Goes.rt Tryz.f73 (.bool (decide (gi x0v.list (gi x0v.place x1) = x1))) ⟨S0, rfl, (Ext.refl S0 w0), p0⟩
 ·
  rw [decide_eq_false h10]
  refine Gn 12 [(21, undef), (22, undef), (23, undef), (24, undef), (25, undef), (26, undef), (27, undef), (28, undef), (29, undef), (30, .bool false), (4, .bool false)] J20 ?_
  obtain rfl := Option.some.inj h
  exact Goes.rt Tryz.f73 (.bool false) ⟨S0, rfl, (Ext.refl S0 w0), p0⟩

def J25 := Zs [1, 1] B47 []
def J26 := Zs [1, 0, 1] B47 J25
def J27 := Zt [1, 0, 0] B47 [2] J26
def J28 := Zs [1, 0, 1, 0, 1] B47 J25
def J29 := Zs [1, 1, 1] B47 []
def J2a := Zs [1, 1, 0] B47 J29
def J2b := Zs [1, 1, 1, 1] B47 []
def Q1n := sub [1, 1, 1, 0] B47
def J2c := Zr Q1n [4, 5, 6, 7, 8, 9, 10] J2b
def J2d := Zr Q1n [6, 7, 8, 9, 10] J2b
def J2e := Zr Q1n [10] J2b
def J2f := Zs [1, 1, 1, 1, 1] B47 []

def Post.za (gx0 : Nat) (r : Bool × T65) (v : Value) (w' : World) : Prop :=
 ∃ S' u1e u1f u1g u1h u1i u1j u1k u1l, v = .bool r.1 ∧ Ext S0 w0 S' w' ∧ Hp nz wz S' w' ((some gx0, .row 66 [.slice (Gp u1e) u1f u1g, .slice (Gp u1i) u1j u1k] 2 0) :: (u1e, .row 3 u1h (u1g * (kInt .i64).size) 0) :: (u1i, .row 49 u1l (u1k * (kInt .i64).size) 0) :: Lr) ∧ Els (kInt .i64) S' w' u1h r.2.place ∧ r.2.place.length = u1f ∧ Els (kInt .i64) S' w' u1l r.2.list ∧ r.2.list.length = u1j

theorem W.za (x0v : T65) (x1 : Int) (r : Bool × T65) (h : M.sim_state_add x0v x1 = some r) {nz wz S0 w0 Lr} (gx0 uh ui uj uk u1m u1n u1o u1p) (p0 : Hp nz wz S0 w0 ((some gx0, .row 66 [.slice (Gp uh) ui uj, .slice (Gp u1m) u1n u1o] 2 0) :: (uh, .row 3 uk (uj * (kInt .i64).size) 0) :: (u1m, .row 49 u1p (u1o * (kInt .i64).size) 0) :: Lr)) (u14 : Els (kInt .i64) S0 w0 uk x0v.place) (u15 : x0v.place.length = ui) (u1q : Els (kInt .i64) S0 w0 u1p x0v.list) (u1r : x0v.list.length = u1n) :
  Calls Tryz.prog 47 #[(pt gx0 0), .i x1] w0 (Rets (Post.za nz wz S0 w0 Lr gx0 r)) := by
 subst u15
 subst u1r
 refine Zf Tryz.f47 B47 27 ?_
 refine Gj 29 [(0, (pt gx0 0)), (1, .i x1)] fun junk => ?_
 delta M.sim_state_add at h
 refine Gn 9 [(4, .bool false), (5, (pt gx0 0)), (6, .i x1)] J27 ?_
 refine bind_some' h fun y4 e5 h => ?_
 refine Gc (kc 73 [5, 6] #[47, 49]) 7 4 73 _ (W.z9 x0v x1 y4 e5 gx0 uh x0v.place.length uj uk u1m x0v.list.length u1o u1p p0 u14 rfl u1q rfl) ?_
 rintro _ w2 ⟨S2, rfl, z2, p2⟩
 refine Gn 1 [] J26 ?_
 refine ite_some h (fun h6 h => ?_) (fun h6 h => ?_)
 ·
  rw [h6]
  refine Gn 5 [(4, .bool false)] J28 ?_
  obtain rfl := Option.some.inj h
  exact Goes.rt Tryz.f47 (.bool false) ⟨S2, uh, x0v.place.length, uj, uk, u1m, x0v.list.length, u1o, u1p, rfl, ((Ext.refl S0 w0).trans z2), p2, (u14.ext z2), rfl, (u1q.ext z2), rfl⟩
 ·
  have h6' : y4 = false := by simpa using h6
  rw [h6']
  refine Gn 3 [] J2a ?_
  have z3 : Ext S2 w2 S2 (w2).drew := Ext.draw
  have p3 := p2.draw
  refine Goes.drawn (s := [11]) (F := Fc S2 (w2).drew [(⟨gx0, 0, none⟩, .slice (Gp uh) x0v.place.length uj), (⟨gx0, 1, none⟩, .slice (Gp u1m) x0v.list.length u1o)]) 3 12 (by kernel_rfl) (by kernel_rfl) (by kernel_rfl) (by kernel_rfl) ?_
  generalize (w2).drew = w3 at z3 p3 ⊢
  refine AnyG.pu 0 (.move (.tmp 0)) 8 47 ((pt gx0 0)) (Fc.here (p3.cs [(0, 0, 2)])) ?_
  refine AnyG.pu 1 (.nilCheck (.tmp 8)) 9 0 ((pt gx0 0)) (Fc.here (p3.cs [(0, 0, 2)])) ?_
  refine AnyG.pu 2 (.fieldAddr 66 (.tmp 9) 0) 10 0 ((pt gx0 0)) (Fc.here (p3.cs [(0, 0, 2)])) ?_
  refine AnyG.ld1 (i := 3) 33 (.tmp 10) 11 33 ⟨gx0, 0, none⟩ (.slice (Gp uh) x0v.place.length uj) (by kernel_rfl) (by kernel_rfl) (Fc.here (p3.cs [(0, 0, 2)])) (by kernel_rfl) (by kernel_rfl) (fun _ h => h.2.at_ 0 rfl) ?_
  refine AnyG.pu 4 (.move (.tmp 1)) 12 49 (.i x1) (Fc.here (p3.cs [(0, 0, 2)])) ?_
  refine AnyG.pu 5 (.move (.tmp 0)) 13 47 ((pt gx0 0)) (Fc.here (p3.cs [(0, 0, 2)])) ?_
  refine AnyG.pu 6 (.nilCheck (.tmp 13)) 14 0 ((pt gx0 0)) (Fc.here (p3.cs [(0, 0, 2)])) ?_
  refine AnyG.pu 7 (.fieldAddr 66 (.tmp 14) 1) 15 0 ((pt gx0 1)) (Fc.here (p3.cs [(0, 0, 2)])) ?_
  refine AnyG.ld1 (i := 8) 64 (.tmp 15) 16 64 ⟨gx0, 1, none⟩ (.slice (Gp u1m) x0v.list.length u1o) (by kernel_rfl) (by kernel_rfl) (Fc.here (p3.cs [(0, 0, 2)])) (by kernel_rfl) (by kernel_rfl) (fun _ h => h.2.at_ 1 rfl) ?_
  refine AnyG.pu 9 (.call { callee := .builtin .len, args := #[(.tmp 16)], argTypes := #[64] }) 17 3 (.i (x0v.list.length : Int)) (Fc.here (p3.cs [(0, 0, 2)])) ?_
  refine guard_some' h fun g7 h => ?_
  refine guard_some' h fun g8 h => ?_
  refine AnyG.ixO_n (i := 10) 33 (.tmp 11) (.tmp 12) 18 0 3 .i64 x1 1 x0v.place.length uj (gi x0v.place x1) rfl rfl p3 rfl (u14.ext (z2.trans z3)) (by kernel_rfl) (by kernel_rfl) (Fc.here (p3.cs [(0, 0, 2)])) (by kernel_rfl) (by kernel_rfl) (by kernel_rfl) (by kernel_rfl) (by decide) g7 g8 ?_
  rintro b9 _ rfl q11 f13 f10
  obtain rfl := q11
  refine Op_.stE_n (K := (kInt .i64)) 3 (.tmp 18) (.tmp 17) 0 1 x1 (.i (x0v.list.length : Int)) [.i (x0v.list.length : Int)] (x0v.list.length : Int) (si x0v.place x1 (x0v.list.length : Int)) x0v.place.length rfl rfl p3 rfl (u14.ext (z2.trans z3)) (AnyG.ss (i := 11) (by kernel_rfl) (by kernel_rfl)) (by kernel_rfl) (by kernel_rfl) (by kernel_rfl) rfl (by kernel_rfl) g7 g8 (Nat.zero_le _) ?_
  intro w4 u1s z4 p4 f15 l16
  refine AnyG.last [] (Fc S2 w4 []) (by decide) ?_
  refine AnyG.done (by kernel_rfl) ?_ _
  refine Gn 6 [(19, (pt gx0 0)), (20, (pt gx0 0)), (21, (pt gx0 0)), (22, (pt gx0 1))] J2c ?_
  refine Goes.ld 64 (.tmp 22) 23 64 ⟨gx0, 1, none⟩ (.slice (Gp u1m) x0v.list.length u1o) (p4.c 0 1) ?_
  refine Gn 1 [(24, .i x1)] J2d ?_
  have f18 : Els (kInt .i64) S2 w4 ([.i x1] : List Value) [x1] := by exact (Els.cons (K := (kInt .i64)) (vs := [.i x1]) (x := x1) rfl Els.nil)
  refine Op_.made (.buildSlice 64 1 #[(0, (.tmp 24))]) 25 64 (fun b => .slice (Gp (some b)) 1 1) 49 ([.i x1] : List Value) p4 Goes.v (by kernel_rfl) ?_
  intro b17 w5 z5 p5
  have p5 : Hp nz wz S2 w5 (((some b17), .row 49 ([.i x1] : List Value) (1 * (kInt .i64).size) 0) :: (some gx0, .row 66 [.slice (Gp (some b9)) x0v.place.length uj, .slice (Gp u1m) x0v.list.length u1o] 2 0) :: ((some b9), .row 3 u1s (uj * (kInt .i64).size) 0) :: (u1m, .row 49 u1p (u1o * (kInt .i64).size) 0) :: Lr) := p5
  refine guard_some' h fun g23 h => ?_
  refine Op_.ap_n (K := (kInt .i64)) 64 (.tmp 23) (.tmp 25) 26 64 49 3 (.i 0) 8 x0v.list.length u1o 1 x0v.list [x1] (x0v.list ++ [x1]) (Gp (some b17)) 1 rfl rfl rfl p5 rfl (u1q.ext (((z2.trans z3).trans z4).trans z5)) Goes.v (by kernel_rfl) (by kernel_rfl) (by kernel_rfl) (by kernel_rfl) rfl (by decide) (f18.ext z5) (src_own p5 (q := 0) rfl) (by have := g23; omega) (by have := g23; omega) ?_
  intro w6 G24 c25 u1t z6 p6 f27
  refine Gn 2 [(27, (pt gx0 0)), (28, (pt gx0 1))] J2e ?_
  refine So 64 (.tmp 28) (.tmp 26) 0 1 gx0 1 (.slice (Gp G24) ((x0v.list ++ [x1]).length) c25) [.slice (Gp G24) ((x0v.list ++ [x1]).length) c25] p6 rfl Goes.s ?_
  intro w7 z7 p7
  have p7 : Hp nz wz S2 w7 (((some b17), .row 49 ([.i x1] : List Value) (1 * (kInt .i64).size) 0) :: (some gx0, .row 66 [.slice (Gp (some b9)) x0v.place.length uj, .slice (Gp G24) ((x0v.list ++ [x1]).length) c25] 2 0) :: ((some b9), .row 3 u1s (uj * (kInt .i64).size) 0) :: (G24, .row 49 u1t (c25 * (kInt .i64).size) 0) :: Lr) := p7
  refine Gn 5 [(4, .bool true)] J2f ?_
  obtain rfl := Option.some.inj h
  have p7 := p7.dp 0
  exact Goes.rt Tryz.f47 (.bool true) ⟨S2, (some b9), x0v.place.length, uj, u1s, G24, (x0v.list ++ [x1]).length, c25, u1t, rfl, (((((((Ext.refl S0 w0).trans z2).trans z3).trans z4).trans z5).trans z6).trans z7), p7, (f15.ext ((z5.trans z6).trans z7)), l16, (f27.ext z7), rfl⟩

def J2g := Zb 0 []
def Q1p := sub [1, 0, 0] B30
def J2h := Zl Q1p J2g
def J2i := Zc Q1p J2h
def J2j := Zs [1, 0, 0, 1] B30 J2h
def J2k := Zs [1, 0, 0, 0, 1] B30 J2j
def J2l := Zb 1 J2h
def J2m := Zs [1, 0, 0, 1, 0, 1] B30 J2l
def J2n := Zt [1, 0, 0, 1, 0, 0] B30 [4, 5, 6] J2m
def J2o := Zs [1, 0, 0, 1, 0, 1, 1] B30 J2l
def J2p := Zt [1, 0, 0, 1, 0, 1, 0] B30 [4, 5] J2o
def J2q := Zs [1, 0, 0, 1, 0, 1, 1, 1] B30 J2l
def J2r := Zs [1, 0, 0, 1, 0, 1, 1, 0, 1] B30 J2q
def J2s := Zt [1, 0, 0, 1, 0, 1, 1, 0, 0] B30 [2, 3] J2r
def J2t := Zs [1, 0, 0, 1, 0, 1, 1, 1, 1] B30 J2l
def Q20 := sub [1, 0, 0, 1, 0, 1, 1, 1, 0] B30
def J2u := Zr Q20 [3, 4, 5, 6, 7, 8] J2t
def J2v := Zr Q20 [5, 6, 7, 8] J2t
def J2w := Zs [1, 0, 0, 1, 0, 1, 1, 1, 1, 1] B30 J2l
def J2x := Zt [1, 0, 0, 1, 0, 1, 1, 1, 1, 0] B30 [1] J2w
def J2y := Zb 2 J2l
def J2z := Zs [1, 0, 0, 1, 0, 1, 1, 1, 1, 1, 0, 1] B30 J2y
def J30 := Zb 4 J2z
def Q24 := sub [1, 0, 0, 1, 0, 1, 1, 1, 1, 1, 0, 0, 0, 1] B30
def J31 := Zc Q24 J30
def J32 := Zb 3 J31
def J33 := Zs [1, 0, 0, 1, 0, 1, 1, 1, 1, 1, 0, 0, 0, 0, 0, 1] B30 J32
def J34 := Zs [1, 0, 0, 1, 0, 1, 1, 1, 1, 1, 0, 0, 0, 0, 0, 0, 1] B30 J33
def J35 := Zs [1, 0, 0, 1, 0, 1, 1, 1, 1, 1, 0, 0, 0, 0, 0, 0, 0, 1] B30 J34
def J36 := Zr Q24 [2, 3, 4, 5] J30
def J37 := Zs [1, 0, 0, 1, 0, 1, 1, 1, 1, 1, 0, 1, 1] B30 J2y
def J38 := Zt [1, 0, 0, 1, 0, 1, 1, 1, 1, 1, 0, 1, 0] B30 [2, 3, 4, 5] J37
def J39 := Zs [1, 0, 0, 1, 0, 1, 1, 1, 1, 1, 0, 0, 0, 0, 0, 0, 1, 1] B30 J33

def Post.zb (gx0 : Nat) (uh : Option Nat) (ui : Nat) (uj : Nat) (uk : List Value) (ul : Nat) (uv : Nat) (uw : Option Nat) (ux : Nat) (uy : Nat) (uz : List Value) (u10 : Option Nat) (u11 : Nat) (u12 : Nat) (u13 : List Value) (x0v : T50) (r : T65) (v : Value) (w' : World) : Prop :=
 ∃ S' u1u u1v u1w u1x u1y u1z u20 u21, v = .tuple #[] ∧ Ext S0 w0 S' w' ∧ Hp nz wz S' w' ((some gx0, .row 51 [.slice (Gp uh) ui uj, (pt ul 0), (pt uv 0)] 3 0) :: (uh, .row 46 uk (uj * kT45.size) 0) :: (some ul, .row 66 [.slice (Gp u1u) u1v u1w, .slice (Gp u1y) u1z u20] 2 0) :: (u1u, .row 3 u1x (u1w * (kInt .i64).size) 0) :: (u1y, .row 49 u21 (u20 * (kInt .i64).size) 0) :: (some uv, .row 66 [.slice (Gp uw) ux uy, .slice (Gp u10) u11 u12] 2 0) :: (uw, .row 3 uz (uy * (kInt .i64).size) 0) :: (u10, .row 49 u13 (u12 * (kInt .i64).size) 0) :: Lr) ∧ Els (kInt .i64) S' w' u1x r.place ∧ r.place.length = u1v ∧ Els (kInt .i64) S' w' u21 r.list ∧ r.list.length = u1z

def L.zc (gx0 : Nat) (uh : Option Nat) (ui : Nat) (uj : Nat) (uk : List Value) (ul : Nat) (uv : Nat) (uw : Option Nat) (ux : Nat) (uy : Nat) (uz : List Value) (u10 : Option Nat) (u11 : Nat) (u12 : Nat) (u13 : List Value) : (List Int) × T65 × T50 → T65 → Prop := fun ⟨x6, e1v, x0v⟩ r => ∀ S1 w1, Ext S0 w0 S1 w1 → ∀ Gx6 nx6 cx6 u22 u1u u1v u1w u1x u1y u1z u20 u21 (_ : Hp nz wz S1 w1 ((Gx6, .row 49 u22 (cx6 * (kInt .i64).size) 0) :: (some gx0, .row 51 [.slice (Gp uh) ui uj, (pt ul 0), (pt uv 0)] 3 0) :: (uh, .row 46 uk (uj * kT45.size) 0) :: (some ul, .row 66 [.slice (Gp u1u) u1v u1w, .slice (Gp u1y) u1z u20] 2 0) :: (u1u, .row 3 u1x (u1w * (kInt .i64).size) 0) :: (u1y, .row 49 u21 (u20 * (kInt .i64).size) 0) :: (some uv, .row 66 [.slice (Gp uw) ux uy, .slice (Gp u10) u11 u12] 2 0) :: (uw, .row 3 uz (uy * (kInt .i64).size) 0) :: (u10, .row 49 u13 (u12 * (kInt .i64).size) 0) :: Lr)) (_ : Els (kInt .i64) S1 w1 u22 x6) (_ : x6.length = nx6) (_ : Els kT45 S1 w1 uk x0v.l) (_ : x0v.l.length = ui) (_ : Els (kInt .i64) S1 w1 u1x e1v.place) (_ : e1v.place.length = u1v) (_ : Els (kInt .i64) S1 w1 u21 e1v.list) (_ : e1v.list.length = u1z) (_ : Els (kInt .i64) S1 w1 uz x0v.next.place) (_ : x0v.next.place.length = ux) (_ : Els (kInt .i64) S1 w1 u13 x0v.next.list) (_ : x0v.next.list.length = u11) (junk : Nat → Value),
 Goes Tryz.prog (base 30) J2i ⟨lfr 52 [(0, (pt gx0 0)), (1, (pt ul 0)), (6, .slice (Gp Gx6) nx6 cx6)] junk, []⟩ w1 (Done Tryz.prog 30 (Rets (Post.zb nz wz S0 w0 Lr gx0 uh ui uj uk ul uv uw ux uy uz u10 u11 u12 u13 x0v r)))

theorem W.zc {nz wz S0 w0 Lr} (gx0 : Nat) (uh : Option Nat) (ui : Nat) (uj : Nat) (uk : List Value) (ul : Nat) (uv : Nat) (uw : Option Nat) (ux : Nat) (uy : Nat) (uz : List Value) (u10 : Option Nat) (u11 : Nat) (u12 : Nat) (u13 : List Value) : ∀ a r, M.sim_Runner_stand_l0 a = some r → (L.zc nz wz S0 w0 Lr gx0 uh ui uj uk ul uv uw ux uy uz u10 u11 u12 u13) a r := by
 refine M.sim_Runner_stand_l0.partial_correctness (motive := (L.zc nz wz S0 w0 Lr gx0 uh ui uj uk ul uv uw ux uy uz u10 u11 u12 u13)) ?_
 intro u23 u24 ⟨x6, e1v, x0v⟩ r h S1 w1 hx Gx6 nx6 cx6 u22 u1u u1v u1w u1x u1y u1z u20 u21 p1 fx6 lx6 fs2 ls2 u25 u26 u27 u28 fs8 ls8 u29 u2a junk
 try dsimp only at h
 subst lx6
 subst ls2
 subst u26
 subst u28
 subst ls8
 subst u2a
 refine Gn 7 [(11, .slice (Gp Gx6) x6.length cx6), (12, .i (x6.length : Int)), (13, .bool (decide ((x6.length : Int) > 0)))] J2k ?_
 refine ite_some h (fun h15 h => ?_) (fun h15 h => ?_)
 ·
  rw [decide_eq_true h15]
  refine Gn 9 [(14, .slice (Gp Gx6) x6.length cx6), (15, .slice (Gp Gx6) x6.length cx6), (16, .i (x6.length : Int)), (17, .i (wr .i64 ((x6.length : Int) - 1)))] J2n ?_
  refine guard_some' h fun g16 h => ?_
  refine guard_some' h fun g17 h => ?_
  refine Op_.ixO_n 64 (.tmp 14) (.tmp 17) 18 0 49 .i64 (wr .i64 ((x6.length : Int) - 1)) 0 x6.length cx6 (gi x6 (wr .i64 ((x6.length : Int) - 1))) rfl rfl p1 rfl fx6 Goes.v (by kernel_rfl) (by kernel_rfl) (by kernel_rfl) (by kernel_rfl) (by decide) g16 g17 ?_
  rintro b18 _ rfl q20 f19
  obtain rfl := q20
  refine Goes.ld 49 (.tmp 18) 19 49 ⟨b18, (wr .i64 ((x6.length : Int) - 1) : Int).toNat * (kInt .i64).size, none⟩ (.i (gi x6 (wr .i64 ((x6.length : Int) - 1)))) (f19 0 _ rfl) ?_
  refine Gn 8 [(7, .i (gi x6 (wr .i64 ((x6.length : Int) - 1)))), (20, .slice (Gp (some b18)) x6.length cx6), (21, .slice (Gp (some b18)) x6.length cx6), (22, .i (x6.length : Int)), (23, .i (wr .i64 ((x6.length : Int) - 1)))] J2p ?_
  refine guard_some' h fun g22 h => ?_
  refine Op_.slO (K := (kInt .i64)) 64 (.tmp 20) (.tmp 23) 24 64 49 .i64 (wr .i64 ((x6.length : Int) - 1)) 0 (sl x6 0 (wr .i64 ((x6.length : Int) - 1))) rfl rfl p1 rfl rfl (by decide) fx6 Goes.v (by kernel_rfl) (by kernel_rfl) (by kernel_rfl) (by kernel_rfl) g16 g22 ?_
  intro u2b p1 f24
  refine Gn 7 [(6, .slice (Gp (some b18)) ((sl x6 0 (wr .i64 ((x6.length : Int) - 1))).length) cx6), (25, (pt ul 0)), (26, .i (gi x6 (wr .i64 ((x6.length : Int) - 1))))] J2s ?_
  have p1 := ((p1.fr 5).fr 5).fr 5
  refine bind_some' h fun y25 e26 h => ?_
  refine Gc (kc 47 [25, 26] #[47, 49]) 27 4 47 _ (W.za e1v (gi x6 (wr .i64 ((x6.length : Int) - 1))) y25 e26 ul u1u e1v.place.length u1w u1x u1y e1v.list.length u20 u21 p1 u25 rfl u27 rfl) ?_
  rintro _ w3 ⟨S3, u2c, u2d, u2e, u2f, u2g, u2h, u2i, u2j, rfl, z3, p3, u2k, rfl, u2l, rfl⟩
  refine Gn 2 [(28, .bool (!y25.1))] J2r ?_
  refine ite_some h (fun h29 h => ?_) (fun h29 h => ?_)
  ·
   rw [h29]
   refine Gn 7 [(29, (pt gx0 0)), (30, (pt gx0 0)), (31, (pt gx0 0))] J2u ?_
   refine Goes.ld 22 (.tmp 31) 32 22 ⟨gx0, 0, none⟩ (.slice (Gp uh) x0v.l.length uj) (p3.c 4 0) ?_
   refine Gn 1 [(33, .i (gi x6 (wr .i64 ((x6.length : Int) - 1))))] J2v ?_
   refine guard_some' h fun g30 h => ?_
   refine guard_some' h fun g31 h => ?_
   refine let_some h fun v35 e36 h => ?_
   refine Op_.ixO_n 22 (.tmp 32) (.tmp 33) 34 0 46 .i64 (gi x6 (wr .i64 ((x6.length : Int) - 1))) 5 x0v.l.length uj v35 rfl e36 p3 rfl (fs2.ext z3) Goes.v (by kernel_rfl) (by kernel_rfl) (by kernel_rfl) (by kernel_rfl) (by decide) g30 g31 ?_
   rintro b32 _ rfl q34 f33
   obtain ⟨_, _, rfl, rfl, ⟨_, _, rfl, ⟨l37, f38⟩, ⟨_, _, rfl, rfl, rfl⟩⟩⟩ := q34
   obtain rfl := els_lit4' f38 l37
   refine Goes.ldN 46 (.tmp 34) 35 46 ⟨b32, (gi x6 (wr .i64 ((x6.length : Int) - 1)) : Int).toNat * kT45.size, none⟩ ([.i v35.Op] ++ ((U4 v35.Set []) ++ ([.i v35.X] ++ [.i v35.Y]))) f33 ?_
   refine Op_.alloc 46 8 0 (.agg #[.i 0, .u 0, .u 0, .u 0, .u 0, .i 0, .i 0]) [.i 0, .u 0, .u 0, .u 0, .u 0, .i 0, .i 0] p3 Goes.v (by kernel_rfl) (by kernel_rfl) ?_
   intro b40 w4 z4 p4
   refine So 46 (.tmp 8) (.tmp 35) 0 0 b40 0 (ag (.i v35.Op :: U4 v35.Set [.i v35.X, .i v35.Y])) (.i v35.Op :: U4 v35.Set [.i v35.X, .i v35.Y]) p4 rfl Goes.s ?_
   intro w5 z5 p5
   have p5 : Hp nz wz S3 w5 ((some b40, .row 46 (.i v35.Op :: U4 v35.Set [.i v35.X, .i v35.Y]) 7 0) :: (some ul, .row 66 [.slice (Gp u2c) y25.2.place.length u2e, .slice (Gp u2g) y25.2.list.length u2i] 2 0) :: (u2c, .row 3 u2f (u2e * (kInt .i64).size) 0) :: (u2g, .row 49 u2j (u2i * (kInt .i64).size) 0) :: ((some b18), .row 49 u2b (cx6 * (kInt .i64).size) 0) :: (some gx0, .row 51 [.slice (Gp (some b32)) x0v.l.length uj, (pt ul 0), (pt uv 0)] 3 0) :: ((some b32), .row 46 uk (uj * kT45.size) 0) :: (some uv, .row 66 [.slice (Gp uw) x0v.next.place.length uy, .slice (Gp u10) x0v.next.list.length u12] 2 0) :: (uw, .row 3 uz (uy * (kInt .i64).size) 0) :: (u10, .row 49 u13 (u12 * (kInt .i64).size) 0) :: Lr) := p5
   refine Gn 4 [(36, (pt b40 0))] J2x ?_
   refine Goes.ld 3 (.tmp 36) 37 3 ⟨b40, 0, none⟩ (.i v35.Op) (p5.c 0 0) ?_
   refine Gn 13 [(39, .bool (decide (v35.Op = 2))), (38, .bool (decide (v35.Op = 2)))] J35 ?_
   refine ite_some h (fun h42 h => ?_) (fun h42 h => ?_)
   ·
    rw [decide_eq_true h42]
    refine Gn 5 [(42, .slice (Gp (some b18)) ((sl x6 0 (wr .i64 ((x6.length : Int) - 1))).length) cx6), (43, (pt b40 6))] J36 ?_
    refine Goes.ld 3 (.tmp 43) 44 3 ⟨b40, 6, none⟩ (.i v35.Y) (p5.c 0 6) ?_
    have f44 : Els (kInt .i64) S3 w5 ([.i v35.Y] : List Value) [v35.Y] := by exact (Els.cons (K := (kInt .i64)) (vs := [.i v35.Y]) (x := v35.Y) rfl Els.nil)
    refine Op_.made (.buildSlice 64 1 #[(0, (.tmp 44))]) 45 64 (fun b => .slice (Gp (some b)) 1 1) 49 ([.i v35.Y] : List Value) p5 Goes.v (by kernel_rfl) ?_
    intro b43 w6 z6 p6
    have p6 : Hp nz wz S3 w6 (((some b43), .row 49 ([.i v35.Y] : List Value) (1 * (kInt .i64).size) 0) :: (some b40, .row 46 (.i v35.Op :: U4 v35.Set [.i v35.X, .i v35.Y]) 7 0) :: (some ul, .row 66 [.slice (Gp u2c) y25.2.place.length u2e, .slice (Gp u2g) y25.2.list.length u2i] 2 0) :: (u2c, .row 3 u2f (u2e * (kInt .i64).size) 0) :: (u2g, .row 49 u2j (u2i * (kInt .i64).size) 0) :: ((some b18), .row 49 u2b (cx6 * (kInt .i64).size) 0) :: (some gx0, .row 51 [.slice (Gp (some b32)) x0v.l.length uj, (pt ul 0), (pt uv 0)] 3 0) :: ((some b32), .row 46 uk (uj * kT45.size) 0) :: (some uv, .row 66 [.slice (Gp uw) x0v.next.place.length uy, .slice (Gp u10) x0v.next.list.length u12] 2 0) :: (uw, .row 3 uz (uy * (kInt .i64).size) 0) :: (u10, .row 49 u13 (u12 * (kInt .i64).size) 0) :: Lr) := p6
    refine let_some h fun v49 e50 h => ?_
    refine guard_some' h fun g51 h => ?_
    refine Op_.ap_n (K := (kInt .i64)) 64 (.tmp 42) (.tmp 45) 46 64 49 5 (.i 0) 8 ((sl x6 0 (wr .i64 ((x6.length : Int) - 1))).length) cx6 1 (sl x6 0 (wr .i64 ((x6.length : Int) - 1))) [v35.Y] v49 (Gp (some b43)) 1 rfl rfl e50 p6 rfl (f24.ext (((z3.trans z4).trans z5).trans z6)) Goes.v (by kernel_rfl) (by kernel_rfl) (by kernel_rfl) (by kernel_rfl) rfl (by decide) (f44.ext z6) (src_own p6 (q := 0) rfl) (by have := g51; omega) (by have := g51; omega) ?_
    intro w7 G52 c53 u2m z7 p7 f55
    refine Gn 7 [(6, .slice (Gp G52) v49.length c53), (47, .slice (Gp G52) v49.length c53), (48, (pt b40 5))] J38 ?_
    refine Goes.ld 3 (.tmp 48) 49 3 ⟨b40, 5, none⟩ (.i v35.X) (p7.c 1 5) ?_
    have f57 : Els (kInt .i64) S3 w7 ([.i v35.X] : List Value) [v35.X] := by exact (Els.cons (K := (kInt .i64)) (vs := [.i v35.X]) (x := v35.X) rfl Els.nil)
    refine Op_.made (.buildSlice 64 1 #[(0, (.tmp 49))]) 50 64 (fun b => .slice (Gp (some b)) 1 1) 49 ([.i v35.X] : List Value) p7 Goes.v (by kernel_rfl) ?_
    intro b56 w8 z8 p8
    have p8 : Hp nz wz S3 w8 (((some b56), .row 49 ([.i v35.X] : List Value) (1 * (kInt .i64).size) 0) :: ((some b43), .row 49 ([.i v35.Y] : List Value) (1 * (kInt .i64).size) 0) :: (some b40, .row 46 (.i v35.Op :: U4 v35.Set [.i v35.X, .i v35.Y]) 7 0) :: (some ul, .row 66 [.slice (Gp u2c) y25.2.place.length u2e, .slice (Gp u2g) y25.2.list.length u2i] 2 0) :: (u2c, .row 3 u2f (u2e * (kInt .i64).size) 0) :: (u2g, .row 49 u2j (u2i * (kInt .i64).size) 0) :: (G52, .row 49 u2m (c53 * (kInt .i64).size) 0) :: (some gx0, .row 51 [.slice (Gp (some b32)) x0v.l.length uj, (pt ul 0), (pt uv 0)] 3 0) :: ((some b32), .row 46 uk (uj * kT45.size) 0) :: (some uv, .row 66 [.slice (Gp uw) x0v.next.place.length uy, .slice (Gp u10) x0v.next.list.length u12] 2 0) :: (uw, .row 3 uz (uy * (kInt .i64).size) 0) :: (u10, .row 49 u13 (u12 * (kInt .i64).size) 0) :: Lr) := p8
    refine guard_some' h fun g62 h => ?_
    refine Op_.ap_n (K := (kInt .i64)) 64 (.tmp 47) (.tmp 50) 51 64 49 6 (.i 0) 8 v49.length c53 1 v49 [v35.X] (v49 ++ [v35.X]) (Gp (some b56)) 1 rfl rfl rfl p8 rfl (f55.ext z8) Goes.v (by kernel_rfl) (by kernel_rfl) (by kernel_rfl) (by kernel_rfl) rfl (by decide) (f57.ext z8) (src_own p8 (q := 0) rfl) (by have := g62; omega) (by have := g62; omega) ?_
    intro w9 G63 c64 u2n z9 p9 f66
    refine Gn 5 [(6, .slice (Gp G63) ((v49 ++ [v35.X]).length) c64)] J2i ?_
    have p9 := ((p9.dp 0).dp 0).dp 0
    have p9 := ((((((((p9.fr 8).fr 8).fr 8).fr 5).fr 5).fr 5).fr 8).fr 8).fr 8
    exact Gj 52 [(0, (pt gx0 0)), (1, (pt ul 0)), (6, .slice (Gp G63) ((v49 ++ [v35.X]).length) c64)] (u24 _ _ h _ _ (((((((hx.trans z3).trans z4).trans z5).trans z6).trans z7).trans z8).trans z9) G63 ((v49 ++ [v35.X]).length) c64 u2n u2c y25.2.place.length u2e u2f u2g y25.2.list.length u2i u2j p9 f66 rfl (fs2.ext ((((((z3.trans z4).trans z5).trans z6).trans z7).trans z8).trans z9)) rfl (u2k.ext (((((z4.trans z5).trans z6).trans z7).trans z8).trans z9)) rfl (u2l.ext (((((z4.trans z5).trans z6).trans z7).trans z8).trans z9)) rfl (fs8.ext ((((((z3.trans z4).trans z5).trans z6).trans z7).trans z8).trans z9)) rfl (u29.ext ((((((z3.trans z4).trans z5).trans z6).trans z7).trans z8).trans z9)) rfl)
   ·
    rw [decide_eq_false h42]
    refine Gn 7 [(41, .bool (decide (v35.Op = 4))), (40, .bool (decide (v35.Op = 4)))] J39 ?_
    refine ite_some h (fun h67 h => ?_) (fun h67 h => ?_)
    ·
     rw [decide_eq_true h67]
     refine Gn 6 [(47, .slice (Gp (some b18)) ((sl x6 0 (wr .i64 ((x6.length : Int) - 1))).length) cx6), (48, (pt b40 5))] J38 ?_
     refine Goes.ld 3 (.tmp 48) 49 3 ⟨b40, 5, none⟩ (.i v35.X) (p5.c 0 5) ?_
     have f69 : Els (kInt .i64) S3 w5 ([.i v35.X] : List Value) [v35.X] := by exact (Els.cons (K := (kInt .i64)) (vs := [.i v35.X]) (x := v35.X) rfl Els.nil)
     refine Op_.made (.buildSlice 64 1 #[(0, (.tmp 49))]) 50 64 (fun b => .slice (Gp (some b)) 1 1) 49 ([.i v35.X] : List Value) p5 Goes.v (by kernel_rfl) ?_
     intro b68 w10 z10 p10
     have p10 : Hp nz wz S3 w10 (((some b68), .row 49 ([.i v35.X] : List Value) (1 * (kInt .i64).size) 0) :: (some b40, .row 46 (.i v35.Op :: U4 v35.Set [.i v35.X, .i v35.Y]) 7 0) :: (some ul, .row 66 [.slice (Gp u2c) y25.2.place.length u2e, .slice (Gp u2g) y25.2.list.length u2i] 2 0) :: (u2c, .row 3 u2f (u2e * (kInt .i64).size) 0) :: (u2g, .row 49 u2j (u2i * (kInt .i64).size) 0) :: ((some b18), .row 49 u2b (cx6 * (kInt .i64).size) 0) :: (some gx0, .row 51 [.slice (Gp (some b32)) x0v.l.length uj, (pt ul 0), (pt uv 0)] 3 0) :: ((some b32), .row 46 uk (uj * kT45.size) 0) :: (some uv, .row 66 [.slice (Gp uw) x0v.next.place.length uy, .slice (Gp u10) x0v.next.list.length u12] 2 0) :: (uw, .row 3 uz (uy * (kInt .i64).size) 0) :: (u10, .row 49 u13 (u12 * (kInt .i64).size) 0) :: Lr) := p10
     refine let_some h fun v74 e75 h => ?_
     refine guard_some' h fun g76 h => ?_
     refine Op_.ap_n (K := (kInt .i64)) 64 (.tmp 47) (.tmp 50) 51 64 49 5 (.i 0) 8 ((sl x6 0 (wr .i64 ((x6.length : Int) - 1))).length) cx6 1 (sl x6 0 (wr .i64 ((x6.length : Int) - 1))) [v35.X] v74 (Gp (some b68)) 1 rfl rfl e75 p10 rfl (f24.ext (((z3.trans z4).trans z5).trans z10)) Goes.v (by kernel_rfl) (by kernel_rfl) (by kernel_rfl) (by kernel_rfl) rfl (by decide) (f69.ext z10) (src_own p10 (q := 0) rfl) (by have := g76; omega) (by have := g76; omega) ?_
     intro w11 G77 c78 u2o z11 p11 f80
     refine Gn 5 [(6, .slice (Gp G77) v74.length c78)] J2i ?_
     have p11 := (p11.dp 0).dp 0
     have p11 := ((((((((p11.fr 8).fr 8).fr 8).fr 5).fr 5).fr 5).fr 8).fr 8).fr 8
     exact Gj 52 [(0, (pt gx0 0)), (1, (pt ul 0)), (6, .slice (Gp G77) v74.length c78)] (u24 _ _ h _ _ (((((hx.trans z3).trans z4).trans z5).trans z10).trans z11) G77 v74.length c78 u2o u2c y25.2.place.length u2e u2f u2g y25.2.list.length u2i u2j p11 f80 rfl (fs2.ext ((((z3.trans z4).trans z5).trans z10).trans z11)) rfl (u2k.ext (((z4.trans z5).trans z10).trans z11)) rfl (u2l.ext (((z4.trans z5).trans z10).trans z11)) rfl (fs8.ext ((((z3.trans z4).trans z5).trans z10).trans z11)) rfl (u29.ext ((((z3.trans z4).trans z5).trans z10).trans z11)) rfl)
    ·
     rw [decide_eq_false h67]
     refine Gn 5 [] J2i ?_
     have p5 := p5.dp 0
     have p5 := ((((((((p5.fr 8).fr 8).fr 8).fr 5).fr 5).fr 5).fr 8).fr 8).fr 8
     exact Gj 52 [(0, (pt gx0 0)), (1, (pt ul 0)), (6, .slice (Gp (some b18)) ((sl x6 0 (wr .i64 ((x6.length : Int) - 1))).length) cx6)] (u24 _ _ h _ _ (((hx.trans z3).trans z4).trans z5) (some b18) ((sl x6 0 (wr .i64 ((x6.length : Int) - 1))).length) cx6 u2b u2c y25.2.place.length u2e u2f u2g y25.2.list.length u2i u2j p5 (f24.ext ((z3.trans z4).trans z5)) rfl (fs2.ext ((z3.trans z4).trans z5)) rfl (u2k.ext (z4.trans z5)) rfl (u2l.ext (z4.trans z5)) rfl (fs8.ext ((z3.trans z4).trans z5)) rfl (u29.ext ((z3.trans z4).trans z5)) rfl)
  ·
   have u2p : y25.1 = false := by simpa using h29
   rw [u2p]
   refine Gn 3 [] J2i ?_
   have p3 := ((((((((p3.fr 8).fr 8).fr 8).fr 5).fr 5).fr 5).fr 8).fr 8).fr 8
   exact Gj 52 [(0, (pt gx0 0)), (1, (pt ul 0)), (6, .slice (Gp (some b18)) ((sl x6 0 (wr .i64 ((x6.length : Int) - 1))).length) cx6)] (u24 _ _ h _ _ (hx.trans z3) (some b18) ((sl x6 0 (wr .i64 ((x6.length : Int) - 1))).length) cx6 u2b u2c y25.2.place.length u2e u2f u2g y25.2.list.length u2i u2j p3 (f24.ext z3) rfl (fs2.ext z3) rfl u2k rfl u2l rfl (fs8.ext z3) rfl (u29.ext z3) rfl)
 ·
  rw [decide_eq_false h15]
  refine Gn 2 [] [] ?_
  obtain rfl := Option.some.inj h
  have p1 := p1.dp 0
  exact Goes.end_ (fn := Tryz.f30) (by kernel_rfl) (v := .tuple #[]) (by kernel_rfl) ⟨S1, u1u, e1v.place.length, u1w, u1x, u1y, e1v.list.length, u20, u21, rfl, hx, p1, u25, rfl, u27, rfl⟩

def J3a := Zs [1] B30 []
def J3b := Zt [0] B30 [1, 2] J3a

theorem W.zb (x0v : T50) (x2 : Int) (r : T65) (h : M.sim_Runner_stand x0v x2 = some r) {nz wz S0 w0 Lr} (gx0 uh ui uj uk ul um un uo up uq ur ut uu uv uw ux uy uz u10 u11 u12 u13) (p0 : Hp nz wz S0 w0 ((some gx0, .row 51 [.slice (Gp uh) ui uj, (pt ul 0), (pt uv 0)] 3 0) :: (uh, .row 46 uk (uj * kT45.size) 0) :: (some ul, .row 66 [.slice (Gp um) un uo, .slice (Gp uq) ur ut] 2 0) :: (um, .row 3 up (uo * (kInt .i64).size) 0) :: (uq, .row 49 uu (ut * (kInt .i64).size) 0) :: (some uv, .row 66 [.slice (Gp uw) ux uy, .slice (Gp u10) u11 u12] 2 0) :: (uw, .row 3 uz (uy * (kInt .i64).size) 0) :: (u10, .row 49 u13 (u12 * (kInt .i64).size) 0) :: Lr)) (u14 : Els kT45 S0 w0 uk x0v.l) (u15 : x0v.l.length = ui) (u16 : Els (kInt .i64) S0 w0 up x0v.now.place) (u17 : x0v.now.place.length = un) (u18 : Els (kInt .i64) S0 w0 uu x0v.now.list) (u19 : x0v.now.list.length = ur) (u1a : Els (kInt .i64) S0 w0 uz x0v.next.place) (u1b : x0v.next.place.length = ux) (u1c : Els (kInt .i64) S0 w0 u13 x0v.next.list) (u1d : x0v.next.list.length = u11) :
  Calls Tryz.prog 30 #[(pt gx0 0), (pt ul 0), .i x2] w0 (Rets (Post.zb nz wz S0 w0 Lr gx0 uh ui uj uk ul uv uw ux uy uz u10 u11 u12 u13 x0v r)) := by
 subst u15
 subst u17
 subst u19
 subst u1b
 subst u1d
 refine Zf Tryz.f30 B30 49 ?_
 refine Gj 52 [(0, (pt gx0 0)), (1, (pt ul 0)), (2, .i x2)] fun junk => ?_
 delta M.sim_Runner_stand at h
 refine Gn 3 [(9, .i x2)] J3b ?_
 have f10 : Els (kInt .i64) S0 w0 ([.i x2] : List Value) [x2] := by exact (Els.cons (K := (kInt .i64)) (vs := [.i x2]) (x := x2) rfl Els.nil)
 refine Op_.made (.buildSlice 64 1 #[(0, (.tmp 9))]) 10 64 (fun b => .slice (Gp (some b)) 1 1) 49 ([.i x2] : List Value) p0 Goes.v (by kernel_rfl) ?_
 intro b9 w2 z2 p2
 have p2 : Hp nz wz S0 w2 (((some b9), .row 49 ([.i x2] : List Value) (1 * (kInt .i64).size) 0) :: (some gx0, .row 51 [.slice (Gp uh) x0v.l.length uj, (pt ul 0), (pt uv 0)] 3 0) :: (uh, .row 46 uk (uj * kT45.size) 0) :: (some ul, .row 66 [.slice (Gp um) x0v.now.place.length uo, .slice (Gp uq) x0v.now.list.length ut] 2 0) :: (um, .row 3 up (uo * (kInt .i64).size) 0) :: (uq, .row 49 uu (ut * (kInt .i64).size) 0) :: (some uv, .row 66 [.slice (Gp uw) x0v.next.place.length uy, .slice (Gp u10) x0v.next.list.length u12] 2 0) :: (uw, .row 3 uz (uy * (kInt .i64).size) 0) :: (u10, .row 49 u13 (u12 * (kInt .i64).size) 0) :: Lr) := p2
 refine Gn 4 [(6, .slice (Gp (some b9)) 1 1)] J2i ?_
 exact Gj 52 [(0, (pt gx0 0)), (1, (pt ul 0)), (6, .slice (Gp (some b9)) 1 1)] (W.zc gx0 uh x0v.l.length uj uk ul uv uw x0v.next.place.length uy uz u10 x0v.next.list.length u12 u13 _ _ h _ _ ((Ext.refl S0 w0).trans z2) (some b9) 1 1 ([.i x2] : List Value) um x0v.now.place.length uo up uq x0v.now.list.length ut uu p2 (f10.ext z2) rfl (u14.ext z2) rfl (u16.ext z2) rfl (u18.ext z2) rfl (u1a.ext z2) rfl (u1c.ext z2) rfl)

def J3c := Zs [1] B13 []
def J3d := Zs [0, 1] B13 J3c
def J3e := Zt [0, 0] B13 [1, 2] J3d
def Q2g := sub [1, 1] B13
def J3f := Zc Q2g []
def J3g := Zt [1, 0] B13 [3, 4] J3f
def J3h := Zr Q2g [4, 5] []

def Post.zd (gx0 : Nat) (uh : Option Nat) (ui : Nat) (uj : Nat) (uk : List Value) (ul : Nat) (uv : Nat) (uw : Option Nat) (ux : Nat) (uy : Nat) (uz : List Value) (u10 : Option Nat) (u11 : Nat) (u12 : Nat) (u13 : List Value) (x0v : T50) (r : T65) (v : Value) (w' : World) : Prop :=
 ∃ S' u1u u1v u1w u1x u1y u1z u20 u21, v = .tuple #[] ∧ Ext S0 w0 S' w' ∧ Hp nz wz S' w' ((some gx0, .row 51 [.slice (Gp uh) ui uj, (pt ul 0), (pt uv 0)] 3 0) :: (uh, .row 46 uk (uj * kT45.size) 0) :: (some ul, .row 66 [.slice (Gp u1u) u1v u1w, .slice (Gp u1y) u1z u20] 2 0) :: (u1u, .row 3 u1x (u1w * (kInt .i64).size) 0) :: (u1y, .row 49 u21 (u20 * (kInt .i64).size) 0) :: (some uv, .row 66 [.slice (Gp uw) ux uy, .slice (Gp u10) u11 u12] 2 0) :: (uw, .row 3 uz (uy * (kInt .i64).size) 0) :: (u10, .row 49 u13 (u12 * (kInt .i64).size) 0) :: Lr) ∧ Els (kInt .i64) S' w' u1x r.place ∧ r.place.length = u1v ∧ Els (kInt .i64) S' w' u21 r.list ∧ r.list.length = u1z

theorem W.zd (x0v : T50) (r : T65) (h : M.sim_Runner_Reset x0v = some r) {nz wz S0 w0 Lr} (gx0 uh ui uj uk ul um un uo up uq ur ut uu uv uw ux uy uz u10 u11 u12 u13) (p0 : Hp nz wz S0 w0 ((some gx0, .row 51 [.slice (Gp uh) ui uj, (pt ul 0), (pt uv 0)] 3 0) :: (uh, .row 46 uk (uj * kT45.size) 0) :: (some ul, .row 66 [.slice (Gp um) un uo, .slice (Gp uq) ur ut] 2 0) :: (um, .row 3 up (uo * (kInt .i64).size) 0) :: (uq, .row 49 uu (ut * (kInt .i64).size) 0) :: (some uv, .row 66 [.slice (Gp uw) ux uy, .slice (Gp u10) u11 u12] 2 0) :: (uw, .row 3 uz (uy * (kInt .i64).size) 0) :: (u10, .row 49 u13 (u12 * (kInt .i64).size) 0) :: Lr)) (u14 : Els kT45 S0 w0 uk x0v.l) (u15 : x0v.l.length = ui) (u16 : Els (kInt .i64) S0 w0 up x0v.now.place) (u17 : x0v.now.place.length = un) (u18 : Els (kInt .i64) S0 w0 uu x0v.now.list) (u19 : x0v.now.list.length = ur) (u1a : Els (kInt .i64) S0 w0 uz x0v.next.place) (u1b : x0v.next.place.length = ux) (u1c : Els (kInt .i64) S0 w0 u13 x0v.next.list) (u1d : x0v.next.list.length = u11) :
  Calls Tryz.prog 13 #[(pt gx0 0)] w0 (Rets (Post.zd nz wz S0 w0 Lr gx0 uh ui uj uk ul uv uw ux uy uz u10 u11 u12 u13 x0v r)) := by
 subst u15
 subst u17
 subst u19
 subst u1b
 subst u1d
 refine Zf Tryz.f13 B13 15 ?_
 refine Gj 16 [(0, (pt gx0 0))] fun junk => ?_
 delta M.sim_Runner_Reset at h
 refine Gn 4 [(2, (pt gx0 0))] J3e ?_
 refine bind_some' h fun y9 e10 h => ?_
 refine Gc (kc 25 [2] #[25]) 3 4 25 _ (W.z7 x0v y9 e10 gx0 uh x0v.l.length uj uk ul um x0v.now.place.length uo up uq x0v.now.list.length ut uu uv uw x0v.next.place.length uy uz u10 x0v.next.list.length u12 u13 p0 u14 rfl u16 rfl u18 rfl u1a rfl u1c rfl) ?_
 rintro _ w2 ⟨S2, rfl, z2, p2⟩
 refine Gn 9 [(4, .bool (!true)), (5, (pt gx0 0)), (6, (pt gx0 0)), (7, (pt gx0 1))] J3g ?_
 refine Goes.ld 47 (.tmp 7) 8 47 ⟨gx0, 1, none⟩ ((pt ul 0)) (p2.c 0 1) ?_
 have p2 := ((p2.fr 4).fr 4).fr 4
 refine bind_some' h fun y11 e12 h => ?_
 refine Gc (kc 29 [8] #[47]) 9 0 29 _ (W.z8 x0v.now y11 e12 ul um x0v.now.place.length uo up uq x0v.now.list.length ut uu p2 (u16.ext z2) rfl (u18.ext z2) rfl) ?_
 rintro _ w3 ⟨S3, u2c, u2d, u2e, u2f, u2g, u2h, u2i, u2j, rfl, z3, p3, u2k, rfl, u2l, rfl⟩
 refine Gn 6 [(10, (pt gx0 0)), (11, (pt gx0 0)), (12, (pt gx0 0)), (13, (pt gx0 1))] J3h ?_
 refine Goes.ld 47 (.tmp 13) 14 47 ⟨gx0, 1, none⟩ ((pt ul 0)) (p3.c 3 1) ?_
 have p3 := (((((((p3.fr 7).fr 7).fr 7).fr 5).fr 5).fr 5).fr 7).fr 7
 refine bind_some' h fun y15 e16 h => ?_
 refine Gc (.call { callee := .value (.func 30), args := #[(.tmp 10), (.tmp 14), (.const (.int .i64 0))], argTypes := #[25, 47, 49] }) 15 0 30 _ (W.zb (⟨x0v.l, y11, x0v.next⟩ : T50) 0 y15 e16 gx0 uh x0v.l.length uj uk ul u2c y11.place.length u2e u2f u2g y11.list.length u2i u2j uv uw x0v.next.place.length uy uz u10 x0v.next.list.length u12 u13 p3 (u14.ext (z2.trans z3)) rfl u2k rfl u2l rfl (u1a.ext (z2.trans z3)) rfl (u1c.ext (z2.trans z3)) rfl) ?_
 rintro _ w4 ⟨S4, u2q, u2r, u2s, u2t, u2u, u2v, u2w, u2x, rfl, z4, p4, u2y, rfl, u2z, rfl⟩
 refine Gn 1 [] [] ?_
 obtain rfl := Option.some.inj h
 exact Goes.end_ (fn := Tryz.f13) (by kernel_rfl) (v := .tuple #[]) (by kernel_rfl) ⟨S4, u2q, y15.place.length, u2s, u2t, u2u, y15.list.length, u2w, u2x, rfl, ((((Ext.refl S0 w0).trans z2).trans z3).trans z4), p4, u2y, rfl, u2z, rfl⟩

def J3i := Zs [1, 1] B4 []
def J3j := Zs [1, 0, 1] B4 J3i
def J3k := Zt [1, 0, 0] B4 [1, 2] J3j
def J3l := Zs [1, 0, 1, 1] B4 J3i
def J3m := Zs [1, 1, 1] B4 []
def Q2n := sub [1, 1, 0] B4
def J3n := Zr Q2n [1, 2, 3, 4, 5, 6, 7, 8, 9, 10] J3m
def J3o := Zr Q2n [4, 5, 6, 7, 8, 9, 10] J3m
def J3p := Zr Q2n [7, 8, 9, 10] J3m
def J3q := Zr Q2n [9, 10] J3m
def J3r := Zs [1, 1, 1, 1] B4 []
def J3s := Zt [1, 1, 1, 0] B4 [1] J3r
def J3t := Zs [1, 1, 1, 1, 1] B4 []
def J3u := Zs [1, 0, 1, 1, 0, 1] B4 J3i

def Post.ze (r : (T50 × Int) ⊕ Int) (v : Value) (w' : World) : Prop :=
 match r with
 | .inl r => ∃ S' u30 u31 u32 u33 u34 u35 u36 u37 u38 u39 u3a u3b u3c u3d u3e u3f u3g u3h u3i u3j u3k u3l u3m, v = .tuple #[(pt u30 0), .i r.2] ∧ Ext S0 w0 S' w' ∧ Hp nz wz S' w' ((some u30, .row 51 [.slice (Gp u31) u32 u33, (pt u35 0), (pt u3e 0)] 3 0) :: (u31, .row 46 u34 (u33 * kT45.size) 0) :: (some u35, .row 66 [.slice (Gp u36) u37 u38, .slice (Gp u3a) u3b u3c] 2 0) :: (u36, .row 3 u39 (u38 * (kInt .i64).size) 0) :: (u3a, .row 49 u3d (u3c * (kInt .i64).size) 0) :: (some u3e, .row 66 [.slice (Gp u3f) u3g u3h, .slice (Gp u3j) u3k u3l] 2 0) :: (u3f, .row 3 u3i (u3h * (kInt .i64).size) 0) :: (u3j, .row 49 u3m (u3l * (kInt .i64).size) 0) :: Lr) ∧ Els kT45 S' w' u34 r.1.l ∧ r.1.l.length = u32 ∧ Els (kInt .i64) S' w' u39 r.1.now.place ∧ r.1.now.place.length = u37 ∧ Els (kInt .i64) S' w' u3d r.1.now.list ∧ r.1.now.list.length = u3b ∧ Els (kInt .i64) S' w' u3i r.1.next.place ∧ r.1.next.place.length = u3g ∧ Els (kInt .i64) S' w' u3m r.1.next.list ∧ r.1.next.list.length = u3k
 | .inr (r) => ∃ S', v = .tuple #[.pointer none, .i r] ∧ Ext S0 w0 S' w' ∧ Hp nz wz S' w' (Lr)

theorem W.ze (x0 : List T45) (r : (T50 × Int) ⊕ Int) (h : M.sim_New x0 = some r) {nz wz S0 w0 Lr} (Ax0 nx0 cx0) (p0 : Hp nz wz S0 w0 (Lr)) (fx0 : Rd kT45 S0 w0 Ax0 cx0 x0) (lx0 : x0.length = nx0) :
  Calls Tryz.prog 4 #[.slice Ax0 nx0 cx0] w0 (Rets (Post.ze nz wz S0 w0 Lr r)) := by
 subst lx0
 refine Zf Tryz.f4 B4 23 ?_
 refine Gj 24 [(0, .slice Ax0 x0.length cx0)] fun junk => ?_
 delta M.sim_New at h
 refine Gn 9 [(2, .pointer none), (3, .i 0), (6, .slice Ax0 x0.length cx0)] J3k ?_
 refine bind_some' h fun y1 e2 h => ?_
 refine Gc (kc 16 [6] #[22]) 7 26 16 _ (W.z2 x0 y1 e2 Ax0 x0.length cx0 p0 fx0 rfl) ?_
 rintro _ w2 ⟨S2, rfl, z2, p2⟩
 refine Gn 7 [(4, .i y1), (8, .i y1), (9, .bool (!(decide (y1 = 0))))] J3l ?_
 refine ite_some h (fun h3 h => ?_) (fun h3 h => ?_)
 ·
  rw [decide_eq_true h3]
  refine Gn 5 [(11, .slice Ax0 x0.length cx0)] J3n ?_
  refine bind_some' h fun y4 e5 h => ?_
  refine Gc (kc 17 [11] #[22]) 12 22 17 _ (W.z5 x0 y4 e5 Ax0 x0.length cx0 p2 (fx0.ext z2) rfl) ?_
  rintro _ w3 ⟨S3, u3n, u3o, u3p, u3q, rfl, z3, p3, u3r, rfl⟩
  refine Gn 2 [(13, .slice Ax0 x0.length cx0), (14, .i (x0.length : Int))] J3o ?_
  refine bind_some' h fun y7 e8 h => ?_
  refine Gc (kc 18 [14] #[3]) 15 47 18 _ (W.z6 (x0.length : Int) y7 e8  p3 ) ?_
  rintro _ w4 ⟨S4, u3s, u3t, u3u, u3v, u3w, rfl, z4, p4, u3x, rfl⟩
  refine Gn 2 [(16, .slice Ax0 x0.length cx0), (17, .i (x0.length : Int))] J3p ?_
  refine bind_some' h fun y11 e12 h => ?_
  refine Gc (kc 18 [17] #[3]) 18 47 18 _ (W.z6 (x0.length : Int) y11 e12  p4 ) ?_
  rintro _ w5 ⟨S5, u3y, u3z, u40, u41, u42, rfl, z5, p5, u43, rfl⟩
  refine Gn 1 [(19, .agg #[.slice (Gp u3n) y4.length u3p, (pt u3s 0), (pt u3y 0)])] J3q ?_
  refine Op_.box 51 (.tmp 19) 20 25 (.agg #[.slice (Gp u3n) y4.length u3p, (pt u3s 0), (pt u3y 0)]) [.slice (Gp u3n) y4.length u3p, (pt u3s 0), (pt u3y 0)] p5 Goes.v (by kernel_rfl) (by kernel_rfl) ?_
  intro b15 w6 z6 p6
  refine Gn 5 [(5, (pt b15 0)), (21, (pt b15 0))] J3s ?_
  have p6 : Hp nz wz S5 w6 ((none, .row 49 [] (0 * (kInt .i64).size) 0) :: (some b15, .row 51 [.slice (Gp u3n) y4.length u3p, (pt u3s 0), (pt u3y 0)] 3 0) :: (some u3y, .row 66 [.slice (Gp u3z) y11.length u41, .slice none 0 0] 2 0) :: (u3z, .row 3 u42 (u41 * (kInt .i64).size) 0) :: (some u3s, .row 66 [.slice (Gp u3t) y7.length u3v, .slice none 0 0] 2 0) :: (u3t, .row 3 u3w (u3v * (kInt .i64).size) 0) :: (u3n, .row 46 u3q (u3p * kT45.size) 0) :: Lr) := p6.nilRow' 49
  have p6 : Hp nz wz S5 w6 ((none, .row 49 [] (0 * (kInt .i64).size) 0) :: (none, .row 49 [] (0 * (kInt .i64).size) 0) :: (some b15, .row 51 [.slice (Gp u3n) y4.length u3p, (pt u3s 0), (pt u3y 0)] 3 0) :: (some u3y, .row 66 [.slice (Gp u3z) y11.length u41, .slice none 0 0] 2 0) :: (u3z, .row 3 u42 (u41 * (kInt .i64).size) 0) :: (some u3s, .row 66 [.slice (Gp u3t) y7.length u3v, .slice (Gp none) 0 0] 2 0) :: (u3t, .row 3 u3w (u3v * (kInt .i64).size) 0) :: (u3n, .row 46 u3q (u3p * kT45.size) 0) :: Lr) := p6.nilRow' 49
  have p6 := (((((((p6.fr 0).fr 4).fr 4).fr 3).fr 6).fr 6).fr 7).fr 7
  refine bind_some' h fun y19 e20 h => ?_
  refine Gc (kc 13 [21] #[25]) 22 0 13 _ (W.zd (⟨y4, (⟨y7, ([] : List Int)⟩ : T65), (⟨y11, ([] : List Int)⟩ : T65)⟩ : T50) y19 e20 b15 u3n y4.length u3p u3q u3s u3t y7.length u3v u3w none 0 0 [] u3y u3z y11.length u41 u42 none 0 0 [] p6 (u3r.ext ((z4.trans z5).trans z6)) rfl (u3x.ext (z5.trans z6)) rfl (Els.nil (K := (kInt .i64))) rfl (u43.ext z6) rfl (Els.nil (K := (kInt .i64))) rfl) ?_
  rintro _ w7 ⟨S7, u44, u45, u46, u47, u48, u49, u4a, u4b, rfl, z7, p7, u4c, rfl, u4d, rfl⟩
  refine Gn 7 [(23, (pt b15 0)), (2, (pt b15 0)), (3, .i 0)] J3t ?_
  obtain rfl := Option.some.inj h
  exact Goes.rt Tryz.f4 (.tuple #[(pt b15 0), .i 0]) ⟨S7, b15, u3n, y4.length, u3p, u3q, u3s, u44, y19.place.length, u46, u47, u48, y19.list.length, u4a, u4b, u3y, u3z, y11.length, u41, u42, none, 0, 0, [], rfl, (((((((Ext.refl S0 w0).trans z2).trans z3).trans z4).trans z5).trans z6).trans z7), p7, (u3r.ext (((z4.trans z5).trans z6).trans z7)), rfl, u4c, rfl, u4d, rfl, (u43.ext (z6.trans z7)), rfl, (Els.nil (K := (kInt .i64))), rfl⟩
 ·
  rw [decide_eq_false h3]
  refine Gn 7 [(10, .i y1), (2, .pointer none), (3, .i y1)] J3u ?_
  obtain rfl := Option.some.inj h
  exact Goes.rt Tryz.f4 (.tuple #[.pointer none, .i y1]) ⟨S2, rfl, ((Ext.refl S0 w0).trans z2), p2⟩

def J3v := Zs [1, 1, 1] B34 []
def J3w := Zb 0 J3v
def Q2t := sub [1, 1, 0, 1, 0, 0] B34
def J3x := Zl Q2t J3w
def J3y := Zc Q2t J3x
def J3z := Zs [1, 1, 0, 1, 0, 0, 1, 1] B34 J3x
def J40 := Zb 1 J3z
def J41 := Zs [1, 1, 0, 1, 0, 0, 1, 0, 0, 1, 1] B34 J40
def J42 := Zs [1, 1, 0, 1, 0, 0, 1] B34 J3x
def J43 := Zs [1, 1, 0, 1, 0, 0, 0, 1] B34 J42
def J44 := Zs [1, 1, 0, 1, 0, 0, 1, 0, 0, 1] B34 J40
def J45 := Zt [1, 1, 0, 1, 0, 0, 1, 0, 0, 0] B34 [2, 3, 4, 5] J44
def Q30 := sub [1, 1, 0, 1, 0, 0, 1, 0, 0, 1, 0] B34
def J46 := Zr Q30 [1, 2, 3, 4, 5, 6, 7, 8, 9, 10, 11, 12, 13, 14, 15, 16, 17, 18, 19, 20, 21, 22, 23, 24, 25, 26, 27, 28, 29, 30, 31, 32, 33, 34, 35, 36, 37, 38, 39, 40, 41, 42, 43, 44, 45, 46, 47, 48, 49, 50, 51, 52, 53, 54, 55, 56, 57, 58, 59, 60, 61, 62] J41
def J47 := Zr Q30 [4, 5, 6, 7, 8, 9, 10, 11, 12, 13, 14, 15, 16, 17, 18, 19, 20, 21, 22, 23, 24, 25, 26, 27, 28, 29, 30, 31, 32, 33, 34, 35, 36, 37, 38, 39, 40, 41, 42, 43, 44, 45, 46, 47, 48, 49, 50, 51, 52, 53, 54, 55, 56, 57, 58, 59, 60, 61, 62] J41
def J48 := Zr Q30 [18, 19, 20, 21, 22, 23, 24, 25, 26, 27, 28, 29, 30, 31, 32, 33, 34, 35, 36, 37, 38, 39, 40, 41, 42, 43, 44, 45, 46, 47, 48, 49, 50, 51, 52, 53, 54, 55, 56, 57, 58, 59, 60, 61, 62] J41
def J49 := Zr Q30 [32, 33, 34, 35, 36, 37, 38, 39, 40, 41, 42, 43, 44, 45, 46, 47, 48, 49, 50, 51, 52, 53, 54, 55, 56, 57, 58, 59, 60, 61, 62] J41
def J4a := Zr Q30 [46, 47, 48, 49, 50, 51, 52, 53, 54, 55, 56, 57, 58, 59, 60, 61, 62] J41
def J4b := Zr Q30 [60, 61, 62] J41
def J4c := Zr Q30 [5, 6, 7, 8, 9, 10, 11, 12, 13, 14, 15, 16, 17, 18, 19, 20, 21, 22, 23, 24, 25, 26, 27, 28, 29, 30, 31, 32, 33, 34, 35, 36, 37, 38, 39, 40, 41, 42, 43, 44, 45, 46, 47, 48, 49, 50, 51, 52, 53, 54, 55, 56, 57, 58, 59, 60, 61, 62] J41
def J4d := Zr Q30 [9, 10, 11, 12, 13, 14, 15, 16, 17, 18, 19, 20, 21, 22, 23, 24, 25, 26, 27, 28, 29, 30, 31, 32, 33, 34, 35, 36, 37, 38, 39, 40, 41, 42, 43, 44, 45, 46, 47, 48, 49, 50, 51, 52, 53, 54, 55, 56, 57, 58, 59, 60, 61, 62] J41
def J4e := Zr Q30 [23, 24, 25, 26, 27, 28, 29, 30, 31, 32, 33, 34, 35, 36, 37, 38, 39, 40, 41, 42, 43, 44, 45, 46, 47, 48, 49, 50, 51, 52, 53, 54, 55, 56, 57, 58, 59, 60, 61, 62] J41
def J4f := Zr Q30 [37, 38, 39, 40, 41, 42, 43, 44, 45, 46, 47, 48, 49, 50, 51, 52, 53, 54, 55, 56, 57, 58, 59, 60, 61, 62] J41
def J4g := Zr Q30 [51, 52, 53, 54, 55, 56, 57, 58, 59, 60, 61, 62] J41
def J4h := Zr Q30 [10, 11, 12, 13, 14, 15, 16, 17, 18, 19, 20, 21, 22, 23, 24, 25, 26, 27, 28, 29, 30, 31, 32, 33, 34, 35, 36, 37, 38, 39, 40, 41, 42, 43, 44, 45, 46, 47, 48, 49, 50, 51, 52, 53, 54, 55, 56, 57, 58, 59, 60, 61, 62] J41
def J4i := Zr Q30 [13, 14, 15, 16, 17, 18, 19, 20, 21, 22, 23, 24, 25, 26, 27, 28, 29, 30, 31, 32, 33, 34, 35, 36, 37, 38, 39, 40, 41, 42, 43, 44, 45, 46, 47, 48, 49, 50, 51, 52, 53, 54, 55, 56, 57, 58, 59, 60, 61, 62] J41
def J4j := Zr Q30 [21, 22, 23, 24, 25, 26, 27, 28, 29, 30, 31, 32, 33, 34, 35, 36, 37, 38, 39, 40, 41, 42, 43, 44, 45, 46, 47, 48, 49, 50, 51, 52, 53, 54, 55, 56, 57, 58, 59, 60, 61, 62] J41
def J4k := Zr Q30 [24, 25, 26, 27, 28, 29, 30, 31, 32, 33, 34, 35, 36, 37, 38, 39, 40, 41, 42, 43, 44, 45, 46, 47, 48, 49, 50, 51, 52, 53, 54, 55, 56, 57, 58, 59, 60, 61, 62] J41
def J4l := Zr Q30 [25, 26, 27, 28, 29, 30, 31, 32, 33, 34, 35, 36, 37, 38, 39, 40, 41, 42, 43, 44, 45, 46, 47, 48, 49, 50, 51, 52, 53, 54, 55, 56, 57, 58, 59, 60, 61, 62] J41
def J4m := Zr Q30 [30, 31, 32, 33, 34, 35, 36, 37, 38, 39, 40, 41, 42, 43, 44, 45, 46, 47, 48, 49, 50, 51, 52, 53, 54, 55, 56, 57, 58, 59, 60, 61, 62] J41
def J4n := Zr Q30 [31, 32, 33, 34, 35, 36, 37, 38, 39, 40, 41, 42, 43, 44, 45, 46, 47, 48, 49, 50, 51, 52, 53, 54, 55, 56, 57, 58, 59, 60, 61, 62] J41
def J4o := Zr Q30 [34, 35, 36, 37, 38, 39, 40, 41, 42, 43, 44, 45, 46, 47, 48, 49, 50, 51, 52, 53, 54, 55, 56, 57, 58, 59, 60, 61, 62] J41
def J4p := Zr Q30 [41, 42, 43, 44, 45, 46, 47, 48, 49, 50, 51, 52, 53, 54, 55, 56, 57, 58, 59, 60, 61, 62] J41
def J4q := Zr Q30 [45, 46, 47, 48, 49, 50, 51, 52, 53, 54, 55, 56, 57, 58, 59, 60, 61, 62] J41
def J4r := Zr Q30 [59, 60, 61, 62] J41
def J4s := Zr Q30 [52, 53, 54, 55, 56, 57, 58, 59, 60, 61, 62] J41
def J4t := Zr Q30 [53, 54, 55, 56, 57, 58, 59, 60, 61, 62] J41
def J4u := Zr Q30 [57, 58, 59, 60, 61, 62] J41
def J4v := Zr Q30 [58, 59, 60, 61, 62] J41
def J4w := Zr Q30 [35, 36, 37, 38, 39, 40, 41, 42, 43, 44, 45, 46, 47, 48, 49, 50, 51, 52, 53, 54, 55, 56, 57, 58, 59, 60, 61, 62] J41
def J4x := Zr Q30 [40, 41, 42, 43, 44, 45, 46, 47, 48, 49, 50, 51, 52, 53, 54, 55, 56, 57, 58, 59, 60, 61, 62] J41
def J4y := Zr Q30 [54, 55, 56, 57, 58, 59, 60, 61, 62] J41
def J4z := Zr Q30 [44, 45, 46, 47, 48, 49, 50, 51, 52, 53, 54, 55, 56, 57, 58, 59, 60, 61, 62] J41
def J50 := Zr Q30 [14, 15, 16, 17, 18, 19, 20, 21, 22, 23, 24, 25, 26, 27, 28, 29, 30, 31, 32, 33, 34, 35, 36, 37, 38, 39, 40, 41, 42, 43, 44, 45, 46, 47, 48, 49, 50, 51, 52, 53, 54, 55, 56, 57, 58, 59, 60, 61, 62] J41
def J51 := Zr Q30 [16, 17, 18, 19, 20, 21, 22, 23, 24, 25, 26, 27, 28, 29, 30, 31, 32, 33, 34, 35, 36, 37, 38, 39, 40, 41, 42, 43, 44, 45, 46, 47, 48, 49, 50, 51, 52, 53, 54, 55, 56, 57, 58, 59, 60, 61, 62] J41
def J52 := Zr Q30 [20, 21, 22, 23, 24, 25, 26, 27, 28, 29, 30, 31, 32, 33, 34, 35, 36, 37, 38, 39, 40, 41, 42, 43, 44, 45, 46, 47, 48, 49, 50, 51, 52, 53, 54, 55, 56, 57, 58, 59, 60, 61, 62] J41
def J53 := Zr Q30 [48, 49, 50, 51, 52, 53, 54, 55, 56, 57, 58, 59, 60, 61, 62] J41
def J54 := Zr Q30 [62] J41
def J55 := Zs [1, 1, 1, 1] B34 []
def J56 := Zs [1, 1, 0, 1, 0, 0, 1, 0, 0, 1, 1, 0, 1] B34 J40

def Post.zf (r : Int) (v : Value) (w' : World) : Prop :=
 ∃ S', v = .i r ∧ Ext S0 w0 S' w' ∧ Hp nz wz S' w' (Lr)

def L.zg : (List T45) × Int → Int → Prop := fun ⟨x0, x3⟩ r => ∀ S1 w1, Ext S0 w0 S1 w1 → ∀ Ax0 nx0 cx0 (_ : Hp nz wz S1 w1 (Lr)) (_ : Rd kT45 S1 w1 Ax0 cx0 x0) (_ : x0.length = nx0) (junk : Nat → Value),
 Goes Tryz.prog (base 34) J3y ⟨lfr 86 [(0, .slice Ax0 nx0 cx0), (3, .i x3)] junk, []⟩ w1 (Done Tryz.prog 34 (Rets (Post.zf nz wz S0 w0 Lr r)))

def L.zh : (List T45) × Int × Bool → Int → Prop := fun ⟨x0, x3, x85⟩ r => ∀ S1 w1, Ext S0 w0 S1 w1 → ∀ Ax0 nx0 cx0 (_ : Hp nz wz S1 w1 (Lr)) (_ : Rd kT45 S1 w1 Ax0 cx0 x0) (_ : x0.length = nx0) (junk : Nat → Value),
 Goes Tryz.prog (base 34) J41 ⟨lfr 86 [(0, .slice Ax0 nx0 cx0), (3, .i x3), (85, .bool x85)] junk, []⟩ w1 (Done Tryz.prog 34 (Rets (Post.zf nz wz S0 w0 Lr r)))

theorem W.zi {nz wz S0 w0 Lr} : (∀ a r, M.tidepoleref11_Check_l1 a = some r → (L.zg nz wz S0 w0 Lr) a r) ∧ (∀ a r, M.tidepoleref11_Check_l2 a = some r → (L.zh nz wz S0 w0 Lr) a r) := by
 refine M.tidepoleref11_Check_l1.mutual_partial_correctness (L.zg nz wz S0 w0 Lr) (L.zh nz wz S0 w0 Lr) ?_ ?_
 ·
  intro u4e u4f ⟨x0, x3⟩ r h S1 w1 hx Ax0 nx0 cx0 p1 fx0 lx0 junk
  try dsimp only at h
  subst lx0
  refine Gn 8 [(13, .i x3), (14, .slice Ax0 x0.length cx0), (15, .i (x0.length : Int)), (16, .bool (decide (x3 < (x0.length : Int))))] J43 ?_
  refine ite_some h (fun h3 h => ?_) (fun h3 h => ?_)
  ·
   rw [decide_eq_true h3]
   refine Gn 8 [(19, .slice Ax0 x0.length cx0), (20, .i x3)] J45 ?_
   refine guard_some' h fun g4 h => ?_
   refine Op_.ixR_n 22 (.tmp 19) (.tmp 20) 21 0 46 .i64 x3 (gi x0 x3) rfl rfl fx0 Goes.v (by kernel_rfl) (by kernel_rfl) (by kernel_rfl) (by kernel_rfl) g4 h3 ?_
   intro a5 _ f6 q7
   obtain ⟨_, _, rfl, rfl, ⟨_, _, rfl, ⟨l8, f9⟩, ⟨_, _, rfl, rfl, rfl⟩⟩⟩ := q7
   obtain rfl := els_lit4' f9 l8
   refine Goes.ldN 46 (.tmp 21) 22 46 a5 ([.i ((gi x0 x3).Op)] ++ ((U4 ((gi x0 x3).Set) []) ++ ([.i ((gi x0 x3).X)] ++ [.i ((gi x0 x3).Y)]))) (f6.cell) ?_
   refine Op_.alloc 46 4 0 (.agg #[.i 0, .u 0, .u 0, .u 0, .u 0, .i 0, .i 0]) [.i 0, .u 0, .u 0, .u 0, .u 0, .i 0, .i 0] p1 Goes.v (by kernel_rfl) (by kernel_rfl) ?_
   intro b10 w2 z2 p2
   refine So 46 (.tmp 4) (.tmp 22) 0 0 b10 0 (ag (.i ((gi x0 x3).Op) :: U4 ((gi x0 x3).Set) [.i ((gi x0 x3).X), .i ((gi x0 x3).Y)])) (.i ((gi x0 x3).Op) :: U4 ((gi x0 x3).Set) [.i ((gi x0 x3).X), .i ((gi x0 x3).Y)]) p2 rfl Goes.s ?_
   intro w3 z3 p3
   have p3 : Hp nz wz S1 w3 ((some b10, .row 46 (.i ((gi x0 x3).Op) :: U4 ((gi x0 x3).Set) [.i ((gi x0 x3).X), .i ((gi x0 x3).Y)]) 7 0) :: Lr) := p3
   refine Gn 4 [(23, (pt b10 0))] J46 ?_
   refine Goes.ld 3 (.tmp 23) 24 3 ⟨b10, 0, none⟩ (.i ((gi x0 x3).Op)) (p3.c 0 0) ?_
   refine Gn 2 [(25, .bool (decide ((gi x0 x3).Op < 1))), (26, .bool (decide ((gi x0 x3).Op < 1)))] J47 ?_
   refine ite_some h (fun h12 h => ?_) (fun h12 h => ?_)
   ·
    rw [decide_eq_true h12]
    refine Gn 14 [(27, undef), (28, undef), (29, undef), (30, .bool true), (31, .bool true), (32, undef), (33, undef), (34, undef), (35, undef), (36, undef), (37, undef), (38, undef), (39, undef), (40, undef)] J48 ?_
    refine Gn 14 [(41, .bool true), (42, .bool true), (43, undef), (44, undef), (45, undef), (46, undef), (47, undef), (48, undef), (49, undef), (50, undef), (51, .bool true), (52, .bool true), (53, undef), (54, undef)] J49 ?_
    refine Gn 14 [(55, undef), (56, undef), (57, undef), (58, undef), (59, undef), (60, undef), (61, .bool true), (62, .bool true), (63, undef), (64, undef), (65, undef), (66, .bool true), (67, .bool true), (68, undef)] J4a ?_
    refine Gn 14 [(69, undef), (70, undef), (71, undef), (72, undef), (73, .bool true), (74, .bool true), (75, undef), (76, undef), (77, undef), (78, .bool true), (79, .bool true), (80, undef), (81, undef), (82, undef)] J4b ?_
    refine Gn 4 [(83, undef), (84, undef), (85, .bool true)] J41 ?_
    have p3 := p3.dp 0
    exact Gj 86 [(0, .slice Ax0 x0.length cx0), (3, .i x3), (85, .bool true)] (u4f _ _ h _ _ ((hx.trans z2).trans z3) Ax0 x0.length cx0 p3 (fx0.ext (z2.trans z3)) rfl)
   ·
    rw [decide_eq_false h12]
    refine Gn 1 [(27, (pt b10 0))] J4c ?_
    refine Goes.ld 3 (.tmp 27) 28 3 ⟨b10, 0, none⟩ (.i ((gi x0 x3).Op)) (p3.c 0 0) ?_
    refine Gn 3 [(29, .bool (decide ((gi x0 x3).Op > 4))), (30, .bool (decide ((gi x0 x3).Op > 4))), (31, .bool (decide ((gi x0 x3).Op > 4)))] J4d ?_
    refine ite_some h (fun h13 h => ?_) (fun h13 h => ?_)
    ·
     rw [decide_eq_true h13]
     refine Gn 14 [(32, undef), (33, undef), (34, undef), (35, undef), (36, undef), (37, undef), (38, undef), (39, undef), (40, undef), (41, .bool true), (42, .bool true), (43, undef), (44, undef), (45, undef)] J4e ?_
     refine Gn 14 [(46, undef), (47, undef), (48, undef), (49, undef), (50, undef), (51, .bool true), (52, .bool true), (53, undef), (54, undef), (55, undef), (56, undef), (57, undef), (58, undef), (59, undef)] J4f ?_
     refine Gn 14 [(60, undef), (61, .bool true), (62, .bool true), (63, undef), (64, undef), (65, undef), (66, .bool true), (67, .bool true), (68, undef), (69, undef), (70, undef), (71, undef), (72, undef), (73, .bool true)] J4g ?_
     refine Gn 13 [(74, .bool true), (75, undef), (76, undef), (77, undef), (78, .bool true), (79, .bool true), (80, undef), (81, undef), (82, undef), (83, undef), (84, undef), (85, .bool true)] J41 ?_
     have p3 := p3.dp 0
     exact Gj 86 [(0, .slice Ax0 x0.length cx0), (3, .i x3), (85, .bool true)] (u4f _ _ h _ _ ((hx.trans z2).trans z3) Ax0 x0.length cx0 p3 (fx0.ext (z2.trans z3)) rfl)
    ·
     rw [decide_eq_false h13]
     refine Gn 1 [(32, (pt b10 0))] J4h ?_
     refine Goes.ld 3 (.tmp 32) 33 3 ⟨b10, 0, none⟩ (.i ((gi x0 x3).Op)) (p3.c 0 0) ?_
     refine Gn 2 [(34, .bool (!(decide ((gi x0 x3).Op = 1)))), (35, .bool (!(decide ((gi x0 x3).Op = 1))))] J4i ?_
     refine ite_some h (fun h14 h => ?_) (fun h14 h => ?_)
     ·
      rw [decide_eq_true h14]
      refine Gn 8 [(36, undef), (37, undef), (38, undef), (39, undef), (40, .bool false), (41, .bool false), (42, .bool false), (43, (pt b10 0))] J4j ?_
      refine Goes.ld 3 (.tmp 43) 44 3 ⟨b10, 0, none⟩ (.i ((gi x0 x3).Op)) (p3.c 0 0) ?_
      refine Gn 2 [(45, .bool (decide ((gi x0 x3).Op = 3))), (46, .bool (decide ((gi x0 x3).Op = 3)))] J4k ?_
      refine ite_some h (fun h15 h => ?_) (fun h15 h => ?_)
      ·
       rw [decide_eq_true h15]
       refine Gn 1 [(47, (pt b10 5))] J4l ?_
       refine Goes.ld 3 (.tmp 47) 48 3 ⟨b10, 5, none⟩ (.i ((gi x0 x3).X)) (p3.c 0 5) ?_
       refine Gn 4 [(49, .bool (!(decide ((gi x0 x3).X = 0)))), (50, .bool (!(decide ((gi x0 x3).X = 0)))), (51, .bool (!(decide ((gi x0 x3).X = 0)))), (52, .bool (!(decide ((gi x0 x3).X = 0))))] J4m ?_
       refine ite_some h (fun h16 h => ?_) (fun h16 h => ?_)
       ·
        rw [decide_eq_true h16]
        refine Gn 1 [(53, (pt b10 0))] J4n ?_
        refine Goes.ld 3 (.tmp 53) 54 3 ⟨b10, 0, none⟩ (.i ((gi x0 x3).Op)) (p3.c 0 0) ?_
        refine Gn 2 [(55, .bool (!(decide ((gi x0 x3).Op = 2)))), (56, .bool (!(decide ((gi x0 x3).Op = 2))))] J4o ?_
        refine ite_some h (fun h17 h => ?_) (fun h17 h => ?_)
        ·
         rw [decide_eq_true h17]
         refine Gn 7 [(57, undef), (58, undef), (59, undef), (60, .bool false), (61, .bool false), (62, .bool false), (63, (pt b10 5))] J4p ?_
         refine Goes.ld 3 (.tmp 63) 64 3 ⟨b10, 5, none⟩ (.i ((gi x0 x3).X)) (p3.c 0 5) ?_
         refine Gn 3 [(65, .bool (decide ((gi x0 x3).X < 0))), (66, .bool (decide ((gi x0 x3).X < 0))), (67, .bool (decide ((gi x0 x3).X < 0)))] J4q ?_
         refine ite_some h (fun h18 h => ?_) (fun h18 h => ?_)
         ·
          rw [decide_eq_true h18]
          refine Gn 14 [(68, undef), (69, undef), (70, undef), (71, undef), (72, undef), (73, .bool true), (74, .bool true), (75, undef), (76, undef), (77, undef), (78, .bool true), (79, .bool true), (80, undef), (81, undef)] J4r ?_
          refine Gn 5 [(82, undef), (83, undef), (84, undef), (85, .bool true)] J41 ?_
          have p3 := p3.dp 0
          exact Gj 86 [(0, .slice Ax0 x0.length cx0), (3, .i x3), (85, .bool true)] (u4f _ _ h _ _ ((hx.trans z2).trans z3) Ax0 x0.length cx0 p3 (fx0.ext (z2.trans z3)) rfl)
         ·
          rw [decide_eq_false h18]
          refine Gn 1 [(68, (pt b10 5))] J4a ?_
          refine Goes.ld 3 (.tmp 68) 69 3 ⟨b10, 5, none⟩ (.i ((gi x0 x3).X)) (p3.c 0 5) ?_
          refine Gn 5 [(70, .slice Ax0 x0.length cx0), (71, .i (x0.length : Int)), (72, .bool (decide ((gi x0 x3).X ≥ (x0.length : Int)))), (73, .bool (decide ((gi x0 x3).X ≥ (x0.length : Int)))), (74, .bool (decide ((gi x0 x3).X ≥ (x0.length : Int))))] J4s ?_
          refine ite_some h (fun h19 h => ?_) (fun h19 h => ?_)
          ·
           rw [decide_eq_true h19]
           refine Gn 12 [(75, undef), (76, undef), (77, undef), (78, .bool true), (79, .bool true), (80, undef), (81, undef), (82, undef), (83, undef), (84, undef), (85, .bool true)] J41 ?_
           have p3 := p3.dp 0
           exact Gj 86 [(0, .slice Ax0 x0.length cx0), (3, .i x3), (85, .bool true)] (u4f _ _ h _ _ ((hx.trans z2).trans z3) Ax0 x0.length cx0 p3 (fx0.ext (z2.trans z3)) rfl)
          ·
           rw [decide_eq_false h19]
           refine Gn 1 [(75, (pt b10 6))] J4t ?_
           refine Goes.ld 3 (.tmp 75) 76 3 ⟨b10, 6, none⟩ (.i ((gi x0 x3).Y)) (p3.c 0 6) ?_
           refine Gn 3 [(77, .bool (decide ((gi x0 x3).Y < 0))), (78, .bool (decide ((gi x0 x3).Y < 0))), (79, .bool (decide ((gi x0 x3).Y < 0)))] J4u ?_
           refine ite_some h (fun h20 h => ?_) (fun h20 h => ?_)
           ·
            rw [decide_eq_true h20]
            refine Gn 7 [(80, undef), (81, undef), (82, undef), (83, undef), (84, undef), (85, .bool true)] J41 ?_
            have p3 := p3.dp 0
            exact Gj 86 [(0, .slice Ax0 x0.length cx0), (3, .i x3), (85, .bool true)] (u4f _ _ h _ _ ((hx.trans z2).trans z3) Ax0 x0.length cx0 p3 (fx0.ext (z2.trans z3)) rfl)
           ·
            rw [decide_eq_false h20]
            refine Gn 1 [(80, (pt b10 6))] J4v ?_
            refine Goes.ld 3 (.tmp 80) 81 3 ⟨b10, 6, none⟩ (.i ((gi x0 x3).Y)) (p3.c 0 6) ?_
            refine Gn 5 [(82, .slice Ax0 x0.length cx0), (83, .i (x0.length : Int)), (84, .bool (decide ((gi x0 x3).Y ≥ (x0.length : Int)))), (85, .bool (decide ((gi x0 x3).Y ≥ (x0.length : Int))))] J41 ?_
            have p3 := p3.dp 0
            exact Gj 86 [(0, .slice Ax0 x0.length cx0), (3, .i x3), (85, .bool (decide ((gi x0 x3).Y ≥ (x0.length : Int))))] (u4f _ _ h _ _ ((hx.trans z2).trans z3) Ax0 x0.length cx0 p3 (fx0.ext (z2.trans z3)) rfl)
        ·
         rw [decide_eq_false h17]
         refine Gn 1 [(57, (pt b10 6))] J4w ?_
         refine Goes.ld 3 (.tmp 57) 58 3 ⟨b10, 6, none⟩ (.i ((gi x0 x3).Y)) (p3.c 0 6) ?_
         refine Gn 4 [(59, .bool (!(decide ((gi x0 x3).Y = 0)))), (60, .bool (!(decide ((gi x0 x3).Y = 0)))), (61, .bool (!(decide ((gi x0 x3).Y = 0)))), (62, .bool (!(decide ((gi x0 x3).Y = 0))))] J4x ?_
         refine ite_some h (fun h21 h => ?_) (fun h21 h => ?_)
         ·
          rw [decide_eq_true h21]
          refine Gn 1 [(63, (pt b10 5))] J4p ?_
          refine Goes.ld 3 (.tmp 63) 64 3 ⟨b10, 5, none⟩ (.i ((gi x0 x3).X)) (p3.c 0 5) ?_
          refine Gn 3 [(65, .bool (decide ((gi x0 x3).X < 0))), (66, .bool (decide ((gi x0 x3).X < 0))), (67, .bool (decide ((gi x0 x3).X < 0)))] J4q ?_
          refine ite_some h (fun h22 h => ?_) (fun h22 h => ?_)
          ·
           rw [decide_eq_true h22]
           refine Gn 14 [(68, undef), (69, undef), (70, undef), (71, undef), (72, undef), (73, .bool true), (74, .bool true), (75, undef), (76, undef), (77, undef), (78, .bool true), (79, .bool true), (80, undef), (81, undef)] J4r ?_
           refine Gn 5 [(82, undef), (83, undef), (84, undef), (85, .bool true)] J41 ?_
           have p3 := p3.dp 0
           exact Gj 86 [(0, .slice Ax0 x0.length cx0), (3, .i x3), (85, .bool true)] (u4f _ _ h _ _ ((hx.trans z2).trans z3) Ax0 x0.length cx0 p3 (fx0.ext (z2.trans z3)) rfl)
          ·
           rw [decide_eq_false h22]
           refine Gn 1 [(68, (pt b10 5))] J4a ?_
           refine Goes.ld 3 (.tmp 68) 69 3 ⟨b10, 5, none⟩ (.i ((gi x0 x3).X)) (p3.c 0 5) ?_
           refine Gn 5 [(70, .slice Ax0 x0.length cx0), (71, .i (x0.length : Int)), (72, .bool (decide ((gi x0 x3).X ≥ (x0.length : Int)))), (73, .bool (decide ((gi x0 x3).X ≥ (x0.length : Int)))), (74, .bool (decide ((gi x0 x3).X ≥ (x0.length : Int))))] J4s ?_
           refine ite_some h (fun h23 h => ?_) (fun h23 h => ?_)
           ·
            rw [decide_eq_true h23]
            refine Gn 12 [(75, undef), (76, undef), (77, undef), (78, .bool true), (79, .bool true), (80, undef), (81, undef), (82, undef), (83, undef), (84, undef), (85, .bool true)] J41 ?_
            have p3 := p3.dp 0
            exact Gj 86 [(0, .slice Ax0 x0.length cx0), (3, .i x3), (85, .bool true)] (u4f _ _ h _ _ ((hx.trans z2).trans z3) Ax0 x0.length cx0 p3 (fx0.ext (z2.trans z3)) rfl)
           ·
            rw [decide_eq_false h23]
            refine Gn 1 [(75, (pt b10 6))] J4t ?_
            refine Goes.ld 3 (.tmp 75) 76 3 ⟨b10, 6, none⟩ (.i ((gi x0 x3).Y)) (p3.c 0 6) ?_
            refine Gn 3 [(77, .bool (decide ((gi x0 x3).Y < 0))), (78, .bool (decide ((gi x0 x3).Y < 0))), (79, .bool (decide ((gi x0 x3).Y < 0)))] J4u ?_
            refine ite_some h (fun h24 h => ?_) (fun h24 h => ?_)
            ·
             rw [decide_eq_true h24]
             refine Gn 7 [(80, undef), (81, undef), (82, undef), (83, undef), (84, undef), (85, .bool true)] J41 ?_
             have p3 := p3.dp 0
             exact Gj 86 [(0, .slice Ax0 x0.length cx0), (3, .i x3), (85, .bool true)] (u4f _ _ h _ _ ((hx.trans z2).trans z3) Ax0 x0.length cx0 p3 (fx0.ext (z2.trans z3)) rfl)
            ·
             rw [decide_eq_false h24]
             refine Gn 1 [(80, (pt b10 6))] J4v ?_
             refine Goes.ld 3 (.tmp 80) 81 3 ⟨b10, 6, none⟩ (.i ((gi x0 x3).Y)) (p3.c 0 6) ?_
             refine Gn 5 [(82, .slice Ax0 x0.length cx0), (83, .i (x0.length : Int)), (84, .bool (decide ((gi x0 x3).Y ≥ (x0.length : Int)))), (85, .bool (decide ((gi x0 x3).Y ≥ (x0.length : Int))))] J41 ?_
             have p3 := p3.dp 0
             exact Gj 86 [(0, .slice Ax0 x0.length cx0), (3, .i x3), (85, .bool (decide ((gi x0 x3).Y ≥ (x0.length : Int))))] (u4f _ _ h _ _ ((hx.trans z2).trans z3) Ax0 x0.length cx0 p3 (fx0.ext (z2.trans z3)) rfl)
         ·
          rw [decide_eq_false h21]
          refine Gn 14 [(63, undef), (64, undef), (65, undef), (66, .bool true), (67, .bool true), (68, undef), (69, undef), (70, undef), (71, undef), (72, undef), (73, .bool true), (74, .bool true), (75, undef), (76, undef)] J4y ?_
          refine Gn 10 [(77, undef), (78, .bool true), (79, .bool true), (80, undef), (81, undef), (82, undef), (83, undef), (84, undef), (85, .bool true)] J41 ?_
          have p3 := p3.dp 0
          exact Gj 86 [(0, .slice Ax0 x0.length cx0), (3, .i x3), (85, .bool true)] (u4f _ _ h _ _ ((hx.trans z2).trans z3) Ax0 x0.length cx0 p3 (fx0.ext (z2.trans z3)) rfl)
       ·
        rw [decide_eq_false h16]
        refine Gn 14 [(53, undef), (54, undef), (55, undef), (56, undef), (57, undef), (58, undef), (59, undef), (60, undef), (61, .bool true), (62, .bool true), (63, undef), (64, undef), (65, undef), (66, .bool true)] J4z ?_
        refine Gn 14 [(67, .bool true), (68, undef), (69, undef), (70, undef), (71, undef), (72, undef), (73, .bool true), (74, .bool true), (75, undef), (76, undef), (77, undef), (78, .bool true), (79, .bool true), (80, undef)] J4v ?_
        refine Gn 6 [(81, undef), (82, undef), (83, undef), (84, undef), (85, .bool true)] J41 ?_
        have p3 := p3.dp 0
        exact Gj 86 [(0, .slice Ax0 x0.length cx0), (3, .i x3), (85, .bool true)] (u4f _ _ h _ _ ((hx.trans z2).trans z3) Ax0 x0.length cx0 p3 (fx0.ext (z2.trans z3)) rfl)
      ·
       rw [decide_eq_false h15]
       refine Gn 7 [(47, undef), (48, undef), (49, undef), (50, .bool false), (51, .bool false), (52, .bool false), (53, (pt b10 0))] J4n ?_
       refine Goes.ld 3 (.tmp 53) 54 3 ⟨b10, 0, none⟩ (.i ((gi x0 x3).Op)) (p3.c 0 0) ?_
       refine Gn 2 [(55, .bool (!(decide ((gi x0 x3).Op = 2)))), (56, .bool (!(decide ((gi x0 x3).Op = 2))))] J4o ?_
       refine ite_some h (fun h25 h => ?_) (fun h25 h => ?_)
       ·
        rw [decide_eq_true h25]
        refine Gn 7 [(57, undef), (58, undef), (59, undef), (60, .bool false), (61, .bool false), (62, .bool false), (63, (pt b10 5))] J4p ?_
        refine Goes.ld 3 (.tmp 63) 64 3 ⟨b10, 5, none⟩ (.i ((gi x0 x3).X)) (p3.c 0 5) ?_
        refine Gn 3 [(65, .bool (decide ((gi x0 x3).X < 0))), (66, .bool (decide ((gi x0 x3).X < 0))), (67, .bool (decide ((gi x0 x3).X < 0)))] J4q ?_
        refine ite_some h (fun h26 h => ?_) (fun h26 h => ?_)
        ·
         rw [decide_eq_true h26]
         refine Gn 14 [(68, undef), (69, undef), (70, undef), (71, undef), (72, undef), (73, .bool true), (74, .bool true), (75, undef), (76, undef), (77, undef), (78, .bool true), (79, .bool true), (80, undef), (81, undef)] J4r ?_
         refine Gn 5 [(82, undef), (83, undef), (84, undef), (85, .bool true)] J41 ?_
         have p3 := p3.dp 0
         exact Gj 86 [(0, .slice Ax0 x0.length cx0), (3, .i x3), (85, .bool true)] (u4f _ _ h _ _ ((hx.trans z2).trans z3) Ax0 x0.length cx0 p3 (fx0.ext (z2.trans z3)) rfl)
        ·
         rw [decide_eq_false h26]
         refine Gn 1 [(68, (pt b10 5))] J4a ?_
         refine Goes.ld 3 (.tmp 68) 69 3 ⟨b10, 5, none⟩ (.i ((gi x0 x3).X)) (p3.c 0 5) ?_
         refine Gn 5 [(70, .slice Ax0 x0.length cx0), (71, .i (x0.length : Int)), (72, .bool (decide ((gi x0 x3).X ≥ (x0.length : Int)))), (73, .bool (decide ((gi x0 x3).X ≥ (x0.length : Int)))), (74, .bool (decide ((gi x0 x3).X ≥ (x0.length : Int))))] J4s ?_
         refine ite_some h (fun h27 h => ?_) (fun h27 h => ?_)
         ·
          rw [decide_eq_true h27]
          refine Gn 12 [(75, undef), (76, undef), (77, undef), (78, .bool true), (79, .bool true), (80, undef), (81, undef), (82, undef), (83, undef), (84, undef), (85, .bool true)] J41 ?_
          have p3 := p3.dp 0
          exact Gj 86 [(0, .slice Ax0 x0.length cx0), (3, .i x3), (85, .bool true)] (u4f _ _ h _ _ ((hx.trans z2).trans z3) Ax0 x0.length cx0 p3 (fx0.ext (z2.trans z3)) rfl)
         ·
          rw [decide_eq_false h27]
          refine Gn 1 [(75, (pt b10 6))] J4t ?_
          refine Goes.ld 3 (.tmp 75) 76 3 ⟨b10, 6, none⟩ (.i ((gi x0 x3).Y)) (p3.c 0 6) ?_
          refine Gn 3 [(77, .bool (decide ((gi x0 x3).Y < 0))), (78, .bool (decide ((gi x0 x3).Y < 0))), (79, .bool (decide ((gi x0 x3).Y < 0)))] J4u ?_
          refine ite_some h (fun h28 h => ?_) (fun h28 h => ?_)
          ·
           rw [decide_eq_true h28]
           refine Gn 7 [(80, undef), (81, undef), (82, undef), (83, undef), (84, undef), (85, .bool true)] J41 ?_
           have p3 := p3.dp 0
           exact Gj 86 [(0, .slice Ax0 x0.length cx0), (3, .i x3), (85, .bool true)] (u4f _ _ h _ _ ((hx.trans z2).trans z3) Ax0 x0.length cx0 p3 (fx0.ext (z2.trans z3)) rfl)
          ·
           rw [decide_eq_false h28]
           refine Gn 1 [(80, (pt b10 6))] J4v ?_
           refine Goes.ld 3 (.tmp 80) 81 3 ⟨b10, 6, none⟩ (.i ((gi x0 x3).Y)) (p3.c 0 6) ?_
           refine Gn 5 [(82, .slice Ax0 x0.length cx0), (83, .i (x0.length : Int)), (84, .bool (decide ((gi x0 x3).Y ≥ (x0.length : Int)))), (85, .bool (decide ((gi x0 x3).Y ≥ (x0.length : Int))))] J41 ?_
           have p3 := p3.dp 0
           exact Gj 86 [(0, .slice Ax0 x0.length cx0), (3, .i x3), (85, .bool (decide ((gi x0 x3).Y ≥ (x0.length : Int))))] (u4f _ _ h _ _ ((hx.trans z2).trans z3) Ax0 x0.length cx0 p3 (fx0.ext (z2.trans z3)) rfl)
       ·
        rw [decide_eq_false h25]
        refine Gn 1 [(57, (pt b10 6))] J4w ?_
        refine Goes.ld 3 (.tmp 57) 58 3 ⟨b10, 6, none⟩ (.i ((gi x0 x3).Y)) (p3.c 0 6) ?_
        refine Gn 4 [(59, .bool (!(decide ((gi x0 x3).Y = 0)))), (60, .bool (!(decide ((gi x0 x3).Y = 0)))), (61, .bool (!(decide ((gi x0 x3).Y = 0)))), (62, .bool (!(decide ((gi x0 x3).Y = 0))))] J4x ?_
        refine ite_some h (fun h29 h => ?_) (fun h29 h => ?_)
        ·
         rw [decide_eq_true h29]
         refine Gn 1 [(63, (pt b10 5))] J4p ?_
         refine Goes.ld 3 (.tmp 63) 64 3 ⟨b10, 5, none⟩ (.i ((gi x0 x3).X)) (p3.c 0 5) ?_
         refine Gn 3 [(65, .bool (decide ((gi x0 x3).X < 0))), (66, .bool (decide ((gi x0 x3).X < 0))), (67, .bool (decide ((gi x0 x3).X < 0)))] J4q ?_
         refine ite_some h (fun h30 h => ?_) (fun h30 h => ?_)
         ·
          rw [decide_eq_true h30]
          refine Gn 14 [(68, undef), (69, undef), (70, undef), (71, undef), (72, undef), (73, .bool true), (74, .bool true), (75, undef), (76, undef), (77, undef), (78, .bool true), (79, .bool true), (80, undef), (81, undef)] J4r ?_
          refine Gn 5 [(82, undef), (83, undef), (84, undef), (85, .bool true)] J41 ?_
          have p3 := p3.dp 0
          exact Gj 86 [(0, .slice Ax0 x0.length cx0), (3, .i x3), (85, .bool true)] (u4f _ _ h _ _ ((hx.trans z2).trans z3) Ax0 x0.length cx0 p3 (fx0.ext (z2.trans z3)) rfl)
         ·
          rw [decide_eq_false h30]
          refine Gn 1 [(68, (pt b10 5))] J4a ?_
          refine Goes.ld 3 (.tmp 68) 69 3 ⟨b10, 5, none⟩ (.i ((gi x0 x3).X)) (p3.c 0 5) ?_
          refine Gn 5 [(70, .slice Ax0 x0.length cx0), (71, .i (x0.length : Int)), (72, .bool (decide ((gi x0 x3).X ≥ (x0.length : Int)))), (73, .bool (decide ((gi x0 x3).X ≥ (x0.length : Int)))), (74, .bool (decide ((gi x0 x3).X ≥ (x0.length : Int))))] J4s ?_
          refine ite_some h (fun h31 h => ?_) (fun h31 h => ?_)
          ·
           rw [decide_eq_true h31]
           refine Gn 12 [(75, undef), (76, undef), (77, undef), (78, .bool true), (79, .bool true), (80, undef), (81, undef), (82, undef), (83, undef), (84, undef), (85, .bool true)] J41 ?_
           have p3 := p3.dp 0
           exact Gj 86 [(0, .slice Ax0 x0.length cx0), (3, .i x3), (85, .bool true)] (u4f _ _ h _ _ ((hx.trans z2).trans z3) Ax0 x0.length cx0 p3 (fx0.ext (z2.trans z3)) rfl)
          ·
           rw [decide_eq_false h31]
           refine Gn 1 [(75, (pt b10 6))] J4t ?_
           refine Goes.ld 3 (.tmp 75) 76 3 ⟨b10, 6, none⟩ (.i ((gi x0 x3).Y)) (p3.c 0 6) ?_
           refine Gn 3 [(77, .bool (decide ((gi x0 x3).Y < 0))), (78, .bool (decide ((gi x0 x3).Y < 0))), (79, .bool (decide ((gi x0 x3).Y < 0)))] J4u ?_
           refine ite_some h (fun h32 h => ?_) (fun h32 h => ?_)
           ·
            rw [decide_eq_true h32]
            refine Gn 7 [(80, undef), (81, undef), (82, undef), (83, undef), (84, undef), (85, .bool true)] J41 ?_
            have p3 := p3.dp 0
            exact Gj 86 [(0, .slice Ax0 x0.length cx0), (3, .i x3), (85, .bool true)] (u4f _ _ h _ _ ((hx.trans z2).trans z3) Ax0 x0.length cx0 p3 (fx0.ext (z2.trans z3)) rfl)
           ·
            rw [decide_eq_false h32]
            refine Gn 1 [(80, (pt b10 6))] J4v ?_
            refine Goes.ld 3 (.tmp 80) 81 3 ⟨b10, 6, none⟩ (.i ((gi x0 x3).Y)) (p3.c 0 6) ?_
            refine Gn 5 [(82, .slice Ax0 x0.length cx0), (83, .i (x0.length : Int)), (84, .bool (decide ((gi x0 x3).Y ≥ (x0.length : Int)))), (85, .bool (decide ((gi x0 x3).Y ≥ (x0.length : Int))))] J41 ?_
            have p3 := p3.dp 0
            exact Gj 86 [(0, .slice Ax0 x0.length cx0), (3, .i x3), (85, .bool (decide ((gi x0 x3).Y ≥ (x0.length : Int))))] (u4f _ _ h _ _ ((hx.trans z2).trans z3) Ax0 x0.length cx0 p3 (fx0.ext (z2.trans z3)) rfl)
        ·
         rw [decide_eq_false h29]
         refine Gn 14 [(63, undef), (64, undef), (65, undef), (66, .bool true), (67, .bool true), (68, undef), (69, undef), (70, undef), (71, undef), (72, undef), (73, .bool true), (74, .bool true), (75, undef), (76, undef)] J4y ?_
         refine Gn 10 [(77, undef), (78, .bool true), (79, .bool true), (80, undef), (81, undef), (82, undef), (83, undef), (84, undef), (85, .bool true)] J41 ?_
         have p3 := p3.dp 0
         exact Gj 86 [(0, .slice Ax0 x0.length cx0), (3, .i x3), (85, .bool true)] (u4f _ _ h _ _ ((hx.trans z2).trans z3) Ax0 x0.length cx0 p3 (fx0.ext (z2.trans z3)) rfl)
     ·
      rw [decide_eq_false h14]
      refine Gn 1 [(36, (pt b10 1))] J50 ?_
      refine Goes.ldN 44 (.tmp 36) 37 44 ⟨b10, 1, none⟩ (U4 ((gi x0 x3).Set) []) (p3.pa 0 1) ?_
      refine Gn 1 [(38, .agg #[.u 0, .u 0, .u 0, .u 0])] J51 ?_
      refine Op_.neA 44 (.tmp 37) (.tmp 38) 44 39 4 42 4 .u64 (us := ((U4 ((gi x0 x3).Set) []) : List Value)) (vs := ([.u 0, .u 0, .u 0, .u 0] : List Value)) Goes.v (by kernel_rfl) (by kernel_rfl) (by kernel_rfl) (by kernel_rfl) (by kernel_rfl) (by kernel_rfl) (by kernel_rfl) (els_mk4 (S := S1) (w := w3) (k := .u64) l8) (show Els (kInt .u64) S1 w3 ([.u 0, .u 0, .u 0, .u 0] : List Value) _ from (Els.cons (K := (kInt .u64)) (vs := [.u 0]) (x := 0) rfl (Els.cons (K := (kInt .u64)) (vs := [.u 0]) (x := 0) rfl (Els.cons (K := (kInt .u64)) (vs := [.u 0]) (x := 0) rfl (Els.cons (K := (kInt .u64)) (vs := [.u 0]) (x := 0) rfl Els.nil))))) (Els.len1 (els_mk4 (S := S1) (w := w3) (k := .u64) l8) rfl rfl) (Els.len1 (show Els (kInt .u64) S1 w3 ([.u 0, .u 0, .u 0, .u 0] : List Value) _ from (Els.cons (K := (kInt .u64)) (vs := [.u 0]) (x := 0) rfl (Els.cons (K := (kInt .u64)) (vs := [.u 0]) (x := 0) rfl (Els.cons (K := (kInt .u64)) (vs := [.u 0]) (x := 0) rfl (Els.cons (K := (kInt .u64)) (vs := [.u 0]) (x := 0) rfl Els.nil))))) rfl rfl) ?_
      refine Gn 3 [(40, .bool (!(decide (((gi x0 x3).Set) = [0, 0, 0, 0])))), (41, .bool (!(decide (((gi x0 x3).Set) = [0, 0, 0, 0])))), (42, .bool (!(decide (((gi x0 x3).Set) = [0, 0, 0, 0]))))] J52 ?_
      refine ite_some h (fun h33 h => ?_) (fun h33 h => ?_)
      ·
       rw [decide_eq_true h33]
       refine Gn 1 [(43, (pt b10 0))] J4j ?_
       refine Goes.ld 3 (.tmp 43) 44 3 ⟨b10, 0, none⟩ (.i ((gi x0 x3).Op)) (p3.c 0 0) ?_
       refine Gn 2 [(45, .bool (decide ((gi x0 x3).Op = 3))), (46, .bool (decide ((gi x0 x3).Op = 3)))] J4k ?_
       refine ite_some h (fun h34 h => ?_) (fun h34 h => ?_)
       ·
        rw [decide_eq_true h34]
        refine Gn 1 [(47, (pt b10 5))] J4l ?_
        refine Goes.ld 3 (.tmp 47) 48 3 ⟨b10, 5, none⟩ (.i ((gi x0 x3).X)) (p3.c 0 5) ?_
        refine Gn 4 [(49, .bool (!(decide ((gi x0 x3).X = 0)))), (50, .bool (!(decide ((gi x0 x3).X = 0)))), (51, .bool (!(decide ((gi x0 x3).X = 0)))), (52, .bool (!(decide ((gi x0 x3).X = 0))))] J4m ?_
        refine ite_some h (fun h35 h => ?_) (fun h35 h => ?_)
        ·
         rw [decide_eq_true h35]
         refine Gn 1 [(53, (pt b10 0))] J4n ?_
         refine Goes.ld 3 (.tmp 53) 54 3 ⟨b10, 0, none⟩ (.i ((gi x0 x3).Op)) (p3.c 0 0) ?_
         refine Gn 2 [(55, .bool (!(decide ((gi x0 x3).Op = 2)))), (56, .bool (!(decide ((gi x0 x3).Op = 2))))] J4o ?_
         refine ite_some h (fun h36 h => ?_) (fun h36 h => ?_)
         ·
          rw [decide_eq_true h36]
          refine Gn 7 [(57, undef), (58, undef), (59, undef), (60, .bool false), (61, .bool false), (62, .bool false), (63, (pt b10 5))] J4p ?_
          refine Goes.ld 3 (.tmp 63) 64 3 ⟨b10, 5, none⟩ (.i ((gi x0 x3).X)) (p3.c 0 5) ?_
          refine Gn 3 [(65, .bool (decide ((gi x0 x3).X < 0))), (66, .bool (decide ((gi x0 x3).X < 0))), (67, .bool (decide ((gi x0 x3).X < 0)))] J4q ?_
          refine ite_some h (fun h37 h => ?_) (fun h37 h => ?_)
          ·
           rw [decide_eq_true h37]
           refine Gn 14 [(68, undef), (69, undef), (70, undef), (71, undef), (72, undef), (73, .bool true), (74, .bool true), (75, undef), (76, undef), (77, undef), (78, .bool true), (79, .bool true), (80, undef), (81, undef)] J4r ?_
           refine Gn 5 [(82, undef), (83, undef), (84, undef), (85, .bool true)] J41 ?_
           have p3 := p3.dp 0
           exact Gj 86 [(0, .slice Ax0 x0.length cx0), (3, .i x3), (85, .bool true)] (u4f _ _ h _ _ ((hx.trans z2).trans z3) Ax0 x0.length cx0 p3 (fx0.ext (z2.trans z3)) rfl)
          ·
           rw [decide_eq_false h37]
           refine Gn 1 [(68, (pt b10 5))] J4a ?_
           refine Goes.ld 3 (.tmp 68) 69 3 ⟨b10, 5, none⟩ (.i ((gi x0 x3).X)) (p3.c 0 5) ?_
           refine Gn 5 [(70, .slice Ax0 x0.length cx0), (71, .i (x0.length : Int)), (72, .bool (decide ((gi x0 x3).X ≥ (x0.length : Int)))), (73, .bool (decide ((gi x0 x3).X ≥ (x0.length : Int)))), (74, .bool (decide ((gi x0 x3).X ≥ (x0.length : Int))))] J4s ?_
           refine ite_some h (fun h38 h => ?_) (fun h38 h => ?_)
           ·
            rw [decide_eq_true h38]
            refine Gn 12 [(75, undef), (76, undef), (77, undef), (78, .bool true), (79, .bool true), (80, undef), (81, undef), (82, undef), (83, undef), (84, undef), (85, .bool true)] J41 ?_
            have p3 := p3.dp 0
            exact Gj 86 [(0, .slice Ax0 x0.length cx0), (3, .i x3), (85, .bool true)] (u4f _ _ h _ _ ((hx.trans z2).trans z3) Ax0 x0.length cx0 p3 (fx0.ext (z2.trans z3)) rfl)
           ·
            rw [decide_eq_false h38]
            refine Gn 1 [(75, (pt b10 6))] J4t ?_
            refine Goes.ld 3 (.tmp 75) 76 3 ⟨b10, 6, none⟩ (.i ((gi x0 x3).Y)) (p3.c 0 6) ?_
            refine Gn 3 [(77, .bool (decide ((gi x0 x3).Y < 0))), (78, .bool (decide ((gi x0 x3).Y < 0))), (79, .bool (decide ((gi x0 x3).Y < 0)))] J4u ?_
            refine ite_some h (fun h39 h => ?_) (fun h39 h => ?_)
            ·
             rw [decide_eq_true h39]
             refine Gn 7 [(80, undef), (81, undef), (82, undef), (83, undef), (84, undef), (85, .bool true)] J41 ?_
             have p3 := p3.dp 0
             exact Gj 86 [(0, .slice Ax0 x0.length cx0), (3, .i x3), (85, .bool true)] (u4f _ _ h _ _ ((hx.trans z2).trans z3) Ax0 x0.length cx0 p3 (fx0.ext (z2.trans z3)) rfl)
            ·
             rw [decide_eq_false h39]
             refine Gn 1 [(80, (pt b10 6))] J4v ?_
             refine Goes.ld 3 (.tmp 80) 81 3 ⟨b10, 6, none⟩ (.i ((gi x0 x3).Y)) (p3.c 0 6) ?_
             refine Gn 5 [(82, .slice Ax0 x0.length cx0), (83, .i (x0.length : Int)), (84, .bool (decide ((gi x0 x3).Y ≥ (x0.length : Int)))), (85, .bool (decide ((gi x0 x3).Y ≥ (x0.length : Int))))] J41 ?_
             have p3 := p3.dp 0
             exact Gj 86 [(0, .slice Ax0 x0.length cx0), (3, .i x3), (85, .bool (decide ((gi x0 x3).Y ≥ (x0.length : Int))))] (u4f _ _ h _ _ ((hx.trans z2).trans z3) Ax0 x0.length cx0 p3 (fx0.ext (z2.trans z3)) rfl)
         ·
          rw [decide_eq_false h36]
          refine Gn 1 [(57, (pt b10 6))] J4w ?_
          refine Goes.ld 3 (.tmp 57) 58 3 ⟨b10, 6, none⟩ (.i ((gi x0 x3).Y)) (p3.c 0 6) ?_
          refine Gn 4 [(59, .bool (!(decide ((gi x0 x3).Y = 0)))), (60, .bool (!(decide ((gi x0 x3).Y = 0)))), (61, .bool (!(decide ((gi x0 x3).Y = 0)))), (62, .bool (!(decide ((gi x0 x3).Y = 0))))] J4x ?_
          refine ite_some h (fun h40 h => ?_) (fun h40 h => ?_)
          ·
           rw [decide_eq_true h40]
           refine Gn 1 [(63, (pt b10 5))] J4p ?_
           refine Goes.ld 3 (.tmp 63) 64 3 ⟨b10, 5, none⟩ (.i ((gi x0 x3).X)) (p3.c 0 5) ?_
           refine Gn 3 [(65, .bool (decide ((gi x0 x3).X < 0))), (66, .bool (decide ((gi x0 x3).X < 0))), (67, .bool (decide ((gi x0 x3).X < 0)))] J4q ?_
           refine ite_some h (fun h41 h => ?_) (fun h41 h => ?_)
           ·
            rw [decide_eq_true h41]
            refine Gn 14 [(68, undef), (69, undef), (70, undef), (71, undef), (72, undef), (73, .bool true), (74, .bool true), (75, undef), (76, undef), (77, undef), (78, .bool true), (79, .bool true), (80, undef), (81, undef)] J4r ?_
            refine Gn 5 [(82, undef), (83, undef), (84, undef), (85, .bool true)] J41 ?_
            have p3 := p3.dp 0
            exact Gj 86 [(0, .slice Ax0 x0.length cx0), (3, .i x3), (85, .bool true)] (u4f _ _ h _ _ ((hx.trans z2).trans z3) Ax0 x0.length cx0 p3 (fx0.ext (z2.trans z3)) rfl)
           ·
            rw [decide_eq_false h41]
            refine Gn 1 [(68, (pt b10 5))] J4a ?_
            refine Goes.ld 3 (.tmp 68) 69 3 ⟨b10, 5, none⟩ (.i ((gi x0 x3).X)) (p3.c 0 5) ?_
            refine Gn 5 [(70, .slice Ax0 x0.length cx0), (71, .i (x0.length : Int)), (72, .bool (decide ((gi x0 x3).X ≥ (x0.length : Int)))), (73, .bool (decide ((gi x0 x3).X ≥ (x0.length : Int)))), (74, .bool (decide ((gi x0 x3).X ≥ (x0.length : Int))))] J4s ?_
            refine ite_some h (fun h42 h => ?_) (fun h42 h => ?_)
            ·
             rw [decide_eq_true h42]
             refine Gn 12 [(75, undef), (76, undef), (77, undef), (78, .bool true), (79, .bool true), (80, undef), (81, undef), (82, undef), (83, undef), (84, undef), (85, .bool true)] J41 ?_
             have p3 := p3.dp 0
             exact Gj 86 [(0, .slice Ax0 x0.length cx0), (3, .i x3), (85, .bool true)] (u4f _ _ h _ _ ((hx.trans z2).trans z3) Ax0 x0.length cx0 p3 (fx0.ext (z2.trans z3)) rfl)
            ·
             rw [decide_eq_false h42]
             refine Gn 1 [(75, (pt b10 6))] J4t ?_
             refine Goes.ld 3 (.tmp 75) 76 3 ⟨b10, 6, none⟩ (.i ((gi x0 x3).Y)) (p3.c 0 6) ?_
             refine Gn 3 [(77, .bool (decide ((gi x0 x3).Y < 0))), (78, .bool (decide ((gi x0 x3).Y < 0))), (79, .bool (decide ((gi x0 x3).Y < 0)))] J4u ?_
             refine ite_some h (fun h43 h => ?_) (fun h43 h => ?_)
             ·
              rw [decide_eq_true h43]
              refine Gn 7 [(80, undef), (81, undef), (82, undef), (83, undef), (84, undef), (85, .bool true)] J41 ?_
              have p3 := p3.dp 0
              exact Gj 86 [(0, .slice Ax0 x0.length cx0), (3, .i x3), (85, .bool true)] (u4f _ _ h _ _ ((hx.trans z2).trans z3) Ax0 x0.length cx0 p3 (fx0.ext (z2.trans z3)) rfl)
             ·
              rw [decide_eq_false h43]
              refine Gn 1 [(80, (pt b10 6))] J4v ?_
              refine Goes.ld 3 (.tmp 80) 81 3 ⟨b10, 6, none⟩ (.i ((gi x0 x3).Y)) (p3.c 0 6) ?_
              refine Gn 5 [(82, .slice Ax0 x0.length cx0), (83, .i (x0.length : Int)), (84, .bool (decide ((gi x0 x3).Y ≥ (x0.length : Int)))), (85, .bool (decide ((gi x0 x3).Y ≥ (x0.length : Int))))] J41 ?_
              have p3 := p3.dp 0
              exact Gj 86 [(0, .slice Ax0 x0.length cx0), (3, .i x3), (85, .bool (decide ((gi x0 x3).Y ≥ (x0.length : Int))))] (u4f _ _ h _ _ ((hx.trans z2).trans z3) Ax0 x0.length cx0 p3 (fx0.ext (z2.trans z3)) rfl)
          ·
           rw [decide_eq_false h40]
           refine Gn 14 [(63, undef), (64, undef), (65, undef), (66, .bool true), (67, .bool true), (68, undef), (69, undef), (70, undef), (71, undef), (72, undef), (73, .bool true), (74, .bool true), (75, undef), (76, undef)] J4y ?_
           refine Gn 10 [(77, undef), (78, .bool true), (79, .bool true), (80, undef), (81, undef), (82, undef), (83, undef), (84, undef), (85, .bool true)] J41 ?_
           have p3 := p3.dp 0
           exact Gj 86 [(0, .slice Ax0 x0.length cx0), (3, .i x3), (85, .bool true)] (u4f _ _ h _ _ ((hx.trans z2).trans z3) Ax0 x0.length cx0 p3 (fx0.ext (z2.trans z3)) rfl)
        ·
         rw [decide_eq_false h35]
         refine Gn 14 [(53, undef), (54, undef), (55, undef), (56, undef), (57, undef), (58, undef), (59, undef), (60, undef), (61, .bool true), (62, .bool true), (63, undef), (64, undef), (65, undef), (66, .bool true)] J4z ?_
         refine Gn 14 [(67, .bool true), (68, undef), (69, undef), (70, undef), (71, undef), (72, undef), (73, .bool true), (74, .bool true), (75, undef), (76, undef), (77, undef), (78, .bool true), (79, .bool true), (80, undef)] J4v ?_
         refine Gn 6 [(81, undef), (82, undef), (83, undef), (84, undef), (85, .bool true)] J41 ?_
         have p3 := p3.dp 0
         exact Gj 86 [(0, .slice Ax0 x0.length cx0), (3, .i x3), (85, .bool true)] (u4f _ _ h _ _ ((hx.trans z2).trans z3) Ax0 x0.length cx0 p3 (fx0.ext (z2.trans z3)) rfl)
       ·
        rw [decide_eq_false h34]
        refine Gn 7 [(47, undef), (48, undef), (49, undef), (50, .bool false), (51, .bool false), (52, .bool false), (53, (pt b10 0))] J4n ?_
        refine Goes.ld 3 (.tmp 53) 54 3 ⟨b10, 0, none⟩ (.i ((gi x0 x3).Op)) (p3.c 0 0) ?_
        refine Gn 2 [(55, .bool (!(decide ((gi x0 x3).Op = 2)))), (56, .bool (!(decide ((gi x0 x3).Op = 2))))] J4o ?_
        refine ite_some h (fun h44 h => ?_) (fun h44 h => ?_)
        ·
         rw [decide_eq_true h44]
         refine Gn 7 [(57, undef), (58, undef), (59, undef), (60, .bool false), (61, .bool false), (62, .bool false), (63, (pt b10 5))] J4p ?_
         refine Goes.ld 3 (.tmp 63) 64 3 ⟨b10, 5, none⟩ (.i ((gi x0 x3).X)) (p3.c 0 5) ?_
         refine Gn 3 [(65, .bool (decide ((gi x0 x3).X < 0))), (66, .bool (decide ((gi x0 x3).X < 0))), (67, .bool (decide ((gi x0 x3).X < 0)))] J4q ?_
         refine ite_some h (fun h45 h => ?_) (fun h45 h => ?_)
         ·
          rw [decide_eq_true h45]
          refine Gn 14 [(68, undef), (69, undef), (70, undef), (71, undef), (72, undef), (73, .bool true), (74, .bool true), (75, undef), (76, undef), (77, undef), (78, .bool true), (79, .bool true), (80, undef), (81, undef)] J4r ?_
          refine Gn 5 [(82, undef), (83, undef), (84, undef), (85, .bool true)] J41 ?_
          have p3 := p3.dp 0
          exact Gj 86 [(0, .slice Ax0 x0.length cx0), (3, .i x3), (85, .bool true)] (u4f _ _ h _ _ ((hx.trans z2).trans z3) Ax0 x0.length cx0 p3 (fx0.ext (z2.trans z3)) rfl)
         ·
          rw [decide_eq_false h45]
          refine Gn 1 [(68, (pt b10 5))] J4a ?_
          refine Goes.ld 3 (.tmp 68) 69 3 ⟨b10, 5, none⟩ (.i ((gi x0 x3).X)) (p3.c 0 5) ?_
          refine Gn 5 [(70, .slice Ax0 x0.length cx0), (71, .i (x0.length : Int)), (72, .bool (decide ((gi x0 x3).X ≥ (x0.length : Int)))), (73, .bool (decide ((gi x0 x3).X ≥ (x0.length : Int)))), (74, .bool (decide ((gi x0 x3).X ≥ (x0.length : Int))))] J4s ?_
          refine ite_some h (fun h46 h => ?_) (fun h46 h => ?_)
          ·
           rw [decide_eq_true h46]
           refine Gn 12 [(75, undef), (76, undef), (77, undef), (78, .bool true), (79, .bool true), (80, undef), (81, undef), (82, undef), (83, undef), (84, undef), (85, .bool true)] J41 ?_
           have p3 := p3.dp 0
           exact Gj 86 [(0, .slice Ax0 x0.length cx0), (3, .i x3), (85, .bool true)] (u4f _ _ h _ _ ((hx.trans z2).trans z3) Ax0 x0.length cx0 p3 (fx0.ext (z2.trans z3)) rfl)
          ·
           rw [decide_eq_false h46]
           refine Gn 1 [(75, (pt b10 6))] J4t ?_
           refine Goes.ld 3 (.tmp 75) 76 3 ⟨b10, 6, none⟩ (.i ((gi x0 x3).Y)) (p3.c 0 6) ?_
           refine Gn 3 [(77, .bool (decide ((gi x0 x3).Y < 0))), (78, .bool (decide ((gi x0 x3).Y < 0))), (79, .bool (decide ((gi x0 x3).Y < 0)))] J4u ?_
           refine ite_some h (fun h47 h => ?_) (fun h47 h => ?_)
           ·
            rw [decide_eq_true h47]
            refine Gn 7 [(80, undef), (81, undef), (82, undef), (83, undef), (84, undef), (85, .bool true)] J41 ?_
            have p3 := p3.dp 0
            exact Gj 86 [(0, .slice Ax0 x0.length cx0), (3, .i x3), (85, .bool true)] (u4f _ _ h _ _ ((hx.trans z2).trans z3) Ax0 x0.length cx0 p3 (fx0.ext (z2.trans z3)) rfl)
           ·
            rw [decide_eq_false h47]
            refine Gn 1 [(80, (pt b10 6))] J4v ?_
            refine Goes.ld 3 (.tmp 80) 81 3 ⟨b10, 6, none⟩ (.i ((gi x0 x3).Y)) (p3.c 0 6) ?_
            refine Gn 5 [(82, .slice Ax0 x0.length cx0), (83, .i (x0.length : Int)), (84, .bool (decide ((gi x0 x3).Y ≥ (x0.length : Int)))), (85, .bool (decide ((gi x0 x3).Y ≥ (x0.length : Int))))] J41 ?_
            have p3 := p3.dp 0
            exact Gj 86 [(0, .slice Ax0 x0.length cx0), (3, .i x3), (85, .bool (decide ((gi x0 x3).Y ≥ (x0.length : Int))))] (u4f _ _ h _ _ ((hx.trans z2).trans z3) Ax0 x0.length cx0 p3 (fx0.ext (z2.trans z3)) rfl)
        ·
         rw [decide_eq_false h44]
         refine Gn 1 [(57, (pt b10 6))] J4w ?_
         refine Goes.ld 3 (.tmp 57) 58 3 ⟨b10, 6, none⟩ (.i ((gi x0 x3).Y)) (p3.c 0 6) ?_
         refine Gn 4 [(59, .bool (!(decide ((gi x0 x3).Y = 0)))), (60, .bool (!(decide ((gi x0 x3).Y = 0)))), (61, .bool (!(decide ((gi x0 x3).Y = 0)))), (62, .bool (!(decide ((gi x0 x3).Y = 0))))] J4x ?_
         refine ite_some h (fun h48 h => ?_) (fun h48 h => ?_)
         ·
          rw [decide_eq_true h48]
          refine Gn 1 [(63, (pt b10 5))] J4p ?_
          refine Goes.ld 3 (.tmp 63) 64 3 ⟨b10, 5, none⟩ (.i ((gi x0 x3).X)) (p3.c 0 5) ?_
          refine Gn 3 [(65, .bool (decide ((gi x0 x3).X < 0))), (66, .bool (decide ((gi x0 x3).X < 0))), (67, .bool (decide ((gi x0 x3).X < 0)))] J4q ?_
          refine ite_some h (fun h49 h => ?_) (fun h49 h => ?_)
          ·
           rw [decide_eq_true h49]
           refine Gn 14 [(68, undef), (69, undef), (70, undef), (71, undef), (72, undef), (73, .bool true), (74, .bool true), (75, undef), (76, undef), (77, undef), (78, .bool true), (79, .bool true), (80, undef), (81, undef)] J4r ?_
           refine Gn 5 [(82, undef), (83, undef), (84, undef), (85, .bool true)] J41 ?_
           have p3 := p3.dp 0
           exact Gj 86 [(0, .slice Ax0 x0.length cx0), (3, .i x3), (85, .bool true)] (u4f _ _ h _ _ ((hx.trans z2).trans z3) Ax0 x0.length cx0 p3 (fx0.ext (z2.trans z3)) rfl)
          ·
           rw [decide_eq_false h49]
           refine Gn 1 [(68, (pt b10 5))] J4a ?_
           refine Goes.ld 3 (.tmp 68) 69 3 ⟨b10, 5, none⟩ (.i ((gi x0 x3).X)) (p3.c 0 5) ?_
           refine Gn 5 [(70, .slice Ax0 x0.length cx0), (71, .i (x0.length : Int)), (72, .bool (decide ((gi x0 x3).X ≥ (x0.length : Int)))), (73, .bool (decide ((gi x0 x3).X ≥ (x0.length : Int)))), (74, .bool (decide ((gi x0 x3).X ≥ (x0.length : Int))))] J4s ?_
           refine ite_some h (fun h50 h => ?_) (fun h50 h => ?_)
           ·
            rw [decide_eq_true h50]
            refine Gn 12 [(75, undef), (76, undef), (77, undef), (78, .bool true), (79, .bool true), (80, undef), (81, undef), (82, undef), (83, undef), (84, undef), (85, .bool true)] J41 ?_
            have p3 := p3.dp 0
            exact Gj 86 [(0, .slice Ax0 x0.length cx0), (3, .i x3), (85, .bool true)] (u4f _ _ h _ _ ((hx.trans z2).trans z3) Ax0 x0.length cx0 p3 (fx0.ext (z2.trans z3)) rfl)
           ·
            rw [decide_eq_false h50]
            refine Gn 1 [(75, (pt b10 6))] J4t ?_
            refine Goes.ld 3 (.tmp 75) 76 3 ⟨b10, 6, none⟩ (.i ((gi x0 x3).Y)) (p3.c 0 6) ?_
            refine Gn 3 [(77, .bool (decide ((gi x0 x3).Y < 0))), (78, .bool (decide ((gi x0 x3).Y < 0))), (79, .bool (decide ((gi x0 x3).Y < 0)))] J4u ?_
            refine ite_some h (fun h51 h => ?_) (fun h51 h => ?_)
            ·
             rw [decide_eq_true h51]
             refine Gn 7 [(80, undef), (81, undef), (82, undef), (83, undef), (84, undef), (85, .bool true)] J41 ?_
             have p3 := p3.dp 0
             exact Gj 86 [(0, .slice Ax0 x0.length cx0), (3, .i x3), (85, .bool true)] (u4f _ _ h _ _ ((hx.trans z2).trans z3) Ax0 x0.length cx0 p3 (fx0.ext (z2.trans z3)) rfl)
            ·
             rw [decide_eq_false h51]
             refine Gn 1 [(80, (pt b10 6))] J4v ?_
             refine Goes.ld 3 (.tmp 80) 81 3 ⟨b10, 6, none⟩ (.i ((gi x0 x3).Y)) (p3.c 0 6) ?_
             refine Gn 5 [(82, .slice Ax0 x0.length cx0), (83, .i (x0.length : Int)), (84, .bool (decide ((gi x0 x3).Y ≥ (x0.length : Int)))), (85, .bool (decide ((gi x0 x3).Y ≥ (x0.length : Int))))] J41 ?_
             have p3 := p3.dp 0
             exact Gj 86 [(0, .slice Ax0 x0.length cx0), (3, .i x3), (85, .bool (decide ((gi x0 x3).Y ≥ (x0.length : Int))))] (u4f _ _ h _ _ ((hx.trans z2).trans z3) Ax0 x0.length cx0 p3 (fx0.ext (z2.trans z3)) rfl)
         ·
          rw [decide_eq_false h48]
          refine Gn 14 [(63, undef), (64, undef), (65, undef), (66, .bool true), (67, .bool true), (68, undef), (69, undef), (70, undef), (71, undef), (72, undef), (73, .bool true), (74, .bool true), (75, undef), (76, undef)] J4y ?_
          refine Gn 10 [(77, undef), (78, .bool true), (79, .bool true), (80, undef), (81, undef), (82, undef), (83, undef), (84, undef), (85, .bool true)] J41 ?_
          have p3 := p3.dp 0
          exact Gj 86 [(0, .slice Ax0 x0.length cx0), (3, .i x3), (85, .bool true)] (u4f _ _ h _ _ ((hx.trans z2).trans z3) Ax0 x0.length cx0 p3 (fx0.ext (z2.trans z3)) rfl)
      ·
       rw [decide_eq_false h33]
       refine Gn 14 [(43, undef), (44, undef), (45, undef), (46, undef), (47, undef), (48, undef), (49, undef), (50, undef), (51, .bool true), (52, .bool true), (53, undef), (54, undef), (55, undef), (56, undef)] J4o ?_
       refine Gn 14 [(57, undef), (58, undef), (59, undef), (60, undef), (61, .bool true), (62, .bool true), (63, undef), (64, undef), (65, undef), (66, .bool true), (67, .bool true), (68, undef), (69, undef), (70, undef)] J53 ?_
       refine Gn 14 [(71, undef), (72, undef), (73, .bool true), (74, .bool true), (75, undef), (76, undef), (77, undef), (78, .bool true), (79, .bool true), (80, undef), (81, undef), (82, undef), (83, undef), (84, undef)] J54 ?_
       refine Gn 2 [(85, .bool true)] J41 ?_
       have p3 := p3.dp 0
       exact Gj 86 [(0, .slice Ax0 x0.length cx0), (3, .i x3), (85, .bool true)] (u4f _ _ h _ _ ((hx.trans z2).trans z3) Ax0 x0.length cx0 p3 (fx0.ext (z2.trans z3)) rfl)
  ·
   rw [decide_eq_false h3]
   refine Gn 6 [(2, .i 0)] J55 ?_
   obtain rfl := Option.some.inj h
   exact Goes.rt Tryz.f34 (.i 0) ⟨S1, rfl, hx, p1⟩
 ·
  intro u4g u4h ⟨x0, x3, x85⟩ r h S1 w1 hx Ax0 nx0 cx0 p1 fx0 lx0 junk
  try dsimp only at h
  subst lx0
  refine ite_some h (fun h52 h => ?_) (fun h52 h => ?_)
  ·
   rw [h52]
   refine Gn 5 [(2, .i 110)] J56 ?_
   obtain rfl := Option.some.inj h
   exact Goes.rt Tryz.f34 (.i 110) ⟨S1, rfl, hx, p1⟩
  ·
   have u4i : x85 = false := by simpa using h52
   rw [u4i]
   refine Gn 9 [(17, .i x3), (18, .i (wr .i64 (x3 + 1))), (3, .i (wr .i64 (x3 + 1)))] J3y ?_
   exact Gj 86 [(0, .slice Ax0 x0.length cx0), (3, .i (wr .i64 (x3 + 1)))] (u4h _ _ h _ _ hx Ax0 x0.length cx0 p1 fx0 rfl)

theorem W.zg {nz wz S0 w0 Lr} : ∀ a r, M.tidepoleref11_Check_l1 a = some r → (L.zg nz wz S0 w0 Lr) a r := (W.zi).1

theorem W.zh {nz wz S0 w0 Lr} : ∀ a r, M.tidepoleref11_Check_l2 a = some r → (L.zh nz wz S0 w0 Lr) a r := (W.zi).2

def J57 := Zs [1, 1] B34 []
def J58 := Zs [1, 0, 1] B34 J57
def J59 := Zs [1, 0, 1, 0, 1] B34 J57

def L.zj : (List T45) × Bool → Int → Prop := fun ⟨x0, x12⟩ r => ∀ S1 w1, Ext S0 w0 S1 w1 → ∀ Ax0 nx0 cx0 (_ : Hp nz wz S1 w1 (Lr)) (_ : Rd kT45 S1 w1 Ax0 cx0 x0) (_ : x0.length = nx0) (junk : Nat → Value),
 Goes Tryz.prog (base 34) J58 ⟨lfr 86 [(0, .slice Ax0 nx0 cx0), (12, .bool x12)] junk, []⟩ w1 (Done Tryz.prog 34 (Rets (Post.zf nz wz S0 w0 Lr r)))

theorem W.zj {nz wz S0 w0 Lr} : ∀ a r, M.tidepoleref11_Check_l0 a = some r → L.zj nz wz S0 w0 Lr a r := by
 intro ⟨x0, x12⟩ r h S1 w1 hx Ax0 nx0 cx0 p1 fx0 lx0 junk
 rw [M.tidepoleref11_Check_l0] at h
 try dsimp only at h
 subst lx0
 refine ite_some h (fun h2 h => ?_) (fun h2 h => ?_)
 ·
  rw [h2]
  refine Gn 5 [(2, .i 110)] J59 ?_
  obtain rfl := Option.some.inj h
  exact Goes.rt Tryz.f34 (.i 110) ⟨S1, rfl, hx, p1⟩
 ·
  have h2' : x12 = false := by simpa using h2
  rw [h2']
  refine Gn 9 [(3, .i 0)] J3y ?_
  exact Gj 86 [(0, .slice Ax0 x0.length cx0), (3, .i 0)] (W.zg _ _ h _ _ hx Ax0 x0.length cx0 p1 fx0 rfl)

def J5a := Zt [1, 0, 0] B34 [4, 5, 6, 7] J58

theorem W.zf (x0 : List T45) (r : Int) (h : M.tidepoleref11_Check x0 = some r) {nz wz S0 w0 Lr} (Ax0 nx0 cx0) (p0 : Hp nz wz S0 w0 (Lr)) (fx0 : Rd kT45 S0 w0 Ax0 cx0 x0) (lx0 : x0.length = nx0) :
  Calls Tryz.prog 34 #[.slice Ax0 nx0 cx0] w0 (Rets (Post.zf nz wz S0 w0 Lr r)) := by
 subst lx0
 refine Zf Tryz.f34 B34 85 ?_
 refine Gj 86 [(0, .slice Ax0 x0.length cx0)] fun junk => ?_
 delta M.tidepoleref11_Check at h
 refine Gn 11 [(2, .i 0), (5, .slice Ax0 x0.length cx0), (6, .i (x0.length : Int)), (7, .bool (decide ((x0.length : Int) = 0))), (8, .bool (decide ((x0.length : Int) = 0)))] J5a ?_
 refine ite_some h (fun h1 h => ?_) (fun h1 h => ?_)
 ·
  rw [decide_eq_true h1]
  refine Gn 5 [(9, undef), (10, undef), (11, undef), (12, .bool true)] J58 ?_
  exact Gj 86 [(0, .slice Ax0 x0.length cx0), (12, .bool true)] (W.zj _ _ h _ _ (Ext.refl S0 w0) Ax0 x0.length cx0 p0 fx0 rfl)
 ·
  rw [decide_eq_false h1]
  refine Gn 5 [(9, .slice Ax0 x0.length cx0), (10, .i (x0.length : Int)), (11, .bool (decide ((x0.length : Int) > 2048))), (12, .bool (decide ((x0.length : Int) > 2048)))] J58 ?_
  exact Gj 86 [(0, .slice Ax0 x0.length cx0), (12, .bool (decide ((x0.length : Int) > 2048)))] (W.zj _ _ h _ _ (Ext.refl S0 w0) Ax0 x0.length cx0 p0 fx0 rfl)

def J5b := Zs [1, 1, 1] B24 []
def J5c := Zb 0 J5b
def Q38 := sub [1, 1, 0, 1, 0, 0] B24
def J5d := Zl Q38 J5c
def J5e := Zc Q38 J5d
def J5f := Zs [1, 1, 0, 1, 0, 0, 1, 1] B24 J5d
def J5g := Zb 1 J5f
def J5h := Zs [1, 1, 0, 1, 0, 0, 1, 0, 0, 1, 1] B24 J5g
def J5i := Zb 2 J5h
def Q3b := sub [1, 1, 0, 1, 0, 0, 1, 0, 0, 1, 0, 1, 0, 0] B24
def J5j := Zl Q3b J5i
def J5k := Zc Q3b J5j
def J5l := Zs [1, 1, 0, 1, 0, 0, 1, 0, 0, 1, 0, 1, 0, 0, 1, 1] B24 J5j
def J5m := Zb 3 J5l
def J5n := Zs [1, 1, 0, 1, 0, 0, 1, 0, 0, 1, 0, 1, 0, 0, 1, 0, 0, 1, 1] B24 J5m
def J5o := Zs [1, 1, 0, 1, 0, 0, 1, 0, 0, 1, 0, 1, 0, 0, 1, 0, 0, 1, 0, 1] B24 J5n
def J5p := Zs [1, 1, 0, 1, 0, 0, 1, 0, 0, 1, 0, 1, 0, 0, 1, 0, 0, 1, 1, 1] B24 J5m
def J5q := Zs [1, 1, 0, 1, 0, 0, 1] B24 J5d
def J5r := Zs [1, 1, 0, 1, 0, 0, 0, 1] B24 J5q
def J5s := Zs [1, 1, 0, 1, 0, 0, 1, 0, 0, 1, 0, 1, 0] B24 J5i
def J5t := Zs [1, 1, 1, 1] B24 []
def J5u := Zs [1, 1, 0, 1, 0, 0, 1, 0, 0, 1, 0, 1, 0, 0, 1] B24 J5j
def J5v := Zs [1, 1, 0, 1, 0, 0, 1, 0, 0, 1, 0, 1, 0, 0, 0, 1] B24 J5u
def J5w := Zs [1, 1, 0, 1, 0, 0, 1, 0, 0, 1, 0, 1, 0, 0, 1, 0, 0, 1] B24 J5m
def J5x := Zs [1, 1, 0, 1, 0, 0, 1, 0, 0, 1, 0, 1, 0, 0, 1, 0, 0, 0, 1] B24 J5w
def J5y := Zt [1, 1, 0, 1, 0, 0, 1, 0, 0, 1, 0, 1, 0, 0, 1, 0, 0, 0, 0] B24 [2, 3, 4] J5x
def Q3p := sub [1, 1, 0, 1, 0, 0, 1, 0, 0, 1, 0, 1, 0, 0, 1, 0, 0, 1, 0, 0] B24
def J5z := Zr Q3p [2, 3, 4, 5, 6, 7, 8, 9, 10, 11, 12, 13, 14, 15, 16, 17, 18, 19, 20, 21, 22, 23, 24] J5o
def J60 := Zr Q3p [4, 5, 6, 7, 8, 9, 10, 11, 12, 13, 14, 15, 16, 17, 18, 19, 20, 21, 22, 23, 24] J5o
def J61 := Zr Q3p [7, 8, 9, 10, 11, 12, 13, 14, 15, 16, 17, 18, 19, 20, 21, 22, 23, 24] J5o
def J62 := Zr Q3p [18, 19, 20, 21, 22, 23, 24] J5o
def J63 := Zr Q3p [20, 21, 22, 23, 24] J5o
def J64 := Zr Q3p [9, 10, 11, 12, 13, 14, 15, 16, 17, 18, 19, 20, 21, 22, 23, 24] J5o
def J65 := Zr Q3p [11, 12, 13, 14, 15, 16, 17, 18, 19, 20, 21, 22, 23, 24] J5o
def J66 := Zr Q3p [15, 16, 17, 18, 19, 20, 21, 22, 23, 24] J5o
def J67 := Zs [1, 1, 0, 1, 0, 0, 1, 0, 0, 1, 1, 1] B24 J5g
def Q3r := sub [1, 1, 0, 1, 0, 0, 1, 0, 0, 1, 0, 1, 0, 0, 1, 0, 0, 1, 0, 1, 0] B24
def J68 := Zr Q3r [3, 4, 5, 6, 7, 8] J5n
def J69 := Zr Q3r [5, 6, 7, 8] J5n
def Q3s := sub [1, 1, 0, 1, 0, 0, 1, 0, 0, 1, 0, 1, 0, 0, 1, 0, 0, 1, 1, 0] B24
def J6a := Zr Q3s [2, 3, 4, 5, 6, 7, 8, 9, 10, 11, 12, 13, 14, 15, 16] J5p
def J6b := Zr Q3s [4, 5, 6, 7, 8, 9, 10, 11, 12, 13, 14, 15, 16] J5p
def J6c := Zr Q3s [7, 8, 9, 10, 11, 12, 13, 14, 15, 16] J5p
def J6d := Zr Q3s [10, 11, 12, 13, 14, 15, 16] J5p
def J6e := Zr Q3s [12, 13, 14, 15, 16] J5p
def Q3t := sub [1, 1, 0, 1, 0, 0, 1, 0, 0, 1, 0, 1, 0, 0, 1, 0, 0, 1, 1, 1, 0] B24
def J6f := Zr Q3t [3, 4, 5, 6, 7, 8] J5m
def J6g := Zr Q3t [5, 6, 7, 8] J5m

def Post.zk (r : List Bool) (v : Value) (w' : World) : Prop :=
 ∃ S' Gq nq cq csq, v = .slice (Gp Gq) nq cq ∧ Ext S0 w0 S' w' ∧ Hp nz wz S' w' ((Gq, .row 4 csq (cq * kBool.size) 0) :: Lr) ∧ Els kBool S' w' csq r ∧ r.length = nq

def L.zl : (List T45) × (List Bool) × Int → (List Bool) → Prop := fun ⟨x0, x5, x6⟩ r => ∀ S1 w1, Ext S0 w0 S1 w1 → ∀ Ax0 nx0 cx0 Gx5 nx5 cx5 u4j (_ : Hp nz wz S1 w1 ((Gx5, .row 4 u4j (cx5 * kBool.size) 0) :: Lr)) (_ : Rd kT45 S1 w1 Ax0 cx0 x0) (_ : x0.length = nx0) (_ : Els kBool S1 w1 u4j x5) (_ : x5.length = nx5) (junk : Nat → Value),
 Goes Tryz.prog (base 24) J5e ⟨lfr 88 [(0, .slice Ax0 nx0 cx0), (5, .slice (Gp Gx5) nx5 cx5), (6, .i x6)] junk, []⟩ w1 (Done Tryz.prog 24 (Rets (Post.zk nz wz S0 w0 Lr r)))

def L.zm : (List T45) × (List Bool) × Int × Bool × Int → (List Bool) → Prop := fun ⟨x0, x5, x6, x7, x8⟩ r => ∀ S1 w1, Ext S0 w0 S1 w1 → ∀ Ax0 nx0 cx0 Gx5 nx5 cx5 u4j (_ : Hp nz wz S1 w1 ((Gx5, .row 4 u4j (cx5 * kBool.size) 0) :: Lr)) (_ : Rd kT45 S1 w1 Ax0 cx0 x0) (_ : x0.length = nx0) (_ : Els kBool S1 w1 u4j x5) (_ : x5.length = nx5) (junk : Nat → Value),
 Goes Tryz.prog (base 24) J5k ⟨lfr 88 [(0, .slice Ax0 nx0 cx0), (5, .slice (Gp Gx5) nx5 cx5), (6, .i x6), (7, .bool x7), (8, .i x8)] junk, []⟩ w1 (Done Tryz.prog 24 (Rets (Post.zk nz wz S0 w0 Lr r)))

def L.zn : (List T45) × (List Bool) × Int × Bool × Int × Bool → (List Bool) → Prop := fun ⟨x0, x5, x6, x7, x8, x53⟩ r => ∀ S1 w1, Ext S0 w0 S1 w1 → ∀ Ax0 nx0 cx0 Gx5 nx5 cx5 u4j (_ : Hp nz wz S1 w1 ((Gx5, .row 4 u4j (cx5 * kBool.size) 0) :: Lr)) (_ : Rd kT45 S1 w1 Ax0 cx0 x0) (_ : x0.length = nx0) (_ : Els kBool S1 w1 u4j x5) (_ : x5.length = nx5) (junk : Nat → Value),
 Goes Tryz.prog (base 24) J5o ⟨lfr 88 [(0, .slice Ax0 nx0 cx0), (5, .slice (Gp Gx5) nx5 cx5), (6, .i x6), (7, .bool x7), (8, .i x8), (53, .bool x53)] junk, []⟩ w1 (Done Tryz.prog 24 (Rets (Post.zk nz wz S0 w0 Lr r)))

def L.zo : (List T45) × (List Bool) × Int × Bool × Int → (List Bool) → Prop := fun ⟨x0, x5, x6, x7, x8⟩ r => ∀ S1 w1, Ext S0 w0 S1 w1 → ∀ Ax0 nx0 cx0 Gx5 nx5 cx5 u4j (_ : Hp nz wz S1 w1 ((Gx5, .row 4 u4j (cx5 * kBool.size) 0) :: Lr)) (_ : Rd kT45 S1 w1 Ax0 cx0 x0) (_ : x0.length = nx0) (_ : Els kBool S1 w1 u4j x5) (_ : x5.length = nx5) (junk : Nat → Value),
 Goes Tryz.prog (base 24) J5n ⟨lfr 88 [(0, .slice Ax0 nx0 cx0), (5, .slice (Gp Gx5) nx5 cx5), (6, .i x6), (7, .bool x7), (8, .i x8)] junk, []⟩ w1 (Done Tryz.prog 24 (Rets (Post.zk nz wz S0 w0 Lr r)))

def L.zp : (List T45) × (List Bool) × Int × Bool × Int × Bool → (List Bool) → Prop := fun ⟨x0, x5, x6, x7, x8, x77⟩ r => ∀ S1 w1, Ext S0 w0 S1 w1 → ∀ Ax0 nx0 cx0 Gx5 nx5 cx5 u4j (_ : Hp nz wz S1 w1 ((Gx5, .row 4 u4j (cx5 * kBool.size) 0) :: Lr)) (_ : Rd kT45 S1 w1 Ax0 cx0 x0) (_ : x0.length = nx0) (_ : Els kBool S1 w1 u4j x5) (_ : x5.length = nx5) (junk : Nat → Value),
 Goes Tryz.prog (base 24) J5p ⟨lfr 88 [(0, .slice Ax0 nx0 cx0), (5, .slice (Gp Gx5) nx5 cx5), (6, .i x6), (7, .bool x7), (8, .i x8), (77, .bool x77)] junk, []⟩ w1 (Done Tryz.prog 24 (Rets (Post.zk nz wz S0 w0 Lr r)))

def L.zq : (List T45) × (List Bool) × Int × Bool × Int → (List Bool) → Prop := fun ⟨x0, x5, x6, x7, x8⟩ r => ∀ S1 w1, Ext S0 w0 S1 w1 → ∀ Ax0 nx0 cx0 Gx5 nx5 cx5 u4j (_ : Hp nz wz S1 w1 ((Gx5, .row 4 u4j (cx5 * kBool.size) 0) :: Lr)) (_ : Rd kT45 S1 w1 Ax0 cx0 x0) (_ : x0.length = nx0) (_ : Els kBool S1 w1 u4j x5) (_ : x5.length = nx5) (junk : Nat → Value),
 Goes Tryz.prog (base 24) J5m ⟨lfr 88 [(0, .slice Ax0 nx0 cx0), (5, .slice (Gp Gx5) nx5 cx5), (6, .i x6), (7, .bool x7), (8, .i x8)] junk, []⟩ w1 (Done Tryz.prog 24 (Rets (Post.zk nz wz S0 w0 Lr r)))

theorem W.zr {nz wz S0 w0 Lr} : (∀ a r, M.tidepoleref12_closed_l0 a = some r → (L.zl nz wz S0 w0 Lr) a r) ∧ (∀ a r, M.tidepoleref12_closed_l1 a = some r → (L.zm nz wz S0 w0 Lr) a r) ∧ (∀ a r, M.tidepoleref12_closed_l2 a = some r → (L.zn nz wz S0 w0 Lr) a r) ∧ (∀ a r, M.tidepoleref12_closed_l3 a = some r → (L.zo nz wz S0 w0 Lr) a r) ∧ (∀ a r, M.tidepoleref12_closed_l4 a = some r → (L.zp nz wz S0 w0 Lr) a r) ∧ (∀ a r, M.tidepoleref12_closed_l5 a = some r → (L.zq nz wz S0 w0 Lr) a r) := by
 refine M.tidepoleref12_closed_l0.mutual_partial_correctness (L.zl nz wz S0 w0 Lr) (L.zm nz wz S0 w0 Lr) (L.zn nz wz S0 w0 Lr) (L.zo nz wz S0 w0 Lr) (L.zp nz wz S0 w0 Lr) (L.zq nz wz S0 w0 Lr) ?_ ?_ ?_ ?_ ?_ ?_
 ·
  intro u4k u4l ⟨x0, x5, x6⟩ r h S1 w1 hx Ax0 nx0 cx0 Gx5 nx5 cx5 u4j p1 fx0 lx0 fx5 lx5 junk
  try dsimp only at h
  subst lx0
  subst lx5
  refine Gn 8 [(12, .i x6), (13, .slice Ax0 x0.length cx0), (14, .i (x0.length : Int)), (15, .bool (decide (x6 < (x0.length : Int))))] J5r ?_
  refine ite_some h (fun h13 h => ?_) (fun h13 h => ?_)
  ·
   rw [decide_eq_true h13]
   refine Gn 14 [(7, .bool false), (8, .i 0)] J5s ?_
   refine Gn 1 [] J5k ?_
   exact Gj 88 [(0, .slice Ax0 x0.length cx0), (5, .slice (Gp Gx5) x5.length cx5), (6, .i x6), (7, .bool false), (8, .i 0)] (u4l _ _ h _ _ hx Ax0 x0.length cx0 Gx5 x5.length cx5 u4j p1 fx0 rfl fx5 rfl)
  ·
   rw [decide_eq_false h13]
   refine Gn 7 [(87, .slice (Gp Gx5) x5.length cx5), (4, .slice (Gp Gx5) x5.length cx5)] J5t ?_
   obtain rfl := Option.some.inj h
   exact Goes.rt Tryz.f24 (.slice (Gp Gx5) x5.length cx5) ⟨S1, Gx5, x5.length, cx5, u4j, rfl, hx, p1, fx5, rfl⟩
 ·
  intro u4m u4k u4n u4o u4l u4p ⟨x0, x5, x6, x7, x8⟩ r h S1 w1 hx Ax0 nx0 cx0 Gx5 nx5 cx5 u4j p1 fx0 lx0 fx5 lx5 junk
  try dsimp only at h
  subst lx0
  subst lx5
  refine Gn 8 [(18, .i x8), (19, .slice Ax0 x0.length cx0), (20, .i (x0.length : Int)), (21, .bool (decide (x8 < (x0.length : Int))))] J5v ?_
  refine ite_some h (fun h15 h => ?_) (fun h15 h => ?_)
  ·
   rw [decide_eq_true h15]
   refine Gn 9 [(24, .slice (Gp Gx5) x5.length cx5), (25, .i x8)] J5y ?_
   refine guard_some' h fun g16 h => ?_
   refine guard_some' h fun g17 h => ?_
   refine Op_.ixO_n 24 (.tmp 24) (.tmp 25) 26 0 4 .i64 x8 0 x5.length cx5 (gi x5 x8) rfl rfl p1 rfl fx5 Goes.v (by kernel_rfl) (by kernel_rfl) (by kernel_rfl) (by kernel_rfl) (by decide) g16 g17 ?_
   rintro b18 _ rfl q20 f19
   obtain rfl := q20
   refine Goes.ld 4 (.tmp 26) 27 4 ⟨b18, (x8 : Int).toNat * kBool.size, none⟩ (.bool (gi x5 x8)) (f19 0 _ rfl) ?_
   refine Gn 2 [(28, .bool (!(gi x5 x8)))] J5x ?_
   refine ite_some h (fun h22 h => ?_) (fun h22 h => ?_)
   ·
    rw [h22]
    refine Gn 7 [(29, .slice Ax0 x0.length cx0), (30, .i x8)] J5z ?_
    refine Op_.ixR_n 22 (.tmp 29) (.tmp 30) 31 0 46 .i64 x8 (gi x0 x8) rfl rfl fx0 Goes.v (by kernel_rfl) (by kernel_rfl) (by kernel_rfl) (by kernel_rfl) g16 h15 ?_
    intro a23 _ f24 q25
    obtain ⟨_, _, rfl, rfl, ⟨_, _, rfl, ⟨l26, f27⟩, ⟨_, _, rfl, rfl, rfl⟩⟩⟩ := q25
    obtain rfl := els_lit4' f27 l26
    refine Gn 1 [(32, .pointer (some (Addr.add a23 0)))] J60 ?_
    refine Goes.ld 3 (.tmp 32) 33 3 (Addr.add a23 0) (.i ((gi x0 x8).Op)) ((Cs.left (us := [.i ((gi x0 x8).Op)]) (vs := (U4 ((gi x0 x8).Set) [.i ((gi x0 x8).X), .i ((gi x0 x8).Y)])) (Cs.add (us := []) (vs := (.i ((gi x0 x8).Op) :: U4 ((gi x0 x8).Set) [.i ((gi x0 x8).X), .i ((gi x0 x8).Y)])) f24)).cell 0 _ rfl) ?_
    refine Gn 2 [(34, .bool (decide ((gi x0 x8).Op = 2))), (35, .bool (decide ((gi x0 x8).Op = 2)))] J61 ?_
    refine ite_some h (fun h28 h => ?_) (fun h28 h => ?_)
    ·
     rw [decide_eq_true h28]
     refine Gn 11 [(36, undef), (37, undef), (38, undef), (39, undef), (40, undef), (41, undef), (42, .bool true), (43, .bool true), (44, .slice (Gp (some b18)) x5.length cx5), (45, .slice Ax0 x0.length cx0), (46, .i x8)] J62 ?_
     refine Op_.ixR_n 22 (.tmp 45) (.tmp 46) 47 0 46 .i64 x8 (gi x0 x8) rfl rfl fx0 Goes.v (by kernel_rfl) (by kernel_rfl) (by kernel_rfl) (by kernel_rfl) g16 h15 ?_
     intro a29 _ f30 q31
     obtain ⟨_, _, rfl, rfl, ⟨_, _, rfl, ⟨l32, f33⟩, ⟨_, _, rfl, rfl, rfl⟩⟩⟩ := q31
     obtain rfl := els_lit4' f33 l32
     refine Gn 1 [(48, .pointer (some (Addr.add a29 5)))] J63 ?_
     refine Goes.ld 3 (.tmp 48) 49 3 (Addr.add a29 5) (.i ((gi x0 x8).X)) ((Cs.left (us := [.i ((gi x0 x8).X)]) (vs := [.i ((gi x0 x8).Y)]) (Cs.add (us := (.i ((gi x0 x8).Op) :: U4 ((gi x0 x8).Set) [])) (vs := [.i ((gi x0 x8).X), .i ((gi x0 x8).Y)]) f30)).cell 0 _ rfl) ?_
     refine guard_some' h fun g34 h => ?_
     refine guard_some' h fun g35 h => ?_
     refine Op_.ixO_n 24 (.tmp 44) (.tmp 49) 50 0 4 .i64 ((gi x0 x8).X) 0 x5.length cx5 (gi x5 ((gi x0 x8).X)) rfl rfl p1 rfl fx5 Goes.v (by kernel_rfl) (by kernel_rfl) (by kernel_rfl) (by kernel_rfl) (by decide) g34 g35 ?_
     rintro b36 _ e39 q38 f37
     injection e39 with u4q; subst u4q
     obtain rfl := q38
     refine Goes.ld 4 (.tmp 50) 51 4 ⟨b18, ((gi x0 x8).X : Int).toNat * kBool.size, none⟩ (.bool (gi x5 ((gi x0 x8).X))) (f37 0 _ rfl) ?_
     refine Gn 3 [(52, .bool (!(gi x5 ((gi x0 x8).X)))), (53, .bool (!(gi x5 ((gi x0 x8).X))))] J5o ?_
     exact Gj 88 [(0, .slice Ax0 x0.length cx0), (5, .slice (Gp (some b18)) x5.length cx5), (6, .i x6), (7, .bool x7), (8, .i x8), (53, .bool (!(gi x5 ((gi x0 x8).X))))] (u4p _ _ h _ _ hx Ax0 x0.length cx0 (some b18) x5.length cx5 u4j p1 fx0 rfl fx5 rfl)
    ·
     rw [decide_eq_false h28]
     refine Gn 2 [(36, .slice Ax0 x0.length cx0), (37, .i x8)] J64 ?_
     refine Op_.ixR_n 22 (.tmp 36) (.tmp 37) 38 0 46 .i64 x8 (gi x0 x8) rfl rfl fx0 Goes.v (by kernel_rfl) (by kernel_rfl) (by kernel_rfl) (by kernel_rfl) g16 h15 ?_
     intro a41 _ f42 q43
     obtain ⟨_, _, rfl, rfl, ⟨_, _, rfl, ⟨l44, f45⟩, ⟨_, _, rfl, rfl, rfl⟩⟩⟩ := q43
     obtain rfl := els_lit4' f45 l44
     refine Gn 1 [(39, .pointer (some (Addr.add a41 0)))] J65 ?_
     refine Goes.ld 3 (.tmp 39) 40 3 (Addr.add a41 0) (.i ((gi x0 x8).Op)) ((Cs.left (us := [.i ((gi x0 x8).Op)]) (vs := (U4 ((gi x0 x8).Set) [.i ((gi x0 x8).X), .i ((gi x0 x8).Y)])) (Cs.add (us := []) (vs := (.i ((gi x0 x8).Op) :: U4 ((gi x0 x8).Set) [.i ((gi x0 x8).X), .i ((gi x0 x8).Y)])) f42)).cell 0 _ rfl) ?_
     refine Gn 3 [(41, .bool (decide ((gi x0 x8).Op = 4))), (42, .bool (decide ((gi x0 x8).Op = 4))), (43, .bool (decide ((gi x0 x8).Op = 4)))] J66 ?_
     refine ite_some h (fun h46 h => ?_) (fun h46 h => ?_)
     ·
      rw [decide_eq_true h46]
      refine Gn 3 [(44, .slice (Gp (some b18)) x5.length cx5), (45, .slice Ax0 x0.length cx0), (46, .i x8)] J62 ?_
      refine Op_.ixR_n 22 (.tmp 45) (.tmp 46) 47 0 46 .i64 x8 (gi x0 x8) rfl rfl fx0 Goes.v (by kernel_rfl) (by kernel_rfl) (by kernel_rfl) (by kernel_rfl) g16 h15 ?_
      intro a47 _ f48 q49
      obtain ⟨_, _, rfl, rfl, ⟨_, _, rfl, ⟨l50, f51⟩, ⟨_, _, rfl, rfl, rfl⟩⟩⟩ := q49
      obtain rfl := els_lit4' f51 l50
      refine Gn 1 [(48, .pointer (some (Addr.add a47 5)))] J63 ?_
      refine Goes.ld 3 (.tmp 48) 49 3 (Addr.add a47 5) (.i ((gi x0 x8).X)) ((Cs.left (us := [.i ((gi x0 x8).X)]) (vs := [.i ((gi x0 x8).Y)]) (Cs.add (us := (.i ((gi x0 x8).Op) :: U4 ((gi x0 x8).Set) [])) (vs := [.i ((gi x0 x8).X), .i ((gi x0 x8).Y)]) f48)).cell 0 _ rfl) ?_
      refine guard_some' h fun g52 h => ?_
      refine guard_some' h fun g53 h => ?_
      refine Op_.ixO_n 24 (.tmp 44) (.tmp 49) 50 0 4 .i64 ((gi x0 x8).X) 0 x5.length cx5 (gi x5 ((gi x0 x8).X)) rfl rfl p1 rfl fx5 Goes.v (by kernel_rfl) (by kernel_rfl) (by kernel_rfl) (by kernel_rfl) (by decide) g52 g53 ?_
      rintro b54 _ e57 q56 f55
      injection e57 with u4r; subst u4r
      obtain rfl := q56
      refine Goes.ld 4 (.tmp 50) 51 4 ⟨b18, ((gi x0 x8).X : Int).toNat * kBool.size, none⟩ (.bool (gi x5 ((gi x0 x8).X))) (f55 0 _ rfl) ?_
      refine Gn 3 [(52, .bool (!(gi x5 ((gi x0 x8).X)))), (53, .bool (!(gi x5 ((gi x0 x8).X))))] J5o ?_
      exact Gj 88 [(0, .slice Ax0 x0.length cx0), (5, .slice (Gp (some b18)) x5.length cx5), (6, .i x6), (7, .bool x7), (8, .i x8), (53, .bool (!(gi x5 ((gi x0 x8).X))))] (u4p _ _ h _ _ hx Ax0 x0.length cx0 (some b18) x5.length cx5 u4j p1 fx0 rfl fx5 rfl)
     ·
      rw [decide_eq_false h46]
      refine Gn 11 [(44, undef), (45, undef), (46, undef), (47, undef), (48, undef), (49, undef), (50, undef), (51, undef), (52, undef), (53, .bool false)] J5o ?_
      exact Gj 88 [(0, .slice Ax0 x0.length cx0), (5, .slice (Gp (some b18)) x5.length cx5), (6, .i x6), (7, .bool x7), (8, .i x8), (53, .bool false)] (u4p _ _ h _ _ hx Ax0 x0.length cx0 (some b18) x5.length cx5 u4j p1 fx0 rfl fx5 rfl)
   ·
    have u4s : (gi x5 x8) = false := by simpa using h22
    rw [u4s]
    refine Gn 8 [(22, .i x8), (23, .i (wr .i64 (x8 + 1))), (8, .i (wr .i64 (x8 + 1)))] J5k ?_
    exact Gj 88 [(0, .slice Ax0 x0.length cx0), (5, .slice (Gp (some b18)) x5.length cx5), (6, .i x6), (7, .bool x7), (8, .i (wr .i64 (x8 + 1)))] (u4l _ _ h _ _ hx Ax0 x0.length cx0 (some b18) x5.length cx5 u4j p1 fx0 rfl fx5 rfl)
  ·
   rw [decide_eq_false h15]
   refine Gn 7 [(85, .bool x7), (86, .bool (!x7))] J67 ?_
   refine ite_some h (fun h58 h => ?_) (fun h58 h => ?_)
   ·
    rw [h58]
    refine Gn 9 [(16, .i x6), (17, .i (wr .i64 (x6 + 1))), (6, .i (wr .i64 (x6 + 1)))] J5e ?_
    exact Gj 88 [(0, .slice Ax0 x0.length cx0), (5, .slice (Gp Gx5) x5.length cx5), (6, .i (wr .i64 (x6 + 1)))] (u4o _ _ h _ _ hx Ax0 x0.length cx0 Gx5 x5.length cx5 u4j p1 fx0 rfl fx5 rfl)
   ·
    have u4t : x7 = false := by simpa using h58
    rw [u4t]
    refine Gn 7 [(87, .slice (Gp Gx5) x5.length cx5), (4, .slice (Gp Gx5) x5.length cx5)] J5t ?_
    obtain rfl := Option.some.inj h
    exact Goes.rt Tryz.f24 (.slice (Gp Gx5) x5.length cx5) ⟨S1, Gx5, x5.length, cx5, u4j, rfl, hx, p1, fx5, rfl⟩
 ·
  intro u4u u4v ⟨x0, x5, x6, x7, x8, x53⟩ r h S1 w1 hx Ax0 nx0 cx0 Gx5 nx5 cx5 u4j p1 fx0 lx0 fx5 lx5 junk
  try dsimp only at h
  subst lx0
  subst lx5
  refine ite_some h (fun h59 h => ?_) (fun h59 h => ?_)
  ·
   rw [h59]
   refine Gn 5 [(54, .slice (Gp Gx5) x5.length cx5), (55, .slice Ax0 x0.length cx0), (56, .i x8)] J68 ?_
   refine guard_some' h fun g60 h => ?_
   refine guard_some' h fun g61 h => ?_
   refine Op_.ixR_n 22 (.tmp 55) (.tmp 56) 57 0 46 .i64 x8 (gi x0 x8) rfl rfl fx0 Goes.v (by kernel_rfl) (by kernel_rfl) (by kernel_rfl) (by kernel_rfl) g60 g61 ?_
   intro a62 _ f63 q64
   obtain ⟨_, _, rfl, rfl, ⟨_, _, rfl, ⟨l65, f66⟩, ⟨_, _, rfl, rfl, rfl⟩⟩⟩ := q64
   obtain rfl := els_lit4' f66 l65
   refine Gn 1 [(58, .pointer (some (Addr.add a62 5)))] J69 ?_
   refine Goes.ld 3 (.tmp 58) 59 3 (Addr.add a62 5) (.i ((gi x0 x8).X)) ((Cs.left (us := [.i ((gi x0 x8).X)]) (vs := [.i ((gi x0 x8).Y)]) (Cs.add (us := (.i ((gi x0 x8).Op) :: U4 ((gi x0 x8).Set) [])) (vs := [.i ((gi x0 x8).X), .i ((gi x0 x8).Y)]) f63)).cell 0 _ rfl) ?_
   refine guard_some' h fun g67 h => ?_
   refine guard_some' h fun g68 h => ?_
   refine Op_.ixO_n 24 (.tmp 54) (.tmp 59) 60 0 4 .i64 ((gi x0 x8).X) 0 x5.length cx5 (gi x5 ((gi x0 x8).X)) rfl rfl p1 rfl fx5 Goes.v (by kernel_rfl) (by kernel_rfl) (by kernel_rfl) (by kernel_rfl) (by decide) g67 g68 ?_
   rintro b69 _ rfl q71 f70
   obtain rfl := q71
   refine Op_.stE_n (K := kBool) 4 (.tmp 60) (.const (.bool true)) 0 0 ((gi x0 x8).X) (.bool true) [.bool true] true (si x5 ((gi x0 x8).X) true) x5.length rfl rfl p1 rfl fx5 Goes.s (by kernel_rfl) (by kernel_rfl) (by kernel_rfl) rfl (by kernel_rfl) g67 g68 (Nat.zero_le _) ?_
   intro w4 u4w z4 p4 f74 l75
   refine Gn 2 [(7, .bool true)] J5n ?_
   exact Gj 88 [(0, .slice Ax0 x0.length cx0), (5, .slice (Gp (some b69)) x5.length cx5), (6, .i x6), (7, .bool true), (8, .i x8)] (u4v _ _ h _ _ (hx.trans z4) Ax0 x0.length cx0 (some b69) x5.length cx5 u4w p4 (fx0.ext z4) rfl f74 l75)
  ·
   have u4x : x53 = false := by simpa using h59
   rw [u4x]
   refine Gn 2 [] J5n ?_
   exact Gj 88 [(0, .slice Ax0 x0.length cx0), (5, .slice (Gp Gx5) x5.length cx5), (6, .i x6), (7, .bool x7), (8, .i x8)] (u4v _ _ h _ _ hx Ax0 x0.length cx0 Gx5 x5.length cx5 u4j p1 fx0 rfl fx5 rfl)
 ·
  intro u4y u4z ⟨x0, x5, x6, x7, x8⟩ r h S1 w1 hx Ax0 nx0 cx0 Gx5 nx5 cx5 u4j p1 fx0 lx0 fx5 lx5 junk
  try dsimp only at h
  subst lx0
  subst lx5
  refine Gn 4 [(61, .slice Ax0 x0.length cx0), (62, .i x8)] J6a ?_
  refine guard_some' h fun g77 h => ?_
  refine guard_some' h fun g78 h => ?_
  refine Op_.ixR_n 22 (.tmp 61) (.tmp 62) 63 0 46 .i64 x8 (gi x0 x8) rfl rfl fx0 Goes.v (by kernel_rfl) (by kernel_rfl) (by kernel_rfl) (by kernel_rfl) g77 g78 ?_
  intro a79 _ f80 q81
  obtain ⟨_, _, rfl, rfl, ⟨_, _, rfl, ⟨l82, f83⟩, ⟨_, _, rfl, rfl, rfl⟩⟩⟩ := q81
  obtain rfl := els_lit4' f83 l82
  refine Gn 1 [(64, .pointer (some (Addr.add a79 0)))] J6b ?_
  refine Goes.ld 3 (.tmp 64) 65 3 (Addr.add a79 0) (.i ((gi x0 x8).Op)) ((Cs.left (us := [.i ((gi x0 x8).Op)]) (vs := (U4 ((gi x0 x8).Set) [.i ((gi x0 x8).X), .i ((gi x0 x8).Y)])) (Cs.add (us := []) (vs := (.i ((gi x0 x8).Op) :: U4 ((gi x0 x8).Set) [.i ((gi x0 x8).X), .i ((gi x0 x8).Y)])) f80)).cell 0 _ rfl) ?_
  refine Gn 2 [(66, .bool (decide ((gi x0 x8).Op = 2))), (67, .bool (decide ((gi x0 x8).Op = 2)))] J6c ?_
  refine ite_some h (fun h84 h => ?_) (fun h84 h => ?_)
  ·
   rw [decide_eq_true h84]
   refine Gn 3 [(68, .slice (Gp Gx5) x5.length cx5), (69, .slice Ax0 x0.length cx0), (70, .i x8)] J6d ?_
   refine Op_.ixR_n 22 (.tmp 69) (.tmp 70) 71 0 46 .i64 x8 (gi x0 x8) rfl rfl fx0 Goes.v (by kernel_rfl) (by kernel_rfl) (by kernel_rfl) (by kernel_rfl) g77 g78 ?_
   intro a85 _ f86 q87
   obtain ⟨_, _, rfl, rfl, ⟨_, _, rfl, ⟨l88, f89⟩, ⟨_, _, rfl, rfl, rfl⟩⟩⟩ := q87
   obtain rfl := els_lit4' f89 l88
   refine Gn 1 [(72, .pointer (some (Addr.add a85 6)))] J6e ?_
   refine Goes.ld 3 (.tmp 72) 73 3 (Addr.add a85 6) (.i ((gi x0 x8).Y)) ((Cs.left (us := [.i ((gi x0 x8).Y)]) (vs := []) (Cs.add (us := (.i ((gi x0 x8).Op) :: U4 ((gi x0 x8).Set) [.i ((gi x0 x8).X)])) (vs := [.i ((gi x0 x8).Y)]) f86)).cell 0 _ rfl) ?_
   refine guard_some' h fun g90 h => ?_
   refine guard_some' h fun g91 h => ?_
   refine Op_.ixO_n 24 (.tmp 68) (.tmp 73) 74 0 4 .i64 ((gi x0 x8).Y) 0 x5.length cx5 (gi x5 ((gi x0 x8).Y)) rfl rfl p1 rfl fx5 Goes.v (by kernel_rfl) (by kernel_rfl) (by kernel_rfl) (by kernel_rfl) (by decide) g90 g91 ?_
   rintro b92 _ rfl q94 f93
   obtain rfl := q94
   refine Goes.ld 4 (.tmp 74) 75 4 ⟨b92, ((gi x0 x8).Y : Int).toNat * kBool.size, none⟩ (.bool (gi x5 ((gi x0 x8).Y))) (f93 0 _ rfl) ?_
   refine Gn 3 [(76, .bool (!(gi x5 ((gi x0 x8).Y)))), (77, .bool (!(gi x5 ((gi x0 x8).Y))))] J5p ?_
   exact Gj 88 [(0, .slice Ax0 x0.length cx0), (5, .slice (Gp (some b92)) x5.length cx5), (6, .i x6), (7, .bool x7), (8, .i x8), (77, .bool (!(gi x5 ((gi x0 x8).Y))))] (u4z _ _ h _ _ hx Ax0 x0.length cx0 (some b92) x5.length cx5 u4j p1 fx0 rfl fx5 rfl)
  ·
   rw [decide_eq_false h84]
   refine Gn 11 [(68, undef), (69, undef), (70, undef), (71, undef), (72, undef), (73, undef), (74, undef), (75, undef), (76, undef), (77, .bool false)] J5p ?_
   exact Gj 88 [(0, .slice Ax0 x0.length cx0), (5, .slice (Gp Gx5) x5.length cx5), (6, .i x6), (7, .bool x7), (8, .i x8), (77, .bool false)] (u4z _ _ h _ _ hx Ax0 x0.length cx0 Gx5 x5.length cx5 u4j p1 fx0 rfl fx5 rfl)
 ·
  intro u50 u51 ⟨x0, x5, x6, x7, x8, x77⟩ r h S1 w1 hx Ax0 nx0 cx0 Gx5 nx5 cx5 u4j p1 fx0 lx0 fx5 lx5 junk
  try dsimp only at h
  subst lx0
  subst lx5
  refine ite_some h (fun h97 h => ?_) (fun h97 h => ?_)
  ·
   rw [h97]
   refine Gn 5 [(78, .slice (Gp Gx5) x5.length cx5), (79, .slice Ax0 x0.length cx0), (80, .i x8)] J6f ?_
   refine guard_some' h fun g98 h => ?_
   refine guard_some' h fun g99 h => ?_
   refine Op_.ixR_n 22 (.tmp 79) (.tmp 80) 81 0 46 .i64 x8 (gi x0 x8) rfl rfl fx0 Goes.v (by kernel_rfl) (by kernel_rfl) (by kernel_rfl) (by kernel_rfl) g98 g99 ?_
   intro u52 _ u53 u54
   obtain ⟨_, _, rfl, rfl, ⟨_, _, rfl, ⟨u55, u56⟩, ⟨_, _, rfl, rfl, rfl⟩⟩⟩ := u54
   obtain rfl := els_lit4' u56 u55
   refine Gn 1 [(82, .pointer (some (Addr.add u52 6)))] J6g ?_
   refine Goes.ld 3 (.tmp 82) 83 3 (Addr.add u52 6) (.i ((gi x0 x8).Y)) ((Cs.left (us := [.i ((gi x0 x8).Y)]) (vs := []) (Cs.add (us := (.i ((gi x0 x8).Op) :: U4 ((gi x0 x8).Set) [.i ((gi x0 x8).X)])) (vs := [.i ((gi x0 x8).Y)]) u53)).cell 0 _ rfl) ?_
   refine guard_some' h fun u57 h => ?_
   refine guard_some' h fun u58 h => ?_
   refine Op_.ixO_n 24 (.tmp 78) (.tmp 83) 84 0 4 .i64 ((gi x0 x8).Y) 0 x5.length cx5 (gi x5 ((gi x0 x8).Y)) rfl rfl p1 rfl fx5 Goes.v (by kernel_rfl) (by kernel_rfl) (by kernel_rfl) (by kernel_rfl) (by decide) u57 u58 ?_
   rintro u59 _ rfl u5a u5b
   obtain rfl := u5a
   refine Op_.stE_n (K := kBool) 4 (.tmp 84) (.const (.bool true)) 0 0 ((gi x0 x8).Y) (.bool true) [.bool true] true (si x5 ((gi x0 x8).Y) true) x5.length rfl rfl p1 rfl fx5 Goes.s (by kernel_rfl) (by kernel_rfl) (by kernel_rfl) rfl (by kernel_rfl) u57 u58 (Nat.zero_le _) ?_
   intro w5 u5c z5 p5 u5d u5e
   refine Gn 2 [(7, .bool true)] J5m ?_
   exact Gj 88 [(0, .slice Ax0 x0.length cx0), (5, .slice (Gp (some u59)) x5.length cx5), (6, .i x6), (7, .bool true), (8, .i x8)] (u51 _ _ h _ _ (hx.trans z5) Ax0 x0.length cx0 (some u59) x5.length cx5 u5c p5 (fx0.ext z5) rfl u5d u5e)
  ·
   have u5f : x77 = false := by simpa using h97
   rw [u5f]
   refine Gn 2 [] J5m ?_
   exact Gj 88 [(0, .slice Ax0 x0.length cx0), (5, .slice (Gp Gx5) x5.length cx5), (6, .i x6), (7, .bool x7), (8, .i x8)] (u51 _ _ h _ _ hx Ax0 x0.length cx0 Gx5 x5.length cx5 u4j p1 fx0 rfl fx5 rfl)
 ·
  intro u4k u4l ⟨x0, x5, x6, x7, x8⟩ r h S1 w1 hx Ax0 nx0 cx0 Gx5 nx5 cx5 u4j p1 fx0 lx0 fx5 lx5 junk
  try dsimp only at h
  subst lx0
  subst lx5
  refine Gn 7 [(22, .i x8), (23, .i (wr .i64 (x8 + 1))), (8, .i (wr .i64 (x8 + 1)))] J5k ?_
  exact Gj 88 [(0, .slice Ax0 x0.length cx0), (5, .slice (Gp Gx5) x5.length cx5), (6, .i x6), (7, .bool x7), (8, .i (wr .i64 (x8 + 1)))] (u4l _ _ h _ _ hx Ax0 x0.length cx0 Gx5 x5.length cx5 u4j p1 fx0 rfl fx5 rfl)

theorem W.zl {nz wz S0 w0 Lr} : ∀ a r, M.tidepoleref12_closed_l0 a = some r → (L.zl nz wz S0 w0 Lr) a r := (W.zr).1

theorem W.zm {nz wz S0 w0 Lr} : ∀ a r, M.tidepoleref12_closed_l1 a = some r → (L.zm nz wz S0 w0 Lr) a r := (W.zr).2.1

theorem W.zn {nz wz S0 w0 Lr} : ∀ a r, M.tidepoleref12_closed_l2 a = some r → (L.zn nz wz S0 w0 Lr) a r := (W.zr).2.2.1

theorem W.zo {nz wz S0 w0 Lr} : ∀ a r, M.tidepoleref12_closed_l3 a = some r → (L.zo nz wz S0 w0 Lr) a r := (W.zr).2.2.2.1

theorem W.zp {nz wz S0 w0 Lr} : ∀ a r, M.tidepoleref12_closed_l4 a = some r → (L.zp nz wz S0 w0 Lr) a r := (W.zr).2.2.2.2.1

theorem W.zq {nz wz S0 w0 Lr} : ∀ a r, M.tidepoleref12_closed_l5 a = some r → (L.zq nz wz S0 w0 Lr) a r := (W.zr).2.2.2.2.2

def J6h := Zs [1, 1] B24 []
def Q3v := sub [1, 0] B24
def J6i := Zr Q3v [0, 1, 2, 3] J6h
def J6j := Zr Q3v [2, 3] J6h

theorem W.zk (x0 : List T45) (x1 : List Bool) (r : List Bool) (h : M.tidepoleref12_closed x0 x1 = some r) {nz wz S0 w0 Lr} (Ax0 nx0 cx0 Ax1 nx1 cx1) (p0 : Hp nz wz S0 w0 (Lr)) (fx0 : Rd kT45 S0 w0 Ax0 cx0 x0) (lx0 : x0.length = nx0) (fx1 : Rd kBool S0 w0 Ax1 cx1 x1) (lx1 : x1.length = nx1) :
  Calls Tryz.prog 24 #[.slice Ax0 nx0 cx0, .slice Ax1 nx1 cx1] w0 (Rets (Post.zk nz wz S0 w0 Lr r)) := by
 subst lx0
 subst lx1
 refine Zf Tryz.f24 B24 86 ?_
 refine Gj 88 [(0, .slice Ax0 x0.length cx0), (1, .slice Ax1 x1.length cx1)] fun junk => ?_
 delta M.tidepoleref12_closed at h
 refine Gn 6 [(4, .slice none 0 0)] J6i ?_
 have f2 : Els kBool S0 w0 ([] : List Value) ([] : List Bool) := by exact Els.nil
 refine Op_.made (.buildSlice 24 0 #[]) 9 24 (fun b => .slice (Gp (some b)) 0 0) 4 ([] : List Value) p0 Goes.v (by kernel_rfl) ?_
 intro b1 w2 z2 p2
 have p2 : Hp nz wz S0 w2 (((some b1), .row 4 ([] : List Value) (0 * kBool.size) 0) :: Lr) := p2
 refine Gn 1 [(10, .slice Ax1 x1.length cx1)] J6j ?_
 obtain ⟨ns4, f5, f6⟩ := src_rd (fx1.ext z2)
 refine guard_some' h fun g7 h => ?_
 refine Op_.ap_n (K := kBool) 24 (.tmp 9) (.tmp 10) 11 24 4 0 (.bool false) 1 0 0 x1.length ([] : List Bool) x1 x1 Ax1 cx1 rfl rfl (List.nil_append _) p2 rfl (f2.ext z2) Goes.v (by kernel_rfl) (by kernel_rfl) (by kernel_rfl) (by kernel_rfl) rfl (by decide) f5 f6 (by have := g7; omega) (by have := g7; omega) ?_
 intro w3 G8 c9 u5g z3 p3 f11
 refine Gn 9 [(5, .slice (Gp G8) x1.length c9), (6, .i 0)] J5e ?_
 exact Gj 88 [(0, .slice Ax0 x0.length cx0), (5, .slice (Gp G8) x1.length c9), (6, .i 0)] (W.zl _ _ h _ _ (((Ext.refl S0 w0).trans z2).trans z3) Ax0 x0.length cx0 G8 x1.length c9 u5g p3 (fx0.ext (z2.trans z3)) rfl f11 rfl)

def J6k := Zs [1, 1] B7 []
def J6l := Zt [1, 0] B7 [2, 3] J6k
def J6m := Zs [1, 1, 1] B7 []
def J6n := Zt [1, 1, 0] B7 [1, 2] J6m
def J6o := Zs [1, 1, 1, 1] B7 []
def J6p := Zt [1, 1, 1, 0] B7 [2, 3] J6o

def Post.zs (r : List Bool) (v : Value) (w' : World) : Prop :=
 ∃ S' Gq nq cq csq, v = .slice (Gp Gq) nq cq ∧ Ext S0 w0 S' w' ∧ Hp nz wz S' w' ((Gq, .row 4 csq (cq * kBool.size) 0) :: Lr) ∧ Els kBool S' w' csq r ∧ r.length = nq

theorem W.zs (x0 : List T45) (r : List Bool) (h : M.tidepoleref12_Begin x0 = some r) {nz wz S0 w0 Lr} (Ax0 nx0 cx0) (p0 : Hp nz wz S0 w0 (Lr)) (fx0 : Rd kT45 S0 w0 Ax0 cx0 x0) (lx0 : x0.length = nx0) :
  Calls Tryz.prog 7 #[.slice Ax0 nx0 cx0] w0 (Rets (Post.zs nz wz S0 w0 Lr r)) := by
 subst lx0
 refine Zf Tryz.f7 B7 11 ?_
 refine Gj 12 [(0, .slice Ax0 x0.length cx0)] fun junk => ?_
 delta M.tidepoleref12_Begin at h
 refine Gn 8 [(2, .slice none 0 0), (4, .slice Ax0 x0.length cx0), (5, .i (x0.length : Int))] J6l ?_
 refine guard_some' h fun g1 h => ?_
 refine let_some h fun v2 e3 h => ?_
 refine Op_.mk_n (K := kBool) 24 (.tmp 5) (.tmp 5) 6 24 4 .i64 .i64 (x0.length : Int) (x0.length : Int) (.bool false) [.bool false] 1 (false : Bool) v2 e3 p0 Goes.v (by kernel_rfl) (by kernel_rfl) (by kernel_rfl) (by kernel_rfl) (by kernel_rfl) (fun _ _ => rfl) (Int.natCast_nonneg _) (Int.le_refl _) (by have := g1; omega) (by have := g1; omega) ?_
 intro b4 w2 cs5 z2 p2 f6
 refine Gn 5 [(3, .slice (Gp (some b4)) v2.length (((x0.length : Int) : Int).toNat)), (7, .slice (Gp (some b4)) v2.length (((x0.length : Int) : Int).toNat))] J6n ?_
 refine guard_some' h fun g8 h => ?_
 refine Op_.ixO_n 24 (.tmp 7) (.const (.int .i64 0)) 8 0 4 .i64 0 0 v2.length (((x0.length : Int) : Int).toNat) (gi v2 0) rfl rfl p2 rfl f6 Goes.v (by kernel_rfl) (by kernel_rfl) (by kernel_rfl) (by kernel_rfl) (by decide) (by decide : (0 : Int) ≤ 0) g8 ?_
 rintro b9 _ e12 q11 f10
 injection e12 with u5h; subst u5h
 obtain rfl := q11
 refine Op_.stE_n (K := kBool) 4 (.tmp 8) (.const (.bool true)) 0 0 0 (.bool true) [.bool true] true (si v2 0 true) v2.length rfl rfl p2 rfl f6 Goes.s (by kernel_rfl) (by kernel_rfl) (by kernel_rfl) rfl (by kernel_rfl) (by decide : (0 : Int) ≤ 0) g8 (Nat.zero_le _) ?_
 intro w3 u5i z3 p3 f14 l15
 refine Gn 5 [(9, .slice Ax0 x0.length cx0), (10, .slice (Gp (some b4)) v2.length (((x0.length : Int) : Int).toNat))] J6p ?_
 obtain ⟨S4, z4, p4, f16⟩ := p3.freezeRd 0 rfl f14 (by decide)
 refine bind_some' h fun y17 e18 h => ?_
 refine Gc (kc 24 [9, 10] #[22, 24]) 11 24 24 _ (W.zk x0 (si v2 0 true) y17 e18 Ax0 x0.length cx0 (Gp (some b4)) v2.length (((x0.length : Int) : Int).toNat) p4 (fx0.ext ((z2.trans z3).trans z4)) rfl f16 l15) ?_
 rintro _ w5 ⟨S5, u5j, u5k, u5l, u5m, rfl, z5, p5, u5n, rfl⟩
 have p5 := p5.dp 1
 refine Gn 2 [(2, .slice (Gp u5j) y17.length u5l)] J6o ?_
 obtain rfl := Option.some.inj h
 exact Goes.rt Tryz.f7 (.slice (Gp u5j) y17.length u5l) ⟨S5, u5j, y17.length, u5l, u5m, rfl, (((((Ext.refl S0 w0).trans z2).trans z3).trans z4).trans z5), p5, u5n, rfl⟩

def J6q := Zs [1, 1] B12 []
def J6r := Zb 0 J6q
def Q43 := sub [1, 0, 1, 0, 0] B12
def J6s := Zl Q43 J6r
def J6t := Zc Q43 J6s
def J6u := Zs [1, 0, 1, 0, 0, 1, 1] B12 J6s
def J6v := Zb 1 J6u
def J6w := Zs [1, 0, 1, 0, 0, 1, 0, 0, 1] B12 J6v
def J6x := Zs [1, 0, 1, 0, 0, 1] B12 J6s
def J6y := Zs [1, 0, 1, 0, 0, 0, 1] B12 J6x
def Q48 := sub [1, 0, 1, 0, 0, 1, 0, 0, 0] B12
def J6z := Zr Q48 [2, 3, 4, 5, 6, 7, 8, 9, 10, 11] J6w
def J70 := Zr Q48 [5, 6, 7, 8, 9, 10, 11] J6w
def J71 := Zr Q48 [7, 8, 9, 10, 11] J6w
def J72 := Zr Q48 [9, 10, 11] J6w
def J73 := Zs [1, 1, 1] B12 []
def J74 := Zs [1, 0, 1, 0, 0, 1, 0, 0, 1, 0, 1] B12 J6v

def Post.zt (r : Bool) (v : Value) (w' : World) : Prop :=
 ∃ S', v = .bool r ∧ Ext S0 w0 S' w' ∧ Hp nz wz S' w' (Lr)

def L.zu : (List T45) × (List Bool) × Int → Bool → Prop := fun ⟨x0, x1, x5⟩ r => ∀ S1 w1, Ext S0 w0 S1 w1 → ∀ Ax0 nx0 cx0 Ax1 nx1 cx1 (_ : Hp nz wz S1 w1 (Lr)) (_ : Rd kT45 S1 w1 Ax0 cx0 x0) (_ : x0.length = nx0) (_ : Rd kBool S1 w1 Ax1 cx1 x1) (_ : x1.length = nx1) (junk : Nat → Value),
 Goes Tryz.prog (base 12) J6t ⟨lfr 24 [(0, .slice Ax0 nx0 cx0), (1, .slice Ax1 nx1 cx1), (5, .i x5)] junk, []⟩ w1 (Done Tryz.prog 12 (Rets (Post.zt nz wz S0 w0 Lr r)))

def L.zv : (List T45) × (List Bool) × Int × Bool → Bool → Prop := fun ⟨x0, x1, x5, x23⟩ r => ∀ S1 w1, Ext S0 w0 S1 w1 → ∀ Ax0 nx0 cx0 Ax1 nx1 cx1 (_ : Hp nz wz S1 w1 (Lr)) (_ : Rd kT45 S1 w1 Ax0 cx0 x0) (_ : x0.length = nx0) (_ : Rd kBool S1 w1 Ax1 cx1 x1) (_ : x1.length = nx1) (junk : Nat → Value),
 Goes Tryz.prog (base 12) J6w ⟨lfr 24 [(0, .slice Ax0 nx0 cx0), (1, .slice Ax1 nx1 cx1), (5, .i x5), (23, .bool x23)] junk, []⟩ w1 (Done Tryz.prog 12 (Rets (Post.zt nz wz S0 w0 Lr r)))

theorem W.zw {nz wz S0 w0 Lr} : (∀ a r, M.tidepoleref12_Accepts_l0 a = some r → (L.zu nz wz S0 w0 Lr) a r) ∧ (∀ a r, M.tidepoleref12_Accepts_l1 a = some r → (L.zv nz wz S0 w0 Lr) a r) := by
 refine M.tidepoleref12_Accepts_l0.mutual_partial_correctness (L.zu nz wz S0 w0 Lr) (L.zv nz wz S0 w0 Lr) ?_ ?_
 ·
  intro u5o u5p ⟨x0, x1, x5⟩ r h S1 w1 hx Ax0 nx0 cx0 Ax1 nx1 cx1 p1 fx0 lx0 fx1 lx1 junk
  try dsimp only at h
  subst lx0
  subst lx1
  refine Gn 8 [(6, .i x5), (7, .slice Ax0 x0.length cx0), (8, .i (x0.length : Int)), (9, .bool (decide (x5 < (x0.length : Int))))] J6y ?_
  refine ite_some h (fun h1 h => ?_) (fun h1 h => ?_)
  ·
   rw [decide_eq_true h1]
   refine Gn 8 [(12, .slice Ax1 x1.length cx1), (13, .i x5)] J6z ?_
   refine guard_some' h fun g2 h => ?_
   refine guard_some' h fun g3 h => ?_
   refine Op_.ixR_n 24 (.tmp 12) (.tmp 13) 14 0 4 .i64 x5 (gi x1 x5) rfl rfl fx1 Goes.v (by kernel_rfl) (by kernel_rfl) (by kernel_rfl) (by kernel_rfl) g2 g3 ?_
   intro a4 _ f5 q6
   obtain rfl := q6
   refine Goes.ld 4 (.tmp 14) 15 4 a4 (.bool (gi x1 x5)) (f5.cell 0 _ rfl) ?_
   refine Gn 1 [(16, .bool (gi x1 x5))] J70 ?_
   refine ite_some h (fun h7 h => ?_) (fun h7 h => ?_)
   ·
    rw [h7]
    refine Gn 2 [(17, .slice Ax0 x0.length cx0), (18, .i x5)] J71 ?_
    refine Op_.ixR_n 22 (.tmp 17) (.tmp 18) 19 0 46 .i64 x5 (gi x0 x5) rfl rfl fx0 Goes.v (by kernel_rfl) (by kernel_rfl) (by kernel_rfl) (by kernel_rfl) g2 h1 ?_
    intro a8 _ f9 q10
    obtain ⟨_, _, rfl, rfl, ⟨_, _, rfl, ⟨l11, f12⟩, ⟨_, _, rfl, rfl, rfl⟩⟩⟩ := q10
    obtain rfl := els_lit4' f12 l11
    refine Gn 1 [(20, .pointer (some (Addr.add a8 0)))] J72 ?_
    refine Goes.ld 3 (.tmp 20) 21 3 (Addr.add a8 0) (.i ((gi x0 x5).Op)) ((Cs.left (us := [.i ((gi x0 x5).Op)]) (vs := (U4 ((gi x0 x5).Set) [.i ((gi x0 x5).X), .i ((gi x0 x5).Y)])) (Cs.add (us := []) (vs := (.i ((gi x0 x5).Op) :: U4 ((gi x0 x5).Set) [.i ((gi x0 x5).X), .i ((gi x0 x5).Y)])) f9)).cell 0 _ rfl) ?_
    refine Gn 3 [(22, .bool (decide ((gi x0 x5).Op = 3))), (23, .bool (decide ((gi x0 x5).Op = 3)))] J6w ?_
    exact Gj 24 [(0, .slice Ax0 x0.length cx0), (1, .slice Ax1 x1.length cx1), (5, .i x5), (23, .bool (decide ((gi x0 x5).Op = 3)))] (u5p _ _ h _ _ hx Ax0 x0.length cx0 Ax1 x1.length cx1 p1 fx0 rfl fx1 rfl)
   ·
    have h7' : (gi x1 x5) = false := by simpa using h7
    rw [h7']
    refine Gn 8 [(17, undef), (18, undef), (19, undef), (20, undef), (21, undef), (22, undef), (23, .bool false)] J6w ?_
    exact Gj 24 [(0, .slice Ax0 x0.length cx0), (1, .slice Ax1 x1.length cx1), (5, .i x5), (23, .bool false)] (u5p _ _ h _ _ hx Ax0 x0.length cx0 Ax1 x1.length cx1 p1 fx0 rfl fx1 rfl)
  ·
   rw [decide_eq_false h1]
   refine Gn 6 [(4, .bool false)] J73 ?_
   obtain rfl := Option.some.inj h
   exact Goes.rt Tryz.f12 (.bool false) ⟨S1, rfl, hx, p1⟩
 ·
  intro u5q u5r ⟨x0, x1, x5, x23⟩ r h S1 w1 hx Ax0 nx0 cx0 Ax1 nx1 cx1 p1 fx0 lx0 fx1 lx1 junk
  try dsimp only at h
  subst lx0
  subst lx1
  refine ite_some h (fun h13 h => ?_) (fun h13 h => ?_)
  ·
   rw [h13]
   refine Gn 5 [(4, .bool true)] J74 ?_
   obtain rfl := Option.some.inj h
   exact Goes.rt Tryz.f12 (.bool true) ⟨S1, rfl, hx, p1⟩
  ·
   have u2 : x23 = false := by simpa using h13
   rw [u2]
   refine Gn 9 [(10, .i x5), (11, .i (wr .i64 (x5 + 1))), (5, .i (wr .i64 (x5 + 1)))] J6t ?_
   exact Gj 24 [(0, .slice Ax0 x0.length cx0), (1, .slice Ax1 x1.length cx1), (5, .i (wr .i64 (x5 + 1)))] (u5r _ _ h _ _ hx Ax0 x0.length cx0 Ax1 x1.length cx1 p1 fx0 rfl fx1 rfl)

theorem W.zu {nz wz S0 w0 Lr} : ∀ a r, M.tidepoleref12_Accepts_l0 a = some r → (L.zu nz wz S0 w0 Lr) a r := (W.zw).1

theorem W.zv {nz wz S0 w0 Lr} : ∀ a r, M.tidepoleref12_Accepts_l1 a = some r → (L.zv nz wz S0 w0 Lr) a r := (W.zw).2

theorem W.zt (x0 : List T45) (x1 : List Bool) (r : Bool) (h : M.tidepoleref12_Accepts x0 x1 = some r) {nz wz S0 w0 Lr} (Ax0 nx0 cx0 Ax1 nx1 cx1) (p0 : Hp nz wz S0 w0 (Lr)) (fx0 : Rd kT45 S0 w0 Ax0 cx0 x0) (lx0 : x0.length = nx0) (fx1 : Rd kBool S0 w0 Ax1 cx1 x1) (lx1 : x1.length = nx1) :
  Calls Tryz.prog 12 #[.slice Ax0 nx0 cx0, .slice Ax1 nx1 cx1] w0 (Rets (Post.zt nz wz S0 w0 Lr r)) := by
 subst lx0
 subst lx1
 refine Zf Tryz.f12 B12 22 ?_
 refine Gj 24 [(0, .slice Ax0 x0.length cx0), (1, .slice Ax1 x1.length cx1)] fun junk => ?_
 delta M.tidepoleref12_Accepts at h
 refine Gn 11 [(4, .bool false), (5, .i 0)] J6t ?_
 exact Gj 24 [(0, .slice Ax0 x0.length cx0), (1, .slice Ax1 x1.length cx1), (5, .i 0)] (W.zu _ _ h _ _ (Ext.refl S0 w0) Ax0 x0.length cx0 Ax1 x1.length cx1 p0 fx0 rfl fx1 rfl)

def J75 := Zs [1] B32 []
def J76 := Zt [0] B32 [0, 1] J75
def J77 := Zs [1, 1] B32 []
def Q4e := sub [1, 0] B32
def J78 := Zr Q4e [2, 3, 4, 5, 6, 7, 8, 9] J77
def J79 := Zr Q4e [6, 7, 8, 9] J77

def Post.zx (r : Bool) (v : Value) (w' : World) : Prop :=
 ∃ S', v = .bool r ∧ Ext S0 w0 S' w' ∧ Hp nz wz S' w' (Lr)

theorem W.zx (x0 : List Int) (x1 : Int) (r : Bool) (h : M.tidepoleref10_Has x0 x1 = some r) {nz wz S0 w0 Lr} (u5s) (p0 : Hp nz wz S0 w0 (Lr)) (fx0 : Els (kInt .u64) S0 w0 u5s x0) (lx0 : u5s.length = 4) :
  Calls Tryz.prog 32 #[.agg u5s.toArray, .int .u8 x1] w0 (Rets (Post.zx nz wz S0 w0 Lr r)) := by
 refine Zf Tryz.f32 B32 12 ?_
 refine Gj 14 [(0, .agg u5s.toArray), (1, .int .u8 x1)] fun junk => ?_
 delta M.tidepoleref10_Has at h
 refine Gn 2 [] J76 ?_
 refine Op_.box 44 (.tmp 0) 2 0 (.agg u5s.toArray) u5s p0 Goes.v (by kernel_rfl) rfl ?_
 intro b1 w2 z2 p2
 replace p2 : Hp nz wz S0 w2 ((some b1, .row 44 u5s 4 0) :: Lr) := by rw [show (u5s).length = 4 from lx0] at p2; exact p2
 refine Gn 6 [(4, .bool false), (5, .int .u8 x1), (6, .int .u8 (iquo .u8 x1 64))] J78 ?_
 refine guard_some' h fun g3 h => ?_
 refine guard_some' h fun g4 h => ?_
 refine Op_.ixA_n (K := (kInt .u64)) 44 (.tmp 2) (.tmp 6) 7 0 42 4 .u8 (iquo .u8 x1 64) 0 (gi x0 (iquo .u8 x1 64)) rfl p2 rfl (fx0.ext z2) (Els.len1 (fx0.ext z2) lx0 rfl) Goes.v (by kernel_rfl) (by kernel_rfl) (by kernel_rfl) (by kernel_rfl) g3 g4 ?_
 intro _ q6 f5
 obtain rfl := q6
 refine Goes.ld 42 (.tmp 7) 8 42 ⟨b1, (iquo .u8 x1 64 : Int).toNat * (kInt .u64).size, none⟩ (.u (gi x0 (iquo .u8 x1 64))) (f5 0 _ rfl) ?_
 refine Gn 2 [(9, .int .u8 x1), (10, .int .u8 (irem .u8 x1 64))] J79 ?_
 refine guard_some' h fun g7 h => ?_
 refine Op_.binshr 42 (.tmp 8) (.tmp 10) 5 11 42 .u64 .u8 (gi x0 (iquo .u8 x1 64)) (irem .u8 x1 64) Goes.v (by kernel_rfl) (by kernel_rfl) g7 ?_
 refine Gn 4 [(12, .u (irem .u64 (ishr .u64 (gi x0 (iquo .u8 x1 64)) (irem .u8 x1 64)) 2)), (13, .bool (decide (irem .u64 (ishr .u64 (gi x0 (iquo .u8 x1 64)) (irem .u8 x1 64)) 2 = 1))), (4, .bool (decide (irem .u64 (ishr .u64 (gi x0 (iquo .u8 x1 64)) (irem .u8 x1 64)) 2 = 1)))] J77 ?_
 obtain rfl := Option.some.inj h
 have p2 := p2.dp 0
 exact Goes.rt Tryz.f32 (.bool (decide (irem .u64 (ishr .u64 (gi x0 (iquo .u8 x1 64)) (irem .u8 x1 64)) 2 = 1))) ⟨S0, rfl, ((Ext.refl S0 w0).trans z2), p2⟩

def J7a := Zs [1, 1, 1] B15 []
def J7b := Zb 0 J7a
def Q4g := sub [1, 1, 0, 1, 0, 0] B15
def J7c := Zl Q4g J7b
def J7d := Zc Q4g J7c
def J7e := Zs [1, 1, 0, 1, 0, 0, 1, 1] B15 J7c
def J7f := Zb 1 J7e
def J7g := Zs [1, 1, 0, 1, 0, 0, 1, 0, 0, 1] B15 J7f
def J7h := Zs [1, 1, 0, 1, 0, 0, 1] B15 J7c
def J7i := Zs [1, 1, 0, 1, 0, 0, 0, 1] B15 J7h
def Q4l := sub [1, 1, 0, 1, 0, 0, 1, 0, 0, 0] B15
def J7j := Zr Q4l [2, 3, 4, 5, 6, 7, 8, 9, 10, 11, 12, 13, 14, 15, 16, 17, 18, 19, 20] J7g
def J7k := Zr Q4l [5, 6, 7, 8, 9, 10, 11, 12, 13, 14, 15, 16, 17, 18, 19, 20] J7g
def J7l := Zr Q4l [7, 8, 9, 10, 11, 12, 13, 14, 15, 16, 17, 18, 19, 20] J7g
def J7m := Zr Q4l [9, 10, 11, 12, 13, 14, 15, 16, 17, 18, 19, 20] J7g
def J7n := Zr Q4l [13, 14, 15, 16, 17, 18, 19, 20] J7g
def J7o := Zr Q4l [15, 16, 17, 18, 19, 20] J7g
def J7p := Zr Q4l [17, 18, 19, 20] J7g
def J7q := Zr Q4l [19, 20] J7g
def J7r := Zs [1, 1, 1, 1] B15 []
def J7s := Zt [1, 1, 1, 0] B15 [2, 3] J7r
def Q4o := sub [1, 1, 0, 1, 0, 0, 1, 0, 0, 1, 0] B15
def J7t := Zr Q4o [3, 4, 5, 6, 7] J7f
def J7u := Zr Q4o [5, 6, 7] J7f

def Post.zy (r : List Bool) (v : Value) (w' : World) : Prop :=
 ∃ S' Gq nq cq csq, v = .slice (Gp Gq) nq cq ∧ Ext S0 w0 S' w' ∧ Hp nz wz S' w' ((Gq, .row 4 csq (cq * kBool.size) 0) :: Lr) ∧ Els kBool S' w' csq r ∧ r.length = nq

def L.zz : (List T45) × (List Bool) × Int × (List Bool) × Int → (List Bool) → Prop := fun ⟨x0, x1, x2, x7, x8⟩ r => ∀ S1 w1, Ext S0 w0 S1 w1 → ∀ Ax0 nx0 cx0 Ax1 nx1 cx1 Gx7 nx7 cx7 u5t (_ : Hp nz wz S1 w1 ((Gx7, .row 4 u5t (cx7 * kBool.size) 0) :: Lr)) (_ : Rd kT45 S1 w1 Ax0 cx0 x0) (_ : x0.length = nx0) (_ : Rd kBool S1 w1 Ax1 cx1 x1) (_ : x1.length = nx1) (_ : Els kBool S1 w1 u5t x7) (_ : x7.length = nx7) (junk : Nat → Value),
 Goes Tryz.prog (base 15) J7d ⟨lfr 49 [(0, .slice Ax0 nx0 cx0), (1, .slice Ax1 nx1 cx1), (2, .int .u8 x2), (7, .slice (Gp Gx7) nx7 cx7), (8, .i x8)] junk, []⟩ w1 (Done Tryz.prog 15 (Rets (Post.zy nz wz S0 w0 Lr r)))

def L.z10 : (List T45) × (List Bool) × Int × (List Bool) × Int × Bool → (List Bool) → Prop := fun ⟨x0, x1, x2, x7, x8, x38⟩ r => ∀ S1 w1, Ext S0 w0 S1 w1 → ∀ Ax0 nx0 cx0 Ax1 nx1 cx1 Gx7 nx7 cx7 u5t (_ : Hp nz wz S1 w1 ((Gx7, .row 4 u5t (cx7 * kBool.size) 0) :: Lr)) (_ : Rd kT45 S1 w1 Ax0 cx0 x0) (_ : x0.length = nx0) (_ : Rd kBool S1 w1 Ax1 cx1 x1) (_ : x1.length = nx1) (_ : Els kBool S1 w1 u5t x7) (_ : x7.length = nx7) (junk : Nat → Value),
 Goes Tryz.prog (base 15) J7g ⟨lfr 49 [(0, .slice Ax0 nx0 cx0), (1, .slice Ax1 nx1 cx1), (2, .int .u8 x2), (7, .slice (Gp Gx7) nx7 cx7), (8, .i x8), (38, .bool x38)] junk, []⟩ w1 (Done Tryz.prog 15 (Rets (Post.zy nz wz S0 w0 Lr r)))

def L.z11 : (List T45) × (List Bool) × Int × (List Bool) × Int → (List Bool) → Prop := fun ⟨x0, x1, x2, x7, x8⟩ r => ∀ S1 w1, Ext S0 w0 S1 w1 → ∀ Ax0 nx0 cx0 Ax1 nx1 cx1 Gx7 nx7 cx7 u5t (_ : Hp nz wz S1 w1 ((Gx7, .row 4 u5t (cx7 * kBool.size) 0) :: Lr)) (_ : Rd kT45 S1 w1 Ax0 cx0 x0) (_ : x0.length = nx0) (_ : Rd kBool S1 w1 Ax1 cx1 x1) (_ : x1.length = nx1) (_ : Els kBool S1 w1 u5t x7) (_ : x7.length = nx7) (junk : Nat → Value),
 Goes Tryz.prog (base 15) J7f ⟨lfr 49 [(0, .slice Ax0 nx0 cx0), (1, .slice Ax1 nx1 cx1), (2, .int .u8 x2), (7, .slice (Gp Gx7) nx7 cx7), (8, .i x8)] junk, []⟩ w1 (Done Tryz.prog 15 (Rets (Post.zy nz wz S0 w0 Lr r)))

theorem W.z12 {nz wz S0 w0 Lr} : (∀ a r, M.tidepoleref12_Step_l0 a = some r → (L.zz nz wz S0 w0 Lr) a r) ∧ (∀ a r, M.tidepoleref12_Step_l1 a = some r → (L.z10 nz wz S0 w0 Lr) a r) ∧ (∀ a r, M.tidepoleref12_Step_l2 a = some r → (L.z11 nz wz S0 w0 Lr) a r) := by
 refine M.tidepoleref12_Step_l0.mutual_partial_correctness (L.zz nz wz S0 w0 Lr) (L.z10 nz wz S0 w0 Lr) (L.z11 nz wz S0 w0 Lr) ?_ ?_ ?_
 ·
  intro u5u u5v ⟨x0, x1, x2, x7, x8⟩ r h S1 w1 hx Ax0 nx0 cx0 Ax1 nx1 cx1 Gx7 nx7 cx7 u5t p1 fx0 lx0 fx1 lx1 fx7 lx7 junk
  try dsimp only at h
  subst lx0
  subst lx1
  subst lx7
  refine Gn 8 [(12, .i x8), (13, .slice Ax0 x0.length cx0), (14, .i (x0.length : Int)), (15, .bool (decide (x8 < (x0.length : Int))))] J7i ?_
  refine ite_some h (fun h9 h => ?_) (fun h9 h => ?_)
  ·
   rw [decide_eq_true h9]
   refine Gn 8 [(18, .slice Ax1 x1.length cx1), (19, .i x8)] J7j ?_
   refine guard_some' h fun g10 h => ?_
   refine guard_some' h fun g11 h => ?_
   refine Op_.ixR_n 24 (.tmp 18) (.tmp 19) 20 0 4 .i64 x8 (gi x1 x8) rfl rfl fx1 Goes.v (by kernel_rfl) (by kernel_rfl) (by kernel_rfl) (by kernel_rfl) g10 g11 ?_
   intro a12 _ f13 q14
   obtain rfl := q14
   refine Goes.ld 4 (.tmp 20) 21 4 a12 (.bool (gi x1 x8)) (f13.cell 0 _ rfl) ?_
   refine Gn 1 [(22, .bool (gi x1 x8))] J7k ?_
   refine ite_some h (fun h15 h => ?_) (fun h15 h => ?_)
   ·
    rw [h15]
    refine Gn 2 [(23, .slice Ax0 x0.length cx0), (24, .i x8)] J7l ?_
    refine Op_.ixR_n 22 (.tmp 23) (.tmp 24) 25 0 46 .i64 x8 (gi x0 x8) rfl rfl fx0 Goes.v (by kernel_rfl) (by kernel_rfl) (by kernel_rfl) (by kernel_rfl) g10 h9 ?_
    intro a16 _ f17 q18
    obtain ⟨_, _, rfl, rfl, ⟨_, _, rfl, ⟨l19, f20⟩, ⟨_, _, rfl, rfl, rfl⟩⟩⟩ := q18
    obtain rfl := els_lit4' f20 l19
    refine Gn 1 [(26, .pointer (some (Addr.add a16 0)))] J7m ?_
    refine Goes.ld 3 (.tmp 26) 27 3 (Addr.add a16 0) (.i ((gi x0 x8).Op)) ((Cs.left (us := [.i ((gi x0 x8).Op)]) (vs := (U4 ((gi x0 x8).Set) [.i ((gi x0 x8).X), .i ((gi x0 x8).Y)])) (Cs.add (us := []) (vs := (.i ((gi x0 x8).Op) :: U4 ((gi x0 x8).Set) [.i ((gi x0 x8).X), .i ((gi x0 x8).Y)])) f17)).cell 0 _ rfl) ?_
    refine Gn 3 [(28, .bool (decide ((gi x0 x8).Op = 1))), (29, .bool (decide ((gi x0 x8).Op = 1))), (30, .bool (decide ((gi x0 x8).Op = 1)))] J7n ?_
    refine ite_some h (fun h21 h => ?_) (fun h21 h => ?_)
    ·
     rw [decide_eq_true h21]
     refine Gn 2 [(31, .slice Ax0 x0.length cx0), (32, .i x8)] J7o ?_
     refine Op_.ixR_n 22 (.tmp 31) (.tmp 32) 33 0 46 .i64 x8 (gi x0 x8) rfl rfl fx0 Goes.v (by kernel_rfl) (by kernel_rfl) (by kernel_rfl) (by kernel_rfl) g10 h9 ?_
     intro a22 _ f23 q24
     obtain ⟨_, _, rfl, rfl, ⟨_, _, rfl, ⟨l25, f26⟩, ⟨_, _, rfl, rfl, rfl⟩⟩⟩ := q24
     obtain rfl := els_lit4' f26 l25
     refine Gn 1 [(34, .pointer (some (Addr.add a22 1)))] J7p ?_
     refine Goes.ldN 44 (.tmp 34) 35 44 (Addr.add a22 1) (U4 ((gi x0 x8).Set) []) ((Cs.left (us := (U4 ((gi x0 x8).Set) [])) (vs := [.i ((gi x0 x8).X), .i ((gi x0 x8).Y)]) (Cs.add (us := [.i ((gi x0 x8).Op)]) (vs := (U4 ((gi x0 x8).Set) [.i ((gi x0 x8).X), .i ((gi x0 x8).Y)])) f23)).cell) ?_
     refine Gn 1 [(36, .int .u8 x2)] J7q ?_
     refine bind_some' h fun y27 e28 h => ?_
     refine Gc (kc 32 [35, 36] #[44, 5]) 37 4 32 _ (W.zx ((gi x0 x8).Set) x2 y27 e28 ((U4 ((gi x0 x8).Set) []) : List Value) p1 (els_mk4 (S := S1) (w := w1) (k := .u64) l25) rfl) ?_
     rintro _ w3 ⟨S3, rfl, z3, p3⟩
     refine Gn 2 [(38, .bool y27)] J7g ?_
     exact Gj 49 [(0, .slice Ax0 x0.length cx0), (1, .slice Ax1 x1.length cx1), (2, .int .u8 x2), (7, .slice (Gp Gx7) x7.length cx7), (8, .i x8), (38, .bool y27)] (u5v _ _ h _ _ (hx.trans z3) Ax0 x0.length cx0 Ax1 x1.length cx1 Gx7 x7.length cx7 u5t p3 (fx0.ext z3) rfl (fx1.ext z3) rfl (fx7.ext z3) rfl)
    ·
     rw [decide_eq_false h21]
     refine Gn 9 [(31, undef), (32, undef), (33, undef), (34, undef), (35, undef), (36, undef), (37, undef), (38, .bool false)] J7g ?_
     exact Gj 49 [(0, .slice Ax0 x0.length cx0), (1, .slice Ax1 x1.length cx1), (2, .int .u8 x2), (7, .slice (Gp Gx7) x7.length cx7), (8, .i x8), (38, .bool false)] (u5v _ _ h _ _ hx Ax0 x0.length cx0 Ax1 x1.length cx1 Gx7 x7.length cx7 u5t p1 fx0 rfl fx1 rfl fx7 rfl)
   ·
    have ub : (gi x1 x8) = false := by simpa using h15
    rw [ub]
    refine Gn 14 [(23, undef), (24, undef), (25, undef), (26, undef), (27, undef), (28, undef), (29, .bool false), (30, .bool false), (31, undef), (32, undef), (33, undef), (34, undef), (35, undef), (36, undef)] J7q ?_
    refine Gn 3 [(37, undef), (38, .bool false)] J7g ?_
    exact Gj 49 [(0, .slice Ax0 x0.length cx0), (1, .slice Ax1 x1.length cx1), (2, .int .u8 x2), (7, .slice (Gp Gx7) x7.length cx7), (8, .i x8), (38, .bool false)] (u5v _ _ h _ _ hx Ax0 x0.length cx0 Ax1 x1.length cx1 Gx7 x7.length cx7 u5t p1 fx0 rfl fx1 rfl fx7 rfl)
  ·
   rw [decide_eq_false h9]
   refine Gn 6 [(46, .slice Ax0 x0.length cx0), (47, .slice (Gp Gx7) x7.length cx7)] J7s ?_
   obtain ⟨S4, z4, p4, f30⟩ := p1.freezeRd 0 rfl fx7 (by decide)
   refine bind_some' h fun y31 e32 h => ?_
   refine Gc (kc 24 [46, 47] #[22, 24]) 48 24 24 _ (W.zk x0 x7 y31 e32 Ax0 x0.length cx0 (Gp Gx7) x7.length cx7 p4 (fx0.ext z4) rfl f30 rfl) ?_
   rintro _ w5 ⟨S5, u5j, u5k, u5l, u5m, rfl, z5, p5, u5n, rfl⟩
   have p5 := p5.dp 1
   refine Gn 2 [(6, .slice (Gp u5j) y31.length u5l)] J7r ?_
   obtain rfl := Option.some.inj h
   exact Goes.rt Tryz.f15 (.slice (Gp u5j) y31.length u5l) ⟨S5, u5j, y31.length, u5l, u5m, rfl, ((hx.trans z4).trans z5), p5, u5n, rfl⟩
 ·
  intro u5w u5x ⟨x0, x1, x2, x7, x8, x38⟩ r h S1 w1 hx Ax0 nx0 cx0 Ax1 nx1 cx1 Gx7 nx7 cx7 u5t p1 fx0 lx0 fx1 lx1 fx7 lx7 junk
  try dsimp only at h
  subst lx0
  subst lx1
  subst lx7
  refine ite_some h (fun h34 h => ?_) (fun h34 h => ?_)
  ·
   rw [h34]
   refine Gn 5 [(39, .slice (Gp Gx7) x7.length cx7), (40, .slice Ax0 x0.length cx0), (41, .i x8)] J7t ?_
   refine guard_some' h fun g35 h => ?_
   refine guard_some' h fun g36 h => ?_
   refine Op_.ixR_n 22 (.tmp 40) (.tmp 41) 42 0 46 .i64 x8 (gi x0 x8) rfl rfl fx0 Goes.v (by kernel_rfl) (by kernel_rfl) (by kernel_rfl) (by kernel_rfl) g35 g36 ?_
   intro a37 _ f38 q39
   obtain ⟨_, _, rfl, rfl, ⟨_, _, rfl, ⟨l40, f41⟩, ⟨_, _, rfl, rfl, rfl⟩⟩⟩ := q39
   obtain rfl := els_lit4' f41 l40
   refine Gn 1 [(43, .pointer (some (Addr.add a37 5)))] J7u ?_
   refine Goes.ld 3 (.tmp 43) 44 3 (Addr.add a37 5) (.i ((gi x0 x8).X)) ((Cs.left (us := [.i ((gi x0 x8).X)]) (vs := [.i ((gi x0 x8).Y)]) (Cs.add (us := (.i ((gi x0 x8).Op) :: U4 ((gi x0 x8).Set) [])) (vs := [.i ((gi x0 x8).X), .i ((gi x0 x8).Y)]) f38)).cell 0 _ rfl) ?_
   refine guard_some' h fun g42 h => ?_
   refine guard_some' h fun g43 h => ?_
   refine Op_.ixO_n 24 (.tmp 39) (.tmp 44) 45 0 4 .i64 ((gi x0 x8).X) 0 x7.length cx7 (gi x7 ((gi x0 x8).X)) rfl rfl p1 rfl fx7 Goes.v (by kernel_rfl) (by kernel_rfl) (by kernel_rfl) (by kernel_rfl) (by decide) g42 g43 ?_
   rintro b44 _ rfl q46 f45
   obtain rfl := q46
   refine Op_.stE_n (K := kBool) 4 (.tmp 45) (.const (.bool true)) 0 0 ((gi x0 x8).X) (.bool true) [.bool true] true (si x7 ((gi x0 x8).X) true) x7.length rfl rfl p1 rfl fx7 Goes.s (by kernel_rfl) (by kernel_rfl) (by kernel_rfl) rfl (by kernel_rfl) g42 g43 (Nat.zero_le _) ?_
   intro w6 u5y z6 p6 f49 l50
   refine Gn 1 [] J7f ?_
   exact Gj 49 [(0, .slice Ax0 x0.length cx0), (1, .slice Ax1 x1.length cx1), (2, .int .u8 x2), (7, .slice (Gp (some b44)) x7.length cx7), (8, .i x8)] (u5x _ _ h _ _ (hx.trans z6) Ax0 x0.length cx0 Ax1 x1.length cx1 (some b44) x7.length cx7 u5y p6 (fx0.ext z6) rfl (fx1.ext z6) rfl f49 l50)
  ·
   have u5z : x38 = false := by simpa using h34
   rw [u5z]
   refine Gn 2 [] J7f ?_
   exact Gj 49 [(0, .slice Ax0 x0.length cx0), (1, .slice Ax1 x1.length cx1), (2, .int .u8 x2), (7, .slice (Gp Gx7) x7.length cx7), (8, .i x8)] (u5x _ _ h _ _ hx Ax0 x0.length cx0 Ax1 x1.length cx1 Gx7 x7.length cx7 u5t p1 fx0 rfl fx1 rfl fx7 rfl)
 ·
  intro u60 u61 ⟨x0, x1, x2, x7, x8⟩ r h S1 w1 hx Ax0 nx0 cx0 Ax1 nx1 cx1 Gx7 nx7 cx7 u5t p1 fx0 lx0 fx1 lx1 fx7 lx7 junk
  try dsimp only at h
  subst lx0
  subst lx1
  subst lx7
  refine Gn 7 [(16, .i x8), (17, .i (wr .i64 (x8 + 1))), (8, .i (wr .i64 (x8 + 1)))] J7d ?_
  exact Gj 49 [(0, .slice Ax0 x0.length cx0), (1, .slice Ax1 x1.length cx1), (2, .int .u8 x2), (7, .slice (Gp Gx7) x7.length cx7), (8, .i (wr .i64 (x8 + 1)))] (u61 _ _ h _ _ hx Ax0 x0.length cx0 Ax1 x1.length cx1 Gx7 x7.length cx7 u5t p1 fx0 rfl fx1 rfl fx7 rfl)

theorem W.zz {nz wz S0 w0 Lr} : ∀ a r, M.tidepoleref12_Step_l0 a = some r → (L.zz nz wz S0 w0 Lr) a r := (W.z12).1

theorem W.z10 {nz wz S0 w0 Lr} : ∀ a r, M.tidepoleref12_Step_l1 a = some r → (L.z10 nz wz S0 w0 Lr) a r := (W.z12).2.1

theorem W.z11 {nz wz S0 w0 Lr} : ∀ a r, M.tidepoleref12_Step_l2 a = some r → (L.z11 nz wz S0 w0 Lr) a r := (W.z12).2.2

def J7v := Zs [1, 1] B15 []
def J7w := Zt [1, 0] B15 [2, 3] J7v

theorem W.zy (x0 : List T45) (x1 : List Bool) (x2 : Int) (r : List Bool) (h : M.tidepoleref12_Step x0 x1 x2 = some r) {nz wz S0 w0 Lr} (Ax0 nx0 cx0 Ax1 nx1 cx1) (p0 : Hp nz wz S0 w0 (Lr)) (fx0 : Rd kT45 S0 w0 Ax0 cx0 x0) (lx0 : x0.length = nx0) (fx1 : Rd kBool S0 w0 Ax1 cx1 x1) (lx1 : x1.length = nx1) :
  Calls Tryz.prog 15 #[.slice Ax0 nx0 cx0, .slice Ax1 nx1 cx1, .int .u8 x2] w0 (Rets (Post.zy nz wz S0 w0 Lr r)) := by
 subst lx0
 subst lx1
 refine Zf Tryz.f15 B15 46 ?_
 refine Gj 49 [(0, .slice Ax0 x0.length cx0), (1, .slice Ax1 x1.length cx1), (2, .int .u8 x2)] fun junk => ?_
 delta M.tidepoleref12_Step at h
 refine Gn 8 [(6, .slice none 0 0), (9, .slice Ax0 x0.length cx0), (10, .i (x0.length : Int))] J7w ?_
 refine guard_some' h fun g1 h => ?_
 refine let_some h fun v2 e3 h => ?_
 refine Op_.mk_n (K := kBool) 24 (.tmp 10) (.tmp 10) 11 24 4 .i64 .i64 (x0.length : Int) (x0.length : Int) (.bool false) [.bool false] 1 (false : Bool) v2 e3 p0 Goes.v (by kernel_rfl) (by kernel_rfl) (by kernel_rfl) (by kernel_rfl) (by kernel_rfl) (fun _ _ => rfl) (Int.natCast_nonneg _) (Int.le_refl _) (by have := g1; omega) (by have := g1; omega) ?_
 intro b4 w2 cs5 z2 p2 f6
 refine Gn 9 [(7, .slice (Gp (some b4)) v2.length (((x0.length : Int) : Int).toNat)), (8, .i 0)] J7d ?_
 exact Gj 49 [(0, .slice Ax0 x0.length cx0), (1, .slice Ax1 x1.length cx1), (2, .int .u8 x2), (7, .slice (Gp (some b4)) v2.length (((x0.length : Int) : Int).toNat)), (8, .i 0)] (W.zz _ _ h _ _ ((Ext.refl S0 w0).trans z2) Ax0 x0.length cx0 Ax1 x1.length cx1 (some b4) v2.length (((x0.length : Int) : Int).toNat) cs5 p2 (fx0.ext z2) rfl (fx1.ext z2) rfl f6 rfl)

def J7x := Zs [1, 1, 1, 1, 1, 1, 1] B19 []
def J7y := Zb 0 J7x
def Q4s := sub [1, 1, 1, 1, 1, 1, 0, 1, 0, 0] B19
def J7z := Zl Q4s J7y
def J80 := Zc Q4s J7z
def J81 := Zs [1, 1, 1, 1, 1, 1, 0, 1, 0, 0, 1, 1] B19 J7z
def J82 := Zb 1 J81
def J83 := Zs [1, 1, 1, 1, 1, 1, 0, 1, 0, 0, 1, 0, 0, 1] B19 J82
def J84 := Zs [1, 1, 1, 1, 1, 1, 0, 1, 0, 0, 1] B19 J7z
def J85 := Zs [1, 1, 1, 1, 1, 1, 0, 1, 0, 0, 0, 1] B19 J84
def J86 := Zs [1, 1, 1, 1, 1, 1, 0, 1, 0, 0, 1, 0, 0, 0, 1] B19 J83
def J87 := Zt [1, 1, 1, 1, 1, 1, 0, 1, 0, 0, 1, 0, 0, 0, 0] B19 [2] J86
def J88 := Zt [1, 1, 1, 1, 1, 1, 0, 1, 0, 0, 1, 0, 0, 0, 1, 0] B19 [2, 3, 4] J83
def J89 := Zs [1, 1, 1, 1, 1, 1, 1, 1] B19 []
def J8a := Zs [1, 1, 1, 1, 1, 1, 0, 1, 0, 0, 1, 0, 0, 1, 1] B19 J82
def J8b := Zt [1, 1, 1, 1, 1, 1, 0, 1, 0, 0, 1, 0, 0, 1, 1, 0] B19 [4, 5, 6] J82

def Post.z13 (r : (List Int) × Int) (v : Value) (w' : World) : Prop :=
 ∃ S' u62 u63 u64 u65, v = .tuple #[.slice (Gp u62) u63 u64, .i r.2] ∧ Ext S0 w0 S' w' ∧ Hp nz wz S' w' ((u62, .row 3 u65 (u64 * (kInt .i64).size) 0) :: Lr) ∧ Els (kInt .i64) S' w' u65 r.1 ∧ r.1.length = u63

def L.z14 : (List T45) × ByteArray × (List Int) × (List Bool) × Int → ((List Int) × Int) → Prop := fun ⟨x0, x1, x8, x9, x10⟩ r => ∀ S1 w1, Ext S0 w0 S1 w1 → ∀ Ax0 nx0 cx0 Gx8 nx8 cx8 u66 Gx9 nx9 cx9 u67 u68 (_ : Hp nz wz S1 w1 ((Gx8, .row 3 u66 (cx8 * (kInt .i64).size) 0) :: (Gx9, .row 4 u67 (cx9 * kBool.size) u68) :: Lr)) (_ : Rd kT45 S1 w1 Ax0 cx0 x0) (_ : x0.length = nx0) (_ : Els (kInt .i64) S1 w1 u66 x8) (_ : x8.length = nx8) (_ : Els kBool S1 w1 u67 x9) (_ : x9.length = nx9) (junk : Nat → Value),
 Goes Tryz.prog (base 19) J80 ⟨lfr 53 [(0, .slice Ax0 nx0 cx0), (1, .string x1), (8, .slice (Gp Gx8) nx8 cx8), (9, .slice (Gp Gx9) nx9 cx9), (10, .i x10)] junk, []⟩ w1 (Done Tryz.prog 19 (Rets (Post.z13 nz wz S0 w0 Lr r)))

def L.z15 : (List T45) × ByteArray × (List Int) × (List Bool) × Int → ((List Int) × Int) → Prop := fun ⟨x0, x1, x8, x9, x10⟩ r => ∀ S1 w1, Ext S0 w0 S1 w1 → ∀ Ax0 nx0 cx0 Gx8 nx8 cx8 u66 Gx9 nx9 cx9 u67 u68 (_ : Hp nz wz S1 w1 ((Gx8, .row 3 u66 (cx8 * (kInt .i64).size) 0) :: (Gx9, .row 4 u67 (cx9 * kBool.size) u68) :: Lr)) (_ : Rd kT45 S1 w1 Ax0 cx0 x0) (_ : x0.length = nx0) (_ : Els (kInt .i64) S1 w1 u66 x8) (_ : x8.length = nx8) (_ : Els kBool S1 w1 u67 x9) (_ : x9.length = nx9) (junk : Nat → Value),
 Goes Tryz.prog (base 19) J83 ⟨lfr 53 [(0, .slice Ax0 nx0 cx0), (1, .string x1), (8, .slice (Gp Gx8) nx8 cx8), (9, .slice (Gp Gx9) nx9 cx9), (10, .i x10)] junk, []⟩ w1 (Done Tryz.prog 19 (Rets (Post.z13 nz wz S0 w0 Lr r)))

def L.z16 : (List T45) × ByteArray × (List Int) × (List Bool) × Int → ((List Int) × Int) → Prop := fun ⟨x0, x1, x8, x9, x10⟩ r => ∀ S1 w1, Ext S0 w0 S1 w1 → ∀ Ax0 nx0 cx0 Gx8 nx8 cx8 u66 Gx9 nx9 cx9 u67 u68 (_ : Hp nz wz S1 w1 ((Gx8, .row 3 u66 (cx8 * (kInt .i64).size) 0) :: (Gx9, .row 4 u67 (cx9 * kBool.size) u68) :: Lr)) (_ : Rd kT45 S1 w1 Ax0 cx0 x0) (_ : x0.length = nx0) (_ : Els (kInt .i64) S1 w1 u66 x8) (_ : x8.length = nx8) (_ : Els kBool S1 w1 u67 x9) (_ : x9.length = nx9) (junk : Nat → Value),
 Goes Tryz.prog (base 19) J82 ⟨lfr 53 [(0, .slice Ax0 nx0 cx0), (1, .string x1), (8, .slice (Gp Gx8) nx8 cx8), (9, .slice (Gp Gx9) nx9 cx9), (10, .i x10)] junk, []⟩ w1 (Done Tryz.prog 19 (Rets (Post.z13 nz wz S0 w0 Lr r)))

theorem W.z17 {nz wz S0 w0 Lr} : (∀ a r, M.tidepoleref12_Ends_l1 a = some r → (L.z14 nz wz S0 w0 Lr) a r) ∧ (∀ a r, M.tidepoleref12_Ends_l2 a = some r → (L.z15 nz wz S0 w0 Lr) a r) ∧ (∀ a r, M.tidepoleref12_Ends_l3 a = some r → (L.z16 nz wz S0 w0 Lr) a r) := by
 refine M.tidepoleref12_Ends_l1.mutual_partial_correctness (L.z14 nz wz S0 w0 Lr) (L.z15 nz wz S0 w0 Lr) (L.z16 nz wz S0 w0 Lr) ?_ ?_ ?_
 ·
  intro u69 u6a ⟨x0, x1, x8, x9, x10⟩ r h S1 w1 hx Ax0 nx0 cx0 Gx8 nx8 cx8 u66 Gx9 nx9 cx9 u67 u68 p1 fx0 lx0 fx8 lx8 fx9 lx9 junk
  try dsimp only at h
  subst lx0
  subst lx8
  subst lx9
  refine Gn 8 [(29, .i x10), (30, .string x1), (31, .i (x1.size : Int)), (32, .bool (decide (x10 ≤ (x1.size : Int))))] J85 ?_
  refine ite_some h (fun h18 h => ?_) (fun h18 h => ?_)
  ·
   rw [decide_eq_true h18]
   refine Gn 9 [(35, .slice Ax0 x0.length cx0), (36, .slice (Gp Gx9) x9.length cx9)] J87 ?_
   obtain ⟨S5, z5, p5, f19⟩ := p1.freezeRd 1 rfl fx9 (by decide)
   refine bind_some' h fun y20 e21 h => ?_
   refine Gc (kc 12 [35, 36] #[22, 24]) 37 4 12 _ (W.zt x0 x9 y20 e21 Ax0 x0.length cx0 (Gp Gx9) x9.length cx9 p5 (fx0.ext z5) rfl f19 rfl) ?_
   rintro _ w6 ⟨S6, rfl, z6, p6⟩
   refine Gn 1 [] J86 ?_
   refine ite_some h (fun h22 h => ?_) (fun h22 h => ?_)
   ·
    rw [h22]
    refine Gn 4 [(38, .slice (Gp Gx8) x8.length cx8), (39, .i x10)] J88 ?_
    have f24 : Els (kInt .i64) S6 w6 ([.i x10] : List Value) [x10] := by exact (Els.cons (K := (kInt .i64)) (vs := [.i x10]) (x := x10) rfl Els.nil)
    refine Op_.made (.buildSlice 33 1 #[(0, (.tmp 39))]) 40 33 (fun b => .slice (Gp (some b)) 1 1) 3 ([.i x10] : List Value) p6 Goes.v (by kernel_rfl) ?_
    intro b23 w7 z7 p7
    have p7 : Hp nz wz S6 w7 (((some b23), .row 3 ([.i x10] : List Value) (1 * (kInt .i64).size) 0) :: (Gx8, .row 3 u66 (cx8 * (kInt .i64).size) 0) :: (Gx9, .row 4 u67 (cx9 * kBool.size) u67.length) :: Lr) := p7
    refine guard_some' h fun g29 h => ?_
    refine Op_.ap_n (K := (kInt .i64)) 33 (.tmp 38) (.tmp 40) 41 33 3 1 (.i 0) 8 x8.length cx8 1 x8 [x10] (x8 ++ [x10]) (Gp (some b23)) 1 rfl rfl rfl p7 rfl (fx8.ext ((z5.trans z6).trans z7)) Goes.v (by kernel_rfl) (by kernel_rfl) (by kernel_rfl) (by kernel_rfl) rfl (by decide) (f24.ext z7) (src_own p7 (q := 0) rfl) (by have := g29; omega) (by have := g29; omega) ?_
    intro w8 G30 c31 u6b z8 p8 f33
    refine Gn 2 [(8, .slice (Gp G30) ((x8 ++ [x10]).length) c31)] J83 ?_
    have p8 := p8.dp 0
    exact Gj 53 [(0, .slice Ax0 x0.length cx0), (1, .string x1), (8, .slice (Gp G30) ((x8 ++ [x10]).length) c31), (9, .slice (Gp Gx9) x9.length cx9), (10, .i x10)] (u6a _ _ h _ _ ((((hx.trans z5).trans z6).trans z7).trans z8) Ax0 x0.length cx0 G30 ((x8 ++ [x10]).length) c31 u6b Gx9 x9.length cx9 u67 u67.length p8 (fx0.ext (((z5.trans z6).trans z7).trans z8)) rfl f33 rfl (fx9.ext (((z5.trans z6).trans z7).trans z8)) rfl)
   ·
    have u4s : y20 = false := by simpa using h22
    rw [u4s]
    refine Gn 2 [] J83 ?_
    exact Gj 53 [(0, .slice Ax0 x0.length cx0), (1, .string x1), (8, .slice (Gp Gx8) x8.length cx8), (9, .slice (Gp Gx9) x9.length cx9), (10, .i x10)] (u6a _ _ h _ _ ((hx.trans z5).trans z6) Ax0 x0.length cx0 Gx8 x8.length cx8 u66 Gx9 x9.length cx9 u67 u67.length p6 (fx0.ext (z5.trans z6)) rfl (fx8.ext (z5.trans z6)) rfl (fx9.ext (z5.trans z6)) rfl)
  ·
   rw [decide_eq_false h18]
   refine Gn 8 [(52, .slice (Gp Gx8) x8.length cx8), (6, .slice (Gp Gx8) x8.length cx8), (7, .i 0)] J89 ?_
   obtain rfl := Option.some.inj h
   have p1 := p1.dp 1
   exact Goes.rt Tryz.f19 (.tuple #[.slice (Gp Gx8) x8.length cx8, .i 0]) ⟨S1, Gx8, x8.length, cx8, u66, rfl, hx, p1, fx8, rfl⟩
 ·
  intro u6c u6d ⟨x0, x1, x8, x9, x10⟩ r h S1 w1 hx Ax0 nx0 cx0 Gx8 nx8 cx8 u66 Gx9 nx9 cx9 u67 u68 p1 fx0 lx0 fx8 lx8 fx9 lx9 junk
  try dsimp only at h
  subst lx0
  subst lx8
  subst lx9
  refine Gn 7 [(42, .i x10), (43, .string x1), (44, .i (x1.size : Int)), (45, .bool (decide (x10 < (x1.size : Int))))] J8a ?_
  refine ite_some h (fun h36 h => ?_) (fun h36 h => ?_)
  ·
   rw [decide_eq_true h36]
   refine Gn 6 [(46, .slice Ax0 x0.length cx0), (47, .slice (Gp Gx9) x9.length cx9), (48, .string x1), (49, .i x10)] J8b ?_
   refine guard_some' h fun g37 h => ?_
   refine Op_.ixS 9 (.tmp 48) (.tmp 49) 50 5 .i64 x1 x10 Goes.v (by kernel_rfl) (by kernel_rfl) (by kernel_rfl) g37 h36 ?_
   obtain ⟨S9, z9, p9, f38⟩ := p1.freezeRd 1 rfl fx9 (by decide)
   refine bind_some' h fun y39 e40 h => ?_
   refine Gc (kc 15 [46, 47, 50] #[22, 24, 5]) 51 24 15 _ (W.zy x0 x9 (bt x1 x10) y39 e40 Ax0 x0.length cx0 (Gp Gx9) x9.length cx9 p9 (fx0.ext z9) rfl f38 rfl) ?_
   rintro _ w10 ⟨S10, u6e, u6f, u6g, u6h, rfl, z10, p10, u6i, rfl⟩
   have p10 := p10.dp 2
   refine Gn 2 [(9, .slice (Gp u6e) y39.length u6g)] J82 ?_
   have p10 := (p10.fr 0).fr 1
   exact Gj 53 [(0, .slice Ax0 x0.length cx0), (1, .string x1), (8, .slice (Gp Gx8) x8.length cx8), (9, .slice (Gp u6e) y39.length u6g), (10, .i x10)] (u6d _ _ h _ _ ((hx.trans z9).trans z10) Ax0 x0.length cx0 Gx8 x8.length cx8 u66 u6e y39.length u6g u6h 0 p10 (fx0.ext (z9.trans z10)) rfl (fx8.ext (z9.trans z10)) rfl u6i rfl)
  ·
   rw [decide_eq_false h36]
   refine Gn 2 [] J82 ?_
   exact Gj 53 [(0, .slice Ax0 x0.length cx0), (1, .string x1), (8, .slice (Gp Gx8) x8.length cx8), (9, .slice (Gp Gx9) x9.length cx9), (10, .i x10)] (u6d _ _ h _ _ hx Ax0 x0.length cx0 Gx8 x8.length cx8 u66 Gx9 x9.length cx9 u67 u68 p1 fx0 rfl fx8 rfl fx9 rfl)
 ·
  intro u6j u6k ⟨x0, x1, x8, x9, x10⟩ r h S1 w1 hx Ax0 nx0 cx0 Gx8 nx8 cx8 u66 Gx9 nx9 cx9 u67 u68 p1 fx0 lx0 fx8 lx8 fx9 lx9 junk
  try dsimp only at h
  subst lx0
  subst lx8
  subst lx9
  refine Gn 7 [(33, .i x10), (34, .i (wr .i64 (x10 + 1))), (10, .i (wr .i64 (x10 + 1)))] J80 ?_
  exact Gj 53 [(0, .slice Ax0 x0.length cx0), (1, .string x1), (8, .slice (Gp Gx8) x8.length cx8), (9, .slice (Gp Gx9) x9.length cx9), (10, .i (wr .i64 (x10 + 1)))] (u6k _ _ h _ _ hx Ax0 x0.length cx0 Gx8 x8.length cx8 u66 Gx9 x9.length cx9 u67 u68 p1 fx0 rfl fx8 rfl fx9 rfl)

theorem W.z14 {nz wz S0 w0 Lr} : ∀ a r, M.tidepoleref12_Ends_l1 a = some r → (L.z14 nz wz S0 w0 Lr) a r := (W.z17).1

theorem W.z15 {nz wz S0 w0 Lr} : ∀ a r, M.tidepoleref12_Ends_l2 a = some r → (L.z15 nz wz S0 w0 Lr) a r := (W.z17).2.1

theorem W.z16 {nz wz S0 w0 Lr} : ∀ a r, M.tidepoleref12_Ends_l3 a = some r → (L.z16 nz wz S0 w0 Lr) a r := (W.z17).2.2

end

end Go.Gx
