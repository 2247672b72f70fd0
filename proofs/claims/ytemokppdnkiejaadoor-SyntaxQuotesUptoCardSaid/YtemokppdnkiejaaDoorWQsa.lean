import Derived.Test.YtemokppdnkiejaaDoorMQs

import Derived.Test.YtemokppdnkiejaaDoorGG

import Derived.Test.YtemokppdnkiejaaDoorHI

import Derived.Test.YtemokppdnkiejaaDoorProg

set_option linter.unusedVariables false

set_option maxRecDepth 100000

set_option maxHeartbeats 4000000

namespace Go.Gx

open Go.RowKit Go.Proofs

variable (nz : Nat) (wz : World) (S0 : Fz) (w0 : World) (Lr : List Ent)

noncomputable section

def kT27_f (K : Kd T27) : Kd T27 := kMap (fun s => (s.Kind, s.Set, s.L, s.Min, s.Max)) (kProd (kInt .i64) (kProd (kArr 4 (kInt .u64)) (kProd (kSl K) (kProd (kInt .i64) (kInt .i64)))))

theorem kT27_c : Kc kT27_f := Kc.map _ (Kc.prod (Kc.const _) (Kc.prod (Kc.const _) (Kc.prod (Kc.sl Kc.id) (Kc.prod (Kc.const _) (Kc.const _)))))

def kT27 : Kd T27 := kFix kT27_f 8 kT27_c (fun _ => rfl)

theorem kT27_open {S w vs x} (h : kT27.rep S w vs x) : (kT27_f kT27).rep S w vs x := kFix_open kT27_c _ h

theorem kT27_close {S w vs x} (h : (kT27_f kT27).rep S w vs x) : kT27.rep S w vs x := kFix_close kT27_c _ h

def kT72 : Kd T72 := kMap (fun s => s.at_) (kInt .i64)

def kT68 : Kd T68 := kMap (fun s => (s.s, s.at_, s.deep, s.bad)) (kProd kStr (kProd (kInt .i64) (kProd (kInt .i64) (kPtr kT72))))

def kT126 : Kd T126 := kMap (fun s => (s.set_, s.b, s.single)) (kProd (kArr 4 (kInt .u64)) (kProd (kInt .u8) kBool))

class Gw (nz : Nat) (wz : World) : Prop where
 g1 : Tab nz wz 1 .u8 tb1

noncomputable def B3 : Code := (Tryd.f3.body).getD .skip

noncomputable def B9 : Code := (Tryd.f9.body).getD .skip

noncomputable def B10 : Code := (Tryd.f10.body).getD .skip

noncomputable def B11 : Code := (Tryd.f11.body).getD .skip

noncomputable def B12 : Code := (Tryd.f12.body).getD .skip

noncomputable def B13 : Code := (Tryd.f13.body).getD .skip

noncomputable def B25 : Code := (Tryd.f25.body).getD .skip

noncomputable def B26 : Code := (Tryd.f26.body).getD .skip

noncomputable def B27 : Code := (Tryd.f27.body).getD .skip

noncomputable def B28 : Code := (Tryd.f28.body).getD .skip

noncomputable def B29 : Code := (Tryd.f29.body).getD .skip

noncomputable def B30 : Code := (Tryd.f30.body).getD .skip

noncomputable def B31 : Code := (Tryd.f31.body).getD .skip

noncomputable def B32 : Code := (Tryd.f32.body).getD .skip

noncomputable def B33 : Code := (Tryd.f33.body).getD .skip

noncomputable def B45 : Code := (Tryd.f45.body).getD .skip

noncomputable def B46 : Code := (Tryd.f46.body).getD .skip

noncomputable def B47 : Code := (Tryd.f47.body).getD .skip

noncomputable def B48 : Code := (Tryd.f48.body).getD .skip

noncomputable def B49 : Code := (Tryd.f49.body).getD .skip

noncomputable def B50 : Code := (Tryd.f50.body).getD .skip

noncomputable def B51 : Code := (Tryd.f51.body).getD .skip

noncomputable def B52 : Code := (Tryd.f52.body).getD .skip

noncomputable def B63 : Code := (Tryd.f63.body).getD .skip

noncomputable def B65 : Code := (Tryd.f65.body).getD .skip

noncomputable def B66 : Code := (Tryd.f66.body).getD .skip

noncomputable def B67 : Code := (Tryd.f67.body).getD .skip

noncomputable def B68 : Code := (Tryd.f68.body).getD .skip

noncomputable def B69 : Code := (Tryd.f69.body).getD .skip

noncomputable def B76 : Code := (Tryd.f76.body).getD .skip

noncomputable def B78 : Code := (Tryd.f78.body).getD .skip

noncomputable def B79 : Code := (Tryd.f79.body).getD .skip

noncomputable def B80 : Code := (Tryd.f80.body).getD .skip

noncomputable def B81 : Code := (Tryd.f81.body).getD .skip

noncomputable def B89 : Code := (Tryd.f89.body).getD .skip

noncomputable def B90 : Code := (Tryd.f90.body).getD .skip

noncomputable def B91 : Code := (Tryd.f91.body).getD .skip

noncomputable def B92 : Code := (Tryd.f92.body).getD .skip

noncomputable def B93 : Code := (Tryd.f93.body).getD .skip

noncomputable def B94 : Code := (Tryd.f94.body).getD .skip

noncomputable def B95 : Code := (Tryd.f95.body).getD .skip

noncomputable def B101 : Code := (Tryd.f101.body).getD .skip

noncomputable def B102 : Code := (Tryd.f102.body).getD .skip

noncomputable def B103 : Code := (Tryd.f103.body).getD .skip

noncomputable def B104 : Code := (Tryd.f104.body).getD .skip

noncomputable def B105 : Code := (Tryd.f105.body).getD .skip

noncomputable def B106 : Code := (Tryd.f106.body).getD .skip

noncomputable def B111 : Code := (Tryd.f111.body).getD .skip

noncomputable def B112 : Code := (Tryd.f112.body).getD .skip

noncomputable def B113 : Code := (Tryd.f113.body).getD .skip

noncomputable def B114 : Code := (Tryd.f114.body).getD .skip

noncomputable def B120 : Code := (Tryd.f120.body).getD .skip

noncomputable def B121 : Code := (Tryd.f121.body).getD .skip

def Q0 := sub [1, 1] B63
def J0 : List Item := [.code Q0]
def Q1 := sub [1, 0] B63
def J1 : List Item := .inRegion (opsOf Q1) [2, 3] :: J0

def Post.z0 (r : Int) (v : Value) (w' : World) : Prop :=
 ∃ S', v = .i r ∧ Ext S0 w0 S' w' ∧ Hp nz wz S' w' (Lr)

theorem W.z0 (x0 : ByteArray) (x1 : Int) (r : Int) (h : M.stringslite_IndexByte x0 x1 = some r) {nz wz S0 w0 Lr} [Gw nz wz] (p0 : Hp nz wz S0 w0 (Lr)) :
  Calls Tryd.prog 63 #[.string x0, .int .u8 x1] w0 (Rets (Post.z0 nz wz S0 w0 Lr r)) := by
 refine calls_of_goes (fn := Tryd.f63) (c := B63) (by kernel_rfl) (by kernel_rfl) 6 (by kernel_rfl) ?_
 refine Goes.jp 8 [(0, .string x0), (1, .int .u8 x1)] (fun junk => ?_)
 delta M.stringslite_IndexByte at h
 refine Goes.rn 8 [(4, .i 0), (5, .string x0), (6, .int .u8 x1)] J1 ?_
 refine Op_.ext { callee := .value (.func 77), args := #[(.tmp 5), (.tmp 6)], argTypes := #[9, 5] } 7 3 77 #[.string x0, .int .u8 x1] Tryd.f77 Extern.BytealgIndexByte.indexByte (.i (ixB x0 x1)) Goes.v (by kernel_rfl) (by kernel_rfl) (by kernel_rfl) (by kernel_rfl) (by kernel_rfl) (by kernel_rfl) (ixB_run _ _) ?_
 refine Goes.rn 2 [(4, .i (ixB x0 x1))] J0 ?_
 obtain rfl := Option.some.inj h
 exact Goes.rt Tryd.f63 (.i (ixB x0 x1)) ⟨S0, rfl, (Ext.refl S0 w0), p0⟩

def Q2 := sub [1, 1] B45
def J2 : List Item := [.code Q2]
def Q3 := sub [1, 0] B45
def J3 : List Item := .inRegion (opsOf Q3) [2, 3] :: J2

def Post.z1 (r : Int) (v : Value) (w' : World) : Prop :=
 ∃ S', v = .i r ∧ Ext S0 w0 S' w' ∧ Hp nz wz S' w' (Lr)

theorem W.z1 (x0 : ByteArray) (x1 : Int) (r : Int) (h : M.strings_IndexByte x0 x1 = some r) {nz wz S0 w0 Lr} [Gw nz wz] (p0 : Hp nz wz S0 w0 (Lr)) :
  Calls Tryd.prog 45 #[.string x0, .int .u8 x1] w0 (Rets (Post.z1 nz wz S0 w0 Lr r)) := by
 refine calls_of_goes (fn := Tryd.f45) (c := B45) (by kernel_rfl) (by kernel_rfl) 6 (by kernel_rfl) ?_
 refine Goes.jp 8 [(0, .string x0), (1, .int .u8 x1)] (fun junk => ?_)
 delta M.strings_IndexByte at h
 refine Goes.rn 8 [(4, .i 0), (5, .string x0), (6, .int .u8 x1)] J3 ?_
 refine bind_some' h fun y1 e2 h => ?_
 refine Goes.cal (kc 63 [5, 6] #[9, 5]) 7 3 63 _ (W.z0 x0 x1 y1 e2  p0 ) ?_
 rintro _ w2 ⟨S2, rfl, z2, p2⟩
 refine Goes.rn 2 [(4, .i y1)] J2 ?_
 obtain rfl := Option.some.inj h
 exact Goes.rt Tryd.f45 (.i y1) ⟨S2, rfl, ((Ext.refl S0 w0).trans z2), p2⟩

def Q4 := sub [1, 1] B25
def J4 : List Item := [.code Q4]
def J5 : List Item := .inBlock 0 :: J4
def Q5 := sub [1, 0, 0, 1] B25
def J6 : List Item := .code Q5 :: J5
def Q6 := sub [1, 0, 0, 0, 1, 1, 1] B25
def J7 : List Item := .code Q6 :: J6
def Q7 := sub [1, 0, 0, 1, 0, 1] B25
def J8 : List Item := .code Q7 :: J5
def Q8 := sub [1, 0, 0, 0, 1, 1, 1, 1] B25
def J9 : List Item := .inRegion (opsOf Q8) [3, 4, 5, 6] :: J6
def Q9 := sub [1, 1, 1] B25
def Ja : List Item := [.code Q9]
def Qa := sub [1, 1, 0] B25
def Jb : List Item := .inRegion (opsOf Qa) [1, 2, 3] :: Ja

def Post.z2 (r : Bool) (v : Value) (w' : World) : Prop :=
 ∃ S', v = .bool r ∧ Ext S0 w0 S' w' ∧ Hp nz wz S' w' (Lr)

def L.z3 : Int × Bool → Bool → Prop := fun ⟨x0, x3⟩ r => ∀ S1 w1, Ext S0 w0 S1 w1 → ∀ (_ : Hp nz wz S1 w1 (Lr)) (junk : Nat → Value),
 Goes Tryd.prog (base 25) J7 ⟨lfr 25 [(0, .int .u8 x0), (3, .bool x3)] junk, []⟩ w1 (Done Tryd.prog 25 (Rets (Post.z2 nz wz S0 w0 Lr r)))

theorem W.z3 {nz wz S0 w0 Lr} [Gw nz wz] : ∀ a r, M.syntax_asIs_l1 a = some r → L.z3 nz wz S0 w0 Lr a r := by
 intro ⟨x0, x3⟩ r h S1 w1 hx p1 junk
 rw [M.syntax_asIs_l1] at h
 try dsimp only at h
 refine ite_some h (fun h4 h => ?_) (fun h4 h => ?_)
 ·
  rw [h4]
  refine Goes.rn 7 [(2, .bool true)] J8 ?_
  obtain rfl := Option.some.inj h
  exact Goes.rt Tryd.f25 (.bool true) ⟨S1, rfl, hx, p1⟩
 ·
  have h4' : x3 = false := by simpa using h4
  rw [h4']
  refine Goes.rn 5 [(16, .int .u8 x0), (17, .bool (decide (x0 ≥ 65))), (18, .bool (decide (x0 ≥ 65)))] J9 ?_
  refine ite_some h (fun h5 h => ?_) (fun h5 h => ?_)
  ·
   rw [decide_eq_true h5]
   refine Goes.rn 5 [(19, .int .u8 x0), (20, .bool (decide (x0 ≤ 90))), (21, .bool (decide (x0 ≤ 90))), (3, .bool (decide (x0 ≤ 90)))] J6 ?_
   refine ite_some h (fun h6 h => ?_) (fun h6 h => ?_)
   ·
    rw [decide_eq_true h6]
    refine Goes.rn 5 [(2, .bool true)] J8 ?_
    obtain rfl := Option.some.inj h
    exact Goes.rt Tryd.f25 (.bool true) ⟨S1, rfl, hx, p1⟩
   ·
    rw [decide_eq_false h6]
    refine Goes.rn 6 [(22, .int .u8 x0)] Jb ?_
    refine bind_some' h fun y7 e8 h => ?_
    refine Goes.cal (.call { callee := .value (.func 45), args := #[(.const (.string ⟨#[95, 44, 58, 59, 60, 61, 62, 64, 33, 34, 35, 37, 38, 39, 126]⟩)), (.tmp 22)], argTypes := #[9, 5] }) 23 3 45 _ (W.z1 (⟨#[95, 44, 58, 59, 60, 61, 62, 64, 33, 34, 35, 37, 38, 39, 126]⟩ : ByteArray) x0 y7 e8  p1 ) ?_
    rintro _ w2 ⟨S2, rfl, z2, p2⟩
    refine Goes.rn 3 [(24, .bool (decide (y7 ≥ 0))), (2, .bool (decide (y7 ≥ 0)))] Ja ?_
    obtain rfl := Option.some.inj h
    exact Goes.rt Tryd.f25 (.bool (decide (y7 ≥ 0))) ⟨S2, rfl, (hx.trans z2), p2⟩
  ·
   rw [decide_eq_false h5]
   refine Goes.rn 11 [(19, undef), (20, undef), (21, .bool false), (3, .bool false), (22, .int .u8 x0)] Jb ?_
   refine bind_some' h fun y9 e10 h => ?_
   refine Goes.cal (.call { callee := .value (.func 45), args := #[(.const (.string ⟨#[95, 44, 58, 59, 60, 61, 62, 64, 33, 34, 35, 37, 38, 39, 126]⟩)), (.tmp 22)], argTypes := #[9, 5] }) 23 3 45 _ (W.z1 (⟨#[95, 44, 58, 59, 60, 61, 62, 64, 33, 34, 35, 37, 38, 39, 126]⟩ : ByteArray) x0 y9 e10  p1 ) ?_
   rintro _ w3 ⟨S3, rfl, z3, p3⟩
   refine Goes.rn 3 [(24, .bool (decide (y9 ≥ 0))), (2, .bool (decide (y9 ≥ 0)))] Ja ?_
   obtain rfl := Option.some.inj h
   exact Goes.rt Tryd.f25 (.bool (decide (y9 ≥ 0))) ⟨S3, rfl, (hx.trans z3), p3⟩

def Qb := sub [1, 0, 0, 0, 1] B25
def Jc : List Item := .code Qb :: J6
def Qc := sub [1, 0, 0, 0, 1, 1, 0] B25
def Jd : List Item := .inRegion (opsOf Qc) [3, 4, 5, 6] :: J7

def L.z4 : Int × Bool → Bool → Prop := fun ⟨x0, x3⟩ r => ∀ S1 w1, Ext S0 w0 S1 w1 → ∀ (_ : Hp nz wz S1 w1 (Lr)) (junk : Nat → Value),
 Goes Tryd.prog (base 25) Jc ⟨lfr 25 [(0, .int .u8 x0), (3, .bool x3)] junk, []⟩ w1 (Done Tryd.prog 25 (Rets (Post.z2 nz wz S0 w0 Lr r)))

theorem W.z4 {nz wz S0 w0 Lr} [Gw nz wz] : ∀ a r, M.syntax_asIs_l0 a = some r → L.z4 nz wz S0 w0 Lr a r := by
 intro ⟨x0, x3⟩ r h S1 w1 hx p1 junk
 rw [M.syntax_asIs_l0] at h
 try dsimp only at h
 refine ite_some h (fun h2 h => ?_) (fun h2 h => ?_)
 ·
  rw [h2]
  refine Goes.rn 7 [(2, .bool true)] J8 ?_
  obtain rfl := Option.some.inj h
  exact Goes.rt Tryd.f25 (.bool true) ⟨S1, rfl, hx, p1⟩
 ·
  have h2' : x3 = false := by simpa using h2
  rw [h2']
  refine Goes.rn 6 [(10, .int .u8 x0), (11, .bool (decide (x0 ≥ 97))), (12, .bool (decide (x0 ≥ 97)))] Jd ?_
  refine ite_some h (fun h3 h => ?_) (fun h3 h => ?_)
  ·
   rw [decide_eq_true h3]
   refine Goes.rn 5 [(13, .int .u8 x0), (14, .bool (decide (x0 ≤ 122))), (15, .bool (decide (x0 ≤ 122))), (3, .bool (decide (x0 ≤ 122)))] J7 ?_
   exact Goes.jp 25 [(0, .int .u8 x0), (3, .bool (decide (x0 ≤ 122)))] (W.z3 _ _ h _ _ hx p1)
  ·
   rw [decide_eq_false h3]
   refine Goes.rn 5 [(13, undef), (14, undef), (15, .bool false), (3, .bool false)] J7 ?_
   exact Goes.jp 25 [(0, .int .u8 x0), (3, .bool false)] (W.z3 _ _ h _ _ hx p1)

def Qd := sub [1, 0, 0, 0, 0] B25
def Je : List Item := .inRegion (opsOf Qd) [3, 4, 5, 6] :: Jc

theorem W.z2 (x0 : Int) (r : Bool) (h : M.syntax_asIs x0 = some r) {nz wz S0 w0 Lr} [Gw nz wz] (p0 : Hp nz wz S0 w0 (Lr)) :
  Calls Tryd.prog 25 #[.int .u8 x0] w0 (Rets (Post.z2 nz wz S0 w0 Lr r)) := by
 refine calls_of_goes (fn := Tryd.f25) (c := B25) (by kernel_rfl) (by kernel_rfl) 24 (by kernel_rfl) ?_
 refine Goes.jp 25 [(0, .int .u8 x0)] (fun junk => ?_)
 delta M.syntax_asIs at h
 refine Goes.rn 12 [(2, .bool false), (4, .int .u8 x0), (5, .bool (decide (x0 ≥ 48))), (6, .bool (decide (x0 ≥ 48)))] Je ?_
 refine ite_some h (fun h1 h => ?_) (fun h1 h => ?_)
 ·
  rw [decide_eq_true h1]
  refine Goes.rn 5 [(7, .int .u8 x0), (8, .bool (decide (x0 ≤ 57))), (9, .bool (decide (x0 ≤ 57))), (3, .bool (decide (x0 ≤ 57)))] Jc ?_
  exact Goes.jp 25 [(0, .int .u8 x0), (3, .bool (decide (x0 ≤ 57)))] (W.z4 _ _ h _ _ (Ext.refl S0 w0) p0)
 ·
  rw [decide_eq_false h1]
  refine Goes.rn 5 [(7, undef), (8, undef), (9, .bool false), (3, .bool false)] Jc ?_
  exact Goes.jp 25 [(0, .int .u8 x0), (3, .bool false)] (W.z4 _ _ h _ _ (Ext.refl S0 w0) p0)

def Qe := sub [1] B46
def Jf : List Item := [.code Qe]
def Qf := sub [0] B46
def Jg : List Item := .inRegion (opsOf Qf) [3, 4] :: Jf
def Qg := sub [1, 0] B46
def Jh : List Item := [.inRegion (opsOf Qg) [2, 3, 4, 5, 6, 7]]
def Ji : List Item := [.inRegion (opsOf Qg) [7]]

def Post.z5 (gx0 : Nat) (r : List Int) (v : Value) (w' : World) : Prop :=
 ∃ S' u0 u1 u2 u3, v = .tuple #[] ∧ Ext S0 w0 S' w' ∧ Hp nz wz S' w' ((some gx0, .row 56 [(pt gx0 0), .slice (Gp u0) u1 u2] 2 0) :: (u0, .row 5 u3 (u2 * (kInt .u8).size) 0) :: Lr) ∧ Els (kInt .u8) S' w' u3 r ∧ r.length = u1

theorem W.z5 (u4 : List Int) (r : List Int) (h : M.strings_Builder_copyCheck u4 = some r) {nz wz S0 w0 Lr} [Gw nz wz] (gx0 u5 u6 u7 u8) (p0 : Hp nz wz S0 w0 ((some gx0, .row 56 [.pointer none, .slice (Gp u5) u6 u7] 2 0) :: (u5, .row 5 u8 (u7 * (kInt .u8).size) 0) :: Lr)) (u9 : Els (kInt .u8) S0 w0 u8 u4) (ua : u4.length = u6) :
  Calls Tryd.prog 46 #[(pt gx0 0)] w0 (Rets (Post.z5 nz wz S0 w0 Lr gx0 r)) := by
 subst ua
 refine calls_of_goes (fn := Tryd.f46) (c := B46) (by kernel_rfl) (by kernel_rfl) 19 (by kernel_rfl) ?_
 refine Goes.jp 20 [(0, (pt gx0 0))] (fun junk => ?_)
 delta M.strings_Builder_copyCheck at h
 refine Goes.rn 5 [(2, (pt gx0 0)), (3, (pt gx0 0)), (4, (pt gx0 0))] Jg ?_
 refine Goes.ld 53 (.tmp 4) 5 53 ⟨gx0, 0, none⟩ (.pointer none) (p0.c 0 0) ?_
 refine Goes.rn 6 [(6, .bool true), (7, (pt gx0 0)), (8, (pt gx0 0))] Jh ?_
 refine Op_.toU 53 110 (.tmp 8) 9 110 0 gx0 0 p0 rfl Goes.v (by kernel_rfl) (by kernel_rfl) (by kernel_rfl) ?_
 refine Op_.ext { callee := .value (.func 64), args := #[(.tmp 9)], argTypes := #[110] } 10 110 64 #[(pt gx0 0)] Tryd.f64 Extern.AbiNoEscape.same ((pt gx0 0)) Goes.v (by kernel_rfl) (by kernel_rfl) (by kernel_rfl) (by kernel_rfl) (by kernel_rfl) (by kernel_rfl) (same_run _) ?_
 refine Op_.frU 110 53 (.tmp 10) 11 53 0 gx0 0 p0 rfl Goes.v (by kernel_rfl) (by kernel_rfl) ?_
 refine Goes.rn 2 [(12, (pt gx0 0)), (13, (pt gx0 0))] Ji ?_
 refine Op_.st 53 (.tmp 13) (.tmp 11) 0 0 gx0 0 ((pt gx0 0)) [(pt gx0 0)] p0 rfl Goes.s (by kernel_rfl) (by kernel_rfl) (by kernel_rfl) (by kernel_rfl) (Nat.zero_le _) (by simp only [List.length_cons, List.length_nil]; omega) (by simp [Value.oneCell']) ?_
 intro w2 z2 p2
 have p2 : Hp nz wz S0 w2 ((some gx0, .row 56 [(pt gx0 0), .slice (Gp u5) u4.length u7] 2 0) :: (u5, .row 5 u8 (u7 * (kInt .u8).size) 0) :: Lr) := p2
 refine Goes.rn 1 [] [] ?_
 obtain rfl := Option.some.inj h
 exact Goes.end_ (fn := Tryd.f46) (by kernel_rfl) (v := .tuple #[]) (by kernel_rfl) ⟨S0, u5, u4.length, u7, u8, rfl, ((Ext.refl S0 w0).trans z2), p2, (u9.ext z2), rfl⟩

def Qh := sub [1, 1] B26
def Jj : List Item := [.code Qh]
def Qi := sub [1, 0] B26
def Jk : List Item := .inRegion (opsOf Qi) [1] :: Jj
def Qj := sub [1, 1, 1] B26
def Jl : List Item := [.code Qj]
def Qk := sub [1, 1, 0] B26
def Jm : List Item := .inRegion (opsOf Qk) [4, 5, 6, 7, 8, 9, 10] :: Jl
def Jn : List Item := .inRegion (opsOf Qk) [6, 7, 8, 9, 10] :: Jl
def Jo : List Item := .inRegion (opsOf Qk) [10] :: Jl
def Ql := sub [1, 1, 1, 1] B26
def Jp : List Item := [.code Ql]

def Post.z6 (gx0 : Nat) (r : List Int) (v : Value) (w' : World) : Prop :=
 ∃ S' u0 u1 u2 u3, v = .nilIface ∧ Ext S0 w0 S' w' ∧ Hp nz wz S' w' ((some gx0, .row 56 [(pt gx0 0), .slice (Gp u0) u1 u2] 2 0) :: (u0, .row 5 u3 (u2 * (kInt .u8).size) 0) :: Lr) ∧ Els (kInt .u8) S' w' u3 r ∧ r.length = u1

theorem W.z6 (u4 : List Int) (x1 : Int) (r : List Int) (h : M.strings_Builder_WriteByte u4 x1 = some r) {nz wz S0 w0 Lr} [Gw nz wz] (gx0 u5 u6 u7 u8) (p0 : Hp nz wz S0 w0 ((some gx0, .row 56 [.pointer none, .slice (Gp u5) u6 u7] 2 0) :: (u5, .row 5 u8 (u7 * (kInt .u8).size) 0) :: Lr)) (u9 : Els (kInt .u8) S0 w0 u8 u4) (ua : u4.length = u6) :
  Calls Tryd.prog 26 #[(pt gx0 0), .int .u8 x1] w0 (Rets (Post.z6 nz wz S0 w0 Lr gx0 r)) := by
 subst ua
 refine calls_of_goes (fn := Tryd.f26) (c := B26) (by kernel_rfl) (by kernel_rfl) 15 (by kernel_rfl) ?_
 refine Goes.jp 17 [(0, (pt gx0 0)), (1, .int .u8 x1)] (fun junk => ?_)
 delta M.strings_Builder_WriteByte at h
 refine Goes.rn 7 [(4, .nilIface), (5, (pt gx0 0))] Jk ?_
 refine bind_some' h fun y3 e4 h => ?_
 refine Goes.cal (kc 46 [5] #[53]) 6 0 46 _ (W.z5 u4 y3 e4 gx0 u5 u4.length u7 u8 p0 u9 rfl) ?_
 rintro _ w2 ⟨S2, ub, uc, ud, ue, rfl, z2, p2, uf, rfl⟩
 refine Goes.rn 7 [(7, (pt gx0 0)), (8, (pt gx0 0)), (9, (pt gx0 0)), (10, (pt gx0 1))] Jm ?_
 refine Goes.ld 54 (.tmp 10) 11 54 ⟨gx0, 1, none⟩ (.slice (Gp ub) y3.length ud) (p2.c 0 1) ?_
 refine Goes.rn 1 [(12, .int .u8 x1)] Jn ?_
 have f7 : Els (kInt .u8) S2 w2 ([.int .u8 x1] : List Value) [x1] := by exact (Els.cons (K := (kInt .u8)) (vs := [.int .u8 x1]) (x := x1) rfl Els.nil)
 refine Op_.made (.buildSlice 54 1 #[(0, (.tmp 12))]) 13 54 (fun b => .slice (Gp (some b)) 1 1) 5 ([.int .u8 x1] : List Value) p2 Goes.v (by kernel_rfl) ?_
 intro b6 w3 z3 p3
 have p3 : Hp nz wz S2 w3 (((some b6), .row 5 ([.int .u8 x1] : List Value) (1 * (kInt .u8).size) 0) :: (some gx0, .row 56 [(pt gx0 0), .slice (Gp ub) y3.length ud] 2 0) :: (ub, .row 5 ue (ud * (kInt .u8).size) 0) :: Lr) := p3
 refine guard_some' h fun g12 h => ?_
 refine Op_.ap_n (K := (kInt .u8)) 54 (.tmp 11) (.tmp 13) 14 54 5 2 (.int .u8 0) 1 y3.length ud 1 y3 [x1] (y3 ++ [x1]) (Gp (some b6)) 1 rfl rfl rfl p3 rfl (uf.ext z3) Goes.v (by kernel_rfl) (by kernel_rfl) (by kernel_rfl) (by kernel_rfl) rfl (by decide) (f7.ext z3) (src_own p3 (q := 0) rfl) (by have := g12; omega) (by have := g12; omega) ?_
 intro w4 G13 c14 ug z4 p4 f16
 refine Goes.rn 2 [(15, (pt gx0 0)), (16, (pt gx0 1))] Jo ?_
 refine Op_.st 54 (.tmp 16) (.tmp 14) 0 1 gx0 1 (.slice (Gp G13) ((y3 ++ [x1]).length) c14) [.slice (Gp G13) ((y3 ++ [x1]).length) c14] p4 rfl Goes.s (by kernel_rfl) (by kernel_rfl) (by kernel_rfl) (by kernel_rfl) (Nat.zero_le _) (by simp only [List.length_cons, List.length_nil]; omega) (by simp [Value.oneCell']) ?_
 intro w5 z5 p5
 have p5 : Hp nz wz S2 w5 (((some b6), .row 5 ([.int .u8 x1] : List Value) (1 * (kInt .u8).size) 0) :: (some gx0, .row 56 [(pt gx0 0), .slice (Gp G13) ((y3 ++ [x1]).length) c14] 2 0) :: (G13, .row 5 ug (c14 * (kInt .u8).size) 0) :: Lr) := p5
 refine Goes.rn 5 [(4, .nilIface)] Jp ?_
 obtain rfl := Option.some.inj h
 have p5 := p5.dp 0
 exact Goes.rt Tryd.f26 (.nilIface) ⟨S2, G13, (y3 ++ [x1]).length, c14, ug, rfl, (((((Ext.refl S0 w0).trans z2).trans z3).trans z4).trans z5), p5, (f16.ext z5), rfl⟩

def Qm := sub [1, 1, 1] B46
def Jq : List Item := [.code Qm]
def Qn := sub [1, 1, 0] B46
def Jr : List Item := .inRegion (opsOf Qn) [3, 4, 5] :: Jq
def Js : List Item := .inRegion (opsOf Qn) [5] :: Jq

def Post.z7 (gx0 : Nat) (u5 : Option Nat) (u6 : Nat) (u7 : Nat) (u8 : List Value) (u4 : List Int) (r : Unit) (v : Value) (w' : World) : Prop :=
 ∃ S', v = .tuple #[] ∧ Ext S0 w0 S' w' ∧ Hp nz wz S' w' ((some gx0, .row 56 [(pt gx0 0), .slice (Gp u5) u6 u7] 2 0) :: (u5, .row 5 u8 (u7 * (kInt .u8).size) 0) :: Lr)

theorem W.z7 (u4 : List Int) (r : Unit) (h : M.strings_Builder_copyCheck_2 u4 = some r) {nz wz S0 w0 Lr} [Gw nz wz] (gx0 u5 u6 u7 u8) (p0 : Hp nz wz S0 w0 ((some gx0, .row 56 [(pt gx0 0), .slice (Gp u5) u6 u7] 2 0) :: (u5, .row 5 u8 (u7 * (kInt .u8).size) 0) :: Lr)) (u9 : Els (kInt .u8) S0 w0 u8 u4) (ua : u4.length = u6) :
  Calls Tryd.prog 46 #[(pt gx0 0)] w0 (Rets (Post.z7 nz wz S0 w0 Lr gx0 u5 u6 u7 u8 u4 r)) := by
 subst ua
 refine calls_of_goes (fn := Tryd.f46) (c := B46) (by kernel_rfl) (by kernel_rfl) 19 (by kernel_rfl) ?_
 refine Goes.jp 20 [(0, (pt gx0 0))] (fun junk => ?_)
 delta M.strings_Builder_copyCheck_2 at h
 refine Goes.rn 5 [(2, (pt gx0 0)), (3, (pt gx0 0)), (4, (pt gx0 0))] Jg ?_
 refine Goes.ld 53 (.tmp 4) 5 53 ⟨gx0, 0, none⟩ ((pt gx0 0)) (p0.c 0 0) ?_
 refine Goes.rn 8 [(6, .bool false), (14, (pt gx0 0)), (15, (pt gx0 0)), (16, (pt gx0 0))] Jr ?_
 refine Goes.ld 53 (.tmp 16) 17 53 ⟨gx0, 0, none⟩ ((pt gx0 0)) (p0.c 0 0) ?_
 refine Goes.rn 1 [(18, (pt gx0 0))] Js ?_
 refine Op_.neqP 53 (.tmp 17) (.tmp 18) 53 19 4 ⟨gx0, 0, none⟩ Goes.v (by kernel_rfl) (by kernel_rfl) (by kernel_rfl) ?_
 refine Goes.rn 3 [] [] ?_
 obtain rfl := Option.some.inj h
 exact Goes.end_ (fn := Tryd.f46) (by kernel_rfl) (v := .tuple #[]) (by kernel_rfl) ⟨S0, rfl, (Ext.refl S0 w0), p0⟩

def Post.z8 (gx0 : Nat) (r : List Int) (v : Value) (w' : World) : Prop :=
 ∃ S' u0 u1 u2 u3, v = .nilIface ∧ Ext S0 w0 S' w' ∧ Hp nz wz S' w' ((some gx0, .row 56 [(pt gx0 0), .slice (Gp u0) u1 u2] 2 0) :: (u0, .row 5 u3 (u2 * (kInt .u8).size) 0) :: Lr) ∧ Els (kInt .u8) S' w' u3 r ∧ r.length = u1

theorem W.z8 (u4 : List Int) (x1 : Int) (r : List Int) (h : M.strings_Builder_WriteByte_2 u4 x1 = some r) {nz wz S0 w0 Lr} [Gw nz wz] (gx0 u5 u6 u7 u8) (p0 : Hp nz wz S0 w0 ((some gx0, .row 56 [(pt gx0 0), .slice (Gp u5) u6 u7] 2 0) :: (u5, .row 5 u8 (u7 * (kInt .u8).size) 0) :: Lr)) (u9 : Els (kInt .u8) S0 w0 u8 u4) (ua : u4.length = u6) :
  Calls Tryd.prog 26 #[(pt gx0 0), .int .u8 x1] w0 (Rets (Post.z8 nz wz S0 w0 Lr gx0 r)) := by
 subst ua
 refine calls_of_goes (fn := Tryd.f26) (c := B26) (by kernel_rfl) (by kernel_rfl) 15 (by kernel_rfl) ?_
 refine Goes.jp 17 [(0, (pt gx0 0)), (1, .int .u8 x1)] (fun junk => ?_)
 delta M.strings_Builder_WriteByte_2 at h
 refine Goes.rn 7 [(4, .nilIface), (5, (pt gx0 0))] Jk ?_
 refine bind_some' h fun y3 e4 h => ?_
 refine Goes.cal (kc 46 [5] #[53]) 6 0 46 _ (W.z7 u4 y3 e4 gx0 u5 u4.length u7 u8 p0 u9 rfl) ?_
 rintro _ w2 ⟨S2, rfl, z2, p2⟩
 refine Goes.rn 7 [(7, (pt gx0 0)), (8, (pt gx0 0)), (9, (pt gx0 0)), (10, (pt gx0 1))] Jm ?_
 refine Goes.ld 54 (.tmp 10) 11 54 ⟨gx0, 1, none⟩ (.slice (Gp u5) u4.length u7) (p2.c 0 1) ?_
 refine Goes.rn 1 [(12, .int .u8 x1)] Jn ?_
 have f6 : Els (kInt .u8) S2 w2 ([.int .u8 x1] : List Value) [x1] := by exact (Els.cons (K := (kInt .u8)) (vs := [.int .u8 x1]) (x := x1) rfl Els.nil)
 refine Op_.made (.buildSlice 54 1 #[(0, (.tmp 12))]) 13 54 (fun b => .slice (Gp (some b)) 1 1) 5 ([.int .u8 x1] : List Value) p2 Goes.v (by kernel_rfl) ?_
 intro b5 w3 z3 p3
 have p3 : Hp nz wz S2 w3 (((some b5), .row 5 ([.int .u8 x1] : List Value) (1 * (kInt .u8).size) 0) :: (some gx0, .row 56 [(pt gx0 0), .slice (Gp u5) u4.length u7] 2 0) :: (u5, .row 5 u8 (u7 * (kInt .u8).size) 0) :: Lr) := p3
 refine guard_some' h fun g11 h => ?_
 refine Op_.ap_n (K := (kInt .u8)) 54 (.tmp 11) (.tmp 13) 14 54 5 2 (.int .u8 0) 1 u4.length u7 1 u4 [x1] (u4 ++ [x1]) (Gp (some b5)) 1 rfl rfl rfl p3 rfl (u9.ext (z2.trans z3)) Goes.v (by kernel_rfl) (by kernel_rfl) (by kernel_rfl) (by kernel_rfl) rfl (by decide) (f6.ext z3) (src_own p3 (q := 0) rfl) (by have := g11; omega) (by have := g11; omega) ?_
 intro w4 G12 c13 uh z4 p4 f15
 refine Goes.rn 2 [(15, (pt gx0 0)), (16, (pt gx0 1))] Jo ?_
 refine Op_.st 54 (.tmp 16) (.tmp 14) 0 1 gx0 1 (.slice (Gp G12) ((u4 ++ [x1]).length) c13) [.slice (Gp G12) ((u4 ++ [x1]).length) c13] p4 rfl Goes.s (by kernel_rfl) (by kernel_rfl) (by kernel_rfl) (by kernel_rfl) (Nat.zero_le _) (by simp only [List.length_cons, List.length_nil]; omega) (by simp [Value.oneCell']) ?_
 intro w5 z5 p5
 have p5 : Hp nz wz S2 w5 (((some b5), .row 5 ([.int .u8 x1] : List Value) (1 * (kInt .u8).size) 0) :: (some gx0, .row 56 [(pt gx0 0), .slice (Gp G12) ((u4 ++ [x1]).length) c13] 2 0) :: (G12, .row 5 uh (c13 * (kInt .u8).size) 0) :: Lr) := p5
 refine Goes.rn 5 [(4, .nilIface)] Jp ?_
 obtain rfl := Option.some.inj h
 have p5 := p5.dp 0
 exact Goes.rt Tryd.f26 (.nilIface) ⟨S2, G12, (u4 ++ [x1]).length, c13, uh, rfl, (((((Ext.refl S0 w0).trans z2).trans z3).trans z4).trans z5), p5, (f15.ext z5), rfl⟩

def Qo := sub [1, 1] B27
def Jt : List Item := [.code Qo]
def Qp := sub [1, 0] B27
def Ju : List Item := .inRegion (opsOf Qp) [1] :: Jt
def Qq := sub [1, 1, 1] B27
def Jv : List Item := [.code Qq]
def Qr := sub [1, 1, 0] B27
def Jw : List Item := .inRegion (opsOf Qr) [4, 5, 6, 7, 8, 9] :: Jv
def Jx : List Item := .inRegion (opsOf Qr) [6, 7, 8, 9] :: Jv
def Jy : List Item := .inRegion (opsOf Qr) [9] :: Jv
def Qs := sub [1, 1, 1, 1] B27
def Jz : List Item := [.code Qs]

def Post.z9 (gx0 : Nat) (r : Int × (List Int)) (v : Value) (w' : World) : Prop :=
 ∃ S' u0 u1 u2 u3, v = .tuple #[.i r.1, .nilIface] ∧ Ext S0 w0 S' w' ∧ Hp nz wz S' w' ((some gx0, .row 56 [(pt gx0 0), .slice (Gp u0) u1 u2] 2 0) :: (u0, .row 5 u3 (u2 * (kInt .u8).size) 0) :: Lr) ∧ Els (kInt .u8) S' w' u3 r.2 ∧ r.2.length = u1

theorem W.z9 (u4 : List Int) (x1 : ByteArray) (r : Int × (List Int)) (h : M.strings_Builder_WriteString_2 u4 x1 = some r) {nz wz S0 w0 Lr} [Gw nz wz] (gx0 u5 u6 u7 u8) (p0 : Hp nz wz S0 w0 ((some gx0, .row 56 [(pt gx0 0), .slice (Gp u5) u6 u7] 2 0) :: (u5, .row 5 u8 (u7 * (kInt .u8).size) 0) :: Lr)) (u9 : Els (kInt .u8) S0 w0 u8 u4) (ua : u4.length = u6) :
  Calls Tryd.prog 27 #[(pt gx0 0), .string x1] w0 (Rets (Post.z9 nz wz S0 w0 Lr gx0 r)) := by
 subst ua
 refine calls_of_goes (fn := Tryd.f27) (c := B27) (by kernel_rfl) (by kernel_rfl) 17 (by kernel_rfl) ?_
 refine Goes.jp 19 [(0, (pt gx0 0)), (1, .string x1)] (fun junk => ?_)
 delta M.strings_Builder_WriteString_2 at h
 refine Goes.rn 8 [(4, .i 0), (5, .nilIface), (6, (pt gx0 0))] Ju ?_
 refine bind_some' h fun y3 e4 h => ?_
 refine Goes.cal (kc 46 [6] #[53]) 7 0 46 _ (W.z7 u4 y3 e4 gx0 u5 u4.length u7 u8 p0 u9 rfl) ?_
 rintro _ w2 ⟨S2, rfl, z2, p2⟩
 refine Goes.rn 7 [(8, (pt gx0 0)), (9, (pt gx0 0)), (10, (pt gx0 0)), (11, (pt gx0 1))] Jw ?_
 refine Goes.ld 54 (.tmp 11) 12 54 ⟨gx0, 1, none⟩ (.slice (Gp u5) u4.length u7) (p2.c 0 1) ?_
 refine Goes.rn 1 [(13, .string x1)] Jx ?_
 refine guard_some' h fun g8 h => ?_
 refine Op_.apS 54 9 (.tmp 12) (.tmp 13) 14 54 5 1 1 u4.length u7 u4 (u4 ++ s2b x1) x1 rfl rfl p2 rfl (u9.ext z2) Goes.v (by kernel_rfl) (by kernel_rfl) (by kernel_rfl) (by kernel_rfl) (by kernel_rfl) (by have := g8; omega) (by have := g8; omega) ?_
 intro w3 G9 c10 ui z3 p3 f12
 refine Goes.rn 2 [(15, (pt gx0 0)), (16, (pt gx0 1))] Jy ?_
 refine Op_.st 54 (.tmp 16) (.tmp 14) 0 0 gx0 1 (.slice (Gp G9) ((u4 ++ s2b x1).length) c10) [.slice (Gp G9) ((u4 ++ s2b x1).length) c10] p3 rfl Goes.s (by kernel_rfl) (by kernel_rfl) (by kernel_rfl) (by kernel_rfl) (Nat.zero_le _) (by simp only [List.length_cons, List.length_nil]; omega) (by simp [Value.oneCell']) ?_
 intro w4 z4 p4
 have p4 : Hp nz wz S2 w4 ((some gx0, .row 56 [(pt gx0 0), .slice (Gp G9) ((u4 ++ s2b x1).length) c10] 2 0) :: (G9, .row 5 ui (c10 * (kInt .u8).size) 0) :: Lr) := p4
 refine Goes.rn 8 [(17, .string x1), (18, .i (x1.size : Int)), (4, .i (x1.size : Int)), (5, .nilIface)] Jz ?_
 obtain rfl := Option.some.inj h
 exact Goes.rt Tryd.f27 (.tuple #[.i (x1.size : Int), .nilIface]) ⟨S2, G9, (u4 ++ s2b x1).length, c10, ui, rfl, ((((Ext.refl S0 w0).trans z2).trans z3).trans z4), p4, (f12.ext z4), rfl⟩

def Qt := sub [1, 1] B28
def J10 : List Item := [.code Qt]
def Qu := sub [1, 0] B28
def J11 : List Item := .code Qu :: J10

def Post.za (gx0 : Nat) (r : ByteArray × (List Int)) (v : Value) (w' : World) : Prop :=
 ∃ S' uj u1 u2, v = .string r.1 ∧ Ext S0 w0 S' w' ∧ Hp nz wz S' w' ((some gx0, .row 56 [(pt gx0 0), .slice uj u1 u2] 2 0) :: Lr) ∧ Rd (kInt .u8) S' w' uj u2 r.2 ∧ r.2.length = u1

theorem W.za (u4 : List Int) (r : ByteArray × (List Int)) (h : M.strings_Builder_String_2 u4 = some r) {nz wz S0 w0 Lr} [Gw nz wz] (gx0 u5 u6 u7 u8) (p0 : Hp nz wz S0 w0 ((some gx0, .row 56 [(pt gx0 0), .slice (Gp u5) u6 u7] 2 0) :: (u5, .row 5 u8 (u7 * (kInt .u8).size) 0) :: Lr)) (u9 : Els (kInt .u8) S0 w0 u8 u4) (ua : u4.length = u6) :
  Calls Tryd.prog 28 #[(pt gx0 0)] w0 (Rets (Post.za nz wz S0 w0 Lr gx0 r)) := by
 subst ua
 refine calls_of_goes (fn := Tryd.f28) (c := B28) (by kernel_rfl) (by kernel_rfl) 13 (by kernel_rfl) ?_
 refine Goes.jp 14 [(0, (pt gx0 0))] (fun junk => ?_)
 delta M.strings_Builder_String_2 at h
 refine Goes.rn 5 [(2, .string (⟨#[]⟩ : ByteArray))] J11 ?_
 have z2 : Ext S0 w0 S0 (w0).drew := Ext.draw
 have p2 := p0.draw
 refine Goes.drawn (s := [10]) (F := Fc S0 (w0).drew [(⟨gx0, 1, none⟩, .slice (Gp u5) u4.length u7)]) 1 12 (by kernel_rfl) (by kernel_rfl) (by kernel_rfl) (by kernel_rfl) ?_
 generalize (w0).drew = w2 at z2 p2 ⊢
 refine AnyG.pu 0 (.move (.tmp 0)) 3 53 ((pt gx0 0)) (Fc.here (p2.cs [(0, 1, 1)])) ?_
 refine AnyG.pu 1 (.nilCheck (.tmp 3)) 4 0 ((pt gx0 0)) (Fc.here (p2.cs [(0, 1, 1)])) ?_
 refine AnyG.pu 2 (.fieldAddr 56 (.tmp 4) 1) 5 0 ((pt gx0 1)) (Fc.here (p2.cs [(0, 1, 1)])) ?_
 refine AnyG.ld1 (i := 3) 54 (.tmp 5) 6 54 ⟨gx0, 1, none⟩ (.slice (Gp u5) u4.length u7) (by kernel_rfl) (by kernel_rfl) (Fc.here (p2.cs [(0, 1, 1)])) (by kernel_rfl) (by kernel_rfl) (fun _ h => h.2.at_ 0 rfl) ?_
 refine AnyG.pu 5 (.move (.tmp 0)) 8 53 ((pt gx0 0)) (Fc.here (p2.cs [(0, 1, 1)])) ?_
 refine AnyG.pu 6 (.nilCheck (.tmp 8)) 9 0 ((pt gx0 0)) (Fc.here (p2.cs [(0, 1, 1)])) ?_
 refine AnyG.pu 7 (.fieldAddr 56 (.tmp 9) 1) 10 0 ((pt gx0 1)) (Fc.here (p2.cs [(0, 1, 1)])) ?_
 refine AnyG.ld1 (i := 8) 54 (.tmp 10) 11 54 ⟨gx0, 1, none⟩ (.slice (Gp u5) u4.length u7) (by kernel_rfl) (by kernel_rfl) (Fc.here (p2.cs [(0, 1, 1)])) (by kernel_rfl) (by kernel_rfl) (fun _ h => h.2.at_ 0 rfl) ?_
 refine AnyG.pu 9 (.call { callee := .builtin .len, args := #[(.tmp 11)], argTypes := #[54] }) 12 3 (.i (u4.length : Int)) (Fc.here (p2.cs [(0, 1, 1)])) ?_
 refine Op_.ssd 54 (.tmp 6) 7 90 5 1 u4.length u7 p2 rfl (AnyG.vs (i := 4) (by kernel_rfl) (by kernel_rfl)) (by kernel_rfl) (by kernel_rfl) ?_
 intro a3 w3 z3 p3 q4
 refine AnyG.next z3 ⟨(p3.c 0 1), trivial⟩ ?_
 refine guard_some' h fun g5 h => ?_
 refine Op_.ustr 90 3 (.tmp 7) (.tmp 12) 13 9 5 1 (b2s u4) rfl rfl p3 rfl (u9.ext (z2.trans z3)) q4 (by have := g5; omega) (AnyG.vs (i := 10) (by kernel_rfl) (by kernel_rfl)) (by kernel_rfl) (by kernel_rfl) (by kernel_rfl) (by kernel_rfl) ?_
 intro S4 w4 z4 p4 f6
 refine AnyG.last [] (Fc S4 w4 []) (by decide) ?_
 refine AnyG.pu 11 (.assign (.tmp 13)) 2 9 (.string (b2s u4)) (Fc.here trivial) ?_
 refine AnyG.done (by kernel_rfl) ?_ _
 obtain rfl := Option.some.inj h
 exact Goes.rt Tryd.f28 (.string (b2s u4)) ⟨S4, (Gp u5), u4.length, u7, rfl, ((((Ext.refl S0 w0).trans z2).trans z3).trans z4), p4, f6, rfl⟩

def Qv := sub [1, 1, 1] B9
def J12 : List Item := [.code Qv]
def J13 : List Item := .inBlock 0 :: J12
def Qw := sub [1, 1, 0, 1, 0, 0] B9
def J14 : List Item := .inLoop Qw :: J13
def J15 : List Item := .code Qw :: J14
def Qx := sub [1, 1, 0, 1, 0, 0, 1, 1] B9
def J16 : List Item := .code Qx :: J14
def Qy := sub [1, 1, 0, 1, 0, 0, 1, 0] B9
def J17 : List Item := .code Qy :: J16
def Qz := sub [1, 1, 0, 1, 0, 0, 1, 1, 1] B9
def J18 : List Item := .code Qz :: J14
def J19 : List Item := .inBlock 1 :: J18
def Q10 := sub [1, 1, 0, 1, 0, 0, 1, 1, 0, 0, 1, 1] B9
def J1a : List Item := .code Q10 :: J19
def Q11 := sub [1, 1, 0, 1, 0, 0, 1, 1, 0, 0, 1, 0] B9
def J1b : List Item := .inRegion (opsOf Q11) [2, 3] :: J1a
def Q12 := sub [1, 1, 0, 1, 0, 0, 1, 1, 0, 0, 1, 1, 1] B9
def J1c : List Item := .code Q12 :: J19
def Q13 := sub [1, 1, 0, 1, 0, 0, 1, 1, 0, 0, 1, 1, 0, 1] B9
def J1d : List Item := .code Q13 :: J1c
def Q14 := sub [1, 1, 0, 1, 0, 0, 1, 1, 0, 0, 1, 1, 0, 0] B9
def J1e : List Item := .inRegion (opsOf Q14) [1] :: J1d
def Q15 := sub [1, 1, 0, 1, 0, 0, 1, 1, 0, 0, 1, 1, 0, 1, 0, 1] B9
def J1f : List Item := .code Q15 :: J1c
def Q16 := sub [1, 1, 0, 1, 0, 0, 1, 1, 0, 0, 1, 1, 0, 1, 0, 0] B9
def J1g : List Item := .inRegion (opsOf Q16) [1] :: J1f
def Q17 := sub [1, 1, 1, 1] B9
def J1h : List Item := [.code Q17]
def Q18 := sub [1, 1, 1, 0] B9
def J1i : List Item := .inRegion (opsOf Q18) [0, 1] :: J1h

def Post.zb (r : ByteArray) (v : Value) (w' : World) : Prop :=
 ∃ S', v = .string r ∧ Ext S0 w0 S' w' ∧ Hp nz wz S' w' (Lr)

def L.zc : ByteArray × (List Int) × Int × Int → ByteArray → Prop := fun ⟨x0, uk, x7, x8⟩ r => ∀ S1 w1, Ext S0 w0 S1 w1 → ∀ gx3 ul um un uo (_ : Hp nz wz S1 w1 ((some gx3, .row 56 [(pt gx3 0), .slice (Gp ul) um un] 2 0) :: (ul, .row 5 uo (un * (kInt .u8).size) 0) :: Lr)) (_ : Els (kInt .u8) S1 w1 uo uk) (_ : uk.length = um) (junk : Nat → Value),
 Goes Tryd.prog (base 9) J15 ⟨lfr 35 [(0, .string x0), (3, (pt gx3 0)), (7, .i x7), (8, .i x8)] junk, []⟩ w1 (Done Tryd.prog 9 (Rets (Post.zb nz wz S0 w0 Lr r)))

theorem W.zc {nz wz S0 w0 Lr} [Gw nz wz] : ∀ a r, M.syntax_Quote_l1 a = some r → (L.zc nz wz S0 w0 Lr) a r := by
 refine M.syntax_Quote_l1.partial_correctness (motive := (L.zc nz wz S0 w0 Lr)) ?_
 intro up uq ⟨x0, uk, x7, x8⟩ r h S1 w1 hx gx3 ul um un uo p1 ur ut junk
 try dsimp only at h
 subst ut
 refine Goes.rn 5 [(9, .bool (decide (x8 < x7)))] J17 ?_
 refine ite_some h (fun h34 h => ?_) (fun h34 h => ?_)
 ·
  rw [decide_eq_true h34]
  refine Goes.rn 13 [(10, .i x8), (4, .i x8), (11, .string x0), (12, .i x8)] J1b ?_
  refine guard_some' h fun g35 h => ?_
  refine guard_some' h fun g36 h => ?_
  refine Op_.ixS 9 (.tmp 11) (.tmp 12) 13 5 .i64 x0 x8 Goes.v (by kernel_rfl) (by kernel_rfl) (by kernel_rfl) g35 g36 ?_
  refine Goes.rn 6 [(5, .int .u8 (bt x0 x8)), (14, .int .u8 (bt x0 x8))] J1e ?_
  refine bind_some' h fun y37 e38 h => ?_
  refine Goes.cal (kc 25 [14] #[5]) 15 4 25 _ (W.z2 (bt x0 x8) y37 e38  p1 ) ?_
  rintro _ w8 ⟨S8, rfl, z8, p8⟩
  refine Goes.rn 1 [] J1d ?_
  refine ite_some h (fun h39 h => ?_) (fun h39 h => ?_)
  ·
   rw [h39]
   refine Goes.rn 4 [(16, .int .u8 (bt x0 x8))] J1g ?_
   refine bind_some' h fun y40 e41 h => ?_
   refine Goes.cal (kc 26 [3, 16] #[56, 5]) 17 59 26 _ (W.z8 uk (bt x0 x8) y40 e41 gx3 ul uk.length un uo p8 (ur.ext z8) rfl) ?_
   rintro _ w9 ⟨S9, uu, uv, uw, ux, rfl, z9, p9, uy, rfl⟩
   refine Goes.rn 7 [(33, .i (wr .i64 (x8 + 1))), (8, .i (wr .i64 (x8 + 1)))] J15 ?_
   exact Goes.jp 35 [(0, .string x0), (3, (pt gx3 0)), (7, .i x7), (8, .i (wr .i64 (x8 + 1)))] (uq _ _ h _ _ ((hx.trans z8).trans z9) gx3 uu y40.length uw ux p9 uy rfl)
  ·
   have uz : y37 = false := by simpa using h39
   rw [uz]
   refine Goes.rn 2 [] J1c ?_
   have z10 : Ext S8 w8 S8 (w8).drew := Ext.draw
   have p10 := p8.draw
   refine Goes.drawn (s := [14]) (F := Fc S8 (w8).drew []) 8 15 (by kernel_rfl) (by kernel_rfl) (by kernel_rfl) (by kernel_rfl) ?_
   generalize (w8).drew = w10 at z10 p10 ⊢
   refine AnyG.pu 0 (.move (.tmp 5)) 18 5 (.int .u8 (bt x0 x8)) (Fc.here trivial) ?_
   refine AnyG.pu 1 (.binOp .shr 5 (.tmp 18) (.const (.int .u64 4)) 63) 19 5 (.int .u8 (ishr .u8 (bt x0 x8) 4)) (Fc.here trivial) ?_
   refine AnyG.pu 2 (.move (.tmp 5)) 20 5 (.int .u8 (bt x0 x8)) (Fc.here trivial) ?_
   refine AnyG.pu 3 (.binOp .shr 5 (.tmp 20) (.const (.int .u64 4)) 63) 21 5 (.int .u8 (ishr .u8 (bt x0 x8) 4)) (Fc.here trivial) ?_
   refine AnyG.pu 4 (.binOp .add 5 (.tmp 21) (.const (.int .u8 1)) 5) 22 5 (.int .u8 (wr .u8 ((ishr .u8 (bt x0 x8) 4) + 1))) (Fc.here trivial) ?_
   refine guard_some' h fun g43 h => ?_
   refine guard_some' h fun g44 h => ?_
   refine guard_some' h fun g45 h => ?_
   refine AnyG.slS (i := 5) 9 (.const (.string ⟨#[48, 49, 50, 51, 52, 53, 54, 55, 56, 57, 97, 98, 99, 100, 101, 102]⟩)) (some (.tmp 19)) (some (.tmp 22)) 23 9 (⟨#[48, 49, 50, 51, 52, 53, 54, 55, 56, 57, 97, 98, 99, 100, 101, 102]⟩ : ByteArray) (ishr .u8 (bt x0 x8) 4) (wr .u8 ((ishr .u8 (bt x0 x8) 4) + 1)) (by kernel_rfl) (by kernel_rfl) (Fc.here trivial) (by kernel_rfl) (by kernel_rfl) (Bnd.at_ .u8 (by kernel_rfl)) (Bnd.at_ .u8 (by kernel_rfl)) g43 g44 g45 ?_
   refine guard_some' h fun g46 h => ?_
   refine let_some h fun v47 e48 h => ?_
   refine AnyG.cat_n (i := 6) 9 (.const (.string ⟨#[92, 120]⟩)) (.tmp 23) 9 24 9 (⟨#[92, 120]⟩ : ByteArray) (ss (⟨#[48, 49, 50, 51, 52, 53, 54, 55, 56, 57, 97, 98, 99, 100, 101, 102]⟩ : ByteArray) (ishr .u8 (bt x0 x8) 4) (wr .u8 ((ishr .u8 (bt x0 x8) 4) + 1))) v47 e48 (by kernel_rfl) (by kernel_rfl) (Fc.here trivial) (by kernel_rfl) (by kernel_rfl) g46 ?_
   refine AnyG.pu 7 (.move (.tmp 5)) 25 5 (.int .u8 (bt x0 x8)) (Fc.here trivial) ?_
   refine AnyG.pu 8 (.binOp .and 5 (.tmp 25) (.const (.int .u8 15)) 5) 26 5 (.int .u8 (iand .u8 (bt x0 x8) 15)) (Fc.here trivial) ?_
   refine AnyG.pu 9 (.move (.tmp 5)) 27 5 (.int .u8 (bt x0 x8)) (Fc.here trivial) ?_
   refine AnyG.pu 10 (.binOp .and 5 (.tmp 27) (.const (.int .u8 15)) 5) 28 5 (.int .u8 (iand .u8 (bt x0 x8) 15)) (Fc.here trivial) ?_
   refine AnyG.pu 11 (.binOp .add 5 (.tmp 28) (.const (.int .u8 1)) 5) 29 5 (.int .u8 (wr .u8 ((iand .u8 (bt x0 x8) 15) + 1))) (Fc.here trivial) ?_
   refine guard_some' h fun g49 h => ?_
   refine guard_some' h fun g50 h => ?_
   refine guard_some' h fun g51 h => ?_
   refine AnyG.slS (i := 12) 9 (.const (.string ⟨#[48, 49, 50, 51, 52, 53, 54, 55, 56, 57, 97, 98, 99, 100, 101, 102]⟩)) (some (.tmp 26)) (some (.tmp 29)) 30 9 (⟨#[48, 49, 50, 51, 52, 53, 54, 55, 56, 57, 97, 98, 99, 100, 101, 102]⟩ : ByteArray) (iand .u8 (bt x0 x8) 15) (wr .u8 ((iand .u8 (bt x0 x8) 15) + 1)) (by kernel_rfl) (by kernel_rfl) (Fc.here trivial) (by kernel_rfl) (by kernel_rfl) (Bnd.at_ .u8 (by kernel_rfl)) (Bnd.at_ .u8 (by kernel_rfl)) g49 g50 g51 ?_
   refine guard_some' h fun g52 h => ?_
   refine let_some h fun v53 e54 h => ?_
   refine AnyG.cat_n (i := 13) 9 (.tmp 24) (.tmp 30) 9 31 9 v47 (ss (⟨#[48, 49, 50, 51, 52, 53, 54, 55, 56, 57, 97, 98, 99, 100, 101, 102]⟩ : ByteArray) (iand .u8 (bt x0 x8) 15) (wr .u8 ((iand .u8 (bt x0 x8) 15) + 1))) v53 e54 (by kernel_rfl) (by kernel_rfl) (Fc.here trivial) (by kernel_rfl) (by kernel_rfl) g52 ?_
   refine bind_some' h fun y55 e56 h => ?_
   refine Op_.call (kc 27 [3, 31] #[56, 9]) 32 61 27 #[(pt gx3 0), .string v53] (AnyG.cs (i := 14) (by kernel_rfl) (by kernel_rfl)) (by kernel_rfl) (W.z9 uk v53 y55 e56 gx3 ul uk.length un uo p10 (ur.ext (z8.trans z10)) rfl) ?_
   rintro _ w11 ⟨S11, u10, u11, u12, u13, rfl, z11, p11, u14, rfl⟩
   refine AnyG.last [] (Fc S11 w11 []) (by decide) ?_
   refine AnyG.done (by kernel_rfl) ?_ _
   refine Goes.rn 6 [(33, .i (wr .i64 (x8 + 1))), (8, .i (wr .i64 (x8 + 1)))] J15 ?_
   exact Goes.jp 35 [(0, .string x0), (3, (pt gx3 0)), (7, .i x7), (8, .i (wr .i64 (x8 + 1)))] (uq _ _ h _ _ (((hx.trans z8).trans z10).trans z11) gx3 u10 y55.2.length u12 u13 p11 u14 rfl)
 ·
  rw [decide_eq_false h34]
  refine Goes.rn 4 [] J1i ?_
  refine bind_some' h fun y58 e59 h => ?_
  refine Goes.cal (kc 28 [3] #[56]) 34 9 28 _ (W.za uk y58 e59 gx3 ul uk.length un uo p1 ur rfl) ?_
  rintro _ w12 ⟨S12, u15, u16, u17, rfl, z12, p12, u18, rfl⟩
  have p12 := p12.dp 0
  refine Goes.rn 2 [(2, .string y58.1)] J1h ?_
  obtain rfl := Option.some.inj h
  exact Goes.rt Tryd.f9 (.string y58.1) ⟨S12, rfl, (hx.trans z12), p12⟩

def Post.zd (gx0 : Nat) (r : Int × (List Int)) (v : Value) (w' : World) : Prop :=
 ∃ S' u0 u1 u2 u3, v = .tuple #[.i r.1, .nilIface] ∧ Ext S0 w0 S' w' ∧ Hp nz wz S' w' ((some gx0, .row 56 [(pt gx0 0), .slice (Gp u0) u1 u2] 2 0) :: (u0, .row 5 u3 (u2 * (kInt .u8).size) 0) :: Lr) ∧ Els (kInt .u8) S' w' u3 r.2 ∧ r.2.length = u1

theorem W.zd (u4 : List Int) (x1 : ByteArray) (r : Int × (List Int)) (h : M.strings_Builder_WriteString u4 x1 = some r) {nz wz S0 w0 Lr} [Gw nz wz] (gx0 u5 u6 u7 u8) (p0 : Hp nz wz S0 w0 ((some gx0, .row 56 [.pointer none, .slice (Gp u5) u6 u7] 2 0) :: (u5, .row 5 u8 (u7 * (kInt .u8).size) 0) :: Lr)) (u9 : Els (kInt .u8) S0 w0 u8 u4) (ua : u4.length = u6) :
  Calls Tryd.prog 27 #[(pt gx0 0), .string x1] w0 (Rets (Post.zd nz wz S0 w0 Lr gx0 r)) := by
 subst ua
 refine calls_of_goes (fn := Tryd.f27) (c := B27) (by kernel_rfl) (by kernel_rfl) 17 (by kernel_rfl) ?_
 refine Goes.jp 19 [(0, (pt gx0 0)), (1, .string x1)] (fun junk => ?_)
 delta M.strings_Builder_WriteString at h
 refine Goes.rn 8 [(4, .i 0), (5, .nilIface), (6, (pt gx0 0))] Ju ?_
 refine bind_some' h fun y3 e4 h => ?_
 refine Goes.cal (kc 46 [6] #[53]) 7 0 46 _ (W.z5 u4 y3 e4 gx0 u5 u4.length u7 u8 p0 u9 rfl) ?_
 rintro _ w2 ⟨S2, ub, uc, ud, ue, rfl, z2, p2, uf, rfl⟩
 refine Goes.rn 7 [(8, (pt gx0 0)), (9, (pt gx0 0)), (10, (pt gx0 0)), (11, (pt gx0 1))] Jw ?_
 refine Goes.ld 54 (.tmp 11) 12 54 ⟨gx0, 1, none⟩ (.slice (Gp ub) y3.length ud) (p2.c 0 1) ?_
 refine Goes.rn 1 [(13, .string x1)] Jx ?_
 refine guard_some' h fun g9 h => ?_
 refine Op_.apS 54 9 (.tmp 12) (.tmp 13) 14 54 5 1 1 y3.length ud y3 (y3 ++ s2b x1) x1 rfl rfl p2 rfl uf Goes.v (by kernel_rfl) (by kernel_rfl) (by kernel_rfl) (by kernel_rfl) (by kernel_rfl) (by have := g9; omega) (by have := g9; omega) ?_
 intro w3 G10 c11 u19 z3 p3 f13
 refine Goes.rn 2 [(15, (pt gx0 0)), (16, (pt gx0 1))] Jy ?_
 refine Op_.st 54 (.tmp 16) (.tmp 14) 0 0 gx0 1 (.slice (Gp G10) ((y3 ++ s2b x1).length) c11) [.slice (Gp G10) ((y3 ++ s2b x1).length) c11] p3 rfl Goes.s (by kernel_rfl) (by kernel_rfl) (by kernel_rfl) (by kernel_rfl) (Nat.zero_le _) (by simp only [List.length_cons, List.length_nil]; omega) (by simp [Value.oneCell']) ?_
 intro w4 z4 p4
 have p4 : Hp nz wz S2 w4 ((some gx0, .row 56 [(pt gx0 0), .slice (Gp G10) ((y3 ++ s2b x1).length) c11] 2 0) :: (G10, .row 5 u19 (c11 * (kInt .u8).size) 0) :: Lr) := p4
 refine Goes.rn 8 [(17, .string x1), (18, .i (x1.size : Int)), (4, .i (x1.size : Int)), (5, .nilIface)] Jz ?_
 obtain rfl := Option.some.inj h
 exact Goes.rt Tryd.f27 (.tuple #[.i (x1.size : Int), .nilIface]) ⟨S2, G10, (y3 ++ s2b x1).length, c11, u19, rfl, ((((Ext.refl S0 w0).trans z2).trans z3).trans z4), p4, (f13.ext z4), rfl⟩

def Post.ze (gx0 : Nat) (r : ByteArray × (List Int)) (v : Value) (w' : World) : Prop :=
 ∃ S' uj u1 u2, v = .string r.1 ∧ Ext S0 w0 S' w' ∧ Hp nz wz S' w' ((some gx0, .row 56 [.pointer none, .slice uj u1 u2] 2 0) :: Lr) ∧ Rd (kInt .u8) S' w' uj u2 r.2 ∧ r.2.length = u1

theorem W.ze (u4 : List Int) (r : ByteArray × (List Int)) (h : M.strings_Builder_String u4 = some r) {nz wz S0 w0 Lr} [Gw nz wz] (gx0 u5 u6 u7 u8) (p0 : Hp nz wz S0 w0 ((some gx0, .row 56 [.pointer none, .slice (Gp u5) u6 u7] 2 0) :: (u5, .row 5 u8 (u7 * (kInt .u8).size) 0) :: Lr)) (u9 : Els (kInt .u8) S0 w0 u8 u4) (ua : u4.length = u6) :
  Calls Tryd.prog 28 #[(pt gx0 0)] w0 (Rets (Post.ze nz wz S0 w0 Lr gx0 r)) := by
 subst ua
 refine calls_of_goes (fn := Tryd.f28) (c := B28) (by kernel_rfl) (by kernel_rfl) 13 (by kernel_rfl) ?_
 refine Goes.jp 14 [(0, (pt gx0 0))] (fun junk => ?_)
 delta M.strings_Builder_String at h
 refine Goes.rn 5 [(2, .string (⟨#[]⟩ : ByteArray))] J11 ?_
 have z2 : Ext S0 w0 S0 (w0).drew := Ext.draw
 have p2 := p0.draw
 refine Goes.drawn (s := [10]) (F := Fc S0 (w0).drew [(⟨gx0, 1, none⟩, .slice (Gp u5) u4.length u7)]) 1 12 (by kernel_rfl) (by kernel_rfl) (by kernel_rfl) (by kernel_rfl) ?_
 generalize (w0).drew = w2 at z2 p2 ⊢
 refine AnyG.pu 0 (.move (.tmp 0)) 3 53 ((pt gx0 0)) (Fc.here (p2.cs [(0, 1, 1)])) ?_
 refine AnyG.pu 1 (.nilCheck (.tmp 3)) 4 0 ((pt gx0 0)) (Fc.here (p2.cs [(0, 1, 1)])) ?_
 refine AnyG.pu 2 (.fieldAddr 56 (.tmp 4) 1) 5 0 ((pt gx0 1)) (Fc.here (p2.cs [(0, 1, 1)])) ?_
 refine AnyG.ld1 (i := 3) 54 (.tmp 5) 6 54 ⟨gx0, 1, none⟩ (.slice (Gp u5) u4.length u7) (by kernel_rfl) (by kernel_rfl) (Fc.here (p2.cs [(0, 1, 1)])) (by kernel_rfl) (by kernel_rfl) (fun _ h => h.2.at_ 0 rfl) ?_
 refine AnyG.pu 5 (.move (.tmp 0)) 8 53 ((pt gx0 0)) (Fc.here (p2.cs [(0, 1, 1)])) ?_
 refine AnyG.pu 6 (.nilCheck (.tmp 8)) 9 0 ((pt gx0 0)) (Fc.here (p2.cs [(0, 1, 1)])) ?_
 refine AnyG.pu 7 (.fieldAddr 56 (.tmp 9) 1) 10 0 ((pt gx0 1)) (Fc.here (p2.cs [(0, 1, 1)])) ?_
 refine AnyG.ld1 (i := 8) 54 (.tmp 10) 11 54 ⟨gx0, 1, none⟩ (.slice (Gp u5) u4.length u7) (by kernel_rfl) (by kernel_rfl) (Fc.here (p2.cs [(0, 1, 1)])) (by kernel_rfl) (by kernel_rfl) (fun _ h => h.2.at_ 0 rfl) ?_
 refine AnyG.pu 9 (.call { callee := .builtin .len, args := #[(.tmp 11)], argTypes := #[54] }) 12 3 (.i (u4.length : Int)) (Fc.here (p2.cs [(0, 1, 1)])) ?_
 refine Op_.ssd 54 (.tmp 6) 7 90 5 1 u4.length u7 p2 rfl (AnyG.vs (i := 4) (by kernel_rfl) (by kernel_rfl)) (by kernel_rfl) (by kernel_rfl) ?_
 intro a3 w3 z3 p3 q4
 refine AnyG.next z3 ⟨(p3.c 0 1), trivial⟩ ?_
 refine guard_some' h fun g5 h => ?_
 refine Op_.ustr 90 3 (.tmp 7) (.tmp 12) 13 9 5 1 (b2s u4) rfl rfl p3 rfl (u9.ext (z2.trans z3)) q4 (by have := g5; omega) (AnyG.vs (i := 10) (by kernel_rfl) (by kernel_rfl)) (by kernel_rfl) (by kernel_rfl) (by kernel_rfl) (by kernel_rfl) ?_
 intro S4 w4 z4 p4 f6
 refine AnyG.last [] (Fc S4 w4 []) (by decide) ?_
 refine AnyG.pu 11 (.assign (.tmp 13)) 2 9 (.string (b2s u4)) (Fc.here trivial) ?_
 refine AnyG.done (by kernel_rfl) ?_ _
 obtain rfl := Option.some.inj h
 exact Goes.rt Tryd.f28 (.string (b2s u4)) ⟨S4, (Gp u5), u4.length, u7, rfl, ((((Ext.refl S0 w0).trans z2).trans z3).trans z4), p4, f6, rfl⟩

def L.zf : ByteArray × (List Int) × Int × Int → ByteArray → Prop := fun ⟨x0, uk, x7, x8⟩ r => ∀ S1 w1, Ext S0 w0 S1 w1 → ∀ gx3 ul um un uo (_ : Hp nz wz S1 w1 ((some gx3, .row 56 [.pointer none, .slice (Gp ul) um un] 2 0) :: (ul, .row 5 uo (un * (kInt .u8).size) 0) :: Lr)) (_ : Els (kInt .u8) S1 w1 uo uk) (_ : uk.length = um) (junk : Nat → Value),
 Goes Tryd.prog (base 9) J15 ⟨lfr 35 [(0, .string x0), (3, (pt gx3 0)), (7, .i x7), (8, .i x8)] junk, []⟩ w1 (Done Tryd.prog 9 (Rets (Post.zb nz wz S0 w0 Lr r)))

theorem W.zf {nz wz S0 w0 Lr} [Gw nz wz] : ∀ a r, M.syntax_Quote_l0 a = some r → L.zf nz wz S0 w0 Lr a r := by
 intro ⟨x0, uk, x7, x8⟩ r h S1 w1 hx gx3 ul um un uo p1 ur ut junk
 rw [M.syntax_Quote_l0] at h
 try dsimp only at h
 subst ut
 refine Goes.rn 5 [(9, .bool (decide (x8 < x7)))] J17 ?_
 refine ite_some h (fun h6 h => ?_) (fun h6 h => ?_)
 ·
  rw [decide_eq_true h6]
  refine Goes.rn 13 [(10, .i x8), (4, .i x8), (11, .string x0), (12, .i x8)] J1b ?_
  refine guard_some' h fun g7 h => ?_
  refine guard_some' h fun g8 h => ?_
  refine Op_.ixS 9 (.tmp 11) (.tmp 12) 13 5 .i64 x0 x8 Goes.v (by kernel_rfl) (by kernel_rfl) (by kernel_rfl) g7 g8 ?_
  refine Goes.rn 6 [(5, .int .u8 (bt x0 x8)), (14, .int .u8 (bt x0 x8))] J1e ?_
  refine bind_some' h fun y9 e10 h => ?_
  refine Goes.cal (kc 25 [14] #[5]) 15 4 25 _ (W.z2 (bt x0 x8) y9 e10  p1 ) ?_
  rintro _ w3 ⟨S3, rfl, z3, p3⟩
  refine Goes.rn 1 [] J1d ?_
  refine ite_some h (fun h11 h => ?_) (fun h11 h => ?_)
  ·
   rw [h11]
   refine Goes.rn 4 [(16, .int .u8 (bt x0 x8))] J1g ?_
   refine bind_some' h fun y12 e13 h => ?_
   refine Goes.cal (kc 26 [3, 16] #[56, 5]) 17 59 26 _ (W.z6 uk (bt x0 x8) y12 e13 gx3 ul uk.length un uo p3 (ur.ext z3) rfl) ?_
   rintro _ w4 ⟨S4, u1a, u1b, u1c, u1d, rfl, z4, p4, u1e, rfl⟩
   refine Goes.rn 7 [(33, .i (wr .i64 (x8 + 1))), (8, .i (wr .i64 (x8 + 1)))] J15 ?_
   exact Goes.jp 35 [(0, .string x0), (3, (pt gx3 0)), (7, .i x7), (8, .i (wr .i64 (x8 + 1)))] (W.zc _ _ h _ _ ((hx.trans z3).trans z4) gx3 u1a y12.length u1c u1d p4 u1e rfl)
  ·
   have u1f : y9 = false := by simpa using h11
   rw [u1f]
   refine Goes.rn 2 [] J1c ?_
   have z5 : Ext S3 w3 S3 (w3).drew := Ext.draw
   have p5 := p3.draw
   refine Goes.drawn (s := [14]) (F := Fc S3 (w3).drew []) 8 15 (by kernel_rfl) (by kernel_rfl) (by kernel_rfl) (by kernel_rfl) ?_
   generalize (w3).drew = w5 at z5 p5 ⊢
   refine AnyG.pu 0 (.move (.tmp 5)) 18 5 (.int .u8 (bt x0 x8)) (Fc.here trivial) ?_
   refine AnyG.pu 1 (.binOp .shr 5 (.tmp 18) (.const (.int .u64 4)) 63) 19 5 (.int .u8 (ishr .u8 (bt x0 x8) 4)) (Fc.here trivial) ?_
   refine AnyG.pu 2 (.move (.tmp 5)) 20 5 (.int .u8 (bt x0 x8)) (Fc.here trivial) ?_
   refine AnyG.pu 3 (.binOp .shr 5 (.tmp 20) (.const (.int .u64 4)) 63) 21 5 (.int .u8 (ishr .u8 (bt x0 x8) 4)) (Fc.here trivial) ?_
   refine AnyG.pu 4 (.binOp .add 5 (.tmp 21) (.const (.int .u8 1)) 5) 22 5 (.int .u8 (wr .u8 ((ishr .u8 (bt x0 x8) 4) + 1))) (Fc.here trivial) ?_
   refine guard_some' h fun g17 h => ?_
   refine guard_some' h fun g18 h => ?_
   refine guard_some' h fun g19 h => ?_
   refine AnyG.slS (i := 5) 9 (.const (.string ⟨#[48, 49, 50, 51, 52, 53, 54, 55, 56, 57, 97, 98, 99, 100, 101, 102]⟩)) (some (.tmp 19)) (some (.tmp 22)) 23 9 (⟨#[48, 49, 50, 51, 52, 53, 54, 55, 56, 57, 97, 98, 99, 100, 101, 102]⟩ : ByteArray) (ishr .u8 (bt x0 x8) 4) (wr .u8 ((ishr .u8 (bt x0 x8) 4) + 1)) (by kernel_rfl) (by kernel_rfl) (Fc.here trivial) (by kernel_rfl) (by kernel_rfl) (Bnd.at_ .u8 (by kernel_rfl)) (Bnd.at_ .u8 (by kernel_rfl)) g17 g18 g19 ?_
   refine guard_some' h fun g20 h => ?_
   refine let_some h fun v21 e22 h => ?_
   refine AnyG.cat_n (i := 6) 9 (.const (.string ⟨#[92, 120]⟩)) (.tmp 23) 9 24 9 (⟨#[92, 120]⟩ : ByteArray) (ss (⟨#[48, 49, 50, 51, 52, 53, 54, 55, 56, 57, 97, 98, 99, 100, 101, 102]⟩ : ByteArray) (ishr .u8 (bt x0 x8) 4) (wr .u8 ((ishr .u8 (bt x0 x8) 4) + 1))) v21 e22 (by kernel_rfl) (by kernel_rfl) (Fc.here trivial) (by kernel_rfl) (by kernel_rfl) g20 ?_
   refine AnyG.pu 7 (.move (.tmp 5)) 25 5 (.int .u8 (bt x0 x8)) (Fc.here trivial) ?_
   refine AnyG.pu 8 (.binOp .and 5 (.tmp 25) (.const (.int .u8 15)) 5) 26 5 (.int .u8 (iand .u8 (bt x0 x8) 15)) (Fc.here trivial) ?_
   refine AnyG.pu 9 (.move (.tmp 5)) 27 5 (.int .u8 (bt x0 x8)) (Fc.here trivial) ?_
   refine AnyG.pu 10 (.binOp .and 5 (.tmp 27) (.const (.int .u8 15)) 5) 28 5 (.int .u8 (iand .u8 (bt x0 x8) 15)) (Fc.here trivial) ?_
   refine AnyG.pu 11 (.binOp .add 5 (.tmp 28) (.const (.int .u8 1)) 5) 29 5 (.int .u8 (wr .u8 ((iand .u8 (bt x0 x8) 15) + 1))) (Fc.here trivial) ?_
   refine guard_some' h fun g23 h => ?_
   refine guard_some' h fun g24 h => ?_
   refine guard_some' h fun g25 h => ?_
   refine AnyG.slS (i := 12) 9 (.const (.string ⟨#[48, 49, 50, 51, 52, 53, 54, 55, 56, 57, 97, 98, 99, 100, 101, 102]⟩)) (some (.tmp 26)) (some (.tmp 29)) 30 9 (⟨#[48, 49, 50, 51, 52, 53, 54, 55, 56, 57, 97, 98, 99, 100, 101, 102]⟩ : ByteArray) (iand .u8 (bt x0 x8) 15) (wr .u8 ((iand .u8 (bt x0 x8) 15) + 1)) (by kernel_rfl) (by kernel_rfl) (Fc.here trivial) (by kernel_rfl) (by kernel_rfl) (Bnd.at_ .u8 (by kernel_rfl)) (Bnd.at_ .u8 (by kernel_rfl)) g23 g24 g25 ?_
   refine guard_some' h fun g26 h => ?_
   refine let_some h fun v27 e28 h => ?_
   refine AnyG.cat_n (i := 13) 9 (.tmp 24) (.tmp 30) 9 31 9 v21 (ss (⟨#[48, 49, 50, 51, 52, 53, 54, 55, 56, 57, 97, 98, 99, 100, 101, 102]⟩ : ByteArray) (iand .u8 (bt x0 x8) 15) (wr .u8 ((iand .u8 (bt x0 x8) 15) + 1))) v27 e28 (by kernel_rfl) (by kernel_rfl) (Fc.here trivial) (by kernel_rfl) (by kernel_rfl) g26 ?_
   refine bind_some' h fun y29 e30 h => ?_
   refine Op_.call (kc 27 [3, 31] #[56, 9]) 32 61 27 #[(pt gx3 0), .string v27] (AnyG.cs (i := 14) (by kernel_rfl) (by kernel_rfl)) (by kernel_rfl) (W.zd uk v27 y29 e30 gx3 ul uk.length un uo p5 (ur.ext (z3.trans z5)) rfl) ?_
   rintro _ w6 ⟨S6, u1g, u1h, u1i, u1j, rfl, z6, p6, u1k, rfl⟩
   refine AnyG.last [] (Fc S6 w6 []) (by decide) ?_
   refine AnyG.done (by kernel_rfl) ?_ _
   refine Goes.rn 6 [(33, .i (wr .i64 (x8 + 1))), (8, .i (wr .i64 (x8 + 1)))] J15 ?_
   exact Goes.jp 35 [(0, .string x0), (3, (pt gx3 0)), (7, .i x7), (8, .i (wr .i64 (x8 + 1)))] (W.zc _ _ h _ _ (((hx.trans z3).trans z5).trans z6) gx3 u1g y29.2.length u1i u1j p6 u1k rfl)
 ·
  rw [decide_eq_false h6]
  refine Goes.rn 4 [] J1i ?_
  refine bind_some' h fun y32 e33 h => ?_
  refine Goes.cal (kc 28 [3] #[56]) 34 9 28 _ (W.ze uk y32 e33 gx3 ul uk.length un uo p1 ur rfl) ?_
  rintro _ w7 ⟨S7, u1l, u1m, u1n, rfl, z7, p7, u1o, rfl⟩
  have p7 := p7.dp 0
  refine Goes.rn 2 [(2, .string y32.1)] J1h ?_
  obtain rfl := Option.some.inj h
  exact Goes.rt Tryd.f9 (.string y32.1) ⟨S7, rfl, (hx.trans z7), p7⟩

def Q19 := sub [1, 1] B9
def J1j : List Item := [.code Q19]
def Q1a := sub [1, 0] B9
def J1k : List Item := .inRegion (opsOf Q1a) [0] :: J1j

theorem W.zb (x0 : ByteArray) (r : ByteArray) (h : M.syntax_Quote x0 = some r) {nz wz S0 w0 Lr} [Gw nz wz] (p0 : Hp nz wz S0 w0 (Lr)) :
  Calls Tryd.prog 9 #[.string x0] w0 (Rets (Post.zb nz wz S0 w0 Lr r)) := by
 refine calls_of_goes (fn := Tryd.f9) (c := B9) (by kernel_rfl) (by kernel_rfl) 34 (by kernel_rfl) ?_
 refine Goes.jp 35 [(0, .string x0)] (fun junk => ?_)
 delta M.syntax_Quote at h
 refine Goes.rn 6 [(2, .string (⟨#[]⟩ : ByteArray))] J1k ?_
 refine Op_.alloc 56 3 0 (.agg #[.pointer none, .slice none 0 0]) [.pointer none, .slice none 0 0] p0 Goes.v (by kernel_rfl) (by kernel_rfl) ?_
 intro b1 w2 z2 p2
 refine Goes.rn 10 [(6, .string x0), (7, .i (x0.size : Int)), (8, .i 0)] J15 ?_
 have p2 : Hp nz wz S0 w2 ((none, .row 5 [] (0 * (kInt .u8).size) 0) :: (some b1, .row 56 [.pointer none, .slice none 0 0] 2 0) :: Lr) := p2.nilRow' 5
 have p2 := (p2.fr 0).fr 1
 exact Goes.jp 35 [(0, .string x0), (3, (pt b1 0)), (7, .i (x0.size : Int)), (8, .i 0)] (W.zf _ _ h _ _ ((Ext.refl S0 w0).trans z2) b1 none 0 0 [] p2 (Els.nil (K := (kInt .u8))) rfl)

def Q1b := sub [1, 1] B29
def J1l : List Item := [.code Q1b]
def J1m : List Item := .inBlock 0 :: J1l
def Q1c := sub [1, 0, 1, 0, 0] B29
def J1n : List Item := .inLoop Q1c :: J1m
def J1o : List Item := .code Q1c :: J1n
def Q1d := sub [1, 0, 1, 0, 0, 1] B29
def J1p : List Item := .code Q1d :: J1n
def Q1e := sub [1, 0, 1, 0, 0, 0, 1] B29
def J1q : List Item := .code Q1e :: J1p
def Q1f := sub [1, 0, 1, 0, 0, 1, 1] B29
def J1r : List Item := .code Q1f :: J1n
def J1s : List Item := .inBlock 1 :: J1r
def Q1g := sub [1, 0, 1, 0, 0, 1, 0, 0, 1] B29
def J1t : List Item := .code Q1g :: J1s
def Q1h := sub [1, 0, 1, 0, 0, 1, 0, 0, 0] B29
def J1u : List Item := .inRegion (opsOf Q1h) [2, 3, 4] :: J1t
def Q1i := sub [1, 0, 1, 0, 0, 1, 0, 0, 1, 0, 1] B29
def J1v : List Item := .code Q1i :: J1s
def Q1j := sub [1, 1, 1] B29
def J1w : List Item := [.code Q1j]

def Post.zg (r : Bool) (v : Value) (w' : World) : Prop :=
 ∃ S', v = .bool r ∧ Ext S0 w0 S' w' ∧ Hp nz wz S' w' (Lr)

def L.zh : Int × ByteArray × Int → Bool → Prop := fun ⟨x0, x1, x5⟩ r => ∀ S1 w1, Ext S0 w0 S1 w1 → ∀ (_ : Hp nz wz S1 w1 (Lr)) (junk : Nat → Value),
 Goes Tryd.prog (base 29) J1o ⟨lfr 17 [(0, .int .u8 x0), (1, .string x1), (5, .i x5)] junk, []⟩ w1 (Done Tryd.prog 29 (Rets (Post.zg nz wz S0 w0 Lr r)))

theorem W.zh {nz wz S0 w0 Lr} [Gw nz wz] : ∀ a r, M.tidepoleref10_among_l0 a = some r → (L.zh nz wz S0 w0 Lr) a r := by
 refine M.tidepoleref10_among_l0.partial_correctness (motive := (L.zh nz wz S0 w0 Lr)) ?_
 intro u1p u1q ⟨x0, x1, x5⟩ r h S1 w1 hx p1 junk
 try dsimp only at h
 refine Goes.rn 8 [(6, .i x5), (7, .string x1), (8, .i (x1.size : Int)), (9, .bool (decide (x5 < (x1.size : Int))))] J1q ?_
 refine ite_some h (fun h1 h => ?_) (fun h1 h => ?_)
 ·
  rw [decide_eq_true h1]
  refine Goes.rn 8 [(12, .string x1), (13, .i x5)] J1u ?_
  refine guard_some' h fun g2 h => ?_
  refine Op_.ixS 9 (.tmp 12) (.tmp 13) 14 5 .i64 x1 x5 Goes.v (by kernel_rfl) (by kernel_rfl) (by kernel_rfl) g2 h1 ?_
  refine Goes.rn 3 [(15, .int .u8 x0), (16, .bool (decide (bt x1 x5 = x0)))] J1t ?_
  refine ite_some h (fun h3 h => ?_) (fun h3 h => ?_)
  ·
   rw [decide_eq_true h3]
   refine Goes.rn 5 [(4, .bool true)] J1v ?_
   obtain rfl := Option.some.inj h
   exact Goes.rt Tryd.f29 (.bool true) ⟨S1, rfl, hx, p1⟩
  ·
   rw [decide_eq_false h3]
   refine Goes.rn 9 [(10, .i x5), (11, .i (wr .i64 (x5 + 1))), (5, .i (wr .i64 (x5 + 1)))] J1o ?_
   exact Goes.jp 17 [(0, .int .u8 x0), (1, .string x1), (5, .i (wr .i64 (x5 + 1)))] (u1q _ _ h _ _ hx p1)
 ·
  rw [decide_eq_false h1]
  refine Goes.rn 6 [(4, .bool false)] J1w ?_
  obtain rfl := Option.some.inj h
  exact Goes.rt Tryd.f29 (.bool false) ⟨S1, rfl, hx, p1⟩

theorem W.zg (x0 : Int) (x1 : ByteArray) (r : Bool) (h : M.tidepoleref10_among x0 x1 = some r) {nz wz S0 w0 Lr} [Gw nz wz] (p0 : Hp nz wz S0 w0 (Lr)) :
  Calls Tryd.prog 29 #[.int .u8 x0, .string x1] w0 (Rets (Post.zg nz wz S0 w0 Lr r)) := by
 refine calls_of_goes (fn := Tryd.f29) (c := B29) (by kernel_rfl) (by kernel_rfl) 15 (by kernel_rfl) ?_
 refine Goes.jp 17 [(0, .int .u8 x0), (1, .string x1)] (fun junk => ?_)
 delta M.tidepoleref10_among at h
 refine Goes.rn 11 [(4, .bool false), (5, .i 0)] J1o ?_
 exact Goes.jp 17 [(0, .int .u8 x0), (1, .string x1), (5, .i 0)] (W.zh _ _ h _ _ (Ext.refl S0 w0) p0)

def Q1k := sub [1, 1, 1, 1] B10
def J1x : List Item := [.code Q1k]
def J1y : List Item := .inBlock 0 :: J1x
def Q1l := sub [1, 1, 1, 0, 1, 0, 0] B10
def J1z : List Item := .inLoop Q1l :: J1y
def J20 : List Item := .code Q1l :: J1z
def Q1m := sub [1, 1, 1, 0, 1, 0, 0, 1, 1] B10
def J21 : List Item := .code Q1m :: J1z
def J22 : List Item := .inBlock 1 :: J21
def Q1n := sub [1, 1, 1, 0, 1, 0, 0, 1, 0, 0, 1, 1] B10
def J23 : List Item := .code Q1n :: J22
def Q1o := sub [1, 1, 1, 0, 1, 0, 0, 1] B10
def J24 : List Item := .code Q1o :: J1z
def Q1p := sub [1, 1, 1, 0, 1, 0, 0, 0, 1] B10
def J25 : List Item := .code Q1p :: J24
def Q1q := sub [1, 1, 1, 0, 1, 0, 0, 1, 0, 0, 1] B10
def J26 : List Item := .code Q1q :: J22
def Q1r := sub [1, 1, 1, 0, 1, 0, 0, 1, 0, 0, 0] B10
def J27 : List Item := .inRegion (opsOf Q1r) [2, 3] :: J26
def Q1s := sub [1, 1, 1, 0, 1, 0, 0, 1, 0, 0, 1, 0] B10
def J28 : List Item := .inRegion (opsOf Q1s) [3, 4, 5, 6, 7, 8, 9, 10, 11, 12, 13, 14, 15, 16, 17, 18, 19, 20, 21, 22, 23, 24, 25] :: J23
def J29 : List Item := .inRegion (opsOf Q1s) [7, 8, 9, 10, 11, 12, 13, 14, 15, 16, 17, 18, 19, 20, 21, 22, 23, 24, 25] :: J23
def J2a : List Item := .inRegion (opsOf Q1s) [21, 22, 23, 24, 25] :: J23
def J2b : List Item := .inRegion (opsOf Q1s) [10, 11, 12, 13, 14, 15, 16, 17, 18, 19, 20, 21, 22, 23, 24, 25] :: J23
def J2c : List Item := .inRegion (opsOf Q1s) [15, 16, 17, 18, 19, 20, 21, 22, 23, 24, 25] :: J23
def J2d : List Item := .inRegion (opsOf Q1s) [18, 19, 20, 21, 22, 23, 24, 25] :: J23
def J2e : List Item := .inRegion (opsOf Q1s) [23, 24, 25] :: J23
def J2f : List Item := .inRegion (opsOf Q1s) [24, 25] :: J23
def Q1t := sub [1, 1, 1, 1, 1] B10
def J2g : List Item := [.code Q1t]
def Q1u := sub [1, 1, 1, 1, 0] B10
def J2h : List Item := .inRegion (opsOf Q1u) [1, 2] :: J2g
def Q1v := sub [1, 1, 1, 0, 1, 0, 0, 1, 0, 0, 1, 1, 0] B10
def J2i : List Item := .inRegion (opsOf Q1v) [2, 3, 4] :: J22
def Q1w := sub [1, 1, 1, 0, 1, 0, 0, 1, 0, 0, 1, 1, 1] B10
def J2j : List Item := .code Q1w :: J22

def Post.zi (r : ByteArray) (v : Value) (w' : World) : Prop :=
 ∃ S', v = .string r ∧ Ext S0 w0 S' w' ∧ Hp nz wz S' w' (Lr)

def L.zj : ByteArray × (List Int) × ByteArray × Int → ByteArray → Prop := fun ⟨x0, x3, x4, x5⟩ r => ∀ S1 w1, Ext S0 w0 S1 w1 → ∀ Gx3 nx3 cx3 u1r (_ : Hp nz wz S1 w1 ((Gx3, .row 5 u1r (cx3 * (kInt .u8).size) 0) :: Lr)) (_ : Els (kInt .u8) S1 w1 u1r x3) (_ : x3.length = nx3) (junk : Nat → Value),
 Goes Tryd.prog (base 10) J20 ⟨lfr 60 [(0, .string x0), (3, .slice (Gp Gx3) nx3 cx3), (4, .string x4), (5, .i x5)] junk, []⟩ w1 (Done Tryd.prog 10 (Rets (Post.zi nz wz S0 w0 Lr r)))

def L.zk : ByteArray × (List Int) × ByteArray × Int × Int × Bool → ByteArray → Prop := fun ⟨x0, x3, x4, x5, x6, x42⟩ r => ∀ S1 w1, Ext S0 w0 S1 w1 → ∀ Gx3 nx3 cx3 u1r (_ : Hp nz wz S1 w1 ((Gx3, .row 5 u1r (cx3 * (kInt .u8).size) 0) :: Lr)) (_ : Els (kInt .u8) S1 w1 u1r x3) (_ : x3.length = nx3) (junk : Nat → Value),
 Goes Tryd.prog (base 10) J23 ⟨lfr 60 [(0, .string x0), (3, .slice (Gp Gx3) nx3 cx3), (4, .string x4), (5, .i x5), (6, .int .u8 x6), (42, .bool x42)] junk, []⟩ w1 (Done Tryd.prog 10 (Rets (Post.zi nz wz S0 w0 Lr r)))

def L.zl : ByteArray × (List Int) × ByteArray × Int → ByteArray → Prop := fun ⟨x0, x3, x4, x5⟩ r => ∀ S1 w1, Ext S0 w0 S1 w1 → ∀ Gx3 nx3 cx3 u1r (_ : Hp nz wz S1 w1 ((Gx3, .row 5 u1r (cx3 * (kInt .u8).size) 0) :: Lr)) (_ : Els (kInt .u8) S1 w1 u1r x3) (_ : x3.length = nx3) (junk : Nat → Value),
 Goes Tryd.prog (base 10) J22 ⟨lfr 60 [(0, .string x0), (3, .slice (Gp Gx3) nx3 cx3), (4, .string x4), (5, .i x5)] junk, []⟩ w1 (Done Tryd.prog 10 (Rets (Post.zi nz wz S0 w0 Lr r)))

theorem W.zm {nz wz S0 w0 Lr} [Gw nz wz] : (∀ a r, M.tidepoleref10_Quote_l0 a = some r → (L.zj nz wz S0 w0 Lr) a r) ∧ (∀ a r, M.tidepoleref10_Quote_l1 a = some r → (L.zk nz wz S0 w0 Lr) a r) ∧ (∀ a r, M.tidepoleref10_Quote_l2 a = some r → (L.zl nz wz S0 w0 Lr) a r) := by
 refine M.tidepoleref10_Quote_l0.mutual_partial_correctness (L.zj nz wz S0 w0 Lr) (L.zk nz wz S0 w0 Lr) (L.zl nz wz S0 w0 Lr) ?_ ?_ ?_
 ·
  intro u1s u1t ⟨x0, x3, x4, x5⟩ r h S1 w1 hx Gx3 nx3 cx3 u1r p1 fx3 lx3 junk
  try dsimp only at h
  subst lx3
  refine Goes.rn 8 [(8, .i x5), (9, .string x0), (10, .i (x0.size : Int)), (11, .bool (decide (x5 < (x0.size : Int))))] J25 ?_
  refine ite_some h (fun h5 h => ?_) (fun h5 h => ?_)
  ·
   rw [decide_eq_true h5]
   refine Goes.rn 8 [(14, .string x0), (15, .i x5)] J27 ?_
   refine guard_some' h fun g6 h => ?_
   refine Op_.ixS 9 (.tmp 14) (.tmp 15) 16 5 .i64 x0 x5 Goes.v (by kernel_rfl) (by kernel_rfl) (by kernel_rfl) g6 h5 ?_
   refine Goes.rn 7 [(6, .int .u8 (bt x0 x5)), (17, .int .u8 (bt x0 x5)), (18, .bool (decide (bt x0 x5 ≥ 97))), (19, .bool (decide (bt x0 x5 ≥ 97)))] J28 ?_
   refine ite_some h (fun h7 h => ?_) (fun h7 h => ?_)
   ·
    rw [decide_eq_true h7]
    refine Goes.rn 4 [(20, .int .u8 (bt x0 x5)), (21, .bool (decide (bt x0 x5 ≤ 122))), (22, .bool (decide (bt x0 x5 ≤ 122))), (23, .bool (decide (bt x0 x5 ≤ 122)))] J29 ?_
    refine ite_some h (fun h8 h => ?_) (fun h8 h => ?_)
    ·
     rw [decide_eq_true h8]
     refine Goes.rn 14 [(24, undef), (25, undef), (26, undef), (27, undef), (28, undef), (29, undef), (30, .bool true), (31, .bool true), (32, undef), (33, undef), (34, undef), (35, undef), (36, undef), (37, undef)] J2a ?_
     refine Goes.rn 6 [(38, .bool true), (39, .bool true), (40, undef), (41, undef), (42, .bool true)] J23 ?_
     exact Goes.jp 60 [(0, .string x0), (3, .slice (Gp Gx3) x3.length cx3), (4, .string x4), (5, .i x5), (6, .int .u8 (bt x0 x5)), (42, .bool true)] (u1t _ _ h _ _ hx Gx3 x3.length cx3 u1r p1 fx3 rfl)
    ·
     rw [decide_eq_false h8]
     refine Goes.rn 3 [(24, .int .u8 (bt x0 x5)), (25, .bool (decide (bt x0 x5 ≥ 65))), (26, .bool (decide (bt x0 x5 ≥ 65)))] J2b ?_
     refine ite_some h (fun h10 h => ?_) (fun h10 h => ?_)
     ·
      rw [decide_eq_true h10]
      refine Goes.rn 5 [(27, .int .u8 (bt x0 x5)), (28, .bool (decide (bt x0 x5 ≤ 90))), (29, .bool (decide (bt x0 x5 ≤ 90))), (30, .bool (decide (bt x0 x5 ≤ 90))), (31, .bool (decide (bt x0 x5 ≤ 90)))] J2c ?_
      refine ite_some h (fun h11 h => ?_) (fun h11 h => ?_)
      ·
       rw [decide_eq_true h11]
       refine Goes.rn 12 [(32, undef), (33, undef), (34, undef), (35, undef), (36, undef), (37, undef), (38, .bool true), (39, .bool true), (40, undef), (41, undef), (42, .bool true)] J23 ?_
       exact Goes.jp 60 [(0, .string x0), (3, .slice (Gp Gx3) x3.length cx3), (4, .string x4), (5, .i x5), (6, .int .u8 (bt x0 x5)), (42, .bool true)] (u1t _ _ h _ _ hx Gx3 x3.length cx3 u1r p1 fx3 rfl)
      ·
       rw [decide_eq_false h11]
       refine Goes.rn 3 [(32, .int .u8 (bt x0 x5)), (33, .bool (decide (bt x0 x5 ≥ 48))), (34, .bool (decide (bt x0 x5 ≥ 48)))] J2d ?_
       refine ite_some h (fun h12 h => ?_) (fun h12 h => ?_)
       ·
        rw [decide_eq_true h12]
        refine Goes.rn 5 [(35, .int .u8 (bt x0 x5)), (36, .bool (decide (bt x0 x5 ≤ 57))), (37, .bool (decide (bt x0 x5 ≤ 57))), (38, .bool (decide (bt x0 x5 ≤ 57))), (39, .bool (decide (bt x0 x5 ≤ 57)))] J2e ?_
        refine ite_some h (fun h13 h => ?_) (fun h13 h => ?_)
        ·
         rw [decide_eq_true h13]
         refine Goes.rn 4 [(40, undef), (41, undef), (42, .bool true)] J23 ?_
         exact Goes.jp 60 [(0, .string x0), (3, .slice (Gp Gx3) x3.length cx3), (4, .string x4), (5, .i x5), (6, .int .u8 (bt x0 x5)), (42, .bool true)] (u1t _ _ h _ _ hx Gx3 x3.length cx3 u1r p1 fx3 rfl)
        ·
         rw [decide_eq_false h13]
         refine Goes.rn 1 [(40, .int .u8 (bt x0 x5))] J2f ?_
         refine bind_some' h fun y14 e15 h => ?_
         refine Goes.cal (.call { callee := .value (.func 29), args := #[(.tmp 40), (.const (.string ⟨#[95, 44, 58, 59, 60, 61, 62, 64, 33, 34, 35, 37, 38, 39, 126]⟩))], argTypes := #[5, 9] }) 41 4 29 _ (W.zg (bt x0 x5) (⟨#[95, 44, 58, 59, 60, 61, 62, 64, 33, 34, 35, 37, 38, 39, 126]⟩ : ByteArray) y14 e15  p1 ) ?_
         rintro _ w3 ⟨S3, rfl, z3, p3⟩
         refine Goes.rn 2 [(42, .bool y14)] J23 ?_
         exact Goes.jp 60 [(0, .string x0), (3, .slice (Gp Gx3) x3.length cx3), (4, .string x4), (5, .i x5), (6, .int .u8 (bt x0 x5)), (42, .bool y14)] (u1t _ _ h _ _ (hx.trans z3) Gx3 x3.length cx3 u1r p3 (fx3.ext z3) rfl)
       ·
        rw [decide_eq_false h12]
        refine Goes.rn 6 [(35, undef), (36, undef), (37, .bool false), (38, .bool false), (39, .bool false), (40, .int .u8 (bt x0 x5))] J2f ?_
        refine bind_some' h fun y16 e17 h => ?_
        refine Goes.cal (.call { callee := .value (.func 29), args := #[(.tmp 40), (.const (.string ⟨#[95, 44, 58, 59, 60, 61, 62, 64, 33, 34, 35, 37, 38, 39, 126]⟩))], argTypes := #[5, 9] }) 41 4 29 _ (W.zg (bt x0 x5) (⟨#[95, 44, 58, 59, 60, 61, 62, 64, 33, 34, 35, 37, 38, 39, 126]⟩ : ByteArray) y16 e17  p1 ) ?_
        rintro _ w4 ⟨S4, rfl, z4, p4⟩
        refine Goes.rn 2 [(42, .bool y16)] J23 ?_
        exact Goes.jp 60 [(0, .string x0), (3, .slice (Gp Gx3) x3.length cx3), (4, .string x4), (5, .i x5), (6, .int .u8 (bt x0 x5)), (42, .bool y16)] (u1t _ _ h _ _ (hx.trans z4) Gx3 x3.length cx3 u1r p4 (fx3.ext z4) rfl)
     ·
      rw [decide_eq_false h10]
      refine Goes.rn 8 [(27, undef), (28, undef), (29, .bool false), (30, .bool false), (31, .bool false), (32, .int .u8 (bt x0 x5)), (33, .bool (decide (bt x0 x5 ≥ 48))), (34, .bool (decide (bt x0 x5 ≥ 48)))] J2d ?_
      refine ite_some h (fun h18 h => ?_) (fun h18 h => ?_)
      ·
       rw [decide_eq_true h18]
       refine Goes.rn 5 [(35, .int .u8 (bt x0 x5)), (36, .bool (decide (bt x0 x5 ≤ 57))), (37, .bool (decide (bt x0 x5 ≤ 57))), (38, .bool (decide (bt x0 x5 ≤ 57))), (39, .bool (decide (bt x0 x5 ≤ 57)))] J2e ?_
       refine ite_some h (fun h19 h => ?_) (fun h19 h => ?_)
       ·
        rw [decide_eq_true h19]
        refine Goes.rn 4 [(40, undef), (41, undef), (42, .bool true)] J23 ?_
        exact Goes.jp 60 [(0, .string x0), (3, .slice (Gp Gx3) x3.length cx3), (4, .string x4), (5, .i x5), (6, .int .u8 (bt x0 x5)), (42, .bool true)] (u1t _ _ h _ _ hx Gx3 x3.length cx3 u1r p1 fx3 rfl)
       ·
        rw [decide_eq_false h19]
        refine Goes.rn 1 [(40, .int .u8 (bt x0 x5))] J2f ?_
        refine bind_some' h fun y20 e21 h => ?_
        refine Goes.cal (.call { callee := .value (.func 29), args := #[(.tmp 40), (.const (.string ⟨#[95, 44, 58, 59, 60, 61, 62, 64, 33, 34, 35, 37, 38, 39, 126]⟩))], argTypes := #[5, 9] }) 41 4 29 _ (W.zg (bt x0 x5) (⟨#[95, 44, 58, 59, 60, 61, 62, 64, 33, 34, 35, 37, 38, 39, 126]⟩ : ByteArray) y20 e21  p1 ) ?_
        rintro _ w5 ⟨S5, rfl, z5, p5⟩
        refine Goes.rn 2 [(42, .bool y20)] J23 ?_
        exact Goes.jp 60 [(0, .string x0), (3, .slice (Gp Gx3) x3.length cx3), (4, .string x4), (5, .i x5), (6, .int .u8 (bt x0 x5)), (42, .bool y20)] (u1t _ _ h _ _ (hx.trans z5) Gx3 x3.length cx3 u1r p5 (fx3.ext z5) rfl)
      ·
       rw [decide_eq_false h18]
       refine Goes.rn 6 [(35, undef), (36, undef), (37, .bool false), (38, .bool false), (39, .bool false), (40, .int .u8 (bt x0 x5))] J2f ?_
       refine bind_some' h fun y22 e23 h => ?_
       refine Goes.cal (.call { callee := .value (.func 29), args := #[(.tmp 40), (.const (.string ⟨#[95, 44, 58, 59, 60, 61, 62, 64, 33, 34, 35, 37, 38, 39, 126]⟩))], argTypes := #[5, 9] }) 41 4 29 _ (W.zg (bt x0 x5) (⟨#[95, 44, 58, 59, 60, 61, 62, 64, 33, 34, 35, 37, 38, 39, 126]⟩ : ByteArray) y22 e23  p1 ) ?_
       rintro _ w6 ⟨S6, rfl, z6, p6⟩
       refine Goes.rn 2 [(42, .bool y22)] J23 ?_
       exact Goes.jp 60 [(0, .string x0), (3, .slice (Gp Gx3) x3.length cx3), (4, .string x4), (5, .i x5), (6, .int .u8 (bt x0 x5)), (42, .bool y22)] (u1t _ _ h _ _ (hx.trans z6) Gx3 x3.length cx3 u1r p6 (fx3.ext z6) rfl)
   ·
    rw [decide_eq_false h7]
    refine Goes.rn 7 [(20, undef), (21, undef), (22, .bool false), (23, .bool false), (24, .int .u8 (bt x0 x5)), (25, .bool (decide (bt x0 x5 ≥ 65))), (26, .bool (decide (bt x0 x5 ≥ 65)))] J2b ?_
    refine ite_some h (fun h24 h => ?_) (fun h24 h => ?_)
    ·
     rw [decide_eq_true h24]
     refine Goes.rn 5 [(27, .int .u8 (bt x0 x5)), (28, .bool (decide (bt x0 x5 ≤ 90))), (29, .bool (decide (bt x0 x5 ≤ 90))), (30, .bool (decide (bt x0 x5 ≤ 90))), (31, .bool (decide (bt x0 x5 ≤ 90)))] J2c ?_
     refine ite_some h (fun h25 h => ?_) (fun h25 h => ?_)
     ·
      rw [decide_eq_true h25]
      refine Goes.rn 12 [(32, undef), (33, undef), (34, undef), (35, undef), (36, undef), (37, undef), (38, .bool true), (39, .bool true), (40, undef), (41, undef), (42, .bool true)] J23 ?_
      exact Goes.jp 60 [(0, .string x0), (3, .slice (Gp Gx3) x3.length cx3), (4, .string x4), (5, .i x5), (6, .int .u8 (bt x0 x5)), (42, .bool true)] (u1t _ _ h _ _ hx Gx3 x3.length cx3 u1r p1 fx3 rfl)
     ·
      rw [decide_eq_false h25]
      refine Goes.rn 3 [(32, .int .u8 (bt x0 x5)), (33, .bool (decide (bt x0 x5 ≥ 48))), (34, .bool (decide (bt x0 x5 ≥ 48)))] J2d ?_
      refine ite_some h (fun h26 h => ?_) (fun h26 h => ?_)
      ·
       rw [decide_eq_true h26]
       refine Goes.rn 5 [(35, .int .u8 (bt x0 x5)), (36, .bool (decide (bt x0 x5 ≤ 57))), (37, .bool (decide (bt x0 x5 ≤ 57))), (38, .bool (decide (bt x0 x5 ≤ 57))), (39, .bool (decide (bt x0 x5 ≤ 57)))] J2e ?_
       refine ite_some h (fun h27 h => ?_) (fun h27 h => ?_)
       ·
        rw [decide_eq_true h27]
        refine Goes.rn 4 [(40, undef), (41, undef), (42, .bool true)] J23 ?_
        exact Goes.jp 60 [(0, .string x0), (3, .slice (Gp Gx3) x3.length cx3), (4, .string x4), (5, .i x5), (6, .int .u8 (bt x0 x5)), (42, .bool true)] (u1t _ _ h _ _ hx Gx3 x3.length cx3 u1r p1 fx3 rfl)
       ·
        rw [decide_eq_false h27]
        refine Goes.rn 1 [(40, .int .u8 (bt x0 x5))] J2f ?_
        refine bind_some' h fun y28 e29 h => ?_
        refine Goes.cal (.call { callee := .value (.func 29), args := #[(.tmp 40), (.const (.string ⟨#[95, 44, 58, 59, 60, 61, 62, 64, 33, 34, 35, 37, 38, 39, 126]⟩))], argTypes := #[5, 9] }) 41 4 29 _ (W.zg (bt x0 x5) (⟨#[95, 44, 58, 59, 60, 61, 62, 64, 33, 34, 35, 37, 38, 39, 126]⟩ : ByteArray) y28 e29  p1 ) ?_
        rintro _ w7 ⟨S7, rfl, z7, p7⟩
        refine Goes.rn 2 [(42, .bool y28)] J23 ?_
        exact Goes.jp 60 [(0, .string x0), (3, .slice (Gp Gx3) x3.length cx3), (4, .string x4), (5, .i x5), (6, .int .u8 (bt x0 x5)), (42, .bool y28)] (u1t _ _ h _ _ (hx.trans z7) Gx3 x3.length cx3 u1r p7 (fx3.ext z7) rfl)
      ·
       rw [decide_eq_false h26]
       refine Goes.rn 6 [(35, undef), (36, undef), (37, .bool false), (38, .bool false), (39, .bool false), (40, .int .u8 (bt x0 x5))] J2f ?_
       refine bind_some' h fun y30 e31 h => ?_
       refine Goes.cal (.call { callee := .value (.func 29), args := #[(.tmp 40), (.const (.string ⟨#[95, 44, 58, 59, 60, 61, 62, 64, 33, 34, 35, 37, 38, 39, 126]⟩))], argTypes := #[5, 9] }) 41 4 29 _ (W.zg (bt x0 x5) (⟨#[95, 44, 58, 59, 60, 61, 62, 64, 33, 34, 35, 37, 38, 39, 126]⟩ : ByteArray) y30 e31  p1 ) ?_
       rintro _ w8 ⟨S8, rfl, z8, p8⟩
       refine Goes.rn 2 [(42, .bool y30)] J23 ?_
       exact Goes.jp 60 [(0, .string x0), (3, .slice (Gp Gx3) x3.length cx3), (4, .string x4), (5, .i x5), (6, .int .u8 (bt x0 x5)), (42, .bool y30)] (u1t _ _ h _ _ (hx.trans z8) Gx3 x3.length cx3 u1r p8 (fx3.ext z8) rfl)
    ·
     rw [decide_eq_false h24]
     refine Goes.rn 8 [(27, undef), (28, undef), (29, .bool false), (30, .bool false), (31, .bool false), (32, .int .u8 (bt x0 x5)), (33, .bool (decide (bt x0 x5 ≥ 48))), (34, .bool (decide (bt x0 x5 ≥ 48)))] J2d ?_
     refine ite_some h (fun h32 h => ?_) (fun h32 h => ?_)
     ·
      rw [decide_eq_true h32]
      refine Goes.rn 5 [(35, .int .u8 (bt x0 x5)), (36, .bool (decide (bt x0 x5 ≤ 57))), (37, .bool (decide (bt x0 x5 ≤ 57))), (38, .bool (decide (bt x0 x5 ≤ 57))), (39, .bool (decide (bt x0 x5 ≤ 57)))] J2e ?_
      refine ite_some h (fun h33 h => ?_) (fun h33 h => ?_)
      ·
       rw [decide_eq_true h33]
       refine Goes.rn 4 [(40, undef), (41, undef), (42, .bool true)] J23 ?_
       exact Goes.jp 60 [(0, .string x0), (3, .slice (Gp Gx3) x3.length cx3), (4, .string x4), (5, .i x5), (6, .int .u8 (bt x0 x5)), (42, .bool true)] (u1t _ _ h _ _ hx Gx3 x3.length cx3 u1r p1 fx3 rfl)
      ·
       rw [decide_eq_false h33]
       refine Goes.rn 1 [(40, .int .u8 (bt x0 x5))] J2f ?_
       refine bind_some' h fun y34 e35 h => ?_
       refine Goes.cal (.call { callee := .value (.func 29), args := #[(.tmp 40), (.const (.string ⟨#[95, 44, 58, 59, 60, 61, 62, 64, 33, 34, 35, 37, 38, 39, 126]⟩))], argTypes := #[5, 9] }) 41 4 29 _ (W.zg (bt x0 x5) (⟨#[95, 44, 58, 59, 60, 61, 62, 64, 33, 34, 35, 37, 38, 39, 126]⟩ : ByteArray) y34 e35  p1 ) ?_
       rintro _ w9 ⟨S9, rfl, z9, p9⟩
       refine Goes.rn 2 [(42, .bool y34)] J23 ?_
       exact Goes.jp 60 [(0, .string x0), (3, .slice (Gp Gx3) x3.length cx3), (4, .string x4), (5, .i x5), (6, .int .u8 (bt x0 x5)), (42, .bool y34)] (u1t _ _ h _ _ (hx.trans z9) Gx3 x3.length cx3 u1r p9 (fx3.ext z9) rfl)
     ·
      rw [decide_eq_false h32]
      refine Goes.rn 6 [(35, undef), (36, undef), (37, .bool false), (38, .bool false), (39, .bool false), (40, .int .u8 (bt x0 x5))] J2f ?_
      refine bind_some' h fun y36 e37 h => ?_
      refine Goes.cal (.call { callee := .value (.func 29), args := #[(.tmp 40), (.const (.string ⟨#[95, 44, 58, 59, 60, 61, 62, 64, 33, 34, 35, 37, 38, 39, 126]⟩))], argTypes := #[5, 9] }) 41 4 29 _ (W.zg (bt x0 x5) (⟨#[95, 44, 58, 59, 60, 61, 62, 64, 33, 34, 35, 37, 38, 39, 126]⟩ : ByteArray) y36 e37  p1 ) ?_
      rintro _ w10 ⟨S10, rfl, z10, p10⟩
      refine Goes.rn 2 [(42, .bool y36)] J23 ?_
      exact Goes.jp 60 [(0, .string x0), (3, .slice (Gp Gx3) x3.length cx3), (4, .string x4), (5, .i x5), (6, .int .u8 (bt x0 x5)), (42, .bool y36)] (u1t _ _ h _ _ (hx.trans z10) Gx3 x3.length cx3 u1r p10 (fx3.ext z10) rfl)
  ·
   rw [decide_eq_false h5]
   refine Goes.rn 5 [(58, .slice (Gp Gx3) x3.length cx3)] J2h ?_
   obtain ⟨S11, z11, p11, f38⟩ := p1.freezeRd 0 rfl fx3 (by decide)
   refine Op_.b2s_n 54 9 (.tmp 58) 59 9 5 (b2s x3) rfl rfl f38 Goes.v (by kernel_rfl) (by kernel_rfl) (by kernel_rfl) (by kernel_rfl) ?_
   refine Goes.rn 2 [(2, .string (b2s x3))] J2g ?_
   obtain rfl := Option.some.inj h
   have p11 := p11.dp 0
   exact Goes.rt Tryd.f10 (.string (b2s x3)) ⟨S11, rfl, (hx.trans z11), p11⟩
 ·
  intro u1u u1v ⟨x0, x3, x4, x5, x6, x42⟩ r h S1 w1 hx Gx3 nx3 cx3 u1r p1 fx3 lx3 junk
  try dsimp only at h
  subst lx3
  refine ite_some h (fun h39 h => ?_) (fun h39 h => ?_)
  ·
   rw [h39]
   refine Goes.rn 4 [(43, .slice (Gp Gx3) x3.length cx3), (44, .int .u8 x6)] J2i ?_
   have f41 : Els (kInt .u8) S1 w1 ([.int .u8 x6] : List Value) [x6] := by exact (Els.cons (K := (kInt .u8)) (vs := [.int .u8 x6]) (x := x6) rfl Els.nil)
   refine Op_.made (.buildSlice 54 1 #[(0, (.tmp 44))]) 45 54 (fun b => .slice (Gp (some b)) 1 1) 5 ([.int .u8 x6] : List Value) p1 Goes.v (by kernel_rfl) ?_
   intro b40 w12 z12 p12
   have p12 : Hp nz wz S1 w12 (((some b40), .row 5 ([.int .u8 x6] : List Value) (1 * (kInt .u8).size) 0) :: (Gx3, .row 5 u1r (cx3 * (kInt .u8).size) 0) :: Lr) := p12
   refine guard_some' h fun g46 h => ?_
   refine Op_.ap_n (K := (kInt .u8)) 54 (.tmp 43) (.tmp 45) 46 54 5 1 (.int .u8 0) 1 x3.length cx3 1 x3 [x6] (x3 ++ [x6]) (Gp (some b40)) 1 rfl rfl rfl p12 rfl (fx3.ext z12) Goes.v (by kernel_rfl) (by kernel_rfl) (by kernel_rfl) (by kernel_rfl) rfl (by decide) (f41.ext z12) (src_own p12 (q := 0) rfl) (by have := g46; omega) (by have := g46; omega) ?_
   intro w13 G47 c48 u1w z13 p13 f50
   refine Goes.rn 2 [(3, .slice (Gp G47) ((x3 ++ [x6]).length) c48)] J22 ?_
   have p13 := p13.dp 0
   exact Goes.jp 60 [(0, .string x0), (3, .slice (Gp G47) ((x3 ++ [x6]).length) c48), (4, .string x4), (5, .i x5)] (u1v _ _ h _ _ ((hx.trans z12).trans z13) G47 ((x3 ++ [x6]).length) c48 u1w p13 f50 rfl)
  ·
   have uz : x42 = false := by simpa using h39
   rw [uz]
   refine Goes.rn 1 [] J2j ?_
   have z14 : Ext S1 w1 S1 (w1).drew := Ext.draw
   have p14 := p1.draw
   refine Goes.drawn (s := [10]) (F := Fc S1 (w1).drew []) 9 12 (by kernel_rfl) (by kernel_rfl) (by kernel_rfl) (by kernel_rfl) ?_
   generalize (w1).drew = w14 at z14 p14 ⊢
   refine AnyG.pu 0 (.move (.tmp 3)) 47 54 (.slice (Gp Gx3) x3.length cx3) (Fc.here trivial) ?_
   refine AnyG.pu 1 (.move (.tmp 4)) 48 9 (.string x4) (Fc.here trivial) ?_
   refine AnyG.pu 2 (.move (.tmp 6)) 49 5 (.int .u8 x6) (Fc.here trivial) ?_
   refine AnyG.pu 3 (.binOp .quo 5 (.tmp 49) (.const (.int .u8 16)) 5) 50 5 (.int .u8 (iquo .u8 x6 16)) (Fc.here trivial) ?_
   refine guard_some' h fun g52 h => ?_
   refine guard_some' h fun g53 h => ?_
   refine AnyG.ixS (i := 4) 9 (.tmp 48) (.tmp 50) 51 5 .u8 x4 (iquo .u8 x6 16) (by kernel_rfl) (by kernel_rfl) (Fc.here trivial) (by kernel_rfl) (by kernel_rfl) (by kernel_rfl) g52 g53 ?_
   refine AnyG.pu 5 (.move (.tmp 4)) 52 9 (.string x4) (Fc.here trivial) ?_
   refine AnyG.pu 6 (.move (.tmp 6)) 53 5 (.int .u8 x6) (Fc.here trivial) ?_
   refine AnyG.pu 7 (.binOp .rem 5 (.tmp 53) (.const (.int .u8 16)) 5) 54 5 (.int .u8 (irem .u8 x6 16)) (Fc.here trivial) ?_
   refine guard_some' h fun g54 h => ?_
   refine guard_some' h fun g55 h => ?_
   refine AnyG.ixS (i := 8) 9 (.tmp 52) (.tmp 54) 55 5 .u8 x4 (irem .u8 x6 16) (by kernel_rfl) (by kernel_rfl) (Fc.here trivial) (by kernel_rfl) (by kernel_rfl) (by kernel_rfl) g54 g55 ?_
   refine let_some h fun v58 e59 h => ?_
   have f57 : Els (kInt .u8) S1 w14 ([.int .u8 92, .int .u8 120, .int .u8 (bt x4 (iquo .u8 x6 16)), .int .u8 (bt x4 (irem .u8 x6 16))] : List Value) v58 := by rw [← e59]; exact (Els.cons (K := (kInt .u8)) (vs := [.int .u8 92]) (x := 92) rfl (Els.cons (K := (kInt .u8)) (vs := [.int .u8 120]) (x := 120) rfl (Els.cons (K := (kInt .u8)) (vs := [.int .u8 (bt x4 (iquo .u8 x6 16))]) (x := bt x4 (iquo .u8 x6 16)) rfl (Els.cons (K := (kInt .u8)) (vs := [.int .u8 (bt x4 (irem .u8 x6 16))]) (x := bt x4 (irem .u8 x6 16)) rfl Els.nil))))
   refine Op_.made (.buildSlice 54 4 #[(0, (.const (.int .u8 92))), (1, (.const (.int .u8 120))), (2, (.tmp 51)), (3, (.tmp 55))]) 56 54 (fun b => .slice (Gp (some b)) 4 4) 5 ([.int .u8 92, .int .u8 120, .int .u8 (bt x4 (iquo .u8 x6 16)), .int .u8 (bt x4 (irem .u8 x6 16))] : List Value) p14 (AnyG.vs (i := 9) (by kernel_rfl) (by kernel_rfl)) (by kernel_rfl) ?_
   intro b56 w15 z15 p15
   have p15 : Hp nz wz S1 w15 (((some b56), .row 5 ([.int .u8 92, .int .u8 120, .int .u8 (bt x4 (iquo .u8 x6 16)), .int .u8 (bt x4 (irem .u8 x6 16))] : List Value) (4 * (kInt .u8).size) 0) :: (Gx3, .row 5 u1r (cx3 * (kInt .u8).size) 0) :: Lr) := p15
   refine AnyG.next z15 trivial ?_
   refine guard_some' h fun g64 h => ?_
   refine Op_.ap_n (K := (kInt .u8)) 54 (.tmp 47) (.tmp 56) 57 54 5 1 (.int .u8 0) 1 x3.length cx3 4 x3 v58 (x3 ++ v58) (Gp (some b56)) 4 rfl (by rw [← e59]; rfl) rfl p15 rfl (fx3.ext (z14.trans z15)) (AnyG.vs (i := 10) (by kernel_rfl) (by kernel_rfl)) (by kernel_rfl) (by kernel_rfl) (by kernel_rfl) (by kernel_rfl) rfl (by decide) (f57.ext z15) (src_own p15 (q := 0) rfl) (by have := g64; omega) (by have := g64; omega) ?_
   intro w16 G65 c66 u1x z16 p16 f68
   refine AnyG.last [] (Fc S1 w16 []) (by decide) ?_
   refine AnyG.pu 11 (.assign (.tmp 57)) 3 54 (.slice (Gp G65) ((x3 ++ v58).length) c66) (Fc.here trivial) ?_
   refine AnyG.done (by kernel_rfl) ?_ _
   have p16 := p16.dp 0
   exact Goes.jp 60 [(0, .string x0), (3, .slice (Gp G65) ((x3 ++ v58).length) c66), (4, .string x4), (5, .i x5)] (u1v _ _ h _ _ (((hx.trans z14).trans z15).trans z16) G65 ((x3 ++ v58).length) c66 u1x p16 f68 rfl)
 ·
  intro u1y u1z ⟨x0, x3, x4, x5⟩ r h S1 w1 hx Gx3 nx3 cx3 u1r p1 fx3 lx3 junk
  try dsimp only at h
  subst lx3
  refine Goes.rn 7 [(12, .i x5), (13, .i (wr .i64 (x5 + 1))), (5, .i (wr .i64 (x5 + 1)))] J20 ?_
  exact Goes.jp 60 [(0, .string x0), (3, .slice (Gp Gx3) x3.length cx3), (4, .string x4), (5, .i (wr .i64 (x5 + 1)))] (u1z _ _ h _ _ hx Gx3 x3.length cx3 u1r p1 fx3 rfl)

theorem W.zj {nz wz S0 w0 Lr} [Gw nz wz] : ∀ a r, M.tidepoleref10_Quote_l0 a = some r → (L.zj nz wz S0 w0 Lr) a r := (W.zm).1

theorem W.zk {nz wz S0 w0 Lr} [Gw nz wz] : ∀ a r, M.tidepoleref10_Quote_l1 a = some r → (L.zk nz wz S0 w0 Lr) a r := (W.zm).2.1

theorem W.zl {nz wz S0 w0 Lr} [Gw nz wz] : ∀ a r, M.tidepoleref10_Quote_l2 a = some r → (L.zl nz wz S0 w0 Lr) a r := (W.zm).2.2

def Q1x := sub [1, 1] B10
def J2k : List Item := [.code Q1x]
def Q1y := sub [1, 0] B10
def J2l : List Item := .inRegion (opsOf Q1y) [0, 1] :: J2k

theorem W.zi (x0 : ByteArray) (r : ByteArray) (h : M.tidepoleref10_Quote x0 = some r) {nz wz S0 w0 Lr} [Gw nz wz] (p0 : Hp nz wz S0 w0 (Lr)) :
  Calls Tryd.prog 10 #[.string x0] w0 (Rets (Post.zi nz wz S0 w0 Lr r)) := by
 refine calls_of_goes (fn := Tryd.f10) (c := B10) (by kernel_rfl) (by kernel_rfl) 59 (by kernel_rfl) ?_
 refine Goes.jp 60 [(0, .string x0)] (fun junk => ?_)
 delta M.tidepoleref10_Quote at h
 refine Goes.rn 6 [(2, .string (⟨#[]⟩ : ByteArray))] J2l ?_
 have f2 : Els (kInt .u8) S0 w0 ([] : List Value) ([] : List Int) := by exact Els.nil
 refine Op_.made (.buildSlice 54 0 #[]) 7 54 (fun b => .slice (Gp (some b)) 0 0) 5 ([] : List Value) p0 Goes.v (by kernel_rfl) ?_
 intro b1 w2 z2 p2
 have p2 : Hp nz wz S0 w2 (((some b1), .row 5 ([] : List Value) (0 * (kInt .u8).size) 0) :: Lr) := p2
 refine Goes.rn 13 [(3, .slice (Gp (some b1)) 0 0), (4, .string (⟨#[48, 49, 50, 51, 52, 53, 54, 55, 56, 57, 97, 98, 99, 100, 101, 102]⟩ : ByteArray)), (5, .i 0)] J20 ?_
 exact Goes.jp 60 [(0, .string x0), (3, .slice (Gp (some b1)) 0 0), (4, .string (⟨#[48, 49, 50, 51, 52, 53, 54, 55, 56, 57, 97, 98, 99, 100, 101, 102]⟩ : ByteArray)), (5, .i 0)] (W.zj _ _ h _ _ ((Ext.refl S0 w0).trans z2) (some b1) 0 0 ([] : List Value) p2 (f2.ext z2) rfl)

def Q1z := sub [1, 1] B65
def J2m : List Item := [.code Q1z]
def Q20 := sub [1, 0, 1] B65
def J2n : List Item := .code Q20 :: J2m
def Q21 := sub [1, 0, 1, 0, 1] B65
def J2o : List Item := .code Q21 :: J2m
def Q22 := sub [1, 1, 1] B65
def J2p : List Item := [.code Q22]
def Q23 := sub [1, 1, 0] B65
def J2q : List Item := .code Q23 :: J2p

def Post.zn (gx0 : Nat) (r : Int × T68) (v : Value) (w' : World) : Prop :=
 ∃ S' u20, v = .int .u8 r.1 ∧ Ext S0 w0 S' w' ∧ Hp nz wz S' w' ((some gx0, .row 69 [.string r.2.s, .i r.2.at_, .i r.2.deep, u20] 4 0) :: Lr) ∧ PtO kT72 S' w' u20 r.2.bad

def L.zo (gx0 : Nat) : Bool × T68 → (Int × T68) → Prop := fun ⟨x19, e0v⟩ r => ∀ S1 w1, Ext S0 w0 S1 w1 → ∀ u20 (_ : Hp nz wz S1 w1 ((some gx0, .row 69 [.string e0v.s, .i e0v.at_, .i e0v.deep, u20] 4 0) :: Lr)) (_ : PtO kT72 S1 w1 u20 e0v.bad) (junk : Nat → Value),
 Goes Tryd.prog (base 65) J2n ⟨lfr 29 [(0, (pt gx0 0)), (19, .bool x19)] junk, []⟩ w1 (Done Tryd.prog 65 (Rets (Post.zn nz wz S0 w0 Lr gx0 r)))

theorem W.zo {nz wz S0 w0 Lr} [Gw nz wz] (gx0 : Nat) : ∀ a r, M.syntax_parser_peek_l0 a = some r → L.zo nz wz S0 w0 Lr gx0 a r := by
 intro ⟨x19, e0v⟩ r h S1 w1 hx u20 p1 u21 junk
 rw [M.syntax_parser_peek_l0] at h
 try dsimp only at h
 refine ite_some h (fun h9 h => ?_) (fun h9 h => ?_)
 ·
  rw [h9]
  refine Goes.rn 5 [(2, .int .u8 0)] J2o ?_
  obtain rfl := Option.some.inj h
  exact Goes.rt Tryd.f65 (.int .u8 0) ⟨S1, u20, rfl, hx, p1, u21⟩
 ·
  have h9' : x19 = false := by simpa using h9
  rw [h9']
  refine Goes.rn 3 [] J2q ?_
  have z3 : Ext S1 w1 S1 (w1).drew := Ext.draw
  have p3 := p1.draw
  refine Goes.drawn (s := []) (F := Fc S1 (w1).drew [(⟨gx0, 0, none⟩, .string e0v.s), (⟨gx0, 1, none⟩, .i e0v.at_)]) 3 10 (by kernel_rfl) (by kernel_rfl) (by kernel_rfl) (by kernel_rfl) ?_
  generalize (w1).drew = w3 at z3 p3 ⊢
  refine AnyG.pu 0 (.move (.tmp 0)) 20 66 ((pt gx0 0)) (Fc.here (p3.cs [(0, 0, 2)])) ?_
  refine AnyG.pu 1 (.nilCheck (.tmp 20)) 21 0 ((pt gx0 0)) (Fc.here (p3.cs [(0, 0, 2)])) ?_
  refine AnyG.pu 2 (.fieldAddr 69 (.tmp 21) 0) 22 0 ((pt gx0 0)) (Fc.here (p3.cs [(0, 0, 2)])) ?_
  refine AnyG.ld1 (i := 3) 9 (.tmp 22) 23 9 ⟨gx0, 0, none⟩ (.string e0v.s) (by kernel_rfl) (by kernel_rfl) (Fc.here (p3.cs [(0, 0, 2)])) (by kernel_rfl) (by kernel_rfl) (fun _ h => h.2.at_ 0 rfl) ?_
  refine AnyG.pu 4 (.move (.tmp 0)) 24 66 ((pt gx0 0)) (Fc.here (p3.cs [(0, 0, 2)])) ?_
  refine AnyG.pu 5 (.nilCheck (.tmp 24)) 25 0 ((pt gx0 0)) (Fc.here (p3.cs [(0, 0, 2)])) ?_
  refine AnyG.pu 6 (.fieldAddr 69 (.tmp 25) 1) 26 0 ((pt gx0 1)) (Fc.here (p3.cs [(0, 0, 2)])) ?_
  refine AnyG.ld1 (i := 7) 3 (.tmp 26) 27 3 ⟨gx0, 1, none⟩ (.i e0v.at_) (by kernel_rfl) (by kernel_rfl) (Fc.here (p3.cs [(0, 0, 2)])) (by kernel_rfl) (by kernel_rfl) (fun _ h => h.2.at_ 1 rfl) ?_
  refine guard_some' h fun g10 h => ?_
  refine guard_some' h fun g11 h => ?_
  refine AnyG.ixS (i := 8) 9 (.tmp 23) (.tmp 27) 28 5 .i64 e0v.s e0v.at_ (by kernel_rfl) (by kernel_rfl) (Fc.here (p3.cs [(0, 0, 2)])) (by kernel_rfl) (by kernel_rfl) (by kernel_rfl) g10 g11 ?_
  refine AnyG.pu 9 (.assign (.tmp 28)) 2 5 (.int .u8 (bt e0v.s e0v.at_)) (Fc.here (p3.cs [(0, 0, 2)])) ?_
  refine AnyG.done (by kernel_rfl) ?_ _
  obtain rfl := Option.some.inj h
  exact Goes.rt Tryd.f65 (.int .u8 (bt e0v.s e0v.at_)) ⟨S1, u20, rfl, (hx.trans z3), p3, (u21.ext z3)⟩

def Q24 := sub [1, 0, 0] B65
def J2r : List Item := .code Q24 :: J2n

theorem W.zn (x0v : T68) (r : Int × T68) (h : M.syntax_parser_peek x0v = some r) {nz wz S0 w0 Lr} [Gw nz wz] (gx0 u22) (p0 : Hp nz wz S0 w0 ((some gx0, .row 69 [.string x0v.s, .i x0v.at_, .i x0v.deep, u22] 4 0) :: Lr)) (u23 : PtO kT72 S0 w0 u22 x0v.bad) :
  Calls Tryd.prog 65 #[(pt gx0 0)] w0 (Rets (Post.zn nz wz S0 w0 Lr gx0 r)) := by
 refine calls_of_goes (fn := Tryd.f65) (c := B65) (by kernel_rfl) (by kernel_rfl) 28 (by kernel_rfl) ?_
 refine Goes.jp 29 [(0, (pt gx0 0))] (fun junk => ?_)
 delta M.syntax_parser_peek at h
 refine Goes.rn 6 [(2, .int .u8 0)] J2r ?_
 have z2 : Ext S0 w0 S0 (w0).drew := Ext.draw
 have p2 := p0.draw
 refine Goes.drawn (s := []) (F := Fc S0 (w0).drew [(⟨gx0, 3, none⟩, u22), (⟨gx0, 1, none⟩, .i x0v.at_), (⟨gx0, 0, none⟩, .string x0v.s)]) 1 17 (by kernel_rfl) (by kernel_rfl) (by kernel_rfl) (by kernel_rfl) ?_
 generalize (w0).drew = w2 at z2 p2 ⊢
 refine AnyG.pu 0 (.move (.tmp 0)) 3 66 ((pt gx0 0)) (Fc.here (p2.cs [(0, 3, 1), (0, 1, 1), (0, 0, 1)])) ?_
 refine AnyG.pu 1 (.nilCheck (.tmp 3)) 4 0 ((pt gx0 0)) (Fc.here (p2.cs [(0, 3, 1), (0, 1, 1), (0, 0, 1)])) ?_
 refine AnyG.pu 2 (.fieldAddr 69 (.tmp 4) 3) 5 0 ((pt gx0 3)) (Fc.here (p2.cs [(0, 3, 1), (0, 1, 1), (0, 0, 1)])) ?_
 refine AnyG.ld1 (i := 3) 67 (.tmp 5) 6 67 ⟨gx0, 3, none⟩ (u22) (by kernel_rfl) (by kernel_rfl) (Fc.here (p2.cs [(0, 3, 1), (0, 1, 1), (0, 0, 1)])) (by kernel_rfl) (by kernel_rfl) (fun _ h => h.2.at_ 0 rfl) ?_
 refine let_some h fun v8 h2 h => ?_
 rcases v8 with _ | y3
 ·
  try dsimp only at h
  obtain rfl := PtO.nil (u23.ext z2) h2
  refine AnyG.pu 4 (.binOp .neq 67 (.tmp 6) (.const (.pointer none)) 67) 7 4 (.bool false) (Fc.here (p2.cs [(0, 3, 1), (0, 1, 1), (0, 0, 1)])) ?_
  refine AnyG.pu 5 (.move (.tmp 7)) 8 4 (.bool false) (Fc.here (p2.cs [(0, 3, 1), (0, 1, 1), (0, 0, 1)])) ?_
  refine AnyG.pu 6 (.move (.tmp 0)) 9 66 ((pt gx0 0)) (Fc.here (p2.cs [(0, 3, 1), (0, 1, 1), (0, 0, 1)])) ?_
  refine AnyG.pu 7 (.nilCheck (.tmp 9)) 10 0 ((pt gx0 0)) (Fc.here (p2.cs [(0, 3, 1), (0, 1, 1), (0, 0, 1)])) ?_
  refine AnyG.pu 8 (.fieldAddr 69 (.tmp 10) 1) 11 0 ((pt gx0 1)) (Fc.here (p2.cs [(0, 3, 1), (0, 1, 1), (0, 0, 1)])) ?_
  refine AnyG.ld1 (i := 9) 3 (.tmp 11) 12 3 ⟨gx0, 1, none⟩ (.i x0v.at_) (by kernel_rfl) (by kernel_rfl) (Fc.here (p2.cs [(0, 3, 1), (0, 1, 1), (0, 0, 1)])) (by kernel_rfl) (by kernel_rfl) (fun _ h => h.2.at_ 1 rfl) ?_
  refine AnyG.pu 10 (.move (.tmp 0)) 13 66 ((pt gx0 0)) (Fc.here (p2.cs [(0, 3, 1), (0, 1, 1), (0, 0, 1)])) ?_
  refine AnyG.pu 11 (.nilCheck (.tmp 13)) 14 0 ((pt gx0 0)) (Fc.here (p2.cs [(0, 3, 1), (0, 1, 1), (0, 0, 1)])) ?_
  refine AnyG.pu 12 (.fieldAddr 69 (.tmp 14) 0) 15 0 ((pt gx0 0)) (Fc.here (p2.cs [(0, 3, 1), (0, 1, 1), (0, 0, 1)])) ?_
  refine AnyG.ld1 (i := 13) 9 (.tmp 15) 16 9 ⟨gx0, 0, none⟩ (.string x0v.s) (by kernel_rfl) (by kernel_rfl) (Fc.here (p2.cs [(0, 3, 1), (0, 1, 1), (0, 0, 1)])) (by kernel_rfl) (by kernel_rfl) (fun _ h => h.2.at_ 2 rfl) ?_
  refine AnyG.pu 14 (.call { callee := .builtin .len, args := #[(.tmp 16)], argTypes := #[9] }) 17 3 (.i (x0v.s.size : Int)) (Fc.here (p2.cs [(0, 3, 1), (0, 1, 1), (0, 0, 1)])) ?_
  refine AnyG.pu 15 (.binOp .geq 3 (.tmp 12) (.tmp 17) 3) 18 4 (.bool (decide (x0v.at_ ≥ (x0v.s.size : Int)))) (Fc.here (p2.cs [(0, 3, 1), (0, 1, 1), (0, 0, 1)])) ?_
  refine AnyG.pu 16 (.pick (.tmp 8) (.const (.bool true)) (.tmp 18)) 19 4 (.bool (decide (x0v.at_ ≥ (x0v.s.size : Int)))) (Fc.here (p2.cs [(0, 3, 1), (0, 1, 1), (0, 0, 1)])) ?_
  refine AnyG.done (by kernel_rfl) ?_ _
  exact Goes.jp 29 [(0, (pt gx0 0)), (19, .bool (decide (x0v.at_ ≥ (x0v.s.size : Int))))] (W.zo gx0 _ _ h _ _ ((Ext.refl S0 w0).trans z2) (.pointer none) p2 rfl)
 ·
  try dsimp only at h
  obtain ⟨a5, _, rfl, -, f6, q7⟩ := PtO.got (u23.ext z2) h2
  obtain rfl := q7
  refine AnyG.pu 4 (.binOp .neq 67 (.tmp 6) (.const (.pointer none)) 67) 7 4 (.bool true) (Fc.here (p2.cs [(0, 3, 1), (0, 1, 1), (0, 0, 1)])) ?_
  refine AnyG.pu 5 (.move (.tmp 7)) 8 4 (.bool true) (Fc.here (p2.cs [(0, 3, 1), (0, 1, 1), (0, 0, 1)])) ?_
  refine AnyG.s1 6 9 (Fc.here (p2.cs [(0, 3, 1), (0, 1, 1), (0, 0, 1)])) ?_
  refine AnyG.s1 7 10 (Fc.here (p2.cs [(0, 3, 1), (0, 1, 1), (0, 0, 1)])) ?_
  refine AnyG.s1 8 11 (Fc.here (p2.cs [(0, 3, 1), (0, 1, 1), (0, 0, 1)])) ?_
  refine AnyG.s1 9 12 (Fc.here (p2.cs [(0, 3, 1), (0, 1, 1), (0, 0, 1)])) ?_
  refine AnyG.s1 10 13 (Fc.here (p2.cs [(0, 3, 1), (0, 1, 1), (0, 0, 1)])) ?_
  refine AnyG.s1 11 14 (Fc.here (p2.cs [(0, 3, 1), (0, 1, 1), (0, 0, 1)])) ?_
  refine AnyG.s1 12 15 (Fc.here (p2.cs [(0, 3, 1), (0, 1, 1), (0, 0, 1)])) ?_
  refine AnyG.s1 13 16 (Fc.here (p2.cs [(0, 3, 1), (0, 1, 1), (0, 0, 1)])) ?_
  refine AnyG.s1 14 17 (Fc.here (p2.cs [(0, 3, 1), (0, 1, 1), (0, 0, 1)])) ?_
  refine AnyG.s1 15 18 (Fc.here (p2.cs [(0, 3, 1), (0, 1, 1), (0, 0, 1)])) ?_
  refine AnyG.pu 16 (.pick (.tmp 8) (.const (.bool true)) (.tmp 18)) 19 4 (.bool true) (Fc.here (p2.cs [(0, 3, 1), (0, 1, 1), (0, 0, 1)])) ?_
  refine AnyG.done (by kernel_rfl) ?_ _
  exact Goes.jp 29 [(0, (pt gx0 0)), (19, .bool true)] (W.zo gx0 _ _ h _ _ ((Ext.refl S0 w0).trans z2) (.pointer (some a5)) p2 ⟨_, _, rfl, List.cons_ne_nil _ _, f6, rfl⟩)

def Q25 := sub [1] B31
def J2s : List Item := [.code Q25]
def Q26 := sub [0] B31
def J2t : List Item := .inRegion (opsOf Q26) [0] :: J2s
def Q27 := sub [1, 1] B31
def J2u : List Item := [.code Q27]
def Q28 := sub [1, 0, 1] B31
def J2v : List Item := .code Q28 :: J2u
def Q29 := sub [1, 0, 0] B31
def J2w : List Item := .inRegion (opsOf Q29) [3, 4] :: J2v
def Q2a := sub [1, 0, 1, 0] B31
def J2x : List Item := .inRegion (opsOf Q2a) [3, 4, 5, 6] :: J2u
def J2y : List Item := .inRegion (opsOf Q2a) [6] :: J2u
def Q2b := sub [1, 1, 1] B31
def J2z : List Item := [.code Q2b]
def Q2c := sub [1, 1, 0] B31
def J30 : List Item := .inRegion (opsOf Q2c) [1] :: J2z

def Post.zp (gx0 : Nat) (r : T27 × T68) (v : Value) (w' : World) : Prop :=
 ∃ S' u24 u25 u26 u20, v = (ag (.i r.1.Kind :: U4 r.1.Set [.slice u24 u25 u26, .i r.1.Min, .i r.1.Max])) ∧ Ext S0 w0 S' w' ∧ Hp nz wz S' w' ((some gx0, .row 69 [.string r.2.s, .i r.2.at_, .i r.2.deep, u20] 4 0) :: Lr) ∧ r.1.Set.length = 4 ∧ Rd kT27 S' w' u24 u26 r.1.L ∧ r.1.L.length = u25 ∧ PtO kT72 S' w' u20 r.2.bad

theorem W.zp (x0v : T68) (x1 : Int) (r : T27 × T68) (h : M.syntax_parser_fail x0v x1 = some r) {nz wz S0 w0 Lr} [Gw nz wz] (gx0 u22) (p0 : Hp nz wz S0 w0 ((some gx0, .row 69 [.string x0v.s, .i x0v.at_, .i x0v.deep, u22] 4 0) :: Lr)) (u23 : PtO kT72 S0 w0 u22 x0v.bad) :
  Calls Tryd.prog 31 #[(pt gx0 0), .i x1] w0 (Rets (Post.zp nz wz S0 w0 Lr gx0 r)) := by
 refine calls_of_goes (fn := Tryd.f31) (c := B31) (by kernel_rfl) (by kernel_rfl) 15 (by kernel_rfl) ?_
 refine Goes.jp 17 [(0, (pt gx0 0)), (1, .i x1)] (fun junk => ?_)
 delta M.syntax_parser_fail at h
 refine Goes.rn 2 [] J2t ?_
 refine Op_.alloc 28 4 0 (.agg #[.i 0, .u 0, .u 0, .u 0, .u 0, .slice none 0 0, .i 0, .i 0]) [.i 0, .u 0, .u 0, .u 0, .u 0, .slice none 0 0, .i 0, .i 0] p0 Goes.v (by kernel_rfl) (by kernel_rfl) ?_
 intro b2 w2 z2 p2
 refine Goes.rn 7 [(5, (pt gx0 0)), (6, (pt gx0 0)), (7, (pt gx0 3))] J2w ?_
 refine Goes.ld 67 (.tmp 7) 8 67 ⟨gx0, 3, none⟩ (u22) (p2.c 1 3) ?_
 refine let_some h fun v13 h4 h => ?_
 rcases v13 with _ | y5
 ·
  try dsimp only at h
  obtain rfl := PtO.nil (u23.ext z2) h4
  refine Goes.rn 7 [(9, .bool true), (10, (pt gx0 0)), (11, .i x1), (12, .agg #[.i x1])] J2x ?_
  refine Op_.box 73 (.tmp 12) 13 67 (.agg #[.i x1]) [.i x1] p2 Goes.v (by kernel_rfl) (by kernel_rfl) ?_
  intro b10 w3 z3 p3
  refine Goes.rn 2 [(14, (pt gx0 0)), (15, (pt gx0 3))] J2y ?_
  refine Op_.st 67 (.tmp 15) (.tmp 13) 0 2 gx0 3 ((pt b10 0)) [(pt b10 0)] p3 rfl Goes.s (by kernel_rfl) (by kernel_rfl) (by kernel_rfl) (by kernel_rfl) (Nat.zero_le _) (by simp only [List.length_cons, List.length_nil]; omega) (by simp [Value.oneCell']) ?_
  intro w4 z4 p4
  have p4 : Hp nz wz S0 w4 ((some b10, .row 73 [.i x1] 1 0) :: (some b2, .row 28 [.i 0, .u 0, .u 0, .u 0, .u 0, .slice none 0 0, .i 0, .i 0] 8 0) :: (some gx0, .row 69 [.string x0v.s, .i x0v.at_, .i x0v.deep, (pt b10 0)] 4 0) :: Lr) := p4
  refine Goes.rn 4 [(16, .agg #[.i 0, .u 0, .u 0, .u 0, .u 0, .slice none 0 0, .i 0, .i 0])] J30 ?_
  refine Op_.st 28 (.tmp 4) (.tmp 16) 0 1 b2 0 (.agg #[.i 0, .u 0, .u 0, .u 0, .u 0, .slice none 0 0, .i 0, .i 0]) [.i 0, .u 0, .u 0, .u 0, .u 0, .slice none 0 0, .i 0, .i 0] p4 rfl Goes.s (by kernel_rfl) (by kernel_rfl) (by kernel_rfl) (by kernel_rfl) (Nat.zero_le _) (by simp only [List.length_cons, List.length_nil]; omega) (by simp [Value.oneCell']) ?_
  intro w5 z5 p5
  have p5 : Hp nz wz S0 w5 ((some b10, .row 73 [.i x1] 1 0) :: (some b2, .row 28 [.i 0, .u 0, .u 0, .u 0, .u 0, .slice none 0 0, .i 0, .i 0] 8 0) :: (some gx0, .row 69 [.string x0v.s, .i x0v.at_, .i x0v.deep, (pt b10 0)] 4 0) :: Lr) := p5
  refine Goes.rn 1 [] J2z ?_
  obtain ⟨S6, z6, p6, f12⟩ := p5.freezeBlk 0 rfl
  obtain rfl := Option.some.inj h
  exact Goes.ret (fn := Tryd.f31) (by kernel_rfl) (v := .agg #[.i 0, .u 0, .u 0, .u 0, .u 0, .slice none 0 0, .i 0, .i 0]) (results_n1 (fn := Tryd.f31) (a := .cell 4 28) (by kernel_rfl) (resV_cell ⟨b2, 0, none⟩ (by kernel_rfl) (run_loadN [.i 0, .u 0, .u 0, .u 0, .u 0, .slice none 0 0, .i 0, .i 0] (by kernel_rfl) (by kernel_rfl) (p6.pa 0 0)))) ⟨S6, none, 0, 0, (pt b10 0), rfl, ((((((Ext.refl S0 w0).trans z2).trans z3).trans z4).trans z5).trans z6), p6.drop, rfl, Rd.none_, rfl, ⟨_, _, rfl, List.cons_ne_nil _ _, f12, rfl⟩⟩
 ·
  try dsimp only at h
  obtain ⟨a7, _, rfl, -, f8, q9⟩ := PtO.got (u23.ext z2) h4
  obtain rfl := q9
  refine Goes.rn 7 [(9, .bool false), (16, .agg #[.i 0, .u 0, .u 0, .u 0, .u 0, .slice none 0 0, .i 0, .i 0])] J30 ?_
  refine Op_.st 28 (.tmp 4) (.tmp 16) 0 0 b2 0 (.agg #[.i 0, .u 0, .u 0, .u 0, .u 0, .slice none 0 0, .i 0, .i 0]) [.i 0, .u 0, .u 0, .u 0, .u 0, .slice none 0 0, .i 0, .i 0] p2 rfl Goes.s (by kernel_rfl) (by kernel_rfl) (by kernel_rfl) (by kernel_rfl) (Nat.zero_le _) (by simp only [List.length_cons, List.length_nil]; omega) (by simp [Value.oneCell']) ?_
  intro w7 z7 p7
  have p7 : Hp nz wz S0 w7 ((some b2, .row 28 [.i 0, .u 0, .u 0, .u 0, .u 0, .slice none 0 0, .i 0, .i 0] 8 0) :: (some gx0, .row 69 [.string x0v.s, .i x0v.at_, .i x0v.deep, .pointer (some a7)] 4 0) :: Lr) := p7
  refine Goes.rn 1 [] J2z ?_
  obtain rfl := Option.some.inj h
  exact Goes.ret (fn := Tryd.f31) (by kernel_rfl) (v := .agg #[.i 0, .u 0, .u 0, .u 0, .u 0, .slice none 0 0, .i 0, .i 0]) (results_n1 (fn := Tryd.f31) (a := .cell 4 28) (by kernel_rfl) (resV_cell ⟨b2, 0, none⟩ (by kernel_rfl) (run_loadN [.i 0, .u 0, .u 0, .u 0, .u 0, .slice none 0 0, .i 0, .i 0] (by kernel_rfl) (by kernel_rfl) (p7.pa 0 0)))) ⟨S0, none, 0, 0, .pointer (some a7), rfl, (((Ext.refl S0 w0).trans z2).trans z7), p7.drop, rfl, Rd.none_, rfl, ⟨_, _, rfl, List.cons_ne_nil _ _, (f8.ext z7), rfl⟩⟩

def Q2d := sub [1, 1] B48
def J31 : List Item := [.code Q2d]
def Q2e := sub [1, 0, 1] B48
def J32 : List Item := .code Q2e :: J31
def Q2f := sub [1, 0, 1, 0, 1] B48
def J33 : List Item := .code Q2f :: J31
def Q2g := sub [1, 1, 1] B48
def J34 : List Item := [.code Q2g]
def Q2h := sub [1, 1, 0] B48
def J35 : List Item := .inRegion (opsOf Q2h) [3, 4, 5, 6, 7] :: J34
def J36 : List Item := .inRegion (opsOf Q2h) [7] :: J34
def Q2i := sub [1, 1, 1, 1] B48
def J37 : List Item := [.code Q2i]

def Post.zq (gx0 : Nat) (r : Bool × T68) (v : Value) (w' : World) : Prop :=
 ∃ S' u20, v = .bool r.1 ∧ Ext S0 w0 S' w' ∧ Hp nz wz S' w' ((some gx0, .row 69 [.string r.2.s, .i r.2.at_, .i r.2.deep, u20] 4 0) :: Lr) ∧ PtO kT72 S' w' u20 r.2.bad

def L.zr (gx0 : Nat) : Bool × T68 → (Bool × T68) → Prop := fun ⟨x12, e0v⟩ r => ∀ S1 w1, Ext S0 w0 S1 w1 → ∀ u20 (_ : Hp nz wz S1 w1 ((some gx0, .row 69 [.string e0v.s, .i e0v.at_, .i e0v.deep, u20] 4 0) :: Lr)) (_ : PtO kT72 S1 w1 u20 e0v.bad) (junk : Nat → Value),
 Goes Tryd.prog (base 48) J32 ⟨lfr 20 [(0, (pt gx0 0)), (12, .bool x12)] junk, []⟩ w1 (Done Tryd.prog 48 (Rets (Post.zq nz wz S0 w0 Lr gx0 r)))

theorem W.zr {nz wz S0 w0 Lr} [Gw nz wz] (gx0 : Nat) : ∀ a r, M.syntax_parser_take_l0 a = some r → L.zr nz wz S0 w0 Lr gx0 a r := by
 intro ⟨x12, e0v⟩ r h S1 w1 hx u20 p1 u21 junk
 rw [M.syntax_parser_take_l0] at h
 try dsimp only at h
 refine ite_some h (fun h5 h => ?_) (fun h5 h => ?_)
 ·
  rw [h5]
  refine Goes.rn 5 [(4, .bool false)] J33 ?_
  obtain rfl := Option.some.inj h
  exact Goes.rt Tryd.f48 (.bool false) ⟨S1, u20, rfl, hx, p1, u21⟩
 ·
  have h5' : x12 = false := by simpa using h5
  rw [h5']
  refine Goes.rn 7 [(13, (pt gx0 0)), (14, (pt gx0 0)), (15, (pt gx0 1))] J35 ?_
  refine Goes.ld 3 (.tmp 15) 16 3 ⟨gx0, 1, none⟩ (.i e0v.at_) (p1.c 0 1) ?_
  refine Goes.rn 3 [(17, .i (wr .i64 (e0v.at_ + 1))), (18, (pt gx0 0)), (19, (pt gx0 1))] J36 ?_
  refine Op_.st 3 (.tmp 19) (.tmp 17) 0 0 gx0 1 (.i (wr .i64 (e0v.at_ + 1))) [.i (wr .i64 (e0v.at_ + 1))] p1 rfl Goes.s (by kernel_rfl) (by kernel_rfl) (by kernel_rfl) (by kernel_rfl) (Nat.zero_le _) (by simp only [List.length_cons, List.length_nil]; omega) (by simp [Value.oneCell']) ?_
  intro w3 z3 p3
  have p3 : Hp nz wz S1 w3 ((some gx0, .row 69 [.string e0v.s, .i (wr .i64 (e0v.at_ + 1)), .i e0v.deep, u20] 4 0) :: Lr) := p3
  refine Goes.rn 5 [(4, .bool true)] J37 ?_
  obtain rfl := Option.some.inj h
  exact Goes.rt Tryd.f48 (.bool true) ⟨S1, u20, rfl, (hx.trans z3), p3, (u21.ext z3)⟩

def Q2j := sub [1, 0, 0] B48
def J38 : List Item := .inRegion (opsOf Q2j) [3, 4, 5, 6, 7] :: J32
def J39 : List Item := .inRegion (opsOf Q2j) [4, 5, 6, 7] :: J32

theorem W.zq (x0v : T68) (x1 : Int) (r : Bool × T68) (h : M.syntax_parser_take x0v x1 = some r) {nz wz S0 w0 Lr} [Gw nz wz] (gx0 u22) (p0 : Hp nz wz S0 w0 ((some gx0, .row 69 [.string x0v.s, .i x0v.at_, .i x0v.deep, u22] 4 0) :: Lr)) (u23 : PtO kT72 S0 w0 u22 x0v.bad) :
  Calls Tryd.prog 48 #[(pt gx0 0), .int .u8 x1] w0 (Rets (Post.zq nz wz S0 w0 Lr gx0 r)) := by
 refine calls_of_goes (fn := Tryd.f48) (c := B48) (by kernel_rfl) (by kernel_rfl) 18 (by kernel_rfl) ?_
 refine Goes.jp 20 [(0, (pt gx0 0)), (1, .int .u8 x1)] (fun junk => ?_)
 delta M.syntax_parser_take at h
 refine Goes.rn 10 [(4, .bool false), (5, .int .u8 x1), (6, .bool (decide (x1 = 0))), (7, .bool (decide (x1 = 0)))] J38 ?_
 refine ite_some h (fun h2 h => ?_) (fun h2 h => ?_)
 ·
  rw [decide_eq_true h2]
  refine Goes.rn 6 [(8, undef), (9, undef), (10, undef), (11, undef), (12, .bool true)] J32 ?_
  exact Goes.jp 20 [(0, (pt gx0 0)), (12, .bool true)] (W.zr gx0 _ _ h _ _ (Ext.refl S0 w0) u22 p0 u23)
 ·
  rw [decide_eq_false h2]
  refine Goes.rn 1 [(8, (pt gx0 0))] J39 ?_
  refine bind_some' h fun y3 e4 h => ?_
  refine Goes.cal (kc 65 [8] #[66]) 9 5 65 _ (W.zn x0v y3 e4 gx0 u22 p0 u23) ?_
  rintro _ w2 ⟨S2, u27, rfl, z2, p2, u28⟩
  refine Goes.rn 4 [(10, .int .u8 x1), (11, .bool (!(decide (y3.1 = x1)))), (12, .bool (!(decide (y3.1 = x1))))] J32 ?_
  exact Goes.jp 20 [(0, (pt gx0 0)), (12, .bool (!(decide (y3.1 = x1))))] (W.zr gx0 _ _ h _ _ ((Ext.refl S0 w0).trans z2) u27 p2 u28)

def Q2k := sub [1] B90
def J3a : List Item := [.code Q2k]
def Q2l := sub [0] B90
def J3b : List Item := .inRegion (opsOf Q2l) [0] :: J3a
def Q2m := sub [1, 1] B90
def J3c : List Item := [.code Q2m]
def Q2n := sub [1, 0] B90
def J3d : List Item := .inRegion (opsOf Q2n) [0] :: J3c
def Q2o := sub [1, 1, 1] B90
def J3e : List Item := [.code Q2o]
def Q2p := sub [1, 1, 0] B90
def J3f : List Item := .inRegion (opsOf Q2p) [4, 5, 6] :: J3e
def Q2q := sub [1, 1, 1, 1] B90
def J3g : List Item := [.code Q2q]
def Q2r := sub [1, 1, 1, 0] B90
def J3h : List Item := .inRegion (opsOf Q2r) [0, 1] :: J3g

def Post.zs (r : List Int) (v : Value) (w' : World) : Prop :=
 ∃ S' vsq, v = .agg vsq.toArray ∧ Ext S0 w0 S' w' ∧ Hp nz wz S' w' (Lr) ∧ Els (kInt .u64) S' w' vsq r ∧ vsq.length = 4

theorem W.zs (x0 : Int) (r : List Int) (h : M.syntax_one x0 = some r) {nz wz S0 w0 Lr} [Gw nz wz] (p0 : Hp nz wz S0 w0 (Lr)) :
  Calls Tryd.prog 90 #[.int .u8 x0] w0 (Rets (Post.zs nz wz S0 w0 Lr r)) := by
 refine calls_of_goes (fn := Tryd.f90) (c := B90) (by kernel_rfl) (by kernel_rfl) 10 (by kernel_rfl) ?_
 refine Goes.jp 11 [(0, .int .u8 x0)] (fun junk => ?_)
 delta M.syntax_one at h
 refine Goes.rn 2 [] J3b ?_
 refine Op_.alloc 25 2 0 (.agg #[.u 0, .u 0, .u 0, .u 0]) [.u 0, .u 0, .u 0, .u 0] p0 Goes.v (by kernel_rfl) (by kernel_rfl) ?_
 intro b1 w2 z2 p2
 refine Goes.rn 3 [] J3d ?_
 refine Op_.alloc 25 3 0 (.agg #[.u 0, .u 0, .u 0, .u 0]) [.u 0, .u 0, .u 0, .u 0] p2 Goes.v (by kernel_rfl) (by kernel_rfl) ?_
 intro b3 w3 z3 p3
 refine Goes.rn 7 [(4, .int .u8 x0), (5, .int .u8 (iquo .u8 x0 64)), (6, .int .u8 x0), (7, .int .u8 (irem .u8 x0 64))] J3f ?_
 refine guard_some' h fun g5 h => ?_
 refine Op_.binshl 23 (.const (.int .u64 1)) (.tmp 7) 5 8 23 .u64 .u8 1 (irem .u8 x0 64) Goes.v (by kernel_rfl) (by kernel_rfl) g5 ?_
 have f6 : Els (kInt .u64) S0 w3 ([.u 0, .u 0, .u 0, .u 0] : List Value) [0, 0, 0, 0] := (Els.cons (K := (kInt .u64)) (vs := [.u 0]) (x := 0) rfl (Els.cons (K := (kInt .u64)) (vs := [.u 0]) (x := 0) rfl (Els.cons (K := (kInt .u64)) (vs := [.u 0]) (x := 0) rfl (Els.cons (K := (kInt .u64)) (vs := [.u 0]) (x := 0) rfl Els.nil))))
 refine guard_some' h fun g7 h => ?_
 refine guard_some' h fun g8 h => ?_
 refine Op_.ixA_n (K := (kInt .u64)) 25 (.tmp 3) (.tmp 5) 9 0 23 4 .u8 (iquo .u8 x0 64) 0 (gi [0, 0, 0, 0] (iquo .u8 x0 64)) rfl p3 rfl f6 (Els.len1 f6 rfl rfl) Goes.v (by kernel_rfl) (by kernel_rfl) (by kernel_rfl) (by kernel_rfl) g7 g8 ?_
 intro _ q10 f9
 obtain rfl := q10
 refine let_some h fun v11 e12 h => ?_
 refine Op_.stE_n (K := (kInt .u64)) 23 (.tmp 9) (.tmp 8) 0 0 (iquo .u8 x0 64) (.u (ishl .u64 1 (irem .u8 x0 64))) [.u (ishl .u64 1 (irem .u8 x0 64))] (ishl .u64 1 (irem .u8 x0 64)) v11 4 (Els.len1 f6 rfl rfl) e12 p3 rfl f6 Goes.s (by kernel_rfl) (by kernel_rfl) (by kernel_rfl) rfl (by kernel_rfl) g7 g8 (Nat.zero_le _) ?_
 intro w4 u29 z4 p4 f14 l15
 have l16 : u29.length = 4 := by rw [f14.length, l15]; rfl
 refine Goes.rn 3 [] J3h ?_
 refine Op_.ldN 25 (.tmp 3) 10 25 ⟨b3, 0, none⟩ u29 Goes.v (by kernel_rfl) (by kernel_rfl) (by rw [l16]; kernel_rfl) (At_all (p4.mem 0 rfl)) ?_
 have f17 : Els (kInt .u64) S0 w4 ([.u 0, .u 0, .u 0, .u 0] : List Value) [0, 0, 0, 0] := (Els.cons (K := (kInt .u64)) (vs := [.u 0]) (x := 0) rfl (Els.cons (K := (kInt .u64)) (vs := [.u 0]) (x := 0) rfl (Els.cons (K := (kInt .u64)) (vs := [.u 0]) (x := 0) rfl (Els.cons (K := (kInt .u64)) (vs := [.u 0]) (x := 0) rfl Els.nil))))
 refine Op_.stA 25 (.tmp 2) (.tmp 10) 0 1 b1 4 u29 p4 rfl rfl Goes.s (by kernel_rfl) (by kernel_rfl) (by kernel_rfl) l16 (Els.one f14) ?_
 intro w5 z5 p5
 refine Goes.rn 1 [] J3g ?_
 obtain rfl := Option.some.inj h
 have p5 := p5.dp 0
 exact Goes.ret (fn := Tryd.f90) (by kernel_rfl) (v := .agg u29.toArray) (results_n1 (fn := Tryd.f90) (a := .cell 2 25) (by kernel_rfl) (resV_cell ⟨b1, 0, none⟩ (by kernel_rfl) (run_loadN u29 (by kernel_rfl) (by rw [l16]; kernel_rfl) (At_all (p5.mem 0 rfl))))) ⟨S0, u29, rfl, (((((Ext.refl S0 w0).trans z2).trans z3).trans z4).trans z5), p5.drop, (f14.ext z5), l16⟩

def Q2s := sub [1, 1] B89
def J3i : List Item := [.code Q2s]
def J3j : List Item := .inBlock 0 :: J3i
def Q2t := sub [1, 0, 1, 0, 0] B89
def J3k : List Item := .inLoop Q2t :: J3j
def J3l : List Item := .code Q2t :: J3k
def Q2u := sub [1, 0, 1, 0, 0, 1, 1] B89
def J3m : List Item := .code Q2u :: J3k
def Q2v := sub [1, 0, 1, 0, 0, 1, 0] B89
def J3n : List Item := .code Q2v :: J3m
def Q2w := sub [1, 0, 1, 0, 0, 1, 1, 1] B89
def J3o : List Item := .code Q2w :: J3k
def J3p : List Item := .inBlock 1 :: J3o
def Q2x := sub [1, 0, 1, 0, 0, 1, 1, 0, 0, 1] B89
def J3q : List Item := .inRegion (opsOf Q2x) [2, 3, 4, 5, 6] :: J3p
def J3r : List Item := .inRegion (opsOf Q2x) [5, 6] :: J3p
def Q2y := sub [1, 1, 1] B89
def J3s : List Item := [.code Q2y]
def Q2z := sub [1, 1, 0] B89
def J3t : List Item := .inRegion (opsOf Q2z) [0, 1] :: J3s

def Post.zt (r : List Int) (v : Value) (w' : World) : Prop :=
 ∃ S' vsq, v = .agg vsq.toArray ∧ Ext S0 w0 S' w' ∧ Hp nz wz S' w' (Lr) ∧ Els (kInt .u64) S' w' vsq r ∧ vsq.length = 4

def L.zu : (List Int) × (List Int) × Int → (List Int) → Prop := fun ⟨x1, u2a, x4⟩ r => ∀ S1 w1, Ext S0 w0 S1 w1 → ∀ gx1 u2b gx2 (_ : Hp nz wz S1 w1 ((some gx1, .row 25 u2b 4 0) :: (some gx2, .row 25 (U4 u2a []) 4 0) :: Lr)) (_ : Els (kInt .u64) S1 w1 u2b x1) (_ : u2b.length = 4) (_ : u2a.length = 4) (junk : Nat → Value),
 Goes Tryd.prog (base 89) J3l ⟨lfr 15 [(1, (pt gx1 0)), (2, (pt gx2 0)), (4, .i x4)] junk, []⟩ w1 (Done Tryd.prog 89 (Rets (Post.zt nz wz S0 w0 Lr r)))

theorem W.zu {nz wz S0 w0 Lr} [Gw nz wz] : ∀ a r, M.syntax_not_l0 a = some r → (L.zu nz wz S0 w0 Lr) a r := by
 refine M.syntax_not_l0.partial_correctness (motive := (L.zu nz wz S0 w0 Lr)) ?_
 intro u2c u2d ⟨x1, u2a, x4⟩ r h S1 w1 hx gx1 u2b gx2 p1 fx1 lx1 u2e junk
 try dsimp only at h
 refine Goes.rn 5 [(5, .bool (decide (x4 < 4)))] J3n ?_
 refine ite_some h (fun h7 h => ?_) (fun h7 h => ?_)
 ·
  rw [decide_eq_true h7]
  refine Goes.rn 12 [(6, .i x4), (3, .i x4), (7, .i x4), (8, .i x4)] J3q ?_
  refine guard_some' h fun g8 h => ?_
  refine Op_.ixA_n (K := (kInt .u64)) 25 (.tmp 1) (.tmp 8) 9 0 23 4 .i64 x4 0 (gi x1 x4) rfl p1 rfl fx1 (Els.len1 fx1 lx1 rfl) Goes.v (by kernel_rfl) (by kernel_rfl) (by kernel_rfl) (by kernel_rfl) g8 h7 ?_
  intro _ q10 f9
  obtain rfl := q10
  refine Goes.ld 23 (.tmp 9) 10 23 ⟨gx1, (x4 : Int).toNat * (kInt .u64).size, none⟩ (.u (gi x1 x4)) (f9 0 _ rfl) ?_
  refine Goes.rn 1 [(11, .u (ixor .u64 18446744073709551615 (gi x1 x4)))] J3r ?_
  refine Op_.ixA_n (K := (kInt .u64)) 25 (.tmp 1) (.tmp 7) 12 0 23 4 .i64 x4 0 (gi x1 x4) rfl p1 rfl fx1 (Els.len1 fx1 lx1 rfl) Goes.v (by kernel_rfl) (by kernel_rfl) (by kernel_rfl) (by kernel_rfl) g8 h7 ?_
  intro _ q12 f11
  obtain rfl := q12
  refine let_some h fun v13 e14 h => ?_
  refine Op_.stE_n (K := (kInt .u64)) 23 (.tmp 12) (.tmp 11) 0 0 x4 (.u (ixor .u64 18446744073709551615 (gi x1 x4))) [.u (ixor .u64 18446744073709551615 (gi x1 x4))] (ixor .u64 18446744073709551615 (gi x1 x4)) v13 4 (Els.len1 fx1 lx1 rfl) e14 p1 rfl fx1 Goes.s (by kernel_rfl) (by kernel_rfl) (by kernel_rfl) rfl (by kernel_rfl) g8 h7 (Nat.zero_le _) ?_
  intro w4 ug z4 p4 f16 l17
  have l18 : ug.length = 4 := by rw [f16.length, l17]; rfl
  refine Goes.rn 7 [(13, .i (wr .i64 (x4 + 1))), (4, .i (wr .i64 (x4 + 1)))] J3l ?_
  exact Goes.jp 15 [(1, (pt gx1 0)), (2, (pt gx2 0)), (4, .i (wr .i64 (x4 + 1)))] (u2d _ _ h _ _ (hx.trans z4) gx1 ug gx2 p4 f16 l18 u2e)
 ·
  rw [decide_eq_false h7]
  refine Goes.rn 4 [] J3t ?_
  refine Op_.ldN 25 (.tmp 1) 14 25 ⟨gx1, 0, none⟩ u2b Goes.v (by kernel_rfl) (by kernel_rfl) (by rw [lx1]; kernel_rfl) (At_all (p1.mem 0 rfl)) ?_
  have f19 : Els (kInt .u64) S1 w1 ((U4 u2a []) : List Value) u2a := (els_mk4 (k := .u64) u2e)
  refine Op_.stA 25 (.tmp 2) (.tmp 14) 0 1 gx2 4 u2b p1 rfl rfl Goes.s (by kernel_rfl) (by kernel_rfl) (by kernel_rfl) lx1 (Els.one fx1) ?_
  intro w5 z5 p5
  refine Goes.rn 1 [] J3s ?_
  obtain rfl := Option.some.inj h
  have p5 := p5.dp 0
  exact Goes.ret (fn := Tryd.f89) (by kernel_rfl) (v := .agg u2b.toArray) (results_n1 (fn := Tryd.f89) (a := .cell 2 25) (by kernel_rfl) (resV_cell ⟨gx2, 0, none⟩ (by kernel_rfl) (run_loadN u2b (by kernel_rfl) (by rw [lx1]; kernel_rfl) (At_all (p5.mem 0 rfl))))) ⟨S1, u2b, rfl, (hx.trans z5), p5.drop, (fx1.ext z5), lx1⟩

def Q30 := sub [1] B89
def J3u : List Item := [.code Q30]
def Q31 := sub [0] B89
def J3v : List Item := .inRegion (opsOf Q31) [0, 1] :: J3u

theorem W.zt (x0 : List Int) (r : List Int) (h : M.syntax_not x0 = some r) {nz wz S0 w0 Lr} [Gw nz wz] (u2f) (p0 : Hp nz wz S0 w0 (Lr)) (fx0 : Els (kInt .u64) S0 w0 u2f x0) (lx0 : u2f.length = 4) :
  Calls Tryd.prog 89 #[.agg u2f.toArray] w0 (Rets (Post.zt nz wz S0 w0 Lr r)) := by
 refine calls_of_goes (fn := Tryd.f89) (c := B89) (by kernel_rfl) (by kernel_rfl) 14 (by kernel_rfl) ?_
 refine Goes.jp 15 [(0, .agg u2f.toArray)] (fun junk => ?_)
 delta M.syntax_not at h
 refine Goes.rn 2 [] J3v ?_
 refine Op_.box 25 (.tmp 0) 1 0 (.agg u2f.toArray) u2f p0 Goes.v (by kernel_rfl) rfl ?_
 intro b1 w2 z2 p2
 replace p2 : Hp nz wz S0 w2 ((some b1, .row 25 u2f 4 0) :: Lr) := by rw [show (u2f).length = 4 from lx0] at p2; exact p2
 refine Op_.alloc 25 2 0 (.agg #[.u 0, .u 0, .u 0, .u 0]) [.u 0, .u 0, .u 0, .u 0] p2 Goes.v (by kernel_rfl) (by kernel_rfl) ?_
 intro b3 w3 z3 p3
 refine Goes.rn 8 [(4, .i 0)] J3l ?_
 have p3 := (p3.fr 0).fr 1
 exact Goes.jp 15 [(1, (pt b1 0)), (2, (pt b3 0)), (4, .i 0)] (W.zu _ _ h _ _ (((Ext.refl S0 w0).trans z2).trans z3) b1 u2f b3 p3 (fx0.ext (z2.trans z3)) lx0 rfl)

def Q32 := sub [1] B101
def J3w : List Item := [.code Q32]
def Q33 := sub [0] B101
def J3x : List Item := .inRegion (opsOf Q33) [0, 1] :: J3w
def Q34 := sub [1, 1] B101
def J3y : List Item := [.code Q34]

def Post.zv (gx0 : Nat) (u22 : Value) (x0v : T68) (r : Unit) (v : Value) (w' : World) : Prop :=
 ∃ S' u2g, v = .func (.func 111) #[] #[(pt u2g 0)] ∧ Ext S0 w0 S' w' ∧ Hp nz wz S' w' ((some u2g, .row 66 [(pt gx0 0)] 1 0) :: (some gx0, .row 69 [.string x0v.s, .i x0v.at_, .i x0v.deep, u22] 4 0) :: Lr)

theorem W.zv (x0v : T68) (r : Unit) (h : M.syntax_parser_items x0v = some r) {nz wz S0 w0 Lr} [Gw nz wz] (gx0 u22) (p0 : Hp nz wz S0 w0 ((some gx0, .row 69 [.string x0v.s, .i x0v.at_, .i x0v.deep, u22] 4 0) :: Lr)) (u23 : PtO kT72 S0 w0 u22 x0v.bad) :
  Calls Tryd.prog 101 #[(pt gx0 0)] w0 (Rets (Post.zv nz wz S0 w0 Lr gx0 u22 x0v r)) := by
 refine calls_of_goes (fn := Tryd.f101) (c := B101) (by kernel_rfl) (by kernel_rfl) 3 (by kernel_rfl) ?_
 refine Goes.jp 4 [(0, (pt gx0 0))] (fun junk => ?_)
 delta M.syntax_parser_items at h
 refine Goes.rn 2 [] J3x ?_
 refine Op_.box 66 (.tmp 0) 1 0 ((pt gx0 0)) [(pt gx0 0)] p0 Goes.v (by kernel_rfl) (by kernel_rfl) ?_
 intro b2 w2 z2 p2
 refine Goes.rn 7 [(2, .func (.func 111) #[] #[(pt b2 0)]), (3, .func (.func 111) #[] #[(pt b2 0)])] J3y ?_
 obtain rfl := Option.some.inj h
 exact Goes.rt Tryd.f101 (.func (.func 111) #[] #[(pt b2 0)]) ⟨S0, b2, rfl, ((Ext.refl S0 w0).trans z2), p2⟩

def Q35 := sub [1, 1, 1] B113
def J3z : List Item := [.code Q35]
def J40 : List Item := .inBlock 0 :: J3z
def Q36 := sub [1, 1, 0, 1, 0, 0] B113
def J41 : List Item := .inLoop Q36 :: J40
def J42 : List Item := .code Q36 :: J41
def Q37 := sub [1, 1, 0, 1, 0, 0, 1] B113
def J43 : List Item := .code Q37 :: J41
def Q38 := sub [1, 1, 0, 1, 0, 0, 0, 1] B113
def J44 : List Item := .code Q38 :: J43
def Q39 := sub [1, 1, 0, 1, 0, 0, 1, 1] B113
def J45 : List Item := .code Q39 :: J41
def J46 : List Item := .inBlock 1 :: J45
def Q3a := sub [1, 1, 0, 1, 0, 0, 1, 0, 0] B113
def J47 : List Item := .code Q3a :: J46
def Q3b := sub [1, 1, 1, 1] B113
def J48 : List Item := [.code Q3b]
def Q3c := sub [1, 1, 1, 0] B113
def J49 : List Item := .inRegion (opsOf Q3c) [0, 1] :: J48

def Post.zw (r : List Int) (v : Value) (w' : World) : Prop :=
 ∃ S' vsq, v = .agg vsq.toArray ∧ Ext S0 w0 S' w' ∧ Hp nz wz S' w' (Lr) ∧ Els (kInt .u64) S' w' vsq r ∧ vsq.length = 4

def L.zx : Int × (List Int) × (List Int) × Int → (List Int) → Prop := fun ⟨x1, u2h, x5, x6⟩ r => ∀ S1 w1, Ext S0 w0 S1 w1 → ∀ gx4 gx5 u2i (_ : Hp nz wz S1 w1 ((some gx4, .row 25 (U4 u2h []) 4 0) :: (some gx5, .row 25 u2i 4 0) :: Lr)) (_ : u2h.length = 4) (_ : Els (kInt .u64) S1 w1 u2i x5) (_ : u2i.length = 4) (junk : Nat → Value),
 Goes Tryd.prog (base 113) J42 ⟨lfr 25 [(1, .int .u8 x1), (4, (pt gx4 0)), (5, (pt gx5 0)), (6, .i x6)] junk, []⟩ w1 (Done Tryd.prog 113 (Rets (Post.zw nz wz S0 w0 Lr r)))

theorem W.zx {nz wz S0 w0 Lr} [Gw nz wz] : ∀ a r, M.syntax_span_l0 a = some r → (L.zx nz wz S0 w0 Lr) a r := by
 refine M.syntax_span_l0.partial_correctness (motive := (L.zx nz wz S0 w0 Lr)) ?_
 intro u2j u2k ⟨x1, u2h, x5, x6⟩ r h S1 w1 hx gx4 gx5 u2i p1 u2l fx5 lx5 junk
 try dsimp only at h
 refine Goes.rn 8 [(9, .i x6), (10, .int .u8 x1), (11, .i (wr .i64 x1)), (12, .bool (decide (x6 ≤ wr .i64 x1)))] J44 ?_
 refine ite_some h (fun h8 h => ?_) (fun h8 h => ?_)
 ·
  rw [decide_eq_true h8]
  refine Goes.rn 4 [] J47 ?_
  have z4 : Ext S1 w1 S1 (w1).drew := Ext.draw
  have p4 := p1.draw
  refine Goes.drawn (s := [9]) (F := Fc S1 (w1).drew ([] ++ (rowCells gx5 u2i ++ []))) 5 10 (by kernel_rfl) (by kernel_rfl) (by kernel_rfl) (by kernel_rfl) ?_
  generalize (w1).drew = w4 at z4 p4 ⊢
  refine AnyG.pu 0 (.move (.tmp 6)) 15 3 (.i x6) (Fc.here (Cells.app trivial (Cells.app (Cells.row (p4.mem 1 rfl).cell) trivial))) ?_
  refine AnyG.pu 1 (.binOp .quo 3 (.tmp 15) (.const (.int .i64 64)) 3) 16 3 (.i (iquo .i64 x6 64)) (Fc.here (Cells.app trivial (Cells.app (Cells.row (p4.mem 1 rfl).cell) trivial))) ?_
  refine guard_some' h fun g9 h => ?_
  refine guard_some' h fun g10 h => ?_
  refine AnyG.ixA_n (i := 2) (K := (kInt .u64)) 25 (.tmp 5) (.tmp 16) 17 0 23 4 .i64 (iquo .i64 x6 64) 1 (gi x5 (iquo .i64 x6 64)) rfl p4 rfl (fx5.ext z4) (Els.len1 (fx5.ext z4) lx5 rfl) (by kernel_rfl) (by kernel_rfl) (Fc.here (Cells.app trivial (Cells.app (Cells.row (p4.mem 1 rfl).cell) trivial))) (by kernel_rfl) (by kernel_rfl) (by kernel_rfl) (by kernel_rfl) g9 g10 ?_
  intro _ q12 f13 f11
  obtain rfl := q12
  refine AnyG.ld1 (i := 3) 23 (.tmp 17) 18 23 ⟨gx5, (iquo .i64 x6 64 : Int).toNat * (kInt .u64).size, none⟩ (.u (gi x5 (iquo .i64 x6 64))) (by kernel_rfl) (by kernel_rfl) (Fc.here (Cells.app trivial (Cells.app (Cells.row (p4.mem 1 rfl).cell) trivial))) (by kernel_rfl) (by kernel_rfl) (fun _ h => h.2.right.left.rowAt (f13 0 _ rfl)) ?_
  refine AnyG.pu 4 (.move (.tmp 6)) 19 3 (.i x6) (Fc.here (Cells.app trivial (Cells.app (Cells.row (p4.mem 1 rfl).cell) trivial))) ?_
  refine AnyG.pu 5 (.binOp .rem 3 (.tmp 19) (.const (.int .i64 64)) 3) 20 3 (.i (irem .i64 x6 64)) (Fc.here (Cells.app trivial (Cells.app (Cells.row (p4.mem 1 rfl).cell) trivial))) ?_
  refine guard_some' h fun g14 h => ?_
  refine AnyG.binshl (i := 6) 23 (.const (.int .u64 1)) (.tmp 20) 3 21 23 .u64 .i64 1 (irem .i64 x6 64) (by kernel_rfl) (by kernel_rfl) (Fc.here (Cells.app trivial (Cells.app (Cells.row (p4.mem 1 rfl).cell) trivial))) (by kernel_rfl) (by kernel_rfl) g14 ?_
  refine AnyG.pu 7 (.binOp .or 23 (.tmp 18) (.tmp 21) 23) 22 23 (.u (ior .u64 (gi x5 (iquo .i64 x6 64)) (ishl .u64 1 (irem .i64 x6 64)))) (Fc.here (Cells.app trivial (Cells.app (Cells.row (p4.mem 1 rfl).cell) trivial))) ?_
  refine AnyG.ixA_n (i := 8) (K := (kInt .u64)) 25 (.tmp 5) (.tmp 16) 23 0 23 4 .i64 (iquo .i64 x6 64) 1 (gi x5 (iquo .i64 x6 64)) rfl p4 rfl (fx5.ext z4) (Els.len1 (fx5.ext z4) lx5 rfl) (by kernel_rfl) (by kernel_rfl) (Fc.here (Cells.app trivial (Cells.app (Cells.row (p4.mem 1 rfl).cell) trivial))) (by kernel_rfl) (by kernel_rfl) (by kernel_rfl) (by kernel_rfl) g9 g10 ?_
  intro _ q16 f17 f15
  obtain rfl := q16
  refine let_some h fun v18 e19 h => ?_
  refine Op_.stE_n (K := (kInt .u64)) 23 (.tmp 23) (.tmp 22) 0 1 (iquo .i64 x6 64) (.u (ior .u64 (gi x5 (iquo .i64 x6 64)) (ishl .u64 1 (irem .i64 x6 64)))) [.u (ior .u64 (gi x5 (iquo .i64 x6 64)) (ishl .u64 1 (irem .i64 x6 64)))] (ior .u64 (gi x5 (iquo .i64 x6 64)) (ishl .u64 1 (irem .i64 x6 64))) v18 4 (Els.len1 (fx5.ext z4) lx5 rfl) e19 p4 rfl (fx5.ext z4) (AnyG.ss (i := 9) (by kernel_rfl) (by kernel_rfl)) (by kernel_rfl) (by kernel_rfl) (by kernel_rfl) rfl (by kernel_rfl) g9 g10 (Nat.zero_le _) ?_
  intro w5 u2m z5 p5 f21 l22
  have l23 : u2m.length = 4 := by rw [f21.length, l22]; rfl
  refine AnyG.last [] (Fc S1 w5 []) (by decide) ?_
  refine AnyG.done (by kernel_rfl) ?_ _
  refine Goes.rn 7 [(13, .i x6), (14, .i (wr .i64 (x6 + 1))), (6, .i (wr .i64 (x6 + 1)))] J42 ?_
  exact Goes.jp 25 [(1, .int .u8 x1), (4, (pt gx4 0)), (5, (pt gx5 0)), (6, .i (wr .i64 (x6 + 1)))] (u2k _ _ h _ _ ((hx.trans z4).trans z5) gx4 gx5 u2m p5 u2l f21 l23)
 ·
  rw [decide_eq_false h8]
  refine Goes.rn 4 [] J49 ?_
  refine Op_.ldN 25 (.tmp 5) 24 25 ⟨gx5, 0, none⟩ u2i Goes.v (by kernel_rfl) (by kernel_rfl) (by rw [lx5]; kernel_rfl) (At_all (p1.mem 1 rfl)) ?_
  have f24 : Els (kInt .u64) S1 w1 ((U4 u2h []) : List Value) u2h := (els_mk4 (k := .u64) u2l)
  refine Op_.stA 25 (.tmp 4) (.tmp 24) 0 0 gx4 4 u2i p1 rfl rfl Goes.s (by kernel_rfl) (by kernel_rfl) (by kernel_rfl) lx5 (Els.one fx5) ?_
  intro w6 z6 p6
  refine Goes.rn 1 [] J48 ?_
  obtain rfl := Option.some.inj h
  have p6 := p6.dp 1
  exact Goes.ret (fn := Tryd.f113) (by kernel_rfl) (v := .agg u2i.toArray) (results_n1 (fn := Tryd.f113) (a := .cell 4 25) (by kernel_rfl) (resV_cell ⟨gx4, 0, none⟩ (by kernel_rfl) (run_loadN u2i (by kernel_rfl) (by rw [lx5]; kernel_rfl) (At_all (p6.mem 0 rfl))))) ⟨S1, u2i, rfl, (hx.trans z6), p6.drop, (fx5.ext z6), lx5⟩

def Q3d := sub [1] B113
def J4a : List Item := [.code Q3d]
def Q3e := sub [0] B113
def J4b : List Item := .inRegion (opsOf Q3e) [0] :: J4a
def Q3f := sub [1, 1] B113
def J4c : List Item := [.code Q3f]
def Q3g := sub [1, 0] B113
def J4d : List Item := .inRegion (opsOf Q3g) [0] :: J4c

theorem W.zw (x0 : Int) (x1 : Int) (r : List Int) (h : M.syntax_span x0 x1 = some r) {nz wz S0 w0 Lr} [Gw nz wz] (p0 : Hp nz wz S0 w0 (Lr)) :
  Calls Tryd.prog 113 #[.int .u8 x0, .int .u8 x1] w0 (Rets (Post.zw nz wz S0 w0 Lr r)) := by
 refine calls_of_goes (fn := Tryd.f113) (c := B113) (by kernel_rfl) (by kernel_rfl) 23 (by kernel_rfl) ?_
 refine Goes.jp 25 [(0, .int .u8 x0), (1, .int .u8 x1)] (fun junk => ?_)
 delta M.syntax_span at h
 refine Goes.rn 2 [] J4b ?_
 refine Op_.alloc 25 4 0 (.agg #[.u 0, .u 0, .u 0, .u 0]) [.u 0, .u 0, .u 0, .u 0] p0 Goes.v (by kernel_rfl) (by kernel_rfl) ?_
 intro b1 w2 z2 p2
 refine Goes.rn 3 [] J4d ?_
 refine Op_.alloc 25 5 0 (.agg #[.u 0, .u 0, .u 0, .u 0]) [.u 0, .u 0, .u 0, .u 0] p2 Goes.v (by kernel_rfl) (by kernel_rfl) ?_
 intro b3 w3 z3 p3
 refine Goes.rn 10 [(7, .int .u8 x0), (8, .i (wr .i64 x0)), (6, .i (wr .i64 x0))] J42 ?_
 have f7 : Els (kInt .u64) S0 w3 ([.u 0, .u 0, .u 0, .u 0] : List Value) [0, 0, 0, 0] := (Els.cons (K := (kInt .u64)) (vs := [.u 0]) (x := 0) rfl (Els.cons (K := (kInt .u64)) (vs := [.u 0]) (x := 0) rfl (Els.cons (K := (kInt .u64)) (vs := [.u 0]) (x := 0) rfl (Els.cons (K := (kInt .u64)) (vs := [.u 0]) (x := 0) rfl Els.nil))))
 have p3 := (p3.fr 0).fr 1
 exact Goes.jp 25 [(1, .int .u8 x1), (4, (pt b1 0)), (5, (pt b3 0)), (6, .i (wr .i64 x0))] (W.zx _ _ h _ _ (((Ext.refl S0 w0).trans z2).trans z3) b1 b3 ([.u 0, .u 0, .u 0, .u 0] : List Value) p3 rfl f7 rfl)

def Q3h := sub [1, 1, 1] B102
def J4e : List Item := [.code Q3h]
def J4f : List Item := .inBlock 0 :: J4e
def Q3i := sub [1, 1, 0, 1, 0, 0] B102
def J4g : List Item := .inLoop Q3i :: J4f
def J4h : List Item := .code Q3i :: J4g
def Q3j := sub [1, 1, 0, 1, 0, 0, 1, 1, 1] B102
def J4i : List Item := .code Q3j :: J4g
def J4j : List Item := .inBlock 1 :: J4i
def J4k : List Item := .inBlock 2 :: J4j
def Q3k := sub [1, 1, 0, 1, 0, 0, 1, 1, 0, 0, 1, 1, 0, 0] B102
def J4l : List Item := .inLoop Q3k :: J4k
def J4m : List Item := .code Q3k :: J4l
def Q3l := sub [1, 1, 0, 1, 0, 0, 1, 1] B102
def J4n : List Item := .code Q3l :: J4g
def Q3m := sub [1, 1, 0, 1, 0, 0, 1, 0] B102
def J4o : List Item := .code Q3m :: J4n
def Q3n := sub [1, 1, 0, 1, 0, 0, 1, 1, 0, 0, 1] B102
def J4p : List Item := .code Q3n :: J4j
def Q3o := sub [1, 1, 0, 1, 0, 0, 1, 1, 0, 0, 0] B102
def J4q : List Item := .inRegion (opsOf Q3o) [0, 1, 2, 3] :: J4p
def Q3p := sub [1, 1, 1, 1] B102
def J4r : List Item := [.code Q3p]
def Q3q := sub [1, 1, 1, 0] B102
def J4s : List Item := .inRegion (opsOf Q3q) [0, 1] :: J4r
def Q3r := sub [1, 1, 0, 1, 0, 0, 1, 1, 0, 0, 1, 1, 0, 0, 1, 1] B102
def J4t : List Item := .code Q3r :: J4l
def Q3s := sub [1, 1, 0, 1, 0, 0, 1, 1, 0, 0, 1, 1, 0, 0, 1, 0] B102
def J4u : List Item := .code Q3s :: J4t
def Q3t := sub [1, 1, 0, 1, 0, 0, 1, 1, 0, 0, 1, 1, 0, 0, 1, 1, 1] B102
def J4v : List Item := .code Q3t :: J4l
def J4w : List Item := .inBlock 3 :: J4v
def Q3u := sub [1, 1, 0, 1, 0, 0, 1, 1, 0, 0, 1, 1, 0, 0, 1, 1, 0, 0, 1] B102
def J4x : List Item := .code Q3u :: J4w

def Post.zy (r : List Int) (v : Value) (w' : World) : Prop :=
 ∃ S' vsq, v = .agg vsq.toArray ∧ Ext S0 w0 S' w' ∧ Hp nz wz S' w' (Lr) ∧ Els (kInt .u64) S' w' vsq r ∧ vsq.length = 4

def L.zz : (List Int) × (List Int) × (List (List Int)) × Int × Int → (List Int) → Prop := fun ⟨u2a, x3, x7, x8, x9⟩ r => ∀ S1 w1, Ext S0 w0 S1 w1 → ∀ gx2 gx3 u1r Ax7 nx7 cx7 (_ : Hp nz wz S1 w1 ((some gx2, .row 25 (U4 u2a []) 4 0) :: (some gx3, .row 25 u1r 4 0) :: Lr)) (_ : u2a.length = 4) (_ : Els (kInt .u64) S1 w1 u1r x3) (_ : u1r.length = 4) (_ : Rd (kArr 4 (kInt .u64)) S1 w1 Ax7 cx7 x7) (_ : x7.length = nx7) (junk : Nat → Value),
 Goes Tryd.prog (base 102) J4h ⟨lfr 27 [(2, (pt gx2 0)), (3, (pt gx3 0)), (7, .slice Ax7 nx7 cx7), (8, .i x8), (9, .i x9)] junk, []⟩ w1 (Done Tryd.prog 102 (Rets (Post.zy nz wz S0 w0 Lr r)))

def L.z10 : (List Int) × (List Int) × (List Int) × (List (List Int)) × Int × Int × Int → (List Int) → Prop := fun ⟨u2a, x3, x5, x7, x8, x9, x13⟩ r => ∀ S1 w1, Ext S0 w0 S1 w1 → ∀ gx2 gx3 u1r gx5 u2i Ax7 nx7 cx7 (_ : Hp nz wz S1 w1 ((some gx2, .row 25 (U4 u2a []) 4 0) :: (some gx3, .row 25 u1r 4 0) :: (some gx5, .row 25 u2i 4 0) :: Lr)) (_ : u2a.length = 4) (_ : Els (kInt .u64) S1 w1 u1r x3) (_ : u1r.length = 4) (_ : Els (kInt .u64) S1 w1 u2i x5) (_ : u2i.length = 4) (_ : Rd (kArr 4 (kInt .u64)) S1 w1 Ax7 cx7 x7) (_ : x7.length = nx7) (junk : Nat → Value),
 Goes Tryd.prog (base 102) J4m ⟨lfr 27 [(2, (pt gx2 0)), (3, (pt gx3 0)), (5, (pt gx5 0)), (7, .slice Ax7 nx7 cx7), (8, .i x8), (9, .i x9), (13, .i x13)] junk, []⟩ w1 (Done Tryd.prog 102 (Rets (Post.zy nz wz S0 w0 Lr r)))

theorem W.z11 {nz wz S0 w0 Lr} [Gw nz wz] : (∀ a r, M.syntax_join_l0 a = some r → (L.zz nz wz S0 w0 Lr) a r) ∧ (∀ a r, M.syntax_join_l1 a = some r → (L.z10 nz wz S0 w0 Lr) a r) := by
 refine M.syntax_join_l0.mutual_partial_correctness (L.zz nz wz S0 w0 Lr) (L.z10 nz wz S0 w0 Lr) ?_ ?_
 ·
  intro u2n u2o ⟨u2a, x3, x7, x8, x9⟩ r h S1 w1 hx gx2 gx3 u1r Ax7 nx7 cx7 p1 u2e fx3 lx3 fx7 lx7 junk
  try dsimp only at h
  subst lx7
  refine Goes.rn 5 [(10, .bool (decide (x9 < x8)))] J4o ?_
  refine ite_some h (fun h8 h => ?_) (fun h8 h => ?_)
  ·
   rw [decide_eq_true h8]
   refine Goes.rn 6 [] J4q ?_
   refine guard_some' h fun g9 h => ?_
   refine guard_some' h fun g10 h => ?_
   refine Op_.ixR_n 151 (.tmp 7) (.tmp 9) 11 0 25 .i64 x9 (gi x7 x9) rfl rfl fx7 Goes.v (by kernel_rfl) (by kernel_rfl) (by kernel_rfl) (by kernel_rfl) g9 g10 ?_
   intro a11 _ f12 q13
   obtain ⟨l14, f15⟩ := q13
   obtain rfl := els_lit4' f15 l14
   refine Goes.ldN 25 (.tmp 11) 12 25 a11 (U4 (gi x7 x9) []) (f12.cell) ?_
   refine Op_.alloc 25 5 0 (.agg #[.u 0, .u 0, .u 0, .u 0]) [.u 0, .u 0, .u 0, .u 0] p1 Goes.v (by kernel_rfl) (by kernel_rfl) ?_
   intro b16 w4 z4 p4
   refine Op_.st 25 (.tmp 5) (.tmp 12) 0 0 b16 0 (ag (U4 (gi x7 x9) [])) (U4 (gi x7 x9) []) p4 rfl Goes.s (by kernel_rfl) (by kernel_rfl) (by kernel_rfl) (by kernel_rfl) (Nat.zero_le _) (by simp only [List.length_cons, List.length_nil]; omega) (by simp [Value.oneCell']) ?_
   intro w5 z5 p5
   have p5 : Hp nz wz S1 w5 ((some b16, .row 25 (U4 (gi x7 x9) []) 4 0) :: (some gx2, .row 25 (U4 u2a []) 4 0) :: (some gx3, .row 25 u1r 4 0) :: Lr) := p5
   refine Goes.rn 7 [(13, .i 0)] J4m ?_
   have f21 : Els (kInt .u64) S1 w5 ((U4 (gi x7 x9) []) : List Value) (gi x7 x9) := (els_mk4 (k := .u64) l14)
   have p5 := ((p5.fr 0).fr 2).fr 2
   exact Goes.jp 27 [(2, (pt gx2 0)), (3, (pt gx3 0)), (5, (pt b16 0)), (7, .slice Ax7 x7.length cx7), (8, .i x8), (9, .i x9), (13, .i 0)] (u2o _ _ h _ _ ((hx.trans z4).trans z5) gx2 gx3 u1r b16 ((U4 (gi x7 x9) []) : List Value) Ax7 x7.length cx7 p5 u2e (fx3.ext (z4.trans z5)) lx3 f21 rfl (fx7.ext (z4.trans z5)) rfl)
  ·
   rw [decide_eq_false h8]
   refine Goes.rn 4 [] J4s ?_
   refine Op_.ldN 25 (.tmp 3) 26 25 ⟨gx3, 0, none⟩ u1r Goes.v (by kernel_rfl) (by kernel_rfl) (by rw [lx3]; kernel_rfl) (At_all (p1.mem 1 rfl)) ?_
   have f22 : Els (kInt .u64) S1 w1 ((U4 u2a []) : List Value) u2a := (els_mk4 (k := .u64) u2e)
   refine Op_.stA 25 (.tmp 2) (.tmp 26) 0 0 gx2 4 u1r p1 rfl rfl Goes.s (by kernel_rfl) (by kernel_rfl) (by kernel_rfl) lx3 (Els.one fx3) ?_
   intro w6 z6 p6
   refine Goes.rn 1 [] J4r ?_
   obtain rfl := Option.some.inj h
   have p6 := p6.dp 1
   exact Goes.ret (fn := Tryd.f102) (by kernel_rfl) (v := .agg u1r.toArray) (results_n1 (fn := Tryd.f102) (a := .cell 2 25) (by kernel_rfl) (resV_cell ⟨gx2, 0, none⟩ (by kernel_rfl) (run_loadN u1r (by kernel_rfl) (by rw [lx3]; kernel_rfl) (At_all (p6.mem 0 rfl))))) ⟨S1, u1r, rfl, (hx.trans z6), p6.drop, (fx3.ext z6), lx3⟩
 ·
  intro u2p u2n u2q u2o ⟨u2a, x3, x5, x7, x8, x9, x13⟩ r h S1 w1 hx gx2 gx3 u1r gx5 u2i Ax7 nx7 cx7 p1 u2e fx3 lx3 fx5 lx5 fx7 lx7 junk
  try dsimp only at h
  subst lx7
  refine Goes.rn 5 [(14, .bool (decide (x13 < 4)))] J4u ?_
  refine ite_some h (fun h23 h => ?_) (fun h23 h => ?_)
  ·
   rw [decide_eq_true h23]
   refine Goes.rn 9 [(15, .i x13), (6, .i x13)] J4x ?_
   have z7 : Ext S1 w1 S1 (w1).drew := Ext.draw
   have p7 := p1.draw
   refine Goes.drawn (s := [8]) (F := Fc S1 (w1).drew ([] ++ (rowCells gx3 u1r ++ (rowCells gx5 u2i ++ [])))) 8 9 (by kernel_rfl) (by kernel_rfl) (by kernel_rfl) (by kernel_rfl) ?_
   generalize (w1).drew = w7 at z7 p7 ⊢
   refine AnyG.pu 0 (.move (.tmp 6)) 16 3 (.i x13) (Fc.here (Cells.app trivial (Cells.app (Cells.row (p7.mem 1 rfl).cell) (Cells.app (Cells.row (p7.mem 2 rfl).cell) trivial)))) ?_
   refine guard_some' h fun g24 h => ?_
   refine AnyG.ixA_n (i := 1) (K := (kInt .u64)) 25 (.tmp 3) (.tmp 16) 17 0 23 4 .i64 x13 1 (gi x3 x13) rfl p7 rfl (fx3.ext z7) (Els.len1 (fx3.ext z7) lx3 rfl) (by kernel_rfl) (by kernel_rfl) (Fc.here (Cells.app trivial (Cells.app (Cells.row (p7.mem 1 rfl).cell) (Cells.app (Cells.row (p7.mem 2 rfl).cell) trivial)))) (by kernel_rfl) (by kernel_rfl) (by kernel_rfl) (by kernel_rfl) g24 h23 ?_
   intro _ q26 f27 f25
   obtain rfl := q26
   refine AnyG.ld1 (i := 2) 23 (.tmp 17) 18 23 ⟨gx3, (x13 : Int).toNat * (kInt .u64).size, none⟩ (.u (gi x3 x13)) (by kernel_rfl) (by kernel_rfl) (Fc.here (Cells.app trivial (Cells.app (Cells.row (p7.mem 1 rfl).cell) (Cells.app (Cells.row (p7.mem 2 rfl).cell) trivial)))) (by kernel_rfl) (by kernel_rfl) (fun _ h => h.2.right.left.rowAt (f27 0 _ rfl)) ?_
   refine AnyG.pu 3 (.move (.tmp 6)) 19 3 (.i x13) (Fc.here (Cells.app trivial (Cells.app (Cells.row (p7.mem 1 rfl).cell) (Cells.app (Cells.row (p7.mem 2 rfl).cell) trivial)))) ?_
   refine AnyG.ixA_n (i := 4) (K := (kInt .u64)) 25 (.tmp 5) (.tmp 19) 20 0 23 4 .i64 x13 2 (gi x5 x13) rfl p7 rfl (fx5.ext z7) (Els.len1 (fx5.ext z7) lx5 rfl) (by kernel_rfl) (by kernel_rfl) (Fc.here (Cells.app trivial (Cells.app (Cells.row (p7.mem 1 rfl).cell) (Cells.app (Cells.row (p7.mem 2 rfl).cell) trivial)))) (by kernel_rfl) (by kernel_rfl) (by kernel_rfl) (by kernel_rfl) g24 h23 ?_
   intro _ q29 f30 f28
   obtain rfl := q29
   refine AnyG.ld1 (i := 5) 23 (.tmp 20) 21 23 ⟨gx5, (x13 : Int).toNat * (kInt .u64).size, none⟩ (.u (gi x5 x13)) (by kernel_rfl) (by kernel_rfl) (Fc.here (Cells.app trivial (Cells.app (Cells.row (p7.mem 1 rfl).cell) (Cells.app (Cells.row (p7.mem 2 rfl).cell) trivial)))) (by kernel_rfl) (by kernel_rfl) (fun _ h => h.2.right.right.left.rowAt (f30 0 _ rfl)) ?_
   refine AnyG.pu 6 (.binOp .or 23 (.tmp 18) (.tmp 21) 23) 22 23 (.u (ior .u64 (gi x3 x13) (gi x5 x13))) (Fc.here (Cells.app trivial (Cells.app (Cells.row (p7.mem 1 rfl).cell) (Cells.app (Cells.row (p7.mem 2 rfl).cell) trivial)))) ?_
   refine AnyG.ixA_n (i := 7) (K := (kInt .u64)) 25 (.tmp 3) (.tmp 16) 23 0 23 4 .i64 x13 1 (gi x3 x13) rfl p7 rfl (fx3.ext z7) (Els.len1 (fx3.ext z7) lx3 rfl) (by kernel_rfl) (by kernel_rfl) (Fc.here (Cells.app trivial (Cells.app (Cells.row (p7.mem 1 rfl).cell) (Cells.app (Cells.row (p7.mem 2 rfl).cell) trivial)))) (by kernel_rfl) (by kernel_rfl) (by kernel_rfl) (by kernel_rfl) g24 h23 ?_
   intro _ q32 f33 f31
   obtain rfl := q32
   refine let_some h fun v34 e35 h => ?_
   refine Op_.stE_n (K := (kInt .u64)) 23 (.tmp 23) (.tmp 22) 0 1 x13 (.u (ior .u64 (gi x3 x13) (gi x5 x13))) [.u (ior .u64 (gi x3 x13) (gi x5 x13))] (ior .u64 (gi x3 x13) (gi x5 x13)) v34 4 (Els.len1 (fx3.ext z7) lx3 rfl) e35 p7 rfl (fx3.ext z7) (AnyG.ss (i := 8) (by kernel_rfl) (by kernel_rfl)) (by kernel_rfl) (by kernel_rfl) (by kernel_rfl) rfl (by kernel_rfl) g24 h23 (Nat.zero_le _) ?_
   intro w8 u2r z8 p8 f37 l38
   have l39 : u2r.length = 4 := by rw [f37.length, l38]; rfl
   refine AnyG.last [] (Fc S1 w8 []) (by decide) ?_
   refine AnyG.done (by kernel_rfl) ?_ _
   refine Goes.rn 6 [(24, .i (wr .i64 (x13 + 1))), (13, .i (wr .i64 (x13 + 1)))] J4m ?_
   exact Goes.jp 27 [(2, (pt gx2 0)), (3, (pt gx3 0)), (5, (pt gx5 0)), (7, .slice Ax7 x7.length cx7), (8, .i x8), (9, .i x9), (13, .i (wr .i64 (x13 + 1)))] (u2o _ _ h _ _ ((hx.trans z7).trans z8) gx2 gx3 u2r gx5 u2i Ax7 x7.length cx7 p8 u2e f37 l39 (fx5.ext (z7.trans z8)) lx5 (fx7.ext (z7.trans z8)) rfl)
  ·
   rw [decide_eq_false h23]
   refine Goes.rn 8 [(25, .i (wr .i64 (x9 + 1))), (9, .i (wr .i64 (x9 + 1)))] J4h ?_
   have p1 := p1.dp 2
   exact Goes.jp 27 [(2, (pt gx2 0)), (3, (pt gx3 0)), (7, .slice Ax7 x7.length cx7), (8, .i x8), (9, .i (wr .i64 (x9 + 1)))] (u2q _ _ h _ _ hx gx2 gx3 u1r Ax7 x7.length cx7 p1 u2e fx3 lx3 fx7 rfl)

theorem W.zz {nz wz S0 w0 Lr} [Gw nz wz] : ∀ a r, M.syntax_join_l0 a = some r → (L.zz nz wz S0 w0 Lr) a r := (W.z11).1

theorem W.z10 {nz wz S0 w0 Lr} [Gw nz wz] : ∀ a r, M.syntax_join_l1 a = some r → (L.z10 nz wz S0 w0 Lr) a r := (W.z11).2

def Q3v := sub [1] B102
def J4y : List Item := [.code Q3v]
def Q3w := sub [0] B102
def J4z : List Item := .inRegion (opsOf Q3w) [0] :: J4y
def Q3x := sub [1, 1] B102
def J50 : List Item := [.code Q3x]
def Q3y := sub [1, 0] B102
def J51 : List Item := .inRegion (opsOf Q3y) [0] :: J50

theorem W.zy (x0 : List (List Int)) (r : List Int) (h : M.syntax_join x0 = some r) {nz wz S0 w0 Lr} [Gw nz wz] (Ax0 nx0 cx0) (p0 : Hp nz wz S0 w0 (Lr)) (fx0 : Rd (kArr 4 (kInt .u64)) S0 w0 Ax0 cx0 x0) (lx0 : x0.length = nx0) :
  Calls Tryd.prog 102 #[.slice Ax0 nx0 cx0] w0 (Rets (Post.zy nz wz S0 w0 Lr r)) := by
 subst lx0
 refine calls_of_goes (fn := Tryd.f102) (c := B102) (by kernel_rfl) (by kernel_rfl) 26 (by kernel_rfl) ?_
 refine Goes.jp 27 [(0, .slice Ax0 x0.length cx0)] (fun junk => ?_)
 delta M.syntax_join at h
 refine Goes.rn 2 [] J4z ?_
 refine Op_.alloc 25 2 0 (.agg #[.u 0, .u 0, .u 0, .u 0]) [.u 0, .u 0, .u 0, .u 0] p0 Goes.v (by kernel_rfl) (by kernel_rfl) ?_
 intro b1 w2 z2 p2
 refine Goes.rn 3 [] J51 ?_
 refine Op_.alloc 25 3 0 (.agg #[.u 0, .u 0, .u 0, .u 0]) [.u 0, .u 0, .u 0, .u 0] p2 Goes.v (by kernel_rfl) (by kernel_rfl) ?_
 intro b3 w3 z3 p3
 refine Goes.rn 10 [(7, .slice Ax0 x0.length cx0), (8, .i (x0.length : Int)), (9, .i 0)] J4h ?_
 have f7 : Els (kInt .u64) S0 w3 ([.u 0, .u 0, .u 0, .u 0] : List Value) [0, 0, 0, 0] := (Els.cons (K := (kInt .u64)) (vs := [.u 0]) (x := 0) rfl (Els.cons (K := (kInt .u64)) (vs := [.u 0]) (x := 0) rfl (Els.cons (K := (kInt .u64)) (vs := [.u 0]) (x := 0) rfl (Els.cons (K := (kInt .u64)) (vs := [.u 0]) (x := 0) rfl Els.nil))))
 have p3 := (p3.fr 0).fr 1
 exact Goes.jp 27 [(2, (pt b1 0)), (3, (pt b3 0)), (7, .slice Ax0 x0.length cx0), (8, .i (x0.length : Int)), (9, .i 0)] (W.zz _ _ h _ _ (((Ext.refl S0 w0).trans z2).trans z3) b1 b3 ([.u 0, .u 0, .u 0, .u 0] : List Value) Ax0 x0.length cx0 p3 rfl f7 rfl (fx0.ext (z2.trans z3)) rfl)

def Q3z := sub [1] B103
def J52 : List Item := [.code Q3z]
def Q40 := sub [0] B103
def J53 : List Item := .inRegion (opsOf Q40) [0, 1] :: J52
def Q41 := sub [1, 1] B103
def J54 : List Item := [.code Q41]
def Q42 := sub [1, 0] B103
def J55 : List Item := .inRegion (opsOf Q42) [0] :: J54
def Q43 := sub [1, 1, 1] B103
def J56 : List Item := [.code Q43]
def J57 : List Item := .inBlock 0 :: J56
def Q44 := sub [1, 1, 0, 1, 0, 1] B103
def J58 : List Item := .code Q44 :: J57
def J59 : List Item := .inBlock 4 :: J58
def Q45 := sub [1, 1, 0, 1, 0, 0, 0, 1] B103
def J5a : List Item := .code Q45 :: J59
def J5b : List Item := .inBlock 3 :: J5a
def Q46 := sub [1, 1, 0, 1, 0, 0, 0, 0, 0, 1] B103
def J5c : List Item := .code Q46 :: J5b
def J5d : List Item := .inBlock 2 :: J5c
def Q47 := sub [1, 1, 0, 1, 0, 0, 0, 0, 0, 0, 0] B103
def J5e : List Item := .code Q47 :: J5d
def Q48 := sub [1, 1, 0, 1, 0, 0, 0, 0, 0, 0, 0, 1] B103
def J5f : List Item := .code Q48 :: J5d
def J5g : List Item := .inBlock 1 :: J5f
def Q49 := sub [1, 1, 0, 1, 0, 0, 0, 0, 0, 0, 0, 0, 0, 1] B103
def J5h : List Item := .code Q49 :: J5g
def Q4a := sub [1, 1, 0, 1, 0, 0, 0, 0, 0, 0, 0, 0, 0, 0, 1] B103
def J5i : List Item := .code Q4a :: J5h
def Q4b := sub [1, 1, 0, 1, 0, 0, 0, 0, 0, 0, 0, 0, 0, 0, 0, 1] B103
def J5j : List Item := .code Q4b :: J5i
def Q4c := sub [1, 1, 0, 1, 0, 0, 0, 0, 0, 1, 1] B103
def J5k : List Item := .code Q4c :: J5b
def Q4d := sub [1, 1, 0, 1, 0, 0, 0, 0, 0, 1, 0] B103
def J5l : List Item := .code Q4d :: J5k
def Q4e := sub [1, 1, 1, 1] B103
def J5m : List Item := [.code Q4e]
def Q4f := sub [1, 1, 1, 0, 1] B103
def J5n : List Item := .code Q4f :: J5m
def Q4g := sub [1, 1, 1, 0, 1, 0] B103
def J5o : List Item := .inRegion (opsOf Q4g) [0, 1, 2] :: J5m
def Q4h := sub [1, 1, 1, 1, 1] B103
def J5p : List Item := [.code Q4h]
def Q4i := sub [1, 1, 1, 1, 0] B103
def J5q : List Item := .inRegion (opsOf Q4i) [0, 1, 2] :: J5p
def Q4j := sub [1, 1, 0, 1, 0, 0, 0, 0, 0, 0, 0, 0, 0, 0, 1, 1] B103
def J5r : List Item := .code Q4j :: J5h
def Q4k := sub [1, 1, 0, 1, 0, 0, 0, 0, 0, 0, 0, 0, 0, 0, 1, 0, 1] B103
def J5s : List Item := .code Q4k :: J5r
def Q4l := sub [1, 1, 0, 1, 0, 0, 0, 0, 0, 0, 0, 0, 0, 0, 1, 1, 1] B103
def J5t : List Item := .code Q4l :: J5h
def Q4m := sub [1, 1, 0, 1, 0, 0, 0, 1, 1] B103
def J5u : List Item := .code Q4m :: J59
def Q4n := sub [1, 1, 0, 1, 0, 0, 0, 1, 0] B103
def J5v : List Item := .inRegion (opsOf Q4n) [0, 1, 2, 3, 4, 5] :: J5u
def Q4o := sub [1, 1, 0, 1, 0, 1, 1] B103
def J5w : List Item := .code Q4o :: J57
def Q4p := sub [1, 1, 0, 1, 0, 1, 0, 1] B103
def J5x : List Item := .code Q4p :: J5w
def Q4q := sub [1, 1, 0, 1, 0, 1, 0, 0] B103
def J5y : List Item := .inRegion (opsOf Q4q) [0, 1, 2] :: J5x

def Post.z12 (r : (List Int) × Bool) (v : Value) (w' : World) : Prop :=
 ∃ S' u2s, v = .tuple #[.agg u2s.toArray, .bool r.2] ∧ Ext S0 w0 S' w' ∧ Hp nz wz S' w' (Lr) ∧ Els (kInt .u64) S' w' u2s r.1 ∧ u2s.length = 4

theorem W.z12 (x0 : Int) (r : (List Int) × Bool) (h : M.syntax_class x0 = some r) {nz wz S0 w0 Lr} [Gw nz wz] (p0 : Hp nz wz S0 w0 (Lr)) :
  Calls Tryd.prog 103 #[.int .u8 x0] w0 (Rets (Post.z12 nz wz S0 w0 Lr r)) := by
 refine calls_of_goes (fn := Tryd.f103) (c := B103) (by kernel_rfl) (by kernel_rfl) 34 (by kernel_rfl) ?_
 refine Goes.jp 35 [(0, .int .u8 x0)] (fun junk => ?_)
 delta M.syntax_class at h
 refine Goes.rn 2 [] J53 ?_
 refine Op_.alloc 25 2 0 (.agg #[.u 0, .u 0, .u 0, .u 0]) [.u 0, .u 0, .u 0, .u 0] p0 Goes.v (by kernel_rfl) (by kernel_rfl) ?_
 intro b1 w2 z2 p2
 refine Goes.rn 4 [(3, .bool false)] J55 ?_
 refine Op_.alloc 25 4 0 (.agg #[.u 0, .u 0, .u 0, .u 0]) [.u 0, .u 0, .u 0, .u 0] p2 Goes.v (by kernel_rfl) (by kernel_rfl) ?_
 intro b3 w3 z3 p3
 refine Goes.rn 14 [(5, .int .u8 x0), (6, .int .u8 (ior .u8 x0 32))] J5e ?_
 refine Goes.rn 9 [(8, .bool (decide (ior .u8 x0 32 = 119))), (7, .bool (decide (ior .u8 x0 32 = 119)))] J5j ?_
 refine ite_some h (fun h5 h => ?_) (fun h5 h => ?_)
 ·
  rw [decide_eq_true h5]
  refine Goes.rn 2 [] J5f ?_
  have z4 : Ext S0 w3 S0 (w3).drew := Ext.draw
  have p4 := p3.draw
  refine Goes.drawn (s := [4, 5, 6]) (F := Fc S0 (w3).drew [(⟨b3, 0, none⟩, .u 0), (⟨b3, 1, none⟩, .u 0), (⟨b3, 2, none⟩, .u 0), (⟨b3, 3, none⟩, .u 0)]) 6 7 (by kernel_rfl) (by kernel_rfl) (by kernel_rfl) (by kernel_rfl) ?_
  generalize (w3).drew = w4 at z4 p4 ⊢
  refine AnyG.ldN (i := 0) 25 (.tmp 4) 13 25 ⟨b3, 0, none⟩ [.u 0, .u 0, .u 0, .u 0] (by kernel_rfl) (by kernel_rfl) (Fc.here (p4.cs [(0, 0, 4)])) (by kernel_rfl) (by kernel_rfl) (by kernel_rfl) (fun _ h j v hj => by match j, hj with | 0, rfl => exact h.2.at_ 0 rfl | 1, rfl => exact h.2.at_ 1 rfl | 2, rfl => exact h.2.at_ 2 rfl | 3, rfl => exact h.2.at_ 3 rfl | (j + 4), hj => simp at hj) ?_
  refine bind_some' h fun y6 e7 h => ?_
  refine Op_.call (.call { callee := .value (.func 113), args := #[(.const (.int .u8 97)), (.const (.int .u8 122))], argTypes := #[5, 5] }) 14 25 113 #[.int .u8 97, .int .u8 122] (AnyG.cs (i := 1) (by kernel_rfl) (by kernel_rfl)) (by kernel_rfl) (W.zw 97 122 y6 e7  p4 ) ?_
  rintro _ w5 ⟨S5, u2t, rfl, z5, p5, u2u, u2v⟩
  refine AnyG.next z5 ⟨(p5.c 0 0), (p5.c 0 1), (p5.c 0 2), (p5.c 0 3), trivial⟩ ?_
  refine bind_some' h fun y8 e9 h => ?_
  refine Op_.call (.call { callee := .value (.func 113), args := #[(.const (.int .u8 65)), (.const (.int .u8 90))], argTypes := #[5, 5] }) 15 25 113 #[.int .u8 65, .int .u8 90] (AnyG.cs (i := 2) (by kernel_rfl) (by kernel_rfl)) (by kernel_rfl) (W.zw 65 90 y8 e9  p5 ) ?_
  rintro _ w6 ⟨S6, u2w, rfl, z6, p6, u2x, u2y⟩
  refine AnyG.next z6 ⟨(p6.c 0 0), (p6.c 0 1), (p6.c 0 2), (p6.c 0 3), trivial⟩ ?_
  refine bind_some' h fun y10 e11 h => ?_
  refine Op_.call (.call { callee := .value (.func 90), args := #[(.const (.int .u8 95))], argTypes := #[5] }) 16 25 90 #[.int .u8 95] (AnyG.cs (i := 3) (by kernel_rfl) (by kernel_rfl)) (by kernel_rfl) (W.zs 95 y10 e11  p6 ) ?_
  rintro _ w7 ⟨S7, u2z, rfl, z7, p7, u30, u31⟩
  refine AnyG.next z7 ⟨(p7.c 0 0), (p7.c 0 1), (p7.c 0 2), (p7.c 0 3), trivial⟩ ?_
  have l12 := Els.len1 (u2u.ext (z6.trans z7)) u2v rfl
  obtain rfl := els_lit4 (u2u.ext (z6.trans z7)) u2v
  have l13 := Els.len1 (u2x.ext z7) u2y rfl
  obtain rfl := els_lit4 (u2x.ext z7) u2y
  have l14 := Els.len1 u30 u31 rfl
  obtain rfl := els_lit4 u30 u31
  have f16 : Els (kArr 4 (kInt .u64)) S7 w7 ((.u 0 :: .u 0 :: .u 0 :: .u 0 :: U4 y6 (U4 y8 (U4 y10 []))) : List Value) [[0, 0, 0, 0], y6, y8, y10] := by exact (Els.cons (K := (kArr 4 (kInt .u64))) (vs := [.u 0, .u 0, .u 0, .u 0]) (x := [0, 0, 0, 0]) ⟨rfl, (Els.cons (K := (kInt .u64)) (vs := [.u 0]) (x := 0) rfl (Els.cons (K := (kInt .u64)) (vs := [.u 0]) (x := 0) rfl (Els.cons (K := (kInt .u64)) (vs := [.u 0]) (x := 0) rfl (Els.cons (K := (kInt .u64)) (vs := [.u 0]) (x := 0) rfl Els.nil))))⟩ (Els.cons (K := (kArr 4 (kInt .u64))) (vs := (U4 y6 [])) (x := y6) ⟨l12, els_mk4 l12⟩ (Els.cons (K := (kArr 4 (kInt .u64))) (vs := (U4 y8 [])) (x := y8) ⟨l13, els_mk4 l13⟩ (Els.cons (K := (kArr 4 (kInt .u64))) (vs := (U4 y10 [])) (x := y10) ⟨l14, els_mk4 l14⟩ Els.nil))))
  refine Op_.made (.buildSlice 151 4 #[(0, (.tmp 13)), (1, (.tmp 14)), (2, (.tmp 15)), (3, (.tmp 16))]) 17 151 (fun b => .slice (Gp (some b)) 4 4) 25 ((.u 0 :: .u 0 :: .u 0 :: .u 0 :: U4 y6 (U4 y8 (U4 y10 []))) : List Value) p7 (AnyG.vs (i := 4) (by kernel_rfl) (by kernel_rfl)) (by kernel_rfl) ?_
  intro b15 w8 z8 p8
  have p8 : Hp nz wz S7 w8 (((some b15), .row 25 ((.u 0 :: .u 0 :: .u 0 :: .u 0 :: U4 y6 (U4 y8 (U4 y10 []))) : List Value) (4 * (kArr 4 (kInt .u64)).size) 0) :: (some b3, .row 25 [.u 0, .u 0, .u 0, .u 0] 4 0) :: (some b1, .row 25 [.u 0, .u 0, .u 0, .u 0] 4 0) :: Lr) := p8
  refine AnyG.last [5, 6] (Fc S7 w8 []) (by decide) ?_
  obtain ⟨S9, z9, p9, f18⟩ := p8.freezeRd 0 rfl (f16.ext z8) (by decide)
  refine AnyG.refz z9 ?_
  refine bind_some' h fun y19 e20 h => ?_
  refine Op_.call (kc 102 [17] #[151]) 18 25 102 #[.slice (Gp (some b15)) 4 4] (AnyG.cs (i := 5) (by kernel_rfl) (by kernel_rfl)) (by kernel_rfl) (W.zy [[0, 0, 0, 0], y6, y8, y10] y19 e20 (Gp (some b15)) 4 4 p9 f18 rfl) ?_
  rintro _ w10 ⟨S10, u32, rfl, z10, p10, u33, u34⟩
  refine AnyG.last [6] (Fc S10 w10 []) (by decide) ?_
  have f21 : Els (kInt .u64) S10 w10 ([.u 0, .u 0, .u 0, .u 0] : List Value) [0, 0, 0, 0] := (Els.cons (K := (kInt .u64)) (vs := [.u 0]) (x := 0) rfl (Els.cons (K := (kInt .u64)) (vs := [.u 0]) (x := 0) rfl (Els.cons (K := (kInt .u64)) (vs := [.u 0]) (x := 0) rfl (Els.cons (K := (kInt .u64)) (vs := [.u 0]) (x := 0) rfl Els.nil))))
  refine Op_.stA 25 (.tmp 4) (.tmp 18) 0 1 b3 4 u32 p10 rfl rfl (AnyG.ss (i := 6) (by kernel_rfl) (by kernel_rfl)) (by kernel_rfl) (by kernel_rfl) (by kernel_rfl) u34 (Els.one u33) ?_
  intro w11 z11 p11
  refine AnyG.last [] (Fc S10 w11 []) (by decide) ?_
  refine AnyG.done (by kernel_rfl) ?_ _
  have p11 := p11.dp 0
  refine Goes.rn 2 [] J5l ?_
  have z12 : Ext S10 w11 S10 (w11).drew := Ext.draw
  have p12 := p11.draw
  refine Goes.drawn (s := [2, 3, 4]) (F := Fc S10 (w11).drew ([] ++ (rowCells b3 u32 ++ []))) 7 5 (by kernel_rfl) (by kernel_rfl) (by kernel_rfl) (by kernel_rfl) ?_
  generalize (w11).drew = w12 at z12 p12 ⊢
  refine AnyG.ldN (i := 0) 25 (.tmp 4) 19 25 ⟨b3, 0, none⟩ u32 (by kernel_rfl) (by kernel_rfl) (Fc.here (Cells.app trivial (Cells.app (Cells.row (p12.mem 0 rfl).cell) trivial))) (by kernel_rfl) (by kernel_rfl) (by rw [u34]; kernel_rfl) (fun _ h => h.2.right.left.rowsAt (fun q v hq => by rw [Nat.zero_add]; exact hq)) ?_
  refine bind_some' h fun y22 e23 h => ?_
  refine Op_.call (.call { callee := .value (.func 113), args := #[(.const (.int .u8 48)), (.const (.int .u8 57))], argTypes := #[5, 5] }) 20 25 113 #[.int .u8 48, .int .u8 57] (AnyG.cs (i := 1) (by kernel_rfl) (by kernel_rfl)) (by kernel_rfl) (W.zw 48 57 y22 e23  p12 ) ?_
  rintro _ w13 ⟨S13, u35, rfl, z13, p13, u36, u37⟩
  refine AnyG.next z13 (Cells.app trivial (Cells.app (Cells.row (p13.mem 0 rfl).cell) trivial)) ?_
  have l24 := Els.len1 (u33.ext ((z11.trans z12).trans z13)) u34 rfl
  obtain rfl := els_lit4 (u33.ext ((z11.trans z12).trans z13)) u34
  have l25 := Els.len1 u36 u37 rfl
  obtain rfl := els_lit4 u36 u37
  have f27 : Els (kArr 4 (kInt .u64)) S13 w13 ((U4 y19 (U4 y22 [])) : List Value) [y19, y22] := by exact (Els.cons (K := (kArr 4 (kInt .u64))) (vs := (U4 y19 [])) (x := y19) ⟨l24, els_mk4 l24⟩ (Els.cons (K := (kArr 4 (kInt .u64))) (vs := (U4 y22 [])) (x := y22) ⟨l25, els_mk4 l25⟩ Els.nil))
  refine Op_.made (.buildSlice 151 2 #[(0, (.tmp 19)), (1, (.tmp 20))]) 21 151 (fun b => .slice (Gp (some b)) 2 2) 25 ((U4 y19 (U4 y22 [])) : List Value) p13 (AnyG.vs (i := 2) (by kernel_rfl) (by kernel_rfl)) (by kernel_rfl) ?_
  intro b26 w14 z14 p14
  have p14 : Hp nz wz S13 w14 (((some b26), .row 25 ((U4 y19 (U4 y22 [])) : List Value) (2 * (kArr 4 (kInt .u64)).size) 0) :: (some b3, .row 25 ((U4 y19 []) : List Value) 4 0) :: (some b1, .row 25 [.u 0, .u 0, .u 0, .u 0] 4 0) :: Lr) := p14
  refine AnyG.last [3, 4] (Fc S13 w14 []) (by decide) ?_
  obtain ⟨S15, z15, p15, f29⟩ := p14.freezeRd 0 rfl (f27.ext z14) (by decide)
  refine AnyG.refz z15 ?_
  refine bind_some' h fun y30 e31 h => ?_
  refine Op_.call (kc 102 [21] #[151]) 22 25 102 #[.slice (Gp (some b26)) 2 2] (AnyG.cs (i := 3) (by kernel_rfl) (by kernel_rfl)) (by kernel_rfl) (W.zy [y19, y22] y30 e31 (Gp (some b26)) 2 2 p15 f29 rfl) ?_
  rintro _ w16 ⟨S16, u38, rfl, z16, p16, u39, u3a⟩
  refine AnyG.last [4] (Fc S16 w16 []) (by decide) ?_
  refine Op_.stA 25 (.tmp 4) (.tmp 22) 0 1 b3 4 u38 p16 rfl u34 (AnyG.ss (i := 4) (by kernel_rfl) (by kernel_rfl)) (by kernel_rfl) (by kernel_rfl) (by kernel_rfl) u3a (Els.one u39) ?_
  intro w17 z17 p17
  refine AnyG.last [] (Fc S16 w17 []) (by decide) ?_
  refine AnyG.done (by kernel_rfl) ?_ _
  have p17 := p17.dp 0
  refine Goes.rn 8 [(29, .int .u8 x0), (30, .int .u8 (iand .u8 x0 32)), (31, .bool (decide (iand .u8 x0 32 = 0)))] J5n ?_
  refine ite_some h (fun h32 h => ?_) (fun h32 h => ?_)
  ·
   rw [decide_eq_true h32]
   refine Goes.rn 2 [] J5o ?_
   refine Op_.ldN 25 (.tmp 4) 32 25 ⟨b3, 0, none⟩ u38 Goes.v (by kernel_rfl) (by kernel_rfl) (by rw [u3a]; kernel_rfl) (At_all (p17.mem 0 rfl)) ?_
   refine bind_some' h fun y33 e34 h => ?_
   refine Goes.cal (kc 89 [32] #[25]) 33 25 89 _ (W.zt y30 y33 e34 u38 p17 (u39.ext z17) u3a) ?_
   rintro _ w18 ⟨S18, u3b, rfl, z18, p18, u3c, u3d⟩
   refine Op_.stA 25 (.tmp 4) (.tmp 33) 0 0 b3 4 u3b p18 rfl u3a Goes.s (by kernel_rfl) (by kernel_rfl) (by kernel_rfl) u3d (Els.one u3c) ?_
   intro w19 z19 p19
   refine Goes.rn 3 [] J5q ?_
   refine Op_.ldN 25 (.tmp 4) 34 25 ⟨b3, 0, none⟩ u3b Goes.v (by kernel_rfl) (by kernel_rfl) (by rw [u3d]; kernel_rfl) (At_all (p19.mem 0 rfl)) ?_
   have f35 : Els (kInt .u64) S18 w19 ([.u 0, .u 0, .u 0, .u 0] : List Value) [0, 0, 0, 0] := (Els.cons (K := (kInt .u64)) (vs := [.u 0]) (x := 0) rfl (Els.cons (K := (kInt .u64)) (vs := [.u 0]) (x := 0) rfl (Els.cons (K := (kInt .u64)) (vs := [.u 0]) (x := 0) rfl (Els.cons (K := (kInt .u64)) (vs := [.u 0]) (x := 0) rfl Els.nil))))
   refine Op_.stA 25 (.tmp 2) (.tmp 34) 0 1 b1 4 u3b p19 rfl rfl Goes.s (by kernel_rfl) (by kernel_rfl) (by kernel_rfl) u3d (Els.one (u3c.ext z19)) ?_
   intro w20 z20 p20
   refine Goes.rn 2 [(3, .bool true)] J5p ?_
   obtain rfl := Option.some.inj h
   have p20 := p20.dp 0
   exact Goes.ret (fn := Tryd.f103) (by kernel_rfl) (v := .tuple #[.agg u3b.toArray, .bool true]) (results_n2 (fn := Tryd.f103) (a := .cell 2 25) (b := .tmp 3) (by kernel_rfl) (resV_cell ⟨b1, 0, none⟩ (by kernel_rfl) (run_loadN u3b (by kernel_rfl) (by rw [u3d]; kernel_rfl) (At_all (p20.mem 0 rfl)))) (resV_tmp (by kernel_rfl))) ⟨S18, u3b, rfl, ((((((((((((((((((((Ext.refl S0 w0).trans z2).trans z3).trans z4).trans z5).trans z6).trans z7).trans z8).trans z9).trans z10).trans z11).trans z12).trans z13).trans z14).trans z15).trans z16).trans z17).trans z18).trans z19).trans z20), p20.drop, (u3c.ext (z19.trans z20)), u3d⟩
  ·
   rw [decide_eq_false h32]
   refine Goes.rn 4 [] J5q ?_
   refine Op_.ldN 25 (.tmp 4) 34 25 ⟨b3, 0, none⟩ u38 Goes.v (by kernel_rfl) (by kernel_rfl) (by rw [u3a]; kernel_rfl) (At_all (p17.mem 0 rfl)) ?_
   have f36 : Els (kInt .u64) S16 w17 ([.u 0, .u 0, .u 0, .u 0] : List Value) [0, 0, 0, 0] := (Els.cons (K := (kInt .u64)) (vs := [.u 0]) (x := 0) rfl (Els.cons (K := (kInt .u64)) (vs := [.u 0]) (x := 0) rfl (Els.cons (K := (kInt .u64)) (vs := [.u 0]) (x := 0) rfl (Els.cons (K := (kInt .u64)) (vs := [.u 0]) (x := 0) rfl Els.nil))))
   refine Op_.stA 25 (.tmp 2) (.tmp 34) 0 1 b1 4 u38 p17 rfl rfl Goes.s (by kernel_rfl) (by kernel_rfl) (by kernel_rfl) u3a (Els.one (u39.ext z17)) ?_
   intro w21 z21 p21
   refine Goes.rn 2 [(3, .bool true)] J5p ?_
   obtain rfl := Option.some.inj h
   have p21 := p21.dp 0
   exact Goes.ret (fn := Tryd.f103) (by kernel_rfl) (v := .tuple #[.agg u38.toArray, .bool true]) (results_n2 (fn := Tryd.f103) (a := .cell 2 25) (b := .tmp 3) (by kernel_rfl) (resV_cell ⟨b1, 0, none⟩ (by kernel_rfl) (run_loadN u38 (by kernel_rfl) (by rw [u3a]; kernel_rfl) (At_all (p21.mem 0 rfl)))) (resV_tmp (by kernel_rfl))) ⟨S16, u38, rfl, ((((((((((((((((((Ext.refl S0 w0).trans z2).trans z3).trans z4).trans z5).trans z6).trans z7).trans z8).trans z9).trans z10).trans z11).trans z12).trans z13).trans z14).trans z15).trans z16).trans z17).trans z21), p21.drop, (u39.ext (z17.trans z21)), u3a⟩
 ·
  rw [decide_eq_false h5]
  refine Goes.rn 8 [(10, .bool (decide (ior .u8 x0 32 = 100))), (9, .bool (decide (ior .u8 x0 32 = 100)))] J5s ?_
  refine ite_some h (fun h37 h => ?_) (fun h37 h => ?_)
  ·
   rw [decide_eq_true h37]
   refine Goes.rn 3 [] J5l ?_
   have z22 : Ext S0 w3 S0 (w3).drew := Ext.draw
   have p22 := p3.draw
   refine Goes.drawn (s := [2, 3, 4]) (F := Fc S0 (w3).drew [(⟨b3, 0, none⟩, .u 0), (⟨b3, 1, none⟩, .u 0), (⟨b3, 2, none⟩, .u 0), (⟨b3, 3, none⟩, .u 0)]) 7 5 (by kernel_rfl) (by kernel_rfl) (by kernel_rfl) (by kernel_rfl) ?_
   generalize (w3).drew = w22 at z22 p22 ⊢
   refine AnyG.ldN (i := 0) 25 (.tmp 4) 19 25 ⟨b3, 0, none⟩ [.u 0, .u 0, .u 0, .u 0] (by kernel_rfl) (by kernel_rfl) (Fc.here (p22.cs [(0, 0, 4)])) (by kernel_rfl) (by kernel_rfl) (by kernel_rfl) (fun _ h j v hj => by match j, hj with | 0, rfl => exact h.2.at_ 0 rfl | 1, rfl => exact h.2.at_ 1 rfl | 2, rfl => exact h.2.at_ 2 rfl | 3, rfl => exact h.2.at_ 3 rfl | (j + 4), hj => simp at hj) ?_
   refine bind_some' h fun y38 e39 h => ?_
   refine Op_.call (.call { callee := .value (.func 113), args := #[(.const (.int .u8 48)), (.const (.int .u8 57))], argTypes := #[5, 5] }) 20 25 113 #[.int .u8 48, .int .u8 57] (AnyG.cs (i := 1) (by kernel_rfl) (by kernel_rfl)) (by kernel_rfl) (W.zw 48 57 y38 e39  p22 ) ?_
   rintro _ w23 ⟨S23, u3e, rfl, z23, p23, u3f, u3g⟩
   refine AnyG.next z23 ⟨(p23.c 0 0), (p23.c 0 1), (p23.c 0 2), (p23.c 0 3), trivial⟩ ?_
   have l40 := Els.len1 u3f u3g rfl
   obtain rfl := els_lit4 u3f u3g
   have f42 : Els (kArr 4 (kInt .u64)) S23 w23 ((.u 0 :: .u 0 :: .u 0 :: .u 0 :: U4 y38 []) : List Value) [[0, 0, 0, 0], y38] := by exact (Els.cons (K := (kArr 4 (kInt .u64))) (vs := [.u 0, .u 0, .u 0, .u 0]) (x := [0, 0, 0, 0]) ⟨rfl, (Els.cons (K := (kInt .u64)) (vs := [.u 0]) (x := 0) rfl (Els.cons (K := (kInt .u64)) (vs := [.u 0]) (x := 0) rfl (Els.cons (K := (kInt .u64)) (vs := [.u 0]) (x := 0) rfl (Els.cons (K := (kInt .u64)) (vs := [.u 0]) (x := 0) rfl Els.nil))))⟩ (Els.cons (K := (kArr 4 (kInt .u64))) (vs := (U4 y38 [])) (x := y38) ⟨l40, els_mk4 l40⟩ Els.nil))
   refine Op_.made (.buildSlice 151 2 #[(0, (.tmp 19)), (1, (.tmp 20))]) 21 151 (fun b => .slice (Gp (some b)) 2 2) 25 ((.u 0 :: .u 0 :: .u 0 :: .u 0 :: U4 y38 []) : List Value) p23 (AnyG.vs (i := 2) (by kernel_rfl) (by kernel_rfl)) (by kernel_rfl) ?_
   intro b41 w24 z24 p24
   have p24 : Hp nz wz S23 w24 (((some b41), .row 25 ((.u 0 :: .u 0 :: .u 0 :: .u 0 :: U4 y38 []) : List Value) (2 * (kArr 4 (kInt .u64)).size) 0) :: (some b3, .row 25 [.u 0, .u 0, .u 0, .u 0] 4 0) :: (some b1, .row 25 [.u 0, .u 0, .u 0, .u 0] 4 0) :: Lr) := p24
   refine AnyG.last [3, 4] (Fc S23 w24 []) (by decide) ?_
   obtain ⟨S25, z25, p25, f44⟩ := p24.freezeRd 0 rfl (f42.ext z24) (by decide)
   refine AnyG.refz z25 ?_
   refine bind_some' h fun y45 e46 h => ?_
   refine Op_.call (kc 102 [21] #[151]) 22 25 102 #[.slice (Gp (some b41)) 2 2] (AnyG.cs (i := 3) (by kernel_rfl) (by kernel_rfl)) (by kernel_rfl) (W.zy [[0, 0, 0, 0], y38] y45 e46 (Gp (some b41)) 2 2 p25 f44 rfl) ?_
   rintro _ w26 ⟨S26, u3h, rfl, z26, p26, u3i, u3j⟩
   refine AnyG.last [4] (Fc S26 w26 []) (by decide) ?_
   have f47 : Els (kInt .u64) S26 w26 ([.u 0, .u 0, .u 0, .u 0] : List Value) [0, 0, 0, 0] := (Els.cons (K := (kInt .u64)) (vs := [.u 0]) (x := 0) rfl (Els.cons (K := (kInt .u64)) (vs := [.u 0]) (x := 0) rfl (Els.cons (K := (kInt .u64)) (vs := [.u 0]) (x := 0) rfl (Els.cons (K := (kInt .u64)) (vs := [.u 0]) (x := 0) rfl Els.nil))))
   refine Op_.stA 25 (.tmp 4) (.tmp 22) 0 1 b3 4 u3h p26 rfl rfl (AnyG.ss (i := 4) (by kernel_rfl) (by kernel_rfl)) (by kernel_rfl) (by kernel_rfl) (by kernel_rfl) u3j (Els.one u3i) ?_
   intro w27 z27 p27
   refine AnyG.last [] (Fc S26 w27 []) (by decide) ?_
   refine AnyG.done (by kernel_rfl) ?_ _
   have p27 := p27.dp 0
   refine Goes.rn 8 [(29, .int .u8 x0), (30, .int .u8 (iand .u8 x0 32)), (31, .bool (decide (iand .u8 x0 32 = 0)))] J5n ?_
   refine ite_some h (fun h48 h => ?_) (fun h48 h => ?_)
   ·
    rw [decide_eq_true h48]
    refine Goes.rn 2 [] J5o ?_
    refine Op_.ldN 25 (.tmp 4) 32 25 ⟨b3, 0, none⟩ u3h Goes.v (by kernel_rfl) (by kernel_rfl) (by rw [u3j]; kernel_rfl) (At_all (p27.mem 0 rfl)) ?_
    refine bind_some' h fun y49 e50 h => ?_
    refine Goes.cal (kc 89 [32] #[25]) 33 25 89 _ (W.zt y45 y49 e50 u3h p27 (u3i.ext z27) u3j) ?_
    rintro _ w28 ⟨S28, u3k, rfl, z28, p28, u3l, u3m⟩
    refine Op_.stA 25 (.tmp 4) (.tmp 33) 0 0 b3 4 u3k p28 rfl u3j Goes.s (by kernel_rfl) (by kernel_rfl) (by kernel_rfl) u3m (Els.one u3l) ?_
    intro w29 z29 p29
    refine Goes.rn 3 [] J5q ?_
    refine Op_.ldN 25 (.tmp 4) 34 25 ⟨b3, 0, none⟩ u3k Goes.v (by kernel_rfl) (by kernel_rfl) (by rw [u3m]; kernel_rfl) (At_all (p29.mem 0 rfl)) ?_
    have f51 : Els (kInt .u64) S28 w29 ([.u 0, .u 0, .u 0, .u 0] : List Value) [0, 0, 0, 0] := (Els.cons (K := (kInt .u64)) (vs := [.u 0]) (x := 0) rfl (Els.cons (K := (kInt .u64)) (vs := [.u 0]) (x := 0) rfl (Els.cons (K := (kInt .u64)) (vs := [.u 0]) (x := 0) rfl (Els.cons (K := (kInt .u64)) (vs := [.u 0]) (x := 0) rfl Els.nil))))
    refine Op_.stA 25 (.tmp 2) (.tmp 34) 0 1 b1 4 u3k p29 rfl rfl Goes.s (by kernel_rfl) (by kernel_rfl) (by kernel_rfl) u3m (Els.one (u3l.ext z29)) ?_
    intro w30 z30 p30
    refine Goes.rn 2 [(3, .bool true)] J5p ?_
    obtain rfl := Option.some.inj h
    have p30 := p30.dp 0
    exact Goes.ret (fn := Tryd.f103) (by kernel_rfl) (v := .tuple #[.agg u3k.toArray, .bool true]) (results_n2 (fn := Tryd.f103) (a := .cell 2 25) (b := .tmp 3) (by kernel_rfl) (resV_cell ⟨b1, 0, none⟩ (by kernel_rfl) (run_loadN u3k (by kernel_rfl) (by rw [u3m]; kernel_rfl) (At_all (p30.mem 0 rfl)))) (resV_tmp (by kernel_rfl))) ⟨S28, u3k, rfl, ((((((((((((Ext.refl S0 w0).trans z2).trans z3).trans z22).trans z23).trans z24).trans z25).trans z26).trans z27).trans z28).trans z29).trans z30), p30.drop, (u3l.ext (z29.trans z30)), u3m⟩
   ·
    rw [decide_eq_false h48]
    refine Goes.rn 4 [] J5q ?_
    refine Op_.ldN 25 (.tmp 4) 34 25 ⟨b3, 0, none⟩ u3h Goes.v (by kernel_rfl) (by kernel_rfl) (by rw [u3j]; kernel_rfl) (At_all (p27.mem 0 rfl)) ?_
    have f52 : Els (kInt .u64) S26 w27 ([.u 0, .u 0, .u 0, .u 0] : List Value) [0, 0, 0, 0] := (Els.cons (K := (kInt .u64)) (vs := [.u 0]) (x := 0) rfl (Els.cons (K := (kInt .u64)) (vs := [.u 0]) (x := 0) rfl (Els.cons (K := (kInt .u64)) (vs := [.u 0]) (x := 0) rfl (Els.cons (K := (kInt .u64)) (vs := [.u 0]) (x := 0) rfl Els.nil))))
    refine Op_.stA 25 (.tmp 2) (.tmp 34) 0 1 b1 4 u3h p27 rfl rfl Goes.s (by kernel_rfl) (by kernel_rfl) (by kernel_rfl) u3j (Els.one (u3i.ext z27)) ?_
    intro w31 z31 p31
    refine Goes.rn 2 [(3, .bool true)] J5p ?_
    obtain rfl := Option.some.inj h
    have p31 := p31.dp 0
    exact Goes.ret (fn := Tryd.f103) (by kernel_rfl) (v := .tuple #[.agg u3h.toArray, .bool true]) (results_n2 (fn := Tryd.f103) (a := .cell 2 25) (b := .tmp 3) (by kernel_rfl) (resV_cell ⟨b1, 0, none⟩ (by kernel_rfl) (run_loadN u3h (by kernel_rfl) (by rw [u3j]; kernel_rfl) (At_all (p31.mem 0 rfl)))) (resV_tmp (by kernel_rfl))) ⟨S26, u3h, rfl, ((((((((((Ext.refl S0 w0).trans z2).trans z3).trans z22).trans z23).trans z24).trans z25).trans z26).trans z27).trans z31), p31.drop, (u3i.ext (z27.trans z31)), u3j⟩
  ·
   rw [decide_eq_false h37]
   refine Goes.rn 7 [(12, .bool (decide (ior .u8 x0 32 = 115))), (11, .bool (decide (ior .u8 x0 32 = 115)))] J5t ?_
   refine ite_some h (fun h53 h => ?_) (fun h53 h => ?_)
   ·
    rw [decide_eq_true h53]
    refine Goes.rn 4 [] J5v ?_
    refine bind_some' h fun y54 e55 h => ?_
    refine Goes.cal (.call { callee := .value (.func 113), args := #[(.const (.int .u8 9)), (.const (.int .u8 10))], argTypes := #[5, 5] }) 23 25 113 _ (W.zw 9 10 y54 e55  p3 ) ?_
    rintro _ w32 ⟨S32, u3n, rfl, z32, p32, u3o, u3p⟩
    refine bind_some' h fun y56 e57 h => ?_
    refine Goes.cal (.call { callee := .value (.func 113), args := #[(.const (.int .u8 12)), (.const (.int .u8 13))], argTypes := #[5, 5] }) 24 25 113 _ (W.zw 12 13 y56 e57  p32 ) ?_
    rintro _ w33 ⟨S33, u3q, rfl, z33, p33, u3r, u3s⟩
    refine bind_some' h fun y58 e59 h => ?_
    refine Goes.cal (.call { callee := .value (.func 90), args := #[(.const (.int .u8 32))], argTypes := #[5] }) 25 25 90 _ (W.zs 32 y58 e59  p33 ) ?_
    rintro _ w34 ⟨S34, u3t, rfl, z34, p34, u3u, u3v⟩
    have l60 := Els.len1 (u3o.ext (z33.trans z34)) u3p rfl
    obtain rfl := els_lit4 (u3o.ext (z33.trans z34)) u3p
    have l61 := Els.len1 (u3r.ext z34) u3s rfl
    obtain rfl := els_lit4 (u3r.ext z34) u3s
    have l62 := Els.len1 u3u u3v rfl
    obtain rfl := els_lit4 u3u u3v
    have f64 : Els (kArr 4 (kInt .u64)) S34 w34 ((U4 y54 (U4 y56 (U4 y58 []))) : List Value) [y54, y56, y58] := by exact (Els.cons (K := (kArr 4 (kInt .u64))) (vs := (U4 y54 [])) (x := y54) ⟨l60, els_mk4 l60⟩ (Els.cons (K := (kArr 4 (kInt .u64))) (vs := (U4 y56 [])) (x := y56) ⟨l61, els_mk4 l61⟩ (Els.cons (K := (kArr 4 (kInt .u64))) (vs := (U4 y58 [])) (x := y58) ⟨l62, els_mk4 l62⟩ Els.nil)))
    refine Op_.made (.buildSlice 151 3 #[(0, (.tmp 23)), (1, (.tmp 24)), (2, (.tmp 25))]) 26 151 (fun b => .slice (Gp (some b)) 3 3) 25 ((U4 y54 (U4 y56 (U4 y58 []))) : List Value) p34 Goes.v (by kernel_rfl) ?_
    intro b63 w35 z35 p35
    have p35 : Hp nz wz S34 w35 (((some b63), .row 25 ((U4 y54 (U4 y56 (U4 y58 []))) : List Value) (3 * (kArr 4 (kInt .u64)).size) 0) :: (some b3, .row 25 [.u 0, .u 0, .u 0, .u 0] 4 0) :: (some b1, .row 25 [.u 0, .u 0, .u 0, .u 0] 4 0) :: Lr) := p35
    obtain ⟨S36, z36, p36, f66⟩ := p35.freezeRd 0 rfl (f64.ext z35) (by decide)
    refine bind_some' h fun y67 e68 h => ?_
    refine Goes.cal (kc 102 [26] #[151]) 27 25 102 _ (W.zy [y54, y56, y58] y67 e68 (Gp (some b63)) 3 3 p36 f66 rfl) ?_
    rintro _ w37 ⟨S37, u3w, rfl, z37, p37, u3x, u3y⟩
    have p37 := p37.dp 0
    have f69 : Els (kInt .u64) S37 w37 ([.u 0, .u 0, .u 0, .u 0] : List Value) [0, 0, 0, 0] := (Els.cons (K := (kInt .u64)) (vs := [.u 0]) (x := 0) rfl (Els.cons (K := (kInt .u64)) (vs := [.u 0]) (x := 0) rfl (Els.cons (K := (kInt .u64)) (vs := [.u 0]) (x := 0) rfl (Els.cons (K := (kInt .u64)) (vs := [.u 0]) (x := 0) rfl Els.nil))))
    refine Op_.stA 25 (.tmp 4) (.tmp 27) 0 0 b3 4 u3w p37 rfl rfl Goes.s (by kernel_rfl) (by kernel_rfl) (by kernel_rfl) u3y (Els.one u3x) ?_
    intro w38 z38 p38
    refine Goes.rn 9 [(29, .int .u8 x0), (30, .int .u8 (iand .u8 x0 32)), (31, .bool (decide (iand .u8 x0 32 = 0)))] J5n ?_
    refine ite_some h (fun h70 h => ?_) (fun h70 h => ?_)
    ·
     rw [decide_eq_true h70]
     refine Goes.rn 2 [] J5o ?_
     refine Op_.ldN 25 (.tmp 4) 32 25 ⟨b3, 0, none⟩ u3w Goes.v (by kernel_rfl) (by kernel_rfl) (by rw [u3y]; kernel_rfl) (At_all (p38.mem 0 rfl)) ?_
     refine bind_some' h fun y71 e72 h => ?_
     refine Goes.cal (kc 89 [32] #[25]) 33 25 89 _ (W.zt y67 y71 e72 u3w p38 (u3x.ext z38) u3y) ?_
     rintro _ w39 ⟨S39, u3z, rfl, z39, p39, u40, u41⟩
     refine Op_.stA 25 (.tmp 4) (.tmp 33) 0 0 b3 4 u3z p39 rfl u3y Goes.s (by kernel_rfl) (by kernel_rfl) (by kernel_rfl) u41 (Els.one u40) ?_
     intro w40 z40 p40
     refine Goes.rn 3 [] J5q ?_
     refine Op_.ldN 25 (.tmp 4) 34 25 ⟨b3, 0, none⟩ u3z Goes.v (by kernel_rfl) (by kernel_rfl) (by rw [u41]; kernel_rfl) (At_all (p40.mem 0 rfl)) ?_
     have f73 : Els (kInt .u64) S39 w40 ([.u 0, .u 0, .u 0, .u 0] : List Value) [0, 0, 0, 0] := (Els.cons (K := (kInt .u64)) (vs := [.u 0]) (x := 0) rfl (Els.cons (K := (kInt .u64)) (vs := [.u 0]) (x := 0) rfl (Els.cons (K := (kInt .u64)) (vs := [.u 0]) (x := 0) rfl (Els.cons (K := (kInt .u64)) (vs := [.u 0]) (x := 0) rfl Els.nil))))
     refine Op_.stA 25 (.tmp 2) (.tmp 34) 0 1 b1 4 u3z p40 rfl rfl Goes.s (by kernel_rfl) (by kernel_rfl) (by kernel_rfl) u41 (Els.one (u40.ext z40)) ?_
     intro w41 z41 p41
     refine Goes.rn 2 [(3, .bool true)] J5p ?_
     obtain rfl := Option.some.inj h
     have p41 := p41.dp 0
     exact Goes.ret (fn := Tryd.f103) (by kernel_rfl) (v := .tuple #[.agg u3z.toArray, .bool true]) (results_n2 (fn := Tryd.f103) (a := .cell 2 25) (b := .tmp 3) (by kernel_rfl) (resV_cell ⟨b1, 0, none⟩ (by kernel_rfl) (run_loadN u3z (by kernel_rfl) (by rw [u41]; kernel_rfl) (At_all (p41.mem 0 rfl)))) (resV_tmp (by kernel_rfl))) ⟨S39, u3z, rfl, (((((((((((((Ext.refl S0 w0).trans z2).trans z3).trans z32).trans z33).trans z34).trans z35).trans z36).trans z37).trans z38).trans z39).trans z40).trans z41), p41.drop, (u40.ext (z40.trans z41)), u41⟩
    ·
     rw [decide_eq_false h70]
     refine Goes.rn 4 [] J5q ?_
     refine Op_.ldN 25 (.tmp 4) 34 25 ⟨b3, 0, none⟩ u3w Goes.v (by kernel_rfl) (by kernel_rfl) (by rw [u3y]; kernel_rfl) (At_all (p38.mem 0 rfl)) ?_
     have f74 : Els (kInt .u64) S37 w38 ([.u 0, .u 0, .u 0, .u 0] : List Value) [0, 0, 0, 0] := (Els.cons (K := (kInt .u64)) (vs := [.u 0]) (x := 0) rfl (Els.cons (K := (kInt .u64)) (vs := [.u 0]) (x := 0) rfl (Els.cons (K := (kInt .u64)) (vs := [.u 0]) (x := 0) rfl (Els.cons (K := (kInt .u64)) (vs := [.u 0]) (x := 0) rfl Els.nil))))
     refine Op_.stA 25 (.tmp 2) (.tmp 34) 0 1 b1 4 u3w p38 rfl rfl Goes.s (by kernel_rfl) (by kernel_rfl) (by kernel_rfl) u3y (Els.one (u3x.ext z38)) ?_
     intro w42 z42 p42
     refine Goes.rn 2 [(3, .bool true)] J5p ?_
     obtain rfl := Option.some.inj h
     have p42 := p42.dp 0
     exact Goes.ret (fn := Tryd.f103) (by kernel_rfl) (v := .tuple #[.agg u3w.toArray, .bool true]) (results_n2 (fn := Tryd.f103) (a := .cell 2 25) (b := .tmp 3) (by kernel_rfl) (resV_cell ⟨b1, 0, none⟩ (by kernel_rfl) (run_loadN u3w (by kernel_rfl) (by rw [u3y]; kernel_rfl) (At_all (p42.mem 0 rfl)))) (resV_tmp (by kernel_rfl))) ⟨S37, u3w, rfl, (((((((((((Ext.refl S0 w0).trans z2).trans z3).trans z32).trans z33).trans z34).trans z35).trans z36).trans z37).trans z38).trans z42), p42.drop, (u3x.ext (z38.trans z42)), u3y⟩
   ·
    rw [decide_eq_false h53]
    refine Goes.rn 6 [] J5y ?_
    refine Goes.ldN 25 (.tmp 4) 28 25 ⟨b3, 0, none⟩ [.u 0, .u 0, .u 0, .u 0] (p3.pa 0 0) ?_
    refine Op_.st 25 (.tmp 2) (.tmp 28) 0 1 b1 0 (.agg #[.u 0, .u 0, .u 0, .u 0]) [.u 0, .u 0, .u 0, .u 0] p3 rfl Goes.s (by kernel_rfl) (by kernel_rfl) (by kernel_rfl) (by kernel_rfl) (Nat.zero_le _) (by simp only [List.length_cons, List.length_nil]; omega) (by simp [Value.oneCell']) ?_
    intro w43 z43 p43
    have p43 : Hp nz wz S0 w43 ((some b3, .row 25 [.u 0, .u 0, .u 0, .u 0] 4 0) :: (some b1, .row 25 [.u 0, .u 0, .u 0, .u 0] 4 0) :: Lr) := p43
    refine Goes.rn 2 [(3, .bool false)] J5x ?_
    obtain rfl := Option.some.inj h
    have p43 := p43.dp 0
    exact Goes.ret (fn := Tryd.f103) (by kernel_rfl) (v := .tuple #[.agg #[.u 0, .u 0, .u 0, .u 0], .bool false]) (results_n2 (fn := Tryd.f103) (a := .cell 2 25) (b := .tmp 3) (by kernel_rfl) (resV_cell ⟨b1, 0, none⟩ (by kernel_rfl) (run_loadN [.u 0, .u 0, .u 0, .u 0] (by kernel_rfl) (by kernel_rfl) (p43.pa 0 0))) (resV_tmp (by kernel_rfl))) ⟨S0, ([.u 0, .u 0, .u 0, .u 0] : List Value), rfl, ((((Ext.refl S0 w0).trans z2).trans z3).trans z43), p43.drop, (show Els (kInt .u64) S0 w43 ([.u 0, .u 0, .u 0, .u 0] : List Value) _ from (Els.cons (K := (kInt .u64)) (vs := [.u 0]) (x := 0) rfl (Els.cons (K := (kInt .u64)) (vs := [.u 0]) (x := 0) rfl (Els.cons (K := (kInt .u64)) (vs := [.u 0]) (x := 0) rfl (Els.cons (K := (kInt .u64)) (vs := [.u 0]) (x := 0) rfl Els.nil))))), rfl⟩

def Q4r := sub [1, 1] B121
def J5z : List Item := [.code Q4r]
def Q4s := sub [1, 0, 1] B121
def J60 : List Item := .code Q4s :: J5z
def Q4t := sub [1, 0, 0] B121
def J61 : List Item := .inRegion (opsOf Q4t) [3, 4, 5] :: J60
def Q4u := sub [1, 0, 1, 0, 1] B121
def J62 : List Item := .code Q4u :: J5z
def Q4v := sub [1, 1, 1] B121
def J63 : List Item := [.code Q4v]

def Post.z13 (r : Int) (v : Value) (w' : World) : Prop :=
 ∃ S', v = .int .u8 r ∧ Ext S0 w0 S' w' ∧ Hp nz wz S' w' (Lr)

theorem W.z13 (x0 : Int) (r : Int) (h : M.syntax_lower x0 = some r) {nz wz S0 w0 Lr} [Gw nz wz] (p0 : Hp nz wz S0 w0 (Lr)) :
  Calls Tryd.prog 121 #[.int .u8 x0] w0 (Rets (Post.z13 nz wz S0 w0 Lr r)) := by
 refine calls_of_goes (fn := Tryd.f121) (c := B121) (by kernel_rfl) (by kernel_rfl) 12 (by kernel_rfl) ?_
 refine Goes.jp 13 [(0, .int .u8 x0)] (fun junk => ?_)
 delta M.syntax_lower at h
 refine Goes.rn 10 [(2, .int .u8 0), (3, .int .u8 x0), (4, .bool (decide (x0 ≥ 65))), (5, .bool (decide (x0 ≥ 65)))] J61 ?_
 refine ite_some h (fun h1 h => ?_) (fun h1 h => ?_)
 ·
  rw [decide_eq_true h1]
  refine Goes.rn 4 [(6, .int .u8 x0), (7, .bool (decide (x0 ≤ 70))), (8, .bool (decide (x0 ≤ 70)))] J60 ?_
  refine ite_some h (fun h2 h => ?_) (fun h2 h => ?_)
  ·
   rw [decide_eq_true h2]
   refine Goes.rn 8 [(9, .int .u8 x0), (10, .int .u8 (wr .u8 (x0 + 97))), (11, .int .u8 (wr .u8 ((wr .u8 (x0 + 97)) - 65))), (2, .int .u8 (wr .u8 ((wr .u8 (x0 + 97)) - 65)))] J62 ?_
   obtain rfl := Option.some.inj h
   exact Goes.rt Tryd.f121 (.int .u8 (wr .u8 ((wr .u8 (x0 + 97)) - 65))) ⟨S0, rfl, (Ext.refl S0 w0), p0⟩
  ·
   rw [decide_eq_false h2]
   refine Goes.rn 7 [(12, .int .u8 x0), (2, .int .u8 x0)] J63 ?_
   obtain rfl := Option.some.inj h
   exact Goes.rt Tryd.f121 (.int .u8 x0) ⟨S0, rfl, (Ext.refl S0 w0), p0⟩
 ·
  rw [decide_eq_false h1]
  refine Goes.rn 11 [(6, undef), (7, undef), (8, .bool false), (12, .int .u8 x0), (2, .int .u8 x0)] J63 ?_
  obtain rfl := Option.some.inj h
  exact Goes.rt Tryd.f121 (.int .u8 x0) ⟨S0, rfl, (Ext.refl S0 w0), p0⟩

def Q4w := sub [1, 1] B114
def J64 : List Item := [.code Q4w]
def Q4x := sub [1, 0] B114
def J65 : List Item := .inRegion (opsOf Q4x) [1, 2, 3] :: J64

def Post.z14 (r : Int) (v : Value) (w' : World) : Prop :=
 ∃ S', v = .i r ∧ Ext S0 w0 S' w' ∧ Hp nz wz S' w' (Lr)

theorem W.z14 (x0 : Int) (r : Int) (h : M.syntax_nibble x0 = some r) {nz wz S0 w0 Lr} [Gw nz wz] (p0 : Hp nz wz S0 w0 (Lr)) :
  Calls Tryd.prog 114 #[.int .u8 x0] w0 (Rets (Post.z14 nz wz S0 w0 Lr r)) := by
 refine calls_of_goes (fn := Tryd.f114) (c := B114) (by kernel_rfl) (by kernel_rfl) 5 (by kernel_rfl) ?_
 refine Goes.jp 6 [(0, .int .u8 x0)] (fun junk => ?_)
 delta M.syntax_nibble at h
 refine Goes.rn 7 [(2, .i 0), (3, .int .u8 x0)] J65 ?_
 refine bind_some' h fun y1 e2 h => ?_
 refine Goes.cal (kc 121 [3] #[5]) 4 5 121 _ (W.z13 x0 y1 e2  p0 ) ?_
 rintro _ w2 ⟨S2, rfl, z2, p2⟩
 refine bind_some' h fun y3 e4 h => ?_
 refine Goes.cal (.call { callee := .value (.func 45), args := #[(.const (.string ⟨#[48, 49, 50, 51, 52, 53, 54, 55, 56, 57, 97, 98, 99, 100, 101, 102]⟩)), (.tmp 4)], argTypes := #[9, 5] }) 5 3 45 _ (W.z1 (⟨#[48, 49, 50, 51, 52, 53, 54, 55, 56, 57, 97, 98, 99, 100, 101, 102]⟩ : ByteArray) y1 y3 e4  p2 ) ?_
 rintro _ w3 ⟨S3, rfl, z3, p3⟩
 refine Goes.rn 2 [(2, .i y3)] J64 ?_
 obtain rfl := Option.some.inj h
 exact Goes.rt Tryd.f114 (.i y3) ⟨S3, rfl, (((Ext.refl S0 w0).trans z2).trans z3), p3⟩

def Q4y := sub [1, 1] B104
def J66 : List Item := [.code Q4y]
def Q4z := sub [1, 0] B104
def J67 : List Item := .inRegion (opsOf Q4z) [1, 2, 3] :: J66
def Q50 := sub [1, 1, 1] B104
def J68 : List Item := [.code Q50]
def Q51 := sub [1, 1, 0, 1] B104
def J69 : List Item := .code Q51 :: J68
def Q52 := sub [1, 1, 0, 1, 0, 1] B104
def J6a : List Item := .code Q52 :: J68
def Q53 := sub [1, 1, 0, 1, 0, 0] B104
def J6b : List Item := .inRegion (opsOf Q53) [4, 5] :: J6a
def Q54 := sub [1, 1, 0, 1, 0, 1, 1] B104
def J6c : List Item := .code Q54 :: J68
def Q55 := sub [1, 1, 1, 1] B104
def J6d : List Item := [.code Q55]
def Q56 := sub [1, 1, 1, 0] B104
def J6e : List Item := .inRegion (opsOf Q56) [3, 4, 5, 6, 7] :: J6d
def J6f : List Item := .inRegion (opsOf Q56) [7] :: J6d
def Q57 := sub [1, 1, 1, 1, 1] B104
def J6g : List Item := [.code Q57]

def Post.z15 (gx0 : Nat) (r : Int × T68) (v : Value) (w' : World) : Prop :=
 ∃ S' u20, v = .int .u8 r.1 ∧ Ext S0 w0 S' w' ∧ Hp nz wz S' w' ((some gx0, .row 69 [.string r.2.s, .i r.2.at_, .i r.2.deep, u20] 4 0) :: Lr) ∧ PtO kT72 S' w' u20 r.2.bad

theorem W.z15 (x0v : T68) (r : Int × T68) (h : M.syntax_parser_digit x0v = some r) {nz wz S0 w0 Lr} [Gw nz wz] (gx0 u22) (p0 : Hp nz wz S0 w0 ((some gx0, .row 69 [.string x0v.s, .i x0v.at_, .i x0v.deep, u22] 4 0) :: Lr)) (u23 : PtO kT72 S0 w0 u22 x0v.bad) :
  Calls Tryd.prog 104 #[(pt gx0 0)] w0 (Rets (Post.z15 nz wz S0 w0 Lr gx0 r)) := by
 refine calls_of_goes (fn := Tryd.f104) (c := B104) (by kernel_rfl) (by kernel_rfl) 23 (by kernel_rfl) ?_
 refine Goes.jp 24 [(0, (pt gx0 0))] (fun junk => ?_)
 delta M.syntax_parser_digit at h
 refine Goes.rn 7 [(2, .int .u8 0), (4, (pt gx0 0))] J67 ?_
 refine bind_some' h fun y2 e3 h => ?_
 refine Goes.cal (kc 65 [4] #[66]) 5 5 65 _ (W.zn x0v y2 e3 gx0 u22 p0 u23) ?_
 rintro _ w2 ⟨S2, u27, rfl, z2, p2, u28⟩
 refine bind_some' h fun y4 e5 h => ?_
 refine Goes.cal (kc 114 [5] #[5]) 6 3 114 _ (W.z14 y2.1 y4 e5  p2 ) ?_
 rintro _ w3 ⟨S3, rfl, z3, p3⟩
 refine Goes.rn 8 [(3, .i y4), (7, .i y4), (8, .bool (decide (y4 < 0)))] J69 ?_
 refine ite_some h (fun h6 h => ?_) (fun h6 h => ?_)
 ·
  rw [decide_eq_true h6]
  refine Goes.rn 7 [(9, (pt gx0 0)), (10, (pt gx0 0)), (11, (pt gx0 0)), (12, (pt gx0 1))] J6b ?_
  refine Goes.ld 3 (.tmp 12) 13 3 ⟨gx0, 1, none⟩ (.i y2.2.at_) (p3.c 0 1) ?_
  refine bind_some' h fun y7 e8 h => ?_
  refine Goes.cal (kc 31 [9, 13] #[66, 3]) 14 28 31 _ (W.zp y2.2 y2.2.at_ y7 e8 gx0 u27 p3 (u28.ext z3)) ?_
  rintro _ w4 ⟨S4, u42, u43, u44, u45, rfl, z4, p4, u46, u47, rfl, u48⟩
  refine Goes.rn 5 [(2, .int .u8 0)] J6c ?_
  obtain rfl := Option.some.inj h
  exact Goes.rt Tryd.f104 (.int .u8 0) ⟨S4, u45, rfl, ((((Ext.refl S0 w0).trans z2).trans z3).trans z4), p4, u48⟩
 ·
  rw [decide_eq_false h6]
  refine Goes.rn 7 [(15, (pt gx0 0)), (16, (pt gx0 0)), (17, (pt gx0 1))] J6e ?_
  refine Goes.ld 3 (.tmp 17) 18 3 ⟨gx0, 1, none⟩ (.i y2.2.at_) (p3.c 0 1) ?_
  refine Goes.rn 3 [(19, .i (wr .i64 (y2.2.at_ + 1))), (20, (pt gx0 0)), (21, (pt gx0 1))] J6f ?_
  refine Op_.st 3 (.tmp 21) (.tmp 19) 0 0 gx0 1 (.i (wr .i64 (y2.2.at_ + 1))) [.i (wr .i64 (y2.2.at_ + 1))] p3 rfl Goes.s (by kernel_rfl) (by kernel_rfl) (by kernel_rfl) (by kernel_rfl) (Nat.zero_le _) (by simp only [List.length_cons, List.length_nil]; omega) (by simp [Value.oneCell']) ?_
  intro w5 z5 p5
  have p5 : Hp nz wz S3 w5 ((some gx0, .row 69 [.string y2.2.s, .i (wr .i64 (y2.2.at_ + 1)), .i y2.2.deep, u27] 4 0) :: Lr) := p5
  refine Goes.rn 7 [(22, .i y4), (23, .int .u8 (wr .u8 y4)), (2, .int .u8 (wr .u8 y4))] J6g ?_
  obtain rfl := Option.some.inj h
  exact Goes.rt Tryd.f104 (.int .u8 (wr .u8 y4)) ⟨S3, u27, rfl, ((((Ext.refl S0 w0).trans z2).trans z3).trans z5), p5, (u28.ext (z3.trans z5))⟩

def Q58 := sub [1] B105
def J6h : List Item := [.code Q58]
def Q59 := sub [0] B105
def J6i : List Item := .inRegion (opsOf Q59) [0] :: J6h
def Q5a := sub [1, 1] B105
def J6j : List Item := [.code Q5a]
def Q5b := sub [1, 0] B105
def J6k : List Item := .inRegion (opsOf Q5b) [1, 2, 3, 4] :: J6j
def J6l : List Item := .inRegion (opsOf Q5b) [3, 4] :: J6j
def J6m : List Item := .inRegion (opsOf Q5b) [4] :: J6j

def Post.z16 (r : T126) (v : Value) (w' : World) : Prop :=
 ∃ S', v = (ag (U4 r.set_ [.int .u8 r.b, .bool r.single])) ∧ Ext S0 w0 S' w' ∧ Hp nz wz S' w' (Lr) ∧ r.set_.length = 4

theorem W.z16 (x0 : Int) (r : T126) (h : M.syntax_of x0 = some r) {nz wz S0 w0 Lr} [Gw nz wz] (p0 : Hp nz wz S0 w0 (Lr)) :
  Calls Tryd.prog 105 #[.int .u8 x0] w0 (Rets (Post.z16 nz wz S0 w0 Lr r)) := by
 refine calls_of_goes (fn := Tryd.f105) (c := B105) (by kernel_rfl) (by kernel_rfl) 6 (by kernel_rfl) ?_
 refine Goes.jp 7 [(0, .int .u8 x0)] (fun junk => ?_)
 delta M.syntax_of at h
 refine Goes.rn 2 [] J6i ?_
 refine Op_.alloc 127 2 0 (.agg #[.u 0, .u 0, .u 0, .u 0, .int .u8 0, .bool false]) [.u 0, .u 0, .u 0, .u 0, .int .u8 0, .bool false] p0 Goes.v (by kernel_rfl) (by kernel_rfl) ?_
 intro b1 w2 z2 p2
 refine Goes.rn 4 [(3, .int .u8 x0)] J6k ?_
 refine bind_some' h fun y3 e4 h => ?_
 refine Goes.cal (kc 90 [3] #[5]) 4 25 90 _ (W.zs x0 y3 e4  p2 ) ?_
 rintro _ w3 ⟨S3, u49, rfl, z3, p3, u4a, u4b⟩
 refine Goes.rn 1 [(5, .int .u8 x0)] J6l ?_
 have l5 := Els.len1 u4a u4b rfl
 obtain rfl := els_lit4 u4a u4b
 refine Goes.rn 1 [(6, (ag (U4 y3 [.int .u8 x0, .bool true])))] J6m ?_
 refine Op_.st 127 (.tmp 2) (.tmp 6) 0 0 b1 0 (ag (U4 y3 [.int .u8 x0, .bool true])) (U4 y3 [.int .u8 x0, .bool true]) p3 rfl Goes.s (by kernel_rfl) (by kernel_rfl) (by kernel_rfl) (by kernel_rfl) (Nat.zero_le _) (by simp only [List.length_cons, List.length_nil]; omega) (by simp [Value.oneCell']) ?_
 intro w4 z4 p4
 have p4 : Hp nz wz S3 w4 ((some b1, .row 127 (U4 y3 [.int .u8 x0, .bool true]) 6 0) :: Lr) := p4
 refine Goes.rn 1 [] J6j ?_
 obtain rfl := Option.some.inj h
 exact Goes.ret (fn := Tryd.f105) (by kernel_rfl) (v := (ag (U4 y3 [.int .u8 x0, .bool true]))) (results_n1 (fn := Tryd.f105) (a := .cell 2 127) (by kernel_rfl) (resV_cell ⟨b1, 0, none⟩ (by kernel_rfl) (run_loadN (U4 y3 [.int .u8 x0, .bool true]) (by kernel_rfl) (by kernel_rfl) (p4.pa 0 0)))) ⟨S3, rfl, ((((Ext.refl S0 w0).trans z2).trans z3).trans z4), p4.drop, l5⟩

def Q5c := sub [1, 1, 1, 1] B93
def J6n : List Item := [.code Q5c]
def J6o : List Item := .inBlock 0 :: J6n
def Q5d := sub [1, 1, 1, 0, 0, 1, 1, 1, 1, 1, 1, 1] B93
def J6p : List Item := .code Q5d :: J6o
def Q5e := sub [1, 1, 1, 0, 0, 1, 1, 1, 1, 1, 1, 1, 0, 1] B93
def J6q : List Item := .code Q5e :: J6o
def Q5f := sub [1, 1, 1, 0, 0, 1, 1, 1, 1, 1, 1, 1, 0, 0] B93
def J6r : List Item := .inRegion (opsOf Q5f) [4, 5] :: J6q
def Q5g := sub [1, 1, 1, 0, 0, 1, 1, 1, 1, 1, 1, 1, 0, 1, 1] B93
def J6s : List Item := .code Q5g :: J6o
def Q5h := sub [1, 1, 1, 0, 0, 1, 1, 1, 1, 1, 1, 1, 0, 1, 0] B93
def J6t : List Item := .inRegion (opsOf Q5h) [1] :: J6s
def Q5i := sub [1, 1, 1, 1, 1] B93
def J6u : List Item := [.code Q5i]
def Q5j := sub [1, 1, 1, 1, 0] B93
def J6v : List Item := .inRegion (opsOf Q5j) [3, 4, 5, 6, 7] :: J6u
def J6w : List Item := .inRegion (opsOf Q5j) [7] :: J6u
def Q5k := sub [1, 1, 1, 1, 1, 1] B93
def J6x : List Item := [.code Q5k]
def Q5l := sub [1, 1, 1, 1, 1, 0] B93
def J6y : List Item := .inRegion (opsOf Q5l) [1, 2] :: J6x

def Post.z17 (gx0 : Nat) (r : T126 × T68) (v : Value) (w' : World) : Prop :=
 ∃ S' u20, v = (ag (U4 r.1.set_ [.int .u8 r.1.b, .bool r.1.single])) ∧ Ext S0 w0 S' w' ∧ Hp nz wz S' w' ((some gx0, .row 69 [.string r.2.s, .i r.2.at_, .i r.2.deep, u20] 4 0) :: Lr) ∧ r.1.set_.length = 4 ∧ PtO kT72 S' w' u20 r.2.bad

def L.z18 (gx0 : Nat) : T126 × Int × Bool × T68 → (T126 × T68) → Prop := fun ⟨x2v, x3, x66, e0v⟩ r => ∀ S1 w1, Ext S0 w0 S1 w1 → ∀ gx2 u20 (_ : Hp nz wz S1 w1 ((some gx2, .row 127 (U4 x2v.set_ [.int .u8 x2v.b, .bool x2v.single]) 6 0) :: (some gx0, .row 69 [.string e0v.s, .i e0v.at_, .i e0v.deep, u20] 4 0) :: Lr)) (_ : x2v.set_.length = 4) (_ : PtO kT72 S1 w1 u20 e0v.bad) (junk : Nat → Value),
 Goes Tryd.prog (base 93) J6p ⟨lfr 90 [(0, (pt gx0 0)), (2, (pt gx2 0)), (3, .int .u8 x3), (66, .bool x66)] junk, []⟩ w1 (Done Tryd.prog 93 (Rets (Post.z17 nz wz S0 w0 Lr gx0 r)))

theorem W.z18 {nz wz S0 w0 Lr} [Gw nz wz] (gx0 : Nat) : ∀ a r, M.syntax_parser_escape_l0 a = some r → L.z18 nz wz S0 w0 Lr gx0 a r := by
 intro ⟨x2v, x3, x66, e0v⟩ r h S1 w1 hx gx2 u20 p1 u2e u21 junk
 rw [M.syntax_parser_escape_l0] at h
 try dsimp only at h
 refine ite_some h (fun h30 h => ?_) (fun h30 h => ?_)
 ·
  rw [h30]
  refine Goes.rn 7 [(74, (pt gx0 0)), (75, (pt gx0 0)), (76, (pt gx0 0)), (77, (pt gx0 1))] J6r ?_
  refine Goes.ld 3 (.tmp 77) 78 3 ⟨gx0, 1, none⟩ (.i e0v.at_) (p1.c 1 1) ?_
  have p1 := p1.fr 1
  refine bind_some' h fun y31 e32 h => ?_
  refine Goes.cal (kc 31 [74, 78] #[66, 3]) 79 28 31 _ (W.zp e0v e0v.at_ y31 e32 gx0 u20 p1 u21) ?_
  rintro _ w21 ⟨S21, u4c, u4d, u4e, u4f, rfl, z21, p21, u4g, u4h, rfl, u4i⟩
  refine Goes.rn 4 [(80, .agg #[.u 0, .u 0, .u 0, .u 0, .int .u8 0, .bool false])] J6t ?_
  refine Op_.st 127 (.tmp 2) (.tmp 80) 0 1 gx2 0 (.agg #[.u 0, .u 0, .u 0, .u 0, .int .u8 0, .bool false]) [.u 0, .u 0, .u 0, .u 0, .int .u8 0, .bool false] p21 rfl Goes.s (by kernel_rfl) (by kernel_rfl) (by kernel_rfl) (by kernel_rfl) (Nat.zero_le _) (by simp only [List.length_cons, List.length_nil]; omega) (by simp [Value.oneCell']) ?_
  intro w22 z22 p22
  have p22 : Hp nz wz S21 w22 ((some gx0, .row 69 [.string y31.2.s, .i y31.2.at_, .i y31.2.deep, u4f] 4 0) :: (some gx2, .row 127 [.u 0, .u 0, .u 0, .u 0, .int .u8 0, .bool false] 6 0) :: Lr) := p22
  refine Goes.rn 1 [] J6s ?_
  obtain rfl := Option.some.inj h
  have p22 := (p22.fr 0).fr 1
  exact Goes.ret (fn := Tryd.f93) (by kernel_rfl) (v := .agg #[.u 0, .u 0, .u 0, .u 0, .int .u8 0, .bool false]) (results_n1 (fn := Tryd.f93) (a := .cell 2 127) (by kernel_rfl) (resV_cell ⟨gx2, 0, none⟩ (by kernel_rfl) (run_loadN [.u 0, .u 0, .u 0, .u 0, .int .u8 0, .bool false] (by kernel_rfl) (by kernel_rfl) (p22.pa 0 0)))) ⟨S21, u4f, rfl, ((hx.trans z21).trans z22), p22.drop, rfl, (u4i.ext z22)⟩
 ·
  have u4j : x66 = false := by simpa using h30
  rw [u4j]
  refine Goes.rn 8 [(81, (pt gx0 0)), (82, (pt gx0 0)), (83, (pt gx0 1))] J6v ?_
  refine Goes.ld 3 (.tmp 83) 84 3 ⟨gx0, 1, none⟩ (.i e0v.at_) (p1.c 1 1) ?_
  refine Goes.rn 3 [(85, .i (wr .i64 (e0v.at_ + 1))), (86, (pt gx0 0)), (87, (pt gx0 1))] J6w ?_
  refine Op_.st 3 (.tmp 87) (.tmp 85) 0 1 gx0 1 (.i (wr .i64 (e0v.at_ + 1))) [.i (wr .i64 (e0v.at_ + 1))] p1 rfl Goes.s (by kernel_rfl) (by kernel_rfl) (by kernel_rfl) (by kernel_rfl) (Nat.zero_le _) (by simp only [List.length_cons, List.length_nil]; omega) (by simp [Value.oneCell']) ?_
  intro w23 z23 p23
  have p23 : Hp nz wz S1 w23 ((some gx2, .row 127 (U4 x2v.set_ [.int .u8 x2v.b, .bool x2v.single]) 6 0) :: (some gx0, .row 69 [.string e0v.s, .i (wr .i64 (e0v.at_ + 1)), .i e0v.deep, u20] 4 0) :: Lr) := p23
  refine Goes.rn 4 [(88, .int .u8 x3)] J6y ?_
  refine bind_some' h fun y33 e34 h => ?_
  refine Goes.cal (kc 105 [88] #[5]) 89 127 105 _ (W.z16 x3 y33 e34  p23 ) ?_
  rintro _ w24 ⟨S24, rfl, z24, p24, u4k⟩
  refine Op_.st 127 (.tmp 2) (.tmp 89) 0 0 gx2 0 (ag (U4 y33.set_ [.int .u8 y33.b, .bool y33.single])) (U4 y33.set_ [.int .u8 y33.b, .bool y33.single]) p24 rfl Goes.s (by kernel_rfl) (by kernel_rfl) (by kernel_rfl) (by kernel_rfl) (Nat.zero_le _) (by simp only [List.length_cons, List.length_nil]; omega) (by simp [Value.oneCell']) ?_
  intro w25 z25 p25
  have p25 : Hp nz wz S24 w25 ((some gx2, .row 127 (U4 y33.set_ [.int .u8 y33.b, .bool y33.single]) 6 0) :: (some gx0, .row 69 [.string e0v.s, .i (wr .i64 (e0v.at_ + 1)), .i e0v.deep, u20] 4 0) :: Lr) := p25
  refine Goes.rn 1 [] J6x ?_
  obtain rfl := Option.some.inj h
  exact Goes.ret (fn := Tryd.f93) (by kernel_rfl) (v := (ag (U4 y33.set_ [.int .u8 y33.b, .bool y33.single]))) (results_n1 (fn := Tryd.f93) (a := .cell 2 127) (by kernel_rfl) (resV_cell ⟨gx2, 0, none⟩ (by kernel_rfl) (run_loadN (U4 y33.set_ [.int .u8 y33.b, .bool y33.single]) (by kernel_rfl) (by kernel_rfl) (p25.pa 0 0)))) ⟨S24, u20, rfl, (((hx.trans z23).trans z24).trans z25), p25.drop, u4k, (u21.ext ((z23.trans z24).trans z25))⟩

def Q5m := sub [1] B93
def J6z : List Item := [.code Q5m]
def Q5n := sub [0] B93
def J70 : List Item := .inRegion (opsOf Q5n) [0] :: J6z
def Q5o := sub [1, 1] B93
def J71 : List Item := [.code Q5o]
def Q5p := sub [1, 0] B93
def J72 : List Item := .inRegion (opsOf Q5p) [1, 2] :: J71
def Q5q := sub [1, 1, 1] B93
def J73 : List Item := [.code Q5q]
def Q5r := sub [1, 1, 0, 1] B93
def J74 : List Item := .code Q5r :: J73
def Q5s := sub [1, 1, 0, 0] B93
def J75 : List Item := .inRegion (opsOf Q5s) [1, 2, 3, 4, 5, 6, 7] :: J74
def J76 : List Item := .inRegion (opsOf Q5s) [5, 6, 7] :: J74
def Q5t := sub [1, 1, 0, 1, 1] B93
def J77 : List Item := .code Q5t :: J73
def Q5u := sub [1, 1, 0, 1, 1, 0, 1] B93
def J78 : List Item := .code Q5u :: J73
def Q5v := sub [1, 1, 0, 1, 1, 0, 0] B93
def J79 : List Item := .inRegion (opsOf Q5v) [3, 4, 5, 6, 7] :: J78
def J7a : List Item := .inRegion (opsOf Q5v) [7] :: J78
def Q5w := sub [1, 1, 0, 1, 1, 0, 1, 1] B93
def J7b : List Item := .code Q5w :: J73
def Q5x := sub [1, 1, 0, 1, 1, 0, 1, 0] B93
def J7c : List Item := .inRegion (opsOf Q5x) [0, 1, 2] :: J7b
def J7d : List Item := .inRegion (opsOf Q5x) [2] :: J7b
def Q5y := sub [1, 1, 1, 0, 0, 1] B93
def J7e : List Item := .code Q5y :: J6o
def Q5z := sub [1, 1, 1, 0, 0, 1, 0, 1] B93
def J7f : List Item := .code Q5z :: J6o
def Q60 := sub [1, 1, 1, 0, 0, 1, 0, 0] B93
def J7g : List Item := .inRegion (opsOf Q60) [3, 4, 5, 6, 7] :: J7f
def J7h : List Item := .inRegion (opsOf Q60) [7] :: J7f
def Q61 := sub [1, 1, 1, 0, 0, 1, 0, 1, 1] B93
def J7i : List Item := .code Q61 :: J6o
def Q62 := sub [1, 1, 1, 0, 0, 1, 0, 1, 0] B93
def J7j : List Item := .inRegion (opsOf Q62) [1, 2] :: J7i
def Q63 := sub [1, 1, 1, 0, 0, 1, 0, 1, 1, 1] B93
def J7k : List Item := .code Q63 :: J6o
def Q64 := sub [1, 1, 1, 0, 0, 1, 0, 1, 1, 0] B93
def J7l : List Item := .inRegion (opsOf Q64) [1, 2] :: J7k
def Q65 := sub [1, 1, 1, 0, 0, 1, 0, 1, 1, 1, 1] B93
def J7m : List Item := .code Q65 :: J6o
def Q66 := sub [1, 1, 1, 0, 0, 1, 0, 1, 1, 1, 0] B93
def J7n : List Item := .inRegion (opsOf Q66) [4, 5] :: J7m
def Q67 := sub [1, 1, 1, 0, 0, 1, 1, 1] B93
def J7o : List Item := .code Q67 :: J6o
def Q68 := sub [1, 1, 1, 0, 0, 1, 1, 1, 0, 1] B93
def J7p : List Item := .code Q68 :: J6o
def Q69 := sub [1, 1, 1, 0, 0, 1, 1, 1, 0, 0] B93
def J7q : List Item := .inRegion (opsOf Q69) [3, 4, 5, 6, 7] :: J7p
def J7r : List Item := .inRegion (opsOf Q69) [7] :: J7p
def Q6a := sub [1, 1, 1, 0, 0, 1, 1, 1, 0, 1, 1] B93
def J7s : List Item := .code Q6a :: J6o
def Q6b := sub [1, 1, 1, 0, 0, 1, 1, 1, 0, 1, 0] B93
def J7t : List Item := .inRegion (opsOf Q6b) [0, 1] :: J7s
def Q6c := sub [1, 1, 1, 0, 0, 1, 1, 1, 1, 1] B93
def J7u : List Item := .code Q6c :: J6o
def Q6d := sub [1, 1, 1, 0, 0, 1, 1, 1, 1, 1, 0, 1] B93
def J7v : List Item := .code Q6d :: J6o
def Q6e := sub [1, 1, 1, 0, 0, 1, 1, 1, 1, 1, 0, 0] B93
def J7w : List Item := .inRegion (opsOf Q6e) [3, 4, 5, 6, 7] :: J7v
def J7x : List Item := .inRegion (opsOf Q6e) [7] :: J7v
def Q6f := sub [1, 1, 1, 0, 0, 1, 1, 1, 1, 1, 0, 1, 1] B93
def J7y : List Item := .code Q6f :: J6o
def Q6g := sub [1, 1, 1, 0, 0, 1, 1, 1, 1, 1, 0, 1, 0] B93
def J7z : List Item := .inRegion (opsOf Q6g) [0, 1] :: J7y
def Q6h := sub [1, 1, 1, 0, 0, 1, 1, 1, 1, 1, 1, 0] B93
def J80 : List Item := .inRegion (opsOf Q6h) [3, 4, 5, 6, 7] :: J6p
def J81 : List Item := .inRegion (opsOf Q6h) [4, 5, 6, 7] :: J6p

theorem W.z17 (x0v : T68) (r : T126 × T68) (h : M.syntax_parser_escape x0v = some r) {nz wz S0 w0 Lr} [Gw nz wz] (gx0 u22) (p0 : Hp nz wz S0 w0 ((some gx0, .row 69 [.string x0v.s, .i x0v.at_, .i x0v.deep, u22] 4 0) :: Lr)) (u23 : PtO kT72 S0 w0 u22 x0v.bad) :
  Calls Tryd.prog 93 #[(pt gx0 0)] w0 (Rets (Post.z17 nz wz S0 w0 Lr gx0 r)) := by
 refine calls_of_goes (fn := Tryd.f93) (c := B93) (by kernel_rfl) (by kernel_rfl) 89 (by kernel_rfl) ?_
 refine Goes.jp 90 [(0, (pt gx0 0))] (fun junk => ?_)
 delta M.syntax_parser_escape at h
 refine Goes.rn 2 [] J70 ?_
 refine Op_.alloc 127 2 0 (.agg #[.u 0, .u 0, .u 0, .u 0, .int .u8 0, .bool false]) [.u 0, .u 0, .u 0, .u 0, .int .u8 0, .bool false] p0 Goes.v (by kernel_rfl) (by kernel_rfl) ?_
 intro b2 w2 z2 p2
 refine Goes.rn 4 [(8, (pt gx0 0))] J72 ?_
 have p2 := p2.fr 1
 refine bind_some' h fun y4 e5 h => ?_
 refine Goes.cal (kc 65 [8] #[66]) 9 5 65 _ (W.zn x0v y4 e5 gx0 u22 p2 (u23.ext z2)) ?_
 rintro _ w3 ⟨S3, u4l, rfl, z3, p3, u4m⟩
 refine Goes.rn 6 [(3, .int .u8 y4.1), (11, .int .u8 y4.1)] J75 ?_
 refine bind_some' h fun y6 e7 h => ?_
 refine Goes.cal (kc 103 [11] #[5]) 12 142 103 _ (W.z12 y4.1 y6 e7  p3 ) ?_
 rintro _ w4 ⟨S4, u4n, rfl, z4, p4, u4o, u4p⟩
 refine Goes.rn 3 [(10, .tuple #[.agg u4n.toArray, .bool y6.2]), (13, .agg u4n.toArray), (14, .bool y6.2)] J76 ?_
 refine Op_.alloc 25 4 0 (.agg #[.u 0, .u 0, .u 0, .u 0]) [.u 0, .u 0, .u 0, .u 0] p4 Goes.v (by kernel_rfl) (by kernel_rfl) ?_
 intro b8 w5 z5 p5
 have f10 : Els (kInt .u64) S4 w5 ([.u 0, .u 0, .u 0, .u 0] : List Value) [0, 0, 0, 0] := (Els.cons (K := (kInt .u64)) (vs := [.u 0]) (x := 0) rfl (Els.cons (K := (kInt .u64)) (vs := [.u 0]) (x := 0) rfl (Els.cons (K := (kInt .u64)) (vs := [.u 0]) (x := 0) rfl (Els.cons (K := (kInt .u64)) (vs := [.u 0]) (x := 0) rfl Els.nil))))
 refine Op_.stA 25 (.tmp 4) (.tmp 13) 0 0 b8 4 u4n p5 rfl rfl Goes.s (by kernel_rfl) (by kernel_rfl) (by kernel_rfl) u4p (Els.one (u4o.ext z5)) ?_
 intro w6 z6 p6
 refine Goes.rn 6 [(5, .bool y6.2), (15, .bool y6.2)] J77 ?_
 refine ite_some h (fun h11 h => ?_) (fun h11 h => ?_)
 ·
  rw [h11]
  refine Goes.rn 6 [(16, (pt gx0 0)), (17, (pt gx0 0)), (18, (pt gx0 1))] J79 ?_
  refine Goes.ld 3 (.tmp 18) 19 3 ⟨gx0, 1, none⟩ (.i y4.2.at_) (p6.c 1 1) ?_
  refine Goes.rn 3 [(20, .i (wr .i64 (y4.2.at_ + 1))), (21, (pt gx0 0)), (22, (pt gx0 1))] J7a ?_
  refine Op_.st 3 (.tmp 22) (.tmp 20) 0 1 gx0 1 (.i (wr .i64 (y4.2.at_ + 1))) [.i (wr .i64 (y4.2.at_ + 1))] p6 rfl Goes.s (by kernel_rfl) (by kernel_rfl) (by kernel_rfl) (by kernel_rfl) (Nat.zero_le _) (by simp only [List.length_cons, List.length_nil]; omega) (by simp [Value.oneCell']) ?_
  intro w7 z7 p7
  have p7 : Hp nz wz S4 w7 ((some b8, .row 25 u4n 4 0) :: (some gx0, .row 69 [.string y4.2.s, .i (wr .i64 (y4.2.at_ + 1)), .i y4.2.deep, u4l] 4 0) :: (some b2, .row 127 [.u 0, .u 0, .u 0, .u 0, .int .u8 0, .bool false] 6 0) :: Lr) := p7
  refine Goes.rn 3 [] J7c ?_
  refine Op_.ldN 25 (.tmp 4) 23 25 ⟨b8, 0, none⟩ u4n Goes.v (by kernel_rfl) (by kernel_rfl) (by rw [u4p]; kernel_rfl) (At_all (p7.mem 0 rfl)) ?_
  have l12 := Els.len1 (u4o.ext ((z5.trans z6).trans z7)) u4p rfl
  obtain rfl := els_lit4 (u4o.ext ((z5.trans z6).trans z7)) u4p
  refine Goes.rn 1 [(24, (ag (U4 y6.1 [.int .u8 0, .bool false])))] J7d ?_
  refine Op_.st 127 (.tmp 2) (.tmp 24) 0 2 b2 0 (ag (U4 y6.1 [.int .u8 0, .bool false])) (U4 y6.1 [.int .u8 0, .bool false]) p7 rfl Goes.s (by kernel_rfl) (by kernel_rfl) (by kernel_rfl) (by kernel_rfl) (Nat.zero_le _) (by simp only [List.length_cons, List.length_nil]; omega) (by simp [Value.oneCell']) ?_
  intro w8 z8 p8
  have p8 : Hp nz wz S4 w8 ((some b8, .row 25 ((U4 y6.1 []) : List Value) 4 0) :: (some gx0, .row 69 [.string y4.2.s, .i (wr .i64 (y4.2.at_ + 1)), .i y4.2.deep, u4l] 4 0) :: (some b2, .row 127 (U4 y6.1 [.int .u8 0, .bool false]) 6 0) :: Lr) := p8
  refine Goes.rn 1 [] J7b ?_
  obtain rfl := Option.some.inj h
  have p8 := p8.dp 0
  have p8 := (p8.fr 0).fr 1
  exact Goes.ret (fn := Tryd.f93) (by kernel_rfl) (v := (ag (U4 y6.1 [.int .u8 0, .bool false]))) (results_n1 (fn := Tryd.f93) (a := .cell 2 127) (by kernel_rfl) (resV_cell ⟨b2, 0, none⟩ (by kernel_rfl) (run_loadN (U4 y6.1 [.int .u8 0, .bool false]) (by kernel_rfl) (by kernel_rfl) (p8.pa 0 0)))) ⟨S4, u4l, rfl, ((((((((Ext.refl S0 w0).trans z2).trans z3).trans z4).trans z5).trans z6).trans z7).trans z8), p8.drop, l12, (u4m.ext ((((z4.trans z5).trans z6).trans z7).trans z8))⟩
 ·
  have u1f : y6.2 = false := by simpa using h11
  rw [u1f]
  refine Goes.rn 10 [(26, .int .u8 y4.1), (27, .bool (decide (y4.1 = 120))), (25, .bool (decide (y4.1 = 120)))] J7e ?_
  refine ite_some h (fun h13 h => ?_) (fun h13 h => ?_)
  ·
   rw [decide_eq_true h13]
   refine Goes.rn 6 [(28, (pt gx0 0)), (29, (pt gx0 0)), (30, (pt gx0 1))] J7g ?_
   refine Goes.ld 3 (.tmp 30) 31 3 ⟨gx0, 1, none⟩ (.i y4.2.at_) (p6.c 1 1) ?_
   refine Goes.rn 3 [(32, .i (wr .i64 (y4.2.at_ + 1))), (33, (pt gx0 0)), (34, (pt gx0 1))] J7h ?_
   refine Op_.st 3 (.tmp 34) (.tmp 32) 0 1 gx0 1 (.i (wr .i64 (y4.2.at_ + 1))) [.i (wr .i64 (y4.2.at_ + 1))] p6 rfl Goes.s (by kernel_rfl) (by kernel_rfl) (by kernel_rfl) (by kernel_rfl) (Nat.zero_le _) (by simp only [List.length_cons, List.length_nil]; omega) (by simp [Value.oneCell']) ?_
   intro w9 z9 p9
   have p9 : Hp nz wz S4 w9 ((some b8, .row 25 u4n 4 0) :: (some gx0, .row 69 [.string y4.2.s, .i (wr .i64 (y4.2.at_ + 1)), .i y4.2.deep, u4l] 4 0) :: (some b2, .row 127 [.u 0, .u 0, .u 0, .u 0, .int .u8 0, .bool false] 6 0) :: Lr) := p9
   refine Goes.rn 4 [(35, (pt gx0 0))] J7j ?_
   have p9 := p9.fr 1
   refine bind_some' h fun y14 e15 h => ?_
   refine Goes.cal (kc 104 [35] #[66]) 36 5 104 _ (W.z15 (⟨y4.2.s, wr .i64 (y4.2.at_ + 1), y4.2.deep, y4.2.bad⟩ : T68) y14 e15 gx0 u4l p9 (u4m.ext (((z4.trans z5).trans z6).trans z9))) ?_
   rintro _ w10 ⟨S10, u4q, rfl, z10, p10, u4r⟩
   have p10 := p10.dp 1
   refine Goes.rn 5 [(6, .int .u8 y14.1), (37, (pt gx0 0))] J7l ?_
   refine bind_some' h fun y16 e17 h => ?_
   refine Goes.cal (kc 104 [37] #[66]) 38 5 104 _ (W.z15 y14.2 y16 e17 gx0 u4q p10 u4r) ?_
   rintro _ w11 ⟨S11, u4s, rfl, z11, p11, u4t⟩
   refine Goes.rn 8 [(7, .int .u8 y16.1), (39, .int .u8 y14.1), (40, .int .u8 (ishl .u8 y14.1 4)), (41, .int .u8 y16.1), (42, .int .u8 (ior .u8 (ishl .u8 y14.1 4) y16.1))] J7n ?_
   refine bind_some' h fun y18 e19 h => ?_
   refine Goes.cal (kc 105 [42] #[5]) 43 127 105 _ (W.z16 (ior .u8 (ishl .u8 y14.1 4) y16.1) y18 e19  p11 ) ?_
   rintro _ w12 ⟨S12, rfl, z12, p12, u4u⟩
   refine Op_.st 127 (.tmp 2) (.tmp 43) 0 1 b2 0 (ag (U4 y18.set_ [.int .u8 y18.b, .bool y18.single])) (U4 y18.set_ [.int .u8 y18.b, .bool y18.single]) p12 rfl Goes.s (by kernel_rfl) (by kernel_rfl) (by kernel_rfl) (by kernel_rfl) (Nat.zero_le _) (by simp only [List.length_cons, List.length_nil]; omega) (by simp [Value.oneCell']) ?_
   intro w13 z13 p13
   have p13 : Hp nz wz S12 w13 ((some gx0, .row 69 [.string y16.2.s, .i y16.2.at_, .i y16.2.deep, u4s] 4 0) :: (some b2, .row 127 (U4 y18.set_ [.int .u8 y18.b, .bool y18.single]) 6 0) :: Lr) := p13
   refine Goes.rn 1 [] J7m ?_
   obtain rfl := Option.some.inj h
   have p13 := (p13.fr 0).fr 1
   exact Goes.ret (fn := Tryd.f93) (by kernel_rfl) (v := (ag (U4 y18.set_ [.int .u8 y18.b, .bool y18.single]))) (results_n1 (fn := Tryd.f93) (a := .cell 2 127) (by kernel_rfl) (resV_cell ⟨b2, 0, none⟩ (by kernel_rfl) (run_loadN (U4 y18.set_ [.int .u8 y18.b, .bool y18.single]) (by kernel_rfl) (by kernel_rfl) (p13.pa 0 0)))) ⟨S12, u4s, rfl, (((((((((((Ext.refl S0 w0).trans z2).trans z3).trans z4).trans z5).trans z6).trans z9).trans z10).trans z11).trans z12).trans z13), p13.drop, u4u, (u4t.ext (z12.trans z13))⟩
  ·
   rw [decide_eq_false h13]
   refine Goes.rn 7 [(45, .int .u8 y4.1), (46, .bool (decide (y4.1 = 110))), (44, .bool (decide (y4.1 = 110)))] J7o ?_
   refine ite_some h (fun h20 h => ?_) (fun h20 h => ?_)
   ·
    rw [decide_eq_true h20]
    refine Goes.rn 6 [(47, (pt gx0 0)), (48, (pt gx0 0)), (49, (pt gx0 1))] J7q ?_
    refine Goes.ld 3 (.tmp 49) 50 3 ⟨gx0, 1, none⟩ (.i y4.2.at_) (p6.c 1 1) ?_
    refine Goes.rn 3 [(51, .i (wr .i64 (y4.2.at_ + 1))), (52, (pt gx0 0)), (53, (pt gx0 1))] J7r ?_
    refine Op_.st 3 (.tmp 53) (.tmp 51) 0 1 gx0 1 (.i (wr .i64 (y4.2.at_ + 1))) [.i (wr .i64 (y4.2.at_ + 1))] p6 rfl Goes.s (by kernel_rfl) (by kernel_rfl) (by kernel_rfl) (by kernel_rfl) (Nat.zero_le _) (by simp only [List.length_cons, List.length_nil]; omega) (by simp [Value.oneCell']) ?_
    intro w14 z14 p14
    have p14 : Hp nz wz S4 w14 ((some b8, .row 25 u4n 4 0) :: (some gx0, .row 69 [.string y4.2.s, .i (wr .i64 (y4.2.at_ + 1)), .i y4.2.deep, u4l] 4 0) :: (some b2, .row 127 [.u 0, .u 0, .u 0, .u 0, .int .u8 0, .bool false] 6 0) :: Lr) := p14
    refine Goes.rn 3 [] J7t ?_
    refine bind_some' h fun y21 e22 h => ?_
    refine Goes.cal (.call { callee := .value (.func 105), args := #[(.const (.int .u8 10))], argTypes := #[5] }) 54 127 105 _ (W.z16 10 y21 e22  p14 ) ?_
    rintro _ w15 ⟨S15, rfl, z15, p15, u4v⟩
    have p15 := p15.dp 0
    refine Op_.st 127 (.tmp 2) (.tmp 54) 0 1 b2 0 (ag (U4 y21.set_ [.int .u8 y21.b, .bool y21.single])) (U4 y21.set_ [.int .u8 y21.b, .bool y21.single]) p15 rfl Goes.s (by kernel_rfl) (by kernel_rfl) (by kernel_rfl) (by kernel_rfl) (Nat.zero_le _) (by simp only [List.length_cons, List.length_nil]; omega) (by simp [Value.oneCell']) ?_
    intro w16 z16 p16
    have p16 : Hp nz wz S15 w16 ((some gx0, .row 69 [.string y4.2.s, .i (wr .i64 (y4.2.at_ + 1)), .i y4.2.deep, u4l] 4 0) :: (some b2, .row 127 (U4 y21.set_ [.int .u8 y21.b, .bool y21.single]) 6 0) :: Lr) := p16
    refine Goes.rn 1 [] J7s ?_
    obtain rfl := Option.some.inj h
    have p16 := (p16.fr 0).fr 1
    exact Goes.ret (fn := Tryd.f93) (by kernel_rfl) (v := (ag (U4 y21.set_ [.int .u8 y21.b, .bool y21.single]))) (results_n1 (fn := Tryd.f93) (a := .cell 2 127) (by kernel_rfl) (resV_cell ⟨b2, 0, none⟩ (by kernel_rfl) (run_loadN (U4 y21.set_ [.int .u8 y21.b, .bool y21.single]) (by kernel_rfl) (by kernel_rfl) (p16.pa 0 0)))) ⟨S15, u4l, rfl, (((((((((Ext.refl S0 w0).trans z2).trans z3).trans z4).trans z5).trans z6).trans z14).trans z15).trans z16), p16.drop, u4v, (u4m.ext (((((z4.trans z5).trans z6).trans z14).trans z15).trans z16))⟩
   ·
    rw [decide_eq_false h20]
    refine Goes.rn 7 [(56, .int .u8 y4.1), (57, .bool (decide (y4.1 = 116))), (55, .bool (decide (y4.1 = 116)))] J7u ?_
    refine ite_some h (fun h23 h => ?_) (fun h23 h => ?_)
    ·
     rw [decide_eq_true h23]
     refine Goes.rn 6 [(58, (pt gx0 0)), (59, (pt gx0 0)), (60, (pt gx0 1))] J7w ?_
     refine Goes.ld 3 (.tmp 60) 61 3 ⟨gx0, 1, none⟩ (.i y4.2.at_) (p6.c 1 1) ?_
     refine Goes.rn 3 [(62, .i (wr .i64 (y4.2.at_ + 1))), (63, (pt gx0 0)), (64, (pt gx0 1))] J7x ?_
     refine Op_.st 3 (.tmp 64) (.tmp 62) 0 1 gx0 1 (.i (wr .i64 (y4.2.at_ + 1))) [.i (wr .i64 (y4.2.at_ + 1))] p6 rfl Goes.s (by kernel_rfl) (by kernel_rfl) (by kernel_rfl) (by kernel_rfl) (Nat.zero_le _) (by simp only [List.length_cons, List.length_nil]; omega) (by simp [Value.oneCell']) ?_
     intro w17 z17 p17
     have p17 : Hp nz wz S4 w17 ((some b8, .row 25 u4n 4 0) :: (some gx0, .row 69 [.string y4.2.s, .i (wr .i64 (y4.2.at_ + 1)), .i y4.2.deep, u4l] 4 0) :: (some b2, .row 127 [.u 0, .u 0, .u 0, .u 0, .int .u8 0, .bool false] 6 0) :: Lr) := p17
     refine Goes.rn 3 [] J7z ?_
     refine bind_some' h fun y24 e25 h => ?_
     refine Goes.cal (.call { callee := .value (.func 105), args := #[(.const (.int .u8 9))], argTypes := #[5] }) 65 127 105 _ (W.z16 9 y24 e25  p17 ) ?_
     rintro _ w18 ⟨S18, rfl, z18, p18, u4w⟩
     have p18 := p18.dp 0
     refine Op_.st 127 (.tmp 2) (.tmp 65) 0 1 b2 0 (ag (U4 y24.set_ [.int .u8 y24.b, .bool y24.single])) (U4 y24.set_ [.int .u8 y24.b, .bool y24.single]) p18 rfl Goes.s (by kernel_rfl) (by kernel_rfl) (by kernel_rfl) (by kernel_rfl) (Nat.zero_le _) (by simp only [List.length_cons, List.length_nil]; omega) (by simp [Value.oneCell']) ?_
     intro w19 z19 p19
     have p19 : Hp nz wz S18 w19 ((some gx0, .row 69 [.string y4.2.s, .i (wr .i64 (y4.2.at_ + 1)), .i y4.2.deep, u4l] 4 0) :: (some b2, .row 127 (U4 y24.set_ [.int .u8 y24.b, .bool y24.single]) 6 0) :: Lr) := p19
     refine Goes.rn 1 [] J7y ?_
     obtain rfl := Option.some.inj h
     have p19 := (p19.fr 0).fr 1
     exact Goes.ret (fn := Tryd.f93) (by kernel_rfl) (v := (ag (U4 y24.set_ [.int .u8 y24.b, .bool y24.single]))) (results_n1 (fn := Tryd.f93) (a := .cell 2 127) (by kernel_rfl) (resV_cell ⟨b2, 0, none⟩ (by kernel_rfl) (run_loadN (U4 y24.set_ [.int .u8 y24.b, .bool y24.single]) (by kernel_rfl) (by kernel_rfl) (p19.pa 0 0)))) ⟨S18, u4l, rfl, (((((((((Ext.refl S0 w0).trans z2).trans z3).trans z4).trans z5).trans z6).trans z17).trans z18).trans z19), p19.drop, u4w, (u4m.ext (((((z4.trans z5).trans z6).trans z17).trans z18).trans z19))⟩
    ·
     rw [decide_eq_false h23]
     refine Goes.rn 6 [(67, .int .u8 y4.1), (68, .bool (decide (y4.1 = 0))), (69, .bool (decide (y4.1 = 0)))] J80 ?_
     refine ite_some h (fun h26 h => ?_) (fun h26 h => ?_)
     ·
      rw [decide_eq_true h26]
      refine Goes.rn 6 [(70, undef), (71, undef), (72, undef), (73, .bool true), (66, .bool true)] J6p ?_
      have p6 := p6.dp 0
      have p6 := (p6.fr 0).fr 1
      exact Goes.jp 90 [(0, (pt gx0 0)), (2, (pt b2 0)), (3, .int .u8 y4.1), (66, .bool true)] (W.z18 gx0 _ _ h _ _ ((((((Ext.refl S0 w0).trans z2).trans z3).trans z4).trans z5).trans z6) b2 u4l p6 rfl (u4m.ext ((z4.trans z5).trans z6)))
     ·
      rw [decide_eq_false h26]
      refine Goes.rn 1 [(70, .int .u8 y4.1)] J81 ?_
      refine bind_some' h fun y28 e29 h => ?_
      refine Goes.cal (.call { callee := .value (.func 45), args := #[(.const (.string ⟨#[92, 46, 91, 93, 40, 41, 42, 43, 63, 123, 125, 94, 36, 45, 47, 124]⟩)), (.tmp 70)], argTypes := #[9, 5] }) 71 3 45 _ (W.z1 (⟨#[92, 46, 91, 93, 40, 41, 42, 43, 63, 123, 125, 94, 36, 45, 47, 124]⟩ : ByteArray) y4.1 y28 e29  p6 ) ?_
      rintro _ w20 ⟨S20, rfl, z20, p20⟩
      have p20 := p20.dp 0
      refine Goes.rn 4 [(72, .bool (decide (y28 < 0))), (73, .bool (decide (y28 < 0))), (66, .bool (decide (y28 < 0)))] J6p ?_
      have p20 := (p20.fr 0).fr 1
      exact Goes.jp 90 [(0, (pt gx0 0)), (2, (pt b2 0)), (3, .int .u8 y4.1), (66, .bool (decide (y28 < 0)))] (W.z18 gx0 _ _ h _ _ (((((((Ext.refl S0 w0).trans z2).trans z3).trans z4).trans z5).trans z6).trans z20) b2 u4l p20 rfl (u4m.ext (((z4.trans z5).trans z6).trans z20)))

end

end Go.Gx
