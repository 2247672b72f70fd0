import Derived.Test.YtemokppdnkiejaaDoorWMkd

set_option linter.unusedVariables false

set_option maxRecDepth 100000

set_option maxHeartbeats 4000000

namespace Go.Gx

open Go.RowKit Go.Proofs

variable (nz : Nat) (wz : World) (S0 : Fz) (w0 : World) (Lr : List Ent)

noncomputable section

def Qkl := sub [1, 1, 1] B47
def Jqn : List Item := [.code Qkl]
def Jqo : List Item := .inBlock 0 :: Jqn
def Qkm := sub [1, 1, 0, 0, 0] B47
def Jqp : List Item := .inLoop Qkm :: Jqo
def Jqq : List Item := .code Qkm :: Jqp
def Qkn := sub [1, 1, 0, 0, 0, 1] B47
def Jqr : List Item := .code Qkn :: Jqp
def Qko := sub [1, 1, 0, 0, 0, 0, 1] B47
def Jqs : List Item := .code Qko :: Jqr
def Qkp := sub [1, 1, 1] B78
def Jqt : List Item := [.code Qkp]
def Jqu : List Item := .inBlock 0 :: Jqt
def Qkq := sub [1, 1, 0, 0, 1] B78
def Jqv : List Item := .code Qkq :: Jqu
def Qkr := sub [1, 1, 0, 0, 1, 1, 1] B78
def Jqw : List Item := .code Qkr :: Jqu
def Qks := sub [1, 1] B92
def Jqx : List Item := [.code Qks]
def Qkt := sub [1, 1, 1] B30
def Jqy : List Item := [.code Qkt]
def Jqz : List Item := .inBlock 0 :: Jqy
def Qku := sub [1, 1, 0, 0, 0] B30
def Jr0 : List Item := .inLoop Qku :: Jqz
def Jr1 : List Item := .code Qku :: Jr0
def Qkv := sub [1] B30
def Jr2 : List Item := [.code Qkv]
def Qkw := sub [0] B30
def Jr3 : List Item := .inRegion (opsOf Qkw) [0] :: Jr2
def Qkx := sub [1, 1] B30
def Jr4 : List Item := [.code Qkx]
def Qky := sub [1, 0] B30
def Jr5 : List Item := .inRegion (opsOf Qky) [1, 2, 3] :: Jr4
def Qkz := sub [1, 1, 0, 0, 0, 1] B30
def Jr6 : List Item := .code Qkz :: Jr0
def Ql0 := sub [1, 1, 0, 0, 0, 0, 1] B30
def Jr7 : List Item := .code Ql0 :: Jr6
def Ql1 := sub [1, 1, 0, 0, 0, 0, 0] B30
def Jr8 : List Item := .inRegion (opsOf Ql1) [1] :: Jr7
def Jr9 : List Item := .inBlock 1 :: Jr0
def Ql2 := sub [1, 1, 0, 0, 0, 1, 0] B30
def Jra : List Item := .inRegion (opsOf Ql2) [2, 3, 4, 5] :: Jr9
def Ql3 := sub [1, 1, 1, 1] B30
def Jrb : List Item := [.code Ql3]
def Ql4 := sub [1, 1, 1, 0] B30
def Jrc : List Item := .inRegion (opsOf Ql4) [1, 2] :: Jrb
def Ql5 := sub [1] B47
def Jrd : List Item := [.code Ql5]
def Ql6 := sub [0] B47
def Jre : List Item := .inRegion (opsOf Ql6) [0] :: Jrd
def Ql7 := sub [1, 1, 0, 0, 0, 0, 0] B47
def Jrf : List Item := .code Ql7 :: Jqs
def Jrg : List Item := .inBlock 1 :: Jqp
def Ql8 := sub [1, 1, 0, 0, 0, 1, 0] B47
def Jrh : List Item := .inRegion (opsOf Ql8) [2, 3, 4, 5] :: Jrg
def Ql9 := sub [1, 1, 1, 1] B47
def Jri : List Item := [.code Ql9]
def Qla := sub [1, 1, 1, 0] B47
def Jrj : List Item := .inRegion (opsOf Qla) [1, 2] :: Jri
def Qlb := sub [1] B66
def Jrk : List Item := [.code Qlb]
def Qlc := sub [0] B66
def Jrl : List Item := .inRegion (opsOf Qlc) [0] :: Jrk
def Qld := sub [1, 1] B66
def Jrm : List Item := [.code Qld]
def Qle := sub [1, 0] B66
def Jrn : List Item := .inRegion (opsOf Qle) [1, 2, 3] :: Jrm
def Qlf := sub [1, 1, 1, 1] B66
def Jro : List Item := [.code Qlf]
def Qlg := sub [1, 1, 1, 0, 1] B66
def Jrp : List Item := .code Qlg :: Jro
def Qlh := sub [1, 1, 1, 0, 0] B66
def Jrq : List Item := .inRegion (opsOf Qlh) [3, 4] :: Jrp
def Jrr : List Item := .inBlock 0 :: Jro
def Qli := sub [1, 1, 1, 0, 1, 0, 1] B66
def Jrs : List Item := .code Qli :: Jrr
def Qlj := sub [1, 1, 1, 0, 1, 0, 0] B66
def Jrt : List Item := .inRegion (opsOf Qlj) [1, 2] :: Jrs
def Qlk := sub [1, 1, 1, 1, 1] B66
def Jru : List Item := [.code Qlk]
def Qll := sub [1, 1, 1, 1, 0] B66
def Jrv : List Item := .inRegion (opsOf Qll) [0, 1, 2, 3, 4, 5] :: Jru
def Jrw : List Item := .inRegion (opsOf Qll) [5] :: Jru
def Qlm := sub [1, 1, 1, 0, 1, 0, 1, 1, 1] B66
def Jrx : List Item := .code Qlm :: Jrr
def Qln := sub [1, 1, 1, 0, 1, 0, 1, 1, 0] B66
def Jry : List Item := .inRegion (opsOf Qln) [1, 2] :: Jrx
def Qlo := sub [1, 1, 1, 0, 1, 0, 1, 1, 1, 1, 1] B66
def Jrz : List Item := .code Qlo :: Jrr
def Qlp := sub [1, 1, 1, 0, 1, 0, 1, 1, 1, 1, 0] B66
def Js0 : List Item := .inRegion (opsOf Qlp) [1, 2] :: Jrz
def Qlq := sub [1, 1, 1, 0, 1, 0, 1, 1, 1, 1, 1, 1, 1] B66
def Js1 : List Item := .code Qlq :: Jrr
def Qlr := sub [1, 1, 1, 0, 1, 0, 1, 1, 1, 1, 1, 1, 0] B66
def Js2 : List Item := .inRegion (opsOf Qlr) [1, 2] :: Js1
def Qls := sub [1, 1, 1, 0, 1, 0, 1, 1, 1, 1, 1, 1, 1, 0] B66
def Js3 : List Item := .inRegion (opsOf Qls) [2, 3, 4, 5, 6, 7] :: Jrr
def Qlt := sub [1, 1, 1, 0, 1, 0, 1, 1, 1, 1, 1, 1, 1, 1, 1] B66
def Js4 : List Item := .code Qlt :: Jrr
def Qlu := sub [1, 1, 1, 0, 1, 0, 1, 1, 1, 1, 1, 1, 1, 1, 0] B66
def Js5 : List Item := .inRegion (opsOf Qlu) [0, 1] :: Js4
def Qlv := sub [1] B78
def Js6 : List Item := [.code Qlv]
def Qlw := sub [0] B78
def Js7 : List Item := .inRegion (opsOf Qlw) [0] :: Js6
def Qlx := sub [1, 1] B78
def Js8 : List Item := [.code Qlx]
def Qly := sub [1, 0] B78
def Js9 : List Item := .inRegion (opsOf Qly) [1, 2] :: Js8
def Qlz := sub [1, 1, 0, 0, 0] B78
def Jsa : List Item := .inRegion (opsOf Qlz) [3, 4, 5, 6, 7, 8, 9, 10, 11] :: Jqv
def Jsb : List Item := .inRegion (opsOf Qlz) [7, 8, 9, 10, 11] :: Jqv
def Jsc : List Item := .inRegion (opsOf Qlz) [8, 9, 10, 11] :: Jqv
def Qm0 := sub [1, 1, 0, 0, 1, 0, 1] B78
def Jsd : List Item := .code Qm0 :: Jqu
def Qm1 := sub [1, 1, 0, 0, 1, 0, 0] B78
def Jse : List Item := .inRegion (opsOf Qm1) [4, 5, 6] :: Jsd
def Qm2 := sub [1, 1, 0, 0, 1, 1, 0] B78
def Jsf : List Item := .inRegion (opsOf Qm2) [3, 4, 5, 6, 7, 8, 9] :: Jqw
def Jsg : List Item := .inRegion (opsOf Qm2) [6, 7, 8, 9] :: Jqw
def Qm3 := sub [1, 1, 0, 0, 1, 1, 1, 0, 1] B78
def Jsh : List Item := .code Qm3 :: Jqu
def Qm4 := sub [1, 1, 0, 0, 1, 1, 1, 0, 0] B78
def Jsi : List Item := .inRegion (opsOf Qm4) [4, 5, 6] :: Jsh
def Qm5 := sub [1, 1, 0, 0, 1, 1, 1, 1, 1] B78
def Jsj : List Item := .code Qm5 :: Jqu
def Qm6 := sub [1, 1, 0, 0, 1, 1, 1, 1, 0] B78
def Jsk : List Item := .inRegion (opsOf Qm6) [1, 2] :: Jsj
def Qm7 := sub [1, 1, 0, 0, 1, 1, 1, 1, 1, 0, 1] B78
def Jsl : List Item := .code Qm7 :: Jqu
def Qm8 := sub [1, 1, 0, 0, 1, 1, 1, 1, 1, 0, 0] B78
def Jsm : List Item := .inRegion (opsOf Qm8) [0, 1, 2, 3] :: Jsl
def Jsn : List Item := .inRegion (opsOf Qm8) [3] :: Jsl
def Qm9 := sub [1, 1, 0, 0, 1, 1, 1, 1, 1, 1, 1] B78
def Jso : List Item := .code Qm9 :: Jqu
def Qma := sub [1, 1, 0, 0, 1, 1, 1, 1, 1, 1, 0] B78
def Jsp : List Item := .inRegion (opsOf Qma) [1, 2] :: Jso
def Qmb := sub [1, 1, 0, 0, 1, 1, 1, 1, 1, 1, 1, 0, 1] B78
def Jsq : List Item := .code Qmb :: Jqu
def Qmc := sub [1, 1, 0, 0, 1, 1, 1, 1, 1, 1, 1, 0, 0] B78
def Jsr : List Item := .inRegion (opsOf Qmc) [1, 2] :: Jsq
def Qmd := sub [1, 1, 0, 0, 1, 1, 1, 1, 1, 1, 1, 1, 1] B78
def Jss : List Item := .code Qmd :: Jqu
def Qme := sub [1, 1, 0, 0, 1, 1, 1, 1, 1, 1, 1, 1, 0] B78
def Jst : List Item := .inRegion (opsOf Qme) [1, 2] :: Jss
def Qmf := sub [1, 1, 0, 0, 1, 1, 1, 1, 1, 1, 1, 1, 1, 0, 1] B78
def Jsu : List Item := .code Qmf :: Jqu
def Qmg := sub [1, 1, 0, 0, 1, 1, 1, 1, 1, 1, 1, 1, 1, 0, 0] B78
def Jsv : List Item := .inRegion (opsOf Qmg) [1, 2] :: Jsu
def Qmh := sub [1, 1, 0, 0, 1, 1, 1, 1, 1, 1, 1, 1, 1, 1, 1] B78
def Jsw : List Item := .code Qmh :: Jqu
def Qmi := sub [1, 1, 0, 0, 1, 1, 1, 1, 1, 1, 1, 1, 1, 1, 0] B78
def Jsx : List Item := .inRegion (opsOf Qmi) [1, 2] :: Jsw
def Qmj := sub [1, 1, 0, 0, 1, 1, 1, 1, 1, 1, 1, 1, 1, 1, 1, 0, 1] B78
def Jsy : List Item := .code Qmj :: Jqu
def Qmk := sub [1, 1, 0, 0, 1, 1, 1, 1, 1, 1, 1, 1, 1, 1, 1, 0, 0] B78
def Jsz : List Item := .inRegion (opsOf Qmk) [1, 2, 3, 4] :: Jsy
def Jt0 : List Item := .inRegion (opsOf Qmk) [4] :: Jsy
def Qml := sub [1, 1, 1, 1] B78
def Jt1 : List Item := [.code Qml]
def Qmm := sub [1, 1, 1, 0] B78
def Jt2 : List Item := .inRegion (opsOf Qmm) [3, 4, 5, 6, 7] :: Jt1
def Jt3 : List Item := .inRegion (opsOf Qmm) [7] :: Jt1
def Qmn := sub [1, 1, 1, 1, 1] B78
def Jt4 : List Item := [.code Qmn]
def Qmo := sub [1, 1, 1, 1, 0] B78
def Jt5 : List Item := .inRegion (opsOf Qmo) [1, 2, 3] :: Jt4
def Jt6 : List Item := .inRegion (opsOf Qmo) [3] :: Jt4
def Qmp := sub [1] B92
def Jt7 : List Item := [.code Qmp]
def Qmq := sub [0] B92
def Jt8 : List Item := .inRegion (opsOf Qmq) [0] :: Jt7
def Qmr := sub [1, 0, 1] B92
def Jt9 : List Item := .code Qmr :: Jqx
def Qms := sub [1, 0, 0] B92
def Jta : List Item := .inRegion (opsOf Qms) [1] :: Jt9
def Qmt := sub [1, 0, 1, 0] B92
def Jtb : List Item := .inRegion (opsOf Qmt) [1] :: Jqx
def Qmu := sub [1, 1, 1] B92
def Jtc : List Item := [.code Qmu]
def Qmv := sub [1, 1, 0] B92
def Jtd : List Item := .inRegion (opsOf Qmv) [3, 4, 5, 6, 7] :: Jtc
def Jte : List Item := .inRegion (opsOf Qmv) [7] :: Jtc
def Qmw := sub [1, 1, 1, 1] B92
def Jtf : List Item := [.code Qmw]
def Qmx := sub [1, 1, 1, 0] B92
def Jtg : List Item := .inRegion (opsOf Qmx) [1, 2, 3] :: Jtf
def Qmy := sub [1, 1, 1, 1, 1] B92
def Jth : List Item := [.code Qmy]
def Qmz := sub [1, 1, 1, 1, 0] B92
def Jti : List Item := .inRegion (opsOf Qmz) [3, 4, 5, 6, 7] :: Jth
def Jtj : List Item := .inRegion (opsOf Qmz) [7] :: Jth
def Qn0 := sub [1, 1, 1, 1, 1, 1] B92
def Jtk : List Item := [.code Qn0]
def Qn1 := sub [1, 1, 1, 1, 1, 0] B92
def Jtl : List Item := .inRegion (opsOf Qn1) [1] :: Jtk
def Qn2 := sub [1, 1, 1, 1, 1, 1, 1] B92
def Jtm : List Item := [.code Qn2]
def Qn3 := sub [1, 1, 1, 1, 1, 1, 0] B92
def Jtn : List Item := .inRegion (opsOf Qn3) [0, 1] :: Jtm

def Post.z3j (gx0 : Nat) (r : T27 × T68) (v : Value) (w' : World) : Prop :=
 ∃ S' udw u1 u2 uds, v = (ag (.i r.1.Kind :: U4 r.1.Set [.slice udw u1 u2, .i r.1.Min, .i r.1.Max])) ∧ Ext S0 w0 S' w' ∧ Hp nz wz S' w' ((some gx0, .row 69 [.string r.2.s, .i r.2.at_, .i r.2.deep, uds] 4 0) :: Lr) ∧ r.1.Set.length = 4 ∧ Rd kT27 S' w' udw u2 r.1.L ∧ r.1.L.length = u1 ∧ PtO kT72 S' w' uds r.2.bad

def Post.z3k (gx0 : Nat) (r : T27 × T68) (v : Value) (w' : World) : Prop :=
 ∃ S' udw u1 u2 uds, v = (ag (.i r.1.Kind :: U4 r.1.Set [.slice udw u1 u2, .i r.1.Min, .i r.1.Max])) ∧ Ext S0 w0 S' w' ∧ Hp nz wz S' w' ((some gx0, .row 69 [.string r.2.s, .i r.2.at_, .i r.2.deep, uds] 4 0) :: Lr) ∧ r.1.Set.length = 4 ∧ Rd kT27 S' w' udw u2 r.1.L ∧ r.1.L.length = u1 ∧ PtO kT72 S' w' uds r.2.bad

def Post.z3l (gx0 : Nat) (r : T27 × T68) (v : Value) (w' : World) : Prop :=
 ∃ S' udw u1 u2 uds, v = (ag (.i r.1.Kind :: U4 r.1.Set [.slice udw u1 u2, .i r.1.Min, .i r.1.Max])) ∧ Ext S0 w0 S' w' ∧ Hp nz wz S' w' ((some gx0, .row 69 [.string r.2.s, .i r.2.at_, .i r.2.deep, uds] 4 0) :: Lr) ∧ r.1.Set.length = 4 ∧ Rd kT27 S' w' udw u2 r.1.L ∧ r.1.L.length = u1 ∧ PtO kT72 S' w' uds r.2.bad

def Post.z3m (gx0 : Nat) (r : T27 × T68) (v : Value) (w' : World) : Prop :=
 ∃ S' udw u1 u2 uds, v = (ag (.i r.1.Kind :: U4 r.1.Set [.slice udw u1 u2, .i r.1.Min, .i r.1.Max])) ∧ Ext S0 w0 S' w' ∧ Hp nz wz S' w' ((some gx0, .row 69 [.string r.2.s, .i r.2.at_, .i r.2.deep, uds] 4 0) :: Lr) ∧ r.1.Set.length = 4 ∧ Rd kT27 S' w' udw u2 r.1.L ∧ r.1.L.length = u1 ∧ PtO kT72 S' w' uds r.2.bad

def Post.z3n (gx0 : Nat) (r : T27 × T68) (v : Value) (w' : World) : Prop :=
 ∃ S' udw u1 u2 uds, v = (ag (.i r.1.Kind :: U4 r.1.Set [.slice udw u1 u2, .i r.1.Min, .i r.1.Max])) ∧ Ext S0 w0 S' w' ∧ Hp nz wz S' w' ((some gx0, .row 69 [.string r.2.s, .i r.2.at_, .i r.2.deep, uds] 4 0) :: Lr) ∧ r.1.Set.length = 4 ∧ Rd kT27 S' w' udw u2 r.1.L ∧ r.1.L.length = u1 ∧ PtO kT72 S' w' uds r.2.bad

def LF.z3j : T68 → (T27 × T68) → Prop := fun x0v r => ∀ {nz wz S0 w0 Lr} [Gw nz wz] gx0 udu (_ : Hp nz wz S0 w0 ((some gx0, .row 69 [.string x0v.s, .i x0v.at_, .i x0v.deep, udu] 4 0) :: Lr)) (_ : PtO kT72 S0 w0 udu x0v.bad),
 Calls Tryd.prog 30 #[(pt gx0 0)] w0 (Rets (Post.z3j nz wz S0 w0 Lr gx0 r))

def LF.z3k : T68 → (T27 × T68) → Prop := fun x0v r => ∀ {nz wz S0 w0 Lr} [Gw nz wz] gx0 udu (_ : Hp nz wz S0 w0 ((some gx0, .row 69 [.string x0v.s, .i x0v.at_, .i x0v.deep, udu] 4 0) :: Lr)) (_ : PtO kT72 S0 w0 udu x0v.bad),
 Calls Tryd.prog 47 #[(pt gx0 0)] w0 (Rets (Post.z3k nz wz S0 w0 Lr gx0 r))

def L.z3o (gx0 : Nat) : T27 × (List T27) × T68 → (T27 × T68) → Prop := fun ⟨x2v, x3, e0v⟩ r => ∀ S1 w1, Ext S0 w0 S1 w1 → ∀ gx2 uk4 u7i u7j uk5 Gx3 nx3 cx3 uec uds (_ : Hp nz wz S1 w1 ((some gx2, .row 28 (.i x2v.Kind :: U4 x2v.Set [.slice (Gp uk4) u7i u7j, .i x2v.Min, .i x2v.Max]) 8 0) :: (uk4, .row 28 uk5 (u7j * kT27.size) 0) :: (Gx3, .row 28 uec (cx3 * kT27.size) 0) :: (some gx0, .row 69 [.string e0v.s, .i e0v.at_, .i e0v.deep, uds] 4 0) :: Lr)) (_ : x2v.Set.length = 4) (_ : Els kT27 S1 w1 uk5 x2v.L) (_ : x2v.L.length = u7i) (_ : Els kT27 S1 w1 uec x3) (_ : x3.length = nx3) (_ : PtO kT72 S1 w1 uds e0v.bad) (junk : Nat → Value),
 Goes Tryd.prog (base 47) Jqq ⟨lfr 38 [(0, (pt gx0 0)), (2, (pt gx2 0)), (3, .slice (Gp Gx3) nx3 cx3)] junk, []⟩ w1 (Done Tryd.prog 47 (Rets (Post.z3k nz wz S0 w0 Lr gx0 r)))

def LL.z3o : T27 × (List T27) × T68 → (T27 × T68) → Prop := fun a r => ∀ {nz wz S0 w0 Lr} [Gw nz wz] (gx0 : Nat), L.z3o nz wz S0 w0 Lr gx0 a r

def L.z3p (gx0 : Nat) : T27 × (List T27) × Bool × T68 → (T27 × T68) → Prop := fun ⟨x2v, x3, x30, e0v⟩ r => ∀ S1 w1, Ext S0 w0 S1 w1 → ∀ gx2 uk4 u7i u7j uk5 Gx3 nx3 cx3 uec uds (_ : Hp nz wz S1 w1 ((some gx2, .row 28 (.i x2v.Kind :: U4 x2v.Set [.slice (Gp uk4) u7i u7j, .i x2v.Min, .i x2v.Max]) 8 0) :: (uk4, .row 28 uk5 (u7j * kT27.size) 0) :: (Gx3, .row 28 uec (cx3 * kT27.size) 0) :: (some gx0, .row 69 [.string e0v.s, .i e0v.at_, .i e0v.deep, uds] 4 0) :: Lr)) (_ : x2v.Set.length = 4) (_ : Els kT27 S1 w1 uk5 x2v.L) (_ : x2v.L.length = u7i) (_ : Els kT27 S1 w1 uec x3) (_ : x3.length = nx3) (_ : PtO kT72 S1 w1 uds e0v.bad) (junk : Nat → Value),
 Goes Tryd.prog (base 47) Jqs ⟨lfr 38 [(0, (pt gx0 0)), (2, (pt gx2 0)), (3, .slice (Gp Gx3) nx3 cx3), (30, .bool x30)] junk, []⟩ w1 (Done Tryd.prog 47 (Rets (Post.z3k nz wz S0 w0 Lr gx0 r)))

def LL.z3p : T27 × (List T27) × Bool × T68 → (T27 × T68) → Prop := fun a r => ∀ {nz wz S0 w0 Lr} [Gw nz wz] (gx0 : Nat), L.z3p nz wz S0 w0 Lr gx0 a r

def LF.z3l : T68 → (T27 × T68) → Prop := fun x0v r => ∀ {nz wz S0 w0 Lr} [Gw nz wz] gx0 udu (_ : Hp nz wz S0 w0 ((some gx0, .row 69 [.string x0v.s, .i x0v.at_, .i x0v.deep, udu] 4 0) :: Lr)) (_ : PtO kT72 S0 w0 udu x0v.bad),
 Calls Tryd.prog 66 #[(pt gx0 0)] w0 (Rets (Post.z3l nz wz S0 w0 Lr gx0 r))

def LF.z3m : T68 → (T27 × T68) → Prop := fun x0v r => ∀ {nz wz S0 w0 Lr} [Gw nz wz] gx0 udu (_ : Hp nz wz S0 w0 ((some gx0, .row 69 [.string x0v.s, .i x0v.at_, .i x0v.deep, udu] 4 0) :: Lr)) (_ : PtO kT72 S0 w0 udu x0v.bad),
 Calls Tryd.prog 78 #[(pt gx0 0)] w0 (Rets (Post.z3m nz wz S0 w0 Lr gx0 r))

def L.z3q (gx0 : Nat) : T27 × Int × Bool × T68 → (T27 × T68) → Prop := fun ⟨x2v, x3, x6, e0v⟩ r => ∀ S1 w1, Ext S0 w0 S1 w1 → ∀ gx2 uk4 u7i u7j uk5 uds (_ : Hp nz wz S1 w1 ((some gx2, .row 28 (.i x2v.Kind :: U4 x2v.Set [.slice (Gp uk4) u7i u7j, .i x2v.Min, .i x2v.Max]) 8 0) :: (uk4, .row 28 uk5 (u7j * kT27.size) 0) :: (some gx0, .row 69 [.string e0v.s, .i e0v.at_, .i e0v.deep, uds] 4 0) :: Lr)) (_ : x2v.Set.length = 4) (_ : Els kT27 S1 w1 uk5 x2v.L) (_ : x2v.L.length = u7i) (_ : PtO kT72 S1 w1 uds e0v.bad) (junk : Nat → Value),
 Goes Tryd.prog (base 78) Jqv ⟨lfr 73 [(0, (pt gx0 0)), (2, (pt gx2 0)), (3, .int .u8 x3), (6, .bool x6)] junk, []⟩ w1 (Done Tryd.prog 78 (Rets (Post.z3m nz wz S0 w0 Lr gx0 r)))

def LL.z3q : T27 × Int × Bool × T68 → (T27 × T68) → Prop := fun a r => ∀ {nz wz S0 w0 Lr} [Gw nz wz] (gx0 : Nat), L.z3q nz wz S0 w0 Lr gx0 a r

def L.z3r (gx0 : Nat) : T27 × Int × Bool × T68 → (T27 × T68) → Prop := fun ⟨x2v, x3, x24, e0v⟩ r => ∀ S1 w1, Ext S0 w0 S1 w1 → ∀ gx2 uk4 u7i u7j uk5 uds (_ : Hp nz wz S1 w1 ((some gx2, .row 28 (.i x2v.Kind :: U4 x2v.Set [.slice (Gp uk4) u7i u7j, .i x2v.Min, .i x2v.Max]) 8 0) :: (uk4, .row 28 uk5 (u7j * kT27.size) 0) :: (some gx0, .row 69 [.string e0v.s, .i e0v.at_, .i e0v.deep, uds] 4 0) :: Lr)) (_ : x2v.Set.length = 4) (_ : Els kT27 S1 w1 uk5 x2v.L) (_ : x2v.L.length = u7i) (_ : PtO kT72 S1 w1 uds e0v.bad) (junk : Nat → Value),
 Goes Tryd.prog (base 78) Jqw ⟨lfr 73 [(0, (pt gx0 0)), (2, (pt gx2 0)), (3, .int .u8 x3), (24, .bool x24)] junk, []⟩ w1 (Done Tryd.prog 78 (Rets (Post.z3m nz wz S0 w0 Lr gx0 r)))

def LL.z3r : T27 × Int × Bool × T68 → (T27 × T68) → Prop := fun a r => ∀ {nz wz S0 w0 Lr} [Gw nz wz] (gx0 : Nat), L.z3r nz wz S0 w0 Lr gx0 a r

def LF.z3n : T68 → (T27 × T68) → Prop := fun x0v r => ∀ {nz wz S0 w0 Lr} [Gw nz wz] gx0 udu (_ : Hp nz wz S0 w0 ((some gx0, .row 69 [.string x0v.s, .i x0v.at_, .i x0v.deep, udu] 4 0) :: Lr)) (_ : PtO kT72 S0 w0 udu x0v.bad),
 Calls Tryd.prog 92 #[(pt gx0 0)] w0 (Rets (Post.z3n nz wz S0 w0 Lr gx0 r))

def L.z3s (gx0 : Nat) : T27 × T68 → (T27 × T68) → Prop := fun ⟨x2v, e0v⟩ r => ∀ S1 w1, Ext S0 w0 S1 w1 → ∀ gx2 uk4 u7i u7j uk5 uds (_ : Hp nz wz S1 w1 ((some gx2, .row 28 (.i x2v.Kind :: U4 x2v.Set [.slice (Gp uk4) u7i u7j, .i x2v.Min, .i x2v.Max]) 8 0) :: (uk4, .row 28 uk5 (u7j * kT27.size) 0) :: (some gx0, .row 69 [.string e0v.s, .i e0v.at_, .i e0v.deep, uds] 4 0) :: Lr)) (_ : x2v.Set.length = 4) (_ : Els kT27 S1 w1 uk5 x2v.L) (_ : x2v.L.length = u7i) (_ : PtO kT72 S1 w1 uds e0v.bad) (junk : Nat → Value),
 Goes Tryd.prog (base 92) Jqx ⟨lfr 27 [(0, (pt gx0 0)), (2, (pt gx2 0))] junk, []⟩ w1 (Done Tryd.prog 92 (Rets (Post.z3n nz wz S0 w0 Lr gx0 r)))

def LL.z3s : T27 × T68 → (T27 × T68) → Prop := fun a r => ∀ {nz wz S0 w0 Lr} [Gw nz wz] (gx0 : Nat), L.z3s nz wz S0 w0 Lr gx0 a r

def L.z3t (gx0 : Nat) : T27 × (List T27) × T68 → (T27 × T68) → Prop := fun ⟨x2v, x3, e0v⟩ r => ∀ S1 w1, Ext S0 w0 S1 w1 → ∀ gx2 uk4 u7i u7j uk5 Gx3 nx3 cx3 uec uds (_ : Hp nz wz S1 w1 ((some gx2, .row 28 (.i x2v.Kind :: U4 x2v.Set [.slice (Gp uk4) u7i u7j, .i x2v.Min, .i x2v.Max]) 8 0) :: (uk4, .row 28 uk5 (u7j * kT27.size) 0) :: (Gx3, .row 28 uec (cx3 * kT27.size) 0) :: (some gx0, .row 69 [.string e0v.s, .i e0v.at_, .i e0v.deep, uds] 4 0) :: Lr)) (_ : x2v.Set.length = 4) (_ : Els kT27 S1 w1 uk5 x2v.L) (_ : x2v.L.length = u7i) (_ : Els kT27 S1 w1 uec x3) (_ : x3.length = nx3) (_ : PtO kT72 S1 w1 uds e0v.bad) (junk : Nat → Value),
 Goes Tryd.prog (base 30) Jr1 ⟨lfr 16 [(0, (pt gx0 0)), (2, (pt gx2 0)), (3, .slice (Gp Gx3) nx3 cx3)] junk, []⟩ w1 (Done Tryd.prog 30 (Rets (Post.z3j nz wz S0 w0 Lr gx0 r)))

def LL.z3t : T27 × (List T27) × T68 → (T27 × T68) → Prop := fun a r => ∀ {nz wz S0 w0 Lr} [Gw nz wz] (gx0 : Nat), L.z3t nz wz S0 w0 Lr gx0 a r

theorem W.z3u : (∀ a r, M.syntax_parser_alternation a = some r → LF.z3j a r) ∧ (∀ a r, M.syntax_parser_alternation_l0 a = some r → LL.z3t a r) ∧ (∀ a r, M.syntax_parser_sequence a = some r → LF.z3k a r) ∧ (∀ a r, M.syntax_parser_sequence_l0 a = some r → LL.z3o a r) ∧ (∀ a r, M.syntax_parser_sequence_l1 a = some r → LL.z3p a r) ∧ (∀ a r, M.syntax_parser_piece a = some r → LF.z3l a r) ∧ (∀ a r, M.syntax_parser_atom a = some r → LF.z3m a r) ∧ (∀ a r, M.syntax_parser_atom_l0 a = some r → LL.z3q a r) ∧ (∀ a r, M.syntax_parser_atom_l1 a = some r → LL.z3r a r) ∧ (∀ a r, M.syntax_parser_group a = some r → LF.z3n a r) ∧ (∀ a r, M.syntax_parser_group_l0 a = some r → LL.z3s a r) := by
 refine M.syntax_parser_alternation.mutual_partial_correctness LF.z3j LL.z3t LF.z3k LL.z3o LL.z3p LF.z3l LF.z3m LL.z3q LL.z3r LF.z3n LL.z3s ?_ ?_ ?_ ?_ ?_ ?_ ?_ ?_ ?_ ?_ ?_
 ·
  intro uk6 rec_syntax_parser_sequence uk7 ih_syntax_parser_sequence x0v r h nz wz S0 w0 Lr iG gx0 udu p0 udv
  try dsimp only at h
  refine calls_of_goes (fn := Tryd.f30) (c := B30) (by kernel_rfl) (by kernel_rfl) 15 (by kernel_rfl) ?_
  refine Goes.jp 16 [(0, (pt gx0 0))] (fun junk => ?_)
  refine Goes.rn 2 [] Jr3 ?_
  refine Op_.alloc 28 2 0 (.agg #[.i 0, .u 0, .u 0, .u 0, .u 0, .slice none 0 0, .i 0, .i 0]) [.i 0, .u 0, .u 0, .u 0, .u 0, .slice none 0 0, .i 0, .i 0] p0 Goes.v (by kernel_rfl) (by kernel_rfl) ?_
  intro b2 w2 z2 p2
  refine Goes.rn 4 [(4, (pt gx0 0))] Jr5 ?_
  have p2 := p2.fr 1
  refine bind_some' h fun y4 e5 h => ?_
  refine Goes.cal (kc 47 [4] #[66]) 5 28 47 _ (ih_syntax_parser_sequence x0v y4 e5 gx0 udu p2 (udv.ext z2)) ?_
  rintro _ w3 ⟨S3, ujg, ujh, uji, uga, rfl, z3, p3, ujj, ujk, rfl, ugb⟩
  have f7 : Els kT27 S3 w3 ((.i y4.1.Kind :: U4 y4.1.Set [.slice ujg y4.1.L.length uji, .i y4.1.Min, .i y4.1.Max]) : List Value) [y4.1] := by exact (Els.cons (K := kT27) (vs := (.i y4.1.Kind :: U4 y4.1.Set [.slice ujg y4.1.L.length uji, .i y4.1.Min, .i y4.1.Max])) (x := y4.1) (kT27_close ⟨[.i y4.1.Kind], (U4 y4.1.Set [.slice ujg y4.1.L.length uji, .i y4.1.Min, .i y4.1.Max]), rfl, rfl, ⟨(U4 y4.1.Set []), [.slice ujg y4.1.L.length uji, .i y4.1.Min, .i y4.1.Max], rfl, ⟨ujj, els_mk4 ujj⟩, ⟨[.slice ujg y4.1.L.length uji], [.i y4.1.Min, .i y4.1.Max], rfl, ⟨_, _, rfl, ujk⟩, ⟨[.i y4.1.Min], [.i y4.1.Max], rfl, rfl, rfl⟩⟩⟩⟩) Els.nil)
  refine Op_.made (.buildSlice 26 1 #[(0, (.tmp 5))]) 6 26 (fun b => .slice (Gp (some b)) 1 1) 28 ((.i y4.1.Kind :: U4 y4.1.Set [.slice ujg y4.1.L.length uji, .i y4.1.Min, .i y4.1.Max]) : List Value) p3 Goes.v (by kernel_rfl) ?_
  intro b6 w4 z4 p4
  have p4 : Hp nz wz S3 w4 (((some b6), .row 28 ((.i y4.1.Kind :: U4 y4.1.Set [.slice ujg y4.1.L.length uji, .i y4.1.Min, .i y4.1.Max]) : List Value) (1 * kT27.size) 0) :: (some gx0, .row 69 [.string y4.2.s, .i y4.2.at_, .i y4.2.deep, uga] 4 0) :: (some b2, .row 28 [.i 0, .u 0, .u 0, .u 0, .u 0, .slice none 0 0, .i 0, .i 0] 8 0) :: Lr) := p4
  refine Goes.rn 5 [(3, .slice (Gp (some b6)) 1 1)] Jr1 ?_
  have p4 : Hp nz wz S3 w4 ((none, .row 28 [] (0 * kT27.size) 0) :: ((some b6), .row 28 ((.i y4.1.Kind :: U4 y4.1.Set [.slice ujg y4.1.L.length uji, .i y4.1.Min, .i y4.1.Max]) : List Value) (1 * kT27.size) 0) :: (some gx0, .row 69 [.string y4.2.s, .i y4.2.at_, .i y4.2.deep, uga] 4 0) :: (some b2, .row 28 [.i 0, .u 0, .u 0, .u 0, .u 0, .slice none 0 0, .i 0, .i 0] 8 0) :: Lr) := p4.nilRow' 28
  have p4 := (((p4.fr 2).fr 2).fr 2).fr 3
  exact Goes.jp 16 [(0, (pt gx0 0)), (2, (pt b2 0)), (3, .slice (Gp (some b6)) 1 1)] (uk7 _ _ h gx0 _ _ ((((Ext.refl S0 w0).trans z2).trans z3).trans z4) b2 none 0 0 [] (some b6) 1 1 ((.i y4.1.Kind :: U4 y4.1.Set [.slice ujg y4.1.L.length uji, .i y4.1.Min, .i y4.1.Max]) : List Value) uga p4 rfl (Els.nil (K := kT27)) rfl (f7.ext z4) rfl (ugb.ext z4))
 ·
  intro uk6 rec_syntax_parser_sequence uk7 ih_syntax_parser_sequence ⟨x2v, x3, e0v⟩ r h nz wz S0 w0 Lr iG gx0 S1 w1 hx gx2 uk4 u7i u7j uk5 Gx3 nx3 cx3 uec uds p1 u7o u7p u7q fx3 lx3 udt junk
  try dsimp only at h
  subst u7q
  subst lx3
  refine Goes.rn 4 [(7, (pt gx0 0))] Jr8 ?_
  have p1 := p1.fr 3
  refine bind_some' h fun y13 e14 h => ?_
  refine Goes.cal (.call { callee := .value (.func 48), args := #[(.tmp 7), (.const (.int .u8 124))], argTypes := #[66, 5] }) 8 4 48 _ (W.z2g e0v 124 y13 e14 gx0 uds p1 udt) ?_
  rintro _ w5 ⟨S5, ugv, rfl, z5, p5, ugx⟩
  refine Goes.rn 1 [] Jr7 ?_
  refine ite_some h (fun h15 h => ?_) (fun h15 h => ?_)
  ·
   rw [h15]
   refine Goes.rn 6 [(9, .slice (Gp Gx3) x3.length cx3), (10, (pt gx0 0))] Jra ?_
   refine bind_some' h fun y16 e17 h => ?_
   refine Goes.cal (kc 47 [10] #[66]) 11 28 47 _ (ih_syntax_parser_sequence y13.2 y16 e17 gx0 ugv p5 ugx) ?_
   rintro _ w6 ⟨S6, uk8, u1c, u1d, uhj, rfl, z6, p6, u1f, u1g, rfl, uhk⟩
   have f19 : Els kT27 S6 w6 ((.i y16.1.Kind :: U4 y16.1.Set [.slice uk8 y16.1.L.length u1d, .i y16.1.Min, .i y16.1.Max]) : List Value) [y16.1] := by exact (Els.cons (K := kT27) (vs := (.i y16.1.Kind :: U4 y16.1.Set [.slice uk8 y16.1.L.length u1d, .i y16.1.Min, .i y16.1.Max])) (x := y16.1) (kT27_close ⟨[.i y16.1.Kind], (U4 y16.1.Set [.slice uk8 y16.1.L.length u1d, .i y16.1.Min, .i y16.1.Max]), rfl, rfl, ⟨(U4 y16.1.Set []), [.slice uk8 y16.1.L.length u1d, .i y16.1.Min, .i y16.1.Max], rfl, ⟨u1f, els_mk4 u1f⟩, ⟨[.slice uk8 y16.1.L.length u1d], [.i y16.1.Min, .i y16.1.Max], rfl, ⟨_, _, rfl, u1g⟩, ⟨[.i y16.1.Min], [.i y16.1.Max], rfl, rfl, rfl⟩⟩⟩⟩) Els.nil)
   refine Op_.made (.buildSlice 26 1 #[(0, (.tmp 11))]) 12 26 (fun b => .slice (Gp (some b)) 1 1) 28 ((.i y16.1.Kind :: U4 y16.1.Set [.slice uk8 y16.1.L.length u1d, .i y16.1.Min, .i y16.1.Max]) : List Value) p6 Goes.v (by kernel_rfl) ?_
   intro b18 w7 z7 p7
   have p7 : Hp nz wz S6 w7 (((some b18), .row 28 ((.i y16.1.Kind :: U4 y16.1.Set [.slice uk8 y16.1.L.length u1d, .i y16.1.Min, .i y16.1.Max]) : List Value) (1 * kT27.size) 0) :: (some gx0, .row 69 [.string y16.2.s, .i y16.2.at_, .i y16.2.deep, uhj] 4 0) :: (some gx2, .row 28 (.i x2v.Kind :: U4 x2v.Set [.slice (Gp uk4) x2v.L.length u7j, .i x2v.Min, .i x2v.Max]) 8 0) :: (uk4, .row 28 uk5 (u7j * kT27.size) 0) :: (Gx3, .row 28 uec (cx3 * kT27.size) 0) :: Lr) := p7
   refine guard_some' h fun g24 h => ?_
   refine Op_.ap_n (K := kT27) 26 (.tmp 9) (.tmp 12) 13 26 28 4 (.agg #[.i 0, .u 0, .u 0, .u 0, .u 0, .slice none 0 0, .i 0, .i 0]) 80 x3.length cx3 1 x3 [y16.1] (x3 ++ [y16.1]) (Gp (some b18)) 1 rfl rfl rfl p7 rfl (fx3.ext ((z5.trans z6).trans z7)) Goes.v (by kernel_rfl) (by kernel_rfl) (by kernel_rfl) (by kernel_rfl) rfl (by decide) (f19.ext z7) (src_own p7 (q := 0) rfl) (by have := g24; omega) (by have := g24; omega) ?_
   intro w8 G25 c26 uk9 z8 p8 f28
   refine Goes.rn 4 [(3, .slice (Gp G25) ((x3 ++ [y16.1]).length) c26)] Jr1 ?_
   have p8 := p8.dp 0
   have p8 := (((p8.fr 0).fr 3).fr 3).fr 3
   exact Goes.jp 16 [(0, (pt gx0 0)), (2, (pt gx2 0)), (3, .slice (Gp G25) ((x3 ++ [y16.1]).length) c26)] (uk7 _ _ h gx0 _ _ ((((hx.trans z5).trans z6).trans z7).trans z8) gx2 uk4 x2v.L.length u7j uk5 G25 ((x3 ++ [y16.1]).length) c26 uk9 uhj p8 u7o (u7p.ext (((z5.trans z6).trans z7).trans z8)) rfl f28 rfl (uhk.ext (z7.trans z8)))
  ·
   have u83 : y13.1 = false := by simpa using h15
   rw [u83]
   refine Goes.rn 5 [(14, .slice (Gp Gx3) x3.length cx3)] Jrc ?_
   obtain ⟨S9, z9, p9, f29⟩ := p5.freezeRd 3 rfl (fx3.ext z5) (by decide)
   refine bind_some' h fun y30 e31 h => ?_
   refine Goes.cal (.call { callee := .value (.func 49), args := #[(.const (.int .i64 3)), (.tmp 14)], argTypes := #[3, 26] }) 15 28 49 _ (W.z3i 3 x3 y30 e31 (Gp Gx3) x3.length cx3 p9 f29 rfl) ?_
   rintro _ w10 ⟨S10, uka, ukb, ukc, rfl, z10, p10, ukd, uke, rfl⟩
   have p10 := p10.dp 3
   refine Op_.st 28 (.tmp 2) (.tmp 15) 0 1 gx2 0 (ag (.i y30.Kind :: U4 y30.Set [.slice uka y30.L.length ukc, .i y30.Min, .i y30.Max])) (.i y30.Kind :: U4 y30.Set [.slice uka y30.L.length ukc, .i y30.Min, .i y30.Max]) p10 rfl Goes.s (by kernel_rfl) (by kernel_rfl) (by kernel_rfl) (by kernel_rfl) (Nat.zero_le _) (by simp only [List.length_cons, List.length_nil]; omega) (by simp [Value.oneCell']) ?_
   intro w11 z11 p11
   have p11 : Hp nz wz S10 w11 ((some gx0, .row 69 [.string y13.2.s, .i y13.2.at_, .i y13.2.deep, ugv] 4 0) :: (some gx2, .row 28 (.i y30.Kind :: U4 y30.Set [.slice uka y30.L.length ukc, .i y30.Min, .i y30.Max]) 8 0) :: (uk4, .row 28 uk5 (u7j * kT27.size) 0) :: Lr) := p11
   refine Goes.rn 1 [] Jrb ?_
   obtain rfl := Option.some.inj h
   have p11 := p11.dp 2
   have p11 := (p11.fr 0).fr 1
   exact Goes.ret (fn := Tryd.f30) (by kernel_rfl) (v := (ag (.i y30.Kind :: U4 y30.Set [.slice uka y30.L.length ukc, .i y30.Min, .i y30.Max]))) (results_n1 (fn := Tryd.f30) (a := .cell 2 28) (by kernel_rfl) (resV_cell ⟨gx2, 0, none⟩ (by kernel_rfl) (run_loadN (.i y30.Kind :: U4 y30.Set [.slice uka y30.L.length ukc, .i y30.Min, .i y30.Max]) (by kernel_rfl) (by kernel_rfl) (p11.pa 0 0)))) ⟨S10, uka, y30.L.length, ukc, ugv, rfl, ((((hx.trans z5).trans z9).trans z10).trans z11), p11.drop, ukd, (uke.ext z11), rfl, (ugx.ext ((z9.trans z10).trans z11))⟩
 ·
  intro ukf ukg x0v r h nz wz S0 w0 Lr iG gx0 udu p0 udv
  try dsimp only at h
  refine calls_of_goes (fn := Tryd.f47) (c := B47) (by kernel_rfl) (by kernel_rfl) 37 (by kernel_rfl) ?_
  refine Goes.jp 38 [(0, (pt gx0 0))] (fun junk => ?_)
  refine Goes.rn 2 [] Jre ?_
  refine Op_.alloc 28 2 0 (.agg #[.i 0, .u 0, .u 0, .u 0, .u 0, .slice none 0 0, .i 0, .i 0]) [.i 0, .u 0, .u 0, .u 0, .u 0, .slice none 0 0, .i 0, .i 0] p0 Goes.v (by kernel_rfl) (by kernel_rfl) ?_
  intro b2 w2 z2 p2
  refine Goes.rn 8 [(3, .slice none 0 0)] Jqq ?_
  have p2 : Hp nz wz S0 w2 ((none, .row 28 [] (0 * kT27.size) 0) :: (some b2, .row 28 [.i 0, .u 0, .u 0, .u 0, .u 0, .slice none 0 0, .i 0, .i 0] 8 0) :: (some gx0, .row 69 [.string x0v.s, .i x0v.at_, .i x0v.deep, udu] 4 0) :: Lr) := p2.nilRow' 28
  have p2 : Hp nz wz S0 w2 ((none, .row 28 [] (0 * kT27.size) 0) :: (none, .row 28 [] (0 * kT27.size) 0) :: (some b2, .row 28 [.i 0, .u 0, .u 0, .u 0, .u 0, .slice (Gp none) 0 0, .i 0, .i 0] 8 0) :: (some gx0, .row 69 [.string x0v.s, .i x0v.at_, .i x0v.deep, udu] 4 0) :: Lr) := p2.nilRow' 28
  have p2 := (((p2.fr 3).fr 1).fr 2).fr 3
  exact Goes.jp 38 [(0, (pt gx0 0)), (2, (pt b2 0)), (3, .slice (Gp none) 0 0)] (ukg _ _ h gx0 _ _ ((Ext.refl S0 w0).trans z2) b2 none 0 0 [] none 0 0 [] udu p2 rfl (Els.nil (K := kT27)) rfl (Els.nil (K := kT27)) rfl (udv.ext z2))
 ·
  intro ukh uki ⟨x2v, x3, e0v⟩ r h nz wz S0 w0 Lr iG gx0 S1 w1 hx gx2 uk4 u7i u7j uk5 Gx3 nx3 cx3 uec uds p1 u7o u7p u7q fx3 lx3 udt junk
  try dsimp only at h
  subst u7q
  subst lx3
  refine Goes.rn 2 [] Jrf ?_
  have z3 : Ext S1 w1 S1 (w1).drew := Ext.draw
  have p3 := p1.draw
  refine Goes.drawn (s := [19, 24]) (F := Fc S1 (w1).drew [(⟨gx0, 3, none⟩, uds), (⟨gx0, 1, none⟩, .i e0v.at_), (⟨gx0, 0, none⟩, .string e0v.s)]) 2 27 (by kernel_rfl) (by kernel_rfl) (by kernel_rfl) (by kernel_rfl) ?_
  generalize (w1).drew = w3 at z3 p3 ⊢
  refine AnyG.pu 0 (.move (.tmp 0)) 4 66 ((pt gx0 0)) (Fc.here (p3.cs [(3, 3, 1), (3, 1, 1), (3, 0, 1)])) ?_
  refine AnyG.pu 1 (.nilCheck (.tmp 4)) 5 0 ((pt gx0 0)) (Fc.here (p3.cs [(3, 3, 1), (3, 1, 1), (3, 0, 1)])) ?_
  refine AnyG.pu 2 (.fieldAddr 69 (.tmp 5) 3) 6 0 ((pt gx0 3)) (Fc.here (p3.cs [(3, 3, 1), (3, 1, 1), (3, 0, 1)])) ?_
  refine AnyG.ld1 (i := 3) 67 (.tmp 6) 7 67 ⟨gx0, 3, none⟩ (uds) (by kernel_rfl) (by kernel_rfl) (Fc.here (p3.cs [(3, 3, 1), (3, 1, 1), (3, 0, 1)])) (by kernel_rfl) (by kernel_rfl) (fun _ h => h.2.at_ 0 rfl) ?_
  refine let_some h fun v24 h9 h => ?_
  rcases v24 with _ | y10
  ·
   try dsimp only at h
   obtain rfl := PtO.nil (udt.ext z3) h9
   refine AnyG.pu 4 (.binOp .eql 67 (.tmp 7) (.const (.pointer none)) 67) 8 4 (.bool true) (Fc.here (p3.cs [(3, 3, 1), (3, 1, 1), (3, 0, 1)])) ?_
   refine AnyG.pu 5 (.move (.tmp 8)) 9 4 (.bool true) (Fc.here (p3.cs [(3, 3, 1), (3, 1, 1), (3, 0, 1)])) ?_
   refine AnyG.pu 6 (.move (.tmp 0)) 10 66 ((pt gx0 0)) (Fc.here (p3.cs [(3, 3, 1), (3, 1, 1), (3, 0, 1)])) ?_
   refine AnyG.pu 7 (.nilCheck (.tmp 10)) 11 0 ((pt gx0 0)) (Fc.here (p3.cs [(3, 3, 1), (3, 1, 1), (3, 0, 1)])) ?_
   refine AnyG.pu 8 (.fieldAddr 69 (.tmp 11) 1) 12 0 ((pt gx0 1)) (Fc.here (p3.cs [(3, 3, 1), (3, 1, 1), (3, 0, 1)])) ?_
   refine AnyG.ld1 (i := 9) 3 (.tmp 12) 13 3 ⟨gx0, 1, none⟩ (.i e0v.at_) (by kernel_rfl) (by kernel_rfl) (Fc.here (p3.cs [(3, 3, 1), (3, 1, 1), (3, 0, 1)])) (by kernel_rfl) (by kernel_rfl) (fun _ h => h.2.at_ 1 rfl) ?_
   refine AnyG.pu 10 (.move (.tmp 0)) 14 66 ((pt gx0 0)) (Fc.here (p3.cs [(3, 3, 1), (3, 1, 1), (3, 0, 1)])) ?_
   refine AnyG.pu 11 (.nilCheck (.tmp 14)) 15 0 ((pt gx0 0)) (Fc.here (p3.cs [(3, 3, 1), (3, 1, 1), (3, 0, 1)])) ?_
   refine AnyG.pu 12 (.fieldAddr 69 (.tmp 15) 0) 16 0 ((pt gx0 0)) (Fc.here (p3.cs [(3, 3, 1), (3, 1, 1), (3, 0, 1)])) ?_
   refine AnyG.ld1 (i := 13) 9 (.tmp 16) 17 9 ⟨gx0, 0, none⟩ (.string e0v.s) (by kernel_rfl) (by kernel_rfl) (Fc.here (p3.cs [(3, 3, 1), (3, 1, 1), (3, 0, 1)])) (by kernel_rfl) (by kernel_rfl) (fun _ h => h.2.at_ 2 rfl) ?_
   refine AnyG.pu 14 (.call { callee := .builtin .len, args := #[(.tmp 17)], argTypes := #[9] }) 18 3 (.i (e0v.s.size : Int)) (Fc.here (p3.cs [(3, 3, 1), (3, 1, 1), (3, 0, 1)])) ?_
   refine AnyG.pu 15 (.binOp .lss 3 (.tmp 13) (.tmp 18) 3) 19 4 (.bool (decide (e0v.at_ < (e0v.s.size : Int)))) (Fc.here (p3.cs [(3, 3, 1), (3, 1, 1), (3, 0, 1)])) ?_
   refine AnyG.pu 16 (.pick (.tmp 9) (.tmp 19) (.const (.bool false))) 20 4 (.bool (decide (e0v.at_ < (e0v.s.size : Int)))) (Fc.here (p3.cs [(3, 3, 1), (3, 1, 1), (3, 0, 1)])) ?_
   refine AnyG.pu 17 (.move (.tmp 20)) 21 4 (.bool (decide (e0v.at_ < (e0v.s.size : Int)))) (Fc.here (p3.cs [(3, 3, 1), (3, 1, 1), (3, 0, 1)])) ?_
   refine ite_some h (fun h15 h => ?_) (fun h15 h => ?_)
   ·
    rw [decide_eq_true h15]
    refine AnyG.pu 18 (.move (.tmp 0)) 22 66 ((pt gx0 0)) (Fc.here (p3.cs [(3, 3, 1), (3, 1, 1), (3, 0, 1)])) ?_
    have p3 := p3.fr 3
    refine bind_some' h fun y16 e17 h => ?_
    refine Op_.call (kc 65 [22] #[66]) 23 5 65 #[(pt gx0 0)] (AnyG.cs (i := 19) (by kernel_rfl) (by kernel_rfl)) (by kernel_rfl) (W.z2d (⟨e0v.s, e0v.at_, e0v.deep, none⟩ : T68) y16 e17 gx0 (.pointer none) p3 rfl) ?_
    rintro _ w4 ⟨S4, ufu, rfl, z4, p4, ufx⟩
    refine AnyG.last [24] (Fc S4 w4 []) (by decide) ?_
    refine AnyG.pu 20 (.binOp .neq 5 (.tmp 23) (.const (.int .u8 124)) 5) 24 4 (.bool (!(decide (y16.1 = 124)))) (Fc.here trivial) ?_
    refine AnyG.pu 21 (.pick (.tmp 21) (.tmp 24) (.const (.bool false))) 25 4 (.bool (!(decide (y16.1 = 124)))) (Fc.here trivial) ?_
    refine AnyG.pu 22 (.move (.tmp 25)) 26 4 (.bool (!(decide (y16.1 = 124)))) (Fc.here trivial) ?_
    refine ite_some h (fun h18 h => ?_) (fun h18 h => ?_)
    ·
     rw [decide_eq_true h18]
     refine AnyG.s1 23 27 (Fc.here trivial) ?_
     refine AnyG.skipL1 (i := 24) 28 (by kernel_rfl) (by kernel_rfl) (.inl (by decide)) ?_
     refine AnyG.s1 25 29 (Fc.here trivial) ?_
     refine AnyG.pu 26 (.pick (.tmp 26) (.tmp 29) (.const (.bool false))) 30 4 (.bool false) (Fc.here trivial) ?_
     refine AnyG.done (by kernel_rfl) ?_ _
     have p4 := (((p4.fr 0).fr 3).fr 3).fr 3
     exact Goes.jp 38 [(0, (pt gx0 0)), (2, (pt gx2 0)), (3, .slice (Gp Gx3) x3.length cx3), (30, .bool false)] (uki _ _ h gx0 _ _ ((hx.trans z3).trans z4) gx2 uk4 x2v.L.length u7j uk5 Gx3 x3.length cx3 uec ufu p4 u7o (u7p.ext (z3.trans z4)) rfl (fx3.ext (z3.trans z4)) rfl ufx)
    ·
     rw [decide_eq_false h18]
     refine AnyG.pu 23 (.move (.tmp 0)) 27 66 ((pt gx0 0)) (Fc.here trivial) ?_
     refine bind_some' h fun y22 e23 h => ?_
     refine Op_.call (kc 65 [27] #[66]) 28 5 65 #[(pt gx0 0)] (AnyG.cs (i := 24) (by kernel_rfl) (by kernel_rfl)) (by kernel_rfl) (W.z2d y16.2 y22 e23 gx0 ufu p4 ufx) ?_
     rintro _ w5 ⟨S5, ugv, rfl, z5, p5, ugx⟩
     refine AnyG.last [] (Fc S5 w5 []) (by decide) ?_
     refine AnyG.pu 25 (.binOp .neq 5 (.tmp 28) (.const (.int .u8 41)) 5) 29 4 (.bool (!(decide (y22.1 = 41)))) (Fc.here trivial) ?_
     refine AnyG.pu 26 (.pick (.tmp 26) (.tmp 29) (.const (.bool false))) 30 4 (.bool (!(decide (y22.1 = 41)))) (Fc.here trivial) ?_
     refine AnyG.done (by kernel_rfl) ?_ _
     have p5 := (((p5.fr 0).fr 3).fr 3).fr 3
     exact Goes.jp 38 [(0, (pt gx0 0)), (2, (pt gx2 0)), (3, .slice (Gp Gx3) x3.length cx3), (30, .bool (!(decide (y22.1 = 41))))] (uki _ _ h gx0 _ _ (((hx.trans z3).trans z4).trans z5) gx2 uk4 x2v.L.length u7j uk5 Gx3 x3.length cx3 uec ugv p5 u7o (u7p.ext ((z3.trans z4).trans z5)) rfl (fx3.ext ((z3.trans z4).trans z5)) rfl ugx)
   ·
    rw [decide_eq_false h15]
    refine AnyG.s1 18 22 (Fc.here (p3.cs [(3, 3, 1), (3, 1, 1), (3, 0, 1)])) ?_
    refine AnyG.skipL1 (i := 19) 23 (by kernel_rfl) (by kernel_rfl) (.inl (by decide)) ?_
    refine AnyG.s1 20 24 (Fc.here (p3.cs [(3, 3, 1), (3, 1, 1), (3, 0, 1)])) ?_
    refine AnyG.pu 21 (.pick (.tmp 21) (.tmp 24) (.const (.bool false))) 25 4 (.bool false) (Fc.here (p3.cs [(3, 3, 1), (3, 1, 1), (3, 0, 1)])) ?_
    refine AnyG.pu 22 (.move (.tmp 25)) 26 4 (.bool false) (Fc.here (p3.cs [(3, 3, 1), (3, 1, 1), (3, 0, 1)])) ?_
    refine AnyG.s1 23 27 (Fc.here (p3.cs [(3, 3, 1), (3, 1, 1), (3, 0, 1)])) ?_
    refine AnyG.skipL1 (i := 24) 28 (by kernel_rfl) (by kernel_rfl) (.inl (by decide)) ?_
    refine AnyG.s1 25 29 (Fc.here (p3.cs [(3, 3, 1), (3, 1, 1), (3, 0, 1)])) ?_
    refine AnyG.pu 26 (.pick (.tmp 26) (.tmp 29) (.const (.bool false))) 30 4 (.bool false) (Fc.here (p3.cs [(3, 3, 1), (3, 1, 1), (3, 0, 1)])) ?_
    refine AnyG.done (by kernel_rfl) ?_ _
    exact Goes.jp 38 [(0, (pt gx0 0)), (2, (pt gx2 0)), (3, .slice (Gp Gx3) x3.length cx3), (30, .bool false)] (uki _ _ h gx0 _ _ (hx.trans z3) gx2 uk4 x2v.L.length u7j uk5 Gx3 x3.length cx3 uec (.pointer none) p3 u7o (u7p.ext z3) rfl (fx3.ext z3) rfl rfl)
  ·
   try dsimp only at h
   obtain ⟨a12, _, rfl, -, f13, q14⟩ := PtO.got (udt.ext z3) h9
   obtain rfl := q14
   refine AnyG.pu 4 (.binOp .eql 67 (.tmp 7) (.const (.pointer none)) 67) 8 4 (.bool false) (Fc.here (p3.cs [(3, 3, 1), (3, 1, 1), (3, 0, 1)])) ?_
   refine AnyG.pu 5 (.move (.tmp 8)) 9 4 (.bool false) (Fc.here (p3.cs [(3, 3, 1), (3, 1, 1), (3, 0, 1)])) ?_
   refine AnyG.s1 6 10 (Fc.here (p3.cs [(3, 3, 1), (3, 1, 1), (3, 0, 1)])) ?_
   refine AnyG.s1 7 11 (Fc.here (p3.cs [(3, 3, 1), (3, 1, 1), (3, 0, 1)])) ?_
   refine AnyG.s1 8 12 (Fc.here (p3.cs [(3, 3, 1), (3, 1, 1), (3, 0, 1)])) ?_
   refine AnyG.s1 9 13 (Fc.here (p3.cs [(3, 3, 1), (3, 1, 1), (3, 0, 1)])) ?_
   refine AnyG.s1 10 14 (Fc.here (p3.cs [(3, 3, 1), (3, 1, 1), (3, 0, 1)])) ?_
   refine AnyG.s1 11 15 (Fc.here (p3.cs [(3, 3, 1), (3, 1, 1), (3, 0, 1)])) ?_
   refine AnyG.s1 12 16 (Fc.here (p3.cs [(3, 3, 1), (3, 1, 1), (3, 0, 1)])) ?_
   refine AnyG.s1 13 17 (Fc.here (p3.cs [(3, 3, 1), (3, 1, 1), (3, 0, 1)])) ?_
   refine AnyG.s1 14 18 (Fc.here (p3.cs [(3, 3, 1), (3, 1, 1), (3, 0, 1)])) ?_
   refine AnyG.s1 15 19 (Fc.here (p3.cs [(3, 3, 1), (3, 1, 1), (3, 0, 1)])) ?_
   refine AnyG.pu 16 (.pick (.tmp 9) (.tmp 19) (.const (.bool false))) 20 4 (.bool false) (Fc.here (p3.cs [(3, 3, 1), (3, 1, 1), (3, 0, 1)])) ?_
   refine AnyG.pu 17 (.move (.tmp 20)) 21 4 (.bool false) (Fc.here (p3.cs [(3, 3, 1), (3, 1, 1), (3, 0, 1)])) ?_
   refine AnyG.s1 18 22 (Fc.here (p3.cs [(3, 3, 1), (3, 1, 1), (3, 0, 1)])) ?_
   refine AnyG.skipL1 (i := 19) 23 (by kernel_rfl) (by kernel_rfl) (.inl (by decide)) ?_
   refine AnyG.s1 20 24 (Fc.here (p3.cs [(3, 3, 1), (3, 1, 1), (3, 0, 1)])) ?_
   refine AnyG.pu 21 (.pick (.tmp 21) (.tmp 24) (.const (.bool false))) 25 4 (.bool false) (Fc.here (p3.cs [(3, 3, 1), (3, 1, 1), (3, 0, 1)])) ?_
   refine AnyG.pu 22 (.move (.tmp 25)) 26 4 (.bool false) (Fc.here (p3.cs [(3, 3, 1), (3, 1, 1), (3, 0, 1)])) ?_
   refine AnyG.s1 23 27 (Fc.here (p3.cs [(3, 3, 1), (3, 1, 1), (3, 0, 1)])) ?_
   refine AnyG.skipL1 (i := 24) 28 (by kernel_rfl) (by kernel_rfl) (.inl (by decide)) ?_
   refine AnyG.s1 25 29 (Fc.here (p3.cs [(3, 3, 1), (3, 1, 1), (3, 0, 1)])) ?_
   refine AnyG.pu 26 (.pick (.tmp 26) (.tmp 29) (.const (.bool false))) 30 4 (.bool false) (Fc.here (p3.cs [(3, 3, 1), (3, 1, 1), (3, 0, 1)])) ?_
   refine AnyG.done (by kernel_rfl) ?_ _
   exact Goes.jp 38 [(0, (pt gx0 0)), (2, (pt gx2 0)), (3, .slice (Gp Gx3) x3.length cx3), (30, .bool false)] (uki _ _ h gx0 _ _ (hx.trans z3) gx2 uk4 x2v.L.length u7j uk5 Gx3 x3.length cx3 uec (.pointer (some a12)) p3 u7o (u7p.ext z3) rfl (fx3.ext z3) rfl ⟨_, _, rfl, List.cons_ne_nil _ _, f13, rfl⟩)
 ·
  intro ukf rec_syntax_parser_piece ukg ih_syntax_parser_piece ⟨x2v, x3, x30, e0v⟩ r h nz wz S0 w0 Lr iG gx0 S1 w1 hx gx2 uk4 u7i u7j uk5 Gx3 nx3 cx3 uec uds p1 u7o u7p u7q fx3 lx3 udt junk
  try dsimp only at h
  subst u7q
  subst lx3
  refine ite_some h (fun h25 h => ?_) (fun h25 h => ?_)
  ·
   rw [h25]
   refine Goes.rn 6 [(31, .slice (Gp Gx3) x3.length cx3), (32, (pt gx0 0))] Jrh ?_
   have p1 := p1.fr 3
   refine bind_some' h fun y26 e27 h => ?_
   refine Goes.cal (kc 66 [32] #[66]) 33 28 66 _ (ih_syntax_parser_piece e0v y26 e27 gx0 uds p1 udt) ?_
   rintro _ w6 ⟨S6, uk8, u1c, u1d, uhj, rfl, z6, p6, u1f, u1g, rfl, uhk⟩
   have f29 : Els kT27 S6 w6 ((.i y26.1.Kind :: U4 y26.1.Set [.slice uk8 y26.1.L.length u1d, .i y26.1.Min, .i y26.1.Max]) : List Value) [y26.1] := by exact (Els.cons (K := kT27) (vs := (.i y26.1.Kind :: U4 y26.1.Set [.slice uk8 y26.1.L.length u1d, .i y26.1.Min, .i y26.1.Max])) (x := y26.1) (kT27_close ⟨[.i y26.1.Kind], (U4 y26.1.Set [.slice uk8 y26.1.L.length u1d, .i y26.1.Min, .i y26.1.Max]), rfl, rfl, ⟨(U4 y26.1.Set []), [.slice uk8 y26.1.L.length u1d, .i y26.1.Min, .i y26.1.Max], rfl, ⟨u1f, els_mk4 u1f⟩, ⟨[.slice uk8 y26.1.L.length u1d], [.i y26.1.Min, .i y26.1.Max], rfl, ⟨_, _, rfl, u1g⟩, ⟨[.i y26.1.Min], [.i y26.1.Max], rfl, rfl, rfl⟩⟩⟩⟩) Els.nil)
   refine Op_.made (.buildSlice 26 1 #[(0, (.tmp 33))]) 34 26 (fun b => .slice (Gp (some b)) 1 1) 28 ((.i y26.1.Kind :: U4 y26.1.Set [.slice uk8 y26.1.L.length u1d, .i y26.1.Min, .i y26.1.Max]) : List Value) p6 Goes.v (by kernel_rfl) ?_
   intro b28 w7 z7 p7
   have p7 : Hp nz wz S6 w7 (((some b28), .row 28 ((.i y26.1.Kind :: U4 y26.1.Set [.slice uk8 y26.1.L.length u1d, .i y26.1.Min, .i y26.1.Max]) : List Value) (1 * kT27.size) 0) :: (some gx0, .row 69 [.string y26.2.s, .i y26.2.at_, .i y26.2.deep, uhj] 4 0) :: (some gx2, .row 28 (.i x2v.Kind :: U4 x2v.Set [.slice (Gp uk4) x2v.L.length u7j, .i x2v.Min, .i x2v.Max]) 8 0) :: (uk4, .row 28 uk5 (u7j * kT27.size) 0) :: (Gx3, .row 28 uec (cx3 * kT27.size) 0) :: Lr) := p7
   refine guard_some' h fun g34 h => ?_
   refine Op_.ap_n (K := kT27) 26 (.tmp 31) (.tmp 34) 35 26 28 4 (.agg #[.i 0, .u 0, .u 0, .u 0, .u 0, .slice none 0 0, .i 0, .i 0]) 80 x3.length cx3 1 x3 [y26.1] (x3 ++ [y26.1]) (Gp (some b28)) 1 rfl rfl rfl p7 rfl (fx3.ext (z6.trans z7)) Goes.v (by kernel_rfl) (by kernel_rfl) (by kernel_rfl) (by kernel_rfl) rfl (by decide) (f29.ext z7) (src_own p7 (q := 0) rfl) (by have := g34; omega) (by have := g34; omega) ?_
   intro w8 G35 c36 ukj z8 p8 f38
   refine Goes.rn 4 [(3, .slice (Gp G35) ((x3 ++ [y26.1]).length) c36)] Jqq ?_
   have p8 := p8.dp 0
   have p8 := (((p8.fr 0).fr 3).fr 3).fr 3
   exact Goes.jp 38 [(0, (pt gx0 0)), (2, (pt gx2 0)), (3, .slice (Gp G35) ((x3 ++ [y26.1]).length) c36)] (ukg _ _ h gx0 _ _ (((hx.trans z6).trans z7).trans z8) gx2 uk4 x2v.L.length u7j uk5 G35 ((x3 ++ [y26.1]).length) c36 ukj uhj p8 u7o (u7p.ext ((z6.trans z7).trans z8)) rfl f38 rfl (uhk.ext (z7.trans z8)))
  ·
   have u1z : x30 = false := by simpa using h25
   rw [u1z]
   refine Goes.rn 5 [(36, .slice (Gp Gx3) x3.length cx3)] Jrj ?_
   obtain ⟨S9, z9, p9, f39⟩ := p1.freezeRd 2 rfl fx3 (by decide)
   refine bind_some' h fun y40 e41 h => ?_
   refine Goes.cal (.call { callee := .value (.func 49), args := #[(.const (.int .i64 2)), (.tmp 36)], argTypes := #[3, 26] }) 37 28 49 _ (W.z3i 2 x3 y40 e41 (Gp Gx3) x3.length cx3 p9 f39 rfl) ?_
   rintro _ w10 ⟨S10, uka, ukb, ukc, rfl, z10, p10, ukd, uke, rfl⟩
   have p10 := p10.dp 2
   refine Op_.st 28 (.tmp 2) (.tmp 37) 0 0 gx2 0 (ag (.i y40.Kind :: U4 y40.Set [.slice uka y40.L.length ukc, .i y40.Min, .i y40.Max])) (.i y40.Kind :: U4 y40.Set [.slice uka y40.L.length ukc, .i y40.Min, .i y40.Max]) p10 rfl Goes.s (by kernel_rfl) (by kernel_rfl) (by kernel_rfl) (by kernel_rfl) (Nat.zero_le _) (by simp only [List.length_cons, List.length_nil]; omega) (by simp [Value.oneCell']) ?_
   intro w11 z11 p11
   have p11 : Hp nz wz S10 w11 ((some gx2, .row 28 (.i y40.Kind :: U4 y40.Set [.slice uka y40.L.length ukc, .i y40.Min, .i y40.Max]) 8 0) :: (uk4, .row 28 uk5 (u7j * kT27.size) 0) :: (some gx0, .row 69 [.string e0v.s, .i e0v.at_, .i e0v.deep, uds] 4 0) :: Lr) := p11
   refine Goes.rn 1 [] Jri ?_
   obtain rfl := Option.some.inj h
   have p11 := p11.dp 1
   exact Goes.ret (fn := Tryd.f47) (by kernel_rfl) (v := (ag (.i y40.Kind :: U4 y40.Set [.slice uka y40.L.length ukc, .i y40.Min, .i y40.Max]))) (results_n1 (fn := Tryd.f47) (a := .cell 2 28) (by kernel_rfl) (resV_cell ⟨gx2, 0, none⟩ (by kernel_rfl) (run_loadN (.i y40.Kind :: U4 y40.Set [.slice uka y40.L.length ukc, .i y40.Min, .i y40.Max]) (by kernel_rfl) (by kernel_rfl) (p11.pa 0 0)))) ⟨S10, uka, y40.L.length, ukc, uds, rfl, (((hx.trans z9).trans z10).trans z11), p11.drop, ukd, (uke.ext z11), rfl, (udt.ext ((z9.trans z10).trans z11))⟩
 ·
  intro rec_syntax_parser_atom ih_syntax_parser_atom x0v r h nz wz S0 w0 Lr iG gx0 udu p0 udv
  try dsimp only at h
  refine calls_of_goes (fn := Tryd.f66) (c := B66) (by kernel_rfl) (by kernel_rfl) 36 (by kernel_rfl) ?_
  refine Goes.jp 37 [(0, (pt gx0 0))] (fun junk => ?_)
  refine Goes.rn 2 [] Jrl ?_
  refine Op_.alloc 28 2 0 (.agg #[.i 0, .u 0, .u 0, .u 0, .u 0, .slice none 0 0, .i 0, .i 0]) [.i 0, .u 0, .u 0, .u 0, .u 0, .slice none 0 0, .i 0, .i 0] p0 Goes.v (by kernel_rfl) (by kernel_rfl) ?_
  intro b2 w2 z2 p2
  refine Goes.rn 4 [(7, (pt gx0 0))] Jrn ?_
  have p2 := p2.fr 1
  refine bind_some' h fun y4 e5 h => ?_
  refine Goes.cal (kc 78 [7] #[66]) 8 28 78 _ (ih_syntax_parser_atom x0v y4 e5 gx0 udu p2 (udv.ext z2)) ?_
  rintro _ w3 ⟨S3, ujg, ujh, uji, uga, rfl, z3, p3, ujj, ujk, rfl, ugb⟩
  refine Op_.alloc 28 3 0 (.agg #[.i 0, .u 0, .u 0, .u 0, .u 0, .slice none 0 0, .i 0, .i 0]) [.i 0, .u 0, .u 0, .u 0, .u 0, .slice none 0 0, .i 0, .i 0] p3 Goes.v (by kernel_rfl) (by kernel_rfl) ?_
  intro b6 w4 z4 p4
  refine Op_.st 28 (.tmp 3) (.tmp 8) 0 0 b6 0 (ag (.i y4.1.Kind :: U4 y4.1.Set [.slice ujg y4.1.L.length uji, .i y4.1.Min, .i y4.1.Max])) (.i y4.1.Kind :: U4 y4.1.Set [.slice ujg y4.1.L.length uji, .i y4.1.Min, .i y4.1.Max]) p4 rfl Goes.s (by kernel_rfl) (by kernel_rfl) (by kernel_rfl) (by kernel_rfl) (Nat.zero_le _) (by simp only [List.length_cons, List.length_nil]; omega) (by simp [Value.oneCell']) ?_
  intro w5 z5 p5
  have p5 : Hp nz wz S3 w5 ((some b6, .row 28 (.i y4.1.Kind :: U4 y4.1.Set [.slice ujg y4.1.L.length uji, .i y4.1.Min, .i y4.1.Max]) 8 0) :: (some gx0, .row 69 [.string y4.2.s, .i y4.2.at_, .i y4.2.deep, uga] 4 0) :: (some b2, .row 28 [.i 0, .u 0, .u 0, .u 0, .u 0, .slice none 0 0, .i 0, .i 0] 8 0) :: Lr) := p5
  refine Goes.rn 12 [(4, .i 1), (5, .i 1), (9, (pt gx0 0)), (10, (pt gx0 0)), (11, (pt gx0 1))] Jrq ?_
  refine Goes.ld 3 (.tmp 11) 12 3 ⟨gx0, 1, none⟩ (.i y4.2.at_) (p5.c 1 1) ?_
  refine Goes.rn 6 [(6, .i y4.2.at_), (15, (pt gx0 0))] Jrt ?_
  have p5 := p5.fr 1
  refine bind_some' h fun y8 e9 h => ?_
  refine Goes.cal (.call { callee := .value (.func 48), args := #[(.tmp 15), (.const (.int .u8 42))], argTypes := #[66, 5] }) 16 4 48 _ (W.z2g y4.2 42 y8 e9 gx0 uga p5 (ugb.ext (z4.trans z5))) ?_
  rintro _ w6 ⟨S6, uhj, rfl, z6, p6, uhk⟩
  refine Goes.rn 2 [(14, .bool y8.1)] Jrs ?_
  refine ite_some h (fun h10 h => ?_) (fun h10 h => ?_)
  ·
   rw [h10]
   refine Goes.rn 8 [(4, .i 0), (5, .i (-1))] Jrv ?_
   refine Goes.ldN 28 (.tmp 3) 32 28 ⟨b6, 0, none⟩ (.i y4.1.Kind :: U4 y4.1.Set [.slice ujg y4.1.L.length uji, .i y4.1.Min, .i y4.1.Max]) (p6.pa 1 0) ?_
   have f12 : Els kT27 S6 w6 ((.i y4.1.Kind :: U4 y4.1.Set [.slice ujg y4.1.L.length uji, .i y4.1.Min, .i y4.1.Max]) : List Value) [y4.1] := by exact (Els.cons (K := kT27) (vs := (.i y4.1.Kind :: U4 y4.1.Set [.slice ujg y4.1.L.length uji, .i y4.1.Min, .i y4.1.Max])) (x := y4.1) (kT27_close ⟨[.i y4.1.Kind], (U4 y4.1.Set [.slice ujg y4.1.L.length uji, .i y4.1.Min, .i y4.1.Max]), rfl, rfl, ⟨(U4 y4.1.Set []), [.slice ujg y4.1.L.length uji, .i y4.1.Min, .i y4.1.Max], rfl, ⟨ujj, els_mk4 ujj⟩, ⟨[.slice ujg y4.1.L.length uji], [.i y4.1.Min, .i y4.1.Max], rfl, ⟨_, _, rfl, (ujk.ext ((z4.trans z5).trans z6))⟩, ⟨[.i y4.1.Min], [.i y4.1.Max], rfl, rfl, rfl⟩⟩⟩⟩) Els.nil)
   refine Op_.made (.buildSlice 26 1 #[(0, (.tmp 32))]) 33 26 (fun b => .slice (Gp (some b)) 1 1) 28 ((.i y4.1.Kind :: U4 y4.1.Set [.slice ujg y4.1.L.length uji, .i y4.1.Min, .i y4.1.Max]) : List Value) p6 Goes.v (by kernel_rfl) ?_
   intro b11 w7 z7 p7
   have p7 : Hp nz wz S6 w7 (((some b11), .row 28 ((.i y4.1.Kind :: U4 y4.1.Set [.slice ujg y4.1.L.length uji, .i y4.1.Min, .i y4.1.Max]) : List Value) (1 * kT27.size) 0) :: (some gx0, .row 69 [.string y8.2.s, .i y8.2.at_, .i y8.2.deep, uhj] 4 0) :: (some b6, .row 28 (.i y4.1.Kind :: U4 y4.1.Set [.slice ujg y4.1.L.length uji, .i y4.1.Min, .i y4.1.Max]) 8 0) :: (some b2, .row 28 [.i 0, .u 0, .u 0, .u 0, .u 0, .slice none 0 0, .i 0, .i 0] 8 0) :: Lr) := p7
   refine Goes.rn 3 [(34, .i 0), (35, .i (-1)), (36, .agg #[.i 4, .u 0, .u 0, .u 0, .u 0, .slice (Gp (some b11)) 1 1, .i 0, .i (-1)])] Jrw ?_
   refine Op_.st 28 (.tmp 2) (.tmp 36) 0 3 b2 0 (.agg #[.i 4, .u 0, .u 0, .u 0, .u 0, .slice (Gp (some b11)) 1 1, .i 0, .i (-1)]) [.i 4, .u 0, .u 0, .u 0, .u 0, .slice (Gp (some b11)) 1 1, .i 0, .i (-1)] p7 rfl Goes.s (by kernel_rfl) (by kernel_rfl) (by kernel_rfl) (by kernel_rfl) (Nat.zero_le _) (by simp only [List.length_cons, List.length_nil]; omega) (by simp [Value.oneCell']) ?_
   intro w8 z8 p8
   have p8 : Hp nz wz S6 w8 (((some b11), .row 28 ((.i y4.1.Kind :: U4 y4.1.Set [.slice ujg y4.1.L.length uji, .i y4.1.Min, .i y4.1.Max]) : List Value) (1 * kT27.size) 0) :: (some gx0, .row 69 [.string y8.2.s, .i y8.2.at_, .i y8.2.deep, uhj] 4 0) :: (some b6, .row 28 (.i y4.1.Kind :: U4 y4.1.Set [.slice ujg y4.1.L.length uji, .i y4.1.Min, .i y4.1.Max]) 8 0) :: (some b2, .row 28 [.i 4, .u 0, .u 0, .u 0, .u 0, .slice (Gp (some b11)) 1 1, .i 0, .i (-1)] 8 0) :: Lr) := p8
   refine Goes.rn 1 [] Jru ?_
   obtain ⟨S9, z9, p9, f14⟩ := p8.freezeRd 0 rfl (f12.ext (z7.trans z8)) (by decide)
   obtain rfl := Option.some.inj h
   have p9 := (p9.dp 0).dp 1
   have p9 := (p9.fr 0).fr 1
   exact Goes.ret (fn := Tryd.f66) (by kernel_rfl) (v := .agg #[.i 4, .u 0, .u 0, .u 0, .u 0, .slice (Gp (some b11)) 1 1, .i 0, .i (-1)]) (results_n1 (fn := Tryd.f66) (a := .cell 2 28) (by kernel_rfl) (resV_cell ⟨b2, 0, none⟩ (by kernel_rfl) (run_loadN [.i 4, .u 0, .u 0, .u 0, .u 0, .slice (Gp (some b11)) 1 1, .i 0, .i (-1)] (by kernel_rfl) (by kernel_rfl) (p9.pa 0 0)))) ⟨S9, (Gp (some b11)), 1, 1, uhj, rfl, (((((((((Ext.refl S0 w0).trans z2).trans z3).trans z4).trans z5).trans z6).trans z7).trans z8).trans z9), p9.drop, rfl, f14, rfl, (uhk.ext ((z7.trans z8).trans z9))⟩
  ·
   have u24 : y8.1 = false := by simpa using h10
   rw [u24]
   refine Goes.rn 4 [(18, (pt gx0 0))] Jry ?_
   refine bind_some' h fun y15 e16 h => ?_
   refine Goes.cal (.call { callee := .value (.func 48), args := #[(.tmp 18), (.const (.int .u8 43))], argTypes := #[66, 5] }) 19 4 48 _ (W.z2g y8.2 43 y15 e16 gx0 uhj p6 uhk) ?_
   rintro _ w10 ⟨S10, ugf, rfl, z10, p10, ugg⟩
   refine Goes.rn 2 [(17, .bool y15.1)] Jrx ?_
   refine ite_some h (fun h17 h => ?_) (fun h17 h => ?_)
   ·
    rw [h17]
    refine Goes.rn 7 [(5, .i (-1))] Jrv ?_
    refine Goes.ldN 28 (.tmp 3) 32 28 ⟨b6, 0, none⟩ (.i y4.1.Kind :: U4 y4.1.Set [.slice ujg y4.1.L.length uji, .i y4.1.Min, .i y4.1.Max]) (p10.pa 1 0) ?_
    have f19 : Els kT27 S10 w10 ((.i y4.1.Kind :: U4 y4.1.Set [.slice ujg y4.1.L.length uji, .i y4.1.Min, .i y4.1.Max]) : List Value) [y4.1] := by exact (Els.cons (K := kT27) (vs := (.i y4.1.Kind :: U4 y4.1.Set [.slice ujg y4.1.L.length uji, .i y4.1.Min, .i y4.1.Max])) (x := y4.1) (kT27_close ⟨[.i y4.1.Kind], (U4 y4.1.Set [.slice ujg y4.1.L.length uji, .i y4.1.Min, .i y4.1.Max]), rfl, rfl, ⟨(U4 y4.1.Set []), [.slice ujg y4.1.L.length uji, .i y4.1.Min, .i y4.1.Max], rfl, ⟨ujj, els_mk4 ujj⟩, ⟨[.slice ujg y4.1.L.length uji], [.i y4.1.Min, .i y4.1.Max], rfl, ⟨_, _, rfl, (ujk.ext (((z4.trans z5).trans z6).trans z10))⟩, ⟨[.i y4.1.Min], [.i y4.1.Max], rfl, rfl, rfl⟩⟩⟩⟩) Els.nil)
    refine Op_.made (.buildSlice 26 1 #[(0, (.tmp 32))]) 33 26 (fun b => .slice (Gp (some b)) 1 1) 28 ((.i y4.1.Kind :: U4 y4.1.Set [.slice ujg y4.1.L.length uji, .i y4.1.Min, .i y4.1.Max]) : List Value) p10 Goes.v (by kernel_rfl) ?_
    intro b18 w11 z11 p11
    have p11 : Hp nz wz S10 w11 (((some b18), .row 28 ((.i y4.1.Kind :: U4 y4.1.Set [.slice ujg y4.1.L.length uji, .i y4.1.Min, .i y4.1.Max]) : List Value) (1 * kT27.size) 0) :: (some gx0, .row 69 [.string y15.2.s, .i y15.2.at_, .i y15.2.deep, ugf] 4 0) :: (some b6, .row 28 (.i y4.1.Kind :: U4 y4.1.Set [.slice ujg y4.1.L.length uji, .i y4.1.Min, .i y4.1.Max]) 8 0) :: (some b2, .row 28 [.i 0, .u 0, .u 0, .u 0, .u 0, .slice none 0 0, .i 0, .i 0] 8 0) :: Lr) := p11
    refine Goes.rn 3 [(34, .i 1), (35, .i (-1)), (36, .agg #[.i 4, .u 0, .u 0, .u 0, .u 0, .slice (Gp (some b18)) 1 1, .i 1, .i (-1)])] Jrw ?_
    refine Op_.st 28 (.tmp 2) (.tmp 36) 0 3 b2 0 (.agg #[.i 4, .u 0, .u 0, .u 0, .u 0, .slice (Gp (some b18)) 1 1, .i 1, .i (-1)]) [.i 4, .u 0, .u 0, .u 0, .u 0, .slice (Gp (some b18)) 1 1, .i 1, .i (-1)] p11 rfl Goes.s (by kernel_rfl) (by kernel_rfl) (by kernel_rfl) (by kernel_rfl) (Nat.zero_le _) (by simp only [List.length_cons, List.length_nil]; omega) (by simp [Value.oneCell']) ?_
    intro w12 z12 p12
    have p12 : Hp nz wz S10 w12 (((some b18), .row 28 ((.i y4.1.Kind :: U4 y4.1.Set [.slice ujg y4.1.L.length uji, .i y4.1.Min, .i y4.1.Max]) : List Value) (1 * kT27.size) 0) :: (some gx0, .row 69 [.string y15.2.s, .i y15.2.at_, .i y15.2.deep, ugf] 4 0) :: (some b6, .row 28 (.i y4.1.Kind :: U4 y4.1.Set [.slice ujg y4.1.L.length uji, .i y4.1.Min, .i y4.1.Max]) 8 0) :: (some b2, .row 28 [.i 4, .u 0, .u 0, .u 0, .u 0, .slice (Gp (some b18)) 1 1, .i 1, .i (-1)] 8 0) :: Lr) := p12
    refine Goes.rn 1 [] Jru ?_
    obtain ⟨S13, z13, p13, f21⟩ := p12.freezeRd 0 rfl (f19.ext (z11.trans z12)) (by decide)
    obtain rfl := Option.some.inj h
    have p13 := (p13.dp 0).dp 1
    have p13 := (p13.fr 0).fr 1
    exact Goes.ret (fn := Tryd.f66) (by kernel_rfl) (v := .agg #[.i 4, .u 0, .u 0, .u 0, .u 0, .slice (Gp (some b18)) 1 1, .i 1, .i (-1)]) (results_n1 (fn := Tryd.f66) (a := .cell 2 28) (by kernel_rfl) (resV_cell ⟨b2, 0, none⟩ (by kernel_rfl) (run_loadN [.i 4, .u 0, .u 0, .u 0, .u 0, .slice (Gp (some b18)) 1 1, .i 1, .i (-1)] (by kernel_rfl) (by kernel_rfl) (p13.pa 0 0)))) ⟨S13, (Gp (some b18)), 1, 1, ugf, rfl, ((((((((((Ext.refl S0 w0).trans z2).trans z3).trans z4).trans z5).trans z6).trans z10).trans z11).trans z12).trans z13), p13.drop, rfl, f21, rfl, (ugg.ext ((z11.trans z12).trans z13))⟩
   ·
    have ukk : y15.1 = false := by simpa using h17
    rw [ukk]
    refine Goes.rn 4 [(21, (pt gx0 0))] Js0 ?_
    refine bind_some' h fun y22 e23 h => ?_
    refine Goes.cal (.call { callee := .value (.func 48), args := #[(.tmp 21), (.const (.int .u8 63))], argTypes := #[66, 5] }) 22 4 48 _ (W.z2g y15.2 63 y22 e23 gx0 ugf p10 ugg) ?_
    rintro _ w14 ⟨S14, ukl, rfl, z14, p14, ukm⟩
    refine Goes.rn 2 [(20, .bool y22.1)] Jrz ?_
    refine ite_some h (fun h24 h => ?_) (fun h24 h => ?_)
    ·
     rw [h24]
     refine Goes.rn 7 [(4, .i 0)] Jrv ?_
     refine Goes.ldN 28 (.tmp 3) 32 28 ⟨b6, 0, none⟩ (.i y4.1.Kind :: U4 y4.1.Set [.slice ujg y4.1.L.length uji, .i y4.1.Min, .i y4.1.Max]) (p14.pa 1 0) ?_
     have f26 : Els kT27 S14 w14 ((.i y4.1.Kind :: U4 y4.1.Set [.slice ujg y4.1.L.length uji, .i y4.1.Min, .i y4.1.Max]) : List Value) [y4.1] := by exact (Els.cons (K := kT27) (vs := (.i y4.1.Kind :: U4 y4.1.Set [.slice ujg y4.1.L.length uji, .i y4.1.Min, .i y4.1.Max])) (x := y4.1) (kT27_close ⟨[.i y4.1.Kind], (U4 y4.1.Set [.slice ujg y4.1.L.length uji, .i y4.1.Min, .i y4.1.Max]), rfl, rfl, ⟨(U4 y4.1.Set []), [.slice ujg y4.1.L.length uji, .i y4.1.Min, .i y4.1.Max], rfl, ⟨ujj, els_mk4 ujj⟩, ⟨[.slice ujg y4.1.L.length uji], [.i y4.1.Min, .i y4.1.Max], rfl, ⟨_, _, rfl, (ujk.ext ((((z4.trans z5).trans z6).trans z10).trans z14))⟩, ⟨[.i y4.1.Min], [.i y4.1.Max], rfl, rfl, rfl⟩⟩⟩⟩) Els.nil)
     refine Op_.made (.buildSlice 26 1 #[(0, (.tmp 32))]) 33 26 (fun b => .slice (Gp (some b)) 1 1) 28 ((.i y4.1.Kind :: U4 y4.1.Set [.slice ujg y4.1.L.length uji, .i y4.1.Min, .i y4.1.Max]) : List Value) p14 Goes.v (by kernel_rfl) ?_
     intro b25 w15 z15 p15
     have p15 : Hp nz wz S14 w15 (((some b25), .row 28 ((.i y4.1.Kind :: U4 y4.1.Set [.slice ujg y4.1.L.length uji, .i y4.1.Min, .i y4.1.Max]) : List Value) (1 * kT27.size) 0) :: (some gx0, .row 69 [.string y22.2.s, .i y22.2.at_, .i y22.2.deep, ukl] 4 0) :: (some b6, .row 28 (.i y4.1.Kind :: U4 y4.1.Set [.slice ujg y4.1.L.length uji, .i y4.1.Min, .i y4.1.Max]) 8 0) :: (some b2, .row 28 [.i 0, .u 0, .u 0, .u 0, .u 0, .slice none 0 0, .i 0, .i 0] 8 0) :: Lr) := p15
     refine Goes.rn 3 [(34, .i 0), (35, .i 1), (36, .agg #[.i 4, .u 0, .u 0, .u 0, .u 0, .slice (Gp (some b25)) 1 1, .i 0, .i 1])] Jrw ?_
     refine Op_.st 28 (.tmp 2) (.tmp 36) 0 3 b2 0 (.agg #[.i 4, .u 0, .u 0, .u 0, .u 0, .slice (Gp (some b25)) 1 1, .i 0, .i 1]) [.i 4, .u 0, .u 0, .u 0, .u 0, .slice (Gp (some b25)) 1 1, .i 0, .i 1] p15 rfl Goes.s (by kernel_rfl) (by kernel_rfl) (by kernel_rfl) (by kernel_rfl) (Nat.zero_le _) (by simp only [List.length_cons, List.length_nil]; omega) (by simp [Value.oneCell']) ?_
     intro w16 z16 p16
     have p16 : Hp nz wz S14 w16 (((some b25), .row 28 ((.i y4.1.Kind :: U4 y4.1.Set [.slice ujg y4.1.L.length uji, .i y4.1.Min, .i y4.1.Max]) : List Value) (1 * kT27.size) 0) :: (some gx0, .row 69 [.string y22.2.s, .i y22.2.at_, .i y22.2.deep, ukl] 4 0) :: (some b6, .row 28 (.i y4.1.Kind :: U4 y4.1.Set [.slice ujg y4.1.L.length uji, .i y4.1.Min, .i y4.1.Max]) 8 0) :: (some b2, .row 28 [.i 4, .u 0, .u 0, .u 0, .u 0, .slice (Gp (some b25)) 1 1, .i 0, .i 1] 8 0) :: Lr) := p16
     refine Goes.rn 1 [] Jru ?_
     obtain ⟨S17, z17, p17, f28⟩ := p16.freezeRd 0 rfl (f26.ext (z15.trans z16)) (by decide)
     obtain rfl := Option.some.inj h
     have p17 := (p17.dp 0).dp 1
     have p17 := (p17.fr 0).fr 1
     exact Goes.ret (fn := Tryd.f66) (by kernel_rfl) (v := .agg #[.i 4, .u 0, .u 0, .u 0, .u 0, .slice (Gp (some b25)) 1 1, .i 0, .i 1]) (results_n1 (fn := Tryd.f66) (a := .cell 2 28) (by kernel_rfl) (resV_cell ⟨b2, 0, none⟩ (by kernel_rfl) (run_loadN [.i 4, .u 0, .u 0, .u 0, .u 0, .slice (Gp (some b25)) 1 1, .i 0, .i 1] (by kernel_rfl) (by kernel_rfl) (p17.pa 0 0)))) ⟨S17, (Gp (some b25)), 1, 1, ukl, rfl, (((((((((((Ext.refl S0 w0).trans z2).trans z3).trans z4).trans z5).trans z6).trans z10).trans z14).trans z15).trans z16).trans z17), p17.drop, rfl, f28, rfl, (ukm.ext ((z15.trans z16).trans z17))⟩
    ·
     have ukn : y22.1 = false := by simpa using h24
     rw [ukn]
     refine Goes.rn 4 [(24, (pt gx0 0))] Js2 ?_
     refine bind_some' h fun y29 e30 h => ?_
     refine Goes.cal (.call { callee := .value (.func 48), args := #[(.tmp 24), (.const (.int .u8 123))], argTypes := #[66, 5] }) 25 4 48 _ (W.z2g y22.2 123 y29 e30 gx0 ukl p14 ukm) ?_
     rintro _ w18 ⟨S18, uko, rfl, z18, p18, ukp⟩
     refine Goes.rn 2 [(23, .bool y29.1)] Js1 ?_
     refine ite_some h (fun h31 h => ?_) (fun h31 h => ?_)
     ·
      rw [h31]
      refine Goes.rn 4 [(27, (pt gx0 0)), (28, .i y4.2.at_)] Js3 ?_
      refine bind_some' h fun y32 e33 h => ?_
      refine Goes.cal (kc 79 [27, 28] #[66, 3]) 29 104 79 _ (W.z3f y29.2 y4.2.at_ y32 e33 gx0 uko p18 ukp) ?_
      rintro _ w19 ⟨S19, uhe, rfl, z19, p19, uhh⟩
      refine Goes.rn 9 [(26, .tuple #[.i y32.1, .i y32.2.1]), (30, .i y32.1), (31, .i y32.2.1), (4, .i y32.1), (5, .i y32.2.1)] Jrv ?_
      refine Goes.ldN 28 (.tmp 3) 32 28 ⟨b6, 0, none⟩ (.i y4.1.Kind :: U4 y4.1.Set [.slice ujg y4.1.L.length uji, .i y4.1.Min, .i y4.1.Max]) (p19.pa 1 0) ?_
      have f35 : Els kT27 S19 w19 ((.i y4.1.Kind :: U4 y4.1.Set [.slice ujg y4.1.L.length uji, .i y4.1.Min, .i y4.1.Max]) : List Value) [y4.1] := by exact (Els.cons (K := kT27) (vs := (.i y4.1.Kind :: U4 y4.1.Set [.slice ujg y4.1.L.length uji, .i y4.1.Min, .i y4.1.Max])) (x := y4.1) (kT27_close ⟨[.i y4.1.Kind], (U4 y4.1.Set [.slice ujg y4.1.L.length uji, .i y4.1.Min, .i y4.1.Max]), rfl, rfl, ⟨(U4 y4.1.Set []), [.slice ujg y4.1.L.length uji, .i y4.1.Min, .i y4.1.Max], rfl, ⟨ujj, els_mk4 ujj⟩, ⟨[.slice ujg y4.1.L.length uji], [.i y4.1.Min, .i y4.1.Max], rfl, ⟨_, _, rfl, (ujk.ext ((((((z4.trans z5).trans z6).trans z10).trans z14).trans z18).trans z19))⟩, ⟨[.i y4.1.Min], [.i y4.1.Max], rfl, rfl, rfl⟩⟩⟩⟩) Els.nil)
      refine Op_.made (.buildSlice 26 1 #[(0, (.tmp 32))]) 33 26 (fun b => .slice (Gp (some b)) 1 1) 28 ((.i y4.1.Kind :: U4 y4.1.Set [.slice ujg y4.1.L.length uji, .i y4.1.Min, .i y4.1.Max]) : List Value) p19 Goes.v (by kernel_rfl) ?_
      intro b34 w20 z20 p20
      have p20 : Hp nz wz S19 w20 (((some b34), .row 28 ((.i y4.1.Kind :: U4 y4.1.Set [.slice ujg y4.1.L.length uji, .i y4.1.Min, .i y4.1.Max]) : List Value) (1 * kT27.size) 0) :: (some gx0, .row 69 [.string y32.2.2.s, .i y32.2.2.at_, .i y32.2.2.deep, uhe] 4 0) :: (some b6, .row 28 (.i y4.1.Kind :: U4 y4.1.Set [.slice ujg y4.1.L.length uji, .i y4.1.Min, .i y4.1.Max]) 8 0) :: (some b2, .row 28 [.i 0, .u 0, .u 0, .u 0, .u 0, .slice none 0 0, .i 0, .i 0] 8 0) :: Lr) := p20
      refine Goes.rn 3 [(34, .i y32.1), (35, .i y32.2.1), (36, .agg #[.i 4, .u 0, .u 0, .u 0, .u 0, .slice (Gp (some b34)) 1 1, .i y32.1, .i y32.2.1])] Jrw ?_
      refine Op_.st 28 (.tmp 2) (.tmp 36) 0 3 b2 0 (.agg #[.i 4, .u 0, .u 0, .u 0, .u 0, .slice (Gp (some b34)) 1 1, .i y32.1, .i y32.2.1]) [.i 4, .u 0, .u 0, .u 0, .u 0, .slice (Gp (some b34)) 1 1, .i y32.1, .i y32.2.1] p20 rfl Goes.s (by kernel_rfl) (by kernel_rfl) (by kernel_rfl) (by kernel_rfl) (Nat.zero_le _) (by simp only [List.length_cons, List.length_nil]; omega) (by simp [Value.oneCell']) ?_
      intro w21 z21 p21
      have p21 : Hp nz wz S19 w21 (((some b34), .row 28 ((.i y4.1.Kind :: U4 y4.1.Set [.slice ujg y4.1.L.length uji, .i y4.1.Min, .i y4.1.Max]) : List Value) (1 * kT27.size) 0) :: (some gx0, .row 69 [.string y32.2.2.s, .i y32.2.2.at_, .i y32.2.2.deep, uhe] 4 0) :: (some b6, .row 28 (.i y4.1.Kind :: U4 y4.1.Set [.slice ujg y4.1.L.length uji, .i y4.1.Min, .i y4.1.Max]) 8 0) :: (some b2, .row 28 [.i 4, .u 0, .u 0, .u 0, .u 0, .slice (Gp (some b34)) 1 1, .i y32.1, .i y32.2.1] 8 0) :: Lr) := p21
      refine Goes.rn 1 [] Jru ?_
      obtain ⟨S22, z22, p22, f37⟩ := p21.freezeRd 0 rfl (f35.ext (z20.trans z21)) (by decide)
      obtain rfl := Option.some.inj h
      have p22 := (p22.dp 0).dp 1
      have p22 := (p22.fr 0).fr 1
      exact Goes.ret (fn := Tryd.f66) (by kernel_rfl) (v := .agg #[.i 4, .u 0, .u 0, .u 0, .u 0, .slice (Gp (some b34)) 1 1, .i y32.1, .i y32.2.1]) (results_n1 (fn := Tryd.f66) (a := .cell 2 28) (by kernel_rfl) (resV_cell ⟨b2, 0, none⟩ (by kernel_rfl) (run_loadN [.i 4, .u 0, .u 0, .u 0, .u 0, .slice (Gp (some b34)) 1 1, .i y32.1, .i y32.2.1] (by kernel_rfl) (by kernel_rfl) (p22.pa 0 0)))) ⟨S22, (Gp (some b34)), 1, 1, uhe, rfl, (((((((((((((Ext.refl S0 w0).trans z2).trans z3).trans z4).trans z5).trans z6).trans z10).trans z14).trans z18).trans z19).trans z20).trans z21).trans z22), p22.drop, rfl, f37, rfl, (uhh.ext ((z20.trans z21).trans z22))⟩
     ·
      have ukq : y29.1 = false := by simpa using h31
      rw [ukq]
      refine Goes.rn 3 [] Js5 ?_
      refine Goes.ldN 28 (.tmp 3) 13 28 ⟨b6, 0, none⟩ (.i y4.1.Kind :: U4 y4.1.Set [.slice ujg y4.1.L.length uji, .i y4.1.Min, .i y4.1.Max]) (p18.pa 1 0) ?_
      refine Op_.st 28 (.tmp 2) (.tmp 13) 0 2 b2 0 (ag (.i y4.1.Kind :: U4 y4.1.Set [.slice ujg y4.1.L.length uji, .i y4.1.Min, .i y4.1.Max])) (.i y4.1.Kind :: U4 y4.1.Set [.slice ujg y4.1.L.length uji, .i y4.1.Min, .i y4.1.Max]) p18 rfl Goes.s (by kernel_rfl) (by kernel_rfl) (by kernel_rfl) (by kernel_rfl) (Nat.zero_le _) (by simp only [List.length_cons, List.length_nil]; omega) (by simp [Value.oneCell']) ?_
      intro w23 z23 p23
      have p23 : Hp nz wz S18 w23 ((some gx0, .row 69 [.string y29.2.s, .i y29.2.at_, .i y29.2.deep, uko] 4 0) :: (some b6, .row 28 (.i y4.1.Kind :: U4 y4.1.Set [.slice ujg y4.1.L.length uji, .i y4.1.Min, .i y4.1.Max]) 8 0) :: (some b2, .row 28 (.i y4.1.Kind :: U4 y4.1.Set [.slice ujg y4.1.L.length uji, .i y4.1.Min, .i y4.1.Max]) 8 0) :: Lr) := p23
      refine Goes.rn 1 [] Js4 ?_
      obtain rfl := Option.some.inj h
      have p23 := p23.dp 1
      have p23 := (p23.fr 0).fr 1
      exact Goes.ret (fn := Tryd.f66) (by kernel_rfl) (v := (ag (.i y4.1.Kind :: U4 y4.1.Set [.slice ujg y4.1.L.length uji, .i y4.1.Min, .i y4.1.Max]))) (results_n1 (fn := Tryd.f66) (a := .cell 2 28) (by kernel_rfl) (resV_cell ⟨b2, 0, none⟩ (by kernel_rfl) (run_loadN (.i y4.1.Kind :: U4 y4.1.Set [.slice ujg y4.1.L.length uji, .i y4.1.Min, .i y4.1.Max]) (by kernel_rfl) (by kernel_rfl) (p23.pa 0 0)))) ⟨S18, ujg, y4.1.L.length, uji, uko, rfl, ((((((((((Ext.refl S0 w0).trans z2).trans z3).trans z4).trans z5).trans z6).trans z10).trans z14).trans z18).trans z23), p23.drop, ujj, (ujk.ext ((((((z4.trans z5).trans z6).trans z10).trans z14).trans z18).trans z23)), rfl, (ukp.ext z23)⟩
 ·
  intro ukr uks x0v r h nz wz S0 w0 Lr iG gx0 udu p0 udv
  try dsimp only at h
  refine calls_of_goes (fn := Tryd.f78) (c := B78) (by kernel_rfl) (by kernel_rfl) 72 (by kernel_rfl) ?_
  refine Goes.jp 73 [(0, (pt gx0 0))] (fun junk => ?_)
  refine Goes.rn 2 [] Js7 ?_
  refine Op_.alloc 28 2 0 (.agg #[.i 0, .u 0, .u 0, .u 0, .u 0, .slice none 0 0, .i 0, .i 0]) [.i 0, .u 0, .u 0, .u 0, .u 0, .slice none 0 0, .i 0, .i 0] p0 Goes.v (by kernel_rfl) (by kernel_rfl) ?_
  intro b2 w2 z2 p2
  refine Goes.rn 4 [(4, (pt gx0 0))] Js9 ?_
  have p2 := p2.fr 1
  refine bind_some' h fun y4 e5 h => ?_
  refine Goes.cal (kc 65 [4] #[66]) 5 5 65 _ (W.z2d x0v y4 e5 gx0 udu p2 (udv.ext z2)) ?_
  rintro _ w3 ⟨S3, uga, rfl, z3, p3, ugb⟩
  refine Goes.rn 9 [(3, .int .u8 y4.1), (7, .int .u8 y4.1), (8, .bool (decide (y4.1 < 32))), (9, .bool (decide (y4.1 < 32)))] Jsa ?_
  refine ite_some h (fun h6 h => ?_) (fun h6 h => ?_)
  ·
   rw [decide_eq_true h6]
   refine Goes.rn 10 [(10, undef), (11, undef), (12, .bool true), (13, .bool true), (14, undef), (15, undef), (16, undef), (17, .bool true), (6, .bool true)] Jqv ?_
   have p3 : Hp nz wz S3 w3 ((none, .row 28 [] (0 * kT27.size) 0) :: (some gx0, .row 69 [.string y4.2.s, .i y4.2.at_, .i y4.2.deep, uga] 4 0) :: (some b2, .row 28 [.i 0, .u 0, .u 0, .u 0, .u 0, .slice none 0 0, .i 0, .i 0] 8 0) :: Lr) := p3.nilRow' 28
   have p3 := ((p3.fr 1).fr 1).fr 2
   exact Goes.jp 73 [(0, (pt gx0 0)), (2, (pt b2 0)), (3, .int .u8 y4.1), (6, .bool true)] (uks _ _ h gx0 _ _ (((Ext.refl S0 w0).trans z2).trans z3) b2 none 0 0 [] uga p3 rfl (Els.nil (K := kT27)) rfl ugb)
  ·
   rw [decide_eq_false h6]
   refine Goes.rn 4 [(10, .int .u8 y4.1), (11, .bool (decide (y4.1 > 126))), (12, .bool (decide (y4.1 > 126))), (13, .bool (decide (y4.1 > 126)))] Jsb ?_
   refine ite_some h (fun h10 h => ?_) (fun h10 h => ?_)
   ·
    rw [decide_eq_true h10]
    refine Goes.rn 6 [(14, undef), (15, undef), (16, undef), (17, .bool true), (6, .bool true)] Jqv ?_
    have p3 : Hp nz wz S3 w3 ((none, .row 28 [] (0 * kT27.size) 0) :: (some gx0, .row 69 [.string y4.2.s, .i y4.2.at_, .i y4.2.deep, uga] 4 0) :: (some b2, .row 28 [.i 0, .u 0, .u 0, .u 0, .u 0, .slice none 0 0, .i 0, .i 0] 8 0) :: Lr) := p3.nilRow' 28
    have p3 := ((p3.fr 1).fr 1).fr 2
    exact Goes.jp 73 [(0, (pt gx0 0)), (2, (pt b2 0)), (3, .int .u8 y4.1), (6, .bool true)] (uks _ _ h gx0 _ _ (((Ext.refl S0 w0).trans z2).trans z3) b2 none 0 0 [] uga p3 rfl (Els.nil (K := kT27)) rfl ugb)
   ·
    rw [decide_eq_false h10]
    refine Goes.rn 1 [(14, .int .u8 y4.1)] Jsc ?_
    refine bind_some' h fun y12 e13 h => ?_
    refine Goes.cal (.call { callee := .value (.func 45), args := #[(.const (.string ⟨#[93, 41, 42, 43, 63, 123, 125, 94, 36, 124]⟩)), (.tmp 14)], argTypes := #[9, 5] }) 15 3 45 _ (W.z2v (⟨#[93, 41, 42, 43, 63, 123, 125, 94, 36, 124]⟩ : ByteArray) y4.1 y12 e13  p3 ) ?_
    rintro _ w4 ⟨S4, rfl, z4, p4⟩
    refine Goes.rn 4 [(16, .bool (decide (y12 ≥ 0))), (17, .bool (decide (y12 ≥ 0))), (6, .bool (decide (y12 ≥ 0)))] Jqv ?_
    have p4 : Hp nz wz S4 w4 ((none, .row 28 [] (0 * kT27.size) 0) :: (some gx0, .row 69 [.string y4.2.s, .i y4.2.at_, .i y4.2.deep, uga] 4 0) :: (some b2, .row 28 [.i 0, .u 0, .u 0, .u 0, .u 0, .slice none 0 0, .i 0, .i 0] 8 0) :: Lr) := p4.nilRow' 28
    have p4 := ((p4.fr 1).fr 1).fr 2
    exact Goes.jp 73 [(0, (pt gx0 0)), (2, (pt b2 0)), (3, .int .u8 y4.1), (6, .bool (decide (y12 ≥ 0)))] (uks _ _ h gx0 _ _ ((((Ext.refl S0 w0).trans z2).trans z3).trans z4) b2 none 0 0 [] uga p4 rfl (Els.nil (K := kT27)) rfl (ugb.ext z4))
 ·
  intro ukt uku ⟨x2v, x3, x6, e0v⟩ r h nz wz S0 w0 Lr iG gx0 S1 w1 hx gx2 uk4 u7i u7j uk5 uds p1 u7o u7p u7q udt junk
  try dsimp only at h
  subst u7q
  refine ite_some h (fun h15 h => ?_) (fun h15 h => ?_)
  ·
   rw [h15]
   refine Goes.rn 7 [(18, (pt gx0 0)), (19, (pt gx0 0)), (20, (pt gx0 0)), (21, (pt gx0 1))] Jse ?_
   refine Goes.ld 3 (.tmp 21) 22 3 ⟨gx0, 1, none⟩ (.i e0v.at_) (p1.c 2 1) ?_
   have p1 := p1.fr 2
   refine bind_some' h fun y16 e17 h => ?_
   refine Goes.cal (kc 31 [18, 22] #[66, 3]) 23 28 31 _ (W.z2f e0v e0v.at_ y16 e17 gx0 uds p1 udt) ?_
   rintro _ w5 ⟨S5, ukv, ukw, ukx, ugv, rfl, z5, p5, uky, ukz, rfl, ugx⟩
   refine Op_.st 28 (.tmp 2) (.tmp 23) 0 1 gx2 0 (ag (.i y16.1.Kind :: U4 y16.1.Set [.slice ukv y16.1.L.length ukx, .i y16.1.Min, .i y16.1.Max])) (.i y16.1.Kind :: U4 y16.1.Set [.slice ukv y16.1.L.length ukx, .i y16.1.Min, .i y16.1.Max]) p5 rfl Goes.s (by kernel_rfl) (by kernel_rfl) (by kernel_rfl) (by kernel_rfl) (Nat.zero_le _) (by simp only [List.length_cons, List.length_nil]; omega) (by simp [Value.oneCell']) ?_
   intro w6 z6 p6
   have p6 : Hp nz wz S5 w6 ((some gx0, .row 69 [.string y16.2.s, .i y16.2.at_, .i y16.2.deep, ugv] 4 0) :: (some gx2, .row 28 (.i y16.1.Kind :: U4 y16.1.Set [.slice ukv y16.1.L.length ukx, .i y16.1.Min, .i y16.1.Max]) 8 0) :: (uk4, .row 28 uk5 (u7j * kT27.size) 0) :: Lr) := p6
   refine Goes.rn 1 [] Jsd ?_
   obtain rfl := Option.some.inj h
   have p6 := p6.dp 2
   have p6 := (p6.fr 0).fr 1
   exact Goes.ret (fn := Tryd.f78) (by kernel_rfl) (v := (ag (.i y16.1.Kind :: U4 y16.1.Set [.slice ukv y16.1.L.length ukx, .i y16.1.Min, .i y16.1.Max]))) (results_n1 (fn := Tryd.f78) (a := .cell 2 28) (by kernel_rfl) (resV_cell ⟨gx2, 0, none⟩ (by kernel_rfl) (run_loadN (.i y16.1.Kind :: U4 y16.1.Set [.slice ukv y16.1.L.length ukx, .i y16.1.Min, .i y16.1.Max]) (by kernel_rfl) (by kernel_rfl) (p6.pa 0 0)))) ⟨S5, ukv, y16.1.L.length, ukx, ugv, rfl, ((hx.trans z5).trans z6), p6.drop, uky, (ukz.ext z6), rfl, (ugx.ext z6)⟩
  ·
   have u83 : x6 = false := by simpa using h15
   rw [u83]
   refine Goes.rn 6 [(25, .int .u8 x3), (26, .bool (decide (x3 = 40))), (27, .bool (decide (x3 = 40)))] Jsf ?_
   refine ite_some h (fun h18 h => ?_) (fun h18 h => ?_)
   ·
    rw [decide_eq_true h18]
    refine Goes.rn 3 [(28, (pt gx0 0)), (29, (pt gx0 0)), (30, (pt gx0 2))] Jsg ?_
    refine Goes.ld 3 (.tmp 30) 31 3 ⟨gx0, 2, none⟩ (.i e0v.deep) (p1.c 2 2) ?_
    refine Goes.rn 4 [(32, .bool (decide (e0v.deep = 32))), (33, .bool (decide (e0v.deep = 32))), (24, .bool (decide (e0v.deep = 32)))] Jqw ?_
    exact Goes.jp 73 [(0, (pt gx0 0)), (2, (pt gx2 0)), (3, .int .u8 x3), (24, .bool (decide (e0v.deep = 32)))] (uku _ _ h gx0 _ _ hx gx2 uk4 x2v.L.length u7j uk5 uds p1 u7o u7p rfl udt)
   ·
    rw [decide_eq_false h18]
    refine Goes.rn 8 [(28, undef), (29, undef), (30, undef), (31, undef), (32, undef), (33, .bool false), (24, .bool false)] Jqw ?_
    exact Goes.jp 73 [(0, (pt gx0 0)), (2, (pt gx2 0)), (3, .int .u8 x3), (24, .bool false)] (uku _ _ h gx0 _ _ hx gx2 uk4 x2v.L.length u7j uk5 uds p1 u7o u7p rfl udt)
 ·
  intro rec_syntax_parser_group ih_syntax_parser_group ⟨x2v, x3, x24, e0v⟩ r h nz wz S0 w0 Lr iG gx0 S1 w1 hx gx2 uk4 u7i u7j uk5 uds p1 u7o u7p u7q udt junk
  try dsimp only at h
  subst u7q
  refine ite_some h (fun h21 h => ?_) (fun h21 h => ?_)
  ·
   rw [h21]
   refine Goes.rn 7 [(34, (pt gx0 0)), (35, (pt gx0 0)), (36, (pt gx0 0)), (37, (pt gx0 1))] Jsi ?_
   refine Goes.ld 3 (.tmp 37) 38 3 ⟨gx0, 1, none⟩ (.i e0v.at_) (p1.c 2 1) ?_
   have p1 := p1.fr 2
   refine bind_some' h fun y22 e23 h => ?_
   refine Goes.cal (kc 31 [34, 38] #[66, 3]) 39 28 31 _ (W.z2f e0v e0v.at_ y22 e23 gx0 uds p1 udt) ?_
   rintro _ w7 ⟨S7, ujw, ujx, ujy, ujq, rfl, z7, p7, ujz, uk0, rfl, ujr⟩
   refine Op_.st 28 (.tmp 2) (.tmp 39) 0 1 gx2 0 (ag (.i y22.1.Kind :: U4 y22.1.Set [.slice ujw y22.1.L.length ujy, .i y22.1.Min, .i y22.1.Max])) (.i y22.1.Kind :: U4 y22.1.Set [.slice ujw y22.1.L.length ujy, .i y22.1.Min, .i y22.1.Max]) p7 rfl Goes.s (by kernel_rfl) (by kernel_rfl) (by kernel_rfl) (by kernel_rfl) (Nat.zero_le _) (by simp only [List.length_cons, List.length_nil]; omega) (by simp [Value.oneCell']) ?_
   intro w8 z8 p8
   have p8 : Hp nz wz S7 w8 ((some gx0, .row 69 [.string y22.2.s, .i y22.2.at_, .i y22.2.deep, ujq] 4 0) :: (some gx2, .row 28 (.i y22.1.Kind :: U4 y22.1.Set [.slice ujw y22.1.L.length ujy, .i y22.1.Min, .i y22.1.Max]) 8 0) :: (uk4, .row 28 uk5 (u7j * kT27.size) 0) :: Lr) := p8
   refine Goes.rn 1 [] Jsh ?_
   obtain rfl := Option.some.inj h
   have p8 := p8.dp 2
   have p8 := (p8.fr 0).fr 1
   exact Goes.ret (fn := Tryd.f78) (by kernel_rfl) (v := (ag (.i y22.1.Kind :: U4 y22.1.Set [.slice ujw y22.1.L.length ujy, .i y22.1.Min, .i y22.1.Max]))) (results_n1 (fn := Tryd.f78) (a := .cell 2 28) (by kernel_rfl) (resV_cell ⟨gx2, 0, none⟩ (by kernel_rfl) (run_loadN (.i y22.1.Kind :: U4 y22.1.Set [.slice ujw y22.1.L.length ujy, .i y22.1.Min, .i y22.1.Max]) (by kernel_rfl) (by kernel_rfl) (p8.pa 0 0)))) ⟨S7, ujw, y22.1.L.length, ujy, ujq, rfl, ((hx.trans z7).trans z8), p8.drop, ujz, (uk0.ext z8), rfl, (ujr.ext z8)⟩
  ·
   have ul0 : x24 = false := by simpa using h21
   rw [ul0]
   refine Goes.rn 4 [(41, (pt gx0 0))] Jsk ?_
   have p1 := p1.fr 2
   refine bind_some' h fun y24 e25 h => ?_
   refine Goes.cal (.call { callee := .value (.func 48), args := #[(.tmp 41), (.const (.int .u8 46))], argTypes := #[66, 5] }) 42 4 48 _ (W.z2g e0v 46 y24 e25 gx0 uds p1 udt) ?_
   rintro _ w9 ⟨S9, uk2, rfl, z9, p9, uk3⟩
   refine Goes.rn 2 [(40, .bool y24.1)] Jsj ?_
   refine ite_some h (fun h26 h => ?_) (fun h26 h => ?_)
   ·
    rw [h26]
    refine Goes.rn 3 [] Jsm ?_
    refine bind_some' h fun y27 e28 h => ?_
    refine Goes.cal (.call { callee := .value (.func 90), args := #[(.const (.int .u8 10))], argTypes := #[5] }) 43 25 90 _ (W.z2i 10 y27 e28  p9 ) ?_
    rintro _ w10 ⟨S10, uer, rfl, z10, p10, ues, uet⟩
    refine bind_some' h fun y29 e30 h => ?_
    refine Goes.cal (kc 89 [43] #[25]) 44 25 89 _ (W.z2j y27 y29 e30 uer p10 ues uet) ?_
    rintro _ w11 ⟨S11, ul1, rfl, z11, p11, ul2, ul3⟩
    have l31 := Els.len1 ul2 ul3 rfl
    obtain rfl := els_lit4 ul2 ul3
    refine Goes.rn 1 [(45, (ag (.i 1 :: U4 y29 [.slice none 0 0, .i 0, .i 0])))] Jsn ?_
    refine Op_.st 28 (.tmp 2) (.tmp 45) 0 1 gx2 0 (ag (.i 1 :: U4 y29 [.slice none 0 0, .i 0, .i 0])) (.i 1 :: U4 y29 [.slice none 0 0, .i 0, .i 0]) p11 rfl Goes.s (by kernel_rfl) (by kernel_rfl) (by kernel_rfl) (by kernel_rfl) (Nat.zero_le _) (by simp only [List.length_cons, List.length_nil]; omega) (by simp [Value.oneCell']) ?_
    intro w12 z12 p12
    have p12 : Hp nz wz S11 w12 ((some gx0, .row 69 [.string y24.2.s, .i y24.2.at_, .i y24.2.deep, uk2] 4 0) :: (some gx2, .row 28 (.i 1 :: U4 y29 [.slice none 0 0, .i 0, .i 0]) 8 0) :: (uk4, .row 28 uk5 (u7j * kT27.size) 0) :: Lr) := p12
    refine Goes.rn 1 [] Jsl ?_
    obtain rfl := Option.some.inj h
    have p12 := p12.dp 2
    have p12 := (p12.fr 0).fr 1
    exact Goes.ret (fn := Tryd.f78) (by kernel_rfl) (v := (ag (.i 1 :: U4 y29 [.slice none 0 0, .i 0, .i 0]))) (results_n1 (fn := Tryd.f78) (a := .cell 2 28) (by kernel_rfl) (resV_cell ⟨gx2, 0, none⟩ (by kernel_rfl) (run_loadN (.i 1 :: U4 y29 [.slice none 0 0, .i 0, .i 0]) (by kernel_rfl) (by kernel_rfl) (p12.pa 0 0)))) ⟨S11, none, 0, 0, uk2, rfl, ((((hx.trans z9).trans z10).trans z11).trans z12), p12.drop, l31, Rd.none_, rfl, (uk3.ext ((z10.trans z11).trans z12))⟩
   ·
    have ul4 : y24.1 = false := by simpa using h26
    rw [ul4]
    refine Goes.rn 4 [(47, (pt gx0 0))] Jsp ?_
    refine bind_some' h fun y32 e33 h => ?_
    refine Goes.cal (.call { callee := .value (.func 48), args := #[(.tmp 47), (.const (.int .u8 91))], argTypes := #[66, 5] }) 48 4 48 _ (W.z2g y24.2 91 y32 e33 gx0 uk2 p9 uk3) ?_
    rintro _ w13 ⟨S13, ul5, rfl, z13, p13, ul6⟩
    refine Goes.rn 2 [(46, .bool y32.1)] Jso ?_
    refine ite_some h (fun h34 h => ?_) (fun h34 h => ?_)
    ·
     rw [h34]
     refine Goes.rn 4 [(49, (pt gx0 0))] Jsr ?_
     refine bind_some' h fun y35 e36 h => ?_
     refine Goes.cal (kc 91 [49] #[66]) 50 28 91 _ (W.z3a y32.2 y35 e36 gx0 ul5 p13 ul6) ?_
     rintro _ w14 ⟨S14, ul7, ul8, ul9, ukl, rfl, z14, p14, ula, ulb, rfl, ukm⟩
     refine Op_.st 28 (.tmp 2) (.tmp 50) 0 1 gx2 0 (ag (.i y35.1.Kind :: U4 y35.1.Set [.slice ul7 y35.1.L.length ul9, .i y35.1.Min, .i y35.1.Max])) (.i y35.1.Kind :: U4 y35.1.Set [.slice ul7 y35.1.L.length ul9, .i y35.1.Min, .i y35.1.Max]) p14 rfl Goes.s (by kernel_rfl) (by kernel_rfl) (by kernel_rfl) (by kernel_rfl) (Nat.zero_le _) (by simp only [List.length_cons, List.length_nil]; omega) (by simp [Value.oneCell']) ?_
     intro w15 z15 p15
     have p15 : Hp nz wz S14 w15 ((some gx0, .row 69 [.string y35.2.s, .i y35.2.at_, .i y35.2.deep, ukl] 4 0) :: (some gx2, .row 28 (.i y35.1.Kind :: U4 y35.1.Set [.slice ul7 y35.1.L.length ul9, .i y35.1.Min, .i y35.1.Max]) 8 0) :: (uk4, .row 28 uk5 (u7j * kT27.size) 0) :: Lr) := p15
     refine Goes.rn 1 [] Jsq ?_
     obtain rfl := Option.some.inj h
     have p15 := p15.dp 2
     have p15 := (p15.fr 0).fr 1
     exact Goes.ret (fn := Tryd.f78) (by kernel_rfl) (v := (ag (.i y35.1.Kind :: U4 y35.1.Set [.slice ul7 y35.1.L.length ul9, .i y35.1.Min, .i y35.1.Max]))) (results_n1 (fn := Tryd.f78) (a := .cell 2 28) (by kernel_rfl) (resV_cell ⟨gx2, 0, none⟩ (by kernel_rfl) (run_loadN (.i y35.1.Kind :: U4 y35.1.Set [.slice ul7 y35.1.L.length ul9, .i y35.1.Min, .i y35.1.Max]) (by kernel_rfl) (by kernel_rfl) (p15.pa 0 0)))) ⟨S14, ul7, y35.1.L.length, ul9, ukl, rfl, ((((hx.trans z9).trans z13).trans z14).trans z15), p15.drop, ula, (ulb.ext z15), rfl, (ukm.ext z15)⟩
    ·
     have ulc : y32.1 = false := by simpa using h34
     rw [ulc]
     refine Goes.rn 4 [(52, (pt gx0 0))] Jst ?_
     refine bind_some' h fun y37 e38 h => ?_
     refine Goes.cal (.call { callee := .value (.func 48), args := #[(.tmp 52), (.const (.int .u8 40))], argTypes := #[66, 5] }) 53 4 48 _ (W.z2g y32.2 40 y37 e38 gx0 ul5 p13 ul6) ?_
     rintro _ w16 ⟨S16, uld, rfl, z16, p16, ule⟩
     refine Goes.rn 2 [(51, .bool y37.1)] Jss ?_
     refine ite_some h (fun h39 h => ?_) (fun h39 h => ?_)
     ·
      rw [h39]
      refine Goes.rn 4 [(54, (pt gx0 0))] Jsv ?_
      refine bind_some' h fun y40 e41 h => ?_
      refine Goes.cal (kc 92 [54] #[66]) 55 28 92 _ (ih_syntax_parser_group y37.2 y40 e41 gx0 uld p16 ule) ?_
      rintro _ w17 ⟨S17, ulf, ulg, ulh, uli, rfl, z17, p17, ulj, ulk, rfl, ull⟩
      refine Op_.st 28 (.tmp 2) (.tmp 55) 0 1 gx2 0 (ag (.i y40.1.Kind :: U4 y40.1.Set [.slice ulf y40.1.L.length ulh, .i y40.1.Min, .i y40.1.Max])) (.i y40.1.Kind :: U4 y40.1.Set [.slice ulf y40.1.L.length ulh, .i y40.1.Min, .i y40.1.Max]) p17 rfl Goes.s (by kernel_rfl) (by kernel_rfl) (by kernel_rfl) (by kernel_rfl) (Nat.zero_le _) (by simp only [List.length_cons, List.length_nil]; omega) (by simp [Value.oneCell']) ?_
      intro w18 z18 p18
      have p18 : Hp nz wz S17 w18 ((some gx0, .row 69 [.string y40.2.s, .i y40.2.at_, .i y40.2.deep, uli] 4 0) :: (some gx2, .row 28 (.i y40.1.Kind :: U4 y40.1.Set [.slice ulf y40.1.L.length ulh, .i y40.1.Min, .i y40.1.Max]) 8 0) :: (uk4, .row 28 uk5 (u7j * kT27.size) 0) :: Lr) := p18
      refine Goes.rn 1 [] Jsu ?_
      obtain rfl := Option.some.inj h
      have p18 := p18.dp 2
      have p18 := (p18.fr 0).fr 1
      exact Goes.ret (fn := Tryd.f78) (by kernel_rfl) (v := (ag (.i y40.1.Kind :: U4 y40.1.Set [.slice ulf y40.1.L.length ulh, .i y40.1.Min, .i y40.1.Max]))) (results_n1 (fn := Tryd.f78) (a := .cell 2 28) (by kernel_rfl) (resV_cell ⟨gx2, 0, none⟩ (by kernel_rfl) (run_loadN (.i y40.1.Kind :: U4 y40.1.Set [.slice ulf y40.1.L.length ulh, .i y40.1.Min, .i y40.1.Max]) (by kernel_rfl) (by kernel_rfl) (p18.pa 0 0)))) ⟨S17, ulf, y40.1.L.length, ulh, uli, rfl, (((((hx.trans z9).trans z13).trans z16).trans z17).trans z18), p18.drop, ulj, (ulk.ext z18), rfl, (ull.ext z18)⟩
     ·
      have ulm : y37.1 = false := by simpa using h39
      rw [ulm]
      refine Goes.rn 4 [(57, (pt gx0 0))] Jsx ?_
      refine bind_some' h fun y42 e43 h => ?_
      refine Goes.cal (.call { callee := .value (.func 48), args := #[(.tmp 57), (.const (.int .u8 92))], argTypes := #[66, 5] }) 58 4 48 _ (W.z2g y37.2 92 y42 e43 gx0 uld p16 ule) ?_
      rintro _ w19 ⟨S19, uhe, rfl, z19, p19, uhh⟩
      refine Goes.rn 2 [(56, .bool y42.1)] Jsw ?_
      refine ite_some h (fun h44 h => ?_) (fun h44 h => ?_)
      ·
       rw [h44]
       refine Goes.rn 4 [(59, (pt gx0 0))] Jsz ?_
       refine bind_some' h fun y45 e46 h => ?_
       refine Goes.cal (kc 93 [59] #[66]) 60 127 93 _ (W.z2z y42.2 y45 e46 gx0 uhe p19 uhh) ?_
       rintro _ w20 ⟨S20, uln, rfl, z20, p20, ulo, ulp⟩
       refine Goes.rn 2 [(61, (ag (U4 y45.1.set_ []))), (62, (ag (.i 1 :: U4 y45.1.set_ [.slice none 0 0, .i 0, .i 0])))] Jt0 ?_
       refine Op_.st 28 (.tmp 2) (.tmp 62) 0 1 gx2 0 (ag (.i 1 :: U4 y45.1.set_ [.slice none 0 0, .i 0, .i 0])) (.i 1 :: U4 y45.1.set_ [.slice none 0 0, .i 0, .i 0]) p20 rfl Goes.s (by kernel_rfl) (by kernel_rfl) (by kernel_rfl) (by kernel_rfl) (Nat.zero_le _) (by simp only [List.length_cons, List.length_nil]; omega) (by simp [Value.oneCell']) ?_
       intro w21 z21 p21
       have p21 : Hp nz wz S20 w21 ((some gx0, .row 69 [.string y45.2.s, .i y45.2.at_, .i y45.2.deep, uln] 4 0) :: (some gx2, .row 28 (.i 1 :: U4 y45.1.set_ [.slice none 0 0, .i 0, .i 0]) 8 0) :: (uk4, .row 28 uk5 (u7j * kT27.size) 0) :: Lr) := p21
       refine Goes.rn 1 [] Jsy ?_
       obtain rfl := Option.some.inj h
       have p21 := p21.dp 2
       have p21 := (p21.fr 0).fr 1
       exact Goes.ret (fn := Tryd.f78) (by kernel_rfl) (v := (ag (.i 1 :: U4 y45.1.set_ [.slice none 0 0, .i 0, .i 0]))) (results_n1 (fn := Tryd.f78) (a := .cell 2 28) (by kernel_rfl) (resV_cell ⟨gx2, 0, none⟩ (by kernel_rfl) (run_loadN (.i 1 :: U4 y45.1.set_ [.slice none 0 0, .i 0, .i 0]) (by kernel_rfl) (by kernel_rfl) (p21.pa 0 0)))) ⟨S20, none, 0, 0, uln, rfl, ((((((hx.trans z9).trans z13).trans z16).trans z19).trans z20).trans z21), p21.drop, ulo, Rd.none_, rfl, (ulp.ext z21)⟩
      ·
       have ulq : y42.1 = false := by simpa using h44
       rw [ulq]
       refine Goes.rn 8 [(63, (pt gx0 0)), (64, (pt gx0 0)), (65, (pt gx0 1))] Jt2 ?_
       refine Goes.ld 3 (.tmp 65) 66 3 ⟨gx0, 1, none⟩ (.i y42.2.at_) (p19.c 0 1) ?_
       refine Goes.rn 3 [(67, .i (wr .i64 (y42.2.at_ + 1))), (68, (pt gx0 0)), (69, (pt gx0 1))] Jt3 ?_
       refine Op_.st 3 (.tmp 69) (.tmp 67) 0 0 gx0 1 (.i (wr .i64 (y42.2.at_ + 1))) [.i (wr .i64 (y42.2.at_ + 1))] p19 rfl Goes.s (by kernel_rfl) (by kernel_rfl) (by kernel_rfl) (by kernel_rfl) (Nat.zero_le _) (by simp only [List.length_cons, List.length_nil]; omega) (by simp [Value.oneCell']) ?_
       intro w22 z22 p22
       have p22 : Hp nz wz S19 w22 ((some gx0, .row 69 [.string y42.2.s, .i (wr .i64 (y42.2.at_ + 1)), .i y42.2.deep, uhe] 4 0) :: (some gx2, .row 28 (.i x2v.Kind :: U4 x2v.Set [.slice (Gp uk4) x2v.L.length u7j, .i x2v.Min, .i x2v.Max]) 8 0) :: (uk4, .row 28 uk5 (u7j * kT27.size) 0) :: Lr) := p22
       refine Goes.rn 4 [(70, .int .u8 x3)] Jt5 ?_
       refine bind_some' h fun y47 e48 h => ?_
       refine Goes.cal (kc 90 [70] #[5]) 71 25 90 _ (W.z2i x3 y47 e48  p22 ) ?_
       rintro _ w23 ⟨S23, uf3, rfl, z23, p23, uf4, uf5⟩
       have l49 := Els.len1 uf4 uf5 rfl
       obtain rfl := els_lit4 uf4 uf5
       refine Goes.rn 1 [(72, (ag (.i 1 :: U4 y47 [.slice none 0 0, .i 0, .i 0])))] Jt6 ?_
       refine Op_.st 28 (.tmp 2) (.tmp 72) 0 1 gx2 0 (ag (.i 1 :: U4 y47 [.slice none 0 0, .i 0, .i 0])) (.i 1 :: U4 y47 [.slice none 0 0, .i 0, .i 0]) p23 rfl Goes.s (by kernel_rfl) (by kernel_rfl) (by kernel_rfl) (by kernel_rfl) (Nat.zero_le _) (by simp only [List.length_cons, List.length_nil]; omega) (by simp [Value.oneCell']) ?_
       intro w24 z24 p24
       have p24 : Hp nz wz S23 w24 ((some gx0, .row 69 [.string y42.2.s, .i (wr .i64 (y42.2.at_ + 1)), .i y42.2.deep, uhe] 4 0) :: (some gx2, .row 28 (.i 1 :: U4 y47 [.slice none 0 0, .i 0, .i 0]) 8 0) :: (uk4, .row 28 uk5 (u7j * kT27.size) 0) :: Lr) := p24
       refine Goes.rn 1 [] Jt4 ?_
       obtain rfl := Option.some.inj h
       have p24 := p24.dp 2
       have p24 := (p24.fr 0).fr 1
       exact Goes.ret (fn := Tryd.f78) (by kernel_rfl) (v := (ag (.i 1 :: U4 y47 [.slice none 0 0, .i 0, .i 0]))) (results_n1 (fn := Tryd.f78) (a := .cell 2 28) (by kernel_rfl) (resV_cell ⟨gx2, 0, none⟩ (by kernel_rfl) (run_loadN (.i 1 :: U4 y47 [.slice none 0 0, .i 0, .i 0]) (by kernel_rfl) (by kernel_rfl) (p24.pa 0 0)))) ⟨S23, none, 0, 0, uhe, rfl, (((((((hx.trans z9).trans z13).trans z16).trans z19).trans z22).trans z23).trans z24), p24.drop, l49, Rd.none_, rfl, (uhh.ext ((z22.trans z23).trans z24))⟩
 ·
  intro ulr uls x0v r h nz wz S0 w0 Lr iG gx0 udu p0 udv
  try dsimp only at h
  refine calls_of_goes (fn := Tryd.f92) (c := B92) (by kernel_rfl) (by kernel_rfl) 26 (by kernel_rfl) ?_
  refine Goes.jp 27 [(0, (pt gx0 0))] (fun junk => ?_)
  refine Goes.rn 2 [] Jt8 ?_
  refine Op_.alloc 28 2 0 (.agg #[.i 0, .u 0, .u 0, .u 0, .u 0, .slice none 0 0, .i 0, .i 0]) [.i 0, .u 0, .u 0, .u 0, .u 0, .slice none 0 0, .i 0, .i 0] p0 Goes.v (by kernel_rfl) (by kernel_rfl) ?_
  intro b2 w2 z2 p2
  refine Goes.rn 5 [(4, (pt gx0 0))] Jta ?_
  have p2 := p2.fr 1
  refine bind_some' h fun y4 e5 h => ?_
  refine Goes.cal (.call { callee := .value (.func 48), args := #[(.tmp 4), (.const (.int .u8 63))], argTypes := #[66, 5] }) 5 4 48 _ (W.z2g x0v 63 y4 e5 gx0 udu p2 (udv.ext z2)) ?_
  rintro _ w3 ⟨S3, uga, rfl, z3, p3, ugb⟩
  refine Goes.rn 1 [] Jt9 ?_
  refine ite_some h (fun h6 h => ?_) (fun h6 h => ?_)
  ·
   rw [h6]
   refine Goes.rn 3 [(6, (pt gx0 0))] Jtb ?_
   refine bind_some' h fun y7 e8 h => ?_
   refine Goes.cal (.call { callee := .value (.func 95), args := #[(.tmp 6), (.const (.int .u8 58))], argTypes := #[66, 5] }) 7 0 95 _ (W.z3b y4.2 58 y7 e8 gx0 uga p3 ugb) ?_
   rintro _ w4 ⟨S4, ufu, rfl, z4, p4, ufx⟩
   refine Goes.rn 1 [] Jqx ?_
   have p4 : Hp nz wz S4 w4 ((none, .row 28 [] (0 * kT27.size) 0) :: (some gx0, .row 69 [.string y7.s, .i y7.at_, .i y7.deep, ufu] 4 0) :: (some b2, .row 28 [.i 0, .u 0, .u 0, .u 0, .u 0, .slice none 0 0, .i 0, .i 0] 8 0) :: Lr) := p4.nilRow' 28
   have p4 := ((p4.fr 1).fr 1).fr 2
   exact Goes.jp 27 [(0, (pt gx0 0)), (2, (pt b2 0))] (uls _ _ h gx0 _ _ ((((Ext.refl S0 w0).trans z2).trans z3).trans z4) b2 none 0 0 [] ufu p4 rfl (Els.nil (K := kT27)) rfl ufx)
  ·
   have h6' : y4.1 = false := by simpa using h6
   rw [h6']
   refine Goes.rn 2 [] Jqx ?_
   have p3 : Hp nz wz S3 w3 ((none, .row 28 [] (0 * kT27.size) 0) :: (some gx0, .row 69 [.string y4.2.s, .i y4.2.at_, .i y4.2.deep, uga] 4 0) :: (some b2, .row 28 [.i 0, .u 0, .u 0, .u 0, .u 0, .slice none 0 0, .i 0, .i 0] 8 0) :: Lr) := p3.nilRow' 28
   have p3 := ((p3.fr 1).fr 1).fr 2
   exact Goes.jp 27 [(0, (pt gx0 0)), (2, (pt b2 0))] (uls _ _ h gx0 _ _ (((Ext.refl S0 w0).trans z2).trans z3) b2 none 0 0 [] uga p3 rfl (Els.nil (K := kT27)) rfl ugb)
 ·
  intro rec_syntax_parser_alternation ih_syntax_parser_alternation ⟨x2v, e0v⟩ r h nz wz S0 w0 Lr iG gx0 S1 w1 hx gx2 uk4 u7i u7j uk5 uds p1 u7o u7p u7q udt junk
  try dsimp only at h
  subst u7q
  refine Goes.rn 5 [(8, (pt gx0 0)), (9, (pt gx0 0)), (10, (pt gx0 2))] Jtd ?_
  refine Goes.ld 3 (.tmp 10) 11 3 ⟨gx0, 2, none⟩ (.i e0v.deep) (p1.c 2 2) ?_
  refine Goes.rn 3 [(12, .i (wr .i64 (e0v.deep + 1))), (13, (pt gx0 0)), (14, (pt gx0 2))] Jte ?_
  refine Op_.st 3 (.tmp 14) (.tmp 12) 0 2 gx0 2 (.i (wr .i64 (e0v.deep + 1))) [.i (wr .i64 (e0v.deep + 1))] p1 rfl Goes.s (by kernel_rfl) (by kernel_rfl) (by kernel_rfl) (by kernel_rfl) (Nat.zero_le _) (by simp only [List.length_cons, List.length_nil]; omega) (by simp [Value.oneCell']) ?_
  intro w5 z5 p5
  have p5 : Hp nz wz S1 w5 ((some gx2, .row 28 (.i x2v.Kind :: U4 x2v.Set [.slice (Gp uk4) x2v.L.length u7j, .i x2v.Min, .i x2v.Max]) 8 0) :: (uk4, .row 28 uk5 (u7j * kT27.size) 0) :: (some gx0, .row 69 [.string e0v.s, .i e0v.at_, .i (wr .i64 (e0v.deep + 1)), uds] 4 0) :: Lr) := p5
  refine Goes.rn 4 [(15, (pt gx0 0))] Jtg ?_
  have p5 := p5.fr 2
  refine bind_some' h fun y13 e14 h => ?_
  refine Goes.cal (kc 30 [15] #[66]) 16 28 30 _ (ih_syntax_parser_alternation (⟨e0v.s, e0v.at_, wr .i64 (e0v.deep + 1), e0v.bad⟩ : T68) y13 e14 gx0 uds p5 (udt.ext z5)) ?_
  rintro _ w6 ⟨S6, uk8, u1c, u1d, uhj, rfl, z6, p6, u1f, u1g, rfl, uhk⟩
  refine Op_.alloc 28 3 0 (.agg #[.i 0, .u 0, .u 0, .u 0, .u 0, .slice none 0 0, .i 0, .i 0]) [.i 0, .u 0, .u 0, .u 0, .u 0, .slice none 0 0, .i 0, .i 0] p6 Goes.v (by kernel_rfl) (by kernel_rfl) ?_
  intro b15 w7 z7 p7
  refine Op_.st 28 (.tmp 3) (.tmp 16) 0 0 b15 0 (ag (.i y13.1.Kind :: U4 y13.1.Set [.slice uk8 y13.1.L.length u1d, .i y13.1.Min, .i y13.1.Max])) (.i y13.1.Kind :: U4 y13.1.Set [.slice uk8 y13.1.L.length u1d, .i y13.1.Min, .i y13.1.Max]) p7 rfl Goes.s (by kernel_rfl) (by kernel_rfl) (by kernel_rfl) (by kernel_rfl) (Nat.zero_le _) (by simp only [List.length_cons, List.length_nil]; omega) (by simp [Value.oneCell']) ?_
  intro w8 z8 p8
  have p8 : Hp nz wz S6 w8 ((some b15, .row 28 (.i y13.1.Kind :: U4 y13.1.Set [.slice uk8 y13.1.L.length u1d, .i y13.1.Min, .i y13.1.Max]) 8 0) :: (some gx0, .row 69 [.string y13.2.s, .i y13.2.at_, .i y13.2.deep, uhj] 4 0) :: (some gx2, .row 28 (.i x2v.Kind :: U4 x2v.Set [.slice (Gp uk4) x2v.L.length u7j, .i x2v.Min, .i x2v.Max]) 8 0) :: (uk4, .row 28 uk5 (u7j * kT27.size) 0) :: Lr) := p8
  refine Goes.rn 6 [(17, (pt gx0 0)), (18, (pt gx0 0)), (19, (pt gx0 2))] Jti ?_
  refine Goes.ld 3 (.tmp 19) 20 3 ⟨gx0, 2, none⟩ (.i y13.2.deep) (p8.c 1 2) ?_
  refine Goes.rn 3 [(21, .i (wr .i64 (y13.2.deep - 1))), (22, (pt gx0 0)), (23, (pt gx0 2))] Jtj ?_
  refine Op_.st 3 (.tmp 23) (.tmp 21) 0 1 gx0 2 (.i (wr .i64 (y13.2.deep - 1))) [.i (wr .i64 (y13.2.deep - 1))] p8 rfl Goes.s (by kernel_rfl) (by kernel_rfl) (by kernel_rfl) (by kernel_rfl) (Nat.zero_le _) (by simp only [List.length_cons, List.length_nil]; omega) (by simp [Value.oneCell']) ?_
  intro w9 z9 p9
  have p9 : Hp nz wz S6 w9 ((some b15, .row 28 (.i y13.1.Kind :: U4 y13.1.Set [.slice uk8 y13.1.L.length u1d, .i y13.1.Min, .i y13.1.Max]) 8 0) :: (some gx0, .row 69 [.string y13.2.s, .i y13.2.at_, .i (wr .i64 (y13.2.deep - 1)), uhj] 4 0) :: (some gx2, .row 28 (.i x2v.Kind :: U4 x2v.Set [.slice (Gp uk4) x2v.L.length u7j, .i x2v.Min, .i x2v.Max]) 8 0) :: (uk4, .row 28 uk5 (u7j * kT27.size) 0) :: Lr) := p9
  refine Goes.rn 4 [(24, (pt gx0 0))] Jtl ?_
  have p9 := p9.fr 1
  refine bind_some' h fun y17 e18 h => ?_
  refine Goes.cal (.call { callee := .value (.func 95), args := #[(.tmp 24), (.const (.int .u8 41))], argTypes := #[66, 5] }) 25 0 95 _ (W.z3b (⟨y13.2.s, y13.2.at_, wr .i64 (y13.2.deep - 1), y13.2.bad⟩ : T68) 41 y17 e18 gx0 uhj p9 (uhk.ext ((z7.trans z8).trans z9))) ?_
  rintro _ w10 ⟨S10, ugf, rfl, z10, p10, ugg⟩
  refine Goes.rn 3 [] Jtn ?_
  refine Goes.ldN 28 (.tmp 3) 26 28 ⟨b15, 0, none⟩ (.i y13.1.Kind :: U4 y13.1.Set [.slice uk8 y13.1.L.length u1d, .i y13.1.Min, .i y13.1.Max]) (p10.pa 1 0) ?_
  refine Op_.st 28 (.tmp 2) (.tmp 26) 0 2 gx2 0 (ag (.i y13.1.Kind :: U4 y13.1.Set [.slice uk8 y13.1.L.length u1d, .i y13.1.Min, .i y13.1.Max])) (.i y13.1.Kind :: U4 y13.1.Set [.slice uk8 y13.1.L.length u1d, .i y13.1.Min, .i y13.1.Max]) p10 rfl Goes.s (by kernel_rfl) (by kernel_rfl) (by kernel_rfl) (by kernel_rfl) (Nat.zero_le _) (by simp only [List.length_cons, List.length_nil]; omega) (by simp [Value.oneCell']) ?_
  intro w11 z11 p11
  have p11 : Hp nz wz S10 w11 ((some gx0, .row 69 [.string y17.s, .i y17.at_, .i y17.deep, ugf] 4 0) :: (some b15, .row 28 (.i y13.1.Kind :: U4 y13.1.Set [.slice uk8 y13.1.L.length u1d, .i y13.1.Min, .i y13.1.Max]) 8 0) :: (some gx2, .row 28 (.i y13.1.Kind :: U4 y13.1.Set [.slice uk8 y13.1.L.length u1d, .i y13.1.Min, .i y13.1.Max]) 8 0) :: (uk4, .row 28 uk5 (u7j * kT27.size) 0) :: Lr) := p11
  refine Goes.rn 1 [] Jtm ?_
  obtain rfl := Option.some.inj h
  have p11 := (p11.dp 1).dp 2
  have p11 := (p11.fr 0).fr 1
  exact Goes.ret (fn := Tryd.f92) (by kernel_rfl) (v := (ag (.i y13.1.Kind :: U4 y13.1.Set [.slice uk8 y13.1.L.length u1d, .i y13.1.Min, .i y13.1.Max]))) (results_n1 (fn := Tryd.f92) (a := .cell 2 28) (by kernel_rfl) (resV_cell ⟨gx2, 0, none⟩ (by kernel_rfl) (run_loadN (.i y13.1.Kind :: U4 y13.1.Set [.slice uk8 y13.1.L.length u1d, .i y13.1.Min, .i y13.1.Max]) (by kernel_rfl) (by kernel_rfl) (p11.pa 0 0)))) ⟨S10, uk8, y13.1.L.length, u1d, ugf, rfl, (((((((hx.trans z5).trans z6).trans z7).trans z8).trans z9).trans z10).trans z11), p11.drop, u1f, (u1g.ext ((((z7.trans z8).trans z9).trans z10).trans z11)), rfl, (ugg.ext z11)⟩

theorem W.z3j : ∀ a r, M.syntax_parser_alternation a = some r → LF.z3j a r := (W.z3u).1

theorem W.z3t : ∀ a r, M.syntax_parser_alternation_l0 a = some r → LL.z3t a r := (W.z3u).2.1

theorem W.z3k : ∀ a r, M.syntax_parser_sequence a = some r → LF.z3k a r := (W.z3u).2.2.1

theorem W.z3o : ∀ a r, M.syntax_parser_sequence_l0 a = some r → LL.z3o a r := (W.z3u).2.2.2.1

theorem W.z3p : ∀ a r, M.syntax_parser_sequence_l1 a = some r → LL.z3p a r := (W.z3u).2.2.2.2.1

theorem W.z3l : ∀ a r, M.syntax_parser_piece a = some r → LF.z3l a r := (W.z3u).2.2.2.2.2.1

theorem W.z3m : ∀ a r, M.syntax_parser_atom a = some r → LF.z3m a r := (W.z3u).2.2.2.2.2.2.1

theorem W.z3q : ∀ a r, M.syntax_parser_atom_l0 a = some r → LL.z3q a r := (W.z3u).2.2.2.2.2.2.2.1

theorem W.z3r : ∀ a r, M.syntax_parser_atom_l1 a = some r → LL.z3r a r := (W.z3u).2.2.2.2.2.2.2.2.1

theorem W.z3n : ∀ a r, M.syntax_parser_group a = some r → LF.z3n a r := (W.z3u).2.2.2.2.2.2.2.2.2.1

theorem W.z3s : ∀ a r, M.syntax_parser_group_l0 a = some r → LL.z3s a r := (W.z3u).2.2.2.2.2.2.2.2.2.2

def Qn4 := sub [1, 1, 1, 1, 1, 1] B11
def Jto : List Item := [.code Qn4]
def Qn5 := sub [1, 1, 1, 1, 1, 0, 1] B11
def Jtp : List Item := .code Qn5 :: Jto
def Qn6 := sub [1, 1, 1, 1, 1, 0, 1, 0, 1] B11
def Jtq : List Item := .code Qn6 :: Jto
def Qn7 := sub [1, 1, 1, 1, 1, 0, 1, 0, 0] B11
def Jtr : List Item := .code Qn7 :: Jtq
def Qn8 := sub [1, 1, 1, 1, 1, 1, 1] B11
def Jts : List Item := [.code Qn8]
def Qn9 := sub [1, 1, 1, 1, 1, 1, 0] B11
def Jtt : List Item := .inRegion (opsOf Qn9) [0, 1, 2, 3] :: Jts

def Post.z3v (r : T27 × Int × Int) (v : Value) (w' : World) : Prop :=
 ∃ S' ult ulu ulv, v = .tuple #[(ag (.i r.1.Kind :: U4 r.1.Set [.slice ult ulu ulv, .i r.1.Min, .i r.1.Max])), .i r.2.1, .i r.2.2] ∧ Ext S0 w0 S' w' ∧ Hp nz wz S' w' (Lr) ∧ r.1.Set.length = 4 ∧ Rd kT27 S' w' ult ulv r.1.L ∧ r.1.L.length = ulu

def L.z3w : T27 × T68 × T27 × Bool → (T27 × Int × Int) → Prop := fun ⟨x2v, x5v, x6v, x40⟩ r => ∀ S1 w1, Ext S0 w0 S1 w1 → ∀ gx2 uk4 u7i u7j uk5 gx5 ulw gx6 ulx ud ue (_ : Hp nz wz S1 w1 ((some gx2, .row 28 (.i x2v.Kind :: U4 x2v.Set [.slice (Gp uk4) u7i u7j, .i x2v.Min, .i x2v.Max]) 8 0) :: (uk4, .row 28 uk5 (u7j * kT27.size) 0) :: (some gx5, .row 69 [.string x5v.s, .i x5v.at_, .i x5v.deep, ulw] 4 0) :: (some gx6, .row 28 (.i x6v.Kind :: U4 x6v.Set [.slice ulx ud ue, .i x6v.Min, .i x6v.Max]) 8 0) :: Lr)) (_ : x2v.Set.length = 4) (_ : Els kT27 S1 w1 uk5 x2v.L) (_ : x2v.L.length = u7i) (_ : PtO kT72 S1 w1 ulw x5v.bad) (_ : x6v.Set.length = 4) (_ : Rd kT27 S1 w1 ulx ue x6v.L) (_ : x6v.L.length = ud) (junk : Nat → Value),
 Goes Tryd.prog (base 11) Jtp ⟨lfr 50 [(2, (pt gx2 0)), (5, (pt gx5 0)), (6, (pt gx6 0)), (40, .bool x40)] junk, []⟩ w1 (Done Tryd.prog 11 (Rets (Post.z3v nz wz S0 w0 Lr r)))

theorem W.z3w {nz wz S0 w0 Lr} [Gw nz wz] : ∀ a r, M.syntax_Parse_l2 a = some r → L.z3w nz wz S0 w0 Lr a r := by
 intro ⟨x2v, x5v, x6v, x40⟩ r h S1 w1 hx gx2 uk4 u7i u7j uk5 gx5 ulw gx6 ulx ud ue p1 u7o u7p u7q uly uv uw ux junk
 rw [M.syntax_Parse_l2] at h
 try dsimp only at h
 subst u7q
 subst ux
 refine ite_some h (fun h41 h => ?_) (fun h41 h => ?_)
 ·
  rw [h41]
  refine Goes.rn 2 [] Jtr ?_
  have z9 : Ext S1 w1 S1 (w1).drew := Ext.draw
  have p9 := p1.draw
  refine Goes.drawn (s := []) (F := Fc S1 (w1).drew [(⟨gx5, 3, none⟩, ulw)]) 8 11 (by kernel_rfl) (by kernel_rfl) (by kernel_rfl) (by kernel_rfl) ?_
  generalize (w1).drew = w9 at z9 p9 ⊢
  refine AnyG.pu 0 (.build 28 #[]) 41 28 (.agg #[.i 0, .u 0, .u 0, .u 0, .u 0, .slice none 0 0, .i 0, .i 0]) (Fc.here (p9.cs [(2, 3, 1)])) ?_
  refine AnyG.pu 1 (.move (.tmp 5)) 42 66 ((pt gx5 0)) (Fc.here (p9.cs [(2, 3, 1)])) ?_
  refine AnyG.pu 2 (.nilCheck (.tmp 42)) 43 0 ((pt gx5 0)) (Fc.here (p9.cs [(2, 3, 1)])) ?_
  refine AnyG.pu 3 (.fieldAddr 69 (.tmp 43) 3) 44 0 ((pt gx5 3)) (Fc.here (p9.cs [(2, 3, 1)])) ?_
  refine AnyG.ld1 (i := 4) 67 (.tmp 44) 45 67 ⟨gx5, 3, none⟩ (ulw) (by kernel_rfl) (by kernel_rfl) (Fc.here (p9.cs [(2, 3, 1)])) (by kernel_rfl) (by kernel_rfl) (fun _ h => h.2.at_ 0 rfl) ?_
  refine let_some h fun v48 h42 h => ?_
  rcases v48 with _ | y43
  ·
   try dsimp only at h
   obtain rfl := PtO.nil (uly.ext z9) h42
   cases h
  ·
   try dsimp only at h
   obtain ⟨a45, _, rfl, -, f46, q47⟩ := PtO.got (uly.ext z9) h42
   obtain rfl := q47
   refine AnyG.pu 5 (.nilCheck (.tmp 45)) 46 0 (.pointer (some a45)) (Fc.here (p9.cs [(2, 3, 1)])) ?_
   refine AnyG.pu 6 (.fieldAddr 73 (.tmp 46) 0) 47 0 (.pointer (some (Addr.add a45 0))) (Fc.here (p9.cs [(2, 3, 1)])) ?_
   refine AnyG.ld1 (i := 7) 3 (.tmp 47) 48 3 (Addr.add a45 0) (.i y43.at_) (by kernel_rfl) (by kernel_rfl) (Fc.here (p9.cs [(2, 3, 1)])) (by kernel_rfl) (by kernel_rfl) (fun _ h => (Cs.left (us := [.i y43.at_]) (vs := []) (Cs.add (us := []) (vs := [.i y43.at_]) f46)).fc h 0 _ rfl) ?_
   refine Op_.st 28 (.tmp 2) (.tmp 41) 0 0 gx2 0 (.agg #[.i 0, .u 0, .u 0, .u 0, .u 0, .slice none 0 0, .i 0, .i 0]) [.i 0, .u 0, .u 0, .u 0, .u 0, .slice none 0 0, .i 0, .i 0] p9 rfl (AnyG.ss (i := 8) (by kernel_rfl) (by kernel_rfl)) (by kernel_rfl) (by kernel_rfl) (by kernel_rfl) (by kernel_rfl) (Nat.zero_le _) (by simp only [List.length_cons, List.length_nil]; omega) (by simp [Value.oneCell']) ?_
   intro w10 z10 p10
   have p10 : Hp nz wz S1 w10 ((some gx2, .row 28 [.i 0, .u 0, .u 0, .u 0, .u 0, .slice none 0 0, .i 0, .i 0] 8 0) :: (uk4, .row 28 uk5 (u7j * kT27.size) 0) :: (some gx5, .row 69 [.string x5v.s, .i x5v.at_, .i x5v.deep, .pointer (some a45)] 4 0) :: (some gx6, .row 28 (.i x6v.Kind :: U4 x6v.Set [.slice ulx x6v.L.length ue, .i x6v.Min, .i x6v.Max]) 8 0) :: Lr) := p10
   refine AnyG.next z10 ⟨(p10.c 2 3), trivial⟩ ?_
   refine AnyG.pu 9 (.assign (.tmp 48)) 3 3 (.i y43.at_) (Fc.here (p10.cs [(2, 3, 1)])) ?_
   refine AnyG.pu 10 (.assign (.const (.int .i64 100))) 4 29 (.i 100) (Fc.here (p10.cs [(2, 3, 1)])) ?_
   refine AnyG.done (by kernel_rfl) ?_ _
   have p10 := ((p10.dp 1).dp 1).dp 1
   obtain rfl := Option.some.inj h
   exact Goes.ret (fn := Tryd.f11) (by kernel_rfl) (v := .tuple #[.agg #[.i 0, .u 0, .u 0, .u 0, .u 0, .slice none 0 0, .i 0, .i 0], .i y43.at_, .i 100]) (results_n3 (fn := Tryd.f11) (a := .cell 2 28) (b := .tmp 3) (c := .tmp 4) (by kernel_rfl) (resV_cell ⟨gx2, 0, none⟩ (by kernel_rfl) (run_loadN [.i 0, .u 0, .u 0, .u 0, .u 0, .slice none 0 0, .i 0, .i 0] (by kernel_rfl) (by kernel_rfl) (p10.pa 0 0))) (resV_tmp (by kernel_rfl)) (resV_tmp (by kernel_rfl))) ⟨S1, none, 0, 0, rfl, ((hx.trans z9).trans z10), p10.drop, rfl, Rd.none_, rfl⟩
 ·
  have ulz : x40 = false := by simpa using h41
  rw [ulz]
  refine Goes.rn 4 [] Jtt ?_
  refine Goes.ldN 28 (.tmp 6) 49 28 ⟨gx6, 0, none⟩ (.i x6v.Kind :: U4 x6v.Set [.slice ulx x6v.L.length ue, .i x6v.Min, .i x6v.Max]) (p1.pa 3 0) ?_
  refine Op_.st 28 (.tmp 2) (.tmp 49) 0 0 gx2 0 (ag (.i x6v.Kind :: U4 x6v.Set [.slice ulx x6v.L.length ue, .i x6v.Min, .i x6v.Max])) (.i x6v.Kind :: U4 x6v.Set [.slice ulx x6v.L.length ue, .i x6v.Min, .i x6v.Max]) p1 rfl Goes.s (by kernel_rfl) (by kernel_rfl) (by kernel_rfl) (by kernel_rfl) (Nat.zero_le _) (by simp only [List.length_cons, List.length_nil]; omega) (by simp [Value.oneCell']) ?_
  intro w11 z11 p11
  have p11 : Hp nz wz S1 w11 ((some gx2, .row 28 (.i x6v.Kind :: U4 x6v.Set [.slice ulx x6v.L.length ue, .i x6v.Min, .i x6v.Max]) 8 0) :: (uk4, .row 28 uk5 (u7j * kT27.size) 0) :: (some gx5, .row 69 [.string x5v.s, .i x5v.at_, .i x5v.deep, ulw] 4 0) :: (some gx6, .row 28 (.i x6v.Kind :: U4 x6v.Set [.slice ulx x6v.L.length ue, .i x6v.Min, .i x6v.Max]) 8 0) :: Lr) := p11
  refine Goes.rn 3 [(3, .i 0), (4, .i 0)] Jts ?_
  obtain rfl := Option.some.inj h
  have p11 := ((p11.dp 1).dp 1).dp 1
  exact Goes.ret (fn := Tryd.f11) (by kernel_rfl) (v := .tuple #[(ag (.i x6v.Kind :: U4 x6v.Set [.slice ulx x6v.L.length ue, .i x6v.Min, .i x6v.Max])), .i 0, .i 0]) (results_n3 (fn := Tryd.f11) (a := .cell 2 28) (b := .tmp 3) (c := .tmp 4) (by kernel_rfl) (resV_cell ⟨gx2, 0, none⟩ (by kernel_rfl) (run_loadN (.i x6v.Kind :: U4 x6v.Set [.slice ulx x6v.L.length ue, .i x6v.Min, .i x6v.Max]) (by kernel_rfl) (by kernel_rfl) (p11.pa 0 0))) (resV_tmp (by kernel_rfl)) (resV_tmp (by kernel_rfl))) ⟨S1, ulx, x6v.L.length, ue, rfl, (hx.trans z11), p11.drop, uv, (uw.ext z11), rfl⟩

def Qna := sub [1, 1, 1, 1, 1] B11
def Jtu : List Item := [.code Qna]
def Qnb := sub [1, 1, 1, 1, 1, 0, 0] B11
def Jtv : List Item := .inRegion (opsOf Qnb) [3, 4] :: Jtp

def L.z3x : T27 × T68 × T27 → (T27 × Int × Int) → Prop := fun ⟨x2v, x5v, x6v⟩ r => ∀ S1 w1, Ext S0 w0 S1 w1 → ∀ gx2 uk4 u7i u7j uk5 gx5 ulw gx6 ulx ud ue (_ : Hp nz wz S1 w1 ((some gx2, .row 28 (.i x2v.Kind :: U4 x2v.Set [.slice (Gp uk4) u7i u7j, .i x2v.Min, .i x2v.Max]) 8 0) :: (uk4, .row 28 uk5 (u7j * kT27.size) 0) :: (some gx5, .row 69 [.string x5v.s, .i x5v.at_, .i x5v.deep, ulw] 4 0) :: (some gx6, .row 28 (.i x6v.Kind :: U4 x6v.Set [.slice ulx ud ue, .i x6v.Min, .i x6v.Max]) 8 0) :: Lr)) (_ : x2v.Set.length = 4) (_ : Els kT27 S1 w1 uk5 x2v.L) (_ : x2v.L.length = u7i) (_ : PtO kT72 S1 w1 ulw x5v.bad) (_ : x6v.Set.length = 4) (_ : Rd kT27 S1 w1 ulx ue x6v.L) (_ : x6v.L.length = ud) (junk : Nat → Value),
 Goes Tryd.prog (base 11) Jtu ⟨lfr 50 [(2, (pt gx2 0)), (5, (pt gx5 0)), (6, (pt gx6 0))] junk, []⟩ w1 (Done Tryd.prog 11 (Rets (Post.z3v nz wz S0 w0 Lr r)))

theorem W.z3x {nz wz S0 w0 Lr} [Gw nz wz] : ∀ a r, M.syntax_Parse_l1 a = some r → L.z3x nz wz S0 w0 Lr a r := by
 intro ⟨x2v, x5v, x6v⟩ r h S1 w1 hx gx2 uk4 u7i u7j uk5 gx5 ulw gx6 ulx ud ue p1 u7o u7p u7q uly uv uw ux junk
 rw [M.syntax_Parse_l1] at h
 try dsimp only at h
 subst u7q
 subst ux
 refine Goes.rn 6 [(36, (pt gx5 0)), (37, (pt gx5 0)), (38, (pt gx5 3))] Jtv ?_
 refine Goes.ld 67 (.tmp 38) 39 67 ⟨gx5, 3, none⟩ (ulw) (p1.c 2 3) ?_
 refine let_some h fun v40 h30 h => ?_
 rcases v40 with _ | y31
 ·
  try dsimp only at h
  obtain rfl := PtO.nil uly h30
  refine Goes.rn 2 [(40, .bool false)] Jtp ?_
  exact Goes.jp 50 [(2, (pt gx2 0)), (5, (pt gx5 0)), (6, (pt gx6 0)), (40, .bool false)] (W.z3w _ _ h _ _ hx gx2 uk4 x2v.L.length u7j uk5 gx5 (.pointer none) gx6 ulx x6v.L.length ue p1 u7o u7p rfl rfl uv uw rfl)
 ·
  try dsimp only at h
  obtain ⟨a33, _, rfl, -, f34, q35⟩ := PtO.got uly h30
  obtain rfl := q35
  refine Goes.rn 2 [(40, .bool true)] Jtp ?_
  exact Goes.jp 50 [(2, (pt gx2 0)), (5, (pt gx5 0)), (6, (pt gx6 0)), (40, .bool true)] (W.z3w _ _ h _ _ hx gx2 uk4 x2v.L.length u7j uk5 gx5 (.pointer (some a33)) gx6 ulx x6v.L.length ue p1 u7o u7p rfl ⟨_, _, rfl, List.cons_ne_nil _ _, f34, rfl⟩ uv uw rfl)

def Qnc := sub [1, 1, 1, 1, 0, 1] B11
def Jtw : List Item := .code Qnc :: Jtu
def Qnd := sub [1, 1, 1, 1, 0, 1, 0] B11
def Jtx : List Item := .inRegion (opsOf Qnd) [4, 5] :: Jtu

def L.z3y : T27 × T68 × T27 × Bool → (T27 × Int × Int) → Prop := fun ⟨x2v, x5v, x6v, x29⟩ r => ∀ S1 w1, Ext S0 w0 S1 w1 → ∀ gx2 uk4 u7i u7j uk5 gx5 ulw gx6 ulx ud ue (_ : Hp nz wz S1 w1 ((some gx2, .row 28 (.i x2v.Kind :: U4 x2v.Set [.slice (Gp uk4) u7i u7j, .i x2v.Min, .i x2v.Max]) 8 0) :: (uk4, .row 28 uk5 (u7j * kT27.size) 0) :: (some gx5, .row 69 [.string x5v.s, .i x5v.at_, .i x5v.deep, ulw] 4 0) :: (some gx6, .row 28 (.i x6v.Kind :: U4 x6v.Set [.slice ulx ud ue, .i x6v.Min, .i x6v.Max]) 8 0) :: Lr)) (_ : x2v.Set.length = 4) (_ : Els kT27 S1 w1 uk5 x2v.L) (_ : x2v.L.length = u7i) (_ : PtO kT72 S1 w1 ulw x5v.bad) (_ : x6v.Set.length = 4) (_ : Rd kT27 S1 w1 ulx ue x6v.L) (_ : x6v.L.length = ud) (junk : Nat → Value),
 Goes Tryd.prog (base 11) Jtw ⟨lfr 50 [(2, (pt gx2 0)), (5, (pt gx5 0)), (6, (pt gx6 0)), (29, .bool x29)] junk, []⟩ w1 (Done Tryd.prog 11 (Rets (Post.z3v nz wz S0 w0 Lr r)))

theorem W.z3y {nz wz S0 w0 Lr} [Gw nz wz] : ∀ a r, M.syntax_Parse_l0 a = some r → L.z3y nz wz S0 w0 Lr a r := by
 intro ⟨x2v, x5v, x6v, x29⟩ r h S1 w1 hx gx2 uk4 u7i u7j uk5 gx5 ulw gx6 ulx ud ue p1 u7o u7p u7q uly uv uw ux junk
 rw [M.syntax_Parse_l0] at h
 try dsimp only at h
 subst u7q
 subst ux
 refine ite_some h (fun h23 h => ?_) (fun h23 h => ?_)
 ·
  rw [h23]
  refine Goes.rn 6 [(30, (pt gx5 0)), (31, (pt gx5 0)), (32, (pt gx5 0)), (33, (pt gx5 1))] Jtx ?_
  refine Goes.ld 3 (.tmp 33) 34 3 ⟨gx5, 1, none⟩ (.i x5v.at_) (p1.c 2 1) ?_
  have p1 := p1.fr 2
  refine bind_some' h fun y24 e25 h => ?_
  refine Goes.cal (kc 31 [30, 34] #[66, 3]) 35 28 31 _ (W.z2f x5v x5v.at_ y24 e25 gx5 ulw p1 uly) ?_
  rintro _ w8 ⟨S8, ugm, ugn, ugo, ugp, rfl, z8, p8, ugq, ugr, rfl, ugs⟩
  refine Goes.rn 1 [] Jtu ?_
  have p8 := (((p8.fr 3).fr 1).fr 3).fr 3
  exact Goes.jp 50 [(2, (pt gx2 0)), (5, (pt gx5 0)), (6, (pt gx6 0))] (W.z3x _ _ h _ _ (hx.trans z8) gx2 uk4 x2v.L.length u7j uk5 gx5 ugp gx6 ulx x6v.L.length ue p8 u7o (u7p.ext z8) rfl ugs uv (uw.ext z8) rfl)
 ·
  have u1q : x29 = false := by simpa using h23
  rw [u1q]
  refine Goes.rn 2 [] Jtu ?_
  exact Goes.jp 50 [(2, (pt gx2 0)), (5, (pt gx5 0)), (6, (pt gx6 0))] (W.z3x _ _ h _ _ hx gx2 uk4 x2v.L.length u7j uk5 gx5 ulw gx6 ulx x6v.L.length ue p1 u7o u7p rfl uly uv uw rfl)

def Qne := sub [1] B11
def Jty : List Item := [.code Qne]
def Qnf := sub [0] B11
def Jtz : List Item := .inRegion (opsOf Qnf) [0, 1, 2] :: Jty
def Qng := sub [1, 1] B11
def Ju0 : List Item := [.code Qng]
def Qnh := sub [1, 0, 1] B11
def Ju1 : List Item := .code Qnh :: Ju0
def Qni := sub [1, 0, 1, 0, 1] B11
def Ju2 : List Item := .code Qni :: Ju0
def Qnj := sub [1, 0, 1, 0, 0] B11
def Ju3 : List Item := .inRegion (opsOf Qnj) [1, 2, 3] :: Ju2
def Qnk := sub [1, 1, 1] B11
def Ju4 : List Item := [.code Qnk]
def Qnl := sub [1, 1, 0] B11
def Ju5 : List Item := .inRegion (opsOf Qnl) [2, 3] :: Ju4
def Qnm := sub [1, 1, 1, 1] B11
def Ju6 : List Item := [.code Qnm]
def Qnn := sub [1, 1, 1, 0] B11
def Ju7 : List Item := .inRegion (opsOf Qnn) [1, 2, 3] :: Ju6
def Qno := sub [1, 1, 1, 1, 0, 0] B11
def Ju8 : List Item := .inRegion (opsOf Qno) [3, 4, 5, 6, 7, 8, 9, 10, 11, 12, 13] :: Jtw
def Ju9 : List Item := .inRegion (opsOf Qno) [9, 10, 11, 12, 13] :: Jtw

theorem W.z3v (x0 : ByteArray) (r : T27 × Int × Int) (h : M.syntax_Parse x0 = some r) {nz wz S0 w0 Lr} [Gw nz wz] (p0 : Hp nz wz S0 w0 (Lr)) :
  Calls Tryd.prog 11 #[.string x0] w0 (Rets (Post.z3v nz wz S0 w0 Lr r)) := by
 refine calls_of_goes (fn := Tryd.f11) (c := B11) (by kernel_rfl) (by kernel_rfl) 49 (by kernel_rfl) ?_
 refine Goes.jp 50 [(0, .string x0)] (fun junk => ?_)
 delta M.syntax_Parse at h
 refine Goes.rn 2 [] Jtz ?_
 refine Op_.alloc 28 2 0 (.agg #[.i 0, .u 0, .u 0, .u 0, .u 0, .slice none 0 0, .i 0, .i 0]) [.i 0, .u 0, .u 0, .u 0, .u 0, .slice none 0 0, .i 0, .i 0] p0 Goes.v (by kernel_rfl) (by kernel_rfl) ?_
 intro b1 w2 z2 p2
 refine Goes.rn 10 [(3, .i 0), (4, .i 0), (7, .string x0), (8, .i (x0.size : Int)), (9, .bool (decide ((x0.size : Int) > 256)))] Ju1 ?_
 refine ite_some h (fun h3 h => ?_) (fun h3 h => ?_)
 ·
  rw [decide_eq_true h3]
  refine Goes.rn 4 [(10, .agg #[.i 0, .u 0, .u 0, .u 0, .u 0, .slice none 0 0, .i 0, .i 0])] Ju3 ?_
  refine Op_.st 28 (.tmp 2) (.tmp 10) 0 0 b1 0 (.agg #[.i 0, .u 0, .u 0, .u 0, .u 0, .slice none 0 0, .i 0, .i 0]) [.i 0, .u 0, .u 0, .u 0, .u 0, .slice none 0 0, .i 0, .i 0] p2 rfl Goes.s (by kernel_rfl) (by kernel_rfl) (by kernel_rfl) (by kernel_rfl) (Nat.zero_le _) (by simp only [List.length_cons, List.length_nil]; omega) (by simp [Value.oneCell']) ?_
  intro w3 z3 p3
  have p3 : Hp nz wz S0 w3 ((some b1, .row 28 [.i 0, .u 0, .u 0, .u 0, .u 0, .slice none 0 0, .i 0, .i 0] 8 0) :: Lr) := p3
  refine Goes.rn 3 [(3, .i 0), (4, .i 3)] Ju2 ?_
  obtain rfl := Option.some.inj h
  exact Goes.ret (fn := Tryd.f11) (by kernel_rfl) (v := .tuple #[.agg #[.i 0, .u 0, .u 0, .u 0, .u 0, .slice none 0 0, .i 0, .i 0], .i 0, .i 3]) (results_n3 (fn := Tryd.f11) (a := .cell 2 28) (b := .tmp 3) (c := .tmp 4) (by kernel_rfl) (resV_cell ⟨b1, 0, none⟩ (by kernel_rfl) (run_loadN [.i 0, .u 0, .u 0, .u 0, .u 0, .slice none 0 0, .i 0, .i 0] (by kernel_rfl) (by kernel_rfl) (p3.pa 0 0))) (resV_tmp (by kernel_rfl)) (resV_tmp (by kernel_rfl))) ⟨S0, none, 0, 0, rfl, (((Ext.refl S0 w0).trans z2).trans z3), p3.drop, rfl, Rd.none_, rfl⟩
 ·
  rw [decide_eq_false h3]
  refine Goes.rn 6 [(11, .string x0), (12, .agg #[.string x0, .i 0, .i 0, .pointer none])] Ju5 ?_
  refine Op_.box 69 (.tmp 12) 13 66 (.agg #[.string x0, .i 0, .i 0, .pointer none]) [.string x0, .i 0, .i 0, .pointer none] p2 Goes.v (by kernel_rfl) (by kernel_rfl) ?_
  intro b4 w4 z4 p4
  refine Goes.rn 5 [(5, (pt b4 0)), (14, (pt b4 0))] Ju7 ?_
  refine bind_some' h fun y6 e7 h => ?_
  refine Goes.cal (kc 30 [14] #[66]) 15 28 30 _ (W.z3j (⟨x0, 0, 0, none⟩ : T68) y6 e7 b4 (.pointer none) p4 rfl) ?_
  rintro _ w5 ⟨S5, ukv, ukw, ukx, ugv, rfl, z5, p5, uky, ukz, rfl, ugx⟩
  refine Op_.alloc 28 6 0 (.agg #[.i 0, .u 0, .u 0, .u 0, .u 0, .slice none 0 0, .i 0, .i 0]) [.i 0, .u 0, .u 0, .u 0, .u 0, .slice none 0 0, .i 0, .i 0] p5 Goes.v (by kernel_rfl) (by kernel_rfl) ?_
  intro b8 w6 z6 p6
  refine Op_.st 28 (.tmp 6) (.tmp 15) 0 0 b8 0 (ag (.i y6.1.Kind :: U4 y6.1.Set [.slice ukv y6.1.L.length ukx, .i y6.1.Min, .i y6.1.Max])) (.i y6.1.Kind :: U4 y6.1.Set [.slice ukv y6.1.L.length ukx, .i y6.1.Min, .i y6.1.Max]) p6 rfl Goes.s (by kernel_rfl) (by kernel_rfl) (by kernel_rfl) (by kernel_rfl) (Nat.zero_le _) (by simp only [List.length_cons, List.length_nil]; omega) (by simp [Value.oneCell']) ?_
  intro w7 z7 p7
  have p7 : Hp nz wz S5 w7 ((some b8, .row 28 (.i y6.1.Kind :: U4 y6.1.Set [.slice ukv y6.1.L.length ukx, .i y6.1.Min, .i y6.1.Max]) 8 0) :: (some b4, .row 69 [.string y6.2.s, .i y6.2.at_, .i y6.2.deep, ugv] 4 0) :: (some b1, .row 28 [.i 0, .u 0, .u 0, .u 0, .u 0, .slice none 0 0, .i 0, .i 0] 8 0) :: Lr) := p7
  refine Goes.rn 7 [(16, (pt b4 0)), (17, (pt b4 0)), (18, (pt b4 3))] Ju8 ?_
  refine Goes.ld 67 (.tmp 18) 19 67 ⟨b4, 3, none⟩ (ugv) (p7.c 1 3) ?_
  refine let_some h fun v22 h10 h => ?_
  rcases v22 with _ | y11
  ·
   try dsimp only at h
   obtain rfl := PtO.nil (ugx.ext (z6.trans z7)) h10
   refine Goes.rn 5 [(20, .bool true), (21, .bool true), (22, (pt b4 0)), (23, (pt b4 0)), (24, (pt b4 1))] Ju9 ?_
   refine Goes.ld 3 (.tmp 24) 25 3 ⟨b4, 1, none⟩ (.i y6.2.at_) (p7.c 1 1) ?_
   refine Goes.rn 5 [(26, .string x0), (27, .i (x0.size : Int)), (28, .bool (decide (y6.2.at_ < (x0.size : Int)))), (29, .bool (decide (y6.2.at_ < (x0.size : Int))))] Jtw ?_
   have p7 : Hp nz wz S5 w7 ((none, .row 28 [] (0 * kT27.size) 0) :: (some b8, .row 28 (.i y6.1.Kind :: U4 y6.1.Set [.slice ukv y6.1.L.length ukx, .i y6.1.Min, .i y6.1.Max]) 8 0) :: (some b4, .row 69 [.string y6.2.s, .i y6.2.at_, .i y6.2.deep, .pointer none] 4 0) :: (some b1, .row 28 [.i 0, .u 0, .u 0, .u 0, .u 0, .slice none 0 0, .i 0, .i 0] 8 0) :: Lr) := p7.nilRow' 28
   have p7 := (((p7.fr 1).fr 2).fr 2).fr 3
   exact Goes.jp 50 [(2, (pt b1 0)), (5, (pt b4 0)), (6, (pt b8 0)), (29, .bool (decide (y6.2.at_ < (x0.size : Int))))] (W.z3y _ _ h _ _ ((((((Ext.refl S0 w0).trans z2).trans z4).trans z5).trans z6).trans z7) b1 none 0 0 [] b4 (.pointer none) b8 ukv y6.1.L.length ukx p7 rfl (Els.nil (K := kT27)) rfl rfl uky (ukz.ext (z6.trans z7)) rfl)
  ·
   try dsimp only at h
   obtain ⟨a13, _, rfl, -, f14, q15⟩ := PtO.got (ugx.ext (z6.trans z7)) h10
   obtain rfl := q15
   refine Goes.rn 11 [(20, .bool false), (21, .bool false), (22, undef), (23, undef), (24, undef), (25, undef), (26, undef), (27, undef), (28, undef), (29, .bool false)] Jtw ?_
   have p7 : Hp nz wz S5 w7 ((none, .row 28 [] (0 * kT27.size) 0) :: (some b8, .row 28 (.i y6.1.Kind :: U4 y6.1.Set [.slice ukv y6.1.L.length ukx, .i y6.1.Min, .i y6.1.Max]) 8 0) :: (some b4, .row 69 [.string y6.2.s, .i y6.2.at_, .i y6.2.deep, .pointer (some a13)] 4 0) :: (some b1, .row 28 [.i 0, .u 0, .u 0, .u 0, .u 0, .slice none 0 0, .i 0, .i 0] 8 0) :: Lr) := p7.nilRow' 28
   have p7 := (((p7.fr 1).fr 2).fr 2).fr 3
   exact Goes.jp 50 [(2, (pt b1 0)), (5, (pt b4 0)), (6, (pt b8 0)), (29, .bool false)] (W.z3y _ _ h _ _ ((((((Ext.refl S0 w0).trans z2).trans z4).trans z5).trans z6).trans z7) b1 none 0 0 [] b4 (.pointer (some a13)) b8 ukv y6.1.L.length ukx p7 rfl (Els.nil (K := kT27)) rfl ⟨_, _, rfl, List.cons_ne_nil _ _, f14, rfl⟩ uky (ukz.ext (z6.trans z7)) rfl)

def Qnp := sub [1, 1] B62
def Jua : List Item := [.code Qnp]
def Qnq := sub [1, 0] B62
def Jub : List Item := .inRegion (opsOf Qnq) [3, 4, 5, 6, 7] :: Jua
def Juc : List Item := .inRegion (opsOf Qnq) [4, 5, 6, 7] :: Jua

def Post.z3z (gx1 : Nat) (u48 : Int) (r : Bool) (v : Value) (w' : World) : Prop :=
 ∃ S', v = .bool r ∧ Ext S0 w0 S' w' ∧ Hp nz wz S' w' ((some gx1, .row 3 [.i u48] 1 0) :: Lr)

theorem W.z3z (x0 : Int) (u48 : Int) (r : Bool) (h : M.prog_right_1 x0 u48 = some r) {nz wz S0 w0 Lr} [Gw nz wz] (gx1) (p0 : Hp nz wz S0 w0 ((some gx1, .row 3 [.i u48] 1 0) :: Lr)) :
  Calls Tryd.prog 62 #[.i x0, (pt gx1 0)] w0 (Rets (Post.z3z nz wz S0 w0 Lr gx1 u48 r)) := by
 refine calls_of_goes (fn := Tryd.f62) (c := B62) (by kernel_rfl) (by kernel_rfl) 9 (by kernel_rfl) ?_
 refine Goes.jp 11 [(0, .i x0), (1, (pt gx1 0))] (fun junk => ?_)
 delta M.prog_right_1 at h
 refine Goes.rn 9 [(3, .bool false), (4, .i x0), (5, .bool (decide (x0 ≥ 0))), (6, .bool (decide (x0 ≥ 0)))] Jub ?_
 refine ite_some h (fun h2 h => ?_) (fun h2 h => ?_)
 ·
  rw [decide_eq_true h2]
  refine Goes.rn 1 [(7, .i x0)] Juc ?_
  refine Goes.ld 3 (.tmp 1) 8 3 ⟨gx1, 0, none⟩ (.i u48) (p0.c 0 0) ?_
  refine Goes.rn 4 [(9, .bool (decide (x0 < u48))), (10, .bool (decide (x0 < u48))), (3, .bool (decide (x0 < u48)))] Jua ?_
  obtain rfl := Option.some.inj h
  exact Goes.rt Tryd.f62 (.bool (decide (x0 < u48))) ⟨S0, rfl, (Ext.refl S0 w0), p0⟩
 ·
  rw [decide_eq_false h2]
  refine Goes.rn 6 [(7, undef), (8, undef), (9, undef), (10, .bool false), (3, .bool false)] Jua ?_
  obtain rfl := Option.some.inj h
  exact Goes.rt Tryd.f62 (.bool false) ⟨S0, rfl, (Ext.refl S0 w0), p0⟩

def Qnr := sub [1] B44
def Jud : List Item := [.code Qnr]
def Qns := sub [0] B44
def Jue : List Item := .inRegion (opsOf Qns) [0, 1, 2] :: Jud
def Qnt := sub [1, 1, 1] B44
def Juf : List Item := [.code Qnt]
def Qnu := sub [1, 1, 0] B44
def Jug : List Item := .inRegion (opsOf Qnu) [1, 2, 3, 4] :: Juf
def Juh : List Item := .inRegion (opsOf Qnu) [3, 4] :: Juf
def Qnv := sub [1, 1, 1, 1] B44
def Jui : List Item := [.code Qnv]
def Qnw := sub [1, 1, 1, 0, 1] B44
def Juj : List Item := .code Qnw :: Jui
def Qnx := sub [1, 1, 1, 0, 0] B44
def Juk : List Item := .inRegion (opsOf Qnx) [1] :: Juj
def Jul : List Item := .inBlock 0 :: Jui
def Qny := sub [1, 1, 1, 0, 1, 0, 1] B44
def Jum : List Item := .code Qny :: Jul
def Qnz := sub [1, 1, 1, 0, 1, 0, 1, 0, 1] B44
def Jun : List Item := .code Qnz :: Jul
def Qo0 := sub [1, 1, 1, 0, 1, 0, 1, 0, 0] B44
def Juo : List Item := .inRegion (opsOf Qo0) [2, 3, 4, 5, 6, 7, 8, 9] :: Jun
def Jup : List Item := .inRegion (opsOf Qo0) [5, 6, 7, 8, 9] :: Jun
def Juq : List Item := .inRegion (opsOf Qo0) [6, 7, 8, 9] :: Jun
def Qo1 := sub [1, 1, 1, 0, 1, 0, 1, 1, 1] B44
def Jur : List Item := .code Qo1 :: Jul
def Qo2 := sub [1, 1, 1, 0, 1, 0, 1, 1, 1, 0, 1] B44
def Jus : List Item := .code Qo2 :: Jul
def Qo3 := sub [1, 1, 1, 0, 1, 0, 1, 1, 1, 0, 0] B44
def Jut : List Item := .inRegion (opsOf Qo3) [2, 3, 4, 5, 6, 7, 8, 9, 10, 11, 12, 13] :: Jus
def Juu : List Item := .inRegion (opsOf Qo3) [4, 5, 6, 7, 8, 9, 10, 11, 12, 13] :: Jus
def Juv : List Item := .inRegion (opsOf Qo3) [8, 9, 10, 11, 12, 13] :: Jus
def Juw : List Item := .inRegion (opsOf Qo3) [10, 11, 12, 13] :: Jus
def Qo4 := sub [1, 1, 1, 0, 1, 0, 1, 1, 1, 1, 1] B44
def Jux : List Item := .code Qo4 :: Jul
def Qo5 := sub [1, 1, 1, 0, 1, 0, 1, 1, 1, 1, 1, 0, 1] B44
def Juy : List Item := .code Qo5 :: Jul
def Qo6 := sub [1, 1, 1, 0, 1, 0, 1, 1, 1, 1, 1, 0, 0] B44
def Juz : List Item := .inRegion (opsOf Qo6) [2, 3, 4, 5, 6, 7, 8, 9, 10, 11, 12] :: Juy
def Jv0 : List Item := .inRegion (opsOf Qo6) [4, 5, 6, 7, 8, 9, 10, 11, 12] :: Juy
def Jv1 : List Item := .inRegion (opsOf Qo6) [8, 9, 10, 11, 12] :: Juy
def Jv2 : List Item := .inRegion (opsOf Qo6) [9, 10, 11, 12] :: Juy
def Qo7 := sub [1, 1, 1, 0, 1, 0, 1, 1, 1, 1, 1, 1, 1] B44
def Jv3 : List Item := .code Qo7 :: Jul
def Qo8 := sub [1, 1, 1, 0, 1, 0, 1, 1, 1, 1, 1, 1, 1, 0, 1] B44
def Jv4 : List Item := .code Qo8 :: Jul
def Qo9 := sub [1, 1, 1, 0, 1, 0, 1, 1, 1, 1, 1, 1, 1, 0, 0] B44
def Jv5 : List Item := .inRegion (opsOf Qo9) [2, 3, 4, 5, 6, 7, 8, 9, 10, 11] :: Jv4
def Jv6 : List Item := .inRegion (opsOf Qo9) [3, 4, 5, 6, 7, 8, 9, 10, 11] :: Jv4
def Jv7 : List Item := .inRegion (opsOf Qo9) [7, 8, 9, 10, 11] :: Jv4
def Jv8 : List Item := .inRegion (opsOf Qo9) [8, 9, 10, 11] :: Jv4
def Qoa := sub [1, 1, 1, 1, 1] B44
def Jv9 : List Item := [.code Qoa]

def Post.z40 (r : Bool) (v : Value) (w' : World) : Prop :=
 ∃ S', v = .bool r ∧ Ext S0 w0 S' w' ∧ Hp nz wz S' w' (Lr)

theorem W.z40 (x0 : T48) (x1 : Int) (r : Bool) (h : M.prog_right x0 x1 = some r) {nz wz S0 w0 Lr} [Gw nz wz] (p0 : Hp nz wz S0 w0 (Lr)) (um : x0.Set.length = 4) :
  Calls Tryd.prog 44 #[(ag (.i x0.Op :: U4 x0.Set [.i x0.X, .i x0.Y])), .i x1] w0 (Rets (Post.z40 nz wz S0 w0 Lr r)) := by
 refine calls_of_goes (fn := Tryd.f44) (c := B44) (by kernel_rfl) (by kernel_rfl) 65 (by kernel_rfl) ?_
 refine Goes.jp 67 [(0, (ag (.i x0.Op :: U4 x0.Set [.i x0.X, .i x0.Y]))), (1, .i x1)] (fun junk => ?_)
 delta M.prog_right at h
 refine Goes.rn 2 [] Jue ?_
 refine Op_.box 49 (.tmp 0) 2 0 (ag (.i x0.Op :: U4 x0.Set [.i x0.X, .i x0.Y])) (.i x0.Op :: U4 x0.Set [.i x0.X, .i x0.Y]) p0 Goes.v (by kernel_rfl) (by kernel_rfl) ?_
 intro b1 w2 z2 p2
 refine Op_.box 3 (.tmp 1) 3 0 (.i x1) [.i x1] p2 Goes.v (by kernel_rfl) (by kernel_rfl) ?_
 intro b3 w3 z3 p3
 refine Goes.rn 10 [(4, .bool false), (7, .func (.func 62) #[] #[(pt b3 0)]), (5, .func (.func 62) #[] #[(pt b3 0)]), (8, (pt b1 1))] Jug ?_
 refine Goes.ldN 25 (.tmp 8) 9 25 ⟨b1, 1, none⟩ (U4 x0.Set []) (p3.pa 1 1) ?_
 refine Goes.rn 1 [(10, .agg #[.u 0, .u 0, .u 0, .u 0])] Juh ?_
 refine Op_.eqA 25 (.tmp 9) (.tmp 10) 25 11 4 23 4 .u64 (us := ((U4 x0.Set []) : List Value)) (vs := ([.u 0, .u 0, .u 0, .u 0] : List Value)) Goes.v (by kernel_rfl) (by kernel_rfl) (by kernel_rfl) (by kernel_rfl) (by kernel_rfl) (by kernel_rfl) (by kernel_rfl) (els_mk4 (S := S0) (w := w3) (k := .u64) um) (show Els (kInt .u64) S0 w3 ([.u 0, .u 0, .u 0, .u 0] : List Value) _ from (Els.cons (K := (kInt .u64)) (vs := [.u 0]) (x := 0) rfl (Els.cons (K := (kInt .u64)) (vs := [.u 0]) (x := 0) rfl (Els.cons (K := (kInt .u64)) (vs := [.u 0]) (x := 0) rfl (Els.cons (K := (kInt .u64)) (vs := [.u 0]) (x := 0) rfl Els.nil))))) (Els.len1 (els_mk4 (S := S0) (w := w3) (k := .u64) um) rfl rfl) (Els.len1 (show Els (kInt .u64) S0 w3 ([.u 0, .u 0, .u 0, .u 0] : List Value) _ from (Els.cons (K := (kInt .u64)) (vs := [.u 0]) (x := 0) rfl (Els.cons (K := (kInt .u64)) (vs := [.u 0]) (x := 0) rfl (Els.cons (K := (kInt .u64)) (vs := [.u 0]) (x := 0) rfl (Els.cons (K := (kInt .u64)) (vs := [.u 0]) (x := 0) rfl Els.nil))))) rfl rfl) ?_
 refine Goes.rn 6 [(6, .bool (decide (x0.Set = [0, 0, 0, 0]))), (12, (pt b1 0))] Juk ?_
 refine Goes.ld 3 (.tmp 12) 13 3 ⟨b1, 0, none⟩ (.i x0.Op) (p3.c 1 0) ?_
 refine Goes.rn 7 [(15, .bool (decide (x0.Op = 1))), (14, .bool (decide (x0.Op = 1)))] Jum ?_
 refine ite_some h (fun h5 h => ?_) (fun h5 h => ?_)
 ·
  rw [decide_eq_true h5]
  refine Goes.rn 5 [(16, .func (.func 62) #[] #[(pt b3 0)]), (17, (pt b1 5))] Juo ?_
  refine Goes.ld 3 (.tmp 17) 18 3 ⟨b1, 5, none⟩ (.i x0.X) (p3.c 1 5) ?_
  refine bind_some' h fun y6 e7 h => ?_
  refine Goes.cal (.call { callee := .value (.tmp 16), args := #[(.tmp 18)], argTypes := #[3] }) 19 4 62 _ (W.z3z x0.X x1 y6 e7 b3 p3 ) ?_
  rintro _ w4 ⟨S4, rfl, z4, p4⟩
  have p4 := p4.dp 0
  refine Goes.rn 1 [(20, .bool y6)] Jup ?_
  refine ite_some h (fun h8 h => ?_) (fun h8 h => ?_)
  ·
   rw [h8]
   refine Goes.rn 1 [(21, (pt b1 6))] Juq ?_
   refine Goes.ld 3 (.tmp 21) 22 3 ⟨b1, 6, none⟩ (.i x0.Y) (p4.c 0 6) ?_
   refine Goes.rn 4 [(23, .bool (decide (x0.Y = 0))), (24, .bool (decide (x0.Y = 0))), (4, .bool (decide (x0.Y = 0)))] Jun ?_
   obtain rfl := Option.some.inj h
   have p4 := p4.dp 0
   exact Goes.rt Tryd.f44 (.bool (decide (x0.Y = 0))) ⟨S4, rfl, ((((Ext.refl S0 w0).trans z2).trans z3).trans z4), p4⟩
  ·
   have h8' : y6 = false := by simpa using h8
   rw [h8']
   refine Goes.rn 6 [(21, undef), (22, undef), (23, undef), (24, .bool false), (4, .bool false)] Jun ?_
   obtain rfl := Option.some.inj h
   have p4 := p4.dp 0
   exact Goes.rt Tryd.f44 (.bool false) ⟨S4, rfl, ((((Ext.refl S0 w0).trans z2).trans z3).trans z4), p4⟩
 ·
  rw [decide_eq_false h5]
  refine Goes.rn 6 [(26, .bool (decide (x0.Op = 2))), (25, .bool (decide (x0.Op = 2)))] Jur ?_
  refine ite_some h (fun h9 h => ?_) (fun h9 h => ?_)
  ·
   rw [decide_eq_true h9]
   refine Goes.rn 5 [(27, .bool (decide (x0.Set = [0, 0, 0, 0]))), (28, .bool (decide (x0.Set = [0, 0, 0, 0])))] Jut ?_
   refine ite_some h (fun h10 h => ?_) (fun h10 h => ?_)
   ·
    rw [decide_eq_true h10]
    refine Goes.rn 2 [(29, .func (.func 62) #[] #[(pt b3 0)]), (30, (pt b1 5))] Juu ?_
    refine Goes.ld 3 (.tmp 30) 31 3 ⟨b1, 5, none⟩ (.i x0.X) (p3.c 1 5) ?_
    refine bind_some' h fun y11 e12 h => ?_
    refine Goes.cal (.call { callee := .value (.tmp 29), args := #[(.tmp 31)], argTypes := #[3] }) 32 4 62 _ (W.z3z x0.X x1 y11 e12 b3 p3 ) ?_
    rintro _ w5 ⟨S5, rfl, z5, p5⟩
    refine Goes.rn 2 [(33, .bool y11), (34, .bool y11)] Juv ?_
    refine ite_some h (fun h13 h => ?_) (fun h13 h => ?_)
    ·
     rw [h13]
     refine Goes.rn 2 [(35, .func (.func 62) #[] #[(pt b3 0)]), (36, (pt b1 6))] Juw ?_
     refine Goes.ld 3 (.tmp 36) 37 3 ⟨b1, 6, none⟩ (.i x0.Y) (p5.c 1 6) ?_
     refine bind_some' h fun y14 e15 h => ?_
     refine Goes.cal (.call { callee := .value (.tmp 35), args := #[(.tmp 37)], argTypes := #[3] }) 38 4 62 _ (W.z3z x0.Y x1 y14 e15 b3 p5 ) ?_
     rintro _ w6 ⟨S6, rfl, z6, p6⟩
     have p6 := (p6.dp 0).dp 0
     refine Goes.rn 3 [(39, .bool y14), (4, .bool y14)] Jus ?_
     obtain rfl := Option.some.inj h
     exact Goes.rt Tryd.f44 (.bool y14) ⟨S6, rfl, (((((Ext.refl S0 w0).trans z2).trans z3).trans z5).trans z6), p6⟩
    ·
     have u20 : y11 = false := by simpa using h13
     rw [u20]
     refine Goes.rn 7 [(35, undef), (36, undef), (37, undef), (38, undef), (39, .bool false), (4, .bool false)] Jus ?_
     obtain rfl := Option.some.inj h
     have p5 := (p5.dp 0).dp 0
     exact Goes.rt Tryd.f44 (.bool false) ⟨S5, rfl, ((((Ext.refl S0 w0).trans z2).trans z3).trans z5), p5⟩
   ·
    rw [decide_eq_false h10]
    refine Goes.rn 13 [(29, undef), (30, undef), (31, undef), (32, undef), (33, .bool false), (34, .bool false), (35, undef), (36, undef), (37, undef), (38, undef), (39, .bool false), (4, .bool false)] Jus ?_
    obtain rfl := Option.some.inj h
    have p3 := (p3.dp 0).dp 0
    exact Goes.rt Tryd.f44 (.bool false) ⟨S0, rfl, (((Ext.refl S0 w0).trans z2).trans z3), p3⟩
  ·
   rw [decide_eq_false h9]
   refine Goes.rn 6 [(41, .bool (decide (x0.Op = 4))), (40, .bool (decide (x0.Op = 4)))] Jux ?_
   refine ite_some h (fun h16 h => ?_) (fun h16 h => ?_)
   ·
    rw [decide_eq_true h16]
    refine Goes.rn 5 [(42, .bool (decide (x0.Set = [0, 0, 0, 0]))), (43, .bool (decide (x0.Set = [0, 0, 0, 0])))] Juz ?_
    refine ite_some h (fun h17 h => ?_) (fun h17 h => ?_)
    ·
     rw [decide_eq_true h17]
     refine Goes.rn 2 [(44, .func (.func 62) #[] #[(pt b3 0)]), (45, (pt b1 5))] Jv0 ?_
     refine Goes.ld 3 (.tmp 45) 46 3 ⟨b1, 5, none⟩ (.i x0.X) (p3.c 1 5) ?_
     refine bind_some' h fun y18 e19 h => ?_
     refine Goes.cal (.call { callee := .value (.tmp 44), args := #[(.tmp 46)], argTypes := #[3] }) 47 4 62 _ (W.z3z x0.X x1 y18 e19 b3 p3 ) ?_
     rintro _ w7 ⟨S7, rfl, z7, p7⟩
     have p7 := p7.dp 0
     refine Goes.rn 2 [(48, .bool y18), (49, .bool y18)] Jv1 ?_
     refine ite_some h (fun h20 h => ?_) (fun h20 h => ?_)
     ·
      rw [h20]
      refine Goes.rn 1 [(50, (pt b1 6))] Jv2 ?_
      refine Goes.ld 3 (.tmp 50) 51 3 ⟨b1, 6, none⟩ (.i x0.Y) (p7.c 0 6) ?_
      refine Goes.rn 4 [(52, .bool (decide (x0.Y = 0))), (53, .bool (decide (x0.Y = 0))), (4, .bool (decide (x0.Y = 0)))] Juy ?_
      obtain rfl := Option.some.inj h
      have p7 := p7.dp 0
      exact Goes.rt Tryd.f44 (.bool (decide (x0.Y = 0))) ⟨S7, rfl, ((((Ext.refl S0 w0).trans z2).trans z3).trans z7), p7⟩
     ·
      have u23 : y18 = false := by simpa using h20
      rw [u23]
      refine Goes.rn 6 [(50, undef), (51, undef), (52, undef), (53, .bool false), (4, .bool false)] Juy ?_
      obtain rfl := Option.some.inj h
      have p7 := p7.dp 0
      exact Goes.rt Tryd.f44 (.bool false) ⟨S7, rfl, ((((Ext.refl S0 w0).trans z2).trans z3).trans z7), p7⟩
    ·
     rw [decide_eq_false h17]
     refine Goes.rn 12 [(44, undef), (45, undef), (46, undef), (47, undef), (48, .bool false), (49, .bool false), (50, undef), (51, undef), (52, undef), (53, .bool false), (4, .bool false)] Juy ?_
     obtain rfl := Option.some.inj h
     have p3 := (p3.dp 0).dp 0
     exact Goes.rt Tryd.f44 (.bool false) ⟨S0, rfl, (((Ext.refl S0 w0).trans z2).trans z3), p3⟩
   ·
    rw [decide_eq_false h16]
    refine Goes.rn 6 [(55, .bool (decide (x0.Op = 3))), (54, .bool (decide (x0.Op = 3)))] Jv3 ?_
    refine ite_some h (fun h21 h => ?_) (fun h21 h => ?_)
    ·
     rw [decide_eq_true h21]
     refine Goes.rn 5 [(56, .bool (decide (x0.Set = [0, 0, 0, 0]))), (57, .bool (decide (x0.Set = [0, 0, 0, 0])))] Jv5 ?_
     refine ite_some h (fun h22 h => ?_) (fun h22 h => ?_)
     ·
      rw [decide_eq_true h22]
      refine Goes.rn 1 [(58, (pt b1 5))] Jv6 ?_
      refine Goes.ld 3 (.tmp 58) 59 3 ⟨b1, 5, none⟩ (.i x0.X) (p3.c 1 5) ?_
      refine Goes.rn 3 [(60, .bool (decide (x0.X = 0))), (61, .bool (decide (x0.X = 0))), (62, .bool (decide (x0.X = 0)))] Jv7 ?_
      refine ite_some h (fun h23 h => ?_) (fun h23 h => ?_)
      ·
       rw [decide_eq_true h23]
       refine Goes.rn 1 [(63, (pt b1 6))] Jv8 ?_
       refine Goes.ld 3 (.tmp 63) 64 3 ⟨b1, 6, none⟩ (.i x0.Y) (p3.c 1 6) ?_
       refine Goes.rn 4 [(65, .bool (decide (x0.Y = 0))), (66, .bool (decide (x0.Y = 0))), (4, .bool (decide (x0.Y = 0)))] Jv4 ?_
       obtain rfl := Option.some.inj h
       have p3 := (p3.dp 0).dp 0
       exact Goes.rt Tryd.f44 (.bool (decide (x0.Y = 0))) ⟨S0, rfl, (((Ext.refl S0 w0).trans z2).trans z3), p3⟩
      ·
       rw [decide_eq_false h23]
       refine Goes.rn 6 [(63, undef), (64, undef), (65, undef), (66, .bool false), (4, .bool false)] Jv4 ?_
       obtain rfl := Option.some.inj h
       have p3 := (p3.dp 0).dp 0
       exact Goes.rt Tryd.f44 (.bool false) ⟨S0, rfl, (((Ext.refl S0 w0).trans z2).trans z3), p3⟩
     ·
      rw [decide_eq_false h22]
      refine Goes.rn 11 [(58, undef), (59, undef), (60, undef), (61, .bool false), (62, .bool false), (63, undef), (64, undef), (65, undef), (66, .bool false), (4, .bool false)] Jv4 ?_
      obtain rfl := Option.some.inj h
      have p3 := (p3.dp 0).dp 0
      exact Goes.rt Tryd.f44 (.bool false) ⟨S0, rfl, (((Ext.refl S0 w0).trans z2).trans z3), p3⟩
    ·
     rw [decide_eq_false h21]
     refine Goes.rn 7 [(4, .bool false)] Jv9 ?_
     obtain rfl := Option.some.inj h
     have p3 := (p3.dp 0).dp 0
     exact Goes.rt Tryd.f44 (.bool false) ⟨S0, rfl, (((Ext.refl S0 w0).trans z2).trans z3), p3⟩

def Qob := sub [1, 1, 1] B23
def Jva : List Item := [.code Qob]
def Jvb : List Item := .inBlock 0 :: Jva
def Qoc := sub [1, 1, 0, 1, 0, 0] B23
def Jvc : List Item := .inLoop Qoc :: Jvb
def Jvd : List Item := .code Qoc :: Jvc
def Qod := sub [1, 1, 0, 1, 0, 0, 1, 1] B23
def Jve : List Item := .code Qod :: Jvc
def Qoe := sub [1, 1, 0, 1, 0, 0, 1, 0] B23
def Jvf : List Item := .code Qoe :: Jve
def Qof := sub [1, 1, 0, 1, 0, 0, 1, 1, 1] B23
def Jvg : List Item := .code Qof :: Jvc
def Jvh : List Item := .inBlock 1 :: Jvg
def Qog := sub [1, 1, 0, 1, 0, 0, 1, 1, 0, 0, 1] B23
def Jvi : List Item := .code Qog :: Jvh
def Qoh := sub [1, 1, 0, 1, 0, 0, 1, 1, 0, 0, 0] B23
def Jvj : List Item := .inRegion (opsOf Qoh) [0, 1, 2, 3] :: Jvi
def Qoi := sub [1, 1, 0, 1, 0, 0, 1, 1, 0, 0, 1, 1] B23
def Jvk : List Item := .code Qoi :: Jvh
def Qoj := sub [1, 1, 0, 1, 0, 0, 1, 1, 0, 0, 1, 0] B23
def Jvl : List Item := .inRegion (opsOf Qoj) [0, 1, 2, 3, 4] :: Jvk
def Jvm : List Item := .inRegion (opsOf Qoj) [3, 4] :: Jvk
def Qok := sub [1, 1, 0, 1, 0, 0, 1, 1, 0, 0, 1, 1, 0, 1] B23
def Jvn : List Item := .code Qok :: Jvh
def Qol := sub [1, 1, 1, 1] B23
def Jvo : List Item := [.code Qol]

def Post.z41 (r : Int) (v : Value) (w' : World) : Prop :=
 ∃ S', v = .i r ∧ Ext S0 w0 S' w' ∧ Hp nz wz S' w' (Lr)

def L.z42 : (List T48) × (List T48) × Int × Int → Int → Prop := fun ⟨x0, x13, x14, x15⟩ r => ∀ S1 w1, Ext S0 w0 S1 w1 → ∀ Ax0 nx0 cx0 um0 um1 um2 (_ : Hp nz wz S1 w1 (Lr)) (_ : Rd kT48 S1 w1 Ax0 cx0 x0) (_ : x0.length = nx0) (_ : Rd kT48 S1 w1 um0 um2 x13) (_ : x13.length = um1) (junk : Nat → Value),
 Goes Tryd.prog (base 23) Jvd ⟨lfr 25 [(0, .slice Ax0 nx0 cx0), (13, .slice um0 um1 um2), (14, .i x14), (15, .i x15)] junk, []⟩ w1 (Done Tryd.prog 23 (Rets (Post.z41 nz wz S0 w0 Lr r)))

theorem W.z42 {nz wz S0 w0 Lr} [Gw nz wz] : ∀ a r, M.prog_Check_l1 a = some r → (L.z42 nz wz S0 w0 Lr) a r := by
 refine M.prog_Check_l1.partial_correctness (motive := (L.z42 nz wz S0 w0 Lr)) ?_
 intro um3 um4 ⟨x0, x13, x14, x15⟩ r h S1 w1 hx Ax0 nx0 cx0 um0 um1 um2 p1 fx0 lx0 um5 um6 junk
 try dsimp only at h
 subst lx0
 subst um6
 refine Goes.rn 5 [(16, .bool (decide (x15 < x14)))] Jvf ?_
 refine ite_some h (fun h3 h => ?_) (fun h3 h => ?_)
 ·
  rw [decide_eq_true h3]
  refine Goes.rn 6 [] Jvj ?_
  refine guard_some' h fun g4 h => ?_
  refine guard_some' h fun g5 h => ?_
  refine Op_.ixR_n 37 (.tmp 13) (.tmp 15) 17 0 49 .i64 x15 (gi x13 x15) rfl rfl um5 Goes.v (by kernel_rfl) (by kernel_rfl) (by kernel_rfl) (by kernel_rfl) g4 g5 ?_
  intro a6 _ f7 q8
  obtain ⟨_, _, rfl, rfl, ⟨_, _, rfl, ⟨l9, f10⟩, ⟨_, _, rfl, rfl, rfl⟩⟩⟩ := q8
  obtain rfl := els_lit4' f10 l9
  refine Goes.ldN 49 (.tmp 17) 18 49 a6 ([.i ((gi x13 x15).Op)] ++ ((U4 ((gi x13 x15).Set) []) ++ ([.i ((gi x13 x15).X)] ++ [.i ((gi x13 x15).Y)]))) (f7.cell) ?_
  refine Op_.alloc 49 4 0 (.agg #[.i 0, .u 0, .u 0, .u 0, .u 0, .i 0, .i 0]) [.i 0, .u 0, .u 0, .u 0, .u 0, .i 0, .i 0] p1 Goes.v (by kernel_rfl) (by kernel_rfl) ?_
  intro b11 w2 z2 p2
  refine Op_.st 49 (.tmp 4) (.tmp 18) 0 0 b11 0 (ag (.i ((gi x13 x15).Op) :: U4 ((gi x13 x15).Set) [.i ((gi x13 x15).X), .i ((gi x13 x15).Y)])) (.i ((gi x13 x15).Op) :: U4 ((gi x13 x15).Set) [.i ((gi x13 x15).X), .i ((gi x13 x15).Y)]) p2 rfl Goes.s (by kernel_rfl) (by kernel_rfl) (by kernel_rfl) (by kernel_rfl) (Nat.zero_le _) (by simp only [List.length_cons, List.length_nil]; omega) (by simp [Value.oneCell']) ?_
  intro w3 z3 p3
  have p3 : Hp nz wz S1 w3 ((some b11, .row 49 (.i ((gi x13 x15).Op) :: U4 ((gi x13 x15).Set) [.i ((gi x13 x15).X), .i ((gi x13 x15).Y)]) 7 0) :: Lr) := p3
  refine Goes.rn 3 [] Jvl ?_
  refine Goes.ldN 49 (.tmp 4) 19 49 ⟨b11, 0, none⟩ (.i ((gi x13 x15).Op) :: U4 ((gi x13 x15).Set) [.i ((gi x13 x15).X), .i ((gi x13 x15).Y)]) (p3.pa 0 0) ?_
  refine Goes.rn 2 [(20, .slice Ax0 x0.length cx0), (21, .i (x0.length : Int))] Jvm ?_
  refine bind_some' h fun y13 e14 h => ?_
  refine Goes.cal (kc 44 [19, 21] #[49, 3]) 22 4 44 _ (W.z40 (⟨(gi x13 x15).Op, ((gi x13 x15).Set), (gi x13 x15).X, (gi x13 x15).Y⟩ : T48) (x0.length : Int) y13 e14  p3 l9) ?_
  rintro _ w4 ⟨S4, rfl, z4, p4⟩
  have p4 := p4.dp 0
  refine Goes.rn 2 [(23, .bool (!y13))] Jvk ?_
  refine ite_some h (fun h15 h => ?_) (fun h15 h => ?_)
  ·
   rw [h15]
   refine Goes.rn 8 [(24, .i (wr .i64 (x15 + 1))), (15, .i (wr .i64 (x15 + 1)))] Jvd ?_
   exact Goes.jp 25 [(0, .slice Ax0 x0.length cx0), (13, .slice um0 x13.length um2), (14, .i x14), (15, .i (wr .i64 (x15 + 1)))] (um4 _ _ h _ _ (((hx.trans z2).trans z3).trans z4) Ax0 x0.length cx0 um0 x13.length um2 p4 (fx0.ext ((z2.trans z3).trans z4)) rfl (um5.ext ((z2.trans z3).trans z4)) rfl)
  ·
   have u83 : y13 = false := by simpa using h15
   rw [u83]
   refine Goes.rn 5 [(2, .i 110)] Jvn ?_
   obtain rfl := Option.some.inj h
   exact Goes.rt Tryd.f23 (.i 110) ⟨S4, rfl, (((hx.trans z2).trans z3).trans z4), p4⟩
 ·
  rw [decide_eq_false h3]
  refine Goes.rn 6 [(2, .i 0)] Jvo ?_
  obtain rfl := Option.some.inj h
  exact Goes.rt Tryd.f23 (.i 0) ⟨S1, rfl, hx, p1⟩

def Qom := sub [1, 1] B23
def Jvp : List Item := [.code Qom]
def Qon := sub [1, 0, 1] B23
def Jvq : List Item := .code Qon :: Jvp
def Qoo := sub [1, 0, 1, 0, 1] B23
def Jvr : List Item := .code Qoo :: Jvp

def L.z43 : (List T48) × Bool → Int → Prop := fun ⟨x0, x12⟩ r => ∀ S1 w1, Ext S0 w0 S1 w1 → ∀ Ax0 nx0 cx0 (_ : Hp nz wz S1 w1 (Lr)) (_ : Rd kT48 S1 w1 Ax0 cx0 x0) (_ : x0.length = nx0) (junk : Nat → Value),
 Goes Tryd.prog (base 23) Jvq ⟨lfr 25 [(0, .slice Ax0 nx0 cx0), (12, .bool x12)] junk, []⟩ w1 (Done Tryd.prog 23 (Rets (Post.z41 nz wz S0 w0 Lr r)))

theorem W.z43 {nz wz S0 w0 Lr} [Gw nz wz] : ∀ a r, M.prog_Check_l0 a = some r → L.z43 nz wz S0 w0 Lr a r := by
 intro ⟨x0, x12⟩ r h S1 w1 hx Ax0 nx0 cx0 p1 fx0 lx0 junk
 rw [M.prog_Check_l0] at h
 try dsimp only at h
 subst lx0
 refine ite_some h (fun h2 h => ?_) (fun h2 h => ?_)
 ·
  rw [h2]
  refine Goes.rn 5 [(2, .i 110)] Jvr ?_
  obtain rfl := Option.some.inj h
  exact Goes.rt Tryd.f23 (.i 110) ⟨S1, rfl, hx, p1⟩
 ·
  have h2' : x12 = false := by simpa using h2
  rw [h2']
  refine Goes.rn 11 [(13, .slice Ax0 x0.length cx0), (14, .i (x0.length : Int)), (15, .i 0)] Jvd ?_
  exact Goes.jp 25 [(0, .slice Ax0 x0.length cx0), (13, .slice Ax0 x0.length cx0), (14, .i (x0.length : Int)), (15, .i 0)] (W.z42 _ _ h _ _ hx Ax0 x0.length cx0 Ax0 x0.length cx0 p1 fx0 rfl fx0 rfl)

def Qop := sub [1, 0, 0] B23
def Jvs : List Item := .inRegion (opsOf Qop) [4, 5, 6, 7] :: Jvq

theorem W.z41 (x0 : List T48) (r : Int) (h : M.prog_Check x0 = some r) {nz wz S0 w0 Lr} [Gw nz wz] (Ax0 nx0 cx0) (p0 : Hp nz wz S0 w0 (Lr)) (fx0 : Rd kT48 S0 w0 Ax0 cx0 x0) (lx0 : x0.length = nx0) :
  Calls Tryd.prog 23 #[.slice Ax0 nx0 cx0] w0 (Rets (Post.z41 nz wz S0 w0 Lr r)) := by
 subst lx0
 refine calls_of_goes (fn := Tryd.f23) (c := B23) (by kernel_rfl) (by kernel_rfl) 24 (by kernel_rfl) ?_
 refine Goes.jp 25 [(0, .slice Ax0 x0.length cx0)] (fun junk => ?_)
 delta M.prog_Check at h
 refine Goes.rn 11 [(2, .i 0), (5, .slice Ax0 x0.length cx0), (6, .i (x0.length : Int)), (7, .bool (decide ((x0.length : Int) = 0))), (8, .bool (decide ((x0.length : Int) = 0)))] Jvs ?_
 refine ite_some h (fun h1 h => ?_) (fun h1 h => ?_)
 ·
  rw [decide_eq_true h1]
  refine Goes.rn 5 [(9, undef), (10, undef), (11, undef), (12, .bool true)] Jvq ?_
  exact Goes.jp 25 [(0, .slice Ax0 x0.length cx0), (12, .bool true)] (W.z43 _ _ h _ _ (Ext.refl S0 w0) Ax0 x0.length cx0 p0 fx0 rfl)
 ·
  rw [decide_eq_false h1]
  refine Goes.rn 5 [(9, .slice Ax0 x0.length cx0), (10, .i (x0.length : Int)), (11, .bool (decide ((x0.length : Int) > 2048))), (12, .bool (decide ((x0.length : Int) > 2048)))] Jvq ?_
  exact Goes.jp 25 [(0, .slice Ax0 x0.length cx0), (12, .bool (decide ((x0.length : Int) > 2048)))] (W.z43 _ _ h _ _ (Ext.refl S0 w0) Ax0 x0.length cx0 p0 fx0 rfl)

def Qoq := sub [1] B41
def Jvt : List Item := [.code Qoq]
def Qor := sub [0] B41
def Jvu : List Item := .inRegion (opsOf Qor) [0, 1] :: Jvt
def Qos := sub [1, 1] B41
def Jvv : List Item := [.code Qos]

def Post.z44 (r : List T48) (v : Value) (w' : World) : Prop :=
 ∃ S' ue5 um7 um8 um9, v = .func (.func 59) #[] #[(pt ue5 0)] ∧ Ext S0 w0 S' w' ∧ Hp nz wz S' w' ((some ue5, .row 37 [.slice um7 um8 um9] 1 0) :: Lr) ∧ Rd kT48 S' w' um7 um9 r ∧ r.length = um8

theorem W.z44 (x0 : List T48) (r : List T48) (h : M.prog_lines x0 = some r) {nz wz S0 w0 Lr} [Gw nz wz] (Ax0 nx0 cx0) (p0 : Hp nz wz S0 w0 (Lr)) (fx0 : Rd kT48 S0 w0 Ax0 cx0 x0) (lx0 : x0.length = nx0) :
  Calls Tryd.prog 41 #[.slice Ax0 nx0 cx0] w0 (Rets (Post.z44 nz wz S0 w0 Lr r)) := by
 subst lx0
 refine calls_of_goes (fn := Tryd.f41) (c := B41) (by kernel_rfl) (by kernel_rfl) 3 (by kernel_rfl) ?_
 refine Goes.jp 4 [(0, .slice Ax0 x0.length cx0)] (fun junk => ?_)
 delta M.prog_lines at h
 refine Goes.rn 2 [] Jvu ?_
 refine Op_.box 37 (.tmp 0) 1 0 (.slice Ax0 x0.length cx0) [.slice Ax0 x0.length cx0] p0 Goes.v (by kernel_rfl) (by kernel_rfl) ?_
 intro b1 w2 z2 p2
 refine Goes.rn 7 [(2, .func (.func 59) #[] #[(pt b1 0)]), (3, .func (.func 59) #[] #[(pt b1 0)])] Jvv ?_
 obtain rfl := Option.some.inj h
 exact Goes.rt Tryd.f41 (.func (.func 59) #[] #[(pt b1 0)]) ⟨S0, b1, Ax0, x0.length, cx0, rfl, ((Ext.refl S0 w0).trans z2), p2, (fx0.ext z2), rfl⟩

def Qot := sub [1, 1] B76
def Jvw : List Item := [.code Qot]
def Qou := sub [1, 1, 1, 1] B76
def Jvx : List Item := [.code Qou]
def Qov := sub [1, 1, 1, 0] B76
def Jvy : List Item := .inRegion (opsOf Qov) [2, 3, 4, 5] :: Jvx
def Qow := sub [1, 1, 1, 1, 1, 1] B76
def Jvz : List Item := [.code Qow]
def Qox := sub [1, 1, 1, 1, 1, 0] B76
def Jw0 : List Item := .code Qox :: Jvz
def Qoy := sub [1, 1, 1, 1, 1, 1, 1] B76
def Jw1 : List Item := [.code Qoy]
def Qoz := sub [1, 1, 1, 1, 1, 1, 0] B76
def Jw2 : List Item := .inRegion (opsOf Qoz) [] :: Jw1
def Qp0 := sub [1, 1, 1, 1, 1, 1, 1, 1] B76
def Jw3 : List Item := [.code Qp0]

def Post.z45 (r : Int) (v : Value) (w' : World) : Prop :=
 ∃ S', v = .i r ∧ Ext S0 w0 S' w' ∧ Hp nz wz S' w' (Lr)

theorem W.z45 (x0 : Int) (r : Int) (h : M.bits_OnesCount64 x0 = some r) {nz wz S0 w0 Lr} [Gw nz wz] (p0 : Hp nz wz S0 w0 (Lr)) :
  Calls Tryd.prog 76 #[.u x0] w0 (Rets (Post.z45 nz wz S0 w0 Lr r)) := by
 refine calls_of_goes (fn := Tryd.f76) (c := B76) (by kernel_rfl) (by kernel_rfl) 34 (by kernel_rfl) ?_
 refine Goes.jp 35 [(0, .u x0)] (fun junk => ?_)
 delta M.bits_OnesCount64 at h
 refine Goes.rn 14 [(2, .i 0), (3, .u x0), (4, .u (ishr .u64 x0 1)), (5, .u (iand .u64 (ishr .u64 x0 1) 6148914691236517205)), (6, .u x0), (7, .u (iand .u64 x0 6148914691236517205)), (8, .u (wr .u64 ((iand .u64 (ishr .u64 x0 1) 6148914691236517205) + (iand .u64 x0 6148914691236517205)))), (0, .u (wr .u64 ((iand .u64 (ishr .u64 x0 1) 6148914691236517205) + (iand .u64 x0 6148914691236517205))))] Jvw ?_
 refine Goes.rn 14 [(9, .u (wr .u64 ((iand .u64 (ishr .u64 x0 1) 6148914691236517205) + (iand .u64 x0 6148914691236517205)))), (10, .u (ishr .u64 (wr .u64 ((iand .u64 (ishr .u64 x0 1) 6148914691236517205) + (iand .u64 x0 6148914691236517205))) 2)), (11, .u (iand .u64 (ishr .u64 (wr .u64 ((iand .u64 (ishr .u64 x0 1) 6148914691236517205) + (iand .u64 x0 6148914691236517205))) 2) 3689348814741910323)), (12, .u (wr .u64 ((iand .u64 (ishr .u64 x0 1) 6148914691236517205) + (iand .u64 x0 6148914691236517205)))), (13, .u (iand .u64 (wr .u64 ((iand .u64 (ishr .u64 x0 1) 6148914691236517205) + (iand .u64 x0 6148914691236517205))) 3689348814741910323)), (14, .u (wr .u64 ((iand .u64 (ishr .u64 (wr .u64 ((iand .u64 (ishr .u64 x0 1) 6148914691236517205) + (iand .u64 x0 6148914691236517205))) 2) 3689348814741910323) + (iand .u64 (wr .u64 ((iand .u64 (ishr .u64 x0 1) 6148914691236517205) + (iand .u64 x0 6148914691236517205))) 3689348814741910323)))), (0, .u (wr .u64 ((iand .u64 (ishr .u64 (wr .u64 ((iand .u64 (ishr .u64 x0 1) 6148914691236517205) + (iand .u64 x0 6148914691236517205))) 2) 3689348814741910323) + (iand .u64 (wr .u64 ((iand .u64 (ishr .u64 x0 1) 6148914691236517205) + (iand .u64 x0 6148914691236517205))) 3689348814741910323)))), (15, .u (wr .u64 ((iand .u64 (ishr .u64 (wr .u64 ((iand .u64 (ishr .u64 x0 1) 6148914691236517205) + (iand .u64 x0 6148914691236517205))) 2) 3689348814741910323) + (iand .u64 (wr .u64 ((iand .u64 (ishr .u64 x0 1) 6148914691236517205) + (iand .u64 x0 6148914691236517205))) 3689348814741910323)))), (16, .u (ishr .u64 (wr .u64 ((iand .u64 (ishr .u64 (wr .u64 ((iand .u64 (ishr .u64 x0 1) 6148914691236517205) + (iand .u64 x0 6148914691236517205))) 2) 3689348814741910323) + (iand .u64 (wr .u64 ((iand .u64 (ishr .u64 x0 1) 6148914691236517205) + (iand .u64 x0 6148914691236517205))) 3689348814741910323))) 4))] Jvy ?_
 refine Goes.rn 14 [(17, .u (wr .u64 ((iand .u64 (ishr .u64 (wr .u64 ((iand .u64 (ishr .u64 x0 1) 6148914691236517205) + (iand .u64 x0 6148914691236517205))) 2) 3689348814741910323) + (iand .u64 (wr .u64 ((iand .u64 (ishr .u64 x0 1) 6148914691236517205) + (iand .u64 x0 6148914691236517205))) 3689348814741910323)))), (18, .u (wr .u64 ((ishr .u64 (wr .u64 ((iand .u64 (ishr .u64 (wr .u64 ((iand .u64 (ishr .u64 x0 1) 6148914691236517205) + (iand .u64 x0 6148914691236517205))) 2) 3689348814741910323) + (iand .u64 (wr .u64 ((iand .u64 (ishr .u64 x0 1) 6148914691236517205) + (iand .u64 x0 6148914691236517205))) 3689348814741910323))) 4) + (wr .u64 ((iand .u64 (ishr .u64 (wr .u64 ((iand .u64 (ishr .u64 x0 1) 6148914691236517205) + (iand .u64 x0 6148914691236517205))) 2) 3689348814741910323) + (iand .u64 (wr .u64 ((iand .u64 (ishr .u64 x0 1) 6148914691236517205) + (iand .u64 x0 6148914691236517205))) 3689348814741910323)))))), (19, .u (iand .u64 (wr .u64 ((ishr .u64 (wr .u64 ((iand .u64 (ishr .u64 (wr .u64 ((iand .u64 (ishr .u64 x0 1) 6148914691236517205) + (iand .u64 x0 6148914691236517205))) 2) 3689348814741910323) + (iand .u64 (wr .u64 ((iand .u64 (ishr .u64 x0 1) 6148914691236517205) + (iand .u64 x0 6148914691236517205))) 3689348814741910323))) 4) + (wr .u64 ((iand .u64 (ishr .u64 (wr .u64 ((iand .u64 (ishr .u64 x0 1) 6148914691236517205) + (iand .u64 x0 6148914691236517205))) 2) 3689348814741910323) + (iand .u64 (wr .u64 ((iand .u64 (ishr .u64 x0 1) 6148914691236517205) + (iand .u64 x0 6148914691236517205))) 3689348814741910323))))) 1085102592571150095)), (0, .u (wr .u64 ((iand .u64 (wr .u64 ((ishr .u64 (wr .u64 ((iand .u64 (ishr .u64 (wr .u64 ((iand .u64 (ishr .u64 x0 1) 6148914691236517205) + (iand .u64 x0 6148914691236517205))) 2) 3689348814741910323) + (iand .u64 (wr .u64 ((iand .u64 (ishr .u64 x0 1) 6148914691236517205) + (iand .u64 x0 6148914691236517205))) 3689348814741910323))) 4) + (wr .u64 ((iand .u64 (ishr .u64 (wr .u64 ((iand .u64 (ishr .u64 x0 1) 6148914691236517205) + (iand .u64 x0 6148914691236517205))) 2) 3689348814741910323) + (iand .u64 (wr .u64 ((iand .u64 (ishr .u64 x0 1) 6148914691236517205) + (iand .u64 x0 6148914691236517205))) 3689348814741910323))))) 1085102592571150095) + (ishr .u64 (iand .u64 (wr .u64 ((ishr .u64 (wr .u64 ((iand .u64 (ishr .u64 (wr .u64 ((iand .u64 (ishr .u64 x0 1) 6148914691236517205) + (iand .u64 x0 6148914691236517205))) 2) 3689348814741910323) + (iand .u64 (wr .u64 ((iand .u64 (ishr .u64 x0 1) 6148914691236517205) + (iand .u64 x0 6148914691236517205))) 3689348814741910323))) 4) + (wr .u64 ((iand .u64 (ishr .u64 (wr .u64 ((iand .u64 (ishr .u64 x0 1) 6148914691236517205) + (iand .u64 x0 6148914691236517205))) 2) 3689348814741910323) + (iand .u64 (wr .u64 ((iand .u64 (ishr .u64 x0 1) 6148914691236517205) + (iand .u64 x0 6148914691236517205))) 3689348814741910323))))) 1085102592571150095) 8)))), (20, .u (iand .u64 (wr .u64 ((ishr .u64 (wr .u64 ((iand .u64 (ishr .u64 (wr .u64 ((iand .u64 (ishr .u64 x0 1) 6148914691236517205) + (iand .u64 x0 6148914691236517205))) 2) 3689348814741910323) + (iand .u64 (wr .u64 ((iand .u64 (ishr .u64 x0 1) 6148914691236517205) + (iand .u64 x0 6148914691236517205))) 3689348814741910323))) 4) + (wr .u64 ((iand .u64 (ishr .u64 (wr .u64 ((iand .u64 (ishr .u64 x0 1) 6148914691236517205) + (iand .u64 x0 6148914691236517205))) 2) 3689348814741910323) + (iand .u64 (wr .u64 ((iand .u64 (ishr .u64 x0 1) 6148914691236517205) + (iand .u64 x0 6148914691236517205))) 3689348814741910323))))) 1085102592571150095)), (21, .u (iand .u64 (wr .u64 ((ishr .u64 (wr .u64 ((iand .u64 (ishr .u64 (wr .u64 ((iand .u64 (ishr .u64 x0 1) 6148914691236517205) + (iand .u64 x0 6148914691236517205))) 2) 3689348814741910323) + (iand .u64 (wr .u64 ((iand .u64 (ishr .u64 x0 1) 6148914691236517205) + (iand .u64 x0 6148914691236517205))) 3689348814741910323))) 4) + (wr .u64 ((iand .u64 (ishr .u64 (wr .u64 ((iand .u64 (ishr .u64 x0 1) 6148914691236517205) + (iand .u64 x0 6148914691236517205))) 2) 3689348814741910323) + (iand .u64 (wr .u64 ((iand .u64 (ishr .u64 x0 1) 6148914691236517205) + (iand .u64 x0 6148914691236517205))) 3689348814741910323))))) 1085102592571150095)), (22, .u (ishr .u64 (iand .u64 (wr .u64 ((ishr .u64 (wr .u64 ((iand .u64 (ishr .u64 (wr .u64 ((iand .u64 (ishr .u64 x0 1) 6148914691236517205) + (iand .u64 x0 6148914691236517205))) 2) 3689348814741910323) + (iand .u64 (wr .u64 ((iand .u64 (ishr .u64 x0 1) 6148914691236517205) + (iand .u64 x0 6148914691236517205))) 3689348814741910323))) 4) + (wr .u64 ((iand .u64 (ishr .u64 (wr .u64 ((iand .u64 (ishr .u64 x0 1) 6148914691236517205) + (iand .u64 x0 6148914691236517205))) 2) 3689348814741910323) + (iand .u64 (wr .u64 ((iand .u64 (ishr .u64 x0 1) 6148914691236517205) + (iand .u64 x0 6148914691236517205))) 3689348814741910323))))) 1085102592571150095) 8)), (23, .u (wr .u64 ((iand .u64 (wr .u64 ((ishr .u64 (wr .u64 ((iand .u64 (ishr .u64 (wr .u64 ((iand .u64 (ishr .u64 x0 1) 6148914691236517205) + (iand .u64 x0 6148914691236517205))) 2) 3689348814741910323) + (iand .u64 (wr .u64 ((iand .u64 (ishr .u64 x0 1) 6148914691236517205) + (iand .u64 x0 6148914691236517205))) 3689348814741910323))) 4) + (wr .u64 ((iand .u64 (ishr .u64 (wr .u64 ((iand .u64 (ishr .u64 x0 1) 6148914691236517205) + (iand .u64 x0 6148914691236517205))) 2) 3689348814741910323) + (iand .u64 (wr .u64 ((iand .u64 (ishr .u64 x0 1) 6148914691236517205) + (iand .u64 x0 6148914691236517205))) 3689348814741910323))))) 1085102592571150095) + (ishr .u64 (iand .u64 (wr .u64 ((ishr .u64 (wr .u64 ((iand .u64 (ishr .u64 (wr .u64 ((iand .u64 (ishr .u64 x0 1) 6148914691236517205) + (iand .u64 x0 6148914691236517205))) 2) 3689348814741910323) + (iand .u64 (wr .u64 ((iand .u64 (ishr .u64 x0 1) 6148914691236517205) + (iand .u64 x0 6148914691236517205))) 3689348814741910323))) 4) + (wr .u64 ((iand .u64 (ishr .u64 (wr .u64 ((iand .u64 (ishr .u64 x0 1) 6148914691236517205) + (iand .u64 x0 6148914691236517205))) 2) 3689348814741910323) + (iand .u64 (wr .u64 ((iand .u64 (ishr .u64 x0 1) 6148914691236517205) + (iand .u64 x0 6148914691236517205))) 3689348814741910323))))) 1085102592571150095) 8))))] Jw0 ?_
 refine Goes.rn 14 [(24, .u (wr .u64 ((iand .u64 (wr .u64 ((ishr .u64 (wr .u64 ((iand .u64 (ishr .u64 (wr .u64 ((iand .u64 (ishr .u64 x0 1) 6148914691236517205) + (iand .u64 x0 6148914691236517205))) 2) 3689348814741910323) + (iand .u64 (wr .u64 ((iand .u64 (ishr .u64 x0 1) 6148914691236517205) + (iand .u64 x0 6148914691236517205))) 3689348814741910323))) 4) + (wr .u64 ((iand .u64 (ishr .u64 (wr .u64 ((iand .u64 (ishr .u64 x0 1) 6148914691236517205) + (iand .u64 x0 6148914691236517205))) 2) 3689348814741910323) + (iand .u64 (wr .u64 ((iand .u64 (ishr .u64 x0 1) 6148914691236517205) + (iand .u64 x0 6148914691236517205))) 3689348814741910323))))) 1085102592571150095) + (ishr .u64 (iand .u64 (wr .u64 ((ishr .u64 (wr .u64 ((iand .u64 (ishr .u64 (wr .u64 ((iand .u64 (ishr .u64 x0 1) 6148914691236517205) + (iand .u64 x0 6148914691236517205))) 2) 3689348814741910323) + (iand .u64 (wr .u64 ((iand .u64 (ishr .u64 x0 1) 6148914691236517205) + (iand .u64 x0 6148914691236517205))) 3689348814741910323))) 4) + (wr .u64 ((iand .u64 (ishr .u64 (wr .u64 ((iand .u64 (ishr .u64 x0 1) 6148914691236517205) + (iand .u64 x0 6148914691236517205))) 2) 3689348814741910323) + (iand .u64 (wr .u64 ((iand .u64 (ishr .u64 x0 1) 6148914691236517205) + (iand .u64 x0 6148914691236517205))) 3689348814741910323))))) 1085102592571150095) 8)))), (25, .u (wr .u64 ((iand .u64 (wr .u64 ((ishr .u64 (wr .u64 ((iand .u64 (ishr .u64 (wr .u64 ((iand .u64 (ishr .u64 x0 1) 6148914691236517205) + (iand .u64 x0 6148914691236517205))) 2) 3689348814741910323) + (iand .u64 (wr .u64 ((iand .u64 (ishr .u64 x0 1) 6148914691236517205) + (iand .u64 x0 6148914691236517205))) 3689348814741910323))) 4) + (wr .u64 ((iand .u64 (ishr .u64 (wr .u64 ((iand .u64 (ishr .u64 x0 1) 6148914691236517205) + (iand .u64 x0 6148914691236517205))) 2) 3689348814741910323) + (iand .u64 (wr .u64 ((iand .u64 (ishr .u64 x0 1) 6148914691236517205) + (iand .u64 x0 6148914691236517205))) 3689348814741910323))))) 1085102592571150095) + (ishr .u64 (iand .u64 (wr .u64 ((ishr .u64 (wr .u64 ((iand .u64 (ishr .u64 (wr .u64 ((iand .u64 (ishr .u64 x0 1) 6148914691236517205) + (iand .u64 x0 6148914691236517205))) 2) 3689348814741910323) + (iand .u64 (wr .u64 ((iand .u64 (ishr .u64 x0 1) 6148914691236517205) + (iand .u64 x0 6148914691236517205))) 3689348814741910323))) 4) + (wr .u64 ((iand .u64 (ishr .u64 (wr .u64 ((iand .u64 (ishr .u64 x0 1) 6148914691236517205) + (iand .u64 x0 6148914691236517205))) 2) 3689348814741910323) + (iand .u64 (wr .u64 ((iand .u64 (ishr .u64 x0 1) 6148914691236517205) + (iand .u64 x0 6148914691236517205))) 3689348814741910323))))) 1085102592571150095) 8)))), (26, .u (ishr .u64 (wr .u64 ((iand .u64 (wr .u64 ((ishr .u64 (wr .u64 ((iand .u64 (ishr .u64 (wr .u64 ((iand .u64 (ishr .u64 x0 1) 6148914691236517205) + (iand .u64 x0 6148914691236517205))) 2) 3689348814741910323) + (iand .u64 (wr .u64 ((iand .u64 (ishr .u64 x0 1) 6148914691236517205) + (iand .u64 x0 6148914691236517205))) 3689348814741910323))) 4) + (wr .u64 ((iand .u64 (ishr .u64 (wr .u64 ((iand .u64 (ishr .u64 x0 1) 6148914691236517205) + (iand .u64 x0 6148914691236517205))) 2) 3689348814741910323) + (iand .u64 (wr .u64 ((iand .u64 (ishr .u64 x0 1) 6148914691236517205) + (iand .u64 x0 6148914691236517205))) 3689348814741910323))))) 1085102592571150095) + (ishr .u64 (iand .u64 (wr .u64 ((ishr .u64 (wr .u64 ((iand .u64 (ishr .u64 (wr .u64 ((iand .u64 (ishr .u64 x0 1) 6148914691236517205) + (iand .u64 x0 6148914691236517205))) 2) 3689348814741910323) + (iand .u64 (wr .u64 ((iand .u64 (ishr .u64 x0 1) 6148914691236517205) + (iand .u64 x0 6148914691236517205))) 3689348814741910323))) 4) + (wr .u64 ((iand .u64 (ishr .u64 (wr .u64 ((iand .u64 (ishr .u64 x0 1) 6148914691236517205) + (iand .u64 x0 6148914691236517205))) 2) 3689348814741910323) + (iand .u64 (wr .u64 ((iand .u64 (ishr .u64 x0 1) 6148914691236517205) + (iand .u64 x0 6148914691236517205))) 3689348814741910323))))) 1085102592571150095) 8))) 16)), (27, .u (wr .u64 ((wr .u64 ((iand .u64 (wr .u64 ((ishr .u64 (wr .u64 ((iand .u64 (ishr .u64 (wr .u64 ((iand .u64 (ishr .u64 x0 1) 6148914691236517205) + (iand .u64 x0 6148914691236517205))) 2) 3689348814741910323) + (iand .u64 (wr .u64 ((iand .u64 (ishr .u64 x0 1) 6148914691236517205) + (iand .u64 x0 6148914691236517205))) 3689348814741910323))) 4) + (wr .u64 ((iand .u64 (ishr .u64 (wr .u64 ((iand .u64 (ishr .u64 x0 1) 6148914691236517205) + (iand .u64 x0 6148914691236517205))) 2) 3689348814741910323) + (iand .u64 (wr .u64 ((iand .u64 (ishr .u64 x0 1) 6148914691236517205) + (iand .u64 x0 6148914691236517205))) 3689348814741910323))))) 1085102592571150095) + (ishr .u64 (iand .u64 (wr .u64 ((ishr .u64 (wr .u64 ((iand .u64 (ishr .u64 (wr .u64 ((iand .u64 (ishr .u64 x0 1) 6148914691236517205) + (iand .u64 x0 6148914691236517205))) 2) 3689348814741910323) + (iand .u64 (wr .u64 ((iand .u64 (ishr .u64 x0 1) 6148914691236517205) + (iand .u64 x0 6148914691236517205))) 3689348814741910323))) 4) + (wr .u64 ((iand .u64 (ishr .u64 (wr .u64 ((iand .u64 (ishr .u64 x0 1) 6148914691236517205) + (iand .u64 x0 6148914691236517205))) 2) 3689348814741910323) + (iand .u64 (wr .u64 ((iand .u64 (ishr .u64 x0 1) 6148914691236517205) + (iand .u64 x0 6148914691236517205))) 3689348814741910323))))) 1085102592571150095) 8))) + (ishr .u64 (wr .u64 ((iand .u64 (wr .u64 ((ishr .u64 (wr .u64 ((iand .u64 (ishr .u64 (wr .u64 ((iand .u64 (ishr .u64 x0 1) 6148914691236517205) + (iand .u64 x0 6148914691236517205))) 2) 3689348814741910323) + (iand .u64 (wr .u64 ((iand .u64 (ishr .u64 x0 1) 6148914691236517205) + (iand .u64 x0 6148914691236517205))) 3689348814741910323))) 4) + (wr .u64 ((iand .u64 (ishr .u64 (wr .u64 ((iand .u64 (ishr .u64 x0 1) 6148914691236517205) + (iand .u64 x0 6148914691236517205))) 2) 3689348814741910323) + (iand .u64 (wr .u64 ((iand .u64 (ishr .u64 x0 1) 6148914691236517205) + (iand .u64 x0 6148914691236517205))) 3689348814741910323))))) 1085102592571150095) + (ishr .u64 (iand .u64 (wr .u64 ((ishr .u64 (wr .u64 ((iand .u64 (ishr .u64 (wr .u64 ((iand .u64 (ishr .u64 x0 1) 6148914691236517205) + (iand .u64 x0 6148914691236517205))) 2) 3689348814741910323) + (iand .u64 (wr .u64 ((iand .u64 (ishr .u64 x0 1) 6148914691236517205) + (iand .u64 x0 6148914691236517205))) 3689348814741910323))) 4) + (wr .u64 ((iand .u64 (ishr .u64 (wr .u64 ((iand .u64 (ishr .u64 x0 1) 6148914691236517205) + (iand .u64 x0 6148914691236517205))) 2) 3689348814741910323) + (iand .u64 (wr .u64 ((iand .u64 (ishr .u64 x0 1) 6148914691236517205) + (iand .u64 x0 6148914691236517205))) 3689348814741910323))))) 1085102592571150095) 8))) 16)))), (0, .u (wr .u64 ((wr .u64 ((wr .u64 ((iand .u64 (wr .u64 ((ishr .u64 (wr .u64 ((iand .u64 (ishr .u64 (wr .u64 ((iand .u64 (ishr .u64 x0 1) 6148914691236517205) + (iand .u64 x0 6148914691236517205))) 2) 3689348814741910323) + (iand .u64 (wr .u64 ((iand .u64 (ishr .u64 x0 1) 6148914691236517205) + (iand .u64 x0 6148914691236517205))) 3689348814741910323))) 4) + (wr .u64 ((iand .u64 (ishr .u64 (wr .u64 ((iand .u64 (ishr .u64 x0 1) 6148914691236517205) + (iand .u64 x0 6148914691236517205))) 2) 3689348814741910323) + (iand .u64 (wr .u64 ((iand .u64 (ishr .u64 x0 1) 6148914691236517205) + (iand .u64 x0 6148914691236517205))) 3689348814741910323))))) 1085102592571150095) + (ishr .u64 (iand .u64 (wr .u64 ((ishr .u64 (wr .u64 ((iand .u64 (ishr .u64 (wr .u64 ((iand .u64 (ishr .u64 x0 1) 6148914691236517205) + (iand .u64 x0 6148914691236517205))) 2) 3689348814741910323) + (iand .u64 (wr .u64 ((iand .u64 (ishr .u64 x0 1) 6148914691236517205) + (iand .u64 x0 6148914691236517205))) 3689348814741910323))) 4) + (wr .u64 ((iand .u64 (ishr .u64 (wr .u64 ((iand .u64 (ishr .u64 x0 1) 6148914691236517205) + (iand .u64 x0 6148914691236517205))) 2) 3689348814741910323) + (iand .u64 (wr .u64 ((iand .u64 (ishr .u64 x0 1) 6148914691236517205) + (iand .u64 x0 6148914691236517205))) 3689348814741910323))))) 1085102592571150095) 8))) + (ishr .u64 (wr .u64 ((iand .u64 (wr .u64 ((ishr .u64 (wr .u64 ((iand .u64 (ishr .u64 (wr .u64 ((iand .u64 (ishr .u64 x0 1) 6148914691236517205) + (iand .u64 x0 6148914691236517205))) 2) 3689348814741910323) + (iand .u64 (wr .u64 ((iand .u64 (ishr .u64 x0 1) 6148914691236517205) + (iand .u64 x0 6148914691236517205))) 3689348814741910323))) 4) + (wr .u64 ((iand .u64 (ishr .u64 (wr .u64 ((iand .u64 (ishr .u64 x0 1) 6148914691236517205) + (iand .u64 x0 6148914691236517205))) 2) 3689348814741910323) + (iand .u64 (wr .u64 ((iand .u64 (ishr .u64 x0 1) 6148914691236517205) + (iand .u64 x0 6148914691236517205))) 3689348814741910323))))) 1085102592571150095) + (ishr .u64 (iand .u64 (wr .u64 ((ishr .u64 (wr .u64 ((iand .u64 (ishr .u64 (wr .u64 ((iand .u64 (ishr .u64 x0 1) 6148914691236517205) + (iand .u64 x0 6148914691236517205))) 2) 3689348814741910323) + (iand .u64 (wr .u64 ((iand .u64 (ishr .u64 x0 1) 6148914691236517205) + (iand .u64 x0 6148914691236517205))) 3689348814741910323))) 4) + (wr .u64 ((iand .u64 (ishr .u64 (wr .u64 ((iand .u64 (ishr .u64 x0 1) 6148914691236517205) + (iand .u64 x0 6148914691236517205))) 2) 3689348814741910323) + (iand .u64 (wr .u64 ((iand .u64 (ishr .u64 x0 1) 6148914691236517205) + (iand .u64 x0 6148914691236517205))) 3689348814741910323))))) 1085102592571150095) 8))) 16))) + (ishr .u64 (wr .u64 ((wr .u64 ((iand .u64 (wr .u64 ((ishr .u64 (wr .u64 ((iand .u64 (ishr .u64 (wr .u64 ((iand .u64 (ishr .u64 x0 1) 6148914691236517205) + (iand .u64 x0 6148914691236517205))) 2) 3689348814741910323) + (iand .u64 (wr .u64 ((iand .u64 (ishr .u64 x0 1) 6148914691236517205) + (iand .u64 x0 6148914691236517205))) 3689348814741910323))) 4) + (wr .u64 ((iand .u64 (ishr .u64 (wr .u64 ((iand .u64 (ishr .u64 x0 1) 6148914691236517205) + (iand .u64 x0 6148914691236517205))) 2) 3689348814741910323) + (iand .u64 (wr .u64 ((iand .u64 (ishr .u64 x0 1) 6148914691236517205) + (iand .u64 x0 6148914691236517205))) 3689348814741910323))))) 1085102592571150095) + (ishr .u64 (iand .u64 (wr .u64 ((ishr .u64 (wr .u64 ((iand .u64 (ishr .u64 (wr .u64 ((iand .u64 (ishr .u64 x0 1) 6148914691236517205) + (iand .u64 x0 6148914691236517205))) 2) 3689348814741910323) + (iand .u64 (wr .u64 ((iand .u64 (ishr .u64 x0 1) 6148914691236517205) + (iand .u64 x0 6148914691236517205))) 3689348814741910323))) 4) + (wr .u64 ((iand .u64 (ishr .u64 (wr .u64 ((iand .u64 (ishr .u64 x0 1) 6148914691236517205) + (iand .u64 x0 6148914691236517205))) 2) 3689348814741910323) + (iand .u64 (wr .u64 ((iand .u64 (ishr .u64 x0 1) 6148914691236517205) + (iand .u64 x0 6148914691236517205))) 3689348814741910323))))) 1085102592571150095) 8))) + (ishr .u64 (wr .u64 ((iand .u64 (wr .u64 ((ishr .u64 (wr .u64 ((iand .u64 (ishr .u64 (wr .u64 ((iand .u64 (ishr .u64 x0 1) 6148914691236517205) + (iand .u64 x0 6148914691236517205))) 2) 3689348814741910323) + (iand .u64 (wr .u64 ((iand .u64 (ishr .u64 x0 1) 6148914691236517205) + (iand .u64 x0 6148914691236517205))) 3689348814741910323))) 4) + (wr .u64 ((iand .u64 (ishr .u64 (wr .u64 ((iand .u64 (ishr .u64 x0 1) 6148914691236517205) + (iand .u64 x0 6148914691236517205))) 2) 3689348814741910323) + (iand .u64 (wr .u64 ((iand .u64 (ishr .u64 x0 1) 6148914691236517205) + (iand .u64 x0 6148914691236517205))) 3689348814741910323))))) 1085102592571150095) + (ishr .u64 (iand .u64 (wr .u64 ((ishr .u64 (wr .u64 ((iand .u64 (ishr .u64 (wr .u64 ((iand .u64 (ishr .u64 x0 1) 6148914691236517205) + (iand .u64 x0 6148914691236517205))) 2) 3689348814741910323) + (iand .u64 (wr .u64 ((iand .u64 (ishr .u64 x0 1) 6148914691236517205) + (iand .u64 x0 6148914691236517205))) 3689348814741910323))) 4) + (wr .u64 ((iand .u64 (ishr .u64 (wr .u64 ((iand .u64 (ishr .u64 x0 1) 6148914691236517205) + (iand .u64 x0 6148914691236517205))) 2) 3689348814741910323) + (iand .u64 (wr .u64 ((iand .u64 (ishr .u64 x0 1) 6148914691236517205) + (iand .u64 x0 6148914691236517205))) 3689348814741910323))))) 1085102592571150095) 8))) 16))) 32)))), (28, .u (wr .u64 ((wr .u64 ((iand .u64 (wr .u64 ((ishr .u64 (wr .u64 ((iand .u64 (ishr .u64 (wr .u64 ((iand .u64 (ishr .u64 x0 1) 6148914691236517205) + (iand .u64 x0 6148914691236517205))) 2) 3689348814741910323) + (iand .u64 (wr .u64 ((iand .u64 (ishr .u64 x0 1) 6148914691236517205) + (iand .u64 x0 6148914691236517205))) 3689348814741910323))) 4) + (wr .u64 ((iand .u64 (ishr .u64 (wr .u64 ((iand .u64 (ishr .u64 x0 1) 6148914691236517205) + (iand .u64 x0 6148914691236517205))) 2) 3689348814741910323) + (iand .u64 (wr .u64 ((iand .u64 (ishr .u64 x0 1) 6148914691236517205) + (iand .u64 x0 6148914691236517205))) 3689348814741910323))))) 1085102592571150095) + (ishr .u64 (iand .u64 (wr .u64 ((ishr .u64 (wr .u64 ((iand .u64 (ishr .u64 (wr .u64 ((iand .u64 (ishr .u64 x0 1) 6148914691236517205) + (iand .u64 x0 6148914691236517205))) 2) 3689348814741910323) + (iand .u64 (wr .u64 ((iand .u64 (ishr .u64 x0 1) 6148914691236517205) + (iand .u64 x0 6148914691236517205))) 3689348814741910323))) 4) + (wr .u64 ((iand .u64 (ishr .u64 (wr .u64 ((iand .u64 (ishr .u64 x0 1) 6148914691236517205) + (iand .u64 x0 6148914691236517205))) 2) 3689348814741910323) + (iand .u64 (wr .u64 ((iand .u64 (ishr .u64 x0 1) 6148914691236517205) + (iand .u64 x0 6148914691236517205))) 3689348814741910323))))) 1085102592571150095) 8))) + (ishr .u64 (wr .u64 ((iand .u64 (wr .u64 ((ishr .u64 (wr .u64 ((iand .u64 (ishr .u64 (wr .u64 ((iand .u64 (ishr .u64 x0 1) 6148914691236517205) + (iand .u64 x0 6148914691236517205))) 2) 3689348814741910323) + (iand .u64 (wr .u64 ((iand .u64 (ishr .u64 x0 1) 6148914691236517205) + (iand .u64 x0 6148914691236517205))) 3689348814741910323))) 4) + (wr .u64 ((iand .u64 (ishr .u64 (wr .u64 ((iand .u64 (ishr .u64 x0 1) 6148914691236517205) + (iand .u64 x0 6148914691236517205))) 2) 3689348814741910323) + (iand .u64 (wr .u64 ((iand .u64 (ishr .u64 x0 1) 6148914691236517205) + (iand .u64 x0 6148914691236517205))) 3689348814741910323))))) 1085102592571150095) + (ishr .u64 (iand .u64 (wr .u64 ((ishr .u64 (wr .u64 ((iand .u64 (ishr .u64 (wr .u64 ((iand .u64 (ishr .u64 x0 1) 6148914691236517205) + (iand .u64 x0 6148914691236517205))) 2) 3689348814741910323) + (iand .u64 (wr .u64 ((iand .u64 (ishr .u64 x0 1) 6148914691236517205) + (iand .u64 x0 6148914691236517205))) 3689348814741910323))) 4) + (wr .u64 ((iand .u64 (ishr .u64 (wr .u64 ((iand .u64 (ishr .u64 x0 1) 6148914691236517205) + (iand .u64 x0 6148914691236517205))) 2) 3689348814741910323) + (iand .u64 (wr .u64 ((iand .u64 (ishr .u64 x0 1) 6148914691236517205) + (iand .u64 x0 6148914691236517205))) 3689348814741910323))))) 1085102592571150095) 8))) 16)))), (29, .u (wr .u64 ((wr .u64 ((iand .u64 (wr .u64 ((ishr .u64 (wr .u64 ((iand .u64 (ishr .u64 (wr .u64 ((iand .u64 (ishr .u64 x0 1) 6148914691236517205) + (iand .u64 x0 6148914691236517205))) 2) 3689348814741910323) + (iand .u64 (wr .u64 ((iand .u64 (ishr .u64 x0 1) 6148914691236517205) + (iand .u64 x0 6148914691236517205))) 3689348814741910323))) 4) + (wr .u64 ((iand .u64 (ishr .u64 (wr .u64 ((iand .u64 (ishr .u64 x0 1) 6148914691236517205) + (iand .u64 x0 6148914691236517205))) 2) 3689348814741910323) + (iand .u64 (wr .u64 ((iand .u64 (ishr .u64 x0 1) 6148914691236517205) + (iand .u64 x0 6148914691236517205))) 3689348814741910323))))) 1085102592571150095) + (ishr .u64 (iand .u64 (wr .u64 ((ishr .u64 (wr .u64 ((iand .u64 (ishr .u64 (wr .u64 ((iand .u64 (ishr .u64 x0 1) 6148914691236517205) + (iand .u64 x0 6148914691236517205))) 2) 3689348814741910323) + (iand .u64 (wr .u64 ((iand .u64 (ishr .u64 x0 1) 6148914691236517205) + (iand .u64 x0 6148914691236517205))) 3689348814741910323))) 4) + (wr .u64 ((iand .u64 (ishr .u64 (wr .u64 ((iand .u64 (ishr .u64 x0 1) 6148914691236517205) + (iand .u64 x0 6148914691236517205))) 2) 3689348814741910323) + (iand .u64 (wr .u64 ((iand .u64 (ishr .u64 x0 1) 6148914691236517205) + (iand .u64 x0 6148914691236517205))) 3689348814741910323))))) 1085102592571150095) 8))) + (ishr .u64 (wr .u64 ((iand .u64 (wr .u64 ((ishr .u64 (wr .u64 ((iand .u64 (ishr .u64 (wr .u64 ((iand .u64 (ishr .u64 x0 1) 6148914691236517205) + (iand .u64 x0 6148914691236517205))) 2) 3689348814741910323) + (iand .u64 (wr .u64 ((iand .u64 (ishr .u64 x0 1) 6148914691236517205) + (iand .u64 x0 6148914691236517205))) 3689348814741910323))) 4) + (wr .u64 ((iand .u64 (ishr .u64 (wr .u64 ((iand .u64 (ishr .u64 x0 1) 6148914691236517205) + (iand .u64 x0 6148914691236517205))) 2) 3689348814741910323) + (iand .u64 (wr .u64 ((iand .u64 (ishr .u64 x0 1) 6148914691236517205) + (iand .u64 x0 6148914691236517205))) 3689348814741910323))))) 1085102592571150095) + (ishr .u64 (iand .u64 (wr .u64 ((ishr .u64 (wr .u64 ((iand .u64 (ishr .u64 (wr .u64 ((iand .u64 (ishr .u64 x0 1) 6148914691236517205) + (iand .u64 x0 6148914691236517205))) 2) 3689348814741910323) + (iand .u64 (wr .u64 ((iand .u64 (ishr .u64 x0 1) 6148914691236517205) + (iand .u64 x0 6148914691236517205))) 3689348814741910323))) 4) + (wr .u64 ((iand .u64 (ishr .u64 (wr .u64 ((iand .u64 (ishr .u64 x0 1) 6148914691236517205) + (iand .u64 x0 6148914691236517205))) 2) 3689348814741910323) + (iand .u64 (wr .u64 ((iand .u64 (ishr .u64 x0 1) 6148914691236517205) + (iand .u64 x0 6148914691236517205))) 3689348814741910323))))) 1085102592571150095) 8))) 16)))), (30, .u (ishr .u64 (wr .u64 ((wr .u64 ((iand .u64 (wr .u64 ((ishr .u64 (wr .u64 ((iand .u64 (ishr .u64 (wr .u64 ((iand .u64 (ishr .u64 x0 1) 6148914691236517205) + (iand .u64 x0 6148914691236517205))) 2) 3689348814741910323) + (iand .u64 (wr .u64 ((iand .u64 (ishr .u64 x0 1) 6148914691236517205) + (iand .u64 x0 6148914691236517205))) 3689348814741910323))) 4) + (wr .u64 ((iand .u64 (ishr .u64 (wr .u64 ((iand .u64 (ishr .u64 x0 1) 6148914691236517205) + (iand .u64 x0 6148914691236517205))) 2) 3689348814741910323) + (iand .u64 (wr .u64 ((iand .u64 (ishr .u64 x0 1) 6148914691236517205) + (iand .u64 x0 6148914691236517205))) 3689348814741910323))))) 1085102592571150095) + (ishr .u64 (iand .u64 (wr .u64 ((ishr .u64 (wr .u64 ((iand .u64 (ishr .u64 (wr .u64 ((iand .u64 (ishr .u64 x0 1) 6148914691236517205) + (iand .u64 x0 6148914691236517205))) 2) 3689348814741910323) + (iand .u64 (wr .u64 ((iand .u64 (ishr .u64 x0 1) 6148914691236517205) + (iand .u64 x0 6148914691236517205))) 3689348814741910323))) 4) + (wr .u64 ((iand .u64 (ishr .u64 (wr .u64 ((iand .u64 (ishr .u64 x0 1) 6148914691236517205) + (iand .u64 x0 6148914691236517205))) 2) 3689348814741910323) + (iand .u64 (wr .u64 ((iand .u64 (ishr .u64 x0 1) 6148914691236517205) + (iand .u64 x0 6148914691236517205))) 3689348814741910323))))) 1085102592571150095) 8))) + (ishr .u64 (wr .u64 ((iand .u64 (wr .u64 ((ishr .u64 (wr .u64 ((iand .u64 (ishr .u64 (wr .u64 ((iand .u64 (ishr .u64 x0 1) 6148914691236517205) + (iand .u64 x0 6148914691236517205))) 2) 3689348814741910323) + (iand .u64 (wr .u64 ((iand .u64 (ishr .u64 x0 1) 6148914691236517205) + (iand .u64 x0 6148914691236517205))) 3689348814741910323))) 4) + (wr .u64 ((iand .u64 (ishr .u64 (wr .u64 ((iand .u64 (ishr .u64 x0 1) 6148914691236517205) + (iand .u64 x0 6148914691236517205))) 2) 3689348814741910323) + (iand .u64 (wr .u64 ((iand .u64 (ishr .u64 x0 1) 6148914691236517205) + (iand .u64 x0 6148914691236517205))) 3689348814741910323))))) 1085102592571150095) + (ishr .u64 (iand .u64 (wr .u64 ((ishr .u64 (wr .u64 ((iand .u64 (ishr .u64 (wr .u64 ((iand .u64 (ishr .u64 x0 1) 6148914691236517205) + (iand .u64 x0 6148914691236517205))) 2) 3689348814741910323) + (iand .u64 (wr .u64 ((iand .u64 (ishr .u64 x0 1) 6148914691236517205) + (iand .u64 x0 6148914691236517205))) 3689348814741910323))) 4) + (wr .u64 ((iand .u64 (ishr .u64 (wr .u64 ((iand .u64 (ishr .u64 x0 1) 6148914691236517205) + (iand .u64 x0 6148914691236517205))) 2) 3689348814741910323) + (iand .u64 (wr .u64 ((iand .u64 (ishr .u64 x0 1) 6148914691236517205) + (iand .u64 x0 6148914691236517205))) 3689348814741910323))))) 1085102592571150095) 8))) 16))) 32)), (31, .u (wr .u64 ((wr .u64 ((wr .u64 ((iand .u64 (wr .u64 ((ishr .u64 (wr .u64 ((iand .u64 (ishr .u64 (wr .u64 ((iand .u64 (ishr .u64 x0 1) 6148914691236517205) + (iand .u64 x0 6148914691236517205))) 2) 3689348814741910323) + (iand .u64 (wr .u64 ((iand .u64 (ishr .u64 x0 1) 6148914691236517205) + (iand .u64 x0 6148914691236517205))) 3689348814741910323))) 4) + (wr .u64 ((iand .u64 (ishr .u64 (wr .u64 ((iand .u64 (ishr .u64 x0 1) 6148914691236517205) + (iand .u64 x0 6148914691236517205))) 2) 3689348814741910323) + (iand .u64 (wr .u64 ((iand .u64 (ishr .u64 x0 1) 6148914691236517205) + (iand .u64 x0 6148914691236517205))) 3689348814741910323))))) 1085102592571150095) + (ishr .u64 (iand .u64 (wr .u64 ((ishr .u64 (wr .u64 ((iand .u64 (ishr .u64 (wr .u64 ((iand .u64 (ishr .u64 x0 1) 6148914691236517205) + (iand .u64 x0 6148914691236517205))) 2) 3689348814741910323) + (iand .u64 (wr .u64 ((iand .u64 (ishr .u64 x0 1) 6148914691236517205) + (iand .u64 x0 6148914691236517205))) 3689348814741910323))) 4) + (wr .u64 ((iand .u64 (ishr .u64 (wr .u64 ((iand .u64 (ishr .u64 x0 1) 6148914691236517205) + (iand .u64 x0 6148914691236517205))) 2) 3689348814741910323) + (iand .u64 (wr .u64 ((iand .u64 (ishr .u64 x0 1) 6148914691236517205) + (iand .u64 x0 6148914691236517205))) 3689348814741910323))))) 1085102592571150095) 8))) + (ishr .u64 (wr .u64 ((iand .u64 (wr .u64 ((ishr .u64 (wr .u64 ((iand .u64 (ishr .u64 (wr .u64 ((iand .u64 (ishr .u64 x0 1) 6148914691236517205) + (iand .u64 x0 6148914691236517205))) 2) 3689348814741910323) + (iand .u64 (wr .u64 ((iand .u64 (ishr .u64 x0 1) 6148914691236517205) + (iand .u64 x0 6148914691236517205))) 3689348814741910323))) 4) + (wr .u64 ((iand .u64 (ishr .u64 (wr .u64 ((iand .u64 (ishr .u64 x0 1) 6148914691236517205) + (iand .u64 x0 6148914691236517205))) 2) 3689348814741910323) + (iand .u64 (wr .u64 ((iand .u64 (ishr .u64 x0 1) 6148914691236517205) + (iand .u64 x0 6148914691236517205))) 3689348814741910323))))) 1085102592571150095) + (ishr .u64 (iand .u64 (wr .u64 ((ishr .u64 (wr .u64 ((iand .u64 (ishr .u64 (wr .u64 ((iand .u64 (ishr .u64 x0 1) 6148914691236517205) + (iand .u64 x0 6148914691236517205))) 2) 3689348814741910323) + (iand .u64 (wr .u64 ((iand .u64 (ishr .u64 x0 1) 6148914691236517205) + (iand .u64 x0 6148914691236517205))) 3689348814741910323))) 4) + (wr .u64 ((iand .u64 (ishr .u64 (wr .u64 ((iand .u64 (ishr .u64 x0 1) 6148914691236517205) + (iand .u64 x0 6148914691236517205))) 2) 3689348814741910323) + (iand .u64 (wr .u64 ((iand .u64 (ishr .u64 x0 1) 6148914691236517205) + (iand .u64 x0 6148914691236517205))) 3689348814741910323))))) 1085102592571150095) 8))) 16))) + (ishr .u64 (wr .u64 ((wr .u64 ((iand .u64 (wr .u64 ((ishr .u64 (wr .u64 ((iand .u64 (ishr .u64 (wr .u64 ((iand .u64 (ishr .u64 x0 1) 6148914691236517205) + (iand .u64 x0 6148914691236517205))) 2) 3689348814741910323) + (iand .u64 (wr .u64 ((iand .u64 (ishr .u64 x0 1) 6148914691236517205) + (iand .u64 x0 6148914691236517205))) 3689348814741910323))) 4) + (wr .u64 ((iand .u64 (ishr .u64 (wr .u64 ((iand .u64 (ishr .u64 x0 1) 6148914691236517205) + (iand .u64 x0 6148914691236517205))) 2) 3689348814741910323) + (iand .u64 (wr .u64 ((iand .u64 (ishr .u64 x0 1) 6148914691236517205) + (iand .u64 x0 6148914691236517205))) 3689348814741910323))))) 1085102592571150095) + (ishr .u64 (iand .u64 (wr .u64 ((ishr .u64 (wr .u64 ((iand .u64 (ishr .u64 (wr .u64 ((iand .u64 (ishr .u64 x0 1) 6148914691236517205) + (iand .u64 x0 6148914691236517205))) 2) 3689348814741910323) + (iand .u64 (wr .u64 ((iand .u64 (ishr .u64 x0 1) 6148914691236517205) + (iand .u64 x0 6148914691236517205))) 3689348814741910323))) 4) + (wr .u64 ((iand .u64 (ishr .u64 (wr .u64 ((iand .u64 (ishr .u64 x0 1) 6148914691236517205) + (iand .u64 x0 6148914691236517205))) 2) 3689348814741910323) + (iand .u64 (wr .u64 ((iand .u64 (ishr .u64 x0 1) 6148914691236517205) + (iand .u64 x0 6148914691236517205))) 3689348814741910323))))) 1085102592571150095) 8))) + (ishr .u64 (wr .u64 ((iand .u64 (wr .u64 ((ishr .u64 (wr .u64 ((iand .u64 (ishr .u64 (wr .u64 ((iand .u64 (ishr .u64 x0 1) 6148914691236517205) + (iand .u64 x0 6148914691236517205))) 2) 3689348814741910323) + (iand .u64 (wr .u64 ((iand .u64 (ishr .u64 x0 1) 6148914691236517205) + (iand .u64 x0 6148914691236517205))) 3689348814741910323))) 4) + (wr .u64 ((iand .u64 (ishr .u64 (wr .u64 ((iand .u64 (ishr .u64 x0 1) 6148914691236517205) + (iand .u64 x0 6148914691236517205))) 2) 3689348814741910323) + (iand .u64 (wr .u64 ((iand .u64 (ishr .u64 x0 1) 6148914691236517205) + (iand .u64 x0 6148914691236517205))) 3689348814741910323))))) 1085102592571150095) + (ishr .u64 (iand .u64 (wr .u64 ((ishr .u64 (wr .u64 ((iand .u64 (ishr .u64 (wr .u64 ((iand .u64 (ishr .u64 x0 1) 6148914691236517205) + (iand .u64 x0 6148914691236517205))) 2) 3689348814741910323) + (iand .u64 (wr .u64 ((iand .u64 (ishr .u64 x0 1) 6148914691236517205) + (iand .u64 x0 6148914691236517205))) 3689348814741910323))) 4) + (wr .u64 ((iand .u64 (ishr .u64 (wr .u64 ((iand .u64 (ishr .u64 x0 1) 6148914691236517205) + (iand .u64 x0 6148914691236517205))) 2) 3689348814741910323) + (iand .u64 (wr .u64 ((iand .u64 (ishr .u64 x0 1) 6148914691236517205) + (iand .u64 x0 6148914691236517205))) 3689348814741910323))))) 1085102592571150095) 8))) 16))) 32))))] Jw2 ?_
 refine Goes.rn 8 [(32, .u (wr .u64 ((wr .u64 ((wr .u64 ((iand .u64 (wr .u64 ((ishr .u64 (wr .u64 ((iand .u64 (ishr .u64 (wr .u64 ((iand .u64 (ishr .u64 x0 1) 6148914691236517205) + (iand .u64 x0 6148914691236517205))) 2) 3689348814741910323) + (iand .u64 (wr .u64 ((iand .u64 (ishr .u64 x0 1) 6148914691236517205) + (iand .u64 x0 6148914691236517205))) 3689348814741910323))) 4) + (wr .u64 ((iand .u64 (ishr .u64 (wr .u64 ((iand .u64 (ishr .u64 x0 1) 6148914691236517205) + (iand .u64 x0 6148914691236517205))) 2) 3689348814741910323) + (iand .u64 (wr .u64 ((iand .u64 (ishr .u64 x0 1) 6148914691236517205) + (iand .u64 x0 6148914691236517205))) 3689348814741910323))))) 1085102592571150095) + (ishr .u64 (iand .u64 (wr .u64 ((ishr .u64 (wr .u64 ((iand .u64 (ishr .u64 (wr .u64 ((iand .u64 (ishr .u64 x0 1) 6148914691236517205) + (iand .u64 x0 6148914691236517205))) 2) 3689348814741910323) + (iand .u64 (wr .u64 ((iand .u64 (ishr .u64 x0 1) 6148914691236517205) + (iand .u64 x0 6148914691236517205))) 3689348814741910323))) 4) + (wr .u64 ((iand .u64 (ishr .u64 (wr .u64 ((iand .u64 (ishr .u64 x0 1) 6148914691236517205) + (iand .u64 x0 6148914691236517205))) 2) 3689348814741910323) + (iand .u64 (wr .u64 ((iand .u64 (ishr .u64 x0 1) 6148914691236517205) + (iand .u64 x0 6148914691236517205))) 3689348814741910323))))) 1085102592571150095) 8))) + (ishr .u64 (wr .u64 ((iand .u64 (wr .u64 ((ishr .u64 (wr .u64 ((iand .u64 (ishr .u64 (wr .u64 ((iand .u64 (ishr .u64 x0 1) 6148914691236517205) + (iand .u64 x0 6148914691236517205))) 2) 3689348814741910323) + (iand .u64 (wr .u64 ((iand .u64 (ishr .u64 x0 1) 6148914691236517205) + (iand .u64 x0 6148914691236517205))) 3689348814741910323))) 4) + (wr .u64 ((iand .u64 (ishr .u64 (wr .u64 ((iand .u64 (ishr .u64 x0 1) 6148914691236517205) + (iand .u64 x0 6148914691236517205))) 2) 3689348814741910323) + (iand .u64 (wr .u64 ((iand .u64 (ishr .u64 x0 1) 6148914691236517205) + (iand .u64 x0 6148914691236517205))) 3689348814741910323))))) 1085102592571150095) + (ishr .u64 (iand .u64 (wr .u64 ((ishr .u64 (wr .u64 ((iand .u64 (ishr .u64 (wr .u64 ((iand .u64 (ishr .u64 x0 1) 6148914691236517205) + (iand .u64 x0 6148914691236517205))) 2) 3689348814741910323) + (iand .u64 (wr .u64 ((iand .u64 (ishr .u64 x0 1) 6148914691236517205) + (iand .u64 x0 6148914691236517205))) 3689348814741910323))) 4) + (wr .u64 ((iand .u64 (ishr .u64 (wr .u64 ((iand .u64 (ishr .u64 x0 1) 6148914691236517205) + (iand .u64 x0 6148914691236517205))) 2) 3689348814741910323) + (iand .u64 (wr .u64 ((iand .u64 (ishr .u64 x0 1) 6148914691236517205) + (iand .u64 x0 6148914691236517205))) 3689348814741910323))))) 1085102592571150095) 8))) 16))) + (ishr .u64 (wr .u64 ((wr .u64 ((iand .u64 (wr .u64 ((ishr .u64 (wr .u64 ((iand .u64 (ishr .u64 (wr .u64 ((iand .u64 (ishr .u64 x0 1) 6148914691236517205) + (iand .u64 x0 6148914691236517205))) 2) 3689348814741910323) + (iand .u64 (wr .u64 ((iand .u64 (ishr .u64 x0 1) 6148914691236517205) + (iand .u64 x0 6148914691236517205))) 3689348814741910323))) 4) + (wr .u64 ((iand .u64 (ishr .u64 (wr .u64 ((iand .u64 (ishr .u64 x0 1) 6148914691236517205) + (iand .u64 x0 6148914691236517205))) 2) 3689348814741910323) + (iand .u64 (wr .u64 ((iand .u64 (ishr .u64 x0 1) 6148914691236517205) + (iand .u64 x0 6148914691236517205))) 3689348814741910323))))) 1085102592571150095) + (ishr .u64 (iand .u64 (wr .u64 ((ishr .u64 (wr .u64 ((iand .u64 (ishr .u64 (wr .u64 ((iand .u64 (ishr .u64 x0 1) 6148914691236517205) + (iand .u64 x0 6148914691236517205))) 2) 3689348814741910323) + (iand .u64 (wr .u64 ((iand .u64 (ishr .u64 x0 1) 6148914691236517205) + (iand .u64 x0 6148914691236517205))) 3689348814741910323))) 4) + (wr .u64 ((iand .u64 (ishr .u64 (wr .u64 ((iand .u64 (ishr .u64 x0 1) 6148914691236517205) + (iand .u64 x0 6148914691236517205))) 2) 3689348814741910323) + (iand .u64 (wr .u64 ((iand .u64 (ishr .u64 x0 1) 6148914691236517205) + (iand .u64 x0 6148914691236517205))) 3689348814741910323))))) 1085102592571150095) 8))) + (ishr .u64 (wr .u64 ((iand .u64 (wr .u64 ((ishr .u64 (wr .u64 ((iand .u64 (ishr .u64 (wr .u64 ((iand .u64 (ishr .u64 x0 1) 6148914691236517205) + (iand .u64 x0 6148914691236517205))) 2) 3689348814741910323) + (iand .u64 (wr .u64 ((iand .u64 (ishr .u64 x0 1) 6148914691236517205) + (iand .u64 x0 6148914691236517205))) 3689348814741910323))) 4) + (wr .u64 ((iand .u64 (ishr .u64 (wr .u64 ((iand .u64 (ishr .u64 x0 1) 6148914691236517205) + (iand .u64 x0 6148914691236517205))) 2) 3689348814741910323) + (iand .u64 (wr .u64 ((iand .u64 (ishr .u64 x0 1) 6148914691236517205) + (iand .u64 x0 6148914691236517205))) 3689348814741910323))))) 1085102592571150095) + (ishr .u64 (iand .u64 (wr .u64 ((ishr .u64 (wr .u64 ((iand .u64 (ishr .u64 (wr .u64 ((iand .u64 (ishr .u64 x0 1) 6148914691236517205) + (iand .u64 x0 6148914691236517205))) 2) 3689348814741910323) + (iand .u64 (wr .u64 ((iand .u64 (ishr .u64 x0 1) 6148914691236517205) + (iand .u64 x0 6148914691236517205))) 3689348814741910323))) 4) + (wr .u64 ((iand .u64 (ishr .u64 (wr .u64 ((iand .u64 (ishr .u64 x0 1) 6148914691236517205) + (iand .u64 x0 6148914691236517205))) 2) 3689348814741910323) + (iand .u64 (wr .u64 ((iand .u64 (ishr .u64 x0 1) 6148914691236517205) + (iand .u64 x0 6148914691236517205))) 3689348814741910323))))) 1085102592571150095) 8))) 16))) 32)))), (33, .i (wr .i64 (wr .u64 ((wr .u64 ((wr .u64 ((iand .u64 (wr .u64 ((ishr .u64 (wr .u64 ((iand .u64 (ishr .u64 (wr .u64 ((iand .u64 (ishr .u64 x0 1) 6148914691236517205) + (iand .u64 x0 6148914691236517205))) 2) 3689348814741910323) + (iand .u64 (wr .u64 ((iand .u64 (ishr .u64 x0 1) 6148914691236517205) + (iand .u64 x0 6148914691236517205))) 3689348814741910323))) 4) + (wr .u64 ((iand .u64 (ishr .u64 (wr .u64 ((iand .u64 (ishr .u64 x0 1) 6148914691236517205) + (iand .u64 x0 6148914691236517205))) 2) 3689348814741910323) + (iand .u64 (wr .u64 ((iand .u64 (ishr .u64 x0 1) 6148914691236517205) + (iand .u64 x0 6148914691236517205))) 3689348814741910323))))) 1085102592571150095) + (ishr .u64 (iand .u64 (wr .u64 ((ishr .u64 (wr .u64 ((iand .u64 (ishr .u64 (wr .u64 ((iand .u64 (ishr .u64 x0 1) 6148914691236517205) + (iand .u64 x0 6148914691236517205))) 2) 3689348814741910323) + (iand .u64 (wr .u64 ((iand .u64 (ishr .u64 x0 1) 6148914691236517205) + (iand .u64 x0 6148914691236517205))) 3689348814741910323))) 4) + (wr .u64 ((iand .u64 (ishr .u64 (wr .u64 ((iand .u64 (ishr .u64 x0 1) 6148914691236517205) + (iand .u64 x0 6148914691236517205))) 2) 3689348814741910323) + (iand .u64 (wr .u64 ((iand .u64 (ishr .u64 x0 1) 6148914691236517205) + (iand .u64 x0 6148914691236517205))) 3689348814741910323))))) 1085102592571150095) 8))) + (ishr .u64 (wr .u64 ((iand .u64 (wr .u64 ((ishr .u64 (wr .u64 ((iand .u64 (ishr .u64 (wr .u64 ((iand .u64 (ishr .u64 x0 1) 6148914691236517205) + (iand .u64 x0 6148914691236517205))) 2) 3689348814741910323) + (iand .u64 (wr .u64 ((iand .u64 (ishr .u64 x0 1) 6148914691236517205) + (iand .u64 x0 6148914691236517205))) 3689348814741910323))) 4) + (wr .u64 ((iand .u64 (ishr .u64 (wr .u64 ((iand .u64 (ishr .u64 x0 1) 6148914691236517205) + (iand .u64 x0 6148914691236517205))) 2) 3689348814741910323) + (iand .u64 (wr .u64 ((iand .u64 (ishr .u64 x0 1) 6148914691236517205) + (iand .u64 x0 6148914691236517205))) 3689348814741910323))))) 1085102592571150095) + (ishr .u64 (iand .u64 (wr .u64 ((ishr .u64 (wr .u64 ((iand .u64 (ishr .u64 (wr .u64 ((iand .u64 (ishr .u64 x0 1) 6148914691236517205) + (iand .u64 x0 6148914691236517205))) 2) 3689348814741910323) + (iand .u64 (wr .u64 ((iand .u64 (ishr .u64 x0 1) 6148914691236517205) + (iand .u64 x0 6148914691236517205))) 3689348814741910323))) 4) + (wr .u64 ((iand .u64 (ishr .u64 (wr .u64 ((iand .u64 (ishr .u64 x0 1) 6148914691236517205) + (iand .u64 x0 6148914691236517205))) 2) 3689348814741910323) + (iand .u64 (wr .u64 ((iand .u64 (ishr .u64 x0 1) 6148914691236517205) + (iand .u64 x0 6148914691236517205))) 3689348814741910323))))) 1085102592571150095) 8))) 16))) + (ishr .u64 (wr .u64 ((wr .u64 ((iand .u64 (wr .u64 ((ishr .u64 (wr .u64 ((iand .u64 (ishr .u64 (wr .u64 ((iand .u64 (ishr .u64 x0 1) 6148914691236517205) + (iand .u64 x0 6148914691236517205))) 2) 3689348814741910323) + (iand .u64 (wr .u64 ((iand .u64 (ishr .u64 x0 1) 6148914691236517205) + (iand .u64 x0 6148914691236517205))) 3689348814741910323))) 4) + (wr .u64 ((iand .u64 (ishr .u64 (wr .u64 ((iand .u64 (ishr .u64 x0 1) 6148914691236517205) + (iand .u64 x0 6148914691236517205))) 2) 3689348814741910323) + (iand .u64 (wr .u64 ((iand .u64 (ishr .u64 x0 1) 6148914691236517205) + (iand .u64 x0 6148914691236517205))) 3689348814741910323))))) 1085102592571150095) + (ishr .u64 (iand .u64 (wr .u64 ((ishr .u64 (wr .u64 ((iand .u64 (ishr .u64 (wr .u64 ((iand .u64 (ishr .u64 x0 1) 6148914691236517205) + (iand .u64 x0 6148914691236517205))) 2) 3689348814741910323) + (iand .u64 (wr .u64 ((iand .u64 (ishr .u64 x0 1) 6148914691236517205) + (iand .u64 x0 6148914691236517205))) 3689348814741910323))) 4) + (wr .u64 ((iand .u64 (ishr .u64 (wr .u64 ((iand .u64 (ishr .u64 x0 1) 6148914691236517205) + (iand .u64 x0 6148914691236517205))) 2) 3689348814741910323) + (iand .u64 (wr .u64 ((iand .u64 (ishr .u64 x0 1) 6148914691236517205) + (iand .u64 x0 6148914691236517205))) 3689348814741910323))))) 1085102592571150095) 8))) + (ishr .u64 (wr .u64 ((iand .u64 (wr .u64 ((ishr .u64 (wr .u64 ((iand .u64 (ishr .u64 (wr .u64 ((iand .u64 (ishr .u64 x0 1) 6148914691236517205) + (iand .u64 x0 6148914691236517205))) 2) 3689348814741910323) + (iand .u64 (wr .u64 ((iand .u64 (ishr .u64 x0 1) 6148914691236517205) + (iand .u64 x0 6148914691236517205))) 3689348814741910323))) 4) + (wr .u64 ((iand .u64 (ishr .u64 (wr .u64 ((iand .u64 (ishr .u64 x0 1) 6148914691236517205) + (iand .u64 x0 6148914691236517205))) 2) 3689348814741910323) + (iand .u64 (wr .u64 ((iand .u64 (ishr .u64 x0 1) 6148914691236517205) + (iand .u64 x0 6148914691236517205))) 3689348814741910323))))) 1085102592571150095) + (ishr .u64 (iand .u64 (wr .u64 ((ishr .u64 (wr .u64 ((iand .u64 (ishr .u64 (wr .u64 ((iand .u64 (ishr .u64 x0 1) 6148914691236517205) + (iand .u64 x0 6148914691236517205))) 2) 3689348814741910323) + (iand .u64 (wr .u64 ((iand .u64 (ishr .u64 x0 1) 6148914691236517205) + (iand .u64 x0 6148914691236517205))) 3689348814741910323))) 4) + (wr .u64 ((iand .u64 (ishr .u64 (wr .u64 ((iand .u64 (ishr .u64 x0 1) 6148914691236517205) + (iand .u64 x0 6148914691236517205))) 2) 3689348814741910323) + (iand .u64 (wr .u64 ((iand .u64 (ishr .u64 x0 1) 6148914691236517205) + (iand .u64 x0 6148914691236517205))) 3689348814741910323))))) 1085102592571150095) 8))) 16))) 32))))), (34, .i (iand .i64 (wr .i64 (wr .u64 ((wr .u64 ((wr .u64 ((iand .u64 (wr .u64 ((ishr .u64 (wr .u64 ((iand .u64 (ishr .u64 (wr .u64 ((iand .u64 (ishr .u64 x0 1) 6148914691236517205) + (iand .u64 x0 6148914691236517205))) 2) 3689348814741910323) + (iand .u64 (wr .u64 ((iand .u64 (ishr .u64 x0 1) 6148914691236517205) + (iand .u64 x0 6148914691236517205))) 3689348814741910323))) 4) + (wr .u64 ((iand .u64 (ishr .u64 (wr .u64 ((iand .u64 (ishr .u64 x0 1) 6148914691236517205) + (iand .u64 x0 6148914691236517205))) 2) 3689348814741910323) + (iand .u64 (wr .u64 ((iand .u64 (ishr .u64 x0 1) 6148914691236517205) + (iand .u64 x0 6148914691236517205))) 3689348814741910323))))) 1085102592571150095) + (ishr .u64 (iand .u64 (wr .u64 ((ishr .u64 (wr .u64 ((iand .u64 (ishr .u64 (wr .u64 ((iand .u64 (ishr .u64 x0 1) 6148914691236517205) + (iand .u64 x0 6148914691236517205))) 2) 3689348814741910323) + (iand .u64 (wr .u64 ((iand .u64 (ishr .u64 x0 1) 6148914691236517205) + (iand .u64 x0 6148914691236517205))) 3689348814741910323))) 4) + (wr .u64 ((iand .u64 (ishr .u64 (wr .u64 ((iand .u64 (ishr .u64 x0 1) 6148914691236517205) + (iand .u64 x0 6148914691236517205))) 2) 3689348814741910323) + (iand .u64 (wr .u64 ((iand .u64 (ishr .u64 x0 1) 6148914691236517205) + (iand .u64 x0 6148914691236517205))) 3689348814741910323))))) 1085102592571150095) 8))) + (ishr .u64 (wr .u64 ((iand .u64 (wr .u64 ((ishr .u64 (wr .u64 ((iand .u64 (ishr .u64 (wr .u64 ((iand .u64 (ishr .u64 x0 1) 6148914691236517205) + (iand .u64 x0 6148914691236517205))) 2) 3689348814741910323) + (iand .u64 (wr .u64 ((iand .u64 (ishr .u64 x0 1) 6148914691236517205) + (iand .u64 x0 6148914691236517205))) 3689348814741910323))) 4) + (wr .u64 ((iand .u64 (ishr .u64 (wr .u64 ((iand .u64 (ishr .u64 x0 1) 6148914691236517205) + (iand .u64 x0 6148914691236517205))) 2) 3689348814741910323) + (iand .u64 (wr .u64 ((iand .u64 (ishr .u64 x0 1) 6148914691236517205) + (iand .u64 x0 6148914691236517205))) 3689348814741910323))))) 1085102592571150095) + (ishr .u64 (iand .u64 (wr .u64 ((ishr .u64 (wr .u64 ((iand .u64 (ishr .u64 (wr .u64 ((iand .u64 (ishr .u64 x0 1) 6148914691236517205) + (iand .u64 x0 6148914691236517205))) 2) 3689348814741910323) + (iand .u64 (wr .u64 ((iand .u64 (ishr .u64 x0 1) 6148914691236517205) + (iand .u64 x0 6148914691236517205))) 3689348814741910323))) 4) + (wr .u64 ((iand .u64 (ishr .u64 (wr .u64 ((iand .u64 (ishr .u64 x0 1) 6148914691236517205) + (iand .u64 x0 6148914691236517205))) 2) 3689348814741910323) + (iand .u64 (wr .u64 ((iand .u64 (ishr .u64 x0 1) 6148914691236517205) + (iand .u64 x0 6148914691236517205))) 3689348814741910323))))) 1085102592571150095) 8))) 16))) + (ishr .u64 (wr .u64 ((wr .u64 ((iand .u64 (wr .u64 ((ishr .u64 (wr .u64 ((iand .u64 (ishr .u64 (wr .u64 ((iand .u64 (ishr .u64 x0 1) 6148914691236517205) + (iand .u64 x0 6148914691236517205))) 2) 3689348814741910323) + (iand .u64 (wr .u64 ((iand .u64 (ishr .u64 x0 1) 6148914691236517205) + (iand .u64 x0 6148914691236517205))) 3689348814741910323))) 4) + (wr .u64 ((iand .u64 (ishr .u64 (wr .u64 ((iand .u64 (ishr .u64 x0 1) 6148914691236517205) + (iand .u64 x0 6148914691236517205))) 2) 3689348814741910323) + (iand .u64 (wr .u64 ((iand .u64 (ishr .u64 x0 1) 6148914691236517205) + (iand .u64 x0 6148914691236517205))) 3689348814741910323))))) 1085102592571150095) + (ishr .u64 (iand .u64 (wr .u64 ((ishr .u64 (wr .u64 ((iand .u64 (ishr .u64 (wr .u64 ((iand .u64 (ishr .u64 x0 1) 6148914691236517205) + (iand .u64 x0 6148914691236517205))) 2) 3689348814741910323) + (iand .u64 (wr .u64 ((iand .u64 (ishr .u64 x0 1) 6148914691236517205) + (iand .u64 x0 6148914691236517205))) 3689348814741910323))) 4) + (wr .u64 ((iand .u64 (ishr .u64 (wr .u64 ((iand .u64 (ishr .u64 x0 1) 6148914691236517205) + (iand .u64 x0 6148914691236517205))) 2) 3689348814741910323) + (iand .u64 (wr .u64 ((iand .u64 (ishr .u64 x0 1) 6148914691236517205) + (iand .u64 x0 6148914691236517205))) 3689348814741910323))))) 1085102592571150095) 8))) + (ishr .u64 (wr .u64 ((iand .u64 (wr .u64 ((ishr .u64 (wr .u64 ((iand .u64 (ishr .u64 (wr .u64 ((iand .u64 (ishr .u64 x0 1) 6148914691236517205) + (iand .u64 x0 6148914691236517205))) 2) 3689348814741910323) + (iand .u64 (wr .u64 ((iand .u64 (ishr .u64 x0 1) 6148914691236517205) + (iand .u64 x0 6148914691236517205))) 3689348814741910323))) 4) + (wr .u64 ((iand .u64 (ishr .u64 (wr .u64 ((iand .u64 (ishr .u64 x0 1) 6148914691236517205) + (iand .u64 x0 6148914691236517205))) 2) 3689348814741910323) + (iand .u64 (wr .u64 ((iand .u64 (ishr .u64 x0 1) 6148914691236517205) + (iand .u64 x0 6148914691236517205))) 3689348814741910323))))) 1085102592571150095) + (ishr .u64 (iand .u64 (wr .u64 ((ishr .u64 (wr .u64 ((iand .u64 (ishr .u64 (wr .u64 ((iand .u64 (ishr .u64 x0 1) 6148914691236517205) + (iand .u64 x0 6148914691236517205))) 2) 3689348814741910323) + (iand .u64 (wr .u64 ((iand .u64 (ishr .u64 x0 1) 6148914691236517205) + (iand .u64 x0 6148914691236517205))) 3689348814741910323))) 4) + (wr .u64 ((iand .u64 (ishr .u64 (wr .u64 ((iand .u64 (ishr .u64 x0 1) 6148914691236517205) + (iand .u64 x0 6148914691236517205))) 2) 3689348814741910323) + (iand .u64 (wr .u64 ((iand .u64 (ishr .u64 x0 1) 6148914691236517205) + (iand .u64 x0 6148914691236517205))) 3689348814741910323))))) 1085102592571150095) 8))) 16))) 32)))) 127)), (2, .i (iand .i64 (wr .i64 (wr .u64 ((wr .u64 ((wr .u64 ((iand .u64 (wr .u64 ((ishr .u64 (wr .u64 ((iand .u64 (ishr .u64 (wr .u64 ((iand .u64 (ishr .u64 x0 1) 6148914691236517205) + (iand .u64 x0 6148914691236517205))) 2) 3689348814741910323) + (iand .u64 (wr .u64 ((iand .u64 (ishr .u64 x0 1) 6148914691236517205) + (iand .u64 x0 6148914691236517205))) 3689348814741910323))) 4) + (wr .u64 ((iand .u64 (ishr .u64 (wr .u64 ((iand .u64 (ishr .u64 x0 1) 6148914691236517205) + (iand .u64 x0 6148914691236517205))) 2) 3689348814741910323) + (iand .u64 (wr .u64 ((iand .u64 (ishr .u64 x0 1) 6148914691236517205) + (iand .u64 x0 6148914691236517205))) 3689348814741910323))))) 1085102592571150095) + (ishr .u64 (iand .u64 (wr .u64 ((ishr .u64 (wr .u64 ((iand .u64 (ishr .u64 (wr .u64 ((iand .u64 (ishr .u64 x0 1) 6148914691236517205) + (iand .u64 x0 6148914691236517205))) 2) 3689348814741910323) + (iand .u64 (wr .u64 ((iand .u64 (ishr .u64 x0 1) 6148914691236517205) + (iand .u64 x0 6148914691236517205))) 3689348814741910323))) 4) + (wr .u64 ((iand .u64 (ishr .u64 (wr .u64 ((iand .u64 (ishr .u64 x0 1) 6148914691236517205) + (iand .u64 x0 6148914691236517205))) 2) 3689348814741910323) + (iand .u64 (wr .u64 ((iand .u64 (ishr .u64 x0 1) 6148914691236517205) + (iand .u64 x0 6148914691236517205))) 3689348814741910323))))) 1085102592571150095) 8))) + (ishr .u64 (wr .u64 ((iand .u64 (wr .u64 ((ishr .u64 (wr .u64 ((iand .u64 (ishr .u64 (wr .u64 ((iand .u64 (ishr .u64 x0 1) 6148914691236517205) + (iand .u64 x0 6148914691236517205))) 2) 3689348814741910323) + (iand .u64 (wr .u64 ((iand .u64 (ishr .u64 x0 1) 6148914691236517205) + (iand .u64 x0 6148914691236517205))) 3689348814741910323))) 4) + (wr .u64 ((iand .u64 (ishr .u64 (wr .u64 ((iand .u64 (ishr .u64 x0 1) 6148914691236517205) + (iand .u64 x0 6148914691236517205))) 2) 3689348814741910323) + (iand .u64 (wr .u64 ((iand .u64 (ishr .u64 x0 1) 6148914691236517205) + (iand .u64 x0 6148914691236517205))) 3689348814741910323))))) 1085102592571150095) + (ishr .u64 (iand .u64 (wr .u64 ((ishr .u64 (wr .u64 ((iand .u64 (ishr .u64 (wr .u64 ((iand .u64 (ishr .u64 x0 1) 6148914691236517205) + (iand .u64 x0 6148914691236517205))) 2) 3689348814741910323) + (iand .u64 (wr .u64 ((iand .u64 (ishr .u64 x0 1) 6148914691236517205) + (iand .u64 x0 6148914691236517205))) 3689348814741910323))) 4) + (wr .u64 ((iand .u64 (ishr .u64 (wr .u64 ((iand .u64 (ishr .u64 x0 1) 6148914691236517205) + (iand .u64 x0 6148914691236517205))) 2) 3689348814741910323) + (iand .u64 (wr .u64 ((iand .u64 (ishr .u64 x0 1) 6148914691236517205) + (iand .u64 x0 6148914691236517205))) 3689348814741910323))))) 1085102592571150095) 8))) 16))) + (ishr .u64 (wr .u64 ((wr .u64 ((iand .u64 (wr .u64 ((ishr .u64 (wr .u64 ((iand .u64 (ishr .u64 (wr .u64 ((iand .u64 (ishr .u64 x0 1) 6148914691236517205) + (iand .u64 x0 6148914691236517205))) 2) 3689348814741910323) + (iand .u64 (wr .u64 ((iand .u64 (ishr .u64 x0 1) 6148914691236517205) + (iand .u64 x0 6148914691236517205))) 3689348814741910323))) 4) + (wr .u64 ((iand .u64 (ishr .u64 (wr .u64 ((iand .u64 (ishr .u64 x0 1) 6148914691236517205) + (iand .u64 x0 6148914691236517205))) 2) 3689348814741910323) + (iand .u64 (wr .u64 ((iand .u64 (ishr .u64 x0 1) 6148914691236517205) + (iand .u64 x0 6148914691236517205))) 3689348814741910323))))) 1085102592571150095) + (ishr .u64 (iand .u64 (wr .u64 ((ishr .u64 (wr .u64 ((iand .u64 (ishr .u64 (wr .u64 ((iand .u64 (ishr .u64 x0 1) 6148914691236517205) + (iand .u64 x0 6148914691236517205))) 2) 3689348814741910323) + (iand .u64 (wr .u64 ((iand .u64 (ishr .u64 x0 1) 6148914691236517205) + (iand .u64 x0 6148914691236517205))) 3689348814741910323))) 4) + (wr .u64 ((iand .u64 (ishr .u64 (wr .u64 ((iand .u64 (ishr .u64 x0 1) 6148914691236517205) + (iand .u64 x0 6148914691236517205))) 2) 3689348814741910323) + (iand .u64 (wr .u64 ((iand .u64 (ishr .u64 x0 1) 6148914691236517205) + (iand .u64 x0 6148914691236517205))) 3689348814741910323))))) 1085102592571150095) 8))) + (ishr .u64 (wr .u64 ((iand .u64 (wr .u64 ((ishr .u64 (wr .u64 ((iand .u64 (ishr .u64 (wr .u64 ((iand .u64 (ishr .u64 x0 1) 6148914691236517205) + (iand .u64 x0 6148914691236517205))) 2) 3689348814741910323) + (iand .u64 (wr .u64 ((iand .u64 (ishr .u64 x0 1) 6148914691236517205) + (iand .u64 x0 6148914691236517205))) 3689348814741910323))) 4) + (wr .u64 ((iand .u64 (ishr .u64 (wr .u64 ((iand .u64 (ishr .u64 x0 1) 6148914691236517205) + (iand .u64 x0 6148914691236517205))) 2) 3689348814741910323) + (iand .u64 (wr .u64 ((iand .u64 (ishr .u64 x0 1) 6148914691236517205) + (iand .u64 x0 6148914691236517205))) 3689348814741910323))))) 1085102592571150095) + (ishr .u64 (iand .u64 (wr .u64 ((ishr .u64 (wr .u64 ((iand .u64 (ishr .u64 (wr .u64 ((iand .u64 (ishr .u64 x0 1) 6148914691236517205) + (iand .u64 x0 6148914691236517205))) 2) 3689348814741910323) + (iand .u64 (wr .u64 ((iand .u64 (ishr .u64 x0 1) 6148914691236517205) + (iand .u64 x0 6148914691236517205))) 3689348814741910323))) 4) + (wr .u64 ((iand .u64 (ishr .u64 (wr .u64 ((iand .u64 (ishr .u64 x0 1) 6148914691236517205) + (iand .u64 x0 6148914691236517205))) 2) 3689348814741910323) + (iand .u64 (wr .u64 ((iand .u64 (ishr .u64 x0 1) 6148914691236517205) + (iand .u64 x0 6148914691236517205))) 3689348814741910323))))) 1085102592571150095) 8))) 16))) 32)))) 127))] Jw3 ?_
 obtain rfl := Option.some.inj h
 exact Goes.rt Tryd.f76 (.i (iand .i64 (wr .i64 (wr .u64 ((wr .u64 ((wr .u64 ((iand .u64 (wr .u64 ((ishr .u64 (wr .u64 ((iand .u64 (ishr .u64 (wr .u64 ((iand .u64 (ishr .u64 x0 1) 6148914691236517205) + (iand .u64 x0 6148914691236517205))) 2) 3689348814741910323) + (iand .u64 (wr .u64 ((iand .u64 (ishr .u64 x0 1) 6148914691236517205) + (iand .u64 x0 6148914691236517205))) 3689348814741910323))) 4) + (wr .u64 ((iand .u64 (ishr .u64 (wr .u64 ((iand .u64 (ishr .u64 x0 1) 6148914691236517205) + (iand .u64 x0 6148914691236517205))) 2) 3689348814741910323) + (iand .u64 (wr .u64 ((iand .u64 (ishr .u64 x0 1) 6148914691236517205) + (iand .u64 x0 6148914691236517205))) 3689348814741910323))))) 1085102592571150095) + (ishr .u64 (iand .u64 (wr .u64 ((ishr .u64 (wr .u64 ((iand .u64 (ishr .u64 (wr .u64 ((iand .u64 (ishr .u64 x0 1) 6148914691236517205) + (iand .u64 x0 6148914691236517205))) 2) 3689348814741910323) + (iand .u64 (wr .u64 ((iand .u64 (ishr .u64 x0 1) 6148914691236517205) + (iand .u64 x0 6148914691236517205))) 3689348814741910323))) 4) + (wr .u64 ((iand .u64 (ishr .u64 (wr .u64 ((iand .u64 (ishr .u64 x0 1) 6148914691236517205) + (iand .u64 x0 6148914691236517205))) 2) 3689348814741910323) + (iand .u64 (wr .u64 ((iand .u64 (ishr .u64 x0 1) 6148914691236517205) + (iand .u64 x0 6148914691236517205))) 3689348814741910323))))) 1085102592571150095) 8))) + (ishr .u64 (wr .u64 ((iand .u64 (wr .u64 ((ishr .u64 (wr .u64 ((iand .u64 (ishr .u64 (wr .u64 ((iand .u64 (ishr .u64 x0 1) 6148914691236517205) + (iand .u64 x0 6148914691236517205))) 2) 3689348814741910323) + (iand .u64 (wr .u64 ((iand .u64 (ishr .u64 x0 1) 6148914691236517205) + (iand .u64 x0 6148914691236517205))) 3689348814741910323))) 4) + (wr .u64 ((iand .u64 (ishr .u64 (wr .u64 ((iand .u64 (ishr .u64 x0 1) 6148914691236517205) + (iand .u64 x0 6148914691236517205))) 2) 3689348814741910323) + (iand .u64 (wr .u64 ((iand .u64 (ishr .u64 x0 1) 6148914691236517205) + (iand .u64 x0 6148914691236517205))) 3689348814741910323))))) 1085102592571150095) + (ishr .u64 (iand .u64 (wr .u64 ((ishr .u64 (wr .u64 ((iand .u64 (ishr .u64 (wr .u64 ((iand .u64 (ishr .u64 x0 1) 6148914691236517205) + (iand .u64 x0 6148914691236517205))) 2) 3689348814741910323) + (iand .u64 (wr .u64 ((iand .u64 (ishr .u64 x0 1) 6148914691236517205) + (iand .u64 x0 6148914691236517205))) 3689348814741910323))) 4) + (wr .u64 ((iand .u64 (ishr .u64 (wr .u64 ((iand .u64 (ishr .u64 x0 1) 6148914691236517205) + (iand .u64 x0 6148914691236517205))) 2) 3689348814741910323) + (iand .u64 (wr .u64 ((iand .u64 (ishr .u64 x0 1) 6148914691236517205) + (iand .u64 x0 6148914691236517205))) 3689348814741910323))))) 1085102592571150095) 8))) 16))) + (ishr .u64 (wr .u64 ((wr .u64 ((iand .u64 (wr .u64 ((ishr .u64 (wr .u64 ((iand .u64 (ishr .u64 (wr .u64 ((iand .u64 (ishr .u64 x0 1) 6148914691236517205) + (iand .u64 x0 6148914691236517205))) 2) 3689348814741910323) + (iand .u64 (wr .u64 ((iand .u64 (ishr .u64 x0 1) 6148914691236517205) + (iand .u64 x0 6148914691236517205))) 3689348814741910323))) 4) + (wr .u64 ((iand .u64 (ishr .u64 (wr .u64 ((iand .u64 (ishr .u64 x0 1) 6148914691236517205) + (iand .u64 x0 6148914691236517205))) 2) 3689348814741910323) + (iand .u64 (wr .u64 ((iand .u64 (ishr .u64 x0 1) 6148914691236517205) + (iand .u64 x0 6148914691236517205))) 3689348814741910323))))) 1085102592571150095) + (ishr .u64 (iand .u64 (wr .u64 ((ishr .u64 (wr .u64 ((iand .u64 (ishr .u64 (wr .u64 ((iand .u64 (ishr .u64 x0 1) 6148914691236517205) + (iand .u64 x0 6148914691236517205))) 2) 3689348814741910323) + (iand .u64 (wr .u64 ((iand .u64 (ishr .u64 x0 1) 6148914691236517205) + (iand .u64 x0 6148914691236517205))) 3689348814741910323))) 4) + (wr .u64 ((iand .u64 (ishr .u64 (wr .u64 ((iand .u64 (ishr .u64 x0 1) 6148914691236517205) + (iand .u64 x0 6148914691236517205))) 2) 3689348814741910323) + (iand .u64 (wr .u64 ((iand .u64 (ishr .u64 x0 1) 6148914691236517205) + (iand .u64 x0 6148914691236517205))) 3689348814741910323))))) 1085102592571150095) 8))) + (ishr .u64 (wr .u64 ((iand .u64 (wr .u64 ((ishr .u64 (wr .u64 ((iand .u64 (ishr .u64 (wr .u64 ((iand .u64 (ishr .u64 x0 1) 6148914691236517205) + (iand .u64 x0 6148914691236517205))) 2) 3689348814741910323) + (iand .u64 (wr .u64 ((iand .u64 (ishr .u64 x0 1) 6148914691236517205) + (iand .u64 x0 6148914691236517205))) 3689348814741910323))) 4) + (wr .u64 ((iand .u64 (ishr .u64 (wr .u64 ((iand .u64 (ishr .u64 x0 1) 6148914691236517205) + (iand .u64 x0 6148914691236517205))) 2) 3689348814741910323) + (iand .u64 (wr .u64 ((iand .u64 (ishr .u64 x0 1) 6148914691236517205) + (iand .u64 x0 6148914691236517205))) 3689348814741910323))))) 1085102592571150095) + (ishr .u64 (iand .u64 (wr .u64 ((ishr .u64 (wr .u64 ((iand .u64 (ishr .u64 (wr .u64 ((iand .u64 (ishr .u64 x0 1) 6148914691236517205) + (iand .u64 x0 6148914691236517205))) 2) 3689348814741910323) + (iand .u64 (wr .u64 ((iand .u64 (ishr .u64 x0 1) 6148914691236517205) + (iand .u64 x0 6148914691236517205))) 3689348814741910323))) 4) + (wr .u64 ((iand .u64 (ishr .u64 (wr .u64 ((iand .u64 (ishr .u64 x0 1) 6148914691236517205) + (iand .u64 x0 6148914691236517205))) 2) 3689348814741910323) + (iand .u64 (wr .u64 ((iand .u64 (ishr .u64 x0 1) 6148914691236517205) + (iand .u64 x0 6148914691236517205))) 3689348814741910323))))) 1085102592571150095) 8))) 16))) 32)))) 127)) ⟨S0, rfl, (Ext.refl S0 w0), p0⟩

end

end Go.Gx
