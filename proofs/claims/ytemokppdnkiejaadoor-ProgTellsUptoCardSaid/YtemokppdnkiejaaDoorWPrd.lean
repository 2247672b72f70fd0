import Derived.Test.YtemokppdnkiejaaDoorWPrc

set_option linter.unusedVariables false

set_option maxRecDepth 100000

set_option maxHeartbeats 4000000

namespace Go.Gx

open Go.RowKit Go.Proofs

variable (nz : Nat) (wz : World) (S0 : Fz) (w0 : World) (Lr : List Ent)

noncomputable section

def Qcz := sub [1, 1, 1] B47
def Jgr : List Item := [.code Qcz]
def Jgs : List Item := .inBlock 0 :: Jgr
def Qd0 := sub [1, 1, 0, 0, 0] B47
def Jgt : List Item := .inLoop Qd0 :: Jgs
def Jgu : List Item := .code Qd0 :: Jgt
def Qd1 := sub [1, 1, 0, 0, 0, 1] B47
def Jgv : List Item := .code Qd1 :: Jgt
def Qd2 := sub [1, 1, 0, 0, 0, 0, 1] B47
def Jgw : List Item := .code Qd2 :: Jgv
def Qd3 := sub [1, 1, 1] B78
def Jgx : List Item := [.code Qd3]
def Jgy : List Item := .inBlock 0 :: Jgx
def Qd4 := sub [1, 1, 0, 0, 1] B78
def Jgz : List Item := .code Qd4 :: Jgy
def Qd5 := sub [1, 1, 0, 0, 1, 1, 1] B78
def Jh0 : List Item := .code Qd5 :: Jgy
def Qd6 := sub [1, 1] B92
def Jh1 : List Item := [.code Qd6]
def Qd7 := sub [1, 1, 1] B30
def Jh2 : List Item := [.code Qd7]
def Jh3 : List Item := .inBlock 0 :: Jh2
def Qd8 := sub [1, 1, 0, 0, 0] B30
def Jh4 : List Item := .inLoop Qd8 :: Jh3
def Jh5 : List Item := .code Qd8 :: Jh4
def Qd9 := sub [1] B30
def Jh6 : List Item := [.code Qd9]
def Qda := sub [0] B30
def Jh7 : List Item := .inRegion (opsOf Qda) [0] :: Jh6
def Qdb := sub [1, 1] B30
def Jh8 : List Item := [.code Qdb]
def Qdc := sub [1, 0] B30
def Jh9 : List Item := .inRegion (opsOf Qdc) [1, 2, 3] :: Jh8
def Qdd := sub [1, 1, 0, 0, 0, 1] B30
def Jha : List Item := .code Qdd :: Jh4
def Qde := sub [1, 1, 0, 0, 0, 0, 1] B30
def Jhb : List Item := .code Qde :: Jha
def Qdf := sub [1, 1, 0, 0, 0, 0, 0] B30
def Jhc : List Item := .inRegion (opsOf Qdf) [1] :: Jhb
def Jhd : List Item := .inBlock 1 :: Jh4
def Qdg := sub [1, 1, 0, 0, 0, 1, 0] B30
def Jhe : List Item := .inRegion (opsOf Qdg) [2, 3, 4, 5] :: Jhd
def Qdh := sub [1, 1, 1, 1] B30
def Jhf : List Item := [.code Qdh]
def Qdi := sub [1, 1, 1, 0] B30
def Jhg : List Item := .inRegion (opsOf Qdi) [1, 2] :: Jhf
def Qdj := sub [1] B47
def Jhh : List Item := [.code Qdj]
def Qdk := sub [0] B47
def Jhi : List Item := .inRegion (opsOf Qdk) [0] :: Jhh
def Qdl := sub [1, 1, 0, 0, 0, 0, 0] B47
def Jhj : List Item := .code Qdl :: Jgw
def Jhk : List Item := .inBlock 1 :: Jgt
def Qdm := sub [1, 1, 0, 0, 0, 1, 0] B47
def Jhl : List Item := .inRegion (opsOf Qdm) [2, 3, 4, 5] :: Jhk
def Qdn := sub [1, 1, 1, 1] B47
def Jhm : List Item := [.code Qdn]
def Qdo := sub [1, 1, 1, 0] B47
def Jhn : List Item := .inRegion (opsOf Qdo) [1, 2] :: Jhm
def Qdp := sub [1] B66
def Jho : List Item := [.code Qdp]
def Qdq := sub [0] B66
def Jhp : List Item := .inRegion (opsOf Qdq) [0] :: Jho
def Qdr := sub [1, 1] B66
def Jhq : List Item := [.code Qdr]
def Qds := sub [1, 0] B66
def Jhr : List Item := .inRegion (opsOf Qds) [1, 2, 3] :: Jhq
def Qdt := sub [1, 1, 1, 1] B66
def Jhs : List Item := [.code Qdt]
def Qdu := sub [1, 1, 1, 0, 1] B66
def Jht : List Item := .code Qdu :: Jhs
def Qdv := sub [1, 1, 1, 0, 0] B66
def Jhu : List Item := .inRegion (opsOf Qdv) [3, 4] :: Jht
def Jhv : List Item := .inBlock 0 :: Jhs
def Qdw := sub [1, 1, 1, 0, 1, 0, 1] B66
def Jhw : List Item := .code Qdw :: Jhv
def Qdx := sub [1, 1, 1, 0, 1, 0, 0] B66
def Jhx : List Item := .inRegion (opsOf Qdx) [1, 2] :: Jhw
def Qdy := sub [1, 1, 1, 1, 1] B66
def Jhy : List Item := [.code Qdy]
def Qdz := sub [1, 1, 1, 1, 0] B66
def Jhz : List Item := .inRegion (opsOf Qdz) [0, 1, 2, 3, 4, 5] :: Jhy
def Ji0 : List Item := .inRegion (opsOf Qdz) [5] :: Jhy
def Qe0 := sub [1, 1, 1, 0, 1, 0, 1, 1, 1] B66
def Ji1 : List Item := .code Qe0 :: Jhv
def Qe1 := sub [1, 1, 1, 0, 1, 0, 1, 1, 0] B66
def Ji2 : List Item := .inRegion (opsOf Qe1) [1, 2] :: Ji1
def Qe2 := sub [1, 1, 1, 0, 1, 0, 1, 1, 1, 1, 1] B66
def Ji3 : List Item := .code Qe2 :: Jhv
def Qe3 := sub [1, 1, 1, 0, 1, 0, 1, 1, 1, 1, 0] B66
def Ji4 : List Item := .inRegion (opsOf Qe3) [1, 2] :: Ji3
def Qe4 := sub [1, 1, 1, 0, 1, 0, 1, 1, 1, 1, 1, 1, 1] B66
def Ji5 : List Item := .code Qe4 :: Jhv
def Qe5 := sub [1, 1, 1, 0, 1, 0, 1, 1, 1, 1, 1, 1, 0] B66
def Ji6 : List Item := .inRegion (opsOf Qe5) [1, 2] :: Ji5
def Qe6 := sub [1, 1, 1, 0, 1, 0, 1, 1, 1, 1, 1, 1, 1, 0] B66
def Ji7 : List Item := .inRegion (opsOf Qe6) [2, 3, 4, 5, 6, 7] :: Jhv
def Qe7 := sub [1, 1, 1, 0, 1, 0, 1, 1, 1, 1, 1, 1, 1, 1, 1] B66
def Ji8 : List Item := .code Qe7 :: Jhv
def Qe8 := sub [1, 1, 1, 0, 1, 0, 1, 1, 1, 1, 1, 1, 1, 1, 0] B66
def Ji9 : List Item := .inRegion (opsOf Qe8) [0, 1] :: Ji8
def Qe9 := sub [1] B78
def Jia : List Item := [.code Qe9]
def Qea := sub [0] B78
def Jib : List Item := .inRegion (opsOf Qea) [0] :: Jia
def Qeb := sub [1, 1] B78
def Jic : List Item := [.code Qeb]
def Qec := sub [1, 0] B78
def Jid : List Item := .inRegion (opsOf Qec) [1, 2] :: Jic
def Qed := sub [1, 1, 0, 0, 0] B78
def Jie : List Item := .inRegion (opsOf Qed) [3, 4, 5, 6, 7, 8, 9, 10, 11] :: Jgz
def Jif : List Item := .inRegion (opsOf Qed) [7, 8, 9, 10, 11] :: Jgz
def Jig : List Item := .inRegion (opsOf Qed) [8, 9, 10, 11] :: Jgz
def Qee := sub [1, 1, 0, 0, 1, 0, 1] B78
def Jih : List Item := .code Qee :: Jgy
def Qef := sub [1, 1, 0, 0, 1, 0, 0] B78
def Jii : List Item := .inRegion (opsOf Qef) [4, 5, 6] :: Jih
def Qeg := sub [1, 1, 0, 0, 1, 1, 0] B78
def Jij : List Item := .inRegion (opsOf Qeg) [3, 4, 5, 6, 7, 8, 9] :: Jh0
def Jik : List Item := .inRegion (opsOf Qeg) [6, 7, 8, 9] :: Jh0
def Qeh := sub [1, 1, 0, 0, 1, 1, 1, 0, 1] B78
def Jil : List Item := .code Qeh :: Jgy
def Qei := sub [1, 1, 0, 0, 1, 1, 1, 0, 0] B78
def Jim : List Item := .inRegion (opsOf Qei) [4, 5, 6] :: Jil
def Qej := sub [1, 1, 0, 0, 1, 1, 1, 1, 1] B78
def Jin : List Item := .code Qej :: Jgy
def Qek := sub [1, 1, 0, 0, 1, 1, 1, 1, 0] B78
def Jio : List Item := .inRegion (opsOf Qek) [1, 2] :: Jin
def Qel := sub [1, 1, 0, 0, 1, 1, 1, 1, 1, 0, 1] B78
def Jip : List Item := .code Qel :: Jgy
def Qem := sub [1, 1, 0, 0, 1, 1, 1, 1, 1, 0, 0] B78
def Jiq : List Item := .inRegion (opsOf Qem) [0, 1, 2, 3] :: Jip
def Jir : List Item := .inRegion (opsOf Qem) [3] :: Jip
def Qen := sub [1, 1, 0, 0, 1, 1, 1, 1, 1, 1, 1] B78
def Jis : List Item := .code Qen :: Jgy
def Qeo := sub [1, 1, 0, 0, 1, 1, 1, 1, 1, 1, 0] B78
def Jit : List Item := .inRegion (opsOf Qeo) [1, 2] :: Jis
def Qep := sub [1, 1, 0, 0, 1, 1, 1, 1, 1, 1, 1, 0, 1] B78
def Jiu : List Item := .code Qep :: Jgy
def Qeq := sub [1, 1, 0, 0, 1, 1, 1, 1, 1, 1, 1, 0, 0] B78
def Jiv : List Item := .inRegion (opsOf Qeq) [1, 2] :: Jiu
def Qer := sub [1, 1, 0, 0, 1, 1, 1, 1, 1, 1, 1, 1, 1] B78
def Jiw : List Item := .code Qer :: Jgy
def Qes := sub [1, 1, 0, 0, 1, 1, 1, 1, 1, 1, 1, 1, 0] B78
def Jix : List Item := .inRegion (opsOf Qes) [1, 2] :: Jiw
def Qet := sub [1, 1, 0, 0, 1, 1, 1, 1, 1, 1, 1, 1, 1, 0, 1] B78
def Jiy : List Item := .code Qet :: Jgy
def Qeu := sub [1, 1, 0, 0, 1, 1, 1, 1, 1, 1, 1, 1, 1, 0, 0] B78
def Jiz : List Item := .inRegion (opsOf Qeu) [1, 2] :: Jiy
def Qev := sub [1, 1, 0, 0, 1, 1, 1, 1, 1, 1, 1, 1, 1, 1, 1] B78
def Jj0 : List Item := .code Qev :: Jgy
def Qew := sub [1, 1, 0, 0, 1, 1, 1, 1, 1, 1, 1, 1, 1, 1, 0] B78
def Jj1 : List Item := .inRegion (opsOf Qew) [1, 2] :: Jj0
def Qex := sub [1, 1, 0, 0, 1, 1, 1, 1, 1, 1, 1, 1, 1, 1, 1, 0, 1] B78
def Jj2 : List Item := .code Qex :: Jgy
def Qey := sub [1, 1, 0, 0, 1, 1, 1, 1, 1, 1, 1, 1, 1, 1, 1, 0, 0] B78
def Jj3 : List Item := .inRegion (opsOf Qey) [1, 2, 3, 4] :: Jj2
def Jj4 : List Item := .inRegion (opsOf Qey) [4] :: Jj2
def Qez := sub [1, 1, 1, 1] B78
def Jj5 : List Item := [.code Qez]
def Qf0 := sub [1, 1, 1, 0] B78
def Jj6 : List Item := .inRegion (opsOf Qf0) [3, 4, 5, 6, 7] :: Jj5
def Jj7 : List Item := .inRegion (opsOf Qf0) [7] :: Jj5
def Qf1 := sub [1, 1, 1, 1, 1] B78
def Jj8 : List Item := [.code Qf1]
def Qf2 := sub [1, 1, 1, 1, 0] B78
def Jj9 : List Item := .inRegion (opsOf Qf2) [1, 2, 3] :: Jj8
def Jja : List Item := .inRegion (opsOf Qf2) [3] :: Jj8
def Qf3 := sub [1] B92
def Jjb : List Item := [.code Qf3]
def Qf4 := sub [0] B92
def Jjc : List Item := .inRegion (opsOf Qf4) [0] :: Jjb
def Qf5 := sub [1, 0, 1] B92
def Jjd : List Item := .code Qf5 :: Jh1
def Qf6 := sub [1, 0, 0] B92
def Jje : List Item := .inRegion (opsOf Qf6) [1] :: Jjd
def Qf7 := sub [1, 0, 1, 0] B92
def Jjf : List Item := .inRegion (opsOf Qf7) [1] :: Jh1
def Qf8 := sub [1, 1, 1] B92
def Jjg : List Item := [.code Qf8]
def Qf9 := sub [1, 1, 0] B92
def Jjh : List Item := .inRegion (opsOf Qf9) [3, 4, 5, 6, 7] :: Jjg
def Jji : List Item := .inRegion (opsOf Qf9) [7] :: Jjg
def Qfa := sub [1, 1, 1, 1] B92
def Jjj : List Item := [.code Qfa]
def Qfb := sub [1, 1, 1, 0] B92
def Jjk : List Item := .inRegion (opsOf Qfb) [1, 2, 3] :: Jjj
def Qfc := sub [1, 1, 1, 1, 1] B92
def Jjl : List Item := [.code Qfc]
def Qfd := sub [1, 1, 1, 1, 0] B92
def Jjm : List Item := .inRegion (opsOf Qfd) [3, 4, 5, 6, 7] :: Jjl
def Jjn : List Item := .inRegion (opsOf Qfd) [7] :: Jjl
def Qfe := sub [1, 1, 1, 1, 1, 1] B92
def Jjo : List Item := [.code Qfe]
def Qff := sub [1, 1, 1, 1, 1, 0] B92
def Jjp : List Item := .inRegion (opsOf Qff) [1] :: Jjo
def Qfg := sub [1, 1, 1, 1, 1, 1, 1] B92
def Jjq : List Item := [.code Qfg]
def Qfh := sub [1, 1, 1, 1, 1, 1, 0] B92
def Jjr : List Item := .inRegion (opsOf Qfh) [0, 1] :: Jjq

def Post.z27 (gx0 : Nat) (r : T27 × T68) (v : Value) (w' : World) : Prop :=
 ∃ S' u4d u4e u4f u49, v = (ag (.i r.1.Kind :: U4 r.1.Set [.slice u4d u4e u4f, .i r.1.Min, .i r.1.Max])) ∧ Ext S0 w0 S' w' ∧ Hp nz wz S' w' ((some gx0, .row 69 [.string r.2.s, .i r.2.at_, .i r.2.deep, u49] 4 0) :: Lr) ∧ r.1.Set.length = 4 ∧ Rd kT27 S' w' u4d u4f r.1.L ∧ r.1.L.length = u4e ∧ PtO kT72 S' w' u49 r.2.bad

def Post.z28 (gx0 : Nat) (r : T27 × T68) (v : Value) (w' : World) : Prop :=
 ∃ S' u4d u4e u4f u49, v = (ag (.i r.1.Kind :: U4 r.1.Set [.slice u4d u4e u4f, .i r.1.Min, .i r.1.Max])) ∧ Ext S0 w0 S' w' ∧ Hp nz wz S' w' ((some gx0, .row 69 [.string r.2.s, .i r.2.at_, .i r.2.deep, u49] 4 0) :: Lr) ∧ r.1.Set.length = 4 ∧ Rd kT27 S' w' u4d u4f r.1.L ∧ r.1.L.length = u4e ∧ PtO kT72 S' w' u49 r.2.bad

def Post.z29 (gx0 : Nat) (r : T27 × T68) (v : Value) (w' : World) : Prop :=
 ∃ S' u4d u4e u4f u49, v = (ag (.i r.1.Kind :: U4 r.1.Set [.slice u4d u4e u4f, .i r.1.Min, .i r.1.Max])) ∧ Ext S0 w0 S' w' ∧ Hp nz wz S' w' ((some gx0, .row 69 [.string r.2.s, .i r.2.at_, .i r.2.deep, u49] 4 0) :: Lr) ∧ r.1.Set.length = 4 ∧ Rd kT27 S' w' u4d u4f r.1.L ∧ r.1.L.length = u4e ∧ PtO kT72 S' w' u49 r.2.bad

def Post.z2a (gx0 : Nat) (r : T27 × T68) (v : Value) (w' : World) : Prop :=
 ∃ S' u4d u4e u4f u49, v = (ag (.i r.1.Kind :: U4 r.1.Set [.slice u4d u4e u4f, .i r.1.Min, .i r.1.Max])) ∧ Ext S0 w0 S' w' ∧ Hp nz wz S' w' ((some gx0, .row 69 [.string r.2.s, .i r.2.at_, .i r.2.deep, u49] 4 0) :: Lr) ∧ r.1.Set.length = 4 ∧ Rd kT27 S' w' u4d u4f r.1.L ∧ r.1.L.length = u4e ∧ PtO kT72 S' w' u49 r.2.bad

def Post.z2b (gx0 : Nat) (r : T27 × T68) (v : Value) (w' : World) : Prop :=
 ∃ S' u4d u4e u4f u49, v = (ag (.i r.1.Kind :: U4 r.1.Set [.slice u4d u4e u4f, .i r.1.Min, .i r.1.Max])) ∧ Ext S0 w0 S' w' ∧ Hp nz wz S' w' ((some gx0, .row 69 [.string r.2.s, .i r.2.at_, .i r.2.deep, u49] 4 0) :: Lr) ∧ r.1.Set.length = 4 ∧ Rd kT27 S' w' u4d u4f r.1.L ∧ r.1.L.length = u4e ∧ PtO kT72 S' w' u49 r.2.bad

def LF.z27 : T68 → (T27 × T68) → Prop := fun x0v r => ∀ {nz wz S0 w0 Lr} [Gw nz wz] gx0 u4b (_ : Hp nz wz S0 w0 ((some gx0, .row 69 [.string x0v.s, .i x0v.at_, .i x0v.deep, u4b] 4 0) :: Lr)) (_ : PtO kT72 S0 w0 u4b x0v.bad),
 Calls Tryd.prog 30 #[(pt gx0 0)] w0 (Rets (Post.z27 nz wz S0 w0 Lr gx0 r))

def LF.z28 : T68 → (T27 × T68) → Prop := fun x0v r => ∀ {nz wz S0 w0 Lr} [Gw nz wz] gx0 u4b (_ : Hp nz wz S0 w0 ((some gx0, .row 69 [.string x0v.s, .i x0v.at_, .i x0v.deep, u4b] 4 0) :: Lr)) (_ : PtO kT72 S0 w0 u4b x0v.bad),
 Calls Tryd.prog 47 #[(pt gx0 0)] w0 (Rets (Post.z28 nz wz S0 w0 Lr gx0 r))

def L.z2c (gx0 : Nat) : T27 × (List T27) × T68 → (T27 × T68) → Prop := fun ⟨x2v, x3, e0v⟩ r => ∀ S1 w1, Ext S0 w0 S1 w1 → ∀ gx2 uar uas uat uau Gx3 nx3 cx3 u4v u49 (_ : Hp nz wz S1 w1 ((some gx2, .row 28 (.i x2v.Kind :: U4 x2v.Set [.slice (Gp uar) uas uat, .i x2v.Min, .i x2v.Max]) 8 0) :: (uar, .row 28 uau (uat * kT27.size) 0) :: (Gx3, .row 28 u4v (cx3 * kT27.size) 0) :: (some gx0, .row 69 [.string e0v.s, .i e0v.at_, .i e0v.deep, u49] 4 0) :: Lr)) (_ : x2v.Set.length = 4) (_ : Els kT27 S1 w1 uau x2v.L) (_ : x2v.L.length = uas) (_ : Els kT27 S1 w1 u4v x3) (_ : x3.length = nx3) (_ : PtO kT72 S1 w1 u49 e0v.bad) (junk : Nat → Value),
 Goes Tryd.prog (base 47) Jgu ⟨lfr 38 [(0, (pt gx0 0)), (2, (pt gx2 0)), (3, .slice (Gp Gx3) nx3 cx3)] junk, []⟩ w1 (Done Tryd.prog 47 (Rets (Post.z28 nz wz S0 w0 Lr gx0 r)))

def LL.z2c : T27 × (List T27) × T68 → (T27 × T68) → Prop := fun a r => ∀ {nz wz S0 w0 Lr} [Gw nz wz] (gx0 : Nat), L.z2c nz wz S0 w0 Lr gx0 a r

def L.z2d (gx0 : Nat) : T27 × (List T27) × Bool × T68 → (T27 × T68) → Prop := fun ⟨x2v, x3, x30, e0v⟩ r => ∀ S1 w1, Ext S0 w0 S1 w1 → ∀ gx2 uar uas uat uau Gx3 nx3 cx3 u4v u49 (_ : Hp nz wz S1 w1 ((some gx2, .row 28 (.i x2v.Kind :: U4 x2v.Set [.slice (Gp uar) uas uat, .i x2v.Min, .i x2v.Max]) 8 0) :: (uar, .row 28 uau (uat * kT27.size) 0) :: (Gx3, .row 28 u4v (cx3 * kT27.size) 0) :: (some gx0, .row 69 [.string e0v.s, .i e0v.at_, .i e0v.deep, u49] 4 0) :: Lr)) (_ : x2v.Set.length = 4) (_ : Els kT27 S1 w1 uau x2v.L) (_ : x2v.L.length = uas) (_ : Els kT27 S1 w1 u4v x3) (_ : x3.length = nx3) (_ : PtO kT72 S1 w1 u49 e0v.bad) (junk : Nat → Value),
 Goes Tryd.prog (base 47) Jgw ⟨lfr 38 [(0, (pt gx0 0)), (2, (pt gx2 0)), (3, .slice (Gp Gx3) nx3 cx3), (30, .bool x30)] junk, []⟩ w1 (Done Tryd.prog 47 (Rets (Post.z28 nz wz S0 w0 Lr gx0 r)))

def LL.z2d : T27 × (List T27) × Bool × T68 → (T27 × T68) → Prop := fun a r => ∀ {nz wz S0 w0 Lr} [Gw nz wz] (gx0 : Nat), L.z2d nz wz S0 w0 Lr gx0 a r

def LF.z29 : T68 → (T27 × T68) → Prop := fun x0v r => ∀ {nz wz S0 w0 Lr} [Gw nz wz] gx0 u4b (_ : Hp nz wz S0 w0 ((some gx0, .row 69 [.string x0v.s, .i x0v.at_, .i x0v.deep, u4b] 4 0) :: Lr)) (_ : PtO kT72 S0 w0 u4b x0v.bad),
 Calls Tryd.prog 66 #[(pt gx0 0)] w0 (Rets (Post.z29 nz wz S0 w0 Lr gx0 r))

def LF.z2a : T68 → (T27 × T68) → Prop := fun x0v r => ∀ {nz wz S0 w0 Lr} [Gw nz wz] gx0 u4b (_ : Hp nz wz S0 w0 ((some gx0, .row 69 [.string x0v.s, .i x0v.at_, .i x0v.deep, u4b] 4 0) :: Lr)) (_ : PtO kT72 S0 w0 u4b x0v.bad),
 Calls Tryd.prog 78 #[(pt gx0 0)] w0 (Rets (Post.z2a nz wz S0 w0 Lr gx0 r))

def L.z2e (gx0 : Nat) : T27 × Int × Bool × T68 → (T27 × T68) → Prop := fun ⟨x2v, x3, x6, e0v⟩ r => ∀ S1 w1, Ext S0 w0 S1 w1 → ∀ gx2 uar uas uat uau u49 (_ : Hp nz wz S1 w1 ((some gx2, .row 28 (.i x2v.Kind :: U4 x2v.Set [.slice (Gp uar) uas uat, .i x2v.Min, .i x2v.Max]) 8 0) :: (uar, .row 28 uau (uat * kT27.size) 0) :: (some gx0, .row 69 [.string e0v.s, .i e0v.at_, .i e0v.deep, u49] 4 0) :: Lr)) (_ : x2v.Set.length = 4) (_ : Els kT27 S1 w1 uau x2v.L) (_ : x2v.L.length = uas) (_ : PtO kT72 S1 w1 u49 e0v.bad) (junk : Nat → Value),
 Goes Tryd.prog (base 78) Jgz ⟨lfr 73 [(0, (pt gx0 0)), (2, (pt gx2 0)), (3, .int .u8 x3), (6, .bool x6)] junk, []⟩ w1 (Done Tryd.prog 78 (Rets (Post.z2a nz wz S0 w0 Lr gx0 r)))

def LL.z2e : T27 × Int × Bool × T68 → (T27 × T68) → Prop := fun a r => ∀ {nz wz S0 w0 Lr} [Gw nz wz] (gx0 : Nat), L.z2e nz wz S0 w0 Lr gx0 a r

def L.z2f (gx0 : Nat) : T27 × Int × Bool × T68 → (T27 × T68) → Prop := fun ⟨x2v, x3, x24, e0v⟩ r => ∀ S1 w1, Ext S0 w0 S1 w1 → ∀ gx2 uar uas uat uau u49 (_ : Hp nz wz S1 w1 ((some gx2, .row 28 (.i x2v.Kind :: U4 x2v.Set [.slice (Gp uar) uas uat, .i x2v.Min, .i x2v.Max]) 8 0) :: (uar, .row 28 uau (uat * kT27.size) 0) :: (some gx0, .row 69 [.string e0v.s, .i e0v.at_, .i e0v.deep, u49] 4 0) :: Lr)) (_ : x2v.Set.length = 4) (_ : Els kT27 S1 w1 uau x2v.L) (_ : x2v.L.length = uas) (_ : PtO kT72 S1 w1 u49 e0v.bad) (junk : Nat → Value),
 Goes Tryd.prog (base 78) Jh0 ⟨lfr 73 [(0, (pt gx0 0)), (2, (pt gx2 0)), (3, .int .u8 x3), (24, .bool x24)] junk, []⟩ w1 (Done Tryd.prog 78 (Rets (Post.z2a nz wz S0 w0 Lr gx0 r)))

def LL.z2f : T27 × Int × Bool × T68 → (T27 × T68) → Prop := fun a r => ∀ {nz wz S0 w0 Lr} [Gw nz wz] (gx0 : Nat), L.z2f nz wz S0 w0 Lr gx0 a r

def LF.z2b : T68 → (T27 × T68) → Prop := fun x0v r => ∀ {nz wz S0 w0 Lr} [Gw nz wz] gx0 u4b (_ : Hp nz wz S0 w0 ((some gx0, .row 69 [.string x0v.s, .i x0v.at_, .i x0v.deep, u4b] 4 0) :: Lr)) (_ : PtO kT72 S0 w0 u4b x0v.bad),
 Calls Tryd.prog 92 #[(pt gx0 0)] w0 (Rets (Post.z2b nz wz S0 w0 Lr gx0 r))

def L.z2g (gx0 : Nat) : T27 × T68 → (T27 × T68) → Prop := fun ⟨x2v, e0v⟩ r => ∀ S1 w1, Ext S0 w0 S1 w1 → ∀ gx2 uar uas uat uau u49 (_ : Hp nz wz S1 w1 ((some gx2, .row 28 (.i x2v.Kind :: U4 x2v.Set [.slice (Gp uar) uas uat, .i x2v.Min, .i x2v.Max]) 8 0) :: (uar, .row 28 uau (uat * kT27.size) 0) :: (some gx0, .row 69 [.string e0v.s, .i e0v.at_, .i e0v.deep, u49] 4 0) :: Lr)) (_ : x2v.Set.length = 4) (_ : Els kT27 S1 w1 uau x2v.L) (_ : x2v.L.length = uas) (_ : PtO kT72 S1 w1 u49 e0v.bad) (junk : Nat → Value),
 Goes Tryd.prog (base 92) Jh1 ⟨lfr 27 [(0, (pt gx0 0)), (2, (pt gx2 0))] junk, []⟩ w1 (Done Tryd.prog 92 (Rets (Post.z2b nz wz S0 w0 Lr gx0 r)))

def LL.z2g : T27 × T68 → (T27 × T68) → Prop := fun a r => ∀ {nz wz S0 w0 Lr} [Gw nz wz] (gx0 : Nat), L.z2g nz wz S0 w0 Lr gx0 a r

def L.z2h (gx0 : Nat) : T27 × (List T27) × T68 → (T27 × T68) → Prop := fun ⟨x2v, x3, e0v⟩ r => ∀ S1 w1, Ext S0 w0 S1 w1 → ∀ gx2 uar uas uat uau Gx3 nx3 cx3 u4v u49 (_ : Hp nz wz S1 w1 ((some gx2, .row 28 (.i x2v.Kind :: U4 x2v.Set [.slice (Gp uar) uas uat, .i x2v.Min, .i x2v.Max]) 8 0) :: (uar, .row 28 uau (uat * kT27.size) 0) :: (Gx3, .row 28 u4v (cx3 * kT27.size) 0) :: (some gx0, .row 69 [.string e0v.s, .i e0v.at_, .i e0v.deep, u49] 4 0) :: Lr)) (_ : x2v.Set.length = 4) (_ : Els kT27 S1 w1 uau x2v.L) (_ : x2v.L.length = uas) (_ : Els kT27 S1 w1 u4v x3) (_ : x3.length = nx3) (_ : PtO kT72 S1 w1 u49 e0v.bad) (junk : Nat → Value),
 Goes Tryd.prog (base 30) Jh5 ⟨lfr 16 [(0, (pt gx0 0)), (2, (pt gx2 0)), (3, .slice (Gp Gx3) nx3 cx3)] junk, []⟩ w1 (Done Tryd.prog 30 (Rets (Post.z27 nz wz S0 w0 Lr gx0 r)))

def LL.z2h : T27 × (List T27) × T68 → (T27 × T68) → Prop := fun a r => ∀ {nz wz S0 w0 Lr} [Gw nz wz] (gx0 : Nat), L.z2h nz wz S0 w0 Lr gx0 a r

theorem W.z2i : (∀ a r, M.syntax_parser_alternation a = some r → LF.z27 a r) ∧ (∀ a r, M.syntax_parser_alternation_l0 a = some r → LL.z2h a r) ∧ (∀ a r, M.syntax_parser_sequence a = some r → LF.z28 a r) ∧ (∀ a r, M.syntax_parser_sequence_l0 a = some r → LL.z2c a r) ∧ (∀ a r, M.syntax_parser_sequence_l1 a = some r → LL.z2d a r) ∧ (∀ a r, M.syntax_parser_piece a = some r → LF.z29 a r) ∧ (∀ a r, M.syntax_parser_atom a = some r → LF.z2a a r) ∧ (∀ a r, M.syntax_parser_atom_l0 a = some r → LL.z2e a r) ∧ (∀ a r, M.syntax_parser_atom_l1 a = some r → LL.z2f a r) ∧ (∀ a r, M.syntax_parser_group a = some r → LF.z2b a r) ∧ (∀ a r, M.syntax_parser_group_l0 a = some r → LL.z2g a r) := by
 refine M.syntax_parser_alternation.mutual_partial_correctness LF.z27 LL.z2h LF.z28 LL.z2c LL.z2d LF.z29 LF.z2a LL.z2e LL.z2f LF.z2b LL.z2g ?_ ?_ ?_ ?_ ?_ ?_ ?_ ?_ ?_ ?_ ?_
 ·
  intro uav rec_syntax_parser_sequence uaw ih_syntax_parser_sequence x0v r h nz wz S0 w0 Lr iG gx0 u4b p0 u4c
  try dsimp only at h
  refine calls_of_goes (fn := Tryd.f30) (c := B30) (by kernel_rfl) (by kernel_rfl) 15 (by kernel_rfl) ?_
  refine Goes.jp 16 [(0, (pt gx0 0))] (fun junk => ?_)
  refine Goes.rn 2 [] Jh7 ?_
  refine Op_.alloc 28 2 0 (.agg #[.i 0, .u 0, .u 0, .u 0, .u 0, .slice none 0 0, .i 0, .i 0]) [.i 0, .u 0, .u 0, .u 0, .u 0, .slice none 0 0, .i 0, .i 0] p0 Goes.v (by kernel_rfl) (by kernel_rfl) ?_
  intro b2 w2 z2 p2
  refine Goes.rn 4 [(4, (pt gx0 0))] Jh9 ?_
  have p2 := p2.fr 1
  refine bind_some' h fun y4 e5 h => ?_
  refine Goes.cal (kc 47 [4] #[66]) 5 28 47 _ (ih_syntax_parser_sequence x0v y4 e5 gx0 u4b p2 (u4c.ext z2)) ?_
  rintro _ w3 ⟨S3, u9z, ua0, ua1, u6t, rfl, z3, p3, ua2, ua3, rfl, u6u⟩
  have f7 : Els kT27 S3 w3 ((.i y4.1.Kind :: U4 y4.1.Set [.slice u9z y4.1.L.length ua1, .i y4.1.Min, .i y4.1.Max]) : List Value) [y4.1] := by exact (Els.cons (K := kT27) (vs := (.i y4.1.Kind :: U4 y4.1.Set [.slice u9z y4.1.L.length ua1, .i y4.1.Min, .i y4.1.Max])) (x := y4.1) (kT27_close ⟨[.i y4.1.Kind], (U4 y4.1.Set [.slice u9z y4.1.L.length ua1, .i y4.1.Min, .i y4.1.Max]), rfl, rfl, ⟨(U4 y4.1.Set []), [.slice u9z y4.1.L.length ua1, .i y4.1.Min, .i y4.1.Max], rfl, ⟨ua2, els_mk4 ua2⟩, ⟨[.slice u9z y4.1.L.length ua1], [.i y4.1.Min, .i y4.1.Max], rfl, ⟨_, _, rfl, ua3⟩, ⟨[.i y4.1.Min], [.i y4.1.Max], rfl, rfl, rfl⟩⟩⟩⟩) Els.nil)
  refine Op_.made (.buildSlice 26 1 #[(0, (.tmp 5))]) 6 26 (fun b => .slice (Gp (some b)) 1 1) 28 ((.i y4.1.Kind :: U4 y4.1.Set [.slice u9z y4.1.L.length ua1, .i y4.1.Min, .i y4.1.Max]) : List Value) p3 Goes.v (by kernel_rfl) ?_
  intro b6 w4 z4 p4
  have p4 : Hp nz wz S3 w4 (((some b6), .row 28 ((.i y4.1.Kind :: U4 y4.1.Set [.slice u9z y4.1.L.length ua1, .i y4.1.Min, .i y4.1.Max]) : List Value) (1 * kT27.size) 0) :: (some gx0, .row 69 [.string y4.2.s, .i y4.2.at_, .i y4.2.deep, u6t] 4 0) :: (some b2, .row 28 [.i 0, .u 0, .u 0, .u 0, .u 0, .slice none 0 0, .i 0, .i 0] 8 0) :: Lr) := p4
  refine Goes.rn 5 [(3, .slice (Gp (some b6)) 1 1)] Jh5 ?_
  have p4 : Hp nz wz S3 w4 ((none, .row 28 [] (0 * kT27.size) 0) :: ((some b6), .row 28 ((.i y4.1.Kind :: U4 y4.1.Set [.slice u9z y4.1.L.length ua1, .i y4.1.Min, .i y4.1.Max]) : List Value) (1 * kT27.size) 0) :: (some gx0, .row 69 [.string y4.2.s, .i y4.2.at_, .i y4.2.deep, u6t] 4 0) :: (some b2, .row 28 [.i 0, .u 0, .u 0, .u 0, .u 0, .slice none 0 0, .i 0, .i 0] 8 0) :: Lr) := p4.nilRow' 28
  have p4 := (((p4.fr 2).fr 2).fr 2).fr 3
  exact Goes.jp 16 [(0, (pt gx0 0)), (2, (pt b2 0)), (3, .slice (Gp (some b6)) 1 1)] (uaw _ _ h gx0 _ _ ((((Ext.refl S0 w0).trans z2).trans z3).trans z4) b2 none 0 0 [] (some b6) 1 1 ((.i y4.1.Kind :: U4 y4.1.Set [.slice u9z y4.1.L.length ua1, .i y4.1.Min, .i y4.1.Max]) : List Value) u6t p4 rfl (Els.nil (K := kT27)) rfl (f7.ext z4) rfl (u6u.ext z4))
 ·
  intro uav rec_syntax_parser_sequence uaw ih_syntax_parser_sequence ⟨x2v, x3, e0v⟩ r h nz wz S0 w0 Lr iG gx0 S1 w1 hx gx2 uar uas uat uau Gx3 nx3 cx3 u4v u49 p1 uax uay uaz fx3 lx3 u4a junk
  try dsimp only at h
  subst uaz
  subst lx3
  refine Goes.rn 4 [(7, (pt gx0 0))] Jhc ?_
  have p1 := p1.fr 3
  refine bind_some' h fun y13 e14 h => ?_
  refine Goes.cal (.call { callee := .value (.func 48), args := #[(.tmp 7), (.const (.int .u8 124))], argTypes := #[66, 5] }) 8 4 48 _ (W.z14 e0v 124 y13 e14 gx0 u49 p1 u4a) ?_
  rintro _ w5 ⟨S5, u7f, rfl, z5, p5, u7h⟩
  refine Goes.rn 1 [] Jhb ?_
  refine ite_some h (fun h15 h => ?_) (fun h15 h => ?_)
  ·
   rw [h15]
   refine Goes.rn 6 [(9, .slice (Gp Gx3) x3.length cx3), (10, (pt gx0 0))] Jhe ?_
   refine bind_some' h fun y16 e17 h => ?_
   refine Goes.cal (kc 47 [10] #[66]) 11 28 47 _ (ih_syntax_parser_sequence y13.2 y16 e17 gx0 u7f p5 u7h) ?_
   rintro _ w6 ⟨S6, ub0, ub1, ub2, u83, rfl, z6, p6, ub3, ub4, rfl, u84⟩
   have f19 : Els kT27 S6 w6 ((.i y16.1.Kind :: U4 y16.1.Set [.slice ub0 y16.1.L.length ub2, .i y16.1.Min, .i y16.1.Max]) : List Value) [y16.1] := by exact (Els.cons (K := kT27) (vs := (.i y16.1.Kind :: U4 y16.1.Set [.slice ub0 y16.1.L.length ub2, .i y16.1.Min, .i y16.1.Max])) (x := y16.1) (kT27_close ⟨[.i y16.1.Kind], (U4 y16.1.Set [.slice ub0 y16.1.L.length ub2, .i y16.1.Min, .i y16.1.Max]), rfl, rfl, ⟨(U4 y16.1.Set []), [.slice ub0 y16.1.L.length ub2, .i y16.1.Min, .i y16.1.Max], rfl, ⟨ub3, els_mk4 ub3⟩, ⟨[.slice ub0 y16.1.L.length ub2], [.i y16.1.Min, .i y16.1.Max], rfl, ⟨_, _, rfl, ub4⟩, ⟨[.i y16.1.Min], [.i y16.1.Max], rfl, rfl, rfl⟩⟩⟩⟩) Els.nil)
   refine Op_.made (.buildSlice 26 1 #[(0, (.tmp 11))]) 12 26 (fun b => .slice (Gp (some b)) 1 1) 28 ((.i y16.1.Kind :: U4 y16.1.Set [.slice ub0 y16.1.L.length ub2, .i y16.1.Min, .i y16.1.Max]) : List Value) p6 Goes.v (by kernel_rfl) ?_
   intro b18 w7 z7 p7
   have p7 : Hp nz wz S6 w7 (((some b18), .row 28 ((.i y16.1.Kind :: U4 y16.1.Set [.slice ub0 y16.1.L.length ub2, .i y16.1.Min, .i y16.1.Max]) : List Value) (1 * kT27.size) 0) :: (some gx0, .row 69 [.string y16.2.s, .i y16.2.at_, .i y16.2.deep, u83] 4 0) :: (some gx2, .row 28 (.i x2v.Kind :: U4 x2v.Set [.slice (Gp uar) x2v.L.length uat, .i x2v.Min, .i x2v.Max]) 8 0) :: (uar, .row 28 uau (uat * kT27.size) 0) :: (Gx3, .row 28 u4v (cx3 * kT27.size) 0) :: Lr) := p7
   refine guard_some' h fun g24 h => ?_
   refine Op_.ap_n (K := kT27) 26 (.tmp 9) (.tmp 12) 13 26 28 4 (.agg #[.i 0, .u 0, .u 0, .u 0, .u 0, .slice none 0 0, .i 0, .i 0]) 80 x3.length cx3 1 x3 [y16.1] (x3 ++ [y16.1]) (Gp (some b18)) 1 rfl rfl rfl p7 rfl (fx3.ext ((z5.trans z6).trans z7)) Goes.v (by kernel_rfl) (by kernel_rfl) (by kernel_rfl) (by kernel_rfl) rfl (by decide) (f19.ext z7) (src_own p7 (q := 0) rfl) (by have := g24; omega) (by have := g24; omega) ?_
   intro w8 G25 c26 ub5 z8 p8 f28
   refine Goes.rn 4 [(3, .slice (Gp G25) ((x3 ++ [y16.1]).length) c26)] Jh5 ?_
   have p8 := p8.dp 0
   have p8 := (((p8.fr 0).fr 3).fr 3).fr 3
   exact Goes.jp 16 [(0, (pt gx0 0)), (2, (pt gx2 0)), (3, .slice (Gp G25) ((x3 ++ [y16.1]).length) c26)] (uaw _ _ h gx0 _ _ ((((hx.trans z5).trans z6).trans z7).trans z8) gx2 uar x2v.L.length uat uau G25 ((x3 ++ [y16.1]).length) c26 ub5 u83 p8 uax (uay.ext (((z5.trans z6).trans z7).trans z8)) rfl f28 rfl (u84.ext (z7.trans z8)))
  ·
   have ub : y13.1 = false := by simpa using h15
   rw [ub]
   refine Goes.rn 5 [(14, .slice (Gp Gx3) x3.length cx3)] Jhg ?_
   obtain ⟨S9, z9, p9, f29⟩ := p5.freezeRd 3 rfl (fx3.ext z5) (by decide)
   refine bind_some' h fun y30 e31 h => ?_
   refine Goes.cal (.call { callee := .value (.func 49), args := #[(.const (.int .i64 3)), (.tmp 14)], argTypes := #[3, 26] }) 15 28 49 _ (W.z26 3 x3 y30 e31 (Gp Gx3) x3.length cx3 p9 f29 rfl) ?_
   rintro _ w10 ⟨S10, ub6, ub7, ub8, rfl, z10, p10, ub9, uba, rfl⟩
   have p10 := p10.dp 3
   refine Op_.st 28 (.tmp 2) (.tmp 15) 0 1 gx2 0 (ag (.i y30.Kind :: U4 y30.Set [.slice ub6 y30.L.length ub8, .i y30.Min, .i y30.Max])) (.i y30.Kind :: U4 y30.Set [.slice ub6 y30.L.length ub8, .i y30.Min, .i y30.Max]) p10 rfl Goes.s (by kernel_rfl) (by kernel_rfl) (by kernel_rfl) (by kernel_rfl) (Nat.zero_le _) (by simp only [List.length_cons, List.length_nil]; omega) (by simp [Value.oneCell']) ?_
   intro w11 z11 p11
   have p11 : Hp nz wz S10 w11 ((some gx0, .row 69 [.string y13.2.s, .i y13.2.at_, .i y13.2.deep, u7f] 4 0) :: (some gx2, .row 28 (.i y30.Kind :: U4 y30.Set [.slice ub6 y30.L.length ub8, .i y30.Min, .i y30.Max]) 8 0) :: (uar, .row 28 uau (uat * kT27.size) 0) :: Lr) := p11
   refine Goes.rn 1 [] Jhf ?_
   obtain rfl := Option.some.inj h
   have p11 := p11.dp 2
   have p11 := (p11.fr 0).fr 1
   exact Goes.ret (fn := Tryd.f30) (by kernel_rfl) (v := (ag (.i y30.Kind :: U4 y30.Set [.slice ub6 y30.L.length ub8, .i y30.Min, .i y30.Max]))) (results_n1 (fn := Tryd.f30) (a := .cell 2 28) (by kernel_rfl) (resV_cell ⟨gx2, 0, none⟩ (by kernel_rfl) (run_loadN (.i y30.Kind :: U4 y30.Set [.slice ub6 y30.L.length ub8, .i y30.Min, .i y30.Max]) (by kernel_rfl) (by kernel_rfl) (p11.pa 0 0)))) ⟨S10, ub6, y30.L.length, ub8, u7f, rfl, ((((hx.trans z5).trans z9).trans z10).trans z11), p11.drop, ub9, (uba.ext z11), rfl, (u7h.ext ((z9.trans z10).trans z11))⟩
 ·
  intro ubb ubc x0v r h nz wz S0 w0 Lr iG gx0 u4b p0 u4c
  try dsimp only at h
  refine calls_of_goes (fn := Tryd.f47) (c := B47) (by kernel_rfl) (by kernel_rfl) 37 (by kernel_rfl) ?_
  refine Goes.jp 38 [(0, (pt gx0 0))] (fun junk => ?_)
  refine Goes.rn 2 [] Jhi ?_
  refine Op_.alloc 28 2 0 (.agg #[.i 0, .u 0, .u 0, .u 0, .u 0, .slice none 0 0, .i 0, .i 0]) [.i 0, .u 0, .u 0, .u 0, .u 0, .slice none 0 0, .i 0, .i 0] p0 Goes.v (by kernel_rfl) (by kernel_rfl) ?_
  intro b2 w2 z2 p2
  refine Goes.rn 8 [(3, .slice none 0 0)] Jgu ?_
  have p2 : Hp nz wz S0 w2 ((none, .row 28 [] (0 * kT27.size) 0) :: (some b2, .row 28 [.i 0, .u 0, .u 0, .u 0, .u 0, .slice none 0 0, .i 0, .i 0] 8 0) :: (some gx0, .row 69 [.string x0v.s, .i x0v.at_, .i x0v.deep, u4b] 4 0) :: Lr) := p2.nilRow' 28
  have p2 : Hp nz wz S0 w2 ((none, .row 28 [] (0 * kT27.size) 0) :: (none, .row 28 [] (0 * kT27.size) 0) :: (some b2, .row 28 [.i 0, .u 0, .u 0, .u 0, .u 0, .slice (Gp none) 0 0, .i 0, .i 0] 8 0) :: (some gx0, .row 69 [.string x0v.s, .i x0v.at_, .i x0v.deep, u4b] 4 0) :: Lr) := p2.nilRow' 28
  have p2 := (((p2.fr 3).fr 1).fr 2).fr 3
  exact Goes.jp 38 [(0, (pt gx0 0)), (2, (pt b2 0)), (3, .slice (Gp none) 0 0)] (ubc _ _ h gx0 _ _ ((Ext.refl S0 w0).trans z2) b2 none 0 0 [] none 0 0 [] u4b p2 rfl (Els.nil (K := kT27)) rfl (Els.nil (K := kT27)) rfl (u4c.ext z2))
 ·
  intro ubd ube ⟨x2v, x3, e0v⟩ r h nz wz S0 w0 Lr iG gx0 S1 w1 hx gx2 uar uas uat uau Gx3 nx3 cx3 u4v u49 p1 uax uay uaz fx3 lx3 u4a junk
  try dsimp only at h
  subst uaz
  subst lx3
  refine Goes.rn 2 [] Jhj ?_
  have z3 : Ext S1 w1 S1 (w1).drew := Ext.draw
  have p3 := p1.draw
  refine Goes.drawn (s := [19, 24]) (F := Fc S1 (w1).drew [(⟨gx0, 3, none⟩, u49), (⟨gx0, 1, none⟩, .i e0v.at_), (⟨gx0, 0, none⟩, .string e0v.s)]) 2 27 (by kernel_rfl) (by kernel_rfl) (by kernel_rfl) (by kernel_rfl) ?_
  generalize (w1).drew = w3 at z3 p3 ⊢
  refine AnyG.pu 0 (.move (.tmp 0)) 4 66 ((pt gx0 0)) (Fc.here (p3.cs [(3, 3, 1), (3, 1, 1), (3, 0, 1)])) ?_
  refine AnyG.pu 1 (.nilCheck (.tmp 4)) 5 0 ((pt gx0 0)) (Fc.here (p3.cs [(3, 3, 1), (3, 1, 1), (3, 0, 1)])) ?_
  refine AnyG.pu 2 (.fieldAddr 69 (.tmp 5) 3) 6 0 ((pt gx0 3)) (Fc.here (p3.cs [(3, 3, 1), (3, 1, 1), (3, 0, 1)])) ?_
  refine AnyG.ld1 (i := 3) 67 (.tmp 6) 7 67 ⟨gx0, 3, none⟩ (u49) (by kernel_rfl) (by kernel_rfl) (Fc.here (p3.cs [(3, 3, 1), (3, 1, 1), (3, 0, 1)])) (by kernel_rfl) (by kernel_rfl) (fun _ h => h.2.at_ 0 rfl) ?_
  refine let_some h fun v24 h9 h => ?_
  rcases v24 with _ | y10
  ·
   try dsimp only at h
   obtain rfl := PtO.nil (u4a.ext z3) h9
   refine AnyG.pu 4 (.binOp .eql 67 (.tmp 7) (.const (.pointer none)) 67) 8 4 (.bool true) (Fc.here (p3.cs [(3, 3, 1), (3, 1, 1), (3, 0, 1)])) ?_
   refine AnyG.pu 5 (.move (.tmp 8)) 9 4 (.bool true) (Fc.here (p3.cs [(3, 3, 1), (3, 1, 1), (3, 0, 1)])) ?_
   refine AnyG.pu 6 (.move (.tmp 0)) 10 66 ((pt gx0 0)) (Fc.here (p3.cs [(3, 3, 1), (3, 1, 1), (3, 0, 1)])) ?_
   refine AnyG.pu 7 (.nilCheck (.tmp 10)) 11 0 ((pt gx0 0)) (Fc.here (p3.cs [(3, 3, 1), (3, 1, 1), (3, 0, 1)])) ?_
   refine AnyG.pu 8 (.fieldAddr 69 (.tmp 11) 1) 12 0 ((pt gx0 1)) (Fc.here (p3.cs [(3, 3, 1), (3, 1, 1), (3, 0, 1)])) ?_
   refine AnyG.ld1 (i := 9) 3 (.tmp 12) 13 3 ⟨gx0, 1, none⟩ (.i e0v.at_) (by kernel_rfl) (by kernel_rfl) (Fc.here (p3.cs [(3, 3, 1), (3, 1, 1), (3, 0, 1)])) (by kernel_rfl) (by kernel_rfl) (fun _ h => h.2.at_ 1 rfl) ?_
   refine AnyG.pu 10 (.move (.tmp 0)) 14 66 ((pt gx0 0)) (Fc.here (p3.cs [(3, 3, 1), (3, 1, 1), (3, 0, 1)])) ?_
   refine AnyG.pu 11 (.nilCheck (.tmp 14)) 15 0 ((pt gx0 0)) (Fc.here (p3.cs [(3, 3, 1), (3, 1, 1), (3, 0, 1)])) ?_
   refine AnyG.pu 12 (.fieldAddr 69 (.tmp 15) 0) 16 0 ((pt gx0 0)) (Fc.here (p3.cs [(3, 3, 1), (3, 1, 1), (3, 0, 1)])) ?_
   refine AnyG.ld1 (i := 13) 9 (.tmp 16) 17 9 ⟨gx0, 0, none⟩ (.string e0v.s) (by kernel_rfl) (by kernel_rfl) (Fc.here (p3.cs [(3, 3, 1), (3, 1, 1), (3, 0, 1)])) (by kernel_rfl) (by kernel_rfl) (fun _ h => h.2.at_ 2 rfl) ?_
   refine AnyG.pu 14 (.call { callee := .builtin .len, args := #[(.tmp 17)], argTypes := #[9] }) 18 3 (.i (e0v.s.size : Int)) (Fc.here (p3.cs [(3, 3, 1), (3, 1, 1), (3, 0, 1)])) ?_
   refine AnyG.pu 15 (.binOp .lss 3 (.tmp 13) (.tmp 18) 3) 19 4 (.bool (decide (e0v.at_ < (e0v.s.size : Int)))) (Fc.here (p3.cs [(3, 3, 1), (3, 1, 1), (3, 0, 1)])) ?_
   refine AnyG.pu 16 (.pick (.tmp 9) (.tmp 19) (.const (.bool false))) 20 4 (.bool (decide (e0v.at_ < (e0v.s.size : Int)))) (Fc.here (p3.cs [(3, 3, 1), (3, 1, 1), (3, 0, 1)])) ?_
   refine AnyG.pu 17 (.move (.tmp 20)) 21 4 (.bool (decide (e0v.at_ < (e0v.s.size : Int)))) (Fc.here (p3.cs [(3, 3, 1), (3, 1, 1), (3, 0, 1)])) ?_
   refine ite_some h (fun h15 h => ?_) (fun h15 h => ?_)
   ·
    rw [decide_eq_true h15]
    refine AnyG.pu 18 (.move (.tmp 0)) 22 66 ((pt gx0 0)) (Fc.here (p3.cs [(3, 3, 1), (3, 1, 1), (3, 0, 1)])) ?_
    have p3 := p3.fr 3
    refine bind_some' h fun y16 e17 h => ?_
    refine Op_.call (kc 65 [22] #[66]) 23 5 65 #[(pt gx0 0)] (AnyG.cs (i := 19) (by kernel_rfl) (by kernel_rfl)) (by kernel_rfl) (W.z11 (⟨e0v.s, e0v.at_, e0v.deep, none⟩ : T68) y16 e17 gx0 (.pointer none) p3 rfl) ?_
    rintro _ w4 ⟨S4, u6d, rfl, z4, p4, u6g⟩
    refine AnyG.last [24] (Fc S4 w4 []) (by decide) ?_
    refine AnyG.pu 20 (.binOp .neq 5 (.tmp 23) (.const (.int .u8 124)) 5) 24 4 (.bool (!(decide (y16.1 = 124)))) (Fc.here trivial) ?_
    refine AnyG.pu 21 (.pick (.tmp 21) (.tmp 24) (.const (.bool false))) 25 4 (.bool (!(decide (y16.1 = 124)))) (Fc.here trivial) ?_
    refine AnyG.pu 22 (.move (.tmp 25)) 26 4 (.bool (!(decide (y16.1 = 124)))) (Fc.here trivial) ?_
    refine ite_some h (fun h18 h => ?_) (fun h18 h => ?_)
    ·
     rw [decide_eq_true h18]
     refine AnyG.s1 23 27 (Fc.here trivial) ?_
     refine AnyG.skipL1 (i := 24) 28 (by kernel_rfl) (by kernel_rfl) (.inl (by decide)) ?_
     refine AnyG.s1 25 29 (Fc.here trivial) ?_
     refine AnyG.pu 26 (.pick (.tmp 26) (.tmp 29) (.const (.bool false))) 30 4 (.bool false) (Fc.here trivial) ?_
     refine AnyG.done (by kernel_rfl) ?_ _
     have p4 := (((p4.fr 0).fr 3).fr 3).fr 3
     exact Goes.jp 38 [(0, (pt gx0 0)), (2, (pt gx2 0)), (3, .slice (Gp Gx3) x3.length cx3), (30, .bool false)] (ube _ _ h gx0 _ _ ((hx.trans z3).trans z4) gx2 uar x2v.L.length uat uau Gx3 x3.length cx3 u4v u6d p4 uax (uay.ext (z3.trans z4)) rfl (fx3.ext (z3.trans z4)) rfl u6g)
    ·
     rw [decide_eq_false h18]
     refine AnyG.pu 23 (.move (.tmp 0)) 27 66 ((pt gx0 0)) (Fc.here trivial) ?_
     refine bind_some' h fun y22 e23 h => ?_
     refine Op_.call (kc 65 [27] #[66]) 28 5 65 #[(pt gx0 0)] (AnyG.cs (i := 24) (by kernel_rfl) (by kernel_rfl)) (by kernel_rfl) (W.z11 y16.2 y22 e23 gx0 u6d p4 u6g) ?_
     rintro _ w5 ⟨S5, u7f, rfl, z5, p5, u7h⟩
     refine AnyG.last [] (Fc S5 w5 []) (by decide) ?_
     refine AnyG.pu 25 (.binOp .neq 5 (.tmp 28) (.const (.int .u8 41)) 5) 29 4 (.bool (!(decide (y22.1 = 41)))) (Fc.here trivial) ?_
     refine AnyG.pu 26 (.pick (.tmp 26) (.tmp 29) (.const (.bool false))) 30 4 (.bool (!(decide (y22.1 = 41)))) (Fc.here trivial) ?_
     refine AnyG.done (by kernel_rfl) ?_ _
     have p5 := (((p5.fr 0).fr 3).fr 3).fr 3
     exact Goes.jp 38 [(0, (pt gx0 0)), (2, (pt gx2 0)), (3, .slice (Gp Gx3) x3.length cx3), (30, .bool (!(decide (y22.1 = 41))))] (ube _ _ h gx0 _ _ (((hx.trans z3).trans z4).trans z5) gx2 uar x2v.L.length uat uau Gx3 x3.length cx3 u4v u7f p5 uax (uay.ext ((z3.trans z4).trans z5)) rfl (fx3.ext ((z3.trans z4).trans z5)) rfl u7h)
   ·
    rw [decide_eq_false h15]
    refine AnyG.s1 18 22 (Fc.here (p3.cs [(3, 3, 1), (3, 1, 1), (3, 0, 1)])) ?_
    refine AnyG.skipL1 (i := 19) 23 (by kernel_rfl) (by kernel_rfl) (.inl (by decide)) ?_
    refine AnyG.s1 20 24 (Fc.here (p3.cs [(3, 3, 1), (3, 1, 1), (3, 0, 1)])) ?_
    refine AnyG.pu 21 (.pick (.tmp 21) (.tmp 24) (.const (.bool false))) 25 4 (.bool false) (Fc.here (p3.cs [(3, 3, 1), (3, 1, 1), (3, 0, 1)])) ?_
    refine AnyG.pu 22 (.move (.tmp 25)) 26 4 (.bool false) (Fc.here (p3.cs [(3, 3, 1), (3, 1, 1), (3, 0, 1)])) ?_
    refine AnyG.s1 23 27 (Fc.here (p3.cs [(3, 3, 1), (3, 1, 1), (3, 0, 1)])) ?_
    refine AnyG.skipL1 (i := 24) 28 (by kernel_rfl) (by kernel_rfl) (.inl (by decide)) ?_
    refine AnyG.s1 25 29 (Fc.here (p3.cs [(3, 3, 1), (3, 1, 1), (3, 0, 1)])) ?_
    refine AnyG.pu 26 (.pick (.tmp 26) (.tmp 29) (.const (.bool false))) 30 4 (.bool false) (Fc.here (p3.cs [(3, 3, 1), (3, 1, 1), (3, 0, 1)])) ?_
    refine AnyG.done (by kernel_rfl) ?_ _
    exact Goes.jp 38 [(0, (pt gx0 0)), (2, (pt gx2 0)), (3, .slice (Gp Gx3) x3.length cx3), (30, .bool false)] (ube _ _ h gx0 _ _ (hx.trans z3) gx2 uar x2v.L.length uat uau Gx3 x3.length cx3 u4v (.pointer none) p3 uax (uay.ext z3) rfl (fx3.ext z3) rfl rfl)
  ·
   try dsimp only at h
   obtain ⟨a12, _, rfl, -, f13, q14⟩ := PtO.got (u4a.ext z3) h9
   obtain rfl := q14
   refine AnyG.pu 4 (.binOp .eql 67 (.tmp 7) (.const (.pointer none)) 67) 8 4 (.bool false) (Fc.here (p3.cs [(3, 3, 1), (3, 1, 1), (3, 0, 1)])) ?_
   refine AnyG.pu 5 (.move (.tmp 8)) 9 4 (.bool false) (Fc.here (p3.cs [(3, 3, 1), (3, 1, 1), (3, 0, 1)])) ?_
   refine AnyG.s1 6 10 (Fc.here (p3.cs [(3, 3, 1), (3, 1, 1), (3, 0, 1)])) ?_
   refine AnyG.s1 7 11 (Fc.here (p3.cs [(3, 3, 1), (3, 1, 1), (3, 0, 1)])) ?_
   refine AnyG.s1 8 12 (Fc.here (p3.cs [(3, 3, 1), (3, 1, 1), (3, 0, 1)])) ?_
   refine AnyG.s1 9 13 (Fc.here (p3.cs [(3, 3, 1), (3, 1, 1), (3, 0, 1)])) ?_
   refine AnyG.s1 10 14 (Fc.here (p3.cs [(3, 3, 1), (3, 1, 1), (3, 0, 1)])) ?_
   refine AnyG.s1 11 15 (Fc.here (p3.cs [(3, 3, 1), (3, 1, 1), (3, 0, 1)])) ?_
   refine AnyG.s1 12 16 (Fc.here (p3.cs [(3, 3, 1), (3, 1, 1), (3, 0, 1)])) ?_
   refine AnyG.s1 13 17 (Fc.here (p3.cs [(3, 3, 1), (3, 1, 1), (3, 0, 1)])) ?_
   refine AnyG.s1 14 18 (Fc.here (p3.cs [(3, 3, 1), (3, 1, 1), (3, 0, 1)])) ?_
   refine AnyG.s1 15 19 (Fc.here (p3.cs [(3, 3, 1), (3, 1, 1), (3, 0, 1)])) ?_
   refine AnyG.pu 16 (.pick (.tmp 9) (.tmp 19) (.const (.bool false))) 20 4 (.bool false) (Fc.here (p3.cs [(3, 3, 1), (3, 1, 1), (3, 0, 1)])) ?_
   refine AnyG.pu 17 (.move (.tmp 20)) 21 4 (.bool false) (Fc.here (p3.cs [(3, 3, 1), (3, 1, 1), (3, 0, 1)])) ?_
   refine AnyG.s1 18 22 (Fc.here (p3.cs [(3, 3, 1), (3, 1, 1), (3, 0, 1)])) ?_
   refine AnyG.skipL1 (i := 19) 23 (by kernel_rfl) (by kernel_rfl) (.inl (by decide)) ?_
   refine AnyG.s1 20 24 (Fc.here (p3.cs [(3, 3, 1), (3, 1, 1), (3, 0, 1)])) ?_
   refine AnyG.pu 21 (.pick (.tmp 21) (.tmp 24) (.const (.bool false))) 25 4 (.bool false) (Fc.here (p3.cs [(3, 3, 1), (3, 1, 1), (3, 0, 1)])) ?_
   refine AnyG.pu 22 (.move (.tmp 25)) 26 4 (.bool false) (Fc.here (p3.cs [(3, 3, 1), (3, 1, 1), (3, 0, 1)])) ?_
   refine AnyG.s1 23 27 (Fc.here (p3.cs [(3, 3, 1), (3, 1, 1), (3, 0, 1)])) ?_
   refine AnyG.skipL1 (i := 24) 28 (by kernel_rfl) (by kernel_rfl) (.inl (by decide)) ?_
   refine AnyG.s1 25 29 (Fc.here (p3.cs [(3, 3, 1), (3, 1, 1), (3, 0, 1)])) ?_
   refine AnyG.pu 26 (.pick (.tmp 26) (.tmp 29) (.const (.bool false))) 30 4 (.bool false) (Fc.here (p3.cs [(3, 3, 1), (3, 1, 1), (3, 0, 1)])) ?_
   refine AnyG.done (by kernel_rfl) ?_ _
   exact Goes.jp 38 [(0, (pt gx0 0)), (2, (pt gx2 0)), (3, .slice (Gp Gx3) x3.length cx3), (30, .bool false)] (ube _ _ h gx0 _ _ (hx.trans z3) gx2 uar x2v.L.length uat uau Gx3 x3.length cx3 u4v (.pointer (some a12)) p3 uax (uay.ext z3) rfl (fx3.ext z3) rfl ⟨_, _, rfl, List.cons_ne_nil _ _, f13, rfl⟩)
 ·
  intro ubb rec_syntax_parser_piece ubc ih_syntax_parser_piece ⟨x2v, x3, x30, e0v⟩ r h nz wz S0 w0 Lr iG gx0 S1 w1 hx gx2 uar uas uat uau Gx3 nx3 cx3 u4v u49 p1 uax uay uaz fx3 lx3 u4a junk
  try dsimp only at h
  subst uaz
  subst lx3
  refine ite_some h (fun h25 h => ?_) (fun h25 h => ?_)
  ·
   rw [h25]
   refine Goes.rn 6 [(31, .slice (Gp Gx3) x3.length cx3), (32, (pt gx0 0))] Jhl ?_
   have p1 := p1.fr 3
   refine bind_some' h fun y26 e27 h => ?_
   refine Goes.cal (kc 66 [32] #[66]) 33 28 66 _ (ih_syntax_parser_piece e0v y26 e27 gx0 u49 p1 u4a) ?_
   rintro _ w6 ⟨S6, ub0, ub1, ub2, u83, rfl, z6, p6, ub3, ub4, rfl, u84⟩
   have f29 : Els kT27 S6 w6 ((.i y26.1.Kind :: U4 y26.1.Set [.slice ub0 y26.1.L.length ub2, .i y26.1.Min, .i y26.1.Max]) : List Value) [y26.1] := by exact (Els.cons (K := kT27) (vs := (.i y26.1.Kind :: U4 y26.1.Set [.slice ub0 y26.1.L.length ub2, .i y26.1.Min, .i y26.1.Max])) (x := y26.1) (kT27_close ⟨[.i y26.1.Kind], (U4 y26.1.Set [.slice ub0 y26.1.L.length ub2, .i y26.1.Min, .i y26.1.Max]), rfl, rfl, ⟨(U4 y26.1.Set []), [.slice ub0 y26.1.L.length ub2, .i y26.1.Min, .i y26.1.Max], rfl, ⟨ub3, els_mk4 ub3⟩, ⟨[.slice ub0 y26.1.L.length ub2], [.i y26.1.Min, .i y26.1.Max], rfl, ⟨_, _, rfl, ub4⟩, ⟨[.i y26.1.Min], [.i y26.1.Max], rfl, rfl, rfl⟩⟩⟩⟩) Els.nil)
   refine Op_.made (.buildSlice 26 1 #[(0, (.tmp 33))]) 34 26 (fun b => .slice (Gp (some b)) 1 1) 28 ((.i y26.1.Kind :: U4 y26.1.Set [.slice ub0 y26.1.L.length ub2, .i y26.1.Min, .i y26.1.Max]) : List Value) p6 Goes.v (by kernel_rfl) ?_
   intro b28 w7 z7 p7
   have p7 : Hp nz wz S6 w7 (((some b28), .row 28 ((.i y26.1.Kind :: U4 y26.1.Set [.slice ub0 y26.1.L.length ub2, .i y26.1.Min, .i y26.1.Max]) : List Value) (1 * kT27.size) 0) :: (some gx0, .row 69 [.string y26.2.s, .i y26.2.at_, .i y26.2.deep, u83] 4 0) :: (some gx2, .row 28 (.i x2v.Kind :: U4 x2v.Set [.slice (Gp uar) x2v.L.length uat, .i x2v.Min, .i x2v.Max]) 8 0) :: (uar, .row 28 uau (uat * kT27.size) 0) :: (Gx3, .row 28 u4v (cx3 * kT27.size) 0) :: Lr) := p7
   refine guard_some' h fun g34 h => ?_
   refine Op_.ap_n (K := kT27) 26 (.tmp 31) (.tmp 34) 35 26 28 4 (.agg #[.i 0, .u 0, .u 0, .u 0, .u 0, .slice none 0 0, .i 0, .i 0]) 80 x3.length cx3 1 x3 [y26.1] (x3 ++ [y26.1]) (Gp (some b28)) 1 rfl rfl rfl p7 rfl (fx3.ext (z6.trans z7)) Goes.v (by kernel_rfl) (by kernel_rfl) (by kernel_rfl) (by kernel_rfl) rfl (by decide) (f29.ext z7) (src_own p7 (q := 0) rfl) (by have := g34; omega) (by have := g34; omega) ?_
   intro w8 G35 c36 ubf z8 p8 f38
   refine Goes.rn 4 [(3, .slice (Gp G35) ((x3 ++ [y26.1]).length) c36)] Jgu ?_
   have p8 := p8.dp 0
   have p8 := (((p8.fr 0).fr 3).fr 3).fr 3
   exact Goes.jp 38 [(0, (pt gx0 0)), (2, (pt gx2 0)), (3, .slice (Gp G35) ((x3 ++ [y26.1]).length) c36)] (ubc _ _ h gx0 _ _ (((hx.trans z6).trans z7).trans z8) gx2 uar x2v.L.length uat uau G35 ((x3 ++ [y26.1]).length) c36 ubf u83 p8 uax (uay.ext ((z6.trans z7).trans z8)) rfl f38 rfl (u84.ext (z7.trans z8)))
  ·
   have ubg : x30 = false := by simpa using h25
   rw [ubg]
   refine Goes.rn 5 [(36, .slice (Gp Gx3) x3.length cx3)] Jhn ?_
   obtain ⟨S9, z9, p9, f39⟩ := p1.freezeRd 2 rfl fx3 (by decide)
   refine bind_some' h fun y40 e41 h => ?_
   refine Goes.cal (.call { callee := .value (.func 49), args := #[(.const (.int .i64 2)), (.tmp 36)], argTypes := #[3, 26] }) 37 28 49 _ (W.z26 2 x3 y40 e41 (Gp Gx3) x3.length cx3 p9 f39 rfl) ?_
   rintro _ w10 ⟨S10, ub6, ub7, ub8, rfl, z10, p10, ub9, uba, rfl⟩
   have p10 := p10.dp 2
   refine Op_.st 28 (.tmp 2) (.tmp 37) 0 0 gx2 0 (ag (.i y40.Kind :: U4 y40.Set [.slice ub6 y40.L.length ub8, .i y40.Min, .i y40.Max])) (.i y40.Kind :: U4 y40.Set [.slice ub6 y40.L.length ub8, .i y40.Min, .i y40.Max]) p10 rfl Goes.s (by kernel_rfl) (by kernel_rfl) (by kernel_rfl) (by kernel_rfl) (Nat.zero_le _) (by simp only [List.length_cons, List.length_nil]; omega) (by simp [Value.oneCell']) ?_
   intro w11 z11 p11
   have p11 : Hp nz wz S10 w11 ((some gx2, .row 28 (.i y40.Kind :: U4 y40.Set [.slice ub6 y40.L.length ub8, .i y40.Min, .i y40.Max]) 8 0) :: (uar, .row 28 uau (uat * kT27.size) 0) :: (some gx0, .row 69 [.string e0v.s, .i e0v.at_, .i e0v.deep, u49] 4 0) :: Lr) := p11
   refine Goes.rn 1 [] Jhm ?_
   obtain rfl := Option.some.inj h
   have p11 := p11.dp 1
   exact Goes.ret (fn := Tryd.f47) (by kernel_rfl) (v := (ag (.i y40.Kind :: U4 y40.Set [.slice ub6 y40.L.length ub8, .i y40.Min, .i y40.Max]))) (results_n1 (fn := Tryd.f47) (a := .cell 2 28) (by kernel_rfl) (resV_cell ⟨gx2, 0, none⟩ (by kernel_rfl) (run_loadN (.i y40.Kind :: U4 y40.Set [.slice ub6 y40.L.length ub8, .i y40.Min, .i y40.Max]) (by kernel_rfl) (by kernel_rfl) (p11.pa 0 0)))) ⟨S10, ub6, y40.L.length, ub8, u49, rfl, (((hx.trans z9).trans z10).trans z11), p11.drop, ub9, (uba.ext z11), rfl, (u4a.ext ((z9.trans z10).trans z11))⟩
 ·
  intro rec_syntax_parser_atom ih_syntax_parser_atom x0v r h nz wz S0 w0 Lr iG gx0 u4b p0 u4c
  try dsimp only at h
  refine calls_of_goes (fn := Tryd.f66) (c := B66) (by kernel_rfl) (by kernel_rfl) 36 (by kernel_rfl) ?_
  refine Goes.jp 37 [(0, (pt gx0 0))] (fun junk => ?_)
  refine Goes.rn 2 [] Jhp ?_
  refine Op_.alloc 28 2 0 (.agg #[.i 0, .u 0, .u 0, .u 0, .u 0, .slice none 0 0, .i 0, .i 0]) [.i 0, .u 0, .u 0, .u 0, .u 0, .slice none 0 0, .i 0, .i 0] p0 Goes.v (by kernel_rfl) (by kernel_rfl) ?_
  intro b2 w2 z2 p2
  refine Goes.rn 4 [(7, (pt gx0 0))] Jhr ?_
  have p2 := p2.fr 1
  refine bind_some' h fun y4 e5 h => ?_
  refine Goes.cal (kc 78 [7] #[66]) 8 28 78 _ (ih_syntax_parser_atom x0v y4 e5 gx0 u4b p2 (u4c.ext z2)) ?_
  rintro _ w3 ⟨S3, u9z, ua0, ua1, u6t, rfl, z3, p3, ua2, ua3, rfl, u6u⟩
  refine Op_.alloc 28 3 0 (.agg #[.i 0, .u 0, .u 0, .u 0, .u 0, .slice none 0 0, .i 0, .i 0]) [.i 0, .u 0, .u 0, .u 0, .u 0, .slice none 0 0, .i 0, .i 0] p3 Goes.v (by kernel_rfl) (by kernel_rfl) ?_
  intro b6 w4 z4 p4
  refine Op_.st 28 (.tmp 3) (.tmp 8) 0 0 b6 0 (ag (.i y4.1.Kind :: U4 y4.1.Set [.slice u9z y4.1.L.length ua1, .i y4.1.Min, .i y4.1.Max])) (.i y4.1.Kind :: U4 y4.1.Set [.slice u9z y4.1.L.length ua1, .i y4.1.Min, .i y4.1.Max]) p4 rfl Goes.s (by kernel_rfl) (by kernel_rfl) (by kernel_rfl) (by kernel_rfl) (Nat.zero_le _) (by simp only [List.length_cons, List.length_nil]; omega) (by simp [Value.oneCell']) ?_
  intro w5 z5 p5
  have p5 : Hp nz wz S3 w5 ((some b6, .row 28 (.i y4.1.Kind :: U4 y4.1.Set [.slice u9z y4.1.L.length ua1, .i y4.1.Min, .i y4.1.Max]) 8 0) :: (some gx0, .row 69 [.string y4.2.s, .i y4.2.at_, .i y4.2.deep, u6t] 4 0) :: (some b2, .row 28 [.i 0, .u 0, .u 0, .u 0, .u 0, .slice none 0 0, .i 0, .i 0] 8 0) :: Lr) := p5
  refine Goes.rn 12 [(4, .i 1), (5, .i 1), (9, (pt gx0 0)), (10, (pt gx0 0)), (11, (pt gx0 1))] Jhu ?_
  refine Goes.ld 3 (.tmp 11) 12 3 ⟨gx0, 1, none⟩ (.i y4.2.at_) (p5.c 1 1) ?_
  refine Goes.rn 6 [(6, .i y4.2.at_), (15, (pt gx0 0))] Jhx ?_
  have p5 := p5.fr 1
  refine bind_some' h fun y8 e9 h => ?_
  refine Goes.cal (.call { callee := .value (.func 48), args := #[(.tmp 15), (.const (.int .u8 42))], argTypes := #[66, 5] }) 16 4 48 _ (W.z14 y4.2 42 y8 e9 gx0 u6t p5 (u6u.ext (z4.trans z5))) ?_
  rintro _ w6 ⟨S6, u83, rfl, z6, p6, u84⟩
  refine Goes.rn 2 [(14, .bool y8.1)] Jhw ?_
  refine ite_some h (fun h10 h => ?_) (fun h10 h => ?_)
  ·
   rw [h10]
   refine Goes.rn 8 [(4, .i 0), (5, .i (-1))] Jhz ?_
   refine Goes.ldN 28 (.tmp 3) 32 28 ⟨b6, 0, none⟩ (.i y4.1.Kind :: U4 y4.1.Set [.slice u9z y4.1.L.length ua1, .i y4.1.Min, .i y4.1.Max]) (p6.pa 1 0) ?_
   have f12 : Els kT27 S6 w6 ((.i y4.1.Kind :: U4 y4.1.Set [.slice u9z y4.1.L.length ua1, .i y4.1.Min, .i y4.1.Max]) : List Value) [y4.1] := by exact (Els.cons (K := kT27) (vs := (.i y4.1.Kind :: U4 y4.1.Set [.slice u9z y4.1.L.length ua1, .i y4.1.Min, .i y4.1.Max])) (x := y4.1) (kT27_close ⟨[.i y4.1.Kind], (U4 y4.1.Set [.slice u9z y4.1.L.length ua1, .i y4.1.Min, .i y4.1.Max]), rfl, rfl, ⟨(U4 y4.1.Set []), [.slice u9z y4.1.L.length ua1, .i y4.1.Min, .i y4.1.Max], rfl, ⟨ua2, els_mk4 ua2⟩, ⟨[.slice u9z y4.1.L.length ua1], [.i y4.1.Min, .i y4.1.Max], rfl, ⟨_, _, rfl, (ua3.ext ((z4.trans z5).trans z6))⟩, ⟨[.i y4.1.Min], [.i y4.1.Max], rfl, rfl, rfl⟩⟩⟩⟩) Els.nil)
   refine Op_.made (.buildSlice 26 1 #[(0, (.tmp 32))]) 33 26 (fun b => .slice (Gp (some b)) 1 1) 28 ((.i y4.1.Kind :: U4 y4.1.Set [.slice u9z y4.1.L.length ua1, .i y4.1.Min, .i y4.1.Max]) : List Value) p6 Goes.v (by kernel_rfl) ?_
   intro b11 w7 z7 p7
   have p7 : Hp nz wz S6 w7 (((some b11), .row 28 ((.i y4.1.Kind :: U4 y4.1.Set [.slice u9z y4.1.L.length ua1, .i y4.1.Min, .i y4.1.Max]) : List Value) (1 * kT27.size) 0) :: (some gx0, .row 69 [.string y8.2.s, .i y8.2.at_, .i y8.2.deep, u83] 4 0) :: (some b6, .row 28 (.i y4.1.Kind :: U4 y4.1.Set [.slice u9z y4.1.L.length ua1, .i y4.1.Min, .i y4.1.Max]) 8 0) :: (some b2, .row 28 [.i 0, .u 0, .u 0, .u 0, .u 0, .slice none 0 0, .i 0, .i 0] 8 0) :: Lr) := p7
   refine Goes.rn 3 [(34, .i 0), (35, .i (-1)), (36, .agg #[.i 4, .u 0, .u 0, .u 0, .u 0, .slice (Gp (some b11)) 1 1, .i 0, .i (-1)])] Ji0 ?_
   refine Op_.st 28 (.tmp 2) (.tmp 36) 0 3 b2 0 (.agg #[.i 4, .u 0, .u 0, .u 0, .u 0, .slice (Gp (some b11)) 1 1, .i 0, .i (-1)]) [.i 4, .u 0, .u 0, .u 0, .u 0, .slice (Gp (some b11)) 1 1, .i 0, .i (-1)] p7 rfl Goes.s (by kernel_rfl) (by kernel_rfl) (by kernel_rfl) (by kernel_rfl) (Nat.zero_le _) (by simp only [List.length_cons, List.length_nil]; omega) (by simp [Value.oneCell']) ?_
   intro w8 z8 p8
   have p8 : Hp nz wz S6 w8 (((some b11), .row 28 ((.i y4.1.Kind :: U4 y4.1.Set [.slice u9z y4.1.L.length ua1, .i y4.1.Min, .i y4.1.Max]) : List Value) (1 * kT27.size) 0) :: (some gx0, .row 69 [.string y8.2.s, .i y8.2.at_, .i y8.2.deep, u83] 4 0) :: (some b6, .row 28 (.i y4.1.Kind :: U4 y4.1.Set [.slice u9z y4.1.L.length ua1, .i y4.1.Min, .i y4.1.Max]) 8 0) :: (some b2, .row 28 [.i 4, .u 0, .u 0, .u 0, .u 0, .slice (Gp (some b11)) 1 1, .i 0, .i (-1)] 8 0) :: Lr) := p8
   refine Goes.rn 1 [] Jhy ?_
   obtain ⟨S9, z9, p9, f14⟩ := p8.freezeRd 0 rfl (f12.ext (z7.trans z8)) (by decide)
   obtain rfl := Option.some.inj h
   have p9 := (p9.dp 0).dp 1
   have p9 := (p9.fr 0).fr 1
   exact Goes.ret (fn := Tryd.f66) (by kernel_rfl) (v := .agg #[.i 4, .u 0, .u 0, .u 0, .u 0, .slice (Gp (some b11)) 1 1, .i 0, .i (-1)]) (results_n1 (fn := Tryd.f66) (a := .cell 2 28) (by kernel_rfl) (resV_cell ⟨b2, 0, none⟩ (by kernel_rfl) (run_loadN [.i 4, .u 0, .u 0, .u 0, .u 0, .slice (Gp (some b11)) 1 1, .i 0, .i (-1)] (by kernel_rfl) (by kernel_rfl) (p9.pa 0 0)))) ⟨S9, (Gp (some b11)), 1, 1, u83, rfl, (((((((((Ext.refl S0 w0).trans z2).trans z3).trans z4).trans z5).trans z6).trans z7).trans z8).trans z9), p9.drop, rfl, f14, rfl, (u84.ext ((z7.trans z8).trans z9))⟩
  ·
   have ubh : y8.1 = false := by simpa using h10
   rw [ubh]
   refine Goes.rn 4 [(18, (pt gx0 0))] Ji2 ?_
   refine bind_some' h fun y15 e16 h => ?_
   refine Goes.cal (.call { callee := .value (.func 48), args := #[(.tmp 18), (.const (.int .u8 43))], argTypes := #[66, 5] }) 19 4 48 _ (W.z14 y8.2 43 y15 e16 gx0 u83 p6 u84) ?_
   rintro _ w10 ⟨S10, u6z, rfl, z10, p10, u70⟩
   refine Goes.rn 2 [(17, .bool y15.1)] Ji1 ?_
   refine ite_some h (fun h17 h => ?_) (fun h17 h => ?_)
   ·
    rw [h17]
    refine Goes.rn 7 [(5, .i (-1))] Jhz ?_
    refine Goes.ldN 28 (.tmp 3) 32 28 ⟨b6, 0, none⟩ (.i y4.1.Kind :: U4 y4.1.Set [.slice u9z y4.1.L.length ua1, .i y4.1.Min, .i y4.1.Max]) (p10.pa 1 0) ?_
    have f19 : Els kT27 S10 w10 ((.i y4.1.Kind :: U4 y4.1.Set [.slice u9z y4.1.L.length ua1, .i y4.1.Min, .i y4.1.Max]) : List Value) [y4.1] := by exact (Els.cons (K := kT27) (vs := (.i y4.1.Kind :: U4 y4.1.Set [.slice u9z y4.1.L.length ua1, .i y4.1.Min, .i y4.1.Max])) (x := y4.1) (kT27_close ⟨[.i y4.1.Kind], (U4 y4.1.Set [.slice u9z y4.1.L.length ua1, .i y4.1.Min, .i y4.1.Max]), rfl, rfl, ⟨(U4 y4.1.Set []), [.slice u9z y4.1.L.length ua1, .i y4.1.Min, .i y4.1.Max], rfl, ⟨ua2, els_mk4 ua2⟩, ⟨[.slice u9z y4.1.L.length ua1], [.i y4.1.Min, .i y4.1.Max], rfl, ⟨_, _, rfl, (ua3.ext (((z4.trans z5).trans z6).trans z10))⟩, ⟨[.i y4.1.Min], [.i y4.1.Max], rfl, rfl, rfl⟩⟩⟩⟩) Els.nil)
    refine Op_.made (.buildSlice 26 1 #[(0, (.tmp 32))]) 33 26 (fun b => .slice (Gp (some b)) 1 1) 28 ((.i y4.1.Kind :: U4 y4.1.Set [.slice u9z y4.1.L.length ua1, .i y4.1.Min, .i y4.1.Max]) : List Value) p10 Goes.v (by kernel_rfl) ?_
    intro b18 w11 z11 p11
    have p11 : Hp nz wz S10 w11 (((some b18), .row 28 ((.i y4.1.Kind :: U4 y4.1.Set [.slice u9z y4.1.L.length ua1, .i y4.1.Min, .i y4.1.Max]) : List Value) (1 * kT27.size) 0) :: (some gx0, .row 69 [.string y15.2.s, .i y15.2.at_, .i y15.2.deep, u6z] 4 0) :: (some b6, .row 28 (.i y4.1.Kind :: U4 y4.1.Set [.slice u9z y4.1.L.length ua1, .i y4.1.Min, .i y4.1.Max]) 8 0) :: (some b2, .row 28 [.i 0, .u 0, .u 0, .u 0, .u 0, .slice none 0 0, .i 0, .i 0] 8 0) :: Lr) := p11
    refine Goes.rn 3 [(34, .i 1), (35, .i (-1)), (36, .agg #[.i 4, .u 0, .u 0, .u 0, .u 0, .slice (Gp (some b18)) 1 1, .i 1, .i (-1)])] Ji0 ?_
    refine Op_.st 28 (.tmp 2) (.tmp 36) 0 3 b2 0 (.agg #[.i 4, .u 0, .u 0, .u 0, .u 0, .slice (Gp (some b18)) 1 1, .i 1, .i (-1)]) [.i 4, .u 0, .u 0, .u 0, .u 0, .slice (Gp (some b18)) 1 1, .i 1, .i (-1)] p11 rfl Goes.s (by kernel_rfl) (by kernel_rfl) (by kernel_rfl) (by kernel_rfl) (Nat.zero_le _) (by simp only [List.length_cons, List.length_nil]; omega) (by simp [Value.oneCell']) ?_
    intro w12 z12 p12
    have p12 : Hp nz wz S10 w12 (((some b18), .row 28 ((.i y4.1.Kind :: U4 y4.1.Set [.slice u9z y4.1.L.length ua1, .i y4.1.Min, .i y4.1.Max]) : List Value) (1 * kT27.size) 0) :: (some gx0, .row 69 [.string y15.2.s, .i y15.2.at_, .i y15.2.deep, u6z] 4 0) :: (some b6, .row 28 (.i y4.1.Kind :: U4 y4.1.Set [.slice u9z y4.1.L.length ua1, .i y4.1.Min, .i y4.1.Max]) 8 0) :: (some b2, .row 28 [.i 4, .u 0, .u 0, .u 0, .u 0, .slice (Gp (some b18)) 1 1, .i 1, .i (-1)] 8 0) :: Lr) := p12
    refine Goes.rn 1 [] Jhy ?_
    obtain ⟨S13, z13, p13, f21⟩ := p12.freezeRd 0 rfl (f19.ext (z11.trans z12)) (by decide)
    obtain rfl := Option.some.inj h
    have p13 := (p13.dp 0).dp 1
    have p13 := (p13.fr 0).fr 1
    exact Goes.ret (fn := Tryd.f66) (by kernel_rfl) (v := .agg #[.i 4, .u 0, .u 0, .u 0, .u 0, .slice (Gp (some b18)) 1 1, .i 1, .i (-1)]) (results_n1 (fn := Tryd.f66) (a := .cell 2 28) (by kernel_rfl) (resV_cell ⟨b2, 0, none⟩ (by kernel_rfl) (run_loadN [.i 4, .u 0, .u 0, .u 0, .u 0, .slice (Gp (some b18)) 1 1, .i 1, .i (-1)] (by kernel_rfl) (by kernel_rfl) (p13.pa 0 0)))) ⟨S13, (Gp (some b18)), 1, 1, u6z, rfl, ((((((((((Ext.refl S0 w0).trans z2).trans z3).trans z4).trans z5).trans z6).trans z10).trans z11).trans z12).trans z13), p13.drop, rfl, f21, rfl, (u70.ext ((z11.trans z12).trans z13))⟩
   ·
    have ubi : y15.1 = false := by simpa using h17
    rw [ubi]
    refine Goes.rn 4 [(21, (pt gx0 0))] Ji4 ?_
    refine bind_some' h fun y22 e23 h => ?_
    refine Goes.cal (.call { callee := .value (.func 48), args := #[(.tmp 21), (.const (.int .u8 63))], argTypes := #[66, 5] }) 22 4 48 _ (W.z14 y15.2 63 y22 e23 gx0 u6z p10 u70) ?_
    rintro _ w14 ⟨S14, ubj, rfl, z14, p14, ubk⟩
    refine Goes.rn 2 [(20, .bool y22.1)] Ji3 ?_
    refine ite_some h (fun h24 h => ?_) (fun h24 h => ?_)
    ·
     rw [h24]
     refine Goes.rn 7 [(4, .i 0)] Jhz ?_
     refine Goes.ldN 28 (.tmp 3) 32 28 ⟨b6, 0, none⟩ (.i y4.1.Kind :: U4 y4.1.Set [.slice u9z y4.1.L.length ua1, .i y4.1.Min, .i y4.1.Max]) (p14.pa 1 0) ?_
     have f26 : Els kT27 S14 w14 ((.i y4.1.Kind :: U4 y4.1.Set [.slice u9z y4.1.L.length ua1, .i y4.1.Min, .i y4.1.Max]) : List Value) [y4.1] := by exact (Els.cons (K := kT27) (vs := (.i y4.1.Kind :: U4 y4.1.Set [.slice u9z y4.1.L.length ua1, .i y4.1.Min, .i y4.1.Max])) (x := y4.1) (kT27_close ⟨[.i y4.1.Kind], (U4 y4.1.Set [.slice u9z y4.1.L.length ua1, .i y4.1.Min, .i y4.1.Max]), rfl, rfl, ⟨(U4 y4.1.Set []), [.slice u9z y4.1.L.length ua1, .i y4.1.Min, .i y4.1.Max], rfl, ⟨ua2, els_mk4 ua2⟩, ⟨[.slice u9z y4.1.L.length ua1], [.i y4.1.Min, .i y4.1.Max], rfl, ⟨_, _, rfl, (ua3.ext ((((z4.trans z5).trans z6).trans z10).trans z14))⟩, ⟨[.i y4.1.Min], [.i y4.1.Max], rfl, rfl, rfl⟩⟩⟩⟩) Els.nil)
     refine Op_.made (.buildSlice 26 1 #[(0, (.tmp 32))]) 33 26 (fun b => .slice (Gp (some b)) 1 1) 28 ((.i y4.1.Kind :: U4 y4.1.Set [.slice u9z y4.1.L.length ua1, .i y4.1.Min, .i y4.1.Max]) : List Value) p14 Goes.v (by kernel_rfl) ?_
     intro b25 w15 z15 p15
     have p15 : Hp nz wz S14 w15 (((some b25), .row 28 ((.i y4.1.Kind :: U4 y4.1.Set [.slice u9z y4.1.L.length ua1, .i y4.1.Min, .i y4.1.Max]) : List Value) (1 * kT27.size) 0) :: (some gx0, .row 69 [.string y22.2.s, .i y22.2.at_, .i y22.2.deep, ubj] 4 0) :: (some b6, .row 28 (.i y4.1.Kind :: U4 y4.1.Set [.slice u9z y4.1.L.length ua1, .i y4.1.Min, .i y4.1.Max]) 8 0) :: (some b2, .row 28 [.i 0, .u 0, .u 0, .u 0, .u 0, .slice none 0 0, .i 0, .i 0] 8 0) :: Lr) := p15
     refine Goes.rn 3 [(34, .i 0), (35, .i 1), (36, .agg #[.i 4, .u 0, .u 0, .u 0, .u 0, .slice (Gp (some b25)) 1 1, .i 0, .i 1])] Ji0 ?_
     refine Op_.st 28 (.tmp 2) (.tmp 36) 0 3 b2 0 (.agg #[.i 4, .u 0, .u 0, .u 0, .u 0, .slice (Gp (some b25)) 1 1, .i 0, .i 1]) [.i 4, .u 0, .u 0, .u 0, .u 0, .slice (Gp (some b25)) 1 1, .i 0, .i 1] p15 rfl Goes.s (by kernel_rfl) (by kernel_rfl) (by kernel_rfl) (by kernel_rfl) (Nat.zero_le _) (by simp only [List.length_cons, List.length_nil]; omega) (by simp [Value.oneCell']) ?_
     intro w16 z16 p16
     have p16 : Hp nz wz S14 w16 (((some b25), .row 28 ((.i y4.1.Kind :: U4 y4.1.Set [.slice u9z y4.1.L.length ua1, .i y4.1.Min, .i y4.1.Max]) : List Value) (1 * kT27.size) 0) :: (some gx0, .row 69 [.string y22.2.s, .i y22.2.at_, .i y22.2.deep, ubj] 4 0) :: (some b6, .row 28 (.i y4.1.Kind :: U4 y4.1.Set [.slice u9z y4.1.L.length ua1, .i y4.1.Min, .i y4.1.Max]) 8 0) :: (some b2, .row 28 [.i 4, .u 0, .u 0, .u 0, .u 0, .slice (Gp (some b25)) 1 1, .i 0, .i 1] 8 0) :: Lr) := p16
     refine Goes.rn 1 [] Jhy ?_
     obtain ⟨S17, z17, p17, f28⟩ := p16.freezeRd 0 rfl (f26.ext (z15.trans z16)) (by decide)
     obtain rfl := Option.some.inj h
     have p17 := (p17.dp 0).dp 1
     have p17 := (p17.fr 0).fr 1
     exact Goes.ret (fn := Tryd.f66) (by kernel_rfl) (v := .agg #[.i 4, .u 0, .u 0, .u 0, .u 0, .slice (Gp (some b25)) 1 1, .i 0, .i 1]) (results_n1 (fn := Tryd.f66) (a := .cell 2 28) (by kernel_rfl) (resV_cell ⟨b2, 0, none⟩ (by kernel_rfl) (run_loadN [.i 4, .u 0, .u 0, .u 0, .u 0, .slice (Gp (some b25)) 1 1, .i 0, .i 1] (by kernel_rfl) (by kernel_rfl) (p17.pa 0 0)))) ⟨S17, (Gp (some b25)), 1, 1, ubj, rfl, (((((((((((Ext.refl S0 w0).trans z2).trans z3).trans z4).trans z5).trans z6).trans z10).trans z14).trans z15).trans z16).trans z17), p17.drop, rfl, f28, rfl, (ubk.ext ((z15.trans z16).trans z17))⟩
    ·
     have ubl : y22.1 = false := by simpa using h24
     rw [ubl]
     refine Goes.rn 4 [(24, (pt gx0 0))] Ji6 ?_
     refine bind_some' h fun y29 e30 h => ?_
     refine Goes.cal (.call { callee := .value (.func 48), args := #[(.tmp 24), (.const (.int .u8 123))], argTypes := #[66, 5] }) 25 4 48 _ (W.z14 y22.2 123 y29 e30 gx0 ubj p14 ubk) ?_
     rintro _ w18 ⟨S18, ubm, rfl, z18, p18, ubn⟩
     refine Goes.rn 2 [(23, .bool y29.1)] Ji5 ?_
     refine ite_some h (fun h31 h => ?_) (fun h31 h => ?_)
     ·
      rw [h31]
      refine Goes.rn 4 [(27, (pt gx0 0)), (28, .i y4.2.at_)] Ji7 ?_
      refine bind_some' h fun y32 e33 h => ?_
      refine Goes.cal (kc 79 [27, 28] #[66, 3]) 29 104 79 _ (W.z23 y29.2 y4.2.at_ y32 e33 gx0 ubm p18 ubn) ?_
      rintro _ w19 ⟨S19, u7y, rfl, z19, p19, u81⟩
      refine Goes.rn 9 [(26, .tuple #[.i y32.1, .i y32.2.1]), (30, .i y32.1), (31, .i y32.2.1), (4, .i y32.1), (5, .i y32.2.1)] Jhz ?_
      refine Goes.ldN 28 (.tmp 3) 32 28 ⟨b6, 0, none⟩ (.i y4.1.Kind :: U4 y4.1.Set [.slice u9z y4.1.L.length ua1, .i y4.1.Min, .i y4.1.Max]) (p19.pa 1 0) ?_
      have f35 : Els kT27 S19 w19 ((.i y4.1.Kind :: U4 y4.1.Set [.slice u9z y4.1.L.length ua1, .i y4.1.Min, .i y4.1.Max]) : List Value) [y4.1] := by exact (Els.cons (K := kT27) (vs := (.i y4.1.Kind :: U4 y4.1.Set [.slice u9z y4.1.L.length ua1, .i y4.1.Min, .i y4.1.Max])) (x := y4.1) (kT27_close ⟨[.i y4.1.Kind], (U4 y4.1.Set [.slice u9z y4.1.L.length ua1, .i y4.1.Min, .i y4.1.Max]), rfl, rfl, ⟨(U4 y4.1.Set []), [.slice u9z y4.1.L.length ua1, .i y4.1.Min, .i y4.1.Max], rfl, ⟨ua2, els_mk4 ua2⟩, ⟨[.slice u9z y4.1.L.length ua1], [.i y4.1.Min, .i y4.1.Max], rfl, ⟨_, _, rfl, (ua3.ext ((((((z4.trans z5).trans z6).trans z10).trans z14).trans z18).trans z19))⟩, ⟨[.i y4.1.Min], [.i y4.1.Max], rfl, rfl, rfl⟩⟩⟩⟩) Els.nil)
      refine Op_.made (.buildSlice 26 1 #[(0, (.tmp 32))]) 33 26 (fun b => .slice (Gp (some b)) 1 1) 28 ((.i y4.1.Kind :: U4 y4.1.Set [.slice u9z y4.1.L.length ua1, .i y4.1.Min, .i y4.1.Max]) : List Value) p19 Goes.v (by kernel_rfl) ?_
      intro b34 w20 z20 p20
      have p20 : Hp nz wz S19 w20 (((some b34), .row 28 ((.i y4.1.Kind :: U4 y4.1.Set [.slice u9z y4.1.L.length ua1, .i y4.1.Min, .i y4.1.Max]) : List Value) (1 * kT27.size) 0) :: (some gx0, .row 69 [.string y32.2.2.s, .i y32.2.2.at_, .i y32.2.2.deep, u7y] 4 0) :: (some b6, .row 28 (.i y4.1.Kind :: U4 y4.1.Set [.slice u9z y4.1.L.length ua1, .i y4.1.Min, .i y4.1.Max]) 8 0) :: (some b2, .row 28 [.i 0, .u 0, .u 0, .u 0, .u 0, .slice none 0 0, .i 0, .i 0] 8 0) :: Lr) := p20
      refine Goes.rn 3 [(34, .i y32.1), (35, .i y32.2.1), (36, .agg #[.i 4, .u 0, .u 0, .u 0, .u 0, .slice (Gp (some b34)) 1 1, .i y32.1, .i y32.2.1])] Ji0 ?_
      refine Op_.st 28 (.tmp 2) (.tmp 36) 0 3 b2 0 (.agg #[.i 4, .u 0, .u 0, .u 0, .u 0, .slice (Gp (some b34)) 1 1, .i y32.1, .i y32.2.1]) [.i 4, .u 0, .u 0, .u 0, .u 0, .slice (Gp (some b34)) 1 1, .i y32.1, .i y32.2.1] p20 rfl Goes.s (by kernel_rfl) (by kernel_rfl) (by kernel_rfl) (by kernel_rfl) (Nat.zero_le _) (by simp only [List.length_cons, List.length_nil]; omega) (by simp [Value.oneCell']) ?_
      intro w21 z21 p21
      have p21 : Hp nz wz S19 w21 (((some b34), .row 28 ((.i y4.1.Kind :: U4 y4.1.Set [.slice u9z y4.1.L.length ua1, .i y4.1.Min, .i y4.1.Max]) : List Value) (1 * kT27.size) 0) :: (some gx0, .row 69 [.string y32.2.2.s, .i y32.2.2.at_, .i y32.2.2.deep, u7y] 4 0) :: (some b6, .row 28 (.i y4.1.Kind :: U4 y4.1.Set [.slice u9z y4.1.L.length ua1, .i y4.1.Min, .i y4.1.Max]) 8 0) :: (some b2, .row 28 [.i 4, .u 0, .u 0, .u 0, .u 0, .slice (Gp (some b34)) 1 1, .i y32.1, .i y32.2.1] 8 0) :: Lr) := p21
      refine Goes.rn 1 [] Jhy ?_
      obtain ⟨S22, z22, p22, f37⟩ := p21.freezeRd 0 rfl (f35.ext (z20.trans z21)) (by decide)
      obtain rfl := Option.some.inj h
      have p22 := (p22.dp 0).dp 1
      have p22 := (p22.fr 0).fr 1
      exact Goes.ret (fn := Tryd.f66) (by kernel_rfl) (v := .agg #[.i 4, .u 0, .u 0, .u 0, .u 0, .slice (Gp (some b34)) 1 1, .i y32.1, .i y32.2.1]) (results_n1 (fn := Tryd.f66) (a := .cell 2 28) (by kernel_rfl) (resV_cell ⟨b2, 0, none⟩ (by kernel_rfl) (run_loadN [.i 4, .u 0, .u 0, .u 0, .u 0, .slice (Gp (some b34)) 1 1, .i y32.1, .i y32.2.1] (by kernel_rfl) (by kernel_rfl) (p22.pa 0 0)))) ⟨S22, (Gp (some b34)), 1, 1, u7y, rfl, (((((((((((((Ext.refl S0 w0).trans z2).trans z3).trans z4).trans z5).trans z6).trans z10).trans z14).trans z18).trans z19).trans z20).trans z21).trans z22), p22.drop, rfl, f37, rfl, (u81.ext ((z20.trans z21).trans z22))⟩
     ·
      have ubo : y29.1 = false := by simpa using h31
      rw [ubo]
      refine Goes.rn 3 [] Ji9 ?_
      refine Goes.ldN 28 (.tmp 3) 13 28 ⟨b6, 0, none⟩ (.i y4.1.Kind :: U4 y4.1.Set [.slice u9z y4.1.L.length ua1, .i y4.1.Min, .i y4.1.Max]) (p18.pa 1 0) ?_
      refine Op_.st 28 (.tmp 2) (.tmp 13) 0 2 b2 0 (ag (.i y4.1.Kind :: U4 y4.1.Set [.slice u9z y4.1.L.length ua1, .i y4.1.Min, .i y4.1.Max])) (.i y4.1.Kind :: U4 y4.1.Set [.slice u9z y4.1.L.length ua1, .i y4.1.Min, .i y4.1.Max]) p18 rfl Goes.s (by kernel_rfl) (by kernel_rfl) (by kernel_rfl) (by kernel_rfl) (Nat.zero_le _) (by simp only [List.length_cons, List.length_nil]; omega) (by simp [Value.oneCell']) ?_
      intro w23 z23 p23
      have p23 : Hp nz wz S18 w23 ((some gx0, .row 69 [.string y29.2.s, .i y29.2.at_, .i y29.2.deep, ubm] 4 0) :: (some b6, .row 28 (.i y4.1.Kind :: U4 y4.1.Set [.slice u9z y4.1.L.length ua1, .i y4.1.Min, .i y4.1.Max]) 8 0) :: (some b2, .row 28 (.i y4.1.Kind :: U4 y4.1.Set [.slice u9z y4.1.L.length ua1, .i y4.1.Min, .i y4.1.Max]) 8 0) :: Lr) := p23
      refine Goes.rn 1 [] Ji8 ?_
      obtain rfl := Option.some.inj h
      have p23 := p23.dp 1
      have p23 := (p23.fr 0).fr 1
      exact Goes.ret (fn := Tryd.f66) (by kernel_rfl) (v := (ag (.i y4.1.Kind :: U4 y4.1.Set [.slice u9z y4.1.L.length ua1, .i y4.1.Min, .i y4.1.Max]))) (results_n1 (fn := Tryd.f66) (a := .cell 2 28) (by kernel_rfl) (resV_cell ⟨b2, 0, none⟩ (by kernel_rfl) (run_loadN (.i y4.1.Kind :: U4 y4.1.Set [.slice u9z y4.1.L.length ua1, .i y4.1.Min, .i y4.1.Max]) (by kernel_rfl) (by kernel_rfl) (p23.pa 0 0)))) ⟨S18, u9z, y4.1.L.length, ua1, ubm, rfl, ((((((((((Ext.refl S0 w0).trans z2).trans z3).trans z4).trans z5).trans z6).trans z10).trans z14).trans z18).trans z23), p23.drop, ua2, (ua3.ext ((((((z4.trans z5).trans z6).trans z10).trans z14).trans z18).trans z23)), rfl, (ubn.ext z23)⟩
 ·
  intro ubp ubq x0v r h nz wz S0 w0 Lr iG gx0 u4b p0 u4c
  try dsimp only at h
  refine calls_of_goes (fn := Tryd.f78) (c := B78) (by kernel_rfl) (by kernel_rfl) 72 (by kernel_rfl) ?_
  refine Goes.jp 73 [(0, (pt gx0 0))] (fun junk => ?_)
  refine Goes.rn 2 [] Jib ?_
  refine Op_.alloc 28 2 0 (.agg #[.i 0, .u 0, .u 0, .u 0, .u 0, .slice none 0 0, .i 0, .i 0]) [.i 0, .u 0, .u 0, .u 0, .u 0, .slice none 0 0, .i 0, .i 0] p0 Goes.v (by kernel_rfl) (by kernel_rfl) ?_
  intro b2 w2 z2 p2
  refine Goes.rn 4 [(4, (pt gx0 0))] Jid ?_
  have p2 := p2.fr 1
  refine bind_some' h fun y4 e5 h => ?_
  refine Goes.cal (kc 65 [4] #[66]) 5 5 65 _ (W.z11 x0v y4 e5 gx0 u4b p2 (u4c.ext z2)) ?_
  rintro _ w3 ⟨S3, u6t, rfl, z3, p3, u6u⟩
  refine Goes.rn 9 [(3, .int .u8 y4.1), (7, .int .u8 y4.1), (8, .bool (decide (y4.1 < 32))), (9, .bool (decide (y4.1 < 32)))] Jie ?_
  refine ite_some h (fun h6 h => ?_) (fun h6 h => ?_)
  ·
   rw [decide_eq_true h6]
   refine Goes.rn 10 [(10, undef), (11, undef), (12, .bool true), (13, .bool true), (14, undef), (15, undef), (16, undef), (17, .bool true), (6, .bool true)] Jgz ?_
   have p3 : Hp nz wz S3 w3 ((none, .row 28 [] (0 * kT27.size) 0) :: (some gx0, .row 69 [.string y4.2.s, .i y4.2.at_, .i y4.2.deep, u6t] 4 0) :: (some b2, .row 28 [.i 0, .u 0, .u 0, .u 0, .u 0, .slice none 0 0, .i 0, .i 0] 8 0) :: Lr) := p3.nilRow' 28
   have p3 := ((p3.fr 1).fr 1).fr 2
   exact Goes.jp 73 [(0, (pt gx0 0)), (2, (pt b2 0)), (3, .int .u8 y4.1), (6, .bool true)] (ubq _ _ h gx0 _ _ (((Ext.refl S0 w0).trans z2).trans z3) b2 none 0 0 [] u6t p3 rfl (Els.nil (K := kT27)) rfl u6u)
  ·
   rw [decide_eq_false h6]
   refine Goes.rn 4 [(10, .int .u8 y4.1), (11, .bool (decide (y4.1 > 126))), (12, .bool (decide (y4.1 > 126))), (13, .bool (decide (y4.1 > 126)))] Jif ?_
   refine ite_some h (fun h10 h => ?_) (fun h10 h => ?_)
   ·
    rw [decide_eq_true h10]
    refine Goes.rn 6 [(14, undef), (15, undef), (16, undef), (17, .bool true), (6, .bool true)] Jgz ?_
    have p3 : Hp nz wz S3 w3 ((none, .row 28 [] (0 * kT27.size) 0) :: (some gx0, .row 69 [.string y4.2.s, .i y4.2.at_, .i y4.2.deep, u6t] 4 0) :: (some b2, .row 28 [.i 0, .u 0, .u 0, .u 0, .u 0, .slice none 0 0, .i 0, .i 0] 8 0) :: Lr) := p3.nilRow' 28
    have p3 := ((p3.fr 1).fr 1).fr 2
    exact Goes.jp 73 [(0, (pt gx0 0)), (2, (pt b2 0)), (3, .int .u8 y4.1), (6, .bool true)] (ubq _ _ h gx0 _ _ (((Ext.refl S0 w0).trans z2).trans z3) b2 none 0 0 [] u6t p3 rfl (Els.nil (K := kT27)) rfl u6u)
   ·
    rw [decide_eq_false h10]
    refine Goes.rn 1 [(14, .int .u8 y4.1)] Jig ?_
    refine bind_some' h fun y12 e13 h => ?_
    refine Goes.cal (.call { callee := .value (.func 45), args := #[(.const (.string ⟨#[93, 41, 42, 43, 63, 123, 125, 94, 36, 124]⟩)), (.tmp 14)], argTypes := #[9, 5] }) 15 3 45 _ (W.z1j (⟨#[93, 41, 42, 43, 63, 123, 125, 94, 36, 124]⟩ : ByteArray) y4.1 y12 e13  p3 ) ?_
    rintro _ w4 ⟨S4, rfl, z4, p4⟩
    refine Goes.rn 4 [(16, .bool (decide (y12 ≥ 0))), (17, .bool (decide (y12 ≥ 0))), (6, .bool (decide (y12 ≥ 0)))] Jgz ?_
    have p4 : Hp nz wz S4 w4 ((none, .row 28 [] (0 * kT27.size) 0) :: (some gx0, .row 69 [.string y4.2.s, .i y4.2.at_, .i y4.2.deep, u6t] 4 0) :: (some b2, .row 28 [.i 0, .u 0, .u 0, .u 0, .u 0, .slice none 0 0, .i 0, .i 0] 8 0) :: Lr) := p4.nilRow' 28
    have p4 := ((p4.fr 1).fr 1).fr 2
    exact Goes.jp 73 [(0, (pt gx0 0)), (2, (pt b2 0)), (3, .int .u8 y4.1), (6, .bool (decide (y12 ≥ 0)))] (ubq _ _ h gx0 _ _ ((((Ext.refl S0 w0).trans z2).trans z3).trans z4) b2 none 0 0 [] u6t p4 rfl (Els.nil (K := kT27)) rfl (u6u.ext z4))
 ·
  intro ubr ubs ⟨x2v, x3, x6, e0v⟩ r h nz wz S0 w0 Lr iG gx0 S1 w1 hx gx2 uar uas uat uau u49 p1 uax uay uaz u4a junk
  try dsimp only at h
  subst uaz
  refine ite_some h (fun h15 h => ?_) (fun h15 h => ?_)
  ·
   rw [h15]
   refine Goes.rn 7 [(18, (pt gx0 0)), (19, (pt gx0 0)), (20, (pt gx0 0)), (21, (pt gx0 1))] Jii ?_
   refine Goes.ld 3 (.tmp 21) 22 3 ⟨gx0, 1, none⟩ (.i e0v.at_) (p1.c 2 1) ?_
   have p1 := p1.fr 2
   refine bind_some' h fun y16 e17 h => ?_
   refine Goes.cal (kc 31 [18, 22] #[66, 3]) 23 28 31 _ (W.z13 e0v e0v.at_ y16 e17 gx0 u49 p1 u4a) ?_
   rintro _ w5 ⟨S5, ubt, ubu, ubv, u7f, rfl, z5, p5, ubw, ubx, rfl, u7h⟩
   refine Op_.st 28 (.tmp 2) (.tmp 23) 0 1 gx2 0 (ag (.i y16.1.Kind :: U4 y16.1.Set [.slice ubt y16.1.L.length ubv, .i y16.1.Min, .i y16.1.Max])) (.i y16.1.Kind :: U4 y16.1.Set [.slice ubt y16.1.L.length ubv, .i y16.1.Min, .i y16.1.Max]) p5 rfl Goes.s (by kernel_rfl) (by kernel_rfl) (by kernel_rfl) (by kernel_rfl) (Nat.zero_le _) (by simp only [List.length_cons, List.length_nil]; omega) (by simp [Value.oneCell']) ?_
   intro w6 z6 p6
   have p6 : Hp nz wz S5 w6 ((some gx0, .row 69 [.string y16.2.s, .i y16.2.at_, .i y16.2.deep, u7f] 4 0) :: (some gx2, .row 28 (.i y16.1.Kind :: U4 y16.1.Set [.slice ubt y16.1.L.length ubv, .i y16.1.Min, .i y16.1.Max]) 8 0) :: (uar, .row 28 uau (uat * kT27.size) 0) :: Lr) := p6
   refine Goes.rn 1 [] Jih ?_
   obtain rfl := Option.some.inj h
   have p6 := p6.dp 2
   have p6 := (p6.fr 0).fr 1
   exact Goes.ret (fn := Tryd.f78) (by kernel_rfl) (v := (ag (.i y16.1.Kind :: U4 y16.1.Set [.slice ubt y16.1.L.length ubv, .i y16.1.Min, .i y16.1.Max]))) (results_n1 (fn := Tryd.f78) (a := .cell 2 28) (by kernel_rfl) (resV_cell ⟨gx2, 0, none⟩ (by kernel_rfl) (run_loadN (.i y16.1.Kind :: U4 y16.1.Set [.slice ubt y16.1.L.length ubv, .i y16.1.Min, .i y16.1.Max]) (by kernel_rfl) (by kernel_rfl) (p6.pa 0 0)))) ⟨S5, ubt, y16.1.L.length, ubv, u7f, rfl, ((hx.trans z5).trans z6), p6.drop, ubw, (ubx.ext z6), rfl, (u7h.ext z6)⟩
  ·
   have ub : x6 = false := by simpa using h15
   rw [ub]
   refine Goes.rn 6 [(25, .int .u8 x3), (26, .bool (decide (x3 = 40))), (27, .bool (decide (x3 = 40)))] Jij ?_
   refine ite_some h (fun h18 h => ?_) (fun h18 h => ?_)
   ·
    rw [decide_eq_true h18]
    refine Goes.rn 3 [(28, (pt gx0 0)), (29, (pt gx0 0)), (30, (pt gx0 2))] Jik ?_
    refine Goes.ld 3 (.tmp 30) 31 3 ⟨gx0, 2, none⟩ (.i e0v.deep) (p1.c 2 2) ?_
    refine Goes.rn 4 [(32, .bool (decide (e0v.deep = 32))), (33, .bool (decide (e0v.deep = 32))), (24, .bool (decide (e0v.deep = 32)))] Jh0 ?_
    exact Goes.jp 73 [(0, (pt gx0 0)), (2, (pt gx2 0)), (3, .int .u8 x3), (24, .bool (decide (e0v.deep = 32)))] (ubs _ _ h gx0 _ _ hx gx2 uar x2v.L.length uat uau u49 p1 uax uay rfl u4a)
   ·
    rw [decide_eq_false h18]
    refine Goes.rn 8 [(28, undef), (29, undef), (30, undef), (31, undef), (32, undef), (33, .bool false), (24, .bool false)] Jh0 ?_
    exact Goes.jp 73 [(0, (pt gx0 0)), (2, (pt gx2 0)), (3, .int .u8 x3), (24, .bool false)] (ubs _ _ h gx0 _ _ hx gx2 uar x2v.L.length uat uau u49 p1 uax uay rfl u4a)
 ·
  intro rec_syntax_parser_group ih_syntax_parser_group ⟨x2v, x3, x24, e0v⟩ r h nz wz S0 w0 Lr iG gx0 S1 w1 hx gx2 uar uas uat uau u49 p1 uax uay uaz u4a junk
  try dsimp only at h
  subst uaz
  refine ite_some h (fun h21 h => ?_) (fun h21 h => ?_)
  ·
   rw [h21]
   refine Goes.rn 7 [(34, (pt gx0 0)), (35, (pt gx0 0)), (36, (pt gx0 0)), (37, (pt gx0 1))] Jim ?_
   refine Goes.ld 3 (.tmp 37) 38 3 ⟨gx0, 1, none⟩ (.i e0v.at_) (p1.c 2 1) ?_
   have p1 := p1.fr 2
   refine bind_some' h fun y22 e23 h => ?_
   refine Goes.cal (kc 31 [34, 38] #[66, 3]) 39 28 31 _ (W.z13 e0v e0v.at_ y22 e23 gx0 u49 p1 u4a) ?_
   rintro _ w7 ⟨S7, uaf, uag, uah, ua9, rfl, z7, p7, uai, uaj, rfl, uaa⟩
   refine Op_.st 28 (.tmp 2) (.tmp 39) 0 1 gx2 0 (ag (.i y22.1.Kind :: U4 y22.1.Set [.slice uaf y22.1.L.length uah, .i y22.1.Min, .i y22.1.Max])) (.i y22.1.Kind :: U4 y22.1.Set [.slice uaf y22.1.L.length uah, .i y22.1.Min, .i y22.1.Max]) p7 rfl Goes.s (by kernel_rfl) (by kernel_rfl) (by kernel_rfl) (by kernel_rfl) (Nat.zero_le _) (by simp only [List.length_cons, List.length_nil]; omega) (by simp [Value.oneCell']) ?_
   intro w8 z8 p8
   have p8 : Hp nz wz S7 w8 ((some gx0, .row 69 [.string y22.2.s, .i y22.2.at_, .i y22.2.deep, ua9] 4 0) :: (some gx2, .row 28 (.i y22.1.Kind :: U4 y22.1.Set [.slice uaf y22.1.L.length uah, .i y22.1.Min, .i y22.1.Max]) 8 0) :: (uar, .row 28 uau (uat * kT27.size) 0) :: Lr) := p8
   refine Goes.rn 1 [] Jil ?_
   obtain rfl := Option.some.inj h
   have p8 := p8.dp 2
   have p8 := (p8.fr 0).fr 1
   exact Goes.ret (fn := Tryd.f78) (by kernel_rfl) (v := (ag (.i y22.1.Kind :: U4 y22.1.Set [.slice uaf y22.1.L.length uah, .i y22.1.Min, .i y22.1.Max]))) (results_n1 (fn := Tryd.f78) (a := .cell 2 28) (by kernel_rfl) (resV_cell ⟨gx2, 0, none⟩ (by kernel_rfl) (run_loadN (.i y22.1.Kind :: U4 y22.1.Set [.slice uaf y22.1.L.length uah, .i y22.1.Min, .i y22.1.Max]) (by kernel_rfl) (by kernel_rfl) (p8.pa 0 0)))) ⟨S7, uaf, y22.1.L.length, uah, ua9, rfl, ((hx.trans z7).trans z8), p8.drop, uai, (uaj.ext z8), rfl, (uaa.ext z8)⟩
  ·
   have uby : x24 = false := by simpa using h21
   rw [uby]
   refine Goes.rn 4 [(41, (pt gx0 0))] Jio ?_
   have p1 := p1.fr 2
   refine bind_some' h fun y24 e25 h => ?_
   refine Goes.cal (.call { callee := .value (.func 48), args := #[(.tmp 41), (.const (.int .u8 46))], argTypes := #[66, 5] }) 42 4 48 _ (W.z14 e0v 46 y24 e25 gx0 u49 p1 u4a) ?_
   rintro _ w9 ⟨S9, uan, rfl, z9, p9, uaq⟩
   refine Goes.rn 2 [(40, .bool y24.1)] Jin ?_
   refine ite_some h (fun h26 h => ?_) (fun h26 h => ?_)
   ·
    rw [h26]
    refine Goes.rn 3 [] Jiq ?_
    refine bind_some' h fun y27 e28 h => ?_
    refine Goes.cal (.call { callee := .value (.func 90), args := #[(.const (.int .u8 10))], argTypes := #[5] }) 43 25 90 _ (W.z16 10 y27 e28  p9 ) ?_
    rintro _ w10 ⟨S10, u5b, rfl, z10, p10, u29, u5c⟩
    refine bind_some' h fun y29 e30 h => ?_
    refine Goes.cal (kc 89 [43] #[25]) 44 25 89 _ (W.z17 y27 y29 e30 u5b p10 u29 u5c) ?_
    rintro _ w11 ⟨S11, ubz, rfl, z11, p11, uc0, uc1⟩
    have l31 := Els.len1 uc0 uc1 rfl
    obtain rfl := els_lit4 uc0 uc1
    refine Goes.rn 1 [(45, (ag (.i 1 :: U4 y29 [.slice none 0 0, .i 0, .i 0])))] Jir ?_
    refine Op_.st 28 (.tmp 2) (.tmp 45) 0 1 gx2 0 (ag (.i 1 :: U4 y29 [.slice none 0 0, .i 0, .i 0])) (.i 1 :: U4 y29 [.slice none 0 0, .i 0, .i 0]) p11 rfl Goes.s (by kernel_rfl) (by kernel_rfl) (by kernel_rfl) (by kernel_rfl) (Nat.zero_le _) (by simp only [List.length_cons, List.length_nil]; omega) (by simp [Value.oneCell']) ?_
    intro w12 z12 p12
    have p12 : Hp nz wz S11 w12 ((some gx0, .row 69 [.string y24.2.s, .i y24.2.at_, .i y24.2.deep, uan] 4 0) :: (some gx2, .row 28 (.i 1 :: U4 y29 [.slice none 0 0, .i 0, .i 0]) 8 0) :: (uar, .row 28 uau (uat * kT27.size) 0) :: Lr) := p12
    refine Goes.rn 1 [] Jip ?_
    obtain rfl := Option.some.inj h
    have p12 := p12.dp 2
    have p12 := (p12.fr 0).fr 1
    exact Goes.ret (fn := Tryd.f78) (by kernel_rfl) (v := (ag (.i 1 :: U4 y29 [.slice none 0 0, .i 0, .i 0]))) (results_n1 (fn := Tryd.f78) (a := .cell 2 28) (by kernel_rfl) (resV_cell ⟨gx2, 0, none⟩ (by kernel_rfl) (run_loadN (.i 1 :: U4 y29 [.slice none 0 0, .i 0, .i 0]) (by kernel_rfl) (by kernel_rfl) (p12.pa 0 0)))) ⟨S11, none, 0, 0, uan, rfl, ((((hx.trans z9).trans z10).trans z11).trans z12), p12.drop, l31, Rd.none_, rfl, (uaq.ext ((z10.trans z11).trans z12))⟩
   ·
    have uc2 : y24.1 = false := by simpa using h26
    rw [uc2]
    refine Goes.rn 4 [(47, (pt gx0 0))] Jit ?_
    refine bind_some' h fun y32 e33 h => ?_
    refine Goes.cal (.call { callee := .value (.func 48), args := #[(.tmp 47), (.const (.int .u8 91))], argTypes := #[66, 5] }) 48 4 48 _ (W.z14 y24.2 91 y32 e33 gx0 uan p9 uaq) ?_
    rintro _ w13 ⟨S13, uc3, rfl, z13, p13, uc4⟩
    refine Goes.rn 2 [(46, .bool y32.1)] Jis ?_
    refine ite_some h (fun h34 h => ?_) (fun h34 h => ?_)
    ·
     rw [h34]
     refine Goes.rn 4 [(49, (pt gx0 0))] Jiv ?_
     refine bind_some' h fun y35 e36 h => ?_
     refine Goes.cal (kc 91 [49] #[66]) 50 28 91 _ (W.z1y y32.2 y35 e36 gx0 uc3 p13 uc4) ?_
     rintro _ w14 ⟨S14, uc5, uc6, uc7, ubj, rfl, z14, p14, uc8, uc9, rfl, ubk⟩
     refine Op_.st 28 (.tmp 2) (.tmp 50) 0 1 gx2 0 (ag (.i y35.1.Kind :: U4 y35.1.Set [.slice uc5 y35.1.L.length uc7, .i y35.1.Min, .i y35.1.Max])) (.i y35.1.Kind :: U4 y35.1.Set [.slice uc5 y35.1.L.length uc7, .i y35.1.Min, .i y35.1.Max]) p14 rfl Goes.s (by kernel_rfl) (by kernel_rfl) (by kernel_rfl) (by kernel_rfl) (Nat.zero_le _) (by simp only [List.length_cons, List.length_nil]; omega) (by simp [Value.oneCell']) ?_
     intro w15 z15 p15
     have p15 : Hp nz wz S14 w15 ((some gx0, .row 69 [.string y35.2.s, .i y35.2.at_, .i y35.2.deep, ubj] 4 0) :: (some gx2, .row 28 (.i y35.1.Kind :: U4 y35.1.Set [.slice uc5 y35.1.L.length uc7, .i y35.1.Min, .i y35.1.Max]) 8 0) :: (uar, .row 28 uau (uat * kT27.size) 0) :: Lr) := p15
     refine Goes.rn 1 [] Jiu ?_
     obtain rfl := Option.some.inj h
     have p15 := p15.dp 2
     have p15 := (p15.fr 0).fr 1
     exact Goes.ret (fn := Tryd.f78) (by kernel_rfl) (v := (ag (.i y35.1.Kind :: U4 y35.1.Set [.slice uc5 y35.1.L.length uc7, .i y35.1.Min, .i y35.1.Max]))) (results_n1 (fn := Tryd.f78) (a := .cell 2 28) (by kernel_rfl) (resV_cell ⟨gx2, 0, none⟩ (by kernel_rfl) (run_loadN (.i y35.1.Kind :: U4 y35.1.Set [.slice uc5 y35.1.L.length uc7, .i y35.1.Min, .i y35.1.Max]) (by kernel_rfl) (by kernel_rfl) (p15.pa 0 0)))) ⟨S14, uc5, y35.1.L.length, uc7, ubj, rfl, ((((hx.trans z9).trans z13).trans z14).trans z15), p15.drop, uc8, (uc9.ext z15), rfl, (ubk.ext z15)⟩
    ·
     have uca : y32.1 = false := by simpa using h34
     rw [uca]
     refine Goes.rn 4 [(52, (pt gx0 0))] Jix ?_
     refine bind_some' h fun y37 e38 h => ?_
     refine Goes.cal (.call { callee := .value (.func 48), args := #[(.tmp 52), (.const (.int .u8 40))], argTypes := #[66, 5] }) 53 4 48 _ (W.z14 y32.2 40 y37 e38 gx0 uc3 p13 uc4) ?_
     rintro _ w16 ⟨S16, ucb, rfl, z16, p16, ucc⟩
     refine Goes.rn 2 [(51, .bool y37.1)] Jiw ?_
     refine ite_some h (fun h39 h => ?_) (fun h39 h => ?_)
     ·
      rw [h39]
      refine Goes.rn 4 [(54, (pt gx0 0))] Jiz ?_
      refine bind_some' h fun y40 e41 h => ?_
      refine Goes.cal (kc 92 [54] #[66]) 55 28 92 _ (ih_syntax_parser_group y37.2 y40 e41 gx0 ucb p16 ucc) ?_
      rintro _ w17 ⟨S17, ucd, uce, ucf, ucg, rfl, z17, p17, uch, uci, rfl, ucj⟩
      refine Op_.st 28 (.tmp 2) (.tmp 55) 0 1 gx2 0 (ag (.i y40.1.Kind :: U4 y40.1.Set [.slice ucd y40.1.L.length ucf, .i y40.1.Min, .i y40.1.Max])) (.i y40.1.Kind :: U4 y40.1.Set [.slice ucd y40.1.L.length ucf, .i y40.1.Min, .i y40.1.Max]) p17 rfl Goes.s (by kernel_rfl) (by kernel_rfl) (by kernel_rfl) (by kernel_rfl) (Nat.zero_le _) (by simp only [List.length_cons, List.length_nil]; omega) (by simp [Value.oneCell']) ?_
      intro w18 z18 p18
      have p18 : Hp nz wz S17 w18 ((some gx0, .row 69 [.string y40.2.s, .i y40.2.at_, .i y40.2.deep, ucg] 4 0) :: (some gx2, .row 28 (.i y40.1.Kind :: U4 y40.1.Set [.slice ucd y40.1.L.length ucf, .i y40.1.Min, .i y40.1.Max]) 8 0) :: (uar, .row 28 uau (uat * kT27.size) 0) :: Lr) := p18
      refine Goes.rn 1 [] Jiy ?_
      obtain rfl := Option.some.inj h
      have p18 := p18.dp 2
      have p18 := (p18.fr 0).fr 1
      exact Goes.ret (fn := Tryd.f78) (by kernel_rfl) (v := (ag (.i y40.1.Kind :: U4 y40.1.Set [.slice ucd y40.1.L.length ucf, .i y40.1.Min, .i y40.1.Max]))) (results_n1 (fn := Tryd.f78) (a := .cell 2 28) (by kernel_rfl) (resV_cell ⟨gx2, 0, none⟩ (by kernel_rfl) (run_loadN (.i y40.1.Kind :: U4 y40.1.Set [.slice ucd y40.1.L.length ucf, .i y40.1.Min, .i y40.1.Max]) (by kernel_rfl) (by kernel_rfl) (p18.pa 0 0)))) ⟨S17, ucd, y40.1.L.length, ucf, ucg, rfl, (((((hx.trans z9).trans z13).trans z16).trans z17).trans z18), p18.drop, uch, (uci.ext z18), rfl, (ucj.ext z18)⟩
     ·
      have uck : y37.1 = false := by simpa using h39
      rw [uck]
      refine Goes.rn 4 [(57, (pt gx0 0))] Jj1 ?_
      refine bind_some' h fun y42 e43 h => ?_
      refine Goes.cal (.call { callee := .value (.func 48), args := #[(.tmp 57), (.const (.int .u8 92))], argTypes := #[66, 5] }) 58 4 48 _ (W.z14 y37.2 92 y42 e43 gx0 ucb p16 ucc) ?_
      rintro _ w19 ⟨S19, u7y, rfl, z19, p19, u81⟩
      refine Goes.rn 2 [(56, .bool y42.1)] Jj0 ?_
      refine ite_some h (fun h44 h => ?_) (fun h44 h => ?_)
      ·
       rw [h44]
       refine Goes.rn 4 [(59, (pt gx0 0))] Jj3 ?_
       refine bind_some' h fun y45 e46 h => ?_
       refine Goes.cal (kc 93 [59] #[66]) 60 127 93 _ (W.z1n y42.2 y45 e46 gx0 u7y p19 u81) ?_
       rintro _ w20 ⟨S20, ucl, rfl, z20, p20, ucm, ucn⟩
       refine Goes.rn 2 [(61, (ag (U4 y45.1.set_ []))), (62, (ag (.i 1 :: U4 y45.1.set_ [.slice none 0 0, .i 0, .i 0])))] Jj4 ?_
       refine Op_.st 28 (.tmp 2) (.tmp 62) 0 1 gx2 0 (ag (.i 1 :: U4 y45.1.set_ [.slice none 0 0, .i 0, .i 0])) (.i 1 :: U4 y45.1.set_ [.slice none 0 0, .i 0, .i 0]) p20 rfl Goes.s (by kernel_rfl) (by kernel_rfl) (by kernel_rfl) (by kernel_rfl) (Nat.zero_le _) (by simp only [List.length_cons, List.length_nil]; omega) (by simp [Value.oneCell']) ?_
       intro w21 z21 p21
       have p21 : Hp nz wz S20 w21 ((some gx0, .row 69 [.string y45.2.s, .i y45.2.at_, .i y45.2.deep, ucl] 4 0) :: (some gx2, .row 28 (.i 1 :: U4 y45.1.set_ [.slice none 0 0, .i 0, .i 0]) 8 0) :: (uar, .row 28 uau (uat * kT27.size) 0) :: Lr) := p21
       refine Goes.rn 1 [] Jj2 ?_
       obtain rfl := Option.some.inj h
       have p21 := p21.dp 2
       have p21 := (p21.fr 0).fr 1
       exact Goes.ret (fn := Tryd.f78) (by kernel_rfl) (v := (ag (.i 1 :: U4 y45.1.set_ [.slice none 0 0, .i 0, .i 0]))) (results_n1 (fn := Tryd.f78) (a := .cell 2 28) (by kernel_rfl) (resV_cell ⟨gx2, 0, none⟩ (by kernel_rfl) (run_loadN (.i 1 :: U4 y45.1.set_ [.slice none 0 0, .i 0, .i 0]) (by kernel_rfl) (by kernel_rfl) (p21.pa 0 0)))) ⟨S20, none, 0, 0, ucl, rfl, ((((((hx.trans z9).trans z13).trans z16).trans z19).trans z20).trans z21), p21.drop, ucm, Rd.none_, rfl, (ucn.ext z21)⟩
      ·
       have uco : y42.1 = false := by simpa using h44
       rw [uco]
       refine Goes.rn 8 [(63, (pt gx0 0)), (64, (pt gx0 0)), (65, (pt gx0 1))] Jj6 ?_
       refine Goes.ld 3 (.tmp 65) 66 3 ⟨gx0, 1, none⟩ (.i y42.2.at_) (p19.c 0 1) ?_
       refine Goes.rn 3 [(67, .i (wr .i64 (y42.2.at_ + 1))), (68, (pt gx0 0)), (69, (pt gx0 1))] Jj7 ?_
       refine Op_.st 3 (.tmp 69) (.tmp 67) 0 0 gx0 1 (.i (wr .i64 (y42.2.at_ + 1))) [.i (wr .i64 (y42.2.at_ + 1))] p19 rfl Goes.s (by kernel_rfl) (by kernel_rfl) (by kernel_rfl) (by kernel_rfl) (Nat.zero_le _) (by simp only [List.length_cons, List.length_nil]; omega) (by simp [Value.oneCell']) ?_
       intro w22 z22 p22
       have p22 : Hp nz wz S19 w22 ((some gx0, .row 69 [.string y42.2.s, .i (wr .i64 (y42.2.at_ + 1)), .i y42.2.deep, u7y] 4 0) :: (some gx2, .row 28 (.i x2v.Kind :: U4 x2v.Set [.slice (Gp uar) x2v.L.length uat, .i x2v.Min, .i x2v.Max]) 8 0) :: (uar, .row 28 uau (uat * kT27.size) 0) :: Lr) := p22
       refine Goes.rn 4 [(70, .int .u8 x3)] Jj9 ?_
       refine bind_some' h fun y47 e48 h => ?_
       refine Goes.cal (kc 90 [70] #[5]) 71 25 90 _ (W.z16 x3 y47 e48  p22 ) ?_
       rintro _ w23 ⟨S23, u5m, rfl, z23, p23, u5n, u5o⟩
       have l49 := Els.len1 u5n u5o rfl
       obtain rfl := els_lit4 u5n u5o
       refine Goes.rn 1 [(72, (ag (.i 1 :: U4 y47 [.slice none 0 0, .i 0, .i 0])))] Jja ?_
       refine Op_.st 28 (.tmp 2) (.tmp 72) 0 1 gx2 0 (ag (.i 1 :: U4 y47 [.slice none 0 0, .i 0, .i 0])) (.i 1 :: U4 y47 [.slice none 0 0, .i 0, .i 0]) p23 rfl Goes.s (by kernel_rfl) (by kernel_rfl) (by kernel_rfl) (by kernel_rfl) (Nat.zero_le _) (by simp only [List.length_cons, List.length_nil]; omega) (by simp [Value.oneCell']) ?_
       intro w24 z24 p24
       have p24 : Hp nz wz S23 w24 ((some gx0, .row 69 [.string y42.2.s, .i (wr .i64 (y42.2.at_ + 1)), .i y42.2.deep, u7y] 4 0) :: (some gx2, .row 28 (.i 1 :: U4 y47 [.slice none 0 0, .i 0, .i 0]) 8 0) :: (uar, .row 28 uau (uat * kT27.size) 0) :: Lr) := p24
       refine Goes.rn 1 [] Jj8 ?_
       obtain rfl := Option.some.inj h
       have p24 := p24.dp 2
       have p24 := (p24.fr 0).fr 1
       exact Goes.ret (fn := Tryd.f78) (by kernel_rfl) (v := (ag (.i 1 :: U4 y47 [.slice none 0 0, .i 0, .i 0]))) (results_n1 (fn := Tryd.f78) (a := .cell 2 28) (by kernel_rfl) (resV_cell ⟨gx2, 0, none⟩ (by kernel_rfl) (run_loadN (.i 1 :: U4 y47 [.slice none 0 0, .i 0, .i 0]) (by kernel_rfl) (by kernel_rfl) (p24.pa 0 0)))) ⟨S23, none, 0, 0, u7y, rfl, (((((((hx.trans z9).trans z13).trans z16).trans z19).trans z22).trans z23).trans z24), p24.drop, l49, Rd.none_, rfl, (u81.ext ((z22.trans z23).trans z24))⟩
 ·
  intro ucp ucq x0v r h nz wz S0 w0 Lr iG gx0 u4b p0 u4c
  try dsimp only at h
  refine calls_of_goes (fn := Tryd.f92) (c := B92) (by kernel_rfl) (by kernel_rfl) 26 (by kernel_rfl) ?_
  refine Goes.jp 27 [(0, (pt gx0 0))] (fun junk => ?_)
  refine Goes.rn 2 [] Jjc ?_
  refine Op_.alloc 28 2 0 (.agg #[.i 0, .u 0, .u 0, .u 0, .u 0, .slice none 0 0, .i 0, .i 0]) [.i 0, .u 0, .u 0, .u 0, .u 0, .slice none 0 0, .i 0, .i 0] p0 Goes.v (by kernel_rfl) (by kernel_rfl) ?_
  intro b2 w2 z2 p2
  refine Goes.rn 5 [(4, (pt gx0 0))] Jje ?_
  have p2 := p2.fr 1
  refine bind_some' h fun y4 e5 h => ?_
  refine Goes.cal (.call { callee := .value (.func 48), args := #[(.tmp 4), (.const (.int .u8 63))], argTypes := #[66, 5] }) 5 4 48 _ (W.z14 x0v 63 y4 e5 gx0 u4b p2 (u4c.ext z2)) ?_
  rintro _ w3 ⟨S3, u6t, rfl, z3, p3, u6u⟩
  refine Goes.rn 1 [] Jjd ?_
  refine ite_some h (fun h6 h => ?_) (fun h6 h => ?_)
  ·
   rw [h6]
   refine Goes.rn 3 [(6, (pt gx0 0))] Jjf ?_
   refine bind_some' h fun y7 e8 h => ?_
   refine Goes.cal (.call { callee := .value (.func 95), args := #[(.tmp 6), (.const (.int .u8 58))], argTypes := #[66, 5] }) 7 0 95 _ (W.z1z y4.2 58 y7 e8 gx0 u6t p3 u6u) ?_
   rintro _ w4 ⟨S4, u6d, rfl, z4, p4, u6g⟩
   refine Goes.rn 1 [] Jh1 ?_
   have p4 : Hp nz wz S4 w4 ((none, .row 28 [] (0 * kT27.size) 0) :: (some gx0, .row 69 [.string y7.s, .i y7.at_, .i y7.deep, u6d] 4 0) :: (some b2, .row 28 [.i 0, .u 0, .u 0, .u 0, .u 0, .slice none 0 0, .i 0, .i 0] 8 0) :: Lr) := p4.nilRow' 28
   have p4 := ((p4.fr 1).fr 1).fr 2
   exact Goes.jp 27 [(0, (pt gx0 0)), (2, (pt b2 0))] (ucq _ _ h gx0 _ _ ((((Ext.refl S0 w0).trans z2).trans z3).trans z4) b2 none 0 0 [] u6d p4 rfl (Els.nil (K := kT27)) rfl u6g)
  ·
   have h6' : y4.1 = false := by simpa using h6
   rw [h6']
   refine Goes.rn 2 [] Jh1 ?_
   have p3 : Hp nz wz S3 w3 ((none, .row 28 [] (0 * kT27.size) 0) :: (some gx0, .row 69 [.string y4.2.s, .i y4.2.at_, .i y4.2.deep, u6t] 4 0) :: (some b2, .row 28 [.i 0, .u 0, .u 0, .u 0, .u 0, .slice none 0 0, .i 0, .i 0] 8 0) :: Lr) := p3.nilRow' 28
   have p3 := ((p3.fr 1).fr 1).fr 2
   exact Goes.jp 27 [(0, (pt gx0 0)), (2, (pt b2 0))] (ucq _ _ h gx0 _ _ (((Ext.refl S0 w0).trans z2).trans z3) b2 none 0 0 [] u6t p3 rfl (Els.nil (K := kT27)) rfl u6u)
 ·
  intro rec_syntax_parser_alternation ih_syntax_parser_alternation ⟨x2v, e0v⟩ r h nz wz S0 w0 Lr iG gx0 S1 w1 hx gx2 uar uas uat uau u49 p1 uax uay uaz u4a junk
  try dsimp only at h
  subst uaz
  refine Goes.rn 5 [(8, (pt gx0 0)), (9, (pt gx0 0)), (10, (pt gx0 2))] Jjh ?_
  refine Goes.ld 3 (.tmp 10) 11 3 ⟨gx0, 2, none⟩ (.i e0v.deep) (p1.c 2 2) ?_
  refine Goes.rn 3 [(12, .i (wr .i64 (e0v.deep + 1))), (13, (pt gx0 0)), (14, (pt gx0 2))] Jji ?_
  refine Op_.st 3 (.tmp 14) (.tmp 12) 0 2 gx0 2 (.i (wr .i64 (e0v.deep + 1))) [.i (wr .i64 (e0v.deep + 1))] p1 rfl Goes.s (by kernel_rfl) (by kernel_rfl) (by kernel_rfl) (by kernel_rfl) (Nat.zero_le _) (by simp only [List.length_cons, List.length_nil]; omega) (by simp [Value.oneCell']) ?_
  intro w5 z5 p5
  have p5 : Hp nz wz S1 w5 ((some gx2, .row 28 (.i x2v.Kind :: U4 x2v.Set [.slice (Gp uar) x2v.L.length uat, .i x2v.Min, .i x2v.Max]) 8 0) :: (uar, .row 28 uau (uat * kT27.size) 0) :: (some gx0, .row 69 [.string e0v.s, .i e0v.at_, .i (wr .i64 (e0v.deep + 1)), u49] 4 0) :: Lr) := p5
  refine Goes.rn 4 [(15, (pt gx0 0))] Jjk ?_
  have p5 := p5.fr 2
  refine bind_some' h fun y13 e14 h => ?_
  refine Goes.cal (kc 30 [15] #[66]) 16 28 30 _ (ih_syntax_parser_alternation (⟨e0v.s, e0v.at_, wr .i64 (e0v.deep + 1), e0v.bad⟩ : T68) y13 e14 gx0 u49 p5 (u4a.ext z5)) ?_
  rintro _ w6 ⟨S6, ub0, ub1, ub2, u83, rfl, z6, p6, ub3, ub4, rfl, u84⟩
  refine Op_.alloc 28 3 0 (.agg #[.i 0, .u 0, .u 0, .u 0, .u 0, .slice none 0 0, .i 0, .i 0]) [.i 0, .u 0, .u 0, .u 0, .u 0, .slice none 0 0, .i 0, .i 0] p6 Goes.v (by kernel_rfl) (by kernel_rfl) ?_
  intro b15 w7 z7 p7
  refine Op_.st 28 (.tmp 3) (.tmp 16) 0 0 b15 0 (ag (.i y13.1.Kind :: U4 y13.1.Set [.slice ub0 y13.1.L.length ub2, .i y13.1.Min, .i y13.1.Max])) (.i y13.1.Kind :: U4 y13.1.Set [.slice ub0 y13.1.L.length ub2, .i y13.1.Min, .i y13.1.Max]) p7 rfl Goes.s (by kernel_rfl) (by kernel_rfl) (by kernel_rfl) (by kernel_rfl) (Nat.zero_le _) (by simp only [List.length_cons, List.length_nil]; omega) (by simp [Value.oneCell']) ?_
  intro w8 z8 p8
  have p8 : Hp nz wz S6 w8 ((some b15, .row 28 (.i y13.1.Kind :: U4 y13.1.Set [.slice ub0 y13.1.L.length ub2, .i y13.1.Min, .i y13.1.Max]) 8 0) :: (some gx0, .row 69 [.string y13.2.s, .i y13.2.at_, .i y13.2.deep, u83] 4 0) :: (some gx2, .row 28 (.i x2v.Kind :: U4 x2v.Set [.slice (Gp uar) x2v.L.length uat, .i x2v.Min, .i x2v.Max]) 8 0) :: (uar, .row 28 uau (uat * kT27.size) 0) :: Lr) := p8
  refine Goes.rn 6 [(17, (pt gx0 0)), (18, (pt gx0 0)), (19, (pt gx0 2))] Jjm ?_
  refine Goes.ld 3 (.tmp 19) 20 3 ⟨gx0, 2, none⟩ (.i y13.2.deep) (p8.c 1 2) ?_
  refine Goes.rn 3 [(21, .i (wr .i64 (y13.2.deep - 1))), (22, (pt gx0 0)), (23, (pt gx0 2))] Jjn ?_
  refine Op_.st 3 (.tmp 23) (.tmp 21) 0 1 gx0 2 (.i (wr .i64 (y13.2.deep - 1))) [.i (wr .i64 (y13.2.deep - 1))] p8 rfl Goes.s (by kernel_rfl) (by kernel_rfl) (by kernel_rfl) (by kernel_rfl) (Nat.zero_le _) (by simp only [List.length_cons, List.length_nil]; omega) (by simp [Value.oneCell']) ?_
  intro w9 z9 p9
  have p9 : Hp nz wz S6 w9 ((some b15, .row 28 (.i y13.1.Kind :: U4 y13.1.Set [.slice ub0 y13.1.L.length ub2, .i y13.1.Min, .i y13.1.Max]) 8 0) :: (some gx0, .row 69 [.string y13.2.s, .i y13.2.at_, .i (wr .i64 (y13.2.deep - 1)), u83] 4 0) :: (some gx2, .row 28 (.i x2v.Kind :: U4 x2v.Set [.slice (Gp uar) x2v.L.length uat, .i x2v.Min, .i x2v.Max]) 8 0) :: (uar, .row 28 uau (uat * kT27.size) 0) :: Lr) := p9
  refine Goes.rn 4 [(24, (pt gx0 0))] Jjp ?_
  have p9 := p9.fr 1
  refine bind_some' h fun y17 e18 h => ?_
  refine Goes.cal (.call { callee := .value (.func 95), args := #[(.tmp 24), (.const (.int .u8 41))], argTypes := #[66, 5] }) 25 0 95 _ (W.z1z (⟨y13.2.s, y13.2.at_, wr .i64 (y13.2.deep - 1), y13.2.bad⟩ : T68) 41 y17 e18 gx0 u83 p9 (u84.ext ((z7.trans z8).trans z9))) ?_
  rintro _ w10 ⟨S10, u6z, rfl, z10, p10, u70⟩
  refine Goes.rn 3 [] Jjr ?_
  refine Goes.ldN 28 (.tmp 3) 26 28 ⟨b15, 0, none⟩ (.i y13.1.Kind :: U4 y13.1.Set [.slice ub0 y13.1.L.length ub2, .i y13.1.Min, .i y13.1.Max]) (p10.pa 1 0) ?_
  refine Op_.st 28 (.tmp 2) (.tmp 26) 0 2 gx2 0 (ag (.i y13.1.Kind :: U4 y13.1.Set [.slice ub0 y13.1.L.length ub2, .i y13.1.Min, .i y13.1.Max])) (.i y13.1.Kind :: U4 y13.1.Set [.slice ub0 y13.1.L.length ub2, .i y13.1.Min, .i y13.1.Max]) p10 rfl Goes.s (by kernel_rfl) (by kernel_rfl) (by kernel_rfl) (by kernel_rfl) (Nat.zero_le _) (by simp only [List.length_cons, List.length_nil]; omega) (by simp [Value.oneCell']) ?_
  intro w11 z11 p11
  have p11 : Hp nz wz S10 w11 ((some gx0, .row 69 [.string y17.s, .i y17.at_, .i y17.deep, u6z] 4 0) :: (some b15, .row 28 (.i y13.1.Kind :: U4 y13.1.Set [.slice ub0 y13.1.L.length ub2, .i y13.1.Min, .i y13.1.Max]) 8 0) :: (some gx2, .row 28 (.i y13.1.Kind :: U4 y13.1.Set [.slice ub0 y13.1.L.length ub2, .i y13.1.Min, .i y13.1.Max]) 8 0) :: (uar, .row 28 uau (uat * kT27.size) 0) :: Lr) := p11
  refine Goes.rn 1 [] Jjq ?_
  obtain rfl := Option.some.inj h
  have p11 := (p11.dp 1).dp 2
  have p11 := (p11.fr 0).fr 1
  exact Goes.ret (fn := Tryd.f92) (by kernel_rfl) (v := (ag (.i y13.1.Kind :: U4 y13.1.Set [.slice ub0 y13.1.L.length ub2, .i y13.1.Min, .i y13.1.Max]))) (results_n1 (fn := Tryd.f92) (a := .cell 2 28) (by kernel_rfl) (resV_cell ⟨gx2, 0, none⟩ (by kernel_rfl) (run_loadN (.i y13.1.Kind :: U4 y13.1.Set [.slice ub0 y13.1.L.length ub2, .i y13.1.Min, .i y13.1.Max]) (by kernel_rfl) (by kernel_rfl) (p11.pa 0 0)))) ⟨S10, ub0, y13.1.L.length, ub2, u6z, rfl, (((((((hx.trans z5).trans z6).trans z7).trans z8).trans z9).trans z10).trans z11), p11.drop, ub3, (ub4.ext ((((z7.trans z8).trans z9).trans z10).trans z11)), rfl, (u70.ext z11)⟩

theorem W.z27 : ∀ a r, M.syntax_parser_alternation a = some r → LF.z27 a r := (W.z2i).1

theorem W.z2h : ∀ a r, M.syntax_parser_alternation_l0 a = some r → LL.z2h a r := (W.z2i).2.1

theorem W.z28 : ∀ a r, M.syntax_parser_sequence a = some r → LF.z28 a r := (W.z2i).2.2.1

theorem W.z2c : ∀ a r, M.syntax_parser_sequence_l0 a = some r → LL.z2c a r := (W.z2i).2.2.2.1

theorem W.z2d : ∀ a r, M.syntax_parser_sequence_l1 a = some r → LL.z2d a r := (W.z2i).2.2.2.2.1

theorem W.z29 : ∀ a r, M.syntax_parser_piece a = some r → LF.z29 a r := (W.z2i).2.2.2.2.2.1

theorem W.z2a : ∀ a r, M.syntax_parser_atom a = some r → LF.z2a a r := (W.z2i).2.2.2.2.2.2.1

theorem W.z2e : ∀ a r, M.syntax_parser_atom_l0 a = some r → LL.z2e a r := (W.z2i).2.2.2.2.2.2.2.1

theorem W.z2f : ∀ a r, M.syntax_parser_atom_l1 a = some r → LL.z2f a r := (W.z2i).2.2.2.2.2.2.2.2.1

theorem W.z2b : ∀ a r, M.syntax_parser_group a = some r → LF.z2b a r := (W.z2i).2.2.2.2.2.2.2.2.2.1

theorem W.z2g : ∀ a r, M.syntax_parser_group_l0 a = some r → LL.z2g a r := (W.z2i).2.2.2.2.2.2.2.2.2.2

def Qfi := sub [1, 1, 1, 1, 1, 1] B11
def Jjs : List Item := [.code Qfi]
def Qfj := sub [1, 1, 1, 1, 1, 0, 1] B11
def Jjt : List Item := .code Qfj :: Jjs
def Qfk := sub [1, 1, 1, 1, 1, 0, 1, 0, 1] B11
def Jju : List Item := .code Qfk :: Jjs
def Qfl := sub [1, 1, 1, 1, 1, 0, 1, 0, 0] B11
def Jjv : List Item := .code Qfl :: Jju
def Qfm := sub [1, 1, 1, 1, 1, 1, 1] B11
def Jjw : List Item := [.code Qfm]
def Qfn := sub [1, 1, 1, 1, 1, 1, 0] B11
def Jjx : List Item := .inRegion (opsOf Qfn) [0, 1, 2, 3] :: Jjw

def Post.z2j (r : T27 × Int × Int) (v : Value) (w' : World) : Prop :=
 ∃ S' ucr ucs uct, v = .tuple #[(ag (.i r.1.Kind :: U4 r.1.Set [.slice ucr ucs uct, .i r.1.Min, .i r.1.Max])), .i r.2.1, .i r.2.2] ∧ Ext S0 w0 S' w' ∧ Hp nz wz S' w' (Lr) ∧ r.1.Set.length = 4 ∧ Rd kT27 S' w' ucr uct r.1.L ∧ r.1.L.length = ucs

def L.z2k : T27 × T68 × T27 × Bool → (T27 × Int × Int) → Prop := fun ⟨x2v, x5v, x6v, x40⟩ r => ∀ S1 w1, Ext S0 w0 S1 w1 → ∀ gx2 uar uas uat uau gx5 ucu gx6 ucv ucw ucx (_ : Hp nz wz S1 w1 ((some gx2, .row 28 (.i x2v.Kind :: U4 x2v.Set [.slice (Gp uar) uas uat, .i x2v.Min, .i x2v.Max]) 8 0) :: (uar, .row 28 uau (uat * kT27.size) 0) :: (some gx5, .row 69 [.string x5v.s, .i x5v.at_, .i x5v.deep, ucu] 4 0) :: (some gx6, .row 28 (.i x6v.Kind :: U4 x6v.Set [.slice ucv ucw ucx, .i x6v.Min, .i x6v.Max]) 8 0) :: Lr)) (_ : x2v.Set.length = 4) (_ : Els kT27 S1 w1 uau x2v.L) (_ : x2v.L.length = uas) (_ : PtO kT72 S1 w1 ucu x5v.bad) (_ : x6v.Set.length = 4) (_ : Rd kT27 S1 w1 ucv ucx x6v.L) (_ : x6v.L.length = ucw) (junk : Nat → Value),
 Goes Tryd.prog (base 11) Jjt ⟨lfr 50 [(2, (pt gx2 0)), (5, (pt gx5 0)), (6, (pt gx6 0)), (40, .bool x40)] junk, []⟩ w1 (Done Tryd.prog 11 (Rets (Post.z2j nz wz S0 w0 Lr r)))

theorem W.z2k {nz wz S0 w0 Lr} [Gw nz wz] : ∀ a r, M.syntax_Parse_l2 a = some r → L.z2k nz wz S0 w0 Lr a r := by
 intro ⟨x2v, x5v, x6v, x40⟩ r h S1 w1 hx gx2 uar uas uat uau gx5 ucu gx6 ucv ucw ucx p1 uax uay uaz ucy u47 ucz ud0 junk
 rw [M.syntax_Parse_l2] at h
 try dsimp only at h
 subst uaz
 subst ud0
 refine ite_some h (fun h41 h => ?_) (fun h41 h => ?_)
 ·
  rw [h41]
  refine Goes.rn 2 [] Jjv ?_
  have z9 : Ext S1 w1 S1 (w1).drew := Ext.draw
  have p9 := p1.draw
  refine Goes.drawn (s := []) (F := Fc S1 (w1).drew [(⟨gx5, 3, none⟩, ucu)]) 8 11 (by kernel_rfl) (by kernel_rfl) (by kernel_rfl) (by kernel_rfl) ?_
  generalize (w1).drew = w9 at z9 p9 ⊢
  refine AnyG.pu 0 (.build 28 #[]) 41 28 (.agg #[.i 0, .u 0, .u 0, .u 0, .u 0, .slice none 0 0, .i 0, .i 0]) (Fc.here (p9.cs [(2, 3, 1)])) ?_
  refine AnyG.pu 1 (.move (.tmp 5)) 42 66 ((pt gx5 0)) (Fc.here (p9.cs [(2, 3, 1)])) ?_
  refine AnyG.pu 2 (.nilCheck (.tmp 42)) 43 0 ((pt gx5 0)) (Fc.here (p9.cs [(2, 3, 1)])) ?_
  refine AnyG.pu 3 (.fieldAddr 69 (.tmp 43) 3) 44 0 ((pt gx5 3)) (Fc.here (p9.cs [(2, 3, 1)])) ?_
  refine AnyG.ld1 (i := 4) 67 (.tmp 44) 45 67 ⟨gx5, 3, none⟩ (ucu) (by kernel_rfl) (by kernel_rfl) (Fc.here (p9.cs [(2, 3, 1)])) (by kernel_rfl) (by kernel_rfl) (fun _ h => h.2.at_ 0 rfl) ?_
  refine let_some h fun v48 h42 h => ?_
  rcases v48 with _ | y43
  ·
   try dsimp only at h
   obtain rfl := PtO.nil (ucy.ext z9) h42
   cases h
  ·
   try dsimp only at h
   obtain ⟨a45, _, rfl, -, f46, q47⟩ := PtO.got (ucy.ext z9) h42
   obtain rfl := q47
   refine AnyG.pu 5 (.nilCheck (.tmp 45)) 46 0 (.pointer (some a45)) (Fc.here (p9.cs [(2, 3, 1)])) ?_
   refine AnyG.pu 6 (.fieldAddr 73 (.tmp 46) 0) 47 0 (.pointer (some (Addr.add a45 0))) (Fc.here (p9.cs [(2, 3, 1)])) ?_
   refine AnyG.ld1 (i := 7) 3 (.tmp 47) 48 3 (Addr.add a45 0) (.i y43.at_) (by kernel_rfl) (by kernel_rfl) (Fc.here (p9.cs [(2, 3, 1)])) (by kernel_rfl) (by kernel_rfl) (fun _ h => (Cs.left (us := [.i y43.at_]) (vs := []) (Cs.add (us := []) (vs := [.i y43.at_]) f46)).fc h 0 _ rfl) ?_
   refine Op_.st 28 (.tmp 2) (.tmp 41) 0 0 gx2 0 (.agg #[.i 0, .u 0, .u 0, .u 0, .u 0, .slice none 0 0, .i 0, .i 0]) [.i 0, .u 0, .u 0, .u 0, .u 0, .slice none 0 0, .i 0, .i 0] p9 rfl (AnyG.ss (i := 8) (by kernel_rfl) (by kernel_rfl)) (by kernel_rfl) (by kernel_rfl) (by kernel_rfl) (by kernel_rfl) (Nat.zero_le _) (by simp only [List.length_cons, List.length_nil]; omega) (by simp [Value.oneCell']) ?_
   intro w10 z10 p10
   have p10 : Hp nz wz S1 w10 ((some gx2, .row 28 [.i 0, .u 0, .u 0, .u 0, .u 0, .slice none 0 0, .i 0, .i 0] 8 0) :: (uar, .row 28 uau (uat * kT27.size) 0) :: (some gx5, .row 69 [.string x5v.s, .i x5v.at_, .i x5v.deep, .pointer (some a45)] 4 0) :: (some gx6, .row 28 (.i x6v.Kind :: U4 x6v.Set [.slice ucv x6v.L.length ucx, .i x6v.Min, .i x6v.Max]) 8 0) :: Lr) := p10
   refine AnyG.next z10 ⟨(p10.c 2 3), trivial⟩ ?_
   refine AnyG.pu 9 (.assign (.tmp 48)) 3 3 (.i y43.at_) (Fc.here (p10.cs [(2, 3, 1)])) ?_
   refine AnyG.pu 10 (.assign (.const (.int .i64 100))) 4 29 (.i 100) (Fc.here (p10.cs [(2, 3, 1)])) ?_
   refine AnyG.done (by kernel_rfl) ?_ _
   have p10 := ((p10.dp 1).dp 1).dp 1
   obtain rfl := Option.some.inj h
   exact Goes.ret (fn := Tryd.f11) (by kernel_rfl) (v := .tuple #[.agg #[.i 0, .u 0, .u 0, .u 0, .u 0, .slice none 0 0, .i 0, .i 0], .i y43.at_, .i 100]) (results_n3 (fn := Tryd.f11) (a := .cell 2 28) (b := .tmp 3) (c := .tmp 4) (by kernel_rfl) (resV_cell ⟨gx2, 0, none⟩ (by kernel_rfl) (run_loadN [.i 0, .u 0, .u 0, .u 0, .u 0, .slice none 0 0, .i 0, .i 0] (by kernel_rfl) (by kernel_rfl) (p10.pa 0 0))) (resV_tmp (by kernel_rfl)) (resV_tmp (by kernel_rfl))) ⟨S1, none, 0, 0, rfl, ((hx.trans z9).trans z10), p10.drop, rfl, Rd.none_, rfl⟩
 ·
  have ud1 : x40 = false := by simpa using h41
  rw [ud1]
  refine Goes.rn 4 [] Jjx ?_
  refine Goes.ldN 28 (.tmp 6) 49 28 ⟨gx6, 0, none⟩ (.i x6v.Kind :: U4 x6v.Set [.slice ucv x6v.L.length ucx, .i x6v.Min, .i x6v.Max]) (p1.pa 3 0) ?_
  refine Op_.st 28 (.tmp 2) (.tmp 49) 0 0 gx2 0 (ag (.i x6v.Kind :: U4 x6v.Set [.slice ucv x6v.L.length ucx, .i x6v.Min, .i x6v.Max])) (.i x6v.Kind :: U4 x6v.Set [.slice ucv x6v.L.length ucx, .i x6v.Min, .i x6v.Max]) p1 rfl Goes.s (by kernel_rfl) (by kernel_rfl) (by kernel_rfl) (by kernel_rfl) (Nat.zero_le _) (by simp only [List.length_cons, List.length_nil]; omega) (by simp [Value.oneCell']) ?_
  intro w11 z11 p11
  have p11 : Hp nz wz S1 w11 ((some gx2, .row 28 (.i x6v.Kind :: U4 x6v.Set [.slice ucv x6v.L.length ucx, .i x6v.Min, .i x6v.Max]) 8 0) :: (uar, .row 28 uau (uat * kT27.size) 0) :: (some gx5, .row 69 [.string x5v.s, .i x5v.at_, .i x5v.deep, ucu] 4 0) :: (some gx6, .row 28 (.i x6v.Kind :: U4 x6v.Set [.slice ucv x6v.L.length ucx, .i x6v.Min, .i x6v.Max]) 8 0) :: Lr) := p11
  refine Goes.rn 3 [(3, .i 0), (4, .i 0)] Jjw ?_
  obtain rfl := Option.some.inj h
  have p11 := ((p11.dp 1).dp 1).dp 1
  exact Goes.ret (fn := Tryd.f11) (by kernel_rfl) (v := .tuple #[(ag (.i x6v.Kind :: U4 x6v.Set [.slice ucv x6v.L.length ucx, .i x6v.Min, .i x6v.Max])), .i 0, .i 0]) (results_n3 (fn := Tryd.f11) (a := .cell 2 28) (b := .tmp 3) (c := .tmp 4) (by kernel_rfl) (resV_cell ⟨gx2, 0, none⟩ (by kernel_rfl) (run_loadN (.i x6v.Kind :: U4 x6v.Set [.slice ucv x6v.L.length ucx, .i x6v.Min, .i x6v.Max]) (by kernel_rfl) (by kernel_rfl) (p11.pa 0 0))) (resV_tmp (by kernel_rfl)) (resV_tmp (by kernel_rfl))) ⟨S1, ucv, x6v.L.length, ucx, rfl, (hx.trans z11), p11.drop, u47, (ucz.ext z11), rfl⟩

def Qfo := sub [1, 1, 1, 1, 1] B11
def Jjy : List Item := [.code Qfo]
def Qfp := sub [1, 1, 1, 1, 1, 0, 0] B11
def Jjz : List Item := .inRegion (opsOf Qfp) [3, 4] :: Jjt

def L.z2l : T27 × T68 × T27 → (T27 × Int × Int) → Prop := fun ⟨x2v, x5v, x6v⟩ r => ∀ S1 w1, Ext S0 w0 S1 w1 → ∀ gx2 uar uas uat uau gx5 ucu gx6 ucv ucw ucx (_ : Hp nz wz S1 w1 ((some gx2, .row 28 (.i x2v.Kind :: U4 x2v.Set [.slice (Gp uar) uas uat, .i x2v.Min, .i x2v.Max]) 8 0) :: (uar, .row 28 uau (uat * kT27.size) 0) :: (some gx5, .row 69 [.string x5v.s, .i x5v.at_, .i x5v.deep, ucu] 4 0) :: (some gx6, .row 28 (.i x6v.Kind :: U4 x6v.Set [.slice ucv ucw ucx, .i x6v.Min, .i x6v.Max]) 8 0) :: Lr)) (_ : x2v.Set.length = 4) (_ : Els kT27 S1 w1 uau x2v.L) (_ : x2v.L.length = uas) (_ : PtO kT72 S1 w1 ucu x5v.bad) (_ : x6v.Set.length = 4) (_ : Rd kT27 S1 w1 ucv ucx x6v.L) (_ : x6v.L.length = ucw) (junk : Nat → Value),
 Goes Tryd.prog (base 11) Jjy ⟨lfr 50 [(2, (pt gx2 0)), (5, (pt gx5 0)), (6, (pt gx6 0))] junk, []⟩ w1 (Done Tryd.prog 11 (Rets (Post.z2j nz wz S0 w0 Lr r)))

theorem W.z2l {nz wz S0 w0 Lr} [Gw nz wz] : ∀ a r, M.syntax_Parse_l1 a = some r → L.z2l nz wz S0 w0 Lr a r := by
 intro ⟨x2v, x5v, x6v⟩ r h S1 w1 hx gx2 uar uas uat uau gx5 ucu gx6 ucv ucw ucx p1 uax uay uaz ucy u47 ucz ud0 junk
 rw [M.syntax_Parse_l1] at h
 try dsimp only at h
 subst uaz
 subst ud0
 refine Goes.rn 6 [(36, (pt gx5 0)), (37, (pt gx5 0)), (38, (pt gx5 3))] Jjz ?_
 refine Goes.ld 67 (.tmp 38) 39 67 ⟨gx5, 3, none⟩ (ucu) (p1.c 2 3) ?_
 refine let_some h fun v40 h30 h => ?_
 rcases v40 with _ | y31
 ·
  try dsimp only at h
  obtain rfl := PtO.nil ucy h30
  refine Goes.rn 2 [(40, .bool false)] Jjt ?_
  exact Goes.jp 50 [(2, (pt gx2 0)), (5, (pt gx5 0)), (6, (pt gx6 0)), (40, .bool false)] (W.z2k _ _ h _ _ hx gx2 uar x2v.L.length uat uau gx5 (.pointer none) gx6 ucv x6v.L.length ucx p1 uax uay rfl rfl u47 ucz rfl)
 ·
  try dsimp only at h
  obtain ⟨a33, _, rfl, -, f34, q35⟩ := PtO.got ucy h30
  obtain rfl := q35
  refine Goes.rn 2 [(40, .bool true)] Jjt ?_
  exact Goes.jp 50 [(2, (pt gx2 0)), (5, (pt gx5 0)), (6, (pt gx6 0)), (40, .bool true)] (W.z2k _ _ h _ _ hx gx2 uar x2v.L.length uat uau gx5 (.pointer (some a33)) gx6 ucv x6v.L.length ucx p1 uax uay rfl ⟨_, _, rfl, List.cons_ne_nil _ _, f34, rfl⟩ u47 ucz rfl)

def Qfq := sub [1, 1, 1, 1, 0, 1] B11
def Jk0 : List Item := .code Qfq :: Jjy
def Qfr := sub [1, 1, 1, 1, 0, 1, 0] B11
def Jk1 : List Item := .inRegion (opsOf Qfr) [4, 5] :: Jjy

def L.z2m : T27 × T68 × T27 × Bool → (T27 × Int × Int) → Prop := fun ⟨x2v, x5v, x6v, x29⟩ r => ∀ S1 w1, Ext S0 w0 S1 w1 → ∀ gx2 uar uas uat uau gx5 ucu gx6 ucv ucw ucx (_ : Hp nz wz S1 w1 ((some gx2, .row 28 (.i x2v.Kind :: U4 x2v.Set [.slice (Gp uar) uas uat, .i x2v.Min, .i x2v.Max]) 8 0) :: (uar, .row 28 uau (uat * kT27.size) 0) :: (some gx5, .row 69 [.string x5v.s, .i x5v.at_, .i x5v.deep, ucu] 4 0) :: (some gx6, .row 28 (.i x6v.Kind :: U4 x6v.Set [.slice ucv ucw ucx, .i x6v.Min, .i x6v.Max]) 8 0) :: Lr)) (_ : x2v.Set.length = 4) (_ : Els kT27 S1 w1 uau x2v.L) (_ : x2v.L.length = uas) (_ : PtO kT72 S1 w1 ucu x5v.bad) (_ : x6v.Set.length = 4) (_ : Rd kT27 S1 w1 ucv ucx x6v.L) (_ : x6v.L.length = ucw) (junk : Nat → Value),
 Goes Tryd.prog (base 11) Jk0 ⟨lfr 50 [(2, (pt gx2 0)), (5, (pt gx5 0)), (6, (pt gx6 0)), (29, .bool x29)] junk, []⟩ w1 (Done Tryd.prog 11 (Rets (Post.z2j nz wz S0 w0 Lr r)))

theorem W.z2m {nz wz S0 w0 Lr} [Gw nz wz] : ∀ a r, M.syntax_Parse_l0 a = some r → L.z2m nz wz S0 w0 Lr a r := by
 intro ⟨x2v, x5v, x6v, x29⟩ r h S1 w1 hx gx2 uar uas uat uau gx5 ucu gx6 ucv ucw ucx p1 uax uay uaz ucy u47 ucz ud0 junk
 rw [M.syntax_Parse_l0] at h
 try dsimp only at h
 subst uaz
 subst ud0
 refine ite_some h (fun h23 h => ?_) (fun h23 h => ?_)
 ·
  rw [h23]
  refine Goes.rn 6 [(30, (pt gx5 0)), (31, (pt gx5 0)), (32, (pt gx5 0)), (33, (pt gx5 1))] Jk1 ?_
  refine Goes.ld 3 (.tmp 33) 34 3 ⟨gx5, 1, none⟩ (.i x5v.at_) (p1.c 2 1) ?_
  have p1 := p1.fr 2
  refine bind_some' h fun y24 e25 h => ?_
  refine Goes.cal (kc 31 [30, 34] #[66, 3]) 35 28 31 _ (W.z13 x5v x5v.at_ y24 e25 gx5 ucu p1 ucy) ?_
  rintro _ w8 ⟨S8, u76, u77, u78, u79, rfl, z8, p8, u7a, u7b, rfl, u7c⟩
  refine Goes.rn 1 [] Jjy ?_
  have p8 := (((p8.fr 3).fr 1).fr 3).fr 3
  exact Goes.jp 50 [(2, (pt gx2 0)), (5, (pt gx5 0)), (6, (pt gx6 0))] (W.z2l _ _ h _ _ (hx.trans z8) gx2 uar x2v.L.length uat uau gx5 u79 gx6 ucv x6v.L.length ucx p8 uax (uay.ext z8) rfl u7c u47 (ucz.ext z8) rfl)
 ·
  have ud2 : x29 = false := by simpa using h23
  rw [ud2]
  refine Goes.rn 2 [] Jjy ?_
  exact Goes.jp 50 [(2, (pt gx2 0)), (5, (pt gx5 0)), (6, (pt gx6 0))] (W.z2l _ _ h _ _ hx gx2 uar x2v.L.length uat uau gx5 ucu gx6 ucv x6v.L.length ucx p1 uax uay rfl ucy u47 ucz rfl)

def Qfs := sub [1] B11
def Jk2 : List Item := [.code Qfs]
def Qft := sub [0] B11
def Jk3 : List Item := .inRegion (opsOf Qft) [0, 1, 2] :: Jk2
def Qfu := sub [1, 1] B11
def Jk4 : List Item := [.code Qfu]
def Qfv := sub [1, 0, 1] B11
def Jk5 : List Item := .code Qfv :: Jk4
def Qfw := sub [1, 0, 1, 0, 1] B11
def Jk6 : List Item := .code Qfw :: Jk4
def Qfx := sub [1, 0, 1, 0, 0] B11
def Jk7 : List Item := .inRegion (opsOf Qfx) [1, 2, 3] :: Jk6
def Qfy := sub [1, 1, 1] B11
def Jk8 : List Item := [.code Qfy]
def Qfz := sub [1, 1, 0] B11
def Jk9 : List Item := .inRegion (opsOf Qfz) [2, 3] :: Jk8
def Qg0 := sub [1, 1, 1, 1] B11
def Jka : List Item := [.code Qg0]
def Qg1 := sub [1, 1, 1, 0] B11
def Jkb : List Item := .inRegion (opsOf Qg1) [1, 2, 3] :: Jka
def Qg2 := sub [1, 1, 1, 1, 0, 0] B11
def Jkc : List Item := .inRegion (opsOf Qg2) [3, 4, 5, 6, 7, 8, 9, 10, 11, 12, 13] :: Jk0
def Jkd : List Item := .inRegion (opsOf Qg2) [9, 10, 11, 12, 13] :: Jk0

theorem W.z2j (x0 : ByteArray) (r : T27 × Int × Int) (h : M.syntax_Parse x0 = some r) {nz wz S0 w0 Lr} [Gw nz wz] (p0 : Hp nz wz S0 w0 (Lr)) :
  Calls Tryd.prog 11 #[.string x0] w0 (Rets (Post.z2j nz wz S0 w0 Lr r)) := by
 refine calls_of_goes (fn := Tryd.f11) (c := B11) (by kernel_rfl) (by kernel_rfl) 49 (by kernel_rfl) ?_
 refine Goes.jp 50 [(0, .string x0)] (fun junk => ?_)
 delta M.syntax_Parse at h
 refine Goes.rn 2 [] Jk3 ?_
 refine Op_.alloc 28 2 0 (.agg #[.i 0, .u 0, .u 0, .u 0, .u 0, .slice none 0 0, .i 0, .i 0]) [.i 0, .u 0, .u 0, .u 0, .u 0, .slice none 0 0, .i 0, .i 0] p0 Goes.v (by kernel_rfl) (by kernel_rfl) ?_
 intro b1 w2 z2 p2
 refine Goes.rn 10 [(3, .i 0), (4, .i 0), (7, .string x0), (8, .i (x0.size : Int)), (9, .bool (decide ((x0.size : Int) > 256)))] Jk5 ?_
 refine ite_some h (fun h3 h => ?_) (fun h3 h => ?_)
 ·
  rw [decide_eq_true h3]
  refine Goes.rn 4 [(10, .agg #[.i 0, .u 0, .u 0, .u 0, .u 0, .slice none 0 0, .i 0, .i 0])] Jk7 ?_
  refine Op_.st 28 (.tmp 2) (.tmp 10) 0 0 b1 0 (.agg #[.i 0, .u 0, .u 0, .u 0, .u 0, .slice none 0 0, .i 0, .i 0]) [.i 0, .u 0, .u 0, .u 0, .u 0, .slice none 0 0, .i 0, .i 0] p2 rfl Goes.s (by kernel_rfl) (by kernel_rfl) (by kernel_rfl) (by kernel_rfl) (Nat.zero_le _) (by simp only [List.length_cons, List.length_nil]; omega) (by simp [Value.oneCell']) ?_
  intro w3 z3 p3
  have p3 : Hp nz wz S0 w3 ((some b1, .row 28 [.i 0, .u 0, .u 0, .u 0, .u 0, .slice none 0 0, .i 0, .i 0] 8 0) :: Lr) := p3
  refine Goes.rn 3 [(3, .i 0), (4, .i 3)] Jk6 ?_
  obtain rfl := Option.some.inj h
  exact Goes.ret (fn := Tryd.f11) (by kernel_rfl) (v := .tuple #[.agg #[.i 0, .u 0, .u 0, .u 0, .u 0, .slice none 0 0, .i 0, .i 0], .i 0, .i 3]) (results_n3 (fn := Tryd.f11) (a := .cell 2 28) (b := .tmp 3) (c := .tmp 4) (by kernel_rfl) (resV_cell ⟨b1, 0, none⟩ (by kernel_rfl) (run_loadN [.i 0, .u 0, .u 0, .u 0, .u 0, .slice none 0 0, .i 0, .i 0] (by kernel_rfl) (by kernel_rfl) (p3.pa 0 0))) (resV_tmp (by kernel_rfl)) (resV_tmp (by kernel_rfl))) ⟨S0, none, 0, 0, rfl, (((Ext.refl S0 w0).trans z2).trans z3), p3.drop, rfl, Rd.none_, rfl⟩
 ·
  rw [decide_eq_false h3]
  refine Goes.rn 6 [(11, .string x0), (12, .agg #[.string x0, .i 0, .i 0, .pointer none])] Jk9 ?_
  refine Op_.box 69 (.tmp 12) 13 66 (.agg #[.string x0, .i 0, .i 0, .pointer none]) [.string x0, .i 0, .i 0, .pointer none] p2 Goes.v (by kernel_rfl) (by kernel_rfl) ?_
  intro b4 w4 z4 p4
  refine Goes.rn 5 [(5, (pt b4 0)), (14, (pt b4 0))] Jkb ?_
  refine bind_some' h fun y6 e7 h => ?_
  refine Goes.cal (kc 30 [14] #[66]) 15 28 30 _ (W.z27 (⟨x0, 0, 0, none⟩ : T68) y6 e7 b4 (.pointer none) p4 rfl) ?_
  rintro _ w5 ⟨S5, ubt, ubu, ubv, u7f, rfl, z5, p5, ubw, ubx, rfl, u7h⟩
  refine Op_.alloc 28 6 0 (.agg #[.i 0, .u 0, .u 0, .u 0, .u 0, .slice none 0 0, .i 0, .i 0]) [.i 0, .u 0, .u 0, .u 0, .u 0, .slice none 0 0, .i 0, .i 0] p5 Goes.v (by kernel_rfl) (by kernel_rfl) ?_
  intro b8 w6 z6 p6
  refine Op_.st 28 (.tmp 6) (.tmp 15) 0 0 b8 0 (ag (.i y6.1.Kind :: U4 y6.1.Set [.slice ubt y6.1.L.length ubv, .i y6.1.Min, .i y6.1.Max])) (.i y6.1.Kind :: U4 y6.1.Set [.slice ubt y6.1.L.length ubv, .i y6.1.Min, .i y6.1.Max]) p6 rfl Goes.s (by kernel_rfl) (by kernel_rfl) (by kernel_rfl) (by kernel_rfl) (Nat.zero_le _) (by simp only [List.length_cons, List.length_nil]; omega) (by simp [Value.oneCell']) ?_
  intro w7 z7 p7
  have p7 : Hp nz wz S5 w7 ((some b8, .row 28 (.i y6.1.Kind :: U4 y6.1.Set [.slice ubt y6.1.L.length ubv, .i y6.1.Min, .i y6.1.Max]) 8 0) :: (some b4, .row 69 [.string y6.2.s, .i y6.2.at_, .i y6.2.deep, u7f] 4 0) :: (some b1, .row 28 [.i 0, .u 0, .u 0, .u 0, .u 0, .slice none 0 0, .i 0, .i 0] 8 0) :: Lr) := p7
  refine Goes.rn 7 [(16, (pt b4 0)), (17, (pt b4 0)), (18, (pt b4 3))] Jkc ?_
  refine Goes.ld 67 (.tmp 18) 19 67 ⟨b4, 3, none⟩ (u7f) (p7.c 1 3) ?_
  refine let_some h fun v22 h10 h => ?_
  rcases v22 with _ | y11
  ·
   try dsimp only at h
   obtain rfl := PtO.nil (u7h.ext (z6.trans z7)) h10
   refine Goes.rn 5 [(20, .bool true), (21, .bool true), (22, (pt b4 0)), (23, (pt b4 0)), (24, (pt b4 1))] Jkd ?_
   refine Goes.ld 3 (.tmp 24) 25 3 ⟨b4, 1, none⟩ (.i y6.2.at_) (p7.c 1 1) ?_
   refine Goes.rn 5 [(26, .string x0), (27, .i (x0.size : Int)), (28, .bool (decide (y6.2.at_ < (x0.size : Int)))), (29, .bool (decide (y6.2.at_ < (x0.size : Int))))] Jk0 ?_
   have p7 : Hp nz wz S5 w7 ((none, .row 28 [] (0 * kT27.size) 0) :: (some b8, .row 28 (.i y6.1.Kind :: U4 y6.1.Set [.slice ubt y6.1.L.length ubv, .i y6.1.Min, .i y6.1.Max]) 8 0) :: (some b4, .row 69 [.string y6.2.s, .i y6.2.at_, .i y6.2.deep, .pointer none] 4 0) :: (some b1, .row 28 [.i 0, .u 0, .u 0, .u 0, .u 0, .slice none 0 0, .i 0, .i 0] 8 0) :: Lr) := p7.nilRow' 28
   have p7 := (((p7.fr 1).fr 2).fr 2).fr 3
   exact Goes.jp 50 [(2, (pt b1 0)), (5, (pt b4 0)), (6, (pt b8 0)), (29, .bool (decide (y6.2.at_ < (x0.size : Int))))] (W.z2m _ _ h _ _ ((((((Ext.refl S0 w0).trans z2).trans z4).trans z5).trans z6).trans z7) b1 none 0 0 [] b4 (.pointer none) b8 ubt y6.1.L.length ubv p7 rfl (Els.nil (K := kT27)) rfl rfl ubw (ubx.ext (z6.trans z7)) rfl)
  ·
   try dsimp only at h
   obtain ⟨a13, _, rfl, -, f14, q15⟩ := PtO.got (u7h.ext (z6.trans z7)) h10
   obtain rfl := q15
   refine Goes.rn 11 [(20, .bool false), (21, .bool false), (22, undef), (23, undef), (24, undef), (25, undef), (26, undef), (27, undef), (28, undef), (29, .bool false)] Jk0 ?_
   have p7 : Hp nz wz S5 w7 ((none, .row 28 [] (0 * kT27.size) 0) :: (some b8, .row 28 (.i y6.1.Kind :: U4 y6.1.Set [.slice ubt y6.1.L.length ubv, .i y6.1.Min, .i y6.1.Max]) 8 0) :: (some b4, .row 69 [.string y6.2.s, .i y6.2.at_, .i y6.2.deep, .pointer (some a13)] 4 0) :: (some b1, .row 28 [.i 0, .u 0, .u 0, .u 0, .u 0, .slice none 0 0, .i 0, .i 0] 8 0) :: Lr) := p7.nilRow' 28
   have p7 := (((p7.fr 1).fr 2).fr 2).fr 3
   exact Goes.jp 50 [(2, (pt b1 0)), (5, (pt b4 0)), (6, (pt b8 0)), (29, .bool false)] (W.z2m _ _ h _ _ ((((((Ext.refl S0 w0).trans z2).trans z4).trans z5).trans z6).trans z7) b1 none 0 0 [] b4 (.pointer (some a13)) b8 ubt y6.1.L.length ubv p7 rfl (Els.nil (K := kT27)) rfl ⟨_, _, rfl, List.cons_ne_nil _ _, f14, rfl⟩ ubw (ubx.ext (z6.trans z7)) rfl)

def Qg3 := sub [1, 1, 1] B67
def Jke : List Item := [.code Qg3]
def Qg4 := sub [1, 1, 0, 1] B67
def Jkf : List Item := .code Qg4 :: Jke
def Qg5 := sub [1, 1, 1, 1] B67
def Jkg : List Item := [.code Qg5]
def Jkh : List Item := .inBlock 0 :: Jkg
def Qg6 := sub [1, 1, 1, 0, 1, 0, 0] B67
def Jki : List Item := .inLoop Qg6 :: Jkh
def Jkj : List Item := .code Qg6 :: Jki
def Qg7 := sub [1] B67
def Jkk : List Item := [.code Qg7]
def Qg8 := sub [0] B67
def Jkl : List Item := .inRegion (opsOf Qg8) [0, 1] :: Jkk
def Qg9 := sub [1, 1] B67
def Jkm : List Item := [.code Qg9]
def Qga := sub [1, 0] B67
def Jkn : List Item := .inRegion (opsOf Qga) [2, 3, 4, 5] :: Jkm
def Jko : List Item := .inRegion (opsOf Qga) [5] :: Jkm
def Qgb := sub [1, 1, 0, 0] B67
def Jkp : List Item := .inRegion (opsOf Qgb) [3, 4, 5, 6, 7] :: Jkf
def Jkq : List Item := .inRegion (opsOf Qgb) [5, 6, 7] :: Jkf
def Qgc := sub [1, 1, 0, 1, 0, 1] B67
def Jkr : List Item := .code Qgc :: Jke
def Qgd := sub [1, 1, 1, 0, 1] B67
def Jks : List Item := .code Qgd :: Jkg
def Qge := sub [1, 1, 1, 0, 0] B67
def Jkt : List Item := .inRegion (opsOf Qge) [1, 2, 3] :: Jks
def Qgf := sub [1, 1, 1, 0, 1, 0, 0, 1, 1] B67
def Jku : List Item := .code Qgf :: Jki
def Qgg := sub [1, 1, 1, 0, 1, 0, 0, 1, 0] B67
def Jkv : List Item := .code Qgg :: Jku
def Qgh := sub [1, 1, 1, 0, 1, 0, 0, 1, 1, 1] B67
def Jkw : List Item := .code Qgh :: Jki
def Jkx : List Item := .inBlock 1 :: Jkw
def Qgi := sub [1, 1, 1, 0, 1, 0, 0, 1, 1, 0, 0, 1] B67
def Jky : List Item := .code Qgi :: Jkx
def Qgj := sub [1, 1, 1, 0, 1, 0, 0, 1, 1, 0, 0, 0] B67
def Jkz : List Item := .inRegion (opsOf Qgj) [0, 1, 2, 3] :: Jky
def Qgk := sub [1, 1, 1, 0, 1, 0, 0, 1, 1, 0, 0, 1, 1] B67
def Jl0 : List Item := .code Qgk :: Jkx
def Qgl := sub [1, 1, 1, 0, 1, 0, 0, 1, 1, 0, 0, 1, 0] B67
def Jl1 : List Item := .inRegion (opsOf Qgl) [0, 1, 2, 3, 4, 5] :: Jl0
def Jl2 : List Item := .inRegion (opsOf Qgl) [4, 5] :: Jl0
def Qgm := sub [1, 1, 1, 0, 1, 0, 0, 1, 1, 0, 0, 1, 1, 0, 1] B67
def Jl3 : List Item := .code Qgm :: Jkx
def Qgn := sub [1, 1, 1, 1, 1] B67
def Jl4 : List Item := [.code Qgn]

def Post.z2n (gx2 : Nat) (r : Bool × Int) (v : Value) (w' : World) : Prop :=
 ∃ S', v = .bool r.1 ∧ Ext S0 w0 S' w' ∧ Hp nz wz S' w' ((some gx2, .row 3 [.i r.2] 1 0) :: Lr)

def LF.z2n : T27 × Int × Int → (Bool × Int) → Prop := fun ⟨x0, x1, u4j⟩ r => ∀ {nz wz S0 w0 Lr} [Gw nz wz] ud3 ud4 ud5 gx2 (_ : Hp nz wz S0 w0 ((some gx2, .row 3 [.i u4j] 1 0) :: Lr)) (_ : x0.Set.length = 4) (_ : Rd kT27 S0 w0 ud3 ud5 x0.L) (_ : x0.L.length = ud4),
 Calls Tryd.prog 67 #[(ag (.i x0.Kind :: U4 x0.Set [.slice ud3 ud4 ud5, .i x0.Min, .i x0.Max])), .i x1, (pt gx2 0)] w0 (Rets (Post.z2n nz wz S0 w0 Lr gx2 r))

def L.z2o (gx2 : Nat) : Int × T27 × Bool × Int → (Bool × Int) → Prop := fun ⟨x1, x3v, x21, ud6⟩ r => ∀ S1 w1, Ext S0 w0 S1 w1 → ∀ gx3 ud7 ud8 ud9 (_ : Hp nz wz S1 w1 ((some gx3, .row 28 (.i x3v.Kind :: U4 x3v.Set [.slice ud7 ud8 ud9, .i x3v.Min, .i x3v.Max]) 8 0) :: (some gx2, .row 3 [.i ud6] 1 0) :: Lr)) (_ : x3v.Set.length = 4) (_ : Rd kT27 S1 w1 ud7 ud9 x3v.L) (_ : x3v.L.length = ud8) (junk : Nat → Value),
 Goes Tryd.prog (base 67) Jkf ⟨lfr 36 [(1, .i x1), (2, (pt gx2 0)), (3, (pt gx3 0)), (21, .bool x21)] junk, []⟩ w1 (Done Tryd.prog 67 (Rets (Post.z2n nz wz S0 w0 Lr gx2 r)))

def LL.z2o : Int × T27 × Bool × Int → (Bool × Int) → Prop := fun a r => ∀ {nz wz S0 w0 Lr} [Gw nz wz] (gx2 : Nat), L.z2o nz wz S0 w0 Lr gx2 a r

def L.z2p (gx2 : Nat) : Int × (List T27) × Int × Int × Int → (Bool × Int) → Prop := fun ⟨x1, x23, x24, x25, ud6⟩ r => ∀ S1 w1, Ext S0 w0 S1 w1 → ∀ uda udb udc (_ : Hp nz wz S1 w1 ((some gx2, .row 3 [.i ud6] 1 0) :: Lr)) (_ : Rd kT27 S1 w1 uda udc x23) (_ : x23.length = udb) (junk : Nat → Value),
 Goes Tryd.prog (base 67) Jkj ⟨lfr 36 [(1, .i x1), (2, (pt gx2 0)), (23, .slice uda udb udc), (24, .i x24), (25, .i x25)] junk, []⟩ w1 (Done Tryd.prog 67 (Rets (Post.z2n nz wz S0 w0 Lr gx2 r)))

def LL.z2p : Int × (List T27) × Int × Int × Int → (Bool × Int) → Prop := fun a r => ∀ {nz wz S0 w0 Lr} [Gw nz wz] (gx2 : Nat), L.z2p nz wz S0 w0 Lr gx2 a r

theorem W.z2q : (∀ a r, M.syntax_count a = some r → LF.z2n a r) ∧ (∀ a r, M.syntax_count_l0 a = some r → LL.z2o a r) ∧ (∀ a r, M.syntax_count_l1 a = some r → LL.z2p a r) := by
 refine M.syntax_count.mutual_partial_correctness LF.z2n LL.z2o LL.z2p ?_ ?_ ?_
 ·
  intro udd ude ⟨x0, x1, u4j⟩ r h nz wz S0 w0 Lr iG ud3 ud4 ud5 gx2 p0 u1 udf udg
  try dsimp only at h
  subst udg
  refine calls_of_goes (fn := Tryd.f67) (c := B67) (by kernel_rfl) (by kernel_rfl) 33 (by kernel_rfl) ?_
  refine Goes.jp 36 [(0, (ag (.i x0.Kind :: U4 x0.Set [.slice ud3 x0.L.length ud5, .i x0.Min, .i x0.Max]))), (1, .i x1), (2, (pt gx2 0))] (fun junk => ?_)
  refine Goes.rn 2 [] Jkl ?_
  refine Op_.box 28 (.tmp 0) 3 0 (ag (.i x0.Kind :: U4 x0.Set [.slice ud3 x0.L.length ud5, .i x0.Min, .i x0.Max])) (.i x0.Kind :: U4 x0.Set [.slice ud3 x0.L.length ud5, .i x0.Min, .i x0.Max]) p0 Goes.v (by kernel_rfl) (by kernel_rfl) ?_
  intro b2 w2 z2 p2
  refine Goes.rn 6 [(6, .bool false), (9, (pt gx2 0)), (10, (pt gx2 0))] Jkn ?_
  refine Goes.ld 3 (.tmp 10) 11 3 ⟨gx2, 0, none⟩ (.i u4j) (p2.c 1 0) ?_
  refine Goes.rn 2 [(12, .i (wr .i64 (u4j + 1))), (13, (pt gx2 0))] Jko ?_
  refine Op_.st 3 (.tmp 13) (.tmp 12) 0 1 gx2 0 (.i (wr .i64 (u4j + 1))) [.i (wr .i64 (u4j + 1))] p2 rfl Goes.s (by kernel_rfl) (by kernel_rfl) (by kernel_rfl) (by kernel_rfl) (Nat.zero_le _) (by simp only [List.length_cons, List.length_nil]; omega) (by simp [Value.oneCell']) ?_
  intro w3 z3 p3
  have p3 : Hp nz wz S0 w3 ((some b2, .row 28 (.i x0.Kind :: U4 x0.Set [.slice ud3 x0.L.length ud5, .i x0.Min, .i x0.Max]) 8 0) :: (some gx2, .row 3 [.i (wr .i64 (u4j + 1))] 1 0) :: Lr) := p3
  refine Goes.rn 7 [(14, .i x1), (15, .bool (decide (x1 = 0))), (16, .bool (decide (x1 = 0)))] Jkp ?_
  refine ite_some h (fun h4 h => ?_) (fun h4 h => ?_)
  ·
   rw [decide_eq_true h4]
   refine Goes.rn 6 [(17, undef), (18, undef), (19, undef), (20, undef), (21, .bool true)] Jkf ?_
   exact Goes.jp 36 [(1, .i x1), (2, (pt gx2 0)), (3, (pt b2 0)), (21, .bool true)] (ude _ _ h gx2 _ _ (((Ext.refl S0 w0).trans z2).trans z3) b2 ud3 x0.L.length ud5 p3 u1 (udf.ext (z2.trans z3)) rfl)
  ·
   rw [decide_eq_false h4]
   refine Goes.rn 2 [(17, (pt gx2 0)), (18, (pt gx2 0))] Jkq ?_
   refine Goes.ld 3 (.tmp 18) 19 3 ⟨gx2, 0, none⟩ (.i (wr .i64 (u4j + 1))) (p3.c 1 0) ?_
   refine Goes.rn 3 [(20, .bool (decide (wr .i64 (u4j + 1) > 4096))), (21, .bool (decide (wr .i64 (u4j + 1) > 4096)))] Jkf ?_
   exact Goes.jp 36 [(1, .i x1), (2, (pt gx2 0)), (3, (pt b2 0)), (21, .bool (decide (wr .i64 (u4j + 1) > 4096)))] (ude _ _ h gx2 _ _ (((Ext.refl S0 w0).trans z2).trans z3) b2 ud3 x0.L.length ud5 p3 u1 (udf.ext (z2.trans z3)) rfl)
 ·
  intro udh udi ⟨x1, x3v, x21, ud6⟩ r h nz wz S0 w0 Lr iG gx2 S1 w1 hx gx3 ud7 ud8 ud9 p1 udj udk udl junk
  try dsimp only at h
  subst udl
  refine ite_some h (fun h6 h => ?_) (fun h6 h => ?_)
  ·
   rw [h6]
   refine Goes.rn 5 [(6, .bool false)] Jkr ?_
   obtain rfl := Option.some.inj h
   have p1 := p1.dp 0
   exact Goes.rt Tryd.f67 (.bool false) ⟨S1, rfl, hx, p1⟩
  ·
   have h6' : x21 = false := by simpa using h6
   rw [h6']
   refine Goes.rn 6 [(22, (pt gx3 5))] Jkt ?_
   refine Goes.ld 26 (.tmp 22) 23 26 ⟨gx3, 5, none⟩ (.slice ud7 x3v.L.length ud9) (p1.c 0 5) ?_
   refine Goes.rn 5 [(24, .i (x3v.L.length : Int)), (25, .i 0)] Jkj ?_
   have p1 := p1.dp 0
   exact Goes.jp 36 [(1, .i x1), (2, (pt gx2 0)), (23, .slice ud7 x3v.L.length ud9), (24, .i (x3v.L.length : Int)), (25, .i 0)] (udi _ _ h gx2 _ _ hx ud7 x3v.L.length ud9 p1 udk rfl)
 ·
  intro rec_syntax_count udh ih_syntax_count udi ⟨x1, x23, x24, x25, ud6⟩ r h nz wz S0 w0 Lr iG gx2 S1 w1 hx uda udb udc p1 udm udn junk
  try dsimp only at h
  subst udn
  refine Goes.rn 5 [(26, .bool (decide (x25 < x24)))] Jkv ?_
  refine ite_some h (fun h7 h => ?_) (fun h7 h => ?_)
  ·
   rw [decide_eq_true h7]
   refine Goes.rn 6 [] Jkz ?_
   refine guard_some' h fun g8 h => ?_
   refine guard_some' h fun g9 h => ?_
   refine Op_.ixR_n 26 (.tmp 23) (.tmp 25) 27 0 28 .i64 x25 (gi x23 x25) rfl rfl udm Goes.v (by kernel_rfl) (by kernel_rfl) (by kernel_rfl) (by kernel_rfl) g8 g9 ?_
   intro a10 _ f11 q12
   have q13 := q12
   obtain ⟨_, _, rfl, rfl, ⟨_, _, rfl, ⟨l14, f15⟩, ⟨_, _, rfl, ⟨A16, c17, rfl, f18⟩, ⟨_, _, rfl, rfl, rfl⟩⟩⟩⟩ := kT27_open q13
   obtain rfl := els_lit4' f15 l14
   refine Goes.ldN 28 (.tmp 27) 28 28 a10 ([.i ((gi x23 x25).Kind)] ++ ((U4 ((gi x23 x25).Set) []) ++ ([.slice A16 (((gi x23 x25).L).length) c17] ++ ([.i ((gi x23 x25).Min)] ++ [.i ((gi x23 x25).Max)])))) (f11.cell) ?_
   refine Op_.alloc 28 8 0 (.agg #[.i 0, .u 0, .u 0, .u 0, .u 0, .slice none 0 0, .i 0, .i 0]) [.i 0, .u 0, .u 0, .u 0, .u 0, .slice none 0 0, .i 0, .i 0] p1 Goes.v (by kernel_rfl) (by kernel_rfl) ?_
   intro b19 w4 z4 p4
   refine Op_.st 28 (.tmp 8) (.tmp 28) 0 0 b19 0 (ag (.i ((gi x23 x25).Kind) :: U4 ((gi x23 x25).Set) [.slice A16 (((gi x23 x25).L).length) c17, .i ((gi x23 x25).Min), .i ((gi x23 x25).Max)])) (.i ((gi x23 x25).Kind) :: U4 ((gi x23 x25).Set) [.slice A16 (((gi x23 x25).L).length) c17, .i ((gi x23 x25).Min), .i ((gi x23 x25).Max)]) p4 rfl Goes.s (by kernel_rfl) (by kernel_rfl) (by kernel_rfl) (by kernel_rfl) (Nat.zero_le _) (by simp only [List.length_cons, List.length_nil]; omega) (by simp [Value.oneCell']) ?_
   intro w5 z5 p5
   have p5 : Hp nz wz S1 w5 ((some b19, .row 28 (.i ((gi x23 x25).Kind) :: U4 ((gi x23 x25).Set) [.slice A16 (((gi x23 x25).L).length) c17, .i ((gi x23 x25).Min), .i ((gi x23 x25).Max)]) 8 0) :: (some gx2, .row 3 [.i ud6] 1 0) :: Lr) := p5
   refine Goes.rn 3 [] Jl1 ?_
   refine Goes.ldN 28 (.tmp 8) 29 28 ⟨b19, 0, none⟩ (.i ((gi x23 x25).Kind) :: U4 ((gi x23 x25).Set) [.slice A16 (((gi x23 x25).L).length) c17, .i ((gi x23 x25).Min), .i ((gi x23 x25).Max)]) (p5.pa 0 0) ?_
   refine Goes.rn 3 [(30, .i x1), (31, .i (wr .i64 (x1 - 1))), (32, (pt gx2 0))] Jl2 ?_
   have p5 := p5.fr 1
   refine bind_some' h fun y21 e22 h => ?_
   refine Goes.cal (kc 67 [29, 31, 32] #[28, 3, 75]) 33 4 67 _ (ih_syntax_count ((⟨(gi x23 x25).Kind, ((gi x23 x25).Set), (gi x23 x25).L, (gi x23 x25).Min, (gi x23 x25).Max⟩ : T27), wr .i64 (x1 - 1), ud6) y21 e22 A16 (((gi x23 x25).L).length) c17 gx2 p5 l14 (f18.ext (z4.trans z5)) rfl) ?_
   rintro _ w6 ⟨S6, rfl, z6, p6⟩
   have p6 := p6.dp 1
   refine Goes.rn 2 [(34, .bool (!y21.1))] Jl0 ?_
   refine ite_some h (fun h23 h => ?_) (fun h23 h => ?_)
   ·
    rw [h23]
    refine Goes.rn 8 [(35, .i (wr .i64 (x25 + 1))), (25, .i (wr .i64 (x25 + 1)))] Jkj ?_
    exact Goes.jp 36 [(1, .i x1), (2, (pt gx2 0)), (23, .slice uda x23.length udc), (24, .i x24), (25, .i (wr .i64 (x25 + 1)))] (udi _ _ h gx2 _ _ (((hx.trans z4).trans z5).trans z6) uda x23.length udc p6 (udm.ext ((z4.trans z5).trans z6)) rfl)
   ·
    have ud2 : y21.1 = false := by simpa using h23
    rw [ud2]
    refine Goes.rn 5 [(6, .bool false)] Jl3 ?_
    obtain rfl := Option.some.inj h
    exact Goes.rt Tryd.f67 (.bool false) ⟨S6, rfl, (((hx.trans z4).trans z5).trans z6), p6⟩
  ·
   rw [decide_eq_false h7]
   refine Goes.rn 6 [(6, .bool true)] Jl4 ?_
   obtain rfl := Option.some.inj h
   exact Goes.rt Tryd.f67 (.bool true) ⟨S1, rfl, hx, p1⟩

theorem W.z2n : ∀ a r, M.syntax_count a = some r → LF.z2n a r := (W.z2q).1

theorem W.z2o : ∀ a r, M.syntax_count_l0 a = some r → LL.z2o a r := (W.z2q).2.1

theorem W.z2p : ∀ a r, M.syntax_count_l1 a = some r → LL.z2p a r := (W.z2q).2.2

def Qgo := sub [1, 1, 1, 1] B80
def Jl5 : List Item := [.code Qgo]
def Jl6 : List Item := .inBlock 0 :: Jl5
def Qgp := sub [1, 1, 1, 0, 1, 0, 1, 1, 1, 1, 1, 0, 1, 1] B80
def Jl7 : List Item := .code Qgp :: Jl6
def Qgq := sub [1, 1, 1, 0, 1, 0, 1, 1, 1, 1, 1, 0, 1, 1, 1] B80
def Jl8 : List Item := .code Qgq :: Jl6
def Qgr := sub [1, 1, 1, 0, 1, 0, 1, 1, 1, 1, 1, 0, 1, 1, 0] B80
def Jl9 : List Item := .inRegion (opsOf Qgr) [1, 2, 3, 4, 5, 6, 7, 8, 9, 10, 11, 12, 13, 14, 15, 16] :: Jl8
def Jla : List Item := .inRegion (opsOf Qgr) [5, 6, 7, 8, 9, 10, 11, 12, 13, 14, 15, 16] :: Jl8
def Jlb : List Item := .inRegion (opsOf Qgr) [6, 7, 8, 9, 10, 11, 12, 13, 14, 15, 16] :: Jl8
def Jlc : List Item := .inRegion (opsOf Qgr) [11, 12, 13, 14, 15, 16] :: Jl8
def Jld : List Item := .inRegion (opsOf Qgr) [14, 15, 16] :: Jl8

def Post.z2r (r : Bool) (v : Value) (w' : World) : Prop :=
 ∃ S', v = .bool r ∧ Ext S0 w0 S' w' ∧ Hp nz wz S' w' (Lr)

def L.z2s : T27 × (List Int) × Bool × Bool → Bool → Prop := fun ⟨x1v, udo, x5, x6⟩ r => ∀ S1 w1, Ext S0 w0 S1 w1 → ∀ gx1 udp udq udr gx3 (_ : Hp nz wz S1 w1 ((some gx1, .row 28 (.i x1v.Kind :: U4 x1v.Set [.slice udp udq udr, .i x1v.Min, .i x1v.Max]) 8 0) :: (some gx3, .row 25 (U4 udo []) 4 0) :: Lr)) (_ : x1v.Set.length = 4) (_ : Rd kT27 S1 w1 udp udr x1v.L) (_ : x1v.L.length = udq) (_ : udo.length = 4) (junk : Nat → Value),
 Goes Tryd.prog (base 80) Jl7 ⟨lfr 77 [(1, (pt gx1 0)), (3, (pt gx3 0)), (5, .bool x5), (6, .bool x6)] junk, []⟩ w1 (Done Tryd.prog 80 (Rets (Post.z2r nz wz S0 w0 Lr r)))

theorem W.z2s {nz wz S0 w0 Lr} [Gw nz wz] : ∀ a r, M.syntax_shaped_l3 a = some r → L.z2s nz wz S0 w0 Lr a r := by
 intro ⟨x1v, udo, x5, x6⟩ r h S1 w1 hx gx1 udp udq udr gx3 p1 ui uds udt udu junk
 rw [M.syntax_shaped_l3] at h
 try dsimp only at h
 subst udt
 refine Goes.rn 3 [(61, (pt gx1 5))] Jl9 ?_
 refine Goes.ld 26 (.tmp 61) 62 26 ⟨gx1, 5, none⟩ (.slice udp x1v.L.length udr) (p1.c 0 5) ?_
 refine Goes.rn 3 [(63, .i (x1v.L.length : Int)), (64, .bool (decide ((x1v.L.length : Int) = 1))), (65, .bool (decide ((x1v.L.length : Int) = 1)))] Jla ?_
 refine ite_some h (fun h23 h => ?_) (fun h23 h => ?_)
 ·
  rw [decide_eq_true h23]
  refine Goes.rn 1 [(66, (pt gx1 1))] Jlb ?_
  refine Goes.ldN 25 (.tmp 66) 67 25 ⟨gx1, 1, none⟩ (U4 x1v.Set []) (p1.pa 0 1) ?_
  refine Goes.ldN 25 (.tmp 3) 68 25 ⟨gx3, 0, none⟩ (U4 udo []) (p1.pa 1 0) ?_
  refine Op_.eqA 25 (.tmp 67) (.tmp 68) 25 69 4 23 4 .u64 (us := ((U4 x1v.Set []) : List Value)) (vs := ((U4 udo []) : List Value)) Goes.v (by kernel_rfl) (by kernel_rfl) (by kernel_rfl) (by kernel_rfl) (by kernel_rfl) (by kernel_rfl) (by kernel_rfl) (els_mk4 (S := S1) (w := w1) (k := .u64) ui) (els_mk4 (S := S1) (w := w1) (k := .u64) udu) (Els.len1 (els_mk4 (S := S1) (w := w1) (k := .u64) ui) rfl rfl) (Els.len1 (els_mk4 (S := S1) (w := w1) (k := .u64) udu) rfl rfl) ?_
  refine Goes.rn 2 [(70, .bool (decide (x1v.Set = udo))), (71, .bool (decide (x1v.Set = udo)))] Jlc ?_
  refine ite_some h (fun h24 h => ?_) (fun h24 h => ?_)
  ·
   rw [decide_eq_true h24]
   refine Goes.rn 3 [(72, .bool x5), (73, .bool x5), (74, .bool x5)] Jld ?_
   refine ite_some h (fun h25 h => ?_) (fun h25 h => ?_)
   ·
    rw [h25]
    refine Goes.rn 4 [(75, .bool x6), (76, .bool x6), (2, .bool x6)] Jl8 ?_
    obtain rfl := Option.some.inj h
    have p1 := (p1.dp 0).dp 0
    exact Goes.rt Tryd.f80 (.bool x6) ⟨S1, rfl, hx, p1⟩
   ·
    have ubg : x5 = false := by simpa using h25
    rw [ubg]
    refine Goes.rn 4 [(75, undef), (76, .bool false), (2, .bool false)] Jl8 ?_
    obtain rfl := Option.some.inj h
    have p1 := (p1.dp 0).dp 0
    exact Goes.rt Tryd.f80 (.bool false) ⟨S1, rfl, hx, p1⟩
  ·
   rw [decide_eq_false h24]
   refine Goes.rn 7 [(72, undef), (73, .bool false), (74, .bool false), (75, undef), (76, .bool false), (2, .bool false)] Jl8 ?_
   obtain rfl := Option.some.inj h
   have p1 := (p1.dp 0).dp 0
   exact Goes.rt Tryd.f80 (.bool false) ⟨S1, rfl, hx, p1⟩
 ·
  rw [decide_eq_false h23]
  refine Goes.rn 13 [(66, undef), (67, undef), (68, undef), (69, undef), (70, .bool false), (71, .bool false), (72, undef), (73, .bool false), (74, .bool false), (75, undef), (76, .bool false), (2, .bool false)] Jl8 ?_
  obtain rfl := Option.some.inj h
  have p1 := (p1.dp 0).dp 0
  exact Goes.rt Tryd.f80 (.bool false) ⟨S1, rfl, hx, p1⟩

def Qgs := sub [1, 1, 1, 0, 1, 0, 1, 1, 1, 1, 1, 0, 1] B80
def Jle : List Item := .code Qgs :: Jl6
def Qgt := sub [1, 1, 1, 0, 1, 0, 1, 1, 1, 1, 1, 0, 1, 0] B80
def Jlf : List Item := .inRegion (opsOf Qgt) [1, 2, 3, 4, 5, 6, 7, 8, 9, 10, 11, 12, 13, 14, 15] :: Jl7
def Jlg : List Item := .inRegion (opsOf Qgt) [4, 5, 6, 7, 8, 9, 10, 11, 12, 13, 14, 15] :: Jl7
def Jlh : List Item := .inRegion (opsOf Qgt) [5, 6, 7, 8, 9, 10, 11, 12, 13, 14, 15] :: Jl7
def Jli : List Item := .inRegion (opsOf Qgt) [7, 8, 9, 10, 11, 12, 13, 14, 15] :: Jl7
def Jlj : List Item := .inRegion (opsOf Qgt) [10, 11, 12, 13, 14, 15] :: Jl7
def Jlk : List Item := .inRegion (opsOf Qgt) [11, 12, 13, 14, 15] :: Jl7

def L.z2t : T27 × (List Int) × Bool → Bool → Prop := fun ⟨x1v, udo, x5⟩ r => ∀ S1 w1, Ext S0 w0 S1 w1 → ∀ gx1 udp udq udr gx3 (_ : Hp nz wz S1 w1 ((some gx1, .row 28 (.i x1v.Kind :: U4 x1v.Set [.slice udp udq udr, .i x1v.Min, .i x1v.Max]) 8 0) :: (some gx3, .row 25 (U4 udo []) 4 0) :: Lr)) (_ : x1v.Set.length = 4) (_ : Rd kT27 S1 w1 udp udr x1v.L) (_ : x1v.L.length = udq) (_ : udo.length = 4) (junk : Nat → Value),
 Goes Tryd.prog (base 80) Jle ⟨lfr 77 [(1, (pt gx1 0)), (3, (pt gx3 0)), (5, .bool x5)] junk, []⟩ w1 (Done Tryd.prog 80 (Rets (Post.z2r nz wz S0 w0 Lr r)))

theorem W.z2t {nz wz S0 w0 Lr} [Gw nz wz] : ∀ a r, M.syntax_shaped_l2 a = some r → L.z2t nz wz S0 w0 Lr a r := by
 intro ⟨x1v, udo, x5⟩ r h S1 w1 hx gx1 udp udq udr gx3 p1 ui uds udt udu junk
 rw [M.syntax_shaped_l2] at h
 try dsimp only at h
 subst udt
 refine Goes.rn 3 [(46, (pt gx1 7))] Jlf ?_
 refine Goes.ld 3 (.tmp 46) 47 3 ⟨gx1, 7, none⟩ (.i x1v.Max) (p1.c 0 7) ?_
 refine Goes.rn 2 [(48, .bool (decide (x1v.Max = (-1)))), (49, .bool (decide (x1v.Max = (-1))))] Jlg ?_
 refine ite_some h (fun h19 h => ?_) (fun h19 h => ?_)
 ·
  rw [decide_eq_true h19]
  refine Goes.rn 13 [(50, undef), (51, undef), (52, undef), (53, undef), (54, undef), (55, undef), (56, undef), (57, undef), (58, undef), (59, undef), (60, .bool true), (6, .bool true)] Jl7 ?_
  exact Goes.jp 77 [(1, (pt gx1 0)), (3, (pt gx3 0)), (5, .bool x5), (6, .bool true)] (W.z2s _ _ h _ _ hx gx1 udp x1v.L.length udr gx3 p1 ui uds rfl udu)
 ·
  rw [decide_eq_false h19]
  refine Goes.rn 1 [(50, (pt gx1 7))] Jlh ?_
  refine Goes.ld 3 (.tmp 50) 51 3 ⟨gx1, 7, none⟩ (.i x1v.Max) (p1.c 0 7) ?_
  refine Goes.rn 1 [(52, (pt gx1 6))] Jli ?_
  refine Goes.ld 3 (.tmp 52) 53 3 ⟨gx1, 6, none⟩ (.i x1v.Min) (p1.c 0 6) ?_
  refine Goes.rn 2 [(54, .bool (decide (x1v.Max ≥ x1v.Min))), (55, .bool (decide (x1v.Max ≥ x1v.Min)))] Jlj ?_
  refine ite_some h (fun h22 h => ?_) (fun h22 h => ?_)
  ·
   rw [decide_eq_true h22]
   refine Goes.rn 1 [(56, (pt gx1 7))] Jlk ?_
   refine Goes.ld 3 (.tmp 56) 57 3 ⟨gx1, 7, none⟩ (.i x1v.Max) (p1.c 0 7) ?_
   refine Goes.rn 5 [(58, .bool (decide (x1v.Max ≤ 64))), (59, .bool (decide (x1v.Max ≤ 64))), (60, .bool (decide (x1v.Max ≤ 64))), (6, .bool (decide (x1v.Max ≤ 64)))] Jl7 ?_
   exact Goes.jp 77 [(1, (pt gx1 0)), (3, (pt gx3 0)), (5, .bool x5), (6, .bool (decide (x1v.Max ≤ 64)))] (W.z2s _ _ h _ _ hx gx1 udp x1v.L.length udr gx3 p1 ui uds rfl udu)
  ·
   rw [decide_eq_false h22]
   refine Goes.rn 7 [(56, undef), (57, undef), (58, undef), (59, .bool false), (60, .bool false), (6, .bool false)] Jl7 ?_
   exact Goes.jp 77 [(1, (pt gx1 0)), (3, (pt gx3 0)), (5, .bool x5), (6, .bool false)] (W.z2s _ _ h _ _ hx gx1 udp x1v.L.length udr gx3 p1 ui uds rfl udu)

def Qgu := sub [1, 1, 1, 0, 1, 0, 1, 1, 1] B80
def Jll : List Item := .code Qgu :: Jl6
def Qgv := sub [1, 1, 1, 0, 1, 0, 1, 1, 1, 0, 1] B80
def Jlm : List Item := .code Qgv :: Jl6
def Qgw := sub [1, 1, 1, 0, 1, 0, 1, 1, 1, 0, 0] B80
def Jln : List Item := .inRegion (opsOf Qgw) [1, 2, 3, 4, 5, 6, 7] :: Jlm
def Jlo : List Item := .inRegion (opsOf Qgw) [5, 6, 7] :: Jlm
def Qgx := sub [1, 1, 1, 0, 1, 0, 1, 1, 1, 1, 1] B80
def Jlp : List Item := .code Qgx :: Jl6
def Qgy := sub [1, 1, 1, 0, 1, 0, 1, 1, 1, 1, 1, 0, 0] B80
def Jlq : List Item := .inRegion (opsOf Qgy) [1, 2, 3, 4, 5, 6, 7, 8] :: Jle
def Jlr : List Item := .inRegion (opsOf Qgy) [4, 5, 6, 7, 8] :: Jle
def Jls : List Item := .inRegion (opsOf Qgy) [5, 6, 7, 8] :: Jle
def Qgz := sub [1, 1, 1, 1, 1] B80
def Jlt : List Item := [.code Qgz]

def L.z2u : T27 × (List Int) × Bool × Int × Bool → Bool → Prop := fun ⟨x1v, udo, x4, x16, x26⟩ r => ∀ S1 w1, Ext S0 w0 S1 w1 → ∀ gx1 udp udq udr gx3 (_ : Hp nz wz S1 w1 ((some gx1, .row 28 (.i x1v.Kind :: U4 x1v.Set [.slice udp udq udr, .i x1v.Min, .i x1v.Max]) 8 0) :: (some gx3, .row 25 (U4 udo []) 4 0) :: Lr)) (_ : x1v.Set.length = 4) (_ : Rd kT27 S1 w1 udp udr x1v.L) (_ : x1v.L.length = udq) (_ : udo.length = 4) (junk : Nat → Value),
 Goes Tryd.prog (base 80) Jll ⟨lfr 77 [(1, (pt gx1 0)), (3, (pt gx3 0)), (4, .bool x4), (16, .i x16), (26, .bool x26)] junk, []⟩ w1 (Done Tryd.prog 80 (Rets (Post.z2r nz wz S0 w0 Lr r)))

theorem W.z2u {nz wz S0 w0 Lr} [Gw nz wz] : ∀ a r, M.syntax_shaped_l1 a = some r → L.z2u nz wz S0 w0 Lr a r := by
 intro ⟨x1v, udo, x4, x16, x26⟩ r h S1 w1 hx gx1 udp udq udr gx3 p1 ui uds udt udu junk
 rw [M.syntax_shaped_l1] at h
 try dsimp only at h
 subst udt
 refine ite_some h (fun h13 h => ?_) (fun h13 h => ?_)
 ·
  rw [h13]
  refine Goes.rn 4 [(29, (pt gx1 1))] Jln ?_
  refine Goes.ldN 25 (.tmp 29) 30 25 ⟨gx1, 1, none⟩ (U4 x1v.Set []) (p1.pa 0 1) ?_
  refine Goes.ldN 25 (.tmp 3) 31 25 ⟨gx3, 0, none⟩ (U4 udo []) (p1.pa 1 0) ?_
  refine Op_.eqA 25 (.tmp 30) (.tmp 31) 25 32 4 23 4 .u64 (us := ((U4 x1v.Set []) : List Value)) (vs := ((U4 udo []) : List Value)) Goes.v (by kernel_rfl) (by kernel_rfl) (by kernel_rfl) (by kernel_rfl) (by kernel_rfl) (by kernel_rfl) (by kernel_rfl) (els_mk4 (S := S1) (w := w1) (k := .u64) ui) (els_mk4 (S := S1) (w := w1) (k := .u64) udu) (Els.len1 (els_mk4 (S := S1) (w := w1) (k := .u64) ui) rfl rfl) (Els.len1 (els_mk4 (S := S1) (w := w1) (k := .u64) udu) rfl rfl) ?_
  refine Goes.rn 1 [(33, .bool (decide (x1v.Set = udo)))] Jlo ?_
  refine ite_some h (fun h14 h => ?_) (fun h14 h => ?_)
  ·
   rw [decide_eq_true h14]
   refine Goes.rn 4 [(34, .bool x4), (35, .bool x4), (2, .bool x4)] Jlm ?_
   obtain rfl := Option.some.inj h
   have p1 := (p1.dp 0).dp 0
   exact Goes.rt Tryd.f80 (.bool x4) ⟨S1, rfl, hx, p1⟩
  ·
   rw [decide_eq_false h14]
   refine Goes.rn 4 [(34, undef), (35, .bool false), (2, .bool false)] Jlm ?_
   obtain rfl := Option.some.inj h
   have p1 := (p1.dp 0).dp 0
   exact Goes.rt Tryd.f80 (.bool false) ⟨S1, rfl, hx, p1⟩
 ·
  have u2 : x26 = false := by simpa using h13
  rw [u2]
  refine Goes.rn 6 [(37, .bool (decide (x16 = 4))), (36, .bool (decide (x16 = 4)))] Jlp ?_
  refine ite_some h (fun h15 h => ?_) (fun h15 h => ?_)
  ·
   rw [decide_eq_true h15]
   refine Goes.rn 4 [(38, (pt gx1 6))] Jlq ?_
   refine Goes.ld 3 (.tmp 38) 39 3 ⟨gx1, 6, none⟩ (.i x1v.Min) (p1.c 0 6) ?_
   refine Goes.rn 2 [(40, .bool (decide (x1v.Min ≥ 0))), (41, .bool (decide (x1v.Min ≥ 0)))] Jlr ?_
   refine ite_some h (fun h16 h => ?_) (fun h16 h => ?_)
   ·
    rw [decide_eq_true h16]
    refine Goes.rn 1 [(42, (pt gx1 6))] Jls ?_
    refine Goes.ld 3 (.tmp 42) 43 3 ⟨gx1, 6, none⟩ (.i x1v.Min) (p1.c 0 6) ?_
    refine Goes.rn 4 [(44, .bool (decide (x1v.Min ≤ 64))), (45, .bool (decide (x1v.Min ≤ 64))), (5, .bool (decide (x1v.Min ≤ 64)))] Jle ?_
    exact Goes.jp 77 [(1, (pt gx1 0)), (3, (pt gx3 0)), (5, .bool (decide (x1v.Min ≤ 64)))] (W.z2t _ _ h _ _ hx gx1 udp x1v.L.length udr gx3 p1 ui uds rfl udu)
   ·
    rw [decide_eq_false h16]
    refine Goes.rn 6 [(42, undef), (43, undef), (44, undef), (45, .bool false), (5, .bool false)] Jle ?_
    exact Goes.jp 77 [(1, (pt gx1 0)), (3, (pt gx3 0)), (5, .bool false)] (W.z2t _ _ h _ _ hx gx1 udp x1v.L.length udr gx3 p1 ui uds rfl udu)
  ·
   rw [decide_eq_false h15]
   refine Goes.rn 7 [(2, .bool false)] Jlt ?_
   obtain rfl := Option.some.inj h
   have p1 := (p1.dp 0).dp 0
   exact Goes.rt Tryd.f80 (.bool false) ⟨S1, rfl, hx, p1⟩

def Qh0 := sub [1, 1, 1] B80
def Jlu : List Item := [.code Qh0]
def Qh1 := sub [1, 1, 1, 0, 1] B80
def Jlv : List Item := .code Qh1 :: Jl5
def Qh2 := sub [1, 1, 1, 0, 0] B80
def Jlw : List Item := .inRegion (opsOf Qh2) [1] :: Jlv
def Qh3 := sub [1, 1, 1, 0, 1, 0, 1] B80
def Jlx : List Item := .code Qh3 :: Jl6
def Qh4 := sub [1, 1, 1, 0, 1, 0, 1, 0, 1] B80
def Jly : List Item := .code Qh4 :: Jl6
def Qh5 := sub [1, 1, 1, 0, 1, 0, 1, 0, 0] B80
def Jlz : List Item := .inRegion (opsOf Qh5) [1, 2, 3, 4, 5, 6, 7] :: Jly
def Jm0 : List Item := .inRegion (opsOf Qh5) [5, 6, 7] :: Jly
def Qh6 := sub [1, 1, 1, 0, 1, 0, 1, 1, 0, 1] B80
def Jm1 : List Item := .code Qh6 :: Jll

def L.z2v : T27 × (List Int) × Bool → Bool → Prop := fun ⟨x1v, udo, x4⟩ r => ∀ S1 w1, Ext S0 w0 S1 w1 → ∀ gx1 udp udq udr gx3 (_ : Hp nz wz S1 w1 ((some gx1, .row 28 (.i x1v.Kind :: U4 x1v.Set [.slice udp udq udr, .i x1v.Min, .i x1v.Max]) 8 0) :: (some gx3, .row 25 (U4 udo []) 4 0) :: Lr)) (_ : x1v.Set.length = 4) (_ : Rd kT27 S1 w1 udp udr x1v.L) (_ : x1v.L.length = udq) (_ : udo.length = 4) (junk : Nat → Value),
 Goes Tryd.prog (base 80) Jlu ⟨lfr 77 [(1, (pt gx1 0)), (3, (pt gx3 0)), (4, .bool x4)] junk, []⟩ w1 (Done Tryd.prog 80 (Rets (Post.z2r nz wz S0 w0 Lr r)))

theorem W.z2v {nz wz S0 w0 Lr} [Gw nz wz] : ∀ a r, M.syntax_shaped_l0 a = some r → L.z2v nz wz S0 w0 Lr a r := by
 intro ⟨x1v, udo, x4⟩ r h S1 w1 hx gx1 udp udq udr gx3 p1 ui uds udt udu junk
 rw [M.syntax_shaped_l0] at h
 try dsimp only at h
 subst udt
 refine Goes.rn 4 [(15, (pt gx1 0))] Jlw ?_
 refine Goes.ld 3 (.tmp 15) 16 3 ⟨gx1, 0, none⟩ (.i x1v.Kind) (p1.c 0 0) ?_
 refine Goes.rn 7 [(18, .bool (decide (x1v.Kind = 1))), (17, .bool (decide (x1v.Kind = 1)))] Jlx ?_
 refine ite_some h (fun h8 h => ?_) (fun h8 h => ?_)
 ·
  rw [decide_eq_true h8]
  refine Goes.rn 4 [(19, (pt gx1 5))] Jlz ?_
  refine Goes.ld 26 (.tmp 19) 20 26 ⟨gx1, 5, none⟩ (.slice udp x1v.L.length udr) (p1.c 0 5) ?_
  refine Goes.rn 3 [(21, .i (x1v.L.length : Int)), (22, .bool (decide ((x1v.L.length : Int) = 0))), (23, .bool (decide ((x1v.L.length : Int) = 0)))] Jm0 ?_
  refine ite_some h (fun h9 h => ?_) (fun h9 h => ?_)
  ·
   rw [decide_eq_true h9]
   refine Goes.rn 4 [(24, .bool x4), (25, .bool x4), (2, .bool x4)] Jly ?_
   obtain rfl := Option.some.inj h
   have p1 := (p1.dp 0).dp 0
   exact Goes.rt Tryd.f80 (.bool x4) ⟨S1, rfl, hx, p1⟩
  ·
   rw [decide_eq_false h9]
   refine Goes.rn 4 [(24, undef), (25, .bool false), (2, .bool false)] Jly ?_
   obtain rfl := Option.some.inj h
   have p1 := (p1.dp 0).dp 0
   exact Goes.rt Tryd.f80 (.bool false) ⟨S1, rfl, hx, p1⟩
 ·
  rw [decide_eq_false h8]
  refine Goes.rn 7 [(27, .bool (decide (x1v.Kind = 2))), (26, .bool (decide (x1v.Kind = 2)))] Jm1 ?_
  refine ite_some h (fun h10 h => ?_) (fun h10 h => ?_)
  ·
   rw [decide_eq_true h10]
   refine Goes.rn 2 [] Jll ?_
   exact Goes.jp 77 [(1, (pt gx1 0)), (3, (pt gx3 0)), (4, .bool x4), (16, .i x1v.Kind), (26, .bool true)] (W.z2u _ _ h _ _ hx gx1 udp x1v.L.length udr gx3 p1 ui uds rfl udu)
  ·
   rw [decide_eq_false h10]
   refine Goes.rn 5 [(28, .bool (decide (x1v.Kind = 3))), (26, .bool (decide (x1v.Kind = 3)))] Jll ?_
   exact Goes.jp 77 [(1, (pt gx1 0)), (3, (pt gx3 0)), (4, .bool x4), (16, .i x1v.Kind), (26, .bool (decide (x1v.Kind = 3)))] (W.z2u _ _ h _ _ hx gx1 udp x1v.L.length udr gx3 p1 ui uds rfl udu)

def Qh7 := sub [1] B80
def Jm2 : List Item := [.code Qh7]
def Qh8 := sub [0] B80
def Jm3 : List Item := .inRegion (opsOf Qh8) [0, 1] :: Jm2
def Qh9 := sub [1, 1] B80
def Jm4 : List Item := [.code Qh9]
def Qha := sub [1, 0] B80
def Jm5 : List Item := .inRegion (opsOf Qha) [0] :: Jm4
def Qhb := sub [1, 1, 0] B80
def Jm6 : List Item := .inRegion (opsOf Qhb) [1, 2, 3, 4, 5, 6, 7, 8] :: Jlu
def Jm7 : List Item := .inRegion (opsOf Qhb) [4, 5, 6, 7, 8] :: Jlu
def Jm8 : List Item := .inRegion (opsOf Qhb) [5, 6, 7, 8] :: Jlu

theorem W.z2r (x0 : T27) (r : Bool) (h : M.syntax_shaped x0 = some r) {nz wz S0 w0 Lr} [Gw nz wz] (ud3 ud4 ud5) (p0 : Hp nz wz S0 w0 (Lr)) (u1 : x0.Set.length = 4) (udf : Rd kT27 S0 w0 ud3 ud5 x0.L) (udg : x0.L.length = ud4) :
  Calls Tryd.prog 80 #[(ag (.i x0.Kind :: U4 x0.Set [.slice ud3 ud4 ud5, .i x0.Min, .i x0.Max]))] w0 (Rets (Post.z2r nz wz S0 w0 Lr r)) := by
 subst udg
 refine calls_of_goes (fn := Tryd.f80) (c := B80) (by kernel_rfl) (by kernel_rfl) 76 (by kernel_rfl) ?_
 refine Goes.jp 77 [(0, (ag (.i x0.Kind :: U4 x0.Set [.slice ud3 x0.L.length ud5, .i x0.Min, .i x0.Max])))] (fun junk => ?_)
 delta M.syntax_shaped at h
 refine Goes.rn 2 [] Jm3 ?_
 refine Op_.box 28 (.tmp 0) 1 0 (ag (.i x0.Kind :: U4 x0.Set [.slice ud3 x0.L.length ud5, .i x0.Min, .i x0.Max])) (.i x0.Kind :: U4 x0.Set [.slice ud3 x0.L.length ud5, .i x0.Min, .i x0.Max]) p0 Goes.v (by kernel_rfl) (by kernel_rfl) ?_
 intro b1 w2 z2 p2
 refine Goes.rn 4 [(2, .bool false)] Jm5 ?_
 refine Op_.alloc 25 3 0 (.agg #[.u 0, .u 0, .u 0, .u 0]) [.u 0, .u 0, .u 0, .u 0] p2 Goes.v (by kernel_rfl) (by kernel_rfl) ?_
 intro b3 w3 z3 p3
 refine Goes.rn 4 [(7, (pt b1 6))] Jm6 ?_
 refine Goes.ld 3 (.tmp 7) 8 3 ⟨b1, 6, none⟩ (.i x0.Min) (p3.c 1 6) ?_
 refine Goes.rn 2 [(9, .bool (decide (x0.Min = 0))), (10, .bool (decide (x0.Min = 0)))] Jm7 ?_
 refine ite_some h (fun h5 h => ?_) (fun h5 h => ?_)
 ·
  rw [decide_eq_true h5]
  refine Goes.rn 1 [(11, (pt b1 7))] Jm8 ?_
  refine Goes.ld 3 (.tmp 11) 12 3 ⟨b1, 7, none⟩ (.i x0.Max) (p3.c 1 7) ?_
  refine Goes.rn 4 [(13, .bool (decide (x0.Max = 0))), (14, .bool (decide (x0.Max = 0))), (4, .bool (decide (x0.Max = 0)))] Jlu ?_
  have p3 := (p3.fr 0).fr 1
  exact Goes.jp 77 [(1, (pt b1 0)), (3, (pt b3 0)), (4, .bool (decide (x0.Max = 0)))] (W.z2v _ _ h _ _ (((Ext.refl S0 w0).trans z2).trans z3) b1 ud3 x0.L.length ud5 b3 p3 u1 (udf.ext (z2.trans z3)) rfl rfl)
 ·
  rw [decide_eq_false h5]
  refine Goes.rn 6 [(11, undef), (12, undef), (13, undef), (14, .bool false), (4, .bool false)] Jlu ?_
  have p3 := (p3.fr 0).fr 1
  exact Goes.jp 77 [(1, (pt b1 0)), (3, (pt b3 0)), (4, .bool false)] (W.z2v _ _ h _ _ (((Ext.refl S0 w0).trans z2).trans z3) b1 ud3 x0.L.length ud5 b3 p3 u1 (udf.ext (z2.trans z3)) rfl rfl)

def Qhc := sub [1, 1] B68
def Jm9 : List Item := [.code Qhc]
def Jma : List Item := .inBlock 0 :: Jm9
def Qhd := sub [1, 0, 1, 0, 0] B68
def Jmb : List Item := .inLoop Qhd :: Jma
def Jmc : List Item := .code Qhd :: Jmb
def Qhe := sub [1] B68
def Jmd : List Item := [.code Qhe]
def Qhf := sub [0] B68
def Jme : List Item := .inRegion (opsOf Qhf) [0, 1] :: Jmd
def Qhg := sub [1, 0, 1] B68
def Jmf : List Item := .code Qhg :: Jm9
def Qhh := sub [1, 0, 0] B68
def Jmg : List Item := .inRegion (opsOf Qhh) [1, 2, 3] :: Jmf
def Qhi := sub [1, 0, 1, 0, 0, 1, 1] B68
def Jmh : List Item := .code Qhi :: Jmb
def Qhj := sub [1, 0, 1, 0, 0, 1, 0] B68
def Jmi : List Item := .code Qhj :: Jmh
def Qhk := sub [1, 0, 1, 0, 0, 1, 1, 1] B68
def Jmj : List Item := .code Qhk :: Jmb
def Jmk : List Item := .inBlock 1 :: Jmj
def Qhl := sub [1, 0, 1, 0, 0, 1, 1, 0, 0, 1] B68
def Jml : List Item := .code Qhl :: Jmk
def Qhm := sub [1, 0, 1, 0, 0, 1, 1, 0, 0, 0] B68
def Jmm : List Item := .inRegion (opsOf Qhm) [0, 1, 2, 3] :: Jml
def Qhn := sub [1, 0, 1, 0, 0, 1, 1, 0, 0, 1, 1] B68
def Jmn : List Item := .code Qhn :: Jmk
def Qho := sub [1, 0, 1, 0, 0, 1, 1, 0, 0, 1, 0] B68
def Jmo : List Item := .inRegion (opsOf Qho) [0, 1, 2] :: Jmn
def Qhp := sub [1, 0, 1, 0, 0, 1, 1, 0, 0, 1, 1, 0, 1] B68
def Jmp : List Item := .code Qhp :: Jmk
def Qhq := sub [1, 1, 1] B68
def Jmq : List Item := [.code Qhq]
def Qhr := sub [1, 1, 0] B68
def Jmr : List Item := .inRegion (opsOf Qhr) [0, 1, 2] :: Jmq

def Post.z2w (r : Bool) (v : Value) (w' : World) : Prop :=
 ∃ S', v = .bool r ∧ Ext S0 w0 S' w' ∧ Hp nz wz S' w' (Lr)

def LF.z2w : T27 → Bool → Prop := fun x0 r => ∀ {nz wz S0 w0 Lr} [Gw nz wz] ud3 ud4 ud5 (_ : Hp nz wz S0 w0 (Lr)) (_ : x0.Set.length = 4) (_ : Rd kT27 S0 w0 ud3 ud5 x0.L) (_ : x0.L.length = ud4),
 Calls Tryd.prog 68 #[(ag (.i x0.Kind :: U4 x0.Set [.slice ud3 ud4 ud5, .i x0.Min, .i x0.Max]))] w0 (Rets (Post.z2w nz wz S0 w0 Lr r))

def L.z2x : T27 × (List T27) × Int × Int → Bool → Prop := fun ⟨x1v, x6, x7, x8⟩ r => ∀ S1 w1, Ext S0 w0 S1 w1 → ∀ gx1 udp udq udr Ax6 nx6 cx6 (_ : Hp nz wz S1 w1 ((some gx1, .row 28 (.i x1v.Kind :: U4 x1v.Set [.slice udp udq udr, .i x1v.Min, .i x1v.Max]) 8 0) :: Lr)) (_ : x1v.Set.length = 4) (_ : Rd kT27 S1 w1 udp udr x1v.L) (_ : x1v.L.length = udq) (_ : Rd kT27 S1 w1 Ax6 cx6 x6) (_ : x6.length = nx6) (junk : Nat → Value),
 Goes Tryd.prog (base 68) Jmc ⟨lfr 18 [(1, (pt gx1 0)), (6, .slice Ax6 nx6 cx6), (7, .i x7), (8, .i x8)] junk, []⟩ w1 (Done Tryd.prog 68 (Rets (Post.z2w nz wz S0 w0 Lr r)))

def LL.z2x : T27 × (List T27) × Int × Int → Bool → Prop := fun a r => ∀ {nz wz S0 w0 Lr} [Gw nz wz], L.z2x nz wz S0 w0 Lr a r

theorem W.z2y : (∀ a r, M.syntax_right a = some r → LF.z2w a r) ∧ (∀ a r, M.syntax_right_l0 a = some r → LL.z2x a r) := by
 refine M.syntax_right.mutual_partial_correctness LF.z2w LL.z2x ?_ ?_
 ·
  intro udv udw x0 r h nz wz S0 w0 Lr iG ud3 ud4 ud5 p0 u1 udf udg
  try dsimp only at h
  subst udg
  refine calls_of_goes (fn := Tryd.f68) (c := B68) (by kernel_rfl) (by kernel_rfl) 17 (by kernel_rfl) ?_
  refine Goes.jp 18 [(0, (ag (.i x0.Kind :: U4 x0.Set [.slice ud3 x0.L.length ud5, .i x0.Min, .i x0.Max])))] (fun junk => ?_)
  refine Goes.rn 2 [] Jme ?_
  refine Op_.box 28 (.tmp 0) 1 0 (ag (.i x0.Kind :: U4 x0.Set [.slice ud3 x0.L.length ud5, .i x0.Min, .i x0.Max])) (.i x0.Kind :: U4 x0.Set [.slice ud3 x0.L.length ud5, .i x0.Min, .i x0.Max]) p0 Goes.v (by kernel_rfl) (by kernel_rfl) ?_
  intro b1 w2 z2 p2
  refine Goes.rn 6 [(2, .bool false), (5, (pt b1 5))] Jmg ?_
  refine Goes.ld 26 (.tmp 5) 6 26 ⟨b1, 5, none⟩ (.slice ud3 x0.L.length ud5) (p2.c 0 5) ?_
  refine Goes.rn 5 [(7, .i (x0.L.length : Int)), (8, .i 0)] Jmc ?_
  exact Goes.jp 18 [(1, (pt b1 0)), (6, .slice ud3 x0.L.length ud5), (7, .i (x0.L.length : Int)), (8, .i 0)] (udw _ _ h _ _ ((Ext.refl S0 w0).trans z2) b1 ud3 x0.L.length ud5 ud3 x0.L.length ud5 p2 u1 (udf.ext z2) rfl (udf.ext z2) rfl)
 ·
  intro rec_syntax_right udv ih_syntax_right udw ⟨x1v, x6, x7, x8⟩ r h nz wz S0 w0 Lr iG S1 w1 hx gx1 udp udq udr Ax6 nx6 cx6 p1 ui uds udt fx6 lx6 junk
  try dsimp only at h
  subst udt
  subst lx6
  refine Goes.rn 5 [(9, .bool (decide (x8 < x7)))] Jmi ?_
  refine ite_some h (fun h4 h => ?_) (fun h4 h => ?_)
  ·
   rw [decide_eq_true h4]
   refine Goes.rn 6 [] Jmm ?_
   refine guard_some' h fun g5 h => ?_
   refine guard_some' h fun g6 h => ?_
   refine Op_.ixR_n 26 (.tmp 6) (.tmp 8) 10 0 28 .i64 x8 (gi x6 x8) rfl rfl fx6 Goes.v (by kernel_rfl) (by kernel_rfl) (by kernel_rfl) (by kernel_rfl) g5 g6 ?_
   intro a7 _ f8 q9
   have q10 := q9
   obtain ⟨_, _, rfl, rfl, ⟨_, _, rfl, ⟨l11, f12⟩, ⟨_, _, rfl, ⟨A13, c14, rfl, f15⟩, ⟨_, _, rfl, rfl, rfl⟩⟩⟩⟩ := kT27_open q10
   obtain rfl := els_lit4' f12 l11
   refine Goes.ldN 28 (.tmp 10) 11 28 a7 ([.i ((gi x6 x8).Kind)] ++ ((U4 ((gi x6 x8).Set) []) ++ ([.slice A13 (((gi x6 x8).L).length) c14] ++ ([.i ((gi x6 x8).Min)] ++ [.i ((gi x6 x8).Max)])))) (f8.cell) ?_
   refine Op_.alloc 28 4 0 (.agg #[.i 0, .u 0, .u 0, .u 0, .u 0, .slice none 0 0, .i 0, .i 0]) [.i 0, .u 0, .u 0, .u 0, .u 0, .slice none 0 0, .i 0, .i 0] p1 Goes.v (by kernel_rfl) (by kernel_rfl) ?_
   intro b16 w3 z3 p3
   refine Op_.st 28 (.tmp 4) (.tmp 11) 0 0 b16 0 (ag (.i ((gi x6 x8).Kind) :: U4 ((gi x6 x8).Set) [.slice A13 (((gi x6 x8).L).length) c14, .i ((gi x6 x8).Min), .i ((gi x6 x8).Max)])) (.i ((gi x6 x8).Kind) :: U4 ((gi x6 x8).Set) [.slice A13 (((gi x6 x8).L).length) c14, .i ((gi x6 x8).Min), .i ((gi x6 x8).Max)]) p3 rfl Goes.s (by kernel_rfl) (by kernel_rfl) (by kernel_rfl) (by kernel_rfl) (Nat.zero_le _) (by simp only [List.length_cons, List.length_nil]; omega) (by simp [Value.oneCell']) ?_
   intro w4 z4 p4
   have p4 : Hp nz wz S1 w4 ((some b16, .row 28 (.i ((gi x6 x8).Kind) :: U4 ((gi x6 x8).Set) [.slice A13 (((gi x6 x8).L).length) c14, .i ((gi x6 x8).Min), .i ((gi x6 x8).Max)]) 8 0) :: (some gx1, .row 28 (.i x1v.Kind :: U4 x1v.Set [.slice udp x1v.L.length udr, .i x1v.Min, .i x1v.Max]) 8 0) :: Lr) := p4
   refine Goes.rn 3 [] Jmo ?_
   refine Goes.ldN 28 (.tmp 4) 12 28 ⟨b16, 0, none⟩ (.i ((gi x6 x8).Kind) :: U4 ((gi x6 x8).Set) [.slice A13 (((gi x6 x8).L).length) c14, .i ((gi x6 x8).Min), .i ((gi x6 x8).Max)]) (p4.pa 0 0) ?_
   refine bind_some' h fun y18 e19 h => ?_
   refine Goes.cal (kc 68 [12] #[28]) 13 4 68 _ (ih_syntax_right (⟨(gi x6 x8).Kind, ((gi x6 x8).Set), (gi x6 x8).L, (gi x6 x8).Min, (gi x6 x8).Max⟩ : T27) y18 e19 A13 (((gi x6 x8).L).length) c14 p4 l11 (f15.ext (z3.trans z4)) rfl) ?_
   rintro _ w5 ⟨S5, rfl, z5, p5⟩
   have p5 := p5.dp 0
   refine Goes.rn 2 [(14, .bool (!y18))] Jmn ?_
   refine ite_some h (fun h20 h => ?_) (fun h20 h => ?_)
   ·
    rw [h20]
    refine Goes.rn 8 [(15, .i (wr .i64 (x8 + 1))), (8, .i (wr .i64 (x8 + 1)))] Jmc ?_
    exact Goes.jp 18 [(1, (pt gx1 0)), (6, .slice Ax6 x6.length cx6), (7, .i x7), (8, .i (wr .i64 (x8 + 1)))] (udw _ _ h _ _ (((hx.trans z3).trans z4).trans z5) gx1 udp x1v.L.length udr Ax6 x6.length cx6 p5 ui (uds.ext ((z3.trans z4).trans z5)) rfl (fx6.ext ((z3.trans z4).trans z5)) rfl)
   ·
    have u3 : y18 = false := by simpa using h20
    rw [u3]
    refine Goes.rn 5 [(2, .bool false)] Jmp ?_
    obtain rfl := Option.some.inj h
    have p5 := p5.dp 0
    exact Goes.rt Tryd.f68 (.bool false) ⟨S5, rfl, (((hx.trans z3).trans z4).trans z5), p5⟩
  ·
   rw [decide_eq_false h4]
   refine Goes.rn 4 [] Jmr ?_
   refine Goes.ldN 28 (.tmp 1) 16 28 ⟨gx1, 0, none⟩ (.i x1v.Kind :: U4 x1v.Set [.slice udp x1v.L.length udr, .i x1v.Min, .i x1v.Max]) (p1.pa 0 0) ?_
   refine bind_some' h fun y21 e22 h => ?_
   refine Goes.cal (kc 80 [16] #[28]) 17 4 80 _ (W.z2r x1v y21 e22 udp x1v.L.length udr p1 ui uds rfl) ?_
   rintro _ w6 ⟨S6, rfl, z6, p6⟩
   have p6 := p6.dp 0
   refine Goes.rn 2 [(2, .bool y21)] Jmq ?_
   obtain rfl := Option.some.inj h
   exact Goes.rt Tryd.f68 (.bool y21) ⟨S6, rfl, (hx.trans z6), p6⟩

theorem W.z2w : ∀ a r, M.syntax_right a = some r → LF.z2w a r := (W.z2y).1

theorem W.z2x : ∀ a r, M.syntax_right_l0 a = some r → LL.z2x a r := (W.z2y).2

def Qhs := sub [1] B50
def Jms : List Item := [.code Qhs]
def Qht := sub [0] B50
def Jmt : List Item := .inRegion (opsOf Qht) [0, 1] :: Jms
def Qhu := sub [1, 1] B50
def Jmu : List Item := [.code Qhu]
def Qhv := sub [1, 0] B50
def Jmv : List Item := .inRegion (opsOf Qhv) [0, 1] :: Jmu
def Qhw := sub [1, 1, 1] B50
def Jmw : List Item := [.code Qhw]
def Qhx := sub [1, 1, 0, 1] B50
def Jmx : List Item := .code Qhx :: Jmw
def Qhy := sub [1, 1, 0, 0] B50
def Jmy : List Item := .inRegion (opsOf Qhy) [0, 1, 2, 3, 4, 5, 6, 7] :: Jmx
def Jmz : List Item := .inRegion (opsOf Qhy) [4, 5, 6, 7] :: Jmx
def Qhz := sub [1, 1, 1, 1] B50
def Jn0 : List Item := [.code Qhz]
def Qi0 := sub [1, 1, 1, 0] B50
def Jn1 : List Item := .inRegion (opsOf Qi0) [0, 1] :: Jn0
def Qi1 := sub [1, 1, 0, 1, 0, 1] B50
def Jn2 : List Item := .code Qi1 :: Jmw

def Post.z2z (r : Int) (v : Value) (w' : World) : Prop :=
 ∃ S', v = .i r ∧ Ext S0 w0 S' w' ∧ Hp nz wz S' w' (Lr)

theorem W.z2z (x0 : T27) (r : Int) (h : M.syntax_Size x0 = some r) {nz wz S0 w0 Lr} [Gw nz wz] (ud3 ud4 ud5) (p0 : Hp nz wz S0 w0 (Lr)) (u1 : x0.Set.length = 4) (udf : Rd kT27 S0 w0 ud3 ud5 x0.L) (udg : x0.L.length = ud4) :
  Calls Tryd.prog 50 #[(ag (.i x0.Kind :: U4 x0.Set [.slice ud3 ud4 ud5, .i x0.Min, .i x0.Max]))] w0 (Rets (Post.z2z nz wz S0 w0 Lr r)) := by
 subst udg
 refine calls_of_goes (fn := Tryd.f50) (c := B50) (by kernel_rfl) (by kernel_rfl) 12 (by kernel_rfl) ?_
 refine Goes.jp 13 [(0, (ag (.i x0.Kind :: U4 x0.Set [.slice ud3 x0.L.length ud5, .i x0.Min, .i x0.Max])))] (fun junk => ?_)
 delta M.syntax_Size at h
 refine Goes.rn 2 [] Jmt ?_
 refine Op_.box 28 (.tmp 0) 1 0 (ag (.i x0.Kind :: U4 x0.Set [.slice ud3 x0.L.length ud5, .i x0.Min, .i x0.Max])) (.i x0.Kind :: U4 x0.Set [.slice ud3 x0.L.length ud5, .i x0.Min, .i x0.Max]) p0 Goes.v (by kernel_rfl) (by kernel_rfl) ?_
 intro b1 w2 z2 p2
 refine Goes.rn 4 [(2, .i 0)] Jmv ?_
 refine Op_.alloc 3 3 0 (.i 0) [.i 0] p2 Goes.v (by kernel_rfl) (by kernel_rfl) ?_
 intro b3 w3 z3 p3
 refine Op_.st 3 (.tmp 3) (.const (.int .i64 0)) 0 0 b3 0 (.i 0) [.i 0] p3 rfl Goes.s (by kernel_rfl) (by kernel_rfl) (by kernel_rfl) (by kernel_rfl) (Nat.zero_le _) (by simp only [List.length_cons, List.length_nil]; omega) (by simp [Value.oneCell']) ?_
 intro w4 z4 p4
 have p4 : Hp nz wz S0 w4 ((some b3, .row 3 [.i 0] 1 0) :: (some b1, .row 28 (.i x0.Kind :: U4 x0.Set [.slice ud3 x0.L.length ud5, .i x0.Min, .i x0.Max]) 8 0) :: Lr) := p4
 refine Goes.rn 4 [] Jmy ?_
 refine Goes.ldN 28 (.tmp 1) 4 28 ⟨b1, 0, none⟩ (.i x0.Kind :: U4 x0.Set [.slice ud3 x0.L.length ud5, .i x0.Min, .i x0.Max]) (p4.pa 1 0) ?_
 refine bind_some' h fun y5 e6 h => ?_
 refine Goes.cal (.call { callee := .value (.func 67), args := #[(.tmp 4), (.const (.int .i64 128)), (.tmp 3)], argTypes := #[28, 3, 75] }) 5 4 67 _ (W.z2n (x0, 128, 0) y5 e6 ud3 x0.L.length ud5 b3 p4 u1 (udf.ext ((z2.trans z3).trans z4)) rfl) ?_
 rintro _ w5 ⟨S5, rfl, z5, p5⟩
 refine Goes.rn 2 [(6, .bool (!y5.1)), (7, .bool (!y5.1))] Jmz ?_
 refine ite_some h (fun h7 h => ?_) (fun h7 h => ?_)
 ·
  rw [h7]
  refine Goes.ldN 28 (.tmp 1) 8 28 ⟨b1, 0, none⟩ (.i x0.Kind :: U4 x0.Set [.slice ud3 x0.L.length ud5, .i x0.Min, .i x0.Max]) (p5.pa 1 0) ?_
  refine bind_some' h fun y8 e9 h => ?_
  refine Goes.cal (kc 68 [8] #[28]) 9 4 68 _ (W.z2w x0 y8 e9 ud3 x0.L.length ud5 p5 u1 (udf.ext (((z2.trans z3).trans z4).trans z5)) rfl) ?_
  rintro _ w6 ⟨S6, rfl, z6, p6⟩
  have p6 := p6.dp 1
  refine Goes.rn 3 [(10, .bool (!y8)), (11, .bool (!y8))] Jmx ?_
  refine ite_some h (fun h10 h => ?_) (fun h10 h => ?_)
  ·
   rw [h10]
   refine Goes.rn 4 [] Jn1 ?_
   refine Goes.ld 3 (.tmp 3) 12 3 ⟨b3, 0, none⟩ (.i y5.2) (p6.c 0 0) ?_
   refine Goes.rn 2 [(2, .i y5.2)] Jn0 ?_
   obtain rfl := Option.some.inj h
   have p6 := p6.dp 0
   exact Goes.rt Tryd.f50 (.i y5.2) ⟨S6, rfl, ((((((Ext.refl S0 w0).trans z2).trans z3).trans z4).trans z5).trans z6), p6⟩
  ·
   have ubh : y8 = false := by simpa using h10
   rw [ubh]
   refine Goes.rn 5 [(2, .i 0)] Jn2 ?_
   obtain rfl := Option.some.inj h
   have p6 := p6.dp 0
   exact Goes.rt Tryd.f50 (.i 0) ⟨S6, rfl, ((((((Ext.refl S0 w0).trans z2).trans z3).trans z4).trans z5).trans z6), p6⟩
 ·
  have h7' : y5.1 = false := by simpa using h7
  rw [h7']
  refine Goes.rn 10 [(8, undef), (9, undef), (10, undef), (11, .bool true), (2, .i 0)] Jn2 ?_
  obtain rfl := Option.some.inj h
  have p5 := (p5.dp 0).dp 0
  exact Goes.rt Tryd.f50 (.i 0) ⟨S5, rfl, (((((Ext.refl S0 w0).trans z2).trans z3).trans z4).trans z5), p5⟩

def Qi2 := sub [1] B32
def Jn3 : List Item := [.code Qi2]
def Qi3 := sub [0] B32
def Jn4 : List Item := .inRegion (opsOf Qi3) [0, 1] :: Jn3
def Qi4 := sub [1, 1] B32
def Jn5 : List Item := [.code Qi4]
def Qi5 := sub [1, 0] B32
def Jn6 : List Item := .inRegion (opsOf Qi5) [0, 1, 2, 3] :: Jn5

def Post.z30 (r : Bool) (v : Value) (w' : World) : Prop :=
 ∃ S', v = .bool r ∧ Ext S0 w0 S' w' ∧ Hp nz wz S' w' (Lr)

theorem W.z30 (x0 : T27) (r : Bool) (h : M.syntax_Check x0 = some r) {nz wz S0 w0 Lr} [Gw nz wz] (ud3 ud4 ud5) (p0 : Hp nz wz S0 w0 (Lr)) (u1 : x0.Set.length = 4) (udf : Rd kT27 S0 w0 ud3 ud5 x0.L) (udg : x0.L.length = ud4) :
  Calls Tryd.prog 32 #[(ag (.i x0.Kind :: U4 x0.Set [.slice ud3 ud4 ud5, .i x0.Min, .i x0.Max]))] w0 (Rets (Post.z30 nz wz S0 w0 Lr r)) := by
 subst udg
 refine calls_of_goes (fn := Tryd.f32) (c := B32) (by kernel_rfl) (by kernel_rfl) 5 (by kernel_rfl) ?_
 refine Goes.jp 6 [(0, (ag (.i x0.Kind :: U4 x0.Set [.slice ud3 x0.L.length ud5, .i x0.Min, .i x0.Max])))] (fun junk => ?_)
 delta M.syntax_Check at h
 refine Goes.rn 2 [] Jn4 ?_
 refine Op_.box 28 (.tmp 0) 1 0 (ag (.i x0.Kind :: U4 x0.Set [.slice ud3 x0.L.length ud5, .i x0.Min, .i x0.Max])) (.i x0.Kind :: U4 x0.Set [.slice ud3 x0.L.length ud5, .i x0.Min, .i x0.Max]) p0 Goes.v (by kernel_rfl) (by kernel_rfl) ?_
 intro b1 w2 z2 p2
 refine Goes.rn 4 [(2, .bool false)] Jn6 ?_
 refine Goes.ldN 28 (.tmp 1) 3 28 ⟨b1, 0, none⟩ (.i x0.Kind :: U4 x0.Set [.slice ud3 x0.L.length ud5, .i x0.Min, .i x0.Max]) (p2.pa 0 0) ?_
 refine bind_some' h fun y3 e4 h => ?_
 refine Goes.cal (kc 50 [3] #[28]) 4 3 50 _ (W.z2z x0 y3 e4 ud3 x0.L.length ud5 p2 u1 (udf.ext z2) rfl) ?_
 rintro _ w3 ⟨S3, rfl, z3, p3⟩
 have p3 := p3.dp 0
 refine Goes.rn 3 [(5, .bool (decide (y3 > 0))), (2, .bool (decide (y3 > 0)))] Jn5 ?_
 obtain rfl := Option.some.inj h
 exact Goes.rt Tryd.f32 (.bool (decide (y3 > 0))) ⟨S3, rfl, (((Ext.refl S0 w0).trans z2).trans z3), p3⟩

def Qi6 := sub [1, 1, 1] B38
def Jn7 : List Item := [.code Qi6]
def Jn8 : List Item := .inBlock 0 :: Jn7
def Qi7 := sub [1, 1, 0, 1, 0, 1] B38
def Jn9 : List Item := .code Qi7 :: Jn8
def Jna : List Item := .inBlock 3 :: Jn9
def Qi8 := sub [1, 1, 0, 1, 0, 0, 0, 1, 1] B38
def Jnb : List Item := .code Qi8 :: Jna
def Jnc : List Item := .inBlock 4 :: Jnb
def Qi9 := sub [1, 1, 0, 1, 0, 0, 0, 1, 0, 1, 0, 0] B38
def Jnd : List Item := .inLoop Qi9 :: Jnc
def Jne : List Item := .code Qi9 :: Jnd
def Qia := sub [1] B38
def Jnf : List Item := [.code Qia]
def Qib := sub [0] B38
def Jng : List Item := .inRegion (opsOf Qib) [0, 1] :: Jnf
def Qic := sub [1, 1, 0, 1] B38
def Jnh : List Item := .code Qic :: Jn7
def Qid := sub [1, 1, 0, 0] B38
def Jni : List Item := .inRegion (opsOf Qid) [1] :: Jnh
def Qie := sub [1, 1, 0, 1, 0, 0, 0, 1] B38
def Jnj : List Item := .code Qie :: Jna
def Jnk : List Item := .inBlock 2 :: Jnj
def Qif := sub [1, 1, 0, 1, 0, 0, 0, 0, 0, 1] B38
def Jnl : List Item := .code Qif :: Jnk
def Jnm : List Item := .inBlock 1 :: Jnl
def Qig := sub [1, 1, 0, 1, 0, 0, 0, 0, 0, 0, 0, 1] B38
def Jnn : List Item := .code Qig :: Jnm
def Qih := sub [1, 1, 0, 1, 0, 0, 0, 0, 0, 0, 0, 0, 1] B38
def Jno : List Item := .code Qih :: Jnn
def Qii := sub [1, 1, 0, 1, 0, 0, 0, 0, 0, 0, 0, 0, 0, 1] B38
def Jnp : List Item := .code Qii :: Jno
def Qij := sub [1, 1, 0, 1, 0, 0, 0, 0, 0, 0, 0, 0, 0, 0] B38
def Jnq : List Item := .inRegion (opsOf Qij) [] :: Jnp
def Jnr : List Item := .inRegion (opsOf Qif) [1, 2, 3, 4, 5] :: Jnk
def Qik := sub [1, 1, 0, 1, 0, 0, 0, 1, 0, 1] B38
def Jns : List Item := .code Qik :: Jnb
def Qil := sub [1, 1, 0, 1, 0, 0, 0, 1, 0, 0] B38
def Jnt : List Item := .inRegion (opsOf Qil) [1, 2, 3] :: Jns
def Qim := sub [1, 1, 0, 1, 0, 0, 0, 0, 0, 0, 0, 0, 1, 1] B38
def Jnu : List Item := .code Qim :: Jnn
def Qin := sub [1, 1, 0, 1, 0, 0, 0, 0, 0, 0, 0, 0, 1, 0, 1] B38
def Jnv : List Item := .code Qin :: Jnu
def Qio := sub [1, 1, 0, 1, 0, 0, 0, 0, 0, 0, 0, 0, 1, 1, 1] B38
def Jnw : List Item := .code Qio :: Jnn
def Qip := sub [1, 1, 0, 1, 0, 1, 1] B38
def Jnx : List Item := .code Qip :: Jn8
def Qiq := sub [1, 1, 0, 1, 0, 1, 0, 1] B38
def Jny : List Item := .code Qiq :: Jnx
def Qir := sub [1, 1, 0, 1, 0, 1, 0, 0] B38
def Jnz : List Item := .inRegion (opsOf Qir) [1, 2, 3, 4, 5] :: Jny
def Qis := sub [1, 1, 0, 1, 0, 1, 0, 1, 1] B38
def Jo0 : List Item := .code Qis :: Jnx
def Qit := sub [1, 1, 0, 1, 0, 1, 0, 1, 0] B38
def Jo1 : List Item := .inRegion (opsOf Qit) [1, 2, 3, 4] :: Jo0
def Qiu := sub [1, 1, 0, 1, 0, 1, 0, 1, 1, 1] B38
def Jo2 : List Item := .code Qiu :: Jnx
def Qiv := sub [1, 1, 0, 1, 0, 1, 0, 1, 1, 0] B38
def Jo3 : List Item := .inRegion (opsOf Qiv) [1, 2] :: Jo2
def Qiw := sub [1, 1, 1, 1] B38
def Jo4 : List Item := [.code Qiw]
def Qix := sub [1, 1, 1, 0] B38
def Jo5 : List Item := .inRegion (opsOf Qix) [3] :: Jo4
def Qiy := sub [1, 1, 0, 1, 0, 1, 0, 1, 1, 1, 1] B38
def Jo6 : List Item := .inRegion (opsOf Qiy) [2, 3, 4, 5, 6, 7, 8, 9, 10] :: Jnx
def Jo7 : List Item := .inRegion (opsOf Qiy) [4, 5, 6, 7, 8, 9, 10] :: Jnx
def Jo8 : List Item := .inRegion (opsOf Qix) [] :: Jo4
def Qiz := sub [1, 1, 0, 1, 0, 0, 0, 1, 0, 1, 0, 0, 1, 1] B38
def Jo9 : List Item := .code Qiz :: Jnd
def Qj0 := sub [1, 1, 0, 1, 0, 0, 0, 1, 0, 1, 0, 0, 1, 0] B38
def Joa : List Item := .code Qj0 :: Jo9
def Qj1 := sub [1, 1, 0, 1, 0, 0, 0, 1, 0, 1, 0, 0, 1, 1, 1] B38
def Job : List Item := .code Qj1 :: Jnd
def Joc : List Item := .inBlock 5 :: Job
def Qj2 := sub [1, 1, 0, 1, 0, 0, 0, 1, 0, 1, 0, 0, 1, 1, 0, 0, 1] B38
def Jod : List Item := .code Qj2 :: Joc
def Qj3 := sub [1, 1, 0, 1, 0, 0, 0, 1, 0, 1, 0, 0, 1, 1, 0, 0, 0] B38
def Joe : List Item := .inRegion (opsOf Qj3) [0, 1, 2, 3] :: Jod
def Jof : List Item := .inRegion (opsOf Qj2) [1, 2, 3, 4, 5] :: Joc

def Post.z31 (r : Int) (v : Value) (w' : World) : Prop :=
 ∃ S', v = .i r ∧ Ext S0 w0 S' w' ∧ Hp nz wz S' w' (Lr)

def LF.z31 : T27 → Int → Prop := fun x0 r => ∀ {nz wz S0 w0 Lr} [Gw nz wz] ud3 ud4 ud5 (_ : Hp nz wz S0 w0 (Lr)) (_ : x0.Set.length = 4) (_ : Rd kT27 S0 w0 ud3 ud5 x0.L) (_ : x0.L.length = ud4),
 Calls Tryd.prog 38 #[(ag (.i x0.Kind :: U4 x0.Set [.slice ud3 ud4 ud5, .i x0.Min, .i x0.Max]))] w0 (Rets (Post.z31 nz wz S0 w0 Lr r))

def L.z32 : Int × (List T27) × Int × Int → Int → Prop := fun ⟨x3, x21, x22, x23⟩ r => ∀ S1 w1, Ext S0 w0 S1 w1 → ∀ udx udy udz (_ : Hp nz wz S1 w1 (Lr)) (_ : Rd kT27 S1 w1 udx udz x21) (_ : x21.length = udy) (junk : Nat → Value),
 Goes Tryd.prog (base 38) Jne ⟨lfr 62 [(3, .i x3), (21, .slice udx udy udz), (22, .i x22), (23, .i x23)] junk, []⟩ w1 (Done Tryd.prog 38 (Rets (Post.z31 nz wz S0 w0 Lr r)))

def LL.z32 : Int × (List T27) × Int × Int → Int → Prop := fun a r => ∀ {nz wz S0 w0 Lr} [Gw nz wz], L.z32 nz wz S0 w0 Lr a r

theorem W.z33 : (∀ a r, M.prog_size a = some r → LF.z31 a r) ∧ (∀ a r, M.prog_size_l0 a = some r → LL.z32 a r) := by
 refine M.prog_size.mutual_partial_correctness LF.z31 LL.z32 ?_ ?_
 ·
  intro rec_prog_size ue0 ih_prog_size ue1 x0 r h nz wz S0 w0 Lr iG ud3 ud4 ud5 p0 u1 udf udg
  try dsimp only at h
  subst udg
  refine calls_of_goes (fn := Tryd.f38) (c := B38) (by kernel_rfl) (by kernel_rfl) 61 (by kernel_rfl) ?_
  refine Goes.jp 62 [(0, (ag (.i x0.Kind :: U4 x0.Set [.slice ud3 x0.L.length ud5, .i x0.Min, .i x0.Max])))] (fun junk => ?_)
  refine Goes.rn 2 [] Jng ?_
  refine Op_.box 28 (.tmp 0) 1 0 (ag (.i x0.Kind :: U4 x0.Set [.slice ud3 x0.L.length ud5, .i x0.Min, .i x0.Max])) (.i x0.Kind :: U4 x0.Set [.slice ud3 x0.L.length ud5, .i x0.Min, .i x0.Max]) p0 Goes.v (by kernel_rfl) (by kernel_rfl) ?_
  intro b1 w2 z2 p2
  refine Goes.rn 10 [(2, .i 0), (3, .i 0), (7, (pt b1 0))] Jni ?_
  refine Goes.ld 3 (.tmp 7) 8 3 ⟨b1, 0, none⟩ (.i x0.Kind) (p2.c 0 0) ?_
  refine Goes.rn 14 [(10, .bool (decide (x0.Kind = 3))), (9, .bool (decide (x0.Kind = 3)))] Jnq ?_
  refine Goes.rn 1 [] Jnp ?_
  refine ite_some h (fun h3 h => ?_) (fun h3 h => ?_)
  ·
   rw [decide_eq_true h3]
   refine Goes.rn 4 [(15, (pt b1 5))] Jnr ?_
   refine Goes.ld 26 (.tmp 15) 16 26 ⟨b1, 5, none⟩ (.slice ud3 x0.L.length ud5) (p2.c 0 5) ?_
   refine Goes.rn 10 [(17, .i (x0.L.length : Int)), (18, .i (wr .i64 ((x0.L.length : Int) - 1))), (19, .i (imx 0 (wr .i64 ((x0.L.length : Int) - 1)))), (3, .i (imx 0 (wr .i64 ((x0.L.length : Int) - 1)))), (20, (pt b1 5))] Jnt ?_
   refine Goes.ld 26 (.tmp 20) 21 26 ⟨b1, 5, none⟩ (.slice ud3 x0.L.length ud5) (p2.c 0 5) ?_
   refine Goes.rn 5 [(22, .i (x0.L.length : Int)), (23, .i 0)] Jne ?_
   have p2 := p2.dp 0
   exact Goes.jp 62 [(3, .i (imx 0 (wr .i64 ((x0.L.length : Int) - 1)))), (21, .slice ud3 x0.L.length ud5), (22, .i (x0.L.length : Int)), (23, .i 0)] (ue1 _ _ h _ _ ((Ext.refl S0 w0).trans z2) ud3 x0.L.length ud5 p2 (udf.ext z2) rfl)
  ·
   rw [decide_eq_false h3]
   refine Goes.rn 8 [(12, .bool (decide (x0.Kind = 2))), (11, .bool (decide (x0.Kind = 2)))] Jnv ?_
   refine ite_some h (fun h4 h => ?_) (fun h4 h => ?_)
   ·
    rw [decide_eq_true h4]
    refine Goes.rn 6 [(20, (pt b1 5))] Jnt ?_
    refine Goes.ld 26 (.tmp 20) 21 26 ⟨b1, 5, none⟩ (.slice ud3 x0.L.length ud5) (p2.c 0 5) ?_
    refine Goes.rn 5 [(22, .i (x0.L.length : Int)), (23, .i 0)] Jne ?_
    have p2 := p2.dp 0
    exact Goes.jp 62 [(3, .i 0), (21, .slice ud3 x0.L.length ud5), (22, .i (x0.L.length : Int)), (23, .i 0)] (ue1 _ _ h _ _ ((Ext.refl S0 w0).trans z2) ud3 x0.L.length ud5 p2 (udf.ext z2) rfl)
   ·
    rw [decide_eq_false h4]
    refine Goes.rn 7 [(14, .bool (decide (x0.Kind = 4))), (13, .bool (decide (x0.Kind = 4)))] Jnw ?_
    refine ite_some h (fun h5 h => ?_) (fun h5 h => ?_)
    ·
     rw [decide_eq_true h5]
     refine Goes.rn 6 [(33, (pt b1 5))] Jnz ?_
     refine Goes.ld 26 (.tmp 33) 34 26 ⟨b1, 5, none⟩ (.slice ud3 x0.L.length ud5) (p2.c 0 5) ?_
     refine guard_some' h fun g6 h => ?_
     refine Op_.ixR_n 26 (.tmp 34) (.const (.int .i64 0)) 35 0 28 .i64 0 (gi x0.L 0) rfl rfl (udf.ext z2) Goes.v (by kernel_rfl) (by kernel_rfl) (by kernel_rfl) (by kernel_rfl) (by decide : (0 : Int) ≤ 0) g6 ?_
     intro a7 _ f8 q9
     have q10 := q9
     obtain ⟨_, _, rfl, rfl, ⟨_, _, rfl, ⟨l11, f12⟩, ⟨_, _, rfl, ⟨A13, c14, rfl, f15⟩, ⟨_, _, rfl, rfl, rfl⟩⟩⟩⟩ := kT27_open q10
     obtain rfl := els_lit4' f12 l11
     refine Goes.ldN 28 (.tmp 35) 36 28 a7 ([.i ((gi x0.L 0).Kind)] ++ ((U4 ((gi x0.L 0).Set) []) ++ ([.slice A13 (((gi x0.L 0).L).length) c14] ++ ([.i ((gi x0.L 0).Min)] ++ [.i ((gi x0.L 0).Max)])))) (f8.cell) ?_
     refine bind_some' h fun y16 e17 h => ?_
     refine Goes.cal (kc 38 [36] #[28]) 37 3 38 _ (ih_prog_size (⟨(gi x0.L 0).Kind, ((gi x0.L 0).Set), (gi x0.L 0).L, (gi x0.L 0).Min, (gi x0.L 0).Max⟩ : T27) y16 e17 A13 (((gi x0.L 0).L).length) c14 p2 l11 f15 rfl) ?_
     rintro _ w3 ⟨S3, rfl, z3, p3⟩
     refine Goes.rn 5 [(6, .i y16), (38, (pt b1 6))] Jo1 ?_
     refine Goes.ld 3 (.tmp 38) 39 3 ⟨b1, 6, none⟩ (.i x0.Min) (p3.c 0 6) ?_
     refine Goes.rn 7 [(40, .i y16), (41, .i (wr .i64 (x0.Min * y16))), (3, .i (wr .i64 (x0.Min * y16))), (42, (pt b1 7))] Jo3 ?_
     refine Goes.ld 3 (.tmp 42) 43 3 ⟨b1, 7, none⟩ (.i x0.Max) (p3.c 0 7) ?_
     refine Goes.rn 2 [(44, .bool (decide (x0.Max < 0)))] Jo2 ?_
     refine ite_some h (fun h18 h => ?_) (fun h18 h => ?_)
     ·
      rw [decide_eq_true h18]
      refine Goes.rn 14 [(45, .i (wr .i64 (x0.Min * y16))), (46, .i y16), (47, .i (wr .i64 (y16 + 1))), (48, .i (wr .i64 ((wr .i64 (x0.Min * y16)) + (wr .i64 (y16 + 1))))), (3, .i (wr .i64 ((wr .i64 (x0.Min * y16)) + (wr .i64 (y16 + 1))))), (59, .i (wr .i64 ((wr .i64 (x0.Min * y16)) + (wr .i64 (y16 + 1))))), (60, .i (imx 1 (wr .i64 ((wr .i64 (x0.Min * y16)) + (wr .i64 (y16 + 1)))))), (61, .i (imn 1048576 (imx 1 (wr .i64 ((wr .i64 (x0.Min * y16)) + (wr .i64 (y16 + 1)))))))] Jo5 ?_
      refine Goes.rn 2 [(2, .i (imn 1048576 (imx 1 (wr .i64 ((wr .i64 (x0.Min * y16)) + (wr .i64 (y16 + 1)))))))] Jo4 ?_
      obtain rfl := Option.some.inj h
      have p3 := p3.dp 0
      exact Goes.rt Tryd.f38 (.i (imn 1048576 (imx 1 (wr .i64 ((wr .i64 (x0.Min * y16)) + (wr .i64 (y16 + 1))))))) ⟨S3, rfl, (((Ext.refl S0 w0).trans z2).trans z3), p3⟩
     ·
      rw [decide_eq_false h18]
      refine Goes.rn 4 [(49, .i (wr .i64 (x0.Min * y16))), (50, (pt b1 7))] Jo6 ?_
      refine Goes.ld 3 (.tmp 50) 51 3 ⟨b1, 7, none⟩ (.i x0.Max) (p3.c 0 7) ?_
      refine Goes.rn 1 [(52, (pt b1 6))] Jo7 ?_
      refine Goes.ld 3 (.tmp 52) 53 3 ⟨b1, 6, none⟩ (.i x0.Min) (p3.c 0 6) ?_
      refine Goes.rn 14 [(54, .i (wr .i64 (x0.Max - x0.Min))), (55, .i y16), (56, .i (wr .i64 (y16 + 1))), (57, .i (wr .i64 ((wr .i64 (x0.Max - x0.Min)) * (wr .i64 (y16 + 1))))), (58, .i (wr .i64 ((wr .i64 (x0.Min * y16)) + (wr .i64 ((wr .i64 (x0.Max - x0.Min)) * (wr .i64 (y16 + 1))))))), (3, .i (wr .i64 ((wr .i64 (x0.Min * y16)) + (wr .i64 ((wr .i64 (x0.Max - x0.Min)) * (wr .i64 (y16 + 1))))))), (59, .i (wr .i64 ((wr .i64 (x0.Min * y16)) + (wr .i64 ((wr .i64 (x0.Max - x0.Min)) * (wr .i64 (y16 + 1))))))), (60, .i (imx 1 (wr .i64 ((wr .i64 (x0.Min * y16)) + (wr .i64 ((wr .i64 (x0.Max - x0.Min)) * (wr .i64 (y16 + 1)))))))), (61, .i (imn 1048576 (imx 1 (wr .i64 ((wr .i64 (x0.Min * y16)) + (wr .i64 ((wr .i64 (x0.Max - x0.Min)) * (wr .i64 (y16 + 1))))))))), (2, .i (imn 1048576 (imx 1 (wr .i64 ((wr .i64 (x0.Min * y16)) + (wr .i64 ((wr .i64 (x0.Max - x0.Min)) * (wr .i64 (y16 + 1)))))))))] Jo8 ?_
      refine Goes.rn 1 [] Jo4 ?_
      obtain rfl := Option.some.inj h
      have p3 := p3.dp 0
      exact Goes.rt Tryd.f38 (.i (imn 1048576 (imx 1 (wr .i64 ((wr .i64 (x0.Min * y16)) + (wr .i64 ((wr .i64 (x0.Max - x0.Min)) * (wr .i64 (y16 + 1))))))))) ⟨S3, rfl, (((Ext.refl S0 w0).trans z2).trans z3), p3⟩
    ·
     rw [decide_eq_false h5]
     refine Goes.rn 10 [(59, .i 0), (60, .i 1), (61, .i 1), (2, .i 1)] Jo4 ?_
     obtain rfl := Option.some.inj h
     have p2 := p2.dp 0
     exact Goes.rt Tryd.f38 (.i 1) ⟨S0, rfl, ((Ext.refl S0 w0).trans z2), p2⟩
 ·
  intro rec_prog_size ue0 ih_prog_size ue1 ⟨x3, x21, x22, x23⟩ r h nz wz S0 w0 Lr iG S1 w1 hx udx udy udz p1 ue2 ue3 junk
  try dsimp only at h
  subst ue3
  refine Goes.rn 5 [(24, .bool (decide (x23 < x22)))] Joa ?_
  refine ite_some h (fun h19 h => ?_) (fun h19 h => ?_)
  ·
   rw [decide_eq_true h19]
   refine Goes.rn 6 [] Joe ?_
   refine guard_some' h fun g20 h => ?_
   refine guard_some' h fun g21 h => ?_
   refine Op_.ixR_n 26 (.tmp 21) (.tmp 23) 25 0 28 .i64 x23 (gi x21 x23) rfl rfl ue2 Goes.v (by kernel_rfl) (by kernel_rfl) (by kernel_rfl) (by kernel_rfl) g20 g21 ?_
   intro a22 _ f23 q24
   have q25 := q24
   obtain ⟨_, _, rfl, rfl, ⟨_, _, rfl, ⟨l26, f27⟩, ⟨_, _, rfl, ⟨A28, c29, rfl, f30⟩, ⟨_, _, rfl, rfl, rfl⟩⟩⟩⟩ := kT27_open q25
   obtain rfl := els_lit4' f27 l26
   refine Goes.ldN 28 (.tmp 25) 26 28 a22 ([.i ((gi x21 x23).Kind)] ++ ((U4 ((gi x21 x23).Set) []) ++ ([.slice A28 (((gi x21 x23).L).length) c29] ++ ([.i ((gi x21 x23).Min)] ++ [.i ((gi x21 x23).Max)])))) (f23.cell) ?_
   refine Op_.alloc 28 5 0 (.agg #[.i 0, .u 0, .u 0, .u 0, .u 0, .slice none 0 0, .i 0, .i 0]) [.i 0, .u 0, .u 0, .u 0, .u 0, .slice none 0 0, .i 0, .i 0] p1 Goes.v (by kernel_rfl) (by kernel_rfl) ?_
   intro b31 w4 z4 p4
   refine Op_.st 28 (.tmp 5) (.tmp 26) 0 0 b31 0 (ag (.i ((gi x21 x23).Kind) :: U4 ((gi x21 x23).Set) [.slice A28 (((gi x21 x23).L).length) c29, .i ((gi x21 x23).Min), .i ((gi x21 x23).Max)])) (.i ((gi x21 x23).Kind) :: U4 ((gi x21 x23).Set) [.slice A28 (((gi x21 x23).L).length) c29, .i ((gi x21 x23).Min), .i ((gi x21 x23).Max)]) p4 rfl Goes.s (by kernel_rfl) (by kernel_rfl) (by kernel_rfl) (by kernel_rfl) (Nat.zero_le _) (by simp only [List.length_cons, List.length_nil]; omega) (by simp [Value.oneCell']) ?_
   intro w5 z5 p5
   have p5 : Hp nz wz S1 w5 ((some b31, .row 28 (.i ((gi x21 x23).Kind) :: U4 ((gi x21 x23).Set) [.slice A28 (((gi x21 x23).L).length) c29, .i ((gi x21 x23).Min), .i ((gi x21 x23).Max)]) 8 0) :: Lr) := p5
   refine Goes.rn 3 [(27, .i x3)] Jof ?_
   refine Goes.ldN 28 (.tmp 5) 28 28 ⟨b31, 0, none⟩ (.i ((gi x21 x23).Kind) :: U4 ((gi x21 x23).Set) [.slice A28 (((gi x21 x23).L).length) c29, .i ((gi x21 x23).Min), .i ((gi x21 x23).Max)]) (p5.pa 0 0) ?_
   refine bind_some' h fun y33 e34 h => ?_
   refine Goes.cal (kc 38 [28] #[28]) 29 3 38 _ (ih_prog_size (⟨(gi x21 x23).Kind, ((gi x21 x23).Set), (gi x21 x23).L, (gi x21 x23).Min, (gi x21 x23).Max⟩ : T27) y33 e34 A28 (((gi x21 x23).L).length) c29 p5 l26 (f30.ext (z4.trans z5)) rfl) ?_
   rintro _ w6 ⟨S6, rfl, z6, p6⟩
   have p6 := p6.dp 0
   refine Goes.rn 10 [(30, .i (wr .i64 (x3 + y33))), (31, .i (imn 1048576 (wr .i64 (x3 + y33)))), (3, .i (imn 1048576 (wr .i64 (x3 + y33)))), (32, .i (wr .i64 (x23 + 1))), (23, .i (wr .i64 (x23 + 1)))] Jne ?_
   exact Goes.jp 62 [(3, .i (imn 1048576 (wr .i64 (x3 + y33)))), (21, .slice udx x21.length udz), (22, .i x22), (23, .i (wr .i64 (x23 + 1)))] (ue1 _ _ h _ _ (((hx.trans z4).trans z5).trans z6) udx x21.length udz p6 (ue2.ext ((z4.trans z5).trans z6)) rfl)
  ·
   rw [decide_eq_false h19]
   refine Goes.rn 10 [(59, .i x3), (60, .i (imx 1 x3)), (61, .i (imn 1048576 (imx 1 x3))), (2, .i (imn 1048576 (imx 1 x3)))] Jo4 ?_
   obtain rfl := Option.some.inj h
   exact Goes.rt Tryd.f38 (.i (imn 1048576 (imx 1 x3))) ⟨S1, rfl, hx, p1⟩

theorem W.z31 : ∀ a r, M.prog_size a = some r → LF.z31 a r := (W.z33).1

theorem W.z32 : ∀ a r, M.prog_size_l0 a = some r → LL.z32 a r := (W.z33).2

def Qj4 := sub [1] B17
def Jog : List Item := [.code Qj4]
def Qj5 := sub [0] B17
def Joh : List Item := .inRegion (opsOf Qj5) [0, 1, 2] :: Jog
def Qj6 := sub [1, 1] B17
def Joi : List Item := [.code Qj6]
def Qj7 := sub [1, 0, 1] B17
def Joj : List Item := .code Qj7 :: Joi
def Qj8 := sub [1, 0, 0] B17
def Jok : List Item := .inRegion (opsOf Qj8) [0, 1, 2] :: Joj
def Qj9 := sub [1, 1, 1] B17
def Jol : List Item := [.code Qj9]
def Qja := sub [1, 1, 0] B17
def Jom : List Item := .inRegion (opsOf Qja) [0, 1, 2, 3, 4, 5] :: Jol
def Qjb := sub [1, 0, 1, 0, 1] B17
def Jon : List Item := .code Qjb :: Joi

def Post.z34 (r : Int × Int) (v : Value) (w' : World) : Prop :=
 ∃ S', v = .tuple #[.i r.1, .i r.2] ∧ Ext S0 w0 S' w' ∧ Hp nz wz S' w' (Lr)

theorem W.z34 (x0 : T27) (r : Int × Int) (h : M.prog_Count x0 = some r) {nz wz S0 w0 Lr} [Gw nz wz] (ud3 ud4 ud5) (p0 : Hp nz wz S0 w0 (Lr)) (u1 : x0.Set.length = 4) (udf : Rd kT27 S0 w0 ud3 ud5 x0.L) (udg : x0.L.length = ud4) :
  Calls Tryd.prog 17 #[(ag (.i x0.Kind :: U4 x0.Set [.slice ud3 ud4 ud5, .i x0.Min, .i x0.Max]))] w0 (Rets (Post.z34 nz wz S0 w0 Lr r)) := by
 subst udg
 refine calls_of_goes (fn := Tryd.f17) (c := B17) (by kernel_rfl) (by kernel_rfl) 10 (by kernel_rfl) ?_
 refine Goes.jp 11 [(0, (ag (.i x0.Kind :: U4 x0.Set [.slice ud3 x0.L.length ud5, .i x0.Min, .i x0.Max])))] (fun junk => ?_)
 delta M.prog_Count at h
 refine Goes.rn 2 [] Joh ?_
 refine Op_.box 28 (.tmp 0) 1 0 (ag (.i x0.Kind :: U4 x0.Set [.slice ud3 x0.L.length ud5, .i x0.Min, .i x0.Max])) (.i x0.Kind :: U4 x0.Set [.slice ud3 x0.L.length ud5, .i x0.Min, .i x0.Max]) p0 Goes.v (by kernel_rfl) (by kernel_rfl) ?_
 intro b1 w2 z2 p2
 refine Goes.rn 6 [(2, .i 0), (3, .i 0)] Jok ?_
 refine Goes.ldN 28 (.tmp 1) 4 28 ⟨b1, 0, none⟩ (.i x0.Kind :: U4 x0.Set [.slice ud3 x0.L.length ud5, .i x0.Min, .i x0.Max]) (p2.pa 0 0) ?_
 refine bind_some' h fun y3 e4 h => ?_
 refine Goes.cal (kc 32 [4] #[28]) 5 4 32 _ (W.z30 x0 y3 e4 ud3 x0.L.length ud5 p2 u1 (udf.ext z2) rfl) ?_
 rintro _ w3 ⟨S3, rfl, z3, p3⟩
 refine Goes.rn 2 [(6, .bool (!y3))] Joj ?_
 refine ite_some h (fun h5 h => ?_) (fun h5 h => ?_)
 ·
  rw [h5]
  refine Goes.rn 4 [] Jom ?_
  refine Goes.ldN 28 (.tmp 1) 7 28 ⟨b1, 0, none⟩ (.i x0.Kind :: U4 x0.Set [.slice ud3 x0.L.length ud5, .i x0.Min, .i x0.Max]) (p3.pa 0 0) ?_
  refine bind_some' h fun y6 e7 h => ?_
  refine Goes.cal (kc 38 [7] #[28]) 8 3 38 _ (W.z31 x0 y6 e7 ud3 x0.L.length ud5 p3 u1 (udf.ext (z2.trans z3)) rfl) ?_
  rintro _ w4 ⟨S4, rfl, z4, p4⟩
  have p4 := p4.dp 0
  refine Goes.rn 5 [(9, .i (wr .i64 (y6 + 1))), (10, .i (imn 1048576 (wr .i64 (y6 + 1)))), (2, .i (imn 1048576 (wr .i64 (y6 + 1)))), (3, .i 0)] Jol ?_
  obtain rfl := Option.some.inj h
  exact Goes.rt Tryd.f17 (.tuple #[.i (imn 1048576 (wr .i64 (y6 + 1))), .i 0]) ⟨S4, rfl, ((((Ext.refl S0 w0).trans z2).trans z3).trans z4), p4⟩
 ·
  have h5' : y3 = false := by simpa using h5
  rw [h5']
  refine Goes.rn 6 [(2, .i 0), (3, .i 2)] Jon ?_
  obtain rfl := Option.some.inj h
  have p3 := p3.dp 0
  exact Goes.rt Tryd.f17 (.tuple #[.i 0, .i 2]) ⟨S3, rfl, (((Ext.refl S0 w0).trans z2).trans z3), p3⟩

def Qjc := sub [1] B36
def Joo : List Item := [.code Qjc]
def Qjd := sub [0] B36
def Jop : List Item := .inRegion (opsOf Qjd) [0, 1] :: Joo
def Qje := sub [1, 1] B36
def Joq : List Item := [.code Qje]
def Qjf := sub [1, 0] B36
def Jor : List Item := .code Qjf :: Joq
def Qjg := sub [1, 1, 1] B36
def Jos : List Item := [.code Qjg]
def Qjh := sub [1, 1, 0] B36
def Jot : List Item := .inRegion (opsOf Qjh) [3, 4, 5, 6] :: Jos

def Post.z35 (gx0 : Nat) (r : Int × (List T48)) (v : Value) (w' : World) : Prop :=
 ∃ S' ue4 ue5 ue6 ue7, v = .i r.1 ∧ Ext S0 w0 S' w' ∧ Hp nz wz S' w' ((some gx0, .row 78 [.slice (Gp ue4) ue5 ue6] 1 0) :: (ue4, .row 49 ue7 (ue6 * kT48.size) 0) :: Lr) ∧ Els kT48 S' w' ue7 r.2 ∧ r.2.length = ue5

theorem W.z35 (ue8 : List T48) (x1 : T48) (r : Int × (List T48)) (h : M.prog_writer_put ue8 x1 = some r) {nz wz S0 w0 Lr} [Gw nz wz] (gx0 ue9 uea ueb uec) (p0 : Hp nz wz S0 w0 ((some gx0, .row 78 [.slice (Gp ue9) uea ueb] 1 0) :: (ue9, .row 49 uec (ueb * kT48.size) 0) :: Lr)) (ued : Els kT48 S0 w0 uec ue8) (uee : ue8.length = uea) (uef : x1.Set.length = 4) :
  Calls Tryd.prog 36 #[(pt gx0 0), (ag (.i x1.Op :: U4 x1.Set [.i x1.X, .i x1.Y]))] w0 (Rets (Post.z35 nz wz S0 w0 Lr gx0 r)) := by
 subst uee
 refine calls_of_goes (fn := Tryd.f36) (c := B36) (by kernel_rfl) (by kernel_rfl) 19 (by kernel_rfl) ?_
 refine Goes.jp 21 [(0, (pt gx0 0)), (1, (ag (.i x1.Op :: U4 x1.Set [.i x1.X, .i x1.Y])))] (fun junk => ?_)
 delta M.prog_writer_put at h
 refine Goes.rn 2 [] Jop ?_
 refine Op_.box 49 (.tmp 1) 3 0 (ag (.i x1.Op :: U4 x1.Set [.i x1.X, .i x1.Y])) (.i x1.Op :: U4 x1.Set [.i x1.X, .i x1.Y]) p0 Goes.v (by kernel_rfl) (by kernel_rfl) ?_
 intro b3 w2 z2 p2
 refine Goes.rn 3 [(4, .i 0)] Jor ?_
 have z3 : Ext S0 w2 S0 (w2).drew := Ext.draw
 have p3 := p2.draw
 refine Goes.drawn (s := [10]) (F := Fc S0 (w2).drew [(⟨gx0, 0, none⟩, .slice (Gp ue9) ue8.length ueb), (⟨b3, 0, none⟩, .i x1.Op), (⟨b3, 1, none⟩, .u (gi x1.Set 0)), (⟨b3, 2, none⟩, .u (gi x1.Set 1)), (⟨b3, 3, none⟩, .u (gi x1.Set 2)), (⟨b3, 4, none⟩, .u (gi x1.Set 3)), (⟨b3, 5, none⟩, .i x1.X), (⟨b3, 6, none⟩, .i x1.Y)]) 1 11 (by kernel_rfl) (by kernel_rfl) (by kernel_rfl) (by kernel_rfl) ?_
 generalize (w2).drew = w3 at z3 p3 ⊢
 refine AnyG.pu 0 (.move (.tmp 0)) 5 76 ((pt gx0 0)) (Fc.here (p3.cs [(1, 0, 1), (0, 0, 7)])) ?_
 refine AnyG.pu 1 (.move (.tmp 0)) 6 76 ((pt gx0 0)) (Fc.here (p3.cs [(1, 0, 1), (0, 0, 7)])) ?_
 refine AnyG.pu 2 (.nilCheck (.tmp 6)) 7 0 ((pt gx0 0)) (Fc.here (p3.cs [(1, 0, 1), (0, 0, 7)])) ?_
 refine AnyG.pu 3 (.fieldAddr 78 (.tmp 7) 0) 8 0 ((pt gx0 0)) (Fc.here (p3.cs [(1, 0, 1), (0, 0, 7)])) ?_
 refine AnyG.ld1 (i := 4) 37 (.tmp 8) 9 37 ⟨gx0, 0, none⟩ (.slice (Gp ue9) ue8.length ueb) (by kernel_rfl) (by kernel_rfl) (Fc.here (p3.cs [(1, 0, 1), (0, 0, 7)])) (by kernel_rfl) (by kernel_rfl) (fun _ h => h.2.at_ 0 rfl) ?_
 refine AnyG.ldN (i := 5) 49 (.tmp 3) 10 49 ⟨b3, 0, none⟩ (.i x1.Op :: U4 x1.Set [.i x1.X, .i x1.Y]) (by kernel_rfl) (by kernel_rfl) (Fc.here (p3.cs [(1, 0, 1), (0, 0, 7)])) (by kernel_rfl) (by kernel_rfl) (by kernel_rfl) (fun _ h j v hj => by match j, hj with | 0, rfl => exact h.2.at_ 1 rfl | 1, rfl => exact h.2.at_ 2 rfl | 2, rfl => exact h.2.at_ 3 rfl | 3, rfl => exact h.2.at_ 4 rfl | 4, rfl => exact h.2.at_ 5 rfl | 5, rfl => exact h.2.at_ 6 rfl | 6, rfl => exact h.2.at_ 7 rfl | (j + 7), hj => simp at hj) ?_
 have f6 : Els kT48 S0 w3 ((.i x1.Op :: U4 x1.Set [.i x1.X, .i x1.Y]) : List Value) [x1] := by exact (Els.cons (K := kT48) (vs := (.i x1.Op :: U4 x1.Set [.i x1.X, .i x1.Y])) (x := x1) ⟨[.i x1.Op], (U4 x1.Set [.i x1.X, .i x1.Y]), rfl, rfl, ⟨(U4 x1.Set []), [.i x1.X, .i x1.Y], rfl, ⟨uef, els_mk4 uef⟩, ⟨[.i x1.X], [.i x1.Y], rfl, rfl, rfl⟩⟩⟩ Els.nil)
 refine Op_.made (.buildSlice 37 1 #[(0, (.tmp 10))]) 11 37 (fun b => .slice (Gp (some b)) 1 1) 49 ((.i x1.Op :: U4 x1.Set [.i x1.X, .i x1.Y]) : List Value) p3 (AnyG.vs (i := 6) (by kernel_rfl) (by kernel_rfl)) (by kernel_rfl) ?_
 intro b5 w4 z4 p4
 have p4 : Hp nz wz S0 w4 (((some b5), .row 49 ((.i x1.Op :: U4 x1.Set [.i x1.X, .i x1.Y]) : List Value) (1 * kT48.size) 0) :: (some b3, .row 49 (.i x1.Op :: U4 x1.Set [.i x1.X, .i x1.Y]) 7 0) :: (some gx0, .row 78 [.slice (Gp ue9) ue8.length ueb] 1 0) :: (ue9, .row 49 uec (ueb * kT48.size) 0) :: Lr) := p4
 refine AnyG.next z4 ⟨(p4.c 2 0), (p4.c 1 0), (p4.c 1 1), (p4.c 1 2), (p4.c 1 3), (p4.c 1 4), (p4.c 1 5), (p4.c 1 6), trivial⟩ ?_
 refine guard_some' h fun g11 h => ?_
 refine Op_.ap_n (K := kT48) 37 (.tmp 9) (.tmp 11) 12 37 49 3 (.agg #[.i 0, .u 0, .u 0, .u 0, .u 0, .i 0, .i 0]) 56 ue8.length ueb 1 ue8 [x1] (ue8 ++ [x1]) (Gp (some b5)) 1 rfl rfl rfl p4 rfl (ued.ext ((z2.trans z3).trans z4)) (AnyG.vs (i := 7) (by kernel_rfl) (by kernel_rfl)) (by kernel_rfl) (by kernel_rfl) (by kernel_rfl) (by kernel_rfl) rfl (by decide) (f6.ext z4) (src_own p4 (q := 0) rfl) (by have := g11; omega) (by have := g11; omega) ?_
 intro w5 G12 c13 ueg z5 p5 f15
 refine AnyG.next z5 ⟨(p5.c 2 0), (p5.c 1 0), (p5.c 1 1), (p5.c 1 2), (p5.c 1 3), (p5.c 1 4), (p5.c 1 5), (p5.c 1 6), trivial⟩ ?_
 refine AnyG.pu 8 (.nilCheck (.tmp 5)) 13 0 ((pt gx0 0)) (Fc.here (p5.cs [(2, 0, 1), (1, 0, 7)])) ?_
 refine AnyG.pu 9 (.fieldAddr 78 (.tmp 13) 0) 14 0 ((pt gx0 0)) (Fc.here (p5.cs [(2, 0, 1), (1, 0, 7)])) ?_
 refine Op_.st 37 (.tmp 14) (.tmp 12) 0 2 gx0 0 (.slice (Gp G12) ((ue8 ++ [x1]).length) c13) [.slice (Gp G12) ((ue8 ++ [x1]).length) c13] p5 rfl (AnyG.ss (i := 10) (by kernel_rfl) (by kernel_rfl)) (by kernel_rfl) (by kernel_rfl) (by kernel_rfl) (by kernel_rfl) (Nat.zero_le _) (by simp only [List.length_cons, List.length_nil]; omega) (by simp [Value.oneCell']) ?_
 intro w6 z6 p6
 have p6 : Hp nz wz S0 w6 (((some b5), .row 49 ((.i x1.Op :: U4 x1.Set [.i x1.X, .i x1.Y]) : List Value) (1 * kT48.size) 0) :: (some b3, .row 49 (.i x1.Op :: U4 x1.Set [.i x1.X, .i x1.Y]) 7 0) :: (some gx0, .row 78 [.slice (Gp G12) ((ue8 ++ [x1]).length) c13] 1 0) :: (G12, .row 49 ueg (c13 * kT48.size) 0) :: Lr) := p6
 refine AnyG.last [] (Fc S0 w6 []) (by decide) ?_
 refine AnyG.done (by kernel_rfl) ?_ _
 have p6 := (p6.dp 0).dp 0
 refine Goes.rn 5 [(15, (pt gx0 0)), (16, (pt gx0 0)), (17, (pt gx0 0))] Jot ?_
 refine Goes.ld 37 (.tmp 17) 18 37 ⟨gx0, 0, none⟩ (.slice (Gp G12) ((ue8 ++ [x1]).length) c13) (p6.c 0 0) ?_
 refine Goes.rn 4 [(19, .i ((ue8 ++ [x1]).length : Int)), (20, .i (wr .i64 (((ue8 ++ [x1]).length : Int) - 1))), (4, .i (wr .i64 (((ue8 ++ [x1]).length : Int) - 1)))] Jos ?_
 obtain rfl := Option.some.inj h
 exact Goes.rt Tryd.f36 (.i (wr .i64 (((ue8 ++ [x1]).length : Int) - 1))) ⟨S0, G12, (ue8 ++ [x1]).length, c13, ueg, rfl, ((((((Ext.refl S0 w0).trans z2).trans z3).trans z4).trans z5).trans z6), p6, (f15.ext z6), rfl⟩

def Qji := sub [1] B54
def Jou : List Item := [.code Qji]
def Qjj := sub [0] B54
def Jov : List Item := .inRegion (opsOf Qjj) [0, 1, 2] :: Jou
def Qjk := sub [1, 1] B54
def Jow : List Item := [.code Qjk]
def Qjl := sub [1, 0] B54
def Jox : List Item := .inRegion (opsOf Qjl) [0, 1, 2, 3, 4] :: Jow
def Joy : List Item := .inRegion (opsOf Qjl) [4] :: Jow

def Post.z36 (gx0 : Nat) (ue9 : Option Nat) (uea : Nat) (ueb : Nat) (uec : List Value) (ue8 : List T48) (r : T99) (v : Value) (w' : World) : Prop :=
 ∃ S' ueh, v = .agg #[.i r.n, ueh] ∧ Ext S0 w0 S' w' ∧ Hp nz wz S' w' ((some gx0, .row 78 [.slice (Gp ue9) uea ueb] 1 0) :: (ue9, .row 49 uec (ueb * kT48.size) 0) :: Lr) ∧ Rp1 (kC98 gx0) S' w' ueh r.code

theorem W.z36 (ue8 : List T48) (x1 : T27) (r : T99) (h : M.prog_writer_of ue8 x1 = some r) {nz wz S0 w0 Lr} [Gw nz wz] (gx0 ue9 uea ueb uec uei uej uek) (p0 : Hp nz wz S0 w0 ((some gx0, .row 78 [.slice (Gp ue9) uea ueb] 1 0) :: (ue9, .row 49 uec (ueb * kT48.size) 0) :: Lr)) (ued : Els kT48 S0 w0 uec ue8) (uee : ue8.length = uea) (uef : x1.Set.length = 4) (uel : Rd kT27 S0 w0 uei uek x1.L) (uem : x1.L.length = uej) :
  Calls Tryd.prog 54 #[(pt gx0 0), (ag (.i x1.Kind :: U4 x1.Set [.slice uei uej uek, .i x1.Min, .i x1.Max]))] w0 (Rets (Post.z36 nz wz S0 w0 Lr gx0 ue9 uea ueb uec ue8 r)) := by
 subst uee
 subst uem
 refine calls_of_goes (fn := Tryd.f54) (c := B54) (by kernel_rfl) (by kernel_rfl) 7 (by kernel_rfl) ?_
 refine Goes.jp 9 [(0, (pt gx0 0)), (1, (ag (.i x1.Kind :: U4 x1.Set [.slice uei x1.L.length uek, .i x1.Min, .i x1.Max])))] (fun junk => ?_)
 delta M.prog_writer_of at h
 refine Goes.rn 2 [] Jov ?_
 refine Op_.box 76 (.tmp 0) 2 0 ((pt gx0 0)) [(pt gx0 0)] p0 Goes.v (by kernel_rfl) (by kernel_rfl) ?_
 intro b3 w2 z2 p2
 refine Op_.box 28 (.tmp 1) 3 0 (ag (.i x1.Kind :: U4 x1.Set [.slice uei x1.L.length uek, .i x1.Min, .i x1.Max])) (.i x1.Kind :: U4 x1.Set [.slice uei x1.L.length uek, .i x1.Min, .i x1.Max]) p2 Goes.v (by kernel_rfl) (by kernel_rfl) ?_
 intro b5 w3 z3 p3
 refine Op_.alloc 100 4 0 (.agg #[.i 0, .nilFunc]) [.i 0, .nilFunc] p3 Goes.v (by kernel_rfl) (by kernel_rfl) ?_
 intro b7 w4 z4 p4
 refine Goes.rn 3 [] Jox ?_
 refine Goes.ldN 28 (.tmp 3) 5 28 ⟨b5, 0, none⟩ (.i x1.Kind :: U4 x1.Set [.slice uei x1.L.length uek, .i x1.Min, .i x1.Max]) (p4.pa 1 0) ?_
 refine bind_some' h fun y9 e10 h => ?_
 refine Goes.cal (kc 38 [5] #[28]) 6 3 38 _ (W.z31 x1 y9 e10 uei x1.L.length uek p4 uef (uel.ext ((z2.trans z3).trans z4)) rfl) ?_
 rintro _ w5 ⟨S5, rfl, z5, p5⟩
 refine Goes.rn 2 [(7, .func (.func 71) #[] #[(pt b3 0), (pt b5 0)]), (8, .agg #[.i y9, .func (.func 71) #[] #[(pt b3 0), (pt b5 0)]])] Joy ?_
 refine Op_.st 100 (.tmp 4) (.tmp 8) 0 0 b7 0 (.agg #[.i y9, .func (.func 71) #[] #[(pt b3 0), (pt b5 0)]]) [.i y9, .func (.func 71) #[] #[(pt b3 0), (pt b5 0)]] p5 rfl Goes.s (by kernel_rfl) (by kernel_rfl) (by kernel_rfl) (by kernel_rfl) (Nat.zero_le _) (by simp only [List.length_cons, List.length_nil]; omega) (by simp [Value.oneCell']) ?_
 intro w6 z6 p6
 have p6 : Hp nz wz S5 w6 ((some b7, .row 100 [.i y9, .func (.func 71) #[] #[(pt b3 0), (pt b5 0)]] 2 0) :: (some b5, .row 28 (.i x1.Kind :: U4 x1.Set [.slice uei x1.L.length uek, .i x1.Min, .i x1.Max]) 8 0) :: (some b3, .row 76 [(pt gx0 0)] 1 0) :: (some gx0, .row 78 [.slice (Gp ue9) ue8.length ueb] 1 0) :: (ue9, .row 49 uec (ueb * kT48.size) 0) :: Lr) := p6
 refine Goes.rn 1 [] Jow ?_
 obtain ⟨S7, z7, p7, f11⟩ := p6.freezeBlk 2 rfl
 obtain ⟨S8, z8, p8, f12⟩ := p7.freezeBlk 1 rfl
 obtain rfl := Option.some.inj h
 exact Goes.ret (fn := Tryd.f54) (by kernel_rfl) (v := .agg #[.i y9, .func (.func 71) #[] #[(pt b3 0), (pt b5 0)]]) (results_n1 (fn := Tryd.f54) (a := .cell 4 100) (by kernel_rfl) (resV_cell ⟨b7, 0, none⟩ (by kernel_rfl) (run_loadN [.i y9, .func (.func 71) #[] #[(pt b3 0), (pt b5 0)]] (by kernel_rfl) (by kernel_rfl) (p8.pa 0 0)))) ⟨S8, .func (.func 71) #[] #[(pt b3 0), (pt b5 0)], rfl, ((((((((Ext.refl S0 w0).trans z2).trans z3).trans z4).trans z5).trans z6).trans z7).trans z8), p8.drop, (show Rp1 (kC98 gx0) S8 w6 (.func (.func 71) #[] #[(pt b3 0), (pt b5 0)]) ((Sum.inl x1) : T27 ⊕ T27 ⊕ (Int × T27)) from ⟨[(pt b3 0), (pt b5 0)], rfl, ⟨[(pt b3 0)], [(pt b5 0)], rfl, ⟨_, rfl, (f11.ext z8)⟩, ⟨_, _, rfl, List.cons_ne_nil _ _, f12, (kT27_close ⟨[.i x1.Kind], (U4 x1.Set [.slice uei x1.L.length uek, .i x1.Min, .i x1.Max]), rfl, rfl, ⟨(U4 x1.Set []), [.slice uei x1.L.length uek, .i x1.Min, .i x1.Max], rfl, ⟨uef, els_mk4 uef⟩, ⟨[.slice uei x1.L.length uek], [.i x1.Min, .i x1.Max], rfl, ⟨_, _, rfl, (uel.ext ((((((z2.trans z3).trans z4).trans z5).trans z6).trans z7).trans z8))⟩, ⟨[.i x1.Min], [.i x1.Max], rfl, rfl, rfl⟩⟩⟩⟩)⟩⟩⟩)⟩

def Qjm := sub [1] B72
def Joz : List Item := [.code Qjm]
def Qjn := sub [0] B72
def Jp0 : List Item := .inRegion (opsOf Qjn) [0, 1, 2] :: Joz
def Qjo := sub [1, 1] B72
def Jp1 : List Item := [.code Qjo]
def Qjp := sub [1, 0] B72
def Jp2 : List Item := .inRegion (opsOf Qjp) [0, 1, 2, 3, 4, 5] :: Jp1
def Jp3 : List Item := .inRegion (opsOf Qjp) [5] :: Jp1

def Post.z37 (gx0 : Nat) (ue9 : Option Nat) (uea : Nat) (ueb : Nat) (uec : List Value) (ue8 : List T48) (r : T99) (v : Value) (w' : World) : Prop :=
 ∃ S' ueh, v = .agg #[.i r.n, ueh] ∧ Ext S0 w0 S' w' ∧ Hp nz wz S' w' ((some gx0, .row 78 [.slice (Gp ue9) uea ueb] 1 0) :: (ue9, .row 49 uec (ueb * kT48.size) 0) :: Lr) ∧ Rp1 (kC98 gx0) S' w' ueh r.code

theorem W.z37 (ue8 : List T48) (x1 : T27) (r : T99) (h : M.prog_writer_loop ue8 x1 = some r) {nz wz S0 w0 Lr} [Gw nz wz] (gx0 ue9 uea ueb uec uei uej uek) (p0 : Hp nz wz S0 w0 ((some gx0, .row 78 [.slice (Gp ue9) uea ueb] 1 0) :: (ue9, .row 49 uec (ueb * kT48.size) 0) :: Lr)) (ued : Els kT48 S0 w0 uec ue8) (uee : ue8.length = uea) (uef : x1.Set.length = 4) (uel : Rd kT27 S0 w0 uei uek x1.L) (uem : x1.L.length = uej) :
  Calls Tryd.prog 72 #[(pt gx0 0), (ag (.i x1.Kind :: U4 x1.Set [.slice uei uej uek, .i x1.Min, .i x1.Max]))] w0 (Rets (Post.z37 nz wz S0 w0 Lr gx0 ue9 uea ueb uec ue8 r)) := by
 subst uee
 subst uem
 refine calls_of_goes (fn := Tryd.f72) (c := B72) (by kernel_rfl) (by kernel_rfl) 8 (by kernel_rfl) ?_
 refine Goes.jp 10 [(0, (pt gx0 0)), (1, (ag (.i x1.Kind :: U4 x1.Set [.slice uei x1.L.length uek, .i x1.Min, .i x1.Max])))] (fun junk => ?_)
 delta M.prog_writer_loop at h
 refine Goes.rn 2 [] Jp0 ?_
 refine Op_.box 76 (.tmp 0) 2 0 ((pt gx0 0)) [(pt gx0 0)] p0 Goes.v (by kernel_rfl) (by kernel_rfl) ?_
 intro b3 w2 z2 p2
 refine Op_.box 28 (.tmp 1) 3 0 (ag (.i x1.Kind :: U4 x1.Set [.slice uei x1.L.length uek, .i x1.Min, .i x1.Max])) (.i x1.Kind :: U4 x1.Set [.slice uei x1.L.length uek, .i x1.Min, .i x1.Max]) p2 Goes.v (by kernel_rfl) (by kernel_rfl) ?_
 intro b5 w3 z3 p3
 refine Op_.alloc 100 4 0 (.agg #[.i 0, .nilFunc]) [.i 0, .nilFunc] p3 Goes.v (by kernel_rfl) (by kernel_rfl) ?_
 intro b7 w4 z4 p4
 refine Goes.rn 3 [] Jp2 ?_
 refine Goes.ldN 28 (.tmp 3) 5 28 ⟨b5, 0, none⟩ (.i x1.Kind :: U4 x1.Set [.slice uei x1.L.length uek, .i x1.Min, .i x1.Max]) (p4.pa 1 0) ?_
 refine bind_some' h fun y9 e10 h => ?_
 refine Goes.cal (kc 38 [5] #[28]) 6 3 38 _ (W.z31 x1 y9 e10 uei x1.L.length uek p4 uef (uel.ext ((z2.trans z3).trans z4)) rfl) ?_
 rintro _ w5 ⟨S5, rfl, z5, p5⟩
 refine Goes.rn 3 [(7, .i (wr .i64 (y9 + 1))), (8, .func (.func 85) #[] #[(pt b3 0), (pt b5 0)]), (9, .agg #[.i (wr .i64 (y9 + 1)), .func (.func 85) #[] #[(pt b3 0), (pt b5 0)]])] Jp3 ?_
 refine Op_.st 100 (.tmp 4) (.tmp 9) 0 0 b7 0 (.agg #[.i (wr .i64 (y9 + 1)), .func (.func 85) #[] #[(pt b3 0), (pt b5 0)]]) [.i (wr .i64 (y9 + 1)), .func (.func 85) #[] #[(pt b3 0), (pt b5 0)]] p5 rfl Goes.s (by kernel_rfl) (by kernel_rfl) (by kernel_rfl) (by kernel_rfl) (Nat.zero_le _) (by simp only [List.length_cons, List.length_nil]; omega) (by simp [Value.oneCell']) ?_
 intro w6 z6 p6
 have p6 : Hp nz wz S5 w6 ((some b7, .row 100 [.i (wr .i64 (y9 + 1)), .func (.func 85) #[] #[(pt b3 0), (pt b5 0)]] 2 0) :: (some b5, .row 28 (.i x1.Kind :: U4 x1.Set [.slice uei x1.L.length uek, .i x1.Min, .i x1.Max]) 8 0) :: (some b3, .row 76 [(pt gx0 0)] 1 0) :: (some gx0, .row 78 [.slice (Gp ue9) ue8.length ueb] 1 0) :: (ue9, .row 49 uec (ueb * kT48.size) 0) :: Lr) := p6
 refine Goes.rn 1 [] Jp1 ?_
 obtain ⟨S7, z7, p7, f11⟩ := p6.freezeBlk 2 rfl
 obtain ⟨S8, z8, p8, f12⟩ := p7.freezeBlk 1 rfl
 obtain rfl := Option.some.inj h
 exact Goes.ret (fn := Tryd.f72) (by kernel_rfl) (v := .agg #[.i (wr .i64 (y9 + 1)), .func (.func 85) #[] #[(pt b3 0), (pt b5 0)]]) (results_n1 (fn := Tryd.f72) (a := .cell 4 100) (by kernel_rfl) (resV_cell ⟨b7, 0, none⟩ (by kernel_rfl) (run_loadN [.i (wr .i64 (y9 + 1)), .func (.func 85) #[] #[(pt b3 0), (pt b5 0)]] (by kernel_rfl) (by kernel_rfl) (p8.pa 0 0)))) ⟨S8, .func (.func 85) #[] #[(pt b3 0), (pt b5 0)], rfl, ((((((((Ext.refl S0 w0).trans z2).trans z3).trans z4).trans z5).trans z6).trans z7).trans z8), p8.drop, (show Rp1 (kC98 gx0) S8 w6 (.func (.func 85) #[] #[(pt b3 0), (pt b5 0)]) ((Sum.inr (Sum.inl x1)) : T27 ⊕ T27 ⊕ (Int × T27)) from ⟨[(pt b3 0), (pt b5 0)], rfl, ⟨[(pt b3 0)], [(pt b5 0)], rfl, ⟨_, rfl, (f11.ext z8)⟩, ⟨_, _, rfl, List.cons_ne_nil _ _, f12, (kT27_close ⟨[.i x1.Kind], (U4 x1.Set [.slice uei x1.L.length uek, .i x1.Min, .i x1.Max]), rfl, rfl, ⟨(U4 x1.Set []), [.slice uei x1.L.length uek, .i x1.Min, .i x1.Max], rfl, ⟨uef, els_mk4 uef⟩, ⟨[.slice uei x1.L.length uek], [.i x1.Min, .i x1.Max], rfl, ⟨_, _, rfl, (uel.ext ((((((z2.trans z3).trans z4).trans z5).trans z6).trans z7).trans z8))⟩, ⟨[.i x1.Min], [.i x1.Max], rfl, rfl, rfl⟩⟩⟩⟩)⟩⟩⟩)⟩

def Qjq := sub [1] B73
def Jp4 : List Item := [.code Qjq]
def Qjr := sub [0] B73
def Jp5 : List Item := .inRegion (opsOf Qjr) [0, 1, 2, 3] :: Jp4
def Qjs := sub [1, 1] B73
def Jp6 : List Item := [.code Qjs]
def Qjt := sub [1, 0] B73
def Jp7 : List Item := .inRegion (opsOf Qjt) [0, 1, 2, 3, 4, 5] :: Jp6
def Jp8 : List Item := .inRegion (opsOf Qjt) [5] :: Jp6

def Post.z38 (gx0 : Nat) (ue9 : Option Nat) (uea : Nat) (ueb : Nat) (uec : List Value) (ue8 : List T48) (r : T99) (v : Value) (w' : World) : Prop :=
 ∃ S' ueh, v = .agg #[.i r.n, ueh] ∧ Ext S0 w0 S' w' ∧ Hp nz wz S' w' ((some gx0, .row 78 [.slice (Gp ue9) uea ueb] 1 0) :: (ue9, .row 49 uec (ueb * kT48.size) 0) :: Lr) ∧ Rp1 (kC98 gx0) S' w' ueh r.code

theorem W.z38 (ue8 : List T48) (x1 : T27) (x2 : Int) (r : T99) (h : M.prog_writer_perhaps ue8 x1 x2 = some r) {nz wz S0 w0 Lr} [Gw nz wz] (gx0 ue9 uea ueb uec uei uej uek) (p0 : Hp nz wz S0 w0 ((some gx0, .row 78 [.slice (Gp ue9) uea ueb] 1 0) :: (ue9, .row 49 uec (ueb * kT48.size) 0) :: Lr)) (ued : Els kT48 S0 w0 uec ue8) (uee : ue8.length = uea) (uef : x1.Set.length = 4) (uel : Rd kT27 S0 w0 uei uek x1.L) (uem : x1.L.length = uej) :
  Calls Tryd.prog 73 #[(pt gx0 0), (ag (.i x1.Kind :: U4 x1.Set [.slice uei uej uek, .i x1.Min, .i x1.Max])), .i x2] w0 (Rets (Post.z38 nz wz S0 w0 Lr gx0 ue9 uea ueb uec ue8 r)) := by
 subst uee
 subst uem
 refine calls_of_goes (fn := Tryd.f73) (c := B73) (by kernel_rfl) (by kernel_rfl) 9 (by kernel_rfl) ?_
 refine Goes.jp 12 [(0, (pt gx0 0)), (1, (ag (.i x1.Kind :: U4 x1.Set [.slice uei x1.L.length uek, .i x1.Min, .i x1.Max]))), (2, .i x2)] (fun junk => ?_)
 delta M.prog_writer_perhaps at h
 refine Goes.rn 2 [] Jp5 ?_
 refine Op_.box 76 (.tmp 0) 3 0 ((pt gx0 0)) [(pt gx0 0)] p0 Goes.v (by kernel_rfl) (by kernel_rfl) ?_
 intro b3 w2 z2 p2
 refine Op_.box 28 (.tmp 1) 4 0 (ag (.i x1.Kind :: U4 x1.Set [.slice uei x1.L.length uek, .i x1.Min, .i x1.Max])) (.i x1.Kind :: U4 x1.Set [.slice uei x1.L.length uek, .i x1.Min, .i x1.Max]) p2 Goes.v (by kernel_rfl) (by kernel_rfl) ?_
 intro b5 w3 z3 p3
 refine Op_.box 3 (.tmp 2) 5 0 (.i x2) [.i x2] p3 Goes.v (by kernel_rfl) (by kernel_rfl) ?_
 intro b7 w4 z4 p4
 refine Op_.alloc 100 6 0 (.agg #[.i 0, .nilFunc]) [.i 0, .nilFunc] p4 Goes.v (by kernel_rfl) (by kernel_rfl) ?_
 intro b9 w5 z5 p5
 refine Goes.rn 3 [] Jp7 ?_
 refine Goes.ldN 28 (.tmp 4) 7 28 ⟨b5, 0, none⟩ (.i x1.Kind :: U4 x1.Set [.slice uei x1.L.length uek, .i x1.Min, .i x1.Max]) (p5.pa 2 0) ?_
 refine bind_some' h fun y11 e12 h => ?_
 refine Goes.cal (kc 38 [7] #[28]) 8 3 38 _ (W.z31 x1 y11 e12 uei x1.L.length uek p5 uef (uel.ext (((z2.trans z3).trans z4).trans z5)) rfl) ?_
 rintro _ w6 ⟨S6, rfl, z6, p6⟩
 refine Goes.rn 3 [(9, .i (wr .i64 (y11 + 1))), (10, .func (.func 86) #[] #[(pt b3 0), (pt b7 0), (pt b5 0)]), (11, .agg #[.i (wr .i64 (y11 + 1)), .func (.func 86) #[] #[(pt b3 0), (pt b7 0), (pt b5 0)]])] Jp8 ?_
 refine Op_.st 100 (.tmp 6) (.tmp 11) 0 0 b9 0 (.agg #[.i (wr .i64 (y11 + 1)), .func (.func 86) #[] #[(pt b3 0), (pt b7 0), (pt b5 0)]]) [.i (wr .i64 (y11 + 1)), .func (.func 86) #[] #[(pt b3 0), (pt b7 0), (pt b5 0)]] p6 rfl Goes.s (by kernel_rfl) (by kernel_rfl) (by kernel_rfl) (by kernel_rfl) (Nat.zero_le _) (by simp only [List.length_cons, List.length_nil]; omega) (by simp [Value.oneCell']) ?_
 intro w7 z7 p7
 have p7 : Hp nz wz S6 w7 ((some b9, .row 100 [.i (wr .i64 (y11 + 1)), .func (.func 86) #[] #[(pt b3 0), (pt b7 0), (pt b5 0)]] 2 0) :: (some b7, .row 3 [.i x2] 1 0) :: (some b5, .row 28 (.i x1.Kind :: U4 x1.Set [.slice uei x1.L.length uek, .i x1.Min, .i x1.Max]) 8 0) :: (some b3, .row 76 [(pt gx0 0)] 1 0) :: (some gx0, .row 78 [.slice (Gp ue9) ue8.length ueb] 1 0) :: (ue9, .row 49 uec (ueb * kT48.size) 0) :: Lr) := p7
 refine Goes.rn 1 [] Jp6 ?_
 obtain ⟨S8, z8, p8, f13⟩ := p7.freezeBlk 3 rfl
 obtain ⟨S9, z9, p9, f14⟩ := p8.freezeBlk 1 rfl
 obtain ⟨S10, z10, p10, f15⟩ := p9.freezeBlk 1 rfl
 obtain rfl := Option.some.inj h
 exact Goes.ret (fn := Tryd.f73) (by kernel_rfl) (v := .agg #[.i (wr .i64 (y11 + 1)), .func (.func 86) #[] #[(pt b3 0), (pt b7 0), (pt b5 0)]]) (results_n1 (fn := Tryd.f73) (a := .cell 6 100) (by kernel_rfl) (resV_cell ⟨b9, 0, none⟩ (by kernel_rfl) (run_loadN [.i (wr .i64 (y11 + 1)), .func (.func 86) #[] #[(pt b3 0), (pt b7 0), (pt b5 0)]] (by kernel_rfl) (by kernel_rfl) (p10.pa 0 0)))) ⟨S10, .func (.func 86) #[] #[(pt b3 0), (pt b7 0), (pt b5 0)], rfl, ((((((((((Ext.refl S0 w0).trans z2).trans z3).trans z4).trans z5).trans z6).trans z7).trans z8).trans z9).trans z10), p10.drop, (show Rp1 (kC98 gx0) S10 w7 (.func (.func 86) #[] #[(pt b3 0), (pt b7 0), (pt b5 0)]) ((Sum.inr (Sum.inr (x2, x1))) : T27 ⊕ T27 ⊕ (Int × T27)) from ⟨[(pt b3 0), (pt b7 0), (pt b5 0)], rfl, ⟨[(pt b3 0)], [(pt b7 0), (pt b5 0)], rfl, ⟨_, rfl, (f13.ext (z9.trans z10))⟩, ⟨[(pt b7 0)], [(pt b5 0)], rfl, ⟨_, _, rfl, List.cons_ne_nil _ _, (f14.ext z10), rfl⟩, ⟨_, _, rfl, List.cons_ne_nil _ _, f15, (kT27_close ⟨[.i x1.Kind], (U4 x1.Set [.slice uei x1.L.length uek, .i x1.Min, .i x1.Max]), rfl, rfl, ⟨(U4 x1.Set []), [.slice uei x1.L.length uek, .i x1.Min, .i x1.Max], rfl, ⟨uef, els_mk4 uef⟩, ⟨[.slice uei x1.L.length uek], [.i x1.Min, .i x1.Max], rfl, ⟨_, _, rfl, (uel.ext ((((((((z2.trans z3).trans z4).trans z5).trans z6).trans z7).trans z8).trans z9).trans z10))⟩, ⟨[.i x1.Min], [.i x1.Max], rfl, rfl, rfl⟩⟩⟩⟩)⟩⟩⟩⟩)⟩

end

end Go.Gx
