import Derived.Test.YtemokppdnkiejaaGreatWSFd

set_option linter.unusedVariables false

set_option maxRecDepth 100000

set_option maxHeartbeats 4000000

namespace Go.Gx

open Go.RowKit Go.Proofs

variable (nz : Nat) (wz : World) (S0 : Fz) (w0 : World) (Lr : List Ent)

noncomputable section

def Jyu := Zs [1, 1] B20 []
def Qqd := sub [1, 0] B20
def Jyv := Zr Qqd [1, 2, 3, 4, 5, 6, 7, 8, 9] Jyu
def Jyw := Zr Qqd [6, 7, 8, 9] Jyu
def Jyx := Zs [1, 1, 1] B20 []
def Jyy := Zs [1, 1, 0, 1] B20 Jyx
def Jyz := Zs [1, 1, 1, 1] B20 []
def Jz0 := Zt [1, 1, 1, 0] B20 [0, 1, 2, 3, 4, 5, 6] Jyz
def Jz1 := Zs [1, 1, 1, 1, 1] B20 []
def Jz2 := Zs [1, 1, 1, 1, 0, 1] B20 Jz1
def Jz3 := Zs [1, 1, 1, 1, 1, 1] B20 []
def Jz4 := Zt [1, 1, 1, 1, 1, 0] B20 [2, 3, 4, 5, 6, 7] Jz3
def Jz5 := Zs [1, 1, 1, 1, 1, 1, 1] B20 []
def Jz6 := Zs [1, 1, 1, 1, 0, 1, 0, 1] B20 Jz1
def Jz7 := Zs [1, 1, 0, 1, 0, 1] B20 Jyx

def Post.z4v (r : Bool × Int × Int) (v : Value) (w' : World) : Prop :=
 ∃ S', v = .tuple #[.bool r.1, .i r.2.1, .i r.2.2] ∧ Ext S0 w0 S' w' ∧ Hp nz wz S' w' (Lr)

theorem W.z4v (x0 : ByteArray) (x1 : ByteArray) (r : Bool × Int × Int) (h : M.sim_Full x0 x1 = some r) {nz wz S0 w0 Lr} (p0 : Hp nz wz S0 w0 (Lr)) :
  Calls Tryz.prog 20 #[.string x0, .string x1] w0 (Rets (Post.z4v nz wz S0 w0 Lr r)) := by
 refine Zf Tryz.f20 B20 36 ?_
 refine Gj 38 [(0, .string x0), (1, .string x1)] fun junk => ?_
 delta M.sim_Full at h
 refine Gn 9 [(4, .bool false), (5, .i 0), (6, .i 0), (13, .string x0)] Jyv ?_
 refine bind_some' h fun y1 e2 h => ?_
 refine Gc (kc 21 [13] #[9]) 14 59 21 _ (W.z3c x0 y1 e2  p0 ) ?_
 rintro _ w2 ⟨S2, ust, usu, usv, rfl, z2, p2, usw, usx, rfl⟩
 refine Gn 4 [(12, .tuple #[(ag (.i y1.1.Kind :: U4 y1.1.Set [.slice ust y1.1.L.length usv, .i y1.1.Min, .i y1.1.Max])), .i y1.2.1, .i y1.2.2]), (15, (ag (.i y1.1.Kind :: U4 y1.1.Set [.slice ust y1.1.L.length usv, .i y1.1.Min, .i y1.1.Max]))), (16, .i y1.2.1), (17, .i y1.2.2)] Jyw ?_
 refine Op_.alloc 58 7 0 (.agg #[.i 0, .u 0, .u 0, .u 0, .u 0, .slice none 0 0, .i 0, .i 0]) [.i 0, .u 0, .u 0, .u 0, .u 0, .slice none 0 0, .i 0, .i 0] p2 Goes.v (by kernel_rfl) (by kernel_rfl) ?_
 intro b3 w3 z3 p3
 refine So 58 (.tmp 7) (.tmp 15) 0 0 b3 0 (ag (.i y1.1.Kind :: U4 y1.1.Set [.slice ust y1.1.L.length usv, .i y1.1.Min, .i y1.1.Max])) (.i y1.1.Kind :: U4 y1.1.Set [.slice ust y1.1.L.length usv, .i y1.1.Min, .i y1.1.Max]) p3 rfl Goes.s ?_
 intro w4 z4 p4
 have p4 : Hp nz wz S2 w4 ((some b3, .row 58 (.i y1.1.Kind :: U4 y1.1.Set [.slice ust y1.1.L.length usv, .i y1.1.Min, .i y1.1.Max]) 8 0) :: Lr) := p4
 refine Gn 9 [(8, .i y1.2.1), (9, .i y1.2.2), (18, .i y1.2.2), (19, .bool (!(decide (y1.2.2 = 0))))] Jyy ?_
 refine ite_some h (fun h5 h => ?_) (fun h5 h => ?_)
 ·
  rw [decide_eq_true h5]
  refine Gn 4 [] Jz0 ?_
  refine Goes.ldN 58 (.tmp 7) 23 58 ⟨b3, 0, none⟩ (.i y1.1.Kind :: U4 y1.1.Set [.slice ust y1.1.L.length usv, .i y1.1.Min, .i y1.1.Max]) (p4.pa 0 0) ?_
  refine bind_some' h fun y6 e7 h => ?_
  refine Gc (kc 22 [23] #[58]) 24 61 22 _ (W.z4n y1.1 y6 e7 ust y1.1.L.length usv p4 usw (usx.ext (z3.trans z4)) rfl) ?_
  rintro _ w5 ⟨S5, usy, usz, ut0, ut1, rfl, z5, p5, ut2, rfl⟩
  have p5 := p5.dp 1
  refine Gn 12 [(22, .tuple #[.slice (Gp usy) y6.1.length ut0, .i y6.2]), (25, .slice (Gp usy) y6.1.length ut0), (26, .i y6.2), (10, .slice (Gp usy) y6.1.length ut0), (9, .i y6.2), (27, .i y6.2), (28, .bool (!(decide (y6.2 = 0))))] Jz2 ?_
  refine ite_some h (fun h9 h => ?_) (fun h9 h => ?_)
  ·
   rw [decide_eq_true h9]
   refine Gn 6 [(31, .slice (Gp usy) y6.1.length ut0), (32, .string x1)] Jz4 ?_
   obtain ⟨S6, z6, p6, f10⟩ := p5.freezeRd 0 rfl ut2 (by decide)
   refine bind_some' h fun y11 e12 h => ?_
   refine Gc (kc 35 [31, 32] #[22, 9]) 33 29 35 _ (W.z4p y6.1 x1 y11 e12 (Gp usy) y6.1.length ut0 p6 f10 rfl) ?_
   rintro _ w7 ⟨S7, rfl, z7, p7⟩
   have p7 := p7.dp 0
   refine Gn 14 [(30, .tuple #[.bool y11.1, .i y11.2]), (34, .bool y11.1), (35, .i y11.2), (11, .bool y11.1), (9, .i y11.2), (36, .bool y11.1), (37, .i y11.2), (4, .bool y11.1), (5, .i 0), (6, .i y11.2)] Jz5 ?_
   obtain rfl := Option.some.inj h
   exact Goes.rt Tryz.f20 (.tuple #[.bool y11.1, .i 0, .i y11.2]) ⟨S7, rfl, (((((((Ext.refl S0 w0).trans z2).trans z3).trans z4).trans z5).trans z6).trans z7), p7⟩
  ·
   rw [decide_eq_false h9]
   refine Gn 8 [(29, .i y6.2), (4, .bool false), (5, .i 0), (6, .i y6.2)] Jz6 ?_
   obtain rfl := Option.some.inj h
   have p5 := p5.dp 0
   exact Goes.rt Tryz.f20 (.tuple #[.bool false, .i 0, .i y6.2]) ⟨S5, rfl, (((((Ext.refl S0 w0).trans z2).trans z3).trans z4).trans z5), p5⟩
 ·
  rw [decide_eq_false h5]
  refine Gn 9 [(20, .i y1.2.1), (21, .i y1.2.2), (4, .bool false), (5, .i y1.2.1), (6, .i y1.2.2)] Jz7 ?_
  obtain rfl := Option.some.inj h
  have p4 := p4.dp 0
  exact Goes.rt Tryz.f20 (.tuple #[.bool false, .i y1.2.1, .i y1.2.2]) ⟨S2, rfl, ((((Ext.refl S0 w0).trans z2).trans z3).trans z4), p4⟩

def Jz8 := Zs [1] B43 []
def Jz9 := Zt [0] B43 [0, 1, 2, 3] Jz8
def Jza := Zs [1, 1] B43 []

def Post.z4w (gx0 : Nat) (uh : Option Nat) (ui : Nat) (uj : Nat) (uk : List Value) (ul : Nat) (um : Option Nat) (un : Nat) (uo : Nat) (up : List Value) (uq : Option Nat) (ur : Nat) (ut : Nat) (uu : List Value) (uv : Nat) (uw : Option Nat) (ux : Nat) (uy : Nat) (uz : List Value) (u10 : Option Nat) (u11 : Nat) (u12 : Nat) (u13 : List Value) (x0v : T50) (r : Int × ByteArray) (v : Value) (w' : World) : Prop :=
 ∃ S' u8y u8z ut3, v = .func (.func 61) #[] #[(pt u8y 0), (pt u8z 0), (pt ut3 0)] ∧ Ext S0 w0 S' w' ∧ Hp nz wz S' w' ((some u8y, .row 3 [.i r.1] 1 0) :: (some u8z, .row 25 [(pt gx0 0)] 1 0) :: (some ut3, .row 9 [.string r.2] 1 0) :: (some gx0, .row 51 [.slice (Gp uh) ui uj, (pt ul 0), (pt uv 0)] 3 0) :: (uh, .row 46 uk (uj * kT45.size) 0) :: (some ul, .row 66 [.slice (Gp um) un uo, .slice (Gp uq) ur ut] 2 0) :: (um, .row 3 up (uo * (kInt .i64).size) 0) :: (uq, .row 49 uu (ut * (kInt .i64).size) 0) :: (some uv, .row 66 [.slice (Gp uw) ux uy, .slice (Gp u10) u11 u12] 2 0) :: (uw, .row 3 uz (uy * (kInt .i64).size) 0) :: (u10, .row 49 u13 (u12 * (kInt .i64).size) 0) :: Lr)

theorem W.z4w (x0v : T50) (x1 : ByteArray) (x2 : Int) (r : Int × ByteArray) (h : M.sim_Runner_ends x0v x1 x2 = some r) {nz wz S0 w0 Lr} (gx0 uh ui uj uk ul um un uo up uq ur ut uu uv uw ux uy uz u10 u11 u12 u13) (p0 : Hp nz wz S0 w0 ((some gx0, .row 51 [.slice (Gp uh) ui uj, (pt ul 0), (pt uv 0)] 3 0) :: (uh, .row 46 uk (uj * kT45.size) 0) :: (some ul, .row 66 [.slice (Gp um) un uo, .slice (Gp uq) ur ut] 2 0) :: (um, .row 3 up (uo * (kInt .i64).size) 0) :: (uq, .row 49 uu (ut * (kInt .i64).size) 0) :: (some uv, .row 66 [.slice (Gp uw) ux uy, .slice (Gp u10) u11 u12] 2 0) :: (uw, .row 3 uz (uy * (kInt .i64).size) 0) :: (u10, .row 49 u13 (u12 * (kInt .i64).size) 0) :: Lr)) (u14 : Els kT45 S0 w0 uk x0v.l) (u15 : x0v.l.length = ui) (u16 : Els (kInt .i64) S0 w0 up x0v.now.place) (u17 : x0v.now.place.length = un) (u18 : Els (kInt .i64) S0 w0 uu x0v.now.list) (u19 : x0v.now.list.length = ur) (u1a : Els (kInt .i64) S0 w0 uz x0v.next.place) (u1b : x0v.next.place.length = ux) (u1c : Els (kInt .i64) S0 w0 u13 x0v.next.list) (u1d : x0v.next.list.length = u11) :
  Calls Tryz.prog 43 #[(pt gx0 0), .string x1, .i x2] w0 (Rets (Post.z4w nz wz S0 w0 Lr gx0 uh ui uj uk ul um un uo up uq ur ut uu uv uw ux uy uz u10 u11 u12 u13 x0v r)) := by
 subst u15
 subst u17
 subst u19
 subst u1b
 subst u1d
 refine Zf Tryz.f43 B43 5 ?_
 refine Gj 8 [(0, (pt gx0 0)), (1, .string x1), (2, .i x2)] fun junk => ?_
 delta M.sim_Runner_ends at h
 refine Gn 2 [] Jz9 ?_
 refine Op_.box 25 (.tmp 0) 3 0 ((pt gx0 0)) [(pt gx0 0)] p0 Goes.v (by kernel_rfl) (by kernel_rfl) ?_
 intro b9 w2 z2 p2
 refine Op_.box 9 (.tmp 1) 4 0 (.string x1) [.string x1] p2 Goes.v (by kernel_rfl) (by kernel_rfl) ?_
 intro b11 w3 z3 p3
 refine Op_.box 3 (.tmp 2) 5 0 (.i x2) [.i x2] p3 Goes.v (by kernel_rfl) (by kernel_rfl) ?_
 intro b13 w4 z4 p4
 refine Gn 7 [(6, .func (.func 61) #[] #[(pt b13 0), (pt b9 0), (pt b11 0)]), (7, .func (.func 61) #[] #[(pt b13 0), (pt b9 0), (pt b11 0)])] Jza ?_
 obtain rfl := Option.some.inj h
 have p4 := ((((((((((p4.fr 10).fr 10).fr 10).fr 10).fr 10).fr 10).fr 10).fr 10).fr 9).fr 10).fr 10
 exact Goes.rt Tryz.f43 (.func (.func 61) #[] #[(pt b13 0), (pt b9 0), (pt b11 0)]) ⟨S0, b13, b9, b11, rfl, ((((Ext.refl S0 w0).trans z2).trans z3).trans z4), p4⟩

def Qqs := sub [1, 0, 1, 0, 1, 0] B60
def Jzb := Zr Qqs [0, 1, 2, 3, 4] Jb0
def Jzc := Zr Qqs [2, 3, 4] Jb0
def Qqt := sub [1, 0, 1, 0] B60
def Qqu := sub [1, 0, 1, 0, 1] B60

def Post.z4x (lk : Nat) (rk : Nat) (jkk : Nat → Value) (u9e : Nat) (ut4 : Nat) (ut5 : Nat) (ut6 : Nat) (ut7 : Option Nat) (ut8 : Nat) (ut9 : Nat) (uta : List Value) (utb : Nat) (utc : Option Nat) (utd : Nat) (ute : Nat) (utf : List Value) (utg : Option Nat) (uth : Nat) (uti : Nat) (utj : List Value) (utk : Nat) (utl : Option Nat) (utm : Nat) (utn : Nat) (uto : List Value) (utp : Option Nat) (utq : Nat) (utr : Nat) (uts : List Value) (utt : Nat) (utu : Int) (utv : T50) (utw : ByteArray) (r : List Int) (v : Value) (w' : World) : Prop :=
 ∃ S' u1u u1v u1w u1x, v = .bool true ∧ Ext S0 w0 S' w' ∧ Hp nz wz S' w' ((some lk, .obj (lpst 60 (lfr 13 [(2, (pt u9e 0)), (6, .func (.func 61) #[] #[(pt ut4 0), (pt ut5 0), (pt utt 0)])] jkk) #[7] (rfAssign (Qqt)) (rfBody (Qqt)) rk .ready none)) :: (some u9e, .row 33 [.slice (Gp u1u) u1v u1w] 1 0) :: (u1u, .row 3 u1x (u1w * (kInt .i64).size) 0) :: (some ut4, .row 3 [.i utu] 1 0) :: (some ut5, .row 25 [(pt ut6 0)] 1 0) :: (some ut6, .row 51 [.slice (Gp ut7) ut8 ut9, (pt utb 0), (pt utk 0)] 3 0) :: (ut7, .row 46 uta (ut9 * kT45.size) 0) :: (some utb, .row 66 [.slice (Gp utc) utd ute, .slice (Gp utg) uth uti] 2 0) :: (utc, .row 3 utf (ute * (kInt .i64).size) 0) :: (utg, .row 49 utj (uti * (kInt .i64).size) 0) :: (some utk, .row 66 [.slice (Gp utl) utm utn, .slice (Gp utp) utq utr] 2 0) :: (utl, .row 3 uto (utn * (kInt .i64).size) 0) :: (utp, .row 49 uts (utr * (kInt .i64).size) 0) :: (some utt, .row 9 [.string utw] 1 0) :: Lr) ∧ Els (kInt .i64) S' w' u1x r ∧ r.length = u1v

theorem W.z4x (utx : List Int) (utu : Int) (utv : T50) (utw : ByteArray) (a0 : Int) (r : List Int) (h : M.slices_AppendSeq_int_int__r_2 utx utu utv utw a0 = some r) {nz wz S0 w0 Lr} (lk rk jkk u9e uty utz uu0 uu1 ut4 ut5 ut6 ut7 ut8 ut9 uta utb utc utd ute utf utg uth uti utj utk utl utm utn uto utp utq utr uts utt) (p0 : Hp nz wz S0 w0 ((some lk, .obj (lpst 60 (lfr 13 [(2, (pt u9e 0)), (6, .func (.func 61) #[] #[(pt ut4 0), (pt ut5 0), (pt utt 0)])] jkk) #[7] (rfAssign (Qqt)) (rfBody (Qqt)) rk .ready none)) :: (some u9e, .row 33 [.slice (Gp uty) utz uu0] 1 0) :: (uty, .row 3 uu1 (uu0 * (kInt .i64).size) 0) :: (some ut4, .row 3 [.i utu] 1 0) :: (some ut5, .row 25 [(pt ut6 0)] 1 0) :: (some ut6, .row 51 [.slice (Gp ut7) ut8 ut9, (pt utb 0), (pt utk 0)] 3 0) :: (ut7, .row 46 uta (ut9 * kT45.size) 0) :: (some utb, .row 66 [.slice (Gp utc) utd ute, .slice (Gp utg) uth uti] 2 0) :: (utc, .row 3 utf (ute * (kInt .i64).size) 0) :: (utg, .row 49 utj (uti * (kInt .i64).size) 0) :: (some utk, .row 66 [.slice (Gp utl) utm utn, .slice (Gp utp) utq utr] 2 0) :: (utl, .row 3 uto (utn * (kInt .i64).size) 0) :: (utp, .row 49 uts (utr * (kInt .i64).size) 0) :: (some utt, .row 9 [.string utw] 1 0) :: Lr)) (uu2 : Els (kInt .i64) S0 w0 uu1 utx) (uu3 : utx.length = utz) (uu4 : Els kT45 S0 w0 uta utv.l) (uu5 : utv.l.length = ut8) (uu6 : Els (kInt .i64) S0 w0 utf utv.now.place) (uu7 : utv.now.place.length = utd) (uu8 : Els (kInt .i64) S0 w0 utj utv.now.list) (uu9 : utv.now.list.length = uth) (uua : Els (kInt .i64) S0 w0 uto utv.next.place) (uub : utv.next.place.length = utm) (uuc : Els (kInt .i64) S0 w0 uts utv.next.list) (uud : utv.next.list.length = utq) :
  Goes Tryz.prog (rbase 60 lk) [.code (rfAssign (Qqt)), .beginRound, .code (rfBody (Qqt))] ⟨setp (lfr 13 [(2, (pt u9e 0)), (6, .func (.func 61) #[] #[(pt ut4 0), (pt ut5 0), (pt utt 0)])] jkk) #[7] #[.i a0], []⟩ w0 (DoneR (Post.z4x nz wz S0 w0 Lr lk rk jkk u9e ut4 ut5 ut6 ut7 ut8 ut9 uta utb utc utd ute utf utg uth uti utj utk utl utm utn uto utp utq utr uts utt utu utv utw r)) := by
 subst uu3
 subst uu5
 subst uu7
 subst uu9
 subst uub
 subst uud
 refine Gj 13 [(2, (pt u9e 0)), (6, .func (.func 61) #[] #[(pt ut4 0), (pt ut5 0), (pt utt 0)]), (7, .i a0)] fun junk => ?_
 delta M.slices_AppendSeq_int_int__r_2 at h
 refine Gn 3 [(5, .i a0)] [.beginRound, .code (Qqu)] ?_
 refine Goes.beginR 0 rfl p0 rfl ?_
 intro w2 z2 p2
 refine Gn 2 [] Jzb ?_
 refine Goes.ld 33 (.tmp 2) 8 33 ⟨u9e, 0, none⟩ (.slice (Gp uty) utx.length uu0) (p2.c 1 0) ?_
 refine Gn 1 [(9, .i a0)] Jzc ?_
 have f16 : Els (kInt .i64) S0 w2 ([.i a0] : List Value) [a0] := by exact (Els.cons (K := (kInt .i64)) (vs := [.i a0]) (x := a0) rfl Els.nil)
 refine Op_.made (.buildSlice 33 1 #[(0, (.tmp 9))]) 10 33 (fun b => .slice (Gp (some b)) 1 1) 3 ([.i a0] : List Value) p2 Goes.v (by kernel_rfl) ?_
 intro b15 w3 z3 p3
 have p3 : Hp nz wz S0 w3 (((some b15), .row 3 ([.i a0] : List Value) (1 * (kInt .i64).size) 0) :: (some lk, .obj (lpst 60 (lfr 13 [(2, (pt u9e 0)), (6, .func (.func 61) #[] #[(pt ut4 0), (pt ut5 0), (pt utt 0)])] jkk) #[7] (rfAssign (Qqt)) (rfBody (Qqt)) rk .busy none)) :: (some u9e, .row 33 [.slice (Gp uty) utx.length uu0] 1 0) :: (uty, .row 3 uu1 (uu0 * (kInt .i64).size) 0) :: (some ut4, .row 3 [.i utu] 1 0) :: (some ut5, .row 25 [(pt ut6 0)] 1 0) :: (some ut6, .row 51 [.slice (Gp ut7) utv.l.length ut9, (pt utb 0), (pt utk 0)] 3 0) :: (ut7, .row 46 uta (ut9 * kT45.size) 0) :: (some utb, .row 66 [.slice (Gp utc) utv.now.place.length ute, .slice (Gp utg) utv.now.list.length uti] 2 0) :: (utc, .row 3 utf (ute * (kInt .i64).size) 0) :: (utg, .row 49 utj (uti * (kInt .i64).size) 0) :: (some utk, .row 66 [.slice (Gp utl) utv.next.place.length utn, .slice (Gp utp) utv.next.list.length utr] 2 0) :: (utl, .row 3 uto (utn * (kInt .i64).size) 0) :: (utp, .row 49 uts (utr * (kInt .i64).size) 0) :: (some utt, .row 9 [.string utw] 1 0) :: Lr) := p3
 refine guard_some' h fun g21 h => ?_
 refine Op_.ap_n (K := (kInt .i64)) 33 (.tmp 8) (.tmp 10) 11 33 3 3 (.i 0) 8 utx.length uu0 1 utx [a0] (utx ++ [a0]) (Gp (some b15)) 1 rfl rfl rfl p3 rfl (uu2.ext (z2.trans z3)) Goes.v (by kernel_rfl) (by kernel_rfl) (by kernel_rfl) (by kernel_rfl) rfl (by decide) (f16.ext z3) (src_own p3 (q := 0) rfl) (by have := g21; omega) (by have := g21; omega) ?_
 intro w4 G22 c23 uue z4 p4 f25
 refine So 33 (.tmp 2) (.tmp 11) 0 2 u9e 0 (.slice (Gp G22) ((utx ++ [a0]).length) c23) [.slice (Gp G22) ((utx ++ [a0]).length) c23] p4 rfl Goes.s ?_
 intro w5 z5 p5
 have p5 : Hp nz wz S0 w5 (((some b15), .row 3 ([.i a0] : List Value) (1 * (kInt .i64).size) 0) :: (some lk, .obj (lpst 60 (lfr 13 [(2, (pt u9e 0)), (6, .func (.func 61) #[] #[(pt ut4 0), (pt ut5 0), (pt utt 0)])] jkk) #[7] (rfAssign (Qqt)) (rfBody (Qqt)) rk .busy none)) :: (some u9e, .row 33 [.slice (Gp G22) ((utx ++ [a0]).length) c23] 1 0) :: (G22, .row 3 uue (c23 * (kInt .i64).size) 0) :: (some ut4, .row 3 [.i utu] 1 0) :: (some ut5, .row 25 [(pt ut6 0)] 1 0) :: (some ut6, .row 51 [.slice (Gp ut7) utv.l.length ut9, (pt utb 0), (pt utk 0)] 3 0) :: (ut7, .row 46 uta (ut9 * kT45.size) 0) :: (some utb, .row 66 [.slice (Gp utc) utv.now.place.length ute, .slice (Gp utg) utv.now.list.length uti] 2 0) :: (utc, .row 3 utf (ute * (kInt .i64).size) 0) :: (utg, .row 49 utj (uti * (kInt .i64).size) 0) :: (some utk, .row 66 [.slice (Gp utl) utv.next.place.length utn, .slice (Gp utp) utv.next.list.length utr] 2 0) :: (utl, .row 3 uto (utn * (kInt .i64).size) 0) :: (utp, .row 49 uts (utr * (kInt .i64).size) 0) :: (some utt, .row 9 [.string utw] 1 0) :: Lr) := p5
 refine Gn 2 [] [] ?_
 have p5 := p5.dp 0
 obtain rfl := Option.some.inj h
 refine Goes.endR 0 p5 rfl ?_
 intro w6 z6 p6
 exact ⟨S0, G22, (utx ++ [a0]).length, c23, uue, rfl, ((((((Ext.refl S0 w0).trans z2).trans z3).trans z4).trans z5).trans z6), p6, (f25.ext (z5.trans z6)), rfl⟩

def Qqv := sub [1, 0, 0] B61
def Jzd := Zl Qqv J2g
def Jze := Zc Qqv Jzd
def Jzf := Zs [1, 0, 0, 1] B61 Jzd
def Jzg := Zb 1 Jzf
def Jzh := Zs [1, 0, 0, 0, 0, 1] B61 Jzg
def Jzi := Zs [1, 0, 0, 0, 0, 0, 1] B61 Jzh
def Jzj := Zs [1, 0, 0, 0, 0, 1, 1] B61 Jzg
def Qr0 := sub [1, 0, 0, 0, 0, 0, 0] B61
def Jzk := Zr Qr0 [0, 1, 2, 3, 4, 5, 6, 7] Jzi
def Jzl := Zr Qr0 [3, 4, 5, 6, 7] Jzi
def Jzm := Zr Qr0 [5, 6, 7] Jzi
def Jzn := Zs [1, 0, 0, 0, 0, 0, 1, 0] B61 Jzh
def Jzo := Zs [1, 0, 0, 0, 0, 1, 0] B61 Jzj
def Jzp := Zs [1, 0, 0, 0, 0, 1, 1, 0] B61 Jzg

def Post.z4y (lx0 : Nat) (rx0 : Nat) (uay : Nat → Value) (uaz : Nat) (uuf : Nat) (uug : Nat) (uuh : Nat) (uui : Nat) (uuj : Int) (uuk : ByteArray) (r : (List Int) × T50) (v : Value) (w' : World) : Prop :=
 ∃ S' u1u u1v u1w u1x u9y u9z ua0 ua1 uul uum uun uuo uup uuq uur uus uut uuu uuv uuw uux uuy uuz uv0 uv1 uv2, v = .tuple #[] ∧ Ext S0 w0 S' w' ∧ Hp nz wz S' w' ((some lx0, .obj (lpst 60 (lfr 13 [(2, (pt uaz 0)), (6, .func (.func 61) #[] #[(pt uuf 0), (pt uug 0), (pt uui 0)])] uay) #[7] (rfAssign (Qqt)) (rfBody (Qqt)) rx0 .ready none)) :: (some uaz, .row 33 [.slice (Gp u1u) u1v u1w] 1 0) :: (u1u, .row 3 u1x (u1w * (kInt .i64).size) 0) :: (some uuf, .row 3 [.i uuj] 1 0) :: (some uug, .row 25 [(pt uuh 0)] 1 0) :: (some uuh, .row 51 [.slice (Gp u9y) u9z ua0, (pt uul 0), (pt uuu 0)] 3 0) :: (u9y, .row 46 ua1 (ua0 * kT45.size) 0) :: (some uul, .row 66 [.slice (Gp uum) uun uuo, .slice (Gp uuq) uur uus] 2 0) :: (uum, .row 3 uup (uuo * (kInt .i64).size) 0) :: (uuq, .row 49 uut (uus * (kInt .i64).size) 0) :: (some uuu, .row 66 [.slice (Gp uuv) uuw uux, .slice (Gp uuz) uv0 uv1] 2 0) :: (uuv, .row 3 uuy (uux * (kInt .i64).size) 0) :: (uuz, .row 49 uv2 (uv1 * (kInt .i64).size) 0) :: (some uui, .row 9 [.string uuk] 1 0) :: Lr) ∧ Els (kInt .i64) S' w' u1x r.1 ∧ r.1.length = u1v ∧ Els kT45 S' w' ua1 r.2.l ∧ r.2.l.length = u9z ∧ Els (kInt .i64) S' w' uup r.2.now.place ∧ r.2.now.place.length = uun ∧ Els (kInt .i64) S' w' uut r.2.now.list ∧ r.2.now.list.length = uur ∧ Els (kInt .i64) S' w' uuy r.2.next.place ∧ r.2.next.place.length = uuw ∧ Els (kInt .i64) S' w' uv2 r.2.next.list ∧ r.2.next.list.length = uv0

def L.z4z (lx0 : Nat) (rx0 : Nat) (uay : Nat → Value) (uaz : Nat) (uuf : Nat) (uug : Nat) (uuh : Nat) (uui : Nat) : Int × (List Int) × T50 × Int × ByteArray → ((List Int) × T50) → Prop := fun ⟨x5, uv3, e4v, uuj, uuk⟩ r => ∀ S1 w1, Ext S0 w0 S1 w1 → ∀ u1u u1v u1w u1x u9y u9z ua0 ua1 uul uum uun uuo uup uuq uur uus uut uuu uuv uuw uux uuy uuz uv0 uv1 uv2 (_ : Hp nz wz S1 w1 ((some lx0, .obj (lpst 60 (lfr 13 [(2, (pt uaz 0)), (6, .func (.func 61) #[] #[(pt uuf 0), (pt uug 0), (pt uui 0)])] uay) #[7] (rfAssign (Qqt)) (rfBody (Qqt)) rx0 .ready none)) :: (some uaz, .row 33 [.slice (Gp u1u) u1v u1w] 1 0) :: (u1u, .row 3 u1x (u1w * (kInt .i64).size) 0) :: (some uuf, .row 3 [.i uuj] 1 0) :: (some uug, .row 25 [(pt uuh 0)] 1 0) :: (some uuh, .row 51 [.slice (Gp u9y) u9z ua0, (pt uul 0), (pt uuu 0)] 3 0) :: (u9y, .row 46 ua1 (ua0 * kT45.size) 0) :: (some uul, .row 66 [.slice (Gp uum) uun uuo, .slice (Gp uuq) uur uus] 2 0) :: (uum, .row 3 uup (uuo * (kInt .i64).size) 0) :: (uuq, .row 49 uut (uus * (kInt .i64).size) 0) :: (some uuu, .row 66 [.slice (Gp uuv) uuw uux, .slice (Gp uuz) uv0 uv1] 2 0) :: (uuv, .row 3 uuy (uux * (kInt .i64).size) 0) :: (uuz, .row 49 uv2 (uv1 * (kInt .i64).size) 0) :: (some uui, .row 9 [.string uuk] 1 0) :: Lr)) (_ : Els (kInt .i64) S1 w1 u1x uv3) (_ : uv3.length = u1v) (_ : Els kT45 S1 w1 ua1 e4v.l) (_ : e4v.l.length = u9z) (_ : Els (kInt .i64) S1 w1 uup e4v.now.place) (_ : e4v.now.place.length = uun) (_ : Els (kInt .i64) S1 w1 uut e4v.now.list) (_ : e4v.now.list.length = uur) (_ : Els (kInt .i64) S1 w1 uuy e4v.next.place) (_ : e4v.next.place.length = uuw) (_ : Els (kInt .i64) S1 w1 uv2 e4v.next.list) (_ : e4v.next.list.length = uv0) (junk : Nat → Value),
 Goes Tryz.prog (base 61) Jze ⟨lfr 29 [(0, yieldV lx0), (2, (pt uug 0)), (3, (pt uui 0)), (5, .i x5)] junk, []⟩ w1 (Done Tryz.prog 61 (Rets (Post.z4y nz wz S0 w0 Lr lx0 rx0 uay uaz uuf uug uuh uui uuj uuk r)))

def L.z50 (lx0 : Nat) (rx0 : Nat) (uay : Nat → Value) (uaz : Nat) (uuf : Nat) (uug : Nat) (uuh : Nat) (uui : Nat) : Int × Bool × (List Int) × T50 × Int × ByteArray → ((List Int) × T50) → Prop := fun ⟨x5, x16, uv3, e4v, uuj, uuk⟩ r => ∀ S1 w1, Ext S0 w0 S1 w1 → ∀ u1u u1v u1w u1x u9y u9z ua0 ua1 uul uum uun uuo uup uuq uur uus uut uuu uuv uuw uux uuy uuz uv0 uv1 uv2 (_ : Hp nz wz S1 w1 ((some lx0, .obj (lpst 60 (lfr 13 [(2, (pt uaz 0)), (6, .func (.func 61) #[] #[(pt uuf 0), (pt uug 0), (pt uui 0)])] uay) #[7] (rfAssign (Qqt)) (rfBody (Qqt)) rx0 .ready none)) :: (some uaz, .row 33 [.slice (Gp u1u) u1v u1w] 1 0) :: (u1u, .row 3 u1x (u1w * (kInt .i64).size) 0) :: (some uuf, .row 3 [.i uuj] 1 0) :: (some uug, .row 25 [(pt uuh 0)] 1 0) :: (some uuh, .row 51 [.slice (Gp u9y) u9z ua0, (pt uul 0), (pt uuu 0)] 3 0) :: (u9y, .row 46 ua1 (ua0 * kT45.size) 0) :: (some uul, .row 66 [.slice (Gp uum) uun uuo, .slice (Gp uuq) uur uus] 2 0) :: (uum, .row 3 uup (uuo * (kInt .i64).size) 0) :: (uuq, .row 49 uut (uus * (kInt .i64).size) 0) :: (some uuu, .row 66 [.slice (Gp uuv) uuw uux, .slice (Gp uuz) uv0 uv1] 2 0) :: (uuv, .row 3 uuy (uux * (kInt .i64).size) 0) :: (uuz, .row 49 uv2 (uv1 * (kInt .i64).size) 0) :: (some uui, .row 9 [.string uuk] 1 0) :: Lr)) (_ : Els (kInt .i64) S1 w1 u1x uv3) (_ : uv3.length = u1v) (_ : Els kT45 S1 w1 ua1 e4v.l) (_ : e4v.l.length = u9z) (_ : Els (kInt .i64) S1 w1 uup e4v.now.place) (_ : e4v.now.place.length = uun) (_ : Els (kInt .i64) S1 w1 uut e4v.now.list) (_ : e4v.now.list.length = uur) (_ : Els (kInt .i64) S1 w1 uuy e4v.next.place) (_ : e4v.next.place.length = uuw) (_ : Els (kInt .i64) S1 w1 uv2 e4v.next.list) (_ : e4v.next.list.length = uv0) (junk : Nat → Value),
 Goes Tryz.prog (base 61) Jzi ⟨lfr 29 [(0, yieldV lx0), (2, (pt uug 0)), (3, (pt uui 0)), (5, .i x5), (16, .bool x16)] junk, []⟩ w1 (Done Tryz.prog 61 (Rets (Post.z4y nz wz S0 w0 Lr lx0 rx0 uay uaz uuf uug uuh uui uuj uuk r)))

def L.z51 (lx0 : Nat) (rx0 : Nat) (uay : Nat → Value) (uaz : Nat) (uuf : Nat) (uug : Nat) (uuh : Nat) (uui : Nat) : Int × Bool × (List Int) × T50 × Int × ByteArray → ((List Int) × T50) → Prop := fun ⟨x5, x28, uv3, e4v, uuj, uuk⟩ r => ∀ S1 w1, Ext S0 w0 S1 w1 → ∀ u1u u1v u1w u1x u9y u9z ua0 ua1 uul uum uun uuo uup uuq uur uus uut uuu uuv uuw uux uuy uuz uv0 uv1 uv2 (_ : Hp nz wz S1 w1 ((some lx0, .obj (lpst 60 (lfr 13 [(2, (pt uaz 0)), (6, .func (.func 61) #[] #[(pt uuf 0), (pt uug 0), (pt uui 0)])] uay) #[7] (rfAssign (Qqt)) (rfBody (Qqt)) rx0 .ready none)) :: (some uaz, .row 33 [.slice (Gp u1u) u1v u1w] 1 0) :: (u1u, .row 3 u1x (u1w * (kInt .i64).size) 0) :: (some uuf, .row 3 [.i uuj] 1 0) :: (some uug, .row 25 [(pt uuh 0)] 1 0) :: (some uuh, .row 51 [.slice (Gp u9y) u9z ua0, (pt uul 0), (pt uuu 0)] 3 0) :: (u9y, .row 46 ua1 (ua0 * kT45.size) 0) :: (some uul, .row 66 [.slice (Gp uum) uun uuo, .slice (Gp uuq) uur uus] 2 0) :: (uum, .row 3 uup (uuo * (kInt .i64).size) 0) :: (uuq, .row 49 uut (uus * (kInt .i64).size) 0) :: (some uuu, .row 66 [.slice (Gp uuv) uuw uux, .slice (Gp uuz) uv0 uv1] 2 0) :: (uuv, .row 3 uuy (uux * (kInt .i64).size) 0) :: (uuz, .row 49 uv2 (uv1 * (kInt .i64).size) 0) :: (some uui, .row 9 [.string uuk] 1 0) :: Lr)) (_ : Els (kInt .i64) S1 w1 u1x uv3) (_ : uv3.length = u1v) (_ : Els kT45 S1 w1 ua1 e4v.l) (_ : e4v.l.length = u9z) (_ : Els (kInt .i64) S1 w1 uup e4v.now.place) (_ : e4v.now.place.length = uun) (_ : Els (kInt .i64) S1 w1 uut e4v.now.list) (_ : e4v.now.list.length = uur) (_ : Els (kInt .i64) S1 w1 uuy e4v.next.place) (_ : e4v.next.place.length = uuw) (_ : Els (kInt .i64) S1 w1 uv2 e4v.next.list) (_ : e4v.next.list.length = uv0) (junk : Nat → Value),
 Goes Tryz.prog (base 61) Jzj ⟨lfr 29 [(0, yieldV lx0), (2, (pt uug 0)), (3, (pt uui 0)), (5, .i x5), (28, .bool x28)] junk, []⟩ w1 (Done Tryz.prog 61 (Rets (Post.z4y nz wz S0 w0 Lr lx0 rx0 uay uaz uuf uug uuh uui uuj uuk r)))

theorem W.z52 {nz wz S0 w0 Lr} (lx0 : Nat) (rx0 : Nat) (uay : Nat → Value) (uaz : Nat) (uuf : Nat) (uug : Nat) (uuh : Nat) (uui : Nat) : (∀ a r, M.sim_Runner_ends_1_2_l0 a = some r → (L.z4z nz wz S0 w0 Lr lx0 rx0 uay uaz uuf uug uuh uui) a r) ∧ (∀ a r, M.sim_Runner_ends_1_2_l1 a = some r → (L.z50 nz wz S0 w0 Lr lx0 rx0 uay uaz uuf uug uuh uui) a r) ∧ (∀ a r, M.sim_Runner_ends_1_2_l2 a = some r → (L.z51 nz wz S0 w0 Lr lx0 rx0 uay uaz uuf uug uuh uui) a r) := by
 refine M.sim_Runner_ends_1_2_l0.mutual_partial_correctness (L.z4z nz wz S0 w0 Lr lx0 rx0 uay uaz uuf uug uuh uui) (L.z50 nz wz S0 w0 Lr lx0 rx0 uay uaz uuf uug uuh uui) (L.z51 nz wz S0 w0 Lr lx0 rx0 uay uaz uuf uug uuh uui) ?_ ?_ ?_
 ·
  intro uv4 uv5 ⟨x5, uv3, e4v, uuj, uuk⟩ r h S1 w1 hx u1u u1v u1w u1x u9y u9z ua0 ua1 uul uum uun uuo uup uuq uur uus uut uuu uuv uuw uux uuy uuz uv0 uv1 uv2 p1 u25 u26 ubl ubm uv6 uv7 uv8 uv9 uva uvb uvc uvd junk
  try dsimp only at h
  subst u26
  subst ubm
  subst uv7
  subst uv9
  subst uvb
  subst uvd
  refine Gn 5 [] Jzk ?_
  refine Goes.ld 25 (.tmp 2) 9 25 ⟨uug, 0, none⟩ ((pt uuh 0)) (p1.c 4 0) ?_
  have p1 := (((((((p1.fr 12).fr 12).fr 12).fr 12).fr 12).fr 12).fr 12).fr 12
  refine bind_some' h fun y23 e24 h => ?_
  refine Gc (kc 11 [9] #[25]) 10 4 11 _ (W.z1j e4v y23 e24 uuh u9y e4v.l.length ua0 ua1 uul uum e4v.now.place.length uuo uup uuq e4v.now.list.length uus uut uuu uuv e4v.next.place.length uux uuy uuz e4v.next.list.length uv1 uv2 p1 ubl rfl uv6 rfl uv8 rfl uva rfl uvc rfl) ?_
  rintro _ w2 ⟨S2, rfl, z2, p2⟩
  refine Gn 1 [(11, .bool y23)] Jzl ?_
  refine ite_some h (fun h25 h => ?_) (fun h25 h => ?_)
  ·
   rw [h25]
   refine Gn 2 [(12, yieldV lx0), (13, .i x5)] Jzm ?_
   have p2 := (((((((((((((p2.fr 13).fr 8).fr 8).fr 8).fr 8).fr 8).fr 8).fr 8).fr 8).fr 13).fr 13).fr 13).fr 13).fr 13
   refine bind_some' h fun y26 e27 h => ?_
   refine Goes.yieldAt (.call { callee := .value (.tmp 12), args := #[(.tmp 13)], argTypes := #[3] }) 14 4 0 lx0 #[.i x5] p2 rfl (by kernel_rfl) rfl (fun _ => by kernel_rfl) rfl (W.z4x uv3 uuj e4v uuk x5 y26 e27 lx0 rx0 uay uaz u1u uv3.length u1w u1x uuf uug uuh u9y e4v.l.length ua0 ua1 uul uum e4v.now.place.length uuo uup uuq e4v.now.list.length uus uut uuu uuv e4v.next.place.length uux uuy uuz e4v.next.list.length uv1 uv2 uui p2 (u25.ext z2) rfl (ubl.ext z2) rfl (uv6.ext z2) rfl (uv8.ext z2) rfl (uva.ext z2) rfl (uvc.ext z2) rfl) ?_
   rintro _ w3 ⟨S3, uve, uvf, uvg, uvh, rfl, z3, p3, uvi, rfl⟩
   refine Gn 3 [(15, .bool (!true)), (16, .bool (!true))] Jzi ?_
   exact Gj 29 [(0, yieldV lx0), (2, (pt uug 0)), (3, (pt uui 0)), (5, .i x5), (16, .bool (!true))] (uv5 _ _ h _ _ ((hx.trans z2).trans z3) uve y26.length uvg uvh u9y e4v.l.length ua0 ua1 uul uum e4v.now.place.length uuo uup uuq e4v.now.list.length uus uut uuu uuv e4v.next.place.length uux uuy uuz e4v.next.list.length uv1 uv2 p3 uvi rfl (ubl.ext (z2.trans z3)) rfl (uv6.ext (z2.trans z3)) rfl (uv8.ext (z2.trans z3)) rfl (uva.ext (z2.trans z3)) rfl (uvc.ext (z2.trans z3)) rfl)
  ·
   have uk5 : y23 = false := by simpa using h25
   rw [uk5]
   refine Gn 6 [(12, undef), (13, undef), (14, undef), (15, undef), (16, .bool false)] Jzi ?_
   have p2 := (((((((((((((p2.fr 13).fr 8).fr 8).fr 8).fr 8).fr 8).fr 8).fr 8).fr 8).fr 13).fr 13).fr 13).fr 13).fr 13
   exact Gj 29 [(0, yieldV lx0), (2, (pt uug 0)), (3, (pt uui 0)), (5, .i x5), (16, .bool false)] (uv5 _ _ h _ _ (hx.trans z2) u1u uv3.length u1w u1x u9y e4v.l.length ua0 ua1 uul uum e4v.now.place.length uuo uup uuq e4v.now.list.length uus uut uuu uuv e4v.next.place.length uux uuy uuz e4v.next.list.length uv1 uv2 p2 (u25.ext z2) rfl (ubl.ext z2) rfl (uv6.ext z2) rfl (uv8.ext z2) rfl (uva.ext z2) rfl (uvc.ext z2) rfl)
 ·
  intro uvj uvk ⟨x5, x16, uv3, e4v, uuj, uuk⟩ r h S1 w1 hx u1u u1v u1w u1x u9y u9z ua0 ua1 uul uum uun uuo uup uuq uur uus uut uuu uuv uuw uux uuy uuz uv0 uv1 uv2 p1 u25 u26 ubl ubm uv6 uv7 uv8 uv9 uva uvb uvc uvd junk
  try dsimp only at h
  subst u26
  subst ubm
  subst uv7
  subst uv9
  subst uvb
  subst uvd
  refine ite_some h (fun h37 h => ?_) (fun h37 h => ?_)
  ·
   rw [h37]
   refine Gn 1 [] Jzn ?_
   obtain rfl := Option.some.inj h
   exact Goes.rt Tryz.f61 (.tuple #[]) ⟨S1, u1u, uv3.length, u1w, u1x, u9y, e4v.l.length, ua0, ua1, uul, uum, e4v.now.place.length, uuo, uup, uuq, e4v.now.list.length, uus, uut, uuu, uuv, e4v.next.place.length, uux, uuy, uuz, e4v.next.list.length, uv1, uv2, rfl, hx, p1, u25, rfl, ubl, rfl, uv6, rfl, uv8, rfl, uva, rfl, uvc, rfl⟩
  ·
   have uvl : x16 = false := by simpa using h37
   rw [uvl]
   refine Gn 3 [] Jzo ?_
   have z4 : Ext S1 w1 S1 (w1).drew := Ext.draw
   have p4 := p1.draw
   refine Goes.drawn (s := [9]) (F := Fc S1 (w1).drew [(⟨uui, 0, none⟩, .string uuk), (⟨uug, 0, none⟩, (pt uuh 0))]) 3 12 (by kernel_rfl) (by kernel_rfl) (by kernel_rfl) (by kernel_rfl) ?_
   generalize (w1).drew = w4 at z4 p4 ⊢
   refine AnyG.pu 0 (.move (.tmp 5)) 17 3 (.i x5) (Fc.here (p4.cs [(13, 0, 1), (4, 0, 1)])) ?_
   refine AnyG.ld1 (i := 1) 9 (.tmp 3) 18 9 ⟨uui, 0, none⟩ (.string uuk) (by kernel_rfl) (by kernel_rfl) (Fc.here (p4.cs [(13, 0, 1), (4, 0, 1)])) (by kernel_rfl) (by kernel_rfl) (fun _ h => h.2.at_ 0 rfl) ?_
   refine AnyG.pu 2 (.call { callee := .builtin .len, args := #[(.tmp 18)], argTypes := #[9] }) 19 3 (.i (uuk.size : Int)) (Fc.here (p4.cs [(13, 0, 1), (4, 0, 1)])) ?_
   refine AnyG.pu 3 (.binOp .eql 3 (.tmp 17) (.tmp 19) 3) 20 4 (.bool (decide (x5 = (uuk.size : Int)))) (Fc.here (p4.cs [(13, 0, 1), (4, 0, 1)])) ?_
   refine AnyG.pu 4 (.move (.tmp 20)) 21 4 (.bool (decide (x5 = (uuk.size : Int)))) (Fc.here (p4.cs [(13, 0, 1), (4, 0, 1)])) ?_
   refine ite_some h (fun h38 h => ?_) (fun h38 h => ?_)
   ·
    rw [decide_eq_true h38]
    refine AnyG.s1 5 22 (Fc.here (p4.cs [(13, 0, 1), (4, 0, 1)])) ?_
    refine AnyG.s1 6 23 (Fc.here (p4.cs [(13, 0, 1), (4, 0, 1)])) ?_
    refine AnyG.s1 7 24 (Fc.here (p4.cs [(13, 0, 1), (4, 0, 1)])) ?_
    refine AnyG.s1 8 25 (Fc.here (p4.cs [(13, 0, 1), (4, 0, 1)])) ?_
    refine AnyG.skipL1 (i := 9) 26 (by kernel_rfl) (by kernel_rfl) (.inl (by decide)) ?_
    refine AnyG.s1 10 27 (Fc.here (p4.cs [(13, 0, 1), (4, 0, 1)])) ?_
    refine AnyG.pu 11 (.pick (.tmp 21) (.const (.bool true)) (.tmp 27)) 28 4 (.bool true) (Fc.here (p4.cs [(13, 0, 1), (4, 0, 1)])) ?_
    refine AnyG.done (by kernel_rfl) ?_ _
    exact Gj 29 [(0, yieldV lx0), (2, (pt uug 0)), (3, (pt uui 0)), (5, .i x5), (28, .bool true)] (uvk _ _ h _ _ (hx.trans z4) u1u uv3.length u1w u1x u9y e4v.l.length ua0 ua1 uul uum e4v.now.place.length uuo uup uuq e4v.now.list.length uus uut uuu uuv e4v.next.place.length uux uuy uuz e4v.next.list.length uv1 uv2 p4 (u25.ext z4) rfl (ubl.ext z4) rfl (uv6.ext z4) rfl (uv8.ext z4) rfl (uva.ext z4) rfl (uvc.ext z4) rfl)
   ·
    rw [decide_eq_false h38]
    refine AnyG.ld1 (i := 5) 25 (.tmp 2) 22 25 ⟨uug, 0, none⟩ ((pt uuh 0)) (by kernel_rfl) (by kernel_rfl) (Fc.here (p4.cs [(13, 0, 1), (4, 0, 1)])) (by kernel_rfl) (by kernel_rfl) (fun _ h => h.2.at_ 1 rfl) ?_
    refine AnyG.ld1 (i := 6) 9 (.tmp 3) 23 9 ⟨uui, 0, none⟩ (.string uuk) (by kernel_rfl) (by kernel_rfl) (Fc.here (p4.cs [(13, 0, 1), (4, 0, 1)])) (by kernel_rfl) (by kernel_rfl) (fun _ h => h.2.at_ 0 rfl) ?_
    refine AnyG.pu 7 (.move (.tmp 5)) 24 3 (.i x5) (Fc.here (p4.cs [(13, 0, 1), (4, 0, 1)])) ?_
    refine guard_some' h fun g47 h => ?_
    refine guard_some' h fun g48 h => ?_
    refine AnyG.ixS (i := 8) 9 (.tmp 23) (.tmp 24) 25 5 .i64 uuk x5 (by kernel_rfl) (by kernel_rfl) (Fc.here (p4.cs [(13, 0, 1), (4, 0, 1)])) (by kernel_rfl) (by kernel_rfl) (by kernel_rfl) g47 g48 ?_
    have p4 := (((((((p4.fr 12).fr 12).fr 12).fr 12).fr 12).fr 12).fr 12).fr 12
    refine bind_some' h fun y49 e50 h => ?_
    refine Op_.call (kc 14 [22, 25] #[25, 5]) 26 4 14 #[(pt uuh 0), .int .u8 (bt uuk x5)] (AnyG.cs (i := 9) (by kernel_rfl) (by kernel_rfl)) (by kernel_rfl) (W.z1t e4v (bt uuk x5) y49 e50 uuh u9y e4v.l.length ua0 ua1 uul uum e4v.now.place.length uuo uup uuq e4v.now.list.length uus uut uuu uuv e4v.next.place.length uux uuy uuz e4v.next.list.length uv1 uv2 p4 (ubl.ext z4) rfl (uv6.ext z4) rfl (uv8.ext z4) rfl (uva.ext z4) rfl (uvc.ext z4) rfl) ?_
    rintro _ w5 ⟨S5, upg, uph, upi, upj, uvm, uvn, uvo, uvp, uvq, uvr, uvs, uvt, rfl, z5, p5, upk, rfl, uvu, rfl, uvv, rfl⟩
    refine AnyG.last [] (Fc S5 w5 []) (by decide) ?_
    refine AnyG.pu 10 (.unOp .not 4 (.tmp 26)) 27 4 (.bool (!y49.1)) (Fc.here trivial) ?_
    refine AnyG.pu 11 (.pick (.tmp 21) (.const (.bool true)) (.tmp 27)) 28 4 (.bool (!y49.1)) (Fc.here trivial) ?_
    refine AnyG.done (by kernel_rfl) ?_ _
    have p5 := (((((((((((((p5.fr 13).fr 5).fr 5).fr 5).fr 8).fr 8).fr 8).fr 8).fr 8).fr 13).fr 13).fr 13).fr 13).fr 13
    exact Gj 29 [(0, yieldV lx0), (2, (pt uug 0)), (3, (pt uui 0)), (5, .i x5), (28, .bool (!y49.1))] (uvk _ _ h _ _ ((hx.trans z4).trans z5) u1u uv3.length u1w u1x upg y49.2.1.length upi upj uuu uvm y49.2.2.place.length uvo uvp uvq y49.2.2.list.length uvs uvt uul uum e4v.now.place.length uuo uup uuq e4v.now.list.length uus uut p5 (u25.ext (z4.trans z5)) rfl upk rfl uvu rfl uvv rfl (uv6.ext (z4.trans z5)) rfl (uv8.ext (z4.trans z5)) rfl)
 ·
  intro uvw uvx ⟨x5, x28, uv3, e4v, uuj, uuk⟩ r h S1 w1 hx u1u u1v u1w u1x u9y u9z ua0 ua1 uul uum uun uuo uup uuq uur uus uut uuu uuv uuw uux uuy uuz uv0 uv1 uv2 p1 u25 u26 ubl ubm uv6 uv7 uv8 uv9 uva uvb uvc uvd junk
  try dsimp only at h
  subst u26
  subst ubm
  subst uv7
  subst uv9
  subst uvb
  subst uvd
  refine ite_some h (fun h54 h => ?_) (fun h54 h => ?_)
  ·
   rw [h54]
   refine Gn 1 [] Jzp ?_
   obtain rfl := Option.some.inj h
   exact Goes.rt Tryz.f61 (.tuple #[]) ⟨S1, u1u, uv3.length, u1w, u1x, u9y, e4v.l.length, ua0, ua1, uul, uum, e4v.now.place.length, uuo, uup, uuq, e4v.now.list.length, uus, uut, uuu, uuv, e4v.next.place.length, uux, uuy, uuz, e4v.next.list.length, uv1, uv2, rfl, hx, p1, u25, rfl, ubl, rfl, uv6, rfl, uv8, rfl, uva, rfl, uvc, rfl⟩
  ·
   have uvy : x28 = false := by simpa using h54
   rw [uvy]
   refine Gn 9 [(7, .i x5), (8, .i (wr .i64 (x5 + 1))), (5, .i (wr .i64 (x5 + 1)))] Jze ?_
   exact Gj 29 [(0, yieldV lx0), (2, (pt uug 0)), (3, (pt uui 0)), (5, .i (wr .i64 (x5 + 1)))] (uvx _ _ h _ _ hx u1u uv3.length u1w u1x u9y e4v.l.length ua0 ua1 uul uum e4v.now.place.length uuo uup uuq e4v.now.list.length uus uut uuu uuv e4v.next.place.length uux uuy uuz e4v.next.list.length uv1 uv2 p1 u25 rfl ubl rfl uv6 rfl uv8 rfl uva rfl uvc rfl)

theorem W.z4z {nz wz S0 w0 Lr} (lx0 : Nat) (rx0 : Nat) (uay : Nat → Value) (uaz : Nat) (uuf : Nat) (uug : Nat) (uuh : Nat) (uui : Nat) : ∀ a r, M.sim_Runner_ends_1_2_l0 a = some r → (L.z4z nz wz S0 w0 Lr lx0 rx0 uay uaz uuf uug uuh uui) a r := (W.z52 lx0 rx0 uay uaz uuf uug uuh uui).1

theorem W.z50 {nz wz S0 w0 Lr} (lx0 : Nat) (rx0 : Nat) (uay : Nat → Value) (uaz : Nat) (uuf : Nat) (uug : Nat) (uuh : Nat) (uui : Nat) : ∀ a r, M.sim_Runner_ends_1_2_l1 a = some r → (L.z50 nz wz S0 w0 Lr lx0 rx0 uay uaz uuf uug uuh uui) a r := (W.z52 lx0 rx0 uay uaz uuf uug uuh uui).2.1

theorem W.z51 {nz wz S0 w0 Lr} (lx0 : Nat) (rx0 : Nat) (uay : Nat → Value) (uaz : Nat) (uuf : Nat) (uug : Nat) (uuh : Nat) (uui : Nat) : ∀ a r, M.sim_Runner_ends_1_2_l2 a = some r → (L.z51 nz wz S0 w0 Lr lx0 rx0 uay uaz uuf uug uuh uui) a r := (W.z52 lx0 rx0 uay uaz uuf uug uuh uui).2.2

def Jzq := Zs [1] B61 []
def Jzr := Zt [0] B61 [0, 1] Jzq

theorem W.z4y (uvz : List Int) (uuj : Int) (uw0 : T50) (uuk : ByteArray) (r : (List Int) × T50) (h : M.sim_Runner_ends_1_2 uvz uuj uw0 uuk = some r) {nz wz S0 w0 Lr} (lx0 rx0 uay uaz uw1 uw2 uw3 uw4 uuf uug uuh uw5 uw6 uw7 uw8 uw9 uwa uwb uwc uwd uwe uwf uwg uwh uwi uwj uwk uwl uwm uwn uwo uwp uwq uui) (p0 : Hp nz wz S0 w0 ((some lx0, .obj (lpst 60 (lfr 13 [(2, (pt uaz 0)), (6, .func (.func 61) #[] #[(pt uuf 0), (pt uug 0), (pt uui 0)])] uay) #[7] (rfAssign (Qqt)) (rfBody (Qqt)) rx0 .ready none)) :: (some uaz, .row 33 [.slice (Gp uw1) uw2 uw3] 1 0) :: (uw1, .row 3 uw4 (uw3 * (kInt .i64).size) 0) :: (some uuf, .row 3 [.i uuj] 1 0) :: (some uug, .row 25 [(pt uuh 0)] 1 0) :: (some uuh, .row 51 [.slice (Gp uw5) uw6 uw7, (pt uw9 0), (pt uwi 0)] 3 0) :: (uw5, .row 46 uw8 (uw7 * kT45.size) 0) :: (some uw9, .row 66 [.slice (Gp uwa) uwb uwc, .slice (Gp uwe) uwf uwg] 2 0) :: (uwa, .row 3 uwd (uwc * (kInt .i64).size) 0) :: (uwe, .row 49 uwh (uwg * (kInt .i64).size) 0) :: (some uwi, .row 66 [.slice (Gp uwj) uwk uwl, .slice (Gp uwn) uwo uwp] 2 0) :: (uwj, .row 3 uwm (uwl * (kInt .i64).size) 0) :: (uwn, .row 49 uwq (uwp * (kInt .i64).size) 0) :: (some uui, .row 9 [.string uuk] 1 0) :: Lr)) (uwr : Els (kInt .i64) S0 w0 uw4 uvz) (uws : uvz.length = uw2) (uwt : Els kT45 S0 w0 uw8 uw0.l) (uwu : uw0.l.length = uw6) (uwv : Els (kInt .i64) S0 w0 uwd uw0.now.place) (uww : uw0.now.place.length = uwb) (uwx : Els (kInt .i64) S0 w0 uwh uw0.now.list) (uwy : uw0.now.list.length = uwf) (uwz : Els (kInt .i64) S0 w0 uwm uw0.next.place) (ux0 : uw0.next.place.length = uwk) (ux1 : Els (kInt .i64) S0 w0 uwq uw0.next.list) (ux2 : uw0.next.list.length = uwo) :
  Calls Tryz.prog 61 #[yieldV lx0, (pt uuf 0), (pt uug 0), (pt uui 0)] w0 (Rets (Post.z4y nz wz S0 w0 Lr lx0 rx0 uay uaz uuf uug uuh uui uuj uuk r)) := by
 subst uws
 subst uwu
 subst uww
 subst uwy
 subst ux0
 subst ux2
 refine Zf Tryz.f61 B61 25 ?_
 refine Gj 29 [(0, yieldV lx0), (1, (pt uuf 0)), (2, (pt uug 0)), (3, (pt uui 0))] fun junk => ?_
 delta M.sim_Runner_ends_1_2 at h
 refine Gn 2 [] Jzr ?_
 refine Goes.ld 3 (.tmp 1) 6 3 ⟨uuf, 0, none⟩ (.i uuj) (p0.c 3 0) ?_
 refine Gn 4 [(5, .i uuj)] Jze ?_
 exact Gj 29 [(0, yieldV lx0), (2, (pt uug 0)), (3, (pt uui 0)), (5, .i uuj)] (W.z4z lx0 rx0 uay uaz uuf uug uuh uui _ _ h _ _ (Ext.refl S0 w0) uw1 uvz.length uw3 uw4 uw5 uw0.l.length uw7 uw8 uw9 uwa uw0.now.place.length uwc uwd uwe uw0.now.list.length uwg uwh uwi uwj uw0.next.place.length uwl uwm uwn uw0.next.list.length uwp uwq p0 uwr rfl uwt rfl uwv rfl uwx rfl uwz rfl ux1 rfl)

def Jzs := Zs [1] B60 []
def Jzt := Zt [0] B60 [0, 1] Jzs
def Jzu := Zs [1, 1] B60 []
def Jzv := Zb 0 Jzu
def Jzw := Zc Qqt Jzv
def Jzx := Zs [1, 1, 1] B60 []
def Jzy := Zt [1, 1, 0] B60 [0, 1] Jzx

def Post.z53 (u80 : Nat) (ux3 : Nat) (ux4 : Nat) (ux5 : Nat) (ux6 : Int) (ux7 : ByteArray) (r : (List Int) × T50) (v : Value) (w' : World) : Prop :=
 ∃ S' Gq nq cq csq u90 u91 u92 u93 ux8 ux9 uxa uxb uxc uxd uxe uxf uxg uxh uxi uxj uxk uxl uxm uxn uxo uxp, v = .slice (Gp Gq) nq cq ∧ Ext S0 w0 S' w' ∧ Hp nz wz S' w' ((Gq, .row 3 csq (cq * (kInt .i64).size) 0) :: (some u80, .row 3 [.i ux6] 1 0) :: (some ux3, .row 25 [(pt ux4 0)] 1 0) :: (some ux4, .row 51 [.slice (Gp u90) u91 u92, (pt ux8 0), (pt uxh 0)] 3 0) :: (u90, .row 46 u93 (u92 * kT45.size) 0) :: (some ux8, .row 66 [.slice (Gp ux9) uxa uxb, .slice (Gp uxd) uxe uxf] 2 0) :: (ux9, .row 3 uxc (uxb * (kInt .i64).size) 0) :: (uxd, .row 49 uxg (uxf * (kInt .i64).size) 0) :: (some uxh, .row 66 [.slice (Gp uxi) uxj uxk, .slice (Gp uxm) uxn uxo] 2 0) :: (uxi, .row 3 uxl (uxk * (kInt .i64).size) 0) :: (uxm, .row 49 uxp (uxo * (kInt .i64).size) 0) :: (some ux5, .row 9 [.string ux7] 1 0) :: Lr) ∧ Els (kInt .i64) S' w' csq r.1 ∧ r.1.length = nq ∧ Els kT45 S' w' u93 r.2.l ∧ r.2.l.length = u91 ∧ Els (kInt .i64) S' w' uxc r.2.now.place ∧ r.2.now.place.length = uxa ∧ Els (kInt .i64) S' w' uxg r.2.now.list ∧ r.2.now.list.length = uxe ∧ Els (kInt .i64) S' w' uxl r.2.next.place ∧ r.2.next.place.length = uxj ∧ Els (kInt .i64) S' w' uxp r.2.next.list ∧ r.2.next.list.length = uxn

theorem W.z53 (ux6 : Int) (uxq : T50) (ux7 : ByteArray) (r : (List Int) × T50) (h : M.slices_AppendSeq_int_int_2 ux6 uxq ux7 = some r) {nz wz S0 w0 Lr} (u80 ux3 ux4 uxr uxs uxt uxu uxv uxw uxx uxy uxz uy0 uy1 uy2 uy3 uy4 uy5 uy6 uy7 uy8 uy9 uya uyb uyc ux5) (p0 : Hp nz wz S0 w0 ((some u80, .row 3 [.i ux6] 1 0) :: (some ux3, .row 25 [(pt ux4 0)] 1 0) :: (some ux4, .row 51 [.slice (Gp uxr) uxs uxt, (pt uxv 0), (pt uy4 0)] 3 0) :: (uxr, .row 46 uxu (uxt * kT45.size) 0) :: (some uxv, .row 66 [.slice (Gp uxw) uxx uxy, .slice (Gp uy0) uy1 uy2] 2 0) :: (uxw, .row 3 uxz (uxy * (kInt .i64).size) 0) :: (uy0, .row 49 uy3 (uy2 * (kInt .i64).size) 0) :: (some uy4, .row 66 [.slice (Gp uy5) uy6 uy7, .slice (Gp uy9) uya uyb] 2 0) :: (uy5, .row 3 uy8 (uy7 * (kInt .i64).size) 0) :: (uy9, .row 49 uyc (uyb * (kInt .i64).size) 0) :: (some ux5, .row 9 [.string ux7] 1 0) :: Lr)) (uyd : Els kT45 S0 w0 uxu uxq.l) (uye : uxq.l.length = uxs) (uyf : Els (kInt .i64) S0 w0 uxz uxq.now.place) (uyg : uxq.now.place.length = uxx) (uyh : Els (kInt .i64) S0 w0 uy3 uxq.now.list) (uyi : uxq.now.list.length = uy1) (uyj : Els (kInt .i64) S0 w0 uy8 uxq.next.place) (uyk : uxq.next.place.length = uy6) (uyl : Els (kInt .i64) S0 w0 uyc uxq.next.list) (uym : uxq.next.list.length = uya) :
  Calls Tryz.prog 60 #[.slice none 0 0, .func (.func 61) #[] #[(pt u80 0), (pt ux3 0), (pt ux5 0)]] w0 (Rets (Post.z53 nz wz S0 w0 Lr u80 ux3 ux4 ux5 ux6 ux7 r)) := by
 subst uye
 subst uyg
 subst uyi
 subst uyk
 subst uym
 refine Zf Tryz.f60 B60 11 ?_
 refine Gj 13 [(0, .slice none 0 0), (1, .func (.func 61) #[] #[(pt u80 0), (pt ux3 0), (pt ux5 0)])] fun junk => ?_
 delta M.slices_AppendSeq_int_int_2 at h
 refine Gn 2 [] Jzt ?_
 refine Op_.box 33 (.tmp 0) 2 0 (.slice none 0 0) [.slice none 0 0] p0 Goes.v (by kernel_rfl) (by kernel_rfl) ?_
 intro b12 w2 z2 p2
 refine Gn 8 [(4, .slice none 0 0), (6, .func (.func 61) #[] #[(pt u80 0), (pt ux3 0), (pt ux5 0)])] Jzw ?_
 refine Gj 13 [(2, (pt b12 0)), (6, .func (.func 61) #[] #[(pt u80 0), (pt ux3 0), (pt ux5 0)])] (fun uyn => ?_)
 refine Goes.rangeF (f := 60) (.tmp 6) #[7] 61 #[] #[(pt u80 0), (pt ux3 0), (pt ux5 0)] (by kernel_rfl) (by kernel_rfl) (fun _ => by kernel_rfl) p2 ?_
 intro r15 l16 w3 z3 p3
 have p3 : Hp nz wz S0 w3 ((none, .row 3 [] (0 * (kInt .i64).size) 0) :: (some l16, .obj (lpst 60 (lfr 13 [(2, (pt b12 0)), (6, .func (.func 61) #[] #[(pt u80 0), (pt ux3 0), (pt ux5 0)])] uyn) #[7] (rfAssign (Qqt)) (rfBody (Qqt)) r15 .ready none)) :: (some r15, .obj (.deferred (some []))) :: (some b12, .row 33 [.slice none 0 0] 1 0) :: (some u80, .row 3 [.i ux6] 1 0) :: (some ux3, .row 25 [(pt ux4 0)] 1 0) :: (some ux4, .row 51 [.slice (Gp uxr) uxq.l.length uxt, (pt uxv 0), (pt uy4 0)] 3 0) :: (uxr, .row 46 uxu (uxt * kT45.size) 0) :: (some uxv, .row 66 [.slice (Gp uxw) uxq.now.place.length uxy, .slice (Gp uy0) uxq.now.list.length uy2] 2 0) :: (uxw, .row 3 uxz (uxy * (kInt .i64).size) 0) :: (uy0, .row 49 uy3 (uy2 * (kInt .i64).size) 0) :: (some uy4, .row 66 [.slice (Gp uy5) uxq.next.place.length uy7, .slice (Gp uy9) uxq.next.list.length uyb] 2 0) :: (uy5, .row 3 uy8 (uy7 * (kInt .i64).size) 0) :: (uy9, .row 49 uyc (uyb * (kInt .i64).size) 0) :: (some ux5, .row 9 [.string ux7] 1 0) :: Lr) := p3.nilRow' 3
 have p3 := (((((((((((((p3.fr 14).fr 14).fr 14).fr 14).fr 14).fr 14).fr 14).fr 14).fr 14).fr 14).fr 14).fr 11).fr 14).fr 13
 refine bind_some' h fun y20 e21 h => ?_
 refine ⟨_, W.z4y ([] : List Int) ux6 uxq ux7 y20 e21 l16 r15 uyn b12 none 0 0 [] u80 ux3 ux4 uxr uxq.l.length uxt uxu uxv uxw uxq.now.place.length uxy uxz uy0 uxq.now.list.length uy2 uy3 uy4 uy5 uxq.next.place.length uy7 uy8 uy9 uxq.next.list.length uyb uyc ux5 p3 (Els.nil (K := (kInt .i64))) rfl (uyd.ext (z2.trans z3)) rfl (uyf.ext (z2.trans z3)) rfl (uyh.ext (z2.trans z3)) rfl (uyj.ext (z2.trans z3)) rfl (uyl.ext (z2.trans z3)) rfl, ?_⟩
 rintro _ w4 ⟨S4, u2q, u2r, u2s, u2t, uyo, uyp, uyq, uyr, uys, uyt, uyu, uyv, uyw, uyx, uyy, uyz, uz0, uz1, uz2, uz3, uz4, uz5, uz6, uz7, uz8, uz9, rfl, z4, p4, u2y, rfl, uza, rfl, uzb, rfl, uzc, rfl, uzd, rfl, uze, rfl⟩
 refine Goes.endF 0 p4 rfl rfl ?_
 intro w5 z5 p5
 replace p5 : Hp nz wz S4 w5 ((some b12, .row 33 [.slice (Gp u2q) y20.1.length u2s] 1 0) :: (u2q, .row 3 u2t (u2s * (kInt .i64).size) 0) :: (some u80, .row 3 [.i ux6] 1 0) :: (some ux3, .row 25 [(pt ux4 0)] 1 0) :: (some ux4, .row 51 [.slice (Gp uyo) y20.2.l.length uyq, (pt uys 0), (pt uz1 0)] 3 0) :: (uyo, .row 46 uyr (uyq * kT45.size) 0) :: (some uys, .row 66 [.slice (Gp uyt) y20.2.now.place.length uyv, .slice (Gp uyx) y20.2.now.list.length uyz] 2 0) :: (uyt, .row 3 uyw (uyv * (kInt .i64).size) 0) :: (uyx, .row 49 uz0 (uyz * (kInt .i64).size) 0) :: (some uz1, .row 66 [.slice (Gp uz2) y20.2.next.place.length uz4, .slice (Gp uz6) y20.2.next.list.length uz8] 2 0) :: (uz2, .row 3 uz5 (uz4 * (kInt .i64).size) 0) :: (uz6, .row 49 uz9 (uz8 * (kInt .i64).size) 0) :: (some ux5, .row 9 [.string ux7] 1 0) :: (some r15, .obj (.deferred (some []))) :: Lr) := (p5.front 0 _ rfl).drop
 show Goes _ _ Jzv _ _ _
 refine Gn 3 [] Jzy ?_
 refine Goes.ld 33 (.tmp 2) 12 33 ⟨b12, 0, none⟩ (.slice (Gp u2q) y20.1.length u2s) (p5.c 0 0) ?_
 refine Gn 2 [(4, .slice (Gp u2q) y20.1.length u2s)] Jzx ?_
 obtain rfl := Option.some.inj h
 have p5 := p5.dp 0
 have p5 := ((((((((((((p5.fr 11).fr 11).fr 11).fr 11).fr 11).fr 11).fr 11).fr 11).fr 11).fr 11).fr 11).fr 11).fr 12
 refine Goes.retL ?_
 refine lvs_mark 0 rfl rfl p5 rfl ?_
 intro w6 z6 p6
 replace p6 : Hp nz wz S4 w6 ((u2q, .row 3 u2t (u2s * (kInt .i64).size) 0) :: (some u80, .row 3 [.i ux6] 1 0) :: (some ux3, .row 25 [(pt ux4 0)] 1 0) :: (some ux4, .row 51 [.slice (Gp uyo) y20.2.l.length uyq, (pt uys 0), (pt uz1 0)] 3 0) :: (uyo, .row 46 uyr (uyq * kT45.size) 0) :: (some uys, .row 66 [.slice (Gp uyt) y20.2.now.place.length uyv, .slice (Gp uyx) y20.2.now.list.length uyz] 2 0) :: (uyt, .row 3 uyw (uyv * (kInt .i64).size) 0) :: (uyx, .row 49 uz0 (uyz * (kInt .i64).size) 0) :: (some uz1, .row 66 [.slice (Gp uz2) y20.2.next.place.length uz4, .slice (Gp uz6) y20.2.next.list.length uz8] 2 0) :: (uz2, .row 3 uz5 (uz4 * (kInt .i64).size) 0) :: (uz6, .row 49 uz9 (uz8 * (kInt .i64).size) 0) :: (some ux5, .row 9 [.string ux7] 1 0) :: Lr) := p6.drop
 exact lvs_done (fn := Tryz.f60) rfl rfl rfl rfl (by kernel_rfl) (v := .slice (Gp u2q) y20.1.length u2s) (by kernel_rfl) ⟨S4, u2q, y20.1.length, u2s, u2t, uyo, y20.2.l.length, uyq, uyr, uys, uyt, y20.2.now.place.length, uyv, uyw, uyx, y20.2.now.list.length, uyz, uz0, uz1, uz2, y20.2.next.place.length, uz4, uz5, uz6, y20.2.next.list.length, uz8, uz9, rfl, ((((((Ext.refl S0 w0).trans z2).trans z3).trans z4).trans z5).trans z6), p6, (u2y.ext (z5.trans z6)), rfl, (uza.ext (z5.trans z6)), rfl, (uzb.ext (z5.trans z6)), rfl, (uzc.ext (z5.trans z6)), rfl, (uzd.ext (z5.trans z6)), rfl, (uze.ext (z5.trans z6)), rfl⟩

def Jzz := Zs [1, 1] B42 []
def J100 := Zt [1, 0] B42 [1, 2] Jzz

def Post.z54 (uzf : Nat) (uzg : Nat) (uzh : Nat) (uzi : Nat) (uzj : Int) (uzk : ByteArray) (r : (List Int) × T50) (v : Value) (w' : World) : Prop :=
 ∃ S' Gq nq cq csq u90 u91 u92 u93 ux8 ux9 uxa uxb uxc uxd uxe uxf uxg uxh uxi uxj uxk uxl uxm uxn uxo uxp, v = .slice (Gp Gq) nq cq ∧ Ext S0 w0 S' w' ∧ Hp nz wz S' w' ((Gq, .row 3 csq (cq * (kInt .i64).size) 0) :: (some uzf, .row 3 [.i uzj] 1 0) :: (some uzg, .row 25 [(pt uzh 0)] 1 0) :: (some uzh, .row 51 [.slice (Gp u90) u91 u92, (pt ux8 0), (pt uxh 0)] 3 0) :: (u90, .row 46 u93 (u92 * kT45.size) 0) :: (some ux8, .row 66 [.slice (Gp ux9) uxa uxb, .slice (Gp uxd) uxe uxf] 2 0) :: (ux9, .row 3 uxc (uxb * (kInt .i64).size) 0) :: (uxd, .row 49 uxg (uxf * (kInt .i64).size) 0) :: (some uxh, .row 66 [.slice (Gp uxi) uxj uxk, .slice (Gp uxm) uxn uxo] 2 0) :: (uxi, .row 3 uxl (uxk * (kInt .i64).size) 0) :: (uxm, .row 49 uxp (uxo * (kInt .i64).size) 0) :: (some uzi, .row 9 [.string uzk] 1 0) :: Lr) ∧ Els (kInt .i64) S' w' csq r.1 ∧ r.1.length = nq ∧ Els kT45 S' w' u93 r.2.l ∧ r.2.l.length = u91 ∧ Els (kInt .i64) S' w' uxc r.2.now.place ∧ r.2.now.place.length = uxa ∧ Els (kInt .i64) S' w' uxg r.2.now.list ∧ r.2.now.list.length = uxe ∧ Els (kInt .i64) S' w' uxl r.2.next.place ∧ r.2.next.place.length = uxj ∧ Els (kInt .i64) S' w' uxp r.2.next.list ∧ r.2.next.list.length = uxn

theorem W.z54 (uzj : Int) (uzl : T50) (uzk : ByteArray) (r : (List Int) × T50) (h : M.slices_Collect_int uzj uzl uzk = some r) {nz wz S0 w0 Lr} (uzf uzg uzh uzm uzn uzo uzp uzq uzr uzs uzt uzu uzv uzw uzx uzy uzz u100 u101 u102 u103 u104 u105 u106 u107 uzi) (p0 : Hp nz wz S0 w0 ((some uzf, .row 3 [.i uzj] 1 0) :: (some uzg, .row 25 [(pt uzh 0)] 1 0) :: (some uzh, .row 51 [.slice (Gp uzm) uzn uzo, (pt uzq 0), (pt uzz 0)] 3 0) :: (uzm, .row 46 uzp (uzo * kT45.size) 0) :: (some uzq, .row 66 [.slice (Gp uzr) uzs uzt, .slice (Gp uzv) uzw uzx] 2 0) :: (uzr, .row 3 uzu (uzt * (kInt .i64).size) 0) :: (uzv, .row 49 uzy (uzx * (kInt .i64).size) 0) :: (some uzz, .row 66 [.slice (Gp u100) u101 u102, .slice (Gp u104) u105 u106] 2 0) :: (u100, .row 3 u103 (u102 * (kInt .i64).size) 0) :: (u104, .row 49 u107 (u106 * (kInt .i64).size) 0) :: (some uzi, .row 9 [.string uzk] 1 0) :: Lr)) (u108 : Els kT45 S0 w0 uzp uzl.l) (u109 : uzl.l.length = uzn) (u10a : Els (kInt .i64) S0 w0 uzu uzl.now.place) (u10b : uzl.now.place.length = uzs) (u10c : Els (kInt .i64) S0 w0 uzy uzl.now.list) (u10d : uzl.now.list.length = uzw) (u10e : Els (kInt .i64) S0 w0 u103 uzl.next.place) (u10f : uzl.next.place.length = u101) (u10g : Els (kInt .i64) S0 w0 u107 uzl.next.list) (u10h : uzl.next.list.length = u105) :
  Calls Tryz.prog 42 #[.func (.func 61) #[] #[(pt uzf 0), (pt uzg 0), (pt uzi 0)]] w0 (Rets (Post.z54 nz wz S0 w0 Lr uzf uzg uzh uzi uzj uzk r)) := by
 subst u109
 subst u10b
 subst u10d
 subst u10f
 subst u10h
 refine Zf Tryz.f42 B42 4 ?_
 refine Gj 5 [(0, .func (.func 61) #[] #[(pt uzf 0), (pt uzg 0), (pt uzi 0)])] fun junk => ?_
 delta M.slices_Collect_int at h
 refine Gn 7 [(2, .slice none 0 0), (3, .func (.func 61) #[] #[(pt uzf 0), (pt uzg 0), (pt uzi 0)])] J100 ?_
 refine bind_some' h fun y12 e13 h => ?_
 refine Gc (.call { callee := .value (.func 60), args := #[(.const (.slice none 0 0)), (.tmp 3)], argTypes := #[33, 94] }) 4 33 60 _ (W.z53 uzj uzl uzk y12 e13 uzf uzg uzh uzm uzl.l.length uzo uzp uzq uzr uzl.now.place.length uzt uzu uzv uzl.now.list.length uzx uzy uzz u100 uzl.next.place.length u102 u103 u104 uzl.next.list.length u106 u107 uzi p0 u108 rfl u10a rfl u10c rfl u10e rfl u10g rfl) ?_
 rintro _ w2 ⟨S2, u10i, u10j, u10k, u10l, u10m, u10n, u10o, u10p, u10q, u10r, u10s, u10t, u10u, u10v, u10w, u10x, u10y, u10z, u110, u111, u112, u113, u114, u115, u116, u117, rfl, z2, p2, u118, rfl, u119, rfl, u11a, rfl, u11b, rfl, u11c, rfl, u11d, rfl⟩
 refine Gn 2 [(2, .slice (Gp u10i) y12.1.length u10k)] Jzz ?_
 obtain rfl := Option.some.inj h
 exact Goes.rt Tryz.f42 (.slice (Gp u10i) y12.1.length u10k) ⟨S2, u10i, y12.1.length, u10k, u10l, u10m, y12.2.l.length, u10o, u10p, u10q, u10r, y12.2.now.place.length, u10t, u10u, u10v, y12.2.now.list.length, u10x, u10y, u10z, u110, y12.2.next.place.length, u112, u113, u114, y12.2.next.list.length, u116, u117, rfl, ((Ext.refl S0 w0).trans z2), p2, u118, rfl, u119, rfl, u11a, rfl, u11b, rfl, u11c, rfl, u11d, rfl⟩

def J101 := Zs [1, 1, 1] B23 []
def J102 := Zb 0 J101
def J103 := Zs [1, 1, 0, 0, 1, 1, 1] B23 J102
def J104 := Zs [1, 1, 0, 0, 1, 1, 1, 0, 1] B23 J102
def J105 := Zs [1, 1, 1, 1] B23 []
def J106 := Zt [1, 1, 1, 0] B23 [3, 4, 5, 6, 7] J105

def Post.z55 (r : (List Int) × Int) (v : Value) (w' : World) : Prop :=
 ∃ S' u11e u63 u64, v = .tuple #[.slice u11e u63 u64, .i r.2] ∧ Ext S0 w0 S' w' ∧ Hp nz wz S' w' (Lr) ∧ Rd (kInt .i64) S' w' u11e u64 r.1 ∧ r.1.length = u63

def L.z56 : ByteArray × Int × T50 × Int × Bool → ((List Int) × Int) → Prop := fun ⟨x1, x2, x8v, x9, x20⟩ r => ∀ S1 w1, Ext S0 w0 S1 w1 → ∀ gx8 u11f u11g u11h u11i u11j u11k u11l u11m u11n u11o u11p u11q u11r u11s u11t u11u u11v u11w u11x u11y u11z u120 (_ : Hp nz wz S1 w1 ((some gx8, .row 51 [.slice (Gp u11f) u11g u11h, (pt u11j 0), (pt u11s 0)] 3 0) :: (u11f, .row 46 u11i (u11h * kT45.size) 0) :: (some u11j, .row 66 [.slice (Gp u11k) u11l u11m, .slice (Gp u11o) u11p u11q] 2 0) :: (u11k, .row 3 u11n (u11m * (kInt .i64).size) 0) :: (u11o, .row 49 u11r (u11q * (kInt .i64).size) 0) :: (some u11s, .row 66 [.slice (Gp u11t) u11u u11v, .slice (Gp u11x) u11y u11z] 2 0) :: (u11t, .row 3 u11w (u11v * (kInt .i64).size) 0) :: (u11x, .row 49 u120 (u11z * (kInt .i64).size) 0) :: Lr)) (_ : Els kT45 S1 w1 u11i x8v.l) (_ : x8v.l.length = u11g) (_ : Els (kInt .i64) S1 w1 u11n x8v.now.place) (_ : x8v.now.place.length = u11l) (_ : Els (kInt .i64) S1 w1 u11r x8v.now.list) (_ : x8v.now.list.length = u11p) (_ : Els (kInt .i64) S1 w1 u11w x8v.next.place) (_ : x8v.next.place.length = u11u) (_ : Els (kInt .i64) S1 w1 u120 x8v.next.list) (_ : x8v.next.list.length = u11y) (junk : Nat → Value),
 Goes Tryz.prog (base 23) J103 ⟨lfr 35 [(1, .string x1), (2, .i x2), (8, (pt gx8 0)), (9, .i x9), (20, .bool x20)] junk, []⟩ w1 (Done Tryz.prog 23 (Rets (Post.z55 nz wz S0 w0 Lr r)))

theorem W.z56 {nz wz S0 w0 Lr} : ∀ a r, M.sim_Ends_l0 a = some r → L.z56 nz wz S0 w0 Lr a r := by
 intro ⟨x1, x2, x8v, x9, x20⟩ r h S1 w1 hx gx8 u11f u11g u11h u11i u11j u11k u11l u11m u11n u11o u11p u11q u11r u11s u11t u11u u11v u11w u11x u11y u11z u120 p1 u121 u122 u123 u124 u125 u126 u127 u128 u129 u12a junk
 rw [M.sim_Ends_l0] at h
 try dsimp only at h
 subst u122
 subst u124
 subst u126
 subst u128
 subst u12a
 refine ite_some h (fun h23 h => ?_) (fun h23 h => ?_)
 ·
  rw [h23]
  refine Gn 6 [(6, .slice none 0 0), (7, .i 2)] J104 ?_
  obtain rfl := Option.some.inj h
  have p1 := (((((((p1.dp 0).dp 0).dp 0).dp 0).dp 0).dp 0).dp 0).dp 0
  exact Goes.rt Tryz.f23 (.tuple #[.slice none 0 0, .i 2]) ⟨S1, none, 0, 0, rfl, hx, p1, Rd.none_, rfl⟩
 ·
  have ulr : x20 = false := by simpa using h23
  rw [ulr]
  refine Gn 8 [(29, (pt gx8 0)), (30, .string x1), (31, .i x2)] J106 ?_
  refine bind_some' h fun y24 e25 h => ?_
  refine Gc (kc 43 [29, 30, 31] #[25, 9, 3]) 32 94 43 _ (W.z4w x8v x1 x2 y24 e25 gx8 u11f x8v.l.length u11h u11i u11j u11k x8v.now.place.length u11m u11n u11o x8v.now.list.length u11q u11r u11s u11t x8v.next.place.length u11v u11w u11x x8v.next.list.length u11z u120 p1 u121 rfl u123 rfl u125 rfl u127 rfl u129 rfl) ?_
  rintro _ w4 ⟨S4, u12b, u12c, u12d, rfl, z4, p4⟩
  have p4 := ((((((((((p4.fr 2).fr 10).fr 10).fr 10).fr 10).fr 10).fr 10).fr 10).fr 10).fr 10).fr 10
  refine bind_some' h fun y29 e30 h => ?_
  refine Gc (kc 42 [32] #[94]) 33 33 42 _ (W.z54 y24.1 x8v y24.2 y29 e30 u12b u12c gx8 u11f x8v.l.length u11h u11i u11j u11k x8v.now.place.length u11m u11n u11o x8v.now.list.length u11q u11r u11s u11t x8v.next.place.length u11v u11w u11x x8v.next.list.length u11z u120 u12d p4 (u121.ext z4) rfl (u123.ext z4) rfl (u125.ext z4) rfl (u127.ext z4) rfl (u129.ext z4) rfl) ?_
  rintro _ w5 ⟨S5, u5j, u5k, u5l, u5m, uvm, uvn, uvo, uvp, u12e, u12f, u12g, u12h, u12i, u12j, u12k, u12l, u12m, u12n, u12o, u12p, u12q, u12r, u12s, u12t, u12u, u12v, rfl, z5, p5, u5n, rfl, uvu, rfl, u12w, rfl, u12x, rfl, u12y, rfl, u12z, rfl⟩
  have p5 := ((((((((((p5.dp 1).dp 1).dp 1).dp 1).dp 1).dp 1).dp 1).dp 1).dp 1).dp 1).dp 1
  refine Gn 4 [(34, .i x9), (6, .slice (Gp u5j) y29.1.length u5l), (7, .i x9)] J105 ?_
  obtain ⟨S6, z6, p6, f39⟩ := p5.freezeRd 0 rfl u5n (by decide)
  obtain rfl := Option.some.inj h
  have p6 := p6.dp 0
  exact Goes.rt Tryz.f23 (.tuple #[.slice (Gp u5j) y29.1.length u5l, .i x9]) ⟨S6, (Gp u5j), y29.1.length, u5l, rfl, (((hx.trans z4).trans z5).trans z6), p6, f39, rfl⟩

def Post.z57 (r : Int × ByteArray) (v : Value) (w' : World) : Prop :=
 ∃ S' u8y u8z ut3, v = .func (.func 61) #[] #[(pt u8y 0), (pt u8z 0), (pt ut3 0)] ∧ Ext S0 w0 S' w' ∧ Hp nz wz S' w' ((some u8y, .row 3 [.i r.1] 1 0) :: (some u8z, .row 25 [.pointer none] 1 0) :: (some ut3, .row 9 [.string r.2] 1 0) :: Lr)

theorem W.z57 (x1 : ByteArray) (x2 : Int) (r : Int × ByteArray) (h : M.sim_Runner_ends_2 x1 x2 = some r) {nz wz S0 w0 Lr} (p0 : Hp nz wz S0 w0 (Lr)) :
  Calls Tryz.prog 43 #[.pointer none, .string x1, .i x2] w0 (Rets (Post.z57 nz wz S0 w0 Lr r)) := by
 refine Zf Tryz.f43 B43 5 ?_
 refine Gj 8 [(0, .pointer none), (1, .string x1), (2, .i x2)] fun junk => ?_
 delta M.sim_Runner_ends_2 at h
 refine Gn 2 [] Jz9 ?_
 refine Op_.box 25 (.tmp 0) 3 0 (.pointer none) [.pointer none] p0 Goes.v (by kernel_rfl) (by kernel_rfl) ?_
 intro b1 w2 z2 p2
 refine Op_.box 9 (.tmp 1) 4 0 (.string x1) [.string x1] p2 Goes.v (by kernel_rfl) (by kernel_rfl) ?_
 intro b3 w3 z3 p3
 refine Op_.box 3 (.tmp 2) 5 0 (.i x2) [.i x2] p3 Goes.v (by kernel_rfl) (by kernel_rfl) ?_
 intro b5 w4 z4 p4
 refine Gn 7 [(6, .func (.func 61) #[] #[(pt b5 0), (pt b1 0), (pt b3 0)]), (7, .func (.func 61) #[] #[(pt b5 0), (pt b1 0), (pt b3 0)])] Jza ?_
 obtain rfl := Option.some.inj h
 have p4 := ((p4.fr 1).fr 2).fr 2
 exact Goes.rt Tryz.f43 (.func (.func 61) #[] #[(pt b5 0), (pt b1 0), (pt b3 0)]) ⟨S0, b5, b1, b3, rfl, ((((Ext.refl S0 w0).trans z2).trans z3).trans z4), p4⟩

def Post.z58 (lx0 : Nat) (rx0 : Nat) (uay : Nat → Value) (uaz : Nat) (u130 : Option Addr) (uw2 : Nat) (uw3 : Nat) (uuf : Nat) (uug : Nat) (uui : Nat) (uvz : List Int) (uuj : Int) (uuk : ByteArray) (r : Unit) (v : Value) (w' : World) : Prop :=
 ∃ S', v = .tuple #[] ∧ Ext S0 w0 S' w' ∧ Hp nz wz S' w' ((some lx0, .obj (lpst 60 (lfr 13 [(2, (pt uaz 0)), (6, .func (.func 61) #[] #[(pt uuf 0), (pt uug 0), (pt uui 0)])] uay) #[7] (rfAssign (Qqt)) (rfBody (Qqt)) rx0 .ready none)) :: (some uaz, .row 33 [.slice u130 uw2 uw3] 1 0) :: (some uuf, .row 3 [.i uuj] 1 0) :: (some uug, .row 25 [.pointer none] 1 0) :: (some uui, .row 9 [.string uuk] 1 0) :: Lr)

def L.z59 (lx0 : Nat) (rx0 : Nat) (uay : Nat → Value) (uaz : Nat) (u130 : Option Addr) (uw2 : Nat) (uw3 : Nat) (uuf : Nat) (uug : Nat) (uui : Nat) : Int × (List Int) × Int × ByteArray → Unit → Prop := fun ⟨x5, uvz, uuj, uuk⟩ r => ∀ S1 w1, Ext S0 w0 S1 w1 → ∀ (_ : Hp nz wz S1 w1 ((some lx0, .obj (lpst 60 (lfr 13 [(2, (pt uaz 0)), (6, .func (.func 61) #[] #[(pt uuf 0), (pt uug 0), (pt uui 0)])] uay) #[7] (rfAssign (Qqt)) (rfBody (Qqt)) rx0 .ready none)) :: (some uaz, .row 33 [.slice u130 uw2 uw3] 1 0) :: (some uuf, .row 3 [.i uuj] 1 0) :: (some uug, .row 25 [.pointer none] 1 0) :: (some uui, .row 9 [.string uuk] 1 0) :: Lr)) (_ : Rd (kInt .i64) S1 w1 u130 uw3 uvz) (_ : uvz.length = uw2) (junk : Nat → Value),
 Goes Tryz.prog (base 61) Jze ⟨lfr 29 [(0, yieldV lx0), (2, (pt uug 0)), (3, (pt uui 0)), (5, .i x5)] junk, []⟩ w1 (Done Tryz.prog 61 (Rets (Post.z58 nz wz S0 w0 Lr lx0 rx0 uay uaz u130 uw2 uw3 uuf uug uui uvz uuj uuk r)))

def L.z5a (lx0 : Nat) (rx0 : Nat) (uay : Nat → Value) (uaz : Nat) (u130 : Option Addr) (uw2 : Nat) (uw3 : Nat) (uuf : Nat) (uug : Nat) (uui : Nat) : Int × Bool × (List Int) × Int × ByteArray → Unit → Prop := fun ⟨x5, x28, uvz, uuj, uuk⟩ r => ∀ S1 w1, Ext S0 w0 S1 w1 → ∀ (_ : Hp nz wz S1 w1 ((some lx0, .obj (lpst 60 (lfr 13 [(2, (pt uaz 0)), (6, .func (.func 61) #[] #[(pt uuf 0), (pt uug 0), (pt uui 0)])] uay) #[7] (rfAssign (Qqt)) (rfBody (Qqt)) rx0 .ready none)) :: (some uaz, .row 33 [.slice u130 uw2 uw3] 1 0) :: (some uuf, .row 3 [.i uuj] 1 0) :: (some uug, .row 25 [.pointer none] 1 0) :: (some uui, .row 9 [.string uuk] 1 0) :: Lr)) (_ : Rd (kInt .i64) S1 w1 u130 uw3 uvz) (_ : uvz.length = uw2) (junk : Nat → Value),
 Goes Tryz.prog (base 61) Jzj ⟨lfr 29 [(0, yieldV lx0), (2, (pt uug 0)), (3, (pt uui 0)), (5, .i x5), (28, .bool x28)] junk, []⟩ w1 (Done Tryz.prog 61 (Rets (Post.z58 nz wz S0 w0 Lr lx0 rx0 uay uaz u130 uw2 uw3 uuf uug uui uvz uuj uuk r)))

theorem W.z5b {nz wz S0 w0 Lr} (lx0 : Nat) (rx0 : Nat) (uay : Nat → Value) (uaz : Nat) (u130 : Option Addr) (uw2 : Nat) (uw3 : Nat) (uuf : Nat) (uug : Nat) (uui : Nat) : (∀ a r, M.sim_Runner_ends_1_3_l0 a = some r → (L.z59 nz wz S0 w0 Lr lx0 rx0 uay uaz u130 uw2 uw3 uuf uug uui) a r) ∧ (∀ a r, M.sim_Runner_ends_1_3_l1 a = some r → (L.z5a nz wz S0 w0 Lr lx0 rx0 uay uaz u130 uw2 uw3 uuf uug uui) a r) := by
 refine M.sim_Runner_ends_1_3_l0.mutual_partial_correctness (L.z59 nz wz S0 w0 Lr lx0 rx0 uay uaz u130 uw2 uw3 uuf uug uui) (L.z5a nz wz S0 w0 Lr lx0 rx0 uay uaz u130 uw2 uw3 uuf uug uui) ?_ ?_
 ·
  intro u131 u132 ⟨x5, uvz, uuj, uuk⟩ r h S1 w1 hx p1 u133 u134 junk
  try dsimp only at h
  subst u134
  refine Gn 5 [] Jzk ?_
  refine Goes.ld 25 (.tmp 2) 9 25 ⟨uug, 0, none⟩ (.pointer none) (p1.c 3 0) ?_
  refine bind_some' h fun y6 e7 h => ?_
  refine Gc (kc 11 [9] #[25]) 10 4 11 _ (W.z4t y6 e7  p1 ) ?_
  rintro _ w2 ⟨S2, rfl, z2, p2⟩
  refine Gn 10 [(11, .bool false), (12, undef), (13, undef), (14, undef), (15, undef), (16, .bool false)] Jzo ?_
  have z3 : Ext S2 w2 S2 (w2).drew := Ext.draw
  have p3 := p2.draw
  refine Goes.drawn (s := [9]) (F := Fc S2 (w2).drew [(⟨uui, 0, none⟩, .string uuk), (⟨uug, 0, none⟩, .pointer none)]) 3 12 (by kernel_rfl) (by kernel_rfl) (by kernel_rfl) (by kernel_rfl) ?_
  generalize (w2).drew = w3 at z3 p3 ⊢
  refine AnyG.pu 0 (.move (.tmp 5)) 17 3 (.i x5) (Fc.here (p3.cs [(4, 0, 1), (3, 0, 1)])) ?_
  refine AnyG.ld1 (i := 1) 9 (.tmp 3) 18 9 ⟨uui, 0, none⟩ (.string uuk) (by kernel_rfl) (by kernel_rfl) (Fc.here (p3.cs [(4, 0, 1), (3, 0, 1)])) (by kernel_rfl) (by kernel_rfl) (fun _ h => h.2.at_ 0 rfl) ?_
  refine AnyG.pu 2 (.call { callee := .builtin .len, args := #[(.tmp 18)], argTypes := #[9] }) 19 3 (.i (uuk.size : Int)) (Fc.here (p3.cs [(4, 0, 1), (3, 0, 1)])) ?_
  refine AnyG.pu 3 (.binOp .eql 3 (.tmp 17) (.tmp 19) 3) 20 4 (.bool (decide (x5 = (uuk.size : Int)))) (Fc.here (p3.cs [(4, 0, 1), (3, 0, 1)])) ?_
  refine AnyG.pu 4 (.move (.tmp 20)) 21 4 (.bool (decide (x5 = (uuk.size : Int)))) (Fc.here (p3.cs [(4, 0, 1), (3, 0, 1)])) ?_
  refine ite_some h (fun h8 h => ?_) (fun h8 h => ?_)
  ·
   rw [decide_eq_true h8]
   refine AnyG.s1 5 22 (Fc.here (p3.cs [(4, 0, 1), (3, 0, 1)])) ?_
   refine AnyG.s1 6 23 (Fc.here (p3.cs [(4, 0, 1), (3, 0, 1)])) ?_
   refine AnyG.s1 7 24 (Fc.here (p3.cs [(4, 0, 1), (3, 0, 1)])) ?_
   refine AnyG.s1 8 25 (Fc.here (p3.cs [(4, 0, 1), (3, 0, 1)])) ?_
   refine AnyG.skipL1 (i := 9) 26 (by kernel_rfl) (by kernel_rfl) (.inl (by decide)) ?_
   refine AnyG.s1 10 27 (Fc.here (p3.cs [(4, 0, 1), (3, 0, 1)])) ?_
   refine AnyG.pu 11 (.pick (.tmp 21) (.const (.bool true)) (.tmp 27)) 28 4 (.bool true) (Fc.here (p3.cs [(4, 0, 1), (3, 0, 1)])) ?_
   refine AnyG.done (by kernel_rfl) ?_ _
   exact Gj 29 [(0, yieldV lx0), (2, (pt uug 0)), (3, (pt uui 0)), (5, .i x5), (28, .bool true)] (u132 _ _ h _ _ ((hx.trans z2).trans z3) p3 (u133.ext (z2.trans z3)) rfl)
  ·
   rw [decide_eq_false h8]
   refine AnyG.ld1 (i := 5) 25 (.tmp 2) 22 25 ⟨uug, 0, none⟩ (.pointer none) (by kernel_rfl) (by kernel_rfl) (Fc.here (p3.cs [(4, 0, 1), (3, 0, 1)])) (by kernel_rfl) (by kernel_rfl) (fun _ h => h.2.at_ 1 rfl) ?_
   refine AnyG.ld1 (i := 6) 9 (.tmp 3) 23 9 ⟨uui, 0, none⟩ (.string uuk) (by kernel_rfl) (by kernel_rfl) (Fc.here (p3.cs [(4, 0, 1), (3, 0, 1)])) (by kernel_rfl) (by kernel_rfl) (fun _ h => h.2.at_ 0 rfl) ?_
   refine AnyG.pu 7 (.move (.tmp 5)) 24 3 (.i x5) (Fc.here (p3.cs [(4, 0, 1), (3, 0, 1)])) ?_
   refine guard_some' h fun g9 h => ?_
   refine guard_some' h fun g10 h => ?_
   refine AnyG.ixS (i := 8) 9 (.tmp 23) (.tmp 24) 25 5 .i64 uuk x5 (by kernel_rfl) (by kernel_rfl) (Fc.here (p3.cs [(4, 0, 1), (3, 0, 1)])) (by kernel_rfl) (by kernel_rfl) (by kernel_rfl) g9 g10 ?_
   refine bind_some' h fun y11 e12 h => ?_
   refine Op_.call (kc 14 [22, 25] #[25, 5]) 26 4 14 #[.pointer none, .int .u8 (bt uuk x5)] (AnyG.cs (i := 9) (by kernel_rfl) (by kernel_rfl)) (by kernel_rfl) (W.z4s (bt uuk x5) y11 e12  p3 ) ?_
   rintro _ w4 ⟨S4, rfl, z4, p4⟩
   refine AnyG.last [] (Fc S4 w4 []) (by decide) ?_
   refine AnyG.pu 10 (.unOp .not 4 (.tmp 26)) 27 4 (.bool (!false)) (Fc.here trivial) ?_
   refine AnyG.pu 11 (.pick (.tmp 21) (.const (.bool true)) (.tmp 27)) 28 4 (.bool (!false)) (Fc.here trivial) ?_
   refine AnyG.done (by kernel_rfl) ?_ _
   exact Gj 29 [(0, yieldV lx0), (2, (pt uug 0)), (3, (pt uui 0)), (5, .i x5), (28, .bool (!false))] (u132 _ _ h _ _ (((hx.trans z2).trans z3).trans z4) p4 (u133.ext ((z2.trans z3).trans z4)) rfl)
 ·
  intro u135 u136 ⟨x5, x28, uvz, uuj, uuk⟩ r h S1 w1 hx p1 u133 u134 junk
  try dsimp only at h
  subst u134
  refine ite_some h (fun h13 h => ?_) (fun h13 h => ?_)
  ·
   rw [h13]
   refine Gn 1 [] Jzp ?_
   obtain rfl := Option.some.inj h
   exact Goes.rt Tryz.f61 (.tuple #[]) ⟨S1, rfl, hx, p1⟩
  ·
   have u2 : x28 = false := by simpa using h13
   rw [u2]
   refine Gn 9 [(7, .i x5), (8, .i (wr .i64 (x5 + 1))), (5, .i (wr .i64 (x5 + 1)))] Jze ?_
   exact Gj 29 [(0, yieldV lx0), (2, (pt uug 0)), (3, (pt uui 0)), (5, .i (wr .i64 (x5 + 1)))] (u136 _ _ h _ _ hx p1 u133 rfl)

theorem W.z59 {nz wz S0 w0 Lr} (lx0 : Nat) (rx0 : Nat) (uay : Nat → Value) (uaz : Nat) (u130 : Option Addr) (uw2 : Nat) (uw3 : Nat) (uuf : Nat) (uug : Nat) (uui : Nat) : ∀ a r, M.sim_Runner_ends_1_3_l0 a = some r → (L.z59 nz wz S0 w0 Lr lx0 rx0 uay uaz u130 uw2 uw3 uuf uug uui) a r := (W.z5b lx0 rx0 uay uaz u130 uw2 uw3 uuf uug uui).1

theorem W.z5a {nz wz S0 w0 Lr} (lx0 : Nat) (rx0 : Nat) (uay : Nat → Value) (uaz : Nat) (u130 : Option Addr) (uw2 : Nat) (uw3 : Nat) (uuf : Nat) (uug : Nat) (uui : Nat) : ∀ a r, M.sim_Runner_ends_1_3_l1 a = some r → (L.z5a nz wz S0 w0 Lr lx0 rx0 uay uaz u130 uw2 uw3 uuf uug uui) a r := (W.z5b lx0 rx0 uay uaz u130 uw2 uw3 uuf uug uui).2

theorem W.z58 (uvz : List Int) (uuj : Int) (uuk : ByteArray) (r : Unit) (h : M.sim_Runner_ends_1_3 uvz uuj uuk = some r) {nz wz S0 w0 Lr} (lx0 rx0 uay uaz u130 uw2 uw3 uuf uug uui) (p0 : Hp nz wz S0 w0 ((some lx0, .obj (lpst 60 (lfr 13 [(2, (pt uaz 0)), (6, .func (.func 61) #[] #[(pt uuf 0), (pt uug 0), (pt uui 0)])] uay) #[7] (rfAssign (Qqt)) (rfBody (Qqt)) rx0 .ready none)) :: (some uaz, .row 33 [.slice u130 uw2 uw3] 1 0) :: (some uuf, .row 3 [.i uuj] 1 0) :: (some uug, .row 25 [.pointer none] 1 0) :: (some uui, .row 9 [.string uuk] 1 0) :: Lr)) (uwr : Rd (kInt .i64) S0 w0 u130 uw3 uvz) (uws : uvz.length = uw2) :
  Calls Tryz.prog 61 #[yieldV lx0, (pt uuf 0), (pt uug 0), (pt uui 0)] w0 (Rets (Post.z58 nz wz S0 w0 Lr lx0 rx0 uay uaz u130 uw2 uw3 uuf uug uui uvz uuj uuk r)) := by
 subst uws
 refine Zf Tryz.f61 B61 25 ?_
 refine Gj 29 [(0, yieldV lx0), (1, (pt uuf 0)), (2, (pt uug 0)), (3, (pt uui 0))] fun junk => ?_
 delta M.sim_Runner_ends_1_3 at h
 refine Gn 2 [] Jzr ?_
 refine Goes.ld 3 (.tmp 1) 6 3 ⟨uuf, 0, none⟩ (.i uuj) (p0.c 2 0) ?_
 refine Gn 4 [(5, .i uuj)] Jze ?_
 exact Gj 29 [(0, yieldV lx0), (2, (pt uug 0)), (3, (pt uui 0)), (5, .i uuj)] (W.z59 lx0 rx0 uay uaz u130 uvz.length uw3 uuf uug uui _ _ h _ _ (Ext.refl S0 w0) p0 uwr rfl)

def Post.z5c (u80 : Nat) (ux3 : Nat) (ux5 : Nat) (ux6 : Int) (ux7 : ByteArray) (r : List Int) (v : Value) (w' : World) : Prop :=
 ∃ S' Aq nq cq, v = .slice Aq nq cq ∧ Ext S0 w0 S' w' ∧ Hp nz wz S' w' ((some u80, .row 3 [.i ux6] 1 0) :: (some ux3, .row 25 [.pointer none] 1 0) :: (some ux5, .row 9 [.string ux7] 1 0) :: Lr) ∧ Rd (kInt .i64) S' w' Aq cq r ∧ r.length = nq

theorem W.z5c (x0 : List Int) (ux6 : Int) (ux7 : ByteArray) (r : List Int) (h : M.slices_AppendSeq_int_int_3 x0 ux6 ux7 = some r) {nz wz S0 w0 Lr} (Ax0 nx0 cx0 u80 ux3 ux5) (p0 : Hp nz wz S0 w0 ((some u80, .row 3 [.i ux6] 1 0) :: (some ux3, .row 25 [.pointer none] 1 0) :: (some ux5, .row 9 [.string ux7] 1 0) :: Lr)) (fx0 : Rd (kInt .i64) S0 w0 Ax0 cx0 x0) (lx0 : x0.length = nx0) :
  Calls Tryz.prog 60 #[.slice Ax0 nx0 cx0, .func (.func 61) #[] #[(pt u80 0), (pt ux3 0), (pt ux5 0)]] w0 (Rets (Post.z5c nz wz S0 w0 Lr u80 ux3 ux5 ux6 ux7 r)) := by
 subst lx0
 refine Zf Tryz.f60 B60 11 ?_
 refine Gj 13 [(0, .slice Ax0 x0.length cx0), (1, .func (.func 61) #[] #[(pt u80 0), (pt ux3 0), (pt ux5 0)])] fun junk => ?_
 delta M.slices_AppendSeq_int_int_3 at h
 refine Gn 2 [] Jzt ?_
 refine Op_.box 33 (.tmp 0) 2 0 (.slice Ax0 x0.length cx0) [.slice Ax0 x0.length cx0] p0 Goes.v (by kernel_rfl) (by kernel_rfl) ?_
 intro b4 w2 z2 p2
 refine Gn 8 [(4, .slice none 0 0), (6, .func (.func 61) #[] #[(pt u80 0), (pt ux3 0), (pt ux5 0)])] Jzw ?_
 refine Gj 13 [(2, (pt b4 0)), (6, .func (.func 61) #[] #[(pt u80 0), (pt ux3 0), (pt ux5 0)])] (fun u137 => ?_)
 refine Goes.rangeF (f := 60) (.tmp 6) #[7] 61 #[] #[(pt u80 0), (pt ux3 0), (pt ux5 0)] (by kernel_rfl) (by kernel_rfl) (fun _ => by kernel_rfl) p2 ?_
 intro r7 l8 w3 z3 p3
 have p3 := ((((p3.fr 5).fr 5).fr 5).fr 5).fr 4
 refine bind_some' h fun y11 e12 h => ?_
 refine ⟨_, W.z58 x0 ux6 ux7 y11 e12 l8 r7 u137 b4 Ax0 x0.length cx0 u80 ux3 ux5 p3 (fx0.ext (z2.trans z3)) rfl, ?_⟩
 rintro _ w4 ⟨S4, rfl, z4, p4⟩
 refine Goes.endF 0 p4 rfl rfl ?_
 intro w5 z5 p5
 replace p5 : Hp nz wz S4 w5 ((some b4, .row 33 [.slice Ax0 x0.length cx0] 1 0) :: (some u80, .row 3 [.i ux6] 1 0) :: (some ux3, .row 25 [.pointer none] 1 0) :: (some ux5, .row 9 [.string ux7] 1 0) :: (some r7, .obj (.deferred (some []))) :: Lr) := (p5.front 0 _ rfl).drop
 show Goes _ _ Jzv _ _ _
 refine Gn 3 [] Jzy ?_
 refine Goes.ld 33 (.tmp 2) 12 33 ⟨b4, 0, none⟩ (.slice Ax0 x0.length cx0) (p5.c 0 0) ?_
 refine Gn 2 [(4, .slice Ax0 x0.length cx0)] Jzx ?_
 obtain rfl := Option.some.inj h
 have p5 := p5.dp 0
 have p5 := (((p5.fr 2).fr 2).fr 2).fr 3
 refine Goes.retL ?_
 refine lvs_mark 0 rfl rfl p5 rfl ?_
 intro w6 z6 p6
 replace p6 : Hp nz wz S4 w6 ((some u80, .row 3 [.i ux6] 1 0) :: (some ux3, .row 25 [.pointer none] 1 0) :: (some ux5, .row 9 [.string ux7] 1 0) :: Lr) := p6.drop
 exact lvs_done (fn := Tryz.f60) rfl rfl rfl rfl (by kernel_rfl) (v := .slice Ax0 x0.length cx0) (by kernel_rfl) ⟨S4, Ax0, x0.length, cx0, rfl, ((((((Ext.refl S0 w0).trans z2).trans z3).trans z4).trans z5).trans z6), p6, (fx0.ext ((((z2.trans z3).trans z4).trans z5).trans z6)), rfl⟩

def Post.z5d (uzf : Nat) (uzg : Nat) (uzi : Nat) (uzj : Int) (uzk : ByteArray) (r : List Int) (v : Value) (w' : World) : Prop :=
 ∃ S' Aq nq cq, v = .slice Aq nq cq ∧ Ext S0 w0 S' w' ∧ Hp nz wz S' w' ((some uzf, .row 3 [.i uzj] 1 0) :: (some uzg, .row 25 [.pointer none] 1 0) :: (some uzi, .row 9 [.string uzk] 1 0) :: Lr) ∧ Rd (kInt .i64) S' w' Aq cq r ∧ r.length = nq

theorem W.z5d (uzj : Int) (uzk : ByteArray) (r : List Int) (h : M.slices_Collect_int_2 uzj uzk = some r) {nz wz S0 w0 Lr} (uzf uzg uzi) (p0 : Hp nz wz S0 w0 ((some uzf, .row 3 [.i uzj] 1 0) :: (some uzg, .row 25 [.pointer none] 1 0) :: (some uzi, .row 9 [.string uzk] 1 0) :: Lr)) :
  Calls Tryz.prog 42 #[.func (.func 61) #[] #[(pt uzf 0), (pt uzg 0), (pt uzi 0)]] w0 (Rets (Post.z5d nz wz S0 w0 Lr uzf uzg uzi uzj uzk r)) := by
 refine Zf Tryz.f42 B42 4 ?_
 refine Gj 5 [(0, .func (.func 61) #[] #[(pt uzf 0), (pt uzg 0), (pt uzi 0)])] fun junk => ?_
 delta M.slices_Collect_int_2 at h
 refine Gn 7 [(2, .slice none 0 0), (3, .func (.func 61) #[] #[(pt uzf 0), (pt uzg 0), (pt uzi 0)])] J100 ?_
 refine bind_some' h fun y4 e5 h => ?_
 refine Gc (.call { callee := .value (.func 60), args := #[(.const (.slice none 0 0)), (.tmp 3)], argTypes := #[33, 94] }) 4 33 60 _ (W.z5c ([] : List Int) uzj uzk y4 e5 none 0 0 uzf uzg uzi p0 Rd.none_ rfl) ?_
 rintro _ w2 ⟨S2, u138, u10j, u10k, rfl, z2, p2, u118, rfl⟩
 refine Gn 2 [(2, .slice u138 y4.length u10k)] Jzz ?_
 obtain rfl := Option.some.inj h
 exact Goes.rt Tryz.f42 (.slice u138 y4.length u10k) ⟨S2, u138, y4.length, u10k, rfl, ((Ext.refl S0 w0).trans z2), p2, u118, rfl⟩

def L.z5e : ByteArray × Int × Int × Bool → ((List Int) × Int) → Prop := fun ⟨x1, x2, x9, x20⟩ r => ∀ S1 w1, Ext S0 w0 S1 w1 → ∀ (_ : Hp nz wz S1 w1 (Lr)) (junk : Nat → Value),
 Goes Tryz.prog (base 23) J103 ⟨lfr 35 [(1, .string x1), (2, .i x2), (8, .pointer none), (9, .i x9), (20, .bool x20)] junk, []⟩ w1 (Done Tryz.prog 23 (Rets (Post.z55 nz wz S0 w0 Lr r)))

theorem W.z5e {nz wz S0 w0 Lr} : ∀ a r, M.sim_Ends_l1 a = some r → L.z5e nz wz S0 w0 Lr a r := by
 intro ⟨x1, x2, x9, x20⟩ r h S1 w1 hx p1 junk
 rw [M.sim_Ends_l1] at h
 try dsimp only at h
 refine ite_some h (fun h40 h => ?_) (fun h40 h => ?_)
 ·
  rw [h40]
  refine Gn 6 [(6, .slice none 0 0), (7, .i 2)] J104 ?_
  obtain rfl := Option.some.inj h
  exact Goes.rt Tryz.f23 (.tuple #[.slice none 0 0, .i 2]) ⟨S1, none, 0, 0, rfl, hx, p1, Rd.none_, rfl⟩
 ·
  have u139 : x20 = false := by simpa using h40
  rw [u139]
  refine Gn 8 [(29, .pointer none), (30, .string x1), (31, .i x2)] J106 ?_
  refine bind_some' h fun y41 e42 h => ?_
  refine Gc (kc 43 [29, 30, 31] #[25, 9, 3]) 32 94 43 _ (W.z57 x1 x2 y41 e42  p1 ) ?_
  rintro _ w7 ⟨S7, u13a, u13b, u13c, rfl, z7, p7⟩
  refine bind_some' h fun y46 e47 h => ?_
  refine Gc (kc 42 [32] #[94]) 33 33 42 _ (W.z5d y41.1 y41.2 y46 e47 u13a u13b u13c p7 ) ?_
  rintro _ w8 ⟨S8, u13d, u13e, u13f, rfl, z8, p8, u13g, rfl⟩
  have p8 := ((p8.dp 0).dp 0).dp 0
  refine Gn 4 [(34, .i x9), (6, .slice u13d y46.length u13f), (7, .i x9)] J105 ?_
  obtain rfl := Option.some.inj h
  exact Goes.rt Tryz.f23 (.tuple #[.slice u13d y46.length u13f, .i x9]) ⟨S8, u13d, y46.length, u13f, rfl, ((hx.trans z7).trans z8), p8, u13g, rfl⟩

def J107 := Zs [1, 1] B23 []
def J108 := Zt [1, 0] B23 [2, 3, 4, 5, 6, 7] J107
def J109 := Zs [1, 1, 0, 0, 1] B23 J102
def J10a := Zt [1, 1, 0, 0, 1, 1, 0] B23 [3, 4, 5, 6, 7, 8] J103
def J10b := Zs [1, 1, 0, 0, 1, 0, 1] B23 J102

theorem W.z55 (x0 : List T45) (x1 : ByteArray) (x2 : Int) (r : (List Int) × Int) (h : M.sim_Ends x0 x1 x2 = some r) {nz wz S0 w0 Lr} (Ax0 nx0 cx0) (p0 : Hp nz wz S0 w0 (Lr)) (fx0 : Rd kT45 S0 w0 Ax0 cx0 x0) (lx0 : x0.length = nx0) :
  Calls Tryz.prog 23 #[.slice Ax0 nx0 cx0, .string x1, .i x2] w0 (Rets (Post.z55 nz wz S0 w0 Lr r)) := by
 subst lx0
 refine Zf Tryz.f23 B23 32 ?_
 refine Gj 35 [(0, .slice Ax0 x0.length cx0), (1, .string x1), (2, .i x2)] fun junk => ?_
 delta M.sim_Ends at h
 refine Gn 9 [(6, .slice none 0 0), (7, .i 0), (11, .slice Ax0 x0.length cx0), (12, .string x1)] J108 ?_
 refine bind_some' h fun y1 e2 h => ?_
 rcases y1 with ur2 | ur3
 ·
  try dsimp only at h
  refine Gc (kc 41 [11, 12] #[22, 9]) 13 27 41 _ (W.z4o x0 x1 (Sum.inl ur2) e2 Ax0 x0.length cx0 p0 fx0 rfl) ?_
  rintro _ w2 ⟨S2, ur4, ur5, ur6, ur7, ur8, ur9, ura, urb, urc, urd, ure, urf, urg, urh, uri, urj, urk, url, urm, urn, uro, urp, urq, rfl, z2, p2, urr, rfl, urs, rfl, urt, rfl, uru, rfl, urv, rfl⟩
  refine Gn 14 [(10, .tuple #[(pt ur4 0), .i ur2.2]), (14, (pt ur4 0)), (15, .i ur2.2), (8, (pt ur4 0)), (9, .i ur2.2), (17, .i ur2.2), (18, .bool (!(decide (ur2.2 = 0)))), (16, .bool (!(decide (ur2.2 = 0))))] J109 ?_
  refine ite_some h (fun h11 h => ?_) (fun h11 h => ?_)
  ·
   rw [decide_eq_true h11]
   refine Gn 6 [(21, .i x2), (22, .bool (decide (x2 < 0))), (23, .bool (decide (x2 < 0)))] J10a ?_
   refine ite_some h (fun h12 h => ?_) (fun h12 h => ?_)
   ·
    rw [decide_eq_true h12]
    refine Gn 7 [(24, undef), (25, undef), (26, undef), (27, undef), (28, .bool true), (20, .bool true)] J103 ?_
    exact Gj 35 [(1, .string x1), (2, .i x2), (8, (pt ur4 0)), (9, .i ur2.2), (20, .bool true)] (W.z56 _ _ h _ _ ((Ext.refl S0 w0).trans z2) ur4 ur5 ur2.1.l.length ur7 ur8 ur9 ura ur2.1.now.place.length urc urd ure ur2.1.now.list.length urg urh uri urj ur2.1.next.place.length url urm urn ur2.1.next.list.length urp urq p2 urr rfl urs rfl urt rfl uru rfl urv rfl)
   ·
    rw [decide_eq_false h12]
    refine Gn 7 [(24, .i x2), (25, .string x1), (26, .i (x1.size : Int)), (27, .bool (decide (x2 > (x1.size : Int)))), (28, .bool (decide (x2 > (x1.size : Int)))), (20, .bool (decide (x2 > (x1.size : Int))))] J103 ?_
    exact Gj 35 [(1, .string x1), (2, .i x2), (8, (pt ur4 0)), (9, .i ur2.2), (20, .bool (decide (x2 > (x1.size : Int))))] (W.z56 _ _ h _ _ ((Ext.refl S0 w0).trans z2) ur4 ur5 ur2.1.l.length ur7 ur8 ur9 ura ur2.1.now.place.length urc urd ure ur2.1.now.list.length urg urh uri urj ur2.1.next.place.length url urm urn ur2.1.next.list.length urp urq p2 urr rfl urs rfl urt rfl uru rfl urv rfl)
  ·
   rw [decide_eq_false h11]
   refine Gn 7 [(19, .i ur2.2), (6, .slice none 0 0), (7, .i ur2.2)] J10b ?_
   obtain rfl := Option.some.inj h
   have p2 := (((((((p2.dp 0).dp 0).dp 0).dp 0).dp 0).dp 0).dp 0).dp 0
   exact Goes.rt Tryz.f23 (.tuple #[.slice none 0 0, .i ur2.2]) ⟨S2, none, 0, 0, rfl, ((Ext.refl S0 w0).trans z2), p2, Rd.none_, rfl⟩
 ·
  try dsimp only at h
  refine Gc (kc 41 [11, 12] #[22, 9]) 13 27 41 _ (W.z4o x0 x1 (Sum.inr ur3) e2 Ax0 x0.length cx0 p0 fx0 rfl) ?_
  rintro _ w3 ⟨S3, rfl, z3, p3⟩
  refine Gn 14 [(10, .tuple #[.pointer none, .i ur3]), (14, .pointer none), (15, .i ur3), (8, .pointer none), (9, .i ur3), (17, .i ur3), (18, .bool (!(decide (ur3 = 0)))), (16, .bool (!(decide (ur3 = 0))))] J109 ?_
  refine ite_some h (fun h21 h => ?_) (fun h21 h => ?_)
  ·
   rw [decide_eq_true h21]
   refine Gn 6 [(21, .i x2), (22, .bool (decide (x2 < 0))), (23, .bool (decide (x2 < 0)))] J10a ?_
   refine ite_some h (fun h22 h => ?_) (fun h22 h => ?_)
   ·
    rw [decide_eq_true h22]
    refine Gn 7 [(24, undef), (25, undef), (26, undef), (27, undef), (28, .bool true), (20, .bool true)] J103 ?_
    exact Gj 35 [(1, .string x1), (2, .i x2), (8, .pointer none), (9, .i ur3), (20, .bool true)] (W.z5e _ _ h _ _ ((Ext.refl S0 w0).trans z3) p3)
   ·
    rw [decide_eq_false h22]
    refine Gn 7 [(24, .i x2), (25, .string x1), (26, .i (x1.size : Int)), (27, .bool (decide (x2 > (x1.size : Int)))), (28, .bool (decide (x2 > (x1.size : Int)))), (20, .bool (decide (x2 > (x1.size : Int))))] J103 ?_
    exact Gj 35 [(1, .string x1), (2, .i x2), (8, .pointer none), (9, .i ur3), (20, .bool (decide (x2 > (x1.size : Int))))] (W.z5e _ _ h _ _ ((Ext.refl S0 w0).trans z3) p3)
  ·
   rw [decide_eq_false h21]
   refine Gn 7 [(19, .i ur3), (6, .slice none 0 0), (7, .i ur3)] J10b ?_
   obtain rfl := Option.some.inj h
   exact Goes.rt Tryz.f23 (.tuple #[.slice none 0 0, .i ur3]) ⟨S3, none, 0, 0, rfl, ((Ext.refl S0 w0).trans z3), p3, Rd.none_, rfl⟩

def J10c := Zs [1, 1] B6 []
def J10d := Zt [1, 0] B6 [0, 1, 2, 3, 4, 5, 6, 7] J10c
def J10e := Zs [1, 1, 1] B6 []
def J10f := Zt [1, 1, 0] B6 [0, 1, 2, 3, 4, 5, 6, 7] J10e
def J10g := Zs [1, 1, 1, 1] B6 []
def Qrs := sub [1, 1, 1, 0] B6
def J10h := Zr Qrs [0, 1, 2, 3, 4, 5, 6, 7, 8] J10g
def J10i := Zr Qrs [5, 6, 7, 8] J10g
def J10j := Zs [1, 1, 1, 1, 1] B6 []
def J10k := Zt [1, 1, 1, 1, 0] B6 [0, 1, 2, 3, 4, 5, 6] J10j
def J10l := Zs [1, 1, 1, 1, 1, 1] B6 []
def J10m := Zt [1, 1, 1, 1, 1, 0] B6 [1, 2, 3, 4, 5, 6] J10l
def J10n := Zs [1, 1, 1, 1, 1, 1, 1] B6 []
def Qry := sub [1, 1, 1, 1, 1, 1, 0] B6
def J10o := Zr Qry [2, 3, 4, 5, 6, 7, 8, 9, 10, 11, 12, 13, 14, 15, 16, 17, 18, 19, 20, 21, 22] J10n
def J10p := Zr Qry [6, 7, 8, 9, 10, 11, 12, 13, 14, 15, 16, 17, 18, 19, 20, 21, 22] J10n
def J10q := Zr Qry [10, 11, 12, 13, 14, 15, 16, 17, 18, 19, 20, 21, 22] J10n
def J10r := Zr Qry [14, 15, 16, 17, 18, 19, 20, 21, 22] J10n
def J10s := Zr Qry [15, 16, 17, 18, 19, 20, 21, 22] J10n
def J10t := Zr Qry [19, 20, 21, 22] J10n
def J10u := Zr Qry [20, 21, 22] J10n
def J10v := Zr Qry [16, 17, 18, 19, 20, 21, 22] J10n

def Post.z5f (r : Bool) (v : Value) (w' : World) : Prop :=
 ∃ S', v = .bool r ∧ Ext S0 w0 S' w' ∧ Hp nz wz S' w' (Lr)

theorem W.z5f (r : Bool) (h : M.tidepolelaw12_works = some r) {nz wz S0 w0 Lr} (p0 : Hp nz wz S0 w0 (Lr)) :
  Calls Tryz.prog 6 #[] w0 (Rets (Post.z5f nz wz S0 w0 Lr r)) := by
 refine Zf Tryz.f6 B6 61 ?_
 refine Gj 61 [] fun junk => ?_
 delta M.tidepolelaw12_works at h
 refine Gn 6 [(0, .bool false)] J10d ?_
 refine bind_some' h fun y1 e2 h => ?_
 refine Gc (.call { callee := .value (.func 20), args := #[(.const (.string ⟨#[40, 97, 124, 98, 41, 42, 99]⟩)), (.const (.string ⟨#[97, 98, 97, 99]⟩))], argTypes := #[9, 9] }) 15 54 20 _ (W.z4v (⟨#[40, 97, 124, 98, 41, 42, 99]⟩ : ByteArray) (⟨#[97, 98, 97, 99]⟩ : ByteArray) y1 e2  p0 ) ?_
 rintro _ w2 ⟨S2, rfl, z2, p2⟩
 refine Gn 10 [(14, .tuple #[.bool y1.1, .i y1.2.1, .i y1.2.2]), (16, .bool y1.1), (17, .i y1.2.1), (18, .i y1.2.2), (1, .bool y1.1), (2, .i y1.2.1), (3, .i y1.2.2)] J10f ?_
 refine bind_some' h fun y3 e4 h => ?_
 refine Gc (.call { callee := .value (.func 20), args := #[(.const (.string ⟨#[40, 97, 124, 98, 41, 42, 99]⟩)), (.const (.string ⟨#[97, 98]⟩))], argTypes := #[9, 9] }) 20 54 20 _ (W.z4v (⟨#[40, 97, 124, 98, 41, 42, 99]⟩ : ByteArray) (⟨#[97, 98]⟩ : ByteArray) y3 e4  p2 ) ?_
 rintro _ w3 ⟨S3, rfl, z3, p3⟩
 refine Gn 10 [(19, .tuple #[.bool y3.1, .i y3.2.1, .i y3.2.2]), (21, .bool y3.1), (22, .i y3.2.1), (23, .i y3.2.2), (4, .bool y3.1), (5, .i y3.2.1), (6, .i y3.2.2)] J10h ?_
 refine bind_some' h fun y5 e6 h => ?_
 refine Gc (.call { callee := .value (.func 21), args := #[(.const (.string ⟨#[97, 42]⟩))], argTypes := #[9] }) 25 59 21 _ (W.z3c (⟨#[97, 42]⟩ : ByteArray) y5 e6  p3 ) ?_
 rintro _ w4 ⟨S4, u13h, u13i, u13j, rfl, z4, p4, u13k, u13l, rfl⟩
 refine Gn 4 [(24, .tuple #[(ag (.i y5.1.Kind :: U4 y5.1.Set [.slice u13h y5.1.L.length u13j, .i y5.1.Min, .i y5.1.Max])), .i y5.2.1, .i y5.2.2]), (26, (ag (.i y5.1.Kind :: U4 y5.1.Set [.slice u13h y5.1.L.length u13j, .i y5.1.Min, .i y5.1.Max]))), (27, .i y5.2.1), (28, .i y5.2.2)] J10i ?_
 refine Op_.alloc 58 7 0 (.agg #[.i 0, .u 0, .u 0, .u 0, .u 0, .slice none 0 0, .i 0, .i 0]) [.i 0, .u 0, .u 0, .u 0, .u 0, .slice none 0 0, .i 0, .i 0] p4 Goes.v (by kernel_rfl) (by kernel_rfl) ?_
 intro b7 w5 z5 p5
 refine So 58 (.tmp 7) (.tmp 26) 0 0 b7 0 (ag (.i y5.1.Kind :: U4 y5.1.Set [.slice u13h y5.1.L.length u13j, .i y5.1.Min, .i y5.1.Max])) (.i y5.1.Kind :: U4 y5.1.Set [.slice u13h y5.1.L.length u13j, .i y5.1.Min, .i y5.1.Max]) p5 rfl Goes.s ?_
 intro w6 z6 p6
 have p6 : Hp nz wz S4 w6 ((some b7, .row 58 (.i y5.1.Kind :: U4 y5.1.Set [.slice u13h y5.1.L.length u13j, .i y5.1.Min, .i y5.1.Max]) 8 0) :: Lr) := p6
 refine Gn 5 [(8, .i y5.2.1), (9, .i y5.2.2)] J10k ?_
 refine Goes.ldN 58 (.tmp 7) 30 58 ⟨b7, 0, none⟩ (.i y5.1.Kind :: U4 y5.1.Set [.slice u13h y5.1.L.length u13j, .i y5.1.Min, .i y5.1.Max]) (p6.pa 0 0) ?_
 refine bind_some' h fun y9 e10 h => ?_
 refine Gc (kc 22 [30] #[58]) 31 61 22 _ (W.z4n y5.1 y9 e10 u13h y5.1.L.length u13j p6 u13k (u13l.ext (z5.trans z6)) rfl) ?_
 rintro _ w7 ⟨S7, u13m, u13n, u13o, u13p, rfl, z7, p7, u13q, rfl⟩
 have p7 := p7.dp 1
 refine Gn 9 [(29, .tuple #[.slice (Gp u13m) y9.1.length u13o, .i y9.2]), (32, .slice (Gp u13m) y9.1.length u13o), (33, .i y9.2), (10, .slice (Gp u13m) y9.1.length u13o), (11, .i y9.2), (35, .slice (Gp u13m) y9.1.length u13o)] J10m ?_
 obtain ⟨S8, z8, p8, f12⟩ := p7.freezeRd 0 rfl u13q (by decide)
 refine bind_some' h fun y13 e14 h => ?_
 refine Gc (.call { callee := .value (.func 23), args := #[(.tmp 35), (.const (.string ⟨#[98, 97, 97, 98]⟩)), (.const (.int .i64 1))], argTypes := #[22, 9, 3] }) 36 52 23 _ (W.z55 y9.1 (⟨#[98, 97, 97, 98]⟩ : ByteArray) 1 y13 e14 (Gp u13m) y9.1.length u13o p8 f12 rfl) ?_
 rintro _ w9 ⟨S9, u13r, u13s, u13t, rfl, z9, p9, u13u, rfl⟩
 have p9 := p9.dp 0
 refine Gn 10 [(34, .tuple #[.slice u13r y13.1.length u13t, .i y13.2]), (37, .slice u13r y13.1.length u13t), (38, .i y13.2), (12, .slice u13r y13.1.length u13t), (13, .i y13.2), (39, .bool y1.1), (40, .bool y1.1)] J10o ?_
 refine ite_some h (fun h15 h => ?_) (fun h15 h => ?_)
 ·
  rw [h15]
  refine Gn 4 [(41, .i y1.2.2), (42, .bool (decide (y1.2.2 = 0))), (43, .bool (decide (y1.2.2 = 0))), (44, .bool (decide (y1.2.2 = 0)))] J10p ?_
  refine ite_some h (fun h16 h => ?_) (fun h16 h => ?_)
  ·
   rw [decide_eq_true h16]
   refine Gn 4 [(45, .bool y3.1), (46, .bool (!y3.1)), (47, .bool (!y3.1)), (48, .bool (!y3.1))] J10q ?_
   refine ite_some h (fun h17 h => ?_) (fun h17 h => ?_)
   ·
    rw [h17]
    refine Gn 14 [(49, undef), (50, undef), (51, .bool false), (52, .bool false), (53, undef), (54, undef), (55, undef), (56, .bool false), (57, .bool false), (58, undef), (59, undef), (60, .bool false), (0, .bool false)] J10n ?_
    obtain rfl := Option.some.inj h
    exact Goes.rt Tryz.f6 (.bool false) ⟨S9, rfl, (((((((((Ext.refl S0 w0).trans z2).trans z3).trans z4).trans z5).trans z6).trans z7).trans z8).trans z9), p9⟩
   ·
    have uk7 : y3.1 = false := by simpa using h17
    rw [uk7]
    refine Gn 4 [(49, .i y3.2.2), (50, .bool (decide (y3.2.2 = 0))), (51, .bool (decide (y3.2.2 = 0))), (52, .bool (decide (y3.2.2 = 0)))] J10r ?_
    refine ite_some h (fun h18 h => ?_) (fun h18 h => ?_)
    ·
     rw [decide_eq_true h18]
     refine Gn 1 [(53, .slice u13r y13.1.length u13t)] J10s ?_
     have f20 : Els (kInt .i64) S9 w9 ([.i 1, .i 2, .i 3] : List Value) [1, 2, 3] := by exact (Els.cons (K := (kInt .i64)) (vs := [.i 1]) (x := 1) rfl (Els.cons (K := (kInt .i64)) (vs := [.i 2]) (x := 2) rfl (Els.cons (K := (kInt .i64)) (vs := [.i 3]) (x := 3) rfl Els.nil)))
     refine Op_.made (.buildSlice 33 3 #[(0, (.const (.int .i64 1))), (1, (.const (.int .i64 2))), (2, (.const (.int .i64 3)))]) 54 33 (fun b => .slice (Gp (some b)) 3 3) 3 ([.i 1, .i 2, .i 3] : List Value) p9 Goes.v (by kernel_rfl) ?_
     intro b19 w10 z10 p10
     have p10 : Hp nz wz S9 w10 (((some b19), .row 3 ([.i 1, .i 2, .i 3] : List Value) (3 * (kInt .i64).size) 0) :: Lr) := p10
     obtain ⟨S11, z11, p11, f22⟩ := p10.freezeRd 0 rfl (f20.ext z10) (by decide)
     refine bind_some' h fun y23 e24 h => ?_
     refine Gc (kc 8 [53, 54] #[33, 33]) 55 4 8 _ (W.z1c y13.1 [1, 2, 3] y23 e24 u13r y13.1.length u13t (Gp (some b19)) 3 3 p11 (u13u.ext (z10.trans z11)) rfl f22 rfl) ?_
     rintro _ w12 ⟨S12, rfl, z12, p12⟩
     have p12 := p12.dp 0
     refine Gn 2 [(56, .bool y23), (57, .bool y23)] J10t ?_
     refine ite_some h (fun h25 h => ?_) (fun h25 h => ?_)
     ·
      rw [h25]
      refine Gn 5 [(58, .i y13.2), (59, .bool (decide (y13.2 = 0))), (60, .bool (decide (y13.2 = 0))), (0, .bool (decide (y13.2 = 0)))] J10n ?_
      obtain rfl := Option.some.inj h
      exact Goes.rt Tryz.f6 (.bool (decide (y13.2 = 0))) ⟨S12, rfl, ((((((((((((Ext.refl S0 w0).trans z2).trans z3).trans z4).trans z5).trans z6).trans z7).trans z8).trans z9).trans z10).trans z11).trans z12), p12⟩
     ·
      have uk5 : y23 = false := by simpa using h25
      rw [uk5]
      refine Gn 5 [(58, undef), (59, undef), (60, .bool false), (0, .bool false)] J10n ?_
      obtain rfl := Option.some.inj h
      exact Goes.rt Tryz.f6 (.bool false) ⟨S12, rfl, ((((((((((((Ext.refl S0 w0).trans z2).trans z3).trans z4).trans z5).trans z6).trans z7).trans z8).trans z9).trans z10).trans z11).trans z12), p12⟩
    ·
     rw [decide_eq_false h18]
     refine Gn 10 [(53, undef), (54, undef), (55, undef), (56, .bool false), (57, .bool false), (58, undef), (59, undef), (60, .bool false), (0, .bool false)] J10n ?_
     obtain rfl := Option.some.inj h
     exact Goes.rt Tryz.f6 (.bool false) ⟨S9, rfl, (((((((((Ext.refl S0 w0).trans z2).trans z3).trans z4).trans z5).trans z6).trans z7).trans z8).trans z9), p9⟩
  ·
   rw [decide_eq_false h16]
   refine Gn 14 [(45, undef), (46, undef), (47, .bool false), (48, .bool false), (49, undef), (50, undef), (51, .bool false), (52, .bool false), (53, undef), (54, undef), (55, undef), (56, .bool false), (57, .bool false), (58, undef)] J10u ?_
   refine Gn 4 [(59, undef), (60, .bool false), (0, .bool false)] J10n ?_
   obtain rfl := Option.some.inj h
   exact Goes.rt Tryz.f6 (.bool false) ⟨S9, rfl, (((((((((Ext.refl S0 w0).trans z2).trans z3).trans z4).trans z5).trans z6).trans z7).trans z8).trans z9), p9⟩
 ·
  have ub : y1.1 = false := by simpa using h15
  rw [ub]
  refine Gn 14 [(41, undef), (42, undef), (43, .bool false), (44, .bool false), (45, undef), (46, undef), (47, .bool false), (48, .bool false), (49, undef), (50, undef), (51, .bool false), (52, .bool false), (53, undef), (54, undef)] J10v ?_
  refine Gn 8 [(55, undef), (56, .bool false), (57, .bool false), (58, undef), (59, undef), (60, .bool false), (0, .bool false)] J10n ?_
  obtain rfl := Option.some.inj h
  exact Goes.rt Tryz.f6 (.bool false) ⟨S9, rfl, (((((((((Ext.refl S0 w0).trans z2).trans z3).trans z4).trans z5).trans z6).trans z7).trans z8).trans z9), p9⟩

def J10w := Zs [1, 1, 1, 1, 1, 1, 1, 1] B3 []
def J10x := Zb 0 J10w
def Qs0 := sub [1, 1, 1, 1, 1, 1, 1, 0, 1, 0, 0] B3
def J10y := Zl Qs0 J10x
def J10z := Zc Qs0 J10y
def J110 := Zs [1, 1, 1, 1, 1, 1, 1, 0, 1, 0, 0, 1] B3 J10y
def J111 := Zs [1, 1, 1, 1, 1, 1, 1, 0, 1, 0, 0, 0, 1] B3 J110
def J112 := Zs [1, 1, 1, 1, 1, 1, 1, 0, 1, 0, 0, 1, 1] B3 J10y
def J113 := Zb 1 J112
def J114 := Zs [1, 1, 1, 1, 1, 1, 1, 0, 1, 0, 0, 1, 0, 0, 1, 1] B3 J113
def J115 := Zb 2 J114
def Qs5 := sub [1, 1, 1, 1, 1, 1, 1, 0, 1, 0, 0, 1, 0, 0, 1, 0, 1, 0, 0] B3
def J116 := Zl Qs5 J115
def J117 := Zc Qs5 J116
def J118 := Zs [1, 1, 1, 1, 1, 1, 1, 0, 1, 0, 0, 1, 0, 0, 1, 0, 1, 0, 0, 1, 1] B3 J116
def J119 := Zb 3 J118
def J11a := Zs [1, 1, 1, 1, 1, 1, 1, 0, 1, 0, 0, 1, 0, 0, 1, 1, 1] B3 J113
def J11b := Zs [1, 1, 1, 1, 1, 1, 1, 0, 1, 0, 0, 1, 0, 0, 1, 1, 0, 1] B3 J11a
def J11c := Zs [1, 1, 1, 1, 1, 1, 1, 0, 1, 0, 0, 1, 0, 0, 1, 1, 1, 1] B3 J113
def J11d := Zs [1, 1, 1, 1, 1, 1, 1, 0, 1, 0, 0, 1, 0, 0, 1, 1, 1, 0, 1] B3 J11c
def J11e := Zs [1, 1, 1, 1, 1, 1, 1, 0, 1, 0, 0, 1, 0, 0, 1, 1, 1, 1, 1, 0, 1, 1, 1, 1] B3 J113
def J11f := Zt [1, 1, 1, 1, 1, 1, 1, 0, 1, 0, 0, 0, 0] B3 [5, 6, 7] J111
def J11g := Zs [1, 1, 1, 1, 1, 1, 1, 0, 1, 0, 0, 1, 0, 0, 1] B3 J113
def J11h := Zt [1, 1, 1, 1, 1, 1, 1, 0, 1, 0, 0, 1, 0, 0, 0] B3 [0, 1] J11g
def J11i := Zs [1, 1, 1, 1, 1, 1, 1, 1, 1] B3 []
def J11j := Zt [1, 1, 1, 1, 1, 1, 1, 1, 0] B3 [0, 1] J11i
def J11k := Zs [1, 1, 1, 1, 1, 1, 1, 0, 1, 0, 0, 1, 0, 0, 1, 0, 1, 0, 0, 1] B3 J116
def J11l := Zs [1, 1, 1, 1, 1, 1, 1, 0, 1, 0, 0, 1, 0, 0, 1, 0, 1, 0, 0, 0, 1] B3 J11k
def J11m := Zs [1, 1, 1, 1, 1, 1, 1, 0, 1, 0, 0, 1, 0, 0, 1, 0, 1, 0, 0, 1, 0, 0, 1] B3 J119
def J11n := Zt [1, 1, 1, 1, 1, 1, 1, 0, 1, 0, 0, 1, 0, 0, 1, 0, 1, 0, 0, 1, 0, 0, 0] B3 [2, 3] J11m
def J11o := Zt [1, 1, 1, 1, 1, 1, 1, 0, 1, 0, 0, 1, 0, 0, 1, 0, 1, 0, 0, 1, 0, 0, 1, 0] B3 [2, 3, 4] J119
def Qsm := sub [1, 1, 1, 1, 1, 1, 1, 0, 1, 0, 0, 1, 0, 0, 1, 1, 0, 0] B3
def J11p := Zr Qsm [1, 2, 3, 4, 5, 6, 7, 8, 9, 10, 11, 12, 13, 14, 15, 16, 17, 18, 19, 20] J11b
def J11q := Zr Qsm [3, 4, 5, 6, 7, 8, 9, 10, 11, 12, 13, 14, 15, 16, 17, 18, 19, 20] J11b
def J11r := Zr Qsm [6, 7, 8, 9, 10, 11, 12, 13, 14, 15, 16, 17, 18, 19, 20] J11b
def J11s := Zr Qsm [7, 8, 9, 10, 11, 12, 13, 14, 15, 16, 17, 18, 19, 20] J11b
def J11t := Zr Qsm [14, 15, 16, 17, 18, 19, 20] J11b
def J11u := Zr Qsm [15, 16, 17, 18, 19, 20] J11b
def J11v := Zr Qsm [18, 19, 20] J11b
def J11w := Zr Qsm [20] J11b
def J11x := Zs [1, 1, 1, 1, 1, 1, 1, 0, 1, 0, 0, 1, 0, 0, 1, 1, 0, 1, 0, 1] B3 J11a
def Qso := sub [1, 1, 1, 1, 1, 1, 1, 0, 1, 0, 0, 1, 0, 0, 1, 1, 1, 0, 0] B3
def J11y := Zr Qso [5, 6, 7, 8, 9] J11d
def J11z := Zr Qso [7, 8, 9] J11d
def Qsp := sub [1, 1, 1, 1, 1, 1, 1, 0, 1, 0, 0, 1, 0, 0, 1, 1, 1, 0, 1, 0, 1] B3
def J120 := Zc Qsp J11c
def J121 := Zt [1, 1, 1, 1, 1, 1, 1, 0, 1, 0, 0, 1, 0, 0, 1, 1, 1, 0, 1, 0, 0] B3 [1] J120
def J122 := Zr Qsp [1, 2] J11c
def J123 := Zs [1, 1, 1, 1, 1, 1, 1, 0, 1, 0, 0, 1, 0, 0, 1, 1, 1, 1, 1] B3 J113
def J124 := Zs [1, 1, 1, 1, 1, 1, 1, 0, 1, 0, 0, 1, 0, 0, 1, 1, 1, 1, 1, 0, 1] B3 J113
def J125 := Zt [1, 1, 1, 1, 1, 1, 1, 0, 1, 0, 0, 1, 0, 0, 1, 1, 1, 1, 1, 0, 0] B3 [1, 2] J124
def J126 := Zs [1, 1, 1, 1, 1, 1, 1, 0, 1, 0, 0, 1, 0, 0, 1, 1, 1, 1, 1, 0, 1, 1] B3 J113
def J127 := Zt [1, 1, 1, 1, 1, 1, 1, 0, 1, 0, 0, 1, 0, 0, 1, 1, 1, 1, 1, 0, 1, 0] B3 [3, 4, 5, 6] J126
def J128 := Zs [1, 1, 1, 1, 1, 1, 1, 0, 1, 0, 0, 1, 0, 0, 1, 1, 1, 1, 1, 0, 1, 1, 1] B3 J113
def J129 := Zt [1, 1, 1, 1, 1, 1, 1, 0, 1, 0, 0, 1, 0, 0, 1, 1, 1, 1, 1, 0, 1, 1, 0] B3 [4, 5, 6, 7] J128
def Qsy := sub [1, 1, 1, 1, 1, 1, 1, 0, 1, 0, 0, 1, 0, 0, 1, 1, 1, 1, 1, 0, 1, 1, 1, 0] B3
def J12a := Zr Qsy [2, 3, 4, 5, 6, 7, 8, 9] J11e
def J12b := Zr Qsy [5, 6, 7, 8, 9] J11e
def J12c := Zr Qsy [7, 8, 9] J11e
def J12d := Zs [1, 1, 1, 1, 1, 1, 1, 0, 1, 0, 0, 1, 0, 0, 1, 1, 1, 1, 1, 0, 1, 1, 1, 1, 0, 1] B3 J113

def Post.z5g (r : Bool) (v : Value) (w' : World) : Prop :=
 ∃ S', v = .bool r ∧ Ext S0 w0 S' w' ∧ Hp nz wz S' w' (Lr)

def L.z5h : (List T45) × (List Int) × (List Bool) × T50 × (List Bool) × Int → Bool → Prop := fun ⟨x0, x1, x2, x7v, x11, x12⟩ r => ∀ S1 w1, Ext S0 w0 S1 w1 → ∀ Ax0 nx0 cx0 Ax1 nx1 cx1 Ax2 nx2 cx2 gx7 u13v u13w u13x u13y u13z u140 u141 u142 u143 u144 u145 u146 u147 u148 u149 u14a u14b u14c u14d u14e u14f u14g u14h u14i u14j u14k u14l (_ : Hp nz wz S1 w1 ((some gx7, .row 51 [.slice (Gp u13v) u13w u13x, (pt u13z 0), (pt u148 0)] 3 0) :: (u13v, .row 46 u13y (u13x * kT45.size) 0) :: (some u13z, .row 66 [.slice (Gp u140) u141 u142, .slice (Gp u144) u145 u146] 2 0) :: (u140, .row 3 u143 (u142 * (kInt .i64).size) 0) :: (u144, .row 49 u147 (u146 * (kInt .i64).size) 0) :: (some u148, .row 66 [.slice (Gp u149) u14a u14b, .slice (Gp u14d) u14e u14f] 2 0) :: (u149, .row 3 u14c (u14b * (kInt .i64).size) 0) :: (u14d, .row 49 u14g (u14f * (kInt .i64).size) 0) :: (u14h, .row 4 u14k (u14j * kBool.size) u14l) :: Lr)) (_ : Rd kT45 S1 w1 Ax0 cx0 x0) (_ : x0.length = nx0) (_ : Rd (kInt .u8) S1 w1 Ax1 cx1 x1) (_ : x1.length = nx1) (_ : Rd kBool S1 w1 Ax2 cx2 x2) (_ : x2.length = nx2) (_ : Els kT45 S1 w1 u13y x7v.l) (_ : x7v.l.length = u13w) (_ : Els (kInt .i64) S1 w1 u143 x7v.now.place) (_ : x7v.now.place.length = u141) (_ : Els (kInt .i64) S1 w1 u147 x7v.now.list) (_ : x7v.now.list.length = u145) (_ : Els (kInt .i64) S1 w1 u14c x7v.next.place) (_ : x7v.next.place.length = u14a) (_ : Els (kInt .i64) S1 w1 u14g x7v.next.list) (_ : x7v.next.list.length = u14e) (_ : Els kBool S1 w1 u14k x11) (_ : x11.length = u14i) (junk : Nat → Value),
 Goes Tryz.prog (base 3) J10z ⟨lfr 137 [(0, .slice Ax0 nx0 cx0), (1, .slice Ax1 nx1 cx1), (2, .slice Ax2 nx2 cx2), (7, (pt gx7 0)), (11, .slice (Gp u14h) u14i u14j), (12, .i x12)] junk, []⟩ w1 (Done Tryz.prog 3 (Rets (Post.z5g nz wz S0 w0 Lr r)))

def L.z5i : (List T45) × (List Int) × (List Bool) × T50 × (List Bool) × Int × Bool → Bool → Prop := fun ⟨x0, x1, x2, x7v, x11, x12, x54⟩ r => ∀ S1 w1, Ext S0 w0 S1 w1 → ∀ Ax0 nx0 cx0 Ax1 nx1 cx1 Ax2 nx2 cx2 gx7 u13v u13w u13x u13y u13z u140 u141 u142 u143 u144 u145 u146 u147 u148 u149 u14a u14b u14c u14d u14e u14f u14g u14h u14i u14j u14k u14l (_ : Hp nz wz S1 w1 ((some gx7, .row 51 [.slice (Gp u13v) u13w u13x, (pt u13z 0), (pt u148 0)] 3 0) :: (u13v, .row 46 u13y (u13x * kT45.size) 0) :: (some u13z, .row 66 [.slice (Gp u140) u141 u142, .slice (Gp u144) u145 u146] 2 0) :: (u140, .row 3 u143 (u142 * (kInt .i64).size) 0) :: (u144, .row 49 u147 (u146 * (kInt .i64).size) 0) :: (some u148, .row 66 [.slice (Gp u149) u14a u14b, .slice (Gp u14d) u14e u14f] 2 0) :: (u149, .row 3 u14c (u14b * (kInt .i64).size) 0) :: (u14d, .row 49 u14g (u14f * (kInt .i64).size) 0) :: (u14h, .row 4 u14k (u14j * kBool.size) u14l) :: Lr)) (_ : Rd kT45 S1 w1 Ax0 cx0 x0) (_ : x0.length = nx0) (_ : Rd (kInt .u8) S1 w1 Ax1 cx1 x1) (_ : x1.length = nx1) (_ : Rd kBool S1 w1 Ax2 cx2 x2) (_ : x2.length = nx2) (_ : Els kT45 S1 w1 u13y x7v.l) (_ : x7v.l.length = u13w) (_ : Els (kInt .i64) S1 w1 u143 x7v.now.place) (_ : x7v.now.place.length = u141) (_ : Els (kInt .i64) S1 w1 u147 x7v.now.list) (_ : x7v.now.list.length = u145) (_ : Els (kInt .i64) S1 w1 u14c x7v.next.place) (_ : x7v.next.place.length = u14a) (_ : Els (kInt .i64) S1 w1 u14g x7v.next.list) (_ : x7v.next.list.length = u14e) (_ : Els kBool S1 w1 u14k x11) (_ : x11.length = u14i) (junk : Nat → Value),
 Goes Tryz.prog (base 3) J111 ⟨lfr 137 [(0, .slice Ax0 nx0 cx0), (1, .slice Ax1 nx1 cx1), (2, .slice Ax2 nx2 cx2), (7, (pt gx7 0)), (11, .slice (Gp u14h) u14i u14j), (12, .i x12), (54, .bool x54)] junk, []⟩ w1 (Done Tryz.prog 3 (Rets (Post.z5g nz wz S0 w0 Lr r)))

def L.z5j : (List T45) × (List Int) × (List Bool) × T50 × (List Bool) × Int × (List Int) × Int → Bool → Prop := fun ⟨x0, x1, x2, x7v, x11, x12, x13, x14⟩ r => ∀ S1 w1, Ext S0 w0 S1 w1 → ∀ Ax0 nx0 cx0 Ax1 nx1 cx1 Ax2 nx2 cx2 gx7 u13v u13w u13x u13y u13z u140 u141 u142 u143 u144 u145 u146 u147 u148 u149 u14a u14b u14c u14d u14e u14f u14g u14h u14i u14j u14k u14l u14m u5 u6 u14n (_ : Hp nz wz S1 w1 ((some gx7, .row 51 [.slice (Gp u13v) u13w u13x, (pt u13z 0), (pt u148 0)] 3 0) :: (u13v, .row 46 u13y (u13x * kT45.size) 0) :: (some u13z, .row 66 [.slice (Gp u140) u141 u142, .slice (Gp u144) u145 u146] 2 0) :: (u140, .row 3 u143 (u142 * (kInt .i64).size) 0) :: (u144, .row 49 u147 (u146 * (kInt .i64).size) 0) :: (some u148, .row 66 [.slice (Gp u149) u14a u14b, .slice (Gp u14d) u14e u14f] 2 0) :: (u149, .row 3 u14c (u14b * (kInt .i64).size) 0) :: (u14d, .row 49 u14g (u14f * (kInt .i64).size) 0) :: (u14h, .row 4 u14k (u14j * kBool.size) u14l) :: (u14m, .row 3 u14n (u6 * (kInt .i64).size) 0) :: Lr)) (_ : Rd kT45 S1 w1 Ax0 cx0 x0) (_ : x0.length = nx0) (_ : Rd (kInt .u8) S1 w1 Ax1 cx1 x1) (_ : x1.length = nx1) (_ : Rd kBool S1 w1 Ax2 cx2 x2) (_ : x2.length = nx2) (_ : Els kT45 S1 w1 u13y x7v.l) (_ : x7v.l.length = u13w) (_ : Els (kInt .i64) S1 w1 u143 x7v.now.place) (_ : x7v.now.place.length = u141) (_ : Els (kInt .i64) S1 w1 u147 x7v.now.list) (_ : x7v.now.list.length = u145) (_ : Els (kInt .i64) S1 w1 u14c x7v.next.place) (_ : x7v.next.place.length = u14a) (_ : Els (kInt .i64) S1 w1 u14g x7v.next.list) (_ : x7v.next.list.length = u14e) (_ : Els kBool S1 w1 u14k x11) (_ : x11.length = u14i) (_ : Els (kInt .i64) S1 w1 u14n x13) (_ : x13.length = u5) (junk : Nat → Value),
 Goes Tryz.prog (base 3) J117 ⟨lfr 137 [(0, .slice Ax0 nx0 cx0), (1, .slice Ax1 nx1 cx1), (2, .slice Ax2 nx2 cx2), (7, (pt gx7 0)), (11, .slice (Gp u14h) u14i u14j), (12, .i x12), (13, .slice (Gp u14m) u5 u6), (14, .i x14)] junk, []⟩ w1 (Done Tryz.prog 3 (Rets (Post.z5g nz wz S0 w0 Lr r)))

def L.z5k : (List T45) × (List Int) × (List Bool) × T50 × (List Bool) × Int × (List Int) × Int → Bool → Prop := fun ⟨x0, x1, x2, x7v, x11, x12, x13, x14⟩ r => ∀ S1 w1, Ext S0 w0 S1 w1 → ∀ Ax0 nx0 cx0 Ax1 nx1 cx1 Ax2 nx2 cx2 gx7 u13v u13w u13x u13y u13z u140 u141 u142 u143 u144 u145 u146 u147 u148 u149 u14a u14b u14c u14d u14e u14f u14g u14h u14i u14j u14k u14l u14m u5 u6 u14n (_ : Hp nz wz S1 w1 ((some gx7, .row 51 [.slice (Gp u13v) u13w u13x, (pt u13z 0), (pt u148 0)] 3 0) :: (u13v, .row 46 u13y (u13x * kT45.size) 0) :: (some u13z, .row 66 [.slice (Gp u140) u141 u142, .slice (Gp u144) u145 u146] 2 0) :: (u140, .row 3 u143 (u142 * (kInt .i64).size) 0) :: (u144, .row 49 u147 (u146 * (kInt .i64).size) 0) :: (some u148, .row 66 [.slice (Gp u149) u14a u14b, .slice (Gp u14d) u14e u14f] 2 0) :: (u149, .row 3 u14c (u14b * (kInt .i64).size) 0) :: (u14d, .row 49 u14g (u14f * (kInt .i64).size) 0) :: (u14h, .row 4 u14k (u14j * kBool.size) u14l) :: (u14m, .row 3 u14n (u6 * (kInt .i64).size) 0) :: Lr)) (_ : Rd kT45 S1 w1 Ax0 cx0 x0) (_ : x0.length = nx0) (_ : Rd (kInt .u8) S1 w1 Ax1 cx1 x1) (_ : x1.length = nx1) (_ : Rd kBool S1 w1 Ax2 cx2 x2) (_ : x2.length = nx2) (_ : Els kT45 S1 w1 u13y x7v.l) (_ : x7v.l.length = u13w) (_ : Els (kInt .i64) S1 w1 u143 x7v.now.place) (_ : x7v.now.place.length = u141) (_ : Els (kInt .i64) S1 w1 u147 x7v.now.list) (_ : x7v.now.list.length = u145) (_ : Els (kInt .i64) S1 w1 u14c x7v.next.place) (_ : x7v.next.place.length = u14a) (_ : Els (kInt .i64) S1 w1 u14g x7v.next.list) (_ : x7v.next.list.length = u14e) (_ : Els kBool S1 w1 u14k x11) (_ : x11.length = u14i) (_ : Els (kInt .i64) S1 w1 u14n x13) (_ : x13.length = u5) (junk : Nat → Value),
 Goes Tryz.prog (base 3) J119 ⟨lfr 137 [(0, .slice Ax0 nx0 cx0), (1, .slice Ax1 nx1 cx1), (2, .slice Ax2 nx2 cx2), (7, (pt gx7 0)), (11, .slice (Gp u14h) u14i u14j), (12, .i x12), (13, .slice (Gp u14m) u5 u6), (14, .i x14)] junk, []⟩ w1 (Done Tryz.prog 3 (Rets (Post.z5g nz wz S0 w0 Lr r)))

def L.z5l : (List T45) × (List Int) × (List Bool) × T50 × (List Bool) × Int × Bool → Bool → Prop := fun ⟨x0, x1, x2, x7v, x11, x12, x92⟩ r => ∀ S1 w1, Ext S0 w0 S1 w1 → ∀ Ax0 nx0 cx0 Ax1 nx1 cx1 Ax2 nx2 cx2 gx7 u13v u13w u13x u13y u13z u140 u141 u142 u143 u144 u145 u146 u147 u148 u149 u14a u14b u14c u14d u14e u14f u14g u14h u14i u14j u14k u14l (_ : Hp nz wz S1 w1 ((some gx7, .row 51 [.slice (Gp u13v) u13w u13x, (pt u13z 0), (pt u148 0)] 3 0) :: (u13v, .row 46 u13y (u13x * kT45.size) 0) :: (some u13z, .row 66 [.slice (Gp u140) u141 u142, .slice (Gp u144) u145 u146] 2 0) :: (u140, .row 3 u143 (u142 * (kInt .i64).size) 0) :: (u144, .row 49 u147 (u146 * (kInt .i64).size) 0) :: (some u148, .row 66 [.slice (Gp u149) u14a u14b, .slice (Gp u14d) u14e u14f] 2 0) :: (u149, .row 3 u14c (u14b * (kInt .i64).size) 0) :: (u14d, .row 49 u14g (u14f * (kInt .i64).size) 0) :: (u14h, .row 4 u14k (u14j * kBool.size) u14l) :: Lr)) (_ : Rd kT45 S1 w1 Ax0 cx0 x0) (_ : x0.length = nx0) (_ : Rd (kInt .u8) S1 w1 Ax1 cx1 x1) (_ : x1.length = nx1) (_ : Rd kBool S1 w1 Ax2 cx2 x2) (_ : x2.length = nx2) (_ : Els kT45 S1 w1 u13y x7v.l) (_ : x7v.l.length = u13w) (_ : Els (kInt .i64) S1 w1 u143 x7v.now.place) (_ : x7v.now.place.length = u141) (_ : Els (kInt .i64) S1 w1 u147 x7v.now.list) (_ : x7v.now.list.length = u145) (_ : Els (kInt .i64) S1 w1 u14c x7v.next.place) (_ : x7v.next.place.length = u14a) (_ : Els (kInt .i64) S1 w1 u14g x7v.next.list) (_ : x7v.next.list.length = u14e) (_ : Els kBool S1 w1 u14k x11) (_ : x11.length = u14i) (junk : Nat → Value),
 Goes Tryz.prog (base 3) J11b ⟨lfr 137 [(0, .slice Ax0 nx0 cx0), (1, .slice Ax1 nx1 cx1), (2, .slice Ax2 nx2 cx2), (7, (pt gx7 0)), (11, .slice (Gp u14h) u14i u14j), (12, .i x12), (92, .bool x92)] junk, []⟩ w1 (Done Tryz.prog 3 (Rets (Post.z5g nz wz S0 w0 Lr r)))

def L.z5m : (List T45) × (List Int) × (List Bool) × T50 × (List Bool) × Int × Bool → Bool → Prop := fun ⟨x0, x1, x2, x7v, x11, x12, u14o⟩ r => ∀ S1 w1, Ext S0 w0 S1 w1 → ∀ Ax0 nx0 cx0 Ax1 nx1 cx1 Ax2 nx2 cx2 gx7 u13v u13w u13x u13y u13z u140 u141 u142 u143 u144 u145 u146 u147 u148 u149 u14a u14b u14c u14d u14e u14f u14g u14h u14i u14j u14k u14l (_ : Hp nz wz S1 w1 ((some gx7, .row 51 [.slice (Gp u13v) u13w u13x, (pt u13z 0), (pt u148 0)] 3 0) :: (u13v, .row 46 u13y (u13x * kT45.size) 0) :: (some u13z, .row 66 [.slice (Gp u140) u141 u142, .slice (Gp u144) u145 u146] 2 0) :: (u140, .row 3 u143 (u142 * (kInt .i64).size) 0) :: (u144, .row 49 u147 (u146 * (kInt .i64).size) 0) :: (some u148, .row 66 [.slice (Gp u149) u14a u14b, .slice (Gp u14d) u14e u14f] 2 0) :: (u149, .row 3 u14c (u14b * (kInt .i64).size) 0) :: (u14d, .row 49 u14g (u14f * (kInt .i64).size) 0) :: (u14h, .row 4 u14k (u14j * kBool.size) u14l) :: Lr)) (_ : Rd kT45 S1 w1 Ax0 cx0 x0) (_ : x0.length = nx0) (_ : Rd (kInt .u8) S1 w1 Ax1 cx1 x1) (_ : x1.length = nx1) (_ : Rd kBool S1 w1 Ax2 cx2 x2) (_ : x2.length = nx2) (_ : Els kT45 S1 w1 u13y x7v.l) (_ : x7v.l.length = u13w) (_ : Els (kInt .i64) S1 w1 u143 x7v.now.place) (_ : x7v.now.place.length = u141) (_ : Els (kInt .i64) S1 w1 u147 x7v.now.list) (_ : x7v.now.list.length = u145) (_ : Els (kInt .i64) S1 w1 u14c x7v.next.place) (_ : x7v.next.place.length = u14a) (_ : Els (kInt .i64) S1 w1 u14g x7v.next.list) (_ : x7v.next.list.length = u14e) (_ : Els kBool S1 w1 u14k x11) (_ : x11.length = u14i) (junk : Nat → Value),
 Goes Tryz.prog (base 3) J11d ⟨lfr 137 [(0, .slice Ax0 nx0 cx0), (1, .slice Ax1 nx1 cx1), (2, .slice Ax2 nx2 cx2), (7, (pt gx7 0)), (11, .slice (Gp u14h) u14i u14j), (12, .i x12), (102, .bool u14o)] junk, []⟩ w1 (Done Tryz.prog 3 (Rets (Post.z5g nz wz S0 w0 Lr r)))

def L.z5n : (List T45) × (List Int) × (List Bool) × T50 × (List Bool) × Int → Bool → Prop := fun ⟨x0, x1, x2, x7v, x11, x12⟩ r => ∀ S1 w1, Ext S0 w0 S1 w1 → ∀ Ax0 nx0 cx0 Ax1 nx1 cx1 Ax2 nx2 cx2 gx7 u13v u13w u13x u13y u13z u140 u141 u142 u143 u144 u145 u146 u147 u148 u149 u14a u14b u14c u14d u14e u14f u14g u14h u14i u14j u14k u14l (_ : Hp nz wz S1 w1 ((some gx7, .row 51 [.slice (Gp u13v) u13w u13x, (pt u13z 0), (pt u148 0)] 3 0) :: (u13v, .row 46 u13y (u13x * kT45.size) 0) :: (some u13z, .row 66 [.slice (Gp u140) u141 u142, .slice (Gp u144) u145 u146] 2 0) :: (u140, .row 3 u143 (u142 * (kInt .i64).size) 0) :: (u144, .row 49 u147 (u146 * (kInt .i64).size) 0) :: (some u148, .row 66 [.slice (Gp u149) u14a u14b, .slice (Gp u14d) u14e u14f] 2 0) :: (u149, .row 3 u14c (u14b * (kInt .i64).size) 0) :: (u14d, .row 49 u14g (u14f * (kInt .i64).size) 0) :: (u14h, .row 4 u14k (u14j * kBool.size) u14l) :: Lr)) (_ : Rd kT45 S1 w1 Ax0 cx0 x0) (_ : x0.length = nx0) (_ : Rd (kInt .u8) S1 w1 Ax1 cx1 x1) (_ : x1.length = nx1) (_ : Rd kBool S1 w1 Ax2 cx2 x2) (_ : x2.length = nx2) (_ : Els kT45 S1 w1 u13y x7v.l) (_ : x7v.l.length = u13w) (_ : Els (kInt .i64) S1 w1 u143 x7v.now.place) (_ : x7v.now.place.length = u141) (_ : Els (kInt .i64) S1 w1 u147 x7v.now.list) (_ : x7v.now.list.length = u145) (_ : Els (kInt .i64) S1 w1 u14c x7v.next.place) (_ : x7v.next.place.length = u14a) (_ : Els (kInt .i64) S1 w1 u14g x7v.next.list) (_ : x7v.next.list.length = u14e) (_ : Els kBool S1 w1 u14k x11) (_ : x11.length = u14i) (junk : Nat → Value),
 Goes Tryz.prog (base 3) J11c ⟨lfr 137 [(0, .slice Ax0 nx0 cx0), (1, .slice Ax1 nx1 cx1), (2, .slice Ax2 nx2 cx2), (7, (pt gx7 0)), (11, .slice (Gp u14h) u14i u14j), (12, .i x12)] junk, []⟩ w1 (Done Tryz.prog 3 (Rets (Post.z5g nz wz S0 w0 Lr r)))

def L.z5o : (List T45) × (List Int) × (List Bool) × T50 × (List Bool) × Int × Bool → Bool → Prop := fun ⟨x0, x1, x2, x7v, x11, x12, u14p⟩ r => ∀ S1 w1, Ext S0 w0 S1 w1 → ∀ Ax0 nx0 cx0 Ax1 nx1 cx1 Ax2 nx2 cx2 gx7 u13v u13w u13x u13y u13z u140 u141 u142 u143 u144 u145 u146 u147 u148 u149 u14a u14b u14c u14d u14e u14f u14g u14h u14i u14j u14k (_ : Hp nz wz S1 w1 ((some gx7, .row 51 [.slice (Gp u13v) u13w u13x, (pt u13z 0), (pt u148 0)] 3 0) :: (u13v, .row 46 u13y (u13x * kT45.size) 0) :: (some u13z, .row 66 [.slice (Gp u140) u141 u142, .slice (Gp u144) u145 u146] 2 0) :: (u140, .row 3 u143 (u142 * (kInt .i64).size) 0) :: (u144, .row 49 u147 (u146 * (kInt .i64).size) 0) :: (some u148, .row 66 [.slice (Gp u149) u14a u14b, .slice (Gp u14d) u14e u14f] 2 0) :: (u149, .row 3 u14c (u14b * (kInt .i64).size) 0) :: (u14d, .row 49 u14g (u14f * (kInt .i64).size) 0) :: (u14h, .row 4 u14k (u14j * kBool.size) 0) :: Lr)) (_ : Rd kT45 S1 w1 Ax0 cx0 x0) (_ : x0.length = nx0) (_ : Rd (kInt .u8) S1 w1 Ax1 cx1 x1) (_ : x1.length = nx1) (_ : Rd kBool S1 w1 Ax2 cx2 x2) (_ : x2.length = nx2) (_ : Els kT45 S1 w1 u13y x7v.l) (_ : x7v.l.length = u13w) (_ : Els (kInt .i64) S1 w1 u143 x7v.now.place) (_ : x7v.now.place.length = u141) (_ : Els (kInt .i64) S1 w1 u147 x7v.now.list) (_ : x7v.now.list.length = u145) (_ : Els (kInt .i64) S1 w1 u14c x7v.next.place) (_ : x7v.next.place.length = u14a) (_ : Els (kInt .i64) S1 w1 u14g x7v.next.list) (_ : x7v.next.list.length = u14e) (_ : Els kBool S1 w1 u14k x11) (_ : x11.length = u14i) (junk : Nat → Value),
 Goes Tryz.prog (base 3) J11e ⟨lfr 137 [(0, .slice Ax0 nx0 cx0), (1, .slice Ax1 nx1 cx1), (2, .slice Ax2 nx2 cx2), (7, (pt gx7 0)), (11, .slice (Gp u14h) u14i u14j), (12, .i x12), (135, .bool u14p)] junk, []⟩ w1 (Done Tryz.prog 3 (Rets (Post.z5g nz wz S0 w0 Lr r)))

def L.z5p : (List T45) × (List Int) × (List Bool) × T50 × (List Bool) × Int → Bool → Prop := fun ⟨x0, x1, x2, x7v, x11, x12⟩ r => ∀ S1 w1, Ext S0 w0 S1 w1 → ∀ Ax0 nx0 cx0 Ax1 nx1 cx1 Ax2 nx2 cx2 gx7 u13v u13w u13x u13y u13z u140 u141 u142 u143 u144 u145 u146 u147 u148 u149 u14a u14b u14c u14d u14e u14f u14g u14h u14i u14j u14k u14l (_ : Hp nz wz S1 w1 ((some gx7, .row 51 [.slice (Gp u13v) u13w u13x, (pt u13z 0), (pt u148 0)] 3 0) :: (u13v, .row 46 u13y (u13x * kT45.size) 0) :: (some u13z, .row 66 [.slice (Gp u140) u141 u142, .slice (Gp u144) u145 u146] 2 0) :: (u140, .row 3 u143 (u142 * (kInt .i64).size) 0) :: (u144, .row 49 u147 (u146 * (kInt .i64).size) 0) :: (some u148, .row 66 [.slice (Gp u149) u14a u14b, .slice (Gp u14d) u14e u14f] 2 0) :: (u149, .row 3 u14c (u14b * (kInt .i64).size) 0) :: (u14d, .row 49 u14g (u14f * (kInt .i64).size) 0) :: (u14h, .row 4 u14k (u14j * kBool.size) u14l) :: Lr)) (_ : Rd kT45 S1 w1 Ax0 cx0 x0) (_ : x0.length = nx0) (_ : Rd (kInt .u8) S1 w1 Ax1 cx1 x1) (_ : x1.length = nx1) (_ : Rd kBool S1 w1 Ax2 cx2 x2) (_ : x2.length = nx2) (_ : Els kT45 S1 w1 u13y x7v.l) (_ : x7v.l.length = u13w) (_ : Els (kInt .i64) S1 w1 u143 x7v.now.place) (_ : x7v.now.place.length = u141) (_ : Els (kInt .i64) S1 w1 u147 x7v.now.list) (_ : x7v.now.list.length = u145) (_ : Els (kInt .i64) S1 w1 u14c x7v.next.place) (_ : x7v.next.place.length = u14a) (_ : Els (kInt .i64) S1 w1 u14g x7v.next.list) (_ : x7v.next.list.length = u14e) (_ : Els kBool S1 w1 u14k x11) (_ : x11.length = u14i) (junk : Nat → Value),
 Goes Tryz.prog (base 3) J113 ⟨lfr 137 [(0, .slice Ax0 nx0 cx0), (1, .slice Ax1 nx1 cx1), (2, .slice Ax2 nx2 cx2), (7, (pt gx7 0)), (11, .slice (Gp u14h) u14i u14j), (12, .i x12)] junk, []⟩ w1 (Done Tryz.prog 3 (Rets (Post.z5g nz wz S0 w0 Lr r)))

theorem W.z5q {nz wz S0 w0 Lr} : (∀ a r, M.tidepolelaw12_SimFeeds_l3 a = some r → (L.z5h nz wz S0 w0 Lr) a r) ∧ (∀ a r, M.tidepolelaw12_SimFeeds_l5 a = some r → (L.z5i nz wz S0 w0 Lr) a r) ∧ (∀ a r, M.tidepolelaw12_SimFeeds_l7 a = some r → (L.z5j nz wz S0 w0 Lr) a r) ∧ (∀ a r, M.tidepolelaw12_SimFeeds_l10 a = some r → (L.z5l nz wz S0 w0 Lr) a r) ∧ (∀ a r, M.tidepolelaw12_SimFeeds_l13 a = some r → (L.z5m nz wz S0 w0 Lr) a r) ∧ (∀ a r, M.tidepolelaw12_SimFeeds_l15 a = some r → (L.z5n nz wz S0 w0 Lr) a r) ∧ (∀ a r, M.tidepolelaw12_SimFeeds_l18 a = some r → (L.z5p nz wz S0 w0 Lr) a r) ∧ (∀ a r, M.tidepolelaw12_SimFeeds_l17 a = some r → (L.z5o nz wz S0 w0 Lr) a r) ∧ (∀ a r, M.tidepolelaw12_SimFeeds_l9 a = some r → (L.z5k nz wz S0 w0 Lr) a r) := by
 refine M.tidepolelaw12_SimFeeds_l3.mutual_partial_correctness (L.z5h nz wz S0 w0 Lr) (L.z5i nz wz S0 w0 Lr) (L.z5j nz wz S0 w0 Lr) (L.z5l nz wz S0 w0 Lr) (L.z5m nz wz S0 w0 Lr) (L.z5n nz wz S0 w0 Lr) (L.z5p nz wz S0 w0 Lr) (L.z5o nz wz S0 w0 Lr) (L.z5k nz wz S0 w0 Lr) ?_ ?_ ?_ ?_ ?_ ?_ ?_ ?_ ?_
 ·
  intro u14q u14r ⟨x0, x1, x2, x7v, x11, x12⟩ r h S1 w1 hx Ax0 nx0 cx0 Ax1 nx1 cx1 Ax2 nx2 cx2 gx7 u13v u13w u13x u13y u13z u140 u141 u142 u143 u144 u145 u146 u147 u148 u149 u14a u14b u14c u14d u14e u14f u14g u14h u14i u14j u14k u14l p1 fx0 lx0 fx1 lx1 fx2 lx2 u14s u14t u14u u14v u14w u14x u14y u14z u150 u151 u152 u153 junk
  try dsimp only at h
  subst lx0
  subst lx1
  subst lx2
  subst u14t
  subst u14v
  subst u14x
  subst u14z
  subst u151
  subst u153
  refine Gn 8 [(47, .i x12), (48, .slice Ax1 x1.length cx1), (49, .i (x1.length : Int)), (50, .bool (decide (x12 ≤ (x1.length : Int)))), (51, .bool (decide (x12 ≤ (x1.length : Int))))] J11f ?_
  refine ite_some h (fun h54 h => ?_) (fun h54 h => ?_)
  ·
   rw [decide_eq_true h54]
   refine Gn 4 [(52, .i x12), (53, .bool (decide (x12 < 40))), (54, .bool (decide (x12 < 40)))] J111 ?_
   exact Gj 137 [(0, .slice Ax0 x0.length cx0), (1, .slice Ax1 x1.length cx1), (2, .slice Ax2 x2.length cx2), (7, (pt gx7 0)), (11, .slice (Gp u14h) x11.length u14j), (12, .i x12), (54, .bool (decide (x12 < 40)))] (u14r _ _ h _ _ hx Ax0 x0.length cx0 Ax1 x1.length cx1 Ax2 x2.length cx2 gx7 u13v x7v.l.length u13x u13y u13z u140 x7v.now.place.length u142 u143 u144 x7v.now.list.length u146 u147 u148 u149 x7v.next.place.length u14b u14c u14d x7v.next.list.length u14f u14g u14h x11.length u14j u14k u14l p1 fx0 rfl fx1 rfl fx2 rfl u14s rfl u14u rfl u14w rfl u14y rfl u150 rfl u152 rfl)
  ·
   rw [decide_eq_false h54]
   refine Gn 4 [(52, undef), (53, undef), (54, .bool false)] J111 ?_
   exact Gj 137 [(0, .slice Ax0 x0.length cx0), (1, .slice Ax1 x1.length cx1), (2, .slice Ax2 x2.length cx2), (7, (pt gx7 0)), (11, .slice (Gp u14h) x11.length u14j), (12, .i x12), (54, .bool false)] (u14r _ _ h _ _ hx Ax0 x0.length cx0 Ax1 x1.length cx1 Ax2 x2.length cx2 gx7 u13v x7v.l.length u13x u13y u13z u140 x7v.now.place.length u142 u143 u144 x7v.now.list.length u146 u147 u148 u149 x7v.next.place.length u14b u14c u14d x7v.next.list.length u14f u14g u14h x11.length u14j u14k u14l p1 fx0 rfl fx1 rfl fx2 rfl u14s rfl u14u rfl u14w rfl u14y rfl u150 rfl u152 rfl)
 ·
  intro u154 u155 ⟨x0, x1, x2, x7v, x11, x12, x54⟩ r h S1 w1 hx Ax0 nx0 cx0 Ax1 nx1 cx1 Ax2 nx2 cx2 gx7 u13v u13w u13x u13y u13z u140 u141 u142 u143 u144 u145 u146 u147 u148 u149 u14a u14b u14c u14d u14e u14f u14g u14h u14i u14j u14k u14l p1 fx0 lx0 fx1 lx1 fx2 lx2 u14s u14t u14u u14v u14w u14x u14y u14z u150 u151 u152 u153 junk
  try dsimp only at h
  subst lx0
  subst lx1
  subst lx2
  subst u14t
  subst u14v
  subst u14x
  subst u14z
  subst u151
  subst u153
  refine ite_some h (fun h66 h => ?_) (fun h66 h => ?_)
  ·
   rw [h66]
   refine Gn 6 [] J11h ?_
   have f68 : Els (kInt .i64) S1 w1 ([] : List Value) ([] : List Int) := by exact Els.nil
   refine Op_.made (.buildSlice 33 0 #[]) 57 33 (fun b => .slice (Gp (some b)) 0 0) 3 ([] : List Value) p1 Goes.v (by kernel_rfl) ?_
   intro b67 w10 z10 p10
   have p10 : Hp nz wz S1 w10 (((some b67), .row 3 ([] : List Value) (0 * (kInt .i64).size) 0) :: (some gx7, .row 51 [.slice (Gp u13v) x7v.l.length u13x, (pt u13z 0), (pt u148 0)] 3 0) :: (u13v, .row 46 u13y (u13x * kT45.size) 0) :: (some u13z, .row 66 [.slice (Gp u140) x7v.now.place.length u142, .slice (Gp u144) x7v.now.list.length u146] 2 0) :: (u140, .row 3 u143 (u142 * (kInt .i64).size) 0) :: (u144, .row 49 u147 (u146 * (kInt .i64).size) 0) :: (some u148, .row 66 [.slice (Gp u149) x7v.next.place.length u14b, .slice (Gp u14d) x7v.next.list.length u14f] 2 0) :: (u149, .row 3 u14c (u14b * (kInt .i64).size) 0) :: (u14d, .row 49 u14g (u14f * (kInt .i64).size) 0) :: (u14h, .row 4 u14k (u14j * kBool.size) u14l) :: Lr) := p10
   refine Gn 9 [(13, .slice (Gp (some b67)) 0 0), (14, .i 0)] J117 ?_
   have p10 := (((((((((p10.fr 0).fr 9).fr 9).fr 9).fr 9).fr 9).fr 9).fr 9).fr 9).fr 9
   exact Gj 137 [(0, .slice Ax0 x0.length cx0), (1, .slice Ax1 x1.length cx1), (2, .slice Ax2 x2.length cx2), (7, (pt gx7 0)), (11, .slice (Gp u14h) x11.length u14j), (12, .i x12), (13, .slice (Gp (some b67)) 0 0), (14, .i 0)] (u155 _ _ h _ _ (hx.trans z10) Ax0 x0.length cx0 Ax1 x1.length cx1 Ax2 x2.length cx2 gx7 u13v x7v.l.length u13x u13y u13z u140 x7v.now.place.length u142 u143 u144 x7v.now.list.length u146 u147 u148 u149 x7v.next.place.length u14b u14c u14d x7v.next.list.length u14f u14g u14h x11.length u14j u14k u14l (some b67) 0 0 ([] : List Value) p10 (fx0.ext z10) rfl (fx1.ext z10) rfl (fx2.ext z10) rfl (u14s.ext z10) rfl (u14u.ext z10) rfl (u14w.ext z10) rfl (u14y.ext z10) rfl (u150.ext z10) rfl (u152.ext z10) rfl (f68.ext z10) rfl)
  ·
   have u156 : x54 = false := by simpa using h66
   rw [u156]
   refine Gn 4 [] J11j ?_
   refine bind_some' h fun y80 e81 h => ?_
   refine Gc (kc 6 [] #[]) 136 4 6 _ (W.z5f y80 e81  p1 ) ?_
   rintro _ w11 ⟨S11, rfl, z11, p11⟩
   have p11 := ((((((((p11.dp 0).dp 0).dp 0).dp 0).dp 0).dp 0).dp 0).dp 0).dp 0
   refine Gn 2 [(6, .bool y80)] J11i ?_
   obtain rfl := Option.some.inj h
   exact Goes.rt Tryz.f3 (.bool y80) ⟨S11, rfl, (hx.trans z11), p11⟩
 ·
  intro u157 u158 u159 u15a ⟨x0, x1, x2, x7v, x11, x12, x13, x14⟩ r h S1 w1 hx Ax0 nx0 cx0 Ax1 nx1 cx1 Ax2 nx2 cx2 gx7 u13v u13w u13x u13y u13z u140 u141 u142 u143 u144 u145 u146 u147 u148 u149 u14a u14b u14c u14d u14e u14f u14g u14h u14i u14j u14k u14l u14m u5 u6 u14n p1 fx0 lx0 fx1 lx1 fx2 lx2 u14s u14t u14u u14v u14w u14x u14y u14z u150 u151 u152 u153 u9 ua junk
  try dsimp only at h
  subst lx0
  subst lx1
  subst lx2
  subst u14t
  subst u14v
  subst u14x
  subst u14z
  subst u151
  subst u153
  subst ua
  refine Gn 8 [(58, .i x14), (59, .slice Ax0 x0.length cx0), (60, .i (x0.length : Int)), (61, .bool (decide (x14 < (x0.length : Int))))] J11l ?_
  refine ite_some h (fun h90 h => ?_) (fun h90 h => ?_)
  ·
   rw [decide_eq_true h90]
   refine Gn 8 [(64, .slice (Gp u14h) x11.length u14j), (65, .i x14)] J11n ?_
   refine guard_some' h fun g91 h => ?_
   refine guard_some' h fun g92 h => ?_
   refine Op_.ixO_n 24 (.tmp 64) (.tmp 65) 66 0 4 .i64 x14 8 x11.length u14j (gi x11 x14) rfl rfl p1 rfl u152 Goes.v (by kernel_rfl) (by kernel_rfl) (by kernel_rfl) (by kernel_rfl) (by decide) g91 g92 ?_
   rintro b93 _ rfl q95 f94
   obtain rfl := q95
   refine Goes.ld 4 (.tmp 66) 67 4 ⟨b93, (x14 : Int).toNat * kBool.size, none⟩ (.bool (gi x11 x14)) (f94 0 _ rfl) ?_
   refine Gn 1 [] J11m ?_
   refine ite_some h (fun h97 h => ?_) (fun h97 h => ?_)
   ·
    rw [h97]
    refine Gn 4 [(68, .slice (Gp u14m) x13.length u6), (69, .i x14)] J11o ?_
    have f99 : Els (kInt .i64) S1 w1 ([.i x14] : List Value) [x14] := by exact (Els.cons (K := (kInt .i64)) (vs := [.i x14]) (x := x14) rfl Els.nil)
    refine Op_.made (.buildSlice 33 1 #[(0, (.tmp 69))]) 70 33 (fun b => .slice (Gp (some b)) 1 1) 3 ([.i x14] : List Value) p1 Goes.v (by kernel_rfl) ?_
    intro b98 w14 z14 p14
    have p14 : Hp nz wz S1 w14 (((some b98), .row 3 ([.i x14] : List Value) (1 * (kInt .i64).size) 0) :: (some gx7, .row 51 [.slice (Gp u13v) x7v.l.length u13x, (pt u13z 0), (pt u148 0)] 3 0) :: (u13v, .row 46 u13y (u13x * kT45.size) 0) :: (some u13z, .row 66 [.slice (Gp u140) x7v.now.place.length u142, .slice (Gp u144) x7v.now.list.length u146] 2 0) :: (u140, .row 3 u143 (u142 * (kInt .i64).size) 0) :: (u144, .row 49 u147 (u146 * (kInt .i64).size) 0) :: (some u148, .row 66 [.slice (Gp u149) x7v.next.place.length u14b, .slice (Gp u14d) x7v.next.list.length u14f] 2 0) :: (u149, .row 3 u14c (u14b * (kInt .i64).size) 0) :: (u14d, .row 49 u14g (u14f * (kInt .i64).size) 0) :: ((some b93), .row 4 u14k (u14j * kBool.size) u14l) :: (u14m, .row 3 u14n (u6 * (kInt .i64).size) 0) :: Lr) := p14
    refine guard_some' h fun u15b h => ?_
    refine Op_.ap_n (K := (kInt .i64)) 33 (.tmp 68) (.tmp 70) 71 33 3 10 (.i 0) 8 x13.length u6 1 x13 [x14] (x13 ++ [x14]) (Gp (some b98)) 1 rfl rfl rfl p14 rfl (u9.ext z14) Goes.v (by kernel_rfl) (by kernel_rfl) (by kernel_rfl) (by kernel_rfl) rfl (by decide) (f99.ext z14) (src_own p14 (q := 0) rfl) (by have := u15b; omega) (by have := u15b; omega) ?_
    intro w15 u15c u15d u15e z15 p15 u5b
    refine Gn 2 [(13, .slice (Gp u15c) ((x13 ++ [x14]).length) u15d)] J119 ?_
    have p15 := p15.dp 0
    exact Gj 137 [(0, .slice Ax0 x0.length cx0), (1, .slice Ax1 x1.length cx1), (2, .slice Ax2 x2.length cx2), (7, (pt gx7 0)), (11, .slice (Gp (some b93)) x11.length u14j), (12, .i x12), (13, .slice (Gp u15c) ((x13 ++ [x14]).length) u15d), (14, .i x14)] (u15a _ _ h _ _ ((hx.trans z14).trans z15) Ax0 x0.length cx0 Ax1 x1.length cx1 Ax2 x2.length cx2 gx7 u13v x7v.l.length u13x u13y u13z u140 x7v.now.place.length u142 u143 u144 x7v.now.list.length u146 u147 u148 u149 x7v.next.place.length u14b u14c u14d x7v.next.list.length u14f u14g (some b93) x11.length u14j u14k u14l u15c ((x13 ++ [x14]).length) u15d u15e p15 (fx0.ext (z14.trans z15)) rfl (fx1.ext (z14.trans z15)) rfl (fx2.ext (z14.trans z15)) rfl (u14s.ext (z14.trans z15)) rfl (u14u.ext (z14.trans z15)) rfl (u14w.ext (z14.trans z15)) rfl (u14y.ext (z14.trans z15)) rfl (u150.ext (z14.trans z15)) rfl (u152.ext (z14.trans z15)) rfl u5b rfl)
   ·
    have u5f : (gi x11 x14) = false := by simpa using h97
    rw [u5f]
    refine Gn 2 [] J119 ?_
    exact Gj 137 [(0, .slice Ax0 x0.length cx0), (1, .slice Ax1 x1.length cx1), (2, .slice Ax2 x2.length cx2), (7, (pt gx7 0)), (11, .slice (Gp (some b93)) x11.length u14j), (12, .i x12), (13, .slice (Gp u14m) x13.length u6), (14, .i x14)] (u15a _ _ h _ _ hx Ax0 x0.length cx0 Ax1 x1.length cx1 Ax2 x2.length cx2 gx7 u13v x7v.l.length u13x u13y u13z u140 x7v.now.place.length u142 u143 u144 x7v.now.list.length u146 u147 u148 u149 x7v.next.place.length u14b u14c u14d x7v.next.list.length u14f u14g (some b93) x11.length u14j u14k u14l u14m x13.length u6 u14n p1 fx0 rfl fx1 rfl fx2 rfl u14s rfl u14u rfl u14w rfl u14y rfl u150 rfl u152 rfl u9 rfl)
  ·
   rw [decide_eq_false h90]
   refine Gn 6 [(72, (pt gx7 0))] J11p ?_
   refine bind_some' h fun u15f u15g h => ?_
   refine Gc (kc 9 [72] #[25]) 73 33 9 _ (W.z1a x7v u15f u15g gx7 u13v x7v.l.length u13x u13y u13z u140 x7v.now.place.length u142 u143 u144 x7v.now.list.length u146 u147 u148 u149 x7v.next.place.length u14b u14c u14d x7v.next.list.length u14f u14g p1 u14s rfl u14u rfl u14w rfl u14y rfl u150 rfl) ?_
   rintro _ w16 ⟨S16, u15h, u15i, u15j, u15k, rfl, z16, p16, uec, rfl⟩
   refine Gn 1 [(74, .slice (Gp u14m) x13.length u6)] J11q ?_
   obtain ⟨S17, z17, p17, u15l⟩ := p16.freezeRd 0 rfl uec (by decide)
   obtain ⟨S18, z18, p18, u15m⟩ := p17.freezeRd 10 rfl (u9.ext (z16.trans z17)) (by decide)
   refine bind_some' h fun u15n u15o h => ?_
   refine Gc (kc 8 [73, 74] #[33, 33]) 75 4 8 _ (W.z1c u15f x13 u15n u15o (Gp u15h) u15f.length u15j (Gp u14m) x13.length u6 p18 (u15l.ext z18) rfl u15m rfl) ?_
   rintro _ w19 ⟨S19, rfl, z19, p19⟩
   have p19 := p19.dp 0
   refine Gn 2 [(76, .bool (!u15n)), (77, .bool (!u15n))] J11r ?_
   refine ite_some h (fun u15p h => ?_) (fun u15p h => ?_)
   ·
    rw [u15p]
    refine Gn 1 [(78, (pt gx7 0))] J11s ?_
    refine bind_some' h fun u15q u15r h => ?_
    refine Gc (kc 10 [78] #[25]) 79 4 10 _ (W.z1e x7v u15q u15r gx7 u13v x7v.l.length u13x u13y u13z u140 x7v.now.place.length u142 u143 u144 x7v.now.list.length u146 u147 u148 u149 x7v.next.place.length u14b u14c u14d x7v.next.list.length u14f u14g p19 (u14s.ext (((z16.trans z17).trans z18).trans z19)) rfl (u14u.ext (((z16.trans z17).trans z18).trans z19)) rfl (u14w.ext (((z16.trans z17).trans z18).trans z19)) rfl (u14y.ext (((z16.trans z17).trans z18).trans z19)) rfl (u150.ext (((z16.trans z17).trans z18).trans z19)) rfl) ?_
    rintro _ w20 ⟨S20, rfl, z20, p20⟩
    refine Gn 6 [(80, .slice (Gp u14m) x13.length u6), (81, .i (x13.length : Int)), (82, .bool (decide ((x13.length : Int) = 0))), (83, .bool (!(u15q == (decide ((x13.length : Int) = 0))))), (84, .bool (!(u15q == (decide ((x13.length : Int) = 0))))), (85, .bool (!(u15q == (decide ((x13.length : Int) = 0)))))] J11t ?_
    refine ite_some h (fun u15s h => ?_) (fun u15s h => ?_)
    ·
     rw [u15s]
     refine Gn 1 [(86, (pt gx7 0))] J11u ?_
     refine bind_some' h fun u15t u15u h => ?_
     refine Gc (kc 11 [86] #[25]) 87 4 11 _ (W.z1j x7v u15t u15u gx7 u13v x7v.l.length u13x u13y u13z u140 x7v.now.place.length u142 u143 u144 x7v.now.list.length u146 u147 u148 u149 x7v.next.place.length u14b u14c u14d x7v.next.list.length u14f u14g p20 (u14s.ext ((((z16.trans z17).trans z18).trans z19).trans z20)) rfl (u14u.ext ((((z16.trans z17).trans z18).trans z19).trans z20)) rfl (u14w.ext ((((z16.trans z17).trans z18).trans z19).trans z20)) rfl (u14y.ext ((((z16.trans z17).trans z18).trans z19).trans z20)) rfl (u150.ext ((((z16.trans z17).trans z18).trans z19).trans z20)) rfl) ?_
     rintro _ w21 ⟨S21, rfl, z21, p21⟩
     have p21 := p21.dp 9
     refine Gn 2 [(88, .slice Ax0 x0.length cx0), (89, .slice (Gp u14h) x11.length u14j)] J11v ?_
     obtain ⟨S22, z22, p22, u15v⟩ := p21.freezeRd 8 rfl (u152.ext (((((z16.trans z17).trans z18).trans z19).trans z20).trans z21)) (by decide)
     refine bind_some' h fun u15w u15x h => ?_
     refine Gc (kc 12 [88, 89] #[22, 24]) 90 4 12 _ (W.zt x0 x11 u15w u15x Ax0 x0.length cx0 (Gp u14h) x11.length u14j p22 (fx0.ext ((((((z16.trans z17).trans z18).trans z19).trans z20).trans z21).trans z22)) rfl u15v rfl) ?_
     rintro _ w23 ⟨S23, rfl, z23, p23⟩
     refine Gn 3 [(91, .bool (!(u15t == u15w))), (92, .bool (!(u15t == u15w)))] J11b ?_
     exact Gj 137 [(0, .slice Ax0 x0.length cx0), (1, .slice Ax1 x1.length cx1), (2, .slice Ax2 x2.length cx2), (7, (pt gx7 0)), (11, .slice (Gp u14h) x11.length u14j), (12, .i x12), (92, .bool (!(u15t == u15w)))] (u159 _ _ h _ _ ((((((((hx.trans z16).trans z17).trans z18).trans z19).trans z20).trans z21).trans z22).trans z23) Ax0 x0.length cx0 Ax1 x1.length cx1 Ax2 x2.length cx2 gx7 u13v x7v.l.length u13x u13y u13z u140 x7v.now.place.length u142 u143 u144 x7v.now.list.length u146 u147 u148 u149 x7v.next.place.length u14b u14c u14d x7v.next.list.length u14f u14g u14h x11.length u14j u14k u14k.length p23 (fx0.ext (((((((z16.trans z17).trans z18).trans z19).trans z20).trans z21).trans z22).trans z23)) rfl (fx1.ext (((((((z16.trans z17).trans z18).trans z19).trans z20).trans z21).trans z22).trans z23)) rfl (fx2.ext (((((((z16.trans z17).trans z18).trans z19).trans z20).trans z21).trans z22).trans z23)) rfl (u14s.ext (((((((z16.trans z17).trans z18).trans z19).trans z20).trans z21).trans z22).trans z23)) rfl (u14u.ext (((((((z16.trans z17).trans z18).trans z19).trans z20).trans z21).trans z22).trans z23)) rfl (u14w.ext (((((((z16.trans z17).trans z18).trans z19).trans z20).trans z21).trans z22).trans z23)) rfl (u14y.ext (((((((z16.trans z17).trans z18).trans z19).trans z20).trans z21).trans z22).trans z23)) rfl (u150.ext (((((((z16.trans z17).trans z18).trans z19).trans z20).trans z21).trans z22).trans z23)) rfl (u152.ext (((((((z16.trans z17).trans z18).trans z19).trans z20).trans z21).trans z22).trans z23)) rfl)
    ·
     have u15y : (u15q == (decide ((x13.length : Int) = 0))) = false := by simpa using u15s
     rw [u15y]
     refine Gn 8 [(86, undef), (87, undef), (88, undef), (89, undef), (90, undef), (91, undef), (92, .bool true)] J11b ?_
     have p20 := p20.dp 9
     exact Gj 137 [(0, .slice Ax0 x0.length cx0), (1, .slice Ax1 x1.length cx1), (2, .slice Ax2 x2.length cx2), (7, (pt gx7 0)), (11, .slice (Gp u14h) x11.length u14j), (12, .i x12), (92, .bool true)] (u159 _ _ h _ _ (((((hx.trans z16).trans z17).trans z18).trans z19).trans z20) Ax0 x0.length cx0 Ax1 x1.length cx1 Ax2 x2.length cx2 gx7 u13v x7v.l.length u13x u13y u13z u140 x7v.now.place.length u142 u143 u144 x7v.now.list.length u146 u147 u148 u149 x7v.next.place.length u14b u14c u14d x7v.next.list.length u14f u14g u14h x11.length u14j u14k u14l p20 (fx0.ext ((((z16.trans z17).trans z18).trans z19).trans z20)) rfl (fx1.ext ((((z16.trans z17).trans z18).trans z19).trans z20)) rfl (fx2.ext ((((z16.trans z17).trans z18).trans z19).trans z20)) rfl (u14s.ext ((((z16.trans z17).trans z18).trans z19).trans z20)) rfl (u14u.ext ((((z16.trans z17).trans z18).trans z19).trans z20)) rfl (u14w.ext ((((z16.trans z17).trans z18).trans z19).trans z20)) rfl (u14y.ext ((((z16.trans z17).trans z18).trans z19).trans z20)) rfl (u150.ext ((((z16.trans z17).trans z18).trans z19).trans z20)) rfl (u152.ext ((((z16.trans z17).trans z18).trans z19).trans z20)) rfl)
   ·
    have u15z : u15n = false := by simpa using u15p
    rw [u15z]
    refine Gn 14 [(78, undef), (79, undef), (80, undef), (81, undef), (82, undef), (83, undef), (84, .bool true), (85, .bool true), (86, undef), (87, undef), (88, undef), (89, undef), (90, undef), (91, undef)] J11w ?_
    refine Gn 2 [(92, .bool true)] J11b ?_
    have p19 := p19.dp 9
    exact Gj 137 [(0, .slice Ax0 x0.length cx0), (1, .slice Ax1 x1.length cx1), (2, .slice Ax2 x2.length cx2), (7, (pt gx7 0)), (11, .slice (Gp u14h) x11.length u14j), (12, .i x12), (92, .bool true)] (u159 _ _ h _ _ ((((hx.trans z16).trans z17).trans z18).trans z19) Ax0 x0.length cx0 Ax1 x1.length cx1 Ax2 x2.length cx2 gx7 u13v x7v.l.length u13x u13y u13z u140 x7v.now.place.length u142 u143 u144 x7v.now.list.length u146 u147 u148 u149 x7v.next.place.length u14b u14c u14d x7v.next.list.length u14f u14g u14h x11.length u14j u14k u14l p19 (fx0.ext (((z16.trans z17).trans z18).trans z19)) rfl (fx1.ext (((z16.trans z17).trans z18).trans z19)) rfl (fx2.ext (((z16.trans z17).trans z18).trans z19)) rfl (u14s.ext (((z16.trans z17).trans z18).trans z19)) rfl (u14u.ext (((z16.trans z17).trans z18).trans z19)) rfl (u14w.ext (((z16.trans z17).trans z18).trans z19)) rfl (u14y.ext (((z16.trans z17).trans z18).trans z19)) rfl (u150.ext (((z16.trans z17).trans z18).trans z19)) rfl (u152.ext (((z16.trans z17).trans z18).trans z19)) rfl)
 ·
  intro u160 u161 ⟨x0, x1, x2, x7v, x11, x12, x92⟩ r h S1 w1 hx Ax0 nx0 cx0 Ax1 nx1 cx1 Ax2 nx2 cx2 gx7 u13v u13w u13x u13y u13z u140 u141 u142 u143 u144 u145 u146 u147 u148 u149 u14a u14b u14c u14d u14e u14f u14g u14h u14i u14j u14k u14l p1 fx0 lx0 fx1 lx1 fx2 lx2 u14s u14t u14u u14v u14w u14x u14y u14z u150 u151 u152 u153 junk
  try dsimp only at h
  subst lx0
  subst lx1
  subst lx2
  subst u14t
  subst u14v
  subst u14x
  subst u14z
  subst u151
  subst u153
  refine ite_some h (fun u162 h => ?_) (fun u162 h => ?_)
  ·
   rw [u162]
   refine Gn 5 [(6, .bool false)] J11x ?_
   obtain rfl := Option.some.inj h
   have p1 := ((((((((p1.dp 0).dp 0).dp 0).dp 0).dp 0).dp 0).dp 0).dp 0).dp 0
   exact Goes.rt Tryz.f3 (.bool false) ⟨S1, rfl, hx, p1⟩
  ·
   have u163 : x92 = false := by simpa using u162
   rw [u163]
   refine Gn 10 [(93, .i x12), (94, .slice Ax2 x2.length cx2), (95, .i (x2.length : Int)), (96, .bool (decide (x12 < (x2.length : Int)))), (97, .bool (decide (x12 < (x2.length : Int))))] J11y ?_
   refine ite_some h (fun u164 h => ?_) (fun u164 h => ?_)
   ·
    rw [decide_eq_true u164]
    refine Gn 2 [(98, .slice Ax2 x2.length cx2), (99, .i x12)] J11z ?_
    refine guard_some' h fun u165 h => ?_
    refine Op_.ixR_n 24 (.tmp 98) (.tmp 99) 100 0 4 .i64 x12 (gi x2 x12) rfl rfl fx2 Goes.v (by kernel_rfl) (by kernel_rfl) (by kernel_rfl) (by kernel_rfl) u165 u164 ?_
    intro u166 _ u167 u168
    obtain rfl := u168
    refine Goes.ld 4 (.tmp 100) 101 4 u166 (.bool (gi x2 x12)) (u167.cell 0 _ rfl) ?_
    refine Gn 2 [(102, .bool (gi x2 x12))] J11d ?_
    exact Gj 137 [(0, .slice Ax0 x0.length cx0), (1, .slice Ax1 x1.length cx1), (2, .slice Ax2 x2.length cx2), (7, (pt gx7 0)), (11, .slice (Gp u14h) x11.length u14j), (12, .i x12), (102, .bool (gi x2 x12))] (u161 _ _ h _ _ hx Ax0 x0.length cx0 Ax1 x1.length cx1 Ax2 x2.length cx2 gx7 u13v x7v.l.length u13x u13y u13z u140 x7v.now.place.length u142 u143 u144 x7v.now.list.length u146 u147 u148 u149 x7v.next.place.length u14b u14c u14d x7v.next.list.length u14f u14g u14h x11.length u14j u14k u14l p1 fx0 rfl fx1 rfl fx2 rfl u14s rfl u14u rfl u14w rfl u14y rfl u150 rfl u152 rfl)
   ·
    rw [decide_eq_false u164]
    refine Gn 6 [(98, undef), (99, undef), (100, undef), (101, undef), (102, .bool false)] J11d ?_
    exact Gj 137 [(0, .slice Ax0 x0.length cx0), (1, .slice Ax1 x1.length cx1), (2, .slice Ax2 x2.length cx2), (7, (pt gx7 0)), (11, .slice (Gp u14h) x11.length u14j), (12, .i x12), (102, .bool false)] (u161 _ _ h _ _ hx Ax0 x0.length cx0 Ax1 x1.length cx1 Ax2 x2.length cx2 gx7 u13v x7v.l.length u13x u13y u13z u140 x7v.now.place.length u142 u143 u144 x7v.now.list.length u146 u147 u148 u149 x7v.next.place.length u14b u14c u14d x7v.next.list.length u14f u14g u14h x11.length u14j u14k u14l p1 fx0 rfl fx1 rfl fx2 rfl u14s rfl u14u rfl u14w rfl u14y rfl u150 rfl u152 rfl)
 ·
  intro u169 u16a ⟨x0, x1, x2, x7v, x11, x12, u14o⟩ r h S1 w1 hx Ax0 nx0 cx0 Ax1 nx1 cx1 Ax2 nx2 cx2 gx7 u13v u13w u13x u13y u13z u140 u141 u142 u143 u144 u145 u146 u147 u148 u149 u14a u14b u14c u14d u14e u14f u14g u14h u14i u14j u14k u14l p1 fx0 lx0 fx1 lx1 fx2 lx2 u14s u14t u14u u14v u14w u14x u14y u14z u150 u151 u152 u153 junk
  try dsimp only at h
  subst lx0
  subst lx1
  subst lx2
  subst u14t
  subst u14v
  subst u14x
  subst u14z
  subst u151
  subst u153
  refine ite_some h (fun u16b h => ?_) (fun u16b h => ?_)
  ·
   rw [u16b]
   refine Gn 4 [(103, (pt gx7 0))] J121 ?_
   refine bind_some' h fun u16c u16d h => ?_
   refine Gc (kc 13 [103] #[25]) 104 0 13 _ (W.zd x7v u16c u16d gx7 u13v x7v.l.length u13x u13y u13z u140 x7v.now.place.length u142 u143 u144 x7v.now.list.length u146 u147 u148 u149 x7v.next.place.length u14b u14c u14d x7v.next.list.length u14f u14g p1 u14s rfl u14u rfl u14w rfl u14y rfl u150 rfl) ?_
   rintro _ w33 ⟨S33, u16e, u16f, u16g, u16h, u16i, u16j, u16k, u16l, rfl, z33, p33, u16m, rfl, u16n, rfl⟩
   have p33 := p33.dp 8
   refine Gn 3 [(105, .slice Ax0 x0.length cx0)] J122 ?_
   refine bind_some' h fun u16o u16p h => ?_
   refine Gc (kc 7 [105] #[22]) 106 24 7 _ (W.zs x0 u16o u16p Ax0 x0.length cx0 p33 (fx0.ext z33) rfl) ?_
   rintro _ w34 ⟨S34, u16q, u16r, u16s, u16t, rfl, z34, p34, uex, rfl⟩
   refine Gn 2 [(11, .slice (Gp u16q) u16o.length u16s)] J11c ?_
   have p34 := ((((((((p34.fr 0).fr 8).fr 8).fr 8).fr 8).fr 8).fr 8).fr 8).fr 8
   exact Gj 137 [(0, .slice Ax0 x0.length cx0), (1, .slice Ax1 x1.length cx1), (2, .slice Ax2 x2.length cx2), (7, (pt gx7 0)), (11, .slice (Gp u16q) u16o.length u16s), (12, .i x12)] (u16a _ _ h _ _ ((hx.trans z33).trans z34) Ax0 x0.length cx0 Ax1 x1.length cx1 Ax2 x2.length cx2 gx7 u13v x7v.l.length u13x u13y u13z u16e u16c.place.length u16g u16h u16i u16c.list.length u16k u16l u148 u149 x7v.next.place.length u14b u14c u14d x7v.next.list.length u14f u14g u16q u16o.length u16s u16t 0 p34 (fx0.ext (z33.trans z34)) rfl (fx1.ext (z33.trans z34)) rfl (fx2.ext (z33.trans z34)) rfl (u14s.ext (z33.trans z34)) rfl (u16m.ext z34) rfl (u16n.ext z34) rfl (u14y.ext (z33.trans z34)) rfl (u150.ext (z33.trans z34)) rfl uex rfl)
  ·
   have u16u : u14o = false := by simpa using u16b
   rw [u16u]
   refine Gn 2 [] J11c ?_
   exact Gj 137 [(0, .slice Ax0 x0.length cx0), (1, .slice Ax1 x1.length cx1), (2, .slice Ax2 x2.length cx2), (7, (pt gx7 0)), (11, .slice (Gp u14h) x11.length u14j), (12, .i x12)] (u16a _ _ h _ _ hx Ax0 x0.length cx0 Ax1 x1.length cx1 Ax2 x2.length cx2 gx7 u13v x7v.l.length u13x u13y u13z u140 x7v.now.place.length u142 u143 u144 x7v.now.list.length u146 u147 u148 u149 x7v.next.place.length u14b u14c u14d x7v.next.list.length u14f u14g u14h x11.length u14j u14k u14l p1 fx0 rfl fx1 rfl fx2 rfl u14s rfl u14u rfl u14w rfl u14y rfl u150 rfl u152 rfl)
 ·
  intro u16v u16w u16x u16y ⟨x0, x1, x2, x7v, x11, x12⟩ r h S1 w1 hx Ax0 nx0 cx0 Ax1 nx1 cx1 Ax2 nx2 cx2 gx7 u13v u13w u13x u13y u13z u140 u141 u142 u143 u144 u145 u146 u147 u148 u149 u14a u14b u14c u14d u14e u14f u14g u14h u14i u14j u14k u14l p1 fx0 lx0 fx1 lx1 fx2 lx2 u14s u14t u14u u14v u14w u14x u14y u14z u150 u151 u152 u153 junk
  try dsimp only at h
  subst lx0
  subst lx1
  subst lx2
  subst u14t
  subst u14v
  subst u14x
  subst u14z
  subst u151
  subst u153
  refine Gn 7 [(107, .i x12), (108, .slice Ax1 x1.length cx1), (109, .i (x1.length : Int)), (110, .bool (decide (x12 < (x1.length : Int))))] J123 ?_
  refine ite_some h (fun u16z h => ?_) (fun u16z h => ?_)
  ·
   rw [decide_eq_true u16z]
   refine Gn 4 [(111, (pt gx7 0))] J125 ?_
   refine bind_some' h fun u170 u171 h => ?_
   refine Gc (kc 10 [111] #[25]) 112 4 10 _ (W.z1e x7v u170 u171 gx7 u13v x7v.l.length u13x u13y u13z u140 x7v.now.place.length u142 u143 u144 x7v.now.list.length u146 u147 u148 u149 x7v.next.place.length u14b u14c u14d x7v.next.list.length u14f u14g p1 u14s rfl u14u rfl u14w rfl u14y rfl u150 rfl) ?_
   rintro _ w37 ⟨S37, rfl, z37, p37⟩
   refine Gn 7 [(15, .bool u170), (113, (pt gx7 0)), (114, .slice Ax1 x1.length cx1), (115, .i x12)] J127 ?_
   refine guard_some' h fun u172 h => ?_
   refine Op_.ixR_n 23 (.tmp 114) (.tmp 115) 116 0 5 .i64 x12 (gi x1 x12) rfl rfl (fx1.ext z37) Goes.v (by kernel_rfl) (by kernel_rfl) (by kernel_rfl) (by kernel_rfl) u172 u16z ?_
   intro u173 _ u174 u175
   obtain rfl := u175
   refine Goes.ld 5 (.tmp 116) 117 5 u173 (.int .u8 (gi x1 x12)) (u174.cell 0 _ rfl) ?_
   refine bind_some' h fun u176 u177 h => ?_
   refine Gc (kc 14 [113, 117] #[25, 5]) 118 4 14 _ (W.z1t x7v (gi x1 x12) u176 u177 gx7 u13v x7v.l.length u13x u13y u13z u140 x7v.now.place.length u142 u143 u144 x7v.now.list.length u146 u147 u148 u149 x7v.next.place.length u14b u14c u14d x7v.next.list.length u14f u14g p37 (u14s.ext z37) rfl (u14u.ext z37) rfl (u14w.ext z37) rfl (u14y.ext z37) rfl (u150.ext z37) rfl) ?_
   rintro _ w38 ⟨S38, u178, u179, u17a, u17b, u17c, u17d, u17e, u17f, u17g, u17h, u17i, u17j, rfl, z38, p38, u17k, rfl, u17l, rfl, u17m, rfl⟩
   refine Gn 8 [(16, .bool u176.1), (119, .slice Ax0 x0.length cx0), (120, .slice (Gp u14h) x11.length u14j), (121, .slice Ax1 x1.length cx1), (122, .i x12)] J129 ?_
   refine Op_.ixR_n 23 (.tmp 121) (.tmp 122) 123 0 5 .i64 x12 (gi x1 x12) rfl rfl (fx1.ext (z37.trans z38)) Goes.v (by kernel_rfl) (by kernel_rfl) (by kernel_rfl) (by kernel_rfl) u172 u16z ?_
   intro u17n _ u17o u17p
   obtain rfl := u17p
   refine Goes.ld 5 (.tmp 123) 124 5 u17n (.int .u8 (gi x1 x12)) (u17o.cell 0 _ rfl) ?_
   obtain ⟨S39, z39, p39, u17q⟩ := p38.freezeRd 8 rfl (u152.ext (z37.trans z38)) (by decide)
   refine bind_some' h fun u17r u17s h => ?_
   refine Gc (kc 15 [119, 120, 124] #[22, 24, 5]) 125 24 15 _ (W.zy x0 x11 (gi x1 x12) u17r u17s Ax0 x0.length cx0 (Gp u14h) x11.length u14j p39 (fx0.ext ((z37.trans z38).trans z39)) rfl u17q rfl) ?_
   rintro _ w40 ⟨S40, u17t, u17u, u17v, u17w, rfl, z40, p40, u17x, rfl⟩
   have p40 := p40.dp 9
   refine Gn 6 [(11, .slice (Gp u17t) u17r.length u17v), (126, .bool u170), (127, .bool u170)] J12a ?_
   refine ite_some h (fun u17y h => ?_) (fun u17y h => ?_)
   ·
    rw [u17y]
    refine Gn 3 [(128, .bool u176.1), (129, .bool u176.1), (130, .bool u176.1)] J12b ?_
    refine ite_some h (fun u17z h => ?_) (fun u17z h => ?_)
    ·
     rw [u17z]
     refine Gn 6 [(131, undef), (132, undef), (133, undef), (134, undef), (135, .bool true)] J11e ?_
     have p40 := ((((((((p40.fr 0).fr 5).fr 5).fr 5).fr 8).fr 8).fr 8).fr 8).fr 8
     exact Gj 137 [(0, .slice Ax0 x0.length cx0), (1, .slice Ax1 x1.length cx1), (2, .slice Ax2 x2.length cx2), (7, (pt gx7 0)), (11, .slice (Gp u17t) u17r.length u17v), (12, .i x12), (135, .bool true)] (u16y _ _ h _ _ ((((hx.trans z37).trans z38).trans z39).trans z40) Ax0 x0.length cx0 Ax1 x1.length cx1 Ax2 x2.length cx2 gx7 u178 u176.2.1.length u17a u17b u148 u17c u176.2.2.place.length u17e u17f u17g u176.2.2.list.length u17i u17j u13z u140 x7v.now.place.length u142 u143 u144 x7v.now.list.length u146 u147 u17t u17r.length u17v u17w p40 (fx0.ext (((z37.trans z38).trans z39).trans z40)) rfl (fx1.ext (((z37.trans z38).trans z39).trans z40)) rfl (fx2.ext (((z37.trans z38).trans z39).trans z40)) rfl (u17k.ext (z39.trans z40)) rfl (u17l.ext (z39.trans z40)) rfl (u17m.ext (z39.trans z40)) rfl (u14u.ext (((z37.trans z38).trans z39).trans z40)) rfl (u14w.ext (((z37.trans z38).trans z39).trans z40)) rfl u17x rfl)
    ·
     have u180 : u176.1 = false := by simpa using u17z
     rw [u180]
     refine Gn 2 [(131, .bool false), (132, (pt gx7 0))] J12c ?_
     have p40 := (((((((p40.fr 5).fr 5).fr 5).fr 8).fr 8).fr 8).fr 8).fr 8
     refine bind_some' h fun u181 u182 h => ?_
     refine Gc (kc 10 [132] #[25]) 133 4 10 _ (W.z1e (⟨u176.2.1, u176.2.2, x7v.now⟩ : T50) u181 u182 gx7 u178 u176.2.1.length u17a u17b u148 u17c u176.2.2.place.length u17e u17f u17g u176.2.2.list.length u17i u17j u13z u140 x7v.now.place.length u142 u143 u144 x7v.now.list.length u146 u147 p40 (u17k.ext (z39.trans z40)) rfl (u17l.ext (z39.trans z40)) rfl (u17m.ext (z39.trans z40)) rfl (u14u.ext (((z37.trans z38).trans z39).trans z40)) rfl (u14w.ext (((z37.trans z38).trans z39).trans z40)) rfl) ?_
     rintro _ w41 ⟨S41, rfl, z41, p41⟩
     refine Gn 3 [(134, .bool (false == u181)), (135, .bool (false == u181))] J11e ?_
     exact Gj 137 [(0, .slice Ax0 x0.length cx0), (1, .slice Ax1 x1.length cx1), (2, .slice Ax2 x2.length cx2), (7, (pt gx7 0)), (11, .slice (Gp u17t) u17r.length u17v), (12, .i x12), (135, .bool (false == u181))] (u16y _ _ h _ _ (((((hx.trans z37).trans z38).trans z39).trans z40).trans z41) Ax0 x0.length cx0 Ax1 x1.length cx1 Ax2 x2.length cx2 gx7 u178 u176.2.1.length u17a u17b u148 u17c u176.2.2.place.length u17e u17f u17g u176.2.2.list.length u17i u17j u13z u140 x7v.now.place.length u142 u143 u144 x7v.now.list.length u146 u147 u17t u17r.length u17v u17w p41 (fx0.ext ((((z37.trans z38).trans z39).trans z40).trans z41)) rfl (fx1.ext ((((z37.trans z38).trans z39).trans z40).trans z41)) rfl (fx2.ext ((((z37.trans z38).trans z39).trans z40).trans z41)) rfl (u17k.ext ((z39.trans z40).trans z41)) rfl (u17l.ext ((z39.trans z40).trans z41)) rfl (u17m.ext ((z39.trans z40).trans z41)) rfl (u14u.ext ((((z37.trans z38).trans z39).trans z40).trans z41)) rfl (u14w.ext ((((z37.trans z38).trans z39).trans z40).trans z41)) rfl (u17x.ext z41) rfl)
   ·
    have u183 : u170 = false := by simpa using u17y
    rw [u183]
    refine Gn 5 [(128, undef), (129, .bool false), (130, .bool false), (131, .bool u176.1), (132, (pt gx7 0))] J12c ?_
    have p40 := (((((((p40.fr 5).fr 5).fr 5).fr 8).fr 8).fr 8).fr 8).fr 8
    refine bind_some' h fun u184 u185 h => ?_
    refine Gc (kc 10 [132] #[25]) 133 4 10 _ (W.z1e (⟨u176.2.1, u176.2.2, x7v.now⟩ : T50) u184 u185 gx7 u178 u176.2.1.length u17a u17b u148 u17c u176.2.2.place.length u17e u17f u17g u176.2.2.list.length u17i u17j u13z u140 x7v.now.place.length u142 u143 u144 x7v.now.list.length u146 u147 p40 (u17k.ext (z39.trans z40)) rfl (u17l.ext (z39.trans z40)) rfl (u17m.ext (z39.trans z40)) rfl (u14u.ext (((z37.trans z38).trans z39).trans z40)) rfl (u14w.ext (((z37.trans z38).trans z39).trans z40)) rfl) ?_
    rintro _ w42 ⟨S42, rfl, z42, p42⟩
    refine Gn 3 [(134, .bool (u176.1 == u184)), (135, .bool (u176.1 == u184))] J11e ?_
    exact Gj 137 [(0, .slice Ax0 x0.length cx0), (1, .slice Ax1 x1.length cx1), (2, .slice Ax2 x2.length cx2), (7, (pt gx7 0)), (11, .slice (Gp u17t) u17r.length u17v), (12, .i x12), (135, .bool (u176.1 == u184))] (u16y _ _ h _ _ (((((hx.trans z37).trans z38).trans z39).trans z40).trans z42) Ax0 x0.length cx0 Ax1 x1.length cx1 Ax2 x2.length cx2 gx7 u178 u176.2.1.length u17a u17b u148 u17c u176.2.2.place.length u17e u17f u17g u176.2.2.list.length u17i u17j u13z u140 x7v.now.place.length u142 u143 u144 x7v.now.list.length u146 u147 u17t u17r.length u17v u17w p42 (fx0.ext ((((z37.trans z38).trans z39).trans z40).trans z42)) rfl (fx1.ext ((((z37.trans z38).trans z39).trans z40).trans z42)) rfl (fx2.ext ((((z37.trans z38).trans z39).trans z40).trans z42)) rfl (u17k.ext ((z39.trans z40).trans z42)) rfl (u17l.ext ((z39.trans z40).trans z42)) rfl (u17m.ext ((z39.trans z40).trans z42)) rfl (u14u.ext ((((z37.trans z38).trans z39).trans z40).trans z42)) rfl (u14w.ext ((((z37.trans z38).trans z39).trans z40).trans z42)) rfl (u17x.ext z42) rfl)
  ·
   rw [decide_eq_false u16z]
   refine Gn 2 [] J113 ?_
   exact Gj 137 [(0, .slice Ax0 x0.length cx0), (1, .slice Ax1 x1.length cx1), (2, .slice Ax2 x2.length cx2), (7, (pt gx7 0)), (11, .slice (Gp u14h) x11.length u14j), (12, .i x12)] (u16x _ _ h _ _ hx Ax0 x0.length cx0 Ax1 x1.length cx1 Ax2 x2.length cx2 gx7 u13v x7v.l.length u13x u13y u13z u140 x7v.now.place.length u142 u143 u144 x7v.now.list.length u146 u147 u148 u149 x7v.next.place.length u14b u14c u14d x7v.next.list.length u14f u14g u14h x11.length u14j u14k u14l p1 fx0 rfl fx1 rfl fx2 rfl u14s rfl u14u rfl u14w rfl u14y rfl u150 rfl u152 rfl)
 ·
  intro u186 u187 ⟨x0, x1, x2, x7v, x11, x12⟩ r h S1 w1 hx Ax0 nx0 cx0 Ax1 nx1 cx1 Ax2 nx2 cx2 gx7 u13v u13w u13x u13y u13z u140 u141 u142 u143 u144 u145 u146 u147 u148 u149 u14a u14b u14c u14d u14e u14f u14g u14h u14i u14j u14k u14l p1 fx0 lx0 fx1 lx1 fx2 lx2 u14s u14t u14u u14v u14w u14x u14y u14z u150 u151 u152 u153 junk
  try dsimp only at h
  subst lx0
  subst lx1
  subst lx2
  subst u14t
  subst u14v
  subst u14x
  subst u14z
  subst u151
  subst u153
  refine Gn 7 [(55, .i x12), (56, .i (wr .i64 (x12 + 1))), (12, .i (wr .i64 (x12 + 1)))] J10z ?_
  exact Gj 137 [(0, .slice Ax0 x0.length cx0), (1, .slice Ax1 x1.length cx1), (2, .slice Ax2 x2.length cx2), (7, (pt gx7 0)), (11, .slice (Gp u14h) x11.length u14j), (12, .i (wr .i64 (x12 + 1)))] (u187 _ _ h _ _ hx Ax0 x0.length cx0 Ax1 x1.length cx1 Ax2 x2.length cx2 gx7 u13v x7v.l.length u13x u13y u13z u140 x7v.now.place.length u142 u143 u144 x7v.now.list.length u146 u147 u148 u149 x7v.next.place.length u14b u14c u14d x7v.next.list.length u14f u14g u14h x11.length u14j u14k u14l p1 fx0 rfl fx1 rfl fx2 rfl u14s rfl u14u rfl u14w rfl u14y rfl u150 rfl u152 rfl)
 ·
  intro u16v u16x ⟨x0, x1, x2, x7v, x11, x12, u14p⟩ r h S1 w1 hx Ax0 nx0 cx0 Ax1 nx1 cx1 Ax2 nx2 cx2 gx7 u13v u13w u13x u13y u13z u140 u141 u142 u143 u144 u145 u146 u147 u148 u149 u14a u14b u14c u14d u14e u14f u14g u14h u14i u14j u14k p1 fx0 lx0 fx1 lx1 fx2 lx2 u14s u14t u14u u14v u14w u14x u14y u14z u150 u151 u152 u153 junk
  try dsimp only at h
  subst lx0
  subst lx1
  subst lx2
  subst u14t
  subst u14v
  subst u14x
  subst u14z
  subst u151
  subst u153
  refine ite_some h (fun u188 h => ?_) (fun u188 h => ?_)
  ·
   rw [u188]
   refine Gn 5 [(6, .bool false)] J12d ?_
   obtain rfl := Option.some.inj h
   have p1 := ((((((((p1.dp 0).dp 0).dp 0).dp 0).dp 0).dp 0).dp 0).dp 0).dp 0
   exact Goes.rt Tryz.f3 (.bool false) ⟨S1, rfl, hx, p1⟩
  ·
   have u189 : u14p = false := by simpa using u188
   rw [u189]
   refine Gn 2 [] J113 ?_
   exact Gj 137 [(0, .slice Ax0 x0.length cx0), (1, .slice Ax1 x1.length cx1), (2, .slice Ax2 x2.length cx2), (7, (pt gx7 0)), (11, .slice (Gp u14h) x11.length u14j), (12, .i x12)] (u16x _ _ h _ _ hx Ax0 x0.length cx0 Ax1 x1.length cx1 Ax2 x2.length cx2 gx7 u13v x7v.l.length u13x u13y u13z u140 x7v.now.place.length u142 u143 u144 x7v.now.list.length u146 u147 u148 u149 x7v.next.place.length u14b u14c u14d x7v.next.list.length u14f u14g u14h x11.length u14j u14k 0 p1 fx0 rfl fx1 rfl fx2 rfl u14s rfl u14u rfl u14w rfl u14y rfl u150 rfl u152 rfl)
 ·
  intro u154 u155 ⟨x0, x1, x2, x7v, x11, x12, x13, x14⟩ r h S1 w1 hx Ax0 nx0 cx0 Ax1 nx1 cx1 Ax2 nx2 cx2 gx7 u13v u13w u13x u13y u13z u140 u141 u142 u143 u144 u145 u146 u147 u148 u149 u14a u14b u14c u14d u14e u14f u14g u14h u14i u14j u14k u14l u14m u5 u6 u14n p1 fx0 lx0 fx1 lx1 fx2 lx2 u14s u14t u14u u14v u14w u14x u14y u14z u150 u151 u152 u153 u9 ua junk
  try dsimp only at h
  subst lx0
  subst lx1
  subst lx2
  subst u14t
  subst u14v
  subst u14x
  subst u14z
  subst u151
  subst u153
  subst ua
  refine Gn 7 [(62, .i x14), (63, .i (wr .i64 (x14 + 1))), (14, .i (wr .i64 (x14 + 1)))] J117 ?_
  exact Gj 137 [(0, .slice Ax0 x0.length cx0), (1, .slice Ax1 x1.length cx1), (2, .slice Ax2 x2.length cx2), (7, (pt gx7 0)), (11, .slice (Gp u14h) x11.length u14j), (12, .i x12), (13, .slice (Gp u14m) x13.length u6), (14, .i (wr .i64 (x14 + 1)))] (u155 _ _ h _ _ hx Ax0 x0.length cx0 Ax1 x1.length cx1 Ax2 x2.length cx2 gx7 u13v x7v.l.length u13x u13y u13z u140 x7v.now.place.length u142 u143 u144 x7v.now.list.length u146 u147 u148 u149 x7v.next.place.length u14b u14c u14d x7v.next.list.length u14f u14g u14h x11.length u14j u14k u14l u14m x13.length u6 u14n p1 fx0 rfl fx1 rfl fx2 rfl u14s rfl u14u rfl u14w rfl u14y rfl u150 rfl u152 rfl u9 rfl)

theorem W.z5h {nz wz S0 w0 Lr} : ∀ a r, M.tidepolelaw12_SimFeeds_l3 a = some r → (L.z5h nz wz S0 w0 Lr) a r := (W.z5q).1

theorem W.z5i {nz wz S0 w0 Lr} : ∀ a r, M.tidepolelaw12_SimFeeds_l5 a = some r → (L.z5i nz wz S0 w0 Lr) a r := (W.z5q).2.1

theorem W.z5j {nz wz S0 w0 Lr} : ∀ a r, M.tidepolelaw12_SimFeeds_l7 a = some r → (L.z5j nz wz S0 w0 Lr) a r := (W.z5q).2.2.1

theorem W.z5l {nz wz S0 w0 Lr} : ∀ a r, M.tidepolelaw12_SimFeeds_l10 a = some r → (L.z5l nz wz S0 w0 Lr) a r := (W.z5q).2.2.2.1

theorem W.z5m {nz wz S0 w0 Lr} : ∀ a r, M.tidepolelaw12_SimFeeds_l13 a = some r → (L.z5m nz wz S0 w0 Lr) a r := (W.z5q).2.2.2.2.1

theorem W.z5n {nz wz S0 w0 Lr} : ∀ a r, M.tidepolelaw12_SimFeeds_l15 a = some r → (L.z5n nz wz S0 w0 Lr) a r := (W.z5q).2.2.2.2.2.1

theorem W.z5p {nz wz S0 w0 Lr} : ∀ a r, M.tidepolelaw12_SimFeeds_l18 a = some r → (L.z5p nz wz S0 w0 Lr) a r := (W.z5q).2.2.2.2.2.2.1

theorem W.z5o {nz wz S0 w0 Lr} : ∀ a r, M.tidepolelaw12_SimFeeds_l17 a = some r → (L.z5o nz wz S0 w0 Lr) a r := (W.z5q).2.2.2.2.2.2.2.1

theorem W.z5k {nz wz S0 w0 Lr} : ∀ a r, M.tidepolelaw12_SimFeeds_l9 a = some r → (L.z5k nz wz S0 w0 Lr) a r := (W.z5q).2.2.2.2.2.2.2.2

def J12e := Zs [1, 1, 1, 1, 1] B3 []
def J12f := Zs [1, 1, 1, 1, 0, 1] B3 J12e
def J12g := Zs [1, 1, 1, 1, 0, 1, 0, 1] B3 J12e
def J12h := Zs [1, 1, 1, 1, 1, 1] B3 []
def J12i := Zs [1, 1, 1, 1, 1, 0, 1] B3 J12h
def J12j := Zs [1, 1, 1, 1, 1, 1, 1] B3 []
def J12k := Zt [1, 1, 1, 1, 1, 1, 0] B3 [1, 2] J12j
def J12l := Zs [1, 1, 1, 1, 1, 0, 1, 0, 1] B3 J12h
def J12m := Zt [1, 1, 1, 1, 1, 0, 1, 0, 0] B3 [0, 1] J12l

def L.z5r : (List T45) × (List Int) × (List Bool) × T50 × Int × Bool → Bool → Prop := fun ⟨x0, x1, x2, x7v, x10, x41⟩ r => ∀ S1 w1, Ext S0 w0 S1 w1 → ∀ Ax0 nx0 cx0 Ax1 nx1 cx1 Ax2 nx2 cx2 gx7 u13v u13w u13x u13y u13z u140 u141 u142 u143 u144 u145 u146 u147 u148 u149 u14a u14b u14c u14d u14e u14f u14g (_ : Hp nz wz S1 w1 ((some gx7, .row 51 [.slice (Gp u13v) u13w u13x, (pt u13z 0), (pt u148 0)] 3 0) :: (u13v, .row 46 u13y (u13x * kT45.size) 0) :: (some u13z, .row 66 [.slice (Gp u140) u141 u142, .slice (Gp u144) u145 u146] 2 0) :: (u140, .row 3 u143 (u142 * (kInt .i64).size) 0) :: (u144, .row 49 u147 (u146 * (kInt .i64).size) 0) :: (some u148, .row 66 [.slice (Gp u149) u14a u14b, .slice (Gp u14d) u14e u14f] 2 0) :: (u149, .row 3 u14c (u14b * (kInt .i64).size) 0) :: (u14d, .row 49 u14g (u14f * (kInt .i64).size) 0) :: Lr)) (_ : Rd kT45 S1 w1 Ax0 cx0 x0) (_ : x0.length = nx0) (_ : Rd (kInt .u8) S1 w1 Ax1 cx1 x1) (_ : x1.length = nx1) (_ : Rd kBool S1 w1 Ax2 cx2 x2) (_ : x2.length = nx2) (_ : Els kT45 S1 w1 u13y x7v.l) (_ : x7v.l.length = u13w) (_ : Els (kInt .i64) S1 w1 u143 x7v.now.place) (_ : x7v.now.place.length = u141) (_ : Els (kInt .i64) S1 w1 u147 x7v.now.list) (_ : x7v.now.list.length = u145) (_ : Els (kInt .i64) S1 w1 u14c x7v.next.place) (_ : x7v.next.place.length = u14a) (_ : Els (kInt .i64) S1 w1 u14g x7v.next.list) (_ : x7v.next.list.length = u14e) (junk : Nat → Value),
 Goes Tryz.prog (base 3) J12f ⟨lfr 137 [(0, .slice Ax0 nx0 cx0), (1, .slice Ax1 nx1 cx1), (2, .slice Ax2 nx2 cx2), (7, (pt gx7 0)), (10, .i x10), (41, .bool x41)] junk, []⟩ w1 (Done Tryz.prog 3 (Rets (Post.z5g nz wz S0 w0 Lr r)))

theorem W.z5r {nz wz S0 w0 Lr} : ∀ a r, M.tidepolelaw12_SimFeeds_l1 a = some r → L.z5r nz wz S0 w0 Lr a r := by
 intro ⟨x0, x1, x2, x7v, x10, x41⟩ r h S1 w1 hx Ax0 nx0 cx0 Ax1 nx1 cx1 Ax2 nx2 cx2 gx7 u13v u13w u13x u13y u13z u140 u141 u142 u143 u144 u145 u146 u147 u148 u149 u14a u14b u14c u14d u14e u14f u14g p1 fx0 lx0 fx1 lx1 fx2 lx2 u14s u14t u14u u14v u14w u14x u14y u14z u150 u151 junk
 rw [M.tidepolelaw12_SimFeeds_l1] at h
 try dsimp only at h
 subst lx0
 subst lx1
 subst lx2
 subst u14t
 subst u14v
 subst u14x
 subst u14z
 subst u151
 refine ite_some h (fun h30 h => ?_) (fun h30 h => ?_)
 ·
  rw [h30]
  refine Gn 5 [(6, .bool false)] J12g ?_
  obtain rfl := Option.some.inj h
  have p1 := (((((((p1.dp 0).dp 0).dp 0).dp 0).dp 0).dp 0).dp 0).dp 0
  exact Goes.rt Tryz.f3 (.bool false) ⟨S1, rfl, hx, p1⟩
 ·
  have ufl : x41 = false := by simpa using h30
  rw [ufl]
  refine Gn 8 [(42, .i x10), (43, .bool (!(decide (x10 = 0))))] J12i ?_
  refine ite_some h (fun h31 h => ?_) (fun h31 h => ?_)
  ·
   rw [decide_eq_true h31]
   refine Gn 5 [(45, .slice Ax0 x0.length cx0)] J12k ?_
   refine bind_some' h fun y32 e33 h => ?_
   refine Gc (kc 7 [45] #[22]) 46 24 7 _ (W.zs x0 y32 e33 Ax0 x0.length cx0 p1 fx0 rfl) ?_
   rintro _ w6 ⟨S6, u18a, u18b, u18c, u18d, rfl, z6, p6, ue1, rfl⟩
   refine Gn 9 [(11, .slice (Gp u18a) y32.length u18c), (12, .i 0)] J10z ?_
   have p6 := ((((((((p6.fr 0).fr 8).fr 8).fr 8).fr 8).fr 8).fr 8).fr 8).fr 8
   exact Gj 137 [(0, .slice Ax0 x0.length cx0), (1, .slice Ax1 x1.length cx1), (2, .slice Ax2 x2.length cx2), (7, (pt gx7 0)), (11, .slice (Gp u18a) y32.length u18c), (12, .i 0)] (W.z5h _ _ h _ _ (hx.trans z6) Ax0 x0.length cx0 Ax1 x1.length cx1 Ax2 x2.length cx2 gx7 u13v x7v.l.length u13x u13y u13z u140 x7v.now.place.length u142 u143 u144 x7v.now.list.length u146 u147 u148 u149 x7v.next.place.length u14b u14c u14d x7v.next.list.length u14f u14g u18a y32.length u18c u18d 0 p6 (fx0.ext z6) rfl (fx1.ext z6) rfl (fx2.ext z6) rfl (u14s.ext z6) rfl (u14u.ext z6) rfl (u14w.ext z6) rfl (u14y.ext z6) rfl (u150.ext z6) rfl ue1 rfl)
  ·
   rw [decide_eq_false h31]
   refine Gn 3 [] J12m ?_
   refine bind_some' h fun y44 e45 h => ?_
   refine Gc (kc 6 [] #[]) 44 4 6 _ (W.z5f y44 e45  p1 ) ?_
   rintro _ w7 ⟨S7, rfl, z7, p7⟩
   have p7 := (((((((p7.dp 0).dp 0).dp 0).dp 0).dp 0).dp 0).dp 0).dp 0
   refine Gn 2 [(6, .bool y44)] J12l ?_
   obtain rfl := Option.some.inj h
   exact Goes.rt Tryz.f3 (.bool y44) ⟨S7, rfl, (hx.trans z7), p7⟩

def J12n := Zs [1, 0, 1, 0, 1] B9 J9a

def Post.z5s (r : Unit) (v : Value) (w' : World) : Prop :=
 ∃ S', v = .slice none 0 0 ∧ Ext S0 w0 S' w' ∧ Hp nz wz S' w' (Lr)

theorem W.z5s (r : Unit) (h : M.sim_Runner_At_2 = some r) {nz wz S0 w0 Lr} (p0 : Hp nz wz S0 w0 (Lr)) :
  Calls Tryz.prog 9 #[.pointer none] w0 (Rets (Post.z5s nz wz S0 w0 Lr r)) := by
 refine Zf Tryz.f9 B9 28 ?_
 refine Gj 29 [(0, .pointer none)] fun junk => ?_
 delta M.sim_Runner_At_2 at h
 refine Gn 8 [(2, .slice none 0 0), (6, .pointer none)] J9c ?_
 refine bind_some' h fun y1 e2 h => ?_
 refine Gc (kc 25 [6] #[25]) 7 4 25 _ (W.z4r y1 e2  p0 ) ?_
 rintro _ w2 ⟨S2, rfl, z2, p2⟩
 refine Gn 7 [(8, .bool (!false)), (2, .slice none 0 0)] J12n ?_
 obtain rfl := Option.some.inj h
 exact Goes.rt Tryz.f9 (.slice none 0 0) ⟨S2, rfl, ((Ext.refl S0 w0).trans z2), p2⟩

def Post.z5t (r : Unit) (v : Value) (w' : World) : Prop :=
 ∃ S', v = .bool true ∧ Ext S0 w0 S' w' ∧ Hp nz wz S' w' (Lr)

theorem W.z5t (r : Unit) (h : M.sim_Runner_Dead_2 = some r) {nz wz S0 w0 Lr} (p0 : Hp nz wz S0 w0 (Lr)) :
  Calls Tryz.prog 10 #[.pointer none] w0 (Rets (Post.z5t nz wz S0 w0 Lr r)) := by
 refine Zf Tryz.f10 B10 16 ?_
 refine Gj 17 [(0, .pointer none)] fun junk => ?_
 delta M.sim_Runner_Dead_2 at h
 refine Gn 7 [(2, .bool false), (3, .pointer none)] J9w ?_
 refine bind_some' h fun y1 e2 h => ?_
 refine Gc (kc 25 [3] #[25]) 4 4 25 _ (W.z4r y1 e2  p0 ) ?_
 rintro _ w2 ⟨S2, rfl, z2, p2⟩
 refine Gn 14 [(5, .bool (!false)), (6, .bool (!false)), (7, undef), (8, undef), (9, undef), (10, undef), (11, undef), (12, undef), (13, undef), (14, undef), (15, undef), (16, .bool true), (2, .bool true)] J9v ?_
 obtain rfl := Option.some.inj h
 exact Goes.rt Tryz.f10 (.bool true) ⟨S2, rfl, ((Ext.refl S0 w0).trans z2), p2⟩

def J12o := Zs [0, 1, 0] B13 J3c

def Post.z5u (r : Unit) (v : Value) (w' : World) : Prop :=
 ∃ S', v = .tuple #[] ∧ Ext S0 w0 S' w' ∧ Hp nz wz S' w' (Lr)

theorem W.z5u (r : Unit) (h : M.sim_Runner_Reset_2 = some r) {nz wz S0 w0 Lr} (p0 : Hp nz wz S0 w0 (Lr)) :
  Calls Tryz.prog 13 #[.pointer none] w0 (Rets (Post.z5u nz wz S0 w0 Lr r)) := by
 refine Zf Tryz.f13 B13 15 ?_
 refine Gj 16 [(0, .pointer none)] fun junk => ?_
 delta M.sim_Runner_Reset_2 at h
 refine Gn 4 [(2, .pointer none)] J3e ?_
 refine bind_some' h fun y1 e2 h => ?_
 refine Gc (kc 25 [2] #[25]) 3 4 25 _ (W.z4r y1 e2  p0 ) ?_
 rintro _ w2 ⟨S2, rfl, z2, p2⟩
 refine Gn 3 [(4, .bool (!false))] J12o ?_
 obtain rfl := Option.some.inj h
 exact Goes.rt Tryz.f13 (.tuple #[]) ⟨S2, rfl, ((Ext.refl S0 w0).trans z2), p2⟩

def L.z5v : (List T45) × (List Int) × (List Bool) × (List Bool) × Int → Bool → Prop := fun ⟨x0, x1, x2, x11, x12⟩ r => ∀ S1 w1, Ext S0 w0 S1 w1 → ∀ Ax0 nx0 cx0 Ax1 nx1 cx1 Ax2 nx2 cx2 u14h u14i u14j u14k u14l (_ : Hp nz wz S1 w1 ((u14h, .row 4 u14k (u14j * kBool.size) u14l) :: Lr)) (_ : Rd kT45 S1 w1 Ax0 cx0 x0) (_ : x0.length = nx0) (_ : Rd (kInt .u8) S1 w1 Ax1 cx1 x1) (_ : x1.length = nx1) (_ : Rd kBool S1 w1 Ax2 cx2 x2) (_ : x2.length = nx2) (_ : Els kBool S1 w1 u14k x11) (_ : x11.length = u14i) (junk : Nat → Value),
 Goes Tryz.prog (base 3) J10z ⟨lfr 137 [(0, .slice Ax0 nx0 cx0), (1, .slice Ax1 nx1 cx1), (2, .slice Ax2 nx2 cx2), (7, .pointer none), (11, .slice (Gp u14h) u14i u14j), (12, .i x12)] junk, []⟩ w1 (Done Tryz.prog 3 (Rets (Post.z5g nz wz S0 w0 Lr r)))

def L.z5w : (List T45) × (List Int) × (List Bool) × (List Bool) × Int × Bool → Bool → Prop := fun ⟨x0, x1, x2, x11, x12, x54⟩ r => ∀ S1 w1, Ext S0 w0 S1 w1 → ∀ Ax0 nx0 cx0 Ax1 nx1 cx1 Ax2 nx2 cx2 u14h u14i u14j u14k u14l (_ : Hp nz wz S1 w1 ((u14h, .row 4 u14k (u14j * kBool.size) u14l) :: Lr)) (_ : Rd kT45 S1 w1 Ax0 cx0 x0) (_ : x0.length = nx0) (_ : Rd (kInt .u8) S1 w1 Ax1 cx1 x1) (_ : x1.length = nx1) (_ : Rd kBool S1 w1 Ax2 cx2 x2) (_ : x2.length = nx2) (_ : Els kBool S1 w1 u14k x11) (_ : x11.length = u14i) (junk : Nat → Value),
 Goes Tryz.prog (base 3) J111 ⟨lfr 137 [(0, .slice Ax0 nx0 cx0), (1, .slice Ax1 nx1 cx1), (2, .slice Ax2 nx2 cx2), (7, .pointer none), (11, .slice (Gp u14h) u14i u14j), (12, .i x12), (54, .bool x54)] junk, []⟩ w1 (Done Tryz.prog 3 (Rets (Post.z5g nz wz S0 w0 Lr r)))

def L.z5x : (List T45) × (List Int) × (List Bool) × (List Bool) × Int × (List Int) × Int → Bool → Prop := fun ⟨x0, x1, x2, x11, x12, x13, x14⟩ r => ∀ S1 w1, Ext S0 w0 S1 w1 → ∀ Ax0 nx0 cx0 Ax1 nx1 cx1 Ax2 nx2 cx2 u14h u14i u14j u14k u14l u14m u5 u6 u14n (_ : Hp nz wz S1 w1 ((u14h, .row 4 u14k (u14j * kBool.size) u14l) :: (u14m, .row 3 u14n (u6 * (kInt .i64).size) 0) :: Lr)) (_ : Rd kT45 S1 w1 Ax0 cx0 x0) (_ : x0.length = nx0) (_ : Rd (kInt .u8) S1 w1 Ax1 cx1 x1) (_ : x1.length = nx1) (_ : Rd kBool S1 w1 Ax2 cx2 x2) (_ : x2.length = nx2) (_ : Els kBool S1 w1 u14k x11) (_ : x11.length = u14i) (_ : Els (kInt .i64) S1 w1 u14n x13) (_ : x13.length = u5) (junk : Nat → Value),
 Goes Tryz.prog (base 3) J117 ⟨lfr 137 [(0, .slice Ax0 nx0 cx0), (1, .slice Ax1 nx1 cx1), (2, .slice Ax2 nx2 cx2), (7, .pointer none), (11, .slice (Gp u14h) u14i u14j), (12, .i x12), (13, .slice (Gp u14m) u5 u6), (14, .i x14)] junk, []⟩ w1 (Done Tryz.prog 3 (Rets (Post.z5g nz wz S0 w0 Lr r)))

def L.z5y : (List T45) × (List Int) × (List Bool) × (List Bool) × Int × (List Int) × Int → Bool → Prop := fun ⟨x0, x1, x2, x11, x12, x13, x14⟩ r => ∀ S1 w1, Ext S0 w0 S1 w1 → ∀ Ax0 nx0 cx0 Ax1 nx1 cx1 Ax2 nx2 cx2 u14h u14i u14j u14k u14l u14m u5 u6 u14n (_ : Hp nz wz S1 w1 ((u14h, .row 4 u14k (u14j * kBool.size) u14l) :: (u14m, .row 3 u14n (u6 * (kInt .i64).size) 0) :: Lr)) (_ : Rd kT45 S1 w1 Ax0 cx0 x0) (_ : x0.length = nx0) (_ : Rd (kInt .u8) S1 w1 Ax1 cx1 x1) (_ : x1.length = nx1) (_ : Rd kBool S1 w1 Ax2 cx2 x2) (_ : x2.length = nx2) (_ : Els kBool S1 w1 u14k x11) (_ : x11.length = u14i) (_ : Els (kInt .i64) S1 w1 u14n x13) (_ : x13.length = u5) (junk : Nat → Value),
 Goes Tryz.prog (base 3) J119 ⟨lfr 137 [(0, .slice Ax0 nx0 cx0), (1, .slice Ax1 nx1 cx1), (2, .slice Ax2 nx2 cx2), (7, .pointer none), (11, .slice (Gp u14h) u14i u14j), (12, .i x12), (13, .slice (Gp u14m) u5 u6), (14, .i x14)] junk, []⟩ w1 (Done Tryz.prog 3 (Rets (Post.z5g nz wz S0 w0 Lr r)))

def L.z5z : (List T45) × (List Int) × (List Bool) × (List Bool) × Int × Bool → Bool → Prop := fun ⟨x0, x1, x2, x11, x12, x92⟩ r => ∀ S1 w1, Ext S0 w0 S1 w1 → ∀ Ax0 nx0 cx0 Ax1 nx1 cx1 Ax2 nx2 cx2 u14h u14i u14j u14k u14l (_ : Hp nz wz S1 w1 ((u14h, .row 4 u14k (u14j * kBool.size) u14l) :: Lr)) (_ : Rd kT45 S1 w1 Ax0 cx0 x0) (_ : x0.length = nx0) (_ : Rd (kInt .u8) S1 w1 Ax1 cx1 x1) (_ : x1.length = nx1) (_ : Rd kBool S1 w1 Ax2 cx2 x2) (_ : x2.length = nx2) (_ : Els kBool S1 w1 u14k x11) (_ : x11.length = u14i) (junk : Nat → Value),
 Goes Tryz.prog (base 3) J11b ⟨lfr 137 [(0, .slice Ax0 nx0 cx0), (1, .slice Ax1 nx1 cx1), (2, .slice Ax2 nx2 cx2), (7, .pointer none), (11, .slice (Gp u14h) u14i u14j), (12, .i x12), (92, .bool x92)] junk, []⟩ w1 (Done Tryz.prog 3 (Rets (Post.z5g nz wz S0 w0 Lr r)))

def L.z60 : (List T45) × (List Int) × (List Bool) × (List Bool) × Int × Bool → Bool → Prop := fun ⟨x0, x1, x2, x11, x12, u14o⟩ r => ∀ S1 w1, Ext S0 w0 S1 w1 → ∀ Ax0 nx0 cx0 Ax1 nx1 cx1 Ax2 nx2 cx2 u14h u14i u14j u14k u14l (_ : Hp nz wz S1 w1 ((u14h, .row 4 u14k (u14j * kBool.size) u14l) :: Lr)) (_ : Rd kT45 S1 w1 Ax0 cx0 x0) (_ : x0.length = nx0) (_ : Rd (kInt .u8) S1 w1 Ax1 cx1 x1) (_ : x1.length = nx1) (_ : Rd kBool S1 w1 Ax2 cx2 x2) (_ : x2.length = nx2) (_ : Els kBool S1 w1 u14k x11) (_ : x11.length = u14i) (junk : Nat → Value),
 Goes Tryz.prog (base 3) J11d ⟨lfr 137 [(0, .slice Ax0 nx0 cx0), (1, .slice Ax1 nx1 cx1), (2, .slice Ax2 nx2 cx2), (7, .pointer none), (11, .slice (Gp u14h) u14i u14j), (12, .i x12), (102, .bool u14o)] junk, []⟩ w1 (Done Tryz.prog 3 (Rets (Post.z5g nz wz S0 w0 Lr r)))

def L.z61 : (List T45) × (List Int) × (List Bool) × (List Bool) × Int → Bool → Prop := fun ⟨x0, x1, x2, x11, x12⟩ r => ∀ S1 w1, Ext S0 w0 S1 w1 → ∀ Ax0 nx0 cx0 Ax1 nx1 cx1 Ax2 nx2 cx2 u14h u14i u14j u14k u14l (_ : Hp nz wz S1 w1 ((u14h, .row 4 u14k (u14j * kBool.size) u14l) :: Lr)) (_ : Rd kT45 S1 w1 Ax0 cx0 x0) (_ : x0.length = nx0) (_ : Rd (kInt .u8) S1 w1 Ax1 cx1 x1) (_ : x1.length = nx1) (_ : Rd kBool S1 w1 Ax2 cx2 x2) (_ : x2.length = nx2) (_ : Els kBool S1 w1 u14k x11) (_ : x11.length = u14i) (junk : Nat → Value),
 Goes Tryz.prog (base 3) J11c ⟨lfr 137 [(0, .slice Ax0 nx0 cx0), (1, .slice Ax1 nx1 cx1), (2, .slice Ax2 nx2 cx2), (7, .pointer none), (11, .slice (Gp u14h) u14i u14j), (12, .i x12)] junk, []⟩ w1 (Done Tryz.prog 3 (Rets (Post.z5g nz wz S0 w0 Lr r)))

def L.z62 : (List T45) × (List Int) × (List Bool) × (List Bool) × Int × Bool → Bool → Prop := fun ⟨x0, x1, x2, x11, x12, u14p⟩ r => ∀ S1 w1, Ext S0 w0 S1 w1 → ∀ Ax0 nx0 cx0 Ax1 nx1 cx1 Ax2 nx2 cx2 u14h u14i u14j u14k (_ : Hp nz wz S1 w1 ((u14h, .row 4 u14k (u14j * kBool.size) 0) :: Lr)) (_ : Rd kT45 S1 w1 Ax0 cx0 x0) (_ : x0.length = nx0) (_ : Rd (kInt .u8) S1 w1 Ax1 cx1 x1) (_ : x1.length = nx1) (_ : Rd kBool S1 w1 Ax2 cx2 x2) (_ : x2.length = nx2) (_ : Els kBool S1 w1 u14k x11) (_ : x11.length = u14i) (junk : Nat → Value),
 Goes Tryz.prog (base 3) J11e ⟨lfr 137 [(0, .slice Ax0 nx0 cx0), (1, .slice Ax1 nx1 cx1), (2, .slice Ax2 nx2 cx2), (7, .pointer none), (11, .slice (Gp u14h) u14i u14j), (12, .i x12), (135, .bool u14p)] junk, []⟩ w1 (Done Tryz.prog 3 (Rets (Post.z5g nz wz S0 w0 Lr r)))

def L.z63 : (List T45) × (List Int) × (List Bool) × (List Bool) × Int → Bool → Prop := fun ⟨x0, x1, x2, x11, x12⟩ r => ∀ S1 w1, Ext S0 w0 S1 w1 → ∀ Ax0 nx0 cx0 Ax1 nx1 cx1 Ax2 nx2 cx2 u14h u14i u14j u14k u14l (_ : Hp nz wz S1 w1 ((u14h, .row 4 u14k (u14j * kBool.size) u14l) :: Lr)) (_ : Rd kT45 S1 w1 Ax0 cx0 x0) (_ : x0.length = nx0) (_ : Rd (kInt .u8) S1 w1 Ax1 cx1 x1) (_ : x1.length = nx1) (_ : Rd kBool S1 w1 Ax2 cx2 x2) (_ : x2.length = nx2) (_ : Els kBool S1 w1 u14k x11) (_ : x11.length = u14i) (junk : Nat → Value),
 Goes Tryz.prog (base 3) J113 ⟨lfr 137 [(0, .slice Ax0 nx0 cx0), (1, .slice Ax1 nx1 cx1), (2, .slice Ax2 nx2 cx2), (7, .pointer none), (11, .slice (Gp u14h) u14i u14j), (12, .i x12)] junk, []⟩ w1 (Done Tryz.prog 3 (Rets (Post.z5g nz wz S0 w0 Lr r)))

theorem W.z64 {nz wz S0 w0 Lr} : (∀ a r, M.tidepolelaw12_SimFeeds_l4 a = some r → (L.z5v nz wz S0 w0 Lr) a r) ∧ (∀ a r, M.tidepolelaw12_SimFeeds_l6 a = some r → (L.z5w nz wz S0 w0 Lr) a r) ∧ (∀ a r, M.tidepolelaw12_SimFeeds_l8 a = some r → (L.z5x nz wz S0 w0 Lr) a r) ∧ (∀ a r, M.tidepolelaw12_SimFeeds_l12 a = some r → (L.z5z nz wz S0 w0 Lr) a r) ∧ (∀ a r, M.tidepolelaw12_SimFeeds_l14 a = some r → (L.z60 nz wz S0 w0 Lr) a r) ∧ (∀ a r, M.tidepolelaw12_SimFeeds_l16 a = some r → (L.z61 nz wz S0 w0 Lr) a r) ∧ (∀ a r, M.tidepolelaw12_SimFeeds_l20 a = some r → (L.z63 nz wz S0 w0 Lr) a r) ∧ (∀ a r, M.tidepolelaw12_SimFeeds_l19 a = some r → (L.z62 nz wz S0 w0 Lr) a r) ∧ (∀ a r, M.tidepolelaw12_SimFeeds_l11 a = some r → (L.z5y nz wz S0 w0 Lr) a r) := by
 refine M.tidepolelaw12_SimFeeds_l4.mutual_partial_correctness (L.z5v nz wz S0 w0 Lr) (L.z5w nz wz S0 w0 Lr) (L.z5x nz wz S0 w0 Lr) (L.z5z nz wz S0 w0 Lr) (L.z60 nz wz S0 w0 Lr) (L.z61 nz wz S0 w0 Lr) (L.z63 nz wz S0 w0 Lr) (L.z62 nz wz S0 w0 Lr) (L.z5y nz wz S0 w0 Lr) ?_ ?_ ?_ ?_ ?_ ?_ ?_ ?_ ?_
 ·
  intro u18e u18f ⟨x0, x1, x2, x11, x12⟩ r h S1 w1 hx Ax0 nx0 cx0 Ax1 nx1 cx1 Ax2 nx2 cx2 u14h u14i u14j u14k u14l p1 fx0 lx0 fx1 lx1 fx2 lx2 u152 u153 junk
  try dsimp only at h
  subst lx0
  subst lx1
  subst lx2
  subst u153
  refine Gn 8 [(47, .i x12), (48, .slice Ax1 x1.length cx1), (49, .i (x1.length : Int)), (50, .bool (decide (x12 ≤ (x1.length : Int)))), (51, .bool (decide (x12 ≤ (x1.length : Int))))] J11f ?_
  refine ite_some h (fun h64 h => ?_) (fun h64 h => ?_)
  ·
   rw [decide_eq_true h64]
   refine Gn 4 [(52, .i x12), (53, .bool (decide (x12 < 40))), (54, .bool (decide (x12 < 40)))] J111 ?_
   exact Gj 137 [(0, .slice Ax0 x0.length cx0), (1, .slice Ax1 x1.length cx1), (2, .slice Ax2 x2.length cx2), (7, .pointer none), (11, .slice (Gp u14h) x11.length u14j), (12, .i x12), (54, .bool (decide (x12 < 40)))] (u18f _ _ h _ _ hx Ax0 x0.length cx0 Ax1 x1.length cx1 Ax2 x2.length cx2 u14h x11.length u14j u14k u14l p1 fx0 rfl fx1 rfl fx2 rfl u152 rfl)
  ·
   rw [decide_eq_false h64]
   refine Gn 4 [(52, undef), (53, undef), (54, .bool false)] J111 ?_
   exact Gj 137 [(0, .slice Ax0 x0.length cx0), (1, .slice Ax1 x1.length cx1), (2, .slice Ax2 x2.length cx2), (7, .pointer none), (11, .slice (Gp u14h) x11.length u14j), (12, .i x12), (54, .bool false)] (u18f _ _ h _ _ hx Ax0 x0.length cx0 Ax1 x1.length cx1 Ax2 x2.length cx2 u14h x11.length u14j u14k u14l p1 fx0 rfl fx1 rfl fx2 rfl u152 rfl)
 ·
  intro u18g u18h ⟨x0, x1, x2, x11, x12, x54⟩ r h S1 w1 hx Ax0 nx0 cx0 Ax1 nx1 cx1 Ax2 nx2 cx2 u14h u14i u14j u14k u14l p1 fx0 lx0 fx1 lx1 fx2 lx2 u152 u153 junk
  try dsimp only at h
  subst lx0
  subst lx1
  subst lx2
  subst u153
  refine ite_some h (fun h82 h => ?_) (fun h82 h => ?_)
  ·
   rw [h82]
   refine Gn 6 [] J11h ?_
   have f84 : Els (kInt .i64) S1 w1 ([] : List Value) ([] : List Int) := by exact Els.nil
   refine Op_.made (.buildSlice 33 0 #[]) 57 33 (fun b => .slice (Gp (some b)) 0 0) 3 ([] : List Value) p1 Goes.v (by kernel_rfl) ?_
   intro b83 w12 z12 p12
   have p12 : Hp nz wz S1 w12 (((some b83), .row 3 ([] : List Value) (0 * (kInt .i64).size) 0) :: (u14h, .row 4 u14k (u14j * kBool.size) u14l) :: Lr) := p12
   refine Gn 9 [(13, .slice (Gp (some b83)) 0 0), (14, .i 0)] J117 ?_
   have p12 := (p12.fr 0).fr 1
   exact Gj 137 [(0, .slice Ax0 x0.length cx0), (1, .slice Ax1 x1.length cx1), (2, .slice Ax2 x2.length cx2), (7, .pointer none), (11, .slice (Gp u14h) x11.length u14j), (12, .i x12), (13, .slice (Gp (some b83)) 0 0), (14, .i 0)] (u18h _ _ h _ _ (hx.trans z12) Ax0 x0.length cx0 Ax1 x1.length cx1 Ax2 x2.length cx2 u14h x11.length u14j u14k u14l (some b83) 0 0 ([] : List Value) p12 (fx0.ext z12) rfl (fx1.ext z12) rfl (fx2.ext z12) rfl (u152.ext z12) rfl (f84.ext z12) rfl)
  ·
   have u18i : x54 = false := by simpa using h82
   rw [u18i]
   refine Gn 4 [] J11j ?_
   refine bind_some' h fun y88 e89 h => ?_
   refine Gc (kc 6 [] #[]) 136 4 6 _ (W.z5f y88 e89  p1 ) ?_
   rintro _ w13 ⟨S13, rfl, z13, p13⟩
   have p13 := p13.dp 0
   refine Gn 2 [(6, .bool y88)] J11i ?_
   obtain rfl := Option.some.inj h
   exact Goes.rt Tryz.f3 (.bool y88) ⟨S13, rfl, (hx.trans z13), p13⟩
 ·
  intro u18j u18k u18l u18m ⟨x0, x1, x2, x11, x12, x13, x14⟩ r h S1 w1 hx Ax0 nx0 cx0 Ax1 nx1 cx1 Ax2 nx2 cx2 u14h u14i u14j u14k u14l u14m u5 u6 u14n p1 fx0 lx0 fx1 lx1 fx2 lx2 u152 u153 u9 ua junk
  try dsimp only at h
  subst lx0
  subst lx1
  subst lx2
  subst u153
  subst ua
  refine Gn 8 [(58, .i x14), (59, .slice Ax0 x0.length cx0), (60, .i (x0.length : Int)), (61, .bool (decide (x14 < (x0.length : Int))))] J11l ?_
  refine ite_some h (fun u18n h => ?_) (fun u18n h => ?_)
  ·
   rw [decide_eq_true u18n]
   refine Gn 8 [(64, .slice (Gp u14h) x11.length u14j), (65, .i x14)] J11n ?_
   refine guard_some' h fun u18o h => ?_
   refine guard_some' h fun u18p h => ?_
   refine Op_.ixO_n 24 (.tmp 64) (.tmp 65) 66 0 4 .i64 x14 0 x11.length u14j (gi x11 x14) rfl rfl p1 rfl u152 Goes.v (by kernel_rfl) (by kernel_rfl) (by kernel_rfl) (by kernel_rfl) (by decide) u18o u18p ?_
   rintro u18q _ rfl u18r u18s
   obtain rfl := u18r
   refine Goes.ld 4 (.tmp 66) 67 4 ⟨u18q, (x14 : Int).toNat * kBool.size, none⟩ (.bool (gi x11 x14)) (u18s 0 _ rfl) ?_
   refine Gn 1 [] J11m ?_
   refine ite_some h (fun u18t h => ?_) (fun u18t h => ?_)
   ·
    rw [u18t]
    refine Gn 4 [(68, .slice (Gp u14m) x13.length u6), (69, .i x14)] J11o ?_
    have u18u : Els (kInt .i64) S1 w1 ([.i x14] : List Value) [x14] := by exact (Els.cons (K := (kInt .i64)) (vs := [.i x14]) (x := x14) rfl Els.nil)
    refine Op_.made (.buildSlice 33 1 #[(0, (.tmp 69))]) 70 33 (fun b => .slice (Gp (some b)) 1 1) 3 ([.i x14] : List Value) p1 Goes.v (by kernel_rfl) ?_
    intro u18v w24 z24 p24
    have p24 : Hp nz wz S1 w24 (((some u18v), .row 3 ([.i x14] : List Value) (1 * (kInt .i64).size) 0) :: ((some u18q), .row 4 u14k (u14j * kBool.size) u14l) :: (u14m, .row 3 u14n (u6 * (kInt .i64).size) 0) :: Lr) := p24
    refine guard_some' h fun u18w h => ?_
    refine Op_.ap_n (K := (kInt .i64)) 33 (.tmp 68) (.tmp 70) 71 33 3 2 (.i 0) 8 x13.length u6 1 x13 [x14] (x13 ++ [x14]) (Gp (some u18v)) 1 rfl rfl rfl p24 rfl (u9.ext z24) Goes.v (by kernel_rfl) (by kernel_rfl) (by kernel_rfl) (by kernel_rfl) rfl (by decide) (u18u.ext z24) (src_own p24 (q := 0) rfl) (by have := u18w; omega) (by have := u18w; omega) ?_
    intro w25 u18x u18y u18z z25 p25 u190
    refine Gn 2 [(13, .slice (Gp u18x) ((x13 ++ [x14]).length) u18y)] J119 ?_
    have p25 := p25.dp 0
    exact Gj 137 [(0, .slice Ax0 x0.length cx0), (1, .slice Ax1 x1.length cx1), (2, .slice Ax2 x2.length cx2), (7, .pointer none), (11, .slice (Gp (some u18q)) x11.length u14j), (12, .i x12), (13, .slice (Gp u18x) ((x13 ++ [x14]).length) u18y), (14, .i x14)] (u18m _ _ h _ _ ((hx.trans z24).trans z25) Ax0 x0.length cx0 Ax1 x1.length cx1 Ax2 x2.length cx2 (some u18q) x11.length u14j u14k u14l u18x ((x13 ++ [x14]).length) u18y u18z p25 (fx0.ext (z24.trans z25)) rfl (fx1.ext (z24.trans z25)) rfl (fx2.ext (z24.trans z25)) rfl (u152.ext (z24.trans z25)) rfl u190 rfl)
   ·
    have u191 : (gi x11 x14) = false := by simpa using u18t
    rw [u191]
    refine Gn 2 [] J119 ?_
    exact Gj 137 [(0, .slice Ax0 x0.length cx0), (1, .slice Ax1 x1.length cx1), (2, .slice Ax2 x2.length cx2), (7, .pointer none), (11, .slice (Gp (some u18q)) x11.length u14j), (12, .i x12), (13, .slice (Gp u14m) x13.length u6), (14, .i x14)] (u18m _ _ h _ _ hx Ax0 x0.length cx0 Ax1 x1.length cx1 Ax2 x2.length cx2 (some u18q) x11.length u14j u14k u14l u14m x13.length u6 u14n p1 fx0 rfl fx1 rfl fx2 rfl u152 rfl u9 rfl)
  ·
   rw [decide_eq_false u18n]
   refine Gn 6 [(72, .pointer none)] J11p ?_
   refine bind_some' h fun u192 u193 h => ?_
   refine Gc (kc 9 [72] #[25]) 73 33 9 _ (W.z5s u192 u193  p1 ) ?_
   rintro _ w26 ⟨S26, rfl, z26, p26⟩
   refine Gn 1 [(74, .slice (Gp u14m) x13.length u6)] J11q ?_
   obtain ⟨S27, z27, p27, u194⟩ := p26.freezeRd 1 rfl (u9.ext z26) (by decide)
   refine bind_some' h fun u195 u196 h => ?_
   refine Gc (kc 8 [73, 74] #[33, 33]) 75 4 8 _ (W.z1c ([] : List Int) x13 u195 u196 none 0 0 (Gp u14m) x13.length u6 p27 Rd.none_ rfl u194 rfl) ?_
   rintro _ w28 ⟨S28, rfl, z28, p28⟩
   refine Gn 2 [(76, .bool (!u195)), (77, .bool (!u195))] J11r ?_
   refine ite_some h (fun u197 h => ?_) (fun u197 h => ?_)
   ·
    rw [u197]
    refine Gn 1 [(78, .pointer none)] J11s ?_
    refine bind_some' h fun u198 u199 h => ?_
    refine Gc (kc 10 [78] #[25]) 79 4 10 _ (W.z5t u198 u199  p28 ) ?_
    rintro _ w29 ⟨S29, rfl, z29, p29⟩
    refine Gn 6 [(80, .slice (Gp u14m) x13.length u6), (81, .i (x13.length : Int)), (82, .bool (decide ((x13.length : Int) = 0))), (83, .bool (!(true == (decide ((x13.length : Int) = 0))))), (84, .bool (!(true == (decide ((x13.length : Int) = 0))))), (85, .bool (!(true == (decide ((x13.length : Int) = 0)))))] J11t ?_
    refine ite_some h (fun u19a h => ?_) (fun u19a h => ?_)
    ·
     rw [u19a]
     refine Gn 1 [(86, .pointer none)] J11u ?_
     refine bind_some' h fun u19b u19c h => ?_
     refine Gc (kc 11 [86] #[25]) 87 4 11 _ (W.z4t u19b u19c  p29 ) ?_
     rintro _ w30 ⟨S30, rfl, z30, p30⟩
     have p30 := p30.dp 1
     refine Gn 2 [(88, .slice Ax0 x0.length cx0), (89, .slice (Gp u14h) x11.length u14j)] J11v ?_
     obtain ⟨S31, z31, p31, u19d⟩ := p30.freezeRd 0 rfl (u152.ext ((((z26.trans z27).trans z28).trans z29).trans z30)) (by decide)
     refine bind_some' h fun u19e u19f h => ?_
     refine Gc (kc 12 [88, 89] #[22, 24]) 90 4 12 _ (W.zt x0 x11 u19e u19f Ax0 x0.length cx0 (Gp u14h) x11.length u14j p31 (fx0.ext (((((z26.trans z27).trans z28).trans z29).trans z30).trans z31)) rfl u19d rfl) ?_
     rintro _ w32 ⟨S32, rfl, z32, p32⟩
     refine Gn 3 [(91, .bool (!(false == u19e))), (92, .bool (!(false == u19e)))] J11b ?_
     exact Gj 137 [(0, .slice Ax0 x0.length cx0), (1, .slice Ax1 x1.length cx1), (2, .slice Ax2 x2.length cx2), (7, .pointer none), (11, .slice (Gp u14h) x11.length u14j), (12, .i x12), (92, .bool (!(false == u19e)))] (u18l _ _ h _ _ (((((((hx.trans z26).trans z27).trans z28).trans z29).trans z30).trans z31).trans z32) Ax0 x0.length cx0 Ax1 x1.length cx1 Ax2 x2.length cx2 u14h x11.length u14j u14k u14k.length p32 (fx0.ext ((((((z26.trans z27).trans z28).trans z29).trans z30).trans z31).trans z32)) rfl (fx1.ext ((((((z26.trans z27).trans z28).trans z29).trans z30).trans z31).trans z32)) rfl (fx2.ext ((((((z26.trans z27).trans z28).trans z29).trans z30).trans z31).trans z32)) rfl (u152.ext ((((((z26.trans z27).trans z28).trans z29).trans z30).trans z31).trans z32)) rfl)
    ·
     have u19g : (true == (decide ((x13.length : Int) = 0))) = false := by simpa using u19a
     rw [u19g]
     refine Gn 8 [(86, undef), (87, undef), (88, undef), (89, undef), (90, undef), (91, undef), (92, .bool true)] J11b ?_
     have p29 := p29.dp 1
     exact Gj 137 [(0, .slice Ax0 x0.length cx0), (1, .slice Ax1 x1.length cx1), (2, .slice Ax2 x2.length cx2), (7, .pointer none), (11, .slice (Gp u14h) x11.length u14j), (12, .i x12), (92, .bool true)] (u18l _ _ h _ _ ((((hx.trans z26).trans z27).trans z28).trans z29) Ax0 x0.length cx0 Ax1 x1.length cx1 Ax2 x2.length cx2 u14h x11.length u14j u14k u14l p29 (fx0.ext (((z26.trans z27).trans z28).trans z29)) rfl (fx1.ext (((z26.trans z27).trans z28).trans z29)) rfl (fx2.ext (((z26.trans z27).trans z28).trans z29)) rfl (u152.ext (((z26.trans z27).trans z28).trans z29)) rfl)
   ·
    have u19h : u195 = false := by simpa using u197
    rw [u19h]
    refine Gn 14 [(78, undef), (79, undef), (80, undef), (81, undef), (82, undef), (83, undef), (84, .bool true), (85, .bool true), (86, undef), (87, undef), (88, undef), (89, undef), (90, undef), (91, undef)] J11w ?_
    refine Gn 2 [(92, .bool true)] J11b ?_
    have p28 := p28.dp 1
    exact Gj 137 [(0, .slice Ax0 x0.length cx0), (1, .slice Ax1 x1.length cx1), (2, .slice Ax2 x2.length cx2), (7, .pointer none), (11, .slice (Gp u14h) x11.length u14j), (12, .i x12), (92, .bool true)] (u18l _ _ h _ _ (((hx.trans z26).trans z27).trans z28) Ax0 x0.length cx0 Ax1 x1.length cx1 Ax2 x2.length cx2 u14h x11.length u14j u14k u14l p28 (fx0.ext ((z26.trans z27).trans z28)) rfl (fx1.ext ((z26.trans z27).trans z28)) rfl (fx2.ext ((z26.trans z27).trans z28)) rfl (u152.ext ((z26.trans z27).trans z28)) rfl)
 ·
  intro u19i u19j ⟨x0, x1, x2, x11, x12, x92⟩ r h S1 w1 hx Ax0 nx0 cx0 Ax1 nx1 cx1 Ax2 nx2 cx2 u14h u14i u14j u14k u14l p1 fx0 lx0 fx1 lx1 fx2 lx2 u152 u153 junk
  try dsimp only at h
  subst lx0
  subst lx1
  subst lx2
  subst u153
  refine ite_some h (fun u19k h => ?_) (fun u19k h => ?_)
  ·
   rw [u19k]
   refine Gn 5 [(6, .bool false)] J11x ?_
   obtain rfl := Option.some.inj h
   have p1 := p1.dp 0
   exact Goes.rt Tryz.f3 (.bool false) ⟨S1, rfl, hx, p1⟩
  ·
   have u19l : x92 = false := by simpa using u19k
   rw [u19l]
   refine Gn 10 [(93, .i x12), (94, .slice Ax2 x2.length cx2), (95, .i (x2.length : Int)), (96, .bool (decide (x12 < (x2.length : Int)))), (97, .bool (decide (x12 < (x2.length : Int))))] J11y ?_
   refine ite_some h (fun u19m h => ?_) (fun u19m h => ?_)
   ·
    rw [decide_eq_true u19m]
    refine Gn 2 [(98, .slice Ax2 x2.length cx2), (99, .i x12)] J11z ?_
    refine guard_some' h fun u19n h => ?_
    refine Op_.ixR_n 24 (.tmp 98) (.tmp 99) 100 0 4 .i64 x12 (gi x2 x12) rfl rfl fx2 Goes.v (by kernel_rfl) (by kernel_rfl) (by kernel_rfl) (by kernel_rfl) u19n u19m ?_
    intro u19o _ u19p u19q
    obtain rfl := u19q
    refine Goes.ld 4 (.tmp 100) 101 4 u19o (.bool (gi x2 x12)) (u19p.cell 0 _ rfl) ?_
    refine Gn 2 [(102, .bool (gi x2 x12))] J11d ?_
    exact Gj 137 [(0, .slice Ax0 x0.length cx0), (1, .slice Ax1 x1.length cx1), (2, .slice Ax2 x2.length cx2), (7, .pointer none), (11, .slice (Gp u14h) x11.length u14j), (12, .i x12), (102, .bool (gi x2 x12))] (u19j _ _ h _ _ hx Ax0 x0.length cx0 Ax1 x1.length cx1 Ax2 x2.length cx2 u14h x11.length u14j u14k u14l p1 fx0 rfl fx1 rfl fx2 rfl u152 rfl)
   ·
    rw [decide_eq_false u19m]
    refine Gn 6 [(98, undef), (99, undef), (100, undef), (101, undef), (102, .bool false)] J11d ?_
    exact Gj 137 [(0, .slice Ax0 x0.length cx0), (1, .slice Ax1 x1.length cx1), (2, .slice Ax2 x2.length cx2), (7, .pointer none), (11, .slice (Gp u14h) x11.length u14j), (12, .i x12), (102, .bool false)] (u19j _ _ h _ _ hx Ax0 x0.length cx0 Ax1 x1.length cx1 Ax2 x2.length cx2 u14h x11.length u14j u14k u14l p1 fx0 rfl fx1 rfl fx2 rfl u152 rfl)
 ·
  intro u19r u19s ⟨x0, x1, x2, x11, x12, u14o⟩ r h S1 w1 hx Ax0 nx0 cx0 Ax1 nx1 cx1 Ax2 nx2 cx2 u14h u14i u14j u14k u14l p1 fx0 lx0 fx1 lx1 fx2 lx2 u152 u153 junk
  try dsimp only at h
  subst lx0
  subst lx1
  subst lx2
  subst u153
  refine ite_some h (fun u19t h => ?_) (fun u19t h => ?_)
  ·
   rw [u19t]
   refine Gn 4 [(103, .pointer none)] J121 ?_
   refine bind_some' h fun u19u u19v h => ?_
   refine Gc (kc 13 [103] #[25]) 104 0 13 _ (W.z5u u19u u19v  p1 ) ?_
   rintro _ w35 ⟨S35, rfl, z35, p35⟩
   have p35 := p35.dp 0
   refine Gn 3 [(105, .slice Ax0 x0.length cx0)] J122 ?_
   refine bind_some' h fun u19w u19x h => ?_
   refine Gc (kc 7 [105] #[22]) 106 24 7 _ (W.zs x0 u19w u19x Ax0 x0.length cx0 p35 (fx0.ext z35) rfl) ?_
   rintro _ w36 ⟨S36, u19y, u19z, u1a0, u1a1, rfl, z36, p36, u1a2, rfl⟩
   refine Gn 2 [(11, .slice (Gp u19y) u19w.length u1a0)] J11c ?_
   exact Gj 137 [(0, .slice Ax0 x0.length cx0), (1, .slice Ax1 x1.length cx1), (2, .slice Ax2 x2.length cx2), (7, .pointer none), (11, .slice (Gp u19y) u19w.length u1a0), (12, .i x12)] (u19s _ _ h _ _ ((hx.trans z35).trans z36) Ax0 x0.length cx0 Ax1 x1.length cx1 Ax2 x2.length cx2 u19y u19w.length u1a0 u1a1 0 p36 (fx0.ext (z35.trans z36)) rfl (fx1.ext (z35.trans z36)) rfl (fx2.ext (z35.trans z36)) rfl u1a2 rfl)
  ·
   have u1a3 : u14o = false := by simpa using u19t
   rw [u1a3]
   refine Gn 2 [] J11c ?_
   exact Gj 137 [(0, .slice Ax0 x0.length cx0), (1, .slice Ax1 x1.length cx1), (2, .slice Ax2 x2.length cx2), (7, .pointer none), (11, .slice (Gp u14h) x11.length u14j), (12, .i x12)] (u19s _ _ h _ _ hx Ax0 x0.length cx0 Ax1 x1.length cx1 Ax2 x2.length cx2 u14h x11.length u14j u14k u14l p1 fx0 rfl fx1 rfl fx2 rfl u152 rfl)
 ·
  intro u1a4 u1a5 u1a6 u1a7 ⟨x0, x1, x2, x11, x12⟩ r h S1 w1 hx Ax0 nx0 cx0 Ax1 nx1 cx1 Ax2 nx2 cx2 u14h u14i u14j u14k u14l p1 fx0 lx0 fx1 lx1 fx2 lx2 u152 u153 junk
  try dsimp only at h
  subst lx0
  subst lx1
  subst lx2
  subst u153
  refine Gn 7 [(107, .i x12), (108, .slice Ax1 x1.length cx1), (109, .i (x1.length : Int)), (110, .bool (decide (x12 < (x1.length : Int))))] J123 ?_
  refine ite_some h (fun u1a8 h => ?_) (fun u1a8 h => ?_)
  ·
   rw [decide_eq_true u1a8]
   refine Gn 4 [(111, .pointer none)] J125 ?_
   refine bind_some' h fun u1a9 u1aa h => ?_
   refine Gc (kc 10 [111] #[25]) 112 4 10 _ (W.z5t u1a9 u1aa  p1 ) ?_
   rintro _ w43 ⟨S43, rfl, z43, p43⟩
   refine Gn 7 [(15, .bool true), (113, .pointer none), (114, .slice Ax1 x1.length cx1), (115, .i x12)] J127 ?_
   refine guard_some' h fun u1ab h => ?_
   refine Op_.ixR_n 23 (.tmp 114) (.tmp 115) 116 0 5 .i64 x12 (gi x1 x12) rfl rfl (fx1.ext z43) Goes.v (by kernel_rfl) (by kernel_rfl) (by kernel_rfl) (by kernel_rfl) u1ab u1a8 ?_
   intro u1ac _ u1ad u1ae
   obtain rfl := u1ae
   refine Goes.ld 5 (.tmp 116) 117 5 u1ac (.int .u8 (gi x1 x12)) (u1ad.cell 0 _ rfl) ?_
   refine bind_some' h fun u1af u1ag h => ?_
   refine Gc (kc 14 [113, 117] #[25, 5]) 118 4 14 _ (W.z4s (gi x1 x12) u1af u1ag  p43 ) ?_
   rintro _ w44 ⟨S44, rfl, z44, p44⟩
   refine Gn 8 [(16, .bool false), (119, .slice Ax0 x0.length cx0), (120, .slice (Gp u14h) x11.length u14j), (121, .slice Ax1 x1.length cx1), (122, .i x12)] J129 ?_
   refine Op_.ixR_n 23 (.tmp 121) (.tmp 122) 123 0 5 .i64 x12 (gi x1 x12) rfl rfl (fx1.ext (z43.trans z44)) Goes.v (by kernel_rfl) (by kernel_rfl) (by kernel_rfl) (by kernel_rfl) u1ab u1a8 ?_
   intro u1ah _ u1ai u1aj
   obtain rfl := u1aj
   refine Goes.ld 5 (.tmp 123) 124 5 u1ah (.int .u8 (gi x1 x12)) (u1ai.cell 0 _ rfl) ?_
   obtain ⟨S45, z45, p45, u1ak⟩ := p44.freezeRd 0 rfl (u152.ext (z43.trans z44)) (by decide)
   refine bind_some' h fun u1al u1am h => ?_
   refine Gc (kc 15 [119, 120, 124] #[22, 24, 5]) 125 24 15 _ (W.zy x0 x11 (gi x1 x12) u1al u1am Ax0 x0.length cx0 (Gp u14h) x11.length u14j p45 (fx0.ext ((z43.trans z44).trans z45)) rfl u1ak rfl) ?_
   rintro _ w46 ⟨S46, u1an, u1ao, u1ap, u1aq, rfl, z46, p46, u1ar, rfl⟩
   have p46 := p46.dp 1
   refine Gn 11 [(11, .slice (Gp u1an) u1al.length u1ap), (126, .bool true), (127, .bool true), (128, .bool false), (129, .bool false), (130, .bool false), (131, .bool false), (132, .pointer none)] J12c ?_
   refine bind_some' h fun u1as u1at h => ?_
   refine Gc (kc 10 [132] #[25]) 133 4 10 _ (W.z5t u1as u1at  p46 ) ?_
   rintro _ w47 ⟨S47, rfl, z47, p47⟩
   refine Gn 3 [(134, .bool false), (135, .bool false)] J11e ?_
   exact Gj 137 [(0, .slice Ax0 x0.length cx0), (1, .slice Ax1 x1.length cx1), (2, .slice Ax2 x2.length cx2), (7, .pointer none), (11, .slice (Gp u1an) u1al.length u1ap), (12, .i x12), (135, .bool false)] (u1a7 _ _ h _ _ (((((hx.trans z43).trans z44).trans z45).trans z46).trans z47) Ax0 x0.length cx0 Ax1 x1.length cx1 Ax2 x2.length cx2 u1an u1al.length u1ap u1aq p47 (fx0.ext ((((z43.trans z44).trans z45).trans z46).trans z47)) rfl (fx1.ext ((((z43.trans z44).trans z45).trans z46).trans z47)) rfl (fx2.ext ((((z43.trans z44).trans z45).trans z46).trans z47)) rfl (u1ar.ext z47) rfl)
  ·
   rw [decide_eq_false u1a8]
   refine Gn 2 [] J113 ?_
   exact Gj 137 [(0, .slice Ax0 x0.length cx0), (1, .slice Ax1 x1.length cx1), (2, .slice Ax2 x2.length cx2), (7, .pointer none), (11, .slice (Gp u14h) x11.length u14j), (12, .i x12)] (u1a6 _ _ h _ _ hx Ax0 x0.length cx0 Ax1 x1.length cx1 Ax2 x2.length cx2 u14h x11.length u14j u14k u14l p1 fx0 rfl fx1 rfl fx2 rfl u152 rfl)
 ·
  intro u1au u1av ⟨x0, x1, x2, x11, x12⟩ r h S1 w1 hx Ax0 nx0 cx0 Ax1 nx1 cx1 Ax2 nx2 cx2 u14h u14i u14j u14k u14l p1 fx0 lx0 fx1 lx1 fx2 lx2 u152 u153 junk
  try dsimp only at h
  subst lx0
  subst lx1
  subst lx2
  subst u153
  refine Gn 7 [(55, .i x12), (56, .i (wr .i64 (x12 + 1))), (12, .i (wr .i64 (x12 + 1)))] J10z ?_
  exact Gj 137 [(0, .slice Ax0 x0.length cx0), (1, .slice Ax1 x1.length cx1), (2, .slice Ax2 x2.length cx2), (7, .pointer none), (11, .slice (Gp u14h) x11.length u14j), (12, .i (wr .i64 (x12 + 1)))] (u1av _ _ h _ _ hx Ax0 x0.length cx0 Ax1 x1.length cx1 Ax2 x2.length cx2 u14h x11.length u14j u14k u14l p1 fx0 rfl fx1 rfl fx2 rfl u152 rfl)
 ·
  intro u1a4 u1a6 ⟨x0, x1, x2, x11, x12, u14p⟩ r h S1 w1 hx Ax0 nx0 cx0 Ax1 nx1 cx1 Ax2 nx2 cx2 u14h u14i u14j u14k p1 fx0 lx0 fx1 lx1 fx2 lx2 u152 u153 junk
  try dsimp only at h
  subst lx0
  subst lx1
  subst lx2
  subst u153
  refine ite_some h (fun u1aw h => ?_) (fun u1aw h => ?_)
  ·
   rw [u1aw]
   refine Gn 5 [(6, .bool false)] J12d ?_
   obtain rfl := Option.some.inj h
   have p1 := p1.dp 0
   exact Goes.rt Tryz.f3 (.bool false) ⟨S1, rfl, hx, p1⟩
  ·
   have u1ax : u14p = false := by simpa using u1aw
   rw [u1ax]
   refine Gn 2 [] J113 ?_
   exact Gj 137 [(0, .slice Ax0 x0.length cx0), (1, .slice Ax1 x1.length cx1), (2, .slice Ax2 x2.length cx2), (7, .pointer none), (11, .slice (Gp u14h) x11.length u14j), (12, .i x12)] (u1a6 _ _ h _ _ hx Ax0 x0.length cx0 Ax1 x1.length cx1 Ax2 x2.length cx2 u14h x11.length u14j u14k 0 p1 fx0 rfl fx1 rfl fx2 rfl u152 rfl)
 ·
  intro u18g u18h ⟨x0, x1, x2, x11, x12, x13, x14⟩ r h S1 w1 hx Ax0 nx0 cx0 Ax1 nx1 cx1 Ax2 nx2 cx2 u14h u14i u14j u14k u14l u14m u5 u6 u14n p1 fx0 lx0 fx1 lx1 fx2 lx2 u152 u153 u9 ua junk
  try dsimp only at h
  subst lx0
  subst lx1
  subst lx2
  subst u153
  subst ua
  refine Gn 7 [(62, .i x14), (63, .i (wr .i64 (x14 + 1))), (14, .i (wr .i64 (x14 + 1)))] J117 ?_
  exact Gj 137 [(0, .slice Ax0 x0.length cx0), (1, .slice Ax1 x1.length cx1), (2, .slice Ax2 x2.length cx2), (7, .pointer none), (11, .slice (Gp u14h) x11.length u14j), (12, .i x12), (13, .slice (Gp u14m) x13.length u6), (14, .i (wr .i64 (x14 + 1)))] (u18h _ _ h _ _ hx Ax0 x0.length cx0 Ax1 x1.length cx1 Ax2 x2.length cx2 u14h x11.length u14j u14k u14l u14m x13.length u6 u14n p1 fx0 rfl fx1 rfl fx2 rfl u152 rfl u9 rfl)

theorem W.z5v {nz wz S0 w0 Lr} : ∀ a r, M.tidepolelaw12_SimFeeds_l4 a = some r → (L.z5v nz wz S0 w0 Lr) a r := (W.z64).1

theorem W.z5w {nz wz S0 w0 Lr} : ∀ a r, M.tidepolelaw12_SimFeeds_l6 a = some r → (L.z5w nz wz S0 w0 Lr) a r := (W.z64).2.1

theorem W.z5x {nz wz S0 w0 Lr} : ∀ a r, M.tidepolelaw12_SimFeeds_l8 a = some r → (L.z5x nz wz S0 w0 Lr) a r := (W.z64).2.2.1

theorem W.z5z {nz wz S0 w0 Lr} : ∀ a r, M.tidepolelaw12_SimFeeds_l12 a = some r → (L.z5z nz wz S0 w0 Lr) a r := (W.z64).2.2.2.1

theorem W.z60 {nz wz S0 w0 Lr} : ∀ a r, M.tidepolelaw12_SimFeeds_l14 a = some r → (L.z60 nz wz S0 w0 Lr) a r := (W.z64).2.2.2.2.1

theorem W.z61 {nz wz S0 w0 Lr} : ∀ a r, M.tidepolelaw12_SimFeeds_l16 a = some r → (L.z61 nz wz S0 w0 Lr) a r := (W.z64).2.2.2.2.2.1

theorem W.z63 {nz wz S0 w0 Lr} : ∀ a r, M.tidepolelaw12_SimFeeds_l20 a = some r → (L.z63 nz wz S0 w0 Lr) a r := (W.z64).2.2.2.2.2.2.1

theorem W.z62 {nz wz S0 w0 Lr} : ∀ a r, M.tidepolelaw12_SimFeeds_l19 a = some r → (L.z62 nz wz S0 w0 Lr) a r := (W.z64).2.2.2.2.2.2.2.1

theorem W.z5y {nz wz S0 w0 Lr} : ∀ a r, M.tidepolelaw12_SimFeeds_l11 a = some r → (L.z5y nz wz S0 w0 Lr) a r := (W.z64).2.2.2.2.2.2.2.2

def L.z65 : (List T45) × (List Int) × (List Bool) × Int × Bool → Bool → Prop := fun ⟨x0, x1, x2, x10, x41⟩ r => ∀ S1 w1, Ext S0 w0 S1 w1 → ∀ Ax0 nx0 cx0 Ax1 nx1 cx1 Ax2 nx2 cx2 (_ : Hp nz wz S1 w1 (Lr)) (_ : Rd kT45 S1 w1 Ax0 cx0 x0) (_ : x0.length = nx0) (_ : Rd (kInt .u8) S1 w1 Ax1 cx1 x1) (_ : x1.length = nx1) (_ : Rd kBool S1 w1 Ax2 cx2 x2) (_ : x2.length = nx2) (junk : Nat → Value),
 Goes Tryz.prog (base 3) J12f ⟨lfr 137 [(0, .slice Ax0 nx0 cx0), (1, .slice Ax1 nx1 cx1), (2, .slice Ax2 nx2 cx2), (7, .pointer none), (10, .i x10), (41, .bool x41)] junk, []⟩ w1 (Done Tryz.prog 3 (Rets (Post.z5g nz wz S0 w0 Lr r)))

theorem W.z65 {nz wz S0 w0 Lr} : ∀ a r, M.tidepolelaw12_SimFeeds_l2 a = some r → L.z65 nz wz S0 w0 Lr a r := by
 intro ⟨x0, x1, x2, x10, x41⟩ r h S1 w1 hx Ax0 nx0 cx0 Ax1 nx1 cx1 Ax2 nx2 cx2 p1 fx0 lx0 fx1 lx1 fx2 lx2 junk
 rw [M.tidepolelaw12_SimFeeds_l2] at h
 try dsimp only at h
 subst lx0
 subst lx1
 subst lx2
 refine ite_some h (fun h46 h => ?_) (fun h46 h => ?_)
 ·
  rw [h46]
  refine Gn 5 [(6, .bool false)] J12g ?_
  obtain rfl := Option.some.inj h
  exact Goes.rt Tryz.f3 (.bool false) ⟨S1, rfl, hx, p1⟩
 ·
  have u1ay : x41 = false := by simpa using h46
  rw [u1ay]
  refine Gn 8 [(42, .i x10), (43, .bool (!(decide (x10 = 0))))] J12i ?_
  refine ite_some h (fun h47 h => ?_) (fun h47 h => ?_)
  ·
   rw [decide_eq_true h47]
   refine Gn 5 [(45, .slice Ax0 x0.length cx0)] J12k ?_
   refine bind_some' h fun y48 e49 h => ?_
   refine Gc (kc 7 [45] #[22]) 46 24 7 _ (W.zs x0 y48 e49 Ax0 x0.length cx0 p1 fx0 rfl) ?_
   rintro _ w8 ⟨S8, u1az, u13e, u13f, u1b0, rfl, z8, p8, u13g, rfl⟩
   refine Gn 9 [(11, .slice (Gp u1az) y48.length u13f), (12, .i 0)] J10z ?_
   exact Gj 137 [(0, .slice Ax0 x0.length cx0), (1, .slice Ax1 x1.length cx1), (2, .slice Ax2 x2.length cx2), (7, .pointer none), (11, .slice (Gp u1az) y48.length u13f), (12, .i 0)] (W.z5v _ _ h _ _ (hx.trans z8) Ax0 x0.length cx0 Ax1 x1.length cx1 Ax2 x2.length cx2 u1az y48.length u13f u1b0 0 p8 (fx0.ext z8) rfl (fx1.ext z8) rfl (fx2.ext z8) rfl u13g rfl)
  ·
   rw [decide_eq_false h47]
   refine Gn 3 [] J12m ?_
   refine bind_some' h fun y52 e53 h => ?_
   refine Gc (kc 6 [] #[]) 44 4 6 _ (W.z5f y52 e53  p1 ) ?_
   rintro _ w9 ⟨S9, rfl, z9, p9⟩
   refine Gn 2 [(6, .bool y52)] J12l ?_
   obtain rfl := Option.some.inj h
   exact Goes.rt Tryz.f3 (.bool y52) ⟨S9, rfl, (hx.trans z9), p9⟩

def J12p := Zs [1, 1] B3 []
def J12q := Zs [1, 1, 1] B3 []
def J12r := Zt [1, 1, 0] B3 [1, 2, 3, 4, 5, 6] J12q
def J12s := Zs [1, 1, 1, 1] B3 []
def J12t := Zt [1, 1, 1, 0] B3 [1, 2, 3, 4, 5, 6] J12s
def J12u := Zt [1, 1, 1, 1, 0, 0] B3 [4, 5, 6, 7, 8, 9] J12f

def L.z66 : (List T45) × (List Int) × (List Bool) → Bool → Prop := fun ⟨x0, x1, x2⟩ r => ∀ S1 w1, Ext S0 w0 S1 w1 → ∀ Ax0 nx0 cx0 Ax1 nx1 cx1 Ax2 nx2 cx2 (_ : Hp nz wz S1 w1 (Lr)) (_ : Rd kT45 S1 w1 Ax0 cx0 x0) (_ : x0.length = nx0) (_ : Rd (kInt .u8) S1 w1 Ax1 cx1 x1) (_ : x1.length = nx1) (_ : Rd kBool S1 w1 Ax2 cx2 x2) (_ : x2.length = nx2) (junk : Nat → Value),
 Goes Tryz.prog (base 3) J12p ⟨lfr 137 [(0, .slice Ax0 nx0 cx0), (1, .slice Ax1 nx1 cx1), (2, .slice Ax2 nx2 cx2)] junk, []⟩ w1 (Done Tryz.prog 3 (Rets (Post.z5g nz wz S0 w0 Lr r)))

theorem W.z66 {nz wz S0 w0 Lr} : ∀ a r, M.tidepolelaw12_SimFeeds_l0 a = some r → L.z66 nz wz S0 w0 Lr a r := by
 intro ⟨x0, x1, x2⟩ r h S1 w1 hx Ax0 nx0 cx0 Ax1 nx1 cx1 Ax2 nx2 cx2 p1 fx0 lx0 fx1 lx1 fx2 lx2 junk
 rw [M.tidepolelaw12_SimFeeds_l0] at h
 try dsimp only at h
 subst lx0
 subst lx1
 subst lx2
 refine Gn 3 [(23, .slice Ax0 x0.length cx0)] J12r ?_
 refine bind_some' h fun y6 e7 h => ?_
 rcases y6 with u1b1 | u1b2
 ·
  try dsimp only at h
  refine Gc (kc 4 [23] #[22]) 24 27 4 _ (W.ze x0 (Sum.inl u1b1) e7 Ax0 x0.length cx0 p1 fx0 rfl) ?_
  rintro _ w2 ⟨S2, ur4, ur5, ur6, ur7, ur8, ur9, ura, urb, urc, urd, ure, urf, urg, urh, uri, urj, urk, url, urm, urn, uro, urp, urq, rfl, z2, p2, urr, rfl, urs, rfl, urt, rfl, uru, rfl, urv, rfl⟩
  refine Gn 9 [(22, .tuple #[(pt ur4 0), .i u1b1.2]), (25, (pt ur4 0)), (26, .i u1b1.2), (7, (pt ur4 0)), (8, .i u1b1.2), (28, .slice Ax0 x0.length cx0)] J12t ?_
  refine bind_some' h fun y16 e17 h => ?_
  refine Gc (.call { callee := .value (.func 5), args := #[(.tmp 28), (.const (.string ⟨#[]⟩))], argTypes := #[22, 9] }) 29 29 5 _ (W.z19 x0 (⟨#[]⟩ : ByteArray) y16 e17 Ax0 x0.length cx0 p2 (fx0.ext z2) rfl) ?_
  rintro _ w3 ⟨S3, rfl, z3, p3⟩
  refine Gn 13 [(27, .tuple #[.bool y16.1, .i y16.2]), (30, .bool y16.1), (31, .i y16.2), (9, .bool y16.1), (10, .i y16.2), (32, .i u1b1.2), (33, .i y16.2), (34, .bool (!(decide (u1b1.2 = y16.2)))), (35, .bool (!(decide (u1b1.2 = y16.2))))] J12u ?_
  refine ite_some h (fun h18 h => ?_) (fun h18 h => ?_)
  ·
   rw [decide_eq_true h18]
   refine Gn 7 [(36, (pt ur4 0)), (37, .bool false), (38, .i y16.2), (39, .bool (!(decide (y16.2 = 0)))), (40, .bool (!(false == (!(decide (y16.2 = 0)))))), (41, .bool (!(false == (!(decide (y16.2 = 0))))))] J12f ?_
   exact Gj 137 [(0, .slice Ax0 x0.length cx0), (1, .slice Ax1 x1.length cx1), (2, .slice Ax2 x2.length cx2), (7, (pt ur4 0)), (10, .i y16.2), (41, .bool (!(false == (!(decide (y16.2 = 0))))))] (W.z5r _ _ h _ _ ((hx.trans z2).trans z3) Ax0 x0.length cx0 Ax1 x1.length cx1 Ax2 x2.length cx2 ur4 ur5 u1b1.1.l.length ur7 ur8 ur9 ura u1b1.1.now.place.length urc urd ure u1b1.1.now.list.length urg urh uri urj u1b1.1.next.place.length url urm urn u1b1.1.next.list.length urp urq p3 (fx0.ext (z2.trans z3)) rfl (fx1.ext (z2.trans z3)) rfl (fx2.ext (z2.trans z3)) rfl (urr.ext z3) rfl (urs.ext z3) rfl (urt.ext z3) rfl (uru.ext z3) rfl (urv.ext z3) rfl)
  ·
   rw [decide_eq_false h18]
   refine Gn 7 [(36, undef), (37, undef), (38, undef), (39, undef), (40, undef), (41, .bool true)] J12f ?_
   exact Gj 137 [(0, .slice Ax0 x0.length cx0), (1, .slice Ax1 x1.length cx1), (2, .slice Ax2 x2.length cx2), (7, (pt ur4 0)), (10, .i y16.2), (41, .bool true)] (W.z5r _ _ h _ _ ((hx.trans z2).trans z3) Ax0 x0.length cx0 Ax1 x1.length cx1 Ax2 x2.length cx2 ur4 ur5 u1b1.1.l.length ur7 ur8 ur9 ura u1b1.1.now.place.length urc urd ure u1b1.1.now.list.length urg urh uri urj u1b1.1.next.place.length url urm urn u1b1.1.next.list.length urp urq p3 (fx0.ext (z2.trans z3)) rfl (fx1.ext (z2.trans z3)) rfl (fx2.ext (z2.trans z3)) rfl (urr.ext z3) rfl (urs.ext z3) rfl (urt.ext z3) rfl (uru.ext z3) rfl (urv.ext z3) rfl)
 ·
  try dsimp only at h
  refine Gc (kc 4 [23] #[22]) 24 27 4 _ (W.ze x0 (Sum.inr u1b2) e7 Ax0 x0.length cx0 p1 fx0 rfl) ?_
  rintro _ w4 ⟨S4, rfl, z4, p4⟩
  refine Gn 9 [(22, .tuple #[.pointer none, .i u1b2]), (25, .pointer none), (26, .i u1b2), (7, .pointer none), (8, .i u1b2), (28, .slice Ax0 x0.length cx0)] J12t ?_
  refine bind_some' h fun y27 e28 h => ?_
  refine Gc (.call { callee := .value (.func 5), args := #[(.tmp 28), (.const (.string ⟨#[]⟩))], argTypes := #[22, 9] }) 29 29 5 _ (W.z19 x0 (⟨#[]⟩ : ByteArray) y27 e28 Ax0 x0.length cx0 p4 (fx0.ext z4) rfl) ?_
  rintro _ w5 ⟨S5, rfl, z5, p5⟩
  refine Gn 13 [(27, .tuple #[.bool y27.1, .i y27.2]), (30, .bool y27.1), (31, .i y27.2), (9, .bool y27.1), (10, .i y27.2), (32, .i u1b2), (33, .i y27.2), (34, .bool (!(decide (u1b2 = y27.2)))), (35, .bool (!(decide (u1b2 = y27.2))))] J12u ?_
  refine ite_some h (fun h29 h => ?_) (fun h29 h => ?_)
  ·
   rw [decide_eq_true h29]
   refine Gn 7 [(36, .pointer none), (37, .bool true), (38, .i y27.2), (39, .bool (!(decide (y27.2 = 0)))), (40, .bool (!(true == (!(decide (y27.2 = 0)))))), (41, .bool (!(true == (!(decide (y27.2 = 0))))))] J12f ?_
   exact Gj 137 [(0, .slice Ax0 x0.length cx0), (1, .slice Ax1 x1.length cx1), (2, .slice Ax2 x2.length cx2), (7, .pointer none), (10, .i y27.2), (41, .bool (!(true == (!(decide (y27.2 = 0))))))] (W.z65 _ _ h _ _ ((hx.trans z4).trans z5) Ax0 x0.length cx0 Ax1 x1.length cx1 Ax2 x2.length cx2 p5 (fx0.ext (z4.trans z5)) rfl (fx1.ext (z4.trans z5)) rfl (fx2.ext (z4.trans z5)) rfl)
  ·
   rw [decide_eq_false h29]
   refine Gn 7 [(36, undef), (37, undef), (38, undef), (39, undef), (40, undef), (41, .bool true)] J12f ?_
   exact Gj 137 [(0, .slice Ax0 x0.length cx0), (1, .slice Ax1 x1.length cx1), (2, .slice Ax2 x2.length cx2), (7, .pointer none), (10, .i y27.2), (41, .bool true)] (W.z65 _ _ h _ _ ((hx.trans z4).trans z5) Ax0 x0.length cx0 Ax1 x1.length cx1 Ax2 x2.length cx2 p5 (fx0.ext (z4.trans z5)) rfl (fx1.ext (z4.trans z5)) rfl (fx2.ext (z4.trans z5)) rfl)

def J12v := Zs [1, 0, 1] B3 J12p
def J12w := Zt [1, 0, 1, 0] B3 [1, 2] J12p

theorem W.z5g (x0 : List T45) (x1 : List Int) (x2 : List Bool) (r : Bool) (h : M.tidepolelaw12_SimFeeds x0 x1 x2 = some r) {nz wz S0 w0 Lr} (Ax0 nx0 cx0 Ax1 nx1 cx1 Ax2 nx2 cx2) (p0 : Hp nz wz S0 w0 (Lr)) (fx0 : Rd kT45 S0 w0 Ax0 cx0 x0) (lx0 : x0.length = nx0) (fx1 : Rd (kInt .u8) S0 w0 Ax1 cx1 x1) (lx1 : x1.length = nx1) (fx2 : Rd kBool S0 w0 Ax2 cx2 x2) (lx2 : x2.length = nx2) :
  Calls Tryz.prog 3 #[.slice Ax0 nx0 cx0, .slice Ax1 nx1 cx1, .slice Ax2 nx2 cx2] w0 (Rets (Post.z5g nz wz S0 w0 Lr r)) := by
 subst lx0
 subst lx1
 subst lx2
 refine Zf Tryz.f3 B3 134 ?_
 refine Gj 137 [(0, .slice Ax0 x0.length cx0), (1, .slice Ax1 x1.length cx1), (2, .slice Ax2 x2.length cx2)] fun junk => ?_
 delta M.tidepolelaw12_SimFeeds at h
 refine Gn 11 [(6, .bool false), (17, .slice Ax0 x0.length cx0), (18, .i (x0.length : Int)), (19, .bool (decide ((x0.length : Int) > 150)))] J12v ?_
 refine ite_some h (fun h1 h => ?_) (fun h1 h => ?_)
 ·
  rw [decide_eq_true h1]
  refine Gn 3 [(20, .slice Ax0 x0.length cx0)] J12w ?_
  refine guard_some' h fun g2 h => ?_
  refine Op_.slR_n 22 (.tmp 20) none (some (.const (.int .i64 150))) 21 22 46 0 150 (sl x0 0 150) rfl rfl fx0 Goes.v (by kernel_rfl) (by kernel_rfl) (by kernel_rfl) Bnd.no (Bnd.at_ .i64 (by kernel_rfl)) (by decide : (0 : Int) ≤ 0) (by decide : (0 : Int) ≤ 150) g2 ?_
  intro A3 c4 f5
  refine Gn 2 [(0, .slice A3 ((sl x0 0 150).length) c4)] J12p ?_
  exact Gj 137 [(0, .slice A3 ((sl x0 0 150).length) c4), (1, .slice Ax1 x1.length cx1), (2, .slice Ax2 x2.length cx2)] (W.z66 _ _ h _ _ (Ext.refl S0 w0) A3 ((sl x0 0 150).length) c4 Ax1 x1.length cx1 Ax2 x2.length cx2 p0 f5 rfl fx1 rfl fx2 rfl)
 ·
  rw [decide_eq_false h1]
  refine Gn 2 [] J12p ?_
  exact Gj 137 [(0, .slice Ax0 x0.length cx0), (1, .slice Ax1 x1.length cx1), (2, .slice Ax2 x2.length cx2)] (W.z66 _ _ h _ _ (Ext.refl S0 w0) Ax0 x0.length cx0 Ax1 x1.length cx1 Ax2 x2.length cx2 p0 fx0 rfl fx1 rfl fx2 rfl)

end

end Go.Gx
