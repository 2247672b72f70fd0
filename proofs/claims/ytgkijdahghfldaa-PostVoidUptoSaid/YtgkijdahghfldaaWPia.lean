import Derived.Test.YtgkijdahghfldaaMPi

import Derived.Test.YtgkijdahghfldaaGZ

import Derived.Test.YtgkijdahghfldaaGO

import Derived.Test.YtgkijdahghfldaaGK

import Derived.Test.YtgkijdahghfldaaHI

import Derived.Test.YtgkijdahghfldaaOPi

import Derived.Test.YtgkijdahghfldaaProg

set_option linter.unusedVariables false

set_option maxRecDepth 100000

set_option maxHeartbeats 4000000

namespace Go.Gx

open Go.RowKit Go.Proofs

variable (nz : Nat) (wz : World) (S0 : Fz) (w0 : World) (Lr : List Ent)

noncomputable section

def kT53 : Kd T53 := kMap (fun s => (s.Do, s.Key, s.N)) (kProd (kInt .i64) (kProd kStr (kInt .u64)))

def kT66 : Kd T66 := kMap (fun s => s.at_) (kMp 65)

def kT68 : Kd T68 := kMap (fun s => s.l) kT66

def kT58 : Kd T58 := kMap (fun s => (s.Key, s.L)) (kProd kStr (kSl (kInt .u64)))

def kT51 : Kd T51 := kMap (fun s => s.L) (kSl kT58)

noncomputable def B6 : Code := (Try.f6.body).getD .skip

noncomputable def B7 : Code := (Try.f7.body).getD .skip

noncomputable def B8 : Code := (Try.f8.body).getD .skip

noncomputable def B10 : Code := (Try.f10.body).getD .skip

noncomputable def B11 : Code := (Try.f11.body).getD .skip

noncomputable def B16 : Code := (Try.f16.body).getD .skip

noncomputable def B19 : Code := (Try.f19.body).getD .skip

noncomputable def B20 : Code := (Try.f20.body).getD .skip

noncomputable def B23 : Code := (Try.f23.body).getD .skip

noncomputable def B24 : Code := (Try.f24.body).getD .skip

noncomputable def B25 : Code := (Try.f25.body).getD .skip

noncomputable def B26 : Code := (Try.f26.body).getD .skip

noncomputable def B27 : Code := (Try.f27.body).getD .skip

noncomputable def B28 : Code := (Try.f28.body).getD .skip

noncomputable def B29 : Code := (Try.f29.body).getD .skip

noncomputable def B32 : Code := (Try.f32.body).getD .skip

noncomputable def B33 : Code := (Try.f33.body).getD .skip

noncomputable def B34 : Code := (Try.f34.body).getD .skip

noncomputable def B35 : Code := (Try.f35.body).getD .skip

noncomputable def B36 : Code := (Try.f36.body).getD .skip

noncomputable def B37 : Code := (Try.f37.body).getD .skip

noncomputable def B38 : Code := (Try.f38.body).getD .skip

noncomputable def B39 : Code := (Try.f39.body).getD .skip

noncomputable def B40 : Code := (Try.f40.body).getD .skip

noncomputable def B41 : Code := (Try.f41.body).getD .skip

noncomputable def B42 : Code := (Try.f42.body).getD .skip

noncomputable def B43 : Code := (Try.f43.body).getD .skip

noncomputable def B44 : Code := (Try.f44.body).getD .skip

noncomputable def B46 : Code := (Try.f46.body).getD .skip

noncomputable def B47 : Code := (Try.f47.body).getD .skip

noncomputable def B49 : Code := (Try.f49.body).getD .skip

noncomputable def B50 : Code := (Try.f50.body).getD .skip

noncomputable def B52 : Code := (Try.f52.body).getD .skip

noncomputable def B53 : Code := (Try.f53.body).getD .skip

noncomputable def B54 : Code := (Try.f54.body).getD .skip

noncomputable def B55 : Code := (Try.f55.body).getD .skip

noncomputable def B56 : Code := (Try.f56.body).getD .skip

noncomputable def B57 : Code := (Try.f57.body).getD .skip

noncomputable def B58 : Code := (Try.f58.body).getD .skip

noncomputable def B61 : Code := (Try.f61.body).getD .skip

noncomputable def B62 : Code := (Try.f62.body).getD .skip

noncomputable def B63 : Code := (Try.f63.body).getD .skip

noncomputable def B65 : Code := (Try.f65.body).getD .skip

noncomputable def B67 : Code := (Try.f67.body).getD .skip

noncomputable def B68 : Code := (Try.f68.body).getD .skip

noncomputable def B69 : Code := (Try.f69.body).getD .skip

def Q0 := sub [1, 1] B32
def J0 : List Item := [.code Q0]
def Q1 := sub [1, 0] B32
def J1 : List Item := .inRegion (opsOf Q1) [0, 1, 2, 3, 4] :: J0
def J2 : List Item := .inRegion (opsOf Q1) [3, 4] :: J0

def Post.z0 (r : Nat × (List (List (ByteArray × (List Int))))) (v : Value) (w' : World) : Prop :=
 ∃ S' gq u0 Ee0, v = (pt gq 0) ∧ Ext S0 w0 S' w' ∧ Hp nz wz S' w' ((some gq, .row 69 [.map (some u0)] 1 0) :: (none, .seg 65 Ee0) :: Lr) ∧ Pa 65 S' r.1 u0 ∧ Pl (oMap Value.string (kSl (kInt .u64))) S' w' Ee0 r.2

theorem W.z0 (u1 : List (List (ByteArray × (List Int)))) (r : Nat × (List (List (ByteArray × (List Int))))) (h : M.post_New u1 = some r) {nz wz S0 w0 Lr} (u2) (p0 : Hp nz wz S0 w0 ((none, .seg 65 u2) :: Lr)) (u3 : Pl (oMap Value.string (kSl (kInt .u64))) S0 w0 u2 u1) :
  Calls Try.prog 32 #[] w0 (Rets (Post.z0 nz wz S0 w0 Lr r)) := by
 refine calls_of_goes (fn := Try.f32) (c := B32) (by kernel_rfl) (by kernel_rfl) 5 (by kernel_rfl) ?_
 refine Goes.jp 5 [] (fun junk => ?_)
 delta M.post_New at h
 refine Goes.rn 6 [(0, .pointer none)] J1 ?_
 refine Op_.mkM 65 1 65 65 0 Value.string (kSl (kInt .u64)) p0 rfl u3 Goes.v ?_
 intro g1 S2 w2 E2 z2 p2 a3 f4
 have p2 : Hp nz wz S2 w2 ((none, .seg 65 E2) :: Lr) := p2
 refine Goes.rn 2 [(2, .agg #[.map (some g1)]), (3, .agg #[.map (some g1)])] J2 ?_
 refine Op_.box 69 (.tmp 3) 4 47 (.agg #[.map (some g1)]) [.map (some g1)] p2 Goes.v (by kernel_rfl) (by kernel_rfl) ?_
 intro b5 w3 z3 p3
 refine Goes.rn 2 [(0, (pt b5 0))] J0 ?_
 obtain rfl := Option.some.inj h
 exact Goes.rt Try.f32 ((pt b5 0)) ⟨S2, b5, g1, E2, rfl, (((Ext.refl S0 w0).trans z2).trans z3), p3, (a3.ext z3), (f4.ext z3)⟩

def Q2 := sub [1, 1] B16
def J3 : List Item := [.code Q2]
def Q3 := sub [1, 0, 1] B16
def J4 : List Item := .code Q3 :: J3
def Q4 := sub [1, 0, 1, 0, 1] B16
def J5 : List Item := .code Q4 :: J3
def Q5 := sub [1, 1, 1] B16
def J6 : List Item := [.code Q5]
def Q6 := sub [1, 1, 0] B16
def J7 : List Item := .inRegion (opsOf Q6) [4, 5, 6] :: J6

def Post.z1 (r : Int) (v : Value) (w' : World) : Prop :=
 ∃ S', v = .i r ∧ Ext S0 w0 S' w' ∧ Hp nz wz S' w' (Lr)

theorem W.z1 (x0 : Int) (x1 : Int) (r : Int) (h : M.tidepolebase_Among x0 x1 = some r) {nz wz S0 w0 Lr} (p0 : Hp nz wz S0 w0 (Lr)) :
  Calls Try.prog 16 #[.i x0, .i x1] w0 (Rets (Post.z1 nz wz S0 w0 Lr r)) := by
 refine calls_of_goes (fn := Try.f16) (c := B16) (by kernel_rfl) (by kernel_rfl) 11 (by kernel_rfl) ?_
 refine Goes.jp 13 [(0, .i x0), (1, .i x1)] (fun junk => ?_)
 delta M.tidepolebase_Among at h
 refine Goes.rn 10 [(4, .i 0), (5, .i x1), (6, .bool (decide (x1 < 1)))] J4 ?_
 refine ite_some h (fun h1 h => ?_) (fun h1 h => ?_)
 ·
  rw [decide_eq_true h1]
  refine Goes.rn 5 [(4, .i 0)] J5 ?_
  obtain rfl := Option.some.inj h
  exact Goes.rt Try.f16 (.i 0) ⟨S0, rfl, (Ext.refl S0 w0), p0⟩
 ·
  rw [decide_eq_false h1]
  refine Goes.rn 8 [(7, .i x0), (8, .u (wr .u64 x0)), (9, .i x1), (10, .u (wr .u64 x1))] J7 ?_
  refine guard_some' h fun g2 h => ?_
  refine Op_.binrem 35 (.tmp 8) (.tmp 10) 35 11 35 .u64 (wr .u64 x0) (wr .u64 x1) Goes.v (by kernel_rfl) (by kernel_rfl) g2 ?_
  refine Goes.rn 3 [(12, .i (wr .i64 (irem .u64 (wr .u64 x0) (wr .u64 x1)))), (4, .i (wr .i64 (irem .u64 (wr .u64 x0) (wr .u64 x1))))] J6 ?_
  obtain rfl := Option.some.inj h
  exact Goes.rt Try.f16 (.i (wr .i64 (irem .u64 (wr .u64 x0) (wr .u64 x1)))) ⟨S0, rfl, (Ext.refl S0 w0), p0⟩

def Q7 := sub [1, 1] B52
def J8 : List Item := [.code Q7]
def Q8 := sub [1, 0] B52
def J9 : List Item := .inRegion (opsOf Q8) [7, 8, 9, 10] :: J8

def Post.z2 (gx0 : Nat) (u4 : Nat) (u5 : Nat) (r : Unit) (v : Value) (w' : World) : Prop :=
 ∃ S', v = .bool true ∧ Ext S0 w0 S' w' ∧ Hp nz wz S' w' ((some gx0, .row 69 [.map (some u4)] 1 0) :: Lr)

theorem W.z2 (u5 : Nat) (r : Unit) (h : M.post_Index_is u5 = some r) {nz wz S0 w0 Lr} (gx0 u4) (p0 : Hp nz wz S0 w0 ((some gx0, .row 69 [.map (some u4)] 1 0) :: Lr)) (u6 : Pa 65 S0 u5 u4) :
  Calls Try.prog 52 #[(pt gx0 0)] w0 (Rets (Post.z2 nz wz S0 w0 Lr gx0 u4 u5 r)) := by
 refine calls_of_goes (fn := Try.f52) (c := B52) (by kernel_rfl) (by kernel_rfl) 12 (by kernel_rfl) ?_
 refine Goes.jp 13 [(0, (pt gx0 0))] (fun junk => ?_)
 delta M.post_Index_is at h
 refine Goes.rn 13 [(2, .bool false), (3, (pt gx0 0)), (4, .bool true), (5, .bool true), (6, (pt gx0 0)), (7, (pt gx0 0)), (8, (pt gx0 0)), (9, (pt gx0 0))] J9 ?_
 refine Goes.ld 65 (.tmp 9) 10 65 ⟨gx0, 0, none⟩ (.map (some u4)) (p0.c 0 0) ?_
 refine Goes.rn 4 [(11, .bool true), (12, .bool true), (2, .bool true)] J8 ?_
 obtain rfl := Option.some.inj h
 exact Goes.rt Try.f52 (.bool true) ⟨S0, rfl, (Ext.refl S0 w0), p0⟩

def Q9 := sub [1, 1] B50
def Ja : List Item := [.code Q9]
def Jb : List Item := .inBlock 0 :: Ja
def Qa := sub [1, 0, 1, 0, 0] B50
def Jc : List Item := .inLoop Qa :: Jb
def Jd : List Item := .code Qa :: Jc
def Qb := sub [1, 0, 1, 0, 0, 1] B50
def Je : List Item := .code Qb :: Jc
def Qc := sub [1, 0, 1, 0, 0, 0, 1] B50
def Jf : List Item := .code Qc :: Je
def Qd := sub [1, 0, 1, 0, 0, 1, 1] B50
def Jg : List Item := .code Qd :: Jc
def Jh : List Item := .inBlock 1 :: Jg
def Qe := sub [1, 0, 1, 0, 0, 1, 0, 0, 1] B50
def Ji : List Item := .code Qe :: Jh
def Qf := sub [1, 0, 1, 0, 0, 1, 0, 0, 0] B50
def Jj : List Item := .code Qf :: Ji
def Qg := sub [1, 0, 1, 0, 0, 1, 0, 0, 1, 0, 1] B50
def Jk : List Item := .code Qg :: Jh
def Qh := sub [1, 1, 1] B50
def Jl : List Item := [.code Qh]

def Post.z3 (r : Bool) (v : Value) (w' : World) : Prop :=
 ∃ S', v = .bool r ∧ Ext S0 w0 S' w' ∧ Hp nz wz S' w' (Lr)

def L.z4 : (List Int) × Int → Bool → Prop := fun ⟨x0, x3⟩ r => ∀ S1 w1, Ext S0 w0 S1 w1 → ∀ Ax0 nx0 cx0 (_ : Hp nz wz S1 w1 (Lr)) (_ : Rd (kInt .u64) S1 w1 Ax0 cx0 x0) (_ : x0.length = nx0) (junk : Nat → Value),
 Goes Try.prog (base 50) Jd ⟨lfr 20 [(0, .slice Ax0 nx0 cx0), (3, .i x3)] junk, []⟩ w1 (Done Try.prog 50 (Rets (Post.z3 nz wz S0 w0 Lr r)))

theorem W.z4 {nz wz S0 w0 Lr} : ∀ a r, M.post_rises_uint64_l0 a = some r → (L.z4 nz wz S0 w0 Lr) a r := by
 refine M.post_rises_uint64_l0.partial_correctness (motive := (L.z4 nz wz S0 w0 Lr)) ?_
 intro u7 u8 ⟨x0, x3⟩ r h S1 w1 hx Ax0 nx0 cx0 p1 fx0 lx0 junk
 try dsimp only at h
 subst lx0
 refine Goes.rn 8 [(4, .i x3), (5, .slice Ax0 x0.length cx0), (6, .i (x0.length : Int)), (7, .bool (decide (x3 < (x0.length : Int))))] Jf ?_
 refine ite_some h (fun h1 h => ?_) (fun h1 h => ?_)
 ·
  rw [decide_eq_true h1]
  refine Goes.rn 5 [] Jj ?_
  have z2 : Ext S1 w1 S1 (w1).drew := Ext.draw
  have p2 := p1.draw
  refine Goes.drawn (s := []) (F := Fc S1 (w1).drew []) 4 10 (by kernel_rfl) (by kernel_rfl) (by kernel_rfl) (by kernel_rfl) ?_
  generalize (w1).drew = w2 at z2 p2 ⊢
  refine AnyG.pu 0 (.move (.tmp 0)) 10 22 (.slice Ax0 x0.length cx0) (Fc.here trivial) ?_
  refine AnyG.pu 1 (.move (.tmp 3)) 11 3 (.i x3) (Fc.here trivial) ?_
  refine AnyG.pu 2 (.binOp .sub 3 (.tmp 11) (.const (.int .i64 1)) 3) 12 3 (.i (wr .i64 (x3 - 1))) (Fc.here trivial) ?_
  refine guard_some' h fun g2 h => ?_
  refine guard_some' h fun g3 h => ?_
  refine AnyG.ixR_n (i := 3) 22 (.tmp 10) (.tmp 12) 13 0 35 .i64 (wr .i64 (x3 - 1)) (gi x0 (wr .i64 (x3 - 1))) rfl rfl (fx0.ext z2) (by kernel_rfl) (by kernel_rfl) (Fc.here trivial) (by kernel_rfl) (by kernel_rfl) (by kernel_rfl) (by kernel_rfl) g2 g3 ?_
  intro a4 _ f5 q6
  obtain rfl := q6
  refine AnyG.ld1 (i := 4) 35 (.tmp 13) 14 35 a4 (.u (gi x0 (wr .i64 (x3 - 1)))) (by kernel_rfl) (by kernel_rfl) (Fc.here trivial) (by kernel_rfl) (by kernel_rfl) (fun _ h => f5.fc h 0 _ rfl) ?_
  refine AnyG.pu 5 (.move (.tmp 0)) 15 22 (.slice Ax0 x0.length cx0) (Fc.here trivial) ?_
  refine AnyG.pu 6 (.move (.tmp 3)) 16 3 (.i x3) (Fc.here trivial) ?_
  refine guard_some' h fun g7 h => ?_
  refine AnyG.ixR_n (i := 7) 22 (.tmp 15) (.tmp 16) 17 0 35 .i64 x3 (gi x0 x3) rfl rfl (fx0.ext z2) (by kernel_rfl) (by kernel_rfl) (Fc.here trivial) (by kernel_rfl) (by kernel_rfl) (by kernel_rfl) (by kernel_rfl) g7 h1 ?_
  intro a8 _ f9 q10
  obtain rfl := q10
  refine AnyG.ld1 (i := 8) 35 (.tmp 17) 18 35 a8 (.u (gi x0 x3)) (by kernel_rfl) (by kernel_rfl) (Fc.here trivial) (by kernel_rfl) (by kernel_rfl) (fun _ h => f9.fc h 0 _ rfl) ?_
  refine AnyG.pu 9 (.binOp .geq 35 (.tmp 14) (.tmp 18) 35) 19 4 (.bool (decide (gi x0 (wr .i64 (x3 - 1)) ≥ gi x0 x3))) (Fc.here trivial) ?_
  refine AnyG.done (by kernel_rfl) ?_ _
  refine ite_some h (fun h11 h => ?_) (fun h11 h => ?_)
  ·
   rw [decide_eq_true h11]
   refine Goes.rn 5 [(2, .bool false)] Jk ?_
   obtain rfl := Option.some.inj h
   exact Goes.rt Try.f50 (.bool false) ⟨S1, rfl, (hx.trans z2), p2⟩
  ·
   rw [decide_eq_false h11]
   refine Goes.rn 9 [(8, .i x3), (9, .i (wr .i64 (x3 + 1))), (3, .i (wr .i64 (x3 + 1)))] Jd ?_
   exact Goes.jp 20 [(0, .slice Ax0 x0.length cx0), (3, .i (wr .i64 (x3 + 1)))] (u8 _ _ h _ _ (hx.trans z2) Ax0 x0.length cx0 p2 (fx0.ext z2) rfl)
 ·
  rw [decide_eq_false h1]
  refine Goes.rn 6 [(2, .bool true)] Jl ?_
  obtain rfl := Option.some.inj h
  exact Goes.rt Try.f50 (.bool true) ⟨S1, rfl, hx, p1⟩

theorem W.z3 (x0 : List Int) (r : Bool) (h : M.post_rises_uint64 x0 = some r) {nz wz S0 w0 Lr} (Ax0 nx0 cx0) (p0 : Hp nz wz S0 w0 (Lr)) (fx0 : Rd (kInt .u64) S0 w0 Ax0 cx0 x0) (lx0 : x0.length = nx0) :
  Calls Try.prog 50 #[.slice Ax0 nx0 cx0] w0 (Rets (Post.z3 nz wz S0 w0 Lr r)) := by
 subst lx0
 refine calls_of_goes (fn := Try.f50) (c := B50) (by kernel_rfl) (by kernel_rfl) 19 (by kernel_rfl) ?_
 refine Goes.jp 20 [(0, .slice Ax0 x0.length cx0)] (fun junk => ?_)
 delta M.post_rises_uint64 at h
 refine Goes.rn 11 [(2, .bool false), (3, .i 1)] Jd ?_
 exact Goes.jp 20 [(0, .slice Ax0 x0.length cx0), (3, .i 1)] (W.z4 _ _ h _ _ (Ext.refl S0 w0) Ax0 x0.length cx0 p0 fx0 rfl)

def Qi := sub [1, 1] B23
def Jm : List Item := [.code Qi]
def Qj := sub [1, 0, 1] B23
def Jn : List Item := .code Qj :: Jm
def Qk := sub [1, 0, 0] B23
def Jo : List Item := .inRegion (opsOf Qk) [1, 2] :: Jn
def Ql := sub [1, 1, 1] B23
def Jp : List Item := [.code Ql]
def Qm := sub [1, 0, 1, 0, 1] B23
def Jq : List Item := .code Qm :: Jm

def Post.z5 (r : Int) (v : Value) (w' : World) : Prop :=
 ∃ S', v = .i r ∧ Ext S0 w0 S' w' ∧ Hp nz wz S' w' (Lr)

theorem W.z5 (x0 : List Int) (r : Int) (h : M.post_Check x0 = some r) {nz wz S0 w0 Lr} (Ax0 nx0 cx0) (p0 : Hp nz wz S0 w0 (Lr)) (fx0 : Rd (kInt .u64) S0 w0 Ax0 cx0 x0) (lx0 : x0.length = nx0) :
  Calls Try.prog 23 #[.slice Ax0 nx0 cx0] w0 (Rets (Post.z5 nz wz S0 w0 Lr r)) := by
 subst lx0
 refine calls_of_goes (fn := Try.f23) (c := B23) (by kernel_rfl) (by kernel_rfl) 5 (by kernel_rfl) ?_
 refine Goes.jp 6 [(0, .slice Ax0 x0.length cx0)] (fun junk => ?_)
 delta M.post_Check at h
 refine Goes.rn 8 [(2, .i 0), (3, .slice Ax0 x0.length cx0)] Jo ?_
 refine bind_some' h fun y1 e2 h => ?_
 refine Goes.cal (kc 50 [3] #[22]) 4 4 50 _ (W.z3 x0 y1 e2 Ax0 x0.length cx0 p0 fx0 rfl) ?_
 rintro _ w2 ⟨S2, rfl, z2, p2⟩
 refine Goes.rn 2 [(5, .bool (!y1))] Jn ?_
 refine ite_some h (fun h3 h => ?_) (fun h3 h => ?_)
 ·
  rw [h3]
  refine Goes.rn 6 [(2, .i 0)] Jp ?_
  obtain rfl := Option.some.inj h
  exact Goes.rt Try.f23 (.i 0) ⟨S2, rfl, ((Ext.refl S0 w0).trans z2), p2⟩
 ·
  have h3' : y1 = false := by simpa using h3
  rw [h3']
  refine Goes.rn 5 [(2, .i 2)] Jq ?_
  obtain rfl := Option.some.inj h
  exact Goes.rt Try.f23 (.i 2) ⟨S2, rfl, ((Ext.refl S0 w0).trans z2), p2⟩

def Qn := sub [1, 1] B55
def Jr : List Item := [.code Qn]
def Qo := sub [1, 0, 1] B55
def Js : List Item := .code Qo :: Jr
def Qp := sub [1, 0, 0] B55
def Jt : List Item := .inRegion (opsOf Qp) [1] :: Js
def Qq := sub [1, 0, 1, 0, 1] B55
def Ju : List Item := .code Qq :: Jr
def Qr := sub [1, 1, 1] B55
def Jv : List Item := [.code Qr]
def Qs := sub [1, 1, 0] B55
def Jw : List Item := .inRegion (opsOf Qs) [0, 1, 2, 3] :: Jv
def Jx : List Item := .inRegion (opsOf Qs) [2, 3] :: Jv

def Post.z6 (r : List Int) (v : Value) (w' : World) : Prop :=
 ∃ S' Gq nq cq csq, v = .slice (Gp Gq) nq cq ∧ Ext S0 w0 S' w' ∧ Hp nz wz S' w' ((Gq, .row 35 csq (cq * (kInt .u64).size) 0) :: Lr) ∧ Els (kInt .u64) S' w' csq r ∧ r.length = nq

theorem W.z6 (x0 : List Int) (r : List Int) (h : M.slices_Clone_uint64_uint64 x0 = some r) {nz wz S0 w0 Lr} (Ax0 nx0 cx0) (p0 : Hp nz wz S0 w0 (Lr)) (fx0 : Rd (kInt .u64) S0 w0 Ax0 cx0 x0) (lx0 : x0.length = nx0) :
  Calls Try.prog 55 #[.slice Ax0 nx0 cx0] w0 (Rets (Post.z6 nz wz S0 w0 Lr r)) := by
 subst lx0
 refine calls_of_goes (fn := Try.f55) (c := B55) (by kernel_rfl) (by kernel_rfl) 7 (by kernel_rfl) ?_
 refine Goes.jp 8 [(0, .slice Ax0 x0.length cx0)] (fun junk => ?_)
 delta M.slices_Clone_uint64_uint64 at h
 refine Goes.rn 8 [(2, .slice none 0 0), (3, .slice Ax0 x0.length cx0)] Jt ?_
 rcases Rd.isnil fx0 with ⟨rfl, rfl, rfl⟩ | ⟨a1, rfl⟩
 ·
  replace h : (some ([] : List Int)) = some r := by first | exact h | (simpa using h) | (simp at h ⊢; exact h)
  refine Goes.rn 7 [(4, .bool true), (2, .slice none 0 0)] Ju ?_
  have p0 : Hp nz wz S0 w0 ((none, .row 35 [] (0 * (kInt .u64).size) 0) :: Lr) := p0.nilRow' 35
  obtain rfl := Option.some.inj h
  exact Goes.rt Try.f55 (.slice (Gp none) 0 0) ⟨S0, none, 0, 0, [], rfl, (Ext.refl S0 w0), p0, (Els.nil (K := (kInt .u64))), rfl⟩
 ·
  refine Goes.rn 6 [(4, .bool false)] Jw ?_
  have f4 : Els (kInt .u64) S0 w0 ([] : List Value) ([] : List Int) := by exact Els.nil
  refine Op_.made (.buildSlice 22 0 #[]) 5 22 (fun b => .slice (Gp (some b)) 0 0) 35 ([] : List Value) p0 Goes.v (by kernel_rfl) ?_
  intro b3 w2 z2 p2
  have p2 : Hp nz wz S0 w2 (((some b3), .row 35 ([] : List Value) (0 * (kInt .u64).size) 0) :: Lr) := p2
  refine Goes.rn 1 [(6, .slice (some a1) x0.length cx0)] Jx ?_
  obtain ⟨ns6, f7, f8⟩ := src_rd (fx0.ext z2)
  refine guard_some' h fun g9 h => ?_
  refine Op_.ap_n (K := (kInt .u64)) 22 (.tmp 5) (.tmp 6) 7 22 35 0 (.u 0) 8 0 0 x0.length ([] : List Int) x0 x0 (some a1) cx0 rfl rfl (List.nil_append _) p2 rfl (f4.ext z2) Goes.v (by kernel_rfl) (by kernel_rfl) (by kernel_rfl) (by kernel_rfl) rfl (by decide) f7 f8 (by have := g9; omega) (by have := g9; omega) ?_
  intro w3 G10 c11 u9 z3 p3 f13
  refine Goes.rn 2 [(2, .slice (Gp G10) x0.length c11)] Jv ?_
  obtain rfl := Option.some.inj h
  exact Goes.rt Try.f55 (.slice (Gp G10) x0.length c11) ⟨S0, G10, x0.length, c11, u9, rfl, (((Ext.refl S0 w0).trans z2).trans z3), p3, f13, rfl⟩

def Qt := sub [1] B63
def Jy : List Item := [.code Qt]
def Qu := sub [0] B63
def Jz : List Item := .inRegion (opsOf Qu) [0, 1, 2] :: Jy
def Qv := sub [1, 1] B63
def J10 : List Item := [.code Qv]

def Post.z7 (r : (List Int) × (List Int)) (v : Value) (w' : World) : Prop :=
 ∃ S' ua ub uc ud ue uf ug uh, v = .func (.func 68) #[] #[(pt ua 0), (pt ue 0)] ∧ Ext S0 w0 S' w' ∧ Hp nz wz S' w' ((some ua, .row 22 [.slice ub uc ud] 1 0) :: (some ue, .row 22 [.slice uf ug uh] 1 0) :: Lr) ∧ Rd (kInt .u64) S' w' ub ud r.1 ∧ r.1.length = uc ∧ Rd (kInt .u64) S' w' uf uh r.2 ∧ r.2.length = ug

theorem W.z7 (x0 : List Int) (x1 : List Int) (r : (List Int) × (List Int)) (h : M.post_merge_uint64 x0 x1 = some r) {nz wz S0 w0 Lr} (Ax0 nx0 cx0 Ax1 nx1 cx1) (p0 : Hp nz wz S0 w0 (Lr)) (fx0 : Rd (kInt .u64) S0 w0 Ax0 cx0 x0) (lx0 : x0.length = nx0) (fx1 : Rd (kInt .u64) S0 w0 Ax1 cx1 x1) (lx1 : x1.length = nx1) :
  Calls Try.prog 63 #[.slice Ax0 nx0 cx0, .slice Ax1 nx1 cx1] w0 (Rets (Post.z7 nz wz S0 w0 Lr r)) := by
 subst lx0
 subst lx1
 refine calls_of_goes (fn := Try.f63) (c := B63) (by kernel_rfl) (by kernel_rfl) 4 (by kernel_rfl) ?_
 refine Goes.jp 6 [(0, .slice Ax0 x0.length cx0), (1, .slice Ax1 x1.length cx1)] (fun junk => ?_)
 delta M.post_merge_uint64 at h
 refine Goes.rn 2 [] Jz ?_
 refine Op_.box 22 (.tmp 0) 2 0 (.slice Ax0 x0.length cx0) [.slice Ax0 x0.length cx0] p0 Goes.v (by kernel_rfl) (by kernel_rfl) ?_
 intro b1 w2 z2 p2
 refine Op_.box 22 (.tmp 1) 3 0 (.slice Ax1 x1.length cx1) [.slice Ax1 x1.length cx1] p2 Goes.v (by kernel_rfl) (by kernel_rfl) ?_
 intro b3 w3 z3 p3
 refine Goes.rn 7 [(4, .func (.func 68) #[] #[(pt b1 0), (pt b3 0)]), (5, .func (.func 68) #[] #[(pt b1 0), (pt b3 0)])] J10 ?_
 obtain rfl := Option.some.inj h
 have p3 := (p3.fr 0).fr 1
 exact Goes.rt Try.f63 (.func (.func 68) #[] #[(pt b1 0), (pt b3 0)]) ⟨S0, b1, Ax0, x0.length, cx0, b3, Ax1, x1.length, cx1, rfl, (((Ext.refl S0 w0).trans z2).trans z3), p3, (fx0.ext (z2.trans z3)), rfl, (fx1.ext (z2.trans z3)), rfl⟩

def Qw := sub [1, 1] B47
def J11 : List Item := [.code Qw]

def Post.z8 (r : Bool) (v : Value) (w' : World) : Prop :=
 ∃ S', v = .bool r ∧ Ext S0 w0 S' w' ∧ Hp nz wz S' w' (Lr)

theorem W.z8 (x0 : Int) (r : Bool) (h : M.post_one x0 = some r) {nz wz S0 w0 Lr} (p0 : Hp nz wz S0 w0 (Lr)) :
  Calls Try.prog 47 #[.i x0] w0 (Rets (Post.z8 nz wz S0 w0 Lr r)) := by
 refine calls_of_goes (fn := Try.f47) (c := B47) (by kernel_rfl) (by kernel_rfl) 4 (by kernel_rfl) ?_
 refine Goes.jp 5 [(0, .i x0)] (fun junk => ?_)
 delta M.post_one at h
 refine Goes.rn 10 [(2, .bool (!(decide (x0 = 0)))), (3, .i x0), (4, .bool (!(decide (x0 = 0))))] J11 ?_
 obtain rfl := Option.some.inj h
 exact Goes.rt Try.f47 (.bool (!(decide (x0 = 0)))) ⟨S0, rfl, (Ext.refl S0 w0), p0⟩

def J12 : List Item := [.inBlock 1]
def Qx := sub [1, 1, 0, 1, 0, 1, 0, 1] B58
def J13 : List Item := .code Qx :: J12
def Qy := sub [1, 1, 0, 1, 0, 1, 0, 0] B58
def J14 : List Item := .inRegion (opsOf Qy) [0, 1, 2] :: J13
def J15 : List Item := .inRegion (opsOf Qy) [2] :: J13
def Qz := sub [1, 1, 0, 1, 0, 1, 0, 1, 0] B58
def J16 : List Item := .inRegion (opsOf Qz) [0, 1, 2, 3, 4] :: J12
def J17 : List Item := .inRegion (opsOf Qz) [2, 3, 4] :: J12
def Q10 := sub [1, 1, 0, 1, 0] B58
def Q11 := sub [1, 1, 0, 1, 0, 1] B58

def Post.z9 (lk : Nat) (rk : Nat) (jkk : Nat → Value) (ui : Nat) (uj : Nat) (uk : Nat) (ul : Option Addr) (um : Nat) (un : Nat) (uo : Nat) (up : Option Addr) (uq : Nat) (ur : Nat) (ut : List Int) (uu : List Int) (r : List Int) (v : Value) (w' : World) : Prop :=
 ∃ S' uv uw ux uy, v = .bool true ∧ Ext S0 w0 S' w' ∧ Hp nz wz S' w' ((some lk, .obj (lpst 58 (lfr 23 [(5, (pt ui 0)), (7, (pt uj 0)), (12, .func (.func 68) #[] #[(pt uk 0), (pt uo 0)])] jkk) #[13, 14] (rfAssign (Q10)) (rfBody (Q10)) rk .ready none)) :: (some ui, .row 72 [.func (.func 47) #[] #[]] 1 0) :: (some uj, .row 22 [.slice (Gp uv) uw ux] 1 0) :: (uv, .row 35 uy (ux * (kInt .u64).size) 0) :: (some uk, .row 22 [.slice ul um un] 1 0) :: (some uo, .row 22 [.slice up uq ur] 1 0) :: Lr) ∧ Els (kInt .u64) S' w' uy r ∧ r.length = uw

theorem W.z9 (uz : List Int) (ut : List Int) (uu : List Int) (a0 : Int) (a1 : Int) (r : List Int) (h : M.post_those_uint64__r uz ut uu a0 a1 = some r) {nz wz S0 w0 Lr} (lk rk jkk ui uj u10 u11 u12 u13 uk ul um un uo up uq ur) (p0 : Hp nz wz S0 w0 ((some lk, .obj (lpst 58 (lfr 23 [(5, (pt ui 0)), (7, (pt uj 0)), (12, .func (.func 68) #[] #[(pt uk 0), (pt uo 0)])] jkk) #[13, 14] (rfAssign (Q10)) (rfBody (Q10)) rk .ready none)) :: (some ui, .row 72 [.func (.func 47) #[] #[]] 1 0) :: (some uj, .row 22 [.slice (Gp u10) u11 u12] 1 0) :: (u10, .row 35 u13 (u12 * (kInt .u64).size) 0) :: (some uk, .row 22 [.slice ul um un] 1 0) :: (some uo, .row 22 [.slice up uq ur] 1 0) :: Lr)) (u14 : Els (kInt .u64) S0 w0 u13 uz) (u15 : uz.length = u11) (u16 : Rd (kInt .u64) S0 w0 ul un ut) (u17 : ut.length = um) (u18 : Rd (kInt .u64) S0 w0 up ur uu) (u19 : uu.length = uq) :
  Goes Try.prog (rbase 58 lk) [.code (rfAssign (Q10)), .beginRound, .code (rfBody (Q10))] ⟨setp (lfr 23 [(5, (pt ui 0)), (7, (pt uj 0)), (12, .func (.func 68) #[] #[(pt uk 0), (pt uo 0)])] jkk) #[13, 14] #[.u a0, .i a1], []⟩ w0 (DoneR (Post.z9 nz wz S0 w0 Lr lk rk jkk ui uj uk ul um un uo up uq ur ut uu r)) := by
 subst u15
 subst u17
 subst u19
 refine Goes.jp 23 [(5, (pt ui 0)), (7, (pt uj 0)), (12, .func (.func 68) #[] #[(pt uk 0), (pt uo 0)]), (13, .u a0), (14, .i a1)] (fun junk => ?_)
 delta M.post_those_uint64__r at h
 refine Goes.rn 7 [(8, .u a0), (9, .i a1)] [.beginRound, .code (Q11)] ?_
 refine Goes.beginR 0 rfl p0 rfl ?_
 intro w2 z2 p2
 refine Goes.rn 3 [] J14 ?_
 refine Goes.ld 72 (.tmp 5) 15 72 ⟨ui, 0, none⟩ (.func (.func 47) #[] #[]) (p2.c 1 0) ?_
 refine Goes.rn 1 [(16, .i a1)] J15 ?_
 refine bind_some' h fun y7 e8 h => ?_
 refine Goes.cal (.call { callee := .value (.tmp 15), args := #[(.tmp 16)], argTypes := #[3] }) 17 4 47 _ (W.z8 a1 y7 e8  p2 ) ?_
 rintro _ w3 ⟨S3, rfl, z3, p3⟩
 refine Goes.rn 1 [] J13 ?_
 refine ite_some h (fun h9 h => ?_) (fun h9 h => ?_)
 ·
  rw [h9]
  refine Goes.rn 2 [] J16 ?_
  refine Goes.ld 22 (.tmp 7) 18 22 ⟨uj, 0, none⟩ (.slice (Gp u10) uz.length u12) (p3.c 2 0) ?_
  refine Goes.rn 1 [(19, .u a0)] J17 ?_
  have f11 : Els (kInt .u64) S3 w3 ([.u a0] : List Value) [a0] := by exact (Els.cons (K := (kInt .u64)) (vs := [.u a0]) (x := a0) rfl Els.nil)
  refine Op_.made (.buildSlice 22 1 #[(0, (.tmp 19))]) 20 22 (fun b => .slice (Gp (some b)) 1 1) 35 ([.u a0] : List Value) p3 Goes.v (by kernel_rfl) ?_
  intro b10 w4 z4 p4
  have p4 : Hp nz wz S3 w4 (((some b10), .row 35 ([.u a0] : List Value) (1 * (kInt .u64).size) 0) :: (some lk, .obj (lpst 58 (lfr 23 [(5, (pt ui 0)), (7, (pt uj 0)), (12, .func (.func 68) #[] #[(pt uk 0), (pt uo 0)])] jkk) #[13, 14] (rfAssign (Q10)) (rfBody (Q10)) rk .busy none)) :: (some ui, .row 72 [.func (.func 47) #[] #[]] 1 0) :: (some uj, .row 22 [.slice (Gp u10) uz.length u12] 1 0) :: (u10, .row 35 u13 (u12 * (kInt .u64).size) 0) :: (some uk, .row 22 [.slice ul ut.length un] 1 0) :: (some uo, .row 22 [.slice up uu.length ur] 1 0) :: Lr) := p4
  refine guard_some' h fun g16 h => ?_
  refine Op_.ap_n (K := (kInt .u64)) 22 (.tmp 18) (.tmp 20) 21 22 35 4 (.u 0) 8 uz.length u12 1 uz [a0] (uz ++ [a0]) (Gp (some b10)) 1 rfl rfl rfl p4 rfl (u14.ext ((z2.trans z3).trans z4)) Goes.v (by kernel_rfl) (by kernel_rfl) (by kernel_rfl) (by kernel_rfl) rfl (by decide) (f11.ext z4) (src_own p4 (q := 0) rfl) (by have := g16; omega) (by have := g16; omega) ?_
  intro w5 G17 c18 u1a z5 p5 f20
  refine Op_.st 22 (.tmp 7) (.tmp 21) 0 3 uj 0 (.slice (Gp G17) ((uz ++ [a0]).length) c18) [.slice (Gp G17) ((uz ++ [a0]).length) c18] p5 rfl Goes.s (by kernel_rfl) (by kernel_rfl) (by kernel_rfl) (by kernel_rfl) (Nat.zero_le _) (by simp only [List.length_cons, List.length_nil]; omega) (by simp [Value.oneCell']) ?_
  intro w6 z6 p6
  have p6 : Hp nz wz S3 w6 (((some b10), .row 35 ([.u a0] : List Value) (1 * (kInt .u64).size) 0) :: (some lk, .obj (lpst 58 (lfr 23 [(5, (pt ui 0)), (7, (pt uj 0)), (12, .func (.func 68) #[] #[(pt uk 0), (pt uo 0)])] jkk) #[13, 14] (rfAssign (Q10)) (rfBody (Q10)) rk .busy none)) :: (some ui, .row 72 [.func (.func 47) #[] #[]] 1 0) :: (some uj, .row 22 [.slice (Gp G17) ((uz ++ [a0]).length) c18] 1 0) :: (G17, .row 35 u1a (c18 * (kInt .u64).size) 0) :: (some uk, .row 22 [.slice ul ut.length un] 1 0) :: (some uo, .row 22 [.slice up uu.length ur] 1 0) :: Lr) := p6
  refine Goes.rn 2 [] [] ?_
  have p6 := p6.dp 0
  obtain rfl := Option.some.inj h
  refine Goes.endR 0 p6 rfl ?_
  intro w7 z7 p7
  exact ⟨S3, G17, (uz ++ [a0]).length, c18, u1a, rfl, (((((((Ext.refl S0 w0).trans z2).trans z3).trans z4).trans z5).trans z6).trans z7), p7, (f20.ext (z6.trans z7)), rfl⟩
 ·
  have h9' : y7 = false := by simpa using h9
  rw [h9']
  refine Goes.rn 3 [] [] ?_
  obtain rfl := Option.some.inj h
  refine Goes.endR 0 p3 rfl ?_
  intro w8 z8 p8
  exact ⟨S3, u10, uz.length, u12, u13, rfl, ((((Ext.refl S0 w0).trans z2).trans z3).trans z8), p8, (u14.ext ((z2.trans z3).trans z8)), rfl⟩

def J18 : List Item := [.inBlock 0]
def Q12 := sub [0, 0] B68
def J19 : List Item := .inLoop Q12 :: J18
def J1a : List Item := .code Q12 :: J19
def Q13 := sub [0, 0, 1] B68
def J1b : List Item := .code Q13 :: J19
def Q14 := sub [0, 0, 0, 1] B68
def J1c : List Item := .code Q14 :: J1b
def J1d : List Item := .inBlock 1 :: J19
def Q15 := sub [0, 0, 1, 0, 1, 1] B68
def J1e : List Item := .code Q15 :: J1d
def Q16 := sub [0, 0, 1, 0, 1, 0, 1] B68
def J1f : List Item := .code Q16 :: J1e
def Q17 := sub [0, 0, 1, 0, 1, 1, 1] B68
def J1g : List Item := .code Q17 :: J1d
def Q18 := sub [0, 0, 1, 0, 1, 1, 0, 1] B68
def J1h : List Item := .code Q18 :: J1g
def Q19 := sub [0, 0, 1, 0, 1, 1, 1, 1, 1] B68
def J1i : List Item := .code Q19 :: J1d
def Q1a := sub [0, 0, 1, 0, 1, 1, 1, 1, 1, 1] B68
def J1j : List Item := .code Q1a :: J1d
def Q1b := sub [0, 0, 0, 0] B68
def J1k : List Item := .inRegion (opsOf Q1b) [0, 1, 2, 3, 4, 5, 6, 7] :: J1c
def J1l : List Item := .inRegion (opsOf Q1b) [4, 5, 6, 7] :: J1c
def Q1c := sub [0, 0, 1, 0, 1, 0, 0] B68
def J1m : List Item := .code Q1c :: J1f
def Q1d := sub [0, 0, 1, 0, 1, 1, 0, 0] B68
def J1n : List Item := .code Q1d :: J1h
def Q1e := sub [0, 0, 1, 0, 1, 1, 1, 1, 0, 1] B68
def J1o : List Item := .code Q1e :: J1i
def Q1f := sub [0, 0, 1, 0, 1, 1, 1, 1, 0, 1, 0] B68
def J1p : List Item := .code Q1f :: J1i
def Q1g := sub [0, 0, 1, 0, 1, 1, 1, 1, 1, 0, 1] B68
def J1q : List Item := .code Q1g :: J1j
def Q1h := sub [0, 0, 1, 0, 1, 1, 1, 1, 1, 0, 1, 0] B68
def J1r : List Item := .code Q1h :: J1j
def Q1i := sub [0, 0, 1, 0, 1, 1, 1, 1, 1, 1, 1] B68
def J1s : List Item := .code Q1i :: J1d
def Q1j := sub [0, 0, 1, 0, 1, 1, 1, 1, 1, 1, 0] B68
def J1t : List Item := .inRegion (opsOf Q1j) [3, 4] :: J1s

def Post.za (lx0 : Nat) (rx0 : Nat) (u1b : Nat → Value) (u1c : Nat) (u1d : Nat) (u1e : Nat) (u1f : Nat) (r : (List Int) × (List Int) × (List Int)) (v : Value) (w' : World) : Prop :=
 ∃ S' uv uw ux uy u1g u1h u1i u1j u1k u1l, v = .tuple #[] ∧ Ext S0 w0 S' w' ∧ Hp nz wz S' w' ((some lx0, .obj (lpst 58 (lfr 23 [(5, (pt u1c 0)), (7, (pt u1d 0)), (12, .func (.func 68) #[] #[(pt u1e 0), (pt u1f 0)])] u1b) #[13, 14] (rfAssign (Q10)) (rfBody (Q10)) rx0 .ready none)) :: (some u1c, .row 72 [.func (.func 47) #[] #[]] 1 0) :: (some u1d, .row 22 [.slice (Gp uv) uw ux] 1 0) :: (uv, .row 35 uy (ux * (kInt .u64).size) 0) :: (some u1e, .row 22 [.slice u1g u1h u1i] 1 0) :: (some u1f, .row 22 [.slice u1j u1k u1l] 1 0) :: Lr) ∧ Els (kInt .u64) S' w' uy r.1 ∧ r.1.length = uw ∧ Rd (kInt .u64) S' w' u1g u1i r.2.1 ∧ r.2.1.length = u1h ∧ Rd (kInt .u64) S' w' u1j u1l r.2.2 ∧ r.2.2.length = u1k

def L.zb (lx0 : Nat) (rx0 : Nat) (u1b : Nat → Value) (u1c : Nat) (u1d : Nat) (u1e : Nat) (u1f : Nat) : (List Int) × (List Int) × (List Int) → ((List Int) × (List Int) × (List Int)) → Prop := fun ⟨u1m, u1n, u1o⟩ r => ∀ S1 w1, Ext S0 w0 S1 w1 → ∀ uv uw ux uy u1g u1h u1i u1j u1k u1l (_ : Hp nz wz S1 w1 ((some lx0, .obj (lpst 58 (lfr 23 [(5, (pt u1c 0)), (7, (pt u1d 0)), (12, .func (.func 68) #[] #[(pt u1e 0), (pt u1f 0)])] u1b) #[13, 14] (rfAssign (Q10)) (rfBody (Q10)) rx0 .ready none)) :: (some u1c, .row 72 [.func (.func 47) #[] #[]] 1 0) :: (some u1d, .row 22 [.slice (Gp uv) uw ux] 1 0) :: (uv, .row 35 uy (ux * (kInt .u64).size) 0) :: (some u1e, .row 22 [.slice u1g u1h u1i] 1 0) :: (some u1f, .row 22 [.slice u1j u1k u1l] 1 0) :: Lr)) (_ : Els (kInt .u64) S1 w1 uy u1m) (_ : u1m.length = uw) (_ : Rd (kInt .u64) S1 w1 u1g u1i u1n) (_ : u1n.length = u1h) (_ : Rd (kInt .u64) S1 w1 u1j u1l u1o) (_ : u1o.length = u1k) (junk : Nat → Value),
 Goes Try.prog (base 68) J1a ⟨lfr 73 [(0, yieldV lx0), (1, (pt u1e 0)), (2, (pt u1f 0))] junk, []⟩ w1 (Done Try.prog 68 (Rets (Post.za nz wz S0 w0 Lr lx0 rx0 u1b u1c u1d u1e u1f r)))

def L.zc (lx0 : Nat) (rx0 : Nat) (u1b : Nat → Value) (u1c : Nat) (u1d : Nat) (u1e : Nat) (u1f : Nat) : Bool × (List Int) × (List Int) × (List Int) → ((List Int) × (List Int) × (List Int)) → Prop := fun ⟨x13, u1m, u1n, u1o⟩ r => ∀ S1 w1, Ext S0 w0 S1 w1 → ∀ uv uw ux uy u1g u1h u1i u1j u1k u1l (_ : Hp nz wz S1 w1 ((some lx0, .obj (lpst 58 (lfr 23 [(5, (pt u1c 0)), (7, (pt u1d 0)), (12, .func (.func 68) #[] #[(pt u1e 0), (pt u1f 0)])] u1b) #[13, 14] (rfAssign (Q10)) (rfBody (Q10)) rx0 .ready none)) :: (some u1c, .row 72 [.func (.func 47) #[] #[]] 1 0) :: (some u1d, .row 22 [.slice (Gp uv) uw ux] 1 0) :: (uv, .row 35 uy (ux * (kInt .u64).size) 0) :: (some u1e, .row 22 [.slice u1g u1h u1i] 1 0) :: (some u1f, .row 22 [.slice u1j u1k u1l] 1 0) :: Lr)) (_ : Els (kInt .u64) S1 w1 uy u1m) (_ : u1m.length = uw) (_ : Rd (kInt .u64) S1 w1 u1g u1i u1n) (_ : u1n.length = u1h) (_ : Rd (kInt .u64) S1 w1 u1j u1l u1o) (_ : u1o.length = u1k) (junk : Nat → Value),
 Goes Try.prog (base 68) J1c ⟨lfr 73 [(0, yieldV lx0), (1, (pt u1e 0)), (2, (pt u1f 0)), (13, .bool x13)] junk, []⟩ w1 (Done Try.prog 68 (Rets (Post.za nz wz S0 w0 Lr lx0 rx0 u1b u1c u1d u1e u1f r)))

def L.zd (lx0 : Nat) (rx0 : Nat) (u1b : Nat → Value) (u1c : Nat) (u1d : Nat) (u1e : Nat) (u1f : Nat) : Int × Bool × (List Int) × (List Int) × (List Int) → ((List Int) × (List Int) × (List Int)) → Prop := fun ⟨x4, x30, u1m, u1n, u1o⟩ r => ∀ S1 w1, Ext S0 w0 S1 w1 → ∀ uv uw ux uy u1g u1h u1i u1j u1k u1l (_ : Hp nz wz S1 w1 ((some lx0, .obj (lpst 58 (lfr 23 [(5, (pt u1c 0)), (7, (pt u1d 0)), (12, .func (.func 68) #[] #[(pt u1e 0), (pt u1f 0)])] u1b) #[13, 14] (rfAssign (Q10)) (rfBody (Q10)) rx0 .ready none)) :: (some u1c, .row 72 [.func (.func 47) #[] #[]] 1 0) :: (some u1d, .row 22 [.slice (Gp uv) uw ux] 1 0) :: (uv, .row 35 uy (ux * (kInt .u64).size) 0) :: (some u1e, .row 22 [.slice u1g u1h u1i] 1 0) :: (some u1f, .row 22 [.slice u1j u1k u1l] 1 0) :: Lr)) (_ : Els (kInt .u64) S1 w1 uy u1m) (_ : u1m.length = uw) (_ : Rd (kInt .u64) S1 w1 u1g u1i u1n) (_ : u1n.length = u1h) (_ : Rd (kInt .u64) S1 w1 u1j u1l u1o) (_ : u1o.length = u1k) (junk : Nat → Value),
 Goes Try.prog (base 68) J1f ⟨lfr 73 [(0, yieldV lx0), (1, (pt u1e 0)), (2, (pt u1f 0)), (4, .i x4), (30, .bool x30)] junk, []⟩ w1 (Done Try.prog 68 (Rets (Post.za nz wz S0 w0 Lr lx0 rx0 u1b u1c u1d u1e u1f r)))

def L.ze (lx0 : Nat) (rx0 : Nat) (u1b : Nat → Value) (u1c : Nat) (u1d : Nat) (u1e : Nat) (u1f : Nat) : Int × (List Int) × (List Int) × (List Int) → ((List Int) × (List Int) × (List Int)) → Prop := fun ⟨x4, u1m, u1n, u1o⟩ r => ∀ S1 w1, Ext S0 w0 S1 w1 → ∀ uv uw ux uy u1g u1h u1i u1j u1k u1l (_ : Hp nz wz S1 w1 ((some lx0, .obj (lpst 58 (lfr 23 [(5, (pt u1c 0)), (7, (pt u1d 0)), (12, .func (.func 68) #[] #[(pt u1e 0), (pt u1f 0)])] u1b) #[13, 14] (rfAssign (Q10)) (rfBody (Q10)) rx0 .ready none)) :: (some u1c, .row 72 [.func (.func 47) #[] #[]] 1 0) :: (some u1d, .row 22 [.slice (Gp uv) uw ux] 1 0) :: (uv, .row 35 uy (ux * (kInt .u64).size) 0) :: (some u1e, .row 22 [.slice u1g u1h u1i] 1 0) :: (some u1f, .row 22 [.slice u1j u1k u1l] 1 0) :: Lr)) (_ : Els (kInt .u64) S1 w1 uy u1m) (_ : u1m.length = uw) (_ : Rd (kInt .u64) S1 w1 u1g u1i u1n) (_ : u1n.length = u1h) (_ : Rd (kInt .u64) S1 w1 u1j u1l u1o) (_ : u1o.length = u1k) (junk : Nat → Value),
 Goes Try.prog (base 68) J1e ⟨lfr 73 [(0, yieldV lx0), (1, (pt u1e 0)), (2, (pt u1f 0)), (4, .i x4)] junk, []⟩ w1 (Done Try.prog 68 (Rets (Post.za nz wz S0 w0 Lr lx0 rx0 u1b u1c u1d u1e u1f r)))

def L.zf (lx0 : Nat) (rx0 : Nat) (u1b : Nat → Value) (u1c : Nat) (u1d : Nat) (u1e : Nat) (u1f : Nat) : Int × Bool × (List Int) × (List Int) × (List Int) → ((List Int) × (List Int) × (List Int)) → Prop := fun ⟨x4, x49, u1m, u1n, u1o⟩ r => ∀ S1 w1, Ext S0 w0 S1 w1 → ∀ uv uw ux uy u1g u1h u1i u1j u1k u1l (_ : Hp nz wz S1 w1 ((some lx0, .obj (lpst 58 (lfr 23 [(5, (pt u1c 0)), (7, (pt u1d 0)), (12, .func (.func 68) #[] #[(pt u1e 0), (pt u1f 0)])] u1b) #[13, 14] (rfAssign (Q10)) (rfBody (Q10)) rx0 .ready none)) :: (some u1c, .row 72 [.func (.func 47) #[] #[]] 1 0) :: (some u1d, .row 22 [.slice (Gp uv) uw ux] 1 0) :: (uv, .row 35 uy (ux * (kInt .u64).size) 0) :: (some u1e, .row 22 [.slice u1g u1h u1i] 1 0) :: (some u1f, .row 22 [.slice u1j u1k u1l] 1 0) :: Lr)) (_ : Els (kInt .u64) S1 w1 uy u1m) (_ : u1m.length = uw) (_ : Rd (kInt .u64) S1 w1 u1g u1i u1n) (_ : u1n.length = u1h) (_ : Rd (kInt .u64) S1 w1 u1j u1l u1o) (_ : u1o.length = u1k) (junk : Nat → Value),
 Goes Try.prog (base 68) J1h ⟨lfr 73 [(0, yieldV lx0), (1, (pt u1e 0)), (2, (pt u1f 0)), (4, .i x4), (49, .bool x49)] junk, []⟩ w1 (Done Try.prog 68 (Rets (Post.za nz wz S0 w0 Lr lx0 rx0 u1b u1c u1d u1e u1f r)))

def L.zg (lx0 : Nat) (rx0 : Nat) (u1b : Nat → Value) (u1c : Nat) (u1d : Nat) (u1e : Nat) (u1f : Nat) : Int × (List Int) × (List Int) × (List Int) → ((List Int) × (List Int) × (List Int)) → Prop := fun ⟨x4, u1m, u1n, u1o⟩ r => ∀ S1 w1, Ext S0 w0 S1 w1 → ∀ uv uw ux uy u1g u1h u1i u1j u1k u1l (_ : Hp nz wz S1 w1 ((some lx0, .obj (lpst 58 (lfr 23 [(5, (pt u1c 0)), (7, (pt u1d 0)), (12, .func (.func 68) #[] #[(pt u1e 0), (pt u1f 0)])] u1b) #[13, 14] (rfAssign (Q10)) (rfBody (Q10)) rx0 .ready none)) :: (some u1c, .row 72 [.func (.func 47) #[] #[]] 1 0) :: (some u1d, .row 22 [.slice (Gp uv) uw ux] 1 0) :: (uv, .row 35 uy (ux * (kInt .u64).size) 0) :: (some u1e, .row 22 [.slice u1g u1h u1i] 1 0) :: (some u1f, .row 22 [.slice u1j u1k u1l] 1 0) :: Lr)) (_ : Els (kInt .u64) S1 w1 uy u1m) (_ : u1m.length = uw) (_ : Rd (kInt .u64) S1 w1 u1g u1i u1n) (_ : u1n.length = u1h) (_ : Rd (kInt .u64) S1 w1 u1j u1l u1o) (_ : u1o.length = u1k) (junk : Nat → Value),
 Goes Try.prog (base 68) J1g ⟨lfr 73 [(0, yieldV lx0), (1, (pt u1e 0)), (2, (pt u1f 0)), (4, .i x4)] junk, []⟩ w1 (Done Try.prog 68 (Rets (Post.za nz wz S0 w0 Lr lx0 rx0 u1b u1c u1d u1e u1f r)))

def L.zh (lx0 : Nat) (rx0 : Nat) (u1b : Nat → Value) (u1c : Nat) (u1d : Nat) (u1e : Nat) (u1f : Nat) : Int × Int × (List Int) × (List Int) × (List Int) → ((List Int) × (List Int) × (List Int)) → Prop := fun ⟨x4, x5, u1m, u1n, u1o⟩ r => ∀ S1 w1, Ext S0 w0 S1 w1 → ∀ uv uw ux uy u1g u1h u1i u1j u1k u1l (_ : Hp nz wz S1 w1 ((some lx0, .obj (lpst 58 (lfr 23 [(5, (pt u1c 0)), (7, (pt u1d 0)), (12, .func (.func 68) #[] #[(pt u1e 0), (pt u1f 0)])] u1b) #[13, 14] (rfAssign (Q10)) (rfBody (Q10)) rx0 .ready none)) :: (some u1c, .row 72 [.func (.func 47) #[] #[]] 1 0) :: (some u1d, .row 22 [.slice (Gp uv) uw ux] 1 0) :: (uv, .row 35 uy (ux * (kInt .u64).size) 0) :: (some u1e, .row 22 [.slice u1g u1h u1i] 1 0) :: (some u1f, .row 22 [.slice u1j u1k u1l] 1 0) :: Lr)) (_ : Els (kInt .u64) S1 w1 uy u1m) (_ : u1m.length = uw) (_ : Rd (kInt .u64) S1 w1 u1g u1i u1n) (_ : u1n.length = u1h) (_ : Rd (kInt .u64) S1 w1 u1j u1l u1o) (_ : u1o.length = u1k) (junk : Nat → Value),
 Goes Try.prog (base 68) J1i ⟨lfr 73 [(0, yieldV lx0), (1, (pt u1e 0)), (2, (pt u1f 0)), (4, .i x4), (5, .u x5)] junk, []⟩ w1 (Done Try.prog 68 (Rets (Post.za nz wz S0 w0 Lr lx0 rx0 u1b u1c u1d u1e u1f r)))

def L.zi (lx0 : Nat) (rx0 : Nat) (u1b : Nat → Value) (u1c : Nat) (u1d : Nat) (u1e : Nat) (u1f : Nat) : Int × Int × (List Int) × (List Int) × (List Int) → ((List Int) × (List Int) × (List Int)) → Prop := fun ⟨x4, x5, u1m, u1n, u1o⟩ r => ∀ S1 w1, Ext S0 w0 S1 w1 → ∀ uv uw ux uy u1g u1h u1i u1j u1k u1l (_ : Hp nz wz S1 w1 ((some lx0, .obj (lpst 58 (lfr 23 [(5, (pt u1c 0)), (7, (pt u1d 0)), (12, .func (.func 68) #[] #[(pt u1e 0), (pt u1f 0)])] u1b) #[13, 14] (rfAssign (Q10)) (rfBody (Q10)) rx0 .ready none)) :: (some u1c, .row 72 [.func (.func 47) #[] #[]] 1 0) :: (some u1d, .row 22 [.slice (Gp uv) uw ux] 1 0) :: (uv, .row 35 uy (ux * (kInt .u64).size) 0) :: (some u1e, .row 22 [.slice u1g u1h u1i] 1 0) :: (some u1f, .row 22 [.slice u1j u1k u1l] 1 0) :: Lr)) (_ : Els (kInt .u64) S1 w1 uy u1m) (_ : u1m.length = uw) (_ : Rd (kInt .u64) S1 w1 u1g u1i u1n) (_ : u1n.length = u1h) (_ : Rd (kInt .u64) S1 w1 u1j u1l u1o) (_ : u1o.length = u1k) (junk : Nat → Value),
 Goes Try.prog (base 68) J1j ⟨lfr 73 [(0, yieldV lx0), (1, (pt u1e 0)), (2, (pt u1f 0)), (4, .i x4), (5, .u x5)] junk, []⟩ w1 (Done Try.prog 68 (Rets (Post.za nz wz S0 w0 Lr lx0 rx0 u1b u1c u1d u1e u1f r)))

theorem W.zj {nz wz S0 w0 Lr} (lx0 : Nat) (rx0 : Nat) (u1b : Nat → Value) (u1c : Nat) (u1d : Nat) (u1e : Nat) (u1f : Nat) : (∀ a r, M.post_merge_uint64_1_l0 a = some r → (L.zb nz wz S0 w0 Lr lx0 rx0 u1b u1c u1d u1e u1f) a r) ∧ (∀ a r, M.post_merge_uint64_1_l1 a = some r → (L.zc nz wz S0 w0 Lr lx0 rx0 u1b u1c u1d u1e u1f) a r) ∧ (∀ a r, M.post_merge_uint64_1_l2 a = some r → (L.zd nz wz S0 w0 Lr lx0 rx0 u1b u1c u1d u1e u1f) a r) ∧ (∀ a r, M.post_merge_uint64_1_l3 a = some r → (L.ze nz wz S0 w0 Lr lx0 rx0 u1b u1c u1d u1e u1f) a r) ∧ (∀ a r, M.post_merge_uint64_1_l4 a = some r → (L.zf nz wz S0 w0 Lr lx0 rx0 u1b u1c u1d u1e u1f) a r) ∧ (∀ a r, M.post_merge_uint64_1_l5 a = some r → (L.zg nz wz S0 w0 Lr lx0 rx0 u1b u1c u1d u1e u1f) a r) ∧ (∀ a r, M.post_merge_uint64_1_l6 a = some r → (L.zh nz wz S0 w0 Lr lx0 rx0 u1b u1c u1d u1e u1f) a r) ∧ (∀ a r, M.post_merge_uint64_1_l7 a = some r → (L.zi nz wz S0 w0 Lr lx0 rx0 u1b u1c u1d u1e u1f) a r) := by
 refine M.post_merge_uint64_1_l0.mutual_partial_correctness (L.zb nz wz S0 w0 Lr lx0 rx0 u1b u1c u1d u1e u1f) (L.zc nz wz S0 w0 Lr lx0 rx0 u1b u1c u1d u1e u1f) (L.zd nz wz S0 w0 Lr lx0 rx0 u1b u1c u1d u1e u1f) (L.ze nz wz S0 w0 Lr lx0 rx0 u1b u1c u1d u1e u1f) (L.zf nz wz S0 w0 Lr lx0 rx0 u1b u1c u1d u1e u1f) (L.zg nz wz S0 w0 Lr lx0 rx0 u1b u1c u1d u1e u1f) (L.zh nz wz S0 w0 Lr lx0 rx0 u1b u1c u1d u1e u1f) (L.zi nz wz S0 w0 Lr lx0 rx0 u1b u1c u1d u1e u1f) ?_ ?_ ?_ ?_ ?_ ?_ ?_ ?_
 ·
  intro u1p u1q ⟨u1m, u1n, u1o⟩ r h S1 w1 hx uv uw ux uy u1g u1h u1i u1j u1k u1l p1 u1r u1s u1t u1u u1v u1w junk
  try dsimp only at h
  subst u1s
  subst u1u
  subst u1w
  refine Goes.rn 3 [] J1k ?_
  refine Goes.ld 22 (.tmp 1) 6 22 ⟨u1e, 0, none⟩ (.slice u1g u1n.length u1i) (p1.c 4 0) ?_
  refine Goes.rn 3 [(7, .i (u1n.length : Int)), (8, .bool (decide ((u1n.length : Int) > 0))), (9, .bool (decide ((u1n.length : Int) > 0)))] J1l ?_
  refine ite_some h (fun h8 h => ?_) (fun h8 h => ?_)
  ·
   rw [decide_eq_true h8]
   refine Goes.rn 5 [(10, undef), (11, undef), (12, undef), (13, .bool true)] J1c ?_
   exact Goes.jp 73 [(0, yieldV lx0), (1, (pt u1e 0)), (2, (pt u1f 0)), (13, .bool true)] (u1q _ _ h _ _ hx uv u1m.length ux uy u1g u1n.length u1i u1j u1o.length u1l p1 u1r rfl u1t rfl u1v rfl)
  ·
   rw [decide_eq_false h8]
   refine Goes.ld 22 (.tmp 2) 10 22 ⟨u1f, 0, none⟩ (.slice u1j u1o.length u1l) (p1.c 5 0) ?_
   refine Goes.rn 4 [(11, .i (u1o.length : Int)), (12, .bool (decide ((u1o.length : Int) > 0))), (13, .bool (decide ((u1o.length : Int) > 0)))] J1c ?_
   exact Goes.jp 73 [(0, yieldV lx0), (1, (pt u1e 0)), (2, (pt u1f 0)), (13, .bool (decide ((u1o.length : Int) > 0)))] (u1q _ _ h _ _ hx uv u1m.length ux uy u1g u1n.length u1i u1j u1o.length u1l p1 u1r rfl u1t rfl u1v rfl)
 ·
  intro u1x u1y ⟨x13, u1m, u1n, u1o⟩ r h S1 w1 hx uv uw ux uy u1g u1h u1i u1j u1k u1l p1 u1r u1s u1t u1u u1v u1w junk
  try dsimp only at h
  subst u1s
  subst u1u
  subst u1w
  refine ite_some h (fun h10 h => ?_) (fun h10 h => ?_)
  ·
   rw [h10]
   refine Goes.rn 9 [(4, .i 0)] J1m ?_
   have z2 : Ext S1 w1 S1 (w1).drew := Ext.draw
   have p2 := p1.draw
   refine Goes.drawn (s := []) (F := Fc S1 (w1).drew [(⟨u1f, 0, none⟩, .slice u1j u1o.length u1l), (⟨u1e, 0, none⟩, .slice u1g u1n.length u1i)]) 2 17 (by kernel_rfl) (by kernel_rfl) (by kernel_rfl) (by kernel_rfl) ?_
   generalize (w1).drew = w2 at z2 p2 ⊢
   refine AnyG.ld1 (i := 0) 22 (.tmp 2) 14 22 ⟨u1f, 0, none⟩ (.slice u1j u1o.length u1l) (by kernel_rfl) (by kernel_rfl) (Fc.here (p2.cs [(5, 0, 1), (4, 0, 1)])) (by kernel_rfl) (by kernel_rfl) (fun _ h => h.2.at_ 0 rfl) ?_
   refine AnyG.pu 1 (.call { callee := .builtin .len, args := #[(.tmp 14)], argTypes := #[22] }) 15 3 (.i (u1o.length : Int)) (Fc.here (p2.cs [(5, 0, 1), (4, 0, 1)])) ?_
   refine AnyG.pu 2 (.binOp .eql 3 (.tmp 15) (.const (.int .i64 0)) 3) 16 4 (.bool (decide ((u1o.length : Int) = 0))) (Fc.here (p2.cs [(5, 0, 1), (4, 0, 1)])) ?_
   refine AnyG.pu 3 (.move (.tmp 16)) 17 4 (.bool (decide ((u1o.length : Int) = 0))) (Fc.here (p2.cs [(5, 0, 1), (4, 0, 1)])) ?_
   refine ite_some h (fun h11 h => ?_) (fun h11 h => ?_)
   ·
    rw [decide_eq_true h11]
    refine AnyG.s1 4 18 (Fc.here (p2.cs [(5, 0, 1), (4, 0, 1)])) ?_
    refine AnyG.s1 5 19 (Fc.here (p2.cs [(5, 0, 1), (4, 0, 1)])) ?_
    refine AnyG.s1 6 20 (Fc.here (p2.cs [(5, 0, 1), (4, 0, 1)])) ?_
    refine AnyG.s1 7 21 (Fc.here (p2.cs [(5, 0, 1), (4, 0, 1)])) ?_
    refine AnyG.s1 8 22 (Fc.here (p2.cs [(5, 0, 1), (4, 0, 1)])) ?_
    refine AnyG.s1 9 23 (Fc.here (p2.cs [(5, 0, 1), (4, 0, 1)])) ?_
    refine AnyG.s1 10 24 (Fc.here (p2.cs [(5, 0, 1), (4, 0, 1)])) ?_
    refine AnyG.s1 11 25 (Fc.here (p2.cs [(5, 0, 1), (4, 0, 1)])) ?_
    refine AnyG.s1 12 26 (Fc.here (p2.cs [(5, 0, 1), (4, 0, 1)])) ?_
    refine AnyG.s1 13 27 (Fc.here (p2.cs [(5, 0, 1), (4, 0, 1)])) ?_
    refine AnyG.s1 14 28 (Fc.here (p2.cs [(5, 0, 1), (4, 0, 1)])) ?_
    refine AnyG.s1 15 29 (Fc.here (p2.cs [(5, 0, 1), (4, 0, 1)])) ?_
    refine AnyG.pu 16 (.pick (.tmp 17) (.const (.bool true)) (.tmp 29)) 30 4 (.bool true) (Fc.here (p2.cs [(5, 0, 1), (4, 0, 1)])) ?_
    refine AnyG.done (by kernel_rfl) ?_ _
    exact Goes.jp 73 [(0, yieldV lx0), (1, (pt u1e 0)), (2, (pt u1f 0)), (4, .i 0), (30, .bool true)] (u1y _ _ h _ _ (hx.trans z2) uv u1m.length ux uy u1g u1n.length u1i u1j u1o.length u1l p2 (u1r.ext z2) rfl (u1t.ext z2) rfl (u1v.ext z2) rfl)
   ·
    rw [decide_eq_false h11]
    refine AnyG.ld1 (i := 4) 22 (.tmp 1) 18 22 ⟨u1e, 0, none⟩ (.slice u1g u1n.length u1i) (by kernel_rfl) (by kernel_rfl) (Fc.here (p2.cs [(5, 0, 1), (4, 0, 1)])) (by kernel_rfl) (by kernel_rfl) (fun _ h => h.2.at_ 1 rfl) ?_
    refine AnyG.pu 5 (.call { callee := .builtin .len, args := #[(.tmp 18)], argTypes := #[22] }) 19 3 (.i (u1n.length : Int)) (Fc.here (p2.cs [(5, 0, 1), (4, 0, 1)])) ?_
    refine AnyG.pu 6 (.binOp .gtr 3 (.tmp 19) (.const (.int .i64 0)) 3) 20 4 (.bool (decide ((u1n.length : Int) > 0))) (Fc.here (p2.cs [(5, 0, 1), (4, 0, 1)])) ?_
    refine AnyG.pu 7 (.move (.tmp 20)) 21 4 (.bool (decide ((u1n.length : Int) > 0))) (Fc.here (p2.cs [(5, 0, 1), (4, 0, 1)])) ?_
    refine ite_some h (fun h13 h => ?_) (fun h13 h => ?_)
    ·
     rw [decide_eq_true h13]
     refine AnyG.ld1 (i := 8) 22 (.tmp 1) 22 22 ⟨u1e, 0, none⟩ (.slice u1g u1n.length u1i) (by kernel_rfl) (by kernel_rfl) (Fc.here (p2.cs [(5, 0, 1), (4, 0, 1)])) (by kernel_rfl) (by kernel_rfl) (fun _ h => h.2.at_ 1 rfl) ?_
     refine guard_some' h fun g14 h => ?_
     refine AnyG.ixR_n (i := 9) 22 (.tmp 22) (.const (.int .i64 0)) 23 0 35 .i64 0 (gi u1n 0) rfl rfl (u1t.ext z2) (by kernel_rfl) (by kernel_rfl) (Fc.here (p2.cs [(5, 0, 1), (4, 0, 1)])) (by kernel_rfl) (by kernel_rfl) (by kernel_rfl) (by kernel_rfl) (by decide : (0 : Int) ≤ 0) g14 ?_
     intro a15 _ f16 q17
     obtain rfl := q17
     refine AnyG.ld1 (i := 10) 35 (.tmp 23) 24 35 a15 (.u (gi u1n 0)) (by kernel_rfl) (by kernel_rfl) (Fc.here (p2.cs [(5, 0, 1), (4, 0, 1)])) (by kernel_rfl) (by kernel_rfl) (fun _ h => f16.fc h 0 _ rfl) ?_
     refine AnyG.ld1 (i := 11) 22 (.tmp 2) 25 22 ⟨u1f, 0, none⟩ (.slice u1j u1o.length u1l) (by kernel_rfl) (by kernel_rfl) (Fc.here (p2.cs [(5, 0, 1), (4, 0, 1)])) (by kernel_rfl) (by kernel_rfl) (fun _ h => h.2.at_ 0 rfl) ?_
     refine guard_some' h fun g18 h => ?_
     refine AnyG.ixR_n (i := 12) 22 (.tmp 25) (.const (.int .i64 0)) 26 0 35 .i64 0 (gi u1o 0) rfl rfl (u1v.ext z2) (by kernel_rfl) (by kernel_rfl) (Fc.here (p2.cs [(5, 0, 1), (4, 0, 1)])) (by kernel_rfl) (by kernel_rfl) (by kernel_rfl) (by kernel_rfl) (by decide : (0 : Int) ≤ 0) g18 ?_
     intro a19 _ f20 q21
     obtain rfl := q21
     refine AnyG.ld1 (i := 13) 35 (.tmp 26) 27 35 a19 (.u (gi u1o 0)) (by kernel_rfl) (by kernel_rfl) (Fc.here (p2.cs [(5, 0, 1), (4, 0, 1)])) (by kernel_rfl) (by kernel_rfl) (fun _ h => f20.fc h 0 _ rfl) ?_
     refine AnyG.pu 14 (.binOp .leq 35 (.tmp 24) (.tmp 27) 35) 28 4 (.bool (decide (gi u1n 0 ≤ gi u1o 0))) (Fc.here (p2.cs [(5, 0, 1), (4, 0, 1)])) ?_
     refine AnyG.pu 15 (.pick (.tmp 21) (.tmp 28) (.const (.bool false))) 29 4 (.bool (decide (gi u1n 0 ≤ gi u1o 0))) (Fc.here (p2.cs [(5, 0, 1), (4, 0, 1)])) ?_
     refine AnyG.pu 16 (.pick (.tmp 17) (.const (.bool true)) (.tmp 29)) 30 4 (.bool (decide (gi u1n 0 ≤ gi u1o 0))) (Fc.here (p2.cs [(5, 0, 1), (4, 0, 1)])) ?_
     refine AnyG.done (by kernel_rfl) ?_ _
     exact Goes.jp 73 [(0, yieldV lx0), (1, (pt u1e 0)), (2, (pt u1f 0)), (4, .i 0), (30, .bool (decide (gi u1n 0 ≤ gi u1o 0)))] (u1y _ _ h _ _ (hx.trans z2) uv u1m.length ux uy u1g u1n.length u1i u1j u1o.length u1l p2 (u1r.ext z2) rfl (u1t.ext z2) rfl (u1v.ext z2) rfl)
    ·
     rw [decide_eq_false h13]
     refine AnyG.s1 8 22 (Fc.here (p2.cs [(5, 0, 1), (4, 0, 1)])) ?_
     refine AnyG.s1 9 23 (Fc.here (p2.cs [(5, 0, 1), (4, 0, 1)])) ?_
     refine AnyG.s1 10 24 (Fc.here (p2.cs [(5, 0, 1), (4, 0, 1)])) ?_
     refine AnyG.s1 11 25 (Fc.here (p2.cs [(5, 0, 1), (4, 0, 1)])) ?_
     refine AnyG.s1 12 26 (Fc.here (p2.cs [(5, 0, 1), (4, 0, 1)])) ?_
     refine AnyG.s1 13 27 (Fc.here (p2.cs [(5, 0, 1), (4, 0, 1)])) ?_
     refine AnyG.s1 14 28 (Fc.here (p2.cs [(5, 0, 1), (4, 0, 1)])) ?_
     refine AnyG.pu 15 (.pick (.tmp 21) (.tmp 28) (.const (.bool false))) 29 4 (.bool false) (Fc.here (p2.cs [(5, 0, 1), (4, 0, 1)])) ?_
     refine AnyG.pu 16 (.pick (.tmp 17) (.const (.bool true)) (.tmp 29)) 30 4 (.bool false) (Fc.here (p2.cs [(5, 0, 1), (4, 0, 1)])) ?_
     refine AnyG.done (by kernel_rfl) ?_ _
     exact Goes.jp 73 [(0, yieldV lx0), (1, (pt u1e 0)), (2, (pt u1f 0)), (4, .i 0), (30, .bool false)] (u1y _ _ h _ _ (hx.trans z2) uv u1m.length ux uy u1g u1n.length u1i u1j u1o.length u1l p2 (u1r.ext z2) rfl (u1t.ext z2) rfl (u1v.ext z2) rfl)
  ·
   have u1z : x13 = false := by simpa using h10
   rw [u1z]
   refine Goes.rn 2 [] [] ?_
   obtain rfl := Option.some.inj h
   exact Goes.end_ (fn := Try.f68) (by kernel_rfl) (v := .tuple #[]) (by kernel_rfl) ⟨S1, uv, u1m.length, ux, uy, u1g, u1n.length, u1i, u1j, u1o.length, u1l, rfl, hx, p1, u1r, rfl, u1t, rfl, u1v, rfl⟩
 ·
  intro u20 u21 ⟨x4, x30, u1m, u1n, u1o⟩ r h S1 w1 hx uv uw ux uy u1g u1h u1i u1j u1k u1l p1 u1r u1s u1t u1u u1v u1w junk
  try dsimp only at h
  subst u1s
  subst u1u
  subst u1w
  refine ite_some h (fun h22 h => ?_) (fun h22 h => ?_)
  ·
   rw [h22]
   refine Goes.rn 6 [(31, .i x4), (32, .i (ior .i64 x4 1)), (4, .i (ior .i64 x4 1))] J1e ?_
   exact Goes.jp 73 [(0, yieldV lx0), (1, (pt u1e 0)), (2, (pt u1f 0)), (4, .i (ior .i64 x4 1))] (u21 _ _ h _ _ hx uv u1m.length ux uy u1g u1n.length u1i u1j u1o.length u1l p1 u1r rfl u1t rfl u1v rfl)
  ·
   have u22 : x30 = false := by simpa using h22
   rw [u22]
   refine Goes.rn 2 [] J1e ?_
   exact Goes.jp 73 [(0, yieldV lx0), (1, (pt u1e 0)), (2, (pt u1f 0)), (4, .i x4)] (u21 _ _ h _ _ hx uv u1m.length ux uy u1g u1n.length u1i u1j u1o.length u1l p1 u1r rfl u1t rfl u1v rfl)
 ·
  intro u23 u24 ⟨x4, u1m, u1n, u1o⟩ r h S1 w1 hx uv uw ux uy u1g u1h u1i u1j u1k u1l p1 u1r u1s u1t u1u u1v u1w junk
  try dsimp only at h
  subst u1s
  subst u1u
  subst u1w
  refine Goes.rn 2 [] J1n ?_
  have z3 : Ext S1 w1 S1 (w1).drew := Ext.draw
  have p3 := p1.draw
  refine Goes.drawn (s := []) (F := Fc S1 (w1).drew [(⟨u1e, 0, none⟩, .slice u1g u1n.length u1i), (⟨u1f, 0, none⟩, .slice u1j u1o.length u1l)]) 4 17 (by kernel_rfl) (by kernel_rfl) (by kernel_rfl) (by kernel_rfl) ?_
  generalize (w1).drew = w3 at z3 p3 ⊢
  refine AnyG.ld1 (i := 0) 22 (.tmp 1) 33 22 ⟨u1e, 0, none⟩ (.slice u1g u1n.length u1i) (by kernel_rfl) (by kernel_rfl) (Fc.here (p3.cs [(4, 0, 1), (5, 0, 1)])) (by kernel_rfl) (by kernel_rfl) (fun _ h => h.2.at_ 0 rfl) ?_
  refine AnyG.pu 1 (.call { callee := .builtin .len, args := #[(.tmp 33)], argTypes := #[22] }) 34 3 (.i (u1n.length : Int)) (Fc.here (p3.cs [(4, 0, 1), (5, 0, 1)])) ?_
  refine AnyG.pu 2 (.binOp .eql 3 (.tmp 34) (.const (.int .i64 0)) 3) 35 4 (.bool (decide ((u1n.length : Int) = 0))) (Fc.here (p3.cs [(4, 0, 1), (5, 0, 1)])) ?_
  refine AnyG.pu 3 (.move (.tmp 35)) 36 4 (.bool (decide ((u1n.length : Int) = 0))) (Fc.here (p3.cs [(4, 0, 1), (5, 0, 1)])) ?_
  refine ite_some h (fun h24 h => ?_) (fun h24 h => ?_)
  ·
   rw [decide_eq_true h24]
   refine AnyG.s1 4 37 (Fc.here (p3.cs [(4, 0, 1), (5, 0, 1)])) ?_
   refine AnyG.s1 5 38 (Fc.here (p3.cs [(4, 0, 1), (5, 0, 1)])) ?_
   refine AnyG.s1 6 39 (Fc.here (p3.cs [(4, 0, 1), (5, 0, 1)])) ?_
   refine AnyG.s1 7 40 (Fc.here (p3.cs [(4, 0, 1), (5, 0, 1)])) ?_
   refine AnyG.s1 8 41 (Fc.here (p3.cs [(4, 0, 1), (5, 0, 1)])) ?_
   refine AnyG.s1 9 42 (Fc.here (p3.cs [(4, 0, 1), (5, 0, 1)])) ?_
   refine AnyG.s1 10 43 (Fc.here (p3.cs [(4, 0, 1), (5, 0, 1)])) ?_
   refine AnyG.s1 11 44 (Fc.here (p3.cs [(4, 0, 1), (5, 0, 1)])) ?_
   refine AnyG.s1 12 45 (Fc.here (p3.cs [(4, 0, 1), (5, 0, 1)])) ?_
   refine AnyG.s1 13 46 (Fc.here (p3.cs [(4, 0, 1), (5, 0, 1)])) ?_
   refine AnyG.s1 14 47 (Fc.here (p3.cs [(4, 0, 1), (5, 0, 1)])) ?_
   refine AnyG.s1 15 48 (Fc.here (p3.cs [(4, 0, 1), (5, 0, 1)])) ?_
   refine AnyG.pu 16 (.pick (.tmp 36) (.const (.bool true)) (.tmp 48)) 49 4 (.bool true) (Fc.here (p3.cs [(4, 0, 1), (5, 0, 1)])) ?_
   refine AnyG.done (by kernel_rfl) ?_ _
   exact Goes.jp 73 [(0, yieldV lx0), (1, (pt u1e 0)), (2, (pt u1f 0)), (4, .i x4), (49, .bool true)] (u24 _ _ h _ _ (hx.trans z3) uv u1m.length ux uy u1g u1n.length u1i u1j u1o.length u1l p3 (u1r.ext z3) rfl (u1t.ext z3) rfl (u1v.ext z3) rfl)
  ·
   rw [decide_eq_false h24]
   refine AnyG.ld1 (i := 4) 22 (.tmp 2) 37 22 ⟨u1f, 0, none⟩ (.slice u1j u1o.length u1l) (by kernel_rfl) (by kernel_rfl) (Fc.here (p3.cs [(4, 0, 1), (5, 0, 1)])) (by kernel_rfl) (by kernel_rfl) (fun _ h => h.2.at_ 1 rfl) ?_
   refine AnyG.pu 5 (.call { callee := .builtin .len, args := #[(.tmp 37)], argTypes := #[22] }) 38 3 (.i (u1o.length : Int)) (Fc.here (p3.cs [(4, 0, 1), (5, 0, 1)])) ?_
   refine AnyG.pu 6 (.binOp .gtr 3 (.tmp 38) (.const (.int .i64 0)) 3) 39 4 (.bool (decide ((u1o.length : Int) > 0))) (Fc.here (p3.cs [(4, 0, 1), (5, 0, 1)])) ?_
   refine AnyG.pu 7 (.move (.tmp 39)) 40 4 (.bool (decide ((u1o.length : Int) > 0))) (Fc.here (p3.cs [(4, 0, 1), (5, 0, 1)])) ?_
   refine ite_some h (fun h26 h => ?_) (fun h26 h => ?_)
   ·
    rw [decide_eq_true h26]
    refine AnyG.ld1 (i := 8) 22 (.tmp 2) 41 22 ⟨u1f, 0, none⟩ (.slice u1j u1o.length u1l) (by kernel_rfl) (by kernel_rfl) (Fc.here (p3.cs [(4, 0, 1), (5, 0, 1)])) (by kernel_rfl) (by kernel_rfl) (fun _ h => h.2.at_ 1 rfl) ?_
    refine guard_some' h fun g27 h => ?_
    refine AnyG.ixR_n (i := 9) 22 (.tmp 41) (.const (.int .i64 0)) 42 0 35 .i64 0 (gi u1o 0) rfl rfl (u1v.ext z3) (by kernel_rfl) (by kernel_rfl) (Fc.here (p3.cs [(4, 0, 1), (5, 0, 1)])) (by kernel_rfl) (by kernel_rfl) (by kernel_rfl) (by kernel_rfl) (by decide : (0 : Int) ≤ 0) g27 ?_
    intro a28 _ f29 q30
    obtain rfl := q30
    refine AnyG.ld1 (i := 10) 35 (.tmp 42) 43 35 a28 (.u (gi u1o 0)) (by kernel_rfl) (by kernel_rfl) (Fc.here (p3.cs [(4, 0, 1), (5, 0, 1)])) (by kernel_rfl) (by kernel_rfl) (fun _ h => f29.fc h 0 _ rfl) ?_
    refine AnyG.ld1 (i := 11) 22 (.tmp 1) 44 22 ⟨u1e, 0, none⟩ (.slice u1g u1n.length u1i) (by kernel_rfl) (by kernel_rfl) (Fc.here (p3.cs [(4, 0, 1), (5, 0, 1)])) (by kernel_rfl) (by kernel_rfl) (fun _ h => h.2.at_ 0 rfl) ?_
    refine guard_some' h fun g31 h => ?_
    refine AnyG.ixR_n (i := 12) 22 (.tmp 44) (.const (.int .i64 0)) 45 0 35 .i64 0 (gi u1n 0) rfl rfl (u1t.ext z3) (by kernel_rfl) (by kernel_rfl) (Fc.here (p3.cs [(4, 0, 1), (5, 0, 1)])) (by kernel_rfl) (by kernel_rfl) (by kernel_rfl) (by kernel_rfl) (by decide : (0 : Int) ≤ 0) g31 ?_
    intro a32 _ f33 q34
    obtain rfl := q34
    refine AnyG.ld1 (i := 13) 35 (.tmp 45) 46 35 a32 (.u (gi u1n 0)) (by kernel_rfl) (by kernel_rfl) (Fc.here (p3.cs [(4, 0, 1), (5, 0, 1)])) (by kernel_rfl) (by kernel_rfl) (fun _ h => f33.fc h 0 _ rfl) ?_
    refine AnyG.pu 14 (.binOp .leq 35 (.tmp 43) (.tmp 46) 35) 47 4 (.bool (decide (gi u1o 0 ≤ gi u1n 0))) (Fc.here (p3.cs [(4, 0, 1), (5, 0, 1)])) ?_
    refine AnyG.pu 15 (.pick (.tmp 40) (.tmp 47) (.const (.bool false))) 48 4 (.bool (decide (gi u1o 0 ≤ gi u1n 0))) (Fc.here (p3.cs [(4, 0, 1), (5, 0, 1)])) ?_
    refine AnyG.pu 16 (.pick (.tmp 36) (.const (.bool true)) (.tmp 48)) 49 4 (.bool (decide (gi u1o 0 ≤ gi u1n 0))) (Fc.here (p3.cs [(4, 0, 1), (5, 0, 1)])) ?_
    refine AnyG.done (by kernel_rfl) ?_ _
    exact Goes.jp 73 [(0, yieldV lx0), (1, (pt u1e 0)), (2, (pt u1f 0)), (4, .i x4), (49, .bool (decide (gi u1o 0 ≤ gi u1n 0)))] (u24 _ _ h _ _ (hx.trans z3) uv u1m.length ux uy u1g u1n.length u1i u1j u1o.length u1l p3 (u1r.ext z3) rfl (u1t.ext z3) rfl (u1v.ext z3) rfl)
   ·
    rw [decide_eq_false h26]
    refine AnyG.s1 8 41 (Fc.here (p3.cs [(4, 0, 1), (5, 0, 1)])) ?_
    refine AnyG.s1 9 42 (Fc.here (p3.cs [(4, 0, 1), (5, 0, 1)])) ?_
    refine AnyG.s1 10 43 (Fc.here (p3.cs [(4, 0, 1), (5, 0, 1)])) ?_
    refine AnyG.s1 11 44 (Fc.here (p3.cs [(4, 0, 1), (5, 0, 1)])) ?_
    refine AnyG.s1 12 45 (Fc.here (p3.cs [(4, 0, 1), (5, 0, 1)])) ?_
    refine AnyG.s1 13 46 (Fc.here (p3.cs [(4, 0, 1), (5, 0, 1)])) ?_
    refine AnyG.s1 14 47 (Fc.here (p3.cs [(4, 0, 1), (5, 0, 1)])) ?_
    refine AnyG.pu 15 (.pick (.tmp 40) (.tmp 47) (.const (.bool false))) 48 4 (.bool false) (Fc.here (p3.cs [(4, 0, 1), (5, 0, 1)])) ?_
    refine AnyG.pu 16 (.pick (.tmp 36) (.const (.bool true)) (.tmp 48)) 49 4 (.bool false) (Fc.here (p3.cs [(4, 0, 1), (5, 0, 1)])) ?_
    refine AnyG.done (by kernel_rfl) ?_ _
    exact Goes.jp 73 [(0, yieldV lx0), (1, (pt u1e 0)), (2, (pt u1f 0)), (4, .i x4), (49, .bool false)] (u24 _ _ h _ _ (hx.trans z3) uv u1m.length ux uy u1g u1n.length u1i u1j u1o.length u1l p3 (u1r.ext z3) rfl (u1t.ext z3) rfl (u1v.ext z3) rfl)
 ·
  intro u25 u26 ⟨x4, x49, u1m, u1n, u1o⟩ r h S1 w1 hx uv uw ux uy u1g u1h u1i u1j u1k u1l p1 u1r u1s u1t u1u u1v u1w junk
  try dsimp only at h
  subst u1s
  subst u1u
  subst u1w
  refine ite_some h (fun h35 h => ?_) (fun h35 h => ?_)
  ·
   rw [h35]
   refine Goes.rn 6 [(50, .i x4), (51, .i (ior .i64 x4 2)), (4, .i (ior .i64 x4 2))] J1g ?_
   exact Goes.jp 73 [(0, yieldV lx0), (1, (pt u1e 0)), (2, (pt u1f 0)), (4, .i (ior .i64 x4 2))] (u26 _ _ h _ _ hx uv u1m.length ux uy u1g u1n.length u1i u1j u1o.length u1l p1 u1r rfl u1t rfl u1v rfl)
  ·
   have u27 : x49 = false := by simpa using h35
   rw [u27]
   refine Goes.rn 2 [] J1g ?_
   exact Goes.jp 73 [(0, yieldV lx0), (1, (pt u1e 0)), (2, (pt u1f 0)), (4, .i x4)] (u26 _ _ h _ _ hx uv u1m.length ux uy u1g u1n.length u1i u1j u1o.length u1l p1 u1r rfl u1t rfl u1v rfl)
 ·
  intro u28 u29 ⟨x4, u1m, u1n, u1o⟩ r h S1 w1 hx uv uw ux uy u1g u1h u1i u1j u1k u1l p1 u1r u1s u1t u1u u1v u1w junk
  try dsimp only at h
  subst u1s
  subst u1u
  subst u1w
  refine Goes.rn 11 [(5, .u 0), (52, .i x4), (53, .i (iand .i64 x4 2)), (54, .bool (!(decide (iand .i64 x4 2 = 0))))] J1o ?_
  refine ite_some h (fun h37 h => ?_) (fun h37 h => ?_)
  ·
   rw [decide_eq_true h37]
   refine Goes.rn 2 [] J1i ?_
   exact Goes.jp 73 [(0, yieldV lx0), (1, (pt u1e 0)), (2, (pt u1f 0)), (4, .i x4), (5, .u 0)] (u29 _ _ h _ _ hx uv u1m.length ux uy u1g u1n.length u1i u1j u1o.length u1l p1 u1r rfl u1t rfl u1v rfl)
  ·
   rw [decide_eq_false h37]
   refine Goes.rn 1 [] J1p ?_
   have z4 : Ext S1 w1 S1 (w1).drew := Ext.draw
   have p4 := p1.draw
   refine Goes.drawn (s := [6]) (F := Fc S1 (w1).drew [(⟨u1f, 0, none⟩, .slice u1j u1o.length u1l)]) 8 7 (by kernel_rfl) (by kernel_rfl) (by kernel_rfl) (by kernel_rfl) ?_
   generalize (w1).drew = w4 at z4 p4 ⊢
   refine AnyG.ld1 (i := 0) 22 (.tmp 2) 55 22 ⟨u1f, 0, none⟩ (.slice u1j u1o.length u1l) (by kernel_rfl) (by kernel_rfl) (Fc.here (p4.cs [(5, 0, 1)])) (by kernel_rfl) (by kernel_rfl) (fun _ h => h.2.at_ 0 rfl) ?_
   refine guard_some' h fun g39 h => ?_
   refine AnyG.ixR_n (i := 1) 22 (.tmp 55) (.const (.int .i64 0)) 56 0 35 .i64 0 (gi u1o 0) rfl rfl (u1v.ext z4) (by kernel_rfl) (by kernel_rfl) (Fc.here (p4.cs [(5, 0, 1)])) (by kernel_rfl) (by kernel_rfl) (by kernel_rfl) (by kernel_rfl) (by decide : (0 : Int) ≤ 0) g39 ?_
   intro a40 _ f41 q42
   obtain rfl := q42
   refine AnyG.ld1 (i := 2) 35 (.tmp 56) 57 35 a40 (.u (gi u1o 0)) (by kernel_rfl) (by kernel_rfl) (Fc.here (p4.cs [(5, 0, 1)])) (by kernel_rfl) (by kernel_rfl) (fun _ h => f41.fc h 0 _ rfl) ?_
   refine AnyG.ld1 (i := 3) 22 (.tmp 2) 58 22 ⟨u1f, 0, none⟩ (.slice u1j u1o.length u1l) (by kernel_rfl) (by kernel_rfl) (Fc.here (p4.cs [(5, 0, 1)])) (by kernel_rfl) (by kernel_rfl) (fun _ h => h.2.at_ 0 rfl) ?_
   refine guard_some' h fun g43 h => ?_
   refine AnyG.slR_n (i := 4) 22 (.tmp 58) (some (.const (.int .i64 1))) none 59 22 35 1 (u1o.length : Int) (sl u1o 1 (u1o.length : Int)) rfl rfl (u1v.ext z4) (by kernel_rfl) (by kernel_rfl) (Fc.here (p4.cs [(5, 0, 1)])) (by kernel_rfl) (by kernel_rfl) (by kernel_rfl) (Bnd.at_ .i64 (by kernel_rfl)) Bnd.no (by decide : (0 : Int) ≤ 1) g43 (Int.le_refl _) ?_
   intro A44 c45 f46
   refine AnyG.pu 5 (.assign (.tmp 57)) 5 35 (.u (gi u1o 0)) (Fc.here (p4.cs [(5, 0, 1)])) ?_
   refine Op_.st 22 (.tmp 2) (.tmp 59) 0 5 u1f 0 (.slice A44 ((sl u1o 1 (u1o.length : Int)).length) c45) [.slice A44 ((sl u1o 1 (u1o.length : Int)).length) c45] p4 rfl (AnyG.ss (i := 6) (by kernel_rfl) (by kernel_rfl)) (by kernel_rfl) (by kernel_rfl) (by kernel_rfl) (by kernel_rfl) (Nat.zero_le _) (by simp only [List.length_cons, List.length_nil]; omega) (by simp [Value.oneCell']) ?_
   intro w5 z5 p5
   have p5 : Hp nz wz S1 w5 ((some lx0, .obj (lpst 58 (lfr 23 [(5, (pt u1c 0)), (7, (pt u1d 0)), (12, .func (.func 68) #[] #[(pt u1e 0), (pt u1f 0)])] u1b) #[13, 14] (rfAssign (Q10)) (rfBody (Q10)) rx0 .ready none)) :: (some u1c, .row 72 [.func (.func 47) #[] #[]] 1 0) :: (some u1d, .row 22 [.slice (Gp uv) u1m.length ux] 1 0) :: (uv, .row 35 uy (ux * (kInt .u64).size) 0) :: (some u1e, .row 22 [.slice u1g u1n.length u1i] 1 0) :: (some u1f, .row 22 [.slice A44 ((sl u1o 1 (u1o.length : Int)).length) c45] 1 0) :: Lr) := p5
   refine AnyG.last [] (Fc S1 w5 []) (by decide) ?_
   refine AnyG.done (by kernel_rfl) ?_ _
   exact Goes.jp 73 [(0, yieldV lx0), (1, (pt u1e 0)), (2, (pt u1f 0)), (4, .i x4), (5, .u (gi u1o 0))] (u29 _ _ h _ _ ((hx.trans z4).trans z5) uv u1m.length ux uy u1g u1n.length u1i A44 ((sl u1o 1 (u1o.length : Int)).length) c45 p5 (u1r.ext (z4.trans z5)) rfl (u1t.ext (z4.trans z5)) rfl (f46.ext z5) rfl)
 ·
  intro u2a u2b ⟨x4, x5, u1m, u1n, u1o⟩ r h S1 w1 hx uv uw ux uy u1g u1h u1i u1j u1k u1l p1 u1r u1s u1t u1u u1v u1w junk
  try dsimp only at h
  subst u1s
  subst u1u
  subst u1w
  refine Goes.rn 7 [(60, .i x4), (61, .i (iand .i64 x4 1)), (62, .bool (!(decide (iand .i64 x4 1 = 0))))] J1q ?_
  refine ite_some h (fun h47 h => ?_) (fun h47 h => ?_)
  ·
   rw [decide_eq_true h47]
   refine Goes.rn 2 [] J1j ?_
   exact Goes.jp 73 [(0, yieldV lx0), (1, (pt u1e 0)), (2, (pt u1f 0)), (4, .i x4), (5, .u x5)] (u2b _ _ h _ _ hx uv u1m.length ux uy u1g u1n.length u1i u1j u1o.length u1l p1 u1r rfl u1t rfl u1v rfl)
  ·
   rw [decide_eq_false h47]
   refine Goes.rn 1 [] J1r ?_
   have z6 : Ext S1 w1 S1 (w1).drew := Ext.draw
   have p6 := p1.draw
   refine Goes.drawn (s := [6]) (F := Fc S1 (w1).drew [(⟨u1e, 0, none⟩, .slice u1g u1n.length u1i)]) 10 7 (by kernel_rfl) (by kernel_rfl) (by kernel_rfl) (by kernel_rfl) ?_
   generalize (w1).drew = w6 at z6 p6 ⊢
   refine AnyG.ld1 (i := 0) 22 (.tmp 1) 63 22 ⟨u1e, 0, none⟩ (.slice u1g u1n.length u1i) (by kernel_rfl) (by kernel_rfl) (Fc.here (p6.cs [(4, 0, 1)])) (by kernel_rfl) (by kernel_rfl) (fun _ h => h.2.at_ 0 rfl) ?_
   refine guard_some' h fun g49 h => ?_
   refine AnyG.ixR_n (i := 1) 22 (.tmp 63) (.const (.int .i64 0)) 64 0 35 .i64 0 (gi u1n 0) rfl rfl (u1t.ext z6) (by kernel_rfl) (by kernel_rfl) (Fc.here (p6.cs [(4, 0, 1)])) (by kernel_rfl) (by kernel_rfl) (by kernel_rfl) (by kernel_rfl) (by decide : (0 : Int) ≤ 0) g49 ?_
   intro a50 _ f51 q52
   obtain rfl := q52
   refine AnyG.ld1 (i := 2) 35 (.tmp 64) 65 35 a50 (.u (gi u1n 0)) (by kernel_rfl) (by kernel_rfl) (Fc.here (p6.cs [(4, 0, 1)])) (by kernel_rfl) (by kernel_rfl) (fun _ h => f51.fc h 0 _ rfl) ?_
   refine AnyG.ld1 (i := 3) 22 (.tmp 1) 66 22 ⟨u1e, 0, none⟩ (.slice u1g u1n.length u1i) (by kernel_rfl) (by kernel_rfl) (Fc.here (p6.cs [(4, 0, 1)])) (by kernel_rfl) (by kernel_rfl) (fun _ h => h.2.at_ 0 rfl) ?_
   refine guard_some' h fun g53 h => ?_
   refine AnyG.slR_n (i := 4) 22 (.tmp 66) (some (.const (.int .i64 1))) none 67 22 35 1 (u1n.length : Int) (sl u1n 1 (u1n.length : Int)) rfl rfl (u1t.ext z6) (by kernel_rfl) (by kernel_rfl) (Fc.here (p6.cs [(4, 0, 1)])) (by kernel_rfl) (by kernel_rfl) (by kernel_rfl) (Bnd.at_ .i64 (by kernel_rfl)) Bnd.no (by decide : (0 : Int) ≤ 1) g53 (Int.le_refl _) ?_
   intro A54 c55 f56
   refine AnyG.pu 5 (.assign (.tmp 65)) 5 35 (.u (gi u1n 0)) (Fc.here (p6.cs [(4, 0, 1)])) ?_
   refine Op_.st 22 (.tmp 1) (.tmp 67) 0 4 u1e 0 (.slice A54 ((sl u1n 1 (u1n.length : Int)).length) c55) [.slice A54 ((sl u1n 1 (u1n.length : Int)).length) c55] p6 rfl (AnyG.ss (i := 6) (by kernel_rfl) (by kernel_rfl)) (by kernel_rfl) (by kernel_rfl) (by kernel_rfl) (by kernel_rfl) (Nat.zero_le _) (by simp only [List.length_cons, List.length_nil]; omega) (by simp [Value.oneCell']) ?_
   intro w7 z7 p7
   have p7 : Hp nz wz S1 w7 ((some lx0, .obj (lpst 58 (lfr 23 [(5, (pt u1c 0)), (7, (pt u1d 0)), (12, .func (.func 68) #[] #[(pt u1e 0), (pt u1f 0)])] u1b) #[13, 14] (rfAssign (Q10)) (rfBody (Q10)) rx0 .ready none)) :: (some u1c, .row 72 [.func (.func 47) #[] #[]] 1 0) :: (some u1d, .row 22 [.slice (Gp uv) u1m.length ux] 1 0) :: (uv, .row 35 uy (ux * (kInt .u64).size) 0) :: (some u1e, .row 22 [.slice A54 ((sl u1n 1 (u1n.length : Int)).length) c55] 1 0) :: (some u1f, .row 22 [.slice u1j u1o.length u1l] 1 0) :: Lr) := p7
   refine AnyG.last [] (Fc S1 w7 []) (by decide) ?_
   refine AnyG.done (by kernel_rfl) ?_ _
   exact Goes.jp 73 [(0, yieldV lx0), (1, (pt u1e 0)), (2, (pt u1f 0)), (4, .i x4), (5, .u (gi u1n 0))] (u2b _ _ h _ _ ((hx.trans z6).trans z7) uv u1m.length ux uy A54 ((sl u1n 1 (u1n.length : Int)).length) c55 u1j u1o.length u1l p7 (u1r.ext (z6.trans z7)) rfl (f56.ext z7) rfl (u1v.ext (z6.trans z7)) rfl)
 ·
  intro u2c u2d ⟨x4, x5, u1m, u1n, u1o⟩ r h S1 w1 hx uv uw ux uy u1g u1h u1i u1j u1k u1l p1 u1r u1s u1t u1u u1v u1w junk
  try dsimp only at h
  subst u1s
  subst u1u
  subst u1w
  refine Goes.rn 5 [(68, yieldV lx0), (69, .u x5), (70, .i x4)] J1t ?_
  refine bind_some' h fun y57 e58 h => ?_
  refine Goes.yieldAt (.call { callee := .value (.tmp 68), args := #[(.tmp 69), (.tmp 70)], argTypes := #[35, 3] }) 71 4 0 lx0 #[.u x5, .i x4] p1 rfl (by kernel_rfl) rfl (fun _ => by kernel_rfl) rfl (W.z9 u1m u1n u1o x5 x4 y57 e58 lx0 rx0 u1b u1c u1d uv u1m.length ux uy u1e u1g u1n.length u1i u1f u1j u1o.length u1l p1 u1r rfl u1t rfl u1v rfl) ?_
  rintro _ w8 ⟨S8, u2e, u2f, u2g, u2h, rfl, z8, p8, u2i, rfl⟩
  refine Goes.rn 6 [(72, .bool (!true))] J1a ?_
  exact Goes.jp 73 [(0, yieldV lx0), (1, (pt u1e 0)), (2, (pt u1f 0))] (u2d _ _ h _ _ (hx.trans z8) u2e y57.length u2g u2h u1g u1n.length u1i u1j u1o.length u1l p8 u2i rfl (u1t.ext z8) rfl (u1v.ext z8) rfl)

theorem W.zb {nz wz S0 w0 Lr} (lx0 : Nat) (rx0 : Nat) (u1b : Nat → Value) (u1c : Nat) (u1d : Nat) (u1e : Nat) (u1f : Nat) : ∀ a r, M.post_merge_uint64_1_l0 a = some r → (L.zb nz wz S0 w0 Lr lx0 rx0 u1b u1c u1d u1e u1f) a r := (W.zj lx0 rx0 u1b u1c u1d u1e u1f).1

theorem W.zc {nz wz S0 w0 Lr} (lx0 : Nat) (rx0 : Nat) (u1b : Nat → Value) (u1c : Nat) (u1d : Nat) (u1e : Nat) (u1f : Nat) : ∀ a r, M.post_merge_uint64_1_l1 a = some r → (L.zc nz wz S0 w0 Lr lx0 rx0 u1b u1c u1d u1e u1f) a r := (W.zj lx0 rx0 u1b u1c u1d u1e u1f).2.1

theorem W.zd {nz wz S0 w0 Lr} (lx0 : Nat) (rx0 : Nat) (u1b : Nat → Value) (u1c : Nat) (u1d : Nat) (u1e : Nat) (u1f : Nat) : ∀ a r, M.post_merge_uint64_1_l2 a = some r → (L.zd nz wz S0 w0 Lr lx0 rx0 u1b u1c u1d u1e u1f) a r := (W.zj lx0 rx0 u1b u1c u1d u1e u1f).2.2.1

theorem W.ze {nz wz S0 w0 Lr} (lx0 : Nat) (rx0 : Nat) (u1b : Nat → Value) (u1c : Nat) (u1d : Nat) (u1e : Nat) (u1f : Nat) : ∀ a r, M.post_merge_uint64_1_l3 a = some r → (L.ze nz wz S0 w0 Lr lx0 rx0 u1b u1c u1d u1e u1f) a r := (W.zj lx0 rx0 u1b u1c u1d u1e u1f).2.2.2.1

theorem W.zf {nz wz S0 w0 Lr} (lx0 : Nat) (rx0 : Nat) (u1b : Nat → Value) (u1c : Nat) (u1d : Nat) (u1e : Nat) (u1f : Nat) : ∀ a r, M.post_merge_uint64_1_l4 a = some r → (L.zf nz wz S0 w0 Lr lx0 rx0 u1b u1c u1d u1e u1f) a r := (W.zj lx0 rx0 u1b u1c u1d u1e u1f).2.2.2.2.1

theorem W.zg {nz wz S0 w0 Lr} (lx0 : Nat) (rx0 : Nat) (u1b : Nat → Value) (u1c : Nat) (u1d : Nat) (u1e : Nat) (u1f : Nat) : ∀ a r, M.post_merge_uint64_1_l5 a = some r → (L.zg nz wz S0 w0 Lr lx0 rx0 u1b u1c u1d u1e u1f) a r := (W.zj lx0 rx0 u1b u1c u1d u1e u1f).2.2.2.2.2.1

theorem W.zh {nz wz S0 w0 Lr} (lx0 : Nat) (rx0 : Nat) (u1b : Nat → Value) (u1c : Nat) (u1d : Nat) (u1e : Nat) (u1f : Nat) : ∀ a r, M.post_merge_uint64_1_l6 a = some r → (L.zh nz wz S0 w0 Lr lx0 rx0 u1b u1c u1d u1e u1f) a r := (W.zj lx0 rx0 u1b u1c u1d u1e u1f).2.2.2.2.2.2.1

theorem W.zi {nz wz S0 w0 Lr} (lx0 : Nat) (rx0 : Nat) (u1b : Nat → Value) (u1c : Nat) (u1d : Nat) (u1e : Nat) (u1f : Nat) : ∀ a r, M.post_merge_uint64_1_l7 a = some r → (L.zi nz wz S0 w0 Lr lx0 rx0 u1b u1c u1d u1e u1f) a r := (W.zj lx0 rx0 u1b u1c u1d u1e u1f).2.2.2.2.2.2.2

theorem W.za (u2j : List Int) (u2k : List Int) (u2l : List Int) (r : (List Int) × (List Int) × (List Int)) (h : M.post_merge_uint64_1 u2j u2k u2l = some r) {nz wz S0 w0 Lr} (lx0 rx0 u1b u1c u1d u2m u2n u2o u2p u1e u2q u2r u2s u1f u2t u2u u2v) (p0 : Hp nz wz S0 w0 ((some lx0, .obj (lpst 58 (lfr 23 [(5, (pt u1c 0)), (7, (pt u1d 0)), (12, .func (.func 68) #[] #[(pt u1e 0), (pt u1f 0)])] u1b) #[13, 14] (rfAssign (Q10)) (rfBody (Q10)) rx0 .ready none)) :: (some u1c, .row 72 [.func (.func 47) #[] #[]] 1 0) :: (some u1d, .row 22 [.slice (Gp u2m) u2n u2o] 1 0) :: (u2m, .row 35 u2p (u2o * (kInt .u64).size) 0) :: (some u1e, .row 22 [.slice u2q u2r u2s] 1 0) :: (some u1f, .row 22 [.slice u2t u2u u2v] 1 0) :: Lr)) (u2w : Els (kInt .u64) S0 w0 u2p u2j) (u2x : u2j.length = u2n) (u2y : Rd (kInt .u64) S0 w0 u2q u2s u2k) (u2z : u2k.length = u2r) (u30 : Rd (kInt .u64) S0 w0 u2t u2v u2l) (u31 : u2l.length = u2u) :
  Calls Try.prog 68 #[yieldV lx0, (pt u1e 0), (pt u1f 0)] w0 (Rets (Post.za nz wz S0 w0 Lr lx0 rx0 u1b u1c u1d u1e u1f r)) := by
 subst u2x
 subst u2z
 subst u31
 refine calls_of_goes (fn := Try.f68) (c := B68) (by kernel_rfl) (by kernel_rfl) 70 (by kernel_rfl) ?_
 refine Goes.jp 73 [(0, yieldV lx0), (1, (pt u1e 0)), (2, (pt u1f 0))] (fun junk => ?_)
 delta M.post_merge_uint64_1 at h
 refine Goes.rn 2 [] J1a ?_
 exact Goes.jp 73 [(0, yieldV lx0), (1, (pt u1e 0)), (2, (pt u1f 0))] (W.zb lx0 rx0 u1b u1c u1d u1e u1f _ _ h _ _ (Ext.refl S0 w0) u2m u2j.length u2o u2p u2q u2k.length u2s u2t u2l.length u2v p0 u2w rfl u2y rfl u30 rfl)

def Q1k := sub [1] B58
def J1u : List Item := [.code Q1k]
def Q1l := sub [0] B58
def J1v : List Item := .inRegion (opsOf Q1l) [0, 1] :: J1u
def Q1m := sub [1, 1] B58
def J1w : List Item := [.code Q1m]
def Q1n := sub [1, 0] B58
def J1x : List Item := .inRegion (opsOf Q1n) [0] :: J1w
def Q1o := sub [1, 1, 1] B58
def J1y : List Item := [.code Q1o]
def Q1p := sub [1, 1, 0, 1] B58
def J1z : List Item := .code Q1p :: J1y
def Q1q := sub [1, 1, 0, 0] B58
def J20 : List Item := .inRegion (opsOf Q1q) [2] :: J1z
def J21 : List Item := .inBlock 0 :: J1y
def J22 : List Item := .code Q10 :: J21
def Q1r := sub [1, 1, 1, 1] B58
def J23 : List Item := [.code Q1r]
def Q1s := sub [1, 1, 1, 0] B58
def J24 : List Item := .inRegion (opsOf Q1s) [0, 1] :: J23

def Post.zk (r : List Int) (v : Value) (w' : World) : Prop :=
 ∃ S' Gq nq cq csq, v = .slice (Gp Gq) nq cq ∧ Ext S0 w0 S' w' ∧ Hp nz wz S' w' ((Gq, .row 35 csq (cq * (kInt .u64).size) 0) :: Lr) ∧ Els (kInt .u64) S' w' csq r ∧ r.length = nq

theorem W.zk (x0 : List Int) (x1 : List Int) (r : List Int) (h : M.post_those_uint64 x0 x1 = some r) {nz wz S0 w0 Lr} (Ax0 nx0 cx0 Ax1 nx1 cx1) (p0 : Hp nz wz S0 w0 (Lr)) (fx0 : Rd (kInt .u64) S0 w0 Ax0 cx0 x0) (lx0 : x0.length = nx0) (fx1 : Rd (kInt .u64) S0 w0 Ax1 cx1 x1) (lx1 : x1.length = nx1) :
  Calls Try.prog 58 #[.slice Ax0 nx0 cx0, .slice Ax1 nx1 cx1, .func (.func 47) #[] #[]] w0 (Rets (Post.zk nz wz S0 w0 Lr r)) := by
 subst lx0
 subst lx1
 refine calls_of_goes (fn := Try.f58) (c := B58) (by kernel_rfl) (by kernel_rfl) 20 (by kernel_rfl) ?_
 refine Goes.jp 23 [(0, .slice Ax0 x0.length cx0), (1, .slice Ax1 x1.length cx1), (2, .func (.func 47) #[] #[])] (fun junk => ?_)
 delta M.post_those_uint64 at h
 refine Goes.rn 2 [] J1v ?_
 refine Op_.box 72 (.tmp 2) 5 0 (.func (.func 47) #[] #[]) [.func (.func 47) #[] #[]] p0 Goes.v (by kernel_rfl) (by kernel_rfl) ?_
 intro b1 w2 z2 p2
 refine Goes.rn 4 [(6, .slice none 0 0)] J1x ?_
 refine Op_.alloc 22 7 0 (.slice none 0 0) [.slice none 0 0] p2 Goes.v (by kernel_rfl) (by kernel_rfl) ?_
 intro b3 w3 z3 p3
 refine Goes.rn 6 [(10, .slice Ax0 x0.length cx0), (11, .slice Ax1 x1.length cx1)] J20 ?_
 refine bind_some' h fun y5 e6 h => ?_
 refine Goes.cal (kc 63 [10, 11] #[22, 22]) 12 88 63 _ (W.z7 x0 x1 y5 e6 Ax0 x0.length cx0 Ax1 x1.length cx1 p3 (fx0.ext (z2.trans z3)) rfl (fx1.ext (z2.trans z3)) rfl) ?_
 rintro _ w4 ⟨S4, u32, u33, u34, u35, u36, u37, u38, u39, rfl, z4, p4, u3a, rfl, u3b, rfl⟩
 refine Goes.rn 2 [] J22 ?_
 refine Goes.jp 23 [(5, (pt b1 0)), (7, (pt b3 0)), (12, .func (.func 68) #[] #[(pt u32 0), (pt u36 0)])] (fun u3c => ?_)
 refine Goes.rangeF (f := 58) (.tmp 12) #[13, 14] 68 #[] #[(pt u32 0), (pt u36 0)] (by kernel_rfl) (by kernel_rfl) (fun _ => by kernel_rfl) p4 ?_
 intro r10 l11 w5 z5 p5
 have p5 : Hp nz wz S4 w5 ((none, .row 35 [] (0 * (kInt .u64).size) 0) :: (some l11, .obj (lpst 58 (lfr 23 [(5, (pt b1 0)), (7, (pt b3 0)), (12, .func (.func 68) #[] #[(pt u32 0), (pt u36 0)])] u3c) #[13, 14] (rfAssign (Q10)) (rfBody (Q10)) r10 .ready none)) :: (some r10, .obj (.deferred (some []))) :: (some u32, .row 22 [.slice u33 y5.1.length u35] 1 0) :: (some u36, .row 22 [.slice u37 y5.2.length u39] 1 0) :: (some b3, .row 22 [.slice none 0 0] 1 0) :: (some b1, .row 72 [.func (.func 47) #[] #[]] 1 0) :: Lr) := p5.nilRow' 35
 have p5 := (((((p5.fr 4).fr 4).fr 2).fr 5).fr 6).fr 5
 refine bind_some' h fun y15 e16 h => ?_
 refine ⟨_, W.za ([] : List Int) y5.1 y5.2 y15 e16 l11 r10 u3c b1 b3 none 0 0 [] u32 u33 y5.1.length u35 u36 u37 y5.2.length u39 p5 (Els.nil (K := (kInt .u64))) rfl (u3a.ext z5) rfl (u3b.ext z5) rfl, ?_⟩
 rintro _ w6 ⟨S6, u3d, u3e, u3f, u3g, u3h, u3i, u3j, u3k, u3l, u3m, rfl, z6, p6, u3n, rfl, u3o, rfl, u3p, rfl⟩
 refine Goes.endF 0 p6 rfl rfl ?_
 intro w7 z7 p7
 replace p7 : Hp nz wz S6 w7 ((some b1, .row 72 [.func (.func 47) #[] #[]] 1 0) :: (some b3, .row 22 [.slice (Gp u3d) y15.1.length u3f] 1 0) :: (u3d, .row 35 u3g (u3f * (kInt .u64).size) 0) :: (some u32, .row 22 [.slice u3h y15.2.1.length u3j] 1 0) :: (some u36, .row 22 [.slice u3k y15.2.2.length u3m] 1 0) :: (some r10, .obj (.deferred (some []))) :: Lr) := (p7.front 0 _ rfl).drop
 show Goes _ _ J21 _ _ _
 refine Goes.rn 3 [] J24 ?_
 refine Goes.ld 22 (.tmp 7) 22 22 ⟨b3, 0, none⟩ (.slice (Gp u3d) y15.1.length u3f) (p7.c 1 0) ?_
 refine Goes.rn 2 [(6, .slice (Gp u3d) y15.1.length u3f)] J23 ?_
 obtain rfl := Option.some.inj h
 have p7 := (((p7.dp 0).dp 0).dp 1).dp 1
 have p7 := (p7.fr 0).fr 1
 refine Goes.retL ?_
 refine lvs_mark 0 rfl rfl p7 rfl ?_
 intro w8 z8 p8
 replace p8 : Hp nz wz S6 w8 ((u3d, .row 35 u3g (u3f * (kInt .u64).size) 0) :: Lr) := p8.drop
 exact lvs_done (fn := Try.f58) rfl rfl rfl rfl (by kernel_rfl) (v := .slice (Gp u3d) y15.1.length u3f) (by kernel_rfl) ⟨S6, u3d, y15.1.length, u3f, u3g, rfl, ((((((((Ext.refl S0 w0).trans z2).trans z3).trans z4).trans z5).trans z6).trans z7).trans z8), p8, (u3n.ext (z7.trans z8)), rfl⟩

def Q1t := sub [1, 1, 1, 1, 1, 1] B43
def J25 : List Item := [.code Q1t]
def J26 : List Item := .inBlock 2 :: J25
def Q1u := sub [1, 1, 1, 1, 1, 0, 1, 0, 0] B43
def J27 : List Item := .inLoop Q1u :: J26
def J28 : List Item := .code Q1u :: J27
def Q1v := sub [1, 1, 1, 1, 1, 0, 1, 0, 0, 1, 1] B43
def J29 : List Item := .code Q1v :: J27
def Q1w := sub [1, 1, 1, 1, 1, 0, 1, 0, 0, 1, 0] B43
def J2a : List Item := .code Q1w :: J29
def Q1x := sub [1, 1, 1, 1, 1, 0, 1, 0, 0, 1, 1, 1] B43
def J2b : List Item := .code Q1x :: J27
def J2c : List Item := .inBlock 3 :: J2b
def Q1y := sub [1, 1, 1, 1, 1, 0, 1, 0, 0, 1, 1, 0, 0, 1] B43
def J2d : List Item := .code Q1y :: J2c
def Q1z := sub [1, 1, 1, 1, 1, 0, 1, 0, 0, 1, 1, 0, 0, 0] B43
def J2e : List Item := .inRegion (opsOf Q1z) [0, 1, 2] :: J2d
def J2f : List Item := .inRegion (opsOf Q1y) [3, 4] :: J2c
def Q20 := sub [1, 1, 1, 1, 1, 1, 1] B43
def J2g : List Item := [.code Q20]

def Post.zl (r : (List Int) × Int) (v : Value) (w' : World) : Prop :=
 ∃ S' u3q u3r u3s u3t, v = .tuple #[.slice (Gp u3q) u3r u3s, .i r.2] ∧ Ext S0 w0 S' w' ∧ Hp nz wz S' w' ((u3q, .row 35 u3t (u3s * (kInt .u64).size) 0) :: Lr) ∧ Els (kInt .u64) S' w' u3t r.1 ∧ r.1.length = u3r

def L.zm : (List Int) × (List (List Int)) × Int × Int → ((List Int) × Int) → Prop := fun ⟨x9, x35, x36, x37⟩ r => ∀ S1 w1, Ext S0 w0 S1 w1 → ∀ Gx9 nx9 cx9 u3u u3v u3w u3x (_ : Hp nz wz S1 w1 ((Gx9, .row 35 u3u (cx9 * (kInt .u64).size) 0) :: Lr)) (_ : Els (kInt .u64) S1 w1 u3u x9) (_ : x9.length = nx9) (_ : Rd (kSl (kInt .u64)) S1 w1 u3v u3x x35) (_ : x35.length = u3w) (junk : Nat → Value),
 Goes Try.prog (base 43) J28 ⟨lfr 47 [(1, .func (.func 47) #[] #[]), (9, .slice (Gp Gx9) nx9 cx9), (35, .slice u3v u3w u3x), (36, .i x36), (37, .i x37)] junk, []⟩ w1 (Done Try.prog 43 (Rets (Post.zl nz wz S0 w0 Lr r)))

theorem W.zm {nz wz S0 w0 Lr} : ∀ a r, M.post_fold_l1 a = some r → (L.zm nz wz S0 w0 Lr) a r := by
 refine M.post_fold_l1.partial_correctness (motive := (L.zm nz wz S0 w0 Lr)) ?_
 intro u3y u3z ⟨x9, x35, x36, x37⟩ r h S1 w1 hx Gx9 nx9 cx9 u3u u3v u3w u3x p1 fx9 lx9 u40 u41 junk
 try dsimp only at h
 subst lx9
 subst u41
 refine Goes.rn 5 [(38, .bool (decide (x37 < x36)))] J2a ?_
 refine ite_some h (fun h33 h => ?_) (fun h33 h => ?_)
 ·
  rw [decide_eq_true h33]
  refine Goes.rn 6 [] J2e ?_
  refine guard_some' h fun g34 h => ?_
  refine guard_some' h fun g35 h => ?_
  refine Op_.ixR_n 38 (.tmp 35) (.tmp 37) 39 0 22 .i64 x37 (gi x35 x37) rfl rfl u40 Goes.v (by kernel_rfl) (by kernel_rfl) (by kernel_rfl) (by kernel_rfl) g34 g35 ?_
  intro a36 _ f37 q38
  obtain ⟨A39, c40, rfl, f41⟩ := q38
  refine Goes.ld 22 (.tmp 39) 40 22 a36 (.slice A39 ((gi x35 x37).length) c40) (f37.cell 0 _ rfl) ?_
  refine Goes.rn 6 [(11, .slice A39 ((gi x35 x37).length) c40), (41, .slice (Gp Gx9) x9.length cx9), (42, .slice A39 ((gi x35 x37).length) c40), (43, .func (.func 47) #[] #[])] J2f ?_
  obtain ⟨S4, z4, p4, f42⟩ := p1.freezeRd 0 rfl fx9 (by decide)
  refine bind_some' h fun y43 e44 h => ?_
  refine Goes.cal (kc 58 [41, 42, 43] #[22, 22, 72]) 44 22 58 _ (W.zk x9 (gi x35 x37) y43 e44 (Gp Gx9) x9.length cx9 A39 ((gi x35 x37).length) c40 p4 f42 rfl (f41.ext z4) rfl) ?_
  rintro _ w5 ⟨S5, u42, u43, u44, u45, rfl, z5, p5, u46, rfl⟩
  have p5 := p5.dp 1
  refine Goes.rn 8 [(9, .slice (Gp u42) y43.length u44), (45, .i (wr .i64 (x37 + 1))), (37, .i (wr .i64 (x37 + 1)))] J28 ?_
  exact Goes.jp 47 [(1, .func (.func 47) #[] #[]), (9, .slice (Gp u42) y43.length u44), (35, .slice u3v x35.length u3x), (36, .i x36), (37, .i (wr .i64 (x37 + 1)))] (u3z _ _ h _ _ ((hx.trans z4).trans z5) u42 y43.length u44 u45 u3v x35.length u3x p5 u46 rfl (u40.ext (z4.trans z5)) rfl)
 ·
  rw [decide_eq_false h33]
  refine Goes.rn 8 [(46, .slice (Gp Gx9) x9.length cx9), (4, .slice (Gp Gx9) x9.length cx9), (5, .i 0)] J2g ?_
  obtain rfl := Option.some.inj h
  exact Goes.rt Try.f43 (.tuple #[.slice (Gp Gx9) x9.length cx9, .i 0]) ⟨S1, Gx9, x9.length, cx9, u3u, rfl, hx, p1, fx9, rfl⟩

def Q21 := sub [1, 1, 1] B43
def J2h : List Item := [.code Q21]
def J2i : List Item := .inBlock 0 :: J2h
def Q22 := sub [1, 1, 0, 1, 0, 0] B43
def J2j : List Item := .inLoop Q22 :: J2i
def J2k : List Item := .code Q22 :: J2j
def Q23 := sub [1, 1, 0, 1, 0, 0, 1, 1] B43
def J2l : List Item := .code Q23 :: J2j
def Q24 := sub [1, 1, 0, 1, 0, 0, 1, 0] B43
def J2m : List Item := .code Q24 :: J2l
def Q25 := sub [1, 1, 0, 1, 0, 0, 1, 1, 1] B43
def J2n : List Item := .code Q25 :: J2j
def J2o : List Item := .inBlock 1 :: J2n
def Q26 := sub [1, 1, 0, 1, 0, 0, 1, 1, 0, 0, 1] B43
def J2p : List Item := .code Q26 :: J2o
def Q27 := sub [1, 1, 0, 1, 0, 0, 1, 1, 0, 0, 0] B43
def J2q : List Item := .inRegion (opsOf Q27) [0, 1, 2] :: J2p
def Q28 := sub [1, 1, 0, 1, 0, 0, 1, 1, 0, 0, 1, 1] B43
def J2r : List Item := .code Q28 :: J2o
def Q29 := sub [1, 1, 0, 1, 0, 0, 1, 1, 0, 0, 1, 0] B43
def J2s : List Item := .inRegion (opsOf Q29) [1, 2] :: J2r
def Q2a := sub [1, 1, 0, 1, 0, 0, 1, 1, 0, 0, 1, 1, 1] B43
def J2t : List Item := .code Q2a :: J2o
def Q2b := sub [1, 1, 0, 1, 0, 0, 1, 1, 0, 0, 1, 1, 1, 0, 1] B43
def J2u : List Item := .code Q2b :: J2o
def Q2c := sub [1, 1, 1, 1] B43
def J2v : List Item := [.code Q2c]
def Q2d := sub [1, 1, 1, 0, 1] B43
def J2w : List Item := .code Q2d :: J2v
def Q2e := sub [1, 1, 1, 0, 1, 0, 1] B43
def J2x : List Item := .code Q2e :: J2v
def Q2f := sub [1, 1, 1, 1, 1] B43
def J2y : List Item := [.code Q2f]
def Q2g := sub [1, 1, 1, 1, 0] B43
def J2z : List Item := .inRegion (opsOf Q2g) [1, 2, 3, 4] :: J2y
def Q2h := sub [1, 1, 1, 1, 1, 0, 1] B43
def J30 : List Item := .code Q2h :: J25
def Q2i := sub [1, 1, 1, 1, 1, 0, 0] B43
def J31 : List Item := .inRegion (opsOf Q2i) [1, 2, 3] :: J30

def L.zn : (List (List Int)) × (List (List Int)) × Int × Int → ((List Int) × Int) → Prop := fun ⟨x0, x15, x16, x17⟩ r => ∀ S1 w1, Ext S0 w0 S1 w1 → ∀ Ax0 nx0 cx0 u47 u48 u49 (_ : Hp nz wz S1 w1 (Lr)) (_ : Rd (kSl (kInt .u64)) S1 w1 Ax0 cx0 x0) (_ : x0.length = nx0) (_ : Rd (kSl (kInt .u64)) S1 w1 u47 u49 x15) (_ : x15.length = u48) (junk : Nat → Value),
 Goes Try.prog (base 43) J2k ⟨lfr 47 [(0, .slice Ax0 nx0 cx0), (1, .func (.func 47) #[] #[]), (15, .slice u47 u48 u49), (16, .i x16), (17, .i x17)] junk, []⟩ w1 (Done Try.prog 43 (Rets (Post.zl nz wz S0 w0 Lr r)))

theorem W.zn {nz wz S0 w0 Lr} : ∀ a r, M.post_fold_l0 a = some r → (L.zn nz wz S0 w0 Lr) a r := by
 refine M.post_fold_l0.partial_correctness (motive := (L.zn nz wz S0 w0 Lr)) ?_
 intro u4a u4b ⟨x0, x15, x16, x17⟩ r h S1 w1 hx Ax0 nx0 cx0 u47 u48 u49 p1 fx0 lx0 u4c u4d junk
 try dsimp only at h
 subst lx0
 subst u4d
 refine Goes.rn 5 [(18, .bool (decide (x17 < x16)))] J2m ?_
 refine ite_some h (fun h3 h => ?_) (fun h3 h => ?_)
 ·
  rw [decide_eq_true h3]
  refine Goes.rn 6 [] J2q ?_
  refine guard_some' h fun g4 h => ?_
  refine guard_some' h fun g5 h => ?_
  refine Op_.ixR_n 38 (.tmp 15) (.tmp 17) 19 0 22 .i64 x17 (gi x15 x17) rfl rfl u4c Goes.v (by kernel_rfl) (by kernel_rfl) (by kernel_rfl) (by kernel_rfl) g4 g5 ?_
  intro a6 _ f7 q8
  obtain ⟨A9, c10, rfl, f11⟩ := q8
  refine Goes.ld 22 (.tmp 19) 20 22 a6 (.slice A9 ((gi x15 x17).length) c10) (f7.cell 0 _ rfl) ?_
  refine Goes.rn 5 [(7, .slice A9 ((gi x15 x17).length) c10), (21, .slice A9 ((gi x15 x17).length) c10)] J2s ?_
  refine bind_some' h fun y12 e13 h => ?_
  refine Goes.cal (kc 23 [21] #[22]) 22 25 23 _ (W.z5 (gi x15 x17) y12 e13 A9 ((gi x15 x17).length) c10 p1 f11 rfl) ?_
  rintro _ w2 ⟨S2, rfl, z2, p2⟩
  refine Goes.rn 7 [(8, .i y12), (23, .i y12), (24, .bool (!(decide (y12 = 0))))] J2t ?_
  refine ite_some h (fun h14 h => ?_) (fun h14 h => ?_)
  ·
   rw [decide_eq_true h14]
   refine Goes.rn 8 [(26, .i (wr .i64 (x17 + 1))), (17, .i (wr .i64 (x17 + 1)))] J2k ?_
   exact Goes.jp 47 [(0, .slice Ax0 x0.length cx0), (1, .func (.func 47) #[] #[]), (15, .slice u47 x15.length u49), (16, .i x16), (17, .i (wr .i64 (x17 + 1)))] (u4b _ _ h _ _ (hx.trans z2) Ax0 x0.length cx0 u47 x15.length u49 p2 (fx0.ext z2) rfl (u4c.ext z2) rfl)
  ·
   rw [decide_eq_false h14]
   refine Goes.rn 7 [(25, .i y12), (4, .slice none 0 0), (5, .i y12)] J2u ?_
   have p2 : Hp nz wz S2 w2 ((none, .row 35 [] (0 * (kInt .u64).size) 0) :: Lr) := p2.nilRow' 35
   obtain rfl := Option.some.inj h
   exact Goes.rt Try.f43 (.tuple #[.slice (Gp none) 0 0, .i y12]) ⟨S2, none, 0, 0, [], rfl, (hx.trans z2), p2, (Els.nil (K := (kInt .u64))), rfl⟩
 ·
  rw [decide_eq_false h3]
  refine Goes.rn 9 [(27, .slice Ax0 x0.length cx0), (28, .i (x0.length : Int)), (29, .bool (decide ((x0.length : Int) = 0)))] J2w ?_
  refine ite_some h (fun h16 h => ?_) (fun h16 h => ?_)
  ·
   rw [decide_eq_true h16]
   refine Goes.rn 6 [(4, .slice none 0 0), (5, .i 0)] J2x ?_
   have p1 : Hp nz wz S1 w1 ((none, .row 35 [] (0 * (kInt .u64).size) 0) :: Lr) := p1.nilRow' 35
   obtain rfl := Option.some.inj h
   exact Goes.rt Try.f43 (.tuple #[.slice (Gp none) 0 0, .i 0]) ⟨S1, none, 0, 0, [], rfl, hx, p1, (Els.nil (K := (kInt .u64))), rfl⟩
  ·
   rw [decide_eq_false h16]
   refine Goes.rn 5 [(30, .slice Ax0 x0.length cx0)] J2z ?_
   refine guard_some' h fun g18 h => ?_
   refine Op_.ixR_n 38 (.tmp 30) (.const (.int .i64 0)) 31 0 22 .i64 0 (gi x0 0) rfl rfl fx0 Goes.v (by kernel_rfl) (by kernel_rfl) (by kernel_rfl) (by kernel_rfl) (by decide : (0 : Int) ≤ 0) g18 ?_
   intro a19 _ f20 q21
   obtain ⟨A22, c23, rfl, f24⟩ := q21
   refine Goes.ld 22 (.tmp 31) 32 22 a19 (.slice A22 ((gi x0 0).length) c23) (f20.cell 0 _ rfl) ?_
   refine bind_some' h fun y25 e26 h => ?_
   refine Goes.cal (kc 55 [32] #[22]) 33 22 55 _ (W.z6 (gi x0 0) y25 e26 A22 ((gi x0 0).length) c23 p1 f24 rfl) ?_
   rintro _ w3 ⟨S3, u4e, u4f, u4g, u4h, rfl, z3, p3, u4i, rfl⟩
   refine Goes.rn 6 [(9, .slice (Gp u4e) y25.length u4g), (34, .slice Ax0 x0.length cx0)] J31 ?_
   refine guard_some' h fun g28 h => ?_
   refine Op_.slR_n 38 (.tmp 34) (some (.const (.int .i64 1))) none 35 38 22 1 (x0.length : Int) (sl x0 1 (x0.length : Int)) rfl rfl (fx0.ext z3) Goes.v (by kernel_rfl) (by kernel_rfl) (by kernel_rfl) (Bnd.at_ .i64 (by kernel_rfl)) Bnd.no (by decide : (0 : Int) ≤ 1) g28 (Int.le_refl _) ?_
   intro A29 c30 f31
   refine Goes.rn 5 [(36, .i ((sl x0 1 (x0.length : Int)).length : Int)), (37, .i 0)] J28 ?_
   exact Goes.jp 47 [(1, .func (.func 47) #[] #[]), (9, .slice (Gp u4e) y25.length u4g), (35, .slice A29 ((sl x0 1 (x0.length : Int)).length) c30), (36, .i ((sl x0 1 (x0.length : Int)).length : Int)), (37, .i 0)] (W.zm _ _ h _ _ (hx.trans z3) u4e y25.length u4g u4h A29 ((sl x0 1 (x0.length : Int)).length) c30 p3 u4i rfl f31 rfl)

def Q2j := sub [1, 1] B43
def J32 : List Item := [.code Q2j]
def Q2k := sub [1, 0, 1] B43
def J33 : List Item := .code Q2k :: J32
def Q2l := sub [1, 0, 1, 0, 1] B43
def J34 : List Item := .code Q2l :: J32

theorem W.zl (x0 : List (List Int)) (r : (List Int) × Int) (h : M.post_fold x0 = some r) {nz wz S0 w0 Lr} (Ax0 nx0 cx0) (p0 : Hp nz wz S0 w0 (Lr)) (fx0 : Rd (kSl (kInt .u64)) S0 w0 Ax0 cx0 x0) (lx0 : x0.length = nx0) :
  Calls Try.prog 43 #[.slice Ax0 nx0 cx0, .func (.func 47) #[] #[]] w0 (Rets (Post.zl nz wz S0 w0 Lr r)) := by
 subst lx0
 refine calls_of_goes (fn := Try.f43) (c := B43) (by kernel_rfl) (by kernel_rfl) 45 (by kernel_rfl) ?_
 refine Goes.jp 47 [(0, .slice Ax0 x0.length cx0), (1, .func (.func 47) #[] #[])] (fun junk => ?_)
 delta M.post_fold at h
 refine Goes.rn 12 [(4, .slice none 0 0), (5, .i 0), (12, .slice Ax0 x0.length cx0), (13, .i (x0.length : Int)), (14, .bool (decide ((x0.length : Int) > 4096)))] J33 ?_
 refine ite_some h (fun h1 h => ?_) (fun h1 h => ?_)
 ·
  rw [decide_eq_true h1]
  refine Goes.rn 6 [(4, .slice none 0 0), (5, .i 3)] J34 ?_
  have p0 : Hp nz wz S0 w0 ((none, .row 35 [] (0 * (kInt .u64).size) 0) :: Lr) := p0.nilRow' 35
  obtain rfl := Option.some.inj h
  exact Goes.rt Try.f43 (.tuple #[.slice (Gp none) 0 0, .i 3]) ⟨S0, none, 0, 0, [], rfl, (Ext.refl S0 w0), p0, (Els.nil (K := (kInt .u64))), rfl⟩
 ·
  rw [decide_eq_false h1]
  refine Goes.rn 11 [(15, .slice Ax0 x0.length cx0), (16, .i (x0.length : Int)), (17, .i 0)] J2k ?_
  exact Goes.jp 47 [(0, .slice Ax0 x0.length cx0), (1, .func (.func 47) #[] #[]), (15, .slice Ax0 x0.length cx0), (16, .i (x0.length : Int)), (17, .i 0)] (W.zn _ _ h _ _ (Ext.refl S0 w0) Ax0 x0.length cx0 Ax0 x0.length cx0 p0 fx0 rfl fx0 rfl)

def Q2m := sub [1, 1] B20
def J35 : List Item := [.code Q2m]
def Q2n := sub [1, 0] B20
def J36 : List Item := .inRegion (opsOf Q2n) [1, 2, 3, 4, 5] :: J35

def Post.zo (r : (List Int) × Int) (v : Value) (w' : World) : Prop :=
 ∃ S' u3q u3r u3s u3t, v = .tuple #[.slice (Gp u3q) u3r u3s, .i r.2] ∧ Ext S0 w0 S' w' ∧ Hp nz wz S' w' ((u3q, .row 35 u3t (u3s * (kInt .u64).size) 0) :: Lr) ∧ Els (kInt .u64) S' w' u3t r.1 ∧ r.1.length = u3r

theorem W.zo (x0 : List (List Int)) (r : (List Int) × Int) (h : M.post_Or x0 = some r) {nz wz S0 w0 Lr} (Ax0 nx0 cx0) (p0 : Hp nz wz S0 w0 (Lr)) (fx0 : Rd (kSl (kInt .u64)) S0 w0 Ax0 cx0 x0) (lx0 : x0.length = nx0) :
  Calls Try.prog 20 #[.slice Ax0 nx0 cx0] w0 (Rets (Post.zo nz wz S0 w0 Lr r)) := by
 subst lx0
 refine calls_of_goes (fn := Try.f20) (c := B20) (by kernel_rfl) (by kernel_rfl) 7 (by kernel_rfl) ?_
 refine Goes.jp 8 [(0, .slice Ax0 x0.length cx0)] (fun junk => ?_)
 delta M.post_Or at h
 refine Goes.rn 8 [(2, .slice none 0 0), (3, .i 0), (4, .slice Ax0 x0.length cx0)] J36 ?_
 refine bind_some' h fun y1 e2 h => ?_
 refine Goes.cal (.call { callee := .value (.func 43), args := #[(.tmp 4), (.func 47)], argTypes := #[38, 72] }) 5 26 43 _ (W.zl x0 y1 e2 Ax0 x0.length cx0 p0 fx0 rfl) ?_
 rintro _ w2 ⟨S2, u4j, u4k, u4l, u4m, rfl, z2, p2, u4n, rfl⟩
 refine Goes.rn 5 [(6, .slice (Gp u4j) y1.1.length u4l), (7, .i y1.2), (2, .slice (Gp u4j) y1.1.length u4l), (3, .i y1.2)] J35 ?_
 obtain rfl := Option.some.inj h
 exact Goes.rt Try.f20 (.tuple #[.slice (Gp u4j) y1.1.length u4l, .i y1.2]) ⟨S2, u4j, y1.1.length, u4l, u4m, rfl, ((Ext.refl S0 w0).trans z2), p2, u4n, rfl⟩

def Q2o := sub [1, 1] B26
def J37 : List Item := [.code Q2o]
def Q2p := sub [1, 0] B26
def J38 : List Item := .inRegion (opsOf Q2p) [2, 3, 4, 5, 6, 7, 8] :: J37

def Post.zp (r : (List Int) × Int) (v : Value) (w' : World) : Prop :=
 ∃ S' u3q u3r u3s u3t, v = .tuple #[.slice (Gp u3q) u3r u3s, .i r.2] ∧ Ext S0 w0 S' w' ∧ Hp nz wz S' w' ((u3q, .row 35 u3t (u3s * (kInt .u64).size) 0) :: Lr) ∧ Els (kInt .u64) S' w' u3t r.1 ∧ r.1.length = u3r

theorem W.zp (x0 : List Int) (x1 : Int) (r : (List Int) × Int) (h : M.post_Add x0 x1 = some r) {nz wz S0 w0 Lr} (Ax0 nx0 cx0) (p0 : Hp nz wz S0 w0 (Lr)) (fx0 : Rd (kInt .u64) S0 w0 Ax0 cx0 x0) (lx0 : x0.length = nx0) :
  Calls Try.prog 26 #[.slice Ax0 nx0 cx0, .u x1] w0 (Rets (Post.zp nz wz S0 w0 Lr r)) := by
 subst lx0
 refine calls_of_goes (fn := Try.f26) (c := B26) (by kernel_rfl) (by kernel_rfl) 11 (by kernel_rfl) ?_
 refine Goes.jp 13 [(0, .slice Ax0 x0.length cx0), (1, .u x1)] (fun junk => ?_)
 delta M.post_Add at h
 refine Goes.rn 9 [(4, .slice none 0 0), (5, .i 0), (6, .slice Ax0 x0.length cx0), (7, .u x1)] J38 ?_
 have f2 : Els (kInt .u64) S0 w0 ([.u x1] : List Value) [x1] := by exact (Els.cons (K := (kInt .u64)) (vs := [.u x1]) (x := x1) rfl Els.nil)
 refine Op_.made (.buildSlice 22 1 #[(0, (.tmp 7))]) 8 22 (fun b => .slice (Gp (some b)) 1 1) 35 ([.u x1] : List Value) p0 Goes.v (by kernel_rfl) ?_
 intro b1 w2 z2 p2
 have p2 : Hp nz wz S0 w2 (((some b1), .row 35 ([.u x1] : List Value) (1 * (kInt .u64).size) 0) :: Lr) := p2
 obtain ⟨S3, z3, p3, f4⟩ := p2.freezeRd 0 rfl (f2.ext z2) (by decide)
 have f6 : Els (kSl (kInt .u64)) S3 w2 ([.slice Ax0 x0.length cx0, .slice (Gp (some b1)) 1 1] : List Value) [x0, [x1]] := by exact (Els.cons (K := (kSl (kInt .u64))) (vs := [.slice Ax0 x0.length cx0]) (x := x0) ⟨_, _, rfl, (fx0.ext (z2.trans z3))⟩ (Els.cons (K := (kSl (kInt .u64))) (vs := [.slice (Gp (some b1)) 1 1]) (x := [x1]) ⟨_, _, rfl, f4⟩ Els.nil))
 refine Op_.made (.buildSlice 38 2 #[(0, (.tmp 6)), (1, (.tmp 8))]) 9 38 (fun b => .slice (Gp (some b)) 2 2) 22 ([.slice Ax0 x0.length cx0, .slice (Gp (some b1)) 1 1] : List Value) p3 Goes.v (by kernel_rfl) ?_
 intro b5 w4 z4 p4
 have p4 : Hp nz wz S3 w4 (((some b5), .row 22 ([.slice Ax0 x0.length cx0, .slice (Gp (some b1)) 1 1] : List Value) (2 * (kSl (kInt .u64)).size) 0) :: ((some b1), .row 35 ([.u x1] : List Value) (1 * (kInt .u64).size) (([.u x1] : List Value).length)) :: Lr) := p4
 obtain ⟨S5, z5, p5, f8⟩ := p4.freezeRd 0 rfl (f6.ext z4) (by decide)
 refine bind_some' h fun y9 e10 h => ?_
 refine Goes.cal (kc 20 [9] #[38]) 10 26 20 _ (W.zo [x0, [x1]] y9 e10 (Gp (some b5)) 2 2 p5 f8 rfl) ?_
 rintro _ w6 ⟨S6, u4o, u4p, u4q, u4r, rfl, z6, p6, u4s, rfl⟩
 have p6 := (p6.dp 1).dp 1
 refine Goes.rn 5 [(11, .slice (Gp u4o) y9.1.length u4q), (12, .i y9.2), (4, .slice (Gp u4o) y9.1.length u4q), (5, .i y9.2)] J37 ?_
 obtain rfl := Option.some.inj h
 exact Goes.rt Try.f26 (.tuple #[.slice (Gp u4o) y9.1.length u4q, .i y9.2]) ⟨S6, u4o, y9.1.length, u4q, u4r, rfl, ((((((Ext.refl S0 w0).trans z2).trans z3).trans z4).trans z5).trans z6), p6, u4s, rfl⟩

def Q2q := sub [1] B53
def J39 : List Item := [.code Q2q]
def Q2r := sub [0, 1] B53
def J3a : List Item := .code Q2r :: J39
def Q2s := sub [0, 1, 0, 1] B53
def J3b : List Item := .code Q2s :: J39
def Q2t := sub [0, 1, 0, 0] B53
def J3c : List Item := .inRegion (opsOf Q2t) [3, 4, 5] :: J3b
def J3d : List Item := .inRegion (opsOf Q2t) [5] :: J3b
def J3e : List Item := [.inRegion (opsOf Q2q) [3, 4, 5, 6]]
def J3f : List Item := [.inRegion (opsOf Q2q) [6]]

def Post.zq (gx0 : Nat) (u4 : Nat) (u5 : Nat) (r : List (List (ByteArray × (List Int)))) (v : Value) (w' : World) : Prop :=
 ∃ S' Ee1, v = .tuple #[] ∧ Ext S0 w0 S' w' ∧ Hp nz wz S' w' ((some gx0, .row 69 [.map (some u4)] 1 0) :: (none, .seg 65 Ee1) :: Lr) ∧ Pl (oMap Value.string (kSl (kInt .u64))) S' w' Ee1 r

theorem W.zq (u5 : Nat) (x1 : ByteArray) (x2 : List Int) (u1 : List (List (ByteArray × (List Int)))) (r : List (List (ByteArray × (List Int)))) (h : M.post_lists_string_uint64_set u5 x1 x2 u1 = some r) {nz wz S0 w0 Lr} (gx0 u4 Ax2 nx2 cx2 u2) (p0 : Hp nz wz S0 w0 ((some gx0, .row 69 [.map (some u4)] 1 0) :: (none, .seg 65 u2) :: Lr)) (u6 : Pa 65 S0 u5 u4) (fx2 : Rd (kInt .u64) S0 w0 Ax2 cx2 x2) (lx2 : x2.length = nx2) (u3 : Pl (oMap Value.string (kSl (kInt .u64))) S0 w0 u2 u1) :
  Calls Try.prog 53 #[(pt gx0 0), .string x1, .slice Ax2 nx2 cx2] w0 (Rets (Post.zq nz wz S0 w0 Lr gx0 u4 u5 r)) := by
 subst lx2
 refine calls_of_goes (fn := Try.f53) (c := B53) (by kernel_rfl) (by kernel_rfl) 17 (by kernel_rfl) ?_
 refine Goes.jp 20 [(0, (pt gx0 0)), (1, .string x1), (2, .slice Ax2 x2.length cx2)] (fun junk => ?_)
 delta M.post_lists_string_uint64_set at h
 refine Goes.rn 7 [(6, .slice Ax2 x2.length cx2), (7, .i (x2.length : Int)), (8, .bool (decide ((x2.length : Int) = 0)))] J3a ?_
 refine ite_some h (fun h2 h => ?_) (fun h2 h => ?_)
 ·
  rw [decide_eq_true h2]
  refine Goes.rn 6 [(9, (pt gx0 0)), (10, (pt gx0 0)), (11, (pt gx0 0))] J3c ?_
  refine Goes.ld 65 (.tmp 11) 12 65 ⟨gx0, 0, none⟩ (.map (some u4)) (p0.c 0 0) ?_
  refine Goes.rn 1 [(13, .string x1)] J3d ?_
  refine let_some h fun v3 e4 h => ?_
  refine Op_.deM 65 9 (.tmp 12) (.tmp 13) 0 9 22 1 x1 v3 p0 rfl u3 u6 (Goes.v0s (by kernel_rfl)) (by kernel_rfl) (by kernel_rfl) (by kernel_rfl) (kok_str (by kernel_rfl)) e4 ?_
  intro w2 E5 z2 p2 f6 e7
  have p2 : Hp nz wz S0 w2 ((some gx0, .row 69 [.map (some u4)] 1 0) :: (none, .seg 65 E5) :: Lr) := p2
  refine Goes.rn 1 [] J3b ?_
  obtain rfl := Option.some.inj h
  exact Goes.rt Try.f53 (.tuple #[]) ⟨S0, E5, rfl, ((Ext.refl S0 w0).trans z2), p2, f6⟩
 ·
  rw [decide_eq_false h2]
  refine Goes.rn 6 [(14, (pt gx0 0)), (15, (pt gx0 0)), (16, (pt gx0 0))] J3e ?_
  refine Goes.ld 65 (.tmp 16) 17 65 ⟨gx0, 0, none⟩ (.map (some u4)) (p0.c 0 0) ?_
  refine Goes.rn 2 [(18, .string x1), (19, .slice Ax2 x2.length cx2)] J3f ?_
  refine let_some h fun v8 e9 h => ?_
  refine Op_.muM 65 (.tmp 17) (.tmp 18) (.tmp 19) 0 9 22 1 x1 (.slice Ax2 x2.length cx2) x2 v8 p0 rfl u3 u6 Goes.s (by kernel_rfl) (by kernel_rfl) (by kernel_rfl) (by kernel_rfl) (kok_str (by kernel_rfl)) ⟨_, _, rfl, fx2⟩ e9 ?_
  intro w3 E10 z3 p3 f11 e12
  have p3 : Hp nz wz S0 w3 ((some gx0, .row 69 [.map (some u4)] 1 0) :: (none, .seg 65 E10) :: Lr) := p3
  refine Goes.rn 1 [] [] ?_
  obtain rfl := Option.some.inj h
  exact Goes.end_ (fn := Try.f53) (by kernel_rfl) (v := .tuple #[]) (by kernel_rfl) ⟨S0, E10, rfl, ((Ext.refl S0 w0).trans z3), p3, f11⟩

def Q2u := sub [1, 1] B33
def J3g : List Item := [.code Q2u]
def Q2v := sub [1, 0, 1] B33
def J3h : List Item := .code Q2v :: J3g
def Q2w := sub [1, 0, 0] B33
def J3i : List Item := .inRegion (opsOf Q2w) [1, 2] :: J3h
def Q2x := sub [1, 1, 1] B33
def J3j : List Item := [.code Q2x]
def Q2y := sub [1, 1, 0] B33
def J3k : List Item := .inRegion (opsOf Q2y) [4, 5, 6, 7, 8, 9, 10, 11, 12, 13] :: J3j
def J3l : List Item := .inRegion (opsOf Q2y) [6, 7, 8, 9, 10, 11, 12, 13] :: J3j
def J3m : List Item := .inRegion (opsOf Q2y) [8, 9, 10, 11, 12, 13] :: J3j
def Q2z := sub [1, 1, 1, 1] B33
def J3n : List Item := [.code Q2z]
def Q30 := sub [1, 1, 1, 0] B33
def J3o : List Item := .inRegion (opsOf Q30) [5] :: J3n
def Q31 := sub [1, 1, 1, 1, 1] B33
def J3p : List Item := [.code Q31]

def Post.zr (gx0 : Nat) (u4 : Nat) (u5 : Nat) (r : Int × (List (List (ByteArray × (List Int))))) (v : Value) (w' : World) : Prop :=
 ∃ S' Ee1, v = .i r.1 ∧ Ext S0 w0 S' w' ∧ Hp nz wz S' w' ((some gx0, .row 69 [.map (some u4)] 1 0) :: (none, .seg 65 Ee1) :: Lr) ∧ Pl (oMap Value.string (kSl (kInt .u64))) S' w' Ee1 r.2

theorem W.zr (u5 : Nat) (x1 : ByteArray) (x2 : Int) (u1 : List (List (ByteArray × (List Int)))) (r : Int × (List (List (ByteArray × (List Int))))) (h : M.post_Index_Put u5 x1 x2 u1 = some r) {nz wz S0 w0 Lr} (gx0 u4 u2) (p0 : Hp nz wz S0 w0 ((some gx0, .row 69 [.map (some u4)] 1 0) :: (none, .seg 65 u2) :: Lr)) (u6 : Pa 65 S0 u5 u4) (u3 : Pl (oMap Value.string (kSl (kInt .u64))) S0 w0 u2 u1) :
  Calls Try.prog 33 #[(pt gx0 0), .string x1, .u x2] w0 (Rets (Post.zr nz wz S0 w0 Lr gx0 u4 u5 r)) := by
 refine calls_of_goes (fn := Try.f33) (c := B33) (by kernel_rfl) (by kernel_rfl) 28 (by kernel_rfl) ?_
 refine Goes.jp 31 [(0, (pt gx0 0)), (1, .string x1), (2, .u x2)] (fun junk => ?_)
 delta M.post_Index_Put at h
 refine Goes.rn 8 [(6, .i 0), (9, (pt gx0 0))] J3i ?_
 refine bind_some' h fun y2 e3 h => ?_
 refine Goes.cal (kc 52 [9] #[47]) 10 4 52 _ (W.z2 u5 y2 e3 gx0 u4 p0 u6) ?_
 rintro _ w2 ⟨S2, rfl, z2, p2⟩
 refine Goes.rn 10 [(11, .bool (!true)), (13, (pt gx0 0)), (14, (pt gx0 0)), (15, (pt gx0 0)), (16, (pt gx0 0))] J3k ?_
 refine Goes.ld 65 (.tmp 16) 17 65 ⟨gx0, 0, none⟩ (.map (some u4)) (p2.c 0 0) ?_
 refine Goes.rn 1 [(18, .string x1)] J3l ?_
 refine let_some h fun v4 e5 h => ?_
 refine Op_.lkM 65 (.tmp 17) (.tmp 18) 19 22 9 22 1 (.slice none 0 0) ([] : List Int) x1 v4 p2 rfl (u3.ext z2) (u6.ext z2) Goes.v (by kernel_rfl) (by kernel_rfl) (by kernel_rfl) (kok_str (by kernel_rfl)) (by kernel_rfl) ⟨none, 0, rfl, Rd.none_⟩ e5 ?_
 intro v6 f7
 obtain ⟨A8, c9, rfl, f10⟩ := one_sl f7
 refine Goes.rn 1 [(20, .u x2)] J3m ?_
 refine bind_some' h fun y11 e12 h => ?_
 refine Goes.cal (kc 26 [19, 20] #[22, 35]) 21 26 26 _ (W.zp v4 x2 y11 e12 A8 v4.length c9 p2 f10 rfl) ?_
 rintro _ w3 ⟨S3, u4t, u4u, u4v, u4w, rfl, z3, p3, u4x, rfl⟩
 refine Goes.rn 13 [(12, .tuple #[.slice (Gp u4t) y11.1.length u4v, .i y11.2]), (22, .slice (Gp u4t) y11.1.length u4v), (23, .i y11.2), (7, .slice (Gp u4t) y11.1.length u4v), (8, .i y11.2), (24, (pt gx0 0)), (25, (pt gx0 0)), (26, (pt gx0 0)), (27, .string x1), (28, .slice (Gp u4t) y11.1.length u4v)] J3o ?_
 obtain ⟨S4, z4, p4, f14⟩ := p3.freezeRd 0 rfl u4x (by decide)
 have p4 := (p4.fr 2).fr 2
 refine bind_some' h fun y15 e16 h => ?_
 refine Goes.cal (kc 53 [26, 27, 28] #[67, 9, 22]) 29 0 53 _ (W.zq u5 x1 y11.1 u1 y15 e16 gx0 u4 (Gp u4t) y11.1.length u4v u2 p4 (u6.ext ((z2.trans z3).trans z4)) f14 rfl (u3.ext ((z2.trans z3).trans z4))) ?_
 rintro _ w5 ⟨S5, u4y, rfl, z5, p5, u4z⟩
 have p5 := p5.dp 2
 refine Goes.rn 6 [(30, .i y11.2), (6, .i y11.2)] J3p ?_
 obtain rfl := Option.some.inj h
 exact Goes.rt Try.f33 (.i y11.2) ⟨S5, u4y, rfl, (((((Ext.refl S0 w0).trans z2).trans z3).trans z4).trans z5), p5, u4z⟩

def Q32 := sub [1, 1] B41
def J3q : List Item := [.code Q32]
def J3r : List Item := .inBlock 0 :: J3q
def Q33 := sub [1, 0, 1, 0, 0] B41
def J3s : List Item := .inLoop Q33 :: J3r
def J3t : List Item := .code Q33 :: J3s
def Q34 := sub [1, 0, 1, 0, 0, 1] B41
def J3u : List Item := .code Q34 :: J3s
def Q35 := sub [1, 0, 1, 0, 0, 0, 1] B41
def J3v : List Item := .code Q35 :: J3u
def Q36 := sub [1, 0, 1, 0, 0, 0, 0] B41
def J3w : List Item := .inRegion (opsOf Q36) [4, 5, 6] :: J3v
def Q37 := sub [1, 0, 1, 0, 0, 1, 1] B41
def J3x : List Item := .code Q37 :: J3s
def J3y : List Item := .inBlock 1 :: J3x
def Q38 := sub [1, 0, 1, 0, 0, 1, 0, 0, 1] B41
def J3z : List Item := .code Q38 :: J3y
def Q39 := sub [1, 0, 1, 0, 0, 1, 0, 0, 0] B41
def J40 : List Item := .inRegion (opsOf Q39) [3, 4, 5, 6, 7, 8, 9] :: J3z
def J41 : List Item := .inRegion (opsOf Q39) [5, 6, 7, 8, 9] :: J3z
def J42 : List Item := .inRegion (opsOf Q39) [7, 8, 9] :: J3z
def Q3a := sub [1, 0, 1, 0, 0, 1, 0, 0, 1, 0, 1] B41
def J43 : List Item := .code Q3a :: J3y
def Q3b := sub [1, 0, 1, 0, 0, 1, 0, 0, 1, 0, 0] B41
def J44 : List Item := .inRegion (opsOf Q3b) [0, 1, 2, 3, 4, 5, 6, 7, 8, 9, 10] :: J43
def J45 : List Item := .inRegion (opsOf Q3b) [4, 5, 6, 7, 8, 9, 10] :: J43
def J46 : List Item := .inRegion (opsOf Q3b) [6, 7, 8, 9, 10] :: J43
def J47 : List Item := .inRegion (opsOf Q3b) [8, 9, 10] :: J43
def Q3c := sub [1, 1, 1] B41
def J48 : List Item := [.code Q3c]

def Post.zs (gx0 : Nat) (u50 : Option Nat) (u51 : Nat) (u52 : Nat) (u53 : List Value) (u54 : List T58) (r : List Int) (v : Value) (w' : World) : Prop :=
 ∃ S' Gq nq cq csq, v = .slice (Gp Gq) nq cq ∧ Ext S0 w0 S' w' ∧ Hp nz wz S' w' ((Gq, .row 35 csq (cq * (kInt .u64).size) 0) :: (some gx0, .row 52 [.slice (Gp u50) u51 u52] 1 0) :: (u50, .row 59 u53 (u52 * kT58.size) 0) :: Lr) ∧ Els (kInt .u64) S' w' csq r ∧ r.length = nq

def L.zt (gx0 : Nat) (u50 : Option Nat) (u51 : Nat) (u52 : Nat) (u53 : List Value) : ByteArray × Int × (List T58) → (List Int) → Prop := fun ⟨x1, x5, u54⟩ r => ∀ S1 w1, Ext S0 w0 S1 w1 → ∀ (_ : Hp nz wz S1 w1 ((some gx0, .row 52 [.slice (Gp u50) u51 u52] 1 0) :: (u50, .row 59 u53 (u52 * kT58.size) 0) :: Lr)) (_ : Els kT58 S1 w1 u53 u54) (_ : u54.length = u51) (junk : Nat → Value),
 Goes Try.prog (base 41) J3t ⟨lfr 35 [(0, (pt gx0 0)), (1, .string x1), (5, .i x5)] junk, []⟩ w1 (Done Try.prog 41 (Rets (Post.zs nz wz S0 w0 Lr gx0 u50 u51 u52 u53 u54 r)))

theorem W.zt {nz wz S0 w0 Lr} (gx0 : Nat) (u50 : Option Nat) (u51 : Nat) (u52 : Nat) (u53 : List Value) : ∀ a r, M.tidepoleref13_Index_List_l0 a = some r → (L.zt nz wz S0 w0 Lr gx0 u50 u51 u52 u53) a r := by
 refine M.tidepoleref13_Index_List_l0.partial_correctness (motive := (L.zt nz wz S0 w0 Lr gx0 u50 u51 u52 u53)) ?_
 intro u55 u56 ⟨x1, x5, u54⟩ r h S1 w1 hx p1 fs0 ls0 junk
 try dsimp only at h
 subst ls0
 refine Goes.rn 7 [(6, .i x5), (7, (pt gx0 0)), (8, (pt gx0 0)), (9, (pt gx0 0))] J3w ?_
 refine Goes.ld 50 (.tmp 9) 10 50 ⟨gx0, 0, none⟩ (.slice (Gp u50) u54.length u52) (p1.c 0 0) ?_
 refine Goes.rn 3 [(11, .i (u54.length : Int)), (12, .bool (decide (x5 < (u54.length : Int))))] J3v ?_
 refine ite_some h (fun h3 h => ?_) (fun h3 h => ?_)
 ·
  rw [decide_eq_true h3]
  refine Goes.rn 9 [(15, (pt gx0 0)), (16, (pt gx0 0)), (17, (pt gx0 0))] J40 ?_
  refine Goes.ld 50 (.tmp 17) 18 50 ⟨gx0, 0, none⟩ (.slice (Gp u50) u54.length u52) (p1.c 0 0) ?_
  refine Goes.rn 1 [(19, .i x5)] J41 ?_
  refine guard_some' h fun g4 h => ?_
  refine Op_.ixO_n 50 (.tmp 18) (.tmp 19) 20 0 59 .i64 x5 1 u54.length u52 (gi u54 x5) rfl rfl p1 rfl fs0 Goes.v (by kernel_rfl) (by kernel_rfl) (by kernel_rfl) (by kernel_rfl) (by decide) g4 h3 ?_
  rintro b5 _ rfl q7 f6
  obtain ⟨_, _, rfl, rfl, ⟨A8, c9, rfl, f10⟩⟩ := q7
  refine Goes.rn 1 [(21, .pointer (some (Addr.add ⟨b5, (x5 : Int).toNat * kT58.size, none⟩ 0)))] J42 ?_
  refine Goes.ld 9 (.tmp 21) 22 9 (Addr.add ⟨b5, (x5 : Int).toNat * kT58.size, none⟩ 0) (.string ((gi u54 x5).Key)) ((hc_part (us := []) (vs := [.string ((gi u54 x5).Key)]) (ws := [.slice A8 (((gi u54 x5).L).length) c9]) f6) 0 _ rfl) ?_
  refine Goes.rn 3 [(23, .string x1), (24, .bool (((gi u54 x5).Key).toList == x1.toList))] J3z ?_
  refine ite_some h (fun h12 h => ?_) (fun h12 h => ?_)
  ·
   rw [h12]
   refine Goes.rn 3 [] J44 ?_
   have f14 : Els (kInt .u64) S1 w1 ([] : List Value) ([] : List Int) := by exact Els.nil
   refine Op_.made (.buildSlice 22 0 #[]) 25 22 (fun b => .slice (Gp (some b)) 0 0) 35 ([] : List Value) p1 Goes.v (by kernel_rfl) ?_
   intro b13 w2 z2 p2
   have p2 : Hp nz wz S1 w2 (((some b13), .row 35 ([] : List Value) (0 * (kInt .u64).size) 0) :: (some gx0, .row 52 [.slice (Gp (some b5)) u54.length u52] 1 0) :: ((some b5), .row 59 u53 (u52 * kT58.size) 0) :: Lr) := p2
   refine Goes.rn 3 [(26, (pt gx0 0)), (27, (pt gx0 0)), (28, (pt gx0 0))] J45 ?_
   refine Goes.ld 50 (.tmp 28) 29 50 ⟨gx0, 0, none⟩ (.slice (Gp (some b5)) u54.length u52) (p2.c 1 0) ?_
   refine Goes.rn 1 [(30, .i x5)] J46 ?_
   refine Op_.ixO_n 50 (.tmp 29) (.tmp 30) 31 0 59 .i64 x5 2 u54.length u52 (gi u54 x5) rfl rfl p2 rfl (fs0.ext z2) Goes.v (by kernel_rfl) (by kernel_rfl) (by kernel_rfl) (by kernel_rfl) (by decide) g4 h3 ?_
   rintro b16 _ e22 q18 f17
   injection e22 with u57; subst u57
   obtain ⟨_, _, rfl, rfl, ⟨A19, c20, rfl, f21⟩⟩ := q18
   refine Goes.rn 1 [(32, .pointer (some (Addr.add ⟨b5, (x5 : Int).toNat * kT58.size, none⟩ 1)))] J47 ?_
   refine Goes.ld 22 (.tmp 32) 33 22 (Addr.add ⟨b5, (x5 : Int).toNat * kT58.size, none⟩ 1) (.slice A19 (((gi u54 x5).L).length) c20) ((hc_part (us := [.string ((gi u54 x5).Key)]) (vs := [.slice A19 (((gi u54 x5).L).length) c20]) (ws := []) f17) 0 _ rfl) ?_
   obtain ⟨u58, f24, f25⟩ := src_rd f21
   refine guard_some' h fun g26 h => ?_
   refine Op_.ap_n (K := (kInt .u64)) 22 (.tmp 25) (.tmp 33) 34 22 35 0 (.u 0) 8 0 0 (((gi u54 x5).L).length) ([] : List Int) ((gi u54 x5).L) ((gi u54 x5).L) A19 c20 rfl rfl (List.nil_append _) p2 rfl (f14.ext z2) Goes.v (by kernel_rfl) (by kernel_rfl) (by kernel_rfl) (by kernel_rfl) rfl (by decide) f24 f25 (by have := g26; omega) (by have := g26; omega) ?_
   intro w3 G27 c28 u59 z3 p3 f30
   refine Goes.rn 2 [(4, .slice (Gp G27) (((gi u54 x5).L).length) c28)] J43 ?_
   obtain rfl := Option.some.inj h
   exact Goes.rt Try.f41 (.slice (Gp G27) (((gi u54 x5).L).length) c28) ⟨S1, G27, ((gi u54 x5).L).length, c28, u59, rfl, ((hx.trans z2).trans z3), p3, f30, rfl⟩
  ·
   have u5a : (((gi u54 x5).Key).toList == x1.toList) = false := by simpa using h12
   rw [u5a]
   refine Goes.rn 9 [(13, .i x5), (14, .i (wr .i64 (x5 + 1))), (5, .i (wr .i64 (x5 + 1)))] J3t ?_
   exact Goes.jp 35 [(0, (pt gx0 0)), (1, .string x1), (5, .i (wr .i64 (x5 + 1)))] (u56 _ _ h _ _ hx p1 fs0 rfl)
 ·
  rw [decide_eq_false h3]
  refine Goes.rn 6 [(4, .slice none 0 0)] J48 ?_
  have p1 : Hp nz wz S1 w1 ((none, .row 35 [] (0 * (kInt .u64).size) 0) :: (some gx0, .row 52 [.slice (Gp u50) u54.length u52] 1 0) :: (u50, .row 59 u53 (u52 * kT58.size) 0) :: Lr) := p1.nilRow' 35
  obtain rfl := Option.some.inj h
  exact Goes.rt Try.f41 (.slice (Gp none) 0 0) ⟨S1, none, 0, 0, [], rfl, hx, p1, (Els.nil (K := (kInt .u64))), rfl⟩

theorem W.zs (u54 : List T58) (x1 : ByteArray) (r : List Int) (h : M.tidepoleref13_Index_List u54 x1 = some r) {nz wz S0 w0 Lr} (gx0 u50 u51 u52 u53) (p0 : Hp nz wz S0 w0 ((some gx0, .row 52 [.slice (Gp u50) u51 u52] 1 0) :: (u50, .row 59 u53 (u52 * kT58.size) 0) :: Lr)) (u5b : Els kT58 S0 w0 u53 u54) (u5c : u54.length = u51) :
  Calls Try.prog 41 #[(pt gx0 0), .string x1] w0 (Rets (Post.zs nz wz S0 w0 Lr gx0 u50 u51 u52 u53 u54 r)) := by
 subst u5c
 refine calls_of_goes (fn := Try.f41) (c := B41) (by kernel_rfl) (by kernel_rfl) 33 (by kernel_rfl) ?_
 refine Goes.jp 35 [(0, (pt gx0 0)), (1, .string x1)] (fun junk => ?_)
 delta M.tidepoleref13_Index_List at h
 refine Goes.rn 11 [(4, .slice none 0 0), (5, .i 0)] J3t ?_
 exact Goes.jp 35 [(0, (pt gx0 0)), (1, .string x1), (5, .i 0)] (W.zt gx0 u50 u54.length u52 u53 _ _ h _ _ (Ext.refl S0 w0) p0 u5b rfl)

def Q3d := sub [1, 1] B24
def J49 : List Item := [.code Q3d]
def J4a : List Item := .inBlock 0 :: J49
def Q3e := sub [1, 0, 1, 0, 0] B24
def J4b : List Item := .inLoop Q3e :: J4a
def J4c : List Item := .code Q3e :: J4b
def Q3f := sub [1, 0, 1, 0, 0, 1] B24
def J4d : List Item := .code Q3f :: J4b
def Q3g := sub [1, 0, 1, 0, 0, 0, 1] B24
def J4e : List Item := .code Q3g :: J4d
def Q3h := sub [1, 0, 1, 0, 0, 1, 1] B24
def J4f : List Item := .code Q3h :: J4b
def J4g : List Item := .inBlock 1 :: J4f
def Q3i := sub [1, 0, 1, 0, 0, 1, 0, 0, 1] B24
def J4h : List Item := .code Q3i :: J4g
def Q3j := sub [1, 0, 1, 0, 0, 1, 0, 0, 0] B24
def J4i : List Item := .code Q3j :: J4h
def Q3k := sub [1, 0, 1, 0, 0, 1, 0, 0, 1, 0, 1] B24
def J4j : List Item := .code Q3k :: J4g
def Q3l := sub [1, 1, 1] B24
def J4k : List Item := [.code Q3l]

def Post.zu (r : Int) (v : Value) (w' : World) : Prop :=
 ∃ S', v = .i r ∧ Ext S0 w0 S' w' ∧ Hp nz wz S' w' (Lr)

def L.zv : (List Int) × Int → Int → Prop := fun ⟨x0, x3⟩ r => ∀ S1 w1, Ext S0 w0 S1 w1 → ∀ Ax0 nx0 cx0 (_ : Hp nz wz S1 w1 (Lr)) (_ : Rd (kInt .u64) S1 w1 Ax0 cx0 x0) (_ : x0.length = nx0) (junk : Nat → Value),
 Goes Try.prog (base 24) J4c ⟨lfr 20 [(0, .slice Ax0 nx0 cx0), (3, .i x3)] junk, []⟩ w1 (Done Try.prog 24 (Rets (Post.zu nz wz S0 w0 Lr r)))

theorem W.zv {nz wz S0 w0 Lr} : ∀ a r, M.tidepoleref13_Check_l0 a = some r → (L.zv nz wz S0 w0 Lr) a r := by
 refine M.tidepoleref13_Check_l0.partial_correctness (motive := (L.zv nz wz S0 w0 Lr)) ?_
 intro u5d u5e ⟨x0, x3⟩ r h S1 w1 hx Ax0 nx0 cx0 p1 fx0 lx0 junk
 try dsimp only at h
 subst lx0
 refine Goes.rn 8 [(4, .i x3), (5, .slice Ax0 x0.length cx0), (6, .i (x0.length : Int)), (7, .bool (decide (x3 < (x0.length : Int))))] J4e ?_
 refine ite_some h (fun h1 h => ?_) (fun h1 h => ?_)
 ·
  rw [decide_eq_true h1]
  refine Goes.rn 5 [] J4i ?_
  have z2 : Ext S1 w1 S1 (w1).drew := Ext.draw
  have p2 := p1.draw
  refine Goes.drawn (s := []) (F := Fc S1 (w1).drew []) 4 10 (by kernel_rfl) (by kernel_rfl) (by kernel_rfl) (by kernel_rfl) ?_
  generalize (w1).drew = w2 at z2 p2 ⊢
  refine AnyG.pu 0 (.move (.tmp 0)) 10 22 (.slice Ax0 x0.length cx0) (Fc.here trivial) ?_
  refine AnyG.pu 1 (.move (.tmp 3)) 11 3 (.i x3) (Fc.here trivial) ?_
  refine AnyG.pu 2 (.binOp .sub 3 (.tmp 11) (.const (.int .i64 1)) 3) 12 3 (.i (wr .i64 (x3 - 1))) (Fc.here trivial) ?_
  refine guard_some' h fun g2 h => ?_
  refine guard_some' h fun g3 h => ?_
  refine AnyG.ixR_n (i := 3) 22 (.tmp 10) (.tmp 12) 13 0 35 .i64 (wr .i64 (x3 - 1)) (gi x0 (wr .i64 (x3 - 1))) rfl rfl (fx0.ext z2) (by kernel_rfl) (by kernel_rfl) (Fc.here trivial) (by kernel_rfl) (by kernel_rfl) (by kernel_rfl) (by kernel_rfl) g2 g3 ?_
  intro a4 _ f5 q6
  obtain rfl := q6
  refine AnyG.ld1 (i := 4) 35 (.tmp 13) 14 35 a4 (.u (gi x0 (wr .i64 (x3 - 1)))) (by kernel_rfl) (by kernel_rfl) (Fc.here trivial) (by kernel_rfl) (by kernel_rfl) (fun _ h => f5.fc h 0 _ rfl) ?_
  refine AnyG.pu 5 (.move (.tmp 0)) 15 22 (.slice Ax0 x0.length cx0) (Fc.here trivial) ?_
  refine AnyG.pu 6 (.move (.tmp 3)) 16 3 (.i x3) (Fc.here trivial) ?_
  refine guard_some' h fun g7 h => ?_
  refine AnyG.ixR_n (i := 7) 22 (.tmp 15) (.tmp 16) 17 0 35 .i64 x3 (gi x0 x3) rfl rfl (fx0.ext z2) (by kernel_rfl) (by kernel_rfl) (Fc.here trivial) (by kernel_rfl) (by kernel_rfl) (by kernel_rfl) (by kernel_rfl) g7 h1 ?_
  intro a8 _ f9 q10
  obtain rfl := q10
  refine AnyG.ld1 (i := 8) 35 (.tmp 17) 18 35 a8 (.u (gi x0 x3)) (by kernel_rfl) (by kernel_rfl) (Fc.here trivial) (by kernel_rfl) (by kernel_rfl) (fun _ h => f9.fc h 0 _ rfl) ?_
  refine AnyG.pu 9 (.binOp .geq 35 (.tmp 14) (.tmp 18) 35) 19 4 (.bool (decide (gi x0 (wr .i64 (x3 - 1)) ≥ gi x0 x3))) (Fc.here trivial) ?_
  refine AnyG.done (by kernel_rfl) ?_ _
  refine ite_some h (fun h11 h => ?_) (fun h11 h => ?_)
  ·
   rw [decide_eq_true h11]
   refine Goes.rn 5 [(2, .i 2)] J4j ?_
   obtain rfl := Option.some.inj h
   exact Goes.rt Try.f24 (.i 2) ⟨S1, rfl, (hx.trans z2), p2⟩
  ·
   rw [decide_eq_false h11]
   refine Goes.rn 9 [(8, .i x3), (9, .i (wr .i64 (x3 + 1))), (3, .i (wr .i64 (x3 + 1)))] J4c ?_
   exact Goes.jp 20 [(0, .slice Ax0 x0.length cx0), (3, .i (wr .i64 (x3 + 1)))] (u5e _ _ h _ _ (hx.trans z2) Ax0 x0.length cx0 p2 (fx0.ext z2) rfl)
 ·
  rw [decide_eq_false h1]
  refine Goes.rn 6 [(2, .i 0)] J4k ?_
  obtain rfl := Option.some.inj h
  exact Goes.rt Try.f24 (.i 0) ⟨S1, rfl, hx, p1⟩

theorem W.zu (x0 : List Int) (r : Int) (h : M.tidepoleref13_Check x0 = some r) {nz wz S0 w0 Lr} (Ax0 nx0 cx0) (p0 : Hp nz wz S0 w0 (Lr)) (fx0 : Rd (kInt .u64) S0 w0 Ax0 cx0 x0) (lx0 : x0.length = nx0) :
  Calls Try.prog 24 #[.slice Ax0 nx0 cx0] w0 (Rets (Post.zu nz wz S0 w0 Lr r)) := by
 subst lx0
 refine calls_of_goes (fn := Try.f24) (c := B24) (by kernel_rfl) (by kernel_rfl) 19 (by kernel_rfl) ?_
 refine Goes.jp 20 [(0, .slice Ax0 x0.length cx0)] (fun junk => ?_)
 delta M.tidepoleref13_Check at h
 refine Goes.rn 11 [(2, .i 0), (3, .i 1)] J4c ?_
 exact Goes.jp 20 [(0, .slice Ax0 x0.length cx0), (3, .i 1)] (W.zv _ _ h _ _ (Ext.refl S0 w0) Ax0 x0.length cx0 p0 fx0 rfl)

def Q3m := sub [1, 1, 1, 1, 1] B27
def J4l : List Item := [.code Q3m]
def J4m : List Item := .inBlock 0 :: J4l
def Q3n := sub [1, 1, 1, 1, 0, 1, 0, 0] B27
def J4n : List Item := .inLoop Q3n :: J4m
def J4o : List Item := .code Q3n :: J4n
def Q3o := sub [1, 1, 1, 1, 0, 1, 0, 0, 1, 1] B27
def J4p : List Item := .code Q3o :: J4n
def J4q : List Item := .inBlock 1 :: J4p
def Q3p := sub [1, 1, 1, 1, 0, 1, 0, 0, 1, 0, 0, 1] B27
def J4r : List Item := .code Q3p :: J4q
def Q3q := sub [1, 1, 1, 1, 0, 1, 0, 0, 1, 0, 0, 0, 1] B27
def J4s : List Item := .code Q3q :: J4r
def Q3r := sub [1, 1, 1, 1, 0, 1, 0, 0, 1] B27
def J4t : List Item := .code Q3r :: J4n
def Q3s := sub [1, 1, 1, 1, 0, 1, 0, 0, 0, 1] B27
def J4u : List Item := .code Q3s :: J4t
def Q3t := sub [1, 1, 1, 1, 0, 1, 0, 0, 1, 0, 0, 0, 0] B27
def J4v : List Item := .inRegion (opsOf Q3t) [3, 4, 5, 6, 7, 8, 9] :: J4s
def J4w : List Item := .inRegion (opsOf Q3t) [5, 6, 7, 8, 9] :: J4s
def Q3u := sub [1, 1, 1, 1, 1, 1] B27
def J4x : List Item := [.code Q3u]
def Q3v := sub [1, 1, 1, 1, 1, 0, 1] B27
def J4y : List Item := .code Q3v :: J4x
def Q3w := sub [1, 1, 1, 1, 1, 1, 1] B27
def J4z : List Item := [.code Q3w]
def Q3x := sub [1, 1, 1, 1, 1, 0, 1, 0] B27
def J50 : List Item := .inRegion (opsOf Q3x) [2, 3, 4] :: J4x
def Q3y := sub [1, 1, 1, 1, 0, 1, 0, 0, 1, 0, 0, 0, 1, 0, 1] B27
def J51 : List Item := .code Q3y :: J4r
def Q3z := sub [1, 1, 1, 1, 0, 1, 0, 0, 1, 0, 0, 0, 1, 0, 0] B27
def J52 : List Item := .inRegion (opsOf Q3z) [2, 3, 4] :: J51
def Q40 := sub [1, 1, 1, 1, 0, 1, 0, 0, 1, 0, 0, 1, 1] B27
def J53 : List Item := .code Q40 :: J4q
def Q41 := sub [1, 1, 1, 1, 0, 1, 0, 0, 1, 0, 0, 1, 0] B27
def J54 : List Item := .inRegion (opsOf Q41) [2, 3, 4, 5] :: J53
def Q42 := sub [1, 1, 1, 1, 0, 1, 0, 0, 1, 0, 0, 1, 1, 0] B27
def J55 : List Item := .inRegion (opsOf Q42) [3, 4, 5, 6, 7] :: J4q

def Post.zw (r : (List Int) × Int) (v : Value) (w' : World) : Prop :=
 ∃ S' u3q u3r u3s u3t, v = .tuple #[.slice (Gp u3q) u3r u3s, .i r.2] ∧ Ext S0 w0 S' w' ∧ Hp nz wz S' w' ((u3q, .row 35 u3t (u3s * (kInt .u64).size) 0) :: Lr) ∧ Els (kInt .u64) S' w' u3t r.1 ∧ r.1.length = u3r

def L.zx : (List Int) × Int × (List Int) × Bool × Int → ((List Int) × Int) → Prop := fun ⟨x0, x1, x6, x7, x8⟩ r => ∀ S1 w1, Ext S0 w0 S1 w1 → ∀ Ax0 nx0 cx0 Gx6 nx6 cx6 u5f (_ : Hp nz wz S1 w1 ((Gx6, .row 35 u5f (cx6 * (kInt .u64).size) 0) :: Lr)) (_ : Rd (kInt .u64) S1 w1 Ax0 cx0 x0) (_ : x0.length = nx0) (_ : Els (kInt .u64) S1 w1 u5f x6) (_ : x6.length = nx6) (junk : Nat → Value),
 Goes Try.prog (base 27) J4o ⟨lfr 53 [(0, .slice Ax0 nx0 cx0), (1, .u x1), (6, .slice (Gp Gx6) nx6 cx6), (7, .bool x7), (8, .i x8)] junk, []⟩ w1 (Done Try.prog 27 (Rets (Post.zw nz wz S0 w0 Lr r)))

def L.zy : (List Int) × Int × (List Int) × Bool × Int × Bool → ((List Int) × Int) → Prop := fun ⟨x0, x1, x6, x7, x8, x28⟩ r => ∀ S1 w1, Ext S0 w0 S1 w1 → ∀ Ax0 nx0 cx0 Gx6 nx6 cx6 u5f (_ : Hp nz wz S1 w1 ((Gx6, .row 35 u5f (cx6 * (kInt .u64).size) 0) :: Lr)) (_ : Rd (kInt .u64) S1 w1 Ax0 cx0 x0) (_ : x0.length = nx0) (_ : Els (kInt .u64) S1 w1 u5f x6) (_ : x6.length = nx6) (junk : Nat → Value),
 Goes Try.prog (base 27) J4s ⟨lfr 53 [(0, .slice Ax0 nx0 cx0), (1, .u x1), (6, .slice (Gp Gx6) nx6 cx6), (7, .bool x7), (8, .i x8), (28, .bool x28)] junk, []⟩ w1 (Done Try.prog 27 (Rets (Post.zw nz wz S0 w0 Lr r)))

def L.zz : (List Int) × Int × (List Int) × Bool × Int → ((List Int) × Int) → Prop := fun ⟨x0, x1, x6, x7, x8⟩ r => ∀ S1 w1, Ext S0 w0 S1 w1 → ∀ Ax0 nx0 cx0 Gx6 nx6 cx6 u5f (_ : Hp nz wz S1 w1 ((Gx6, .row 35 u5f (cx6 * (kInt .u64).size) 0) :: Lr)) (_ : Rd (kInt .u64) S1 w1 Ax0 cx0 x0) (_ : x0.length = nx0) (_ : Els (kInt .u64) S1 w1 u5f x6) (_ : x6.length = nx6) (junk : Nat → Value),
 Goes Try.prog (base 27) J4r ⟨lfr 53 [(0, .slice Ax0 nx0 cx0), (1, .u x1), (6, .slice (Gp Gx6) nx6 cx6), (7, .bool x7), (8, .i x8)] junk, []⟩ w1 (Done Try.prog 27 (Rets (Post.zw nz wz S0 w0 Lr r)))

def L.z10 : (List Int) × Int × (List Int) × Bool × Int → ((List Int) × Int) → Prop := fun ⟨x0, x1, x6, x7, x8⟩ r => ∀ S1 w1, Ext S0 w0 S1 w1 → ∀ Ax0 nx0 cx0 Gx6 nx6 cx6 u5f (_ : Hp nz wz S1 w1 ((Gx6, .row 35 u5f (cx6 * (kInt .u64).size) 0) :: Lr)) (_ : Rd (kInt .u64) S1 w1 Ax0 cx0 x0) (_ : x0.length = nx0) (_ : Els (kInt .u64) S1 w1 u5f x6) (_ : x6.length = nx6) (junk : Nat → Value),
 Goes Try.prog (base 27) J4q ⟨lfr 53 [(0, .slice Ax0 nx0 cx0), (1, .u x1), (6, .slice (Gp Gx6) nx6 cx6), (7, .bool x7), (8, .i x8)] junk, []⟩ w1 (Done Try.prog 27 (Rets (Post.zw nz wz S0 w0 Lr r)))

theorem W.z11 {nz wz S0 w0 Lr} : (∀ a r, M.tidepoleref13_Add_l0 a = some r → (L.zx nz wz S0 w0 Lr) a r) ∧ (∀ a r, M.tidepoleref13_Add_l1 a = some r → (L.zy nz wz S0 w0 Lr) a r) ∧ (∀ a r, M.tidepoleref13_Add_l2 a = some r → (L.zz nz wz S0 w0 Lr) a r) ∧ (∀ a r, M.tidepoleref13_Add_l3 a = some r → (L.z10 nz wz S0 w0 Lr) a r) := by
 refine M.tidepoleref13_Add_l0.mutual_partial_correctness (L.zx nz wz S0 w0 Lr) (L.zy nz wz S0 w0 Lr) (L.zz nz wz S0 w0 Lr) (L.z10 nz wz S0 w0 Lr) ?_ ?_ ?_ ?_
 ·
  intro u5g u5h ⟨x0, x1, x6, x7, x8⟩ r h S1 w1 hx Ax0 nx0 cx0 Gx6 nx6 cx6 u5f p1 fx0 lx0 fx6 lx6 junk
  try dsimp only at h
  subst lx0
  subst lx6
  refine Goes.rn 8 [(13, .i x8), (14, .slice Ax0 x0.length cx0), (15, .i (x0.length : Int)), (16, .bool (decide (x8 < (x0.length : Int))))] J4u ?_
  refine ite_some h (fun h9 h => ?_) (fun h9 h => ?_)
  ·
   rw [decide_eq_true h9]
   refine Goes.rn 10 [(19, .bool x7), (20, .bool (!x7)), (21, .bool (!x7))] J4v ?_
   refine ite_some h (fun h10 h => ?_) (fun h10 h => ?_)
   ·
    rw [h10]
    refine Goes.rn 8 [(22, undef), (23, undef), (24, undef), (25, undef), (26, undef), (27, undef), (28, .bool false)] J4s ?_
    exact Goes.jp 53 [(0, .slice Ax0 x0.length cx0), (1, .u x1), (6, .slice (Gp Gx6) x6.length cx6), (7, .bool true), (8, .i x8), (28, .bool false)] (u5h _ _ h _ _ hx Ax0 x0.length cx0 Gx6 x6.length cx6 u5f p1 fx0 rfl fx6 rfl)
   ·
    have u1z : x7 = false := by simpa using h10
    rw [u1z]
    refine Goes.rn 2 [(22, .slice Ax0 x0.length cx0), (23, .i x8)] J4w ?_
    refine guard_some' h fun g12 h => ?_
    refine Op_.ixR_n 22 (.tmp 22) (.tmp 23) 24 0 35 .i64 x8 (gi x0 x8) rfl rfl fx0 Goes.v (by kernel_rfl) (by kernel_rfl) (by kernel_rfl) (by kernel_rfl) g12 h9 ?_
    intro a13 _ f14 q15
    obtain rfl := q15
    refine Goes.ld 35 (.tmp 24) 25 35 a13 (.u (gi x0 x8)) (f14.cell 0 _ rfl) ?_
    refine Goes.rn 4 [(26, .u x1), (27, .bool (decide (gi x0 x8 ≥ x1))), (28, .bool (decide (gi x0 x8 ≥ x1)))] J4s ?_
    exact Goes.jp 53 [(0, .slice Ax0 x0.length cx0), (1, .u x1), (6, .slice (Gp Gx6) x6.length cx6), (7, .bool false), (8, .i x8), (28, .bool (decide (gi x0 x8 ≥ x1)))] (u5h _ _ h _ _ hx Ax0 x0.length cx0 Gx6 x6.length cx6 u5f p1 fx0 rfl fx6 rfl)
  ·
   rw [decide_eq_false h9]
   refine Goes.rn 8 [(46, .bool x7), (47, .bool (!x7))] J4y ?_
   refine ite_some h (fun h16 h => ?_) (fun h16 h => ?_)
   ·
    rw [h16]
    refine Goes.rn 8 [(52, .slice (Gp Gx6) x6.length cx6), (4, .slice (Gp Gx6) x6.length cx6), (5, .i 0)] J4z ?_
    obtain rfl := Option.some.inj h
    exact Goes.rt Try.f27 (.tuple #[.slice (Gp Gx6) x6.length cx6, .i 0]) ⟨S1, Gx6, x6.length, cx6, u5f, rfl, hx, p1, fx6, rfl⟩
   ·
    have u5i : x7 = false := by simpa using h16
    rw [u5i]
    refine Goes.rn 4 [(48, .slice (Gp Gx6) x6.length cx6), (49, .u x1)] J50 ?_
    have f18 : Els (kInt .u64) S1 w1 ([.u x1] : List Value) [x1] := by exact (Els.cons (K := (kInt .u64)) (vs := [.u x1]) (x := x1) rfl Els.nil)
    refine Op_.made (.buildSlice 22 1 #[(0, (.tmp 49))]) 50 22 (fun b => .slice (Gp (some b)) 1 1) 35 ([.u x1] : List Value) p1 Goes.v (by kernel_rfl) ?_
    intro b17 w4 z4 p4
    have p4 : Hp nz wz S1 w4 (((some b17), .row 35 ([.u x1] : List Value) (1 * (kInt .u64).size) 0) :: (Gx6, .row 35 u5f (cx6 * (kInt .u64).size) 0) :: Lr) := p4
    refine guard_some' h fun g23 h => ?_
    refine Op_.ap_n (K := (kInt .u64)) 22 (.tmp 48) (.tmp 50) 51 22 35 1 (.u 0) 8 x6.length cx6 1 x6 [x1] (x6 ++ [x1]) (Gp (some b17)) 1 rfl rfl rfl p4 rfl (fx6.ext z4) Goes.v (by kernel_rfl) (by kernel_rfl) (by kernel_rfl) (by kernel_rfl) rfl (by decide) (f18.ext z4) (src_own p4 (q := 0) rfl) (by have := g23; omega) (by have := g23; omega) ?_
    intro w5 G24 c25 u5j z5 p5 f27
    refine Goes.rn 8 [(6, .slice (Gp G24) ((x6 ++ [x1]).length) c25), (52, .slice (Gp G24) ((x6 ++ [x1]).length) c25), (4, .slice (Gp G24) ((x6 ++ [x1]).length) c25), (5, .i 0)] J4z ?_
    obtain rfl := Option.some.inj h
    have p5 := p5.dp 0
    exact Goes.rt Try.f27 (.tuple #[.slice (Gp G24) ((x6 ++ [x1]).length) c25, .i 0]) ⟨S1, G24, (x6 ++ [x1]).length, c25, u5j, rfl, ((hx.trans z4).trans z5), p5, f27, rfl⟩
 ·
  intro u5k u5l ⟨x0, x1, x6, x7, x8, x28⟩ r h S1 w1 hx Ax0 nx0 cx0 Gx6 nx6 cx6 u5f p1 fx0 lx0 fx6 lx6 junk
  try dsimp only at h
  subst lx0
  subst lx6
  refine ite_some h (fun h28 h => ?_) (fun h28 h => ?_)
  ·
   rw [h28]
   refine Goes.rn 5 [(29, .slice (Gp Gx6) x6.length cx6), (30, .u x1)] J52 ?_
   have f30 : Els (kInt .u64) S1 w1 ([.u x1] : List Value) [x1] := by exact (Els.cons (K := (kInt .u64)) (vs := [.u x1]) (x := x1) rfl Els.nil)
   refine Op_.made (.buildSlice 22 1 #[(0, (.tmp 30))]) 31 22 (fun b => .slice (Gp (some b)) 1 1) 35 ([.u x1] : List Value) p1 Goes.v (by kernel_rfl) ?_
   intro b29 w6 z6 p6
   have p6 : Hp nz wz S1 w6 (((some b29), .row 35 ([.u x1] : List Value) (1 * (kInt .u64).size) 0) :: (Gx6, .row 35 u5f (cx6 * (kInt .u64).size) 0) :: Lr) := p6
   refine guard_some' h fun g35 h => ?_
   refine Op_.ap_n (K := (kInt .u64)) 22 (.tmp 29) (.tmp 31) 32 22 35 1 (.u 0) 8 x6.length cx6 1 x6 [x1] (x6 ++ [x1]) (Gp (some b29)) 1 rfl rfl rfl p6 rfl (fx6.ext z6) Goes.v (by kernel_rfl) (by kernel_rfl) (by kernel_rfl) (by kernel_rfl) rfl (by decide) (f30.ext z6) (src_own p6 (q := 0) rfl) (by have := g35; omega) (by have := g35; omega) ?_
   intro w7 G36 c37 u5m z7 p7 f39
   refine Goes.rn 5 [(6, .slice (Gp G36) ((x6 ++ [x1]).length) c37), (7, .bool true)] J4r ?_
   have p7 := p7.dp 0
   exact Goes.jp 53 [(0, .slice Ax0 x0.length cx0), (1, .u x1), (6, .slice (Gp G36) ((x6 ++ [x1]).length) c37), (7, .bool true), (8, .i x8)] (u5l _ _ h _ _ ((hx.trans z6).trans z7) Ax0 x0.length cx0 G36 ((x6 ++ [x1]).length) c37 u5m p7 (fx0.ext (z6.trans z7)) rfl f39 rfl)
  ·
   have u5n : x28 = false := by simpa using h28
   rw [u5n]
   refine Goes.rn 2 [] J4r ?_
   exact Goes.jp 53 [(0, .slice Ax0 x0.length cx0), (1, .u x1), (6, .slice (Gp Gx6) x6.length cx6), (7, .bool x7), (8, .i x8)] (u5l _ _ h _ _ hx Ax0 x0.length cx0 Gx6 x6.length cx6 u5f p1 fx0 rfl fx6 rfl)
 ·
  intro u5o u5p ⟨x0, x1, x6, x7, x8⟩ r h S1 w1 hx Ax0 nx0 cx0 Gx6 nx6 cx6 u5f p1 fx0 lx0 fx6 lx6 junk
  try dsimp only at h
  subst lx0
  subst lx6
  refine Goes.rn 4 [(33, .slice Ax0 x0.length cx0), (34, .i x8)] J54 ?_
  refine guard_some' h fun g41 h => ?_
  refine guard_some' h fun g42 h => ?_
  refine Op_.ixR_n 22 (.tmp 33) (.tmp 34) 35 0 35 .i64 x8 (gi x0 x8) rfl rfl fx0 Goes.v (by kernel_rfl) (by kernel_rfl) (by kernel_rfl) (by kernel_rfl) g41 g42 ?_
  intro a43 _ f44 q45
  obtain rfl := q45
  refine Goes.ld 35 (.tmp 35) 36 35 a43 (.u (gi x0 x8)) (f44.cell 0 _ rfl) ?_
  refine Goes.rn 3 [(37, .u x1), (38, .bool (!(decide (gi x0 x8 = x1))))] J53 ?_
  refine ite_some h (fun h46 h => ?_) (fun h46 h => ?_)
  ·
   rw [decide_eq_true h46]
   refine Goes.rn 2 [] J4q ?_
   exact Goes.jp 53 [(0, .slice Ax0 x0.length cx0), (1, .u x1), (6, .slice (Gp Gx6) x6.length cx6), (7, .bool x7), (8, .i x8)] (u5p _ _ h _ _ hx Ax0 x0.length cx0 Gx6 x6.length cx6 u5f p1 fx0 rfl fx6 rfl)
  ·
   rw [decide_eq_false h46]
   refine Goes.rn 5 [(39, .slice (Gp Gx6) x6.length cx6), (40, .slice Ax0 x0.length cx0), (41, .i x8)] J55 ?_
   refine Op_.ixR_n 22 (.tmp 40) (.tmp 41) 42 0 35 .i64 x8 (gi x0 x8) rfl rfl fx0 Goes.v (by kernel_rfl) (by kernel_rfl) (by kernel_rfl) (by kernel_rfl) g41 g42 ?_
   intro a48 _ f49 q50
   obtain rfl := q50
   refine Goes.ld 35 (.tmp 42) 43 35 a48 (.u (gi x0 x8)) (f49.cell 0 _ rfl) ?_
   have f52 : Els (kInt .u64) S1 w1 ([.u (gi x0 x8)] : List Value) [gi x0 x8] := by exact (Els.cons (K := (kInt .u64)) (vs := [.u (gi x0 x8)]) (x := gi x0 x8) rfl Els.nil)
   refine Op_.made (.buildSlice 22 1 #[(0, (.tmp 43))]) 44 22 (fun b => .slice (Gp (some b)) 1 1) 35 ([.u (gi x0 x8)] : List Value) p1 Goes.v (by kernel_rfl) ?_
   intro b51 w8 z8 p8
   have p8 : Hp nz wz S1 w8 (((some b51), .row 35 ([.u (gi x0 x8)] : List Value) (1 * (kInt .u64).size) 0) :: (Gx6, .row 35 u5f (cx6 * (kInt .u64).size) 0) :: Lr) := p8
   refine guard_some' h fun g57 h => ?_
   refine Op_.ap_n (K := (kInt .u64)) 22 (.tmp 39) (.tmp 44) 45 22 35 1 (.u 0) 8 x6.length cx6 1 x6 [gi x0 x8] (x6 ++ [gi x0 x8]) (Gp (some b51)) 1 rfl rfl rfl p8 rfl (fx6.ext z8) Goes.v (by kernel_rfl) (by kernel_rfl) (by kernel_rfl) (by kernel_rfl) rfl (by decide) (f52.ext z8) (src_own p8 (q := 0) rfl) (by have := g57; omega) (by have := g57; omega) ?_
   intro w9 G58 c59 u5q z9 p9 f61
   refine Goes.rn 2 [(6, .slice (Gp G58) ((x6 ++ [gi x0 x8]).length) c59)] J4q ?_
   have p9 := p9.dp 0
   exact Goes.jp 53 [(0, .slice Ax0 x0.length cx0), (1, .u x1), (6, .slice (Gp G58) ((x6 ++ [gi x0 x8]).length) c59), (7, .bool x7), (8, .i x8)] (u5p _ _ h _ _ ((hx.trans z8).trans z9) Ax0 x0.length cx0 G58 ((x6 ++ [gi x0 x8]).length) c59 u5q p9 (fx0.ext (z8.trans z9)) rfl f61 rfl)
 ·
  intro u5r u5s ⟨x0, x1, x6, x7, x8⟩ r h S1 w1 hx Ax0 nx0 cx0 Gx6 nx6 cx6 u5f p1 fx0 lx0 fx6 lx6 junk
  try dsimp only at h
  subst lx0
  subst lx6
  refine Goes.rn 7 [(17, .i x8), (18, .i (wr .i64 (x8 + 1))), (8, .i (wr .i64 (x8 + 1)))] J4o ?_
  exact Goes.jp 53 [(0, .slice Ax0 x0.length cx0), (1, .u x1), (6, .slice (Gp Gx6) x6.length cx6), (7, .bool x7), (8, .i (wr .i64 (x8 + 1)))] (u5s _ _ h _ _ hx Ax0 x0.length cx0 Gx6 x6.length cx6 u5f p1 fx0 rfl fx6 rfl)

theorem W.zx {nz wz S0 w0 Lr} : ∀ a r, M.tidepoleref13_Add_l0 a = some r → (L.zx nz wz S0 w0 Lr) a r := (W.z11).1

theorem W.zy {nz wz S0 w0 Lr} : ∀ a r, M.tidepoleref13_Add_l1 a = some r → (L.zy nz wz S0 w0 Lr) a r := (W.z11).2.1

theorem W.zz {nz wz S0 w0 Lr} : ∀ a r, M.tidepoleref13_Add_l2 a = some r → (L.zz nz wz S0 w0 Lr) a r := (W.z11).2.2.1

theorem W.z10 {nz wz S0 w0 Lr} : ∀ a r, M.tidepoleref13_Add_l3 a = some r → (L.z10 nz wz S0 w0 Lr) a r := (W.z11).2.2.2

def Q43 := sub [1, 1] B27
def J56 : List Item := [.code Q43]
def Q44 := sub [1, 0, 1] B27
def J57 : List Item := .code Q44 :: J56
def Q45 := sub [1, 0, 0] B27
def J58 : List Item := .inRegion (opsOf Q45) [1, 2] :: J57
def Q46 := sub [1, 1, 1] B27
def J59 : List Item := [.code Q46]
def Q47 := sub [1, 1, 0] B27
def J5a : List Item := .inRegion (opsOf Q47) [0, 1] :: J59
def Q48 := sub [1, 0, 1, 0, 1] B27
def J5b : List Item := .code Q48 :: J56

theorem W.zw (x0 : List Int) (x1 : Int) (r : (List Int) × Int) (h : M.tidepoleref13_Add x0 x1 = some r) {nz wz S0 w0 Lr} (Ax0 nx0 cx0) (p0 : Hp nz wz S0 w0 (Lr)) (fx0 : Rd (kInt .u64) S0 w0 Ax0 cx0 x0) (lx0 : x0.length = nx0) :
  Calls Try.prog 27 #[.slice Ax0 nx0 cx0, .u x1] w0 (Rets (Post.zw nz wz S0 w0 Lr r)) := by
 subst lx0
 refine calls_of_goes (fn := Try.f27) (c := B27) (by kernel_rfl) (by kernel_rfl) 51 (by kernel_rfl) ?_
 refine Goes.jp 53 [(0, .slice Ax0 x0.length cx0), (1, .u x1)] (fun junk => ?_)
 delta M.tidepoleref13_Add at h
 refine Goes.rn 9 [(4, .slice none 0 0), (5, .i 0), (9, .slice Ax0 x0.length cx0)] J58 ?_
 refine bind_some' h fun y1 e2 h => ?_
 refine Goes.cal (kc 24 [9] #[22]) 10 25 24 _ (W.zu x0 y1 e2 Ax0 x0.length cx0 p0 fx0 rfl) ?_
 rintro _ w2 ⟨S2, rfl, z2, p2⟩
 refine Goes.rn 2 [(11, .bool (!(decide (y1 = 0))))] J57 ?_
 refine ite_some h (fun h3 h => ?_) (fun h3 h => ?_)
 ·
  rw [decide_eq_true h3]
  refine Goes.rn 4 [] J5a ?_
  have f5 : Els (kInt .u64) S2 w2 ([] : List Value) ([] : List Int) := by exact Els.nil
  refine Op_.made (.buildSlice 22 0 #[]) 12 22 (fun b => .slice (Gp (some b)) 0 0) 35 ([] : List Value) p2 Goes.v (by kernel_rfl) ?_
  intro b4 w3 z3 p3
  have p3 : Hp nz wz S2 w3 (((some b4), .row 35 ([] : List Value) (0 * (kInt .u64).size) 0) :: Lr) := p3
  refine Goes.rn 13 [(6, .slice (Gp (some b4)) 0 0), (7, .bool false), (8, .i 0)] J4o ?_
  exact Goes.jp 53 [(0, .slice Ax0 x0.length cx0), (1, .u x1), (6, .slice (Gp (some b4)) 0 0), (7, .bool false), (8, .i 0)] (W.zx _ _ h _ _ (((Ext.refl S0 w0).trans z2).trans z3) Ax0 x0.length cx0 (some b4) 0 0 ([] : List Value) p3 (fx0.ext (z2.trans z3)) rfl (f5.ext z3) rfl)
 ·
  rw [decide_eq_false h3]
  refine Goes.rn 6 [(4, .slice none 0 0), (5, .i 2)] J5b ?_
  have p2 : Hp nz wz S2 w2 ((none, .row 35 [] (0 * (kInt .u64).size) 0) :: Lr) := p2.nilRow' 35
  obtain rfl := Option.some.inj h
  exact Goes.rt Try.f27 (.tuple #[.slice (Gp none) 0 0, .i 2]) ⟨S2, none, 0, 0, [], rfl, ((Ext.refl S0 w0).trans z2), p2, (Els.nil (K := (kInt .u64))), rfl⟩

def Q49 := sub [1, 1, 1] B54
def J5c : List Item := [.code Q49]
def J5d : List Item := .inBlock 0 :: J5c
def Q4a := sub [1, 1, 0, 1, 0, 0] B54
def J5e : List Item := .inLoop Q4a :: J5d
def J5f : List Item := .code Q4a :: J5e
def Q4b := sub [1, 1, 0, 1, 0, 0, 1, 1] B54
def J5g : List Item := .code Q4b :: J5e
def J5h : List Item := .inBlock 1 :: J5g
def Q4c := sub [1, 1, 0, 1, 0, 0, 1, 0, 0, 1] B54
def J5i : List Item := .code Q4c :: J5h
def Q4d := sub [1, 1, 0, 1, 0, 0, 1, 0, 0, 0, 1] B54
def J5j : List Item := .code Q4d :: J5i
def Q4e := sub [1, 1, 0, 1, 0, 0, 1] B54
def J5k : List Item := .code Q4e :: J5e
def Q4f := sub [1, 1, 0, 1, 0, 0, 0, 1] B54
def J5l : List Item := .code Q4f :: J5k
def Q4g := sub [1, 1, 0, 1, 0, 0, 0, 0] B54
def J5m : List Item := .inRegion (opsOf Q4g) [4, 5, 6] :: J5l
def Q4h := sub [1, 1, 0, 1, 0, 0, 1, 0, 0, 0, 0] B54
def J5n : List Item := .inRegion (opsOf Q4h) [3, 4, 5, 6, 7, 8, 9, 10, 11, 12, 13] :: J5j
def J5o : List Item := .inRegion (opsOf Q4h) [6, 7, 8, 9, 10, 11, 12, 13] :: J5j
def J5p : List Item := .inRegion (opsOf Q4h) [8, 9, 10, 11, 12, 13] :: J5j
def J5q : List Item := .inRegion (opsOf Q4h) [10, 11, 12, 13] :: J5j
def Q4i := sub [1, 1, 1, 1] B54
def J5r : List Item := [.code Q4i]
def Q4j := sub [1, 1, 1, 0, 1] B54
def J5s : List Item := .code Q4j :: J5r
def J5t : List Item := [.inRegion (opsOf Q4i) [4]]
def Q4k := sub [1, 1, 1, 0, 1, 0] B54
def J5u : List Item := .inRegion (opsOf Q4k) [4, 5, 6] :: J5r
def Q4l := sub [1, 1, 0, 1, 0, 0, 1, 0, 0, 0, 1, 0, 1] B54
def J5v : List Item := .code Q4l :: J5i
def Q4m := sub [1, 1, 0, 1, 0, 0, 1, 0, 0, 0, 1, 0, 0] B54
def J5w : List Item := .inRegion (opsOf Q4m) [4, 5, 6] :: J5v
def Q4n := sub [1, 1, 0, 1, 0, 0, 1, 0, 0, 1, 1] B54
def J5x : List Item := .code Q4n :: J5h
def Q4o := sub [1, 1, 0, 1, 0, 0, 1, 0, 0, 1, 0] B54
def J5y : List Item := .inRegion (opsOf Q4o) [3, 4, 5, 6, 7, 8, 9] :: J5x
def J5z : List Item := .inRegion (opsOf Q4o) [5, 6, 7, 8, 9] :: J5x
def J60 : List Item := .inRegion (opsOf Q4o) [7, 8, 9] :: J5x
def Q4p := sub [1, 1, 0, 1, 0, 0, 1, 0, 0, 1, 1, 0] B54
def J61 : List Item := .inRegion (opsOf Q4p) [4, 5, 6, 7, 8, 9, 10] :: J5h
def J62 : List Item := .inRegion (opsOf Q4p) [6, 7, 8, 9, 10] :: J5h

def Post.z12 (gx0 : Nat) (r : List T58) (v : Value) (w' : World) : Prop :=
 ∃ S' u5t u5u u5v u5w, v = .tuple #[] ∧ Ext S0 w0 S' w' ∧ Hp nz wz S' w' ((some gx0, .row 52 [.slice (Gp u5t) u5u u5v] 1 0) :: (u5t, .row 59 u5w (u5v * kT58.size) 0) :: Lr) ∧ Els kT58 S' w' u5w r ∧ r.length = u5u

def L.z13 (gx0 : Nat) : ByteArray × (List Int) × (List T58) × Bool × Int × (List T58) → (List T58) → Prop := fun ⟨x1, x2, x6, x7, x8, u5x⟩ r => ∀ S1 w1, Ext S0 w0 S1 w1 → ∀ Ax2 nx2 cx2 Gx6 nx6 cx6 u5f u5t u5u u5v u5w (_ : Hp nz wz S1 w1 ((Gx6, .row 59 u5f (cx6 * kT58.size) 0) :: (some gx0, .row 52 [.slice (Gp u5t) u5u u5v] 1 0) :: (u5t, .row 59 u5w (u5v * kT58.size) 0) :: Lr)) (_ : Rd (kInt .u64) S1 w1 Ax2 cx2 x2) (_ : x2.length = nx2) (_ : Els kT58 S1 w1 u5f x6) (_ : x6.length = nx6) (_ : Els kT58 S1 w1 u5w u5x) (_ : u5x.length = u5u) (junk : Nat → Value),
 Goes Try.prog (base 54) J5f ⟨lfr 74 [(0, (pt gx0 0)), (1, .string x1), (2, .slice Ax2 nx2 cx2), (6, .slice (Gp Gx6) nx6 cx6), (7, .bool x7), (8, .i x8)] junk, []⟩ w1 (Done Try.prog 54 (Rets (Post.z12 nz wz S0 w0 Lr gx0 r)))

def L.z14 (gx0 : Nat) : ByteArray × (List Int) × (List T58) × Bool × Int × Bool × (List T58) → (List T58) → Prop := fun ⟨x1, x2, x6, x7, x8, x35, u5x⟩ r => ∀ S1 w1, Ext S0 w0 S1 w1 → ∀ Ax2 nx2 cx2 Gx6 nx6 cx6 u5f u5t u5u u5v u5w (_ : Hp nz wz S1 w1 ((Gx6, .row 59 u5f (cx6 * kT58.size) 0) :: (some gx0, .row 52 [.slice (Gp u5t) u5u u5v] 1 0) :: (u5t, .row 59 u5w (u5v * kT58.size) 0) :: Lr)) (_ : Rd (kInt .u64) S1 w1 Ax2 cx2 x2) (_ : x2.length = nx2) (_ : Els kT58 S1 w1 u5f x6) (_ : x6.length = nx6) (_ : Els kT58 S1 w1 u5w u5x) (_ : u5x.length = u5u) (junk : Nat → Value),
 Goes Try.prog (base 54) J5j ⟨lfr 74 [(0, (pt gx0 0)), (1, .string x1), (2, .slice Ax2 nx2 cx2), (6, .slice (Gp Gx6) nx6 cx6), (7, .bool x7), (8, .i x8), (35, .bool x35)] junk, []⟩ w1 (Done Try.prog 54 (Rets (Post.z12 nz wz S0 w0 Lr gx0 r)))

def L.z15 (gx0 : Nat) : ByteArray × (List Int) × (List T58) × Bool × Int × (List T58) → (List T58) → Prop := fun ⟨x1, x2, x6, x7, x8, u5x⟩ r => ∀ S1 w1, Ext S0 w0 S1 w1 → ∀ Ax2 nx2 cx2 Gx6 nx6 cx6 u5f u5t u5u u5v u5w (_ : Hp nz wz S1 w1 ((Gx6, .row 59 u5f (cx6 * kT58.size) 0) :: (some gx0, .row 52 [.slice (Gp u5t) u5u u5v] 1 0) :: (u5t, .row 59 u5w (u5v * kT58.size) 0) :: Lr)) (_ : Rd (kInt .u64) S1 w1 Ax2 cx2 x2) (_ : x2.length = nx2) (_ : Els kT58 S1 w1 u5f x6) (_ : x6.length = nx6) (_ : Els kT58 S1 w1 u5w u5x) (_ : u5x.length = u5u) (junk : Nat → Value),
 Goes Try.prog (base 54) J5i ⟨lfr 74 [(0, (pt gx0 0)), (1, .string x1), (2, .slice Ax2 nx2 cx2), (6, .slice (Gp Gx6) nx6 cx6), (7, .bool x7), (8, .i x8)] junk, []⟩ w1 (Done Try.prog 54 (Rets (Post.z12 nz wz S0 w0 Lr gx0 r)))

def L.z16 (gx0 : Nat) : ByteArray × (List Int) × (List T58) × Bool × Int × (List T58) → (List T58) → Prop := fun ⟨x1, x2, x6, x7, x8, u5x⟩ r => ∀ S1 w1, Ext S0 w0 S1 w1 → ∀ Ax2 nx2 cx2 Gx6 nx6 cx6 u5f u5t u5u u5v u5w (_ : Hp nz wz S1 w1 ((Gx6, .row 59 u5f (cx6 * kT58.size) 0) :: (some gx0, .row 52 [.slice (Gp u5t) u5u u5v] 1 0) :: (u5t, .row 59 u5w (u5v * kT58.size) 0) :: Lr)) (_ : Rd (kInt .u64) S1 w1 Ax2 cx2 x2) (_ : x2.length = nx2) (_ : Els kT58 S1 w1 u5f x6) (_ : x6.length = nx6) (_ : Els kT58 S1 w1 u5w u5x) (_ : u5x.length = u5u) (junk : Nat → Value),
 Goes Try.prog (base 54) J5h ⟨lfr 74 [(0, (pt gx0 0)), (1, .string x1), (2, .slice Ax2 nx2 cx2), (6, .slice (Gp Gx6) nx6 cx6), (7, .bool x7), (8, .i x8)] junk, []⟩ w1 (Done Try.prog 54 (Rets (Post.z12 nz wz S0 w0 Lr gx0 r)))

theorem W.z17 {nz wz S0 w0 Lr} (gx0 : Nat) : (∀ a r, M.tidepoleref13_Index_set_l0 a = some r → (L.z13 nz wz S0 w0 Lr gx0) a r) ∧ (∀ a r, M.tidepoleref13_Index_set_l1 a = some r → (L.z14 nz wz S0 w0 Lr gx0) a r) ∧ (∀ a r, M.tidepoleref13_Index_set_l2 a = some r → (L.z15 nz wz S0 w0 Lr gx0) a r) ∧ (∀ a r, M.tidepoleref13_Index_set_l3 a = some r → (L.z16 nz wz S0 w0 Lr gx0) a r) := by
 refine M.tidepoleref13_Index_set_l0.mutual_partial_correctness (L.z13 nz wz S0 w0 Lr gx0) (L.z14 nz wz S0 w0 Lr gx0) (L.z15 nz wz S0 w0 Lr gx0) (L.z16 nz wz S0 w0 Lr gx0) ?_ ?_ ?_ ?_
 ·
  intro u5y u5z ⟨x1, x2, x6, x7, x8, u5x⟩ r h S1 w1 hx Ax2 nx2 cx2 Gx6 nx6 cx6 u5f u5t u5u u5v u5w p1 fx2 lx2 fx6 lx6 u60 u61 junk
  try dsimp only at h
  subst lx2
  subst lx6
  subst u61
  refine Goes.rn 7 [(13, .i x8), (14, (pt gx0 0)), (15, (pt gx0 0)), (16, (pt gx0 0))] J5m ?_
  refine Goes.ld 50 (.tmp 16) 17 50 ⟨gx0, 0, none⟩ (.slice (Gp u5t) u5x.length u5v) (p1.c 1 0) ?_
  refine Goes.rn 3 [(18, .i (u5x.length : Int)), (19, .bool (decide (x8 < (u5x.length : Int))))] J5l ?_
  refine ite_some h (fun h8 h => ?_) (fun h8 h => ?_)
  ·
   rw [decide_eq_true h8]
   refine Goes.rn 10 [(22, .bool x7), (23, .bool (!x7)), (24, .bool (!x7))] J5n ?_
   refine ite_some h (fun h9 h => ?_) (fun h9 h => ?_)
   ·
    rw [h9]
    refine Goes.rn 12 [(25, undef), (26, undef), (27, undef), (28, undef), (29, undef), (30, undef), (31, undef), (32, undef), (33, undef), (34, undef), (35, .bool false)] J5j ?_
    exact Goes.jp 74 [(0, (pt gx0 0)), (1, .string x1), (2, .slice Ax2 x2.length cx2), (6, .slice (Gp Gx6) x6.length cx6), (7, .bool true), (8, .i x8), (35, .bool false)] (u5z _ _ h _ _ hx Ax2 x2.length cx2 Gx6 x6.length cx6 u5f u5t u5x.length u5v u5w p1 fx2 rfl fx6 rfl u60 rfl)
   ·
    have h9' : x7 = false := by simpa using h9
    rw [h9']
    refine Goes.rn 3 [(25, (pt gx0 0)), (26, (pt gx0 0)), (27, (pt gx0 0))] J5o ?_
    refine Goes.ld 50 (.tmp 27) 28 50 ⟨gx0, 0, none⟩ (.slice (Gp u5t) u5x.length u5v) (p1.c 1 0) ?_
    refine Goes.rn 1 [(29, .i x8)] J5p ?_
    refine guard_some' h fun g12 h => ?_
    refine Op_.ixO_n 50 (.tmp 28) (.tmp 29) 30 0 59 .i64 x8 2 u5x.length u5v (gi u5x x8) rfl rfl p1 rfl u60 Goes.v (by kernel_rfl) (by kernel_rfl) (by kernel_rfl) (by kernel_rfl) (by decide) g12 h8 ?_
    rintro b13 _ rfl q15 f14
    obtain ⟨_, _, rfl, rfl, ⟨A16, c17, rfl, f18⟩⟩ := q15
    refine Goes.rn 1 [(31, .pointer (some (Addr.add ⟨b13, (x8 : Int).toNat * kT58.size, none⟩ 0)))] J5q ?_
    refine Goes.ld 9 (.tmp 31) 32 9 (Addr.add ⟨b13, (x8 : Int).toNat * kT58.size, none⟩ 0) (.string ((gi u5x x8).Key)) ((hc_part (us := []) (vs := [.string ((gi u5x x8).Key)]) (ws := [.slice A16 (((gi u5x x8).L).length) c17]) f14) 0 _ rfl) ?_
    refine Goes.rn 4 [(33, .string x1), (34, .bool (!(Op.bytesLess ((gi u5x x8).Key).toList x1.toList))), (35, .bool (!(Op.bytesLess ((gi u5x x8).Key).toList x1.toList)))] J5j ?_
    exact Goes.jp 74 [(0, (pt gx0 0)), (1, .string x1), (2, .slice Ax2 x2.length cx2), (6, .slice (Gp Gx6) x6.length cx6), (7, .bool false), (8, .i x8), (35, .bool (!(Op.bytesLess ((gi u5x x8).Key).toList x1.toList)))] (u5z _ _ h _ _ hx Ax2 x2.length cx2 Gx6 x6.length cx6 u5f (some b13) u5x.length u5v u5w p1 fx2 rfl fx6 rfl u60 rfl)
  ·
   rw [decide_eq_false h8]
   refine Goes.rn 8 [(62, .bool x7), (63, .bool (!x7))] J5s ?_
   refine ite_some h (fun h20 h => ?_) (fun h20 h => ?_)
   ·
    rw [h20]
    refine Goes.rn 7 [(70, (pt gx0 0)), (71, .slice (Gp Gx6) x6.length cx6), (72, (pt gx0 0)), (73, (pt gx0 0))] J5t ?_
    refine Op_.st 50 (.tmp 73) (.tmp 71) 0 1 gx0 0 (.slice (Gp Gx6) x6.length cx6) [.slice (Gp Gx6) x6.length cx6] p1 rfl Goes.s (by kernel_rfl) (by kernel_rfl) (by kernel_rfl) (by kernel_rfl) (Nat.zero_le _) (by simp only [List.length_cons, List.length_nil]; omega) (by simp [Value.oneCell']) ?_
    intro w3 z3 p3
    have p3 : Hp nz wz S1 w3 ((Gx6, .row 59 u5f (cx6 * kT58.size) 0) :: (some gx0, .row 52 [.slice (Gp Gx6) x6.length cx6] 1 0) :: (u5t, .row 59 u5w (u5v * kT58.size) 0) :: Lr) := p3
    refine Goes.rn 1 [] [] ?_
    obtain rfl := Option.some.inj h
    have p3 := p3.dp 2
    have p3 := (p3.fr 0).fr 1
    exact Goes.end_ (fn := Try.f54) (by kernel_rfl) (v := .tuple #[]) (by kernel_rfl) ⟨S1, Gx6, x6.length, cx6, u5f, rfl, (hx.trans z3), p3, (fx6.ext z3), rfl⟩
   ·
    have u62 : x7 = false := by simpa using h20
    rw [u62]
    refine Goes.rn 6 [(64, .slice (Gp Gx6) x6.length cx6), (65, .string x1), (66, .slice Ax2 x2.length cx2), (67, .agg #[.string x1, .slice Ax2 x2.length cx2])] J5u ?_
    have f22 : Els kT58 S1 w1 ([.string x1, .slice Ax2 x2.length cx2] : List Value) [(⟨x1, x2⟩ : T58)] := by exact (Els.cons (K := kT58) (vs := [.string x1, .slice Ax2 x2.length cx2]) (x := (⟨x1, x2⟩ : T58)) ⟨[.string x1], [.slice Ax2 x2.length cx2], rfl, rfl, ⟨_, _, rfl, fx2⟩⟩ Els.nil)
    refine Op_.made (.buildSlice 50 1 #[(0, (.tmp 67))]) 68 50 (fun b => .slice (Gp (some b)) 1 1) 59 ([.string x1, .slice Ax2 x2.length cx2] : List Value) p1 Goes.v (by kernel_rfl) ?_
    intro b21 w4 z4 p4
    have p4 : Hp nz wz S1 w4 (((some b21), .row 59 ([.string x1, .slice Ax2 x2.length cx2] : List Value) (1 * kT58.size) 0) :: (Gx6, .row 59 u5f (cx6 * kT58.size) 0) :: (some gx0, .row 52 [.slice (Gp u5t) u5x.length u5v] 1 0) :: (u5t, .row 59 u5w (u5v * kT58.size) 0) :: Lr) := p4
    refine guard_some' h fun g27 h => ?_
    refine Op_.ap_n (K := kT58) 50 (.tmp 64) (.tmp 68) 69 50 59 1 (.agg #[.string ⟨#[]⟩, .slice none 0 0]) 40 x6.length cx6 1 x6 [(⟨x1, x2⟩ : T58)] (x6 ++ [(⟨x1, x2⟩ : T58)]) (Gp (some b21)) 1 rfl rfl rfl p4 rfl (fx6.ext z4) Goes.v (by kernel_rfl) (by kernel_rfl) (by kernel_rfl) (by kernel_rfl) rfl (by decide) (f22.ext z4) (src_own p4 (q := 0) rfl) (by have := g27; omega) (by have := g27; omega) ?_
    intro w5 G28 c29 u63 z5 p5 f31
    refine Goes.rn 7 [(6, .slice (Gp G28) ((x6 ++ [(⟨x1, x2⟩ : T58)]).length) c29), (70, (pt gx0 0)), (71, .slice (Gp G28) ((x6 ++ [(⟨x1, x2⟩ : T58)]).length) c29), (72, (pt gx0 0)), (73, (pt gx0 0))] J5t ?_
    refine Op_.st 50 (.tmp 73) (.tmp 71) 0 2 gx0 0 (.slice (Gp G28) ((x6 ++ [(⟨x1, x2⟩ : T58)]).length) c29) [.slice (Gp G28) ((x6 ++ [(⟨x1, x2⟩ : T58)]).length) c29] p5 rfl Goes.s (by kernel_rfl) (by kernel_rfl) (by kernel_rfl) (by kernel_rfl) (Nat.zero_le _) (by simp only [List.length_cons, List.length_nil]; omega) (by simp [Value.oneCell']) ?_
    intro w6 z6 p6
    have p6 : Hp nz wz S1 w6 (((some b21), .row 59 ([.string x1, .slice Ax2 x2.length cx2] : List Value) (1 * kT58.size) 0) :: (G28, .row 59 u63 (c29 * kT58.size) 0) :: (some gx0, .row 52 [.slice (Gp G28) ((x6 ++ [(⟨x1, x2⟩ : T58)]).length) c29] 1 0) :: (u5t, .row 59 u5w (u5v * kT58.size) 0) :: Lr) := p6
    refine Goes.rn 1 [] [] ?_
    obtain rfl := Option.some.inj h
    have p6 := (p6.dp 0).dp 2
    have p6 := (p6.fr 0).fr 1
    exact Goes.end_ (fn := Try.f54) (by kernel_rfl) (v := .tuple #[]) (by kernel_rfl) ⟨S1, G28, (x6 ++ [(⟨x1, x2⟩ : T58)]).length, c29, u63, rfl, (((hx.trans z4).trans z5).trans z6), p6, (f31.ext z6), rfl⟩
 ·
  intro u64 u65 ⟨x1, x2, x6, x7, x8, x35, u5x⟩ r h S1 w1 hx Ax2 nx2 cx2 Gx6 nx6 cx6 u5f u5t u5u u5v u5w p1 fx2 lx2 fx6 lx6 u60 u61 junk
  try dsimp only at h
  subst lx2
  subst lx6
  subst u61
  refine ite_some h (fun h32 h => ?_) (fun h32 h => ?_)
  ·
   rw [h32]
   refine Goes.rn 7 [(36, .slice (Gp Gx6) x6.length cx6), (37, .string x1), (38, .slice Ax2 x2.length cx2), (39, .agg #[.string x1, .slice Ax2 x2.length cx2])] J5w ?_
   have f34 : Els kT58 S1 w1 ([.string x1, .slice Ax2 x2.length cx2] : List Value) [(⟨x1, x2⟩ : T58)] := by exact (Els.cons (K := kT58) (vs := [.string x1, .slice Ax2 x2.length cx2]) (x := (⟨x1, x2⟩ : T58)) ⟨[.string x1], [.slice Ax2 x2.length cx2], rfl, rfl, ⟨_, _, rfl, fx2⟩⟩ Els.nil)
   refine Op_.made (.buildSlice 50 1 #[(0, (.tmp 39))]) 40 50 (fun b => .slice (Gp (some b)) 1 1) 59 ([.string x1, .slice Ax2 x2.length cx2] : List Value) p1 Goes.v (by kernel_rfl) ?_
   intro b33 w7 z7 p7
   have p7 : Hp nz wz S1 w7 (((some b33), .row 59 ([.string x1, .slice Ax2 x2.length cx2] : List Value) (1 * kT58.size) 0) :: (Gx6, .row 59 u5f (cx6 * kT58.size) 0) :: (some gx0, .row 52 [.slice (Gp u5t) u5x.length u5v] 1 0) :: (u5t, .row 59 u5w (u5v * kT58.size) 0) :: Lr) := p7
   refine guard_some' h fun g39 h => ?_
   refine Op_.ap_n (K := kT58) 50 (.tmp 36) (.tmp 40) 41 50 59 1 (.agg #[.string ⟨#[]⟩, .slice none 0 0]) 40 x6.length cx6 1 x6 [(⟨x1, x2⟩ : T58)] (x6 ++ [(⟨x1, x2⟩ : T58)]) (Gp (some b33)) 1 rfl rfl rfl p7 rfl (fx6.ext z7) Goes.v (by kernel_rfl) (by kernel_rfl) (by kernel_rfl) (by kernel_rfl) rfl (by decide) (f34.ext z7) (src_own p7 (q := 0) rfl) (by have := g39; omega) (by have := g39; omega) ?_
   intro w8 G40 c41 u66 z8 p8 f43
   refine Goes.rn 5 [(6, .slice (Gp G40) ((x6 ++ [(⟨x1, x2⟩ : T58)]).length) c41), (7, .bool true)] J5i ?_
   have p8 := p8.dp 0
   exact Goes.jp 74 [(0, (pt gx0 0)), (1, .string x1), (2, .slice Ax2 x2.length cx2), (6, .slice (Gp G40) ((x6 ++ [(⟨x1, x2⟩ : T58)]).length) c41), (7, .bool true), (8, .i x8)] (u65 _ _ h _ _ ((hx.trans z7).trans z8) Ax2 x2.length cx2 G40 ((x6 ++ [(⟨x1, x2⟩ : T58)]).length) c41 u66 u5t u5x.length u5v u5w p8 (fx2.ext (z7.trans z8)) rfl f43 rfl (u60.ext (z7.trans z8)) rfl)
  ·
   have u67 : x35 = false := by simpa using h32
   rw [u67]
   refine Goes.rn 2 [] J5i ?_
   exact Goes.jp 74 [(0, (pt gx0 0)), (1, .string x1), (2, .slice Ax2 x2.length cx2), (6, .slice (Gp Gx6) x6.length cx6), (7, .bool x7), (8, .i x8)] (u65 _ _ h _ _ hx Ax2 x2.length cx2 Gx6 x6.length cx6 u5f u5t u5x.length u5v u5w p1 fx2 rfl fx6 rfl u60 rfl)
 ·
  intro u68 u69 ⟨x1, x2, x6, x7, x8, u5x⟩ r h S1 w1 hx Ax2 nx2 cx2 Gx6 nx6 cx6 u5f u5t u5u u5v u5w p1 fx2 lx2 fx6 lx6 u60 u61 junk
  try dsimp only at h
  subst lx2
  subst lx6
  subst u61
  refine Goes.rn 5 [(42, (pt gx0 0)), (43, (pt gx0 0)), (44, (pt gx0 0))] J5y ?_
  refine Goes.ld 50 (.tmp 44) 45 50 ⟨gx0, 0, none⟩ (.slice (Gp u5t) u5x.length u5v) (p1.c 1 0) ?_
  refine Goes.rn 1 [(46, .i x8)] J5z ?_
  refine guard_some' h fun g46 h => ?_
  refine guard_some' h fun g47 h => ?_
  refine Op_.ixO_n 50 (.tmp 45) (.tmp 46) 47 0 59 .i64 x8 2 u5x.length u5v (gi u5x x8) rfl rfl p1 rfl u60 Goes.v (by kernel_rfl) (by kernel_rfl) (by kernel_rfl) (by kernel_rfl) (by decide) g46 g47 ?_
  rintro b48 _ rfl q50 f49
  obtain ⟨_, _, rfl, rfl, ⟨A51, c52, rfl, f53⟩⟩ := q50
  refine Goes.rn 1 [(48, .pointer (some (Addr.add ⟨b48, (x8 : Int).toNat * kT58.size, none⟩ 0)))] J60 ?_
  refine Goes.ld 9 (.tmp 48) 49 9 (Addr.add ⟨b48, (x8 : Int).toNat * kT58.size, none⟩ 0) (.string ((gi u5x x8).Key)) ((hc_part (us := []) (vs := [.string ((gi u5x x8).Key)]) (ws := [.slice A51 (((gi u5x x8).L).length) c52]) f49) 0 _ rfl) ?_
  refine Goes.rn 3 [(50, .string x1), (51, .bool (!(((gi u5x x8).Key).toList == x1.toList)))] J5x ?_
  refine ite_some h (fun h55 h => ?_) (fun h55 h => ?_)
  ·
   rw [h55]
   refine Goes.rn 2 [] J5h ?_
   exact Goes.jp 74 [(0, (pt gx0 0)), (1, .string x1), (2, .slice Ax2 x2.length cx2), (6, .slice (Gp Gx6) x6.length cx6), (7, .bool x7), (8, .i x8)] (u69 _ _ h _ _ hx Ax2 x2.length cx2 Gx6 x6.length cx6 u5f (some b48) u5x.length u5v u5w p1 fx2 rfl fx6 rfl u60 rfl)
  ·
   have u6a : (((gi u5x x8).Key).toList == x1.toList) = false := by simpa using h55
   rw [u6a]
   refine Goes.rn 6 [(52, .slice (Gp Gx6) x6.length cx6), (53, (pt gx0 0)), (54, (pt gx0 0)), (55, (pt gx0 0))] J61 ?_
   refine Goes.ld 50 (.tmp 55) 56 50 ⟨gx0, 0, none⟩ (.slice (Gp (some b48)) u5x.length u5v) (p1.c 1 0) ?_
   refine Goes.rn 1 [(57, .i x8)] J62 ?_
   refine Op_.ixO_n 50 (.tmp 56) (.tmp 57) 58 0 59 .i64 x8 2 u5x.length u5v (gi u5x x8) rfl rfl p1 rfl u60 Goes.v (by kernel_rfl) (by kernel_rfl) (by kernel_rfl) (by kernel_rfl) (by decide) g46 g47 ?_
   rintro b58 _ e64 q60 f59
   injection e64 with u6b; subst u6b
   obtain ⟨_, _, rfl, rfl, ⟨A61, c62, rfl, f63⟩⟩ := q60
   refine Goes.ldN 59 (.tmp 58) 59 59 ⟨b48, (x8 : Int).toNat * kT58.size, none⟩ ([.string ((gi u5x x8).Key)] ++ [.slice A61 (((gi u5x x8).L).length) c62]) f59 ?_
   have f66 : Els kT58 S1 w1 ([.string ((gi u5x x8).Key), .slice A61 (((gi u5x x8).L).length) c62] : List Value) [gi u5x x8] := by exact (Els.cons (K := kT58) (vs := [.string ((gi u5x x8).Key), .slice A61 (((gi u5x x8).L).length) c62]) (x := gi u5x x8) ⟨[.string ((gi u5x x8).Key)], [.slice A61 (((gi u5x x8).L).length) c62], rfl, rfl, ⟨_, _, rfl, f63⟩⟩ Els.nil)
   refine Op_.made (.buildSlice 50 1 #[(0, (.tmp 59))]) 60 50 (fun b => .slice (Gp (some b)) 1 1) 59 ([.string ((gi u5x x8).Key), .slice A61 (((gi u5x x8).L).length) c62] : List Value) p1 Goes.v (by kernel_rfl) ?_
   intro b65 w9 z9 p9
   have p9 : Hp nz wz S1 w9 (((some b65), .row 59 ([.string ((gi u5x x8).Key), .slice A61 (((gi u5x x8).L).length) c62] : List Value) (1 * kT58.size) 0) :: (Gx6, .row 59 u5f (cx6 * kT58.size) 0) :: (some gx0, .row 52 [.slice (Gp (some b48)) u5x.length u5v] 1 0) :: ((some b48), .row 59 u5w (u5v * kT58.size) 0) :: Lr) := p9
   refine guard_some' h fun g71 h => ?_
   refine Op_.ap_n (K := kT58) 50 (.tmp 52) (.tmp 60) 61 50 59 1 (.agg #[.string ⟨#[]⟩, .slice none 0 0]) 40 x6.length cx6 1 x6 [gi u5x x8] (x6 ++ [gi u5x x8]) (Gp (some b65)) 1 rfl rfl rfl p9 rfl (fx6.ext z9) Goes.v (by kernel_rfl) (by kernel_rfl) (by kernel_rfl) (by kernel_rfl) rfl (by decide) (f66.ext z9) (src_own p9 (q := 0) rfl) (by have := g71; omega) (by have := g71; omega) ?_
   intro w10 G72 c73 u6c z10 p10 f75
   refine Goes.rn 2 [(6, .slice (Gp G72) ((x6 ++ [gi u5x x8]).length) c73)] J5h ?_
   have p10 := p10.dp 0
   exact Goes.jp 74 [(0, (pt gx0 0)), (1, .string x1), (2, .slice Ax2 x2.length cx2), (6, .slice (Gp G72) ((x6 ++ [gi u5x x8]).length) c73), (7, .bool x7), (8, .i x8)] (u69 _ _ h _ _ ((hx.trans z9).trans z10) Ax2 x2.length cx2 G72 ((x6 ++ [gi u5x x8]).length) c73 u6c (some b48) u5x.length u5v u5w p10 (fx2.ext (z9.trans z10)) rfl f75 rfl (u60.ext (z9.trans z10)) rfl)
 ·
  intro u6d u6e ⟨x1, x2, x6, x7, x8, u5x⟩ r h S1 w1 hx Ax2 nx2 cx2 Gx6 nx6 cx6 u5f u5t u5u u5v u5w p1 fx2 lx2 fx6 lx6 u60 u61 junk
  try dsimp only at h
  subst lx2
  subst lx6
  subst u61
  refine Goes.rn 7 [(20, .i x8), (21, .i (wr .i64 (x8 + 1))), (8, .i (wr .i64 (x8 + 1)))] J5f ?_
  exact Goes.jp 74 [(0, (pt gx0 0)), (1, .string x1), (2, .slice Ax2 x2.length cx2), (6, .slice (Gp Gx6) x6.length cx6), (7, .bool x7), (8, .i (wr .i64 (x8 + 1)))] (u6e _ _ h _ _ hx Ax2 x2.length cx2 Gx6 x6.length cx6 u5f u5t u5x.length u5v u5w p1 fx2 rfl fx6 rfl u60 rfl)

theorem W.z13 {nz wz S0 w0 Lr} (gx0 : Nat) : ∀ a r, M.tidepoleref13_Index_set_l0 a = some r → (L.z13 nz wz S0 w0 Lr gx0) a r := (W.z17 gx0).1

theorem W.z14 {nz wz S0 w0 Lr} (gx0 : Nat) : ∀ a r, M.tidepoleref13_Index_set_l1 a = some r → (L.z14 nz wz S0 w0 Lr gx0) a r := (W.z17 gx0).2.1

theorem W.z15 {nz wz S0 w0 Lr} (gx0 : Nat) : ∀ a r, M.tidepoleref13_Index_set_l2 a = some r → (L.z15 nz wz S0 w0 Lr gx0) a r := (W.z17 gx0).2.2.1

theorem W.z16 {nz wz S0 w0 Lr} (gx0 : Nat) : ∀ a r, M.tidepoleref13_Index_set_l3 a = some r → (L.z16 nz wz S0 w0 Lr gx0) a r := (W.z17 gx0).2.2.2

def Q4q := sub [1] B54
def J63 : List Item := [.code Q4q]
def Q4r := sub [0] B54
def J64 : List Item := .inRegion (opsOf Q4r) [0, 1] :: J63
def Q4s := sub [1, 1, 0, 1] B54
def J65 : List Item := .code Q4s :: J5c

theorem W.z12 (u54 : List T58) (x1 : ByteArray) (x2 : List Int) (r : List T58) (h : M.tidepoleref13_Index_set u54 x1 x2 = some r) {nz wz S0 w0 Lr} (gx0 u50 u51 u52 u53 Ax2 nx2 cx2) (p0 : Hp nz wz S0 w0 ((some gx0, .row 52 [.slice (Gp u50) u51 u52] 1 0) :: (u50, .row 59 u53 (u52 * kT58.size) 0) :: Lr)) (u5b : Els kT58 S0 w0 u53 u54) (u5c : u54.length = u51) (fx2 : Rd (kInt .u64) S0 w0 Ax2 cx2 x2) (lx2 : x2.length = nx2) :
  Calls Try.prog 54 #[(pt gx0 0), .string x1, .slice Ax2 nx2 cx2] w0 (Rets (Post.z12 nz wz S0 w0 Lr gx0 r)) := by
 subst u5c
 subst lx2
 refine calls_of_goes (fn := Try.f54) (c := B54) (by kernel_rfl) (by kernel_rfl) 71 (by kernel_rfl) ?_
 refine Goes.jp 74 [(0, (pt gx0 0)), (1, .string x1), (2, .slice Ax2 x2.length cx2)] (fun junk => ?_)
 delta M.tidepoleref13_Index_set at h
 refine Goes.rn 2 [] J64 ?_
 have f4 : Els kT58 S0 w0 ([] : List Value) ([] : List T58) := by exact Els.nil
 refine Op_.made (.buildSlice 50 0 #[]) 9 50 (fun b => .slice (Gp (some b)) 0 0) 59 ([] : List Value) p0 Goes.v (by kernel_rfl) ?_
 intro b3 w2 z2 p2
 have p2 : Hp nz wz S0 w2 (((some b3), .row 59 ([] : List Value) (0 * kT58.size) 0) :: (some gx0, .row 52 [.slice (Gp u50) u54.length u52] 1 0) :: (u50, .row 59 u53 (u52 * kT58.size) 0) :: Lr) := p2
 refine Goes.rn 14 [(6, .slice (Gp (some b3)) 0 0), (10, .slice Ax2 x2.length cx2), (11, .i (x2.length : Int)), (12, .bool (decide ((x2.length : Int) = 0))), (7, .bool (decide ((x2.length : Int) = 0))), (8, .i 0)] J65 ?_
 refine Goes.rn 2 [] J5f ?_
 exact Goes.jp 74 [(0, (pt gx0 0)), (1, .string x1), (2, .slice Ax2 x2.length cx2), (6, .slice (Gp (some b3)) 0 0), (7, .bool (decide ((x2.length : Int) = 0))), (8, .i 0)] (W.z13 gx0 _ _ h _ _ ((Ext.refl S0 w0).trans z2) Ax2 x2.length cx2 (some b3) 0 0 ([] : List Value) u50 u54.length u52 u53 p2 (fx2.ext z2) rfl (f4.ext z2) rfl (u5b.ext z2) rfl)

def Q4t := sub [1] B34
def J66 : List Item := [.code Q4t]
def Q4u := sub [0] B34
def J67 : List Item := .inRegion (opsOf Q4u) [2, 3, 4, 5, 6, 7, 8, 9] :: J66
def J68 : List Item := .inRegion (opsOf Q4u) [4, 5, 6, 7, 8, 9] :: J66
def J69 : List Item := [.inRegion (opsOf Q4t) [3]]

def Post.z18 (gx0 : Nat) (r : List T58) (v : Value) (w' : World) : Prop :=
 ∃ S' u5t u5u u5v u5w, v = .tuple #[] ∧ Ext S0 w0 S' w' ∧ Hp nz wz S' w' ((some gx0, .row 52 [.slice (Gp u5t) u5u u5v] 1 0) :: (u5t, .row 59 u5w (u5v * kT58.size) 0) :: Lr) ∧ Els kT58 S' w' u5w r ∧ r.length = u5u

theorem W.z18 (u54 : List T58) (x1 : ByteArray) (x2 : Int) (r : List T58) (h : M.tidepoleref13_Index_Put u54 x1 x2 = some r) {nz wz S0 w0 Lr} (gx0 u50 u51 u52 u53) (p0 : Hp nz wz S0 w0 ((some gx0, .row 52 [.slice (Gp u50) u51 u52] 1 0) :: (u50, .row 59 u53 (u52 * kT58.size) 0) :: Lr)) (u5b : Els kT58 S0 w0 u53 u54) (u5c : u54.length = u51) :
  Calls Try.prog 34 #[(pt gx0 0), .string x1, .u x2] w0 (Rets (Post.z18 nz wz S0 w0 Lr gx0 r)) := by
 subst u5c
 refine calls_of_goes (fn := Try.f34) (c := B34) (by kernel_rfl) (by kernel_rfl) 17 (by kernel_rfl) ?_
 refine Goes.jp 20 [(0, (pt gx0 0)), (1, .string x1), (2, .u x2)] (fun junk => ?_)
 delta M.tidepoleref13_Index_Put at h
 refine Goes.rn 4 [(9, (pt gx0 0)), (10, .string x1)] J67 ?_
 refine bind_some' h fun y3 e4 h => ?_
 refine Goes.cal (kc 41 [9, 10] #[49, 9]) 11 22 41 _ (W.zs u54 x1 y3 e4 gx0 u50 u54.length u52 u53 p0 u5b rfl) ?_
 rintro _ w2 ⟨S2, u6f, u6g, u6h, u6i, rfl, z2, p2, u6j, rfl⟩
 refine Goes.rn 1 [(12, .u x2)] J68 ?_
 obtain ⟨S3, z3, p3, f6⟩ := p2.freezeRd 0 rfl u6j (by decide)
 refine bind_some' h fun y7 e8 h => ?_
 refine Goes.cal (kc 27 [11, 12] #[22, 35]) 13 26 27 _ (W.zw y3 x2 y7 e8 (Gp u6f) y3.length u6h p3 f6 rfl) ?_
 rintro _ w4 ⟨S4, u6k, u6l, u6m, u6n, rfl, z4, p4, u6o, rfl⟩
 have p4 := p4.dp 1
 refine Goes.rn 10 [(8, .tuple #[.slice (Gp u6k) y7.1.length u6m, .i y7.2]), (14, .slice (Gp u6k) y7.1.length u6m), (15, .i y7.2), (6, .slice (Gp u6k) y7.1.length u6m), (7, .i y7.2), (16, (pt gx0 0)), (17, .string x1), (18, .slice (Gp u6k) y7.1.length u6m)] J69 ?_
 obtain ⟨S5, z5, p5, f10⟩ := p4.freezeRd 0 rfl u6o (by decide)
 have p5 := (p5.fr 2).fr 2
 refine bind_some' h fun y11 e12 h => ?_
 refine Goes.cal (kc 54 [16, 17, 18] #[49, 9, 22]) 19 0 54 _ (W.z12 u54 x1 y7.1 y11 e12 gx0 u50 u54.length u52 u53 (Gp u6k) y7.1.length u6m p5 (u5b.ext (((z2.trans z3).trans z4).trans z5)) rfl f10 rfl) ?_
 rintro _ w6 ⟨S6, u6p, u6q, u6r, u6s, rfl, z6, p6, u6t, rfl⟩
 have p6 := p6.dp 2
 refine Goes.rn 1 [] [] ?_
 obtain rfl := Option.some.inj h
 exact Goes.end_ (fn := Try.f34) (by kernel_rfl) (v := .tuple #[]) (by kernel_rfl) ⟨S6, u6p, y11.length, u6r, u6s, rfl, ((((((Ext.refl S0 w0).trans z2).trans z3).trans z4).trans z5).trans z6), p6, u6t, rfl⟩

def Q4v := sub [1, 1] B37
def J6a : List Item := [.code Q4v]
def Q4w := sub [1, 0, 1] B37
def J6b : List Item := .code Q4w :: J6a
def Q4x := sub [1, 0, 0] B37
def J6c : List Item := .inRegion (opsOf Q4x) [1, 2] :: J6b
def Q4y := sub [1, 1, 1] B37
def J6d : List Item := [.code Q4y]
def Q4z := sub [1, 1, 0] B37
def J6e : List Item := .inRegion (opsOf Q4z) [4, 5, 6, 7, 8] :: J6d
def J6f : List Item := .inRegion (opsOf Q4z) [6, 7, 8] :: J6d

def Post.z19 (gx0 : Nat) (u4 : Nat) (u2 : List (Nat × Obj)) (u5 : Nat) (u1 : List (List (ByteArray × (List Int)))) (r : List Int) (v : Value) (w' : World) : Prop :=
 ∃ S' Gq nq cq csq, v = .slice (Gp Gq) nq cq ∧ Ext S0 w0 S' w' ∧ Hp nz wz S' w' ((Gq, .row 35 csq (cq * (kInt .u64).size) 0) :: (some gx0, .row 69 [.map (some u4)] 1 0) :: (none, .seg 65 u2) :: Lr) ∧ Els (kInt .u64) S' w' csq r ∧ r.length = nq

theorem W.z19 (u5 : Nat) (x1 : ByteArray) (u1 : List (List (ByteArray × (List Int)))) (r : List Int) (h : M.post_Index_List u5 x1 u1 = some r) {nz wz S0 w0 Lr} (gx0 u4 u2) (p0 : Hp nz wz S0 w0 ((some gx0, .row 69 [.map (some u4)] 1 0) :: (none, .seg 65 u2) :: Lr)) (u6 : Pa 65 S0 u5 u4) (u3 : Pl (oMap Value.string (kSl (kInt .u64))) S0 w0 u2 u1) :
  Calls Try.prog 37 #[(pt gx0 0), .string x1] w0 (Rets (Post.z19 nz wz S0 w0 Lr gx0 u4 u2 u5 u1 r)) := by
 refine calls_of_goes (fn := Try.f37) (c := B37) (by kernel_rfl) (by kernel_rfl) 14 (by kernel_rfl) ?_
 refine Goes.jp 16 [(0, (pt gx0 0)), (1, .string x1)] (fun junk => ?_)
 delta M.post_Index_List at h
 refine Goes.rn 8 [(4, .slice none 0 0), (5, (pt gx0 0))] J6c ?_
 refine bind_some' h fun y2 e3 h => ?_
 refine Goes.cal (kc 52 [5] #[47]) 6 4 52 _ (W.z2 u5 y2 e3 gx0 u4 p0 u6) ?_
 rintro _ w2 ⟨S2, rfl, z2, p2⟩
 refine Goes.rn 10 [(7, .bool (!true)), (8, (pt gx0 0)), (9, (pt gx0 0)), (10, (pt gx0 0)), (11, (pt gx0 0))] J6e ?_
 refine Goes.ld 65 (.tmp 11) 12 65 ⟨gx0, 0, none⟩ (.map (some u4)) (p2.c 0 0) ?_
 refine Goes.rn 1 [(13, .string x1)] J6f ?_
 refine let_some h fun v4 e5 h => ?_
 refine Op_.lkM 65 (.tmp 12) (.tmp 13) 14 22 9 22 1 (.slice none 0 0) ([] : List Int) x1 v4 p2 rfl (u3.ext z2) (u6.ext z2) Goes.v (by kernel_rfl) (by kernel_rfl) (by kernel_rfl) (kok_str (by kernel_rfl)) (by kernel_rfl) ⟨none, 0, rfl, Rd.none_⟩ e5 ?_
 intro v6 f7
 obtain ⟨A8, c9, rfl, f10⟩ := one_sl f7
 refine bind_some' h fun y11 e12 h => ?_
 refine Goes.cal (kc 55 [14] #[22]) 15 22 55 _ (W.z6 v4 y11 e12 A8 v4.length c9 p2 f10 rfl) ?_
 rintro _ w3 ⟨S3, u4e, u4f, u4g, u4h, rfl, z3, p3, u4i, rfl⟩
 refine Goes.rn 2 [(4, .slice (Gp u4e) y11.length u4g)] J6d ?_
 obtain rfl := Option.some.inj h
 exact Goes.rt Try.f37 (.slice (Gp u4e) y11.length u4g) ⟨S3, u4e, y11.length, u4g, u4h, rfl, (((Ext.refl S0 w0).trans z2).trans z3), p3, u4i, rfl⟩

def Q50 := sub [1, 1, 1] B11
def J6g : List Item := [.code Q50]
def J6h : List Item := .inBlock 0 :: J6g
def Q51 := sub [1, 1, 0, 1, 0, 0] B11
def J6i : List Item := .inLoop Q51 :: J6h
def J6j : List Item := .code Q51 :: J6i
def Q52 := sub [1, 1, 0, 1, 0, 0, 1] B11
def J6k : List Item := .code Q52 :: J6i
def Q53 := sub [1, 1, 0, 1, 0, 0, 0, 1] B11
def J6l : List Item := .code Q53 :: J6k
def Q54 := sub [1, 1, 0, 1, 0, 0, 1, 1] B11
def J6m : List Item := .code Q54 :: J6i
def J6n : List Item := .inBlock 1 :: J6m
def Q55 := sub [1, 1, 0, 1, 0, 0, 1, 0, 0, 1] B11
def J6o : List Item := .code Q55 :: J6n
def Q56 := sub [1, 1, 0, 1, 0, 0, 1, 0, 0, 0] B11
def J6p : List Item := .code Q56 :: J6o
def Q57 := sub [1, 1, 0, 1, 0, 0, 1, 0, 0, 1, 0, 1] B11
def J6q : List Item := .code Q57 :: J6n
def Q58 := sub [1, 1, 1, 1] B11
def J6r : List Item := [.code Q58]

def Post.z1a (r : Bool) (v : Value) (w' : World) : Prop :=
 ∃ S', v = .bool r ∧ Ext S0 w0 S' w' ∧ Hp nz wz S' w' (Lr)

def L.z1b : (List Int) × (List Int) × Int → Bool → Prop := fun ⟨x0, x1, x5⟩ r => ∀ S1 w1, Ext S0 w0 S1 w1 → ∀ Ax0 nx0 cx0 Ax1 nx1 cx1 (_ : Hp nz wz S1 w1 (Lr)) (_ : Rd (kInt .u64) S1 w1 Ax0 cx0 x0) (_ : x0.length = nx0) (_ : Rd (kInt .u64) S1 w1 Ax1 cx1 x1) (_ : x1.length = nx1) (junk : Nat → Value),
 Goes Try.prog (base 11) J6j ⟨lfr 26 [(0, .slice Ax0 nx0 cx0), (1, .slice Ax1 nx1 cx1), (5, .i x5)] junk, []⟩ w1 (Done Try.prog 11 (Rets (Post.z1a nz wz S0 w0 Lr r)))

theorem W.z1b {nz wz S0 w0 Lr} : ∀ a r, M.tidepolelaw13_same_l0 a = some r → (L.z1b nz wz S0 w0 Lr) a r := by
 refine M.tidepolelaw13_same_l0.partial_correctness (motive := (L.z1b nz wz S0 w0 Lr)) ?_
 intro u6u u6v ⟨x0, x1, x5⟩ r h S1 w1 hx Ax0 nx0 cx0 Ax1 nx1 cx1 p1 fx0 lx0 fx1 lx1 junk
 try dsimp only at h
 subst lx0
 subst lx1
 refine Goes.rn 8 [(11, .i x5), (12, .slice Ax0 x0.length cx0), (13, .i (x0.length : Int)), (14, .bool (decide (x5 < (x0.length : Int))))] J6l ?_
 refine ite_some h (fun h2 h => ?_) (fun h2 h => ?_)
 ·
  rw [decide_eq_true h2]
  refine Goes.rn 5 [] J6p ?_
  have z2 : Ext S1 w1 S1 (w1).drew := Ext.draw
  have p2 := p1.draw
  refine Goes.drawn (s := []) (F := Fc S1 (w1).drew []) 6 9 (by kernel_rfl) (by kernel_rfl) (by kernel_rfl) (by kernel_rfl) ?_
  generalize (w1).drew = w2 at z2 p2 ⊢
  refine AnyG.pu 0 (.move (.tmp 0)) 17 22 (.slice Ax0 x0.length cx0) (Fc.here trivial) ?_
  refine AnyG.pu 1 (.move (.tmp 5)) 18 3 (.i x5) (Fc.here trivial) ?_
  refine guard_some' h fun g3 h => ?_
  refine AnyG.ixR_n (i := 2) 22 (.tmp 17) (.tmp 18) 19 0 35 .i64 x5 (gi x0 x5) rfl rfl (fx0.ext z2) (by kernel_rfl) (by kernel_rfl) (Fc.here trivial) (by kernel_rfl) (by kernel_rfl) (by kernel_rfl) (by kernel_rfl) g3 h2 ?_
  intro a4 _ f5 q6
  obtain rfl := q6
  refine AnyG.ld1 (i := 3) 35 (.tmp 19) 20 35 a4 (.u (gi x0 x5)) (by kernel_rfl) (by kernel_rfl) (Fc.here trivial) (by kernel_rfl) (by kernel_rfl) (fun _ h => f5.fc h 0 _ rfl) ?_
  refine AnyG.pu 4 (.move (.tmp 1)) 21 22 (.slice Ax1 x1.length cx1) (Fc.here trivial) ?_
  refine AnyG.pu 5 (.move (.tmp 5)) 22 3 (.i x5) (Fc.here trivial) ?_
  refine guard_some' h fun g7 h => ?_
  refine AnyG.ixR_n (i := 6) 22 (.tmp 21) (.tmp 22) 23 0 35 .i64 x5 (gi x1 x5) rfl rfl (fx1.ext z2) (by kernel_rfl) (by kernel_rfl) (Fc.here trivial) (by kernel_rfl) (by kernel_rfl) (by kernel_rfl) (by kernel_rfl) g3 g7 ?_
  intro a8 _ f9 q10
  obtain rfl := q10
  refine AnyG.ld1 (i := 7) 35 (.tmp 23) 24 35 a8 (.u (gi x1 x5)) (by kernel_rfl) (by kernel_rfl) (Fc.here trivial) (by kernel_rfl) (by kernel_rfl) (fun _ h => f9.fc h 0 _ rfl) ?_
  refine AnyG.pu 8 (.binOp .neq 35 (.tmp 20) (.tmp 24) 35) 25 4 (.bool (!(decide (gi x0 x5 = gi x1 x5)))) (Fc.here trivial) ?_
  refine AnyG.done (by kernel_rfl) ?_ _
  refine ite_some h (fun h11 h => ?_) (fun h11 h => ?_)
  ·
   rw [decide_eq_true h11]
   refine Goes.rn 9 [(15, .i x5), (16, .i (wr .i64 (x5 + 1))), (5, .i (wr .i64 (x5 + 1)))] J6j ?_
   exact Goes.jp 26 [(0, .slice Ax0 x0.length cx0), (1, .slice Ax1 x1.length cx1), (5, .i (wr .i64 (x5 + 1)))] (u6v _ _ h _ _ (hx.trans z2) Ax0 x0.length cx0 Ax1 x1.length cx1 p2 (fx0.ext z2) rfl (fx1.ext z2) rfl)
  ·
   rw [decide_eq_false h11]
   refine Goes.rn 5 [(4, .bool false)] J6q ?_
   obtain rfl := Option.some.inj h
   exact Goes.rt Try.f11 (.bool false) ⟨S1, rfl, (hx.trans z2), p2⟩
 ·
  rw [decide_eq_false h2]
  refine Goes.rn 6 [(4, .bool true)] J6r ?_
  obtain rfl := Option.some.inj h
  exact Goes.rt Try.f11 (.bool true) ⟨S1, rfl, hx, p1⟩

def Q59 := sub [1, 1] B11
def J6s : List Item := [.code Q59]
def Q5a := sub [1, 0, 1] B11
def J6t : List Item := .code Q5a :: J6s
def Q5b := sub [1, 0, 1, 0, 1] B11
def J6u : List Item := .code Q5b :: J6s

theorem W.z1a (x0 : List Int) (x1 : List Int) (r : Bool) (h : M.tidepolelaw13_same x0 x1 = some r) {nz wz S0 w0 Lr} (Ax0 nx0 cx0 Ax1 nx1 cx1) (p0 : Hp nz wz S0 w0 (Lr)) (fx0 : Rd (kInt .u64) S0 w0 Ax0 cx0 x0) (lx0 : x0.length = nx0) (fx1 : Rd (kInt .u64) S0 w0 Ax1 cx1 x1) (lx1 : x1.length = nx1) :
  Calls Try.prog 11 #[.slice Ax0 nx0 cx0, .slice Ax1 nx1 cx1] w0 (Rets (Post.z1a nz wz S0 w0 Lr r)) := by
 subst lx0
 subst lx1
 refine calls_of_goes (fn := Try.f11) (c := B11) (by kernel_rfl) (by kernel_rfl) 24 (by kernel_rfl) ?_
 refine Goes.jp 26 [(0, .slice Ax0 x0.length cx0), (1, .slice Ax1 x1.length cx1)] (fun junk => ?_)
 delta M.tidepolelaw13_same at h
 refine Goes.rn 13 [(4, .bool false), (6, .slice Ax0 x0.length cx0), (7, .i (x0.length : Int)), (8, .slice Ax1 x1.length cx1), (9, .i (x1.length : Int)), (10, .bool (!(decide ((x0.length : Int) = (x1.length : Int)))))] J6t ?_
 refine ite_some h (fun h1 h => ?_) (fun h1 h => ?_)
 ·
  rw [decide_eq_true h1]
  refine Goes.rn 9 [(5, .i 0)] J6j ?_
  exact Goes.jp 26 [(0, .slice Ax0 x0.length cx0), (1, .slice Ax1 x1.length cx1), (5, .i 0)] (W.z1b _ _ h _ _ (Ext.refl S0 w0) Ax0 x0.length cx0 Ax1 x1.length cx1 p0 fx0 rfl fx1 rfl)
 ·
  rw [decide_eq_false h1]
  refine Goes.rn 5 [(4, .bool false)] J6u ?_
  obtain rfl := Option.some.inj h
  exact Goes.rt Try.f11 (.bool false) ⟨S0, rfl, (Ext.refl S0 w0), p0⟩

def Q5c := sub [1] B62
def J6v : List Item := [.code Q5c]
def Q5d := sub [0] B62
def J6w : List Item := .inRegion (opsOf Q5d) [0, 1] :: J6v
def Q5e := sub [1, 1] B62
def J6x : List Item := [.code Q5e]

def Post.z1c (u2 : List (Nat × Obj)) (u1 : List (List (ByteArray × (List Int)))) (r : Nat) (v : Value) (w' : World) : Prop :=
 ∃ S' ua u6w, v = .func (.func 67) #[] #[(pt ua 0)] ∧ Ext S0 w0 S' w' ∧ Hp nz wz S' w' ((some ua, .row 65 [.map (some u6w)] 1 0) :: (none, .seg 65 u2) :: Lr) ∧ Pa 65 S' r u6w

theorem W.z1c (x0 : Nat) (u1 : List (List (ByteArray × (List Int)))) (r : Nat) (h : M.maps_Keys_map_string_uint64_string_uint64 x0 u1 = some r) {nz wz S0 w0 Lr} (gx0 u2) (p0 : Hp nz wz S0 w0 ((none, .seg 65 u2) :: Lr)) (fx0 : Pa 65 S0 x0 gx0) (u3 : Pl (oMap Value.string (kSl (kInt .u64))) S0 w0 u2 u1) :
  Calls Try.prog 62 #[.map (some gx0)] w0 (Rets (Post.z1c nz wz S0 w0 Lr u2 u1 r)) := by
 refine calls_of_goes (fn := Try.f62) (c := B62) (by kernel_rfl) (by kernel_rfl) 3 (by kernel_rfl) ?_
 refine Goes.jp 4 [(0, .map (some gx0))] (fun junk => ?_)
 delta M.maps_Keys_map_string_uint64_string_uint64 at h
 refine Goes.rn 2 [] J6w ?_
 refine Op_.box 65 (.tmp 0) 1 0 (.map (some gx0)) [.map (some gx0)] p0 Goes.v (by kernel_rfl) (by kernel_rfl) ?_
 intro b1 w2 z2 p2
 refine Goes.rn 7 [(2, .func (.func 67) #[] #[(pt b1 0)]), (3, .func (.func 67) #[] #[(pt b1 0)])] J6x ?_
 obtain rfl := Option.some.inj h
 exact Goes.rt Try.f62 (.func (.func 67) #[] #[(pt b1 0)]) ⟨S0, b1, gx0, rfl, ((Ext.refl S0 w0).trans z2), p2, (fx0.ext z2)⟩

def Q5f := sub [1, 0, 1, 0, 1, 0] B69
def J6y : List Item := .inRegion (opsOf Q5f) [0, 1, 2, 3, 4] :: J12
def J6z : List Item := .inRegion (opsOf Q5f) [2, 3, 4] :: J12
def Q5g := sub [1, 0, 1, 0] B69
def Q5h := sub [1, 0, 1, 0, 1] B69

def Post.z1d (lk : Nat) (rk : Nat) (jkk : Nat → Value) (u6x : Nat) (u6y : Nat) (u6z : Nat) (u2 : List (Nat × Obj)) (u70 : Nat) (u1 : List (List (ByteArray × (List Int)))) (r : List ByteArray) (v : Value) (w' : World) : Prop :=
 ∃ S' u71 u72 u73 u74, v = .bool true ∧ Ext S0 w0 S' w' ∧ Hp nz wz S' w' ((some lk, .obj (lpst 69 (lfr 13 [(2, (pt u6x 0)), (6, .func (.func 67) #[] #[(pt u6y 0)])] jkk) #[7] (rfAssign (Q5g)) (rfBody (Q5g)) rk .ready none)) :: (some u6x, .row 57 [.slice (Gp u71) u72 u73] 1 0) :: (u71, .row 9 u74 (u73 * kStr.size) 0) :: (some u6y, .row 65 [.map (some u6z)] 1 0) :: (none, .seg 65 u2) :: Lr) ∧ Els kStr S' w' u74 r ∧ r.length = u72

theorem W.z1d (u75 : List ByteArray) (u70 : Nat) (a0 : ByteArray) (u1 : List (List (ByteArray × (List Int)))) (r : List ByteArray) (h : M.slices_AppendSeq_string_string__r_2 u75 u70 a0 u1 = some r) {nz wz S0 w0 Lr} (lk rk jkk u6x u76 u77 u78 u79 u6y u6z u2) (p0 : Hp nz wz S0 w0 ((some lk, .obj (lpst 69 (lfr 13 [(2, (pt u6x 0)), (6, .func (.func 67) #[] #[(pt u6y 0)])] jkk) #[7] (rfAssign (Q5g)) (rfBody (Q5g)) rk .ready none)) :: (some u6x, .row 57 [.slice (Gp u76) u77 u78] 1 0) :: (u76, .row 9 u79 (u78 * kStr.size) 0) :: (some u6y, .row 65 [.map (some u6z)] 1 0) :: (none, .seg 65 u2) :: Lr)) (u7a : Els kStr S0 w0 u79 u75) (u7b : u75.length = u77) (u7c : Pa 65 S0 u70 u6z) (u3 : Pl (oMap Value.string (kSl (kInt .u64))) S0 w0 u2 u1) :
  Goes Try.prog (rbase 69 lk) [.code (rfAssign (Q5g)), .beginRound, .code (rfBody (Q5g))] ⟨setp (lfr 13 [(2, (pt u6x 0)), (6, .func (.func 67) #[] #[(pt u6y 0)])] jkk) #[7] #[.string a0], []⟩ w0 (DoneR (Post.z1d nz wz S0 w0 Lr lk rk jkk u6x u6y u6z u2 u70 u1 r)) := by
 subst u7b
 refine Goes.jp 13 [(2, (pt u6x 0)), (6, .func (.func 67) #[] #[(pt u6y 0)]), (7, .string a0)] (fun junk => ?_)
 delta M.slices_AppendSeq_string_string__r_2 at h
 refine Goes.rn 3 [(5, .string a0)] [.beginRound, .code (Q5h)] ?_
 refine Goes.beginR 0 rfl p0 rfl ?_
 intro w2 z2 p2
 refine Goes.rn 2 [] J6y ?_
 refine Goes.ld 57 (.tmp 2) 8 57 ⟨u6x, 0, none⟩ (.slice (Gp u76) u75.length u78) (p2.c 1 0) ?_
 refine Goes.rn 1 [(9, .string a0)] J6z ?_
 have f6 : Els kStr S0 w2 ([.string a0] : List Value) [a0] := by exact (Els.cons (K := kStr) (vs := [.string a0]) (x := a0) rfl Els.nil)
 refine Op_.made (.buildSlice 57 1 #[(0, (.tmp 9))]) 10 57 (fun b => .slice (Gp (some b)) 1 1) 9 ([.string a0] : List Value) p2 Goes.v (by kernel_rfl) ?_
 intro b5 w3 z3 p3
 have p3 : Hp nz wz S0 w3 (((some b5), .row 9 ([.string a0] : List Value) (1 * kStr.size) 0) :: (some lk, .obj (lpst 69 (lfr 13 [(2, (pt u6x 0)), (6, .func (.func 67) #[] #[(pt u6y 0)])] jkk) #[7] (rfAssign (Q5g)) (rfBody (Q5g)) rk .busy none)) :: (some u6x, .row 57 [.slice (Gp u76) u75.length u78] 1 0) :: (u76, .row 9 u79 (u78 * kStr.size) 0) :: (some u6y, .row 65 [.map (some u6z)] 1 0) :: (none, .seg 65 u2) :: Lr) := p3
 refine guard_some' h fun g11 h => ?_
 refine Op_.ap_n (K := kStr) 57 (.tmp 8) (.tmp 10) 11 57 9 3 (.string ⟨#[]⟩) 16 u75.length u78 1 u75 [a0] (u75 ++ [a0]) (Gp (some b5)) 1 rfl rfl rfl p3 rfl (u7a.ext (z2.trans z3)) Goes.v (by kernel_rfl) (by kernel_rfl) (by kernel_rfl) (by kernel_rfl) rfl (by decide) (f6.ext z3) (src_own p3 (q := 0) rfl) (by have := g11; omega) (by have := g11; omega) ?_
 intro w4 G12 c13 u7d z4 p4 f15
 refine Op_.st 57 (.tmp 2) (.tmp 11) 0 2 u6x 0 (.slice (Gp G12) ((u75 ++ [a0]).length) c13) [.slice (Gp G12) ((u75 ++ [a0]).length) c13] p4 rfl Goes.s (by kernel_rfl) (by kernel_rfl) (by kernel_rfl) (by kernel_rfl) (Nat.zero_le _) (by simp only [List.length_cons, List.length_nil]; omega) (by simp [Value.oneCell']) ?_
 intro w5 z5 p5
 have p5 : Hp nz wz S0 w5 (((some b5), .row 9 ([.string a0] : List Value) (1 * kStr.size) 0) :: (some lk, .obj (lpst 69 (lfr 13 [(2, (pt u6x 0)), (6, .func (.func 67) #[] #[(pt u6y 0)])] jkk) #[7] (rfAssign (Q5g)) (rfBody (Q5g)) rk .busy none)) :: (some u6x, .row 57 [.slice (Gp G12) ((u75 ++ [a0]).length) c13] 1 0) :: (G12, .row 9 u7d (c13 * kStr.size) 0) :: (some u6y, .row 65 [.map (some u6z)] 1 0) :: (none, .seg 65 u2) :: Lr) := p5
 refine Goes.rn 2 [] [] ?_
 have p5 := p5.dp 0
 obtain rfl := Option.some.inj h
 refine Goes.endR 0 p5 rfl ?_
 intro w6 z6 p6
 exact ⟨S0, G12, (u75 ++ [a0]).length, c13, u7d, rfl, ((((((Ext.refl S0 w0).trans z2).trans z3).trans z4).trans z5).trans z6), p6, (f15.ext (z5.trans z6)), rfl⟩

def Q5i := sub [1, 0, 0] B67
def J70 : List Item := .inLoop Q5i :: J18
def J71 : List Item := .code Q5i :: J70
def Q5j := sub [1, 0, 0, 1] B67
def J72 : List Item := .code Q5j :: J70
def Q5k := sub [1, 0, 0, 0] B67
def J73 : List Item := .inRegion (opsOf Q5k) [0, 1] :: J72
def J74 : List Item := .inBlock 1 :: J70
def Q5l := sub [1, 0, 0, 1, 1, 0, 1] B67
def J75 : List Item := .code Q5l :: J74
def Q5m := sub [1, 0, 0, 1, 1, 0, 0] B67
def J76 : List Item := .inRegion (opsOf Q5m) [0, 1, 2] :: J75
def Q5n := sub [1, 0, 0, 1, 1, 0, 1, 1] B67
def J77 : List Item := .code Q5n :: J74
def Q5o := sub [1, 0, 0, 1, 1, 0, 1, 0] B67
def J78 : List Item := .inRegion (opsOf Q5o) [2, 3] :: J77

def Post.z1e (lx0 : Nat) (rx0 : Nat) (u1b : Nat → Value) (u7e : Nat) (u7f : Nat) (u7g : Nat) (u2 : List (Nat × Obj)) (u7h : Nat) (u1 : List (List (ByteArray × (List Int)))) (r : List ByteArray) (v : Value) (w' : World) : Prop :=
 ∃ S' u71 u72 u73 u74, v = .tuple #[] ∧ Ext S0 w0 S' w' ∧ Hp nz wz S' w' ((some lx0, .obj (lpst 69 (lfr 13 [(2, (pt u7e 0)), (6, .func (.func 67) #[] #[(pt u7f 0)])] u1b) #[7] (rfAssign (Q5g)) (rfBody (Q5g)) rx0 .ready none)) :: (some u7e, .row 57 [.slice (Gp u71) u72 u73] 1 0) :: (u71, .row 9 u74 (u73 * kStr.size) 0) :: (some u7f, .row 65 [.map (some u7g)] 1 0) :: (none, .seg 65 u2) :: Lr) ∧ Els kStr S' w' u74 r ∧ r.length = u72

def L.z1f (lx0 : Nat) (rx0 : Nat) (u1b : Nat → Value) (u7e : Nat) (u7f : Nat) (u7g : Nat) (u2 : List (Nat × Obj)) : Nat × (List (ByteArray × (List Int))) × (List ByteArray) × Nat × (List (List (ByteArray × (List Int)))) → (List ByteArray) → Prop := fun ⟨x5i, x5, u7i, u7h, u1⟩ r => ∀ S1 w1, Ext S0 w0 S1 w1 → ∀ gx5 u7j u7k u7l u7m u71 u72 u73 u74 (_ : Hp nz wz S1 w1 ((some gx5, .obj (.mapIter (some u7j) u7l u7m u7l)) :: (some lx0, .obj (lpst 69 (lfr 13 [(2, (pt u7e 0)), (6, .func (.func 67) #[] #[(pt u7f 0)])] u1b) #[7] (rfAssign (Q5g)) (rfBody (Q5g)) rx0 .ready none)) :: (some u7e, .row 57 [.slice (Gp u71) u72 u73] 1 0) :: (u71, .row 9 u74 (u73 * kStr.size) 0) :: (some u7f, .row 65 [.map (some u7g)] 1 0) :: (none, .seg 65 u2) :: Lr)) (_ : It Value.string (kSl (kInt .u64)) S1 w1 u7k u7l u7m x5) (_ : Els kStr S1 w1 u74 u7i) (_ : u7i.length = u72) (_ : Pa 65 S1 u7h u7g) (_ : Pl (oMap Value.string (kSl (kInt .u64))) S1 w1 u2 u1) (_ : u2[x5i]? = some (u7j, .map u7k u7l)) (junk : Nat → Value),
 Goes Try.prog (base 67) J71 ⟨lfr 14 [(0, yieldV lx0), (5, (pt gx5 0))] junk, []⟩ w1 (Done Try.prog 67 (Rets (PermP (Post.z1e nz wz S0 w0 Lr lx0 rx0 u1b u7e u7f u7g u2 u7h u1) r)))

theorem W.z1f {nz wz S0 w0 Lr} (lx0 : Nat) (rx0 : Nat) (u1b : Nat → Value) (u7e : Nat) (u7f : Nat) (u7g : Nat) (u2 : List (Nat × Obj)) : ∀ a r, M.maps_Keys_map_string_uint64_string_uint64_1_2_l0 a = some r → L.z1f nz wz S0 w0 Lr lx0 rx0 u1b u7e u7f u7g u2 a r := by
 have main : ∀ n a r, List.length a.2.1 = n → M.maps_Keys_map_string_uint64_string_uint64_1_2_l0 a = some r → L.z1f nz wz S0 w0 Lr lx0 rx0 u1b u7e u7f u7g u2 a r := by
  intro n
  induction n using Nat.strongRecOn with
  | _ n ih0 =>
  have u7n : ∀ a r, List.length a.2.1 < n → M.maps_Keys_map_string_uint64_string_uint64_1_2_l0 a = some r → L.z1f nz wz S0 w0 Lr lx0 rx0 u1b u7e u7f u7g u2 a r := fun a r hl h => ih0 _ hl a r rfl h
  intro ⟨x5i, x5, u7i, u7h, u1⟩ r hn h S1 w1 hx gx5 u7j u7k u7l u7m u71 u72 u73 u74 p1 fx5 u7o u7p u7q fs4 hx5 junk
  try dsimp only at hn
  subst u7p
  refine Goes.rn 2 [] J73 ?_
  skip
  refine Op_.nxM (.tmp 5) 6 0 0 gx5 p1 rfl (p1.poolGet 5 rfl hx5) fx5 Goes.v (by kernel_rfl) ?_ ?_
  ·
   intro e23; subst e23; rw [M.maps_Keys_map_string_uint64_string_uint64_1_2_l0] at h; try dsimp only at h
   refine Goes.rn 5 [(7, .bool false)] [] ?_
   obtain rfl := Option.some.inj h
   have p1 := p1.dp 0
   exact Goes.end_ (fn := Try.f67) (by kernel_rfl) (v := .tuple #[]) (by kernel_rfl) ⟨_, List.Perm.refl _, ⟨S1, u71, u7i.length, u73, u74, rfl, hx, p1, u7o, rfl⟩⟩
  ·
   intro j15 l16 v17 b18 w3 z3 p3 f19 m20 f21
   obtain ⟨rn, hn2, qn⟩ := O.maps_Keys_map_string_uint64_string_uint64_1_2_l0 x5i u7i u7h u1 _ _ r (pick_perm x5 j15 l16) h; refine Goes.monoP qn ?_; clear h; have h := hn2; clear hn2; rw [M.maps_Keys_map_string_uint64_string_uint64_1_2_l0] at h; try dsimp only at h
   have l22 : (List.eraseIdx x5 j15).length < x5.length := by rw [List.length_eraseIdx_of_lt l16]; omega
   generalize List.eraseIdx x5 j15 = u7r at h f19 l22
   generalize x5[j15]'l16 = u7s at h m20 f21
   obtain ⟨A24, c25, rfl, f26⟩ := one_sl f21
   have p3 : Hp nz wz S1 w3 ((some gx5, .obj (.mapIter (some u7j) u7l (u7m.push b18) u7l)) :: (some lx0, .obj (lpst 69 (lfr 13 [(2, (pt u7e 0)), (6, .func (.func 67) #[] #[(pt u7f 0)])] u1b) #[7] (rfAssign (Q5g)) (rfBody (Q5g)) rx0 .ready none)) :: (some u7e, .row 57 [.slice (Gp u71) u7i.length u73] 1 0) :: (u71, .row 9 u74 (u73 * kStr.size) 0) :: (some u7f, .row 65 [.map (some u7g)] 1 0) :: (none, .seg 65 u2) :: Lr) := p3
   refine Goes.rn 8 [(7, .bool true)] J76 ?_
   refine Op_.enM (.tmp 5) 8 0 0 gx5 p3 rfl (p3.poolGet 5 rfl hx5) f19.nd m20 Goes.v (by kernel_rfl) ?_
   refine Goes.rn 7 [(9, .string u7s.1), (3, .string u7s.1), (10, yieldV lx0), (11, .string u7s.1)] J78 ?_
   have p3 := ((((p3.fr 5).fr 5).fr 5).fr 5).fr 5
   refine bind_some' h fun y27 e28 h => ?_
   refine Goes.yieldAt (.call { callee := .value (.tmp 10), args := #[(.tmp 11)], argTypes := #[9] }) 12 4 0 lx0 #[.string u7s.1] p3 rfl (by kernel_rfl) rfl (fun _ => by kernel_rfl) rfl (W.z1d u7i u7h u7s.1 u1 y27 e28 lx0 rx0 u1b u7e u71 u7i.length u73 u74 u7f u7g u2 p3 (u7o.ext z3) rfl (u7q.ext z3) (fs4.ext z3)) ?_
   rintro _ w4 ⟨S4, u7t, u7u, u7v, u7w, rfl, z4, p4, u7x, rfl⟩
   refine Goes.rn 6 [(13, .bool (!true))] J71 ?_
   have p4 := (((((p4.fr 4).fr 4).fr 4).fr 4).fr 4).fr 5
   exact Goes.jp 14 [(0, yieldV lx0), (5, (pt gx5 0))] (u7n _ _ (Nat.lt_of_lt_of_eq l22 hn) h _ _ ((hx.trans z3).trans z4) gx5 u7j u7k u7l (u7m.push b18) u7t y27.length u7v u7w p4 (f19.ext z4) u7x rfl (u7q.ext (z3.trans z4)) (fs4.ext (z3.trans z4)) hx5)
 exact fun a r h => main _ a r rfl h

def Q5p := sub [1] B67
def J79 : List Item := [.code Q5p]
def Q5q := sub [0] B67
def J7a : List Item := .inRegion (opsOf Q5q) [0, 1] :: J79

theorem W.z1e (u7y : List ByteArray) (u7h : Nat) (u1 : List (List (ByteArray × (List Int)))) (r : List ByteArray) (h : M.maps_Keys_map_string_uint64_string_uint64_1_2 u7y u7h u1 = some r) {nz wz S0 w0 Lr} (lx0 rx0 u1b u7e u7z u80 u81 u82 u7f u7g u2) (p0 : Hp nz wz S0 w0 ((some lx0, .obj (lpst 69 (lfr 13 [(2, (pt u7e 0)), (6, .func (.func 67) #[] #[(pt u7f 0)])] u1b) #[7] (rfAssign (Q5g)) (rfBody (Q5g)) rx0 .ready none)) :: (some u7e, .row 57 [.slice (Gp u7z) u80 u81] 1 0) :: (u7z, .row 9 u82 (u81 * kStr.size) 0) :: (some u7f, .row 65 [.map (some u7g)] 1 0) :: (none, .seg 65 u2) :: Lr)) (u83 : Els kStr S0 w0 u82 u7y) (u84 : u7y.length = u80) (u85 : Pa 65 S0 u7h u7g) (u3 : Pl (oMap Value.string (kSl (kInt .u64))) S0 w0 u2 u1) :
  Calls Try.prog 67 #[yieldV lx0, (pt u7f 0)] w0 (Rets (PermP (Post.z1e nz wz S0 w0 Lr lx0 rx0 u1b u7e u7f u7g u2 u7h u1) r)) := by
 subst u84
 refine calls_of_goes (fn := Try.f67) (c := B67) (by kernel_rfl) (by kernel_rfl) 12 (by kernel_rfl) ?_
 refine Goes.jp 14 [(0, yieldV lx0), (1, (pt u7f 0))] (fun junk => ?_)
 delta M.maps_Keys_map_string_uint64_string_uint64_1_2 at h
 refine Goes.rn 2 [] J7a ?_
 refine Goes.ld 65 (.tmp 1) 4 65 ⟨u7f, 0, none⟩ (.map (some u7g)) (p0.c 3 0) ?_
 refine Op_.rgM 65 (.tmp 4) 5 0 9 22 4 p0 rfl u3 u85 Goes.v (by kernel_rfl) (by kernel_rfl) ?_
 intro r5 w2 es6 ck7 z2 p2 e9 f8
 have p2 : Hp nz wz S0 w2 ((some r5, .obj (.mapIter (some u7g) ck7 (#[]) ck7)) :: (some lx0, .obj (lpst 69 (lfr 13 [(2, (pt u7e 0)), (6, .func (.func 67) #[] #[(pt u7f 0)])] u1b) #[7] (rfAssign (Q5g)) (rfBody (Q5g)) rx0 .ready none)) :: (some u7e, .row 57 [.slice (Gp u7z) u7y.length u81] 1 0) :: (u7z, .row 9 u82 (u81 * kStr.size) 0) :: (some u7f, .row 65 [.map (some u7g)] 1 0) :: (none, .seg 65 u2) :: Lr) := p2
 refine Goes.rn 3 [] J71 ?_
 exact Goes.jp 14 [(0, yieldV lx0), (5, (pt r5 0))] (W.z1f lx0 rx0 u1b u7e u7f u7g u2 _ _ h _ _ ((Ext.refl S0 w0).trans z2) r5 u7g es6 ck7 (#[]) u7z u7y.length u81 u82 p2 f8 (u83.ext z2) rfl (u85.ext z2) (u3.ext z2) e9)

def Q5r := sub [1] B69
def J7b : List Item := [.code Q5r]
def Q5s := sub [0] B69
def J7c : List Item := .inRegion (opsOf Q5s) [0, 1] :: J7b
def Q5t := sub [1, 1] B69
def J7d : List Item := [.code Q5t]
def J7e : List Item := .inBlock 0 :: J7d
def J7f : List Item := .code Q5g :: J7e
def Q5u := sub [1, 1, 1] B69
def J7g : List Item := [.code Q5u]
def Q5v := sub [1, 1, 0] B69
def J7h : List Item := .inRegion (opsOf Q5v) [0, 1] :: J7g

def Post.z1g (u86 : Nat) (u87 : Nat) (u2 : List (Nat × Obj)) (u88 : Nat) (u1 : List (List (ByteArray × (List Int)))) (r : List ByteArray) (v : Value) (w' : World) : Prop :=
 ∃ S' Gq nq cq csq, v = .slice (Gp Gq) nq cq ∧ Ext S0 w0 S' w' ∧ Hp nz wz S' w' ((Gq, .row 9 csq (cq * kStr.size) 0) :: (some u86, .row 65 [.map (some u87)] 1 0) :: (none, .seg 65 u2) :: Lr) ∧ Els kStr S' w' csq r ∧ r.length = nq

theorem W.z1g (u88 : Nat) (u1 : List (List (ByteArray × (List Int)))) (r : List ByteArray) (h : M.slices_AppendSeq_string_string_2 u88 u1 = some r) {nz wz S0 w0 Lr} (u86 u87 u2) (p0 : Hp nz wz S0 w0 ((some u86, .row 65 [.map (some u87)] 1 0) :: (none, .seg 65 u2) :: Lr)) (u89 : Pa 65 S0 u88 u87) (u3 : Pl (oMap Value.string (kSl (kInt .u64))) S0 w0 u2 u1) :
  Calls Try.prog 69 #[.slice none 0 0, .func (.func 67) #[] #[(pt u86 0)]] w0 (Rets (PermP (Post.z1g nz wz S0 w0 Lr u86 u87 u2 u88 u1) r)) := by
 refine calls_of_goes (fn := Try.f69) (c := B69) (by kernel_rfl) (by kernel_rfl) 11 (by kernel_rfl) ?_
 refine Goes.jp 13 [(0, .slice none 0 0), (1, .func (.func 67) #[] #[(pt u86 0)])] (fun junk => ?_)
 delta M.slices_AppendSeq_string_string_2 at h
 refine Goes.rn 2 [] J7c ?_
 refine Op_.box 57 (.tmp 0) 2 0 (.slice none 0 0) [.slice none 0 0] p0 Goes.v (by kernel_rfl) (by kernel_rfl) ?_
 intro b2 w2 z2 p2
 refine Goes.rn 8 [(4, .slice none 0 0), (6, .func (.func 67) #[] #[(pt u86 0)])] J7f ?_
 refine Goes.jp 13 [(2, (pt b2 0)), (6, .func (.func 67) #[] #[(pt u86 0)])] (fun u8a => ?_)
 refine Goes.rangeF (f := 69) (.tmp 6) #[7] 67 #[] #[(pt u86 0)] (by kernel_rfl) (by kernel_rfl) (fun _ => by kernel_rfl) p2 ?_
 intro r5 l6 w3 z3 p3
 have p3 : Hp nz wz S0 w3 ((none, .row 9 [] (0 * kStr.size) 0) :: (some l6, .obj (lpst 69 (lfr 13 [(2, (pt b2 0)), (6, .func (.func 67) #[] #[(pt u86 0)])] u8a) #[7] (rfAssign (Q5g)) (rfBody (Q5g)) r5 .ready none)) :: (some r5, .obj (.deferred (some []))) :: (some b2, .row 57 [.slice none 0 0] 1 0) :: (some u86, .row 65 [.map (some u87)] 1 0) :: (none, .seg 65 u2) :: Lr) := p3.nilRow' 9
 have p3 := ((((p3.fr 5).fr 5).fr 2).fr 5).fr 4
 refine bind_some' h fun y10 e11 h => ?_
 refine ⟨_, W.z1e ([] : List ByteArray) u88 u1 y10 e11 l6 r5 u8a b2 none 0 0 [] u86 u87 u2 p3 (Els.nil (K := kStr)) rfl (u89.ext (z2.trans z3)) (u3.ext (z2.trans z3)), ?_⟩
 rintro _ w4 ⟨u8b, u8c, S4, u7t, u7u, u7v, u7w, rfl, z4, p4, u7x, rfl⟩
 refine Goes.endF 0 p4 rfl rfl ?_
 intro w5 z5 p5
 replace p5 : Hp nz wz S4 w5 ((some b2, .row 57 [.slice (Gp u7t) u8b.length u7v] 1 0) :: (u7t, .row 9 u7w (u7v * kStr.size) 0) :: (some u86, .row 65 [.map (some u87)] 1 0) :: (none, .seg 65 u2) :: (some r5, .obj (.deferred (some []))) :: Lr) := (p5.front 0 _ rfl).drop
 show Goes _ _ J7e _ _ _
 refine Goes.rn 3 [] J7h ?_
 refine Goes.ld 57 (.tmp 2) 12 57 ⟨b2, 0, none⟩ (.slice (Gp u7t) u8b.length u7v) (p5.c 0 0) ?_
 refine Goes.rn 2 [(4, .slice (Gp u7t) u8b.length u7v)] J7g ?_
 obtain rfl := Option.some.inj h
 have p5 := p5.dp 0
 have p5 := (((p5.fr 2).fr 2).fr 2).fr 3
 refine Goes.retL ?_
 refine lvs_mark 0 rfl rfl p5 rfl ?_
 intro w6 z6 p6
 replace p6 : Hp nz wz S4 w6 ((u7t, .row 9 u7w (u7v * kStr.size) 0) :: (some u86, .row 65 [.map (some u87)] 1 0) :: (none, .seg 65 u2) :: Lr) := p6.drop
 exact lvs_done (fn := Try.f69) rfl rfl rfl rfl (by kernel_rfl) (v := .slice (Gp u7t) u8b.length u7v) (by kernel_rfl) ⟨_, u8c, ⟨S4, u7t, u8b.length, u7v, u7w, rfl, ((((((Ext.refl S0 w0).trans z2).trans z3).trans z4).trans z5).trans z6), p6, (u7x.ext (z5.trans z6)), rfl⟩⟩

def Q5w := sub [1, 1] B65
def J7i : List Item := [.code Q5w]
def Q5x := sub [1, 0] B65
def J7j : List Item := .inRegion (opsOf Q5x) [1, 2] :: J7i

def Post.z1h (u8d : Nat) (u8e : Nat) (u2 : List (Nat × Obj)) (u8f : Nat) (u1 : List (List (ByteArray × (List Int)))) (r : List ByteArray) (v : Value) (w' : World) : Prop :=
 ∃ S' Gq nq cq csq, v = .slice (Gp Gq) nq cq ∧ Ext S0 w0 S' w' ∧ Hp nz wz S' w' ((Gq, .row 9 csq (cq * kStr.size) 0) :: (some u8d, .row 65 [.map (some u8e)] 1 0) :: (none, .seg 65 u2) :: Lr) ∧ Els kStr S' w' csq r ∧ r.length = nq

theorem W.z1h (u8f : Nat) (u1 : List (List (ByteArray × (List Int)))) (r : List ByteArray) (h : M.slices_Collect_string u8f u1 = some r) {nz wz S0 w0 Lr} (u8d u8e u2) (p0 : Hp nz wz S0 w0 ((some u8d, .row 65 [.map (some u8e)] 1 0) :: (none, .seg 65 u2) :: Lr)) (u8g : Pa 65 S0 u8f u8e) (u3 : Pl (oMap Value.string (kSl (kInt .u64))) S0 w0 u2 u1) :
  Calls Try.prog 65 #[.func (.func 67) #[] #[(pt u8d 0)]] w0 (Rets (PermP (Post.z1h nz wz S0 w0 Lr u8d u8e u2 u8f u1) r)) := by
 refine calls_of_goes (fn := Try.f65) (c := B65) (by kernel_rfl) (by kernel_rfl) 4 (by kernel_rfl) ?_
 refine Goes.jp 5 [(0, .func (.func 67) #[] #[(pt u8d 0)])] (fun junk => ?_)
 delta M.slices_Collect_string at h
 refine Goes.rn 7 [(2, .slice none 0 0), (3, .func (.func 67) #[] #[(pt u8d 0)])] J7j ?_
 refine bind_some' h fun y2 e3 h => ?_
 refine Goes.cal (.call { callee := .value (.func 69), args := #[(.const (.slice none 0 0)), (.tmp 3)], argTypes := #[57, 85] }) 4 57 69 _ (W.z1g u8f u1 y2 e3 u8d u8e u2 p0 u8g u3) ?_
 rintro _ w2 ⟨y2n, qy2, S2, u6f, u6g, u6h, u6i, rfl, z2, p2, u6j, rfl⟩
 refine Goes.rn 2 [(2, .slice (Gp u6f) y2n.length u6h)] J7i ?_
 obtain rfl := Option.some.inj h
 exact Goes.rt Try.f65 (.slice (Gp u6f) y2n.length u6h) ⟨_, qy2, ⟨S2, u6f, y2n.length, u6h, u6i, rfl, ((Ext.refl S0 w0).trans z2), p2, u6j, rfl⟩⟩

def Q5y := sub [1, 1] B61
def J7k : List Item := [.code Q5y]
def Q5z := sub [1, 0] B61
def J7l : List Item := .inRegion (opsOf Q5z) [1, 2] :: J7k
def Q60 := sub [1, 1, 1] B61
def J7m : List Item := [.code Q60]
def Q61 := sub [1, 1, 0] B61
def J7n : List Item := .inRegion (opsOf Q61) [1] :: J7m
def Q62 := sub [1, 1, 1, 1] B61
def J7o : List Item := [.code Q62]

def Post.z1i (u8d : Nat) (u8e : Nat) (u2 : List (Nat × Obj)) (u8f : Nat) (u1 : List (List (ByteArray × (List Int)))) (r : List ByteArray) (v : Value) (w' : World) : Prop :=
 ∃ S' Gq nq cq csq, v = .slice (Gp Gq) nq cq ∧ Ext S0 w0 S' w' ∧ Hp nz wz S' w' ((Gq, .row 9 csq (cq * kStr.size) 0) :: (some u8d, .row 65 [.map (some u8e)] 1 0) :: (none, .seg 65 u2) :: Lr) ∧ Els kStr S' w' csq r ∧ r.length = nq

theorem W.z1i (u8f : Nat) (u1 : List (List (ByteArray × (List Int)))) (r : List ByteArray) (h : M.slices_Sorted_string u8f u1 = some r) {nz wz S0 w0 Lr} (u8d u8e u2) (p0 : Hp nz wz S0 w0 ((some u8d, .row 65 [.map (some u8e)] 1 0) :: (none, .seg 65 u2) :: Lr)) (u8g : Pa 65 S0 u8f u8e) (u3 : Pl (oMap Value.string (kSl (kInt .u64))) S0 w0 u2 u1) :
  Calls Try.prog 61 #[.func (.func 67) #[] #[(pt u8d 0)]] w0 (Rets (Post.z1i nz wz S0 w0 Lr u8d u8e u2 u8f u1 r)) := by
 refine calls_of_goes (fn := Try.f61) (c := B61) (by kernel_rfl) (by kernel_rfl) 8 (by kernel_rfl) ?_
 refine Goes.jp 9 [(0, .func (.func 67) #[] #[(pt u8d 0)])] (fun junk => ?_)
 delta M.slices_Sorted_string at h
 refine Goes.rn 7 [(2, .slice none 0 0), (4, .func (.func 67) #[] #[(pt u8d 0)])] J7l ?_
 refine bind_some' h fun y2 e3 h => ?_
 refine Goes.cal (kc 65 [4] #[85]) 5 57 65 _ (W.z1h u8f u1 y2 e3 u8d u8e u2 p0 u8g u3) ?_
 rintro _ w2 ⟨y2n, qy2, S2, u6f, u6g, u6h, u6i, rfl, z2, p2, u6j, rfl⟩
 refine Goes.rn 5 [(3, .slice (Gp u6f) y2n.length u6h), (6, .slice (Gp u6f) y2n.length u6h)] J7n ?_
 refine guard_some' h fun g5 h => ?_
 have e8 := srtS_perm qy2
 refine Goes.cal (kc 66 [6] #[57]) 7 0 66 _ (sortS_calls Try.sortS p2 u6j rfl (by rw [qy2.length_eq]; exact g5)) ?_
 rintro _ w3 ⟨rfl, z3, cs6, p3, f7⟩
 rw [e8] at f7
 refine Goes.rn 6 [(8, .slice (Gp u6f) y2n.length u6h), (2, .slice (Gp u6f) y2n.length u6h)] J7o ?_
 obtain rfl := Option.some.inj h
 exact Goes.rt Try.f61 (.slice (Gp u6f) y2n.length u6h) ⟨S2, u6f, y2n.length, u6h, cs6, rfl, (((Ext.refl S0 w0).trans z2).trans z3), p3, f7, ((srtS_len rfl).trans ((List.Perm.length_eq qy2).symm.trans rfl))⟩

def Q63 := sub [1, 1] B56
def J7p : List Item := [.code Q63]
def Q64 := sub [1, 0] B56
def J7q : List Item := .inRegion (opsOf Q64) [3, 4, 5, 6] :: J7p

def Post.z1j (gx0 : Nat) (u4 : Nat) (u2 : List (Nat × Obj)) (u5 : Nat) (u1 : List (List (ByteArray × (List Int)))) (r : List ByteArray) (v : Value) (w' : World) : Prop :=
 ∃ S' Gq nq cq csq, v = .slice (Gp Gq) nq cq ∧ Ext S0 w0 S' w' ∧ Hp nz wz S' w' ((Gq, .row 9 csq (cq * kStr.size) 0) :: (some gx0, .row 69 [.map (some u4)] 1 0) :: (none, .seg 65 u2) :: Lr) ∧ Els kStr S' w' csq r ∧ r.length = nq

theorem W.z1j (u5 : Nat) (u1 : List (List (ByteArray × (List Int)))) (r : List ByteArray) (h : M.post_lists_string_uint64_keys u5 u1 = some r) {nz wz S0 w0 Lr} (gx0 u4 u2) (p0 : Hp nz wz S0 w0 ((some gx0, .row 69 [.map (some u4)] 1 0) :: (none, .seg 65 u2) :: Lr)) (u6 : Pa 65 S0 u5 u4) (u3 : Pl (oMap Value.string (kSl (kInt .u64))) S0 w0 u2 u1) :
  Calls Try.prog 56 #[(pt gx0 0)] w0 (Rets (Post.z1j nz wz S0 w0 Lr gx0 u4 u2 u5 u1 r)) := by
 refine calls_of_goes (fn := Try.f56) (c := B56) (by kernel_rfl) (by kernel_rfl) 8 (by kernel_rfl) ?_
 refine Goes.jp 9 [(0, (pt gx0 0))] (fun junk => ?_)
 delta M.post_lists_string_uint64_keys at h
 refine Goes.rn 9 [(2, .slice none 0 0), (3, (pt gx0 0)), (4, (pt gx0 0)), (5, (pt gx0 0))] J7q ?_
 refine Goes.ld 65 (.tmp 5) 6 65 ⟨gx0, 0, none⟩ (.map (some u4)) (p0.c 0 0) ?_
 have p0 := p0.fr 1
 refine bind_some' h fun y2 e3 h => ?_
 refine Goes.cal (kc 62 [6] #[65]) 7 85 62 _ (W.z1c u5 u1 y2 e3 u4 u2 p0 u6 u3) ?_
 rintro _ w2 ⟨S2, u8h, u8i, rfl, z2, p2, u8j⟩
 refine bind_some' h fun y5 e6 h => ?_
 refine Goes.cal (kc 61 [7] #[85]) 8 57 61 _ (W.z1i y2 u1 y5 e6 u8h u8i u2 p2 u8j (u3.ext z2)) ?_
 rintro _ w3 ⟨S3, u4e, u4f, u4g, u4h, rfl, z3, p3, u4i, rfl⟩
 have p3 := p3.dp 1
 refine Goes.rn 2 [(2, .slice (Gp u4e) y5.length u4g)] J7p ?_
 obtain rfl := Option.some.inj h
 have p3 := ((p3.fr 1).fr 2).fr 2
 exact Goes.rt Try.f56 (.slice (Gp u4e) y5.length u4g) ⟨S3, u4e, y5.length, u4g, u4h, rfl, (((Ext.refl S0 w0).trans z2).trans z3), p3, u4i, rfl⟩

def Q65 := sub [1, 1] B39
def J7r : List Item := [.code Q65]
def Q66 := sub [1, 0, 1] B39
def J7s : List Item := .code Q66 :: J7r
def Q67 := sub [1, 0, 0] B39
def J7t : List Item := .inRegion (opsOf Q67) [1, 2] :: J7s
def Q68 := sub [1, 1, 1] B39
def J7u : List Item := [.code Q68]
def Q69 := sub [1, 1, 0] B39
def J7v : List Item := .inRegion (opsOf Q69) [3, 4] :: J7u

def Post.z1k (gx0 : Nat) (u4 : Nat) (u2 : List (Nat × Obj)) (u5 : Nat) (u1 : List (List (ByteArray × (List Int)))) (r : List ByteArray) (v : Value) (w' : World) : Prop :=
 ∃ S' Gq nq cq csq, v = .slice (Gp Gq) nq cq ∧ Ext S0 w0 S' w' ∧ Hp nz wz S' w' ((Gq, .row 9 csq (cq * kStr.size) 0) :: (some gx0, .row 69 [.map (some u4)] 1 0) :: (none, .seg 65 u2) :: Lr) ∧ Els kStr S' w' csq r ∧ r.length = nq

theorem W.z1k (u5 : Nat) (u1 : List (List (ByteArray × (List Int)))) (r : List ByteArray) (h : M.post_Index_Keys u5 u1 = some r) {nz wz S0 w0 Lr} (gx0 u4 u2) (p0 : Hp nz wz S0 w0 ((some gx0, .row 69 [.map (some u4)] 1 0) :: (none, .seg 65 u2) :: Lr)) (u6 : Pa 65 S0 u5 u4) (u3 : Pl (oMap Value.string (kSl (kInt .u64))) S0 w0 u2 u1) :
  Calls Try.prog 39 #[(pt gx0 0)] w0 (Rets (Post.z1k nz wz S0 w0 Lr gx0 u4 u2 u5 u1 r)) := by
 refine calls_of_goes (fn := Try.f39) (c := B39) (by kernel_rfl) (by kernel_rfl) 9 (by kernel_rfl) ?_
 refine Goes.jp 10 [(0, (pt gx0 0))] (fun junk => ?_)
 delta M.post_Index_Keys at h
 refine Goes.rn 8 [(2, .slice none 0 0), (3, (pt gx0 0))] J7t ?_
 refine bind_some' h fun y2 e3 h => ?_
 refine Goes.cal (kc 52 [3] #[47]) 4 4 52 _ (W.z2 u5 y2 e3 gx0 u4 p0 u6) ?_
 rintro _ w2 ⟨S2, rfl, z2, p2⟩
 refine Goes.rn 9 [(5, .bool (!true)), (6, (pt gx0 0)), (7, (pt gx0 0)), (8, (pt gx0 0))] J7v ?_
 refine bind_some' h fun y4 e5 h => ?_
 refine Goes.cal (kc 56 [8] #[67]) 9 57 56 _ (W.z1j u5 u1 y4 e5 gx0 u4 u2 p2 (u6.ext z2) (u3.ext z2)) ?_
 rintro _ w3 ⟨S3, u4e, u4f, u4g, u4h, rfl, z3, p3, u4i, rfl⟩
 refine Goes.rn 2 [(2, .slice (Gp u4e) y4.length u4g)] J7u ?_
 obtain rfl := Option.some.inj h
 exact Goes.rt Try.f39 (.slice (Gp u4e) y4.length u4g) ⟨S3, u4e, y4.length, u4g, u4h, rfl, (((Ext.refl S0 w0).trans z2).trans z3), p3, u4i, rfl⟩

def Q6a := sub [1, 1, 1] B38
def J7w : List Item := [.code Q6a]
def J7x : List Item := .inBlock 0 :: J7w
def Q6b := sub [1, 1, 0, 1, 0, 0] B38
def J7y : List Item := .inLoop Q6b :: J7x
def J7z : List Item := .code Q6b :: J7y
def Q6c := sub [1, 1, 0, 1, 0, 0, 1] B38
def J80 : List Item := .code Q6c :: J7y
def Q6d := sub [1, 1, 0, 1, 0, 0, 0, 1] B38
def J81 : List Item := .code Q6d :: J80
def Q6e := sub [1, 1, 0, 1, 0, 0, 1, 1] B38
def J82 : List Item := .code Q6e :: J7y
def J83 : List Item := .inBlock 1 :: J82
def Q6f := sub [1, 1, 0, 1, 0, 0, 1, 0, 0, 1] B38
def J84 : List Item := .code Q6f :: J83
def Q6g := sub [1, 1, 0, 1, 0, 0, 1, 0, 0, 0] B38
def J85 : List Item := .code Q6g :: J84
def Q6h := sub [1, 1, 0, 1, 0, 0, 1, 0, 0, 1, 0, 1] B38
def J86 : List Item := .code Q6h :: J83
def Q6i := sub [1, 1, 1, 1] B38
def J87 : List Item := [.code Q6i]

def Post.z1l (r : Bool) (v : Value) (w' : World) : Prop :=
 ∃ S', v = .bool r ∧ Ext S0 w0 S' w' ∧ Hp nz wz S' w' (Lr)

def L.z1m : (List ByteArray) × (List ByteArray) × Int → Bool → Prop := fun ⟨x0, x1, x5⟩ r => ∀ S1 w1, Ext S0 w0 S1 w1 → ∀ Ax0 nx0 cx0 Ax1 nx1 cx1 (_ : Hp nz wz S1 w1 (Lr)) (_ : Rd kStr S1 w1 Ax0 cx0 x0) (_ : x0.length = nx0) (_ : Rd kStr S1 w1 Ax1 cx1 x1) (_ : x1.length = nx1) (junk : Nat → Value),
 Goes Try.prog (base 38) J7z ⟨lfr 26 [(0, .slice Ax0 nx0 cx0), (1, .slice Ax1 nx1 cx1), (5, .i x5)] junk, []⟩ w1 (Done Try.prog 38 (Rets (Post.z1l nz wz S0 w0 Lr r)))

theorem W.z1m {nz wz S0 w0 Lr} : ∀ a r, M.tidepolebase_SameTexts_l0 a = some r → (L.z1m nz wz S0 w0 Lr) a r := by
 refine M.tidepolebase_SameTexts_l0.partial_correctness (motive := (L.z1m nz wz S0 w0 Lr)) ?_
 intro u8k u8l ⟨x0, x1, x5⟩ r h S1 w1 hx Ax0 nx0 cx0 Ax1 nx1 cx1 p1 fx0 lx0 fx1 lx1 junk
 try dsimp only at h
 subst lx0
 subst lx1
 refine Goes.rn 8 [(11, .i x5), (12, .slice Ax0 x0.length cx0), (13, .i (x0.length : Int)), (14, .bool (decide (x5 < (x0.length : Int))))] J81 ?_
 refine ite_some h (fun h2 h => ?_) (fun h2 h => ?_)
 ·
  rw [decide_eq_true h2]
  refine Goes.rn 5 [] J85 ?_
  have z2 : Ext S1 w1 S1 (w1).drew := Ext.draw
  have p2 := p1.draw
  refine Goes.drawn (s := []) (F := Fc S1 (w1).drew []) 6 9 (by kernel_rfl) (by kernel_rfl) (by kernel_rfl) (by kernel_rfl) ?_
  generalize (w1).drew = w2 at z2 p2 ⊢
  refine AnyG.pu 0 (.move (.tmp 0)) 17 57 (.slice Ax0 x0.length cx0) (Fc.here trivial) ?_
  refine AnyG.pu 1 (.move (.tmp 5)) 18 3 (.i x5) (Fc.here trivial) ?_
  refine guard_some' h fun g3 h => ?_
  refine AnyG.ixR_n (i := 2) 57 (.tmp 17) (.tmp 18) 19 0 9 .i64 x5 (gi x0 x5) rfl rfl (fx0.ext z2) (by kernel_rfl) (by kernel_rfl) (Fc.here trivial) (by kernel_rfl) (by kernel_rfl) (by kernel_rfl) (by kernel_rfl) g3 h2 ?_
  intro a4 _ f5 q6
  obtain rfl := q6
  refine AnyG.ld1 (i := 3) 9 (.tmp 19) 20 9 a4 (.string (gi x0 x5)) (by kernel_rfl) (by kernel_rfl) (Fc.here trivial) (by kernel_rfl) (by kernel_rfl) (fun _ h => f5.fc h 0 _ rfl) ?_
  refine AnyG.pu 4 (.move (.tmp 1)) 21 57 (.slice Ax1 x1.length cx1) (Fc.here trivial) ?_
  refine AnyG.pu 5 (.move (.tmp 5)) 22 3 (.i x5) (Fc.here trivial) ?_
  refine guard_some' h fun g7 h => ?_
  refine AnyG.ixR_n (i := 6) 57 (.tmp 21) (.tmp 22) 23 0 9 .i64 x5 (gi x1 x5) rfl rfl (fx1.ext z2) (by kernel_rfl) (by kernel_rfl) (Fc.here trivial) (by kernel_rfl) (by kernel_rfl) (by kernel_rfl) (by kernel_rfl) g3 g7 ?_
  intro a8 _ f9 q10
  obtain rfl := q10
  refine AnyG.ld1 (i := 7) 9 (.tmp 23) 24 9 a8 (.string (gi x1 x5)) (by kernel_rfl) (by kernel_rfl) (Fc.here trivial) (by kernel_rfl) (by kernel_rfl) (fun _ h => f9.fc h 0 _ rfl) ?_
  refine AnyG.pu 8 (.binOp .neq 9 (.tmp 20) (.tmp 24) 9) 25 4 (.bool (!((gi x0 x5).toList == (gi x1 x5).toList))) (Fc.here trivial) ?_
  refine AnyG.done (by kernel_rfl) ?_ _
  refine ite_some h (fun h11 h => ?_) (fun h11 h => ?_)
  ·
   rw [h11]
   refine Goes.rn 9 [(15, .i x5), (16, .i (wr .i64 (x5 + 1))), (5, .i (wr .i64 (x5 + 1)))] J7z ?_
   exact Goes.jp 26 [(0, .slice Ax0 x0.length cx0), (1, .slice Ax1 x1.length cx1), (5, .i (wr .i64 (x5 + 1)))] (u8l _ _ h _ _ (hx.trans z2) Ax0 x0.length cx0 Ax1 x1.length cx1 p2 (fx0.ext z2) rfl (fx1.ext z2) rfl)
  ·
   have u8m : ((gi x0 x5).toList == (gi x1 x5).toList) = false := by simpa using h11
   rw [u8m]
   refine Goes.rn 5 [(4, .bool false)] J86 ?_
   obtain rfl := Option.some.inj h
   exact Goes.rt Try.f38 (.bool false) ⟨S1, rfl, (hx.trans z2), p2⟩
 ·
  rw [decide_eq_false h2]
  refine Goes.rn 6 [(4, .bool true)] J87 ?_
  obtain rfl := Option.some.inj h
  exact Goes.rt Try.f38 (.bool true) ⟨S1, rfl, hx, p1⟩

def Q6j := sub [1, 1] B38
def J88 : List Item := [.code Q6j]
def Q6k := sub [1, 0, 1] B38
def J89 : List Item := .code Q6k :: J88
def Q6l := sub [1, 0, 1, 0, 1] B38
def J8a : List Item := .code Q6l :: J88

theorem W.z1l (x0 : List ByteArray) (x1 : List ByteArray) (r : Bool) (h : M.tidepolebase_SameTexts x0 x1 = some r) {nz wz S0 w0 Lr} (Ax0 nx0 cx0 Ax1 nx1 cx1) (p0 : Hp nz wz S0 w0 (Lr)) (fx0 : Rd kStr S0 w0 Ax0 cx0 x0) (lx0 : x0.length = nx0) (fx1 : Rd kStr S0 w0 Ax1 cx1 x1) (lx1 : x1.length = nx1) :
  Calls Try.prog 38 #[.slice Ax0 nx0 cx0, .slice Ax1 nx1 cx1] w0 (Rets (Post.z1l nz wz S0 w0 Lr r)) := by
 subst lx0
 subst lx1
 refine calls_of_goes (fn := Try.f38) (c := B38) (by kernel_rfl) (by kernel_rfl) 24 (by kernel_rfl) ?_
 refine Goes.jp 26 [(0, .slice Ax0 x0.length cx0), (1, .slice Ax1 x1.length cx1)] (fun junk => ?_)
 delta M.tidepolebase_SameTexts at h
 refine Goes.rn 13 [(4, .bool false), (6, .slice Ax0 x0.length cx0), (7, .i (x0.length : Int)), (8, .slice Ax1 x1.length cx1), (9, .i (x1.length : Int)), (10, .bool (!(decide ((x0.length : Int) = (x1.length : Int)))))] J89 ?_
 refine ite_some h (fun h1 h => ?_) (fun h1 h => ?_)
 ·
  rw [decide_eq_true h1]
  refine Goes.rn 9 [(5, .i 0)] J7z ?_
  exact Goes.jp 26 [(0, .slice Ax0 x0.length cx0), (1, .slice Ax1 x1.length cx1), (5, .i 0)] (W.z1m _ _ h _ _ (Ext.refl S0 w0) Ax0 x0.length cx0 Ax1 x1.length cx1 p0 fx0 rfl fx1 rfl)
 ·
  rw [decide_eq_false h1]
  refine Goes.rn 5 [(4, .bool false)] J8a ?_
  obtain rfl := Option.some.inj h
  exact Goes.rt Try.f38 (.bool false) ⟨S0, rfl, (Ext.refl S0 w0), p0⟩

end

end Go.Gx
