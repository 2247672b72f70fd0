import Derived.Test.YtemokppdnkiejaaDoorMMk

import Derived.Test.YtemokppdnkiejaaDoorGZ

import Derived.Test.YtemokppdnkiejaaDoorGG

import Derived.Test.YtemokppdnkiejaaDoorHI

import Derived.Test.YtemokppdnkiejaaDoorProg

set_option linter.unusedVariables false

set_option maxRecDepth 100000

set_option maxHeartbeats 4000000

namespace Go.Gx

open Go.RowKit Go.Proofs

variable (nz : Nat) (wz : World) (S0 : Fz) (w0 : World) (Lr : List Ent)

noncomputable section

def kT27_f (K : Kd T27) : Kd T27 := kMap (fun s => (s.Kind, s.Set, s.L, s.Min, s.Max)) (kProd (kInt .i64) (kProd (kArr 4 (kInt .u64)) (kProd (kSl K) (kProd (kInt .i64) (kInt .i64)))))

theorem kT27_c : Kc kT27_f := Kc.map _ (Kc.prod (Kc.const _) (Kc.prod (Kc.const _) (Kc.prod (Kc.sl Kc.id) (Kc.prod (Kc.const _) (Kc.const _)))))

def kT27 : Kd T27 := kFix kT27_f 8 kT27_c (fun _ => rfl)

theorem kT27_open {S w vs x} (h : kT27.rep S w vs x) : (kT27_f kT27).rep S w vs x := kFix_open kT27_c _ h

theorem kT27_close {S w vs x} (h : (kT27_f kT27).rep S w vs x) : kT27.rep S w vs x := kFix_close kT27_c _ h

def kT48 : Kd T48 := kMap (fun s => (s.Op, s.Set, s.X, s.Y)) (kProd (kInt .i64) (kProd (kArr 4 (kInt .u64)) (kProd (kInt .i64) (kInt .i64))))

def kT77 : Kd T77 := kMap (fun s => s.l) (kSl kT48)

def kC98 (gw : Nat) : Kd (T27 ⊕ T27 ⊕ (Int × T27)) := (kSum (kFn 71 (kMap (fun (y : T27) => ((), y)) (kProd (kFixW gw) (kBox kT27)))) (kSum (kFn 85 (kMap (fun (y : T27) => ((), y)) (kProd (kFixW gw) (kBox kT27)))) (kFn 86 (kMap (fun (y : Int × T27) => ((), y.1, y.2)) (kProd (kFixW gw) (kProd (kBox (kInt .i64)) (kBox kT27))))) rfl) rfl)

def kT99 (gw : Nat) : Kd T99 := kMap (fun s => (s.n, s.code)) (kProd (kInt .i64) (kC98 gw))

def kT72 : Kd T72 := kMap (fun s => s.at_) (kInt .i64)

def kT68 : Kd T68 := kMap (fun s => (s.s, s.at_, s.deep, s.bad)) (kProd kStr (kProd (kInt .i64) (kProd (kInt .i64) (kPtr kT72))))

def kT126 : Kd T126 := kMap (fun s => (s.set_, s.b, s.single)) (kProd (kArr 4 (kInt .u64)) (kProd (kInt .u8) kBool))

class Gw (nz : Nat) (wz : World) : Prop where
 g2 : Tab nz wz 2 .u64 tb2

noncomputable def B4 : Code := (Tryd.f4.body).getD .skip

noncomputable def B11 : Code := (Tryd.f11.body).getD .skip

noncomputable def B14 : Code := (Tryd.f14.body).getD .skip

noncomputable def B15 : Code := (Tryd.f15.body).getD .skip

noncomputable def B16 : Code := (Tryd.f16.body).getD .skip

noncomputable def B17 : Code := (Tryd.f17.body).getD .skip

noncomputable def B18 : Code := (Tryd.f18.body).getD .skip

noncomputable def B19 : Code := (Tryd.f19.body).getD .skip

noncomputable def B20 : Code := (Tryd.f20.body).getD .skip

noncomputable def B21 : Code := (Tryd.f21.body).getD .skip

noncomputable def B23 : Code := (Tryd.f23.body).getD .skip

noncomputable def B27 : Code := (Tryd.f27.body).getD .skip

noncomputable def B28 : Code := (Tryd.f28.body).getD .skip

noncomputable def B30 : Code := (Tryd.f30.body).getD .skip

noncomputable def B31 : Code := (Tryd.f31.body).getD .skip

noncomputable def B32 : Code := (Tryd.f32.body).getD .skip

noncomputable def B34 : Code := (Tryd.f34.body).getD .skip

noncomputable def B35 : Code := (Tryd.f35.body).getD .skip

noncomputable def B36 : Code := (Tryd.f36.body).getD .skip

noncomputable def B37 : Code := (Tryd.f37.body).getD .skip

noncomputable def B38 : Code := (Tryd.f38.body).getD .skip

noncomputable def B39 : Code := (Tryd.f39.body).getD .skip

noncomputable def B40 : Code := (Tryd.f40.body).getD .skip

noncomputable def B41 : Code := (Tryd.f41.body).getD .skip

noncomputable def B44 : Code := (Tryd.f44.body).getD .skip

noncomputable def B45 : Code := (Tryd.f45.body).getD .skip

noncomputable def B46 : Code := (Tryd.f46.body).getD .skip

noncomputable def B47 : Code := (Tryd.f47.body).getD .skip

noncomputable def B48 : Code := (Tryd.f48.body).getD .skip

noncomputable def B49 : Code := (Tryd.f49.body).getD .skip

noncomputable def B50 : Code := (Tryd.f50.body).getD .skip

noncomputable def B53 : Code := (Tryd.f53.body).getD .skip

noncomputable def B54 : Code := (Tryd.f54.body).getD .skip

noncomputable def B55 : Code := (Tryd.f55.body).getD .skip

noncomputable def B56 : Code := (Tryd.f56.body).getD .skip

noncomputable def B57 : Code := (Tryd.f57.body).getD .skip

noncomputable def B58 : Code := (Tryd.f58.body).getD .skip

noncomputable def B59 : Code := (Tryd.f59.body).getD .skip

noncomputable def B61 : Code := (Tryd.f61.body).getD .skip

noncomputable def B62 : Code := (Tryd.f62.body).getD .skip

noncomputable def B63 : Code := (Tryd.f63.body).getD .skip

noncomputable def B65 : Code := (Tryd.f65.body).getD .skip

noncomputable def B66 : Code := (Tryd.f66.body).getD .skip

noncomputable def B67 : Code := (Tryd.f67.body).getD .skip

noncomputable def B68 : Code := (Tryd.f68.body).getD .skip

noncomputable def B71 : Code := (Tryd.f71.body).getD .skip

noncomputable def B72 : Code := (Tryd.f72.body).getD .skip

noncomputable def B73 : Code := (Tryd.f73.body).getD .skip

noncomputable def B76 : Code := (Tryd.f76.body).getD .skip

noncomputable def B78 : Code := (Tryd.f78.body).getD .skip

noncomputable def B79 : Code := (Tryd.f79.body).getD .skip

noncomputable def B80 : Code := (Tryd.f80.body).getD .skip

noncomputable def B85 : Code := (Tryd.f85.body).getD .skip

noncomputable def B86 : Code := (Tryd.f86.body).getD .skip

noncomputable def B89 : Code := (Tryd.f89.body).getD .skip

noncomputable def B90 : Code := (Tryd.f90.body).getD .skip

noncomputable def B91 : Code := (Tryd.f91.body).getD .skip

noncomputable def B92 : Code := (Tryd.f92.body).getD .skip

noncomputable def B93 : Code := (Tryd.f93.body).getD .skip

noncomputable def B94 : Code := (Tryd.f94.body).getD .skip

noncomputable def B95 : Code := (Tryd.f95.body).getD .skip

noncomputable def B101 : Code := (Tryd.f101.body).getD .skip

noncomputable def B102 : Code := (Tryd.f102.body).getD .skip

noncomputable def B103 : Code := (Tryd.f103.body).getD .skip

noncomputable def B104 : Code := (Tryd.f104.body).getD .skip

noncomputable def B105 : Code := (Tryd.f105.body).getD .skip

noncomputable def B106 : Code := (Tryd.f106.body).getD .skip

noncomputable def B111 : Code := (Tryd.f111.body).getD .skip

noncomputable def B112 : Code := (Tryd.f112.body).getD .skip

noncomputable def B113 : Code := (Tryd.f113.body).getD .skip

noncomputable def B114 : Code := (Tryd.f114.body).getD .skip

noncomputable def B120 : Code := (Tryd.f120.body).getD .skip

noncomputable def B121 : Code := (Tryd.f121.body).getD .skip

def Q0 := sub [1, 1, 1, 1, 1] B34
def J0 : List Item := [.code Q0]
def J1 : List Item := .inBlock 0 :: J0
def Q1 := sub [1, 1, 1, 1, 0, 1, 0, 0] B34
def J2 : List Item := .inLoop Q1 :: J1
def J3 : List Item := .code Q1 :: J2
def Q2 := sub [1, 1, 1, 1, 0, 1, 0, 0, 1] B34
def J4 : List Item := .code Q2 :: J2
def Q3 := sub [1, 1, 1, 1, 0, 1, 0, 0, 0, 1] B34
def J5 : List Item := .code Q3 :: J4
def Q4 := sub [1] B34
def J6 : List Item := [.code Q4]
def Q5 := sub [0] B34
def J7 : List Item := .inRegion (opsOf Q5) [0, 1] :: J6
def Q6 := sub [1, 1] B34
def J8 : List Item := [.code Q6]
def Q7 := sub [1, 0] B34
def J9 : List Item := .inRegion (opsOf Q7) [2, 3, 4, 5] :: J8
def Ja : List Item := .inRegion (opsOf Q7) [5] :: J8
def Q8 := sub [1, 1, 1] B34
def Jb : List Item := [.code Q8]
def Q9 := sub [1, 1, 0] B34
def Jc : List Item := .inRegion (opsOf Q9) [0, 1, 2] :: Jb
def Qa := sub [1, 1, 1, 1] B34
def Jd : List Item := [.code Qa]
def Qb := sub [1, 1, 1, 0] B34
def Je : List Item := .inRegion (opsOf Qb) [1] :: Jd
def Qc := sub [1, 1, 1, 1, 0, 1, 0, 0, 0, 0] B34
def Jf : List Item := .inRegion (opsOf Qc) [2, 3, 4, 5, 6, 7, 8, 9, 10, 11, 12, 13, 14] :: J5
def Jg : List Item := .inRegion (opsOf Qc) [6, 7, 8, 9, 10, 11, 12, 13, 14] :: J5
def Jh : List Item := .inRegion (opsOf Qc) [10, 11, 12, 13, 14] :: J5
def Ji : List Item := .inRegion (opsOf Qc) [12, 13, 14] :: J5
def Qd := sub [1, 1, 1, 1, 0, 1, 0, 0, 1, 1] B34
def Jj : List Item := .code Qd :: J2
def Jk : List Item := .inBlock 1 :: Jj
def Qe := sub [1, 1, 1, 1, 0, 1, 0, 0, 1, 0, 0] B34
def Jl : List Item := .code Qe :: Jk
def Qf := sub [1, 1, 1, 1, 1, 1] B34
def Jm : List Item := [.code Qf]
def Qg := sub [1, 1, 1, 1, 1, 0] B34
def Jn : List Item := .inRegion (opsOf Qg) [0, 1] :: Jm

def Post.z0 (gx2 : Nat) (r : T27 × Int) (v : Value) (w' : World) : Prop :=
 ∃ S' u0 u1 u2 u3, v = (ag (.i r.1.Kind :: U4 r.1.Set [.slice (Gp u0) u1 u2, .i r.1.Min, .i r.1.Max])) ∧ Ext S0 w0 S' w' ∧ Hp nz wz S' w' ((u0, .row 28 u3 (u2 * kT27.size) 0) :: (some gx2, .row 3 [.i r.2] 1 0) :: Lr) ∧ r.1.Set.length = 4 ∧ Els kT27 S' w' u3 r.1.L ∧ r.1.L.length = u1

def LF.z0 : T27 × Int × Int → (T27 × Int) → Prop := fun ⟨x0, x1, u4⟩ r => ∀ {nz wz S0 w0 Lr} [Gw nz wz] u5 u6 u7 gx2 (_ : Hp nz wz S0 w0 ((some gx2, .row 3 [.i u4] 1 0) :: Lr)) (_ : x0.Set.length = 4) (_ : Rd kT27 S0 w0 u5 u7 x0.L) (_ : x0.L.length = u6),
 Calls Tryd.prog 34 #[(ag (.i x0.Kind :: U4 x0.Set [.slice u5 u6 u7, .i x0.Min, .i x0.Max])), .i x1, (pt gx2 0)] w0 (Rets (Post.z0 nz wz S0 w0 Lr gx2 r))

def L.z1 (gx2 : Nat) : Int × T27 × T27 × T27 × Int × Int → (T27 × Int) → Prop := fun ⟨x1, x3v, x6v, x7v, x8, u8⟩ r => ∀ S1 w1, Ext S0 w0 S1 w1 → ∀ gx3 u9 ua ub gx6 uc ud ue uf gx7 ug uh ui uj (_ : Hp nz wz S1 w1 ((some gx3, .row 28 (.i x3v.Kind :: U4 x3v.Set [.slice u9 ua ub, .i x3v.Min, .i x3v.Max]) 8 0) :: (some gx6, .row 28 (.i x6v.Kind :: U4 x6v.Set [.slice (Gp uc) ud ue, .i x6v.Min, .i x6v.Max]) 8 0) :: (uc, .row 28 uf (ue * kT27.size) 0) :: (some gx7, .row 28 (.i x7v.Kind :: U4 x7v.Set [.slice (Gp ug) uh ui, .i x7v.Min, .i x7v.Max]) 8 0) :: (ug, .row 28 uj (ui * kT27.size) 0) :: (some gx2, .row 3 [.i u8] 1 0) :: Lr)) (_ : x3v.Set.length = 4) (_ : Rd kT27 S1 w1 u9 ub x3v.L) (_ : x3v.L.length = ua) (_ : x6v.Set.length = 4) (_ : Els kT27 S1 w1 uf x6v.L) (_ : x6v.L.length = ud) (_ : x7v.Set.length = 4) (_ : Els kT27 S1 w1 uj x7v.L) (_ : x7v.L.length = uh) (junk : Nat → Value),
 Goes Tryd.prog (base 34) J3 ⟨lfr 48 [(1, .i x1), (2, (pt gx2 0)), (3, (pt gx3 0)), (6, (pt gx6 0)), (7, (pt gx7 0)), (8, .i x8)] junk, []⟩ w1 (Done Tryd.prog 34 (Rets (Post.z0 nz wz S0 w0 Lr gx2 r)))

def LL.z1 : Int × T27 × T27 × T27 × Int × Int → (T27 × Int) → Prop := fun a r => ∀ {nz wz S0 w0 Lr} [Gw nz wz] (gx2 : Nat), L.z1 nz wz S0 w0 Lr gx2 a r

def L.z2 (gx2 : Nat) : Int × T27 × T27 × T27 × Int × Bool × Int → (T27 × Int) → Prop := fun ⟨x1, x3v, x6v, x7v, x8, x30, u8⟩ r => ∀ S1 w1, Ext S0 w0 S1 w1 → ∀ gx3 u9 ua ub gx6 uc ud ue uf gx7 ug uh ui uj (_ : Hp nz wz S1 w1 ((some gx3, .row 28 (.i x3v.Kind :: U4 x3v.Set [.slice u9 ua ub, .i x3v.Min, .i x3v.Max]) 8 0) :: (some gx6, .row 28 (.i x6v.Kind :: U4 x6v.Set [.slice (Gp uc) ud ue, .i x6v.Min, .i x6v.Max]) 8 0) :: (uc, .row 28 uf (ue * kT27.size) 0) :: (some gx7, .row 28 (.i x7v.Kind :: U4 x7v.Set [.slice (Gp ug) uh ui, .i x7v.Min, .i x7v.Max]) 8 0) :: (ug, .row 28 uj (ui * kT27.size) 0) :: (some gx2, .row 3 [.i u8] 1 0) :: Lr)) (_ : x3v.Set.length = 4) (_ : Rd kT27 S1 w1 u9 ub x3v.L) (_ : x3v.L.length = ua) (_ : x6v.Set.length = 4) (_ : Els kT27 S1 w1 uf x6v.L) (_ : x6v.L.length = ud) (_ : x7v.Set.length = 4) (_ : Els kT27 S1 w1 uj x7v.L) (_ : x7v.L.length = uh) (junk : Nat → Value),
 Goes Tryd.prog (base 34) J5 ⟨lfr 48 [(1, .i x1), (2, (pt gx2 0)), (3, (pt gx3 0)), (6, (pt gx6 0)), (7, (pt gx7 0)), (8, .i x8), (30, .bool x30)] junk, []⟩ w1 (Done Tryd.prog 34 (Rets (Post.z0 nz wz S0 w0 Lr gx2 r)))

def LL.z2 : Int × T27 × T27 × T27 × Int × Bool × Int → (T27 × Int) → Prop := fun a r => ∀ {nz wz S0 w0 Lr} [Gw nz wz] (gx2 : Nat), L.z2 nz wz S0 w0 Lr gx2 a r

theorem W.z3 : (∀ a r, M.tidepolelaw11_cut a = some r → LF.z0 a r) ∧ (∀ a r, M.tidepolelaw11_cut_l0 a = some r → LL.z1 a r) ∧ (∀ a r, M.tidepolelaw11_cut_l1 a = some r → LL.z2 a r) := by
 refine M.tidepolelaw11_cut.mutual_partial_correctness LF.z0 LL.z1 LL.z2 ?_ ?_ ?_
 ·
  intro uk ul ⟨x0, x1, u4⟩ r h nz wz S0 w0 Lr iG u5 u6 u7 gx2 p0 um un uo
  try dsimp only at h
  subst uo
  refine calls_of_goes (fn := Tryd.f34) (c := B34) (by kernel_rfl) (by kernel_rfl) 45 (by kernel_rfl) ?_
  refine Goes.jp 48 [(0, (ag (.i x0.Kind :: U4 x0.Set [.slice u5 x0.L.length u7, .i x0.Min, .i x0.Max]))), (1, .i x1), (2, (pt gx2 0))] (fun junk => ?_)
  refine Goes.rn 2 [] J7 ?_
  refine Op_.box 28 (.tmp 0) 3 0 (ag (.i x0.Kind :: U4 x0.Set [.slice u5 x0.L.length u7, .i x0.Min, .i x0.Max])) (.i x0.Kind :: U4 x0.Set [.slice u5 x0.L.length u7, .i x0.Min, .i x0.Max]) p0 Goes.v (by kernel_rfl) (by kernel_rfl) ?_
  intro b2 w2 z2 p2
  refine Op_.alloc 28 6 0 (.agg #[.i 0, .u 0, .u 0, .u 0, .u 0, .slice none 0 0, .i 0, .i 0]) [.i 0, .u 0, .u 0, .u 0, .u 0, .slice none 0 0, .i 0, .i 0] p2 Goes.v (by kernel_rfl) (by kernel_rfl) ?_
  intro b4 w3 z3 p3
  refine Goes.rn 5 [(9, (pt gx2 0)), (10, (pt gx2 0))] J9 ?_
  refine Goes.ld 3 (.tmp 10) 11 3 ⟨gx2, 0, none⟩ (.i u4) (p3.c 2 0) ?_
  refine Goes.rn 2 [(12, .i (wr .i64 (u4 - 1))), (13, (pt gx2 0))] Ja ?_
  refine Op_.st 3 (.tmp 13) (.tmp 12) 0 2 gx2 0 (.i (wr .i64 (u4 - 1))) [.i (wr .i64 (u4 - 1))] p3 rfl Goes.s (by kernel_rfl) (by kernel_rfl) (by kernel_rfl) (by kernel_rfl) (Nat.zero_le _) (by simp only [List.length_cons, List.length_nil]; omega) (by simp [Value.oneCell']) ?_
  intro w4 z4 p4
  have p4 : Hp nz wz S0 w4 ((some b4, .row 28 [.i 0, .u 0, .u 0, .u 0, .u 0, .slice none 0 0, .i 0, .i 0] 8 0) :: (some b2, .row 28 (.i x0.Kind :: U4 x0.Set [.slice u5 x0.L.length u7, .i x0.Min, .i x0.Max]) 8 0) :: (some gx2, .row 3 [.i (wr .i64 (u4 - 1))] 1 0) :: Lr) := p4
  refine Goes.rn 3 [] Jc ?_
  refine Goes.ldN 28 (.tmp 3) 14 28 ⟨b2, 0, none⟩ (.i x0.Kind :: U4 x0.Set [.slice u5 x0.L.length u7, .i x0.Min, .i x0.Max]) (p4.pa 1 0) ?_
  refine Op_.alloc 28 7 0 (.agg #[.i 0, .u 0, .u 0, .u 0, .u 0, .slice none 0 0, .i 0, .i 0]) [.i 0, .u 0, .u 0, .u 0, .u 0, .slice none 0 0, .i 0, .i 0] p4 Goes.v (by kernel_rfl) (by kernel_rfl) ?_
  intro b6 w5 z5 p5
  refine Op_.st 28 (.tmp 7) (.tmp 14) 0 0 b6 0 (ag (.i x0.Kind :: U4 x0.Set [.slice u5 x0.L.length u7, .i x0.Min, .i x0.Max])) (.i x0.Kind :: U4 x0.Set [.slice u5 x0.L.length u7, .i x0.Min, .i x0.Max]) p5 rfl Goes.s (by kernel_rfl) (by kernel_rfl) (by kernel_rfl) (by kernel_rfl) (Nat.zero_le _) (by simp only [List.length_cons, List.length_nil]; omega) (by simp [Value.oneCell']) ?_
  intro w6 z6 p6
  have p6 : Hp nz wz S0 w6 ((some b6, .row 28 (.i x0.Kind :: U4 x0.Set [.slice u5 x0.L.length u7, .i x0.Min, .i x0.Max]) 8 0) :: (some b4, .row 28 [.i 0, .u 0, .u 0, .u 0, .u 0, .slice none 0 0, .i 0, .i 0] 8 0) :: (some b2, .row 28 (.i x0.Kind :: U4 x0.Set [.slice u5 x0.L.length u7, .i x0.Min, .i x0.Max]) 8 0) :: (some gx2, .row 3 [.i (wr .i64 (u4 - 1))] 1 0) :: Lr) := p6
  refine Goes.rn 4 [(15, (pt b6 5))] Je ?_
  refine Op_.st 26 (.tmp 15) (.const (.slice none 0 0)) 0 0 b6 5 (.slice none 0 0) [.slice none 0 0] p6 rfl Goes.s (by kernel_rfl) (by kernel_rfl) (by kernel_rfl) (by kernel_rfl) (Nat.zero_le _) (by simp only [List.length_cons, List.length_nil]; omega) (by simp [Value.oneCell']) ?_
  intro w7 z7 p7
  have p7 : Hp nz wz S0 w7 ((some b6, .row 28 (.i x0.Kind :: U4 x0.Set [.slice none 0 0, .i x0.Min, .i x0.Max]) 8 0) :: (some b4, .row 28 [.i 0, .u 0, .u 0, .u 0, .u 0, .slice none 0 0, .i 0, .i 0] 8 0) :: (some b2, .row 28 (.i x0.Kind :: U4 x0.Set [.slice u5 x0.L.length u7, .i x0.Min, .i x0.Max]) 8 0) :: (some gx2, .row 3 [.i (wr .i64 (u4 - 1))] 1 0) :: Lr) := p7
  refine Goes.rn 8 [(8, .i 0)] J3 ?_
  have p7 : Hp nz wz S0 w7 ((none, .row 28 [] (0 * kT27.size) 0) :: (some b6, .row 28 (.i x0.Kind :: U4 x0.Set [.slice none 0 0, .i x0.Min, .i x0.Max]) 8 0) :: (some b4, .row 28 [.i 0, .u 0, .u 0, .u 0, .u 0, .slice none 0 0, .i 0, .i 0] 8 0) :: (some b2, .row 28 (.i x0.Kind :: U4 x0.Set [.slice u5 x0.L.length u7, .i x0.Min, .i x0.Max]) 8 0) :: (some gx2, .row 3 [.i (wr .i64 (u4 - 1))] 1 0) :: Lr) := p7.nilRow' 28
  have p7 : Hp nz wz S0 w7 ((none, .row 28 [] (0 * kT27.size) 0) :: (none, .row 28 [] (0 * kT27.size) 0) :: (some b6, .row 28 (.i x0.Kind :: U4 x0.Set [.slice none 0 0, .i x0.Min, .i x0.Max]) 8 0) :: (some b4, .row 28 [.i 0, .u 0, .u 0, .u 0, .u 0, .slice (Gp none) 0 0, .i 0, .i 0] 8 0) :: (some b2, .row 28 (.i x0.Kind :: U4 x0.Set [.slice u5 x0.L.length u7, .i x0.Min, .i x0.Max]) 8 0) :: (some gx2, .row 3 [.i (wr .i64 (u4 - 1))] 1 0) :: Lr) := p7.nilRow' 28
  have p7 := (((((p7.fr 5).fr 1).fr 3).fr 3).fr 4).fr 5
  exact Goes.jp 48 [(1, .i x1), (2, (pt gx2 0)), (3, (pt b2 0)), (6, (pt b4 0)), (7, (pt b6 0)), (8, .i 0)] (ul _ _ h gx2 _ _ (((((((Ext.refl S0 w0).trans z2).trans z3).trans z4).trans z5).trans z6).trans z7) b2 u5 x0.L.length u7 b4 none 0 0 [] b6 none 0 0 [] p7 um (un.ext (((((z2.trans z3).trans z4).trans z5).trans z6).trans z7)) rfl rfl (Els.nil (K := kT27)) rfl um (Els.nil (K := kT27)) rfl)
 ·
  intro up uq ⟨x1, x3v, x6v, x7v, x8, u8⟩ r h nz wz S0 w0 Lr iG gx2 S1 w1 hx gx3 u9 ua ub gx6 uc ud ue uf gx7 ug uh ui uj p1 ur ut uu uv uw ux uy uz u10 junk
  try dsimp only at h
  subst uu
  subst ux
  subst u10
  refine Goes.rn 5 [(16, .i x8), (17, (pt gx3 5))] Jf ?_
  refine Goes.ld 26 (.tmp 17) 18 26 ⟨gx3, 5, none⟩ (.slice u9 x3v.L.length ub) (p1.c 0 5) ?_
  refine Goes.rn 3 [(19, .i (x3v.L.length : Int)), (20, .bool (decide (x8 < (x3v.L.length : Int)))), (21, .bool (decide (x8 < (x3v.L.length : Int))))] Jg ?_
  refine ite_some h (fun h15 h => ?_) (fun h15 h => ?_)
  ·
   rw [decide_eq_true h15]
   refine Goes.rn 4 [(22, .i x1), (23, .bool (decide (x1 > 0))), (24, .bool (decide (x1 > 0))), (25, .bool (decide (x1 > 0)))] Jh ?_
   refine ite_some h (fun h16 h => ?_) (fun h16 h => ?_)
   ·
    rw [decide_eq_true h16]
    refine Goes.rn 2 [(26, (pt gx2 0)), (27, (pt gx2 0))] Ji ?_
    refine Goes.ld 3 (.tmp 27) 28 3 ⟨gx2, 0, none⟩ (.i u8) (p1.c 5 0) ?_
    refine Goes.rn 3 [(29, .bool (decide (u8 > 0))), (30, .bool (decide (u8 > 0)))] J5 ?_
    exact Goes.jp 48 [(1, .i x1), (2, (pt gx2 0)), (3, (pt gx3 0)), (6, (pt gx6 0)), (7, (pt gx7 0)), (8, .i x8), (30, .bool (decide (u8 > 0)))] (uq _ _ h gx2 _ _ hx gx3 u9 x3v.L.length ub gx6 uc x6v.L.length ue uf gx7 ug x7v.L.length ui uj p1 ur ut rfl uv uw rfl uy uz rfl)
   ·
    rw [decide_eq_false h16]
    refine Goes.rn 6 [(26, undef), (27, undef), (28, undef), (29, undef), (30, .bool false)] J5 ?_
    exact Goes.jp 48 [(1, .i x1), (2, (pt gx2 0)), (3, (pt gx3 0)), (6, (pt gx6 0)), (7, (pt gx7 0)), (8, .i x8), (30, .bool false)] (uq _ _ h gx2 _ _ hx gx3 u9 x3v.L.length ub gx6 uc x6v.L.length ue uf gx7 ug x7v.L.length ui uj p1 ur ut rfl uv uw rfl uy uz rfl)
  ·
   rw [decide_eq_false h15]
   refine Goes.rn 10 [(22, undef), (23, undef), (24, .bool false), (25, .bool false), (26, undef), (27, undef), (28, undef), (29, undef), (30, .bool false)] J5 ?_
   exact Goes.jp 48 [(1, .i x1), (2, (pt gx2 0)), (3, (pt gx3 0)), (6, (pt gx6 0)), (7, (pt gx7 0)), (8, .i x8), (30, .bool false)] (uq _ _ h gx2 _ _ hx gx3 u9 x3v.L.length ub gx6 uc x6v.L.length ue uf gx7 ug x7v.L.length ui uj p1 ur ut rfl uv uw rfl uy uz rfl)
 ·
  intro u11 uk u12 ul ⟨x1, x3v, x6v, x7v, x8, x30, u8⟩ r h nz wz S0 w0 Lr iG gx2 S1 w1 hx gx3 u9 ua ub gx6 uc ud ue uf gx7 ug uh ui uj p1 ur ut uu uv uw ux uy uz u10 junk
  try dsimp only at h
  subst uu
  subst ux
  subst u10
  refine ite_some h (fun h22 h => ?_) (fun h22 h => ?_)
  ·
   rw [h22]
   refine Goes.rn 4 [] Jl ?_
   have z8 : Ext S1 w1 S1 (w1).drew := Ext.draw
   have p8 := p1.draw
   refine Goes.drawn (s := [12, 14]) (F := Fc S1 (w1).drew [(⟨gx7, 5, none⟩, .slice (Gp ug) x7v.L.length ui), (⟨gx3, 5, none⟩, .slice u9 x3v.L.length ub)]) 7 15 (by kernel_rfl) (by kernel_rfl) (by kernel_rfl) (by kernel_rfl) ?_
   generalize (w1).drew = w8 at z8 p8 ⊢
   refine AnyG.pu 0 (.fieldAddr 28 (.tmp 7) 2) 33 0 ((pt gx7 5)) (Fc.here (p8.cs [(3, 5, 1), (0, 5, 1)])) ?_
   refine AnyG.ld1 (i := 1) 26 (.tmp 33) 34 26 ⟨gx7, 5, none⟩ (.slice (Gp ug) x7v.L.length ui) (by kernel_rfl) (by kernel_rfl) (Fc.here (p8.cs [(3, 5, 1), (0, 5, 1)])) (by kernel_rfl) (by kernel_rfl) (fun _ h => h.2.at_ 0 rfl) ?_
   refine AnyG.pu 2 (.fieldAddr 28 (.tmp 3) 2) 35 0 ((pt gx3 5)) (Fc.here (p8.cs [(3, 5, 1), (0, 5, 1)])) ?_
   refine AnyG.ld1 (i := 3) 26 (.tmp 35) 36 26 ⟨gx3, 5, none⟩ (.slice u9 x3v.L.length ub) (by kernel_rfl) (by kernel_rfl) (Fc.here (p8.cs [(3, 5, 1), (0, 5, 1)])) (by kernel_rfl) (by kernel_rfl) (fun _ h => h.2.at_ 1 rfl) ?_
   refine AnyG.pu 4 (.move (.tmp 8)) 37 3 (.i x8) (Fc.here (p8.cs [(3, 5, 1), (0, 5, 1)])) ?_
   refine guard_some' h fun g23 h => ?_
   refine guard_some' h fun g24 h => ?_
   refine AnyG.ixR_n (i := 5) 26 (.tmp 36) (.tmp 37) 38 0 28 .i64 x8 (gi x3v.L x8) rfl rfl (ut.ext z8) (by kernel_rfl) (by kernel_rfl) (Fc.here (p8.cs [(3, 5, 1), (0, 5, 1)])) (by kernel_rfl) (by kernel_rfl) (by kernel_rfl) (by kernel_rfl) g23 g24 ?_
   intro a25 _ f26 q27
   have q28 := q27
   obtain ⟨_, _, rfl, rfl, ⟨_, _, rfl, ⟨l29, f30⟩, ⟨_, _, rfl, ⟨A31, c32, rfl, f33⟩, ⟨_, _, rfl, rfl, rfl⟩⟩⟩⟩ := kT27_open q28
   obtain rfl := els_lit4' f30 l29
   refine AnyG.ldN (i := 6) 28 (.tmp 38) 39 28 a25 ([.i ((gi x3v.L x8).Kind)] ++ ((U4 ((gi x3v.L x8).Set) []) ++ ([.slice A31 (((gi x3v.L x8).L).length) c32] ++ ([.i ((gi x3v.L x8).Min)] ++ [.i ((gi x3v.L x8).Max)])))) (by kernel_rfl) (by kernel_rfl) (Fc.here (p8.cs [(3, 5, 1), (0, 5, 1)])) (by kernel_rfl) (by kernel_rfl) (by kernel_rfl) (fun _ h => f26.fc h) ?_
   refine AnyG.pu 7 (.move (.tmp 1)) 40 3 (.i x1) (Fc.here (p8.cs [(3, 5, 1), (0, 5, 1)])) ?_
   refine AnyG.pu 8 (.binOp .sub 3 (.tmp 40) (.const (.int .i64 1)) 3) 41 3 (.i (wr .i64 (x1 - 1))) (Fc.here (p8.cs [(3, 5, 1), (0, 5, 1)])) ?_
   refine AnyG.pu 9 (.move (.tmp 2)) 42 75 ((pt gx2 0)) (Fc.here (p8.cs [(3, 5, 1), (0, 5, 1)])) ?_
   have p8 := p8.fr 5
   refine bind_some' h fun y34 e35 h => ?_
   refine Op_.call (kc 34 [39, 41, 42] #[28, 3, 75]) 43 28 34 #[(ag (.i ((gi x3v.L x8).Kind) :: U4 ((gi x3v.L x8).Set) [.slice A31 (((gi x3v.L x8).L).length) c32, .i ((gi x3v.L x8).Min), .i ((gi x3v.L x8).Max)])), .i (wr .i64 (x1 - 1)), (pt gx2 0)] (AnyG.cs (i := 10) (by kernel_rfl) (by kernel_rfl)) (by kernel_rfl) (u12 ((⟨(gi x3v.L x8).Kind, ((gi x3v.L x8).Set), (gi x3v.L x8).L, (gi x3v.L x8).Min, (gi x3v.L x8).Max⟩ : T27), wr .i64 (x1 - 1), u8) y34 e35 A31 (((gi x3v.L x8).L).length) c32 gx2 p8 l29 f33 rfl) ?_
   rintro _ w9 ⟨S9, u13, u14, u15, u16, rfl, z9, p9, u17, u18, rfl⟩
   refine AnyG.next z9 ⟨(p9.c 5 5), (p9.c 2 5), trivial⟩ ?_
   obtain ⟨S10, z10, p10, f37⟩ := p9.freezeRd 0 rfl u18 (by decide)
   refine AnyG.refz z10 ?_
   have f39 : Els kT27 S10 w9 ((.i y34.1.Kind :: U4 y34.1.Set [.slice (Gp u13) y34.1.L.length u15, .i y34.1.Min, .i y34.1.Max]) : List Value) [y34.1] := by exact (Els.cons (K := kT27) (vs := (.i y34.1.Kind :: U4 y34.1.Set [.slice (Gp u13) y34.1.L.length u15, .i y34.1.Min, .i y34.1.Max])) (x := y34.1) (kT27_close ⟨[.i y34.1.Kind], (U4 y34.1.Set [.slice (Gp u13) y34.1.L.length u15, .i y34.1.Min, .i y34.1.Max]), rfl, rfl, ⟨(U4 y34.1.Set []), [.slice (Gp u13) y34.1.L.length u15, .i y34.1.Min, .i y34.1.Max], rfl, ⟨u17, els_mk4 u17⟩, ⟨[.slice (Gp u13) y34.1.L.length u15], [.i y34.1.Min, .i y34.1.Max], rfl, ⟨_, _, rfl, f37⟩, ⟨[.i y34.1.Min], [.i y34.1.Max], rfl, rfl, rfl⟩⟩⟩⟩) Els.nil)
   refine Op_.made (.buildSlice 26 1 #[(0, (.tmp 43))]) 44 26 (fun b => .slice (Gp (some b)) 1 1) 28 ((.i y34.1.Kind :: U4 y34.1.Set [.slice (Gp u13) y34.1.L.length u15, .i y34.1.Min, .i y34.1.Max]) : List Value) p10 (AnyG.vs (i := 11) (by kernel_rfl) (by kernel_rfl)) (by kernel_rfl) ?_
   intro b38 w11 z11 p11
   have p11 : Hp nz wz S10 w11 (((some b38), .row 28 ((.i y34.1.Kind :: U4 y34.1.Set [.slice (Gp u13) y34.1.L.length u15, .i y34.1.Min, .i y34.1.Max]) : List Value) (1 * kT27.size) 0) :: (u13, .row 28 u16 (u15 * kT27.size) u16.length) :: (some gx2, .row 3 [.i y34.2] 1 0) :: (some gx3, .row 28 (.i x3v.Kind :: U4 x3v.Set [.slice u9 x3v.L.length ub, .i x3v.Min, .i x3v.Max]) 8 0) :: (some gx6, .row 28 (.i x6v.Kind :: U4 x6v.Set [.slice (Gp uc) x6v.L.length ue, .i x6v.Min, .i x6v.Max]) 8 0) :: (uc, .row 28 uf (ue * kT27.size) 0) :: (some gx7, .row 28 (.i x7v.Kind :: U4 x7v.Set [.slice (Gp ug) x7v.L.length ui, .i x7v.Min, .i x7v.Max]) 8 0) :: (ug, .row 28 uj (ui * kT27.size) 0) :: Lr) := p11
   refine AnyG.next z11 ⟨(p11.c 6 5), (p11.c 3 5), trivial⟩ ?_
   refine guard_some' h fun g44 h => ?_
   refine Op_.ap_n (K := kT27) 26 (.tmp 34) (.tmp 44) 45 26 28 7 (.agg #[.i 0, .u 0, .u 0, .u 0, .u 0, .slice none 0 0, .i 0, .i 0]) 80 x7v.L.length ui 1 x7v.L [y34.1] (x7v.L ++ [y34.1]) (Gp (some b38)) 1 rfl rfl rfl p11 rfl (uz.ext (((z8.trans z9).trans z10).trans z11)) (AnyG.vs (i := 12) (by kernel_rfl) (by kernel_rfl)) (by kernel_rfl) (by kernel_rfl) (by kernel_rfl) (by kernel_rfl) rfl (by decide) (f39.ext z11) (src_own p11 (q := 0) rfl) (by have := g44; omega) (by have := g44; omega) ?_
   intro w12 G45 c46 u19 z12 p12 f48
   refine AnyG.last [14] (Fc S10 w12 []) (by decide) ?_
   refine AnyG.pu 13 (.fieldAddr 28 (.tmp 7) 2) 46 0 ((pt gx7 5)) (Fc.here trivial) ?_
   refine Op_.st 26 (.tmp 46) (.tmp 45) 0 6 gx7 5 (.slice (Gp G45) ((x7v.L ++ [y34.1]).length) c46) [.slice (Gp G45) ((x7v.L ++ [y34.1]).length) c46] p12 rfl (AnyG.ss (i := 14) (by kernel_rfl) (by kernel_rfl)) (by kernel_rfl) (by kernel_rfl) (by kernel_rfl) (by kernel_rfl) (Nat.zero_le _) (by simp only [List.length_cons, List.length_nil]; omega) (by simp [Value.oneCell']) ?_
   intro w13 z13 p13
   have p13 : Hp nz wz S10 w13 (((some b38), .row 28 ((.i y34.1.Kind :: U4 y34.1.Set [.slice (Gp u13) y34.1.L.length u15, .i y34.1.Min, .i y34.1.Max]) : List Value) (1 * kT27.size) 0) :: (u13, .row 28 u16 (u15 * kT27.size) u16.length) :: (some gx2, .row 3 [.i y34.2] 1 0) :: (some gx3, .row 28 (.i x3v.Kind :: U4 x3v.Set [.slice u9 x3v.L.length ub, .i x3v.Min, .i x3v.Max]) 8 0) :: (some gx6, .row 28 (.i x6v.Kind :: U4 x6v.Set [.slice (Gp uc) x6v.L.length ue, .i x6v.Min, .i x6v.Max]) 8 0) :: (uc, .row 28 uf (ue * kT27.size) 0) :: (some gx7, .row 28 (.i x7v.Kind :: U4 x7v.Set [.slice (Gp G45) ((x7v.L ++ [y34.1]).length) c46, .i x7v.Min, .i x7v.Max]) 8 0) :: (G45, .row 28 u19 (c46 * kT27.size) 0) :: Lr) := p13
   refine AnyG.last [] (Fc S10 w13 []) (by decide) ?_
   refine AnyG.done (by kernel_rfl) ?_ _
   have p13 := (p13.dp 0).dp 0
   refine Goes.rn 7 [(31, .i x8), (32, .i (wr .i64 (x8 + 1))), (8, .i (wr .i64 (x8 + 1)))] J3 ?_
   have p13 := (((((p13.fr 0).fr 5).fr 5).fr 5).fr 5).fr 5
   exact Goes.jp 48 [(1, .i x1), (2, (pt gx2 0)), (3, (pt gx3 0)), (6, (pt gx6 0)), (7, (pt gx7 0)), (8, .i (wr .i64 (x8 + 1)))] (ul _ _ h gx2 _ _ ((((((hx.trans z8).trans z9).trans z10).trans z11).trans z12).trans z13) gx3 u9 x3v.L.length ub gx6 uc x6v.L.length ue uf gx7 G45 ((x7v.L ++ [y34.1]).length) c46 u19 p13 ur (ut.ext (((((z8.trans z9).trans z10).trans z11).trans z12).trans z13)) rfl uv (uw.ext (((((z8.trans z9).trans z10).trans z11).trans z12).trans z13)) rfl uy (f48.ext z13) rfl)
  ·
   have u1a : x30 = false := by simpa using h22
   rw [u1a]
   refine Goes.rn 4 [] Jn ?_
   refine Goes.ldN 28 (.tmp 7) 47 28 ⟨gx7, 0, none⟩ (.i x7v.Kind :: U4 x7v.Set [.slice (Gp ug) x7v.L.length ui, .i x7v.Min, .i x7v.Max]) (p1.pa 3 0) ?_
   refine Op_.st 28 (.tmp 6) (.tmp 47) 0 1 gx6 0 (ag (.i x7v.Kind :: U4 x7v.Set [.slice (Gp ug) x7v.L.length ui, .i x7v.Min, .i x7v.Max])) (.i x7v.Kind :: U4 x7v.Set [.slice (Gp ug) x7v.L.length ui, .i x7v.Min, .i x7v.Max]) p1 rfl Goes.s (by kernel_rfl) (by kernel_rfl) (by kernel_rfl) (by kernel_rfl) (Nat.zero_le _) (by simp only [List.length_cons, List.length_nil]; omega) (by simp [Value.oneCell']) ?_
   intro w14 z14 p14
   have p14 : Hp nz wz S1 w14 ((some gx3, .row 28 (.i x3v.Kind :: U4 x3v.Set [.slice u9 x3v.L.length ub, .i x3v.Min, .i x3v.Max]) 8 0) :: (some gx6, .row 28 (.i x7v.Kind :: U4 x7v.Set [.slice (Gp ug) x7v.L.length ui, .i x7v.Min, .i x7v.Max]) 8 0) :: (uc, .row 28 uf (ue * kT27.size) 0) :: (some gx7, .row 28 (.i x7v.Kind :: U4 x7v.Set [.slice (Gp ug) x7v.L.length ui, .i x7v.Min, .i x7v.Max]) 8 0) :: (ug, .row 28 uj (ui * kT27.size) 0) :: (some gx2, .row 3 [.i u8] 1 0) :: Lr) := p14
   refine Goes.rn 1 [] Jm ?_
   obtain rfl := Option.some.inj h
   have p14 := ((p14.dp 0).dp 1).dp 1
   exact Goes.ret (fn := Tryd.f34) (by kernel_rfl) (v := (ag (.i x7v.Kind :: U4 x7v.Set [.slice (Gp ug) x7v.L.length ui, .i x7v.Min, .i x7v.Max]))) (results_n1 (fn := Tryd.f34) (a := .cell 6 28) (by kernel_rfl) (resV_cell ⟨gx6, 0, none⟩ (by kernel_rfl) (run_loadN (.i x7v.Kind :: U4 x7v.Set [.slice (Gp ug) x7v.L.length ui, .i x7v.Min, .i x7v.Max]) (by kernel_rfl) (by kernel_rfl) (p14.pa 0 0)))) ⟨S1, ug, x7v.L.length, ui, uj, rfl, (hx.trans z14), p14.drop, uy, (uz.ext z14), rfl⟩

theorem W.z0 : ∀ a r, M.tidepolelaw11_cut a = some r → LF.z0 a r := (W.z3).1

theorem W.z1 : ∀ a r, M.tidepolelaw11_cut_l0 a = some r → LL.z1 a r := (W.z3).2.1

theorem W.z2 : ∀ a r, M.tidepolelaw11_cut_l1 a = some r → LL.z2 a r := (W.z3).2.2

def Qh := sub [1] B14
def Jo : List Item := [.code Qh]
def Qi := sub [0] B14
def Jp : List Item := .inRegion (opsOf Qi) [0, 1] :: Jo
def Qj := sub [1, 1] B14
def Jq : List Item := [.code Qj]
def Qk := sub [1, 0] B14
def Jr : List Item := .inRegion (opsOf Qk) [0, 1] :: Jq
def Ql := sub [1, 1, 1] B14
def Js : List Item := [.code Ql]
def Qm := sub [1, 1, 0] B14
def Jt : List Item := .inRegion (opsOf Qm) [0, 1, 2] :: Js

def Post.z4 (r : T27) (v : Value) (w' : World) : Prop :=
 ∃ S' u0 u1 u2 u3, v = (ag (.i r.Kind :: U4 r.Set [.slice (Gp u0) u1 u2, .i r.Min, .i r.Max])) ∧ Ext S0 w0 S' w' ∧ Hp nz wz S' w' ((u0, .row 28 u3 (u2 * kT27.size) 0) :: Lr) ∧ r.Set.length = 4 ∧ Els kT27 S' w' u3 r.L ∧ r.L.length = u1

theorem W.z4 (x0 : T27) (r : T27) (h : M.tidepolelaw11_some x0 = some r) {nz wz S0 w0 Lr} [Gw nz wz] (u5 u6 u7) (p0 : Hp nz wz S0 w0 (Lr)) (um : x0.Set.length = 4) (un : Rd kT27 S0 w0 u5 u7 x0.L) (uo : x0.L.length = u6) :
  Calls Tryd.prog 14 #[(ag (.i x0.Kind :: U4 x0.Set [.slice u5 u6 u7, .i x0.Min, .i x0.Max]))] w0 (Rets (Post.z4 nz wz S0 w0 Lr r)) := by
 subst uo
 refine calls_of_goes (fn := Tryd.f14) (c := B14) (by kernel_rfl) (by kernel_rfl) 5 (by kernel_rfl) ?_
 refine Goes.jp 6 [(0, (ag (.i x0.Kind :: U4 x0.Set [.slice u5 x0.L.length u7, .i x0.Min, .i x0.Max])))] (fun junk => ?_)
 delta M.tidepolelaw11_some at h
 refine Goes.rn 2 [] Jp ?_
 refine Op_.box 28 (.tmp 0) 1 0 (ag (.i x0.Kind :: U4 x0.Set [.slice u5 x0.L.length u7, .i x0.Min, .i x0.Max])) (.i x0.Kind :: U4 x0.Set [.slice u5 x0.L.length u7, .i x0.Min, .i x0.Max]) p0 Goes.v (by kernel_rfl) (by kernel_rfl) ?_
 intro b1 w2 z2 p2
 refine Op_.alloc 28 2 0 (.agg #[.i 0, .u 0, .u 0, .u 0, .u 0, .slice none 0 0, .i 0, .i 0]) [.i 0, .u 0, .u 0, .u 0, .u 0, .slice none 0 0, .i 0, .i 0] p2 Goes.v (by kernel_rfl) (by kernel_rfl) ?_
 intro b3 w3 z3 p3
 refine Goes.rn 3 [] Jr ?_
 refine Op_.alloc 3 3 0 (.i 0) [.i 0] p3 Goes.v (by kernel_rfl) (by kernel_rfl) ?_
 intro b5 w4 z4 p4
 refine Op_.st 3 (.tmp 3) (.const (.int .i64 100)) 0 0 b5 0 (.i 100) [.i 100] p4 rfl Goes.s (by kernel_rfl) (by kernel_rfl) (by kernel_rfl) (by kernel_rfl) (Nat.zero_le _) (by simp only [List.length_cons, List.length_nil]; omega) (by simp [Value.oneCell']) ?_
 intro w5 z5 p5
 have p5 : Hp nz wz S0 w5 ((some b5, .row 3 [.i 100] 1 0) :: (some b3, .row 28 [.i 0, .u 0, .u 0, .u 0, .u 0, .slice none 0 0, .i 0, .i 0] 8 0) :: (some b1, .row 28 (.i x0.Kind :: U4 x0.Set [.slice u5 x0.L.length u7, .i x0.Min, .i x0.Max]) 8 0) :: Lr) := p5
 refine Goes.rn 3 [] Jt ?_
 refine Goes.ldN 28 (.tmp 1) 4 28 ⟨b1, 0, none⟩ (.i x0.Kind :: U4 x0.Set [.slice u5 x0.L.length u7, .i x0.Min, .i x0.Max]) (p5.pa 2 0) ?_
 refine bind_some' h fun y7 e8 h => ?_
 refine Goes.cal (.call { callee := .value (.func 34), args := #[(.tmp 4), (.const (.int .i64 130)), (.tmp 3)], argTypes := #[28, 3, 75] }) 5 28 34 _ (W.z0 (x0, 130, 100) y7 e8 u5 x0.L.length u7 b5 p5 um (un.ext (((z2.trans z3).trans z4).trans z5)) rfl) ?_
 rintro _ w6 ⟨S6, u1b, u1c, u1d, u1e, rfl, z6, p6, u1f, u1g, rfl⟩
 have p6 := (p6.dp 1).dp 2
 refine Op_.st 28 (.tmp 2) (.tmp 5) 0 1 b3 0 (ag (.i y7.1.Kind :: U4 y7.1.Set [.slice (Gp u1b) y7.1.L.length u1d, .i y7.1.Min, .i y7.1.Max])) (.i y7.1.Kind :: U4 y7.1.Set [.slice (Gp u1b) y7.1.L.length u1d, .i y7.1.Min, .i y7.1.Max]) p6 rfl Goes.s (by kernel_rfl) (by kernel_rfl) (by kernel_rfl) (by kernel_rfl) (Nat.zero_le _) (by simp only [List.length_cons, List.length_nil]; omega) (by simp [Value.oneCell']) ?_
 intro w7 z7 p7
 have p7 : Hp nz wz S6 w7 ((u1b, .row 28 u1e (u1d * kT27.size) 0) :: (some b3, .row 28 (.i y7.1.Kind :: U4 y7.1.Set [.slice (Gp u1b) y7.1.L.length u1d, .i y7.1.Min, .i y7.1.Max]) 8 0) :: Lr) := p7
 refine Goes.rn 1 [] Js ?_
 obtain rfl := Option.some.inj h
 have p7 := (p7.fr 0).fr 1
 exact Goes.ret (fn := Tryd.f14) (by kernel_rfl) (v := (ag (.i y7.1.Kind :: U4 y7.1.Set [.slice (Gp u1b) y7.1.L.length u1d, .i y7.1.Min, .i y7.1.Max]))) (results_n1 (fn := Tryd.f14) (a := .cell 2 28) (by kernel_rfl) (resV_cell ⟨b3, 0, none⟩ (by kernel_rfl) (run_loadN (.i y7.1.Kind :: U4 y7.1.Set [.slice (Gp u1b) y7.1.L.length u1d, .i y7.1.Min, .i y7.1.Max]) (by kernel_rfl) (by kernel_rfl) (p7.pa 0 0)))) ⟨S6, u1b, y7.1.L.length, u1d, u1e, rfl, (((((((Ext.refl S0 w0).trans z2).trans z3).trans z4).trans z5).trans z6).trans z7), p7.drop, u1f, (u1g.ext z7), rfl⟩

def Qn := sub [1, 1, 1] B67
def Ju : List Item := [.code Qn]
def Qo := sub [1, 1, 0, 1] B67
def Jv : List Item := .code Qo :: Ju
def Qp := sub [1, 1, 1, 1] B67
def Jw : List Item := [.code Qp]
def Jx : List Item := .inBlock 0 :: Jw
def Qq := sub [1, 1, 1, 0, 1, 0, 0] B67
def Jy : List Item := .inLoop Qq :: Jx
def Jz : List Item := .code Qq :: Jy
def Qr := sub [1] B67
def J10 : List Item := [.code Qr]
def Qs := sub [0] B67
def J11 : List Item := .inRegion (opsOf Qs) [0, 1] :: J10
def Qt := sub [1, 1] B67
def J12 : List Item := [.code Qt]
def Qu := sub [1, 0] B67
def J13 : List Item := .inRegion (opsOf Qu) [2, 3, 4, 5] :: J12
def J14 : List Item := .inRegion (opsOf Qu) [5] :: J12
def Qv := sub [1, 1, 0, 0] B67
def J15 : List Item := .inRegion (opsOf Qv) [3, 4, 5, 6, 7] :: Jv
def J16 : List Item := .inRegion (opsOf Qv) [5, 6, 7] :: Jv
def Qw := sub [1, 1, 0, 1, 0, 1] B67
def J17 : List Item := .code Qw :: Ju
def Qx := sub [1, 1, 1, 0, 1] B67
def J18 : List Item := .code Qx :: Jw
def Qy := sub [1, 1, 1, 0, 0] B67
def J19 : List Item := .inRegion (opsOf Qy) [1, 2, 3] :: J18
def Qz := sub [1, 1, 1, 0, 1, 0, 0, 1, 1] B67
def J1a : List Item := .code Qz :: Jy
def Q10 := sub [1, 1, 1, 0, 1, 0, 0, 1, 0] B67
def J1b : List Item := .code Q10 :: J1a
def Q11 := sub [1, 1, 1, 0, 1, 0, 0, 1, 1, 1] B67
def J1c : List Item := .code Q11 :: Jy
def J1d : List Item := .inBlock 1 :: J1c
def Q12 := sub [1, 1, 1, 0, 1, 0, 0, 1, 1, 0, 0, 1] B67
def J1e : List Item := .code Q12 :: J1d
def Q13 := sub [1, 1, 1, 0, 1, 0, 0, 1, 1, 0, 0, 0] B67
def J1f : List Item := .inRegion (opsOf Q13) [0, 1, 2, 3] :: J1e
def Q14 := sub [1, 1, 1, 0, 1, 0, 0, 1, 1, 0, 0, 1, 1] B67
def J1g : List Item := .code Q14 :: J1d
def Q15 := sub [1, 1, 1, 0, 1, 0, 0, 1, 1, 0, 0, 1, 0] B67
def J1h : List Item := .inRegion (opsOf Q15) [0, 1, 2, 3, 4, 5] :: J1g
def J1i : List Item := .inRegion (opsOf Q15) [4, 5] :: J1g
def Q16 := sub [1, 1, 1, 0, 1, 0, 0, 1, 1, 0, 0, 1, 1, 0, 1] B67
def J1j : List Item := .code Q16 :: J1d
def Q17 := sub [1, 1, 1, 1, 1] B67
def J1k : List Item := [.code Q17]

def Post.z5 (gx2 : Nat) (r : Bool × Int) (v : Value) (w' : World) : Prop :=
 ∃ S', v = .bool r.1 ∧ Ext S0 w0 S' w' ∧ Hp nz wz S' w' ((some gx2, .row 3 [.i r.2] 1 0) :: Lr)

def LF.z5 : T27 × Int × Int → (Bool × Int) → Prop := fun ⟨x0, x1, u4⟩ r => ∀ {nz wz S0 w0 Lr} [Gw nz wz] u5 u6 u7 gx2 (_ : Hp nz wz S0 w0 ((some gx2, .row 3 [.i u4] 1 0) :: Lr)) (_ : x0.Set.length = 4) (_ : Rd kT27 S0 w0 u5 u7 x0.L) (_ : x0.L.length = u6),
 Calls Tryd.prog 67 #[(ag (.i x0.Kind :: U4 x0.Set [.slice u5 u6 u7, .i x0.Min, .i x0.Max])), .i x1, (pt gx2 0)] w0 (Rets (Post.z5 nz wz S0 w0 Lr gx2 r))

def L.z6 (gx2 : Nat) : Int × T27 × Bool × Int → (Bool × Int) → Prop := fun ⟨x1, x3v, x21, u8⟩ r => ∀ S1 w1, Ext S0 w0 S1 w1 → ∀ gx3 u9 ua ub (_ : Hp nz wz S1 w1 ((some gx3, .row 28 (.i x3v.Kind :: U4 x3v.Set [.slice u9 ua ub, .i x3v.Min, .i x3v.Max]) 8 0) :: (some gx2, .row 3 [.i u8] 1 0) :: Lr)) (_ : x3v.Set.length = 4) (_ : Rd kT27 S1 w1 u9 ub x3v.L) (_ : x3v.L.length = ua) (junk : Nat → Value),
 Goes Tryd.prog (base 67) Jv ⟨lfr 36 [(1, .i x1), (2, (pt gx2 0)), (3, (pt gx3 0)), (21, .bool x21)] junk, []⟩ w1 (Done Tryd.prog 67 (Rets (Post.z5 nz wz S0 w0 Lr gx2 r)))

def LL.z6 : Int × T27 × Bool × Int → (Bool × Int) → Prop := fun a r => ∀ {nz wz S0 w0 Lr} [Gw nz wz] (gx2 : Nat), L.z6 nz wz S0 w0 Lr gx2 a r

def L.z7 (gx2 : Nat) : Int × (List T27) × Int × Int × Int → (Bool × Int) → Prop := fun ⟨x1, x23, x24, x25, u8⟩ r => ∀ S1 w1, Ext S0 w0 S1 w1 → ∀ u1h u1i u1j (_ : Hp nz wz S1 w1 ((some gx2, .row 3 [.i u8] 1 0) :: Lr)) (_ : Rd kT27 S1 w1 u1h u1j x23) (_ : x23.length = u1i) (junk : Nat → Value),
 Goes Tryd.prog (base 67) Jz ⟨lfr 36 [(1, .i x1), (2, (pt gx2 0)), (23, .slice u1h u1i u1j), (24, .i x24), (25, .i x25)] junk, []⟩ w1 (Done Tryd.prog 67 (Rets (Post.z5 nz wz S0 w0 Lr gx2 r)))

def LL.z7 : Int × (List T27) × Int × Int × Int → (Bool × Int) → Prop := fun a r => ∀ {nz wz S0 w0 Lr} [Gw nz wz] (gx2 : Nat), L.z7 nz wz S0 w0 Lr gx2 a r

theorem W.z8 : (∀ a r, M.syntax_count a = some r → LF.z5 a r) ∧ (∀ a r, M.syntax_count_l0 a = some r → LL.z6 a r) ∧ (∀ a r, M.syntax_count_l1 a = some r → LL.z7 a r) := by
 refine M.syntax_count.mutual_partial_correctness LF.z5 LL.z6 LL.z7 ?_ ?_ ?_
 ·
  intro u1k u1l ⟨x0, x1, u4⟩ r h nz wz S0 w0 Lr iG u5 u6 u7 gx2 p0 um un uo
  try dsimp only at h
  subst uo
  refine calls_of_goes (fn := Tryd.f67) (c := B67) (by kernel_rfl) (by kernel_rfl) 33 (by kernel_rfl) ?_
  refine Goes.jp 36 [(0, (ag (.i x0.Kind :: U4 x0.Set [.slice u5 x0.L.length u7, .i x0.Min, .i x0.Max]))), (1, .i x1), (2, (pt gx2 0))] (fun junk => ?_)
  refine Goes.rn 2 [] J11 ?_
  refine Op_.box 28 (.tmp 0) 3 0 (ag (.i x0.Kind :: U4 x0.Set [.slice u5 x0.L.length u7, .i x0.Min, .i x0.Max])) (.i x0.Kind :: U4 x0.Set [.slice u5 x0.L.length u7, .i x0.Min, .i x0.Max]) p0 Goes.v (by kernel_rfl) (by kernel_rfl) ?_
  intro b2 w2 z2 p2
  refine Goes.rn 6 [(6, .bool false), (9, (pt gx2 0)), (10, (pt gx2 0))] J13 ?_
  refine Goes.ld 3 (.tmp 10) 11 3 ⟨gx2, 0, none⟩ (.i u4) (p2.c 1 0) ?_
  refine Goes.rn 2 [(12, .i (wr .i64 (u4 + 1))), (13, (pt gx2 0))] J14 ?_
  refine Op_.st 3 (.tmp 13) (.tmp 12) 0 1 gx2 0 (.i (wr .i64 (u4 + 1))) [.i (wr .i64 (u4 + 1))] p2 rfl Goes.s (by kernel_rfl) (by kernel_rfl) (by kernel_rfl) (by kernel_rfl) (Nat.zero_le _) (by simp only [List.length_cons, List.length_nil]; omega) (by simp [Value.oneCell']) ?_
  intro w3 z3 p3
  have p3 : Hp nz wz S0 w3 ((some b2, .row 28 (.i x0.Kind :: U4 x0.Set [.slice u5 x0.L.length u7, .i x0.Min, .i x0.Max]) 8 0) :: (some gx2, .row 3 [.i (wr .i64 (u4 + 1))] 1 0) :: Lr) := p3
  refine Goes.rn 7 [(14, .i x1), (15, .bool (decide (x1 = 0))), (16, .bool (decide (x1 = 0)))] J15 ?_
  refine ite_some h (fun h4 h => ?_) (fun h4 h => ?_)
  ·
   rw [decide_eq_true h4]
   refine Goes.rn 6 [(17, undef), (18, undef), (19, undef), (20, undef), (21, .bool true)] Jv ?_
   exact Goes.jp 36 [(1, .i x1), (2, (pt gx2 0)), (3, (pt b2 0)), (21, .bool true)] (u1l _ _ h gx2 _ _ (((Ext.refl S0 w0).trans z2).trans z3) b2 u5 x0.L.length u7 p3 um (un.ext (z2.trans z3)) rfl)
  ·
   rw [decide_eq_false h4]
   refine Goes.rn 2 [(17, (pt gx2 0)), (18, (pt gx2 0))] J16 ?_
   refine Goes.ld 3 (.tmp 18) 19 3 ⟨gx2, 0, none⟩ (.i (wr .i64 (u4 + 1))) (p3.c 1 0) ?_
   refine Goes.rn 3 [(20, .bool (decide (wr .i64 (u4 + 1) > 4096))), (21, .bool (decide (wr .i64 (u4 + 1) > 4096)))] Jv ?_
   exact Goes.jp 36 [(1, .i x1), (2, (pt gx2 0)), (3, (pt b2 0)), (21, .bool (decide (wr .i64 (u4 + 1) > 4096)))] (u1l _ _ h gx2 _ _ (((Ext.refl S0 w0).trans z2).trans z3) b2 u5 x0.L.length u7 p3 um (un.ext (z2.trans z3)) rfl)
 ·
  intro u1m u1n ⟨x1, x3v, x21, u8⟩ r h nz wz S0 w0 Lr iG gx2 S1 w1 hx gx3 u9 ua ub p1 ur ut uu junk
  try dsimp only at h
  subst uu
  refine ite_some h (fun h6 h => ?_) (fun h6 h => ?_)
  ·
   rw [h6]
   refine Goes.rn 5 [(6, .bool false)] J17 ?_
   obtain rfl := Option.some.inj h
   have p1 := p1.dp 0
   exact Goes.rt Tryd.f67 (.bool false) ⟨S1, rfl, hx, p1⟩
  ·
   have h6' : x21 = false := by simpa using h6
   rw [h6']
   refine Goes.rn 6 [(22, (pt gx3 5))] J19 ?_
   refine Goes.ld 26 (.tmp 22) 23 26 ⟨gx3, 5, none⟩ (.slice u9 x3v.L.length ub) (p1.c 0 5) ?_
   refine Goes.rn 5 [(24, .i (x3v.L.length : Int)), (25, .i 0)] Jz ?_
   have p1 := p1.dp 0
   exact Goes.jp 36 [(1, .i x1), (2, (pt gx2 0)), (23, .slice u9 x3v.L.length ub), (24, .i (x3v.L.length : Int)), (25, .i 0)] (u1n _ _ h gx2 _ _ hx u9 x3v.L.length ub p1 ut rfl)
 ·
  intro rec_syntax_count u1m ih_syntax_count u1n ⟨x1, x23, x24, x25, u8⟩ r h nz wz S0 w0 Lr iG gx2 S1 w1 hx u1h u1i u1j p1 u1o u1p junk
  try dsimp only at h
  subst u1p
  refine Goes.rn 5 [(26, .bool (decide (x25 < x24)))] J1b ?_
  refine ite_some h (fun h7 h => ?_) (fun h7 h => ?_)
  ·
   rw [decide_eq_true h7]
   refine Goes.rn 6 [] J1f ?_
   refine guard_some' h fun g8 h => ?_
   refine guard_some' h fun g9 h => ?_
   refine Op_.ixR_n 26 (.tmp 23) (.tmp 25) 27 0 28 .i64 x25 (gi x23 x25) rfl rfl u1o Goes.v (by kernel_rfl) (by kernel_rfl) (by kernel_rfl) (by kernel_rfl) g8 g9 ?_
   intro a10 _ f11 q12
   have q13 := q12
   obtain ⟨_, _, rfl, rfl, ⟨_, _, rfl, ⟨l14, f15⟩, ⟨_, _, rfl, ⟨A16, c17, rfl, f18⟩, ⟨_, _, rfl, rfl, rfl⟩⟩⟩⟩ := kT27_open q13
   obtain rfl := els_lit4' f15 l14
   refine Goes.ldN 28 (.tmp 27) 28 28 a10 ([.i ((gi x23 x25).Kind)] ++ ((U4 ((gi x23 x25).Set) []) ++ ([.slice A16 (((gi x23 x25).L).length) c17] ++ ([.i ((gi x23 x25).Min)] ++ [.i ((gi x23 x25).Max)])))) (f11.cell) ?_
   refine Op_.alloc 28 8 0 (.agg #[.i 0, .u 0, .u 0, .u 0, .u 0, .slice none 0 0, .i 0, .i 0]) [.i 0, .u 0, .u 0, .u 0, .u 0, .slice none 0 0, .i 0, .i 0] p1 Goes.v (by kernel_rfl) (by kernel_rfl) ?_
   intro b19 w4 z4 p4
   refine Op_.st 28 (.tmp 8) (.tmp 28) 0 0 b19 0 (ag (.i ((gi x23 x25).Kind) :: U4 ((gi x23 x25).Set) [.slice A16 (((gi x23 x25).L).length) c17, .i ((gi x23 x25).Min), .i ((gi x23 x25).Max)])) (.i ((gi x23 x25).Kind) :: U4 ((gi x23 x25).Set) [.slice A16 (((gi x23 x25).L).length) c17, .i ((gi x23 x25).Min), .i ((gi x23 x25).Max)]) p4 rfl Goes.s (by kernel_rfl) (by kernel_rfl) (by kernel_rfl) (by kernel_rfl) (Nat.zero_le _) (by simp only [List.length_cons, List.length_nil]; omega) (by simp [Value.oneCell']) ?_
   intro w5 z5 p5
   have p5 : Hp nz wz S1 w5 ((some b19, .row 28 (.i ((gi x23 x25).Kind) :: U4 ((gi x23 x25).Set) [.slice A16 (((gi x23 x25).L).length) c17, .i ((gi x23 x25).Min), .i ((gi x23 x25).Max)]) 8 0) :: (some gx2, .row 3 [.i u8] 1 0) :: Lr) := p5
   refine Goes.rn 3 [] J1h ?_
   refine Goes.ldN 28 (.tmp 8) 29 28 ⟨b19, 0, none⟩ (.i ((gi x23 x25).Kind) :: U4 ((gi x23 x25).Set) [.slice A16 (((gi x23 x25).L).length) c17, .i ((gi x23 x25).Min), .i ((gi x23 x25).Max)]) (p5.pa 0 0) ?_
   refine Goes.rn 3 [(30, .i x1), (31, .i (wr .i64 (x1 - 1))), (32, (pt gx2 0))] J1i ?_
   have p5 := p5.fr 1
   refine bind_some' h fun y21 e22 h => ?_
   refine Goes.cal (kc 67 [29, 31, 32] #[28, 3, 75]) 33 4 67 _ (ih_syntax_count ((⟨(gi x23 x25).Kind, ((gi x23 x25).Set), (gi x23 x25).L, (gi x23 x25).Min, (gi x23 x25).Max⟩ : T27), wr .i64 (x1 - 1), u8) y21 e22 A16 (((gi x23 x25).L).length) c17 gx2 p5 l14 (f18.ext (z4.trans z5)) rfl) ?_
   rintro _ w6 ⟨S6, rfl, z6, p6⟩
   have p6 := p6.dp 1
   refine Goes.rn 2 [(34, .bool (!y21.1))] J1g ?_
   refine ite_some h (fun h23 h => ?_) (fun h23 h => ?_)
   ·
    rw [h23]
    refine Goes.rn 8 [(35, .i (wr .i64 (x25 + 1))), (25, .i (wr .i64 (x25 + 1)))] Jz ?_
    exact Goes.jp 36 [(1, .i x1), (2, (pt gx2 0)), (23, .slice u1h x23.length u1j), (24, .i x24), (25, .i (wr .i64 (x25 + 1)))] (u1n _ _ h gx2 _ _ (((hx.trans z4).trans z5).trans z6) u1h x23.length u1j p6 (u1o.ext ((z4.trans z5).trans z6)) rfl)
   ·
    have u1q : y21.1 = false := by simpa using h23
    rw [u1q]
    refine Goes.rn 5 [(6, .bool false)] J1j ?_
    obtain rfl := Option.some.inj h
    exact Goes.rt Tryd.f67 (.bool false) ⟨S6, rfl, (((hx.trans z4).trans z5).trans z6), p6⟩
  ·
   rw [decide_eq_false h7]
   refine Goes.rn 6 [(6, .bool true)] J1k ?_
   obtain rfl := Option.some.inj h
   exact Goes.rt Tryd.f67 (.bool true) ⟨S1, rfl, hx, p1⟩

theorem W.z5 : ∀ a r, M.syntax_count a = some r → LF.z5 a r := (W.z8).1

theorem W.z6 : ∀ a r, M.syntax_count_l0 a = some r → LL.z6 a r := (W.z8).2.1

theorem W.z7 : ∀ a r, M.syntax_count_l1 a = some r → LL.z7 a r := (W.z8).2.2

def Q18 := sub [1, 1, 1, 1] B80
def J1l : List Item := [.code Q18]
def J1m : List Item := .inBlock 0 :: J1l
def Q19 := sub [1, 1, 1, 0, 1, 0, 1, 1, 1, 1, 1, 0, 1, 1] B80
def J1n : List Item := .code Q19 :: J1m
def Q1a := sub [1, 1, 1, 0, 1, 0, 1, 1, 1, 1, 1, 0, 1, 1, 1] B80
def J1o : List Item := .code Q1a :: J1m
def Q1b := sub [1, 1, 1, 0, 1, 0, 1, 1, 1, 1, 1, 0, 1, 1, 0] B80
def J1p : List Item := .inRegion (opsOf Q1b) [1, 2, 3, 4, 5, 6, 7, 8, 9, 10, 11, 12, 13, 14, 15, 16] :: J1o
def J1q : List Item := .inRegion (opsOf Q1b) [5, 6, 7, 8, 9, 10, 11, 12, 13, 14, 15, 16] :: J1o
def J1r : List Item := .inRegion (opsOf Q1b) [6, 7, 8, 9, 10, 11, 12, 13, 14, 15, 16] :: J1o
def J1s : List Item := .inRegion (opsOf Q1b) [11, 12, 13, 14, 15, 16] :: J1o
def J1t : List Item := .inRegion (opsOf Q1b) [14, 15, 16] :: J1o

def Post.z9 (r : Bool) (v : Value) (w' : World) : Prop :=
 ∃ S', v = .bool r ∧ Ext S0 w0 S' w' ∧ Hp nz wz S' w' (Lr)

def L.za : T27 × (List Int) × Bool × Bool → Bool → Prop := fun ⟨x1v, u1r, x5, x6⟩ r => ∀ S1 w1, Ext S0 w0 S1 w1 → ∀ gx1 u1s u1t u1u gx3 (_ : Hp nz wz S1 w1 ((some gx1, .row 28 (.i x1v.Kind :: U4 x1v.Set [.slice u1s u1t u1u, .i x1v.Min, .i x1v.Max]) 8 0) :: (some gx3, .row 25 (U4 u1r []) 4 0) :: Lr)) (_ : x1v.Set.length = 4) (_ : Rd kT27 S1 w1 u1s u1u x1v.L) (_ : x1v.L.length = u1t) (_ : u1r.length = 4) (junk : Nat → Value),
 Goes Tryd.prog (base 80) J1n ⟨lfr 77 [(1, (pt gx1 0)), (3, (pt gx3 0)), (5, .bool x5), (6, .bool x6)] junk, []⟩ w1 (Done Tryd.prog 80 (Rets (Post.z9 nz wz S0 w0 Lr r)))

theorem W.za {nz wz S0 w0 Lr} [Gw nz wz] : ∀ a r, M.syntax_shaped_l3 a = some r → L.za nz wz S0 w0 Lr a r := by
 intro ⟨x1v, u1r, x5, x6⟩ r h S1 w1 hx gx1 u1s u1t u1u gx3 p1 u1v u1w u1x u1y junk
 rw [M.syntax_shaped_l3] at h
 try dsimp only at h
 subst u1x
 refine Goes.rn 3 [(61, (pt gx1 5))] J1p ?_
 refine Goes.ld 26 (.tmp 61) 62 26 ⟨gx1, 5, none⟩ (.slice u1s x1v.L.length u1u) (p1.c 0 5) ?_
 refine Goes.rn 3 [(63, .i (x1v.L.length : Int)), (64, .bool (decide ((x1v.L.length : Int) = 1))), (65, .bool (decide ((x1v.L.length : Int) = 1)))] J1q ?_
 refine ite_some h (fun h23 h => ?_) (fun h23 h => ?_)
 ·
  rw [decide_eq_true h23]
  refine Goes.rn 1 [(66, (pt gx1 1))] J1r ?_
  refine Goes.ldN 25 (.tmp 66) 67 25 ⟨gx1, 1, none⟩ (U4 x1v.Set []) (p1.pa 0 1) ?_
  refine Goes.ldN 25 (.tmp 3) 68 25 ⟨gx3, 0, none⟩ (U4 u1r []) (p1.pa 1 0) ?_
  refine Op_.eqA 25 (.tmp 67) (.tmp 68) 25 69 4 23 4 .u64 (us := ((U4 x1v.Set []) : List Value)) (vs := ((U4 u1r []) : List Value)) Goes.v (by kernel_rfl) (by kernel_rfl) (by kernel_rfl) (by kernel_rfl) (by kernel_rfl) (by kernel_rfl) (by kernel_rfl) (els_mk4 (S := S1) (w := w1) (k := .u64) u1v) (els_mk4 (S := S1) (w := w1) (k := .u64) u1y) (Els.len1 (els_mk4 (S := S1) (w := w1) (k := .u64) u1v) rfl rfl) (Els.len1 (els_mk4 (S := S1) (w := w1) (k := .u64) u1y) rfl rfl) ?_
  refine Goes.rn 2 [(70, .bool (decide (x1v.Set = u1r))), (71, .bool (decide (x1v.Set = u1r)))] J1s ?_
  refine ite_some h (fun h24 h => ?_) (fun h24 h => ?_)
  ·
   rw [decide_eq_true h24]
   refine Goes.rn 3 [(72, .bool x5), (73, .bool x5), (74, .bool x5)] J1t ?_
   refine ite_some h (fun h25 h => ?_) (fun h25 h => ?_)
   ·
    rw [h25]
    refine Goes.rn 4 [(75, .bool x6), (76, .bool x6), (2, .bool x6)] J1o ?_
    obtain rfl := Option.some.inj h
    have p1 := (p1.dp 0).dp 0
    exact Goes.rt Tryd.f80 (.bool x6) ⟨S1, rfl, hx, p1⟩
   ·
    have u1z : x5 = false := by simpa using h25
    rw [u1z]
    refine Goes.rn 4 [(75, undef), (76, .bool false), (2, .bool false)] J1o ?_
    obtain rfl := Option.some.inj h
    have p1 := (p1.dp 0).dp 0
    exact Goes.rt Tryd.f80 (.bool false) ⟨S1, rfl, hx, p1⟩
  ·
   rw [decide_eq_false h24]
   refine Goes.rn 7 [(72, undef), (73, .bool false), (74, .bool false), (75, undef), (76, .bool false), (2, .bool false)] J1o ?_
   obtain rfl := Option.some.inj h
   have p1 := (p1.dp 0).dp 0
   exact Goes.rt Tryd.f80 (.bool false) ⟨S1, rfl, hx, p1⟩
 ·
  rw [decide_eq_false h23]
  refine Goes.rn 13 [(66, undef), (67, undef), (68, undef), (69, undef), (70, .bool false), (71, .bool false), (72, undef), (73, .bool false), (74, .bool false), (75, undef), (76, .bool false), (2, .bool false)] J1o ?_
  obtain rfl := Option.some.inj h
  have p1 := (p1.dp 0).dp 0
  exact Goes.rt Tryd.f80 (.bool false) ⟨S1, rfl, hx, p1⟩

def Q1c := sub [1, 1, 1, 0, 1, 0, 1, 1, 1, 1, 1, 0, 1] B80
def J1u : List Item := .code Q1c :: J1m
def Q1d := sub [1, 1, 1, 0, 1, 0, 1, 1, 1, 1, 1, 0, 1, 0] B80
def J1v : List Item := .inRegion (opsOf Q1d) [1, 2, 3, 4, 5, 6, 7, 8, 9, 10, 11, 12, 13, 14, 15] :: J1n
def J1w : List Item := .inRegion (opsOf Q1d) [4, 5, 6, 7, 8, 9, 10, 11, 12, 13, 14, 15] :: J1n
def J1x : List Item := .inRegion (opsOf Q1d) [5, 6, 7, 8, 9, 10, 11, 12, 13, 14, 15] :: J1n
def J1y : List Item := .inRegion (opsOf Q1d) [7, 8, 9, 10, 11, 12, 13, 14, 15] :: J1n
def J1z : List Item := .inRegion (opsOf Q1d) [10, 11, 12, 13, 14, 15] :: J1n
def J20 : List Item := .inRegion (opsOf Q1d) [11, 12, 13, 14, 15] :: J1n

def L.zb : T27 × (List Int) × Bool → Bool → Prop := fun ⟨x1v, u1r, x5⟩ r => ∀ S1 w1, Ext S0 w0 S1 w1 → ∀ gx1 u1s u1t u1u gx3 (_ : Hp nz wz S1 w1 ((some gx1, .row 28 (.i x1v.Kind :: U4 x1v.Set [.slice u1s u1t u1u, .i x1v.Min, .i x1v.Max]) 8 0) :: (some gx3, .row 25 (U4 u1r []) 4 0) :: Lr)) (_ : x1v.Set.length = 4) (_ : Rd kT27 S1 w1 u1s u1u x1v.L) (_ : x1v.L.length = u1t) (_ : u1r.length = 4) (junk : Nat → Value),
 Goes Tryd.prog (base 80) J1u ⟨lfr 77 [(1, (pt gx1 0)), (3, (pt gx3 0)), (5, .bool x5)] junk, []⟩ w1 (Done Tryd.prog 80 (Rets (Post.z9 nz wz S0 w0 Lr r)))

theorem W.zb {nz wz S0 w0 Lr} [Gw nz wz] : ∀ a r, M.syntax_shaped_l2 a = some r → L.zb nz wz S0 w0 Lr a r := by
 intro ⟨x1v, u1r, x5⟩ r h S1 w1 hx gx1 u1s u1t u1u gx3 p1 u1v u1w u1x u1y junk
 rw [M.syntax_shaped_l2] at h
 try dsimp only at h
 subst u1x
 refine Goes.rn 3 [(46, (pt gx1 7))] J1v ?_
 refine Goes.ld 3 (.tmp 46) 47 3 ⟨gx1, 7, none⟩ (.i x1v.Max) (p1.c 0 7) ?_
 refine Goes.rn 2 [(48, .bool (decide (x1v.Max = (-1)))), (49, .bool (decide (x1v.Max = (-1))))] J1w ?_
 refine ite_some h (fun h19 h => ?_) (fun h19 h => ?_)
 ·
  rw [decide_eq_true h19]
  refine Goes.rn 13 [(50, undef), (51, undef), (52, undef), (53, undef), (54, undef), (55, undef), (56, undef), (57, undef), (58, undef), (59, undef), (60, .bool true), (6, .bool true)] J1n ?_
  exact Goes.jp 77 [(1, (pt gx1 0)), (3, (pt gx3 0)), (5, .bool x5), (6, .bool true)] (W.za _ _ h _ _ hx gx1 u1s x1v.L.length u1u gx3 p1 u1v u1w rfl u1y)
 ·
  rw [decide_eq_false h19]
  refine Goes.rn 1 [(50, (pt gx1 7))] J1x ?_
  refine Goes.ld 3 (.tmp 50) 51 3 ⟨gx1, 7, none⟩ (.i x1v.Max) (p1.c 0 7) ?_
  refine Goes.rn 1 [(52, (pt gx1 6))] J1y ?_
  refine Goes.ld 3 (.tmp 52) 53 3 ⟨gx1, 6, none⟩ (.i x1v.Min) (p1.c 0 6) ?_
  refine Goes.rn 2 [(54, .bool (decide (x1v.Max ≥ x1v.Min))), (55, .bool (decide (x1v.Max ≥ x1v.Min)))] J1z ?_
  refine ite_some h (fun h22 h => ?_) (fun h22 h => ?_)
  ·
   rw [decide_eq_true h22]
   refine Goes.rn 1 [(56, (pt gx1 7))] J20 ?_
   refine Goes.ld 3 (.tmp 56) 57 3 ⟨gx1, 7, none⟩ (.i x1v.Max) (p1.c 0 7) ?_
   refine Goes.rn 5 [(58, .bool (decide (x1v.Max ≤ 64))), (59, .bool (decide (x1v.Max ≤ 64))), (60, .bool (decide (x1v.Max ≤ 64))), (6, .bool (decide (x1v.Max ≤ 64)))] J1n ?_
   exact Goes.jp 77 [(1, (pt gx1 0)), (3, (pt gx3 0)), (5, .bool x5), (6, .bool (decide (x1v.Max ≤ 64)))] (W.za _ _ h _ _ hx gx1 u1s x1v.L.length u1u gx3 p1 u1v u1w rfl u1y)
  ·
   rw [decide_eq_false h22]
   refine Goes.rn 7 [(56, undef), (57, undef), (58, undef), (59, .bool false), (60, .bool false), (6, .bool false)] J1n ?_
   exact Goes.jp 77 [(1, (pt gx1 0)), (3, (pt gx3 0)), (5, .bool x5), (6, .bool false)] (W.za _ _ h _ _ hx gx1 u1s x1v.L.length u1u gx3 p1 u1v u1w rfl u1y)

def Q1e := sub [1, 1, 1, 0, 1, 0, 1, 1, 1] B80
def J21 : List Item := .code Q1e :: J1m
def Q1f := sub [1, 1, 1, 0, 1, 0, 1, 1, 1, 0, 1] B80
def J22 : List Item := .code Q1f :: J1m
def Q1g := sub [1, 1, 1, 0, 1, 0, 1, 1, 1, 0, 0] B80
def J23 : List Item := .inRegion (opsOf Q1g) [1, 2, 3, 4, 5, 6, 7] :: J22
def J24 : List Item := .inRegion (opsOf Q1g) [5, 6, 7] :: J22
def Q1h := sub [1, 1, 1, 0, 1, 0, 1, 1, 1, 1, 1] B80
def J25 : List Item := .code Q1h :: J1m
def Q1i := sub [1, 1, 1, 0, 1, 0, 1, 1, 1, 1, 1, 0, 0] B80
def J26 : List Item := .inRegion (opsOf Q1i) [1, 2, 3, 4, 5, 6, 7, 8] :: J1u
def J27 : List Item := .inRegion (opsOf Q1i) [4, 5, 6, 7, 8] :: J1u
def J28 : List Item := .inRegion (opsOf Q1i) [5, 6, 7, 8] :: J1u
def Q1j := sub [1, 1, 1, 1, 1] B80
def J29 : List Item := [.code Q1j]

def L.zc : T27 × (List Int) × Bool × Int × Bool → Bool → Prop := fun ⟨x1v, u1r, x4, x16, x26⟩ r => ∀ S1 w1, Ext S0 w0 S1 w1 → ∀ gx1 u1s u1t u1u gx3 (_ : Hp nz wz S1 w1 ((some gx1, .row 28 (.i x1v.Kind :: U4 x1v.Set [.slice u1s u1t u1u, .i x1v.Min, .i x1v.Max]) 8 0) :: (some gx3, .row 25 (U4 u1r []) 4 0) :: Lr)) (_ : x1v.Set.length = 4) (_ : Rd kT27 S1 w1 u1s u1u x1v.L) (_ : x1v.L.length = u1t) (_ : u1r.length = 4) (junk : Nat → Value),
 Goes Tryd.prog (base 80) J21 ⟨lfr 77 [(1, (pt gx1 0)), (3, (pt gx3 0)), (4, .bool x4), (16, .i x16), (26, .bool x26)] junk, []⟩ w1 (Done Tryd.prog 80 (Rets (Post.z9 nz wz S0 w0 Lr r)))

theorem W.zc {nz wz S0 w0 Lr} [Gw nz wz] : ∀ a r, M.syntax_shaped_l1 a = some r → L.zc nz wz S0 w0 Lr a r := by
 intro ⟨x1v, u1r, x4, x16, x26⟩ r h S1 w1 hx gx1 u1s u1t u1u gx3 p1 u1v u1w u1x u1y junk
 rw [M.syntax_shaped_l1] at h
 try dsimp only at h
 subst u1x
 refine ite_some h (fun h13 h => ?_) (fun h13 h => ?_)
 ·
  rw [h13]
  refine Goes.rn 4 [(29, (pt gx1 1))] J23 ?_
  refine Goes.ldN 25 (.tmp 29) 30 25 ⟨gx1, 1, none⟩ (U4 x1v.Set []) (p1.pa 0 1) ?_
  refine Goes.ldN 25 (.tmp 3) 31 25 ⟨gx3, 0, none⟩ (U4 u1r []) (p1.pa 1 0) ?_
  refine Op_.eqA 25 (.tmp 30) (.tmp 31) 25 32 4 23 4 .u64 (us := ((U4 x1v.Set []) : List Value)) (vs := ((U4 u1r []) : List Value)) Goes.v (by kernel_rfl) (by kernel_rfl) (by kernel_rfl) (by kernel_rfl) (by kernel_rfl) (by kernel_rfl) (by kernel_rfl) (els_mk4 (S := S1) (w := w1) (k := .u64) u1v) (els_mk4 (S := S1) (w := w1) (k := .u64) u1y) (Els.len1 (els_mk4 (S := S1) (w := w1) (k := .u64) u1v) rfl rfl) (Els.len1 (els_mk4 (S := S1) (w := w1) (k := .u64) u1y) rfl rfl) ?_
  refine Goes.rn 1 [(33, .bool (decide (x1v.Set = u1r)))] J24 ?_
  refine ite_some h (fun h14 h => ?_) (fun h14 h => ?_)
  ·
   rw [decide_eq_true h14]
   refine Goes.rn 4 [(34, .bool x4), (35, .bool x4), (2, .bool x4)] J22 ?_
   obtain rfl := Option.some.inj h
   have p1 := (p1.dp 0).dp 0
   exact Goes.rt Tryd.f80 (.bool x4) ⟨S1, rfl, hx, p1⟩
  ·
   rw [decide_eq_false h14]
   refine Goes.rn 4 [(34, undef), (35, .bool false), (2, .bool false)] J22 ?_
   obtain rfl := Option.some.inj h
   have p1 := (p1.dp 0).dp 0
   exact Goes.rt Tryd.f80 (.bool false) ⟨S1, rfl, hx, p1⟩
 ·
  have u20 : x26 = false := by simpa using h13
  rw [u20]
  refine Goes.rn 6 [(37, .bool (decide (x16 = 4))), (36, .bool (decide (x16 = 4)))] J25 ?_
  refine ite_some h (fun h15 h => ?_) (fun h15 h => ?_)
  ·
   rw [decide_eq_true h15]
   refine Goes.rn 4 [(38, (pt gx1 6))] J26 ?_
   refine Goes.ld 3 (.tmp 38) 39 3 ⟨gx1, 6, none⟩ (.i x1v.Min) (p1.c 0 6) ?_
   refine Goes.rn 2 [(40, .bool (decide (x1v.Min ≥ 0))), (41, .bool (decide (x1v.Min ≥ 0)))] J27 ?_
   refine ite_some h (fun h16 h => ?_) (fun h16 h => ?_)
   ·
    rw [decide_eq_true h16]
    refine Goes.rn 1 [(42, (pt gx1 6))] J28 ?_
    refine Goes.ld 3 (.tmp 42) 43 3 ⟨gx1, 6, none⟩ (.i x1v.Min) (p1.c 0 6) ?_
    refine Goes.rn 4 [(44, .bool (decide (x1v.Min ≤ 64))), (45, .bool (decide (x1v.Min ≤ 64))), (5, .bool (decide (x1v.Min ≤ 64)))] J1u ?_
    exact Goes.jp 77 [(1, (pt gx1 0)), (3, (pt gx3 0)), (5, .bool (decide (x1v.Min ≤ 64)))] (W.zb _ _ h _ _ hx gx1 u1s x1v.L.length u1u gx3 p1 u1v u1w rfl u1y)
   ·
    rw [decide_eq_false h16]
    refine Goes.rn 6 [(42, undef), (43, undef), (44, undef), (45, .bool false), (5, .bool false)] J1u ?_
    exact Goes.jp 77 [(1, (pt gx1 0)), (3, (pt gx3 0)), (5, .bool false)] (W.zb _ _ h _ _ hx gx1 u1s x1v.L.length u1u gx3 p1 u1v u1w rfl u1y)
  ·
   rw [decide_eq_false h15]
   refine Goes.rn 7 [(2, .bool false)] J29 ?_
   obtain rfl := Option.some.inj h
   have p1 := (p1.dp 0).dp 0
   exact Goes.rt Tryd.f80 (.bool false) ⟨S1, rfl, hx, p1⟩

def Q1k := sub [1, 1, 1] B80
def J2a : List Item := [.code Q1k]
def Q1l := sub [1, 1, 1, 0, 1] B80
def J2b : List Item := .code Q1l :: J1l
def Q1m := sub [1, 1, 1, 0, 0] B80
def J2c : List Item := .inRegion (opsOf Q1m) [1] :: J2b
def Q1n := sub [1, 1, 1, 0, 1, 0, 1] B80
def J2d : List Item := .code Q1n :: J1m
def Q1o := sub [1, 1, 1, 0, 1, 0, 1, 0, 1] B80
def J2e : List Item := .code Q1o :: J1m
def Q1p := sub [1, 1, 1, 0, 1, 0, 1, 0, 0] B80
def J2f : List Item := .inRegion (opsOf Q1p) [1, 2, 3, 4, 5, 6, 7] :: J2e
def J2g : List Item := .inRegion (opsOf Q1p) [5, 6, 7] :: J2e
def Q1q := sub [1, 1, 1, 0, 1, 0, 1, 1, 0, 1] B80
def J2h : List Item := .code Q1q :: J21

def L.zd : T27 × (List Int) × Bool → Bool → Prop := fun ⟨x1v, u1r, x4⟩ r => ∀ S1 w1, Ext S0 w0 S1 w1 → ∀ gx1 u1s u1t u1u gx3 (_ : Hp nz wz S1 w1 ((some gx1, .row 28 (.i x1v.Kind :: U4 x1v.Set [.slice u1s u1t u1u, .i x1v.Min, .i x1v.Max]) 8 0) :: (some gx3, .row 25 (U4 u1r []) 4 0) :: Lr)) (_ : x1v.Set.length = 4) (_ : Rd kT27 S1 w1 u1s u1u x1v.L) (_ : x1v.L.length = u1t) (_ : u1r.length = 4) (junk : Nat → Value),
 Goes Tryd.prog (base 80) J2a ⟨lfr 77 [(1, (pt gx1 0)), (3, (pt gx3 0)), (4, .bool x4)] junk, []⟩ w1 (Done Tryd.prog 80 (Rets (Post.z9 nz wz S0 w0 Lr r)))

theorem W.zd {nz wz S0 w0 Lr} [Gw nz wz] : ∀ a r, M.syntax_shaped_l0 a = some r → L.zd nz wz S0 w0 Lr a r := by
 intro ⟨x1v, u1r, x4⟩ r h S1 w1 hx gx1 u1s u1t u1u gx3 p1 u1v u1w u1x u1y junk
 rw [M.syntax_shaped_l0] at h
 try dsimp only at h
 subst u1x
 refine Goes.rn 4 [(15, (pt gx1 0))] J2c ?_
 refine Goes.ld 3 (.tmp 15) 16 3 ⟨gx1, 0, none⟩ (.i x1v.Kind) (p1.c 0 0) ?_
 refine Goes.rn 7 [(18, .bool (decide (x1v.Kind = 1))), (17, .bool (decide (x1v.Kind = 1)))] J2d ?_
 refine ite_some h (fun h8 h => ?_) (fun h8 h => ?_)
 ·
  rw [decide_eq_true h8]
  refine Goes.rn 4 [(19, (pt gx1 5))] J2f ?_
  refine Goes.ld 26 (.tmp 19) 20 26 ⟨gx1, 5, none⟩ (.slice u1s x1v.L.length u1u) (p1.c 0 5) ?_
  refine Goes.rn 3 [(21, .i (x1v.L.length : Int)), (22, .bool (decide ((x1v.L.length : Int) = 0))), (23, .bool (decide ((x1v.L.length : Int) = 0)))] J2g ?_
  refine ite_some h (fun h9 h => ?_) (fun h9 h => ?_)
  ·
   rw [decide_eq_true h9]
   refine Goes.rn 4 [(24, .bool x4), (25, .bool x4), (2, .bool x4)] J2e ?_
   obtain rfl := Option.some.inj h
   have p1 := (p1.dp 0).dp 0
   exact Goes.rt Tryd.f80 (.bool x4) ⟨S1, rfl, hx, p1⟩
  ·
   rw [decide_eq_false h9]
   refine Goes.rn 4 [(24, undef), (25, .bool false), (2, .bool false)] J2e ?_
   obtain rfl := Option.some.inj h
   have p1 := (p1.dp 0).dp 0
   exact Goes.rt Tryd.f80 (.bool false) ⟨S1, rfl, hx, p1⟩
 ·
  rw [decide_eq_false h8]
  refine Goes.rn 7 [(27, .bool (decide (x1v.Kind = 2))), (26, .bool (decide (x1v.Kind = 2)))] J2h ?_
  refine ite_some h (fun h10 h => ?_) (fun h10 h => ?_)
  ·
   rw [decide_eq_true h10]
   refine Goes.rn 2 [] J21 ?_
   exact Goes.jp 77 [(1, (pt gx1 0)), (3, (pt gx3 0)), (4, .bool x4), (16, .i x1v.Kind), (26, .bool true)] (W.zc _ _ h _ _ hx gx1 u1s x1v.L.length u1u gx3 p1 u1v u1w rfl u1y)
  ·
   rw [decide_eq_false h10]
   refine Goes.rn 5 [(28, .bool (decide (x1v.Kind = 3))), (26, .bool (decide (x1v.Kind = 3)))] J21 ?_
   exact Goes.jp 77 [(1, (pt gx1 0)), (3, (pt gx3 0)), (4, .bool x4), (16, .i x1v.Kind), (26, .bool (decide (x1v.Kind = 3)))] (W.zc _ _ h _ _ hx gx1 u1s x1v.L.length u1u gx3 p1 u1v u1w rfl u1y)

def Q1r := sub [1] B80
def J2i : List Item := [.code Q1r]
def Q1s := sub [0] B80
def J2j : List Item := .inRegion (opsOf Q1s) [0, 1] :: J2i
def Q1t := sub [1, 1] B80
def J2k : List Item := [.code Q1t]
def Q1u := sub [1, 0] B80
def J2l : List Item := .inRegion (opsOf Q1u) [0] :: J2k
def Q1v := sub [1, 1, 0] B80
def J2m : List Item := .inRegion (opsOf Q1v) [1, 2, 3, 4, 5, 6, 7, 8] :: J2a
def J2n : List Item := .inRegion (opsOf Q1v) [4, 5, 6, 7, 8] :: J2a
def J2o : List Item := .inRegion (opsOf Q1v) [5, 6, 7, 8] :: J2a

theorem W.z9 (x0 : T27) (r : Bool) (h : M.syntax_shaped x0 = some r) {nz wz S0 w0 Lr} [Gw nz wz] (u5 u6 u7) (p0 : Hp nz wz S0 w0 (Lr)) (um : x0.Set.length = 4) (un : Rd kT27 S0 w0 u5 u7 x0.L) (uo : x0.L.length = u6) :
  Calls Tryd.prog 80 #[(ag (.i x0.Kind :: U4 x0.Set [.slice u5 u6 u7, .i x0.Min, .i x0.Max]))] w0 (Rets (Post.z9 nz wz S0 w0 Lr r)) := by
 subst uo
 refine calls_of_goes (fn := Tryd.f80) (c := B80) (by kernel_rfl) (by kernel_rfl) 76 (by kernel_rfl) ?_
 refine Goes.jp 77 [(0, (ag (.i x0.Kind :: U4 x0.Set [.slice u5 x0.L.length u7, .i x0.Min, .i x0.Max])))] (fun junk => ?_)
 delta M.syntax_shaped at h
 refine Goes.rn 2 [] J2j ?_
 refine Op_.box 28 (.tmp 0) 1 0 (ag (.i x0.Kind :: U4 x0.Set [.slice u5 x0.L.length u7, .i x0.Min, .i x0.Max])) (.i x0.Kind :: U4 x0.Set [.slice u5 x0.L.length u7, .i x0.Min, .i x0.Max]) p0 Goes.v (by kernel_rfl) (by kernel_rfl) ?_
 intro b1 w2 z2 p2
 refine Goes.rn 4 [(2, .bool false)] J2l ?_
 refine Op_.alloc 25 3 0 (.agg #[.u 0, .u 0, .u 0, .u 0]) [.u 0, .u 0, .u 0, .u 0] p2 Goes.v (by kernel_rfl) (by kernel_rfl) ?_
 intro b3 w3 z3 p3
 refine Goes.rn 4 [(7, (pt b1 6))] J2m ?_
 refine Goes.ld 3 (.tmp 7) 8 3 ⟨b1, 6, none⟩ (.i x0.Min) (p3.c 1 6) ?_
 refine Goes.rn 2 [(9, .bool (decide (x0.Min = 0))), (10, .bool (decide (x0.Min = 0)))] J2n ?_
 refine ite_some h (fun h5 h => ?_) (fun h5 h => ?_)
 ·
  rw [decide_eq_true h5]
  refine Goes.rn 1 [(11, (pt b1 7))] J2o ?_
  refine Goes.ld 3 (.tmp 11) 12 3 ⟨b1, 7, none⟩ (.i x0.Max) (p3.c 1 7) ?_
  refine Goes.rn 4 [(13, .bool (decide (x0.Max = 0))), (14, .bool (decide (x0.Max = 0))), (4, .bool (decide (x0.Max = 0)))] J2a ?_
  have p3 := (p3.fr 0).fr 1
  exact Goes.jp 77 [(1, (pt b1 0)), (3, (pt b3 0)), (4, .bool (decide (x0.Max = 0)))] (W.zd _ _ h _ _ (((Ext.refl S0 w0).trans z2).trans z3) b1 u5 x0.L.length u7 b3 p3 um (un.ext (z2.trans z3)) rfl rfl)
 ·
  rw [decide_eq_false h5]
  refine Goes.rn 6 [(11, undef), (12, undef), (13, undef), (14, .bool false), (4, .bool false)] J2a ?_
  have p3 := (p3.fr 0).fr 1
  exact Goes.jp 77 [(1, (pt b1 0)), (3, (pt b3 0)), (4, .bool false)] (W.zd _ _ h _ _ (((Ext.refl S0 w0).trans z2).trans z3) b1 u5 x0.L.length u7 b3 p3 um (un.ext (z2.trans z3)) rfl rfl)

def Q1w := sub [1, 1] B68
def J2p : List Item := [.code Q1w]
def J2q : List Item := .inBlock 0 :: J2p
def Q1x := sub [1, 0, 1, 0, 0] B68
def J2r : List Item := .inLoop Q1x :: J2q
def J2s : List Item := .code Q1x :: J2r
def Q1y := sub [1] B68
def J2t : List Item := [.code Q1y]
def Q1z := sub [0] B68
def J2u : List Item := .inRegion (opsOf Q1z) [0, 1] :: J2t
def Q20 := sub [1, 0, 1] B68
def J2v : List Item := .code Q20 :: J2p
def Q21 := sub [1, 0, 0] B68
def J2w : List Item := .inRegion (opsOf Q21) [1, 2, 3] :: J2v
def Q22 := sub [1, 0, 1, 0, 0, 1, 1] B68
def J2x : List Item := .code Q22 :: J2r
def Q23 := sub [1, 0, 1, 0, 0, 1, 0] B68
def J2y : List Item := .code Q23 :: J2x
def Q24 := sub [1, 0, 1, 0, 0, 1, 1, 1] B68
def J2z : List Item := .code Q24 :: J2r
def J30 : List Item := .inBlock 1 :: J2z
def Q25 := sub [1, 0, 1, 0, 0, 1, 1, 0, 0, 1] B68
def J31 : List Item := .code Q25 :: J30
def Q26 := sub [1, 0, 1, 0, 0, 1, 1, 0, 0, 0] B68
def J32 : List Item := .inRegion (opsOf Q26) [0, 1, 2, 3] :: J31
def Q27 := sub [1, 0, 1, 0, 0, 1, 1, 0, 0, 1, 1] B68
def J33 : List Item := .code Q27 :: J30
def Q28 := sub [1, 0, 1, 0, 0, 1, 1, 0, 0, 1, 0] B68
def J34 : List Item := .inRegion (opsOf Q28) [0, 1, 2] :: J33
def Q29 := sub [1, 0, 1, 0, 0, 1, 1, 0, 0, 1, 1, 0, 1] B68
def J35 : List Item := .code Q29 :: J30
def Q2a := sub [1, 1, 1] B68
def J36 : List Item := [.code Q2a]
def Q2b := sub [1, 1, 0] B68
def J37 : List Item := .inRegion (opsOf Q2b) [0, 1, 2] :: J36

def Post.ze (r : Bool) (v : Value) (w' : World) : Prop :=
 ∃ S', v = .bool r ∧ Ext S0 w0 S' w' ∧ Hp nz wz S' w' (Lr)

def LF.ze : T27 → Bool → Prop := fun x0 r => ∀ {nz wz S0 w0 Lr} [Gw nz wz] u5 u6 u7 (_ : Hp nz wz S0 w0 (Lr)) (_ : x0.Set.length = 4) (_ : Rd kT27 S0 w0 u5 u7 x0.L) (_ : x0.L.length = u6),
 Calls Tryd.prog 68 #[(ag (.i x0.Kind :: U4 x0.Set [.slice u5 u6 u7, .i x0.Min, .i x0.Max]))] w0 (Rets (Post.ze nz wz S0 w0 Lr r))

def L.zf : T27 × (List T27) × Int × Int → Bool → Prop := fun ⟨x1v, x6, x7, x8⟩ r => ∀ S1 w1, Ext S0 w0 S1 w1 → ∀ gx1 u1s u1t u1u Ax6 nx6 cx6 (_ : Hp nz wz S1 w1 ((some gx1, .row 28 (.i x1v.Kind :: U4 x1v.Set [.slice u1s u1t u1u, .i x1v.Min, .i x1v.Max]) 8 0) :: Lr)) (_ : x1v.Set.length = 4) (_ : Rd kT27 S1 w1 u1s u1u x1v.L) (_ : x1v.L.length = u1t) (_ : Rd kT27 S1 w1 Ax6 cx6 x6) (_ : x6.length = nx6) (junk : Nat → Value),
 Goes Tryd.prog (base 68) J2s ⟨lfr 18 [(1, (pt gx1 0)), (6, .slice Ax6 nx6 cx6), (7, .i x7), (8, .i x8)] junk, []⟩ w1 (Done Tryd.prog 68 (Rets (Post.ze nz wz S0 w0 Lr r)))

def LL.zf : T27 × (List T27) × Int × Int → Bool → Prop := fun a r => ∀ {nz wz S0 w0 Lr} [Gw nz wz], L.zf nz wz S0 w0 Lr a r

theorem W.zg : (∀ a r, M.syntax_right a = some r → LF.ze a r) ∧ (∀ a r, M.syntax_right_l0 a = some r → LL.zf a r) := by
 refine M.syntax_right.mutual_partial_correctness LF.ze LL.zf ?_ ?_
 ·
  intro u21 u22 x0 r h nz wz S0 w0 Lr iG u5 u6 u7 p0 um un uo
  try dsimp only at h
  subst uo
  refine calls_of_goes (fn := Tryd.f68) (c := B68) (by kernel_rfl) (by kernel_rfl) 17 (by kernel_rfl) ?_
  refine Goes.jp 18 [(0, (ag (.i x0.Kind :: U4 x0.Set [.slice u5 x0.L.length u7, .i x0.Min, .i x0.Max])))] (fun junk => ?_)
  refine Goes.rn 2 [] J2u ?_
  refine Op_.box 28 (.tmp 0) 1 0 (ag (.i x0.Kind :: U4 x0.Set [.slice u5 x0.L.length u7, .i x0.Min, .i x0.Max])) (.i x0.Kind :: U4 x0.Set [.slice u5 x0.L.length u7, .i x0.Min, .i x0.Max]) p0 Goes.v (by kernel_rfl) (by kernel_rfl) ?_
  intro b1 w2 z2 p2
  refine Goes.rn 6 [(2, .bool false), (5, (pt b1 5))] J2w ?_
  refine Goes.ld 26 (.tmp 5) 6 26 ⟨b1, 5, none⟩ (.slice u5 x0.L.length u7) (p2.c 0 5) ?_
  refine Goes.rn 5 [(7, .i (x0.L.length : Int)), (8, .i 0)] J2s ?_
  exact Goes.jp 18 [(1, (pt b1 0)), (6, .slice u5 x0.L.length u7), (7, .i (x0.L.length : Int)), (8, .i 0)] (u22 _ _ h _ _ ((Ext.refl S0 w0).trans z2) b1 u5 x0.L.length u7 u5 x0.L.length u7 p2 um (un.ext z2) rfl (un.ext z2) rfl)
 ·
  intro rec_syntax_right u21 ih_syntax_right u22 ⟨x1v, x6, x7, x8⟩ r h nz wz S0 w0 Lr iG S1 w1 hx gx1 u1s u1t u1u Ax6 nx6 cx6 p1 u1v u1w u1x fx6 lx6 junk
  try dsimp only at h
  subst u1x
  subst lx6
  refine Goes.rn 5 [(9, .bool (decide (x8 < x7)))] J2y ?_
  refine ite_some h (fun h4 h => ?_) (fun h4 h => ?_)
  ·
   rw [decide_eq_true h4]
   refine Goes.rn 6 [] J32 ?_
   refine guard_some' h fun g5 h => ?_
   refine guard_some' h fun g6 h => ?_
   refine Op_.ixR_n 26 (.tmp 6) (.tmp 8) 10 0 28 .i64 x8 (gi x6 x8) rfl rfl fx6 Goes.v (by kernel_rfl) (by kernel_rfl) (by kernel_rfl) (by kernel_rfl) g5 g6 ?_
   intro a7 _ f8 q9
   have q10 := q9
   obtain ⟨_, _, rfl, rfl, ⟨_, _, rfl, ⟨l11, f12⟩, ⟨_, _, rfl, ⟨A13, c14, rfl, f15⟩, ⟨_, _, rfl, rfl, rfl⟩⟩⟩⟩ := kT27_open q10
   obtain rfl := els_lit4' f12 l11
   refine Goes.ldN 28 (.tmp 10) 11 28 a7 ([.i ((gi x6 x8).Kind)] ++ ((U4 ((gi x6 x8).Set) []) ++ ([.slice A13 (((gi x6 x8).L).length) c14] ++ ([.i ((gi x6 x8).Min)] ++ [.i ((gi x6 x8).Max)])))) (f8.cell) ?_
   refine Op_.alloc 28 4 0 (.agg #[.i 0, .u 0, .u 0, .u 0, .u 0, .slice none 0 0, .i 0, .i 0]) [.i 0, .u 0, .u 0, .u 0, .u 0, .slice none 0 0, .i 0, .i 0] p1 Goes.v (by kernel_rfl) (by kernel_rfl) ?_
   intro b16 w3 z3 p3
   refine Op_.st 28 (.tmp 4) (.tmp 11) 0 0 b16 0 (ag (.i ((gi x6 x8).Kind) :: U4 ((gi x6 x8).Set) [.slice A13 (((gi x6 x8).L).length) c14, .i ((gi x6 x8).Min), .i ((gi x6 x8).Max)])) (.i ((gi x6 x8).Kind) :: U4 ((gi x6 x8).Set) [.slice A13 (((gi x6 x8).L).length) c14, .i ((gi x6 x8).Min), .i ((gi x6 x8).Max)]) p3 rfl Goes.s (by kernel_rfl) (by kernel_rfl) (by kernel_rfl) (by kernel_rfl) (Nat.zero_le _) (by simp only [List.length_cons, List.length_nil]; omega) (by simp [Value.oneCell']) ?_
   intro w4 z4 p4
   have p4 : Hp nz wz S1 w4 ((some b16, .row 28 (.i ((gi x6 x8).Kind) :: U4 ((gi x6 x8).Set) [.slice A13 (((gi x6 x8).L).length) c14, .i ((gi x6 x8).Min), .i ((gi x6 x8).Max)]) 8 0) :: (some gx1, .row 28 (.i x1v.Kind :: U4 x1v.Set [.slice u1s x1v.L.length u1u, .i x1v.Min, .i x1v.Max]) 8 0) :: Lr) := p4
   refine Goes.rn 3 [] J34 ?_
   refine Goes.ldN 28 (.tmp 4) 12 28 ⟨b16, 0, none⟩ (.i ((gi x6 x8).Kind) :: U4 ((gi x6 x8).Set) [.slice A13 (((gi x6 x8).L).length) c14, .i ((gi x6 x8).Min), .i ((gi x6 x8).Max)]) (p4.pa 0 0) ?_
   refine bind_some' h fun y18 e19 h => ?_
   refine Goes.cal (kc 68 [12] #[28]) 13 4 68 _ (ih_syntax_right (⟨(gi x6 x8).Kind, ((gi x6 x8).Set), (gi x6 x8).L, (gi x6 x8).Min, (gi x6 x8).Max⟩ : T27) y18 e19 A13 (((gi x6 x8).L).length) c14 p4 l11 (f15.ext (z3.trans z4)) rfl) ?_
   rintro _ w5 ⟨S5, rfl, z5, p5⟩
   have p5 := p5.dp 0
   refine Goes.rn 2 [(14, .bool (!y18))] J33 ?_
   refine ite_some h (fun h20 h => ?_) (fun h20 h => ?_)
   ·
    rw [h20]
    refine Goes.rn 8 [(15, .i (wr .i64 (x8 + 1))), (8, .i (wr .i64 (x8 + 1)))] J2s ?_
    exact Goes.jp 18 [(1, (pt gx1 0)), (6, .slice Ax6 x6.length cx6), (7, .i x7), (8, .i (wr .i64 (x8 + 1)))] (u22 _ _ h _ _ (((hx.trans z3).trans z4).trans z5) gx1 u1s x1v.L.length u1u Ax6 x6.length cx6 p5 u1v (u1w.ext ((z3.trans z4).trans z5)) rfl (fx6.ext ((z3.trans z4).trans z5)) rfl)
   ·
    have u23 : y18 = false := by simpa using h20
    rw [u23]
    refine Goes.rn 5 [(2, .bool false)] J35 ?_
    obtain rfl := Option.some.inj h
    have p5 := p5.dp 0
    exact Goes.rt Tryd.f68 (.bool false) ⟨S5, rfl, (((hx.trans z3).trans z4).trans z5), p5⟩
  ·
   rw [decide_eq_false h4]
   refine Goes.rn 4 [] J37 ?_
   refine Goes.ldN 28 (.tmp 1) 16 28 ⟨gx1, 0, none⟩ (.i x1v.Kind :: U4 x1v.Set [.slice u1s x1v.L.length u1u, .i x1v.Min, .i x1v.Max]) (p1.pa 0 0) ?_
   refine bind_some' h fun y21 e22 h => ?_
   refine Goes.cal (kc 80 [16] #[28]) 17 4 80 _ (W.z9 x1v y21 e22 u1s x1v.L.length u1u p1 u1v u1w rfl) ?_
   rintro _ w6 ⟨S6, rfl, z6, p6⟩
   have p6 := p6.dp 0
   refine Goes.rn 2 [(2, .bool y21)] J36 ?_
   obtain rfl := Option.some.inj h
   exact Goes.rt Tryd.f68 (.bool y21) ⟨S6, rfl, (hx.trans z6), p6⟩

theorem W.ze : ∀ a r, M.syntax_right a = some r → LF.ze a r := (W.zg).1

theorem W.zf : ∀ a r, M.syntax_right_l0 a = some r → LL.zf a r := (W.zg).2

def Q2c := sub [1] B50
def J38 : List Item := [.code Q2c]
def Q2d := sub [0] B50
def J39 : List Item := .inRegion (opsOf Q2d) [0, 1] :: J38
def Q2e := sub [1, 1] B50
def J3a : List Item := [.code Q2e]
def Q2f := sub [1, 0] B50
def J3b : List Item := .inRegion (opsOf Q2f) [0, 1] :: J3a
def Q2g := sub [1, 1, 1] B50
def J3c : List Item := [.code Q2g]
def Q2h := sub [1, 1, 0, 1] B50
def J3d : List Item := .code Q2h :: J3c
def Q2i := sub [1, 1, 0, 0] B50
def J3e : List Item := .inRegion (opsOf Q2i) [0, 1, 2, 3, 4, 5, 6, 7] :: J3d
def J3f : List Item := .inRegion (opsOf Q2i) [4, 5, 6, 7] :: J3d
def Q2j := sub [1, 1, 1, 1] B50
def J3g : List Item := [.code Q2j]
def Q2k := sub [1, 1, 1, 0] B50
def J3h : List Item := .inRegion (opsOf Q2k) [0, 1] :: J3g
def Q2l := sub [1, 1, 0, 1, 0, 1] B50
def J3i : List Item := .code Q2l :: J3c

def Post.zh (r : Int) (v : Value) (w' : World) : Prop :=
 ∃ S', v = .i r ∧ Ext S0 w0 S' w' ∧ Hp nz wz S' w' (Lr)

theorem W.zh (x0 : T27) (r : Int) (h : M.syntax_Size x0 = some r) {nz wz S0 w0 Lr} [Gw nz wz] (u5 u6 u7) (p0 : Hp nz wz S0 w0 (Lr)) (um : x0.Set.length = 4) (un : Rd kT27 S0 w0 u5 u7 x0.L) (uo : x0.L.length = u6) :
  Calls Tryd.prog 50 #[(ag (.i x0.Kind :: U4 x0.Set [.slice u5 u6 u7, .i x0.Min, .i x0.Max]))] w0 (Rets (Post.zh nz wz S0 w0 Lr r)) := by
 subst uo
 refine calls_of_goes (fn := Tryd.f50) (c := B50) (by kernel_rfl) (by kernel_rfl) 12 (by kernel_rfl) ?_
 refine Goes.jp 13 [(0, (ag (.i x0.Kind :: U4 x0.Set [.slice u5 x0.L.length u7, .i x0.Min, .i x0.Max])))] (fun junk => ?_)
 delta M.syntax_Size at h
 refine Goes.rn 2 [] J39 ?_
 refine Op_.box 28 (.tmp 0) 1 0 (ag (.i x0.Kind :: U4 x0.Set [.slice u5 x0.L.length u7, .i x0.Min, .i x0.Max])) (.i x0.Kind :: U4 x0.Set [.slice u5 x0.L.length u7, .i x0.Min, .i x0.Max]) p0 Goes.v (by kernel_rfl) (by kernel_rfl) ?_
 intro b1 w2 z2 p2
 refine Goes.rn 4 [(2, .i 0)] J3b ?_
 refine Op_.alloc 3 3 0 (.i 0) [.i 0] p2 Goes.v (by kernel_rfl) (by kernel_rfl) ?_
 intro b3 w3 z3 p3
 refine Op_.st 3 (.tmp 3) (.const (.int .i64 0)) 0 0 b3 0 (.i 0) [.i 0] p3 rfl Goes.s (by kernel_rfl) (by kernel_rfl) (by kernel_rfl) (by kernel_rfl) (Nat.zero_le _) (by simp only [List.length_cons, List.length_nil]; omega) (by simp [Value.oneCell']) ?_
 intro w4 z4 p4
 have p4 : Hp nz wz S0 w4 ((some b3, .row 3 [.i 0] 1 0) :: (some b1, .row 28 (.i x0.Kind :: U4 x0.Set [.slice u5 x0.L.length u7, .i x0.Min, .i x0.Max]) 8 0) :: Lr) := p4
 refine Goes.rn 4 [] J3e ?_
 refine Goes.ldN 28 (.tmp 1) 4 28 ⟨b1, 0, none⟩ (.i x0.Kind :: U4 x0.Set [.slice u5 x0.L.length u7, .i x0.Min, .i x0.Max]) (p4.pa 1 0) ?_
 refine bind_some' h fun y5 e6 h => ?_
 refine Goes.cal (.call { callee := .value (.func 67), args := #[(.tmp 4), (.const (.int .i64 128)), (.tmp 3)], argTypes := #[28, 3, 75] }) 5 4 67 _ (W.z5 (x0, 128, 0) y5 e6 u5 x0.L.length u7 b3 p4 um (un.ext ((z2.trans z3).trans z4)) rfl) ?_
 rintro _ w5 ⟨S5, rfl, z5, p5⟩
 refine Goes.rn 2 [(6, .bool (!y5.1)), (7, .bool (!y5.1))] J3f ?_
 refine ite_some h (fun h7 h => ?_) (fun h7 h => ?_)
 ·
  rw [h7]
  refine Goes.ldN 28 (.tmp 1) 8 28 ⟨b1, 0, none⟩ (.i x0.Kind :: U4 x0.Set [.slice u5 x0.L.length u7, .i x0.Min, .i x0.Max]) (p5.pa 1 0) ?_
  refine bind_some' h fun y8 e9 h => ?_
  refine Goes.cal (kc 68 [8] #[28]) 9 4 68 _ (W.ze x0 y8 e9 u5 x0.L.length u7 p5 um (un.ext (((z2.trans z3).trans z4).trans z5)) rfl) ?_
  rintro _ w6 ⟨S6, rfl, z6, p6⟩
  have p6 := p6.dp 1
  refine Goes.rn 3 [(10, .bool (!y8)), (11, .bool (!y8))] J3d ?_
  refine ite_some h (fun h10 h => ?_) (fun h10 h => ?_)
  ·
   rw [h10]
   refine Goes.rn 4 [] J3h ?_
   refine Goes.ld 3 (.tmp 3) 12 3 ⟨b3, 0, none⟩ (.i y5.2) (p6.c 0 0) ?_
   refine Goes.rn 2 [(2, .i y5.2)] J3g ?_
   obtain rfl := Option.some.inj h
   have p6 := p6.dp 0
   exact Goes.rt Tryd.f50 (.i y5.2) ⟨S6, rfl, ((((((Ext.refl S0 w0).trans z2).trans z3).trans z4).trans z5).trans z6), p6⟩
  ·
   have u24 : y8 = false := by simpa using h10
   rw [u24]
   refine Goes.rn 5 [(2, .i 0)] J3i ?_
   obtain rfl := Option.some.inj h
   have p6 := p6.dp 0
   exact Goes.rt Tryd.f50 (.i 0) ⟨S6, rfl, ((((((Ext.refl S0 w0).trans z2).trans z3).trans z4).trans z5).trans z6), p6⟩
 ·
  have h7' : y5.1 = false := by simpa using h7
  rw [h7']
  refine Goes.rn 10 [(8, undef), (9, undef), (10, undef), (11, .bool true), (2, .i 0)] J3i ?_
  obtain rfl := Option.some.inj h
  have p5 := (p5.dp 0).dp 0
  exact Goes.rt Tryd.f50 (.i 0) ⟨S5, rfl, (((((Ext.refl S0 w0).trans z2).trans z3).trans z4).trans z5), p5⟩

def Q2m := sub [1] B32
def J3j : List Item := [.code Q2m]
def Q2n := sub [0] B32
def J3k : List Item := .inRegion (opsOf Q2n) [0, 1] :: J3j
def Q2o := sub [1, 1] B32
def J3l : List Item := [.code Q2o]
def Q2p := sub [1, 0] B32
def J3m : List Item := .inRegion (opsOf Q2p) [0, 1, 2, 3] :: J3l

def Post.zi (r : Bool) (v : Value) (w' : World) : Prop :=
 ∃ S', v = .bool r ∧ Ext S0 w0 S' w' ∧ Hp nz wz S' w' (Lr)

theorem W.zi (x0 : T27) (r : Bool) (h : M.syntax_Check x0 = some r) {nz wz S0 w0 Lr} [Gw nz wz] (u5 u6 u7) (p0 : Hp nz wz S0 w0 (Lr)) (um : x0.Set.length = 4) (un : Rd kT27 S0 w0 u5 u7 x0.L) (uo : x0.L.length = u6) :
  Calls Tryd.prog 32 #[(ag (.i x0.Kind :: U4 x0.Set [.slice u5 u6 u7, .i x0.Min, .i x0.Max]))] w0 (Rets (Post.zi nz wz S0 w0 Lr r)) := by
 subst uo
 refine calls_of_goes (fn := Tryd.f32) (c := B32) (by kernel_rfl) (by kernel_rfl) 5 (by kernel_rfl) ?_
 refine Goes.jp 6 [(0, (ag (.i x0.Kind :: U4 x0.Set [.slice u5 x0.L.length u7, .i x0.Min, .i x0.Max])))] (fun junk => ?_)
 delta M.syntax_Check at h
 refine Goes.rn 2 [] J3k ?_
 refine Op_.box 28 (.tmp 0) 1 0 (ag (.i x0.Kind :: U4 x0.Set [.slice u5 x0.L.length u7, .i x0.Min, .i x0.Max])) (.i x0.Kind :: U4 x0.Set [.slice u5 x0.L.length u7, .i x0.Min, .i x0.Max]) p0 Goes.v (by kernel_rfl) (by kernel_rfl) ?_
 intro b1 w2 z2 p2
 refine Goes.rn 4 [(2, .bool false)] J3m ?_
 refine Goes.ldN 28 (.tmp 1) 3 28 ⟨b1, 0, none⟩ (.i x0.Kind :: U4 x0.Set [.slice u5 x0.L.length u7, .i x0.Min, .i x0.Max]) (p2.pa 0 0) ?_
 refine bind_some' h fun y3 e4 h => ?_
 refine Goes.cal (kc 50 [3] #[28]) 4 3 50 _ (W.zh x0 y3 e4 u5 x0.L.length u7 p2 um (un.ext z2) rfl) ?_
 rintro _ w3 ⟨S3, rfl, z3, p3⟩
 have p3 := p3.dp 0
 refine Goes.rn 3 [(5, .bool (decide (y3 > 0))), (2, .bool (decide (y3 > 0)))] J3l ?_
 obtain rfl := Option.some.inj h
 exact Goes.rt Tryd.f32 (.bool (decide (y3 > 0))) ⟨S3, rfl, (((Ext.refl S0 w0).trans z2).trans z3), p3⟩

def Q2q := sub [1, 1, 1] B38
def J3n : List Item := [.code Q2q]
def J3o : List Item := .inBlock 0 :: J3n
def Q2r := sub [1, 1, 0, 1, 0, 1] B38
def J3p : List Item := .code Q2r :: J3o
def J3q : List Item := .inBlock 3 :: J3p
def Q2s := sub [1, 1, 0, 1, 0, 0, 0, 1, 1] B38
def J3r : List Item := .code Q2s :: J3q
def J3s : List Item := .inBlock 4 :: J3r
def Q2t := sub [1, 1, 0, 1, 0, 0, 0, 1, 0, 1, 0, 0] B38
def J3t : List Item := .inLoop Q2t :: J3s
def J3u : List Item := .code Q2t :: J3t
def Q2u := sub [1] B38
def J3v : List Item := [.code Q2u]
def Q2v := sub [0] B38
def J3w : List Item := .inRegion (opsOf Q2v) [0, 1] :: J3v
def Q2w := sub [1, 1, 0, 1] B38
def J3x : List Item := .code Q2w :: J3n
def Q2x := sub [1, 1, 0, 0] B38
def J3y : List Item := .inRegion (opsOf Q2x) [1] :: J3x
def Q2y := sub [1, 1, 0, 1, 0, 0, 0, 1] B38
def J3z : List Item := .code Q2y :: J3q
def J40 : List Item := .inBlock 2 :: J3z
def Q2z := sub [1, 1, 0, 1, 0, 0, 0, 0, 0, 1] B38
def J41 : List Item := .code Q2z :: J40
def J42 : List Item := .inBlock 1 :: J41
def Q30 := sub [1, 1, 0, 1, 0, 0, 0, 0, 0, 0, 0, 1] B38
def J43 : List Item := .code Q30 :: J42
def Q31 := sub [1, 1, 0, 1, 0, 0, 0, 0, 0, 0, 0, 0, 1] B38
def J44 : List Item := .code Q31 :: J43
def Q32 := sub [1, 1, 0, 1, 0, 0, 0, 0, 0, 0, 0, 0, 0, 1] B38
def J45 : List Item := .code Q32 :: J44
def Q33 := sub [1, 1, 0, 1, 0, 0, 0, 0, 0, 0, 0, 0, 0, 0] B38
def J46 : List Item := .inRegion (opsOf Q33) [] :: J45
def J47 : List Item := .inRegion (opsOf Q2z) [1, 2, 3, 4, 5] :: J40
def Q34 := sub [1, 1, 0, 1, 0, 0, 0, 1, 0, 1] B38
def J48 : List Item := .code Q34 :: J3r
def Q35 := sub [1, 1, 0, 1, 0, 0, 0, 1, 0, 0] B38
def J49 : List Item := .inRegion (opsOf Q35) [1, 2, 3] :: J48
def Q36 := sub [1, 1, 0, 1, 0, 0, 0, 0, 0, 0, 0, 0, 1, 1] B38
def J4a : List Item := .code Q36 :: J43
def Q37 := sub [1, 1, 0, 1, 0, 0, 0, 0, 0, 0, 0, 0, 1, 0, 1] B38
def J4b : List Item := .code Q37 :: J4a
def Q38 := sub [1, 1, 0, 1, 0, 0, 0, 0, 0, 0, 0, 0, 1, 1, 1] B38
def J4c : List Item := .code Q38 :: J43
def Q39 := sub [1, 1, 0, 1, 0, 1, 1] B38
def J4d : List Item := .code Q39 :: J3o
def Q3a := sub [1, 1, 0, 1, 0, 1, 0, 1] B38
def J4e : List Item := .code Q3a :: J4d
def Q3b := sub [1, 1, 0, 1, 0, 1, 0, 0] B38
def J4f : List Item := .inRegion (opsOf Q3b) [1, 2, 3, 4, 5] :: J4e
def Q3c := sub [1, 1, 0, 1, 0, 1, 0, 1, 1] B38
def J4g : List Item := .code Q3c :: J4d
def Q3d := sub [1, 1, 0, 1, 0, 1, 0, 1, 0] B38
def J4h : List Item := .inRegion (opsOf Q3d) [1, 2, 3, 4] :: J4g
def Q3e := sub [1, 1, 0, 1, 0, 1, 0, 1, 1, 1] B38
def J4i : List Item := .code Q3e :: J4d
def Q3f := sub [1, 1, 0, 1, 0, 1, 0, 1, 1, 0] B38
def J4j : List Item := .inRegion (opsOf Q3f) [1, 2] :: J4i
def Q3g := sub [1, 1, 1, 1] B38
def J4k : List Item := [.code Q3g]
def Q3h := sub [1, 1, 1, 0] B38
def J4l : List Item := .inRegion (opsOf Q3h) [3] :: J4k
def Q3i := sub [1, 1, 0, 1, 0, 1, 0, 1, 1, 1, 1] B38
def J4m : List Item := .inRegion (opsOf Q3i) [2, 3, 4, 5, 6, 7, 8, 9, 10] :: J4d
def J4n : List Item := .inRegion (opsOf Q3i) [4, 5, 6, 7, 8, 9, 10] :: J4d
def J4o : List Item := .inRegion (opsOf Q3h) [] :: J4k
def Q3j := sub [1, 1, 0, 1, 0, 0, 0, 1, 0, 1, 0, 0, 1, 1] B38
def J4p : List Item := .code Q3j :: J3t
def Q3k := sub [1, 1, 0, 1, 0, 0, 0, 1, 0, 1, 0, 0, 1, 0] B38
def J4q : List Item := .code Q3k :: J4p
def Q3l := sub [1, 1, 0, 1, 0, 0, 0, 1, 0, 1, 0, 0, 1, 1, 1] B38
def J4r : List Item := .code Q3l :: J3t
def J4s : List Item := .inBlock 5 :: J4r
def Q3m := sub [1, 1, 0, 1, 0, 0, 0, 1, 0, 1, 0, 0, 1, 1, 0, 0, 1] B38
def J4t : List Item := .code Q3m :: J4s
def Q3n := sub [1, 1, 0, 1, 0, 0, 0, 1, 0, 1, 0, 0, 1, 1, 0, 0, 0] B38
def J4u : List Item := .inRegion (opsOf Q3n) [0, 1, 2, 3] :: J4t
def J4v : List Item := .inRegion (opsOf Q3m) [1, 2, 3, 4, 5] :: J4s

def Post.zj (r : Int) (v : Value) (w' : World) : Prop :=
 ∃ S', v = .i r ∧ Ext S0 w0 S' w' ∧ Hp nz wz S' w' (Lr)

def LF.zj : T27 → Int → Prop := fun x0 r => ∀ {nz wz S0 w0 Lr} [Gw nz wz] u5 u6 u7 (_ : Hp nz wz S0 w0 (Lr)) (_ : x0.Set.length = 4) (_ : Rd kT27 S0 w0 u5 u7 x0.L) (_ : x0.L.length = u6),
 Calls Tryd.prog 38 #[(ag (.i x0.Kind :: U4 x0.Set [.slice u5 u6 u7, .i x0.Min, .i x0.Max]))] w0 (Rets (Post.zj nz wz S0 w0 Lr r))

def L.zk : Int × (List T27) × Int × Int → Int → Prop := fun ⟨x3, x21, x22, x23⟩ r => ∀ S1 w1, Ext S0 w0 S1 w1 → ∀ u25 u26 u27 (_ : Hp nz wz S1 w1 (Lr)) (_ : Rd kT27 S1 w1 u25 u27 x21) (_ : x21.length = u26) (junk : Nat → Value),
 Goes Tryd.prog (base 38) J3u ⟨lfr 62 [(3, .i x3), (21, .slice u25 u26 u27), (22, .i x22), (23, .i x23)] junk, []⟩ w1 (Done Tryd.prog 38 (Rets (Post.zj nz wz S0 w0 Lr r)))

def LL.zk : Int × (List T27) × Int × Int → Int → Prop := fun a r => ∀ {nz wz S0 w0 Lr} [Gw nz wz], L.zk nz wz S0 w0 Lr a r

theorem W.zl : (∀ a r, M.prog_size a = some r → LF.zj a r) ∧ (∀ a r, M.prog_size_l0 a = some r → LL.zk a r) := by
 refine M.prog_size.mutual_partial_correctness LF.zj LL.zk ?_ ?_
 ·
  intro rec_prog_size u28 ih_prog_size u29 x0 r h nz wz S0 w0 Lr iG u5 u6 u7 p0 um un uo
  try dsimp only at h
  subst uo
  refine calls_of_goes (fn := Tryd.f38) (c := B38) (by kernel_rfl) (by kernel_rfl) 61 (by kernel_rfl) ?_
  refine Goes.jp 62 [(0, (ag (.i x0.Kind :: U4 x0.Set [.slice u5 x0.L.length u7, .i x0.Min, .i x0.Max])))] (fun junk => ?_)
  refine Goes.rn 2 [] J3w ?_
  refine Op_.box 28 (.tmp 0) 1 0 (ag (.i x0.Kind :: U4 x0.Set [.slice u5 x0.L.length u7, .i x0.Min, .i x0.Max])) (.i x0.Kind :: U4 x0.Set [.slice u5 x0.L.length u7, .i x0.Min, .i x0.Max]) p0 Goes.v (by kernel_rfl) (by kernel_rfl) ?_
  intro b1 w2 z2 p2
  refine Goes.rn 10 [(2, .i 0), (3, .i 0), (7, (pt b1 0))] J3y ?_
  refine Goes.ld 3 (.tmp 7) 8 3 ⟨b1, 0, none⟩ (.i x0.Kind) (p2.c 0 0) ?_
  refine Goes.rn 14 [(10, .bool (decide (x0.Kind = 3))), (9, .bool (decide (x0.Kind = 3)))] J46 ?_
  refine Goes.rn 1 [] J45 ?_
  refine ite_some h (fun h3 h => ?_) (fun h3 h => ?_)
  ·
   rw [decide_eq_true h3]
   refine Goes.rn 4 [(15, (pt b1 5))] J47 ?_
   refine Goes.ld 26 (.tmp 15) 16 26 ⟨b1, 5, none⟩ (.slice u5 x0.L.length u7) (p2.c 0 5) ?_
   refine Goes.rn 10 [(17, .i (x0.L.length : Int)), (18, .i (wr .i64 ((x0.L.length : Int) - 1))), (19, .i (imx 0 (wr .i64 ((x0.L.length : Int) - 1)))), (3, .i (imx 0 (wr .i64 ((x0.L.length : Int) - 1)))), (20, (pt b1 5))] J49 ?_
   refine Goes.ld 26 (.tmp 20) 21 26 ⟨b1, 5, none⟩ (.slice u5 x0.L.length u7) (p2.c 0 5) ?_
   refine Goes.rn 5 [(22, .i (x0.L.length : Int)), (23, .i 0)] J3u ?_
   have p2 := p2.dp 0
   exact Goes.jp 62 [(3, .i (imx 0 (wr .i64 ((x0.L.length : Int) - 1)))), (21, .slice u5 x0.L.length u7), (22, .i (x0.L.length : Int)), (23, .i 0)] (u29 _ _ h _ _ ((Ext.refl S0 w0).trans z2) u5 x0.L.length u7 p2 (un.ext z2) rfl)
  ·
   rw [decide_eq_false h3]
   refine Goes.rn 8 [(12, .bool (decide (x0.Kind = 2))), (11, .bool (decide (x0.Kind = 2)))] J4b ?_
   refine ite_some h (fun h4 h => ?_) (fun h4 h => ?_)
   ·
    rw [decide_eq_true h4]
    refine Goes.rn 6 [(20, (pt b1 5))] J49 ?_
    refine Goes.ld 26 (.tmp 20) 21 26 ⟨b1, 5, none⟩ (.slice u5 x0.L.length u7) (p2.c 0 5) ?_
    refine Goes.rn 5 [(22, .i (x0.L.length : Int)), (23, .i 0)] J3u ?_
    have p2 := p2.dp 0
    exact Goes.jp 62 [(3, .i 0), (21, .slice u5 x0.L.length u7), (22, .i (x0.L.length : Int)), (23, .i 0)] (u29 _ _ h _ _ ((Ext.refl S0 w0).trans z2) u5 x0.L.length u7 p2 (un.ext z2) rfl)
   ·
    rw [decide_eq_false h4]
    refine Goes.rn 7 [(14, .bool (decide (x0.Kind = 4))), (13, .bool (decide (x0.Kind = 4)))] J4c ?_
    refine ite_some h (fun h5 h => ?_) (fun h5 h => ?_)
    ·
     rw [decide_eq_true h5]
     refine Goes.rn 6 [(33, (pt b1 5))] J4f ?_
     refine Goes.ld 26 (.tmp 33) 34 26 ⟨b1, 5, none⟩ (.slice u5 x0.L.length u7) (p2.c 0 5) ?_
     refine guard_some' h fun g6 h => ?_
     refine Op_.ixR_n 26 (.tmp 34) (.const (.int .i64 0)) 35 0 28 .i64 0 (gi x0.L 0) rfl rfl (un.ext z2) Goes.v (by kernel_rfl) (by kernel_rfl) (by kernel_rfl) (by kernel_rfl) (by decide : (0 : Int) ≤ 0) g6 ?_
     intro a7 _ f8 q9
     have q10 := q9
     obtain ⟨_, _, rfl, rfl, ⟨_, _, rfl, ⟨l11, f12⟩, ⟨_, _, rfl, ⟨A13, c14, rfl, f15⟩, ⟨_, _, rfl, rfl, rfl⟩⟩⟩⟩ := kT27_open q10
     obtain rfl := els_lit4' f12 l11
     refine Goes.ldN 28 (.tmp 35) 36 28 a7 ([.i ((gi x0.L 0).Kind)] ++ ((U4 ((gi x0.L 0).Set) []) ++ ([.slice A13 (((gi x0.L 0).L).length) c14] ++ ([.i ((gi x0.L 0).Min)] ++ [.i ((gi x0.L 0).Max)])))) (f8.cell) ?_
     refine bind_some' h fun y16 e17 h => ?_
     refine Goes.cal (kc 38 [36] #[28]) 37 3 38 _ (ih_prog_size (⟨(gi x0.L 0).Kind, ((gi x0.L 0).Set), (gi x0.L 0).L, (gi x0.L 0).Min, (gi x0.L 0).Max⟩ : T27) y16 e17 A13 (((gi x0.L 0).L).length) c14 p2 l11 f15 rfl) ?_
     rintro _ w3 ⟨S3, rfl, z3, p3⟩
     refine Goes.rn 5 [(6, .i y16), (38, (pt b1 6))] J4h ?_
     refine Goes.ld 3 (.tmp 38) 39 3 ⟨b1, 6, none⟩ (.i x0.Min) (p3.c 0 6) ?_
     refine Goes.rn 7 [(40, .i y16), (41, .i (wr .i64 (x0.Min * y16))), (3, .i (wr .i64 (x0.Min * y16))), (42, (pt b1 7))] J4j ?_
     refine Goes.ld 3 (.tmp 42) 43 3 ⟨b1, 7, none⟩ (.i x0.Max) (p3.c 0 7) ?_
     refine Goes.rn 2 [(44, .bool (decide (x0.Max < 0)))] J4i ?_
     refine ite_some h (fun h18 h => ?_) (fun h18 h => ?_)
     ·
      rw [decide_eq_true h18]
      refine Goes.rn 14 [(45, .i (wr .i64 (x0.Min * y16))), (46, .i y16), (47, .i (wr .i64 (y16 + 1))), (48, .i (wr .i64 ((wr .i64 (x0.Min * y16)) + (wr .i64 (y16 + 1))))), (3, .i (wr .i64 ((wr .i64 (x0.Min * y16)) + (wr .i64 (y16 + 1))))), (59, .i (wr .i64 ((wr .i64 (x0.Min * y16)) + (wr .i64 (y16 + 1))))), (60, .i (imx 1 (wr .i64 ((wr .i64 (x0.Min * y16)) + (wr .i64 (y16 + 1)))))), (61, .i (imn 1048576 (imx 1 (wr .i64 ((wr .i64 (x0.Min * y16)) + (wr .i64 (y16 + 1)))))))] J4l ?_
      refine Goes.rn 2 [(2, .i (imn 1048576 (imx 1 (wr .i64 ((wr .i64 (x0.Min * y16)) + (wr .i64 (y16 + 1)))))))] J4k ?_
      obtain rfl := Option.some.inj h
      have p3 := p3.dp 0
      exact Goes.rt Tryd.f38 (.i (imn 1048576 (imx 1 (wr .i64 ((wr .i64 (x0.Min * y16)) + (wr .i64 (y16 + 1))))))) ⟨S3, rfl, (((Ext.refl S0 w0).trans z2).trans z3), p3⟩
     ·
      rw [decide_eq_false h18]
      refine Goes.rn 4 [(49, .i (wr .i64 (x0.Min * y16))), (50, (pt b1 7))] J4m ?_
      refine Goes.ld 3 (.tmp 50) 51 3 ⟨b1, 7, none⟩ (.i x0.Max) (p3.c 0 7) ?_
      refine Goes.rn 1 [(52, (pt b1 6))] J4n ?_
      refine Goes.ld 3 (.tmp 52) 53 3 ⟨b1, 6, none⟩ (.i x0.Min) (p3.c 0 6) ?_
      refine Goes.rn 14 [(54, .i (wr .i64 (x0.Max - x0.Min))), (55, .i y16), (56, .i (wr .i64 (y16 + 1))), (57, .i (wr .i64 ((wr .i64 (x0.Max - x0.Min)) * (wr .i64 (y16 + 1))))), (58, .i (wr .i64 ((wr .i64 (x0.Min * y16)) + (wr .i64 ((wr .i64 (x0.Max - x0.Min)) * (wr .i64 (y16 + 1))))))), (3, .i (wr .i64 ((wr .i64 (x0.Min * y16)) + (wr .i64 ((wr .i64 (x0.Max - x0.Min)) * (wr .i64 (y16 + 1))))))), (59, .i (wr .i64 ((wr .i64 (x0.Min * y16)) + (wr .i64 ((wr .i64 (x0.Max - x0.Min)) * (wr .i64 (y16 + 1))))))), (60, .i (imx 1 (wr .i64 ((wr .i64 (x0.Min * y16)) + (wr .i64 ((wr .i64 (x0.Max - x0.Min)) * (wr .i64 (y16 + 1)))))))), (61, .i (imn 1048576 (imx 1 (wr .i64 ((wr .i64 (x0.Min * y16)) + (wr .i64 ((wr .i64 (x0.Max - x0.Min)) * (wr .i64 (y16 + 1))))))))), (2, .i (imn 1048576 (imx 1 (wr .i64 ((wr .i64 (x0.Min * y16)) + (wr .i64 ((wr .i64 (x0.Max - x0.Min)) * (wr .i64 (y16 + 1)))))))))] J4o ?_
      refine Goes.rn 1 [] J4k ?_
      obtain rfl := Option.some.inj h
      have p3 := p3.dp 0
      exact Goes.rt Tryd.f38 (.i (imn 1048576 (imx 1 (wr .i64 ((wr .i64 (x0.Min * y16)) + (wr .i64 ((wr .i64 (x0.Max - x0.Min)) * (wr .i64 (y16 + 1))))))))) ⟨S3, rfl, (((Ext.refl S0 w0).trans z2).trans z3), p3⟩
    ·
     rw [decide_eq_false h5]
     refine Goes.rn 10 [(59, .i 0), (60, .i 1), (61, .i 1), (2, .i 1)] J4k ?_
     obtain rfl := Option.some.inj h
     have p2 := p2.dp 0
     exact Goes.rt Tryd.f38 (.i 1) ⟨S0, rfl, ((Ext.refl S0 w0).trans z2), p2⟩
 ·
  intro rec_prog_size u28 ih_prog_size u29 ⟨x3, x21, x22, x23⟩ r h nz wz S0 w0 Lr iG S1 w1 hx u25 u26 u27 p1 u2a u2b junk
  try dsimp only at h
  subst u2b
  refine Goes.rn 5 [(24, .bool (decide (x23 < x22)))] J4q ?_
  refine ite_some h (fun h19 h => ?_) (fun h19 h => ?_)
  ·
   rw [decide_eq_true h19]
   refine Goes.rn 6 [] J4u ?_
   refine guard_some' h fun g20 h => ?_
   refine guard_some' h fun g21 h => ?_
   refine Op_.ixR_n 26 (.tmp 21) (.tmp 23) 25 0 28 .i64 x23 (gi x21 x23) rfl rfl u2a Goes.v (by kernel_rfl) (by kernel_rfl) (by kernel_rfl) (by kernel_rfl) g20 g21 ?_
   intro a22 _ f23 q24
   have q25 := q24
   obtain ⟨_, _, rfl, rfl, ⟨_, _, rfl, ⟨l26, f27⟩, ⟨_, _, rfl, ⟨A28, c29, rfl, f30⟩, ⟨_, _, rfl, rfl, rfl⟩⟩⟩⟩ := kT27_open q25
   obtain rfl := els_lit4' f27 l26
   refine Goes.ldN 28 (.tmp 25) 26 28 a22 ([.i ((gi x21 x23).Kind)] ++ ((U4 ((gi x21 x23).Set) []) ++ ([.slice A28 (((gi x21 x23).L).length) c29] ++ ([.i ((gi x21 x23).Min)] ++ [.i ((gi x21 x23).Max)])))) (f23.cell) ?_
   refine Op_.alloc 28 5 0 (.agg #[.i 0, .u 0, .u 0, .u 0, .u 0, .slice none 0 0, .i 0, .i 0]) [.i 0, .u 0, .u 0, .u 0, .u 0, .slice none 0 0, .i 0, .i 0] p1 Goes.v (by kernel_rfl) (by kernel_rfl) ?_
   intro b31 w4 z4 p4
   refine Op_.st 28 (.tmp 5) (.tmp 26) 0 0 b31 0 (ag (.i ((gi x21 x23).Kind) :: U4 ((gi x21 x23).Set) [.slice A28 (((gi x21 x23).L).length) c29, .i ((gi x21 x23).Min), .i ((gi x21 x23).Max)])) (.i ((gi x21 x23).Kind) :: U4 ((gi x21 x23).Set) [.slice A28 (((gi x21 x23).L).length) c29, .i ((gi x21 x23).Min), .i ((gi x21 x23).Max)]) p4 rfl Goes.s (by kernel_rfl) (by kernel_rfl) (by kernel_rfl) (by kernel_rfl) (Nat.zero_le _) (by simp only [List.length_cons, List.length_nil]; omega) (by simp [Value.oneCell']) ?_
   intro w5 z5 p5
   have p5 : Hp nz wz S1 w5 ((some b31, .row 28 (.i ((gi x21 x23).Kind) :: U4 ((gi x21 x23).Set) [.slice A28 (((gi x21 x23).L).length) c29, .i ((gi x21 x23).Min), .i ((gi x21 x23).Max)]) 8 0) :: Lr) := p5
   refine Goes.rn 3 [(27, .i x3)] J4v ?_
   refine Goes.ldN 28 (.tmp 5) 28 28 ⟨b31, 0, none⟩ (.i ((gi x21 x23).Kind) :: U4 ((gi x21 x23).Set) [.slice A28 (((gi x21 x23).L).length) c29, .i ((gi x21 x23).Min), .i ((gi x21 x23).Max)]) (p5.pa 0 0) ?_
   refine bind_some' h fun y33 e34 h => ?_
   refine Goes.cal (kc 38 [28] #[28]) 29 3 38 _ (ih_prog_size (⟨(gi x21 x23).Kind, ((gi x21 x23).Set), (gi x21 x23).L, (gi x21 x23).Min, (gi x21 x23).Max⟩ : T27) y33 e34 A28 (((gi x21 x23).L).length) c29 p5 l26 (f30.ext (z4.trans z5)) rfl) ?_
   rintro _ w6 ⟨S6, rfl, z6, p6⟩
   have p6 := p6.dp 0
   refine Goes.rn 10 [(30, .i (wr .i64 (x3 + y33))), (31, .i (imn 1048576 (wr .i64 (x3 + y33)))), (3, .i (imn 1048576 (wr .i64 (x3 + y33)))), (32, .i (wr .i64 (x23 + 1))), (23, .i (wr .i64 (x23 + 1)))] J3u ?_
   exact Goes.jp 62 [(3, .i (imn 1048576 (wr .i64 (x3 + y33)))), (21, .slice u25 x21.length u27), (22, .i x22), (23, .i (wr .i64 (x23 + 1)))] (u29 _ _ h _ _ (((hx.trans z4).trans z5).trans z6) u25 x21.length u27 p6 (u2a.ext ((z4.trans z5).trans z6)) rfl)
  ·
   rw [decide_eq_false h19]
   refine Goes.rn 10 [(59, .i x3), (60, .i (imx 1 x3)), (61, .i (imn 1048576 (imx 1 x3))), (2, .i (imn 1048576 (imx 1 x3)))] J4k ?_
   obtain rfl := Option.some.inj h
   exact Goes.rt Tryd.f38 (.i (imn 1048576 (imx 1 x3))) ⟨S1, rfl, hx, p1⟩

theorem W.zj : ∀ a r, M.prog_size a = some r → LF.zj a r := (W.zl).1

theorem W.zk : ∀ a r, M.prog_size_l0 a = some r → LL.zk a r := (W.zl).2

def Q3o := sub [1] B17
def J4w : List Item := [.code Q3o]
def Q3p := sub [0] B17
def J4x : List Item := .inRegion (opsOf Q3p) [0, 1, 2] :: J4w
def Q3q := sub [1, 1] B17
def J4y : List Item := [.code Q3q]
def Q3r := sub [1, 0, 1] B17
def J4z : List Item := .code Q3r :: J4y
def Q3s := sub [1, 0, 0] B17
def J50 : List Item := .inRegion (opsOf Q3s) [0, 1, 2] :: J4z
def Q3t := sub [1, 1, 1] B17
def J51 : List Item := [.code Q3t]
def Q3u := sub [1, 1, 0] B17
def J52 : List Item := .inRegion (opsOf Q3u) [0, 1, 2, 3, 4, 5] :: J51
def Q3v := sub [1, 0, 1, 0, 1] B17
def J53 : List Item := .code Q3v :: J4y

def Post.zm (r : Int × Int) (v : Value) (w' : World) : Prop :=
 ∃ S', v = .tuple #[.i r.1, .i r.2] ∧ Ext S0 w0 S' w' ∧ Hp nz wz S' w' (Lr)

theorem W.zm (x0 : T27) (r : Int × Int) (h : M.prog_Count x0 = some r) {nz wz S0 w0 Lr} [Gw nz wz] (u5 u6 u7) (p0 : Hp nz wz S0 w0 (Lr)) (um : x0.Set.length = 4) (un : Rd kT27 S0 w0 u5 u7 x0.L) (uo : x0.L.length = u6) :
  Calls Tryd.prog 17 #[(ag (.i x0.Kind :: U4 x0.Set [.slice u5 u6 u7, .i x0.Min, .i x0.Max]))] w0 (Rets (Post.zm nz wz S0 w0 Lr r)) := by
 subst uo
 refine calls_of_goes (fn := Tryd.f17) (c := B17) (by kernel_rfl) (by kernel_rfl) 10 (by kernel_rfl) ?_
 refine Goes.jp 11 [(0, (ag (.i x0.Kind :: U4 x0.Set [.slice u5 x0.L.length u7, .i x0.Min, .i x0.Max])))] (fun junk => ?_)
 delta M.prog_Count at h
 refine Goes.rn 2 [] J4x ?_
 refine Op_.box 28 (.tmp 0) 1 0 (ag (.i x0.Kind :: U4 x0.Set [.slice u5 x0.L.length u7, .i x0.Min, .i x0.Max])) (.i x0.Kind :: U4 x0.Set [.slice u5 x0.L.length u7, .i x0.Min, .i x0.Max]) p0 Goes.v (by kernel_rfl) (by kernel_rfl) ?_
 intro b1 w2 z2 p2
 refine Goes.rn 6 [(2, .i 0), (3, .i 0)] J50 ?_
 refine Goes.ldN 28 (.tmp 1) 4 28 ⟨b1, 0, none⟩ (.i x0.Kind :: U4 x0.Set [.slice u5 x0.L.length u7, .i x0.Min, .i x0.Max]) (p2.pa 0 0) ?_
 refine bind_some' h fun y3 e4 h => ?_
 refine Goes.cal (kc 32 [4] #[28]) 5 4 32 _ (W.zi x0 y3 e4 u5 x0.L.length u7 p2 um (un.ext z2) rfl) ?_
 rintro _ w3 ⟨S3, rfl, z3, p3⟩
 refine Goes.rn 2 [(6, .bool (!y3))] J4z ?_
 refine ite_some h (fun h5 h => ?_) (fun h5 h => ?_)
 ·
  rw [h5]
  refine Goes.rn 4 [] J52 ?_
  refine Goes.ldN 28 (.tmp 1) 7 28 ⟨b1, 0, none⟩ (.i x0.Kind :: U4 x0.Set [.slice u5 x0.L.length u7, .i x0.Min, .i x0.Max]) (p3.pa 0 0) ?_
  refine bind_some' h fun y6 e7 h => ?_
  refine Goes.cal (kc 38 [7] #[28]) 8 3 38 _ (W.zj x0 y6 e7 u5 x0.L.length u7 p3 um (un.ext (z2.trans z3)) rfl) ?_
  rintro _ w4 ⟨S4, rfl, z4, p4⟩
  have p4 := p4.dp 0
  refine Goes.rn 5 [(9, .i (wr .i64 (y6 + 1))), (10, .i (imn 1048576 (wr .i64 (y6 + 1)))), (2, .i (imn 1048576 (wr .i64 (y6 + 1)))), (3, .i 0)] J51 ?_
  obtain rfl := Option.some.inj h
  exact Goes.rt Tryd.f17 (.tuple #[.i (imn 1048576 (wr .i64 (y6 + 1))), .i 0]) ⟨S4, rfl, ((((Ext.refl S0 w0).trans z2).trans z3).trans z4), p4⟩
 ·
  have h5' : y3 = false := by simpa using h5
  rw [h5']
  refine Goes.rn 6 [(2, .i 0), (3, .i 2)] J53 ?_
  obtain rfl := Option.some.inj h
  have p3 := p3.dp 0
  exact Goes.rt Tryd.f17 (.tuple #[.i 0, .i 2]) ⟨S3, rfl, (((Ext.refl S0 w0).trans z2).trans z3), p3⟩

def Q3w := sub [1] B36
def J54 : List Item := [.code Q3w]
def Q3x := sub [0] B36
def J55 : List Item := .inRegion (opsOf Q3x) [0, 1] :: J54
def Q3y := sub [1, 1] B36
def J56 : List Item := [.code Q3y]
def Q3z := sub [1, 0] B36
def J57 : List Item := .code Q3z :: J56
def Q40 := sub [1, 1, 1] B36
def J58 : List Item := [.code Q40]
def Q41 := sub [1, 1, 0] B36
def J59 : List Item := .inRegion (opsOf Q41) [3, 4, 5, 6] :: J58

def Post.zn (gx0 : Nat) (r : Int × (List T48)) (v : Value) (w' : World) : Prop :=
 ∃ S' u2c u2d u2e u2f, v = .i r.1 ∧ Ext S0 w0 S' w' ∧ Hp nz wz S' w' ((some gx0, .row 78 [.slice (Gp u2c) u2d u2e] 1 0) :: (u2c, .row 49 u2f (u2e * kT48.size) 0) :: Lr) ∧ Els kT48 S' w' u2f r.2 ∧ r.2.length = u2d

theorem W.zn (u2g : List T48) (x1 : T48) (r : Int × (List T48)) (h : M.prog_writer_put u2g x1 = some r) {nz wz S0 w0 Lr} [Gw nz wz] (gx0 u2h u2i u2j u2k) (p0 : Hp nz wz S0 w0 ((some gx0, .row 78 [.slice (Gp u2h) u2i u2j] 1 0) :: (u2h, .row 49 u2k (u2j * kT48.size) 0) :: Lr)) (u2l : Els kT48 S0 w0 u2k u2g) (u2m : u2g.length = u2i) (u2n : x1.Set.length = 4) :
  Calls Tryd.prog 36 #[(pt gx0 0), (ag (.i x1.Op :: U4 x1.Set [.i x1.X, .i x1.Y]))] w0 (Rets (Post.zn nz wz S0 w0 Lr gx0 r)) := by
 subst u2m
 refine calls_of_goes (fn := Tryd.f36) (c := B36) (by kernel_rfl) (by kernel_rfl) 19 (by kernel_rfl) ?_
 refine Goes.jp 21 [(0, (pt gx0 0)), (1, (ag (.i x1.Op :: U4 x1.Set [.i x1.X, .i x1.Y])))] (fun junk => ?_)
 delta M.prog_writer_put at h
 refine Goes.rn 2 [] J55 ?_
 refine Op_.box 49 (.tmp 1) 3 0 (ag (.i x1.Op :: U4 x1.Set [.i x1.X, .i x1.Y])) (.i x1.Op :: U4 x1.Set [.i x1.X, .i x1.Y]) p0 Goes.v (by kernel_rfl) (by kernel_rfl) ?_
 intro b3 w2 z2 p2
 refine Goes.rn 3 [(4, .i 0)] J57 ?_
 have z3 : Ext S0 w2 S0 (w2).drew := Ext.draw
 have p3 := p2.draw
 refine Goes.drawn (s := [10]) (F := Fc S0 (w2).drew [(⟨gx0, 0, none⟩, .slice (Gp u2h) u2g.length u2j), (⟨b3, 0, none⟩, .i x1.Op), (⟨b3, 1, none⟩, .u (gi x1.Set 0)), (⟨b3, 2, none⟩, .u (gi x1.Set 1)), (⟨b3, 3, none⟩, .u (gi x1.Set 2)), (⟨b3, 4, none⟩, .u (gi x1.Set 3)), (⟨b3, 5, none⟩, .i x1.X), (⟨b3, 6, none⟩, .i x1.Y)]) 1 11 (by kernel_rfl) (by kernel_rfl) (by kernel_rfl) (by kernel_rfl) ?_
 generalize (w2).drew = w3 at z3 p3 ⊢
 refine AnyG.pu 0 (.move (.tmp 0)) 5 76 ((pt gx0 0)) (Fc.here (p3.cs [(1, 0, 1), (0, 0, 7)])) ?_
 refine AnyG.pu 1 (.move (.tmp 0)) 6 76 ((pt gx0 0)) (Fc.here (p3.cs [(1, 0, 1), (0, 0, 7)])) ?_
 refine AnyG.pu 2 (.nilCheck (.tmp 6)) 7 0 ((pt gx0 0)) (Fc.here (p3.cs [(1, 0, 1), (0, 0, 7)])) ?_
 refine AnyG.pu 3 (.fieldAddr 78 (.tmp 7) 0) 8 0 ((pt gx0 0)) (Fc.here (p3.cs [(1, 0, 1), (0, 0, 7)])) ?_
 refine AnyG.ld1 (i := 4) 37 (.tmp 8) 9 37 ⟨gx0, 0, none⟩ (.slice (Gp u2h) u2g.length u2j) (by kernel_rfl) (by kernel_rfl) (Fc.here (p3.cs [(1, 0, 1), (0, 0, 7)])) (by kernel_rfl) (by kernel_rfl) (fun _ h => h.2.at_ 0 rfl) ?_
 refine AnyG.ldN (i := 5) 49 (.tmp 3) 10 49 ⟨b3, 0, none⟩ (.i x1.Op :: U4 x1.Set [.i x1.X, .i x1.Y]) (by kernel_rfl) (by kernel_rfl) (Fc.here (p3.cs [(1, 0, 1), (0, 0, 7)])) (by kernel_rfl) (by kernel_rfl) (by kernel_rfl) (fun _ h j v hj => by match j, hj with | 0, rfl => exact h.2.at_ 1 rfl | 1, rfl => exact h.2.at_ 2 rfl | 2, rfl => exact h.2.at_ 3 rfl | 3, rfl => exact h.2.at_ 4 rfl | 4, rfl => exact h.2.at_ 5 rfl | 5, rfl => exact h.2.at_ 6 rfl | 6, rfl => exact h.2.at_ 7 rfl | (j + 7), hj => simp at hj) ?_
 have f6 : Els kT48 S0 w3 ((.i x1.Op :: U4 x1.Set [.i x1.X, .i x1.Y]) : List Value) [x1] := by exact (Els.cons (K := kT48) (vs := (.i x1.Op :: U4 x1.Set [.i x1.X, .i x1.Y])) (x := x1) ⟨[.i x1.Op], (U4 x1.Set [.i x1.X, .i x1.Y]), rfl, rfl, ⟨(U4 x1.Set []), [.i x1.X, .i x1.Y], rfl, ⟨u2n, els_mk4 u2n⟩, ⟨[.i x1.X], [.i x1.Y], rfl, rfl, rfl⟩⟩⟩ Els.nil)
 refine Op_.made (.buildSlice 37 1 #[(0, (.tmp 10))]) 11 37 (fun b => .slice (Gp (some b)) 1 1) 49 ((.i x1.Op :: U4 x1.Set [.i x1.X, .i x1.Y]) : List Value) p3 (AnyG.vs (i := 6) (by kernel_rfl) (by kernel_rfl)) (by kernel_rfl) ?_
 intro b5 w4 z4 p4
 have p4 : Hp nz wz S0 w4 (((some b5), .row 49 ((.i x1.Op :: U4 x1.Set [.i x1.X, .i x1.Y]) : List Value) (1 * kT48.size) 0) :: (some b3, .row 49 (.i x1.Op :: U4 x1.Set [.i x1.X, .i x1.Y]) 7 0) :: (some gx0, .row 78 [.slice (Gp u2h) u2g.length u2j] 1 0) :: (u2h, .row 49 u2k (u2j * kT48.size) 0) :: Lr) := p4
 refine AnyG.next z4 ⟨(p4.c 2 0), (p4.c 1 0), (p4.c 1 1), (p4.c 1 2), (p4.c 1 3), (p4.c 1 4), (p4.c 1 5), (p4.c 1 6), trivial⟩ ?_
 refine guard_some' h fun g11 h => ?_
 refine Op_.ap_n (K := kT48) 37 (.tmp 9) (.tmp 11) 12 37 49 3 (.agg #[.i 0, .u 0, .u 0, .u 0, .u 0, .i 0, .i 0]) 56 u2g.length u2j 1 u2g [x1] (u2g ++ [x1]) (Gp (some b5)) 1 rfl rfl rfl p4 rfl (u2l.ext ((z2.trans z3).trans z4)) (AnyG.vs (i := 7) (by kernel_rfl) (by kernel_rfl)) (by kernel_rfl) (by kernel_rfl) (by kernel_rfl) (by kernel_rfl) rfl (by decide) (f6.ext z4) (src_own p4 (q := 0) rfl) (by have := g11; omega) (by have := g11; omega) ?_
 intro w5 G12 c13 u2o z5 p5 f15
 refine AnyG.next z5 ⟨(p5.c 2 0), (p5.c 1 0), (p5.c 1 1), (p5.c 1 2), (p5.c 1 3), (p5.c 1 4), (p5.c 1 5), (p5.c 1 6), trivial⟩ ?_
 refine AnyG.pu 8 (.nilCheck (.tmp 5)) 13 0 ((pt gx0 0)) (Fc.here (p5.cs [(2, 0, 1), (1, 0, 7)])) ?_
 refine AnyG.pu 9 (.fieldAddr 78 (.tmp 13) 0) 14 0 ((pt gx0 0)) (Fc.here (p5.cs [(2, 0, 1), (1, 0, 7)])) ?_
 refine Op_.st 37 (.tmp 14) (.tmp 12) 0 2 gx0 0 (.slice (Gp G12) ((u2g ++ [x1]).length) c13) [.slice (Gp G12) ((u2g ++ [x1]).length) c13] p5 rfl (AnyG.ss (i := 10) (by kernel_rfl) (by kernel_rfl)) (by kernel_rfl) (by kernel_rfl) (by kernel_rfl) (by kernel_rfl) (Nat.zero_le _) (by simp only [List.length_cons, List.length_nil]; omega) (by simp [Value.oneCell']) ?_
 intro w6 z6 p6
 have p6 : Hp nz wz S0 w6 (((some b5), .row 49 ((.i x1.Op :: U4 x1.Set [.i x1.X, .i x1.Y]) : List Value) (1 * kT48.size) 0) :: (some b3, .row 49 (.i x1.Op :: U4 x1.Set [.i x1.X, .i x1.Y]) 7 0) :: (some gx0, .row 78 [.slice (Gp G12) ((u2g ++ [x1]).length) c13] 1 0) :: (G12, .row 49 u2o (c13 * kT48.size) 0) :: Lr) := p6
 refine AnyG.last [] (Fc S0 w6 []) (by decide) ?_
 refine AnyG.done (by kernel_rfl) ?_ _
 have p6 := (p6.dp 0).dp 0
 refine Goes.rn 5 [(15, (pt gx0 0)), (16, (pt gx0 0)), (17, (pt gx0 0))] J59 ?_
 refine Goes.ld 37 (.tmp 17) 18 37 ⟨gx0, 0, none⟩ (.slice (Gp G12) ((u2g ++ [x1]).length) c13) (p6.c 0 0) ?_
 refine Goes.rn 4 [(19, .i ((u2g ++ [x1]).length : Int)), (20, .i (wr .i64 (((u2g ++ [x1]).length : Int) - 1))), (4, .i (wr .i64 (((u2g ++ [x1]).length : Int) - 1)))] J58 ?_
 obtain rfl := Option.some.inj h
 exact Goes.rt Tryd.f36 (.i (wr .i64 (((u2g ++ [x1]).length : Int) - 1))) ⟨S0, G12, (u2g ++ [x1]).length, c13, u2o, rfl, ((((((Ext.refl S0 w0).trans z2).trans z3).trans z4).trans z5).trans z6), p6, (f15.ext z6), rfl⟩

def Q42 := sub [1] B54
def J5a : List Item := [.code Q42]
def Q43 := sub [0] B54
def J5b : List Item := .inRegion (opsOf Q43) [0, 1, 2] :: J5a
def Q44 := sub [1, 1] B54
def J5c : List Item := [.code Q44]
def Q45 := sub [1, 0] B54
def J5d : List Item := .inRegion (opsOf Q45) [0, 1, 2, 3, 4] :: J5c
def J5e : List Item := .inRegion (opsOf Q45) [4] :: J5c

def Post.zo (gx0 : Nat) (u2h : Option Nat) (u2i : Nat) (u2j : Nat) (u2k : List Value) (u2g : List T48) (r : T99) (v : Value) (w' : World) : Prop :=
 ∃ S' u2p, v = .agg #[.i r.n, u2p] ∧ Ext S0 w0 S' w' ∧ Hp nz wz S' w' ((some gx0, .row 78 [.slice (Gp u2h) u2i u2j] 1 0) :: (u2h, .row 49 u2k (u2j * kT48.size) 0) :: Lr) ∧ Rp1 (kC98 gx0) S' w' u2p r.code

theorem W.zo (u2g : List T48) (x1 : T27) (r : T99) (h : M.prog_writer_of u2g x1 = some r) {nz wz S0 w0 Lr} [Gw nz wz] (gx0 u2h u2i u2j u2k u2q u2r u2s) (p0 : Hp nz wz S0 w0 ((some gx0, .row 78 [.slice (Gp u2h) u2i u2j] 1 0) :: (u2h, .row 49 u2k (u2j * kT48.size) 0) :: Lr)) (u2l : Els kT48 S0 w0 u2k u2g) (u2m : u2g.length = u2i) (u2n : x1.Set.length = 4) (u2t : Rd kT27 S0 w0 u2q u2s x1.L) (u2u : x1.L.length = u2r) :
  Calls Tryd.prog 54 #[(pt gx0 0), (ag (.i x1.Kind :: U4 x1.Set [.slice u2q u2r u2s, .i x1.Min, .i x1.Max]))] w0 (Rets (Post.zo nz wz S0 w0 Lr gx0 u2h u2i u2j u2k u2g r)) := by
 subst u2m
 subst u2u
 refine calls_of_goes (fn := Tryd.f54) (c := B54) (by kernel_rfl) (by kernel_rfl) 7 (by kernel_rfl) ?_
 refine Goes.jp 9 [(0, (pt gx0 0)), (1, (ag (.i x1.Kind :: U4 x1.Set [.slice u2q x1.L.length u2s, .i x1.Min, .i x1.Max])))] (fun junk => ?_)
 delta M.prog_writer_of at h
 refine Goes.rn 2 [] J5b ?_
 refine Op_.box 76 (.tmp 0) 2 0 ((pt gx0 0)) [(pt gx0 0)] p0 Goes.v (by kernel_rfl) (by kernel_rfl) ?_
 intro b3 w2 z2 p2
 refine Op_.box 28 (.tmp 1) 3 0 (ag (.i x1.Kind :: U4 x1.Set [.slice u2q x1.L.length u2s, .i x1.Min, .i x1.Max])) (.i x1.Kind :: U4 x1.Set [.slice u2q x1.L.length u2s, .i x1.Min, .i x1.Max]) p2 Goes.v (by kernel_rfl) (by kernel_rfl) ?_
 intro b5 w3 z3 p3
 refine Op_.alloc 100 4 0 (.agg #[.i 0, .nilFunc]) [.i 0, .nilFunc] p3 Goes.v (by kernel_rfl) (by kernel_rfl) ?_
 intro b7 w4 z4 p4
 refine Goes.rn 3 [] J5d ?_
 refine Goes.ldN 28 (.tmp 3) 5 28 ⟨b5, 0, none⟩ (.i x1.Kind :: U4 x1.Set [.slice u2q x1.L.length u2s, .i x1.Min, .i x1.Max]) (p4.pa 1 0) ?_
 refine bind_some' h fun y9 e10 h => ?_
 refine Goes.cal (kc 38 [5] #[28]) 6 3 38 _ (W.zj x1 y9 e10 u2q x1.L.length u2s p4 u2n (u2t.ext ((z2.trans z3).trans z4)) rfl) ?_
 rintro _ w5 ⟨S5, rfl, z5, p5⟩
 refine Goes.rn 2 [(7, .func (.func 71) #[] #[(pt b3 0), (pt b5 0)]), (8, .agg #[.i y9, .func (.func 71) #[] #[(pt b3 0), (pt b5 0)]])] J5e ?_
 refine Op_.st 100 (.tmp 4) (.tmp 8) 0 0 b7 0 (.agg #[.i y9, .func (.func 71) #[] #[(pt b3 0), (pt b5 0)]]) [.i y9, .func (.func 71) #[] #[(pt b3 0), (pt b5 0)]] p5 rfl Goes.s (by kernel_rfl) (by kernel_rfl) (by kernel_rfl) (by kernel_rfl) (Nat.zero_le _) (by simp only [List.length_cons, List.length_nil]; omega) (by simp [Value.oneCell']) ?_
 intro w6 z6 p6
 have p6 : Hp nz wz S5 w6 ((some b7, .row 100 [.i y9, .func (.func 71) #[] #[(pt b3 0), (pt b5 0)]] 2 0) :: (some b5, .row 28 (.i x1.Kind :: U4 x1.Set [.slice u2q x1.L.length u2s, .i x1.Min, .i x1.Max]) 8 0) :: (some b3, .row 76 [(pt gx0 0)] 1 0) :: (some gx0, .row 78 [.slice (Gp u2h) u2g.length u2j] 1 0) :: (u2h, .row 49 u2k (u2j * kT48.size) 0) :: Lr) := p6
 refine Goes.rn 1 [] J5c ?_
 obtain ⟨S7, z7, p7, f11⟩ := p6.freezeBlk 2 rfl
 obtain ⟨S8, z8, p8, f12⟩ := p7.freezeBlk 1 rfl
 obtain rfl := Option.some.inj h
 exact Goes.ret (fn := Tryd.f54) (by kernel_rfl) (v := .agg #[.i y9, .func (.func 71) #[] #[(pt b3 0), (pt b5 0)]]) (results_n1 (fn := Tryd.f54) (a := .cell 4 100) (by kernel_rfl) (resV_cell ⟨b7, 0, none⟩ (by kernel_rfl) (run_loadN [.i y9, .func (.func 71) #[] #[(pt b3 0), (pt b5 0)]] (by kernel_rfl) (by kernel_rfl) (p8.pa 0 0)))) ⟨S8, .func (.func 71) #[] #[(pt b3 0), (pt b5 0)], rfl, ((((((((Ext.refl S0 w0).trans z2).trans z3).trans z4).trans z5).trans z6).trans z7).trans z8), p8.drop, (show Rp1 (kC98 gx0) S8 w6 (.func (.func 71) #[] #[(pt b3 0), (pt b5 0)]) ((Sum.inl x1) : T27 ⊕ T27 ⊕ (Int × T27)) from ⟨[(pt b3 0), (pt b5 0)], rfl, ⟨[(pt b3 0)], [(pt b5 0)], rfl, ⟨_, rfl, (f11.ext z8)⟩, ⟨_, _, rfl, List.cons_ne_nil _ _, f12, (kT27_close ⟨[.i x1.Kind], (U4 x1.Set [.slice u2q x1.L.length u2s, .i x1.Min, .i x1.Max]), rfl, rfl, ⟨(U4 x1.Set []), [.slice u2q x1.L.length u2s, .i x1.Min, .i x1.Max], rfl, ⟨u2n, els_mk4 u2n⟩, ⟨[.slice u2q x1.L.length u2s], [.i x1.Min, .i x1.Max], rfl, ⟨_, _, rfl, (u2t.ext ((((((z2.trans z3).trans z4).trans z5).trans z6).trans z7).trans z8))⟩, ⟨[.i x1.Min], [.i x1.Max], rfl, rfl, rfl⟩⟩⟩⟩)⟩⟩⟩)⟩

def Q46 := sub [1] B72
def J5f : List Item := [.code Q46]
def Q47 := sub [0] B72
def J5g : List Item := .inRegion (opsOf Q47) [0, 1, 2] :: J5f
def Q48 := sub [1, 1] B72
def J5h : List Item := [.code Q48]
def Q49 := sub [1, 0] B72
def J5i : List Item := .inRegion (opsOf Q49) [0, 1, 2, 3, 4, 5] :: J5h
def J5j : List Item := .inRegion (opsOf Q49) [5] :: J5h

def Post.zp (gx0 : Nat) (u2h : Option Nat) (u2i : Nat) (u2j : Nat) (u2k : List Value) (u2g : List T48) (r : T99) (v : Value) (w' : World) : Prop :=
 ∃ S' u2p, v = .agg #[.i r.n, u2p] ∧ Ext S0 w0 S' w' ∧ Hp nz wz S' w' ((some gx0, .row 78 [.slice (Gp u2h) u2i u2j] 1 0) :: (u2h, .row 49 u2k (u2j * kT48.size) 0) :: Lr) ∧ Rp1 (kC98 gx0) S' w' u2p r.code

theorem W.zp (u2g : List T48) (x1 : T27) (r : T99) (h : M.prog_writer_loop u2g x1 = some r) {nz wz S0 w0 Lr} [Gw nz wz] (gx0 u2h u2i u2j u2k u2q u2r u2s) (p0 : Hp nz wz S0 w0 ((some gx0, .row 78 [.slice (Gp u2h) u2i u2j] 1 0) :: (u2h, .row 49 u2k (u2j * kT48.size) 0) :: Lr)) (u2l : Els kT48 S0 w0 u2k u2g) (u2m : u2g.length = u2i) (u2n : x1.Set.length = 4) (u2t : Rd kT27 S0 w0 u2q u2s x1.L) (u2u : x1.L.length = u2r) :
  Calls Tryd.prog 72 #[(pt gx0 0), (ag (.i x1.Kind :: U4 x1.Set [.slice u2q u2r u2s, .i x1.Min, .i x1.Max]))] w0 (Rets (Post.zp nz wz S0 w0 Lr gx0 u2h u2i u2j u2k u2g r)) := by
 subst u2m
 subst u2u
 refine calls_of_goes (fn := Tryd.f72) (c := B72) (by kernel_rfl) (by kernel_rfl) 8 (by kernel_rfl) ?_
 refine Goes.jp 10 [(0, (pt gx0 0)), (1, (ag (.i x1.Kind :: U4 x1.Set [.slice u2q x1.L.length u2s, .i x1.Min, .i x1.Max])))] (fun junk => ?_)
 delta M.prog_writer_loop at h
 refine Goes.rn 2 [] J5g ?_
 refine Op_.box 76 (.tmp 0) 2 0 ((pt gx0 0)) [(pt gx0 0)] p0 Goes.v (by kernel_rfl) (by kernel_rfl) ?_
 intro b3 w2 z2 p2
 refine Op_.box 28 (.tmp 1) 3 0 (ag (.i x1.Kind :: U4 x1.Set [.slice u2q x1.L.length u2s, .i x1.Min, .i x1.Max])) (.i x1.Kind :: U4 x1.Set [.slice u2q x1.L.length u2s, .i x1.Min, .i x1.Max]) p2 Goes.v (by kernel_rfl) (by kernel_rfl) ?_
 intro b5 w3 z3 p3
 refine Op_.alloc 100 4 0 (.agg #[.i 0, .nilFunc]) [.i 0, .nilFunc] p3 Goes.v (by kernel_rfl) (by kernel_rfl) ?_
 intro b7 w4 z4 p4
 refine Goes.rn 3 [] J5i ?_
 refine Goes.ldN 28 (.tmp 3) 5 28 ⟨b5, 0, none⟩ (.i x1.Kind :: U4 x1.Set [.slice u2q x1.L.length u2s, .i x1.Min, .i x1.Max]) (p4.pa 1 0) ?_
 refine bind_some' h fun y9 e10 h => ?_
 refine Goes.cal (kc 38 [5] #[28]) 6 3 38 _ (W.zj x1 y9 e10 u2q x1.L.length u2s p4 u2n (u2t.ext ((z2.trans z3).trans z4)) rfl) ?_
 rintro _ w5 ⟨S5, rfl, z5, p5⟩
 refine Goes.rn 3 [(7, .i (wr .i64 (y9 + 1))), (8, .func (.func 85) #[] #[(pt b3 0), (pt b5 0)]), (9, .agg #[.i (wr .i64 (y9 + 1)), .func (.func 85) #[] #[(pt b3 0), (pt b5 0)]])] J5j ?_
 refine Op_.st 100 (.tmp 4) (.tmp 9) 0 0 b7 0 (.agg #[.i (wr .i64 (y9 + 1)), .func (.func 85) #[] #[(pt b3 0), (pt b5 0)]]) [.i (wr .i64 (y9 + 1)), .func (.func 85) #[] #[(pt b3 0), (pt b5 0)]] p5 rfl Goes.s (by kernel_rfl) (by kernel_rfl) (by kernel_rfl) (by kernel_rfl) (Nat.zero_le _) (by simp only [List.length_cons, List.length_nil]; omega) (by simp [Value.oneCell']) ?_
 intro w6 z6 p6
 have p6 : Hp nz wz S5 w6 ((some b7, .row 100 [.i (wr .i64 (y9 + 1)), .func (.func 85) #[] #[(pt b3 0), (pt b5 0)]] 2 0) :: (some b5, .row 28 (.i x1.Kind :: U4 x1.Set [.slice u2q x1.L.length u2s, .i x1.Min, .i x1.Max]) 8 0) :: (some b3, .row 76 [(pt gx0 0)] 1 0) :: (some gx0, .row 78 [.slice (Gp u2h) u2g.length u2j] 1 0) :: (u2h, .row 49 u2k (u2j * kT48.size) 0) :: Lr) := p6
 refine Goes.rn 1 [] J5h ?_
 obtain ⟨S7, z7, p7, f11⟩ := p6.freezeBlk 2 rfl
 obtain ⟨S8, z8, p8, f12⟩ := p7.freezeBlk 1 rfl
 obtain rfl := Option.some.inj h
 exact Goes.ret (fn := Tryd.f72) (by kernel_rfl) (v := .agg #[.i (wr .i64 (y9 + 1)), .func (.func 85) #[] #[(pt b3 0), (pt b5 0)]]) (results_n1 (fn := Tryd.f72) (a := .cell 4 100) (by kernel_rfl) (resV_cell ⟨b7, 0, none⟩ (by kernel_rfl) (run_loadN [.i (wr .i64 (y9 + 1)), .func (.func 85) #[] #[(pt b3 0), (pt b5 0)]] (by kernel_rfl) (by kernel_rfl) (p8.pa 0 0)))) ⟨S8, .func (.func 85) #[] #[(pt b3 0), (pt b5 0)], rfl, ((((((((Ext.refl S0 w0).trans z2).trans z3).trans z4).trans z5).trans z6).trans z7).trans z8), p8.drop, (show Rp1 (kC98 gx0) S8 w6 (.func (.func 85) #[] #[(pt b3 0), (pt b5 0)]) ((Sum.inr (Sum.inl x1)) : T27 ⊕ T27 ⊕ (Int × T27)) from ⟨[(pt b3 0), (pt b5 0)], rfl, ⟨[(pt b3 0)], [(pt b5 0)], rfl, ⟨_, rfl, (f11.ext z8)⟩, ⟨_, _, rfl, List.cons_ne_nil _ _, f12, (kT27_close ⟨[.i x1.Kind], (U4 x1.Set [.slice u2q x1.L.length u2s, .i x1.Min, .i x1.Max]), rfl, rfl, ⟨(U4 x1.Set []), [.slice u2q x1.L.length u2s, .i x1.Min, .i x1.Max], rfl, ⟨u2n, els_mk4 u2n⟩, ⟨[.slice u2q x1.L.length u2s], [.i x1.Min, .i x1.Max], rfl, ⟨_, _, rfl, (u2t.ext ((((((z2.trans z3).trans z4).trans z5).trans z6).trans z7).trans z8))⟩, ⟨[.i x1.Min], [.i x1.Max], rfl, rfl, rfl⟩⟩⟩⟩)⟩⟩⟩)⟩

def Q4a := sub [1] B73
def J5k : List Item := [.code Q4a]
def Q4b := sub [0] B73
def J5l : List Item := .inRegion (opsOf Q4b) [0, 1, 2, 3] :: J5k
def Q4c := sub [1, 1] B73
def J5m : List Item := [.code Q4c]
def Q4d := sub [1, 0] B73
def J5n : List Item := .inRegion (opsOf Q4d) [0, 1, 2, 3, 4, 5] :: J5m
def J5o : List Item := .inRegion (opsOf Q4d) [5] :: J5m

def Post.zq (gx0 : Nat) (u2h : Option Nat) (u2i : Nat) (u2j : Nat) (u2k : List Value) (u2g : List T48) (r : T99) (v : Value) (w' : World) : Prop :=
 ∃ S' u2p, v = .agg #[.i r.n, u2p] ∧ Ext S0 w0 S' w' ∧ Hp nz wz S' w' ((some gx0, .row 78 [.slice (Gp u2h) u2i u2j] 1 0) :: (u2h, .row 49 u2k (u2j * kT48.size) 0) :: Lr) ∧ Rp1 (kC98 gx0) S' w' u2p r.code

theorem W.zq (u2g : List T48) (x1 : T27) (x2 : Int) (r : T99) (h : M.prog_writer_perhaps u2g x1 x2 = some r) {nz wz S0 w0 Lr} [Gw nz wz] (gx0 u2h u2i u2j u2k u2q u2r u2s) (p0 : Hp nz wz S0 w0 ((some gx0, .row 78 [.slice (Gp u2h) u2i u2j] 1 0) :: (u2h, .row 49 u2k (u2j * kT48.size) 0) :: Lr)) (u2l : Els kT48 S0 w0 u2k u2g) (u2m : u2g.length = u2i) (u2n : x1.Set.length = 4) (u2t : Rd kT27 S0 w0 u2q u2s x1.L) (u2u : x1.L.length = u2r) :
  Calls Tryd.prog 73 #[(pt gx0 0), (ag (.i x1.Kind :: U4 x1.Set [.slice u2q u2r u2s, .i x1.Min, .i x1.Max])), .i x2] w0 (Rets (Post.zq nz wz S0 w0 Lr gx0 u2h u2i u2j u2k u2g r)) := by
 subst u2m
 subst u2u
 refine calls_of_goes (fn := Tryd.f73) (c := B73) (by kernel_rfl) (by kernel_rfl) 9 (by kernel_rfl) ?_
 refine Goes.jp 12 [(0, (pt gx0 0)), (1, (ag (.i x1.Kind :: U4 x1.Set [.slice u2q x1.L.length u2s, .i x1.Min, .i x1.Max]))), (2, .i x2)] (fun junk => ?_)
 delta M.prog_writer_perhaps at h
 refine Goes.rn 2 [] J5l ?_
 refine Op_.box 76 (.tmp 0) 3 0 ((pt gx0 0)) [(pt gx0 0)] p0 Goes.v (by kernel_rfl) (by kernel_rfl) ?_
 intro b3 w2 z2 p2
 refine Op_.box 28 (.tmp 1) 4 0 (ag (.i x1.Kind :: U4 x1.Set [.slice u2q x1.L.length u2s, .i x1.Min, .i x1.Max])) (.i x1.Kind :: U4 x1.Set [.slice u2q x1.L.length u2s, .i x1.Min, .i x1.Max]) p2 Goes.v (by kernel_rfl) (by kernel_rfl) ?_
 intro b5 w3 z3 p3
 refine Op_.box 3 (.tmp 2) 5 0 (.i x2) [.i x2] p3 Goes.v (by kernel_rfl) (by kernel_rfl) ?_
 intro b7 w4 z4 p4
 refine Op_.alloc 100 6 0 (.agg #[.i 0, .nilFunc]) [.i 0, .nilFunc] p4 Goes.v (by kernel_rfl) (by kernel_rfl) ?_
 intro b9 w5 z5 p5
 refine Goes.rn 3 [] J5n ?_
 refine Goes.ldN 28 (.tmp 4) 7 28 ⟨b5, 0, none⟩ (.i x1.Kind :: U4 x1.Set [.slice u2q x1.L.length u2s, .i x1.Min, .i x1.Max]) (p5.pa 2 0) ?_
 refine bind_some' h fun y11 e12 h => ?_
 refine Goes.cal (kc 38 [7] #[28]) 8 3 38 _ (W.zj x1 y11 e12 u2q x1.L.length u2s p5 u2n (u2t.ext (((z2.trans z3).trans z4).trans z5)) rfl) ?_
 rintro _ w6 ⟨S6, rfl, z6, p6⟩
 refine Goes.rn 3 [(9, .i (wr .i64 (y11 + 1))), (10, .func (.func 86) #[] #[(pt b3 0), (pt b7 0), (pt b5 0)]), (11, .agg #[.i (wr .i64 (y11 + 1)), .func (.func 86) #[] #[(pt b3 0), (pt b7 0), (pt b5 0)]])] J5o ?_
 refine Op_.st 100 (.tmp 6) (.tmp 11) 0 0 b9 0 (.agg #[.i (wr .i64 (y11 + 1)), .func (.func 86) #[] #[(pt b3 0), (pt b7 0), (pt b5 0)]]) [.i (wr .i64 (y11 + 1)), .func (.func 86) #[] #[(pt b3 0), (pt b7 0), (pt b5 0)]] p6 rfl Goes.s (by kernel_rfl) (by kernel_rfl) (by kernel_rfl) (by kernel_rfl) (Nat.zero_le _) (by simp only [List.length_cons, List.length_nil]; omega) (by simp [Value.oneCell']) ?_
 intro w7 z7 p7
 have p7 : Hp nz wz S6 w7 ((some b9, .row 100 [.i (wr .i64 (y11 + 1)), .func (.func 86) #[] #[(pt b3 0), (pt b7 0), (pt b5 0)]] 2 0) :: (some b7, .row 3 [.i x2] 1 0) :: (some b5, .row 28 (.i x1.Kind :: U4 x1.Set [.slice u2q x1.L.length u2s, .i x1.Min, .i x1.Max]) 8 0) :: (some b3, .row 76 [(pt gx0 0)] 1 0) :: (some gx0, .row 78 [.slice (Gp u2h) u2g.length u2j] 1 0) :: (u2h, .row 49 u2k (u2j * kT48.size) 0) :: Lr) := p7
 refine Goes.rn 1 [] J5m ?_
 obtain ⟨S8, z8, p8, f13⟩ := p7.freezeBlk 3 rfl
 obtain ⟨S9, z9, p9, f14⟩ := p8.freezeBlk 1 rfl
 obtain ⟨S10, z10, p10, f15⟩ := p9.freezeBlk 1 rfl
 obtain rfl := Option.some.inj h
 exact Goes.ret (fn := Tryd.f73) (by kernel_rfl) (v := .agg #[.i (wr .i64 (y11 + 1)), .func (.func 86) #[] #[(pt b3 0), (pt b7 0), (pt b5 0)]]) (results_n1 (fn := Tryd.f73) (a := .cell 6 100) (by kernel_rfl) (resV_cell ⟨b9, 0, none⟩ (by kernel_rfl) (run_loadN [.i (wr .i64 (y11 + 1)), .func (.func 86) #[] #[(pt b3 0), (pt b7 0), (pt b5 0)]] (by kernel_rfl) (by kernel_rfl) (p10.pa 0 0)))) ⟨S10, .func (.func 86) #[] #[(pt b3 0), (pt b7 0), (pt b5 0)], rfl, ((((((((((Ext.refl S0 w0).trans z2).trans z3).trans z4).trans z5).trans z6).trans z7).trans z8).trans z9).trans z10), p10.drop, (show Rp1 (kC98 gx0) S10 w7 (.func (.func 86) #[] #[(pt b3 0), (pt b7 0), (pt b5 0)]) ((Sum.inr (Sum.inr (x2, x1))) : T27 ⊕ T27 ⊕ (Int × T27)) from ⟨[(pt b3 0), (pt b7 0), (pt b5 0)], rfl, ⟨[(pt b3 0)], [(pt b7 0), (pt b5 0)], rfl, ⟨_, rfl, (f13.ext (z9.trans z10))⟩, ⟨[(pt b7 0)], [(pt b5 0)], rfl, ⟨_, _, rfl, List.cons_ne_nil _ _, (f14.ext z10), rfl⟩, ⟨_, _, rfl, List.cons_ne_nil _ _, f15, (kT27_close ⟨[.i x1.Kind], (U4 x1.Set [.slice u2q x1.L.length u2s, .i x1.Min, .i x1.Max]), rfl, rfl, ⟨(U4 x1.Set []), [.slice u2q x1.L.length u2s, .i x1.Min, .i x1.Max], rfl, ⟨u2n, els_mk4 u2n⟩, ⟨[.slice u2q x1.L.length u2s], [.i x1.Min, .i x1.Max], rfl, ⟨_, _, rfl, (u2t.ext ((((((((z2.trans z3).trans z4).trans z5).trans z6).trans z7).trans z8).trans z9).trans z10))⟩, ⟨[.i x1.Min], [.i x1.Max], rfl, rfl, rfl⟩⟩⟩⟩)⟩⟩⟩⟩)⟩

def Q4e := sub [1, 1, 1, 1, 1, 1] B55
def J5p : List Item := [.code Q4e]
def J5q : List Item := .inBlock 2 :: J5p
def Q4f := sub [1, 1, 1, 1, 1, 0, 1, 0, 0] B55
def J5r : List Item := .inLoop Q4f :: J5q
def J5s : List Item := .code Q4f :: J5r
def Q4g := sub [1, 1, 1, 1, 1, 0, 1, 0, 0, 1, 1] B55
def J5t : List Item := .code Q4g :: J5r
def Q4h := sub [1, 1, 1, 1, 1, 0, 1, 0, 0, 1, 0] B55
def J5u : List Item := .code Q4h :: J5t
def Q4i := sub [1, 1, 1, 1, 1, 0, 1, 0, 0, 1, 1, 1] B55
def J5v : List Item := .code Q4i :: J5r
def J5w : List Item := .inBlock 3 :: J5v
def Q4j := sub [1, 1, 1, 1, 1, 0, 1, 0, 0, 1, 1, 0, 0] B55
def J5x : List Item := .inRegion (opsOf Q4j) [2, 3, 4, 5, 6, 7] :: J5w
def J5y : List Item := .inRegion (opsOf Q4j) [4, 5, 6, 7] :: J5w
def Q4k := sub [1, 1, 1, 1, 1, 1, 1] B55
def J5z : List Item := [.code Q4k]

def Post.zr (gx0 : Nat) (u2h : Option Nat) (u2i : Nat) (u2j : Nat) (u2k : List Value) (u2g : List T48) (r : List T99) (v : Value) (w' : World) : Prop :=
 ∃ S' Gq nq cq csq, v = .slice (Gp Gq) nq cq ∧ Ext S0 w0 S' w' ∧ Hp nz wz S' w' ((Gq, .row 100 csq (cq * (kT99 gx0).size) 0) :: (some gx0, .row 78 [.slice (Gp u2h) u2i u2j] 1 0) :: (u2h, .row 49 u2k (u2j * kT48.size) 0) :: Lr) ∧ Els (kT99 gx0) S' w' csq r ∧ r.length = nq

def L.zs (gx0 : Nat) (u2h : Option Nat) (u2i : Nat) (u2j : Nat) (u2k : List Value) : Int × (List T99) × T27 × Int × Int × (List T48) → (List T99) → Prop := fun ⟨x2, x7, x8v, x37, x38, u2g⟩ r => ∀ S1 w1, Ext S0 w0 S1 w1 → ∀ Gx7 nx7 cx7 u2v gx8 u2w u2x u2y (_ : Hp nz wz S1 w1 ((Gx7, .row 100 u2v (cx7 * (kT99 gx0).size) 0) :: (some gx8, .row 28 (.i x8v.Kind :: U4 x8v.Set [.slice u2w u2x u2y, .i x8v.Min, .i x8v.Max]) 8 0) :: (some gx0, .row 78 [.slice (Gp u2h) u2i u2j] 1 0) :: (u2h, .row 49 u2k (u2j * kT48.size) 0) :: Lr)) (_ : Els (kT99 gx0) S1 w1 u2v x7) (_ : x7.length = nx7) (_ : x8v.Set.length = 4) (_ : Rd kT27 S1 w1 u2w u2y x8v.L) (_ : x8v.L.length = u2x) (_ : Els kT48 S1 w1 u2k u2g) (_ : u2g.length = u2i) (junk : Nat → Value),
 Goes Tryd.prog (base 55) J5s ⟨lfr 49 [(0, (pt gx0 0)), (2, .i x2), (7, .slice (Gp Gx7) nx7 cx7), (8, (pt gx8 0)), (37, .i x37), (38, .i x38)] junk, []⟩ w1 (Done Tryd.prog 55 (Rets (Post.zr nz wz S0 w0 Lr gx0 u2h u2i u2j u2k u2g r)))

theorem W.zs {nz wz S0 w0 Lr} [Gw nz wz] (gx0 : Nat) (u2h : Option Nat) (u2i : Nat) (u2j : Nat) (u2k : List Value) : ∀ a r, M.prog_writer_times_l3 a = some r → (L.zs nz wz S0 w0 Lr gx0 u2h u2i u2j u2k) a r := by
 refine M.prog_writer_times_l3.partial_correctness (motive := (L.zs nz wz S0 w0 Lr gx0 u2h u2i u2j u2k)) ?_
 intro u2z u30 ⟨x2, x7, x8v, x37, x38, u2g⟩ r h S1 w1 hx Gx7 nx7 cx7 u2v gx8 u2w u2x u2y p1 fx7 lx7 u31 u32 u33 fs5 ls5 junk
 try dsimp only at h
 subst lx7
 subst u33
 subst ls5
 refine Goes.rn 5 [(39, .bool (decide (x38 < x37)))] J5u ?_
 refine ite_some h (fun h99 h => ?_) (fun h99 h => ?_)
 ·
  rw [decide_eq_true h99]
  refine Goes.rn 7 [(40, .slice (Gp Gx7) x7.length cx7), (41, (pt gx0 0))] J5x ?_
  refine Goes.ldN 28 (.tmp 8) 42 28 ⟨gx8, 0, none⟩ (.i x8v.Kind :: U4 x8v.Set [.slice u2w x8v.L.length u2y, .i x8v.Min, .i x8v.Max]) (p1.pa 1 0) ?_
  refine Goes.rn 1 [(43, .i x2)] J5y ?_
  have p1 := (p1.fr 3).fr 3
  refine bind_some' h fun u34 u35 h => ?_
  refine Goes.cal (kc 73 [41, 42, 43] #[76, 28, 3]) 44 100 73 _ (W.zq u2g x8v x2 u34 u35 gx0 u2h u2g.length u2j u2k u2w x8v.L.length u2y p1 fs5 rfl u31 u32 rfl) ?_
  rintro _ w20 ⟨S20, u36, rfl, z20, p20, u37⟩
  have u38 : Els (kT99 gx0) S20 w20 ([.i u34.n, u36] : List Value) [u34] := by exact (Els.cons (K := (kT99 gx0)) (vs := [.i u34.n, u36]) (x := u34) ⟨[.i u34.n], [u36], rfl, rfl, u37⟩ Els.nil)
  refine Op_.made (.buildSlice 95 1 #[(0, (.tmp 44))]) 45 95 (fun b => .slice (Gp (some b)) 1 1) 100 ([.i u34.n, u36] : List Value) p20 Goes.v (by kernel_rfl) ?_
  intro u39 w21 z21 p21
  have p21 : Hp nz wz S20 w21 (((some u39), .row 100 ([.i u34.n, u36] : List Value) (1 * (kT99 gx0).size) 0) :: (some gx0, .row 78 [.slice (Gp u2h) u2g.length u2j] 1 0) :: (u2h, .row 49 u2k (u2j * kT48.size) 0) :: (Gx7, .row 100 u2v (cx7 * (kT99 gx0).size) 0) :: (some gx8, .row 28 (.i x8v.Kind :: U4 x8v.Set [.slice u2w x8v.L.length u2y, .i x8v.Min, .i x8v.Max]) 8 0) :: Lr) := p21
  refine guard_some' h fun u3a h => ?_
  refine Op_.ap_n (K := (kT99 gx0)) 95 (.tmp 40) (.tmp 45) 46 95 100 3 (.agg #[.i 0, .nilFunc]) 16 x7.length cx7 1 x7 [u34] (x7 ++ [u34]) (Gp (some u39)) 1 rfl rfl rfl p21 rfl (fx7.ext (z20.trans z21)) Goes.v (by kernel_rfl) (by kernel_rfl) (by kernel_rfl) (by kernel_rfl) rfl (show (0 : Nat) < 2 by decide) (u38.ext z21) (src_own p21 (q := 0) rfl) (by have := u3a; omega) (by have := u3a; omega) ?_
  intro w22 u3b u3c u3d z22 p22 u3e
  refine Goes.rn 8 [(7, .slice (Gp u3b) ((x7 ++ [u34]).length) u3c), (47, .i (wr .i64 (x38 + 1))), (38, .i (wr .i64 (x38 + 1)))] J5s ?_
  have p22 := p22.dp 0
  have p22 := (((p22.fr 1).fr 1).fr 3).fr 3
  exact Goes.jp 49 [(0, (pt gx0 0)), (2, .i x2), (7, .slice (Gp u3b) ((x7 ++ [u34]).length) u3c), (8, (pt gx8 0)), (37, .i x37), (38, .i (wr .i64 (x38 + 1)))] (u30 _ _ h _ _ (((hx.trans z20).trans z21).trans z22) u3b ((x7 ++ [u34]).length) u3c u3d gx8 u2w x8v.L.length u2y p22 u3e rfl u31 (u32.ext ((z20.trans z21).trans z22)) rfl (fs5.ext ((z20.trans z21).trans z22)) rfl)
 ·
  rw [decide_eq_false h99]
  refine Goes.rn 7 [(48, .slice (Gp Gx7) x7.length cx7), (6, .slice (Gp Gx7) x7.length cx7)] J5z ?_
  obtain rfl := Option.some.inj h
  have p1 := p1.dp 1
  exact Goes.rt Tryd.f55 (.slice (Gp Gx7) x7.length cx7) ⟨S1, Gx7, x7.length, cx7, u2v, rfl, hx, p1, fx7, rfl⟩

def Q4l := sub [1, 1, 1, 1] B55
def J60 : List Item := [.code Q4l]
def J61 : List Item := .inBlock 0 :: J60
def Q4m := sub [1, 1, 1, 0, 1, 0, 0] B55
def J62 : List Item := .inLoop Q4m :: J61
def J63 : List Item := .code Q4m :: J62
def Q4n := sub [1, 1, 1, 0, 1, 0, 0, 1, 1] B55
def J64 : List Item := .code Q4n :: J62
def Q4o := sub [1, 1, 1, 0, 1, 0, 0, 1, 0] B55
def J65 : List Item := .code Q4o :: J64
def Q4p := sub [1, 1, 1, 0, 1, 0, 0, 1, 1, 1] B55
def J66 : List Item := .code Q4p :: J62
def J67 : List Item := .inBlock 1 :: J66
def Q4q := sub [1, 1, 1, 0, 1, 0, 0, 1, 1, 0, 0] B55
def J68 : List Item := .inRegion (opsOf Q4q) [2, 3, 4, 5, 6] :: J67
def Q4r := sub [1, 1, 1, 1, 1] B55
def J69 : List Item := [.code Q4r]
def Q4s := sub [1, 1, 1, 1, 0, 1] B55
def J6a : List Item := .code Q4s :: J69
def Q4t := sub [1, 1, 1, 1, 0, 0] B55
def J6b : List Item := .inRegion (opsOf Q4t) [1, 2] :: J6a
def Q4u := sub [1, 1, 1, 1, 0, 1, 0, 1] B55
def J6c : List Item := .code Q4u :: J69
def Q4v := sub [1, 1, 1, 1, 0, 1, 0, 0] B55
def J6d : List Item := .inRegion (opsOf Q4v) [2, 3, 4, 5, 6] :: J6c
def Q4w := sub [1, 1, 1, 1, 1, 0, 1] B55
def J6e : List Item := .code Q4w :: J5p
def Q4x := sub [1, 1, 1, 1, 1, 0, 0] B55
def J6f : List Item := .inRegion (opsOf Q4x) [1, 2, 3, 4, 5] :: J6e
def J6g : List Item := .inRegion (opsOf Q4x) [3, 4, 5] :: J6e

def L.zt (gx0 : Nat) (u2h : Option Nat) (u2i : Nat) (u2j : Nat) (u2k : List Value) : Int × T27 × (List T99) × T27 × Int × Int × (List T48) → (List T99) → Prop := fun ⟨x2, x4v, x7, x8v, x14, x15, u2g⟩ r => ∀ S1 w1, Ext S0 w0 S1 w1 → ∀ gx4 u3f u3g u3h Gx7 nx7 cx7 u2v gx8 u2w u2x u2y (_ : Hp nz wz S1 w1 ((some gx4, .row 28 (.i x4v.Kind :: U4 x4v.Set [.slice u3f u3g u3h, .i x4v.Min, .i x4v.Max]) 8 0) :: (Gx7, .row 100 u2v (cx7 * (kT99 gx0).size) 0) :: (some gx8, .row 28 (.i x8v.Kind :: U4 x8v.Set [.slice u2w u2x u2y, .i x8v.Min, .i x8v.Max]) 8 0) :: (some gx0, .row 78 [.slice (Gp u2h) u2i u2j] 1 0) :: (u2h, .row 49 u2k (u2j * kT48.size) 0) :: Lr)) (_ : x4v.Set.length = 4) (_ : Rd kT27 S1 w1 u3f u3h x4v.L) (_ : x4v.L.length = u3g) (_ : Els (kT99 gx0) S1 w1 u2v x7) (_ : x7.length = nx7) (_ : x8v.Set.length = 4) (_ : Rd kT27 S1 w1 u2w u2y x8v.L) (_ : x8v.L.length = u2x) (_ : Els kT48 S1 w1 u2k u2g) (_ : u2g.length = u2i) (junk : Nat → Value),
 Goes Tryd.prog (base 55) J63 ⟨lfr 49 [(0, (pt gx0 0)), (2, .i x2), (4, (pt gx4 0)), (7, .slice (Gp Gx7) nx7 cx7), (8, (pt gx8 0)), (14, .i x14), (15, .i x15)] junk, []⟩ w1 (Done Tryd.prog 55 (Rets (Post.zr nz wz S0 w0 Lr gx0 u2h u2i u2j u2k u2g r)))

theorem W.zt {nz wz S0 w0 Lr} [Gw nz wz] (gx0 : Nat) (u2h : Option Nat) (u2i : Nat) (u2j : Nat) (u2k : List Value) : ∀ a r, M.prog_writer_times_l1 a = some r → (L.zt nz wz S0 w0 Lr gx0 u2h u2i u2j u2k) a r := by
 refine M.prog_writer_times_l1.partial_correctness (motive := (L.zt nz wz S0 w0 Lr gx0 u2h u2i u2j u2k)) ?_
 intro u3i u3j ⟨x2, x4v, x7, x8v, x14, x15, u2g⟩ r h S1 w1 hx gx4 u3f u3g u3h Gx7 nx7 cx7 u2v gx8 u2w u2x u2y p1 u3k u3l u3m fx7 lx7 u31 u32 u33 fs8 ls8 junk
 try dsimp only at h
 subst u3m
 subst lx7
 subst u33
 subst ls8
 refine Goes.rn 5 [(16, .bool (decide (x15 < x14)))] J65 ?_
 refine ite_some h (fun h53 h => ?_) (fun h53 h => ?_)
 ·
  rw [decide_eq_true h53]
  refine Goes.rn 7 [(17, .slice (Gp Gx7) x7.length cx7), (18, (pt gx0 0))] J68 ?_
  refine Goes.ldN 28 (.tmp 8) 19 28 ⟨gx8, 0, none⟩ (.i x8v.Kind :: U4 x8v.Set [.slice u2w x8v.L.length u2y, .i x8v.Min, .i x8v.Max]) (p1.pa 2 0) ?_
  have p1 := (p1.fr 4).fr 4
  refine bind_some' h fun y54 e55 h => ?_
  refine Goes.cal (kc 54 [18, 19] #[76, 28]) 20 100 54 _ (W.zo u2g x8v y54 e55 gx0 u2h u2g.length u2j u2k u2w x8v.L.length u2y p1 fs8 rfl u31 u32 rfl) ?_
  rintro _ w11 ⟨S11, u3n, rfl, z11, p11, u3o⟩
  have f57 : Els (kT99 gx0) S11 w11 ([.i y54.n, u3n] : List Value) [y54] := by exact (Els.cons (K := (kT99 gx0)) (vs := [.i y54.n, u3n]) (x := y54) ⟨[.i y54.n], [u3n], rfl, rfl, u3o⟩ Els.nil)
  refine Op_.made (.buildSlice 95 1 #[(0, (.tmp 20))]) 21 95 (fun b => .slice (Gp (some b)) 1 1) 100 ([.i y54.n, u3n] : List Value) p11 Goes.v (by kernel_rfl) ?_
  intro b56 w12 z12 p12
  have p12 : Hp nz wz S11 w12 (((some b56), .row 100 ([.i y54.n, u3n] : List Value) (1 * (kT99 gx0).size) 0) :: (some gx0, .row 78 [.slice (Gp u2h) u2g.length u2j] 1 0) :: (u2h, .row 49 u2k (u2j * kT48.size) 0) :: (some gx4, .row 28 (.i x4v.Kind :: U4 x4v.Set [.slice u3f x4v.L.length u3h, .i x4v.Min, .i x4v.Max]) 8 0) :: (Gx7, .row 100 u2v (cx7 * (kT99 gx0).size) 0) :: (some gx8, .row 28 (.i x8v.Kind :: U4 x8v.Set [.slice u2w x8v.L.length u2y, .i x8v.Min, .i x8v.Max]) 8 0) :: Lr) := p12
  refine guard_some' h fun g62 h => ?_
  refine Op_.ap_n (K := (kT99 gx0)) 95 (.tmp 17) (.tmp 21) 22 95 100 4 (.agg #[.i 0, .nilFunc]) 16 x7.length cx7 1 x7 [y54] (x7 ++ [y54]) (Gp (some b56)) 1 rfl rfl rfl p12 rfl (fx7.ext (z11.trans z12)) Goes.v (by kernel_rfl) (by kernel_rfl) (by kernel_rfl) (by kernel_rfl) rfl (show (0 : Nat) < 2 by decide) (f57.ext z12) (src_own p12 (q := 0) rfl) (by have := g62; omega) (by have := g62; omega) ?_
  intro w13 G63 c64 u3p z13 p13 f66
  refine Goes.rn 8 [(7, .slice (Gp G63) ((x7 ++ [y54]).length) c64), (23, .i (wr .i64 (x15 + 1))), (15, .i (wr .i64 (x15 + 1)))] J63 ?_
  have p13 := p13.dp 0
  have p13 := ((((p13.fr 1).fr 1).fr 4).fr 4).fr 4
  exact Goes.jp 49 [(0, (pt gx0 0)), (2, .i x2), (4, (pt gx4 0)), (7, .slice (Gp G63) ((x7 ++ [y54]).length) c64), (8, (pt gx8 0)), (14, .i x14), (15, .i (wr .i64 (x15 + 1)))] (u3j _ _ h _ _ (((hx.trans z11).trans z12).trans z13) gx4 u3f x4v.L.length u3h G63 ((x7 ++ [y54]).length) c64 u3p gx8 u2w x8v.L.length u2y p13 u3k (u3l.ext ((z11.trans z12).trans z13)) rfl f66 rfl u31 (u32.ext ((z11.trans z12).trans z13)) rfl (fs8.ext ((z11.trans z12).trans z13)) rfl)
 ·
  rw [decide_eq_false h53]
  refine Goes.rn 6 [(24, (pt gx4 7))] J6b ?_
  refine Goes.ld 3 (.tmp 24) 25 3 ⟨gx4, 7, none⟩ (.i x4v.Max) (p1.c 0 7) ?_
  refine Goes.rn 2 [(26, .bool (decide (x4v.Max < 0)))] J6a ?_
  refine ite_some h (fun h67 h => ?_) (fun h67 h => ?_)
  ·
   rw [decide_eq_true h67]
   refine Goes.rn 5 [(27, .slice (Gp Gx7) x7.length cx7), (28, (pt gx0 0))] J6d ?_
   refine Goes.ldN 28 (.tmp 8) 29 28 ⟨gx8, 0, none⟩ (.i x8v.Kind :: U4 x8v.Set [.slice u2w x8v.L.length u2y, .i x8v.Min, .i x8v.Max]) (p1.pa 2 0) ?_
   have p1 := (p1.fr 4).fr 4
   refine bind_some' h fun y68 e69 h => ?_
   refine Goes.cal (kc 72 [28, 29] #[76, 28]) 30 100 72 _ (W.zp u2g x8v y68 e69 gx0 u2h u2g.length u2j u2k u2w x8v.L.length u2y p1 fs8 rfl u31 u32 rfl) ?_
   rintro _ w14 ⟨S14, u3q, rfl, z14, p14, u3r⟩
   have p14 := (p14.dp 2).dp 3
   have f71 : Els (kT99 gx0) S14 w14 ([.i y68.n, u3q] : List Value) [y68] := by exact (Els.cons (K := (kT99 gx0)) (vs := [.i y68.n, u3q]) (x := y68) ⟨[.i y68.n], [u3q], rfl, rfl, u3r⟩ Els.nil)
   refine Op_.made (.buildSlice 95 1 #[(0, (.tmp 30))]) 31 95 (fun b => .slice (Gp (some b)) 1 1) 100 ([.i y68.n, u3q] : List Value) p14 Goes.v (by kernel_rfl) ?_
   intro b70 w15 z15 p15
   have p15 : Hp nz wz S14 w15 (((some b70), .row 100 ([.i y68.n, u3q] : List Value) (1 * (kT99 gx0).size) 0) :: (some gx0, .row 78 [.slice (Gp u2h) u2g.length u2j] 1 0) :: (u2h, .row 49 u2k (u2j * kT48.size) 0) :: (Gx7, .row 100 u2v (cx7 * (kT99 gx0).size) 0) :: Lr) := p15
   refine guard_some' h fun g76 h => ?_
   refine Op_.ap_n (K := (kT99 gx0)) 95 (.tmp 27) (.tmp 31) 32 95 100 3 (.agg #[.i 0, .nilFunc]) 16 x7.length cx7 1 x7 [y68] (x7 ++ [y68]) (Gp (some b70)) 1 rfl rfl rfl p15 rfl (fx7.ext (z14.trans z15)) Goes.v (by kernel_rfl) (by kernel_rfl) (by kernel_rfl) (by kernel_rfl) rfl (show (0 : Nat) < 2 by decide) (f71.ext z15) (src_own p15 (q := 0) rfl) (by have := g76; omega) (by have := g76; omega) ?_
   intro w16 G77 c78 u3s z16 p16 f80
   refine Goes.rn 2 [(6, .slice (Gp G77) ((x7 ++ [y68]).length) c78)] J6c ?_
   obtain rfl := Option.some.inj h
   have p16 := p16.dp 0
   have p16 := ((p16.fr 1).fr 1).fr 2
   exact Goes.rt Tryd.f55 (.slice (Gp G77) ((x7 ++ [y68]).length) c78) ⟨S14, G77, (x7 ++ [y68]).length, c78, u3s, rfl, (((hx.trans z14).trans z15).trans z16), p16, f80, rfl⟩
  ·
   rw [decide_eq_false h67]
   refine Goes.rn 6 [(33, (pt gx4 7))] J6f ?_
   refine Goes.ld 3 (.tmp 33) 34 3 ⟨gx4, 7, none⟩ (.i x4v.Max) (p1.c 0 7) ?_
   refine Goes.rn 1 [(35, (pt gx4 6))] J6g ?_
   refine Goes.ld 3 (.tmp 35) 36 3 ⟨gx4, 6, none⟩ (.i x4v.Min) (p1.c 0 6) ?_
   refine Goes.rn 5 [(37, .i (wr .i64 (x4v.Max - x4v.Min))), (38, .i 0)] J5s ?_
   have p1 := p1.dp 0
   exact Goes.jp 49 [(0, (pt gx0 0)), (2, .i x2), (7, .slice (Gp Gx7) x7.length cx7), (8, (pt gx8 0)), (37, .i (wr .i64 (x4v.Max - x4v.Min))), (38, .i 0)] (W.zs gx0 u2h u2g.length u2j u2k _ _ h _ _ hx Gx7 x7.length cx7 u2v gx8 u2w x8v.L.length u2y p1 fx7 rfl u31 u32 rfl fs8 rfl)

def L.zu (gx0 : Nat) (u2h : Option Nat) (u2i : Nat) (u2j : Nat) (u2k : List Value) : Int × T27 × Int × Int × (List T48) → (List T99) → Prop := fun ⟨x2, x8v, x37, x38, u2g⟩ r => ∀ S1 w1, Ext S0 w0 S1 w1 → ∀ gx8 u2w u2x u2y (_ : Hp nz wz S1 w1 ((some gx8, .row 28 (.i x8v.Kind :: U4 x8v.Set [.slice u2w u2x u2y, .i x8v.Min, .i x8v.Max]) 8 0) :: (some gx0, .row 78 [.slice (Gp u2h) u2i u2j] 1 0) :: (u2h, .row 49 u2k (u2j * kT48.size) 0) :: Lr)) (_ : x8v.Set.length = 4) (_ : Rd kT27 S1 w1 u2w u2y x8v.L) (_ : x8v.L.length = u2x) (_ : Els kT48 S1 w1 u2k u2g) (_ : u2g.length = u2i) (junk : Nat → Value),
 Goes Tryd.prog (base 55) J5s ⟨lfr 49 [(0, (pt gx0 0)), (2, .i x2), (7, .slice none 0 0), (8, (pt gx8 0)), (37, .i x37), (38, .i x38)] junk, []⟩ w1 (Done Tryd.prog 55 (Rets (Post.zr nz wz S0 w0 Lr gx0 u2h u2i u2j u2k u2g r)))

theorem W.zu {nz wz S0 w0 Lr} [Gw nz wz] (gx0 : Nat) (u2h : Option Nat) (u2i : Nat) (u2j : Nat) (u2k : List Value) : ∀ a r, M.prog_writer_times_l2 a = some r → L.zu nz wz S0 w0 Lr gx0 u2h u2i u2j u2k a r := by
 intro ⟨x2, x8v, x37, x38, u2g⟩ r h S1 w1 hx gx8 u2w u2x u2y p1 u31 u32 u33 fs3 ls3 junk
 rw [M.prog_writer_times_l2] at h
 try dsimp only at h
 subst u33
 subst ls3
 refine Goes.rn 5 [(39, .bool (decide (x38 < x37)))] J5u ?_
 refine ite_some h (fun h83 h => ?_) (fun h83 h => ?_)
 ·
  rw [decide_eq_true h83]
  refine Goes.rn 7 [(40, .slice none 0 0), (41, (pt gx0 0))] J5x ?_
  refine Goes.ldN 28 (.tmp 8) 42 28 ⟨gx8, 0, none⟩ (.i x8v.Kind :: U4 x8v.Set [.slice u2w x8v.L.length u2y, .i x8v.Min, .i x8v.Max]) (p1.pa 0 0) ?_
  refine Goes.rn 1 [(43, .i x2)] J5y ?_
  have p1 := (p1.fr 2).fr 2
  refine bind_some' h fun y84 e85 h => ?_
  refine Goes.cal (kc 73 [41, 42, 43] #[76, 28, 3]) 44 100 73 _ (W.zq u2g x8v x2 y84 e85 gx0 u2h u2g.length u2j u2k u2w x8v.L.length u2y p1 fs3 rfl u31 u32 rfl) ?_
  rintro _ w17 ⟨S17, u3t, rfl, z17, p17, u3u⟩
  have f87 : Els (kT99 gx0) S17 w17 ([.i y84.n, u3t] : List Value) [y84] := by exact (Els.cons (K := (kT99 gx0)) (vs := [.i y84.n, u3t]) (x := y84) ⟨[.i y84.n], [u3t], rfl, rfl, u3u⟩ Els.nil)
  refine Op_.made (.buildSlice 95 1 #[(0, (.tmp 44))]) 45 95 (fun b => .slice (Gp (some b)) 1 1) 100 ([.i y84.n, u3t] : List Value) p17 Goes.v (by kernel_rfl) ?_
  intro b86 w18 z18 p18
  have p18 : Hp nz wz S17 w18 (((some b86), .row 100 ([.i y84.n, u3t] : List Value) (1 * (kT99 gx0).size) 0) :: (some gx0, .row 78 [.slice (Gp u2h) u2g.length u2j] 1 0) :: (u2h, .row 49 u2k (u2j * kT48.size) 0) :: (some gx8, .row 28 (.i x8v.Kind :: U4 x8v.Set [.slice u2w x8v.L.length u2y, .i x8v.Min, .i x8v.Max]) 8 0) :: Lr) := p18
  have p18 : Hp nz wz S17 w18 ((none, .row 100 [] (0 * (kT99 gx0).size) 0) :: ((some b86), .row 100 ([.i y84.n, u3t] : List Value) (1 * (kT99 gx0).size) 0) :: (some gx0, .row 78 [.slice (Gp u2h) u2g.length u2j] 1 0) :: (u2h, .row 49 u2k (u2j * kT48.size) 0) :: (some gx8, .row 28 (.i x8v.Kind :: U4 x8v.Set [.slice u2w x8v.L.length u2y, .i x8v.Min, .i x8v.Max]) 8 0) :: Lr) := p18.nilRow' 100
  refine guard_some' h fun g93 h => ?_
  refine Op_.ap_n (K := (kT99 gx0)) 95 (.tmp 40) (.tmp 45) 46 95 100 0 (.agg #[.i 0, .nilFunc]) 16 0 0 1 ([] : List T99) [y84] [y84] (Gp (some b86)) 1 rfl rfl (List.nil_append _) p18 rfl (Els.nil (K := (kT99 gx0))) Goes.v (by kernel_rfl) (by kernel_rfl) (by kernel_rfl) (by kernel_rfl) rfl (show (0 : Nat) < 2 by decide) (f87.ext z18) (src_own p18 (q := 1) rfl) (by have := g93; omega) (by have := g93; omega) ?_
  intro w19 G94 c95 u3v z19 p19 f97
  refine Goes.rn 8 [(7, .slice (Gp G94) ([y84].length) c95), (47, .i (wr .i64 (x38 + 1))), (38, .i (wr .i64 (x38 + 1)))] J5s ?_
  have p19 := p19.dp 1
  have p19 := (((p19.fr 2).fr 2).fr 3).fr 3
  exact Goes.jp 49 [(0, (pt gx0 0)), (2, .i x2), (7, .slice (Gp G94) ([y84].length) c95), (8, (pt gx8 0)), (37, .i x37), (38, .i (wr .i64 (x38 + 1)))] (W.zs gx0 u2h u2g.length u2j u2k _ _ h _ _ (((hx.trans z17).trans z18).trans z19) G94 ([y84].length) c95 u3v gx8 u2w x8v.L.length u2y p19 f97 rfl u31 (u32.ext ((z17.trans z18).trans z19)) rfl (fs3.ext ((z17.trans z18).trans z19)) rfl)
 ·
  rw [decide_eq_false h83]
  refine Goes.rn 7 [(48, .slice none 0 0), (6, .slice none 0 0)] J5z ?_
  have p1 : Hp nz wz S1 w1 ((none, .row 100 [] (0 * (kT99 gx0).size) 0) :: (some gx8, .row 28 (.i x8v.Kind :: U4 x8v.Set [.slice u2w x8v.L.length u2y, .i x8v.Min, .i x8v.Max]) 8 0) :: (some gx0, .row 78 [.slice (Gp u2h) u2g.length u2j] 1 0) :: (u2h, .row 49 u2k (u2j * kT48.size) 0) :: Lr) := p1.nilRow' 100
  obtain rfl := Option.some.inj h
  have p1 := p1.dp 1
  exact Goes.rt Tryd.f55 (.slice (Gp none) 0 0) ⟨S1, none, 0, 0, [], rfl, hx, p1, (Els.nil (K := (kT99 gx0))), rfl⟩

def L.zv (gx0 : Nat) (u2h : Option Nat) (u2i : Nat) (u2j : Nat) (u2k : List Value) : Int × T27 × T27 × Int × Int × (List T48) → (List T99) → Prop := fun ⟨x2, x4v, x8v, x14, x15, u2g⟩ r => ∀ S1 w1, Ext S0 w0 S1 w1 → ∀ gx4 u3f u3g u3h gx8 u2w u2x u2y (_ : Hp nz wz S1 w1 ((some gx4, .row 28 (.i x4v.Kind :: U4 x4v.Set [.slice u3f u3g u3h, .i x4v.Min, .i x4v.Max]) 8 0) :: (some gx8, .row 28 (.i x8v.Kind :: U4 x8v.Set [.slice u2w u2x u2y, .i x8v.Min, .i x8v.Max]) 8 0) :: (some gx0, .row 78 [.slice (Gp u2h) u2i u2j] 1 0) :: (u2h, .row 49 u2k (u2j * kT48.size) 0) :: Lr)) (_ : x4v.Set.length = 4) (_ : Rd kT27 S1 w1 u3f u3h x4v.L) (_ : x4v.L.length = u3g) (_ : x8v.Set.length = 4) (_ : Rd kT27 S1 w1 u2w u2y x8v.L) (_ : x8v.L.length = u2x) (_ : Els kT48 S1 w1 u2k u2g) (_ : u2g.length = u2i) (junk : Nat → Value),
 Goes Tryd.prog (base 55) J63 ⟨lfr 49 [(0, (pt gx0 0)), (2, .i x2), (4, (pt gx4 0)), (7, .slice none 0 0), (8, (pt gx8 0)), (14, .i x14), (15, .i x15)] junk, []⟩ w1 (Done Tryd.prog 55 (Rets (Post.zr nz wz S0 w0 Lr gx0 u2h u2i u2j u2k u2g r)))

theorem W.zv {nz wz S0 w0 Lr} [Gw nz wz] (gx0 : Nat) (u2h : Option Nat) (u2i : Nat) (u2j : Nat) (u2k : List Value) : ∀ a r, M.prog_writer_times_l0 a = some r → L.zv nz wz S0 w0 Lr gx0 u2h u2i u2j u2k a r := by
 intro ⟨x2, x4v, x8v, x14, x15, u2g⟩ r h S1 w1 hx gx4 u3f u3g u3h gx8 u2w u2x u2y p1 u3k u3l u3m u31 u32 u33 fs6 ls6 junk
 rw [M.prog_writer_times_l0] at h
 try dsimp only at h
 subst u3m
 subst u33
 subst ls6
 refine Goes.rn 5 [(16, .bool (decide (x15 < x14)))] J65 ?_
 refine ite_some h (fun h19 h => ?_) (fun h19 h => ?_)
 ·
  rw [decide_eq_true h19]
  refine Goes.rn 7 [(17, .slice none 0 0), (18, (pt gx0 0))] J68 ?_
  refine Goes.ldN 28 (.tmp 8) 19 28 ⟨gx8, 0, none⟩ (.i x8v.Kind :: U4 x8v.Set [.slice u2w x8v.L.length u2y, .i x8v.Min, .i x8v.Max]) (p1.pa 1 0) ?_
  have p1 := (p1.fr 3).fr 3
  refine bind_some' h fun y20 e21 h => ?_
  refine Goes.cal (kc 54 [18, 19] #[76, 28]) 20 100 54 _ (W.zo u2g x8v y20 e21 gx0 u2h u2g.length u2j u2k u2w x8v.L.length u2y p1 fs6 rfl u31 u32 rfl) ?_
  rintro _ w5 ⟨S5, u3w, rfl, z5, p5, u3x⟩
  have f23 : Els (kT99 gx0) S5 w5 ([.i y20.n, u3w] : List Value) [y20] := by exact (Els.cons (K := (kT99 gx0)) (vs := [.i y20.n, u3w]) (x := y20) ⟨[.i y20.n], [u3w], rfl, rfl, u3x⟩ Els.nil)
  refine Op_.made (.buildSlice 95 1 #[(0, (.tmp 20))]) 21 95 (fun b => .slice (Gp (some b)) 1 1) 100 ([.i y20.n, u3w] : List Value) p5 Goes.v (by kernel_rfl) ?_
  intro b22 w6 z6 p6
  have p6 : Hp nz wz S5 w6 (((some b22), .row 100 ([.i y20.n, u3w] : List Value) (1 * (kT99 gx0).size) 0) :: (some gx0, .row 78 [.slice (Gp u2h) u2g.length u2j] 1 0) :: (u2h, .row 49 u2k (u2j * kT48.size) 0) :: (some gx4, .row 28 (.i x4v.Kind :: U4 x4v.Set [.slice u3f x4v.L.length u3h, .i x4v.Min, .i x4v.Max]) 8 0) :: (some gx8, .row 28 (.i x8v.Kind :: U4 x8v.Set [.slice u2w x8v.L.length u2y, .i x8v.Min, .i x8v.Max]) 8 0) :: Lr) := p6
  have p6 : Hp nz wz S5 w6 ((none, .row 100 [] (0 * (kT99 gx0).size) 0) :: ((some b22), .row 100 ([.i y20.n, u3w] : List Value) (1 * (kT99 gx0).size) 0) :: (some gx0, .row 78 [.slice (Gp u2h) u2g.length u2j] 1 0) :: (u2h, .row 49 u2k (u2j * kT48.size) 0) :: (some gx4, .row 28 (.i x4v.Kind :: U4 x4v.Set [.slice u3f x4v.L.length u3h, .i x4v.Min, .i x4v.Max]) 8 0) :: (some gx8, .row 28 (.i x8v.Kind :: U4 x8v.Set [.slice u2w x8v.L.length u2y, .i x8v.Min, .i x8v.Max]) 8 0) :: Lr) := p6.nilRow' 100
  refine guard_some' h fun g29 h => ?_
  refine Op_.ap_n (K := (kT99 gx0)) 95 (.tmp 17) (.tmp 21) 22 95 100 0 (.agg #[.i 0, .nilFunc]) 16 0 0 1 ([] : List T99) [y20] [y20] (Gp (some b22)) 1 rfl rfl (List.nil_append _) p6 rfl (Els.nil (K := (kT99 gx0))) Goes.v (by kernel_rfl) (by kernel_rfl) (by kernel_rfl) (by kernel_rfl) rfl (show (0 : Nat) < 2 by decide) (f23.ext z6) (src_own p6 (q := 1) rfl) (by have := g29; omega) (by have := g29; omega) ?_
  intro w7 G30 c31 u3y z7 p7 f33
  refine Goes.rn 8 [(7, .slice (Gp G30) ([y20].length) c31), (23, .i (wr .i64 (x15 + 1))), (15, .i (wr .i64 (x15 + 1)))] J63 ?_
  have p7 := p7.dp 1
  have p7 := ((((p7.fr 2).fr 2).fr 4).fr 3).fr 4
  exact Goes.jp 49 [(0, (pt gx0 0)), (2, .i x2), (4, (pt gx4 0)), (7, .slice (Gp G30) ([y20].length) c31), (8, (pt gx8 0)), (14, .i x14), (15, .i (wr .i64 (x15 + 1)))] (W.zt gx0 u2h u2g.length u2j u2k _ _ h _ _ (((hx.trans z5).trans z6).trans z7) gx4 u3f x4v.L.length u3h G30 ([y20].length) c31 u3y gx8 u2w x8v.L.length u2y p7 u3k (u3l.ext ((z5.trans z6).trans z7)) rfl f33 rfl u31 (u32.ext ((z5.trans z6).trans z7)) rfl (fs6.ext ((z5.trans z6).trans z7)) rfl)
 ·
  rw [decide_eq_false h19]
  refine Goes.rn 6 [(24, (pt gx4 7))] J6b ?_
  refine Goes.ld 3 (.tmp 24) 25 3 ⟨gx4, 7, none⟩ (.i x4v.Max) (p1.c 0 7) ?_
  refine Goes.rn 2 [(26, .bool (decide (x4v.Max < 0)))] J6a ?_
  refine ite_some h (fun h37 h => ?_) (fun h37 h => ?_)
  ·
   rw [decide_eq_true h37]
   refine Goes.rn 5 [(27, .slice none 0 0), (28, (pt gx0 0))] J6d ?_
   refine Goes.ldN 28 (.tmp 8) 29 28 ⟨gx8, 0, none⟩ (.i x8v.Kind :: U4 x8v.Set [.slice u2w x8v.L.length u2y, .i x8v.Min, .i x8v.Max]) (p1.pa 1 0) ?_
   have p1 := (p1.fr 3).fr 3
   refine bind_some' h fun y38 e39 h => ?_
   refine Goes.cal (kc 72 [28, 29] #[76, 28]) 30 100 72 _ (W.zp u2g x8v y38 e39 gx0 u2h u2g.length u2j u2k u2w x8v.L.length u2y p1 fs6 rfl u31 u32 rfl) ?_
   rintro _ w8 ⟨S8, u3z, rfl, z8, p8, u40⟩
   have p8 := (p8.dp 2).dp 2
   have f41 : Els (kT99 gx0) S8 w8 ([.i y38.n, u3z] : List Value) [y38] := by exact (Els.cons (K := (kT99 gx0)) (vs := [.i y38.n, u3z]) (x := y38) ⟨[.i y38.n], [u3z], rfl, rfl, u40⟩ Els.nil)
   refine Op_.made (.buildSlice 95 1 #[(0, (.tmp 30))]) 31 95 (fun b => .slice (Gp (some b)) 1 1) 100 ([.i y38.n, u3z] : List Value) p8 Goes.v (by kernel_rfl) ?_
   intro b40 w9 z9 p9
   have p9 : Hp nz wz S8 w9 (((some b40), .row 100 ([.i y38.n, u3z] : List Value) (1 * (kT99 gx0).size) 0) :: (some gx0, .row 78 [.slice (Gp u2h) u2g.length u2j] 1 0) :: (u2h, .row 49 u2k (u2j * kT48.size) 0) :: Lr) := p9
   have p9 : Hp nz wz S8 w9 ((none, .row 100 [] (0 * (kT99 gx0).size) 0) :: ((some b40), .row 100 ([.i y38.n, u3z] : List Value) (1 * (kT99 gx0).size) 0) :: (some gx0, .row 78 [.slice (Gp u2h) u2g.length u2j] 1 0) :: (u2h, .row 49 u2k (u2j * kT48.size) 0) :: Lr) := p9.nilRow' 100
   refine guard_some' h fun g47 h => ?_
   refine Op_.ap_n (K := (kT99 gx0)) 95 (.tmp 27) (.tmp 31) 32 95 100 0 (.agg #[.i 0, .nilFunc]) 16 0 0 1 ([] : List T99) [y38] [y38] (Gp (some b40)) 1 rfl rfl (List.nil_append _) p9 rfl (Els.nil (K := (kT99 gx0))) Goes.v (by kernel_rfl) (by kernel_rfl) (by kernel_rfl) (by kernel_rfl) rfl (show (0 : Nat) < 2 by decide) (f41.ext z9) (src_own p9 (q := 1) rfl) (by have := g47; omega) (by have := g47; omega) ?_
   intro w10 G48 c49 u41 z10 p10 f51
   refine Goes.rn 2 [(6, .slice (Gp G48) ([y38].length) c49)] J6c ?_
   obtain rfl := Option.some.inj h
   have p10 := p10.dp 1
   exact Goes.rt Tryd.f55 (.slice (Gp G48) ([y38].length) c49) ⟨S8, G48, [y38].length, c49, u41, rfl, (((hx.trans z8).trans z9).trans z10), p10, f51, rfl⟩
  ·
   rw [decide_eq_false h37]
   refine Goes.rn 6 [(33, (pt gx4 7))] J6f ?_
   refine Goes.ld 3 (.tmp 33) 34 3 ⟨gx4, 7, none⟩ (.i x4v.Max) (p1.c 0 7) ?_
   refine Goes.rn 1 [(35, (pt gx4 6))] J6g ?_
   refine Goes.ld 3 (.tmp 35) 36 3 ⟨gx4, 6, none⟩ (.i x4v.Min) (p1.c 0 6) ?_
   refine Goes.rn 5 [(37, .i (wr .i64 (x4v.Max - x4v.Min))), (38, .i 0)] J5s ?_
   have p1 := p1.dp 0
   exact Goes.jp 49 [(0, (pt gx0 0)), (2, .i x2), (7, .slice none 0 0), (8, (pt gx8 0)), (37, .i (wr .i64 (x4v.Max - x4v.Min))), (38, .i 0)] (W.zu gx0 u2h u2g.length u2j u2k _ _ h _ _ hx gx8 u2w x8v.L.length u2y p1 u31 u32 rfl fs6 rfl)

def Q4y := sub [1] B55
def J6h : List Item := [.code Q4y]
def Q4z := sub [0] B55
def J6i : List Item := .inRegion (opsOf Q4z) [0, 1] :: J6h
def Q50 := sub [1, 1, 1] B55
def J6j : List Item := [.code Q50]
def Q51 := sub [1, 1, 0] B55
def J6k : List Item := .inRegion (opsOf Q51) [1, 2, 3, 4, 5] :: J6j
def Q52 := sub [1, 1, 1, 0, 1] B55
def J6l : List Item := .code Q52 :: J60
def Q53 := sub [1, 1, 1, 0, 0] B55
def J6m : List Item := .inRegion (opsOf Q53) [1, 2] :: J6l

theorem W.zr (u2g : List T48) (x1 : T27) (x2 : Int) (r : List T99) (h : M.prog_writer_times u2g x1 x2 = some r) {nz wz S0 w0 Lr} [Gw nz wz] (gx0 u2h u2i u2j u2k u2q u2r u2s) (p0 : Hp nz wz S0 w0 ((some gx0, .row 78 [.slice (Gp u2h) u2i u2j] 1 0) :: (u2h, .row 49 u2k (u2j * kT48.size) 0) :: Lr)) (u2l : Els kT48 S0 w0 u2k u2g) (u2m : u2g.length = u2i) (u2n : x1.Set.length = 4) (u2t : Rd kT27 S0 w0 u2q u2s x1.L) (u2u : x1.L.length = u2r) :
  Calls Tryd.prog 55 #[(pt gx0 0), (ag (.i x1.Kind :: U4 x1.Set [.slice u2q u2r u2s, .i x1.Min, .i x1.Max])), .i x2] w0 (Rets (Post.zr nz wz S0 w0 Lr gx0 u2h u2i u2j u2k u2g r)) := by
 subst u2m
 subst u2u
 refine calls_of_goes (fn := Tryd.f55) (c := B55) (by kernel_rfl) (by kernel_rfl) 46 (by kernel_rfl) ?_
 refine Goes.jp 49 [(0, (pt gx0 0)), (1, (ag (.i x1.Kind :: U4 x1.Set [.slice u2q x1.L.length u2s, .i x1.Min, .i x1.Max]))), (2, .i x2)] (fun junk => ?_)
 delta M.prog_writer_times at h
 refine Goes.rn 2 [] J6i ?_
 refine Op_.box 28 (.tmp 1) 4 0 (ag (.i x1.Kind :: U4 x1.Set [.slice u2q x1.L.length u2s, .i x1.Min, .i x1.Max])) (.i x1.Kind :: U4 x1.Set [.slice u2q x1.L.length u2s, .i x1.Min, .i x1.Max]) p0 Goes.v (by kernel_rfl) (by kernel_rfl) ?_
 intro b3 w2 z2 p2
 refine Goes.rn 9 [(6, .slice none 0 0), (7, .slice none 0 0), (9, (pt b3 5))] J6k ?_
 refine Goes.ld 26 (.tmp 9) 10 26 ⟨b3, 5, none⟩ (.slice u2q x1.L.length u2s) (p2.c 0 5) ?_
 refine guard_some' h fun g5 h => ?_
 refine Op_.ixR_n 26 (.tmp 10) (.const (.int .i64 0)) 11 0 28 .i64 0 (gi x1.L 0) rfl rfl (u2t.ext z2) Goes.v (by kernel_rfl) (by kernel_rfl) (by kernel_rfl) (by kernel_rfl) (by decide : (0 : Int) ≤ 0) g5 ?_
 intro a6 _ f7 q8
 have q9 := q8
 obtain ⟨_, _, rfl, rfl, ⟨_, _, rfl, ⟨l10, f11⟩, ⟨_, _, rfl, ⟨A12, c13, rfl, f14⟩, ⟨_, _, rfl, rfl, rfl⟩⟩⟩⟩ := kT27_open q9
 obtain rfl := els_lit4' f11 l10
 refine Goes.ldN 28 (.tmp 11) 12 28 a6 ([.i ((gi x1.L 0).Kind)] ++ ((U4 ((gi x1.L 0).Set) []) ++ ([.slice A12 (((gi x1.L 0).L).length) c13] ++ ([.i ((gi x1.L 0).Min)] ++ [.i ((gi x1.L 0).Max)])))) (f7.cell) ?_
 refine Op_.alloc 28 8 0 (.agg #[.i 0, .u 0, .u 0, .u 0, .u 0, .slice none 0 0, .i 0, .i 0]) [.i 0, .u 0, .u 0, .u 0, .u 0, .slice none 0 0, .i 0, .i 0] p2 Goes.v (by kernel_rfl) (by kernel_rfl) ?_
 intro b15 w3 z3 p3
 refine Op_.st 28 (.tmp 8) (.tmp 12) 0 0 b15 0 (ag (.i ((gi x1.L 0).Kind) :: U4 ((gi x1.L 0).Set) [.slice A12 (((gi x1.L 0).L).length) c13, .i ((gi x1.L 0).Min), .i ((gi x1.L 0).Max)])) (.i ((gi x1.L 0).Kind) :: U4 ((gi x1.L 0).Set) [.slice A12 (((gi x1.L 0).L).length) c13, .i ((gi x1.L 0).Min), .i ((gi x1.L 0).Max)]) p3 rfl Goes.s (by kernel_rfl) (by kernel_rfl) (by kernel_rfl) (by kernel_rfl) (Nat.zero_le _) (by simp only [List.length_cons, List.length_nil]; omega) (by simp [Value.oneCell']) ?_
 intro w4 z4 p4
 have p4 : Hp nz wz S0 w4 ((some b15, .row 28 (.i ((gi x1.L 0).Kind) :: U4 ((gi x1.L 0).Set) [.slice A12 (((gi x1.L 0).L).length) c13, .i ((gi x1.L 0).Min), .i ((gi x1.L 0).Max)]) 8 0) :: (some b3, .row 28 (.i x1.Kind :: U4 x1.Set [.slice u2q x1.L.length u2s, .i x1.Min, .i x1.Max]) 8 0) :: (some gx0, .row 78 [.slice (Gp u2h) u2g.length u2j] 1 0) :: (u2h, .row 49 u2k (u2j * kT48.size) 0) :: Lr) := p4
 refine Goes.rn 5 [(13, (pt b3 6))] J6m ?_
 refine Goes.ld 3 (.tmp 13) 14 3 ⟨b3, 6, none⟩ (.i x1.Min) (p4.c 1 6) ?_
 refine Goes.rn 4 [(15, .i 0)] J63 ?_
 have p4 := (((p4.fr 3).fr 3).fr 2).fr 3
 exact Goes.jp 49 [(0, (pt gx0 0)), (2, .i x2), (4, (pt b3 0)), (7, .slice none 0 0), (8, (pt b15 0)), (14, .i x1.Min), (15, .i 0)] (W.zv gx0 u2h u2g.length u2j u2k _ _ h _ _ ((((Ext.refl S0 w0).trans z2).trans z3).trans z4) b3 u2q x1.L.length u2s b15 A12 (((gi x1.L 0).L).length) c13 p4 u2n (u2t.ext ((z2.trans z3).trans z4)) rfl l10 (f14.ext (z3.trans z4)) rfl (u2l.ext ((z2.trans z3).trans z4)) rfl)

end

end Go.Gx
