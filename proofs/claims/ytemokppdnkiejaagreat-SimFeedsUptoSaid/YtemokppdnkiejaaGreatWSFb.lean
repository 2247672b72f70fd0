import Derived.Test.YtemokppdnkiejaaGreatWSFa

set_option linter.unusedVariables false

set_option maxRecDepth 100000

set_option maxHeartbeats 4000000

namespace Go.Gx

open Go.RowKit Go.Proofs

variable (nz : Nat) (wz : World) (S0 : Fz) (w0 : World) (Lr : List Ent)

noncomputable section

def J8c := Zs [1, 1, 1, 1] B19 []
def J8d := Zs [1, 1, 1, 0, 1] B19 J8c
def J8e := Zs [1, 1, 1, 0, 1, 0, 1] B19 J8c
def J8f := Zs [1, 1, 1, 1, 1] B19 []
def J8g := Zt [1, 1, 1, 1, 0] B19 [0, 1] J8f
def J8h := Zs [1, 1, 1, 1, 1, 1] B19 []
def J8i := Zt [1, 1, 1, 1, 1, 0] B19 [1, 2] J8h

def L.z18 : (List T45) × ByteArray × Int × Bool → ((List Int) × Int) → Prop := fun ⟨x0, x1, x2, x24⟩ r => ∀ S1 w1, Ext S0 w0 S1 w1 → ∀ Ax0 nx0 cx0 (_ : Hp nz wz S1 w1 (Lr)) (_ : Rd kT45 S1 w1 Ax0 cx0 x0) (_ : x0.length = nx0) (junk : Nat → Value),
 Goes Tryz.prog (base 19) J8d ⟨lfr 53 [(0, .slice Ax0 nx0 cx0), (1, .string x1), (2, .i x2), (24, .bool x24)] junk, []⟩ w1 (Done Tryz.prog 19 (Rets (Post.z13 nz wz S0 w0 Lr r)))

theorem W.z18 {nz wz S0 w0 Lr} : ∀ a r, M.tidepoleref12_Ends_l0 a = some r → L.z18 nz wz S0 w0 Lr a r := by
 intro ⟨x0, x1, x2, x24⟩ r h S1 w1 hx Ax0 nx0 cx0 p1 fx0 lx0 junk
 rw [M.tidepoleref12_Ends_l0] at h
 try dsimp only at h
 subst lx0
 refine ite_some h (fun h8 h => ?_) (fun h8 h => ?_)
 ·
  rw [h8]
  refine Gn 6 [(6, .slice none 0 0), (7, .i 2)] J8e ?_
  have p1 : Hp nz wz S1 w1 ((none, .row 3 [] (0 * (kInt .i64).size) 0) :: Lr) := p1.nilRow' 3
  obtain rfl := Option.some.inj h
  exact Goes.rt Tryz.f19 (.tuple #[.slice (Gp none) 0 0, .i 2]) ⟨S1, none, 0, 0, [], rfl, hx, p1, (Els.nil (K := (kInt .i64))), rfl⟩
 ·
  have h8' : x24 = false := by simpa using h8
  rw [h8']
  refine Gn 4 [] J8g ?_
  have f11 : Els (kInt .i64) S1 w1 ([] : List Value) ([] : List Int) := by exact Els.nil
  refine Op_.made (.buildSlice 33 0 #[]) 25 33 (fun b => .slice (Gp (some b)) 0 0) 3 ([] : List Value) p1 Goes.v (by kernel_rfl) ?_
  intro b10 w3 z3 p3
  have p3 : Hp nz wz S1 w3 (((some b10), .row 3 ([] : List Value) (0 * (kInt .i64).size) 0) :: Lr) := p3
  refine Gn 5 [(8, .slice (Gp (some b10)) 0 0), (26, .slice Ax0 x0.length cx0)] J8i ?_
  refine bind_some' h fun y13 e14 h => ?_
  refine Gc (kc 7 [26] #[22]) 27 24 7 _ (W.zs x0 y13 e14 Ax0 x0.length cx0 p3 (fx0.ext z3) rfl) ?_
  rintro _ w4 ⟨S4, u6l, u6m, u6n, u6o, rfl, z4, p4, u6p, rfl⟩
  refine Gn 10 [(9, .slice (Gp u6l) y13.length u6n), (28, .i x2), (10, .i x2)] J80 ?_
  have p4 := (p4.fr 0).fr 1
  exact Gj 53 [(0, .slice Ax0 x0.length cx0), (1, .string x1), (8, .slice (Gp (some b10)) 0 0), (9, .slice (Gp u6l) y13.length u6n), (10, .i x2)] (W.z14 _ _ h _ _ ((hx.trans z3).trans z4) Ax0 x0.length cx0 (some b10) 0 0 ([] : List Value) u6l y13.length u6n u6o 0 p4 (fx0.ext (z3.trans z4)) rfl (f11.ext (z3.trans z4)) rfl u6p rfl)

def J8j := Zs [1, 1] B19 []
def J8k := Zs [1, 0, 1] B19 J8j
def J8l := Zt [1, 0, 0] B19 [1, 2] J8k
def J8m := Zs [1, 1, 1] B19 []
def J8n := Zs [1, 1, 0, 1] B19 J8m
def J8o := Zs [1, 1, 0, 1, 0, 1] B19 J8m
def J8p := Zt [1, 1, 1, 0, 0] B19 [3, 4, 5, 6, 7] J8d
def J8q := Zs [1, 0, 1, 0, 1] B19 J8j

theorem W.z13 (x0 : List T45) (x1 : ByteArray) (x2 : Int) (r : (List Int) × Int) (h : M.tidepoleref12_Ends x0 x1 x2 = some r) {nz wz S0 w0 Lr} (Ax0 nx0 cx0) (p0 : Hp nz wz S0 w0 (Lr)) (fx0 : Rd kT45 S0 w0 Ax0 cx0 x0) (lx0 : x0.length = nx0) :
  Calls Tryz.prog 19 #[.slice Ax0 nx0 cx0, .string x1, .i x2] w0 (Rets (Post.z13 nz wz S0 w0 Lr r)) := by
 subst lx0
 refine Zf Tryz.f19 B19 50 ?_
 refine Gj 53 [(0, .slice Ax0 x0.length cx0), (1, .string x1), (2, .i x2)] fun junk => ?_
 delta M.tidepoleref12_Ends at h
 refine Gn 9 [(6, .slice none 0 0), (7, .i 0), (11, .slice Ax0 x0.length cx0)] J8l ?_
 refine bind_some' h fun y1 e2 h => ?_
 refine Gc (kc 34 [11] #[22]) 12 26 34 _ (W.zf x0 y1 e2 Ax0 x0.length cx0 p0 fx0 rfl) ?_
 rintro _ w2 ⟨S2, rfl, z2, p2⟩
 refine Gn 2 [(13, .bool (!(decide (y1 = 0))))] J8k ?_
 refine ite_some h (fun h3 h => ?_) (fun h3 h => ?_)
 ·
  rw [decide_eq_true h3]
  refine Gn 9 [(14, .string x1), (15, .i (x1.size : Int)), (16, .bool (decide ((x1.size : Int) > 65536)))] J8n ?_
  refine ite_some h (fun h4 h => ?_) (fun h4 h => ?_)
  ·
   rw [decide_eq_true h4]
   refine Gn 6 [(6, .slice none 0 0), (7, .i 3)] J8o ?_
   have p2 : Hp nz wz S2 w2 ((none, .row 3 [] (0 * (kInt .i64).size) 0) :: Lr) := p2.nilRow' 3
   obtain rfl := Option.some.inj h
   exact Goes.rt Tryz.f19 (.tuple #[.slice (Gp none) 0 0, .i 3]) ⟨S2, none, 0, 0, [], rfl, ((Ext.refl S0 w0).trans z2), p2, (Els.nil (K := (kInt .i64))), rfl⟩
  ·
   rw [decide_eq_false h4]
   refine Gn 8 [(17, .i x2), (18, .bool (decide (x2 < 0))), (19, .bool (decide (x2 < 0)))] J8p ?_
   refine ite_some h (fun h6 h => ?_) (fun h6 h => ?_)
   ·
    rw [decide_eq_true h6]
    refine Gn 6 [(20, undef), (21, undef), (22, undef), (23, undef), (24, .bool true)] J8d ?_
    exact Gj 53 [(0, .slice Ax0 x0.length cx0), (1, .string x1), (2, .i x2), (24, .bool true)] (W.z18 _ _ h _ _ ((Ext.refl S0 w0).trans z2) Ax0 x0.length cx0 p2 (fx0.ext z2) rfl)
   ·
    rw [decide_eq_false h6]
    refine Gn 6 [(20, .i x2), (21, .string x1), (22, .i (x1.size : Int)), (23, .bool (decide (x2 > (x1.size : Int)))), (24, .bool (decide (x2 > (x1.size : Int))))] J8d ?_
    exact Gj 53 [(0, .slice Ax0 x0.length cx0), (1, .string x1), (2, .i x2), (24, .bool (decide (x2 > (x1.size : Int))))] (W.z18 _ _ h _ _ ((Ext.refl S0 w0).trans z2) Ax0 x0.length cx0 p2 (fx0.ext z2) rfl)
 ·
  rw [decide_eq_false h3]
  refine Gn 6 [(6, .slice none 0 0), (7, .i 110)] J8q ?_
  have p2 : Hp nz wz S2 w2 ((none, .row 3 [] (0 * (kInt .i64).size) 0) :: Lr) := p2.nilRow' 3
  obtain rfl := Option.some.inj h
  exact Goes.rt Tryz.f19 (.tuple #[.slice (Gp none) 0 0, .i 110]) ⟨S2, none, 0, 0, [], rfl, ((Ext.refl S0 w0).trans z2), p2, (Els.nil (K := (kInt .i64))), rfl⟩

def J8r := Zs [1, 1] B5 []
def J8s := Zt [1, 0] B5 [2, 3, 4, 5, 6, 7] J8r
def J8t := Zs [1, 1, 1] B5 []
def Q5l := sub [1, 1, 0] B5
def J8u := Zr Q5l [4, 5, 6, 7, 8, 9, 10, 11, 12, 13, 14, 15, 16] J8t
def J8v := Zr Q5l [8, 9, 10, 11, 12, 13, 14, 15, 16] J8t

def Post.z19 (r : Bool × Int) (v : Value) (w' : World) : Prop :=
 ∃ S', v = .tuple #[.bool r.1, .i r.2] ∧ Ext S0 w0 S' w' ∧ Hp nz wz S' w' (Lr)

theorem W.z19 (x0 : List T45) (x1 : ByteArray) (r : Bool × Int) (h : M.tidepoleref12_Match x0 x1 = some r) {nz wz S0 w0 Lr} (Ax0 nx0 cx0) (p0 : Hp nz wz S0 w0 (Lr)) (fx0 : Rd kT45 S0 w0 Ax0 cx0 x0) (lx0 : x0.length = nx0) :
  Calls Tryz.prog 5 #[.slice Ax0 nx0 cx0, .string x1] w0 (Rets (Post.z19 nz wz S0 w0 Lr r)) := by
 subst lx0
 refine Zf Tryz.f5 B5 27 ?_
 refine Gj 29 [(0, .slice Ax0 x0.length cx0), (1, .string x1)] fun junk => ?_
 delta M.tidepoleref12_Match at h
 refine Gn 9 [(4, .bool false), (5, .i 0), (9, .slice Ax0 x0.length cx0), (10, .string x1)] J8s ?_
 refine bind_some' h fun y1 e2 h => ?_
 refine Gc (.call { callee := .value (.func 19), args := #[(.tmp 9), (.tmp 10), (.const (.int .i64 0))], argTypes := #[22, 9, 3] }) 11 52 19 _ (W.z13 x0 x1 0 y1 e2 Ax0 x0.length cx0 p0 fx0 rfl) ?_
 rintro _ w2 ⟨S2, u6q, u6r, u6s, u6t, rfl, z2, p2, u6u, rfl⟩
 refine Gn 12 [(8, .tuple #[.slice (Gp u6q) y1.1.length u6s, .i y1.2]), (12, .slice (Gp u6q) y1.1.length u6s), (13, .i y1.2), (6, .slice (Gp u6q) y1.1.length u6s), (7, .i y1.2), (14, .slice (Gp u6q) y1.1.length u6s), (15, .i (y1.1.length : Int)), (16, .bool (decide ((y1.1.length : Int) > 0))), (17, .bool (decide ((y1.1.length : Int) > 0)))] J8u ?_
 refine ite_some h (fun h4 h => ?_) (fun h4 h => ?_)
 ·
  rw [decide_eq_true h4]
  refine Gn 4 [(18, .slice (Gp u6q) y1.1.length u6s), (19, .slice (Gp u6q) y1.1.length u6s), (20, .i (y1.1.length : Int)), (21, .i (wr .i64 ((y1.1.length : Int) - 1)))] J8v ?_
  refine guard_some' h fun g5 h => ?_
  refine guard_some' h fun g6 h => ?_
  refine Op_.ixO_n 33 (.tmp 18) (.tmp 21) 22 0 3 .i64 (wr .i64 ((y1.1.length : Int) - 1)) 0 y1.1.length u6s (gi y1.1 (wr .i64 ((y1.1.length : Int) - 1))) rfl rfl p2 rfl u6u Goes.v (by kernel_rfl) (by kernel_rfl) (by kernel_rfl) (by kernel_rfl) (by decide) g5 g6 ?_
  rintro b7 _ rfl q9 f8
  obtain rfl := q9
  refine Goes.ld 3 (.tmp 22) 23 3 ⟨b7, (wr .i64 ((y1.1.length : Int) - 1) : Int).toNat * (kInt .i64).size, none⟩ (.i (gi y1.1 (wr .i64 ((y1.1.length : Int) - 1)))) (f8 0 _ rfl) ?_
  refine Gn 8 [(24, .string x1), (25, .i (x1.size : Int)), (26, .bool (decide (gi y1.1 (wr .i64 ((y1.1.length : Int) - 1)) = (x1.size : Int)))), (27, .bool (decide (gi y1.1 (wr .i64 ((y1.1.length : Int) - 1)) = (x1.size : Int)))), (28, .i y1.2), (4, .bool (decide (gi y1.1 (wr .i64 ((y1.1.length : Int) - 1)) = (x1.size : Int)))), (5, .i y1.2)] J8t ?_
  obtain rfl := Option.some.inj h
  have p2 := p2.dp 0
  exact Goes.rt Tryz.f5 (.tuple #[.bool (decide (gi y1.1 (wr .i64 ((y1.1.length : Int) - 1)) = (x1.size : Int))), .i y1.2]) ⟨S2, rfl, ((Ext.refl S0 w0).trans z2), p2⟩
 ·
  rw [decide_eq_false h4]
  refine Gn 14 [(18, undef), (19, undef), (20, undef), (21, undef), (22, undef), (23, undef), (24, undef), (25, undef), (26, undef), (27, .bool false), (28, .i y1.2), (4, .bool false), (5, .i y1.2)] J8t ?_
  obtain rfl := Option.some.inj h
  have p2 := p2.dp 0
  exact Goes.rt Tryz.f5 (.tuple #[.bool false, .i y1.2]) ⟨S2, rfl, ((Ext.refl S0 w0).trans z2), p2⟩

def J8w := Zs [1, 1, 1, 1] B9 []
def J8x := Zb 0 J8w
def Q5n := sub [1, 1, 1, 0, 1, 0, 0] B9
def J8y := Zl Q5n J8x
def J8z := Zc Q5n J8y
def J90 := Zs [1, 1, 1, 0, 1, 0, 0, 1, 1] B9 J8y
def J91 := Zs [1, 1, 1, 0, 1, 0, 0, 1, 0] B9 J90
def J92 := Zs [1, 1, 1, 0, 1, 0, 0, 1, 1, 1] B9 J8y
def J93 := Zb 1 J92
def Q5r := sub [1, 1, 1, 0, 1, 0, 0, 1, 1, 0, 0, 1] B9
def J94 := Zc Q5r J93
def J95 := Zt [1, 1, 1, 0, 1, 0, 0, 1, 1, 0, 0, 0] B9 [0, 1, 2] J94
def J96 := Zr Q5r [2, 3, 4] J93
def J97 := Zs [1, 1, 1, 1, 1] B9 []
def J98 := Zt [1, 1, 1, 1, 0] B9 [1] J97
def J99 := Zs [1, 1, 1, 1, 1, 1] B9 []

def Post.z1a (gx0 : Nat) (uh : Option Nat) (ui : Nat) (uj : Nat) (uk : List Value) (ul : Nat) (um : Option Nat) (un : Nat) (uo : Nat) (up : List Value) (uq : Option Nat) (ur : Nat) (ut : Nat) (uu : List Value) (uv : Nat) (uw : Option Nat) (ux : Nat) (uy : Nat) (uz : List Value) (u10 : Option Nat) (u11 : Nat) (u12 : Nat) (u13 : List Value) (x0v : T50) (r : List Int) (v : Value) (w' : World) : Prop :=
 ∃ S' Gq nq cq csq, v = .slice (Gp Gq) nq cq ∧ Ext S0 w0 S' w' ∧ Hp nz wz S' w' ((Gq, .row 3 csq (cq * (kInt .i64).size) 0) :: (some gx0, .row 51 [.slice (Gp uh) ui uj, (pt ul 0), (pt uv 0)] 3 0) :: (uh, .row 46 uk (uj * kT45.size) 0) :: (some ul, .row 66 [.slice (Gp um) un uo, .slice (Gp uq) ur ut] 2 0) :: (um, .row 3 up (uo * (kInt .i64).size) 0) :: (uq, .row 49 uu (ut * (kInt .i64).size) 0) :: (some uv, .row 66 [.slice (Gp uw) ux uy, .slice (Gp u10) u11 u12] 2 0) :: (uw, .row 3 uz (uy * (kInt .i64).size) 0) :: (u10, .row 49 u13 (u12 * (kInt .i64).size) 0) :: Lr) ∧ Els (kInt .i64) S' w' csq r ∧ r.length = nq

def L.z1b (gx0 : Nat) (uh : Option Nat) (ui : Nat) (uj : Nat) (uk : List Value) (ul : Nat) (um : Option Nat) (un : Nat) (uo : Nat) (up : List Value) (uq : Option Nat) (ur : Nat) (ut : Nat) (uu : List Value) (uv : Nat) (uw : Option Nat) (ux : Nat) (uy : Nat) (uz : List Value) (u10 : Option Nat) (u11 : Nat) (u12 : Nat) (u13 : List Value) : (List Int) × Int × Int × T50 → (List Int) → Prop := fun ⟨x3, x16, x17, x0v⟩ r => ∀ S1 w1, Ext S0 w0 S1 w1 → ∀ Gx3 nx3 cx3 u6v (_ : Hp nz wz S1 w1 ((Gx3, .row 3 u6v (cx3 * (kInt .i64).size) 0) :: (some gx0, .row 51 [.slice (Gp uh) ui uj, (pt ul 0), (pt uv 0)] 3 0) :: (uh, .row 46 uk (uj * kT45.size) 0) :: (some ul, .row 66 [.slice (Gp um) un uo, .slice (Gp uq) ur ut] 2 0) :: (um, .row 3 up (uo * (kInt .i64).size) 0) :: (uq, .row 49 uu (ut * (kInt .i64).size) 0) :: (some uv, .row 66 [.slice (Gp uw) ux uy, .slice (Gp u10) u11 u12] 2 0) :: (uw, .row 3 uz (uy * (kInt .i64).size) 0) :: (u10, .row 49 u13 (u12 * (kInt .i64).size) 0) :: Lr)) (_ : Els (kInt .i64) S1 w1 u6v x3) (_ : x3.length = nx3) (_ : Els kT45 S1 w1 uk x0v.l) (_ : x0v.l.length = ui) (_ : Els (kInt .i64) S1 w1 up x0v.now.place) (_ : x0v.now.place.length = un) (_ : Els (kInt .i64) S1 w1 uu x0v.now.list) (_ : x0v.now.list.length = ur) (_ : Els (kInt .i64) S1 w1 uz x0v.next.place) (_ : x0v.next.place.length = ux) (_ : Els (kInt .i64) S1 w1 u13 x0v.next.list) (_ : x0v.next.list.length = u11) (junk : Nat → Value),
 Goes Tryz.prog (base 9) J8z ⟨lfr 29 [(3, .slice (Gp Gx3) nx3 cx3), (15, .slice (Gp uq) ur ut), (16, .i x16), (17, .i x17)] junk, []⟩ w1 (Done Tryz.prog 9 (Rets (Post.z1a nz wz S0 w0 Lr gx0 uh ui uj uk ul um un uo up uq ur ut uu uv uw ux uy uz u10 u11 u12 u13 x0v r)))

theorem W.z1b {nz wz S0 w0 Lr} (gx0 : Nat) (uh : Option Nat) (ui : Nat) (uj : Nat) (uk : List Value) (ul : Nat) (um : Option Nat) (un : Nat) (uo : Nat) (up : List Value) (uq : Option Nat) (ur : Nat) (ut : Nat) (uu : List Value) (uv : Nat) (uw : Option Nat) (ux : Nat) (uy : Nat) (uz : List Value) (u10 : Option Nat) (u11 : Nat) (u12 : Nat) (u13 : List Value) : ∀ a r, M.sim_Runner_At_l0 a = some r → (L.z1b nz wz S0 w0 Lr gx0 uh ui uj uk ul um un uo up uq ur ut uu uv uw ux uy uz u10 u11 u12 u13) a r := by
 refine M.sim_Runner_At_l0.partial_correctness (motive := (L.z1b nz wz S0 w0 Lr gx0 uh ui uj uk ul um un uo up uq ur ut uu uv uw ux uy uz u10 u11 u12 u13)) ?_
 intro u6w u6x ⟨x3, x16, x17, x0v⟩ r h S1 w1 hx Gx3 nx3 cx3 u6v p1 fx3 lx3 fs2 ls2 fs4 ls4 fs6 ls6 fs8 ls8 u29 u2a junk
 try dsimp only at h
 subst lx3
 subst ls2
 subst ls4
 subst ls6
 subst ls8
 subst u2a
 refine Gn 5 [(18, .bool (decide (x17 < x16)))] J91 ?_
 refine ite_some h (fun h13 h => ?_) (fun h13 h => ?_)
 ·
  rw [decide_eq_true h13]
  refine Gn 6 [] J95 ?_
  refine guard_some' h fun g14 h => ?_
  refine guard_some' h fun g15 h => ?_
  refine Op_.ixO_n 64 (.tmp 15) (.tmp 17) 19 0 49 .i64 x17 5 x0v.now.list.length ut (gi x0v.now.list x17) rfl rfl p1 rfl fs6 Goes.v (by kernel_rfl) (by kernel_rfl) (by kernel_rfl) (by kernel_rfl) (by decide) g14 g15 ?_
  rintro b16 _ rfl q18 f17
  obtain rfl := q18
  refine Goes.ld 49 (.tmp 19) 20 49 ⟨b16, (x17 : Int).toNat * (kInt .i64).size, none⟩ (.i (gi x0v.now.list x17)) (f17 0 _ rfl) ?_
  refine Gn 5 [(5, .i (gi x0v.now.list x17)), (21, .slice (Gp Gx3) x3.length cx3), (22, .i (gi x0v.now.list x17))] J96 ?_
  have f21 : Els (kInt .i64) S1 w1 ([.i (gi x0v.now.list x17)] : List Value) [gi x0v.now.list x17] := by exact (Els.cons (K := (kInt .i64)) (vs := [.i (gi x0v.now.list x17)]) (x := gi x0v.now.list x17) rfl Els.nil)
  refine Op_.made (.buildSlice 33 1 #[(0, (.tmp 22))]) 23 33 (fun b => .slice (Gp (some b)) 1 1) 3 ([.i (gi x0v.now.list x17)] : List Value) p1 Goes.v (by kernel_rfl) ?_
  intro b20 w3 z3 p3
  have p3 : Hp nz wz S1 w3 (((some b20), .row 3 ([.i (gi x0v.now.list x17)] : List Value) (1 * (kInt .i64).size) 0) :: (Gx3, .row 3 u6v (cx3 * (kInt .i64).size) 0) :: (some gx0, .row 51 [.slice (Gp uh) x0v.l.length uj, (pt ul 0), (pt uv 0)] 3 0) :: (uh, .row 46 uk (uj * kT45.size) 0) :: (some ul, .row 66 [.slice (Gp um) x0v.now.place.length uo, .slice (Gp (some b16)) x0v.now.list.length ut] 2 0) :: (um, .row 3 up (uo * (kInt .i64).size) 0) :: ((some b16), .row 49 uu (ut * (kInt .i64).size) 0) :: (some uv, .row 66 [.slice (Gp uw) x0v.next.place.length uy, .slice (Gp u10) x0v.next.list.length u12] 2 0) :: (uw, .row 3 uz (uy * (kInt .i64).size) 0) :: (u10, .row 49 u13 (u12 * (kInt .i64).size) 0) :: Lr) := p3
  refine guard_some' h fun g26 h => ?_
  refine Op_.ap_n (K := (kInt .i64)) 33 (.tmp 21) (.tmp 23) 24 33 3 1 (.i 0) 8 x3.length cx3 1 x3 [gi x0v.now.list x17] (x3 ++ [gi x0v.now.list x17]) (Gp (some b20)) 1 rfl rfl rfl p3 rfl (fx3.ext z3) Goes.v (by kernel_rfl) (by kernel_rfl) (by kernel_rfl) (by kernel_rfl) rfl (by decide) (f21.ext z3) (src_own p3 (q := 0) rfl) (by have := g26; omega) (by have := g26; omega) ?_
  intro w4 G27 c28 u6y z4 p4 f30
  refine Gn 8 [(3, .slice (Gp G27) ((x3 ++ [gi x0v.now.list x17]).length) c28), (25, .i (wr .i64 (x17 + 1))), (17, .i (wr .i64 (x17 + 1)))] J8z ?_
  have p4 := p4.dp 0
  exact Gj 29 [(3, .slice (Gp G27) ((x3 ++ [gi x0v.now.list x17]).length) c28), (15, .slice (Gp (some b16)) x0v.now.list.length ut), (16, .i x16), (17, .i (wr .i64 (x17 + 1)))] (u6x _ _ h _ _ ((hx.trans z3).trans z4) G27 ((x3 ++ [gi x0v.now.list x17]).length) c28 u6y p4 f30 rfl (fs2.ext (z3.trans z4)) rfl (fs4.ext (z3.trans z4)) rfl (fs6.ext (z3.trans z4)) rfl (fs8.ext (z3.trans z4)) rfl (u29.ext (z3.trans z4)) rfl)
 ·
  rw [decide_eq_false h13]
  refine Gn 5 [(26, .slice (Gp Gx3) x3.length cx3)] J98 ?_
  refine guard_some' h fun g31 h => ?_
  refine Gc (kc 26 [26] #[33]) 27 0 26 _ (sortI_calls Tryz.sortI p1 fx3 rfl g31) ?_
  rintro _ w5 ⟨rfl, z5, u6b, p5, f33⟩
  refine Gn 6 [(28, .slice (Gp Gx3) x3.length cx3), (2, .slice (Gp Gx3) x3.length cx3)] J99 ?_
  obtain rfl := Option.some.inj h
  exact Goes.rt Tryz.f9 (.slice (Gp Gx3) x3.length cx3) ⟨S1, Gx3, x3.length, cx3, u6b, rfl, (hx.trans z5), p5, f33, (srtI_len rfl)⟩

def J9a := Zs [1, 1] B9 []
def J9b := Zs [1, 0, 1] B9 J9a
def J9c := Zt [1, 0, 0] B9 [1, 2] J9b
def J9d := Zs [1, 1, 1, 0, 1] B9 J8w
def Q60 := sub [1, 1, 1, 0, 0] B9
def J9e := Zr Q60 [3, 4, 5, 6, 7, 8] J9d
def J9f := Zr Q60 [6, 7, 8] J9d

theorem W.z1a (x0v : T50) (r : List Int) (h : M.sim_Runner_At x0v = some r) {nz wz S0 w0 Lr} (gx0 uh ui uj uk ul um un uo up uq ur ut uu uv uw ux uy uz u10 u11 u12 u13) (p0 : Hp nz wz S0 w0 ((some gx0, .row 51 [.slice (Gp uh) ui uj, (pt ul 0), (pt uv 0)] 3 0) :: (uh, .row 46 uk (uj * kT45.size) 0) :: (some ul, .row 66 [.slice (Gp um) un uo, .slice (Gp uq) ur ut] 2 0) :: (um, .row 3 up (uo * (kInt .i64).size) 0) :: (uq, .row 49 uu (ut * (kInt .i64).size) 0) :: (some uv, .row 66 [.slice (Gp uw) ux uy, .slice (Gp u10) u11 u12] 2 0) :: (uw, .row 3 uz (uy * (kInt .i64).size) 0) :: (u10, .row 49 u13 (u12 * (kInt .i64).size) 0) :: Lr)) (u14 : Els kT45 S0 w0 uk x0v.l) (u15 : x0v.l.length = ui) (u16 : Els (kInt .i64) S0 w0 up x0v.now.place) (u17 : x0v.now.place.length = un) (u18 : Els (kInt .i64) S0 w0 uu x0v.now.list) (u19 : x0v.now.list.length = ur) (u1a : Els (kInt .i64) S0 w0 uz x0v.next.place) (u1b : x0v.next.place.length = ux) (u1c : Els (kInt .i64) S0 w0 u13 x0v.next.list) (u1d : x0v.next.list.length = u11) :
  Calls Tryz.prog 9 #[(pt gx0 0)] w0 (Rets (Post.z1a nz wz S0 w0 Lr gx0 uh ui uj uk ul um un uo up uq ur ut uu uv uw ux uy uz u10 u11 u12 u13 x0v r)) := by
 subst u15
 subst u17
 subst u19
 subst u1b
 subst u1d
 refine Zf Tryz.f9 B9 28 ?_
 refine Gj 29 [(0, (pt gx0 0))] fun junk => ?_
 delta M.sim_Runner_At at h
 refine Gn 8 [(2, .slice none 0 0), (6, (pt gx0 0))] J9c ?_
 refine bind_some' h fun y9 e10 h => ?_
 refine Gc (kc 25 [6] #[25]) 7 4 25 _ (W.z7 x0v y9 e10 gx0 uh x0v.l.length uj uk ul um x0v.now.place.length uo up uq x0v.now.list.length ut uu uv uw x0v.next.place.length uy uz u10 x0v.next.list.length u12 u13 p0 u14 rfl u16 rfl u18 rfl u1a rfl u1c rfl) ?_
 rintro _ w2 ⟨S2, rfl, z2, p2⟩
 refine Gn 14 [(8, .bool (!true)), (3, .slice none 0 0), (9, (pt gx0 0)), (10, (pt gx0 0)), (11, (pt gx0 1))] J9e ?_
 refine Goes.ld 47 (.tmp 11) 12 47 ⟨gx0, 1, none⟩ ((pt ul 0)) (p2.c 0 1) ?_
 refine Gn 2 [(13, (pt ul 0)), (14, (pt ul 1))] J9f ?_
 refine Goes.ld 64 (.tmp 14) 15 64 ⟨ul, 1, none⟩ (.slice (Gp uq) x0v.now.list.length ut) (p2.c 2 1) ?_
 refine Gn 5 [(16, .i (x0v.now.list.length : Int)), (17, .i 0)] J8z ?_
 have p2 : Hp nz wz S2 w2 ((none, .row 3 [] (0 * (kInt .i64).size) 0) :: (some gx0, .row 51 [.slice (Gp uh) x0v.l.length uj, (pt ul 0), (pt uv 0)] 3 0) :: (uh, .row 46 uk (uj * kT45.size) 0) :: (some ul, .row 66 [.slice (Gp um) x0v.now.place.length uo, .slice (Gp uq) x0v.now.list.length ut] 2 0) :: (um, .row 3 up (uo * (kInt .i64).size) 0) :: (uq, .row 49 uu (ut * (kInt .i64).size) 0) :: (some uv, .row 66 [.slice (Gp uw) x0v.next.place.length uy, .slice (Gp u10) x0v.next.list.length u12] 2 0) :: (uw, .row 3 uz (uy * (kInt .i64).size) 0) :: (u10, .row 49 u13 (u12 * (kInt .i64).size) 0) :: Lr) := p2.nilRow' 3
 exact Gj 29 [(3, .slice (Gp none) 0 0), (15, .slice (Gp uq) x0v.now.list.length ut), (16, .i (x0v.now.list.length : Int)), (17, .i 0)] (W.z1b gx0 uh x0v.l.length uj uk ul um x0v.now.place.length uo up uq x0v.now.list.length ut uu uv uw x0v.next.place.length uy uz u10 x0v.next.list.length u12 u13 _ _ h _ _ ((Ext.refl S0 w0).trans z2) none 0 0 [] p2 (Els.nil (K := (kInt .i64))) rfl (u14.ext z2) rfl (u16.ext z2) rfl (u18.ext z2) rfl (u1a.ext z2) rfl (u1c.ext z2) rfl)

def J9g := Zs [1, 1, 1] B8 []
def J9h := Zb 0 J9g
def Q62 := sub [1, 1, 0, 1, 0, 0] B8
def J9i := Zl Q62 J9h
def J9j := Zc Q62 J9i
def J9k := Zs [1, 1, 0, 1, 0, 0, 1] B8 J9i
def J9l := Zs [1, 1, 0, 1, 0, 0, 0, 1] B8 J9k
def J9m := Zs [1, 1, 0, 1, 0, 0, 1, 1] B8 J9i
def J9n := Zb 1 J9m
def J9o := Zs [1, 1, 0, 1, 0, 0, 1, 0, 0, 1] B8 J9n
def J9p := Zs [1, 1, 0, 1, 0, 0, 1, 0, 0, 0] B8 J9o
def J9q := Zs [1, 1, 0, 1, 0, 0, 1, 0, 0, 1, 0, 1] B8 J9n
def J9r := Zs [1, 1, 1, 1] B8 []

def Post.z1c (r : Bool) (v : Value) (w' : World) : Prop :=
 ∃ S', v = .bool r ∧ Ext S0 w0 S' w' ∧ Hp nz wz S' w' (Lr)

def L.z1d : (List Int) × (List Int) × Int → Bool → Prop := fun ⟨x0, x1, x5⟩ r => ∀ S1 w1, Ext S0 w0 S1 w1 → ∀ Ax0 nx0 cx0 Ax1 nx1 cx1 (_ : Hp nz wz S1 w1 (Lr)) (_ : Rd (kInt .i64) S1 w1 Ax0 cx0 x0) (_ : x0.length = nx0) (_ : Rd (kInt .i64) S1 w1 Ax1 cx1 x1) (_ : x1.length = nx1) (junk : Nat → Value),
 Goes Tryz.prog (base 8) J9j ⟨lfr 26 [(0, .slice Ax0 nx0 cx0), (1, .slice Ax1 nx1 cx1), (5, .i x5)] junk, []⟩ w1 (Done Tryz.prog 8 (Rets (Post.z1c nz wz S0 w0 Lr r)))

theorem W.z1d {nz wz S0 w0 Lr} : ∀ a r, M.tidepolebase_SameInts_l0 a = some r → (L.z1d nz wz S0 w0 Lr) a r := by
 refine M.tidepolebase_SameInts_l0.partial_correctness (motive := (L.z1d nz wz S0 w0 Lr)) ?_
 intro u6z u70 ⟨x0, x1, x5⟩ r h S1 w1 hx Ax0 nx0 cx0 Ax1 nx1 cx1 p1 fx0 lx0 fx1 lx1 junk
 try dsimp only at h
 subst lx0
 subst lx1
 refine Gn 8 [(11, .i x5), (12, .slice Ax0 x0.length cx0), (13, .i (x0.length : Int)), (14, .bool (decide (x5 < (x0.length : Int))))] J9l ?_
 refine ite_some h (fun h2 h => ?_) (fun h2 h => ?_)
 ·
  rw [decide_eq_true h2]
  refine Gn 5 [] J9p ?_
  have z2 : Ext S1 w1 S1 (w1).drew := Ext.draw
  have p2 := p1.draw
  refine Goes.drawn (s := []) (F := Fc S1 (w1).drew []) 6 9 (by kernel_rfl) (by kernel_rfl) (by kernel_rfl) (by kernel_rfl) ?_
  generalize (w1).drew = w2 at z2 p2 ⊢
  refine AnyG.pu 0 (.move (.tmp 0)) 17 33 (.slice Ax0 x0.length cx0) (Fc.here trivial) ?_
  refine AnyG.pu 1 (.move (.tmp 5)) 18 3 (.i x5) (Fc.here trivial) ?_
  refine guard_some' h fun g3 h => ?_
  refine AnyG.ixR_n (i := 2) 33 (.tmp 17) (.tmp 18) 19 0 3 .i64 x5 (gi x0 x5) rfl rfl (fx0.ext z2) (by kernel_rfl) (by kernel_rfl) (Fc.here trivial) (by kernel_rfl) (by kernel_rfl) (by kernel_rfl) (by kernel_rfl) g3 h2 ?_
  intro a4 _ f5 q6
  obtain rfl := q6
  refine AnyG.ld1 (i := 3) 3 (.tmp 19) 20 3 a4 (.i (gi x0 x5)) (by kernel_rfl) (by kernel_rfl) (Fc.here trivial) (by kernel_rfl) (by kernel_rfl) (fun _ h => f5.fc h 0 _ rfl) ?_
  refine AnyG.pu 4 (.move (.tmp 1)) 21 33 (.slice Ax1 x1.length cx1) (Fc.here trivial) ?_
  refine AnyG.pu 5 (.move (.tmp 5)) 22 3 (.i x5) (Fc.here trivial) ?_
  refine guard_some' h fun g7 h => ?_
  refine AnyG.ixR_n (i := 6) 33 (.tmp 21) (.tmp 22) 23 0 3 .i64 x5 (gi x1 x5) rfl rfl (fx1.ext z2) (by kernel_rfl) (by kernel_rfl) (Fc.here trivial) (by kernel_rfl) (by kernel_rfl) (by kernel_rfl) (by kernel_rfl) g3 g7 ?_
  intro a8 _ f9 q10
  obtain rfl := q10
  refine AnyG.ld1 (i := 7) 3 (.tmp 23) 24 3 a8 (.i (gi x1 x5)) (by kernel_rfl) (by kernel_rfl) (Fc.here trivial) (by kernel_rfl) (by kernel_rfl) (fun _ h => f9.fc h 0 _ rfl) ?_
  refine AnyG.pu 8 (.binOp .neq 3 (.tmp 20) (.tmp 24) 3) 25 4 (.bool (!(decide (gi x0 x5 = gi x1 x5)))) (Fc.here trivial) ?_
  refine AnyG.done (by kernel_rfl) ?_ _
  refine ite_some h (fun h11 h => ?_) (fun h11 h => ?_)
  ·
   rw [decide_eq_true h11]
   refine Gn 9 [(15, .i x5), (16, .i (wr .i64 (x5 + 1))), (5, .i (wr .i64 (x5 + 1)))] J9j ?_
   exact Gj 26 [(0, .slice Ax0 x0.length cx0), (1, .slice Ax1 x1.length cx1), (5, .i (wr .i64 (x5 + 1)))] (u70 _ _ h _ _ (hx.trans z2) Ax0 x0.length cx0 Ax1 x1.length cx1 p2 (fx0.ext z2) rfl (fx1.ext z2) rfl)
  ·
   rw [decide_eq_false h11]
   refine Gn 5 [(4, .bool false)] J9q ?_
   obtain rfl := Option.some.inj h
   exact Goes.rt Tryz.f8 (.bool false) ⟨S1, rfl, (hx.trans z2), p2⟩
 ·
  rw [decide_eq_false h2]
  refine Gn 6 [(4, .bool true)] J9r ?_
  obtain rfl := Option.some.inj h
  exact Goes.rt Tryz.f8 (.bool true) ⟨S1, rfl, hx, p1⟩

def J9s := Zs [1, 1] B8 []
def J9t := Zs [1, 0, 1] B8 J9s
def J9u := Zs [1, 0, 1, 0, 1] B8 J9s

theorem W.z1c (x0 : List Int) (x1 : List Int) (r : Bool) (h : M.tidepolebase_SameInts x0 x1 = some r) {nz wz S0 w0 Lr} (Ax0 nx0 cx0 Ax1 nx1 cx1) (p0 : Hp nz wz S0 w0 (Lr)) (fx0 : Rd (kInt .i64) S0 w0 Ax0 cx0 x0) (lx0 : x0.length = nx0) (fx1 : Rd (kInt .i64) S0 w0 Ax1 cx1 x1) (lx1 : x1.length = nx1) :
  Calls Tryz.prog 8 #[.slice Ax0 nx0 cx0, .slice Ax1 nx1 cx1] w0 (Rets (Post.z1c nz wz S0 w0 Lr r)) := by
 subst lx0
 subst lx1
 refine Zf Tryz.f8 B8 24 ?_
 refine Gj 26 [(0, .slice Ax0 x0.length cx0), (1, .slice Ax1 x1.length cx1)] fun junk => ?_
 delta M.tidepolebase_SameInts at h
 refine Gn 13 [(4, .bool false), (6, .slice Ax0 x0.length cx0), (7, .i (x0.length : Int)), (8, .slice Ax1 x1.length cx1), (9, .i (x1.length : Int)), (10, .bool (!(decide ((x0.length : Int) = (x1.length : Int)))))] J9t ?_
 refine ite_some h (fun h1 h => ?_) (fun h1 h => ?_)
 ·
  rw [decide_eq_true h1]
  refine Gn 9 [(5, .i 0)] J9j ?_
  exact Gj 26 [(0, .slice Ax0 x0.length cx0), (1, .slice Ax1 x1.length cx1), (5, .i 0)] (W.z1d _ _ h _ _ (Ext.refl S0 w0) Ax0 x0.length cx0 Ax1 x1.length cx1 p0 fx0 rfl fx1 rfl)
 ·
  rw [decide_eq_false h1]
  refine Gn 5 [(4, .bool false)] J9u ?_
  obtain rfl := Option.some.inj h
  exact Goes.rt Tryz.f8 (.bool false) ⟨S0, rfl, (Ext.refl S0 w0), p0⟩

def J9v := Zs [1, 1] B10 []
def Q6e := sub [1, 0] B10
def J9w := Zr Q6e [1, 2, 3, 4, 5, 6, 7, 8, 9, 10, 11, 12, 13, 14] J9v
def J9x := Zr Q6e [7, 8, 9, 10, 11, 12, 13, 14] J9v
def J9y := Zr Q6e [10, 11, 12, 13, 14] J9v

def Post.z1e (gx0 : Nat) (uh : Option Nat) (ui : Nat) (uj : Nat) (uk : List Value) (ul : Nat) (um : Option Nat) (un : Nat) (uo : Nat) (up : List Value) (uq : Option Nat) (ur : Nat) (ut : Nat) (uu : List Value) (uv : Nat) (uw : Option Nat) (ux : Nat) (uy : Nat) (uz : List Value) (u10 : Option Nat) (u11 : Nat) (u12 : Nat) (u13 : List Value) (x0v : T50) (r : Bool) (v : Value) (w' : World) : Prop :=
 ∃ S', v = .bool r ∧ Ext S0 w0 S' w' ∧ Hp nz wz S' w' ((some gx0, .row 51 [.slice (Gp uh) ui uj, (pt ul 0), (pt uv 0)] 3 0) :: (uh, .row 46 uk (uj * kT45.size) 0) :: (some ul, .row 66 [.slice (Gp um) un uo, .slice (Gp uq) ur ut] 2 0) :: (um, .row 3 up (uo * (kInt .i64).size) 0) :: (uq, .row 49 uu (ut * (kInt .i64).size) 0) :: (some uv, .row 66 [.slice (Gp uw) ux uy, .slice (Gp u10) u11 u12] 2 0) :: (uw, .row 3 uz (uy * (kInt .i64).size) 0) :: (u10, .row 49 u13 (u12 * (kInt .i64).size) 0) :: Lr)

theorem W.z1e (x0v : T50) (r : Bool) (h : M.sim_Runner_Dead x0v = some r) {nz wz S0 w0 Lr} (gx0 uh ui uj uk ul um un uo up uq ur ut uu uv uw ux uy uz u10 u11 u12 u13) (p0 : Hp nz wz S0 w0 ((some gx0, .row 51 [.slice (Gp uh) ui uj, (pt ul 0), (pt uv 0)] 3 0) :: (uh, .row 46 uk (uj * kT45.size) 0) :: (some ul, .row 66 [.slice (Gp um) un uo, .slice (Gp uq) ur ut] 2 0) :: (um, .row 3 up (uo * (kInt .i64).size) 0) :: (uq, .row 49 uu (ut * (kInt .i64).size) 0) :: (some uv, .row 66 [.slice (Gp uw) ux uy, .slice (Gp u10) u11 u12] 2 0) :: (uw, .row 3 uz (uy * (kInt .i64).size) 0) :: (u10, .row 49 u13 (u12 * (kInt .i64).size) 0) :: Lr)) (u14 : Els kT45 S0 w0 uk x0v.l) (u15 : x0v.l.length = ui) (u16 : Els (kInt .i64) S0 w0 up x0v.now.place) (u17 : x0v.now.place.length = un) (u18 : Els (kInt .i64) S0 w0 uu x0v.now.list) (u19 : x0v.now.list.length = ur) (u1a : Els (kInt .i64) S0 w0 uz x0v.next.place) (u1b : x0v.next.place.length = ux) (u1c : Els (kInt .i64) S0 w0 u13 x0v.next.list) (u1d : x0v.next.list.length = u11) :
  Calls Tryz.prog 10 #[(pt gx0 0)] w0 (Rets (Post.z1e nz wz S0 w0 Lr gx0 uh ui uj uk ul um un uo up uq ur ut uu uv uw ux uy uz u10 u11 u12 u13 x0v r)) := by
 subst u15
 subst u17
 subst u19
 subst u1b
 subst u1d
 refine Zf Tryz.f10 B10 16 ?_
 refine Gj 17 [(0, (pt gx0 0))] fun junk => ?_
 delta M.sim_Runner_Dead at h
 refine Gn 7 [(2, .bool false), (3, (pt gx0 0))] J9w ?_
 refine bind_some' h fun y9 e10 h => ?_
 refine Gc (kc 25 [3] #[25]) 4 4 25 _ (W.z7 x0v y9 e10 gx0 uh x0v.l.length uj uk ul um x0v.now.place.length uo up uq x0v.now.list.length ut uu uv uw x0v.next.place.length uy uz u10 x0v.next.list.length u12 u13 p0 u14 rfl u16 rfl u18 rfl u1a rfl u1c rfl) ?_
 rintro _ w2 ⟨S2, rfl, z2, p2⟩
 refine Gn 5 [(5, .bool (!true)), (6, .bool (!true)), (7, (pt gx0 0)), (8, (pt gx0 0)), (9, (pt gx0 1))] J9x ?_
 refine Goes.ld 47 (.tmp 9) 10 47 ⟨gx0, 1, none⟩ ((pt ul 0)) (p2.c 0 1) ?_
 refine Gn 2 [(11, (pt ul 0)), (12, (pt ul 1))] J9y ?_
 refine Goes.ld 64 (.tmp 12) 13 64 ⟨ul, 1, none⟩ (.slice (Gp uq) x0v.now.list.length ut) (p2.c 2 1) ?_
 refine Gn 5 [(14, .i (x0v.now.list.length : Int)), (15, .bool (decide ((x0v.now.list.length : Int) = 0))), (16, .bool (decide ((x0v.now.list.length : Int) = 0))), (2, .bool (decide ((x0v.now.list.length : Int) = 0)))] J9v ?_
 obtain rfl := Option.some.inj h
 exact Goes.rt Tryz.f10 (.bool (decide ((x0v.now.list.length : Int) = 0))) ⟨S2, rfl, ((Ext.refl S0 w0).trans z2), p2⟩

def J9z := Zs [1, 1] B28 []
def Q6g := sub [1, 0] B28
def Ja0 := Zr Q6g [0, 1, 2, 3, 4, 5, 6, 7, 8, 9] J9z
def Ja1 := Zr Q6g [3, 4, 5, 6, 7, 8, 9] J9z
def Ja2 := Zr Q6g [5, 6, 7, 8, 9] J9z
def Ja3 := Zr Q6g [7, 8, 9] J9z

def Post.z1f (gx1 : Nat) (u71 : Nat) (u72 : Option Nat) (u73 : Nat) (u74 : Nat) (u75 : List Value) (u76 : Nat) (u77 : Option Nat) (u78 : Nat) (u79 : Nat) (u7a : List Value) (u7b : Option Nat) (u7c : Nat) (u7d : Nat) (u7e : List Value) (u7f : Nat) (u7g : Option Nat) (u7h : Nat) (u7i : Nat) (u7j : List Value) (u7k : Option Nat) (u7l : Nat) (u7m : Nat) (u7n : List Value) (u7o : T50) (r : Bool) (v : Value) (w' : World) : Prop :=
 ∃ S', v = .bool r ∧ Ext S0 w0 S' w' ∧ Hp nz wz S' w' ((some gx1, .row 25 [(pt u71 0)] 1 0) :: (some u71, .row 51 [.slice (Gp u72) u73 u74, (pt u76 0), (pt u7f 0)] 3 0) :: (u72, .row 46 u75 (u74 * kT45.size) 0) :: (some u76, .row 66 [.slice (Gp u77) u78 u79, .slice (Gp u7b) u7c u7d] 2 0) :: (u77, .row 3 u7a (u79 * (kInt .i64).size) 0) :: (u7b, .row 49 u7e (u7d * (kInt .i64).size) 0) :: (some u7f, .row 66 [.slice (Gp u7g) u7h u7i, .slice (Gp u7k) u7l u7m] 2 0) :: (u7g, .row 3 u7j (u7i * (kInt .i64).size) 0) :: (u7k, .row 49 u7n (u7m * (kInt .i64).size) 0) :: Lr)

theorem W.z1f (x0 : Int) (u7o : T50) (r : Bool) (h : M.sim_Runner_Accepts_1 x0 u7o = some r) {nz wz S0 w0 Lr} (gx1 u71 u72 u73 u74 u75 u76 u77 u78 u79 u7a u7b u7c u7d u7e u7f u7g u7h u7i u7j u7k u7l u7m u7n) (p0 : Hp nz wz S0 w0 ((some gx1, .row 25 [(pt u71 0)] 1 0) :: (some u71, .row 51 [.slice (Gp u72) u73 u74, (pt u76 0), (pt u7f 0)] 3 0) :: (u72, .row 46 u75 (u74 * kT45.size) 0) :: (some u76, .row 66 [.slice (Gp u77) u78 u79, .slice (Gp u7b) u7c u7d] 2 0) :: (u77, .row 3 u7a (u79 * (kInt .i64).size) 0) :: (u7b, .row 49 u7e (u7d * (kInt .i64).size) 0) :: (some u7f, .row 66 [.slice (Gp u7g) u7h u7i, .slice (Gp u7k) u7l u7m] 2 0) :: (u7g, .row 3 u7j (u7i * (kInt .i64).size) 0) :: (u7k, .row 49 u7n (u7m * (kInt .i64).size) 0) :: Lr)) (u7p : Els kT45 S0 w0 u75 u7o.l) (u7q : u7o.l.length = u73) (u7r : Els (kInt .i64) S0 w0 u7a u7o.now.place) (u7s : u7o.now.place.length = u78) (u7t : Els (kInt .i64) S0 w0 u7e u7o.now.list) (u7u : u7o.now.list.length = u7c) (u7v : Els (kInt .i64) S0 w0 u7j u7o.next.place) (u7w : u7o.next.place.length = u7h) (u7x : Els (kInt .i64) S0 w0 u7n u7o.next.list) (u7y : u7o.next.list.length = u7l) :
  Calls Tryz.prog 28 #[.i x0, (pt gx1 0)] w0 (Rets (Post.z1f nz wz S0 w0 Lr gx1 u71 u72 u73 u74 u75 u76 u77 u78 u79 u7a u7b u7c u7d u7e u7f u7g u7h u7i u7j u7k u7l u7m u7n u7o r)) := by
 subst u7q
 subst u7s
 subst u7u
 subst u7w
 subst u7y
 refine Zf Tryz.f28 B28 11 ?_
 refine Gj 13 [(0, .i x0), (1, (pt gx1 0))] fun junk => ?_
 delta M.sim_Runner_Accepts_1 at h
 refine Gn 6 [(3, .bool false)] Ja0 ?_
 refine Goes.ld 25 (.tmp 1) 4 25 ⟨gx1, 0, none⟩ ((pt u71 0)) (p0.c 0 0) ?_
 refine Gn 2 [(5, (pt u71 0)), (6, (pt u71 0))] Ja1 ?_
 refine Goes.ld 22 (.tmp 6) 7 22 ⟨u71, 0, none⟩ (.slice (Gp u72) u7o.l.length u74) (p0.c 1 0) ?_
 refine Gn 1 [(8, .i x0)] Ja2 ?_
 refine guard_some' h fun g10 h => ?_
 refine guard_some' h fun g11 h => ?_
 refine Op_.ixO_n 22 (.tmp 7) (.tmp 8) 9 0 46 .i64 x0 2 u7o.l.length u74 (gi u7o.l x0) rfl rfl p0 rfl u7p Goes.v (by kernel_rfl) (by kernel_rfl) (by kernel_rfl) (by kernel_rfl) (by decide) g10 g11 ?_
 rintro b12 _ rfl q14 f13
 obtain ⟨_, _, rfl, rfl, ⟨_, _, rfl, ⟨l15, f16⟩, ⟨_, _, rfl, rfl, rfl⟩⟩⟩ := q14
 obtain rfl := els_lit4' f16 l15
 refine Gn 1 [(10, .pointer (some (Addr.add ⟨b12, (x0 : Int).toNat * kT45.size, none⟩ 0)))] Ja3 ?_
 refine Goes.ld 3 (.tmp 10) 11 3 (Addr.add ⟨b12, (x0 : Int).toNat * kT45.size, none⟩ 0) (.i ((gi u7o.l x0).Op)) ((hc_part (us := []) (vs := [.i ((gi u7o.l x0).Op)]) (ws := (U4 ((gi u7o.l x0).Set) [.i ((gi u7o.l x0).X), .i ((gi u7o.l x0).Y)])) f13) 0 _ rfl) ?_
 refine Gn 3 [(12, .bool (decide ((gi u7o.l x0).Op = 3))), (3, .bool (decide ((gi u7o.l x0).Op = 3)))] J9z ?_
 obtain rfl := Option.some.inj h
 exact Goes.rt Tryz.f28 (.bool (decide ((gi u7o.l x0).Op = 3))) ⟨S0, rfl, (Ext.refl S0 w0), p0⟩

def Ja4 := Zs [1, 1] B46 []
def Ja5 := Zb 0 Ja4
def Q6i := sub [1, 0, 1, 0, 0] B46
def Ja6 := Zl Q6i Ja5
def Ja7 := Zc Q6i Ja6
def Ja8 := Zs [1, 0, 1, 0, 0, 1, 1] B46 Ja6
def Ja9 := Zs [1, 0, 1, 0, 0, 1, 0] B46 Ja8
def Jaa := Zs [1, 0, 1, 0, 0, 1, 1, 1] B46 Ja6
def Jab := Zb 1 Jaa
def Jac := Zs [1, 0, 1, 0, 0, 1, 1, 0, 0, 1, 1] B46 Jab
def Jad := Zt [1, 0, 1, 0, 0, 1, 1, 0, 0, 1, 0] B46 [3, 4, 5] Jac
def Jae := Zs [1, 0, 1, 0, 0, 1, 1, 0, 0, 1, 1, 0, 1] B46 Jab
def Jaf := Zs [1, 1, 1] B46 []

def Post.z1g (Gx0 : Option Nat) (nx0 : Nat) (cx0 : Nat) (u7z : List Value) (u80 : Nat) (u81 : Nat) (u82 : Option Nat) (u83 : Nat) (u84 : Nat) (u85 : List Value) (u86 : Nat) (u87 : Option Nat) (u88 : Nat) (u89 : Nat) (u8a : List Value) (u8b : Nat) (u8c : Option Nat) (u8d : Nat) (u8e : Nat) (u8f : List Value) (u8g : Option Nat) (u8h : Nat) (u8i : Nat) (u8j : List Value) (x0 : List Int) (u8k : List T45) (u8l : List Int) (u8m : T65) (r : Int) (v : Value) (w' : World) : Prop :=
 ∃ S', v = .i r ∧ Ext S0 w0 S' w' ∧ Hp nz wz S' w' ((some u80, .row 25 [(pt u81 0)] 1 0) :: (some u81, .row 51 [.slice (Gp u82) u83 u84, (pt u86 0), (pt u8b 0)] 3 0) :: (u82, .row 46 u85 (u84 * kT45.size) 0) :: (some u86, .row 66 [.slice (Gp u87) u88 u89, .slice (Gp Gx0) nx0 cx0] 2 0) :: (u87, .row 3 u8a (u89 * (kInt .i64).size) 0) :: (Gx0, .row 49 u7z (cx0 * (kInt .i64).size) 0) :: (some u8b, .row 66 [.slice (Gp u8c) u8d u8e, .slice (Gp u8g) u8h u8i] 2 0) :: (u8c, .row 3 u8f (u8e * (kInt .i64).size) 0) :: (u8g, .row 49 u8j (u8i * (kInt .i64).size) 0) :: Lr)

def L.z1h (Gx0 : Option Nat) (nx0 : Nat) (cx0 : Nat) (u7z : List Value) (u80 : Nat) (u81 : Nat) (u82 : Option Nat) (u83 : Nat) (u84 : Nat) (u85 : List Value) (u86 : Nat) (u87 : Option Nat) (u88 : Nat) (u89 : Nat) (u8a : List Value) (u8b : Nat) (u8c : Option Nat) (u8d : Nat) (u8e : Nat) (u8f : List Value) (u8g : Option Nat) (u8h : Nat) (u8i : Nat) (u8j : List Value) : Int × Int × (List Int) × (List T45) × (List Int) × T65 → Int → Prop := fun ⟨x7, x8, x0, u8k, u8l, u8m⟩ r => ∀ S1 w1, Ext S0 w0 S1 w1 → ∀ (_ : Hp nz wz S1 w1 ((some u80, .row 25 [(pt u81 0)] 1 0) :: (some u81, .row 51 [.slice (Gp u82) u83 u84, (pt u86 0), (pt u8b 0)] 3 0) :: (u82, .row 46 u85 (u84 * kT45.size) 0) :: (some u86, .row 66 [.slice (Gp u87) u88 u89, .slice (Gp Gx0) nx0 cx0] 2 0) :: (u87, .row 3 u8a (u89 * (kInt .i64).size) 0) :: (Gx0, .row 49 u7z (cx0 * (kInt .i64).size) 0) :: (some u8b, .row 66 [.slice (Gp u8c) u8d u8e, .slice (Gp u8g) u8h u8i] 2 0) :: (u8c, .row 3 u8f (u8e * (kInt .i64).size) 0) :: (u8g, .row 49 u8j (u8i * (kInt .i64).size) 0) :: Lr)) (_ : Els kT45 S1 w1 u85 u8k) (_ : u8k.length = u83) (_ : Els (kInt .i64) S1 w1 u8a u8l) (_ : u8l.length = u88) (_ : Els (kInt .i64) S1 w1 u7z x0) (_ : x0.length = nx0) (_ : Els (kInt .i64) S1 w1 u8f u8m.place) (_ : u8m.place.length = u8d) (_ : Els (kInt .i64) S1 w1 u8j u8m.list) (_ : u8m.list.length = u8h) (junk : Nat → Value),
 Goes Tryz.prog (base 46) Ja7 ⟨lfr 19 [(0, .slice (Gp Gx0) nx0 cx0), (1, .func (.func 28) #[] #[(pt u80 0)]), (7, .i x7), (8, .i x8)] junk, []⟩ w1 (Done Tryz.prog 46 (Rets (Post.z1g nz wz S0 w0 Lr Gx0 nx0 cx0 u7z u80 u81 u82 u83 u84 u85 u86 u87 u88 u89 u8a u8b u8c u8d u8e u8f u8g u8h u8i u8j x0 u8k u8l u8m r)))

theorem W.z1h {nz wz S0 w0 Lr} (Gx0 : Option Nat) (nx0 : Nat) (cx0 : Nat) (u7z : List Value) (u80 : Nat) (u81 : Nat) (u82 : Option Nat) (u83 : Nat) (u84 : Nat) (u85 : List Value) (u86 : Nat) (u87 : Option Nat) (u88 : Nat) (u89 : Nat) (u8a : List Value) (u8b : Nat) (u8c : Option Nat) (u8d : Nat) (u8e : Nat) (u8f : List Value) (u8g : Option Nat) (u8h : Nat) (u8i : Nat) (u8j : List Value) : ∀ a r, M.sim_state_3_l0 a = some r → (L.z1h nz wz S0 w0 Lr Gx0 nx0 cx0 u7z u80 u81 u82 u83 u84 u85 u86 u87 u88 u89 u8a u8b u8c u8d u8e u8f u8g u8h u8i u8j) a r := by
 refine M.sim_state_3_l0.partial_correctness (motive := (L.z1h nz wz S0 w0 Lr Gx0 nx0 cx0 u7z u80 u81 u82 u83 u84 u85 u86 u87 u88 u89 u8a u8b u8c u8d u8e u8f u8g u8h u8i u8j)) ?_
 intro u8n u8o ⟨x7, x8, x0, u8k, u8l, u8m⟩ r h S1 w1 hx p1 fs0 ls0 fs2 ls2 fs4 ls4 fs6 ls6 fs8 ls8 junk
 try dsimp only at h
 subst ls0
 subst ls2
 subst ls4
 subst ls6
 subst ls8
 refine Gn 5 [(9, .bool (decide (x8 < x7)))] Ja9 ?_
 refine ite_some h (fun h10 h => ?_) (fun h10 h => ?_)
 ·
  rw [decide_eq_true h10]
  refine Gn 14 [(10, .i x8), (5, .i x8), (11, .func (.func 28) #[] #[(pt u80 0)]), (12, .slice (Gp Gx0) x0.length cx0), (13, .i x8)] Jad ?_
  refine guard_some' h fun g11 h => ?_
  refine guard_some' h fun g12 h => ?_
  refine Op_.ixO_n 64 (.tmp 12) (.tmp 13) 14 0 49 .i64 x8 5 x0.length cx0 (gi x0 x8) rfl rfl p1 rfl fs4 Goes.v (by kernel_rfl) (by kernel_rfl) (by kernel_rfl) (by kernel_rfl) (by decide) g11 g12 ?_
  rintro b13 _ rfl q15 f14
  obtain rfl := q15
  refine Goes.ld 49 (.tmp 14) 15 49 ⟨b13, (x8 : Int).toNat * (kInt .i64).size, none⟩ (.i (gi x0 x8)) (f14 0 _ rfl) ?_
  refine bind_some' h fun y17 e18 h => ?_
  refine Gc (.call { callee := .value (.tmp 11), args := #[(.tmp 15)], argTypes := #[49] }) 16 4 28 _ (W.z1f (gi x0 x8) (⟨u8k, (⟨u8l, x0⟩ : T65), u8m⟩ : T50) y17 e18 u80 u81 u82 u8k.length u84 u85 u86 u87 u8l.length u89 u8a (some b13) x0.length cx0 u7z u8b u8c u8m.place.length u8e u8f u8g u8m.list.length u8i u8j p1 fs0 rfl fs2 rfl fs4 rfl fs6 rfl fs8 rfl) ?_
  rintro _ w2 ⟨S2, rfl, z2, p2⟩
  refine Gn 1 [] Jac ?_
  refine ite_some h (fun h19 h => ?_) (fun h19 h => ?_)
  ·
   rw [h19]
   refine Gn 6 [(17, .i x8), (4, .i x8)] Jae ?_
   obtain rfl := Option.some.inj h
   exact Goes.rt Tryz.f46 (.i x8) ⟨S2, rfl, (hx.trans z2), p2⟩
  ·
   have u8p : y17 = false := by simpa using h19
   rw [u8p]
   refine Gn 8 [(18, .i (wr .i64 (x8 + 1))), (8, .i (wr .i64 (x8 + 1)))] Ja7 ?_
   exact Gj 19 [(0, .slice (Gp (some b13)) x0.length cx0), (1, .func (.func 28) #[] #[(pt u80 0)]), (7, .i x7), (8, .i (wr .i64 (x8 + 1)))] (u8o _ _ h _ _ (hx.trans z2) p2 (fs0.ext z2) rfl (fs2.ext z2) rfl (fs4.ext z2) rfl (fs6.ext z2) rfl (fs8.ext z2) rfl)
 ·
  rw [decide_eq_false h10]
  refine Gn 6 [(4, .i (-1))] Jaf ?_
  obtain rfl := Option.some.inj h
  exact Goes.rt Tryz.f46 (.i (-1)) ⟨S1, rfl, hx, p1⟩

theorem W.z1g (x0 : List Int) (u8k : List T45) (u8l : List Int) (u8m : T65) (r : Int) (h : M.sim_state_3 x0 u8k u8l u8m = some r) {nz wz S0 w0 Lr} (Gx0 nx0 cx0 u7z u80 u81 u82 u83 u84 u85 u86 u87 u88 u89 u8a u8b u8c u8d u8e u8f u8g u8h u8i u8j) (p0 : Hp nz wz S0 w0 ((Gx0, .row 49 u7z (cx0 * (kInt .i64).size) 0) :: (some u80, .row 25 [(pt u81 0)] 1 0) :: (some u81, .row 51 [.slice (Gp u82) u83 u84, (pt u86 0), (pt u8b 0)] 3 0) :: (u82, .row 46 u85 (u84 * kT45.size) 0) :: (some u86, .row 66 [.slice (Gp u87) u88 u89, .slice (Gp Gx0) nx0 cx0] 2 0) :: (u87, .row 3 u8a (u89 * (kInt .i64).size) 0) :: (some u8b, .row 66 [.slice (Gp u8c) u8d u8e, .slice (Gp u8g) u8h u8i] 2 0) :: (u8c, .row 3 u8f (u8e * (kInt .i64).size) 0) :: (u8g, .row 49 u8j (u8i * (kInt .i64).size) 0) :: Lr)) (fx0 : Els (kInt .i64) S0 w0 u7z x0) (lx0 : x0.length = nx0) (u8q : Els kT45 S0 w0 u85 u8k) (u8r : u8k.length = u83) (u8s : Els (kInt .i64) S0 w0 u8a u8l) (u8t : u8l.length = u88) (u8u : Els (kInt .i64) S0 w0 u8f u8m.place) (u8v : u8m.place.length = u8d) (u8w : Els (kInt .i64) S0 w0 u8j u8m.list) (u8x : u8m.list.length = u8h) :
  Calls Tryz.prog 46 #[.slice (Gp Gx0) nx0 cx0, .func (.func 28) #[] #[(pt u80 0)]] w0 (Rets (Post.z1g nz wz S0 w0 Lr Gx0 nx0 cx0 u7z u80 u81 u82 u83 u84 u85 u86 u87 u88 u89 u8a u8b u8c u8d u8e u8f u8g u8h u8i u8j x0 u8k u8l u8m r)) := by
 subst lx0
 subst u8r
 subst u8t
 subst u8v
 subst u8x
 refine Zf Tryz.f46 B46 17 ?_
 refine Gj 19 [(0, .slice (Gp Gx0) x0.length cx0), (1, .func (.func 28) #[] #[(pt u80 0)])] fun junk => ?_
 delta M.sim_state_3 at h
 refine Gn 13 [(4, .i 0), (6, .slice (Gp Gx0) x0.length cx0), (7, .i (x0.length : Int)), (8, .i 0)] Ja7 ?_
 have p0 := ((((((((p0.fr 8).fr 8).fr 8).fr 3).fr 8).fr 8).fr 8).fr 8).fr 8
 exact Gj 19 [(0, .slice (Gp Gx0) x0.length cx0), (1, .func (.func 28) #[] #[(pt u80 0)]), (7, .i (x0.length : Int)), (8, .i 0)] (W.z1h Gx0 x0.length cx0 u7z u80 u81 u82 u8k.length u84 u85 u86 u87 u8l.length u89 u8a u8b u8c u8m.place.length u8e u8f u8g u8m.list.length u8i u8j _ _ h _ _ (Ext.refl S0 w0) p0 u8q rfl u8s rfl fx0 rfl u8u rfl u8w rfl)

def Jag := Zs [1, 1] B27 []
def Jah := Zt [1, 0] B27 [2, 3, 4] Jag

def Post.z1i (Gx0 : Option Nat) (nx0 : Nat) (cx0 : Nat) (u7z : List Value) (u80 : Nat) (u81 : Nat) (u82 : Option Nat) (u83 : Nat) (u84 : Nat) (u85 : List Value) (u86 : Nat) (u87 : Option Nat) (u88 : Nat) (u89 : Nat) (u8a : List Value) (u8b : Nat) (u8c : Option Nat) (u8d : Nat) (u8e : Nat) (u8f : List Value) (u8g : Option Nat) (u8h : Nat) (u8i : Nat) (u8j : List Value) (x0 : List Int) (u8k : List T45) (u8l : List Int) (u8m : T65) (r : Bool) (v : Value) (w' : World) : Prop :=
 ∃ S', v = .bool r ∧ Ext S0 w0 S' w' ∧ Hp nz wz S' w' ((some u80, .row 25 [(pt u81 0)] 1 0) :: (some u81, .row 51 [.slice (Gp u82) u83 u84, (pt u86 0), (pt u8b 0)] 3 0) :: (u82, .row 46 u85 (u84 * kT45.size) 0) :: (some u86, .row 66 [.slice (Gp u87) u88 u89, .slice (Gp Gx0) nx0 cx0] 2 0) :: (u87, .row 3 u8a (u89 * (kInt .i64).size) 0) :: (Gx0, .row 49 u7z (cx0 * (kInt .i64).size) 0) :: (some u8b, .row 66 [.slice (Gp u8c) u8d u8e, .slice (Gp u8g) u8h u8i] 2 0) :: (u8c, .row 3 u8f (u8e * (kInt .i64).size) 0) :: (u8g, .row 49 u8j (u8i * (kInt .i64).size) 0) :: Lr)

theorem W.z1i (x0 : List Int) (u8k : List T45) (u8l : List Int) (u8m : T65) (r : Bool) (h : M.sim_state_2 x0 u8k u8l u8m = some r) {nz wz S0 w0 Lr} (Gx0 nx0 cx0 u7z u80 u81 u82 u83 u84 u85 u86 u87 u88 u89 u8a u8b u8c u8d u8e u8f u8g u8h u8i u8j) (p0 : Hp nz wz S0 w0 ((Gx0, .row 49 u7z (cx0 * (kInt .i64).size) 0) :: (some u80, .row 25 [(pt u81 0)] 1 0) :: (some u81, .row 51 [.slice (Gp u82) u83 u84, (pt u86 0), (pt u8b 0)] 3 0) :: (u82, .row 46 u85 (u84 * kT45.size) 0) :: (some u86, .row 66 [.slice (Gp u87) u88 u89, .slice (Gp Gx0) nx0 cx0] 2 0) :: (u87, .row 3 u8a (u89 * (kInt .i64).size) 0) :: (some u8b, .row 66 [.slice (Gp u8c) u8d u8e, .slice (Gp u8g) u8h u8i] 2 0) :: (u8c, .row 3 u8f (u8e * (kInt .i64).size) 0) :: (u8g, .row 49 u8j (u8i * (kInt .i64).size) 0) :: Lr)) (fx0 : Els (kInt .i64) S0 w0 u7z x0) (lx0 : x0.length = nx0) (u8q : Els kT45 S0 w0 u85 u8k) (u8r : u8k.length = u83) (u8s : Els (kInt .i64) S0 w0 u8a u8l) (u8t : u8l.length = u88) (u8u : Els (kInt .i64) S0 w0 u8f u8m.place) (u8v : u8m.place.length = u8d) (u8w : Els (kInt .i64) S0 w0 u8j u8m.list) (u8x : u8m.list.length = u8h) :
  Calls Tryz.prog 27 #[.slice (Gp Gx0) nx0 cx0, .func (.func 28) #[] #[(pt u80 0)]] w0 (Rets (Post.z1i nz wz S0 w0 Lr Gx0 nx0 cx0 u7z u80 u81 u82 u83 u84 u85 u86 u87 u88 u89 u8a u8b u8c u8d u8e u8f u8g u8h u8i u8j x0 u8k u8l u8m r)) := by
 subst lx0
 subst u8r
 subst u8t
 subst u8v
 subst u8x
 refine Zf Tryz.f27 B27 7 ?_
 refine Gj 9 [(0, .slice (Gp Gx0) x0.length cx0), (1, .func (.func 28) #[] #[(pt u80 0)])] fun junk => ?_
 delta M.sim_state_2 at h
 refine Gn 8 [(4, .bool false), (5, .slice (Gp Gx0) x0.length cx0), (6, .func (.func 28) #[] #[(pt u80 0)])] Jah ?_
 refine bind_some' h fun y10 e11 h => ?_
 refine Gc (kc 46 [5, 6] #[64, 69]) 7 3 46 _ (W.z1g x0 u8k u8l u8m y10 e11 Gx0 x0.length cx0 u7z u80 u81 u82 u8k.length u84 u85 u86 u87 u8l.length u89 u8a u8b u8c u8m.place.length u8e u8f u8g u8m.list.length u8i u8j p0 fx0 rfl u8q rfl u8s rfl u8u rfl u8w rfl) ?_
 rintro _ w2 ⟨S2, rfl, z2, p2⟩
 refine Gn 3 [(8, .bool (decide (y10 ≥ 0))), (4, .bool (decide (y10 ≥ 0)))] Jag ?_
 obtain rfl := Option.some.inj h
 exact Goes.rt Tryz.f27 (.bool (decide (y10 ≥ 0))) ⟨S2, rfl, ((Ext.refl S0 w0).trans z2), p2⟩

def Jai := Zs [1] B11 []
def Jaj := Zt [0] B11 [0, 1] Jai
def Jak := Zs [1, 1] B11 []
def Jal := Zs [1, 0, 1] B11 Jak
def Jam := Zt [1, 0, 0] B11 [0, 1, 2] Jal
def Jan := Zs [1, 1, 1] B11 []
def Q6y := sub [1, 1, 0] B11
def Jao := Zr Q6y [0, 1, 2, 3, 4, 5, 6, 7, 8, 9] Jan
def Jap := Zr Q6y [3, 4, 5, 6, 7, 8, 9] Jan
def Jaq := Zr Q6y [6, 7, 8, 9] Jan
def Jar := Zr Q6y [8, 9] Jan

def Post.z1j (gx0 : Nat) (uh : Option Nat) (ui : Nat) (uj : Nat) (uk : List Value) (ul : Nat) (um : Option Nat) (un : Nat) (uo : Nat) (up : List Value) (uq : Option Nat) (ur : Nat) (ut : Nat) (uu : List Value) (uv : Nat) (uw : Option Nat) (ux : Nat) (uy : Nat) (uz : List Value) (u10 : Option Nat) (u11 : Nat) (u12 : Nat) (u13 : List Value) (x0v : T50) (r : Bool) (v : Value) (w' : World) : Prop :=
 ∃ S', v = .bool r ∧ Ext S0 w0 S' w' ∧ Hp nz wz S' w' ((some gx0, .row 51 [.slice (Gp uh) ui uj, (pt ul 0), (pt uv 0)] 3 0) :: (uh, .row 46 uk (uj * kT45.size) 0) :: (some ul, .row 66 [.slice (Gp um) un uo, .slice (Gp uq) ur ut] 2 0) :: (um, .row 3 up (uo * (kInt .i64).size) 0) :: (uq, .row 49 uu (ut * (kInt .i64).size) 0) :: (some uv, .row 66 [.slice (Gp uw) ux uy, .slice (Gp u10) u11 u12] 2 0) :: (uw, .row 3 uz (uy * (kInt .i64).size) 0) :: (u10, .row 49 u13 (u12 * (kInt .i64).size) 0) :: Lr)

theorem W.z1j (x0v : T50) (r : Bool) (h : M.sim_Runner_Accepts x0v = some r) {nz wz S0 w0 Lr} (gx0 uh ui uj uk ul um un uo up uq ur ut uu uv uw ux uy uz u10 u11 u12 u13) (p0 : Hp nz wz S0 w0 ((some gx0, .row 51 [.slice (Gp uh) ui uj, (pt ul 0), (pt uv 0)] 3 0) :: (uh, .row 46 uk (uj * kT45.size) 0) :: (some ul, .row 66 [.slice (Gp um) un uo, .slice (Gp uq) ur ut] 2 0) :: (um, .row 3 up (uo * (kInt .i64).size) 0) :: (uq, .row 49 uu (ut * (kInt .i64).size) 0) :: (some uv, .row 66 [.slice (Gp uw) ux uy, .slice (Gp u10) u11 u12] 2 0) :: (uw, .row 3 uz (uy * (kInt .i64).size) 0) :: (u10, .row 49 u13 (u12 * (kInt .i64).size) 0) :: Lr)) (u14 : Els kT45 S0 w0 uk x0v.l) (u15 : x0v.l.length = ui) (u16 : Els (kInt .i64) S0 w0 up x0v.now.place) (u17 : x0v.now.place.length = un) (u18 : Els (kInt .i64) S0 w0 uu x0v.now.list) (u19 : x0v.now.list.length = ur) (u1a : Els (kInt .i64) S0 w0 uz x0v.next.place) (u1b : x0v.next.place.length = ux) (u1c : Els (kInt .i64) S0 w0 u13 x0v.next.list) (u1d : x0v.next.list.length = u11) :
  Calls Tryz.prog 11 #[(pt gx0 0)] w0 (Rets (Post.z1j nz wz S0 w0 Lr gx0 uh ui uj uk ul um un uo up uq ur ut uu uv uw ux uy uz u10 u11 u12 u13 x0v r)) := by
 subst u15
 subst u17
 subst u19
 subst u1b
 subst u1d
 refine Zf Tryz.f11 B11 14 ?_
 refine Gj 15 [(0, (pt gx0 0))] fun junk => ?_
 delta M.sim_Runner_Accepts at h
 refine Gn 2 [] Jaj ?_
 refine Op_.box 25 (.tmp 0) 1 0 ((pt gx0 0)) [(pt gx0 0)] p0 Goes.v (by kernel_rfl) (by kernel_rfl) ?_
 intro b9 w2 z2 p2
 refine Gn 5 [(2, .bool false)] Jam ?_
 refine Goes.ld 25 (.tmp 1) 3 25 ⟨b9, 0, none⟩ ((pt gx0 0)) (p2.c 0 0) ?_
 have p2 := (((((((p2.fr 8).fr 8).fr 8).fr 8).fr 8).fr 8).fr 8).fr 8
 refine bind_some' h fun y11 e12 h => ?_
 refine Gc (kc 25 [3] #[25]) 4 4 25 _ (W.z7 x0v y11 e12 gx0 uh x0v.l.length uj uk ul um x0v.now.place.length uo up uq x0v.now.list.length ut uu uv uw x0v.next.place.length uy uz u10 x0v.next.list.length u12 u13 p2 (u14.ext z2) rfl (u16.ext z2) rfl (u18.ext z2) rfl (u1a.ext z2) rfl (u1c.ext z2) rfl) ?_
 rintro _ w3 ⟨S3, rfl, z3, p3⟩
 refine Gn 6 [(5, .bool (!true))] Jao ?_
 refine Goes.ld 25 (.tmp 1) 6 25 ⟨b9, 0, none⟩ ((pt gx0 0)) (p3.c 8 0) ?_
 refine Gn 2 [(7, (pt gx0 0)), (8, (pt gx0 1))] Jap ?_
 refine Goes.ld 47 (.tmp 8) 9 47 ⟨gx0, 1, none⟩ ((pt ul 0)) (p3.c 0 1) ?_
 refine Gn 2 [(10, (pt ul 0)), (11, (pt ul 1))] Jaq ?_
 refine Goes.ld 64 (.tmp 11) 12 64 ⟨ul, 1, none⟩ (.slice (Gp uq) x0v.now.list.length ut) (p3.c 2 1) ?_
 refine Gn 1 [(13, .func (.func 28) #[] #[(pt b9 0)])] Jar ?_
 have p3 := ((((((((p3.fr 7).fr 7).fr 7).fr 6).fr 6).fr 6).fr 6).fr 8).fr 8
 refine bind_some' h fun y13 e14 h => ?_
 refine Gc (kc 27 [12, 13] #[64, 69]) 14 4 27 _ (W.z1i x0v.now.list x0v.l x0v.now.place x0v.next y13 e14 uq x0v.now.list.length ut uu b9 gx0 uh x0v.l.length uj uk ul um x0v.now.place.length uo up uv uw x0v.next.place.length uy uz u10 x0v.next.list.length u12 u13 p3 (u18.ext (z2.trans z3)) rfl (u14.ext (z2.trans z3)) rfl (u16.ext (z2.trans z3)) rfl (u1a.ext (z2.trans z3)) rfl (u1c.ext (z2.trans z3)) rfl) ?_
 rintro _ w4 ⟨S4, rfl, z4, p4⟩
 have p4 := p4.dp 0
 refine Gn 2 [(2, .bool y13)] Jan ?_
 obtain rfl := Option.some.inj h
 exact Goes.rt Tryz.f11 (.bool y13) ⟨S4, rfl, ((((Ext.refl S0 w0).trans z2).trans z3).trans z4), p4⟩

def Jas := Zs [1] B31 []
def Jat := Zt [0] B31 [0, 1, 2] Jas
def Jau := Zs [1, 1] B31 []

def Post.z1k (gx0 : Nat) (uh : Option Nat) (ui : Nat) (uj : Nat) (uk : List Value) (ul : Nat) (um : Option Nat) (un : Nat) (uo : Nat) (up : List Value) (uq : Option Nat) (ur : Nat) (ut : Nat) (uu : List Value) (uv : Nat) (uw : Option Nat) (ux : Nat) (uy : Nat) (uz : List Value) (u10 : Option Nat) (u11 : Nat) (u12 : Nat) (u13 : List Value) (x0v : T50) (r : Int) (v : Value) (w' : World) : Prop :=
 ∃ S' u8y u8z, v = .func (.func 48) #[] #[(pt u8y 0), (pt u8z 0)] ∧ Ext S0 w0 S' w' ∧ Hp nz wz S' w' ((some u8y, .row 25 [(pt gx0 0)] 1 0) :: (some u8z, .row 5 [.int .u8 r] 1 0) :: (some gx0, .row 51 [.slice (Gp uh) ui uj, (pt ul 0), (pt uv 0)] 3 0) :: (uh, .row 46 uk (uj * kT45.size) 0) :: (some ul, .row 66 [.slice (Gp um) un uo, .slice (Gp uq) ur ut] 2 0) :: (um, .row 3 up (uo * (kInt .i64).size) 0) :: (uq, .row 49 uu (ut * (kInt .i64).size) 0) :: (some uv, .row 66 [.slice (Gp uw) ux uy, .slice (Gp u10) u11 u12] 2 0) :: (uw, .row 3 uz (uy * (kInt .i64).size) 0) :: (u10, .row 49 u13 (u12 * (kInt .i64).size) 0) :: Lr)

theorem W.z1k (x0v : T50) (x1 : Int) (r : Int) (h : M.sim_Runner_led x0v x1 = some r) {nz wz S0 w0 Lr} (gx0 uh ui uj uk ul um un uo up uq ur ut uu uv uw ux uy uz u10 u11 u12 u13) (p0 : Hp nz wz S0 w0 ((some gx0, .row 51 [.slice (Gp uh) ui uj, (pt ul 0), (pt uv 0)] 3 0) :: (uh, .row 46 uk (uj * kT45.size) 0) :: (some ul, .row 66 [.slice (Gp um) un uo, .slice (Gp uq) ur ut] 2 0) :: (um, .row 3 up (uo * (kInt .i64).size) 0) :: (uq, .row 49 uu (ut * (kInt .i64).size) 0) :: (some uv, .row 66 [.slice (Gp uw) ux uy, .slice (Gp u10) u11 u12] 2 0) :: (uw, .row 3 uz (uy * (kInt .i64).size) 0) :: (u10, .row 49 u13 (u12 * (kInt .i64).size) 0) :: Lr)) (u14 : Els kT45 S0 w0 uk x0v.l) (u15 : x0v.l.length = ui) (u16 : Els (kInt .i64) S0 w0 up x0v.now.place) (u17 : x0v.now.place.length = un) (u18 : Els (kInt .i64) S0 w0 uu x0v.now.list) (u19 : x0v.now.list.length = ur) (u1a : Els (kInt .i64) S0 w0 uz x0v.next.place) (u1b : x0v.next.place.length = ux) (u1c : Els (kInt .i64) S0 w0 u13 x0v.next.list) (u1d : x0v.next.list.length = u11) :
  Calls Tryz.prog 31 #[(pt gx0 0), .int .u8 x1] w0 (Rets (Post.z1k nz wz S0 w0 Lr gx0 uh ui uj uk ul um un uo up uq ur ut uu uv uw ux uy uz u10 u11 u12 u13 x0v r)) := by
 subst u15
 subst u17
 subst u19
 subst u1b
 subst u1d
 refine Zf Tryz.f31 B31 4 ?_
 refine Gj 6 [(0, (pt gx0 0)), (1, .int .u8 x1)] fun junk => ?_
 delta M.sim_Runner_led at h
 refine Gn 2 [] Jat ?_
 refine Op_.box 25 (.tmp 0) 2 0 ((pt gx0 0)) [(pt gx0 0)] p0 Goes.v (by kernel_rfl) (by kernel_rfl) ?_
 intro b9 w2 z2 p2
 refine Op_.box 5 (.tmp 1) 3 0 (.int .u8 x1) [.int .u8 x1] p2 Goes.v (by kernel_rfl) (by kernel_rfl) ?_
 intro b11 w3 z3 p3
 refine Gn 7 [(4, .func (.func 48) #[] #[(pt b9 0), (pt b11 0)]), (5, .func (.func 48) #[] #[(pt b9 0), (pt b11 0)])] Jau ?_
 obtain rfl := Option.some.inj h
 have p3 := (((((((((p3.fr 9).fr 9).fr 9).fr 9).fr 9).fr 9).fr 9).fr 9).fr 8).fr 9
 exact Goes.rt Tryz.f31 (.func (.func 48) #[] #[(pt b9 0), (pt b11 0)]) ⟨S0, b9, b11, rfl, (((Ext.refl S0 w0).trans z2).trans z3), p3⟩

def Jav := Zs [1] B49 []
def Jaw := Zt [0] B49 [0, 1] Jav
def Jax := Zs [1, 1] B49 []
def Q75 := sub [1, 0] B49
def Jay := Zr Q75 [2, 3, 4, 5, 6, 7, 8, 9] Jax
def Jaz := Zr Q75 [6, 7, 8, 9] Jax

def Post.z1l (r : Bool) (v : Value) (w' : World) : Prop :=
 ∃ S', v = .bool r ∧ Ext S0 w0 S' w' ∧ Hp nz wz S' w' (Lr)

theorem W.z1l (x0 : List Int) (x1 : Int) (r : Bool) (h : M.syntax_Has x0 x1 = some r) {nz wz S0 w0 Lr} (u5s) (p0 : Hp nz wz S0 w0 (Lr)) (fx0 : Els (kInt .u64) S0 w0 u5s x0) (lx0 : u5s.length = 4) :
  Calls Tryz.prog 49 #[.agg u5s.toArray, .int .u8 x1] w0 (Rets (Post.z1l nz wz S0 w0 Lr r)) := by
 refine Zf Tryz.f49 B49 12 ?_
 refine Gj 14 [(0, .agg u5s.toArray), (1, .int .u8 x1)] fun junk => ?_
 delta M.syntax_Has at h
 refine Gn 2 [] Jaw ?_
 refine Op_.box 44 (.tmp 0) 2 0 (.agg u5s.toArray) u5s p0 Goes.v (by kernel_rfl) rfl ?_
 intro b1 w2 z2 p2
 replace p2 : Hp nz wz S0 w2 ((some b1, .row 44 u5s 4 0) :: Lr) := by rw [show (u5s).length = 4 from lx0] at p2; exact p2
 refine Gn 6 [(4, .bool false), (5, .int .u8 x1), (6, .int .u8 (iquo .u8 x1 64))] Jay ?_
 refine guard_some' h fun g3 h => ?_
 refine guard_some' h fun g4 h => ?_
 refine Op_.ixA_n (K := (kInt .u64)) 44 (.tmp 2) (.tmp 6) 7 0 42 4 .u8 (iquo .u8 x1 64) 0 (gi x0 (iquo .u8 x1 64)) rfl p2 rfl (fx0.ext z2) (Els.len1 (fx0.ext z2) lx0 rfl) Goes.v (by kernel_rfl) (by kernel_rfl) (by kernel_rfl) (by kernel_rfl) g3 g4 ?_
 intro _ q6 f5
 obtain rfl := q6
 refine Goes.ld 42 (.tmp 7) 8 42 ⟨b1, (iquo .u8 x1 64 : Int).toNat * (kInt .u64).size, none⟩ (.u (gi x0 (iquo .u8 x1 64))) (f5 0 _ rfl) ?_
 refine Gn 2 [(9, .int .u8 x1), (10, .int .u8 (irem .u8 x1 64))] Jaz ?_
 refine guard_some' h fun g7 h => ?_
 refine Op_.binshr 42 (.tmp 8) (.tmp 10) 5 11 42 .u64 .u8 (gi x0 (iquo .u8 x1 64)) (irem .u8 x1 64) Goes.v (by kernel_rfl) (by kernel_rfl) g7 ?_
 refine Gn 4 [(12, .u (iand .u64 (ishr .u64 (gi x0 (iquo .u8 x1 64)) (irem .u8 x1 64)) 1)), (13, .bool (decide (iand .u64 (ishr .u64 (gi x0 (iquo .u8 x1 64)) (irem .u8 x1 64)) 1 = 1))), (4, .bool (decide (iand .u64 (ishr .u64 (gi x0 (iquo .u8 x1 64)) (irem .u8 x1 64)) 1 = 1)))] Jax ?_
 obtain rfl := Option.some.inj h
 have p2 := p2.dp 0
 exact Goes.rt Tryz.f49 (.bool (decide (iand .u64 (ishr .u64 (gi x0 (iquo .u8 x1 64)) (irem .u8 x1 64)) 1 = 1))) ⟨S0, rfl, ((Ext.refl S0 w0).trans z2), p2⟩

def Post.z1m (gx0 : Nat) (uh : Option Nat) (ui : Nat) (uj : Nat) (uk : List Value) (ul : Nat) (um : Option Nat) (un : Nat) (uo : Nat) (up : List Value) (uq : Option Nat) (ur : Nat) (ut : Nat) (uu : List Value) (uv : Nat) (x0v : T50) (r : T65) (v : Value) (w' : World) : Prop :=
 ∃ S' u90 u91 u92 u93 u94 u95 u96 u97, v = .tuple #[] ∧ Ext S0 w0 S' w' ∧ Hp nz wz S' w' ((some gx0, .row 51 [.slice (Gp uh) ui uj, (pt ul 0), (pt uv 0)] 3 0) :: (uh, .row 46 uk (uj * kT45.size) 0) :: (some ul, .row 66 [.slice (Gp um) un uo, .slice (Gp uq) ur ut] 2 0) :: (um, .row 3 up (uo * (kInt .i64).size) 0) :: (uq, .row 49 uu (ut * (kInt .i64).size) 0) :: (some uv, .row 66 [.slice (Gp u90) u91 u92, .slice (Gp u94) u95 u96] 2 0) :: (u90, .row 3 u93 (u92 * (kInt .i64).size) 0) :: (u94, .row 49 u97 (u96 * (kInt .i64).size) 0) :: Lr) ∧ Els (kInt .i64) S' w' u93 r.place ∧ r.place.length = u91 ∧ Els (kInt .i64) S' w' u97 r.list ∧ r.list.length = u95

def L.z1n (gx0 : Nat) (uh : Option Nat) (ui : Nat) (uj : Nat) (uk : List Value) (ul : Nat) (um : Option Nat) (un : Nat) (uo : Nat) (up : List Value) (uq : Option Nat) (ur : Nat) (ut : Nat) (uu : List Value) (uv : Nat) : (List Int) × T65 × T50 → T65 → Prop := fun ⟨x6, e2v, x0v⟩ r => ∀ S1 w1, Ext S0 w0 S1 w1 → ∀ Gx6 nx6 cx6 u22 u90 u91 u92 u93 u94 u95 u96 u97 (_ : Hp nz wz S1 w1 ((Gx6, .row 49 u22 (cx6 * (kInt .i64).size) 0) :: (some gx0, .row 51 [.slice (Gp uh) ui uj, (pt ul 0), (pt uv 0)] 3 0) :: (uh, .row 46 uk (uj * kT45.size) 0) :: (some ul, .row 66 [.slice (Gp um) un uo, .slice (Gp uq) ur ut] 2 0) :: (um, .row 3 up (uo * (kInt .i64).size) 0) :: (uq, .row 49 uu (ut * (kInt .i64).size) 0) :: (some uv, .row 66 [.slice (Gp u90) u91 u92, .slice (Gp u94) u95 u96] 2 0) :: (u90, .row 3 u93 (u92 * (kInt .i64).size) 0) :: (u94, .row 49 u97 (u96 * (kInt .i64).size) 0) :: Lr)) (_ : Els (kInt .i64) S1 w1 u22 x6) (_ : x6.length = nx6) (_ : Els kT45 S1 w1 uk x0v.l) (_ : x0v.l.length = ui) (_ : Els (kInt .i64) S1 w1 up x0v.now.place) (_ : x0v.now.place.length = un) (_ : Els (kInt .i64) S1 w1 uu x0v.now.list) (_ : x0v.now.list.length = ur) (_ : Els (kInt .i64) S1 w1 u93 e2v.place) (_ : e2v.place.length = u91) (_ : Els (kInt .i64) S1 w1 u97 e2v.list) (_ : e2v.list.length = u95) (junk : Nat → Value),
 Goes Tryz.prog (base 30) J2i ⟨lfr 52 [(0, (pt gx0 0)), (1, (pt uv 0)), (6, .slice (Gp Gx6) nx6 cx6)] junk, []⟩ w1 (Done Tryz.prog 30 (Rets (Post.z1m nz wz S0 w0 Lr gx0 uh ui uj uk ul um un uo up uq ur ut uu uv x0v r)))

theorem W.z1n {nz wz S0 w0 Lr} (gx0 : Nat) (uh : Option Nat) (ui : Nat) (uj : Nat) (uk : List Value) (ul : Nat) (um : Option Nat) (un : Nat) (uo : Nat) (up : List Value) (uq : Option Nat) (ur : Nat) (ut : Nat) (uu : List Value) (uv : Nat) : ∀ a r, M.sim_Runner_stand_2_l0 a = some r → (L.z1n nz wz S0 w0 Lr gx0 uh ui uj uk ul um un uo up uq ur ut uu uv) a r := by
 refine M.sim_Runner_stand_2_l0.partial_correctness (motive := (L.z1n nz wz S0 w0 Lr gx0 uh ui uj uk ul um un uo up uq ur ut uu uv)) ?_
 intro u98 u99 ⟨x6, e2v, x0v⟩ r h S1 w1 hx Gx6 nx6 cx6 u22 u90 u91 u92 u93 u94 u95 u96 u97 p1 fx6 lx6 fs2 ls2 fs4 ls4 fs6 ls6 u9a u9b u9c u9d junk
 try dsimp only at h
 subst lx6
 subst ls2
 subst ls4
 subst ls6
 subst u9b
 subst u9d
 refine Gn 7 [(11, .slice (Gp Gx6) x6.length cx6), (12, .i (x6.length : Int)), (13, .bool (decide ((x6.length : Int) > 0)))] J2k ?_
 refine ite_some h (fun h15 h => ?_) (fun h15 h => ?_)
 ·
  rw [decide_eq_true h15]
  refine Gn 9 [(14, .slice (Gp Gx6) x6.length cx6), (15, .slice (Gp Gx6) x6.length cx6), (16, .i (x6.length : Int)), (17, .i (wr .i64 ((x6.length : Int) - 1)))] J2n ?_
  refine guard_some' h fun g16 h => ?_
  refine guard_some' h fun g17 h => ?_
  refine Op_.ixO_n 64 (.tmp 14) (.tmp 17) 18 0 49 .i64 (wr .i64 ((x6.length : Int) - 1)) 0 x6.length cx6 (gi x6 (wr .i64 ((x6.length : Int) - 1))) rfl rfl p1 rfl fx6 Goes.v (by kernel_rfl) (by kernel_rfl) (by kernel_rfl) (by kernel_rfl) (by decide) g16 g17 ?_
  rintro b18 _ rfl q20 f19
  obtain rfl := q20
  refine Goes.ld 49 (.tmp 18) 19 49 ⟨b18, (wr .i64 ((x6.length : Int) - 1) : Int).toNat * (kInt .i64).size, none⟩ (.i (gi x6 (wr .i64 ((x6.length : Int) - 1)))) (f19 0 _ rfl) ?_
  refine Gn 8 [(7, .i (gi x6 (wr .i64 ((x6.length : Int) - 1)))), (20, .slice (Gp (some b18)) x6.length cx6), (21, .slice (Gp (some b18)) x6.length cx6), (22, .i (x6.length : Int)), (23, .i (wr .i64 ((x6.length : Int) - 1)))] J2p ?_
  refine guard_some' h fun g22 h => ?_
  refine Op_.slO (K := (kInt .i64)) 64 (.tmp 20) (.tmp 23) 24 64 49 .i64 (wr .i64 ((x6.length : Int) - 1)) 0 (sl x6 0 (wr .i64 ((x6.length : Int) - 1))) rfl rfl p1 rfl rfl (by decide) fx6 Goes.v (by kernel_rfl) (by kernel_rfl) (by kernel_rfl) (by kernel_rfl) g16 g22 ?_
  intro u2b p1 f24
  refine Gn 7 [(6, .slice (Gp (some b18)) ((sl x6 0 (wr .i64 ((x6.length : Int) - 1))).length) cx6), (25, (pt uv 0)), (26, .i (gi x6 (wr .i64 ((x6.length : Int) - 1))))] J2s ?_
  have p1 := ((p1.fr 8).fr 8).fr 8
  refine bind_some' h fun y25 e26 h => ?_
  refine Gc (kc 47 [25, 26] #[47, 49]) 27 4 47 _ (W.za e2v (gi x6 (wr .i64 ((x6.length : Int) - 1))) y25 e26 uv u90 e2v.place.length u92 u93 u94 e2v.list.length u96 u97 p1 u9a rfl u9c rfl) ?_
  rintro _ w3 ⟨S3, u2c, u2d, u2e, u2f, u2g, u2h, u2i, u2j, rfl, z3, p3, u2k, rfl, u2l, rfl⟩
  refine Gn 2 [(28, .bool (!y25.1))] J2r ?_
  refine ite_some h (fun h29 h => ?_) (fun h29 h => ?_)
  ·
   rw [h29]
   refine Gn 7 [(29, (pt gx0 0)), (30, (pt gx0 0)), (31, (pt gx0 0))] J2u ?_
   refine Goes.ld 22 (.tmp 31) 32 22 ⟨gx0, 0, none⟩ (.slice (Gp uh) x0v.l.length uj) (p3.c 4 0) ?_
   refine Gn 1 [(33, .i (gi x6 (wr .i64 ((x6.length : Int) - 1))))] J2v ?_
   refine guard_some' h fun g30 h => ?_
   refine guard_some' h fun g31 h => ?_
   refine let_some h fun v35 e36 h => ?_
   refine Op_.ixO_n 22 (.tmp 32) (.tmp 33) 34 0 46 .i64 (gi x6 (wr .i64 ((x6.length : Int) - 1))) 5 x0v.l.length uj v35 rfl e36 p3 rfl (fs2.ext z3) Goes.v (by kernel_rfl) (by kernel_rfl) (by kernel_rfl) (by kernel_rfl) (by decide) g30 g31 ?_
   rintro b32 _ rfl q34 f33
   obtain ⟨_, _, rfl, rfl, ⟨_, _, rfl, ⟨l37, f38⟩, ⟨_, _, rfl, rfl, rfl⟩⟩⟩ := q34
   obtain rfl := els_lit4' f38 l37
   refine Goes.ldN 46 (.tmp 34) 35 46 ⟨b32, (gi x6 (wr .i64 ((x6.length : Int) - 1)) : Int).toNat * kT45.size, none⟩ ([.i v35.Op] ++ ((U4 v35.Set []) ++ ([.i v35.X] ++ [.i v35.Y]))) f33 ?_
   refine Op_.alloc 46 8 0 (.agg #[.i 0, .u 0, .u 0, .u 0, .u 0, .i 0, .i 0]) [.i 0, .u 0, .u 0, .u 0, .u 0, .i 0, .i 0] p3 Goes.v (by kernel_rfl) (by kernel_rfl) ?_
   intro b40 w4 z4 p4
   refine So 46 (.tmp 8) (.tmp 35) 0 0 b40 0 (ag (.i v35.Op :: U4 v35.Set [.i v35.X, .i v35.Y])) (.i v35.Op :: U4 v35.Set [.i v35.X, .i v35.Y]) p4 rfl Goes.s ?_
   intro w5 z5 p5
   have p5 : Hp nz wz S3 w5 ((some b40, .row 46 (.i v35.Op :: U4 v35.Set [.i v35.X, .i v35.Y]) 7 0) :: (some uv, .row 66 [.slice (Gp u2c) y25.2.place.length u2e, .slice (Gp u2g) y25.2.list.length u2i] 2 0) :: (u2c, .row 3 u2f (u2e * (kInt .i64).size) 0) :: (u2g, .row 49 u2j (u2i * (kInt .i64).size) 0) :: ((some b18), .row 49 u2b (cx6 * (kInt .i64).size) 0) :: (some gx0, .row 51 [.slice (Gp (some b32)) x0v.l.length uj, (pt ul 0), (pt uv 0)] 3 0) :: ((some b32), .row 46 uk (uj * kT45.size) 0) :: (some ul, .row 66 [.slice (Gp um) x0v.now.place.length uo, .slice (Gp uq) x0v.now.list.length ut] 2 0) :: (um, .row 3 up (uo * (kInt .i64).size) 0) :: (uq, .row 49 uu (ut * (kInt .i64).size) 0) :: Lr) := p5
   refine Gn 4 [(36, (pt b40 0))] J2x ?_
   refine Goes.ld 3 (.tmp 36) 37 3 ⟨b40, 0, none⟩ (.i v35.Op) (p5.c 0 0) ?_
   refine Gn 13 [(39, .bool (decide (v35.Op = 2))), (38, .bool (decide (v35.Op = 2)))] J35 ?_
   refine ite_some h (fun h42 h => ?_) (fun h42 h => ?_)
   ·
    rw [decide_eq_true h42]
    refine Gn 5 [(42, .slice (Gp (some b18)) ((sl x6 0 (wr .i64 ((x6.length : Int) - 1))).length) cx6), (43, (pt b40 6))] J36 ?_
    refine Goes.ld 3 (.tmp 43) 44 3 ⟨b40, 6, none⟩ (.i v35.Y) (p5.c 0 6) ?_
    have f44 : Els (kInt .i64) S3 w5 ([.i v35.Y] : List Value) [v35.Y] := by exact (Els.cons (K := (kInt .i64)) (vs := [.i v35.Y]) (x := v35.Y) rfl Els.nil)
    refine Op_.made (.buildSlice 64 1 #[(0, (.tmp 44))]) 45 64 (fun b => .slice (Gp (some b)) 1 1) 49 ([.i v35.Y] : List Value) p5 Goes.v (by kernel_rfl) ?_
    intro b43 w6 z6 p6
    have p6 : Hp nz wz S3 w6 (((some b43), .row 49 ([.i v35.Y] : List Value) (1 * (kInt .i64).size) 0) :: (some b40, .row 46 (.i v35.Op :: U4 v35.Set [.i v35.X, .i v35.Y]) 7 0) :: (some uv, .row 66 [.slice (Gp u2c) y25.2.place.length u2e, .slice (Gp u2g) y25.2.list.length u2i] 2 0) :: (u2c, .row 3 u2f (u2e * (kInt .i64).size) 0) :: (u2g, .row 49 u2j (u2i * (kInt .i64).size) 0) :: ((some b18), .row 49 u2b (cx6 * (kInt .i64).size) 0) :: (some gx0, .row 51 [.slice (Gp (some b32)) x0v.l.length uj, (pt ul 0), (pt uv 0)] 3 0) :: ((some b32), .row 46 uk (uj * kT45.size) 0) :: (some ul, .row 66 [.slice (Gp um) x0v.now.place.length uo, .slice (Gp uq) x0v.now.list.length ut] 2 0) :: (um, .row 3 up (uo * (kInt .i64).size) 0) :: (uq, .row 49 uu (ut * (kInt .i64).size) 0) :: Lr) := p6
    refine let_some h fun v49 e50 h => ?_
    refine guard_some' h fun g51 h => ?_
    refine Op_.ap_n (K := (kInt .i64)) 64 (.tmp 42) (.tmp 45) 46 64 49 5 (.i 0) 8 ((sl x6 0 (wr .i64 ((x6.length : Int) - 1))).length) cx6 1 (sl x6 0 (wr .i64 ((x6.length : Int) - 1))) [v35.Y] v49 (Gp (some b43)) 1 rfl rfl e50 p6 rfl (f24.ext (((z3.trans z4).trans z5).trans z6)) Goes.v (by kernel_rfl) (by kernel_rfl) (by kernel_rfl) (by kernel_rfl) rfl (by decide) (f44.ext z6) (src_own p6 (q := 0) rfl) (by have := g51; omega) (by have := g51; omega) ?_
    intro w7 G52 c53 u2m z7 p7 f55
    refine Gn 7 [(6, .slice (Gp G52) v49.length c53), (47, .slice (Gp G52) v49.length c53), (48, (pt b40 5))] J38 ?_
    refine Goes.ld 3 (.tmp 48) 49 3 ⟨b40, 5, none⟩ (.i v35.X) (p7.c 1 5) ?_
    have f57 : Els (kInt .i64) S3 w7 ([.i v35.X] : List Value) [v35.X] := by exact (Els.cons (K := (kInt .i64)) (vs := [.i v35.X]) (x := v35.X) rfl Els.nil)
    refine Op_.made (.buildSlice 64 1 #[(0, (.tmp 49))]) 50 64 (fun b => .slice (Gp (some b)) 1 1) 49 ([.i v35.X] : List Value) p7 Goes.v (by kernel_rfl) ?_
    intro b56 w8 z8 p8
    have p8 : Hp nz wz S3 w8 (((some b56), .row 49 ([.i v35.X] : List Value) (1 * (kInt .i64).size) 0) :: ((some b43), .row 49 ([.i v35.Y] : List Value) (1 * (kInt .i64).size) 0) :: (some b40, .row 46 (.i v35.Op :: U4 v35.Set [.i v35.X, .i v35.Y]) 7 0) :: (some uv, .row 66 [.slice (Gp u2c) y25.2.place.length u2e, .slice (Gp u2g) y25.2.list.length u2i] 2 0) :: (u2c, .row 3 u2f (u2e * (kInt .i64).size) 0) :: (u2g, .row 49 u2j (u2i * (kInt .i64).size) 0) :: (G52, .row 49 u2m (c53 * (kInt .i64).size) 0) :: (some gx0, .row 51 [.slice (Gp (some b32)) x0v.l.length uj, (pt ul 0), (pt uv 0)] 3 0) :: ((some b32), .row 46 uk (uj * kT45.size) 0) :: (some ul, .row 66 [.slice (Gp um) x0v.now.place.length uo, .slice (Gp uq) x0v.now.list.length ut] 2 0) :: (um, .row 3 up (uo * (kInt .i64).size) 0) :: (uq, .row 49 uu (ut * (kInt .i64).size) 0) :: Lr) := p8
    refine guard_some' h fun g62 h => ?_
    refine Op_.ap_n (K := (kInt .i64)) 64 (.tmp 47) (.tmp 50) 51 64 49 6 (.i 0) 8 v49.length c53 1 v49 [v35.X] (v49 ++ [v35.X]) (Gp (some b56)) 1 rfl rfl rfl p8 rfl (f55.ext z8) Goes.v (by kernel_rfl) (by kernel_rfl) (by kernel_rfl) (by kernel_rfl) rfl (by decide) (f57.ext z8) (src_own p8 (q := 0) rfl) (by have := g62; omega) (by have := g62; omega) ?_
    intro w9 G63 c64 u2n z9 p9 f66
    refine Gn 5 [(6, .slice (Gp G63) ((v49 ++ [v35.X]).length) c64)] J2i ?_
    have p9 := ((p9.dp 0).dp 0).dp 0
    have p9 := ((((((((p9.fr 2).fr 2).fr 2).fr 8).fr 8).fr 8).fr 8).fr 8).fr 8
    exact Gj 52 [(0, (pt gx0 0)), (1, (pt uv 0)), (6, .slice (Gp G63) ((v49 ++ [v35.X]).length) c64)] (u99 _ _ h _ _ (((((((hx.trans z3).trans z4).trans z5).trans z6).trans z7).trans z8).trans z9) G63 ((v49 ++ [v35.X]).length) c64 u2n u2c y25.2.place.length u2e u2f u2g y25.2.list.length u2i u2j p9 f66 rfl (fs2.ext ((((((z3.trans z4).trans z5).trans z6).trans z7).trans z8).trans z9)) rfl (fs4.ext ((((((z3.trans z4).trans z5).trans z6).trans z7).trans z8).trans z9)) rfl (fs6.ext ((((((z3.trans z4).trans z5).trans z6).trans z7).trans z8).trans z9)) rfl (u2k.ext (((((z4.trans z5).trans z6).trans z7).trans z8).trans z9)) rfl (u2l.ext (((((z4.trans z5).trans z6).trans z7).trans z8).trans z9)) rfl)
   ·
    rw [decide_eq_false h42]
    refine Gn 7 [(41, .bool (decide (v35.Op = 4))), (40, .bool (decide (v35.Op = 4)))] J39 ?_
    refine ite_some h (fun h67 h => ?_) (fun h67 h => ?_)
    ·
     rw [decide_eq_true h67]
     refine Gn 6 [(47, .slice (Gp (some b18)) ((sl x6 0 (wr .i64 ((x6.length : Int) - 1))).length) cx6), (48, (pt b40 5))] J38 ?_
     refine Goes.ld 3 (.tmp 48) 49 3 ⟨b40, 5, none⟩ (.i v35.X) (p5.c 0 5) ?_
     have f69 : Els (kInt .i64) S3 w5 ([.i v35.X] : List Value) [v35.X] := by exact (Els.cons (K := (kInt .i64)) (vs := [.i v35.X]) (x := v35.X) rfl Els.nil)
     refine Op_.made (.buildSlice 64 1 #[(0, (.tmp 49))]) 50 64 (fun b => .slice (Gp (some b)) 1 1) 49 ([.i v35.X] : List Value) p5 Goes.v (by kernel_rfl) ?_
     intro b68 w10 z10 p10
     have p10 : Hp nz wz S3 w10 (((some b68), .row 49 ([.i v35.X] : List Value) (1 * (kInt .i64).size) 0) :: (some b40, .row 46 (.i v35.Op :: U4 v35.Set [.i v35.X, .i v35.Y]) 7 0) :: (some uv, .row 66 [.slice (Gp u2c) y25.2.place.length u2e, .slice (Gp u2g) y25.2.list.length u2i] 2 0) :: (u2c, .row 3 u2f (u2e * (kInt .i64).size) 0) :: (u2g, .row 49 u2j (u2i * (kInt .i64).size) 0) :: ((some b18), .row 49 u2b (cx6 * (kInt .i64).size) 0) :: (some gx0, .row 51 [.slice (Gp (some b32)) x0v.l.length uj, (pt ul 0), (pt uv 0)] 3 0) :: ((some b32), .row 46 uk (uj * kT45.size) 0) :: (some ul, .row 66 [.slice (Gp um) x0v.now.place.length uo, .slice (Gp uq) x0v.now.list.length ut] 2 0) :: (um, .row 3 up (uo * (kInt .i64).size) 0) :: (uq, .row 49 uu (ut * (kInt .i64).size) 0) :: Lr) := p10
     refine let_some h fun v74 e75 h => ?_
     refine guard_some' h fun g76 h => ?_
     refine Op_.ap_n (K := (kInt .i64)) 64 (.tmp 47) (.tmp 50) 51 64 49 5 (.i 0) 8 ((sl x6 0 (wr .i64 ((x6.length : Int) - 1))).length) cx6 1 (sl x6 0 (wr .i64 ((x6.length : Int) - 1))) [v35.X] v74 (Gp (some b68)) 1 rfl rfl e75 p10 rfl (f24.ext (((z3.trans z4).trans z5).trans z10)) Goes.v (by kernel_rfl) (by kernel_rfl) (by kernel_rfl) (by kernel_rfl) rfl (by decide) (f69.ext z10) (src_own p10 (q := 0) rfl) (by have := g76; omega) (by have := g76; omega) ?_
     intro w11 G77 c78 u2o z11 p11 f80
     refine Gn 5 [(6, .slice (Gp G77) v74.length c78)] J2i ?_
     have p11 := (p11.dp 0).dp 0
     have p11 := ((((((((p11.fr 2).fr 2).fr 2).fr 8).fr 8).fr 8).fr 8).fr 8).fr 8
     exact Gj 52 [(0, (pt gx0 0)), (1, (pt uv 0)), (6, .slice (Gp G77) v74.length c78)] (u99 _ _ h _ _ (((((hx.trans z3).trans z4).trans z5).trans z10).trans z11) G77 v74.length c78 u2o u2c y25.2.place.length u2e u2f u2g y25.2.list.length u2i u2j p11 f80 rfl (fs2.ext ((((z3.trans z4).trans z5).trans z10).trans z11)) rfl (fs4.ext ((((z3.trans z4).trans z5).trans z10).trans z11)) rfl (fs6.ext ((((z3.trans z4).trans z5).trans z10).trans z11)) rfl (u2k.ext (((z4.trans z5).trans z10).trans z11)) rfl (u2l.ext (((z4.trans z5).trans z10).trans z11)) rfl)
    ·
     rw [decide_eq_false h67]
     refine Gn 5 [] J2i ?_
     have p5 := p5.dp 0
     have p5 := ((((((((p5.fr 2).fr 2).fr 2).fr 8).fr 8).fr 8).fr 8).fr 8).fr 8
     exact Gj 52 [(0, (pt gx0 0)), (1, (pt uv 0)), (6, .slice (Gp (some b18)) ((sl x6 0 (wr .i64 ((x6.length : Int) - 1))).length) cx6)] (u99 _ _ h _ _ (((hx.trans z3).trans z4).trans z5) (some b18) ((sl x6 0 (wr .i64 ((x6.length : Int) - 1))).length) cx6 u2b u2c y25.2.place.length u2e u2f u2g y25.2.list.length u2i u2j p5 (f24.ext ((z3.trans z4).trans z5)) rfl (fs2.ext ((z3.trans z4).trans z5)) rfl (fs4.ext ((z3.trans z4).trans z5)) rfl (fs6.ext ((z3.trans z4).trans z5)) rfl (u2k.ext (z4.trans z5)) rfl (u2l.ext (z4.trans z5)) rfl)
  ·
   have u2p : y25.1 = false := by simpa using h29
   rw [u2p]
   refine Gn 3 [] J2i ?_
   have p3 := ((((((((p3.fr 2).fr 2).fr 2).fr 8).fr 8).fr 8).fr 8).fr 8).fr 8
   exact Gj 52 [(0, (pt gx0 0)), (1, (pt uv 0)), (6, .slice (Gp (some b18)) ((sl x6 0 (wr .i64 ((x6.length : Int) - 1))).length) cx6)] (u99 _ _ h _ _ (hx.trans z3) (some b18) ((sl x6 0 (wr .i64 ((x6.length : Int) - 1))).length) cx6 u2b u2c y25.2.place.length u2e u2f u2g y25.2.list.length u2i u2j p3 (f24.ext z3) rfl (fs2.ext z3) rfl (fs4.ext z3) rfl (fs6.ext z3) rfl u2k rfl u2l rfl)
 ·
  rw [decide_eq_false h15]
  refine Gn 2 [] [] ?_
  obtain rfl := Option.some.inj h
  have p1 := p1.dp 0
  exact Goes.end_ (fn := Tryz.f30) (by kernel_rfl) (v := .tuple #[]) (by kernel_rfl) ⟨S1, u90, e2v.place.length, u92, u93, u94, e2v.list.length, u96, u97, rfl, hx, p1, u9a, rfl, u9c, rfl⟩

theorem W.z1m (x0v : T50) (x2 : Int) (r : T65) (h : M.sim_Runner_stand_2 x0v x2 = some r) {nz wz S0 w0 Lr} (gx0 uh ui uj uk ul um un uo up uq ur ut uu uv uw ux uy uz u10 u11 u12 u13) (p0 : Hp nz wz S0 w0 ((some gx0, .row 51 [.slice (Gp uh) ui uj, (pt ul 0), (pt uv 0)] 3 0) :: (uh, .row 46 uk (uj * kT45.size) 0) :: (some ul, .row 66 [.slice (Gp um) un uo, .slice (Gp uq) ur ut] 2 0) :: (um, .row 3 up (uo * (kInt .i64).size) 0) :: (uq, .row 49 uu (ut * (kInt .i64).size) 0) :: (some uv, .row 66 [.slice (Gp uw) ux uy, .slice (Gp u10) u11 u12] 2 0) :: (uw, .row 3 uz (uy * (kInt .i64).size) 0) :: (u10, .row 49 u13 (u12 * (kInt .i64).size) 0) :: Lr)) (u14 : Els kT45 S0 w0 uk x0v.l) (u15 : x0v.l.length = ui) (u16 : Els (kInt .i64) S0 w0 up x0v.now.place) (u17 : x0v.now.place.length = un) (u18 : Els (kInt .i64) S0 w0 uu x0v.now.list) (u19 : x0v.now.list.length = ur) (u1a : Els (kInt .i64) S0 w0 uz x0v.next.place) (u1b : x0v.next.place.length = ux) (u1c : Els (kInt .i64) S0 w0 u13 x0v.next.list) (u1d : x0v.next.list.length = u11) :
  Calls Tryz.prog 30 #[(pt gx0 0), (pt uv 0), .i x2] w0 (Rets (Post.z1m nz wz S0 w0 Lr gx0 uh ui uj uk ul um un uo up uq ur ut uu uv x0v r)) := by
 subst u15
 subst u17
 subst u19
 subst u1b
 subst u1d
 refine Zf Tryz.f30 B30 49 ?_
 refine Gj 52 [(0, (pt gx0 0)), (1, (pt uv 0)), (2, .i x2)] fun junk => ?_
 delta M.sim_Runner_stand_2 at h
 refine Gn 3 [(9, .i x2)] J3b ?_
 have f10 : Els (kInt .i64) S0 w0 ([.i x2] : List Value) [x2] := by exact (Els.cons (K := (kInt .i64)) (vs := [.i x2]) (x := x2) rfl Els.nil)
 refine Op_.made (.buildSlice 64 1 #[(0, (.tmp 9))]) 10 64 (fun b => .slice (Gp (some b)) 1 1) 49 ([.i x2] : List Value) p0 Goes.v (by kernel_rfl) ?_
 intro b9 w2 z2 p2
 have p2 : Hp nz wz S0 w2 (((some b9), .row 49 ([.i x2] : List Value) (1 * (kInt .i64).size) 0) :: (some gx0, .row 51 [.slice (Gp uh) x0v.l.length uj, (pt ul 0), (pt uv 0)] 3 0) :: (uh, .row 46 uk (uj * kT45.size) 0) :: (some ul, .row 66 [.slice (Gp um) x0v.now.place.length uo, .slice (Gp uq) x0v.now.list.length ut] 2 0) :: (um, .row 3 up (uo * (kInt .i64).size) 0) :: (uq, .row 49 uu (ut * (kInt .i64).size) 0) :: (some uv, .row 66 [.slice (Gp uw) x0v.next.place.length uy, .slice (Gp u10) x0v.next.list.length u12] 2 0) :: (uw, .row 3 uz (uy * (kInt .i64).size) 0) :: (u10, .row 49 u13 (u12 * (kInt .i64).size) 0) :: Lr) := p2
 refine Gn 4 [(6, .slice (Gp (some b9)) 1 1)] J2i ?_
 exact Gj 52 [(0, (pt gx0 0)), (1, (pt uv 0)), (6, .slice (Gp (some b9)) 1 1)] (W.z1n gx0 uh x0v.l.length uj uk ul um x0v.now.place.length uo up uq x0v.now.list.length ut uu uv _ _ h _ _ ((Ext.refl S0 w0).trans z2) (some b9) 1 1 ([.i x2] : List Value) uw x0v.next.place.length uy uz u10 x0v.next.list.length u12 u13 p2 (f10.ext z2) rfl (u14.ext z2) rfl (u16.ext z2) rfl (u18.ext z2) rfl (u1a.ext z2) rfl (u1c.ext z2) rfl)

def Jb0 := Zb 1 []
def Jb1 := Zs [1, 1, 1, 0, 1, 0, 1, 0] B14 Jb0
def Q77 := sub [1, 1, 1, 0, 1, 0] B14
def Q78 := sub [1, 1, 1, 0, 1, 0, 1] B14

def Post.z1o (lk : Nat) (rk : Nat) (jkk : Nat → Value) (u9e : Nat) (u9f : Nat) (u9g : Option Nat) (u9h : Nat) (u9i : Nat) (u9j : List Value) (u9k : Nat) (u9l : Option Nat) (u9m : Nat) (u9n : Nat) (u9o : List Value) (u9p : Option Nat) (u9q : Nat) (u9r : Nat) (u9s : List Value) (u9t : Nat) (u9u : Nat) (u9v : Nat) (u9w : T50) (u9x : Int) (r : T65) (v : Value) (w' : World) : Prop :=
 ∃ S' u9y u9z ua0 ua1 ua2 ua3 ua4 ua5, v = .bool true ∧ Ext S0 w0 S' w' ∧ Hp nz wz S' w' ((some lk, .obj (lpst 14 (lfr 42 [(2, (pt u9e 0)), (16, .func (.func 48) #[] #[(pt u9u 0), (pt u9v 0)])] jkk) #[17] (rfAssign (Q77)) (rfBody (Q77)) rk .ready none)) :: (some u9e, .row 25 [(pt u9f 0)] 1 0) :: (some u9f, .row 51 [.slice (Gp u9g) u9h u9i, (pt u9k 0), (pt u9t 0)] 3 0) :: (u9g, .row 46 u9j (u9i * kT45.size) 0) :: (some u9k, .row 66 [.slice (Gp u9l) u9m u9n, .slice (Gp u9p) u9q u9r] 2 0) :: (u9l, .row 3 u9o (u9n * (kInt .i64).size) 0) :: (u9p, .row 49 u9s (u9r * (kInt .i64).size) 0) :: (some u9t, .row 66 [.slice (Gp u9y) u9z ua0, .slice (Gp ua2) ua3 ua4] 2 0) :: (u9y, .row 3 ua1 (ua0 * (kInt .i64).size) 0) :: (ua2, .row 49 ua5 (ua4 * (kInt .i64).size) 0) :: (some u9u, .row 25 [(pt u9f 0)] 1 0) :: (some u9v, .row 5 [.int .u8 u9x] 1 0) :: Lr) ∧ Els (kInt .i64) S' w' ua1 r.place ∧ r.place.length = u9z ∧ Els (kInt .i64) S' w' ua5 r.list ∧ r.list.length = ua3

theorem W.z1o (u9w : T50) (u9x : Int) (a0 : Int) (r : T65) (h : M.sim_Runner_Feed_r u9w u9x a0 = some r) {nz wz S0 w0 Lr} (lk rk jkk u9e u9f u9g u9h u9i u9j u9k u9l u9m u9n u9o u9p u9q u9r u9s u9t ua6 ua7 ua8 ua9 uaa uab uac uad u9u u9v) (p0 : Hp nz wz S0 w0 ((some lk, .obj (lpst 14 (lfr 42 [(2, (pt u9e 0)), (16, .func (.func 48) #[] #[(pt u9u 0), (pt u9v 0)])] jkk) #[17] (rfAssign (Q77)) (rfBody (Q77)) rk .ready none)) :: (some u9e, .row 25 [(pt u9f 0)] 1 0) :: (some u9f, .row 51 [.slice (Gp u9g) u9h u9i, (pt u9k 0), (pt u9t 0)] 3 0) :: (u9g, .row 46 u9j (u9i * kT45.size) 0) :: (some u9k, .row 66 [.slice (Gp u9l) u9m u9n, .slice (Gp u9p) u9q u9r] 2 0) :: (u9l, .row 3 u9o (u9n * (kInt .i64).size) 0) :: (u9p, .row 49 u9s (u9r * (kInt .i64).size) 0) :: (some u9t, .row 66 [.slice (Gp ua6) ua7 ua8, .slice (Gp uaa) uab uac] 2 0) :: (ua6, .row 3 ua9 (ua8 * (kInt .i64).size) 0) :: (uaa, .row 49 uad (uac * (kInt .i64).size) 0) :: (some u9u, .row 25 [(pt u9f 0)] 1 0) :: (some u9v, .row 5 [.int .u8 u9x] 1 0) :: Lr)) (uae : Els kT45 S0 w0 u9j u9w.l) (uaf : u9w.l.length = u9h) (uag : Els (kInt .i64) S0 w0 u9o u9w.now.place) (uah : u9w.now.place.length = u9m) (uai : Els (kInt .i64) S0 w0 u9s u9w.now.list) (uaj : u9w.now.list.length = u9q) (uak : Els (kInt .i64) S0 w0 ua9 u9w.next.place) (ual : u9w.next.place.length = ua7) (uam : Els (kInt .i64) S0 w0 uad u9w.next.list) (uan : u9w.next.list.length = uab) :
  Goes Tryz.prog (rbase 14 lk) [.code (rfAssign (Q77)), .beginRound, .code (rfBody (Q77))] ⟨setp (lfr 42 [(2, (pt u9e 0)), (16, .func (.func 48) #[] #[(pt u9u 0), (pt u9v 0)])] jkk) #[17] #[.i a0], []⟩ w0 (DoneR (Post.z1o nz wz S0 w0 Lr lk rk jkk u9e u9f u9g u9h u9i u9j u9k u9l u9m u9n u9o u9p u9q u9r u9s u9t u9u u9v u9w u9x r)) := by
 subst uaf
 subst uah
 subst uaj
 subst ual
 subst uan
 refine Gj 42 [(2, (pt u9e 0)), (16, .func (.func 48) #[] #[(pt u9u 0), (pt u9v 0)]), (17, .i a0)] fun junk => ?_
 delta M.sim_Runner_Feed_r at h
 refine Gn 3 [(5, .i a0)] [.beginRound, .code (Q78)] ?_
 refine Goes.beginR 0 rfl p0 rfl ?_
 intro w2 z2 p2
 refine Gn 1 [] Jb1 ?_
 have z3 : Ext S0 w2 S0 (w2).drew := Ext.draw
 have p3 := p2.draw
 refine Goes.drawn (s := [6]) (F := Fc S0 (w2).drew [(⟨u9e, 0, none⟩, (pt u9f 0)), (⟨u9f, 2, none⟩, (pt u9t 0))]) 6 7 (by kernel_rfl) (by kernel_rfl) (by kernel_rfl) (by kernel_rfl) ?_
 generalize (w2).drew = w3 at z3 p3 ⊢
 refine AnyG.ld1 (i := 0) 25 (.tmp 2) 18 25 ⟨u9e, 0, none⟩ ((pt u9f 0)) (by kernel_rfl) (by kernel_rfl) (Fc.here (p3.cs [(1, 0, 1), (2, 2, 1)])) (by kernel_rfl) (by kernel_rfl) (fun _ h => h.2.at_ 0 rfl) ?_
 refine AnyG.ld1 (i := 1) 25 (.tmp 2) 19 25 ⟨u9e, 0, none⟩ ((pt u9f 0)) (by kernel_rfl) (by kernel_rfl) (Fc.here (p3.cs [(1, 0, 1), (2, 2, 1)])) (by kernel_rfl) (by kernel_rfl) (fun _ h => h.2.at_ 0 rfl) ?_
 refine AnyG.pu 2 (.nilCheck (.tmp 19)) 20 0 ((pt u9f 0)) (Fc.here (p3.cs [(1, 0, 1), (2, 2, 1)])) ?_
 refine AnyG.pu 3 (.fieldAddr 51 (.tmp 20) 2) 21 0 ((pt u9f 2)) (Fc.here (p3.cs [(1, 0, 1), (2, 2, 1)])) ?_
 refine AnyG.ld1 (i := 4) 47 (.tmp 21) 22 47 ⟨u9f, 2, none⟩ ((pt u9t 0)) (by kernel_rfl) (by kernel_rfl) (Fc.here (p3.cs [(1, 0, 1), (2, 2, 1)])) (by kernel_rfl) (by kernel_rfl) (fun _ h => h.2.at_ 1 rfl) ?_
 refine AnyG.pu 5 (.move (.tmp 5)) 23 49 (.i a0) (Fc.here (p3.cs [(1, 0, 1), (2, 2, 1)])) ?_
 have p3 := (((((((p3.fr 9).fr 9).fr 9).fr 9).fr 9).fr 9).fr 9).fr 9
 refine bind_some' h fun y13 e14 h => ?_
 refine Op_.call (kc 30 [18, 22, 23] #[25, 47, 49]) 24 0 30 #[(pt u9f 0), (pt u9t 0), .i a0] (AnyG.cs (i := 6) (by kernel_rfl) (by kernel_rfl)) (by kernel_rfl) (W.z1m u9w a0 y13 e14 u9f u9g u9w.l.length u9i u9j u9k u9l u9w.now.place.length u9n u9o u9p u9w.now.list.length u9r u9s u9t ua6 u9w.next.place.length ua8 ua9 uaa u9w.next.list.length uac uad p3 (uae.ext (z2.trans z3)) rfl (uag.ext (z2.trans z3)) rfl (uai.ext (z2.trans z3)) rfl (uak.ext (z2.trans z3)) rfl (uam.ext (z2.trans z3)) rfl) ?_
 rintro _ w4 ⟨S4, uao, uap, uaq, uar, uas, uat, uau, uav, rfl, z4, p4, uaw, rfl, uax, rfl⟩
 refine AnyG.last [] (Fc S4 w4 []) (by decide) ?_
 refine AnyG.done (by kernel_rfl) ?_ _
 refine Gn 1 [] [] ?_
 have p4 := (((((((((((p4.fr 11).fr 11).fr 9).fr 9).fr 9).fr 9).fr 9).fr 9).fr 9).fr 9).fr 11).fr 11
 obtain rfl := Option.some.inj h
 refine Goes.endR 0 p4 rfl ?_
 intro w5 z5 p5
 exact ⟨S4, uao, y13.place.length, uaq, uar, uas, y13.list.length, uau, uav, rfl, (((((Ext.refl S0 w0).trans z2).trans z3).trans z4).trans z5), p5, (uaw.ext z5), rfl, (uax.ext z5), rfl⟩

def Q79 := sub [1, 0, 0] B48
def Jb2 := Zl Q79 J2g
def Jb3 := Zc Q79 Jb2
def Jb4 := Zs [1, 0, 0, 1, 1, 1] B48 Jb2
def Jb5 := Zb 1 Jb4
def Jb6 := Zs [1, 0, 0, 1, 1, 0, 0, 1, 1, 1] B48 Jb5
def Jb7 := Zs [1, 0, 0, 1, 1] B48 Jb2
def Jb8 := Zs [1, 0, 0, 1, 0] B48 Jb7
def Jb9 := Zs [1, 0, 0, 1, 1, 0, 0, 1] B48 Jb5
def Jba := Zt [1, 0, 0, 1, 1, 0, 0, 0] B48 [0, 1, 2] Jb9
def Jbb := Zs [1, 0, 0, 1, 1, 0, 0, 1, 1] B48 Jb5
def Q7h := sub [1, 0, 0, 1, 1, 0, 0, 1, 0] B48
def Jbc := Zr Q7h [0, 1, 2, 3, 4, 5, 6, 7, 8] Jbb
def Jbd := Zr Q7h [3, 4, 5, 6, 7, 8] Jbb
def Jbe := Zr Q7h [5, 6, 7, 8] Jbb
def Q7i := sub [1, 0, 0, 1, 1, 0, 0, 1, 1, 0] B48
def Jbf := Zr Q7i [1, 2, 3, 4, 5, 6, 7, 8, 9, 10, 11, 12, 13, 14, 15] Jb6
def Jbg := Zr Q7i [4, 5, 6, 7, 8, 9, 10, 11, 12, 13, 14, 15] Jb6
def Jbh := Zr Q7i [5, 6, 7, 8, 9, 10, 11, 12, 13, 14, 15] Jb6
def Jbi := Zr Q7i [10, 11, 12, 13, 14, 15] Jb6
def Jbj := Zr Q7i [12, 13, 14, 15] Jb6
def Jbk := Zs [1, 0, 0, 1, 1, 0, 0, 1, 1, 1, 0] B48 Jb5

def Post.z1p (lx0 : Nat) (rx0 : Nat) (uay : Nat → Value) (uaz : Nat) (ub0 : Nat) (ub1 : Option Nat) (ub2 : Nat) (ub3 : Nat) (ub4 : List Value) (ub5 : Nat) (ub6 : Option Nat) (ub7 : Nat) (ub8 : Nat) (ub9 : List Value) (uba : Option Nat) (ubb : Nat) (ubc : Nat) (ubd : List Value) (ube : Nat) (ubf : Nat) (ubg : Nat) (ubh : T50) (ubi : Int) (r : T65) (v : Value) (w' : World) : Prop :=
 ∃ S' u9y u9z ua0 ua1 ua2 ua3 ua4 ua5, v = .tuple #[] ∧ Ext S0 w0 S' w' ∧ Hp nz wz S' w' ((some lx0, .obj (lpst 14 (lfr 42 [(2, (pt uaz 0)), (16, .func (.func 48) #[] #[(pt ubf 0), (pt ubg 0)])] uay) #[17] (rfAssign (Q77)) (rfBody (Q77)) rx0 .ready none)) :: (some uaz, .row 25 [(pt ub0 0)] 1 0) :: (some ub0, .row 51 [.slice (Gp ub1) ub2 ub3, (pt ub5 0), (pt ube 0)] 3 0) :: (ub1, .row 46 ub4 (ub3 * kT45.size) 0) :: (some ub5, .row 66 [.slice (Gp ub6) ub7 ub8, .slice (Gp uba) ubb ubc] 2 0) :: (ub6, .row 3 ub9 (ub8 * (kInt .i64).size) 0) :: (uba, .row 49 ubd (ubc * (kInt .i64).size) 0) :: (some ube, .row 66 [.slice (Gp u9y) u9z ua0, .slice (Gp ua2) ua3 ua4] 2 0) :: (u9y, .row 3 ua1 (ua0 * (kInt .i64).size) 0) :: (ua2, .row 49 ua5 (ua4 * (kInt .i64).size) 0) :: (some ubf, .row 25 [(pt ub0 0)] 1 0) :: (some ubg, .row 5 [.int .u8 ubi] 1 0) :: Lr) ∧ Els (kInt .i64) S' w' ua1 r.place ∧ r.place.length = u9z ∧ Els (kInt .i64) S' w' ua5 r.list ∧ r.list.length = ua3

def L.z1q (lx0 : Nat) (rx0 : Nat) (uay : Nat → Value) (uaz : Nat) (ub0 : Nat) (ub1 : Option Nat) (ub2 : Nat) (ub3 : Nat) (ub4 : List Value) (ub5 : Nat) (ub6 : Option Nat) (ub7 : Nat) (ub8 : Nat) (ub9 : List Value) (uba : Option Nat) (ubb : Nat) (ubc : Nat) (ubd : List Value) (ube : Nat) (ubf : Nat) (ubg : Nat) : Int × Int × T65 × T50 × Int → T65 → Prop := fun ⟨x14, x15, e4v, ubh, ubi⟩ r => ∀ S1 w1, Ext S0 w0 S1 w1 → ∀ u9y u9z ua0 ua1 ua2 ua3 ua4 ua5 (_ : Hp nz wz S1 w1 ((some lx0, .obj (lpst 14 (lfr 42 [(2, (pt uaz 0)), (16, .func (.func 48) #[] #[(pt ubf 0), (pt ubg 0)])] uay) #[17] (rfAssign (Q77)) (rfBody (Q77)) rx0 .ready none)) :: (some uaz, .row 25 [(pt ub0 0)] 1 0) :: (some ub0, .row 51 [.slice (Gp ub1) ub2 ub3, (pt ub5 0), (pt ube 0)] 3 0) :: (ub1, .row 46 ub4 (ub3 * kT45.size) 0) :: (some ub5, .row 66 [.slice (Gp ub6) ub7 ub8, .slice (Gp uba) ubb ubc] 2 0) :: (ub6, .row 3 ub9 (ub8 * (kInt .i64).size) 0) :: (uba, .row 49 ubd (ubc * (kInt .i64).size) 0) :: (some ube, .row 66 [.slice (Gp u9y) u9z ua0, .slice (Gp ua2) ua3 ua4] 2 0) :: (u9y, .row 3 ua1 (ua0 * (kInt .i64).size) 0) :: (ua2, .row 49 ua5 (ua4 * (kInt .i64).size) 0) :: (some ubf, .row 25 [(pt ub0 0)] 1 0) :: (some ubg, .row 5 [.int .u8 ubi] 1 0) :: Lr)) (_ : Els kT45 S1 w1 ub4 ubh.l) (_ : ubh.l.length = ub2) (_ : Els (kInt .i64) S1 w1 ub9 ubh.now.place) (_ : ubh.now.place.length = ub7) (_ : Els (kInt .i64) S1 w1 ubd ubh.now.list) (_ : ubh.now.list.length = ubb) (_ : Els (kInt .i64) S1 w1 ua1 e4v.place) (_ : e4v.place.length = u9z) (_ : Els (kInt .i64) S1 w1 ua5 e4v.list) (_ : e4v.list.length = ua3) (junk : Nat → Value),
 Goes Tryz.prog (base 48) Jb3 ⟨lfr 43 [(0, yieldV lx0), (1, (pt ubf 0)), (2, (pt ubg 0)), (13, .slice (Gp uba) ubb ubc), (14, .i x14), (15, .i x15)] junk, []⟩ w1 (Done Tryz.prog 48 (Rets (Post.z1p nz wz S0 w0 Lr lx0 rx0 uay uaz ub0 ub1 ub2 ub3 ub4 ub5 ub6 ub7 ub8 ub9 uba ubb ubc ubd ube ubf ubg ubh ubi r)))

def L.z1r (lx0 : Nat) (rx0 : Nat) (uay : Nat → Value) (uaz : Nat) (ub0 : Nat) (ub1 : Option Nat) (ub2 : Nat) (ub3 : Nat) (ub4 : List Value) (ub5 : Nat) (ub6 : Option Nat) (ub7 : Nat) (ub8 : Nat) (ub9 : List Value) (uba : Option Nat) (ubb : Nat) (ubc : Nat) (ubd : List Value) (ube : Nat) (ubf : Nat) (ubg : Nat) : Int × Int × Bool × T65 × T50 × Int → T65 → Prop := fun ⟨x14, x15, x41, e4v, ubh, ubi⟩ r => ∀ S1 w1, Ext S0 w0 S1 w1 → ∀ u9y u9z ua0 ua1 ua2 ua3 ua4 ua5 (_ : Hp nz wz S1 w1 ((some lx0, .obj (lpst 14 (lfr 42 [(2, (pt uaz 0)), (16, .func (.func 48) #[] #[(pt ubf 0), (pt ubg 0)])] uay) #[17] (rfAssign (Q77)) (rfBody (Q77)) rx0 .ready none)) :: (some uaz, .row 25 [(pt ub0 0)] 1 0) :: (some ub0, .row 51 [.slice (Gp ub1) ub2 ub3, (pt ub5 0), (pt ube 0)] 3 0) :: (ub1, .row 46 ub4 (ub3 * kT45.size) 0) :: (some ub5, .row 66 [.slice (Gp ub6) ub7 ub8, .slice (Gp uba) ubb ubc] 2 0) :: (ub6, .row 3 ub9 (ub8 * (kInt .i64).size) 0) :: (uba, .row 49 ubd (ubc * (kInt .i64).size) 0) :: (some ube, .row 66 [.slice (Gp u9y) u9z ua0, .slice (Gp ua2) ua3 ua4] 2 0) :: (u9y, .row 3 ua1 (ua0 * (kInt .i64).size) 0) :: (ua2, .row 49 ua5 (ua4 * (kInt .i64).size) 0) :: (some ubf, .row 25 [(pt ub0 0)] 1 0) :: (some ubg, .row 5 [.int .u8 ubi] 1 0) :: Lr)) (_ : Els kT45 S1 w1 ub4 ubh.l) (_ : ubh.l.length = ub2) (_ : Els (kInt .i64) S1 w1 ub9 ubh.now.place) (_ : ubh.now.place.length = ub7) (_ : Els (kInt .i64) S1 w1 ubd ubh.now.list) (_ : ubh.now.list.length = ubb) (_ : Els (kInt .i64) S1 w1 ua1 e4v.place) (_ : e4v.place.length = u9z) (_ : Els (kInt .i64) S1 w1 ua5 e4v.list) (_ : e4v.list.length = ua3) (junk : Nat → Value),
 Goes Tryz.prog (base 48) Jb6 ⟨lfr 43 [(0, yieldV lx0), (1, (pt ubf 0)), (2, (pt ubg 0)), (13, .slice (Gp uba) ubb ubc), (14, .i x14), (15, .i x15), (41, .bool x41)] junk, []⟩ w1 (Done Tryz.prog 48 (Rets (Post.z1p nz wz S0 w0 Lr lx0 rx0 uay uaz ub0 ub1 ub2 ub3 ub4 ub5 ub6 ub7 ub8 ub9 uba ubb ubc ubd ube ubf ubg ubh ubi r)))

theorem W.z1s {nz wz S0 w0 Lr} (lx0 : Nat) (rx0 : Nat) (uay : Nat → Value) (uaz : Nat) (ub0 : Nat) (ub1 : Option Nat) (ub2 : Nat) (ub3 : Nat) (ub4 : List Value) (ub5 : Nat) (ub6 : Option Nat) (ub7 : Nat) (ub8 : Nat) (ub9 : List Value) (uba : Option Nat) (ubb : Nat) (ubc : Nat) (ubd : List Value) (ube : Nat) (ubf : Nat) (ubg : Nat) : (∀ a r, M.sim_Runner_led_1_l0 a = some r → (L.z1q nz wz S0 w0 Lr lx0 rx0 uay uaz ub0 ub1 ub2 ub3 ub4 ub5 ub6 ub7 ub8 ub9 uba ubb ubc ubd ube ubf ubg) a r) ∧ (∀ a r, M.sim_Runner_led_1_l1 a = some r → (L.z1r nz wz S0 w0 Lr lx0 rx0 uay uaz ub0 ub1 ub2 ub3 ub4 ub5 ub6 ub7 ub8 ub9 uba ubb ubc ubd ube ubf ubg) a r) := by
 refine M.sim_Runner_led_1_l0.mutual_partial_correctness (L.z1q nz wz S0 w0 Lr lx0 rx0 uay uaz ub0 ub1 ub2 ub3 ub4 ub5 ub6 ub7 ub8 ub9 uba ubb ubc ubd ube ubf ubg) (L.z1r nz wz S0 w0 Lr lx0 rx0 uay uaz ub0 ub1 ub2 ub3 ub4 ub5 ub6 ub7 ub8 ub9 uba ubb ubc ubd ube ubf ubg) ?_ ?_
 ·
  intro ubj ubk ⟨x14, x15, e4v, ubh, ubi⟩ r h S1 w1 hx u9y u9z ua0 ua1 ua2 ua3 ua4 ua5 p1 fs0 ls0 fs2 ls2 fs4 ls4 ubl ubm ubn ubo junk
  try dsimp only at h
  subst ls0
  subst ls2
  subst ls4
  subst ubm
  subst ubo
  refine Gn 5 [(16, .bool (decide (x15 < x14)))] Jb8 ?_
  refine ite_some h (fun h15 h => ?_) (fun h15 h => ?_)
  ·
   rw [decide_eq_true h15]
   refine Gn 6 [] Jba ?_
   refine guard_some' h fun g16 h => ?_
   refine guard_some' h fun g17 h => ?_
   refine Op_.ixO_n 64 (.tmp 13) (.tmp 15) 17 0 49 .i64 x15 6 ubh.now.list.length ubc (gi ubh.now.list x15) rfl rfl p1 rfl fs4 Goes.v (by kernel_rfl) (by kernel_rfl) (by kernel_rfl) (by kernel_rfl) (by decide) g16 g17 ?_
   rintro b18 _ rfl q20 f19
   obtain rfl := q20
   refine Goes.ld 49 (.tmp 17) 18 49 ⟨b18, (x15 : Int).toNat * (kInt .i64).size, none⟩ (.i (gi ubh.now.list x15)) (f19 0 _ rfl) ?_
   refine Gn 4 [(5, .i (gi ubh.now.list x15))] Jbc ?_
   refine Goes.ld 25 (.tmp 1) 19 25 ⟨ubf, 0, none⟩ ((pt ub0 0)) (p1.c 10 0) ?_
   refine Gn 2 [(20, (pt ub0 0)), (21, (pt ub0 0))] Jbd ?_
   refine Goes.ld 22 (.tmp 21) 22 22 ⟨ub0, 0, none⟩ (.slice (Gp ub1) ubh.l.length ub3) (p1.c 2 0) ?_
   refine Gn 1 [(23, .i (gi ubh.now.list x15))] Jbe ?_
   refine guard_some' h fun g22 h => ?_
   refine guard_some' h fun g23 h => ?_
   refine Op_.ixO_n 22 (.tmp 22) (.tmp 23) 24 0 46 .i64 (gi ubh.now.list x15) 3 ubh.l.length ub3 (gi ubh.l (gi ubh.now.list x15)) rfl rfl p1 rfl fs0 Goes.v (by kernel_rfl) (by kernel_rfl) (by kernel_rfl) (by kernel_rfl) (by decide) g22 g23 ?_
   rintro b24 _ rfl q26 f25
   obtain ⟨_, _, rfl, rfl, ⟨_, _, rfl, ⟨l27, f28⟩, ⟨_, _, rfl, rfl, rfl⟩⟩⟩ := q26
   obtain rfl := els_lit4' f28 l27
   refine Goes.ldN 46 (.tmp 24) 25 46 ⟨b24, (gi ubh.now.list x15 : Int).toNat * kT45.size, none⟩ ([.i ((gi ubh.l (gi ubh.now.list x15)).Op)] ++ ((U4 ((gi ubh.l (gi ubh.now.list x15)).Set) []) ++ ([.i ((gi ubh.l (gi ubh.now.list x15)).X)] ++ [.i ((gi ubh.l (gi ubh.now.list x15)).Y)]))) f25 ?_
   refine Op_.alloc 46 6 0 (.agg #[.i 0, .u 0, .u 0, .u 0, .u 0, .i 0, .i 0]) [.i 0, .u 0, .u 0, .u 0, .u 0, .i 0, .i 0] p1 Goes.v (by kernel_rfl) (by kernel_rfl) ?_
   intro b30 w2 z2 p2
   refine So 46 (.tmp 6) (.tmp 25) 0 0 b30 0 (ag (.i ((gi ubh.l (gi ubh.now.list x15)).Op) :: U4 ((gi ubh.l (gi ubh.now.list x15)).Set) [.i ((gi ubh.l (gi ubh.now.list x15)).X), .i ((gi ubh.l (gi ubh.now.list x15)).Y)])) (.i ((gi ubh.l (gi ubh.now.list x15)).Op) :: U4 ((gi ubh.l (gi ubh.now.list x15)).Set) [.i ((gi ubh.l (gi ubh.now.list x15)).X), .i ((gi ubh.l (gi ubh.now.list x15)).Y)]) p2 rfl Goes.s ?_
   intro w3 z3 p3
   have p3 : Hp nz wz S1 w3 ((some b30, .row 46 (.i ((gi ubh.l (gi ubh.now.list x15)).Op) :: U4 ((gi ubh.l (gi ubh.now.list x15)).Set) [.i ((gi ubh.l (gi ubh.now.list x15)).X), .i ((gi ubh.l (gi ubh.now.list x15)).Y)]) 7 0) :: (some lx0, .obj (lpst 14 (lfr 42 [(2, (pt uaz 0)), (16, .func (.func 48) #[] #[(pt ubf 0), (pt ubg 0)])] uay) #[17] (rfAssign (Q77)) (rfBody (Q77)) rx0 .ready none)) :: (some uaz, .row 25 [(pt ub0 0)] 1 0) :: (some ub0, .row 51 [.slice (Gp (some b24)) ubh.l.length ub3, (pt ub5 0), (pt ube 0)] 3 0) :: ((some b24), .row 46 ub4 (ub3 * kT45.size) 0) :: (some ub5, .row 66 [.slice (Gp ub6) ubh.now.place.length ub8, .slice (Gp (some b18)) ubh.now.list.length ubc] 2 0) :: (ub6, .row 3 ub9 (ub8 * (kInt .i64).size) 0) :: ((some b18), .row 49 ubd (ubc * (kInt .i64).size) 0) :: (some ube, .row 66 [.slice (Gp u9y) e4v.place.length ua0, .slice (Gp ua2) e4v.list.length ua4] 2 0) :: (u9y, .row 3 ua1 (ua0 * (kInt .i64).size) 0) :: (ua2, .row 49 ua5 (ua4 * (kInt .i64).size) 0) :: (some ubf, .row 25 [(pt ub0 0)] 1 0) :: (some ubg, .row 5 [.int .u8 ubi] 1 0) :: Lr) := p3
   refine Gn 4 [(26, (pt b30 0))] Jbf ?_
   refine Goes.ld 3 (.tmp 26) 27 3 ⟨b30, 0, none⟩ (.i ((gi ubh.l (gi ubh.now.list x15)).Op)) (p3.c 0 0) ?_
   refine Gn 2 [(28, .bool (decide ((gi ubh.l (gi ubh.now.list x15)).Op = 1))), (29, .bool (decide ((gi ubh.l (gi ubh.now.list x15)).Op = 1)))] Jbg ?_
   refine ite_some h (fun h32 h => ?_) (fun h32 h => ?_)
   ·
    rw [decide_eq_true h32]
    refine Gn 1 [(30, (pt b30 1))] Jbh ?_
    refine Goes.ldN 44 (.tmp 30) 31 44 ⟨b30, 1, none⟩ (U4 ((gi ubh.l (gi ubh.now.list x15)).Set) []) (p3.pa 0 1) ?_
    refine Goes.ld 5 (.tmp 2) 32 5 ⟨ubg, 0, none⟩ (.int .u8 ubi) (p3.c 12 0) ?_
    refine bind_some' h fun y33 e34 h => ?_
    refine Gc (kc 49 [31, 32] #[44, 5]) 33 4 49 _ (W.z1l ((gi ubh.l (gi ubh.now.list x15)).Set) ubi y33 e34 ((U4 ((gi ubh.l (gi ubh.now.list x15)).Set) []) : List Value) p3 (els_mk4 (S := S1) (w := w3) (k := .u64) l27) rfl) ?_
    rintro _ w4 ⟨S4, rfl, z4, p4⟩
    refine Gn 2 [(34, .bool y33), (35, .bool y33)] Jbi ?_
    refine ite_some h (fun h35 h => ?_) (fun h35 h => ?_)
    ·
     rw [h35]
     refine Gn 2 [(36, yieldV lx0), (37, (pt b30 5))] Jbj ?_
     refine Goes.ld 3 (.tmp 37) 38 3 ⟨b30, 5, none⟩ (.i ((gi ubh.l (gi ubh.now.list x15)).X)) (p4.c 0 5) ?_
     have p4 := (((((((((((p4.fr 12).fr 12).fr 12).fr 12).fr 12).fr 12).fr 12).fr 12).fr 12).fr 12).fr 12).fr 12
     refine bind_some' h fun y36 e37 h => ?_
     refine Goes.yieldAt (.call { callee := .value (.tmp 36), args := #[(.tmp 38)], argTypes := #[49] }) 39 4 0 lx0 #[.i ((gi ubh.l (gi ubh.now.list x15)).X)] p4 rfl (by kernel_rfl) rfl (fun _ => by kernel_rfl) rfl (W.z1o (⟨ubh.l, ubh.now, e4v⟩ : T50) ubi ((gi ubh.l (gi ubh.now.list x15)).X) y36 e37 lx0 rx0 uay uaz ub0 (some b24) ubh.l.length ub3 ub4 ub5 ub6 ubh.now.place.length ub8 ub9 (some b18) ubh.now.list.length ubc ubd ube u9y e4v.place.length ua0 ua1 ua2 e4v.list.length ua4 ua5 ubf ubg p4 (fs0.ext ((z2.trans z3).trans z4)) rfl (fs2.ext ((z2.trans z3).trans z4)) rfl (fs4.ext ((z2.trans z3).trans z4)) rfl (ubl.ext ((z2.trans z3).trans z4)) rfl (ubn.ext ((z2.trans z3).trans z4)) rfl) ?_
     rintro _ w5 ⟨S5, ubp, ubq, ubr, ubs, ubt, ubu, ubv, ubw, rfl, z5, p5, ubx, rfl, uby, rfl⟩
     refine Gn 3 [(40, .bool (!true)), (41, .bool (!true))] Jb6 ?_
     have p5 := p5.dp 12
     exact Gj 43 [(0, yieldV lx0), (1, (pt ubf 0)), (2, (pt ubg 0)), (13, .slice (Gp (some b18)) ubh.now.list.length ubc), (14, .i x14), (15, .i x15), (41, .bool (!true))] (ubk _ _ h _ _ ((((hx.trans z2).trans z3).trans z4).trans z5) ubp y36.place.length ubr ubs ubt y36.list.length ubv ubw p5 (fs0.ext (((z2.trans z3).trans z4).trans z5)) rfl (fs2.ext (((z2.trans z3).trans z4).trans z5)) rfl (fs4.ext (((z2.trans z3).trans z4).trans z5)) rfl ubx rfl uby rfl)
    ·
     have ubz : y33 = false := by simpa using h35
     rw [ubz]
     refine Gn 7 [(36, undef), (37, undef), (38, undef), (39, undef), (40, undef), (41, .bool false)] Jb6 ?_
     have p4 := p4.dp 0
     exact Gj 43 [(0, yieldV lx0), (1, (pt ubf 0)), (2, (pt ubg 0)), (13, .slice (Gp (some b18)) ubh.now.list.length ubc), (14, .i x14), (15, .i x15), (41, .bool false)] (ubk _ _ h _ _ (((hx.trans z2).trans z3).trans z4) u9y e4v.place.length ua0 ua1 ua2 e4v.list.length ua4 ua5 p4 (fs0.ext ((z2.trans z3).trans z4)) rfl (fs2.ext ((z2.trans z3).trans z4)) rfl (fs4.ext ((z2.trans z3).trans z4)) rfl (ubl.ext ((z2.trans z3).trans z4)) rfl (ubn.ext ((z2.trans z3).trans z4)) rfl)
   ·
    rw [decide_eq_false h32]
    refine Gn 13 [(30, undef), (31, undef), (32, undef), (33, undef), (34, .bool false), (35, .bool false), (36, undef), (37, undef), (38, undef), (39, undef), (40, undef), (41, .bool false)] Jb6 ?_
    have p3 := p3.dp 0
    exact Gj 43 [(0, yieldV lx0), (1, (pt ubf 0)), (2, (pt ubg 0)), (13, .slice (Gp (some b18)) ubh.now.list.length ubc), (14, .i x14), (15, .i x15), (41, .bool false)] (ubk _ _ h _ _ ((hx.trans z2).trans z3) u9y e4v.place.length ua0 ua1 ua2 e4v.list.length ua4 ua5 p3 (fs0.ext (z2.trans z3)) rfl (fs2.ext (z2.trans z3)) rfl (fs4.ext (z2.trans z3)) rfl (ubl.ext (z2.trans z3)) rfl (ubn.ext (z2.trans z3)) rfl)
  ·
   rw [decide_eq_false h15]
   refine Gn 2 [] [] ?_
   obtain rfl := Option.some.inj h
   exact Goes.end_ (fn := Tryz.f48) (by kernel_rfl) (v := .tuple #[]) (by kernel_rfl) ⟨S1, u9y, e4v.place.length, ua0, ua1, ua2, e4v.list.length, ua4, ua5, rfl, hx, p1, ubl, rfl, ubn, rfl⟩
 ·
  intro uc0 uc1 ⟨x14, x15, x41, e4v, ubh, ubi⟩ r h S1 w1 hx u9y u9z ua0 ua1 ua2 ua3 ua4 ua5 p1 fs0 ls0 fs2 ls2 fs4 ls4 ubl ubm ubn ubo junk
  try dsimp only at h
  subst ls0
  subst ls2
  subst ls4
  subst ubm
  subst ubo
  refine ite_some h (fun h42 h => ?_) (fun h42 h => ?_)
  ·
   rw [h42]
   refine Gn 1 [] Jbk ?_
   obtain rfl := Option.some.inj h
   exact Goes.rt Tryz.f48 (.tuple #[]) ⟨S1, u9y, e4v.place.length, ua0, ua1, ua2, e4v.list.length, ua4, ua5, rfl, hx, p1, ubl, rfl, ubn, rfl⟩
  ·
   have uc2 : x41 = false := by simpa using h42
   rw [uc2]
   refine Gn 8 [(42, .i (wr .i64 (x15 + 1))), (15, .i (wr .i64 (x15 + 1)))] Jb3 ?_
   exact Gj 43 [(0, yieldV lx0), (1, (pt ubf 0)), (2, (pt ubg 0)), (13, .slice (Gp uba) ubh.now.list.length ubc), (14, .i x14), (15, .i (wr .i64 (x15 + 1)))] (uc1 _ _ h _ _ hx u9y e4v.place.length ua0 ua1 ua2 e4v.list.length ua4 ua5 p1 fs0 rfl fs2 rfl fs4 rfl ubl rfl ubn rfl)

theorem W.z1q {nz wz S0 w0 Lr} (lx0 : Nat) (rx0 : Nat) (uay : Nat → Value) (uaz : Nat) (ub0 : Nat) (ub1 : Option Nat) (ub2 : Nat) (ub3 : Nat) (ub4 : List Value) (ub5 : Nat) (ub6 : Option Nat) (ub7 : Nat) (ub8 : Nat) (ub9 : List Value) (uba : Option Nat) (ubb : Nat) (ubc : Nat) (ubd : List Value) (ube : Nat) (ubf : Nat) (ubg : Nat) : ∀ a r, M.sim_Runner_led_1_l0 a = some r → (L.z1q nz wz S0 w0 Lr lx0 rx0 uay uaz ub0 ub1 ub2 ub3 ub4 ub5 ub6 ub7 ub8 ub9 uba ubb ubc ubd ube ubf ubg) a r := (W.z1s lx0 rx0 uay uaz ub0 ub1 ub2 ub3 ub4 ub5 ub6 ub7 ub8 ub9 uba ubb ubc ubd ube ubf ubg).1

theorem W.z1r {nz wz S0 w0 Lr} (lx0 : Nat) (rx0 : Nat) (uay : Nat → Value) (uaz : Nat) (ub0 : Nat) (ub1 : Option Nat) (ub2 : Nat) (ub3 : Nat) (ub4 : List Value) (ub5 : Nat) (ub6 : Option Nat) (ub7 : Nat) (ub8 : Nat) (ub9 : List Value) (uba : Option Nat) (ubb : Nat) (ubc : Nat) (ubd : List Value) (ube : Nat) (ubf : Nat) (ubg : Nat) : ∀ a r, M.sim_Runner_led_1_l1 a = some r → (L.z1r nz wz S0 w0 Lr lx0 rx0 uay uaz ub0 ub1 ub2 ub3 ub4 ub5 ub6 ub7 ub8 ub9 uba ubb ubc ubd ube ubf ubg) a r := (W.z1s lx0 rx0 uay uaz ub0 ub1 ub2 ub3 ub4 ub5 ub6 ub7 ub8 ub9 uba ubb ubc ubd ube ubf ubg).2

def Jbl := Zs [1] B48 []
def Q7l := sub [0] B48
def Jbm := Zr Q7l [0, 1, 2, 3, 4, 5, 6, 7, 8] Jbl
def Jbn := Zr Q7l [3, 4, 5, 6, 7, 8] Jbl
def Jbo := Zr Q7l [6, 7, 8] Jbl

theorem W.z1p (ubh : T50) (ubi : Int) (r : T65) (h : M.sim_Runner_led_1 ubh ubi = some r) {nz wz S0 w0 Lr} (lx0 rx0 uay uaz ub0 ub1 ub2 ub3 ub4 ub5 ub6 ub7 ub8 ub9 uba ubb ubc ubd ube uc3 uc4 uc5 uc6 uc7 uc8 uc9 uca ubf ubg) (p0 : Hp nz wz S0 w0 ((some lx0, .obj (lpst 14 (lfr 42 [(2, (pt uaz 0)), (16, .func (.func 48) #[] #[(pt ubf 0), (pt ubg 0)])] uay) #[17] (rfAssign (Q77)) (rfBody (Q77)) rx0 .ready none)) :: (some uaz, .row 25 [(pt ub0 0)] 1 0) :: (some ub0, .row 51 [.slice (Gp ub1) ub2 ub3, (pt ub5 0), (pt ube 0)] 3 0) :: (ub1, .row 46 ub4 (ub3 * kT45.size) 0) :: (some ub5, .row 66 [.slice (Gp ub6) ub7 ub8, .slice (Gp uba) ubb ubc] 2 0) :: (ub6, .row 3 ub9 (ub8 * (kInt .i64).size) 0) :: (uba, .row 49 ubd (ubc * (kInt .i64).size) 0) :: (some ube, .row 66 [.slice (Gp uc3) uc4 uc5, .slice (Gp uc7) uc8 uc9] 2 0) :: (uc3, .row 3 uc6 (uc5 * (kInt .i64).size) 0) :: (uc7, .row 49 uca (uc9 * (kInt .i64).size) 0) :: (some ubf, .row 25 [(pt ub0 0)] 1 0) :: (some ubg, .row 5 [.int .u8 ubi] 1 0) :: Lr)) (ucb : Els kT45 S0 w0 ub4 ubh.l) (ucc : ubh.l.length = ub2) (ucd : Els (kInt .i64) S0 w0 ub9 ubh.now.place) (uce : ubh.now.place.length = ub7) (ucf : Els (kInt .i64) S0 w0 ubd ubh.now.list) (ucg : ubh.now.list.length = ubb) (uch : Els (kInt .i64) S0 w0 uc6 ubh.next.place) (uci : ubh.next.place.length = uc4) (ucj : Els (kInt .i64) S0 w0 uca ubh.next.list) (uck : ubh.next.list.length = uc8) :
  Calls Tryz.prog 48 #[yieldV lx0, (pt ubf 0), (pt ubg 0)] w0 (Rets (Post.z1p nz wz S0 w0 Lr lx0 rx0 uay uaz ub0 ub1 ub2 ub3 ub4 ub5 ub6 ub7 ub8 ub9 uba ubb ubc ubd ube ubf ubg ubh ubi r)) := by
 subst ucc
 subst uce
 subst ucg
 subst uci
 subst uck
 refine Zf Tryz.f48 B48 40 ?_
 refine Gj 43 [(0, yieldV lx0), (1, (pt ubf 0)), (2, (pt ubg 0))] fun junk => ?_
 delta M.sim_Runner_led_1 at h
 refine Gn 2 [] Jbm ?_
 refine Goes.ld 25 (.tmp 1) 7 25 ⟨ubf, 0, none⟩ ((pt ub0 0)) (p0.c 10 0) ?_
 refine Gn 2 [(8, (pt ub0 0)), (9, (pt ub0 1))] Jbn ?_
 refine Goes.ld 47 (.tmp 9) 10 47 ⟨ub0, 1, none⟩ ((pt ub5 0)) (p0.c 2 1) ?_
 refine Gn 2 [(11, (pt ub5 0)), (12, (pt ub5 1))] Jbo ?_
 refine Goes.ld 64 (.tmp 12) 13 64 ⟨ub5, 1, none⟩ (.slice (Gp uba) ubh.now.list.length ubc) (p0.c 4 1) ?_
 refine Gn 5 [(14, .i (ubh.now.list.length : Int)), (15, .i 0)] Jb3 ?_
 exact Gj 43 [(0, yieldV lx0), (1, (pt ubf 0)), (2, (pt ubg 0)), (13, .slice (Gp uba) ubh.now.list.length ubc), (14, .i (ubh.now.list.length : Int)), (15, .i 0)] (W.z1q lx0 rx0 uay uaz ub0 ub1 ubh.l.length ub3 ub4 ub5 ub6 ubh.now.place.length ub8 ub9 uba ubh.now.list.length ubc ubd ube ubf ubg _ _ h _ _ (Ext.refl S0 w0) uc3 ubh.next.place.length uc5 uc6 uc7 ubh.next.list.length uc9 uca p0 ucb rfl ucd rfl ucf rfl uch rfl ucj rfl)

def Jbp := Zs [1] B14 []
def Jbq := Zt [0] B14 [0, 1] Jbp
def Jbr := Zs [1, 1] B14 []
def Jbs := Zs [1, 0, 1] B14 Jbr
def Jbt := Zt [1, 0, 0] B14 [0, 1, 2] Jbs
def Jbu := Zs [1, 1, 1] B14 []
def Q7s := sub [1, 1, 0] B14
def Jbv := Zr Q7s [0, 1, 2, 3, 4] Jbu
def Jbw := Zr Q7s [3, 4] Jbu
def Jbx := Zs [1, 1, 1, 1] B14 []
def Jby := Zs [1, 1, 1, 0, 1] B14 Jbx
def Q7v := sub [1, 1, 1, 0, 0] B14
def Jbz := Zr Q7v [0, 1, 2] Jby
def Jc0 := Zr Q7v [2] Jby
def Jc1 := Zb 0 Jbx
def Jc2 := Zc Q77 Jc1
def Jc3 := Zs [1, 1, 1, 1, 1] B14 []
def Jc4 := Zs [1, 1, 1, 1, 0] B14 Jc3
def Jc5 := Zs [1, 1, 1, 1, 1, 1] B14 []
def Jc6 := Zt [1, 1, 1, 1, 1, 0] B14 [0, 1, 2, 3] Jc5

def Post.z1t (gx0 : Nat) (ul : Nat) (um : Option Nat) (un : Nat) (uo : Nat) (up : List Value) (uq : Option Nat) (ur : Nat) (ut : Nat) (uu : List Value) (uv : Nat) (x0v : T50) (r : Bool × (List T45) × T65) (v : Value) (w' : World) : Prop :=
 ∃ S' u1e u1f u1g u1h u90 u91 u92 u93 u94 u95 u96 u97, v = .bool r.1 ∧ Ext S0 w0 S' w' ∧ Hp nz wz S' w' ((some gx0, .row 51 [.slice (Gp u1e) u1f u1g, (pt uv 0), (pt ul 0)] 3 0) :: (u1e, .row 46 u1h (u1g * kT45.size) 0) :: (some ul, .row 66 [.slice (Gp um) un uo, .slice (Gp uq) ur ut] 2 0) :: (um, .row 3 up (uo * (kInt .i64).size) 0) :: (uq, .row 49 uu (ut * (kInt .i64).size) 0) :: (some uv, .row 66 [.slice (Gp u90) u91 u92, .slice (Gp u94) u95 u96] 2 0) :: (u90, .row 3 u93 (u92 * (kInt .i64).size) 0) :: (u94, .row 49 u97 (u96 * (kInt .i64).size) 0) :: Lr) ∧ Els kT45 S' w' u1h r.2.1 ∧ r.2.1.length = u1f ∧ Els (kInt .i64) S' w' u93 r.2.2.place ∧ r.2.2.place.length = u91 ∧ Els (kInt .i64) S' w' u97 r.2.2.list ∧ r.2.2.list.length = u95

theorem W.z1t (x0v : T50) (x1 : Int) (r : Bool × (List T45) × T65) (h : M.sim_Runner_Feed x0v x1 = some r) {nz wz S0 w0 Lr} (gx0 uh ui uj uk ul um un uo up uq ur ut uu uv uw ux uy uz u10 u11 u12 u13) (p0 : Hp nz wz S0 w0 ((some gx0, .row 51 [.slice (Gp uh) ui uj, (pt ul 0), (pt uv 0)] 3 0) :: (uh, .row 46 uk (uj * kT45.size) 0) :: (some ul, .row 66 [.slice (Gp um) un uo, .slice (Gp uq) ur ut] 2 0) :: (um, .row 3 up (uo * (kInt .i64).size) 0) :: (uq, .row 49 uu (ut * (kInt .i64).size) 0) :: (some uv, .row 66 [.slice (Gp uw) ux uy, .slice (Gp u10) u11 u12] 2 0) :: (uw, .row 3 uz (uy * (kInt .i64).size) 0) :: (u10, .row 49 u13 (u12 * (kInt .i64).size) 0) :: Lr)) (u14 : Els kT45 S0 w0 uk x0v.l) (u15 : x0v.l.length = ui) (u16 : Els (kInt .i64) S0 w0 up x0v.now.place) (u17 : x0v.now.place.length = un) (u18 : Els (kInt .i64) S0 w0 uu x0v.now.list) (u19 : x0v.now.list.length = ur) (u1a : Els (kInt .i64) S0 w0 uz x0v.next.place) (u1b : x0v.next.place.length = ux) (u1c : Els (kInt .i64) S0 w0 u13 x0v.next.list) (u1d : x0v.next.list.length = u11) :
  Calls Tryz.prog 14 #[(pt gx0 0), .int .u8 x1] w0 (Rets (Post.z1t nz wz S0 w0 Lr gx0 ul um un uo up uq ur ut uu uv x0v r)) := by
 subst u15
 subst u17
 subst u19
 subst u1b
 subst u1d
 refine Zf Tryz.f14 B14 40 ?_
 refine Gj 42 [(0, (pt gx0 0)), (1, .int .u8 x1)] fun junk => ?_
 delta M.sim_Runner_Feed at h
 refine Gn 2 [] Jbq ?_
 refine Op_.box 25 (.tmp 0) 2 0 ((pt gx0 0)) [(pt gx0 0)] p0 Goes.v (by kernel_rfl) (by kernel_rfl) ?_
 intro b9 w2 z2 p2
 refine Gn 5 [(4, .bool false)] Jbt ?_
 refine Goes.ld 25 (.tmp 2) 6 25 ⟨b9, 0, none⟩ ((pt gx0 0)) (p2.c 0 0) ?_
 have p2 := (((((((p2.fr 8).fr 8).fr 8).fr 8).fr 8).fr 8).fr 8).fr 8
 refine bind_some' h fun y11 e12 h => ?_
 refine Gc (kc 25 [6] #[25]) 7 4 25 _ (W.z7 x0v y11 e12 gx0 uh x0v.l.length uj uk ul um x0v.now.place.length uo up uq x0v.now.list.length ut uu uv uw x0v.next.place.length uy uz u10 x0v.next.list.length u12 u13 p2 (u14.ext z2) rfl (u16.ext z2) rfl (u18.ext z2) rfl (u1a.ext z2) rfl (u1c.ext z2) rfl) ?_
 rintro _ w3 ⟨S3, rfl, z3, p3⟩
 refine Gn 6 [(8, .bool (!true))] Jbv ?_
 refine Goes.ld 25 (.tmp 2) 9 25 ⟨b9, 0, none⟩ ((pt gx0 0)) (p3.c 8 0) ?_
 refine Gn 2 [(10, (pt gx0 0)), (11, (pt gx0 2))] Jbw ?_
 refine Goes.ld 47 (.tmp 11) 12 47 ⟨gx0, 2, none⟩ ((pt uv 0)) (p3.c 0 2) ?_
 have p3 := ((p3.fr 7).fr 7).fr 7
 refine bind_some' h fun y13 e14 h => ?_
 refine Gc (kc 29 [12] #[47]) 13 0 29 _ (W.z8 x0v.next y13 e14 uv uw x0v.next.place.length uy uz u10 x0v.next.list.length u12 u13 p3 (u1a.ext (z2.trans z3)) rfl (u1c.ext (z2.trans z3)) rfl) ?_
 rintro _ w4 ⟨S4, ucl, ucm, ucn, uco, ucp, ucq, ucr, ucs, rfl, z4, p4, uct, rfl, ucu, rfl⟩
 refine Gn 4 [] Jbz ?_
 refine Goes.ld 25 (.tmp 2) 14 25 ⟨b9, 0, none⟩ ((pt gx0 0)) (p4.c 8 0) ?_
 refine Gn 1 [(15, .int .u8 x1)] Jc0 ?_
 have p4 := (((((((p4.fr 2).fr 2).fr 2).fr 7).fr 7).fr 7).fr 7).fr 7
 refine bind_some' h fun y17 e18 h => ?_
 refine Gc (kc 31 [14, 15] #[25, 5]) 16 72 31 _ (W.z1k (⟨x0v.l, x0v.now, y13⟩ : T50) x1 y17 e18 gx0 uh x0v.l.length uj uk ul um x0v.now.place.length uo up uq x0v.now.list.length ut uu uv ucl y13.place.length ucn uco ucp y13.list.length ucr ucs p4 (u14.ext ((z2.trans z3).trans z4)) rfl (u16.ext ((z2.trans z3).trans z4)) rfl (u18.ext ((z2.trans z3).trans z4)) rfl uct rfl ucu rfl) ?_
 rintro _ w5 ⟨S5, ucv, ucw, rfl, z5, p5⟩
 refine Gn 2 [] Jc2 ?_
 refine Gj 42 [(2, (pt b9 0)), (16, .func (.func 48) #[] #[(pt ucv 0), (pt ucw 0)])] (fun ucx => ?_)
 refine Goes.rangeF (f := 14) (.tmp 16) #[17] 48 #[] #[(pt ucv 0), (pt ucw 0)] (by kernel_rfl) (by kernel_rfl) (fun _ => by kernel_rfl) p5 ?_
 intro r22 l23 w6 z6 p6
 have p6 := (((((((((((p6.fr 3).fr 3).fr 11).fr 11).fr 11).fr 11).fr 11).fr 11).fr 11).fr 11).fr 12).fr 11
 refine bind_some' h fun y26 e27 h => ?_
 refine ⟨_, W.z1p (⟨x0v.l, x0v.now, y13⟩ : T50) y17 y26 e27 l23 r22 ucx b9 gx0 uh x0v.l.length uj uk ul um x0v.now.place.length uo up uq x0v.now.list.length ut uu uv ucl y13.place.length ucn uco ucp y13.list.length ucr ucs ucv ucw p6 (u14.ext ((((z2.trans z3).trans z4).trans z5).trans z6)) rfl (u16.ext ((((z2.trans z3).trans z4).trans z5).trans z6)) rfl (u18.ext ((((z2.trans z3).trans z4).trans z5).trans z6)) rfl (uct.ext (z5.trans z6)) rfl (ucu.ext (z5.trans z6)) rfl, ?_⟩
 rintro _ w7 ⟨S7, ucy, ucz, ud0, ud1, ud2, ud3, ud4, ud5, rfl, z7, p7, ud6, rfl, ud7, rfl⟩
 refine Goes.endF 0 p7 rfl rfl ?_
 intro w8 z8 p8
 replace p8 : Hp nz wz S7 w8 ((some b9, .row 25 [(pt gx0 0)] 1 0) :: (some gx0, .row 51 [.slice (Gp uh) x0v.l.length uj, (pt ul 0), (pt uv 0)] 3 0) :: (uh, .row 46 uk (uj * kT45.size) 0) :: (some ul, .row 66 [.slice (Gp um) x0v.now.place.length uo, .slice (Gp uq) x0v.now.list.length ut] 2 0) :: (um, .row 3 up (uo * (kInt .i64).size) 0) :: (uq, .row 49 uu (ut * (kInt .i64).size) 0) :: (some uv, .row 66 [.slice (Gp ucy) y26.place.length ud0, .slice (Gp ud2) y26.list.length ud4] 2 0) :: (ucy, .row 3 ud1 (ud0 * (kInt .i64).size) 0) :: (ud2, .row 49 ud5 (ud4 * (kInt .i64).size) 0) :: (some ucv, .row 25 [(pt gx0 0)] 1 0) :: (some ucw, .row 5 [.int .u8 y17] 1 0) :: (some r22, .obj (.deferred (some []))) :: Lr) := (p8.front 0 _ rfl).drop
 show Goes _ _ Jc1 _ _ _
 refine Gn 2 [] Jc4 ?_
 have z9 : Ext S7 w8 S7 (w8).drew := Ext.draw
 have p9 := p8.draw
 refine Goes.drawn (s := [15]) (F := Fc S7 (w8).drew [(⟨b9, 0, none⟩, (pt gx0 0)), (⟨gx0, 2, none⟩, (pt uv 0))]) 7 16 (by kernel_rfl) (by kernel_rfl) (by kernel_rfl) (by kernel_rfl) ?_
 generalize (w8).drew = w9 at z9 p9 ⊢
 refine AnyG.ld1 (i := 0) 25 (.tmp 2) 25 25 ⟨b9, 0, none⟩ ((pt gx0 0)) (by kernel_rfl) (by kernel_rfl) (Fc.here (p9.cs [(0, 0, 1), (1, 2, 1)])) (by kernel_rfl) (by kernel_rfl) (fun _ h => h.2.at_ 0 rfl) ?_
 refine AnyG.ld1 (i := 1) 25 (.tmp 2) 26 25 ⟨b9, 0, none⟩ ((pt gx0 0)) (by kernel_rfl) (by kernel_rfl) (Fc.here (p9.cs [(0, 0, 1), (1, 2, 1)])) (by kernel_rfl) (by kernel_rfl) (fun _ h => h.2.at_ 0 rfl) ?_
 refine AnyG.ld1 (i := 2) 25 (.tmp 2) 27 25 ⟨b9, 0, none⟩ ((pt gx0 0)) (by kernel_rfl) (by kernel_rfl) (Fc.here (p9.cs [(0, 0, 1), (1, 2, 1)])) (by kernel_rfl) (by kernel_rfl) (fun _ h => h.2.at_ 0 rfl) ?_
 refine AnyG.pu 3 (.nilCheck (.tmp 27)) 28 0 ((pt gx0 0)) (Fc.here (p9.cs [(0, 0, 1), (1, 2, 1)])) ?_
 refine AnyG.pu 4 (.fieldAddr 51 (.tmp 28) 2) 29 0 ((pt gx0 2)) (Fc.here (p9.cs [(0, 0, 1), (1, 2, 1)])) ?_
 refine AnyG.ld1 (i := 5) 47 (.tmp 29) 30 47 ⟨gx0, 2, none⟩ ((pt uv 0)) (by kernel_rfl) (by kernel_rfl) (Fc.here (p9.cs [(0, 0, 1), (1, 2, 1)])) (by kernel_rfl) (by kernel_rfl) (fun _ h => h.2.at_ 1 rfl) ?_
 refine AnyG.ld1 (i := 6) 25 (.tmp 2) 31 25 ⟨b9, 0, none⟩ ((pt gx0 0)) (by kernel_rfl) (by kernel_rfl) (Fc.here (p9.cs [(0, 0, 1), (1, 2, 1)])) (by kernel_rfl) (by kernel_rfl) (fun _ h => h.2.at_ 0 rfl) ?_
 refine AnyG.pu 7 (.nilCheck (.tmp 31)) 32 0 ((pt gx0 0)) (Fc.here (p9.cs [(0, 0, 1), (1, 2, 1)])) ?_
 refine AnyG.pu 8 (.fieldAddr 51 (.tmp 32) 1) 33 0 ((pt gx0 1)) (Fc.here (p9.cs [(0, 0, 1), (1, 2, 1)])) ?_
 refine Op_.ld1 47 (.tmp 33) 34 47 ⟨gx0, 1, none⟩ ((pt ul 0)) (AnyG.vs (i := 9) (by kernel_rfl) (by kernel_rfl)) (by kernel_rfl) (by kernel_rfl) (p9.c 1 1) ?_
 refine AnyG.next (Ext.refl _ _) ⟨(p9.c 0 0), (p9.c 1 2), trivial⟩ ?_
 refine AnyG.pu 10 (.nilCheck (.tmp 25)) 35 0 ((pt gx0 0)) (Fc.here (p9.cs [(0, 0, 1), (1, 2, 1)])) ?_
 refine AnyG.pu 11 (.fieldAddr 51 (.tmp 35) 1) 36 0 ((pt gx0 1)) (Fc.here (p9.cs [(0, 0, 1), (1, 2, 1)])) ?_
 refine So 47 (.tmp 36) (.tmp 30) 0 1 gx0 1 ((pt uv 0)) [(pt uv 0)] p9 rfl (AnyG.ss (i := 12) (by kernel_rfl) (by kernel_rfl)) ?_
 intro w10 z10 p10
 have p10 : Hp nz wz S7 w10 ((some b9, .row 25 [(pt gx0 0)] 1 0) :: (some gx0, .row 51 [.slice (Gp uh) x0v.l.length uj, (pt uv 0), (pt uv 0)] 3 0) :: (uh, .row 46 uk (uj * kT45.size) 0) :: (some ul, .row 66 [.slice (Gp um) x0v.now.place.length uo, .slice (Gp uq) x0v.now.list.length ut] 2 0) :: (um, .row 3 up (uo * (kInt .i64).size) 0) :: (uq, .row 49 uu (ut * (kInt .i64).size) 0) :: (some uv, .row 66 [.slice (Gp ucy) y26.place.length ud0, .slice (Gp ud2) y26.list.length ud4] 2 0) :: (ucy, .row 3 ud1 (ud0 * (kInt .i64).size) 0) :: (ud2, .row 49 ud5 (ud4 * (kInt .i64).size) 0) :: (some ucv, .row 25 [(pt gx0 0)] 1 0) :: (some ucw, .row 5 [.int .u8 y17] 1 0) :: (some r22, .obj (.deferred (some []))) :: Lr) := p10
 refine AnyG.next z10 ⟨(p10.c 0 0), (p10.c 1 2), trivial⟩ ?_
 refine AnyG.pu 13 (.nilCheck (.tmp 26)) 37 0 ((pt gx0 0)) (Fc.here (p10.cs [(0, 0, 1), (1, 2, 1)])) ?_
 refine AnyG.pu 14 (.fieldAddr 51 (.tmp 37) 2) 38 0 ((pt gx0 2)) (Fc.here (p10.cs [(0, 0, 1), (1, 2, 1)])) ?_
 refine So 47 (.tmp 38) (.tmp 34) 0 1 gx0 2 ((pt ul 0)) [(pt ul 0)] p10 rfl (AnyG.ss (i := 15) (by kernel_rfl) (by kernel_rfl)) ?_
 intro w11 z11 p11
 have p11 : Hp nz wz S7 w11 ((some b9, .row 25 [(pt gx0 0)] 1 0) :: (some gx0, .row 51 [.slice (Gp uh) x0v.l.length uj, (pt uv 0), (pt ul 0)] 3 0) :: (uh, .row 46 uk (uj * kT45.size) 0) :: (some ul, .row 66 [.slice (Gp um) x0v.now.place.length uo, .slice (Gp uq) x0v.now.list.length ut] 2 0) :: (um, .row 3 up (uo * (kInt .i64).size) 0) :: (uq, .row 49 uu (ut * (kInt .i64).size) 0) :: (some uv, .row 66 [.slice (Gp ucy) y26.place.length ud0, .slice (Gp ud2) y26.list.length ud4] 2 0) :: (ucy, .row 3 ud1 (ud0 * (kInt .i64).size) 0) :: (ud2, .row 49 ud5 (ud4 * (kInt .i64).size) 0) :: (some ucv, .row 25 [(pt gx0 0)] 1 0) :: (some ucw, .row 5 [.int .u8 y17] 1 0) :: (some r22, .obj (.deferred (some []))) :: Lr) := p11
 refine AnyG.last [] (Fc S7 w11 []) (by decide) ?_
 refine AnyG.done (by kernel_rfl) ?_ _
 have p11 := (p11.dp 9).dp 9
 refine Gn 2 [] Jc6 ?_
 refine Goes.ld 25 (.tmp 2) 39 25 ⟨b9, 0, none⟩ ((pt gx0 0)) (p11.c 0 0) ?_
 have p11 := (((((((p11.fr 5).fr 5).fr 5).fr 8).fr 8).fr 8).fr 8).fr 8
 refine bind_some' h fun y30 e31 h => ?_
 refine Gc (kc 10 [39] #[25]) 40 4 10 _ (W.z1e (⟨x0v.l, y26, x0v.now⟩ : T50) y30 e31 gx0 uh x0v.l.length uj uk uv ucy y26.place.length ud0 ud1 ud2 y26.list.length ud4 ud5 ul um x0v.now.place.length uo up uq x0v.now.list.length ut uu p11 (u14.ext (((((((((z2.trans z3).trans z4).trans z5).trans z6).trans z7).trans z8).trans z9).trans z10).trans z11)) rfl (ud6.ext (((z8.trans z9).trans z10).trans z11)) rfl (ud7.ext (((z8.trans z9).trans z10).trans z11)) rfl (u16.ext (((((((((z2.trans z3).trans z4).trans z5).trans z6).trans z7).trans z8).trans z9).trans z10).trans z11)) rfl (u18.ext (((((((((z2.trans z3).trans z4).trans z5).trans z6).trans z7).trans z8).trans z9).trans z10).trans z11)) rfl) ?_
 rintro _ w12 ⟨S12, rfl, z12, p12⟩
 have p12 := p12.dp 8
 refine Gn 3 [(41, .bool (!y30)), (4, .bool (!y30))] Jc5 ?_
 obtain rfl := Option.some.inj h
 have p12 := ((((((((p12.fr 4).fr 4).fr 4).fr 7).fr 7).fr 7).fr 7).fr 7).fr 8
 refine Goes.retL ?_
 refine lvs_mark 0 rfl rfl p12 rfl ?_
 intro w13 z13 p13
 replace p13 : Hp nz wz S12 w13 ((some gx0, .row 51 [.slice (Gp uh) x0v.l.length uj, (pt uv 0), (pt ul 0)] 3 0) :: (uh, .row 46 uk (uj * kT45.size) 0) :: (some ul, .row 66 [.slice (Gp um) x0v.now.place.length uo, .slice (Gp uq) x0v.now.list.length ut] 2 0) :: (um, .row 3 up (uo * (kInt .i64).size) 0) :: (uq, .row 49 uu (ut * (kInt .i64).size) 0) :: (some uv, .row 66 [.slice (Gp ucy) y26.place.length ud0, .slice (Gp ud2) y26.list.length ud4] 2 0) :: (ucy, .row 3 ud1 (ud0 * (kInt .i64).size) 0) :: (ud2, .row 49 ud5 (ud4 * (kInt .i64).size) 0) :: Lr) := p13.drop
 exact lvs_done (fn := Tryz.f14) rfl rfl rfl rfl (by kernel_rfl) (v := .bool (!y30)) (by kernel_rfl) ⟨S12, uh, x0v.l.length, uj, uk, ucy, y26.place.length, ud0, ud1, ud2, y26.list.length, ud4, ud5, rfl, (((((((((((((Ext.refl S0 w0).trans z2).trans z3).trans z4).trans z5).trans z6).trans z7).trans z8).trans z9).trans z10).trans z11).trans z12).trans z13), p13, (u14.ext (((((((((((z2.trans z3).trans z4).trans z5).trans z6).trans z7).trans z8).trans z9).trans z10).trans z11).trans z12).trans z13)), rfl, (ud6.ext (((((z8.trans z9).trans z10).trans z11).trans z12).trans z13)), rfl, (ud7.ext (((((z8.trans z9).trans z10).trans z11).trans z12).trans z13)), rfl⟩

def Jc7 := Zs [1, 1] B74 []
def Jc8 := Zs [1, 0, 1] B74 Jc7
def Jc9 := Zs [1, 0, 1, 0, 1] B74 Jc7
def Jca := Zs [1, 1, 1] B74 []
def Jcb := Zs [1, 1, 0] B74 Jca

def Post.z1u (gx0 : Nat) (r : Int × T78) (v : Value) (w' : World) : Prop :=
 ∃ S' ud8, v = .int .u8 r.1 ∧ Ext S0 w0 S' w' ∧ Hp nz wz S' w' ((some gx0, .row 79 [.string r.2.s, .i r.2.at_, .i r.2.deep, ud8] 4 0) :: Lr) ∧ PtO kT82 S' w' ud8 r.2.bad

def L.z1v (gx0 : Nat) : Bool × T78 → (Int × T78) → Prop := fun ⟨x19, e0v⟩ r => ∀ S1 w1, Ext S0 w0 S1 w1 → ∀ ud8 (_ : Hp nz wz S1 w1 ((some gx0, .row 79 [.string e0v.s, .i e0v.at_, .i e0v.deep, ud8] 4 0) :: Lr)) (_ : PtO kT82 S1 w1 ud8 e0v.bad) (junk : Nat → Value),
 Goes Tryz.prog (base 74) Jc8 ⟨lfr 29 [(0, (pt gx0 0)), (19, .bool x19)] junk, []⟩ w1 (Done Tryz.prog 74 (Rets (Post.z1u nz wz S0 w0 Lr gx0 r)))

theorem W.z1v {nz wz S0 w0 Lr} (gx0 : Nat) : ∀ a r, M.syntax_parser_peek_l0 a = some r → L.z1v nz wz S0 w0 Lr gx0 a r := by
 intro ⟨x19, e0v⟩ r h S1 w1 hx ud8 p1 ud9 junk
 rw [M.syntax_parser_peek_l0] at h
 try dsimp only at h
 refine ite_some h (fun h9 h => ?_) (fun h9 h => ?_)
 ·
  rw [h9]
  refine Gn 5 [(2, .int .u8 0)] Jc9 ?_
  obtain rfl := Option.some.inj h
  exact Goes.rt Tryz.f74 (.int .u8 0) ⟨S1, ud8, rfl, hx, p1, ud9⟩
 ·
  have h9' : x19 = false := by simpa using h9
  rw [h9']
  refine Gn 3 [] Jcb ?_
  have z3 : Ext S1 w1 S1 (w1).drew := Ext.draw
  have p3 := p1.draw
  refine Goes.drawn (s := []) (F := Fc S1 (w1).drew [(⟨gx0, 0, none⟩, .string e0v.s), (⟨gx0, 1, none⟩, .i e0v.at_)]) 3 10 (by kernel_rfl) (by kernel_rfl) (by kernel_rfl) (by kernel_rfl) ?_
  generalize (w1).drew = w3 at z3 p3 ⊢
  refine AnyG.pu 0 (.move (.tmp 0)) 20 76 ((pt gx0 0)) (Fc.here (p3.cs [(0, 0, 2)])) ?_
  refine AnyG.pu 1 (.nilCheck (.tmp 20)) 21 0 ((pt gx0 0)) (Fc.here (p3.cs [(0, 0, 2)])) ?_
  refine AnyG.pu 2 (.fieldAddr 79 (.tmp 21) 0) 22 0 ((pt gx0 0)) (Fc.here (p3.cs [(0, 0, 2)])) ?_
  refine AnyG.ld1 (i := 3) 9 (.tmp 22) 23 9 ⟨gx0, 0, none⟩ (.string e0v.s) (by kernel_rfl) (by kernel_rfl) (Fc.here (p3.cs [(0, 0, 2)])) (by kernel_rfl) (by kernel_rfl) (fun _ h => h.2.at_ 0 rfl) ?_
  refine AnyG.pu 4 (.move (.tmp 0)) 24 76 ((pt gx0 0)) (Fc.here (p3.cs [(0, 0, 2)])) ?_
  refine AnyG.pu 5 (.nilCheck (.tmp 24)) 25 0 ((pt gx0 0)) (Fc.here (p3.cs [(0, 0, 2)])) ?_
  refine AnyG.pu 6 (.fieldAddr 79 (.tmp 25) 1) 26 0 ((pt gx0 1)) (Fc.here (p3.cs [(0, 0, 2)])) ?_
  refine AnyG.ld1 (i := 7) 3 (.tmp 26) 27 3 ⟨gx0, 1, none⟩ (.i e0v.at_) (by kernel_rfl) (by kernel_rfl) (Fc.here (p3.cs [(0, 0, 2)])) (by kernel_rfl) (by kernel_rfl) (fun _ h => h.2.at_ 1 rfl) ?_
  refine guard_some' h fun g10 h => ?_
  refine guard_some' h fun g11 h => ?_
  refine AnyG.ixS (i := 8) 9 (.tmp 23) (.tmp 27) 28 5 .i64 e0v.s e0v.at_ (by kernel_rfl) (by kernel_rfl) (Fc.here (p3.cs [(0, 0, 2)])) (by kernel_rfl) (by kernel_rfl) (by kernel_rfl) g10 g11 ?_
  refine AnyG.pu 9 (.assign (.tmp 28)) 2 5 (.int .u8 (bt e0v.s e0v.at_)) (Fc.here (p3.cs [(0, 0, 2)])) ?_
  refine AnyG.done (by kernel_rfl) ?_ _
  obtain rfl := Option.some.inj h
  exact Goes.rt Tryz.f74 (.int .u8 (bt e0v.s e0v.at_)) ⟨S1, ud8, rfl, (hx.trans z3), p3, (ud9.ext z3)⟩

def Jcc := Zs [1, 0, 0] B74 Jc8

theorem W.z1u (x0v : T78) (r : Int × T78) (h : M.syntax_parser_peek x0v = some r) {nz wz S0 w0 Lr} (gx0 uda) (p0 : Hp nz wz S0 w0 ((some gx0, .row 79 [.string x0v.s, .i x0v.at_, .i x0v.deep, uda] 4 0) :: Lr)) (udb : PtO kT82 S0 w0 uda x0v.bad) :
  Calls Tryz.prog 74 #[(pt gx0 0)] w0 (Rets (Post.z1u nz wz S0 w0 Lr gx0 r)) := by
 refine Zf Tryz.f74 B74 28 ?_
 refine Gj 29 [(0, (pt gx0 0))] fun junk => ?_
 delta M.syntax_parser_peek at h
 refine Gn 6 [(2, .int .u8 0)] Jcc ?_
 have z2 : Ext S0 w0 S0 (w0).drew := Ext.draw
 have p2 := p0.draw
 refine Goes.drawn (s := []) (F := Fc S0 (w0).drew [(⟨gx0, 3, none⟩, uda), (⟨gx0, 1, none⟩, .i x0v.at_), (⟨gx0, 0, none⟩, .string x0v.s)]) 1 17 (by kernel_rfl) (by kernel_rfl) (by kernel_rfl) (by kernel_rfl) ?_
 generalize (w0).drew = w2 at z2 p2 ⊢
 refine AnyG.pu 0 (.move (.tmp 0)) 3 76 ((pt gx0 0)) (Fc.here (p2.cs [(0, 3, 1), (0, 1, 1), (0, 0, 1)])) ?_
 refine AnyG.pu 1 (.nilCheck (.tmp 3)) 4 0 ((pt gx0 0)) (Fc.here (p2.cs [(0, 3, 1), (0, 1, 1), (0, 0, 1)])) ?_
 refine AnyG.pu 2 (.fieldAddr 79 (.tmp 4) 3) 5 0 ((pt gx0 3)) (Fc.here (p2.cs [(0, 3, 1), (0, 1, 1), (0, 0, 1)])) ?_
 refine AnyG.ld1 (i := 3) 77 (.tmp 5) 6 77 ⟨gx0, 3, none⟩ (uda) (by kernel_rfl) (by kernel_rfl) (Fc.here (p2.cs [(0, 3, 1), (0, 1, 1), (0, 0, 1)])) (by kernel_rfl) (by kernel_rfl) (fun _ h => h.2.at_ 0 rfl) ?_
 refine let_some h fun v8 h2 h => ?_
 rcases v8 with _ | y3
 ·
  try dsimp only at h
  obtain rfl := PtO.nil (udb.ext z2) h2
  refine AnyG.pu 4 (.binOp .neq 77 (.tmp 6) (.const (.pointer none)) 77) 7 4 (.bool false) (Fc.here (p2.cs [(0, 3, 1), (0, 1, 1), (0, 0, 1)])) ?_
  refine AnyG.pu 5 (.move (.tmp 7)) 8 4 (.bool false) (Fc.here (p2.cs [(0, 3, 1), (0, 1, 1), (0, 0, 1)])) ?_
  refine AnyG.pu 6 (.move (.tmp 0)) 9 76 ((pt gx0 0)) (Fc.here (p2.cs [(0, 3, 1), (0, 1, 1), (0, 0, 1)])) ?_
  refine AnyG.pu 7 (.nilCheck (.tmp 9)) 10 0 ((pt gx0 0)) (Fc.here (p2.cs [(0, 3, 1), (0, 1, 1), (0, 0, 1)])) ?_
  refine AnyG.pu 8 (.fieldAddr 79 (.tmp 10) 1) 11 0 ((pt gx0 1)) (Fc.here (p2.cs [(0, 3, 1), (0, 1, 1), (0, 0, 1)])) ?_
  refine AnyG.ld1 (i := 9) 3 (.tmp 11) 12 3 ⟨gx0, 1, none⟩ (.i x0v.at_) (by kernel_rfl) (by kernel_rfl) (Fc.here (p2.cs [(0, 3, 1), (0, 1, 1), (0, 0, 1)])) (by kernel_rfl) (by kernel_rfl) (fun _ h => h.2.at_ 1 rfl) ?_
  refine AnyG.pu 10 (.move (.tmp 0)) 13 76 ((pt gx0 0)) (Fc.here (p2.cs [(0, 3, 1), (0, 1, 1), (0, 0, 1)])) ?_
  refine AnyG.pu 11 (.nilCheck (.tmp 13)) 14 0 ((pt gx0 0)) (Fc.here (p2.cs [(0, 3, 1), (0, 1, 1), (0, 0, 1)])) ?_
  refine AnyG.pu 12 (.fieldAddr 79 (.tmp 14) 0) 15 0 ((pt gx0 0)) (Fc.here (p2.cs [(0, 3, 1), (0, 1, 1), (0, 0, 1)])) ?_
  refine AnyG.ld1 (i := 13) 9 (.tmp 15) 16 9 ⟨gx0, 0, none⟩ (.string x0v.s) (by kernel_rfl) (by kernel_rfl) (Fc.here (p2.cs [(0, 3, 1), (0, 1, 1), (0, 0, 1)])) (by kernel_rfl) (by kernel_rfl) (fun _ h => h.2.at_ 2 rfl) ?_
  refine AnyG.pu 14 (.call { callee := .builtin .len, args := #[(.tmp 16)], argTypes := #[9] }) 17 3 (.i (x0v.s.size : Int)) (Fc.here (p2.cs [(0, 3, 1), (0, 1, 1), (0, 0, 1)])) ?_
  refine AnyG.pu 15 (.binOp .geq 3 (.tmp 12) (.tmp 17) 3) 18 4 (.bool (decide (x0v.at_ ≥ (x0v.s.size : Int)))) (Fc.here (p2.cs [(0, 3, 1), (0, 1, 1), (0, 0, 1)])) ?_
  refine AnyG.pu 16 (.pick (.tmp 8) (.const (.bool true)) (.tmp 18)) 19 4 (.bool (decide (x0v.at_ ≥ (x0v.s.size : Int)))) (Fc.here (p2.cs [(0, 3, 1), (0, 1, 1), (0, 0, 1)])) ?_
  refine AnyG.done (by kernel_rfl) ?_ _
  exact Gj 29 [(0, (pt gx0 0)), (19, .bool (decide (x0v.at_ ≥ (x0v.s.size : Int))))] (W.z1v gx0 _ _ h _ _ ((Ext.refl S0 w0).trans z2) (.pointer none) p2 rfl)
 ·
  try dsimp only at h
  obtain ⟨a5, _, rfl, -, f6, q7⟩ := PtO.got (udb.ext z2) h2
  obtain rfl := q7
  refine AnyG.pu 4 (.binOp .neq 77 (.tmp 6) (.const (.pointer none)) 77) 7 4 (.bool true) (Fc.here (p2.cs [(0, 3, 1), (0, 1, 1), (0, 0, 1)])) ?_
  refine AnyG.pu 5 (.move (.tmp 7)) 8 4 (.bool true) (Fc.here (p2.cs [(0, 3, 1), (0, 1, 1), (0, 0, 1)])) ?_
  refine AnyG.s1 6 9 (Fc.here (p2.cs [(0, 3, 1), (0, 1, 1), (0, 0, 1)])) ?_
  refine AnyG.s1 7 10 (Fc.here (p2.cs [(0, 3, 1), (0, 1, 1), (0, 0, 1)])) ?_
  refine AnyG.s1 8 11 (Fc.here (p2.cs [(0, 3, 1), (0, 1, 1), (0, 0, 1)])) ?_
  refine AnyG.s1 9 12 (Fc.here (p2.cs [(0, 3, 1), (0, 1, 1), (0, 0, 1)])) ?_
  refine AnyG.s1 10 13 (Fc.here (p2.cs [(0, 3, 1), (0, 1, 1), (0, 0, 1)])) ?_
  refine AnyG.s1 11 14 (Fc.here (p2.cs [(0, 3, 1), (0, 1, 1), (0, 0, 1)])) ?_
  refine AnyG.s1 12 15 (Fc.here (p2.cs [(0, 3, 1), (0, 1, 1), (0, 0, 1)])) ?_
  refine AnyG.s1 13 16 (Fc.here (p2.cs [(0, 3, 1), (0, 1, 1), (0, 0, 1)])) ?_
  refine AnyG.s1 14 17 (Fc.here (p2.cs [(0, 3, 1), (0, 1, 1), (0, 0, 1)])) ?_
  refine AnyG.s1 15 18 (Fc.here (p2.cs [(0, 3, 1), (0, 1, 1), (0, 0, 1)])) ?_
  refine AnyG.pu 16 (.pick (.tmp 8) (.const (.bool true)) (.tmp 18)) 19 4 (.bool true) (Fc.here (p2.cs [(0, 3, 1), (0, 1, 1), (0, 0, 1)])) ?_
  refine AnyG.done (by kernel_rfl) ?_ _
  exact Gj 29 [(0, (pt gx0 0)), (19, .bool true)] (W.z1v gx0 _ _ h _ _ ((Ext.refl S0 w0).trans z2) (.pointer (some a5)) p2 ⟨_, _, rfl, List.cons_ne_nil _ _, f6, rfl⟩)

def Jcd := Zs [1] B37 []
def Jce := Zt [0] B37 [0] Jcd
def Jcf := Zs [1, 1] B37 []
def Jcg := Zs [1, 0, 1] B37 Jcf
def Jch := Zt [1, 0, 0] B37 [3, 4] Jcg
def Q8b := sub [1, 0, 1, 0] B37
def Jci := Zr Q8b [3, 4, 5, 6] Jcf
def Jcj := Zr Q8b [6] Jcf
def Jck := Zs [1, 1, 1] B37 []
def Jcl := Zt [1, 1, 0] B37 [1] Jck

def Post.z1w (gx0 : Nat) (r : T57 × T78) (v : Value) (w' : World) : Prop :=
 ∃ S' udc udd ude ud8, v = (ag (.i r.1.Kind :: U4 r.1.Set [.slice udc udd ude, .i r.1.Min, .i r.1.Max])) ∧ Ext S0 w0 S' w' ∧ Hp nz wz S' w' ((some gx0, .row 79 [.string r.2.s, .i r.2.at_, .i r.2.deep, ud8] 4 0) :: Lr) ∧ r.1.Set.length = 4 ∧ Rd kT57 S' w' udc ude r.1.L ∧ r.1.L.length = udd ∧ PtO kT82 S' w' ud8 r.2.bad

theorem W.z1w (x0v : T78) (x1 : Int) (r : T57 × T78) (h : M.syntax_parser_fail x0v x1 = some r) {nz wz S0 w0 Lr} (gx0 uda) (p0 : Hp nz wz S0 w0 ((some gx0, .row 79 [.string x0v.s, .i x0v.at_, .i x0v.deep, uda] 4 0) :: Lr)) (udb : PtO kT82 S0 w0 uda x0v.bad) :
  Calls Tryz.prog 37 #[(pt gx0 0), .i x1] w0 (Rets (Post.z1w nz wz S0 w0 Lr gx0 r)) := by
 refine Zf Tryz.f37 B37 15 ?_
 refine Gj 17 [(0, (pt gx0 0)), (1, .i x1)] fun junk => ?_
 delta M.syntax_parser_fail at h
 refine Gn 2 [] Jce ?_
 refine Op_.alloc 58 4 0 (.agg #[.i 0, .u 0, .u 0, .u 0, .u 0, .slice none 0 0, .i 0, .i 0]) [.i 0, .u 0, .u 0, .u 0, .u 0, .slice none 0 0, .i 0, .i 0] p0 Goes.v (by kernel_rfl) (by kernel_rfl) ?_
 intro b2 w2 z2 p2
 refine Gn 7 [(5, (pt gx0 0)), (6, (pt gx0 0)), (7, (pt gx0 3))] Jch ?_
 refine Goes.ld 77 (.tmp 7) 8 77 ⟨gx0, 3, none⟩ (uda) (p2.c 1 3) ?_
 refine let_some h fun v13 h4 h => ?_
 rcases v13 with _ | y5
 ·
  try dsimp only at h
  obtain rfl := PtO.nil (udb.ext z2) h4
  refine Gn 7 [(9, .bool true), (10, (pt gx0 0)), (11, .i x1), (12, .agg #[.i x1])] Jci ?_
  refine Op_.box 83 (.tmp 12) 13 77 (.agg #[.i x1]) [.i x1] p2 Goes.v (by kernel_rfl) (by kernel_rfl) ?_
  intro b10 w3 z3 p3
  refine Gn 2 [(14, (pt gx0 0)), (15, (pt gx0 3))] Jcj ?_
  refine So 77 (.tmp 15) (.tmp 13) 0 2 gx0 3 ((pt b10 0)) [(pt b10 0)] p3 rfl Goes.s ?_
  intro w4 z4 p4
  have p4 : Hp nz wz S0 w4 ((some b10, .row 83 [.i x1] 1 0) :: (some b2, .row 58 [.i 0, .u 0, .u 0, .u 0, .u 0, .slice none 0 0, .i 0, .i 0] 8 0) :: (some gx0, .row 79 [.string x0v.s, .i x0v.at_, .i x0v.deep, (pt b10 0)] 4 0) :: Lr) := p4
  refine Gn 4 [(16, .agg #[.i 0, .u 0, .u 0, .u 0, .u 0, .slice none 0 0, .i 0, .i 0])] Jcl ?_
  refine So 58 (.tmp 4) (.tmp 16) 0 1 b2 0 (.agg #[.i 0, .u 0, .u 0, .u 0, .u 0, .slice none 0 0, .i 0, .i 0]) [.i 0, .u 0, .u 0, .u 0, .u 0, .slice none 0 0, .i 0, .i 0] p4 rfl Goes.s ?_
  intro w5 z5 p5
  have p5 : Hp nz wz S0 w5 ((some b10, .row 83 [.i x1] 1 0) :: (some b2, .row 58 [.i 0, .u 0, .u 0, .u 0, .u 0, .slice none 0 0, .i 0, .i 0] 8 0) :: (some gx0, .row 79 [.string x0v.s, .i x0v.at_, .i x0v.deep, (pt b10 0)] 4 0) :: Lr) := p5
  refine Gn 1 [] Jck ?_
  obtain ⟨S6, z6, p6, f12⟩ := p5.freezeBlk 0 rfl
  obtain rfl := Option.some.inj h
  exact Goes.ret (fn := Tryz.f37) (by kernel_rfl) (v := .agg #[.i 0, .u 0, .u 0, .u 0, .u 0, .slice none 0 0, .i 0, .i 0]) (results_n1 (fn := Tryz.f37) (a := .cell 4 58) (by kernel_rfl) (resV_cell ⟨b2, 0, none⟩ (by kernel_rfl) (run_loadN [.i 0, .u 0, .u 0, .u 0, .u 0, .slice none 0 0, .i 0, .i 0] (by kernel_rfl) (by kernel_rfl) (p6.pa 0 0)))) ⟨S6, none, 0, 0, (pt b10 0), rfl, ((((((Ext.refl S0 w0).trans z2).trans z3).trans z4).trans z5).trans z6), p6.drop, rfl, Rd.none_, rfl, ⟨_, _, rfl, List.cons_ne_nil _ _, f12, rfl⟩⟩
 ·
  try dsimp only at h
  obtain ⟨a7, _, rfl, -, f8, q9⟩ := PtO.got (udb.ext z2) h4
  obtain rfl := q9
  refine Gn 7 [(9, .bool false), (16, .agg #[.i 0, .u 0, .u 0, .u 0, .u 0, .slice none 0 0, .i 0, .i 0])] Jcl ?_
  refine So 58 (.tmp 4) (.tmp 16) 0 0 b2 0 (.agg #[.i 0, .u 0, .u 0, .u 0, .u 0, .slice none 0 0, .i 0, .i 0]) [.i 0, .u 0, .u 0, .u 0, .u 0, .slice none 0 0, .i 0, .i 0] p2 rfl Goes.s ?_
  intro w7 z7 p7
  have p7 : Hp nz wz S0 w7 ((some b2, .row 58 [.i 0, .u 0, .u 0, .u 0, .u 0, .slice none 0 0, .i 0, .i 0] 8 0) :: (some gx0, .row 79 [.string x0v.s, .i x0v.at_, .i x0v.deep, .pointer (some a7)] 4 0) :: Lr) := p7
  refine Gn 1 [] Jck ?_
  obtain rfl := Option.some.inj h
  exact Goes.ret (fn := Tryz.f37) (by kernel_rfl) (v := .agg #[.i 0, .u 0, .u 0, .u 0, .u 0, .slice none 0 0, .i 0, .i 0]) (results_n1 (fn := Tryz.f37) (a := .cell 4 58) (by kernel_rfl) (resV_cell ⟨b2, 0, none⟩ (by kernel_rfl) (run_loadN [.i 0, .u 0, .u 0, .u 0, .u 0, .slice none 0 0, .i 0, .i 0] (by kernel_rfl) (by kernel_rfl) (p7.pa 0 0)))) ⟨S0, none, 0, 0, .pointer (some a7), rfl, (((Ext.refl S0 w0).trans z2).trans z7), p7.drop, rfl, Rd.none_, rfl, ⟨_, _, rfl, List.cons_ne_nil _ _, (f8.ext z7), rfl⟩⟩

def Jcm := Zs [1, 1] B52 []
def Jcn := Zs [1, 0, 1] B52 Jcm
def Jco := Zs [1, 0, 1, 0, 1] B52 Jcm
def Jcp := Zs [1, 1, 1] B52 []
def Q8i := sub [1, 1, 0] B52
def Jcq := Zr Q8i [3, 4, 5, 6, 7] Jcp
def Jcr := Zr Q8i [7] Jcp
def Jcs := Zs [1, 1, 1, 1] B52 []

def Post.z1x (gx0 : Nat) (r : Bool × T78) (v : Value) (w' : World) : Prop :=
 ∃ S' ud8, v = .bool r.1 ∧ Ext S0 w0 S' w' ∧ Hp nz wz S' w' ((some gx0, .row 79 [.string r.2.s, .i r.2.at_, .i r.2.deep, ud8] 4 0) :: Lr) ∧ PtO kT82 S' w' ud8 r.2.bad

def L.z1y (gx0 : Nat) : Bool × T78 → (Bool × T78) → Prop := fun ⟨x12, e0v⟩ r => ∀ S1 w1, Ext S0 w0 S1 w1 → ∀ ud8 (_ : Hp nz wz S1 w1 ((some gx0, .row 79 [.string e0v.s, .i e0v.at_, .i e0v.deep, ud8] 4 0) :: Lr)) (_ : PtO kT82 S1 w1 ud8 e0v.bad) (junk : Nat → Value),
 Goes Tryz.prog (base 52) Jcn ⟨lfr 20 [(0, (pt gx0 0)), (12, .bool x12)] junk, []⟩ w1 (Done Tryz.prog 52 (Rets (Post.z1x nz wz S0 w0 Lr gx0 r)))

theorem W.z1y {nz wz S0 w0 Lr} (gx0 : Nat) : ∀ a r, M.syntax_parser_take_l0 a = some r → L.z1y nz wz S0 w0 Lr gx0 a r := by
 intro ⟨x12, e0v⟩ r h S1 w1 hx ud8 p1 ud9 junk
 rw [M.syntax_parser_take_l0] at h
 try dsimp only at h
 refine ite_some h (fun h5 h => ?_) (fun h5 h => ?_)
 ·
  rw [h5]
  refine Gn 5 [(4, .bool false)] Jco ?_
  obtain rfl := Option.some.inj h
  exact Goes.rt Tryz.f52 (.bool false) ⟨S1, ud8, rfl, hx, p1, ud9⟩
 ·
  have h5' : x12 = false := by simpa using h5
  rw [h5']
  refine Gn 7 [(13, (pt gx0 0)), (14, (pt gx0 0)), (15, (pt gx0 1))] Jcq ?_
  refine Goes.ld 3 (.tmp 15) 16 3 ⟨gx0, 1, none⟩ (.i e0v.at_) (p1.c 0 1) ?_
  refine Gn 3 [(17, .i (wr .i64 (e0v.at_ + 1))), (18, (pt gx0 0)), (19, (pt gx0 1))] Jcr ?_
  refine So 3 (.tmp 19) (.tmp 17) 0 0 gx0 1 (.i (wr .i64 (e0v.at_ + 1))) [.i (wr .i64 (e0v.at_ + 1))] p1 rfl Goes.s ?_
  intro w3 z3 p3
  have p3 : Hp nz wz S1 w3 ((some gx0, .row 79 [.string e0v.s, .i (wr .i64 (e0v.at_ + 1)), .i e0v.deep, ud8] 4 0) :: Lr) := p3
  refine Gn 5 [(4, .bool true)] Jcs ?_
  obtain rfl := Option.some.inj h
  exact Goes.rt Tryz.f52 (.bool true) ⟨S1, ud8, rfl, (hx.trans z3), p3, (ud9.ext z3)⟩

def Q8k := sub [1, 0, 0] B52
def Jct := Zr Q8k [3, 4, 5, 6, 7] Jcn
def Jcu := Zr Q8k [4, 5, 6, 7] Jcn

theorem W.z1x (x0v : T78) (x1 : Int) (r : Bool × T78) (h : M.syntax_parser_take x0v x1 = some r) {nz wz S0 w0 Lr} (gx0 uda) (p0 : Hp nz wz S0 w0 ((some gx0, .row 79 [.string x0v.s, .i x0v.at_, .i x0v.deep, uda] 4 0) :: Lr)) (udb : PtO kT82 S0 w0 uda x0v.bad) :
  Calls Tryz.prog 52 #[(pt gx0 0), .int .u8 x1] w0 (Rets (Post.z1x nz wz S0 w0 Lr gx0 r)) := by
 refine Zf Tryz.f52 B52 18 ?_
 refine Gj 20 [(0, (pt gx0 0)), (1, .int .u8 x1)] fun junk => ?_
 delta M.syntax_parser_take at h
 refine Gn 10 [(4, .bool false), (5, .int .u8 x1), (6, .bool (decide (x1 = 0))), (7, .bool (decide (x1 = 0)))] Jct ?_
 refine ite_some h (fun h2 h => ?_) (fun h2 h => ?_)
 ·
  rw [decide_eq_true h2]
  refine Gn 6 [(8, undef), (9, undef), (10, undef), (11, undef), (12, .bool true)] Jcn ?_
  exact Gj 20 [(0, (pt gx0 0)), (12, .bool true)] (W.z1y gx0 _ _ h _ _ (Ext.refl S0 w0) uda p0 udb)
 ·
  rw [decide_eq_false h2]
  refine Gn 1 [(8, (pt gx0 0))] Jcu ?_
  refine bind_some' h fun y3 e4 h => ?_
  refine Gc (kc 74 [8] #[76]) 9 5 74 _ (W.z1u x0v y3 e4 gx0 uda p0 udb) ?_
  rintro _ w2 ⟨S2, udf, rfl, z2, p2, udg⟩
  refine Gn 4 [(10, .int .u8 x1), (11, .bool (!(decide (y3.1 = x1)))), (12, .bool (!(decide (y3.1 = x1))))] Jcn ?_
  exact Gj 20 [(0, (pt gx0 0)), (12, .bool (!(decide (y3.1 = x1))))] (W.z1y gx0 _ _ h _ _ ((Ext.refl S0 w0).trans z2) udf p2 udg)

def Jcv := Zs [1] B95 []
def Jcw := Zt [0] B95 [0] Jcv
def Jcx := Zs [1, 1] B95 []
def Jcy := Zt [1, 0] B95 [0] Jcx
def Jcz := Zs [1, 1, 1] B95 []
def Jd0 := Zt [1, 1, 0] B95 [4, 5, 6] Jcz
def Jd1 := Zs [1, 1, 1, 1] B95 []
def Jd2 := Zt [1, 1, 1, 0] B95 [0, 1] Jd1

def Post.z1z (r : List Int) (v : Value) (w' : World) : Prop :=
 ∃ S' vsq, v = .agg vsq.toArray ∧ Ext S0 w0 S' w' ∧ Hp nz wz S' w' (Lr) ∧ Els (kInt .u64) S' w' vsq r ∧ vsq.length = 4

theorem W.z1z (x0 : Int) (r : List Int) (h : M.syntax_one x0 = some r) {nz wz S0 w0 Lr} (p0 : Hp nz wz S0 w0 (Lr)) :
  Calls Tryz.prog 95 #[.int .u8 x0] w0 (Rets (Post.z1z nz wz S0 w0 Lr r)) := by
 refine Zf Tryz.f95 B95 10 ?_
 refine Gj 11 [(0, .int .u8 x0)] fun junk => ?_
 delta M.syntax_one at h
 refine Gn 2 [] Jcw ?_
 refine Op_.alloc 44 2 0 (.agg #[.u 0, .u 0, .u 0, .u 0]) [.u 0, .u 0, .u 0, .u 0] p0 Goes.v (by kernel_rfl) (by kernel_rfl) ?_
 intro b1 w2 z2 p2
 refine Gn 3 [] Jcy ?_
 refine Op_.alloc 44 3 0 (.agg #[.u 0, .u 0, .u 0, .u 0]) [.u 0, .u 0, .u 0, .u 0] p2 Goes.v (by kernel_rfl) (by kernel_rfl) ?_
 intro b3 w3 z3 p3
 refine Gn 7 [(4, .int .u8 x0), (5, .int .u8 (iquo .u8 x0 64)), (6, .int .u8 x0), (7, .int .u8 (irem .u8 x0 64))] Jd0 ?_
 refine guard_some' h fun g5 h => ?_
 refine Op_.binshl 42 (.const (.int .u64 1)) (.tmp 7) 5 8 42 .u64 .u8 1 (irem .u8 x0 64) Goes.v (by kernel_rfl) (by kernel_rfl) g5 ?_
 have f6 : Els (kInt .u64) S0 w3 ([.u 0, .u 0, .u 0, .u 0] : List Value) [0, 0, 0, 0] := (Els.cons (K := (kInt .u64)) (vs := [.u 0]) (x := 0) rfl (Els.cons (K := (kInt .u64)) (vs := [.u 0]) (x := 0) rfl (Els.cons (K := (kInt .u64)) (vs := [.u 0]) (x := 0) rfl (Els.cons (K := (kInt .u64)) (vs := [.u 0]) (x := 0) rfl Els.nil))))
 refine guard_some' h fun g7 h => ?_
 refine guard_some' h fun g8 h => ?_
 refine Op_.ixA_n (K := (kInt .u64)) 44 (.tmp 3) (.tmp 5) 9 0 42 4 .u8 (iquo .u8 x0 64) 0 (gi [0, 0, 0, 0] (iquo .u8 x0 64)) rfl p3 rfl f6 (Els.len1 f6 rfl rfl) Goes.v (by kernel_rfl) (by kernel_rfl) (by kernel_rfl) (by kernel_rfl) g7 g8 ?_
 intro _ q10 f9
 obtain rfl := q10
 refine let_some h fun v11 e12 h => ?_
 refine Op_.stE_n (K := (kInt .u64)) 42 (.tmp 9) (.tmp 8) 0 0 (iquo .u8 x0 64) (.u (ishl .u64 1 (irem .u8 x0 64))) [.u (ishl .u64 1 (irem .u8 x0 64))] (ishl .u64 1 (irem .u8 x0 64)) v11 4 (Els.len1 f6 rfl rfl) e12 p3 rfl f6 Goes.s (by kernel_rfl) (by kernel_rfl) (by kernel_rfl) rfl (by kernel_rfl) g7 g8 (Nat.zero_le _) ?_
 intro w4 u5i z4 p4 f14 l15
 have l16 : u5i.length = 4 := by rw [f14.length, l15]; rfl
 refine Gn 3 [] Jd2 ?_
 refine Op_.ldN 44 (.tmp 3) 10 44 ⟨b3, 0, none⟩ u5i Goes.v (by kernel_rfl) (by kernel_rfl) (by rw [l16]; kernel_rfl) (At_all (p4.mem 0 rfl)) ?_
 have f17 : Els (kInt .u64) S0 w4 ([.u 0, .u 0, .u 0, .u 0] : List Value) [0, 0, 0, 0] := (Els.cons (K := (kInt .u64)) (vs := [.u 0]) (x := 0) rfl (Els.cons (K := (kInt .u64)) (vs := [.u 0]) (x := 0) rfl (Els.cons (K := (kInt .u64)) (vs := [.u 0]) (x := 0) rfl (Els.cons (K := (kInt .u64)) (vs := [.u 0]) (x := 0) rfl Els.nil))))
 refine Op_.stA 44 (.tmp 2) (.tmp 10) 0 1 b1 4 u5i p4 rfl rfl Goes.s (by kernel_rfl) (by kernel_rfl) (by kernel_rfl) l16 (Els.one f14) ?_
 intro w5 z5 p5
 refine Gn 1 [] Jd1 ?_
 obtain rfl := Option.some.inj h
 have p5 := p5.dp 0
 exact Goes.ret (fn := Tryz.f95) (by kernel_rfl) (v := .agg u5i.toArray) (results_n1 (fn := Tryz.f95) (a := .cell 2 44) (by kernel_rfl) (resV_cell ⟨b1, 0, none⟩ (by kernel_rfl) (run_loadN u5i (by kernel_rfl) (by rw [l16]; kernel_rfl) (At_all (p5.mem 0 rfl))))) ⟨S0, u5i, rfl, (((((Ext.refl S0 w0).trans z2).trans z3).trans z4).trans z5), p5.drop, (f14.ext z5), l16⟩

def Jd3 := Zs [1, 1] B94 []
def Jd4 := Zb 0 Jd3
def Q8u := sub [1, 0, 1, 0, 0] B94
def Jd5 := Zl Q8u Jd4
def Jd6 := Zc Q8u Jd5
def Jd7 := Zs [1, 0, 1, 0, 0, 1, 1] B94 Jd5
def Jd8 := Zs [1, 0, 1, 0, 0, 1, 0] B94 Jd7
def Jd9 := Zs [1, 0, 1, 0, 0, 1, 1, 1] B94 Jd5
def Jda := Zb 1 Jd9
def Q8y := sub [1, 0, 1, 0, 0, 1, 1, 0, 0, 1] B94
def Jdb := Zr Q8y [2, 3, 4, 5, 6] Jda
def Jdc := Zr Q8y [5, 6] Jda
def Jdd := Zs [1, 1, 1] B94 []
def Jde := Zt [1, 1, 0] B94 [0, 1] Jdd

def Post.z20 (r : List Int) (v : Value) (w' : World) : Prop :=
 ∃ S' vsq, v = .agg vsq.toArray ∧ Ext S0 w0 S' w' ∧ Hp nz wz S' w' (Lr) ∧ Els (kInt .u64) S' w' vsq r ∧ vsq.length = 4

def L.z21 : (List Int) × (List Int) × Int → (List Int) → Prop := fun ⟨x1, udh, x4⟩ r => ∀ S1 w1, Ext S0 w0 S1 w1 → ∀ gx1 udi gx2 (_ : Hp nz wz S1 w1 ((some gx1, .row 44 udi 4 0) :: (some gx2, .row 44 (U4 udh []) 4 0) :: Lr)) (_ : Els (kInt .u64) S1 w1 udi x1) (_ : udi.length = 4) (_ : udh.length = 4) (junk : Nat → Value),
 Goes Tryz.prog (base 94) Jd6 ⟨lfr 15 [(1, (pt gx1 0)), (2, (pt gx2 0)), (4, .i x4)] junk, []⟩ w1 (Done Tryz.prog 94 (Rets (Post.z20 nz wz S0 w0 Lr r)))

theorem W.z21 {nz wz S0 w0 Lr} : ∀ a r, M.syntax_not_l0 a = some r → (L.z21 nz wz S0 w0 Lr) a r := by
 refine M.syntax_not_l0.partial_correctness (motive := (L.z21 nz wz S0 w0 Lr)) ?_
 intro udj udk ⟨x1, udh, x4⟩ r h S1 w1 hx gx1 udi gx2 p1 fx1 lx1 udl junk
 try dsimp only at h
 refine Gn 5 [(5, .bool (decide (x4 < 4)))] Jd8 ?_
 refine ite_some h (fun h7 h => ?_) (fun h7 h => ?_)
 ·
  rw [decide_eq_true h7]
  refine Gn 12 [(6, .i x4), (3, .i x4), (7, .i x4), (8, .i x4)] Jdb ?_
  refine guard_some' h fun g8 h => ?_
  refine Op_.ixA_n (K := (kInt .u64)) 44 (.tmp 1) (.tmp 8) 9 0 42 4 .i64 x4 0 (gi x1 x4) rfl p1 rfl fx1 (Els.len1 fx1 lx1 rfl) Goes.v (by kernel_rfl) (by kernel_rfl) (by kernel_rfl) (by kernel_rfl) g8 h7 ?_
  intro _ q10 f9
  obtain rfl := q10
  refine Goes.ld 42 (.tmp 9) 10 42 ⟨gx1, (x4 : Int).toNat * (kInt .u64).size, none⟩ (.u (gi x1 x4)) (f9 0 _ rfl) ?_
  refine Gn 1 [(11, .u (ixor .u64 18446744073709551615 (gi x1 x4)))] Jdc ?_
  refine Op_.ixA_n (K := (kInt .u64)) 44 (.tmp 1) (.tmp 7) 12 0 42 4 .i64 x4 0 (gi x1 x4) rfl p1 rfl fx1 (Els.len1 fx1 lx1 rfl) Goes.v (by kernel_rfl) (by kernel_rfl) (by kernel_rfl) (by kernel_rfl) g8 h7 ?_
  intro _ q12 f11
  obtain rfl := q12
  refine let_some h fun v13 e14 h => ?_
  refine Op_.stE_n (K := (kInt .u64)) 42 (.tmp 12) (.tmp 11) 0 0 x4 (.u (ixor .u64 18446744073709551615 (gi x1 x4))) [.u (ixor .u64 18446744073709551615 (gi x1 x4))] (ixor .u64 18446744073709551615 (gi x1 x4)) v13 4 (Els.len1 fx1 lx1 rfl) e14 p1 rfl fx1 Goes.s (by kernel_rfl) (by kernel_rfl) (by kernel_rfl) rfl (by kernel_rfl) g8 h7 (Nat.zero_le _) ?_
  intro w4 udm z4 p4 f16 l17
  have l18 : udm.length = 4 := by rw [f16.length, l17]; rfl
  refine Gn 7 [(13, .i (wr .i64 (x4 + 1))), (4, .i (wr .i64 (x4 + 1)))] Jd6 ?_
  exact Gj 15 [(1, (pt gx1 0)), (2, (pt gx2 0)), (4, .i (wr .i64 (x4 + 1)))] (udk _ _ h _ _ (hx.trans z4) gx1 udm gx2 p4 f16 l18 udl)
 ·
  rw [decide_eq_false h7]
  refine Gn 4 [] Jde ?_
  refine Op_.ldN 44 (.tmp 1) 14 44 ⟨gx1, 0, none⟩ udi Goes.v (by kernel_rfl) (by kernel_rfl) (by rw [lx1]; kernel_rfl) (At_all (p1.mem 0 rfl)) ?_
  have f19 : Els (kInt .u64) S1 w1 ((U4 udh []) : List Value) udh := (els_mk4 (k := .u64) udl)
  refine Op_.stA 44 (.tmp 2) (.tmp 14) 0 1 gx2 4 udi p1 rfl rfl Goes.s (by kernel_rfl) (by kernel_rfl) (by kernel_rfl) lx1 (Els.one fx1) ?_
  intro w5 z5 p5
  refine Gn 1 [] Jdd ?_
  obtain rfl := Option.some.inj h
  have p5 := p5.dp 0
  exact Goes.ret (fn := Tryz.f94) (by kernel_rfl) (v := .agg udi.toArray) (results_n1 (fn := Tryz.f94) (a := .cell 2 44) (by kernel_rfl) (resV_cell ⟨gx2, 0, none⟩ (by kernel_rfl) (run_loadN udi (by kernel_rfl) (by rw [lx1]; kernel_rfl) (At_all (p5.mem 0 rfl))))) ⟨S1, udi, rfl, (hx.trans z5), p5.drop, (fx1.ext z5), lx1⟩

def Jdf := Zs [1] B94 []
def Jdg := Zt [0] B94 [0, 1] Jdf

theorem W.z20 (x0 : List Int) (r : List Int) (h : M.syntax_not x0 = some r) {nz wz S0 w0 Lr} (u5s) (p0 : Hp nz wz S0 w0 (Lr)) (fx0 : Els (kInt .u64) S0 w0 u5s x0) (lx0 : u5s.length = 4) :
  Calls Tryz.prog 94 #[.agg u5s.toArray] w0 (Rets (Post.z20 nz wz S0 w0 Lr r)) := by
 refine Zf Tryz.f94 B94 14 ?_
 refine Gj 15 [(0, .agg u5s.toArray)] fun junk => ?_
 delta M.syntax_not at h
 refine Gn 2 [] Jdg ?_
 refine Op_.box 44 (.tmp 0) 1 0 (.agg u5s.toArray) u5s p0 Goes.v (by kernel_rfl) rfl ?_
 intro b1 w2 z2 p2
 replace p2 : Hp nz wz S0 w2 ((some b1, .row 44 u5s 4 0) :: Lr) := by rw [show (u5s).length = 4 from lx0] at p2; exact p2
 refine Op_.alloc 44 2 0 (.agg #[.u 0, .u 0, .u 0, .u 0]) [.u 0, .u 0, .u 0, .u 0] p2 Goes.v (by kernel_rfl) (by kernel_rfl) ?_
 intro b3 w3 z3 p3
 refine Gn 8 [(4, .i 0)] Jd6 ?_
 have p3 := (p3.fr 0).fr 1
 exact Gj 15 [(1, (pt b1 0)), (2, (pt b3 0)), (4, .i 0)] (W.z21 _ _ h _ _ (((Ext.refl S0 w0).trans z2).trans z3) b1 u5s b3 p3 (fx0.ext (z2.trans z3)) lx0 rfl)

def Jdh := Zs [1] B103 []
def Jdi := Zt [0] B103 [0, 1] Jdh
def Jdj := Zs [1, 1] B103 []

def Post.z22 (gx0 : Nat) (uda : Value) (x0v : T78) (r : Unit) (v : Value) (w' : World) : Prop :=
 ∃ S' u8y, v = .func (.func 110) #[] #[(pt u8y 0)] ∧ Ext S0 w0 S' w' ∧ Hp nz wz S' w' ((some u8y, .row 76 [(pt gx0 0)] 1 0) :: (some gx0, .row 79 [.string x0v.s, .i x0v.at_, .i x0v.deep, uda] 4 0) :: Lr)

theorem W.z22 (x0v : T78) (r : Unit) (h : M.syntax_parser_items x0v = some r) {nz wz S0 w0 Lr} (gx0 uda) (p0 : Hp nz wz S0 w0 ((some gx0, .row 79 [.string x0v.s, .i x0v.at_, .i x0v.deep, uda] 4 0) :: Lr)) (udb : PtO kT82 S0 w0 uda x0v.bad) :
  Calls Tryz.prog 103 #[(pt gx0 0)] w0 (Rets (Post.z22 nz wz S0 w0 Lr gx0 uda x0v r)) := by
 refine Zf Tryz.f103 B103 3 ?_
 refine Gj 4 [(0, (pt gx0 0))] fun junk => ?_
 delta M.syntax_parser_items at h
 refine Gn 2 [] Jdi ?_
 refine Op_.box 76 (.tmp 0) 1 0 ((pt gx0 0)) [(pt gx0 0)] p0 Goes.v (by kernel_rfl) (by kernel_rfl) ?_
 intro b2 w2 z2 p2
 refine Gn 7 [(2, .func (.func 110) #[] #[(pt b2 0)]), (3, .func (.func 110) #[] #[(pt b2 0)])] Jdj ?_
 obtain rfl := Option.some.inj h
 exact Goes.rt Tryz.f103 (.func (.func 110) #[] #[(pt b2 0)]) ⟨S0, b2, rfl, ((Ext.refl S0 w0).trans z2), p2⟩

def Jdk := Zs [1, 1, 1] B112 []
def Jdl := Zb 0 Jdk
def Q97 := sub [1, 1, 0, 1, 0, 0] B112
def Jdm := Zl Q97 Jdl
def Jdn := Zc Q97 Jdm
def Jdo := Zs [1, 1, 0, 1, 0, 0, 1] B112 Jdm
def Jdp := Zs [1, 1, 0, 1, 0, 0, 0, 1] B112 Jdo
def Jdq := Zs [1, 1, 0, 1, 0, 0, 1, 1] B112 Jdm
def Jdr := Zb 1 Jdq
def Jds := Zs [1, 1, 0, 1, 0, 0, 1, 0, 0] B112 Jdr
def Jdt := Zs [1, 1, 1, 1] B112 []
def Jdu := Zt [1, 1, 1, 0] B112 [0, 1] Jdt

def Post.z23 (r : List Int) (v : Value) (w' : World) : Prop :=
 ∃ S' vsq, v = .agg vsq.toArray ∧ Ext S0 w0 S' w' ∧ Hp nz wz S' w' (Lr) ∧ Els (kInt .u64) S' w' vsq r ∧ vsq.length = 4

def L.z24 : Int × (List Int) × (List Int) × Int → (List Int) → Prop := fun ⟨x1, udn, x5, x6⟩ r => ∀ S1 w1, Ext S0 w0 S1 w1 → ∀ gx4 gx5 u4j (_ : Hp nz wz S1 w1 ((some gx4, .row 44 (U4 udn []) 4 0) :: (some gx5, .row 44 u4j 4 0) :: Lr)) (_ : udn.length = 4) (_ : Els (kInt .u64) S1 w1 u4j x5) (_ : u4j.length = 4) (junk : Nat → Value),
 Goes Tryz.prog (base 112) Jdn ⟨lfr 25 [(1, .int .u8 x1), (4, (pt gx4 0)), (5, (pt gx5 0)), (6, .i x6)] junk, []⟩ w1 (Done Tryz.prog 112 (Rets (Post.z23 nz wz S0 w0 Lr r)))

theorem W.z24 {nz wz S0 w0 Lr} : ∀ a r, M.syntax_span_l0 a = some r → (L.z24 nz wz S0 w0 Lr) a r := by
 refine M.syntax_span_l0.partial_correctness (motive := (L.z24 nz wz S0 w0 Lr)) ?_
 intro udo udp ⟨x1, udn, x5, x6⟩ r h S1 w1 hx gx4 gx5 u4j p1 udq fx5 lx5 junk
 try dsimp only at h
 refine Gn 8 [(9, .i x6), (10, .int .u8 x1), (11, .i (wr .i64 x1)), (12, .bool (decide (x6 ≤ wr .i64 x1)))] Jdp ?_
 refine ite_some h (fun h8 h => ?_) (fun h8 h => ?_)
 ·
  rw [decide_eq_true h8]
  refine Gn 4 [] Jds ?_
  have z4 : Ext S1 w1 S1 (w1).drew := Ext.draw
  have p4 := p1.draw
  refine Goes.drawn (s := [9]) (F := Fc S1 (w1).drew ([] ++ (rowCellsO (some gx5) u4j ++ []))) 5 10 (by kernel_rfl) (by kernel_rfl) (by kernel_rfl) (by kernel_rfl) ?_
  generalize (w1).drew = w4 at z4 p4 ⊢
  refine AnyG.pu 0 (.move (.tmp 6)) 15 3 (.i x6) (Fc.here (Cells.app trivial (Cells.app (Cells.rowO (p4.mem 1 rfl)) trivial))) ?_
  refine AnyG.pu 1 (.binOp .quo 3 (.tmp 15) (.const (.int .i64 64)) 3) 16 3 (.i (iquo .i64 x6 64)) (Fc.here (Cells.app trivial (Cells.app (Cells.rowO (p4.mem 1 rfl)) trivial))) ?_
  refine guard_some' h fun g9 h => ?_
  refine guard_some' h fun g10 h => ?_
  refine AnyG.ixA_n (i := 2) (K := (kInt .u64)) 44 (.tmp 5) (.tmp 16) 17 0 42 4 .i64 (iquo .i64 x6 64) 1 (gi x5 (iquo .i64 x6 64)) rfl p4 rfl (fx5.ext z4) (Els.len1 (fx5.ext z4) lx5 rfl) (by kernel_rfl) (by kernel_rfl) (Fc.here (Cells.app trivial (Cells.app (Cells.rowO (p4.mem 1 rfl)) trivial))) (by kernel_rfl) (by kernel_rfl) (by kernel_rfl) (by kernel_rfl) g9 g10 ?_
  intro _ q12 f13 f11
  obtain rfl := q12
  refine AnyG.ld1 (i := 3) 42 (.tmp 17) 18 42 ⟨gx5, (iquo .i64 x6 64 : Int).toNat * (kInt .u64).size, none⟩ (.u (gi x5 (iquo .i64 x6 64))) (by kernel_rfl) (by kernel_rfl) (Fc.here (Cells.app trivial (Cells.app (Cells.rowO (p4.mem 1 rfl)) trivial))) (by kernel_rfl) (by kernel_rfl) (fun _ h => h.2.right.left.rowAt (f13 0 _ rfl)) ?_
  refine AnyG.pu 4 (.move (.tmp 6)) 19 3 (.i x6) (Fc.here (Cells.app trivial (Cells.app (Cells.rowO (p4.mem 1 rfl)) trivial))) ?_
  refine AnyG.pu 5 (.binOp .rem 3 (.tmp 19) (.const (.int .i64 64)) 3) 20 3 (.i (irem .i64 x6 64)) (Fc.here (Cells.app trivial (Cells.app (Cells.rowO (p4.mem 1 rfl)) trivial))) ?_
  refine guard_some' h fun g14 h => ?_
  refine AnyG.binshl (i := 6) 42 (.const (.int .u64 1)) (.tmp 20) 3 21 42 .u64 .i64 1 (irem .i64 x6 64) (by kernel_rfl) (by kernel_rfl) (Fc.here (Cells.app trivial (Cells.app (Cells.rowO (p4.mem 1 rfl)) trivial))) (by kernel_rfl) (by kernel_rfl) g14 ?_
  refine AnyG.pu 7 (.binOp .or 42 (.tmp 18) (.tmp 21) 42) 22 42 (.u (ior .u64 (gi x5 (iquo .i64 x6 64)) (ishl .u64 1 (irem .i64 x6 64)))) (Fc.here (Cells.app trivial (Cells.app (Cells.rowO (p4.mem 1 rfl)) trivial))) ?_
  refine AnyG.ixA_n (i := 8) (K := (kInt .u64)) 44 (.tmp 5) (.tmp 16) 23 0 42 4 .i64 (iquo .i64 x6 64) 1 (gi x5 (iquo .i64 x6 64)) rfl p4 rfl (fx5.ext z4) (Els.len1 (fx5.ext z4) lx5 rfl) (by kernel_rfl) (by kernel_rfl) (Fc.here (Cells.app trivial (Cells.app (Cells.rowO (p4.mem 1 rfl)) trivial))) (by kernel_rfl) (by kernel_rfl) (by kernel_rfl) (by kernel_rfl) g9 g10 ?_
  intro _ q16 f17 f15
  obtain rfl := q16
  refine let_some h fun v18 e19 h => ?_
  refine Op_.stE_n (K := (kInt .u64)) 42 (.tmp 23) (.tmp 22) 0 1 (iquo .i64 x6 64) (.u (ior .u64 (gi x5 (iquo .i64 x6 64)) (ishl .u64 1 (irem .i64 x6 64)))) [.u (ior .u64 (gi x5 (iquo .i64 x6 64)) (ishl .u64 1 (irem .i64 x6 64)))] (ior .u64 (gi x5 (iquo .i64 x6 64)) (ishl .u64 1 (irem .i64 x6 64))) v18 4 (Els.len1 (fx5.ext z4) lx5 rfl) e19 p4 rfl (fx5.ext z4) (AnyG.ss (i := 9) (by kernel_rfl) (by kernel_rfl)) (by kernel_rfl) (by kernel_rfl) (by kernel_rfl) rfl (by kernel_rfl) g9 g10 (Nat.zero_le _) ?_
  intro w5 udr z5 p5 f21 l22
  have l23 : udr.length = 4 := by rw [f21.length, l22]; rfl
  refine AnyG.last [] (Fc S1 w5 []) (by decide) ?_
  refine AnyG.done (by kernel_rfl) ?_ _
  refine Gn 7 [(13, .i x6), (14, .i (wr .i64 (x6 + 1))), (6, .i (wr .i64 (x6 + 1)))] Jdn ?_
  exact Gj 25 [(1, .int .u8 x1), (4, (pt gx4 0)), (5, (pt gx5 0)), (6, .i (wr .i64 (x6 + 1)))] (udp _ _ h _ _ ((hx.trans z4).trans z5) gx4 gx5 udr p5 udq f21 l23)
 ·
  rw [decide_eq_false h8]
  refine Gn 4 [] Jdu ?_
  refine Op_.ldN 44 (.tmp 5) 24 44 ⟨gx5, 0, none⟩ u4j Goes.v (by kernel_rfl) (by kernel_rfl) (by rw [lx5]; kernel_rfl) (At_all (p1.mem 1 rfl)) ?_
  have f24 : Els (kInt .u64) S1 w1 ((U4 udn []) : List Value) udn := (els_mk4 (k := .u64) udq)
  refine Op_.stA 44 (.tmp 4) (.tmp 24) 0 0 gx4 4 u4j p1 rfl rfl Goes.s (by kernel_rfl) (by kernel_rfl) (by kernel_rfl) lx5 (Els.one fx5) ?_
  intro w6 z6 p6
  refine Gn 1 [] Jdt ?_
  obtain rfl := Option.some.inj h
  have p6 := p6.dp 1
  exact Goes.ret (fn := Tryz.f112) (by kernel_rfl) (v := .agg u4j.toArray) (results_n1 (fn := Tryz.f112) (a := .cell 4 44) (by kernel_rfl) (resV_cell ⟨gx4, 0, none⟩ (by kernel_rfl) (run_loadN u4j (by kernel_rfl) (by rw [lx5]; kernel_rfl) (At_all (p6.mem 0 rfl))))) ⟨S1, u4j, rfl, (hx.trans z6), p6.drop, (fx5.ext z6), lx5⟩

def Jdv := Zs [1] B112 []
def Jdw := Zt [0] B112 [0] Jdv
def Jdx := Zs [1, 1] B112 []
def Jdy := Zt [1, 0] B112 [0] Jdx

theorem W.z23 (x0 : Int) (x1 : Int) (r : List Int) (h : M.syntax_span x0 x1 = some r) {nz wz S0 w0 Lr} (p0 : Hp nz wz S0 w0 (Lr)) :
  Calls Tryz.prog 112 #[.int .u8 x0, .int .u8 x1] w0 (Rets (Post.z23 nz wz S0 w0 Lr r)) := by
 refine Zf Tryz.f112 B112 23 ?_
 refine Gj 25 [(0, .int .u8 x0), (1, .int .u8 x1)] fun junk => ?_
 delta M.syntax_span at h
 refine Gn 2 [] Jdw ?_
 refine Op_.alloc 44 4 0 (.agg #[.u 0, .u 0, .u 0, .u 0]) [.u 0, .u 0, .u 0, .u 0] p0 Goes.v (by kernel_rfl) (by kernel_rfl) ?_
 intro b1 w2 z2 p2
 refine Gn 3 [] Jdy ?_
 refine Op_.alloc 44 5 0 (.agg #[.u 0, .u 0, .u 0, .u 0]) [.u 0, .u 0, .u 0, .u 0] p2 Goes.v (by kernel_rfl) (by kernel_rfl) ?_
 intro b3 w3 z3 p3
 refine Gn 10 [(7, .int .u8 x0), (8, .i (wr .i64 x0)), (6, .i (wr .i64 x0))] Jdn ?_
 have f7 : Els (kInt .u64) S0 w3 ([.u 0, .u 0, .u 0, .u 0] : List Value) [0, 0, 0, 0] := (Els.cons (K := (kInt .u64)) (vs := [.u 0]) (x := 0) rfl (Els.cons (K := (kInt .u64)) (vs := [.u 0]) (x := 0) rfl (Els.cons (K := (kInt .u64)) (vs := [.u 0]) (x := 0) rfl (Els.cons (K := (kInt .u64)) (vs := [.u 0]) (x := 0) rfl Els.nil))))
 have p3 := (p3.fr 0).fr 1
 exact Gj 25 [(1, .int .u8 x1), (4, (pt b1 0)), (5, (pt b3 0)), (6, .i (wr .i64 x0))] (W.z24 _ _ h _ _ (((Ext.refl S0 w0).trans z2).trans z3) b1 b3 ([.u 0, .u 0, .u 0, .u 0] : List Value) p3 rfl f7 rfl)

def Jdz := Zs [1, 1, 1] B104 []
def Je0 := Zb 0 Jdz
def Q9j := sub [1, 1, 0, 1, 0, 0] B104
def Je1 := Zl Q9j Je0
def Je2 := Zc Q9j Je1
def Je3 := Zs [1, 1, 0, 1, 0, 0, 1, 1, 1] B104 Je1
def Je4 := Zb 1 Je3
def Je5 := Zb 2 Je4
def Q9l := sub [1, 1, 0, 1, 0, 0, 1, 1, 0, 0, 1, 1, 0, 0] B104
def Je6 := Zl Q9l Je5
def Je7 := Zc Q9l Je6
def Je8 := Zs [1, 1, 0, 1, 0, 0, 1, 1] B104 Je1
def Je9 := Zs [1, 1, 0, 1, 0, 0, 1, 0] B104 Je8
def Jea := Zs [1, 1, 0, 1, 0, 0, 1, 1, 0, 0, 1] B104 Je4
def Jeb := Zt [1, 1, 0, 1, 0, 0, 1, 1, 0, 0, 0] B104 [0, 1, 2, 3] Jea
def Jec := Zs [1, 1, 1, 1] B104 []
def Jed := Zt [1, 1, 1, 0] B104 [0, 1] Jec
def Jee := Zs [1, 1, 0, 1, 0, 0, 1, 1, 0, 0, 1, 1, 0, 0, 1, 1] B104 Je6
def Jef := Zs [1, 1, 0, 1, 0, 0, 1, 1, 0, 0, 1, 1, 0, 0, 1, 0] B104 Jee
def Jeg := Zs [1, 1, 0, 1, 0, 0, 1, 1, 0, 0, 1, 1, 0, 0, 1, 1, 1] B104 Je6
def Jeh := Zb 3 Jeg
def Jei := Zs [1, 1, 0, 1, 0, 0, 1, 1, 0, 0, 1, 1, 0, 0, 1, 1, 0, 0, 1] B104 Jeh

def Post.z25 (r : List Int) (v : Value) (w' : World) : Prop :=
 ∃ S' vsq, v = .agg vsq.toArray ∧ Ext S0 w0 S' w' ∧ Hp nz wz S' w' (Lr) ∧ Els (kInt .u64) S' w' vsq r ∧ vsq.length = 4

def L.z26 : (List Int) × (List Int) × (List (List Int)) × Int × Int → (List Int) → Prop := fun ⟨udh, x3, x7, x8, x9⟩ r => ∀ S1 w1, Ext S0 w0 S1 w1 → ∀ gx2 gx3 u6v Ax7 nx7 cx7 (_ : Hp nz wz S1 w1 ((some gx2, .row 44 (U4 udh []) 4 0) :: (some gx3, .row 44 u6v 4 0) :: Lr)) (_ : udh.length = 4) (_ : Els (kInt .u64) S1 w1 u6v x3) (_ : u6v.length = 4) (_ : Rd (kArr 4 (kInt .u64)) S1 w1 Ax7 cx7 x7) (_ : x7.length = nx7) (junk : Nat → Value),
 Goes Tryz.prog (base 104) Je2 ⟨lfr 27 [(2, (pt gx2 0)), (3, (pt gx3 0)), (7, .slice Ax7 nx7 cx7), (8, .i x8), (9, .i x9)] junk, []⟩ w1 (Done Tryz.prog 104 (Rets (Post.z25 nz wz S0 w0 Lr r)))

def L.z27 : (List Int) × (List Int) × (List Int) × (List (List Int)) × Int × Int × Int → (List Int) → Prop := fun ⟨udh, x3, x5, x7, x8, x9, x13⟩ r => ∀ S1 w1, Ext S0 w0 S1 w1 → ∀ gx2 gx3 u6v gx5 u4j Ax7 nx7 cx7 (_ : Hp nz wz S1 w1 ((some gx2, .row 44 (U4 udh []) 4 0) :: (some gx3, .row 44 u6v 4 0) :: (some gx5, .row 44 u4j 4 0) :: Lr)) (_ : udh.length = 4) (_ : Els (kInt .u64) S1 w1 u6v x3) (_ : u6v.length = 4) (_ : Els (kInt .u64) S1 w1 u4j x5) (_ : u4j.length = 4) (_ : Rd (kArr 4 (kInt .u64)) S1 w1 Ax7 cx7 x7) (_ : x7.length = nx7) (junk : Nat → Value),
 Goes Tryz.prog (base 104) Je7 ⟨lfr 27 [(2, (pt gx2 0)), (3, (pt gx3 0)), (5, (pt gx5 0)), (7, .slice Ax7 nx7 cx7), (8, .i x8), (9, .i x9), (13, .i x13)] junk, []⟩ w1 (Done Tryz.prog 104 (Rets (Post.z25 nz wz S0 w0 Lr r)))

theorem W.z28 {nz wz S0 w0 Lr} : (∀ a r, M.syntax_join_l0 a = some r → (L.z26 nz wz S0 w0 Lr) a r) ∧ (∀ a r, M.syntax_join_l1 a = some r → (L.z27 nz wz S0 w0 Lr) a r) := by
 refine M.syntax_join_l0.mutual_partial_correctness (L.z26 nz wz S0 w0 Lr) (L.z27 nz wz S0 w0 Lr) ?_ ?_
 ·
  intro uds udt ⟨udh, x3, x7, x8, x9⟩ r h S1 w1 hx gx2 gx3 u6v Ax7 nx7 cx7 p1 udl fx3 lx3 fx7 lx7 junk
  try dsimp only at h
  subst lx7
  refine Gn 5 [(10, .bool (decide (x9 < x8)))] Je9 ?_
  refine ite_some h (fun h8 h => ?_) (fun h8 h => ?_)
  ·
   rw [decide_eq_true h8]
   refine Gn 6 [] Jeb ?_
   refine guard_some' h fun g9 h => ?_
   refine guard_some' h fun g10 h => ?_
   refine Op_.ixR_n 156 (.tmp 7) (.tmp 9) 11 0 44 .i64 x9 (gi x7 x9) rfl rfl fx7 Goes.v (by kernel_rfl) (by kernel_rfl) (by kernel_rfl) (by kernel_rfl) g9 g10 ?_
   intro a11 _ f12 q13
   obtain ⟨l14, f15⟩ := q13
   obtain rfl := els_lit4' f15 l14
   refine Goes.ldN 44 (.tmp 11) 12 44 a11 (U4 (gi x7 x9) []) (f12.cell) ?_
   refine Op_.alloc 44 5 0 (.agg #[.u 0, .u 0, .u 0, .u 0]) [.u 0, .u 0, .u 0, .u 0] p1 Goes.v (by kernel_rfl) (by kernel_rfl) ?_
   intro b16 w4 z4 p4
   refine So 44 (.tmp 5) (.tmp 12) 0 0 b16 0 (ag (U4 (gi x7 x9) [])) (U4 (gi x7 x9) []) p4 rfl Goes.s ?_
   intro w5 z5 p5
   have p5 : Hp nz wz S1 w5 ((some b16, .row 44 (U4 (gi x7 x9) []) 4 0) :: (some gx2, .row 44 (U4 udh []) 4 0) :: (some gx3, .row 44 u6v 4 0) :: Lr) := p5
   refine Gn 7 [(13, .i 0)] Je7 ?_
   have f21 : Els (kInt .u64) S1 w5 ((U4 (gi x7 x9) []) : List Value) (gi x7 x9) := (els_mk4 (k := .u64) l14)
   have p5 := ((p5.fr 0).fr 2).fr 2
   exact Gj 27 [(2, (pt gx2 0)), (3, (pt gx3 0)), (5, (pt b16 0)), (7, .slice Ax7 x7.length cx7), (8, .i x8), (9, .i x9), (13, .i 0)] (udt _ _ h _ _ ((hx.trans z4).trans z5) gx2 gx3 u6v b16 ((U4 (gi x7 x9) []) : List Value) Ax7 x7.length cx7 p5 udl (fx3.ext (z4.trans z5)) lx3 f21 rfl (fx7.ext (z4.trans z5)) rfl)
  ·
   rw [decide_eq_false h8]
   refine Gn 4 [] Jed ?_
   refine Op_.ldN 44 (.tmp 3) 26 44 ⟨gx3, 0, none⟩ u6v Goes.v (by kernel_rfl) (by kernel_rfl) (by rw [lx3]; kernel_rfl) (At_all (p1.mem 1 rfl)) ?_
   have f22 : Els (kInt .u64) S1 w1 ((U4 udh []) : List Value) udh := (els_mk4 (k := .u64) udl)
   refine Op_.stA 44 (.tmp 2) (.tmp 26) 0 0 gx2 4 u6v p1 rfl rfl Goes.s (by kernel_rfl) (by kernel_rfl) (by kernel_rfl) lx3 (Els.one fx3) ?_
   intro w6 z6 p6
   refine Gn 1 [] Jec ?_
   obtain rfl := Option.some.inj h
   have p6 := p6.dp 1
   exact Goes.ret (fn := Tryz.f104) (by kernel_rfl) (v := .agg u6v.toArray) (results_n1 (fn := Tryz.f104) (a := .cell 2 44) (by kernel_rfl) (resV_cell ⟨gx2, 0, none⟩ (by kernel_rfl) (run_loadN u6v (by kernel_rfl) (by rw [lx3]; kernel_rfl) (At_all (p6.mem 0 rfl))))) ⟨S1, u6v, rfl, (hx.trans z6), p6.drop, (fx3.ext z6), lx3⟩
 ·
  intro udu uds udv udt ⟨udh, x3, x5, x7, x8, x9, x13⟩ r h S1 w1 hx gx2 gx3 u6v gx5 u4j Ax7 nx7 cx7 p1 udl fx3 lx3 fx5 lx5 fx7 lx7 junk
  try dsimp only at h
  subst lx7
  refine Gn 5 [(14, .bool (decide (x13 < 4)))] Jef ?_
  refine ite_some h (fun h23 h => ?_) (fun h23 h => ?_)
  ·
   rw [decide_eq_true h23]
   refine Gn 9 [(15, .i x13), (6, .i x13)] Jei ?_
   have z7 : Ext S1 w1 S1 (w1).drew := Ext.draw
   have p7 := p1.draw
   refine Goes.drawn (s := [8]) (F := Fc S1 (w1).drew ([] ++ (rowCellsO (some gx3) u6v ++ (rowCellsO (some gx5) u4j ++ [])))) 8 9 (by kernel_rfl) (by kernel_rfl) (by kernel_rfl) (by kernel_rfl) ?_
   generalize (w1).drew = w7 at z7 p7 ⊢
   refine AnyG.pu 0 (.move (.tmp 6)) 16 3 (.i x13) (Fc.here (Cells.app trivial (Cells.app (Cells.rowO (p7.mem 1 rfl)) (Cells.app (Cells.rowO (p7.mem 2 rfl)) trivial)))) ?_
   refine guard_some' h fun g24 h => ?_
   refine AnyG.ixA_n (i := 1) (K := (kInt .u64)) 44 (.tmp 3) (.tmp 16) 17 0 42 4 .i64 x13 1 (gi x3 x13) rfl p7 rfl (fx3.ext z7) (Els.len1 (fx3.ext z7) lx3 rfl) (by kernel_rfl) (by kernel_rfl) (Fc.here (Cells.app trivial (Cells.app (Cells.rowO (p7.mem 1 rfl)) (Cells.app (Cells.rowO (p7.mem 2 rfl)) trivial)))) (by kernel_rfl) (by kernel_rfl) (by kernel_rfl) (by kernel_rfl) g24 h23 ?_
   intro _ q26 f27 f25
   obtain rfl := q26
   refine AnyG.ld1 (i := 2) 42 (.tmp 17) 18 42 ⟨gx3, (x13 : Int).toNat * (kInt .u64).size, none⟩ (.u (gi x3 x13)) (by kernel_rfl) (by kernel_rfl) (Fc.here (Cells.app trivial (Cells.app (Cells.rowO (p7.mem 1 rfl)) (Cells.app (Cells.rowO (p7.mem 2 rfl)) trivial)))) (by kernel_rfl) (by kernel_rfl) (fun _ h => h.2.right.left.rowAt (f27 0 _ rfl)) ?_
   refine AnyG.pu 3 (.move (.tmp 6)) 19 3 (.i x13) (Fc.here (Cells.app trivial (Cells.app (Cells.rowO (p7.mem 1 rfl)) (Cells.app (Cells.rowO (p7.mem 2 rfl)) trivial)))) ?_
   refine AnyG.ixA_n (i := 4) (K := (kInt .u64)) 44 (.tmp 5) (.tmp 19) 20 0 42 4 .i64 x13 2 (gi x5 x13) rfl p7 rfl (fx5.ext z7) (Els.len1 (fx5.ext z7) lx5 rfl) (by kernel_rfl) (by kernel_rfl) (Fc.here (Cells.app trivial (Cells.app (Cells.rowO (p7.mem 1 rfl)) (Cells.app (Cells.rowO (p7.mem 2 rfl)) trivial)))) (by kernel_rfl) (by kernel_rfl) (by kernel_rfl) (by kernel_rfl) g24 h23 ?_
   intro _ q29 f30 f28
   obtain rfl := q29
   refine AnyG.ld1 (i := 5) 42 (.tmp 20) 21 42 ⟨gx5, (x13 : Int).toNat * (kInt .u64).size, none⟩ (.u (gi x5 x13)) (by kernel_rfl) (by kernel_rfl) (Fc.here (Cells.app trivial (Cells.app (Cells.rowO (p7.mem 1 rfl)) (Cells.app (Cells.rowO (p7.mem 2 rfl)) trivial)))) (by kernel_rfl) (by kernel_rfl) (fun _ h => h.2.right.right.left.rowAt (f30 0 _ rfl)) ?_
   refine AnyG.pu 6 (.binOp .or 42 (.tmp 18) (.tmp 21) 42) 22 42 (.u (ior .u64 (gi x3 x13) (gi x5 x13))) (Fc.here (Cells.app trivial (Cells.app (Cells.rowO (p7.mem 1 rfl)) (Cells.app (Cells.rowO (p7.mem 2 rfl)) trivial)))) ?_
   refine AnyG.ixA_n (i := 7) (K := (kInt .u64)) 44 (.tmp 3) (.tmp 16) 23 0 42 4 .i64 x13 1 (gi x3 x13) rfl p7 rfl (fx3.ext z7) (Els.len1 (fx3.ext z7) lx3 rfl) (by kernel_rfl) (by kernel_rfl) (Fc.here (Cells.app trivial (Cells.app (Cells.rowO (p7.mem 1 rfl)) (Cells.app (Cells.rowO (p7.mem 2 rfl)) trivial)))) (by kernel_rfl) (by kernel_rfl) (by kernel_rfl) (by kernel_rfl) g24 h23 ?_
   intro _ q32 f33 f31
   obtain rfl := q32
   refine let_some h fun v34 e35 h => ?_
   refine Op_.stE_n (K := (kInt .u64)) 42 (.tmp 23) (.tmp 22) 0 1 x13 (.u (ior .u64 (gi x3 x13) (gi x5 x13))) [.u (ior .u64 (gi x3 x13) (gi x5 x13))] (ior .u64 (gi x3 x13) (gi x5 x13)) v34 4 (Els.len1 (fx3.ext z7) lx3 rfl) e35 p7 rfl (fx3.ext z7) (AnyG.ss (i := 8) (by kernel_rfl) (by kernel_rfl)) (by kernel_rfl) (by kernel_rfl) (by kernel_rfl) rfl (by kernel_rfl) g24 h23 (Nat.zero_le _) ?_
   intro w8 udw z8 p8 f37 l38
   have l39 : udw.length = 4 := by rw [f37.length, l38]; rfl
   refine AnyG.last [] (Fc S1 w8 []) (by decide) ?_
   refine AnyG.done (by kernel_rfl) ?_ _
   refine Gn 6 [(24, .i (wr .i64 (x13 + 1))), (13, .i (wr .i64 (x13 + 1)))] Je7 ?_
   exact Gj 27 [(2, (pt gx2 0)), (3, (pt gx3 0)), (5, (pt gx5 0)), (7, .slice Ax7 x7.length cx7), (8, .i x8), (9, .i x9), (13, .i (wr .i64 (x13 + 1)))] (udt _ _ h _ _ ((hx.trans z7).trans z8) gx2 gx3 udw gx5 u4j Ax7 x7.length cx7 p8 udl f37 l39 (fx5.ext (z7.trans z8)) lx5 (fx7.ext (z7.trans z8)) rfl)
  ·
   rw [decide_eq_false h23]
   refine Gn 8 [(25, .i (wr .i64 (x9 + 1))), (9, .i (wr .i64 (x9 + 1)))] Je2 ?_
   have p1 := p1.dp 2
   exact Gj 27 [(2, (pt gx2 0)), (3, (pt gx3 0)), (7, .slice Ax7 x7.length cx7), (8, .i x8), (9, .i (wr .i64 (x9 + 1)))] (udv _ _ h _ _ hx gx2 gx3 u6v Ax7 x7.length cx7 p1 udl fx3 lx3 fx7 rfl)

theorem W.z26 {nz wz S0 w0 Lr} : ∀ a r, M.syntax_join_l0 a = some r → (L.z26 nz wz S0 w0 Lr) a r := (W.z28).1

theorem W.z27 {nz wz S0 w0 Lr} : ∀ a r, M.syntax_join_l1 a = some r → (L.z27 nz wz S0 w0 Lr) a r := (W.z28).2

def Jej := Zs [1] B104 []
def Jek := Zt [0] B104 [0] Jej
def Jel := Zs [1, 1] B104 []
def Jem := Zt [1, 0] B104 [0] Jel

theorem W.z25 (x0 : List (List Int)) (r : List Int) (h : M.syntax_join x0 = some r) {nz wz S0 w0 Lr} (Ax0 nx0 cx0) (p0 : Hp nz wz S0 w0 (Lr)) (fx0 : Rd (kArr 4 (kInt .u64)) S0 w0 Ax0 cx0 x0) (lx0 : x0.length = nx0) :
  Calls Tryz.prog 104 #[.slice Ax0 nx0 cx0] w0 (Rets (Post.z25 nz wz S0 w0 Lr r)) := by
 subst lx0
 refine Zf Tryz.f104 B104 26 ?_
 refine Gj 27 [(0, .slice Ax0 x0.length cx0)] fun junk => ?_
 delta M.syntax_join at h
 refine Gn 2 [] Jek ?_
 refine Op_.alloc 44 2 0 (.agg #[.u 0, .u 0, .u 0, .u 0]) [.u 0, .u 0, .u 0, .u 0] p0 Goes.v (by kernel_rfl) (by kernel_rfl) ?_
 intro b1 w2 z2 p2
 refine Gn 3 [] Jem ?_
 refine Op_.alloc 44 3 0 (.agg #[.u 0, .u 0, .u 0, .u 0]) [.u 0, .u 0, .u 0, .u 0] p2 Goes.v (by kernel_rfl) (by kernel_rfl) ?_
 intro b3 w3 z3 p3
 refine Gn 10 [(7, .slice Ax0 x0.length cx0), (8, .i (x0.length : Int)), (9, .i 0)] Je2 ?_
 have f7 : Els (kInt .u64) S0 w3 ([.u 0, .u 0, .u 0, .u 0] : List Value) [0, 0, 0, 0] := (Els.cons (K := (kInt .u64)) (vs := [.u 0]) (x := 0) rfl (Els.cons (K := (kInt .u64)) (vs := [.u 0]) (x := 0) rfl (Els.cons (K := (kInt .u64)) (vs := [.u 0]) (x := 0) rfl (Els.cons (K := (kInt .u64)) (vs := [.u 0]) (x := 0) rfl Els.nil))))
 have p3 := (p3.fr 0).fr 1
 exact Gj 27 [(2, (pt b1 0)), (3, (pt b3 0)), (7, .slice Ax0 x0.length cx0), (8, .i (x0.length : Int)), (9, .i 0)] (W.z26 _ _ h _ _ (((Ext.refl S0 w0).trans z2).trans z3) b1 b3 ([.u 0, .u 0, .u 0, .u 0] : List Value) Ax0 x0.length cx0 p3 rfl f7 rfl (fx0.ext (z2.trans z3)) rfl)

def Jen := Zs [1] B105 []
def Jeo := Zt [0] B105 [0, 1] Jen
def Jep := Zs [1, 1] B105 []
def Jeq := Zt [1, 0] B105 [0] Jep
def Jer := Zs [1, 1, 1] B105 []
def Jes := Zb 0 Jer
def Jet := Zs [1, 1, 0, 1, 0, 1] B105 Jes
def Jeu := Zb 4 Jet
def Jev := Zs [1, 1, 0, 1, 0, 0, 0, 1] B105 Jeu
def Jew := Zb 3 Jev
def Jex := Zs [1, 1, 0, 1, 0, 0, 0, 0, 0, 1] B105 Jew
def Jey := Zb 2 Jex
def Jez := Zs [1, 1, 0, 1, 0, 0, 0, 0, 0, 0, 0] B105 Jey
def Jf0 := Zs [1, 1, 0, 1, 0, 0, 0, 0, 0, 0, 0, 1] B105 Jey
def Jf1 := Zb 1 Jf0
def Jf2 := Zs [1, 1, 0, 1, 0, 0, 0, 0, 0, 0, 0, 0, 0, 1] B105 Jf1
def Jf3 := Zs [1, 1, 0, 1, 0, 0, 0, 0, 0, 0, 0, 0, 0, 0, 1] B105 Jf2
def Jf4 := Zs [1, 1, 0, 1, 0, 0, 0, 0, 0, 0, 0, 0, 0, 0, 0, 1] B105 Jf3
def Jf5 := Zs [1, 1, 0, 1, 0, 0, 0, 0, 0, 1, 1] B105 Jew
def Jf6 := Zs [1, 1, 0, 1, 0, 0, 0, 0, 0, 1, 0] B105 Jf5
def Jf7 := Zs [1, 1, 1, 1] B105 []
def Jf8 := Zs [1, 1, 1, 0, 1] B105 Jf7
def Jf9 := Zt [1, 1, 1, 0, 1, 0] B105 [0, 1, 2] Jf7
def Jfa := Zs [1, 1, 1, 1, 1] B105 []
def Jfb := Zt [1, 1, 1, 1, 0] B105 [0, 1, 2] Jfa
def Jfc := Zs [1, 1, 0, 1, 0, 0, 0, 0, 0, 0, 0, 0, 0, 0, 1, 1] B105 Jf2
def Jfd := Zs [1, 1, 0, 1, 0, 0, 0, 0, 0, 0, 0, 0, 0, 0, 1, 0, 1] B105 Jfc
def Jfe := Zs [1, 1, 0, 1, 0, 0, 0, 0, 0, 0, 0, 0, 0, 0, 1, 1, 1] B105 Jf2
def Jff := Zs [1, 1, 0, 1, 0, 0, 0, 1, 1] B105 Jeu
def Jfg := Zt [1, 1, 0, 1, 0, 0, 0, 1, 0] B105 [0, 1, 2, 3, 4, 5] Jff
def Jfh := Zs [1, 1, 0, 1, 0, 1, 1] B105 Jes
def Jfi := Zs [1, 1, 0, 1, 0, 1, 0, 1] B105 Jfh
def Jfj := Zt [1, 1, 0, 1, 0, 1, 0, 0] B105 [0, 1, 2] Jfi

def Post.z29 (r : (List Int) × Bool) (v : Value) (w' : World) : Prop :=
 ∃ S' udx, v = .tuple #[.agg udx.toArray, .bool r.2] ∧ Ext S0 w0 S' w' ∧ Hp nz wz S' w' (Lr) ∧ Els (kInt .u64) S' w' udx r.1 ∧ udx.length = 4

theorem W.z29 (x0 : Int) (r : (List Int) × Bool) (h : M.syntax_class x0 = some r) {nz wz S0 w0 Lr} (p0 : Hp nz wz S0 w0 (Lr)) :
  Calls Tryz.prog 105 #[.int .u8 x0] w0 (Rets (Post.z29 nz wz S0 w0 Lr r)) := by
 refine Zf Tryz.f105 B105 34 ?_
 refine Gj 35 [(0, .int .u8 x0)] fun junk => ?_
 delta M.syntax_class at h
 refine Gn 2 [] Jeo ?_
 refine Op_.alloc 44 2 0 (.agg #[.u 0, .u 0, .u 0, .u 0]) [.u 0, .u 0, .u 0, .u 0] p0 Goes.v (by kernel_rfl) (by kernel_rfl) ?_
 intro b1 w2 z2 p2
 refine Gn 4 [(3, .bool false)] Jeq ?_
 refine Op_.alloc 44 4 0 (.agg #[.u 0, .u 0, .u 0, .u 0]) [.u 0, .u 0, .u 0, .u 0] p2 Goes.v (by kernel_rfl) (by kernel_rfl) ?_
 intro b3 w3 z3 p3
 refine Gn 14 [(5, .int .u8 x0), (6, .int .u8 (ior .u8 x0 32))] Jez ?_
 refine Gn 9 [(8, .bool (decide (ior .u8 x0 32 = 119))), (7, .bool (decide (ior .u8 x0 32 = 119)))] Jf4 ?_
 refine ite_some h (fun h5 h => ?_) (fun h5 h => ?_)
 ·
  rw [decide_eq_true h5]
  refine Gn 2 [] Jf0 ?_
  have z4 : Ext S0 w3 S0 (w3).drew := Ext.draw
  have p4 := p3.draw
  refine Goes.drawn (s := [4, 5, 6]) (F := Fc S0 (w3).drew [(⟨b3, 0, none⟩, .u 0), (⟨b3, 1, none⟩, .u 0), (⟨b3, 2, none⟩, .u 0), (⟨b3, 3, none⟩, .u 0)]) 6 7 (by kernel_rfl) (by kernel_rfl) (by kernel_rfl) (by kernel_rfl) ?_
  generalize (w3).drew = w4 at z4 p4 ⊢
  refine AnyG.ldN (i := 0) 44 (.tmp 4) 13 44 ⟨b3, 0, none⟩ [.u 0, .u 0, .u 0, .u 0] (by kernel_rfl) (by kernel_rfl) (Fc.here (p4.cs [(0, 0, 4)])) (by kernel_rfl) (by kernel_rfl) (by kernel_rfl) (fun _ h j v hj => by match j, hj with | 0, rfl => exact h.2.at_ 0 rfl | 1, rfl => exact h.2.at_ 1 rfl | 2, rfl => exact h.2.at_ 2 rfl | 3, rfl => exact h.2.at_ 3 rfl | (j + 4), hj => simp at hj) ?_
  refine bind_some' h fun y6 e7 h => ?_
  refine Op_.call (.call { callee := .value (.func 112), args := #[(.const (.int .u8 97)), (.const (.int .u8 122))], argTypes := #[5, 5] }) 14 44 112 #[.int .u8 97, .int .u8 122] (AnyG.cs (i := 1) (by kernel_rfl) (by kernel_rfl)) (by kernel_rfl) (W.z23 97 122 y6 e7  p4 ) ?_
  rintro _ w5 ⟨S5, udy, rfl, z5, p5, u5n, udz⟩
  refine AnyG.next z5 ⟨(p5.c 0 0), (p5.c 0 1), (p5.c 0 2), (p5.c 0 3), trivial⟩ ?_
  refine bind_some' h fun y8 e9 h => ?_
  refine Op_.call (.call { callee := .value (.func 112), args := #[(.const (.int .u8 65)), (.const (.int .u8 90))], argTypes := #[5, 5] }) 15 44 112 #[.int .u8 65, .int .u8 90] (AnyG.cs (i := 2) (by kernel_rfl) (by kernel_rfl)) (by kernel_rfl) (W.z23 65 90 y8 e9  p5 ) ?_
  rintro _ w6 ⟨S6, ue0, rfl, z6, p6, ue1, ue2⟩
  refine AnyG.next z6 ⟨(p6.c 0 0), (p6.c 0 1), (p6.c 0 2), (p6.c 0 3), trivial⟩ ?_
  refine bind_some' h fun y10 e11 h => ?_
  refine Op_.call (.call { callee := .value (.func 95), args := #[(.const (.int .u8 95))], argTypes := #[5] }) 16 44 95 #[.int .u8 95] (AnyG.cs (i := 3) (by kernel_rfl) (by kernel_rfl)) (by kernel_rfl) (W.z1z 95 y10 e11  p6 ) ?_
  rintro _ w7 ⟨S7, ue3, rfl, z7, p7, ue4, ue5⟩
  refine AnyG.next z7 ⟨(p7.c 0 0), (p7.c 0 1), (p7.c 0 2), (p7.c 0 3), trivial⟩ ?_
  have l12 := Els.len1 (u5n.ext (z6.trans z7)) udz rfl
  obtain rfl := els_lit4 (u5n.ext (z6.trans z7)) udz
  have l13 := Els.len1 (ue1.ext z7) ue2 rfl
  obtain rfl := els_lit4 (ue1.ext z7) ue2
  have l14 := Els.len1 ue4 ue5 rfl
  obtain rfl := els_lit4 ue4 ue5
  have f16 : Els (kArr 4 (kInt .u64)) S7 w7 ((.u 0 :: .u 0 :: .u 0 :: .u 0 :: U4 y6 (U4 y8 (U4 y10 []))) : List Value) [[0, 0, 0, 0], y6, y8, y10] := by exact (Els.cons (K := (kArr 4 (kInt .u64))) (vs := [.u 0, .u 0, .u 0, .u 0]) (x := [0, 0, 0, 0]) ⟨rfl, (Els.cons (K := (kInt .u64)) (vs := [.u 0]) (x := 0) rfl (Els.cons (K := (kInt .u64)) (vs := [.u 0]) (x := 0) rfl (Els.cons (K := (kInt .u64)) (vs := [.u 0]) (x := 0) rfl (Els.cons (K := (kInt .u64)) (vs := [.u 0]) (x := 0) rfl Els.nil))))⟩ (Els.cons (K := (kArr 4 (kInt .u64))) (vs := (U4 y6 [])) (x := y6) ⟨l12, els_mk4 l12⟩ (Els.cons (K := (kArr 4 (kInt .u64))) (vs := (U4 y8 [])) (x := y8) ⟨l13, els_mk4 l13⟩ (Els.cons (K := (kArr 4 (kInt .u64))) (vs := (U4 y10 [])) (x := y10) ⟨l14, els_mk4 l14⟩ Els.nil))))
  refine Op_.made (.buildSlice 156 4 #[(0, (.tmp 13)), (1, (.tmp 14)), (2, (.tmp 15)), (3, (.tmp 16))]) 17 156 (fun b => .slice (Gp (some b)) 4 4) 44 ((.u 0 :: .u 0 :: .u 0 :: .u 0 :: U4 y6 (U4 y8 (U4 y10 []))) : List Value) p7 (AnyG.vs (i := 4) (by kernel_rfl) (by kernel_rfl)) (by kernel_rfl) ?_
  intro b15 w8 z8 p8
  have p8 : Hp nz wz S7 w8 (((some b15), .row 44 ((.u 0 :: .u 0 :: .u 0 :: .u 0 :: U4 y6 (U4 y8 (U4 y10 []))) : List Value) (4 * (kArr 4 (kInt .u64)).size) 0) :: (some b3, .row 44 [.u 0, .u 0, .u 0, .u 0] 4 0) :: (some b1, .row 44 [.u 0, .u 0, .u 0, .u 0] 4 0) :: Lr) := p8
  refine AnyG.last [5, 6] (Fc S7 w8 []) (by decide) ?_
  obtain ⟨S9, z9, p9, f18⟩ := p8.freezeRd 0 rfl (f16.ext z8) (by decide)
  refine AnyG.refz z9 ?_
  refine bind_some' h fun y19 e20 h => ?_
  refine Op_.call (kc 104 [17] #[156]) 18 44 104 #[.slice (Gp (some b15)) 4 4] (AnyG.cs (i := 5) (by kernel_rfl) (by kernel_rfl)) (by kernel_rfl) (W.z25 [[0, 0, 0, 0], y6, y8, y10] y19 e20 (Gp (some b15)) 4 4 p9 f18 rfl) ?_
  rintro _ w10 ⟨S10, ue6, rfl, z10, p10, u6i, ue7⟩
  refine AnyG.last [6] (Fc S10 w10 []) (by decide) ?_
  have f21 : Els (kInt .u64) S10 w10 ([.u 0, .u 0, .u 0, .u 0] : List Value) [0, 0, 0, 0] := (Els.cons (K := (kInt .u64)) (vs := [.u 0]) (x := 0) rfl (Els.cons (K := (kInt .u64)) (vs := [.u 0]) (x := 0) rfl (Els.cons (K := (kInt .u64)) (vs := [.u 0]) (x := 0) rfl (Els.cons (K := (kInt .u64)) (vs := [.u 0]) (x := 0) rfl Els.nil))))
  refine Op_.stA 44 (.tmp 4) (.tmp 18) 0 1 b3 4 ue6 p10 rfl rfl (AnyG.ss (i := 6) (by kernel_rfl) (by kernel_rfl)) (by kernel_rfl) (by kernel_rfl) (by kernel_rfl) ue7 (Els.one u6i) ?_
  intro w11 z11 p11
  refine AnyG.last [] (Fc S10 w11 []) (by decide) ?_
  refine AnyG.done (by kernel_rfl) ?_ _
  have p11 := p11.dp 0
  refine Gn 2 [] Jf6 ?_
  have z12 : Ext S10 w11 S10 (w11).drew := Ext.draw
  have p12 := p11.draw
  refine Goes.drawn (s := [2, 3, 4]) (F := Fc S10 (w11).drew ([] ++ (rowCellsO (some b3) ue6 ++ []))) 7 5 (by kernel_rfl) (by kernel_rfl) (by kernel_rfl) (by kernel_rfl) ?_
  generalize (w11).drew = w12 at z12 p12 ⊢
  refine AnyG.ldN (i := 0) 44 (.tmp 4) 19 44 ⟨b3, 0, none⟩ ue6 (by kernel_rfl) (by kernel_rfl) (Fc.here (Cells.app trivial (Cells.app (Cells.rowO (p12.mem 0 rfl)) trivial))) (by kernel_rfl) (by kernel_rfl) (by rw [ue7]; kernel_rfl) (fun _ h => h.2.right.left.rowsAt (fun q v hq => by rw [Nat.zero_add]; exact hq)) ?_
  refine bind_some' h fun y22 e23 h => ?_
  refine Op_.call (.call { callee := .value (.func 112), args := #[(.const (.int .u8 48)), (.const (.int .u8 57))], argTypes := #[5, 5] }) 20 44 112 #[.int .u8 48, .int .u8 57] (AnyG.cs (i := 1) (by kernel_rfl) (by kernel_rfl)) (by kernel_rfl) (W.z23 48 57 y22 e23  p12 ) ?_
  rintro _ w13 ⟨S13, ue8, rfl, z13, p13, ue9, uea⟩
  refine AnyG.next z13 (Cells.app trivial (Cells.app (Cells.rowO (p13.mem 0 rfl)) trivial)) ?_
  have l24 := Els.len1 (u6i.ext ((z11.trans z12).trans z13)) ue7 rfl
  obtain rfl := els_lit4 (u6i.ext ((z11.trans z12).trans z13)) ue7
  have l25 := Els.len1 ue9 uea rfl
  obtain rfl := els_lit4 ue9 uea
  have f27 : Els (kArr 4 (kInt .u64)) S13 w13 ((U4 y19 (U4 y22 [])) : List Value) [y19, y22] := by exact (Els.cons (K := (kArr 4 (kInt .u64))) (vs := (U4 y19 [])) (x := y19) ⟨l24, els_mk4 l24⟩ (Els.cons (K := (kArr 4 (kInt .u64))) (vs := (U4 y22 [])) (x := y22) ⟨l25, els_mk4 l25⟩ Els.nil))
  refine Op_.made (.buildSlice 156 2 #[(0, (.tmp 19)), (1, (.tmp 20))]) 21 156 (fun b => .slice (Gp (some b)) 2 2) 44 ((U4 y19 (U4 y22 [])) : List Value) p13 (AnyG.vs (i := 2) (by kernel_rfl) (by kernel_rfl)) (by kernel_rfl) ?_
  intro b26 w14 z14 p14
  have p14 : Hp nz wz S13 w14 (((some b26), .row 44 ((U4 y19 (U4 y22 [])) : List Value) (2 * (kArr 4 (kInt .u64)).size) 0) :: (some b3, .row 44 ((U4 y19 []) : List Value) 4 0) :: (some b1, .row 44 [.u 0, .u 0, .u 0, .u 0] 4 0) :: Lr) := p14
  refine AnyG.last [3, 4] (Fc S13 w14 []) (by decide) ?_
  obtain ⟨S15, z15, p15, f29⟩ := p14.freezeRd 0 rfl (f27.ext z14) (by decide)
  refine AnyG.refz z15 ?_
  refine bind_some' h fun y30 e31 h => ?_
  refine Op_.call (kc 104 [21] #[156]) 22 44 104 #[.slice (Gp (some b26)) 2 2] (AnyG.cs (i := 3) (by kernel_rfl) (by kernel_rfl)) (by kernel_rfl) (W.z25 [y19, y22] y30 e31 (Gp (some b26)) 2 2 p15 f29 rfl) ?_
  rintro _ w16 ⟨S16, ueb, rfl, z16, p16, uec, ued⟩
  refine AnyG.last [4] (Fc S16 w16 []) (by decide) ?_
  refine Op_.stA 44 (.tmp 4) (.tmp 22) 0 1 b3 4 ueb p16 rfl ue7 (AnyG.ss (i := 4) (by kernel_rfl) (by kernel_rfl)) (by kernel_rfl) (by kernel_rfl) (by kernel_rfl) ued (Els.one uec) ?_
  intro w17 z17 p17
  refine AnyG.last [] (Fc S16 w17 []) (by decide) ?_
  refine AnyG.done (by kernel_rfl) ?_ _
  have p17 := p17.dp 0
  refine Gn 8 [(29, .int .u8 x0), (30, .int .u8 (iand .u8 x0 32)), (31, .bool (decide (iand .u8 x0 32 = 0)))] Jf8 ?_
  refine ite_some h (fun h32 h => ?_) (fun h32 h => ?_)
  ·
   rw [decide_eq_true h32]
   refine Gn 2 [] Jf9 ?_
   refine Op_.ldN 44 (.tmp 4) 32 44 ⟨b3, 0, none⟩ ueb Goes.v (by kernel_rfl) (by kernel_rfl) (by rw [ued]; kernel_rfl) (At_all (p17.mem 0 rfl)) ?_
   refine bind_some' h fun y33 e34 h => ?_
   refine Gc (kc 94 [32] #[44]) 33 44 94 _ (W.z20 y30 y33 e34 ueb p17 (uec.ext z17) ued) ?_
   rintro _ w18 ⟨S18, uee, rfl, z18, p18, uef, ueg⟩
   refine Op_.stA 44 (.tmp 4) (.tmp 33) 0 0 b3 4 uee p18 rfl ued Goes.s (by kernel_rfl) (by kernel_rfl) (by kernel_rfl) ueg (Els.one uef) ?_
   intro w19 z19 p19
   refine Gn 3 [] Jfb ?_
   refine Op_.ldN 44 (.tmp 4) 34 44 ⟨b3, 0, none⟩ uee Goes.v (by kernel_rfl) (by kernel_rfl) (by rw [ueg]; kernel_rfl) (At_all (p19.mem 0 rfl)) ?_
   have f35 : Els (kInt .u64) S18 w19 ([.u 0, .u 0, .u 0, .u 0] : List Value) [0, 0, 0, 0] := (Els.cons (K := (kInt .u64)) (vs := [.u 0]) (x := 0) rfl (Els.cons (K := (kInt .u64)) (vs := [.u 0]) (x := 0) rfl (Els.cons (K := (kInt .u64)) (vs := [.u 0]) (x := 0) rfl (Els.cons (K := (kInt .u64)) (vs := [.u 0]) (x := 0) rfl Els.nil))))
   refine Op_.stA 44 (.tmp 2) (.tmp 34) 0 1 b1 4 uee p19 rfl rfl Goes.s (by kernel_rfl) (by kernel_rfl) (by kernel_rfl) ueg (Els.one (uef.ext z19)) ?_
   intro w20 z20 p20
   refine Gn 2 [(3, .bool true)] Jfa ?_
   obtain rfl := Option.some.inj h
   have p20 := p20.dp 0
   exact Goes.ret (fn := Tryz.f105) (by kernel_rfl) (v := .tuple #[.agg uee.toArray, .bool true]) (results_n2 (fn := Tryz.f105) (a := .cell 2 44) (b := .tmp 3) (by kernel_rfl) (resV_cell ⟨b1, 0, none⟩ (by kernel_rfl) (run_loadN uee (by kernel_rfl) (by rw [ueg]; kernel_rfl) (At_all (p20.mem 0 rfl)))) (resV_tmp (by kernel_rfl))) ⟨S18, uee, rfl, ((((((((((((((((((((Ext.refl S0 w0).trans z2).trans z3).trans z4).trans z5).trans z6).trans z7).trans z8).trans z9).trans z10).trans z11).trans z12).trans z13).trans z14).trans z15).trans z16).trans z17).trans z18).trans z19).trans z20), p20.drop, (uef.ext (z19.trans z20)), ueg⟩
  ·
   rw [decide_eq_false h32]
   refine Gn 4 [] Jfb ?_
   refine Op_.ldN 44 (.tmp 4) 34 44 ⟨b3, 0, none⟩ ueb Goes.v (by kernel_rfl) (by kernel_rfl) (by rw [ued]; kernel_rfl) (At_all (p17.mem 0 rfl)) ?_
   have f36 : Els (kInt .u64) S16 w17 ([.u 0, .u 0, .u 0, .u 0] : List Value) [0, 0, 0, 0] := (Els.cons (K := (kInt .u64)) (vs := [.u 0]) (x := 0) rfl (Els.cons (K := (kInt .u64)) (vs := [.u 0]) (x := 0) rfl (Els.cons (K := (kInt .u64)) (vs := [.u 0]) (x := 0) rfl (Els.cons (K := (kInt .u64)) (vs := [.u 0]) (x := 0) rfl Els.nil))))
   refine Op_.stA 44 (.tmp 2) (.tmp 34) 0 1 b1 4 ueb p17 rfl rfl Goes.s (by kernel_rfl) (by kernel_rfl) (by kernel_rfl) ued (Els.one (uec.ext z17)) ?_
   intro w21 z21 p21
   refine Gn 2 [(3, .bool true)] Jfa ?_
   obtain rfl := Option.some.inj h
   have p21 := p21.dp 0
   exact Goes.ret (fn := Tryz.f105) (by kernel_rfl) (v := .tuple #[.agg ueb.toArray, .bool true]) (results_n2 (fn := Tryz.f105) (a := .cell 2 44) (b := .tmp 3) (by kernel_rfl) (resV_cell ⟨b1, 0, none⟩ (by kernel_rfl) (run_loadN ueb (by kernel_rfl) (by rw [ued]; kernel_rfl) (At_all (p21.mem 0 rfl)))) (resV_tmp (by kernel_rfl))) ⟨S16, ueb, rfl, ((((((((((((((((((Ext.refl S0 w0).trans z2).trans z3).trans z4).trans z5).trans z6).trans z7).trans z8).trans z9).trans z10).trans z11).trans z12).trans z13).trans z14).trans z15).trans z16).trans z17).trans z21), p21.drop, (uec.ext (z17.trans z21)), ued⟩
 ·
  rw [decide_eq_false h5]
  refine Gn 8 [(10, .bool (decide (ior .u8 x0 32 = 100))), (9, .bool (decide (ior .u8 x0 32 = 100)))] Jfd ?_
  refine ite_some h (fun h37 h => ?_) (fun h37 h => ?_)
  ·
   rw [decide_eq_true h37]
   refine Gn 3 [] Jf6 ?_
   have z22 : Ext S0 w3 S0 (w3).drew := Ext.draw
   have p22 := p3.draw
   refine Goes.drawn (s := [2, 3, 4]) (F := Fc S0 (w3).drew [(⟨b3, 0, none⟩, .u 0), (⟨b3, 1, none⟩, .u 0), (⟨b3, 2, none⟩, .u 0), (⟨b3, 3, none⟩, .u 0)]) 7 5 (by kernel_rfl) (by kernel_rfl) (by kernel_rfl) (by kernel_rfl) ?_
   generalize (w3).drew = w22 at z22 p22 ⊢
   refine AnyG.ldN (i := 0) 44 (.tmp 4) 19 44 ⟨b3, 0, none⟩ [.u 0, .u 0, .u 0, .u 0] (by kernel_rfl) (by kernel_rfl) (Fc.here (p22.cs [(0, 0, 4)])) (by kernel_rfl) (by kernel_rfl) (by kernel_rfl) (fun _ h j v hj => by match j, hj with | 0, rfl => exact h.2.at_ 0 rfl | 1, rfl => exact h.2.at_ 1 rfl | 2, rfl => exact h.2.at_ 2 rfl | 3, rfl => exact h.2.at_ 3 rfl | (j + 4), hj => simp at hj) ?_
   refine bind_some' h fun y38 e39 h => ?_
   refine Op_.call (.call { callee := .value (.func 112), args := #[(.const (.int .u8 48)), (.const (.int .u8 57))], argTypes := #[5, 5] }) 20 44 112 #[.int .u8 48, .int .u8 57] (AnyG.cs (i := 1) (by kernel_rfl) (by kernel_rfl)) (by kernel_rfl) (W.z23 48 57 y38 e39  p22 ) ?_
   rintro _ w23 ⟨S23, ueh, rfl, z23, p23, uei, uej⟩
   refine AnyG.next z23 ⟨(p23.c 0 0), (p23.c 0 1), (p23.c 0 2), (p23.c 0 3), trivial⟩ ?_
   have l40 := Els.len1 uei uej rfl
   obtain rfl := els_lit4 uei uej
   have f42 : Els (kArr 4 (kInt .u64)) S23 w23 ((.u 0 :: .u 0 :: .u 0 :: .u 0 :: U4 y38 []) : List Value) [[0, 0, 0, 0], y38] := by exact (Els.cons (K := (kArr 4 (kInt .u64))) (vs := [.u 0, .u 0, .u 0, .u 0]) (x := [0, 0, 0, 0]) ⟨rfl, (Els.cons (K := (kInt .u64)) (vs := [.u 0]) (x := 0) rfl (Els.cons (K := (kInt .u64)) (vs := [.u 0]) (x := 0) rfl (Els.cons (K := (kInt .u64)) (vs := [.u 0]) (x := 0) rfl (Els.cons (K := (kInt .u64)) (vs := [.u 0]) (x := 0) rfl Els.nil))))⟩ (Els.cons (K := (kArr 4 (kInt .u64))) (vs := (U4 y38 [])) (x := y38) ⟨l40, els_mk4 l40⟩ Els.nil))
   refine Op_.made (.buildSlice 156 2 #[(0, (.tmp 19)), (1, (.tmp 20))]) 21 156 (fun b => .slice (Gp (some b)) 2 2) 44 ((.u 0 :: .u 0 :: .u 0 :: .u 0 :: U4 y38 []) : List Value) p23 (AnyG.vs (i := 2) (by kernel_rfl) (by kernel_rfl)) (by kernel_rfl) ?_
   intro b41 w24 z24 p24
   have p24 : Hp nz wz S23 w24 (((some b41), .row 44 ((.u 0 :: .u 0 :: .u 0 :: .u 0 :: U4 y38 []) : List Value) (2 * (kArr 4 (kInt .u64)).size) 0) :: (some b3, .row 44 [.u 0, .u 0, .u 0, .u 0] 4 0) :: (some b1, .row 44 [.u 0, .u 0, .u 0, .u 0] 4 0) :: Lr) := p24
   refine AnyG.last [3, 4] (Fc S23 w24 []) (by decide) ?_
   obtain ⟨S25, z25, p25, f44⟩ := p24.freezeRd 0 rfl (f42.ext z24) (by decide)
   refine AnyG.refz z25 ?_
   refine bind_some' h fun y45 e46 h => ?_
   refine Op_.call (kc 104 [21] #[156]) 22 44 104 #[.slice (Gp (some b41)) 2 2] (AnyG.cs (i := 3) (by kernel_rfl) (by kernel_rfl)) (by kernel_rfl) (W.z25 [[0, 0, 0, 0], y38] y45 e46 (Gp (some b41)) 2 2 p25 f44 rfl) ?_
   rintro _ w26 ⟨S26, uek, rfl, z26, p26, uel, uem⟩
   refine AnyG.last [4] (Fc S26 w26 []) (by decide) ?_
   have f47 : Els (kInt .u64) S26 w26 ([.u 0, .u 0, .u 0, .u 0] : List Value) [0, 0, 0, 0] := (Els.cons (K := (kInt .u64)) (vs := [.u 0]) (x := 0) rfl (Els.cons (K := (kInt .u64)) (vs := [.u 0]) (x := 0) rfl (Els.cons (K := (kInt .u64)) (vs := [.u 0]) (x := 0) rfl (Els.cons (K := (kInt .u64)) (vs := [.u 0]) (x := 0) rfl Els.nil))))
   refine Op_.stA 44 (.tmp 4) (.tmp 22) 0 1 b3 4 uek p26 rfl rfl (AnyG.ss (i := 4) (by kernel_rfl) (by kernel_rfl)) (by kernel_rfl) (by kernel_rfl) (by kernel_rfl) uem (Els.one uel) ?_
   intro w27 z27 p27
   refine AnyG.last [] (Fc S26 w27 []) (by decide) ?_
   refine AnyG.done (by kernel_rfl) ?_ _
   have p27 := p27.dp 0
   refine Gn 8 [(29, .int .u8 x0), (30, .int .u8 (iand .u8 x0 32)), (31, .bool (decide (iand .u8 x0 32 = 0)))] Jf8 ?_
   refine ite_some h (fun h48 h => ?_) (fun h48 h => ?_)
   ·
    rw [decide_eq_true h48]
    refine Gn 2 [] Jf9 ?_
    refine Op_.ldN 44 (.tmp 4) 32 44 ⟨b3, 0, none⟩ uek Goes.v (by kernel_rfl) (by kernel_rfl) (by rw [uem]; kernel_rfl) (At_all (p27.mem 0 rfl)) ?_
    refine bind_some' h fun y49 e50 h => ?_
    refine Gc (kc 94 [32] #[44]) 33 44 94 _ (W.z20 y45 y49 e50 uek p27 (uel.ext z27) uem) ?_
    rintro _ w28 ⟨S28, uen, rfl, z28, p28, ueo, uep⟩
    refine Op_.stA 44 (.tmp 4) (.tmp 33) 0 0 b3 4 uen p28 rfl uem Goes.s (by kernel_rfl) (by kernel_rfl) (by kernel_rfl) uep (Els.one ueo) ?_
    intro w29 z29 p29
    refine Gn 3 [] Jfb ?_
    refine Op_.ldN 44 (.tmp 4) 34 44 ⟨b3, 0, none⟩ uen Goes.v (by kernel_rfl) (by kernel_rfl) (by rw [uep]; kernel_rfl) (At_all (p29.mem 0 rfl)) ?_
    have f51 : Els (kInt .u64) S28 w29 ([.u 0, .u 0, .u 0, .u 0] : List Value) [0, 0, 0, 0] := (Els.cons (K := (kInt .u64)) (vs := [.u 0]) (x := 0) rfl (Els.cons (K := (kInt .u64)) (vs := [.u 0]) (x := 0) rfl (Els.cons (K := (kInt .u64)) (vs := [.u 0]) (x := 0) rfl (Els.cons (K := (kInt .u64)) (vs := [.u 0]) (x := 0) rfl Els.nil))))
    refine Op_.stA 44 (.tmp 2) (.tmp 34) 0 1 b1 4 uen p29 rfl rfl Goes.s (by kernel_rfl) (by kernel_rfl) (by kernel_rfl) uep (Els.one (ueo.ext z29)) ?_
    intro w30 z30 p30
    refine Gn 2 [(3, .bool true)] Jfa ?_
    obtain rfl := Option.some.inj h
    have p30 := p30.dp 0
    exact Goes.ret (fn := Tryz.f105) (by kernel_rfl) (v := .tuple #[.agg uen.toArray, .bool true]) (results_n2 (fn := Tryz.f105) (a := .cell 2 44) (b := .tmp 3) (by kernel_rfl) (resV_cell ⟨b1, 0, none⟩ (by kernel_rfl) (run_loadN uen (by kernel_rfl) (by rw [uep]; kernel_rfl) (At_all (p30.mem 0 rfl)))) (resV_tmp (by kernel_rfl))) ⟨S28, uen, rfl, ((((((((((((Ext.refl S0 w0).trans z2).trans z3).trans z22).trans z23).trans z24).trans z25).trans z26).trans z27).trans z28).trans z29).trans z30), p30.drop, (ueo.ext (z29.trans z30)), uep⟩
   ·
    rw [decide_eq_false h48]
    refine Gn 4 [] Jfb ?_
    refine Op_.ldN 44 (.tmp 4) 34 44 ⟨b3, 0, none⟩ uek Goes.v (by kernel_rfl) (by kernel_rfl) (by rw [uem]; kernel_rfl) (At_all (p27.mem 0 rfl)) ?_
    have f52 : Els (kInt .u64) S26 w27 ([.u 0, .u 0, .u 0, .u 0] : List Value) [0, 0, 0, 0] := (Els.cons (K := (kInt .u64)) (vs := [.u 0]) (x := 0) rfl (Els.cons (K := (kInt .u64)) (vs := [.u 0]) (x := 0) rfl (Els.cons (K := (kInt .u64)) (vs := [.u 0]) (x := 0) rfl (Els.cons (K := (kInt .u64)) (vs := [.u 0]) (x := 0) rfl Els.nil))))
    refine Op_.stA 44 (.tmp 2) (.tmp 34) 0 1 b1 4 uek p27 rfl rfl Goes.s (by kernel_rfl) (by kernel_rfl) (by kernel_rfl) uem (Els.one (uel.ext z27)) ?_
    intro w31 z31 p31
    refine Gn 2 [(3, .bool true)] Jfa ?_
    obtain rfl := Option.some.inj h
    have p31 := p31.dp 0
    exact Goes.ret (fn := Tryz.f105) (by kernel_rfl) (v := .tuple #[.agg uek.toArray, .bool true]) (results_n2 (fn := Tryz.f105) (a := .cell 2 44) (b := .tmp 3) (by kernel_rfl) (resV_cell ⟨b1, 0, none⟩ (by kernel_rfl) (run_loadN uek (by kernel_rfl) (by rw [uem]; kernel_rfl) (At_all (p31.mem 0 rfl)))) (resV_tmp (by kernel_rfl))) ⟨S26, uek, rfl, ((((((((((Ext.refl S0 w0).trans z2).trans z3).trans z22).trans z23).trans z24).trans z25).trans z26).trans z27).trans z31), p31.drop, (uel.ext (z27.trans z31)), uem⟩
  ·
   rw [decide_eq_false h37]
   refine Gn 7 [(12, .bool (decide (ior .u8 x0 32 = 115))), (11, .bool (decide (ior .u8 x0 32 = 115)))] Jfe ?_
   refine ite_some h (fun h53 h => ?_) (fun h53 h => ?_)
   ·
    rw [decide_eq_true h53]
    refine Gn 4 [] Jfg ?_
    refine bind_some' h fun y54 e55 h => ?_
    refine Gc (.call { callee := .value (.func 112), args := #[(.const (.int .u8 9)), (.const (.int .u8 10))], argTypes := #[5, 5] }) 23 44 112 _ (W.z23 9 10 y54 e55  p3 ) ?_
    rintro _ w32 ⟨S32, ueq, rfl, z32, p32, uer, ues⟩
    refine bind_some' h fun y56 e57 h => ?_
    refine Gc (.call { callee := .value (.func 112), args := #[(.const (.int .u8 12)), (.const (.int .u8 13))], argTypes := #[5, 5] }) 24 44 112 _ (W.z23 12 13 y56 e57  p32 ) ?_
    rintro _ w33 ⟨S33, uet, rfl, z33, p33, ueu, uev⟩
    refine bind_some' h fun y58 e59 h => ?_
    refine Gc (.call { callee := .value (.func 95), args := #[(.const (.int .u8 32))], argTypes := #[5] }) 25 44 95 _ (W.z1z 32 y58 e59  p33 ) ?_
    rintro _ w34 ⟨S34, uew, rfl, z34, p34, uex, uey⟩
    have l60 := Els.len1 (uer.ext (z33.trans z34)) ues rfl
    obtain rfl := els_lit4 (uer.ext (z33.trans z34)) ues
    have l61 := Els.len1 (ueu.ext z34) uev rfl
    obtain rfl := els_lit4 (ueu.ext z34) uev
    have l62 := Els.len1 uex uey rfl
    obtain rfl := els_lit4 uex uey
    have f64 : Els (kArr 4 (kInt .u64)) S34 w34 ((U4 y54 (U4 y56 (U4 y58 []))) : List Value) [y54, y56, y58] := by exact (Els.cons (K := (kArr 4 (kInt .u64))) (vs := (U4 y54 [])) (x := y54) ⟨l60, els_mk4 l60⟩ (Els.cons (K := (kArr 4 (kInt .u64))) (vs := (U4 y56 [])) (x := y56) ⟨l61, els_mk4 l61⟩ (Els.cons (K := (kArr 4 (kInt .u64))) (vs := (U4 y58 [])) (x := y58) ⟨l62, els_mk4 l62⟩ Els.nil)))
    refine Op_.made (.buildSlice 156 3 #[(0, (.tmp 23)), (1, (.tmp 24)), (2, (.tmp 25))]) 26 156 (fun b => .slice (Gp (some b)) 3 3) 44 ((U4 y54 (U4 y56 (U4 y58 []))) : List Value) p34 Goes.v (by kernel_rfl) ?_
    intro b63 w35 z35 p35
    have p35 : Hp nz wz S34 w35 (((some b63), .row 44 ((U4 y54 (U4 y56 (U4 y58 []))) : List Value) (3 * (kArr 4 (kInt .u64)).size) 0) :: (some b3, .row 44 [.u 0, .u 0, .u 0, .u 0] 4 0) :: (some b1, .row 44 [.u 0, .u 0, .u 0, .u 0] 4 0) :: Lr) := p35
    obtain ⟨S36, z36, p36, f66⟩ := p35.freezeRd 0 rfl (f64.ext z35) (by decide)
    refine bind_some' h fun y67 e68 h => ?_
    refine Gc (kc 104 [26] #[156]) 27 44 104 _ (W.z25 [y54, y56, y58] y67 e68 (Gp (some b63)) 3 3 p36 f66 rfl) ?_
    rintro _ w37 ⟨S37, uez, rfl, z37, p37, uf0, uf1⟩
    have p37 := p37.dp 0
    have f69 : Els (kInt .u64) S37 w37 ([.u 0, .u 0, .u 0, .u 0] : List Value) [0, 0, 0, 0] := (Els.cons (K := (kInt .u64)) (vs := [.u 0]) (x := 0) rfl (Els.cons (K := (kInt .u64)) (vs := [.u 0]) (x := 0) rfl (Els.cons (K := (kInt .u64)) (vs := [.u 0]) (x := 0) rfl (Els.cons (K := (kInt .u64)) (vs := [.u 0]) (x := 0) rfl Els.nil))))
    refine Op_.stA 44 (.tmp 4) (.tmp 27) 0 0 b3 4 uez p37 rfl rfl Goes.s (by kernel_rfl) (by kernel_rfl) (by kernel_rfl) uf1 (Els.one uf0) ?_
    intro w38 z38 p38
    refine Gn 9 [(29, .int .u8 x0), (30, .int .u8 (iand .u8 x0 32)), (31, .bool (decide (iand .u8 x0 32 = 0)))] Jf8 ?_
    refine ite_some h (fun h70 h => ?_) (fun h70 h => ?_)
    ·
     rw [decide_eq_true h70]
     refine Gn 2 [] Jf9 ?_
     refine Op_.ldN 44 (.tmp 4) 32 44 ⟨b3, 0, none⟩ uez Goes.v (by kernel_rfl) (by kernel_rfl) (by rw [uf1]; kernel_rfl) (At_all (p38.mem 0 rfl)) ?_
     refine bind_some' h fun y71 e72 h => ?_
     refine Gc (kc 94 [32] #[44]) 33 44 94 _ (W.z20 y67 y71 e72 uez p38 (uf0.ext z38) uf1) ?_
     rintro _ w39 ⟨S39, uf2, rfl, z39, p39, uf3, uf4⟩
     refine Op_.stA 44 (.tmp 4) (.tmp 33) 0 0 b3 4 uf2 p39 rfl uf1 Goes.s (by kernel_rfl) (by kernel_rfl) (by kernel_rfl) uf4 (Els.one uf3) ?_
     intro w40 z40 p40
     refine Gn 3 [] Jfb ?_
     refine Op_.ldN 44 (.tmp 4) 34 44 ⟨b3, 0, none⟩ uf2 Goes.v (by kernel_rfl) (by kernel_rfl) (by rw [uf4]; kernel_rfl) (At_all (p40.mem 0 rfl)) ?_
     have f73 : Els (kInt .u64) S39 w40 ([.u 0, .u 0, .u 0, .u 0] : List Value) [0, 0, 0, 0] := (Els.cons (K := (kInt .u64)) (vs := [.u 0]) (x := 0) rfl (Els.cons (K := (kInt .u64)) (vs := [.u 0]) (x := 0) rfl (Els.cons (K := (kInt .u64)) (vs := [.u 0]) (x := 0) rfl (Els.cons (K := (kInt .u64)) (vs := [.u 0]) (x := 0) rfl Els.nil))))
     refine Op_.stA 44 (.tmp 2) (.tmp 34) 0 1 b1 4 uf2 p40 rfl rfl Goes.s (by kernel_rfl) (by kernel_rfl) (by kernel_rfl) uf4 (Els.one (uf3.ext z40)) ?_
     intro w41 z41 p41
     refine Gn 2 [(3, .bool true)] Jfa ?_
     obtain rfl := Option.some.inj h
     have p41 := p41.dp 0
     exact Goes.ret (fn := Tryz.f105) (by kernel_rfl) (v := .tuple #[.agg uf2.toArray, .bool true]) (results_n2 (fn := Tryz.f105) (a := .cell 2 44) (b := .tmp 3) (by kernel_rfl) (resV_cell ⟨b1, 0, none⟩ (by kernel_rfl) (run_loadN uf2 (by kernel_rfl) (by rw [uf4]; kernel_rfl) (At_all (p41.mem 0 rfl)))) (resV_tmp (by kernel_rfl))) ⟨S39, uf2, rfl, (((((((((((((Ext.refl S0 w0).trans z2).trans z3).trans z32).trans z33).trans z34).trans z35).trans z36).trans z37).trans z38).trans z39).trans z40).trans z41), p41.drop, (uf3.ext (z40.trans z41)), uf4⟩
    ·
     rw [decide_eq_false h70]
     refine Gn 4 [] Jfb ?_
     refine Op_.ldN 44 (.tmp 4) 34 44 ⟨b3, 0, none⟩ uez Goes.v (by kernel_rfl) (by kernel_rfl) (by rw [uf1]; kernel_rfl) (At_all (p38.mem 0 rfl)) ?_
     have f74 : Els (kInt .u64) S37 w38 ([.u 0, .u 0, .u 0, .u 0] : List Value) [0, 0, 0, 0] := (Els.cons (K := (kInt .u64)) (vs := [.u 0]) (x := 0) rfl (Els.cons (K := (kInt .u64)) (vs := [.u 0]) (x := 0) rfl (Els.cons (K := (kInt .u64)) (vs := [.u 0]) (x := 0) rfl (Els.cons (K := (kInt .u64)) (vs := [.u 0]) (x := 0) rfl Els.nil))))
     refine Op_.stA 44 (.tmp 2) (.tmp 34) 0 1 b1 4 uez p38 rfl rfl Goes.s (by kernel_rfl) (by kernel_rfl) (by kernel_rfl) uf1 (Els.one (uf0.ext z38)) ?_
     intro w42 z42 p42
     refine Gn 2 [(3, .bool true)] Jfa ?_
     obtain rfl := Option.some.inj h
     have p42 := p42.dp 0
     exact Goes.ret (fn := Tryz.f105) (by kernel_rfl) (v := .tuple #[.agg uez.toArray, .bool true]) (results_n2 (fn := Tryz.f105) (a := .cell 2 44) (b := .tmp 3) (by kernel_rfl) (resV_cell ⟨b1, 0, none⟩ (by kernel_rfl) (run_loadN uez (by kernel_rfl) (by rw [uf1]; kernel_rfl) (At_all (p42.mem 0 rfl)))) (resV_tmp (by kernel_rfl))) ⟨S37, uez, rfl, (((((((((((Ext.refl S0 w0).trans z2).trans z3).trans z32).trans z33).trans z34).trans z35).trans z36).trans z37).trans z38).trans z42), p42.drop, (uf0.ext (z38.trans z42)), uf1⟩
   ·
    rw [decide_eq_false h53]
    refine Gn 6 [] Jfj ?_
    refine Goes.ldN 44 (.tmp 4) 28 44 ⟨b3, 0, none⟩ [.u 0, .u 0, .u 0, .u 0] (p3.pa 0 0) ?_
    refine So 44 (.tmp 2) (.tmp 28) 0 1 b1 0 (.agg #[.u 0, .u 0, .u 0, .u 0]) [.u 0, .u 0, .u 0, .u 0] p3 rfl Goes.s ?_
    intro w43 z43 p43
    have p43 : Hp nz wz S0 w43 ((some b3, .row 44 [.u 0, .u 0, .u 0, .u 0] 4 0) :: (some b1, .row 44 [.u 0, .u 0, .u 0, .u 0] 4 0) :: Lr) := p43
    refine Gn 2 [(3, .bool false)] Jfi ?_
    obtain rfl := Option.some.inj h
    have p43 := p43.dp 0
    exact Goes.ret (fn := Tryz.f105) (by kernel_rfl) (v := .tuple #[.agg #[.u 0, .u 0, .u 0, .u 0], .bool false]) (results_n2 (fn := Tryz.f105) (a := .cell 2 44) (b := .tmp 3) (by kernel_rfl) (resV_cell ⟨b1, 0, none⟩ (by kernel_rfl) (run_loadN [.u 0, .u 0, .u 0, .u 0] (by kernel_rfl) (by kernel_rfl) (p43.pa 0 0))) (resV_tmp (by kernel_rfl))) ⟨S0, ([.u 0, .u 0, .u 0, .u 0] : List Value), rfl, ((((Ext.refl S0 w0).trans z2).trans z3).trans z43), p43.drop, (show Els (kInt .u64) S0 w43 ([.u 0, .u 0, .u 0, .u 0] : List Value) _ from (Els.cons (K := (kInt .u64)) (vs := [.u 0]) (x := 0) rfl (Els.cons (K := (kInt .u64)) (vs := [.u 0]) (x := 0) rfl (Els.cons (K := (kInt .u64)) (vs := [.u 0]) (x := 0) rfl (Els.cons (K := (kInt .u64)) (vs := [.u 0]) (x := 0) rfl Els.nil))))), rfl⟩

def Jfk := Zs [1, 1] B115 []
def Jfl := Zs [1, 0, 1] B115 Jfk
def Jfm := Zt [1, 0, 0] B115 [3, 4, 5] Jfl
def Jfn := Zs [1, 0, 1, 0, 1] B115 Jfk
def Jfo := Zs [1, 1, 1] B115 []

def Post.z2a (r : Int) (v : Value) (w' : World) : Prop :=
 ∃ S', v = .int .u8 r ∧ Ext S0 w0 S' w' ∧ Hp nz wz S' w' (Lr)

theorem W.z2a (x0 : Int) (r : Int) (h : M.syntax_lower x0 = some r) {nz wz S0 w0 Lr} (p0 : Hp nz wz S0 w0 (Lr)) :
  Calls Tryz.prog 115 #[.int .u8 x0] w0 (Rets (Post.z2a nz wz S0 w0 Lr r)) := by
 refine Zf Tryz.f115 B115 12 ?_
 refine Gj 13 [(0, .int .u8 x0)] fun junk => ?_
 delta M.syntax_lower at h
 refine Gn 10 [(2, .int .u8 0), (3, .int .u8 x0), (4, .bool (decide (x0 ≥ 65))), (5, .bool (decide (x0 ≥ 65)))] Jfm ?_
 refine ite_some h (fun h1 h => ?_) (fun h1 h => ?_)
 ·
  rw [decide_eq_true h1]
  refine Gn 4 [(6, .int .u8 x0), (7, .bool (decide (x0 ≤ 70))), (8, .bool (decide (x0 ≤ 70)))] Jfl ?_
  refine ite_some h (fun h2 h => ?_) (fun h2 h => ?_)
  ·
   rw [decide_eq_true h2]
   refine Gn 8 [(9, .int .u8 x0), (10, .int .u8 (wr .u8 (x0 + 97))), (11, .int .u8 (wr .u8 ((wr .u8 (x0 + 97)) - 65))), (2, .int .u8 (wr .u8 ((wr .u8 (x0 + 97)) - 65)))] Jfn ?_
   obtain rfl := Option.some.inj h
   exact Goes.rt Tryz.f115 (.int .u8 (wr .u8 ((wr .u8 (x0 + 97)) - 65))) ⟨S0, rfl, (Ext.refl S0 w0), p0⟩
  ·
   rw [decide_eq_false h2]
   refine Gn 7 [(12, .int .u8 x0), (2, .int .u8 x0)] Jfo ?_
   obtain rfl := Option.some.inj h
   exact Goes.rt Tryz.f115 (.int .u8 x0) ⟨S0, rfl, (Ext.refl S0 w0), p0⟩
 ·
  rw [decide_eq_false h1]
  refine Gn 11 [(6, undef), (7, undef), (8, .bool false), (12, .int .u8 x0), (2, .int .u8 x0)] Jfo ?_
  obtain rfl := Option.some.inj h
  exact Goes.rt Tryz.f115 (.int .u8 x0) ⟨S0, rfl, (Ext.refl S0 w0), p0⟩

def Jfp := Zs [1, 1] B102 []
def Jfq := Zt [1, 0] B102 [2, 3] Jfp

def Post.z2b (r : Int) (v : Value) (w' : World) : Prop :=
 ∃ S', v = .i r ∧ Ext S0 w0 S' w' ∧ Hp nz wz S' w' (Lr)

theorem W.z2b (x0 : ByteArray) (x1 : Int) (r : Int) (h : M.stringslite_IndexByte x0 x1 = some r) {nz wz S0 w0 Lr} (p0 : Hp nz wz S0 w0 (Lr)) :
  Calls Tryz.prog 102 #[.string x0, .int .u8 x1] w0 (Rets (Post.z2b nz wz S0 w0 Lr r)) := by
 refine Zf Tryz.f102 B102 6 ?_
 refine Gj 8 [(0, .string x0), (1, .int .u8 x1)] fun junk => ?_
 delta M.stringslite_IndexByte at h
 refine Gn 8 [(4, .i 0), (5, .string x0), (6, .int .u8 x1)] Jfq ?_
 refine Op_.ext { callee := .value (.func 109), args := #[(.tmp 5), (.tmp 6)], argTypes := #[9, 5] } 7 3 109 #[.string x0, .int .u8 x1] Tryz.f109 Extern.BytealgIndexByte.indexByte (.i (ixB x0 x1)) Goes.v (by kernel_rfl) (by kernel_rfl) (by kernel_rfl) (by kernel_rfl) (by kernel_rfl) (by kernel_rfl) (ixB_run _ _) ?_
 refine Gn 2 [(4, .i (ixB x0 x1))] Jfp ?_
 obtain rfl := Option.some.inj h
 exact Goes.rt Tryz.f102 (.i (ixB x0 x1)) ⟨S0, rfl, (Ext.refl S0 w0), p0⟩

def Jfr := Zs [1, 1] B93 []
def Jfs := Zt [1, 0] B93 [2, 3] Jfr

def Post.z2c (r : Int) (v : Value) (w' : World) : Prop :=
 ∃ S', v = .i r ∧ Ext S0 w0 S' w' ∧ Hp nz wz S' w' (Lr)

theorem W.z2c (x0 : ByteArray) (x1 : Int) (r : Int) (h : M.strings_IndexByte x0 x1 = some r) {nz wz S0 w0 Lr} (p0 : Hp nz wz S0 w0 (Lr)) :
  Calls Tryz.prog 93 #[.string x0, .int .u8 x1] w0 (Rets (Post.z2c nz wz S0 w0 Lr r)) := by
 refine Zf Tryz.f93 B93 6 ?_
 refine Gj 8 [(0, .string x0), (1, .int .u8 x1)] fun junk => ?_
 delta M.strings_IndexByte at h
 refine Gn 8 [(4, .i 0), (5, .string x0), (6, .int .u8 x1)] Jfs ?_
 refine bind_some' h fun y1 e2 h => ?_
 refine Gc (kc 102 [5, 6] #[9, 5]) 7 3 102 _ (W.z2b x0 x1 y1 e2  p0 ) ?_
 rintro _ w2 ⟨S2, rfl, z2, p2⟩
 refine Gn 2 [(4, .i y1)] Jfr ?_
 obtain rfl := Option.some.inj h
 exact Goes.rt Tryz.f93 (.i y1) ⟨S2, rfl, ((Ext.refl S0 w0).trans z2), p2⟩

def Jft := Zs [1, 1] B113 []
def Jfu := Zt [1, 0] B113 [1, 2, 3] Jft

def Post.z2d (r : Int) (v : Value) (w' : World) : Prop :=
 ∃ S', v = .i r ∧ Ext S0 w0 S' w' ∧ Hp nz wz S' w' (Lr)

theorem W.z2d (x0 : Int) (r : Int) (h : M.syntax_nibble x0 = some r) {nz wz S0 w0 Lr} (p0 : Hp nz wz S0 w0 (Lr)) :
  Calls Tryz.prog 113 #[.int .u8 x0] w0 (Rets (Post.z2d nz wz S0 w0 Lr r)) := by
 refine Zf Tryz.f113 B113 5 ?_
 refine Gj 6 [(0, .int .u8 x0)] fun junk => ?_
 delta M.syntax_nibble at h
 refine Gn 7 [(2, .i 0), (3, .int .u8 x0)] Jfu ?_
 refine bind_some' h fun y1 e2 h => ?_
 refine Gc (kc 115 [3] #[5]) 4 5 115 _ (W.z2a x0 y1 e2  p0 ) ?_
 rintro _ w2 ⟨S2, rfl, z2, p2⟩
 refine bind_some' h fun y3 e4 h => ?_
 refine Gc (.call { callee := .value (.func 93), args := #[(.const (.string ⟨#[48, 49, 50, 51, 52, 53, 54, 55, 56, 57, 97, 98, 99, 100, 101, 102]⟩)), (.tmp 4)], argTypes := #[9, 5] }) 5 3 93 _ (W.z2c (⟨#[48, 49, 50, 51, 52, 53, 54, 55, 56, 57, 97, 98, 99, 100, 101, 102]⟩ : ByteArray) y1 y3 e4  p2 ) ?_
 rintro _ w3 ⟨S3, rfl, z3, p3⟩
 refine Gn 2 [(2, .i y3)] Jft ?_
 obtain rfl := Option.some.inj h
 exact Goes.rt Tryz.f113 (.i y3) ⟨S3, rfl, (((Ext.refl S0 w0).trans z2).trans z3), p3⟩

def Jfv := Zs [1, 1] B106 []
def Jfw := Zt [1, 0] B106 [1, 2, 3] Jfv
def Jfx := Zs [1, 1, 1] B106 []
def Jfy := Zs [1, 1, 0, 1] B106 Jfx
def Jfz := Zs [1, 1, 0, 1, 0, 1] B106 Jfx
def Jg0 := Zt [1, 1, 0, 1, 0, 0] B106 [4, 5] Jfz
def Jg1 := Zs [1, 1, 0, 1, 0, 1, 1] B106 Jfx
def Jg2 := Zs [1, 1, 1, 1] B106 []
def Qbb := sub [1, 1, 1, 0] B106
def Jg3 := Zr Qbb [3, 4, 5, 6, 7] Jg2
def Jg4 := Zr Qbb [7] Jg2
def Jg5 := Zs [1, 1, 1, 1, 1] B106 []

def Post.z2e (gx0 : Nat) (r : Int × T78) (v : Value) (w' : World) : Prop :=
 ∃ S' ud8, v = .int .u8 r.1 ∧ Ext S0 w0 S' w' ∧ Hp nz wz S' w' ((some gx0, .row 79 [.string r.2.s, .i r.2.at_, .i r.2.deep, ud8] 4 0) :: Lr) ∧ PtO kT82 S' w' ud8 r.2.bad

theorem W.z2e (x0v : T78) (r : Int × T78) (h : M.syntax_parser_digit x0v = some r) {nz wz S0 w0 Lr} (gx0 uda) (p0 : Hp nz wz S0 w0 ((some gx0, .row 79 [.string x0v.s, .i x0v.at_, .i x0v.deep, uda] 4 0) :: Lr)) (udb : PtO kT82 S0 w0 uda x0v.bad) :
  Calls Tryz.prog 106 #[(pt gx0 0)] w0 (Rets (Post.z2e nz wz S0 w0 Lr gx0 r)) := by
 refine Zf Tryz.f106 B106 23 ?_
 refine Gj 24 [(0, (pt gx0 0))] fun junk => ?_
 delta M.syntax_parser_digit at h
 refine Gn 7 [(2, .int .u8 0), (4, (pt gx0 0))] Jfw ?_
 refine bind_some' h fun y2 e3 h => ?_
 refine Gc (kc 74 [4] #[76]) 5 5 74 _ (W.z1u x0v y2 e3 gx0 uda p0 udb) ?_
 rintro _ w2 ⟨S2, udf, rfl, z2, p2, udg⟩
 refine bind_some' h fun y4 e5 h => ?_
 refine Gc (kc 113 [5] #[5]) 6 3 113 _ (W.z2d y2.1 y4 e5  p2 ) ?_
 rintro _ w3 ⟨S3, rfl, z3, p3⟩
 refine Gn 8 [(3, .i y4), (7, .i y4), (8, .bool (decide (y4 < 0)))] Jfy ?_
 refine ite_some h (fun h6 h => ?_) (fun h6 h => ?_)
 ·
  rw [decide_eq_true h6]
  refine Gn 7 [(9, (pt gx0 0)), (10, (pt gx0 0)), (11, (pt gx0 0)), (12, (pt gx0 1))] Jg0 ?_
  refine Goes.ld 3 (.tmp 12) 13 3 ⟨gx0, 1, none⟩ (.i y2.2.at_) (p3.c 0 1) ?_
  refine bind_some' h fun y7 e8 h => ?_
  refine Gc (kc 37 [9, 13] #[76, 3]) 14 58 37 _ (W.z1w y2.2 y2.2.at_ y7 e8 gx0 udf p3 (udg.ext z3)) ?_
  rintro _ w4 ⟨S4, uf5, uf6, uf7, uf8, rfl, z4, p4, uf9, ufa, rfl, ufb⟩
  refine Gn 5 [(2, .int .u8 0)] Jg1 ?_
  obtain rfl := Option.some.inj h
  exact Goes.rt Tryz.f106 (.int .u8 0) ⟨S4, uf8, rfl, ((((Ext.refl S0 w0).trans z2).trans z3).trans z4), p4, ufb⟩
 ·
  rw [decide_eq_false h6]
  refine Gn 7 [(15, (pt gx0 0)), (16, (pt gx0 0)), (17, (pt gx0 1))] Jg3 ?_
  refine Goes.ld 3 (.tmp 17) 18 3 ⟨gx0, 1, none⟩ (.i y2.2.at_) (p3.c 0 1) ?_
  refine Gn 3 [(19, .i (wr .i64 (y2.2.at_ + 1))), (20, (pt gx0 0)), (21, (pt gx0 1))] Jg4 ?_
  refine So 3 (.tmp 21) (.tmp 19) 0 0 gx0 1 (.i (wr .i64 (y2.2.at_ + 1))) [.i (wr .i64 (y2.2.at_ + 1))] p3 rfl Goes.s ?_
  intro w5 z5 p5
  have p5 : Hp nz wz S3 w5 ((some gx0, .row 79 [.string y2.2.s, .i (wr .i64 (y2.2.at_ + 1)), .i y2.2.deep, udf] 4 0) :: Lr) := p5
  refine Gn 7 [(22, .i y4), (23, .int .u8 (wr .u8 y4)), (2, .int .u8 (wr .u8 y4))] Jg5 ?_
  obtain rfl := Option.some.inj h
  exact Goes.rt Tryz.f106 (.int .u8 (wr .u8 y4)) ⟨S3, udf, rfl, ((((Ext.refl S0 w0).trans z2).trans z3).trans z5), p5, (udg.ext (z3.trans z5))⟩

def Jg6 := Zs [1] B107 []
def Jg7 := Zt [0] B107 [0] Jg6
def Jg8 := Zs [1, 1] B107 []
def Qbg := sub [1, 0] B107
def Jg9 := Zr Qbg [1, 2, 3, 4] Jg8
def Jga := Zr Qbg [3, 4] Jg8
def Jgb := Zr Qbg [4] Jg8

def Post.z2f (r : T142) (v : Value) (w' : World) : Prop :=
 ∃ S', v = (ag (U4 r.set_ [.int .u8 r.b, .bool r.single])) ∧ Ext S0 w0 S' w' ∧ Hp nz wz S' w' (Lr) ∧ r.set_.length = 4

theorem W.z2f (x0 : Int) (r : T142) (h : M.syntax_of x0 = some r) {nz wz S0 w0 Lr} (p0 : Hp nz wz S0 w0 (Lr)) :
  Calls Tryz.prog 107 #[.int .u8 x0] w0 (Rets (Post.z2f nz wz S0 w0 Lr r)) := by
 refine Zf Tryz.f107 B107 6 ?_
 refine Gj 7 [(0, .int .u8 x0)] fun junk => ?_
 delta M.syntax_of at h
 refine Gn 2 [] Jg7 ?_
 refine Op_.alloc 143 2 0 (.agg #[.u 0, .u 0, .u 0, .u 0, .int .u8 0, .bool false]) [.u 0, .u 0, .u 0, .u 0, .int .u8 0, .bool false] p0 Goes.v (by kernel_rfl) (by kernel_rfl) ?_
 intro b1 w2 z2 p2
 refine Gn 4 [(3, .int .u8 x0)] Jg9 ?_
 refine bind_some' h fun y3 e4 h => ?_
 refine Gc (kc 95 [3] #[5]) 4 44 95 _ (W.z1z x0 y3 e4  p2 ) ?_
 rintro _ w3 ⟨S3, ufc, rfl, z3, p3, u3r, ufd⟩
 refine Gn 1 [(5, .int .u8 x0)] Jga ?_
 have l5 := Els.len1 u3r ufd rfl
 obtain rfl := els_lit4 u3r ufd
 refine Gn 1 [(6, (ag (U4 y3 [.int .u8 x0, .bool true])))] Jgb ?_
 refine So 143 (.tmp 2) (.tmp 6) 0 0 b1 0 (ag (U4 y3 [.int .u8 x0, .bool true])) (U4 y3 [.int .u8 x0, .bool true]) p3 rfl Goes.s ?_
 intro w4 z4 p4
 have p4 : Hp nz wz S3 w4 ((some b1, .row 143 (U4 y3 [.int .u8 x0, .bool true]) 6 0) :: Lr) := p4
 refine Gn 1 [] Jg8 ?_
 obtain rfl := Option.some.inj h
 exact Goes.ret (fn := Tryz.f107) (by kernel_rfl) (v := (ag (U4 y3 [.int .u8 x0, .bool true]))) (results_n1 (fn := Tryz.f107) (a := .cell 2 143) (by kernel_rfl) (resV_cell ⟨b1, 0, none⟩ (by kernel_rfl) (run_loadN (U4 y3 [.int .u8 x0, .bool true]) (by kernel_rfl) (by kernel_rfl) (p4.pa 0 0)))) ⟨S3, rfl, ((((Ext.refl S0 w0).trans z2).trans z3).trans z4), p4.drop, l5⟩

end

end Go.Gx
