import Derived.Test.YtbclkjbkebebeaaGreatWIvb

set_option linter.unusedVariables false

set_option linter.unusedSimpArgs false

set_option maxRecDepth 100000

set_option maxHeartbeats 4000000

namespace Go.Gx

open Go.RowKit Go.Proofs

variable (nz : Nat) (wz : World) (S0 : Fz) (w0 : World) (Lr : List Ent)

noncomputable section

def Post.z51 (Epl : ZE) (pl : Z) (r : Unit) (v : Value) (w' : World) : Prop :=
 ∃ S' u1r, v = .func (.func 177) #[] #[(pt u1r 0)] ∧ Ext S0 w0 S' w' ∧ Hp nz wz S' w' ((some u1r, .row 123 [.map none] 1 0) :: PL Epl (Lr))

theorem W.z51 (pl : Z) (r : Unit) (h : M.a3j pl = some r) {nz wz S0 w0 Lr} (Epl) (p0 : Hp nz wz S0 w0 (PL Epl (Lr))) (fpl : PS S0 w0 Epl pl) :
  Calls Tryz.prog 119 #[.map none] w0 (Rets (Post.z51 nz wz S0 w0 Lr Epl pl r)) := by
 refine Zf Tryz.f119 B119 3 ?_
 refine Gj 4 [(0, .map none)] fun junk => ?_
 delta M.a3j at h
 refine Hn 2 Jjx ?_
 refine Ob 123 (.tmp 0) 1 0 (.map none) [.map none] p0 Goes.v fun b1 w2 z2 p2 => ?_
 refine Hn 7 Jjy ?_
 obtain rfl := sj h
 exact Hr Tryz.f119 ⟨_, _, rfl, z2, p2⟩

def Post.z52 (lx0 : Nat) (rx0 : Nat) (u27 : Nat → Value) (u28 : Nat) (u2m : Option Nat) (u2n : Nat) (u2o : Nat) (u2p : List Value) (u29 : Nat) (Epl : ZE) (u2l : List Int) (pl : Z) (r : Unit) (v : Value) (w' : World) : Prop :=
 ∃ S', v = .tuple #[] ∧ Ext S0 w0 S' w' ∧ Hp nz wz S' w' ((some lx0, .obj (lpst 192 (lfr 13 [(2, (pt u28 0)), (6, .func (.func 177) #[] #[(pt u29 0)])] u27) #[7] (rfAssign (Q8a)) (rfBody (Q8a)) rx0 .ready none)) :: (some u28, .row 31 [.slice (Gp u2m) u2n u2o] 1 0) :: (u2m, .row 35 u2p (u2o * (kInt .u64).size) 0) :: (some u29, .row 123 [.map none] 1 0) :: PL Epl (Lr))

def L.z53 (lx0 : Nat) (rx0 : Nat) (u27 : Nat → Value) (u28 : Nat) (u2m : Option Nat) (u2n : Nat) (u2o : Nat) (u2p : List Value) (u29 : Nat) (Epl : ZE) : (List Int) × Z → Unit → Prop := fun ⟨u2l, pl⟩ r => ∀ S1 w1, Ext S0 w0 S1 w1 → ∀ gx5 (_ : Hp nz wz S1 w1 ((some gx5, .obj (.mapIter none 0 #[] 0)) :: (some lx0, .obj (lpst 192 (lfr 13 [(2, (pt u28 0)), (6, .func (.func 177) #[] #[(pt u29 0)])] u27) #[7] (rfAssign (Q8a)) (rfBody (Q8a)) rx0 .ready none)) :: (some u28, .row 31 [.slice (Gp u2m) u2n u2o] 1 0) :: (u2m, .row 35 u2p (u2o * (kInt .u64).size) 0) :: (some u29, .row 123 [.map none] 1 0) :: PL Epl (Lr))) (_ : Els (kInt .u64) S1 w1 u2p u2l) (_ : u2l.length = u2n) (_ : PS S1 w1 Epl pl) (junk : Nat → Value),
 Goes Tryz.prog (base 177) Jk0 ⟨lfr 14 [(0, yieldV lx0), (5, (pt gx5 0))] junk, []⟩ w1 (Done Tryz.prog 177 (Rets (Post.z52 nz wz S0 w0 Lr lx0 rx0 u27 u28 u2m u2n u2o u2p u29 Epl u2l pl r)))

theorem W.z53 {nz wz S0 w0 Lr} (lx0 : Nat) (rx0 : Nat) (u27 : Nat → Value) (u28 : Nat) (u2m : Option Nat) (u2n : Nat) (u2o : Nat) (u2p : List Value) (u29 : Nat) (Epl : ZE) : ∀ a r, M.a77 a = some r → L.z53 nz wz S0 w0 Lr lx0 rx0 u27 u28 u2m u2n u2o u2p u29 Epl a r := by
 intro ⟨u2l, pl⟩ r h S1 w1 hx gx5 p1 fs0 ls0 fs2 junk
 rw [M.a77] at h
 try dsimp only at h
 subst ls0
 refine Hn 2 Jk2 ?_
 refine Op_.nxN (.tmp 5) 6 0 0 gx5 p1 rfl Goes.v (by kernel_rfl) ?_
 refine Hn 5 [] ?_
 obtain rfl := sj h
 have p1 := p1.dp 0
 exact Goes.end_ (fn := Tryz.f177) (by kernel_rfl) (v := .tuple #[]) (by kernel_rfl) ⟨S1, rfl, hx, p1⟩

theorem W.z52 (u2l : List Int) (pl : Z) (r : Unit) (h : M.a78 u2l pl = some r) {nz wz S0 w0 Lr} (lx0 rx0 u27 u28 u2m u2n u2o u2p u29 Epl) (p0 : Hp nz wz S0 w0 ((some lx0, .obj (lpst 192 (lfr 13 [(2, (pt u28 0)), (6, .func (.func 177) #[] #[(pt u29 0)])] u27) #[7] (rfAssign (Q8a)) (rfBody (Q8a)) rx0 .ready none)) :: (some u28, .row 31 [.slice (Gp u2m) u2n u2o] 1 0) :: (u2m, .row 35 u2p (u2o * (kInt .u64).size) 0) :: (some u29, .row 123 [.map none] 1 0) :: PL Epl (Lr))) (u2q : Els (kInt .u64) S0 w0 u2p u2l) (u2r : u2l.length = u2n) (fpl : PS S0 w0 Epl pl) :
  Calls Tryz.prog 177 #[yieldV lx0, (pt u29 0)] w0 (Rets (Post.z52 nz wz S0 w0 Lr lx0 rx0 u27 u28 u2m u2n u2o u2p u29 Epl u2l pl r)) := by
 subst u2r
 refine Zf Tryz.f177 B177 12 ?_
 refine Gj 14 [(0, yieldV lx0), (1, (pt u29 0))] fun junk => ?_
 delta M.a78 at h
 refine Hn 2 Jk9 ?_
 refine Hd (p0.e 3 0) ?_
 refine Op_.rgN 123 (.tmp 4) 5 0 35 4 p0 Goes.v (by kernel_rfl) (by kernel_rfl) fun r5 w2 z2 p2 => ?_
 refine Hn 3 Jk0 ?_
 exact Gk (W.z53 lx0 rx0 u27 u28 u2m u2l.length u2o u2p u29 Epl _ _ h _ _ z2 _ p2 (u2q.ext z2) rfl (fpl.ext z2))

def Post.z54 (u2s : Nat) (Epl : ZE) (pl : Z) (r : List Int) (v : Value) (w' : World) : Prop :=
 ∃ S' Gq nq cq csq, v = .slice (Gp Gq) nq cq ∧ Ext S0 w0 S' w' ∧ Hp nz wz S' w' ((Gq, .row 35 csq (cq * (kInt .u64).size) 0) :: (some u2s, .row 123 [.map none] 1 0) :: PL Epl (Lr)) ∧ Els (kInt .u64) S' w' csq r ∧ r.length = nq

theorem W.z54 (pl : Z) (r : List Int) (h : M.a79 pl = some r) {nz wz S0 w0 Lr} (u2s Epl) (p0 : Hp nz wz S0 w0 ((some u2s, .row 123 [.map none] 1 0) :: PL Epl (Lr))) (fpl : PS S0 w0 Epl pl) :
  Calls Tryz.prog 192 #[.slice none 0 0, .func (.func 177) #[] #[(pt u2s 0)]] w0 (Rets (Post.z54 nz wz S0 w0 Lr u2s Epl pl r)) := by
 refine Zf Tryz.f192 B192 11 ?_
 refine Gj 13 [(0, .slice none 0 0), (1, .func (.func 177) #[] #[(pt u2s 0)])] fun junk => ?_
 delta M.a79 at h
 refine Hn 2 Jal ?_
 refine Ob 31 (.tmp 0) 2 0 (.slice none 0 0) [.slice none 0 0] p0 Goes.v fun b2 w2 z2 p2 => ?_
 refine Hn 8 Jao ?_
 refine Gj 13 [(2, (pt b2 0)), (6, .func (.func 177) #[] #[(pt u2s 0)])] (fun u2u => ?_)
 refine Goes.rangeF (f := 192) (.tmp 6) #[7] 177 #[] #[(pt u2s 0)] (by kernel_rfl) (by kernel_rfl) (fun _ => by kernel_rfl) p2 fun r5 l6 w3 z3 p3 => ?_
 have p3 : Hp nz wz S0 w3 ((none, .row 35 [] (0 * (kInt .u64).size) 0) :: (some l6, .obj (lpst 192 (lfr 13 [(2, (pt b2 0)), (6, .func (.func 177) #[] #[(pt u2s 0)])] u2u) #[7] (rfAssign (Q8a)) (rfBody (Q8a)) r5 .ready none)) :: (some r5, .obj (.deferred (some []))) :: (some b2, .row 31 [.slice none 0 0] 1 0) :: (some u2s, .row 123 [.map none] 1 0) :: PL Epl (Lr)) := p3.nilRow' 35
 have p3 := p3.rt 5 10
 have p3 := (((p3.fr 14).fr 11).fr 14).fr 13
 refine Gb h fun y10 e11 h => ?_
 refine ⟨_, W.z52 ([] : List Int) pl y10 e11 _ _ _ _ none 0 0 [] _ _ p3 (Els.nil (K := (kInt .u64))) rfl (fpl.ext (z2.t z3)), ?_⟩
 rintro _ w4 ⟨S4, rfl, z4, p4⟩
 refine Goes.endF 0 p4 rfl rfl fun w5 z5 p5 => ?_
 replace p5 : Hp nz wz S4 w5 ((some b2, .row 31 [.slice (Gp none) 0 0] 1 0) :: (none, .row 35 [] (0 * (kInt .u64).size) 0) :: (some u2s, .row 123 [.map none] 1 0) :: PL Epl ((some r5, .obj (.deferred (some []))) :: Lr)) := (p5.front 0 _ rfl).drop
 show Goes _ _ Jan _ _ _
 refine Hn 3 Jaq ?_
 refine Hd (p5.e 0 0) ?_
 refine Hn 2 Jap ?_
 obtain rfl := sj h
 have p5 := p5.dp 0
 have p5 := p5.fr 12
 refine Goes.retL ?_
 refine lvs_mark 0 rfl rfl p5 rfl fun w6 z6 p6 => ?_
 replace p6 : Hp nz wz S4 w6 ((none, .row 35 [] (0 * (kInt .u64).size) 0) :: (some u2s, .row 123 [.map none] 1 0) :: PL Epl (Lr)) := p6.drop
 exact lvs_done (fn := Tryz.f192) rfl rfl rfl rfl (by kernel_rfl) (v := .slice (Gp none) 0 0) (by kernel_rfl) ⟨S4, none, 0, 0, [], rfl, ((((z2.t z3).t z4).t z5).t z6), p6, (Els.nil (K := (kInt .u64))), rfl⟩

def Post.z55 (u30 : Nat) (Epl : ZE) (pl : Z) (r : List Int) (v : Value) (w' : World) : Prop :=
 ∃ S' Gq nq cq csq, v = .slice (Gp Gq) nq cq ∧ Ext S0 w0 S' w' ∧ Hp nz wz S' w' ((Gq, .row 35 csq (cq * (kInt .u64).size) 0) :: (some u30, .row 123 [.map none] 1 0) :: PL Epl (Lr)) ∧ Els (kInt .u64) S' w' csq r ∧ r.length = nq

theorem W.z55 (pl : Z) (r : List Int) (h : M.a5l pl = some r) {nz wz S0 w0 Lr} (u30 Epl) (p0 : Hp nz wz S0 w0 ((some u30, .row 123 [.map none] 1 0) :: PL Epl (Lr))) (fpl : PS S0 w0 Epl pl) :
  Calls Tryz.prog 137 #[.func (.func 177) #[] #[(pt u30 0)]] w0 (Rets (Post.z55 nz wz S0 w0 Lr u30 Epl pl r)) := by
 refine Zf Tryz.f137 B137 4 ?_
 refine Gj 5 [(0, .func (.func 177) #[] #[(pt u30 0)])] fun junk => ?_
 delta M.a5l at h
 refine Hn 7 Jas ?_
 refine Gb h fun y2 e3 h => ?_
 refine Gc (.call { callee := .value (.func 192), args := #[(.const (.slice none 0 0)), (.tmp 3)], argTypes := #[31, 141] }) 4 31 192 _ (W.z54 pl y2 e3 _ _ p0 fpl) ?_
 rintro _ w2 ⟨S2, ul, um, un, uo, rfl, z2, p2, up, rfl⟩
 refine Hn 2 Jar ?_
 obtain rfl := sj h
 exact Hr Tryz.f137 ⟨_, _, _, _, _, rfl, z2, p2, up, rfl⟩

def Post.z56 (u30 : Nat) (Epl : ZE) (pl : Z) (r : List Int) (v : Value) (w' : World) : Prop :=
 ∃ S' Gq nq cq csq, v = .slice (Gp Gq) nq cq ∧ Ext S0 w0 S' w' ∧ Hp nz wz S' w' ((Gq, .row 35 csq (cq * (kInt .u64).size) 0) :: (some u30, .row 123 [.map none] 1 0) :: PL Epl (Lr)) ∧ Els (kInt .u64) S' w' csq r ∧ r.length = nq

theorem W.z56 (pl : Z) (r : List Int) (h : M.a3i pl = some r) {nz wz S0 w0 Lr} (u30 Epl) (p0 : Hp nz wz S0 w0 ((some u30, .row 123 [.map none] 1 0) :: PL Epl (Lr))) (fpl : PS S0 w0 Epl pl) :
  Calls Tryz.prog 79 #[.func (.func 177) #[] #[(pt u30 0)]] w0 (Rets (Post.z56 nz wz S0 w0 Lr u30 Epl pl r)) := by
 refine Zf Tryz.f79 B79 8 ?_
 refine Gj 9 [(0, .func (.func 177) #[] #[(pt u30 0)])] fun junk => ?_
 delta M.a3i at h
 refine Hn 7 Jjf ?_
 refine Gb h fun y2 e3 h => ?_
 refine Gc (kc 137 [4] #[141]) 5 31 137 _ (W.z55 pl y2 e3 _ _ p0 fpl) ?_
 rintro _ w2 ⟨S2, ul, um, un, uo, rfl, z2, p2, up, rfl⟩
 refine Hn 5 Jjh ?_
 refine Gb h fun y5 e6 h => ?_
 refine Gc (kc 138 [6] #[31]) 7 0 138 _ (W.z48 y2 y5 e6 _ _ _ _ p2 up rfl) ?_
 rintro _ w3 ⟨S3, un3, rfl, z3, p3, uev, un4⟩
 refine Hn 6 Jji ?_
 obtain rfl := sj h
 exact Hr Tryz.f79 ⟨_, _, _, _, _, rfl, (z2.t z3), p3, uev, un4⟩

def Post.z57 (Epl : ZE) (pl : Z) (r : List Int) (v : Value) (w' : World) : Prop :=
 ∃ S' Gq nq cq csq, v = .slice (Gp Gq) nq cq ∧ Ext S0 w0 S' w' ∧ Hp nz wz S' w' ((Gq, .row 35 csq (cq * (kInt .u64).size) 0) :: PL Epl (Lr)) ∧ Els (kInt .u64) S' w' csq r ∧ r.length = nq

theorem W.z57 (pl : Z) (r : List Int) (h : M.a4l pl = some r) {nz wz S0 w0 Lr} (Epl) (p0 : Hp nz wz S0 w0 (PL Epl (Lr))) (fpl : PS S0 w0 Epl pl) :
  Calls Tryz.prog 64 #[.map none] w0 (Rets (Post.z57 nz wz S0 w0 Lr Epl pl r)) := by
 refine Zf Tryz.f64 B64 5 ?_
 refine Gj 6 [(0, .map none)] fun junk => ?_
 delta M.a4l at h
 refine Hn 7 Jkb ?_
 refine Gb h fun y1 e2 h => ?_
 refine Gc (kc 119 [3] #[123]) 4 141 119 _ (W.z51 pl y1 e2 _ p0 fpl) ?_
 rintro _ w2 ⟨S2, u32, rfl, z2, p2⟩
 refine Gb h fun y4 e5 h => ?_
 refine Gc (kc 79 [4] #[141]) 5 31 79 _ (W.z56 pl y4 e5 _ _ p2 (fpl.ext z2)) ?_
 rintro _ w3 ⟨S3, u1d, u1e, u1f, u1g, rfl, z3, p3, u1h, rfl⟩
 have p3 := p3.dp 1
 refine Hn 2 Jka ?_
 obtain rfl := sj h
 exact Hr Tryz.f64 ⟨_, _, _, _, _, rfl, (z2.t z3), p3, u1h, rfl⟩

def Jlc := Ys 1111 B17 []
def Jld := Ys 1110101 B17 Jlc

def L.z58 : (List Int) × Z → ((List Int) × Z) → Prop := fun ⟨x6, e0⟩ r => ∀ S1 w1, Ext S0 w0 S1 w1 → ∀ Gx6 nx6 cx6 uqy Ee0 (_ : Hp nz wz S1 w1 ((Gx6, .row 35 uqy (cx6 * (kInt .u64).size) 0) :: PL Ee0 (Lr))) (_ : Els (kInt .u64) S1 w1 uqy x6) (_ : x6.length = nx6) (_ : PS S1 w1 Ee0 e0) (junk : Nat → Value),
 Goes Tryz.prog (base 17) Jld ⟨lfr 56 [(6, .slice (Gp Gx6) nx6 cx6)] junk, []⟩ w1 (Done Tryz.prog 17 (Rets (Post.z4q nz wz S0 w0 Lr r)))

theorem W.z58 {nz wz S0 w0 Lr} : ∀ a r, M.a3k a = some r → L.z58 nz wz S0 w0 Lr a r := by
 intro ⟨x6, e0⟩ r h S1 w1 hx Gx6 nx6 cx6 uqy Ee0 p1 fx6 lx6 fe0 junk
 rw [M.a3k] at h
 try dsimp only at h
 subst lx6
 obtain rfl := sj h
 exact Hr Tryz.f17 ⟨_, _, _, _, _, _, rfl, hx, p1, fx6, rfl, fe0⟩

def Post.z59 (Epl : ZE) (pl : Z) (r : List Int) (v : Value) (w' : World) : Prop :=
 ∃ S' Gq nq cq csq, v = .slice (Gp Gq) nq cq ∧ Ext S0 w0 S' w' ∧ Hp nz wz S' w' ((Gq, .row 35 csq (cq * (kInt .u64).size) 0) :: PL Epl (Lr)) ∧ Els (kInt .u64) S' w' csq r ∧ r.length = nq

theorem W.z59 (x0 : Option Nat) (pl : Z) (r : List Int) (h : M.a4m x0 pl = some r) {nz wz S0 w0 Lr} (vx0 Epl) (p0 : Hp nz wz S0 w0 (PL Epl (Lr))) (fx0 : MpO 122 S0 vx0 x0) (fpl : PS S0 w0 Epl pl) :
  Calls Tryz.prog 64 #[vx0] w0 (Rets (Post.z59 nz wz S0 w0 Lr Epl pl r)) := by
 refine Zf Tryz.f64 B64 5 ?_
 refine Gj 6 [(0, vx0)] fun junk => ?_
 delta M.a4m at h
 refine Hn 7 Jkb ?_
 refine Gl h fun v17 h1 h => ?_
 rcases v17 with _ | y2
 ·
  try dsimp only at h
  obtain rfl := MpO.nil fx0 h1
  refine Gb h fun y5 e6 h => ?_
  refine Gc (kc 119 [3] #[123]) 4 141 119 _ (W.z51 pl y5 e6 _ p0 fpl) ?_
  rintro _ w2 ⟨S2, u32, rfl, z2, p2⟩
  refine Gb h fun y8 e9 h => ?_
  refine Gc (kc 79 [4] #[141]) 5 31 79 _ (W.z56 pl y8 e9 _ _ p2 (fpl.ext z2)) ?_
  rintro _ w3 ⟨S3, u1d, u1e, u1f, u1g, rfl, z3, p3, u1h, rfl⟩
  have p3 := p3.dp 1
  refine Hn 2 Jka ?_
  obtain rfl := sj h
  exact Hr Tryz.f64 ⟨_, _, _, _, _, rfl, (z2.t z3), p3, u1h, rfl⟩
 ·
  try dsimp only at h
  obtain ⟨g3, rfl, f4⟩ := MpO.got fx0 h1
  refine Gb h fun y11 e12 h => ?_
  refine Gc (kc 119 [3] #[123]) 4 141 119 _ (W.z4i y2 pl y11 e12 _ _ p0 f4 fpl) ?_
  rintro _ w4 ⟨S4, u5u, uqz, rfl, z4, p4, u62⟩
  refine Gb h fun y14 e15 h => ?_
  refine Gc (kc 79 [4] #[141]) 5 31 79 _ (W.z4o y11 pl y14 e15 _ _ _ p4 u62 (fpl.ext z4)) ?_
  rintro _ w5 ⟨S5, u6q, u6r, u6s, u6t, rfl, z5, p5, u1p, rfl⟩
  have p5 := p5.dp 1
  refine Hn 2 Jka ?_
  obtain rfl := sj h
  exact Hr Tryz.f64 ⟨_, _, _, _, _, rfl, (z4.t z5), p5, u1p, rfl⟩

def Qhb := Yq 1110100 B17

theorem W.z4q (x0 : Nat) (x1 : ByteArray) (x2 : ByteArray) (pl : Z) (r : (List Int) × Z) (h : M.a1p x0 x1 x2 pl = some r) {nz wz S0 w0 Lr} (gx0 Epl) (p0 : Hp nz wz S0 w0 (PL Epl (Lr))) (fx0 : Pa 80 S0 x0 gx0) (fpl : PS S0 w0 Epl pl) :
  Calls Tryz.prog 17 #[(pt gx0 0), .string x1, .string x2] w0 (Rets (Post.z4q nz wz S0 w0 Lr r)) := by
 refine Zf Tryz.f17 B17 53 ?_
 refine Gj 56 [(0, (pt gx0 0)), (1, .string x1), (2, .string x2)] fun junk => ?_
 delta M.a1p at h
 refine Hn 8 (Yt 110 B17 [2, 3] (Ys 111 B17 [])) ?_
 refine Gb h fun y1 e2 h => ?_
 refine Gc (kc 63 [14, 15] #[24, 9]) 16 119 63 _ (W.z23 x0 x1 pl y1 e2 _ _ p0 fx0 fpl) ?_
 rintro ur0 w2 ⟨S2, _, ur1, rfl, z2, p2, up, ug8⟩
 refine Hn 8 (Ys 11101 B17 Jlc) ?_
 refine Hb [(18, .bool (!(x2.toList == (⟨#[]⟩ : ByteArray).toList)))] ?_
 refine Gi h (fun h3 h => ?_) fun h3 h => ?_
 ·
  rw [h3]
  refine Hn 4 (Yt 11110 B17 [0, 1] (Ys 11111 B17 [])) ?_
  refine Op_.mkM 123 26 123 122 5 (Value.int .u64) kBool p2 rfl ug8.zf Goes.v fun g4 S3 w3 E5 z3 p3 a6 f7 => ?_
  refine Hn 6 (Yt 1111100 B17 [1, 2, 3] (Ys 1111101 B17 Jkz)) ?_
  refine Gb h fun y8 e9 h => ?_
  refine Gc (kc 39 [27] #[24]) 28 31 39 _ (W.z4h x0 ({y1.2 with zf := (y1.2.zf ++ [[]])}) y8 e9 _ ({ur1 with zf := E5}) p3 (fx0.ext (z2.t z3)) (PS.uzf (ug8.ext z3) f7)) ?_
  rintro _ w4 ⟨S4, uol, uom, uon, uoo, rfl, z4, p4, uey, rfl⟩
  refine Hn 5 Jl2 ?_
  exact Gk (W.z50 _ _ h _ _ ((z2.t z3).t z4) _ _ _ _ _ _ ({ur1 with zf := E5}) p4 (up.ext (z3.t z4)) (a6.ext z4) uey rfl (PS.uzf (ug8.ext (z3.t z4)) (f7.ext z4)))
 ·
  rw [bf h3]
  refine Hn 4 (Zr Qhb [1, 2, 3, 4, 5, 6, 7] Jld) ?_
  refine Gl h fun v50 h12 h => ?_
  rcases v50 with _ | y13
  ·
   try dsimp only at h
   obtain rfl := PpO.nil up h12
   cases h
  ·
   try dsimp only at h
   obtain ⟨g14, rfl, f15⟩ := PpO.got up h12
   refine Hn 2 (Zr Qhb [3, 4, 5, 6, 7] Jld) ?_
   obtain ⟨ur2, q17, l18, e19, f20⟩ := Pl.row p2 7 rfl ug8.zh f15
   obtain ⟨_, _, rfl, q23, ⟨_, _, rfl, q26, ⟨_, _, rfl, q29, ⟨_, _, rfl, q32, ⟨_, _, rfl, rfl, rfl⟩⟩⟩⟩⟩ := q17
   obtain ⟨v21, rfl, f22⟩ := kMp_one (w := w2) q23
   obtain ⟨v24, rfl, f25⟩ := kMp_one (w := w2) q26
   obtain ⟨v27, rfl, f28⟩ := kMp_one (w := w2) q29
   obtain ⟨v30, rfl, f31⟩ := kPp_one (w := w2) q32
   refine Hd (f20 0 _ rfl) ?_
   refine Hn 1 (Zr Qhb [5, 6, 7] Jld) ?_
   refine Gl h fun v49 h33 h => ?_
   rcases v49 with _ | y34
   ·
    try dsimp only at h
    obtain rfl := MpO.nil f22 h33
    refine Hn 1 (Zr Qhb [6, 7] Jld) ?_
    refine Gb h fun y37 e38 h => ?_
    refine Gc (kc 64 [24] #[123]) 25 31 64 _ (W.z57 y1.2 y37 e38 _ p2 ug8) ?_
    rintro _ w5 ⟨S5, u6q, u6r, u6s, u6t, rfl, z5, p5, u1p, rfl⟩
    refine Hn 2 Jld ?_
    exact Gk (W.z58 _ _ h _ _ (z2.t z5) _ _ _ _ _ p5 u1p rfl (ug8.ext z5))
   ·
    try dsimp only at h
    obtain ⟨g35, rfl, f36⟩ := MpO.got f22 h33
    refine Gl h fun v41 e42 h => ?_
    refine Op_.lkM 121 (.tmp 22) (.tmp 23) 24 123 9 123 4 (.map none) (none : Option Nat) x2 v41 p2 rfl ug8.ze f36 Goes.v (by kernel_rfl) (by kernel_rfl) (by kernel_rfl) (kok_str (by kernel_rfl)) (by kernel_rfl) (show (kMp 122).rep S2 w2 [.map none] none from (MpO.none 122 S2)) e42 fun v43 f44 => ?_
    have f45 := one_mp f44
    refine Gb h fun y46 e47 h => ?_
    refine Gc (kc 64 [24] #[123]) 25 31 64 _ (W.z59 v41 y1.2 y46 e47 _ _ p2 f45 ug8) ?_
    rintro _ w6 ⟨S6, uos, uot, uou, uov, rfl, z6, p6, uow, rfl⟩
    refine Hn 2 Jld ?_
    exact Gk (W.z58 _ _ h _ _ (z2.t z6) _ _ _ _ _ p6 uow rfl (ug8.ext z6))

def Qhd := Yq 1110100 B58
def Jlr := Zl Qhd (Zb 0 (Ys 1111 B58 []))
def Jls := Zc Qhd Jlr
def Jlw := Zb 1 (Ys 111010011 B58 Jlr)

def Post.z5a (r : Bool) (v : Value) (w' : World) : Prop :=
 ∃ S', v = .bool r ∧ Ext S0 w0 S' w' ∧ Hp nz wz S' w' (Lr)

def L.z5b : (List Int) × (List Int) × Int → Bool → Prop := fun ⟨x0, x1, x5⟩ r => ∀ S1 w1, Ext S0 w0 S1 w1 → ∀ Ax0 nx0 cx0 Ax1 nx1 cx1 (_ : Hp nz wz S1 w1 (Lr)) (_ : Rd (kInt .u64) S1 w1 Ax0 cx0 x0) (_ : x0.length = nx0) (_ : Rd (kInt .u64) S1 w1 Ax1 cx1 x1) (_ : x1.length = nx1) (junk : Nat → Value),
 Goes Tryz.prog (base 58) Jls ⟨lfr 26 [(0, .slice Ax0 nx0 cx0), (1, .slice Ax1 nx1 cx1), (5, .i x5)] junk, []⟩ w1 (Done Tryz.prog 58 (Rets (Post.z5a nz wz S0 w0 Lr r)))

theorem W.z5b {nz wz S0 w0 Lr} : ∀ a r, M.a2r a = some r → (L.z5b nz wz S0 w0 Lr) a r := by
 refine M.a2r.partial_correctness (motive := (L.z5b nz wz S0 w0 Lr)) ?_
 intro ur3 ur4 ⟨x0, x1, x5⟩ r h S1 w1 hx Ax0 nx0 cx0 Ax1 nx1 cx1 p1 fx0 lx0 fx1 lx1 junk
 try dsimp only at h
 subst lx0
 subst lx1
 refine Hn 8 (Ys 111010001 B58 (Ys 11101001 B58 Jlr)) ?_
 refine Hb [(14, .bool (decide (x5 < (x0.length : Int))))] ?_
 refine Gi h (fun h2 h => ?_) fun h2 h => ?_
 ·
  rw [dt h2]
  refine Hn 5 (Ys 11101001000 B58 (Ys 11101001001 B58 Jlw)) ?_
  have z2 : Ext S1 w1 S1 (w1).drew := Ext.draw
  have p2 := p1.draw
  refine Gd [] (Fc S1 (w1).drew []) 6 9 ?_
  generalize (w1).drew = w2 at z2 p2 ⊢
  refine Hq [0, 1] 2 (Fc.here trivial) ?_
  refine Gg h fun g3 h => ?_
  refine Hy 2 35 .i64 rfl rfl (fx0.ext z2) (Fc.here trivial) g3 h2 fun a4 _ f5 q6 => ?_
  obtain rfl := q6
  refine Hl 3 (Fc.here trivial) (fun _ h => f5.fc h 0 _ rfl) ?_
  refine Hq [4, 5] 2 (Fc.here trivial) ?_
  refine Gg h fun g7 h => ?_
  refine Hy 6 35 .i64 rfl rfl (fx1.ext z2) (Fc.here trivial) g3 g7 fun a8 _ f9 q10 => ?_
  obtain rfl := q10
  refine Hl 7 (Fc.here trivial) (fun _ h => f9.fc h 0 _ rfl) ?_
  refine Hq [8] 1 (Fc.here trivial) ?_
  refine Ad ?_
  refine Hb [(25, .bool (!(decide (gi x0 x5 = gi x1 x5))))] ?_
  refine Gi h (fun h11 h => ?_) fun h11 h => ?_
  ·
   rw [dt h11]
   refine Hn 9 Jls ?_
   exact Gk (ur4 _ _ h _ _ (hx.t z2) _ _ _ _ _ _ p2 (fx0.ext z2) rfl (fx1.ext z2) rfl)
  ·
   rw [df h11]
   refine Hn 5 (Ys 1110100100101 B58 Jlw) ?_
   obtain rfl := sj h
   exact Hr Tryz.f58 ⟨_, rfl, (hx.t z2), p2⟩
 ·
  rw [df h2]
  refine Hn 6 (Ys 11111 B58 []) ?_
  obtain rfl := sj h
  exact Hr Tryz.f58 ⟨_, rfl, hx, p1⟩

def Jm1 := Ys 111 B58 []

theorem W.z5a (x0 : List Int) (x1 : List Int) (r : Bool) (h : M.a3l x0 x1 = some r) {nz wz S0 w0 Lr} (Ax0 nx0 cx0 Ax1 nx1 cx1) (p0 : Hp nz wz S0 w0 (Lr)) (fx0 : Rd (kInt .u64) S0 w0 Ax0 cx0 x0) (lx0 : x0.length = nx0) (fx1 : Rd (kInt .u64) S0 w0 Ax1 cx1 x1) (lx1 : x1.length = nx1) :
  Calls Tryz.prog 58 #[.slice Ax0 nx0 cx0, .slice Ax1 nx1 cx1] w0 (Rets (Post.z5a nz wz S0 w0 Lr r)) := by
 subst lx0
 subst lx1
 refine Zf Tryz.f58 B58 24 ?_
 refine Gj 26 [(0, .slice Ax0 x0.length cx0), (1, .slice Ax1 x1.length cx1)] fun junk => ?_
 delta M.a3l at h
 refine Hn 13 (Ys 1101 B58 Jm1) ?_
 refine Hb [(10, .bool (!(decide ((x0.length : Int) = (x1.length : Int)))))] ?_
 refine Gi h (fun h1 h => ?_) fun h1 h => ?_
 ·
  rw [dt h1]
  refine Hn 9 Jls ?_
  exact Gk (W.z5b _ _ h _ _ (Ext.refl S0 w0) _ _ _ _ _ _ p0 fx0 rfl fx1 rfl)
 ·
  rw [df h1]
  refine Hn 5 (Ys 110101 B58 Jm1) ?_
  obtain rfl := sj h
  exact Hr Tryz.f58 ⟨_, rfl, (Ext.refl S0 w0), p0⟩

def Jm5 := Yt 10 B62 [0, 1] (Ys 11 B62 [])
def Jm6 := Ys 111 B62 []

def Post.z5c (Epl : ZE) (pl : Z) (r : Unit) (v : Value) (w' : World) : Prop :=
 ∃ S' u1r, v = .func (.func 118) #[] #[(pt u1r 0)] ∧ Ext S0 w0 S' w' ∧ Hp nz wz S' w' ((some u1r, .row 121 [.map none] 1 0) :: PL Epl (Lr))

theorem W.z5c (pl : Z) (r : Unit) (h : M.a5n pl = some r) {nz wz S0 w0 Lr} (Epl) (p0 : Hp nz wz S0 w0 (PL Epl (Lr))) (fpl : PS S0 w0 Epl pl) :
  Calls Tryz.prog 62 #[.map none] w0 (Rets (Post.z5c nz wz S0 w0 Lr Epl pl r)) := by
 refine Zf Tryz.f62 B62 3 ?_
 refine Gj 4 [(0, .map none)] fun junk => ?_
 delta M.a5n at h
 refine Hn 2 Jm5 ?_
 refine Ob 121 (.tmp 0) 1 0 (.map none) [.map none] p0 Goes.v fun b1 w2 z2 p2 => ?_
 refine Hn 7 Jm6 ?_
 obtain rfl := sj h
 exact Hr Tryz.f62 ⟨_, _, rfl, z2, p2⟩

def Qhr := Yq 1100 B118
def Jm7 := Zl Qhr J3k
def Jm8 := Zc Qhr Jm7
def Jma := Yt 11000 B118 [0, 1] (Ys 11001 B118 Jm7)

def Post.z5d (lx0 : Nat) (rx0 : Nat) (u27 : Nat → Value) (u28 : Nat) (u2m : Option Nat) (u2n : Nat) (u2o : Nat) (u2p : List Value) (u29 : Nat) (Epl : ZE) (u2l : List ByteArray) (pl : Z) (r : Unit) (v : Value) (w' : World) : Prop :=
 ∃ S', v = .tuple #[] ∧ Ext S0 w0 S' w' ∧ Hp nz wz S' w' ((some lx0, .obj (lpst 174 (lfr 13 [(2, (pt u28 0)), (6, .func (.func 118) #[] #[(pt u29 0)])] u27) #[7] (rfAssign (Q2p)) (rfBody (Q2p)) rx0 .ready none)) :: (some u28, .row 28 [.slice (Gp u2m) u2n u2o] 1 0) :: (u2m, .row 9 u2p (u2o * kStr.size) 0) :: (some u29, .row 121 [.map none] 1 0) :: PL Epl (Lr))

def L.z5e (lx0 : Nat) (rx0 : Nat) (u27 : Nat → Value) (u28 : Nat) (u2m : Option Nat) (u2n : Nat) (u2o : Nat) (u2p : List Value) (u29 : Nat) (Epl : ZE) : (List ByteArray) × Z → Unit → Prop := fun ⟨u2l, pl⟩ r => ∀ S1 w1, Ext S0 w0 S1 w1 → ∀ gx5 (_ : Hp nz wz S1 w1 ((some gx5, .obj (.mapIter none 0 #[] 0)) :: (some lx0, .obj (lpst 174 (lfr 13 [(2, (pt u28 0)), (6, .func (.func 118) #[] #[(pt u29 0)])] u27) #[7] (rfAssign (Q2p)) (rfBody (Q2p)) rx0 .ready none)) :: (some u28, .row 28 [.slice (Gp u2m) u2n u2o] 1 0) :: (u2m, .row 9 u2p (u2o * kStr.size) 0) :: (some u29, .row 121 [.map none] 1 0) :: PL Epl (Lr))) (_ : Els kStr S1 w1 u2p u2l) (_ : u2l.length = u2n) (_ : PS S1 w1 Epl pl) (junk : Nat → Value),
 Goes Tryz.prog (base 118) Jm8 ⟨lfr 14 [(0, yieldV lx0), (5, (pt gx5 0))] junk, []⟩ w1 (Done Tryz.prog 118 (Rets (Post.z5d nz wz S0 w0 Lr lx0 rx0 u27 u28 u2m u2n u2o u2p u29 Epl u2l pl r)))

theorem W.z5e {nz wz S0 w0 Lr} (lx0 : Nat) (rx0 : Nat) (u27 : Nat → Value) (u28 : Nat) (u2m : Option Nat) (u2n : Nat) (u2o : Nat) (u2p : List Value) (u29 : Nat) (Epl : ZE) : ∀ a r, M.a7a a = some r → L.z5e nz wz S0 w0 Lr lx0 rx0 u27 u28 u2m u2n u2o u2p u29 Epl a r := by
 intro ⟨u2l, pl⟩ r h S1 w1 hx gx5 p1 fs0 ls0 fs2 junk
 rw [M.a7a] at h
 try dsimp only at h
 subst ls0
 refine Hn 2 Jma ?_
 refine Op_.nxN (.tmp 5) 6 0 0 gx5 p1 rfl Goes.v (by kernel_rfl) ?_
 refine Hn 5 [] ?_
 obtain rfl := sj h
 have p1 := p1.dp 0
 exact Goes.end_ (fn := Tryz.f118) (by kernel_rfl) (v := .tuple #[]) (by kernel_rfl) ⟨S1, rfl, hx, p1⟩

def Jmc := Yt 10 B118 [0, 1] (Ys 11 B118 [])

theorem W.z5d (u2l : List ByteArray) (pl : Z) (r : Unit) (h : M.a7b u2l pl = some r) {nz wz S0 w0 Lr} (lx0 rx0 u27 u28 u2m u2n u2o u2p u29 Epl) (p0 : Hp nz wz S0 w0 ((some lx0, .obj (lpst 174 (lfr 13 [(2, (pt u28 0)), (6, .func (.func 118) #[] #[(pt u29 0)])] u27) #[7] (rfAssign (Q2p)) (rfBody (Q2p)) rx0 .ready none)) :: (some u28, .row 28 [.slice (Gp u2m) u2n u2o] 1 0) :: (u2m, .row 9 u2p (u2o * kStr.size) 0) :: (some u29, .row 121 [.map none] 1 0) :: PL Epl (Lr))) (u2q : Els kStr S0 w0 u2p u2l) (u2r : u2l.length = u2n) (fpl : PS S0 w0 Epl pl) :
  Calls Tryz.prog 118 #[yieldV lx0, (pt u29 0)] w0 (Rets (Post.z5d nz wz S0 w0 Lr lx0 rx0 u27 u28 u2m u2n u2o u2p u29 Epl u2l pl r)) := by
 subst u2r
 refine Zf Tryz.f118 B118 12 ?_
 refine Gj 14 [(0, yieldV lx0), (1, (pt u29 0))] fun junk => ?_
 delta M.a7b at h
 refine Hn 2 Jmc ?_
 refine Hd (p0.e 3 0) ?_
 refine Op_.rgN 121 (.tmp 4) 5 0 9 123 p0 Goes.v (by kernel_rfl) (by kernel_rfl) fun r5 w2 z2 p2 => ?_
 refine Hn 3 Jm8 ?_
 exact Gk (W.z5e lx0 rx0 u27 u28 u2m u2l.length u2o u2p u29 Epl _ _ h _ _ z2 _ p2 (u2q.ext z2) rfl (fpl.ext z2))

def Post.z5f (u2s : Nat) (Epl : ZE) (pl : Z) (r : List ByteArray) (v : Value) (w' : World) : Prop :=
 ∃ S' Gq nq cq csq, v = .slice (Gp Gq) nq cq ∧ Ext S0 w0 S' w' ∧ Hp nz wz S' w' ((Gq, .row 9 csq (cq * kStr.size) 0) :: (some u2s, .row 121 [.map none] 1 0) :: PL Epl (Lr)) ∧ Els kStr S' w' csq r ∧ r.length = nq

theorem W.z5f (pl : Z) (r : List ByteArray) (h : M.a7c pl = some r) {nz wz S0 w0 Lr} (u2s Epl) (p0 : Hp nz wz S0 w0 ((some u2s, .row 121 [.map none] 1 0) :: PL Epl (Lr))) (fpl : PS S0 w0 Epl pl) :
  Calls Tryz.prog 174 #[.slice none 0 0, .func (.func 118) #[] #[(pt u2s 0)]] w0 (Rets (Post.z5f nz wz S0 w0 Lr u2s Epl pl r)) := by
 refine Zf Tryz.f174 B174 11 ?_
 refine Gj 13 [(0, .slice none 0 0), (1, .func (.func 118) #[] #[(pt u2s 0)])] fun junk => ?_
 delta M.a7c at h
 refine Hn 2 J3x ?_
 refine Ob 28 (.tmp 0) 2 0 (.slice none 0 0) [.slice none 0 0] p0 Goes.v fun b2 w2 z2 p2 => ?_
 refine Hn 8 J40 ?_
 refine Gj 13 [(2, (pt b2 0)), (6, .func (.func 118) #[] #[(pt u2s 0)])] (fun u2u => ?_)
 refine Goes.rangeF (f := 174) (.tmp 6) #[7] 118 #[] #[(pt u2s 0)] (by kernel_rfl) (by kernel_rfl) (fun _ => by kernel_rfl) p2 fun r5 l6 w3 z3 p3 => ?_
 have p3 : Hp nz wz S0 w3 ((none, .row 9 [] (0 * kStr.size) 0) :: (some l6, .obj (lpst 174 (lfr 13 [(2, (pt b2 0)), (6, .func (.func 118) #[] #[(pt u2s 0)])] u2u) #[7] (rfAssign (Q2p)) (rfBody (Q2p)) r5 .ready none)) :: (some r5, .obj (.deferred (some []))) :: (some b2, .row 28 [.slice none 0 0] 1 0) :: (some u2s, .row 121 [.map none] 1 0) :: PL Epl (Lr)) := p3.nilRow' 9
 have p3 := p3.rt 5 10
 have p3 := (((p3.fr 14).fr 11).fr 14).fr 13
 refine Gb h fun y10 e11 h => ?_
 refine ⟨_, W.z5d ([] : List ByteArray) pl y10 e11 _ _ _ _ none 0 0 [] _ _ p3 (Els.nil (K := kStr)) rfl (fpl.ext (z2.t z3)), ?_⟩
 rintro _ w4 ⟨S4, rfl, z4, p4⟩
 refine Goes.endF 0 p4 rfl rfl fun w5 z5 p5 => ?_
 replace p5 : Hp nz wz S4 w5 ((some b2, .row 28 [.slice (Gp none) 0 0] 1 0) :: (none, .row 9 [] (0 * kStr.size) 0) :: (some u2s, .row 121 [.map none] 1 0) :: PL Epl ((some r5, .obj (.deferred (some []))) :: Lr)) := (p5.front 0 _ rfl).drop
 show Goes _ _ J3z _ _ _
 refine Hn 3 J42 ?_
 refine Hd (p5.e 0 0) ?_
 refine Hn 2 J41 ?_
 obtain rfl := sj h
 have p5 := p5.dp 0
 have p5 := p5.fr 12
 refine Goes.retL ?_
 refine lvs_mark 0 rfl rfl p5 rfl fun w6 z6 p6 => ?_
 replace p6 : Hp nz wz S4 w6 ((none, .row 9 [] (0 * kStr.size) 0) :: (some u2s, .row 121 [.map none] 1 0) :: PL Epl (Lr)) := p6.drop
 exact lvs_done (fn := Tryz.f174) rfl rfl rfl rfl (by kernel_rfl) (v := .slice (Gp none) 0 0) (by kernel_rfl) ⟨S4, none, 0, 0, [], rfl, ((((z2.t z3).t z4).t z5).t z6), p6, (Els.nil (K := kStr)), rfl⟩

def Post.z5g (u30 : Nat) (Epl : ZE) (pl : Z) (r : List ByteArray) (v : Value) (w' : World) : Prop :=
 ∃ S' Gq nq cq csq, v = .slice (Gp Gq) nq cq ∧ Ext S0 w0 S' w' ∧ Hp nz wz S' w' ((Gq, .row 9 csq (cq * kStr.size) 0) :: (some u30, .row 121 [.map none] 1 0) :: PL Epl (Lr)) ∧ Els kStr S' w' csq r ∧ r.length = nq

theorem W.z5g (pl : Z) (r : List ByteArray) (h : M.a5m pl = some r) {nz wz S0 w0 Lr} (u30 Epl) (p0 : Hp nz wz S0 w0 ((some u30, .row 121 [.map none] 1 0) :: PL Epl (Lr))) (fpl : PS S0 w0 Epl pl) :
  Calls Tryz.prog 115 #[.func (.func 118) #[] #[(pt u30 0)]] w0 (Rets (Post.z5g nz wz S0 w0 Lr u30 Epl pl r)) := by
 refine Zf Tryz.f115 B115 4 ?_
 refine Gj 5 [(0, .func (.func 118) #[] #[(pt u30 0)])] fun junk => ?_
 delta M.a5m at h
 refine Hn 7 J44 ?_
 refine Gb h fun y2 e3 h => ?_
 refine Gc (.call { callee := .value (.func 174), args := #[(.const (.slice none 0 0)), (.tmp 3)], argTypes := #[28, 117] }) 4 28 174 _ (W.z5f pl y2 e3 _ _ p0 fpl) ?_
 rintro _ w2 ⟨S2, ul, um, un, uo, rfl, z2, p2, up, rfl⟩
 refine Hn 2 J43 ?_
 obtain rfl := sj h
 exact Hr Tryz.f115 ⟨_, _, _, _, _, rfl, z2, p2, up, rfl⟩

def Post.z5h (u30 : Nat) (Epl : ZE) (pl : Z) (r : List ByteArray) (v : Value) (w' : World) : Prop :=
 ∃ S' Gq nq cq csq, v = .slice (Gp Gq) nq cq ∧ Ext S0 w0 S' w' ∧ Hp nz wz S' w' ((Gq, .row 9 csq (cq * kStr.size) 0) :: (some u30, .row 121 [.map none] 1 0) :: PL Epl (Lr)) ∧ Els kStr S' w' csq r ∧ r.length = nq

theorem W.z5h (pl : Z) (r : List ByteArray) (h : M.a4n pl = some r) {nz wz S0 w0 Lr} (u30 Epl) (p0 : Hp nz wz S0 w0 ((some u30, .row 121 [.map none] 1 0) :: PL Epl (Lr))) (fpl : PS S0 w0 Epl pl) :
  Calls Tryz.prog 60 #[.func (.func 118) #[] #[(pt u30 0)]] w0 (Rets (Post.z5h nz wz S0 w0 Lr u30 Epl pl r)) := by
 refine Zf Tryz.f60 B60 8 ?_
 refine Gj 9 [(0, .func (.func 118) #[] #[(pt u30 0)])] fun junk => ?_
 delta M.a4n at h
 refine Hn 7 J46 ?_
 refine Gb h fun y2 e3 h => ?_
 refine Gc (kc 115 [4] #[117]) 5 28 115 _ (W.z5g pl y2 e3 _ _ p0 fpl) ?_
 rintro _ w2 ⟨S2, ul, um, un, uo, rfl, z2, p2, up, rfl⟩
 refine Hn 5 J48 ?_
 refine Gg h fun g5 h => ?_
 refine Gc (kc 116 [6] #[28]) 7 0 116 _ (sortS_calls Tryz.sortS p2 up rfl g5) ?_
 rintro _ w3 ⟨rfl, z3, cs6, p3, f7⟩
 refine Hn 6 J49 ?_
 obtain rfl := sj h
 exact Hr Tryz.f60 ⟨_, _, _, _, _, rfl, (z2.t z3), p3, f7, (srtS_len rfl)⟩

def Post.z5i (Epl : ZE) (pl : Z) (r : Nat) (v : Value) (w' : World) : Prop :=
 ∃ S' u1r uo1, v = .func (.func 118) #[] #[(pt u1r 0)] ∧ Ext S0 w0 S' w' ∧ Hp nz wz S' w' ((some u1r, .row 121 [.map (some uo1)] 1 0) :: PL Epl (Lr)) ∧ Pa 121 S' r uo1

theorem W.z5i (x0 : Nat) (pl : Z) (r : Nat) (h : M.a5o x0 pl = some r) {nz wz S0 w0 Lr} (gx0 Epl) (p0 : Hp nz wz S0 w0 (PL Epl (Lr))) (fx0 : Pa 121 S0 x0 gx0) (fpl : PS S0 w0 Epl pl) :
  Calls Tryz.prog 62 #[.map (some gx0)] w0 (Rets (Post.z5i nz wz S0 w0 Lr Epl pl r)) := by
 refine Zf Tryz.f62 B62 3 ?_
 refine Gj 4 [(0, .map (some gx0))] fun junk => ?_
 delta M.a5o at h
 refine Hn 2 Jm5 ?_
 refine Ob 121 (.tmp 0) 1 0 (.map (some gx0)) [.map (some gx0)] p0 Goes.v fun b1 w2 z2 p2 => ?_
 refine Hn 7 Jm6 ?_
 obtain rfl := sj h
 exact Hr Tryz.f62 ⟨_, _, _, rfl, z2, p2, (fx0.ext z2)⟩

def Post.z5j (lk : Nat) (rk : Nat) (jkk : Nat → Value) (u1s : Nat) (u1t : Nat) (uo2 : Nat) (Epl : ZE) (u1u : Nat) (pl : Z) (r : List ByteArray) (v : Value) (w' : World) : Prop :=
 ∃ S' u1v u1w u1x u1y, v = .bool true ∧ Ext S0 w0 S' w' ∧ Hp nz wz S' w' ((some lk, .obj (lpst 174 (lfr 13 [(2, (pt u1s 0)), (6, .func (.func 118) #[] #[(pt u1t 0)])] jkk) #[7] (rfAssign (Q2p)) (rfBody (Q2p)) rk .ready none)) :: (some u1s, .row 28 [.slice (Gp u1v) u1w u1x] 1 0) :: (u1v, .row 9 u1y (u1x * kStr.size) 0) :: (some u1t, .row 121 [.map (some uo2)] 1 0) :: PL Epl (Lr)) ∧ Els kStr S' w' u1y r ∧ r.length = u1w

theorem W.z5j (u1z : List ByteArray) (u1u : Nat) (a0 : ByteArray) (pl : Z) (r : List ByteArray) (h : M.a4o u1z u1u a0 pl = some r) {nz wz S0 w0 Lr} (lk rk jkk u1s u20 u21 u22 u23 u1t uo2 Epl) (p0 : Hp nz wz S0 w0 ((some lk, .obj (lpst 174 (lfr 13 [(2, (pt u1s 0)), (6, .func (.func 118) #[] #[(pt u1t 0)])] jkk) #[7] (rfAssign (Q2p)) (rfBody (Q2p)) rk .ready none)) :: (some u1s, .row 28 [.slice (Gp u20) u21 u22] 1 0) :: (u20, .row 9 u23 (u22 * kStr.size) 0) :: (some u1t, .row 121 [.map (some uo2)] 1 0) :: PL Epl (Lr))) (u24 : Els kStr S0 w0 u23 u1z) (u25 : u1z.length = u21) (uo3 : Pa 121 S0 u1u uo2) (fpl : PS S0 w0 Epl pl) :
  Goes Tryz.prog (rbase 174 lk) [.code (rfAssign (Q2p)), .beginRound, .code (rfBody (Q2p))] ⟨setp (lfr 13 [(2, (pt u1s 0)), (6, .func (.func 118) #[] #[(pt u1t 0)])] jkk) #[7] #[.string a0], []⟩ w0 (DoneR (Post.z5j nz wz S0 w0 Lr lk rk jkk u1s u1t uo2 Epl u1u pl r)) := by
 subst u25
 refine Gj 13 [(2, (pt u1s 0)), (6, .func (.func 118) #[] #[(pt u1t 0)]), (7, .string a0)] fun junk => ?_
 delta M.a4o at h
 refine Hn 3 [.beginRound, .code (Q2q)] ?_
 refine Goes.beginR 0 rfl p0 rfl fun w2 z2 p2 => ?_
 refine Hn 2 J3i ?_
 refine Hd (p2.e 1 0) ?_
 refine Hn 1 J3j ?_
 have f6 : Els kStr S0 w2 ([.string a0] : List Value) [a0] := by exact (Els.cons (K := kStr) (vs := [.string a0]) (x := a0) rfl Els.nil)
 refine Om (.buildSlice 28 1 #[(0, (.tmp 9))]) 10 28 (fun b => .slice (Gp (some b)) 1 1) 9 ([.string a0] : List Value) (1 * kStr.size) p2 Goes.v fun b5 w3 z3 p3 => ?_
 refine Gg h fun g11 h => ?_
 refine On (K := kStr) 28 (.tmp 8) (.tmp 10) 11 28 9 3 (.string ⟨#[]⟩) 16 u1z.length u22 1 u1z [a0] (u1z ++ [a0]) (Gp (some b5)) 1 rfl rfl rfl p3 rfl (u24.ext (z2.t z3)) Goes.v (f6.ext z3) (src_own p3 (q := 0) rfl) g11 fun w4 G12 c13 u26 z4 p4 f15 => ?_
 refine So 28 (.tmp 2) (.tmp 11) 0 2 u1s 0 (.slice (Gp G12) ((u1z ++ [a0]).length) c13) [.slice (Gp G12) ((u1z ++ [a0]).length) c13] p4 rfl Goes.s fun w5 z5 p5 => ?_
 refine Hn 2 [] ?_
 have p5 := p5.dp 0
 obtain rfl := sj h
 refine Goes.endR 0 p5 rfl fun w6 z6 p6 => ?_
 exact ⟨S0, G12, (u1z ++ [a0]).length, c13, u26, rfl, ((((z2.t z3).t z4).t z5).t z6), p6, (f15.ext (z5.t z6)), rfl⟩

def Jmd := Zb 1 Jm7

def Post.z5k (lx0 : Nat) (rx0 : Nat) (u27 : Nat → Value) (u28 : Nat) (u29 : Nat) (uo4 : Nat) (Epl : ZE) (u2a : Nat) (pl : Z) (r : List ByteArray) (v : Value) (w' : World) : Prop :=
 ∃ S' u1v u1w u1x u1y, v = .tuple #[] ∧ Ext S0 w0 S' w' ∧ Hp nz wz S' w' ((some lx0, .obj (lpst 174 (lfr 13 [(2, (pt u28 0)), (6, .func (.func 118) #[] #[(pt u29 0)])] u27) #[7] (rfAssign (Q2p)) (rfBody (Q2p)) rx0 .ready none)) :: (some u28, .row 28 [.slice (Gp u1v) u1w u1x] 1 0) :: (u1v, .row 9 u1y (u1x * kStr.size) 0) :: (some u29, .row 121 [.map (some uo4)] 1 0) :: PL Epl (Lr)) ∧ Els kStr S' w' u1y r ∧ r.length = u1w

def L.z5l (lx0 : Nat) (rx0 : Nat) (u27 : Nat → Value) (u28 : Nat) (u29 : Nat) (uo4 : Nat) (Epl : ZE) : Nat × (List (ByteArray × (Option Nat))) × (List ByteArray) × Nat × Z → (List ByteArray) → Prop := fun ⟨x5i, x5, u2b, u2a, pl⟩ r => ∀ S1 w1, Ext S0 w0 S1 w1 → ∀ gx5 uo5 uo6 uo7 uo8 u1v u1w u1x u1y (_ : Hp nz wz S1 w1 ((some gx5, .obj (.mapIter (some uo5) uo7 uo8 uo7)) :: (some lx0, .obj (lpst 174 (lfr 13 [(2, (pt u28 0)), (6, .func (.func 118) #[] #[(pt u29 0)])] u27) #[7] (rfAssign (Q2p)) (rfBody (Q2p)) rx0 .ready none)) :: (some u28, .row 28 [.slice (Gp u1v) u1w u1x] 1 0) :: (u1v, .row 9 u1y (u1x * kStr.size) 0) :: (some u29, .row 121 [.map (some uo4)] 1 0) :: PL Epl (Lr))) (_ : It Value.string (kMp 122) S1 w1 uo6 uo7 uo8 x5) (_ : Els kStr S1 w1 u1y u2b) (_ : u2b.length = u1w) (_ : Pa 121 S1 u2a uo4) (_ : PS S1 w1 Epl pl) (_ : Epl.ze[x5i]? = some (uo5, .map uo6 uo7)) (junk : Nat → Value),
 Goes Tryz.prog (base 118) Jm8 ⟨lfr 14 [(0, yieldV lx0), (5, (pt gx5 0))] junk, []⟩ w1 (Done Tryz.prog 118 (Rets (PermP (Post.z5k nz wz S0 w0 Lr lx0 rx0 u27 u28 u29 uo4 Epl u2a pl) r)))

theorem W.z5l {nz wz S0 w0 Lr} (lx0 : Nat) (rx0 : Nat) (u27 : Nat → Value) (u28 : Nat) (u29 : Nat) (uo4 : Nat) (Epl : ZE) : ∀ a r, M.a4 a = some r → L.z5l nz wz S0 w0 Lr lx0 rx0 u27 u28 u29 uo4 Epl a r := by
 have main : ∀ n a r, List.length a.2.1 = n → M.a4 a = some r → L.z5l nz wz S0 w0 Lr lx0 rx0 u27 u28 u29 uo4 Epl a r := by
  intro n
  induction n using Nat.strongRecOn with
  | _ n ih0 =>
  have ur5 : ∀ a r, List.length a.2.1 < n → M.a4 a = some r → L.z5l nz wz S0 w0 Lr lx0 rx0 u27 u28 u29 uo4 Epl a r := fun a r hl h => ih0 _ hl a r rfl h
  intro ⟨x5i, x5, u2b, u2a, pl⟩ r hn h S1 w1 hx gx5 uo5 uo6 uo7 uo8 u1v u1w u1x u1y p1 fx5 u2e u2f uoa fs4 hx5 junk
  try dsimp only at hn
  subst u2f
  refine Hn 2 Jma ?_
  skip
  refine Op_.nxM (.tmp 5) 6 0 0 gx5 p1 rfl (p1.poolGet 9 rfl hx5) fx5 Goes.v (by kernel_rfl) ?_ ?_
  ·
   intro e23; subst e23; rw [M.a4] at h; try dsimp only at h
   refine Hn 5 [] ?_
   obtain rfl := sj h
   have p1 := p1.dp 0
   exact Goes.end_ (fn := Tryz.f118) (by kernel_rfl) (v := .tuple #[]) (by kernel_rfl) ⟨_, List.Perm.refl _, ⟨S1, u1v, u2b.length, u1x, u1y, rfl, hx, p1, u2e, rfl⟩⟩
  ·
   intro j15 l16 v17 b18 w3 z3 p3 f19 m20 f21
   obtain ⟨rn, hn2, qn⟩ := O.inv_members_uint64_1_2_l0 x5i u2b u2a pl _ _ r (pick_perm x5 j15 l16) h; refine Goes.monoP qn ?_; clear h; have h := hn2; clear hn2; rw [M.a4] at h; try dsimp only at h
   have l22 : (List.eraseIdx x5 j15).length < x5.length := by rw [List.length_eraseIdx_of_lt l16]; omega
   generalize List.eraseIdx x5 j15 = uob at h f19 l22
   generalize x5[j15]'(by exact l16) = uoc at h m20 f21
   have f24 := one_mp f21
   refine Hn 8 (Yt 11001100 B118 [0, 1, 2] (Ys 11001101 B118 Jmd)) ?_
   refine Op_.enM (.tmp 5) 8 0 0 gx5 p3 rfl (p3.poolGet 9 rfl hx5) f19.nd m20 Goes.v (by kernel_rfl) ?_
   refine Hn 7 (Yt 110011010 B118 [2, 3] (Ys 110011011 B118 Jmd)) ?_
   have p3 := p3.rt 5 10
   have p3 := (((p3.fr 14).fr 14).fr 14).fr 14
   refine Gb h fun y25 e26 h => ?_
   refine Goes.yieldAt (.call { callee := .value (.tmp 10), args := #[(.tmp 11)], argTypes := #[9] }) 12 4 0 lx0 #[.string uoc.1] p3 rfl (by kernel_rfl) rfl (fun _ => by kernel_rfl) rfl (W.z5j u2b u2a uoc.1 pl y25 e26 _ _ _ _ _ _ _ _ _ _ _ p3 (u2e.ext z3) rfl (uoa.ext z3) (fs4.ext z3)) ?_
   rintro _ w4 ⟨S4, u2v, u2w, u2x, u2y, rfl, z4, p4, u2z, rfl⟩
   refine Hn 6 Jm8 ?_
   have p4 := p4.fr 14
   exact Gk (ur5 _ _ (Nat.lt_of_lt_of_eq l22 hn) h _ _ ((hx.t z3).t z4) _ _ _ _ _ _ _ _ _ p4 (f19.ext z4) u2z rfl (uoa.ext (z3.t z4)) (fs4.ext (z3.t z4)) hx5)
 exact fun a r h => main _ a r rfl h

theorem W.z5k (u2l : List ByteArray) (u2a : Nat) (pl : Z) (r : List ByteArray) (h : M.a3m u2l u2a pl = some r) {nz wz S0 w0 Lr} (lx0 rx0 u27 u28 u2m u2n u2o u2p u29 uo4 Epl) (p0 : Hp nz wz S0 w0 ((some lx0, .obj (lpst 174 (lfr 13 [(2, (pt u28 0)), (6, .func (.func 118) #[] #[(pt u29 0)])] u27) #[7] (rfAssign (Q2p)) (rfBody (Q2p)) rx0 .ready none)) :: (some u28, .row 28 [.slice (Gp u2m) u2n u2o] 1 0) :: (u2m, .row 9 u2p (u2o * kStr.size) 0) :: (some u29, .row 121 [.map (some uo4)] 1 0) :: PL Epl (Lr))) (u2q : Els kStr S0 w0 u2p u2l) (u2r : u2l.length = u2n) (uod : Pa 121 S0 u2a uo4) (fpl : PS S0 w0 Epl pl) :
  Calls Tryz.prog 118 #[yieldV lx0, (pt u29 0)] w0 (Rets (PermP (Post.z5k nz wz S0 w0 Lr lx0 rx0 u27 u28 u29 uo4 Epl u2a pl) r)) := by
 subst u2r
 refine Zf Tryz.f118 B118 12 ?_
 refine Gj 14 [(0, yieldV lx0), (1, (pt u29 0))] fun junk => ?_
 delta M.a3m at h
 refine Hn 2 Jmc ?_
 refine Hd (p0.e 3 0) ?_
 refine Op_.rgM 121 (.tmp 4) 5 0 9 123 8 p0 rfl fpl.ze uod Goes.v (by kernel_rfl) (by kernel_rfl) fun r5 w2 es6 ck7 z2 p2 e9 f8 => ?_
 refine Hn 3 Jm8 ?_
 exact Gk (W.z5l lx0 rx0 u27 u28 u29 uo4 Epl _ _ h _ _ z2 _ _ _ _ _ _ _ _ _ p2 f8 (u2q.ext z2) rfl (uod.ext z2) (fpl.ext z2) e9)

def Post.z5m (u2s : Nat) (uoe : Nat) (Epl : ZE) (u2t : Nat) (pl : Z) (r : List ByteArray) (v : Value) (w' : World) : Prop :=
 ∃ S' Gq nq cq csq, v = .slice (Gp Gq) nq cq ∧ Ext S0 w0 S' w' ∧ Hp nz wz S' w' ((Gq, .row 9 csq (cq * kStr.size) 0) :: (some u2s, .row 121 [.map (some uoe)] 1 0) :: PL Epl (Lr)) ∧ Els kStr S' w' csq r ∧ r.length = nq

theorem W.z5m (u2t : Nat) (pl : Z) (r : List ByteArray) (h : M.a3n u2t pl = some r) {nz wz S0 w0 Lr} (u2s uoe Epl) (p0 : Hp nz wz S0 w0 ((some u2s, .row 121 [.map (some uoe)] 1 0) :: PL Epl (Lr))) (uof : Pa 121 S0 u2t uoe) (fpl : PS S0 w0 Epl pl) :
  Calls Tryz.prog 174 #[.slice none 0 0, .func (.func 118) #[] #[(pt u2s 0)]] w0 (Rets (PermP (Post.z5m nz wz S0 w0 Lr u2s uoe Epl u2t pl) r)) := by
 refine Zf Tryz.f174 B174 11 ?_
 refine Gj 13 [(0, .slice none 0 0), (1, .func (.func 118) #[] #[(pt u2s 0)])] fun junk => ?_
 delta M.a3n at h
 refine Hn 2 J3x ?_
 refine Ob 28 (.tmp 0) 2 0 (.slice none 0 0) [.slice none 0 0] p0 Goes.v fun b2 w2 z2 p2 => ?_
 refine Hn 8 J40 ?_
 refine Gj 13 [(2, (pt b2 0)), (6, .func (.func 118) #[] #[(pt u2s 0)])] (fun u2u => ?_)
 refine Goes.rangeF (f := 174) (.tmp 6) #[7] 118 #[] #[(pt u2s 0)] (by kernel_rfl) (by kernel_rfl) (fun _ => by kernel_rfl) p2 fun r5 l6 w3 z3 p3 => ?_
 have p3 : Hp nz wz S0 w3 ((none, .row 9 [] (0 * kStr.size) 0) :: (some l6, .obj (lpst 174 (lfr 13 [(2, (pt b2 0)), (6, .func (.func 118) #[] #[(pt u2s 0)])] u2u) #[7] (rfAssign (Q2p)) (rfBody (Q2p)) r5 .ready none)) :: (some r5, .obj (.deferred (some []))) :: (some b2, .row 28 [.slice none 0 0] 1 0) :: (some u2s, .row 121 [.map (some uoe)] 1 0) :: PL Epl (Lr)) := p3.nilRow' 9
 have p3 := p3.rt 5 10
 have p3 := (((p3.fr 14).fr 11).fr 14).fr 13
 refine Gb h fun y10 e11 h => ?_
 refine ⟨_, W.z5k ([] : List ByteArray) u2t pl y10 e11 _ _ _ _ none 0 0 [] _ _ _ p3 (Els.nil (K := kStr)) rfl (uof.ext (z2.t z3)) (fpl.ext (z2.t z3)), ?_⟩
 rintro _ w4 ⟨uog, uoh, S4, u2v, u2w, u2x, u2y, rfl, z4, p4, u2z, rfl⟩
 refine Goes.endF 0 p4 rfl rfl fun w5 z5 p5 => ?_
 replace p5 : Hp nz wz S4 w5 ((some b2, .row 28 [.slice (Gp u2v) uog.length u2x] 1 0) :: (u2v, .row 9 u2y (u2x * kStr.size) 0) :: (some u2s, .row 121 [.map (some uoe)] 1 0) :: PL Epl ((some r5, .obj (.deferred (some []))) :: Lr)) := (p5.front 0 _ rfl).drop
 show Goes _ _ J3z _ _ _
 refine Hn 3 J42 ?_
 refine Hd (p5.e 0 0) ?_
 refine Hn 2 J41 ?_
 obtain rfl := sj h
 have p5 := p5.dp 0
 have p5 := p5.fr 12
 refine Goes.retL ?_
 refine lvs_mark 0 rfl rfl p5 rfl fun w6 z6 p6 => ?_
 replace p6 : Hp nz wz S4 w6 ((u2v, .row 9 u2y (u2x * kStr.size) 0) :: (some u2s, .row 121 [.map (some uoe)] 1 0) :: PL Epl (Lr)) := p6.drop
 exact lvs_done (fn := Tryz.f174) rfl rfl rfl rfl (by kernel_rfl) (v := .slice (Gp u2v) uog.length u2x) (by kernel_rfl) ⟨_, uoh, ⟨S4, u2v, uog.length, u2x, u2y, rfl, ((((z2.t z3).t z4).t z5).t z6), p6, (u2z.ext (z5.t z6)), rfl⟩⟩

def Post.z5n (u30 : Nat) (uoi : Nat) (Epl : ZE) (u31 : Nat) (pl : Z) (r : List ByteArray) (v : Value) (w' : World) : Prop :=
 ∃ S' Gq nq cq csq, v = .slice (Gp Gq) nq cq ∧ Ext S0 w0 S' w' ∧ Hp nz wz S' w' ((Gq, .row 9 csq (cq * kStr.size) 0) :: (some u30, .row 121 [.map (some uoi)] 1 0) :: PL Epl (Lr)) ∧ Els kStr S' w' csq r ∧ r.length = nq

theorem W.z5n (u31 : Nat) (pl : Z) (r : List ByteArray) (h : M.a3o u31 pl = some r) {nz wz S0 w0 Lr} (u30 uoi Epl) (p0 : Hp nz wz S0 w0 ((some u30, .row 121 [.map (some uoi)] 1 0) :: PL Epl (Lr))) (uoj : Pa 121 S0 u31 uoi) (fpl : PS S0 w0 Epl pl) :
  Calls Tryz.prog 115 #[.func (.func 118) #[] #[(pt u30 0)]] w0 (Rets (PermP (Post.z5n nz wz S0 w0 Lr u30 uoi Epl u31 pl) r)) := by
 refine Zf Tryz.f115 B115 4 ?_
 refine Gj 5 [(0, .func (.func 118) #[] #[(pt u30 0)])] fun junk => ?_
 delta M.a3o at h
 refine Hn 7 J44 ?_
 refine Gb h fun y2 e3 h => ?_
 refine Gc (.call { callee := .value (.func 174), args := #[(.const (.slice none 0 0)), (.tmp 3)], argTypes := #[28, 117] }) 4 28 174 _ (W.z5m u31 pl y2 e3 _ _ _ p0 uoj fpl) ?_
 rintro _ w2 ⟨y2n, qy2, S2, ul, um, un, uo, rfl, z2, p2, up, rfl⟩
 refine Hn 2 J43 ?_
 obtain rfl := sj h
 exact Hr Tryz.f115 ⟨_, qy2, ⟨_, _, _, _, _, rfl, z2, p2, up, rfl⟩⟩

def Post.z5o (u30 : Nat) (uoi : Nat) (Epl : ZE) (u31 : Nat) (pl : Z) (r : List ByteArray) (v : Value) (w' : World) : Prop :=
 ∃ S' Gq nq cq csq, v = .slice (Gp Gq) nq cq ∧ Ext S0 w0 S' w' ∧ Hp nz wz S' w' ((Gq, .row 9 csq (cq * kStr.size) 0) :: (some u30, .row 121 [.map (some uoi)] 1 0) :: PL Epl (Lr)) ∧ Els kStr S' w' csq r ∧ r.length = nq

theorem W.z5o (u31 : Nat) (pl : Z) (r : List ByteArray) (h : M.a2s u31 pl = some r) {nz wz S0 w0 Lr} (u30 uoi Epl) (p0 : Hp nz wz S0 w0 ((some u30, .row 121 [.map (some uoi)] 1 0) :: PL Epl (Lr))) (uoj : Pa 121 S0 u31 uoi) (fpl : PS S0 w0 Epl pl) :
  Calls Tryz.prog 60 #[.func (.func 118) #[] #[(pt u30 0)]] w0 (Rets (Post.z5o nz wz S0 w0 Lr u30 uoi Epl u31 pl r)) := by
 refine Zf Tryz.f60 B60 8 ?_
 refine Gj 9 [(0, .func (.func 118) #[] #[(pt u30 0)])] fun junk => ?_
 delta M.a2s at h
 refine Hn 7 J46 ?_
 refine Gb h fun y2 e3 h => ?_
 refine Gc (kc 115 [4] #[117]) 5 28 115 _ (W.z5n u31 pl y2 e3 _ _ _ p0 uoj fpl) ?_
 rintro _ w2 ⟨y2n, qy2, S2, ul, um, un, uo, rfl, z2, p2, up, rfl⟩
 refine Hn 5 J48 ?_
 refine Gg h fun g5 h => ?_
 have e8 := srtS_perm qy2
 refine Gc (kc 116 [6] #[28]) 7 0 116 _ (sortS_calls Tryz.sortS p2 up rfl (by rw [qy2.length_eq]; exact g5)) ?_
 rintro _ w3 ⟨rfl, z3, cs6, p3, f7⟩
 rw [e8] at f7
 refine Hn 6 J49 ?_
 obtain rfl := sj h
 exact Hr Tryz.f60 ⟨_, _, _, _, _, rfl, (z2.t z3), p3, f7, ((srtS_len rfl).trans ((List.Perm.length_eq qy2).symm.trans rfl))⟩

def Jmi := Ys 111 B16 []
def Qi1 := Yq 110 B16

def Post.z5p (r : (List ByteArray) × Z) (v : Value) (w' : World) : Prop :=
 ∃ S' Gq nq cq csq Ee0, v = .slice (Gp Gq) nq cq ∧ Ext S0 w0 S' w' ∧ Hp nz wz S' w' ((Gq, .row 9 csq (cq * kStr.size) 0) :: PL Ee0 (Lr)) ∧ Els kStr S' w' csq r.1 ∧ r.1.length = nq ∧ PS S' w' Ee0 r.2

theorem W.z5p (x0 : Nat) (x1 : ByteArray) (pl : Z) (r : (List ByteArray) × Z) (h : M.a1x x0 x1 pl = some r) {nz wz S0 w0 Lr} (gx0 Epl) (p0 : Hp nz wz S0 w0 (PL Epl (Lr))) (fx0 : Pa 80 S0 x0 gx0) (fpl : PS S0 w0 Epl pl) :
  Calls Tryz.prog 16 #[(pt gx0 0), .string x1] w0 (Rets (Post.z5p nz wz S0 w0 Lr r)) := by
 refine Zf Tryz.f16 B16 11 ?_
 refine Gj 13 [(0, (pt gx0 0)), (1, .string x1)] fun junk => ?_
 delta M.a1x at h
 refine Hn 8 (Zr Qi1 [2, 3, 4, 5, 6, 7, 8] Jmi) ?_
 refine Gb h fun y1 e2 h => ?_
 refine Gc (kc 63 [5, 6] #[24, 9]) 7 119 63 _ (W.z23 x0 x1 pl y1 e2 _ _ p0 fx0 fpl) ?_
 rintro ur0 w2 ⟨S2, _, ur1, rfl, z2, p2, up, ug8⟩
 refine Gl h fun v41 h3 h => ?_
 rcases v41 with _ | y4
 ·
  try dsimp only at h
  obtain rfl := PpO.nil up h3
  cases h
 ·
  try dsimp only at h
  obtain ⟨g5, rfl, f6⟩ := PpO.got up h3
  refine Hn 2 (Zr Qi1 [5, 6, 7, 8] Jmi) ?_
  obtain ⟨cs7, q8, l9, e10, f11⟩ := Pl.row p2 7 rfl ug8.zh f6
  obtain ⟨_, _, rfl, q14, ⟨_, _, rfl, q17, ⟨_, _, rfl, q20, ⟨_, _, rfl, q23, ⟨_, _, rfl, rfl, rfl⟩⟩⟩⟩⟩ := q8
  obtain ⟨v12, rfl, f13⟩ := kMp_one (w := w2) q14
  obtain ⟨v15, rfl, f16⟩ := kMp_one (w := w2) q17
  obtain ⟨v18, rfl, f19⟩ := kMp_one (w := w2) q20
  obtain ⟨v21, rfl, f22⟩ := kPp_one (w := w2) q23
  refine Hd (f11 0 _ rfl) ?_
  refine Gl h fun v40 h24 h => ?_
  rcases v40 with _ | y25
  ·
   try dsimp only at h
   obtain rfl := MpO.nil f13 h24
   refine Gb h fun y28 e29 h => ?_
   refine Gc (kc 62 [10] #[121]) 11 117 62 _ (W.z5c y1.2 y28 e29 _ p2 ug8) ?_
   rintro _ w3 ⟨S3, uok, rfl, z3, p3⟩
   refine Gb h fun y31 e32 h => ?_
   refine Gc (kc 60 [11] #[117]) 12 28 60 _ (W.z5h y1.2 y31 e32 _ _ p3 (ug8.ext z3)) ?_
   rintro _ w4 ⟨S4, uol, uom, uon, uoo, rfl, z4, p4, uey, rfl⟩
   have p4 := p4.dp 1
   refine Hn 2 Jmi ?_
   obtain rfl := sj h
   exact Hr Tryz.f16 ⟨_, _, _, _, _, _, rfl, ((z2.t z3).t z4), p4, uey, rfl, (ug8.ext (z3.t z4))⟩
  ·
   try dsimp only at h
   obtain ⟨g26, rfl, f27⟩ := MpO.got f13 h24
   refine Gb h fun y34 e35 h => ?_
   refine Gc (kc 62 [10] #[121]) 11 117 62 _ (W.z5i y25 y1.2 y34 e35 _ _ p2 f27 ug8) ?_
   rintro _ w5 ⟨S5, uop, uoq, rfl, z5, p5, uor⟩
   refine Gb h fun y37 e38 h => ?_
   refine Gc (kc 60 [11] #[117]) 12 28 60 _ (W.z5o y34 y1.2 y37 e38 _ _ _ p5 uor (ug8.ext z5)) ?_
   rintro _ w6 ⟨S6, uos, uot, uou, uov, rfl, z6, p6, uow, rfl⟩
   have p6 := p6.dp 1
   refine Hn 2 Jmi ?_
   obtain rfl := sj h
   exact Hr Tryz.f16 ⟨_, _, _, _, _, _, rfl, ((z2.t z5).t z6), p6, uow, rfl, (ug8.ext (z5.t z6))⟩

def Qi3 := Yq 1110100 B38
def Jmn := Zl Qi3 (Zb 0 (Ys 1111 B38 []))
def Jmo := Zc Qi3 Jmn
def Jms := Zb 1 (Ys 111010011 B38 Jmn)

def Post.z5q (r : Bool) (v : Value) (w' : World) : Prop :=
 ∃ S', v = .bool r ∧ Ext S0 w0 S' w' ∧ Hp nz wz S' w' (Lr)

def L.z5r : (List ByteArray) × (List ByteArray) × Int → Bool → Prop := fun ⟨x0, x1, x5⟩ r => ∀ S1 w1, Ext S0 w0 S1 w1 → ∀ Ax0 nx0 cx0 Ax1 nx1 cx1 (_ : Hp nz wz S1 w1 (Lr)) (_ : Rd kStr S1 w1 Ax0 cx0 x0) (_ : x0.length = nx0) (_ : Rd kStr S1 w1 Ax1 cx1 x1) (_ : x1.length = nx1) (junk : Nat → Value),
 Goes Tryz.prog (base 38) Jmo ⟨lfr 26 [(0, .slice Ax0 nx0 cx0), (1, .slice Ax1 nx1 cx1), (5, .i x5)] junk, []⟩ w1 (Done Tryz.prog 38 (Rets (Post.z5q nz wz S0 w0 Lr r)))

theorem W.z5r {nz wz S0 w0 Lr} : ∀ a r, M.a2t a = some r → (L.z5r nz wz S0 w0 Lr) a r := by
 refine M.a2t.partial_correctness (motive := (L.z5r nz wz S0 w0 Lr)) ?_
 intro ur6 ur7 ⟨x0, x1, x5⟩ r h S1 w1 hx Ax0 nx0 cx0 Ax1 nx1 cx1 p1 fx0 lx0 fx1 lx1 junk
 try dsimp only at h
 subst lx0
 subst lx1
 refine Hn 8 (Ys 111010001 B38 (Ys 11101001 B38 Jmn)) ?_
 refine Hb [(14, .bool (decide (x5 < (x0.length : Int))))] ?_
 refine Gi h (fun h2 h => ?_) fun h2 h => ?_
 ·
  rw [dt h2]
  refine Hn 5 (Ys 11101001000 B38 (Ys 11101001001 B38 Jms)) ?_
  have z2 : Ext S1 w1 S1 (w1).drew := Ext.draw
  have p2 := p1.draw
  refine Gd [] (Fc S1 (w1).drew []) 6 9 ?_
  generalize (w1).drew = w2 at z2 p2 ⊢
  refine Hq [0, 1] 2 (Fc.here trivial) ?_
  refine Gg h fun g3 h => ?_
  refine Hy 2 9 .i64 rfl rfl (fx0.ext z2) (Fc.here trivial) g3 h2 fun a4 _ f5 q6 => ?_
  obtain rfl := q6
  refine Hl 3 (Fc.here trivial) (fun _ h => f5.fc h 0 _ rfl) ?_
  refine Hq [4, 5] 2 (Fc.here trivial) ?_
  refine Gg h fun g7 h => ?_
  refine Hy 6 9 .i64 rfl rfl (fx1.ext z2) (Fc.here trivial) g3 g7 fun a8 _ f9 q10 => ?_
  obtain rfl := q10
  refine Hl 7 (Fc.here trivial) (fun _ h => f9.fc h 0 _ rfl) ?_
  refine Hq [8] 1 (Fc.here trivial) ?_
  refine Ad ?_
  refine Hb [(25, .bool (!((gi x0 x5).toList == (gi x1 x5).toList)))] ?_
  refine Gi h (fun h11 h => ?_) fun h11 h => ?_
  ·
   rw [h11]
   refine Hn 9 Jmo ?_
   exact Gk (ur7 _ _ h _ _ (hx.t z2) _ _ _ _ _ _ p2 (fx0.ext z2) rfl (fx1.ext z2) rfl)
  ·
   rw [bf h11]
   refine Hn 5 (Ys 1110100100101 B38 Jms) ?_
   obtain rfl := sj h
   exact Hr Tryz.f38 ⟨_, rfl, (hx.t z2), p2⟩
 ·
  rw [df h2]
  refine Hn 6 (Ys 11111 B38 []) ?_
  obtain rfl := sj h
  exact Hr Tryz.f38 ⟨_, rfl, hx, p1⟩

def Jmx := Ys 111 B38 []

theorem W.z5q (x0 : List ByteArray) (x1 : List ByteArray) (r : Bool) (h : M.a4p x0 x1 = some r) {nz wz S0 w0 Lr} (Ax0 nx0 cx0 Ax1 nx1 cx1) (p0 : Hp nz wz S0 w0 (Lr)) (fx0 : Rd kStr S0 w0 Ax0 cx0 x0) (lx0 : x0.length = nx0) (fx1 : Rd kStr S0 w0 Ax1 cx1 x1) (lx1 : x1.length = nx1) :
  Calls Tryz.prog 38 #[.slice Ax0 nx0 cx0, .slice Ax1 nx1 cx1] w0 (Rets (Post.z5q nz wz S0 w0 Lr r)) := by
 subst lx0
 subst lx1
 refine Zf Tryz.f38 B38 24 ?_
 refine Gj 26 [(0, .slice Ax0 x0.length cx0), (1, .slice Ax1 x1.length cx1)] fun junk => ?_
 delta M.a4p at h
 refine Hn 13 (Ys 1101 B38 Jmx) ?_
 refine Hb [(10, .bool (!(decide ((x0.length : Int) = (x1.length : Int)))))] ?_
 refine Gi h (fun h1 h => ?_) fun h1 h => ?_
 ·
  rw [dt h1]
  refine Hn 9 Jmo ?_
  exact Gk (W.z5r _ _ h _ _ (Ext.refl S0 w0) _ _ _ _ _ _ p0 fx0 rfl fx1 rfl)
 ·
  rw [df h1]
  refine Hn 5 (Ys 110101 B38 Jmx) ?_
  obtain rfl := sj h
  exact Hr Tryz.f38 ⟨_, rfl, (Ext.refl S0 w0), p0⟩

def Jn0 := Ys 111 B19 []
def Qif := Yq 110 B19
def Jn1 := Zr Qif [2, 3, 4, 5, 6] Jn0
def Jn2 := Zr Qif [5, 6] Jn0

def Post.z5s (r : Int × Z) (v : Value) (w' : World) : Prop :=
 ∃ S' Ee0, v = .i r.1 ∧ Ext S0 w0 S' w' ∧ Hp nz wz S' w' (PL Ee0 (Lr)) ∧ PS S' w' Ee0 r.2

theorem W.z5s (x0 : Nat) (x1 : ByteArray) (pl : Z) (r : Int × Z) (h : M.a5p x0 x1 pl = some r) {nz wz S0 w0 Lr} (gx0 Epl) (p0 : Hp nz wz S0 w0 (PL Epl (Lr))) (fx0 : Pa 80 S0 x0 gx0) (fpl : PS S0 w0 Epl pl) :
  Calls Tryz.prog 19 #[(pt gx0 0), .string x1] w0 (Rets (Post.z5s nz wz S0 w0 Lr r)) := by
 refine Zf Tryz.f19 B19 9 ?_
 refine Gj 11 [(0, (pt gx0 0)), (1, .string x1)] fun junk => ?_
 delta M.a5p at h
 refine Hn 8 Jn1 ?_
 refine Gb h fun y1 e2 h => ?_
 refine Gc (kc 63 [5, 6] #[24, 9]) 7 119 63 _ (W.z23 x0 x1 pl y1 e2 _ _ p0 fx0 fpl) ?_
 rintro ur0 w2 ⟨S2, _, ur1, rfl, z2, p2, up, ug8⟩
 refine Gl h fun v24 h3 h => ?_
 rcases v24 with _ | y4
 ·
  try dsimp only at h
  obtain rfl := PpO.nil up h3
  cases h
 ·
  try dsimp only at h
  obtain ⟨g5, rfl, f6⟩ := PpO.got up h3
  refine Hn 2 Jn2 ?_
  obtain ⟨cs7, q8, l9, e10, f11⟩ := Pl.row p2 7 rfl ug8.zh f6
  obtain ⟨_, _, rfl, q14, ⟨_, _, rfl, q17, ⟨_, _, rfl, q20, ⟨_, _, rfl, q23, ⟨_, _, rfl, rfl, rfl⟩⟩⟩⟩⟩ := q8
  obtain ⟨v12, rfl, f13⟩ := kMp_one (w := w2) q14
  obtain ⟨v15, rfl, f16⟩ := kMp_one (w := w2) q17
  obtain ⟨v18, rfl, f19⟩ := kMp_one (w := w2) q20
  obtain ⟨v21, rfl, f22⟩ := kPp_one (w := w2) q23
  refine Hd (f11 5 _ rfl) ?_
  refine Hn 2 Jn0 ?_
  obtain rfl := sj h
  exact Hr Tryz.f19 ⟨_, _, rfl, z2, p2, ug8⟩

def Jn9 := Ys 1111111 B13 []
def Qin := Yq 1111110 B13

def Post.z5t (r : Bool × Z) (v : Value) (w' : World) : Prop :=
 ∃ S' Ee0, v = .bool r.1 ∧ Ext S0 w0 S' w' ∧ Hp nz wz S' w' (PL Ee0 (Lr)) ∧ PS S' w' Ee0 r.2

theorem W.z5t (pl : Z) (r : Bool × Z) (h : M.a2u pl = some r) {nz wz S0 w0 Lr} (Epl) (p0 : Hp nz wz S0 w0 (PL Epl (Lr))) (fpl : PS S0 w0 Epl pl) :
  Calls Tryz.prog 13 #[] w0 (Rets (Post.z5t nz wz S0 w0 Lr r)) := by
 refine Zf Tryz.f13 B13 35 ?_
 refine Gj 35 [] fun junk => ?_
 delta M.a2u at h
 refine Hn 6 (Yt 110 B13 [0, 1] (Ys 111 B13 [])) ?_
 refine Gb h fun y1 e2 h => ?_
 refine Gc (kc 23 [] #[]) 2 24 23 _ (W.z0 pl y1 e2 _ p0 fpl) ?_
 rintro _ w2 ⟨S2, ur9, ur1, rfl, z2, p2, up, ug8⟩
 refine Hn 14 (Yt 11110 B13 [2, 3] (Ys 11111 B13 [])) ?_
 refine Gl h fun v5 e6 h => ?_
 have f4 : Els kT55 S2 w2 ([.string (⟨#[97]⟩ : ByteArray), .string (⟨#[120]⟩ : ByteArray)] : List Value) v5 := by rw [← e6]; exact (Els.cons (K := kT55) (vs := [.string (⟨#[97]⟩ : ByteArray), .string (⟨#[120]⟩ : ByteArray)]) (x := (⟨(⟨#[97]⟩ : ByteArray), (⟨#[120]⟩ : ByteArray)⟩ : T55)) ⟨[.string (⟨#[97]⟩ : ByteArray)], [.string (⟨#[120]⟩ : ByteArray)], rfl, rfl, rfl⟩ Els.nil)
 refine Om (.buildSlice 38 1 #[(0, (.tmp 6))]) 7 38 (fun b => .slice (Gp (some b)) 1 1) 56 ([.string (⟨#[97]⟩ : ByteArray), .string (⟨#[120]⟩ : ByteArray)] : List Value) (1 * kT55.size) p2 Goes.v fun b3 w3 z3 p3 => ?_
 obtain ⟨S4, z4, p4, f8⟩ := p3.freezeRd 0 rfl (f4.ext z3) (by decide)
 have p4 := p4.rt 1 10
 refine Gb h fun y9 e10 h => ?_
 refine Gc (.call { callee := .value (.func 20), args := #[(.tmp 5), (.const (.int .u64 5)), (.tmp 7)], argTypes := #[24, 35, 38] }) 8 39 20 _ (W.z1s y1.1 5 v5 y1.2 y9 e10 _ _ _ _ _ p4 (up.ext (z3.t z4)) f8 (by rw [← e6]; try rfl) (ug8.ext (z3.t z4))) ?_
 rintro _ w5 ⟨S5, u1o, rfl, z5, p5, u1q⟩
 have p5 := p5.dp 10
 refine Hn 6 (Yt 111110 B13 [3, 4] (Ys 111111 B13 [])) ?_
 refine Gl h fun v13 e14 h => ?_
 have f12 : Els kT55 S5 w5 ([.string (⟨#[97]⟩ : ByteArray), .string (⟨#[121]⟩ : ByteArray), .string (⟨#[98]⟩ : ByteArray), .string (⟨#[122]⟩ : ByteArray)] : List Value) v13 := by rw [← e14]; exact (Els.cons (K := kT55) (vs := [.string (⟨#[97]⟩ : ByteArray), .string (⟨#[121]⟩ : ByteArray)]) (x := (⟨(⟨#[97]⟩ : ByteArray), (⟨#[121]⟩ : ByteArray)⟩ : T55)) ⟨[.string (⟨#[97]⟩ : ByteArray)], [.string (⟨#[121]⟩ : ByteArray)], rfl, rfl, rfl⟩ (Els.cons (K := kT55) (vs := [.string (⟨#[98]⟩ : ByteArray), .string (⟨#[122]⟩ : ByteArray)]) (x := (⟨(⟨#[98]⟩ : ByteArray), (⟨#[122]⟩ : ByteArray)⟩ : T55)) ⟨[.string (⟨#[98]⟩ : ByteArray)], [.string (⟨#[122]⟩ : ByteArray)], rfl, rfl, rfl⟩ Els.nil))
 refine Om (.buildSlice 38 2 #[(0, (.tmp 10)), (1, (.tmp 11))]) 12 38 (fun b => .slice (Gp (some b)) 2 2) 56 ([.string (⟨#[97]⟩ : ByteArray), .string (⟨#[121]⟩ : ByteArray), .string (⟨#[98]⟩ : ByteArray), .string (⟨#[122]⟩ : ByteArray)] : List Value) (2 * kT55.size) p5 Goes.v fun b11 w6 z6 p6 => ?_
 obtain ⟨S7, z7, p7, f16⟩ := p6.freezeRd 0 rfl (f12.ext z6) (by decide)
 have p7 := p7.rt 1 10
 refine Gb h fun y17 e18 h => ?_
 refine Gc (.call { callee := .value (.func 20), args := #[(.tmp 9), (.const (.int .u64 7)), (.tmp 12)], argTypes := #[24, 35, 38] }) 13 39 20 _ (W.z1s y1.1 7 v13 y9.2 y17 e18 _ _ _ _ _ p7 (up.ext ((((z3.t z4).t z5).t z6).t z7)) f16 (by rw [← e14]; try rfl) (u1q.ext (z6.t z7))) ?_
 rintro _ w8 ⟨S8, u7c, rfl, z8, p8, u7d⟩
 have p8 := p8.dp 10
 refine Hn 4 (Zr Qin [1, 2, 3, 4, 5, 6, 7, 8, 9, 10, 11, 12, 13, 14, 15, 16, 17, 18, 19, 20, 21] Jn9) ?_
 refine Gb h fun y19 e20 h => ?_
 refine Gc (.call { callee := .value (.func 17), args := #[(.tmp 14), (.const (.string ⟨#[97]⟩)), (.const (.string ⟨#[120]⟩))], argTypes := #[24, 9, 9] }) 15 31 17 _ (W.z4q y1.1 (⟨#[97]⟩ : ByteArray) (⟨#[120]⟩ : ByteArray) y17.2 y19 e20 _ _ p8 (up.ext (((((z3.t z4).t z5).t z6).t z7).t z8)) u7d) ?_
 rintro _ w9 ⟨S9, ura, urb, urc, urd, ure, rfl, z9, p9, urf, rfl, urg⟩
 have f23 : Els (kInt .u64) S9 w9 ([.u 5] : List Value) [5] := by exact (Els.cons (K := (kInt .u64)) (vs := [.u 5]) (x := 5) rfl Els.nil)
 refine Om (.buildSlice 31 1 #[(0, (.const (.int .u64 5)))]) 16 31 (fun b => .slice (Gp (some b)) 1 1) 35 ([.u 5] : List Value) (1 * (kInt .u64).size) p9 Goes.v fun b22 w10 z10 p10 => ?_
 obtain ⟨S11, z11, p11, f25⟩ := p10.freezeRd 1 rfl (urf.ext z10) (by decide)
 obtain ⟨S12, z12, p12, f26⟩ := p11.freezeRd 0 rfl (f23.ext (z10.t z11)) (by decide)
 refine Gb h fun y27 e28 h => ?_
 refine Gc (kc 58 [15, 16] #[31, 31]) 17 4 58 _ (W.z5a y19.1 [5] y27 e28 _ _ _ _ _ _ p12 (f25.ext z12) rfl f26 rfl) ?_
 rintro _ w13 ⟨S13, rfl, z13, p13⟩
 have p13 := (p13.dp 0).dp 0
 refine Hn 1 (Zr Qin [5, 6, 7, 8, 9, 10, 11, 12, 13, 14, 15, 16, 17, 18, 19, 20, 21] Jn9) ?_
 refine Hb [(17, .bool y27), (18, .bool y27)] ?_
 refine Gi h (fun h29 h => ?_) fun h29 h => ?_
 ·
  rw [h29]
  refine Hn 1 (Zr Qin [6, 7, 8, 9, 10, 11, 12, 13, 14, 15, 16, 17, 18, 19, 20, 21] Jn9) ?_
  refine Gb h fun y30 e31 h => ?_
  refine Gc (.call { callee := .value (.func 17), args := #[(.tmp 19), (.const (.string ⟨#[98]⟩)), (.const (.string ⟨#[]⟩))], argTypes := #[24, 9, 9] }) 20 31 17 _ (W.z4q y1.1 (⟨#[98]⟩ : ByteArray) (⟨#[]⟩ : ByteArray) y19.2 y30 e31 _ _ p13 (up.ext ((((((((((z3.t z4).t z5).t z6).t z7).t z8).t z9).t z10).t z11).t z12).t z13)) (urg.ext (((z10.t z11).t z12).t z13))) ?_
  rintro _ w14 ⟨S14, urh, uri, urj, urk, u9n, rfl, z14, p14, ud5, rfl, u9o⟩
  have f34 : Els (kInt .u64) S14 w14 ([.u 5] : List Value) [5] := by exact (Els.cons (K := (kInt .u64)) (vs := [.u 5]) (x := 5) rfl Els.nil)
  refine Om (.buildSlice 31 1 #[(0, (.const (.int .u64 5)))]) 21 31 (fun b => .slice (Gp (some b)) 1 1) 35 ([.u 5] : List Value) (1 * (kInt .u64).size) p14 Goes.v fun b33 w15 z15 p15 => ?_
  obtain ⟨S16, z16, p16, f36⟩ := p15.freezeRd 1 rfl (ud5.ext z15) (by decide)
  obtain ⟨S17, z17, p17, f37⟩ := p16.freezeRd 0 rfl (f34.ext (z15.t z16)) (by decide)
  refine Gb h fun y38 e39 h => ?_
  refine Gc (kc 58 [20, 21] #[31, 31]) 22 4 58 _ (W.z5a y30.1 [5] y38 e39 _ _ _ _ _ _ p17 (f36.ext z17) rfl f37 rfl) ?_
  rintro _ w18 ⟨S18, rfl, z18, p18⟩
  have p18 := (p18.dp 0).dp 0
  refine Hn 2 (Zr Qin [11, 12, 13, 14, 15, 16, 17, 18, 19, 20, 21] Jn9) ?_
  refine Hb [(22, .bool y38), (23, .bool y38), (24, .bool y38)] ?_
  refine Gi h (fun h40 h => ?_) fun h40 h => ?_
  ·
   rw [h40]
   refine Hn 1 (Zr Qin [12, 13, 14, 15, 16, 17, 18, 19, 20, 21] Jn9) ?_
   refine Gb h fun y41 e42 h => ?_
   refine Gc (.call { callee := .value (.func 16), args := #[(.tmp 25), (.const (.string ⟨#[97]⟩))], argTypes := #[24, 9] }) 26 28 16 _ (W.z5p y1.1 (⟨#[97]⟩ : ByteArray) y30.2 y41 e42 _ _ p18 (up.ext (((((((((((((((z3.t z4).t z5).t z6).t z7).t z8).t z9).t z10).t z11).t z12).t z13).t z14).t z15).t z16).t z17).t z18)) (u9o.ext (((z15.t z16).t z17).t z18))) ?_
   rintro _ w19 ⟨S19, url, urm, urn, uro, urp, rfl, z19, p19, urq, rfl, urr⟩
   refine Gl h fun v46 e47 h => ?_
   have f45 : Els kStr S19 w19 ([.string (⟨#[120]⟩ : ByteArray), .string (⟨#[121]⟩ : ByteArray)] : List Value) v46 := by rw [← e47]; exact (Els.cons (K := kStr) (vs := [.string (⟨#[120]⟩ : ByteArray)]) (x := (⟨#[120]⟩ : ByteArray)) rfl (Els.cons (K := kStr) (vs := [.string (⟨#[121]⟩ : ByteArray)]) (x := (⟨#[121]⟩ : ByteArray)) rfl Els.nil))
   refine Om (.buildSlice 28 2 #[(0, (.const (.string ⟨#[120]⟩))), (1, (.const (.string ⟨#[121]⟩)))]) 27 28 (fun b => .slice (Gp (some b)) 2 2) 9 ([.string (⟨#[120]⟩ : ByteArray), .string (⟨#[121]⟩ : ByteArray)] : List Value) (2 * kStr.size) p19 Goes.v fun b44 w20 z20 p20 => ?_
   obtain ⟨S21, z21, p21, f49⟩ := p20.freezeRd 1 rfl (urq.ext z20) (by decide)
   obtain ⟨S22, z22, p22, f50⟩ := p21.freezeRd 0 rfl (f45.ext (z20.t z21)) (by decide)
   refine Gb h fun y51 e52 h => ?_
   refine Gc (kc 38 [26, 27] #[28, 28]) 28 4 38 _ (W.z5q y41.1 v46 y51 e52 _ _ _ _ _ _ p22 (f49.ext z22) rfl f50 (by rw [← e47]; try rfl)) ?_
   rintro _ w23 ⟨S23, rfl, z23, p23⟩
   have p23 := (p23.dp 0).dp 0
   refine Hn 2 (Zr Qin [17, 18, 19, 20, 21] Jn9) ?_
   refine Hb [(28, .bool y51), (29, .bool y51), (30, .bool y51)] ?_
   refine Gi h (fun h53 h => ?_) fun h53 h => ?_
   ·
    rw [h53]
    refine Hn 1 (Zr Qin [18, 19, 20, 21] Jn9) ?_
    refine Gb h fun y54 e55 h => ?_
    refine Gc (.call { callee := .value (.func 19), args := #[(.tmp 31), (.const (.string ⟨#[98]⟩))], argTypes := #[24, 9] }) 32 3 19 _ (W.z5s y1.1 (⟨#[98]⟩ : ByteArray) y41.2 y54 e55 _ _ p23 (up.ext ((((((((((((((((((((z3.t z4).t z5).t z6).t z7).t z8).t z9).t z10).t z11).t z12).t z13).t z14).t z15).t z16).t z17).t z18).t z19).t z20).t z21).t z22).t z23)) (urr.ext (((z20.t z21).t z22).t z23))) ?_
    rintro _ w24 ⟨S24, urs, rfl, z24, p24, urt⟩
    refine Hn 4 Jn9 ?_
    obtain rfl := sj h
    exact Hr Tryz.f13 ⟨_, _, rfl, ((((((((((((((((((((((z2.t z3).t z4).t z5).t z6).t z7).t z8).t z9).t z10).t z11).t z12).t z13).t z14).t z15).t z16).t z17).t z18).t z19).t z20).t z21).t z22).t z23).t z24), p24, urt⟩
   ·
    rw [bf h53]
    refine Hn 6 Jn9 ?_
    obtain rfl := sj h
    exact Hr Tryz.f13 ⟨_, _, rfl, (((((((((((((((((((((z2.t z3).t z4).t z5).t z6).t z7).t z8).t z9).t z10).t z11).t z12).t z13).t z14).t z15).t z16).t z17).t z18).t z19).t z20).t z21).t z22).t z23), p23, (urr.ext (((z20.t z21).t z22).t z23))⟩
  ·
   rw [bf h40]
   refine Hn 12 Jn9 ?_
   obtain rfl := sj h
   exact Hr Tryz.f13 ⟨_, _, rfl, ((((((((((((((((z2.t z3).t z4).t z5).t z6).t z7).t z8).t z9).t z10).t z11).t z12).t z13).t z14).t z15).t z16).t z17).t z18), p18, (u9o.ext (((z15.t z16).t z17).t z18))⟩
 ·
  rw [bf h29]
  refine Hn 14 (Zr Qin [19, 20, 21] Jn9) ?_
  refine Hn 4 Jn9 ?_
  obtain rfl := sj h
  exact Hr Tryz.f13 ⟨_, _, rfl, (((((((((((z2.t z3).t z4).t z5).t z6).t z7).t z8).t z9).t z10).t z11).t z12).t z13), p13, (urg.ext (((z10.t z11).t z12).t z13))⟩


def Post.z5u (Epl : ZE) (pl : Z) (r : Unit) (v : Value) (w' : World) : Prop :=
 ∃ S', v = .bool false ∧ Ext S0 w0 S' w' ∧ Hp nz wz S' w' (PL Epl (Lr))

theorem W.z5u (pl : Z) (r : Unit) (h : M.a9 pl = some r) {nz wz S0 w0 Lr} (Epl) (p0 : Hp nz wz S0 w0 (PL Epl (Lr))) (fpl : PS S0 w0 Epl pl) :
  Calls Tryz.prog 59 #[.pointer none] w0 (Rets (Post.z5u nz wz S0 w0 Lr Epl pl r)) := by
 refine Zf Tryz.f59 B59 11 ?_
 refine Gj 12 [(0, .pointer none)] fun junk => ?_
 delta M.a9 at h
 refine Hn 14 (Zr Q3 [8, 9] J3) ?_
 refine Hn 3 J3 ?_
 obtain rfl := sj h
 exact Hr Tryz.f59 ⟨_, rfl, (Ext.refl S0 w0), p0⟩

def Jnk := Yt 10 B35 [0, 1, 2] (Ys 11 B35 [])
def Jnl := Ys 111 B35 []
def Jnm := Ys 1101 B35 Jnl
def Jnn := Yt 1100 B35 [1, 2] Jnm
def Jno := Ys 110101 B35 Jnl

def Post.z5v (Epl : ZE) (pl : Z) (r : Int) (v : Value) (w' : World) : Prop :=
 ∃ S', v = .tuple #[.slice none 0 0, .i r] ∧ Ext S0 w0 S' w' ∧ Hp nz wz S' w' (PL Epl (Lr))

theorem W.z5v (x1 : ByteArray) (x2 : T64) (pl : Z) (r : Int) (h : M.a5r x1 x2 pl = some r) {nz wz S0 w0 Lr} (urx ury urz Epl) (p0 : Hp nz wz S0 w0 (PL Epl (Lr))) (us0 : Rd kT64 S0 w0 urx urz x2.L) (us1 : x2.L.length = ury) (fpl : PS S0 w0 Epl pl) :
  Calls Tryz.prog 35 #[.pointer none, .string x1, (ag (vT64 x2 urx ury urz))] w0 (Rets (Post.z5v nz wz S0 w0 Lr Epl pl r)) := by
 subst us1
 refine Zf Tryz.f35 B35 20 ?_
 refine Gj 23 [(0, .pointer none), (1, .string x1), (2, (ag (vT64 x2 urx x2.L.length urz)))] fun junk => ?_
 delta M.a5r at h
 refine Hn 2 Jnk ?_
 refine Ob 65 (.tmp 2) 5 0 (ag (vT64 x2 urx x2.L.length urz)) (vT64 x2 urx x2.L.length urz) p0 Goes.v fun b1 w2 z2 p2 => ?_
 refine Hn 7 Jnn ?_
 have p2 := p2.rt 1 10
 refine Gb h fun y3 e4 h => ?_
 refine Gc (kc 59 [9] #[24]) 10 4 59 _ (W.z5u pl y3 e4 _ p2 (fpl.ext z2)) ?_
 rintro _ w3 ⟨S3, rfl, z3, p3⟩
 refine Hn 8 Jno ?_
 obtain rfl := sj h
 have p3 := p3.dp 10
 exact Hr Tryz.f35 ⟨_, rfl, (z2.t z3), p3⟩

def Jnp := Ys 1111 B128 []
def Jnq := Ys 11101 B128 Jnp
def Jnr := Ys 11111 B128 []
def Qix := Yq 11110100 B128
def Jnt := Zl Qix (Zb 0 Jnr)
def Jnu := Zc Qix Jnt
def Jnx := Ys 111 B128 []
def Qj1 := Yq 110 B128
def Qj2 := Yq 11100 B128
def Jo8 := Zb 1 (Ys 11110100111 B128 Jnt)
def Job := Ys 11110100110011 B128 Jo8
def Qjc := Yq 11110100110010 B128

def Post.z5w (gx2 : Nat) (r : Bool × Int) (v : Value) (w' : World) : Prop :=
 ∃ S', v = .bool r.1 ∧ Ext S0 w0 S' w' ∧ Hp nz wz S' w' ((some gx2, .row 3 [.i r.2] 1 0) :: Lr)

def LF.z5w : T64 × Int × Int → (Bool × Int) → Prop := fun ⟨x0, x1, uge⟩ r => ∀ {nz wz S0 w0 Lr} us2 us3 us4 gx2 (_ : Hp nz wz S0 w0 ((some gx2, .row 3 [.i uge] 1 0) :: Lr)) (_ : Rd kT64 S0 w0 us2 us4 x0.L) (_ : x0.L.length = us3),
 Calls Tryz.prog 128 #[(ag (vT64 x0 us2 us3 us4)), .i x1, (pt gx2 0)] w0 (Rets (Post.z5w nz wz S0 w0 Lr gx2 r))

def L.z5x (gx2 : Nat) : Int × T64 × Bool × Int → (Bool × Int) → Prop := fun ⟨x1, x3v, x21, us5⟩ r => ∀ S1 w1, Ext S0 w0 S1 w1 → ∀ gx3 us6 us7 us8 (_ : Hp nz wz S1 w1 ((some gx3, .row 65 (vT64 x3v us6 us7 us8) 3 0) :: (some gx2, .row 3 [.i us5] 1 0) :: Lr)) (_ : Rd kT64 S1 w1 us6 us8 x3v.L) (_ : x3v.L.length = us7) (junk : Nat → Value),
 Goes Tryz.prog (base 128) Jnq ⟨lfr 36 [(1, .i x1), (2, (pt gx2 0)), (3, (pt gx3 0)), (21, .bool x21)] junk, []⟩ w1 (Done Tryz.prog 128 (Rets (Post.z5w nz wz S0 w0 Lr gx2 r)))

def LL.z5x : Int × T64 × Bool × Int → (Bool × Int) → Prop := fun a r => ∀ {nz wz S0 w0 Lr} (gx2 : Nat), L.z5x nz wz S0 w0 Lr gx2 a r

def L.z5y (gx2 : Nat) : Int × (List T64) × Int × Int × Int → (Bool × Int) → Prop := fun ⟨x1, x23, x24, x25, us5⟩ r => ∀ S1 w1, Ext S0 w0 S1 w1 → ∀ us9 usa usb (_ : Hp nz wz S1 w1 ((some gx2, .row 3 [.i us5] 1 0) :: Lr)) (_ : Rd kT64 S1 w1 us9 usb x23) (_ : x23.length = usa) (junk : Nat → Value),
 Goes Tryz.prog (base 128) Jnu ⟨lfr 36 [(1, .i x1), (2, (pt gx2 0)), (23, .slice us9 usa usb), (24, .i x24), (25, .i x25)] junk, []⟩ w1 (Done Tryz.prog 128 (Rets (Post.z5w nz wz S0 w0 Lr gx2 r)))

def LL.z5y : Int × (List T64) × Int × Int × Int → (Bool × Int) → Prop := fun a r => ∀ {nz wz S0 w0 Lr} (gx2 : Nat), L.z5y nz wz S0 w0 Lr gx2 a r

theorem W.z5z : (∀ a r, M.a4u a = some r → LF.z5w a r) ∧ (∀ a r, M.a5s a = some r → LL.z5x a r) ∧ (∀ a r, M.a5t a = some r → LL.z5y a r) := by
 refine M.a4u.mutual_partial_correctness LF.z5w LL.z5x LL.z5y ?_ ?_ ?_
 ·
  intro usc usd ⟨x0, x1, uge⟩ r h nz wz S0 w0 Lr us2 us3 us4 gx2 p0 use usf
  try dsimp only at h
  subst usf
  refine Zf Tryz.f128 B128 33 ?_
  refine Gj 36 [(0, (ag (vT64 x0 us2 x0.L.length us4))), (1, .i x1), (2, (pt gx2 0))] fun junk => ?_
  refine Hn 2 (Yt 10 B128 [0, 1] (Ys 11 B128 [])) ?_
  refine Ob 65 (.tmp 0) 3 0 (ag (vT64 x0 us2 x0.L.length us4)) (vT64 x0 us2 x0.L.length us4) p0 Goes.v fun b2 w2 z2 p2 => ?_
  refine Hn 6 (Zr Qj1 [2, 3, 4, 5] Jnx) ?_
  refine Hd (p2.e 1 0) ?_
  refine Hn 2 (Zr Qj1 [5] Jnx) ?_
  refine So 3 (.tmp 13) (.tmp 12) 0 1 gx2 0 (.i (wr .i64 (uge + 1))) [.i (wr .i64 (uge + 1))] p2 rfl Goes.s fun w3 z3 p3 => ?_
  refine Hn 7 (Zr Qj2 [3, 4, 5, 6, 7] Jnq) ?_
  refine Hb [(15, .bool (decide (x1 = 0))), (16, .bool (decide (x1 = 0)))] ?_
  refine Gi h (fun h4 h => ?_) fun h4 h => ?_
  ·
   rw [dt h4]
   refine Hn 6 Jnq ?_
   exact Gk (usd _ _ h gx2 _ _ (z2.t z3) _ _ _ _ p3 (use.ext (z2.t z3)) rfl)
  ·
   rw [df h4]
   refine Hn 2 (Zr Qj2 [5, 6, 7] Jnq) ?_
   refine Hd (p3.e 1 0) ?_
   refine Hn 3 Jnq ?_
   exact Gk (usd _ _ h gx2 _ _ (z2.t z3) _ _ _ _ p3 (use.ext (z2.t z3)) rfl)
 ·
  intro usg ush ⟨x1, x3v, x21, us5⟩ r h nz wz S0 w0 Lr gx2 S1 w1 hx gx3 us6 us7 us8 p1 usi usj junk
  try dsimp only at h
  subst usj
  refine Hb [(21, .bool x21)] ?_
  refine Gi h (fun h6 h => ?_) fun h6 h => ?_
  ·
   rw [h6]
   refine Hn 5 (Ys 1110101 B128 Jnp) ?_
   obtain rfl := sj h
   have p1 := p1.dp 0
   exact Hr Tryz.f128 ⟨_, rfl, hx, p1⟩
  ·
   rw [bf h6]
   refine Hn 6 (Yt 111100 B128 [1, 2, 3] (Ys 111101 B128 Jnr)) ?_
   refine Hd (p1.e 0 2) ?_
   refine Hn 5 Jnu ?_
   have p1 := p1.dp 0
   exact Gk (ush _ _ h gx2 _ _ hx _ _ _ p1 usi rfl)
 ·
  intro rec_gram_Query_count usg ih_gram_Query_count ush ⟨x1, x23, x24, x25, us5⟩ r h nz wz S0 w0 Lr gx2 S1 w1 hx us9 usa usb p1 usk usl junk
  try dsimp only at h
  subst usl
  refine Hn 5 (Ys 1111010010 B128 (Ys 1111010011 B128 Jnt)) ?_
  refine Hb [(26, .bool (decide (x25 < x24)))] ?_
  refine Gi h (fun h7 h => ?_) fun h7 h => ?_
  ·
   rw [dt h7]
   refine Hn 6 (Yt 1111010011000 B128 [0, 1, 2, 3] (Ys 1111010011001 B128 Jo8)) ?_
   refine Gg h fun g8 h => ?_
   refine Gg h fun g9 h => ?_
   refine Oi 63 (.tmp 23) (.tmp 25) 27 0 65 .i64 x25 (gi x23 x25) rfl rfl usk Goes.v g8 g9 fun a10 _ f11 q12 => ?_
   have q13 := q12
   obtain ⟨_, _, rfl, rfl, ⟨_, _, rfl, rfl, ⟨A14, c15, rfl, f16⟩⟩⟩ := kT64_open q13
   refine Goes.ldN 65 (.tmp 27) 28 65 a10 ([.i ((gi x23 x25).Op)] ++ ([.string ((gi x23 x25).Text)] ++ [.slice A14 (((gi x23 x25).L).length) c15])) (f11.cell) ?_
   refine Oa 65 8 0 (.agg #[.i 0, .string (⟨#[]⟩ : ByteArray), .slice none 0 0]) [.i 0, .string (⟨#[]⟩ : ByteArray), .slice none 0 0] p1 Goes.v fun b17 w4 z4 p4 => ?_
   refine So 65 (.tmp 8) (.tmp 28) 0 0 b17 0 ((ag (vT64 (gi x23 x25) A14 (((gi x23 x25).L).length) c15))) (vT64 (gi x23 x25) A14 (((gi x23 x25).L).length) c15) p4 rfl Goes.s fun w5 z5 p5 => ?_
   refine Hn 3 (Zr Qjc [0, 1, 2, 3, 4, 5] Job) ?_
   refine Goes.ldN 65 (.tmp 8) 29 65 ⟨b17, 0, none⟩ (vT64 (gi x23 x25) A14 (((gi x23 x25).L).length) c15) (p5.pa 0 0) ?_
   refine Hn 3 (Zr Qjc [4, 5] Job) ?_
   have p5 := p5.fr 1
   refine Gb h fun y19 e20 h => ?_
   refine Gc (kc 128 [29, 31, 32] #[65, 3, 67]) 33 4 128 _ (ih_gram_Query_count (gi x23 x25, wr .i64 (x1 - 1), us5) y19 e20 _ _ _ _ p5 (f16.ext (z4.t z5)) rfl) ?_
   rintro _ w6 ⟨S6, rfl, z6, p6⟩
   have p6 := p6.dp 1
   refine Hn 2 Job ?_
   refine Hb [(33, .bool y19.1), (34, .bool (!y19.1))] ?_
   refine Gi h (fun h21 h => ?_) fun h21 h => ?_
   ·
    rw [h21]
    refine Hn 8 Jnu ?_
    exact Gk (ush _ _ h gx2 _ _ (((hx.t z4).t z5).t z6) _ _ _ p6 (usk.ext ((z4.t z5).t z6)) rfl)
   ·
    rw [bf h21]
    refine Hn 5 (Ys 1111010011001101 B128 Jo8) ?_
    obtain rfl := sj h
    exact Hr Tryz.f128 ⟨_, rfl, (((hx.t z4).t z5).t z6), p6⟩
  ·
   rw [df h7]
   refine Hn 6 (Ys 111111 B128 []) ?_
   obtain rfl := sj h
   exact Hr Tryz.f128 ⟨_, rfl, hx, p1⟩

theorem W.z5w : ∀ a r, M.a4u a = some r → LF.z5w a r := (W.z5z).1

theorem W.z5x : ∀ a r, M.a5s a = some r → LL.z5x a r := (W.z5z).2.1

theorem W.z5y : ∀ a r, M.a5t a = some r → LL.z5y a r := (W.z5z).2.2

def Jog := Ys 111 B129 []
def Joh := Zb 0 Jog
def Joi := Ys 110101 B129 Joh
def Joj := Ys 1101011111 B129 Joh
def Qjj := Yq 110100 B223
def Jom := Zl Qjj (Zb 0 (Ys 111 B223 []))
def Jon := Zc Qjj Jom
def Jot := Ys 11010101 B129 Joh
def Qjq := Yq 11010100 B129
def Joy := Ys 1101011101 B129 Joh
def Qjt := Yq 1101011100 B129
def Jp3 := Ys 110101111101 B129 Joh
def Qjw := Yq 110101111100 B129
def Jp8 := Ys 111 B184 []
def Jpd := Zb 1 (Ys 110100111 B223 Jom)
def Jpe := Ys 110100110011 B223 Jpd
def Jpk := Ys 111 B185 []

def Post.z60 (r : Bool) (v : Value) (w' : World) : Prop :=
 ∃ S', v = .bool r ∧ Ext S0 w0 S' w' ∧ Hp nz wz S' w' (Lr)

def Post.z61 (r : Bool) (v : Value) (w' : World) : Prop :=
 ∃ S', v = .bool r ∧ Ext S0 w0 S' w' ∧ Hp nz wz S' w' (Lr)

def Post.z62 (r : Int) (v : Value) (w' : World) : Prop :=
 ∃ S', v = .i r ∧ Ext S0 w0 S' w' ∧ Hp nz wz S' w' (Lr)

def Post.z63 (r : Bool) (v : Value) (w' : World) : Prop :=
 ∃ S', v = .bool r ∧ Ext S0 w0 S' w' ∧ Hp nz wz S' w' (Lr)

def LF.z60 : T64 → Bool → Prop := fun x0 r => ∀ {nz wz S0 w0 Lr} us2 us3 us4 (_ : Hp nz wz S0 w0 (Lr)) (_ : Rd kT64 S0 w0 us2 us4 x0.L) (_ : x0.L.length = us3),
 Calls Tryz.prog 129 #[(ag (vT64 x0 us2 us3 us4))] w0 (Rets (Post.z60 nz wz S0 w0 Lr r))

def L.z64 : T64 × Int × Bool → Bool → Prop := fun ⟨x1v, x4, x5⟩ r => ∀ S1 w1, Ext S0 w0 S1 w1 → ∀ gx1 usm usn uso (_ : Hp nz wz S1 w1 ((some gx1, .row 65 (vT64 x1v usm usn uso) 3 0) :: Lr)) (_ : Rd kT64 S1 w1 usm uso x1v.L) (_ : x1v.L.length = usn) (junk : Nat → Value),
 Goes Tryz.prog (base 129) Joi ⟨lfr 41 [(1, (pt gx1 0)), (4, .i x4), (5, .bool x5)] junk, []⟩ w1 (Done Tryz.prog 129 (Rets (Post.z60 nz wz S0 w0 Lr r)))

def LL.z64 : T64 × Int × Bool → Bool → Prop := fun a r => ∀ {nz wz S0 w0 Lr}, L.z64 nz wz S0 w0 Lr a r

def L.z65 : T64 × Bool → Bool → Prop := fun ⟨x1v, x29⟩ r => ∀ S1 w1, Ext S0 w0 S1 w1 → ∀ gx1 usm usn uso (_ : Hp nz wz S1 w1 ((some gx1, .row 65 (vT64 x1v usm usn uso) 3 0) :: Lr)) (_ : Rd kT64 S1 w1 usm uso x1v.L) (_ : x1v.L.length = usn) (junk : Nat → Value),
 Goes Tryz.prog (base 129) Joj ⟨lfr 41 [(1, (pt gx1 0)), (29, .bool x29)] junk, []⟩ w1 (Done Tryz.prog 129 (Rets (Post.z60 nz wz S0 w0 Lr r)))

def LL.z65 : T64 × Bool → Bool → Prop := fun a r => ∀ {nz wz S0 w0 Lr}, L.z65 nz wz S0 w0 Lr a r

def LF.z61 : (List T64) → Bool → Prop := fun x0 r => ∀ {nz wz S0 w0 Lr} Ax0 nx0 cx0 (_ : Hp nz wz S0 w0 (Lr)) (_ : Rd kT64 S0 w0 Ax0 cx0 x0) (_ : x0.length = nx0),
 Calls Tryz.prog 184 #[.slice Ax0 nx0 cx0, .func (.func 185) #[] #[]] w0 (Rets (Post.z61 nz wz S0 w0 Lr r))

def LF.z62 : (List T64) → Int → Prop := fun x0 r => ∀ {nz wz S0 w0 Lr} Ax0 nx0 cx0 (_ : Hp nz wz S0 w0 (Lr)) (_ : Rd kT64 S0 w0 Ax0 cx0 x0) (_ : x0.length = nx0),
 Calls Tryz.prog 223 #[.slice Ax0 nx0 cx0, .func (.func 185) #[] #[]] w0 (Rets (Post.z62 nz wz S0 w0 Lr r))

def L.z66 : (List T64) × Int × Int → Int → Prop := fun ⟨x0, x7, x8⟩ r => ∀ S1 w1, Ext S0 w0 S1 w1 → ∀ Ax0 nx0 cx0 (_ : Hp nz wz S1 w1 (Lr)) (_ : Rd kT64 S1 w1 Ax0 cx0 x0) (_ : x0.length = nx0) (junk : Nat → Value),
 Goes Tryz.prog (base 223) Jon ⟨lfr 19 [(0, .slice Ax0 nx0 cx0), (1, .func (.func 185) #[] #[]), (7, .i x7), (8, .i x8)] junk, []⟩ w1 (Done Tryz.prog 223 (Rets (Post.z62 nz wz S0 w0 Lr r)))

def LL.z66 : (List T64) × Int × Int → Int → Prop := fun a r => ∀ {nz wz S0 w0 Lr}, L.z66 nz wz S0 w0 Lr a r

def LF.z63 : T64 → Bool → Prop := fun x0 r => ∀ {nz wz S0 w0 Lr} us2 us3 us4 (_ : Hp nz wz S0 w0 (Lr)) (_ : Rd kT64 S0 w0 us2 us4 x0.L) (_ : x0.L.length = us3),
 Calls Tryz.prog 185 #[(ag (vT64 x0 us2 us3 us4))] w0 (Rets (Post.z63 nz wz S0 w0 Lr r))

theorem W.z67 : (∀ a r, M.a4v a = some r → LF.z60 a r) ∧ (∀ a r, M.a5u a = some r → LL.z64 a r) ∧ (∀ a r, M.a5v a = some r → LL.z65 a r) ∧ (∀ a r, M.a7d a = some r → LF.z61 a r) ∧ (∀ a r, M.a7e a = some r → LF.z62 a r) ∧ (∀ a r, M.a5w a = some r → LL.z66 a r) ∧ (∀ a r, M.a7f a = some r → LF.z63 a r) := by
 refine M.a4v.mutual_partial_correctness LF.z60 LL.z64 LL.z65 LF.z61 LF.z62 LL.z66 LF.z63 ?_ ?_ ?_ ?_ ?_ ?_ ?_
 ·
  intro usp usq x0 r h nz wz S0 w0 Lr us2 us3 us4 p0 use usf
  try dsimp only at h
  subst usf
  refine Zf Tryz.f129 B129 40 ?_
  refine Gj 41 [(0, (ag (vT64 x0 us2 x0.L.length us4)))] fun junk => ?_
  refine Hn 2 (Yt 10 B129 [0, 1] (Ys 11 B129 [])) ?_
  refine Ob 65 (.tmp 0) 1 0 (ag (vT64 x0 us2 x0.L.length us4)) (vT64 x0 us2 x0.L.length us4) p0 Goes.v fun b1 w2 z2 p2 => ?_
  refine Hn 6 (Yt 1100 B129 [1] (Ys 1101 B129 Jog)) ?_
  refine Hd (p2.e 0 0) ?_
  refine Hn 8 (Ys 1101001 B129 Joi) ?_
  refine Hb [(6, .bool (decide (x0.Op = 0))), (5, .bool (decide (x0.Op = 0)))] ?_
  refine Gi h (fun h3 h => ?_) fun h3 h => ?_
  ·
   rw [dt h3]
   refine Hn 2 Joi ?_
   exact Gk (usq _ _ h _ _ z2 _ _ _ _ p2 (use.ext z2) rfl)
  ·
   rw [df h3]
   refine Hn 5 Joi ?_
   exact Gk (usq _ _ h _ _ z2 _ _ _ _ p2 (use.ext z2) rfl)
 ·
  intro usr uss ⟨x1v, x4, x5⟩ r h nz wz S0 w0 Lr S1 w1 hx gx1 usm usn uso p1 ust usu junk
  try dsimp only at h
  subst usu
  refine Hb [(5, .bool x5)] ?_
  refine Gi h (fun h5 h => ?_) fun h5 h => ?_
  ·
   rw [h5]
   refine Hn 4 (Zr Qjq [1, 2, 3, 4, 5, 6, 7, 8, 9] Jot) ?_
   refine Hd (p1.e 0 1) ?_
   refine Hn 2 (Zr Qjq [4, 5, 6, 7, 8, 9] Jot) ?_
   refine Hb [(10, .bool (x1v.Text.toList == (⟨#[]⟩ : ByteArray).toList)), (11, .bool (x1v.Text.toList == (⟨#[]⟩ : ByteArray).toList))] ?_
   refine Gi h (fun h6 h => ?_) fun h6 h => ?_
   ·
    rw [h6]
    refine Hn 1 (Zr Qjq [5, 6, 7, 8, 9] Jot) ?_
    refine Hd (p1.e 0 2) ?_
    refine Hn 5 Jot ?_
    obtain rfl := sj h
    have p1 := p1.dp 0
    exact Hr Tryz.f129 ⟨_, rfl, hx, p1⟩
   ·
    rw [bf h6]
    refine Hn 7 Jot ?_
    obtain rfl := sj h
    have p1 := p1.dp 0
    exact Hr Tryz.f129 ⟨_, rfl, hx, p1⟩
  ·
   rw [bf h5]
   refine Hn 6 (Ys 11010111 B129 Joh) ?_
   refine Hb [(18, .bool (decide (x4 = 2))), (17, .bool (decide (x4 = 2)))] ?_
   refine Gi h (fun h7 h => ?_) fun h7 h => ?_
   ·
    rw [dt h7]
    refine Hn 4 (Zr Qjt [1, 2, 3, 4, 5, 6, 7, 8, 9, 10] Joy) ?_
    refine Hd (p1.e 0 1) ?_
    refine Hn 3 (Zr Qjt [5, 6, 7, 8, 9, 10] Joy) ?_
    refine Hb [(22, .bool (decide ((x1v.Text.size : Int) = 3))), (23, .bool (decide ((x1v.Text.size : Int) = 3)))] ?_
    refine Gi h (fun h8 h => ?_) fun h8 h => ?_
    ·
     rw [dt h8]
     refine Hn 1 (Zr Qjt [6, 7, 8, 9, 10] Joy) ?_
     refine Hd (p1.e 0 2) ?_
     refine Hn 5 Joy ?_
     obtain rfl := sj h
     have p1 := p1.dp 0
     exact Hr Tryz.f129 ⟨_, rfl, hx, p1⟩
    ·
     rw [df h8]
     refine Hn 7 Joy ?_
     obtain rfl := sj h
     have p1 := p1.dp 0
     exact Hr Tryz.f129 ⟨_, rfl, hx, p1⟩
   ·
    rw [df h7]
    refine Hn 7 (Ys 11010111101 B129 Joj) ?_
    refine Hb [(30, .bool (decide (x4 = 3))), (29, .bool (decide (x4 = 3)))] ?_
    refine Gi h (fun h9 h => ?_) fun h9 h => ?_
    ·
     rw [dt h9]
     refine Hn 2 Joj ?_
     exact Gk (uss _ _ h _ _ hx _ _ _ _ p1 ust rfl)
    ·
     rw [df h9]
     refine Hn 5 Joj ?_
     exact Gk (uss _ _ h _ _ hx _ _ _ _ p1 ust rfl)
 ·
  intro rec_gram_Query ih_gram_Query ⟨x1v, x29⟩ r h nz wz S0 w0 Lr S1 w1 hx gx1 usm usn uso p1 ust usu junk
  try dsimp only at h
  subst usu
  refine Hb [(29, .bool x29)] ?_
  refine Gi h (fun h11 h => ?_) fun h11 h => ?_
  ·
   rw [h11]
   refine Hn 4 (Zr Qjw [1, 2, 3, 4, 5, 6, 7, 8, 9] Jp3) ?_
   refine Hd (p1.e 0 1) ?_
   refine Hn 2 (Zr Qjw [4, 5, 6, 7, 8, 9] Jp3) ?_
   refine Hb [(34, .bool (x1v.Text.toList == (⟨#[]⟩ : ByteArray).toList)), (35, .bool (x1v.Text.toList == (⟨#[]⟩ : ByteArray).toList))] ?_
   refine Gi h (fun h12 h => ?_) fun h12 h => ?_
   ·
    rw [h12]
    refine Hn 1 (Zr Qjw [5, 6, 7, 8, 9] Jp3) ?_
    refine Hd (p1.e 0 2) ?_
    refine Gb h fun y13 e14 h => ?_
    refine Gc (.call { callee := .value (.func 184), args := #[(.tmp 37), (.func 185)], argTypes := #[63, 242] }) 38 4 184 _ (ih_gram_Query x1v.L y13 e14 _ _ _ p1 ust rfl) ?_
    rintro _ w3 ⟨S3, rfl, z3, p3⟩
    have p3 := p3.dp 0
    refine Hn 4 Jp3 ?_
    obtain rfl := sj h
    exact Hr Tryz.f129 ⟨_, rfl, (hx.t z3), p3⟩
   ·
    rw [bf h12]
    refine Hn 7 Jp3 ?_
    obtain rfl := sj h
    have p1 := p1.dp 0
    exact Hr Tryz.f129 ⟨_, rfl, hx, p1⟩
  ·
   rw [bf h11]
   refine Hn 7 (Ys 1111 B129 []) ?_
   obtain rfl := sj h
   have p1 := p1.dp 0
   exact Hr Tryz.f129 ⟨_, rfl, hx, p1⟩
 ·
  intro usw usx x0 r h nz wz S0 w0 Lr Ax0 nx0 cx0 p0 fx0 lx0
  try dsimp only at h
  subst lx0
  refine Zf Tryz.f184 B184 7 ?_
  refine Gj 9 [(0, .slice Ax0 x0.length cx0), (1, .func (.func 185) #[] #[])] fun junk => ?_
  refine Hn 8 (Yt 110 B184 [2, 3, 4] Jp8) ?_
  refine Gb h fun y1 e2 h => ?_
  refine Gc (kc 223 [5, 6] #[63, 242]) 7 3 223 _ (usx x0 y1 e2 _ _ _ p0 fx0 rfl) ?_
  rintro _ w2 ⟨S2, rfl, z2, p2⟩
  refine Hn 3 Jp8 ?_
  obtain rfl := sj h
  exact Hr Tryz.f184 ⟨_, rfl, z2, p2⟩
 ·
  intro usy usz x0 r h nz wz S0 w0 Lr Ax0 nx0 cx0 p0 fx0 lx0
  try dsimp only at h
  subst lx0
  refine Zf Tryz.f223 B223 17 ?_
  refine Gj 19 [(0, .slice Ax0 x0.length cx0), (1, .func (.func 185) #[] #[])] fun junk => ?_
  refine Hn 13 Jon ?_
  exact Gk (usz _ _ h _ _ (Ext.refl S0 w0) _ _ _ p0 fx0 rfl)
 ·
  intro usy ut0 usz ut1 ⟨x0, x7, x8⟩ r h nz wz S0 w0 Lr S1 w1 hx Ax0 nx0 cx0 p1 fx0 lx0 junk
  try dsimp only at h
  subst lx0
  refine Hn 5 (Ys 11010010 B223 (Ys 11010011 B223 Jom)) ?_
  refine Hb [(9, .bool (decide (x8 < x7)))] ?_
  refine Gi h (fun h1 h => ?_) fun h1 h => ?_
  ·
   rw [dt h1]
   refine Hn 14 (Yt 110100110010 B223 [3, 4, 5] Jpe) ?_
   refine Gg h fun g2 h => ?_
   refine Gg h fun g3 h => ?_
   refine Oi 63 (.tmp 12) (.tmp 13) 14 0 65 .i64 x8 (gi x0 x8) rfl rfl fx0 Goes.v g2 g3 fun a4 _ f5 q6 => ?_
   have q7 := q6
   obtain ⟨_, _, rfl, rfl, ⟨_, _, rfl, rfl, ⟨A8, c9, rfl, f10⟩⟩⟩ := kT64_open q7
   refine Goes.ldN 65 (.tmp 14) 15 65 a4 ([.i ((gi x0 x8).Op)] ++ ([.string ((gi x0 x8).Text)] ++ [.slice A8 (((gi x0 x8).L).length) c9])) (f5.cell) ?_
   refine Gb h fun y11 e12 h => ?_
   refine Gc (.call { callee := .value (.tmp 11), args := #[(.tmp 15)], argTypes := #[65] }) 16 4 185 _ (ut1 (gi x0 x8) y11 e12 _ _ _ p1 f10 rfl) ?_
   rintro _ w2 ⟨S2, rfl, z2, p2⟩
   refine Hn 1 Jpe ?_
   refine Hb [(16, .bool y11)] ?_
   refine Gi h (fun h13 h => ?_) fun h13 h => ?_
   ·
    rw [h13]
    refine Hn 6 (Ys 11010011001101 B223 Jpd) ?_
    obtain rfl := sj h
    exact Hr Tryz.f223 ⟨_, rfl, (hx.t z2), p2⟩
   ·
    rw [bf h13]
    refine Hn 8 Jon ?_
    exact Gk (usz _ _ h _ _ (hx.t z2) _ _ _ p2 (fx0.ext z2) rfl)
  ·
   rw [df h1]
   refine Hn 6 (Ys 1111 B223 []) ?_
   obtain rfl := sj h
   exact Hr Tryz.f223 ⟨_, rfl, hx, p1⟩
 ·
  intro rec_gram_Query_right ih_gram_Query_right x0 r h nz wz S0 w0 Lr us2 us3 us4 p0 use usf
  try dsimp only at h
  subst usf
  refine Zf Tryz.f185 B185 5 ?_
  refine Gj 6 [(0, (ag (vT64 x0 us2 x0.L.length us4)))] fun junk => ?_
  refine Hn 2 (Yt 10 B185 [0, 1] (Ys 11 B185 [])) ?_
  refine Ob 65 (.tmp 0) 1 0 (ag (vT64 x0 us2 x0.L.length us4)) (vT64 x0 us2 x0.L.length us4) p0 Goes.v fun b1 w2 z2 p2 => ?_
  refine Hn 4 (Yt 110 B185 [0, 1, 2, 3] Jpk) ?_
  refine Goes.ldN 65 (.tmp 1) 3 65 ⟨b1, 0, none⟩ (vT64 x0 us2 x0.L.length us4) (p2.pa 0 0) ?_
  refine Gb h fun y3 e4 h => ?_
  refine Gc (kc 129 [3] #[65]) 4 4 129 _ (ih_gram_Query_right x0 y3 e4 _ _ _ p2 (use.ext z2) rfl) ?_
  rintro _ w3 ⟨S3, rfl, z3, p3⟩
  have p3 := p3.dp 0
  refine Hn 3 Jpk ?_
  obtain rfl := sj h
  exact Hr Tryz.f185 ⟨_, rfl, (z2.t z3), p3⟩

theorem W.z60 : ∀ a r, M.a4v a = some r → LF.z60 a r := (W.z67).1

theorem W.z64 : ∀ a r, M.a5u a = some r → LL.z64 a r := (W.z67).2.1

theorem W.z65 : ∀ a r, M.a5v a = some r → LL.z65 a r := (W.z67).2.2.1

theorem W.z61 : ∀ a r, M.a7d a = some r → LF.z61 a r := (W.z67).2.2.2.1

theorem W.z62 : ∀ a r, M.a7e a = some r → LF.z62 a r := (W.z67).2.2.2.2.1

theorem W.z66 : ∀ a r, M.a5w a = some r → LL.z66 a r := (W.z67).2.2.2.2.2.1

theorem W.z63 : ∀ a r, M.a7f a = some r → LF.z63 a r := (W.z67).2.2.2.2.2.2

def Jpq := Ys 1111 B75 []
def Jpr := Ys 11101 B75 Jpq
def Qkh := Yq 11100 B75
def Jpv := Ys 1110101 B75 Jpq

def Post.z68 (r : Int) (v : Value) (w' : World) : Prop :=
 ∃ S', v = .i r ∧ Ext S0 w0 S' w' ∧ Hp nz wz S' w' (Lr)

theorem W.z68 (x0 : T64) (r : Int) (h : M.a5x x0 = some r) {nz wz S0 w0 Lr} (us2 us3 us4) (p0 : Hp nz wz S0 w0 (Lr)) (use : Rd kT64 S0 w0 us2 us4 x0.L) (usf : x0.L.length = us3) :
  Calls Tryz.prog 75 #[(ag (vT64 x0 us2 us3 us4))] w0 (Rets (Post.z68 nz wz S0 w0 Lr r)) := by
 subst usf
 refine Zf Tryz.f75 B75 11 ?_
 refine Gj 12 [(0, (ag (vT64 x0 us2 x0.L.length us4)))] fun junk => ?_
 delta M.a5x at h
 refine Hn 2 (Yt 10 B75 [0, 1] (Ys 11 B75 [])) ?_
 refine Ob 65 (.tmp 0) 1 0 (ag (vT64 x0 us2 x0.L.length us4)) (vT64 x0 us2 x0.L.length us4) p0 Goes.v fun b1 w2 z2 p2 => ?_
 refine Hn 4 (Yt 110 B75 [0, 1] (Ys 111 B75 [])) ?_
 refine Oa 3 3 0 (.i 0) [.i 0] p2 Goes.v fun b3 w3 z3 p3 => ?_
 refine So 3 (.tmp 3) (.const (.int .i64 0)) 0 0 b3 0 (.i 0) [.i 0] p3 rfl Goes.s fun w4 z4 p4 => ?_
 refine Hn 4 (Zr Qkh [0, 1, 2, 3, 4, 5, 6, 7] Jpr) ?_
 refine Goes.ldN 65 (.tmp 1) 4 65 ⟨b1, 0, none⟩ (vT64 x0 us2 x0.L.length us4) (p4.pa 1 0) ?_
 refine Gb h fun y5 e6 h => ?_
 refine Gc (.call { callee := .value (.func 128), args := #[(.tmp 4), (.const (.int .i64 8)), (.tmp 3)], argTypes := #[65, 3, 67] }) 5 4 128 _ (W.z5w (x0, 8, 0) y5 e6 _ _ _ _ p4 (use.ext ((z2.t z3).t z4)) rfl) ?_
 rintro _ w5 ⟨S5, rfl, z5, p5⟩
 have p5 := p5.dp 0
 refine Hn 2 (Zr Qkh [4, 5, 6, 7] Jpr) ?_
 refine Hb [(5, .bool y5.1), (6, .bool (!y5.1)), (7, .bool (!y5.1))] ?_
 refine Gi h (fun h7 h => ?_) fun h7 h => ?_
 ·
  rw [h7]
  refine Goes.ldN 65 (.tmp 1) 8 65 ⟨b1, 0, none⟩ (vT64 x0 us2 x0.L.length us4) (p5.pa 0 0) ?_
  refine Gb h fun y8 e9 h => ?_
  refine Gc (kc 129 [8] #[65]) 9 4 129 _ (W.z60 x0 y8 e9 _ _ _ p5 (use.ext (((z2.t z3).t z4).t z5)) rfl) ?_
  rintro _ w6 ⟨S6, rfl, z6, p6⟩
  have p6 := p6.dp 0
  refine Hn 3 Jpr ?_
  refine Hb [(9, .bool y8), (10, .bool (!y8)), (11, .bool (!y8))] ?_
  refine Gi h (fun h10 h => ?_) fun h10 h => ?_
  ·
   rw [h10]
   refine Hn 6 (Ys 11111 B75 []) ?_
   obtain rfl := sj h
   exact Hr Tryz.f75 ⟨_, rfl, ((((z2.t z3).t z4).t z5).t z6), p6⟩
  ·
   rw [bf h10]
   refine Hn 5 Jpv ?_
   obtain rfl := sj h
   exact Hr Tryz.f75 ⟨_, rfl, ((((z2.t z3).t z4).t z5).t z6), p6⟩
 ·
  rw [bf h7]
  refine Hn 10 Jpv ?_
  obtain rfl := sj h
  have p5 := p5.dp 0
  exact Hr Tryz.f75 ⟨_, rfl, (((z2.t z3).t z4).t z5), p5⟩


def Post.z69 (Epl : ZE) (pl : Z) (r : (Option Nat) × T64) (v : Value) (w' : World) : Prop :=
 ∃ S' u1r ut2 u38 ut3 ut4 ut5, v = .func (.func 130) #[] #[(pt u1r 0), (pt u38 0)] ∧ Ext S0 w0 S' w' ∧ Hp nz wz S' w' ((some u1r, .row 119 [ut2] 1 0) :: (some u38, .row 65 (vT64 r.2 ut3 ut4 ut5) 3 0) :: PL Epl (Lr)) ∧ PpO 126 S' ut2 r.1 ∧ Rd kT64 S' w' ut3 ut5 r.2.L ∧ r.2.L.length = ut4

theorem W.z69 (x0 : Option Nat) (x1 : T64) (pl : Z) (r : (Option Nat) × T64) (h : M.a7g x0 x1 pl = some r) {nz wz S0 w0 Lr} (vx0 ut6 ut7 ut8 Epl) (p0 : Hp nz wz S0 w0 (PL Epl (Lr))) (fx0 : PpO 126 S0 vx0 x0) (ut9 : Rd kT64 S0 w0 ut6 ut8 x1.L) (uta : x1.L.length = ut7) (fpl : PS S0 w0 Epl pl) :
  Calls Tryz.prog 76 #[vx0, (ag (vT64 x1 ut6 ut7 ut8))] w0 (Rets (Post.z69 nz wz S0 w0 Lr Epl pl r)) := by
 subst uta
 refine Zf Tryz.f76 B76 4 ?_
 refine Gj 6 [(0, vx0), (1, (ag (vT64 x1 ut6 x1.L.length ut8)))] fun junk => ?_
 delta M.a7g at h
 refine Hn 2 (Yt 10 B76 [0, 1, 2] (Ys 11 B76 [])) ?_
 refine Op_.box 119 (.tmp 0) 2 0 (vx0) [vx0] p0 Goes.v (by kernel_rfl) (cells1 (PpO.one1 fx0)) fun b1 w2 z2 p2 => ?_
 refine Ob 65 (.tmp 1) 3 0 (ag (vT64 x1 ut6 x1.L.length ut8)) (vT64 x1 ut6 x1.L.length ut8) p2 Goes.v fun b3 w3 z3 p3 => ?_
 refine Hn 7 (Ys 111 B76 []) ?_
 obtain rfl := sj h
 have p3 := p3.rt 2 10
 have p3 := (p3.fr 10).fr 11
 exact Hr Tryz.f76 ⟨_, _, _, _, _, _, _, rfl, (z2.t z3), p3, (fx0.ext (z2.t z3)), (ut9.ext (z2.t z3)), rfl⟩

def Jq0 := Yt 10 B131 [0, 1] (Ys 11 B131 [])
def Jq1 := Ys 111 B131 []

def Post.z6a (Epl : ZE) (pl : Z) (r : Unit) (v : Value) (w' : World) : Prop :=
 ∃ S' u1r, v = .func (.func 186) #[] #[(pt u1r 0)] ∧ Ext S0 w0 S' w' ∧ Hp nz wz S' w' ((some u1r, .row 124 [.map none] 1 0) :: PL Epl (Lr))

theorem W.z6a (pl : Z) (r : Unit) (h : M.a7h pl = some r) {nz wz S0 w0 Lr} (Epl) (p0 : Hp nz wz S0 w0 (PL Epl (Lr))) (fpl : PS S0 w0 Epl pl) :
  Calls Tryz.prog 131 #[.map none] w0 (Rets (Post.z6a nz wz S0 w0 Lr Epl pl r)) := by
 refine Zf Tryz.f131 B131 3 ?_
 refine Gj 4 [(0, .map none)] fun junk => ?_
 delta M.a7h at h
 refine Hn 2 Jq0 ?_
 refine Ob 124 (.tmp 0) 1 0 (.map none) [.map none] p0 Goes.v fun b1 w2 z2 p2 => ?_
 refine Hn 7 Jq1 ?_
 obtain rfl := sj h
 exact Hr Tryz.f131 ⟨_, _, rfl, z2, p2⟩

def Qkq := Yq 1100 B186
def Jq2 := Zl Qkq J3k
def Jq3 := Zc Qkq Jq2
def Jq5 := Yt 11000 B186 [0, 1] (Ys 11001 B186 Jq2)

def Post.z6b (lx0 : Nat) (rx0 : Nat) (u27 : Nat → Value) (u28 : Nat) (u2m : Option Nat) (u2n : Nat) (u2o : Nat) (u2p : List Value) (u29 : Nat) (Epl : ZE) (u2l : List Int) (pl : Z) (r : Unit) (v : Value) (w' : World) : Prop :=
 ∃ S', v = .tuple #[] ∧ Ext S0 w0 S' w' ∧ Hp nz wz S' w' ((some lx0, .obj (lpst 192 (lfr 13 [(2, (pt u28 0)), (6, .func (.func 186) #[] #[(pt u29 0)])] u27) #[7] (rfAssign (Q8a)) (rfBody (Q8a)) rx0 .ready none)) :: (some u28, .row 31 [.slice (Gp u2m) u2n u2o] 1 0) :: (u2m, .row 35 u2p (u2o * (kInt .u64).size) 0) :: (some u29, .row 124 [.map none] 1 0) :: PL Epl (Lr))

def L.z6c (lx0 : Nat) (rx0 : Nat) (u27 : Nat → Value) (u28 : Nat) (u2m : Option Nat) (u2n : Nat) (u2o : Nat) (u2p : List Value) (u29 : Nat) (Epl : ZE) : (List Int) × Z → Unit → Prop := fun ⟨u2l, pl⟩ r => ∀ S1 w1, Ext S0 w0 S1 w1 → ∀ gx5 (_ : Hp nz wz S1 w1 ((some gx5, .obj (.mapIter none 0 #[] 0)) :: (some lx0, .obj (lpst 192 (lfr 13 [(2, (pt u28 0)), (6, .func (.func 186) #[] #[(pt u29 0)])] u27) #[7] (rfAssign (Q8a)) (rfBody (Q8a)) rx0 .ready none)) :: (some u28, .row 31 [.slice (Gp u2m) u2n u2o] 1 0) :: (u2m, .row 35 u2p (u2o * (kInt .u64).size) 0) :: (some u29, .row 124 [.map none] 1 0) :: PL Epl (Lr))) (_ : Els (kInt .u64) S1 w1 u2p u2l) (_ : u2l.length = u2n) (_ : PS S1 w1 Epl pl) (junk : Nat → Value),
 Goes Tryz.prog (base 186) Jq3 ⟨lfr 14 [(0, yieldV lx0), (5, (pt gx5 0))] junk, []⟩ w1 (Done Tryz.prog 186 (Rets (Post.z6b nz wz S0 w0 Lr lx0 rx0 u27 u28 u2m u2n u2o u2p u29 Epl u2l pl r)))

theorem W.z6c {nz wz S0 w0 Lr} (lx0 : Nat) (rx0 : Nat) (u27 : Nat → Value) (u28 : Nat) (u2m : Option Nat) (u2n : Nat) (u2o : Nat) (u2p : List Value) (u29 : Nat) (Epl : ZE) : ∀ a r, M.a7i a = some r → L.z6c nz wz S0 w0 Lr lx0 rx0 u27 u28 u2m u2n u2o u2p u29 Epl a r := by
 intro ⟨u2l, pl⟩ r h S1 w1 hx gx5 p1 fs0 ls0 fs2 junk
 rw [M.a7i] at h
 try dsimp only at h
 subst ls0
 refine Hn 2 Jq5 ?_
 refine Op_.nxN (.tmp 5) 6 0 0 gx5 p1 rfl Goes.v (by kernel_rfl) ?_
 refine Hn 5 [] ?_
 obtain rfl := sj h
 have p1 := p1.dp 0
 exact Goes.end_ (fn := Tryz.f186) (by kernel_rfl) (v := .tuple #[]) (by kernel_rfl) ⟨S1, rfl, hx, p1⟩

def Jq7 := Yt 10 B186 [0, 1] (Ys 11 B186 [])

theorem W.z6b (u2l : List Int) (pl : Z) (r : Unit) (h : M.a7j u2l pl = some r) {nz wz S0 w0 Lr} (lx0 rx0 u27 u28 u2m u2n u2o u2p u29 Epl) (p0 : Hp nz wz S0 w0 ((some lx0, .obj (lpst 192 (lfr 13 [(2, (pt u28 0)), (6, .func (.func 186) #[] #[(pt u29 0)])] u27) #[7] (rfAssign (Q8a)) (rfBody (Q8a)) rx0 .ready none)) :: (some u28, .row 31 [.slice (Gp u2m) u2n u2o] 1 0) :: (u2m, .row 35 u2p (u2o * (kInt .u64).size) 0) :: (some u29, .row 124 [.map none] 1 0) :: PL Epl (Lr))) (u2q : Els (kInt .u64) S0 w0 u2p u2l) (u2r : u2l.length = u2n) (fpl : PS S0 w0 Epl pl) :
  Calls Tryz.prog 186 #[yieldV lx0, (pt u29 0)] w0 (Rets (Post.z6b nz wz S0 w0 Lr lx0 rx0 u27 u28 u2m u2n u2o u2p u29 Epl u2l pl r)) := by
 subst u2r
 refine Zf Tryz.f186 B186 12 ?_
 refine Gj 14 [(0, yieldV lx0), (1, (pt u29 0))] fun junk => ?_
 delta M.a7j at h
 refine Hn 2 Jq7 ?_
 refine Hd (p0.e 3 0) ?_
 refine Op_.rgN 124 (.tmp 4) 5 0 35 9 p0 Goes.v (by kernel_rfl) (by kernel_rfl) fun r5 w2 z2 p2 => ?_
 refine Hn 3 Jq3 ?_
 exact Gk (W.z6c lx0 rx0 u27 u28 u2m u2l.length u2o u2p u29 Epl _ _ h _ _ z2 _ p2 (u2q.ext z2) rfl (fpl.ext z2))

def Post.z6d (u2s : Nat) (Epl : ZE) (pl : Z) (r : List Int) (v : Value) (w' : World) : Prop :=
 ∃ S' Gq nq cq csq, v = .slice (Gp Gq) nq cq ∧ Ext S0 w0 S' w' ∧ Hp nz wz S' w' ((Gq, .row 35 csq (cq * (kInt .u64).size) 0) :: (some u2s, .row 124 [.map none] 1 0) :: PL Epl (Lr)) ∧ Els (kInt .u64) S' w' csq r ∧ r.length = nq

theorem W.z6d (pl : Z) (r : List Int) (h : M.a7k pl = some r) {nz wz S0 w0 Lr} (u2s Epl) (p0 : Hp nz wz S0 w0 ((some u2s, .row 124 [.map none] 1 0) :: PL Epl (Lr))) (fpl : PS S0 w0 Epl pl) :
  Calls Tryz.prog 192 #[.slice none 0 0, .func (.func 186) #[] #[(pt u2s 0)]] w0 (Rets (Post.z6d nz wz S0 w0 Lr u2s Epl pl r)) := by
 refine Zf Tryz.f192 B192 11 ?_
 refine Gj 13 [(0, .slice none 0 0), (1, .func (.func 186) #[] #[(pt u2s 0)])] fun junk => ?_
 delta M.a7k at h
 refine Hn 2 Jal ?_
 refine Ob 31 (.tmp 0) 2 0 (.slice none 0 0) [.slice none 0 0] p0 Goes.v fun b2 w2 z2 p2 => ?_
 refine Hn 8 Jao ?_
 refine Gj 13 [(2, (pt b2 0)), (6, .func (.func 186) #[] #[(pt u2s 0)])] (fun u2u => ?_)
 refine Goes.rangeF (f := 192) (.tmp 6) #[7] 186 #[] #[(pt u2s 0)] (by kernel_rfl) (by kernel_rfl) (fun _ => by kernel_rfl) p2 fun r5 l6 w3 z3 p3 => ?_
 have p3 : Hp nz wz S0 w3 ((none, .row 35 [] (0 * (kInt .u64).size) 0) :: (some l6, .obj (lpst 192 (lfr 13 [(2, (pt b2 0)), (6, .func (.func 186) #[] #[(pt u2s 0)])] u2u) #[7] (rfAssign (Q8a)) (rfBody (Q8a)) r5 .ready none)) :: (some r5, .obj (.deferred (some []))) :: (some b2, .row 31 [.slice none 0 0] 1 0) :: (some u2s, .row 124 [.map none] 1 0) :: PL Epl (Lr)) := p3.nilRow' 35
 have p3 := p3.rt 5 10
 have p3 := (((p3.fr 14).fr 11).fr 14).fr 13
 refine Gb h fun y10 e11 h => ?_
 refine ⟨_, W.z6b ([] : List Int) pl y10 e11 _ _ _ _ none 0 0 [] _ _ p3 (Els.nil (K := (kInt .u64))) rfl (fpl.ext (z2.t z3)), ?_⟩
 rintro _ w4 ⟨S4, rfl, z4, p4⟩
 refine Goes.endF 0 p4 rfl rfl fun w5 z5 p5 => ?_
 replace p5 : Hp nz wz S4 w5 ((some b2, .row 31 [.slice (Gp none) 0 0] 1 0) :: (none, .row 35 [] (0 * (kInt .u64).size) 0) :: (some u2s, .row 124 [.map none] 1 0) :: PL Epl ((some r5, .obj (.deferred (some []))) :: Lr)) := (p5.front 0 _ rfl).drop
 show Goes _ _ Jan _ _ _
 refine Hn 3 Jaq ?_
 refine Hd (p5.e 0 0) ?_
 refine Hn 2 Jap ?_
 obtain rfl := sj h
 have p5 := p5.dp 0
 have p5 := p5.fr 12
 refine Goes.retL ?_
 refine lvs_mark 0 rfl rfl p5 rfl fun w6 z6 p6 => ?_
 replace p6 : Hp nz wz S4 w6 ((none, .row 35 [] (0 * (kInt .u64).size) 0) :: (some u2s, .row 124 [.map none] 1 0) :: PL Epl (Lr)) := p6.drop
 exact lvs_done (fn := Tryz.f192) rfl rfl rfl rfl (by kernel_rfl) (v := .slice (Gp none) 0 0) (by kernel_rfl) ⟨S4, none, 0, 0, [], rfl, ((((z2.t z3).t z4).t z5).t z6), p6, (Els.nil (K := (kInt .u64))), rfl⟩

def Post.z6e (u30 : Nat) (Epl : ZE) (pl : Z) (r : List Int) (v : Value) (w' : World) : Prop :=
 ∃ S' Gq nq cq csq, v = .slice (Gp Gq) nq cq ∧ Ext S0 w0 S' w' ∧ Hp nz wz S' w' ((Gq, .row 35 csq (cq * (kInt .u64).size) 0) :: (some u30, .row 124 [.map none] 1 0) :: PL Epl (Lr)) ∧ Els (kInt .u64) S' w' csq r ∧ r.length = nq

theorem W.z6e (pl : Z) (r : List Int) (h : M.a7l pl = some r) {nz wz S0 w0 Lr} (u30 Epl) (p0 : Hp nz wz S0 w0 ((some u30, .row 124 [.map none] 1 0) :: PL Epl (Lr))) (fpl : PS S0 w0 Epl pl) :
  Calls Tryz.prog 137 #[.func (.func 186) #[] #[(pt u30 0)]] w0 (Rets (Post.z6e nz wz S0 w0 Lr u30 Epl pl r)) := by
 refine Zf Tryz.f137 B137 4 ?_
 refine Gj 5 [(0, .func (.func 186) #[] #[(pt u30 0)])] fun junk => ?_
 delta M.a7l at h
 refine Hn 7 Jas ?_
 refine Gb h fun y2 e3 h => ?_
 refine Gc (.call { callee := .value (.func 192), args := #[(.const (.slice none 0 0)), (.tmp 3)], argTypes := #[31, 141] }) 4 31 192 _ (W.z6d pl y2 e3 _ _ p0 fpl) ?_
 rintro _ w2 ⟨S2, ul, um, un, uo, rfl, z2, p2, up, rfl⟩
 refine Hn 2 Jar ?_
 obtain rfl := sj h
 exact Hr Tryz.f137 ⟨_, _, _, _, _, rfl, z2, p2, up, rfl⟩

def Post.z6f (u30 : Nat) (Epl : ZE) (pl : Z) (r : List Int) (v : Value) (w' : World) : Prop :=
 ∃ S' Gq nq cq csq, v = .slice (Gp Gq) nq cq ∧ Ext S0 w0 S' w' ∧ Hp nz wz S' w' ((Gq, .row 35 csq (cq * (kInt .u64).size) 0) :: (some u30, .row 124 [.map none] 1 0) :: PL Epl (Lr)) ∧ Els (kInt .u64) S' w' csq r ∧ r.length = nq

theorem W.z6f (pl : Z) (r : List Int) (h : M.a7m pl = some r) {nz wz S0 w0 Lr} (u30 Epl) (p0 : Hp nz wz S0 w0 ((some u30, .row 124 [.map none] 1 0) :: PL Epl (Lr))) (fpl : PS S0 w0 Epl pl) :
  Calls Tryz.prog 79 #[.func (.func 186) #[] #[(pt u30 0)]] w0 (Rets (Post.z6f nz wz S0 w0 Lr u30 Epl pl r)) := by
 refine Zf Tryz.f79 B79 8 ?_
 refine Gj 9 [(0, .func (.func 186) #[] #[(pt u30 0)])] fun junk => ?_
 delta M.a7m at h
 refine Hn 7 Jjf ?_
 refine Gb h fun y2 e3 h => ?_
 refine Gc (kc 137 [4] #[141]) 5 31 137 _ (W.z6e pl y2 e3 _ _ p0 fpl) ?_
 rintro _ w2 ⟨S2, ul, um, un, uo, rfl, z2, p2, up, rfl⟩
 refine Hn 5 Jjh ?_
 refine Gb h fun y5 e6 h => ?_
 refine Gc (kc 138 [6] #[31]) 7 0 138 _ (W.z48 y2 y5 e6 _ _ _ _ p2 up rfl) ?_
 rintro _ w3 ⟨S3, un3, rfl, z3, p3, uev, un4⟩
 refine Hn 6 Jji ?_
 obtain rfl := sj h
 exact Hr Tryz.f79 ⟨_, _, _, _, _, rfl, (z2.t z3), p3, uev, un4⟩

def Jq8 := Ys 111 B188 []

def Post.z6g (Epl : ZE) (pl : Z) (r : Bool) (v : Value) (w' : World) : Prop :=
 ∃ S', v = .bool r ∧ Ext S0 w0 S' w' ∧ Hp nz wz S' w' (PL Epl (Lr))

theorem W.z6g (x0 : Option Nat) (pl : Z) (r : Bool) (h : M.a7n x0 pl = some r) {nz wz S0 w0 Lr} (vx0 Epl) (p0 : Hp nz wz S0 w0 (PL Epl (Lr))) (fx0 : PpO 236 S0 vx0 x0) (fpl : PS S0 w0 Epl pl) :
  Calls Tryz.prog 188 #[vx0] w0 (Rets (Post.z6g nz wz S0 w0 Lr Epl pl r)) := by
 refine Zf Tryz.f188 B188 5 ?_
 refine Gj 6 [(0, vx0)] fun junk => ?_
 delta M.a7n at h
 refine Hn 7 (Yt 110 B188 [1, 2, 3] Jq8) ?_
 refine Gb h fun y1 e2 h => ?_
 refine Gc (kc 180 [3] #[125]) 4 4 180 _ (W.zv x0 pl y1 e2 _ _ p0 fx0 fpl) ?_
 rintro _ w2 ⟨S2, rfl, z2, p2⟩
 refine Hn 3 Jq8 ?_
 obtain rfl := sj h
 exact Hr Tryz.f188 ⟨_, rfl, z2, p2⟩

def Jqa := Ys 111 B226 []
def Jqb := Ys 1101 B226 Jqa
def Jqd := Ys 1111 B226 []
def Ql1 := Yq 1110 B226

def Post.z6h (Epl : ZE) (pl : Z) (r : List Int) (v : Value) (w' : World) : Prop :=
 ∃ S' Gq nq cq csq, v = .slice (Gp Gq) nq cq ∧ Ext S0 w0 S' w' ∧ Hp nz wz S' w' ((Gq, .row 35 csq (cq * (kInt .u64).size) 0) :: PL Epl (Lr)) ∧ Els (kInt .u64) S' w' csq r ∧ r.length = nq

theorem W.z6h (x0 : Option Nat) (x1 : ByteArray) (pl : Z) (r : List Int) (h : M.a7o x0 x1 pl = some r) {nz wz S0 w0 Lr} (vx0 Epl) (p0 : Hp nz wz S0 w0 (PL Epl (Lr))) (fx0 : PpO 236 S0 vx0 x0) (fpl : PS S0 w0 Epl pl) :
  Calls Tryz.prog 226 #[vx0, .string x1] w0 (Rets (Post.z6h nz wz S0 w0 Lr Epl pl r)) := by
 refine Zf Tryz.f226 B226 14 ?_
 refine Gj 16 [(0, vx0), (1, .string x1)] fun junk => ?_
 delta M.a7o at h
 refine Hn 8 (Yt 1100 B226 [1, 2] Jqb) ?_
 refine Gb h fun y1 e2 h => ?_
 refine Gc (kc 180 [5] #[125]) 6 4 180 _ (W.zv x0 pl y1 e2 _ _ p0 fx0 fpl) ?_
 rintro _ w2 ⟨S2, rfl, z2, p2⟩
 refine Hn 2 Jqb ?_
 refine Hb [(6, .bool y1), (7, .bool (!y1))] ?_
 refine Gi h (fun h3 h => ?_) fun h3 h => ?_
 ·
  rw [h3]
  refine Hn 5 (Zr Ql1 [1, 2, 3, 4, 5, 6, 7, 8] Jqd) ?_
  refine Gl h fun v34 h4 h => ?_
  rcases v34 with _ | y5
  ·
   try dsimp only at h
   obtain rfl := PpO.nil (fx0.ext z2) h4
   cases h
  ·
   try dsimp only at h
   obtain ⟨g6, rfl, f7⟩ := PpO.got (fx0.ext z2) h4
   refine Hn 3 (Zr Ql1 [4, 5, 6, 7, 8] Jqd) ?_
   obtain ⟨cs8, q9, l10, e11, f12⟩ := Pl.row p2 9 rfl (fpl.zj.ext z2) f7
   have q15 := q9
   obtain ⟨v13, rfl, f14⟩ := kMp_one (w := w2) q15
   refine Hd (f12 0 _ rfl) ?_
   refine Hn 1 (Zr Ql1 [6, 7, 8] Jqd) ?_
   refine Gl h fun v33 h16 h => ?_
   rcases v33 with _ | y17
   ·
    try dsimp only at h
    obtain rfl := MpO.nil f14 h16
    refine Hn 1 (Zr Ql1 [7, 8] Jqd) ?_
    refine Gb h fun y20 e21 h => ?_
    refine Gc (kc 97 [14] #[31]) 15 31 97 _ (W.zz ([] : List Int) y20 e21 none 0 0 p2 Rd.none_ rfl) ?_
    rintro _ w3 ⟨S3, u1d, u1e, u1f, u1g, rfl, z3, p3, u1h, rfl⟩
    refine Hn 2 Jqd ?_
    obtain rfl := sj h
    exact Hr Tryz.f226 ⟨_, _, _, _, _, rfl, (z2.t z3), p3, u1h, rfl⟩
   ·
    try dsimp only at h
    obtain ⟨g18, rfl, f19⟩ := MpO.got f14 h16
    refine Gl h fun v23 e24 h => ?_
    refine Op_.lkM 233 (.tmp 12) (.tmp 13) 14 31 9 31 8 (.slice none 0 0) ([] : List Int) x1 v23 p2 rfl (fpl.zi.ext z2) f19 Goes.v (by kernel_rfl) (by kernel_rfl) (by kernel_rfl) (kok_str (by kernel_rfl)) (by kernel_rfl) ⟨none, 0, rfl, Rd.none_⟩ e24 fun v25 f26 => ?_
    obtain ⟨A27, c28, rfl, f29⟩ := one_sl f26
    refine Gb h fun y30 e31 h => ?_
    refine Gc (kc 97 [14] #[31]) 15 31 97 _ (W.zz v23 y30 e31 _ _ _ p2 f29 rfl) ?_
    rintro _ w4 ⟨S4, uol, uom, uon, uoo, rfl, z4, p4, uey, rfl⟩
    refine Hn 2 Jqd ?_
    obtain rfl := sj h
    exact Hr Tryz.f226 ⟨_, _, _, _, _, rfl, (z2.t z4), p4, uey, rfl⟩
 ·
  rw [bf h3]
  refine Hn 5 (Ys 110101 B226 Jqa) ?_
  have p2 : Hp nz wz S2 w2 ((none, .row 35 [] (0 * (kInt .u64).size) 0) :: PL Epl (Lr)) := p2.nilRow' 35
  obtain rfl := sj h
  exact Hr Tryz.f226 ⟨_, _, _, _, _, rfl, z2, p2, (Els.nil (K := (kInt .u64))), rfl⟩


def Post.z6i (r : Bool) (v : Value) (w' : World) : Prop :=
 ∃ S', v = .bool r ∧ Ext S0 w0 S' w' ∧ Hp nz wz S' w' (Lr)

theorem W.z6i (x0 : Int) (r : Bool) (h : M.a7p x0 = some r) {nz wz S0 w0 Lr} (p0 : Hp nz wz S0 w0 (Lr)) :
  Calls Tryz.prog 245 #[.i x0] w0 (Rets (Post.z6i nz wz S0 w0 Lr r)) := by
 refine Zf Tryz.f245 B245 4 ?_
 refine Gj 5 [(0, .i x0)] fun junk => ?_
 delta M.a7p at h
 refine Hn 10 (Ys 111 B245 []) ?_
 obtain rfl := sj h
 exact Hr Tryz.f245 ⟨_, rfl, (Ext.refl S0 w0), p0⟩

def Post.z6j (lk : Nat) (rk : Nat) (jkk : Nat → Value) (u3c : Nat) (u3d : Nat) (u3e : Nat) (u3f : Option Addr) (u3g : Nat) (u3h : Nat) (u3i : Nat) (u3j : Option Addr) (u3k : Nat) (u3l : Nat) (u3m : List Int) (u3n : List Int) (r : List Int) (v : Value) (w' : World) : Prop :=
 ∃ S' u3o u3p u3q u3r, v = .bool true ∧ Ext S0 w0 S' w' ∧ Hp nz wz S' w' ((some lk, .obj (lpst 206 (lfr 23 [(5, (pt u3c 0)), (7, (pt u3d 0)), (12, .func (.func 250) #[] #[(pt u3e 0), (pt u3i 0)])] jkk) #[13, 14] (rfAssign (Q46)) (rfBody (Q46)) rk .ready none)) :: (some u3c, .row 218 [.func (.func 245) #[] #[]] 1 0) :: (some u3d, .row 31 [.slice (Gp u3o) u3p u3q] 1 0) :: (u3o, .row 35 u3r (u3q * (kInt .u64).size) 0) :: (some u3e, .row 31 [.slice u3f u3g u3h] 1 0) :: (some u3i, .row 31 [.slice u3j u3k u3l] 1 0) :: Lr) ∧ Els (kInt .u64) S' w' u3r r ∧ r.length = u3p

theorem W.z6j (u3s : List Int) (u3m : List Int) (u3n : List Int) (a0 : Int) (a1 : Int) (r : List Int) (h : M.a7q u3s u3m u3n a0 a1 = some r) {nz wz S0 w0 Lr} (lk rk jkk u3c u3d u3t u3u u3v u3w u3e u3f u3g u3h u3i u3j u3k u3l) (p0 : Hp nz wz S0 w0 ((some lk, .obj (lpst 206 (lfr 23 [(5, (pt u3c 0)), (7, (pt u3d 0)), (12, .func (.func 250) #[] #[(pt u3e 0), (pt u3i 0)])] jkk) #[13, 14] (rfAssign (Q46)) (rfBody (Q46)) rk .ready none)) :: (some u3c, .row 218 [.func (.func 245) #[] #[]] 1 0) :: (some u3d, .row 31 [.slice (Gp u3t) u3u u3v] 1 0) :: (u3t, .row 35 u3w (u3v * (kInt .u64).size) 0) :: (some u3e, .row 31 [.slice u3f u3g u3h] 1 0) :: (some u3i, .row 31 [.slice u3j u3k u3l] 1 0) :: Lr)) (u3x : Els (kInt .u64) S0 w0 u3w u3s) (u3y : u3s.length = u3u) (u3z : Rd (kInt .u64) S0 w0 u3f u3h u3m) (u40 : u3m.length = u3g) (u41 : Rd (kInt .u64) S0 w0 u3j u3l u3n) (u42 : u3n.length = u3k) :
  Goes Tryz.prog (rbase 206 lk) [.code (rfAssign (Q46)), .beginRound, .code (rfBody (Q46))] ⟨setp (lfr 23 [(5, (pt u3c 0)), (7, (pt u3d 0)), (12, .func (.func 250) #[] #[(pt u3e 0), (pt u3i 0)])] jkk) #[13, 14] #[.u a0, .i a1], []⟩ w0 (DoneR (Post.z6j nz wz S0 w0 Lr lk rk jkk u3c u3d u3e u3f u3g u3h u3i u3j u3k u3l u3m u3n r)) := by
 subst u3y
 subst u40
 subst u42
 refine Gj 23 [(5, (pt u3c 0)), (7, (pt u3d 0)), (12, .func (.func 250) #[] #[(pt u3e 0), (pt u3i 0)]), (13, .u a0), (14, .i a1)] fun junk => ?_
 delta M.a7q at h
 refine Hn 7 [.beginRound, .code (Q47)] ?_
 refine Goes.beginR 0 rfl p0 rfl fun w2 z2 p2 => ?_
 refine Hn 3 J58 ?_
 refine Hd (p2.e 1 0) ?_
 refine Hn 1 J59 ?_
 refine Gb h fun y7 e8 h => ?_
 refine Gc (.call { callee := .value (.tmp 15), args := #[(.tmp 16)], argTypes := #[3] }) 17 4 245 _ (W.z6i a1 y7 e8  p2 ) ?_
 rintro _ w3 ⟨S3, rfl, z3, p3⟩
 refine Hn 1 J57 ?_
 refine Hb [(17, .bool y7)] ?_
 refine Gi h (fun h9 h => ?_) fun h9 h => ?_
 ·
  rw [h9]
  refine Hn 2 J5a ?_
  refine Hd (p3.e 2 0) ?_
  refine Hn 1 J5b ?_
  have f11 : Els (kInt .u64) S3 w3 ([.u a0] : List Value) [a0] := by exact (Els.cons (K := (kInt .u64)) (vs := [.u a0]) (x := a0) rfl Els.nil)
  refine Om (.buildSlice 31 1 #[(0, (.tmp 19))]) 20 31 (fun b => .slice (Gp (some b)) 1 1) 35 ([.u a0] : List Value) (1 * (kInt .u64).size) p3 Goes.v fun b10 w4 z4 p4 => ?_
  refine Gg h fun g16 h => ?_
  refine On (K := (kInt .u64)) 31 (.tmp 18) (.tmp 20) 21 31 35 4 (.u 0) 8 u3s.length u3v 1 u3s [a0] (u3s ++ [a0]) (Gp (some b10)) 1 rfl rfl rfl p4 rfl (u3x.ext ((z2.t z3).t z4)) Goes.v (f11.ext z4) (src_own p4 (q := 0) rfl) g16 fun w5 G17 c18 u43 z5 p5 f20 => ?_
  refine So 31 (.tmp 7) (.tmp 21) 0 3 u3d 0 (.slice (Gp G17) ((u3s ++ [a0]).length) c18) [.slice (Gp G17) ((u3s ++ [a0]).length) c18] p5 rfl Goes.s fun w6 z6 p6 => ?_
  refine Hn 2 [] ?_
  have p6 := p6.dp 0
  obtain rfl := sj h
  refine Goes.endR 0 p6 rfl fun w7 z7 p7 => ?_
  exact ⟨S3, G17, (u3s ++ [a0]).length, c18, u43, rfl, (((((z2.t z3).t z4).t z5).t z6).t z7), p7, (f20.ext (z6.t z7)), rfl⟩
 ·
  rw [bf h9]
  refine Hn 3 [] ?_
  obtain rfl := sj h
  refine Goes.endR 0 p3 rfl fun w8 z8 p8 => ?_
  exact ⟨S3, u3t, u3s.length, u3v, u3w, rfl, ((z2.t z3).t z8), p8, (u3x.ext ((z2.t z3).t z8)), rfl⟩

def Post.z6k (lx0 : Nat) (rx0 : Nat) (u27 : Nat → Value) (u44 : Nat) (u45 : Nat) (u46 : Nat) (u47 : Nat) (r : (List Int) × (List Int) × (List Int)) (v : Value) (w' : World) : Prop :=
 ∃ S' u3o u3p u3q u3r u48 u49 u4a u4b u4c u4d, v = .tuple #[] ∧ Ext S0 w0 S' w' ∧ Hp nz wz S' w' ((some lx0, .obj (lpst 206 (lfr 23 [(5, (pt u44 0)), (7, (pt u45 0)), (12, .func (.func 250) #[] #[(pt u46 0), (pt u47 0)])] u27) #[13, 14] (rfAssign (Q46)) (rfBody (Q46)) rx0 .ready none)) :: (some u44, .row 218 [.func (.func 245) #[] #[]] 1 0) :: (some u45, .row 31 [.slice (Gp u3o) u3p u3q] 1 0) :: (u3o, .row 35 u3r (u3q * (kInt .u64).size) 0) :: (some u46, .row 31 [.slice u48 u49 u4a] 1 0) :: (some u47, .row 31 [.slice u4b u4c u4d] 1 0) :: Lr) ∧ Els (kInt .u64) S' w' u3r r.1 ∧ r.1.length = u3p ∧ Rd (kInt .u64) S' w' u48 u4a r.2.1 ∧ r.2.1.length = u49 ∧ Rd (kInt .u64) S' w' u4b u4d r.2.2 ∧ r.2.2.length = u4c

def L.z6l (lx0 : Nat) (rx0 : Nat) (u27 : Nat → Value) (u44 : Nat) (u45 : Nat) (u46 : Nat) (u47 : Nat) : (List Int) × (List Int) × (List Int) → ((List Int) × (List Int) × (List Int)) → Prop := fun ⟨u4e, u4f, u4g⟩ r => ∀ S1 w1, Ext S0 w0 S1 w1 → ∀ u3o u3p u3q u3r u48 u49 u4a u4b u4c u4d (_ : Hp nz wz S1 w1 ((some lx0, .obj (lpst 206 (lfr 23 [(5, (pt u44 0)), (7, (pt u45 0)), (12, .func (.func 250) #[] #[(pt u46 0), (pt u47 0)])] u27) #[13, 14] (rfAssign (Q46)) (rfBody (Q46)) rx0 .ready none)) :: (some u44, .row 218 [.func (.func 245) #[] #[]] 1 0) :: (some u45, .row 31 [.slice (Gp u3o) u3p u3q] 1 0) :: (u3o, .row 35 u3r (u3q * (kInt .u64).size) 0) :: (some u46, .row 31 [.slice u48 u49 u4a] 1 0) :: (some u47, .row 31 [.slice u4b u4c u4d] 1 0) :: Lr)) (_ : Els (kInt .u64) S1 w1 u3r u4e) (_ : u4e.length = u3p) (_ : Rd (kInt .u64) S1 w1 u48 u4a u4f) (_ : u4f.length = u49) (_ : Rd (kInt .u64) S1 w1 u4b u4d u4g) (_ : u4g.length = u4c) (junk : Nat → Value),
 Goes Tryz.prog (base 250) J5d ⟨lfr 73 [(0, yieldV lx0), (1, (pt u46 0)), (2, (pt u47 0))] junk, []⟩ w1 (Done Tryz.prog 250 (Rets (Post.z6k nz wz S0 w0 Lr lx0 rx0 u27 u44 u45 u46 u47 r)))

def L.z6m (lx0 : Nat) (rx0 : Nat) (u27 : Nat → Value) (u44 : Nat) (u45 : Nat) (u46 : Nat) (u47 : Nat) : Bool × (List Int) × (List Int) × (List Int) → ((List Int) × (List Int) × (List Int)) → Prop := fun ⟨x13, u4e, u4f, u4g⟩ r => ∀ S1 w1, Ext S0 w0 S1 w1 → ∀ u3o u3p u3q u3r u48 u49 u4a u4b u4c u4d (_ : Hp nz wz S1 w1 ((some lx0, .obj (lpst 206 (lfr 23 [(5, (pt u44 0)), (7, (pt u45 0)), (12, .func (.func 250) #[] #[(pt u46 0), (pt u47 0)])] u27) #[13, 14] (rfAssign (Q46)) (rfBody (Q46)) rx0 .ready none)) :: (some u44, .row 218 [.func (.func 245) #[] #[]] 1 0) :: (some u45, .row 31 [.slice (Gp u3o) u3p u3q] 1 0) :: (u3o, .row 35 u3r (u3q * (kInt .u64).size) 0) :: (some u46, .row 31 [.slice u48 u49 u4a] 1 0) :: (some u47, .row 31 [.slice u4b u4c u4d] 1 0) :: Lr)) (_ : Els (kInt .u64) S1 w1 u3r u4e) (_ : u4e.length = u3p) (_ : Rd (kInt .u64) S1 w1 u48 u4a u4f) (_ : u4f.length = u49) (_ : Rd (kInt .u64) S1 w1 u4b u4d u4g) (_ : u4g.length = u4c) (junk : Nat → Value),
 Goes Tryz.prog (base 250) J5f ⟨lfr 73 [(0, yieldV lx0), (1, (pt u46 0)), (2, (pt u47 0)), (13, .bool x13)] junk, []⟩ w1 (Done Tryz.prog 250 (Rets (Post.z6k nz wz S0 w0 Lr lx0 rx0 u27 u44 u45 u46 u47 r)))

def L.z6n (lx0 : Nat) (rx0 : Nat) (u27 : Nat → Value) (u44 : Nat) (u45 : Nat) (u46 : Nat) (u47 : Nat) : Int × Bool × (List Int) × (List Int) × (List Int) → ((List Int) × (List Int) × (List Int)) → Prop := fun ⟨x4, x30, u4e, u4f, u4g⟩ r => ∀ S1 w1, Ext S0 w0 S1 w1 → ∀ u3o u3p u3q u3r u48 u49 u4a u4b u4c u4d (_ : Hp nz wz S1 w1 ((some lx0, .obj (lpst 206 (lfr 23 [(5, (pt u44 0)), (7, (pt u45 0)), (12, .func (.func 250) #[] #[(pt u46 0), (pt u47 0)])] u27) #[13, 14] (rfAssign (Q46)) (rfBody (Q46)) rx0 .ready none)) :: (some u44, .row 218 [.func (.func 245) #[] #[]] 1 0) :: (some u45, .row 31 [.slice (Gp u3o) u3p u3q] 1 0) :: (u3o, .row 35 u3r (u3q * (kInt .u64).size) 0) :: (some u46, .row 31 [.slice u48 u49 u4a] 1 0) :: (some u47, .row 31 [.slice u4b u4c u4d] 1 0) :: Lr)) (_ : Els (kInt .u64) S1 w1 u3r u4e) (_ : u4e.length = u3p) (_ : Rd (kInt .u64) S1 w1 u48 u4a u4f) (_ : u4f.length = u49) (_ : Rd (kInt .u64) S1 w1 u4b u4d u4g) (_ : u4g.length = u4c) (junk : Nat → Value),
 Goes Tryz.prog (base 250) J5i ⟨lfr 73 [(0, yieldV lx0), (1, (pt u46 0)), (2, (pt u47 0)), (4, .i x4), (30, .bool x30)] junk, []⟩ w1 (Done Tryz.prog 250 (Rets (Post.z6k nz wz S0 w0 Lr lx0 rx0 u27 u44 u45 u46 u47 r)))

def L.z6o (lx0 : Nat) (rx0 : Nat) (u27 : Nat → Value) (u44 : Nat) (u45 : Nat) (u46 : Nat) (u47 : Nat) : Int × (List Int) × (List Int) × (List Int) → ((List Int) × (List Int) × (List Int)) → Prop := fun ⟨x4, u4e, u4f, u4g⟩ r => ∀ S1 w1, Ext S0 w0 S1 w1 → ∀ u3o u3p u3q u3r u48 u49 u4a u4b u4c u4d (_ : Hp nz wz S1 w1 ((some lx0, .obj (lpst 206 (lfr 23 [(5, (pt u44 0)), (7, (pt u45 0)), (12, .func (.func 250) #[] #[(pt u46 0), (pt u47 0)])] u27) #[13, 14] (rfAssign (Q46)) (rfBody (Q46)) rx0 .ready none)) :: (some u44, .row 218 [.func (.func 245) #[] #[]] 1 0) :: (some u45, .row 31 [.slice (Gp u3o) u3p u3q] 1 0) :: (u3o, .row 35 u3r (u3q * (kInt .u64).size) 0) :: (some u46, .row 31 [.slice u48 u49 u4a] 1 0) :: (some u47, .row 31 [.slice u4b u4c u4d] 1 0) :: Lr)) (_ : Els (kInt .u64) S1 w1 u3r u4e) (_ : u4e.length = u3p) (_ : Rd (kInt .u64) S1 w1 u48 u4a u4f) (_ : u4f.length = u49) (_ : Rd (kInt .u64) S1 w1 u4b u4d u4g) (_ : u4g.length = u4c) (junk : Nat → Value),
 Goes Tryz.prog (base 250) J5h ⟨lfr 73 [(0, yieldV lx0), (1, (pt u46 0)), (2, (pt u47 0)), (4, .i x4)] junk, []⟩ w1 (Done Tryz.prog 250 (Rets (Post.z6k nz wz S0 w0 Lr lx0 rx0 u27 u44 u45 u46 u47 r)))

def L.z6p (lx0 : Nat) (rx0 : Nat) (u27 : Nat → Value) (u44 : Nat) (u45 : Nat) (u46 : Nat) (u47 : Nat) : Int × Bool × (List Int) × (List Int) × (List Int) → ((List Int) × (List Int) × (List Int)) → Prop := fun ⟨x4, x49, u4e, u4f, u4g⟩ r => ∀ S1 w1, Ext S0 w0 S1 w1 → ∀ u3o u3p u3q u3r u48 u49 u4a u4b u4c u4d (_ : Hp nz wz S1 w1 ((some lx0, .obj (lpst 206 (lfr 23 [(5, (pt u44 0)), (7, (pt u45 0)), (12, .func (.func 250) #[] #[(pt u46 0), (pt u47 0)])] u27) #[13, 14] (rfAssign (Q46)) (rfBody (Q46)) rx0 .ready none)) :: (some u44, .row 218 [.func (.func 245) #[] #[]] 1 0) :: (some u45, .row 31 [.slice (Gp u3o) u3p u3q] 1 0) :: (u3o, .row 35 u3r (u3q * (kInt .u64).size) 0) :: (some u46, .row 31 [.slice u48 u49 u4a] 1 0) :: (some u47, .row 31 [.slice u4b u4c u4d] 1 0) :: Lr)) (_ : Els (kInt .u64) S1 w1 u3r u4e) (_ : u4e.length = u3p) (_ : Rd (kInt .u64) S1 w1 u48 u4a u4f) (_ : u4f.length = u49) (_ : Rd (kInt .u64) S1 w1 u4b u4d u4g) (_ : u4g.length = u4c) (junk : Nat → Value),
 Goes Tryz.prog (base 250) J5k ⟨lfr 73 [(0, yieldV lx0), (1, (pt u46 0)), (2, (pt u47 0)), (4, .i x4), (49, .bool x49)] junk, []⟩ w1 (Done Tryz.prog 250 (Rets (Post.z6k nz wz S0 w0 Lr lx0 rx0 u27 u44 u45 u46 u47 r)))

def L.z6q (lx0 : Nat) (rx0 : Nat) (u27 : Nat → Value) (u44 : Nat) (u45 : Nat) (u46 : Nat) (u47 : Nat) : Int × (List Int) × (List Int) × (List Int) → ((List Int) × (List Int) × (List Int)) → Prop := fun ⟨x4, u4e, u4f, u4g⟩ r => ∀ S1 w1, Ext S0 w0 S1 w1 → ∀ u3o u3p u3q u3r u48 u49 u4a u4b u4c u4d (_ : Hp nz wz S1 w1 ((some lx0, .obj (lpst 206 (lfr 23 [(5, (pt u44 0)), (7, (pt u45 0)), (12, .func (.func 250) #[] #[(pt u46 0), (pt u47 0)])] u27) #[13, 14] (rfAssign (Q46)) (rfBody (Q46)) rx0 .ready none)) :: (some u44, .row 218 [.func (.func 245) #[] #[]] 1 0) :: (some u45, .row 31 [.slice (Gp u3o) u3p u3q] 1 0) :: (u3o, .row 35 u3r (u3q * (kInt .u64).size) 0) :: (some u46, .row 31 [.slice u48 u49 u4a] 1 0) :: (some u47, .row 31 [.slice u4b u4c u4d] 1 0) :: Lr)) (_ : Els (kInt .u64) S1 w1 u3r u4e) (_ : u4e.length = u3p) (_ : Rd (kInt .u64) S1 w1 u48 u4a u4f) (_ : u4f.length = u49) (_ : Rd (kInt .u64) S1 w1 u4b u4d u4g) (_ : u4g.length = u4c) (junk : Nat → Value),
 Goes Tryz.prog (base 250) J5j ⟨lfr 73 [(0, yieldV lx0), (1, (pt u46 0)), (2, (pt u47 0)), (4, .i x4)] junk, []⟩ w1 (Done Tryz.prog 250 (Rets (Post.z6k nz wz S0 w0 Lr lx0 rx0 u27 u44 u45 u46 u47 r)))

def L.z6r (lx0 : Nat) (rx0 : Nat) (u27 : Nat → Value) (u44 : Nat) (u45 : Nat) (u46 : Nat) (u47 : Nat) : Int × Int × (List Int) × (List Int) × (List Int) → ((List Int) × (List Int) × (List Int)) → Prop := fun ⟨x4, x5, u4e, u4f, u4g⟩ r => ∀ S1 w1, Ext S0 w0 S1 w1 → ∀ u3o u3p u3q u3r u48 u49 u4a u4b u4c u4d (_ : Hp nz wz S1 w1 ((some lx0, .obj (lpst 206 (lfr 23 [(5, (pt u44 0)), (7, (pt u45 0)), (12, .func (.func 250) #[] #[(pt u46 0), (pt u47 0)])] u27) #[13, 14] (rfAssign (Q46)) (rfBody (Q46)) rx0 .ready none)) :: (some u44, .row 218 [.func (.func 245) #[] #[]] 1 0) :: (some u45, .row 31 [.slice (Gp u3o) u3p u3q] 1 0) :: (u3o, .row 35 u3r (u3q * (kInt .u64).size) 0) :: (some u46, .row 31 [.slice u48 u49 u4a] 1 0) :: (some u47, .row 31 [.slice u4b u4c u4d] 1 0) :: Lr)) (_ : Els (kInt .u64) S1 w1 u3r u4e) (_ : u4e.length = u3p) (_ : Rd (kInt .u64) S1 w1 u48 u4a u4f) (_ : u4f.length = u49) (_ : Rd (kInt .u64) S1 w1 u4b u4d u4g) (_ : u4g.length = u4c) (junk : Nat → Value),
 Goes Tryz.prog (base 250) J5l ⟨lfr 73 [(0, yieldV lx0), (1, (pt u46 0)), (2, (pt u47 0)), (4, .i x4), (5, .u x5)] junk, []⟩ w1 (Done Tryz.prog 250 (Rets (Post.z6k nz wz S0 w0 Lr lx0 rx0 u27 u44 u45 u46 u47 r)))

def L.z6s (lx0 : Nat) (rx0 : Nat) (u27 : Nat → Value) (u44 : Nat) (u45 : Nat) (u46 : Nat) (u47 : Nat) : Int × Int × (List Int) × (List Int) × (List Int) → ((List Int) × (List Int) × (List Int)) → Prop := fun ⟨x4, x5, u4e, u4f, u4g⟩ r => ∀ S1 w1, Ext S0 w0 S1 w1 → ∀ u3o u3p u3q u3r u48 u49 u4a u4b u4c u4d (_ : Hp nz wz S1 w1 ((some lx0, .obj (lpst 206 (lfr 23 [(5, (pt u44 0)), (7, (pt u45 0)), (12, .func (.func 250) #[] #[(pt u46 0), (pt u47 0)])] u27) #[13, 14] (rfAssign (Q46)) (rfBody (Q46)) rx0 .ready none)) :: (some u44, .row 218 [.func (.func 245) #[] #[]] 1 0) :: (some u45, .row 31 [.slice (Gp u3o) u3p u3q] 1 0) :: (u3o, .row 35 u3r (u3q * (kInt .u64).size) 0) :: (some u46, .row 31 [.slice u48 u49 u4a] 1 0) :: (some u47, .row 31 [.slice u4b u4c u4d] 1 0) :: Lr)) (_ : Els (kInt .u64) S1 w1 u3r u4e) (_ : u4e.length = u3p) (_ : Rd (kInt .u64) S1 w1 u48 u4a u4f) (_ : u4f.length = u49) (_ : Rd (kInt .u64) S1 w1 u4b u4d u4g) (_ : u4g.length = u4c) (junk : Nat → Value),
 Goes Tryz.prog (base 250) J5m ⟨lfr 73 [(0, yieldV lx0), (1, (pt u46 0)), (2, (pt u47 0)), (4, .i x4), (5, .u x5)] junk, []⟩ w1 (Done Tryz.prog 250 (Rets (Post.z6k nz wz S0 w0 Lr lx0 rx0 u27 u44 u45 u46 u47 r)))

theorem W.z6t {nz wz S0 w0 Lr} (lx0 : Nat) (rx0 : Nat) (u27 : Nat → Value) (u44 : Nat) (u45 : Nat) (u46 : Nat) (u47 : Nat) : (∀ a r, M.a4w a = some r → (L.z6l nz wz S0 w0 Lr lx0 rx0 u27 u44 u45 u46 u47) a r) ∧ (∀ a r, M.a5y a = some r → (L.z6m nz wz S0 w0 Lr lx0 rx0 u27 u44 u45 u46 u47) a r) ∧ (∀ a r, M.a4x a = some r → (L.z6n nz wz S0 w0 Lr lx0 rx0 u27 u44 u45 u46 u47) a r) ∧ (∀ a r, M.a5z a = some r → (L.z6o nz wz S0 w0 Lr lx0 rx0 u27 u44 u45 u46 u47) a r) ∧ (∀ a r, M.a4y a = some r → (L.z6p nz wz S0 w0 Lr lx0 rx0 u27 u44 u45 u46 u47) a r) ∧ (∀ a r, M.a60 a = some r → (L.z6q nz wz S0 w0 Lr lx0 rx0 u27 u44 u45 u46 u47) a r) ∧ (∀ a r, M.a61 a = some r → (L.z6r nz wz S0 w0 Lr lx0 rx0 u27 u44 u45 u46 u47) a r) ∧ (∀ a r, M.a62 a = some r → (L.z6s nz wz S0 w0 Lr lx0 rx0 u27 u44 u45 u46 u47) a r) := by
 refine M.a4w.mutual_partial_correctness (L.z6l nz wz S0 w0 Lr lx0 rx0 u27 u44 u45 u46 u47) (L.z6m nz wz S0 w0 Lr lx0 rx0 u27 u44 u45 u46 u47) (L.z6n nz wz S0 w0 Lr lx0 rx0 u27 u44 u45 u46 u47) (L.z6o nz wz S0 w0 Lr lx0 rx0 u27 u44 u45 u46 u47) (L.z6p nz wz S0 w0 Lr lx0 rx0 u27 u44 u45 u46 u47) (L.z6q nz wz S0 w0 Lr lx0 rx0 u27 u44 u45 u46 u47) (L.z6r nz wz S0 w0 Lr lx0 rx0 u27 u44 u45 u46 u47) (L.z6s nz wz S0 w0 Lr lx0 rx0 u27 u44 u45 u46 u47) ?_ ?_ ?_ ?_ ?_ ?_ ?_ ?_
 ·
  intro utb utc ⟨u4e, u4f, u4g⟩ r h S1 w1 hx u3o u3p u3q u3r u48 u49 u4a u4b u4c u4d p1 u4j u4k u4l u4m u4n u4o junk
  try dsimp only at h
  subst u4k
  subst u4m
  subst u4o
  refine Hn 3 J5n ?_
  refine Hd (p1.e 4 0) ?_
  refine Hn 3 J5o ?_
  refine Hb [(8, .bool (decide ((u4f.length : Int) > 0))), (9, .bool (decide ((u4f.length : Int) > 0)))] ?_
  refine Gi h (fun h8 h => ?_) fun h8 h => ?_
  ·
   rw [dt h8]
   refine Hn 5 J5f ?_
   exact Gk (utc _ _ h _ _ hx _ _ _ _ _ _ _ _ _ _ p1 u4j rfl u4l rfl u4n rfl)
  ·
   rw [df h8]
   refine Hd (p1.e 5 0) ?_
   refine Hn 4 J5f ?_
   exact Gk (utc _ _ h _ _ hx _ _ _ _ _ _ _ _ _ _ p1 u4j rfl u4l rfl u4n rfl)
 ·
  intro utd ute ⟨x13, u4e, u4f, u4g⟩ r h S1 w1 hx u3o u3p u3q u3r u48 u49 u4a u4b u4c u4d p1 u4j u4k u4l u4m u4n u4o junk
  try dsimp only at h
  subst u4k
  subst u4m
  subst u4o
  refine Hb [(13, .bool x13)] ?_
  refine Gi h (fun h10 h => ?_) fun h10 h => ?_
  ·
   rw [h10]
   refine Hn 9 J5p ?_
   have z2 : Ext S1 w1 S1 (w1).drew := Ext.draw
   have p2 := p1.draw
   refine Gd [] (Fc S1 (w1).drew [(⟨u47, 0, none⟩, .slice u4b u4g.length u4d), (⟨u46, 0, none⟩, .slice u48 u4f.length u4a)]) 2 17 ?_
   generalize (w1).drew = w2 at z2 p2 ⊢
   refine Hl 0 (Fc.here (p2.cs [(5, 0, 1), (4, 0, 1)])) (fun _ h => h.2.at_ 0 rfl) ?_
   refine Hq [1, 2, 3] 3 (Fc.here (p2.cs [(5, 0, 1), (4, 0, 1)])) ?_
   refine HbA [(16, .bool (decide ((u4g.length : Int) = 0))), (17, .bool (decide ((u4g.length : Int) = 0)))] ?_
   refine Gi h (fun h11 h => ?_) fun h11 h => ?_
   ·
    rw [dt h11]
    refine Hq [4, 5, 6, 7, 8, 9, 10, 11, 12, 13, 14, 15, 16] 13 (Fc.here (p2.cs [(5, 0, 1), (4, 0, 1)])) ?_
    refine Ad ?_
    exact Gk (ute _ _ h _ _ (hx.t z2) _ _ _ _ _ _ _ _ _ _ p2 (u4j.ext z2) rfl (u4l.ext z2) rfl (u4n.ext z2) rfl)
   ·
    rw [df h11]
    refine Hl 4 (Fc.here (p2.cs [(5, 0, 1), (4, 0, 1)])) (fun _ h => h.2.at_ 1 rfl) ?_
    refine Hq [5, 6, 7] 3 (Fc.here (p2.cs [(5, 0, 1), (4, 0, 1)])) ?_
    refine HbA [(20, .bool (decide ((u4f.length : Int) > 0))), (21, .bool (decide ((u4f.length : Int) > 0)))] ?_
    refine Gi h (fun h13 h => ?_) fun h13 h => ?_
    ·
     rw [dt h13]
     refine Hl 8 (Fc.here (p2.cs [(5, 0, 1), (4, 0, 1)])) (fun _ h => h.2.at_ 1 rfl) ?_
     refine Gg h fun g14 h => ?_
     refine Hy 9 35 .i64 rfl rfl (u4l.ext z2) (Fc.here (p2.cs [(5, 0, 1), (4, 0, 1)])) (by decide : (0 : Int) ≤ 0) g14 fun a15 _ f16 q17 => ?_
     obtain rfl := q17
     refine Hl 10 (Fc.here (p2.cs [(5, 0, 1), (4, 0, 1)])) (fun _ h => f16.fc h 0 _ rfl) ?_
     refine Hl 11 (Fc.here (p2.cs [(5, 0, 1), (4, 0, 1)])) (fun _ h => h.2.at_ 0 rfl) ?_
     refine Gg h fun g18 h => ?_
     refine Hy 12 35 .i64 rfl rfl (u4n.ext z2) (Fc.here (p2.cs [(5, 0, 1), (4, 0, 1)])) (by decide : (0 : Int) ≤ 0) g18 fun a19 _ f20 q21 => ?_
     obtain rfl := q21
     refine Hl 13 (Fc.here (p2.cs [(5, 0, 1), (4, 0, 1)])) (fun _ h => f20.fc h 0 _ rfl) ?_
     refine Hq [14, 15, 16] 3 (Fc.here (p2.cs [(5, 0, 1), (4, 0, 1)])) ?_
     refine Ad ?_
     exact Gk (ute _ _ h _ _ (hx.t z2) _ _ _ _ _ _ _ _ _ _ p2 (u4j.ext z2) rfl (u4l.ext z2) rfl (u4n.ext z2) rfl)
    ·
     rw [df h13]
     refine Hq [8, 9, 10, 11, 12, 13, 14, 15, 16] 9 (Fc.here (p2.cs [(5, 0, 1), (4, 0, 1)])) ?_
     refine Ad ?_
     exact Gk (ute _ _ h _ _ (hx.t z2) _ _ _ _ _ _ _ _ _ _ p2 (u4j.ext z2) rfl (u4l.ext z2) rfl (u4n.ext z2) rfl)
  ·
   rw [bf h10]
   refine Hn 2 [] ?_
   obtain rfl := sj h
   exact Goes.end_ (fn := Tryz.f250) (by kernel_rfl) (v := .tuple #[]) (by kernel_rfl) ⟨S1, u3o, u4e.length, u3q, u3r, u48, u4f.length, u4a, u4b, u4g.length, u4d, rfl, hx, p1, u4j, rfl, u4l, rfl, u4n, rfl⟩
 ·
  intro utf utg ⟨x4, x30, u4e, u4f, u4g⟩ r h S1 w1 hx u3o u3p u3q u3r u48 u49 u4a u4b u4c u4d p1 u4j u4k u4l u4m u4n u4o junk
  try dsimp only at h
  subst u4k
  subst u4m
  subst u4o
  refine Hb [(30, .bool x30)] ?_
  refine Gi h (fun h22 h => ?_) fun h22 h => ?_
  ·
   rw [h22]
   refine Hn 6 J5h ?_
   exact Gk (utg _ _ h _ _ hx _ _ _ _ _ _ _ _ _ _ p1 u4j rfl u4l rfl u4n rfl)
  ·
   rw [bf h22]
   refine Hn 2 J5h ?_
   exact Gk (utg _ _ h _ _ hx _ _ _ _ _ _ _ _ _ _ p1 u4j rfl u4l rfl u4n rfl)
 ·
  intro uth uti ⟨x4, u4e, u4f, u4g⟩ r h S1 w1 hx u3o u3p u3q u3r u48 u49 u4a u4b u4c u4d p1 u4j u4k u4l u4m u4n u4o junk
  try dsimp only at h
  subst u4k
  subst u4m
  subst u4o
  refine Hn 2 J5q ?_
  have z3 : Ext S1 w1 S1 (w1).drew := Ext.draw
  have p3 := p1.draw
  refine Gd [] (Fc S1 (w1).drew [(⟨u46, 0, none⟩, .slice u48 u4f.length u4a), (⟨u47, 0, none⟩, .slice u4b u4g.length u4d)]) 4 17 ?_
  generalize (w1).drew = w3 at z3 p3 ⊢
  refine Hl 0 (Fc.here (p3.cs [(4, 0, 1), (5, 0, 1)])) (fun _ h => h.2.at_ 0 rfl) ?_
  refine Hq [1, 2, 3] 3 (Fc.here (p3.cs [(4, 0, 1), (5, 0, 1)])) ?_
  refine HbA [(35, .bool (decide ((u4f.length : Int) = 0))), (36, .bool (decide ((u4f.length : Int) = 0)))] ?_
  refine Gi h (fun h24 h => ?_) fun h24 h => ?_
  ·
   rw [dt h24]
   refine Hq [4, 5, 6, 7, 8, 9, 10, 11, 12, 13, 14, 15, 16] 13 (Fc.here (p3.cs [(4, 0, 1), (5, 0, 1)])) ?_
   refine Ad ?_
   exact Gk (uti _ _ h _ _ (hx.t z3) _ _ _ _ _ _ _ _ _ _ p3 (u4j.ext z3) rfl (u4l.ext z3) rfl (u4n.ext z3) rfl)
  ·
   rw [df h24]
   refine Hl 4 (Fc.here (p3.cs [(4, 0, 1), (5, 0, 1)])) (fun _ h => h.2.at_ 1 rfl) ?_
   refine Hq [5, 6, 7] 3 (Fc.here (p3.cs [(4, 0, 1), (5, 0, 1)])) ?_
   refine HbA [(39, .bool (decide ((u4g.length : Int) > 0))), (40, .bool (decide ((u4g.length : Int) > 0)))] ?_
   refine Gi h (fun h26 h => ?_) fun h26 h => ?_
   ·
    rw [dt h26]
    refine Hl 8 (Fc.here (p3.cs [(4, 0, 1), (5, 0, 1)])) (fun _ h => h.2.at_ 1 rfl) ?_
    refine Gg h fun g27 h => ?_
    refine Hy 9 35 .i64 rfl rfl (u4n.ext z3) (Fc.here (p3.cs [(4, 0, 1), (5, 0, 1)])) (by decide : (0 : Int) ≤ 0) g27 fun a28 _ f29 q30 => ?_
    obtain rfl := q30
    refine Hl 10 (Fc.here (p3.cs [(4, 0, 1), (5, 0, 1)])) (fun _ h => f29.fc h 0 _ rfl) ?_
    refine Hl 11 (Fc.here (p3.cs [(4, 0, 1), (5, 0, 1)])) (fun _ h => h.2.at_ 0 rfl) ?_
    refine Gg h fun g31 h => ?_
    refine Hy 12 35 .i64 rfl rfl (u4l.ext z3) (Fc.here (p3.cs [(4, 0, 1), (5, 0, 1)])) (by decide : (0 : Int) ≤ 0) g31 fun a32 _ f33 q34 => ?_
    obtain rfl := q34
    refine Hl 13 (Fc.here (p3.cs [(4, 0, 1), (5, 0, 1)])) (fun _ h => f33.fc h 0 _ rfl) ?_
    refine Hq [14, 15, 16] 3 (Fc.here (p3.cs [(4, 0, 1), (5, 0, 1)])) ?_
    refine Ad ?_
    exact Gk (uti _ _ h _ _ (hx.t z3) _ _ _ _ _ _ _ _ _ _ p3 (u4j.ext z3) rfl (u4l.ext z3) rfl (u4n.ext z3) rfl)
   ·
    rw [df h26]
    refine Hq [8, 9, 10, 11, 12, 13, 14, 15, 16] 9 (Fc.here (p3.cs [(4, 0, 1), (5, 0, 1)])) ?_
    refine Ad ?_
    exact Gk (uti _ _ h _ _ (hx.t z3) _ _ _ _ _ _ _ _ _ _ p3 (u4j.ext z3) rfl (u4l.ext z3) rfl (u4n.ext z3) rfl)
 ·
  intro utj utk ⟨x4, x49, u4e, u4f, u4g⟩ r h S1 w1 hx u3o u3p u3q u3r u48 u49 u4a u4b u4c u4d p1 u4j u4k u4l u4m u4n u4o junk
  try dsimp only at h
  subst u4k
  subst u4m
  subst u4o
  refine Hb [(49, .bool x49)] ?_
  refine Gi h (fun h35 h => ?_) fun h35 h => ?_
  ·
   rw [h35]
   refine Hn 6 J5j ?_
   exact Gk (utk _ _ h _ _ hx _ _ _ _ _ _ _ _ _ _ p1 u4j rfl u4l rfl u4n rfl)
  ·
   rw [bf h35]
   refine Hn 2 J5j ?_
   exact Gk (utk _ _ h _ _ hx _ _ _ _ _ _ _ _ _ _ p1 u4j rfl u4l rfl u4n rfl)
 ·
  intro utl utm ⟨x4, u4e, u4f, u4g⟩ r h S1 w1 hx u3o u3p u3q u3r u48 u49 u4a u4b u4c u4d p1 u4j u4k u4l u4m u4n u4o junk
  try dsimp only at h
  subst u4k
  subst u4m
  subst u4o
  refine Hn 11 J5r ?_
  refine Hb [(54, .bool (!(decide (iand .i64 x4 2 = 0))))] ?_
  refine Gi h (fun h37 h => ?_) fun h37 h => ?_
  ·
   rw [dt h37]
   refine Hn 2 J5l ?_
   exact Gk (utm _ _ h _ _ hx _ _ _ _ _ _ _ _ _ _ p1 u4j rfl u4l rfl u4n rfl)
  ·
   rw [df h37]
   refine Hn 1 J5s ?_
   have z4 : Ext S1 w1 S1 (w1).drew := Ext.draw
   have p4 := p1.draw
   refine Gd [6] (Fc S1 (w1).drew [(⟨u47, 0, none⟩, .slice u4b u4g.length u4d)]) 8 7 ?_
   generalize (w1).drew = w4 at z4 p4 ⊢
   refine Hl 0 (Fc.here (p4.cs [(5, 0, 1)])) (fun _ h => h.2.at_ 0 rfl) ?_
   refine Gg h fun g39 h => ?_
   refine Hy 1 35 .i64 rfl rfl (u4n.ext z4) (Fc.here (p4.cs [(5, 0, 1)])) (by decide : (0 : Int) ≤ 0) g39 fun a40 _ f41 q42 => ?_
   obtain rfl := q42
   refine Hl 2 (Fc.here (p4.cs [(5, 0, 1)])) (fun _ h => f41.fc h 0 _ rfl) ?_
   refine Hl 3 (Fc.here (p4.cs [(5, 0, 1)])) (fun _ h => h.2.at_ 0 rfl) ?_
   refine Gg h fun g43 h => ?_
   refine AnyG.slR_n (i := 4) 31 (.tmp 58) (some (.const (.int .i64 1))) none 59 31 35 1 (u4g.length : Int) (sl u4g 1 (u4g.length : Int)) rfl rfl (u4n.ext z4) (by kernel_rfl) (by kernel_rfl) (Fc.here (p4.cs [(5, 0, 1)])) (by kernel_rfl) (by kernel_rfl) (by kernel_rfl) (Bnd.at_ .i64 (by kernel_rfl)) Bnd.no (by decide : (0 : Int) ≤ 1) g43 (Int.le_refl _) fun A44 c45 f46 => ?_
   refine Hq [5] 1 (Fc.here (p4.cs [(5, 0, 1)])) ?_
   refine So 31 (.tmp 2) (.tmp 59) 0 5 u47 0 (.slice A44 ((sl u4g 1 (u4g.length : Int)).length) c45) [.slice A44 ((sl u4g 1 (u4g.length : Int)).length) c45] p4 rfl (As 6) fun w5 z5 p5 => ?_
   refine AnyG.last [] (Fc S1 w5 []) (by decide) ?_
   refine Ad ?_
   exact Gk (utm _ _ h _ _ ((hx.t z4).t z5) _ _ _ _ _ _ _ _ _ _ p5 (u4j.ext (z4.t z5)) rfl (u4l.ext (z4.t z5)) rfl (f46.ext z5) rfl)
 ·
  intro utn uto ⟨x4, x5, u4e, u4f, u4g⟩ r h S1 w1 hx u3o u3p u3q u3r u48 u49 u4a u4b u4c u4d p1 u4j u4k u4l u4m u4n u4o junk
  try dsimp only at h
  subst u4k
  subst u4m
  subst u4o
  refine Hn 7 J5t ?_
  refine Hb [(62, .bool (!(decide (iand .i64 x4 1 = 0))))] ?_
  refine Gi h (fun h47 h => ?_) fun h47 h => ?_
  ·
   rw [dt h47]
   refine Hn 2 J5m ?_
   exact Gk (uto _ _ h _ _ hx _ _ _ _ _ _ _ _ _ _ p1 u4j rfl u4l rfl u4n rfl)
  ·
   rw [df h47]
   refine Hn 1 J5u ?_
   have z6 : Ext S1 w1 S1 (w1).drew := Ext.draw
   have p6 := p1.draw
   refine Gd [6] (Fc S1 (w1).drew [(⟨u46, 0, none⟩, .slice u48 u4f.length u4a)]) 10 7 ?_
   generalize (w1).drew = w6 at z6 p6 ⊢
   refine Hl 0 (Fc.here (p6.cs [(4, 0, 1)])) (fun _ h => h.2.at_ 0 rfl) ?_
   refine Gg h fun g49 h => ?_
   refine Hy 1 35 .i64 rfl rfl (u4l.ext z6) (Fc.here (p6.cs [(4, 0, 1)])) (by decide : (0 : Int) ≤ 0) g49 fun a50 _ f51 q52 => ?_
   obtain rfl := q52
   refine Hl 2 (Fc.here (p6.cs [(4, 0, 1)])) (fun _ h => f51.fc h 0 _ rfl) ?_
   refine Hl 3 (Fc.here (p6.cs [(4, 0, 1)])) (fun _ h => h.2.at_ 0 rfl) ?_
   refine Gg h fun g53 h => ?_
   refine AnyG.slR_n (i := 4) 31 (.tmp 66) (some (.const (.int .i64 1))) none 67 31 35 1 (u4f.length : Int) (sl u4f 1 (u4f.length : Int)) rfl rfl (u4l.ext z6) (by kernel_rfl) (by kernel_rfl) (Fc.here (p6.cs [(4, 0, 1)])) (by kernel_rfl) (by kernel_rfl) (by kernel_rfl) (Bnd.at_ .i64 (by kernel_rfl)) Bnd.no (by decide : (0 : Int) ≤ 1) g53 (Int.le_refl _) fun A54 c55 f56 => ?_
   refine Hq [5] 1 (Fc.here (p6.cs [(4, 0, 1)])) ?_
   refine So 31 (.tmp 1) (.tmp 67) 0 4 u46 0 (.slice A54 ((sl u4f 1 (u4f.length : Int)).length) c55) [.slice A54 ((sl u4f 1 (u4f.length : Int)).length) c55] p6 rfl (As 6) fun w7 z7 p7 => ?_
   refine AnyG.last [] (Fc S1 w7 []) (by decide) ?_
   refine Ad ?_
   exact Gk (uto _ _ h _ _ ((hx.t z6).t z7) _ _ _ _ _ _ _ _ _ _ p7 (u4j.ext (z6.t z7)) rfl (f56.ext z7) rfl (u4n.ext (z6.t z7)) rfl)
 ·
  intro utp utq ⟨x4, x5, u4e, u4f, u4g⟩ r h S1 w1 hx u3o u3p u3q u3r u48 u49 u4a u4b u4c u4d p1 u4j u4k u4l u4m u4n u4o junk
  try dsimp only at h
  subst u4k
  subst u4m
  subst u4o
  refine Hn 5 J5w ?_
  refine Gb h fun y57 e58 h => ?_
  refine Goes.yieldAt (.call { callee := .value (.tmp 68), args := #[(.tmp 69), (.tmp 70)], argTypes := #[35, 3] }) 71 4 0 lx0 #[.u x5, .i x4] p1 rfl (by kernel_rfl) rfl (fun _ => by kernel_rfl) rfl (W.z6j u4e u4f u4g x5 x4 y57 e58 _ _ _ _ _ _ _ _ _ _ _ _ _ _ _ _ _ p1 u4j rfl u4l rfl u4n rfl) ?_
  rintro _ w8 ⟨S8, u56, u57, u58, u59, rfl, z8, p8, u5a, rfl⟩
  refine Hn 6 J5d ?_
  exact Gk (utq _ _ h _ _ (hx.t z8) _ _ _ _ _ _ _ _ _ _ p8 u5a rfl (u4l.ext z8) rfl (u4n.ext z8) rfl)

theorem W.z6l {nz wz S0 w0 Lr} (lx0 : Nat) (rx0 : Nat) (u27 : Nat → Value) (u44 : Nat) (u45 : Nat) (u46 : Nat) (u47 : Nat) : ∀ a r, M.a4w a = some r → (L.z6l nz wz S0 w0 Lr lx0 rx0 u27 u44 u45 u46 u47) a r := (W.z6t lx0 rx0 u27 u44 u45 u46 u47).1

theorem W.z6m {nz wz S0 w0 Lr} (lx0 : Nat) (rx0 : Nat) (u27 : Nat → Value) (u44 : Nat) (u45 : Nat) (u46 : Nat) (u47 : Nat) : ∀ a r, M.a5y a = some r → (L.z6m nz wz S0 w0 Lr lx0 rx0 u27 u44 u45 u46 u47) a r := (W.z6t lx0 rx0 u27 u44 u45 u46 u47).2.1

theorem W.z6n {nz wz S0 w0 Lr} (lx0 : Nat) (rx0 : Nat) (u27 : Nat → Value) (u44 : Nat) (u45 : Nat) (u46 : Nat) (u47 : Nat) : ∀ a r, M.a4x a = some r → (L.z6n nz wz S0 w0 Lr lx0 rx0 u27 u44 u45 u46 u47) a r := (W.z6t lx0 rx0 u27 u44 u45 u46 u47).2.2.1

theorem W.z6o {nz wz S0 w0 Lr} (lx0 : Nat) (rx0 : Nat) (u27 : Nat → Value) (u44 : Nat) (u45 : Nat) (u46 : Nat) (u47 : Nat) : ∀ a r, M.a5z a = some r → (L.z6o nz wz S0 w0 Lr lx0 rx0 u27 u44 u45 u46 u47) a r := (W.z6t lx0 rx0 u27 u44 u45 u46 u47).2.2.2.1

theorem W.z6p {nz wz S0 w0 Lr} (lx0 : Nat) (rx0 : Nat) (u27 : Nat → Value) (u44 : Nat) (u45 : Nat) (u46 : Nat) (u47 : Nat) : ∀ a r, M.a4y a = some r → (L.z6p nz wz S0 w0 Lr lx0 rx0 u27 u44 u45 u46 u47) a r := (W.z6t lx0 rx0 u27 u44 u45 u46 u47).2.2.2.2.1

theorem W.z6q {nz wz S0 w0 Lr} (lx0 : Nat) (rx0 : Nat) (u27 : Nat → Value) (u44 : Nat) (u45 : Nat) (u46 : Nat) (u47 : Nat) : ∀ a r, M.a60 a = some r → (L.z6q nz wz S0 w0 Lr lx0 rx0 u27 u44 u45 u46 u47) a r := (W.z6t lx0 rx0 u27 u44 u45 u46 u47).2.2.2.2.2.1

theorem W.z6r {nz wz S0 w0 Lr} (lx0 : Nat) (rx0 : Nat) (u27 : Nat → Value) (u44 : Nat) (u45 : Nat) (u46 : Nat) (u47 : Nat) : ∀ a r, M.a61 a = some r → (L.z6r nz wz S0 w0 Lr lx0 rx0 u27 u44 u45 u46 u47) a r := (W.z6t lx0 rx0 u27 u44 u45 u46 u47).2.2.2.2.2.2.1

theorem W.z6s {nz wz S0 w0 Lr} (lx0 : Nat) (rx0 : Nat) (u27 : Nat → Value) (u44 : Nat) (u45 : Nat) (u46 : Nat) (u47 : Nat) : ∀ a r, M.a62 a = some r → (L.z6s nz wz S0 w0 Lr lx0 rx0 u27 u44 u45 u46 u47) a r := (W.z6t lx0 rx0 u27 u44 u45 u46 u47).2.2.2.2.2.2.2

theorem W.z6k (u5b : List Int) (u5c : List Int) (u5d : List Int) (r : (List Int) × (List Int) × (List Int)) (h : M.a7r u5b u5c u5d = some r) {nz wz S0 w0 Lr} (lx0 rx0 u27 u44 u45 u5e u5f u5g u5h u46 u5i u5j u5k u47 u5l u5m u5n) (p0 : Hp nz wz S0 w0 ((some lx0, .obj (lpst 206 (lfr 23 [(5, (pt u44 0)), (7, (pt u45 0)), (12, .func (.func 250) #[] #[(pt u46 0), (pt u47 0)])] u27) #[13, 14] (rfAssign (Q46)) (rfBody (Q46)) rx0 .ready none)) :: (some u44, .row 218 [.func (.func 245) #[] #[]] 1 0) :: (some u45, .row 31 [.slice (Gp u5e) u5f u5g] 1 0) :: (u5e, .row 35 u5h (u5g * (kInt .u64).size) 0) :: (some u46, .row 31 [.slice u5i u5j u5k] 1 0) :: (some u47, .row 31 [.slice u5l u5m u5n] 1 0) :: Lr)) (u5o : Els (kInt .u64) S0 w0 u5h u5b) (u5p : u5b.length = u5f) (u5q : Rd (kInt .u64) S0 w0 u5i u5k u5c) (u5r : u5c.length = u5j) (u5s : Rd (kInt .u64) S0 w0 u5l u5n u5d) (u5t : u5d.length = u5m) :
  Calls Tryz.prog 250 #[yieldV lx0, (pt u46 0), (pt u47 0)] w0 (Rets (Post.z6k nz wz S0 w0 Lr lx0 rx0 u27 u44 u45 u46 u47 r)) := by
 subst u5p
 subst u5r
 subst u5t
 refine Zf Tryz.f250 B250 70 ?_
 refine Gj 73 [(0, yieldV lx0), (1, (pt u46 0)), (2, (pt u47 0))] fun junk => ?_
 delta M.a7r at h
 refine Hn 2 J5d ?_
 exact Gk (W.z6l lx0 rx0 u27 u44 u45 u46 u47 _ _ h _ _ (Ext.refl S0 w0) _ _ _ _ _ _ _ _ _ _ p0 u5o rfl u5q rfl u5s rfl)

def Post.z6u (r : List Int) (v : Value) (w' : World) : Prop :=
 ∃ S' Gq nq cq csq, v = .slice (Gp Gq) nq cq ∧ Ext S0 w0 S' w' ∧ Hp nz wz S' w' ((Gq, .row 35 csq (cq * (kInt .u64).size) 0) :: Lr) ∧ Els (kInt .u64) S' w' csq r ∧ r.length = nq

theorem W.z6u (x0 : List Int) (x1 : List Int) (r : List Int) (h : M.a7s x0 x1 = some r) {nz wz S0 w0 Lr} (Ax0 nx0 cx0 Ax1 nx1 cx1) (p0 : Hp nz wz S0 w0 (Lr)) (fx0 : Rd (kInt .u64) S0 w0 Ax0 cx0 x0) (lx0 : x0.length = nx0) (fx1 : Rd (kInt .u64) S0 w0 Ax1 cx1 x1) (lx1 : x1.length = nx1) :
  Calls Tryz.prog 206 #[.slice Ax0 nx0 cx0, .slice Ax1 nx1 cx1, .func (.func 245) #[] #[]] w0 (Rets (Post.z6u nz wz S0 w0 Lr r)) := by
 subst lx0
 subst lx1
 refine Zf Tryz.f206 B206 20 ?_
 refine Gj 23 [(0, .slice Ax0 x0.length cx0), (1, .slice Ax1 x1.length cx1), (2, .func (.func 245) #[] #[])] fun junk => ?_
 delta M.a7s at h
 refine Hn 2 J5y ?_
 refine Ob 218 (.tmp 2) 5 0 (.func (.func 245) #[] #[]) [.func (.func 245) #[] #[]] p0 Goes.v fun b1 w2 z2 p2 => ?_
 refine Hn 4 J60 ?_
 refine Oa 31 7 0 (.slice none 0 0) [.slice none 0 0] p2 Goes.v fun b3 w3 z3 p3 => ?_
 refine Hn 6 J63 ?_
 refine Gb h fun y5 e6 h => ?_
 refine Gc (kc 238 [10, 11] #[31, 31]) 12 279 238 _ (W.z10 x0 x1 y5 e6 _ _ _ _ _ _ p3 (fx0.ext (z2.t z3)) rfl (fx1.ext (z2.t z3)) rfl) ?_
 rintro _ w4 ⟨S4, u5u, u5v, u5w, u5x, u5y, u5z, u60, u61, rfl, z4, p4, u62, rfl, u63, rfl⟩
 refine Hn 2 J65 ?_
 refine Gj 23 [(5, (pt b1 0)), (7, (pt b3 0)), (12, .func (.func 250) #[] #[(pt u5u 0), (pt u5y 0)])] (fun u64 => ?_)
 refine Goes.rangeF (f := 206) (.tmp 12) #[13, 14] 250 #[] #[(pt u5u 0), (pt u5y 0)] (by kernel_rfl) (by kernel_rfl) (fun _ => by kernel_rfl) p4 fun r10 l11 w5 z5 p5 => ?_
 have p5 : Hp nz wz S4 w5 ((none, .row 35 [] (0 * (kInt .u64).size) 0) :: (some l11, .obj (lpst 206 (lfr 23 [(5, (pt b1 0)), (7, (pt b3 0)), (12, .func (.func 250) #[] #[(pt u5u 0), (pt u5y 0)])] u64) #[13, 14] (rfAssign (Q46)) (rfBody (Q46)) r10 .ready none)) :: (some r10, .obj (.deferred (some []))) :: (some u5u, .row 31 [.slice u5v y5.1.length u5x] 1 0) :: (some u5y, .row 31 [.slice u5z y5.2.length u61] 1 0) :: (some b3, .row 31 [.slice none 0 0] 1 0) :: (some b1, .row 218 [.func (.func 245) #[] #[]] 1 0) :: Lr) := p5.nilRow' 35
 have p5 := (((((p5.fr 4).fr 4).fr 2).fr 5).fr 6).fr 5
 refine Gb h fun y15 e16 h => ?_
 refine ⟨_, W.z6k ([] : List Int) y5.1 y5.2 y15 e16 _ _ _ _ _ none 0 0 [] _ _ _ _ _ _ _ _ p5 (Els.nil (K := (kInt .u64))) rfl (u62.ext z5) rfl (u63.ext z5) rfl, ?_⟩
 rintro _ w6 ⟨S6, u65, u66, u67, u68, u69, u6a, u6b, u6c, u6d, u6e, rfl, z6, p6, u6f, rfl, u6g, rfl, u6h, rfl⟩
 refine Goes.endF 0 p6 rfl rfl fun w7 z7 p7 => ?_
 replace p7 : Hp nz wz S6 w7 ((some b1, .row 218 [.func (.func 245) #[] #[]] 1 0) :: (some b3, .row 31 [.slice (Gp u65) y15.1.length u67] 1 0) :: (u65, .row 35 u68 (u67 * (kInt .u64).size) 0) :: (some u5u, .row 31 [.slice u69 y15.2.1.length u6b] 1 0) :: (some u5y, .row 31 [.slice u6c y15.2.2.length u6e] 1 0) :: (some r10, .obj (.deferred (some []))) :: Lr) := (p7.front 0 _ rfl).drop
 show Goes _ _ J64 _ _ _
 refine Hn 3 J67 ?_
 refine Hd (p7.e 1 0) ?_
 refine Hn 2 J66 ?_
 obtain rfl := sj h
 have p7 := (((p7.dp 0).dp 0).dp 1).dp 1
 have p7 := p7.fr 1
 refine Goes.retL ?_
 refine lvs_mark 0 rfl rfl p7 rfl fun w8 z8 p8 => ?_
 replace p8 : Hp nz wz S6 w8 ((u65, .row 35 u68 (u67 * (kInt .u64).size) 0) :: Lr) := p8.drop
 exact lvs_done (fn := Tryz.f206) rfl rfl rfl rfl (by kernel_rfl) (v := .slice (Gp u65) y15.1.length u67) (by kernel_rfl) ⟨S6, u65, y15.1.length, u67, u68, rfl, ((((((z2.t z3).t z4).t z5).t z6).t z7).t z8), p8, (u6f.ext (z7.t z8)), rfl⟩

def Post.z6v (r : (List Int) × Int) (v : Value) (w' : World) : Prop :=
 ∃ S' uq ur ut uu, v = .tuple #[.slice (Gp uq) ur ut, .i r.2] ∧ Ext S0 w0 S' w' ∧ Hp nz wz S' w' ((uq, .row 35 uu (ut * (kInt .u64).size) 0) :: Lr) ∧ Els (kInt .u64) S' w' uu r.1 ∧ r.1.length = ur

def L.z6w : (List Int) × (List (List Int)) × Int × Int → ((List Int) × Int) → Prop := fun ⟨x9, x35, x36, x37⟩ r => ∀ S1 w1, Ext S0 w0 S1 w1 → ∀ Gx9 nx9 cx9 u6i u6j u6k u6l (_ : Hp nz wz S1 w1 ((Gx9, .row 35 u6i (cx9 * (kInt .u64).size) 0) :: Lr)) (_ : Els (kInt .u64) S1 w1 u6i x9) (_ : x9.length = nx9) (_ : Rd (kSl (kInt .u64)) S1 w1 u6j u6l x35) (_ : x35.length = u6k) (junk : Nat → Value),
 Goes Tryz.prog (base 161) J6b ⟨lfr 47 [(1, .func (.func 245) #[] #[]), (9, .slice (Gp Gx9) nx9 cx9), (35, .slice u6j u6k u6l), (36, .i x36), (37, .i x37)] junk, []⟩ w1 (Done Tryz.prog 161 (Rets (Post.z6v nz wz S0 w0 Lr r)))

theorem W.z6w {nz wz S0 w0 Lr} : ∀ a r, M.a63 a = some r → (L.z6w nz wz S0 w0 Lr) a r := by
 refine M.a63.partial_correctness (motive := (L.z6w nz wz S0 w0 Lr)) ?_
 intro utr uts ⟨x9, x35, x36, x37⟩ r h S1 w1 hx Gx9 nx9 cx9 u6i u6j u6k u6l p1 fx9 lx9 u6o u6p junk
 try dsimp only at h
 subst lx9
 subst u6p
 refine Hn 5 J6d ?_
 refine Hb [(38, .bool (decide (x37 < x36)))] ?_
 refine Gi h (fun h33 h => ?_) fun h33 h => ?_
 ·
  rw [dt h33]
  refine Hn 6 J6h ?_
  refine Gg h fun g34 h => ?_
  refine Gg h fun g35 h => ?_
  refine Oi 217 (.tmp 35) (.tmp 37) 39 0 31 .i64 x37 (gi x35 x37) rfl rfl u6o Goes.v g34 g35 fun a36 _ f37 q38 => ?_
  obtain ⟨A39, c40, rfl, f41⟩ := q38
  refine Hd (f37.cell 0 _ rfl) ?_
  refine Hn 6 J6i ?_
  obtain ⟨S4, z4, p4, f42⟩ := p1.freezeRd 0 rfl fx9 (by decide)
  refine Gb h fun y43 e44 h => ?_
  refine Gc (kc 206 [41, 42, 43] #[31, 31, 218]) 44 31 206 _ (W.z6u x9 (gi x35 x37) y43 e44 _ _ _ _ _ _ p4 f42 rfl (f41.ext z4) rfl) ?_
  rintro _ w5 ⟨S5, u6q, u6r, u6s, u6t, rfl, z5, p5, u1p, rfl⟩
  have p5 := p5.dp 1
  refine Hn 8 J6b ?_
  exact Gk (uts _ _ h _ _ ((hx.t z4).t z5) _ _ _ _ _ _ _ p5 u1p rfl (u6o.ext (z4.t z5)) rfl)
 ·
  rw [df h33]
  refine Hn 8 J6j ?_
  obtain rfl := sj h
  exact Hr Tryz.f161 ⟨_, _, _, _, _, rfl, hx, p1, fx9, rfl⟩

def L.z6x : (List (List Int)) × (List (List Int)) × Int × Int → ((List Int) × Int) → Prop := fun ⟨x0, x15, x16, x17⟩ r => ∀ S1 w1, Ext S0 w0 S1 w1 → ∀ Ax0 nx0 cx0 u6u u6v u6w (_ : Hp nz wz S1 w1 (Lr)) (_ : Rd (kSl (kInt .u64)) S1 w1 Ax0 cx0 x0) (_ : x0.length = nx0) (_ : Rd (kSl (kInt .u64)) S1 w1 u6u u6w x15) (_ : x15.length = u6v) (junk : Nat → Value),
 Goes Tryz.prog (base 161) J6n ⟨lfr 47 [(0, .slice Ax0 nx0 cx0), (1, .func (.func 245) #[] #[]), (15, .slice u6u u6v u6w), (16, .i x16), (17, .i x17)] junk, []⟩ w1 (Done Tryz.prog 161 (Rets (Post.z6v nz wz S0 w0 Lr r)))

theorem W.z6x {nz wz S0 w0 Lr} : ∀ a r, M.a64 a = some r → (L.z6x nz wz S0 w0 Lr) a r := by
 refine M.a64.partial_correctness (motive := (L.z6x nz wz S0 w0 Lr)) ?_
 intro utt utu ⟨x0, x15, x16, x17⟩ r h S1 w1 hx Ax0 nx0 cx0 u6u u6v u6w p1 fx0 lx0 u6z u70 junk
 try dsimp only at h
 subst lx0
 subst u70
 refine Hn 5 J6p ?_
 refine Hb [(18, .bool (decide (x17 < x16)))] ?_
 refine Gi h (fun h3 h => ?_) fun h3 h => ?_
 ·
  rw [dt h3]
  refine Hn 6 J6t ?_
  refine Gg h fun g4 h => ?_
  refine Gg h fun g5 h => ?_
  refine Oi 217 (.tmp 15) (.tmp 17) 19 0 31 .i64 x17 (gi x15 x17) rfl rfl u6z Goes.v g4 g5 fun a6 _ f7 q8 => ?_
  obtain ⟨A9, c10, rfl, f11⟩ := q8
  refine Hd (f7.cell 0 _ rfl) ?_
  refine Hn 5 J6v ?_
  refine Gb h fun y12 e13 h => ?_
  refine Gc (kc 187 [21] #[31]) 22 39 187 _ (W.zy (gi x15 x17) y12 e13 _ _ _ p1 f11 rfl) ?_
  rintro _ w2 ⟨S2, rfl, z2, p2⟩
  refine Hn 7 J6w ?_
  refine Hb [(24, .bool (!(decide (y12 = 0))))] ?_
  refine Gi h (fun h14 h => ?_) fun h14 h => ?_
  ·
   rw [dt h14]
   refine Hn 8 J6n ?_
   exact Gk (utu _ _ h _ _ (hx.t z2) _ _ _ _ _ _ p2 (fx0.ext z2) rfl (u6z.ext z2) rfl)
  ·
   rw [df h14]
   refine Hn 7 J6x ?_
   have p2 : Hp nz wz S2 w2 ((none, .row 35 [] (0 * (kInt .u64).size) 0) :: Lr) := p2.nilRow' 35
   obtain rfl := sj h
   exact Hr Tryz.f161 ⟨_, _, _, _, _, rfl, (hx.t z2), p2, (Els.nil (K := (kInt .u64))), rfl⟩
 ·
  rw [df h3]
  refine Hn 9 J6z ?_
  refine Hb [(29, .bool (decide ((x0.length : Int) = 0)))] ?_
  refine Gi h (fun h16 h => ?_) fun h16 h => ?_
  ·
   rw [dt h16]
   refine Hn 6 J70 ?_
   have p1 : Hp nz wz S1 w1 ((none, .row 35 [] (0 * (kInt .u64).size) 0) :: Lr) := p1.nilRow' 35
   obtain rfl := sj h
   exact Hr Tryz.f161 ⟨_, _, _, _, _, rfl, hx, p1, (Els.nil (K := (kInt .u64))), rfl⟩
  ·
   rw [df h16]
   refine Hn 5 J72 ?_
   refine Gg h fun g18 h => ?_
   refine Oi 217 (.tmp 30) (.const (.int .i64 0)) 31 0 31 .i64 0 (gi x0 0) rfl rfl fx0 Goes.v (by decide : (0 : Int) ≤ 0) g18 fun a19 _ f20 q21 => ?_
   obtain ⟨A22, c23, rfl, f24⟩ := q21
   refine Hd (f20.cell 0 _ rfl) ?_
   refine Gb h fun y25 e26 h => ?_
   refine Gc (kc 97 [32] #[31]) 33 31 97 _ (W.zz (gi x0 0) y25 e26 _ _ _ p1 f24 rfl) ?_
   rintro _ w3 ⟨S3, u1d, u1e, u1f, u1g, rfl, z3, p3, u1h, rfl⟩
   refine Hn 6 J74 ?_
   refine Gg h fun g28 h => ?_
   refine Op_.slR_n 217 (.tmp 34) (some (.const (.int .i64 1))) none 35 217 31 1 (x0.length : Int) (sl x0 1 (x0.length : Int)) rfl rfl (fx0.ext z3) Goes.v (by kernel_rfl) (by kernel_rfl) (by kernel_rfl) (Bnd.at_ .i64 (by kernel_rfl)) Bnd.no (by decide : (0 : Int) ≤ 1) g28 (Int.le_refl _) fun A29 c30 f31 => ?_
   refine Hn 5 J6b ?_
   exact Gk (W.z6w _ _ h _ _ (hx.t z3) _ _ _ _ _ _ _ p3 u1h rfl f31 rfl)

theorem W.z6v (x0 : List (List Int)) (r : (List Int) × Int) (h : M.a7t x0 = some r) {nz wz S0 w0 Lr} (Ax0 nx0 cx0) (p0 : Hp nz wz S0 w0 (Lr)) (fx0 : Rd (kSl (kInt .u64)) S0 w0 Ax0 cx0 x0) (lx0 : x0.length = nx0) :
  Calls Tryz.prog 161 #[.slice Ax0 nx0 cx0, .func (.func 245) #[] #[]] w0 (Rets (Post.z6v nz wz S0 w0 Lr r)) := by
 subst lx0
 refine Zf Tryz.f161 B161 45 ?_
 refine Gj 47 [(0, .slice Ax0 x0.length cx0), (1, .func (.func 245) #[] #[])] fun junk => ?_
 delta M.a7t at h
 refine Hn 12 J76 ?_
 refine Hb [(14, .bool (decide ((x0.length : Int) > 4096)))] ?_
 refine Gi h (fun h1 h => ?_) fun h1 h => ?_
 ·
  rw [dt h1]
  refine Hn 6 J77 ?_
  have p0 : Hp nz wz S0 w0 ((none, .row 35 [] (0 * (kInt .u64).size) 0) :: Lr) := p0.nilRow' 35
  obtain rfl := sj h
  exact Hr Tryz.f161 ⟨_, _, _, _, _, rfl, (Ext.refl S0 w0), p0, (Els.nil (K := (kInt .u64))), rfl⟩
 ·
  rw [df h1]
  refine Hn 11 J6n ?_
  exact Gk (W.z6x _ _ h _ _ (Ext.refl S0 w0) _ _ _ _ _ _ p0 fx0 rfl fx0 rfl)

def Jqk := Ys 111 B225 []

def Post.z6y (r : (List Int) × Int) (v : Value) (w' : World) : Prop :=
 ∃ S' uq ur ut uu, v = .tuple #[.slice (Gp uq) ur ut, .i r.2] ∧ Ext S0 w0 S' w' ∧ Hp nz wz S' w' ((uq, .row 35 uu (ut * (kInt .u64).size) 0) :: Lr) ∧ Els (kInt .u64) S' w' uu r.1 ∧ r.1.length = ur

theorem W.z6y (x0 : List (List Int)) (r : (List Int) × Int) (h : M.a7u x0 = some r) {nz wz S0 w0 Lr} (Ax0 nx0 cx0) (p0 : Hp nz wz S0 w0 (Lr)) (fx0 : Rd (kSl (kInt .u64)) S0 w0 Ax0 cx0 x0) (lx0 : x0.length = nx0) :
  Calls Tryz.prog 225 #[.slice Ax0 nx0 cx0] w0 (Rets (Post.z6y nz wz S0 w0 Lr r)) := by
 subst lx0
 refine Zf Tryz.f225 B225 7 ?_
 refine Gj 8 [(0, .slice Ax0 x0.length cx0)] fun junk => ?_
 delta M.a7u at h
 refine Hn 8 (Yt 110 B225 [1, 2, 3, 4, 5] Jqk) ?_
 refine Gb h fun y1 e2 h => ?_
 refine Gc (.call { callee := .value (.func 161), args := #[(.tmp 4), (.func 245)], argTypes := #[217, 218] }) 5 166 161 _ (W.z6v x0 y1 e2 _ _ _ p0 fx0 rfl) ?_
 rintro _ w2 ⟨S2, u1i, u1j, u1k, u1l, rfl, z2, p2, u1m, rfl⟩
 refine Hn 5 Jqk ?_
 obtain rfl := sj h
 exact Hr Tryz.f225 ⟨_, _, _, _, _, rfl, z2, p2, u1m, rfl⟩

def Jqm := Ys 1111 B189 []
def Jqn := Zb 0 Jqm
def Ql7 := Yq 1110101111101100 B189
def Jqp := Zl Ql7 (Zb 1 Jqn)
def Jqq := Zc Ql7 Jqp
def Ql8 := Yq 11101011111110100 B189
def Jqs := Zl Ql8 (Zb 3 Jqn)
def Jqt := Zc Ql8 Jqs
def Jr0 := Ys 11111 B189 []
def Jre := Zb 4 (Ys 11101011111110100111 B189 Jqs)
def Qlt := Yq 1110101111111010011001 B189
def Jrm := Zb 2 (Ys 1110101111101100111 B189 Jqp)
def Qly := Yq 111010111110110011001 B189

def Post.z6z (Epl : ZE) (pl : Z) (r : List Int) (v : Value) (w' : World) : Prop :=
 ∃ S' Gq nq cq csq, v = .slice (Gp Gq) nq cq ∧ Ext S0 w0 S' w' ∧ Hp nz wz S' w' ((Gq, .row 35 csq (cq * (kInt .u64).size) 0) :: PL Epl (Lr)) ∧ Els (kInt .u64) S' w' csq r ∧ r.length = nq

def LF.z6z : T64 × (Option Nat) × (List Int) × Z → (List Int) → Prop := fun ⟨x0, x1, x2, pl⟩ r => ∀ {nz wz S0 w0 Lr} us2 us3 us4 vx1 Ax2 nx2 cx2 Epl (_ : Hp nz wz S0 w0 (PL Epl (Lr))) (_ : Rd kT64 S0 w0 us2 us4 x0.L) (_ : x0.L.length = us3) (_ : PpO 236 S0 vx1 x1) (_ : Rd (kInt .u64) S0 w0 Ax2 cx2 x2) (_ : x2.length = nx2) (_ : PS S0 w0 Epl pl),
 Calls Tryz.prog 189 #[(ag (vT64 x0 us2 us3 us4)), vx1, .slice Ax2 nx2 cx2] w0 (Rets (Post.z6z nz wz S0 w0 Lr Epl pl r))

def L.z70 (Epl : ZE) : (Option Nat) × (List Int) × (List T64) × Int × Int × Z → (List Int) → Prop := fun ⟨x1, x7, x35, x36, x37, pl⟩ r => ∀ S1 w1, Ext S0 w0 S1 w1 → ∀ vx1 Gx7 nx7 cx7 uf u6j u6k u6l (_ : Hp nz wz S1 w1 ((Gx7, .row 35 uf (cx7 * (kInt .u64).size) 0) :: PL Epl (Lr))) (_ : PpO 236 S1 vx1 x1) (_ : Els (kInt .u64) S1 w1 uf x7) (_ : x7.length = nx7) (_ : Rd kT64 S1 w1 u6j u6l x35) (_ : x35.length = u6k) (_ : PS S1 w1 Epl pl) (junk : Nat → Value),
 Goes Tryz.prog (base 189) Jqq ⟨lfr 67 [(1, vx1), (7, .slice (Gp Gx7) nx7 cx7), (35, .slice u6j u6k u6l), (36, .i x36), (37, .i x37)] junk, []⟩ w1 (Done Tryz.prog 189 (Rets (Post.z6z nz wz S0 w0 Lr Epl pl r)))

def LL.z70 : (Option Nat) × (List Int) × (List T64) × Int × Int × Z → (List Int) → Prop := fun a r => ∀ {nz wz S0 w0 Lr} (Epl : ZE), L.z70 nz wz S0 w0 Lr Epl a r

def L.z71 (Epl : ZE) : (Option Nat) × (List Int) × (List Int) × (List T64) × Int × Int × Z → (List Int) → Prop := fun ⟨x1, x2, x7, x49, x50, x51, pl⟩ r => ∀ S1 w1, Ext S0 w0 S1 w1 → ∀ vx1 Ax2 nx2 cx2 Gx7 nx7 cx7 uf utv utw utx (_ : Hp nz wz S1 w1 ((Gx7, .row 35 uf (cx7 * (kInt .u64).size) 0) :: PL Epl (Lr))) (_ : PpO 236 S1 vx1 x1) (_ : Rd (kInt .u64) S1 w1 Ax2 cx2 x2) (_ : x2.length = nx2) (_ : Els (kInt .u64) S1 w1 uf x7) (_ : x7.length = nx7) (_ : Rd kT64 S1 w1 utv utx x49) (_ : x49.length = utw) (_ : PS S1 w1 Epl pl) (junk : Nat → Value),
 Goes Tryz.prog (base 189) Jqt ⟨lfr 67 [(1, vx1), (2, .slice Ax2 nx2 cx2), (7, .slice (Gp Gx7) nx7 cx7), (49, .slice utv utw utx), (50, .i x50), (51, .i x51)] junk, []⟩ w1 (Done Tryz.prog 189 (Rets (Post.z6z nz wz S0 w0 Lr Epl pl r)))

def LL.z71 : (Option Nat) × (List Int) × (List Int) × (List T64) × Int × Int × Z → (List Int) → Prop := fun a r => ∀ {nz wz S0 w0 Lr} (Epl : ZE), L.z71 nz wz S0 w0 Lr Epl a r

theorem W.z72 : (∀ a r, M.a3t a = some r → LF.z6z a r) ∧ (∀ a r, M.a66 a = some r → LL.z71 a r) ∧ (∀ a r, M.a65 a = some r → LL.z70 a r) := by
 refine M.a3t.mutual_partial_correctness LF.z6z LL.z71 LL.z70 ?_ ?_ ?_
 ·
  intro uty utz uu0 uu1 ⟨x0, x1, x2, pl⟩ r h nz wz S0 w0 Lr us2 us3 us4 vx1 Ax2 nx2 cx2 Epl p0 use usf fx1 fx2 lx2 fpl
  try dsimp only at h
  subst usf
  subst lx2
  refine Zf Tryz.f189 B189 64 ?_
  refine Gj 67 [(0, (ag (vT64 x0 us2 x0.L.length us4))), (1, vx1), (2, .slice Ax2 x2.length cx2)] fun junk => ?_
  refine Hn 2 (Yt 10 B189 [0, 1] (Ys 11 B189 [])) ?_
  refine Ob 65 (.tmp 0) 3 0 (ag (vT64 x0 us2 x0.L.length us4)) (vT64 x0 us2 x0.L.length us4) p0 Goes.v fun b1 w2 z2 p2 => ?_
  refine Hn 10 (Yt 11100 B189 [1] (Ys 11101 B189 Jqm)) ?_
  refine Hd (p2.e 0 0) ?_
  refine Hn 7 (Ys 1110101 B189 Jqn) ?_
  refine Hb [(15, .bool (decide (x0.Op = 0))), (14, .bool (decide (x0.Op = 0)))] ?_
  refine Gi h (fun h3 h => ?_) fun h3 h => ?_
  ·
   rw [dt h3]
   refine Hn 3 (Yt 11101010 B189 [1, 2] Jqn) ?_
   refine Gb h fun y4 e5 h => ?_
   refine Gc (kc 97 [16] #[31]) 17 31 97 _ (W.zz x2 y4 e5 _ _ _ p2 (fx2.ext z2) rfl) ?_
   rintro _ w3 ⟨S3, u1d, u1e, u1f, u1g, rfl, z3, p3, u1h, rfl⟩
   have p3 := p3.dp 1
   refine Hn 8 Jr0 ?_
   obtain rfl := sj h
   exact Hr Tryz.f189 ⟨_, _, _, _, _, rfl, (z2.t z3), p3, u1h, rfl⟩
  ·
   rw [df h3]
   refine Hn 6 (Ys 111010111 B189 Jqn) ?_
   refine Hb [(19, .bool (decide (x0.Op = 2))), (18, .bool (decide (x0.Op = 2)))] ?_
   refine Gi h (fun h7 h => ?_) fun h7 h => ?_
   ·
    rw [dt h7]
    refine Hn 5 (Yt 1110101110 B189 [3, 4, 5, 6, 7, 8, 9, 10] Jqn) ?_
    refine Hd (p2.e 0 1) ?_
    have p2 := p2.rt 1 10
    refine Gb h fun y8 e9 h => ?_
    refine Gc (kc 226 [22, 24] #[125, 9]) 25 31 226 _ (W.z6h x1 x0.Text pl y8 e9 _ _ p2 (fx1.ext z2) (fpl.ext z2)) ?_
    rintro _ w4 ⟨S4, uol, uom, uon, uoo, rfl, z4, p4, uey, rfl⟩
    have p4 := p4.dp 11
    obtain ⟨S5, z5, p5, f11⟩ := p4.freezeRd 0 rfl uey (by decide)
    have f13 : Els (kSl (kInt .u64)) S5 w4 ([.slice Ax2 x2.length cx2, .slice (Gp uol) y8.length uon] : List Value) [x2, y8] := by exact (Els.cons (K := (kSl (kInt .u64))) (vs := [.slice Ax2 x2.length cx2]) (x := x2) ⟨_, _, rfl, (fx2.ext ((z2.t z4).t z5))⟩ (Els.cons (K := (kSl (kInt .u64))) (vs := [.slice (Gp uol) y8.length uon]) (x := y8) ⟨_, _, rfl, f11⟩ Els.nil))
    refine Om (.buildSlice 217 2 #[(0, (.tmp 21)), (1, (.tmp 25))]) 26 217 (fun b => .slice (Gp (some b)) 2 2) 31 ([.slice Ax2 x2.length cx2, .slice (Gp uol) y8.length uon] : List Value) (2 * (kSl (kInt .u64)).size) p5 Goes.v fun b12 w6 z6 p6 => ?_
    obtain ⟨S7, z7, p7, f15⟩ := p6.freezeRd 0 rfl (f13.ext z6) (by decide)
    refine Gb h fun y16 e17 h => ?_
    refine Gc (kc 225 [26] #[217]) 27 166 225 _ (W.z6y [x2, y8] y16 e17 _ _ _ p7 f15 rfl) ?_
    rintro _ w8 ⟨S8, u13, u14, u15, u16, rfl, z8, p8, u17, rfl⟩
    have p8 := (p8.dp 1).dp 1
    refine Hn 11 Jr0 ?_
    obtain rfl := sj h
    exact Hr Tryz.f189 ⟨_, _, _, _, _, rfl, (((((z2.t z4).t z5).t z6).t z7).t z8), p8, u17, rfl⟩
   ·
    rw [df h7]
    refine Hn 6 (Ys 11101011111 B189 Jqn) ?_
    refine Hb [(31, .bool (decide (x0.Op = 3))), (30, .bool (decide (x0.Op = 3)))] ?_
    refine Gi h (fun h19 h => ?_) fun h19 h => ?_
    ·
     rw [dt h19]
     refine Hn 4 (Yt 1110101111100 B189 [1, 2] (Ys 1110101111101 B189 Jqn)) ?_
     refine Gb h fun y20 e21 h => ?_
     refine Gc (kc 97 [32] #[31]) 33 31 97 _ (W.zz x2 y20 e21 _ _ _ p2 (fx2.ext z2) rfl) ?_
     rintro _ w9 ⟨S9, ura, urb, urc, urd, rfl, z9, p9, urf, rfl⟩
     refine Hn 5 (Yt 11101011111010 B189 [1, 2, 3] (Ys 11101011111011 B189 Jqn)) ?_
     refine Hd (p9.e 1 2) ?_
     refine Hn 5 Jqq ?_
     have p9 := p9.dp 1
     exact Gk (uu1 _ _ h Epl _ _ (z2.t z9) _ _ _ _ _ _ _ _ p9 (fx1.ext (z2.t z9)) urf rfl (use.ext (z2.t z9)) rfl (fpl.ext (z2.t z9)))
    ·
     rw [df h19]
     refine Hn 6 (Ys 1110101111111 B189 Jqn) ?_
     refine Hb [(47, .bool (decide (x0.Op = 4))), (46, .bool (decide (x0.Op = 4)))] ?_
     refine Gi h (fun h24 h => ?_) fun h24 h => ?_
     ·
      rw [dt h24]
      refine Hn 4 (Yt 111010111111100 B189 [1, 2, 3] (Ys 111010111111101 B189 Jqn)) ?_
      refine Hd (p2.e 0 2) ?_
      refine Hn 5 Jqt ?_
      have p2 := p2.dp 0
      have p2 : Hp nz wz S0 w2 ((none, .row 35 [] (0 * (kInt .u64).size) 0) :: PL Epl (Lr)) := p2.nilRow' 35
      exact Gk (uu0 _ _ h Epl _ _ z2 _ _ _ _ none 0 0 [] _ _ _ p2 (fx1.ext z2) (fx2.ext z2) rfl (Els.nil (K := (kInt .u64))) rfl (use.ext z2) rfl (fpl.ext z2))
     ·
      rw [df h24]
      refine Hn 8 Jr0 ?_
      have p2 : Hp nz wz S0 w2 ((none, .row 35 [] (0 * (kInt .u64).size) 0) :: (some b1, .row 65 (vT64 x0 us2 x0.L.length us4) 3 0) :: PL Epl (Lr)) := p2.nilRow' 35
      obtain rfl := sj h
      have p2 := p2.dp 1
      exact Hr Tryz.f189 ⟨_, _, _, _, _, rfl, z2, p2, (Els.nil (K := (kInt .u64))), rfl⟩
 ·
  intro rec_gram_Query_eval uty ih_gram_Query_eval uu0 ⟨x1, x2, x7, x49, x50, x51, pl⟩ r h nz wz S0 w0 Lr Epl S1 w1 hx vx1 Ax2 nx2 cx2 Gx7 nx7 cx7 uf utv utw utx p1 fx1 fx2 lx2 fx7 lx7 uu2 uu3 fs7 junk
  try dsimp only at h
  subst lx2
  subst lx7
  subst uu3
  refine Hn 5 (Ys 1110101111111010010 B189 (Ys 1110101111111010011 B189 Jqs)) ?_
  refine Hb [(52, .bool (decide (x51 < x50)))] ?_
  refine Gi h (fun h44 h => ?_) fun h44 h => ?_
  ·
   rw [dt h44]
   refine Hn 6 (Yt 1110101111111010011000 B189 [0, 1, 2, 3] (Zc Qlt Jre)) ?_
   refine Gg h fun g45 h => ?_
   refine Gg h fun g46 h => ?_
   refine Oi 63 (.tmp 49) (.tmp 51) 53 0 65 .i64 x51 (gi x49 x51) rfl rfl uu2 Goes.v g45 g46 fun a47 _ f48 q49 => ?_
   have q50 := q49
   obtain ⟨_, _, rfl, rfl, ⟨_, _, rfl, rfl, ⟨A51, c52, rfl, f53⟩⟩⟩ := kT64_open q50
   refine Goes.ldN 65 (.tmp 53) 54 65 a47 ([.i ((gi x49 x51).Op)] ++ ([.string ((gi x49 x51).Text)] ++ [.slice A51 (((gi x49 x51).L).length) c52])) (f48.cell) ?_
   refine Oa 65 11 0 (.agg #[.i 0, .string (⟨#[]⟩ : ByteArray), .slice none 0 0]) [.i 0, .string (⟨#[]⟩ : ByteArray), .slice none 0 0] p1 Goes.v fun b54 w14 z14 p14 => ?_
   refine So 65 (.tmp 11) (.tmp 54) 0 0 b54 0 ((ag (vT64 (gi x49 x51) A51 (((gi x49 x51).L).length) c52))) (vT64 (gi x49 x51) A51 (((gi x49 x51).L).length) c52) p14 rfl Goes.s fun w15 z15 p15 => ?_
   refine Hn 3 (Zr Qlt [1, 2, 3, 4, 5, 6, 7, 8, 9, 10] Jre) ?_
   refine Goes.ldN 65 (.tmp 11) 57 65 ⟨b54, 0, none⟩ (vT64 (gi x49 x51) A51 (((gi x49 x51).L).length) c52) (p15.pa 0 0) ?_
   refine Hn 2 (Zr Qlt [4, 5, 6, 7, 8, 9, 10] Jre) ?_
   have p15 := p15.rt 2 10
   refine Gb h fun y56 e57 h => ?_
   refine Gc (kc 189 [57, 58, 59] #[65, 125, 31]) 60 31 189 _ (ih_gram_Query_eval (gi x49 x51, x1, x2, pl) y56 e57 _ _ _ _ _ _ _ _ p15 (f53.ext (z14.t z15)) rfl (fx1.ext (z14.t z15)) (fx2.ext (z14.t z15)) rfl (fs7.ext (z14.t z15))) ?_
   rintro _ w16 ⟨S16, uu4, uu5, uu6, uu7, rfl, z16, p16, uu8, rfl⟩
   have p16 := p16.dp 11
   obtain ⟨S17, z17, p17, f59⟩ := p16.freezeRd 11 rfl (fx7.ext ((z14.t z15).t z16)) (by decide)
   obtain ⟨S18, z18, p18, f60⟩ := p17.freezeRd 0 rfl (uu8.ext z17) (by decide)
   have f62 : Els (kSl (kInt .u64)) S18 w16 ([.slice (Gp Gx7) x7.length cx7, .slice (Gp uu4) y56.length uu6] : List Value) [x7, y56] := by exact (Els.cons (K := (kSl (kInt .u64))) (vs := [.slice (Gp Gx7) x7.length cx7]) (x := x7) ⟨_, _, rfl, (f59.ext z18)⟩ (Els.cons (K := (kSl (kInt .u64))) (vs := [.slice (Gp uu4) y56.length uu6]) (x := y56) ⟨_, _, rfl, f60⟩ Els.nil))
   refine Om (.buildSlice 217 2 #[(0, (.tmp 56)), (1, (.tmp 60))]) 61 217 (fun b => .slice (Gp (some b)) 2 2) 31 ([.slice (Gp Gx7) x7.length cx7, .slice (Gp uu4) y56.length uu6] : List Value) (2 * (kSl (kInt .u64)).size) p18 Goes.v fun b61 w19 z19 p19 => ?_
   obtain ⟨S20, z20, p20, f64⟩ := p19.freezeRd 0 rfl (f62.ext z19) (by decide)
   refine Gb h fun y65 e66 h => ?_
   refine Gc (kc 160 [61] #[217]) 62 166 160 _ (W.z1h [x7, y56] y65 e66 _ _ _ p20 f64 rfl) ?_
   rintro _ w21 ⟨S21, uu9, uua, uub, uuc, rfl, z21, p21, uud, rfl⟩
   have p21 := ((p21.dp 1).dp 1).dp 11
   refine Hn 11 Jqt ?_
   exact Gk (uu0 _ _ h Epl _ _ ((((((((hx.t z14).t z15).t z16).t z17).t z18).t z19).t z20).t z21) _ _ _ _ _ _ _ _ _ _ _ p21 (fx1.ext (((((((z14.t z15).t z16).t z17).t z18).t z19).t z20).t z21)) (fx2.ext (((((((z14.t z15).t z16).t z17).t z18).t z19).t z20).t z21)) rfl uud rfl (uu2.ext (((((((z14.t z15).t z16).t z17).t z18).t z19).t z20).t z21)) rfl (fs7.ext (((((((z14.t z15).t z16).t z17).t z18).t z19).t z20).t z21)))
  ·
   rw [df h44]
   refine Hn 8 Jr0 ?_
   obtain rfl := sj h
   exact Hr Tryz.f189 ⟨_, _, _, _, _, rfl, hx, p1, fx7, rfl⟩
 ·
  intro rec_gram_Query_eval utz ih_gram_Query_eval uu1 ⟨x1, x7, x35, x36, x37, pl⟩ r h nz wz S0 w0 Lr Epl S1 w1 hx vx1 Gx7 nx7 cx7 uf u6j u6k u6l p1 fx1 fx7 lx7 u6o u6p fs5 junk
  try dsimp only at h
  subst lx7
  subst u6p
  refine Hn 5 (Ys 111010111110110010 B189 (Ys 111010111110110011 B189 Jqp)) ?_
  refine Hb [(38, .bool (decide (x37 < x36)))] ?_
  refine Gi h (fun h28 h => ?_) fun h28 h => ?_
  ·
   rw [dt h28]
   refine Hn 6 (Yt 111010111110110011000 B189 [0, 1, 2, 3] (Zc Qly Jrm)) ?_
   refine Gg h fun g29 h => ?_
   refine Gg h fun g30 h => ?_
   refine Oi 63 (.tmp 35) (.tmp 37) 39 0 65 .i64 x37 (gi x35 x37) rfl rfl u6o Goes.v g29 g30 fun a31 _ f32 q33 => ?_
   have q34 := q33
   obtain ⟨_, _, rfl, rfl, ⟨_, _, rfl, rfl, ⟨A35, c36, rfl, f37⟩⟩⟩ := kT64_open q34
   refine Goes.ldN 65 (.tmp 39) 40 65 a31 ([.i ((gi x35 x37).Op)] ++ ([.string ((gi x35 x37).Text)] ++ [.slice A35 (((gi x35 x37).L).length) c36])) (f32.cell) ?_
   refine Oa 65 9 0 (.agg #[.i 0, .string (⟨#[]⟩ : ByteArray), .slice none 0 0]) [.i 0, .string (⟨#[]⟩ : ByteArray), .slice none 0 0] p1 Goes.v fun b38 w10 z10 p10 => ?_
   refine So 65 (.tmp 9) (.tmp 40) 0 0 b38 0 ((ag (vT64 (gi x35 x37) A35 (((gi x35 x37).L).length) c36))) (vT64 (gi x35 x37) A35 (((gi x35 x37).L).length) c36) p10 rfl Goes.s fun w11 z11 p11 => ?_
   refine Hn 2 (Zr Qly [0, 1, 2, 3, 4] Jrm) ?_
   refine Goes.ldN 65 (.tmp 9) 41 65 ⟨b38, 0, none⟩ (vT64 (gi x35 x37) A35 (((gi x35 x37).L).length) c36) (p11.pa 0 0) ?_
   refine Hn 2 (Zr Qly [3, 4] Jrm) ?_
   obtain ⟨S12, z12, p12, f40⟩ := p11.freezeRd 1 rfl (fx7.ext (z10.t z11)) (by decide)
   have p12 := p12.rt 2 10
   refine Gb h fun y41 e42 h => ?_
   refine Gc (kc 189 [41, 42, 43] #[65, 125, 31]) 44 31 189 _ (ih_gram_Query_eval (gi x35 x37, x1, x7, pl) y41 e42 _ _ _ _ _ _ _ _ p12 (f37.ext ((z10.t z11).t z12)) rfl (fx1.ext ((z10.t z11).t z12)) f40 rfl (fs5.ext ((z10.t z11).t z12))) ?_
   rintro _ w13 ⟨S13, uue, uuf, uug, uuh, rfl, z13, p13, uui, rfl⟩
   have p13 := (p13.dp 11).dp 11
   refine Hn 8 Jqq ?_
   exact Gk (uu1 _ _ h Epl _ _ ((((hx.t z10).t z11).t z12).t z13) _ _ _ _ _ _ _ _ p13 (fx1.ext (((z10.t z11).t z12).t z13)) uui rfl (u6o.ext (((z10.t z11).t z12).t z13)) rfl (fs5.ext (((z10.t z11).t z12).t z13)))
  ·
   rw [df h28]
   refine Hn 8 Jr0 ?_
   obtain rfl := sj h
   exact Hr Tryz.f189 ⟨_, _, _, _, _, rfl, hx, p1, fx7, rfl⟩

theorem W.z6z : ∀ a r, M.a3t a = some r → LF.z6z a r := (W.z72).1

theorem W.z71 : ∀ a r, M.a66 a = some r → LL.z71 a r := (W.z72).2.1

theorem W.z70 : ∀ a r, M.a65 a = some r → LL.z70 a r := (W.z72).2.2

def Jrr := Ys 111 B132 []
def Jrs := Ys 1101 B132 Jrr
def Jru := Ys 1111 B132 []
def Jrv := Ys 11101 B132 Jru
def Jry := Ys 11111 B132 []
def Qm8 := Yq 11110 B132

def Post.z73 (Epl : ZE) (pl : Z) (r : (List Int) × Int) (v : Value) (w' : World) : Prop :=
 ∃ S' uq ur ut uu, v = .tuple #[.slice (Gp uq) ur ut, .i r.2] ∧ Ext S0 w0 S' w' ∧ Hp nz wz S' w' ((uq, .row 35 uu (ut * (kInt .u64).size) 0) :: PL Epl (Lr)) ∧ Els (kInt .u64) S' w' uu r.1 ∧ r.1.length = ur

def L.z74 (Epl : ZE) : (Option Nat) × (List Int) × T64 × Bool × Z → ((List Int) × Int) → Prop := fun ⟨x1, x2, x3v, x15, pl⟩ r => ∀ S1 w1, Ext S0 w0 S1 w1 → ∀ vx1 Ax2 nx2 cx2 gx3 us6 us7 us8 (_ : Hp nz wz S1 w1 ((some gx3, .row 65 (vT64 x3v us6 us7 us8) 3 0) :: PL Epl (Lr))) (_ : PpO 236 S1 vx1 x1) (_ : Rd (kInt .u64) S1 w1 Ax2 cx2 x2) (_ : x2.length = nx2) (_ : Rd kT64 S1 w1 us6 us8 x3v.L) (_ : x3v.L.length = us7) (_ : PS S1 w1 Epl pl) (junk : Nat → Value),
 Goes Tryz.prog (base 132) Jrs ⟨lfr 22 [(1, vx1), (2, .slice Ax2 nx2 cx2), (3, (pt gx3 0)), (15, .bool x15)] junk, []⟩ w1 (Done Tryz.prog 132 (Rets (Post.z73 nz wz S0 w0 Lr Epl pl r)))

theorem W.z74 {nz wz S0 w0 Lr} (Epl : ZE) : ∀ a r, M.a67 a = some r → L.z74 nz wz S0 w0 Lr Epl a r := by
 intro ⟨x1, x2, x3v, x15, pl⟩ r h S1 w1 hx vx1 Ax2 nx2 cx2 gx3 us6 us7 us8 p1 fx1 fx2 lx2 usi usj fs5 junk
 rw [M.a67] at h
 try dsimp only at h
 subst lx2
 subst usj
 refine Hb [(15, .bool x15)] ?_
 refine Gi h (fun h9 h => ?_) fun h9 h => ?_
 ·
  rw [h9]
  refine Hn 6 (Ys 110101 B132 Jrr) ?_
  have p1 : Hp nz wz S1 w1 ((none, .row 35 [] (0 * (kInt .u64).size) 0) :: (some gx3, .row 65 (vT64 x3v us6 x3v.L.length us8) 3 0) :: PL Epl (Lr)) := p1.nilRow' 35
  obtain rfl := sj h
  have p1 := p1.dp 1
  exact Hr Tryz.f132 ⟨_, _, _, _, _, rfl, hx, p1, (Els.nil (K := (kInt .u64))), rfl⟩
 ·
  rw [bf h9]
  refine Hn 6 (Yt 11100 B132 [1] Jrv) ?_
  have p1 := p1.rt 1 10
  refine Gb h fun y11 e12 h => ?_
  refine Gc (kc 188 [16] #[125]) 17 4 188 _ (W.z6g x1 pl y11 e12 _ _ p1 fx1 fs5) ?_
  rintro _ w5 ⟨S5, rfl, z5, p5⟩
  refine Hn 1 Jrv ?_
  refine Hb [(17, .bool y11)] ?_
  refine Gi h (fun h13 h => ?_) fun h13 h => ?_
  ·
   rw [h13]
   refine Hn 6 (Ys 1110101 B132 Jru) ?_
   have p5 : Hp nz wz S5 w5 ((none, .row 35 [] (0 * (kInt .u64).size) 0) :: PL Epl ((some gx3, .row 65 (vT64 x3v us6 x3v.L.length us8) 3 0) :: Lr)) := p5.nilRow' 35
   obtain rfl := sj h
   have p5 := p5.dp 11
   exact Hr Tryz.f132 ⟨_, _, _, _, _, rfl, (hx.t z5), p5, (Els.nil (K := (kInt .u64))), rfl⟩
  ·
   rw [bf h13]
   refine Hn 4 (Zr Qm8 [0, 1, 2, 3, 4, 5] Jry) ?_
   refine Goes.ldN 65 (.tmp 3) 18 65 ⟨gx3, 0, none⟩ (vT64 x3v us6 x3v.L.length us8) (p5.pa 10 0) ?_
   refine Hn 2 (Zr Qm8 [3, 4, 5] Jry) ?_
   refine Gb h fun y15 e16 h => ?_
   refine Gc (kc 189 [18, 19, 20] #[65, 125, 31]) 21 31 189 _ (W.z6z (x3v, x1, x2, pl) y15 e16 _ _ _ _ _ _ _ _ p5 (usi.ext z5) rfl (fx1.ext z5) (fx2.ext z5) rfl (fs5.ext z5)) ?_
   rintro _ w6 ⟨S6, uos, uot, uou, uov, rfl, z6, p6, uow, rfl⟩
   have p6 := p6.dp 11
   refine Hn 3 Jry ?_
   obtain rfl := sj h
   exact Hr Tryz.f132 ⟨_, _, _, _, _, rfl, ((hx.t z5).t z6), p6, uow, rfl⟩

def Qmb := Yq 1100 B132

theorem W.z73 (x0 : T64) (x1 : Option Nat) (x2 : List Int) (pl : Z) (r : (List Int) × Int) (h : M.a7v x0 x1 x2 pl = some r) {nz wz S0 w0 Lr} (us2 us3 us4 vx1 Ax2 nx2 cx2 Epl) (p0 : Hp nz wz S0 w0 (PL Epl (Lr))) (use : Rd kT64 S0 w0 us2 us4 x0.L) (usf : x0.L.length = us3) (fx1 : PpO 236 S0 vx1 x1) (fx2 : Rd (kInt .u64) S0 w0 Ax2 cx2 x2) (lx2 : x2.length = nx2) (fpl : PS S0 w0 Epl pl) :
  Calls Tryz.prog 132 #[(ag (vT64 x0 us2 us3 us4)), vx1, .slice Ax2 nx2 cx2] w0 (Rets (Post.z73 nz wz S0 w0 Lr Epl pl r)) := by
 subst usf
 subst lx2
 refine Zf Tryz.f132 B132 19 ?_
 refine Gj 22 [(0, (ag (vT64 x0 us2 x0.L.length us4))), (1, vx1), (2, .slice Ax2 x2.length cx2)] fun junk => ?_
 delta M.a7v at h
 refine Hn 2 (Yt 10 B132 [0, 1, 2] (Ys 11 B132 [])) ?_
 refine Ob 65 (.tmp 0) 3 0 (ag (vT64 x0 us2 x0.L.length us4)) (vT64 x0 us2 x0.L.length us4) p0 Goes.v fun b1 w2 z2 p2 => ?_
 refine Hn 6 (Zr Qmb [0, 1, 2, 3, 4, 5, 6, 7] Jrs) ?_
 refine Goes.ldN 65 (.tmp 3) 8 65 ⟨b1, 0, none⟩ (vT64 x0 us2 x0.L.length us4) (p2.pa 0 0) ?_
 refine Gb h fun y3 e4 h => ?_
 refine Gc (kc 75 [8] #[65]) 9 39 75 _ (W.z68 x0 y3 e4 _ _ _ p2 (use.ext z2) rfl) ?_
 rintro _ w3 ⟨S3, rfl, z3, p3⟩
 refine Hn 2 (Zr Qmb [4, 5, 6, 7] Jrs) ?_
 refine Hb [(10, .bool (!(decide (y3 = 0)))), (11, .bool (!(decide (y3 = 0))))] ?_
 refine Gi h (fun h5 h => ?_) fun h5 h => ?_
 ·
  rw [dt h5]
  refine Hn 1 (Zr Qmb [5, 6, 7] Jrs) ?_
  refine Gb h fun y6 e7 h => ?_
  refine Gc (kc 187 [12] #[31]) 13 39 187 _ (W.zy x2 y6 e7 _ _ _ p3 (fx2.ext (z2.t z3)) rfl) ?_
  rintro _ w4 ⟨S4, rfl, z4, p4⟩
  refine Hn 3 Jrs ?_
  exact Gk (W.z74 Epl _ _ h _ _ ((z2.t z3).t z4) _ _ _ _ _ _ _ _ p4 (fx1.ext ((z2.t z3).t z4)) (fx2.ext ((z2.t z3).t z4)) rfl (use.ext ((z2.t z3).t z4)) rfl (fpl.ext ((z2.t z3).t z4)))
 ·
  rw [df h5]
  refine Hn 5 Jrs ?_
  exact Gk (W.z74 Epl _ _ h _ _ (z2.t z3) _ _ _ _ _ _ _ _ p3 (fx1.ext (z2.t z3)) (fx2.ext (z2.t z3)) rfl (use.ext (z2.t z3)) rfl (fpl.ext (z2.t z3)))

def Post.z75 (lk : Nat) (rk : Nat) (jkk : Nat → Value) (u1s : Nat) (u1t : Nat) (uo2 : Nat) (uuj : Nat) (uuk : Option Addr) (uul : Nat) (uum : Nat) (Epl : ZE) (u1u : Nat) (uun : T64) (pl : Z) (r : List ByteArray) (v : Value) (w' : World) : Prop :=
 ∃ S' u1v u1w u1x u1y, v = .bool true ∧ Ext S0 w0 S' w' ∧ Hp nz wz S' w' ((some lk, .obj (lpst 174 (lfr 13 [(2, (pt u1s 0)), (6, .func (.func 130) #[] #[(pt u1t 0), (pt uuj 0)])] jkk) #[7] (rfAssign (Q2p)) (rfBody (Q2p)) rk .ready none)) :: (some u1s, .row 28 [.slice (Gp u1v) u1w u1x] 1 0) :: (u1v, .row 9 u1y (u1x * kStr.size) 0) :: (some u1t, .row 119 [(pt uo2 0)] 1 0) :: (some uuj, .row 65 (vT64 uun uuk uul uum) 3 0) :: PL Epl (Lr)) ∧ Els kStr S' w' u1y r ∧ r.length = u1w

theorem W.z75 (u1z : List ByteArray) (u1u : Nat) (uun : T64) (a0 : ByteArray) (pl : Z) (r : List ByteArray) (h : M.a68 u1z u1u uun a0 pl = some r) {nz wz S0 w0 Lr} (lk rk jkk u1s u20 u21 u22 u23 u1t uo2 uuj uuk uul uum Epl) (p0 : Hp nz wz S0 w0 ((some lk, .obj (lpst 174 (lfr 13 [(2, (pt u1s 0)), (6, .func (.func 130) #[] #[(pt u1t 0), (pt uuj 0)])] jkk) #[7] (rfAssign (Q2p)) (rfBody (Q2p)) rk .ready none)) :: (some u1s, .row 28 [.slice (Gp u20) u21 u22] 1 0) :: (u20, .row 9 u23 (u22 * kStr.size) 0) :: (some u1t, .row 119 [(pt uo2 0)] 1 0) :: (some uuj, .row 65 (vT64 uun uuk uul uum) 3 0) :: PL Epl (Lr))) (u24 : Els kStr S0 w0 u23 u1z) (u25 : u1z.length = u21) (uo3 : Pa 126 S0 u1u uo2) (uuo : Rd kT64 S0 w0 uuk uum uun.L) (uup : uun.L.length = uul) (fpl : PS S0 w0 Epl pl) :
  Goes Tryz.prog (rbase 174 lk) [.code (rfAssign (Q2p)), .beginRound, .code (rfBody (Q2p))] ⟨setp (lfr 13 [(2, (pt u1s 0)), (6, .func (.func 130) #[] #[(pt u1t 0), (pt uuj 0)])] jkk) #[7] #[.string a0], []⟩ w0 (DoneR (Post.z75 nz wz S0 w0 Lr lk rk jkk u1s u1t uo2 uuj uuk uul uum Epl u1u uun pl r)) := by
 subst u25
 subst uup
 refine Gj 13 [(2, (pt u1s 0)), (6, .func (.func 130) #[] #[(pt u1t 0), (pt uuj 0)]), (7, .string a0)] fun junk => ?_
 delta M.a68 at h
 refine Hn 3 [.beginRound, .code (Q2q)] ?_
 refine Goes.beginR 0 rfl p0 rfl fun w2 z2 p2 => ?_
 refine Hn 2 J3i ?_
 refine Hd (p2.e 1 0) ?_
 refine Hn 1 J3j ?_
 have f7 : Els kStr S0 w2 ([.string a0] : List Value) [a0] := by exact (Els.cons (K := kStr) (vs := [.string a0]) (x := a0) rfl Els.nil)
 refine Om (.buildSlice 28 1 #[(0, (.tmp 9))]) 10 28 (fun b => .slice (Gp (some b)) 1 1) 9 ([.string a0] : List Value) (1 * kStr.size) p2 Goes.v fun b6 w3 z3 p3 => ?_
 refine Gg h fun g12 h => ?_
 refine On (K := kStr) 28 (.tmp 8) (.tmp 10) 11 28 9 3 (.string ⟨#[]⟩) 16 u1z.length u22 1 u1z [a0] (u1z ++ [a0]) (Gp (some b6)) 1 rfl rfl rfl p3 rfl (u24.ext (z2.t z3)) Goes.v (f7.ext z3) (src_own p3 (q := 0) rfl) g12 fun w4 G13 c14 uuq z4 p4 f16 => ?_
 refine So 28 (.tmp 2) (.tmp 11) 0 2 u1s 0 (.slice (Gp G13) ((u1z ++ [a0]).length) c14) [.slice (Gp G13) ((u1z ++ [a0]).length) c14] p4 rfl Goes.s fun w5 z5 p5 => ?_
 refine Hn 2 [] ?_
 have p5 := p5.dp 0
 obtain rfl := sj h
 refine Goes.endR 0 p5 rfl fun w6 z6 p6 => ?_
 exact ⟨S0, G13, (u1z ++ [a0]).length, c14, uuq, rfl, ((((z2.t z3).t z4).t z5).t z6), p6, (f16.ext (z5.t z6)), rfl⟩

def Qmc := Yq 111100 B130
def Js6 := Zl Qmc J3k
def Js7 := Zc Qmc Js6
def Js9 := Zb 1 (Ys 111100111 B130 Js6)
def Jsa := Ys 111100110011 B130 Js9
def Qmj := Yq 111100110010 B130

def Post.z76 (lx0 : Nat) (rx0 : Nat) (u27 : Nat → Value) (u28 : Nat) (u29 : Nat) (uur : Nat) (uus : Option Addr) (uut : Nat) (uuu : Nat) (Epl : ZE) (uuv : T64) (pl : Z) (r : (List ByteArray) × Nat) (v : Value) (w' : World) : Prop :=
 ∃ S' u1v u1w u1x u1y uuw, v = .tuple #[] ∧ Ext S0 w0 S' w' ∧ Hp nz wz S' w' ((some lx0, .obj (lpst 174 (lfr 13 [(2, (pt u28 0)), (6, .func (.func 130) #[] #[(pt u29 0), (pt uur 0)])] u27) #[7] (rfAssign (Q2p)) (rfBody (Q2p)) rx0 .ready none)) :: (some u28, .row 28 [.slice (Gp u1v) u1w u1x] 1 0) :: (u1v, .row 9 u1y (u1x * kStr.size) 0) :: (some u29, .row 119 [(pt uuw 0)] 1 0) :: (some uur, .row 65 (vT64 uuv uus uut uuu) 3 0) :: PL Epl (Lr)) ∧ Els kStr S' w' u1y r.1 ∧ r.1.length = u1w ∧ Pa 126 S' r.2 uuw

def L.z77 (lx0 : Nat) (rx0 : Nat) (u27 : Nat → Value) (u28 : Nat) (u29 : Nat) (uur : Nat) (uus : Option Addr) (uut : Nat) (uuu : Nat) (Epl : ZE) : (List Int) × Int × Int × (List ByteArray) × Nat × T64 × Z → ((List ByteArray) × Nat) → Prop := fun ⟨x25, x26, x27, u2b, u4e, uuv, pl⟩ r => ∀ S1 w1, Ext S0 w0 S1 w1 → ∀ uux uuy uuz uv0 u1v u1w u1x u1y uuw (_ : Hp nz wz S1 w1 ((uux, .row 35 uv0 (uuz * (kInt .u64).size) 0) :: (some lx0, .obj (lpst 174 (lfr 13 [(2, (pt u28 0)), (6, .func (.func 130) #[] #[(pt u29 0), (pt uur 0)])] u27) #[7] (rfAssign (Q2p)) (rfBody (Q2p)) rx0 .ready none)) :: (some u28, .row 28 [.slice (Gp u1v) u1w u1x] 1 0) :: (u1v, .row 9 u1y (u1x * kStr.size) 0) :: (some u29, .row 119 [(pt uuw 0)] 1 0) :: (some uur, .row 65 (vT64 uuv uus uut uuu) 3 0) :: PL Epl (Lr))) (_ : Els (kInt .u64) S1 w1 uv0 x25) (_ : x25.length = uuy) (_ : Els kStr S1 w1 u1y u2b) (_ : u2b.length = u1w) (_ : Pa 126 S1 u4e uuw) (_ : Rd kT64 S1 w1 uus uuu uuv.L) (_ : uuv.L.length = uut) (_ : PS S1 w1 Epl pl) (junk : Nat → Value),
 Goes Tryz.prog (base 130) Js7 ⟨lfr 41 [(0, yieldV lx0), (1, (pt u29 0)), (25, .slice (Gp uux) uuy uuz), (26, .i x26), (27, .i x27)] junk, []⟩ w1 (Done Tryz.prog 130 (Rets (Post.z76 nz wz S0 w0 Lr lx0 rx0 u27 u28 u29 uur uus uut uuu Epl uuv pl r)))

def L.z78 (lx0 : Nat) (rx0 : Nat) (u27 : Nat → Value) (u28 : Nat) (u29 : Nat) (uur : Nat) (uus : Option Addr) (uut : Nat) (uuu : Nat) (Epl : ZE) : (List Int) × Int × Int × Bool × (List ByteArray) × Nat × T64 × Z → ((List ByteArray) × Nat) → Prop := fun ⟨x25, x26, x27, x39, u2b, u4e, uuv, pl⟩ r => ∀ S1 w1, Ext S0 w0 S1 w1 → ∀ uux uuy uuz uv0 u1v u1w u1x u1y uuw (_ : Hp nz wz S1 w1 ((uux, .row 35 uv0 (uuz * (kInt .u64).size) 0) :: (some lx0, .obj (lpst 174 (lfr 13 [(2, (pt u28 0)), (6, .func (.func 130) #[] #[(pt u29 0), (pt uur 0)])] u27) #[7] (rfAssign (Q2p)) (rfBody (Q2p)) rx0 .ready none)) :: (some u28, .row 28 [.slice (Gp u1v) u1w u1x] 1 0) :: (u1v, .row 9 u1y (u1x * kStr.size) 0) :: (some u29, .row 119 [(pt uuw 0)] 1 0) :: (some uur, .row 65 (vT64 uuv uus uut uuu) 3 0) :: PL Epl (Lr))) (_ : Els (kInt .u64) S1 w1 uv0 x25) (_ : x25.length = uuy) (_ : Els kStr S1 w1 u1y u2b) (_ : u2b.length = u1w) (_ : Pa 126 S1 u4e uuw) (_ : Rd kT64 S1 w1 uus uuu uuv.L) (_ : uuv.L.length = uut) (_ : PS S1 w1 Epl pl) (junk : Nat → Value),
 Goes Tryz.prog (base 130) Jsa ⟨lfr 41 [(0, yieldV lx0), (1, (pt u29 0)), (25, .slice (Gp uux) uuy uuz), (26, .i x26), (27, .i x27), (39, .bool x39)] junk, []⟩ w1 (Done Tryz.prog 130 (Rets (Post.z76 nz wz S0 w0 Lr lx0 rx0 u27 u28 u29 uur uus uut uuu Epl uuv pl r)))

theorem W.z79 {nz wz S0 w0 Lr} (lx0 : Nat) (rx0 : Nat) (u27 : Nat → Value) (u28 : Nat) (u29 : Nat) (uur : Nat) (uus : Option Addr) (uut : Nat) (uuu : Nat) (Epl : ZE) : (∀ a r, M.a4z a = some r → (L.z77 nz wz S0 w0 Lr lx0 rx0 u27 u28 u29 uur uus uut uuu Epl) a r) ∧ (∀ a r, M.a69 a = some r → (L.z78 nz wz S0 w0 Lr lx0 rx0 u27 u28 u29 uur uus uut uuu Epl) a r) := by
 refine M.a4z.mutual_partial_correctness (L.z77 nz wz S0 w0 Lr lx0 rx0 u27 u28 u29 uur uus uut uuu Epl) (L.z78 nz wz S0 w0 Lr lx0 rx0 u27 u28 u29 uur uus uut uuu Epl) ?_ ?_
 ·
  intro uv1 uv2 ⟨x25, x26, x27, u2b, u4e, uuv, pl⟩ r h S1 w1 hx uux uuy uuz uv0 u1v u1w u1x u1y uuw p1 uv3 uv4 u2e u2f u4j uv5 uv6 fs7 junk
  try dsimp only at h
  subst uv4
  subst u2f
  subst uv6
  refine Hn 5 (Ys 11110010 B130 (Ys 11110011 B130 Js6)) ?_
  refine Hb [(28, .bool (decide (x27 < x26)))] ?_
  refine Gi h (fun h70 h => ?_) fun h70 h => ?_
  ·
   rw [dt h70]
   refine Hn 6 (Yt 11110011000 B130 [0, 1, 2] (Ys 11110011001 B130 Js9)) ?_
   refine Gg h fun g71 h => ?_
   refine Gg h fun g72 h => ?_
   refine Op_.ixO_n 31 (.tmp 25) (.tmp 27) 29 0 35 .i64 x27 0 x25.length uuz (gi x25 x27) rfl rfl p1 rfl uv3 Goes.v (by kernel_rfl) (by kernel_rfl) (by kernel_rfl) (by kernel_rfl) (by decide) g71 g72 ?_
   rintro b73 _ rfl q75 f74
   obtain rfl := q75
   refine Hd (f74 0 _ rfl) ?_
   refine Hn 5 (Zr Qmj [1, 2, 3, 4, 5, 6, 7, 8] Jsa) ?_
   refine Hd (p1.e 4 0) ?_
   refine Hn 2 (Zr Qmj [4, 5, 6, 7, 8] Jsa) ?_
   obtain ⟨uv7, q78, l79, e80, f81⟩ := Pl.row p1 13 rfl fs7.zh u4j
   obtain ⟨_, _, rfl, q84, ⟨_, _, rfl, q87, ⟨_, _, rfl, q90, ⟨_, _, rfl, q93, ⟨_, _, rfl, rfl, rfl⟩⟩⟩⟩⟩ := q78
   obtain ⟨v82, rfl, f83⟩ := kMp_one (w := w1) q84
   obtain ⟨v85, rfl, f86⟩ := kMp_one (w := w1) q87
   obtain ⟨v88, rfl, f89⟩ := kMp_one (w := w1) q90
   obtain ⟨v91, rfl, f92⟩ := kPp_one (w := w1) q93
   refine Hd (f81 2 _ rfl) ?_
   refine Hn 1 (Zr Qmj [6, 7, 8] Jsa) ?_
   refine Gl h fun uv8 h94 h => ?_
   rcases uv8 with _ | y95
   ·
    try dsimp only at h
    obtain rfl := MpO.nil f89 h94
    refine Hn 1 (Zr Qmj [7, 8] Jsa) ?_
    have p1 := p1.rt 6 10
    have p1 := ((((p1.fr 15).fr 15).fr 15).fr 15).fr 15
    refine Gb h fun y98 e99 h => ?_
    refine Goes.yieldAt (.call { callee := .value (.tmp 31), args := #[(.tmp 37)], argTypes := #[9] }) 38 4 0 lx0 #[.string (⟨#[]⟩ : ByteArray)] p1 rfl (by kernel_rfl) rfl (fun _ => by kernel_rfl) rfl (W.z75 u2b u4e uuv (⟨#[]⟩ : ByteArray) pl y98 e99 _ _ _ _ _ _ _ _ _ _ _ _ _ _ _ p1 u2e rfl u4j uv5 rfl fs7) ?_
    rintro _ w9 ⟨S9, uv9, uva, uvb, uvc, rfl, z9, p9, uvd, rfl⟩
    refine Hn 2 Jsa ?_
    have p9 := p9.fr 15
    exact Gk (uv2 _ _ h _ _ (hx.t z9) (some b73) _ _ _ _ _ _ _ _ p9 (uv3.ext z9) rfl uvd rfl (u4j.ext z9) (uv5.ext z9) rfl (fs7.ext z9))
   ·
    try dsimp only at h
    obtain ⟨g96, rfl, f97⟩ := MpO.got f89 h94
    refine Gl h fun uve uvf h => ?_
    refine Op_.lkM 124 (.tmp 35) (.tmp 36) 37 9 35 9 12 (.string ⟨#[]⟩) (⟨#[]⟩ : ByteArray) (gi x25 x27) uve p1 rfl fs7.zg f97 Goes.v (by kernel_rfl) (by kernel_rfl) (by kernel_rfl) (kok_int (by kernel_rfl)) (by kernel_rfl) rfl uvf fun uvg uvh => ?_
    obtain rfl := one_str uvh
    have p1 := p1.rt 6 10
    have p1 := ((((p1.fr 15).fr 15).fr 15).fr 15).fr 15
    refine Gb h fun uvi uvj h => ?_
    refine Goes.yieldAt (.call { callee := .value (.tmp 31), args := #[(.tmp 37)], argTypes := #[9] }) 38 4 0 lx0 #[.string uve] p1 rfl (by kernel_rfl) rfl (fun _ => by kernel_rfl) rfl (W.z75 u2b u4e uuv uve pl uvi uvj _ _ _ _ _ _ _ _ _ _ _ _ _ _ _ p1 u2e rfl u4j uv5 rfl fs7) ?_
    rintro _ w10 ⟨S10, uvk, uvl, uvm, uvn, rfl, z10, p10, uvo, rfl⟩
    refine Hn 2 Jsa ?_
    have p10 := p10.fr 15
    exact Gk (uv2 _ _ h _ _ (hx.t z10) (some b73) _ _ _ _ _ _ _ _ p10 (uv3.ext z10) rfl uvo rfl (u4j.ext z10) (uv5.ext z10) rfl (fs7.ext z10))
  ·
   rw [df h70]
   refine Hn 2 [] ?_
   obtain rfl := sj h
   have p1 := p1.dp 0
   exact Goes.end_ (fn := Tryz.f130) (by kernel_rfl) (v := .tuple #[]) (by kernel_rfl) ⟨S1, u1v, u2b.length, u1x, u1y, uuw, rfl, hx, p1, u2e, rfl, u4j⟩
 ·
  intro uvp uvq ⟨x25, x26, x27, x39, u2b, u4e, uuv, pl⟩ r h S1 w1 hx uux uuy uuz uv0 u1v u1w u1x u1y uuw p1 uv3 uv4 u2e u2f u4j uv5 uv6 fs7 junk
  try dsimp only at h
  subst uv4
  subst u2f
  subst uv6
  refine Hb [(39, .bool x39)] ?_
  refine Gi h (fun uvr h => ?_) fun uvr h => ?_
  ·
   rw [uvr]
   refine Hn 1 (Ys 1111001100110 B130 Js9) ?_
   obtain rfl := sj h
   have p1 := p1.dp 0
   exact Hr Tryz.f130 ⟨_, _, _, _, _, _, rfl, hx, p1, u2e, rfl, u4j⟩
  ·
   rw [bf uvr]
   refine Hn 8 Js7 ?_
   exact Gk (uvq _ _ h _ _ hx _ _ _ _ _ _ _ _ _ p1 uv3 rfl u2e rfl u4j uv5 rfl fs7)

theorem W.z77 {nz wz S0 w0 Lr} (lx0 : Nat) (rx0 : Nat) (u27 : Nat → Value) (u28 : Nat) (u29 : Nat) (uur : Nat) (uus : Option Addr) (uut : Nat) (uuu : Nat) (Epl : ZE) : ∀ a r, M.a4z a = some r → (L.z77 nz wz S0 w0 Lr lx0 rx0 u27 u28 u29 uur uus uut uuu Epl) a r := (W.z79 lx0 rx0 u27 u28 u29 uur uus uut uuu Epl).1

theorem W.z78 {nz wz S0 w0 Lr} (lx0 : Nat) (rx0 : Nat) (u27 : Nat → Value) (u28 : Nat) (u29 : Nat) (uur : Nat) (uus : Option Addr) (uut : Nat) (uuu : Nat) (Epl : ZE) : ∀ a r, M.a69 a = some r → (L.z78 nz wz S0 w0 Lr lx0 rx0 u27 u28 u29 uur uus uut uuu Epl) a r := (W.z79 lx0 rx0 u27 u28 u29 uur uus uut uuu Epl).2

def Jsk := Ys 11 B130 []

def L.z7a (lx0 : Nat) (rx0 : Nat) (u27 : Nat → Value) (u28 : Nat) (u29 : Nat) (uur : Nat) (uus : Option Addr) (uut : Nat) (uuu : Nat) (Epl : ZE) : (List Int) × (List ByteArray) × Nat × T64 × Z → ((List ByteArray) × Nat) → Prop := fun ⟨x4, u2b, u4e, uuv, pl⟩ r => ∀ S1 w1, Ext S0 w0 S1 w1 → ∀ Gx4 nx4 cx4 uvt u1v u1w u1x u1y uuw (_ : Hp nz wz S1 w1 ((Gx4, .row 35 uvt (cx4 * (kInt .u64).size) 0) :: (some lx0, .obj (lpst 174 (lfr 13 [(2, (pt u28 0)), (6, .func (.func 130) #[] #[(pt u29 0), (pt uur 0)])] u27) #[7] (rfAssign (Q2p)) (rfBody (Q2p)) rx0 .ready none)) :: (some u28, .row 28 [.slice (Gp u1v) u1w u1x] 1 0) :: (u1v, .row 9 u1y (u1x * kStr.size) 0) :: (some u29, .row 119 [(pt uuw 0)] 1 0) :: (some uur, .row 65 (vT64 uuv uus uut uuu) 3 0) :: PL Epl (Lr))) (_ : Els (kInt .u64) S1 w1 uvt x4) (_ : x4.length = nx4) (_ : Els kStr S1 w1 u1y u2b) (_ : u2b.length = u1w) (_ : Pa 126 S1 u4e uuw) (_ : Rd kT64 S1 w1 uus uuu uuv.L) (_ : uuv.L.length = uut) (_ : PS S1 w1 Epl pl) (junk : Nat → Value),
 Goes Tryz.prog (base 130) Jsk ⟨lfr 41 [(0, yieldV lx0), (1, (pt u29 0)), (2, (pt uur 0)), (4, .slice (Gp Gx4) nx4 cx4)] junk, []⟩ w1 (Done Tryz.prog 130 (Rets (Post.z76 nz wz S0 w0 Lr lx0 rx0 u27 u28 u29 uur uus uut uuu Epl uuv pl r)))

theorem W.z7a {nz wz S0 w0 Lr} (lx0 : Nat) (rx0 : Nat) (u27 : Nat → Value) (u28 : Nat) (u29 : Nat) (uur : Nat) (uus : Option Addr) (uut : Nat) (uuu : Nat) (Epl : ZE) : ∀ a r, M.a6a a = some r → L.z7a nz wz S0 w0 Lr lx0 rx0 u27 u28 u29 uur uus uut uuu Epl a r := by
 intro ⟨x4, u2b, u4e, uuv, pl⟩ r h S1 w1 hx Gx4 nx4 cx4 uvt u1v u1w u1x u1y uuw p1 fx4 lx4 u2e u2f u4j uv5 uv6 fs7 junk
 rw [M.a6a] at h
 try dsimp only at h
 subst lx4
 subst u2f
 subst uv6
 refine Hn 1 (Ys 110 B130 (Ys 111 B130 [])) ?_
 obtain ⟨uvu, q48, l49, e50, f51⟩ := Pl.row p1 13 rfl fs7.zh u4j
 obtain ⟨_, _, rfl, q54, ⟨_, _, rfl, q57, ⟨_, _, rfl, q60, ⟨_, _, rfl, q63, ⟨_, _, rfl, rfl, rfl⟩⟩⟩⟩⟩ := q48
 obtain ⟨v52, rfl, f53⟩ := kMp_one (w := w1) q54
 obtain ⟨v55, rfl, f56⟩ := kMp_one (w := w1) q57
 obtain ⟨v58, rfl, f59⟩ := kMp_one (w := w1) q60
 obtain ⟨v61, rfl, f62⟩ := kPp_one (w := w1) q63
 have z6 : Ext S1 w1 S1 (w1).drew := Ext.draw
 have p6 := p1.draw
 refine Gd [6] (Fc S1 (w1).drew [(⟨uur, 0, none⟩, .i uuv.Op), (⟨uur, 1, none⟩, .string uuv.Text), (⟨uur, 2, none⟩, .slice uus uuv.L.length uuu), (⟨u29, 0, none⟩, (pt uuw 0)), (⟨uuw, 3, none⟩, v61)]) 1 12 ?_
 generalize (w1).drew = w6 at z6 p6 ⊢
 refine AnyG.ldN (i := 0) 65 (.tmp 2) 16 65 ⟨uur, 0, none⟩ (vT64 uuv uus uuv.L.length uuu) (by kernel_rfl) (by kernel_rfl) (Fc.here ⟨(p6.c 5 0), (p6.c 5 1), (p6.c 5 2), (p6.c 4 0), (p6.poolCell 13 rfl e50 3 _ rfl), trivial⟩) (by kernel_rfl) (by kernel_rfl) (by kernel_rfl) (fun _ h j v hj => by match j, hj with | 0, rfl => exact h.2.at_ 0 rfl | 1, rfl => exact h.2.at_ 1 rfl | 2, rfl => exact h.2.at_ 2 rfl | (j + 3), hj => simp at hj) ?_
 refine Hl 1 (Fc.here ⟨(p6.c 5 0), (p6.c 5 1), (p6.c 5 2), (p6.c 4 0), (p6.poolCell 13 rfl e50 3 _ rfl), trivial⟩) (fun _ h => h.2.at_ 3 rfl) ?_
 refine Hq [2, 3] 2 (Fc.here ⟨(p6.c 5 0), (p6.c 5 1), (p6.c 5 2), (p6.c 4 0), (p6.poolCell 13 rfl e50 3 _ rfl), trivial⟩) ?_
 refine Hl 4 (Fc.here ⟨(p6.c 5 0), (p6.c 5 1), (p6.c 5 2), (p6.c 4 0), (p6.poolCell 13 rfl e50 3 _ rfl), trivial⟩) (fun _ h => h.2.at_ 4 rfl) ?_
 refine Hq [5] 1 (Fc.here ⟨(p6.c 5 0), (p6.c 5 1), (p6.c 5 2), (p6.c 4 0), (p6.poolCell 13 rfl e50 3 _ rfl), trivial⟩) ?_
 obtain ⟨S7, z7, p7, f64⟩ := p6.freezeRd 0 rfl (fx4.ext z6) (by decide)
 refine AnyG.refz z7 ?_
 have p7 := p7.rt 6 10
 refine Gb h fun y65 e66 h => ?_
 refine Oc (kc 132 [16, 20, 21] #[65, 125, 31]) 22 166 132 #[(ag (vT64 uuv uus uuv.L.length uuu)), v61, .slice (Gp Gx4) x4.length cx4] (Ac 6) (W.z73 uuv ((gn pl.zh u4e).grams) x4 pl y65 e66 _ _ _ _ _ _ _ _ p7 (uv5.ext (z6.t z7)) rfl (f62.ext (z6.t z7)) f64 rfl (fs7.ext (z6.t z7))) ?_
 rintro _ w8 ⟨S8, u13, u14, u15, u16, rfl, z8, p8, u17, rfl⟩
 refine AnyG.last [] (Fc S8 w8 []) (by decide) ?_
 refine Hq [7, 8, 9, 10, 11] 5 (Fc.here trivial) ?_
 refine Ad ?_
 have p8 := p8.dp 11
 refine Hn 8 Js7 ?_
 have p8 := p8.rt 1 10
 have p8 := (((((p8.fr 15).fr 15).fr 15).fr 15).fr 15).fr 15
 exact Gk (W.z77 lx0 rx0 u27 u28 u29 uur uus uuv.L.length uuu Epl _ _ h _ _ (((hx.t z6).t z7).t z8) _ _ _ _ _ _ _ _ _ p8 u17 rfl (u2e.ext ((z6.t z7).t z8)) rfl (u4j.ext ((z6.t z7).t z8)) (uv5.ext ((z6.t z7).t z8)) rfl (fs7.ext ((z6.t z7).t z8)))

def Post.z7b (Epl : ZE) (pl : Z) (r : Nat) (v : Value) (w' : World) : Prop :=
 ∃ S' u1r uo1, v = .func (.func 186) #[] #[(pt u1r 0)] ∧ Ext S0 w0 S' w' ∧ Hp nz wz S' w' ((some u1r, .row 124 [.map (some uo1)] 1 0) :: PL Epl (Lr)) ∧ Pa 124 S' r uo1

theorem W.z7b (x0 : Nat) (pl : Z) (r : Nat) (h : M.a7w x0 pl = some r) {nz wz S0 w0 Lr} (gx0 Epl) (p0 : Hp nz wz S0 w0 (PL Epl (Lr))) (fx0 : Pa 124 S0 x0 gx0) (fpl : PS S0 w0 Epl pl) :
  Calls Tryz.prog 131 #[.map (some gx0)] w0 (Rets (Post.z7b nz wz S0 w0 Lr Epl pl r)) := by
 refine Zf Tryz.f131 B131 3 ?_
 refine Gj 4 [(0, .map (some gx0))] fun junk => ?_
 delta M.a7w at h
 refine Hn 2 Jq0 ?_
 refine Ob 124 (.tmp 0) 1 0 (.map (some gx0)) [.map (some gx0)] p0 Goes.v fun b1 w2 z2 p2 => ?_
 refine Hn 7 Jq1 ?_
 obtain rfl := sj h
 exact Hr Tryz.f131 ⟨_, _, _, rfl, z2, p2, (fx0.ext z2)⟩

def Post.z7c (lk : Nat) (rk : Nat) (jkk : Nat → Value) (u1s : Nat) (u1t : Nat) (uo2 : Nat) (Epl : ZE) (u1u : Nat) (pl : Z) (r : List Int) (v : Value) (w' : World) : Prop :=
 ∃ S' u1v u1w u1x u1y, v = .bool true ∧ Ext S0 w0 S' w' ∧ Hp nz wz S' w' ((some lk, .obj (lpst 192 (lfr 13 [(2, (pt u1s 0)), (6, .func (.func 186) #[] #[(pt u1t 0)])] jkk) #[7] (rfAssign (Q8a)) (rfBody (Q8a)) rk .ready none)) :: (some u1s, .row 31 [.slice (Gp u1v) u1w u1x] 1 0) :: (u1v, .row 35 u1y (u1x * (kInt .u64).size) 0) :: (some u1t, .row 124 [.map (some uo2)] 1 0) :: PL Epl (Lr)) ∧ Els (kInt .u64) S' w' u1y r ∧ r.length = u1w

theorem W.z7c (u1z : List Int) (u1u : Nat) (a0 : Int) (pl : Z) (r : List Int) (h : M.a6b u1z u1u a0 pl = some r) {nz wz S0 w0 Lr} (lk rk jkk u1s u20 u21 u22 u23 u1t uo2 Epl) (p0 : Hp nz wz S0 w0 ((some lk, .obj (lpst 192 (lfr 13 [(2, (pt u1s 0)), (6, .func (.func 186) #[] #[(pt u1t 0)])] jkk) #[7] (rfAssign (Q8a)) (rfBody (Q8a)) rk .ready none)) :: (some u1s, .row 31 [.slice (Gp u20) u21 u22] 1 0) :: (u20, .row 35 u23 (u22 * (kInt .u64).size) 0) :: (some u1t, .row 124 [.map (some uo2)] 1 0) :: PL Epl (Lr))) (u24 : Els (kInt .u64) S0 w0 u23 u1z) (u25 : u1z.length = u21) (uo3 : Pa 124 S0 u1u uo2) (fpl : PS S0 w0 Epl pl) :
  Goes Tryz.prog (rbase 192 lk) [.code (rfAssign (Q8a)), .beginRound, .code (rfBody (Q8a))] ⟨setp (lfr 13 [(2, (pt u1s 0)), (6, .func (.func 186) #[] #[(pt u1t 0)])] jkk) #[7] #[.u a0], []⟩ w0 (DoneR (Post.z7c nz wz S0 w0 Lr lk rk jkk u1s u1t uo2 Epl u1u pl r)) := by
 subst u25
 refine Gj 13 [(2, (pt u1s 0)), (6, .func (.func 186) #[] #[(pt u1t 0)]), (7, .u a0)] fun junk => ?_
 delta M.a6b at h
 refine Hn 3 [.beginRound, .code (Qfp)] ?_
 refine Goes.beginR 0 rfl p0 rfl fun w2 z2 p2 => ?_
 refine Hn 2 Jjj ?_
 refine Hd (p2.e 1 0) ?_
 refine Hn 1 Jjk ?_
 have f6 : Els (kInt .u64) S0 w2 ([.u a0] : List Value) [a0] := by exact (Els.cons (K := (kInt .u64)) (vs := [.u a0]) (x := a0) rfl Els.nil)
 refine Om (.buildSlice 31 1 #[(0, (.tmp 9))]) 10 31 (fun b => .slice (Gp (some b)) 1 1) 35 ([.u a0] : List Value) (1 * (kInt .u64).size) p2 Goes.v fun b5 w3 z3 p3 => ?_
 refine Gg h fun g11 h => ?_
 refine On (K := (kInt .u64)) 31 (.tmp 8) (.tmp 10) 11 31 35 3 (.u 0) 8 u1z.length u22 1 u1z [a0] (u1z ++ [a0]) (Gp (some b5)) 1 rfl rfl rfl p3 rfl (u24.ext (z2.t z3)) Goes.v (f6.ext z3) (src_own p3 (q := 0) rfl) g11 fun w4 G12 c13 u26 z4 p4 f15 => ?_
 refine So 31 (.tmp 2) (.tmp 11) 0 2 u1s 0 (.slice (Gp G12) ((u1z ++ [a0]).length) c13) [.slice (Gp G12) ((u1z ++ [a0]).length) c13] p4 rfl Goes.s fun w5 z5 p5 => ?_
 refine Hn 2 [] ?_
 have p5 := p5.dp 0
 obtain rfl := sj h
 refine Goes.endR 0 p5 rfl fun w6 z6 p6 => ?_
 exact ⟨S0, G12, (u1z ++ [a0]).length, c13, u26, rfl, ((((z2.t z3).t z4).t z5).t z6), p6, (f15.ext (z5.t z6)), rfl⟩

def Jsn := Zb 1 Jq2

def Post.z7d (lx0 : Nat) (rx0 : Nat) (u27 : Nat → Value) (u28 : Nat) (u29 : Nat) (uo4 : Nat) (Epl : ZE) (u2a : Nat) (pl : Z) (r : List Int) (v : Value) (w' : World) : Prop :=
 ∃ S' u1v u1w u1x u1y, v = .tuple #[] ∧ Ext S0 w0 S' w' ∧ Hp nz wz S' w' ((some lx0, .obj (lpst 192 (lfr 13 [(2, (pt u28 0)), (6, .func (.func 186) #[] #[(pt u29 0)])] u27) #[7] (rfAssign (Q8a)) (rfBody (Q8a)) rx0 .ready none)) :: (some u28, .row 31 [.slice (Gp u1v) u1w u1x] 1 0) :: (u1v, .row 35 u1y (u1x * (kInt .u64).size) 0) :: (some u29, .row 124 [.map (some uo4)] 1 0) :: PL Epl (Lr)) ∧ Els (kInt .u64) S' w' u1y r ∧ r.length = u1w

def L.z7e (lx0 : Nat) (rx0 : Nat) (u27 : Nat → Value) (u28 : Nat) (u29 : Nat) (uo4 : Nat) (Epl : ZE) : Nat × (List (Int × ByteArray)) × (List Int) × Nat × Z → (List Int) → Prop := fun ⟨x5i, x5, u2b, u2a, pl⟩ r => ∀ S1 w1, Ext S0 w0 S1 w1 → ∀ gx5 uo5 uo6 uo7 uo8 u1v u1w u1x u1y (_ : Hp nz wz S1 w1 ((some gx5, .obj (.mapIter (some uo5) uo7 uo8 uo7)) :: (some lx0, .obj (lpst 192 (lfr 13 [(2, (pt u28 0)), (6, .func (.func 186) #[] #[(pt u29 0)])] u27) #[7] (rfAssign (Q8a)) (rfBody (Q8a)) rx0 .ready none)) :: (some u28, .row 31 [.slice (Gp u1v) u1w u1x] 1 0) :: (u1v, .row 35 u1y (u1x * (kInt .u64).size) 0) :: (some u29, .row 124 [.map (some uo4)] 1 0) :: PL Epl (Lr))) (_ : It (Value.int .u64) kStr S1 w1 uo6 uo7 uo8 x5) (_ : Els (kInt .u64) S1 w1 u1y u2b) (_ : u2b.length = u1w) (_ : Pa 124 S1 u2a uo4) (_ : PS S1 w1 Epl pl) (_ : Epl.zg[x5i]? = some (uo5, .map uo6 uo7)) (junk : Nat → Value),
 Goes Tryz.prog (base 186) Jq3 ⟨lfr 14 [(0, yieldV lx0), (5, (pt gx5 0))] junk, []⟩ w1 (Done Tryz.prog 186 (Rets (PermP (Post.z7d nz wz S0 w0 Lr lx0 rx0 u27 u28 u29 uo4 Epl u2a pl) r)))

theorem W.z7e {nz wz S0 w0 Lr} (lx0 : Nat) (rx0 : Nat) (u27 : Nat → Value) (u28 : Nat) (u29 : Nat) (uo4 : Nat) (Epl : ZE) : ∀ a r, M.aa a = some r → L.z7e nz wz S0 w0 Lr lx0 rx0 u27 u28 u29 uo4 Epl a r := by
 have main : ∀ n a r, List.length a.2.1 = n → M.aa a = some r → L.z7e nz wz S0 w0 Lr lx0 rx0 u27 u28 u29 uo4 Epl a r := by
  intro n
  induction n using Nat.strongRecOn with
  | _ n ih0 =>
  have uvv : ∀ a r, List.length a.2.1 < n → M.aa a = some r → L.z7e nz wz S0 w0 Lr lx0 rx0 u27 u28 u29 uo4 Epl a r := fun a r hl h => ih0 _ hl a r rfl h
  intro ⟨x5i, x5, u2b, u2a, pl⟩ r hn h S1 w1 hx gx5 uo5 uo6 uo7 uo8 u1v u1w u1x u1y p1 fx5 u2e u2f uoa fs4 hx5 junk
  try dsimp only at hn
  subst u2f
  refine Hn 2 Jq5 ?_
  skip
  refine Op_.nxM (.tmp 5) 6 0 0 gx5 p1 rfl (p1.poolGet 11 rfl hx5) fx5 Goes.v (by kernel_rfl) ?_ ?_
  ·
   intro e23; subst e23; rw [M.aa] at h; try dsimp only at h
   refine Hn 5 [] ?_
   obtain rfl := sj h
   have p1 := p1.dp 0
   exact Goes.end_ (fn := Tryz.f186) (by kernel_rfl) (v := .tuple #[]) (by kernel_rfl) ⟨_, List.Perm.refl _, ⟨S1, u1v, u2b.length, u1x, u1y, rfl, hx, p1, u2e, rfl⟩⟩
  ·
   intro j15 l16 v17 b18 w3 z3 p3 f19 m20 f21
   obtain ⟨rn, hn2, qn⟩ := O.maps_Keys_map_uint64_string_uint64_string_1_2_l0 x5i u2b u2a pl _ _ r (pick_perm x5 j15 l16) h; refine Goes.monoP qn ?_; clear h; have h := hn2; clear hn2; rw [M.aa] at h; try dsimp only at h
   have l22 : (List.eraseIdx x5 j15).length < x5.length := by rw [List.length_eraseIdx_of_lt l16]; omega
   generalize List.eraseIdx x5 j15 = uob at h f19 l22
   generalize x5[j15]'(by exact l16) = uoc at h m20 f21
   obtain rfl := one_str f21
   refine Hn 8 (Yt 11001100 B186 [0, 1, 2] (Ys 11001101 B186 Jsn)) ?_
   refine Op_.enM (.tmp 5) 8 0 0 gx5 p3 rfl (p3.poolGet 11 rfl hx5) f19.nd m20 Goes.v (by kernel_rfl) ?_
   refine Hn 7 (Yt 110011010 B186 [2, 3] (Ys 110011011 B186 Jsn)) ?_
   have p3 := p3.rt 5 10
   have p3 := (((p3.fr 14).fr 14).fr 14).fr 14
   refine Gb h fun y24 e25 h => ?_
   refine Goes.yieldAt (.call { callee := .value (.tmp 10), args := #[(.tmp 11)], argTypes := #[35] }) 12 4 0 lx0 #[.u uoc.1] p3 rfl (by kernel_rfl) rfl (fun _ => by kernel_rfl) rfl (W.z7c u2b u2a uoc.1 pl y24 e25 _ _ _ _ _ _ _ _ _ _ _ p3 (u2e.ext z3) rfl (uoa.ext z3) (fs4.ext z3)) ?_
   rintro _ w4 ⟨S4, u2v, u2w, u2x, u2y, rfl, z4, p4, u2z, rfl⟩
   refine Hn 6 Jq3 ?_
   have p4 := p4.fr 14
   exact Gk (uvv _ _ (Nat.lt_of_lt_of_eq l22 hn) h _ _ ((hx.t z3).t z4) _ _ _ _ _ _ _ _ _ p4 (f19.ext z4) u2z rfl (uoa.ext (z3.t z4)) (fs4.ext (z3.t z4)) hx5)
 exact fun a r h => main _ a r rfl h

theorem W.z7d (u2l : List Int) (u2a : Nat) (pl : Z) (r : List Int) (h : M.a7x u2l u2a pl = some r) {nz wz S0 w0 Lr} (lx0 rx0 u27 u28 u2m u2n u2o u2p u29 uo4 Epl) (p0 : Hp nz wz S0 w0 ((some lx0, .obj (lpst 192 (lfr 13 [(2, (pt u28 0)), (6, .func (.func 186) #[] #[(pt u29 0)])] u27) #[7] (rfAssign (Q8a)) (rfBody (Q8a)) rx0 .ready none)) :: (some u28, .row 31 [.slice (Gp u2m) u2n u2o] 1 0) :: (u2m, .row 35 u2p (u2o * (kInt .u64).size) 0) :: (some u29, .row 124 [.map (some uo4)] 1 0) :: PL Epl (Lr))) (u2q : Els (kInt .u64) S0 w0 u2p u2l) (u2r : u2l.length = u2n) (uod : Pa 124 S0 u2a uo4) (fpl : PS S0 w0 Epl pl) :
  Calls Tryz.prog 186 #[yieldV lx0, (pt u29 0)] w0 (Rets (PermP (Post.z7d nz wz S0 w0 Lr lx0 rx0 u27 u28 u29 uo4 Epl u2a pl) r)) := by
 subst u2r
 refine Zf Tryz.f186 B186 12 ?_
 refine Gj 14 [(0, yieldV lx0), (1, (pt u29 0))] fun junk => ?_
 delta M.a7x at h
 refine Hn 2 Jq7 ?_
 refine Hd (p0.e 3 0) ?_
 refine Op_.rgM 124 (.tmp 4) 5 0 35 9 10 p0 rfl fpl.zg uod Goes.v (by kernel_rfl) (by kernel_rfl) fun r5 w2 es6 ck7 z2 p2 e9 f8 => ?_
 refine Hn 3 Jq3 ?_
 exact Gk (W.z7e lx0 rx0 u27 u28 u29 uo4 Epl _ _ h _ _ z2 _ _ _ _ _ _ _ _ _ p2 f8 (u2q.ext z2) rfl (uod.ext z2) (fpl.ext z2) e9)

def Post.z7f (u2s : Nat) (uoe : Nat) (Epl : ZE) (u2t : Nat) (pl : Z) (r : List Int) (v : Value) (w' : World) : Prop :=
 ∃ S' Gq nq cq csq, v = .slice (Gp Gq) nq cq ∧ Ext S0 w0 S' w' ∧ Hp nz wz S' w' ((Gq, .row 35 csq (cq * (kInt .u64).size) 0) :: (some u2s, .row 124 [.map (some uoe)] 1 0) :: PL Epl (Lr)) ∧ Els (kInt .u64) S' w' csq r ∧ r.length = nq

theorem W.z7f (u2t : Nat) (pl : Z) (r : List Int) (h : M.a7y u2t pl = some r) {nz wz S0 w0 Lr} (u2s uoe Epl) (p0 : Hp nz wz S0 w0 ((some u2s, .row 124 [.map (some uoe)] 1 0) :: PL Epl (Lr))) (uof : Pa 124 S0 u2t uoe) (fpl : PS S0 w0 Epl pl) :
  Calls Tryz.prog 192 #[.slice none 0 0, .func (.func 186) #[] #[(pt u2s 0)]] w0 (Rets (PermP (Post.z7f nz wz S0 w0 Lr u2s uoe Epl u2t pl) r)) := by
 refine Zf Tryz.f192 B192 11 ?_
 refine Gj 13 [(0, .slice none 0 0), (1, .func (.func 186) #[] #[(pt u2s 0)])] fun junk => ?_
 delta M.a7y at h
 refine Hn 2 Jal ?_
 refine Ob 31 (.tmp 0) 2 0 (.slice none 0 0) [.slice none 0 0] p0 Goes.v fun b2 w2 z2 p2 => ?_
 refine Hn 8 Jao ?_
 refine Gj 13 [(2, (pt b2 0)), (6, .func (.func 186) #[] #[(pt u2s 0)])] (fun u2u => ?_)
 refine Goes.rangeF (f := 192) (.tmp 6) #[7] 186 #[] #[(pt u2s 0)] (by kernel_rfl) (by kernel_rfl) (fun _ => by kernel_rfl) p2 fun r5 l6 w3 z3 p3 => ?_
 have p3 : Hp nz wz S0 w3 ((none, .row 35 [] (0 * (kInt .u64).size) 0) :: (some l6, .obj (lpst 192 (lfr 13 [(2, (pt b2 0)), (6, .func (.func 186) #[] #[(pt u2s 0)])] u2u) #[7] (rfAssign (Q8a)) (rfBody (Q8a)) r5 .ready none)) :: (some r5, .obj (.deferred (some []))) :: (some b2, .row 31 [.slice none 0 0] 1 0) :: (some u2s, .row 124 [.map (some uoe)] 1 0) :: PL Epl (Lr)) := p3.nilRow' 35
 have p3 := p3.rt 5 10
 have p3 := (((p3.fr 14).fr 11).fr 14).fr 13
 refine Gb h fun y10 e11 h => ?_
 refine ⟨_, W.z7d ([] : List Int) u2t pl y10 e11 _ _ _ _ none 0 0 [] _ _ _ p3 (Els.nil (K := (kInt .u64))) rfl (uof.ext (z2.t z3)) (fpl.ext (z2.t z3)), ?_⟩
 rintro _ w4 ⟨uog, uoh, S4, u2v, u2w, u2x, u2y, rfl, z4, p4, u2z, rfl⟩
 refine Goes.endF 0 p4 rfl rfl fun w5 z5 p5 => ?_
 replace p5 : Hp nz wz S4 w5 ((some b2, .row 31 [.slice (Gp u2v) uog.length u2x] 1 0) :: (u2v, .row 35 u2y (u2x * (kInt .u64).size) 0) :: (some u2s, .row 124 [.map (some uoe)] 1 0) :: PL Epl ((some r5, .obj (.deferred (some []))) :: Lr)) := (p5.front 0 _ rfl).drop
 show Goes _ _ Jan _ _ _
 refine Hn 3 Jaq ?_
 refine Hd (p5.e 0 0) ?_
 refine Hn 2 Jap ?_
 obtain rfl := sj h
 have p5 := p5.dp 0
 have p5 := p5.fr 12
 refine Goes.retL ?_
 refine lvs_mark 0 rfl rfl p5 rfl fun w6 z6 p6 => ?_
 replace p6 : Hp nz wz S4 w6 ((u2v, .row 35 u2y (u2x * (kInt .u64).size) 0) :: (some u2s, .row 124 [.map (some uoe)] 1 0) :: PL Epl (Lr)) := p6.drop
 exact lvs_done (fn := Tryz.f192) rfl rfl rfl rfl (by kernel_rfl) (v := .slice (Gp u2v) uog.length u2x) (by kernel_rfl) ⟨_, uoh, ⟨S4, u2v, uog.length, u2x, u2y, rfl, ((((z2.t z3).t z4).t z5).t z6), p6, (u2z.ext (z5.t z6)), rfl⟩⟩

def Post.z7g (u30 : Nat) (uoi : Nat) (Epl : ZE) (u31 : Nat) (pl : Z) (r : List Int) (v : Value) (w' : World) : Prop :=
 ∃ S' Gq nq cq csq, v = .slice (Gp Gq) nq cq ∧ Ext S0 w0 S' w' ∧ Hp nz wz S' w' ((Gq, .row 35 csq (cq * (kInt .u64).size) 0) :: (some u30, .row 124 [.map (some uoi)] 1 0) :: PL Epl (Lr)) ∧ Els (kInt .u64) S' w' csq r ∧ r.length = nq

theorem W.z7g (u31 : Nat) (pl : Z) (r : List Int) (h : M.a7z u31 pl = some r) {nz wz S0 w0 Lr} (u30 uoi Epl) (p0 : Hp nz wz S0 w0 ((some u30, .row 124 [.map (some uoi)] 1 0) :: PL Epl (Lr))) (uoj : Pa 124 S0 u31 uoi) (fpl : PS S0 w0 Epl pl) :
  Calls Tryz.prog 137 #[.func (.func 186) #[] #[(pt u30 0)]] w0 (Rets (PermP (Post.z7g nz wz S0 w0 Lr u30 uoi Epl u31 pl) r)) := by
 refine Zf Tryz.f137 B137 4 ?_
 refine Gj 5 [(0, .func (.func 186) #[] #[(pt u30 0)])] fun junk => ?_
 delta M.a7z at h
 refine Hn 7 Jas ?_
 refine Gb h fun y2 e3 h => ?_
 refine Gc (.call { callee := .value (.func 192), args := #[(.const (.slice none 0 0)), (.tmp 3)], argTypes := #[31, 141] }) 4 31 192 _ (W.z7f u31 pl y2 e3 _ _ _ p0 uoj fpl) ?_
 rintro _ w2 ⟨y2n, qy2, S2, ul, um, un, uo, rfl, z2, p2, up, rfl⟩
 refine Hn 2 Jar ?_
 obtain rfl := sj h
 exact Hr Tryz.f137 ⟨_, qy2, ⟨_, _, _, _, _, rfl, z2, p2, up, rfl⟩⟩

def Post.z7h (u30 : Nat) (uoi : Nat) (Epl : ZE) (u31 : Nat) (pl : Z) (r : List Int) (v : Value) (w' : World) : Prop :=
 ∃ S' Gq nq cq csq, v = .slice (Gp Gq) nq cq ∧ Ext S0 w0 S' w' ∧ Hp nz wz S' w' ((Gq, .row 35 csq (cq * (kInt .u64).size) 0) :: (some u30, .row 124 [.map (some uoi)] 1 0) :: PL Epl (Lr)) ∧ Els (kInt .u64) S' w' csq r ∧ r.length = nq

theorem W.z7h (u31 : Nat) (pl : Z) (r : List Int) (h : M.a80 u31 pl = some r) {nz wz S0 w0 Lr} (u30 uoi Epl) (p0 : Hp nz wz S0 w0 ((some u30, .row 124 [.map (some uoi)] 1 0) :: PL Epl (Lr))) (uoj : Pa 124 S0 u31 uoi) (fpl : PS S0 w0 Epl pl) :
  Calls Tryz.prog 79 #[.func (.func 186) #[] #[(pt u30 0)]] w0 (Rets (Post.z7h nz wz S0 w0 Lr u30 uoi Epl u31 pl r)) := by
 refine Zf Tryz.f79 B79 8 ?_
 refine Gj 9 [(0, .func (.func 186) #[] #[(pt u30 0)])] fun junk => ?_
 delta M.a80 at h
 refine Hn 7 Jjf ?_
 refine Gb h fun y2 e3 h => ?_
 refine Gc (kc 137 [4] #[141]) 5 31 137 _ (W.z7g u31 pl y2 e3 _ _ _ p0 uoj fpl) ?_
 rintro _ w2 ⟨y2n, qy2, S2, ul, um, un, uo, rfl, z2, p2, up, rfl⟩
 refine Hn 5 Jjh ?_
 refine Gb h fun y5 e6 h => ?_
 replace e6 := O.slices_Sort_uint64_uint64 qy2 e6
 refine Gc (kc 138 [6] #[31]) 7 0 138 _ (W.z48 y2n y5 e6 _ _ _ _ p2 up rfl) ?_
 rintro _ w3 ⟨S3, un3, rfl, z3, p3, uev, un4⟩
 refine Hn 6 Jji ?_
 obtain rfl := sj h
 exact Hr Tryz.f79 ⟨_, _, _, _, _, rfl, (z2.t z3), p3, uev, un4⟩

end

end Go.Gx
