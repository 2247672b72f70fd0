import Derived.Test.YtemokppdnkiejaaGreatWSFb

set_option linter.unusedVariables false

set_option maxRecDepth 100000

set_option maxHeartbeats 4000000

namespace Go.Gx

open Go.RowKit Go.Proofs

variable (nz : Nat) (wz : World) (S0 : Fz) (w0 : World) (Lr : List Ent)

noncomputable section

def Jgc := Zs [1, 1, 1, 1] B98 []
def Jgd := Zb 0 Jgc
def Jge := Zs [1, 1, 1, 0, 0, 1, 1, 1, 1, 1, 1, 1] B98 Jgd
def Jgf := Zs [1, 1, 1, 0, 0, 1, 1, 1, 1, 1, 1, 1, 0, 1] B98 Jgd
def Jgg := Zt [1, 1, 1, 0, 0, 1, 1, 1, 1, 1, 1, 1, 0, 0] B98 [4, 5] Jgf
def Jgh := Zs [1, 1, 1, 0, 0, 1, 1, 1, 1, 1, 1, 1, 0, 1, 1] B98 Jgd
def Jgi := Zt [1, 1, 1, 0, 0, 1, 1, 1, 1, 1, 1, 1, 0, 1, 0] B98 [1] Jgh
def Jgj := Zs [1, 1, 1, 1, 1] B98 []
def Qbo := sub [1, 1, 1, 1, 0] B98
def Jgk := Zr Qbo [3, 4, 5, 6, 7] Jgj
def Jgl := Zr Qbo [7] Jgj
def Jgm := Zs [1, 1, 1, 1, 1, 1] B98 []
def Jgn := Zt [1, 1, 1, 1, 1, 0] B98 [1, 2] Jgm

def Post.z2g (gx0 : Nat) (r : T142 × T78) (v : Value) (w' : World) : Prop :=
 ∃ S' ud8, v = (ag (U4 r.1.set_ [.int .u8 r.1.b, .bool r.1.single])) ∧ Ext S0 w0 S' w' ∧ Hp nz wz S' w' ((some gx0, .row 79 [.string r.2.s, .i r.2.at_, .i r.2.deep, ud8] 4 0) :: Lr) ∧ r.1.set_.length = 4 ∧ PtO kT82 S' w' ud8 r.2.bad

def L.z2h (gx0 : Nat) : T142 × Int × Bool × T78 → (T142 × T78) → Prop := fun ⟨x2v, x3, x66, e0v⟩ r => ∀ S1 w1, Ext S0 w0 S1 w1 → ∀ gx2 ud8 (_ : Hp nz wz S1 w1 ((some gx2, .row 143 (U4 x2v.set_ [.int .u8 x2v.b, .bool x2v.single]) 6 0) :: (some gx0, .row 79 [.string e0v.s, .i e0v.at_, .i e0v.deep, ud8] 4 0) :: Lr)) (_ : x2v.set_.length = 4) (_ : PtO kT82 S1 w1 ud8 e0v.bad) (junk : Nat → Value),
 Goes Tryz.prog (base 98) Jge ⟨lfr 90 [(0, (pt gx0 0)), (2, (pt gx2 0)), (3, .int .u8 x3), (66, .bool x66)] junk, []⟩ w1 (Done Tryz.prog 98 (Rets (Post.z2g nz wz S0 w0 Lr gx0 r)))

theorem W.z2h {nz wz S0 w0 Lr} (gx0 : Nat) : ∀ a r, M.syntax_parser_escape_l0 a = some r → L.z2h nz wz S0 w0 Lr gx0 a r := by
 intro ⟨x2v, x3, x66, e0v⟩ r h S1 w1 hx gx2 ud8 p1 udl ud9 junk
 rw [M.syntax_parser_escape_l0] at h
 try dsimp only at h
 refine ite_some h (fun h30 h => ?_) (fun h30 h => ?_)
 ·
  rw [h30]
  refine Gn 7 [(74, (pt gx0 0)), (75, (pt gx0 0)), (76, (pt gx0 0)), (77, (pt gx0 1))] Jgg ?_
  refine Goes.ld 3 (.tmp 77) 78 3 ⟨gx0, 1, none⟩ (.i e0v.at_) (p1.c 1 1) ?_
  have p1 := p1.fr 1
  refine bind_some' h fun y31 e32 h => ?_
  refine Gc (kc 37 [74, 78] #[76, 3]) 79 58 37 _ (W.z1w e0v e0v.at_ y31 e32 gx0 ud8 p1 ud9) ?_
  rintro _ w21 ⟨S21, ufe, uff, ufg, ufh, rfl, z21, p21, ufi, ufj, rfl, ufk⟩
  refine Gn 4 [(80, .agg #[.u 0, .u 0, .u 0, .u 0, .int .u8 0, .bool false])] Jgi ?_
  refine So 143 (.tmp 2) (.tmp 80) 0 1 gx2 0 (.agg #[.u 0, .u 0, .u 0, .u 0, .int .u8 0, .bool false]) [.u 0, .u 0, .u 0, .u 0, .int .u8 0, .bool false] p21 rfl Goes.s ?_
  intro w22 z22 p22
  have p22 : Hp nz wz S21 w22 ((some gx0, .row 79 [.string y31.2.s, .i y31.2.at_, .i y31.2.deep, ufh] 4 0) :: (some gx2, .row 143 [.u 0, .u 0, .u 0, .u 0, .int .u8 0, .bool false] 6 0) :: Lr) := p22
  refine Gn 1 [] Jgh ?_
  obtain rfl := Option.some.inj h
  have p22 := (p22.fr 0).fr 1
  exact Goes.ret (fn := Tryz.f98) (by kernel_rfl) (v := .agg #[.u 0, .u 0, .u 0, .u 0, .int .u8 0, .bool false]) (results_n1 (fn := Tryz.f98) (a := .cell 2 143) (by kernel_rfl) (resV_cell ⟨gx2, 0, none⟩ (by kernel_rfl) (run_loadN [.u 0, .u 0, .u 0, .u 0, .int .u8 0, .bool false] (by kernel_rfl) (by kernel_rfl) (p22.pa 0 0)))) ⟨S21, ufh, rfl, ((hx.trans z21).trans z22), p22.drop, rfl, (ufk.ext z22)⟩
 ·
  have ufl : x66 = false := by simpa using h30
  rw [ufl]
  refine Gn 8 [(81, (pt gx0 0)), (82, (pt gx0 0)), (83, (pt gx0 1))] Jgk ?_
  refine Goes.ld 3 (.tmp 83) 84 3 ⟨gx0, 1, none⟩ (.i e0v.at_) (p1.c 1 1) ?_
  refine Gn 3 [(85, .i (wr .i64 (e0v.at_ + 1))), (86, (pt gx0 0)), (87, (pt gx0 1))] Jgl ?_
  refine So 3 (.tmp 87) (.tmp 85) 0 1 gx0 1 (.i (wr .i64 (e0v.at_ + 1))) [.i (wr .i64 (e0v.at_ + 1))] p1 rfl Goes.s ?_
  intro w23 z23 p23
  have p23 : Hp nz wz S1 w23 ((some gx2, .row 143 (U4 x2v.set_ [.int .u8 x2v.b, .bool x2v.single]) 6 0) :: (some gx0, .row 79 [.string e0v.s, .i (wr .i64 (e0v.at_ + 1)), .i e0v.deep, ud8] 4 0) :: Lr) := p23
  refine Gn 4 [(88, .int .u8 x3)] Jgn ?_
  refine bind_some' h fun y33 e34 h => ?_
  refine Gc (kc 107 [88] #[5]) 89 143 107 _ (W.z2f x3 y33 e34  p23 ) ?_
  rintro _ w24 ⟨S24, rfl, z24, p24, ufm⟩
  refine So 143 (.tmp 2) (.tmp 89) 0 0 gx2 0 (ag (U4 y33.set_ [.int .u8 y33.b, .bool y33.single])) (U4 y33.set_ [.int .u8 y33.b, .bool y33.single]) p24 rfl Goes.s ?_
  intro w25 z25 p25
  have p25 : Hp nz wz S24 w25 ((some gx2, .row 143 (U4 y33.set_ [.int .u8 y33.b, .bool y33.single]) 6 0) :: (some gx0, .row 79 [.string e0v.s, .i (wr .i64 (e0v.at_ + 1)), .i e0v.deep, ud8] 4 0) :: Lr) := p25
  refine Gn 1 [] Jgm ?_
  obtain rfl := Option.some.inj h
  exact Goes.ret (fn := Tryz.f98) (by kernel_rfl) (v := (ag (U4 y33.set_ [.int .u8 y33.b, .bool y33.single]))) (results_n1 (fn := Tryz.f98) (a := .cell 2 143) (by kernel_rfl) (resV_cell ⟨gx2, 0, none⟩ (by kernel_rfl) (run_loadN (U4 y33.set_ [.int .u8 y33.b, .bool y33.single]) (by kernel_rfl) (by kernel_rfl) (p25.pa 0 0)))) ⟨S24, ud8, rfl, (((hx.trans z23).trans z24).trans z25), p25.drop, ufm, (ud9.ext ((z23.trans z24).trans z25))⟩

def Jgo := Zs [1] B98 []
def Jgp := Zt [0] B98 [0] Jgo
def Jgq := Zs [1, 1] B98 []
def Jgr := Zt [1, 0] B98 [1, 2] Jgq
def Jgs := Zs [1, 1, 1] B98 []
def Jgt := Zs [1, 1, 0, 1] B98 Jgs
def Qbx := sub [1, 1, 0, 0] B98
def Jgu := Zr Qbx [1, 2, 3, 4, 5, 6, 7] Jgt
def Jgv := Zr Qbx [5, 6, 7] Jgt
def Jgw := Zs [1, 1, 0, 1, 1] B98 Jgs
def Jgx := Zs [1, 1, 0, 1, 1, 0, 1] B98 Jgs
def Qc0 := sub [1, 1, 0, 1, 1, 0, 0] B98
def Jgy := Zr Qc0 [3, 4, 5, 6, 7] Jgx
def Jgz := Zr Qc0 [7] Jgx
def Jh0 := Zs [1, 1, 0, 1, 1, 0, 1, 1] B98 Jgs
def Qc2 := sub [1, 1, 0, 1, 1, 0, 1, 0] B98
def Jh1 := Zr Qc2 [0, 1, 2] Jh0
def Jh2 := Zr Qc2 [2] Jh0
def Jh3 := Zs [1, 1, 1, 0, 0, 1] B98 Jgd
def Jh4 := Zs [1, 1, 1, 0, 0, 1, 0, 1] B98 Jgd
def Qc5 := sub [1, 1, 1, 0, 0, 1, 0, 0] B98
def Jh5 := Zr Qc5 [3, 4, 5, 6, 7] Jh4
def Jh6 := Zr Qc5 [7] Jh4
def Jh7 := Zs [1, 1, 1, 0, 0, 1, 0, 1, 1] B98 Jgd
def Jh8 := Zt [1, 1, 1, 0, 0, 1, 0, 1, 0] B98 [1, 2] Jh7
def Jh9 := Zs [1, 1, 1, 0, 0, 1, 0, 1, 1, 1] B98 Jgd
def Jha := Zt [1, 1, 1, 0, 0, 1, 0, 1, 1, 0] B98 [1, 2] Jh9
def Jhb := Zs [1, 1, 1, 0, 0, 1, 0, 1, 1, 1, 1] B98 Jgd
def Jhc := Zt [1, 1, 1, 0, 0, 1, 0, 1, 1, 1, 0] B98 [4, 5] Jhb
def Jhd := Zs [1, 1, 1, 0, 0, 1, 1, 1] B98 Jgd
def Jhe := Zs [1, 1, 1, 0, 0, 1, 1, 1, 0, 1] B98 Jgd
def Qce := sub [1, 1, 1, 0, 0, 1, 1, 1, 0, 0] B98
def Jhf := Zr Qce [3, 4, 5, 6, 7] Jhe
def Jhg := Zr Qce [7] Jhe
def Jhh := Zs [1, 1, 1, 0, 0, 1, 1, 1, 0, 1, 1] B98 Jgd
def Jhi := Zt [1, 1, 1, 0, 0, 1, 1, 1, 0, 1, 0] B98 [0, 1] Jhh
def Jhj := Zs [1, 1, 1, 0, 0, 1, 1, 1, 1, 1] B98 Jgd
def Jhk := Zs [1, 1, 1, 0, 0, 1, 1, 1, 1, 1, 0, 1] B98 Jgd
def Qcj := sub [1, 1, 1, 0, 0, 1, 1, 1, 1, 1, 0, 0] B98
def Jhl := Zr Qcj [3, 4, 5, 6, 7] Jhk
def Jhm := Zr Qcj [7] Jhk
def Jhn := Zs [1, 1, 1, 0, 0, 1, 1, 1, 1, 1, 0, 1, 1] B98 Jgd
def Jho := Zt [1, 1, 1, 0, 0, 1, 1, 1, 1, 1, 0, 1, 0] B98 [0, 1] Jhn
def Qcm := sub [1, 1, 1, 0, 0, 1, 1, 1, 1, 1, 1, 0] B98
def Jhp := Zr Qcm [3, 4, 5, 6, 7] Jge
def Jhq := Zr Qcm [4, 5, 6, 7] Jge

theorem W.z2g (x0v : T78) (r : T142 × T78) (h : M.syntax_parser_escape x0v = some r) {nz wz S0 w0 Lr} (gx0 uda) (p0 : Hp nz wz S0 w0 ((some gx0, .row 79 [.string x0v.s, .i x0v.at_, .i x0v.deep, uda] 4 0) :: Lr)) (udb : PtO kT82 S0 w0 uda x0v.bad) :
  Calls Tryz.prog 98 #[(pt gx0 0)] w0 (Rets (Post.z2g nz wz S0 w0 Lr gx0 r)) := by
 refine Zf Tryz.f98 B98 89 ?_
 refine Gj 90 [(0, (pt gx0 0))] fun junk => ?_
 delta M.syntax_parser_escape at h
 refine Gn 2 [] Jgp ?_
 refine Op_.alloc 143 2 0 (.agg #[.u 0, .u 0, .u 0, .u 0, .int .u8 0, .bool false]) [.u 0, .u 0, .u 0, .u 0, .int .u8 0, .bool false] p0 Goes.v (by kernel_rfl) (by kernel_rfl) ?_
 intro b2 w2 z2 p2
 refine Gn 4 [(8, (pt gx0 0))] Jgr ?_
 have p2 := p2.fr 1
 refine bind_some' h fun y4 e5 h => ?_
 refine Gc (kc 74 [8] #[76]) 9 5 74 _ (W.z1u x0v y4 e5 gx0 uda p2 (udb.ext z2)) ?_
 rintro _ w3 ⟨S3, ufn, rfl, z3, p3, ufo⟩
 refine Gn 6 [(3, .int .u8 y4.1), (11, .int .u8 y4.1)] Jgu ?_
 refine bind_some' h fun y6 e7 h => ?_
 refine Gc (kc 105 [11] #[5]) 12 151 105 _ (W.z29 y4.1 y6 e7  p3 ) ?_
 rintro _ w4 ⟨S4, ufp, rfl, z4, p4, ufq, ufr⟩
 refine Gn 3 [(10, .tuple #[.agg ufp.toArray, .bool y6.2]), (13, .agg ufp.toArray), (14, .bool y6.2)] Jgv ?_
 refine Op_.alloc 44 4 0 (.agg #[.u 0, .u 0, .u 0, .u 0]) [.u 0, .u 0, .u 0, .u 0] p4 Goes.v (by kernel_rfl) (by kernel_rfl) ?_
 intro b8 w5 z5 p5
 have f10 : Els (kInt .u64) S4 w5 ([.u 0, .u 0, .u 0, .u 0] : List Value) [0, 0, 0, 0] := (Els.cons (K := (kInt .u64)) (vs := [.u 0]) (x := 0) rfl (Els.cons (K := (kInt .u64)) (vs := [.u 0]) (x := 0) rfl (Els.cons (K := (kInt .u64)) (vs := [.u 0]) (x := 0) rfl (Els.cons (K := (kInt .u64)) (vs := [.u 0]) (x := 0) rfl Els.nil))))
 refine Op_.stA 44 (.tmp 4) (.tmp 13) 0 0 b8 4 ufp p5 rfl rfl Goes.s (by kernel_rfl) (by kernel_rfl) (by kernel_rfl) ufr (Els.one (ufq.ext z5)) ?_
 intro w6 z6 p6
 refine Gn 6 [(5, .bool y6.2), (15, .bool y6.2)] Jgw ?_
 refine ite_some h (fun h11 h => ?_) (fun h11 h => ?_)
 ·
  rw [h11]
  refine Gn 6 [(16, (pt gx0 0)), (17, (pt gx0 0)), (18, (pt gx0 1))] Jgy ?_
  refine Goes.ld 3 (.tmp 18) 19 3 ⟨gx0, 1, none⟩ (.i y4.2.at_) (p6.c 1 1) ?_
  refine Gn 3 [(20, .i (wr .i64 (y4.2.at_ + 1))), (21, (pt gx0 0)), (22, (pt gx0 1))] Jgz ?_
  refine So 3 (.tmp 22) (.tmp 20) 0 1 gx0 1 (.i (wr .i64 (y4.2.at_ + 1))) [.i (wr .i64 (y4.2.at_ + 1))] p6 rfl Goes.s ?_
  intro w7 z7 p7
  have p7 : Hp nz wz S4 w7 ((some b8, .row 44 ufp 4 0) :: (some gx0, .row 79 [.string y4.2.s, .i (wr .i64 (y4.2.at_ + 1)), .i y4.2.deep, ufn] 4 0) :: (some b2, .row 143 [.u 0, .u 0, .u 0, .u 0, .int .u8 0, .bool false] 6 0) :: Lr) := p7
  refine Gn 3 [] Jh1 ?_
  refine Op_.ldN 44 (.tmp 4) 23 44 ⟨b8, 0, none⟩ ufp Goes.v (by kernel_rfl) (by kernel_rfl) (by rw [ufr]; kernel_rfl) (At_all (p7.mem 0 rfl)) ?_
  have l12 := Els.len1 (ufq.ext ((z5.trans z6).trans z7)) ufr rfl
  obtain rfl := els_lit4 (ufq.ext ((z5.trans z6).trans z7)) ufr
  refine Gn 1 [(24, (ag (U4 y6.1 [.int .u8 0, .bool false])))] Jh2 ?_
  refine So 143 (.tmp 2) (.tmp 24) 0 2 b2 0 (ag (U4 y6.1 [.int .u8 0, .bool false])) (U4 y6.1 [.int .u8 0, .bool false]) p7 rfl Goes.s ?_
  intro w8 z8 p8
  have p8 : Hp nz wz S4 w8 ((some b8, .row 44 ((U4 y6.1 []) : List Value) 4 0) :: (some gx0, .row 79 [.string y4.2.s, .i (wr .i64 (y4.2.at_ + 1)), .i y4.2.deep, ufn] 4 0) :: (some b2, .row 143 (U4 y6.1 [.int .u8 0, .bool false]) 6 0) :: Lr) := p8
  refine Gn 1 [] Jh0 ?_
  obtain rfl := Option.some.inj h
  have p8 := p8.dp 0
  have p8 := (p8.fr 0).fr 1
  exact Goes.ret (fn := Tryz.f98) (by kernel_rfl) (v := (ag (U4 y6.1 [.int .u8 0, .bool false]))) (results_n1 (fn := Tryz.f98) (a := .cell 2 143) (by kernel_rfl) (resV_cell ⟨b2, 0, none⟩ (by kernel_rfl) (run_loadN (U4 y6.1 [.int .u8 0, .bool false]) (by kernel_rfl) (by kernel_rfl) (p8.pa 0 0)))) ⟨S4, ufn, rfl, ((((((((Ext.refl S0 w0).trans z2).trans z3).trans z4).trans z5).trans z6).trans z7).trans z8), p8.drop, l12, (ufo.ext ((((z4.trans z5).trans z6).trans z7).trans z8))⟩
 ·
  have ufs : y6.2 = false := by simpa using h11
  rw [ufs]
  refine Gn 10 [(26, .int .u8 y4.1), (27, .bool (decide (y4.1 = 120))), (25, .bool (decide (y4.1 = 120)))] Jh3 ?_
  refine ite_some h (fun h13 h => ?_) (fun h13 h => ?_)
  ·
   rw [decide_eq_true h13]
   refine Gn 6 [(28, (pt gx0 0)), (29, (pt gx0 0)), (30, (pt gx0 1))] Jh5 ?_
   refine Goes.ld 3 (.tmp 30) 31 3 ⟨gx0, 1, none⟩ (.i y4.2.at_) (p6.c 1 1) ?_
   refine Gn 3 [(32, .i (wr .i64 (y4.2.at_ + 1))), (33, (pt gx0 0)), (34, (pt gx0 1))] Jh6 ?_
   refine So 3 (.tmp 34) (.tmp 32) 0 1 gx0 1 (.i (wr .i64 (y4.2.at_ + 1))) [.i (wr .i64 (y4.2.at_ + 1))] p6 rfl Goes.s ?_
   intro w9 z9 p9
   have p9 : Hp nz wz S4 w9 ((some b8, .row 44 ufp 4 0) :: (some gx0, .row 79 [.string y4.2.s, .i (wr .i64 (y4.2.at_ + 1)), .i y4.2.deep, ufn] 4 0) :: (some b2, .row 143 [.u 0, .u 0, .u 0, .u 0, .int .u8 0, .bool false] 6 0) :: Lr) := p9
   refine Gn 4 [(35, (pt gx0 0))] Jh8 ?_
   have p9 := p9.fr 1
   refine bind_some' h fun y14 e15 h => ?_
   refine Gc (kc 106 [35] #[76]) 36 5 106 _ (W.z2e (⟨y4.2.s, wr .i64 (y4.2.at_ + 1), y4.2.deep, y4.2.bad⟩ : T78) y14 e15 gx0 ufn p9 (ufo.ext (((z4.trans z5).trans z6).trans z9))) ?_
   rintro _ w10 ⟨S10, uft, rfl, z10, p10, ufu⟩
   have p10 := p10.dp 1
   refine Gn 5 [(6, .int .u8 y14.1), (37, (pt gx0 0))] Jha ?_
   refine bind_some' h fun y16 e17 h => ?_
   refine Gc (kc 106 [37] #[76]) 38 5 106 _ (W.z2e y14.2 y16 e17 gx0 uft p10 ufu) ?_
   rintro _ w11 ⟨S11, ufv, rfl, z11, p11, ufw⟩
   refine Gn 8 [(7, .int .u8 y16.1), (39, .int .u8 y14.1), (40, .int .u8 (ishl .u8 y14.1 4)), (41, .int .u8 y16.1), (42, .int .u8 (ior .u8 (ishl .u8 y14.1 4) y16.1))] Jhc ?_
   refine bind_some' h fun y18 e19 h => ?_
   refine Gc (kc 107 [42] #[5]) 43 143 107 _ (W.z2f (ior .u8 (ishl .u8 y14.1 4) y16.1) y18 e19  p11 ) ?_
   rintro _ w12 ⟨S12, rfl, z12, p12, ufx⟩
   refine So 143 (.tmp 2) (.tmp 43) 0 1 b2 0 (ag (U4 y18.set_ [.int .u8 y18.b, .bool y18.single])) (U4 y18.set_ [.int .u8 y18.b, .bool y18.single]) p12 rfl Goes.s ?_
   intro w13 z13 p13
   have p13 : Hp nz wz S12 w13 ((some gx0, .row 79 [.string y16.2.s, .i y16.2.at_, .i y16.2.deep, ufv] 4 0) :: (some b2, .row 143 (U4 y18.set_ [.int .u8 y18.b, .bool y18.single]) 6 0) :: Lr) := p13
   refine Gn 1 [] Jhb ?_
   obtain rfl := Option.some.inj h
   have p13 := (p13.fr 0).fr 1
   exact Goes.ret (fn := Tryz.f98) (by kernel_rfl) (v := (ag (U4 y18.set_ [.int .u8 y18.b, .bool y18.single]))) (results_n1 (fn := Tryz.f98) (a := .cell 2 143) (by kernel_rfl) (resV_cell ⟨b2, 0, none⟩ (by kernel_rfl) (run_loadN (U4 y18.set_ [.int .u8 y18.b, .bool y18.single]) (by kernel_rfl) (by kernel_rfl) (p13.pa 0 0)))) ⟨S12, ufv, rfl, (((((((((((Ext.refl S0 w0).trans z2).trans z3).trans z4).trans z5).trans z6).trans z9).trans z10).trans z11).trans z12).trans z13), p13.drop, ufx, (ufw.ext (z12.trans z13))⟩
  ·
   rw [decide_eq_false h13]
   refine Gn 7 [(45, .int .u8 y4.1), (46, .bool (decide (y4.1 = 110))), (44, .bool (decide (y4.1 = 110)))] Jhd ?_
   refine ite_some h (fun h20 h => ?_) (fun h20 h => ?_)
   ·
    rw [decide_eq_true h20]
    refine Gn 6 [(47, (pt gx0 0)), (48, (pt gx0 0)), (49, (pt gx0 1))] Jhf ?_
    refine Goes.ld 3 (.tmp 49) 50 3 ⟨gx0, 1, none⟩ (.i y4.2.at_) (p6.c 1 1) ?_
    refine Gn 3 [(51, .i (wr .i64 (y4.2.at_ + 1))), (52, (pt gx0 0)), (53, (pt gx0 1))] Jhg ?_
    refine So 3 (.tmp 53) (.tmp 51) 0 1 gx0 1 (.i (wr .i64 (y4.2.at_ + 1))) [.i (wr .i64 (y4.2.at_ + 1))] p6 rfl Goes.s ?_
    intro w14 z14 p14
    have p14 : Hp nz wz S4 w14 ((some b8, .row 44 ufp 4 0) :: (some gx0, .row 79 [.string y4.2.s, .i (wr .i64 (y4.2.at_ + 1)), .i y4.2.deep, ufn] 4 0) :: (some b2, .row 143 [.u 0, .u 0, .u 0, .u 0, .int .u8 0, .bool false] 6 0) :: Lr) := p14
    refine Gn 3 [] Jhi ?_
    refine bind_some' h fun y21 e22 h => ?_
    refine Gc (.call { callee := .value (.func 107), args := #[(.const (.int .u8 10))], argTypes := #[5] }) 54 143 107 _ (W.z2f 10 y21 e22  p14 ) ?_
    rintro _ w15 ⟨S15, rfl, z15, p15, ufy⟩
    have p15 := p15.dp 0
    refine So 143 (.tmp 2) (.tmp 54) 0 1 b2 0 (ag (U4 y21.set_ [.int .u8 y21.b, .bool y21.single])) (U4 y21.set_ [.int .u8 y21.b, .bool y21.single]) p15 rfl Goes.s ?_
    intro w16 z16 p16
    have p16 : Hp nz wz S15 w16 ((some gx0, .row 79 [.string y4.2.s, .i (wr .i64 (y4.2.at_ + 1)), .i y4.2.deep, ufn] 4 0) :: (some b2, .row 143 (U4 y21.set_ [.int .u8 y21.b, .bool y21.single]) 6 0) :: Lr) := p16
    refine Gn 1 [] Jhh ?_
    obtain rfl := Option.some.inj h
    have p16 := (p16.fr 0).fr 1
    exact Goes.ret (fn := Tryz.f98) (by kernel_rfl) (v := (ag (U4 y21.set_ [.int .u8 y21.b, .bool y21.single]))) (results_n1 (fn := Tryz.f98) (a := .cell 2 143) (by kernel_rfl) (resV_cell ⟨b2, 0, none⟩ (by kernel_rfl) (run_loadN (U4 y21.set_ [.int .u8 y21.b, .bool y21.single]) (by kernel_rfl) (by kernel_rfl) (p16.pa 0 0)))) ⟨S15, ufn, rfl, (((((((((Ext.refl S0 w0).trans z2).trans z3).trans z4).trans z5).trans z6).trans z14).trans z15).trans z16), p16.drop, ufy, (ufo.ext (((((z4.trans z5).trans z6).trans z14).trans z15).trans z16))⟩
   ·
    rw [decide_eq_false h20]
    refine Gn 7 [(56, .int .u8 y4.1), (57, .bool (decide (y4.1 = 116))), (55, .bool (decide (y4.1 = 116)))] Jhj ?_
    refine ite_some h (fun h23 h => ?_) (fun h23 h => ?_)
    ·
     rw [decide_eq_true h23]
     refine Gn 6 [(58, (pt gx0 0)), (59, (pt gx0 0)), (60, (pt gx0 1))] Jhl ?_
     refine Goes.ld 3 (.tmp 60) 61 3 ⟨gx0, 1, none⟩ (.i y4.2.at_) (p6.c 1 1) ?_
     refine Gn 3 [(62, .i (wr .i64 (y4.2.at_ + 1))), (63, (pt gx0 0)), (64, (pt gx0 1))] Jhm ?_
     refine So 3 (.tmp 64) (.tmp 62) 0 1 gx0 1 (.i (wr .i64 (y4.2.at_ + 1))) [.i (wr .i64 (y4.2.at_ + 1))] p6 rfl Goes.s ?_
     intro w17 z17 p17
     have p17 : Hp nz wz S4 w17 ((some b8, .row 44 ufp 4 0) :: (some gx0, .row 79 [.string y4.2.s, .i (wr .i64 (y4.2.at_ + 1)), .i y4.2.deep, ufn] 4 0) :: (some b2, .row 143 [.u 0, .u 0, .u 0, .u 0, .int .u8 0, .bool false] 6 0) :: Lr) := p17
     refine Gn 3 [] Jho ?_
     refine bind_some' h fun y24 e25 h => ?_
     refine Gc (.call { callee := .value (.func 107), args := #[(.const (.int .u8 9))], argTypes := #[5] }) 65 143 107 _ (W.z2f 9 y24 e25  p17 ) ?_
     rintro _ w18 ⟨S18, rfl, z18, p18, ufz⟩
     have p18 := p18.dp 0
     refine So 143 (.tmp 2) (.tmp 65) 0 1 b2 0 (ag (U4 y24.set_ [.int .u8 y24.b, .bool y24.single])) (U4 y24.set_ [.int .u8 y24.b, .bool y24.single]) p18 rfl Goes.s ?_
     intro w19 z19 p19
     have p19 : Hp nz wz S18 w19 ((some gx0, .row 79 [.string y4.2.s, .i (wr .i64 (y4.2.at_ + 1)), .i y4.2.deep, ufn] 4 0) :: (some b2, .row 143 (U4 y24.set_ [.int .u8 y24.b, .bool y24.single]) 6 0) :: Lr) := p19
     refine Gn 1 [] Jhn ?_
     obtain rfl := Option.some.inj h
     have p19 := (p19.fr 0).fr 1
     exact Goes.ret (fn := Tryz.f98) (by kernel_rfl) (v := (ag (U4 y24.set_ [.int .u8 y24.b, .bool y24.single]))) (results_n1 (fn := Tryz.f98) (a := .cell 2 143) (by kernel_rfl) (resV_cell ⟨b2, 0, none⟩ (by kernel_rfl) (run_loadN (U4 y24.set_ [.int .u8 y24.b, .bool y24.single]) (by kernel_rfl) (by kernel_rfl) (p19.pa 0 0)))) ⟨S18, ufn, rfl, (((((((((Ext.refl S0 w0).trans z2).trans z3).trans z4).trans z5).trans z6).trans z17).trans z18).trans z19), p19.drop, ufz, (ufo.ext (((((z4.trans z5).trans z6).trans z17).trans z18).trans z19))⟩
    ·
     rw [decide_eq_false h23]
     refine Gn 6 [(67, .int .u8 y4.1), (68, .bool (decide (y4.1 = 0))), (69, .bool (decide (y4.1 = 0)))] Jhp ?_
     refine ite_some h (fun h26 h => ?_) (fun h26 h => ?_)
     ·
      rw [decide_eq_true h26]
      refine Gn 6 [(70, undef), (71, undef), (72, undef), (73, .bool true), (66, .bool true)] Jge ?_
      have p6 := p6.dp 0
      have p6 := (p6.fr 0).fr 1
      exact Gj 90 [(0, (pt gx0 0)), (2, (pt b2 0)), (3, .int .u8 y4.1), (66, .bool true)] (W.z2h gx0 _ _ h _ _ ((((((Ext.refl S0 w0).trans z2).trans z3).trans z4).trans z5).trans z6) b2 ufn p6 rfl (ufo.ext ((z4.trans z5).trans z6)))
     ·
      rw [decide_eq_false h26]
      refine Gn 1 [(70, .int .u8 y4.1)] Jhq ?_
      refine bind_some' h fun y28 e29 h => ?_
      refine Gc (.call { callee := .value (.func 93), args := #[(.const (.string ⟨#[92, 46, 91, 93, 40, 41, 42, 43, 63, 123, 125, 94, 36, 45, 47, 124]⟩)), (.tmp 70)], argTypes := #[9, 5] }) 71 3 93 _ (W.z2c (⟨#[92, 46, 91, 93, 40, 41, 42, 43, 63, 123, 125, 94, 36, 45, 47, 124]⟩ : ByteArray) y4.1 y28 e29  p6 ) ?_
      rintro _ w20 ⟨S20, rfl, z20, p20⟩
      have p20 := p20.dp 0
      refine Gn 4 [(72, .bool (decide (y28 < 0))), (73, .bool (decide (y28 < 0))), (66, .bool (decide (y28 < 0)))] Jge ?_
      have p20 := (p20.fr 0).fr 1
      exact Gj 90 [(0, (pt gx0 0)), (2, (pt b2 0)), (3, .int .u8 y4.1), (66, .bool (decide (y28 < 0)))] (W.z2h gx0 _ _ h _ _ (((((((Ext.refl S0 w0).trans z2).trans z3).trans z4).trans z5).trans z6).trans z20) b2 ufn p20 rfl (ufo.ext (((z4.trans z5).trans z6).trans z20)))

def Jhr := Zs [1, 1, 1] B114 []
def Jhs := Zb 0 Jhr
def Jht := Zs [1, 1, 0, 0, 1, 1, 1] B114 Jhs
def Jhu := Zs [1, 1, 0, 0, 1, 1, 1, 0, 1] B114 Jhs
def Jhv := Zt [1, 1, 0, 0, 1, 1, 1, 0, 0] B114 [4, 5] Jhu
def Jhw := Zs [1, 1, 0, 0, 1, 1, 1, 0, 1, 1] B114 Jhs
def Jhx := Zt [1, 1, 0, 0, 1, 1, 1, 0, 1, 0] B114 [1] Jhw
def Jhy := Zs [1, 1, 1, 1] B114 []
def Qcu := sub [1, 1, 1, 0] B114
def Jhz := Zr Qcu [3, 4, 5, 6, 7] Jhy
def Ji0 := Zr Qcu [7] Jhy
def Ji1 := Zs [1, 1, 1, 1, 1] B114 []
def Ji2 := Zt [1, 1, 1, 1, 0] B114 [1, 2] Ji1

def Post.z2i (gx0 : Nat) (r : T142 × T78) (v : Value) (w' : World) : Prop :=
 ∃ S' ud8, v = (ag (U4 r.1.set_ [.int .u8 r.1.b, .bool r.1.single])) ∧ Ext S0 w0 S' w' ∧ Hp nz wz S' w' ((some gx0, .row 79 [.string r.2.s, .i r.2.at_, .i r.2.deep, ud8] 4 0) :: Lr) ∧ r.1.set_.length = 4 ∧ PtO kT82 S' w' ud8 r.2.bad

def L.z2j (gx0 : Nat) : T142 × Int × Bool × T78 → (T142 × T78) → Prop := fun ⟨x2v, x3, x11, e0v⟩ r => ∀ S1 w1, Ext S0 w0 S1 w1 → ∀ gx2 ud8 (_ : Hp nz wz S1 w1 ((some gx2, .row 143 (U4 x2v.set_ [.int .u8 x2v.b, .bool x2v.single]) 6 0) :: (some gx0, .row 79 [.string e0v.s, .i e0v.at_, .i e0v.deep, ud8] 4 0) :: Lr)) (_ : x2v.set_.length = 4) (_ : PtO kT82 S1 w1 ud8 e0v.bad) (junk : Nat → Value),
 Goes Tryz.prog (base 114) Jht ⟨lfr 39 [(0, (pt gx0 0)), (2, (pt gx2 0)), (3, .int .u8 x3), (11, .bool x11)] junk, []⟩ w1 (Done Tryz.prog 114 (Rets (Post.z2i nz wz S0 w0 Lr gx0 r)))

theorem W.z2j {nz wz S0 w0 Lr} (gx0 : Nat) : ∀ a r, M.syntax_parser_item_l0 a = some r → L.z2j nz wz S0 w0 Lr gx0 a r := by
 intro ⟨x2v, x3, x11, e0v⟩ r h S1 w1 hx gx2 ud8 p1 udl ud9 junk
 rw [M.syntax_parser_item_l0] at h
 try dsimp only at h
 refine ite_some h (fun h16 h => ?_) (fun h16 h => ?_)
 ·
  rw [h16]
  refine Gn 7 [(23, (pt gx0 0)), (24, (pt gx0 0)), (25, (pt gx0 0)), (26, (pt gx0 1))] Jhv ?_
  refine Goes.ld 3 (.tmp 26) 27 3 ⟨gx0, 1, none⟩ (.i e0v.at_) (p1.c 1 1) ?_
  have p1 := p1.fr 1
  refine bind_some' h fun y17 e18 h => ?_
  refine Gc (kc 37 [23, 27] #[76, 3]) 28 58 37 _ (W.z1w e0v e0v.at_ y17 e18 gx0 ud8 p1 ud9) ?_
  rintro _ w8 ⟨S8, ug0, ug1, ug2, ug3, rfl, z8, p8, ug4, ug5, rfl, ug6⟩
  refine Gn 4 [(29, .agg #[.u 0, .u 0, .u 0, .u 0, .int .u8 0, .bool false])] Jhx ?_
  refine So 143 (.tmp 2) (.tmp 29) 0 1 gx2 0 (.agg #[.u 0, .u 0, .u 0, .u 0, .int .u8 0, .bool false]) [.u 0, .u 0, .u 0, .u 0, .int .u8 0, .bool false] p8 rfl Goes.s ?_
  intro w9 z9 p9
  have p9 : Hp nz wz S8 w9 ((some gx0, .row 79 [.string y17.2.s, .i y17.2.at_, .i y17.2.deep, ug3] 4 0) :: (some gx2, .row 143 [.u 0, .u 0, .u 0, .u 0, .int .u8 0, .bool false] 6 0) :: Lr) := p9
  refine Gn 1 [] Jhw ?_
  obtain rfl := Option.some.inj h
  have p9 := (p9.fr 0).fr 1
  exact Goes.ret (fn := Tryz.f114) (by kernel_rfl) (v := .agg #[.u 0, .u 0, .u 0, .u 0, .int .u8 0, .bool false]) (results_n1 (fn := Tryz.f114) (a := .cell 2 143) (by kernel_rfl) (resV_cell ⟨gx2, 0, none⟩ (by kernel_rfl) (run_loadN [.u 0, .u 0, .u 0, .u 0, .int .u8 0, .bool false] (by kernel_rfl) (by kernel_rfl) (p9.pa 0 0)))) ⟨S8, ug3, rfl, ((hx.trans z8).trans z9), p9.drop, rfl, (ug6.ext z9)⟩
 ·
  have ug7 : x11 = false := by simpa using h16
  rw [ug7]
  refine Gn 8 [(30, (pt gx0 0)), (31, (pt gx0 0)), (32, (pt gx0 1))] Jhz ?_
  refine Goes.ld 3 (.tmp 32) 33 3 ⟨gx0, 1, none⟩ (.i e0v.at_) (p1.c 1 1) ?_
  refine Gn 3 [(34, .i (wr .i64 (e0v.at_ + 1))), (35, (pt gx0 0)), (36, (pt gx0 1))] Ji0 ?_
  refine So 3 (.tmp 36) (.tmp 34) 0 1 gx0 1 (.i (wr .i64 (e0v.at_ + 1))) [.i (wr .i64 (e0v.at_ + 1))] p1 rfl Goes.s ?_
  intro w10 z10 p10
  have p10 : Hp nz wz S1 w10 ((some gx2, .row 143 (U4 x2v.set_ [.int .u8 x2v.b, .bool x2v.single]) 6 0) :: (some gx0, .row 79 [.string e0v.s, .i (wr .i64 (e0v.at_ + 1)), .i e0v.deep, ud8] 4 0) :: Lr) := p10
  refine Gn 4 [(37, .int .u8 x3)] Ji2 ?_
  refine bind_some' h fun y19 e20 h => ?_
  refine Gc (kc 107 [37] #[5]) 38 143 107 _ (W.z2f x3 y19 e20  p10 ) ?_
  rintro _ w11 ⟨S11, rfl, z11, p11, ug8⟩
  refine So 143 (.tmp 2) (.tmp 38) 0 0 gx2 0 (ag (U4 y19.set_ [.int .u8 y19.b, .bool y19.single])) (U4 y19.set_ [.int .u8 y19.b, .bool y19.single]) p11 rfl Goes.s ?_
  intro w12 z12 p12
  have p12 : Hp nz wz S11 w12 ((some gx2, .row 143 (U4 y19.set_ [.int .u8 y19.b, .bool y19.single]) 6 0) :: (some gx0, .row 79 [.string e0v.s, .i (wr .i64 (e0v.at_ + 1)), .i e0v.deep, ud8] 4 0) :: Lr) := p12
  refine Gn 1 [] Ji1 ?_
  obtain rfl := Option.some.inj h
  exact Goes.ret (fn := Tryz.f114) (by kernel_rfl) (v := (ag (U4 y19.set_ [.int .u8 y19.b, .bool y19.single]))) (results_n1 (fn := Tryz.f114) (a := .cell 2 143) (by kernel_rfl) (resV_cell ⟨gx2, 0, none⟩ (by kernel_rfl) (run_loadN (U4 y19.set_ [.int .u8 y19.b, .bool y19.single]) (by kernel_rfl) (by kernel_rfl) (p12.pa 0 0)))) ⟨S11, ud8, rfl, (((hx.trans z10).trans z11).trans z12), p12.drop, ug8, (ud9.ext ((z10.trans z11).trans z12))⟩

def Ji3 := Zs [1] B114 []
def Ji4 := Zt [0] B114 [0] Ji3
def Ji5 := Zs [1, 1] B114 []
def Ji6 := Zt [1, 0] B114 [1, 2] Ji5
def Ji7 := Zs [1, 1, 0, 0, 1] B114 Jhs
def Ji8 := Zt [1, 1, 0, 0, 0] B114 [1, 2] Ji7
def Ji9 := Zs [1, 1, 0, 0, 1, 0, 1] B114 Jhs
def Jia := Zt [1, 1, 0, 0, 1, 0, 0] B114 [1, 2] Ji9
def Qd5 := sub [1, 1, 0, 0, 1, 1, 0] B114
def Jib := Zr Qd5 [3, 4, 5, 6, 7, 8, 9, 10, 11] Jht
def Jic := Zr Qd5 [7, 8, 9, 10, 11] Jht
def Jid := Zr Qd5 [8, 9, 10, 11] Jht

theorem W.z2i (x0v : T78) (r : T142 × T78) (h : M.syntax_parser_item x0v = some r) {nz wz S0 w0 Lr} (gx0 uda) (p0 : Hp nz wz S0 w0 ((some gx0, .row 79 [.string x0v.s, .i x0v.at_, .i x0v.deep, uda] 4 0) :: Lr)) (udb : PtO kT82 S0 w0 uda x0v.bad) :
  Calls Tryz.prog 114 #[(pt gx0 0)] w0 (Rets (Post.z2i nz wz S0 w0 Lr gx0 r)) := by
 refine Zf Tryz.f114 B114 38 ?_
 refine Gj 39 [(0, (pt gx0 0))] fun junk => ?_
 delta M.syntax_parser_item at h
 refine Gn 2 [] Ji4 ?_
 refine Op_.alloc 143 2 0 (.agg #[.u 0, .u 0, .u 0, .u 0, .int .u8 0, .bool false]) [.u 0, .u 0, .u 0, .u 0, .int .u8 0, .bool false] p0 Goes.v (by kernel_rfl) (by kernel_rfl) ?_
 intro b2 w2 z2 p2
 refine Gn 4 [(4, (pt gx0 0))] Ji6 ?_
 have p2 := p2.fr 1
 refine bind_some' h fun y4 e5 h => ?_
 refine Gc (kc 74 [4] #[76]) 5 5 74 _ (W.z1u x0v y4 e5 gx0 uda p2 (udb.ext z2)) ?_
 rintro _ w3 ⟨S3, ufn, rfl, z3, p3, ufo⟩
 refine Gn 7 [(3, .int .u8 y4.1), (7, (pt gx0 0))] Ji8 ?_
 refine bind_some' h fun y6 e7 h => ?_
 refine Gc (.call { callee := .value (.func 52), args := #[(.tmp 7), (.const (.int .u8 92))], argTypes := #[76, 5] }) 8 4 52 _ (W.z1x y4.2 92 y6 e7 gx0 ufn p3 ufo) ?_
 rintro _ w4 ⟨S4, uf8, rfl, z4, p4, ufb⟩
 refine Gn 2 [(6, .bool y6.1)] Ji7 ?_
 refine ite_some h (fun h8 h => ?_) (fun h8 h => ?_)
 ·
  rw [h8]
  refine Gn 4 [(9, (pt gx0 0))] Jia ?_
  refine bind_some' h fun y9 e10 h => ?_
  refine Gc (kc 98 [9] #[76]) 10 143 98 _ (W.z2g y6.2 y9 e10 gx0 uf8 p4 ufb) ?_
  rintro _ w5 ⟨S5, ug9, rfl, z5, p5, uga, ugb⟩
  refine So 143 (.tmp 2) (.tmp 10) 0 1 b2 0 (ag (U4 y9.1.set_ [.int .u8 y9.1.b, .bool y9.1.single])) (U4 y9.1.set_ [.int .u8 y9.1.b, .bool y9.1.single]) p5 rfl Goes.s ?_
  intro w6 z6 p6
  have p6 : Hp nz wz S5 w6 ((some gx0, .row 79 [.string y9.2.s, .i y9.2.at_, .i y9.2.deep, ug9] 4 0) :: (some b2, .row 143 (U4 y9.1.set_ [.int .u8 y9.1.b, .bool y9.1.single]) 6 0) :: Lr) := p6
  refine Gn 1 [] Ji9 ?_
  obtain rfl := Option.some.inj h
  have p6 := (p6.fr 0).fr 1
  exact Goes.ret (fn := Tryz.f114) (by kernel_rfl) (v := (ag (U4 y9.1.set_ [.int .u8 y9.1.b, .bool y9.1.single]))) (results_n1 (fn := Tryz.f114) (a := .cell 2 143) (by kernel_rfl) (resV_cell ⟨b2, 0, none⟩ (by kernel_rfl) (run_loadN (U4 y9.1.set_ [.int .u8 y9.1.b, .bool y9.1.single]) (by kernel_rfl) (by kernel_rfl) (p6.pa 0 0)))) ⟨S5, ug9, rfl, ((((((Ext.refl S0 w0).trans z2).trans z3).trans z4).trans z5).trans z6), p6.drop, uga, (ugb.ext z6)⟩
 ·
  have h8' : y6.1 = false := by simpa using h8
  rw [h8']
  refine Gn 6 [(12, .int .u8 y4.1), (13, .bool (decide (y4.1 < 32))), (14, .bool (decide (y4.1 < 32)))] Jib ?_
  refine ite_some h (fun h11 h => ?_) (fun h11 h => ?_)
  ·
   rw [decide_eq_true h11]
   refine Gn 10 [(15, undef), (16, undef), (17, .bool true), (18, .bool true), (19, undef), (20, undef), (21, undef), (22, .bool true), (11, .bool true)] Jht ?_
   have p4 := (p4.fr 0).fr 1
   exact Gj 39 [(0, (pt gx0 0)), (2, (pt b2 0)), (3, .int .u8 y4.1), (11, .bool true)] (W.z2j gx0 _ _ h _ _ ((((Ext.refl S0 w0).trans z2).trans z3).trans z4) b2 uf8 p4 rfl ufb)
  ·
   rw [decide_eq_false h11]
   refine Gn 4 [(15, .int .u8 y4.1), (16, .bool (decide (y4.1 > 126))), (17, .bool (decide (y4.1 > 126))), (18, .bool (decide (y4.1 > 126)))] Jic ?_
   refine ite_some h (fun h13 h => ?_) (fun h13 h => ?_)
   ·
    rw [decide_eq_true h13]
    refine Gn 6 [(19, undef), (20, undef), (21, undef), (22, .bool true), (11, .bool true)] Jht ?_
    have p4 := (p4.fr 0).fr 1
    exact Gj 39 [(0, (pt gx0 0)), (2, (pt b2 0)), (3, .int .u8 y4.1), (11, .bool true)] (W.z2j gx0 _ _ h _ _ ((((Ext.refl S0 w0).trans z2).trans z3).trans z4) b2 uf8 p4 rfl ufb)
   ·
    rw [decide_eq_false h13]
    refine Gn 1 [(19, .int .u8 y4.1)] Jid ?_
    refine bind_some' h fun y14 e15 h => ?_
    refine Gc (.call { callee := .value (.func 93), args := #[(.const (.string ⟨#[93, 91, 45]⟩)), (.tmp 19)], argTypes := #[9, 5] }) 20 3 93 _ (W.z2c (⟨#[93, 91, 45]⟩ : ByteArray) y4.1 y14 e15  p4 ) ?_
    rintro _ w7 ⟨S7, rfl, z7, p7⟩
    refine Gn 4 [(21, .bool (decide (y14 ≥ 0))), (22, .bool (decide (y14 ≥ 0))), (11, .bool (decide (y14 ≥ 0)))] Jht ?_
    have p7 := (p7.fr 0).fr 1
    exact Gj 39 [(0, (pt gx0 0)), (2, (pt b2 0)), (3, .int .u8 y4.1), (11, .bool (decide (y14 ≥ 0)))] (W.z2j gx0 _ _ h _ _ (((((Ext.refl S0 w0).trans z2).trans z3).trans z4).trans z7) b2 uf8 p7 rfl (ufb.ext z7))

def Jie := Zs [1, 1, 1, 1, 1, 1, 1, 1, 1] B111 []
def Jif := Zb 0 Jie
def Jig := Zs [1, 1, 1, 1, 1, 1, 1, 1, 0, 0, 1] B111 Jif
def Jih := Zs [1, 1, 1, 1, 1, 1, 1, 1, 1, 1] B111 []
def Jii := Zt [1, 1, 1, 1, 1, 1, 1, 1, 1, 0] B111 [1, 2] Jih
def Jij := Zs [1, 1, 1, 1, 1, 1, 1, 1, 0, 0, 1, 1, 1] B111 Jif
def Jik := Zt [1, 1, 1, 1, 1, 1, 1, 1, 0, 0, 1, 1, 0] B111 [1, 2, 3] Jij
def Jil := Zs [1, 1, 1, 1, 1, 1, 1, 1, 0, 0, 1, 1, 1, 1, 1] B111 Jif
def Qdd := sub [1, 1, 1, 1, 1, 1, 1, 1, 0, 0, 1, 1, 1, 1, 0] B111
def Jim := Zr Qdd [1, 2, 3, 4, 5] Jil
def Jin := Zr Qdd [3, 4, 5] Jil
def Jio := Zt [1, 1, 1, 1, 1, 1, 1, 1, 0, 0, 1, 1, 1, 1, 1, 0] B111 [2] Jif
def Jip := Zs [1, 1, 1, 1, 1, 1, 1, 1, 0, 0, 1, 1, 1, 1, 1, 1, 1] B111 Jif
def Qdg := sub [1, 1, 1, 1, 1, 1, 1, 1, 0, 0, 1, 1, 1, 1, 1, 1, 0] B111
def Jiq := Zr Qdg [1, 2, 3, 4, 5] Jip
def Jir := Zr Qdg [3, 4, 5] Jip
def Jis := Zt [1, 1, 1, 1, 1, 1, 1, 1, 0, 0, 1, 1, 1, 0] B111 [3] Jif

def Post.z2k (gx0 : Nat) (r : (List Int) × T78) (v : Value) (w' : World) : Prop :=
 ∃ S' vsq ud8, v = .agg vsq.toArray ∧ Ext S0 w0 S' w' ∧ Hp nz wz S' w' ((some gx0, .row 79 [.string r.2.s, .i r.2.at_, .i r.2.deep, ud8] 4 0) :: Lr) ∧ Els (kInt .u64) S' w' vsq r.1 ∧ vsq.length = 4 ∧ PtO kT82 S' w' ud8 r.2.bad

def L.z2l (gx0 : Nat) : (List Int) × Int × T142 × Int × T142 × Bool × T78 → ((List Int) × T78) → Prop := fun ⟨udh, x3, x4v, x5, x6v, x47, e0v⟩ r => ∀ S1 w1, Ext S0 w0 S1 w1 → ∀ gx2 gx4 gx6 ud8 (_ : Hp nz wz S1 w1 ((some gx2, .row 44 (U4 udh []) 4 0) :: (some gx4, .row 143 (U4 x4v.set_ [.int .u8 x4v.b, .bool x4v.single]) 6 0) :: (some gx6, .row 143 (U4 x6v.set_ [.int .u8 x6v.b, .bool x6v.single]) 6 0) :: (some gx0, .row 79 [.string e0v.s, .i e0v.at_, .i e0v.deep, ud8] 4 0) :: Lr)) (_ : udh.length = 4) (_ : x4v.set_.length = 4) (_ : x6v.set_.length = 4) (_ : PtO kT82 S1 w1 ud8 e0v.bad) (junk : Nat → Value),
 Goes Tryz.prog (base 111) Jig ⟨lfr 72 [(0, (pt gx0 0)), (2, (pt gx2 0)), (3, .i x3), (4, (pt gx4 0)), (5, .i x5), (6, (pt gx6 0)), (47, .bool x47)] junk, []⟩ w1 (Done Tryz.prog 111 (Rets (Post.z2k nz wz S0 w0 Lr gx0 r)))

theorem W.z2l {nz wz S0 w0 Lr} (gx0 : Nat) : ∀ a r, M.syntax_parser_pair_l0 a = some r → L.z2l nz wz S0 w0 Lr gx0 a r := by
 intro ⟨udh, x3, x4v, x5, x6v, x47, e0v⟩ r h S1 w1 hx gx2 gx4 gx6 ud8 p1 udl udq ugc ud9 junk
 rw [M.syntax_parser_pair_l0] at h
 try dsimp only at h
 refine ite_some h (fun h28 h => ?_) (fun h28 h => ?_)
 ·
  rw [h28]
  refine Gn 6 [(70, (pt gx4 0))] Jii ?_
  refine Goes.ldN 44 (.tmp 70) 71 44 ⟨gx4, 0, none⟩ (U4 x4v.set_ []) (p1.pa 1 0) ?_
  refine So 44 (.tmp 2) (.tmp 71) 0 0 gx2 0 (ag (U4 x4v.set_ [])) (U4 x4v.set_ []) p1 rfl Goes.s ?_
  intro w14 z14 p14
  have p14 : Hp nz wz S1 w14 ((some gx2, .row 44 (U4 x4v.set_ []) 4 0) :: (some gx4, .row 143 (U4 x4v.set_ [.int .u8 x4v.b, .bool x4v.single]) 6 0) :: (some gx6, .row 143 (U4 x6v.set_ [.int .u8 x6v.b, .bool x6v.single]) 6 0) :: (some gx0, .row 79 [.string e0v.s, .i e0v.at_, .i e0v.deep, ud8] 4 0) :: Lr) := p14
  refine Gn 1 [] Jih ?_
  obtain rfl := Option.some.inj h
  have p14 := (p14.dp 1).dp 1
  exact Goes.ret (fn := Tryz.f111) (by kernel_rfl) (v := (ag (U4 x4v.set_ []))) (results_n1 (fn := Tryz.f111) (a := .cell 2 44) (by kernel_rfl) (resV_cell ⟨gx2, 0, none⟩ (by kernel_rfl) (run_loadN (U4 x4v.set_ []) (by kernel_rfl) (by kernel_rfl) (p14.pa 0 0)))) ⟨S1, ((U4 x4v.set_ []) : List Value), ud8, rfl, (hx.trans z14), p14.drop, (els_mk4 (S := S1) (w := w14) (k := .u64) udq), rfl, (ud9.ext z14)⟩
 ·
  have ugd : x47 = false := by simpa using h28
  rw [ugd]
  refine Gn 4 [(54, (pt gx6 5))] Jik ?_
  refine Goes.ld 4 (.tmp 54) 55 4 ⟨gx6, 5, none⟩ (.bool x6v.single) (p1.c 2 5) ?_
  refine Gn 3 [(56, .bool (!x6v.single)), (53, .bool (!x6v.single))] Jij ?_
  refine ite_some h (fun h29 h => ?_) (fun h29 h => ?_)
  ·
   rw [h29]
   have p1 : Hp nz wz S1 w1 ((some gx2, .row 44 (U4 udh []) 4 0) :: (some gx4, .row 143 (U4 x4v.set_ [.int .u8 x4v.b, .bool x4v.single]) 6 0) :: (some gx6, .row 143 (U4 x6v.set_ [.int .u8 x6v.b, .bool true]) 6 0) :: (some gx0, .row 79 [.string e0v.s, .i e0v.at_, .i e0v.deep, ud8] 4 0) :: Lr) := by simp only [h29] at p1; exact p1
   refine Gn 4 [(62, (pt gx4 4))] Jim ?_
   refine Goes.ld 5 (.tmp 62) 63 5 ⟨gx4, 4, none⟩ (.int .u8 x4v.b) (p1.c 1 4) ?_
   refine Gn 1 [(64, (pt gx6 4))] Jin ?_
   refine Goes.ld 5 (.tmp 64) 65 5 ⟨gx6, 4, none⟩ (.int .u8 x6v.b) (p1.c 2 4) ?_
   refine Gn 3 [(66, .bool (decide (x4v.b > x6v.b))), (61, .bool (decide (x4v.b > x6v.b)))] Jil ?_
   refine ite_some h (fun h30 h => ?_) (fun h30 h => ?_)
   ·
    rw [decide_eq_true h30]
    refine Gn 4 [(67, (pt gx0 0)), (68, .i x3)] Jio ?_
    have p1 := p1.fr 3
    refine bind_some' h fun y31 e32 h => ?_
    refine Gc (kc 37 [67, 68] #[76, 3]) 69 58 37 _ (W.z1w e0v x3 y31 e32 gx0 ud8 p1 ud9) ?_
    rintro _ w15 ⟨S15, uge, ugf, ugg, ugh, rfl, z15, p15, ugi, ugj, rfl, ugk⟩
    have p15 := p15.dp 3
    refine Gn 5 [(70, (pt gx4 0))] Jii ?_
    refine Goes.ldN 44 (.tmp 70) 71 44 ⟨gx4, 0, none⟩ (U4 x4v.set_ []) (p15.pa 2 0) ?_
    refine So 44 (.tmp 2) (.tmp 71) 0 1 gx2 0 (ag (U4 x4v.set_ [])) (U4 x4v.set_ []) p15 rfl Goes.s ?_
    intro w16 z16 p16
    have p16 : Hp nz wz S15 w16 ((some gx0, .row 79 [.string y31.2.s, .i y31.2.at_, .i y31.2.deep, ugh] 4 0) :: (some gx2, .row 44 (U4 x4v.set_ []) 4 0) :: (some gx4, .row 143 (U4 x4v.set_ [.int .u8 x4v.b, .bool x4v.single]) 6 0) :: Lr) := p16
    refine Gn 1 [] Jih ?_
    obtain rfl := Option.some.inj h
    have p16 := p16.dp 2
    have p16 := (p16.fr 0).fr 1
    exact Goes.ret (fn := Tryz.f111) (by kernel_rfl) (v := (ag (U4 x4v.set_ []))) (results_n1 (fn := Tryz.f111) (a := .cell 2 44) (by kernel_rfl) (resV_cell ⟨gx2, 0, none⟩ (by kernel_rfl) (run_loadN (U4 x4v.set_ []) (by kernel_rfl) (by kernel_rfl) (p16.pa 0 0)))) ⟨S15, ((U4 x4v.set_ []) : List Value), ugh, rfl, ((hx.trans z15).trans z16), p16.drop, (els_mk4 (S := S15) (w := w16) (k := .u64) udq), rfl, (ugk.ext z16)⟩
   ·
    rw [decide_eq_false h30]
    refine Gn 4 [(42, (pt gx4 4))] Jiq ?_
    refine Goes.ld 5 (.tmp 42) 43 5 ⟨gx4, 4, none⟩ (.int .u8 x4v.b) (p1.c 1 4) ?_
    refine Gn 1 [(44, (pt gx6 4))] Jir ?_
    refine Goes.ld 5 (.tmp 44) 45 5 ⟨gx6, 4, none⟩ (.int .u8 x6v.b) (p1.c 2 4) ?_
    refine bind_some' h fun y33 e34 h => ?_
    refine Gc (kc 112 [43, 45] #[5, 5]) 46 44 112 _ (W.z23 x4v.b x6v.b y33 e34  p1 ) ?_
    rintro _ w17 ⟨S17, ugl, rfl, z17, p17, ugm, ugn⟩
    have p17 := (p17.dp 1).dp 1
    have f35 : Els (kInt .u64) S17 w17 ((U4 udh []) : List Value) udh := (els_mk4 (k := .u64) udl)
    refine Op_.stA 44 (.tmp 2) (.tmp 46) 0 0 gx2 4 ugl p17 rfl rfl Goes.s (by kernel_rfl) (by kernel_rfl) (by kernel_rfl) ugn (Els.one ugm) ?_
    intro w18 z18 p18
    refine Gn 1 [] Jip ?_
    obtain rfl := Option.some.inj h
    exact Goes.ret (fn := Tryz.f111) (by kernel_rfl) (v := .agg ugl.toArray) (results_n1 (fn := Tryz.f111) (a := .cell 2 44) (by kernel_rfl) (resV_cell ⟨gx2, 0, none⟩ (by kernel_rfl) (run_loadN ugl (by kernel_rfl) (by rw [ugn]; kernel_rfl) (At_all (p18.mem 0 rfl))))) ⟨S17, ugl, ud8, rfl, ((hx.trans z17).trans z18), p18.drop, (ugm.ext z18), ugn, (ud9.ext (z17.trans z18))⟩
  ·
   have u2p : x6v.single = false := by simpa using h29
   rw [u2p]
   have p1 : Hp nz wz S1 w1 ((some gx2, .row 44 (U4 udh []) 4 0) :: (some gx4, .row 143 (U4 x4v.set_ [.int .u8 x4v.b, .bool x4v.single]) 6 0) :: (some gx6, .row 143 (U4 x6v.set_ [.int .u8 x6v.b, .bool false]) 6 0) :: (some gx0, .row 79 [.string e0v.s, .i e0v.at_, .i e0v.deep, ud8] 4 0) :: Lr) := by simp only [u2p] at p1; exact p1
   refine Gn 5 [(57, (pt gx0 0)), (58, .i x5), (59, .i (wr .i64 (x5 + 1)))] Jis ?_
   have p1 := p1.fr 3
   refine bind_some' h fun y36 e37 h => ?_
   refine Gc (kc 37 [57, 59] #[76, 3]) 60 58 37 _ (W.z1w e0v (wr .i64 (x5 + 1)) y36 e37 gx0 ud8 p1 ud9) ?_
   rintro _ w19 ⟨S19, ugo, ugp, ugq, ugr, rfl, z19, p19, ugs, ugt, rfl, ugu⟩
   have p19 := p19.dp 3
   refine Gn 5 [(70, (pt gx4 0))] Jii ?_
   refine Goes.ldN 44 (.tmp 70) 71 44 ⟨gx4, 0, none⟩ (U4 x4v.set_ []) (p19.pa 2 0) ?_
   refine So 44 (.tmp 2) (.tmp 71) 0 1 gx2 0 (ag (U4 x4v.set_ [])) (U4 x4v.set_ []) p19 rfl Goes.s ?_
   intro w20 z20 p20
   have p20 : Hp nz wz S19 w20 ((some gx0, .row 79 [.string y36.2.s, .i y36.2.at_, .i y36.2.deep, ugr] 4 0) :: (some gx2, .row 44 (U4 x4v.set_ []) 4 0) :: (some gx4, .row 143 (U4 x4v.set_ [.int .u8 x4v.b, .bool x4v.single]) 6 0) :: Lr) := p20
   refine Gn 1 [] Jih ?_
   obtain rfl := Option.some.inj h
   have p20 := p20.dp 2
   have p20 := (p20.fr 0).fr 1
   exact Goes.ret (fn := Tryz.f111) (by kernel_rfl) (v := (ag (U4 x4v.set_ []))) (results_n1 (fn := Tryz.f111) (a := .cell 2 44) (by kernel_rfl) (resV_cell ⟨gx2, 0, none⟩ (by kernel_rfl) (run_loadN (U4 x4v.set_ []) (by kernel_rfl) (by kernel_rfl) (p20.pa 0 0)))) ⟨S19, ((U4 x4v.set_ []) : List Value), ugr, rfl, ((hx.trans z19).trans z20), p20.drop, (els_mk4 (S := S19) (w := w20) (k := .u64) udq), rfl, (ugu.ext z20)⟩

def Jit := Zs [1] B111 []
def Jiu := Zt [0] B111 [0] Jit
def Jiv := Zs [1, 1] B111 []
def Jiw := Zt [1, 0] B111 [3, 4] Jiv
def Jix := Zs [1, 1, 1] B111 []
def Jiy := Zt [1, 1, 0] B111 [1, 2, 3] Jix
def Jiz := Zs [1, 1, 1, 1] B111 []
def Jj0 := Zs [1, 1, 1, 0, 1] B111 Jiz
def Jj1 := Zt [1, 1, 1, 0, 0] B111 [1, 2] Jj0
def Jj2 := Zs [1, 1, 1, 1, 1] B111 []
def Jj3 := Zs [1, 1, 1, 1, 0, 1] B111 Jj2
def Jj4 := Zt [1, 1, 1, 1, 0, 0] B111 [1, 2] Jj3
def Jj5 := Zs [1, 1, 1, 1, 1, 1] B111 []
def Qdv := sub [1, 1, 1, 1, 1, 0] B111
def Jj6 := Zr Qdv [3, 4, 5, 6, 7] Jj5
def Jj7 := Zr Qdv [7] Jj5
def Jj8 := Zs [1, 1, 1, 1, 1, 1, 1] B111 []
def Jj9 := Zt [1, 1, 1, 1, 1, 1, 0] B111 [3, 4] Jj8
def Jja := Zs [1, 1, 1, 1, 1, 1, 1, 1] B111 []
def Jjb := Zt [1, 1, 1, 1, 1, 1, 1, 0] B111 [1, 2, 3] Jja
def Jjc := Zt [1, 1, 1, 1, 1, 1, 1, 1, 0, 0, 0] B111 [3, 4, 5] Jig
def Jjd := Zs [1, 1, 1, 1, 0, 1, 0, 1] B111 Jj2
def Jje := Zt [1, 1, 1, 1, 0, 1, 0, 0] B111 [4, 5] Jjd
def Jjf := Zs [1, 1, 1, 1, 0, 1, 0, 1, 1] B111 Jj2
def Jjg := Zt [1, 1, 1, 1, 0, 1, 0, 1, 0] B111 [1, 2] Jjf
def Jjh := Zs [1, 1, 1, 0, 1, 0, 1] B111 Jiz
def Jji := Zt [1, 1, 1, 0, 1, 0, 0] B111 [1, 2] Jjh

theorem W.z2k (x0v : T78) (r : (List Int) × T78) (h : M.syntax_parser_pair x0v = some r) {nz wz S0 w0 Lr} (gx0 uda) (p0 : Hp nz wz S0 w0 ((some gx0, .row 79 [.string x0v.s, .i x0v.at_, .i x0v.deep, uda] 4 0) :: Lr)) (udb : PtO kT82 S0 w0 uda x0v.bad) :
  Calls Tryz.prog 111 #[(pt gx0 0)] w0 (Rets (Post.z2k nz wz S0 w0 Lr gx0 r)) := by
 refine Zf Tryz.f111 B111 71 ?_
 refine Gj 72 [(0, (pt gx0 0))] fun junk => ?_
 delta M.syntax_parser_pair at h
 refine Gn 2 [] Jiu ?_
 refine Op_.alloc 44 2 0 (.agg #[.u 0, .u 0, .u 0, .u 0]) [.u 0, .u 0, .u 0, .u 0] p0 Goes.v (by kernel_rfl) (by kernel_rfl) ?_
 intro b2 w2 z2 p2
 refine Gn 6 [(7, (pt gx0 0)), (8, (pt gx0 0)), (9, (pt gx0 1))] Jiw ?_
 refine Goes.ld 3 (.tmp 9) 10 3 ⟨gx0, 1, none⟩ (.i x0v.at_) (p2.c 1 1) ?_
 refine Gn 5 [(3, .i x0v.at_), (11, (pt gx0 0))] Jiy ?_
 have p2 := p2.fr 1
 refine bind_some' h fun y4 e5 h => ?_
 refine Gc (kc 114 [11] #[76]) 12 143 114 _ (W.z2i x0v y4 e5 gx0 uda p2 (udb.ext z2)) ?_
 rintro _ w3 ⟨S3, ufn, rfl, z3, p3, ugv, ufo⟩
 refine Op_.alloc 143 4 0 (.agg #[.u 0, .u 0, .u 0, .u 0, .int .u8 0, .bool false]) [.u 0, .u 0, .u 0, .u 0, .int .u8 0, .bool false] p3 Goes.v (by kernel_rfl) (by kernel_rfl) ?_
 intro b6 w4 z4 p4
 refine So 143 (.tmp 4) (.tmp 12) 0 0 b6 0 (ag (U4 y4.1.set_ [.int .u8 y4.1.b, .bool y4.1.single])) (U4 y4.1.set_ [.int .u8 y4.1.b, .bool y4.1.single]) p4 rfl Goes.s ?_
 intro w5 z5 p5
 have p5 : Hp nz wz S3 w5 ((some b6, .row 143 (U4 y4.1.set_ [.int .u8 y4.1.b, .bool y4.1.single]) 6 0) :: (some gx0, .row 79 [.string y4.2.s, .i y4.2.at_, .i y4.2.deep, ufn] 4 0) :: (some b2, .row 44 [.u 0, .u 0, .u 0, .u 0] 4 0) :: Lr) := p5
 refine Gn 5 [(13, (pt gx0 0))] Jj1 ?_
 have p5 := p5.fr 1
 refine bind_some' h fun y8 e9 h => ?_
 refine Gc (kc 74 [13] #[76]) 14 5 74 _ (W.z1u y4.2 y8 e9 gx0 ufn p5 (ufo.ext (z4.trans z5))) ?_
 rintro _ w6 ⟨S6, ugw, rfl, z6, p6, ugx⟩
 refine Gn 2 [(15, .bool (!(decide (y8.1 = 45))))] Jj0 ?_
 refine ite_some h (fun h10 h => ?_) (fun h10 h => ?_)
 ·
  rw [decide_eq_true h10]
  refine Gn 6 [(18, (pt b6 5))] Jj4 ?_
  refine Goes.ld 4 (.tmp 18) 19 4 ⟨b6, 5, none⟩ (.bool y4.1.single) (p6.c 1 5) ?_
  refine Gn 2 [(20, .bool (!y4.1.single))] Jj3 ?_
  refine ite_some h (fun h11 h => ?_) (fun h11 h => ?_)
  ·
   rw [h11]
   have p6 : Hp nz wz S6 w6 ((some gx0, .row 79 [.string y8.2.s, .i y8.2.at_, .i y8.2.deep, ugw] 4 0) :: (some b6, .row 143 (U4 y4.1.set_ [.int .u8 y4.1.b, .bool true]) 6 0) :: (some b2, .row 44 [.u 0, .u 0, .u 0, .u 0] 4 0) :: Lr) := by simp only [h11] at p6; exact p6
   refine Gn 7 [(29, (pt gx0 0)), (30, (pt gx0 0)), (31, (pt gx0 1))] Jj6 ?_
   refine Goes.ld 3 (.tmp 31) 32 3 ⟨gx0, 1, none⟩ (.i y8.2.at_) (p6.c 0 1) ?_
   refine Gn 3 [(33, .i (wr .i64 (y8.2.at_ + 1))), (34, (pt gx0 0)), (35, (pt gx0 1))] Jj7 ?_
   refine So 3 (.tmp 35) (.tmp 33) 0 0 gx0 1 (.i (wr .i64 (y8.2.at_ + 1))) [.i (wr .i64 (y8.2.at_ + 1))] p6 rfl Goes.s ?_
   intro w7 z7 p7
   have p7 : Hp nz wz S6 w7 ((some gx0, .row 79 [.string y8.2.s, .i (wr .i64 (y8.2.at_ + 1)), .i y8.2.deep, ugw] 4 0) :: (some b6, .row 143 (U4 y4.1.set_ [.int .u8 y4.1.b, .bool true]) 6 0) :: (some b2, .row 44 [.u 0, .u 0, .u 0, .u 0] 4 0) :: Lr) := p7
   refine Gn 6 [(36, (pt gx0 0)), (37, (pt gx0 0)), (38, (pt gx0 1))] Jj9 ?_
   refine Goes.ld 3 (.tmp 38) 39 3 ⟨gx0, 1, none⟩ (.i (wr .i64 (y8.2.at_ + 1))) (p7.c 0 1) ?_
   refine Gn 5 [(5, .i (wr .i64 (y8.2.at_ + 1))), (40, (pt gx0 0))] Jjb ?_
   refine bind_some' h fun y12 e13 h => ?_
   refine Gc (kc 114 [40] #[76]) 41 143 114 _ (W.z2i (⟨y8.2.s, wr .i64 (y8.2.at_ + 1), y8.2.deep, y8.2.bad⟩ : T78) y12 e13 gx0 ugw p7 (ugx.ext z7)) ?_
   rintro _ w8 ⟨S8, ug3, rfl, z8, p8, ugy, ug6⟩
   refine Op_.alloc 143 6 0 (.agg #[.u 0, .u 0, .u 0, .u 0, .int .u8 0, .bool false]) [.u 0, .u 0, .u 0, .u 0, .int .u8 0, .bool false] p8 Goes.v (by kernel_rfl) (by kernel_rfl) ?_
   intro b14 w9 z9 p9
   refine So 143 (.tmp 6) (.tmp 41) 0 0 b14 0 (ag (U4 y12.1.set_ [.int .u8 y12.1.b, .bool y12.1.single])) (U4 y12.1.set_ [.int .u8 y12.1.b, .bool y12.1.single]) p9 rfl Goes.s ?_
   intro w10 z10 p10
   have p10 : Hp nz wz S8 w10 ((some b14, .row 143 (U4 y12.1.set_ [.int .u8 y12.1.b, .bool y12.1.single]) 6 0) :: (some gx0, .row 79 [.string y12.2.s, .i y12.2.at_, .i y12.2.deep, ug3] 4 0) :: (some b6, .row 143 (U4 y4.1.set_ [.int .u8 y4.1.b, .bool true]) 6 0) :: (some b2, .row 44 [.u 0, .u 0, .u 0, .u 0] 4 0) :: Lr) := p10
   refine Gn 8 [(48, (pt gx0 0)), (49, (pt gx0 0)), (50, (pt gx0 3))] Jjc ?_
   refine Goes.ld 77 (.tmp 50) 51 77 ⟨gx0, 3, none⟩ (ug3) (p10.c 1 3) ?_
   refine let_some h fun v25 h16 h => ?_
   rcases v25 with _ | y17
   ·
    try dsimp only at h
    obtain rfl := PtO.nil (ug6.ext (z9.trans z10)) h16
    refine Gn 3 [(52, .bool false), (47, .bool false)] Jig ?_
    have p10 := (((p10.fr 1).fr 1).fr 2).fr 3
    exact Gj 72 [(0, (pt gx0 0)), (2, (pt b2 0)), (3, .i x0v.at_), (4, (pt b6 0)), (5, .i (wr .i64 (y8.2.at_ + 1))), (6, (pt b14 0)), (47, .bool false)] (W.z2l gx0 _ _ h _ _ ((((((((((Ext.refl S0 w0).trans z2).trans z3).trans z4).trans z5).trans z6).trans z7).trans z8).trans z9).trans z10) b2 b6 b14 (.pointer none) p10 rfl ugv ugy rfl)
   ·
    try dsimp only at h
    obtain ⟨a19, _, rfl, -, f20, q21⟩ := PtO.got (ug6.ext (z9.trans z10)) h16
    obtain rfl := q21
    refine Gn 3 [(52, .bool true), (47, .bool true)] Jig ?_
    have p10 := (((p10.fr 1).fr 1).fr 2).fr 3
    exact Gj 72 [(0, (pt gx0 0)), (2, (pt b2 0)), (3, .i x0v.at_), (4, (pt b6 0)), (5, .i (wr .i64 (y8.2.at_ + 1))), (6, (pt b14 0)), (47, .bool true)] (W.z2l gx0 _ _ h _ _ ((((((((((Ext.refl S0 w0).trans z2).trans z3).trans z4).trans z5).trans z6).trans z7).trans z8).trans z9).trans z10) b2 b6 b14 (.pointer (some a19)) p10 rfl ugv ugy ⟨_, _, rfl, List.cons_ne_nil _ _, f20, rfl⟩)
  ·
   have ufs : y4.1.single = false := by simpa using h11
   rw [ufs]
   have p6 : Hp nz wz S6 w6 ((some gx0, .row 79 [.string y8.2.s, .i y8.2.at_, .i y8.2.deep, ugw] 4 0) :: (some b6, .row 143 (U4 y4.1.set_ [.int .u8 y4.1.b, .bool false]) 6 0) :: (some b2, .row 44 [.u 0, .u 0, .u 0, .u 0] 4 0) :: Lr) := by simp only [ufs] at p6; exact p6
   refine Gn 7 [(21, (pt gx0 0)), (22, (pt gx0 0)), (23, (pt gx0 0)), (24, (pt gx0 1))] Jje ?_
   refine Goes.ld 3 (.tmp 24) 25 3 ⟨gx0, 1, none⟩ (.i y8.2.at_) (p6.c 0 1) ?_
   refine bind_some' h fun y26 e27 h => ?_
   refine Gc (kc 37 [21, 25] #[76, 3]) 26 58 37 _ (W.z1w y8.2 y8.2.at_ y26 e27 gx0 ugw p6 ugx) ?_
   rintro _ w11 ⟨S11, ugz, uh0, uh1, ufv, rfl, z11, p11, uh2, uh3, rfl, ufw⟩
   refine Gn 4 [(27, (pt b6 0))] Jjg ?_
   refine Goes.ldN 44 (.tmp 27) 28 44 ⟨b6, 0, none⟩ (U4 y4.1.set_ []) (p11.pa 1 0) ?_
   refine So 44 (.tmp 2) (.tmp 28) 0 2 b2 0 (ag (U4 y4.1.set_ [])) (U4 y4.1.set_ []) p11 rfl Goes.s ?_
   intro w12 z12 p12
   have p12 : Hp nz wz S11 w12 ((some gx0, .row 79 [.string y26.2.s, .i y26.2.at_, .i y26.2.deep, ufv] 4 0) :: (some b6, .row 143 (U4 y4.1.set_ [.int .u8 y4.1.b, .bool false]) 6 0) :: (some b2, .row 44 (U4 y4.1.set_ []) 4 0) :: Lr) := p12
   refine Gn 1 [] Jjf ?_
   obtain rfl := Option.some.inj h
   have p12 := p12.dp 1
   have p12 := (p12.fr 0).fr 1
   exact Goes.ret (fn := Tryz.f111) (by kernel_rfl) (v := (ag (U4 y4.1.set_ []))) (results_n1 (fn := Tryz.f111) (a := .cell 2 44) (by kernel_rfl) (resV_cell ⟨b2, 0, none⟩ (by kernel_rfl) (run_loadN (U4 y4.1.set_ []) (by kernel_rfl) (by kernel_rfl) (p12.pa 0 0)))) ⟨S11, ((U4 y4.1.set_ []) : List Value), ufv, rfl, ((((((((Ext.refl S0 w0).trans z2).trans z3).trans z4).trans z5).trans z6).trans z11).trans z12), p12.drop, (els_mk4 (S := S11) (w := w12) (k := .u64) ugv), rfl, (ufw.ext z12)⟩
 ·
  rw [decide_eq_false h10]
  refine Gn 4 [(16, (pt b6 0))] Jji ?_
  refine Goes.ldN 44 (.tmp 16) 17 44 ⟨b6, 0, none⟩ (U4 y4.1.set_ []) (p6.pa 1 0) ?_
  refine So 44 (.tmp 2) (.tmp 17) 0 2 b2 0 (ag (U4 y4.1.set_ [])) (U4 y4.1.set_ []) p6 rfl Goes.s ?_
  intro w13 z13 p13
  have p13 : Hp nz wz S6 w13 ((some gx0, .row 79 [.string y8.2.s, .i y8.2.at_, .i y8.2.deep, ugw] 4 0) :: (some b6, .row 143 (U4 y4.1.set_ [.int .u8 y4.1.b, .bool y4.1.single]) 6 0) :: (some b2, .row 44 (U4 y4.1.set_ []) 4 0) :: Lr) := p13
  refine Gn 1 [] Jjh ?_
  obtain rfl := Option.some.inj h
  have p13 := p13.dp 1
  have p13 := (p13.fr 0).fr 1
  exact Goes.ret (fn := Tryz.f111) (by kernel_rfl) (v := (ag (U4 y4.1.set_ []))) (results_n1 (fn := Tryz.f111) (a := .cell 2 44) (by kernel_rfl) (resV_cell ⟨b2, 0, none⟩ (by kernel_rfl) (run_loadN (U4 y4.1.set_ []) (by kernel_rfl) (by kernel_rfl) (p13.pa 0 0)))) ⟨S6, ((U4 y4.1.set_ []) : List Value), ugw, rfl, (((((((Ext.refl S0 w0).trans z2).trans z3).trans z4).trans z5).trans z6).trans z13), p13.drop, (els_mk4 (S := S6) (w := w13) (k := .u64) ugv), rfl, (ugx.ext z13)⟩

def Jjj := Zt [1, 1, 1, 0, 1, 0, 1, 0] B96 [0, 1, 2, 3, 4] Jb0
def Qe8 := sub [1, 1, 1, 0, 1, 0] B96
def Qe9 := sub [1, 1, 1, 0, 1, 0, 0] B96
def Qea := sub [1, 1, 1, 0, 1, 0, 1] B96

def Post.z2m (lk : Nat) (rk : Nat) (jkk : Nat → Value) (u9e : Nat) (uh4 : Option Nat) (uh5 : Nat) (uh6 : Nat) (uh7 : List Value) (uh8 : Nat) (uh9 : Nat) (uha : Nat) (uhb : Value) (uhc : T57) (kq3 : Bool) (uhd : T78) (r : List Int) (v : Value) (w' : World) : Prop :=
 ∃ S' uhe, v = .bool true ∧ Ext S0 w0 S' w' ∧ Hp nz wz S' w' ((some lk, .obj (lpst 96 (lfr 20 [(2, (pt u9e 0)), (3, .bool kq3), (4, (pt uh8 0)), (9, .func (.func 110) #[] #[(pt uh9 0)])] jkk) #[10] (rfAssign (Qe8)) (rfBody (Qe8)) rk .ready none)) :: (some u9e, .row 58 (.i uhc.Kind :: U4 uhc.Set [.slice (Gp uh4) uh5 uh6, .i uhc.Min, .i uhc.Max]) 8 0) :: (uh4, .row 58 uh7 (uh6 * kT57.size) 0) :: (some uh8, .row 44 uhe 4 0) :: (some uh9, .row 76 [(pt uha 0)] 1 0) :: (some uha, .row 79 [.string uhd.s, .i uhd.at_, .i uhd.deep, uhb] 4 0) :: Lr) ∧ Els (kInt .u64) S' w' uhe r ∧ uhe.length = 4

theorem W.z2m (uhc : T57) (kq3 : Bool) (kq4 : List Int) (uhd : T78) (a0 : List Int) (r : List Int) (h : M.syntax_parser_class_r_2 uhc kq3 kq4 uhd a0 = some r) {nz wz S0 w0 Lr} (lk rk jkk u9e uh4 uh5 uh6 uh7 uh8 uhf uh9 uha uhb uhg) (p0 : Hp nz wz S0 w0 ((some lk, .obj (lpst 96 (lfr 20 [(2, (pt u9e 0)), (3, .bool kq3), (4, (pt uh8 0)), (9, .func (.func 110) #[] #[(pt uh9 0)])] jkk) #[10] (rfAssign (Qe8)) (rfBody (Qe8)) rk .ready none)) :: (some u9e, .row 58 (.i uhc.Kind :: U4 uhc.Set [.slice (Gp uh4) uh5 uh6, .i uhc.Min, .i uhc.Max]) 8 0) :: (uh4, .row 58 uh7 (uh6 * kT57.size) 0) :: (some uh8, .row 44 uhf 4 0) :: (some uh9, .row 76 [(pt uha 0)] 1 0) :: (some uha, .row 79 [.string uhd.s, .i uhd.at_, .i uhd.deep, uhb] 4 0) :: Lr)) (uhh : uhc.Set.length = 4) (uhi : Els kT57 S0 w0 uh7 uhc.L) (uhj : uhc.L.length = uh5) (uhk : Els (kInt .u64) S0 w0 uhf kq4) (uhl : uhf.length = 4) (uhm : PtO kT82 S0 w0 uhb uhd.bad) (fa0 : Els (kInt .u64) S0 w0 uhg a0) (la0 : uhg.length = 4) :
  Goes Tryz.prog (rbase 96 lk) [.code (rfAssign (Qe8)), .beginRound, .code (rfBody (Qe8))] ⟨setp (lfr 20 [(2, (pt u9e 0)), (3, .bool kq3), (4, (pt uh8 0)), (9, .func (.func 110) #[] #[(pt uh9 0)])] jkk) #[10] #[.agg uhg.toArray], []⟩ w0 (DoneR (Post.z2m nz wz S0 w0 Lr lk rk jkk u9e uh4 uh5 uh6 uh7 uh8 uh9 uha uhb uhc kq3 uhd r)) := by
 subst uhj
 refine Gj 20 [(2, (pt u9e 0)), (3, .bool kq3), (4, (pt uh8 0)), (9, .func (.func 110) #[] #[(pt uh9 0)]), (10, .agg uhg.toArray)] fun junk => ?_
 delta M.syntax_parser_class_r_2 at h
 refine Gn 1 [] [.inRegion (opsOf (Qe9)) [0, 1], .beginRound, .code (Qea)] ?_
 refine Op_.alloc 44 5 0 (.agg #[.u 0, .u 0, .u 0, .u 0]) [.u 0, .u 0, .u 0, .u 0] p0 Goes.v (by kernel_rfl) (by kernel_rfl) ?_
 intro b7 w2 z2 p2
 have f9 : Els (kInt .u64) S0 w2 ([.u 0, .u 0, .u 0, .u 0] : List Value) [0, 0, 0, 0] := (Els.cons (K := (kInt .u64)) (vs := [.u 0]) (x := 0) rfl (Els.cons (K := (kInt .u64)) (vs := [.u 0]) (x := 0) rfl (Els.cons (K := (kInt .u64)) (vs := [.u 0]) (x := 0) rfl (Els.cons (K := (kInt .u64)) (vs := [.u 0]) (x := 0) rfl Els.nil))))
 refine Op_.stA 44 (.tmp 5) (.tmp 10) 0 0 b7 4 uhg p2 rfl rfl Goes.s (by kernel_rfl) (by kernel_rfl) (by kernel_rfl) la0 (Els.one (fa0.ext z2)) ?_
 intro w3 z3 p3
 refine Gn 1 [] [.beginRound, .code (Qea)] ?_
 refine Goes.beginR 1 rfl p3 rfl ?_
 intro w4 z4 p4
 refine Gn 2 [] Jjj ?_
 refine Op_.ldN 44 (.tmp 4) 11 44 ⟨uh8, 0, none⟩ uhf Goes.v (by kernel_rfl) (by kernel_rfl) (by rw [uhl]; kernel_rfl) (At_all (p4.mem 4 rfl)) ?_
 refine Op_.ldN 44 (.tmp 5) 12 44 ⟨b7, 0, none⟩ uhg Goes.v (by kernel_rfl) (by kernel_rfl) (by rw [la0]; kernel_rfl) (At_all (p4.mem 0 rfl)) ?_
 have l10 := Els.len1 (uhk.ext ((z2.trans z3).trans z4)) uhl rfl
 obtain rfl := els_lit4 (uhk.ext ((z2.trans z3).trans z4)) uhl
 have l11 := Els.len1 (fa0.ext ((z2.trans z3).trans z4)) la0 rfl
 obtain rfl := els_lit4 (fa0.ext ((z2.trans z3).trans z4)) la0
 have f13 : Els (kArr 4 (kInt .u64)) S0 w4 ((U4 kq4 (U4 a0 [])) : List Value) [kq4, a0] := by exact (Els.cons (K := (kArr 4 (kInt .u64))) (vs := (U4 kq4 [])) (x := kq4) ⟨l10, els_mk4 l10⟩ (Els.cons (K := (kArr 4 (kInt .u64))) (vs := (U4 a0 [])) (x := a0) ⟨l11, els_mk4 l11⟩ Els.nil))
 refine Op_.made (.buildSlice 156 2 #[(0, (.tmp 11)), (1, (.tmp 12))]) 13 156 (fun b => .slice (Gp (some b)) 2 2) 44 ((U4 kq4 (U4 a0 [])) : List Value) p4 Goes.v (by kernel_rfl) ?_
 intro b12 w5 z5 p5
 have p5 : Hp nz wz S0 w5 (((some b12), .row 44 ((U4 kq4 (U4 a0 [])) : List Value) (2 * (kArr 4 (kInt .u64)).size) 0) :: (some b7, .row 44 ((U4 a0 []) : List Value) 4 0) :: (some lk, .obj (lpst 96 (lfr 20 [(2, (pt u9e 0)), (3, .bool kq3), (4, (pt uh8 0)), (9, .func (.func 110) #[] #[(pt uh9 0)])] jkk) #[10] (rfAssign (Qe8)) (rfBody (Qe8)) rk .busy none)) :: (some u9e, .row 58 (.i uhc.Kind :: U4 uhc.Set [.slice (Gp uh4) uhc.L.length uh6, .i uhc.Min, .i uhc.Max]) 8 0) :: (uh4, .row 58 uh7 (uh6 * kT57.size) 0) :: (some uh8, .row 44 ((U4 kq4 []) : List Value) 4 0) :: (some uh9, .row 76 [(pt uha 0)] 1 0) :: (some uha, .row 79 [.string uhd.s, .i uhd.at_, .i uhd.deep, uhb] 4 0) :: Lr) := p5
 obtain ⟨S6, z6, p6, f15⟩ := p5.freezeRd 0 rfl (f13.ext z5) (by decide)
 refine bind_some' h fun y16 e17 h => ?_
 refine Gc (kc 104 [13] #[156]) 14 44 104 _ (W.z25 [kq4, a0] y16 e17 (Gp (some b12)) 2 2 p6 f15 rfl) ?_
 rintro _ w7 ⟨S7, ue3, rfl, z7, p7, ue4, ue5⟩
 have p7 := (p7.dp 0).dp 0
 refine Op_.stA 44 (.tmp 4) (.tmp 14) 0 3 uh8 4 ue3 p7 rfl uhl Goes.s (by kernel_rfl) (by kernel_rfl) (by kernel_rfl) ue5 (Els.one ue4) ?_
 intro w8 z8 p8
 refine Gn 2 [] [] ?_
 obtain rfl := Option.some.inj h
 refine Goes.endR 0 p8 rfl ?_
 intro w9 z9 p9
 exact ⟨S7, ue3, rfl, (((((((((Ext.refl S0 w0).trans z2).trans z3).trans z4).trans z5).trans z6).trans z7).trans z8).trans z9), p9, (ue4.ext (z8.trans z9)), ue5⟩

def Qeb := sub [1, 0, 0] B110
def Jjk := Zl Qeb J2g
def Jjl := Zc Qeb Jjk
def Jjm := Zs [1, 0, 0, 1] B110 Jjk
def Jjn := Zs [1, 0, 0, 0, 1] B110 Jjm
def Qee := sub [1, 0, 0, 0, 0] B110
def Jjo := Zr Qee [0, 1, 2, 3, 4, 5, 6, 7, 8, 9, 10, 11, 12] Jjn
def Jjp := Zr Qee [3, 4, 5, 6, 7, 8, 9, 10, 11, 12] Jjn
def Jjq := Zr Qee [8, 9, 10, 11, 12] Jjn
def Jjr := Zs [1, 0, 0, 1, 1] B110 Jjk
def Jjs := Zb 1 Jjr
def Jjt := Zs [1, 0, 0, 1, 0, 0, 1] B110 Jjs
def Jju := Zt [1, 0, 0, 1, 0, 0, 0] B110 [1, 2, 3, 4] Jjt

def Post.z2n (lx0 : Nat) (rx0 : Nat) (uay : Nat → Value) (uaz : Nat) (uhn : Option Nat) (uho : Nat) (uhp : Nat) (uhq : List Value) (uhr : Nat) (uhs : Nat) (uht : Nat) (uhu : T57) (uhv : Bool) (r : (List Int) × T78) (v : Value) (w' : World) : Prop :=
 ∃ S' uhe uhw, v = .tuple #[] ∧ Ext S0 w0 S' w' ∧ Hp nz wz S' w' ((some lx0, .obj (lpst 96 (lfr 20 [(2, (pt uaz 0)), (3, .bool uhv), (4, (pt uhr 0)), (9, .func (.func 110) #[] #[(pt uhs 0)])] uay) #[10] (rfAssign (Qe8)) (rfBody (Qe8)) rx0 .ready none)) :: (some uaz, .row 58 (.i uhu.Kind :: U4 uhu.Set [.slice (Gp uhn) uho uhp, .i uhu.Min, .i uhu.Max]) 8 0) :: (uhn, .row 58 uhq (uhp * kT57.size) 0) :: (some uhr, .row 44 uhe 4 0) :: (some uhs, .row 76 [(pt uht 0)] 1 0) :: (some uht, .row 79 [.string r.2.s, .i r.2.at_, .i r.2.deep, uhw] 4 0) :: Lr) ∧ Els (kInt .u64) S' w' uhe r.1 ∧ uhe.length = 4 ∧ PtO kT82 S' w' uhw r.2.bad

def L.z2o (lx0 : Nat) (rx0 : Nat) (uay : Nat → Value) (uaz : Nat) (uhn : Option Nat) (uho : Nat) (uhp : Nat) (uhq : List Value) (uhr : Nat) (uhs : Nat) (uht : Nat) : Bool × (List Int) × T78 × T57 × Bool → ((List Int) × T78) → Prop := fun ⟨x3, e2, e4v, uhu, uhv⟩ r => ∀ S1 w1, Ext S0 w0 S1 w1 → ∀ uhe uhw (_ : Hp nz wz S1 w1 ((some lx0, .obj (lpst 96 (lfr 20 [(2, (pt uaz 0)), (3, .bool uhv), (4, (pt uhr 0)), (9, .func (.func 110) #[] #[(pt uhs 0)])] uay) #[10] (rfAssign (Qe8)) (rfBody (Qe8)) rx0 .ready none)) :: (some uaz, .row 58 (.i uhu.Kind :: U4 uhu.Set [.slice (Gp uhn) uho uhp, .i uhu.Min, .i uhu.Max]) 8 0) :: (uhn, .row 58 uhq (uhp * kT57.size) 0) :: (some uhr, .row 44 uhe 4 0) :: (some uhs, .row 76 [(pt uht 0)] 1 0) :: (some uht, .row 79 [.string e4v.s, .i e4v.at_, .i e4v.deep, uhw] 4 0) :: Lr)) (_ : uhu.Set.length = 4) (_ : Els kT57 S1 w1 uhq uhu.L) (_ : uhu.L.length = uho) (_ : Els (kInt .u64) S1 w1 uhe e2) (_ : uhe.length = 4) (_ : PtO kT82 S1 w1 uhw e4v.bad) (junk : Nat → Value),
 Goes Tryz.prog (base 110) Jjl ⟨lfr 22 [(0, yieldV lx0), (1, (pt uhs 0)), (3, .bool x3)] junk, []⟩ w1 (Done Tryz.prog 110 (Rets (Post.z2n nz wz S0 w0 Lr lx0 rx0 uay uaz uhn uho uhp uhq uhr uhs uht uhu uhv r)))

def L.z2p (lx0 : Nat) (rx0 : Nat) (uay : Nat → Value) (uaz : Nat) (uhn : Option Nat) (uho : Nat) (uhp : Nat) (uhq : List Value) (uhr : Nat) (uhs : Nat) (uht : Nat) : Bool × (List Int) × T78 × T57 × Bool → ((List Int) × T78) → Prop := fun ⟨x16, e2, e4v, uhu, uhv⟩ r => ∀ S1 w1, Ext S0 w0 S1 w1 → ∀ uhe uhw (_ : Hp nz wz S1 w1 ((some lx0, .obj (lpst 96 (lfr 20 [(2, (pt uaz 0)), (3, .bool uhv), (4, (pt uhr 0)), (9, .func (.func 110) #[] #[(pt uhs 0)])] uay) #[10] (rfAssign (Qe8)) (rfBody (Qe8)) rx0 .ready none)) :: (some uaz, .row 58 (.i uhu.Kind :: U4 uhu.Set [.slice (Gp uhn) uho uhp, .i uhu.Min, .i uhu.Max]) 8 0) :: (uhn, .row 58 uhq (uhp * kT57.size) 0) :: (some uhr, .row 44 uhe 4 0) :: (some uhs, .row 76 [(pt uht 0)] 1 0) :: (some uht, .row 79 [.string e4v.s, .i e4v.at_, .i e4v.deep, uhw] 4 0) :: Lr)) (_ : uhu.Set.length = 4) (_ : Els kT57 S1 w1 uhq uhu.L) (_ : uhu.L.length = uho) (_ : Els (kInt .u64) S1 w1 uhe e2) (_ : uhe.length = 4) (_ : PtO kT82 S1 w1 uhw e4v.bad) (junk : Nat → Value),
 Goes Tryz.prog (base 110) Jjn ⟨lfr 22 [(0, yieldV lx0), (1, (pt uhs 0)), (16, .bool x16)] junk, []⟩ w1 (Done Tryz.prog 110 (Rets (Post.z2n nz wz S0 w0 Lr lx0 rx0 uay uaz uhn uho uhp uhq uhr uhs uht uhu uhv r)))

theorem W.z2q {nz wz S0 w0 Lr} (lx0 : Nat) (rx0 : Nat) (uay : Nat → Value) (uaz : Nat) (uhn : Option Nat) (uho : Nat) (uhp : Nat) (uhq : List Value) (uhr : Nat) (uhs : Nat) (uht : Nat) : (∀ a r, M.syntax_parser_items_1_l0 a = some r → (L.z2o nz wz S0 w0 Lr lx0 rx0 uay uaz uhn uho uhp uhq uhr uhs uht) a r) ∧ (∀ a r, M.syntax_parser_items_1_l1 a = some r → (L.z2p nz wz S0 w0 Lr lx0 rx0 uay uaz uhn uho uhp uhq uhr uhs uht) a r) := by
 refine M.syntax_parser_items_1_l0.mutual_partial_correctness (L.z2o nz wz S0 w0 Lr lx0 rx0 uay uaz uhn uho uhp uhq uhr uhs uht) (L.z2p nz wz S0 w0 Lr lx0 rx0 uay uaz uhn uho uhp uhq uhr uhs uht) ?_ ?_
 ·
  intro uhx uhy ⟨x3, e2, e4v, uhu, uhv⟩ r h S1 w1 hx uhe uhw p1 uhz fs1 ls1 fe2 le2 ui0 junk
  try dsimp only at h
  subst ls1
  refine Gn 3 [] Jjo ?_
  refine Goes.ld 76 (.tmp 1) 4 76 ⟨uhs, 0, none⟩ ((pt uht 0)) (p1.c 4 0) ?_
  refine Gn 2 [(5, (pt uht 0)), (6, (pt uht 3))] Jjp ?_
  refine Goes.ld 77 (.tmp 6) 7 77 ⟨uht, 3, none⟩ (uhw) (p1.c 5 3) ?_
  refine let_some h fun v17 h8 h => ?_
  rcases v17 with _ | y9
  ·
   try dsimp only at h
   obtain rfl := PtO.nil ui0 h8
   refine Gn 4 [(8, .bool true), (9, .bool true), (10, .bool x3), (11, .bool x3)] Jjq ?_
   refine ite_some h (fun h14 h => ?_) (fun h14 h => ?_)
   ·
    rw [h14]
    refine Gn 6 [(12, undef), (13, undef), (14, undef), (15, .bool true), (16, .bool true)] Jjn ?_
    exact Gj 22 [(0, yieldV lx0), (1, (pt uhs 0)), (16, .bool true)] (uhy _ _ h _ _ hx uhe (.pointer none) p1 uhz fs1 rfl fe2 le2 rfl)
   ·
    have ui1 : x3 = false := by simpa using h14
    rw [ui1]
    refine Goes.ld 76 (.tmp 1) 12 76 ⟨uhs, 0, none⟩ ((pt uht 0)) (p1.c 4 0) ?_
    have p1 := p1.fr 5
    refine bind_some' h fun y15 e16 h => ?_
    refine Gc (.call { callee := .value (.func 52), args := #[(.tmp 12), (.const (.int .u8 93))], argTypes := #[76, 5] }) 13 4 52 _ (W.z1x (⟨e4v.s, e4v.at_, e4v.deep, none⟩ : T78) 93 y15 e16 uht (.pointer none) p1 rfl) ?_
    rintro _ w2 ⟨S2, udf, rfl, z2, p2, udg⟩
    refine Gn 4 [(14, .bool (!y15.1)), (15, .bool (!y15.1)), (16, .bool (!y15.1))] Jjn ?_
    have p2 := (((((p2.fr 0).fr 5).fr 5).fr 5).fr 5).fr 5
    exact Gj 22 [(0, yieldV lx0), (1, (pt uhs 0)), (16, .bool (!y15.1))] (uhy _ _ h _ _ (hx.trans z2) uhe udf p2 uhz (fs1.ext z2) rfl (fe2.ext z2) le2 udg)
  ·
   try dsimp only at h
   obtain ⟨a11, _, rfl, -, f12, q13⟩ := PtO.got ui0 h8
   obtain rfl := q13
   refine Gn 10 [(8, .bool false), (9, .bool false), (10, undef), (11, undef), (12, undef), (13, undef), (14, undef), (15, undef), (16, .bool false)] Jjn ?_
   exact Gj 22 [(0, yieldV lx0), (1, (pt uhs 0)), (16, .bool false)] (uhy _ _ h _ _ hx uhe (.pointer (some a11)) p1 uhz fs1 rfl fe2 le2 ⟨_, _, rfl, List.cons_ne_nil _ _, f12, rfl⟩)
 ·
  intro ui2 ui3 ⟨x16, e2, e4v, uhu, uhv⟩ r h S1 w1 hx uhe uhw p1 uhz fs1 ls1 fe2 le2 ui0 junk
  try dsimp only at h
  subst ls1
  refine ite_some h (fun h18 h => ?_) (fun h18 h => ?_)
  ·
   rw [h18]
   refine Gn 7 [(17, yieldV lx0)] Jju ?_
   refine Goes.ld 76 (.tmp 1) 18 76 ⟨uhs, 0, none⟩ ((pt uht 0)) (p1.c 4 0) ?_
   have p1 := p1.fr 5
   refine bind_some' h fun y19 e20 h => ?_
   refine Gc (kc 111 [18] #[76]) 19 44 111 _ (W.z2k e4v y19 e20 uht uhw p1 ui0) ?_
   rintro _ w3 ⟨S3, ufc, ufn, rfl, z3, p3, u3r, ufd, ufo⟩
   have p3 := (((((p3.fr 0).fr 5).fr 5).fr 5).fr 5).fr 5
   refine bind_some' h fun y21 e22 h => ?_
   refine Goes.yieldAt (.call { callee := .value (.tmp 17), args := #[(.tmp 19)], argTypes := #[44] }) 20 4 0 lx0 #[.agg ufc.toArray] p3 rfl (by kernel_rfl) rfl (fun _ => by kernel_rfl) rfl (W.z2m uhu uhv e2 y19.2 y19.1 y21 e22 lx0 rx0 uay uaz uhn uhu.L.length uhp uhq uhr uhe uhs uht ufn ufc p3 uhz (fs1.ext z3) rfl (fe2.ext z3) le2 ufo u3r ufd) ?_
   rintro _ w4 ⟨S4, ui4, rfl, z4, p4, ui5, ui6⟩
   refine Gn 9 [(21, .bool (!true)), (3, .bool false)] Jjl ?_
   exact Gj 22 [(0, yieldV lx0), (1, (pt uhs 0)), (3, .bool false)] (ui3 _ _ h _ _ ((hx.trans z3).trans z4) ui4 ufn p4 uhz (fs1.ext (z3.trans z4)) rfl ui5 ui6 (ufo.ext z4))
  ·
   have ui7 : x16 = false := by simpa using h18
   rw [ui7]
   refine Gn 2 [] [] ?_
   obtain rfl := Option.some.inj h
   exact Goes.end_ (fn := Tryz.f110) (by kernel_rfl) (v := .tuple #[]) (by kernel_rfl) ⟨S1, uhe, uhw, rfl, hx, p1, fe2, le2, ui0⟩

theorem W.z2o {nz wz S0 w0 Lr} (lx0 : Nat) (rx0 : Nat) (uay : Nat → Value) (uaz : Nat) (uhn : Option Nat) (uho : Nat) (uhp : Nat) (uhq : List Value) (uhr : Nat) (uhs : Nat) (uht : Nat) : ∀ a r, M.syntax_parser_items_1_l0 a = some r → (L.z2o nz wz S0 w0 Lr lx0 rx0 uay uaz uhn uho uhp uhq uhr uhs uht) a r := (W.z2q lx0 rx0 uay uaz uhn uho uhp uhq uhr uhs uht).1

theorem W.z2p {nz wz S0 w0 Lr} (lx0 : Nat) (rx0 : Nat) (uay : Nat → Value) (uaz : Nat) (uhn : Option Nat) (uho : Nat) (uhp : Nat) (uhq : List Value) (uhr : Nat) (uhs : Nat) (uht : Nat) : ∀ a r, M.syntax_parser_items_1_l1 a = some r → (L.z2p nz wz S0 w0 Lr lx0 rx0 uay uaz uhn uho uhp uhq uhr uhs uht) a r := (W.z2q lx0 rx0 uay uaz uhn uho uhp uhq uhr uhs uht).2

theorem W.z2n (uhu : T57) (uhv : Bool) (ui8 : List Int) (ui9 : T78) (r : (List Int) × T78) (h : M.syntax_parser_items_1 uhu uhv ui8 ui9 = some r) {nz wz S0 w0 Lr} (lx0 rx0 uay uaz uhn uho uhp uhq uhr uhs uht uia) (p0 : Hp nz wz S0 w0 ((some lx0, .obj (lpst 96 (lfr 20 [(2, (pt uaz 0)), (3, .bool uhv), (4, (pt uhr 0)), (9, .func (.func 110) #[] #[(pt uhs 0)])] uay) #[10] (rfAssign (Qe8)) (rfBody (Qe8)) rx0 .ready none)) :: (some uaz, .row 58 (.i uhu.Kind :: U4 uhu.Set [.slice (Gp uhn) uho uhp, .i uhu.Min, .i uhu.Max]) 8 0) :: (uhn, .row 58 uhq (uhp * kT57.size) 0) :: (some uhr, .row 44 (U4 ui8 []) 4 0) :: (some uhs, .row 76 [(pt uht 0)] 1 0) :: (some uht, .row 79 [.string ui9.s, .i ui9.at_, .i ui9.deep, uia] 4 0) :: Lr)) (uhz : uhu.Set.length = 4) (uib : Els kT57 S0 w0 uhq uhu.L) (uic : uhu.L.length = uho) (uid : ui8.length = 4) (uie : PtO kT82 S0 w0 uia ui9.bad) :
  Calls Tryz.prog 110 #[yieldV lx0, (pt uhs 0)] w0 (Rets (Post.z2n nz wz S0 w0 Lr lx0 rx0 uay uaz uhn uho uhp uhq uhr uhs uht uhu uhv r)) := by
 subst uic
 refine Zf Tryz.f110 B110 20 ?_
 refine Gj 22 [(0, yieldV lx0), (1, (pt uhs 0))] fun junk => ?_
 delta M.syntax_parser_items_1 at h
 refine Gn 6 [(3, .bool true)] Jjl ?_
 have f7 : Els (kInt .u64) S0 w0 ((U4 ui8 []) : List Value) ui8 := (els_mk4 (k := .u64) uid)
 exact Gj 22 [(0, yieldV lx0), (1, (pt uhs 0)), (3, .bool true)] (W.z2o lx0 rx0 uay uaz uhn uhu.L.length uhp uhq uhr uhs uht _ _ h _ _ (Ext.refl S0 w0) ((U4 ui8 []) : List Value) uia p0 uhz uib rfl f7 rfl uie)

def Jjv := Zs [1] B96 []
def Jjw := Zt [0] B96 [0] Jjv
def Jjx := Zs [1, 1] B96 []
def Jjy := Zt [1, 0] B96 [1, 2] Jjx
def Jjz := Zs [1, 1, 1] B96 []
def Jk0 := Zt [1, 1, 0] B96 [0] Jjz
def Jk1 := Zs [1, 1, 1, 1] B96 []
def Jk2 := Zs [1, 1, 1, 0, 1] B96 Jk1
def Jk3 := Zt [1, 1, 1, 0, 0] B96 [1] Jk2
def Jk4 := Zb 0 Jk1
def Jk5 := Zc Qe8 Jk4
def Jk6 := Zs [1, 1, 1, 1, 1] B96 []
def Jk7 := Zs [1, 1, 1, 1, 0, 1] B96 Jk6
def Jk8 := Zt [1, 1, 1, 1, 0, 1, 0] B96 [0, 1, 2] Jk6
def Jk9 := Zs [1, 1, 1, 1, 1, 1] B96 []
def Qev := sub [1, 1, 1, 1, 1, 0] B96
def Jka := Zr Qev [0, 1, 2] Jk9
def Jkb := Zr Qev [2] Jk9

def Post.z2r (gx0 : Nat) (r : T57 × T78) (v : Value) (w' : World) : Prop :=
 ∃ S' udc udd ude ud8, v = (ag (.i r.1.Kind :: U4 r.1.Set [.slice udc udd ude, .i r.1.Min, .i r.1.Max])) ∧ Ext S0 w0 S' w' ∧ Hp nz wz S' w' ((some gx0, .row 79 [.string r.2.s, .i r.2.at_, .i r.2.deep, ud8] 4 0) :: Lr) ∧ r.1.Set.length = 4 ∧ Rd kT57 S' w' udc ude r.1.L ∧ r.1.L.length = udd ∧ PtO kT82 S' w' ud8 r.2.bad

theorem W.z2r (x0v : T78) (r : T57 × T78) (h : M.syntax_parser_class x0v = some r) {nz wz S0 w0 Lr} (gx0 uda) (p0 : Hp nz wz S0 w0 ((some gx0, .row 79 [.string x0v.s, .i x0v.at_, .i x0v.deep, uda] 4 0) :: Lr)) (udb : PtO kT82 S0 w0 uda x0v.bad) :
  Calls Tryz.prog 96 #[(pt gx0 0)] w0 (Rets (Post.z2r nz wz S0 w0 Lr gx0 r)) := by
 refine Zf Tryz.f96 B96 19 ?_
 refine Gj 20 [(0, (pt gx0 0))] fun junk => ?_
 delta M.syntax_parser_class at h
 refine Gn 2 [] Jjw ?_
 refine Op_.alloc 58 2 0 (.agg #[.i 0, .u 0, .u 0, .u 0, .u 0, .slice none 0 0, .i 0, .i 0]) [.i 0, .u 0, .u 0, .u 0, .u 0, .slice none 0 0, .i 0, .i 0] p0 Goes.v (by kernel_rfl) (by kernel_rfl) ?_
 intro b2 w2 z2 p2
 refine Gn 4 [(6, (pt gx0 0))] Jjy ?_
 have p2 := p2.fr 1
 refine bind_some' h fun y4 e5 h => ?_
 refine Gc (.call { callee := .value (.func 52), args := #[(.tmp 6), (.const (.int .u8 94))], argTypes := #[76, 5] }) 7 4 52 _ (W.z1x x0v 94 y4 e5 gx0 uda p2 (udb.ext z2)) ?_
 rintro _ w3 ⟨S3, ufn, rfl, z3, p3, ufo⟩
 refine Gn 4 [(3, .bool y4.1)] Jk0 ?_
 refine Op_.alloc 44 4 0 (.agg #[.u 0, .u 0, .u 0, .u 0]) [.u 0, .u 0, .u 0, .u 0] p3 Goes.v (by kernel_rfl) (by kernel_rfl) ?_
 intro b6 w4 z4 p4
 refine Gn 5 [(8, (pt gx0 0))] Jk3 ?_
 have p4 := p4.fr 1
 refine bind_some' h fun y8 e9 h => ?_
 refine Gc (kc 103 [8] #[76]) 9 148 103 _ (W.z22 y4.2 y8 e9 gx0 ufn p4 (ufo.ext z4)) ?_
 rintro _ w5 ⟨S5, ucv, rfl, z5, p5⟩
 refine Gn 2 [] Jk5 ?_
 refine Gj 20 [(2, (pt b2 0)), (3, .bool y4.1), (4, (pt b6 0)), (9, .func (.func 110) #[] #[(pt ucv 0)])] (fun uif => ?_)
 refine Goes.rangeF (f := 96) (.tmp 9) #[10] 110 #[] #[(pt ucv 0)] (by kernel_rfl) (by kernel_rfl) (fun _ => by kernel_rfl) p5 ?_
 intro r12 l13 w6 z6 p6
 have p6 : Hp nz wz S5 w6 ((none, .row 58 [] (0 * kT57.size) 0) :: (some l13, .obj (lpst 96 (lfr 20 [(2, (pt b2 0)), (3, .bool y4.1), (4, (pt b6 0)), (9, .func (.func 110) #[] #[(pt ucv 0)])] uif) #[10] (rfAssign (Qe8)) (rfBody (Qe8)) r12 .ready none)) :: (some r12, .obj (.deferred (some []))) :: (some ucv, .row 76 [(pt gx0 0)] 1 0) :: (some gx0, .row 79 [.string y4.2.s, .i y4.2.at_, .i y4.2.deep, ufn] 4 0) :: (some b6, .row 44 [.u 0, .u 0, .u 0, .u 0] 4 0) :: (some b2, .row 58 [.i 0, .u 0, .u 0, .u 0, .u 0, .slice none 0 0, .i 0, .i 0] 8 0) :: Lr) := p6.nilRow' 58
 have p6 := (((((p6.fr 4).fr 4).fr 5).fr 3).fr 6).fr 5
 refine bind_some' h fun y17 e18 h => ?_
 refine ⟨_, W.z2n (⟨0, [0, 0, 0, 0], ([] : List T57), 0, 0⟩ : T57) y4.1 [0, 0, 0, 0] y4.2 y17 e18 l13 r12 uif b2 none 0 0 [] b6 ucv gx0 ufn p6 rfl (Els.nil (K := kT57)) rfl rfl (ufo.ext ((z4.trans z5).trans z6)), ?_⟩
 rintro _ w7 ⟨S7, uig, uih, rfl, z7, p7, uii, uij, uik⟩
 refine Goes.endF 0 p7 rfl rfl ?_
 intro w8 z8 p8
 replace p8 : Hp nz wz S7 w8 ((some b2, .row 58 [.i 0, .u 0, .u 0, .u 0, .u 0, .slice (Gp none) 0 0, .i 0, .i 0] 8 0) :: (none, .row 58 [] (0 * kT57.size) 0) :: (some b6, .row 44 uig 4 0) :: (some ucv, .row 76 [(pt gx0 0)] 1 0) :: (some gx0, .row 79 [.string y17.2.s, .i y17.2.at_, .i y17.2.deep, uih] 4 0) :: (some r12, .obj (.deferred (some []))) :: Lr) := (p8.front 0 _ rfl).drop
 show Goes _ _ Jk4 _ _ _
 refine Gn 6 [(15, .bool y4.1)] Jk7 ?_
 refine ite_some h (fun h19 h => ?_) (fun h19 h => ?_)
 ·
  rw [h19]
  refine Gn 2 [] Jk8 ?_
  refine Op_.ldN 44 (.tmp 4) 16 44 ⟨b6, 0, none⟩ uig Goes.v (by kernel_rfl) (by kernel_rfl) (by rw [uij]; kernel_rfl) (At_all (p8.mem 2 rfl)) ?_
  refine bind_some' h fun y20 e21 h => ?_
  refine Gc (kc 94 [16] #[44]) 17 44 94 _ (W.z20 y17.1 y20 e21 uig p8 (uii.ext z8) uij) ?_
  rintro _ w9 ⟨S9, uil, rfl, z9, p9, uim, uin⟩
  have p9 := p9.dp 3
  refine Op_.stA 44 (.tmp 4) (.tmp 17) 0 2 b6 4 uil p9 rfl uij Goes.s (by kernel_rfl) (by kernel_rfl) (by kernel_rfl) uin (Els.one uim) ?_
  intro w10 z10 p10
  refine Gn 3 [] Jka ?_
  refine Op_.ldN 44 (.tmp 4) 18 44 ⟨b6, 0, none⟩ uil Goes.v (by kernel_rfl) (by kernel_rfl) (by rw [uin]; kernel_rfl) (At_all (p10.mem 2 rfl)) ?_
  have l22 := Els.len1 (uim.ext z10) uin rfl
  obtain rfl := els_lit4 (uim.ext z10) uin
  refine Gn 1 [(19, (ag (.i 1 :: U4 y20 [.slice none 0 0, .i 0, .i 0])))] Jkb ?_
  refine So 58 (.tmp 2) (.tmp 19) 0 0 b2 0 (ag (.i 1 :: U4 y20 [.slice none 0 0, .i 0, .i 0])) (.i 1 :: U4 y20 [.slice none 0 0, .i 0, .i 0]) p10 rfl Goes.s ?_
  intro w11 z11 p11
  have p11 : Hp nz wz S9 w11 ((some b2, .row 58 (.i 1 :: U4 y20 [.slice none 0 0, .i 0, .i 0]) 8 0) :: (none, .row 58 [] (0 * kT57.size) 0) :: (some b6, .row 44 ((U4 y20 []) : List Value) 4 0) :: (some gx0, .row 79 [.string y17.2.s, .i y17.2.at_, .i y17.2.deep, uih] 4 0) :: (some r12, .obj (.deferred (some []))) :: Lr) := p11
  refine Gn 1 [] Jk9 ?_
  obtain rfl := Option.some.inj h
  have p11 := (p11.dp 1).dp 1
  have p11 := ((p11.fr 1).fr 1).fr 2
  refine Goes.retL ?_
  refine lvs_mark 0 rfl rfl p11 rfl ?_
  intro w12 z12 p12
  replace p12 : Hp nz wz S9 w12 ((some b2, .row 58 (.i 1 :: U4 y20 [.slice none 0 0, .i 0, .i 0]) 8 0) :: (some gx0, .row 79 [.string y17.2.s, .i y17.2.at_, .i y17.2.deep, uih] 4 0) :: Lr) := p12.drop
  exact lvs_done (fn := Tryz.f96) rfl rfl rfl rfl (by kernel_rfl) (v := (ag (.i 1 :: U4 y20 [.slice none 0 0, .i 0, .i 0]))) (results_n1 (fn := Tryz.f96) (a := .cell 2 58) (by kernel_rfl) (resV_cell ⟨b2, 0, none⟩ (by kernel_rfl) (run_loadN (.i 1 :: U4 y20 [.slice none 0 0, .i 0, .i 0]) (by kernel_rfl) (by kernel_rfl) (p12.pa 0 0)))) ⟨S9, none, 0, 0, uih, rfl, ((((((((((((Ext.refl S0 w0).trans z2).trans z3).trans z4).trans z5).trans z6).trans z7).trans z8).trans z9).trans z10).trans z11).trans z12), p12.drop, l22, Rd.none_, rfl, (uik.ext ((((z8.trans z9).trans z10).trans z11).trans z12))⟩
 ·
  have u8p : y4.1 = false := by simpa using h19
  rw [u8p]
  refine Gn 4 [] Jka ?_
  refine Op_.ldN 44 (.tmp 4) 18 44 ⟨b6, 0, none⟩ uig Goes.v (by kernel_rfl) (by kernel_rfl) (by rw [uij]; kernel_rfl) (At_all (p8.mem 2 rfl)) ?_
  have l23 := Els.len1 (uii.ext z8) uij rfl
  obtain rfl := els_lit4 (uii.ext z8) uij
  refine Gn 1 [(19, (ag (.i 1 :: U4 y17.1 [.slice none 0 0, .i 0, .i 0])))] Jkb ?_
  refine So 58 (.tmp 2) (.tmp 19) 0 0 b2 0 (ag (.i 1 :: U4 y17.1 [.slice none 0 0, .i 0, .i 0])) (.i 1 :: U4 y17.1 [.slice none 0 0, .i 0, .i 0]) p8 rfl Goes.s ?_
  intro w13 z13 p13
  have p13 : Hp nz wz S7 w13 ((some b2, .row 58 (.i 1 :: U4 y17.1 [.slice none 0 0, .i 0, .i 0]) 8 0) :: (none, .row 58 [] (0 * kT57.size) 0) :: (some b6, .row 44 ((U4 y17.1 []) : List Value) 4 0) :: (some ucv, .row 76 [(pt gx0 0)] 1 0) :: (some gx0, .row 79 [.string y17.2.s, .i y17.2.at_, .i y17.2.deep, uih] 4 0) :: (some r12, .obj (.deferred (some []))) :: Lr) := p13
  refine Gn 1 [] Jk9 ?_
  obtain rfl := Option.some.inj h
  have p13 := ((p13.dp 1).dp 1).dp 1
  have p13 := ((p13.fr 1).fr 1).fr 2
  refine Goes.retL ?_
  refine lvs_mark 0 rfl rfl p13 rfl ?_
  intro w14 z14 p14
  replace p14 : Hp nz wz S7 w14 ((some b2, .row 58 (.i 1 :: U4 y17.1 [.slice none 0 0, .i 0, .i 0]) 8 0) :: (some gx0, .row 79 [.string y17.2.s, .i y17.2.at_, .i y17.2.deep, uih] 4 0) :: Lr) := p14.drop
  exact lvs_done (fn := Tryz.f96) rfl rfl rfl rfl (by kernel_rfl) (v := (ag (.i 1 :: U4 y17.1 [.slice none 0 0, .i 0, .i 0]))) (results_n1 (fn := Tryz.f96) (a := .cell 2 58) (by kernel_rfl) (resV_cell ⟨b2, 0, none⟩ (by kernel_rfl) (run_loadN (.i 1 :: U4 y17.1 [.slice none 0 0, .i 0, .i 0]) (by kernel_rfl) (by kernel_rfl) (p14.pa 0 0)))) ⟨S7, none, 0, 0, uih, rfl, ((((((((((Ext.refl S0 w0).trans z2).trans z3).trans z4).trans z5).trans z6).trans z7).trans z8).trans z13).trans z14), p14.drop, l23, Rd.none_, rfl, (uik.ext ((z8.trans z13).trans z14))⟩

def Jkc := Zs [1] B100 []
def Jkd := Zt [0] B100 [2, 3] Jkc
def Jke := Zt [1, 0] B100 [4, 5] []

def Post.z2s (gx0 : Nat) (r : T78) (v : Value) (w' : World) : Prop :=
 ∃ S' ud8, v = .tuple #[] ∧ Ext S0 w0 S' w' ∧ Hp nz wz S' w' ((some gx0, .row 79 [.string r.s, .i r.at_, .i r.deep, ud8] 4 0) :: Lr) ∧ PtO kT82 S' w' ud8 r.bad

theorem W.z2s (x0v : T78) (x1 : Int) (r : T78) (h : M.syntax_parser_need x0v x1 = some r) {nz wz S0 w0 Lr} (gx0 uda) (p0 : Hp nz wz S0 w0 ((some gx0, .row 79 [.string x0v.s, .i x0v.at_, .i x0v.deep, uda] 4 0) :: Lr)) (udb : PtO kT82 S0 w0 uda x0v.bad) :
  Calls Tryz.prog 100 #[(pt gx0 0), .int .u8 x1] w0 (Rets (Post.z2s nz wz S0 w0 Lr gx0 r)) := by
 refine Zf Tryz.f100 B100 12 ?_
 refine Gj 14 [(0, (pt gx0 0)), (1, .int .u8 x1)] fun junk => ?_
 delta M.syntax_parser_need at h
 refine Gn 4 [(4, (pt gx0 0)), (5, .int .u8 x1)] Jkd ?_
 refine bind_some' h fun y2 e3 h => ?_
 refine Gc (kc 52 [4, 5] #[76, 5]) 6 4 52 _ (W.z1x x0v x1 y2 e3 gx0 uda p0 udb) ?_
 rintro _ w2 ⟨S2, udf, rfl, z2, p2, udg⟩
 refine Gn 2 [(7, .bool (!y2.1))] Jkc ?_
 refine ite_some h (fun h4 h => ?_) (fun h4 h => ?_)
 ·
  rw [h4]
  refine Gn 2 [] [] ?_
  obtain rfl := Option.some.inj h
  exact Goes.end_ (fn := Tryz.f100) (by kernel_rfl) (v := .tuple #[]) (by kernel_rfl) ⟨S2, udf, rfl, ((Ext.refl S0 w0).trans z2), p2, udg⟩
 ·
  have h4' : y2.1 = false := by simpa using h4
  rw [h4']
  refine Gn 6 [(8, (pt gx0 0)), (9, (pt gx0 0)), (10, (pt gx0 0)), (11, (pt gx0 1))] Jke ?_
  refine Goes.ld 3 (.tmp 11) 12 3 ⟨gx0, 1, none⟩ (.i y2.2.at_) (p2.c 0 1) ?_
  refine bind_some' h fun y5 e6 h => ?_
  refine Gc (kc 37 [8, 12] #[76, 3]) 13 58 37 _ (W.z1w y2.2 y2.2.at_ y5 e6 gx0 udf p2 udg) ?_
  rintro _ w3 ⟨S3, uio, uip, uiq, ufn, rfl, z3, p3, uir, uis, rfl, ufo⟩
  refine Gn 1 [] [] ?_
  obtain rfl := Option.some.inj h
  exact Goes.end_ (fn := Tryz.f100) (by kernel_rfl) (v := .tuple #[]) (by kernel_rfl) ⟨S3, ufn, rfl, (((Ext.refl S0 w0).trans z2).trans z3), p3, ufo⟩

def Jkf := Zs [1, 1] B108 []
def Qf0 := sub [1, 0] B108
def Jkg := Zr Qf0 [0, 1, 2, 3, 4, 5, 6, 7, 8] Jkf
def Jkh := Zr Qf0 [4, 5, 6, 7, 8] Jkf

def Post.z2t (gx0 : Nat) (uit : Nat) (r : Bool × T78) (v : Value) (w' : World) : Prop :=
 ∃ S' uiu, v = .bool r.1 ∧ Ext S0 w0 S' w' ∧ Hp nz wz S' w' ((some gx0, .row 76 [(pt uit 0)] 1 0) :: (some uit, .row 79 [.string r.2.s, .i r.2.at_, .i r.2.deep, uiu] 4 0) :: Lr) ∧ PtO kT82 S' w' uiu r.2.bad

theorem W.z2t (uiv : T78) (r : Bool × T78) (h : M.syntax_parser_number_1 uiv = some r) {nz wz S0 w0 Lr} (gx0 uit uiw) (p0 : Hp nz wz S0 w0 ((some gx0, .row 76 [(pt uit 0)] 1 0) :: (some uit, .row 79 [.string uiv.s, .i uiv.at_, .i uiv.deep, uiw] 4 0) :: Lr)) (uix : PtO kT82 S0 w0 uiw uiv.bad) :
  Calls Tryz.prog 108 #[(pt gx0 0)] w0 (Rets (Post.z2t nz wz S0 w0 Lr gx0 uit r)) := by
 refine Zf Tryz.f108 B108 9 ?_
 refine Gj 10 [(0, (pt gx0 0))] fun junk => ?_
 delta M.syntax_parser_number_1 at h
 refine Gn 6 [(1, .bool false)] Jkg ?_
 refine Goes.ld 76 (.tmp 0) 2 76 ⟨gx0, 0, none⟩ ((pt uit 0)) (p0.c 0 0) ?_
 have p0 := p0.fr 1
 refine bind_some' h fun y3 e4 h => ?_
 refine Gc (kc 74 [2] #[76]) 3 5 74 _ (W.z1u uiv y3 e4 uit uiw p0 uix) ?_
 rintro _ w2 ⟨S2, udf, rfl, z2, p2, udg⟩
 refine Gn 2 [(4, .bool (decide (y3.1 ≥ 48))), (5, .bool (decide (y3.1 ≥ 48)))] Jkh ?_
 refine ite_some h (fun h5 h => ?_) (fun h5 h => ?_)
 ·
  rw [decide_eq_true h5]
  refine Goes.ld 76 (.tmp 0) 6 76 ⟨gx0, 0, none⟩ ((pt uit 0)) (p2.c 1 0) ?_
  refine bind_some' h fun y6 e7 h => ?_
  refine Gc (kc 74 [6] #[76]) 7 5 74 _ (W.z1u y3.2 y6 e7 uit udf p2 udg) ?_
  rintro _ w3 ⟨S3, ufn, rfl, z3, p3, ufo⟩
  refine Gn 4 [(8, .bool (decide (y6.1 ≤ 57))), (9, .bool (decide (y6.1 ≤ 57))), (1, .bool (decide (y6.1 ≤ 57)))] Jkf ?_
  obtain rfl := Option.some.inj h
  have p3 := (p3.fr 0).fr 1
  exact Goes.rt Tryz.f108 (.bool (decide (y6.1 ≤ 57))) ⟨S3, ufn, rfl, (((Ext.refl S0 w0).trans z2).trans z3), p3, ufo⟩
 ·
  rw [decide_eq_false h5]
  refine Gn 6 [(6, undef), (7, undef), (8, undef), (9, .bool false), (1, .bool false)] Jkf ?_
  obtain rfl := Option.some.inj h
  have p2 := (p2.fr 0).fr 1
  exact Goes.rt Tryz.f108 (.bool false) ⟨S2, udf, rfl, ((Ext.refl S0 w0).trans z2), p2, udg⟩

def Jki := Zs [1, 1, 1, 1, 1, 1] B99 []
def Jkj := Zs [1, 1, 1, 1, 1, 0, 1] B99 Jki
def Qf3 := sub [1, 1, 1, 1, 1, 0, 1, 0, 1] B99
def Jkk := Zc Qf3 Jki
def Jkl := Zt [1, 1, 1, 1, 1, 0, 1, 0, 0] B99 [2, 3, 4, 5, 6, 7] Jkk
def Jkm := Zr Qf3 [0, 1, 2, 3, 4, 5, 6, 7] Jki
def Jkn := Zr Qf3 [3, 4, 5, 6, 7] Jki
def Jko := Zr Qf3 [7] Jki
def Jkp := Zs [1, 1, 1, 1, 1, 1, 1] B99 []

def Post.z2u (gx0 : Nat) (r : Int × T78) (v : Value) (w' : World) : Prop :=
 ∃ S' ud8, v = .i r.1 ∧ Ext S0 w0 S' w' ∧ Hp nz wz S' w' ((some gx0, .row 79 [.string r.2.s, .i r.2.at_, .i r.2.deep, ud8] 4 0) :: Lr) ∧ PtO kT82 S' w' ud8 r.2.bad

def L.z2v (gx0 : Nat) : Int × Bool × T78 → (Int × T78) → Prop := fun ⟨x4, x25, e0v⟩ r => ∀ S1 w1, Ext S0 w0 S1 w1 → ∀ gx1 ud8 (_ : Hp nz wz S1 w1 ((some gx1, .row 76 [(pt gx0 0)] 1 0) :: (some gx0, .row 79 [.string e0v.s, .i e0v.at_, .i e0v.deep, ud8] 4 0) :: Lr)) (_ : PtO kT82 S1 w1 ud8 e0v.bad) (junk : Nat → Value),
 Goes Tryz.prog (base 99) Jkj ⟨lfr 41 [(1, (pt gx1 0)), (4, .i x4), (25, .bool x25)] junk, []⟩ w1 (Done Tryz.prog 99 (Rets (Post.z2u nz wz S0 w0 Lr gx0 r)))

theorem W.z2v {nz wz S0 w0 Lr} (gx0 : Nat) : ∀ a r, M.syntax_parser_number_l0 a = some r → L.z2v nz wz S0 w0 Lr gx0 a r := by
 intro ⟨x4, x25, e0v⟩ r h S1 w1 hx gx1 ud8 p1 ud9 junk
 rw [M.syntax_parser_number_l0] at h
 try dsimp only at h
 refine ite_some h (fun h13 h => ?_) (fun h13 h => ?_)
 ·
  rw [h13]
  refine Gn 5 [(26, .i x4), (27, .i (wr .i64 (10 * x4)))] Jkl ?_
  refine Goes.ld 76 (.tmp 1) 28 76 ⟨gx1, 0, none⟩ ((pt gx0 0)) (p1.c 0 0) ?_
  have p1 := p1.fr 1
  refine bind_some' h fun y14 e15 h => ?_
  refine Gc (kc 74 [28] #[76]) 29 5 74 _ (W.z1u e0v y14 e15 gx0 ud8 p1 ud9) ?_
  rintro _ w7 ⟨S7, uiy, rfl, z7, p7, uiz⟩
  refine Gn 6 [(30, .int .u8 (wr .u8 (y14.1 - 48))), (31, .i (wr .i64 (wr .u8 (y14.1 - 48)))), (32, .i (wr .i64 ((wr .i64 (10 * x4)) + (wr .i64 (wr .u8 (y14.1 - 48)))))), (4, .i (wr .i64 ((wr .i64 (10 * x4)) + (wr .i64 (wr .u8 (y14.1 - 48))))))] Jkm ?_
  refine Goes.ld 76 (.tmp 1) 33 76 ⟨gx1, 0, none⟩ ((pt gx0 0)) (p7.c 1 0) ?_
  refine Gn 2 [(34, (pt gx0 0)), (35, (pt gx0 1))] Jkn ?_
  refine Goes.ld 3 (.tmp 35) 36 3 ⟨gx0, 1, none⟩ (.i y14.2.at_) (p7.c 0 1) ?_
  refine Gn 3 [(37, .i (wr .i64 (y14.2.at_ + 1))), (38, (pt gx0 0)), (39, (pt gx0 1))] Jko ?_
  refine So 3 (.tmp 39) (.tmp 37) 0 0 gx0 1 (.i (wr .i64 (y14.2.at_ + 1))) [.i (wr .i64 (y14.2.at_ + 1))] p7 rfl Goes.s ?_
  intro w8 z8 p8
  have p8 : Hp nz wz S7 w8 ((some gx0, .row 79 [.string y14.2.s, .i (wr .i64 (y14.2.at_ + 1)), .i y14.2.deep, uiy] 4 0) :: (some gx1, .row 76 [(pt gx0 0)] 1 0) :: Lr) := p8
  refine Gn 6 [(40, .i (wr .i64 ((wr .i64 (10 * x4)) + (wr .i64 (wr .u8 (y14.1 - 48)))))), (2, .i (wr .i64 ((wr .i64 (10 * x4)) + (wr .i64 (wr .u8 (y14.1 - 48))))))] Jkp ?_
  obtain rfl := Option.some.inj h
  have p8 := p8.dp 1
  exact Goes.rt Tryz.f99 (.i (wr .i64 ((wr .i64 (10 * x4)) + (wr .i64 (wr .u8 (y14.1 - 48)))))) ⟨S7, uiy, rfl, ((hx.trans z7).trans z8), p8, (uiz.ext z8)⟩
 ·
  have u2 : x25 = false := by simpa using h13
  rw [u2]
  refine Gn 7 [(40, .i x4), (2, .i x4)] Jkp ?_
  obtain rfl := Option.some.inj h
  have p1 := p1.dp 0
  exact Goes.rt Tryz.f99 (.i x4) ⟨S1, ud8, rfl, hx, p1, ud9⟩

def Jkq := Zs [1] B99 []
def Jkr := Zt [0] B99 [0, 1] Jkq
def Jks := Zs [1, 1, 1] B99 []
def Jkt := Zs [1, 1, 0, 1] B99 Jks
def Jku := Zt [1, 1, 0, 0] B99 [1, 2] Jkt
def Jkv := Zs [1, 1, 1, 1] B99 []
def Jkw := Zt [1, 1, 1, 0] B99 [0, 1, 2, 3, 4] Jkv
def Jkx := Zs [1, 1, 1, 1, 1] B99 []
def Qfe := sub [1, 1, 1, 1, 0] B99
def Jky := Zr Qfe [0, 1, 2, 3, 4, 5, 6, 7] Jkx
def Jkz := Zr Qfe [3, 4, 5, 6, 7] Jkx
def Jl0 := Zr Qfe [7] Jkx
def Qff := sub [1, 1, 1, 1, 1, 0, 0] B99
def Jl1 := Zr Qff [3, 4, 5] Jkj
def Jl2 := Zr Qff [4, 5] Jkj
def Jl3 := Zs [1, 1, 0, 1, 0, 1] B99 Jks

theorem W.z2u (x0v : T78) (r : Int × T78) (h : M.syntax_parser_number x0v = some r) {nz wz S0 w0 Lr} (gx0 uda) (p0 : Hp nz wz S0 w0 ((some gx0, .row 79 [.string x0v.s, .i x0v.at_, .i x0v.deep, uda] 4 0) :: Lr)) (udb : PtO kT82 S0 w0 uda x0v.bad) :
  Calls Tryz.prog 99 #[(pt gx0 0)] w0 (Rets (Post.z2u nz wz S0 w0 Lr gx0 r)) := by
 refine Zf Tryz.f99 B99 40 ?_
 refine Gj 41 [(0, (pt gx0 0))] fun junk => ?_
 delta M.syntax_parser_number at h
 refine Gn 2 [] Jkr ?_
 refine Op_.box 76 (.tmp 0) 1 0 ((pt gx0 0)) [(pt gx0 0)] p0 Goes.v (by kernel_rfl) (by kernel_rfl) ?_
 intro b2 w2 z2 p2
 refine Gn 11 [(2, .i 0), (5, .func (.func 108) #[] #[(pt b2 0)]), (3, .func (.func 108) #[] #[(pt b2 0)]), (6, .func (.func 108) #[] #[(pt b2 0)])] Jku ?_
 refine bind_some' h fun y4 e5 h => ?_
 refine Gc (.call { callee := .value (.tmp 6), args := #[], argTypes := #[] }) 7 4 108 _ (W.z2t x0v y4 e5 b2 gx0 uda p2 (udb.ext z2)) ?_
 rintro _ w3 ⟨S3, uj0, rfl, z3, p3, uj1⟩
 refine Gn 2 [(8, .bool (!y4.1))] Jkt ?_
 refine ite_some h (fun h6 h => ?_) (fun h6 h => ?_)
 ·
  rw [h6]
  refine Gn 4 [] Jkw ?_
  refine Goes.ld 76 (.tmp 1) 9 76 ⟨b2, 0, none⟩ ((pt gx0 0)) (p3.c 0 0) ?_
  have p3 := p3.fr 1
  refine bind_some' h fun y7 e8 h => ?_
  refine Gc (kc 74 [9] #[76]) 10 5 74 _ (W.z1u y4.2 y7 e8 gx0 uj0 p3 uj1) ?_
  rintro _ w4 ⟨S4, uf8, rfl, z4, p4, ufb⟩
  refine Gn 6 [(11, .int .u8 (wr .u8 (y7.1 - 48))), (12, .i (wr .i64 (wr .u8 (y7.1 - 48)))), (4, .i (wr .i64 (wr .u8 (y7.1 - 48))))] Jky ?_
  refine Goes.ld 76 (.tmp 1) 13 76 ⟨b2, 0, none⟩ ((pt gx0 0)) (p4.c 1 0) ?_
  refine Gn 2 [(14, (pt gx0 0)), (15, (pt gx0 1))] Jkz ?_
  refine Goes.ld 3 (.tmp 15) 16 3 ⟨gx0, 1, none⟩ (.i y7.2.at_) (p4.c 0 1) ?_
  refine Gn 3 [(17, .i (wr .i64 (y7.2.at_ + 1))), (18, (pt gx0 0)), (19, (pt gx0 1))] Jl0 ?_
  refine So 3 (.tmp 19) (.tmp 17) 0 0 gx0 1 (.i (wr .i64 (y7.2.at_ + 1))) [.i (wr .i64 (y7.2.at_ + 1))] p4 rfl Goes.s ?_
  intro w5 z5 p5
  have p5 : Hp nz wz S4 w5 ((some gx0, .row 79 [.string y7.2.s, .i (wr .i64 (y7.2.at_ + 1)), .i y7.2.deep, uf8] 4 0) :: (some b2, .row 76 [(pt gx0 0)] 1 0) :: Lr) := p5
  refine Gn 7 [(20, .i (wr .i64 (wr .u8 (y7.1 - 48)))), (21, .bool (decide (wr .i64 (wr .u8 (y7.1 - 48)) > 0))), (22, .bool (decide (wr .i64 (wr .u8 (y7.1 - 48)) > 0)))] Jl1 ?_
  refine ite_some h (fun h9 h => ?_) (fun h9 h => ?_)
  ·
   rw [decide_eq_true h9]
   refine Gn 1 [(23, .func (.func 108) #[] #[(pt b2 0)])] Jl2 ?_
   have p5 := (p5.fr 0).fr 1
   refine bind_some' h fun y10 e11 h => ?_
   refine Gc (.call { callee := .value (.tmp 23), args := #[], argTypes := #[] }) 24 4 108 _ (W.z2t (⟨y7.2.s, wr .i64 (y7.2.at_ + 1), y7.2.deep, y7.2.bad⟩ : T78) y10 e11 b2 gx0 uf8 p5 (ufb.ext z5)) ?_
   rintro _ w6 ⟨S6, uj2, rfl, z6, p6, uj3⟩
   refine Gn 2 [(25, .bool y10.1)] Jkj ?_
   exact Gj 41 [(1, (pt b2 0)), (4, .i (wr .i64 (wr .u8 (y7.1 - 48)))), (25, .bool y10.1)] (W.z2v gx0 _ _ h _ _ ((((((Ext.refl S0 w0).trans z2).trans z3).trans z4).trans z5).trans z6) b2 uj2 p6 uj3)
  ·
   rw [decide_eq_false h9]
   refine Gn 4 [(23, undef), (24, undef), (25, .bool false)] Jkj ?_
   have p5 := (p5.fr 0).fr 1
   exact Gj 41 [(1, (pt b2 0)), (4, .i (wr .i64 (wr .u8 (y7.1 - 48)))), (25, .bool false)] (W.z2v gx0 _ _ h _ _ (((((Ext.refl S0 w0).trans z2).trans z3).trans z4).trans z5) b2 uf8 p5 (ufb.ext z5))
 ·
  have h6' : y4.1 = false := by simpa using h6
  rw [h6']
  refine Gn 5 [(2, .i (-1))] Jl3 ?_
  obtain rfl := Option.some.inj h
  have p3 := p3.dp 0
  exact Goes.rt Tryz.f99 (.i (-1)) ⟨S3, uj0, rfl, (((Ext.refl S0 w0).trans z2).trans z3), p3, uj1⟩

def Jl4 := Zs [1, 1, 1, 1, 1] B87 []
def Jl5 := Zs [1, 1, 1, 1, 1, 1] B87 []
def Jl6 := Zt [1, 1, 1, 1, 1, 0] B87 [1] Jl5
def Jl7 := Zs [1, 1, 1, 1, 1, 1, 1] B87 []
def Jl8 := Zs [1, 1, 1, 1, 1, 1, 0, 1] B87 Jl7
def Qfm := sub [1, 1, 1, 1, 1, 1, 0, 0] B87
def Jl9 := Zr Qfm [3, 4, 5, 6, 7, 8, 9, 10, 11, 12, 13, 14] Jl8
def Qfn := sub [1, 1, 1, 1, 1, 1, 0, 1, 0] B87
def Jla := Zc Qfn Jl7
def Jlb := Zr Qfn [2] Jl7
def Jlc := Zs [1, 1, 1, 1, 1, 1, 1, 1] B87 []
def Jld := Zr Qfm [7, 8, 9, 10, 11, 12, 13, 14] Jl8
def Jle := Zr Qfm [10, 11, 12, 13, 14] Jl8
def Jlf := Zt [1, 1, 1, 1, 1, 1, 1, 0] B87 [] Jlc

def Post.z2w (gx0 : Nat) (r : Int × Int × T78) (v : Value) (w' : World) : Prop :=
 ∃ S' ud8, v = .tuple #[.i r.1, .i r.2.1] ∧ Ext S0 w0 S' w' ∧ Hp nz wz S' w' ((some gx0, .row 79 [.string r.2.2.s, .i r.2.2.at_, .i r.2.2.deep, ud8] 4 0) :: Lr) ∧ PtO kT82 S' w' ud8 r.2.2.bad

def L.z2x (gx0 : Nat) : Int × Int × Int × T78 → (Int × Int × T78) → Prop := fun ⟨x1, x6, x7, e0v⟩ r => ∀ S1 w1, Ext S0 w0 S1 w1 → ∀ ud8 (_ : Hp nz wz S1 w1 ((some gx0, .row 79 [.string e0v.s, .i e0v.at_, .i e0v.deep, ud8] 4 0) :: Lr)) (_ : PtO kT82 S1 w1 ud8 e0v.bad) (junk : Nat → Value),
 Goes Tryz.prog (base 87) Jl4 ⟨lfr 45 [(0, (pt gx0 0)), (1, .i x1), (6, .i x6), (7, .i x7)] junk, []⟩ w1 (Done Tryz.prog 87 (Rets (Post.z2w nz wz S0 w0 Lr gx0 r)))

theorem W.z2x {nz wz S0 w0 Lr} (gx0 : Nat) : ∀ a r, M.syntax_parser_counted_l1 a = some r → L.z2x nz wz S0 w0 Lr gx0 a r := by
 intro ⟨x1, x6, x7, e0v⟩ r h S1 w1 hx ud8 p1 ud9 junk
 rw [M.syntax_parser_counted_l1] at h
 try dsimp only at h
 refine Gn 3 [(23, (pt gx0 0))] Jl6 ?_
 refine bind_some' h fun y12 e13 h => ?_
 refine Gc (.call { callee := .value (.func 100), args := #[(.tmp 23), (.const (.int .u8 125))], argTypes := #[76, 5] }) 24 0 100 _ (W.z2s e0v 125 y12 e13 gx0 ud8 p1 ud9) ?_
 rintro _ w6 ⟨S6, ugw, rfl, z6, p6, ugx⟩
 refine Gn 7 [(25, .i x6), (26, .bool (decide (x6 > 64))), (27, .bool (decide (x6 > 64)))] Jl9 ?_
 refine ite_some h (fun h14 h => ?_) (fun h14 h => ?_)
 ·
  rw [decide_eq_true h14]
  refine Gn 14 [(28, undef), (29, undef), (30, .bool true), (31, .bool true), (32, undef), (33, undef), (34, undef), (35, undef), (36, undef), (37, undef), (38, undef), (39, .bool true)] Jla ?_
  refine Gn 3 [(40, (pt gx0 0)), (41, .i x1)] Jlb ?_
  refine bind_some' h fun y15 e16 h => ?_
  refine Gc (kc 37 [40, 41] #[76, 3]) 42 58 37 _ (W.z1w y12 x1 y15 e16 gx0 ugw p6 ugx) ?_
  rintro _ w7 ⟨S7, uj4, uj5, uj6, uiy, rfl, z7, p7, uj7, uj8, rfl, uiz⟩
  refine Gn 8 [(43, .i x6), (44, .i x7), (4, .i x6), (5, .i x7)] Jlc ?_
  obtain rfl := Option.some.inj h
  exact Goes.rt Tryz.f87 (.tuple #[.i x6, .i x7]) ⟨S7, uiy, rfl, ((hx.trans z6).trans z7), p7, uiz⟩
 ·
  rw [decide_eq_false h14]
  refine Gn 4 [(28, .i x7), (29, .bool (decide (x7 > 64))), (30, .bool (decide (x7 > 64))), (31, .bool (decide (x7 > 64)))] Jld ?_
  refine ite_some h (fun h17 h => ?_) (fun h17 h => ?_)
  ·
   rw [decide_eq_true h17]
   refine Gn 13 [(32, undef), (33, undef), (34, undef), (35, undef), (36, undef), (37, undef), (38, undef), (39, .bool true), (40, (pt gx0 0)), (41, .i x1)] Jlb ?_
   refine bind_some' h fun y18 e19 h => ?_
   refine Gc (kc 37 [40, 41] #[76, 3]) 42 58 37 _ (W.z1w y12 x1 y18 e19 gx0 ugw p6 ugx) ?_
   rintro _ w8 ⟨S8, ug0, ug1, ug2, ug3, rfl, z8, p8, ug4, ug5, rfl, ug6⟩
   refine Gn 8 [(43, .i x6), (44, .i x7), (4, .i x6), (5, .i x7)] Jlc ?_
   obtain rfl := Option.some.inj h
   exact Goes.rt Tryz.f87 (.tuple #[.i x6, .i x7]) ⟨S8, ug3, rfl, ((hx.trans z6).trans z8), p8, ug6⟩
  ·
   rw [decide_eq_false h17]
   refine Gn 3 [(32, .i x7), (33, .bool (decide (x7 ≥ 0))), (34, .bool (decide (x7 ≥ 0)))] Jle ?_
   refine ite_some h (fun h20 h => ?_) (fun h20 h => ?_)
   ·
    rw [decide_eq_true h20]
    refine Gn 6 [(35, .i x6), (36, .i x7), (37, .bool (decide (x6 > x7))), (38, .bool (decide (x6 > x7))), (39, .bool (decide (x6 > x7)))] Jl8 ?_
    refine ite_some h (fun h21 h => ?_) (fun h21 h => ?_)
    ·
     rw [decide_eq_true h21]
     refine Gn 4 [(40, (pt gx0 0)), (41, .i x1)] Jlb ?_
     refine bind_some' h fun y22 e23 h => ?_
     refine Gc (kc 37 [40, 41] #[76, 3]) 42 58 37 _ (W.z1w y12 x1 y22 e23 gx0 ugw p6 ugx) ?_
     rintro _ w9 ⟨S9, uj9, uja, ujb, ujc, rfl, z9, p9, ujd, uje, rfl, ujf⟩
     refine Gn 8 [(43, .i x6), (44, .i x7), (4, .i x6), (5, .i x7)] Jlc ?_
     obtain rfl := Option.some.inj h
     exact Goes.rt Tryz.f87 (.tuple #[.i x6, .i x7]) ⟨S9, ujc, rfl, ((hx.trans z6).trans z9), p9, ujf⟩
    ·
     rw [decide_eq_false h21]
     refine Gn 9 [(43, .i x6), (44, .i x7), (4, .i x6), (5, .i x7)] Jlc ?_
     obtain rfl := Option.some.inj h
     exact Goes.rt Tryz.f87 (.tuple #[.i x6, .i x7]) ⟨S6, ugw, rfl, (hx.trans z6), p6, ugx⟩
   ·
    rw [decide_eq_false h20]
    refine Gn 14 [(35, undef), (36, undef), (37, undef), (38, .bool false), (39, .bool false), (43, .i x6), (44, .i x7), (4, .i x6), (5, .i x7)] Jlf ?_
    refine Gn 1 [] Jlc ?_
    obtain rfl := Option.some.inj h
    exact Goes.rt Tryz.f87 (.tuple #[.i x6, .i x7]) ⟨S6, ugw, rfl, (hx.trans z6), p6, ugx⟩

def Jlg := Zs [1, 1, 1] B87 []
def Jlh := Zs [1, 1, 1, 1, 0, 1] B87 Jl4
def Jli := Zt [1, 1, 1, 1, 0, 0] B87 [1] Jlh
def Jlj := Zt [1, 1, 1, 1, 0, 1, 0] B87 [1, 2] Jl4

def L.z2y (gx0 : Nat) : Int × Int × T78 → (Int × Int × T78) → Prop := fun ⟨x1, x6, e0v⟩ r => ∀ S1 w1, Ext S0 w0 S1 w1 → ∀ ud8 (_ : Hp nz wz S1 w1 ((some gx0, .row 79 [.string e0v.s, .i e0v.at_, .i e0v.deep, ud8] 4 0) :: Lr)) (_ : PtO kT82 S1 w1 ud8 e0v.bad) (junk : Nat → Value),
 Goes Tryz.prog (base 87) Jlg ⟨lfr 45 [(0, (pt gx0 0)), (1, .i x1), (6, .i x6)] junk, []⟩ w1 (Done Tryz.prog 87 (Rets (Post.z2w nz wz S0 w0 Lr gx0 r)))

theorem W.z2y {nz wz S0 w0 Lr} (gx0 : Nat) : ∀ a r, M.syntax_parser_counted_l0 a = some r → L.z2y nz wz S0 w0 Lr gx0 a r := by
 intro ⟨x1, x6, e0v⟩ r h S1 w1 hx ud8 p1 ud9 junk
 rw [M.syntax_parser_counted_l0] at h
 try dsimp only at h
 refine Gn 9 [(18, .i x6), (7, .i x6), (19, (pt gx0 0))] Jli ?_
 refine bind_some' h fun y7 e8 h => ?_
 refine Gc (.call { callee := .value (.func 52), args := #[(.tmp 19), (.const (.int .u8 44))], argTypes := #[76, 5] }) 20 4 52 _ (W.z1x e0v 44 y7 e8 gx0 ud8 p1 ud9) ?_
 rintro _ w4 ⟨S4, uf8, rfl, z4, p4, ufb⟩
 refine Gn 1 [] Jlh ?_
 refine ite_some h (fun h9 h => ?_) (fun h9 h => ?_)
 ·
  rw [h9]
  refine Gn 3 [(21, (pt gx0 0))] Jlj ?_
  refine bind_some' h fun y10 e11 h => ?_
  refine Gc (kc 99 [21] #[76]) 22 3 99 _ (W.z2u y7.2 y10 e11 gx0 uf8 p4 ufb) ?_
  rintro _ w5 ⟨S5, ug9, rfl, z5, p5, ugb⟩
  refine Gn 2 [(7, .i y10.1)] Jl4 ?_
  exact Gj 45 [(0, (pt gx0 0)), (1, .i x1), (6, .i x6), (7, .i y10.1)] (W.z2x gx0 _ _ h _ _ ((hx.trans z4).trans z5) ug9 p5 ugb)
 ·
  have h9' : y7.1 = false := by simpa using h9
  rw [h9']
  refine Gn 2 [] Jl4 ?_
  exact Gj 45 [(0, (pt gx0 0)), (1, .i x1), (6, .i x6), (7, .i x6)] (W.z2x gx0 _ _ h _ _ (hx.trans z4) uf8 p4 ufb)

def Jlk := Zs [1, 1] B87 []
def Jll := Zt [1, 0] B87 [1, 2] Jlk
def Jlm := Zs [1, 1, 0, 1] B87 Jlg
def Jln := Zt [1, 1, 0, 1, 0] B87 [4, 5] Jlg

theorem W.z2w (x0v : T78) (x1 : Int) (r : Int × Int × T78) (h : M.syntax_parser_counted x0v x1 = some r) {nz wz S0 w0 Lr} (gx0 uda) (p0 : Hp nz wz S0 w0 ((some gx0, .row 79 [.string x0v.s, .i x0v.at_, .i x0v.deep, uda] 4 0) :: Lr)) (udb : PtO kT82 S0 w0 uda x0v.bad) :
  Calls Tryz.prog 87 #[(pt gx0 0), .i x1] w0 (Rets (Post.z2w nz wz S0 w0 Lr gx0 r)) := by
 refine Zf Tryz.f87 B87 43 ?_
 refine Gj 45 [(0, (pt gx0 0)), (1, .i x1)] fun junk => ?_
 delta M.syntax_parser_counted at h
 refine Gn 8 [(4, .i 0), (5, .i 0), (8, (pt gx0 0))] Jll ?_
 refine bind_some' h fun y2 e3 h => ?_
 refine Gc (kc 99 [8] #[76]) 9 3 99 _ (W.z2u x0v y2 e3 gx0 uda p0 udb) ?_
 rintro _ w2 ⟨S2, udf, rfl, z2, p2, udg⟩
 refine Gn 8 [(6, .i y2.1), (10, .i y2.1), (11, .bool (decide (y2.1 < 0)))] Jlm ?_
 refine ite_some h (fun h4 h => ?_) (fun h4 h => ?_)
 ·
  rw [decide_eq_true h4]
  refine Gn 6 [(12, (pt gx0 0)), (13, (pt gx0 0)), (14, (pt gx0 0)), (15, (pt gx0 1))] Jln ?_
  refine Goes.ld 3 (.tmp 15) 16 3 ⟨gx0, 1, none⟩ (.i y2.2.at_) (p2.c 0 1) ?_
  refine bind_some' h fun y5 e6 h => ?_
  refine Gc (kc 37 [12, 16] #[76, 3]) 17 58 37 _ (W.z1w y2.2 y2.2.at_ y5 e6 gx0 udf p2 udg) ?_
  rintro _ w3 ⟨S3, uio, uip, uiq, ufn, rfl, z3, p3, uir, uis, rfl, ufo⟩
  refine Gn 1 [] Jlg ?_
  exact Gj 45 [(0, (pt gx0 0)), (1, .i x1), (6, .i y2.1)] (W.z2y gx0 _ _ h _ _ (((Ext.refl S0 w0).trans z2).trans z3) ufn p3 ufo)
 ·
  rw [decide_eq_false h4]
  refine Gn 2 [] Jlg ?_
  exact Gj 45 [(0, (pt gx0 0)), (1, .i x1), (6, .i y2.1)] (W.z2y gx0 _ _ h _ _ ((Ext.refl S0 w0).trans z2) udf p2 udg)

def Jlo := Zs [1] B53 []
def Jlp := Zt [0] B53 [0] Jlo
def Jlq := Zs [1, 1] B53 []
def Jlr := Zs [1, 0, 1] B53 Jlq
def Jls := Zs [1, 0, 1, 0, 1] B53 Jlq
def Jlt := Zt [1, 0, 1, 0, 0] B53 [1, 2, 3] Jls
def Jlu := Zs [1, 1, 1] B53 []
def Jlv := Zt [1, 1, 0] B53 [3] Jlu

def Post.z2z (r : T57) (v : Value) (w' : World) : Prop :=
 ∃ S' udc udd ude, v = (ag (.i r.Kind :: U4 r.Set [.slice udc udd ude, .i r.Min, .i r.Max])) ∧ Ext S0 w0 S' w' ∧ Hp nz wz S' w' (Lr) ∧ r.Set.length = 4 ∧ Rd kT57 S' w' udc ude r.L ∧ r.L.length = udd

theorem W.z2z (x0 : Int) (x1 : List T57) (r : T57) (h : M.syntax_several x0 x1 = some r) {nz wz S0 w0 Lr} (Ax1 nx1 cx1) (p0 : Hp nz wz S0 w0 (Lr)) (fx1 : Rd kT57 S0 w0 Ax1 cx1 x1) (lx1 : x1.length = nx1) :
  Calls Tryz.prog 53 #[.i x0, .slice Ax1 nx1 cx1] w0 (Rets (Post.z2z nz wz S0 w0 Lr r)) := by
 subst lx1
 refine Zf Tryz.f53 B53 12 ?_
 refine Gj 14 [(0, .i x0), (1, .slice Ax1 x1.length cx1)] fun junk => ?_
 delta M.syntax_several at h
 refine Gn 2 [] Jlp ?_
 refine Op_.alloc 58 4 0 (.agg #[.i 0, .u 0, .u 0, .u 0, .u 0, .slice none 0 0, .i 0, .i 0]) [.i 0, .u 0, .u 0, .u 0, .u 0, .slice none 0 0, .i 0, .i 0] p0 Goes.v (by kernel_rfl) (by kernel_rfl) ?_
 intro b1 w2 z2 p2
 refine Gn 8 [(5, .slice Ax1 x1.length cx1), (6, .i (x1.length : Int)), (7, .bool (decide ((x1.length : Int) = 1)))] Jlr ?_
 refine ite_some h (fun h3 h => ?_) (fun h3 h => ?_)
 ·
  rw [decide_eq_true h3]
  refine Gn 4 [(8, .slice Ax1 x1.length cx1)] Jlt ?_
  refine guard_some' h fun g4 h => ?_
  refine Op_.ixR_n 56 (.tmp 8) (.const (.int .i64 0)) 9 0 58 .i64 0 (gi x1 0) rfl rfl (fx1.ext z2) Goes.v (by kernel_rfl) (by kernel_rfl) (by kernel_rfl) (by kernel_rfl) (by decide : (0 : Int) ≤ 0) g4 ?_
  intro a5 _ f6 q7
  have q8 := q7
  obtain ⟨_, _, rfl, rfl, ⟨_, _, rfl, ⟨l9, f10⟩, ⟨_, _, rfl, ⟨A11, c12, rfl, f13⟩, ⟨_, _, rfl, rfl, rfl⟩⟩⟩⟩ := kT57_open q8
  obtain rfl := els_lit4' f10 l9
  refine Goes.ldN 58 (.tmp 9) 10 58 a5 ([.i ((gi x1 0).Kind)] ++ ((U4 ((gi x1 0).Set) []) ++ ([.slice A11 (((gi x1 0).L).length) c12] ++ ([.i ((gi x1 0).Min)] ++ [.i ((gi x1 0).Max)])))) (f6.cell) ?_
  refine So 58 (.tmp 4) (.tmp 10) 0 0 b1 0 (ag (.i ((gi x1 0).Kind) :: U4 ((gi x1 0).Set) [.slice A11 (((gi x1 0).L).length) c12, .i ((gi x1 0).Min), .i ((gi x1 0).Max)])) (.i ((gi x1 0).Kind) :: U4 ((gi x1 0).Set) [.slice A11 (((gi x1 0).L).length) c12, .i ((gi x1 0).Min), .i ((gi x1 0).Max)]) p2 rfl Goes.s ?_
  intro w3 z3 p3
  have p3 : Hp nz wz S0 w3 ((some b1, .row 58 (.i ((gi x1 0).Kind) :: U4 ((gi x1 0).Set) [.slice A11 (((gi x1 0).L).length) c12, .i ((gi x1 0).Min), .i ((gi x1 0).Max)]) 8 0) :: Lr) := p3
  refine Gn 1 [] Jls ?_
  obtain rfl := Option.some.inj h
  exact Goes.ret (fn := Tryz.f53) (by kernel_rfl) (v := (ag (.i ((gi x1 0).Kind) :: U4 ((gi x1 0).Set) [.slice A11 (((gi x1 0).L).length) c12, .i ((gi x1 0).Min), .i ((gi x1 0).Max)]))) (results_n1 (fn := Tryz.f53) (a := .cell 4 58) (by kernel_rfl) (resV_cell ⟨b1, 0, none⟩ (by kernel_rfl) (run_loadN (.i ((gi x1 0).Kind) :: U4 ((gi x1 0).Set) [.slice A11 (((gi x1 0).L).length) c12, .i ((gi x1 0).Min), .i ((gi x1 0).Max)]) (by kernel_rfl) (by kernel_rfl) (p3.pa 0 0)))) ⟨S0, A11, ((gi x1 0).L).length, c12, rfl, (((Ext.refl S0 w0).trans z2).trans z3), p3.drop, l9, (f13.ext z3), rfl⟩
 ·
  rw [decide_eq_false h3]
  refine Gn 7 [(11, .i x0), (12, .slice Ax1 x1.length cx1), (13, .agg #[.i x0, .u 0, .u 0, .u 0, .u 0, .slice Ax1 x1.length cx1, .i 0, .i 0])] Jlv ?_
  refine So 58 (.tmp 4) (.tmp 13) 0 0 b1 0 (.agg #[.i x0, .u 0, .u 0, .u 0, .u 0, .slice Ax1 x1.length cx1, .i 0, .i 0]) [.i x0, .u 0, .u 0, .u 0, .u 0, .slice Ax1 x1.length cx1, .i 0, .i 0] p2 rfl Goes.s ?_
  intro w4 z4 p4
  have p4 : Hp nz wz S0 w4 ((some b1, .row 58 [.i x0, .u 0, .u 0, .u 0, .u 0, .slice Ax1 x1.length cx1, .i 0, .i 0] 8 0) :: Lr) := p4
  refine Gn 1 [] Jlu ?_
  obtain rfl := Option.some.inj h
  exact Goes.ret (fn := Tryz.f53) (by kernel_rfl) (v := .agg #[.i x0, .u 0, .u 0, .u 0, .u 0, .slice Ax1 x1.length cx1, .i 0, .i 0]) (results_n1 (fn := Tryz.f53) (a := .cell 4 58) (by kernel_rfl) (resV_cell ⟨b1, 0, none⟩ (by kernel_rfl) (run_loadN [.i x0, .u 0, .u 0, .u 0, .u 0, .slice Ax1 x1.length cx1, .i 0, .i 0] (by kernel_rfl) (by kernel_rfl) (p4.pa 0 0)))) ⟨S0, Ax1, x1.length, cx1, rfl, (((Ext.refl S0 w0).trans z2).trans z4), p4.drop, rfl, (fx1.ext (z2.trans z4)), rfl⟩

def Jlw := Zs [1, 1, 1] B51 []
def Jlx := Zb 0 Jlw
def Qg7 := sub [1, 1, 0, 0, 0] B51
def Jly := Zl Qg7 Jlx
def Jlz := Zc Qg7 Jly
def Jm0 := Zs [1, 1, 0, 0, 0, 1] B51 Jly
def Jm1 := Zs [1, 1, 0, 0, 0, 0, 1] B51 Jm0
def Jm2 := Zs [1, 1, 1] B86 []
def Jm3 := Zb 0 Jm2
def Jm4 := Zs [1, 1, 0, 0, 1] B86 Jm3
def Jm5 := Zs [1, 1, 0, 0, 1, 1, 1] B86 Jm3
def Jm6 := Zs [1, 1] B97 []
def Jm7 := Zs [1, 1, 1] B36 []
def Jm8 := Zb 0 Jm7
def Qgf := sub [1, 1, 0, 0, 0] B36
def Jm9 := Zl Qgf Jm8
def Jma := Zc Qgf Jm9
def Jmb := Zs [1] B36 []
def Jmc := Zt [0] B36 [0] Jmb
def Jmd := Zs [1, 1] B36 []
def Jme := Zt [1, 0] B36 [1, 2, 3] Jmd
def Jmf := Zs [1, 1, 0, 0, 0, 1] B36 Jm9
def Jmg := Zs [1, 1, 0, 0, 0, 0, 1] B36 Jmf
def Jmh := Zt [1, 1, 0, 0, 0, 0, 0] B36 [1] Jmg
def Jmi := Zb 1 Jm9
def Jmj := Zt [1, 1, 0, 0, 0, 1, 0] B36 [2, 3, 4, 5] Jmi
def Jmk := Zs [1, 1, 1, 1] B36 []
def Jml := Zt [1, 1, 1, 0] B36 [1, 2] Jmk
def Jmm := Zs [1] B51 []
def Jmn := Zt [0] B51 [0] Jmm
def Jmo := Zs [1, 1, 0, 0, 0, 0, 0] B51 Jm1
def Jmp := Zb 1 Jly
def Jmq := Zt [1, 1, 0, 0, 0, 1, 0] B51 [2, 3, 4, 5] Jmp
def Jmr := Zs [1, 1, 1, 1] B51 []
def Jms := Zt [1, 1, 1, 0] B51 [1, 2] Jmr
def Jmt := Zs [1] B75 []
def Jmu := Zt [0] B75 [0] Jmt
def Jmv := Zs [1, 1] B75 []
def Jmw := Zt [1, 0] B75 [1, 2, 3] Jmv
def Jmx := Zs [1, 1, 1, 1] B75 []
def Jmy := Zs [1, 1, 1, 0, 1] B75 Jmx
def Jmz := Zt [1, 1, 1, 0, 0] B75 [3, 4] Jmy
def Jn0 := Zb 0 Jmx
def Jn1 := Zs [1, 1, 1, 0, 1, 0, 1] B75 Jn0
def Jn2 := Zt [1, 1, 1, 0, 1, 0, 0] B75 [1, 2] Jn1
def Jn3 := Zs [1, 1, 1, 1, 1] B75 []
def Qh6 := sub [1, 1, 1, 1, 0] B75
def Jn4 := Zr Qh6 [0, 1, 2, 3, 4, 5] Jn3
def Jn5 := Zr Qh6 [5] Jn3
def Jn6 := Zs [1, 1, 1, 0, 1, 0, 1, 1, 1] B75 Jn0
def Jn7 := Zt [1, 1, 1, 0, 1, 0, 1, 1, 0] B75 [1, 2] Jn6
def Jn8 := Zs [1, 1, 1, 0, 1, 0, 1, 1, 1, 1, 1] B75 Jn0
def Jn9 := Zt [1, 1, 1, 0, 1, 0, 1, 1, 1, 1, 0] B75 [1, 2] Jn8
def Jna := Zs [1, 1, 1, 0, 1, 0, 1, 1, 1, 1, 1, 1, 1] B75 Jn0
def Jnb := Zt [1, 1, 1, 0, 1, 0, 1, 1, 1, 1, 1, 1, 0] B75 [1, 2] Jna
def Jnc := Zt [1, 1, 1, 0, 1, 0, 1, 1, 1, 1, 1, 1, 1, 0] B75 [2, 3, 4, 5, 6, 7] Jn0
def Jnd := Zs [1, 1, 1, 0, 1, 0, 1, 1, 1, 1, 1, 1, 1, 1, 1] B75 Jn0
def Jne := Zt [1, 1, 1, 0, 1, 0, 1, 1, 1, 1, 1, 1, 1, 1, 0] B75 [0, 1] Jnd
def Jnf := Zs [1] B86 []
def Jng := Zt [0] B86 [0] Jnf
def Jnh := Zs [1, 1] B86 []
def Jni := Zt [1, 0] B86 [1, 2] Jnh
def Qhk := sub [1, 1, 0, 0, 0] B86
def Jnj := Zr Qhk [3, 4, 5, 6, 7, 8, 9, 10, 11] Jm4
def Jnk := Zr Qhk [7, 8, 9, 10, 11] Jm4
def Jnl := Zr Qhk [8, 9, 10, 11] Jm4
def Jnm := Zs [1, 1, 0, 0, 1, 0, 1] B86 Jm3
def Jnn := Zt [1, 1, 0, 0, 1, 0, 0] B86 [4, 5, 6] Jnm
def Qhn := sub [1, 1, 0, 0, 1, 1, 0] B86
def Jno := Zr Qhn [3, 4, 5, 6, 7, 8, 9] Jm5
def Jnp := Zr Qhn [6, 7, 8, 9] Jm5
def Jnq := Zs [1, 1, 0, 0, 1, 1, 1, 0, 1] B86 Jm3
def Jnr := Zt [1, 1, 0, 0, 1, 1, 1, 0, 0] B86 [4, 5, 6] Jnq
def Jns := Zs [1, 1, 0, 0, 1, 1, 1, 1, 1] B86 Jm3
def Jnt := Zt [1, 1, 0, 0, 1, 1, 1, 1, 0] B86 [1, 2] Jns
def Jnu := Zs [1, 1, 0, 0, 1, 1, 1, 1, 1, 0, 1] B86 Jm3
def Qht := sub [1, 1, 0, 0, 1, 1, 1, 1, 1, 0, 0] B86
def Jnv := Zr Qht [0, 1, 2, 3] Jnu
def Jnw := Zr Qht [3] Jnu
def Jnx := Zs [1, 1, 0, 0, 1, 1, 1, 1, 1, 1, 1] B86 Jm3
def Jny := Zt [1, 1, 0, 0, 1, 1, 1, 1, 1, 1, 0] B86 [1, 2] Jnx
def Jnz := Zs [1, 1, 0, 0, 1, 1, 1, 1, 1, 1, 1, 0, 1] B86 Jm3
def Jo0 := Zt [1, 1, 0, 0, 1, 1, 1, 1, 1, 1, 1, 0, 0] B86 [1, 2] Jnz
def Jo1 := Zs [1, 1, 0, 0, 1, 1, 1, 1, 1, 1, 1, 1, 1] B86 Jm3
def Jo2 := Zt [1, 1, 0, 0, 1, 1, 1, 1, 1, 1, 1, 1, 0] B86 [1, 2] Jo1
def Jo3 := Zs [1, 1, 0, 0, 1, 1, 1, 1, 1, 1, 1, 1, 1, 0, 1] B86 Jm3
def Jo4 := Zt [1, 1, 0, 0, 1, 1, 1, 1, 1, 1, 1, 1, 1, 0, 0] B86 [1, 2] Jo3
def Jo5 := Zs [1, 1, 0, 0, 1, 1, 1, 1, 1, 1, 1, 1, 1, 1, 1] B86 Jm3
def Jo6 := Zt [1, 1, 0, 0, 1, 1, 1, 1, 1, 1, 1, 1, 1, 1, 0] B86 [1, 2] Jo5
def Jo7 := Zs [1, 1, 0, 0, 1, 1, 1, 1, 1, 1, 1, 1, 1, 1, 1, 0, 1] B86 Jm3
def Qi5 := sub [1, 1, 0, 0, 1, 1, 1, 1, 1, 1, 1, 1, 1, 1, 1, 0, 0] B86
def Jo8 := Zr Qi5 [1, 2, 3, 4] Jo7
def Jo9 := Zr Qi5 [4] Jo7
def Joa := Zs [1, 1, 1, 1] B86 []
def Qi7 := sub [1, 1, 1, 0] B86
def Job := Zr Qi7 [3, 4, 5, 6, 7] Joa
def Joc := Zr Qi7 [7] Joa
def Jod := Zs [1, 1, 1, 1, 1] B86 []
def Qi9 := sub [1, 1, 1, 1, 0] B86
def Joe := Zr Qi9 [1, 2, 3] Jod
def Jof := Zr Qi9 [3] Jod
def Jog := Zs [1] B97 []
def Joh := Zt [0] B97 [0] Jog
def Joi := Zs [1, 0, 1] B97 Jm6
def Joj := Zt [1, 0, 0] B97 [1] Joi
def Jok := Zt [1, 0, 1, 0] B97 [1] Jm6
def Jol := Zs [1, 1, 1] B97 []
def Qig := sub [1, 1, 0] B97
def Jom := Zr Qig [3, 4, 5, 6, 7] Jol
def Jon := Zr Qig [7] Jol
def Joo := Zs [1, 1, 1, 1] B97 []
def Jop := Zt [1, 1, 1, 0] B97 [1, 2, 3] Joo
def Joq := Zs [1, 1, 1, 1, 1] B97 []
def Qik := sub [1, 1, 1, 1, 0] B97
def Jor := Zr Qik [3, 4, 5, 6, 7] Joq
def Jos := Zr Qik [7] Joq
def Jot := Zs [1, 1, 1, 1, 1, 1] B97 []
def Jou := Zt [1, 1, 1, 1, 1, 0] B97 [1] Jot
def Jov := Zs [1, 1, 1, 1, 1, 1, 1] B97 []
def Jow := Zt [1, 1, 1, 1, 1, 1, 0] B97 [0, 1] Jov

def Post.z30 (gx0 : Nat) (r : T57 × T78) (v : Value) (w' : World) : Prop :=
 ∃ S' udc udd ude ud8, v = (ag (.i r.1.Kind :: U4 r.1.Set [.slice udc udd ude, .i r.1.Min, .i r.1.Max])) ∧ Ext S0 w0 S' w' ∧ Hp nz wz S' w' ((some gx0, .row 79 [.string r.2.s, .i r.2.at_, .i r.2.deep, ud8] 4 0) :: Lr) ∧ r.1.Set.length = 4 ∧ Rd kT57 S' w' udc ude r.1.L ∧ r.1.L.length = udd ∧ PtO kT82 S' w' ud8 r.2.bad

def Post.z31 (gx0 : Nat) (r : T57 × T78) (v : Value) (w' : World) : Prop :=
 ∃ S' udc udd ude ud8, v = (ag (.i r.1.Kind :: U4 r.1.Set [.slice udc udd ude, .i r.1.Min, .i r.1.Max])) ∧ Ext S0 w0 S' w' ∧ Hp nz wz S' w' ((some gx0, .row 79 [.string r.2.s, .i r.2.at_, .i r.2.deep, ud8] 4 0) :: Lr) ∧ r.1.Set.length = 4 ∧ Rd kT57 S' w' udc ude r.1.L ∧ r.1.L.length = udd ∧ PtO kT82 S' w' ud8 r.2.bad

def Post.z32 (gx0 : Nat) (r : T57 × T78) (v : Value) (w' : World) : Prop :=
 ∃ S' udc udd ude ud8, v = (ag (.i r.1.Kind :: U4 r.1.Set [.slice udc udd ude, .i r.1.Min, .i r.1.Max])) ∧ Ext S0 w0 S' w' ∧ Hp nz wz S' w' ((some gx0, .row 79 [.string r.2.s, .i r.2.at_, .i r.2.deep, ud8] 4 0) :: Lr) ∧ r.1.Set.length = 4 ∧ Rd kT57 S' w' udc ude r.1.L ∧ r.1.L.length = udd ∧ PtO kT82 S' w' ud8 r.2.bad

def Post.z33 (gx0 : Nat) (r : T57 × T78) (v : Value) (w' : World) : Prop :=
 ∃ S' udc udd ude ud8, v = (ag (.i r.1.Kind :: U4 r.1.Set [.slice udc udd ude, .i r.1.Min, .i r.1.Max])) ∧ Ext S0 w0 S' w' ∧ Hp nz wz S' w' ((some gx0, .row 79 [.string r.2.s, .i r.2.at_, .i r.2.deep, ud8] 4 0) :: Lr) ∧ r.1.Set.length = 4 ∧ Rd kT57 S' w' udc ude r.1.L ∧ r.1.L.length = udd ∧ PtO kT82 S' w' ud8 r.2.bad

def Post.z34 (gx0 : Nat) (r : T57 × T78) (v : Value) (w' : World) : Prop :=
 ∃ S' udc udd ude ud8, v = (ag (.i r.1.Kind :: U4 r.1.Set [.slice udc udd ude, .i r.1.Min, .i r.1.Max])) ∧ Ext S0 w0 S' w' ∧ Hp nz wz S' w' ((some gx0, .row 79 [.string r.2.s, .i r.2.at_, .i r.2.deep, ud8] 4 0) :: Lr) ∧ r.1.Set.length = 4 ∧ Rd kT57 S' w' udc ude r.1.L ∧ r.1.L.length = udd ∧ PtO kT82 S' w' ud8 r.2.bad

def LF.z30 : T78 → (T57 × T78) → Prop := fun x0v r => ∀ {nz wz S0 w0 Lr} gx0 uda (_ : Hp nz wz S0 w0 ((some gx0, .row 79 [.string x0v.s, .i x0v.at_, .i x0v.deep, uda] 4 0) :: Lr)) (_ : PtO kT82 S0 w0 uda x0v.bad),
 Calls Tryz.prog 36 #[(pt gx0 0)] w0 (Rets (Post.z30 nz wz S0 w0 Lr gx0 r))

def LF.z31 : T78 → (T57 × T78) → Prop := fun x0v r => ∀ {nz wz S0 w0 Lr} gx0 uda (_ : Hp nz wz S0 w0 ((some gx0, .row 79 [.string x0v.s, .i x0v.at_, .i x0v.deep, uda] 4 0) :: Lr)) (_ : PtO kT82 S0 w0 uda x0v.bad),
 Calls Tryz.prog 51 #[(pt gx0 0)] w0 (Rets (Post.z31 nz wz S0 w0 Lr gx0 r))

def L.z35 (gx0 : Nat) : T57 × (List T57) × T78 → (T57 × T78) → Prop := fun ⟨x2v, x3, e0v⟩ r => ∀ S1 w1, Ext S0 w0 S1 w1 → ∀ gx2 ujg ujh uji ujj Gx3 nx3 cx3 u6v ud8 (_ : Hp nz wz S1 w1 ((some gx2, .row 58 (.i x2v.Kind :: U4 x2v.Set [.slice (Gp ujg) ujh uji, .i x2v.Min, .i x2v.Max]) 8 0) :: (ujg, .row 58 ujj (uji * kT57.size) 0) :: (Gx3, .row 58 u6v (cx3 * kT57.size) 0) :: (some gx0, .row 79 [.string e0v.s, .i e0v.at_, .i e0v.deep, ud8] 4 0) :: Lr)) (_ : x2v.Set.length = 4) (_ : Els kT57 S1 w1 ujj x2v.L) (_ : x2v.L.length = ujh) (_ : Els kT57 S1 w1 u6v x3) (_ : x3.length = nx3) (_ : PtO kT82 S1 w1 ud8 e0v.bad) (junk : Nat → Value),
 Goes Tryz.prog (base 51) Jlz ⟨lfr 38 [(0, (pt gx0 0)), (2, (pt gx2 0)), (3, .slice (Gp Gx3) nx3 cx3)] junk, []⟩ w1 (Done Tryz.prog 51 (Rets (Post.z31 nz wz S0 w0 Lr gx0 r)))

def LL.z35 : T57 × (List T57) × T78 → (T57 × T78) → Prop := fun a r => ∀ {nz wz S0 w0 Lr} (gx0 : Nat), L.z35 nz wz S0 w0 Lr gx0 a r

def L.z36 (gx0 : Nat) : T57 × (List T57) × Bool × T78 → (T57 × T78) → Prop := fun ⟨x2v, x3, x30, e0v⟩ r => ∀ S1 w1, Ext S0 w0 S1 w1 → ∀ gx2 ujg ujh uji ujj Gx3 nx3 cx3 u6v ud8 (_ : Hp nz wz S1 w1 ((some gx2, .row 58 (.i x2v.Kind :: U4 x2v.Set [.slice (Gp ujg) ujh uji, .i x2v.Min, .i x2v.Max]) 8 0) :: (ujg, .row 58 ujj (uji * kT57.size) 0) :: (Gx3, .row 58 u6v (cx3 * kT57.size) 0) :: (some gx0, .row 79 [.string e0v.s, .i e0v.at_, .i e0v.deep, ud8] 4 0) :: Lr)) (_ : x2v.Set.length = 4) (_ : Els kT57 S1 w1 ujj x2v.L) (_ : x2v.L.length = ujh) (_ : Els kT57 S1 w1 u6v x3) (_ : x3.length = nx3) (_ : PtO kT82 S1 w1 ud8 e0v.bad) (junk : Nat → Value),
 Goes Tryz.prog (base 51) Jm1 ⟨lfr 38 [(0, (pt gx0 0)), (2, (pt gx2 0)), (3, .slice (Gp Gx3) nx3 cx3), (30, .bool x30)] junk, []⟩ w1 (Done Tryz.prog 51 (Rets (Post.z31 nz wz S0 w0 Lr gx0 r)))

def LL.z36 : T57 × (List T57) × Bool × T78 → (T57 × T78) → Prop := fun a r => ∀ {nz wz S0 w0 Lr} (gx0 : Nat), L.z36 nz wz S0 w0 Lr gx0 a r

def LF.z32 : T78 → (T57 × T78) → Prop := fun x0v r => ∀ {nz wz S0 w0 Lr} gx0 uda (_ : Hp nz wz S0 w0 ((some gx0, .row 79 [.string x0v.s, .i x0v.at_, .i x0v.deep, uda] 4 0) :: Lr)) (_ : PtO kT82 S0 w0 uda x0v.bad),
 Calls Tryz.prog 75 #[(pt gx0 0)] w0 (Rets (Post.z32 nz wz S0 w0 Lr gx0 r))

def LF.z33 : T78 → (T57 × T78) → Prop := fun x0v r => ∀ {nz wz S0 w0 Lr} gx0 uda (_ : Hp nz wz S0 w0 ((some gx0, .row 79 [.string x0v.s, .i x0v.at_, .i x0v.deep, uda] 4 0) :: Lr)) (_ : PtO kT82 S0 w0 uda x0v.bad),
 Calls Tryz.prog 86 #[(pt gx0 0)] w0 (Rets (Post.z33 nz wz S0 w0 Lr gx0 r))

def L.z37 (gx0 : Nat) : T57 × Int × Bool × T78 → (T57 × T78) → Prop := fun ⟨x2v, x3, x6, e0v⟩ r => ∀ S1 w1, Ext S0 w0 S1 w1 → ∀ gx2 ujg ujh uji ujj ud8 (_ : Hp nz wz S1 w1 ((some gx2, .row 58 (.i x2v.Kind :: U4 x2v.Set [.slice (Gp ujg) ujh uji, .i x2v.Min, .i x2v.Max]) 8 0) :: (ujg, .row 58 ujj (uji * kT57.size) 0) :: (some gx0, .row 79 [.string e0v.s, .i e0v.at_, .i e0v.deep, ud8] 4 0) :: Lr)) (_ : x2v.Set.length = 4) (_ : Els kT57 S1 w1 ujj x2v.L) (_ : x2v.L.length = ujh) (_ : PtO kT82 S1 w1 ud8 e0v.bad) (junk : Nat → Value),
 Goes Tryz.prog (base 86) Jm4 ⟨lfr 73 [(0, (pt gx0 0)), (2, (pt gx2 0)), (3, .int .u8 x3), (6, .bool x6)] junk, []⟩ w1 (Done Tryz.prog 86 (Rets (Post.z33 nz wz S0 w0 Lr gx0 r)))

def LL.z37 : T57 × Int × Bool × T78 → (T57 × T78) → Prop := fun a r => ∀ {nz wz S0 w0 Lr} (gx0 : Nat), L.z37 nz wz S0 w0 Lr gx0 a r

def L.z38 (gx0 : Nat) : T57 × Int × Bool × T78 → (T57 × T78) → Prop := fun ⟨x2v, x3, x24, e0v⟩ r => ∀ S1 w1, Ext S0 w0 S1 w1 → ∀ gx2 ujg ujh uji ujj ud8 (_ : Hp nz wz S1 w1 ((some gx2, .row 58 (.i x2v.Kind :: U4 x2v.Set [.slice (Gp ujg) ujh uji, .i x2v.Min, .i x2v.Max]) 8 0) :: (ujg, .row 58 ujj (uji * kT57.size) 0) :: (some gx0, .row 79 [.string e0v.s, .i e0v.at_, .i e0v.deep, ud8] 4 0) :: Lr)) (_ : x2v.Set.length = 4) (_ : Els kT57 S1 w1 ujj x2v.L) (_ : x2v.L.length = ujh) (_ : PtO kT82 S1 w1 ud8 e0v.bad) (junk : Nat → Value),
 Goes Tryz.prog (base 86) Jm5 ⟨lfr 73 [(0, (pt gx0 0)), (2, (pt gx2 0)), (3, .int .u8 x3), (24, .bool x24)] junk, []⟩ w1 (Done Tryz.prog 86 (Rets (Post.z33 nz wz S0 w0 Lr gx0 r)))

def LL.z38 : T57 × Int × Bool × T78 → (T57 × T78) → Prop := fun a r => ∀ {nz wz S0 w0 Lr} (gx0 : Nat), L.z38 nz wz S0 w0 Lr gx0 a r

def LF.z34 : T78 → (T57 × T78) → Prop := fun x0v r => ∀ {nz wz S0 w0 Lr} gx0 uda (_ : Hp nz wz S0 w0 ((some gx0, .row 79 [.string x0v.s, .i x0v.at_, .i x0v.deep, uda] 4 0) :: Lr)) (_ : PtO kT82 S0 w0 uda x0v.bad),
 Calls Tryz.prog 97 #[(pt gx0 0)] w0 (Rets (Post.z34 nz wz S0 w0 Lr gx0 r))

def L.z39 (gx0 : Nat) : T57 × T78 → (T57 × T78) → Prop := fun ⟨x2v, e0v⟩ r => ∀ S1 w1, Ext S0 w0 S1 w1 → ∀ gx2 ujg ujh uji ujj ud8 (_ : Hp nz wz S1 w1 ((some gx2, .row 58 (.i x2v.Kind :: U4 x2v.Set [.slice (Gp ujg) ujh uji, .i x2v.Min, .i x2v.Max]) 8 0) :: (ujg, .row 58 ujj (uji * kT57.size) 0) :: (some gx0, .row 79 [.string e0v.s, .i e0v.at_, .i e0v.deep, ud8] 4 0) :: Lr)) (_ : x2v.Set.length = 4) (_ : Els kT57 S1 w1 ujj x2v.L) (_ : x2v.L.length = ujh) (_ : PtO kT82 S1 w1 ud8 e0v.bad) (junk : Nat → Value),
 Goes Tryz.prog (base 97) Jm6 ⟨lfr 27 [(0, (pt gx0 0)), (2, (pt gx2 0))] junk, []⟩ w1 (Done Tryz.prog 97 (Rets (Post.z34 nz wz S0 w0 Lr gx0 r)))

def LL.z39 : T57 × T78 → (T57 × T78) → Prop := fun a r => ∀ {nz wz S0 w0 Lr} (gx0 : Nat), L.z39 nz wz S0 w0 Lr gx0 a r

def L.z3a (gx0 : Nat) : T57 × (List T57) × T78 → (T57 × T78) → Prop := fun ⟨x2v, x3, e0v⟩ r => ∀ S1 w1, Ext S0 w0 S1 w1 → ∀ gx2 ujg ujh uji ujj Gx3 nx3 cx3 u6v ud8 (_ : Hp nz wz S1 w1 ((some gx2, .row 58 (.i x2v.Kind :: U4 x2v.Set [.slice (Gp ujg) ujh uji, .i x2v.Min, .i x2v.Max]) 8 0) :: (ujg, .row 58 ujj (uji * kT57.size) 0) :: (Gx3, .row 58 u6v (cx3 * kT57.size) 0) :: (some gx0, .row 79 [.string e0v.s, .i e0v.at_, .i e0v.deep, ud8] 4 0) :: Lr)) (_ : x2v.Set.length = 4) (_ : Els kT57 S1 w1 ujj x2v.L) (_ : x2v.L.length = ujh) (_ : Els kT57 S1 w1 u6v x3) (_ : x3.length = nx3) (_ : PtO kT82 S1 w1 ud8 e0v.bad) (junk : Nat → Value),
 Goes Tryz.prog (base 36) Jma ⟨lfr 16 [(0, (pt gx0 0)), (2, (pt gx2 0)), (3, .slice (Gp Gx3) nx3 cx3)] junk, []⟩ w1 (Done Tryz.prog 36 (Rets (Post.z30 nz wz S0 w0 Lr gx0 r)))

def LL.z3a : T57 × (List T57) × T78 → (T57 × T78) → Prop := fun a r => ∀ {nz wz S0 w0 Lr} (gx0 : Nat), L.z3a nz wz S0 w0 Lr gx0 a r

theorem W.z3b : (∀ a r, M.syntax_parser_alternation a = some r → LF.z30 a r) ∧ (∀ a r, M.syntax_parser_alternation_l0 a = some r → LL.z3a a r) ∧ (∀ a r, M.syntax_parser_sequence a = some r → LF.z31 a r) ∧ (∀ a r, M.syntax_parser_sequence_l0 a = some r → LL.z35 a r) ∧ (∀ a r, M.syntax_parser_sequence_l1 a = some r → LL.z36 a r) ∧ (∀ a r, M.syntax_parser_piece a = some r → LF.z32 a r) ∧ (∀ a r, M.syntax_parser_atom a = some r → LF.z33 a r) ∧ (∀ a r, M.syntax_parser_atom_l0 a = some r → LL.z37 a r) ∧ (∀ a r, M.syntax_parser_atom_l1 a = some r → LL.z38 a r) ∧ (∀ a r, M.syntax_parser_group a = some r → LF.z34 a r) ∧ (∀ a r, M.syntax_parser_group_l0 a = some r → LL.z39 a r) := by
 refine M.syntax_parser_alternation.mutual_partial_correctness LF.z30 LL.z3a LF.z31 LL.z35 LL.z36 LF.z32 LF.z33 LL.z37 LL.z38 LF.z34 LL.z39 ?_ ?_ ?_ ?_ ?_ ?_ ?_ ?_ ?_ ?_ ?_
 ·
  intro ujk rec_syntax_parser_sequence ujl ih_syntax_parser_sequence x0v r h nz wz S0 w0 Lr gx0 uda p0 udb
  try dsimp only at h
  refine Zf Tryz.f36 B36 15 ?_
  refine Gj 16 [(0, (pt gx0 0))] fun junk => ?_
  refine Gn 2 [] Jmc ?_
  refine Op_.alloc 58 2 0 (.agg #[.i 0, .u 0, .u 0, .u 0, .u 0, .slice none 0 0, .i 0, .i 0]) [.i 0, .u 0, .u 0, .u 0, .u 0, .slice none 0 0, .i 0, .i 0] p0 Goes.v (by kernel_rfl) (by kernel_rfl) ?_
  intro b2 w2 z2 p2
  refine Gn 4 [(4, (pt gx0 0))] Jme ?_
  have p2 := p2.fr 1
  refine bind_some' h fun y4 e5 h => ?_
  refine Gc (kc 51 [4] #[76]) 5 58 51 _ (ih_syntax_parser_sequence x0v y4 e5 gx0 uda p2 (udb.ext z2)) ?_
  rintro _ w3 ⟨S3, uio, uip, uiq, ufn, rfl, z3, p3, uir, uis, rfl, ufo⟩
  have f7 : Els kT57 S3 w3 ((.i y4.1.Kind :: U4 y4.1.Set [.slice uio y4.1.L.length uiq, .i y4.1.Min, .i y4.1.Max]) : List Value) [y4.1] := by exact (Els.cons (K := kT57) (vs := (.i y4.1.Kind :: U4 y4.1.Set [.slice uio y4.1.L.length uiq, .i y4.1.Min, .i y4.1.Max])) (x := y4.1) (kT57_close ⟨[.i y4.1.Kind], (U4 y4.1.Set [.slice uio y4.1.L.length uiq, .i y4.1.Min, .i y4.1.Max]), rfl, rfl, ⟨(U4 y4.1.Set []), [.slice uio y4.1.L.length uiq, .i y4.1.Min, .i y4.1.Max], rfl, ⟨uir, els_mk4 uir⟩, ⟨[.slice uio y4.1.L.length uiq], [.i y4.1.Min, .i y4.1.Max], rfl, ⟨_, _, rfl, uis⟩, ⟨[.i y4.1.Min], [.i y4.1.Max], rfl, rfl, rfl⟩⟩⟩⟩) Els.nil)
  refine Op_.made (.buildSlice 56 1 #[(0, (.tmp 5))]) 6 56 (fun b => .slice (Gp (some b)) 1 1) 58 ((.i y4.1.Kind :: U4 y4.1.Set [.slice uio y4.1.L.length uiq, .i y4.1.Min, .i y4.1.Max]) : List Value) p3 Goes.v (by kernel_rfl) ?_
  intro b6 w4 z4 p4
  have p4 : Hp nz wz S3 w4 (((some b6), .row 58 ((.i y4.1.Kind :: U4 y4.1.Set [.slice uio y4.1.L.length uiq, .i y4.1.Min, .i y4.1.Max]) : List Value) (1 * kT57.size) 0) :: (some gx0, .row 79 [.string y4.2.s, .i y4.2.at_, .i y4.2.deep, ufn] 4 0) :: (some b2, .row 58 [.i 0, .u 0, .u 0, .u 0, .u 0, .slice none 0 0, .i 0, .i 0] 8 0) :: Lr) := p4
  refine Gn 5 [(3, .slice (Gp (some b6)) 1 1)] Jma ?_
  have p4 : Hp nz wz S3 w4 ((none, .row 58 [] (0 * kT57.size) 0) :: ((some b6), .row 58 ((.i y4.1.Kind :: U4 y4.1.Set [.slice uio y4.1.L.length uiq, .i y4.1.Min, .i y4.1.Max]) : List Value) (1 * kT57.size) 0) :: (some gx0, .row 79 [.string y4.2.s, .i y4.2.at_, .i y4.2.deep, ufn] 4 0) :: (some b2, .row 58 [.i 0, .u 0, .u 0, .u 0, .u 0, .slice none 0 0, .i 0, .i 0] 8 0) :: Lr) := p4.nilRow' 58
  have p4 := (((p4.fr 2).fr 2).fr 2).fr 3
  exact Gj 16 [(0, (pt gx0 0)), (2, (pt b2 0)), (3, .slice (Gp (some b6)) 1 1)] (ujl _ _ h gx0 _ _ ((((Ext.refl S0 w0).trans z2).trans z3).trans z4) b2 none 0 0 [] (some b6) 1 1 ((.i y4.1.Kind :: U4 y4.1.Set [.slice uio y4.1.L.length uiq, .i y4.1.Min, .i y4.1.Max]) : List Value) ufn p4 rfl (Els.nil (K := kT57)) rfl (f7.ext z4) rfl (ufo.ext z4))
 ·
  intro ujk rec_syntax_parser_sequence ujl ih_syntax_parser_sequence ⟨x2v, x3, e0v⟩ r h nz wz S0 w0 Lr gx0 S1 w1 hx gx2 ujg ujh uji ujj Gx3 nx3 cx3 u6v ud8 p1 ujm ujn ujo fx3 lx3 ud9 junk
  try dsimp only at h
  subst ujo
  subst lx3
  refine Gn 4 [(7, (pt gx0 0))] Jmh ?_
  have p1 := p1.fr 3
  refine bind_some' h fun y13 e14 h => ?_
  refine Gc (.call { callee := .value (.func 52), args := #[(.tmp 7), (.const (.int .u8 124))], argTypes := #[76, 5] }) 8 4 52 _ (W.z1x e0v 124 y13 e14 gx0 ud8 p1 ud9) ?_
  rintro _ w5 ⟨S5, ug9, rfl, z5, p5, ugb⟩
  refine Gn 1 [] Jmg ?_
  refine ite_some h (fun h15 h => ?_) (fun h15 h => ?_)
  ·
   rw [h15]
   refine Gn 6 [(9, .slice (Gp Gx3) x3.length cx3), (10, (pt gx0 0))] Jmj ?_
   refine bind_some' h fun y16 e17 h => ?_
   refine Gc (kc 51 [10] #[76]) 11 58 51 _ (ih_syntax_parser_sequence y13.2 y16 e17 gx0 ug9 p5 ugb) ?_
   rintro _ w6 ⟨S6, ujp, ujq, ujr, ugw, rfl, z6, p6, ujs, ujt, rfl, ugx⟩
   have f19 : Els kT57 S6 w6 ((.i y16.1.Kind :: U4 y16.1.Set [.slice ujp y16.1.L.length ujr, .i y16.1.Min, .i y16.1.Max]) : List Value) [y16.1] := by exact (Els.cons (K := kT57) (vs := (.i y16.1.Kind :: U4 y16.1.Set [.slice ujp y16.1.L.length ujr, .i y16.1.Min, .i y16.1.Max])) (x := y16.1) (kT57_close ⟨[.i y16.1.Kind], (U4 y16.1.Set [.slice ujp y16.1.L.length ujr, .i y16.1.Min, .i y16.1.Max]), rfl, rfl, ⟨(U4 y16.1.Set []), [.slice ujp y16.1.L.length ujr, .i y16.1.Min, .i y16.1.Max], rfl, ⟨ujs, els_mk4 ujs⟩, ⟨[.slice ujp y16.1.L.length ujr], [.i y16.1.Min, .i y16.1.Max], rfl, ⟨_, _, rfl, ujt⟩, ⟨[.i y16.1.Min], [.i y16.1.Max], rfl, rfl, rfl⟩⟩⟩⟩) Els.nil)
   refine Op_.made (.buildSlice 56 1 #[(0, (.tmp 11))]) 12 56 (fun b => .slice (Gp (some b)) 1 1) 58 ((.i y16.1.Kind :: U4 y16.1.Set [.slice ujp y16.1.L.length ujr, .i y16.1.Min, .i y16.1.Max]) : List Value) p6 Goes.v (by kernel_rfl) ?_
   intro b18 w7 z7 p7
   have p7 : Hp nz wz S6 w7 (((some b18), .row 58 ((.i y16.1.Kind :: U4 y16.1.Set [.slice ujp y16.1.L.length ujr, .i y16.1.Min, .i y16.1.Max]) : List Value) (1 * kT57.size) 0) :: (some gx0, .row 79 [.string y16.2.s, .i y16.2.at_, .i y16.2.deep, ugw] 4 0) :: (some gx2, .row 58 (.i x2v.Kind :: U4 x2v.Set [.slice (Gp ujg) x2v.L.length uji, .i x2v.Min, .i x2v.Max]) 8 0) :: (ujg, .row 58 ujj (uji * kT57.size) 0) :: (Gx3, .row 58 u6v (cx3 * kT57.size) 0) :: Lr) := p7
   refine guard_some' h fun g24 h => ?_
   refine Op_.ap_n (K := kT57) 56 (.tmp 9) (.tmp 12) 13 56 58 4 (.agg #[.i 0, .u 0, .u 0, .u 0, .u 0, .slice none 0 0, .i 0, .i 0]) 80 x3.length cx3 1 x3 [y16.1] (x3 ++ [y16.1]) (Gp (some b18)) 1 rfl rfl rfl p7 rfl (fx3.ext ((z5.trans z6).trans z7)) Goes.v (by kernel_rfl) (by kernel_rfl) (by kernel_rfl) (by kernel_rfl) rfl (by decide) (f19.ext z7) (src_own p7 (q := 0) rfl) (by have := g24; omega) (by have := g24; omega) ?_
   intro w8 G25 c26 uju z8 p8 f28
   refine Gn 4 [(3, .slice (Gp G25) ((x3 ++ [y16.1]).length) c26)] Jma ?_
   have p8 := p8.dp 0
   have p8 := (((p8.fr 0).fr 3).fr 3).fr 3
   exact Gj 16 [(0, (pt gx0 0)), (2, (pt gx2 0)), (3, .slice (Gp G25) ((x3 ++ [y16.1]).length) c26)] (ujl _ _ h gx0 _ _ ((((hx.trans z5).trans z6).trans z7).trans z8) gx2 ujg x2v.L.length uji ujj G25 ((x3 ++ [y16.1]).length) c26 uju ugw p8 ujm (ujn.ext (((z5.trans z6).trans z7).trans z8)) rfl f28 rfl (ugx.ext (z7.trans z8)))
  ·
   have ub : y13.1 = false := by simpa using h15
   rw [ub]
   refine Gn 5 [(14, .slice (Gp Gx3) x3.length cx3)] Jml ?_
   obtain ⟨S9, z9, p9, f29⟩ := p5.freezeRd 3 rfl (fx3.ext z5) (by decide)
   refine bind_some' h fun y30 e31 h => ?_
   refine Gc (.call { callee := .value (.func 53), args := #[(.const (.int .i64 3)), (.tmp 14)], argTypes := #[3, 56] }) 15 58 53 _ (W.z2z 3 x3 y30 e31 (Gp Gx3) x3.length cx3 p9 f29 rfl) ?_
   rintro _ w10 ⟨S10, ujv, ujw, ujx, rfl, z10, p10, ujy, ujz, rfl⟩
   have p10 := p10.dp 3
   refine So 58 (.tmp 2) (.tmp 15) 0 1 gx2 0 (ag (.i y30.Kind :: U4 y30.Set [.slice ujv y30.L.length ujx, .i y30.Min, .i y30.Max])) (.i y30.Kind :: U4 y30.Set [.slice ujv y30.L.length ujx, .i y30.Min, .i y30.Max]) p10 rfl Goes.s ?_
   intro w11 z11 p11
   have p11 : Hp nz wz S10 w11 ((some gx0, .row 79 [.string y13.2.s, .i y13.2.at_, .i y13.2.deep, ug9] 4 0) :: (some gx2, .row 58 (.i y30.Kind :: U4 y30.Set [.slice ujv y30.L.length ujx, .i y30.Min, .i y30.Max]) 8 0) :: (ujg, .row 58 ujj (uji * kT57.size) 0) :: Lr) := p11
   refine Gn 1 [] Jmk ?_
   obtain rfl := Option.some.inj h
   have p11 := p11.dp 2
   have p11 := (p11.fr 0).fr 1
   exact Goes.ret (fn := Tryz.f36) (by kernel_rfl) (v := (ag (.i y30.Kind :: U4 y30.Set [.slice ujv y30.L.length ujx, .i y30.Min, .i y30.Max]))) (results_n1 (fn := Tryz.f36) (a := .cell 2 58) (by kernel_rfl) (resV_cell ⟨gx2, 0, none⟩ (by kernel_rfl) (run_loadN (.i y30.Kind :: U4 y30.Set [.slice ujv y30.L.length ujx, .i y30.Min, .i y30.Max]) (by kernel_rfl) (by kernel_rfl) (p11.pa 0 0)))) ⟨S10, ujv, y30.L.length, ujx, ug9, rfl, ((((hx.trans z5).trans z9).trans z10).trans z11), p11.drop, ujy, (ujz.ext z11), rfl, (ugb.ext ((z9.trans z10).trans z11))⟩
 ·
  intro uk0 uk1 x0v r h nz wz S0 w0 Lr gx0 uda p0 udb
  try dsimp only at h
  refine Zf Tryz.f51 B51 37 ?_
  refine Gj 38 [(0, (pt gx0 0))] fun junk => ?_
  refine Gn 2 [] Jmn ?_
  refine Op_.alloc 58 2 0 (.agg #[.i 0, .u 0, .u 0, .u 0, .u 0, .slice none 0 0, .i 0, .i 0]) [.i 0, .u 0, .u 0, .u 0, .u 0, .slice none 0 0, .i 0, .i 0] p0 Goes.v (by kernel_rfl) (by kernel_rfl) ?_
  intro b2 w2 z2 p2
  refine Gn 8 [(3, .slice none 0 0)] Jlz ?_
  have p2 : Hp nz wz S0 w2 ((none, .row 58 [] (0 * kT57.size) 0) :: (some b2, .row 58 [.i 0, .u 0, .u 0, .u 0, .u 0, .slice none 0 0, .i 0, .i 0] 8 0) :: (some gx0, .row 79 [.string x0v.s, .i x0v.at_, .i x0v.deep, uda] 4 0) :: Lr) := p2.nilRow' 58
  have p2 : Hp nz wz S0 w2 ((none, .row 58 [] (0 * kT57.size) 0) :: (none, .row 58 [] (0 * kT57.size) 0) :: (some b2, .row 58 [.i 0, .u 0, .u 0, .u 0, .u 0, .slice (Gp none) 0 0, .i 0, .i 0] 8 0) :: (some gx0, .row 79 [.string x0v.s, .i x0v.at_, .i x0v.deep, uda] 4 0) :: Lr) := p2.nilRow' 58
  have p2 := (((p2.fr 3).fr 1).fr 2).fr 3
  exact Gj 38 [(0, (pt gx0 0)), (2, (pt b2 0)), (3, .slice (Gp none) 0 0)] (uk1 _ _ h gx0 _ _ ((Ext.refl S0 w0).trans z2) b2 none 0 0 [] none 0 0 [] uda p2 rfl (Els.nil (K := kT57)) rfl (Els.nil (K := kT57)) rfl (udb.ext z2))
 ·
  intro uk2 uk3 ⟨x2v, x3, e0v⟩ r h nz wz S0 w0 Lr gx0 S1 w1 hx gx2 ujg ujh uji ujj Gx3 nx3 cx3 u6v ud8 p1 ujm ujn ujo fx3 lx3 ud9 junk
  try dsimp only at h
  subst ujo
  subst lx3
  refine Gn 2 [] Jmo ?_
  have z3 : Ext S1 w1 S1 (w1).drew := Ext.draw
  have p3 := p1.draw
  refine Goes.drawn (s := [19, 24]) (F := Fc S1 (w1).drew [(⟨gx0, 3, none⟩, ud8), (⟨gx0, 1, none⟩, .i e0v.at_), (⟨gx0, 0, none⟩, .string e0v.s)]) 2 27 (by kernel_rfl) (by kernel_rfl) (by kernel_rfl) (by kernel_rfl) ?_
  generalize (w1).drew = w3 at z3 p3 ⊢
  refine AnyG.pu 0 (.move (.tmp 0)) 4 76 ((pt gx0 0)) (Fc.here (p3.cs [(3, 3, 1), (3, 1, 1), (3, 0, 1)])) ?_
  refine AnyG.pu 1 (.nilCheck (.tmp 4)) 5 0 ((pt gx0 0)) (Fc.here (p3.cs [(3, 3, 1), (3, 1, 1), (3, 0, 1)])) ?_
  refine AnyG.pu 2 (.fieldAddr 79 (.tmp 5) 3) 6 0 ((pt gx0 3)) (Fc.here (p3.cs [(3, 3, 1), (3, 1, 1), (3, 0, 1)])) ?_
  refine AnyG.ld1 (i := 3) 77 (.tmp 6) 7 77 ⟨gx0, 3, none⟩ (ud8) (by kernel_rfl) (by kernel_rfl) (Fc.here (p3.cs [(3, 3, 1), (3, 1, 1), (3, 0, 1)])) (by kernel_rfl) (by kernel_rfl) (fun _ h => h.2.at_ 0 rfl) ?_
  refine let_some h fun v24 h9 h => ?_
  rcases v24 with _ | y10
  ·
   try dsimp only at h
   obtain rfl := PtO.nil (ud9.ext z3) h9
   refine AnyG.pu 4 (.binOp .eql 77 (.tmp 7) (.const (.pointer none)) 77) 8 4 (.bool true) (Fc.here (p3.cs [(3, 3, 1), (3, 1, 1), (3, 0, 1)])) ?_
   refine AnyG.pu 5 (.move (.tmp 8)) 9 4 (.bool true) (Fc.here (p3.cs [(3, 3, 1), (3, 1, 1), (3, 0, 1)])) ?_
   refine AnyG.pu 6 (.move (.tmp 0)) 10 76 ((pt gx0 0)) (Fc.here (p3.cs [(3, 3, 1), (3, 1, 1), (3, 0, 1)])) ?_
   refine AnyG.pu 7 (.nilCheck (.tmp 10)) 11 0 ((pt gx0 0)) (Fc.here (p3.cs [(3, 3, 1), (3, 1, 1), (3, 0, 1)])) ?_
   refine AnyG.pu 8 (.fieldAddr 79 (.tmp 11) 1) 12 0 ((pt gx0 1)) (Fc.here (p3.cs [(3, 3, 1), (3, 1, 1), (3, 0, 1)])) ?_
   refine AnyG.ld1 (i := 9) 3 (.tmp 12) 13 3 ⟨gx0, 1, none⟩ (.i e0v.at_) (by kernel_rfl) (by kernel_rfl) (Fc.here (p3.cs [(3, 3, 1), (3, 1, 1), (3, 0, 1)])) (by kernel_rfl) (by kernel_rfl) (fun _ h => h.2.at_ 1 rfl) ?_
   refine AnyG.pu 10 (.move (.tmp 0)) 14 76 ((pt gx0 0)) (Fc.here (p3.cs [(3, 3, 1), (3, 1, 1), (3, 0, 1)])) ?_
   refine AnyG.pu 11 (.nilCheck (.tmp 14)) 15 0 ((pt gx0 0)) (Fc.here (p3.cs [(3, 3, 1), (3, 1, 1), (3, 0, 1)])) ?_
   refine AnyG.pu 12 (.fieldAddr 79 (.tmp 15) 0) 16 0 ((pt gx0 0)) (Fc.here (p3.cs [(3, 3, 1), (3, 1, 1), (3, 0, 1)])) ?_
   refine AnyG.ld1 (i := 13) 9 (.tmp 16) 17 9 ⟨gx0, 0, none⟩ (.string e0v.s) (by kernel_rfl) (by kernel_rfl) (Fc.here (p3.cs [(3, 3, 1), (3, 1, 1), (3, 0, 1)])) (by kernel_rfl) (by kernel_rfl) (fun _ h => h.2.at_ 2 rfl) ?_
   refine AnyG.pu 14 (.call { callee := .builtin .len, args := #[(.tmp 17)], argTypes := #[9] }) 18 3 (.i (e0v.s.size : Int)) (Fc.here (p3.cs [(3, 3, 1), (3, 1, 1), (3, 0, 1)])) ?_
   refine AnyG.pu 15 (.binOp .lss 3 (.tmp 13) (.tmp 18) 3) 19 4 (.bool (decide (e0v.at_ < (e0v.s.size : Int)))) (Fc.here (p3.cs [(3, 3, 1), (3, 1, 1), (3, 0, 1)])) ?_
   refine AnyG.pu 16 (.pick (.tmp 9) (.tmp 19) (.const (.bool false))) 20 4 (.bool (decide (e0v.at_ < (e0v.s.size : Int)))) (Fc.here (p3.cs [(3, 3, 1), (3, 1, 1), (3, 0, 1)])) ?_
   refine AnyG.pu 17 (.move (.tmp 20)) 21 4 (.bool (decide (e0v.at_ < (e0v.s.size : Int)))) (Fc.here (p3.cs [(3, 3, 1), (3, 1, 1), (3, 0, 1)])) ?_
   refine ite_some h (fun h15 h => ?_) (fun h15 h => ?_)
   ·
    rw [decide_eq_true h15]
    refine AnyG.pu 18 (.move (.tmp 0)) 22 76 ((pt gx0 0)) (Fc.here (p3.cs [(3, 3, 1), (3, 1, 1), (3, 0, 1)])) ?_
    have p3 := p3.fr 3
    refine bind_some' h fun y16 e17 h => ?_
    refine Op_.call (kc 74 [22] #[76]) 23 5 74 #[(pt gx0 0)] (AnyG.cs (i := 19) (by kernel_rfl) (by kernel_rfl)) (by kernel_rfl) (W.z1u (⟨e0v.s, e0v.at_, e0v.deep, none⟩ : T78) y16 e17 gx0 (.pointer none) p3 rfl) ?_
    rintro _ w4 ⟨S4, uf8, rfl, z4, p4, ufb⟩
    refine AnyG.last [24] (Fc S4 w4 []) (by decide) ?_
    refine AnyG.pu 20 (.binOp .neq 5 (.tmp 23) (.const (.int .u8 124)) 5) 24 4 (.bool (!(decide (y16.1 = 124)))) (Fc.here trivial) ?_
    refine AnyG.pu 21 (.pick (.tmp 21) (.tmp 24) (.const (.bool false))) 25 4 (.bool (!(decide (y16.1 = 124)))) (Fc.here trivial) ?_
    refine AnyG.pu 22 (.move (.tmp 25)) 26 4 (.bool (!(decide (y16.1 = 124)))) (Fc.here trivial) ?_
    refine ite_some h (fun h18 h => ?_) (fun h18 h => ?_)
    ·
     rw [decide_eq_true h18]
     refine AnyG.s1 23 27 (Fc.here trivial) ?_
     refine AnyG.skipL1 (i := 24) 28 (by kernel_rfl) (by kernel_rfl) (.inl (by decide)) ?_
     refine AnyG.s1 25 29 (Fc.here trivial) ?_
     refine AnyG.pu 26 (.pick (.tmp 26) (.tmp 29) (.const (.bool false))) 30 4 (.bool false) (Fc.here trivial) ?_
     refine AnyG.done (by kernel_rfl) ?_ _
     have p4 := (((p4.fr 0).fr 3).fr 3).fr 3
     exact Gj 38 [(0, (pt gx0 0)), (2, (pt gx2 0)), (3, .slice (Gp Gx3) x3.length cx3), (30, .bool false)] (uk3 _ _ h gx0 _ _ ((hx.trans z3).trans z4) gx2 ujg x2v.L.length uji ujj Gx3 x3.length cx3 u6v uf8 p4 ujm (ujn.ext (z3.trans z4)) rfl (fx3.ext (z3.trans z4)) rfl ufb)
    ·
     rw [decide_eq_false h18]
     refine AnyG.pu 23 (.move (.tmp 0)) 27 76 ((pt gx0 0)) (Fc.here trivial) ?_
     refine bind_some' h fun y22 e23 h => ?_
     refine Op_.call (kc 74 [27] #[76]) 28 5 74 #[(pt gx0 0)] (AnyG.cs (i := 24) (by kernel_rfl) (by kernel_rfl)) (by kernel_rfl) (W.z1u y16.2 y22 e23 gx0 uf8 p4 ufb) ?_
     rintro _ w5 ⟨S5, ug9, rfl, z5, p5, ugb⟩
     refine AnyG.last [] (Fc S5 w5 []) (by decide) ?_
     refine AnyG.pu 25 (.binOp .neq 5 (.tmp 28) (.const (.int .u8 41)) 5) 29 4 (.bool (!(decide (y22.1 = 41)))) (Fc.here trivial) ?_
     refine AnyG.pu 26 (.pick (.tmp 26) (.tmp 29) (.const (.bool false))) 30 4 (.bool (!(decide (y22.1 = 41)))) (Fc.here trivial) ?_
     refine AnyG.done (by kernel_rfl) ?_ _
     have p5 := (((p5.fr 0).fr 3).fr 3).fr 3
     exact Gj 38 [(0, (pt gx0 0)), (2, (pt gx2 0)), (3, .slice (Gp Gx3) x3.length cx3), (30, .bool (!(decide (y22.1 = 41))))] (uk3 _ _ h gx0 _ _ (((hx.trans z3).trans z4).trans z5) gx2 ujg x2v.L.length uji ujj Gx3 x3.length cx3 u6v ug9 p5 ujm (ujn.ext ((z3.trans z4).trans z5)) rfl (fx3.ext ((z3.trans z4).trans z5)) rfl ugb)
   ·
    rw [decide_eq_false h15]
    refine AnyG.s1 18 22 (Fc.here (p3.cs [(3, 3, 1), (3, 1, 1), (3, 0, 1)])) ?_
    refine AnyG.skipL1 (i := 19) 23 (by kernel_rfl) (by kernel_rfl) (.inl (by decide)) ?_
    refine AnyG.s1 20 24 (Fc.here (p3.cs [(3, 3, 1), (3, 1, 1), (3, 0, 1)])) ?_
    refine AnyG.pu 21 (.pick (.tmp 21) (.tmp 24) (.const (.bool false))) 25 4 (.bool false) (Fc.here (p3.cs [(3, 3, 1), (3, 1, 1), (3, 0, 1)])) ?_
    refine AnyG.pu 22 (.move (.tmp 25)) 26 4 (.bool false) (Fc.here (p3.cs [(3, 3, 1), (3, 1, 1), (3, 0, 1)])) ?_
    refine AnyG.s1 23 27 (Fc.here (p3.cs [(3, 3, 1), (3, 1, 1), (3, 0, 1)])) ?_
    refine AnyG.skipL1 (i := 24) 28 (by kernel_rfl) (by kernel_rfl) (.inl (by decide)) ?_
    refine AnyG.s1 25 29 (Fc.here (p3.cs [(3, 3, 1), (3, 1, 1), (3, 0, 1)])) ?_
    refine AnyG.pu 26 (.pick (.tmp 26) (.tmp 29) (.const (.bool false))) 30 4 (.bool false) (Fc.here (p3.cs [(3, 3, 1), (3, 1, 1), (3, 0, 1)])) ?_
    refine AnyG.done (by kernel_rfl) ?_ _
    exact Gj 38 [(0, (pt gx0 0)), (2, (pt gx2 0)), (3, .slice (Gp Gx3) x3.length cx3), (30, .bool false)] (uk3 _ _ h gx0 _ _ (hx.trans z3) gx2 ujg x2v.L.length uji ujj Gx3 x3.length cx3 u6v (.pointer none) p3 ujm (ujn.ext z3) rfl (fx3.ext z3) rfl rfl)
  ·
   try dsimp only at h
   obtain ⟨a12, _, rfl, -, f13, q14⟩ := PtO.got (ud9.ext z3) h9
   obtain rfl := q14
   refine AnyG.pu 4 (.binOp .eql 77 (.tmp 7) (.const (.pointer none)) 77) 8 4 (.bool false) (Fc.here (p3.cs [(3, 3, 1), (3, 1, 1), (3, 0, 1)])) ?_
   refine AnyG.pu 5 (.move (.tmp 8)) 9 4 (.bool false) (Fc.here (p3.cs [(3, 3, 1), (3, 1, 1), (3, 0, 1)])) ?_
   refine AnyG.s1 6 10 (Fc.here (p3.cs [(3, 3, 1), (3, 1, 1), (3, 0, 1)])) ?_
   refine AnyG.s1 7 11 (Fc.here (p3.cs [(3, 3, 1), (3, 1, 1), (3, 0, 1)])) ?_
   refine AnyG.s1 8 12 (Fc.here (p3.cs [(3, 3, 1), (3, 1, 1), (3, 0, 1)])) ?_
   refine AnyG.s1 9 13 (Fc.here (p3.cs [(3, 3, 1), (3, 1, 1), (3, 0, 1)])) ?_
   refine AnyG.s1 10 14 (Fc.here (p3.cs [(3, 3, 1), (3, 1, 1), (3, 0, 1)])) ?_
   refine AnyG.s1 11 15 (Fc.here (p3.cs [(3, 3, 1), (3, 1, 1), (3, 0, 1)])) ?_
   refine AnyG.s1 12 16 (Fc.here (p3.cs [(3, 3, 1), (3, 1, 1), (3, 0, 1)])) ?_
   refine AnyG.s1 13 17 (Fc.here (p3.cs [(3, 3, 1), (3, 1, 1), (3, 0, 1)])) ?_
   refine AnyG.s1 14 18 (Fc.here (p3.cs [(3, 3, 1), (3, 1, 1), (3, 0, 1)])) ?_
   refine AnyG.s1 15 19 (Fc.here (p3.cs [(3, 3, 1), (3, 1, 1), (3, 0, 1)])) ?_
   refine AnyG.pu 16 (.pick (.tmp 9) (.tmp 19) (.const (.bool false))) 20 4 (.bool false) (Fc.here (p3.cs [(3, 3, 1), (3, 1, 1), (3, 0, 1)])) ?_
   refine AnyG.pu 17 (.move (.tmp 20)) 21 4 (.bool false) (Fc.here (p3.cs [(3, 3, 1), (3, 1, 1), (3, 0, 1)])) ?_
   refine AnyG.s1 18 22 (Fc.here (p3.cs [(3, 3, 1), (3, 1, 1), (3, 0, 1)])) ?_
   refine AnyG.skipL1 (i := 19) 23 (by kernel_rfl) (by kernel_rfl) (.inl (by decide)) ?_
   refine AnyG.s1 20 24 (Fc.here (p3.cs [(3, 3, 1), (3, 1, 1), (3, 0, 1)])) ?_
   refine AnyG.pu 21 (.pick (.tmp 21) (.tmp 24) (.const (.bool false))) 25 4 (.bool false) (Fc.here (p3.cs [(3, 3, 1), (3, 1, 1), (3, 0, 1)])) ?_
   refine AnyG.pu 22 (.move (.tmp 25)) 26 4 (.bool false) (Fc.here (p3.cs [(3, 3, 1), (3, 1, 1), (3, 0, 1)])) ?_
   refine AnyG.s1 23 27 (Fc.here (p3.cs [(3, 3, 1), (3, 1, 1), (3, 0, 1)])) ?_
   refine AnyG.skipL1 (i := 24) 28 (by kernel_rfl) (by kernel_rfl) (.inl (by decide)) ?_
   refine AnyG.s1 25 29 (Fc.here (p3.cs [(3, 3, 1), (3, 1, 1), (3, 0, 1)])) ?_
   refine AnyG.pu 26 (.pick (.tmp 26) (.tmp 29) (.const (.bool false))) 30 4 (.bool false) (Fc.here (p3.cs [(3, 3, 1), (3, 1, 1), (3, 0, 1)])) ?_
   refine AnyG.done (by kernel_rfl) ?_ _
   exact Gj 38 [(0, (pt gx0 0)), (2, (pt gx2 0)), (3, .slice (Gp Gx3) x3.length cx3), (30, .bool false)] (uk3 _ _ h gx0 _ _ (hx.trans z3) gx2 ujg x2v.L.length uji ujj Gx3 x3.length cx3 u6v (.pointer (some a12)) p3 ujm (ujn.ext z3) rfl (fx3.ext z3) rfl ⟨_, _, rfl, List.cons_ne_nil _ _, f13, rfl⟩)
 ·
  intro uk0 rec_syntax_parser_piece uk1 ih_syntax_parser_piece ⟨x2v, x3, x30, e0v⟩ r h nz wz S0 w0 Lr gx0 S1 w1 hx gx2 ujg ujh uji ujj Gx3 nx3 cx3 u6v ud8 p1 ujm ujn ujo fx3 lx3 ud9 junk
  try dsimp only at h
  subst ujo
  subst lx3
  refine ite_some h (fun h25 h => ?_) (fun h25 h => ?_)
  ·
   rw [h25]
   refine Gn 6 [(31, .slice (Gp Gx3) x3.length cx3), (32, (pt gx0 0))] Jmq ?_
   have p1 := p1.fr 3
   refine bind_some' h fun y26 e27 h => ?_
   refine Gc (kc 75 [32] #[76]) 33 58 75 _ (ih_syntax_parser_piece e0v y26 e27 gx0 ud8 p1 ud9) ?_
   rintro _ w6 ⟨S6, ujp, ujq, ujr, ugw, rfl, z6, p6, ujs, ujt, rfl, ugx⟩
   have f29 : Els kT57 S6 w6 ((.i y26.1.Kind :: U4 y26.1.Set [.slice ujp y26.1.L.length ujr, .i y26.1.Min, .i y26.1.Max]) : List Value) [y26.1] := by exact (Els.cons (K := kT57) (vs := (.i y26.1.Kind :: U4 y26.1.Set [.slice ujp y26.1.L.length ujr, .i y26.1.Min, .i y26.1.Max])) (x := y26.1) (kT57_close ⟨[.i y26.1.Kind], (U4 y26.1.Set [.slice ujp y26.1.L.length ujr, .i y26.1.Min, .i y26.1.Max]), rfl, rfl, ⟨(U4 y26.1.Set []), [.slice ujp y26.1.L.length ujr, .i y26.1.Min, .i y26.1.Max], rfl, ⟨ujs, els_mk4 ujs⟩, ⟨[.slice ujp y26.1.L.length ujr], [.i y26.1.Min, .i y26.1.Max], rfl, ⟨_, _, rfl, ujt⟩, ⟨[.i y26.1.Min], [.i y26.1.Max], rfl, rfl, rfl⟩⟩⟩⟩) Els.nil)
   refine Op_.made (.buildSlice 56 1 #[(0, (.tmp 33))]) 34 56 (fun b => .slice (Gp (some b)) 1 1) 58 ((.i y26.1.Kind :: U4 y26.1.Set [.slice ujp y26.1.L.length ujr, .i y26.1.Min, .i y26.1.Max]) : List Value) p6 Goes.v (by kernel_rfl) ?_
   intro b28 w7 z7 p7
   have p7 : Hp nz wz S6 w7 (((some b28), .row 58 ((.i y26.1.Kind :: U4 y26.1.Set [.slice ujp y26.1.L.length ujr, .i y26.1.Min, .i y26.1.Max]) : List Value) (1 * kT57.size) 0) :: (some gx0, .row 79 [.string y26.2.s, .i y26.2.at_, .i y26.2.deep, ugw] 4 0) :: (some gx2, .row 58 (.i x2v.Kind :: U4 x2v.Set [.slice (Gp ujg) x2v.L.length uji, .i x2v.Min, .i x2v.Max]) 8 0) :: (ujg, .row 58 ujj (uji * kT57.size) 0) :: (Gx3, .row 58 u6v (cx3 * kT57.size) 0) :: Lr) := p7
   refine guard_some' h fun g34 h => ?_
   refine Op_.ap_n (K := kT57) 56 (.tmp 31) (.tmp 34) 35 56 58 4 (.agg #[.i 0, .u 0, .u 0, .u 0, .u 0, .slice none 0 0, .i 0, .i 0]) 80 x3.length cx3 1 x3 [y26.1] (x3 ++ [y26.1]) (Gp (some b28)) 1 rfl rfl rfl p7 rfl (fx3.ext (z6.trans z7)) Goes.v (by kernel_rfl) (by kernel_rfl) (by kernel_rfl) (by kernel_rfl) rfl (by decide) (f29.ext z7) (src_own p7 (q := 0) rfl) (by have := g34; omega) (by have := g34; omega) ?_
   intro w8 G35 c36 uk4 z8 p8 f38
   refine Gn 4 [(3, .slice (Gp G35) ((x3 ++ [y26.1]).length) c36)] Jlz ?_
   have p8 := p8.dp 0
   have p8 := (((p8.fr 0).fr 3).fr 3).fr 3
   exact Gj 38 [(0, (pt gx0 0)), (2, (pt gx2 0)), (3, .slice (Gp G35) ((x3 ++ [y26.1]).length) c36)] (uk1 _ _ h gx0 _ _ (((hx.trans z6).trans z7).trans z8) gx2 ujg x2v.L.length uji ujj G35 ((x3 ++ [y26.1]).length) c36 uk4 ugw p8 ujm (ujn.ext ((z6.trans z7).trans z8)) rfl f38 rfl (ugx.ext (z7.trans z8)))
  ·
   have uk5 : x30 = false := by simpa using h25
   rw [uk5]
   refine Gn 5 [(36, .slice (Gp Gx3) x3.length cx3)] Jms ?_
   obtain ⟨S9, z9, p9, f39⟩ := p1.freezeRd 2 rfl fx3 (by decide)
   refine bind_some' h fun y40 e41 h => ?_
   refine Gc (.call { callee := .value (.func 53), args := #[(.const (.int .i64 2)), (.tmp 36)], argTypes := #[3, 56] }) 37 58 53 _ (W.z2z 2 x3 y40 e41 (Gp Gx3) x3.length cx3 p9 f39 rfl) ?_
   rintro _ w10 ⟨S10, ujv, ujw, ujx, rfl, z10, p10, ujy, ujz, rfl⟩
   have p10 := p10.dp 2
   refine So 58 (.tmp 2) (.tmp 37) 0 0 gx2 0 (ag (.i y40.Kind :: U4 y40.Set [.slice ujv y40.L.length ujx, .i y40.Min, .i y40.Max])) (.i y40.Kind :: U4 y40.Set [.slice ujv y40.L.length ujx, .i y40.Min, .i y40.Max]) p10 rfl Goes.s ?_
   intro w11 z11 p11
   have p11 : Hp nz wz S10 w11 ((some gx2, .row 58 (.i y40.Kind :: U4 y40.Set [.slice ujv y40.L.length ujx, .i y40.Min, .i y40.Max]) 8 0) :: (ujg, .row 58 ujj (uji * kT57.size) 0) :: (some gx0, .row 79 [.string e0v.s, .i e0v.at_, .i e0v.deep, ud8] 4 0) :: Lr) := p11
   refine Gn 1 [] Jmr ?_
   obtain rfl := Option.some.inj h
   have p11 := p11.dp 1
   exact Goes.ret (fn := Tryz.f51) (by kernel_rfl) (v := (ag (.i y40.Kind :: U4 y40.Set [.slice ujv y40.L.length ujx, .i y40.Min, .i y40.Max]))) (results_n1 (fn := Tryz.f51) (a := .cell 2 58) (by kernel_rfl) (resV_cell ⟨gx2, 0, none⟩ (by kernel_rfl) (run_loadN (.i y40.Kind :: U4 y40.Set [.slice ujv y40.L.length ujx, .i y40.Min, .i y40.Max]) (by kernel_rfl) (by kernel_rfl) (p11.pa 0 0)))) ⟨S10, ujv, y40.L.length, ujx, ud8, rfl, (((hx.trans z9).trans z10).trans z11), p11.drop, ujy, (ujz.ext z11), rfl, (ud9.ext ((z9.trans z10).trans z11))⟩
 ·
  intro rec_syntax_parser_atom ih_syntax_parser_atom x0v r h nz wz S0 w0 Lr gx0 uda p0 udb
  try dsimp only at h
  refine Zf Tryz.f75 B75 36 ?_
  refine Gj 37 [(0, (pt gx0 0))] fun junk => ?_
  refine Gn 2 [] Jmu ?_
  refine Op_.alloc 58 2 0 (.agg #[.i 0, .u 0, .u 0, .u 0, .u 0, .slice none 0 0, .i 0, .i 0]) [.i 0, .u 0, .u 0, .u 0, .u 0, .slice none 0 0, .i 0, .i 0] p0 Goes.v (by kernel_rfl) (by kernel_rfl) ?_
  intro b2 w2 z2 p2
  refine Gn 4 [(7, (pt gx0 0))] Jmw ?_
  have p2 := p2.fr 1
  refine bind_some' h fun y4 e5 h => ?_
  refine Gc (kc 86 [7] #[76]) 8 58 86 _ (ih_syntax_parser_atom x0v y4 e5 gx0 uda p2 (udb.ext z2)) ?_
  rintro _ w3 ⟨S3, uio, uip, uiq, ufn, rfl, z3, p3, uir, uis, rfl, ufo⟩
  refine Op_.alloc 58 3 0 (.agg #[.i 0, .u 0, .u 0, .u 0, .u 0, .slice none 0 0, .i 0, .i 0]) [.i 0, .u 0, .u 0, .u 0, .u 0, .slice none 0 0, .i 0, .i 0] p3 Goes.v (by kernel_rfl) (by kernel_rfl) ?_
  intro b6 w4 z4 p4
  refine So 58 (.tmp 3) (.tmp 8) 0 0 b6 0 (ag (.i y4.1.Kind :: U4 y4.1.Set [.slice uio y4.1.L.length uiq, .i y4.1.Min, .i y4.1.Max])) (.i y4.1.Kind :: U4 y4.1.Set [.slice uio y4.1.L.length uiq, .i y4.1.Min, .i y4.1.Max]) p4 rfl Goes.s ?_
  intro w5 z5 p5
  have p5 : Hp nz wz S3 w5 ((some b6, .row 58 (.i y4.1.Kind :: U4 y4.1.Set [.slice uio y4.1.L.length uiq, .i y4.1.Min, .i y4.1.Max]) 8 0) :: (some gx0, .row 79 [.string y4.2.s, .i y4.2.at_, .i y4.2.deep, ufn] 4 0) :: (some b2, .row 58 [.i 0, .u 0, .u 0, .u 0, .u 0, .slice none 0 0, .i 0, .i 0] 8 0) :: Lr) := p5
  refine Gn 12 [(4, .i 1), (5, .i 1), (9, (pt gx0 0)), (10, (pt gx0 0)), (11, (pt gx0 1))] Jmz ?_
  refine Goes.ld 3 (.tmp 11) 12 3 ⟨gx0, 1, none⟩ (.i y4.2.at_) (p5.c 1 1) ?_
  refine Gn 6 [(6, .i y4.2.at_), (15, (pt gx0 0))] Jn2 ?_
  have p5 := p5.fr 1
  refine bind_some' h fun y8 e9 h => ?_
  refine Gc (.call { callee := .value (.func 52), args := #[(.tmp 15), (.const (.int .u8 42))], argTypes := #[76, 5] }) 16 4 52 _ (W.z1x y4.2 42 y8 e9 gx0 ufn p5 (ufo.ext (z4.trans z5))) ?_
  rintro _ w6 ⟨S6, ugw, rfl, z6, p6, ugx⟩
  refine Gn 2 [(14, .bool y8.1)] Jn1 ?_
  refine ite_some h (fun h10 h => ?_) (fun h10 h => ?_)
  ·
   rw [h10]
   refine Gn 8 [(4, .i 0), (5, .i (-1))] Jn4 ?_
   refine Goes.ldN 58 (.tmp 3) 32 58 ⟨b6, 0, none⟩ (.i y4.1.Kind :: U4 y4.1.Set [.slice uio y4.1.L.length uiq, .i y4.1.Min, .i y4.1.Max]) (p6.pa 1 0) ?_
   have f12 : Els kT57 S6 w6 ((.i y4.1.Kind :: U4 y4.1.Set [.slice uio y4.1.L.length uiq, .i y4.1.Min, .i y4.1.Max]) : List Value) [y4.1] := by exact (Els.cons (K := kT57) (vs := (.i y4.1.Kind :: U4 y4.1.Set [.slice uio y4.1.L.length uiq, .i y4.1.Min, .i y4.1.Max])) (x := y4.1) (kT57_close ⟨[.i y4.1.Kind], (U4 y4.1.Set [.slice uio y4.1.L.length uiq, .i y4.1.Min, .i y4.1.Max]), rfl, rfl, ⟨(U4 y4.1.Set []), [.slice uio y4.1.L.length uiq, .i y4.1.Min, .i y4.1.Max], rfl, ⟨uir, els_mk4 uir⟩, ⟨[.slice uio y4.1.L.length uiq], [.i y4.1.Min, .i y4.1.Max], rfl, ⟨_, _, rfl, (uis.ext ((z4.trans z5).trans z6))⟩, ⟨[.i y4.1.Min], [.i y4.1.Max], rfl, rfl, rfl⟩⟩⟩⟩) Els.nil)
   refine Op_.made (.buildSlice 56 1 #[(0, (.tmp 32))]) 33 56 (fun b => .slice (Gp (some b)) 1 1) 58 ((.i y4.1.Kind :: U4 y4.1.Set [.slice uio y4.1.L.length uiq, .i y4.1.Min, .i y4.1.Max]) : List Value) p6 Goes.v (by kernel_rfl) ?_
   intro b11 w7 z7 p7
   have p7 : Hp nz wz S6 w7 (((some b11), .row 58 ((.i y4.1.Kind :: U4 y4.1.Set [.slice uio y4.1.L.length uiq, .i y4.1.Min, .i y4.1.Max]) : List Value) (1 * kT57.size) 0) :: (some gx0, .row 79 [.string y8.2.s, .i y8.2.at_, .i y8.2.deep, ugw] 4 0) :: (some b6, .row 58 (.i y4.1.Kind :: U4 y4.1.Set [.slice uio y4.1.L.length uiq, .i y4.1.Min, .i y4.1.Max]) 8 0) :: (some b2, .row 58 [.i 0, .u 0, .u 0, .u 0, .u 0, .slice none 0 0, .i 0, .i 0] 8 0) :: Lr) := p7
   refine Gn 3 [(34, .i 0), (35, .i (-1)), (36, .agg #[.i 4, .u 0, .u 0, .u 0, .u 0, .slice (Gp (some b11)) 1 1, .i 0, .i (-1)])] Jn5 ?_
   refine So 58 (.tmp 2) (.tmp 36) 0 3 b2 0 (.agg #[.i 4, .u 0, .u 0, .u 0, .u 0, .slice (Gp (some b11)) 1 1, .i 0, .i (-1)]) [.i 4, .u 0, .u 0, .u 0, .u 0, .slice (Gp (some b11)) 1 1, .i 0, .i (-1)] p7 rfl Goes.s ?_
   intro w8 z8 p8
   have p8 : Hp nz wz S6 w8 (((some b11), .row 58 ((.i y4.1.Kind :: U4 y4.1.Set [.slice uio y4.1.L.length uiq, .i y4.1.Min, .i y4.1.Max]) : List Value) (1 * kT57.size) 0) :: (some gx0, .row 79 [.string y8.2.s, .i y8.2.at_, .i y8.2.deep, ugw] 4 0) :: (some b6, .row 58 (.i y4.1.Kind :: U4 y4.1.Set [.slice uio y4.1.L.length uiq, .i y4.1.Min, .i y4.1.Max]) 8 0) :: (some b2, .row 58 [.i 4, .u 0, .u 0, .u 0, .u 0, .slice (Gp (some b11)) 1 1, .i 0, .i (-1)] 8 0) :: Lr) := p8
   refine Gn 1 [] Jn3 ?_
   obtain ⟨S9, z9, p9, f14⟩ := p8.freezeRd 0 rfl (f12.ext (z7.trans z8)) (by decide)
   obtain rfl := Option.some.inj h
   have p9 := (p9.dp 0).dp 1
   have p9 := (p9.fr 0).fr 1
   exact Goes.ret (fn := Tryz.f75) (by kernel_rfl) (v := .agg #[.i 4, .u 0, .u 0, .u 0, .u 0, .slice (Gp (some b11)) 1 1, .i 0, .i (-1)]) (results_n1 (fn := Tryz.f75) (a := .cell 2 58) (by kernel_rfl) (resV_cell ⟨b2, 0, none⟩ (by kernel_rfl) (run_loadN [.i 4, .u 0, .u 0, .u 0, .u 0, .slice (Gp (some b11)) 1 1, .i 0, .i (-1)] (by kernel_rfl) (by kernel_rfl) (p9.pa 0 0)))) ⟨S9, (Gp (some b11)), 1, 1, ugw, rfl, (((((((((Ext.refl S0 w0).trans z2).trans z3).trans z4).trans z5).trans z6).trans z7).trans z8).trans z9), p9.drop, rfl, f14, rfl, (ugx.ext ((z7.trans z8).trans z9))⟩
  ·
   have uk6 : y8.1 = false := by simpa using h10
   rw [uk6]
   refine Gn 4 [(18, (pt gx0 0))] Jn7 ?_
   refine bind_some' h fun y15 e16 h => ?_
   refine Gc (.call { callee := .value (.func 52), args := #[(.tmp 18), (.const (.int .u8 43))], argTypes := #[76, 5] }) 19 4 52 _ (W.z1x y8.2 43 y15 e16 gx0 ugw p6 ugx) ?_
   rintro _ w10 ⟨S10, uft, rfl, z10, p10, ufu⟩
   refine Gn 2 [(17, .bool y15.1)] Jn6 ?_
   refine ite_some h (fun h17 h => ?_) (fun h17 h => ?_)
   ·
    rw [h17]
    refine Gn 7 [(5, .i (-1))] Jn4 ?_
    refine Goes.ldN 58 (.tmp 3) 32 58 ⟨b6, 0, none⟩ (.i y4.1.Kind :: U4 y4.1.Set [.slice uio y4.1.L.length uiq, .i y4.1.Min, .i y4.1.Max]) (p10.pa 1 0) ?_
    have f19 : Els kT57 S10 w10 ((.i y4.1.Kind :: U4 y4.1.Set [.slice uio y4.1.L.length uiq, .i y4.1.Min, .i y4.1.Max]) : List Value) [y4.1] := by exact (Els.cons (K := kT57) (vs := (.i y4.1.Kind :: U4 y4.1.Set [.slice uio y4.1.L.length uiq, .i y4.1.Min, .i y4.1.Max])) (x := y4.1) (kT57_close ⟨[.i y4.1.Kind], (U4 y4.1.Set [.slice uio y4.1.L.length uiq, .i y4.1.Min, .i y4.1.Max]), rfl, rfl, ⟨(U4 y4.1.Set []), [.slice uio y4.1.L.length uiq, .i y4.1.Min, .i y4.1.Max], rfl, ⟨uir, els_mk4 uir⟩, ⟨[.slice uio y4.1.L.length uiq], [.i y4.1.Min, .i y4.1.Max], rfl, ⟨_, _, rfl, (uis.ext (((z4.trans z5).trans z6).trans z10))⟩, ⟨[.i y4.1.Min], [.i y4.1.Max], rfl, rfl, rfl⟩⟩⟩⟩) Els.nil)
    refine Op_.made (.buildSlice 56 1 #[(0, (.tmp 32))]) 33 56 (fun b => .slice (Gp (some b)) 1 1) 58 ((.i y4.1.Kind :: U4 y4.1.Set [.slice uio y4.1.L.length uiq, .i y4.1.Min, .i y4.1.Max]) : List Value) p10 Goes.v (by kernel_rfl) ?_
    intro b18 w11 z11 p11
    have p11 : Hp nz wz S10 w11 (((some b18), .row 58 ((.i y4.1.Kind :: U4 y4.1.Set [.slice uio y4.1.L.length uiq, .i y4.1.Min, .i y4.1.Max]) : List Value) (1 * kT57.size) 0) :: (some gx0, .row 79 [.string y15.2.s, .i y15.2.at_, .i y15.2.deep, uft] 4 0) :: (some b6, .row 58 (.i y4.1.Kind :: U4 y4.1.Set [.slice uio y4.1.L.length uiq, .i y4.1.Min, .i y4.1.Max]) 8 0) :: (some b2, .row 58 [.i 0, .u 0, .u 0, .u 0, .u 0, .slice none 0 0, .i 0, .i 0] 8 0) :: Lr) := p11
    refine Gn 3 [(34, .i 1), (35, .i (-1)), (36, .agg #[.i 4, .u 0, .u 0, .u 0, .u 0, .slice (Gp (some b18)) 1 1, .i 1, .i (-1)])] Jn5 ?_
    refine So 58 (.tmp 2) (.tmp 36) 0 3 b2 0 (.agg #[.i 4, .u 0, .u 0, .u 0, .u 0, .slice (Gp (some b18)) 1 1, .i 1, .i (-1)]) [.i 4, .u 0, .u 0, .u 0, .u 0, .slice (Gp (some b18)) 1 1, .i 1, .i (-1)] p11 rfl Goes.s ?_
    intro w12 z12 p12
    have p12 : Hp nz wz S10 w12 (((some b18), .row 58 ((.i y4.1.Kind :: U4 y4.1.Set [.slice uio y4.1.L.length uiq, .i y4.1.Min, .i y4.1.Max]) : List Value) (1 * kT57.size) 0) :: (some gx0, .row 79 [.string y15.2.s, .i y15.2.at_, .i y15.2.deep, uft] 4 0) :: (some b6, .row 58 (.i y4.1.Kind :: U4 y4.1.Set [.slice uio y4.1.L.length uiq, .i y4.1.Min, .i y4.1.Max]) 8 0) :: (some b2, .row 58 [.i 4, .u 0, .u 0, .u 0, .u 0, .slice (Gp (some b18)) 1 1, .i 1, .i (-1)] 8 0) :: Lr) := p12
    refine Gn 1 [] Jn3 ?_
    obtain ⟨S13, z13, p13, f21⟩ := p12.freezeRd 0 rfl (f19.ext (z11.trans z12)) (by decide)
    obtain rfl := Option.some.inj h
    have p13 := (p13.dp 0).dp 1
    have p13 := (p13.fr 0).fr 1
    exact Goes.ret (fn := Tryz.f75) (by kernel_rfl) (v := .agg #[.i 4, .u 0, .u 0, .u 0, .u 0, .slice (Gp (some b18)) 1 1, .i 1, .i (-1)]) (results_n1 (fn := Tryz.f75) (a := .cell 2 58) (by kernel_rfl) (resV_cell ⟨b2, 0, none⟩ (by kernel_rfl) (run_loadN [.i 4, .u 0, .u 0, .u 0, .u 0, .slice (Gp (some b18)) 1 1, .i 1, .i (-1)] (by kernel_rfl) (by kernel_rfl) (p13.pa 0 0)))) ⟨S13, (Gp (some b18)), 1, 1, uft, rfl, ((((((((((Ext.refl S0 w0).trans z2).trans z3).trans z4).trans z5).trans z6).trans z10).trans z11).trans z12).trans z13), p13.drop, rfl, f21, rfl, (ufu.ext ((z11.trans z12).trans z13))⟩
   ·
    have uk7 : y15.1 = false := by simpa using h17
    rw [uk7]
    refine Gn 4 [(21, (pt gx0 0))] Jn9 ?_
    refine bind_some' h fun y22 e23 h => ?_
    refine Gc (.call { callee := .value (.func 52), args := #[(.tmp 21), (.const (.int .u8 63))], argTypes := #[76, 5] }) 22 4 52 _ (W.z1x y15.2 63 y22 e23 gx0 uft p10 ufu) ?_
    rintro _ w14 ⟨S14, uk8, rfl, z14, p14, uk9⟩
    refine Gn 2 [(20, .bool y22.1)] Jn8 ?_
    refine ite_some h (fun h24 h => ?_) (fun h24 h => ?_)
    ·
     rw [h24]
     refine Gn 7 [(4, .i 0)] Jn4 ?_
     refine Goes.ldN 58 (.tmp 3) 32 58 ⟨b6, 0, none⟩ (.i y4.1.Kind :: U4 y4.1.Set [.slice uio y4.1.L.length uiq, .i y4.1.Min, .i y4.1.Max]) (p14.pa 1 0) ?_
     have f26 : Els kT57 S14 w14 ((.i y4.1.Kind :: U4 y4.1.Set [.slice uio y4.1.L.length uiq, .i y4.1.Min, .i y4.1.Max]) : List Value) [y4.1] := by exact (Els.cons (K := kT57) (vs := (.i y4.1.Kind :: U4 y4.1.Set [.slice uio y4.1.L.length uiq, .i y4.1.Min, .i y4.1.Max])) (x := y4.1) (kT57_close ⟨[.i y4.1.Kind], (U4 y4.1.Set [.slice uio y4.1.L.length uiq, .i y4.1.Min, .i y4.1.Max]), rfl, rfl, ⟨(U4 y4.1.Set []), [.slice uio y4.1.L.length uiq, .i y4.1.Min, .i y4.1.Max], rfl, ⟨uir, els_mk4 uir⟩, ⟨[.slice uio y4.1.L.length uiq], [.i y4.1.Min, .i y4.1.Max], rfl, ⟨_, _, rfl, (uis.ext ((((z4.trans z5).trans z6).trans z10).trans z14))⟩, ⟨[.i y4.1.Min], [.i y4.1.Max], rfl, rfl, rfl⟩⟩⟩⟩) Els.nil)
     refine Op_.made (.buildSlice 56 1 #[(0, (.tmp 32))]) 33 56 (fun b => .slice (Gp (some b)) 1 1) 58 ((.i y4.1.Kind :: U4 y4.1.Set [.slice uio y4.1.L.length uiq, .i y4.1.Min, .i y4.1.Max]) : List Value) p14 Goes.v (by kernel_rfl) ?_
     intro b25 w15 z15 p15
     have p15 : Hp nz wz S14 w15 (((some b25), .row 58 ((.i y4.1.Kind :: U4 y4.1.Set [.slice uio y4.1.L.length uiq, .i y4.1.Min, .i y4.1.Max]) : List Value) (1 * kT57.size) 0) :: (some gx0, .row 79 [.string y22.2.s, .i y22.2.at_, .i y22.2.deep, uk8] 4 0) :: (some b6, .row 58 (.i y4.1.Kind :: U4 y4.1.Set [.slice uio y4.1.L.length uiq, .i y4.1.Min, .i y4.1.Max]) 8 0) :: (some b2, .row 58 [.i 0, .u 0, .u 0, .u 0, .u 0, .slice none 0 0, .i 0, .i 0] 8 0) :: Lr) := p15
     refine Gn 3 [(34, .i 0), (35, .i 1), (36, .agg #[.i 4, .u 0, .u 0, .u 0, .u 0, .slice (Gp (some b25)) 1 1, .i 0, .i 1])] Jn5 ?_
     refine So 58 (.tmp 2) (.tmp 36) 0 3 b2 0 (.agg #[.i 4, .u 0, .u 0, .u 0, .u 0, .slice (Gp (some b25)) 1 1, .i 0, .i 1]) [.i 4, .u 0, .u 0, .u 0, .u 0, .slice (Gp (some b25)) 1 1, .i 0, .i 1] p15 rfl Goes.s ?_
     intro w16 z16 p16
     have p16 : Hp nz wz S14 w16 (((some b25), .row 58 ((.i y4.1.Kind :: U4 y4.1.Set [.slice uio y4.1.L.length uiq, .i y4.1.Min, .i y4.1.Max]) : List Value) (1 * kT57.size) 0) :: (some gx0, .row 79 [.string y22.2.s, .i y22.2.at_, .i y22.2.deep, uk8] 4 0) :: (some b6, .row 58 (.i y4.1.Kind :: U4 y4.1.Set [.slice uio y4.1.L.length uiq, .i y4.1.Min, .i y4.1.Max]) 8 0) :: (some b2, .row 58 [.i 4, .u 0, .u 0, .u 0, .u 0, .slice (Gp (some b25)) 1 1, .i 0, .i 1] 8 0) :: Lr) := p16
     refine Gn 1 [] Jn3 ?_
     obtain ⟨S17, z17, p17, f28⟩ := p16.freezeRd 0 rfl (f26.ext (z15.trans z16)) (by decide)
     obtain rfl := Option.some.inj h
     have p17 := (p17.dp 0).dp 1
     have p17 := (p17.fr 0).fr 1
     exact Goes.ret (fn := Tryz.f75) (by kernel_rfl) (v := .agg #[.i 4, .u 0, .u 0, .u 0, .u 0, .slice (Gp (some b25)) 1 1, .i 0, .i 1]) (results_n1 (fn := Tryz.f75) (a := .cell 2 58) (by kernel_rfl) (resV_cell ⟨b2, 0, none⟩ (by kernel_rfl) (run_loadN [.i 4, .u 0, .u 0, .u 0, .u 0, .slice (Gp (some b25)) 1 1, .i 0, .i 1] (by kernel_rfl) (by kernel_rfl) (p17.pa 0 0)))) ⟨S17, (Gp (some b25)), 1, 1, uk8, rfl, (((((((((((Ext.refl S0 w0).trans z2).trans z3).trans z4).trans z5).trans z6).trans z10).trans z14).trans z15).trans z16).trans z17), p17.drop, rfl, f28, rfl, (uk9.ext ((z15.trans z16).trans z17))⟩
    ·
     have uka : y22.1 = false := by simpa using h24
     rw [uka]
     refine Gn 4 [(24, (pt gx0 0))] Jnb ?_
     refine bind_some' h fun y29 e30 h => ?_
     refine Gc (.call { callee := .value (.func 52), args := #[(.tmp 24), (.const (.int .u8 123))], argTypes := #[76, 5] }) 25 4 52 _ (W.z1x y22.2 123 y29 e30 gx0 uk8 p14 uk9) ?_
     rintro _ w18 ⟨S18, ukb, rfl, z18, p18, ukc⟩
     refine Gn 2 [(23, .bool y29.1)] Jna ?_
     refine ite_some h (fun h31 h => ?_) (fun h31 h => ?_)
     ·
      rw [h31]
      refine Gn 4 [(27, (pt gx0 0)), (28, .i y4.2.at_)] Jnc ?_
      refine bind_some' h fun y32 e33 h => ?_
      refine Gc (kc 87 [27, 28] #[76, 3]) 29 134 87 _ (W.z2w y29.2 y4.2.at_ y32 e33 gx0 ukb p18 ukc) ?_
      rintro _ w19 ⟨S19, ugr, rfl, z19, p19, ugu⟩
      refine Gn 9 [(26, .tuple #[.i y32.1, .i y32.2.1]), (30, .i y32.1), (31, .i y32.2.1), (4, .i y32.1), (5, .i y32.2.1)] Jn4 ?_
      refine Goes.ldN 58 (.tmp 3) 32 58 ⟨b6, 0, none⟩ (.i y4.1.Kind :: U4 y4.1.Set [.slice uio y4.1.L.length uiq, .i y4.1.Min, .i y4.1.Max]) (p19.pa 1 0) ?_
      have f35 : Els kT57 S19 w19 ((.i y4.1.Kind :: U4 y4.1.Set [.slice uio y4.1.L.length uiq, .i y4.1.Min, .i y4.1.Max]) : List Value) [y4.1] := by exact (Els.cons (K := kT57) (vs := (.i y4.1.Kind :: U4 y4.1.Set [.slice uio y4.1.L.length uiq, .i y4.1.Min, .i y4.1.Max])) (x := y4.1) (kT57_close ⟨[.i y4.1.Kind], (U4 y4.1.Set [.slice uio y4.1.L.length uiq, .i y4.1.Min, .i y4.1.Max]), rfl, rfl, ⟨(U4 y4.1.Set []), [.slice uio y4.1.L.length uiq, .i y4.1.Min, .i y4.1.Max], rfl, ⟨uir, els_mk4 uir⟩, ⟨[.slice uio y4.1.L.length uiq], [.i y4.1.Min, .i y4.1.Max], rfl, ⟨_, _, rfl, (uis.ext ((((((z4.trans z5).trans z6).trans z10).trans z14).trans z18).trans z19))⟩, ⟨[.i y4.1.Min], [.i y4.1.Max], rfl, rfl, rfl⟩⟩⟩⟩) Els.nil)
      refine Op_.made (.buildSlice 56 1 #[(0, (.tmp 32))]) 33 56 (fun b => .slice (Gp (some b)) 1 1) 58 ((.i y4.1.Kind :: U4 y4.1.Set [.slice uio y4.1.L.length uiq, .i y4.1.Min, .i y4.1.Max]) : List Value) p19 Goes.v (by kernel_rfl) ?_
      intro b34 w20 z20 p20
      have p20 : Hp nz wz S19 w20 (((some b34), .row 58 ((.i y4.1.Kind :: U4 y4.1.Set [.slice uio y4.1.L.length uiq, .i y4.1.Min, .i y4.1.Max]) : List Value) (1 * kT57.size) 0) :: (some gx0, .row 79 [.string y32.2.2.s, .i y32.2.2.at_, .i y32.2.2.deep, ugr] 4 0) :: (some b6, .row 58 (.i y4.1.Kind :: U4 y4.1.Set [.slice uio y4.1.L.length uiq, .i y4.1.Min, .i y4.1.Max]) 8 0) :: (some b2, .row 58 [.i 0, .u 0, .u 0, .u 0, .u 0, .slice none 0 0, .i 0, .i 0] 8 0) :: Lr) := p20
      refine Gn 3 [(34, .i y32.1), (35, .i y32.2.1), (36, .agg #[.i 4, .u 0, .u 0, .u 0, .u 0, .slice (Gp (some b34)) 1 1, .i y32.1, .i y32.2.1])] Jn5 ?_
      refine So 58 (.tmp 2) (.tmp 36) 0 3 b2 0 (.agg #[.i 4, .u 0, .u 0, .u 0, .u 0, .slice (Gp (some b34)) 1 1, .i y32.1, .i y32.2.1]) [.i 4, .u 0, .u 0, .u 0, .u 0, .slice (Gp (some b34)) 1 1, .i y32.1, .i y32.2.1] p20 rfl Goes.s ?_
      intro w21 z21 p21
      have p21 : Hp nz wz S19 w21 (((some b34), .row 58 ((.i y4.1.Kind :: U4 y4.1.Set [.slice uio y4.1.L.length uiq, .i y4.1.Min, .i y4.1.Max]) : List Value) (1 * kT57.size) 0) :: (some gx0, .row 79 [.string y32.2.2.s, .i y32.2.2.at_, .i y32.2.2.deep, ugr] 4 0) :: (some b6, .row 58 (.i y4.1.Kind :: U4 y4.1.Set [.slice uio y4.1.L.length uiq, .i y4.1.Min, .i y4.1.Max]) 8 0) :: (some b2, .row 58 [.i 4, .u 0, .u 0, .u 0, .u 0, .slice (Gp (some b34)) 1 1, .i y32.1, .i y32.2.1] 8 0) :: Lr) := p21
      refine Gn 1 [] Jn3 ?_
      obtain ⟨S22, z22, p22, f37⟩ := p21.freezeRd 0 rfl (f35.ext (z20.trans z21)) (by decide)
      obtain rfl := Option.some.inj h
      have p22 := (p22.dp 0).dp 1
      have p22 := (p22.fr 0).fr 1
      exact Goes.ret (fn := Tryz.f75) (by kernel_rfl) (v := .agg #[.i 4, .u 0, .u 0, .u 0, .u 0, .slice (Gp (some b34)) 1 1, .i y32.1, .i y32.2.1]) (results_n1 (fn := Tryz.f75) (a := .cell 2 58) (by kernel_rfl) (resV_cell ⟨b2, 0, none⟩ (by kernel_rfl) (run_loadN [.i 4, .u 0, .u 0, .u 0, .u 0, .slice (Gp (some b34)) 1 1, .i y32.1, .i y32.2.1] (by kernel_rfl) (by kernel_rfl) (p22.pa 0 0)))) ⟨S22, (Gp (some b34)), 1, 1, ugr, rfl, (((((((((((((Ext.refl S0 w0).trans z2).trans z3).trans z4).trans z5).trans z6).trans z10).trans z14).trans z18).trans z19).trans z20).trans z21).trans z22), p22.drop, rfl, f37, rfl, (ugu.ext ((z20.trans z21).trans z22))⟩
     ·
      have ukd : y29.1 = false := by simpa using h31
      rw [ukd]
      refine Gn 3 [] Jne ?_
      refine Goes.ldN 58 (.tmp 3) 13 58 ⟨b6, 0, none⟩ (.i y4.1.Kind :: U4 y4.1.Set [.slice uio y4.1.L.length uiq, .i y4.1.Min, .i y4.1.Max]) (p18.pa 1 0) ?_
      refine So 58 (.tmp 2) (.tmp 13) 0 2 b2 0 (ag (.i y4.1.Kind :: U4 y4.1.Set [.slice uio y4.1.L.length uiq, .i y4.1.Min, .i y4.1.Max])) (.i y4.1.Kind :: U4 y4.1.Set [.slice uio y4.1.L.length uiq, .i y4.1.Min, .i y4.1.Max]) p18 rfl Goes.s ?_
      intro w23 z23 p23
      have p23 : Hp nz wz S18 w23 ((some gx0, .row 79 [.string y29.2.s, .i y29.2.at_, .i y29.2.deep, ukb] 4 0) :: (some b6, .row 58 (.i y4.1.Kind :: U4 y4.1.Set [.slice uio y4.1.L.length uiq, .i y4.1.Min, .i y4.1.Max]) 8 0) :: (some b2, .row 58 (.i y4.1.Kind :: U4 y4.1.Set [.slice uio y4.1.L.length uiq, .i y4.1.Min, .i y4.1.Max]) 8 0) :: Lr) := p23
      refine Gn 1 [] Jnd ?_
      obtain rfl := Option.some.inj h
      have p23 := p23.dp 1
      have p23 := (p23.fr 0).fr 1
      exact Goes.ret (fn := Tryz.f75) (by kernel_rfl) (v := (ag (.i y4.1.Kind :: U4 y4.1.Set [.slice uio y4.1.L.length uiq, .i y4.1.Min, .i y4.1.Max]))) (results_n1 (fn := Tryz.f75) (a := .cell 2 58) (by kernel_rfl) (resV_cell ⟨b2, 0, none⟩ (by kernel_rfl) (run_loadN (.i y4.1.Kind :: U4 y4.1.Set [.slice uio y4.1.L.length uiq, .i y4.1.Min, .i y4.1.Max]) (by kernel_rfl) (by kernel_rfl) (p23.pa 0 0)))) ⟨S18, uio, y4.1.L.length, uiq, ukb, rfl, ((((((((((Ext.refl S0 w0).trans z2).trans z3).trans z4).trans z5).trans z6).trans z10).trans z14).trans z18).trans z23), p23.drop, uir, (uis.ext ((((((z4.trans z5).trans z6).trans z10).trans z14).trans z18).trans z23)), rfl, (ukc.ext z23)⟩
 ·
  intro uke ukf x0v r h nz wz S0 w0 Lr gx0 uda p0 udb
  try dsimp only at h
  refine Zf Tryz.f86 B86 72 ?_
  refine Gj 73 [(0, (pt gx0 0))] fun junk => ?_
  refine Gn 2 [] Jng ?_
  refine Op_.alloc 58 2 0 (.agg #[.i 0, .u 0, .u 0, .u 0, .u 0, .slice none 0 0, .i 0, .i 0]) [.i 0, .u 0, .u 0, .u 0, .u 0, .slice none 0 0, .i 0, .i 0] p0 Goes.v (by kernel_rfl) (by kernel_rfl) ?_
  intro b2 w2 z2 p2
  refine Gn 4 [(4, (pt gx0 0))] Jni ?_
  have p2 := p2.fr 1
  refine bind_some' h fun y4 e5 h => ?_
  refine Gc (kc 74 [4] #[76]) 5 5 74 _ (W.z1u x0v y4 e5 gx0 uda p2 (udb.ext z2)) ?_
  rintro _ w3 ⟨S3, ufn, rfl, z3, p3, ufo⟩
  refine Gn 9 [(3, .int .u8 y4.1), (7, .int .u8 y4.1), (8, .bool (decide (y4.1 < 32))), (9, .bool (decide (y4.1 < 32)))] Jnj ?_
  refine ite_some h (fun h6 h => ?_) (fun h6 h => ?_)
  ·
   rw [decide_eq_true h6]
   refine Gn 10 [(10, undef), (11, undef), (12, .bool true), (13, .bool true), (14, undef), (15, undef), (16, undef), (17, .bool true), (6, .bool true)] Jm4 ?_
   have p3 : Hp nz wz S3 w3 ((none, .row 58 [] (0 * kT57.size) 0) :: (some gx0, .row 79 [.string y4.2.s, .i y4.2.at_, .i y4.2.deep, ufn] 4 0) :: (some b2, .row 58 [.i 0, .u 0, .u 0, .u 0, .u 0, .slice none 0 0, .i 0, .i 0] 8 0) :: Lr) := p3.nilRow' 58
   have p3 := ((p3.fr 1).fr 1).fr 2
   exact Gj 73 [(0, (pt gx0 0)), (2, (pt b2 0)), (3, .int .u8 y4.1), (6, .bool true)] (ukf _ _ h gx0 _ _ (((Ext.refl S0 w0).trans z2).trans z3) b2 none 0 0 [] ufn p3 rfl (Els.nil (K := kT57)) rfl ufo)
  ·
   rw [decide_eq_false h6]
   refine Gn 4 [(10, .int .u8 y4.1), (11, .bool (decide (y4.1 > 126))), (12, .bool (decide (y4.1 > 126))), (13, .bool (decide (y4.1 > 126)))] Jnk ?_
   refine ite_some h (fun h10 h => ?_) (fun h10 h => ?_)
   ·
    rw [decide_eq_true h10]
    refine Gn 6 [(14, undef), (15, undef), (16, undef), (17, .bool true), (6, .bool true)] Jm4 ?_
    have p3 : Hp nz wz S3 w3 ((none, .row 58 [] (0 * kT57.size) 0) :: (some gx0, .row 79 [.string y4.2.s, .i y4.2.at_, .i y4.2.deep, ufn] 4 0) :: (some b2, .row 58 [.i 0, .u 0, .u 0, .u 0, .u 0, .slice none 0 0, .i 0, .i 0] 8 0) :: Lr) := p3.nilRow' 58
    have p3 := ((p3.fr 1).fr 1).fr 2
    exact Gj 73 [(0, (pt gx0 0)), (2, (pt b2 0)), (3, .int .u8 y4.1), (6, .bool true)] (ukf _ _ h gx0 _ _ (((Ext.refl S0 w0).trans z2).trans z3) b2 none 0 0 [] ufn p3 rfl (Els.nil (K := kT57)) rfl ufo)
   ·
    rw [decide_eq_false h10]
    refine Gn 1 [(14, .int .u8 y4.1)] Jnl ?_
    refine bind_some' h fun y12 e13 h => ?_
    refine Gc (.call { callee := .value (.func 93), args := #[(.const (.string ⟨#[93, 41, 42, 43, 63, 123, 125, 94, 36, 124]⟩)), (.tmp 14)], argTypes := #[9, 5] }) 15 3 93 _ (W.z2c (⟨#[93, 41, 42, 43, 63, 123, 125, 94, 36, 124]⟩ : ByteArray) y4.1 y12 e13  p3 ) ?_
    rintro _ w4 ⟨S4, rfl, z4, p4⟩
    refine Gn 4 [(16, .bool (decide (y12 ≥ 0))), (17, .bool (decide (y12 ≥ 0))), (6, .bool (decide (y12 ≥ 0)))] Jm4 ?_
    have p4 : Hp nz wz S4 w4 ((none, .row 58 [] (0 * kT57.size) 0) :: (some gx0, .row 79 [.string y4.2.s, .i y4.2.at_, .i y4.2.deep, ufn] 4 0) :: (some b2, .row 58 [.i 0, .u 0, .u 0, .u 0, .u 0, .slice none 0 0, .i 0, .i 0] 8 0) :: Lr) := p4.nilRow' 58
    have p4 := ((p4.fr 1).fr 1).fr 2
    exact Gj 73 [(0, (pt gx0 0)), (2, (pt b2 0)), (3, .int .u8 y4.1), (6, .bool (decide (y12 ≥ 0)))] (ukf _ _ h gx0 _ _ ((((Ext.refl S0 w0).trans z2).trans z3).trans z4) b2 none 0 0 [] ufn p4 rfl (Els.nil (K := kT57)) rfl (ufo.ext z4))
 ·
  intro ukg ukh ⟨x2v, x3, x6, e0v⟩ r h nz wz S0 w0 Lr gx0 S1 w1 hx gx2 ujg ujh uji ujj ud8 p1 ujm ujn ujo ud9 junk
  try dsimp only at h
  subst ujo
  refine ite_some h (fun h15 h => ?_) (fun h15 h => ?_)
  ·
   rw [h15]
   refine Gn 7 [(18, (pt gx0 0)), (19, (pt gx0 0)), (20, (pt gx0 0)), (21, (pt gx0 1))] Jnn ?_
   refine Goes.ld 3 (.tmp 21) 22 3 ⟨gx0, 1, none⟩ (.i e0v.at_) (p1.c 2 1) ?_
   have p1 := p1.fr 2
   refine bind_some' h fun y16 e17 h => ?_
   refine Gc (kc 37 [18, 22] #[76, 3]) 23 58 37 _ (W.z1w e0v e0v.at_ y16 e17 gx0 ud8 p1 ud9) ?_
   rintro _ w5 ⟨S5, uki, ukj, ukk, ug9, rfl, z5, p5, ukl, ukm, rfl, ugb⟩
   refine So 58 (.tmp 2) (.tmp 23) 0 1 gx2 0 (ag (.i y16.1.Kind :: U4 y16.1.Set [.slice uki y16.1.L.length ukk, .i y16.1.Min, .i y16.1.Max])) (.i y16.1.Kind :: U4 y16.1.Set [.slice uki y16.1.L.length ukk, .i y16.1.Min, .i y16.1.Max]) p5 rfl Goes.s ?_
   intro w6 z6 p6
   have p6 : Hp nz wz S5 w6 ((some gx0, .row 79 [.string y16.2.s, .i y16.2.at_, .i y16.2.deep, ug9] 4 0) :: (some gx2, .row 58 (.i y16.1.Kind :: U4 y16.1.Set [.slice uki y16.1.L.length ukk, .i y16.1.Min, .i y16.1.Max]) 8 0) :: (ujg, .row 58 ujj (uji * kT57.size) 0) :: Lr) := p6
   refine Gn 1 [] Jnm ?_
   obtain rfl := Option.some.inj h
   have p6 := p6.dp 2
   have p6 := (p6.fr 0).fr 1
   exact Goes.ret (fn := Tryz.f86) (by kernel_rfl) (v := (ag (.i y16.1.Kind :: U4 y16.1.Set [.slice uki y16.1.L.length ukk, .i y16.1.Min, .i y16.1.Max]))) (results_n1 (fn := Tryz.f86) (a := .cell 2 58) (by kernel_rfl) (resV_cell ⟨gx2, 0, none⟩ (by kernel_rfl) (run_loadN (.i y16.1.Kind :: U4 y16.1.Set [.slice uki y16.1.L.length ukk, .i y16.1.Min, .i y16.1.Max]) (by kernel_rfl) (by kernel_rfl) (p6.pa 0 0)))) ⟨S5, uki, y16.1.L.length, ukk, ug9, rfl, ((hx.trans z5).trans z6), p6.drop, ukl, (ukm.ext z6), rfl, (ugb.ext z6)⟩
  ·
   have ub : x6 = false := by simpa using h15
   rw [ub]
   refine Gn 6 [(25, .int .u8 x3), (26, .bool (decide (x3 = 40))), (27, .bool (decide (x3 = 40)))] Jno ?_
   refine ite_some h (fun h18 h => ?_) (fun h18 h => ?_)
   ·
    rw [decide_eq_true h18]
    refine Gn 3 [(28, (pt gx0 0)), (29, (pt gx0 0)), (30, (pt gx0 2))] Jnp ?_
    refine Goes.ld 3 (.tmp 30) 31 3 ⟨gx0, 2, none⟩ (.i e0v.deep) (p1.c 2 2) ?_
    refine Gn 4 [(32, .bool (decide (e0v.deep = 32))), (33, .bool (decide (e0v.deep = 32))), (24, .bool (decide (e0v.deep = 32)))] Jm5 ?_
    exact Gj 73 [(0, (pt gx0 0)), (2, (pt gx2 0)), (3, .int .u8 x3), (24, .bool (decide (e0v.deep = 32)))] (ukh _ _ h gx0 _ _ hx gx2 ujg x2v.L.length uji ujj ud8 p1 ujm ujn rfl ud9)
   ·
    rw [decide_eq_false h18]
    refine Gn 8 [(28, undef), (29, undef), (30, undef), (31, undef), (32, undef), (33, .bool false), (24, .bool false)] Jm5 ?_
    exact Gj 73 [(0, (pt gx0 0)), (2, (pt gx2 0)), (3, .int .u8 x3), (24, .bool false)] (ukh _ _ h gx0 _ _ hx gx2 ujg x2v.L.length uji ujj ud8 p1 ujm ujn rfl ud9)
 ·
  intro rec_syntax_parser_group ih_syntax_parser_group ⟨x2v, x3, x24, e0v⟩ r h nz wz S0 w0 Lr gx0 S1 w1 hx gx2 ujg ujh uji ujj ud8 p1 ujm ujn ujo ud9 junk
  try dsimp only at h
  subst ujo
  refine ite_some h (fun h21 h => ?_) (fun h21 h => ?_)
  ·
   rw [h21]
   refine Gn 7 [(34, (pt gx0 0)), (35, (pt gx0 0)), (36, (pt gx0 0)), (37, (pt gx0 1))] Jnr ?_
   refine Goes.ld 3 (.tmp 37) 38 3 ⟨gx0, 1, none⟩ (.i e0v.at_) (p1.c 2 1) ?_
   have p1 := p1.fr 2
   refine bind_some' h fun y22 e23 h => ?_
   refine Gc (kc 37 [34, 38] #[76, 3]) 39 58 37 _ (W.z1w e0v e0v.at_ y22 e23 gx0 ud8 p1 ud9) ?_
   rintro _ w7 ⟨S7, uj4, uj5, uj6, uiy, rfl, z7, p7, uj7, uj8, rfl, uiz⟩
   refine So 58 (.tmp 2) (.tmp 39) 0 1 gx2 0 (ag (.i y22.1.Kind :: U4 y22.1.Set [.slice uj4 y22.1.L.length uj6, .i y22.1.Min, .i y22.1.Max])) (.i y22.1.Kind :: U4 y22.1.Set [.slice uj4 y22.1.L.length uj6, .i y22.1.Min, .i y22.1.Max]) p7 rfl Goes.s ?_
   intro w8 z8 p8
   have p8 : Hp nz wz S7 w8 ((some gx0, .row 79 [.string y22.2.s, .i y22.2.at_, .i y22.2.deep, uiy] 4 0) :: (some gx2, .row 58 (.i y22.1.Kind :: U4 y22.1.Set [.slice uj4 y22.1.L.length uj6, .i y22.1.Min, .i y22.1.Max]) 8 0) :: (ujg, .row 58 ujj (uji * kT57.size) 0) :: Lr) := p8
   refine Gn 1 [] Jnq ?_
   obtain rfl := Option.some.inj h
   have p8 := p8.dp 2
   have p8 := (p8.fr 0).fr 1
   exact Goes.ret (fn := Tryz.f86) (by kernel_rfl) (v := (ag (.i y22.1.Kind :: U4 y22.1.Set [.slice uj4 y22.1.L.length uj6, .i y22.1.Min, .i y22.1.Max]))) (results_n1 (fn := Tryz.f86) (a := .cell 2 58) (by kernel_rfl) (resV_cell ⟨gx2, 0, none⟩ (by kernel_rfl) (run_loadN (.i y22.1.Kind :: U4 y22.1.Set [.slice uj4 y22.1.L.length uj6, .i y22.1.Min, .i y22.1.Max]) (by kernel_rfl) (by kernel_rfl) (p8.pa 0 0)))) ⟨S7, uj4, y22.1.L.length, uj6, uiy, rfl, ((hx.trans z7).trans z8), p8.drop, uj7, (uj8.ext z8), rfl, (uiz.ext z8)⟩
  ·
   have ukn : x24 = false := by simpa using h21
   rw [ukn]
   refine Gn 4 [(41, (pt gx0 0))] Jnt ?_
   have p1 := p1.fr 2
   refine bind_some' h fun y24 e25 h => ?_
   refine Gc (.call { callee := .value (.func 52), args := #[(.tmp 41), (.const (.int .u8 46))], argTypes := #[76, 5] }) 42 4 52 _ (W.z1x e0v 46 y24 e25 gx0 ud8 p1 ud9) ?_
   rintro _ w9 ⟨S9, ujc, rfl, z9, p9, ujf⟩
   refine Gn 2 [(40, .bool y24.1)] Jns ?_
   refine ite_some h (fun h26 h => ?_) (fun h26 h => ?_)
   ·
    rw [h26]
    refine Gn 3 [] Jnv ?_
    refine bind_some' h fun y27 e28 h => ?_
    refine Gc (.call { callee := .value (.func 95), args := #[(.const (.int .u8 10))], argTypes := #[5] }) 43 44 95 _ (W.z1z 10 y27 e28  p9 ) ?_
    rintro _ w10 ⟨S10, ue6, rfl, z10, p10, u6i, ue7⟩
    refine bind_some' h fun y29 e30 h => ?_
    refine Gc (kc 94 [43] #[44]) 44 44 94 _ (W.z20 y27 y29 e30 ue6 p10 u6i ue7) ?_
    rintro _ w11 ⟨S11, uko, rfl, z11, p11, ukp, ukq⟩
    have l31 := Els.len1 ukp ukq rfl
    obtain rfl := els_lit4 ukp ukq
    refine Gn 1 [(45, (ag (.i 1 :: U4 y29 [.slice none 0 0, .i 0, .i 0])))] Jnw ?_
    refine So 58 (.tmp 2) (.tmp 45) 0 1 gx2 0 (ag (.i 1 :: U4 y29 [.slice none 0 0, .i 0, .i 0])) (.i 1 :: U4 y29 [.slice none 0 0, .i 0, .i 0]) p11 rfl Goes.s ?_
    intro w12 z12 p12
    have p12 : Hp nz wz S11 w12 ((some gx0, .row 79 [.string y24.2.s, .i y24.2.at_, .i y24.2.deep, ujc] 4 0) :: (some gx2, .row 58 (.i 1 :: U4 y29 [.slice none 0 0, .i 0, .i 0]) 8 0) :: (ujg, .row 58 ujj (uji * kT57.size) 0) :: Lr) := p12
    refine Gn 1 [] Jnu ?_
    obtain rfl := Option.some.inj h
    have p12 := p12.dp 2
    have p12 := (p12.fr 0).fr 1
    exact Goes.ret (fn := Tryz.f86) (by kernel_rfl) (v := (ag (.i 1 :: U4 y29 [.slice none 0 0, .i 0, .i 0]))) (results_n1 (fn := Tryz.f86) (a := .cell 2 58) (by kernel_rfl) (resV_cell ⟨gx2, 0, none⟩ (by kernel_rfl) (run_loadN (.i 1 :: U4 y29 [.slice none 0 0, .i 0, .i 0]) (by kernel_rfl) (by kernel_rfl) (p12.pa 0 0)))) ⟨S11, none, 0, 0, ujc, rfl, ((((hx.trans z9).trans z10).trans z11).trans z12), p12.drop, l31, Rd.none_, rfl, (ujf.ext ((z10.trans z11).trans z12))⟩
   ·
    have ukr : y24.1 = false := by simpa using h26
    rw [ukr]
    refine Gn 4 [(47, (pt gx0 0))] Jny ?_
    refine bind_some' h fun y32 e33 h => ?_
    refine Gc (.call { callee := .value (.func 52), args := #[(.tmp 47), (.const (.int .u8 91))], argTypes := #[76, 5] }) 48 4 52 _ (W.z1x y24.2 91 y32 e33 gx0 ujc p9 ujf) ?_
    rintro _ w13 ⟨S13, uks, rfl, z13, p13, ukt⟩
    refine Gn 2 [(46, .bool y32.1)] Jnx ?_
    refine ite_some h (fun h34 h => ?_) (fun h34 h => ?_)
    ·
     rw [h34]
     refine Gn 4 [(49, (pt gx0 0))] Jo0 ?_
     refine bind_some' h fun y35 e36 h => ?_
     refine Gc (kc 96 [49] #[76]) 50 58 96 _ (W.z2r y32.2 y35 e36 gx0 uks p13 ukt) ?_
     rintro _ w14 ⟨S14, uku, ukv, ukw, uk8, rfl, z14, p14, ukx, uky, rfl, uk9⟩
     refine So 58 (.tmp 2) (.tmp 50) 0 1 gx2 0 (ag (.i y35.1.Kind :: U4 y35.1.Set [.slice uku y35.1.L.length ukw, .i y35.1.Min, .i y35.1.Max])) (.i y35.1.Kind :: U4 y35.1.Set [.slice uku y35.1.L.length ukw, .i y35.1.Min, .i y35.1.Max]) p14 rfl Goes.s ?_
     intro w15 z15 p15
     have p15 : Hp nz wz S14 w15 ((some gx0, .row 79 [.string y35.2.s, .i y35.2.at_, .i y35.2.deep, uk8] 4 0) :: (some gx2, .row 58 (.i y35.1.Kind :: U4 y35.1.Set [.slice uku y35.1.L.length ukw, .i y35.1.Min, .i y35.1.Max]) 8 0) :: (ujg, .row 58 ujj (uji * kT57.size) 0) :: Lr) := p15
     refine Gn 1 [] Jnz ?_
     obtain rfl := Option.some.inj h
     have p15 := p15.dp 2
     have p15 := (p15.fr 0).fr 1
     exact Goes.ret (fn := Tryz.f86) (by kernel_rfl) (v := (ag (.i y35.1.Kind :: U4 y35.1.Set [.slice uku y35.1.L.length ukw, .i y35.1.Min, .i y35.1.Max]))) (results_n1 (fn := Tryz.f86) (a := .cell 2 58) (by kernel_rfl) (resV_cell ⟨gx2, 0, none⟩ (by kernel_rfl) (run_loadN (.i y35.1.Kind :: U4 y35.1.Set [.slice uku y35.1.L.length ukw, .i y35.1.Min, .i y35.1.Max]) (by kernel_rfl) (by kernel_rfl) (p15.pa 0 0)))) ⟨S14, uku, y35.1.L.length, ukw, uk8, rfl, ((((hx.trans z9).trans z13).trans z14).trans z15), p15.drop, ukx, (uky.ext z15), rfl, (uk9.ext z15)⟩
    ·
     have u5z : y32.1 = false := by simpa using h34
     rw [u5z]
     refine Gn 4 [(52, (pt gx0 0))] Jo2 ?_
     refine bind_some' h fun y37 e38 h => ?_
     refine Gc (.call { callee := .value (.func 52), args := #[(.tmp 52), (.const (.int .u8 40))], argTypes := #[76, 5] }) 53 4 52 _ (W.z1x y32.2 40 y37 e38 gx0 uks p13 ukt) ?_
     rintro _ w16 ⟨S16, ukz, rfl, z16, p16, ul0⟩
     refine Gn 2 [(51, .bool y37.1)] Jo1 ?_
     refine ite_some h (fun h39 h => ?_) (fun h39 h => ?_)
     ·
      rw [h39]
      refine Gn 4 [(54, (pt gx0 0))] Jo4 ?_
      refine bind_some' h fun y40 e41 h => ?_
      refine Gc (kc 97 [54] #[76]) 55 58 97 _ (ih_syntax_parser_group y37.2 y40 e41 gx0 ukz p16 ul0) ?_
      rintro _ w17 ⟨S17, ul1, ul2, ul3, ul4, rfl, z17, p17, ul5, ul6, rfl, ul7⟩
      refine So 58 (.tmp 2) (.tmp 55) 0 1 gx2 0 (ag (.i y40.1.Kind :: U4 y40.1.Set [.slice ul1 y40.1.L.length ul3, .i y40.1.Min, .i y40.1.Max])) (.i y40.1.Kind :: U4 y40.1.Set [.slice ul1 y40.1.L.length ul3, .i y40.1.Min, .i y40.1.Max]) p17 rfl Goes.s ?_
      intro w18 z18 p18
      have p18 : Hp nz wz S17 w18 ((some gx0, .row 79 [.string y40.2.s, .i y40.2.at_, .i y40.2.deep, ul4] 4 0) :: (some gx2, .row 58 (.i y40.1.Kind :: U4 y40.1.Set [.slice ul1 y40.1.L.length ul3, .i y40.1.Min, .i y40.1.Max]) 8 0) :: (ujg, .row 58 ujj (uji * kT57.size) 0) :: Lr) := p18
      refine Gn 1 [] Jo3 ?_
      obtain rfl := Option.some.inj h
      have p18 := p18.dp 2
      have p18 := (p18.fr 0).fr 1
      exact Goes.ret (fn := Tryz.f86) (by kernel_rfl) (v := (ag (.i y40.1.Kind :: U4 y40.1.Set [.slice ul1 y40.1.L.length ul3, .i y40.1.Min, .i y40.1.Max]))) (results_n1 (fn := Tryz.f86) (a := .cell 2 58) (by kernel_rfl) (resV_cell ⟨gx2, 0, none⟩ (by kernel_rfl) (run_loadN (.i y40.1.Kind :: U4 y40.1.Set [.slice ul1 y40.1.L.length ul3, .i y40.1.Min, .i y40.1.Max]) (by kernel_rfl) (by kernel_rfl) (p18.pa 0 0)))) ⟨S17, ul1, y40.1.L.length, ul3, ul4, rfl, (((((hx.trans z9).trans z13).trans z16).trans z17).trans z18), p18.drop, ul5, (ul6.ext z18), rfl, (ul7.ext z18)⟩
     ·
      have ul8 : y37.1 = false := by simpa using h39
      rw [ul8]
      refine Gn 4 [(57, (pt gx0 0))] Jo6 ?_
      refine bind_some' h fun y42 e43 h => ?_
      refine Gc (.call { callee := .value (.func 52), args := #[(.tmp 57), (.const (.int .u8 92))], argTypes := #[76, 5] }) 58 4 52 _ (W.z1x y37.2 92 y42 e43 gx0 ukz p16 ul0) ?_
      rintro _ w19 ⟨S19, ugr, rfl, z19, p19, ugu⟩
      refine Gn 2 [(56, .bool y42.1)] Jo5 ?_
      refine ite_some h (fun h44 h => ?_) (fun h44 h => ?_)
      ·
       rw [h44]
       refine Gn 4 [(59, (pt gx0 0))] Jo8 ?_
       refine bind_some' h fun y45 e46 h => ?_
       refine Gc (kc 98 [59] #[76]) 60 143 98 _ (W.z2g y42.2 y45 e46 gx0 ugr p19 ugu) ?_
       rintro _ w20 ⟨S20, ul9, rfl, z20, p20, ula, ulb⟩
       refine Gn 2 [(61, (ag (U4 y45.1.set_ []))), (62, (ag (.i 1 :: U4 y45.1.set_ [.slice none 0 0, .i 0, .i 0])))] Jo9 ?_
       refine So 58 (.tmp 2) (.tmp 62) 0 1 gx2 0 (ag (.i 1 :: U4 y45.1.set_ [.slice none 0 0, .i 0, .i 0])) (.i 1 :: U4 y45.1.set_ [.slice none 0 0, .i 0, .i 0]) p20 rfl Goes.s ?_
       intro w21 z21 p21
       have p21 : Hp nz wz S20 w21 ((some gx0, .row 79 [.string y45.2.s, .i y45.2.at_, .i y45.2.deep, ul9] 4 0) :: (some gx2, .row 58 (.i 1 :: U4 y45.1.set_ [.slice none 0 0, .i 0, .i 0]) 8 0) :: (ujg, .row 58 ujj (uji * kT57.size) 0) :: Lr) := p21
       refine Gn 1 [] Jo7 ?_
       obtain rfl := Option.some.inj h
       have p21 := p21.dp 2
       have p21 := (p21.fr 0).fr 1
       exact Goes.ret (fn := Tryz.f86) (by kernel_rfl) (v := (ag (.i 1 :: U4 y45.1.set_ [.slice none 0 0, .i 0, .i 0]))) (results_n1 (fn := Tryz.f86) (a := .cell 2 58) (by kernel_rfl) (resV_cell ⟨gx2, 0, none⟩ (by kernel_rfl) (run_loadN (.i 1 :: U4 y45.1.set_ [.slice none 0 0, .i 0, .i 0]) (by kernel_rfl) (by kernel_rfl) (p21.pa 0 0)))) ⟨S20, none, 0, 0, ul9, rfl, ((((((hx.trans z9).trans z13).trans z16).trans z19).trans z20).trans z21), p21.drop, ula, Rd.none_, rfl, (ulb.ext z21)⟩
      ·
       have ulc : y42.1 = false := by simpa using h44
       rw [ulc]
       refine Gn 8 [(63, (pt gx0 0)), (64, (pt gx0 0)), (65, (pt gx0 1))] Job ?_
       refine Goes.ld 3 (.tmp 65) 66 3 ⟨gx0, 1, none⟩ (.i y42.2.at_) (p19.c 0 1) ?_
       refine Gn 3 [(67, .i (wr .i64 (y42.2.at_ + 1))), (68, (pt gx0 0)), (69, (pt gx0 1))] Joc ?_
       refine So 3 (.tmp 69) (.tmp 67) 0 0 gx0 1 (.i (wr .i64 (y42.2.at_ + 1))) [.i (wr .i64 (y42.2.at_ + 1))] p19 rfl Goes.s ?_
       intro w22 z22 p22
       have p22 : Hp nz wz S19 w22 ((some gx0, .row 79 [.string y42.2.s, .i (wr .i64 (y42.2.at_ + 1)), .i y42.2.deep, ugr] 4 0) :: (some gx2, .row 58 (.i x2v.Kind :: U4 x2v.Set [.slice (Gp ujg) x2v.L.length uji, .i x2v.Min, .i x2v.Max]) 8 0) :: (ujg, .row 58 ujj (uji * kT57.size) 0) :: Lr) := p22
       refine Gn 4 [(70, .int .u8 x3)] Joe ?_
       refine bind_some' h fun y47 e48 h => ?_
       refine Gc (kc 95 [70] #[5]) 71 44 95 _ (W.z1z x3 y47 e48  p22 ) ?_
       rintro _ w23 ⟨S23, ueh, rfl, z23, p23, uei, uej⟩
       have l49 := Els.len1 uei uej rfl
       obtain rfl := els_lit4 uei uej
       refine Gn 1 [(72, (ag (.i 1 :: U4 y47 [.slice none 0 0, .i 0, .i 0])))] Jof ?_
       refine So 58 (.tmp 2) (.tmp 72) 0 1 gx2 0 (ag (.i 1 :: U4 y47 [.slice none 0 0, .i 0, .i 0])) (.i 1 :: U4 y47 [.slice none 0 0, .i 0, .i 0]) p23 rfl Goes.s ?_
       intro w24 z24 p24
       have p24 : Hp nz wz S23 w24 ((some gx0, .row 79 [.string y42.2.s, .i (wr .i64 (y42.2.at_ + 1)), .i y42.2.deep, ugr] 4 0) :: (some gx2, .row 58 (.i 1 :: U4 y47 [.slice none 0 0, .i 0, .i 0]) 8 0) :: (ujg, .row 58 ujj (uji * kT57.size) 0) :: Lr) := p24
       refine Gn 1 [] Jod ?_
       obtain rfl := Option.some.inj h
       have p24 := p24.dp 2
       have p24 := (p24.fr 0).fr 1
       exact Goes.ret (fn := Tryz.f86) (by kernel_rfl) (v := (ag (.i 1 :: U4 y47 [.slice none 0 0, .i 0, .i 0]))) (results_n1 (fn := Tryz.f86) (a := .cell 2 58) (by kernel_rfl) (resV_cell ⟨gx2, 0, none⟩ (by kernel_rfl) (run_loadN (.i 1 :: U4 y47 [.slice none 0 0, .i 0, .i 0]) (by kernel_rfl) (by kernel_rfl) (p24.pa 0 0)))) ⟨S23, none, 0, 0, ugr, rfl, (((((((hx.trans z9).trans z13).trans z16).trans z19).trans z22).trans z23).trans z24), p24.drop, l49, Rd.none_, rfl, (ugu.ext ((z22.trans z23).trans z24))⟩
 ·
  intro uld ule x0v r h nz wz S0 w0 Lr gx0 uda p0 udb
  try dsimp only at h
  refine Zf Tryz.f97 B97 26 ?_
  refine Gj 27 [(0, (pt gx0 0))] fun junk => ?_
  refine Gn 2 [] Joh ?_
  refine Op_.alloc 58 2 0 (.agg #[.i 0, .u 0, .u 0, .u 0, .u 0, .slice none 0 0, .i 0, .i 0]) [.i 0, .u 0, .u 0, .u 0, .u 0, .slice none 0 0, .i 0, .i 0] p0 Goes.v (by kernel_rfl) (by kernel_rfl) ?_
  intro b2 w2 z2 p2
  refine Gn 5 [(4, (pt gx0 0))] Joj ?_
  have p2 := p2.fr 1
  refine bind_some' h fun y4 e5 h => ?_
  refine Gc (.call { callee := .value (.func 52), args := #[(.tmp 4), (.const (.int .u8 63))], argTypes := #[76, 5] }) 5 4 52 _ (W.z1x x0v 63 y4 e5 gx0 uda p2 (udb.ext z2)) ?_
  rintro _ w3 ⟨S3, ufn, rfl, z3, p3, ufo⟩
  refine Gn 1 [] Joi ?_
  refine ite_some h (fun h6 h => ?_) (fun h6 h => ?_)
  ·
   rw [h6]
   refine Gn 3 [(6, (pt gx0 0))] Jok ?_
   refine bind_some' h fun y7 e8 h => ?_
   refine Gc (.call { callee := .value (.func 100), args := #[(.tmp 6), (.const (.int .u8 58))], argTypes := #[76, 5] }) 7 0 100 _ (W.z2s y4.2 58 y7 e8 gx0 ufn p3 ufo) ?_
   rintro _ w4 ⟨S4, uf8, rfl, z4, p4, ufb⟩
   refine Gn 1 [] Jm6 ?_
   have p4 : Hp nz wz S4 w4 ((none, .row 58 [] (0 * kT57.size) 0) :: (some gx0, .row 79 [.string y7.s, .i y7.at_, .i y7.deep, uf8] 4 0) :: (some b2, .row 58 [.i 0, .u 0, .u 0, .u 0, .u 0, .slice none 0 0, .i 0, .i 0] 8 0) :: Lr) := p4.nilRow' 58
   have p4 := ((p4.fr 1).fr 1).fr 2
   exact Gj 27 [(0, (pt gx0 0)), (2, (pt b2 0))] (ule _ _ h gx0 _ _ ((((Ext.refl S0 w0).trans z2).trans z3).trans z4) b2 none 0 0 [] uf8 p4 rfl (Els.nil (K := kT57)) rfl ufb)
  ·
   have h6' : y4.1 = false := by simpa using h6
   rw [h6']
   refine Gn 2 [] Jm6 ?_
   have p3 : Hp nz wz S3 w3 ((none, .row 58 [] (0 * kT57.size) 0) :: (some gx0, .row 79 [.string y4.2.s, .i y4.2.at_, .i y4.2.deep, ufn] 4 0) :: (some b2, .row 58 [.i 0, .u 0, .u 0, .u 0, .u 0, .slice none 0 0, .i 0, .i 0] 8 0) :: Lr) := p3.nilRow' 58
   have p3 := ((p3.fr 1).fr 1).fr 2
   exact Gj 27 [(0, (pt gx0 0)), (2, (pt b2 0))] (ule _ _ h gx0 _ _ (((Ext.refl S0 w0).trans z2).trans z3) b2 none 0 0 [] ufn p3 rfl (Els.nil (K := kT57)) rfl ufo)
 ·
  intro rec_syntax_parser_alternation ih_syntax_parser_alternation ⟨x2v, e0v⟩ r h nz wz S0 w0 Lr gx0 S1 w1 hx gx2 ujg ujh uji ujj ud8 p1 ujm ujn ujo ud9 junk
  try dsimp only at h
  subst ujo
  refine Gn 5 [(8, (pt gx0 0)), (9, (pt gx0 0)), (10, (pt gx0 2))] Jom ?_
  refine Goes.ld 3 (.tmp 10) 11 3 ⟨gx0, 2, none⟩ (.i e0v.deep) (p1.c 2 2) ?_
  refine Gn 3 [(12, .i (wr .i64 (e0v.deep + 1))), (13, (pt gx0 0)), (14, (pt gx0 2))] Jon ?_
  refine So 3 (.tmp 14) (.tmp 12) 0 2 gx0 2 (.i (wr .i64 (e0v.deep + 1))) [.i (wr .i64 (e0v.deep + 1))] p1 rfl Goes.s ?_
  intro w5 z5 p5
  have p5 : Hp nz wz S1 w5 ((some gx2, .row 58 (.i x2v.Kind :: U4 x2v.Set [.slice (Gp ujg) x2v.L.length uji, .i x2v.Min, .i x2v.Max]) 8 0) :: (ujg, .row 58 ujj (uji * kT57.size) 0) :: (some gx0, .row 79 [.string e0v.s, .i e0v.at_, .i (wr .i64 (e0v.deep + 1)), ud8] 4 0) :: Lr) := p5
  refine Gn 4 [(15, (pt gx0 0))] Jop ?_
  have p5 := p5.fr 2
  refine bind_some' h fun y13 e14 h => ?_
  refine Gc (kc 36 [15] #[76]) 16 58 36 _ (ih_syntax_parser_alternation (⟨e0v.s, e0v.at_, wr .i64 (e0v.deep + 1), e0v.bad⟩ : T78) y13 e14 gx0 ud8 p5 (ud9.ext z5)) ?_
  rintro _ w6 ⟨S6, ujp, ujq, ujr, ugw, rfl, z6, p6, ujs, ujt, rfl, ugx⟩
  refine Op_.alloc 58 3 0 (.agg #[.i 0, .u 0, .u 0, .u 0, .u 0, .slice none 0 0, .i 0, .i 0]) [.i 0, .u 0, .u 0, .u 0, .u 0, .slice none 0 0, .i 0, .i 0] p6 Goes.v (by kernel_rfl) (by kernel_rfl) ?_
  intro b15 w7 z7 p7
  refine So 58 (.tmp 3) (.tmp 16) 0 0 b15 0 (ag (.i y13.1.Kind :: U4 y13.1.Set [.slice ujp y13.1.L.length ujr, .i y13.1.Min, .i y13.1.Max])) (.i y13.1.Kind :: U4 y13.1.Set [.slice ujp y13.1.L.length ujr, .i y13.1.Min, .i y13.1.Max]) p7 rfl Goes.s ?_
  intro w8 z8 p8
  have p8 : Hp nz wz S6 w8 ((some b15, .row 58 (.i y13.1.Kind :: U4 y13.1.Set [.slice ujp y13.1.L.length ujr, .i y13.1.Min, .i y13.1.Max]) 8 0) :: (some gx0, .row 79 [.string y13.2.s, .i y13.2.at_, .i y13.2.deep, ugw] 4 0) :: (some gx2, .row 58 (.i x2v.Kind :: U4 x2v.Set [.slice (Gp ujg) x2v.L.length uji, .i x2v.Min, .i x2v.Max]) 8 0) :: (ujg, .row 58 ujj (uji * kT57.size) 0) :: Lr) := p8
  refine Gn 6 [(17, (pt gx0 0)), (18, (pt gx0 0)), (19, (pt gx0 2))] Jor ?_
  refine Goes.ld 3 (.tmp 19) 20 3 ⟨gx0, 2, none⟩ (.i y13.2.deep) (p8.c 1 2) ?_
  refine Gn 3 [(21, .i (wr .i64 (y13.2.deep - 1))), (22, (pt gx0 0)), (23, (pt gx0 2))] Jos ?_
  refine So 3 (.tmp 23) (.tmp 21) 0 1 gx0 2 (.i (wr .i64 (y13.2.deep - 1))) [.i (wr .i64 (y13.2.deep - 1))] p8 rfl Goes.s ?_
  intro w9 z9 p9
  have p9 : Hp nz wz S6 w9 ((some b15, .row 58 (.i y13.1.Kind :: U4 y13.1.Set [.slice ujp y13.1.L.length ujr, .i y13.1.Min, .i y13.1.Max]) 8 0) :: (some gx0, .row 79 [.string y13.2.s, .i y13.2.at_, .i (wr .i64 (y13.2.deep - 1)), ugw] 4 0) :: (some gx2, .row 58 (.i x2v.Kind :: U4 x2v.Set [.slice (Gp ujg) x2v.L.length uji, .i x2v.Min, .i x2v.Max]) 8 0) :: (ujg, .row 58 ujj (uji * kT57.size) 0) :: Lr) := p9
  refine Gn 4 [(24, (pt gx0 0))] Jou ?_
  have p9 := p9.fr 1
  refine bind_some' h fun y17 e18 h => ?_
  refine Gc (.call { callee := .value (.func 100), args := #[(.tmp 24), (.const (.int .u8 41))], argTypes := #[76, 5] }) 25 0 100 _ (W.z2s (⟨y13.2.s, y13.2.at_, wr .i64 (y13.2.deep - 1), y13.2.bad⟩ : T78) 41 y17 e18 gx0 ugw p9 (ugx.ext ((z7.trans z8).trans z9))) ?_
  rintro _ w10 ⟨S10, uft, rfl, z10, p10, ufu⟩
  refine Gn 3 [] Jow ?_
  refine Goes.ldN 58 (.tmp 3) 26 58 ⟨b15, 0, none⟩ (.i y13.1.Kind :: U4 y13.1.Set [.slice ujp y13.1.L.length ujr, .i y13.1.Min, .i y13.1.Max]) (p10.pa 1 0) ?_
  refine So 58 (.tmp 2) (.tmp 26) 0 2 gx2 0 (ag (.i y13.1.Kind :: U4 y13.1.Set [.slice ujp y13.1.L.length ujr, .i y13.1.Min, .i y13.1.Max])) (.i y13.1.Kind :: U4 y13.1.Set [.slice ujp y13.1.L.length ujr, .i y13.1.Min, .i y13.1.Max]) p10 rfl Goes.s ?_
  intro w11 z11 p11
  have p11 : Hp nz wz S10 w11 ((some gx0, .row 79 [.string y17.s, .i y17.at_, .i y17.deep, uft] 4 0) :: (some b15, .row 58 (.i y13.1.Kind :: U4 y13.1.Set [.slice ujp y13.1.L.length ujr, .i y13.1.Min, .i y13.1.Max]) 8 0) :: (some gx2, .row 58 (.i y13.1.Kind :: U4 y13.1.Set [.slice ujp y13.1.L.length ujr, .i y13.1.Min, .i y13.1.Max]) 8 0) :: (ujg, .row 58 ujj (uji * kT57.size) 0) :: Lr) := p11
  refine Gn 1 [] Jov ?_
  obtain rfl := Option.some.inj h
  have p11 := (p11.dp 1).dp 2
  have p11 := (p11.fr 0).fr 1
  exact Goes.ret (fn := Tryz.f97) (by kernel_rfl) (v := (ag (.i y13.1.Kind :: U4 y13.1.Set [.slice ujp y13.1.L.length ujr, .i y13.1.Min, .i y13.1.Max]))) (results_n1 (fn := Tryz.f97) (a := .cell 2 58) (by kernel_rfl) (resV_cell ⟨gx2, 0, none⟩ (by kernel_rfl) (run_loadN (.i y13.1.Kind :: U4 y13.1.Set [.slice ujp y13.1.L.length ujr, .i y13.1.Min, .i y13.1.Max]) (by kernel_rfl) (by kernel_rfl) (p11.pa 0 0)))) ⟨S10, ujp, y13.1.L.length, ujr, uft, rfl, (((((((hx.trans z5).trans z6).trans z7).trans z8).trans z9).trans z10).trans z11), p11.drop, ujs, (ujt.ext ((((z7.trans z8).trans z9).trans z10).trans z11)), rfl, (ufu.ext z11)⟩

theorem W.z30 : ∀ a r, M.syntax_parser_alternation a = some r → LF.z30 a r := (W.z3b).1

theorem W.z3a : ∀ a r, M.syntax_parser_alternation_l0 a = some r → LL.z3a a r := (W.z3b).2.1

theorem W.z31 : ∀ a r, M.syntax_parser_sequence a = some r → LF.z31 a r := (W.z3b).2.2.1

theorem W.z35 : ∀ a r, M.syntax_parser_sequence_l0 a = some r → LL.z35 a r := (W.z3b).2.2.2.1

theorem W.z36 : ∀ a r, M.syntax_parser_sequence_l1 a = some r → LL.z36 a r := (W.z3b).2.2.2.2.1

theorem W.z32 : ∀ a r, M.syntax_parser_piece a = some r → LF.z32 a r := (W.z3b).2.2.2.2.2.1

theorem W.z33 : ∀ a r, M.syntax_parser_atom a = some r → LF.z33 a r := (W.z3b).2.2.2.2.2.2.1

theorem W.z37 : ∀ a r, M.syntax_parser_atom_l0 a = some r → LL.z37 a r := (W.z3b).2.2.2.2.2.2.2.1

theorem W.z38 : ∀ a r, M.syntax_parser_atom_l1 a = some r → LL.z38 a r := (W.z3b).2.2.2.2.2.2.2.2.1

theorem W.z34 : ∀ a r, M.syntax_parser_group a = some r → LF.z34 a r := (W.z3b).2.2.2.2.2.2.2.2.2.1

theorem W.z39 : ∀ a r, M.syntax_parser_group_l0 a = some r → LL.z39 a r := (W.z3b).2.2.2.2.2.2.2.2.2.2

def Jox := Zs [1, 1, 1, 1, 1, 1] B21 []
def Joy := Zs [1, 1, 1, 1, 1, 0, 1] B21 Jox
def Joz := Zs [1, 1, 1, 1, 1, 0, 1, 0, 1] B21 Jox
def Jp0 := Zs [1, 1, 1, 1, 1, 0, 1, 0, 0] B21 Joz
def Jp1 := Zs [1, 1, 1, 1, 1, 1, 1] B21 []
def Jp2 := Zt [1, 1, 1, 1, 1, 1, 0] B21 [0, 1, 2, 3] Jp1

def Post.z3c (r : T57 × Int × Int) (v : Value) (w' : World) : Prop :=
 ∃ S' ulf ulg ulh, v = .tuple #[(ag (.i r.1.Kind :: U4 r.1.Set [.slice ulf ulg ulh, .i r.1.Min, .i r.1.Max])), .i r.2.1, .i r.2.2] ∧ Ext S0 w0 S' w' ∧ Hp nz wz S' w' (Lr) ∧ r.1.Set.length = 4 ∧ Rd kT57 S' w' ulf ulh r.1.L ∧ r.1.L.length = ulg

def L.z3d : T57 × T78 × T57 × Bool → (T57 × Int × Int) → Prop := fun ⟨x2v, x5v, x6v, x40⟩ r => ∀ S1 w1, Ext S0 w0 S1 w1 → ∀ gx2 ujg ujh uji ujj gx5 uli gx6 ulj ulk ull (_ : Hp nz wz S1 w1 ((some gx2, .row 58 (.i x2v.Kind :: U4 x2v.Set [.slice (Gp ujg) ujh uji, .i x2v.Min, .i x2v.Max]) 8 0) :: (ujg, .row 58 ujj (uji * kT57.size) 0) :: (some gx5, .row 79 [.string x5v.s, .i x5v.at_, .i x5v.deep, uli] 4 0) :: (some gx6, .row 58 (.i x6v.Kind :: U4 x6v.Set [.slice ulj ulk ull, .i x6v.Min, .i x6v.Max]) 8 0) :: Lr)) (_ : x2v.Set.length = 4) (_ : Els kT57 S1 w1 ujj x2v.L) (_ : x2v.L.length = ujh) (_ : PtO kT82 S1 w1 uli x5v.bad) (_ : x6v.Set.length = 4) (_ : Rd kT57 S1 w1 ulj ull x6v.L) (_ : x6v.L.length = ulk) (junk : Nat → Value),
 Goes Tryz.prog (base 21) Joy ⟨lfr 50 [(2, (pt gx2 0)), (5, (pt gx5 0)), (6, (pt gx6 0)), (40, .bool x40)] junk, []⟩ w1 (Done Tryz.prog 21 (Rets (Post.z3c nz wz S0 w0 Lr r)))

theorem W.z3d {nz wz S0 w0 Lr} : ∀ a r, M.syntax_Parse_l2 a = some r → L.z3d nz wz S0 w0 Lr a r := by
 intro ⟨x2v, x5v, x6v, x40⟩ r h S1 w1 hx gx2 ujg ujh uji ujj gx5 uli gx6 ulj ulk ull p1 ujm ujn ujo ulm uln ulo ulp junk
 rw [M.syntax_Parse_l2] at h
 try dsimp only at h
 subst ujo
 subst ulp
 refine ite_some h (fun h41 h => ?_) (fun h41 h => ?_)
 ·
  rw [h41]
  refine Gn 2 [] Jp0 ?_
  have z9 : Ext S1 w1 S1 (w1).drew := Ext.draw
  have p9 := p1.draw
  refine Goes.drawn (s := []) (F := Fc S1 (w1).drew [(⟨gx5, 3, none⟩, uli)]) 8 11 (by kernel_rfl) (by kernel_rfl) (by kernel_rfl) (by kernel_rfl) ?_
  generalize (w1).drew = w9 at z9 p9 ⊢
  refine AnyG.pu 0 (.build 58 #[]) 41 58 (.agg #[.i 0, .u 0, .u 0, .u 0, .u 0, .slice none 0 0, .i 0, .i 0]) (Fc.here (p9.cs [(2, 3, 1)])) ?_
  refine AnyG.pu 1 (.move (.tmp 5)) 42 76 ((pt gx5 0)) (Fc.here (p9.cs [(2, 3, 1)])) ?_
  refine AnyG.pu 2 (.nilCheck (.tmp 42)) 43 0 ((pt gx5 0)) (Fc.here (p9.cs [(2, 3, 1)])) ?_
  refine AnyG.pu 3 (.fieldAddr 79 (.tmp 43) 3) 44 0 ((pt gx5 3)) (Fc.here (p9.cs [(2, 3, 1)])) ?_
  refine AnyG.ld1 (i := 4) 77 (.tmp 44) 45 77 ⟨gx5, 3, none⟩ (uli) (by kernel_rfl) (by kernel_rfl) (Fc.here (p9.cs [(2, 3, 1)])) (by kernel_rfl) (by kernel_rfl) (fun _ h => h.2.at_ 0 rfl) ?_
  refine let_some h fun v48 h42 h => ?_
  rcases v48 with _ | y43
  ·
   try dsimp only at h
   obtain rfl := PtO.nil (ulm.ext z9) h42
   cases h
  ·
   try dsimp only at h
   obtain ⟨a45, _, rfl, -, f46, q47⟩ := PtO.got (ulm.ext z9) h42
   obtain rfl := q47
   refine AnyG.pu 5 (.nilCheck (.tmp 45)) 46 0 (.pointer (some a45)) (Fc.here (p9.cs [(2, 3, 1)])) ?_
   refine AnyG.pu 6 (.fieldAddr 83 (.tmp 46) 0) 47 0 (.pointer (some (Addr.add a45 0))) (Fc.here (p9.cs [(2, 3, 1)])) ?_
   refine AnyG.ld1 (i := 7) 3 (.tmp 47) 48 3 (Addr.add a45 0) (.i y43.at_) (by kernel_rfl) (by kernel_rfl) (Fc.here (p9.cs [(2, 3, 1)])) (by kernel_rfl) (by kernel_rfl) (fun _ h => (Cs.left (us := [.i y43.at_]) (vs := []) (Cs.add (us := []) (vs := [.i y43.at_]) f46)).fc h 0 _ rfl) ?_
   refine So 58 (.tmp 2) (.tmp 41) 0 0 gx2 0 (.agg #[.i 0, .u 0, .u 0, .u 0, .u 0, .slice none 0 0, .i 0, .i 0]) [.i 0, .u 0, .u 0, .u 0, .u 0, .slice none 0 0, .i 0, .i 0] p9 rfl (AnyG.ss (i := 8) (by kernel_rfl) (by kernel_rfl)) ?_
   intro w10 z10 p10
   have p10 : Hp nz wz S1 w10 ((some gx2, .row 58 [.i 0, .u 0, .u 0, .u 0, .u 0, .slice none 0 0, .i 0, .i 0] 8 0) :: (ujg, .row 58 ujj (uji * kT57.size) 0) :: (some gx5, .row 79 [.string x5v.s, .i x5v.at_, .i x5v.deep, .pointer (some a45)] 4 0) :: (some gx6, .row 58 (.i x6v.Kind :: U4 x6v.Set [.slice ulj x6v.L.length ull, .i x6v.Min, .i x6v.Max]) 8 0) :: Lr) := p10
   refine AnyG.next z10 ⟨(p10.c 2 3), trivial⟩ ?_
   refine AnyG.pu 9 (.assign (.tmp 48)) 3 3 (.i y43.at_) (Fc.here (p10.cs [(2, 3, 1)])) ?_
   refine AnyG.pu 10 (.assign (.const (.int .i64 100))) 4 26 (.i 100) (Fc.here (p10.cs [(2, 3, 1)])) ?_
   refine AnyG.done (by kernel_rfl) ?_ _
   have p10 := ((p10.dp 1).dp 1).dp 1
   obtain rfl := Option.some.inj h
   exact Goes.ret (fn := Tryz.f21) (by kernel_rfl) (v := .tuple #[.agg #[.i 0, .u 0, .u 0, .u 0, .u 0, .slice none 0 0, .i 0, .i 0], .i y43.at_, .i 100]) (results_n3 (fn := Tryz.f21) (a := .cell 2 58) (b := .tmp 3) (c := .tmp 4) (by kernel_rfl) (resV_cell ⟨gx2, 0, none⟩ (by kernel_rfl) (run_loadN [.i 0, .u 0, .u 0, .u 0, .u 0, .slice none 0 0, .i 0, .i 0] (by kernel_rfl) (by kernel_rfl) (p10.pa 0 0))) (resV_tmp (by kernel_rfl)) (resV_tmp (by kernel_rfl))) ⟨S1, none, 0, 0, rfl, ((hx.trans z9).trans z10), p10.drop, rfl, Rd.none_, rfl⟩
 ·
  have ulq : x40 = false := by simpa using h41
  rw [ulq]
  refine Gn 4 [] Jp2 ?_
  refine Goes.ldN 58 (.tmp 6) 49 58 ⟨gx6, 0, none⟩ (.i x6v.Kind :: U4 x6v.Set [.slice ulj x6v.L.length ull, .i x6v.Min, .i x6v.Max]) (p1.pa 3 0) ?_
  refine So 58 (.tmp 2) (.tmp 49) 0 0 gx2 0 (ag (.i x6v.Kind :: U4 x6v.Set [.slice ulj x6v.L.length ull, .i x6v.Min, .i x6v.Max])) (.i x6v.Kind :: U4 x6v.Set [.slice ulj x6v.L.length ull, .i x6v.Min, .i x6v.Max]) p1 rfl Goes.s ?_
  intro w11 z11 p11
  have p11 : Hp nz wz S1 w11 ((some gx2, .row 58 (.i x6v.Kind :: U4 x6v.Set [.slice ulj x6v.L.length ull, .i x6v.Min, .i x6v.Max]) 8 0) :: (ujg, .row 58 ujj (uji * kT57.size) 0) :: (some gx5, .row 79 [.string x5v.s, .i x5v.at_, .i x5v.deep, uli] 4 0) :: (some gx6, .row 58 (.i x6v.Kind :: U4 x6v.Set [.slice ulj x6v.L.length ull, .i x6v.Min, .i x6v.Max]) 8 0) :: Lr) := p11
  refine Gn 3 [(3, .i 0), (4, .i 0)] Jp1 ?_
  obtain rfl := Option.some.inj h
  have p11 := ((p11.dp 1).dp 1).dp 1
  exact Goes.ret (fn := Tryz.f21) (by kernel_rfl) (v := .tuple #[(ag (.i x6v.Kind :: U4 x6v.Set [.slice ulj x6v.L.length ull, .i x6v.Min, .i x6v.Max])), .i 0, .i 0]) (results_n3 (fn := Tryz.f21) (a := .cell 2 58) (b := .tmp 3) (c := .tmp 4) (by kernel_rfl) (resV_cell ⟨gx2, 0, none⟩ (by kernel_rfl) (run_loadN (.i x6v.Kind :: U4 x6v.Set [.slice ulj x6v.L.length ull, .i x6v.Min, .i x6v.Max]) (by kernel_rfl) (by kernel_rfl) (p11.pa 0 0))) (resV_tmp (by kernel_rfl)) (resV_tmp (by kernel_rfl))) ⟨S1, ulj, x6v.L.length, ull, rfl, (hx.trans z11), p11.drop, uln, (ulo.ext z11), rfl⟩

def Jp3 := Zs [1, 1, 1, 1, 1] B21 []
def Jp4 := Zt [1, 1, 1, 1, 1, 0, 0] B21 [3, 4] Joy

def L.z3e : T57 × T78 × T57 → (T57 × Int × Int) → Prop := fun ⟨x2v, x5v, x6v⟩ r => ∀ S1 w1, Ext S0 w0 S1 w1 → ∀ gx2 ujg ujh uji ujj gx5 uli gx6 ulj ulk ull (_ : Hp nz wz S1 w1 ((some gx2, .row 58 (.i x2v.Kind :: U4 x2v.Set [.slice (Gp ujg) ujh uji, .i x2v.Min, .i x2v.Max]) 8 0) :: (ujg, .row 58 ujj (uji * kT57.size) 0) :: (some gx5, .row 79 [.string x5v.s, .i x5v.at_, .i x5v.deep, uli] 4 0) :: (some gx6, .row 58 (.i x6v.Kind :: U4 x6v.Set [.slice ulj ulk ull, .i x6v.Min, .i x6v.Max]) 8 0) :: Lr)) (_ : x2v.Set.length = 4) (_ : Els kT57 S1 w1 ujj x2v.L) (_ : x2v.L.length = ujh) (_ : PtO kT82 S1 w1 uli x5v.bad) (_ : x6v.Set.length = 4) (_ : Rd kT57 S1 w1 ulj ull x6v.L) (_ : x6v.L.length = ulk) (junk : Nat → Value),
 Goes Tryz.prog (base 21) Jp3 ⟨lfr 50 [(2, (pt gx2 0)), (5, (pt gx5 0)), (6, (pt gx6 0))] junk, []⟩ w1 (Done Tryz.prog 21 (Rets (Post.z3c nz wz S0 w0 Lr r)))

theorem W.z3e {nz wz S0 w0 Lr} : ∀ a r, M.syntax_Parse_l1 a = some r → L.z3e nz wz S0 w0 Lr a r := by
 intro ⟨x2v, x5v, x6v⟩ r h S1 w1 hx gx2 ujg ujh uji ujj gx5 uli gx6 ulj ulk ull p1 ujm ujn ujo ulm uln ulo ulp junk
 rw [M.syntax_Parse_l1] at h
 try dsimp only at h
 subst ujo
 subst ulp
 refine Gn 6 [(36, (pt gx5 0)), (37, (pt gx5 0)), (38, (pt gx5 3))] Jp4 ?_
 refine Goes.ld 77 (.tmp 38) 39 77 ⟨gx5, 3, none⟩ (uli) (p1.c 2 3) ?_
 refine let_some h fun v40 h30 h => ?_
 rcases v40 with _ | y31
 ·
  try dsimp only at h
  obtain rfl := PtO.nil ulm h30
  refine Gn 2 [(40, .bool false)] Joy ?_
  exact Gj 50 [(2, (pt gx2 0)), (5, (pt gx5 0)), (6, (pt gx6 0)), (40, .bool false)] (W.z3d _ _ h _ _ hx gx2 ujg x2v.L.length uji ujj gx5 (.pointer none) gx6 ulj x6v.L.length ull p1 ujm ujn rfl rfl uln ulo rfl)
 ·
  try dsimp only at h
  obtain ⟨a33, _, rfl, -, f34, q35⟩ := PtO.got ulm h30
  obtain rfl := q35
  refine Gn 2 [(40, .bool true)] Joy ?_
  exact Gj 50 [(2, (pt gx2 0)), (5, (pt gx5 0)), (6, (pt gx6 0)), (40, .bool true)] (W.z3d _ _ h _ _ hx gx2 ujg x2v.L.length uji ujj gx5 (.pointer (some a33)) gx6 ulj x6v.L.length ull p1 ujm ujn rfl ⟨_, _, rfl, List.cons_ne_nil _ _, f34, rfl⟩ uln ulo rfl)

def Jp5 := Zs [1, 1, 1, 1, 0, 1] B21 Jp3
def Jp6 := Zt [1, 1, 1, 1, 0, 1, 0] B21 [4, 5] Jp3

def L.z3f : T57 × T78 × T57 × Bool → (T57 × Int × Int) → Prop := fun ⟨x2v, x5v, x6v, x29⟩ r => ∀ S1 w1, Ext S0 w0 S1 w1 → ∀ gx2 ujg ujh uji ujj gx5 uli gx6 ulj ulk ull (_ : Hp nz wz S1 w1 ((some gx2, .row 58 (.i x2v.Kind :: U4 x2v.Set [.slice (Gp ujg) ujh uji, .i x2v.Min, .i x2v.Max]) 8 0) :: (ujg, .row 58 ujj (uji * kT57.size) 0) :: (some gx5, .row 79 [.string x5v.s, .i x5v.at_, .i x5v.deep, uli] 4 0) :: (some gx6, .row 58 (.i x6v.Kind :: U4 x6v.Set [.slice ulj ulk ull, .i x6v.Min, .i x6v.Max]) 8 0) :: Lr)) (_ : x2v.Set.length = 4) (_ : Els kT57 S1 w1 ujj x2v.L) (_ : x2v.L.length = ujh) (_ : PtO kT82 S1 w1 uli x5v.bad) (_ : x6v.Set.length = 4) (_ : Rd kT57 S1 w1 ulj ull x6v.L) (_ : x6v.L.length = ulk) (junk : Nat → Value),
 Goes Tryz.prog (base 21) Jp5 ⟨lfr 50 [(2, (pt gx2 0)), (5, (pt gx5 0)), (6, (pt gx6 0)), (29, .bool x29)] junk, []⟩ w1 (Done Tryz.prog 21 (Rets (Post.z3c nz wz S0 w0 Lr r)))

theorem W.z3f {nz wz S0 w0 Lr} : ∀ a r, M.syntax_Parse_l0 a = some r → L.z3f nz wz S0 w0 Lr a r := by
 intro ⟨x2v, x5v, x6v, x29⟩ r h S1 w1 hx gx2 ujg ujh uji ujj gx5 uli gx6 ulj ulk ull p1 ujm ujn ujo ulm uln ulo ulp junk
 rw [M.syntax_Parse_l0] at h
 try dsimp only at h
 subst ujo
 subst ulp
 refine ite_some h (fun h23 h => ?_) (fun h23 h => ?_)
 ·
  rw [h23]
  refine Gn 6 [(30, (pt gx5 0)), (31, (pt gx5 0)), (32, (pt gx5 0)), (33, (pt gx5 1))] Jp6 ?_
  refine Goes.ld 3 (.tmp 33) 34 3 ⟨gx5, 1, none⟩ (.i x5v.at_) (p1.c 2 1) ?_
  have p1 := p1.fr 2
  refine bind_some' h fun y24 e25 h => ?_
  refine Gc (kc 37 [30, 34] #[76, 3]) 35 58 37 _ (W.z1w x5v x5v.at_ y24 e25 gx5 uli p1 ulm) ?_
  rintro _ w8 ⟨S8, ug0, ug1, ug2, ug3, rfl, z8, p8, ug4, ug5, rfl, ug6⟩
  refine Gn 1 [] Jp3 ?_
  have p8 := (((p8.fr 3).fr 1).fr 3).fr 3
  exact Gj 50 [(2, (pt gx2 0)), (5, (pt gx5 0)), (6, (pt gx6 0))] (W.z3e _ _ h _ _ (hx.trans z8) gx2 ujg x2v.L.length uji ujj gx5 ug3 gx6 ulj x6v.L.length ull p8 ujm (ujn.ext z8) rfl ug6 uln (ulo.ext z8) rfl)
 ·
  have ulr : x29 = false := by simpa using h23
  rw [ulr]
  refine Gn 2 [] Jp3 ?_
  exact Gj 50 [(2, (pt gx2 0)), (5, (pt gx5 0)), (6, (pt gx6 0))] (W.z3e _ _ h _ _ hx gx2 ujg x2v.L.length uji ujj gx5 uli gx6 ulj x6v.L.length ull p1 ujm ujn rfl ulm uln ulo rfl)

end

end Go.Gx
