import Derived.Test.YtemokppdnkiejaaDoorWMkc

set_option linter.unusedVariables false

set_option maxRecDepth 100000

set_option maxHeartbeats 4000000

namespace Go.Gx

open Go.RowKit Go.Proofs

variable (nz : Nat) (wz : World) (S0 : Fz) (w0 : World) (Lr : List Ent)

noncomputable section

def Qg6 := sub [1] B93
def Jle : List Item := [.code Qg6]
def Qg7 := sub [0] B93
def Jlf : List Item := .inRegion (opsOf Qg7) [0] :: Jle
def Qg8 := sub [1, 1] B93
def Jlg : List Item := [.code Qg8]
def Qg9 := sub [1, 0] B93
def Jlh : List Item := .inRegion (opsOf Qg9) [1, 2] :: Jlg
def Qga := sub [1, 1, 1] B93
def Jli : List Item := [.code Qga]
def Qgb := sub [1, 1, 0, 1] B93
def Jlj : List Item := .code Qgb :: Jli
def Qgc := sub [1, 1, 0, 0] B93
def Jlk : List Item := .inRegion (opsOf Qgc) [1, 2, 3, 4, 5, 6, 7] :: Jlj
def Jll : List Item := .inRegion (opsOf Qgc) [5, 6, 7] :: Jlj
def Qgd := sub [1, 1, 0, 1, 1] B93
def Jlm : List Item := .code Qgd :: Jli
def Qge := sub [1, 1, 0, 1, 1, 0, 1] B93
def Jln : List Item := .code Qge :: Jli
def Qgf := sub [1, 1, 0, 1, 1, 0, 0] B93
def Jlo : List Item := .inRegion (opsOf Qgf) [3, 4, 5, 6, 7] :: Jln
def Jlp : List Item := .inRegion (opsOf Qgf) [7] :: Jln
def Qgg := sub [1, 1, 0, 1, 1, 0, 1, 1] B93
def Jlq : List Item := .code Qgg :: Jli
def Qgh := sub [1, 1, 0, 1, 1, 0, 1, 0] B93
def Jlr : List Item := .inRegion (opsOf Qgh) [0, 1, 2] :: Jlq
def Jls : List Item := .inRegion (opsOf Qgh) [2] :: Jlq
def Qgi := sub [1, 1, 1, 0, 0, 1] B93
def Jlt : List Item := .code Qgi :: Jl3
def Qgj := sub [1, 1, 1, 0, 0, 1, 0, 1] B93
def Jlu : List Item := .code Qgj :: Jl3
def Qgk := sub [1, 1, 1, 0, 0, 1, 0, 0] B93
def Jlv : List Item := .inRegion (opsOf Qgk) [3, 4, 5, 6, 7] :: Jlu
def Jlw : List Item := .inRegion (opsOf Qgk) [7] :: Jlu
def Qgl := sub [1, 1, 1, 0, 0, 1, 0, 1, 1] B93
def Jlx : List Item := .code Qgl :: Jl3
def Qgm := sub [1, 1, 1, 0, 0, 1, 0, 1, 0] B93
def Jly : List Item := .inRegion (opsOf Qgm) [1, 2] :: Jlx
def Qgn := sub [1, 1, 1, 0, 0, 1, 0, 1, 1, 1] B93
def Jlz : List Item := .code Qgn :: Jl3
def Qgo := sub [1, 1, 1, 0, 0, 1, 0, 1, 1, 0] B93
def Jm0 : List Item := .inRegion (opsOf Qgo) [1, 2] :: Jlz
def Qgp := sub [1, 1, 1, 0, 0, 1, 0, 1, 1, 1, 1] B93
def Jm1 : List Item := .code Qgp :: Jl3
def Qgq := sub [1, 1, 1, 0, 0, 1, 0, 1, 1, 1, 0] B93
def Jm2 : List Item := .inRegion (opsOf Qgq) [4, 5] :: Jm1
def Qgr := sub [1, 1, 1, 0, 0, 1, 1, 1] B93
def Jm3 : List Item := .code Qgr :: Jl3
def Qgs := sub [1, 1, 1, 0, 0, 1, 1, 1, 0, 1] B93
def Jm4 : List Item := .code Qgs :: Jl3
def Qgt := sub [1, 1, 1, 0, 0, 1, 1, 1, 0, 0] B93
def Jm5 : List Item := .inRegion (opsOf Qgt) [3, 4, 5, 6, 7] :: Jm4
def Jm6 : List Item := .inRegion (opsOf Qgt) [7] :: Jm4
def Qgu := sub [1, 1, 1, 0, 0, 1, 1, 1, 0, 1, 1] B93
def Jm7 : List Item := .code Qgu :: Jl3
def Qgv := sub [1, 1, 1, 0, 0, 1, 1, 1, 0, 1, 0] B93
def Jm8 : List Item := .inRegion (opsOf Qgv) [0, 1] :: Jm7
def Qgw := sub [1, 1, 1, 0, 0, 1, 1, 1, 1, 1] B93
def Jm9 : List Item := .code Qgw :: Jl3
def Qgx := sub [1, 1, 1, 0, 0, 1, 1, 1, 1, 1, 0, 1] B93
def Jma : List Item := .code Qgx :: Jl3
def Qgy := sub [1, 1, 1, 0, 0, 1, 1, 1, 1, 1, 0, 0] B93
def Jmb : List Item := .inRegion (opsOf Qgy) [3, 4, 5, 6, 7] :: Jma
def Jmc : List Item := .inRegion (opsOf Qgy) [7] :: Jma
def Qgz := sub [1, 1, 1, 0, 0, 1, 1, 1, 1, 1, 0, 1, 1] B93
def Jmd : List Item := .code Qgz :: Jl3
def Qh0 := sub [1, 1, 1, 0, 0, 1, 1, 1, 1, 1, 0, 1, 0] B93
def Jme : List Item := .inRegion (opsOf Qh0) [0, 1] :: Jmd
def Qh1 := sub [1, 1, 1, 0, 0, 1, 1, 1, 1, 1, 1, 0] B93
def Jmf : List Item := .inRegion (opsOf Qh1) [3, 4, 5, 6, 7] :: Jl4
def Jmg : List Item := .inRegion (opsOf Qh1) [4, 5, 6, 7] :: Jl4

theorem W.z2z (x0v : T68) (r : T126 × T68) (h : M.syntax_parser_escape x0v = some r) {nz wz S0 w0 Lr} [Gw nz wz] (gx0 udu) (p0 : Hp nz wz S0 w0 ((some gx0, .row 69 [.string x0v.s, .i x0v.at_, .i x0v.deep, udu] 4 0) :: Lr)) (udv : PtO kT72 S0 w0 udu x0v.bad) :
  Calls Tryd.prog 93 #[(pt gx0 0)] w0 (Rets (Post.z2z nz wz S0 w0 Lr gx0 r)) := by
 refine calls_of_goes (fn := Tryd.f93) (c := B93) (by kernel_rfl) (by kernel_rfl) 89 (by kernel_rfl) ?_
 refine Goes.jp 90 [(0, (pt gx0 0))] (fun junk => ?_)
 delta M.syntax_parser_escape at h
 refine Goes.rn 2 [] Jlf ?_
 refine Op_.alloc 127 2 0 (.agg #[.u 0, .u 0, .u 0, .u 0, .int .u8 0, .bool false]) [.u 0, .u 0, .u 0, .u 0, .int .u8 0, .bool false] p0 Goes.v (by kernel_rfl) (by kernel_rfl) ?_
 intro b2 w2 z2 p2
 refine Goes.rn 4 [(8, (pt gx0 0))] Jlh ?_
 have p2 := p2.fr 1
 refine bind_some' h fun y4 e5 h => ?_
 refine Goes.cal (kc 65 [8] #[66]) 9 5 65 _ (W.z2d x0v y4 e5 gx0 udu p2 (udv.ext z2)) ?_
 rintro _ w3 ⟨S3, uga, rfl, z3, p3, ugb⟩
 refine Goes.rn 6 [(3, .int .u8 y4.1), (11, .int .u8 y4.1)] Jlk ?_
 refine bind_some' h fun y6 e7 h => ?_
 refine Goes.cal (kc 103 [11] #[5]) 12 142 103 _ (W.z2s y4.1 y6 e7  p3 ) ?_
 rintro _ w4 ⟨S4, ugc, rfl, z4, p4, ugd, uge⟩
 refine Goes.rn 3 [(10, .tuple #[.agg ugc.toArray, .bool y6.2]), (13, .agg ugc.toArray), (14, .bool y6.2)] Jll ?_
 refine Op_.alloc 25 4 0 (.agg #[.u 0, .u 0, .u 0, .u 0]) [.u 0, .u 0, .u 0, .u 0] p4 Goes.v (by kernel_rfl) (by kernel_rfl) ?_
 intro b8 w5 z5 p5
 have f10 : Els (kInt .u64) S4 w5 ([.u 0, .u 0, .u 0, .u 0] : List Value) [0, 0, 0, 0] := (Els.cons (K := (kInt .u64)) (vs := [.u 0]) (x := 0) rfl (Els.cons (K := (kInt .u64)) (vs := [.u 0]) (x := 0) rfl (Els.cons (K := (kInt .u64)) (vs := [.u 0]) (x := 0) rfl (Els.cons (K := (kInt .u64)) (vs := [.u 0]) (x := 0) rfl Els.nil))))
 refine Op_.stA 25 (.tmp 4) (.tmp 13) 0 0 b8 4 ugc p5 rfl rfl Goes.s (by kernel_rfl) (by kernel_rfl) (by kernel_rfl) uge (Els.one (ugd.ext z5)) ?_
 intro w6 z6 p6
 refine Goes.rn 6 [(5, .bool y6.2), (15, .bool y6.2)] Jlm ?_
 refine ite_some h (fun h11 h => ?_) (fun h11 h => ?_)
 ·
  rw [h11]
  refine Goes.rn 6 [(16, (pt gx0 0)), (17, (pt gx0 0)), (18, (pt gx0 1))] Jlo ?_
  refine Goes.ld 3 (.tmp 18) 19 3 ⟨gx0, 1, none⟩ (.i y4.2.at_) (p6.c 1 1) ?_
  refine Goes.rn 3 [(20, .i (wr .i64 (y4.2.at_ + 1))), (21, (pt gx0 0)), (22, (pt gx0 1))] Jlp ?_
  refine Op_.st 3 (.tmp 22) (.tmp 20) 0 1 gx0 1 (.i (wr .i64 (y4.2.at_ + 1))) [.i (wr .i64 (y4.2.at_ + 1))] p6 rfl Goes.s (by kernel_rfl) (by kernel_rfl) (by kernel_rfl) (by kernel_rfl) (Nat.zero_le _) (by simp only [List.length_cons, List.length_nil]; omega) (by simp [Value.oneCell']) ?_
  intro w7 z7 p7
  have p7 : Hp nz wz S4 w7 ((some b8, .row 25 ugc 4 0) :: (some gx0, .row 69 [.string y4.2.s, .i (wr .i64 (y4.2.at_ + 1)), .i y4.2.deep, uga] 4 0) :: (some b2, .row 127 [.u 0, .u 0, .u 0, .u 0, .int .u8 0, .bool false] 6 0) :: Lr) := p7
  refine Goes.rn 3 [] Jlr ?_
  refine Op_.ldN 25 (.tmp 4) 23 25 ⟨b8, 0, none⟩ ugc Goes.v (by kernel_rfl) (by kernel_rfl) (by rw [uge]; kernel_rfl) (At_all (p7.mem 0 rfl)) ?_
  have l12 := Els.len1 (ugd.ext ((z5.trans z6).trans z7)) uge rfl
  obtain rfl := els_lit4 (ugd.ext ((z5.trans z6).trans z7)) uge
  refine Goes.rn 1 [(24, (ag (U4 y6.1 [.int .u8 0, .bool false])))] Jls ?_
  refine Op_.st 127 (.tmp 2) (.tmp 24) 0 2 b2 0 (ag (U4 y6.1 [.int .u8 0, .bool false])) (U4 y6.1 [.int .u8 0, .bool false]) p7 rfl Goes.s (by kernel_rfl) (by kernel_rfl) (by kernel_rfl) (by kernel_rfl) (Nat.zero_le _) (by simp only [List.length_cons, List.length_nil]; omega) (by simp [Value.oneCell']) ?_
  intro w8 z8 p8
  have p8 : Hp nz wz S4 w8 ((some b8, .row 25 ((U4 y6.1 []) : List Value) 4 0) :: (some gx0, .row 69 [.string y4.2.s, .i (wr .i64 (y4.2.at_ + 1)), .i y4.2.deep, uga] 4 0) :: (some b2, .row 127 (U4 y6.1 [.int .u8 0, .bool false]) 6 0) :: Lr) := p8
  refine Goes.rn 1 [] Jlq ?_
  obtain rfl := Option.some.inj h
  have p8 := p8.dp 0
  have p8 := (p8.fr 0).fr 1
  exact Goes.ret (fn := Tryd.f93) (by kernel_rfl) (v := (ag (U4 y6.1 [.int .u8 0, .bool false]))) (results_n1 (fn := Tryd.f93) (a := .cell 2 127) (by kernel_rfl) (resV_cell ⟨b2, 0, none⟩ (by kernel_rfl) (run_loadN (U4 y6.1 [.int .u8 0, .bool false]) (by kernel_rfl) (by kernel_rfl) (p8.pa 0 0)))) ⟨S4, uga, rfl, ((((((((Ext.refl S0 w0).trans z2).trans z3).trans z4).trans z5).trans z6).trans z7).trans z8), p8.drop, l12, (ugb.ext ((((z4.trans z5).trans z6).trans z7).trans z8))⟩
 ·
  have u82 : y6.2 = false := by simpa using h11
  rw [u82]
  refine Goes.rn 10 [(26, .int .u8 y4.1), (27, .bool (decide (y4.1 = 120))), (25, .bool (decide (y4.1 = 120)))] Jlt ?_
  refine ite_some h (fun h13 h => ?_) (fun h13 h => ?_)
  ·
   rw [decide_eq_true h13]
   refine Goes.rn 6 [(28, (pt gx0 0)), (29, (pt gx0 0)), (30, (pt gx0 1))] Jlv ?_
   refine Goes.ld 3 (.tmp 30) 31 3 ⟨gx0, 1, none⟩ (.i y4.2.at_) (p6.c 1 1) ?_
   refine Goes.rn 3 [(32, .i (wr .i64 (y4.2.at_ + 1))), (33, (pt gx0 0)), (34, (pt gx0 1))] Jlw ?_
   refine Op_.st 3 (.tmp 34) (.tmp 32) 0 1 gx0 1 (.i (wr .i64 (y4.2.at_ + 1))) [.i (wr .i64 (y4.2.at_ + 1))] p6 rfl Goes.s (by kernel_rfl) (by kernel_rfl) (by kernel_rfl) (by kernel_rfl) (Nat.zero_le _) (by simp only [List.length_cons, List.length_nil]; omega) (by simp [Value.oneCell']) ?_
   intro w9 z9 p9
   have p9 : Hp nz wz S4 w9 ((some b8, .row 25 ugc 4 0) :: (some gx0, .row 69 [.string y4.2.s, .i (wr .i64 (y4.2.at_ + 1)), .i y4.2.deep, uga] 4 0) :: (some b2, .row 127 [.u 0, .u 0, .u 0, .u 0, .int .u8 0, .bool false] 6 0) :: Lr) := p9
   refine Goes.rn 4 [(35, (pt gx0 0))] Jly ?_
   have p9 := p9.fr 1
   refine bind_some' h fun y14 e15 h => ?_
   refine Goes.cal (kc 104 [35] #[66]) 36 5 104 _ (W.z2x (⟨y4.2.s, wr .i64 (y4.2.at_ + 1), y4.2.deep, y4.2.bad⟩ : T68) y14 e15 gx0 uga p9 (ugb.ext (((z4.trans z5).trans z6).trans z9))) ?_
   rintro _ w10 ⟨S10, ugf, rfl, z10, p10, ugg⟩
   have p10 := p10.dp 1
   refine Goes.rn 5 [(6, .int .u8 y14.1), (37, (pt gx0 0))] Jm0 ?_
   refine bind_some' h fun y16 e17 h => ?_
   refine Goes.cal (kc 104 [37] #[66]) 38 5 104 _ (W.z2x y14.2 y16 e17 gx0 ugf p10 ugg) ?_
   rintro _ w11 ⟨S11, ugh, rfl, z11, p11, ugi⟩
   refine Goes.rn 8 [(7, .int .u8 y16.1), (39, .int .u8 y14.1), (40, .int .u8 (ishl .u8 y14.1 4)), (41, .int .u8 y16.1), (42, .int .u8 (ior .u8 (ishl .u8 y14.1 4) y16.1))] Jm2 ?_
   refine bind_some' h fun y18 e19 h => ?_
   refine Goes.cal (kc 105 [42] #[5]) 43 127 105 _ (W.z2y (ior .u8 (ishl .u8 y14.1 4) y16.1) y18 e19  p11 ) ?_
   rintro _ w12 ⟨S12, rfl, z12, p12, ugj⟩
   refine Op_.st 127 (.tmp 2) (.tmp 43) 0 1 b2 0 (ag (U4 y18.set_ [.int .u8 y18.b, .bool y18.single])) (U4 y18.set_ [.int .u8 y18.b, .bool y18.single]) p12 rfl Goes.s (by kernel_rfl) (by kernel_rfl) (by kernel_rfl) (by kernel_rfl) (Nat.zero_le _) (by simp only [List.length_cons, List.length_nil]; omega) (by simp [Value.oneCell']) ?_
   intro w13 z13 p13
   have p13 : Hp nz wz S12 w13 ((some gx0, .row 69 [.string y16.2.s, .i y16.2.at_, .i y16.2.deep, ugh] 4 0) :: (some b2, .row 127 (U4 y18.set_ [.int .u8 y18.b, .bool y18.single]) 6 0) :: Lr) := p13
   refine Goes.rn 1 [] Jm1 ?_
   obtain rfl := Option.some.inj h
   have p13 := (p13.fr 0).fr 1
   exact Goes.ret (fn := Tryd.f93) (by kernel_rfl) (v := (ag (U4 y18.set_ [.int .u8 y18.b, .bool y18.single]))) (results_n1 (fn := Tryd.f93) (a := .cell 2 127) (by kernel_rfl) (resV_cell ⟨b2, 0, none⟩ (by kernel_rfl) (run_loadN (U4 y18.set_ [.int .u8 y18.b, .bool y18.single]) (by kernel_rfl) (by kernel_rfl) (p13.pa 0 0)))) ⟨S12, ugh, rfl, (((((((((((Ext.refl S0 w0).trans z2).trans z3).trans z4).trans z5).trans z6).trans z9).trans z10).trans z11).trans z12).trans z13), p13.drop, ugj, (ugi.ext (z12.trans z13))⟩
  ·
   rw [decide_eq_false h13]
   refine Goes.rn 7 [(45, .int .u8 y4.1), (46, .bool (decide (y4.1 = 110))), (44, .bool (decide (y4.1 = 110)))] Jm3 ?_
   refine ite_some h (fun h20 h => ?_) (fun h20 h => ?_)
   ·
    rw [decide_eq_true h20]
    refine Goes.rn 6 [(47, (pt gx0 0)), (48, (pt gx0 0)), (49, (pt gx0 1))] Jm5 ?_
    refine Goes.ld 3 (.tmp 49) 50 3 ⟨gx0, 1, none⟩ (.i y4.2.at_) (p6.c 1 1) ?_
    refine Goes.rn 3 [(51, .i (wr .i64 (y4.2.at_ + 1))), (52, (pt gx0 0)), (53, (pt gx0 1))] Jm6 ?_
    refine Op_.st 3 (.tmp 53) (.tmp 51) 0 1 gx0 1 (.i (wr .i64 (y4.2.at_ + 1))) [.i (wr .i64 (y4.2.at_ + 1))] p6 rfl Goes.s (by kernel_rfl) (by kernel_rfl) (by kernel_rfl) (by kernel_rfl) (Nat.zero_le _) (by simp only [List.length_cons, List.length_nil]; omega) (by simp [Value.oneCell']) ?_
    intro w14 z14 p14
    have p14 : Hp nz wz S4 w14 ((some b8, .row 25 ugc 4 0) :: (some gx0, .row 69 [.string y4.2.s, .i (wr .i64 (y4.2.at_ + 1)), .i y4.2.deep, uga] 4 0) :: (some b2, .row 127 [.u 0, .u 0, .u 0, .u 0, .int .u8 0, .bool false] 6 0) :: Lr) := p14
    refine Goes.rn 3 [] Jm8 ?_
    refine bind_some' h fun y21 e22 h => ?_
    refine Goes.cal (.call { callee := .value (.func 105), args := #[(.const (.int .u8 10))], argTypes := #[5] }) 54 127 105 _ (W.z2y 10 y21 e22  p14 ) ?_
    rintro _ w15 ⟨S15, rfl, z15, p15, ugk⟩
    have p15 := p15.dp 0
    refine Op_.st 127 (.tmp 2) (.tmp 54) 0 1 b2 0 (ag (U4 y21.set_ [.int .u8 y21.b, .bool y21.single])) (U4 y21.set_ [.int .u8 y21.b, .bool y21.single]) p15 rfl Goes.s (by kernel_rfl) (by kernel_rfl) (by kernel_rfl) (by kernel_rfl) (Nat.zero_le _) (by simp only [List.length_cons, List.length_nil]; omega) (by simp [Value.oneCell']) ?_
    intro w16 z16 p16
    have p16 : Hp nz wz S15 w16 ((some gx0, .row 69 [.string y4.2.s, .i (wr .i64 (y4.2.at_ + 1)), .i y4.2.deep, uga] 4 0) :: (some b2, .row 127 (U4 y21.set_ [.int .u8 y21.b, .bool y21.single]) 6 0) :: Lr) := p16
    refine Goes.rn 1 [] Jm7 ?_
    obtain rfl := Option.some.inj h
    have p16 := (p16.fr 0).fr 1
    exact Goes.ret (fn := Tryd.f93) (by kernel_rfl) (v := (ag (U4 y21.set_ [.int .u8 y21.b, .bool y21.single]))) (results_n1 (fn := Tryd.f93) (a := .cell 2 127) (by kernel_rfl) (resV_cell ⟨b2, 0, none⟩ (by kernel_rfl) (run_loadN (U4 y21.set_ [.int .u8 y21.b, .bool y21.single]) (by kernel_rfl) (by kernel_rfl) (p16.pa 0 0)))) ⟨S15, uga, rfl, (((((((((Ext.refl S0 w0).trans z2).trans z3).trans z4).trans z5).trans z6).trans z14).trans z15).trans z16), p16.drop, ugk, (ugb.ext (((((z4.trans z5).trans z6).trans z14).trans z15).trans z16))⟩
   ·
    rw [decide_eq_false h20]
    refine Goes.rn 7 [(56, .int .u8 y4.1), (57, .bool (decide (y4.1 = 116))), (55, .bool (decide (y4.1 = 116)))] Jm9 ?_
    refine ite_some h (fun h23 h => ?_) (fun h23 h => ?_)
    ·
     rw [decide_eq_true h23]
     refine Goes.rn 6 [(58, (pt gx0 0)), (59, (pt gx0 0)), (60, (pt gx0 1))] Jmb ?_
     refine Goes.ld 3 (.tmp 60) 61 3 ⟨gx0, 1, none⟩ (.i y4.2.at_) (p6.c 1 1) ?_
     refine Goes.rn 3 [(62, .i (wr .i64 (y4.2.at_ + 1))), (63, (pt gx0 0)), (64, (pt gx0 1))] Jmc ?_
     refine Op_.st 3 (.tmp 64) (.tmp 62) 0 1 gx0 1 (.i (wr .i64 (y4.2.at_ + 1))) [.i (wr .i64 (y4.2.at_ + 1))] p6 rfl Goes.s (by kernel_rfl) (by kernel_rfl) (by kernel_rfl) (by kernel_rfl) (Nat.zero_le _) (by simp only [List.length_cons, List.length_nil]; omega) (by simp [Value.oneCell']) ?_
     intro w17 z17 p17
     have p17 : Hp nz wz S4 w17 ((some b8, .row 25 ugc 4 0) :: (some gx0, .row 69 [.string y4.2.s, .i (wr .i64 (y4.2.at_ + 1)), .i y4.2.deep, uga] 4 0) :: (some b2, .row 127 [.u 0, .u 0, .u 0, .u 0, .int .u8 0, .bool false] 6 0) :: Lr) := p17
     refine Goes.rn 3 [] Jme ?_
     refine bind_some' h fun y24 e25 h => ?_
     refine Goes.cal (.call { callee := .value (.func 105), args := #[(.const (.int .u8 9))], argTypes := #[5] }) 65 127 105 _ (W.z2y 9 y24 e25  p17 ) ?_
     rintro _ w18 ⟨S18, rfl, z18, p18, ugl⟩
     have p18 := p18.dp 0
     refine Op_.st 127 (.tmp 2) (.tmp 65) 0 1 b2 0 (ag (U4 y24.set_ [.int .u8 y24.b, .bool y24.single])) (U4 y24.set_ [.int .u8 y24.b, .bool y24.single]) p18 rfl Goes.s (by kernel_rfl) (by kernel_rfl) (by kernel_rfl) (by kernel_rfl) (Nat.zero_le _) (by simp only [List.length_cons, List.length_nil]; omega) (by simp [Value.oneCell']) ?_
     intro w19 z19 p19
     have p19 : Hp nz wz S18 w19 ((some gx0, .row 69 [.string y4.2.s, .i (wr .i64 (y4.2.at_ + 1)), .i y4.2.deep, uga] 4 0) :: (some b2, .row 127 (U4 y24.set_ [.int .u8 y24.b, .bool y24.single]) 6 0) :: Lr) := p19
     refine Goes.rn 1 [] Jmd ?_
     obtain rfl := Option.some.inj h
     have p19 := (p19.fr 0).fr 1
     exact Goes.ret (fn := Tryd.f93) (by kernel_rfl) (v := (ag (U4 y24.set_ [.int .u8 y24.b, .bool y24.single]))) (results_n1 (fn := Tryd.f93) (a := .cell 2 127) (by kernel_rfl) (resV_cell ⟨b2, 0, none⟩ (by kernel_rfl) (run_loadN (U4 y24.set_ [.int .u8 y24.b, .bool y24.single]) (by kernel_rfl) (by kernel_rfl) (p19.pa 0 0)))) ⟨S18, uga, rfl, (((((((((Ext.refl S0 w0).trans z2).trans z3).trans z4).trans z5).trans z6).trans z17).trans z18).trans z19), p19.drop, ugl, (ugb.ext (((((z4.trans z5).trans z6).trans z17).trans z18).trans z19))⟩
    ·
     rw [decide_eq_false h23]
     refine Goes.rn 6 [(67, .int .u8 y4.1), (68, .bool (decide (y4.1 = 0))), (69, .bool (decide (y4.1 = 0)))] Jmf ?_
     refine ite_some h (fun h26 h => ?_) (fun h26 h => ?_)
     ·
      rw [decide_eq_true h26]
      refine Goes.rn 6 [(70, undef), (71, undef), (72, undef), (73, .bool true), (66, .bool true)] Jl4 ?_
      have p6 := p6.dp 0
      have p6 := (p6.fr 0).fr 1
      exact Goes.jp 90 [(0, (pt gx0 0)), (2, (pt b2 0)), (3, .int .u8 y4.1), (66, .bool true)] (W.z30 gx0 _ _ h _ _ ((((((Ext.refl S0 w0).trans z2).trans z3).trans z4).trans z5).trans z6) b2 uga p6 rfl (ugb.ext ((z4.trans z5).trans z6)))
     ·
      rw [decide_eq_false h26]
      refine Goes.rn 1 [(70, .int .u8 y4.1)] Jmg ?_
      refine bind_some' h fun y28 e29 h => ?_
      refine Goes.cal (.call { callee := .value (.func 45), args := #[(.const (.string ⟨#[92, 46, 91, 93, 40, 41, 42, 43, 63, 123, 125, 94, 36, 45, 47, 124]⟩)), (.tmp 70)], argTypes := #[9, 5] }) 71 3 45 _ (W.z2v (⟨#[92, 46, 91, 93, 40, 41, 42, 43, 63, 123, 125, 94, 36, 45, 47, 124]⟩ : ByteArray) y4.1 y28 e29  p6 ) ?_
      rintro _ w20 ⟨S20, rfl, z20, p20⟩
      have p20 := p20.dp 0
      refine Goes.rn 4 [(72, .bool (decide (y28 < 0))), (73, .bool (decide (y28 < 0))), (66, .bool (decide (y28 < 0)))] Jl4 ?_
      have p20 := (p20.fr 0).fr 1
      exact Goes.jp 90 [(0, (pt gx0 0)), (2, (pt b2 0)), (3, .int .u8 y4.1), (66, .bool (decide (y28 < 0)))] (W.z30 gx0 _ _ h _ _ (((((((Ext.refl S0 w0).trans z2).trans z3).trans z4).trans z5).trans z6).trans z20) b2 uga p20 rfl (ugb.ext (((z4.trans z5).trans z6).trans z20)))

def Qh2 := sub [1, 1, 1] B120
def Jmh : List Item := [.code Qh2]
def Jmi : List Item := .inBlock 0 :: Jmh
def Qh3 := sub [1, 1, 0, 0, 1, 1, 1] B120
def Jmj : List Item := .code Qh3 :: Jmi
def Qh4 := sub [1, 1, 0, 0, 1, 1, 1, 0, 1] B120
def Jmk : List Item := .code Qh4 :: Jmi
def Qh5 := sub [1, 1, 0, 0, 1, 1, 1, 0, 0] B120
def Jml : List Item := .inRegion (opsOf Qh5) [4, 5] :: Jmk
def Qh6 := sub [1, 1, 0, 0, 1, 1, 1, 0, 1, 1] B120
def Jmm : List Item := .code Qh6 :: Jmi
def Qh7 := sub [1, 1, 0, 0, 1, 1, 1, 0, 1, 0] B120
def Jmn : List Item := .inRegion (opsOf Qh7) [1] :: Jmm
def Qh8 := sub [1, 1, 1, 1] B120
def Jmo : List Item := [.code Qh8]
def Qh9 := sub [1, 1, 1, 0] B120
def Jmp : List Item := .inRegion (opsOf Qh9) [3, 4, 5, 6, 7] :: Jmo
def Jmq : List Item := .inRegion (opsOf Qh9) [7] :: Jmo
def Qha := sub [1, 1, 1, 1, 1] B120
def Jmr : List Item := [.code Qha]
def Qhb := sub [1, 1, 1, 1, 0] B120
def Jms : List Item := .inRegion (opsOf Qhb) [1, 2] :: Jmr

def Post.z31 (gx0 : Nat) (r : T126 × T68) (v : Value) (w' : World) : Prop :=
 ∃ S' uds, v = (ag (U4 r.1.set_ [.int .u8 r.1.b, .bool r.1.single])) ∧ Ext S0 w0 S' w' ∧ Hp nz wz S' w' ((some gx0, .row 69 [.string r.2.s, .i r.2.at_, .i r.2.deep, uds] 4 0) :: Lr) ∧ r.1.set_.length = 4 ∧ PtO kT72 S' w' uds r.2.bad

def L.z32 (gx0 : Nat) : T126 × Int × Bool × T68 → (T126 × T68) → Prop := fun ⟨x2v, x3, x11, e0v⟩ r => ∀ S1 w1, Ext S0 w0 S1 w1 → ∀ gx2 uds (_ : Hp nz wz S1 w1 ((some gx2, .row 127 (U4 x2v.set_ [.int .u8 x2v.b, .bool x2v.single]) 6 0) :: (some gx0, .row 69 [.string e0v.s, .i e0v.at_, .i e0v.deep, uds] 4 0) :: Lr)) (_ : x2v.set_.length = 4) (_ : PtO kT72 S1 w1 uds e0v.bad) (junk : Nat → Value),
 Goes Tryd.prog (base 120) Jmj ⟨lfr 39 [(0, (pt gx0 0)), (2, (pt gx2 0)), (3, .int .u8 x3), (11, .bool x11)] junk, []⟩ w1 (Done Tryd.prog 120 (Rets (Post.z31 nz wz S0 w0 Lr gx0 r)))

theorem W.z32 {nz wz S0 w0 Lr} [Gw nz wz] (gx0 : Nat) : ∀ a r, M.syntax_parser_item_l0 a = some r → L.z32 nz wz S0 w0 Lr gx0 a r := by
 intro ⟨x2v, x3, x11, e0v⟩ r h S1 w1 hx gx2 uds p1 ue2 udt junk
 rw [M.syntax_parser_item_l0] at h
 try dsimp only at h
 refine ite_some h (fun h16 h => ?_) (fun h16 h => ?_)
 ·
  rw [h16]
  refine Goes.rn 7 [(23, (pt gx0 0)), (24, (pt gx0 0)), (25, (pt gx0 0)), (26, (pt gx0 1))] Jml ?_
  refine Goes.ld 3 (.tmp 26) 27 3 ⟨gx0, 1, none⟩ (.i e0v.at_) (p1.c 1 1) ?_
  have p1 := p1.fr 1
  refine bind_some' h fun y17 e18 h => ?_
  refine Goes.cal (kc 31 [23, 27] #[66, 3]) 28 28 31 _ (W.z2f e0v e0v.at_ y17 e18 gx0 uds p1 udt) ?_
  rintro _ w8 ⟨S8, ugm, ugn, ugo, ugp, rfl, z8, p8, ugq, ugr, rfl, ugs⟩
  refine Goes.rn 4 [(29, .agg #[.u 0, .u 0, .u 0, .u 0, .int .u8 0, .bool false])] Jmn ?_
  refine Op_.st 127 (.tmp 2) (.tmp 29) 0 1 gx2 0 (.agg #[.u 0, .u 0, .u 0, .u 0, .int .u8 0, .bool false]) [.u 0, .u 0, .u 0, .u 0, .int .u8 0, .bool false] p8 rfl Goes.s (by kernel_rfl) (by kernel_rfl) (by kernel_rfl) (by kernel_rfl) (Nat.zero_le _) (by simp only [List.length_cons, List.length_nil]; omega) (by simp [Value.oneCell']) ?_
  intro w9 z9 p9
  have p9 : Hp nz wz S8 w9 ((some gx0, .row 69 [.string y17.2.s, .i y17.2.at_, .i y17.2.deep, ugp] 4 0) :: (some gx2, .row 127 [.u 0, .u 0, .u 0, .u 0, .int .u8 0, .bool false] 6 0) :: Lr) := p9
  refine Goes.rn 1 [] Jmm ?_
  obtain rfl := Option.some.inj h
  have p9 := (p9.fr 0).fr 1
  exact Goes.ret (fn := Tryd.f120) (by kernel_rfl) (v := .agg #[.u 0, .u 0, .u 0, .u 0, .int .u8 0, .bool false]) (results_n1 (fn := Tryd.f120) (a := .cell 2 127) (by kernel_rfl) (resV_cell ⟨gx2, 0, none⟩ (by kernel_rfl) (run_loadN [.u 0, .u 0, .u 0, .u 0, .int .u8 0, .bool false] (by kernel_rfl) (by kernel_rfl) (p9.pa 0 0)))) ⟨S8, ugp, rfl, ((hx.trans z8).trans z9), p9.drop, rfl, (ugs.ext z9)⟩
 ·
  have ugt : x11 = false := by simpa using h16
  rw [ugt]
  refine Goes.rn 8 [(30, (pt gx0 0)), (31, (pt gx0 0)), (32, (pt gx0 1))] Jmp ?_
  refine Goes.ld 3 (.tmp 32) 33 3 ⟨gx0, 1, none⟩ (.i e0v.at_) (p1.c 1 1) ?_
  refine Goes.rn 3 [(34, .i (wr .i64 (e0v.at_ + 1))), (35, (pt gx0 0)), (36, (pt gx0 1))] Jmq ?_
  refine Op_.st 3 (.tmp 36) (.tmp 34) 0 1 gx0 1 (.i (wr .i64 (e0v.at_ + 1))) [.i (wr .i64 (e0v.at_ + 1))] p1 rfl Goes.s (by kernel_rfl) (by kernel_rfl) (by kernel_rfl) (by kernel_rfl) (Nat.zero_le _) (by simp only [List.length_cons, List.length_nil]; omega) (by simp [Value.oneCell']) ?_
  intro w10 z10 p10
  have p10 : Hp nz wz S1 w10 ((some gx2, .row 127 (U4 x2v.set_ [.int .u8 x2v.b, .bool x2v.single]) 6 0) :: (some gx0, .row 69 [.string e0v.s, .i (wr .i64 (e0v.at_ + 1)), .i e0v.deep, uds] 4 0) :: Lr) := p10
  refine Goes.rn 4 [(37, .int .u8 x3)] Jms ?_
  refine bind_some' h fun y19 e20 h => ?_
  refine Goes.cal (kc 105 [37] #[5]) 38 127 105 _ (W.z2y x3 y19 e20  p10 ) ?_
  rintro _ w11 ⟨S11, rfl, z11, p11, ugu⟩
  refine Op_.st 127 (.tmp 2) (.tmp 38) 0 0 gx2 0 (ag (U4 y19.set_ [.int .u8 y19.b, .bool y19.single])) (U4 y19.set_ [.int .u8 y19.b, .bool y19.single]) p11 rfl Goes.s (by kernel_rfl) (by kernel_rfl) (by kernel_rfl) (by kernel_rfl) (Nat.zero_le _) (by simp only [List.length_cons, List.length_nil]; omega) (by simp [Value.oneCell']) ?_
  intro w12 z12 p12
  have p12 : Hp nz wz S11 w12 ((some gx2, .row 127 (U4 y19.set_ [.int .u8 y19.b, .bool y19.single]) 6 0) :: (some gx0, .row 69 [.string e0v.s, .i (wr .i64 (e0v.at_ + 1)), .i e0v.deep, uds] 4 0) :: Lr) := p12
  refine Goes.rn 1 [] Jmr ?_
  obtain rfl := Option.some.inj h
  exact Goes.ret (fn := Tryd.f120) (by kernel_rfl) (v := (ag (U4 y19.set_ [.int .u8 y19.b, .bool y19.single]))) (results_n1 (fn := Tryd.f120) (a := .cell 2 127) (by kernel_rfl) (resV_cell ⟨gx2, 0, none⟩ (by kernel_rfl) (run_loadN (U4 y19.set_ [.int .u8 y19.b, .bool y19.single]) (by kernel_rfl) (by kernel_rfl) (p12.pa 0 0)))) ⟨S11, uds, rfl, (((hx.trans z10).trans z11).trans z12), p12.drop, ugu, (udt.ext ((z10.trans z11).trans z12))⟩

def Qhc := sub [1] B120
def Jmt : List Item := [.code Qhc]
def Qhd := sub [0] B120
def Jmu : List Item := .inRegion (opsOf Qhd) [0] :: Jmt
def Qhe := sub [1, 1] B120
def Jmv : List Item := [.code Qhe]
def Qhf := sub [1, 0] B120
def Jmw : List Item := .inRegion (opsOf Qhf) [1, 2] :: Jmv
def Qhg := sub [1, 1, 0, 0, 1] B120
def Jmx : List Item := .code Qhg :: Jmi
def Qhh := sub [1, 1, 0, 0, 0] B120
def Jmy : List Item := .inRegion (opsOf Qhh) [1, 2] :: Jmx
def Qhi := sub [1, 1, 0, 0, 1, 0, 1] B120
def Jmz : List Item := .code Qhi :: Jmi
def Qhj := sub [1, 1, 0, 0, 1, 0, 0] B120
def Jn0 : List Item := .inRegion (opsOf Qhj) [1, 2] :: Jmz
def Qhk := sub [1, 1, 0, 0, 1, 1, 0] B120
def Jn1 : List Item := .inRegion (opsOf Qhk) [3, 4, 5, 6, 7, 8, 9, 10, 11] :: Jmj
def Jn2 : List Item := .inRegion (opsOf Qhk) [7, 8, 9, 10, 11] :: Jmj
def Jn3 : List Item := .inRegion (opsOf Qhk) [8, 9, 10, 11] :: Jmj

theorem W.z31 (x0v : T68) (r : T126 × T68) (h : M.syntax_parser_item x0v = some r) {nz wz S0 w0 Lr} [Gw nz wz] (gx0 udu) (p0 : Hp nz wz S0 w0 ((some gx0, .row 69 [.string x0v.s, .i x0v.at_, .i x0v.deep, udu] 4 0) :: Lr)) (udv : PtO kT72 S0 w0 udu x0v.bad) :
  Calls Tryd.prog 120 #[(pt gx0 0)] w0 (Rets (Post.z31 nz wz S0 w0 Lr gx0 r)) := by
 refine calls_of_goes (fn := Tryd.f120) (c := B120) (by kernel_rfl) (by kernel_rfl) 38 (by kernel_rfl) ?_
 refine Goes.jp 39 [(0, (pt gx0 0))] (fun junk => ?_)
 delta M.syntax_parser_item at h
 refine Goes.rn 2 [] Jmu ?_
 refine Op_.alloc 127 2 0 (.agg #[.u 0, .u 0, .u 0, .u 0, .int .u8 0, .bool false]) [.u 0, .u 0, .u 0, .u 0, .int .u8 0, .bool false] p0 Goes.v (by kernel_rfl) (by kernel_rfl) ?_
 intro b2 w2 z2 p2
 refine Goes.rn 4 [(4, (pt gx0 0))] Jmw ?_
 have p2 := p2.fr 1
 refine bind_some' h fun y4 e5 h => ?_
 refine Goes.cal (kc 65 [4] #[66]) 5 5 65 _ (W.z2d x0v y4 e5 gx0 udu p2 (udv.ext z2)) ?_
 rintro _ w3 ⟨S3, uga, rfl, z3, p3, ugb⟩
 refine Goes.rn 7 [(3, .int .u8 y4.1), (7, (pt gx0 0))] Jmy ?_
 refine bind_some' h fun y6 e7 h => ?_
 refine Goes.cal (.call { callee := .value (.func 48), args := #[(.tmp 7), (.const (.int .u8 92))], argTypes := #[66, 5] }) 8 4 48 _ (W.z2g y4.2 92 y6 e7 gx0 uga p3 ugb) ?_
 rintro _ w4 ⟨S4, ufu, rfl, z4, p4, ufx⟩
 refine Goes.rn 2 [(6, .bool y6.1)] Jmx ?_
 refine ite_some h (fun h8 h => ?_) (fun h8 h => ?_)
 ·
  rw [h8]
  refine Goes.rn 4 [(9, (pt gx0 0))] Jn0 ?_
  refine bind_some' h fun y9 e10 h => ?_
  refine Goes.cal (kc 93 [9] #[66]) 10 127 93 _ (W.z2z y6.2 y9 e10 gx0 ufu p4 ufx) ?_
  rintro _ w5 ⟨S5, ugv, rfl, z5, p5, ugw, ugx⟩
  refine Op_.st 127 (.tmp 2) (.tmp 10) 0 1 b2 0 (ag (U4 y9.1.set_ [.int .u8 y9.1.b, .bool y9.1.single])) (U4 y9.1.set_ [.int .u8 y9.1.b, .bool y9.1.single]) p5 rfl Goes.s (by kernel_rfl) (by kernel_rfl) (by kernel_rfl) (by kernel_rfl) (Nat.zero_le _) (by simp only [List.length_cons, List.length_nil]; omega) (by simp [Value.oneCell']) ?_
  intro w6 z6 p6
  have p6 : Hp nz wz S5 w6 ((some gx0, .row 69 [.string y9.2.s, .i y9.2.at_, .i y9.2.deep, ugv] 4 0) :: (some b2, .row 127 (U4 y9.1.set_ [.int .u8 y9.1.b, .bool y9.1.single]) 6 0) :: Lr) := p6
  refine Goes.rn 1 [] Jmz ?_
  obtain rfl := Option.some.inj h
  have p6 := (p6.fr 0).fr 1
  exact Goes.ret (fn := Tryd.f120) (by kernel_rfl) (v := (ag (U4 y9.1.set_ [.int .u8 y9.1.b, .bool y9.1.single]))) (results_n1 (fn := Tryd.f120) (a := .cell 2 127) (by kernel_rfl) (resV_cell ⟨b2, 0, none⟩ (by kernel_rfl) (run_loadN (U4 y9.1.set_ [.int .u8 y9.1.b, .bool y9.1.single]) (by kernel_rfl) (by kernel_rfl) (p6.pa 0 0)))) ⟨S5, ugv, rfl, ((((((Ext.refl S0 w0).trans z2).trans z3).trans z4).trans z5).trans z6), p6.drop, ugw, (ugx.ext z6)⟩
 ·
  have h8' : y6.1 = false := by simpa using h8
  rw [h8']
  refine Goes.rn 6 [(12, .int .u8 y4.1), (13, .bool (decide (y4.1 < 32))), (14, .bool (decide (y4.1 < 32)))] Jn1 ?_
  refine ite_some h (fun h11 h => ?_) (fun h11 h => ?_)
  ·
   rw [decide_eq_true h11]
   refine Goes.rn 10 [(15, undef), (16, undef), (17, .bool true), (18, .bool true), (19, undef), (20, undef), (21, undef), (22, .bool true), (11, .bool true)] Jmj ?_
   have p4 := (p4.fr 0).fr 1
   exact Goes.jp 39 [(0, (pt gx0 0)), (2, (pt b2 0)), (3, .int .u8 y4.1), (11, .bool true)] (W.z32 gx0 _ _ h _ _ ((((Ext.refl S0 w0).trans z2).trans z3).trans z4) b2 ufu p4 rfl ufx)
  ·
   rw [decide_eq_false h11]
   refine Goes.rn 4 [(15, .int .u8 y4.1), (16, .bool (decide (y4.1 > 126))), (17, .bool (decide (y4.1 > 126))), (18, .bool (decide (y4.1 > 126)))] Jn2 ?_
   refine ite_some h (fun h13 h => ?_) (fun h13 h => ?_)
   ·
    rw [decide_eq_true h13]
    refine Goes.rn 6 [(19, undef), (20, undef), (21, undef), (22, .bool true), (11, .bool true)] Jmj ?_
    have p4 := (p4.fr 0).fr 1
    exact Goes.jp 39 [(0, (pt gx0 0)), (2, (pt b2 0)), (3, .int .u8 y4.1), (11, .bool true)] (W.z32 gx0 _ _ h _ _ ((((Ext.refl S0 w0).trans z2).trans z3).trans z4) b2 ufu p4 rfl ufx)
   ·
    rw [decide_eq_false h13]
    refine Goes.rn 1 [(19, .int .u8 y4.1)] Jn3 ?_
    refine bind_some' h fun y14 e15 h => ?_
    refine Goes.cal (.call { callee := .value (.func 45), args := #[(.const (.string ⟨#[93, 91, 45]⟩)), (.tmp 19)], argTypes := #[9, 5] }) 20 3 45 _ (W.z2v (⟨#[93, 91, 45]⟩ : ByteArray) y4.1 y14 e15  p4 ) ?_
    rintro _ w7 ⟨S7, rfl, z7, p7⟩
    refine Goes.rn 4 [(21, .bool (decide (y14 ≥ 0))), (22, .bool (decide (y14 ≥ 0))), (11, .bool (decide (y14 ≥ 0)))] Jmj ?_
    have p7 := (p7.fr 0).fr 1
    exact Goes.jp 39 [(0, (pt gx0 0)), (2, (pt b2 0)), (3, .int .u8 y4.1), (11, .bool (decide (y14 ≥ 0)))] (W.z32 gx0 _ _ h _ _ (((((Ext.refl S0 w0).trans z2).trans z3).trans z4).trans z7) b2 ufu p7 rfl (ufx.ext z7))

def Qhl := sub [1, 1, 1, 1, 1, 1, 1, 1, 1] B112
def Jn4 : List Item := [.code Qhl]
def Jn5 : List Item := .inBlock 0 :: Jn4
def Qhm := sub [1, 1, 1, 1, 1, 1, 1, 1, 0, 0, 1] B112
def Jn6 : List Item := .code Qhm :: Jn5
def Qhn := sub [1, 1, 1, 1, 1, 1, 1, 1, 1, 1] B112
def Jn7 : List Item := [.code Qhn]
def Qho := sub [1, 1, 1, 1, 1, 1, 1, 1, 1, 0] B112
def Jn8 : List Item := .inRegion (opsOf Qho) [1, 2] :: Jn7
def Qhp := sub [1, 1, 1, 1, 1, 1, 1, 1, 0, 0, 1, 1, 1] B112
def Jn9 : List Item := .code Qhp :: Jn5
def Qhq := sub [1, 1, 1, 1, 1, 1, 1, 1, 0, 0, 1, 1, 0] B112
def Jna : List Item := .inRegion (opsOf Qhq) [1, 2, 3] :: Jn9
def Qhr := sub [1, 1, 1, 1, 1, 1, 1, 1, 0, 0, 1, 1, 1, 1, 1] B112
def Jnb : List Item := .code Qhr :: Jn5
def Qhs := sub [1, 1, 1, 1, 1, 1, 1, 1, 0, 0, 1, 1, 1, 1, 0] B112
def Jnc : List Item := .inRegion (opsOf Qhs) [1, 2, 3, 4, 5] :: Jnb
def Jnd : List Item := .inRegion (opsOf Qhs) [3, 4, 5] :: Jnb
def Qht := sub [1, 1, 1, 1, 1, 1, 1, 1, 0, 0, 1, 1, 1, 1, 1, 0] B112
def Jne : List Item := .inRegion (opsOf Qht) [2] :: Jn5
def Qhu := sub [1, 1, 1, 1, 1, 1, 1, 1, 0, 0, 1, 1, 1, 1, 1, 1, 1] B112
def Jnf : List Item := .code Qhu :: Jn5
def Qhv := sub [1, 1, 1, 1, 1, 1, 1, 1, 0, 0, 1, 1, 1, 1, 1, 1, 0] B112
def Jng : List Item := .inRegion (opsOf Qhv) [1, 2, 3, 4, 5] :: Jnf
def Jnh : List Item := .inRegion (opsOf Qhv) [3, 4, 5] :: Jnf
def Qhw := sub [1, 1, 1, 1, 1, 1, 1, 1, 0, 0, 1, 1, 1, 0] B112
def Jni : List Item := .inRegion (opsOf Qhw) [3] :: Jn5

def Post.z33 (gx0 : Nat) (r : (List Int) × T68) (v : Value) (w' : World) : Prop :=
 ∃ S' vsq uds, v = .agg vsq.toArray ∧ Ext S0 w0 S' w' ∧ Hp nz wz S' w' ((some gx0, .row 69 [.string r.2.s, .i r.2.at_, .i r.2.deep, uds] 4 0) :: Lr) ∧ Els (kInt .u64) S' w' vsq r.1 ∧ vsq.length = 4 ∧ PtO kT72 S' w' uds r.2.bad

def L.z34 (gx0 : Nat) : (List Int) × Int × T126 × Int × T126 × Bool × T68 → ((List Int) × T68) → Prop := fun ⟨u4, x3, x4v, x5, x6v, x47, e0v⟩ r => ∀ S1 w1, Ext S0 w0 S1 w1 → ∀ gx2 gx4 gx6 uds (_ : Hp nz wz S1 w1 ((some gx2, .row 25 (U4 u4 []) 4 0) :: (some gx4, .row 127 (U4 x4v.set_ [.int .u8 x4v.b, .bool x4v.single]) 6 0) :: (some gx6, .row 127 (U4 x6v.set_ [.int .u8 x6v.b, .bool x6v.single]) 6 0) :: (some gx0, .row 69 [.string e0v.s, .i e0v.at_, .i e0v.deep, uds] 4 0) :: Lr)) (_ : u4.length = 4) (_ : x4v.set_.length = 4) (_ : x6v.set_.length = 4) (_ : PtO kT72 S1 w1 uds e0v.bad) (junk : Nat → Value),
 Goes Tryd.prog (base 112) Jn6 ⟨lfr 72 [(0, (pt gx0 0)), (2, (pt gx2 0)), (3, .i x3), (4, (pt gx4 0)), (5, .i x5), (6, (pt gx6 0)), (47, .bool x47)] junk, []⟩ w1 (Done Tryd.prog 112 (Rets (Post.z33 nz wz S0 w0 Lr gx0 r)))

theorem W.z34 {nz wz S0 w0 Lr} [Gw nz wz] (gx0 : Nat) : ∀ a r, M.syntax_parser_pair_l0 a = some r → L.z34 nz wz S0 w0 Lr gx0 a r := by
 intro ⟨u4, x3, x4v, x5, x6v, x47, e0v⟩ r h S1 w1 hx gx2 gx4 gx6 uds p1 ue2 uea ugy udt junk
 rw [M.syntax_parser_pair_l0] at h
 try dsimp only at h
 refine ite_some h (fun h28 h => ?_) (fun h28 h => ?_)
 ·
  rw [h28]
  refine Goes.rn 6 [(70, (pt gx4 0))] Jn8 ?_
  refine Goes.ldN 25 (.tmp 70) 71 25 ⟨gx4, 0, none⟩ (U4 x4v.set_ []) (p1.pa 1 0) ?_
  refine Op_.st 25 (.tmp 2) (.tmp 71) 0 0 gx2 0 (ag (U4 x4v.set_ [])) (U4 x4v.set_ []) p1 rfl Goes.s (by kernel_rfl) (by kernel_rfl) (by kernel_rfl) (by kernel_rfl) (Nat.zero_le _) (by simp only [List.length_cons, List.length_nil]; omega) (by simp [Value.oneCell']) ?_
  intro w14 z14 p14
  have p14 : Hp nz wz S1 w14 ((some gx2, .row 25 (U4 x4v.set_ []) 4 0) :: (some gx4, .row 127 (U4 x4v.set_ [.int .u8 x4v.b, .bool x4v.single]) 6 0) :: (some gx6, .row 127 (U4 x6v.set_ [.int .u8 x6v.b, .bool x6v.single]) 6 0) :: (some gx0, .row 69 [.string e0v.s, .i e0v.at_, .i e0v.deep, uds] 4 0) :: Lr) := p14
  refine Goes.rn 1 [] Jn7 ?_
  obtain rfl := Option.some.inj h
  have p14 := (p14.dp 1).dp 1
  exact Goes.ret (fn := Tryd.f112) (by kernel_rfl) (v := (ag (U4 x4v.set_ []))) (results_n1 (fn := Tryd.f112) (a := .cell 2 25) (by kernel_rfl) (resV_cell ⟨gx2, 0, none⟩ (by kernel_rfl) (run_loadN (U4 x4v.set_ []) (by kernel_rfl) (by kernel_rfl) (p14.pa 0 0)))) ⟨S1, ((U4 x4v.set_ []) : List Value), uds, rfl, (hx.trans z14), p14.drop, (els_mk4 (S := S1) (w := w14) (k := .u64) uea), rfl, (udt.ext z14)⟩
 ·
  have ugz : x47 = false := by simpa using h28
  rw [ugz]
  refine Goes.rn 4 [(54, (pt gx6 5))] Jna ?_
  refine Goes.ld 4 (.tmp 54) 55 4 ⟨gx6, 5, none⟩ (.bool x6v.single) (p1.c 2 5) ?_
  refine Goes.rn 3 [(56, .bool (!x6v.single)), (53, .bool (!x6v.single))] Jn9 ?_
  refine ite_some h (fun h29 h => ?_) (fun h29 h => ?_)
  ·
   rw [h29]
   have p1 : Hp nz wz S1 w1 ((some gx2, .row 25 (U4 u4 []) 4 0) :: (some gx4, .row 127 (U4 x4v.set_ [.int .u8 x4v.b, .bool x4v.single]) 6 0) :: (some gx6, .row 127 (U4 x6v.set_ [.int .u8 x6v.b, .bool true]) 6 0) :: (some gx0, .row 69 [.string e0v.s, .i e0v.at_, .i e0v.deep, uds] 4 0) :: Lr) := by simp only [h29] at p1; exact p1
   refine Goes.rn 4 [(62, (pt gx4 4))] Jnc ?_
   refine Goes.ld 5 (.tmp 62) 63 5 ⟨gx4, 4, none⟩ (.int .u8 x4v.b) (p1.c 1 4) ?_
   refine Goes.rn 1 [(64, (pt gx6 4))] Jnd ?_
   refine Goes.ld 5 (.tmp 64) 65 5 ⟨gx6, 4, none⟩ (.int .u8 x6v.b) (p1.c 2 4) ?_
   refine Goes.rn 3 [(66, .bool (decide (x4v.b > x6v.b))), (61, .bool (decide (x4v.b > x6v.b)))] Jnb ?_
   refine ite_some h (fun h30 h => ?_) (fun h30 h => ?_)
   ·
    rw [decide_eq_true h30]
    refine Goes.rn 4 [(67, (pt gx0 0)), (68, .i x3)] Jne ?_
    have p1 := p1.fr 3
    refine bind_some' h fun y31 e32 h => ?_
    refine Goes.cal (kc 31 [67, 68] #[66, 3]) 69 28 31 _ (W.z2f e0v x3 y31 e32 gx0 uds p1 udt) ?_
    rintro _ w15 ⟨S15, uh0, uh1, uh2, uh3, rfl, z15, p15, uh4, uh5, rfl, uh6⟩
    have p15 := p15.dp 3
    refine Goes.rn 5 [(70, (pt gx4 0))] Jn8 ?_
    refine Goes.ldN 25 (.tmp 70) 71 25 ⟨gx4, 0, none⟩ (U4 x4v.set_ []) (p15.pa 2 0) ?_
    refine Op_.st 25 (.tmp 2) (.tmp 71) 0 1 gx2 0 (ag (U4 x4v.set_ [])) (U4 x4v.set_ []) p15 rfl Goes.s (by kernel_rfl) (by kernel_rfl) (by kernel_rfl) (by kernel_rfl) (Nat.zero_le _) (by simp only [List.length_cons, List.length_nil]; omega) (by simp [Value.oneCell']) ?_
    intro w16 z16 p16
    have p16 : Hp nz wz S15 w16 ((some gx0, .row 69 [.string y31.2.s, .i y31.2.at_, .i y31.2.deep, uh3] 4 0) :: (some gx2, .row 25 (U4 x4v.set_ []) 4 0) :: (some gx4, .row 127 (U4 x4v.set_ [.int .u8 x4v.b, .bool x4v.single]) 6 0) :: Lr) := p16
    refine Goes.rn 1 [] Jn7 ?_
    obtain rfl := Option.some.inj h
    have p16 := p16.dp 2
    have p16 := (p16.fr 0).fr 1
    exact Goes.ret (fn := Tryd.f112) (by kernel_rfl) (v := (ag (U4 x4v.set_ []))) (results_n1 (fn := Tryd.f112) (a := .cell 2 25) (by kernel_rfl) (resV_cell ⟨gx2, 0, none⟩ (by kernel_rfl) (run_loadN (U4 x4v.set_ []) (by kernel_rfl) (by kernel_rfl) (p16.pa 0 0)))) ⟨S15, ((U4 x4v.set_ []) : List Value), uh3, rfl, ((hx.trans z15).trans z16), p16.drop, (els_mk4 (S := S15) (w := w16) (k := .u64) uea), rfl, (uh6.ext z16)⟩
   ·
    rw [decide_eq_false h30]
    refine Goes.rn 4 [(42, (pt gx4 4))] Jng ?_
    refine Goes.ld 5 (.tmp 42) 43 5 ⟨gx4, 4, none⟩ (.int .u8 x4v.b) (p1.c 1 4) ?_
    refine Goes.rn 1 [(44, (pt gx6 4))] Jnh ?_
    refine Goes.ld 5 (.tmp 44) 45 5 ⟨gx6, 4, none⟩ (.int .u8 x6v.b) (p1.c 2 4) ?_
    refine bind_some' h fun y33 e34 h => ?_
    refine Goes.cal (kc 113 [43, 45] #[5, 5]) 46 25 113 _ (W.z2m x4v.b x6v.b y33 e34  p1 ) ?_
    rintro _ w17 ⟨S17, uh7, rfl, z17, p17, uh8, uh9⟩
    have p17 := (p17.dp 1).dp 1
    have f35 : Els (kInt .u64) S17 w17 ((U4 u4 []) : List Value) u4 := (els_mk4 (k := .u64) ue2)
    refine Op_.stA 25 (.tmp 2) (.tmp 46) 0 0 gx2 4 uh7 p17 rfl rfl Goes.s (by kernel_rfl) (by kernel_rfl) (by kernel_rfl) uh9 (Els.one uh8) ?_
    intro w18 z18 p18
    refine Goes.rn 1 [] Jnf ?_
    obtain rfl := Option.some.inj h
    exact Goes.ret (fn := Tryd.f112) (by kernel_rfl) (v := .agg uh7.toArray) (results_n1 (fn := Tryd.f112) (a := .cell 2 25) (by kernel_rfl) (resV_cell ⟨gx2, 0, none⟩ (by kernel_rfl) (run_loadN uh7 (by kernel_rfl) (by rw [uh9]; kernel_rfl) (At_all (p18.mem 0 rfl))))) ⟨S17, uh7, uds, rfl, ((hx.trans z17).trans z18), p18.drop, (uh8.ext z18), uh9, (udt.ext (z17.trans z18))⟩
  ·
   have uha : x6v.single = false := by simpa using h29
   rw [uha]
   have p1 : Hp nz wz S1 w1 ((some gx2, .row 25 (U4 u4 []) 4 0) :: (some gx4, .row 127 (U4 x4v.set_ [.int .u8 x4v.b, .bool x4v.single]) 6 0) :: (some gx6, .row 127 (U4 x6v.set_ [.int .u8 x6v.b, .bool false]) 6 0) :: (some gx0, .row 69 [.string e0v.s, .i e0v.at_, .i e0v.deep, uds] 4 0) :: Lr) := by simp only [uha] at p1; exact p1
   refine Goes.rn 5 [(57, (pt gx0 0)), (58, .i x5), (59, .i (wr .i64 (x5 + 1)))] Jni ?_
   have p1 := p1.fr 3
   refine bind_some' h fun y36 e37 h => ?_
   refine Goes.cal (kc 31 [57, 59] #[66, 3]) 60 28 31 _ (W.z2f e0v (wr .i64 (x5 + 1)) y36 e37 gx0 uds p1 udt) ?_
   rintro _ w19 ⟨S19, uhb, uhc, uhd, uhe, rfl, z19, p19, uhf, uhg, rfl, uhh⟩
   have p19 := p19.dp 3
   refine Goes.rn 5 [(70, (pt gx4 0))] Jn8 ?_
   refine Goes.ldN 25 (.tmp 70) 71 25 ⟨gx4, 0, none⟩ (U4 x4v.set_ []) (p19.pa 2 0) ?_
   refine Op_.st 25 (.tmp 2) (.tmp 71) 0 1 gx2 0 (ag (U4 x4v.set_ [])) (U4 x4v.set_ []) p19 rfl Goes.s (by kernel_rfl) (by kernel_rfl) (by kernel_rfl) (by kernel_rfl) (Nat.zero_le _) (by simp only [List.length_cons, List.length_nil]; omega) (by simp [Value.oneCell']) ?_
   intro w20 z20 p20
   have p20 : Hp nz wz S19 w20 ((some gx0, .row 69 [.string y36.2.s, .i y36.2.at_, .i y36.2.deep, uhe] 4 0) :: (some gx2, .row 25 (U4 x4v.set_ []) 4 0) :: (some gx4, .row 127 (U4 x4v.set_ [.int .u8 x4v.b, .bool x4v.single]) 6 0) :: Lr) := p20
   refine Goes.rn 1 [] Jn7 ?_
   obtain rfl := Option.some.inj h
   have p20 := p20.dp 2
   have p20 := (p20.fr 0).fr 1
   exact Goes.ret (fn := Tryd.f112) (by kernel_rfl) (v := (ag (U4 x4v.set_ []))) (results_n1 (fn := Tryd.f112) (a := .cell 2 25) (by kernel_rfl) (resV_cell ⟨gx2, 0, none⟩ (by kernel_rfl) (run_loadN (U4 x4v.set_ []) (by kernel_rfl) (by kernel_rfl) (p20.pa 0 0)))) ⟨S19, ((U4 x4v.set_ []) : List Value), uhe, rfl, ((hx.trans z19).trans z20), p20.drop, (els_mk4 (S := S19) (w := w20) (k := .u64) uea), rfl, (uhh.ext z20)⟩

def Qhx := sub [1] B112
def Jnj : List Item := [.code Qhx]
def Qhy := sub [0] B112
def Jnk : List Item := .inRegion (opsOf Qhy) [0] :: Jnj
def Qhz := sub [1, 1] B112
def Jnl : List Item := [.code Qhz]
def Qi0 := sub [1, 0] B112
def Jnm : List Item := .inRegion (opsOf Qi0) [3, 4] :: Jnl
def Qi1 := sub [1, 1, 1] B112
def Jnn : List Item := [.code Qi1]
def Qi2 := sub [1, 1, 0] B112
def Jno : List Item := .inRegion (opsOf Qi2) [1, 2, 3] :: Jnn
def Qi3 := sub [1, 1, 1, 1] B112
def Jnp : List Item := [.code Qi3]
def Qi4 := sub [1, 1, 1, 0, 1] B112
def Jnq : List Item := .code Qi4 :: Jnp
def Qi5 := sub [1, 1, 1, 0, 0] B112
def Jnr : List Item := .inRegion (opsOf Qi5) [1, 2] :: Jnq
def Qi6 := sub [1, 1, 1, 1, 1] B112
def Jns : List Item := [.code Qi6]
def Qi7 := sub [1, 1, 1, 1, 0, 1] B112
def Jnt : List Item := .code Qi7 :: Jns
def Qi8 := sub [1, 1, 1, 1, 0, 0] B112
def Jnu : List Item := .inRegion (opsOf Qi8) [1, 2] :: Jnt
def Qi9 := sub [1, 1, 1, 1, 1, 1] B112
def Jnv : List Item := [.code Qi9]
def Qia := sub [1, 1, 1, 1, 1, 0] B112
def Jnw : List Item := .inRegion (opsOf Qia) [3, 4, 5, 6, 7] :: Jnv
def Jnx : List Item := .inRegion (opsOf Qia) [7] :: Jnv
def Qib := sub [1, 1, 1, 1, 1, 1, 1] B112
def Jny : List Item := [.code Qib]
def Qic := sub [1, 1, 1, 1, 1, 1, 0] B112
def Jnz : List Item := .inRegion (opsOf Qic) [3, 4] :: Jny
def Qid := sub [1, 1, 1, 1, 1, 1, 1, 1] B112
def Jo0 : List Item := [.code Qid]
def Qie := sub [1, 1, 1, 1, 1, 1, 1, 0] B112
def Jo1 : List Item := .inRegion (opsOf Qie) [1, 2, 3] :: Jo0
def Qif := sub [1, 1, 1, 1, 1, 1, 1, 1, 0, 0, 0] B112
def Jo2 : List Item := .inRegion (opsOf Qif) [3, 4, 5] :: Jn6
def Qig := sub [1, 1, 1, 1, 0, 1, 0, 1] B112
def Jo3 : List Item := .code Qig :: Jns
def Qih := sub [1, 1, 1, 1, 0, 1, 0, 0] B112
def Jo4 : List Item := .inRegion (opsOf Qih) [4, 5] :: Jo3
def Qii := sub [1, 1, 1, 1, 0, 1, 0, 1, 1] B112
def Jo5 : List Item := .code Qii :: Jns
def Qij := sub [1, 1, 1, 1, 0, 1, 0, 1, 0] B112
def Jo6 : List Item := .inRegion (opsOf Qij) [1, 2] :: Jo5
def Qik := sub [1, 1, 1, 0, 1, 0, 1] B112
def Jo7 : List Item := .code Qik :: Jnp
def Qil := sub [1, 1, 1, 0, 1, 0, 0] B112
def Jo8 : List Item := .inRegion (opsOf Qil) [1, 2] :: Jo7

theorem W.z33 (x0v : T68) (r : (List Int) × T68) (h : M.syntax_parser_pair x0v = some r) {nz wz S0 w0 Lr} [Gw nz wz] (gx0 udu) (p0 : Hp nz wz S0 w0 ((some gx0, .row 69 [.string x0v.s, .i x0v.at_, .i x0v.deep, udu] 4 0) :: Lr)) (udv : PtO kT72 S0 w0 udu x0v.bad) :
  Calls Tryd.prog 112 #[(pt gx0 0)] w0 (Rets (Post.z33 nz wz S0 w0 Lr gx0 r)) := by
 refine calls_of_goes (fn := Tryd.f112) (c := B112) (by kernel_rfl) (by kernel_rfl) 71 (by kernel_rfl) ?_
 refine Goes.jp 72 [(0, (pt gx0 0))] (fun junk => ?_)
 delta M.syntax_parser_pair at h
 refine Goes.rn 2 [] Jnk ?_
 refine Op_.alloc 25 2 0 (.agg #[.u 0, .u 0, .u 0, .u 0]) [.u 0, .u 0, .u 0, .u 0] p0 Goes.v (by kernel_rfl) (by kernel_rfl) ?_
 intro b2 w2 z2 p2
 refine Goes.rn 6 [(7, (pt gx0 0)), (8, (pt gx0 0)), (9, (pt gx0 1))] Jnm ?_
 refine Goes.ld 3 (.tmp 9) 10 3 ⟨gx0, 1, none⟩ (.i x0v.at_) (p2.c 1 1) ?_
 refine Goes.rn 5 [(3, .i x0v.at_), (11, (pt gx0 0))] Jno ?_
 have p2 := p2.fr 1
 refine bind_some' h fun y4 e5 h => ?_
 refine Goes.cal (kc 120 [11] #[66]) 12 127 120 _ (W.z31 x0v y4 e5 gx0 udu p2 (udv.ext z2)) ?_
 rintro _ w3 ⟨S3, uga, rfl, z3, p3, uhi, ugb⟩
 refine Op_.alloc 127 4 0 (.agg #[.u 0, .u 0, .u 0, .u 0, .int .u8 0, .bool false]) [.u 0, .u 0, .u 0, .u 0, .int .u8 0, .bool false] p3 Goes.v (by kernel_rfl) (by kernel_rfl) ?_
 intro b6 w4 z4 p4
 refine Op_.st 127 (.tmp 4) (.tmp 12) 0 0 b6 0 (ag (U4 y4.1.set_ [.int .u8 y4.1.b, .bool y4.1.single])) (U4 y4.1.set_ [.int .u8 y4.1.b, .bool y4.1.single]) p4 rfl Goes.s (by kernel_rfl) (by kernel_rfl) (by kernel_rfl) (by kernel_rfl) (Nat.zero_le _) (by simp only [List.length_cons, List.length_nil]; omega) (by simp [Value.oneCell']) ?_
 intro w5 z5 p5
 have p5 : Hp nz wz S3 w5 ((some b6, .row 127 (U4 y4.1.set_ [.int .u8 y4.1.b, .bool y4.1.single]) 6 0) :: (some gx0, .row 69 [.string y4.2.s, .i y4.2.at_, .i y4.2.deep, uga] 4 0) :: (some b2, .row 25 [.u 0, .u 0, .u 0, .u 0] 4 0) :: Lr) := p5
 refine Goes.rn 5 [(13, (pt gx0 0))] Jnr ?_
 have p5 := p5.fr 1
 refine bind_some' h fun y8 e9 h => ?_
 refine Goes.cal (kc 65 [13] #[66]) 14 5 65 _ (W.z2d y4.2 y8 e9 gx0 uga p5 (ugb.ext (z4.trans z5))) ?_
 rintro _ w6 ⟨S6, uhj, rfl, z6, p6, uhk⟩
 refine Goes.rn 2 [(15, .bool (!(decide (y8.1 = 45))))] Jnq ?_
 refine ite_some h (fun h10 h => ?_) (fun h10 h => ?_)
 ·
  rw [decide_eq_true h10]
  refine Goes.rn 6 [(18, (pt b6 5))] Jnu ?_
  refine Goes.ld 4 (.tmp 18) 19 4 ⟨b6, 5, none⟩ (.bool y4.1.single) (p6.c 1 5) ?_
  refine Goes.rn 2 [(20, .bool (!y4.1.single))] Jnt ?_
  refine ite_some h (fun h11 h => ?_) (fun h11 h => ?_)
  ·
   rw [h11]
   have p6 : Hp nz wz S6 w6 ((some gx0, .row 69 [.string y8.2.s, .i y8.2.at_, .i y8.2.deep, uhj] 4 0) :: (some b6, .row 127 (U4 y4.1.set_ [.int .u8 y4.1.b, .bool true]) 6 0) :: (some b2, .row 25 [.u 0, .u 0, .u 0, .u 0] 4 0) :: Lr) := by simp only [h11] at p6; exact p6
   refine Goes.rn 7 [(29, (pt gx0 0)), (30, (pt gx0 0)), (31, (pt gx0 1))] Jnw ?_
   refine Goes.ld 3 (.tmp 31) 32 3 ⟨gx0, 1, none⟩ (.i y8.2.at_) (p6.c 0 1) ?_
   refine Goes.rn 3 [(33, .i (wr .i64 (y8.2.at_ + 1))), (34, (pt gx0 0)), (35, (pt gx0 1))] Jnx ?_
   refine Op_.st 3 (.tmp 35) (.tmp 33) 0 0 gx0 1 (.i (wr .i64 (y8.2.at_ + 1))) [.i (wr .i64 (y8.2.at_ + 1))] p6 rfl Goes.s (by kernel_rfl) (by kernel_rfl) (by kernel_rfl) (by kernel_rfl) (Nat.zero_le _) (by simp only [List.length_cons, List.length_nil]; omega) (by simp [Value.oneCell']) ?_
   intro w7 z7 p7
   have p7 : Hp nz wz S6 w7 ((some gx0, .row 69 [.string y8.2.s, .i (wr .i64 (y8.2.at_ + 1)), .i y8.2.deep, uhj] 4 0) :: (some b6, .row 127 (U4 y4.1.set_ [.int .u8 y4.1.b, .bool true]) 6 0) :: (some b2, .row 25 [.u 0, .u 0, .u 0, .u 0] 4 0) :: Lr) := p7
   refine Goes.rn 6 [(36, (pt gx0 0)), (37, (pt gx0 0)), (38, (pt gx0 1))] Jnz ?_
   refine Goes.ld 3 (.tmp 38) 39 3 ⟨gx0, 1, none⟩ (.i (wr .i64 (y8.2.at_ + 1))) (p7.c 0 1) ?_
   refine Goes.rn 5 [(5, .i (wr .i64 (y8.2.at_ + 1))), (40, (pt gx0 0))] Jo1 ?_
   refine bind_some' h fun y12 e13 h => ?_
   refine Goes.cal (kc 120 [40] #[66]) 41 127 120 _ (W.z31 (⟨y8.2.s, wr .i64 (y8.2.at_ + 1), y8.2.deep, y8.2.bad⟩ : T68) y12 e13 gx0 uhj p7 (uhk.ext z7)) ?_
   rintro _ w8 ⟨S8, ugp, rfl, z8, p8, uhl, ugs⟩
   refine Op_.alloc 127 6 0 (.agg #[.u 0, .u 0, .u 0, .u 0, .int .u8 0, .bool false]) [.u 0, .u 0, .u 0, .u 0, .int .u8 0, .bool false] p8 Goes.v (by kernel_rfl) (by kernel_rfl) ?_
   intro b14 w9 z9 p9
   refine Op_.st 127 (.tmp 6) (.tmp 41) 0 0 b14 0 (ag (U4 y12.1.set_ [.int .u8 y12.1.b, .bool y12.1.single])) (U4 y12.1.set_ [.int .u8 y12.1.b, .bool y12.1.single]) p9 rfl Goes.s (by kernel_rfl) (by kernel_rfl) (by kernel_rfl) (by kernel_rfl) (Nat.zero_le _) (by simp only [List.length_cons, List.length_nil]; omega) (by simp [Value.oneCell']) ?_
   intro w10 z10 p10
   have p10 : Hp nz wz S8 w10 ((some b14, .row 127 (U4 y12.1.set_ [.int .u8 y12.1.b, .bool y12.1.single]) 6 0) :: (some gx0, .row 69 [.string y12.2.s, .i y12.2.at_, .i y12.2.deep, ugp] 4 0) :: (some b6, .row 127 (U4 y4.1.set_ [.int .u8 y4.1.b, .bool true]) 6 0) :: (some b2, .row 25 [.u 0, .u 0, .u 0, .u 0] 4 0) :: Lr) := p10
   refine Goes.rn 8 [(48, (pt gx0 0)), (49, (pt gx0 0)), (50, (pt gx0 3))] Jo2 ?_
   refine Goes.ld 67 (.tmp 50) 51 67 ⟨gx0, 3, none⟩ (ugp) (p10.c 1 3) ?_
   refine let_some h fun v25 h16 h => ?_
   rcases v25 with _ | y17
   ·
    try dsimp only at h
    obtain rfl := PtO.nil (ugs.ext (z9.trans z10)) h16
    refine Goes.rn 3 [(52, .bool false), (47, .bool false)] Jn6 ?_
    have p10 := (((p10.fr 1).fr 1).fr 2).fr 3
    exact Goes.jp 72 [(0, (pt gx0 0)), (2, (pt b2 0)), (3, .i x0v.at_), (4, (pt b6 0)), (5, .i (wr .i64 (y8.2.at_ + 1))), (6, (pt b14 0)), (47, .bool false)] (W.z34 gx0 _ _ h _ _ ((((((((((Ext.refl S0 w0).trans z2).trans z3).trans z4).trans z5).trans z6).trans z7).trans z8).trans z9).trans z10) b2 b6 b14 (.pointer none) p10 rfl uhi uhl rfl)
   ·
    try dsimp only at h
    obtain ⟨a19, _, rfl, -, f20, q21⟩ := PtO.got (ugs.ext (z9.trans z10)) h16
    obtain rfl := q21
    refine Goes.rn 3 [(52, .bool true), (47, .bool true)] Jn6 ?_
    have p10 := (((p10.fr 1).fr 1).fr 2).fr 3
    exact Goes.jp 72 [(0, (pt gx0 0)), (2, (pt b2 0)), (3, .i x0v.at_), (4, (pt b6 0)), (5, .i (wr .i64 (y8.2.at_ + 1))), (6, (pt b14 0)), (47, .bool true)] (W.z34 gx0 _ _ h _ _ ((((((((((Ext.refl S0 w0).trans z2).trans z3).trans z4).trans z5).trans z6).trans z7).trans z8).trans z9).trans z10) b2 b6 b14 (.pointer (some a19)) p10 rfl uhi uhl ⟨_, _, rfl, List.cons_ne_nil _ _, f20, rfl⟩)
  ·
   have u82 : y4.1.single = false := by simpa using h11
   rw [u82]
   have p6 : Hp nz wz S6 w6 ((some gx0, .row 69 [.string y8.2.s, .i y8.2.at_, .i y8.2.deep, uhj] 4 0) :: (some b6, .row 127 (U4 y4.1.set_ [.int .u8 y4.1.b, .bool false]) 6 0) :: (some b2, .row 25 [.u 0, .u 0, .u 0, .u 0] 4 0) :: Lr) := by simp only [u82] at p6; exact p6
   refine Goes.rn 7 [(21, (pt gx0 0)), (22, (pt gx0 0)), (23, (pt gx0 0)), (24, (pt gx0 1))] Jo4 ?_
   refine Goes.ld 3 (.tmp 24) 25 3 ⟨gx0, 1, none⟩ (.i y8.2.at_) (p6.c 0 1) ?_
   refine bind_some' h fun y26 e27 h => ?_
   refine Goes.cal (kc 31 [21, 25] #[66, 3]) 26 28 31 _ (W.z2f y8.2 y8.2.at_ y26 e27 gx0 uhj p6 uhk) ?_
   rintro _ w11 ⟨S11, uhm, uhn, uho, ugh, rfl, z11, p11, uhp, uhq, rfl, ugi⟩
   refine Goes.rn 4 [(27, (pt b6 0))] Jo6 ?_
   refine Goes.ldN 25 (.tmp 27) 28 25 ⟨b6, 0, none⟩ (U4 y4.1.set_ []) (p11.pa 1 0) ?_
   refine Op_.st 25 (.tmp 2) (.tmp 28) 0 2 b2 0 (ag (U4 y4.1.set_ [])) (U4 y4.1.set_ []) p11 rfl Goes.s (by kernel_rfl) (by kernel_rfl) (by kernel_rfl) (by kernel_rfl) (Nat.zero_le _) (by simp only [List.length_cons, List.length_nil]; omega) (by simp [Value.oneCell']) ?_
   intro w12 z12 p12
   have p12 : Hp nz wz S11 w12 ((some gx0, .row 69 [.string y26.2.s, .i y26.2.at_, .i y26.2.deep, ugh] 4 0) :: (some b6, .row 127 (U4 y4.1.set_ [.int .u8 y4.1.b, .bool false]) 6 0) :: (some b2, .row 25 (U4 y4.1.set_ []) 4 0) :: Lr) := p12
   refine Goes.rn 1 [] Jo5 ?_
   obtain rfl := Option.some.inj h
   have p12 := p12.dp 1
   have p12 := (p12.fr 0).fr 1
   exact Goes.ret (fn := Tryd.f112) (by kernel_rfl) (v := (ag (U4 y4.1.set_ []))) (results_n1 (fn := Tryd.f112) (a := .cell 2 25) (by kernel_rfl) (resV_cell ⟨b2, 0, none⟩ (by kernel_rfl) (run_loadN (U4 y4.1.set_ []) (by kernel_rfl) (by kernel_rfl) (p12.pa 0 0)))) ⟨S11, ((U4 y4.1.set_ []) : List Value), ugh, rfl, ((((((((Ext.refl S0 w0).trans z2).trans z3).trans z4).trans z5).trans z6).trans z11).trans z12), p12.drop, (els_mk4 (S := S11) (w := w12) (k := .u64) uhi), rfl, (ugi.ext z12)⟩
 ·
  rw [decide_eq_false h10]
  refine Goes.rn 4 [(16, (pt b6 0))] Jo8 ?_
  refine Goes.ldN 25 (.tmp 16) 17 25 ⟨b6, 0, none⟩ (U4 y4.1.set_ []) (p6.pa 1 0) ?_
  refine Op_.st 25 (.tmp 2) (.tmp 17) 0 2 b2 0 (ag (U4 y4.1.set_ [])) (U4 y4.1.set_ []) p6 rfl Goes.s (by kernel_rfl) (by kernel_rfl) (by kernel_rfl) (by kernel_rfl) (Nat.zero_le _) (by simp only [List.length_cons, List.length_nil]; omega) (by simp [Value.oneCell']) ?_
  intro w13 z13 p13
  have p13 : Hp nz wz S6 w13 ((some gx0, .row 69 [.string y8.2.s, .i y8.2.at_, .i y8.2.deep, uhj] 4 0) :: (some b6, .row 127 (U4 y4.1.set_ [.int .u8 y4.1.b, .bool y4.1.single]) 6 0) :: (some b2, .row 25 (U4 y4.1.set_ []) 4 0) :: Lr) := p13
  refine Goes.rn 1 [] Jo7 ?_
  obtain rfl := Option.some.inj h
  have p13 := p13.dp 1
  have p13 := (p13.fr 0).fr 1
  exact Goes.ret (fn := Tryd.f112) (by kernel_rfl) (v := (ag (U4 y4.1.set_ []))) (results_n1 (fn := Tryd.f112) (a := .cell 2 25) (by kernel_rfl) (resV_cell ⟨b2, 0, none⟩ (by kernel_rfl) (run_loadN (U4 y4.1.set_ []) (by kernel_rfl) (by kernel_rfl) (p13.pa 0 0)))) ⟨S6, ((U4 y4.1.set_ []) : List Value), uhj, rfl, (((((((Ext.refl S0 w0).trans z2).trans z3).trans z4).trans z5).trans z6).trans z13), p13.drop, (els_mk4 (S := S6) (w := w13) (k := .u64) uhi), rfl, (uhk.ext z13)⟩

def Jo9 : List Item := [.inBlock 1]
def Qim := sub [1, 1, 1, 0, 1, 0, 1, 0] B91
def Joa : List Item := .inRegion (opsOf Qim) [0, 1, 2, 3, 4] :: Jo9
def Qin := sub [1, 1, 1, 0, 1, 0] B91
def Qio := sub [1, 1, 1, 0, 1, 0, 0] B91
def Qip := sub [1, 1, 1, 0, 1, 0, 1] B91

def Post.z35 (lk : Nat) (rk : Nat) (jkk : Nat → Value) (uhr : Nat) (uhs : Option Nat) (uht : Nat) (uhu : Nat) (uhv : List Value) (uhw : Nat) (uhx : Nat) (uhy : Nat) (uhz : Value) (ui0 : T27) (kq3 : Bool) (ui1 : T68) (r : List Int) (v : Value) (w' : World) : Prop :=
 ∃ S' ui2, v = .bool true ∧ Ext S0 w0 S' w' ∧ Hp nz wz S' w' ((some lk, .obj (lpst 91 (lfr 20 [(2, (pt uhr 0)), (3, .bool kq3), (4, (pt uhw 0)), (9, .func (.func 111) #[] #[(pt uhx 0)])] jkk) #[10] (rfAssign (Qin)) (rfBody (Qin)) rk .ready none)) :: (some uhr, .row 28 (.i ui0.Kind :: U4 ui0.Set [.slice (Gp uhs) uht uhu, .i ui0.Min, .i ui0.Max]) 8 0) :: (uhs, .row 28 uhv (uhu * kT27.size) 0) :: (some uhw, .row 25 ui2 4 0) :: (some uhx, .row 66 [(pt uhy 0)] 1 0) :: (some uhy, .row 69 [.string ui1.s, .i ui1.at_, .i ui1.deep, uhz] 4 0) :: Lr) ∧ Els (kInt .u64) S' w' ui2 r ∧ ui2.length = 4

theorem W.z35 (ui0 : T27) (kq3 : Bool) (kq4 : List Int) (ui1 : T68) (a0 : List Int) (r : List Int) (h : M.syntax_parser_class_r_2 ui0 kq3 kq4 ui1 a0 = some r) {nz wz S0 w0 Lr} [Gw nz wz] (lk rk jkk uhr uhs uht uhu uhv uhw ui3 uhx uhy uhz ui4) (p0 : Hp nz wz S0 w0 ((some lk, .obj (lpst 91 (lfr 20 [(2, (pt uhr 0)), (3, .bool kq3), (4, (pt uhw 0)), (9, .func (.func 111) #[] #[(pt uhx 0)])] jkk) #[10] (rfAssign (Qin)) (rfBody (Qin)) rk .ready none)) :: (some uhr, .row 28 (.i ui0.Kind :: U4 ui0.Set [.slice (Gp uhs) uht uhu, .i ui0.Min, .i ui0.Max]) 8 0) :: (uhs, .row 28 uhv (uhu * kT27.size) 0) :: (some uhw, .row 25 ui3 4 0) :: (some uhx, .row 66 [(pt uhy 0)] 1 0) :: (some uhy, .row 69 [.string ui1.s, .i ui1.at_, .i ui1.deep, uhz] 4 0) :: Lr)) (ui5 : ui0.Set.length = 4) (ui6 : Els kT27 S0 w0 uhv ui0.L) (ui7 : ui0.L.length = uht) (ui8 : Els (kInt .u64) S0 w0 ui3 kq4) (ui9 : ui3.length = 4) (uia : PtO kT72 S0 w0 uhz ui1.bad) (fa0 : Els (kInt .u64) S0 w0 ui4 a0) (la0 : ui4.length = 4) :
  Goes Tryd.prog (rbase 91 lk) [.code (rfAssign (Qin)), .beginRound, .code (rfBody (Qin))] ⟨setp (lfr 20 [(2, (pt uhr 0)), (3, .bool kq3), (4, (pt uhw 0)), (9, .func (.func 111) #[] #[(pt uhx 0)])] jkk) #[10] #[.agg ui4.toArray], []⟩ w0 (DoneR (Post.z35 nz wz S0 w0 Lr lk rk jkk uhr uhs uht uhu uhv uhw uhx uhy uhz ui0 kq3 ui1 r)) := by
 subst ui7
 refine Goes.jp 20 [(2, (pt uhr 0)), (3, .bool kq3), (4, (pt uhw 0)), (9, .func (.func 111) #[] #[(pt uhx 0)]), (10, .agg ui4.toArray)] (fun junk => ?_)
 delta M.syntax_parser_class_r_2 at h
 refine Goes.rn 1 [] [.inRegion (opsOf (Qio)) [0, 1], .beginRound, .code (Qip)] ?_
 refine Op_.alloc 25 5 0 (.agg #[.u 0, .u 0, .u 0, .u 0]) [.u 0, .u 0, .u 0, .u 0] p0 Goes.v (by kernel_rfl) (by kernel_rfl) ?_
 intro b7 w2 z2 p2
 have f9 : Els (kInt .u64) S0 w2 ([.u 0, .u 0, .u 0, .u 0] : List Value) [0, 0, 0, 0] := (Els.cons (K := (kInt .u64)) (vs := [.u 0]) (x := 0) rfl (Els.cons (K := (kInt .u64)) (vs := [.u 0]) (x := 0) rfl (Els.cons (K := (kInt .u64)) (vs := [.u 0]) (x := 0) rfl (Els.cons (K := (kInt .u64)) (vs := [.u 0]) (x := 0) rfl Els.nil))))
 refine Op_.stA 25 (.tmp 5) (.tmp 10) 0 0 b7 4 ui4 p2 rfl rfl Goes.s (by kernel_rfl) (by kernel_rfl) (by kernel_rfl) la0 (Els.one (fa0.ext z2)) ?_
 intro w3 z3 p3
 refine Goes.rn 1 [] [.beginRound, .code (Qip)] ?_
 refine Goes.beginR 1 rfl p3 rfl ?_
 intro w4 z4 p4
 refine Goes.rn 2 [] Joa ?_
 refine Op_.ldN 25 (.tmp 4) 11 25 ⟨uhw, 0, none⟩ ui3 Goes.v (by kernel_rfl) (by kernel_rfl) (by rw [ui9]; kernel_rfl) (At_all (p4.mem 4 rfl)) ?_
 refine Op_.ldN 25 (.tmp 5) 12 25 ⟨b7, 0, none⟩ ui4 Goes.v (by kernel_rfl) (by kernel_rfl) (by rw [la0]; kernel_rfl) (At_all (p4.mem 0 rfl)) ?_
 have l10 := Els.len1 (ui8.ext ((z2.trans z3).trans z4)) ui9 rfl
 obtain rfl := els_lit4 (ui8.ext ((z2.trans z3).trans z4)) ui9
 have l11 := Els.len1 (fa0.ext ((z2.trans z3).trans z4)) la0 rfl
 obtain rfl := els_lit4 (fa0.ext ((z2.trans z3).trans z4)) la0
 have f13 : Els (kArr 4 (kInt .u64)) S0 w4 ((U4 kq4 (U4 a0 [])) : List Value) [kq4, a0] := by exact (Els.cons (K := (kArr 4 (kInt .u64))) (vs := (U4 kq4 [])) (x := kq4) ⟨l10, els_mk4 l10⟩ (Els.cons (K := (kArr 4 (kInt .u64))) (vs := (U4 a0 [])) (x := a0) ⟨l11, els_mk4 l11⟩ Els.nil))
 refine Op_.made (.buildSlice 151 2 #[(0, (.tmp 11)), (1, (.tmp 12))]) 13 151 (fun b => .slice (Gp (some b)) 2 2) 25 ((U4 kq4 (U4 a0 [])) : List Value) p4 Goes.v (by kernel_rfl) ?_
 intro b12 w5 z5 p5
 have p5 : Hp nz wz S0 w5 (((some b12), .row 25 ((U4 kq4 (U4 a0 [])) : List Value) (2 * (kArr 4 (kInt .u64)).size) 0) :: (some b7, .row 25 ((U4 a0 []) : List Value) 4 0) :: (some lk, .obj (lpst 91 (lfr 20 [(2, (pt uhr 0)), (3, .bool kq3), (4, (pt uhw 0)), (9, .func (.func 111) #[] #[(pt uhx 0)])] jkk) #[10] (rfAssign (Qin)) (rfBody (Qin)) rk .busy none)) :: (some uhr, .row 28 (.i ui0.Kind :: U4 ui0.Set [.slice (Gp uhs) ui0.L.length uhu, .i ui0.Min, .i ui0.Max]) 8 0) :: (uhs, .row 28 uhv (uhu * kT27.size) 0) :: (some uhw, .row 25 ((U4 kq4 []) : List Value) 4 0) :: (some uhx, .row 66 [(pt uhy 0)] 1 0) :: (some uhy, .row 69 [.string ui1.s, .i ui1.at_, .i ui1.deep, uhz] 4 0) :: Lr) := p5
 obtain ⟨S6, z6, p6, f15⟩ := p5.freezeRd 0 rfl (f13.ext z5) (by decide)
 refine bind_some' h fun y16 e17 h => ?_
 refine Goes.cal (kc 102 [13] #[151]) 14 25 102 _ (W.z2o [kq4, a0] y16 e17 (Gp (some b12)) 2 2 p6 f15 rfl) ?_
 rintro _ w7 ⟨S7, ueo, rfl, z7, p7, uep, ueq⟩
 have p7 := (p7.dp 0).dp 0
 refine Op_.stA 25 (.tmp 4) (.tmp 14) 0 3 uhw 4 ueo p7 rfl ui9 Goes.s (by kernel_rfl) (by kernel_rfl) (by kernel_rfl) ueq (Els.one uep) ?_
 intro w8 z8 p8
 refine Goes.rn 2 [] [] ?_
 obtain rfl := Option.some.inj h
 refine Goes.endR 0 p8 rfl ?_
 intro w9 z9 p9
 exact ⟨S7, ueo, rfl, (((((((((Ext.refl S0 w0).trans z2).trans z3).trans z4).trans z5).trans z6).trans z7).trans z8).trans z9), p9, (uep.ext (z8.trans z9)), ueq⟩

def Qiq := sub [1, 0, 0] B111
def Job : List Item := .inLoop Qiq :: J6z
def Joc : List Item := .code Qiq :: Job
def Qir := sub [1, 0, 0, 1] B111
def Jod : List Item := .code Qir :: Job
def Qis := sub [1, 0, 0, 0, 1] B111
def Joe : List Item := .code Qis :: Jod
def Qit := sub [1, 0, 0, 0, 0] B111
def Jof : List Item := .inRegion (opsOf Qit) [0, 1, 2, 3, 4, 5, 6, 7, 8, 9, 10, 11, 12] :: Joe
def Jog : List Item := .inRegion (opsOf Qit) [3, 4, 5, 6, 7, 8, 9, 10, 11, 12] :: Joe
def Joh : List Item := .inRegion (opsOf Qit) [8, 9, 10, 11, 12] :: Joe
def Qiu := sub [1, 0, 0, 1, 1] B111
def Joi : List Item := .code Qiu :: Job
def Joj : List Item := .inBlock 1 :: Joi
def Qiv := sub [1, 0, 0, 1, 0, 0, 1] B111
def Jok : List Item := .code Qiv :: Joj
def Qiw := sub [1, 0, 0, 1, 0, 0, 0] B111
def Jol : List Item := .inRegion (opsOf Qiw) [1, 2, 3, 4] :: Jok

def Post.z36 (lx0 : Nat) (rx0 : Nat) (uib : Nat → Value) (uic : Nat) (uid : Option Nat) (uie : Nat) (uif : Nat) (uig : List Value) (uih : Nat) (uii : Nat) (uij : Nat) (uik : T27) (uil : Bool) (r : (List Int) × T68) (v : Value) (w' : World) : Prop :=
 ∃ S' ui2 uim, v = .tuple #[] ∧ Ext S0 w0 S' w' ∧ Hp nz wz S' w' ((some lx0, .obj (lpst 91 (lfr 20 [(2, (pt uic 0)), (3, .bool uil), (4, (pt uih 0)), (9, .func (.func 111) #[] #[(pt uii 0)])] uib) #[10] (rfAssign (Qin)) (rfBody (Qin)) rx0 .ready none)) :: (some uic, .row 28 (.i uik.Kind :: U4 uik.Set [.slice (Gp uid) uie uif, .i uik.Min, .i uik.Max]) 8 0) :: (uid, .row 28 uig (uif * kT27.size) 0) :: (some uih, .row 25 ui2 4 0) :: (some uii, .row 66 [(pt uij 0)] 1 0) :: (some uij, .row 69 [.string r.2.s, .i r.2.at_, .i r.2.deep, uim] 4 0) :: Lr) ∧ Els (kInt .u64) S' w' ui2 r.1 ∧ ui2.length = 4 ∧ PtO kT72 S' w' uim r.2.bad

def L.z37 (lx0 : Nat) (rx0 : Nat) (uib : Nat → Value) (uic : Nat) (uid : Option Nat) (uie : Nat) (uif : Nat) (uig : List Value) (uih : Nat) (uii : Nat) (uij : Nat) : Bool × (List Int) × T68 × T27 × Bool → ((List Int) × T68) → Prop := fun ⟨x3, e2, e4v, uik, uil⟩ r => ∀ S1 w1, Ext S0 w0 S1 w1 → ∀ ui2 uim (_ : Hp nz wz S1 w1 ((some lx0, .obj (lpst 91 (lfr 20 [(2, (pt uic 0)), (3, .bool uil), (4, (pt uih 0)), (9, .func (.func 111) #[] #[(pt uii 0)])] uib) #[10] (rfAssign (Qin)) (rfBody (Qin)) rx0 .ready none)) :: (some uic, .row 28 (.i uik.Kind :: U4 uik.Set [.slice (Gp uid) uie uif, .i uik.Min, .i uik.Max]) 8 0) :: (uid, .row 28 uig (uif * kT27.size) 0) :: (some uih, .row 25 ui2 4 0) :: (some uii, .row 66 [(pt uij 0)] 1 0) :: (some uij, .row 69 [.string e4v.s, .i e4v.at_, .i e4v.deep, uim] 4 0) :: Lr)) (_ : uik.Set.length = 4) (_ : Els kT27 S1 w1 uig uik.L) (_ : uik.L.length = uie) (_ : Els (kInt .u64) S1 w1 ui2 e2) (_ : ui2.length = 4) (_ : PtO kT72 S1 w1 uim e4v.bad) (junk : Nat → Value),
 Goes Tryd.prog (base 111) Joc ⟨lfr 22 [(0, yieldV lx0), (1, (pt uii 0)), (3, .bool x3)] junk, []⟩ w1 (Done Tryd.prog 111 (Rets (Post.z36 nz wz S0 w0 Lr lx0 rx0 uib uic uid uie uif uig uih uii uij uik uil r)))

def L.z38 (lx0 : Nat) (rx0 : Nat) (uib : Nat → Value) (uic : Nat) (uid : Option Nat) (uie : Nat) (uif : Nat) (uig : List Value) (uih : Nat) (uii : Nat) (uij : Nat) : Bool × (List Int) × T68 × T27 × Bool → ((List Int) × T68) → Prop := fun ⟨x16, e2, e4v, uik, uil⟩ r => ∀ S1 w1, Ext S0 w0 S1 w1 → ∀ ui2 uim (_ : Hp nz wz S1 w1 ((some lx0, .obj (lpst 91 (lfr 20 [(2, (pt uic 0)), (3, .bool uil), (4, (pt uih 0)), (9, .func (.func 111) #[] #[(pt uii 0)])] uib) #[10] (rfAssign (Qin)) (rfBody (Qin)) rx0 .ready none)) :: (some uic, .row 28 (.i uik.Kind :: U4 uik.Set [.slice (Gp uid) uie uif, .i uik.Min, .i uik.Max]) 8 0) :: (uid, .row 28 uig (uif * kT27.size) 0) :: (some uih, .row 25 ui2 4 0) :: (some uii, .row 66 [(pt uij 0)] 1 0) :: (some uij, .row 69 [.string e4v.s, .i e4v.at_, .i e4v.deep, uim] 4 0) :: Lr)) (_ : uik.Set.length = 4) (_ : Els kT27 S1 w1 uig uik.L) (_ : uik.L.length = uie) (_ : Els (kInt .u64) S1 w1 ui2 e2) (_ : ui2.length = 4) (_ : PtO kT72 S1 w1 uim e4v.bad) (junk : Nat → Value),
 Goes Tryd.prog (base 111) Joe ⟨lfr 22 [(0, yieldV lx0), (1, (pt uii 0)), (16, .bool x16)] junk, []⟩ w1 (Done Tryd.prog 111 (Rets (Post.z36 nz wz S0 w0 Lr lx0 rx0 uib uic uid uie uif uig uih uii uij uik uil r)))

theorem W.z39 {nz wz S0 w0 Lr} [Gw nz wz] (lx0 : Nat) (rx0 : Nat) (uib : Nat → Value) (uic : Nat) (uid : Option Nat) (uie : Nat) (uif : Nat) (uig : List Value) (uih : Nat) (uii : Nat) (uij : Nat) : (∀ a r, M.syntax_parser_items_1_l0 a = some r → (L.z37 nz wz S0 w0 Lr lx0 rx0 uib uic uid uie uif uig uih uii uij) a r) ∧ (∀ a r, M.syntax_parser_items_1_l1 a = some r → (L.z38 nz wz S0 w0 Lr lx0 rx0 uib uic uid uie uif uig uih uii uij) a r) := by
 refine M.syntax_parser_items_1_l0.mutual_partial_correctness (L.z37 nz wz S0 w0 Lr lx0 rx0 uib uic uid uie uif uig uih uii uij) (L.z38 nz wz S0 w0 Lr lx0 rx0 uib uic uid uie uif uig uih uii uij) ?_ ?_
 ·
  intro uin uio ⟨x3, e2, e4v, uik, uil⟩ r h S1 w1 hx ui2 uim p1 uip fs1 ls1 fe2 le2 uiq junk
  try dsimp only at h
  subst ls1
  refine Goes.rn 3 [] Jof ?_
  refine Goes.ld 66 (.tmp 1) 4 66 ⟨uii, 0, none⟩ ((pt uij 0)) (p1.c 4 0) ?_
  refine Goes.rn 2 [(5, (pt uij 0)), (6, (pt uij 3))] Jog ?_
  refine Goes.ld 67 (.tmp 6) 7 67 ⟨uij, 3, none⟩ (uim) (p1.c 5 3) ?_
  refine let_some h fun v17 h8 h => ?_
  rcases v17 with _ | y9
  ·
   try dsimp only at h
   obtain rfl := PtO.nil uiq h8
   refine Goes.rn 4 [(8, .bool true), (9, .bool true), (10, .bool x3), (11, .bool x3)] Joh ?_
   refine ite_some h (fun h14 h => ?_) (fun h14 h => ?_)
   ·
    rw [h14]
    refine Goes.rn 6 [(12, undef), (13, undef), (14, undef), (15, .bool true), (16, .bool true)] Joe ?_
    exact Goes.jp 22 [(0, yieldV lx0), (1, (pt uii 0)), (16, .bool true)] (uio _ _ h _ _ hx ui2 (.pointer none) p1 uip fs1 rfl fe2 le2 rfl)
   ·
    have uir : x3 = false := by simpa using h14
    rw [uir]
    refine Goes.ld 66 (.tmp 1) 12 66 ⟨uii, 0, none⟩ ((pt uij 0)) (p1.c 4 0) ?_
    have p1 := p1.fr 5
    refine bind_some' h fun y15 e16 h => ?_
    refine Goes.cal (.call { callee := .value (.func 48), args := #[(.tmp 12), (.const (.int .u8 93))], argTypes := #[66, 5] }) 13 4 48 _ (W.z2g (⟨e4v.s, e4v.at_, e4v.deep, none⟩ : T68) 93 y15 e16 uij (.pointer none) p1 rfl) ?_
    rintro _ w2 ⟨S2, udx, rfl, z2, p2, udy⟩
    refine Goes.rn 4 [(14, .bool (!y15.1)), (15, .bool (!y15.1)), (16, .bool (!y15.1))] Joe ?_
    have p2 := (((((p2.fr 0).fr 5).fr 5).fr 5).fr 5).fr 5
    exact Goes.jp 22 [(0, yieldV lx0), (1, (pt uii 0)), (16, .bool (!y15.1))] (uio _ _ h _ _ (hx.trans z2) ui2 udx p2 uip (fs1.ext z2) rfl (fe2.ext z2) le2 udy)
  ·
   try dsimp only at h
   obtain ⟨a11, _, rfl, -, f12, q13⟩ := PtO.got uiq h8
   obtain rfl := q13
   refine Goes.rn 10 [(8, .bool false), (9, .bool false), (10, undef), (11, undef), (12, undef), (13, undef), (14, undef), (15, undef), (16, .bool false)] Joe ?_
   exact Goes.jp 22 [(0, yieldV lx0), (1, (pt uii 0)), (16, .bool false)] (uio _ _ h _ _ hx ui2 (.pointer (some a11)) p1 uip fs1 rfl fe2 le2 ⟨_, _, rfl, List.cons_ne_nil _ _, f12, rfl⟩)
 ·
  intro uis uit ⟨x16, e2, e4v, uik, uil⟩ r h S1 w1 hx ui2 uim p1 uip fs1 ls1 fe2 le2 uiq junk
  try dsimp only at h
  subst ls1
  refine ite_some h (fun h18 h => ?_) (fun h18 h => ?_)
  ·
   rw [h18]
   refine Goes.rn 7 [(17, yieldV lx0)] Jol ?_
   refine Goes.ld 66 (.tmp 1) 18 66 ⟨uii, 0, none⟩ ((pt uij 0)) (p1.c 4 0) ?_
   have p1 := p1.fr 5
   refine bind_some' h fun y19 e20 h => ?_
   refine Goes.cal (kc 112 [18] #[66]) 19 25 112 _ (W.z33 e4v y19 e20 uij uim p1 uiq) ?_
   rintro _ w3 ⟨S3, ufy, uga, rfl, z3, p3, ufz, ug0, ugb⟩
   have p3 := (((((p3.fr 0).fr 5).fr 5).fr 5).fr 5).fr 5
   refine bind_some' h fun y21 e22 h => ?_
   refine Goes.yieldAt (.call { callee := .value (.tmp 17), args := #[(.tmp 19)], argTypes := #[25] }) 20 4 0 lx0 #[.agg ufy.toArray] p3 rfl (by kernel_rfl) rfl (fun _ => by kernel_rfl) rfl (W.z35 uik uil e2 y19.2 y19.1 y21 e22 lx0 rx0 uib uic uid uik.L.length uif uig uih ui2 uii uij uga ufy p3 uip (fs1.ext z3) rfl (fe2.ext z3) le2 ugb ufz ug0) ?_
   rintro _ w4 ⟨S4, uiu, rfl, z4, p4, uiv, uiw⟩
   refine Goes.rn 9 [(21, .bool (!true)), (3, .bool false)] Joc ?_
   exact Goes.jp 22 [(0, yieldV lx0), (1, (pt uii 0)), (3, .bool false)] (uit _ _ h _ _ ((hx.trans z3).trans z4) uiu uga p4 uip (fs1.ext (z3.trans z4)) rfl uiv uiw (ugb.ext z4))
  ·
   have uix : x16 = false := by simpa using h18
   rw [uix]
   refine Goes.rn 2 [] [] ?_
   obtain rfl := Option.some.inj h
   exact Goes.end_ (fn := Tryd.f111) (by kernel_rfl) (v := .tuple #[]) (by kernel_rfl) ⟨S1, ui2, uim, rfl, hx, p1, fe2, le2, uiq⟩

theorem W.z37 {nz wz S0 w0 Lr} [Gw nz wz] (lx0 : Nat) (rx0 : Nat) (uib : Nat → Value) (uic : Nat) (uid : Option Nat) (uie : Nat) (uif : Nat) (uig : List Value) (uih : Nat) (uii : Nat) (uij : Nat) : ∀ a r, M.syntax_parser_items_1_l0 a = some r → (L.z37 nz wz S0 w0 Lr lx0 rx0 uib uic uid uie uif uig uih uii uij) a r := (W.z39 lx0 rx0 uib uic uid uie uif uig uih uii uij).1

theorem W.z38 {nz wz S0 w0 Lr} [Gw nz wz] (lx0 : Nat) (rx0 : Nat) (uib : Nat → Value) (uic : Nat) (uid : Option Nat) (uie : Nat) (uif : Nat) (uig : List Value) (uih : Nat) (uii : Nat) (uij : Nat) : ∀ a r, M.syntax_parser_items_1_l1 a = some r → (L.z38 nz wz S0 w0 Lr lx0 rx0 uib uic uid uie uif uig uih uii uij) a r := (W.z39 lx0 rx0 uib uic uid uie uif uig uih uii uij).2

theorem W.z36 (uik : T27) (uil : Bool) (uiy : List Int) (uiz : T68) (r : (List Int) × T68) (h : M.syntax_parser_items_1 uik uil uiy uiz = some r) {nz wz S0 w0 Lr} [Gw nz wz] (lx0 rx0 uib uic uid uie uif uig uih uii uij uj0) (p0 : Hp nz wz S0 w0 ((some lx0, .obj (lpst 91 (lfr 20 [(2, (pt uic 0)), (3, .bool uil), (4, (pt uih 0)), (9, .func (.func 111) #[] #[(pt uii 0)])] uib) #[10] (rfAssign (Qin)) (rfBody (Qin)) rx0 .ready none)) :: (some uic, .row 28 (.i uik.Kind :: U4 uik.Set [.slice (Gp uid) uie uif, .i uik.Min, .i uik.Max]) 8 0) :: (uid, .row 28 uig (uif * kT27.size) 0) :: (some uih, .row 25 (U4 uiy []) 4 0) :: (some uii, .row 66 [(pt uij 0)] 1 0) :: (some uij, .row 69 [.string uiz.s, .i uiz.at_, .i uiz.deep, uj0] 4 0) :: Lr)) (uip : uik.Set.length = 4) (uj1 : Els kT27 S0 w0 uig uik.L) (uj2 : uik.L.length = uie) (uj3 : uiy.length = 4) (uj4 : PtO kT72 S0 w0 uj0 uiz.bad) :
  Calls Tryd.prog 111 #[yieldV lx0, (pt uii 0)] w0 (Rets (Post.z36 nz wz S0 w0 Lr lx0 rx0 uib uic uid uie uif uig uih uii uij uik uil r)) := by
 subst uj2
 refine calls_of_goes (fn := Tryd.f111) (c := B111) (by kernel_rfl) (by kernel_rfl) 20 (by kernel_rfl) ?_
 refine Goes.jp 22 [(0, yieldV lx0), (1, (pt uii 0))] (fun junk => ?_)
 delta M.syntax_parser_items_1 at h
 refine Goes.rn 6 [(3, .bool true)] Joc ?_
 have f7 : Els (kInt .u64) S0 w0 ((U4 uiy []) : List Value) uiy := (els_mk4 (k := .u64) uj3)
 exact Goes.jp 22 [(0, yieldV lx0), (1, (pt uii 0)), (3, .bool true)] (W.z37 lx0 rx0 uib uic uid uik.L.length uif uig uih uii uij _ _ h _ _ (Ext.refl S0 w0) ((U4 uiy []) : List Value) uj0 p0 uip uj1 rfl f7 rfl uj4)

def Qix := sub [1] B91
def Jom : List Item := [.code Qix]
def Qiy := sub [0] B91
def Jon : List Item := .inRegion (opsOf Qiy) [0] :: Jom
def Qiz := sub [1, 1] B91
def Joo : List Item := [.code Qiz]
def Qj0 := sub [1, 0] B91
def Jop : List Item := .inRegion (opsOf Qj0) [1, 2] :: Joo
def Qj1 := sub [1, 1, 1] B91
def Joq : List Item := [.code Qj1]
def Qj2 := sub [1, 1, 0] B91
def Jor : List Item := .inRegion (opsOf Qj2) [0] :: Joq
def Qj3 := sub [1, 1, 1, 1] B91
def Jos : List Item := [.code Qj3]
def Qj4 := sub [1, 1, 1, 0, 1] B91
def Jot : List Item := .code Qj4 :: Jos
def Qj5 := sub [1, 1, 1, 0, 0] B91
def Jou : List Item := .inRegion (opsOf Qj5) [1] :: Jot
def Jov : List Item := .inBlock 0 :: Jos
def Jow : List Item := .code Qin :: Jov
def Qj6 := sub [1, 1, 1, 1, 1] B91
def Jox : List Item := [.code Qj6]
def Qj7 := sub [1, 1, 1, 1, 0, 1] B91
def Joy : List Item := .code Qj7 :: Jox
def Qj8 := sub [1, 1, 1, 1, 0, 1, 0] B91
def Joz : List Item := .inRegion (opsOf Qj8) [0, 1, 2] :: Jox
def Qj9 := sub [1, 1, 1, 1, 1, 1] B91
def Jp0 : List Item := [.code Qj9]
def Qja := sub [1, 1, 1, 1, 1, 0] B91
def Jp1 : List Item := .inRegion (opsOf Qja) [0, 1, 2] :: Jp0
def Jp2 : List Item := .inRegion (opsOf Qja) [2] :: Jp0

def Post.z3a (gx0 : Nat) (r : T27 × T68) (v : Value) (w' : World) : Prop :=
 ∃ S' udw u1 u2 uds, v = (ag (.i r.1.Kind :: U4 r.1.Set [.slice udw u1 u2, .i r.1.Min, .i r.1.Max])) ∧ Ext S0 w0 S' w' ∧ Hp nz wz S' w' ((some gx0, .row 69 [.string r.2.s, .i r.2.at_, .i r.2.deep, uds] 4 0) :: Lr) ∧ r.1.Set.length = 4 ∧ Rd kT27 S' w' udw u2 r.1.L ∧ r.1.L.length = u1 ∧ PtO kT72 S' w' uds r.2.bad

theorem W.z3a (x0v : T68) (r : T27 × T68) (h : M.syntax_parser_class x0v = some r) {nz wz S0 w0 Lr} [Gw nz wz] (gx0 udu) (p0 : Hp nz wz S0 w0 ((some gx0, .row 69 [.string x0v.s, .i x0v.at_, .i x0v.deep, udu] 4 0) :: Lr)) (udv : PtO kT72 S0 w0 udu x0v.bad) :
  Calls Tryd.prog 91 #[(pt gx0 0)] w0 (Rets (Post.z3a nz wz S0 w0 Lr gx0 r)) := by
 refine calls_of_goes (fn := Tryd.f91) (c := B91) (by kernel_rfl) (by kernel_rfl) 19 (by kernel_rfl) ?_
 refine Goes.jp 20 [(0, (pt gx0 0))] (fun junk => ?_)
 delta M.syntax_parser_class at h
 refine Goes.rn 2 [] Jon ?_
 refine Op_.alloc 28 2 0 (.agg #[.i 0, .u 0, .u 0, .u 0, .u 0, .slice none 0 0, .i 0, .i 0]) [.i 0, .u 0, .u 0, .u 0, .u 0, .slice none 0 0, .i 0, .i 0] p0 Goes.v (by kernel_rfl) (by kernel_rfl) ?_
 intro b2 w2 z2 p2
 refine Goes.rn 4 [(6, (pt gx0 0))] Jop ?_
 have p2 := p2.fr 1
 refine bind_some' h fun y4 e5 h => ?_
 refine Goes.cal (.call { callee := .value (.func 48), args := #[(.tmp 6), (.const (.int .u8 94))], argTypes := #[66, 5] }) 7 4 48 _ (W.z2g x0v 94 y4 e5 gx0 udu p2 (udv.ext z2)) ?_
 rintro _ w3 ⟨S3, uga, rfl, z3, p3, ugb⟩
 refine Goes.rn 4 [(3, .bool y4.1)] Jor ?_
 refine Op_.alloc 25 4 0 (.agg #[.u 0, .u 0, .u 0, .u 0]) [.u 0, .u 0, .u 0, .u 0] p3 Goes.v (by kernel_rfl) (by kernel_rfl) ?_
 intro b6 w4 z4 p4
 refine Goes.rn 5 [(8, (pt gx0 0))] Jou ?_
 have p4 := p4.fr 1
 refine bind_some' h fun y8 e9 h => ?_
 refine Goes.cal (kc 101 [8] #[66]) 9 139 101 _ (W.z2l y4.2 y8 e9 gx0 uga p4 (ugb.ext z4)) ?_
 rintro _ w5 ⟨S5, uj5, rfl, z5, p5⟩
 refine Goes.rn 2 [] Jow ?_
 refine Goes.jp 20 [(2, (pt b2 0)), (3, .bool y4.1), (4, (pt b6 0)), (9, .func (.func 111) #[] #[(pt uj5 0)])] (fun uj6 => ?_)
 refine Goes.rangeF (f := 91) (.tmp 9) #[10] 111 #[] #[(pt uj5 0)] (by kernel_rfl) (by kernel_rfl) (fun _ => by kernel_rfl) p5 ?_
 intro r12 l13 w6 z6 p6
 have p6 : Hp nz wz S5 w6 ((none, .row 28 [] (0 * kT27.size) 0) :: (some l13, .obj (lpst 91 (lfr 20 [(2, (pt b2 0)), (3, .bool y4.1), (4, (pt b6 0)), (9, .func (.func 111) #[] #[(pt uj5 0)])] uj6) #[10] (rfAssign (Qin)) (rfBody (Qin)) r12 .ready none)) :: (some r12, .obj (.deferred (some []))) :: (some uj5, .row 66 [(pt gx0 0)] 1 0) :: (some gx0, .row 69 [.string y4.2.s, .i y4.2.at_, .i y4.2.deep, uga] 4 0) :: (some b6, .row 25 [.u 0, .u 0, .u 0, .u 0] 4 0) :: (some b2, .row 28 [.i 0, .u 0, .u 0, .u 0, .u 0, .slice none 0 0, .i 0, .i 0] 8 0) :: Lr) := p6.nilRow' 28
 have p6 := (((((p6.fr 4).fr 4).fr 5).fr 3).fr 6).fr 5
 refine bind_some' h fun y17 e18 h => ?_
 refine ⟨_, W.z36 (⟨0, [0, 0, 0, 0], ([] : List T27), 0, 0⟩ : T27) y4.1 [0, 0, 0, 0] y4.2 y17 e18 l13 r12 uj6 b2 none 0 0 [] b6 uj5 gx0 uga p6 rfl (Els.nil (K := kT27)) rfl rfl (ugb.ext ((z4.trans z5).trans z6)), ?_⟩
 rintro _ w7 ⟨S7, uj7, uj8, rfl, z7, p7, uj9, uja, ujb⟩
 refine Goes.endF 0 p7 rfl rfl ?_
 intro w8 z8 p8
 replace p8 : Hp nz wz S7 w8 ((some b2, .row 28 [.i 0, .u 0, .u 0, .u 0, .u 0, .slice (Gp none) 0 0, .i 0, .i 0] 8 0) :: (none, .row 28 [] (0 * kT27.size) 0) :: (some b6, .row 25 uj7 4 0) :: (some uj5, .row 66 [(pt gx0 0)] 1 0) :: (some gx0, .row 69 [.string y17.2.s, .i y17.2.at_, .i y17.2.deep, uj8] 4 0) :: (some r12, .obj (.deferred (some []))) :: Lr) := (p8.front 0 _ rfl).drop
 show Goes _ _ Jov _ _ _
 refine Goes.rn 6 [(15, .bool y4.1)] Joy ?_
 refine ite_some h (fun h19 h => ?_) (fun h19 h => ?_)
 ·
  rw [h19]
  refine Goes.rn 2 [] Joz ?_
  refine Op_.ldN 25 (.tmp 4) 16 25 ⟨b6, 0, none⟩ uj7 Goes.v (by kernel_rfl) (by kernel_rfl) (by rw [uja]; kernel_rfl) (At_all (p8.mem 2 rfl)) ?_
  refine bind_some' h fun y20 e21 h => ?_
  refine Goes.cal (kc 89 [16] #[25]) 17 25 89 _ (W.z2j y17.1 y20 e21 uj7 p8 (uj9.ext z8) uja) ?_
  rintro _ w9 ⟨S9, ujc, rfl, z9, p9, ujd, uje⟩
  have p9 := p9.dp 3
  refine Op_.stA 25 (.tmp 4) (.tmp 17) 0 2 b6 4 ujc p9 rfl uja Goes.s (by kernel_rfl) (by kernel_rfl) (by kernel_rfl) uje (Els.one ujd) ?_
  intro w10 z10 p10
  refine Goes.rn 3 [] Jp1 ?_
  refine Op_.ldN 25 (.tmp 4) 18 25 ⟨b6, 0, none⟩ ujc Goes.v (by kernel_rfl) (by kernel_rfl) (by rw [uje]; kernel_rfl) (At_all (p10.mem 2 rfl)) ?_
  have l22 := Els.len1 (ujd.ext z10) uje rfl
  obtain rfl := els_lit4 (ujd.ext z10) uje
  refine Goes.rn 1 [(19, (ag (.i 1 :: U4 y20 [.slice none 0 0, .i 0, .i 0])))] Jp2 ?_
  refine Op_.st 28 (.tmp 2) (.tmp 19) 0 0 b2 0 (ag (.i 1 :: U4 y20 [.slice none 0 0, .i 0, .i 0])) (.i 1 :: U4 y20 [.slice none 0 0, .i 0, .i 0]) p10 rfl Goes.s (by kernel_rfl) (by kernel_rfl) (by kernel_rfl) (by kernel_rfl) (Nat.zero_le _) (by simp only [List.length_cons, List.length_nil]; omega) (by simp [Value.oneCell']) ?_
  intro w11 z11 p11
  have p11 : Hp nz wz S9 w11 ((some b2, .row 28 (.i 1 :: U4 y20 [.slice none 0 0, .i 0, .i 0]) 8 0) :: (none, .row 28 [] (0 * kT27.size) 0) :: (some b6, .row 25 ((U4 y20 []) : List Value) 4 0) :: (some gx0, .row 69 [.string y17.2.s, .i y17.2.at_, .i y17.2.deep, uj8] 4 0) :: (some r12, .obj (.deferred (some []))) :: Lr) := p11
  refine Goes.rn 1 [] Jp0 ?_
  obtain rfl := Option.some.inj h
  have p11 := (p11.dp 1).dp 1
  have p11 := ((p11.fr 1).fr 1).fr 2
  refine Goes.retL ?_
  refine lvs_mark 0 rfl rfl p11 rfl ?_
  intro w12 z12 p12
  replace p12 : Hp nz wz S9 w12 ((some b2, .row 28 (.i 1 :: U4 y20 [.slice none 0 0, .i 0, .i 0]) 8 0) :: (some gx0, .row 69 [.string y17.2.s, .i y17.2.at_, .i y17.2.deep, uj8] 4 0) :: Lr) := p12.drop
  exact lvs_done (fn := Tryd.f91) rfl rfl rfl rfl (by kernel_rfl) (v := (ag (.i 1 :: U4 y20 [.slice none 0 0, .i 0, .i 0]))) (results_n1 (fn := Tryd.f91) (a := .cell 2 28) (by kernel_rfl) (resV_cell ⟨b2, 0, none⟩ (by kernel_rfl) (run_loadN (.i 1 :: U4 y20 [.slice none 0 0, .i 0, .i 0]) (by kernel_rfl) (by kernel_rfl) (p12.pa 0 0)))) ⟨S9, none, 0, 0, uj8, rfl, ((((((((((((Ext.refl S0 w0).trans z2).trans z3).trans z4).trans z5).trans z6).trans z7).trans z8).trans z9).trans z10).trans z11).trans z12), p12.drop, l22, Rd.none_, rfl, (ujb.ext ((((z8.trans z9).trans z10).trans z11).trans z12))⟩
 ·
  have ujf : y4.1 = false := by simpa using h19
  rw [ujf]
  refine Goes.rn 4 [] Jp1 ?_
  refine Op_.ldN 25 (.tmp 4) 18 25 ⟨b6, 0, none⟩ uj7 Goes.v (by kernel_rfl) (by kernel_rfl) (by rw [uja]; kernel_rfl) (At_all (p8.mem 2 rfl)) ?_
  have l23 := Els.len1 (uj9.ext z8) uja rfl
  obtain rfl := els_lit4 (uj9.ext z8) uja
  refine Goes.rn 1 [(19, (ag (.i 1 :: U4 y17.1 [.slice none 0 0, .i 0, .i 0])))] Jp2 ?_
  refine Op_.st 28 (.tmp 2) (.tmp 19) 0 0 b2 0 (ag (.i 1 :: U4 y17.1 [.slice none 0 0, .i 0, .i 0])) (.i 1 :: U4 y17.1 [.slice none 0 0, .i 0, .i 0]) p8 rfl Goes.s (by kernel_rfl) (by kernel_rfl) (by kernel_rfl) (by kernel_rfl) (Nat.zero_le _) (by simp only [List.length_cons, List.length_nil]; omega) (by simp [Value.oneCell']) ?_
  intro w13 z13 p13
  have p13 : Hp nz wz S7 w13 ((some b2, .row 28 (.i 1 :: U4 y17.1 [.slice none 0 0, .i 0, .i 0]) 8 0) :: (none, .row 28 [] (0 * kT27.size) 0) :: (some b6, .row 25 ((U4 y17.1 []) : List Value) 4 0) :: (some uj5, .row 66 [(pt gx0 0)] 1 0) :: (some gx0, .row 69 [.string y17.2.s, .i y17.2.at_, .i y17.2.deep, uj8] 4 0) :: (some r12, .obj (.deferred (some []))) :: Lr) := p13
  refine Goes.rn 1 [] Jp0 ?_
  obtain rfl := Option.some.inj h
  have p13 := ((p13.dp 1).dp 1).dp 1
  have p13 := ((p13.fr 1).fr 1).fr 2
  refine Goes.retL ?_
  refine lvs_mark 0 rfl rfl p13 rfl ?_
  intro w14 z14 p14
  replace p14 : Hp nz wz S7 w14 ((some b2, .row 28 (.i 1 :: U4 y17.1 [.slice none 0 0, .i 0, .i 0]) 8 0) :: (some gx0, .row 69 [.string y17.2.s, .i y17.2.at_, .i y17.2.deep, uj8] 4 0) :: Lr) := p14.drop
  exact lvs_done (fn := Tryd.f91) rfl rfl rfl rfl (by kernel_rfl) (v := (ag (.i 1 :: U4 y17.1 [.slice none 0 0, .i 0, .i 0]))) (results_n1 (fn := Tryd.f91) (a := .cell 2 28) (by kernel_rfl) (resV_cell ⟨b2, 0, none⟩ (by kernel_rfl) (run_loadN (.i 1 :: U4 y17.1 [.slice none 0 0, .i 0, .i 0]) (by kernel_rfl) (by kernel_rfl) (p14.pa 0 0)))) ⟨S7, none, 0, 0, uj8, rfl, ((((((((((Ext.refl S0 w0).trans z2).trans z3).trans z4).trans z5).trans z6).trans z7).trans z8).trans z13).trans z14), p14.drop, l23, Rd.none_, rfl, (ujb.ext ((z8.trans z13).trans z14))⟩

def Qjb := sub [1] B95
def Jp3 : List Item := [.code Qjb]
def Qjc := sub [0] B95
def Jp4 : List Item := .inRegion (opsOf Qjc) [2, 3] :: Jp3
def Qjd := sub [1, 0] B95
def Jp5 : List Item := [.inRegion (opsOf Qjd) [4, 5]]

def Post.z3b (gx0 : Nat) (r : T68) (v : Value) (w' : World) : Prop :=
 ∃ S' uds, v = .tuple #[] ∧ Ext S0 w0 S' w' ∧ Hp nz wz S' w' ((some gx0, .row 69 [.string r.s, .i r.at_, .i r.deep, uds] 4 0) :: Lr) ∧ PtO kT72 S' w' uds r.bad

theorem W.z3b (x0v : T68) (x1 : Int) (r : T68) (h : M.syntax_parser_need x0v x1 = some r) {nz wz S0 w0 Lr} [Gw nz wz] (gx0 udu) (p0 : Hp nz wz S0 w0 ((some gx0, .row 69 [.string x0v.s, .i x0v.at_, .i x0v.deep, udu] 4 0) :: Lr)) (udv : PtO kT72 S0 w0 udu x0v.bad) :
  Calls Tryd.prog 95 #[(pt gx0 0), .int .u8 x1] w0 (Rets (Post.z3b nz wz S0 w0 Lr gx0 r)) := by
 refine calls_of_goes (fn := Tryd.f95) (c := B95) (by kernel_rfl) (by kernel_rfl) 12 (by kernel_rfl) ?_
 refine Goes.jp 14 [(0, (pt gx0 0)), (1, .int .u8 x1)] (fun junk => ?_)
 delta M.syntax_parser_need at h
 refine Goes.rn 4 [(4, (pt gx0 0)), (5, .int .u8 x1)] Jp4 ?_
 refine bind_some' h fun y2 e3 h => ?_
 refine Goes.cal (kc 48 [4, 5] #[66, 5]) 6 4 48 _ (W.z2g x0v x1 y2 e3 gx0 udu p0 udv) ?_
 rintro _ w2 ⟨S2, udx, rfl, z2, p2, udy⟩
 refine Goes.rn 2 [(7, .bool (!y2.1))] Jp3 ?_
 refine ite_some h (fun h4 h => ?_) (fun h4 h => ?_)
 ·
  rw [h4]
  refine Goes.rn 2 [] [] ?_
  obtain rfl := Option.some.inj h
  exact Goes.end_ (fn := Tryd.f95) (by kernel_rfl) (v := .tuple #[]) (by kernel_rfl) ⟨S2, udx, rfl, ((Ext.refl S0 w0).trans z2), p2, udy⟩
 ·
  have h4' : y2.1 = false := by simpa using h4
  rw [h4']
  refine Goes.rn 6 [(8, (pt gx0 0)), (9, (pt gx0 0)), (10, (pt gx0 0)), (11, (pt gx0 1))] Jp5 ?_
  refine Goes.ld 3 (.tmp 11) 12 3 ⟨gx0, 1, none⟩ (.i y2.2.at_) (p2.c 0 1) ?_
  refine bind_some' h fun y5 e6 h => ?_
  refine Goes.cal (kc 31 [8, 12] #[66, 3]) 13 28 31 _ (W.z2f y2.2 y2.2.at_ y5 e6 gx0 udx p2 udy) ?_
  rintro _ w3 ⟨S3, ujg, ujh, uji, uga, rfl, z3, p3, ujj, ujk, rfl, ugb⟩
  refine Goes.rn 1 [] [] ?_
  obtain rfl := Option.some.inj h
  exact Goes.end_ (fn := Tryd.f95) (by kernel_rfl) (v := .tuple #[]) (by kernel_rfl) ⟨S3, uga, rfl, (((Ext.refl S0 w0).trans z2).trans z3), p3, ugb⟩

def Qje := sub [1, 1] B106
def Jp6 : List Item := [.code Qje]
def Qjf := sub [1, 0] B106
def Jp7 : List Item := .inRegion (opsOf Qjf) [0, 1, 2, 3, 4, 5, 6, 7, 8] :: Jp6
def Jp8 : List Item := .inRegion (opsOf Qjf) [4, 5, 6, 7, 8] :: Jp6

def Post.z3c (gx0 : Nat) (ujl : Nat) (r : Bool × T68) (v : Value) (w' : World) : Prop :=
 ∃ S' ujm, v = .bool r.1 ∧ Ext S0 w0 S' w' ∧ Hp nz wz S' w' ((some gx0, .row 66 [(pt ujl 0)] 1 0) :: (some ujl, .row 69 [.string r.2.s, .i r.2.at_, .i r.2.deep, ujm] 4 0) :: Lr) ∧ PtO kT72 S' w' ujm r.2.bad

theorem W.z3c (ujn : T68) (r : Bool × T68) (h : M.syntax_parser_number_1 ujn = some r) {nz wz S0 w0 Lr} [Gw nz wz] (gx0 ujl ujo) (p0 : Hp nz wz S0 w0 ((some gx0, .row 66 [(pt ujl 0)] 1 0) :: (some ujl, .row 69 [.string ujn.s, .i ujn.at_, .i ujn.deep, ujo] 4 0) :: Lr)) (ujp : PtO kT72 S0 w0 ujo ujn.bad) :
  Calls Tryd.prog 106 #[(pt gx0 0)] w0 (Rets (Post.z3c nz wz S0 w0 Lr gx0 ujl r)) := by
 refine calls_of_goes (fn := Tryd.f106) (c := B106) (by kernel_rfl) (by kernel_rfl) 9 (by kernel_rfl) ?_
 refine Goes.jp 10 [(0, (pt gx0 0))] (fun junk => ?_)
 delta M.syntax_parser_number_1 at h
 refine Goes.rn 6 [(1, .bool false)] Jp7 ?_
 refine Goes.ld 66 (.tmp 0) 2 66 ⟨gx0, 0, none⟩ ((pt ujl 0)) (p0.c 0 0) ?_
 have p0 := p0.fr 1
 refine bind_some' h fun y3 e4 h => ?_
 refine Goes.cal (kc 65 [2] #[66]) 3 5 65 _ (W.z2d ujn y3 e4 ujl ujo p0 ujp) ?_
 rintro _ w2 ⟨S2, udx, rfl, z2, p2, udy⟩
 refine Goes.rn 2 [(4, .bool (decide (y3.1 ≥ 48))), (5, .bool (decide (y3.1 ≥ 48)))] Jp8 ?_
 refine ite_some h (fun h5 h => ?_) (fun h5 h => ?_)
 ·
  rw [decide_eq_true h5]
  refine Goes.ld 66 (.tmp 0) 6 66 ⟨gx0, 0, none⟩ ((pt ujl 0)) (p2.c 1 0) ?_
  refine bind_some' h fun y6 e7 h => ?_
  refine Goes.cal (kc 65 [6] #[66]) 7 5 65 _ (W.z2d y3.2 y6 e7 ujl udx p2 udy) ?_
  rintro _ w3 ⟨S3, uga, rfl, z3, p3, ugb⟩
  refine Goes.rn 4 [(8, .bool (decide (y6.1 ≤ 57))), (9, .bool (decide (y6.1 ≤ 57))), (1, .bool (decide (y6.1 ≤ 57)))] Jp6 ?_
  obtain rfl := Option.some.inj h
  have p3 := (p3.fr 0).fr 1
  exact Goes.rt Tryd.f106 (.bool (decide (y6.1 ≤ 57))) ⟨S3, uga, rfl, (((Ext.refl S0 w0).trans z2).trans z3), p3, ugb⟩
 ·
  rw [decide_eq_false h5]
  refine Goes.rn 6 [(6, undef), (7, undef), (8, undef), (9, .bool false), (1, .bool false)] Jp6 ?_
  obtain rfl := Option.some.inj h
  have p2 := (p2.fr 0).fr 1
  exact Goes.rt Tryd.f106 (.bool false) ⟨S2, udx, rfl, ((Ext.refl S0 w0).trans z2), p2, udy⟩

def Qjg := sub [1, 1, 1, 1, 1, 1] B94
def Jp9 : List Item := [.code Qjg]
def Qjh := sub [1, 1, 1, 1, 1, 0, 1] B94
def Jpa : List Item := .code Qjh :: Jp9
def Qji := sub [1, 1, 1, 1, 1, 0, 1, 0, 1] B94
def Jpb : List Item := .code Qji :: Jp9
def Qjj := sub [1, 1, 1, 1, 1, 0, 1, 0, 0] B94
def Jpc : List Item := .inRegion (opsOf Qjj) [2, 3, 4, 5, 6, 7] :: Jpb
def Jpd : List Item := .inRegion (opsOf Qji) [0, 1, 2, 3, 4, 5, 6, 7] :: Jp9
def Jpe : List Item := .inRegion (opsOf Qji) [3, 4, 5, 6, 7] :: Jp9
def Jpf : List Item := .inRegion (opsOf Qji) [7] :: Jp9
def Qjk := sub [1, 1, 1, 1, 1, 1, 1] B94
def Jpg : List Item := [.code Qjk]

def Post.z3d (gx0 : Nat) (r : Int × T68) (v : Value) (w' : World) : Prop :=
 ∃ S' uds, v = .i r.1 ∧ Ext S0 w0 S' w' ∧ Hp nz wz S' w' ((some gx0, .row 69 [.string r.2.s, .i r.2.at_, .i r.2.deep, uds] 4 0) :: Lr) ∧ PtO kT72 S' w' uds r.2.bad

def L.z3e (gx0 : Nat) : Int × Bool × T68 → (Int × T68) → Prop := fun ⟨x4, x25, e0v⟩ r => ∀ S1 w1, Ext S0 w0 S1 w1 → ∀ gx1 uds (_ : Hp nz wz S1 w1 ((some gx1, .row 66 [(pt gx0 0)] 1 0) :: (some gx0, .row 69 [.string e0v.s, .i e0v.at_, .i e0v.deep, uds] 4 0) :: Lr)) (_ : PtO kT72 S1 w1 uds e0v.bad) (junk : Nat → Value),
 Goes Tryd.prog (base 94) Jpa ⟨lfr 41 [(1, (pt gx1 0)), (4, .i x4), (25, .bool x25)] junk, []⟩ w1 (Done Tryd.prog 94 (Rets (Post.z3d nz wz S0 w0 Lr gx0 r)))

theorem W.z3e {nz wz S0 w0 Lr} [Gw nz wz] (gx0 : Nat) : ∀ a r, M.syntax_parser_number_l0 a = some r → L.z3e nz wz S0 w0 Lr gx0 a r := by
 intro ⟨x4, x25, e0v⟩ r h S1 w1 hx gx1 uds p1 udt junk
 rw [M.syntax_parser_number_l0] at h
 try dsimp only at h
 refine ite_some h (fun h13 h => ?_) (fun h13 h => ?_)
 ·
  rw [h13]
  refine Goes.rn 5 [(26, .i x4), (27, .i (wr .i64 (10 * x4)))] Jpc ?_
  refine Goes.ld 66 (.tmp 1) 28 66 ⟨gx1, 0, none⟩ ((pt gx0 0)) (p1.c 0 0) ?_
  have p1 := p1.fr 1
  refine bind_some' h fun y14 e15 h => ?_
  refine Goes.cal (kc 65 [28] #[66]) 29 5 65 _ (W.z2d e0v y14 e15 gx0 uds p1 udt) ?_
  rintro _ w7 ⟨S7, ujq, rfl, z7, p7, ujr⟩
  refine Goes.rn 6 [(30, .int .u8 (wr .u8 (y14.1 - 48))), (31, .i (wr .i64 (wr .u8 (y14.1 - 48)))), (32, .i (wr .i64 ((wr .i64 (10 * x4)) + (wr .i64 (wr .u8 (y14.1 - 48)))))), (4, .i (wr .i64 ((wr .i64 (10 * x4)) + (wr .i64 (wr .u8 (y14.1 - 48))))))] Jpd ?_
  refine Goes.ld 66 (.tmp 1) 33 66 ⟨gx1, 0, none⟩ ((pt gx0 0)) (p7.c 1 0) ?_
  refine Goes.rn 2 [(34, (pt gx0 0)), (35, (pt gx0 1))] Jpe ?_
  refine Goes.ld 3 (.tmp 35) 36 3 ⟨gx0, 1, none⟩ (.i y14.2.at_) (p7.c 0 1) ?_
  refine Goes.rn 3 [(37, .i (wr .i64 (y14.2.at_ + 1))), (38, (pt gx0 0)), (39, (pt gx0 1))] Jpf ?_
  refine Op_.st 3 (.tmp 39) (.tmp 37) 0 0 gx0 1 (.i (wr .i64 (y14.2.at_ + 1))) [.i (wr .i64 (y14.2.at_ + 1))] p7 rfl Goes.s (by kernel_rfl) (by kernel_rfl) (by kernel_rfl) (by kernel_rfl) (Nat.zero_le _) (by simp only [List.length_cons, List.length_nil]; omega) (by simp [Value.oneCell']) ?_
  intro w8 z8 p8
  have p8 : Hp nz wz S7 w8 ((some gx0, .row 69 [.string y14.2.s, .i (wr .i64 (y14.2.at_ + 1)), .i y14.2.deep, ujq] 4 0) :: (some gx1, .row 66 [(pt gx0 0)] 1 0) :: Lr) := p8
  refine Goes.rn 6 [(40, .i (wr .i64 ((wr .i64 (10 * x4)) + (wr .i64 (wr .u8 (y14.1 - 48)))))), (2, .i (wr .i64 ((wr .i64 (10 * x4)) + (wr .i64 (wr .u8 (y14.1 - 48))))))] Jpg ?_
  obtain rfl := Option.some.inj h
  have p8 := p8.dp 1
  exact Goes.rt Tryd.f94 (.i (wr .i64 ((wr .i64 (10 * x4)) + (wr .i64 (wr .u8 (y14.1 - 48)))))) ⟨S7, ujq, rfl, ((hx.trans z7).trans z8), p8, (ujr.ext z8)⟩
 ·
  have u20 : x25 = false := by simpa using h13
  rw [u20]
  refine Goes.rn 7 [(40, .i x4), (2, .i x4)] Jpg ?_
  obtain rfl := Option.some.inj h
  have p1 := p1.dp 0
  exact Goes.rt Tryd.f94 (.i x4) ⟨S1, uds, rfl, hx, p1, udt⟩

def Qjl := sub [1] B94
def Jph : List Item := [.code Qjl]
def Qjm := sub [0] B94
def Jpi : List Item := .inRegion (opsOf Qjm) [0, 1] :: Jph
def Qjn := sub [1, 1, 1] B94
def Jpj : List Item := [.code Qjn]
def Qjo := sub [1, 1, 0, 1] B94
def Jpk : List Item := .code Qjo :: Jpj
def Qjp := sub [1, 1, 0, 0] B94
def Jpl : List Item := .inRegion (opsOf Qjp) [1, 2] :: Jpk
def Qjq := sub [1, 1, 1, 1] B94
def Jpm : List Item := [.code Qjq]
def Qjr := sub [1, 1, 1, 0] B94
def Jpn : List Item := .inRegion (opsOf Qjr) [0, 1, 2, 3, 4] :: Jpm
def Qjs := sub [1, 1, 1, 1, 1] B94
def Jpo : List Item := [.code Qjs]
def Qjt := sub [1, 1, 1, 1, 0] B94
def Jpp : List Item := .inRegion (opsOf Qjt) [0, 1, 2, 3, 4, 5, 6, 7] :: Jpo
def Jpq : List Item := .inRegion (opsOf Qjt) [3, 4, 5, 6, 7] :: Jpo
def Jpr : List Item := .inRegion (opsOf Qjt) [7] :: Jpo
def Qju := sub [1, 1, 1, 1, 1, 0, 0] B94
def Jps : List Item := .inRegion (opsOf Qju) [3, 4, 5] :: Jpa
def Jpt : List Item := .inRegion (opsOf Qju) [4, 5] :: Jpa
def Qjv := sub [1, 1, 0, 1, 0, 1] B94
def Jpu : List Item := .code Qjv :: Jpj

theorem W.z3d (x0v : T68) (r : Int × T68) (h : M.syntax_parser_number x0v = some r) {nz wz S0 w0 Lr} [Gw nz wz] (gx0 udu) (p0 : Hp nz wz S0 w0 ((some gx0, .row 69 [.string x0v.s, .i x0v.at_, .i x0v.deep, udu] 4 0) :: Lr)) (udv : PtO kT72 S0 w0 udu x0v.bad) :
  Calls Tryd.prog 94 #[(pt gx0 0)] w0 (Rets (Post.z3d nz wz S0 w0 Lr gx0 r)) := by
 refine calls_of_goes (fn := Tryd.f94) (c := B94) (by kernel_rfl) (by kernel_rfl) 40 (by kernel_rfl) ?_
 refine Goes.jp 41 [(0, (pt gx0 0))] (fun junk => ?_)
 delta M.syntax_parser_number at h
 refine Goes.rn 2 [] Jpi ?_
 refine Op_.box 66 (.tmp 0) 1 0 ((pt gx0 0)) [(pt gx0 0)] p0 Goes.v (by kernel_rfl) (by kernel_rfl) ?_
 intro b2 w2 z2 p2
 refine Goes.rn 11 [(2, .i 0), (5, .func (.func 106) #[] #[(pt b2 0)]), (3, .func (.func 106) #[] #[(pt b2 0)]), (6, .func (.func 106) #[] #[(pt b2 0)])] Jpl ?_
 refine bind_some' h fun y4 e5 h => ?_
 refine Goes.cal (.call { callee := .value (.tmp 6), args := #[], argTypes := #[] }) 7 4 106 _ (W.z3c x0v y4 e5 b2 gx0 udu p2 (udv.ext z2)) ?_
 rintro _ w3 ⟨S3, ujs, rfl, z3, p3, ujt⟩
 refine Goes.rn 2 [(8, .bool (!y4.1))] Jpk ?_
 refine ite_some h (fun h6 h => ?_) (fun h6 h => ?_)
 ·
  rw [h6]
  refine Goes.rn 4 [] Jpn ?_
  refine Goes.ld 66 (.tmp 1) 9 66 ⟨b2, 0, none⟩ ((pt gx0 0)) (p3.c 0 0) ?_
  have p3 := p3.fr 1
  refine bind_some' h fun y7 e8 h => ?_
  refine Goes.cal (kc 65 [9] #[66]) 10 5 65 _ (W.z2d y4.2 y7 e8 gx0 ujs p3 ujt) ?_
  rintro _ w4 ⟨S4, ufu, rfl, z4, p4, ufx⟩
  refine Goes.rn 6 [(11, .int .u8 (wr .u8 (y7.1 - 48))), (12, .i (wr .i64 (wr .u8 (y7.1 - 48)))), (4, .i (wr .i64 (wr .u8 (y7.1 - 48))))] Jpp ?_
  refine Goes.ld 66 (.tmp 1) 13 66 ⟨b2, 0, none⟩ ((pt gx0 0)) (p4.c 1 0) ?_
  refine Goes.rn 2 [(14, (pt gx0 0)), (15, (pt gx0 1))] Jpq ?_
  refine Goes.ld 3 (.tmp 15) 16 3 ⟨gx0, 1, none⟩ (.i y7.2.at_) (p4.c 0 1) ?_
  refine Goes.rn 3 [(17, .i (wr .i64 (y7.2.at_ + 1))), (18, (pt gx0 0)), (19, (pt gx0 1))] Jpr ?_
  refine Op_.st 3 (.tmp 19) (.tmp 17) 0 0 gx0 1 (.i (wr .i64 (y7.2.at_ + 1))) [.i (wr .i64 (y7.2.at_ + 1))] p4 rfl Goes.s (by kernel_rfl) (by kernel_rfl) (by kernel_rfl) (by kernel_rfl) (Nat.zero_le _) (by simp only [List.length_cons, List.length_nil]; omega) (by simp [Value.oneCell']) ?_
  intro w5 z5 p5
  have p5 : Hp nz wz S4 w5 ((some gx0, .row 69 [.string y7.2.s, .i (wr .i64 (y7.2.at_ + 1)), .i y7.2.deep, ufu] 4 0) :: (some b2, .row 66 [(pt gx0 0)] 1 0) :: Lr) := p5
  refine Goes.rn 7 [(20, .i (wr .i64 (wr .u8 (y7.1 - 48)))), (21, .bool (decide (wr .i64 (wr .u8 (y7.1 - 48)) > 0))), (22, .bool (decide (wr .i64 (wr .u8 (y7.1 - 48)) > 0)))] Jps ?_
  refine ite_some h (fun h9 h => ?_) (fun h9 h => ?_)
  ·
   rw [decide_eq_true h9]
   refine Goes.rn 1 [(23, .func (.func 106) #[] #[(pt b2 0)])] Jpt ?_
   have p5 := (p5.fr 0).fr 1
   refine bind_some' h fun y10 e11 h => ?_
   refine Goes.cal (.call { callee := .value (.tmp 23), args := #[], argTypes := #[] }) 24 4 106 _ (W.z3c (⟨y7.2.s, wr .i64 (y7.2.at_ + 1), y7.2.deep, y7.2.bad⟩ : T68) y10 e11 b2 gx0 ufu p5 (ufx.ext z5)) ?_
   rintro _ w6 ⟨S6, uju, rfl, z6, p6, ujv⟩
   refine Goes.rn 2 [(25, .bool y10.1)] Jpa ?_
   exact Goes.jp 41 [(1, (pt b2 0)), (4, .i (wr .i64 (wr .u8 (y7.1 - 48)))), (25, .bool y10.1)] (W.z3e gx0 _ _ h _ _ ((((((Ext.refl S0 w0).trans z2).trans z3).trans z4).trans z5).trans z6) b2 uju p6 ujv)
  ·
   rw [decide_eq_false h9]
   refine Goes.rn 4 [(23, undef), (24, undef), (25, .bool false)] Jpa ?_
   have p5 := (p5.fr 0).fr 1
   exact Goes.jp 41 [(1, (pt b2 0)), (4, .i (wr .i64 (wr .u8 (y7.1 - 48)))), (25, .bool false)] (W.z3e gx0 _ _ h _ _ (((((Ext.refl S0 w0).trans z2).trans z3).trans z4).trans z5) b2 ufu p5 (ufx.ext z5))
 ·
  have h6' : y4.1 = false := by simpa using h6
  rw [h6']
  refine Goes.rn 5 [(2, .i (-1))] Jpu ?_
  obtain rfl := Option.some.inj h
  have p3 := p3.dp 0
  exact Goes.rt Tryd.f94 (.i (-1)) ⟨S3, ujs, rfl, (((Ext.refl S0 w0).trans z2).trans z3), p3, ujt⟩

def Qjw := sub [1, 1, 1, 1, 1] B79
def Jpv : List Item := [.code Qjw]
def Qjx := sub [1, 1, 1, 1, 1, 1] B79
def Jpw : List Item := [.code Qjx]
def Qjy := sub [1, 1, 1, 1, 1, 0] B79
def Jpx : List Item := .inRegion (opsOf Qjy) [1] :: Jpw
def Qjz := sub [1, 1, 1, 1, 1, 1, 1] B79
def Jpy : List Item := [.code Qjz]
def Qk0 := sub [1, 1, 1, 1, 1, 1, 0, 1] B79
def Jpz : List Item := .code Qk0 :: Jpy
def Qk1 := sub [1, 1, 1, 1, 1, 1, 0, 0] B79
def Jq0 : List Item := .inRegion (opsOf Qk1) [3, 4, 5, 6, 7, 8, 9, 10, 11, 12, 13, 14] :: Jpz
def Qk2 := sub [1, 1, 1, 1, 1, 1, 0, 1, 0] B79
def Jq1 : List Item := .code Qk2 :: Jpy
def Jq2 : List Item := .inRegion (opsOf Qk2) [2] :: Jpy
def Qk3 := sub [1, 1, 1, 1, 1, 1, 1, 1] B79
def Jq3 : List Item := [.code Qk3]
def Jq4 : List Item := .inRegion (opsOf Qk1) [7, 8, 9, 10, 11, 12, 13, 14] :: Jpz
def Jq5 : List Item := .inRegion (opsOf Qk1) [10, 11, 12, 13, 14] :: Jpz
def Qk4 := sub [1, 1, 1, 1, 1, 1, 1, 0] B79
def Jq6 : List Item := .inRegion (opsOf Qk4) [] :: Jq3

def Post.z3f (gx0 : Nat) (r : Int × Int × T68) (v : Value) (w' : World) : Prop :=
 ∃ S' uds, v = .tuple #[.i r.1, .i r.2.1] ∧ Ext S0 w0 S' w' ∧ Hp nz wz S' w' ((some gx0, .row 69 [.string r.2.2.s, .i r.2.2.at_, .i r.2.2.deep, uds] 4 0) :: Lr) ∧ PtO kT72 S' w' uds r.2.2.bad

def L.z3g (gx0 : Nat) : Int × Int × Int × T68 → (Int × Int × T68) → Prop := fun ⟨x1, x6, x7, e0v⟩ r => ∀ S1 w1, Ext S0 w0 S1 w1 → ∀ uds (_ : Hp nz wz S1 w1 ((some gx0, .row 69 [.string e0v.s, .i e0v.at_, .i e0v.deep, uds] 4 0) :: Lr)) (_ : PtO kT72 S1 w1 uds e0v.bad) (junk : Nat → Value),
 Goes Tryd.prog (base 79) Jpv ⟨lfr 45 [(0, (pt gx0 0)), (1, .i x1), (6, .i x6), (7, .i x7)] junk, []⟩ w1 (Done Tryd.prog 79 (Rets (Post.z3f nz wz S0 w0 Lr gx0 r)))

theorem W.z3g {nz wz S0 w0 Lr} [Gw nz wz] (gx0 : Nat) : ∀ a r, M.syntax_parser_counted_l1 a = some r → L.z3g nz wz S0 w0 Lr gx0 a r := by
 intro ⟨x1, x6, x7, e0v⟩ r h S1 w1 hx uds p1 udt junk
 rw [M.syntax_parser_counted_l1] at h
 try dsimp only at h
 refine Goes.rn 3 [(23, (pt gx0 0))] Jpx ?_
 refine bind_some' h fun y12 e13 h => ?_
 refine Goes.cal (.call { callee := .value (.func 95), args := #[(.tmp 23), (.const (.int .u8 125))], argTypes := #[66, 5] }) 24 0 95 _ (W.z3b e0v 125 y12 e13 gx0 uds p1 udt) ?_
 rintro _ w6 ⟨S6, uhj, rfl, z6, p6, uhk⟩
 refine Goes.rn 7 [(25, .i x6), (26, .bool (decide (x6 > 64))), (27, .bool (decide (x6 > 64)))] Jq0 ?_
 refine ite_some h (fun h14 h => ?_) (fun h14 h => ?_)
 ·
  rw [decide_eq_true h14]
  refine Goes.rn 14 [(28, undef), (29, undef), (30, .bool true), (31, .bool true), (32, undef), (33, undef), (34, undef), (35, undef), (36, undef), (37, undef), (38, undef), (39, .bool true)] Jq1 ?_
  refine Goes.rn 3 [(40, (pt gx0 0)), (41, .i x1)] Jq2 ?_
  refine bind_some' h fun y15 e16 h => ?_
  refine Goes.cal (kc 31 [40, 41] #[66, 3]) 42 28 31 _ (W.z2f y12 x1 y15 e16 gx0 uhj p6 uhk) ?_
  rintro _ w7 ⟨S7, ujw, ujx, ujy, ujq, rfl, z7, p7, ujz, uk0, rfl, ujr⟩
  refine Goes.rn 8 [(43, .i x6), (44, .i x7), (4, .i x6), (5, .i x7)] Jq3 ?_
  obtain rfl := Option.some.inj h
  exact Goes.rt Tryd.f79 (.tuple #[.i x6, .i x7]) ⟨S7, ujq, rfl, ((hx.trans z6).trans z7), p7, ujr⟩
 ·
  rw [decide_eq_false h14]
  refine Goes.rn 4 [(28, .i x7), (29, .bool (decide (x7 > 64))), (30, .bool (decide (x7 > 64))), (31, .bool (decide (x7 > 64)))] Jq4 ?_
  refine ite_some h (fun h17 h => ?_) (fun h17 h => ?_)
  ·
   rw [decide_eq_true h17]
   refine Goes.rn 13 [(32, undef), (33, undef), (34, undef), (35, undef), (36, undef), (37, undef), (38, undef), (39, .bool true), (40, (pt gx0 0)), (41, .i x1)] Jq2 ?_
   refine bind_some' h fun y18 e19 h => ?_
   refine Goes.cal (kc 31 [40, 41] #[66, 3]) 42 28 31 _ (W.z2f y12 x1 y18 e19 gx0 uhj p6 uhk) ?_
   rintro _ w8 ⟨S8, ugm, ugn, ugo, ugp, rfl, z8, p8, ugq, ugr, rfl, ugs⟩
   refine Goes.rn 8 [(43, .i x6), (44, .i x7), (4, .i x6), (5, .i x7)] Jq3 ?_
   obtain rfl := Option.some.inj h
   exact Goes.rt Tryd.f79 (.tuple #[.i x6, .i x7]) ⟨S8, ugp, rfl, ((hx.trans z6).trans z8), p8, ugs⟩
  ·
   rw [decide_eq_false h17]
   refine Goes.rn 3 [(32, .i x7), (33, .bool (decide (x7 ≥ 0))), (34, .bool (decide (x7 ≥ 0)))] Jq5 ?_
   refine ite_some h (fun h20 h => ?_) (fun h20 h => ?_)
   ·
    rw [decide_eq_true h20]
    refine Goes.rn 6 [(35, .i x6), (36, .i x7), (37, .bool (decide (x6 > x7))), (38, .bool (decide (x6 > x7))), (39, .bool (decide (x6 > x7)))] Jpz ?_
    refine ite_some h (fun h21 h => ?_) (fun h21 h => ?_)
    ·
     rw [decide_eq_true h21]
     refine Goes.rn 4 [(40, (pt gx0 0)), (41, .i x1)] Jq2 ?_
     refine bind_some' h fun y22 e23 h => ?_
     refine Goes.cal (kc 31 [40, 41] #[66, 3]) 42 28 31 _ (W.z2f y12 x1 y22 e23 gx0 uhj p6 uhk) ?_
     rintro _ w9 ⟨S9, uk1, u14, u15, uk2, rfl, z9, p9, u17, u18, rfl, uk3⟩
     refine Goes.rn 8 [(43, .i x6), (44, .i x7), (4, .i x6), (5, .i x7)] Jq3 ?_
     obtain rfl := Option.some.inj h
     exact Goes.rt Tryd.f79 (.tuple #[.i x6, .i x7]) ⟨S9, uk2, rfl, ((hx.trans z6).trans z9), p9, uk3⟩
    ·
     rw [decide_eq_false h21]
     refine Goes.rn 9 [(43, .i x6), (44, .i x7), (4, .i x6), (5, .i x7)] Jq3 ?_
     obtain rfl := Option.some.inj h
     exact Goes.rt Tryd.f79 (.tuple #[.i x6, .i x7]) ⟨S6, uhj, rfl, (hx.trans z6), p6, uhk⟩
   ·
    rw [decide_eq_false h20]
    refine Goes.rn 14 [(35, undef), (36, undef), (37, undef), (38, .bool false), (39, .bool false), (43, .i x6), (44, .i x7), (4, .i x6), (5, .i x7)] Jq6 ?_
    refine Goes.rn 1 [] Jq3 ?_
    obtain rfl := Option.some.inj h
    exact Goes.rt Tryd.f79 (.tuple #[.i x6, .i x7]) ⟨S6, uhj, rfl, (hx.trans z6), p6, uhk⟩

def Qk5 := sub [1, 1, 1] B79
def Jq7 : List Item := [.code Qk5]
def Qk6 := sub [1, 1, 1, 1, 0, 1] B79
def Jq8 : List Item := .code Qk6 :: Jpv
def Qk7 := sub [1, 1, 1, 1, 0, 0] B79
def Jq9 : List Item := .inRegion (opsOf Qk7) [1] :: Jq8
def Qk8 := sub [1, 1, 1, 1, 0, 1, 0] B79
def Jqa : List Item := .inRegion (opsOf Qk8) [1, 2] :: Jpv

def L.z3h (gx0 : Nat) : Int × Int × T68 → (Int × Int × T68) → Prop := fun ⟨x1, x6, e0v⟩ r => ∀ S1 w1, Ext S0 w0 S1 w1 → ∀ uds (_ : Hp nz wz S1 w1 ((some gx0, .row 69 [.string e0v.s, .i e0v.at_, .i e0v.deep, uds] 4 0) :: Lr)) (_ : PtO kT72 S1 w1 uds e0v.bad) (junk : Nat → Value),
 Goes Tryd.prog (base 79) Jq7 ⟨lfr 45 [(0, (pt gx0 0)), (1, .i x1), (6, .i x6)] junk, []⟩ w1 (Done Tryd.prog 79 (Rets (Post.z3f nz wz S0 w0 Lr gx0 r)))

theorem W.z3h {nz wz S0 w0 Lr} [Gw nz wz] (gx0 : Nat) : ∀ a r, M.syntax_parser_counted_l0 a = some r → L.z3h nz wz S0 w0 Lr gx0 a r := by
 intro ⟨x1, x6, e0v⟩ r h S1 w1 hx uds p1 udt junk
 rw [M.syntax_parser_counted_l0] at h
 try dsimp only at h
 refine Goes.rn 9 [(18, .i x6), (7, .i x6), (19, (pt gx0 0))] Jq9 ?_
 refine bind_some' h fun y7 e8 h => ?_
 refine Goes.cal (.call { callee := .value (.func 48), args := #[(.tmp 19), (.const (.int .u8 44))], argTypes := #[66, 5] }) 20 4 48 _ (W.z2g e0v 44 y7 e8 gx0 uds p1 udt) ?_
 rintro _ w4 ⟨S4, ufu, rfl, z4, p4, ufx⟩
 refine Goes.rn 1 [] Jq8 ?_
 refine ite_some h (fun h9 h => ?_) (fun h9 h => ?_)
 ·
  rw [h9]
  refine Goes.rn 3 [(21, (pt gx0 0))] Jqa ?_
  refine bind_some' h fun y10 e11 h => ?_
  refine Goes.cal (kc 94 [21] #[66]) 22 3 94 _ (W.z3d y7.2 y10 e11 gx0 ufu p4 ufx) ?_
  rintro _ w5 ⟨S5, ugv, rfl, z5, p5, ugx⟩
  refine Goes.rn 2 [(7, .i y10.1)] Jpv ?_
  exact Goes.jp 45 [(0, (pt gx0 0)), (1, .i x1), (6, .i x6), (7, .i y10.1)] (W.z3g gx0 _ _ h _ _ ((hx.trans z4).trans z5) ugv p5 ugx)
 ·
  have h9' : y7.1 = false := by simpa using h9
  rw [h9']
  refine Goes.rn 2 [] Jpv ?_
  exact Goes.jp 45 [(0, (pt gx0 0)), (1, .i x1), (6, .i x6), (7, .i x6)] (W.z3g gx0 _ _ h _ _ (hx.trans z4) ufu p4 ufx)

def Qk9 := sub [1, 1] B79
def Jqb : List Item := [.code Qk9]
def Qka := sub [1, 0] B79
def Jqc : List Item := .inRegion (opsOf Qka) [1, 2] :: Jqb
def Qkb := sub [1, 1, 0, 1] B79
def Jqd : List Item := .code Qkb :: Jq7
def Qkc := sub [1, 1, 0, 1, 0] B79
def Jqe : List Item := .inRegion (opsOf Qkc) [4, 5] :: Jq7

theorem W.z3f (x0v : T68) (x1 : Int) (r : Int × Int × T68) (h : M.syntax_parser_counted x0v x1 = some r) {nz wz S0 w0 Lr} [Gw nz wz] (gx0 udu) (p0 : Hp nz wz S0 w0 ((some gx0, .row 69 [.string x0v.s, .i x0v.at_, .i x0v.deep, udu] 4 0) :: Lr)) (udv : PtO kT72 S0 w0 udu x0v.bad) :
  Calls Tryd.prog 79 #[(pt gx0 0), .i x1] w0 (Rets (Post.z3f nz wz S0 w0 Lr gx0 r)) := by
 refine calls_of_goes (fn := Tryd.f79) (c := B79) (by kernel_rfl) (by kernel_rfl) 43 (by kernel_rfl) ?_
 refine Goes.jp 45 [(0, (pt gx0 0)), (1, .i x1)] (fun junk => ?_)
 delta M.syntax_parser_counted at h
 refine Goes.rn 8 [(4, .i 0), (5, .i 0), (8, (pt gx0 0))] Jqc ?_
 refine bind_some' h fun y2 e3 h => ?_
 refine Goes.cal (kc 94 [8] #[66]) 9 3 94 _ (W.z3d x0v y2 e3 gx0 udu p0 udv) ?_
 rintro _ w2 ⟨S2, udx, rfl, z2, p2, udy⟩
 refine Goes.rn 8 [(6, .i y2.1), (10, .i y2.1), (11, .bool (decide (y2.1 < 0)))] Jqd ?_
 refine ite_some h (fun h4 h => ?_) (fun h4 h => ?_)
 ·
  rw [decide_eq_true h4]
  refine Goes.rn 6 [(12, (pt gx0 0)), (13, (pt gx0 0)), (14, (pt gx0 0)), (15, (pt gx0 1))] Jqe ?_
  refine Goes.ld 3 (.tmp 15) 16 3 ⟨gx0, 1, none⟩ (.i y2.2.at_) (p2.c 0 1) ?_
  refine bind_some' h fun y5 e6 h => ?_
  refine Goes.cal (kc 31 [12, 16] #[66, 3]) 17 28 31 _ (W.z2f y2.2 y2.2.at_ y5 e6 gx0 udx p2 udy) ?_
  rintro _ w3 ⟨S3, ujg, ujh, uji, uga, rfl, z3, p3, ujj, ujk, rfl, ugb⟩
  refine Goes.rn 1 [] Jq7 ?_
  exact Goes.jp 45 [(0, (pt gx0 0)), (1, .i x1), (6, .i y2.1)] (W.z3h gx0 _ _ h _ _ (((Ext.refl S0 w0).trans z2).trans z3) uga p3 ugb)
 ·
  rw [decide_eq_false h4]
  refine Goes.rn 2 [] Jq7 ?_
  exact Goes.jp 45 [(0, (pt gx0 0)), (1, .i x1), (6, .i y2.1)] (W.z3h gx0 _ _ h _ _ ((Ext.refl S0 w0).trans z2) udx p2 udy)

def Qkd := sub [1] B49
def Jqf : List Item := [.code Qkd]
def Qke := sub [0] B49
def Jqg : List Item := .inRegion (opsOf Qke) [0] :: Jqf
def Qkf := sub [1, 1] B49
def Jqh : List Item := [.code Qkf]
def Qkg := sub [1, 0, 1] B49
def Jqi : List Item := .code Qkg :: Jqh
def Qkh := sub [1, 0, 1, 0, 1] B49
def Jqj : List Item := .code Qkh :: Jqh
def Qki := sub [1, 0, 1, 0, 0] B49
def Jqk : List Item := .inRegion (opsOf Qki) [1, 2, 3] :: Jqj
def Qkj := sub [1, 1, 1] B49
def Jql : List Item := [.code Qkj]
def Qkk := sub [1, 1, 0] B49
def Jqm : List Item := .inRegion (opsOf Qkk) [3] :: Jql

def Post.z3i (r : T27) (v : Value) (w' : World) : Prop :=
 ∃ S' udw u1 u2, v = (ag (.i r.Kind :: U4 r.Set [.slice udw u1 u2, .i r.Min, .i r.Max])) ∧ Ext S0 w0 S' w' ∧ Hp nz wz S' w' (Lr) ∧ r.Set.length = 4 ∧ Rd kT27 S' w' udw u2 r.L ∧ r.L.length = u1

theorem W.z3i (x0 : Int) (x1 : List T27) (r : T27) (h : M.syntax_several x0 x1 = some r) {nz wz S0 w0 Lr} [Gw nz wz] (Ax1 nx1 cx1) (p0 : Hp nz wz S0 w0 (Lr)) (fx1 : Rd kT27 S0 w0 Ax1 cx1 x1) (lx1 : x1.length = nx1) :
  Calls Tryd.prog 49 #[.i x0, .slice Ax1 nx1 cx1] w0 (Rets (Post.z3i nz wz S0 w0 Lr r)) := by
 subst lx1
 refine calls_of_goes (fn := Tryd.f49) (c := B49) (by kernel_rfl) (by kernel_rfl) 12 (by kernel_rfl) ?_
 refine Goes.jp 14 [(0, .i x0), (1, .slice Ax1 x1.length cx1)] (fun junk => ?_)
 delta M.syntax_several at h
 refine Goes.rn 2 [] Jqg ?_
 refine Op_.alloc 28 4 0 (.agg #[.i 0, .u 0, .u 0, .u 0, .u 0, .slice none 0 0, .i 0, .i 0]) [.i 0, .u 0, .u 0, .u 0, .u 0, .slice none 0 0, .i 0, .i 0] p0 Goes.v (by kernel_rfl) (by kernel_rfl) ?_
 intro b1 w2 z2 p2
 refine Goes.rn 8 [(5, .slice Ax1 x1.length cx1), (6, .i (x1.length : Int)), (7, .bool (decide ((x1.length : Int) = 1)))] Jqi ?_
 refine ite_some h (fun h3 h => ?_) (fun h3 h => ?_)
 ·
  rw [decide_eq_true h3]
  refine Goes.rn 4 [(8, .slice Ax1 x1.length cx1)] Jqk ?_
  refine guard_some' h fun g4 h => ?_
  refine Op_.ixR_n 26 (.tmp 8) (.const (.int .i64 0)) 9 0 28 .i64 0 (gi x1 0) rfl rfl (fx1.ext z2) Goes.v (by kernel_rfl) (by kernel_rfl) (by kernel_rfl) (by kernel_rfl) (by decide : (0 : Int) ≤ 0) g4 ?_
  intro a5 _ f6 q7
  have q8 := q7
  obtain ⟨_, _, rfl, rfl, ⟨_, _, rfl, ⟨l9, f10⟩, ⟨_, _, rfl, ⟨A11, c12, rfl, f13⟩, ⟨_, _, rfl, rfl, rfl⟩⟩⟩⟩ := kT27_open q8
  obtain rfl := els_lit4' f10 l9
  refine Goes.ldN 28 (.tmp 9) 10 28 a5 ([.i ((gi x1 0).Kind)] ++ ((U4 ((gi x1 0).Set) []) ++ ([.slice A11 (((gi x1 0).L).length) c12] ++ ([.i ((gi x1 0).Min)] ++ [.i ((gi x1 0).Max)])))) (f6.cell) ?_
  refine Op_.st 28 (.tmp 4) (.tmp 10) 0 0 b1 0 (ag (.i ((gi x1 0).Kind) :: U4 ((gi x1 0).Set) [.slice A11 (((gi x1 0).L).length) c12, .i ((gi x1 0).Min), .i ((gi x1 0).Max)])) (.i ((gi x1 0).Kind) :: U4 ((gi x1 0).Set) [.slice A11 (((gi x1 0).L).length) c12, .i ((gi x1 0).Min), .i ((gi x1 0).Max)]) p2 rfl Goes.s (by kernel_rfl) (by kernel_rfl) (by kernel_rfl) (by kernel_rfl) (Nat.zero_le _) (by simp only [List.length_cons, List.length_nil]; omega) (by simp [Value.oneCell']) ?_
  intro w3 z3 p3
  have p3 : Hp nz wz S0 w3 ((some b1, .row 28 (.i ((gi x1 0).Kind) :: U4 ((gi x1 0).Set) [.slice A11 (((gi x1 0).L).length) c12, .i ((gi x1 0).Min), .i ((gi x1 0).Max)]) 8 0) :: Lr) := p3
  refine Goes.rn 1 [] Jqj ?_
  obtain rfl := Option.some.inj h
  exact Goes.ret (fn := Tryd.f49) (by kernel_rfl) (v := (ag (.i ((gi x1 0).Kind) :: U4 ((gi x1 0).Set) [.slice A11 (((gi x1 0).L).length) c12, .i ((gi x1 0).Min), .i ((gi x1 0).Max)]))) (results_n1 (fn := Tryd.f49) (a := .cell 4 28) (by kernel_rfl) (resV_cell ⟨b1, 0, none⟩ (by kernel_rfl) (run_loadN (.i ((gi x1 0).Kind) :: U4 ((gi x1 0).Set) [.slice A11 (((gi x1 0).L).length) c12, .i ((gi x1 0).Min), .i ((gi x1 0).Max)]) (by kernel_rfl) (by kernel_rfl) (p3.pa 0 0)))) ⟨S0, A11, ((gi x1 0).L).length, c12, rfl, (((Ext.refl S0 w0).trans z2).trans z3), p3.drop, l9, (f13.ext z3), rfl⟩
 ·
  rw [decide_eq_false h3]
  refine Goes.rn 7 [(11, .i x0), (12, .slice Ax1 x1.length cx1), (13, .agg #[.i x0, .u 0, .u 0, .u 0, .u 0, .slice Ax1 x1.length cx1, .i 0, .i 0])] Jqm ?_
  refine Op_.st 28 (.tmp 4) (.tmp 13) 0 0 b1 0 (.agg #[.i x0, .u 0, .u 0, .u 0, .u 0, .slice Ax1 x1.length cx1, .i 0, .i 0]) [.i x0, .u 0, .u 0, .u 0, .u 0, .slice Ax1 x1.length cx1, .i 0, .i 0] p2 rfl Goes.s (by kernel_rfl) (by kernel_rfl) (by kernel_rfl) (by kernel_rfl) (Nat.zero_le _) (by simp only [List.length_cons, List.length_nil]; omega) (by simp [Value.oneCell']) ?_
  intro w4 z4 p4
  have p4 : Hp nz wz S0 w4 ((some b1, .row 28 [.i x0, .u 0, .u 0, .u 0, .u 0, .slice Ax1 x1.length cx1, .i 0, .i 0] 8 0) :: Lr) := p4
  refine Goes.rn 1 [] Jql ?_
  obtain rfl := Option.some.inj h
  exact Goes.ret (fn := Tryd.f49) (by kernel_rfl) (v := .agg #[.i x0, .u 0, .u 0, .u 0, .u 0, .slice Ax1 x1.length cx1, .i 0, .i 0]) (results_n1 (fn := Tryd.f49) (a := .cell 4 28) (by kernel_rfl) (resV_cell ⟨b1, 0, none⟩ (by kernel_rfl) (run_loadN [.i x0, .u 0, .u 0, .u 0, .u 0, .slice Ax1 x1.length cx1, .i 0, .i 0] (by kernel_rfl) (by kernel_rfl) (p4.pa 0 0)))) ⟨S0, Ax1, x1.length, cx1, rfl, (((Ext.refl S0 w0).trans z2).trans z4), p4.drop, rfl, (fx1.ext (z2.trans z4)), rfl⟩

end

end Go.Gx
