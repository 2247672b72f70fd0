import Derived.Test.YtemokppdnkiejaaDoorWPrb

set_option linter.unusedVariables false

set_option maxRecDepth 100000

set_option maxHeartbeats 4000000

namespace Go.Gx

open Go.RowKit Go.Proofs

variable (nz : Nat) (wz : World) (S0 : Fz) (w0 : World) (Lr : List Ent)

noncomputable section

def Q8k := sub [1] B93
def Jbj : List Item := [.code Q8k]
def Q8l := sub [0] B93
def Jbk : List Item := .inRegion (opsOf Q8l) [0] :: Jbj
def Q8m := sub [1, 1] B93
def Jbl : List Item := [.code Q8m]
def Q8n := sub [1, 0] B93
def Jbm : List Item := .inRegion (opsOf Q8n) [1, 2] :: Jbl
def Q8o := sub [1, 1, 1] B93
def Jbn : List Item := [.code Q8o]
def Q8p := sub [1, 1, 0, 1] B93
def Jbo : List Item := .code Q8p :: Jbn
def Q8q := sub [1, 1, 0, 0] B93
def Jbp : List Item := .inRegion (opsOf Q8q) [1, 2, 3, 4, 5, 6, 7] :: Jbo
def Jbq : List Item := .inRegion (opsOf Q8q) [5, 6, 7] :: Jbo
def Q8r := sub [1, 1, 0, 1, 1] B93
def Jbr : List Item := .code Q8r :: Jbn
def Q8s := sub [1, 1, 0, 1, 1, 0, 1] B93
def Jbs : List Item := .code Q8s :: Jbn
def Q8t := sub [1, 1, 0, 1, 1, 0, 0] B93
def Jbt : List Item := .inRegion (opsOf Q8t) [3, 4, 5, 6, 7] :: Jbs
def Jbu : List Item := .inRegion (opsOf Q8t) [7] :: Jbs
def Q8u := sub [1, 1, 0, 1, 1, 0, 1, 1] B93
def Jbv : List Item := .code Q8u :: Jbn
def Q8v := sub [1, 1, 0, 1, 1, 0, 1, 0] B93
def Jbw : List Item := .inRegion (opsOf Q8v) [0, 1, 2] :: Jbv
def Jbx : List Item := .inRegion (opsOf Q8v) [2] :: Jbv
def Q8w := sub [1, 1, 1, 0, 0, 1] B93
def Jby : List Item := .code Q8w :: Jb8
def Q8x := sub [1, 1, 1, 0, 0, 1, 0, 1] B93
def Jbz : List Item := .code Q8x :: Jb8
def Q8y := sub [1, 1, 1, 0, 0, 1, 0, 0] B93
def Jc0 : List Item := .inRegion (opsOf Q8y) [3, 4, 5, 6, 7] :: Jbz
def Jc1 : List Item := .inRegion (opsOf Q8y) [7] :: Jbz
def Q8z := sub [1, 1, 1, 0, 0, 1, 0, 1, 1] B93
def Jc2 : List Item := .code Q8z :: Jb8
def Q90 := sub [1, 1, 1, 0, 0, 1, 0, 1, 0] B93
def Jc3 : List Item := .inRegion (opsOf Q90) [1, 2] :: Jc2
def Q91 := sub [1, 1, 1, 0, 0, 1, 0, 1, 1, 1] B93
def Jc4 : List Item := .code Q91 :: Jb8
def Q92 := sub [1, 1, 1, 0, 0, 1, 0, 1, 1, 0] B93
def Jc5 : List Item := .inRegion (opsOf Q92) [1, 2] :: Jc4
def Q93 := sub [1, 1, 1, 0, 0, 1, 0, 1, 1, 1, 1] B93
def Jc6 : List Item := .code Q93 :: Jb8
def Q94 := sub [1, 1, 1, 0, 0, 1, 0, 1, 1, 1, 0] B93
def Jc7 : List Item := .inRegion (opsOf Q94) [4, 5] :: Jc6
def Q95 := sub [1, 1, 1, 0, 0, 1, 1, 1] B93
def Jc8 : List Item := .code Q95 :: Jb8
def Q96 := sub [1, 1, 1, 0, 0, 1, 1, 1, 0, 1] B93
def Jc9 : List Item := .code Q96 :: Jb8
def Q97 := sub [1, 1, 1, 0, 0, 1, 1, 1, 0, 0] B93
def Jca : List Item := .inRegion (opsOf Q97) [3, 4, 5, 6, 7] :: Jc9
def Jcb : List Item := .inRegion (opsOf Q97) [7] :: Jc9
def Q98 := sub [1, 1, 1, 0, 0, 1, 1, 1, 0, 1, 1] B93
def Jcc : List Item := .code Q98 :: Jb8
def Q99 := sub [1, 1, 1, 0, 0, 1, 1, 1, 0, 1, 0] B93
def Jcd : List Item := .inRegion (opsOf Q99) [0, 1] :: Jcc
def Q9a := sub [1, 1, 1, 0, 0, 1, 1, 1, 1, 1] B93
def Jce : List Item := .code Q9a :: Jb8
def Q9b := sub [1, 1, 1, 0, 0, 1, 1, 1, 1, 1, 0, 1] B93
def Jcf : List Item := .code Q9b :: Jb8
def Q9c := sub [1, 1, 1, 0, 0, 1, 1, 1, 1, 1, 0, 0] B93
def Jcg : List Item := .inRegion (opsOf Q9c) [3, 4, 5, 6, 7] :: Jcf
def Jch : List Item := .inRegion (opsOf Q9c) [7] :: Jcf
def Q9d := sub [1, 1, 1, 0, 0, 1, 1, 1, 1, 1, 0, 1, 1] B93
def Jci : List Item := .code Q9d :: Jb8
def Q9e := sub [1, 1, 1, 0, 0, 1, 1, 1, 1, 1, 0, 1, 0] B93
def Jcj : List Item := .inRegion (opsOf Q9e) [0, 1] :: Jci
def Q9f := sub [1, 1, 1, 0, 0, 1, 1, 1, 1, 1, 1, 0] B93
def Jck : List Item := .inRegion (opsOf Q9f) [3, 4, 5, 6, 7] :: Jb9
def Jcl : List Item := .inRegion (opsOf Q9f) [4, 5, 6, 7] :: Jb9

theorem W.z1n (x0v : T68) (r : T126 × T68) (h : M.syntax_parser_escape x0v = some r) {nz wz S0 w0 Lr} [Gw nz wz] (gx0 u4b) (p0 : Hp nz wz S0 w0 ((some gx0, .row 69 [.string x0v.s, .i x0v.at_, .i x0v.deep, u4b] 4 0) :: Lr)) (u4c : PtO kT72 S0 w0 u4b x0v.bad) :
  Calls Tryd.prog 93 #[(pt gx0 0)] w0 (Rets (Post.z1n nz wz S0 w0 Lr gx0 r)) := by
 refine calls_of_goes (fn := Tryd.f93) (c := B93) (by kernel_rfl) (by kernel_rfl) 89 (by kernel_rfl) ?_
 refine Goes.jp 90 [(0, (pt gx0 0))] (fun junk => ?_)
 delta M.syntax_parser_escape at h
 refine Goes.rn 2 [] Jbk ?_
 refine Op_.alloc 127 2 0 (.agg #[.u 0, .u 0, .u 0, .u 0, .int .u8 0, .bool false]) [.u 0, .u 0, .u 0, .u 0, .int .u8 0, .bool false] p0 Goes.v (by kernel_rfl) (by kernel_rfl) ?_
 intro b2 w2 z2 p2
 refine Goes.rn 4 [(8, (pt gx0 0))] Jbm ?_
 have p2 := p2.fr 1
 refine bind_some' h fun y4 e5 h => ?_
 refine Goes.cal (kc 65 [8] #[66]) 9 5 65 _ (W.z11 x0v y4 e5 gx0 u4b p2 (u4c.ext z2)) ?_
 rintro _ w3 ⟨S3, u6t, rfl, z3, p3, u6u⟩
 refine Goes.rn 6 [(3, .int .u8 y4.1), (11, .int .u8 y4.1)] Jbp ?_
 refine bind_some' h fun y6 e7 h => ?_
 refine Goes.cal (kc 103 [11] #[5]) 12 142 103 _ (W.z1g y4.1 y6 e7  p3 ) ?_
 rintro _ w4 ⟨S4, u6v, rfl, z4, p4, u6w, u6x⟩
 refine Goes.rn 3 [(10, .tuple #[.agg u6v.toArray, .bool y6.2]), (13, .agg u6v.toArray), (14, .bool y6.2)] Jbq ?_
 refine Op_.alloc 25 4 0 (.agg #[.u 0, .u 0, .u 0, .u 0]) [.u 0, .u 0, .u 0, .u 0] p4 Goes.v (by kernel_rfl) (by kernel_rfl) ?_
 intro b8 w5 z5 p5
 have f10 : Els (kInt .u64) S4 w5 ([.u 0, .u 0, .u 0, .u 0] : List Value) [0, 0, 0, 0] := (Els.cons (K := (kInt .u64)) (vs := [.u 0]) (x := 0) rfl (Els.cons (K := (kInt .u64)) (vs := [.u 0]) (x := 0) rfl (Els.cons (K := (kInt .u64)) (vs := [.u 0]) (x := 0) rfl (Els.cons (K := (kInt .u64)) (vs := [.u 0]) (x := 0) rfl Els.nil))))
 refine Op_.stA 25 (.tmp 4) (.tmp 13) 0 0 b8 4 u6v p5 rfl rfl Goes.s (by kernel_rfl) (by kernel_rfl) (by kernel_rfl) u6x (Els.one (u6w.ext z5)) ?_
 intro w6 z6 p6
 refine Goes.rn 6 [(5, .bool y6.2), (15, .bool y6.2)] Jbr ?_
 refine ite_some h (fun h11 h => ?_) (fun h11 h => ?_)
 ·
  rw [h11]
  refine Goes.rn 6 [(16, (pt gx0 0)), (17, (pt gx0 0)), (18, (pt gx0 1))] Jbt ?_
  refine Goes.ld 3 (.tmp 18) 19 3 ⟨gx0, 1, none⟩ (.i y4.2.at_) (p6.c 1 1) ?_
  refine Goes.rn 3 [(20, .i (wr .i64 (y4.2.at_ + 1))), (21, (pt gx0 0)), (22, (pt gx0 1))] Jbu ?_
  refine Op_.st 3 (.tmp 22) (.tmp 20) 0 1 gx0 1 (.i (wr .i64 (y4.2.at_ + 1))) [.i (wr .i64 (y4.2.at_ + 1))] p6 rfl Goes.s (by kernel_rfl) (by kernel_rfl) (by kernel_rfl) (by kernel_rfl) (Nat.zero_le _) (by simp only [List.length_cons, List.length_nil]; omega) (by simp [Value.oneCell']) ?_
  intro w7 z7 p7
  have p7 : Hp nz wz S4 w7 ((some b8, .row 25 u6v 4 0) :: (some gx0, .row 69 [.string y4.2.s, .i (wr .i64 (y4.2.at_ + 1)), .i y4.2.deep, u6t] 4 0) :: (some b2, .row 127 [.u 0, .u 0, .u 0, .u 0, .int .u8 0, .bool false] 6 0) :: Lr) := p7
  refine Goes.rn 3 [] Jbw ?_
  refine Op_.ldN 25 (.tmp 4) 23 25 ⟨b8, 0, none⟩ u6v Goes.v (by kernel_rfl) (by kernel_rfl) (by rw [u6x]; kernel_rfl) (At_all (p7.mem 0 rfl)) ?_
  have l12 := Els.len1 (u6w.ext ((z5.trans z6).trans z7)) u6x rfl
  obtain rfl := els_lit4 (u6w.ext ((z5.trans z6).trans z7)) u6x
  refine Goes.rn 1 [(24, (ag (U4 y6.1 [.int .u8 0, .bool false])))] Jbx ?_
  refine Op_.st 127 (.tmp 2) (.tmp 24) 0 2 b2 0 (ag (U4 y6.1 [.int .u8 0, .bool false])) (U4 y6.1 [.int .u8 0, .bool false]) p7 rfl Goes.s (by kernel_rfl) (by kernel_rfl) (by kernel_rfl) (by kernel_rfl) (Nat.zero_le _) (by simp only [List.length_cons, List.length_nil]; omega) (by simp [Value.oneCell']) ?_
  intro w8 z8 p8
  have p8 : Hp nz wz S4 w8 ((some b8, .row 25 ((U4 y6.1 []) : List Value) 4 0) :: (some gx0, .row 69 [.string y4.2.s, .i (wr .i64 (y4.2.at_ + 1)), .i y4.2.deep, u6t] 4 0) :: (some b2, .row 127 (U4 y6.1 [.int .u8 0, .bool false]) 6 0) :: Lr) := p8
  refine Goes.rn 1 [] Jbv ?_
  obtain rfl := Option.some.inj h
  have p8 := p8.dp 0
  have p8 := (p8.fr 0).fr 1
  exact Goes.ret (fn := Tryd.f93) (by kernel_rfl) (v := (ag (U4 y6.1 [.int .u8 0, .bool false]))) (results_n1 (fn := Tryd.f93) (a := .cell 2 127) (by kernel_rfl) (resV_cell ⟨b2, 0, none⟩ (by kernel_rfl) (run_loadN (U4 y6.1 [.int .u8 0, .bool false]) (by kernel_rfl) (by kernel_rfl) (p8.pa 0 0)))) ⟨S4, u6t, rfl, ((((((((Ext.refl S0 w0).trans z2).trans z3).trans z4).trans z5).trans z6).trans z7).trans z8), p8.drop, l12, (u6u.ext ((((z4.trans z5).trans z6).trans z7).trans z8))⟩
 ·
  have u6y : y6.2 = false := by simpa using h11
  rw [u6y]
  refine Goes.rn 10 [(26, .int .u8 y4.1), (27, .bool (decide (y4.1 = 120))), (25, .bool (decide (y4.1 = 120)))] Jby ?_
  refine ite_some h (fun h13 h => ?_) (fun h13 h => ?_)
  ·
   rw [decide_eq_true h13]
   refine Goes.rn 6 [(28, (pt gx0 0)), (29, (pt gx0 0)), (30, (pt gx0 1))] Jc0 ?_
   refine Goes.ld 3 (.tmp 30) 31 3 ⟨gx0, 1, none⟩ (.i y4.2.at_) (p6.c 1 1) ?_
   refine Goes.rn 3 [(32, .i (wr .i64 (y4.2.at_ + 1))), (33, (pt gx0 0)), (34, (pt gx0 1))] Jc1 ?_
   refine Op_.st 3 (.tmp 34) (.tmp 32) 0 1 gx0 1 (.i (wr .i64 (y4.2.at_ + 1))) [.i (wr .i64 (y4.2.at_ + 1))] p6 rfl Goes.s (by kernel_rfl) (by kernel_rfl) (by kernel_rfl) (by kernel_rfl) (Nat.zero_le _) (by simp only [List.length_cons, List.length_nil]; omega) (by simp [Value.oneCell']) ?_
   intro w9 z9 p9
   have p9 : Hp nz wz S4 w9 ((some b8, .row 25 u6v 4 0) :: (some gx0, .row 69 [.string y4.2.s, .i (wr .i64 (y4.2.at_ + 1)), .i y4.2.deep, u6t] 4 0) :: (some b2, .row 127 [.u 0, .u 0, .u 0, .u 0, .int .u8 0, .bool false] 6 0) :: Lr) := p9
   refine Goes.rn 4 [(35, (pt gx0 0))] Jc3 ?_
   have p9 := p9.fr 1
   refine bind_some' h fun y14 e15 h => ?_
   refine Goes.cal (kc 104 [35] #[66]) 36 5 104 _ (W.z1l (⟨y4.2.s, wr .i64 (y4.2.at_ + 1), y4.2.deep, y4.2.bad⟩ : T68) y14 e15 gx0 u6t p9 (u6u.ext (((z4.trans z5).trans z6).trans z9))) ?_
   rintro _ w10 ⟨S10, u6z, rfl, z10, p10, u70⟩
   have p10 := p10.dp 1
   refine Goes.rn 5 [(6, .int .u8 y14.1), (37, (pt gx0 0))] Jc5 ?_
   refine bind_some' h fun y16 e17 h => ?_
   refine Goes.cal (kc 104 [37] #[66]) 38 5 104 _ (W.z1l y14.2 y16 e17 gx0 u6z p10 u70) ?_
   rintro _ w11 ⟨S11, u71, rfl, z11, p11, u72⟩
   refine Goes.rn 8 [(7, .int .u8 y16.1), (39, .int .u8 y14.1), (40, .int .u8 (ishl .u8 y14.1 4)), (41, .int .u8 y16.1), (42, .int .u8 (ior .u8 (ishl .u8 y14.1 4) y16.1))] Jc7 ?_
   refine bind_some' h fun y18 e19 h => ?_
   refine Goes.cal (kc 105 [42] #[5]) 43 127 105 _ (W.z1m (ior .u8 (ishl .u8 y14.1 4) y16.1) y18 e19  p11 ) ?_
   rintro _ w12 ⟨S12, rfl, z12, p12, u73⟩
   refine Op_.st 127 (.tmp 2) (.tmp 43) 0 1 b2 0 (ag (U4 y18.set_ [.int .u8 y18.b, .bool y18.single])) (U4 y18.set_ [.int .u8 y18.b, .bool y18.single]) p12 rfl Goes.s (by kernel_rfl) (by kernel_rfl) (by kernel_rfl) (by kernel_rfl) (Nat.zero_le _) (by simp only [List.length_cons, List.length_nil]; omega) (by simp [Value.oneCell']) ?_
   intro w13 z13 p13
   have p13 : Hp nz wz S12 w13 ((some gx0, .row 69 [.string y16.2.s, .i y16.2.at_, .i y16.2.deep, u71] 4 0) :: (some b2, .row 127 (U4 y18.set_ [.int .u8 y18.b, .bool y18.single]) 6 0) :: Lr) := p13
   refine Goes.rn 1 [] Jc6 ?_
   obtain rfl := Option.some.inj h
   have p13 := (p13.fr 0).fr 1
   exact Goes.ret (fn := Tryd.f93) (by kernel_rfl) (v := (ag (U4 y18.set_ [.int .u8 y18.b, .bool y18.single]))) (results_n1 (fn := Tryd.f93) (a := .cell 2 127) (by kernel_rfl) (resV_cell ⟨b2, 0, none⟩ (by kernel_rfl) (run_loadN (U4 y18.set_ [.int .u8 y18.b, .bool y18.single]) (by kernel_rfl) (by kernel_rfl) (p13.pa 0 0)))) ⟨S12, u71, rfl, (((((((((((Ext.refl S0 w0).trans z2).trans z3).trans z4).trans z5).trans z6).trans z9).trans z10).trans z11).trans z12).trans z13), p13.drop, u73, (u72.ext (z12.trans z13))⟩
  ·
   rw [decide_eq_false h13]
   refine Goes.rn 7 [(45, .int .u8 y4.1), (46, .bool (decide (y4.1 = 110))), (44, .bool (decide (y4.1 = 110)))] Jc8 ?_
   refine ite_some h (fun h20 h => ?_) (fun h20 h => ?_)
   ·
    rw [decide_eq_true h20]
    refine Goes.rn 6 [(47, (pt gx0 0)), (48, (pt gx0 0)), (49, (pt gx0 1))] Jca ?_
    refine Goes.ld 3 (.tmp 49) 50 3 ⟨gx0, 1, none⟩ (.i y4.2.at_) (p6.c 1 1) ?_
    refine Goes.rn 3 [(51, .i (wr .i64 (y4.2.at_ + 1))), (52, (pt gx0 0)), (53, (pt gx0 1))] Jcb ?_
    refine Op_.st 3 (.tmp 53) (.tmp 51) 0 1 gx0 1 (.i (wr .i64 (y4.2.at_ + 1))) [.i (wr .i64 (y4.2.at_ + 1))] p6 rfl Goes.s (by kernel_rfl) (by kernel_rfl) (by kernel_rfl) (by kernel_rfl) (Nat.zero_le _) (by simp only [List.length_cons, List.length_nil]; omega) (by simp [Value.oneCell']) ?_
    intro w14 z14 p14
    have p14 : Hp nz wz S4 w14 ((some b8, .row 25 u6v 4 0) :: (some gx0, .row 69 [.string y4.2.s, .i (wr .i64 (y4.2.at_ + 1)), .i y4.2.deep, u6t] 4 0) :: (some b2, .row 127 [.u 0, .u 0, .u 0, .u 0, .int .u8 0, .bool false] 6 0) :: Lr) := p14
    refine Goes.rn 3 [] Jcd ?_
    refine bind_some' h fun y21 e22 h => ?_
    refine Goes.cal (.call { callee := .value (.func 105), args := #[(.const (.int .u8 10))], argTypes := #[5] }) 54 127 105 _ (W.z1m 10 y21 e22  p14 ) ?_
    rintro _ w15 ⟨S15, rfl, z15, p15, u74⟩
    have p15 := p15.dp 0
    refine Op_.st 127 (.tmp 2) (.tmp 54) 0 1 b2 0 (ag (U4 y21.set_ [.int .u8 y21.b, .bool y21.single])) (U4 y21.set_ [.int .u8 y21.b, .bool y21.single]) p15 rfl Goes.s (by kernel_rfl) (by kernel_rfl) (by kernel_rfl) (by kernel_rfl) (Nat.zero_le _) (by simp only [List.length_cons, List.length_nil]; omega) (by simp [Value.oneCell']) ?_
    intro w16 z16 p16
    have p16 : Hp nz wz S15 w16 ((some gx0, .row 69 [.string y4.2.s, .i (wr .i64 (y4.2.at_ + 1)), .i y4.2.deep, u6t] 4 0) :: (some b2, .row 127 (U4 y21.set_ [.int .u8 y21.b, .bool y21.single]) 6 0) :: Lr) := p16
    refine Goes.rn 1 [] Jcc ?_
    obtain rfl := Option.some.inj h
    have p16 := (p16.fr 0).fr 1
    exact Goes.ret (fn := Tryd.f93) (by kernel_rfl) (v := (ag (U4 y21.set_ [.int .u8 y21.b, .bool y21.single]))) (results_n1 (fn := Tryd.f93) (a := .cell 2 127) (by kernel_rfl) (resV_cell ⟨b2, 0, none⟩ (by kernel_rfl) (run_loadN (U4 y21.set_ [.int .u8 y21.b, .bool y21.single]) (by kernel_rfl) (by kernel_rfl) (p16.pa 0 0)))) ⟨S15, u6t, rfl, (((((((((Ext.refl S0 w0).trans z2).trans z3).trans z4).trans z5).trans z6).trans z14).trans z15).trans z16), p16.drop, u74, (u6u.ext (((((z4.trans z5).trans z6).trans z14).trans z15).trans z16))⟩
   ·
    rw [decide_eq_false h20]
    refine Goes.rn 7 [(56, .int .u8 y4.1), (57, .bool (decide (y4.1 = 116))), (55, .bool (decide (y4.1 = 116)))] Jce ?_
    refine ite_some h (fun h23 h => ?_) (fun h23 h => ?_)
    ·
     rw [decide_eq_true h23]
     refine Goes.rn 6 [(58, (pt gx0 0)), (59, (pt gx0 0)), (60, (pt gx0 1))] Jcg ?_
     refine Goes.ld 3 (.tmp 60) 61 3 ⟨gx0, 1, none⟩ (.i y4.2.at_) (p6.c 1 1) ?_
     refine Goes.rn 3 [(62, .i (wr .i64 (y4.2.at_ + 1))), (63, (pt gx0 0)), (64, (pt gx0 1))] Jch ?_
     refine Op_.st 3 (.tmp 64) (.tmp 62) 0 1 gx0 1 (.i (wr .i64 (y4.2.at_ + 1))) [.i (wr .i64 (y4.2.at_ + 1))] p6 rfl Goes.s (by kernel_rfl) (by kernel_rfl) (by kernel_rfl) (by kernel_rfl) (Nat.zero_le _) (by simp only [List.length_cons, List.length_nil]; omega) (by simp [Value.oneCell']) ?_
     intro w17 z17 p17
     have p17 : Hp nz wz S4 w17 ((some b8, .row 25 u6v 4 0) :: (some gx0, .row 69 [.string y4.2.s, .i (wr .i64 (y4.2.at_ + 1)), .i y4.2.deep, u6t] 4 0) :: (some b2, .row 127 [.u 0, .u 0, .u 0, .u 0, .int .u8 0, .bool false] 6 0) :: Lr) := p17
     refine Goes.rn 3 [] Jcj ?_
     refine bind_some' h fun y24 e25 h => ?_
     refine Goes.cal (.call { callee := .value (.func 105), args := #[(.const (.int .u8 9))], argTypes := #[5] }) 65 127 105 _ (W.z1m 9 y24 e25  p17 ) ?_
     rintro _ w18 ⟨S18, rfl, z18, p18, u75⟩
     have p18 := p18.dp 0
     refine Op_.st 127 (.tmp 2) (.tmp 65) 0 1 b2 0 (ag (U4 y24.set_ [.int .u8 y24.b, .bool y24.single])) (U4 y24.set_ [.int .u8 y24.b, .bool y24.single]) p18 rfl Goes.s (by kernel_rfl) (by kernel_rfl) (by kernel_rfl) (by kernel_rfl) (Nat.zero_le _) (by simp only [List.length_cons, List.length_nil]; omega) (by simp [Value.oneCell']) ?_
     intro w19 z19 p19
     have p19 : Hp nz wz S18 w19 ((some gx0, .row 69 [.string y4.2.s, .i (wr .i64 (y4.2.at_ + 1)), .i y4.2.deep, u6t] 4 0) :: (some b2, .row 127 (U4 y24.set_ [.int .u8 y24.b, .bool y24.single]) 6 0) :: Lr) := p19
     refine Goes.rn 1 [] Jci ?_
     obtain rfl := Option.some.inj h
     have p19 := (p19.fr 0).fr 1
     exact Goes.ret (fn := Tryd.f93) (by kernel_rfl) (v := (ag (U4 y24.set_ [.int .u8 y24.b, .bool y24.single]))) (results_n1 (fn := Tryd.f93) (a := .cell 2 127) (by kernel_rfl) (resV_cell ⟨b2, 0, none⟩ (by kernel_rfl) (run_loadN (U4 y24.set_ [.int .u8 y24.b, .bool y24.single]) (by kernel_rfl) (by kernel_rfl) (p19.pa 0 0)))) ⟨S18, u6t, rfl, (((((((((Ext.refl S0 w0).trans z2).trans z3).trans z4).trans z5).trans z6).trans z17).trans z18).trans z19), p19.drop, u75, (u6u.ext (((((z4.trans z5).trans z6).trans z17).trans z18).trans z19))⟩
    ·
     rw [decide_eq_false h23]
     refine Goes.rn 6 [(67, .int .u8 y4.1), (68, .bool (decide (y4.1 = 0))), (69, .bool (decide (y4.1 = 0)))] Jck ?_
     refine ite_some h (fun h26 h => ?_) (fun h26 h => ?_)
     ·
      rw [decide_eq_true h26]
      refine Goes.rn 6 [(70, undef), (71, undef), (72, undef), (73, .bool true), (66, .bool true)] Jb9 ?_
      have p6 := p6.dp 0
      have p6 := (p6.fr 0).fr 1
      exact Goes.jp 90 [(0, (pt gx0 0)), (2, (pt b2 0)), (3, .int .u8 y4.1), (66, .bool true)] (W.z1o gx0 _ _ h _ _ ((((((Ext.refl S0 w0).trans z2).trans z3).trans z4).trans z5).trans z6) b2 u6t p6 rfl (u6u.ext ((z4.trans z5).trans z6)))
     ·
      rw [decide_eq_false h26]
      refine Goes.rn 1 [(70, .int .u8 y4.1)] Jcl ?_
      refine bind_some' h fun y28 e29 h => ?_
      refine Goes.cal (.call { callee := .value (.func 45), args := #[(.const (.string ⟨#[92, 46, 91, 93, 40, 41, 42, 43, 63, 123, 125, 94, 36, 45, 47, 124]⟩)), (.tmp 70)], argTypes := #[9, 5] }) 71 3 45 _ (W.z1j (⟨#[92, 46, 91, 93, 40, 41, 42, 43, 63, 123, 125, 94, 36, 45, 47, 124]⟩ : ByteArray) y4.1 y28 e29  p6 ) ?_
      rintro _ w20 ⟨S20, rfl, z20, p20⟩
      have p20 := p20.dp 0
      refine Goes.rn 4 [(72, .bool (decide (y28 < 0))), (73, .bool (decide (y28 < 0))), (66, .bool (decide (y28 < 0)))] Jb9 ?_
      have p20 := (p20.fr 0).fr 1
      exact Goes.jp 90 [(0, (pt gx0 0)), (2, (pt b2 0)), (3, .int .u8 y4.1), (66, .bool (decide (y28 < 0)))] (W.z1o gx0 _ _ h _ _ (((((((Ext.refl S0 w0).trans z2).trans z3).trans z4).trans z5).trans z6).trans z20) b2 u6t p20 rfl (u6u.ext (((z4.trans z5).trans z6).trans z20)))

def Q9g := sub [1, 1, 1] B120
def Jcm : List Item := [.code Q9g]
def Jcn : List Item := .inBlock 0 :: Jcm
def Q9h := sub [1, 1, 0, 0, 1, 1, 1] B120
def Jco : List Item := .code Q9h :: Jcn
def Q9i := sub [1, 1, 0, 0, 1, 1, 1, 0, 1] B120
def Jcp : List Item := .code Q9i :: Jcn
def Q9j := sub [1, 1, 0, 0, 1, 1, 1, 0, 0] B120
def Jcq : List Item := .inRegion (opsOf Q9j) [4, 5] :: Jcp
def Q9k := sub [1, 1, 0, 0, 1, 1, 1, 0, 1, 1] B120
def Jcr : List Item := .code Q9k :: Jcn
def Q9l := sub [1, 1, 0, 0, 1, 1, 1, 0, 1, 0] B120
def Jcs : List Item := .inRegion (opsOf Q9l) [1] :: Jcr
def Q9m := sub [1, 1, 1, 1] B120
def Jct : List Item := [.code Q9m]
def Q9n := sub [1, 1, 1, 0] B120
def Jcu : List Item := .inRegion (opsOf Q9n) [3, 4, 5, 6, 7] :: Jct
def Jcv : List Item := .inRegion (opsOf Q9n) [7] :: Jct
def Q9o := sub [1, 1, 1, 1, 1] B120
def Jcw : List Item := [.code Q9o]
def Q9p := sub [1, 1, 1, 1, 0] B120
def Jcx : List Item := .inRegion (opsOf Q9p) [1, 2] :: Jcw

def Post.z1p (gx0 : Nat) (r : T126 × T68) (v : Value) (w' : World) : Prop :=
 ∃ S' u49, v = (ag (U4 r.1.set_ [.int .u8 r.1.b, .bool r.1.single])) ∧ Ext S0 w0 S' w' ∧ Hp nz wz S' w' ((some gx0, .row 69 [.string r.2.s, .i r.2.at_, .i r.2.deep, u49] 4 0) :: Lr) ∧ r.1.set_.length = 4 ∧ PtO kT72 S' w' u49 r.2.bad

def L.z1q (gx0 : Nat) : T126 × Int × Bool × T68 → (T126 × T68) → Prop := fun ⟨x2v, x3, x11, e0v⟩ r => ∀ S1 w1, Ext S0 w0 S1 w1 → ∀ gx2 u49 (_ : Hp nz wz S1 w1 ((some gx2, .row 127 (U4 x2v.set_ [.int .u8 x2v.b, .bool x2v.single]) 6 0) :: (some gx0, .row 69 [.string e0v.s, .i e0v.at_, .i e0v.deep, u49] 4 0) :: Lr)) (_ : x2v.set_.length = 4) (_ : PtO kT72 S1 w1 u49 e0v.bad) (junk : Nat → Value),
 Goes Tryd.prog (base 120) Jco ⟨lfr 39 [(0, (pt gx0 0)), (2, (pt gx2 0)), (3, .int .u8 x3), (11, .bool x11)] junk, []⟩ w1 (Done Tryd.prog 120 (Rets (Post.z1p nz wz S0 w0 Lr gx0 r)))

theorem W.z1q {nz wz S0 w0 Lr} [Gw nz wz] (gx0 : Nat) : ∀ a r, M.syntax_parser_item_l0 a = some r → L.z1q nz wz S0 w0 Lr gx0 a r := by
 intro ⟨x2v, x3, x11, e0v⟩ r h S1 w1 hx gx2 u49 p1 u4n u4a junk
 rw [M.syntax_parser_item_l0] at h
 try dsimp only at h
 refine ite_some h (fun h16 h => ?_) (fun h16 h => ?_)
 ·
  rw [h16]
  refine Goes.rn 7 [(23, (pt gx0 0)), (24, (pt gx0 0)), (25, (pt gx0 0)), (26, (pt gx0 1))] Jcq ?_
  refine Goes.ld 3 (.tmp 26) 27 3 ⟨gx0, 1, none⟩ (.i e0v.at_) (p1.c 1 1) ?_
  have p1 := p1.fr 1
  refine bind_some' h fun y17 e18 h => ?_
  refine Goes.cal (kc 31 [23, 27] #[66, 3]) 28 28 31 _ (W.z13 e0v e0v.at_ y17 e18 gx0 u49 p1 u4a) ?_
  rintro _ w8 ⟨S8, u76, u77, u78, u79, rfl, z8, p8, u7a, u7b, rfl, u7c⟩
  refine Goes.rn 4 [(29, .agg #[.u 0, .u 0, .u 0, .u 0, .int .u8 0, .bool false])] Jcs ?_
  refine Op_.st 127 (.tmp 2) (.tmp 29) 0 1 gx2 0 (.agg #[.u 0, .u 0, .u 0, .u 0, .int .u8 0, .bool false]) [.u 0, .u 0, .u 0, .u 0, .int .u8 0, .bool false] p8 rfl Goes.s (by kernel_rfl) (by kernel_rfl) (by kernel_rfl) (by kernel_rfl) (Nat.zero_le _) (by simp only [List.length_cons, List.length_nil]; omega) (by simp [Value.oneCell']) ?_
  intro w9 z9 p9
  have p9 : Hp nz wz S8 w9 ((some gx0, .row 69 [.string y17.2.s, .i y17.2.at_, .i y17.2.deep, u79] 4 0) :: (some gx2, .row 127 [.u 0, .u 0, .u 0, .u 0, .int .u8 0, .bool false] 6 0) :: Lr) := p9
  refine Goes.rn 1 [] Jcr ?_
  obtain rfl := Option.some.inj h
  have p9 := (p9.fr 0).fr 1
  exact Goes.ret (fn := Tryd.f120) (by kernel_rfl) (v := .agg #[.u 0, .u 0, .u 0, .u 0, .int .u8 0, .bool false]) (results_n1 (fn := Tryd.f120) (a := .cell 2 127) (by kernel_rfl) (resV_cell ⟨gx2, 0, none⟩ (by kernel_rfl) (run_loadN [.u 0, .u 0, .u 0, .u 0, .int .u8 0, .bool false] (by kernel_rfl) (by kernel_rfl) (p9.pa 0 0)))) ⟨S8, u79, rfl, ((hx.trans z8).trans z9), p9.drop, rfl, (u7c.ext z9)⟩
 ·
  have u7d : x11 = false := by simpa using h16
  rw [u7d]
  refine Goes.rn 8 [(30, (pt gx0 0)), (31, (pt gx0 0)), (32, (pt gx0 1))] Jcu ?_
  refine Goes.ld 3 (.tmp 32) 33 3 ⟨gx0, 1, none⟩ (.i e0v.at_) (p1.c 1 1) ?_
  refine Goes.rn 3 [(34, .i (wr .i64 (e0v.at_ + 1))), (35, (pt gx0 0)), (36, (pt gx0 1))] Jcv ?_
  refine Op_.st 3 (.tmp 36) (.tmp 34) 0 1 gx0 1 (.i (wr .i64 (e0v.at_ + 1))) [.i (wr .i64 (e0v.at_ + 1))] p1 rfl Goes.s (by kernel_rfl) (by kernel_rfl) (by kernel_rfl) (by kernel_rfl) (Nat.zero_le _) (by simp only [List.length_cons, List.length_nil]; omega) (by simp [Value.oneCell']) ?_
  intro w10 z10 p10
  have p10 : Hp nz wz S1 w10 ((some gx2, .row 127 (U4 x2v.set_ [.int .u8 x2v.b, .bool x2v.single]) 6 0) :: (some gx0, .row 69 [.string e0v.s, .i (wr .i64 (e0v.at_ + 1)), .i e0v.deep, u49] 4 0) :: Lr) := p10
  refine Goes.rn 4 [(37, .int .u8 x3)] Jcx ?_
  refine bind_some' h fun y19 e20 h => ?_
  refine Goes.cal (kc 105 [37] #[5]) 38 127 105 _ (W.z1m x3 y19 e20  p10 ) ?_
  rintro _ w11 ⟨S11, rfl, z11, p11, u7e⟩
  refine Op_.st 127 (.tmp 2) (.tmp 38) 0 0 gx2 0 (ag (U4 y19.set_ [.int .u8 y19.b, .bool y19.single])) (U4 y19.set_ [.int .u8 y19.b, .bool y19.single]) p11 rfl Goes.s (by kernel_rfl) (by kernel_rfl) (by kernel_rfl) (by kernel_rfl) (Nat.zero_le _) (by simp only [List.length_cons, List.length_nil]; omega) (by simp [Value.oneCell']) ?_
  intro w12 z12 p12
  have p12 : Hp nz wz S11 w12 ((some gx2, .row 127 (U4 y19.set_ [.int .u8 y19.b, .bool y19.single]) 6 0) :: (some gx0, .row 69 [.string e0v.s, .i (wr .i64 (e0v.at_ + 1)), .i e0v.deep, u49] 4 0) :: Lr) := p12
  refine Goes.rn 1 [] Jcw ?_
  obtain rfl := Option.some.inj h
  exact Goes.ret (fn := Tryd.f120) (by kernel_rfl) (v := (ag (U4 y19.set_ [.int .u8 y19.b, .bool y19.single]))) (results_n1 (fn := Tryd.f120) (a := .cell 2 127) (by kernel_rfl) (resV_cell ⟨gx2, 0, none⟩ (by kernel_rfl) (run_loadN (U4 y19.set_ [.int .u8 y19.b, .bool y19.single]) (by kernel_rfl) (by kernel_rfl) (p12.pa 0 0)))) ⟨S11, u49, rfl, (((hx.trans z10).trans z11).trans z12), p12.drop, u7e, (u4a.ext ((z10.trans z11).trans z12))⟩

def Q9q := sub [1] B120
def Jcy : List Item := [.code Q9q]
def Q9r := sub [0] B120
def Jcz : List Item := .inRegion (opsOf Q9r) [0] :: Jcy
def Q9s := sub [1, 1] B120
def Jd0 : List Item := [.code Q9s]
def Q9t := sub [1, 0] B120
def Jd1 : List Item := .inRegion (opsOf Q9t) [1, 2] :: Jd0
def Q9u := sub [1, 1, 0, 0, 1] B120
def Jd2 : List Item := .code Q9u :: Jcn
def Q9v := sub [1, 1, 0, 0, 0] B120
def Jd3 : List Item := .inRegion (opsOf Q9v) [1, 2] :: Jd2
def Q9w := sub [1, 1, 0, 0, 1, 0, 1] B120
def Jd4 : List Item := .code Q9w :: Jcn
def Q9x := sub [1, 1, 0, 0, 1, 0, 0] B120
def Jd5 : List Item := .inRegion (opsOf Q9x) [1, 2] :: Jd4
def Q9y := sub [1, 1, 0, 0, 1, 1, 0] B120
def Jd6 : List Item := .inRegion (opsOf Q9y) [3, 4, 5, 6, 7, 8, 9, 10, 11] :: Jco
def Jd7 : List Item := .inRegion (opsOf Q9y) [7, 8, 9, 10, 11] :: Jco
def Jd8 : List Item := .inRegion (opsOf Q9y) [8, 9, 10, 11] :: Jco

theorem W.z1p (x0v : T68) (r : T126 × T68) (h : M.syntax_parser_item x0v = some r) {nz wz S0 w0 Lr} [Gw nz wz] (gx0 u4b) (p0 : Hp nz wz S0 w0 ((some gx0, .row 69 [.string x0v.s, .i x0v.at_, .i x0v.deep, u4b] 4 0) :: Lr)) (u4c : PtO kT72 S0 w0 u4b x0v.bad) :
  Calls Tryd.prog 120 #[(pt gx0 0)] w0 (Rets (Post.z1p nz wz S0 w0 Lr gx0 r)) := by
 refine calls_of_goes (fn := Tryd.f120) (c := B120) (by kernel_rfl) (by kernel_rfl) 38 (by kernel_rfl) ?_
 refine Goes.jp 39 [(0, (pt gx0 0))] (fun junk => ?_)
 delta M.syntax_parser_item at h
 refine Goes.rn 2 [] Jcz ?_
 refine Op_.alloc 127 2 0 (.agg #[.u 0, .u 0, .u 0, .u 0, .int .u8 0, .bool false]) [.u 0, .u 0, .u 0, .u 0, .int .u8 0, .bool false] p0 Goes.v (by kernel_rfl) (by kernel_rfl) ?_
 intro b2 w2 z2 p2
 refine Goes.rn 4 [(4, (pt gx0 0))] Jd1 ?_
 have p2 := p2.fr 1
 refine bind_some' h fun y4 e5 h => ?_
 refine Goes.cal (kc 65 [4] #[66]) 5 5 65 _ (W.z11 x0v y4 e5 gx0 u4b p2 (u4c.ext z2)) ?_
 rintro _ w3 ⟨S3, u6t, rfl, z3, p3, u6u⟩
 refine Goes.rn 7 [(3, .int .u8 y4.1), (7, (pt gx0 0))] Jd3 ?_
 refine bind_some' h fun y6 e7 h => ?_
 refine Goes.cal (.call { callee := .value (.func 48), args := #[(.tmp 7), (.const (.int .u8 92))], argTypes := #[66, 5] }) 8 4 48 _ (W.z14 y4.2 92 y6 e7 gx0 u6t p3 u6u) ?_
 rintro _ w4 ⟨S4, u6d, rfl, z4, p4, u6g⟩
 refine Goes.rn 2 [(6, .bool y6.1)] Jd2 ?_
 refine ite_some h (fun h8 h => ?_) (fun h8 h => ?_)
 ·
  rw [h8]
  refine Goes.rn 4 [(9, (pt gx0 0))] Jd5 ?_
  refine bind_some' h fun y9 e10 h => ?_
  refine Goes.cal (kc 93 [9] #[66]) 10 127 93 _ (W.z1n y6.2 y9 e10 gx0 u6d p4 u6g) ?_
  rintro _ w5 ⟨S5, u7f, rfl, z5, p5, u7g, u7h⟩
  refine Op_.st 127 (.tmp 2) (.tmp 10) 0 1 b2 0 (ag (U4 y9.1.set_ [.int .u8 y9.1.b, .bool y9.1.single])) (U4 y9.1.set_ [.int .u8 y9.1.b, .bool y9.1.single]) p5 rfl Goes.s (by kernel_rfl) (by kernel_rfl) (by kernel_rfl) (by kernel_rfl) (Nat.zero_le _) (by simp only [List.length_cons, List.length_nil]; omega) (by simp [Value.oneCell']) ?_
  intro w6 z6 p6
  have p6 : Hp nz wz S5 w6 ((some gx0, .row 69 [.string y9.2.s, .i y9.2.at_, .i y9.2.deep, u7f] 4 0) :: (some b2, .row 127 (U4 y9.1.set_ [.int .u8 y9.1.b, .bool y9.1.single]) 6 0) :: Lr) := p6
  refine Goes.rn 1 [] Jd4 ?_
  obtain rfl := Option.some.inj h
  have p6 := (p6.fr 0).fr 1
  exact Goes.ret (fn := Tryd.f120) (by kernel_rfl) (v := (ag (U4 y9.1.set_ [.int .u8 y9.1.b, .bool y9.1.single]))) (results_n1 (fn := Tryd.f120) (a := .cell 2 127) (by kernel_rfl) (resV_cell ⟨b2, 0, none⟩ (by kernel_rfl) (run_loadN (U4 y9.1.set_ [.int .u8 y9.1.b, .bool y9.1.single]) (by kernel_rfl) (by kernel_rfl) (p6.pa 0 0)))) ⟨S5, u7f, rfl, ((((((Ext.refl S0 w0).trans z2).trans z3).trans z4).trans z5).trans z6), p6.drop, u7g, (u7h.ext z6)⟩
 ·
  have h8' : y6.1 = false := by simpa using h8
  rw [h8']
  refine Goes.rn 6 [(12, .int .u8 y4.1), (13, .bool (decide (y4.1 < 32))), (14, .bool (decide (y4.1 < 32)))] Jd6 ?_
  refine ite_some h (fun h11 h => ?_) (fun h11 h => ?_)
  ·
   rw [decide_eq_true h11]
   refine Goes.rn 10 [(15, undef), (16, undef), (17, .bool true), (18, .bool true), (19, undef), (20, undef), (21, undef), (22, .bool true), (11, .bool true)] Jco ?_
   have p4 := (p4.fr 0).fr 1
   exact Goes.jp 39 [(0, (pt gx0 0)), (2, (pt b2 0)), (3, .int .u8 y4.1), (11, .bool true)] (W.z1q gx0 _ _ h _ _ ((((Ext.refl S0 w0).trans z2).trans z3).trans z4) b2 u6d p4 rfl u6g)
  ·
   rw [decide_eq_false h11]
   refine Goes.rn 4 [(15, .int .u8 y4.1), (16, .bool (decide (y4.1 > 126))), (17, .bool (decide (y4.1 > 126))), (18, .bool (decide (y4.1 > 126)))] Jd7 ?_
   refine ite_some h (fun h13 h => ?_) (fun h13 h => ?_)
   ·
    rw [decide_eq_true h13]
    refine Goes.rn 6 [(19, undef), (20, undef), (21, undef), (22, .bool true), (11, .bool true)] Jco ?_
    have p4 := (p4.fr 0).fr 1
    exact Goes.jp 39 [(0, (pt gx0 0)), (2, (pt b2 0)), (3, .int .u8 y4.1), (11, .bool true)] (W.z1q gx0 _ _ h _ _ ((((Ext.refl S0 w0).trans z2).trans z3).trans z4) b2 u6d p4 rfl u6g)
   ·
    rw [decide_eq_false h13]
    refine Goes.rn 1 [(19, .int .u8 y4.1)] Jd8 ?_
    refine bind_some' h fun y14 e15 h => ?_
    refine Goes.cal (.call { callee := .value (.func 45), args := #[(.const (.string ⟨#[93, 91, 45]⟩)), (.tmp 19)], argTypes := #[9, 5] }) 20 3 45 _ (W.z1j (⟨#[93, 91, 45]⟩ : ByteArray) y4.1 y14 e15  p4 ) ?_
    rintro _ w7 ⟨S7, rfl, z7, p7⟩
    refine Goes.rn 4 [(21, .bool (decide (y14 ≥ 0))), (22, .bool (decide (y14 ≥ 0))), (11, .bool (decide (y14 ≥ 0)))] Jco ?_
    have p7 := (p7.fr 0).fr 1
    exact Goes.jp 39 [(0, (pt gx0 0)), (2, (pt b2 0)), (3, .int .u8 y4.1), (11, .bool (decide (y14 ≥ 0)))] (W.z1q gx0 _ _ h _ _ (((((Ext.refl S0 w0).trans z2).trans z3).trans z4).trans z7) b2 u6d p7 rfl (u6g.ext z7))

def Q9z := sub [1, 1, 1, 1, 1, 1, 1, 1, 1] B112
def Jd9 : List Item := [.code Q9z]
def Jda : List Item := .inBlock 0 :: Jd9
def Qa0 := sub [1, 1, 1, 1, 1, 1, 1, 1, 0, 0, 1] B112
def Jdb : List Item := .code Qa0 :: Jda
def Qa1 := sub [1, 1, 1, 1, 1, 1, 1, 1, 1, 1] B112
def Jdc : List Item := [.code Qa1]
def Qa2 := sub [1, 1, 1, 1, 1, 1, 1, 1, 1, 0] B112
def Jdd : List Item := .inRegion (opsOf Qa2) [1, 2] :: Jdc
def Qa3 := sub [1, 1, 1, 1, 1, 1, 1, 1, 0, 0, 1, 1, 1] B112
def Jde : List Item := .code Qa3 :: Jda
def Qa4 := sub [1, 1, 1, 1, 1, 1, 1, 1, 0, 0, 1, 1, 0] B112
def Jdf : List Item := .inRegion (opsOf Qa4) [1, 2, 3] :: Jde
def Qa5 := sub [1, 1, 1, 1, 1, 1, 1, 1, 0, 0, 1, 1, 1, 1, 1] B112
def Jdg : List Item := .code Qa5 :: Jda
def Qa6 := sub [1, 1, 1, 1, 1, 1, 1, 1, 0, 0, 1, 1, 1, 1, 0] B112
def Jdh : List Item := .inRegion (opsOf Qa6) [1, 2, 3, 4, 5] :: Jdg
def Jdi : List Item := .inRegion (opsOf Qa6) [3, 4, 5] :: Jdg
def Qa7 := sub [1, 1, 1, 1, 1, 1, 1, 1, 0, 0, 1, 1, 1, 1, 1, 0] B112
def Jdj : List Item := .inRegion (opsOf Qa7) [2] :: Jda
def Qa8 := sub [1, 1, 1, 1, 1, 1, 1, 1, 0, 0, 1, 1, 1, 1, 1, 1, 1] B112
def Jdk : List Item := .code Qa8 :: Jda
def Qa9 := sub [1, 1, 1, 1, 1, 1, 1, 1, 0, 0, 1, 1, 1, 1, 1, 1, 0] B112
def Jdl : List Item := .inRegion (opsOf Qa9) [1, 2, 3, 4, 5] :: Jdk
def Jdm : List Item := .inRegion (opsOf Qa9) [3, 4, 5] :: Jdk
def Qaa := sub [1, 1, 1, 1, 1, 1, 1, 1, 0, 0, 1, 1, 1, 0] B112
def Jdn : List Item := .inRegion (opsOf Qaa) [3] :: Jda

def Post.z1r (gx0 : Nat) (r : (List Int) × T68) (v : Value) (w' : World) : Prop :=
 ∃ S' vsq u49, v = .agg vsq.toArray ∧ Ext S0 w0 S' w' ∧ Hp nz wz S' w' ((some gx0, .row 69 [.string r.2.s, .i r.2.at_, .i r.2.deep, u49] 4 0) :: Lr) ∧ Els (kInt .u64) S' w' vsq r.1 ∧ vsq.length = 4 ∧ PtO kT72 S' w' u49 r.2.bad

def L.z1s (gx0 : Nat) : (List Int) × Int × T126 × Int × T126 × Bool × T68 → ((List Int) × T68) → Prop := fun ⟨u4j, x3, x4v, x5, x6v, x47, e0v⟩ r => ∀ S1 w1, Ext S0 w0 S1 w1 → ∀ gx2 gx4 gx6 u49 (_ : Hp nz wz S1 w1 ((some gx2, .row 25 (U4 u4j []) 4 0) :: (some gx4, .row 127 (U4 x4v.set_ [.int .u8 x4v.b, .bool x4v.single]) 6 0) :: (some gx6, .row 127 (U4 x6v.set_ [.int .u8 x6v.b, .bool x6v.single]) 6 0) :: (some gx0, .row 69 [.string e0v.s, .i e0v.at_, .i e0v.deep, u49] 4 0) :: Lr)) (_ : u4j.length = 4) (_ : x4v.set_.length = 4) (_ : x6v.set_.length = 4) (_ : PtO kT72 S1 w1 u49 e0v.bad) (junk : Nat → Value),
 Goes Tryd.prog (base 112) Jdb ⟨lfr 72 [(0, (pt gx0 0)), (2, (pt gx2 0)), (3, .i x3), (4, (pt gx4 0)), (5, .i x5), (6, (pt gx6 0)), (47, .bool x47)] junk, []⟩ w1 (Done Tryd.prog 112 (Rets (Post.z1r nz wz S0 w0 Lr gx0 r)))

theorem W.z1s {nz wz S0 w0 Lr} [Gw nz wz] (gx0 : Nat) : ∀ a r, M.syntax_parser_pair_l0 a = some r → L.z1s nz wz S0 w0 Lr gx0 a r := by
 intro ⟨u4j, x3, x4v, x5, x6v, x47, e0v⟩ r h S1 w1 hx gx2 gx4 gx6 u49 p1 u4n u4t u7i u4a junk
 rw [M.syntax_parser_pair_l0] at h
 try dsimp only at h
 refine ite_some h (fun h28 h => ?_) (fun h28 h => ?_)
 ·
  rw [h28]
  refine Goes.rn 6 [(70, (pt gx4 0))] Jdd ?_
  refine Goes.ldN 25 (.tmp 70) 71 25 ⟨gx4, 0, none⟩ (U4 x4v.set_ []) (p1.pa 1 0) ?_
  refine Op_.st 25 (.tmp 2) (.tmp 71) 0 0 gx2 0 (ag (U4 x4v.set_ [])) (U4 x4v.set_ []) p1 rfl Goes.s (by kernel_rfl) (by kernel_rfl) (by kernel_rfl) (by kernel_rfl) (Nat.zero_le _) (by simp only [List.length_cons, List.length_nil]; omega) (by simp [Value.oneCell']) ?_
  intro w14 z14 p14
  have p14 : Hp nz wz S1 w14 ((some gx2, .row 25 (U4 x4v.set_ []) 4 0) :: (some gx4, .row 127 (U4 x4v.set_ [.int .u8 x4v.b, .bool x4v.single]) 6 0) :: (some gx6, .row 127 (U4 x6v.set_ [.int .u8 x6v.b, .bool x6v.single]) 6 0) :: (some gx0, .row 69 [.string e0v.s, .i e0v.at_, .i e0v.deep, u49] 4 0) :: Lr) := p14
  refine Goes.rn 1 [] Jdc ?_
  obtain rfl := Option.some.inj h
  have p14 := (p14.dp 1).dp 1
  exact Goes.ret (fn := Tryd.f112) (by kernel_rfl) (v := (ag (U4 x4v.set_ []))) (results_n1 (fn := Tryd.f112) (a := .cell 2 25) (by kernel_rfl) (resV_cell ⟨gx2, 0, none⟩ (by kernel_rfl) (run_loadN (U4 x4v.set_ []) (by kernel_rfl) (by kernel_rfl) (p14.pa 0 0)))) ⟨S1, ((U4 x4v.set_ []) : List Value), u49, rfl, (hx.trans z14), p14.drop, (els_mk4 (S := S1) (w := w14) (k := .u64) u4t), rfl, (u4a.ext z14)⟩
 ·
  have u7j : x47 = false := by simpa using h28
  rw [u7j]
  refine Goes.rn 4 [(54, (pt gx6 5))] Jdf ?_
  refine Goes.ld 4 (.tmp 54) 55 4 ⟨gx6, 5, none⟩ (.bool x6v.single) (p1.c 2 5) ?_
  refine Goes.rn 3 [(56, .bool (!x6v.single)), (53, .bool (!x6v.single))] Jde ?_
  refine ite_some h (fun h29 h => ?_) (fun h29 h => ?_)
  ·
   rw [h29]
   have p1 : Hp nz wz S1 w1 ((some gx2, .row 25 (U4 u4j []) 4 0) :: (some gx4, .row 127 (U4 x4v.set_ [.int .u8 x4v.b, .bool x4v.single]) 6 0) :: (some gx6, .row 127 (U4 x6v.set_ [.int .u8 x6v.b, .bool true]) 6 0) :: (some gx0, .row 69 [.string e0v.s, .i e0v.at_, .i e0v.deep, u49] 4 0) :: Lr) := by simp only [h29] at p1; exact p1
   refine Goes.rn 4 [(62, (pt gx4 4))] Jdh ?_
   refine Goes.ld 5 (.tmp 62) 63 5 ⟨gx4, 4, none⟩ (.int .u8 x4v.b) (p1.c 1 4) ?_
   refine Goes.rn 1 [(64, (pt gx6 4))] Jdi ?_
   refine Goes.ld 5 (.tmp 64) 65 5 ⟨gx6, 4, none⟩ (.int .u8 x6v.b) (p1.c 2 4) ?_
   refine Goes.rn 3 [(66, .bool (decide (x4v.b > x6v.b))), (61, .bool (decide (x4v.b > x6v.b)))] Jdg ?_
   refine ite_some h (fun h30 h => ?_) (fun h30 h => ?_)
   ·
    rw [decide_eq_true h30]
    refine Goes.rn 4 [(67, (pt gx0 0)), (68, .i x3)] Jdj ?_
    have p1 := p1.fr 3
    refine bind_some' h fun y31 e32 h => ?_
    refine Goes.cal (kc 31 [67, 68] #[66, 3]) 69 28 31 _ (W.z13 e0v x3 y31 e32 gx0 u49 p1 u4a) ?_
    rintro _ w15 ⟨S15, u7k, u7l, u7m, u7n, rfl, z15, p15, u7o, u7p, rfl, u7q⟩
    have p15 := p15.dp 3
    refine Goes.rn 5 [(70, (pt gx4 0))] Jdd ?_
    refine Goes.ldN 25 (.tmp 70) 71 25 ⟨gx4, 0, none⟩ (U4 x4v.set_ []) (p15.pa 2 0) ?_
    refine Op_.st 25 (.tmp 2) (.tmp 71) 0 1 gx2 0 (ag (U4 x4v.set_ [])) (U4 x4v.set_ []) p15 rfl Goes.s (by kernel_rfl) (by kernel_rfl) (by kernel_rfl) (by kernel_rfl) (Nat.zero_le _) (by simp only [List.length_cons, List.length_nil]; omega) (by simp [Value.oneCell']) ?_
    intro w16 z16 p16
    have p16 : Hp nz wz S15 w16 ((some gx0, .row 69 [.string y31.2.s, .i y31.2.at_, .i y31.2.deep, u7n] 4 0) :: (some gx2, .row 25 (U4 x4v.set_ []) 4 0) :: (some gx4, .row 127 (U4 x4v.set_ [.int .u8 x4v.b, .bool x4v.single]) 6 0) :: Lr) := p16
    refine Goes.rn 1 [] Jdc ?_
    obtain rfl := Option.some.inj h
    have p16 := p16.dp 2
    have p16 := (p16.fr 0).fr 1
    exact Goes.ret (fn := Tryd.f112) (by kernel_rfl) (v := (ag (U4 x4v.set_ []))) (results_n1 (fn := Tryd.f112) (a := .cell 2 25) (by kernel_rfl) (resV_cell ⟨gx2, 0, none⟩ (by kernel_rfl) (run_loadN (U4 x4v.set_ []) (by kernel_rfl) (by kernel_rfl) (p16.pa 0 0)))) ⟨S15, ((U4 x4v.set_ []) : List Value), u7n, rfl, ((hx.trans z15).trans z16), p16.drop, (els_mk4 (S := S15) (w := w16) (k := .u64) u4t), rfl, (u7q.ext z16)⟩
   ·
    rw [decide_eq_false h30]
    refine Goes.rn 4 [(42, (pt gx4 4))] Jdl ?_
    refine Goes.ld 5 (.tmp 42) 43 5 ⟨gx4, 4, none⟩ (.int .u8 x4v.b) (p1.c 1 4) ?_
    refine Goes.rn 1 [(44, (pt gx6 4))] Jdm ?_
    refine Goes.ld 5 (.tmp 44) 45 5 ⟨gx6, 4, none⟩ (.int .u8 x6v.b) (p1.c 2 4) ?_
    refine bind_some' h fun y33 e34 h => ?_
    refine Goes.cal (kc 113 [43, 45] #[5, 5]) 46 25 113 _ (W.z1a x4v.b x6v.b y33 e34  p1 ) ?_
    rintro _ w17 ⟨S17, u7r, rfl, z17, p17, u7s, u7t⟩
    have p17 := (p17.dp 1).dp 1
    have f35 : Els (kInt .u64) S17 w17 ((U4 u4j []) : List Value) u4j := (els_mk4 (k := .u64) u4n)
    refine Op_.stA 25 (.tmp 2) (.tmp 46) 0 0 gx2 4 u7r p17 rfl rfl Goes.s (by kernel_rfl) (by kernel_rfl) (by kernel_rfl) u7t (Els.one u7s) ?_
    intro w18 z18 p18
    refine Goes.rn 1 [] Jdk ?_
    obtain rfl := Option.some.inj h
    exact Goes.ret (fn := Tryd.f112) (by kernel_rfl) (v := .agg u7r.toArray) (results_n1 (fn := Tryd.f112) (a := .cell 2 25) (by kernel_rfl) (resV_cell ⟨gx2, 0, none⟩ (by kernel_rfl) (run_loadN u7r (by kernel_rfl) (by rw [u7t]; kernel_rfl) (At_all (p18.mem 0 rfl))))) ⟨S17, u7r, u49, rfl, ((hx.trans z17).trans z18), p18.drop, (u7s.ext z18), u7t, (u4a.ext (z17.trans z18))⟩
  ·
   have u7u : x6v.single = false := by simpa using h29
   rw [u7u]
   have p1 : Hp nz wz S1 w1 ((some gx2, .row 25 (U4 u4j []) 4 0) :: (some gx4, .row 127 (U4 x4v.set_ [.int .u8 x4v.b, .bool x4v.single]) 6 0) :: (some gx6, .row 127 (U4 x6v.set_ [.int .u8 x6v.b, .bool false]) 6 0) :: (some gx0, .row 69 [.string e0v.s, .i e0v.at_, .i e0v.deep, u49] 4 0) :: Lr) := by simp only [u7u] at p1; exact p1
   refine Goes.rn 5 [(57, (pt gx0 0)), (58, .i x5), (59, .i (wr .i64 (x5 + 1)))] Jdn ?_
   have p1 := p1.fr 3
   refine bind_some' h fun y36 e37 h => ?_
   refine Goes.cal (kc 31 [57, 59] #[66, 3]) 60 28 31 _ (W.z13 e0v (wr .i64 (x5 + 1)) y36 e37 gx0 u49 p1 u4a) ?_
   rintro _ w19 ⟨S19, u7v, u7w, u7x, u7y, rfl, z19, p19, u7z, u80, rfl, u81⟩
   have p19 := p19.dp 3
   refine Goes.rn 5 [(70, (pt gx4 0))] Jdd ?_
   refine Goes.ldN 25 (.tmp 70) 71 25 ⟨gx4, 0, none⟩ (U4 x4v.set_ []) (p19.pa 2 0) ?_
   refine Op_.st 25 (.tmp 2) (.tmp 71) 0 1 gx2 0 (ag (U4 x4v.set_ [])) (U4 x4v.set_ []) p19 rfl Goes.s (by kernel_rfl) (by kernel_rfl) (by kernel_rfl) (by kernel_rfl) (Nat.zero_le _) (by simp only [List.length_cons, List.length_nil]; omega) (by simp [Value.oneCell']) ?_
   intro w20 z20 p20
   have p20 : Hp nz wz S19 w20 ((some gx0, .row 69 [.string y36.2.s, .i y36.2.at_, .i y36.2.deep, u7y] 4 0) :: (some gx2, .row 25 (U4 x4v.set_ []) 4 0) :: (some gx4, .row 127 (U4 x4v.set_ [.int .u8 x4v.b, .bool x4v.single]) 6 0) :: Lr) := p20
   refine Goes.rn 1 [] Jdc ?_
   obtain rfl := Option.some.inj h
   have p20 := p20.dp 2
   have p20 := (p20.fr 0).fr 1
   exact Goes.ret (fn := Tryd.f112) (by kernel_rfl) (v := (ag (U4 x4v.set_ []))) (results_n1 (fn := Tryd.f112) (a := .cell 2 25) (by kernel_rfl) (resV_cell ⟨gx2, 0, none⟩ (by kernel_rfl) (run_loadN (U4 x4v.set_ []) (by kernel_rfl) (by kernel_rfl) (p20.pa 0 0)))) ⟨S19, ((U4 x4v.set_ []) : List Value), u7y, rfl, ((hx.trans z19).trans z20), p20.drop, (els_mk4 (S := S19) (w := w20) (k := .u64) u4t), rfl, (u81.ext z20)⟩

def Qab := sub [1] B112
def Jdo : List Item := [.code Qab]
def Qac := sub [0] B112
def Jdp : List Item := .inRegion (opsOf Qac) [0] :: Jdo
def Qad := sub [1, 1] B112
def Jdq : List Item := [.code Qad]
def Qae := sub [1, 0] B112
def Jdr : List Item := .inRegion (opsOf Qae) [3, 4] :: Jdq
def Qaf := sub [1, 1, 1] B112
def Jds : List Item := [.code Qaf]
def Qag := sub [1, 1, 0] B112
def Jdt : List Item := .inRegion (opsOf Qag) [1, 2, 3] :: Jds
def Qah := sub [1, 1, 1, 1] B112
def Jdu : List Item := [.code Qah]
def Qai := sub [1, 1, 1, 0, 1] B112
def Jdv : List Item := .code Qai :: Jdu
def Qaj := sub [1, 1, 1, 0, 0] B112
def Jdw : List Item := .inRegion (opsOf Qaj) [1, 2] :: Jdv
def Qak := sub [1, 1, 1, 1, 1] B112
def Jdx : List Item := [.code Qak]
def Qal := sub [1, 1, 1, 1, 0, 1] B112
def Jdy : List Item := .code Qal :: Jdx
def Qam := sub [1, 1, 1, 1, 0, 0] B112
def Jdz : List Item := .inRegion (opsOf Qam) [1, 2] :: Jdy
def Qan := sub [1, 1, 1, 1, 1, 1] B112
def Je0 : List Item := [.code Qan]
def Qao := sub [1, 1, 1, 1, 1, 0] B112
def Je1 : List Item := .inRegion (opsOf Qao) [3, 4, 5, 6, 7] :: Je0
def Je2 : List Item := .inRegion (opsOf Qao) [7] :: Je0
def Qap := sub [1, 1, 1, 1, 1, 1, 1] B112
def Je3 : List Item := [.code Qap]
def Qaq := sub [1, 1, 1, 1, 1, 1, 0] B112
def Je4 : List Item := .inRegion (opsOf Qaq) [3, 4] :: Je3
def Qar := sub [1, 1, 1, 1, 1, 1, 1, 1] B112
def Je5 : List Item := [.code Qar]
def Qas := sub [1, 1, 1, 1, 1, 1, 1, 0] B112
def Je6 : List Item := .inRegion (opsOf Qas) [1, 2, 3] :: Je5
def Qat := sub [1, 1, 1, 1, 1, 1, 1, 1, 0, 0, 0] B112
def Je7 : List Item := .inRegion (opsOf Qat) [3, 4, 5] :: Jdb
def Qau := sub [1, 1, 1, 1, 0, 1, 0, 1] B112
def Je8 : List Item := .code Qau :: Jdx
def Qav := sub [1, 1, 1, 1, 0, 1, 0, 0] B112
def Je9 : List Item := .inRegion (opsOf Qav) [4, 5] :: Je8
def Qaw := sub [1, 1, 1, 1, 0, 1, 0, 1, 1] B112
def Jea : List Item := .code Qaw :: Jdx
def Qax := sub [1, 1, 1, 1, 0, 1, 0, 1, 0] B112
def Jeb : List Item := .inRegion (opsOf Qax) [1, 2] :: Jea
def Qay := sub [1, 1, 1, 0, 1, 0, 1] B112
def Jec : List Item := .code Qay :: Jdu
def Qaz := sub [1, 1, 1, 0, 1, 0, 0] B112
def Jed : List Item := .inRegion (opsOf Qaz) [1, 2] :: Jec

theorem W.z1r (x0v : T68) (r : (List Int) × T68) (h : M.syntax_parser_pair x0v = some r) {nz wz S0 w0 Lr} [Gw nz wz] (gx0 u4b) (p0 : Hp nz wz S0 w0 ((some gx0, .row 69 [.string x0v.s, .i x0v.at_, .i x0v.deep, u4b] 4 0) :: Lr)) (u4c : PtO kT72 S0 w0 u4b x0v.bad) :
  Calls Tryd.prog 112 #[(pt gx0 0)] w0 (Rets (Post.z1r nz wz S0 w0 Lr gx0 r)) := by
 refine calls_of_goes (fn := Tryd.f112) (c := B112) (by kernel_rfl) (by kernel_rfl) 71 (by kernel_rfl) ?_
 refine Goes.jp 72 [(0, (pt gx0 0))] (fun junk => ?_)
 delta M.syntax_parser_pair at h
 refine Goes.rn 2 [] Jdp ?_
 refine Op_.alloc 25 2 0 (.agg #[.u 0, .u 0, .u 0, .u 0]) [.u 0, .u 0, .u 0, .u 0] p0 Goes.v (by kernel_rfl) (by kernel_rfl) ?_
 intro b2 w2 z2 p2
 refine Goes.rn 6 [(7, (pt gx0 0)), (8, (pt gx0 0)), (9, (pt gx0 1))] Jdr ?_
 refine Goes.ld 3 (.tmp 9) 10 3 ⟨gx0, 1, none⟩ (.i x0v.at_) (p2.c 1 1) ?_
 refine Goes.rn 5 [(3, .i x0v.at_), (11, (pt gx0 0))] Jdt ?_
 have p2 := p2.fr 1
 refine bind_some' h fun y4 e5 h => ?_
 refine Goes.cal (kc 120 [11] #[66]) 12 127 120 _ (W.z1p x0v y4 e5 gx0 u4b p2 (u4c.ext z2)) ?_
 rintro _ w3 ⟨S3, u6t, rfl, z3, p3, u82, u6u⟩
 refine Op_.alloc 127 4 0 (.agg #[.u 0, .u 0, .u 0, .u 0, .int .u8 0, .bool false]) [.u 0, .u 0, .u 0, .u 0, .int .u8 0, .bool false] p3 Goes.v (by kernel_rfl) (by kernel_rfl) ?_
 intro b6 w4 z4 p4
 refine Op_.st 127 (.tmp 4) (.tmp 12) 0 0 b6 0 (ag (U4 y4.1.set_ [.int .u8 y4.1.b, .bool y4.1.single])) (U4 y4.1.set_ [.int .u8 y4.1.b, .bool y4.1.single]) p4 rfl Goes.s (by kernel_rfl) (by kernel_rfl) (by kernel_rfl) (by kernel_rfl) (Nat.zero_le _) (by simp only [List.length_cons, List.length_nil]; omega) (by simp [Value.oneCell']) ?_
 intro w5 z5 p5
 have p5 : Hp nz wz S3 w5 ((some b6, .row 127 (U4 y4.1.set_ [.int .u8 y4.1.b, .bool y4.1.single]) 6 0) :: (some gx0, .row 69 [.string y4.2.s, .i y4.2.at_, .i y4.2.deep, u6t] 4 0) :: (some b2, .row 25 [.u 0, .u 0, .u 0, .u 0] 4 0) :: Lr) := p5
 refine Goes.rn 5 [(13, (pt gx0 0))] Jdw ?_
 have p5 := p5.fr 1
 refine bind_some' h fun y8 e9 h => ?_
 refine Goes.cal (kc 65 [13] #[66]) 14 5 65 _ (W.z11 y4.2 y8 e9 gx0 u6t p5 (u6u.ext (z4.trans z5))) ?_
 rintro _ w6 ⟨S6, u83, rfl, z6, p6, u84⟩
 refine Goes.rn 2 [(15, .bool (!(decide (y8.1 = 45))))] Jdv ?_
 refine ite_some h (fun h10 h => ?_) (fun h10 h => ?_)
 ·
  rw [decide_eq_true h10]
  refine Goes.rn 6 [(18, (pt b6 5))] Jdz ?_
  refine Goes.ld 4 (.tmp 18) 19 4 ⟨b6, 5, none⟩ (.bool y4.1.single) (p6.c 1 5) ?_
  refine Goes.rn 2 [(20, .bool (!y4.1.single))] Jdy ?_
  refine ite_some h (fun h11 h => ?_) (fun h11 h => ?_)
  ·
   rw [h11]
   have p6 : Hp nz wz S6 w6 ((some gx0, .row 69 [.string y8.2.s, .i y8.2.at_, .i y8.2.deep, u83] 4 0) :: (some b6, .row 127 (U4 y4.1.set_ [.int .u8 y4.1.b, .bool true]) 6 0) :: (some b2, .row 25 [.u 0, .u 0, .u 0, .u 0] 4 0) :: Lr) := by simp only [h11] at p6; exact p6
   refine Goes.rn 7 [(29, (pt gx0 0)), (30, (pt gx0 0)), (31, (pt gx0 1))] Je1 ?_
   refine Goes.ld 3 (.tmp 31) 32 3 ⟨gx0, 1, none⟩ (.i y8.2.at_) (p6.c 0 1) ?_
   refine Goes.rn 3 [(33, .i (wr .i64 (y8.2.at_ + 1))), (34, (pt gx0 0)), (35, (pt gx0 1))] Je2 ?_
   refine Op_.st 3 (.tmp 35) (.tmp 33) 0 0 gx0 1 (.i (wr .i64 (y8.2.at_ + 1))) [.i (wr .i64 (y8.2.at_ + 1))] p6 rfl Goes.s (by kernel_rfl) (by kernel_rfl) (by kernel_rfl) (by kernel_rfl) (Nat.zero_le _) (by simp only [List.length_cons, List.length_nil]; omega) (by simp [Value.oneCell']) ?_
   intro w7 z7 p7
   have p7 : Hp nz wz S6 w7 ((some gx0, .row 69 [.string y8.2.s, .i (wr .i64 (y8.2.at_ + 1)), .i y8.2.deep, u83] 4 0) :: (some b6, .row 127 (U4 y4.1.set_ [.int .u8 y4.1.b, .bool true]) 6 0) :: (some b2, .row 25 [.u 0, .u 0, .u 0, .u 0] 4 0) :: Lr) := p7
   refine Goes.rn 6 [(36, (pt gx0 0)), (37, (pt gx0 0)), (38, (pt gx0 1))] Je4 ?_
   refine Goes.ld 3 (.tmp 38) 39 3 ⟨gx0, 1, none⟩ (.i (wr .i64 (y8.2.at_ + 1))) (p7.c 0 1) ?_
   refine Goes.rn 5 [(5, .i (wr .i64 (y8.2.at_ + 1))), (40, (pt gx0 0))] Je6 ?_
   refine bind_some' h fun y12 e13 h => ?_
   refine Goes.cal (kc 120 [40] #[66]) 41 127 120 _ (W.z1p (⟨y8.2.s, wr .i64 (y8.2.at_ + 1), y8.2.deep, y8.2.bad⟩ : T68) y12 e13 gx0 u83 p7 (u84.ext z7)) ?_
   rintro _ w8 ⟨S8, u79, rfl, z8, p8, u85, u7c⟩
   refine Op_.alloc 127 6 0 (.agg #[.u 0, .u 0, .u 0, .u 0, .int .u8 0, .bool false]) [.u 0, .u 0, .u 0, .u 0, .int .u8 0, .bool false] p8 Goes.v (by kernel_rfl) (by kernel_rfl) ?_
   intro b14 w9 z9 p9
   refine Op_.st 127 (.tmp 6) (.tmp 41) 0 0 b14 0 (ag (U4 y12.1.set_ [.int .u8 y12.1.b, .bool y12.1.single])) (U4 y12.1.set_ [.int .u8 y12.1.b, .bool y12.1.single]) p9 rfl Goes.s (by kernel_rfl) (by kernel_rfl) (by kernel_rfl) (by kernel_rfl) (Nat.zero_le _) (by simp only [List.length_cons, List.length_nil]; omega) (by simp [Value.oneCell']) ?_
   intro w10 z10 p10
   have p10 : Hp nz wz S8 w10 ((some b14, .row 127 (U4 y12.1.set_ [.int .u8 y12.1.b, .bool y12.1.single]) 6 0) :: (some gx0, .row 69 [.string y12.2.s, .i y12.2.at_, .i y12.2.deep, u79] 4 0) :: (some b6, .row 127 (U4 y4.1.set_ [.int .u8 y4.1.b, .bool true]) 6 0) :: (some b2, .row 25 [.u 0, .u 0, .u 0, .u 0] 4 0) :: Lr) := p10
   refine Goes.rn 8 [(48, (pt gx0 0)), (49, (pt gx0 0)), (50, (pt gx0 3))] Je7 ?_
   refine Goes.ld 67 (.tmp 50) 51 67 ⟨gx0, 3, none⟩ (u79) (p10.c 1 3) ?_
   refine let_some h fun v25 h16 h => ?_
   rcases v25 with _ | y17
   ·
    try dsimp only at h
    obtain rfl := PtO.nil (u7c.ext (z9.trans z10)) h16
    refine Goes.rn 3 [(52, .bool false), (47, .bool false)] Jdb ?_
    have p10 := (((p10.fr 1).fr 1).fr 2).fr 3
    exact Goes.jp 72 [(0, (pt gx0 0)), (2, (pt b2 0)), (3, .i x0v.at_), (4, (pt b6 0)), (5, .i (wr .i64 (y8.2.at_ + 1))), (6, (pt b14 0)), (47, .bool false)] (W.z1s gx0 _ _ h _ _ ((((((((((Ext.refl S0 w0).trans z2).trans z3).trans z4).trans z5).trans z6).trans z7).trans z8).trans z9).trans z10) b2 b6 b14 (.pointer none) p10 rfl u82 u85 rfl)
   ·
    try dsimp only at h
    obtain ⟨a19, _, rfl, -, f20, q21⟩ := PtO.got (u7c.ext (z9.trans z10)) h16
    obtain rfl := q21
    refine Goes.rn 3 [(52, .bool true), (47, .bool true)] Jdb ?_
    have p10 := (((p10.fr 1).fr 1).fr 2).fr 3
    exact Goes.jp 72 [(0, (pt gx0 0)), (2, (pt b2 0)), (3, .i x0v.at_), (4, (pt b6 0)), (5, .i (wr .i64 (y8.2.at_ + 1))), (6, (pt b14 0)), (47, .bool true)] (W.z1s gx0 _ _ h _ _ ((((((((((Ext.refl S0 w0).trans z2).trans z3).trans z4).trans z5).trans z6).trans z7).trans z8).trans z9).trans z10) b2 b6 b14 (.pointer (some a19)) p10 rfl u82 u85 ⟨_, _, rfl, List.cons_ne_nil _ _, f20, rfl⟩)
  ·
   have u6y : y4.1.single = false := by simpa using h11
   rw [u6y]
   have p6 : Hp nz wz S6 w6 ((some gx0, .row 69 [.string y8.2.s, .i y8.2.at_, .i y8.2.deep, u83] 4 0) :: (some b6, .row 127 (U4 y4.1.set_ [.int .u8 y4.1.b, .bool false]) 6 0) :: (some b2, .row 25 [.u 0, .u 0, .u 0, .u 0] 4 0) :: Lr) := by simp only [u6y] at p6; exact p6
   refine Goes.rn 7 [(21, (pt gx0 0)), (22, (pt gx0 0)), (23, (pt gx0 0)), (24, (pt gx0 1))] Je9 ?_
   refine Goes.ld 3 (.tmp 24) 25 3 ⟨gx0, 1, none⟩ (.i y8.2.at_) (p6.c 0 1) ?_
   refine bind_some' h fun y26 e27 h => ?_
   refine Goes.cal (kc 31 [21, 25] #[66, 3]) 26 28 31 _ (W.z13 y8.2 y8.2.at_ y26 e27 gx0 u83 p6 u84) ?_
   rintro _ w11 ⟨S11, u86, u87, u88, u71, rfl, z11, p11, u89, u8a, rfl, u72⟩
   refine Goes.rn 4 [(27, (pt b6 0))] Jeb ?_
   refine Goes.ldN 25 (.tmp 27) 28 25 ⟨b6, 0, none⟩ (U4 y4.1.set_ []) (p11.pa 1 0) ?_
   refine Op_.st 25 (.tmp 2) (.tmp 28) 0 2 b2 0 (ag (U4 y4.1.set_ [])) (U4 y4.1.set_ []) p11 rfl Goes.s (by kernel_rfl) (by kernel_rfl) (by kernel_rfl) (by kernel_rfl) (Nat.zero_le _) (by simp only [List.length_cons, List.length_nil]; omega) (by simp [Value.oneCell']) ?_
   intro w12 z12 p12
   have p12 : Hp nz wz S11 w12 ((some gx0, .row 69 [.string y26.2.s, .i y26.2.at_, .i y26.2.deep, u71] 4 0) :: (some b6, .row 127 (U4 y4.1.set_ [.int .u8 y4.1.b, .bool false]) 6 0) :: (some b2, .row 25 (U4 y4.1.set_ []) 4 0) :: Lr) := p12
   refine Goes.rn 1 [] Jea ?_
   obtain rfl := Option.some.inj h
   have p12 := p12.dp 1
   have p12 := (p12.fr 0).fr 1
   exact Goes.ret (fn := Tryd.f112) (by kernel_rfl) (v := (ag (U4 y4.1.set_ []))) (results_n1 (fn := Tryd.f112) (a := .cell 2 25) (by kernel_rfl) (resV_cell ⟨b2, 0, none⟩ (by kernel_rfl) (run_loadN (U4 y4.1.set_ []) (by kernel_rfl) (by kernel_rfl) (p12.pa 0 0)))) ⟨S11, ((U4 y4.1.set_ []) : List Value), u71, rfl, ((((((((Ext.refl S0 w0).trans z2).trans z3).trans z4).trans z5).trans z6).trans z11).trans z12), p12.drop, (els_mk4 (S := S11) (w := w12) (k := .u64) u82), rfl, (u72.ext z12)⟩
 ·
  rw [decide_eq_false h10]
  refine Goes.rn 4 [(16, (pt b6 0))] Jed ?_
  refine Goes.ldN 25 (.tmp 16) 17 25 ⟨b6, 0, none⟩ (U4 y4.1.set_ []) (p6.pa 1 0) ?_
  refine Op_.st 25 (.tmp 2) (.tmp 17) 0 2 b2 0 (ag (U4 y4.1.set_ [])) (U4 y4.1.set_ []) p6 rfl Goes.s (by kernel_rfl) (by kernel_rfl) (by kernel_rfl) (by kernel_rfl) (Nat.zero_le _) (by simp only [List.length_cons, List.length_nil]; omega) (by simp [Value.oneCell']) ?_
  intro w13 z13 p13
  have p13 : Hp nz wz S6 w13 ((some gx0, .row 69 [.string y8.2.s, .i y8.2.at_, .i y8.2.deep, u83] 4 0) :: (some b6, .row 127 (U4 y4.1.set_ [.int .u8 y4.1.b, .bool y4.1.single]) 6 0) :: (some b2, .row 25 (U4 y4.1.set_ []) 4 0) :: Lr) := p13
  refine Goes.rn 1 [] Jec ?_
  obtain rfl := Option.some.inj h
  have p13 := p13.dp 1
  have p13 := (p13.fr 0).fr 1
  exact Goes.ret (fn := Tryd.f112) (by kernel_rfl) (v := (ag (U4 y4.1.set_ []))) (results_n1 (fn := Tryd.f112) (a := .cell 2 25) (by kernel_rfl) (resV_cell ⟨b2, 0, none⟩ (by kernel_rfl) (run_loadN (U4 y4.1.set_ []) (by kernel_rfl) (by kernel_rfl) (p13.pa 0 0)))) ⟨S6, ((U4 y4.1.set_ []) : List Value), u83, rfl, (((((((Ext.refl S0 w0).trans z2).trans z3).trans z4).trans z5).trans z6).trans z13), p13.drop, (els_mk4 (S := S6) (w := w13) (k := .u64) u82), rfl, (u84.ext z13)⟩

def Qb0 := sub [1, 1, 1, 0, 1, 0, 1, 0] B91
def Jee : List Item := .inRegion (opsOf Qb0) [0, 1, 2, 3, 4] :: J2z
def Qb1 := sub [1, 1, 1, 0, 1, 0] B91
def Qb2 := sub [1, 1, 1, 0, 1, 0, 0] B91
def Qb3 := sub [1, 1, 1, 0, 1, 0, 1] B91

def Post.z1t (lk : Nat) (rk : Nat) (jkk : Nat → Value) (u8b : Nat) (u8c : Option Nat) (u8d : Nat) (u8e : Nat) (u8f : List Value) (u8g : Nat) (u8h : Nat) (u8i : Nat) (u8j : Value) (u8k : T27) (kq3 : Bool) (u8l : T68) (r : List Int) (v : Value) (w' : World) : Prop :=
 ∃ S' u8m, v = .bool true ∧ Ext S0 w0 S' w' ∧ Hp nz wz S' w' ((some lk, .obj (lpst 91 (lfr 20 [(2, (pt u8b 0)), (3, .bool kq3), (4, (pt u8g 0)), (9, .func (.func 111) #[] #[(pt u8h 0)])] jkk) #[10] (rfAssign (Qb1)) (rfBody (Qb1)) rk .ready none)) :: (some u8b, .row 28 (.i u8k.Kind :: U4 u8k.Set [.slice (Gp u8c) u8d u8e, .i u8k.Min, .i u8k.Max]) 8 0) :: (u8c, .row 28 u8f (u8e * kT27.size) 0) :: (some u8g, .row 25 u8m 4 0) :: (some u8h, .row 66 [(pt u8i 0)] 1 0) :: (some u8i, .row 69 [.string u8l.s, .i u8l.at_, .i u8l.deep, u8j] 4 0) :: Lr) ∧ Els (kInt .u64) S' w' u8m r ∧ u8m.length = 4

theorem W.z1t (u8k : T27) (kq3 : Bool) (kq4 : List Int) (u8l : T68) (a0 : List Int) (r : List Int) (h : M.syntax_parser_class_r_2 u8k kq3 kq4 u8l a0 = some r) {nz wz S0 w0 Lr} [Gw nz wz] (lk rk jkk u8b u8c u8d u8e u8f u8g u8n u8h u8i u8j u8o) (p0 : Hp nz wz S0 w0 ((some lk, .obj (lpst 91 (lfr 20 [(2, (pt u8b 0)), (3, .bool kq3), (4, (pt u8g 0)), (9, .func (.func 111) #[] #[(pt u8h 0)])] jkk) #[10] (rfAssign (Qb1)) (rfBody (Qb1)) rk .ready none)) :: (some u8b, .row 28 (.i u8k.Kind :: U4 u8k.Set [.slice (Gp u8c) u8d u8e, .i u8k.Min, .i u8k.Max]) 8 0) :: (u8c, .row 28 u8f (u8e * kT27.size) 0) :: (some u8g, .row 25 u8n 4 0) :: (some u8h, .row 66 [(pt u8i 0)] 1 0) :: (some u8i, .row 69 [.string u8l.s, .i u8l.at_, .i u8l.deep, u8j] 4 0) :: Lr)) (u8p : u8k.Set.length = 4) (u8q : Els kT27 S0 w0 u8f u8k.L) (u8r : u8k.L.length = u8d) (u8s : Els (kInt .u64) S0 w0 u8n kq4) (u8t : u8n.length = 4) (u8u : PtO kT72 S0 w0 u8j u8l.bad) (fa0 : Els (kInt .u64) S0 w0 u8o a0) (la0 : u8o.length = 4) :
  Goes Tryd.prog (rbase 91 lk) [.code (rfAssign (Qb1)), .beginRound, .code (rfBody (Qb1))] ⟨setp (lfr 20 [(2, (pt u8b 0)), (3, .bool kq3), (4, (pt u8g 0)), (9, .func (.func 111) #[] #[(pt u8h 0)])] jkk) #[10] #[.agg u8o.toArray], []⟩ w0 (DoneR (Post.z1t nz wz S0 w0 Lr lk rk jkk u8b u8c u8d u8e u8f u8g u8h u8i u8j u8k kq3 u8l r)) := by
 subst u8r
 refine Goes.jp 20 [(2, (pt u8b 0)), (3, .bool kq3), (4, (pt u8g 0)), (9, .func (.func 111) #[] #[(pt u8h 0)]), (10, .agg u8o.toArray)] (fun junk => ?_)
 delta M.syntax_parser_class_r_2 at h
 refine Goes.rn 1 [] [.inRegion (opsOf (Qb2)) [0, 1], .beginRound, .code (Qb3)] ?_
 refine Op_.alloc 25 5 0 (.agg #[.u 0, .u 0, .u 0, .u 0]) [.u 0, .u 0, .u 0, .u 0] p0 Goes.v (by kernel_rfl) (by kernel_rfl) ?_
 intro b7 w2 z2 p2
 have f9 : Els (kInt .u64) S0 w2 ([.u 0, .u 0, .u 0, .u 0] : List Value) [0, 0, 0, 0] := (Els.cons (K := (kInt .u64)) (vs := [.u 0]) (x := 0) rfl (Els.cons (K := (kInt .u64)) (vs := [.u 0]) (x := 0) rfl (Els.cons (K := (kInt .u64)) (vs := [.u 0]) (x := 0) rfl (Els.cons (K := (kInt .u64)) (vs := [.u 0]) (x := 0) rfl Els.nil))))
 refine Op_.stA 25 (.tmp 5) (.tmp 10) 0 0 b7 4 u8o p2 rfl rfl Goes.s (by kernel_rfl) (by kernel_rfl) (by kernel_rfl) la0 (Els.one (fa0.ext z2)) ?_
 intro w3 z3 p3
 refine Goes.rn 1 [] [.beginRound, .code (Qb3)] ?_
 refine Goes.beginR 1 rfl p3 rfl ?_
 intro w4 z4 p4
 refine Goes.rn 2 [] Jee ?_
 refine Op_.ldN 25 (.tmp 4) 11 25 ⟨u8g, 0, none⟩ u8n Goes.v (by kernel_rfl) (by kernel_rfl) (by rw [u8t]; kernel_rfl) (At_all (p4.mem 4 rfl)) ?_
 refine Op_.ldN 25 (.tmp 5) 12 25 ⟨b7, 0, none⟩ u8o Goes.v (by kernel_rfl) (by kernel_rfl) (by rw [la0]; kernel_rfl) (At_all (p4.mem 0 rfl)) ?_
 have l10 := Els.len1 (u8s.ext ((z2.trans z3).trans z4)) u8t rfl
 obtain rfl := els_lit4 (u8s.ext ((z2.trans z3).trans z4)) u8t
 have l11 := Els.len1 (fa0.ext ((z2.trans z3).trans z4)) la0 rfl
 obtain rfl := els_lit4 (fa0.ext ((z2.trans z3).trans z4)) la0
 have f13 : Els (kArr 4 (kInt .u64)) S0 w4 ((U4 kq4 (U4 a0 [])) : List Value) [kq4, a0] := by exact (Els.cons (K := (kArr 4 (kInt .u64))) (vs := (U4 kq4 [])) (x := kq4) ⟨l10, els_mk4 l10⟩ (Els.cons (K := (kArr 4 (kInt .u64))) (vs := (U4 a0 [])) (x := a0) ⟨l11, els_mk4 l11⟩ Els.nil))
 refine Op_.made (.buildSlice 151 2 #[(0, (.tmp 11)), (1, (.tmp 12))]) 13 151 (fun b => .slice (Gp (some b)) 2 2) 25 ((U4 kq4 (U4 a0 [])) : List Value) p4 Goes.v (by kernel_rfl) ?_
 intro b12 w5 z5 p5
 have p5 : Hp nz wz S0 w5 (((some b12), .row 25 ((U4 kq4 (U4 a0 [])) : List Value) (2 * (kArr 4 (kInt .u64)).size) 0) :: (some b7, .row 25 ((U4 a0 []) : List Value) 4 0) :: (some lk, .obj (lpst 91 (lfr 20 [(2, (pt u8b 0)), (3, .bool kq3), (4, (pt u8g 0)), (9, .func (.func 111) #[] #[(pt u8h 0)])] jkk) #[10] (rfAssign (Qb1)) (rfBody (Qb1)) rk .busy none)) :: (some u8b, .row 28 (.i u8k.Kind :: U4 u8k.Set [.slice (Gp u8c) u8k.L.length u8e, .i u8k.Min, .i u8k.Max]) 8 0) :: (u8c, .row 28 u8f (u8e * kT27.size) 0) :: (some u8g, .row 25 ((U4 kq4 []) : List Value) 4 0) :: (some u8h, .row 66 [(pt u8i 0)] 1 0) :: (some u8i, .row 69 [.string u8l.s, .i u8l.at_, .i u8l.deep, u8j] 4 0) :: Lr) := p5
 obtain ⟨S6, z6, p6, f15⟩ := p5.freezeRd 0 rfl (f13.ext z5) (by decide)
 refine bind_some' h fun y16 e17 h => ?_
 refine Goes.cal (kc 102 [13] #[151]) 14 25 102 _ (W.z1c [kq4, a0] y16 e17 (Gp (some b12)) 2 2 p6 f15 rfl) ?_
 rintro _ w7 ⟨S7, u58, rfl, z7, p7, u59, u5a⟩
 have p7 := (p7.dp 0).dp 0
 refine Op_.stA 25 (.tmp 4) (.tmp 14) 0 3 u8g 4 u58 p7 rfl u8t Goes.s (by kernel_rfl) (by kernel_rfl) (by kernel_rfl) u5a (Els.one u59) ?_
 intro w8 z8 p8
 refine Goes.rn 2 [] [] ?_
 obtain rfl := Option.some.inj h
 refine Goes.endR 0 p8 rfl ?_
 intro w9 z9 p9
 exact ⟨S7, u58, rfl, (((((((((Ext.refl S0 w0).trans z2).trans z3).trans z4).trans z5).trans z6).trans z7).trans z8).trans z9), p9, (u59.ext (z8.trans z9)), u5a⟩

def Qb4 := sub [1, 0, 0] B111
def Jef : List Item := .inLoop Qb4 :: J34
def Jeg : List Item := .code Qb4 :: Jef
def Qb5 := sub [1, 0, 0, 1] B111
def Jeh : List Item := .code Qb5 :: Jef
def Qb6 := sub [1, 0, 0, 0, 1] B111
def Jei : List Item := .code Qb6 :: Jeh
def Qb7 := sub [1, 0, 0, 0, 0] B111
def Jej : List Item := .inRegion (opsOf Qb7) [0, 1, 2, 3, 4, 5, 6, 7, 8, 9, 10, 11, 12] :: Jei
def Jek : List Item := .inRegion (opsOf Qb7) [3, 4, 5, 6, 7, 8, 9, 10, 11, 12] :: Jei
def Jel : List Item := .inRegion (opsOf Qb7) [8, 9, 10, 11, 12] :: Jei
def Qb8 := sub [1, 0, 0, 1, 1] B111
def Jem : List Item := .code Qb8 :: Jef
def Jen : List Item := .inBlock 1 :: Jem
def Qb9 := sub [1, 0, 0, 1, 0, 0, 1] B111
def Jeo : List Item := .code Qb9 :: Jen
def Qba := sub [1, 0, 0, 1, 0, 0, 0] B111
def Jep : List Item := .inRegion (opsOf Qba) [1, 2, 3, 4] :: Jeo

def Post.z1u (lx0 : Nat) (rx0 : Nat) (u1r : Nat → Value) (u8v : Nat) (u8w : Option Nat) (u8x : Nat) (u8y : Nat) (u8z : List Value) (u90 : Nat) (u91 : Nat) (u92 : Nat) (u93 : T27) (u94 : Bool) (r : (List Int) × T68) (v : Value) (w' : World) : Prop :=
 ∃ S' u8m u95, v = .tuple #[] ∧ Ext S0 w0 S' w' ∧ Hp nz wz S' w' ((some lx0, .obj (lpst 91 (lfr 20 [(2, (pt u8v 0)), (3, .bool u94), (4, (pt u90 0)), (9, .func (.func 111) #[] #[(pt u91 0)])] u1r) #[10] (rfAssign (Qb1)) (rfBody (Qb1)) rx0 .ready none)) :: (some u8v, .row 28 (.i u93.Kind :: U4 u93.Set [.slice (Gp u8w) u8x u8y, .i u93.Min, .i u93.Max]) 8 0) :: (u8w, .row 28 u8z (u8y * kT27.size) 0) :: (some u90, .row 25 u8m 4 0) :: (some u91, .row 66 [(pt u92 0)] 1 0) :: (some u92, .row 69 [.string r.2.s, .i r.2.at_, .i r.2.deep, u95] 4 0) :: Lr) ∧ Els (kInt .u64) S' w' u8m r.1 ∧ u8m.length = 4 ∧ PtO kT72 S' w' u95 r.2.bad

def L.z1v (lx0 : Nat) (rx0 : Nat) (u1r : Nat → Value) (u8v : Nat) (u8w : Option Nat) (u8x : Nat) (u8y : Nat) (u8z : List Value) (u90 : Nat) (u91 : Nat) (u92 : Nat) : Bool × (List Int) × T68 × T27 × Bool → ((List Int) × T68) → Prop := fun ⟨x3, e2, e4v, u93, u94⟩ r => ∀ S1 w1, Ext S0 w0 S1 w1 → ∀ u8m u95 (_ : Hp nz wz S1 w1 ((some lx0, .obj (lpst 91 (lfr 20 [(2, (pt u8v 0)), (3, .bool u94), (4, (pt u90 0)), (9, .func (.func 111) #[] #[(pt u91 0)])] u1r) #[10] (rfAssign (Qb1)) (rfBody (Qb1)) rx0 .ready none)) :: (some u8v, .row 28 (.i u93.Kind :: U4 u93.Set [.slice (Gp u8w) u8x u8y, .i u93.Min, .i u93.Max]) 8 0) :: (u8w, .row 28 u8z (u8y * kT27.size) 0) :: (some u90, .row 25 u8m 4 0) :: (some u91, .row 66 [(pt u92 0)] 1 0) :: (some u92, .row 69 [.string e4v.s, .i e4v.at_, .i e4v.deep, u95] 4 0) :: Lr)) (_ : u93.Set.length = 4) (_ : Els kT27 S1 w1 u8z u93.L) (_ : u93.L.length = u8x) (_ : Els (kInt .u64) S1 w1 u8m e2) (_ : u8m.length = 4) (_ : PtO kT72 S1 w1 u95 e4v.bad) (junk : Nat → Value),
 Goes Tryd.prog (base 111) Jeg ⟨lfr 22 [(0, yieldV lx0), (1, (pt u91 0)), (3, .bool x3)] junk, []⟩ w1 (Done Tryd.prog 111 (Rets (Post.z1u nz wz S0 w0 Lr lx0 rx0 u1r u8v u8w u8x u8y u8z u90 u91 u92 u93 u94 r)))

def L.z1w (lx0 : Nat) (rx0 : Nat) (u1r : Nat → Value) (u8v : Nat) (u8w : Option Nat) (u8x : Nat) (u8y : Nat) (u8z : List Value) (u90 : Nat) (u91 : Nat) (u92 : Nat) : Bool × (List Int) × T68 × T27 × Bool → ((List Int) × T68) → Prop := fun ⟨x16, e2, e4v, u93, u94⟩ r => ∀ S1 w1, Ext S0 w0 S1 w1 → ∀ u8m u95 (_ : Hp nz wz S1 w1 ((some lx0, .obj (lpst 91 (lfr 20 [(2, (pt u8v 0)), (3, .bool u94), (4, (pt u90 0)), (9, .func (.func 111) #[] #[(pt u91 0)])] u1r) #[10] (rfAssign (Qb1)) (rfBody (Qb1)) rx0 .ready none)) :: (some u8v, .row 28 (.i u93.Kind :: U4 u93.Set [.slice (Gp u8w) u8x u8y, .i u93.Min, .i u93.Max]) 8 0) :: (u8w, .row 28 u8z (u8y * kT27.size) 0) :: (some u90, .row 25 u8m 4 0) :: (some u91, .row 66 [(pt u92 0)] 1 0) :: (some u92, .row 69 [.string e4v.s, .i e4v.at_, .i e4v.deep, u95] 4 0) :: Lr)) (_ : u93.Set.length = 4) (_ : Els kT27 S1 w1 u8z u93.L) (_ : u93.L.length = u8x) (_ : Els (kInt .u64) S1 w1 u8m e2) (_ : u8m.length = 4) (_ : PtO kT72 S1 w1 u95 e4v.bad) (junk : Nat → Value),
 Goes Tryd.prog (base 111) Jei ⟨lfr 22 [(0, yieldV lx0), (1, (pt u91 0)), (16, .bool x16)] junk, []⟩ w1 (Done Tryd.prog 111 (Rets (Post.z1u nz wz S0 w0 Lr lx0 rx0 u1r u8v u8w u8x u8y u8z u90 u91 u92 u93 u94 r)))

theorem W.z1x {nz wz S0 w0 Lr} [Gw nz wz] (lx0 : Nat) (rx0 : Nat) (u1r : Nat → Value) (u8v : Nat) (u8w : Option Nat) (u8x : Nat) (u8y : Nat) (u8z : List Value) (u90 : Nat) (u91 : Nat) (u92 : Nat) : (∀ a r, M.syntax_parser_items_1_l0 a = some r → (L.z1v nz wz S0 w0 Lr lx0 rx0 u1r u8v u8w u8x u8y u8z u90 u91 u92) a r) ∧ (∀ a r, M.syntax_parser_items_1_l1 a = some r → (L.z1w nz wz S0 w0 Lr lx0 rx0 u1r u8v u8w u8x u8y u8z u90 u91 u92) a r) := by
 refine M.syntax_parser_items_1_l0.mutual_partial_correctness (L.z1v nz wz S0 w0 Lr lx0 rx0 u1r u8v u8w u8x u8y u8z u90 u91 u92) (L.z1w nz wz S0 w0 Lr lx0 rx0 u1r u8v u8w u8x u8y u8z u90 u91 u92) ?_ ?_
 ·
  intro u96 u97 ⟨x3, e2, e4v, u93, u94⟩ r h S1 w1 hx u8m u95 p1 u98 fs1 ls1 fe2 le2 u99 junk
  try dsimp only at h
  subst ls1
  refine Goes.rn 3 [] Jej ?_
  refine Goes.ld 66 (.tmp 1) 4 66 ⟨u91, 0, none⟩ ((pt u92 0)) (p1.c 4 0) ?_
  refine Goes.rn 2 [(5, (pt u92 0)), (6, (pt u92 3))] Jek ?_
  refine Goes.ld 67 (.tmp 6) 7 67 ⟨u92, 3, none⟩ (u95) (p1.c 5 3) ?_
  refine let_some h fun v17 h8 h => ?_
  rcases v17 with _ | y9
  ·
   try dsimp only at h
   obtain rfl := PtO.nil u99 h8
   refine Goes.rn 4 [(8, .bool true), (9, .bool true), (10, .bool x3), (11, .bool x3)] Jel ?_
   refine ite_some h (fun h14 h => ?_) (fun h14 h => ?_)
   ·
    rw [h14]
    refine Goes.rn 6 [(12, undef), (13, undef), (14, undef), (15, .bool true), (16, .bool true)] Jei ?_
    exact Goes.jp 22 [(0, yieldV lx0), (1, (pt u91 0)), (16, .bool true)] (u97 _ _ h _ _ hx u8m (.pointer none) p1 u98 fs1 rfl fe2 le2 rfl)
   ·
    have u9a : x3 = false := by simpa using h14
    rw [u9a]
    refine Goes.ld 66 (.tmp 1) 12 66 ⟨u91, 0, none⟩ ((pt u92 0)) (p1.c 4 0) ?_
    have p1 := p1.fr 5
    refine bind_some' h fun y15 e16 h => ?_
    refine Goes.cal (.call { callee := .value (.func 48), args := #[(.tmp 12), (.const (.int .u8 93))], argTypes := #[66, 5] }) 13 4 48 _ (W.z14 (⟨e4v.s, e4v.at_, e4v.deep, none⟩ : T68) 93 y15 e16 u92 (.pointer none) p1 rfl) ?_
    rintro _ w2 ⟨S2, u4g, rfl, z2, p2, u4h⟩
    refine Goes.rn 4 [(14, .bool (!y15.1)), (15, .bool (!y15.1)), (16, .bool (!y15.1))] Jei ?_
    have p2 := (((((p2.fr 0).fr 5).fr 5).fr 5).fr 5).fr 5
    exact Goes.jp 22 [(0, yieldV lx0), (1, (pt u91 0)), (16, .bool (!y15.1))] (u97 _ _ h _ _ (hx.trans z2) u8m u4g p2 u98 (fs1.ext z2) rfl (fe2.ext z2) le2 u4h)
  ·
   try dsimp only at h
   obtain ⟨a11, _, rfl, -, f12, q13⟩ := PtO.got u99 h8
   obtain rfl := q13
   refine Goes.rn 10 [(8, .bool false), (9, .bool false), (10, undef), (11, undef), (12, undef), (13, undef), (14, undef), (15, undef), (16, .bool false)] Jei ?_
   exact Goes.jp 22 [(0, yieldV lx0), (1, (pt u91 0)), (16, .bool false)] (u97 _ _ h _ _ hx u8m (.pointer (some a11)) p1 u98 fs1 rfl fe2 le2 ⟨_, _, rfl, List.cons_ne_nil _ _, f12, rfl⟩)
 ·
  intro u9b u9c ⟨x16, e2, e4v, u93, u94⟩ r h S1 w1 hx u8m u95 p1 u98 fs1 ls1 fe2 le2 u99 junk
  try dsimp only at h
  subst ls1
  refine ite_some h (fun h18 h => ?_) (fun h18 h => ?_)
  ·
   rw [h18]
   refine Goes.rn 7 [(17, yieldV lx0)] Jep ?_
   refine Goes.ld 66 (.tmp 1) 18 66 ⟨u91, 0, none⟩ ((pt u92 0)) (p1.c 4 0) ?_
   have p1 := p1.fr 5
   refine bind_some' h fun y19 e20 h => ?_
   refine Goes.cal (kc 112 [18] #[66]) 19 25 112 _ (W.z1r e4v y19 e20 u92 u95 p1 u99) ?_
   rintro _ w3 ⟨S3, u6h, u6t, rfl, z3, p3, u6i, u6j, u6u⟩
   have p3 := (((((p3.fr 0).fr 5).fr 5).fr 5).fr 5).fr 5
   refine bind_some' h fun y21 e22 h => ?_
   refine Goes.yieldAt (.call { callee := .value (.tmp 17), args := #[(.tmp 19)], argTypes := #[25] }) 20 4 0 lx0 #[.agg u6h.toArray] p3 rfl (by kernel_rfl) rfl (fun _ => by kernel_rfl) rfl (W.z1t u93 u94 e2 y19.2 y19.1 y21 e22 lx0 rx0 u1r u8v u8w u93.L.length u8y u8z u90 u8m u91 u92 u6t u6h p3 u98 (fs1.ext z3) rfl (fe2.ext z3) le2 u6u u6i u6j) ?_
   rintro _ w4 ⟨S4, u9d, rfl, z4, p4, u9e, u9f⟩
   refine Goes.rn 9 [(21, .bool (!true)), (3, .bool false)] Jeg ?_
   exact Goes.jp 22 [(0, yieldV lx0), (1, (pt u91 0)), (3, .bool false)] (u9c _ _ h _ _ ((hx.trans z3).trans z4) u9d u6t p4 u98 (fs1.ext (z3.trans z4)) rfl u9e u9f (u6u.ext z4))
  ·
   have u9g : x16 = false := by simpa using h18
   rw [u9g]
   refine Goes.rn 2 [] [] ?_
   obtain rfl := Option.some.inj h
   exact Goes.end_ (fn := Tryd.f111) (by kernel_rfl) (v := .tuple #[]) (by kernel_rfl) ⟨S1, u8m, u95, rfl, hx, p1, fe2, le2, u99⟩

theorem W.z1v {nz wz S0 w0 Lr} [Gw nz wz] (lx0 : Nat) (rx0 : Nat) (u1r : Nat → Value) (u8v : Nat) (u8w : Option Nat) (u8x : Nat) (u8y : Nat) (u8z : List Value) (u90 : Nat) (u91 : Nat) (u92 : Nat) : ∀ a r, M.syntax_parser_items_1_l0 a = some r → (L.z1v nz wz S0 w0 Lr lx0 rx0 u1r u8v u8w u8x u8y u8z u90 u91 u92) a r := (W.z1x lx0 rx0 u1r u8v u8w u8x u8y u8z u90 u91 u92).1

theorem W.z1w {nz wz S0 w0 Lr} [Gw nz wz] (lx0 : Nat) (rx0 : Nat) (u1r : Nat → Value) (u8v : Nat) (u8w : Option Nat) (u8x : Nat) (u8y : Nat) (u8z : List Value) (u90 : Nat) (u91 : Nat) (u92 : Nat) : ∀ a r, M.syntax_parser_items_1_l1 a = some r → (L.z1w nz wz S0 w0 Lr lx0 rx0 u1r u8v u8w u8x u8y u8z u90 u91 u92) a r := (W.z1x lx0 rx0 u1r u8v u8w u8x u8y u8z u90 u91 u92).2

theorem W.z1u (u93 : T27) (u94 : Bool) (u9h : List Int) (u9i : T68) (r : (List Int) × T68) (h : M.syntax_parser_items_1 u93 u94 u9h u9i = some r) {nz wz S0 w0 Lr} [Gw nz wz] (lx0 rx0 u1r u8v u8w u8x u8y u8z u90 u91 u92 u9j) (p0 : Hp nz wz S0 w0 ((some lx0, .obj (lpst 91 (lfr 20 [(2, (pt u8v 0)), (3, .bool u94), (4, (pt u90 0)), (9, .func (.func 111) #[] #[(pt u91 0)])] u1r) #[10] (rfAssign (Qb1)) (rfBody (Qb1)) rx0 .ready none)) :: (some u8v, .row 28 (.i u93.Kind :: U4 u93.Set [.slice (Gp u8w) u8x u8y, .i u93.Min, .i u93.Max]) 8 0) :: (u8w, .row 28 u8z (u8y * kT27.size) 0) :: (some u90, .row 25 (U4 u9h []) 4 0) :: (some u91, .row 66 [(pt u92 0)] 1 0) :: (some u92, .row 69 [.string u9i.s, .i u9i.at_, .i u9i.deep, u9j] 4 0) :: Lr)) (u98 : u93.Set.length = 4) (u9k : Els kT27 S0 w0 u8z u93.L) (u9l : u93.L.length = u8x) (u9m : u9h.length = 4) (u9n : PtO kT72 S0 w0 u9j u9i.bad) :
  Calls Tryd.prog 111 #[yieldV lx0, (pt u91 0)] w0 (Rets (Post.z1u nz wz S0 w0 Lr lx0 rx0 u1r u8v u8w u8x u8y u8z u90 u91 u92 u93 u94 r)) := by
 subst u9l
 refine calls_of_goes (fn := Tryd.f111) (c := B111) (by kernel_rfl) (by kernel_rfl) 20 (by kernel_rfl) ?_
 refine Goes.jp 22 [(0, yieldV lx0), (1, (pt u91 0))] (fun junk => ?_)
 delta M.syntax_parser_items_1 at h
 refine Goes.rn 6 [(3, .bool true)] Jeg ?_
 have f7 : Els (kInt .u64) S0 w0 ((U4 u9h []) : List Value) u9h := (els_mk4 (k := .u64) u9m)
 exact Goes.jp 22 [(0, yieldV lx0), (1, (pt u91 0)), (3, .bool true)] (W.z1v lx0 rx0 u1r u8v u8w u93.L.length u8y u8z u90 u91 u92 _ _ h _ _ (Ext.refl S0 w0) ((U4 u9h []) : List Value) u9j p0 u98 u9k rfl f7 rfl u9n)

def Qbb := sub [1] B91
def Jeq : List Item := [.code Qbb]
def Qbc := sub [0] B91
def Jer : List Item := .inRegion (opsOf Qbc) [0] :: Jeq
def Qbd := sub [1, 1] B91
def Jes : List Item := [.code Qbd]
def Qbe := sub [1, 0] B91
def Jet : List Item := .inRegion (opsOf Qbe) [1, 2] :: Jes
def Qbf := sub [1, 1, 1] B91
def Jeu : List Item := [.code Qbf]
def Qbg := sub [1, 1, 0] B91
def Jev : List Item := .inRegion (opsOf Qbg) [0] :: Jeu
def Qbh := sub [1, 1, 1, 1] B91
def Jew : List Item := [.code Qbh]
def Qbi := sub [1, 1, 1, 0, 1] B91
def Jex : List Item := .code Qbi :: Jew
def Qbj := sub [1, 1, 1, 0, 0] B91
def Jey : List Item := .inRegion (opsOf Qbj) [1] :: Jex
def Jez : List Item := .inBlock 0 :: Jew
def Jf0 : List Item := .code Qb1 :: Jez
def Qbk := sub [1, 1, 1, 1, 1] B91
def Jf1 : List Item := [.code Qbk]
def Qbl := sub [1, 1, 1, 1, 0, 1] B91
def Jf2 : List Item := .code Qbl :: Jf1
def Qbm := sub [1, 1, 1, 1, 0, 1, 0] B91
def Jf3 : List Item := .inRegion (opsOf Qbm) [0, 1, 2] :: Jf1
def Qbn := sub [1, 1, 1, 1, 1, 1] B91
def Jf4 : List Item := [.code Qbn]
def Qbo := sub [1, 1, 1, 1, 1, 0] B91
def Jf5 : List Item := .inRegion (opsOf Qbo) [0, 1, 2] :: Jf4
def Jf6 : List Item := .inRegion (opsOf Qbo) [2] :: Jf4

def Post.z1y (gx0 : Nat) (r : T27 × T68) (v : Value) (w' : World) : Prop :=
 ∃ S' u4d u4e u4f u49, v = (ag (.i r.1.Kind :: U4 r.1.Set [.slice u4d u4e u4f, .i r.1.Min, .i r.1.Max])) ∧ Ext S0 w0 S' w' ∧ Hp nz wz S' w' ((some gx0, .row 69 [.string r.2.s, .i r.2.at_, .i r.2.deep, u49] 4 0) :: Lr) ∧ r.1.Set.length = 4 ∧ Rd kT27 S' w' u4d u4f r.1.L ∧ r.1.L.length = u4e ∧ PtO kT72 S' w' u49 r.2.bad

theorem W.z1y (x0v : T68) (r : T27 × T68) (h : M.syntax_parser_class x0v = some r) {nz wz S0 w0 Lr} [Gw nz wz] (gx0 u4b) (p0 : Hp nz wz S0 w0 ((some gx0, .row 69 [.string x0v.s, .i x0v.at_, .i x0v.deep, u4b] 4 0) :: Lr)) (u4c : PtO kT72 S0 w0 u4b x0v.bad) :
  Calls Tryd.prog 91 #[(pt gx0 0)] w0 (Rets (Post.z1y nz wz S0 w0 Lr gx0 r)) := by
 refine calls_of_goes (fn := Tryd.f91) (c := B91) (by kernel_rfl) (by kernel_rfl) 19 (by kernel_rfl) ?_
 refine Goes.jp 20 [(0, (pt gx0 0))] (fun junk => ?_)
 delta M.syntax_parser_class at h
 refine Goes.rn 2 [] Jer ?_
 refine Op_.alloc 28 2 0 (.agg #[.i 0, .u 0, .u 0, .u 0, .u 0, .slice none 0 0, .i 0, .i 0]) [.i 0, .u 0, .u 0, .u 0, .u 0, .slice none 0 0, .i 0, .i 0] p0 Goes.v (by kernel_rfl) (by kernel_rfl) ?_
 intro b2 w2 z2 p2
 refine Goes.rn 4 [(6, (pt gx0 0))] Jet ?_
 have p2 := p2.fr 1
 refine bind_some' h fun y4 e5 h => ?_
 refine Goes.cal (.call { callee := .value (.func 48), args := #[(.tmp 6), (.const (.int .u8 94))], argTypes := #[66, 5] }) 7 4 48 _ (W.z14 x0v 94 y4 e5 gx0 u4b p2 (u4c.ext z2)) ?_
 rintro _ w3 ⟨S3, u6t, rfl, z3, p3, u6u⟩
 refine Goes.rn 4 [(3, .bool y4.1)] Jev ?_
 refine Op_.alloc 25 4 0 (.agg #[.u 0, .u 0, .u 0, .u 0]) [.u 0, .u 0, .u 0, .u 0] p3 Goes.v (by kernel_rfl) (by kernel_rfl) ?_
 intro b6 w4 z4 p4
 refine Goes.rn 5 [(8, (pt gx0 0))] Jey ?_
 have p4 := p4.fr 1
 refine bind_some' h fun y8 e9 h => ?_
 refine Goes.cal (kc 101 [8] #[66]) 9 139 101 _ (W.z19 y4.2 y8 e9 gx0 u6t p4 (u6u.ext z4)) ?_
 rintro _ w5 ⟨S5, u9o, rfl, z5, p5⟩
 refine Goes.rn 2 [] Jf0 ?_
 refine Goes.jp 20 [(2, (pt b2 0)), (3, .bool y4.1), (4, (pt b6 0)), (9, .func (.func 111) #[] #[(pt u9o 0)])] (fun u9p => ?_)
 refine Goes.rangeF (f := 91) (.tmp 9) #[10] 111 #[] #[(pt u9o 0)] (by kernel_rfl) (by kernel_rfl) (fun _ => by kernel_rfl) p5 ?_
 intro r12 l13 w6 z6 p6
 have p6 : Hp nz wz S5 w6 ((none, .row 28 [] (0 * kT27.size) 0) :: (some l13, .obj (lpst 91 (lfr 20 [(2, (pt b2 0)), (3, .bool y4.1), (4, (pt b6 0)), (9, .func (.func 111) #[] #[(pt u9o 0)])] u9p) #[10] (rfAssign (Qb1)) (rfBody (Qb1)) r12 .ready none)) :: (some r12, .obj (.deferred (some []))) :: (some u9o, .row 66 [(pt gx0 0)] 1 0) :: (some gx0, .row 69 [.string y4.2.s, .i y4.2.at_, .i y4.2.deep, u6t] 4 0) :: (some b6, .row 25 [.u 0, .u 0, .u 0, .u 0] 4 0) :: (some b2, .row 28 [.i 0, .u 0, .u 0, .u 0, .u 0, .slice none 0 0, .i 0, .i 0] 8 0) :: Lr) := p6.nilRow' 28
 have p6 := (((((p6.fr 4).fr 4).fr 5).fr 3).fr 6).fr 5
 refine bind_some' h fun y17 e18 h => ?_
 refine ⟨_, W.z1u (⟨0, [0, 0, 0, 0], ([] : List T27), 0, 0⟩ : T27) y4.1 [0, 0, 0, 0] y4.2 y17 e18 l13 r12 u9p b2 none 0 0 [] b6 u9o gx0 u6t p6 rfl (Els.nil (K := kT27)) rfl rfl (u6u.ext ((z4.trans z5).trans z6)), ?_⟩
 rintro _ w7 ⟨S7, u9q, u9r, rfl, z7, p7, u9s, u9t, u9u⟩
 refine Goes.endF 0 p7 rfl rfl ?_
 intro w8 z8 p8
 replace p8 : Hp nz wz S7 w8 ((some b2, .row 28 [.i 0, .u 0, .u 0, .u 0, .u 0, .slice (Gp none) 0 0, .i 0, .i 0] 8 0) :: (none, .row 28 [] (0 * kT27.size) 0) :: (some b6, .row 25 u9q 4 0) :: (some u9o, .row 66 [(pt gx0 0)] 1 0) :: (some gx0, .row 69 [.string y17.2.s, .i y17.2.at_, .i y17.2.deep, u9r] 4 0) :: (some r12, .obj (.deferred (some []))) :: Lr) := (p8.front 0 _ rfl).drop
 show Goes _ _ Jez _ _ _
 refine Goes.rn 6 [(15, .bool y4.1)] Jf2 ?_
 refine ite_some h (fun h19 h => ?_) (fun h19 h => ?_)
 ·
  rw [h19]
  refine Goes.rn 2 [] Jf3 ?_
  refine Op_.ldN 25 (.tmp 4) 16 25 ⟨b6, 0, none⟩ u9q Goes.v (by kernel_rfl) (by kernel_rfl) (by rw [u9t]; kernel_rfl) (At_all (p8.mem 2 rfl)) ?_
  refine bind_some' h fun y20 e21 h => ?_
  refine Goes.cal (kc 89 [16] #[25]) 17 25 89 _ (W.z17 y17.1 y20 e21 u9q p8 (u9s.ext z8) u9t) ?_
  rintro _ w9 ⟨S9, u9v, rfl, z9, p9, u9w, u9x⟩
  have p9 := p9.dp 3
  refine Op_.stA 25 (.tmp 4) (.tmp 17) 0 2 b6 4 u9v p9 rfl u9t Goes.s (by kernel_rfl) (by kernel_rfl) (by kernel_rfl) u9x (Els.one u9w) ?_
  intro w10 z10 p10
  refine Goes.rn 3 [] Jf5 ?_
  refine Op_.ldN 25 (.tmp 4) 18 25 ⟨b6, 0, none⟩ u9v Goes.v (by kernel_rfl) (by kernel_rfl) (by rw [u9x]; kernel_rfl) (At_all (p10.mem 2 rfl)) ?_
  have l22 := Els.len1 (u9w.ext z10) u9x rfl
  obtain rfl := els_lit4 (u9w.ext z10) u9x
  refine Goes.rn 1 [(19, (ag (.i 1 :: U4 y20 [.slice none 0 0, .i 0, .i 0])))] Jf6 ?_
  refine Op_.st 28 (.tmp 2) (.tmp 19) 0 0 b2 0 (ag (.i 1 :: U4 y20 [.slice none 0 0, .i 0, .i 0])) (.i 1 :: U4 y20 [.slice none 0 0, .i 0, .i 0]) p10 rfl Goes.s (by kernel_rfl) (by kernel_rfl) (by kernel_rfl) (by kernel_rfl) (Nat.zero_le _) (by simp only [List.length_cons, List.length_nil]; omega) (by simp [Value.oneCell']) ?_
  intro w11 z11 p11
  have p11 : Hp nz wz S9 w11 ((some b2, .row 28 (.i 1 :: U4 y20 [.slice none 0 0, .i 0, .i 0]) 8 0) :: (none, .row 28 [] (0 * kT27.size) 0) :: (some b6, .row 25 ((U4 y20 []) : List Value) 4 0) :: (some gx0, .row 69 [.string y17.2.s, .i y17.2.at_, .i y17.2.deep, u9r] 4 0) :: (some r12, .obj (.deferred (some []))) :: Lr) := p11
  refine Goes.rn 1 [] Jf4 ?_
  obtain rfl := Option.some.inj h
  have p11 := (p11.dp 1).dp 1
  have p11 := ((p11.fr 1).fr 1).fr 2
  refine Goes.retL ?_
  refine lvs_mark 0 rfl rfl p11 rfl ?_
  intro w12 z12 p12
  replace p12 : Hp nz wz S9 w12 ((some b2, .row 28 (.i 1 :: U4 y20 [.slice none 0 0, .i 0, .i 0]) 8 0) :: (some gx0, .row 69 [.string y17.2.s, .i y17.2.at_, .i y17.2.deep, u9r] 4 0) :: Lr) := p12.drop
  exact lvs_done (fn := Tryd.f91) rfl rfl rfl rfl (by kernel_rfl) (v := (ag (.i 1 :: U4 y20 [.slice none 0 0, .i 0, .i 0]))) (results_n1 (fn := Tryd.f91) (a := .cell 2 28) (by kernel_rfl) (resV_cell ⟨b2, 0, none⟩ (by kernel_rfl) (run_loadN (.i 1 :: U4 y20 [.slice none 0 0, .i 0, .i 0]) (by kernel_rfl) (by kernel_rfl) (p12.pa 0 0)))) ⟨S9, none, 0, 0, u9r, rfl, ((((((((((((Ext.refl S0 w0).trans z2).trans z3).trans z4).trans z5).trans z6).trans z7).trans z8).trans z9).trans z10).trans z11).trans z12), p12.drop, l22, Rd.none_, rfl, (u9u.ext ((((z8.trans z9).trans z10).trans z11).trans z12))⟩
 ·
  have u9y : y4.1 = false := by simpa using h19
  rw [u9y]
  refine Goes.rn 4 [] Jf5 ?_
  refine Op_.ldN 25 (.tmp 4) 18 25 ⟨b6, 0, none⟩ u9q Goes.v (by kernel_rfl) (by kernel_rfl) (by rw [u9t]; kernel_rfl) (At_all (p8.mem 2 rfl)) ?_
  have l23 := Els.len1 (u9s.ext z8) u9t rfl
  obtain rfl := els_lit4 (u9s.ext z8) u9t
  refine Goes.rn 1 [(19, (ag (.i 1 :: U4 y17.1 [.slice none 0 0, .i 0, .i 0])))] Jf6 ?_
  refine Op_.st 28 (.tmp 2) (.tmp 19) 0 0 b2 0 (ag (.i 1 :: U4 y17.1 [.slice none 0 0, .i 0, .i 0])) (.i 1 :: U4 y17.1 [.slice none 0 0, .i 0, .i 0]) p8 rfl Goes.s (by kernel_rfl) (by kernel_rfl) (by kernel_rfl) (by kernel_rfl) (Nat.zero_le _) (by simp only [List.length_cons, List.length_nil]; omega) (by simp [Value.oneCell']) ?_
  intro w13 z13 p13
  have p13 : Hp nz wz S7 w13 ((some b2, .row 28 (.i 1 :: U4 y17.1 [.slice none 0 0, .i 0, .i 0]) 8 0) :: (none, .row 28 [] (0 * kT27.size) 0) :: (some b6, .row 25 ((U4 y17.1 []) : List Value) 4 0) :: (some u9o, .row 66 [(pt gx0 0)] 1 0) :: (some gx0, .row 69 [.string y17.2.s, .i y17.2.at_, .i y17.2.deep, u9r] 4 0) :: (some r12, .obj (.deferred (some []))) :: Lr) := p13
  refine Goes.rn 1 [] Jf4 ?_
  obtain rfl := Option.some.inj h
  have p13 := ((p13.dp 1).dp 1).dp 1
  have p13 := ((p13.fr 1).fr 1).fr 2
  refine Goes.retL ?_
  refine lvs_mark 0 rfl rfl p13 rfl ?_
  intro w14 z14 p14
  replace p14 : Hp nz wz S7 w14 ((some b2, .row 28 (.i 1 :: U4 y17.1 [.slice none 0 0, .i 0, .i 0]) 8 0) :: (some gx0, .row 69 [.string y17.2.s, .i y17.2.at_, .i y17.2.deep, u9r] 4 0) :: Lr) := p14.drop
  exact lvs_done (fn := Tryd.f91) rfl rfl rfl rfl (by kernel_rfl) (v := (ag (.i 1 :: U4 y17.1 [.slice none 0 0, .i 0, .i 0]))) (results_n1 (fn := Tryd.f91) (a := .cell 2 28) (by kernel_rfl) (resV_cell ⟨b2, 0, none⟩ (by kernel_rfl) (run_loadN (.i 1 :: U4 y17.1 [.slice none 0 0, .i 0, .i 0]) (by kernel_rfl) (by kernel_rfl) (p14.pa 0 0)))) ⟨S7, none, 0, 0, u9r, rfl, ((((((((((Ext.refl S0 w0).trans z2).trans z3).trans z4).trans z5).trans z6).trans z7).trans z8).trans z13).trans z14), p14.drop, l23, Rd.none_, rfl, (u9u.ext ((z8.trans z13).trans z14))⟩

def Qbp := sub [1] B95
def Jf7 : List Item := [.code Qbp]
def Qbq := sub [0] B95
def Jf8 : List Item := .inRegion (opsOf Qbq) [2, 3] :: Jf7
def Qbr := sub [1, 0] B95
def Jf9 : List Item := [.inRegion (opsOf Qbr) [4, 5]]

def Post.z1z (gx0 : Nat) (r : T68) (v : Value) (w' : World) : Prop :=
 ∃ S' u49, v = .tuple #[] ∧ Ext S0 w0 S' w' ∧ Hp nz wz S' w' ((some gx0, .row 69 [.string r.s, .i r.at_, .i r.deep, u49] 4 0) :: Lr) ∧ PtO kT72 S' w' u49 r.bad

theorem W.z1z (x0v : T68) (x1 : Int) (r : T68) (h : M.syntax_parser_need x0v x1 = some r) {nz wz S0 w0 Lr} [Gw nz wz] (gx0 u4b) (p0 : Hp nz wz S0 w0 ((some gx0, .row 69 [.string x0v.s, .i x0v.at_, .i x0v.deep, u4b] 4 0) :: Lr)) (u4c : PtO kT72 S0 w0 u4b x0v.bad) :
  Calls Tryd.prog 95 #[(pt gx0 0), .int .u8 x1] w0 (Rets (Post.z1z nz wz S0 w0 Lr gx0 r)) := by
 refine calls_of_goes (fn := Tryd.f95) (c := B95) (by kernel_rfl) (by kernel_rfl) 12 (by kernel_rfl) ?_
 refine Goes.jp 14 [(0, (pt gx0 0)), (1, .int .u8 x1)] (fun junk => ?_)
 delta M.syntax_parser_need at h
 refine Goes.rn 4 [(4, (pt gx0 0)), (5, .int .u8 x1)] Jf8 ?_
 refine bind_some' h fun y2 e3 h => ?_
 refine Goes.cal (kc 48 [4, 5] #[66, 5]) 6 4 48 _ (W.z14 x0v x1 y2 e3 gx0 u4b p0 u4c) ?_
 rintro _ w2 ⟨S2, u4g, rfl, z2, p2, u4h⟩
 refine Goes.rn 2 [(7, .bool (!y2.1))] Jf7 ?_
 refine ite_some h (fun h4 h => ?_) (fun h4 h => ?_)
 ·
  rw [h4]
  refine Goes.rn 2 [] [] ?_
  obtain rfl := Option.some.inj h
  exact Goes.end_ (fn := Tryd.f95) (by kernel_rfl) (v := .tuple #[]) (by kernel_rfl) ⟨S2, u4g, rfl, ((Ext.refl S0 w0).trans z2), p2, u4h⟩
 ·
  have h4' : y2.1 = false := by simpa using h4
  rw [h4']
  refine Goes.rn 6 [(8, (pt gx0 0)), (9, (pt gx0 0)), (10, (pt gx0 0)), (11, (pt gx0 1))] Jf9 ?_
  refine Goes.ld 3 (.tmp 11) 12 3 ⟨gx0, 1, none⟩ (.i y2.2.at_) (p2.c 0 1) ?_
  refine bind_some' h fun y5 e6 h => ?_
  refine Goes.cal (kc 31 [8, 12] #[66, 3]) 13 28 31 _ (W.z13 y2.2 y2.2.at_ y5 e6 gx0 u4g p2 u4h) ?_
  rintro _ w3 ⟨S3, u9z, ua0, ua1, u6t, rfl, z3, p3, ua2, ua3, rfl, u6u⟩
  refine Goes.rn 1 [] [] ?_
  obtain rfl := Option.some.inj h
  exact Goes.end_ (fn := Tryd.f95) (by kernel_rfl) (v := .tuple #[]) (by kernel_rfl) ⟨S3, u6t, rfl, (((Ext.refl S0 w0).trans z2).trans z3), p3, u6u⟩

def Qbs := sub [1, 1] B106
def Jfa : List Item := [.code Qbs]
def Qbt := sub [1, 0] B106
def Jfb : List Item := .inRegion (opsOf Qbt) [0, 1, 2, 3, 4, 5, 6, 7, 8] :: Jfa
def Jfc : List Item := .inRegion (opsOf Qbt) [4, 5, 6, 7, 8] :: Jfa

def Post.z20 (gx0 : Nat) (ua4 : Nat) (r : Bool × T68) (v : Value) (w' : World) : Prop :=
 ∃ S' ua5, v = .bool r.1 ∧ Ext S0 w0 S' w' ∧ Hp nz wz S' w' ((some gx0, .row 66 [(pt ua4 0)] 1 0) :: (some ua4, .row 69 [.string r.2.s, .i r.2.at_, .i r.2.deep, ua5] 4 0) :: Lr) ∧ PtO kT72 S' w' ua5 r.2.bad

theorem W.z20 (ua6 : T68) (r : Bool × T68) (h : M.syntax_parser_number_1 ua6 = some r) {nz wz S0 w0 Lr} [Gw nz wz] (gx0 ua4 ua7) (p0 : Hp nz wz S0 w0 ((some gx0, .row 66 [(pt ua4 0)] 1 0) :: (some ua4, .row 69 [.string ua6.s, .i ua6.at_, .i ua6.deep, ua7] 4 0) :: Lr)) (ua8 : PtO kT72 S0 w0 ua7 ua6.bad) :
  Calls Tryd.prog 106 #[(pt gx0 0)] w0 (Rets (Post.z20 nz wz S0 w0 Lr gx0 ua4 r)) := by
 refine calls_of_goes (fn := Tryd.f106) (c := B106) (by kernel_rfl) (by kernel_rfl) 9 (by kernel_rfl) ?_
 refine Goes.jp 10 [(0, (pt gx0 0))] (fun junk => ?_)
 delta M.syntax_parser_number_1 at h
 refine Goes.rn 6 [(1, .bool false)] Jfb ?_
 refine Goes.ld 66 (.tmp 0) 2 66 ⟨gx0, 0, none⟩ ((pt ua4 0)) (p0.c 0 0) ?_
 have p0 := p0.fr 1
 refine bind_some' h fun y3 e4 h => ?_
 refine Goes.cal (kc 65 [2] #[66]) 3 5 65 _ (W.z11 ua6 y3 e4 ua4 ua7 p0 ua8) ?_
 rintro _ w2 ⟨S2, u4g, rfl, z2, p2, u4h⟩
 refine Goes.rn 2 [(4, .bool (decide (y3.1 ≥ 48))), (5, .bool (decide (y3.1 ≥ 48)))] Jfc ?_
 refine ite_some h (fun h5 h => ?_) (fun h5 h => ?_)
 ·
  rw [decide_eq_true h5]
  refine Goes.ld 66 (.tmp 0) 6 66 ⟨gx0, 0, none⟩ ((pt ua4 0)) (p2.c 1 0) ?_
  refine bind_some' h fun y6 e7 h => ?_
  refine Goes.cal (kc 65 [6] #[66]) 7 5 65 _ (W.z11 y3.2 y6 e7 ua4 u4g p2 u4h) ?_
  rintro _ w3 ⟨S3, u6t, rfl, z3, p3, u6u⟩
  refine Goes.rn 4 [(8, .bool (decide (y6.1 ≤ 57))), (9, .bool (decide (y6.1 ≤ 57))), (1, .bool (decide (y6.1 ≤ 57)))] Jfa ?_
  obtain rfl := Option.some.inj h
  have p3 := (p3.fr 0).fr 1
  exact Goes.rt Tryd.f106 (.bool (decide (y6.1 ≤ 57))) ⟨S3, u6t, rfl, (((Ext.refl S0 w0).trans z2).trans z3), p3, u6u⟩
 ·
  rw [decide_eq_false h5]
  refine Goes.rn 6 [(6, undef), (7, undef), (8, undef), (9, .bool false), (1, .bool false)] Jfa ?_
  obtain rfl := Option.some.inj h
  have p2 := (p2.fr 0).fr 1
  exact Goes.rt Tryd.f106 (.bool false) ⟨S2, u4g, rfl, ((Ext.refl S0 w0).trans z2), p2, u4h⟩

def Qbu := sub [1, 1, 1, 1, 1, 1] B94
def Jfd : List Item := [.code Qbu]
def Qbv := sub [1, 1, 1, 1, 1, 0, 1] B94
def Jfe : List Item := .code Qbv :: Jfd
def Qbw := sub [1, 1, 1, 1, 1, 0, 1, 0, 1] B94
def Jff : List Item := .code Qbw :: Jfd
def Qbx := sub [1, 1, 1, 1, 1, 0, 1, 0, 0] B94
def Jfg : List Item := .inRegion (opsOf Qbx) [2, 3, 4, 5, 6, 7] :: Jff
def Jfh : List Item := .inRegion (opsOf Qbw) [0, 1, 2, 3, 4, 5, 6, 7] :: Jfd
def Jfi : List Item := .inRegion (opsOf Qbw) [3, 4, 5, 6, 7] :: Jfd
def Jfj : List Item := .inRegion (opsOf Qbw) [7] :: Jfd
def Qby := sub [1, 1, 1, 1, 1, 1, 1] B94
def Jfk : List Item := [.code Qby]

def Post.z21 (gx0 : Nat) (r : Int × T68) (v : Value) (w' : World) : Prop :=
 ∃ S' u49, v = .i r.1 ∧ Ext S0 w0 S' w' ∧ Hp nz wz S' w' ((some gx0, .row 69 [.string r.2.s, .i r.2.at_, .i r.2.deep, u49] 4 0) :: Lr) ∧ PtO kT72 S' w' u49 r.2.bad

def L.z22 (gx0 : Nat) : Int × Bool × T68 → (Int × T68) → Prop := fun ⟨x4, x25, e0v⟩ r => ∀ S1 w1, Ext S0 w0 S1 w1 → ∀ gx1 u49 (_ : Hp nz wz S1 w1 ((some gx1, .row 66 [(pt gx0 0)] 1 0) :: (some gx0, .row 69 [.string e0v.s, .i e0v.at_, .i e0v.deep, u49] 4 0) :: Lr)) (_ : PtO kT72 S1 w1 u49 e0v.bad) (junk : Nat → Value),
 Goes Tryd.prog (base 94) Jfe ⟨lfr 41 [(1, (pt gx1 0)), (4, .i x4), (25, .bool x25)] junk, []⟩ w1 (Done Tryd.prog 94 (Rets (Post.z21 nz wz S0 w0 Lr gx0 r)))

theorem W.z22 {nz wz S0 w0 Lr} [Gw nz wz] (gx0 : Nat) : ∀ a r, M.syntax_parser_number_l0 a = some r → L.z22 nz wz S0 w0 Lr gx0 a r := by
 intro ⟨x4, x25, e0v⟩ r h S1 w1 hx gx1 u49 p1 u4a junk
 rw [M.syntax_parser_number_l0] at h
 try dsimp only at h
 refine ite_some h (fun h13 h => ?_) (fun h13 h => ?_)
 ·
  rw [h13]
  refine Goes.rn 5 [(26, .i x4), (27, .i (wr .i64 (10 * x4)))] Jfg ?_
  refine Goes.ld 66 (.tmp 1) 28 66 ⟨gx1, 0, none⟩ ((pt gx0 0)) (p1.c 0 0) ?_
  have p1 := p1.fr 1
  refine bind_some' h fun y14 e15 h => ?_
  refine Goes.cal (kc 65 [28] #[66]) 29 5 65 _ (W.z11 e0v y14 e15 gx0 u49 p1 u4a) ?_
  rintro _ w7 ⟨S7, ua9, rfl, z7, p7, uaa⟩
  refine Goes.rn 6 [(30, .int .u8 (wr .u8 (y14.1 - 48))), (31, .i (wr .i64 (wr .u8 (y14.1 - 48)))), (32, .i (wr .i64 ((wr .i64 (10 * x4)) + (wr .i64 (wr .u8 (y14.1 - 48)))))), (4, .i (wr .i64 ((wr .i64 (10 * x4)) + (wr .i64 (wr .u8 (y14.1 - 48))))))] Jfh ?_
  refine Goes.ld 66 (.tmp 1) 33 66 ⟨gx1, 0, none⟩ ((pt gx0 0)) (p7.c 1 0) ?_
  refine Goes.rn 2 [(34, (pt gx0 0)), (35, (pt gx0 1))] Jfi ?_
  refine Goes.ld 3 (.tmp 35) 36 3 ⟨gx0, 1, none⟩ (.i y14.2.at_) (p7.c 0 1) ?_
  refine Goes.rn 3 [(37, .i (wr .i64 (y14.2.at_ + 1))), (38, (pt gx0 0)), (39, (pt gx0 1))] Jfj ?_
  refine Op_.st 3 (.tmp 39) (.tmp 37) 0 0 gx0 1 (.i (wr .i64 (y14.2.at_ + 1))) [.i (wr .i64 (y14.2.at_ + 1))] p7 rfl Goes.s (by kernel_rfl) (by kernel_rfl) (by kernel_rfl) (by kernel_rfl) (Nat.zero_le _) (by simp only [List.length_cons, List.length_nil]; omega) (by simp [Value.oneCell']) ?_
  intro w8 z8 p8
  have p8 : Hp nz wz S7 w8 ((some gx0, .row 69 [.string y14.2.s, .i (wr .i64 (y14.2.at_ + 1)), .i y14.2.deep, ua9] 4 0) :: (some gx1, .row 66 [(pt gx0 0)] 1 0) :: Lr) := p8
  refine Goes.rn 6 [(40, .i (wr .i64 ((wr .i64 (10 * x4)) + (wr .i64 (wr .u8 (y14.1 - 48)))))), (2, .i (wr .i64 ((wr .i64 (10 * x4)) + (wr .i64 (wr .u8 (y14.1 - 48))))))] Jfk ?_
  obtain rfl := Option.some.inj h
  have p8 := p8.dp 1
  exact Goes.rt Tryd.f94 (.i (wr .i64 ((wr .i64 (10 * x4)) + (wr .i64 (wr .u8 (y14.1 - 48)))))) ⟨S7, ua9, rfl, ((hx.trans z7).trans z8), p8, (uaa.ext z8)⟩
 ·
  have u2 : x25 = false := by simpa using h13
  rw [u2]
  refine Goes.rn 7 [(40, .i x4), (2, .i x4)] Jfk ?_
  obtain rfl := Option.some.inj h
  have p1 := p1.dp 0
  exact Goes.rt Tryd.f94 (.i x4) ⟨S1, u49, rfl, hx, p1, u4a⟩

def Qbz := sub [1] B94
def Jfl : List Item := [.code Qbz]
def Qc0 := sub [0] B94
def Jfm : List Item := .inRegion (opsOf Qc0) [0, 1] :: Jfl
def Qc1 := sub [1, 1, 1] B94
def Jfn : List Item := [.code Qc1]
def Qc2 := sub [1, 1, 0, 1] B94
def Jfo : List Item := .code Qc2 :: Jfn
def Qc3 := sub [1, 1, 0, 0] B94
def Jfp : List Item := .inRegion (opsOf Qc3) [1, 2] :: Jfo
def Qc4 := sub [1, 1, 1, 1] B94
def Jfq : List Item := [.code Qc4]
def Qc5 := sub [1, 1, 1, 0] B94
def Jfr : List Item := .inRegion (opsOf Qc5) [0, 1, 2, 3, 4] :: Jfq
def Qc6 := sub [1, 1, 1, 1, 1] B94
def Jfs : List Item := [.code Qc6]
def Qc7 := sub [1, 1, 1, 1, 0] B94
def Jft : List Item := .inRegion (opsOf Qc7) [0, 1, 2, 3, 4, 5, 6, 7] :: Jfs
def Jfu : List Item := .inRegion (opsOf Qc7) [3, 4, 5, 6, 7] :: Jfs
def Jfv : List Item := .inRegion (opsOf Qc7) [7] :: Jfs
def Qc8 := sub [1, 1, 1, 1, 1, 0, 0] B94
def Jfw : List Item := .inRegion (opsOf Qc8) [3, 4, 5] :: Jfe
def Jfx : List Item := .inRegion (opsOf Qc8) [4, 5] :: Jfe
def Qc9 := sub [1, 1, 0, 1, 0, 1] B94
def Jfy : List Item := .code Qc9 :: Jfn

theorem W.z21 (x0v : T68) (r : Int × T68) (h : M.syntax_parser_number x0v = some r) {nz wz S0 w0 Lr} [Gw nz wz] (gx0 u4b) (p0 : Hp nz wz S0 w0 ((some gx0, .row 69 [.string x0v.s, .i x0v.at_, .i x0v.deep, u4b] 4 0) :: Lr)) (u4c : PtO kT72 S0 w0 u4b x0v.bad) :
  Calls Tryd.prog 94 #[(pt gx0 0)] w0 (Rets (Post.z21 nz wz S0 w0 Lr gx0 r)) := by
 refine calls_of_goes (fn := Tryd.f94) (c := B94) (by kernel_rfl) (by kernel_rfl) 40 (by kernel_rfl) ?_
 refine Goes.jp 41 [(0, (pt gx0 0))] (fun junk => ?_)
 delta M.syntax_parser_number at h
 refine Goes.rn 2 [] Jfm ?_
 refine Op_.box 66 (.tmp 0) 1 0 ((pt gx0 0)) [(pt gx0 0)] p0 Goes.v (by kernel_rfl) (by kernel_rfl) ?_
 intro b2 w2 z2 p2
 refine Goes.rn 11 [(2, .i 0), (5, .func (.func 106) #[] #[(pt b2 0)]), (3, .func (.func 106) #[] #[(pt b2 0)]), (6, .func (.func 106) #[] #[(pt b2 0)])] Jfp ?_
 refine bind_some' h fun y4 e5 h => ?_
 refine Goes.cal (.call { callee := .value (.tmp 6), args := #[], argTypes := #[] }) 7 4 106 _ (W.z20 x0v y4 e5 b2 gx0 u4b p2 (u4c.ext z2)) ?_
 rintro _ w3 ⟨S3, uab, rfl, z3, p3, uac⟩
 refine Goes.rn 2 [(8, .bool (!y4.1))] Jfo ?_
 refine ite_some h (fun h6 h => ?_) (fun h6 h => ?_)
 ·
  rw [h6]
  refine Goes.rn 4 [] Jfr ?_
  refine Goes.ld 66 (.tmp 1) 9 66 ⟨b2, 0, none⟩ ((pt gx0 0)) (p3.c 0 0) ?_
  have p3 := p3.fr 1
  refine bind_some' h fun y7 e8 h => ?_
  refine Goes.cal (kc 65 [9] #[66]) 10 5 65 _ (W.z11 y4.2 y7 e8 gx0 uab p3 uac) ?_
  rintro _ w4 ⟨S4, u6d, rfl, z4, p4, u6g⟩
  refine Goes.rn 6 [(11, .int .u8 (wr .u8 (y7.1 - 48))), (12, .i (wr .i64 (wr .u8 (y7.1 - 48)))), (4, .i (wr .i64 (wr .u8 (y7.1 - 48))))] Jft ?_
  refine Goes.ld 66 (.tmp 1) 13 66 ⟨b2, 0, none⟩ ((pt gx0 0)) (p4.c 1 0) ?_
  refine Goes.rn 2 [(14, (pt gx0 0)), (15, (pt gx0 1))] Jfu ?_
  refine Goes.ld 3 (.tmp 15) 16 3 ⟨gx0, 1, none⟩ (.i y7.2.at_) (p4.c 0 1) ?_
  refine Goes.rn 3 [(17, .i (wr .i64 (y7.2.at_ + 1))), (18, (pt gx0 0)), (19, (pt gx0 1))] Jfv ?_
  refine Op_.st 3 (.tmp 19) (.tmp 17) 0 0 gx0 1 (.i (wr .i64 (y7.2.at_ + 1))) [.i (wr .i64 (y7.2.at_ + 1))] p4 rfl Goes.s (by kernel_rfl) (by kernel_rfl) (by kernel_rfl) (by kernel_rfl) (Nat.zero_le _) (by simp only [List.length_cons, List.length_nil]; omega) (by simp [Value.oneCell']) ?_
  intro w5 z5 p5
  have p5 : Hp nz wz S4 w5 ((some gx0, .row 69 [.string y7.2.s, .i (wr .i64 (y7.2.at_ + 1)), .i y7.2.deep, u6d] 4 0) :: (some b2, .row 66 [(pt gx0 0)] 1 0) :: Lr) := p5
  refine Goes.rn 7 [(20, .i (wr .i64 (wr .u8 (y7.1 - 48)))), (21, .bool (decide (wr .i64 (wr .u8 (y7.1 - 48)) > 0))), (22, .bool (decide (wr .i64 (wr .u8 (y7.1 - 48)) > 0)))] Jfw ?_
  refine ite_some h (fun h9 h => ?_) (fun h9 h => ?_)
  ·
   rw [decide_eq_true h9]
   refine Goes.rn 1 [(23, .func (.func 106) #[] #[(pt b2 0)])] Jfx ?_
   have p5 := (p5.fr 0).fr 1
   refine bind_some' h fun y10 e11 h => ?_
   refine Goes.cal (.call { callee := .value (.tmp 23), args := #[], argTypes := #[] }) 24 4 106 _ (W.z20 (⟨y7.2.s, wr .i64 (y7.2.at_ + 1), y7.2.deep, y7.2.bad⟩ : T68) y10 e11 b2 gx0 u6d p5 (u6g.ext z5)) ?_
   rintro _ w6 ⟨S6, uad, rfl, z6, p6, uae⟩
   refine Goes.rn 2 [(25, .bool y10.1)] Jfe ?_
   exact Goes.jp 41 [(1, (pt b2 0)), (4, .i (wr .i64 (wr .u8 (y7.1 - 48)))), (25, .bool y10.1)] (W.z22 gx0 _ _ h _ _ ((((((Ext.refl S0 w0).trans z2).trans z3).trans z4).trans z5).trans z6) b2 uad p6 uae)
  ·
   rw [decide_eq_false h9]
   refine Goes.rn 4 [(23, undef), (24, undef), (25, .bool false)] Jfe ?_
   have p5 := (p5.fr 0).fr 1
   exact Goes.jp 41 [(1, (pt b2 0)), (4, .i (wr .i64 (wr .u8 (y7.1 - 48)))), (25, .bool false)] (W.z22 gx0 _ _ h _ _ (((((Ext.refl S0 w0).trans z2).trans z3).trans z4).trans z5) b2 u6d p5 (u6g.ext z5))
 ·
  have h6' : y4.1 = false := by simpa using h6
  rw [h6']
  refine Goes.rn 5 [(2, .i (-1))] Jfy ?_
  obtain rfl := Option.some.inj h
  have p3 := p3.dp 0
  exact Goes.rt Tryd.f94 (.i (-1)) ⟨S3, uab, rfl, (((Ext.refl S0 w0).trans z2).trans z3), p3, uac⟩

def Qca := sub [1, 1, 1, 1, 1] B79
def Jfz : List Item := [.code Qca]
def Qcb := sub [1, 1, 1, 1, 1, 1] B79
def Jg0 : List Item := [.code Qcb]
def Qcc := sub [1, 1, 1, 1, 1, 0] B79
def Jg1 : List Item := .inRegion (opsOf Qcc) [1] :: Jg0
def Qcd := sub [1, 1, 1, 1, 1, 1, 1] B79
def Jg2 : List Item := [.code Qcd]
def Qce := sub [1, 1, 1, 1, 1, 1, 0, 1] B79
def Jg3 : List Item := .code Qce :: Jg2
def Qcf := sub [1, 1, 1, 1, 1, 1, 0, 0] B79
def Jg4 : List Item := .inRegion (opsOf Qcf) [3, 4, 5, 6, 7, 8, 9, 10, 11, 12, 13, 14] :: Jg3
def Qcg := sub [1, 1, 1, 1, 1, 1, 0, 1, 0] B79
def Jg5 : List Item := .code Qcg :: Jg2
def Jg6 : List Item := .inRegion (opsOf Qcg) [2] :: Jg2
def Qch := sub [1, 1, 1, 1, 1, 1, 1, 1] B79
def Jg7 : List Item := [.code Qch]
def Jg8 : List Item := .inRegion (opsOf Qcf) [7, 8, 9, 10, 11, 12, 13, 14] :: Jg3
def Jg9 : List Item := .inRegion (opsOf Qcf) [10, 11, 12, 13, 14] :: Jg3
def Qci := sub [1, 1, 1, 1, 1, 1, 1, 0] B79
def Jga : List Item := .inRegion (opsOf Qci) [] :: Jg7

def Post.z23 (gx0 : Nat) (r : Int × Int × T68) (v : Value) (w' : World) : Prop :=
 ∃ S' u49, v = .tuple #[.i r.1, .i r.2.1] ∧ Ext S0 w0 S' w' ∧ Hp nz wz S' w' ((some gx0, .row 69 [.string r.2.2.s, .i r.2.2.at_, .i r.2.2.deep, u49] 4 0) :: Lr) ∧ PtO kT72 S' w' u49 r.2.2.bad

def L.z24 (gx0 : Nat) : Int × Int × Int × T68 → (Int × Int × T68) → Prop := fun ⟨x1, x6, x7, e0v⟩ r => ∀ S1 w1, Ext S0 w0 S1 w1 → ∀ u49 (_ : Hp nz wz S1 w1 ((some gx0, .row 69 [.string e0v.s, .i e0v.at_, .i e0v.deep, u49] 4 0) :: Lr)) (_ : PtO kT72 S1 w1 u49 e0v.bad) (junk : Nat → Value),
 Goes Tryd.prog (base 79) Jfz ⟨lfr 45 [(0, (pt gx0 0)), (1, .i x1), (6, .i x6), (7, .i x7)] junk, []⟩ w1 (Done Tryd.prog 79 (Rets (Post.z23 nz wz S0 w0 Lr gx0 r)))

theorem W.z24 {nz wz S0 w0 Lr} [Gw nz wz] (gx0 : Nat) : ∀ a r, M.syntax_parser_counted_l1 a = some r → L.z24 nz wz S0 w0 Lr gx0 a r := by
 intro ⟨x1, x6, x7, e0v⟩ r h S1 w1 hx u49 p1 u4a junk
 rw [M.syntax_parser_counted_l1] at h
 try dsimp only at h
 refine Goes.rn 3 [(23, (pt gx0 0))] Jg1 ?_
 refine bind_some' h fun y12 e13 h => ?_
 refine Goes.cal (.call { callee := .value (.func 95), args := #[(.tmp 23), (.const (.int .u8 125))], argTypes := #[66, 5] }) 24 0 95 _ (W.z1z e0v 125 y12 e13 gx0 u49 p1 u4a) ?_
 rintro _ w6 ⟨S6, u83, rfl, z6, p6, u84⟩
 refine Goes.rn 7 [(25, .i x6), (26, .bool (decide (x6 > 64))), (27, .bool (decide (x6 > 64)))] Jg4 ?_
 refine ite_some h (fun h14 h => ?_) (fun h14 h => ?_)
 ·
  rw [decide_eq_true h14]
  refine Goes.rn 14 [(28, undef), (29, undef), (30, .bool true), (31, .bool true), (32, undef), (33, undef), (34, undef), (35, undef), (36, undef), (37, undef), (38, undef), (39, .bool true)] Jg5 ?_
  refine Goes.rn 3 [(40, (pt gx0 0)), (41, .i x1)] Jg6 ?_
  refine bind_some' h fun y15 e16 h => ?_
  refine Goes.cal (kc 31 [40, 41] #[66, 3]) 42 28 31 _ (W.z13 y12 x1 y15 e16 gx0 u83 p6 u84) ?_
  rintro _ w7 ⟨S7, uaf, uag, uah, ua9, rfl, z7, p7, uai, uaj, rfl, uaa⟩
  refine Goes.rn 8 [(43, .i x6), (44, .i x7), (4, .i x6), (5, .i x7)] Jg7 ?_
  obtain rfl := Option.some.inj h
  exact Goes.rt Tryd.f79 (.tuple #[.i x6, .i x7]) ⟨S7, ua9, rfl, ((hx.trans z6).trans z7), p7, uaa⟩
 ·
  rw [decide_eq_false h14]
  refine Goes.rn 4 [(28, .i x7), (29, .bool (decide (x7 > 64))), (30, .bool (decide (x7 > 64))), (31, .bool (decide (x7 > 64)))] Jg8 ?_
  refine ite_some h (fun h17 h => ?_) (fun h17 h => ?_)
  ·
   rw [decide_eq_true h17]
   refine Goes.rn 13 [(32, undef), (33, undef), (34, undef), (35, undef), (36, undef), (37, undef), (38, undef), (39, .bool true), (40, (pt gx0 0)), (41, .i x1)] Jg6 ?_
   refine bind_some' h fun y18 e19 h => ?_
   refine Goes.cal (kc 31 [40, 41] #[66, 3]) 42 28 31 _ (W.z13 y12 x1 y18 e19 gx0 u83 p6 u84) ?_
   rintro _ w8 ⟨S8, u76, u77, u78, u79, rfl, z8, p8, u7a, u7b, rfl, u7c⟩
   refine Goes.rn 8 [(43, .i x6), (44, .i x7), (4, .i x6), (5, .i x7)] Jg7 ?_
   obtain rfl := Option.some.inj h
   exact Goes.rt Tryd.f79 (.tuple #[.i x6, .i x7]) ⟨S8, u79, rfl, ((hx.trans z6).trans z8), p8, u7c⟩
  ·
   rw [decide_eq_false h17]
   refine Goes.rn 3 [(32, .i x7), (33, .bool (decide (x7 ≥ 0))), (34, .bool (decide (x7 ≥ 0)))] Jg9 ?_
   refine ite_some h (fun h20 h => ?_) (fun h20 h => ?_)
   ·
    rw [decide_eq_true h20]
    refine Goes.rn 6 [(35, .i x6), (36, .i x7), (37, .bool (decide (x6 > x7))), (38, .bool (decide (x6 > x7))), (39, .bool (decide (x6 > x7)))] Jg3 ?_
    refine ite_some h (fun h21 h => ?_) (fun h21 h => ?_)
    ·
     rw [decide_eq_true h21]
     refine Goes.rn 4 [(40, (pt gx0 0)), (41, .i x1)] Jg6 ?_
     refine bind_some' h fun y22 e23 h => ?_
     refine Goes.cal (kc 31 [40, 41] #[66, 3]) 42 28 31 _ (W.z13 y12 x1 y22 e23 gx0 u83 p6 u84) ?_
     rintro _ w9 ⟨S9, uak, ual, uam, uan, rfl, z9, p9, uao, uap, rfl, uaq⟩
     refine Goes.rn 8 [(43, .i x6), (44, .i x7), (4, .i x6), (5, .i x7)] Jg7 ?_
     obtain rfl := Option.some.inj h
     exact Goes.rt Tryd.f79 (.tuple #[.i x6, .i x7]) ⟨S9, uan, rfl, ((hx.trans z6).trans z9), p9, uaq⟩
    ·
     rw [decide_eq_false h21]
     refine Goes.rn 9 [(43, .i x6), (44, .i x7), (4, .i x6), (5, .i x7)] Jg7 ?_
     obtain rfl := Option.some.inj h
     exact Goes.rt Tryd.f79 (.tuple #[.i x6, .i x7]) ⟨S6, u83, rfl, (hx.trans z6), p6, u84⟩
   ·
    rw [decide_eq_false h20]
    refine Goes.rn 14 [(35, undef), (36, undef), (37, undef), (38, .bool false), (39, .bool false), (43, .i x6), (44, .i x7), (4, .i x6), (5, .i x7)] Jga ?_
    refine Goes.rn 1 [] Jg7 ?_
    obtain rfl := Option.some.inj h
    exact Goes.rt Tryd.f79 (.tuple #[.i x6, .i x7]) ⟨S6, u83, rfl, (hx.trans z6), p6, u84⟩

def Qcj := sub [1, 1, 1] B79
def Jgb : List Item := [.code Qcj]
def Qck := sub [1, 1, 1, 1, 0, 1] B79
def Jgc : List Item := .code Qck :: Jfz
def Qcl := sub [1, 1, 1, 1, 0, 0] B79
def Jgd : List Item := .inRegion (opsOf Qcl) [1] :: Jgc
def Qcm := sub [1, 1, 1, 1, 0, 1, 0] B79
def Jge : List Item := .inRegion (opsOf Qcm) [1, 2] :: Jfz

def L.z25 (gx0 : Nat) : Int × Int × T68 → (Int × Int × T68) → Prop := fun ⟨x1, x6, e0v⟩ r => ∀ S1 w1, Ext S0 w0 S1 w1 → ∀ u49 (_ : Hp nz wz S1 w1 ((some gx0, .row 69 [.string e0v.s, .i e0v.at_, .i e0v.deep, u49] 4 0) :: Lr)) (_ : PtO kT72 S1 w1 u49 e0v.bad) (junk : Nat → Value),
 Goes Tryd.prog (base 79) Jgb ⟨lfr 45 [(0, (pt gx0 0)), (1, .i x1), (6, .i x6)] junk, []⟩ w1 (Done Tryd.prog 79 (Rets (Post.z23 nz wz S0 w0 Lr gx0 r)))

theorem W.z25 {nz wz S0 w0 Lr} [Gw nz wz] (gx0 : Nat) : ∀ a r, M.syntax_parser_counted_l0 a = some r → L.z25 nz wz S0 w0 Lr gx0 a r := by
 intro ⟨x1, x6, e0v⟩ r h S1 w1 hx u49 p1 u4a junk
 rw [M.syntax_parser_counted_l0] at h
 try dsimp only at h
 refine Goes.rn 9 [(18, .i x6), (7, .i x6), (19, (pt gx0 0))] Jgd ?_
 refine bind_some' h fun y7 e8 h => ?_
 refine Goes.cal (.call { callee := .value (.func 48), args := #[(.tmp 19), (.const (.int .u8 44))], argTypes := #[66, 5] }) 20 4 48 _ (W.z14 e0v 44 y7 e8 gx0 u49 p1 u4a) ?_
 rintro _ w4 ⟨S4, u6d, rfl, z4, p4, u6g⟩
 refine Goes.rn 1 [] Jgc ?_
 refine ite_some h (fun h9 h => ?_) (fun h9 h => ?_)
 ·
  rw [h9]
  refine Goes.rn 3 [(21, (pt gx0 0))] Jge ?_
  refine bind_some' h fun y10 e11 h => ?_
  refine Goes.cal (kc 94 [21] #[66]) 22 3 94 _ (W.z21 y7.2 y10 e11 gx0 u6d p4 u6g) ?_
  rintro _ w5 ⟨S5, u7f, rfl, z5, p5, u7h⟩
  refine Goes.rn 2 [(7, .i y10.1)] Jfz ?_
  exact Goes.jp 45 [(0, (pt gx0 0)), (1, .i x1), (6, .i x6), (7, .i y10.1)] (W.z24 gx0 _ _ h _ _ ((hx.trans z4).trans z5) u7f p5 u7h)
 ·
  have h9' : y7.1 = false := by simpa using h9
  rw [h9']
  refine Goes.rn 2 [] Jfz ?_
  exact Goes.jp 45 [(0, (pt gx0 0)), (1, .i x1), (6, .i x6), (7, .i x6)] (W.z24 gx0 _ _ h _ _ (hx.trans z4) u6d p4 u6g)

def Qcn := sub [1, 1] B79
def Jgf : List Item := [.code Qcn]
def Qco := sub [1, 0] B79
def Jgg : List Item := .inRegion (opsOf Qco) [1, 2] :: Jgf
def Qcp := sub [1, 1, 0, 1] B79
def Jgh : List Item := .code Qcp :: Jgb
def Qcq := sub [1, 1, 0, 1, 0] B79
def Jgi : List Item := .inRegion (opsOf Qcq) [4, 5] :: Jgb

theorem W.z23 (x0v : T68) (x1 : Int) (r : Int × Int × T68) (h : M.syntax_parser_counted x0v x1 = some r) {nz wz S0 w0 Lr} [Gw nz wz] (gx0 u4b) (p0 : Hp nz wz S0 w0 ((some gx0, .row 69 [.string x0v.s, .i x0v.at_, .i x0v.deep, u4b] 4 0) :: Lr)) (u4c : PtO kT72 S0 w0 u4b x0v.bad) :
  Calls Tryd.prog 79 #[(pt gx0 0), .i x1] w0 (Rets (Post.z23 nz wz S0 w0 Lr gx0 r)) := by
 refine calls_of_goes (fn := Tryd.f79) (c := B79) (by kernel_rfl) (by kernel_rfl) 43 (by kernel_rfl) ?_
 refine Goes.jp 45 [(0, (pt gx0 0)), (1, .i x1)] (fun junk => ?_)
 delta M.syntax_parser_counted at h
 refine Goes.rn 8 [(4, .i 0), (5, .i 0), (8, (pt gx0 0))] Jgg ?_
 refine bind_some' h fun y2 e3 h => ?_
 refine Goes.cal (kc 94 [8] #[66]) 9 3 94 _ (W.z21 x0v y2 e3 gx0 u4b p0 u4c) ?_
 rintro _ w2 ⟨S2, u4g, rfl, z2, p2, u4h⟩
 refine Goes.rn 8 [(6, .i y2.1), (10, .i y2.1), (11, .bool (decide (y2.1 < 0)))] Jgh ?_
 refine ite_some h (fun h4 h => ?_) (fun h4 h => ?_)
 ·
  rw [decide_eq_true h4]
  refine Goes.rn 6 [(12, (pt gx0 0)), (13, (pt gx0 0)), (14, (pt gx0 0)), (15, (pt gx0 1))] Jgi ?_
  refine Goes.ld 3 (.tmp 15) 16 3 ⟨gx0, 1, none⟩ (.i y2.2.at_) (p2.c 0 1) ?_
  refine bind_some' h fun y5 e6 h => ?_
  refine Goes.cal (kc 31 [12, 16] #[66, 3]) 17 28 31 _ (W.z13 y2.2 y2.2.at_ y5 e6 gx0 u4g p2 u4h) ?_
  rintro _ w3 ⟨S3, u9z, ua0, ua1, u6t, rfl, z3, p3, ua2, ua3, rfl, u6u⟩
  refine Goes.rn 1 [] Jgb ?_
  exact Goes.jp 45 [(0, (pt gx0 0)), (1, .i x1), (6, .i y2.1)] (W.z25 gx0 _ _ h _ _ (((Ext.refl S0 w0).trans z2).trans z3) u6t p3 u6u)
 ·
  rw [decide_eq_false h4]
  refine Goes.rn 2 [] Jgb ?_
  exact Goes.jp 45 [(0, (pt gx0 0)), (1, .i x1), (6, .i y2.1)] (W.z25 gx0 _ _ h _ _ ((Ext.refl S0 w0).trans z2) u4g p2 u4h)

def Qcr := sub [1] B49
def Jgj : List Item := [.code Qcr]
def Qcs := sub [0] B49
def Jgk : List Item := .inRegion (opsOf Qcs) [0] :: Jgj
def Qct := sub [1, 1] B49
def Jgl : List Item := [.code Qct]
def Qcu := sub [1, 0, 1] B49
def Jgm : List Item := .code Qcu :: Jgl
def Qcv := sub [1, 0, 1, 0, 1] B49
def Jgn : List Item := .code Qcv :: Jgl
def Qcw := sub [1, 0, 1, 0, 0] B49
def Jgo : List Item := .inRegion (opsOf Qcw) [1, 2, 3] :: Jgn
def Qcx := sub [1, 1, 1] B49
def Jgp : List Item := [.code Qcx]
def Qcy := sub [1, 1, 0] B49
def Jgq : List Item := .inRegion (opsOf Qcy) [3] :: Jgp

def Post.z26 (r : T27) (v : Value) (w' : World) : Prop :=
 ∃ S' u4d u4e u4f, v = (ag (.i r.Kind :: U4 r.Set [.slice u4d u4e u4f, .i r.Min, .i r.Max])) ∧ Ext S0 w0 S' w' ∧ Hp nz wz S' w' (Lr) ∧ r.Set.length = 4 ∧ Rd kT27 S' w' u4d u4f r.L ∧ r.L.length = u4e

theorem W.z26 (x0 : Int) (x1 : List T27) (r : T27) (h : M.syntax_several x0 x1 = some r) {nz wz S0 w0 Lr} [Gw nz wz] (Ax1 nx1 cx1) (p0 : Hp nz wz S0 w0 (Lr)) (fx1 : Rd kT27 S0 w0 Ax1 cx1 x1) (lx1 : x1.length = nx1) :
  Calls Tryd.prog 49 #[.i x0, .slice Ax1 nx1 cx1] w0 (Rets (Post.z26 nz wz S0 w0 Lr r)) := by
 subst lx1
 refine calls_of_goes (fn := Tryd.f49) (c := B49) (by kernel_rfl) (by kernel_rfl) 12 (by kernel_rfl) ?_
 refine Goes.jp 14 [(0, .i x0), (1, .slice Ax1 x1.length cx1)] (fun junk => ?_)
 delta M.syntax_several at h
 refine Goes.rn 2 [] Jgk ?_
 refine Op_.alloc 28 4 0 (.agg #[.i 0, .u 0, .u 0, .u 0, .u 0, .slice none 0 0, .i 0, .i 0]) [.i 0, .u 0, .u 0, .u 0, .u 0, .slice none 0 0, .i 0, .i 0] p0 Goes.v (by kernel_rfl) (by kernel_rfl) ?_
 intro b1 w2 z2 p2
 refine Goes.rn 8 [(5, .slice Ax1 x1.length cx1), (6, .i (x1.length : Int)), (7, .bool (decide ((x1.length : Int) = 1)))] Jgm ?_
 refine ite_some h (fun h3 h => ?_) (fun h3 h => ?_)
 ·
  rw [decide_eq_true h3]
  refine Goes.rn 4 [(8, .slice Ax1 x1.length cx1)] Jgo ?_
  refine guard_some' h fun g4 h => ?_
  refine Op_.ixR_n 26 (.tmp 8) (.const (.int .i64 0)) 9 0 28 .i64 0 (gi x1 0) rfl rfl (fx1.ext z2) Goes.v (by kernel_rfl) (by kernel_rfl) (by kernel_rfl) (by kernel_rfl) (by decide : (0 : Int) ≤ 0) g4 ?_
  intro a5 _ f6 q7
  have q8 := q7
  obtain ⟨_, _, rfl, rfl, ⟨_, _, rfl, ⟨l9, f10⟩, ⟨_, _, rfl, ⟨A11, c12, rfl, f13⟩, ⟨_, _, rfl, rfl, rfl⟩⟩⟩⟩ := kT27_open q8
  obtain rfl := els_lit4' f10 l9
  refine Goes.ldN 28 (.tmp 9) 10 28 a5 ([.i ((gi x1 0).Kind)] ++ ((U4 ((gi x1 0).Set) []) ++ ([.slice A11 (((gi x1 0).L).length) c12] ++ ([.i ((gi x1 0).Min)] ++ [.i ((gi x1 0).Max)])))) (f6.cell) ?_
  refine Op_.st 28 (.tmp 4) (.tmp 10) 0 0 b1 0 (ag (.i ((gi x1 0).Kind) :: U4 ((gi x1 0).Set) [.slice A11 (((gi x1 0).L).length) c12, .i ((gi x1 0).Min), .i ((gi x1 0).Max)])) (.i ((gi x1 0).Kind) :: U4 ((gi x1 0).Set) [.slice A11 (((gi x1 0).L).length) c12, .i ((gi x1 0).Min), .i ((gi x1 0).Max)]) p2 rfl Goes.s (by kernel_rfl) (by kernel_rfl) (by kernel_rfl) (by kernel_rfl) (Nat.zero_le _) (by simp only [List.length_cons, List.length_nil]; omega) (by simp [Value.oneCell']) ?_
  intro w3 z3 p3
  have p3 : Hp nz wz S0 w3 ((some b1, .row 28 (.i ((gi x1 0).Kind) :: U4 ((gi x1 0).Set) [.slice A11 (((gi x1 0).L).length) c12, .i ((gi x1 0).Min), .i ((gi x1 0).Max)]) 8 0) :: Lr) := p3
  refine Goes.rn 1 [] Jgn ?_
  obtain rfl := Option.some.inj h
  exact Goes.ret (fn := Tryd.f49) (by kernel_rfl) (v := (ag (.i ((gi x1 0).Kind) :: U4 ((gi x1 0).Set) [.slice A11 (((gi x1 0).L).length) c12, .i ((gi x1 0).Min), .i ((gi x1 0).Max)]))) (results_n1 (fn := Tryd.f49) (a := .cell 4 28) (by kernel_rfl) (resV_cell ⟨b1, 0, none⟩ (by kernel_rfl) (run_loadN (.i ((gi x1 0).Kind) :: U4 ((gi x1 0).Set) [.slice A11 (((gi x1 0).L).length) c12, .i ((gi x1 0).Min), .i ((gi x1 0).Max)]) (by kernel_rfl) (by kernel_rfl) (p3.pa 0 0)))) ⟨S0, A11, ((gi x1 0).L).length, c12, rfl, (((Ext.refl S0 w0).trans z2).trans z3), p3.drop, l9, (f13.ext z3), rfl⟩
 ·
  rw [decide_eq_false h3]
  refine Goes.rn 7 [(11, .i x0), (12, .slice Ax1 x1.length cx1), (13, .agg #[.i x0, .u 0, .u 0, .u 0, .u 0, .slice Ax1 x1.length cx1, .i 0, .i 0])] Jgq ?_
  refine Op_.st 28 (.tmp 4) (.tmp 13) 0 0 b1 0 (.agg #[.i x0, .u 0, .u 0, .u 0, .u 0, .slice Ax1 x1.length cx1, .i 0, .i 0]) [.i x0, .u 0, .u 0, .u 0, .u 0, .slice Ax1 x1.length cx1, .i 0, .i 0] p2 rfl Goes.s (by kernel_rfl) (by kernel_rfl) (by kernel_rfl) (by kernel_rfl) (Nat.zero_le _) (by simp only [List.length_cons, List.length_nil]; omega) (by simp [Value.oneCell']) ?_
  intro w4 z4 p4
  have p4 : Hp nz wz S0 w4 ((some b1, .row 28 [.i x0, .u 0, .u 0, .u 0, .u 0, .slice Ax1 x1.length cx1, .i 0, .i 0] 8 0) :: Lr) := p4
  refine Goes.rn 1 [] Jgp ?_
  obtain rfl := Option.some.inj h
  exact Goes.ret (fn := Tryd.f49) (by kernel_rfl) (v := .agg #[.i x0, .u 0, .u 0, .u 0, .u 0, .slice Ax1 x1.length cx1, .i 0, .i 0]) (results_n1 (fn := Tryd.f49) (a := .cell 4 28) (by kernel_rfl) (resV_cell ⟨b1, 0, none⟩ (by kernel_rfl) (run_loadN [.i x0, .u 0, .u 0, .u 0, .u 0, .slice Ax1 x1.length cx1, .i 0, .i 0] (by kernel_rfl) (by kernel_rfl) (p4.pa 0 0)))) ⟨S0, Ax1, x1.length, cx1, rfl, (((Ext.refl S0 w0).trans z2).trans z4), p4.drop, rfl, (fx1.ext (z2.trans z4)), rfl⟩

end

end Go.Gx
