import Derived.Test.YtemokppdnkiejaaDoorWPpa

set_option linter.unusedVariables false

set_option maxRecDepth 100000

set_option maxHeartbeats 4000000

namespace Go.Gx

open Go.RowKit Go.Proofs

variable (nz : Nat) (wz : World) (S0 : Fz) (w0 : World) (Lr : List Ent)

noncomputable section

def Q7h := sub [1, 1, 1, 1, 1] B79
def J8z : List Item := [.code Q7h]
def Q7i := sub [1, 1, 1, 1, 1, 1] B79
def J90 : List Item := [.code Q7i]
def Q7j := sub [1, 1, 1, 1, 1, 0] B79
def J91 : List Item := .inRegion (opsOf Q7j) [1] :: J90
def Q7k := sub [1, 1, 1, 1, 1, 1, 1] B79
def J92 : List Item := [.code Q7k]
def Q7l := sub [1, 1, 1, 1, 1, 1, 0, 1] B79
def J93 : List Item := .code Q7l :: J92
def Q7m := sub [1, 1, 1, 1, 1, 1, 0, 0] B79
def J94 : List Item := .inRegion (opsOf Q7m) [3, 4, 5, 6, 7, 8, 9, 10, 11, 12, 13, 14] :: J93
def Q7n := sub [1, 1, 1, 1, 1, 1, 0, 1, 0] B79
def J95 : List Item := .code Q7n :: J92
def J96 : List Item := .inRegion (opsOf Q7n) [2] :: J92
def Q7o := sub [1, 1, 1, 1, 1, 1, 1, 1] B79
def J97 : List Item := [.code Q7o]
def J98 : List Item := .inRegion (opsOf Q7m) [7, 8, 9, 10, 11, 12, 13, 14] :: J93
def J99 : List Item := .inRegion (opsOf Q7m) [10, 11, 12, 13, 14] :: J93
def Q7p := sub [1, 1, 1, 1, 1, 1, 1, 0] B79
def J9a : List Item := .inRegion (opsOf Q7p) [] :: J97

def Post.z12 (gx0 : Nat) (r : Int × Int × T68) (v : Value) (w' : World) : Prop :=
 ∃ S' u0, v = .tuple #[.i r.1, .i r.2.1] ∧ Ext S0 w0 S' w' ∧ Hp nz wz S' w' ((some gx0, .row 69 [.string r.2.2.s, .i r.2.2.at_, .i r.2.2.deep, u0] 4 0) :: Lr) ∧ PtO kT72 S' w' u0 r.2.2.bad

def L.z13 (gx0 : Nat) : Int × Int × Int × T68 → (Int × Int × T68) → Prop := fun ⟨x1, x6, x7, e0v⟩ r => ∀ S1 w1, Ext S0 w0 S1 w1 → ∀ u0 (_ : Hp nz wz S1 w1 ((some gx0, .row 69 [.string e0v.s, .i e0v.at_, .i e0v.deep, u0] 4 0) :: Lr)) (_ : PtO kT72 S1 w1 u0 e0v.bad) (junk : Nat → Value),
 Goes Tryd.prog (base 79) J8z ⟨lfr 45 [(0, (pt gx0 0)), (1, .i x1), (6, .i x6), (7, .i x7)] junk, []⟩ w1 (Done Tryd.prog 79 (Rets (Post.z12 nz wz S0 w0 Lr gx0 r)))

theorem W.z13 {nz wz S0 w0 Lr} [Gw nz wz] (gx0 : Nat) : ∀ a r, M.syntax_parser_counted_l1 a = some r → L.z13 nz wz S0 w0 Lr gx0 a r := by
 intro ⟨x1, x6, x7, e0v⟩ r h S1 w1 hx u0 p1 u1 junk
 rw [M.syntax_parser_counted_l1] at h
 try dsimp only at h
 refine Goes.rn 3 [(23, (pt gx0 0))] J91 ?_
 refine bind_some' h fun y12 e13 h => ?_
 refine Goes.cal (.call { callee := .value (.func 95), args := #[(.tmp 23), (.const (.int .u8 125))], argTypes := #[66, 5] }) 24 0 95 _ (W.zy e0v 125 y12 e13 gx0 u0 p1 u1) ?_
 rintro _ w6 ⟨S6, u3y, rfl, z6, p6, u3z⟩
 refine Goes.rn 7 [(25, .i x6), (26, .bool (decide (x6 > 64))), (27, .bool (decide (x6 > 64)))] J94 ?_
 refine ite_some h (fun h14 h => ?_) (fun h14 h => ?_)
 ·
  rw [decide_eq_true h14]
  refine Goes.rn 14 [(28, undef), (29, undef), (30, .bool true), (31, .bool true), (32, undef), (33, undef), (34, undef), (35, undef), (36, undef), (37, undef), (38, undef), (39, .bool true)] J95 ?_
  refine Goes.rn 3 [(40, (pt gx0 0)), (41, .i x1)] J96 ?_
  refine bind_some' h fun y15 e16 h => ?_
  refine Goes.cal (kc 31 [40, 41] #[66, 3]) 42 28 31 _ (W.z2 y12 x1 y15 e16 gx0 u3y p6 u3z) ?_
  rintro _ w7 ⟨S7, u6c, u6d, u6e, u65, rfl, z7, p7, u6f, u6g, rfl, u66⟩
  refine Goes.rn 8 [(43, .i x6), (44, .i x7), (4, .i x6), (5, .i x7)] J97 ?_
  obtain rfl := Option.some.inj h
  exact Goes.rt Tryd.f79 (.tuple #[.i x6, .i x7]) ⟨S7, u65, rfl, ((hx.trans z6).trans z7), p7, u66⟩
 ·
  rw [decide_eq_false h14]
  refine Goes.rn 4 [(28, .i x7), (29, .bool (decide (x7 > 64))), (30, .bool (decide (x7 > 64))), (31, .bool (decide (x7 > 64)))] J98 ?_
  refine ite_some h (fun h17 h => ?_) (fun h17 h => ?_)
  ·
   rw [decide_eq_true h17]
   refine Goes.rn 13 [(32, undef), (33, undef), (34, undef), (35, undef), (36, undef), (37, undef), (38, undef), (39, .bool true), (40, (pt gx0 0)), (41, .i x1)] J96 ?_
   refine bind_some' h fun y18 e19 h => ?_
   refine Goes.cal (kc 31 [40, 41] #[66, 3]) 42 28 31 _ (W.z2 y12 x1 y18 e19 gx0 u3y p6 u3z) ?_
   rintro _ w8 ⟨S8, u31, u32, u33, u34, rfl, z8, p8, u35, u36, rfl, u37⟩
   refine Goes.rn 8 [(43, .i x6), (44, .i x7), (4, .i x6), (5, .i x7)] J97 ?_
   obtain rfl := Option.some.inj h
   exact Goes.rt Tryd.f79 (.tuple #[.i x6, .i x7]) ⟨S8, u34, rfl, ((hx.trans z6).trans z8), p8, u37⟩
  ·
   rw [decide_eq_false h17]
   refine Goes.rn 3 [(32, .i x7), (33, .bool (decide (x7 ≥ 0))), (34, .bool (decide (x7 ≥ 0)))] J99 ?_
   refine ite_some h (fun h20 h => ?_) (fun h20 h => ?_)
   ·
    rw [decide_eq_true h20]
    refine Goes.rn 6 [(35, .i x6), (36, .i x7), (37, .bool (decide (x6 > x7))), (38, .bool (decide (x6 > x7))), (39, .bool (decide (x6 > x7)))] J93 ?_
    refine ite_some h (fun h21 h => ?_) (fun h21 h => ?_)
    ·
     rw [decide_eq_true h21]
     refine Goes.rn 4 [(40, (pt gx0 0)), (41, .i x1)] J96 ?_
     refine bind_some' h fun y22 e23 h => ?_
     refine Goes.cal (kc 31 [40, 41] #[66, 3]) 42 28 31 _ (W.z2 y12 x1 y22 e23 gx0 u3y p6 u3z) ?_
     rintro _ w9 ⟨S9, u6h, u6i, u6j, u6k, rfl, z9, p9, u6l, u6m, rfl, u6n⟩
     refine Goes.rn 8 [(43, .i x6), (44, .i x7), (4, .i x6), (5, .i x7)] J97 ?_
     obtain rfl := Option.some.inj h
     exact Goes.rt Tryd.f79 (.tuple #[.i x6, .i x7]) ⟨S9, u6k, rfl, ((hx.trans z6).trans z9), p9, u6n⟩
    ·
     rw [decide_eq_false h21]
     refine Goes.rn 9 [(43, .i x6), (44, .i x7), (4, .i x6), (5, .i x7)] J97 ?_
     obtain rfl := Option.some.inj h
     exact Goes.rt Tryd.f79 (.tuple #[.i x6, .i x7]) ⟨S6, u3y, rfl, (hx.trans z6), p6, u3z⟩
   ·
    rw [decide_eq_false h20]
    refine Goes.rn 14 [(35, undef), (36, undef), (37, undef), (38, .bool false), (39, .bool false), (43, .i x6), (44, .i x7), (4, .i x6), (5, .i x7)] J9a ?_
    refine Goes.rn 1 [] J97 ?_
    obtain rfl := Option.some.inj h
    exact Goes.rt Tryd.f79 (.tuple #[.i x6, .i x7]) ⟨S6, u3y, rfl, (hx.trans z6), p6, u3z⟩

def Q7q := sub [1, 1, 1] B79
def J9b : List Item := [.code Q7q]
def Q7r := sub [1, 1, 1, 1, 0, 1] B79
def J9c : List Item := .code Q7r :: J8z
def Q7s := sub [1, 1, 1, 1, 0, 0] B79
def J9d : List Item := .inRegion (opsOf Q7s) [1] :: J9c
def Q7t := sub [1, 1, 1, 1, 0, 1, 0] B79
def J9e : List Item := .inRegion (opsOf Q7t) [1, 2] :: J8z

def L.z14 (gx0 : Nat) : Int × Int × T68 → (Int × Int × T68) → Prop := fun ⟨x1, x6, e0v⟩ r => ∀ S1 w1, Ext S0 w0 S1 w1 → ∀ u0 (_ : Hp nz wz S1 w1 ((some gx0, .row 69 [.string e0v.s, .i e0v.at_, .i e0v.deep, u0] 4 0) :: Lr)) (_ : PtO kT72 S1 w1 u0 e0v.bad) (junk : Nat → Value),
 Goes Tryd.prog (base 79) J9b ⟨lfr 45 [(0, (pt gx0 0)), (1, .i x1), (6, .i x6)] junk, []⟩ w1 (Done Tryd.prog 79 (Rets (Post.z12 nz wz S0 w0 Lr gx0 r)))

theorem W.z14 {nz wz S0 w0 Lr} [Gw nz wz] (gx0 : Nat) : ∀ a r, M.syntax_parser_counted_l0 a = some r → L.z14 nz wz S0 w0 Lr gx0 a r := by
 intro ⟨x1, x6, e0v⟩ r h S1 w1 hx u0 p1 u1 junk
 rw [M.syntax_parser_counted_l0] at h
 try dsimp only at h
 refine Goes.rn 9 [(18, .i x6), (7, .i x6), (19, (pt gx0 0))] J9d ?_
 refine bind_some' h fun y7 e8 h => ?_
 refine Goes.cal (.call { callee := .value (.func 48), args := #[(.tmp 19), (.const (.int .u8 44))], argTypes := #[66, 5] }) 20 4 48 _ (W.z3 e0v 44 y7 e8 gx0 u0 p1 u1) ?_
 rintro _ w4 ⟨S4, u28, rfl, z4, p4, u2b⟩
 refine Goes.rn 1 [] J9c ?_
 refine ite_some h (fun h9 h => ?_) (fun h9 h => ?_)
 ·
  rw [h9]
  refine Goes.rn 3 [(21, (pt gx0 0))] J9e ?_
  refine bind_some' h fun y10 e11 h => ?_
  refine Goes.cal (kc 94 [21] #[66]) 22 3 94 _ (W.z10 y7.2 y10 e11 gx0 u28 p4 u2b) ?_
  rintro _ w5 ⟨S5, u3a, rfl, z5, p5, u3c⟩
  refine Goes.rn 2 [(7, .i y10.1)] J8z ?_
  exact Goes.jp 45 [(0, (pt gx0 0)), (1, .i x1), (6, .i x6), (7, .i y10.1)] (W.z13 gx0 _ _ h _ _ ((hx.trans z4).trans z5) u3a p5 u3c)
 ·
  have h9' : y7.1 = false := by simpa using h9
  rw [h9']
  refine Goes.rn 2 [] J8z ?_
  exact Goes.jp 45 [(0, (pt gx0 0)), (1, .i x1), (6, .i x6), (7, .i x6)] (W.z13 gx0 _ _ h _ _ (hx.trans z4) u28 p4 u2b)

def Q7u := sub [1, 1] B79
def J9f : List Item := [.code Q7u]
def Q7v := sub [1, 0] B79
def J9g : List Item := .inRegion (opsOf Q7v) [1, 2] :: J9f
def Q7w := sub [1, 1, 0, 1] B79
def J9h : List Item := .code Q7w :: J9b
def Q7x := sub [1, 1, 0, 1, 0] B79
def J9i : List Item := .inRegion (opsOf Q7x) [4, 5] :: J9b

theorem W.z12 (x0v : T68) (x1 : Int) (r : Int × Int × T68) (h : M.syntax_parser_counted x0v x1 = some r) {nz wz S0 w0 Lr} [Gw nz wz] (gx0 u2) (p0 : Hp nz wz S0 w0 ((some gx0, .row 69 [.string x0v.s, .i x0v.at_, .i x0v.deep, u2] 4 0) :: Lr)) (u3 : PtO kT72 S0 w0 u2 x0v.bad) :
  Calls Tryd.prog 79 #[(pt gx0 0), .i x1] w0 (Rets (Post.z12 nz wz S0 w0 Lr gx0 r)) := by
 refine calls_of_goes (fn := Tryd.f79) (c := B79) (by kernel_rfl) (by kernel_rfl) 43 (by kernel_rfl) ?_
 refine Goes.jp 45 [(0, (pt gx0 0)), (1, .i x1)] (fun junk => ?_)
 delta M.syntax_parser_counted at h
 refine Goes.rn 8 [(4, .i 0), (5, .i 0), (8, (pt gx0 0))] J9g ?_
 refine bind_some' h fun y2 e3 h => ?_
 refine Goes.cal (kc 94 [8] #[66]) 9 3 94 _ (W.z10 x0v y2 e3 gx0 u2 p0 u3) ?_
 rintro _ w2 ⟨S2, u7, rfl, z2, p2, u8⟩
 refine Goes.rn 8 [(6, .i y2.1), (10, .i y2.1), (11, .bool (decide (y2.1 < 0)))] J9h ?_
 refine ite_some h (fun h4 h => ?_) (fun h4 h => ?_)
 ·
  rw [decide_eq_true h4]
  refine Goes.rn 6 [(12, (pt gx0 0)), (13, (pt gx0 0)), (14, (pt gx0 0)), (15, (pt gx0 1))] J9i ?_
  refine Goes.ld 3 (.tmp 15) 16 3 ⟨gx0, 1, none⟩ (.i y2.2.at_) (p2.c 0 1) ?_
  refine bind_some' h fun y5 e6 h => ?_
  refine Goes.cal (kc 31 [12, 16] #[66, 3]) 17 28 31 _ (W.z2 y2.2 y2.2.at_ y5 e6 gx0 u7 p2 u8) ?_
  rintro _ w3 ⟨S3, u5v, u5w, u5x, u2o, rfl, z3, p3, u5y, u5z, rfl, u2p⟩
  refine Goes.rn 1 [] J9b ?_
  exact Goes.jp 45 [(0, (pt gx0 0)), (1, .i x1), (6, .i y2.1)] (W.z14 gx0 _ _ h _ _ (((Ext.refl S0 w0).trans z2).trans z3) u2o p3 u2p)
 ·
  rw [decide_eq_false h4]
  refine Goes.rn 2 [] J9b ?_
  exact Goes.jp 45 [(0, (pt gx0 0)), (1, .i x1), (6, .i y2.1)] (W.z14 gx0 _ _ h _ _ ((Ext.refl S0 w0).trans z2) u7 p2 u8)

def Q7y := sub [1] B49
def J9j : List Item := [.code Q7y]
def Q7z := sub [0] B49
def J9k : List Item := .inRegion (opsOf Q7z) [0] :: J9j
def Q80 := sub [1, 1] B49
def J9l : List Item := [.code Q80]
def Q81 := sub [1, 0, 1] B49
def J9m : List Item := .code Q81 :: J9l
def Q82 := sub [1, 0, 1, 0, 1] B49
def J9n : List Item := .code Q82 :: J9l
def Q83 := sub [1, 0, 1, 0, 0] B49
def J9o : List Item := .inRegion (opsOf Q83) [1, 2, 3] :: J9n
def Q84 := sub [1, 1, 1] B49
def J9p : List Item := [.code Q84]
def Q85 := sub [1, 1, 0] B49
def J9q : List Item := .inRegion (opsOf Q85) [3] :: J9p

def Post.z15 (r : T27) (v : Value) (w' : World) : Prop :=
 ∃ S' u4 u5 u6, v = (ag (.i r.Kind :: U4 r.Set [.slice u4 u5 u6, .i r.Min, .i r.Max])) ∧ Ext S0 w0 S' w' ∧ Hp nz wz S' w' (Lr) ∧ r.Set.length = 4 ∧ Rd kT27 S' w' u4 u6 r.L ∧ r.L.length = u5

theorem W.z15 (x0 : Int) (x1 : List T27) (r : T27) (h : M.syntax_several x0 x1 = some r) {nz wz S0 w0 Lr} [Gw nz wz] (Ax1 nx1 cx1) (p0 : Hp nz wz S0 w0 (Lr)) (fx1 : Rd kT27 S0 w0 Ax1 cx1 x1) (lx1 : x1.length = nx1) :
  Calls Tryd.prog 49 #[.i x0, .slice Ax1 nx1 cx1] w0 (Rets (Post.z15 nz wz S0 w0 Lr r)) := by
 subst lx1
 refine calls_of_goes (fn := Tryd.f49) (c := B49) (by kernel_rfl) (by kernel_rfl) 12 (by kernel_rfl) ?_
 refine Goes.jp 14 [(0, .i x0), (1, .slice Ax1 x1.length cx1)] (fun junk => ?_)
 delta M.syntax_several at h
 refine Goes.rn 2 [] J9k ?_
 refine Op_.alloc 28 4 0 (.agg #[.i 0, .u 0, .u 0, .u 0, .u 0, .slice none 0 0, .i 0, .i 0]) [.i 0, .u 0, .u 0, .u 0, .u 0, .slice none 0 0, .i 0, .i 0] p0 Goes.v (by kernel_rfl) (by kernel_rfl) ?_
 intro b1 w2 z2 p2
 refine Goes.rn 8 [(5, .slice Ax1 x1.length cx1), (6, .i (x1.length : Int)), (7, .bool (decide ((x1.length : Int) = 1)))] J9m ?_
 refine ite_some h (fun h3 h => ?_) (fun h3 h => ?_)
 ·
  rw [decide_eq_true h3]
  refine Goes.rn 4 [(8, .slice Ax1 x1.length cx1)] J9o ?_
  refine guard_some' h fun g4 h => ?_
  refine Op_.ixR_n 26 (.tmp 8) (.const (.int .i64 0)) 9 0 28 .i64 0 (gi x1 0) rfl rfl (fx1.ext z2) Goes.v (by kernel_rfl) (by kernel_rfl) (by kernel_rfl) (by kernel_rfl) (by decide : (0 : Int) ≤ 0) g4 ?_
  intro a5 _ f6 q7
  have q8 := q7
  obtain ⟨_, _, rfl, rfl, ⟨_, _, rfl, ⟨l9, f10⟩, ⟨_, _, rfl, ⟨A11, c12, rfl, f13⟩, ⟨_, _, rfl, rfl, rfl⟩⟩⟩⟩ := kT27_open q8
  obtain rfl := els_lit4' f10 l9
  refine Goes.ldN 28 (.tmp 9) 10 28 a5 ([.i ((gi x1 0).Kind)] ++ ((U4 ((gi x1 0).Set) []) ++ ([.slice A11 (((gi x1 0).L).length) c12] ++ ([.i ((gi x1 0).Min)] ++ [.i ((gi x1 0).Max)])))) (f6.cell) ?_
  refine Op_.st 28 (.tmp 4) (.tmp 10) 0 0 b1 0 (ag (.i ((gi x1 0).Kind) :: U4 ((gi x1 0).Set) [.slice A11 (((gi x1 0).L).length) c12, .i ((gi x1 0).Min), .i ((gi x1 0).Max)])) (.i ((gi x1 0).Kind) :: U4 ((gi x1 0).Set) [.slice A11 (((gi x1 0).L).length) c12, .i ((gi x1 0).Min), .i ((gi x1 0).Max)]) p2 rfl Goes.s (by kernel_rfl) (by kernel_rfl) (by kernel_rfl) (by kernel_rfl) (Nat.zero_le _) (by simp only [List.length_cons, List.length_nil]; omega) (by simp [Value.oneCell']) ?_
  intro w3 z3 p3
  have p3 : Hp nz wz S0 w3 ((some b1, .row 28 (.i ((gi x1 0).Kind) :: U4 ((gi x1 0).Set) [.slice A11 (((gi x1 0).L).length) c12, .i ((gi x1 0).Min), .i ((gi x1 0).Max)]) 8 0) :: Lr) := p3
  refine Goes.rn 1 [] J9n ?_
  obtain rfl := Option.some.inj h
  exact Goes.ret (fn := Tryd.f49) (by kernel_rfl) (v := (ag (.i ((gi x1 0).Kind) :: U4 ((gi x1 0).Set) [.slice A11 (((gi x1 0).L).length) c12, .i ((gi x1 0).Min), .i ((gi x1 0).Max)]))) (results_n1 (fn := Tryd.f49) (a := .cell 4 28) (by kernel_rfl) (resV_cell ⟨b1, 0, none⟩ (by kernel_rfl) (run_loadN (.i ((gi x1 0).Kind) :: U4 ((gi x1 0).Set) [.slice A11 (((gi x1 0).L).length) c12, .i ((gi x1 0).Min), .i ((gi x1 0).Max)]) (by kernel_rfl) (by kernel_rfl) (p3.pa 0 0)))) ⟨S0, A11, ((gi x1 0).L).length, c12, rfl, (((Ext.refl S0 w0).trans z2).trans z3), p3.drop, l9, (f13.ext z3), rfl⟩
 ·
  rw [decide_eq_false h3]
  refine Goes.rn 7 [(11, .i x0), (12, .slice Ax1 x1.length cx1), (13, .agg #[.i x0, .u 0, .u 0, .u 0, .u 0, .slice Ax1 x1.length cx1, .i 0, .i 0])] J9q ?_
  refine Op_.st 28 (.tmp 4) (.tmp 13) 0 0 b1 0 (.agg #[.i x0, .u 0, .u 0, .u 0, .u 0, .slice Ax1 x1.length cx1, .i 0, .i 0]) [.i x0, .u 0, .u 0, .u 0, .u 0, .slice Ax1 x1.length cx1, .i 0, .i 0] p2 rfl Goes.s (by kernel_rfl) (by kernel_rfl) (by kernel_rfl) (by kernel_rfl) (Nat.zero_le _) (by simp only [List.length_cons, List.length_nil]; omega) (by simp [Value.oneCell']) ?_
  intro w4 z4 p4
  have p4 : Hp nz wz S0 w4 ((some b1, .row 28 [.i x0, .u 0, .u 0, .u 0, .u 0, .slice Ax1 x1.length cx1, .i 0, .i 0] 8 0) :: Lr) := p4
  refine Goes.rn 1 [] J9p ?_
  obtain rfl := Option.some.inj h
  exact Goes.ret (fn := Tryd.f49) (by kernel_rfl) (v := .agg #[.i x0, .u 0, .u 0, .u 0, .u 0, .slice Ax1 x1.length cx1, .i 0, .i 0]) (results_n1 (fn := Tryd.f49) (a := .cell 4 28) (by kernel_rfl) (resV_cell ⟨b1, 0, none⟩ (by kernel_rfl) (run_loadN [.i x0, .u 0, .u 0, .u 0, .u 0, .slice Ax1 x1.length cx1, .i 0, .i 0] (by kernel_rfl) (by kernel_rfl) (p4.pa 0 0)))) ⟨S0, Ax1, x1.length, cx1, rfl, (((Ext.refl S0 w0).trans z2).trans z4), p4.drop, rfl, (fx1.ext (z2.trans z4)), rfl⟩

def Q86 := sub [1, 1, 1] B47
def J9r : List Item := [.code Q86]
def J9s : List Item := .inBlock 0 :: J9r
def Q87 := sub [1, 1, 0, 0, 0] B47
def J9t : List Item := .inLoop Q87 :: J9s
def J9u : List Item := .code Q87 :: J9t
def Q88 := sub [1, 1, 0, 0, 0, 1] B47
def J9v : List Item := .code Q88 :: J9t
def Q89 := sub [1, 1, 0, 0, 0, 0, 1] B47
def J9w : List Item := .code Q89 :: J9v
def Q8a := sub [1, 1, 1] B78
def J9x : List Item := [.code Q8a]
def J9y : List Item := .inBlock 0 :: J9x
def Q8b := sub [1, 1, 0, 0, 1] B78
def J9z : List Item := .code Q8b :: J9y
def Q8c := sub [1, 1, 0, 0, 1, 1, 1] B78
def Ja0 : List Item := .code Q8c :: J9y
def Q8d := sub [1, 1] B92
def Ja1 : List Item := [.code Q8d]
def Q8e := sub [1, 1, 1] B30
def Ja2 : List Item := [.code Q8e]
def Ja3 : List Item := .inBlock 0 :: Ja2
def Q8f := sub [1, 1, 0, 0, 0] B30
def Ja4 : List Item := .inLoop Q8f :: Ja3
def Ja5 : List Item := .code Q8f :: Ja4
def Q8g := sub [1] B30
def Ja6 : List Item := [.code Q8g]
def Q8h := sub [0] B30
def Ja7 : List Item := .inRegion (opsOf Q8h) [0] :: Ja6
def Q8i := sub [1, 1] B30
def Ja8 : List Item := [.code Q8i]
def Q8j := sub [1, 0] B30
def Ja9 : List Item := .inRegion (opsOf Q8j) [1, 2, 3] :: Ja8
def Q8k := sub [1, 1, 0, 0, 0, 1] B30
def Jaa : List Item := .code Q8k :: Ja4
def Q8l := sub [1, 1, 0, 0, 0, 0, 1] B30
def Jab : List Item := .code Q8l :: Jaa
def Q8m := sub [1, 1, 0, 0, 0, 0, 0] B30
def Jac : List Item := .inRegion (opsOf Q8m) [1] :: Jab
def Jad : List Item := .inBlock 1 :: Ja4
def Q8n := sub [1, 1, 0, 0, 0, 1, 0] B30
def Jae : List Item := .inRegion (opsOf Q8n) [2, 3, 4, 5] :: Jad
def Q8o := sub [1, 1, 1, 1] B30
def Jaf : List Item := [.code Q8o]
def Q8p := sub [1, 1, 1, 0] B30
def Jag : List Item := .inRegion (opsOf Q8p) [1, 2] :: Jaf
def Q8q := sub [1] B47
def Jah : List Item := [.code Q8q]
def Q8r := sub [0] B47
def Jai : List Item := .inRegion (opsOf Q8r) [0] :: Jah
def Q8s := sub [1, 1, 0, 0, 0, 0, 0] B47
def Jaj : List Item := .code Q8s :: J9w
def Jak : List Item := .inBlock 1 :: J9t
def Q8t := sub [1, 1, 0, 0, 0, 1, 0] B47
def Jal : List Item := .inRegion (opsOf Q8t) [2, 3, 4, 5] :: Jak
def Q8u := sub [1, 1, 1, 1] B47
def Jam : List Item := [.code Q8u]
def Q8v := sub [1, 1, 1, 0] B47
def Jan : List Item := .inRegion (opsOf Q8v) [1, 2] :: Jam
def Q8w := sub [1] B66
def Jao : List Item := [.code Q8w]
def Q8x := sub [0] B66
def Jap : List Item := .inRegion (opsOf Q8x) [0] :: Jao
def Q8y := sub [1, 1] B66
def Jaq : List Item := [.code Q8y]
def Q8z := sub [1, 0] B66
def Jar : List Item := .inRegion (opsOf Q8z) [1, 2, 3] :: Jaq
def Q90 := sub [1, 1, 1, 1] B66
def Jas : List Item := [.code Q90]
def Q91 := sub [1, 1, 1, 0, 1] B66
def Jat : List Item := .code Q91 :: Jas
def Q92 := sub [1, 1, 1, 0, 0] B66
def Jau : List Item := .inRegion (opsOf Q92) [3, 4] :: Jat
def Jav : List Item := .inBlock 0 :: Jas
def Q93 := sub [1, 1, 1, 0, 1, 0, 1] B66
def Jaw : List Item := .code Q93 :: Jav
def Q94 := sub [1, 1, 1, 0, 1, 0, 0] B66
def Jax : List Item := .inRegion (opsOf Q94) [1, 2] :: Jaw
def Q95 := sub [1, 1, 1, 1, 1] B66
def Jay : List Item := [.code Q95]
def Q96 := sub [1, 1, 1, 1, 0] B66
def Jaz : List Item := .inRegion (opsOf Q96) [0, 1, 2, 3, 4, 5] :: Jay
def Jb0 : List Item := .inRegion (opsOf Q96) [5] :: Jay
def Q97 := sub [1, 1, 1, 0, 1, 0, 1, 1, 1] B66
def Jb1 : List Item := .code Q97 :: Jav
def Q98 := sub [1, 1, 1, 0, 1, 0, 1, 1, 0] B66
def Jb2 : List Item := .inRegion (opsOf Q98) [1, 2] :: Jb1
def Q99 := sub [1, 1, 1, 0, 1, 0, 1, 1, 1, 1, 1] B66
def Jb3 : List Item := .code Q99 :: Jav
def Q9a := sub [1, 1, 1, 0, 1, 0, 1, 1, 1, 1, 0] B66
def Jb4 : List Item := .inRegion (opsOf Q9a) [1, 2] :: Jb3
def Q9b := sub [1, 1, 1, 0, 1, 0, 1, 1, 1, 1, 1, 1, 1] B66
def Jb5 : List Item := .code Q9b :: Jav
def Q9c := sub [1, 1, 1, 0, 1, 0, 1, 1, 1, 1, 1, 1, 0] B66
def Jb6 : List Item := .inRegion (opsOf Q9c) [1, 2] :: Jb5
def Q9d := sub [1, 1, 1, 0, 1, 0, 1, 1, 1, 1, 1, 1, 1, 0] B66
def Jb7 : List Item := .inRegion (opsOf Q9d) [2, 3, 4, 5, 6, 7] :: Jav
def Q9e := sub [1, 1, 1, 0, 1, 0, 1, 1, 1, 1, 1, 1, 1, 1, 1] B66
def Jb8 : List Item := .code Q9e :: Jav
def Q9f := sub [1, 1, 1, 0, 1, 0, 1, 1, 1, 1, 1, 1, 1, 1, 0] B66
def Jb9 : List Item := .inRegion (opsOf Q9f) [0, 1] :: Jb8
def Q9g := sub [1] B78
def Jba : List Item := [.code Q9g]
def Q9h := sub [0] B78
def Jbb : List Item := .inRegion (opsOf Q9h) [0] :: Jba
def Q9i := sub [1, 1] B78
def Jbc : List Item := [.code Q9i]
def Q9j := sub [1, 0] B78
def Jbd : List Item := .inRegion (opsOf Q9j) [1, 2] :: Jbc
def Q9k := sub [1, 1, 0, 0, 0] B78
def Jbe : List Item := .inRegion (opsOf Q9k) [3, 4, 5, 6, 7, 8, 9, 10, 11] :: J9z
def Jbf : List Item := .inRegion (opsOf Q9k) [7, 8, 9, 10, 11] :: J9z
def Jbg : List Item := .inRegion (opsOf Q9k) [8, 9, 10, 11] :: J9z
def Q9l := sub [1, 1, 0, 0, 1, 0, 1] B78
def Jbh : List Item := .code Q9l :: J9y
def Q9m := sub [1, 1, 0, 0, 1, 0, 0] B78
def Jbi : List Item := .inRegion (opsOf Q9m) [4, 5, 6] :: Jbh
def Q9n := sub [1, 1, 0, 0, 1, 1, 0] B78
def Jbj : List Item := .inRegion (opsOf Q9n) [3, 4, 5, 6, 7, 8, 9] :: Ja0
def Jbk : List Item := .inRegion (opsOf Q9n) [6, 7, 8, 9] :: Ja0
def Q9o := sub [1, 1, 0, 0, 1, 1, 1, 0, 1] B78
def Jbl : List Item := .code Q9o :: J9y
def Q9p := sub [1, 1, 0, 0, 1, 1, 1, 0, 0] B78
def Jbm : List Item := .inRegion (opsOf Q9p) [4, 5, 6] :: Jbl
def Q9q := sub [1, 1, 0, 0, 1, 1, 1, 1, 1] B78
def Jbn : List Item := .code Q9q :: J9y
def Q9r := sub [1, 1, 0, 0, 1, 1, 1, 1, 0] B78
def Jbo : List Item := .inRegion (opsOf Q9r) [1, 2] :: Jbn
def Q9s := sub [1, 1, 0, 0, 1, 1, 1, 1, 1, 0, 1] B78
def Jbp : List Item := .code Q9s :: J9y
def Q9t := sub [1, 1, 0, 0, 1, 1, 1, 1, 1, 0, 0] B78
def Jbq : List Item := .inRegion (opsOf Q9t) [0, 1, 2, 3] :: Jbp
def Jbr : List Item := .inRegion (opsOf Q9t) [3] :: Jbp
def Q9u := sub [1, 1, 0, 0, 1, 1, 1, 1, 1, 1, 1] B78
def Jbs : List Item := .code Q9u :: J9y
def Q9v := sub [1, 1, 0, 0, 1, 1, 1, 1, 1, 1, 0] B78
def Jbt : List Item := .inRegion (opsOf Q9v) [1, 2] :: Jbs
def Q9w := sub [1, 1, 0, 0, 1, 1, 1, 1, 1, 1, 1, 0, 1] B78
def Jbu : List Item := .code Q9w :: J9y
def Q9x := sub [1, 1, 0, 0, 1, 1, 1, 1, 1, 1, 1, 0, 0] B78
def Jbv : List Item := .inRegion (opsOf Q9x) [1, 2] :: Jbu
def Q9y := sub [1, 1, 0, 0, 1, 1, 1, 1, 1, 1, 1, 1, 1] B78
def Jbw : List Item := .code Q9y :: J9y
def Q9z := sub [1, 1, 0, 0, 1, 1, 1, 1, 1, 1, 1, 1, 0] B78
def Jbx : List Item := .inRegion (opsOf Q9z) [1, 2] :: Jbw
def Qa0 := sub [1, 1, 0, 0, 1, 1, 1, 1, 1, 1, 1, 1, 1, 0, 1] B78
def Jby : List Item := .code Qa0 :: J9y
def Qa1 := sub [1, 1, 0, 0, 1, 1, 1, 1, 1, 1, 1, 1, 1, 0, 0] B78
def Jbz : List Item := .inRegion (opsOf Qa1) [1, 2] :: Jby
def Qa2 := sub [1, 1, 0, 0, 1, 1, 1, 1, 1, 1, 1, 1, 1, 1, 1] B78
def Jc0 : List Item := .code Qa2 :: J9y
def Qa3 := sub [1, 1, 0, 0, 1, 1, 1, 1, 1, 1, 1, 1, 1, 1, 0] B78
def Jc1 : List Item := .inRegion (opsOf Qa3) [1, 2] :: Jc0
def Qa4 := sub [1, 1, 0, 0, 1, 1, 1, 1, 1, 1, 1, 1, 1, 1, 1, 0, 1] B78
def Jc2 : List Item := .code Qa4 :: J9y
def Qa5 := sub [1, 1, 0, 0, 1, 1, 1, 1, 1, 1, 1, 1, 1, 1, 1, 0, 0] B78
def Jc3 : List Item := .inRegion (opsOf Qa5) [1, 2, 3, 4] :: Jc2
def Jc4 : List Item := .inRegion (opsOf Qa5) [4] :: Jc2
def Qa6 := sub [1, 1, 1, 1] B78
def Jc5 : List Item := [.code Qa6]
def Qa7 := sub [1, 1, 1, 0] B78
def Jc6 : List Item := .inRegion (opsOf Qa7) [3, 4, 5, 6, 7] :: Jc5
def Jc7 : List Item := .inRegion (opsOf Qa7) [7] :: Jc5
def Qa8 := sub [1, 1, 1, 1, 1] B78
def Jc8 : List Item := [.code Qa8]
def Qa9 := sub [1, 1, 1, 1, 0] B78
def Jc9 : List Item := .inRegion (opsOf Qa9) [1, 2, 3] :: Jc8
def Jca : List Item := .inRegion (opsOf Qa9) [3] :: Jc8
def Qaa := sub [1] B92
def Jcb : List Item := [.code Qaa]
def Qab := sub [0] B92
def Jcc : List Item := .inRegion (opsOf Qab) [0] :: Jcb
def Qac := sub [1, 0, 1] B92
def Jcd : List Item := .code Qac :: Ja1
def Qad := sub [1, 0, 0] B92
def Jce : List Item := .inRegion (opsOf Qad) [1] :: Jcd
def Qae := sub [1, 0, 1, 0] B92
def Jcf : List Item := .inRegion (opsOf Qae) [1] :: Ja1
def Qaf := sub [1, 1, 1] B92
def Jcg : List Item := [.code Qaf]
def Qag := sub [1, 1, 0] B92
def Jch : List Item := .inRegion (opsOf Qag) [3, 4, 5, 6, 7] :: Jcg
def Jci : List Item := .inRegion (opsOf Qag) [7] :: Jcg
def Qah := sub [1, 1, 1, 1] B92
def Jcj : List Item := [.code Qah]
def Qai := sub [1, 1, 1, 0] B92
def Jck : List Item := .inRegion (opsOf Qai) [1, 2, 3] :: Jcj
def Qaj := sub [1, 1, 1, 1, 1] B92
def Jcl : List Item := [.code Qaj]
def Qak := sub [1, 1, 1, 1, 0] B92
def Jcm : List Item := .inRegion (opsOf Qak) [3, 4, 5, 6, 7] :: Jcl
def Jcn : List Item := .inRegion (opsOf Qak) [7] :: Jcl
def Qal := sub [1, 1, 1, 1, 1, 1] B92
def Jco : List Item := [.code Qal]
def Qam := sub [1, 1, 1, 1, 1, 0] B92
def Jcp : List Item := .inRegion (opsOf Qam) [1] :: Jco
def Qan := sub [1, 1, 1, 1, 1, 1, 1] B92
def Jcq : List Item := [.code Qan]
def Qao := sub [1, 1, 1, 1, 1, 1, 0] B92
def Jcr : List Item := .inRegion (opsOf Qao) [0, 1] :: Jcq

def Post.z16 (gx0 : Nat) (r : T27 × T68) (v : Value) (w' : World) : Prop :=
 ∃ S' u4 u5 u6 u0, v = (ag (.i r.1.Kind :: U4 r.1.Set [.slice u4 u5 u6, .i r.1.Min, .i r.1.Max])) ∧ Ext S0 w0 S' w' ∧ Hp nz wz S' w' ((some gx0, .row 69 [.string r.2.s, .i r.2.at_, .i r.2.deep, u0] 4 0) :: Lr) ∧ r.1.Set.length = 4 ∧ Rd kT27 S' w' u4 u6 r.1.L ∧ r.1.L.length = u5 ∧ PtO kT72 S' w' u0 r.2.bad

def Post.z17 (gx0 : Nat) (r : T27 × T68) (v : Value) (w' : World) : Prop :=
 ∃ S' u4 u5 u6 u0, v = (ag (.i r.1.Kind :: U4 r.1.Set [.slice u4 u5 u6, .i r.1.Min, .i r.1.Max])) ∧ Ext S0 w0 S' w' ∧ Hp nz wz S' w' ((some gx0, .row 69 [.string r.2.s, .i r.2.at_, .i r.2.deep, u0] 4 0) :: Lr) ∧ r.1.Set.length = 4 ∧ Rd kT27 S' w' u4 u6 r.1.L ∧ r.1.L.length = u5 ∧ PtO kT72 S' w' u0 r.2.bad

def Post.z18 (gx0 : Nat) (r : T27 × T68) (v : Value) (w' : World) : Prop :=
 ∃ S' u4 u5 u6 u0, v = (ag (.i r.1.Kind :: U4 r.1.Set [.slice u4 u5 u6, .i r.1.Min, .i r.1.Max])) ∧ Ext S0 w0 S' w' ∧ Hp nz wz S' w' ((some gx0, .row 69 [.string r.2.s, .i r.2.at_, .i r.2.deep, u0] 4 0) :: Lr) ∧ r.1.Set.length = 4 ∧ Rd kT27 S' w' u4 u6 r.1.L ∧ r.1.L.length = u5 ∧ PtO kT72 S' w' u0 r.2.bad

def Post.z19 (gx0 : Nat) (r : T27 × T68) (v : Value) (w' : World) : Prop :=
 ∃ S' u4 u5 u6 u0, v = (ag (.i r.1.Kind :: U4 r.1.Set [.slice u4 u5 u6, .i r.1.Min, .i r.1.Max])) ∧ Ext S0 w0 S' w' ∧ Hp nz wz S' w' ((some gx0, .row 69 [.string r.2.s, .i r.2.at_, .i r.2.deep, u0] 4 0) :: Lr) ∧ r.1.Set.length = 4 ∧ Rd kT27 S' w' u4 u6 r.1.L ∧ r.1.L.length = u5 ∧ PtO kT72 S' w' u0 r.2.bad

def Post.z1a (gx0 : Nat) (r : T27 × T68) (v : Value) (w' : World) : Prop :=
 ∃ S' u4 u5 u6 u0, v = (ag (.i r.1.Kind :: U4 r.1.Set [.slice u4 u5 u6, .i r.1.Min, .i r.1.Max])) ∧ Ext S0 w0 S' w' ∧ Hp nz wz S' w' ((some gx0, .row 69 [.string r.2.s, .i r.2.at_, .i r.2.deep, u0] 4 0) :: Lr) ∧ r.1.Set.length = 4 ∧ Rd kT27 S' w' u4 u6 r.1.L ∧ r.1.L.length = u5 ∧ PtO kT72 S' w' u0 r.2.bad

def LF.z16 : T68 → (T27 × T68) → Prop := fun x0v r => ∀ {nz wz S0 w0 Lr} [Gw nz wz] gx0 u2 (_ : Hp nz wz S0 w0 ((some gx0, .row 69 [.string x0v.s, .i x0v.at_, .i x0v.deep, u2] 4 0) :: Lr)) (_ : PtO kT72 S0 w0 u2 x0v.bad),
 Calls Tryd.prog 30 #[(pt gx0 0)] w0 (Rets (Post.z16 nz wz S0 w0 Lr gx0 r))

def LF.z17 : T68 → (T27 × T68) → Prop := fun x0v r => ∀ {nz wz S0 w0 Lr} [Gw nz wz] gx0 u2 (_ : Hp nz wz S0 w0 ((some gx0, .row 69 [.string x0v.s, .i x0v.at_, .i x0v.deep, u2] 4 0) :: Lr)) (_ : PtO kT72 S0 w0 u2 x0v.bad),
 Calls Tryd.prog 47 #[(pt gx0 0)] w0 (Rets (Post.z17 nz wz S0 w0 Lr gx0 r))

def L.z1b (gx0 : Nat) : T27 × (List T27) × T68 → (T27 × T68) → Prop := fun ⟨x2v, x3, e0v⟩ r => ∀ S1 w1, Ext S0 w0 S1 w1 → ∀ gx2 u6o u6p u6q u6r Gx3 nx3 cx3 uo u0 (_ : Hp nz wz S1 w1 ((some gx2, .row 28 (.i x2v.Kind :: U4 x2v.Set [.slice (Gp u6o) u6p u6q, .i x2v.Min, .i x2v.Max]) 8 0) :: (u6o, .row 28 u6r (u6q * kT27.size) 0) :: (Gx3, .row 28 uo (cx3 * kT27.size) 0) :: (some gx0, .row 69 [.string e0v.s, .i e0v.at_, .i e0v.deep, u0] 4 0) :: Lr)) (_ : x2v.Set.length = 4) (_ : Els kT27 S1 w1 u6r x2v.L) (_ : x2v.L.length = u6p) (_ : Els kT27 S1 w1 uo x3) (_ : x3.length = nx3) (_ : PtO kT72 S1 w1 u0 e0v.bad) (junk : Nat → Value),
 Goes Tryd.prog (base 47) J9u ⟨lfr 38 [(0, (pt gx0 0)), (2, (pt gx2 0)), (3, .slice (Gp Gx3) nx3 cx3)] junk, []⟩ w1 (Done Tryd.prog 47 (Rets (Post.z17 nz wz S0 w0 Lr gx0 r)))

def LL.z1b : T27 × (List T27) × T68 → (T27 × T68) → Prop := fun a r => ∀ {nz wz S0 w0 Lr} [Gw nz wz] (gx0 : Nat), L.z1b nz wz S0 w0 Lr gx0 a r

def L.z1c (gx0 : Nat) : T27 × (List T27) × Bool × T68 → (T27 × T68) → Prop := fun ⟨x2v, x3, x30, e0v⟩ r => ∀ S1 w1, Ext S0 w0 S1 w1 → ∀ gx2 u6o u6p u6q u6r Gx3 nx3 cx3 uo u0 (_ : Hp nz wz S1 w1 ((some gx2, .row 28 (.i x2v.Kind :: U4 x2v.Set [.slice (Gp u6o) u6p u6q, .i x2v.Min, .i x2v.Max]) 8 0) :: (u6o, .row 28 u6r (u6q * kT27.size) 0) :: (Gx3, .row 28 uo (cx3 * kT27.size) 0) :: (some gx0, .row 69 [.string e0v.s, .i e0v.at_, .i e0v.deep, u0] 4 0) :: Lr)) (_ : x2v.Set.length = 4) (_ : Els kT27 S1 w1 u6r x2v.L) (_ : x2v.L.length = u6p) (_ : Els kT27 S1 w1 uo x3) (_ : x3.length = nx3) (_ : PtO kT72 S1 w1 u0 e0v.bad) (junk : Nat → Value),
 Goes Tryd.prog (base 47) J9w ⟨lfr 38 [(0, (pt gx0 0)), (2, (pt gx2 0)), (3, .slice (Gp Gx3) nx3 cx3), (30, .bool x30)] junk, []⟩ w1 (Done Tryd.prog 47 (Rets (Post.z17 nz wz S0 w0 Lr gx0 r)))

def LL.z1c : T27 × (List T27) × Bool × T68 → (T27 × T68) → Prop := fun a r => ∀ {nz wz S0 w0 Lr} [Gw nz wz] (gx0 : Nat), L.z1c nz wz S0 w0 Lr gx0 a r

def LF.z18 : T68 → (T27 × T68) → Prop := fun x0v r => ∀ {nz wz S0 w0 Lr} [Gw nz wz] gx0 u2 (_ : Hp nz wz S0 w0 ((some gx0, .row 69 [.string x0v.s, .i x0v.at_, .i x0v.deep, u2] 4 0) :: Lr)) (_ : PtO kT72 S0 w0 u2 x0v.bad),
 Calls Tryd.prog 66 #[(pt gx0 0)] w0 (Rets (Post.z18 nz wz S0 w0 Lr gx0 r))

def LF.z19 : T68 → (T27 × T68) → Prop := fun x0v r => ∀ {nz wz S0 w0 Lr} [Gw nz wz] gx0 u2 (_ : Hp nz wz S0 w0 ((some gx0, .row 69 [.string x0v.s, .i x0v.at_, .i x0v.deep, u2] 4 0) :: Lr)) (_ : PtO kT72 S0 w0 u2 x0v.bad),
 Calls Tryd.prog 78 #[(pt gx0 0)] w0 (Rets (Post.z19 nz wz S0 w0 Lr gx0 r))

def L.z1d (gx0 : Nat) : T27 × Int × Bool × T68 → (T27 × T68) → Prop := fun ⟨x2v, x3, x6, e0v⟩ r => ∀ S1 w1, Ext S0 w0 S1 w1 → ∀ gx2 u6o u6p u6q u6r u0 (_ : Hp nz wz S1 w1 ((some gx2, .row 28 (.i x2v.Kind :: U4 x2v.Set [.slice (Gp u6o) u6p u6q, .i x2v.Min, .i x2v.Max]) 8 0) :: (u6o, .row 28 u6r (u6q * kT27.size) 0) :: (some gx0, .row 69 [.string e0v.s, .i e0v.at_, .i e0v.deep, u0] 4 0) :: Lr)) (_ : x2v.Set.length = 4) (_ : Els kT27 S1 w1 u6r x2v.L) (_ : x2v.L.length = u6p) (_ : PtO kT72 S1 w1 u0 e0v.bad) (junk : Nat → Value),
 Goes Tryd.prog (base 78) J9z ⟨lfr 73 [(0, (pt gx0 0)), (2, (pt gx2 0)), (3, .int .u8 x3), (6, .bool x6)] junk, []⟩ w1 (Done Tryd.prog 78 (Rets (Post.z19 nz wz S0 w0 Lr gx0 r)))

def LL.z1d : T27 × Int × Bool × T68 → (T27 × T68) → Prop := fun a r => ∀ {nz wz S0 w0 Lr} [Gw nz wz] (gx0 : Nat), L.z1d nz wz S0 w0 Lr gx0 a r

def L.z1e (gx0 : Nat) : T27 × Int × Bool × T68 → (T27 × T68) → Prop := fun ⟨x2v, x3, x24, e0v⟩ r => ∀ S1 w1, Ext S0 w0 S1 w1 → ∀ gx2 u6o u6p u6q u6r u0 (_ : Hp nz wz S1 w1 ((some gx2, .row 28 (.i x2v.Kind :: U4 x2v.Set [.slice (Gp u6o) u6p u6q, .i x2v.Min, .i x2v.Max]) 8 0) :: (u6o, .row 28 u6r (u6q * kT27.size) 0) :: (some gx0, .row 69 [.string e0v.s, .i e0v.at_, .i e0v.deep, u0] 4 0) :: Lr)) (_ : x2v.Set.length = 4) (_ : Els kT27 S1 w1 u6r x2v.L) (_ : x2v.L.length = u6p) (_ : PtO kT72 S1 w1 u0 e0v.bad) (junk : Nat → Value),
 Goes Tryd.prog (base 78) Ja0 ⟨lfr 73 [(0, (pt gx0 0)), (2, (pt gx2 0)), (3, .int .u8 x3), (24, .bool x24)] junk, []⟩ w1 (Done Tryd.prog 78 (Rets (Post.z19 nz wz S0 w0 Lr gx0 r)))

def LL.z1e : T27 × Int × Bool × T68 → (T27 × T68) → Prop := fun a r => ∀ {nz wz S0 w0 Lr} [Gw nz wz] (gx0 : Nat), L.z1e nz wz S0 w0 Lr gx0 a r

def LF.z1a : T68 → (T27 × T68) → Prop := fun x0v r => ∀ {nz wz S0 w0 Lr} [Gw nz wz] gx0 u2 (_ : Hp nz wz S0 w0 ((some gx0, .row 69 [.string x0v.s, .i x0v.at_, .i x0v.deep, u2] 4 0) :: Lr)) (_ : PtO kT72 S0 w0 u2 x0v.bad),
 Calls Tryd.prog 92 #[(pt gx0 0)] w0 (Rets (Post.z1a nz wz S0 w0 Lr gx0 r))

def L.z1f (gx0 : Nat) : T27 × T68 → (T27 × T68) → Prop := fun ⟨x2v, e0v⟩ r => ∀ S1 w1, Ext S0 w0 S1 w1 → ∀ gx2 u6o u6p u6q u6r u0 (_ : Hp nz wz S1 w1 ((some gx2, .row 28 (.i x2v.Kind :: U4 x2v.Set [.slice (Gp u6o) u6p u6q, .i x2v.Min, .i x2v.Max]) 8 0) :: (u6o, .row 28 u6r (u6q * kT27.size) 0) :: (some gx0, .row 69 [.string e0v.s, .i e0v.at_, .i e0v.deep, u0] 4 0) :: Lr)) (_ : x2v.Set.length = 4) (_ : Els kT27 S1 w1 u6r x2v.L) (_ : x2v.L.length = u6p) (_ : PtO kT72 S1 w1 u0 e0v.bad) (junk : Nat → Value),
 Goes Tryd.prog (base 92) Ja1 ⟨lfr 27 [(0, (pt gx0 0)), (2, (pt gx2 0))] junk, []⟩ w1 (Done Tryd.prog 92 (Rets (Post.z1a nz wz S0 w0 Lr gx0 r)))

def LL.z1f : T27 × T68 → (T27 × T68) → Prop := fun a r => ∀ {nz wz S0 w0 Lr} [Gw nz wz] (gx0 : Nat), L.z1f nz wz S0 w0 Lr gx0 a r

def L.z1g (gx0 : Nat) : T27 × (List T27) × T68 → (T27 × T68) → Prop := fun ⟨x2v, x3, e0v⟩ r => ∀ S1 w1, Ext S0 w0 S1 w1 → ∀ gx2 u6o u6p u6q u6r Gx3 nx3 cx3 uo u0 (_ : Hp nz wz S1 w1 ((some gx2, .row 28 (.i x2v.Kind :: U4 x2v.Set [.slice (Gp u6o) u6p u6q, .i x2v.Min, .i x2v.Max]) 8 0) :: (u6o, .row 28 u6r (u6q * kT27.size) 0) :: (Gx3, .row 28 uo (cx3 * kT27.size) 0) :: (some gx0, .row 69 [.string e0v.s, .i e0v.at_, .i e0v.deep, u0] 4 0) :: Lr)) (_ : x2v.Set.length = 4) (_ : Els kT27 S1 w1 u6r x2v.L) (_ : x2v.L.length = u6p) (_ : Els kT27 S1 w1 uo x3) (_ : x3.length = nx3) (_ : PtO kT72 S1 w1 u0 e0v.bad) (junk : Nat → Value),
 Goes Tryd.prog (base 30) Ja5 ⟨lfr 16 [(0, (pt gx0 0)), (2, (pt gx2 0)), (3, .slice (Gp Gx3) nx3 cx3)] junk, []⟩ w1 (Done Tryd.prog 30 (Rets (Post.z16 nz wz S0 w0 Lr gx0 r)))

def LL.z1g : T27 × (List T27) × T68 → (T27 × T68) → Prop := fun a r => ∀ {nz wz S0 w0 Lr} [Gw nz wz] (gx0 : Nat), L.z1g nz wz S0 w0 Lr gx0 a r

theorem W.z1h : (∀ a r, M.syntax_parser_alternation a = some r → LF.z16 a r) ∧ (∀ a r, M.syntax_parser_alternation_l0 a = some r → LL.z1g a r) ∧ (∀ a r, M.syntax_parser_sequence a = some r → LF.z17 a r) ∧ (∀ a r, M.syntax_parser_sequence_l0 a = some r → LL.z1b a r) ∧ (∀ a r, M.syntax_parser_sequence_l1 a = some r → LL.z1c a r) ∧ (∀ a r, M.syntax_parser_piece a = some r → LF.z18 a r) ∧ (∀ a r, M.syntax_parser_atom a = some r → LF.z19 a r) ∧ (∀ a r, M.syntax_parser_atom_l0 a = some r → LL.z1d a r) ∧ (∀ a r, M.syntax_parser_atom_l1 a = some r → LL.z1e a r) ∧ (∀ a r, M.syntax_parser_group a = some r → LF.z1a a r) ∧ (∀ a r, M.syntax_parser_group_l0 a = some r → LL.z1f a r) := by
 refine M.syntax_parser_alternation.mutual_partial_correctness LF.z16 LL.z1g LF.z17 LL.z1b LL.z1c LF.z18 LF.z19 LL.z1d LL.z1e LF.z1a LL.z1f ?_ ?_ ?_ ?_ ?_ ?_ ?_ ?_ ?_ ?_ ?_
 ·
  intro u6s rec_syntax_parser_sequence u6t ih_syntax_parser_sequence x0v r h nz wz S0 w0 Lr iG gx0 u2 p0 u3
  try dsimp only at h
  refine calls_of_goes (fn := Tryd.f30) (c := B30) (by kernel_rfl) (by kernel_rfl) 15 (by kernel_rfl) ?_
  refine Goes.jp 16 [(0, (pt gx0 0))] (fun junk => ?_)
  refine Goes.rn 2 [] Ja7 ?_
  refine Op_.alloc 28 2 0 (.agg #[.i 0, .u 0, .u 0, .u 0, .u 0, .slice none 0 0, .i 0, .i 0]) [.i 0, .u 0, .u 0, .u 0, .u 0, .slice none 0 0, .i 0, .i 0] p0 Goes.v (by kernel_rfl) (by kernel_rfl) ?_
  intro b2 w2 z2 p2
  refine Goes.rn 4 [(4, (pt gx0 0))] Ja9 ?_
  have p2 := p2.fr 1
  refine bind_some' h fun y4 e5 h => ?_
  refine Goes.cal (kc 47 [4] #[66]) 5 28 47 _ (ih_syntax_parser_sequence x0v y4 e5 gx0 u2 p2 (u3.ext z2)) ?_
  rintro _ w3 ⟨S3, u5v, u5w, u5x, u2o, rfl, z3, p3, u5y, u5z, rfl, u2p⟩
  have f7 : Els kT27 S3 w3 ((.i y4.1.Kind :: U4 y4.1.Set [.slice u5v y4.1.L.length u5x, .i y4.1.Min, .i y4.1.Max]) : List Value) [y4.1] := by exact (Els.cons (K := kT27) (vs := (.i y4.1.Kind :: U4 y4.1.Set [.slice u5v y4.1.L.length u5x, .i y4.1.Min, .i y4.1.Max])) (x := y4.1) (kT27_close ⟨[.i y4.1.Kind], (U4 y4.1.Set [.slice u5v y4.1.L.length u5x, .i y4.1.Min, .i y4.1.Max]), rfl, rfl, ⟨(U4 y4.1.Set []), [.slice u5v y4.1.L.length u5x, .i y4.1.Min, .i y4.1.Max], rfl, ⟨u5y, els_mk4 u5y⟩, ⟨[.slice u5v y4.1.L.length u5x], [.i y4.1.Min, .i y4.1.Max], rfl, ⟨_, _, rfl, u5z⟩, ⟨[.i y4.1.Min], [.i y4.1.Max], rfl, rfl, rfl⟩⟩⟩⟩) Els.nil)
  refine Op_.made (.buildSlice 26 1 #[(0, (.tmp 5))]) 6 26 (fun b => .slice (Gp (some b)) 1 1) 28 ((.i y4.1.Kind :: U4 y4.1.Set [.slice u5v y4.1.L.length u5x, .i y4.1.Min, .i y4.1.Max]) : List Value) p3 Goes.v (by kernel_rfl) ?_
  intro b6 w4 z4 p4
  have p4 : Hp nz wz S3 w4 (((some b6), .row 28 ((.i y4.1.Kind :: U4 y4.1.Set [.slice u5v y4.1.L.length u5x, .i y4.1.Min, .i y4.1.Max]) : List Value) (1 * kT27.size) 0) :: (some gx0, .row 69 [.string y4.2.s, .i y4.2.at_, .i y4.2.deep, u2o] 4 0) :: (some b2, .row 28 [.i 0, .u 0, .u 0, .u 0, .u 0, .slice none 0 0, .i 0, .i 0] 8 0) :: Lr) := p4
  refine Goes.rn 5 [(3, .slice (Gp (some b6)) 1 1)] Ja5 ?_
  have p4 : Hp nz wz S3 w4 ((none, .row 28 [] (0 * kT27.size) 0) :: ((some b6), .row 28 ((.i y4.1.Kind :: U4 y4.1.Set [.slice u5v y4.1.L.length u5x, .i y4.1.Min, .i y4.1.Max]) : List Value) (1 * kT27.size) 0) :: (some gx0, .row 69 [.string y4.2.s, .i y4.2.at_, .i y4.2.deep, u2o] 4 0) :: (some b2, .row 28 [.i 0, .u 0, .u 0, .u 0, .u 0, .slice none 0 0, .i 0, .i 0] 8 0) :: Lr) := p4.nilRow' 28
  have p4 := (((p4.fr 2).fr 2).fr 2).fr 3
  exact Goes.jp 16 [(0, (pt gx0 0)), (2, (pt b2 0)), (3, .slice (Gp (some b6)) 1 1)] (u6t _ _ h gx0 _ _ ((((Ext.refl S0 w0).trans z2).trans z3).trans z4) b2 none 0 0 [] (some b6) 1 1 ((.i y4.1.Kind :: U4 y4.1.Set [.slice u5v y4.1.L.length u5x, .i y4.1.Min, .i y4.1.Max]) : List Value) u2o p4 rfl (Els.nil (K := kT27)) rfl (f7.ext z4) rfl (u2p.ext z4))
 ·
  intro u6s rec_syntax_parser_sequence u6t ih_syntax_parser_sequence ⟨x2v, x3, e0v⟩ r h nz wz S0 w0 Lr iG gx0 S1 w1 hx gx2 u6o u6p u6q u6r Gx3 nx3 cx3 uo u0 p1 u6u u6v u6w fx3 lx3 u1 junk
  try dsimp only at h
  subst u6w
  subst lx3
  refine Goes.rn 4 [(7, (pt gx0 0))] Jac ?_
  have p1 := p1.fr 3
  refine bind_some' h fun y13 e14 h => ?_
  refine Goes.cal (.call { callee := .value (.func 48), args := #[(.tmp 7), (.const (.int .u8 124))], argTypes := #[66, 5] }) 8 4 48 _ (W.z3 e0v 124 y13 e14 gx0 u0 p1 u1) ?_
  rintro _ w5 ⟨S5, u3a, rfl, z5, p5, u3c⟩
  refine Goes.rn 1 [] Jab ?_
  refine ite_some h (fun h15 h => ?_) (fun h15 h => ?_)
  ·
   rw [h15]
   refine Goes.rn 6 [(9, .slice (Gp Gx3) x3.length cx3), (10, (pt gx0 0))] Jae ?_
   refine bind_some' h fun y16 e17 h => ?_
   refine Goes.cal (kc 47 [10] #[66]) 11 28 47 _ (ih_syntax_parser_sequence y13.2 y16 e17 gx0 u3a p5 u3c) ?_
   rintro _ w6 ⟨S6, u6x, u6y, u6z, u3y, rfl, z6, p6, u70, u71, rfl, u3z⟩
   have f19 : Els kT27 S6 w6 ((.i y16.1.Kind :: U4 y16.1.Set [.slice u6x y16.1.L.length u6z, .i y16.1.Min, .i y16.1.Max]) : List Value) [y16.1] := by exact (Els.cons (K := kT27) (vs := (.i y16.1.Kind :: U4 y16.1.Set [.slice u6x y16.1.L.length u6z, .i y16.1.Min, .i y16.1.Max])) (x := y16.1) (kT27_close ⟨[.i y16.1.Kind], (U4 y16.1.Set [.slice u6x y16.1.L.length u6z, .i y16.1.Min, .i y16.1.Max]), rfl, rfl, ⟨(U4 y16.1.Set []), [.slice u6x y16.1.L.length u6z, .i y16.1.Min, .i y16.1.Max], rfl, ⟨u70, els_mk4 u70⟩, ⟨[.slice u6x y16.1.L.length u6z], [.i y16.1.Min, .i y16.1.Max], rfl, ⟨_, _, rfl, u71⟩, ⟨[.i y16.1.Min], [.i y16.1.Max], rfl, rfl, rfl⟩⟩⟩⟩) Els.nil)
   refine Op_.made (.buildSlice 26 1 #[(0, (.tmp 11))]) 12 26 (fun b => .slice (Gp (some b)) 1 1) 28 ((.i y16.1.Kind :: U4 y16.1.Set [.slice u6x y16.1.L.length u6z, .i y16.1.Min, .i y16.1.Max]) : List Value) p6 Goes.v (by kernel_rfl) ?_
   intro b18 w7 z7 p7
   have p7 : Hp nz wz S6 w7 (((some b18), .row 28 ((.i y16.1.Kind :: U4 y16.1.Set [.slice u6x y16.1.L.length u6z, .i y16.1.Min, .i y16.1.Max]) : List Value) (1 * kT27.size) 0) :: (some gx0, .row 69 [.string y16.2.s, .i y16.2.at_, .i y16.2.deep, u3y] 4 0) :: (some gx2, .row 28 (.i x2v.Kind :: U4 x2v.Set [.slice (Gp u6o) x2v.L.length u6q, .i x2v.Min, .i x2v.Max]) 8 0) :: (u6o, .row 28 u6r (u6q * kT27.size) 0) :: (Gx3, .row 28 uo (cx3 * kT27.size) 0) :: Lr) := p7
   refine guard_some' h fun g24 h => ?_
   refine Op_.ap_n (K := kT27) 26 (.tmp 9) (.tmp 12) 13 26 28 4 (.agg #[.i 0, .u 0, .u 0, .u 0, .u 0, .slice none 0 0, .i 0, .i 0]) 80 x3.length cx3 1 x3 [y16.1] (x3 ++ [y16.1]) (Gp (some b18)) 1 rfl rfl rfl p7 rfl (fx3.ext ((z5.trans z6).trans z7)) Goes.v (by kernel_rfl) (by kernel_rfl) (by kernel_rfl) (by kernel_rfl) rfl (by decide) (f19.ext z7) (src_own p7 (q := 0) rfl) (by have := g24; omega) (by have := g24; omega) ?_
   intro w8 G25 c26 u72 z8 p8 f28
   refine Goes.rn 4 [(3, .slice (Gp G25) ((x3 ++ [y16.1]).length) c26)] Ja5 ?_
   have p8 := p8.dp 0
   have p8 := (((p8.fr 0).fr 3).fr 3).fr 3
   exact Goes.jp 16 [(0, (pt gx0 0)), (2, (pt gx2 0)), (3, .slice (Gp G25) ((x3 ++ [y16.1]).length) c26)] (u6t _ _ h gx0 _ _ ((((hx.trans z5).trans z6).trans z7).trans z8) gx2 u6o x2v.L.length u6q u6r G25 ((x3 ++ [y16.1]).length) c26 u72 u3y p8 u6u (u6v.ext (((z5.trans z6).trans z7).trans z8)) rfl f28 rfl (u3z.ext (z7.trans z8)))
  ·
   have u73 : y13.1 = false := by simpa using h15
   rw [u73]
   refine Goes.rn 5 [(14, .slice (Gp Gx3) x3.length cx3)] Jag ?_
   obtain ⟨S9, z9, p9, f29⟩ := p5.freezeRd 3 rfl (fx3.ext z5) (by decide)
   refine bind_some' h fun y30 e31 h => ?_
   refine Goes.cal (.call { callee := .value (.func 49), args := #[(.const (.int .i64 3)), (.tmp 14)], argTypes := #[3, 26] }) 15 28 49 _ (W.z15 3 x3 y30 e31 (Gp Gx3) x3.length cx3 p9 f29 rfl) ?_
   rintro _ w10 ⟨S10, u74, u75, u76, rfl, z10, p10, u77, u78, rfl⟩
   have p10 := p10.dp 3
   refine Op_.st 28 (.tmp 2) (.tmp 15) 0 1 gx2 0 (ag (.i y30.Kind :: U4 y30.Set [.slice u74 y30.L.length u76, .i y30.Min, .i y30.Max])) (.i y30.Kind :: U4 y30.Set [.slice u74 y30.L.length u76, .i y30.Min, .i y30.Max]) p10 rfl Goes.s (by kernel_rfl) (by kernel_rfl) (by kernel_rfl) (by kernel_rfl) (Nat.zero_le _) (by simp only [List.length_cons, List.length_nil]; omega) (by simp [Value.oneCell']) ?_
   intro w11 z11 p11
   have p11 : Hp nz wz S10 w11 ((some gx0, .row 69 [.string y13.2.s, .i y13.2.at_, .i y13.2.deep, u3a] 4 0) :: (some gx2, .row 28 (.i y30.Kind :: U4 y30.Set [.slice u74 y30.L.length u76, .i y30.Min, .i y30.Max]) 8 0) :: (u6o, .row 28 u6r (u6q * kT27.size) 0) :: Lr) := p11
   refine Goes.rn 1 [] Jaf ?_
   obtain rfl := Option.some.inj h
   have p11 := p11.dp 2
   have p11 := (p11.fr 0).fr 1
   exact Goes.ret (fn := Tryd.f30) (by kernel_rfl) (v := (ag (.i y30.Kind :: U4 y30.Set [.slice u74 y30.L.length u76, .i y30.Min, .i y30.Max]))) (results_n1 (fn := Tryd.f30) (a := .cell 2 28) (by kernel_rfl) (resV_cell ⟨gx2, 0, none⟩ (by kernel_rfl) (run_loadN (.i y30.Kind :: U4 y30.Set [.slice u74 y30.L.length u76, .i y30.Min, .i y30.Max]) (by kernel_rfl) (by kernel_rfl) (p11.pa 0 0)))) ⟨S10, u74, y30.L.length, u76, u3a, rfl, ((((hx.trans z5).trans z9).trans z10).trans z11), p11.drop, u77, (u78.ext z11), rfl, (u3c.ext ((z9.trans z10).trans z11))⟩
 ·
  intro u79 u7a x0v r h nz wz S0 w0 Lr iG gx0 u2 p0 u3
  try dsimp only at h
  refine calls_of_goes (fn := Tryd.f47) (c := B47) (by kernel_rfl) (by kernel_rfl) 37 (by kernel_rfl) ?_
  refine Goes.jp 38 [(0, (pt gx0 0))] (fun junk => ?_)
  refine Goes.rn 2 [] Jai ?_
  refine Op_.alloc 28 2 0 (.agg #[.i 0, .u 0, .u 0, .u 0, .u 0, .slice none 0 0, .i 0, .i 0]) [.i 0, .u 0, .u 0, .u 0, .u 0, .slice none 0 0, .i 0, .i 0] p0 Goes.v (by kernel_rfl) (by kernel_rfl) ?_
  intro b2 w2 z2 p2
  refine Goes.rn 8 [(3, .slice none 0 0)] J9u ?_
  have p2 : Hp nz wz S0 w2 ((none, .row 28 [] (0 * kT27.size) 0) :: (some b2, .row 28 [.i 0, .u 0, .u 0, .u 0, .u 0, .slice none 0 0, .i 0, .i 0] 8 0) :: (some gx0, .row 69 [.string x0v.s, .i x0v.at_, .i x0v.deep, u2] 4 0) :: Lr) := p2.nilRow' 28
  have p2 : Hp nz wz S0 w2 ((none, .row 28 [] (0 * kT27.size) 0) :: (none, .row 28 [] (0 * kT27.size) 0) :: (some b2, .row 28 [.i 0, .u 0, .u 0, .u 0, .u 0, .slice (Gp none) 0 0, .i 0, .i 0] 8 0) :: (some gx0, .row 69 [.string x0v.s, .i x0v.at_, .i x0v.deep, u2] 4 0) :: Lr) := p2.nilRow' 28
  have p2 := (((p2.fr 3).fr 1).fr 2).fr 3
  exact Goes.jp 38 [(0, (pt gx0 0)), (2, (pt b2 0)), (3, .slice (Gp none) 0 0)] (u7a _ _ h gx0 _ _ ((Ext.refl S0 w0).trans z2) b2 none 0 0 [] none 0 0 [] u2 p2 rfl (Els.nil (K := kT27)) rfl (Els.nil (K := kT27)) rfl (u3.ext z2))
 ·
  intro u7b u7c ⟨x2v, x3, e0v⟩ r h nz wz S0 w0 Lr iG gx0 S1 w1 hx gx2 u6o u6p u6q u6r Gx3 nx3 cx3 uo u0 p1 u6u u6v u6w fx3 lx3 u1 junk
  try dsimp only at h
  subst u6w
  subst lx3
  refine Goes.rn 2 [] Jaj ?_
  have z3 : Ext S1 w1 S1 (w1).drew := Ext.draw
  have p3 := p1.draw
  refine Goes.drawn (s := [19, 24]) (F := Fc S1 (w1).drew [(⟨gx0, 3, none⟩, u0), (⟨gx0, 1, none⟩, .i e0v.at_), (⟨gx0, 0, none⟩, .string e0v.s)]) 2 27 (by kernel_rfl) (by kernel_rfl) (by kernel_rfl) (by kernel_rfl) ?_
  generalize (w1).drew = w3 at z3 p3 ⊢
  refine AnyG.pu 0 (.move (.tmp 0)) 4 66 ((pt gx0 0)) (Fc.here (p3.cs [(3, 3, 1), (3, 1, 1), (3, 0, 1)])) ?_
  refine AnyG.pu 1 (.nilCheck (.tmp 4)) 5 0 ((pt gx0 0)) (Fc.here (p3.cs [(3, 3, 1), (3, 1, 1), (3, 0, 1)])) ?_
  refine AnyG.pu 2 (.fieldAddr 69 (.tmp 5) 3) 6 0 ((pt gx0 3)) (Fc.here (p3.cs [(3, 3, 1), (3, 1, 1), (3, 0, 1)])) ?_
  refine AnyG.ld1 (i := 3) 67 (.tmp 6) 7 67 ⟨gx0, 3, none⟩ (u0) (by kernel_rfl) (by kernel_rfl) (Fc.here (p3.cs [(3, 3, 1), (3, 1, 1), (3, 0, 1)])) (by kernel_rfl) (by kernel_rfl) (fun _ h => h.2.at_ 0 rfl) ?_
  refine let_some h fun v24 h9 h => ?_
  rcases v24 with _ | y10
  ·
   try dsimp only at h
   obtain rfl := PtO.nil (u1.ext z3) h9
   refine AnyG.pu 4 (.binOp .eql 67 (.tmp 7) (.const (.pointer none)) 67) 8 4 (.bool true) (Fc.here (p3.cs [(3, 3, 1), (3, 1, 1), (3, 0, 1)])) ?_
   refine AnyG.pu 5 (.move (.tmp 8)) 9 4 (.bool true) (Fc.here (p3.cs [(3, 3, 1), (3, 1, 1), (3, 0, 1)])) ?_
   refine AnyG.pu 6 (.move (.tmp 0)) 10 66 ((pt gx0 0)) (Fc.here (p3.cs [(3, 3, 1), (3, 1, 1), (3, 0, 1)])) ?_
   refine AnyG.pu 7 (.nilCheck (.tmp 10)) 11 0 ((pt gx0 0)) (Fc.here (p3.cs [(3, 3, 1), (3, 1, 1), (3, 0, 1)])) ?_
   refine AnyG.pu 8 (.fieldAddr 69 (.tmp 11) 1) 12 0 ((pt gx0 1)) (Fc.here (p3.cs [(3, 3, 1), (3, 1, 1), (3, 0, 1)])) ?_
   refine AnyG.ld1 (i := 9) 3 (.tmp 12) 13 3 ⟨gx0, 1, none⟩ (.i e0v.at_) (by kernel_rfl) (by kernel_rfl) (Fc.here (p3.cs [(3, 3, 1), (3, 1, 1), (3, 0, 1)])) (by kernel_rfl) (by kernel_rfl) (fun _ h => h.2.at_ 1 rfl) ?_
   refine AnyG.pu 10 (.move (.tmp 0)) 14 66 ((pt gx0 0)) (Fc.here (p3.cs [(3, 3, 1), (3, 1, 1), (3, 0, 1)])) ?_
   refine AnyG.pu 11 (.nilCheck (.tmp 14)) 15 0 ((pt gx0 0)) (Fc.here (p3.cs [(3, 3, 1), (3, 1, 1), (3, 0, 1)])) ?_
   refine AnyG.pu 12 (.fieldAddr 69 (.tmp 15) 0) 16 0 ((pt gx0 0)) (Fc.here (p3.cs [(3, 3, 1), (3, 1, 1), (3, 0, 1)])) ?_
   refine AnyG.ld1 (i := 13) 9 (.tmp 16) 17 9 ⟨gx0, 0, none⟩ (.string e0v.s) (by kernel_rfl) (by kernel_rfl) (Fc.here (p3.cs [(3, 3, 1), (3, 1, 1), (3, 0, 1)])) (by kernel_rfl) (by kernel_rfl) (fun _ h => h.2.at_ 2 rfl) ?_
   refine AnyG.pu 14 (.call { callee := .builtin .len, args := #[(.tmp 17)], argTypes := #[9] }) 18 3 (.i (e0v.s.size : Int)) (Fc.here (p3.cs [(3, 3, 1), (3, 1, 1), (3, 0, 1)])) ?_
   refine AnyG.pu 15 (.binOp .lss 3 (.tmp 13) (.tmp 18) 3) 19 4 (.bool (decide (e0v.at_ < (e0v.s.size : Int)))) (Fc.here (p3.cs [(3, 3, 1), (3, 1, 1), (3, 0, 1)])) ?_
   refine AnyG.pu 16 (.pick (.tmp 9) (.tmp 19) (.const (.bool false))) 20 4 (.bool (decide (e0v.at_ < (e0v.s.size : Int)))) (Fc.here (p3.cs [(3, 3, 1), (3, 1, 1), (3, 0, 1)])) ?_
   refine AnyG.pu 17 (.move (.tmp 20)) 21 4 (.bool (decide (e0v.at_ < (e0v.s.size : Int)))) (Fc.here (p3.cs [(3, 3, 1), (3, 1, 1), (3, 0, 1)])) ?_
   refine ite_some h (fun h15 h => ?_) (fun h15 h => ?_)
   ·
    rw [decide_eq_true h15]
    refine AnyG.pu 18 (.move (.tmp 0)) 22 66 ((pt gx0 0)) (Fc.here (p3.cs [(3, 3, 1), (3, 1, 1), (3, 0, 1)])) ?_
    have p3 := p3.fr 3
    refine bind_some' h fun y16 e17 h => ?_
    refine Op_.call (kc 65 [22] #[66]) 23 5 65 #[(pt gx0 0)] (AnyG.cs (i := 19) (by kernel_rfl) (by kernel_rfl)) (by kernel_rfl) (W.z0 (⟨e0v.s, e0v.at_, e0v.deep, none⟩ : T68) y16 e17 gx0 (.pointer none) p3 rfl) ?_
    rintro _ w4 ⟨S4, u28, rfl, z4, p4, u2b⟩
    refine AnyG.last [24] (Fc S4 w4 []) (by decide) ?_
    refine AnyG.pu 20 (.binOp .neq 5 (.tmp 23) (.const (.int .u8 124)) 5) 24 4 (.bool (!(decide (y16.1 = 124)))) (Fc.here trivial) ?_
    refine AnyG.pu 21 (.pick (.tmp 21) (.tmp 24) (.const (.bool false))) 25 4 (.bool (!(decide (y16.1 = 124)))) (Fc.here trivial) ?_
    refine AnyG.pu 22 (.move (.tmp 25)) 26 4 (.bool (!(decide (y16.1 = 124)))) (Fc.here trivial) ?_
    refine ite_some h (fun h18 h => ?_) (fun h18 h => ?_)
    ·
     rw [decide_eq_true h18]
     refine AnyG.s1 23 27 (Fc.here trivial) ?_
     refine AnyG.skipL1 (i := 24) 28 (by kernel_rfl) (by kernel_rfl) (.inl (by decide)) ?_
     refine AnyG.s1 25 29 (Fc.here trivial) ?_
     refine AnyG.pu 26 (.pick (.tmp 26) (.tmp 29) (.const (.bool false))) 30 4 (.bool false) (Fc.here trivial) ?_
     refine AnyG.done (by kernel_rfl) ?_ _
     have p4 := (((p4.fr 0).fr 3).fr 3).fr 3
     exact Goes.jp 38 [(0, (pt gx0 0)), (2, (pt gx2 0)), (3, .slice (Gp Gx3) x3.length cx3), (30, .bool false)] (u7c _ _ h gx0 _ _ ((hx.trans z3).trans z4) gx2 u6o x2v.L.length u6q u6r Gx3 x3.length cx3 uo u28 p4 u6u (u6v.ext (z3.trans z4)) rfl (fx3.ext (z3.trans z4)) rfl u2b)
    ·
     rw [decide_eq_false h18]
     refine AnyG.pu 23 (.move (.tmp 0)) 27 66 ((pt gx0 0)) (Fc.here trivial) ?_
     refine bind_some' h fun y22 e23 h => ?_
     refine Op_.call (kc 65 [27] #[66]) 28 5 65 #[(pt gx0 0)] (AnyG.cs (i := 24) (by kernel_rfl) (by kernel_rfl)) (by kernel_rfl) (W.z0 y16.2 y22 e23 gx0 u28 p4 u2b) ?_
     rintro _ w5 ⟨S5, u3a, rfl, z5, p5, u3c⟩
     refine AnyG.last [] (Fc S5 w5 []) (by decide) ?_
     refine AnyG.pu 25 (.binOp .neq 5 (.tmp 28) (.const (.int .u8 41)) 5) 29 4 (.bool (!(decide (y22.1 = 41)))) (Fc.here trivial) ?_
     refine AnyG.pu 26 (.pick (.tmp 26) (.tmp 29) (.const (.bool false))) 30 4 (.bool (!(decide (y22.1 = 41)))) (Fc.here trivial) ?_
     refine AnyG.done (by kernel_rfl) ?_ _
     have p5 := (((p5.fr 0).fr 3).fr 3).fr 3
     exact Goes.jp 38 [(0, (pt gx0 0)), (2, (pt gx2 0)), (3, .slice (Gp Gx3) x3.length cx3), (30, .bool (!(decide (y22.1 = 41))))] (u7c _ _ h gx0 _ _ (((hx.trans z3).trans z4).trans z5) gx2 u6o x2v.L.length u6q u6r Gx3 x3.length cx3 uo u3a p5 u6u (u6v.ext ((z3.trans z4).trans z5)) rfl (fx3.ext ((z3.trans z4).trans z5)) rfl u3c)
   ·
    rw [decide_eq_false h15]
    refine AnyG.s1 18 22 (Fc.here (p3.cs [(3, 3, 1), (3, 1, 1), (3, 0, 1)])) ?_
    refine AnyG.skipL1 (i := 19) 23 (by kernel_rfl) (by kernel_rfl) (.inl (by decide)) ?_
    refine AnyG.s1 20 24 (Fc.here (p3.cs [(3, 3, 1), (3, 1, 1), (3, 0, 1)])) ?_
    refine AnyG.pu 21 (.pick (.tmp 21) (.tmp 24) (.const (.bool false))) 25 4 (.bool false) (Fc.here (p3.cs [(3, 3, 1), (3, 1, 1), (3, 0, 1)])) ?_
    refine AnyG.pu 22 (.move (.tmp 25)) 26 4 (.bool false) (Fc.here (p3.cs [(3, 3, 1), (3, 1, 1), (3, 0, 1)])) ?_
    refine AnyG.s1 23 27 (Fc.here (p3.cs [(3, 3, 1), (3, 1, 1), (3, 0, 1)])) ?_
    refine AnyG.skipL1 (i := 24) 28 (by kernel_rfl) (by kernel_rfl) (.inl (by decide)) ?_
    refine AnyG.s1 25 29 (Fc.here (p3.cs [(3, 3, 1), (3, 1, 1), (3, 0, 1)])) ?_
    refine AnyG.pu 26 (.pick (.tmp 26) (.tmp 29) (.const (.bool false))) 30 4 (.bool false) (Fc.here (p3.cs [(3, 3, 1), (3, 1, 1), (3, 0, 1)])) ?_
    refine AnyG.done (by kernel_rfl) ?_ _
    exact Goes.jp 38 [(0, (pt gx0 0)), (2, (pt gx2 0)), (3, .slice (Gp Gx3) x3.length cx3), (30, .bool false)] (u7c _ _ h gx0 _ _ (hx.trans z3) gx2 u6o x2v.L.length u6q u6r Gx3 x3.length cx3 uo (.pointer none) p3 u6u (u6v.ext z3) rfl (fx3.ext z3) rfl rfl)
  ·
   try dsimp only at h
   obtain ⟨a12, _, rfl, -, f13, q14⟩ := PtO.got (u1.ext z3) h9
   obtain rfl := q14
   refine AnyG.pu 4 (.binOp .eql 67 (.tmp 7) (.const (.pointer none)) 67) 8 4 (.bool false) (Fc.here (p3.cs [(3, 3, 1), (3, 1, 1), (3, 0, 1)])) ?_
   refine AnyG.pu 5 (.move (.tmp 8)) 9 4 (.bool false) (Fc.here (p3.cs [(3, 3, 1), (3, 1, 1), (3, 0, 1)])) ?_
   refine AnyG.s1 6 10 (Fc.here (p3.cs [(3, 3, 1), (3, 1, 1), (3, 0, 1)])) ?_
   refine AnyG.s1 7 11 (Fc.here (p3.cs [(3, 3, 1), (3, 1, 1), (3, 0, 1)])) ?_
   refine AnyG.s1 8 12 (Fc.here (p3.cs [(3, 3, 1), (3, 1, 1), (3, 0, 1)])) ?_
   refine AnyG.s1 9 13 (Fc.here (p3.cs [(3, 3, 1), (3, 1, 1), (3, 0, 1)])) ?_
   refine AnyG.s1 10 14 (Fc.here (p3.cs [(3, 3, 1), (3, 1, 1), (3, 0, 1)])) ?_
   refine AnyG.s1 11 15 (Fc.here (p3.cs [(3, 3, 1), (3, 1, 1), (3, 0, 1)])) ?_
   refine AnyG.s1 12 16 (Fc.here (p3.cs [(3, 3, 1), (3, 1, 1), (3, 0, 1)])) ?_
   refine AnyG.s1 13 17 (Fc.here (p3.cs [(3, 3, 1), (3, 1, 1), (3, 0, 1)])) ?_
   refine AnyG.s1 14 18 (Fc.here (p3.cs [(3, 3, 1), (3, 1, 1), (3, 0, 1)])) ?_
   refine AnyG.s1 15 19 (Fc.here (p3.cs [(3, 3, 1), (3, 1, 1), (3, 0, 1)])) ?_
   refine AnyG.pu 16 (.pick (.tmp 9) (.tmp 19) (.const (.bool false))) 20 4 (.bool false) (Fc.here (p3.cs [(3, 3, 1), (3, 1, 1), (3, 0, 1)])) ?_
   refine AnyG.pu 17 (.move (.tmp 20)) 21 4 (.bool false) (Fc.here (p3.cs [(3, 3, 1), (3, 1, 1), (3, 0, 1)])) ?_
   refine AnyG.s1 18 22 (Fc.here (p3.cs [(3, 3, 1), (3, 1, 1), (3, 0, 1)])) ?_
   refine AnyG.skipL1 (i := 19) 23 (by kernel_rfl) (by kernel_rfl) (.inl (by decide)) ?_
   refine AnyG.s1 20 24 (Fc.here (p3.cs [(3, 3, 1), (3, 1, 1), (3, 0, 1)])) ?_
   refine AnyG.pu 21 (.pick (.tmp 21) (.tmp 24) (.const (.bool false))) 25 4 (.bool false) (Fc.here (p3.cs [(3, 3, 1), (3, 1, 1), (3, 0, 1)])) ?_
   refine AnyG.pu 22 (.move (.tmp 25)) 26 4 (.bool false) (Fc.here (p3.cs [(3, 3, 1), (3, 1, 1), (3, 0, 1)])) ?_
   refine AnyG.s1 23 27 (Fc.here (p3.cs [(3, 3, 1), (3, 1, 1), (3, 0, 1)])) ?_
   refine AnyG.skipL1 (i := 24) 28 (by kernel_rfl) (by kernel_rfl) (.inl (by decide)) ?_
   refine AnyG.s1 25 29 (Fc.here (p3.cs [(3, 3, 1), (3, 1, 1), (3, 0, 1)])) ?_
   refine AnyG.pu 26 (.pick (.tmp 26) (.tmp 29) (.const (.bool false))) 30 4 (.bool false) (Fc.here (p3.cs [(3, 3, 1), (3, 1, 1), (3, 0, 1)])) ?_
   refine AnyG.done (by kernel_rfl) ?_ _
   exact Goes.jp 38 [(0, (pt gx0 0)), (2, (pt gx2 0)), (3, .slice (Gp Gx3) x3.length cx3), (30, .bool false)] (u7c _ _ h gx0 _ _ (hx.trans z3) gx2 u6o x2v.L.length u6q u6r Gx3 x3.length cx3 uo (.pointer (some a12)) p3 u6u (u6v.ext z3) rfl (fx3.ext z3) rfl ⟨_, _, rfl, List.cons_ne_nil _ _, f13, rfl⟩)
 ·
  intro u79 rec_syntax_parser_piece u7a ih_syntax_parser_piece ⟨x2v, x3, x30, e0v⟩ r h nz wz S0 w0 Lr iG gx0 S1 w1 hx gx2 u6o u6p u6q u6r Gx3 nx3 cx3 uo u0 p1 u6u u6v u6w fx3 lx3 u1 junk
  try dsimp only at h
  subst u6w
  subst lx3
  refine ite_some h (fun h25 h => ?_) (fun h25 h => ?_)
  ·
   rw [h25]
   refine Goes.rn 6 [(31, .slice (Gp Gx3) x3.length cx3), (32, (pt gx0 0))] Jal ?_
   have p1 := p1.fr 3
   refine bind_some' h fun y26 e27 h => ?_
   refine Goes.cal (kc 66 [32] #[66]) 33 28 66 _ (ih_syntax_parser_piece e0v y26 e27 gx0 u0 p1 u1) ?_
   rintro _ w6 ⟨S6, u6x, u6y, u6z, u3y, rfl, z6, p6, u70, u71, rfl, u3z⟩
   have f29 : Els kT27 S6 w6 ((.i y26.1.Kind :: U4 y26.1.Set [.slice u6x y26.1.L.length u6z, .i y26.1.Min, .i y26.1.Max]) : List Value) [y26.1] := by exact (Els.cons (K := kT27) (vs := (.i y26.1.Kind :: U4 y26.1.Set [.slice u6x y26.1.L.length u6z, .i y26.1.Min, .i y26.1.Max])) (x := y26.1) (kT27_close ⟨[.i y26.1.Kind], (U4 y26.1.Set [.slice u6x y26.1.L.length u6z, .i y26.1.Min, .i y26.1.Max]), rfl, rfl, ⟨(U4 y26.1.Set []), [.slice u6x y26.1.L.length u6z, .i y26.1.Min, .i y26.1.Max], rfl, ⟨u70, els_mk4 u70⟩, ⟨[.slice u6x y26.1.L.length u6z], [.i y26.1.Min, .i y26.1.Max], rfl, ⟨_, _, rfl, u71⟩, ⟨[.i y26.1.Min], [.i y26.1.Max], rfl, rfl, rfl⟩⟩⟩⟩) Els.nil)
   refine Op_.made (.buildSlice 26 1 #[(0, (.tmp 33))]) 34 26 (fun b => .slice (Gp (some b)) 1 1) 28 ((.i y26.1.Kind :: U4 y26.1.Set [.slice u6x y26.1.L.length u6z, .i y26.1.Min, .i y26.1.Max]) : List Value) p6 Goes.v (by kernel_rfl) ?_
   intro b28 w7 z7 p7
   have p7 : Hp nz wz S6 w7 (((some b28), .row 28 ((.i y26.1.Kind :: U4 y26.1.Set [.slice u6x y26.1.L.length u6z, .i y26.1.Min, .i y26.1.Max]) : List Value) (1 * kT27.size) 0) :: (some gx0, .row 69 [.string y26.2.s, .i y26.2.at_, .i y26.2.deep, u3y] 4 0) :: (some gx2, .row 28 (.i x2v.Kind :: U4 x2v.Set [.slice (Gp u6o) x2v.L.length u6q, .i x2v.Min, .i x2v.Max]) 8 0) :: (u6o, .row 28 u6r (u6q * kT27.size) 0) :: (Gx3, .row 28 uo (cx3 * kT27.size) 0) :: Lr) := p7
   refine guard_some' h fun g34 h => ?_
   refine Op_.ap_n (K := kT27) 26 (.tmp 31) (.tmp 34) 35 26 28 4 (.agg #[.i 0, .u 0, .u 0, .u 0, .u 0, .slice none 0 0, .i 0, .i 0]) 80 x3.length cx3 1 x3 [y26.1] (x3 ++ [y26.1]) (Gp (some b28)) 1 rfl rfl rfl p7 rfl (fx3.ext (z6.trans z7)) Goes.v (by kernel_rfl) (by kernel_rfl) (by kernel_rfl) (by kernel_rfl) rfl (by decide) (f29.ext z7) (src_own p7 (q := 0) rfl) (by have := g34; omega) (by have := g34; omega) ?_
   intro w8 G35 c36 u7d z8 p8 f38
   refine Goes.rn 4 [(3, .slice (Gp G35) ((x3 ++ [y26.1]).length) c36)] J9u ?_
   have p8 := p8.dp 0
   have p8 := (((p8.fr 0).fr 3).fr 3).fr 3
   exact Goes.jp 38 [(0, (pt gx0 0)), (2, (pt gx2 0)), (3, .slice (Gp G35) ((x3 ++ [y26.1]).length) c36)] (u7a _ _ h gx0 _ _ (((hx.trans z6).trans z7).trans z8) gx2 u6o x2v.L.length u6q u6r G35 ((x3 ++ [y26.1]).length) c36 u7d u3y p8 u6u (u6v.ext ((z6.trans z7).trans z8)) rfl f38 rfl (u3z.ext (z7.trans z8)))
  ·
   have u7e : x30 = false := by simpa using h25
   rw [u7e]
   refine Goes.rn 5 [(36, .slice (Gp Gx3) x3.length cx3)] Jan ?_
   obtain ⟨S9, z9, p9, f39⟩ := p1.freezeRd 2 rfl fx3 (by decide)
   refine bind_some' h fun y40 e41 h => ?_
   refine Goes.cal (.call { callee := .value (.func 49), args := #[(.const (.int .i64 2)), (.tmp 36)], argTypes := #[3, 26] }) 37 28 49 _ (W.z15 2 x3 y40 e41 (Gp Gx3) x3.length cx3 p9 f39 rfl) ?_
   rintro _ w10 ⟨S10, u74, u75, u76, rfl, z10, p10, u77, u78, rfl⟩
   have p10 := p10.dp 2
   refine Op_.st 28 (.tmp 2) (.tmp 37) 0 0 gx2 0 (ag (.i y40.Kind :: U4 y40.Set [.slice u74 y40.L.length u76, .i y40.Min, .i y40.Max])) (.i y40.Kind :: U4 y40.Set [.slice u74 y40.L.length u76, .i y40.Min, .i y40.Max]) p10 rfl Goes.s (by kernel_rfl) (by kernel_rfl) (by kernel_rfl) (by kernel_rfl) (Nat.zero_le _) (by simp only [List.length_cons, List.length_nil]; omega) (by simp [Value.oneCell']) ?_
   intro w11 z11 p11
   have p11 : Hp nz wz S10 w11 ((some gx2, .row 28 (.i y40.Kind :: U4 y40.Set [.slice u74 y40.L.length u76, .i y40.Min, .i y40.Max]) 8 0) :: (u6o, .row 28 u6r (u6q * kT27.size) 0) :: (some gx0, .row 69 [.string e0v.s, .i e0v.at_, .i e0v.deep, u0] 4 0) :: Lr) := p11
   refine Goes.rn 1 [] Jam ?_
   obtain rfl := Option.some.inj h
   have p11 := p11.dp 1
   exact Goes.ret (fn := Tryd.f47) (by kernel_rfl) (v := (ag (.i y40.Kind :: U4 y40.Set [.slice u74 y40.L.length u76, .i y40.Min, .i y40.Max]))) (results_n1 (fn := Tryd.f47) (a := .cell 2 28) (by kernel_rfl) (resV_cell ⟨gx2, 0, none⟩ (by kernel_rfl) (run_loadN (.i y40.Kind :: U4 y40.Set [.slice u74 y40.L.length u76, .i y40.Min, .i y40.Max]) (by kernel_rfl) (by kernel_rfl) (p11.pa 0 0)))) ⟨S10, u74, y40.L.length, u76, u0, rfl, (((hx.trans z9).trans z10).trans z11), p11.drop, u77, (u78.ext z11), rfl, (u1.ext ((z9.trans z10).trans z11))⟩
 ·
  intro rec_syntax_parser_atom ih_syntax_parser_atom x0v r h nz wz S0 w0 Lr iG gx0 u2 p0 u3
  try dsimp only at h
  refine calls_of_goes (fn := Tryd.f66) (c := B66) (by kernel_rfl) (by kernel_rfl) 36 (by kernel_rfl) ?_
  refine Goes.jp 37 [(0, (pt gx0 0))] (fun junk => ?_)
  refine Goes.rn 2 [] Jap ?_
  refine Op_.alloc 28 2 0 (.agg #[.i 0, .u 0, .u 0, .u 0, .u 0, .slice none 0 0, .i 0, .i 0]) [.i 0, .u 0, .u 0, .u 0, .u 0, .slice none 0 0, .i 0, .i 0] p0 Goes.v (by kernel_rfl) (by kernel_rfl) ?_
  intro b2 w2 z2 p2
  refine Goes.rn 4 [(7, (pt gx0 0))] Jar ?_
  have p2 := p2.fr 1
  refine bind_some' h fun y4 e5 h => ?_
  refine Goes.cal (kc 78 [7] #[66]) 8 28 78 _ (ih_syntax_parser_atom x0v y4 e5 gx0 u2 p2 (u3.ext z2)) ?_
  rintro _ w3 ⟨S3, u5v, u5w, u5x, u2o, rfl, z3, p3, u5y, u5z, rfl, u2p⟩
  refine Op_.alloc 28 3 0 (.agg #[.i 0, .u 0, .u 0, .u 0, .u 0, .slice none 0 0, .i 0, .i 0]) [.i 0, .u 0, .u 0, .u 0, .u 0, .slice none 0 0, .i 0, .i 0] p3 Goes.v (by kernel_rfl) (by kernel_rfl) ?_
  intro b6 w4 z4 p4
  refine Op_.st 28 (.tmp 3) (.tmp 8) 0 0 b6 0 (ag (.i y4.1.Kind :: U4 y4.1.Set [.slice u5v y4.1.L.length u5x, .i y4.1.Min, .i y4.1.Max])) (.i y4.1.Kind :: U4 y4.1.Set [.slice u5v y4.1.L.length u5x, .i y4.1.Min, .i y4.1.Max]) p4 rfl Goes.s (by kernel_rfl) (by kernel_rfl) (by kernel_rfl) (by kernel_rfl) (Nat.zero_le _) (by simp only [List.length_cons, List.length_nil]; omega) (by simp [Value.oneCell']) ?_
  intro w5 z5 p5
  have p5 : Hp nz wz S3 w5 ((some b6, .row 28 (.i y4.1.Kind :: U4 y4.1.Set [.slice u5v y4.1.L.length u5x, .i y4.1.Min, .i y4.1.Max]) 8 0) :: (some gx0, .row 69 [.string y4.2.s, .i y4.2.at_, .i y4.2.deep, u2o] 4 0) :: (some b2, .row 28 [.i 0, .u 0, .u 0, .u 0, .u 0, .slice none 0 0, .i 0, .i 0] 8 0) :: Lr) := p5
  refine Goes.rn 12 [(4, .i 1), (5, .i 1), (9, (pt gx0 0)), (10, (pt gx0 0)), (11, (pt gx0 1))] Jau ?_
  refine Goes.ld 3 (.tmp 11) 12 3 ⟨gx0, 1, none⟩ (.i y4.2.at_) (p5.c 1 1) ?_
  refine Goes.rn 6 [(6, .i y4.2.at_), (15, (pt gx0 0))] Jax ?_
  have p5 := p5.fr 1
  refine bind_some' h fun y8 e9 h => ?_
  refine Goes.cal (.call { callee := .value (.func 48), args := #[(.tmp 15), (.const (.int .u8 42))], argTypes := #[66, 5] }) 16 4 48 _ (W.z3 y4.2 42 y8 e9 gx0 u2o p5 (u2p.ext (z4.trans z5))) ?_
  rintro _ w6 ⟨S6, u3y, rfl, z6, p6, u3z⟩
  refine Goes.rn 2 [(14, .bool y8.1)] Jaw ?_
  refine ite_some h (fun h10 h => ?_) (fun h10 h => ?_)
  ·
   rw [h10]
   refine Goes.rn 8 [(4, .i 0), (5, .i (-1))] Jaz ?_
   refine Goes.ldN 28 (.tmp 3) 32 28 ⟨b6, 0, none⟩ (.i y4.1.Kind :: U4 y4.1.Set [.slice u5v y4.1.L.length u5x, .i y4.1.Min, .i y4.1.Max]) (p6.pa 1 0) ?_
   have f12 : Els kT27 S6 w6 ((.i y4.1.Kind :: U4 y4.1.Set [.slice u5v y4.1.L.length u5x, .i y4.1.Min, .i y4.1.Max]) : List Value) [y4.1] := by exact (Els.cons (K := kT27) (vs := (.i y4.1.Kind :: U4 y4.1.Set [.slice u5v y4.1.L.length u5x, .i y4.1.Min, .i y4.1.Max])) (x := y4.1) (kT27_close ⟨[.i y4.1.Kind], (U4 y4.1.Set [.slice u5v y4.1.L.length u5x, .i y4.1.Min, .i y4.1.Max]), rfl, rfl, ⟨(U4 y4.1.Set []), [.slice u5v y4.1.L.length u5x, .i y4.1.Min, .i y4.1.Max], rfl, ⟨u5y, els_mk4 u5y⟩, ⟨[.slice u5v y4.1.L.length u5x], [.i y4.1.Min, .i y4.1.Max], rfl, ⟨_, _, rfl, (u5z.ext ((z4.trans z5).trans z6))⟩, ⟨[.i y4.1.Min], [.i y4.1.Max], rfl, rfl, rfl⟩⟩⟩⟩) Els.nil)
   refine Op_.made (.buildSlice 26 1 #[(0, (.tmp 32))]) 33 26 (fun b => .slice (Gp (some b)) 1 1) 28 ((.i y4.1.Kind :: U4 y4.1.Set [.slice u5v y4.1.L.length u5x, .i y4.1.Min, .i y4.1.Max]) : List Value) p6 Goes.v (by kernel_rfl) ?_
   intro b11 w7 z7 p7
   have p7 : Hp nz wz S6 w7 (((some b11), .row 28 ((.i y4.1.Kind :: U4 y4.1.Set [.slice u5v y4.1.L.length u5x, .i y4.1.Min, .i y4.1.Max]) : List Value) (1 * kT27.size) 0) :: (some gx0, .row 69 [.string y8.2.s, .i y8.2.at_, .i y8.2.deep, u3y] 4 0) :: (some b6, .row 28 (.i y4.1.Kind :: U4 y4.1.Set [.slice u5v y4.1.L.length u5x, .i y4.1.Min, .i y4.1.Max]) 8 0) :: (some b2, .row 28 [.i 0, .u 0, .u 0, .u 0, .u 0, .slice none 0 0, .i 0, .i 0] 8 0) :: Lr) := p7
   refine Goes.rn 3 [(34, .i 0), (35, .i (-1)), (36, .agg #[.i 4, .u 0, .u 0, .u 0, .u 0, .slice (Gp (some b11)) 1 1, .i 0, .i (-1)])] Jb0 ?_
   refine Op_.st 28 (.tmp 2) (.tmp 36) 0 3 b2 0 (.agg #[.i 4, .u 0, .u 0, .u 0, .u 0, .slice (Gp (some b11)) 1 1, .i 0, .i (-1)]) [.i 4, .u 0, .u 0, .u 0, .u 0, .slice (Gp (some b11)) 1 1, .i 0, .i (-1)] p7 rfl Goes.s (by kernel_rfl) (by kernel_rfl) (by kernel_rfl) (by kernel_rfl) (Nat.zero_le _) (by simp only [List.length_cons, List.length_nil]; omega) (by simp [Value.oneCell']) ?_
   intro w8 z8 p8
   have p8 : Hp nz wz S6 w8 (((some b11), .row 28 ((.i y4.1.Kind :: U4 y4.1.Set [.slice u5v y4.1.L.length u5x, .i y4.1.Min, .i y4.1.Max]) : List Value) (1 * kT27.size) 0) :: (some gx0, .row 69 [.string y8.2.s, .i y8.2.at_, .i y8.2.deep, u3y] 4 0) :: (some b6, .row 28 (.i y4.1.Kind :: U4 y4.1.Set [.slice u5v y4.1.L.length u5x, .i y4.1.Min, .i y4.1.Max]) 8 0) :: (some b2, .row 28 [.i 4, .u 0, .u 0, .u 0, .u 0, .slice (Gp (some b11)) 1 1, .i 0, .i (-1)] 8 0) :: Lr) := p8
   refine Goes.rn 1 [] Jay ?_
   obtain ⟨S9, z9, p9, f14⟩ := p8.freezeRd 0 rfl (f12.ext (z7.trans z8)) (by decide)
   obtain rfl := Option.some.inj h
   have p9 := (p9.dp 0).dp 1
   have p9 := (p9.fr 0).fr 1
   exact Goes.ret (fn := Tryd.f66) (by kernel_rfl) (v := .agg #[.i 4, .u 0, .u 0, .u 0, .u 0, .slice (Gp (some b11)) 1 1, .i 0, .i (-1)]) (results_n1 (fn := Tryd.f66) (a := .cell 2 28) (by kernel_rfl) (resV_cell ⟨b2, 0, none⟩ (by kernel_rfl) (run_loadN [.i 4, .u 0, .u 0, .u 0, .u 0, .slice (Gp (some b11)) 1 1, .i 0, .i (-1)] (by kernel_rfl) (by kernel_rfl) (p9.pa 0 0)))) ⟨S9, (Gp (some b11)), 1, 1, u3y, rfl, (((((((((Ext.refl S0 w0).trans z2).trans z3).trans z4).trans z5).trans z6).trans z7).trans z8).trans z9), p9.drop, rfl, f14, rfl, (u3z.ext ((z7.trans z8).trans z9))⟩
  ·
   have u7f : y8.1 = false := by simpa using h10
   rw [u7f]
   refine Goes.rn 4 [(18, (pt gx0 0))] Jb2 ?_
   refine bind_some' h fun y15 e16 h => ?_
   refine Goes.cal (.call { callee := .value (.func 48), args := #[(.tmp 18), (.const (.int .u8 43))], argTypes := #[66, 5] }) 19 4 48 _ (W.z3 y8.2 43 y15 e16 gx0 u3y p6 u3z) ?_
   rintro _ w10 ⟨S10, u2u, rfl, z10, p10, u2v⟩
   refine Goes.rn 2 [(17, .bool y15.1)] Jb1 ?_
   refine ite_some h (fun h17 h => ?_) (fun h17 h => ?_)
   ·
    rw [h17]
    refine Goes.rn 7 [(5, .i (-1))] Jaz ?_
    refine Goes.ldN 28 (.tmp 3) 32 28 ⟨b6, 0, none⟩ (.i y4.1.Kind :: U4 y4.1.Set [.slice u5v y4.1.L.length u5x, .i y4.1.Min, .i y4.1.Max]) (p10.pa 1 0) ?_
    have f19 : Els kT27 S10 w10 ((.i y4.1.Kind :: U4 y4.1.Set [.slice u5v y4.1.L.length u5x, .i y4.1.Min, .i y4.1.Max]) : List Value) [y4.1] := by exact (Els.cons (K := kT27) (vs := (.i y4.1.Kind :: U4 y4.1.Set [.slice u5v y4.1.L.length u5x, .i y4.1.Min, .i y4.1.Max])) (x := y4.1) (kT27_close ⟨[.i y4.1.Kind], (U4 y4.1.Set [.slice u5v y4.1.L.length u5x, .i y4.1.Min, .i y4.1.Max]), rfl, rfl, ⟨(U4 y4.1.Set []), [.slice u5v y4.1.L.length u5x, .i y4.1.Min, .i y4.1.Max], rfl, ⟨u5y, els_mk4 u5y⟩, ⟨[.slice u5v y4.1.L.length u5x], [.i y4.1.Min, .i y4.1.Max], rfl, ⟨_, _, rfl, (u5z.ext (((z4.trans z5).trans z6).trans z10))⟩, ⟨[.i y4.1.Min], [.i y4.1.Max], rfl, rfl, rfl⟩⟩⟩⟩) Els.nil)
    refine Op_.made (.buildSlice 26 1 #[(0, (.tmp 32))]) 33 26 (fun b => .slice (Gp (some b)) 1 1) 28 ((.i y4.1.Kind :: U4 y4.1.Set [.slice u5v y4.1.L.length u5x, .i y4.1.Min, .i y4.1.Max]) : List Value) p10 Goes.v (by kernel_rfl) ?_
    intro b18 w11 z11 p11
    have p11 : Hp nz wz S10 w11 (((some b18), .row 28 ((.i y4.1.Kind :: U4 y4.1.Set [.slice u5v y4.1.L.length u5x, .i y4.1.Min, .i y4.1.Max]) : List Value) (1 * kT27.size) 0) :: (some gx0, .row 69 [.string y15.2.s, .i y15.2.at_, .i y15.2.deep, u2u] 4 0) :: (some b6, .row 28 (.i y4.1.Kind :: U4 y4.1.Set [.slice u5v y4.1.L.length u5x, .i y4.1.Min, .i y4.1.Max]) 8 0) :: (some b2, .row 28 [.i 0, .u 0, .u 0, .u 0, .u 0, .slice none 0 0, .i 0, .i 0] 8 0) :: Lr) := p11
    refine Goes.rn 3 [(34, .i 1), (35, .i (-1)), (36, .agg #[.i 4, .u 0, .u 0, .u 0, .u 0, .slice (Gp (some b18)) 1 1, .i 1, .i (-1)])] Jb0 ?_
    refine Op_.st 28 (.tmp 2) (.tmp 36) 0 3 b2 0 (.agg #[.i 4, .u 0, .u 0, .u 0, .u 0, .slice (Gp (some b18)) 1 1, .i 1, .i (-1)]) [.i 4, .u 0, .u 0, .u 0, .u 0, .slice (Gp (some b18)) 1 1, .i 1, .i (-1)] p11 rfl Goes.s (by kernel_rfl) (by kernel_rfl) (by kernel_rfl) (by kernel_rfl) (Nat.zero_le _) (by simp only [List.length_cons, List.length_nil]; omega) (by simp [Value.oneCell']) ?_
    intro w12 z12 p12
    have p12 : Hp nz wz S10 w12 (((some b18), .row 28 ((.i y4.1.Kind :: U4 y4.1.Set [.slice u5v y4.1.L.length u5x, .i y4.1.Min, .i y4.1.Max]) : List Value) (1 * kT27.size) 0) :: (some gx0, .row 69 [.string y15.2.s, .i y15.2.at_, .i y15.2.deep, u2u] 4 0) :: (some b6, .row 28 (.i y4.1.Kind :: U4 y4.1.Set [.slice u5v y4.1.L.length u5x, .i y4.1.Min, .i y4.1.Max]) 8 0) :: (some b2, .row 28 [.i 4, .u 0, .u 0, .u 0, .u 0, .slice (Gp (some b18)) 1 1, .i 1, .i (-1)] 8 0) :: Lr) := p12
    refine Goes.rn 1 [] Jay ?_
    obtain ⟨S13, z13, p13, f21⟩ := p12.freezeRd 0 rfl (f19.ext (z11.trans z12)) (by decide)
    obtain rfl := Option.some.inj h
    have p13 := (p13.dp 0).dp 1
    have p13 := (p13.fr 0).fr 1
    exact Goes.ret (fn := Tryd.f66) (by kernel_rfl) (v := .agg #[.i 4, .u 0, .u 0, .u 0, .u 0, .slice (Gp (some b18)) 1 1, .i 1, .i (-1)]) (results_n1 (fn := Tryd.f66) (a := .cell 2 28) (by kernel_rfl) (resV_cell ⟨b2, 0, none⟩ (by kernel_rfl) (run_loadN [.i 4, .u 0, .u 0, .u 0, .u 0, .slice (Gp (some b18)) 1 1, .i 1, .i (-1)] (by kernel_rfl) (by kernel_rfl) (p13.pa 0 0)))) ⟨S13, (Gp (some b18)), 1, 1, u2u, rfl, ((((((((((Ext.refl S0 w0).trans z2).trans z3).trans z4).trans z5).trans z6).trans z10).trans z11).trans z12).trans z13), p13.drop, rfl, f21, rfl, (u2v.ext ((z11.trans z12).trans z13))⟩
   ·
    have u7g : y15.1 = false := by simpa using h17
    rw [u7g]
    refine Goes.rn 4 [(21, (pt gx0 0))] Jb4 ?_
    refine bind_some' h fun y22 e23 h => ?_
    refine Goes.cal (.call { callee := .value (.func 48), args := #[(.tmp 21), (.const (.int .u8 63))], argTypes := #[66, 5] }) 22 4 48 _ (W.z3 y15.2 63 y22 e23 gx0 u2u p10 u2v) ?_
    rintro _ w14 ⟨S14, u7h, rfl, z14, p14, u7i⟩
    refine Goes.rn 2 [(20, .bool y22.1)] Jb3 ?_
    refine ite_some h (fun h24 h => ?_) (fun h24 h => ?_)
    ·
     rw [h24]
     refine Goes.rn 7 [(4, .i 0)] Jaz ?_
     refine Goes.ldN 28 (.tmp 3) 32 28 ⟨b6, 0, none⟩ (.i y4.1.Kind :: U4 y4.1.Set [.slice u5v y4.1.L.length u5x, .i y4.1.Min, .i y4.1.Max]) (p14.pa 1 0) ?_
     have f26 : Els kT27 S14 w14 ((.i y4.1.Kind :: U4 y4.1.Set [.slice u5v y4.1.L.length u5x, .i y4.1.Min, .i y4.1.Max]) : List Value) [y4.1] := by exact (Els.cons (K := kT27) (vs := (.i y4.1.Kind :: U4 y4.1.Set [.slice u5v y4.1.L.length u5x, .i y4.1.Min, .i y4.1.Max])) (x := y4.1) (kT27_close ⟨[.i y4.1.Kind], (U4 y4.1.Set [.slice u5v y4.1.L.length u5x, .i y4.1.Min, .i y4.1.Max]), rfl, rfl, ⟨(U4 y4.1.Set []), [.slice u5v y4.1.L.length u5x, .i y4.1.Min, .i y4.1.Max], rfl, ⟨u5y, els_mk4 u5y⟩, ⟨[.slice u5v y4.1.L.length u5x], [.i y4.1.Min, .i y4.1.Max], rfl, ⟨_, _, rfl, (u5z.ext ((((z4.trans z5).trans z6).trans z10).trans z14))⟩, ⟨[.i y4.1.Min], [.i y4.1.Max], rfl, rfl, rfl⟩⟩⟩⟩) Els.nil)
     refine Op_.made (.buildSlice 26 1 #[(0, (.tmp 32))]) 33 26 (fun b => .slice (Gp (some b)) 1 1) 28 ((.i y4.1.Kind :: U4 y4.1.Set [.slice u5v y4.1.L.length u5x, .i y4.1.Min, .i y4.1.Max]) : List Value) p14 Goes.v (by kernel_rfl) ?_
     intro b25 w15 z15 p15
     have p15 : Hp nz wz S14 w15 (((some b25), .row 28 ((.i y4.1.Kind :: U4 y4.1.Set [.slice u5v y4.1.L.length u5x, .i y4.1.Min, .i y4.1.Max]) : List Value) (1 * kT27.size) 0) :: (some gx0, .row 69 [.string y22.2.s, .i y22.2.at_, .i y22.2.deep, u7h] 4 0) :: (some b6, .row 28 (.i y4.1.Kind :: U4 y4.1.Set [.slice u5v y4.1.L.length u5x, .i y4.1.Min, .i y4.1.Max]) 8 0) :: (some b2, .row 28 [.i 0, .u 0, .u 0, .u 0, .u 0, .slice none 0 0, .i 0, .i 0] 8 0) :: Lr) := p15
     refine Goes.rn 3 [(34, .i 0), (35, .i 1), (36, .agg #[.i 4, .u 0, .u 0, .u 0, .u 0, .slice (Gp (some b25)) 1 1, .i 0, .i 1])] Jb0 ?_
     refine Op_.st 28 (.tmp 2) (.tmp 36) 0 3 b2 0 (.agg #[.i 4, .u 0, .u 0, .u 0, .u 0, .slice (Gp (some b25)) 1 1, .i 0, .i 1]) [.i 4, .u 0, .u 0, .u 0, .u 0, .slice (Gp (some b25)) 1 1, .i 0, .i 1] p15 rfl Goes.s (by kernel_rfl) (by kernel_rfl) (by kernel_rfl) (by kernel_rfl) (Nat.zero_le _) (by simp only [List.length_cons, List.length_nil]; omega) (by simp [Value.oneCell']) ?_
     intro w16 z16 p16
     have p16 : Hp nz wz S14 w16 (((some b25), .row 28 ((.i y4.1.Kind :: U4 y4.1.Set [.slice u5v y4.1.L.length u5x, .i y4.1.Min, .i y4.1.Max]) : List Value) (1 * kT27.size) 0) :: (some gx0, .row 69 [.string y22.2.s, .i y22.2.at_, .i y22.2.deep, u7h] 4 0) :: (some b6, .row 28 (.i y4.1.Kind :: U4 y4.1.Set [.slice u5v y4.1.L.length u5x, .i y4.1.Min, .i y4.1.Max]) 8 0) :: (some b2, .row 28 [.i 4, .u 0, .u 0, .u 0, .u 0, .slice (Gp (some b25)) 1 1, .i 0, .i 1] 8 0) :: Lr) := p16
     refine Goes.rn 1 [] Jay ?_
     obtain ⟨S17, z17, p17, f28⟩ := p16.freezeRd 0 rfl (f26.ext (z15.trans z16)) (by decide)
     obtain rfl := Option.some.inj h
     have p17 := (p17.dp 0).dp 1
     have p17 := (p17.fr 0).fr 1
     exact Goes.ret (fn := Tryd.f66) (by kernel_rfl) (v := .agg #[.i 4, .u 0, .u 0, .u 0, .u 0, .slice (Gp (some b25)) 1 1, .i 0, .i 1]) (results_n1 (fn := Tryd.f66) (a := .cell 2 28) (by kernel_rfl) (resV_cell ⟨b2, 0, none⟩ (by kernel_rfl) (run_loadN [.i 4, .u 0, .u 0, .u 0, .u 0, .slice (Gp (some b25)) 1 1, .i 0, .i 1] (by kernel_rfl) (by kernel_rfl) (p17.pa 0 0)))) ⟨S17, (Gp (some b25)), 1, 1, u7h, rfl, (((((((((((Ext.refl S0 w0).trans z2).trans z3).trans z4).trans z5).trans z6).trans z10).trans z14).trans z15).trans z16).trans z17), p17.drop, rfl, f28, rfl, (u7i.ext ((z15.trans z16).trans z17))⟩
    ·
     have u7j : y22.1 = false := by simpa using h24
     rw [u7j]
     refine Goes.rn 4 [(24, (pt gx0 0))] Jb6 ?_
     refine bind_some' h fun y29 e30 h => ?_
     refine Goes.cal (.call { callee := .value (.func 48), args := #[(.tmp 24), (.const (.int .u8 123))], argTypes := #[66, 5] }) 25 4 48 _ (W.z3 y22.2 123 y29 e30 gx0 u7h p14 u7i) ?_
     rintro _ w18 ⟨S18, u7k, rfl, z18, p18, u7l⟩
     refine Goes.rn 2 [(23, .bool y29.1)] Jb5 ?_
     refine ite_some h (fun h31 h => ?_) (fun h31 h => ?_)
     ·
      rw [h31]
      refine Goes.rn 4 [(27, (pt gx0 0)), (28, .i y4.2.at_)] Jb7 ?_
      refine bind_some' h fun y32 e33 h => ?_
      refine Goes.cal (kc 79 [27, 28] #[66, 3]) 29 104 79 _ (W.z12 y29.2 y4.2.at_ y32 e33 gx0 u7k p18 u7l) ?_
      rintro _ w19 ⟨S19, u3t, rfl, z19, p19, u3w⟩
      refine Goes.rn 9 [(26, .tuple #[.i y32.1, .i y32.2.1]), (30, .i y32.1), (31, .i y32.2.1), (4, .i y32.1), (5, .i y32.2.1)] Jaz ?_
      refine Goes.ldN 28 (.tmp 3) 32 28 ⟨b6, 0, none⟩ (.i y4.1.Kind :: U4 y4.1.Set [.slice u5v y4.1.L.length u5x, .i y4.1.Min, .i y4.1.Max]) (p19.pa 1 0) ?_
      have f35 : Els kT27 S19 w19 ((.i y4.1.Kind :: U4 y4.1.Set [.slice u5v y4.1.L.length u5x, .i y4.1.Min, .i y4.1.Max]) : List Value) [y4.1] := by exact (Els.cons (K := kT27) (vs := (.i y4.1.Kind :: U4 y4.1.Set [.slice u5v y4.1.L.length u5x, .i y4.1.Min, .i y4.1.Max])) (x := y4.1) (kT27_close ⟨[.i y4.1.Kind], (U4 y4.1.Set [.slice u5v y4.1.L.length u5x, .i y4.1.Min, .i y4.1.Max]), rfl, rfl, ⟨(U4 y4.1.Set []), [.slice u5v y4.1.L.length u5x, .i y4.1.Min, .i y4.1.Max], rfl, ⟨u5y, els_mk4 u5y⟩, ⟨[.slice u5v y4.1.L.length u5x], [.i y4.1.Min, .i y4.1.Max], rfl, ⟨_, _, rfl, (u5z.ext ((((((z4.trans z5).trans z6).trans z10).trans z14).trans z18).trans z19))⟩, ⟨[.i y4.1.Min], [.i y4.1.Max], rfl, rfl, rfl⟩⟩⟩⟩) Els.nil)
      refine Op_.made (.buildSlice 26 1 #[(0, (.tmp 32))]) 33 26 (fun b => .slice (Gp (some b)) 1 1) 28 ((.i y4.1.Kind :: U4 y4.1.Set [.slice u5v y4.1.L.length u5x, .i y4.1.Min, .i y4.1.Max]) : List Value) p19 Goes.v (by kernel_rfl) ?_
      intro b34 w20 z20 p20
      have p20 : Hp nz wz S19 w20 (((some b34), .row 28 ((.i y4.1.Kind :: U4 y4.1.Set [.slice u5v y4.1.L.length u5x, .i y4.1.Min, .i y4.1.Max]) : List Value) (1 * kT27.size) 0) :: (some gx0, .row 69 [.string y32.2.2.s, .i y32.2.2.at_, .i y32.2.2.deep, u3t] 4 0) :: (some b6, .row 28 (.i y4.1.Kind :: U4 y4.1.Set [.slice u5v y4.1.L.length u5x, .i y4.1.Min, .i y4.1.Max]) 8 0) :: (some b2, .row 28 [.i 0, .u 0, .u 0, .u 0, .u 0, .slice none 0 0, .i 0, .i 0] 8 0) :: Lr) := p20
      refine Goes.rn 3 [(34, .i y32.1), (35, .i y32.2.1), (36, .agg #[.i 4, .u 0, .u 0, .u 0, .u 0, .slice (Gp (some b34)) 1 1, .i y32.1, .i y32.2.1])] Jb0 ?_
      refine Op_.st 28 (.tmp 2) (.tmp 36) 0 3 b2 0 (.agg #[.i 4, .u 0, .u 0, .u 0, .u 0, .slice (Gp (some b34)) 1 1, .i y32.1, .i y32.2.1]) [.i 4, .u 0, .u 0, .u 0, .u 0, .slice (Gp (some b34)) 1 1, .i y32.1, .i y32.2.1] p20 rfl Goes.s (by kernel_rfl) (by kernel_rfl) (by kernel_rfl) (by kernel_rfl) (Nat.zero_le _) (by simp only [List.length_cons, List.length_nil]; omega) (by simp [Value.oneCell']) ?_
      intro w21 z21 p21
      have p21 : Hp nz wz S19 w21 (((some b34), .row 28 ((.i y4.1.Kind :: U4 y4.1.Set [.slice u5v y4.1.L.length u5x, .i y4.1.Min, .i y4.1.Max]) : List Value) (1 * kT27.size) 0) :: (some gx0, .row 69 [.string y32.2.2.s, .i y32.2.2.at_, .i y32.2.2.deep, u3t] 4 0) :: (some b6, .row 28 (.i y4.1.Kind :: U4 y4.1.Set [.slice u5v y4.1.L.length u5x, .i y4.1.Min, .i y4.1.Max]) 8 0) :: (some b2, .row 28 [.i 4, .u 0, .u 0, .u 0, .u 0, .slice (Gp (some b34)) 1 1, .i y32.1, .i y32.2.1] 8 0) :: Lr) := p21
      refine Goes.rn 1 [] Jay ?_
      obtain ⟨S22, z22, p22, f37⟩ := p21.freezeRd 0 rfl (f35.ext (z20.trans z21)) (by decide)
      obtain rfl := Option.some.inj h
      have p22 := (p22.dp 0).dp 1
      have p22 := (p22.fr 0).fr 1
      exact Goes.ret (fn := Tryd.f66) (by kernel_rfl) (v := .agg #[.i 4, .u 0, .u 0, .u 0, .u 0, .slice (Gp (some b34)) 1 1, .i y32.1, .i y32.2.1]) (results_n1 (fn := Tryd.f66) (a := .cell 2 28) (by kernel_rfl) (resV_cell ⟨b2, 0, none⟩ (by kernel_rfl) (run_loadN [.i 4, .u 0, .u 0, .u 0, .u 0, .slice (Gp (some b34)) 1 1, .i y32.1, .i y32.2.1] (by kernel_rfl) (by kernel_rfl) (p22.pa 0 0)))) ⟨S22, (Gp (some b34)), 1, 1, u3t, rfl, (((((((((((((Ext.refl S0 w0).trans z2).trans z3).trans z4).trans z5).trans z6).trans z10).trans z14).trans z18).trans z19).trans z20).trans z21).trans z22), p22.drop, rfl, f37, rfl, (u3w.ext ((z20.trans z21).trans z22))⟩
     ·
      have u7m : y29.1 = false := by simpa using h31
      rw [u7m]
      refine Goes.rn 3 [] Jb9 ?_
      refine Goes.ldN 28 (.tmp 3) 13 28 ⟨b6, 0, none⟩ (.i y4.1.Kind :: U4 y4.1.Set [.slice u5v y4.1.L.length u5x, .i y4.1.Min, .i y4.1.Max]) (p18.pa 1 0) ?_
      refine Op_.st 28 (.tmp 2) (.tmp 13) 0 2 b2 0 (ag (.i y4.1.Kind :: U4 y4.1.Set [.slice u5v y4.1.L.length u5x, .i y4.1.Min, .i y4.1.Max])) (.i y4.1.Kind :: U4 y4.1.Set [.slice u5v y4.1.L.length u5x, .i y4.1.Min, .i y4.1.Max]) p18 rfl Goes.s (by kernel_rfl) (by kernel_rfl) (by kernel_rfl) (by kernel_rfl) (Nat.zero_le _) (by simp only [List.length_cons, List.length_nil]; omega) (by simp [Value.oneCell']) ?_
      intro w23 z23 p23
      have p23 : Hp nz wz S18 w23 ((some gx0, .row 69 [.string y29.2.s, .i y29.2.at_, .i y29.2.deep, u7k] 4 0) :: (some b6, .row 28 (.i y4.1.Kind :: U4 y4.1.Set [.slice u5v y4.1.L.length u5x, .i y4.1.Min, .i y4.1.Max]) 8 0) :: (some b2, .row 28 (.i y4.1.Kind :: U4 y4.1.Set [.slice u5v y4.1.L.length u5x, .i y4.1.Min, .i y4.1.Max]) 8 0) :: Lr) := p23
      refine Goes.rn 1 [] Jb8 ?_
      obtain rfl := Option.some.inj h
      have p23 := p23.dp 1
      have p23 := (p23.fr 0).fr 1
      exact Goes.ret (fn := Tryd.f66) (by kernel_rfl) (v := (ag (.i y4.1.Kind :: U4 y4.1.Set [.slice u5v y4.1.L.length u5x, .i y4.1.Min, .i y4.1.Max]))) (results_n1 (fn := Tryd.f66) (a := .cell 2 28) (by kernel_rfl) (resV_cell ⟨b2, 0, none⟩ (by kernel_rfl) (run_loadN (.i y4.1.Kind :: U4 y4.1.Set [.slice u5v y4.1.L.length u5x, .i y4.1.Min, .i y4.1.Max]) (by kernel_rfl) (by kernel_rfl) (p23.pa 0 0)))) ⟨S18, u5v, y4.1.L.length, u5x, u7k, rfl, ((((((((((Ext.refl S0 w0).trans z2).trans z3).trans z4).trans z5).trans z6).trans z10).trans z14).trans z18).trans z23), p23.drop, u5y, (u5z.ext ((((((z4.trans z5).trans z6).trans z10).trans z14).trans z18).trans z23)), rfl, (u7l.ext z23)⟩
 ·
  intro u7n u7o x0v r h nz wz S0 w0 Lr iG gx0 u2 p0 u3
  try dsimp only at h
  refine calls_of_goes (fn := Tryd.f78) (c := B78) (by kernel_rfl) (by kernel_rfl) 72 (by kernel_rfl) ?_
  refine Goes.jp 73 [(0, (pt gx0 0))] (fun junk => ?_)
  refine Goes.rn 2 [] Jbb ?_
  refine Op_.alloc 28 2 0 (.agg #[.i 0, .u 0, .u 0, .u 0, .u 0, .slice none 0 0, .i 0, .i 0]) [.i 0, .u 0, .u 0, .u 0, .u 0, .slice none 0 0, .i 0, .i 0] p0 Goes.v (by kernel_rfl) (by kernel_rfl) ?_
  intro b2 w2 z2 p2
  refine Goes.rn 4 [(4, (pt gx0 0))] Jbd ?_
  have p2 := p2.fr 1
  refine bind_some' h fun y4 e5 h => ?_
  refine Goes.cal (kc 65 [4] #[66]) 5 5 65 _ (W.z0 x0v y4 e5 gx0 u2 p2 (u3.ext z2)) ?_
  rintro _ w3 ⟨S3, u2o, rfl, z3, p3, u2p⟩
  refine Goes.rn 9 [(3, .int .u8 y4.1), (7, .int .u8 y4.1), (8, .bool (decide (y4.1 < 32))), (9, .bool (decide (y4.1 < 32)))] Jbe ?_
  refine ite_some h (fun h6 h => ?_) (fun h6 h => ?_)
  ·
   rw [decide_eq_true h6]
   refine Goes.rn 10 [(10, undef), (11, undef), (12, .bool true), (13, .bool true), (14, undef), (15, undef), (16, undef), (17, .bool true), (6, .bool true)] J9z ?_
   have p3 : Hp nz wz S3 w3 ((none, .row 28 [] (0 * kT27.size) 0) :: (some gx0, .row 69 [.string y4.2.s, .i y4.2.at_, .i y4.2.deep, u2o] 4 0) :: (some b2, .row 28 [.i 0, .u 0, .u 0, .u 0, .u 0, .slice none 0 0, .i 0, .i 0] 8 0) :: Lr) := p3.nilRow' 28
   have p3 := ((p3.fr 1).fr 1).fr 2
   exact Goes.jp 73 [(0, (pt gx0 0)), (2, (pt b2 0)), (3, .int .u8 y4.1), (6, .bool true)] (u7o _ _ h gx0 _ _ (((Ext.refl S0 w0).trans z2).trans z3) b2 none 0 0 [] u2o p3 rfl (Els.nil (K := kT27)) rfl u2p)
  ·
   rw [decide_eq_false h6]
   refine Goes.rn 4 [(10, .int .u8 y4.1), (11, .bool (decide (y4.1 > 126))), (12, .bool (decide (y4.1 > 126))), (13, .bool (decide (y4.1 > 126)))] Jbf ?_
   refine ite_some h (fun h10 h => ?_) (fun h10 h => ?_)
   ·
    rw [decide_eq_true h10]
    refine Goes.rn 6 [(14, undef), (15, undef), (16, undef), (17, .bool true), (6, .bool true)] J9z ?_
    have p3 : Hp nz wz S3 w3 ((none, .row 28 [] (0 * kT27.size) 0) :: (some gx0, .row 69 [.string y4.2.s, .i y4.2.at_, .i y4.2.deep, u2o] 4 0) :: (some b2, .row 28 [.i 0, .u 0, .u 0, .u 0, .u 0, .slice none 0 0, .i 0, .i 0] 8 0) :: Lr) := p3.nilRow' 28
    have p3 := ((p3.fr 1).fr 1).fr 2
    exact Goes.jp 73 [(0, (pt gx0 0)), (2, (pt b2 0)), (3, .int .u8 y4.1), (6, .bool true)] (u7o _ _ h gx0 _ _ (((Ext.refl S0 w0).trans z2).trans z3) b2 none 0 0 [] u2o p3 rfl (Els.nil (K := kT27)) rfl u2p)
   ·
    rw [decide_eq_false h10]
    refine Goes.rn 1 [(14, .int .u8 y4.1)] Jbg ?_
    refine bind_some' h fun y12 e13 h => ?_
    refine Goes.cal (.call { callee := .value (.func 45), args := #[(.const (.string ⟨#[93, 41, 42, 43, 63, 123, 125, 94, 36, 124]⟩)), (.tmp 14)], argTypes := #[9, 5] }) 15 3 45 _ (W.zi (⟨#[93, 41, 42, 43, 63, 123, 125, 94, 36, 124]⟩ : ByteArray) y4.1 y12 e13  p3 ) ?_
    rintro _ w4 ⟨S4, rfl, z4, p4⟩
    refine Goes.rn 4 [(16, .bool (decide (y12 ≥ 0))), (17, .bool (decide (y12 ≥ 0))), (6, .bool (decide (y12 ≥ 0)))] J9z ?_
    have p4 : Hp nz wz S4 w4 ((none, .row 28 [] (0 * kT27.size) 0) :: (some gx0, .row 69 [.string y4.2.s, .i y4.2.at_, .i y4.2.deep, u2o] 4 0) :: (some b2, .row 28 [.i 0, .u 0, .u 0, .u 0, .u 0, .slice none 0 0, .i 0, .i 0] 8 0) :: Lr) := p4.nilRow' 28
    have p4 := ((p4.fr 1).fr 1).fr 2
    exact Goes.jp 73 [(0, (pt gx0 0)), (2, (pt b2 0)), (3, .int .u8 y4.1), (6, .bool (decide (y12 ≥ 0)))] (u7o _ _ h gx0 _ _ ((((Ext.refl S0 w0).trans z2).trans z3).trans z4) b2 none 0 0 [] u2o p4 rfl (Els.nil (K := kT27)) rfl (u2p.ext z4))
 ·
  intro u7p u7q ⟨x2v, x3, x6, e0v⟩ r h nz wz S0 w0 Lr iG gx0 S1 w1 hx gx2 u6o u6p u6q u6r u0 p1 u6u u6v u6w u1 junk
  try dsimp only at h
  subst u6w
  refine ite_some h (fun h15 h => ?_) (fun h15 h => ?_)
  ·
   rw [h15]
   refine Goes.rn 7 [(18, (pt gx0 0)), (19, (pt gx0 0)), (20, (pt gx0 0)), (21, (pt gx0 1))] Jbi ?_
   refine Goes.ld 3 (.tmp 21) 22 3 ⟨gx0, 1, none⟩ (.i e0v.at_) (p1.c 2 1) ?_
   have p1 := p1.fr 2
   refine bind_some' h fun y16 e17 h => ?_
   refine Goes.cal (kc 31 [18, 22] #[66, 3]) 23 28 31 _ (W.z2 e0v e0v.at_ y16 e17 gx0 u0 p1 u1) ?_
   rintro _ w5 ⟨S5, u7r, u7s, u7t, u3a, rfl, z5, p5, u7u, u7v, rfl, u3c⟩
   refine Op_.st 28 (.tmp 2) (.tmp 23) 0 1 gx2 0 (ag (.i y16.1.Kind :: U4 y16.1.Set [.slice u7r y16.1.L.length u7t, .i y16.1.Min, .i y16.1.Max])) (.i y16.1.Kind :: U4 y16.1.Set [.slice u7r y16.1.L.length u7t, .i y16.1.Min, .i y16.1.Max]) p5 rfl Goes.s (by kernel_rfl) (by kernel_rfl) (by kernel_rfl) (by kernel_rfl) (Nat.zero_le _) (by simp only [List.length_cons, List.length_nil]; omega) (by simp [Value.oneCell']) ?_
   intro w6 z6 p6
   have p6 : Hp nz wz S5 w6 ((some gx0, .row 69 [.string y16.2.s, .i y16.2.at_, .i y16.2.deep, u3a] 4 0) :: (some gx2, .row 28 (.i y16.1.Kind :: U4 y16.1.Set [.slice u7r y16.1.L.length u7t, .i y16.1.Min, .i y16.1.Max]) 8 0) :: (u6o, .row 28 u6r (u6q * kT27.size) 0) :: Lr) := p6
   refine Goes.rn 1 [] Jbh ?_
   obtain rfl := Option.some.inj h
   have p6 := p6.dp 2
   have p6 := (p6.fr 0).fr 1
   exact Goes.ret (fn := Tryd.f78) (by kernel_rfl) (v := (ag (.i y16.1.Kind :: U4 y16.1.Set [.slice u7r y16.1.L.length u7t, .i y16.1.Min, .i y16.1.Max]))) (results_n1 (fn := Tryd.f78) (a := .cell 2 28) (by kernel_rfl) (resV_cell ⟨gx2, 0, none⟩ (by kernel_rfl) (run_loadN (.i y16.1.Kind :: U4 y16.1.Set [.slice u7r y16.1.L.length u7t, .i y16.1.Min, .i y16.1.Max]) (by kernel_rfl) (by kernel_rfl) (p6.pa 0 0)))) ⟨S5, u7r, y16.1.L.length, u7t, u3a, rfl, ((hx.trans z5).trans z6), p6.drop, u7u, (u7v.ext z6), rfl, (u3c.ext z6)⟩
  ·
   have u73 : x6 = false := by simpa using h15
   rw [u73]
   refine Goes.rn 6 [(25, .int .u8 x3), (26, .bool (decide (x3 = 40))), (27, .bool (decide (x3 = 40)))] Jbj ?_
   refine ite_some h (fun h18 h => ?_) (fun h18 h => ?_)
   ·
    rw [decide_eq_true h18]
    refine Goes.rn 3 [(28, (pt gx0 0)), (29, (pt gx0 0)), (30, (pt gx0 2))] Jbk ?_
    refine Goes.ld 3 (.tmp 30) 31 3 ⟨gx0, 2, none⟩ (.i e0v.deep) (p1.c 2 2) ?_
    refine Goes.rn 4 [(32, .bool (decide (e0v.deep = 32))), (33, .bool (decide (e0v.deep = 32))), (24, .bool (decide (e0v.deep = 32)))] Ja0 ?_
    exact Goes.jp 73 [(0, (pt gx0 0)), (2, (pt gx2 0)), (3, .int .u8 x3), (24, .bool (decide (e0v.deep = 32)))] (u7q _ _ h gx0 _ _ hx gx2 u6o x2v.L.length u6q u6r u0 p1 u6u u6v rfl u1)
   ·
    rw [decide_eq_false h18]
    refine Goes.rn 8 [(28, undef), (29, undef), (30, undef), (31, undef), (32, undef), (33, .bool false), (24, .bool false)] Ja0 ?_
    exact Goes.jp 73 [(0, (pt gx0 0)), (2, (pt gx2 0)), (3, .int .u8 x3), (24, .bool false)] (u7q _ _ h gx0 _ _ hx gx2 u6o x2v.L.length u6q u6r u0 p1 u6u u6v rfl u1)
 ·
  intro rec_syntax_parser_group ih_syntax_parser_group ⟨x2v, x3, x24, e0v⟩ r h nz wz S0 w0 Lr iG gx0 S1 w1 hx gx2 u6o u6p u6q u6r u0 p1 u6u u6v u6w u1 junk
  try dsimp only at h
  subst u6w
  refine ite_some h (fun h21 h => ?_) (fun h21 h => ?_)
  ·
   rw [h21]
   refine Goes.rn 7 [(34, (pt gx0 0)), (35, (pt gx0 0)), (36, (pt gx0 0)), (37, (pt gx0 1))] Jbm ?_
   refine Goes.ld 3 (.tmp 37) 38 3 ⟨gx0, 1, none⟩ (.i e0v.at_) (p1.c 2 1) ?_
   have p1 := p1.fr 2
   refine bind_some' h fun y22 e23 h => ?_
   refine Goes.cal (kc 31 [34, 38] #[66, 3]) 39 28 31 _ (W.z2 e0v e0v.at_ y22 e23 gx0 u0 p1 u1) ?_
   rintro _ w7 ⟨S7, u6c, u6d, u6e, u65, rfl, z7, p7, u6f, u6g, rfl, u66⟩
   refine Op_.st 28 (.tmp 2) (.tmp 39) 0 1 gx2 0 (ag (.i y22.1.Kind :: U4 y22.1.Set [.slice u6c y22.1.L.length u6e, .i y22.1.Min, .i y22.1.Max])) (.i y22.1.Kind :: U4 y22.1.Set [.slice u6c y22.1.L.length u6e, .i y22.1.Min, .i y22.1.Max]) p7 rfl Goes.s (by kernel_rfl) (by kernel_rfl) (by kernel_rfl) (by kernel_rfl) (Nat.zero_le _) (by simp only [List.length_cons, List.length_nil]; omega) (by simp [Value.oneCell']) ?_
   intro w8 z8 p8
   have p8 : Hp nz wz S7 w8 ((some gx0, .row 69 [.string y22.2.s, .i y22.2.at_, .i y22.2.deep, u65] 4 0) :: (some gx2, .row 28 (.i y22.1.Kind :: U4 y22.1.Set [.slice u6c y22.1.L.length u6e, .i y22.1.Min, .i y22.1.Max]) 8 0) :: (u6o, .row 28 u6r (u6q * kT27.size) 0) :: Lr) := p8
   refine Goes.rn 1 [] Jbl ?_
   obtain rfl := Option.some.inj h
   have p8 := p8.dp 2
   have p8 := (p8.fr 0).fr 1
   exact Goes.ret (fn := Tryd.f78) (by kernel_rfl) (v := (ag (.i y22.1.Kind :: U4 y22.1.Set [.slice u6c y22.1.L.length u6e, .i y22.1.Min, .i y22.1.Max]))) (results_n1 (fn := Tryd.f78) (a := .cell 2 28) (by kernel_rfl) (resV_cell ⟨gx2, 0, none⟩ (by kernel_rfl) (run_loadN (.i y22.1.Kind :: U4 y22.1.Set [.slice u6c y22.1.L.length u6e, .i y22.1.Min, .i y22.1.Max]) (by kernel_rfl) (by kernel_rfl) (p8.pa 0 0)))) ⟨S7, u6c, y22.1.L.length, u6e, u65, rfl, ((hx.trans z7).trans z8), p8.drop, u6f, (u6g.ext z8), rfl, (u66.ext z8)⟩
  ·
   have u7w : x24 = false := by simpa using h21
   rw [u7w]
   refine Goes.rn 4 [(41, (pt gx0 0))] Jbo ?_
   have p1 := p1.fr 2
   refine bind_some' h fun y24 e25 h => ?_
   refine Goes.cal (.call { callee := .value (.func 48), args := #[(.tmp 41), (.const (.int .u8 46))], argTypes := #[66, 5] }) 42 4 48 _ (W.z3 e0v 46 y24 e25 gx0 u0 p1 u1) ?_
   rintro _ w9 ⟨S9, u6k, rfl, z9, p9, u6n⟩
   refine Goes.rn 2 [(40, .bool y24.1)] Jbn ?_
   refine ite_some h (fun h26 h => ?_) (fun h26 h => ?_)
   ·
    rw [h26]
    refine Goes.rn 3 [] Jbq ?_
    refine bind_some' h fun y27 e28 h => ?_
    refine Goes.cal (.call { callee := .value (.func 90), args := #[(.const (.int .u8 10))], argTypes := #[5] }) 43 25 90 _ (W.z5 10 y27 e28  p9 ) ?_
    rintro _ w10 ⟨S10, u15, rfl, z10, p10, u16, u17⟩
    refine bind_some' h fun y29 e30 h => ?_
    refine Goes.cal (kc 89 [43] #[25]) 44 25 89 _ (W.z6 y27 y29 e30 u15 p10 u16 u17) ?_
    rintro _ w11 ⟨S11, u7x, rfl, z11, p11, u7y, u7z⟩
    have l31 := Els.len1 u7y u7z rfl
    obtain rfl := els_lit4 u7y u7z
    refine Goes.rn 1 [(45, (ag (.i 1 :: U4 y29 [.slice none 0 0, .i 0, .i 0])))] Jbr ?_
    refine Op_.st 28 (.tmp 2) (.tmp 45) 0 1 gx2 0 (ag (.i 1 :: U4 y29 [.slice none 0 0, .i 0, .i 0])) (.i 1 :: U4 y29 [.slice none 0 0, .i 0, .i 0]) p11 rfl Goes.s (by kernel_rfl) (by kernel_rfl) (by kernel_rfl) (by kernel_rfl) (Nat.zero_le _) (by simp only [List.length_cons, List.length_nil]; omega) (by simp [Value.oneCell']) ?_
    intro w12 z12 p12
    have p12 : Hp nz wz S11 w12 ((some gx0, .row 69 [.string y24.2.s, .i y24.2.at_, .i y24.2.deep, u6k] 4 0) :: (some gx2, .row 28 (.i 1 :: U4 y29 [.slice none 0 0, .i 0, .i 0]) 8 0) :: (u6o, .row 28 u6r (u6q * kT27.size) 0) :: Lr) := p12
    refine Goes.rn 1 [] Jbp ?_
    obtain rfl := Option.some.inj h
    have p12 := p12.dp 2
    have p12 := (p12.fr 0).fr 1
    exact Goes.ret (fn := Tryd.f78) (by kernel_rfl) (v := (ag (.i 1 :: U4 y29 [.slice none 0 0, .i 0, .i 0]))) (results_n1 (fn := Tryd.f78) (a := .cell 2 28) (by kernel_rfl) (resV_cell ⟨gx2, 0, none⟩ (by kernel_rfl) (run_loadN (.i 1 :: U4 y29 [.slice none 0 0, .i 0, .i 0]) (by kernel_rfl) (by kernel_rfl) (p12.pa 0 0)))) ⟨S11, none, 0, 0, u6k, rfl, ((((hx.trans z9).trans z10).trans z11).trans z12), p12.drop, l31, Rd.none_, rfl, (u6n.ext ((z10.trans z11).trans z12))⟩
   ·
    have u80 : y24.1 = false := by simpa using h26
    rw [u80]
    refine Goes.rn 4 [(47, (pt gx0 0))] Jbt ?_
    refine bind_some' h fun y32 e33 h => ?_
    refine Goes.cal (.call { callee := .value (.func 48), args := #[(.tmp 47), (.const (.int .u8 91))], argTypes := #[66, 5] }) 48 4 48 _ (W.z3 y24.2 91 y32 e33 gx0 u6k p9 u6n) ?_
    rintro _ w13 ⟨S13, u81, rfl, z13, p13, u82⟩
    refine Goes.rn 2 [(46, .bool y32.1)] Jbs ?_
    refine ite_some h (fun h34 h => ?_) (fun h34 h => ?_)
    ·
     rw [h34]
     refine Goes.rn 4 [(49, (pt gx0 0))] Jbv ?_
     refine bind_some' h fun y35 e36 h => ?_
     refine Goes.cal (kc 91 [49] #[66]) 50 28 91 _ (W.zx y32.2 y35 e36 gx0 u81 p13 u82) ?_
     rintro _ w14 ⟨S14, u83, u84, u85, u7h, rfl, z14, p14, u86, u87, rfl, u7i⟩
     refine Op_.st 28 (.tmp 2) (.tmp 50) 0 1 gx2 0 (ag (.i y35.1.Kind :: U4 y35.1.Set [.slice u83 y35.1.L.length u85, .i y35.1.Min, .i y35.1.Max])) (.i y35.1.Kind :: U4 y35.1.Set [.slice u83 y35.1.L.length u85, .i y35.1.Min, .i y35.1.Max]) p14 rfl Goes.s (by kernel_rfl) (by kernel_rfl) (by kernel_rfl) (by kernel_rfl) (Nat.zero_le _) (by simp only [List.length_cons, List.length_nil]; omega) (by simp [Value.oneCell']) ?_
     intro w15 z15 p15
     have p15 : Hp nz wz S14 w15 ((some gx0, .row 69 [.string y35.2.s, .i y35.2.at_, .i y35.2.deep, u7h] 4 0) :: (some gx2, .row 28 (.i y35.1.Kind :: U4 y35.1.Set [.slice u83 y35.1.L.length u85, .i y35.1.Min, .i y35.1.Max]) 8 0) :: (u6o, .row 28 u6r (u6q * kT27.size) 0) :: Lr) := p15
     refine Goes.rn 1 [] Jbu ?_
     obtain rfl := Option.some.inj h
     have p15 := p15.dp 2
     have p15 := (p15.fr 0).fr 1
     exact Goes.ret (fn := Tryd.f78) (by kernel_rfl) (v := (ag (.i y35.1.Kind :: U4 y35.1.Set [.slice u83 y35.1.L.length u85, .i y35.1.Min, .i y35.1.Max]))) (results_n1 (fn := Tryd.f78) (a := .cell 2 28) (by kernel_rfl) (resV_cell ⟨gx2, 0, none⟩ (by kernel_rfl) (run_loadN (.i y35.1.Kind :: U4 y35.1.Set [.slice u83 y35.1.L.length u85, .i y35.1.Min, .i y35.1.Max]) (by kernel_rfl) (by kernel_rfl) (p15.pa 0 0)))) ⟨S14, u83, y35.1.L.length, u85, u7h, rfl, ((((hx.trans z9).trans z13).trans z14).trans z15), p15.drop, u86, (u87.ext z15), rfl, (u7i.ext z15)⟩
    ·
     have u88 : y32.1 = false := by simpa using h34
     rw [u88]
     refine Goes.rn 4 [(52, (pt gx0 0))] Jbx ?_
     refine bind_some' h fun y37 e38 h => ?_
     refine Goes.cal (.call { callee := .value (.func 48), args := #[(.tmp 52), (.const (.int .u8 40))], argTypes := #[66, 5] }) 53 4 48 _ (W.z3 y32.2 40 y37 e38 gx0 u81 p13 u82) ?_
     rintro _ w16 ⟨S16, u89, rfl, z16, p16, u8a⟩
     refine Goes.rn 2 [(51, .bool y37.1)] Jbw ?_
     refine ite_some h (fun h39 h => ?_) (fun h39 h => ?_)
     ·
      rw [h39]
      refine Goes.rn 4 [(54, (pt gx0 0))] Jbz ?_
      refine bind_some' h fun y40 e41 h => ?_
      refine Goes.cal (kc 92 [54] #[66]) 55 28 92 _ (ih_syntax_parser_group y37.2 y40 e41 gx0 u89 p16 u8a) ?_
      rintro _ w17 ⟨S17, u8b, u8c, u8d, u8e, rfl, z17, p17, u8f, u8g, rfl, u8h⟩
      refine Op_.st 28 (.tmp 2) (.tmp 55) 0 1 gx2 0 (ag (.i y40.1.Kind :: U4 y40.1.Set [.slice u8b y40.1.L.length u8d, .i y40.1.Min, .i y40.1.Max])) (.i y40.1.Kind :: U4 y40.1.Set [.slice u8b y40.1.L.length u8d, .i y40.1.Min, .i y40.1.Max]) p17 rfl Goes.s (by kernel_rfl) (by kernel_rfl) (by kernel_rfl) (by kernel_rfl) (Nat.zero_le _) (by simp only [List.length_cons, List.length_nil]; omega) (by simp [Value.oneCell']) ?_
      intro w18 z18 p18
      have p18 : Hp nz wz S17 w18 ((some gx0, .row 69 [.string y40.2.s, .i y40.2.at_, .i y40.2.deep, u8e] 4 0) :: (some gx2, .row 28 (.i y40.1.Kind :: U4 y40.1.Set [.slice u8b y40.1.L.length u8d, .i y40.1.Min, .i y40.1.Max]) 8 0) :: (u6o, .row 28 u6r (u6q * kT27.size) 0) :: Lr) := p18
      refine Goes.rn 1 [] Jby ?_
      obtain rfl := Option.some.inj h
      have p18 := p18.dp 2
      have p18 := (p18.fr 0).fr 1
      exact Goes.ret (fn := Tryd.f78) (by kernel_rfl) (v := (ag (.i y40.1.Kind :: U4 y40.1.Set [.slice u8b y40.1.L.length u8d, .i y40.1.Min, .i y40.1.Max]))) (results_n1 (fn := Tryd.f78) (a := .cell 2 28) (by kernel_rfl) (resV_cell ⟨gx2, 0, none⟩ (by kernel_rfl) (run_loadN (.i y40.1.Kind :: U4 y40.1.Set [.slice u8b y40.1.L.length u8d, .i y40.1.Min, .i y40.1.Max]) (by kernel_rfl) (by kernel_rfl) (p18.pa 0 0)))) ⟨S17, u8b, y40.1.L.length, u8d, u8e, rfl, (((((hx.trans z9).trans z13).trans z16).trans z17).trans z18), p18.drop, u8f, (u8g.ext z18), rfl, (u8h.ext z18)⟩
     ·
      have u8i : y37.1 = false := by simpa using h39
      rw [u8i]
      refine Goes.rn 4 [(57, (pt gx0 0))] Jc1 ?_
      refine bind_some' h fun y42 e43 h => ?_
      refine Goes.cal (.call { callee := .value (.func 48), args := #[(.tmp 57), (.const (.int .u8 92))], argTypes := #[66, 5] }) 58 4 48 _ (W.z3 y37.2 92 y42 e43 gx0 u89 p16 u8a) ?_
      rintro _ w19 ⟨S19, u3t, rfl, z19, p19, u3w⟩
      refine Goes.rn 2 [(56, .bool y42.1)] Jc0 ?_
      refine ite_some h (fun h44 h => ?_) (fun h44 h => ?_)
      ·
       rw [h44]
       refine Goes.rn 4 [(59, (pt gx0 0))] Jc3 ?_
       refine bind_some' h fun y45 e46 h => ?_
       refine Goes.cal (kc 93 [59] #[66]) 60 127 93 _ (W.zm y42.2 y45 e46 gx0 u3t p19 u3w) ?_
       rintro _ w20 ⟨S20, u8j, rfl, z20, p20, u8k, u8l⟩
       refine Goes.rn 2 [(61, (ag (U4 y45.1.set_ []))), (62, (ag (.i 1 :: U4 y45.1.set_ [.slice none 0 0, .i 0, .i 0])))] Jc4 ?_
       refine Op_.st 28 (.tmp 2) (.tmp 62) 0 1 gx2 0 (ag (.i 1 :: U4 y45.1.set_ [.slice none 0 0, .i 0, .i 0])) (.i 1 :: U4 y45.1.set_ [.slice none 0 0, .i 0, .i 0]) p20 rfl Goes.s (by kernel_rfl) (by kernel_rfl) (by kernel_rfl) (by kernel_rfl) (Nat.zero_le _) (by simp only [List.length_cons, List.length_nil]; omega) (by simp [Value.oneCell']) ?_
       intro w21 z21 p21
       have p21 : Hp nz wz S20 w21 ((some gx0, .row 69 [.string y45.2.s, .i y45.2.at_, .i y45.2.deep, u8j] 4 0) :: (some gx2, .row 28 (.i 1 :: U4 y45.1.set_ [.slice none 0 0, .i 0, .i 0]) 8 0) :: (u6o, .row 28 u6r (u6q * kT27.size) 0) :: Lr) := p21
       refine Goes.rn 1 [] Jc2 ?_
       obtain rfl := Option.some.inj h
       have p21 := p21.dp 2
       have p21 := (p21.fr 0).fr 1
       exact Goes.ret (fn := Tryd.f78) (by kernel_rfl) (v := (ag (.i 1 :: U4 y45.1.set_ [.slice none 0 0, .i 0, .i 0]))) (results_n1 (fn := Tryd.f78) (a := .cell 2 28) (by kernel_rfl) (resV_cell ⟨gx2, 0, none⟩ (by kernel_rfl) (run_loadN (.i 1 :: U4 y45.1.set_ [.slice none 0 0, .i 0, .i 0]) (by kernel_rfl) (by kernel_rfl) (p21.pa 0 0)))) ⟨S20, none, 0, 0, u8j, rfl, ((((((hx.trans z9).trans z13).trans z16).trans z19).trans z20).trans z21), p21.drop, u8k, Rd.none_, rfl, (u8l.ext z21)⟩
      ·
       have u8m : y42.1 = false := by simpa using h44
       rw [u8m]
       refine Goes.rn 8 [(63, (pt gx0 0)), (64, (pt gx0 0)), (65, (pt gx0 1))] Jc6 ?_
       refine Goes.ld 3 (.tmp 65) 66 3 ⟨gx0, 1, none⟩ (.i y42.2.at_) (p19.c 0 1) ?_
       refine Goes.rn 3 [(67, .i (wr .i64 (y42.2.at_ + 1))), (68, (pt gx0 0)), (69, (pt gx0 1))] Jc7 ?_
       refine Op_.st 3 (.tmp 69) (.tmp 67) 0 0 gx0 1 (.i (wr .i64 (y42.2.at_ + 1))) [.i (wr .i64 (y42.2.at_ + 1))] p19 rfl Goes.s (by kernel_rfl) (by kernel_rfl) (by kernel_rfl) (by kernel_rfl) (Nat.zero_le _) (by simp only [List.length_cons, List.length_nil]; omega) (by simp [Value.oneCell']) ?_
       intro w22 z22 p22
       have p22 : Hp nz wz S19 w22 ((some gx0, .row 69 [.string y42.2.s, .i (wr .i64 (y42.2.at_ + 1)), .i y42.2.deep, u3t] 4 0) :: (some gx2, .row 28 (.i x2v.Kind :: U4 x2v.Set [.slice (Gp u6o) x2v.L.length u6q, .i x2v.Min, .i x2v.Max]) 8 0) :: (u6o, .row 28 u6r (u6q * kT27.size) 0) :: Lr) := p22
       refine Goes.rn 4 [(70, .int .u8 x3)] Jc9 ?_
       refine bind_some' h fun y47 e48 h => ?_
       refine Goes.cal (kc 90 [70] #[5]) 71 25 90 _ (W.z5 x3 y47 e48  p22 ) ?_
       rintro _ w23 ⟨S23, u1h, rfl, z23, p23, u1i, u1j⟩
       have l49 := Els.len1 u1i u1j rfl
       obtain rfl := els_lit4 u1i u1j
       refine Goes.rn 1 [(72, (ag (.i 1 :: U4 y47 [.slice none 0 0, .i 0, .i 0])))] Jca ?_
       refine Op_.st 28 (.tmp 2) (.tmp 72) 0 1 gx2 0 (ag (.i 1 :: U4 y47 [.slice none 0 0, .i 0, .i 0])) (.i 1 :: U4 y47 [.slice none 0 0, .i 0, .i 0]) p23 rfl Goes.s (by kernel_rfl) (by kernel_rfl) (by kernel_rfl) (by kernel_rfl) (Nat.zero_le _) (by simp only [List.length_cons, List.length_nil]; omega) (by simp [Value.oneCell']) ?_
       intro w24 z24 p24
       have p24 : Hp nz wz S23 w24 ((some gx0, .row 69 [.string y42.2.s, .i (wr .i64 (y42.2.at_ + 1)), .i y42.2.deep, u3t] 4 0) :: (some gx2, .row 28 (.i 1 :: U4 y47 [.slice none 0 0, .i 0, .i 0]) 8 0) :: (u6o, .row 28 u6r (u6q * kT27.size) 0) :: Lr) := p24
       refine Goes.rn 1 [] Jc8 ?_
       obtain rfl := Option.some.inj h
       have p24 := p24.dp 2
       have p24 := (p24.fr 0).fr 1
       exact Goes.ret (fn := Tryd.f78) (by kernel_rfl) (v := (ag (.i 1 :: U4 y47 [.slice none 0 0, .i 0, .i 0]))) (results_n1 (fn := Tryd.f78) (a := .cell 2 28) (by kernel_rfl) (resV_cell ⟨gx2, 0, none⟩ (by kernel_rfl) (run_loadN (.i 1 :: U4 y47 [.slice none 0 0, .i 0, .i 0]) (by kernel_rfl) (by kernel_rfl) (p24.pa 0 0)))) ⟨S23, none, 0, 0, u3t, rfl, (((((((hx.trans z9).trans z13).trans z16).trans z19).trans z22).trans z23).trans z24), p24.drop, l49, Rd.none_, rfl, (u3w.ext ((z22.trans z23).trans z24))⟩
 ·
  intro u8n u8o x0v r h nz wz S0 w0 Lr iG gx0 u2 p0 u3
  try dsimp only at h
  refine calls_of_goes (fn := Tryd.f92) (c := B92) (by kernel_rfl) (by kernel_rfl) 26 (by kernel_rfl) ?_
  refine Goes.jp 27 [(0, (pt gx0 0))] (fun junk => ?_)
  refine Goes.rn 2 [] Jcc ?_
  refine Op_.alloc 28 2 0 (.agg #[.i 0, .u 0, .u 0, .u 0, .u 0, .slice none 0 0, .i 0, .i 0]) [.i 0, .u 0, .u 0, .u 0, .u 0, .slice none 0 0, .i 0, .i 0] p0 Goes.v (by kernel_rfl) (by kernel_rfl) ?_
  intro b2 w2 z2 p2
  refine Goes.rn 5 [(4, (pt gx0 0))] Jce ?_
  have p2 := p2.fr 1
  refine bind_some' h fun y4 e5 h => ?_
  refine Goes.cal (.call { callee := .value (.func 48), args := #[(.tmp 4), (.const (.int .u8 63))], argTypes := #[66, 5] }) 5 4 48 _ (W.z3 x0v 63 y4 e5 gx0 u2 p2 (u3.ext z2)) ?_
  rintro _ w3 ⟨S3, u2o, rfl, z3, p3, u2p⟩
  refine Goes.rn 1 [] Jcd ?_
  refine ite_some h (fun h6 h => ?_) (fun h6 h => ?_)
  ·
   rw [h6]
   refine Goes.rn 3 [(6, (pt gx0 0))] Jcf ?_
   refine bind_some' h fun y7 e8 h => ?_
   refine Goes.cal (.call { callee := .value (.func 95), args := #[(.tmp 6), (.const (.int .u8 58))], argTypes := #[66, 5] }) 7 0 95 _ (W.zy y4.2 58 y7 e8 gx0 u2o p3 u2p) ?_
   rintro _ w4 ⟨S4, u28, rfl, z4, p4, u2b⟩
   refine Goes.rn 1 [] Ja1 ?_
   have p4 : Hp nz wz S4 w4 ((none, .row 28 [] (0 * kT27.size) 0) :: (some gx0, .row 69 [.string y7.s, .i y7.at_, .i y7.deep, u28] 4 0) :: (some b2, .row 28 [.i 0, .u 0, .u 0, .u 0, .u 0, .slice none 0 0, .i 0, .i 0] 8 0) :: Lr) := p4.nilRow' 28
   have p4 := ((p4.fr 1).fr 1).fr 2
   exact Goes.jp 27 [(0, (pt gx0 0)), (2, (pt b2 0))] (u8o _ _ h gx0 _ _ ((((Ext.refl S0 w0).trans z2).trans z3).trans z4) b2 none 0 0 [] u28 p4 rfl (Els.nil (K := kT27)) rfl u2b)
  ·
   have h6' : y4.1 = false := by simpa using h6
   rw [h6']
   refine Goes.rn 2 [] Ja1 ?_
   have p3 : Hp nz wz S3 w3 ((none, .row 28 [] (0 * kT27.size) 0) :: (some gx0, .row 69 [.string y4.2.s, .i y4.2.at_, .i y4.2.deep, u2o] 4 0) :: (some b2, .row 28 [.i 0, .u 0, .u 0, .u 0, .u 0, .slice none 0 0, .i 0, .i 0] 8 0) :: Lr) := p3.nilRow' 28
   have p3 := ((p3.fr 1).fr 1).fr 2
   exact Goes.jp 27 [(0, (pt gx0 0)), (2, (pt b2 0))] (u8o _ _ h gx0 _ _ (((Ext.refl S0 w0).trans z2).trans z3) b2 none 0 0 [] u2o p3 rfl (Els.nil (K := kT27)) rfl u2p)
 ·
  intro rec_syntax_parser_alternation ih_syntax_parser_alternation ⟨x2v, e0v⟩ r h nz wz S0 w0 Lr iG gx0 S1 w1 hx gx2 u6o u6p u6q u6r u0 p1 u6u u6v u6w u1 junk
  try dsimp only at h
  subst u6w
  refine Goes.rn 5 [(8, (pt gx0 0)), (9, (pt gx0 0)), (10, (pt gx0 2))] Jch ?_
  refine Goes.ld 3 (.tmp 10) 11 3 ⟨gx0, 2, none⟩ (.i e0v.deep) (p1.c 2 2) ?_
  refine Goes.rn 3 [(12, .i (wr .i64 (e0v.deep + 1))), (13, (pt gx0 0)), (14, (pt gx0 2))] Jci ?_
  refine Op_.st 3 (.tmp 14) (.tmp 12) 0 2 gx0 2 (.i (wr .i64 (e0v.deep + 1))) [.i (wr .i64 (e0v.deep + 1))] p1 rfl Goes.s (by kernel_rfl) (by kernel_rfl) (by kernel_rfl) (by kernel_rfl) (Nat.zero_le _) (by simp only [List.length_cons, List.length_nil]; omega) (by simp [Value.oneCell']) ?_
  intro w5 z5 p5
  have p5 : Hp nz wz S1 w5 ((some gx2, .row 28 (.i x2v.Kind :: U4 x2v.Set [.slice (Gp u6o) x2v.L.length u6q, .i x2v.Min, .i x2v.Max]) 8 0) :: (u6o, .row 28 u6r (u6q * kT27.size) 0) :: (some gx0, .row 69 [.string e0v.s, .i e0v.at_, .i (wr .i64 (e0v.deep + 1)), u0] 4 0) :: Lr) := p5
  refine Goes.rn 4 [(15, (pt gx0 0))] Jck ?_
  have p5 := p5.fr 2
  refine bind_some' h fun y13 e14 h => ?_
  refine Goes.cal (kc 30 [15] #[66]) 16 28 30 _ (ih_syntax_parser_alternation (⟨e0v.s, e0v.at_, wr .i64 (e0v.deep + 1), e0v.bad⟩ : T68) y13 e14 gx0 u0 p5 (u1.ext z5)) ?_
  rintro _ w6 ⟨S6, u6x, u6y, u6z, u3y, rfl, z6, p6, u70, u71, rfl, u3z⟩
  refine Op_.alloc 28 3 0 (.agg #[.i 0, .u 0, .u 0, .u 0, .u 0, .slice none 0 0, .i 0, .i 0]) [.i 0, .u 0, .u 0, .u 0, .u 0, .slice none 0 0, .i 0, .i 0] p6 Goes.v (by kernel_rfl) (by kernel_rfl) ?_
  intro b15 w7 z7 p7
  refine Op_.st 28 (.tmp 3) (.tmp 16) 0 0 b15 0 (ag (.i y13.1.Kind :: U4 y13.1.Set [.slice u6x y13.1.L.length u6z, .i y13.1.Min, .i y13.1.Max])) (.i y13.1.Kind :: U4 y13.1.Set [.slice u6x y13.1.L.length u6z, .i y13.1.Min, .i y13.1.Max]) p7 rfl Goes.s (by kernel_rfl) (by kernel_rfl) (by kernel_rfl) (by kernel_rfl) (Nat.zero_le _) (by simp only [List.length_cons, List.length_nil]; omega) (by simp [Value.oneCell']) ?_
  intro w8 z8 p8
  have p8 : Hp nz wz S6 w8 ((some b15, .row 28 (.i y13.1.Kind :: U4 y13.1.Set [.slice u6x y13.1.L.length u6z, .i y13.1.Min, .i y13.1.Max]) 8 0) :: (some gx0, .row 69 [.string y13.2.s, .i y13.2.at_, .i y13.2.deep, u3y] 4 0) :: (some gx2, .row 28 (.i x2v.Kind :: U4 x2v.Set [.slice (Gp u6o) x2v.L.length u6q, .i x2v.Min, .i x2v.Max]) 8 0) :: (u6o, .row 28 u6r (u6q * kT27.size) 0) :: Lr) := p8
  refine Goes.rn 6 [(17, (pt gx0 0)), (18, (pt gx0 0)), (19, (pt gx0 2))] Jcm ?_
  refine Goes.ld 3 (.tmp 19) 20 3 ⟨gx0, 2, none⟩ (.i y13.2.deep) (p8.c 1 2) ?_
  refine Goes.rn 3 [(21, .i (wr .i64 (y13.2.deep - 1))), (22, (pt gx0 0)), (23, (pt gx0 2))] Jcn ?_
  refine Op_.st 3 (.tmp 23) (.tmp 21) 0 1 gx0 2 (.i (wr .i64 (y13.2.deep - 1))) [.i (wr .i64 (y13.2.deep - 1))] p8 rfl Goes.s (by kernel_rfl) (by kernel_rfl) (by kernel_rfl) (by kernel_rfl) (Nat.zero_le _) (by simp only [List.length_cons, List.length_nil]; omega) (by simp [Value.oneCell']) ?_
  intro w9 z9 p9
  have p9 : Hp nz wz S6 w9 ((some b15, .row 28 (.i y13.1.Kind :: U4 y13.1.Set [.slice u6x y13.1.L.length u6z, .i y13.1.Min, .i y13.1.Max]) 8 0) :: (some gx0, .row 69 [.string y13.2.s, .i y13.2.at_, .i (wr .i64 (y13.2.deep - 1)), u3y] 4 0) :: (some gx2, .row 28 (.i x2v.Kind :: U4 x2v.Set [.slice (Gp u6o) x2v.L.length u6q, .i x2v.Min, .i x2v.Max]) 8 0) :: (u6o, .row 28 u6r (u6q * kT27.size) 0) :: Lr) := p9
  refine Goes.rn 4 [(24, (pt gx0 0))] Jcp ?_
  have p9 := p9.fr 1
  refine bind_some' h fun y17 e18 h => ?_
  refine Goes.cal (.call { callee := .value (.func 95), args := #[(.tmp 24), (.const (.int .u8 41))], argTypes := #[66, 5] }) 25 0 95 _ (W.zy (⟨y13.2.s, y13.2.at_, wr .i64 (y13.2.deep - 1), y13.2.bad⟩ : T68) 41 y17 e18 gx0 u3y p9 (u3z.ext ((z7.trans z8).trans z9))) ?_
  rintro _ w10 ⟨S10, u2u, rfl, z10, p10, u2v⟩
  refine Goes.rn 3 [] Jcr ?_
  refine Goes.ldN 28 (.tmp 3) 26 28 ⟨b15, 0, none⟩ (.i y13.1.Kind :: U4 y13.1.Set [.slice u6x y13.1.L.length u6z, .i y13.1.Min, .i y13.1.Max]) (p10.pa 1 0) ?_
  refine Op_.st 28 (.tmp 2) (.tmp 26) 0 2 gx2 0 (ag (.i y13.1.Kind :: U4 y13.1.Set [.slice u6x y13.1.L.length u6z, .i y13.1.Min, .i y13.1.Max])) (.i y13.1.Kind :: U4 y13.1.Set [.slice u6x y13.1.L.length u6z, .i y13.1.Min, .i y13.1.Max]) p10 rfl Goes.s (by kernel_rfl) (by kernel_rfl) (by kernel_rfl) (by kernel_rfl) (Nat.zero_le _) (by simp only [List.length_cons, List.length_nil]; omega) (by simp [Value.oneCell']) ?_
  intro w11 z11 p11
  have p11 : Hp nz wz S10 w11 ((some gx0, .row 69 [.string y17.s, .i y17.at_, .i y17.deep, u2u] 4 0) :: (some b15, .row 28 (.i y13.1.Kind :: U4 y13.1.Set [.slice u6x y13.1.L.length u6z, .i y13.1.Min, .i y13.1.Max]) 8 0) :: (some gx2, .row 28 (.i y13.1.Kind :: U4 y13.1.Set [.slice u6x y13.1.L.length u6z, .i y13.1.Min, .i y13.1.Max]) 8 0) :: (u6o, .row 28 u6r (u6q * kT27.size) 0) :: Lr) := p11
  refine Goes.rn 1 [] Jcq ?_
  obtain rfl := Option.some.inj h
  have p11 := (p11.dp 1).dp 2
  have p11 := (p11.fr 0).fr 1
  exact Goes.ret (fn := Tryd.f92) (by kernel_rfl) (v := (ag (.i y13.1.Kind :: U4 y13.1.Set [.slice u6x y13.1.L.length u6z, .i y13.1.Min, .i y13.1.Max]))) (results_n1 (fn := Tryd.f92) (a := .cell 2 28) (by kernel_rfl) (resV_cell ⟨gx2, 0, none⟩ (by kernel_rfl) (run_loadN (.i y13.1.Kind :: U4 y13.1.Set [.slice u6x y13.1.L.length u6z, .i y13.1.Min, .i y13.1.Max]) (by kernel_rfl) (by kernel_rfl) (p11.pa 0 0)))) ⟨S10, u6x, y13.1.L.length, u6z, u2u, rfl, (((((((hx.trans z5).trans z6).trans z7).trans z8).trans z9).trans z10).trans z11), p11.drop, u70, (u71.ext ((((z7.trans z8).trans z9).trans z10).trans z11)), rfl, (u2v.ext z11)⟩

theorem W.z16 : ∀ a r, M.syntax_parser_alternation a = some r → LF.z16 a r := (W.z1h).1

theorem W.z1g : ∀ a r, M.syntax_parser_alternation_l0 a = some r → LL.z1g a r := (W.z1h).2.1

theorem W.z17 : ∀ a r, M.syntax_parser_sequence a = some r → LF.z17 a r := (W.z1h).2.2.1

theorem W.z1b : ∀ a r, M.syntax_parser_sequence_l0 a = some r → LL.z1b a r := (W.z1h).2.2.2.1

theorem W.z1c : ∀ a r, M.syntax_parser_sequence_l1 a = some r → LL.z1c a r := (W.z1h).2.2.2.2.1

theorem W.z18 : ∀ a r, M.syntax_parser_piece a = some r → LF.z18 a r := (W.z1h).2.2.2.2.2.1

theorem W.z19 : ∀ a r, M.syntax_parser_atom a = some r → LF.z19 a r := (W.z1h).2.2.2.2.2.2.1

theorem W.z1d : ∀ a r, M.syntax_parser_atom_l0 a = some r → LL.z1d a r := (W.z1h).2.2.2.2.2.2.2.1

theorem W.z1e : ∀ a r, M.syntax_parser_atom_l1 a = some r → LL.z1e a r := (W.z1h).2.2.2.2.2.2.2.2.1

theorem W.z1a : ∀ a r, M.syntax_parser_group a = some r → LF.z1a a r := (W.z1h).2.2.2.2.2.2.2.2.2.1

theorem W.z1f : ∀ a r, M.syntax_parser_group_l0 a = some r → LL.z1f a r := (W.z1h).2.2.2.2.2.2.2.2.2.2

def Qap := sub [1, 1, 1, 1, 1, 1] B11
def Jcs : List Item := [.code Qap]
def Qaq := sub [1, 1, 1, 1, 1, 0, 1] B11
def Jct : List Item := .code Qaq :: Jcs
def Qar := sub [1, 1, 1, 1, 1, 0, 1, 0, 1] B11
def Jcu : List Item := .code Qar :: Jcs
def Qas := sub [1, 1, 1, 1, 1, 0, 1, 0, 0] B11
def Jcv : List Item := .code Qas :: Jcu
def Qat := sub [1, 1, 1, 1, 1, 1, 1] B11
def Jcw : List Item := [.code Qat]
def Qau := sub [1, 1, 1, 1, 1, 1, 0] B11
def Jcx : List Item := .inRegion (opsOf Qau) [0, 1, 2, 3] :: Jcw

def Post.z1i (r : T27 × Int × Int) (v : Value) (w' : World) : Prop :=
 ∃ S' u8p u8q u8r, v = .tuple #[(ag (.i r.1.Kind :: U4 r.1.Set [.slice u8p u8q u8r, .i r.1.Min, .i r.1.Max])), .i r.2.1, .i r.2.2] ∧ Ext S0 w0 S' w' ∧ Hp nz wz S' w' (Lr) ∧ r.1.Set.length = 4 ∧ Rd kT27 S' w' u8p u8r r.1.L ∧ r.1.L.length = u8q

def L.z1j : T27 × T68 × T27 × Bool → (T27 × Int × Int) → Prop := fun ⟨x2v, x5v, x6v, x40⟩ r => ∀ S1 w1, Ext S0 w0 S1 w1 → ∀ gx2 u6o u6p u6q u6r gx5 u8s gx6 u8t u8u u8v (_ : Hp nz wz S1 w1 ((some gx2, .row 28 (.i x2v.Kind :: U4 x2v.Set [.slice (Gp u6o) u6p u6q, .i x2v.Min, .i x2v.Max]) 8 0) :: (u6o, .row 28 u6r (u6q * kT27.size) 0) :: (some gx5, .row 69 [.string x5v.s, .i x5v.at_, .i x5v.deep, u8s] 4 0) :: (some gx6, .row 28 (.i x6v.Kind :: U4 x6v.Set [.slice u8t u8u u8v, .i x6v.Min, .i x6v.Max]) 8 0) :: Lr)) (_ : x2v.Set.length = 4) (_ : Els kT27 S1 w1 u6r x2v.L) (_ : x2v.L.length = u6p) (_ : PtO kT72 S1 w1 u8s x5v.bad) (_ : x6v.Set.length = 4) (_ : Rd kT27 S1 w1 u8t u8v x6v.L) (_ : x6v.L.length = u8u) (junk : Nat → Value),
 Goes Tryd.prog (base 11) Jct ⟨lfr 50 [(2, (pt gx2 0)), (5, (pt gx5 0)), (6, (pt gx6 0)), (40, .bool x40)] junk, []⟩ w1 (Done Tryd.prog 11 (Rets (Post.z1i nz wz S0 w0 Lr r)))

theorem W.z1j {nz wz S0 w0 Lr} [Gw nz wz] : ∀ a r, M.syntax_Parse_l2 a = some r → L.z1j nz wz S0 w0 Lr a r := by
 intro ⟨x2v, x5v, x6v, x40⟩ r h S1 w1 hx gx2 u6o u6p u6q u6r gx5 u8s gx6 u8t u8u u8v p1 u6u u6v u6w u8w u8x u8y u8z junk
 rw [M.syntax_Parse_l2] at h
 try dsimp only at h
 subst u6w
 subst u8z
 refine ite_some h (fun h41 h => ?_) (fun h41 h => ?_)
 ·
  rw [h41]
  refine Goes.rn 2 [] Jcv ?_
  have z9 : Ext S1 w1 S1 (w1).drew := Ext.draw
  have p9 := p1.draw
  refine Goes.drawn (s := []) (F := Fc S1 (w1).drew [(⟨gx5, 3, none⟩, u8s)]) 8 11 (by kernel_rfl) (by kernel_rfl) (by kernel_rfl) (by kernel_rfl) ?_
  generalize (w1).drew = w9 at z9 p9 ⊢
  refine AnyG.pu 0 (.build 28 #[]) 41 28 (.agg #[.i 0, .u 0, .u 0, .u 0, .u 0, .slice none 0 0, .i 0, .i 0]) (Fc.here (p9.cs [(2, 3, 1)])) ?_
  refine AnyG.pu 1 (.move (.tmp 5)) 42 66 ((pt gx5 0)) (Fc.here (p9.cs [(2, 3, 1)])) ?_
  refine AnyG.pu 2 (.nilCheck (.tmp 42)) 43 0 ((pt gx5 0)) (Fc.here (p9.cs [(2, 3, 1)])) ?_
  refine AnyG.pu 3 (.fieldAddr 69 (.tmp 43) 3) 44 0 ((pt gx5 3)) (Fc.here (p9.cs [(2, 3, 1)])) ?_
  refine AnyG.ld1 (i := 4) 67 (.tmp 44) 45 67 ⟨gx5, 3, none⟩ (u8s) (by kernel_rfl) (by kernel_rfl) (Fc.here (p9.cs [(2, 3, 1)])) (by kernel_rfl) (by kernel_rfl) (fun _ h => h.2.at_ 0 rfl) ?_
  refine let_some h fun v48 h42 h => ?_
  rcases v48 with _ | y43
  ·
   try dsimp only at h
   obtain rfl := PtO.nil (u8w.ext z9) h42
   cases h
  ·
   try dsimp only at h
   obtain ⟨a45, _, rfl, -, f46, q47⟩ := PtO.got (u8w.ext z9) h42
   obtain rfl := q47
   refine AnyG.pu 5 (.nilCheck (.tmp 45)) 46 0 (.pointer (some a45)) (Fc.here (p9.cs [(2, 3, 1)])) ?_
   refine AnyG.pu 6 (.fieldAddr 73 (.tmp 46) 0) 47 0 (.pointer (some (Addr.add a45 0))) (Fc.here (p9.cs [(2, 3, 1)])) ?_
   refine AnyG.ld1 (i := 7) 3 (.tmp 47) 48 3 (Addr.add a45 0) (.i y43.at_) (by kernel_rfl) (by kernel_rfl) (Fc.here (p9.cs [(2, 3, 1)])) (by kernel_rfl) (by kernel_rfl) (fun _ h => (Cs.left (us := [.i y43.at_]) (vs := []) (Cs.add (us := []) (vs := [.i y43.at_]) f46)).fc h 0 _ rfl) ?_
   refine Op_.st 28 (.tmp 2) (.tmp 41) 0 0 gx2 0 (.agg #[.i 0, .u 0, .u 0, .u 0, .u 0, .slice none 0 0, .i 0, .i 0]) [.i 0, .u 0, .u 0, .u 0, .u 0, .slice none 0 0, .i 0, .i 0] p9 rfl (AnyG.ss (i := 8) (by kernel_rfl) (by kernel_rfl)) (by kernel_rfl) (by kernel_rfl) (by kernel_rfl) (by kernel_rfl) (Nat.zero_le _) (by simp only [List.length_cons, List.length_nil]; omega) (by simp [Value.oneCell']) ?_
   intro w10 z10 p10
   have p10 : Hp nz wz S1 w10 ((some gx2, .row 28 [.i 0, .u 0, .u 0, .u 0, .u 0, .slice none 0 0, .i 0, .i 0] 8 0) :: (u6o, .row 28 u6r (u6q * kT27.size) 0) :: (some gx5, .row 69 [.string x5v.s, .i x5v.at_, .i x5v.deep, .pointer (some a45)] 4 0) :: (some gx6, .row 28 (.i x6v.Kind :: U4 x6v.Set [.slice u8t x6v.L.length u8v, .i x6v.Min, .i x6v.Max]) 8 0) :: Lr) := p10
   refine AnyG.next z10 ⟨(p10.c 2 3), trivial⟩ ?_
   refine AnyG.pu 9 (.assign (.tmp 48)) 3 3 (.i y43.at_) (Fc.here (p10.cs [(2, 3, 1)])) ?_
   refine AnyG.pu 10 (.assign (.const (.int .i64 100))) 4 29 (.i 100) (Fc.here (p10.cs [(2, 3, 1)])) ?_
   refine AnyG.done (by kernel_rfl) ?_ _
   have p10 := ((p10.dp 1).dp 1).dp 1
   obtain rfl := Option.some.inj h
   exact Goes.ret (fn := Tryd.f11) (by kernel_rfl) (v := .tuple #[.agg #[.i 0, .u 0, .u 0, .u 0, .u 0, .slice none 0 0, .i 0, .i 0], .i y43.at_, .i 100]) (results_n3 (fn := Tryd.f11) (a := .cell 2 28) (b := .tmp 3) (c := .tmp 4) (by kernel_rfl) (resV_cell ⟨gx2, 0, none⟩ (by kernel_rfl) (run_loadN [.i 0, .u 0, .u 0, .u 0, .u 0, .slice none 0 0, .i 0, .i 0] (by kernel_rfl) (by kernel_rfl) (p10.pa 0 0))) (resV_tmp (by kernel_rfl)) (resV_tmp (by kernel_rfl))) ⟨S1, none, 0, 0, rfl, ((hx.trans z9).trans z10), p10.drop, rfl, Rd.none_, rfl⟩
 ·
  have u90 : x40 = false := by simpa using h41
  rw [u90]
  refine Goes.rn 4 [] Jcx ?_
  refine Goes.ldN 28 (.tmp 6) 49 28 ⟨gx6, 0, none⟩ (.i x6v.Kind :: U4 x6v.Set [.slice u8t x6v.L.length u8v, .i x6v.Min, .i x6v.Max]) (p1.pa 3 0) ?_
  refine Op_.st 28 (.tmp 2) (.tmp 49) 0 0 gx2 0 (ag (.i x6v.Kind :: U4 x6v.Set [.slice u8t x6v.L.length u8v, .i x6v.Min, .i x6v.Max])) (.i x6v.Kind :: U4 x6v.Set [.slice u8t x6v.L.length u8v, .i x6v.Min, .i x6v.Max]) p1 rfl Goes.s (by kernel_rfl) (by kernel_rfl) (by kernel_rfl) (by kernel_rfl) (Nat.zero_le _) (by simp only [List.length_cons, List.length_nil]; omega) (by simp [Value.oneCell']) ?_
  intro w11 z11 p11
  have p11 : Hp nz wz S1 w11 ((some gx2, .row 28 (.i x6v.Kind :: U4 x6v.Set [.slice u8t x6v.L.length u8v, .i x6v.Min, .i x6v.Max]) 8 0) :: (u6o, .row 28 u6r (u6q * kT27.size) 0) :: (some gx5, .row 69 [.string x5v.s, .i x5v.at_, .i x5v.deep, u8s] 4 0) :: (some gx6, .row 28 (.i x6v.Kind :: U4 x6v.Set [.slice u8t x6v.L.length u8v, .i x6v.Min, .i x6v.Max]) 8 0) :: Lr) := p11
  refine Goes.rn 3 [(3, .i 0), (4, .i 0)] Jcw ?_
  obtain rfl := Option.some.inj h
  have p11 := ((p11.dp 1).dp 1).dp 1
  exact Goes.ret (fn := Tryd.f11) (by kernel_rfl) (v := .tuple #[(ag (.i x6v.Kind :: U4 x6v.Set [.slice u8t x6v.L.length u8v, .i x6v.Min, .i x6v.Max])), .i 0, .i 0]) (results_n3 (fn := Tryd.f11) (a := .cell 2 28) (b := .tmp 3) (c := .tmp 4) (by kernel_rfl) (resV_cell ⟨gx2, 0, none⟩ (by kernel_rfl) (run_loadN (.i x6v.Kind :: U4 x6v.Set [.slice u8t x6v.L.length u8v, .i x6v.Min, .i x6v.Max]) (by kernel_rfl) (by kernel_rfl) (p11.pa 0 0))) (resV_tmp (by kernel_rfl)) (resV_tmp (by kernel_rfl))) ⟨S1, u8t, x6v.L.length, u8v, rfl, (hx.trans z11), p11.drop, u8x, (u8y.ext z11), rfl⟩

def Qav := sub [1, 1, 1, 1, 1] B11
def Jcy : List Item := [.code Qav]
def Qaw := sub [1, 1, 1, 1, 1, 0, 0] B11
def Jcz : List Item := .inRegion (opsOf Qaw) [3, 4] :: Jct

def L.z1k : T27 × T68 × T27 → (T27 × Int × Int) → Prop := fun ⟨x2v, x5v, x6v⟩ r => ∀ S1 w1, Ext S0 w0 S1 w1 → ∀ gx2 u6o u6p u6q u6r gx5 u8s gx6 u8t u8u u8v (_ : Hp nz wz S1 w1 ((some gx2, .row 28 (.i x2v.Kind :: U4 x2v.Set [.slice (Gp u6o) u6p u6q, .i x2v.Min, .i x2v.Max]) 8 0) :: (u6o, .row 28 u6r (u6q * kT27.size) 0) :: (some gx5, .row 69 [.string x5v.s, .i x5v.at_, .i x5v.deep, u8s] 4 0) :: (some gx6, .row 28 (.i x6v.Kind :: U4 x6v.Set [.slice u8t u8u u8v, .i x6v.Min, .i x6v.Max]) 8 0) :: Lr)) (_ : x2v.Set.length = 4) (_ : Els kT27 S1 w1 u6r x2v.L) (_ : x2v.L.length = u6p) (_ : PtO kT72 S1 w1 u8s x5v.bad) (_ : x6v.Set.length = 4) (_ : Rd kT27 S1 w1 u8t u8v x6v.L) (_ : x6v.L.length = u8u) (junk : Nat → Value),
 Goes Tryd.prog (base 11) Jcy ⟨lfr 50 [(2, (pt gx2 0)), (5, (pt gx5 0)), (6, (pt gx6 0))] junk, []⟩ w1 (Done Tryd.prog 11 (Rets (Post.z1i nz wz S0 w0 Lr r)))

theorem W.z1k {nz wz S0 w0 Lr} [Gw nz wz] : ∀ a r, M.syntax_Parse_l1 a = some r → L.z1k nz wz S0 w0 Lr a r := by
 intro ⟨x2v, x5v, x6v⟩ r h S1 w1 hx gx2 u6o u6p u6q u6r gx5 u8s gx6 u8t u8u u8v p1 u6u u6v u6w u8w u8x u8y u8z junk
 rw [M.syntax_Parse_l1] at h
 try dsimp only at h
 subst u6w
 subst u8z
 refine Goes.rn 6 [(36, (pt gx5 0)), (37, (pt gx5 0)), (38, (pt gx5 3))] Jcz ?_
 refine Goes.ld 67 (.tmp 38) 39 67 ⟨gx5, 3, none⟩ (u8s) (p1.c 2 3) ?_
 refine let_some h fun v40 h30 h => ?_
 rcases v40 with _ | y31
 ·
  try dsimp only at h
  obtain rfl := PtO.nil u8w h30
  refine Goes.rn 2 [(40, .bool false)] Jct ?_
  exact Goes.jp 50 [(2, (pt gx2 0)), (5, (pt gx5 0)), (6, (pt gx6 0)), (40, .bool false)] (W.z1j _ _ h _ _ hx gx2 u6o x2v.L.length u6q u6r gx5 (.pointer none) gx6 u8t x6v.L.length u8v p1 u6u u6v rfl rfl u8x u8y rfl)
 ·
  try dsimp only at h
  obtain ⟨a33, _, rfl, -, f34, q35⟩ := PtO.got u8w h30
  obtain rfl := q35
  refine Goes.rn 2 [(40, .bool true)] Jct ?_
  exact Goes.jp 50 [(2, (pt gx2 0)), (5, (pt gx5 0)), (6, (pt gx6 0)), (40, .bool true)] (W.z1j _ _ h _ _ hx gx2 u6o x2v.L.length u6q u6r gx5 (.pointer (some a33)) gx6 u8t x6v.L.length u8v p1 u6u u6v rfl ⟨_, _, rfl, List.cons_ne_nil _ _, f34, rfl⟩ u8x u8y rfl)

def Qax := sub [1, 1, 1, 1, 0, 1] B11
def Jd0 : List Item := .code Qax :: Jcy
def Qay := sub [1, 1, 1, 1, 0, 1, 0] B11
def Jd1 : List Item := .inRegion (opsOf Qay) [4, 5] :: Jcy

def L.z1l : T27 × T68 × T27 × Bool → (T27 × Int × Int) → Prop := fun ⟨x2v, x5v, x6v, x29⟩ r => ∀ S1 w1, Ext S0 w0 S1 w1 → ∀ gx2 u6o u6p u6q u6r gx5 u8s gx6 u8t u8u u8v (_ : Hp nz wz S1 w1 ((some gx2, .row 28 (.i x2v.Kind :: U4 x2v.Set [.slice (Gp u6o) u6p u6q, .i x2v.Min, .i x2v.Max]) 8 0) :: (u6o, .row 28 u6r (u6q * kT27.size) 0) :: (some gx5, .row 69 [.string x5v.s, .i x5v.at_, .i x5v.deep, u8s] 4 0) :: (some gx6, .row 28 (.i x6v.Kind :: U4 x6v.Set [.slice u8t u8u u8v, .i x6v.Min, .i x6v.Max]) 8 0) :: Lr)) (_ : x2v.Set.length = 4) (_ : Els kT27 S1 w1 u6r x2v.L) (_ : x2v.L.length = u6p) (_ : PtO kT72 S1 w1 u8s x5v.bad) (_ : x6v.Set.length = 4) (_ : Rd kT27 S1 w1 u8t u8v x6v.L) (_ : x6v.L.length = u8u) (junk : Nat → Value),
 Goes Tryd.prog (base 11) Jd0 ⟨lfr 50 [(2, (pt gx2 0)), (5, (pt gx5 0)), (6, (pt gx6 0)), (29, .bool x29)] junk, []⟩ w1 (Done Tryd.prog 11 (Rets (Post.z1i nz wz S0 w0 Lr r)))

theorem W.z1l {nz wz S0 w0 Lr} [Gw nz wz] : ∀ a r, M.syntax_Parse_l0 a = some r → L.z1l nz wz S0 w0 Lr a r := by
 intro ⟨x2v, x5v, x6v, x29⟩ r h S1 w1 hx gx2 u6o u6p u6q u6r gx5 u8s gx6 u8t u8u u8v p1 u6u u6v u6w u8w u8x u8y u8z junk
 rw [M.syntax_Parse_l0] at h
 try dsimp only at h
 subst u6w
 subst u8z
 refine ite_some h (fun h23 h => ?_) (fun h23 h => ?_)
 ·
  rw [h23]
  refine Goes.rn 6 [(30, (pt gx5 0)), (31, (pt gx5 0)), (32, (pt gx5 0)), (33, (pt gx5 1))] Jd1 ?_
  refine Goes.ld 3 (.tmp 33) 34 3 ⟨gx5, 1, none⟩ (.i x5v.at_) (p1.c 2 1) ?_
  have p1 := p1.fr 2
  refine bind_some' h fun y24 e25 h => ?_
  refine Goes.cal (kc 31 [30, 34] #[66, 3]) 35 28 31 _ (W.z2 x5v x5v.at_ y24 e25 gx5 u8s p1 u8w) ?_
  rintro _ w8 ⟨S8, u31, u32, u33, u34, rfl, z8, p8, u35, u36, rfl, u37⟩
  refine Goes.rn 1 [] Jcy ?_
  have p8 := (((p8.fr 3).fr 1).fr 3).fr 3
  exact Goes.jp 50 [(2, (pt gx2 0)), (5, (pt gx5 0)), (6, (pt gx6 0))] (W.z1k _ _ h _ _ (hx.trans z8) gx2 u6o x2v.L.length u6q u6r gx5 u34 gx6 u8t x6v.L.length u8v p8 u6u (u6v.ext z8) rfl u37 u8x (u8y.ext z8) rfl)
 ·
  have u91 : x29 = false := by simpa using h23
  rw [u91]
  refine Goes.rn 2 [] Jcy ?_
  exact Goes.jp 50 [(2, (pt gx2 0)), (5, (pt gx5 0)), (6, (pt gx6 0))] (W.z1k _ _ h _ _ hx gx2 u6o x2v.L.length u6q u6r gx5 u8s gx6 u8t x6v.L.length u8v p1 u6u u6v rfl u8w u8x u8y rfl)

def Qaz := sub [1] B11
def Jd2 : List Item := [.code Qaz]
def Qb0 := sub [0] B11
def Jd3 : List Item := .inRegion (opsOf Qb0) [0, 1, 2] :: Jd2
def Qb1 := sub [1, 1] B11
def Jd4 : List Item := [.code Qb1]
def Qb2 := sub [1, 0, 1] B11
def Jd5 : List Item := .code Qb2 :: Jd4
def Qb3 := sub [1, 0, 1, 0, 1] B11
def Jd6 : List Item := .code Qb3 :: Jd4
def Qb4 := sub [1, 0, 1, 0, 0] B11
def Jd7 : List Item := .inRegion (opsOf Qb4) [1, 2, 3] :: Jd6
def Qb5 := sub [1, 1, 1] B11
def Jd8 : List Item := [.code Qb5]
def Qb6 := sub [1, 1, 0] B11
def Jd9 : List Item := .inRegion (opsOf Qb6) [2, 3] :: Jd8
def Qb7 := sub [1, 1, 1, 1] B11
def Jda : List Item := [.code Qb7]
def Qb8 := sub [1, 1, 1, 0] B11
def Jdb : List Item := .inRegion (opsOf Qb8) [1, 2, 3] :: Jda
def Qb9 := sub [1, 1, 1, 1, 0, 0] B11
def Jdc : List Item := .inRegion (opsOf Qb9) [3, 4, 5, 6, 7, 8, 9, 10, 11, 12, 13] :: Jd0
def Jdd : List Item := .inRegion (opsOf Qb9) [9, 10, 11, 12, 13] :: Jd0

theorem W.z1i (x0 : ByteArray) (r : T27 × Int × Int) (h : M.syntax_Parse x0 = some r) {nz wz S0 w0 Lr} [Gw nz wz] (p0 : Hp nz wz S0 w0 (Lr)) :
  Calls Tryd.prog 11 #[.string x0] w0 (Rets (Post.z1i nz wz S0 w0 Lr r)) := by
 refine calls_of_goes (fn := Tryd.f11) (c := B11) (by kernel_rfl) (by kernel_rfl) 49 (by kernel_rfl) ?_
 refine Goes.jp 50 [(0, .string x0)] (fun junk => ?_)
 delta M.syntax_Parse at h
 refine Goes.rn 2 [] Jd3 ?_
 refine Op_.alloc 28 2 0 (.agg #[.i 0, .u 0, .u 0, .u 0, .u 0, .slice none 0 0, .i 0, .i 0]) [.i 0, .u 0, .u 0, .u 0, .u 0, .slice none 0 0, .i 0, .i 0] p0 Goes.v (by kernel_rfl) (by kernel_rfl) ?_
 intro b1 w2 z2 p2
 refine Goes.rn 10 [(3, .i 0), (4, .i 0), (7, .string x0), (8, .i (x0.size : Int)), (9, .bool (decide ((x0.size : Int) > 256)))] Jd5 ?_
 refine ite_some h (fun h3 h => ?_) (fun h3 h => ?_)
 ·
  rw [decide_eq_true h3]
  refine Goes.rn 4 [(10, .agg #[.i 0, .u 0, .u 0, .u 0, .u 0, .slice none 0 0, .i 0, .i 0])] Jd7 ?_
  refine Op_.st 28 (.tmp 2) (.tmp 10) 0 0 b1 0 (.agg #[.i 0, .u 0, .u 0, .u 0, .u 0, .slice none 0 0, .i 0, .i 0]) [.i 0, .u 0, .u 0, .u 0, .u 0, .slice none 0 0, .i 0, .i 0] p2 rfl Goes.s (by kernel_rfl) (by kernel_rfl) (by kernel_rfl) (by kernel_rfl) (Nat.zero_le _) (by simp only [List.length_cons, List.length_nil]; omega) (by simp [Value.oneCell']) ?_
  intro w3 z3 p3
  have p3 : Hp nz wz S0 w3 ((some b1, .row 28 [.i 0, .u 0, .u 0, .u 0, .u 0, .slice none 0 0, .i 0, .i 0] 8 0) :: Lr) := p3
  refine Goes.rn 3 [(3, .i 0), (4, .i 3)] Jd6 ?_
  obtain rfl := Option.some.inj h
  exact Goes.ret (fn := Tryd.f11) (by kernel_rfl) (v := .tuple #[.agg #[.i 0, .u 0, .u 0, .u 0, .u 0, .slice none 0 0, .i 0, .i 0], .i 0, .i 3]) (results_n3 (fn := Tryd.f11) (a := .cell 2 28) (b := .tmp 3) (c := .tmp 4) (by kernel_rfl) (resV_cell ⟨b1, 0, none⟩ (by kernel_rfl) (run_loadN [.i 0, .u 0, .u 0, .u 0, .u 0, .slice none 0 0, .i 0, .i 0] (by kernel_rfl) (by kernel_rfl) (p3.pa 0 0))) (resV_tmp (by kernel_rfl)) (resV_tmp (by kernel_rfl))) ⟨S0, none, 0, 0, rfl, (((Ext.refl S0 w0).trans z2).trans z3), p3.drop, rfl, Rd.none_, rfl⟩
 ·
  rw [decide_eq_false h3]
  refine Goes.rn 6 [(11, .string x0), (12, .agg #[.string x0, .i 0, .i 0, .pointer none])] Jd9 ?_
  refine Op_.box 69 (.tmp 12) 13 66 (.agg #[.string x0, .i 0, .i 0, .pointer none]) [.string x0, .i 0, .i 0, .pointer none] p2 Goes.v (by kernel_rfl) (by kernel_rfl) ?_
  intro b4 w4 z4 p4
  refine Goes.rn 5 [(5, (pt b4 0)), (14, (pt b4 0))] Jdb ?_
  refine bind_some' h fun y6 e7 h => ?_
  refine Goes.cal (kc 30 [14] #[66]) 15 28 30 _ (W.z16 (⟨x0, 0, 0, none⟩ : T68) y6 e7 b4 (.pointer none) p4 rfl) ?_
  rintro _ w5 ⟨S5, u7r, u7s, u7t, u3a, rfl, z5, p5, u7u, u7v, rfl, u3c⟩
  refine Op_.alloc 28 6 0 (.agg #[.i 0, .u 0, .u 0, .u 0, .u 0, .slice none 0 0, .i 0, .i 0]) [.i 0, .u 0, .u 0, .u 0, .u 0, .slice none 0 0, .i 0, .i 0] p5 Goes.v (by kernel_rfl) (by kernel_rfl) ?_
  intro b8 w6 z6 p6
  refine Op_.st 28 (.tmp 6) (.tmp 15) 0 0 b8 0 (ag (.i y6.1.Kind :: U4 y6.1.Set [.slice u7r y6.1.L.length u7t, .i y6.1.Min, .i y6.1.Max])) (.i y6.1.Kind :: U4 y6.1.Set [.slice u7r y6.1.L.length u7t, .i y6.1.Min, .i y6.1.Max]) p6 rfl Goes.s (by kernel_rfl) (by kernel_rfl) (by kernel_rfl) (by kernel_rfl) (Nat.zero_le _) (by simp only [List.length_cons, List.length_nil]; omega) (by simp [Value.oneCell']) ?_
  intro w7 z7 p7
  have p7 : Hp nz wz S5 w7 ((some b8, .row 28 (.i y6.1.Kind :: U4 y6.1.Set [.slice u7r y6.1.L.length u7t, .i y6.1.Min, .i y6.1.Max]) 8 0) :: (some b4, .row 69 [.string y6.2.s, .i y6.2.at_, .i y6.2.deep, u3a] 4 0) :: (some b1, .row 28 [.i 0, .u 0, .u 0, .u 0, .u 0, .slice none 0 0, .i 0, .i 0] 8 0) :: Lr) := p7
  refine Goes.rn 7 [(16, (pt b4 0)), (17, (pt b4 0)), (18, (pt b4 3))] Jdc ?_
  refine Goes.ld 67 (.tmp 18) 19 67 ⟨b4, 3, none⟩ (u3a) (p7.c 1 3) ?_
  refine let_some h fun v22 h10 h => ?_
  rcases v22 with _ | y11
  ·
   try dsimp only at h
   obtain rfl := PtO.nil (u3c.ext (z6.trans z7)) h10
   refine Goes.rn 5 [(20, .bool true), (21, .bool true), (22, (pt b4 0)), (23, (pt b4 0)), (24, (pt b4 1))] Jdd ?_
   refine Goes.ld 3 (.tmp 24) 25 3 ⟨b4, 1, none⟩ (.i y6.2.at_) (p7.c 1 1) ?_
   refine Goes.rn 5 [(26, .string x0), (27, .i (x0.size : Int)), (28, .bool (decide (y6.2.at_ < (x0.size : Int)))), (29, .bool (decide (y6.2.at_ < (x0.size : Int))))] Jd0 ?_
   have p7 : Hp nz wz S5 w7 ((none, .row 28 [] (0 * kT27.size) 0) :: (some b8, .row 28 (.i y6.1.Kind :: U4 y6.1.Set [.slice u7r y6.1.L.length u7t, .i y6.1.Min, .i y6.1.Max]) 8 0) :: (some b4, .row 69 [.string y6.2.s, .i y6.2.at_, .i y6.2.deep, .pointer none] 4 0) :: (some b1, .row 28 [.i 0, .u 0, .u 0, .u 0, .u 0, .slice none 0 0, .i 0, .i 0] 8 0) :: Lr) := p7.nilRow' 28
   have p7 := (((p7.fr 1).fr 2).fr 2).fr 3
   exact Goes.jp 50 [(2, (pt b1 0)), (5, (pt b4 0)), (6, (pt b8 0)), (29, .bool (decide (y6.2.at_ < (x0.size : Int))))] (W.z1l _ _ h _ _ ((((((Ext.refl S0 w0).trans z2).trans z4).trans z5).trans z6).trans z7) b1 none 0 0 [] b4 (.pointer none) b8 u7r y6.1.L.length u7t p7 rfl (Els.nil (K := kT27)) rfl rfl u7u (u7v.ext (z6.trans z7)) rfl)
  ·
   try dsimp only at h
   obtain ⟨a13, _, rfl, -, f14, q15⟩ := PtO.got (u3c.ext (z6.trans z7)) h10
   obtain rfl := q15
   refine Goes.rn 11 [(20, .bool false), (21, .bool false), (22, undef), (23, undef), (24, undef), (25, undef), (26, undef), (27, undef), (28, undef), (29, .bool false)] Jd0 ?_
   have p7 : Hp nz wz S5 w7 ((none, .row 28 [] (0 * kT27.size) 0) :: (some b8, .row 28 (.i y6.1.Kind :: U4 y6.1.Set [.slice u7r y6.1.L.length u7t, .i y6.1.Min, .i y6.1.Max]) 8 0) :: (some b4, .row 69 [.string y6.2.s, .i y6.2.at_, .i y6.2.deep, .pointer (some a13)] 4 0) :: (some b1, .row 28 [.i 0, .u 0, .u 0, .u 0, .u 0, .slice none 0 0, .i 0, .i 0] 8 0) :: Lr) := p7.nilRow' 28
   have p7 := (((p7.fr 1).fr 2).fr 2).fr 3
   exact Goes.jp 50 [(2, (pt b1 0)), (5, (pt b4 0)), (6, (pt b8 0)), (29, .bool false)] (W.z1l _ _ h _ _ ((((((Ext.refl S0 w0).trans z2).trans z4).trans z5).trans z6).trans z7) b1 none 0 0 [] b4 (.pointer (some a13)) b8 u7r y6.1.L.length u7t p7 rfl (Els.nil (K := kT27)) rfl ⟨_, _, rfl, List.cons_ne_nil _ _, f14, rfl⟩ u7u (u7v.ext (z6.trans z7)) rfl)

def Qba := sub [1, 1, 1] B67
def Jde : List Item := [.code Qba]
def Qbb := sub [1, 1, 0, 1] B67
def Jdf : List Item := .code Qbb :: Jde
def Qbc := sub [1, 1, 1, 1] B67
def Jdg : List Item := [.code Qbc]
def Jdh : List Item := .inBlock 0 :: Jdg
def Qbd := sub [1, 1, 1, 0, 1, 0, 0] B67
def Jdi : List Item := .inLoop Qbd :: Jdh
def Jdj : List Item := .code Qbd :: Jdi
def Qbe := sub [1] B67
def Jdk : List Item := [.code Qbe]
def Qbf := sub [0] B67
def Jdl : List Item := .inRegion (opsOf Qbf) [0, 1] :: Jdk
def Qbg := sub [1, 1] B67
def Jdm : List Item := [.code Qbg]
def Qbh := sub [1, 0] B67
def Jdn : List Item := .inRegion (opsOf Qbh) [2, 3, 4, 5] :: Jdm
def Jdo : List Item := .inRegion (opsOf Qbh) [5] :: Jdm
def Qbi := sub [1, 1, 0, 0] B67
def Jdp : List Item := .inRegion (opsOf Qbi) [3, 4, 5, 6, 7] :: Jdf
def Jdq : List Item := .inRegion (opsOf Qbi) [5, 6, 7] :: Jdf
def Qbj := sub [1, 1, 0, 1, 0, 1] B67
def Jdr : List Item := .code Qbj :: Jde
def Qbk := sub [1, 1, 1, 0, 1] B67
def Jds : List Item := .code Qbk :: Jdg
def Qbl := sub [1, 1, 1, 0, 0] B67
def Jdt : List Item := .inRegion (opsOf Qbl) [1, 2, 3] :: Jds
def Qbm := sub [1, 1, 1, 0, 1, 0, 0, 1, 1] B67
def Jdu : List Item := .code Qbm :: Jdi
def Qbn := sub [1, 1, 1, 0, 1, 0, 0, 1, 0] B67
def Jdv : List Item := .code Qbn :: Jdu
def Qbo := sub [1, 1, 1, 0, 1, 0, 0, 1, 1, 1] B67
def Jdw : List Item := .code Qbo :: Jdi
def Jdx : List Item := .inBlock 1 :: Jdw
def Qbp := sub [1, 1, 1, 0, 1, 0, 0, 1, 1, 0, 0, 1] B67
def Jdy : List Item := .code Qbp :: Jdx
def Qbq := sub [1, 1, 1, 0, 1, 0, 0, 1, 1, 0, 0, 0] B67
def Jdz : List Item := .inRegion (opsOf Qbq) [0, 1, 2, 3] :: Jdy
def Qbr := sub [1, 1, 1, 0, 1, 0, 0, 1, 1, 0, 0, 1, 1] B67
def Je0 : List Item := .code Qbr :: Jdx
def Qbs := sub [1, 1, 1, 0, 1, 0, 0, 1, 1, 0, 0, 1, 0] B67
def Je1 : List Item := .inRegion (opsOf Qbs) [0, 1, 2, 3, 4, 5] :: Je0
def Je2 : List Item := .inRegion (opsOf Qbs) [4, 5] :: Je0
def Qbt := sub [1, 1, 1, 0, 1, 0, 0, 1, 1, 0, 0, 1, 1, 0, 1] B67
def Je3 : List Item := .code Qbt :: Jdx
def Qbu := sub [1, 1, 1, 1, 1] B67
def Je4 : List Item := [.code Qbu]

def Post.z1m (gx2 : Nat) (r : Bool × Int) (v : Value) (w' : World) : Prop :=
 ∃ S', v = .bool r.1 ∧ Ext S0 w0 S' w' ∧ Hp nz wz S' w' ((some gx2, .row 3 [.i r.2] 1 0) :: Lr)

def LF.z1m : T27 × Int × Int → (Bool × Int) → Prop := fun ⟨x0, x1, ua⟩ r => ∀ {nz wz S0 w0 Lr} [Gw nz wz] u92 u93 u94 gx2 (_ : Hp nz wz S0 w0 ((some gx2, .row 3 [.i ua] 1 0) :: Lr)) (_ : x0.Set.length = 4) (_ : Rd kT27 S0 w0 u92 u94 x0.L) (_ : x0.L.length = u93),
 Calls Tryd.prog 67 #[(ag (.i x0.Kind :: U4 x0.Set [.slice u92 u93 u94, .i x0.Min, .i x0.Max])), .i x1, (pt gx2 0)] w0 (Rets (Post.z1m nz wz S0 w0 Lr gx2 r))

def L.z1n (gx2 : Nat) : Int × T27 × Bool × Int → (Bool × Int) → Prop := fun ⟨x1, x3v, x21, u95⟩ r => ∀ S1 w1, Ext S0 w0 S1 w1 → ∀ gx3 u96 u97 u98 (_ : Hp nz wz S1 w1 ((some gx3, .row 28 (.i x3v.Kind :: U4 x3v.Set [.slice u96 u97 u98, .i x3v.Min, .i x3v.Max]) 8 0) :: (some gx2, .row 3 [.i u95] 1 0) :: Lr)) (_ : x3v.Set.length = 4) (_ : Rd kT27 S1 w1 u96 u98 x3v.L) (_ : x3v.L.length = u97) (junk : Nat → Value),
 Goes Tryd.prog (base 67) Jdf ⟨lfr 36 [(1, .i x1), (2, (pt gx2 0)), (3, (pt gx3 0)), (21, .bool x21)] junk, []⟩ w1 (Done Tryd.prog 67 (Rets (Post.z1m nz wz S0 w0 Lr gx2 r)))

def LL.z1n : Int × T27 × Bool × Int → (Bool × Int) → Prop := fun a r => ∀ {nz wz S0 w0 Lr} [Gw nz wz] (gx2 : Nat), L.z1n nz wz S0 w0 Lr gx2 a r

def L.z1o (gx2 : Nat) : Int × (List T27) × Int × Int × Int → (Bool × Int) → Prop := fun ⟨x1, x23, x24, x25, u95⟩ r => ∀ S1 w1, Ext S0 w0 S1 w1 → ∀ u99 u9a u9b (_ : Hp nz wz S1 w1 ((some gx2, .row 3 [.i u95] 1 0) :: Lr)) (_ : Rd kT27 S1 w1 u99 u9b x23) (_ : x23.length = u9a) (junk : Nat → Value),
 Goes Tryd.prog (base 67) Jdj ⟨lfr 36 [(1, .i x1), (2, (pt gx2 0)), (23, .slice u99 u9a u9b), (24, .i x24), (25, .i x25)] junk, []⟩ w1 (Done Tryd.prog 67 (Rets (Post.z1m nz wz S0 w0 Lr gx2 r)))

def LL.z1o : Int × (List T27) × Int × Int × Int → (Bool × Int) → Prop := fun a r => ∀ {nz wz S0 w0 Lr} [Gw nz wz] (gx2 : Nat), L.z1o nz wz S0 w0 Lr gx2 a r

theorem W.z1p : (∀ a r, M.syntax_count a = some r → LF.z1m a r) ∧ (∀ a r, M.syntax_count_l0 a = some r → LL.z1n a r) ∧ (∀ a r, M.syntax_count_l1 a = some r → LL.z1o a r) := by
 refine M.syntax_count.mutual_partial_correctness LF.z1m LL.z1n LL.z1o ?_ ?_ ?_
 ·
  intro u9c u9d ⟨x0, x1, ua⟩ r h nz wz S0 w0 Lr iG u92 u93 u94 gx2 p0 u9e u9f u9g
  try dsimp only at h
  subst u9g
  refine calls_of_goes (fn := Tryd.f67) (c := B67) (by kernel_rfl) (by kernel_rfl) 33 (by kernel_rfl) ?_
  refine Goes.jp 36 [(0, (ag (.i x0.Kind :: U4 x0.Set [.slice u92 x0.L.length u94, .i x0.Min, .i x0.Max]))), (1, .i x1), (2, (pt gx2 0))] (fun junk => ?_)
  refine Goes.rn 2 [] Jdl ?_
  refine Op_.box 28 (.tmp 0) 3 0 (ag (.i x0.Kind :: U4 x0.Set [.slice u92 x0.L.length u94, .i x0.Min, .i x0.Max])) (.i x0.Kind :: U4 x0.Set [.slice u92 x0.L.length u94, .i x0.Min, .i x0.Max]) p0 Goes.v (by kernel_rfl) (by kernel_rfl) ?_
  intro b2 w2 z2 p2
  refine Goes.rn 6 [(6, .bool false), (9, (pt gx2 0)), (10, (pt gx2 0))] Jdn ?_
  refine Goes.ld 3 (.tmp 10) 11 3 ⟨gx2, 0, none⟩ (.i ua) (p2.c 1 0) ?_
  refine Goes.rn 2 [(12, .i (wr .i64 (ua + 1))), (13, (pt gx2 0))] Jdo ?_
  refine Op_.st 3 (.tmp 13) (.tmp 12) 0 1 gx2 0 (.i (wr .i64 (ua + 1))) [.i (wr .i64 (ua + 1))] p2 rfl Goes.s (by kernel_rfl) (by kernel_rfl) (by kernel_rfl) (by kernel_rfl) (Nat.zero_le _) (by simp only [List.length_cons, List.length_nil]; omega) (by simp [Value.oneCell']) ?_
  intro w3 z3 p3
  have p3 : Hp nz wz S0 w3 ((some b2, .row 28 (.i x0.Kind :: U4 x0.Set [.slice u92 x0.L.length u94, .i x0.Min, .i x0.Max]) 8 0) :: (some gx2, .row 3 [.i (wr .i64 (ua + 1))] 1 0) :: Lr) := p3
  refine Goes.rn 7 [(14, .i x1), (15, .bool (decide (x1 = 0))), (16, .bool (decide (x1 = 0)))] Jdp ?_
  refine ite_some h (fun h4 h => ?_) (fun h4 h => ?_)
  ·
   rw [decide_eq_true h4]
   refine Goes.rn 6 [(17, undef), (18, undef), (19, undef), (20, undef), (21, .bool true)] Jdf ?_
   exact Goes.jp 36 [(1, .i x1), (2, (pt gx2 0)), (3, (pt b2 0)), (21, .bool true)] (u9d _ _ h gx2 _ _ (((Ext.refl S0 w0).trans z2).trans z3) b2 u92 x0.L.length u94 p3 u9e (u9f.ext (z2.trans z3)) rfl)
  ·
   rw [decide_eq_false h4]
   refine Goes.rn 2 [(17, (pt gx2 0)), (18, (pt gx2 0))] Jdq ?_
   refine Goes.ld 3 (.tmp 18) 19 3 ⟨gx2, 0, none⟩ (.i (wr .i64 (ua + 1))) (p3.c 1 0) ?_
   refine Goes.rn 3 [(20, .bool (decide (wr .i64 (ua + 1) > 4096))), (21, .bool (decide (wr .i64 (ua + 1) > 4096)))] Jdf ?_
   exact Goes.jp 36 [(1, .i x1), (2, (pt gx2 0)), (3, (pt b2 0)), (21, .bool (decide (wr .i64 (ua + 1) > 4096)))] (u9d _ _ h gx2 _ _ (((Ext.refl S0 w0).trans z2).trans z3) b2 u92 x0.L.length u94 p3 u9e (u9f.ext (z2.trans z3)) rfl)
 ·
  intro u9h u9i ⟨x1, x3v, x21, u95⟩ r h nz wz S0 w0 Lr iG gx2 S1 w1 hx gx3 u96 u97 u98 p1 u9j u9k u9l junk
  try dsimp only at h
  subst u9l
  refine ite_some h (fun h6 h => ?_) (fun h6 h => ?_)
  ·
   rw [h6]
   refine Goes.rn 5 [(6, .bool false)] Jdr ?_
   obtain rfl := Option.some.inj h
   have p1 := p1.dp 0
   exact Goes.rt Tryd.f67 (.bool false) ⟨S1, rfl, hx, p1⟩
  ·
   have h6' : x21 = false := by simpa using h6
   rw [h6']
   refine Goes.rn 6 [(22, (pt gx3 5))] Jdt ?_
   refine Goes.ld 26 (.tmp 22) 23 26 ⟨gx3, 5, none⟩ (.slice u96 x3v.L.length u98) (p1.c 0 5) ?_
   refine Goes.rn 5 [(24, .i (x3v.L.length : Int)), (25, .i 0)] Jdj ?_
   have p1 := p1.dp 0
   exact Goes.jp 36 [(1, .i x1), (2, (pt gx2 0)), (23, .slice u96 x3v.L.length u98), (24, .i (x3v.L.length : Int)), (25, .i 0)] (u9i _ _ h gx2 _ _ hx u96 x3v.L.length u98 p1 u9k rfl)
 ·
  intro rec_syntax_count u9h ih_syntax_count u9i ⟨x1, x23, x24, x25, u95⟩ r h nz wz S0 w0 Lr iG gx2 S1 w1 hx u99 u9a u9b p1 u9m u9n junk
  try dsimp only at h
  subst u9n
  refine Goes.rn 5 [(26, .bool (decide (x25 < x24)))] Jdv ?_
  refine ite_some h (fun h7 h => ?_) (fun h7 h => ?_)
  ·
   rw [decide_eq_true h7]
   refine Goes.rn 6 [] Jdz ?_
   refine guard_some' h fun g8 h => ?_
   refine guard_some' h fun g9 h => ?_
   refine Op_.ixR_n 26 (.tmp 23) (.tmp 25) 27 0 28 .i64 x25 (gi x23 x25) rfl rfl u9m Goes.v (by kernel_rfl) (by kernel_rfl) (by kernel_rfl) (by kernel_rfl) g8 g9 ?_
   intro a10 _ f11 q12
   have q13 := q12
   obtain ⟨_, _, rfl, rfl, ⟨_, _, rfl, ⟨l14, f15⟩, ⟨_, _, rfl, ⟨A16, c17, rfl, f18⟩, ⟨_, _, rfl, rfl, rfl⟩⟩⟩⟩ := kT27_open q13
   obtain rfl := els_lit4' f15 l14
   refine Goes.ldN 28 (.tmp 27) 28 28 a10 ([.i ((gi x23 x25).Kind)] ++ ((U4 ((gi x23 x25).Set) []) ++ ([.slice A16 (((gi x23 x25).L).length) c17] ++ ([.i ((gi x23 x25).Min)] ++ [.i ((gi x23 x25).Max)])))) (f11.cell) ?_
   refine Op_.alloc 28 8 0 (.agg #[.i 0, .u 0, .u 0, .u 0, .u 0, .slice none 0 0, .i 0, .i 0]) [.i 0, .u 0, .u 0, .u 0, .u 0, .slice none 0 0, .i 0, .i 0] p1 Goes.v (by kernel_rfl) (by kernel_rfl) ?_
   intro b19 w4 z4 p4
   refine Op_.st 28 (.tmp 8) (.tmp 28) 0 0 b19 0 (ag (.i ((gi x23 x25).Kind) :: U4 ((gi x23 x25).Set) [.slice A16 (((gi x23 x25).L).length) c17, .i ((gi x23 x25).Min), .i ((gi x23 x25).Max)])) (.i ((gi x23 x25).Kind) :: U4 ((gi x23 x25).Set) [.slice A16 (((gi x23 x25).L).length) c17, .i ((gi x23 x25).Min), .i ((gi x23 x25).Max)]) p4 rfl Goes.s (by kernel_rfl) (by kernel_rfl) (by kernel_rfl) (by kernel_rfl) (Nat.zero_le _) (by simp only [List.length_cons, List.length_nil]; omega) (by simp [Value.oneCell']) ?_
   intro w5 z5 p5
   have p5 : Hp nz wz S1 w5 ((some b19, .row 28 (.i ((gi x23 x25).Kind) :: U4 ((gi x23 x25).Set) [.slice A16 (((gi x23 x25).L).length) c17, .i ((gi x23 x25).Min), .i ((gi x23 x25).Max)]) 8 0) :: (some gx2, .row 3 [.i u95] 1 0) :: Lr) := p5
   refine Goes.rn 3 [] Je1 ?_
   refine Goes.ldN 28 (.tmp 8) 29 28 ⟨b19, 0, none⟩ (.i ((gi x23 x25).Kind) :: U4 ((gi x23 x25).Set) [.slice A16 (((gi x23 x25).L).length) c17, .i ((gi x23 x25).Min), .i ((gi x23 x25).Max)]) (p5.pa 0 0) ?_
   refine Goes.rn 3 [(30, .i x1), (31, .i (wr .i64 (x1 - 1))), (32, (pt gx2 0))] Je2 ?_
   have p5 := p5.fr 1
   refine bind_some' h fun y21 e22 h => ?_
   refine Goes.cal (kc 67 [29, 31, 32] #[28, 3, 75]) 33 4 67 _ (ih_syntax_count ((⟨(gi x23 x25).Kind, ((gi x23 x25).Set), (gi x23 x25).L, (gi x23 x25).Min, (gi x23 x25).Max⟩ : T27), wr .i64 (x1 - 1), u95) y21 e22 A16 (((gi x23 x25).L).length) c17 gx2 p5 l14 (f18.ext (z4.trans z5)) rfl) ?_
   rintro _ w6 ⟨S6, rfl, z6, p6⟩
   have p6 := p6.dp 1
   refine Goes.rn 2 [(34, .bool (!y21.1))] Je0 ?_
   refine ite_some h (fun h23 h => ?_) (fun h23 h => ?_)
   ·
    rw [h23]
    refine Goes.rn 8 [(35, .i (wr .i64 (x25 + 1))), (25, .i (wr .i64 (x25 + 1)))] Jdj ?_
    exact Goes.jp 36 [(1, .i x1), (2, (pt gx2 0)), (23, .slice u99 x23.length u9b), (24, .i x24), (25, .i (wr .i64 (x25 + 1)))] (u9i _ _ h gx2 _ _ (((hx.trans z4).trans z5).trans z6) u99 x23.length u9b p6 (u9m.ext ((z4.trans z5).trans z6)) rfl)
   ·
    have u91 : y21.1 = false := by simpa using h23
    rw [u91]
    refine Goes.rn 5 [(6, .bool false)] Je3 ?_
    obtain rfl := Option.some.inj h
    exact Goes.rt Tryd.f67 (.bool false) ⟨S6, rfl, (((hx.trans z4).trans z5).trans z6), p6⟩
  ·
   rw [decide_eq_false h7]
   refine Goes.rn 6 [(6, .bool true)] Je4 ?_
   obtain rfl := Option.some.inj h
   exact Goes.rt Tryd.f67 (.bool true) ⟨S1, rfl, hx, p1⟩

theorem W.z1m : ∀ a r, M.syntax_count a = some r → LF.z1m a r := (W.z1p).1

theorem W.z1n : ∀ a r, M.syntax_count_l0 a = some r → LL.z1n a r := (W.z1p).2.1

theorem W.z1o : ∀ a r, M.syntax_count_l1 a = some r → LL.z1o a r := (W.z1p).2.2

def Qbv := sub [1, 1, 1, 1] B80
def Je5 : List Item := [.code Qbv]
def Je6 : List Item := .inBlock 0 :: Je5
def Qbw := sub [1, 1, 1, 0, 1, 0, 1, 1, 1, 1, 1, 0, 1, 1] B80
def Je7 : List Item := .code Qbw :: Je6
def Qbx := sub [1, 1, 1, 0, 1, 0, 1, 1, 1, 1, 1, 0, 1, 1, 1] B80
def Je8 : List Item := .code Qbx :: Je6
def Qby := sub [1, 1, 1, 0, 1, 0, 1, 1, 1, 1, 1, 0, 1, 1, 0] B80
def Je9 : List Item := .inRegion (opsOf Qby) [1, 2, 3, 4, 5, 6, 7, 8, 9, 10, 11, 12, 13, 14, 15, 16] :: Je8
def Jea : List Item := .inRegion (opsOf Qby) [5, 6, 7, 8, 9, 10, 11, 12, 13, 14, 15, 16] :: Je8
def Jeb : List Item := .inRegion (opsOf Qby) [6, 7, 8, 9, 10, 11, 12, 13, 14, 15, 16] :: Je8
def Jec : List Item := .inRegion (opsOf Qby) [11, 12, 13, 14, 15, 16] :: Je8
def Jed : List Item := .inRegion (opsOf Qby) [14, 15, 16] :: Je8

def Post.z1q (r : Bool) (v : Value) (w' : World) : Prop :=
 ∃ S', v = .bool r ∧ Ext S0 w0 S' w' ∧ Hp nz wz S' w' (Lr)

def L.z1r : T27 × (List Int) × Bool × Bool → Bool → Prop := fun ⟨x1v, u9o, x5, x6⟩ r => ∀ S1 w1, Ext S0 w0 S1 w1 → ∀ gx1 u9p u9q u9r gx3 (_ : Hp nz wz S1 w1 ((some gx1, .row 28 (.i x1v.Kind :: U4 x1v.Set [.slice u9p u9q u9r, .i x1v.Min, .i x1v.Max]) 8 0) :: (some gx3, .row 25 (U4 u9o []) 4 0) :: Lr)) (_ : x1v.Set.length = 4) (_ : Rd kT27 S1 w1 u9p u9r x1v.L) (_ : x1v.L.length = u9q) (_ : u9o.length = 4) (junk : Nat → Value),
 Goes Tryd.prog (base 80) Je7 ⟨lfr 77 [(1, (pt gx1 0)), (3, (pt gx3 0)), (5, .bool x5), (6, .bool x6)] junk, []⟩ w1 (Done Tryd.prog 80 (Rets (Post.z1q nz wz S0 w0 Lr r)))

theorem W.z1r {nz wz S0 w0 Lr} [Gw nz wz] : ∀ a r, M.syntax_shaped_l3 a = some r → L.z1r nz wz S0 w0 Lr a r := by
 intro ⟨x1v, u9o, x5, x6⟩ r h S1 w1 hx gx1 u9p u9q u9r gx3 p1 u9s u9t u9u u9v junk
 rw [M.syntax_shaped_l3] at h
 try dsimp only at h
 subst u9u
 refine Goes.rn 3 [(61, (pt gx1 5))] Je9 ?_
 refine Goes.ld 26 (.tmp 61) 62 26 ⟨gx1, 5, none⟩ (.slice u9p x1v.L.length u9r) (p1.c 0 5) ?_
 refine Goes.rn 3 [(63, .i (x1v.L.length : Int)), (64, .bool (decide ((x1v.L.length : Int) = 1))), (65, .bool (decide ((x1v.L.length : Int) = 1)))] Jea ?_
 refine ite_some h (fun h23 h => ?_) (fun h23 h => ?_)
 ·
  rw [decide_eq_true h23]
  refine Goes.rn 1 [(66, (pt gx1 1))] Jeb ?_
  refine Goes.ldN 25 (.tmp 66) 67 25 ⟨gx1, 1, none⟩ (U4 x1v.Set []) (p1.pa 0 1) ?_
  refine Goes.ldN 25 (.tmp 3) 68 25 ⟨gx3, 0, none⟩ (U4 u9o []) (p1.pa 1 0) ?_
  refine Op_.eqA 25 (.tmp 67) (.tmp 68) 25 69 4 23 4 .u64 (us := ((U4 x1v.Set []) : List Value)) (vs := ((U4 u9o []) : List Value)) Goes.v (by kernel_rfl) (by kernel_rfl) (by kernel_rfl) (by kernel_rfl) (by kernel_rfl) (by kernel_rfl) (by kernel_rfl) (els_mk4 (S := S1) (w := w1) (k := .u64) u9s) (els_mk4 (S := S1) (w := w1) (k := .u64) u9v) (Els.len1 (els_mk4 (S := S1) (w := w1) (k := .u64) u9s) rfl rfl) (Els.len1 (els_mk4 (S := S1) (w := w1) (k := .u64) u9v) rfl rfl) ?_
  refine Goes.rn 2 [(70, .bool (decide (x1v.Set = u9o))), (71, .bool (decide (x1v.Set = u9o)))] Jec ?_
  refine ite_some h (fun h24 h => ?_) (fun h24 h => ?_)
  ·
   rw [decide_eq_true h24]
   refine Goes.rn 3 [(72, .bool x5), (73, .bool x5), (74, .bool x5)] Jed ?_
   refine ite_some h (fun h25 h => ?_) (fun h25 h => ?_)
   ·
    rw [h25]
    refine Goes.rn 4 [(75, .bool x6), (76, .bool x6), (2, .bool x6)] Je8 ?_
    obtain rfl := Option.some.inj h
    have p1 := (p1.dp 0).dp 0
    exact Goes.rt Tryd.f80 (.bool x6) ⟨S1, rfl, hx, p1⟩
   ·
    have u7e : x5 = false := by simpa using h25
    rw [u7e]
    refine Goes.rn 4 [(75, undef), (76, .bool false), (2, .bool false)] Je8 ?_
    obtain rfl := Option.some.inj h
    have p1 := (p1.dp 0).dp 0
    exact Goes.rt Tryd.f80 (.bool false) ⟨S1, rfl, hx, p1⟩
  ·
   rw [decide_eq_false h24]
   refine Goes.rn 7 [(72, undef), (73, .bool false), (74, .bool false), (75, undef), (76, .bool false), (2, .bool false)] Je8 ?_
   obtain rfl := Option.some.inj h
   have p1 := (p1.dp 0).dp 0
   exact Goes.rt Tryd.f80 (.bool false) ⟨S1, rfl, hx, p1⟩
 ·
  rw [decide_eq_false h23]
  refine Goes.rn 13 [(66, undef), (67, undef), (68, undef), (69, undef), (70, .bool false), (71, .bool false), (72, undef), (73, .bool false), (74, .bool false), (75, undef), (76, .bool false), (2, .bool false)] Je8 ?_
  obtain rfl := Option.some.inj h
  have p1 := (p1.dp 0).dp 0
  exact Goes.rt Tryd.f80 (.bool false) ⟨S1, rfl, hx, p1⟩

def Qbz := sub [1, 1, 1, 0, 1, 0, 1, 1, 1, 1, 1, 0, 1] B80
def Jee : List Item := .code Qbz :: Je6
def Qc0 := sub [1, 1, 1, 0, 1, 0, 1, 1, 1, 1, 1, 0, 1, 0] B80
def Jef : List Item := .inRegion (opsOf Qc0) [1, 2, 3, 4, 5, 6, 7, 8, 9, 10, 11, 12, 13, 14, 15] :: Je7
def Jeg : List Item := .inRegion (opsOf Qc0) [4, 5, 6, 7, 8, 9, 10, 11, 12, 13, 14, 15] :: Je7
def Jeh : List Item := .inRegion (opsOf Qc0) [5, 6, 7, 8, 9, 10, 11, 12, 13, 14, 15] :: Je7
def Jei : List Item := .inRegion (opsOf Qc0) [7, 8, 9, 10, 11, 12, 13, 14, 15] :: Je7
def Jej : List Item := .inRegion (opsOf Qc0) [10, 11, 12, 13, 14, 15] :: Je7
def Jek : List Item := .inRegion (opsOf Qc0) [11, 12, 13, 14, 15] :: Je7

def L.z1s : T27 × (List Int) × Bool → Bool → Prop := fun ⟨x1v, u9o, x5⟩ r => ∀ S1 w1, Ext S0 w0 S1 w1 → ∀ gx1 u9p u9q u9r gx3 (_ : Hp nz wz S1 w1 ((some gx1, .row 28 (.i x1v.Kind :: U4 x1v.Set [.slice u9p u9q u9r, .i x1v.Min, .i x1v.Max]) 8 0) :: (some gx3, .row 25 (U4 u9o []) 4 0) :: Lr)) (_ : x1v.Set.length = 4) (_ : Rd kT27 S1 w1 u9p u9r x1v.L) (_ : x1v.L.length = u9q) (_ : u9o.length = 4) (junk : Nat → Value),
 Goes Tryd.prog (base 80) Jee ⟨lfr 77 [(1, (pt gx1 0)), (3, (pt gx3 0)), (5, .bool x5)] junk, []⟩ w1 (Done Tryd.prog 80 (Rets (Post.z1q nz wz S0 w0 Lr r)))

theorem W.z1s {nz wz S0 w0 Lr} [Gw nz wz] : ∀ a r, M.syntax_shaped_l2 a = some r → L.z1s nz wz S0 w0 Lr a r := by
 intro ⟨x1v, u9o, x5⟩ r h S1 w1 hx gx1 u9p u9q u9r gx3 p1 u9s u9t u9u u9v junk
 rw [M.syntax_shaped_l2] at h
 try dsimp only at h
 subst u9u
 refine Goes.rn 3 [(46, (pt gx1 7))] Jef ?_
 refine Goes.ld 3 (.tmp 46) 47 3 ⟨gx1, 7, none⟩ (.i x1v.Max) (p1.c 0 7) ?_
 refine Goes.rn 2 [(48, .bool (decide (x1v.Max = (-1)))), (49, .bool (decide (x1v.Max = (-1))))] Jeg ?_
 refine ite_some h (fun h19 h => ?_) (fun h19 h => ?_)
 ·
  rw [decide_eq_true h19]
  refine Goes.rn 13 [(50, undef), (51, undef), (52, undef), (53, undef), (54, undef), (55, undef), (56, undef), (57, undef), (58, undef), (59, undef), (60, .bool true), (6, .bool true)] Je7 ?_
  exact Goes.jp 77 [(1, (pt gx1 0)), (3, (pt gx3 0)), (5, .bool x5), (6, .bool true)] (W.z1r _ _ h _ _ hx gx1 u9p x1v.L.length u9r gx3 p1 u9s u9t rfl u9v)
 ·
  rw [decide_eq_false h19]
  refine Goes.rn 1 [(50, (pt gx1 7))] Jeh ?_
  refine Goes.ld 3 (.tmp 50) 51 3 ⟨gx1, 7, none⟩ (.i x1v.Max) (p1.c 0 7) ?_
  refine Goes.rn 1 [(52, (pt gx1 6))] Jei ?_
  refine Goes.ld 3 (.tmp 52) 53 3 ⟨gx1, 6, none⟩ (.i x1v.Min) (p1.c 0 6) ?_
  refine Goes.rn 2 [(54, .bool (decide (x1v.Max ≥ x1v.Min))), (55, .bool (decide (x1v.Max ≥ x1v.Min)))] Jej ?_
  refine ite_some h (fun h22 h => ?_) (fun h22 h => ?_)
  ·
   rw [decide_eq_true h22]
   refine Goes.rn 1 [(56, (pt gx1 7))] Jek ?_
   refine Goes.ld 3 (.tmp 56) 57 3 ⟨gx1, 7, none⟩ (.i x1v.Max) (p1.c 0 7) ?_
   refine Goes.rn 5 [(58, .bool (decide (x1v.Max ≤ 64))), (59, .bool (decide (x1v.Max ≤ 64))), (60, .bool (decide (x1v.Max ≤ 64))), (6, .bool (decide (x1v.Max ≤ 64)))] Je7 ?_
   exact Goes.jp 77 [(1, (pt gx1 0)), (3, (pt gx3 0)), (5, .bool x5), (6, .bool (decide (x1v.Max ≤ 64)))] (W.z1r _ _ h _ _ hx gx1 u9p x1v.L.length u9r gx3 p1 u9s u9t rfl u9v)
  ·
   rw [decide_eq_false h22]
   refine Goes.rn 7 [(56, undef), (57, undef), (58, undef), (59, .bool false), (60, .bool false), (6, .bool false)] Je7 ?_
   exact Goes.jp 77 [(1, (pt gx1 0)), (3, (pt gx3 0)), (5, .bool x5), (6, .bool false)] (W.z1r _ _ h _ _ hx gx1 u9p x1v.L.length u9r gx3 p1 u9s u9t rfl u9v)

def Qc1 := sub [1, 1, 1, 0, 1, 0, 1, 1, 1] B80
def Jel : List Item := .code Qc1 :: Je6
def Qc2 := sub [1, 1, 1, 0, 1, 0, 1, 1, 1, 0, 1] B80
def Jem : List Item := .code Qc2 :: Je6
def Qc3 := sub [1, 1, 1, 0, 1, 0, 1, 1, 1, 0, 0] B80
def Jen : List Item := .inRegion (opsOf Qc3) [1, 2, 3, 4, 5, 6, 7] :: Jem
def Jeo : List Item := .inRegion (opsOf Qc3) [5, 6, 7] :: Jem
def Qc4 := sub [1, 1, 1, 0, 1, 0, 1, 1, 1, 1, 1] B80
def Jep : List Item := .code Qc4 :: Je6
def Qc5 := sub [1, 1, 1, 0, 1, 0, 1, 1, 1, 1, 1, 0, 0] B80
def Jeq : List Item := .inRegion (opsOf Qc5) [1, 2, 3, 4, 5, 6, 7, 8] :: Jee
def Jer : List Item := .inRegion (opsOf Qc5) [4, 5, 6, 7, 8] :: Jee
def Jes : List Item := .inRegion (opsOf Qc5) [5, 6, 7, 8] :: Jee
def Qc6 := sub [1, 1, 1, 1, 1] B80
def Jet : List Item := [.code Qc6]

def L.z1t : T27 × (List Int) × Bool × Int × Bool → Bool → Prop := fun ⟨x1v, u9o, x4, x16, x26⟩ r => ∀ S1 w1, Ext S0 w0 S1 w1 → ∀ gx1 u9p u9q u9r gx3 (_ : Hp nz wz S1 w1 ((some gx1, .row 28 (.i x1v.Kind :: U4 x1v.Set [.slice u9p u9q u9r, .i x1v.Min, .i x1v.Max]) 8 0) :: (some gx3, .row 25 (U4 u9o []) 4 0) :: Lr)) (_ : x1v.Set.length = 4) (_ : Rd kT27 S1 w1 u9p u9r x1v.L) (_ : x1v.L.length = u9q) (_ : u9o.length = 4) (junk : Nat → Value),
 Goes Tryd.prog (base 80) Jel ⟨lfr 77 [(1, (pt gx1 0)), (3, (pt gx3 0)), (4, .bool x4), (16, .i x16), (26, .bool x26)] junk, []⟩ w1 (Done Tryd.prog 80 (Rets (Post.z1q nz wz S0 w0 Lr r)))

theorem W.z1t {nz wz S0 w0 Lr} [Gw nz wz] : ∀ a r, M.syntax_shaped_l1 a = some r → L.z1t nz wz S0 w0 Lr a r := by
 intro ⟨x1v, u9o, x4, x16, x26⟩ r h S1 w1 hx gx1 u9p u9q u9r gx3 p1 u9s u9t u9u u9v junk
 rw [M.syntax_shaped_l1] at h
 try dsimp only at h
 subst u9u
 refine ite_some h (fun h13 h => ?_) (fun h13 h => ?_)
 ·
  rw [h13]
  refine Goes.rn 4 [(29, (pt gx1 1))] Jen ?_
  refine Goes.ldN 25 (.tmp 29) 30 25 ⟨gx1, 1, none⟩ (U4 x1v.Set []) (p1.pa 0 1) ?_
  refine Goes.ldN 25 (.tmp 3) 31 25 ⟨gx3, 0, none⟩ (U4 u9o []) (p1.pa 1 0) ?_
  refine Op_.eqA 25 (.tmp 30) (.tmp 31) 25 32 4 23 4 .u64 (us := ((U4 x1v.Set []) : List Value)) (vs := ((U4 u9o []) : List Value)) Goes.v (by kernel_rfl) (by kernel_rfl) (by kernel_rfl) (by kernel_rfl) (by kernel_rfl) (by kernel_rfl) (by kernel_rfl) (els_mk4 (S := S1) (w := w1) (k := .u64) u9s) (els_mk4 (S := S1) (w := w1) (k := .u64) u9v) (Els.len1 (els_mk4 (S := S1) (w := w1) (k := .u64) u9s) rfl rfl) (Els.len1 (els_mk4 (S := S1) (w := w1) (k := .u64) u9v) rfl rfl) ?_
  refine Goes.rn 1 [(33, .bool (decide (x1v.Set = u9o)))] Jeo ?_
  refine ite_some h (fun h14 h => ?_) (fun h14 h => ?_)
  ·
   rw [decide_eq_true h14]
   refine Goes.rn 4 [(34, .bool x4), (35, .bool x4), (2, .bool x4)] Jem ?_
   obtain rfl := Option.some.inj h
   have p1 := (p1.dp 0).dp 0
   exact Goes.rt Tryd.f80 (.bool x4) ⟨S1, rfl, hx, p1⟩
  ·
   rw [decide_eq_false h14]
   refine Goes.rn 4 [(34, undef), (35, .bool false), (2, .bool false)] Jem ?_
   obtain rfl := Option.some.inj h
   have p1 := (p1.dp 0).dp 0
   exact Goes.rt Tryd.f80 (.bool false) ⟨S1, rfl, hx, p1⟩
 ·
  have u67 : x26 = false := by simpa using h13
  rw [u67]
  refine Goes.rn 6 [(37, .bool (decide (x16 = 4))), (36, .bool (decide (x16 = 4)))] Jep ?_
  refine ite_some h (fun h15 h => ?_) (fun h15 h => ?_)
  ·
   rw [decide_eq_true h15]
   refine Goes.rn 4 [(38, (pt gx1 6))] Jeq ?_
   refine Goes.ld 3 (.tmp 38) 39 3 ⟨gx1, 6, none⟩ (.i x1v.Min) (p1.c 0 6) ?_
   refine Goes.rn 2 [(40, .bool (decide (x1v.Min ≥ 0))), (41, .bool (decide (x1v.Min ≥ 0)))] Jer ?_
   refine ite_some h (fun h16 h => ?_) (fun h16 h => ?_)
   ·
    rw [decide_eq_true h16]
    refine Goes.rn 1 [(42, (pt gx1 6))] Jes ?_
    refine Goes.ld 3 (.tmp 42) 43 3 ⟨gx1, 6, none⟩ (.i x1v.Min) (p1.c 0 6) ?_
    refine Goes.rn 4 [(44, .bool (decide (x1v.Min ≤ 64))), (45, .bool (decide (x1v.Min ≤ 64))), (5, .bool (decide (x1v.Min ≤ 64)))] Jee ?_
    exact Goes.jp 77 [(1, (pt gx1 0)), (3, (pt gx3 0)), (5, .bool (decide (x1v.Min ≤ 64)))] (W.z1s _ _ h _ _ hx gx1 u9p x1v.L.length u9r gx3 p1 u9s u9t rfl u9v)
   ·
    rw [decide_eq_false h16]
    refine Goes.rn 6 [(42, undef), (43, undef), (44, undef), (45, .bool false), (5, .bool false)] Jee ?_
    exact Goes.jp 77 [(1, (pt gx1 0)), (3, (pt gx3 0)), (5, .bool false)] (W.z1s _ _ h _ _ hx gx1 u9p x1v.L.length u9r gx3 p1 u9s u9t rfl u9v)
  ·
   rw [decide_eq_false h15]
   refine Goes.rn 7 [(2, .bool false)] Jet ?_
   obtain rfl := Option.some.inj h
   have p1 := (p1.dp 0).dp 0
   exact Goes.rt Tryd.f80 (.bool false) ⟨S1, rfl, hx, p1⟩

def Qc7 := sub [1, 1, 1] B80
def Jeu : List Item := [.code Qc7]
def Qc8 := sub [1, 1, 1, 0, 1] B80
def Jev : List Item := .code Qc8 :: Je5
def Qc9 := sub [1, 1, 1, 0, 0] B80
def Jew : List Item := .inRegion (opsOf Qc9) [1] :: Jev
def Qca := sub [1, 1, 1, 0, 1, 0, 1] B80
def Jex : List Item := .code Qca :: Je6
def Qcb := sub [1, 1, 1, 0, 1, 0, 1, 0, 1] B80
def Jey : List Item := .code Qcb :: Je6
def Qcc := sub [1, 1, 1, 0, 1, 0, 1, 0, 0] B80
def Jez : List Item := .inRegion (opsOf Qcc) [1, 2, 3, 4, 5, 6, 7] :: Jey
def Jf0 : List Item := .inRegion (opsOf Qcc) [5, 6, 7] :: Jey
def Qcd := sub [1, 1, 1, 0, 1, 0, 1, 1, 0, 1] B80
def Jf1 : List Item := .code Qcd :: Jel

def L.z1u : T27 × (List Int) × Bool → Bool → Prop := fun ⟨x1v, u9o, x4⟩ r => ∀ S1 w1, Ext S0 w0 S1 w1 → ∀ gx1 u9p u9q u9r gx3 (_ : Hp nz wz S1 w1 ((some gx1, .row 28 (.i x1v.Kind :: U4 x1v.Set [.slice u9p u9q u9r, .i x1v.Min, .i x1v.Max]) 8 0) :: (some gx3, .row 25 (U4 u9o []) 4 0) :: Lr)) (_ : x1v.Set.length = 4) (_ : Rd kT27 S1 w1 u9p u9r x1v.L) (_ : x1v.L.length = u9q) (_ : u9o.length = 4) (junk : Nat → Value),
 Goes Tryd.prog (base 80) Jeu ⟨lfr 77 [(1, (pt gx1 0)), (3, (pt gx3 0)), (4, .bool x4)] junk, []⟩ w1 (Done Tryd.prog 80 (Rets (Post.z1q nz wz S0 w0 Lr r)))

theorem W.z1u {nz wz S0 w0 Lr} [Gw nz wz] : ∀ a r, M.syntax_shaped_l0 a = some r → L.z1u nz wz S0 w0 Lr a r := by
 intro ⟨x1v, u9o, x4⟩ r h S1 w1 hx gx1 u9p u9q u9r gx3 p1 u9s u9t u9u u9v junk
 rw [M.syntax_shaped_l0] at h
 try dsimp only at h
 subst u9u
 refine Goes.rn 4 [(15, (pt gx1 0))] Jew ?_
 refine Goes.ld 3 (.tmp 15) 16 3 ⟨gx1, 0, none⟩ (.i x1v.Kind) (p1.c 0 0) ?_
 refine Goes.rn 7 [(18, .bool (decide (x1v.Kind = 1))), (17, .bool (decide (x1v.Kind = 1)))] Jex ?_
 refine ite_some h (fun h8 h => ?_) (fun h8 h => ?_)
 ·
  rw [decide_eq_true h8]
  refine Goes.rn 4 [(19, (pt gx1 5))] Jez ?_
  refine Goes.ld 26 (.tmp 19) 20 26 ⟨gx1, 5, none⟩ (.slice u9p x1v.L.length u9r) (p1.c 0 5) ?_
  refine Goes.rn 3 [(21, .i (x1v.L.length : Int)), (22, .bool (decide ((x1v.L.length : Int) = 0))), (23, .bool (decide ((x1v.L.length : Int) = 0)))] Jf0 ?_
  refine ite_some h (fun h9 h => ?_) (fun h9 h => ?_)
  ·
   rw [decide_eq_true h9]
   refine Goes.rn 4 [(24, .bool x4), (25, .bool x4), (2, .bool x4)] Jey ?_
   obtain rfl := Option.some.inj h
   have p1 := (p1.dp 0).dp 0
   exact Goes.rt Tryd.f80 (.bool x4) ⟨S1, rfl, hx, p1⟩
  ·
   rw [decide_eq_false h9]
   refine Goes.rn 4 [(24, undef), (25, .bool false), (2, .bool false)] Jey ?_
   obtain rfl := Option.some.inj h
   have p1 := (p1.dp 0).dp 0
   exact Goes.rt Tryd.f80 (.bool false) ⟨S1, rfl, hx, p1⟩
 ·
  rw [decide_eq_false h8]
  refine Goes.rn 7 [(27, .bool (decide (x1v.Kind = 2))), (26, .bool (decide (x1v.Kind = 2)))] Jf1 ?_
  refine ite_some h (fun h10 h => ?_) (fun h10 h => ?_)
  ·
   rw [decide_eq_true h10]
   refine Goes.rn 2 [] Jel ?_
   exact Goes.jp 77 [(1, (pt gx1 0)), (3, (pt gx3 0)), (4, .bool x4), (16, .i x1v.Kind), (26, .bool true)] (W.z1t _ _ h _ _ hx gx1 u9p x1v.L.length u9r gx3 p1 u9s u9t rfl u9v)
  ·
   rw [decide_eq_false h10]
   refine Goes.rn 5 [(28, .bool (decide (x1v.Kind = 3))), (26, .bool (decide (x1v.Kind = 3)))] Jel ?_
   exact Goes.jp 77 [(1, (pt gx1 0)), (3, (pt gx3 0)), (4, .bool x4), (16, .i x1v.Kind), (26, .bool (decide (x1v.Kind = 3)))] (W.z1t _ _ h _ _ hx gx1 u9p x1v.L.length u9r gx3 p1 u9s u9t rfl u9v)

def Qce := sub [1] B80
def Jf2 : List Item := [.code Qce]
def Qcf := sub [0] B80
def Jf3 : List Item := .inRegion (opsOf Qcf) [0, 1] :: Jf2
def Qcg := sub [1, 1] B80
def Jf4 : List Item := [.code Qcg]
def Qch := sub [1, 0] B80
def Jf5 : List Item := .inRegion (opsOf Qch) [0] :: Jf4
def Qci := sub [1, 1, 0] B80
def Jf6 : List Item := .inRegion (opsOf Qci) [1, 2, 3, 4, 5, 6, 7, 8] :: Jeu
def Jf7 : List Item := .inRegion (opsOf Qci) [4, 5, 6, 7, 8] :: Jeu
def Jf8 : List Item := .inRegion (opsOf Qci) [5, 6, 7, 8] :: Jeu

theorem W.z1q (x0 : T27) (r : Bool) (h : M.syntax_shaped x0 = some r) {nz wz S0 w0 Lr} [Gw nz wz] (u92 u93 u94) (p0 : Hp nz wz S0 w0 (Lr)) (u9e : x0.Set.length = 4) (u9f : Rd kT27 S0 w0 u92 u94 x0.L) (u9g : x0.L.length = u93) :
  Calls Tryd.prog 80 #[(ag (.i x0.Kind :: U4 x0.Set [.slice u92 u93 u94, .i x0.Min, .i x0.Max]))] w0 (Rets (Post.z1q nz wz S0 w0 Lr r)) := by
 subst u9g
 refine calls_of_goes (fn := Tryd.f80) (c := B80) (by kernel_rfl) (by kernel_rfl) 76 (by kernel_rfl) ?_
 refine Goes.jp 77 [(0, (ag (.i x0.Kind :: U4 x0.Set [.slice u92 x0.L.length u94, .i x0.Min, .i x0.Max])))] (fun junk => ?_)
 delta M.syntax_shaped at h
 refine Goes.rn 2 [] Jf3 ?_
 refine Op_.box 28 (.tmp 0) 1 0 (ag (.i x0.Kind :: U4 x0.Set [.slice u92 x0.L.length u94, .i x0.Min, .i x0.Max])) (.i x0.Kind :: U4 x0.Set [.slice u92 x0.L.length u94, .i x0.Min, .i x0.Max]) p0 Goes.v (by kernel_rfl) (by kernel_rfl) ?_
 intro b1 w2 z2 p2
 refine Goes.rn 4 [(2, .bool false)] Jf5 ?_
 refine Op_.alloc 25 3 0 (.agg #[.u 0, .u 0, .u 0, .u 0]) [.u 0, .u 0, .u 0, .u 0] p2 Goes.v (by kernel_rfl) (by kernel_rfl) ?_
 intro b3 w3 z3 p3
 refine Goes.rn 4 [(7, (pt b1 6))] Jf6 ?_
 refine Goes.ld 3 (.tmp 7) 8 3 ⟨b1, 6, none⟩ (.i x0.Min) (p3.c 1 6) ?_
 refine Goes.rn 2 [(9, .bool (decide (x0.Min = 0))), (10, .bool (decide (x0.Min = 0)))] Jf7 ?_
 refine ite_some h (fun h5 h => ?_) (fun h5 h => ?_)
 ·
  rw [decide_eq_true h5]
  refine Goes.rn 1 [(11, (pt b1 7))] Jf8 ?_
  refine Goes.ld 3 (.tmp 11) 12 3 ⟨b1, 7, none⟩ (.i x0.Max) (p3.c 1 7) ?_
  refine Goes.rn 4 [(13, .bool (decide (x0.Max = 0))), (14, .bool (decide (x0.Max = 0))), (4, .bool (decide (x0.Max = 0)))] Jeu ?_
  have p3 := (p3.fr 0).fr 1
  exact Goes.jp 77 [(1, (pt b1 0)), (3, (pt b3 0)), (4, .bool (decide (x0.Max = 0)))] (W.z1u _ _ h _ _ (((Ext.refl S0 w0).trans z2).trans z3) b1 u92 x0.L.length u94 b3 p3 u9e (u9f.ext (z2.trans z3)) rfl rfl)
 ·
  rw [decide_eq_false h5]
  refine Goes.rn 6 [(11, undef), (12, undef), (13, undef), (14, .bool false), (4, .bool false)] Jeu ?_
  have p3 := (p3.fr 0).fr 1
  exact Goes.jp 77 [(1, (pt b1 0)), (3, (pt b3 0)), (4, .bool false)] (W.z1u _ _ h _ _ (((Ext.refl S0 w0).trans z2).trans z3) b1 u92 x0.L.length u94 b3 p3 u9e (u9f.ext (z2.trans z3)) rfl rfl)

def Qcj := sub [1, 1] B68
def Jf9 : List Item := [.code Qcj]
def Jfa : List Item := .inBlock 0 :: Jf9
def Qck := sub [1, 0, 1, 0, 0] B68
def Jfb : List Item := .inLoop Qck :: Jfa
def Jfc : List Item := .code Qck :: Jfb
def Qcl := sub [1] B68
def Jfd : List Item := [.code Qcl]
def Qcm := sub [0] B68
def Jfe : List Item := .inRegion (opsOf Qcm) [0, 1] :: Jfd
def Qcn := sub [1, 0, 1] B68
def Jff : List Item := .code Qcn :: Jf9
def Qco := sub [1, 0, 0] B68
def Jfg : List Item := .inRegion (opsOf Qco) [1, 2, 3] :: Jff
def Qcp := sub [1, 0, 1, 0, 0, 1, 1] B68
def Jfh : List Item := .code Qcp :: Jfb
def Qcq := sub [1, 0, 1, 0, 0, 1, 0] B68
def Jfi : List Item := .code Qcq :: Jfh
def Qcr := sub [1, 0, 1, 0, 0, 1, 1, 1] B68
def Jfj : List Item := .code Qcr :: Jfb
def Jfk : List Item := .inBlock 1 :: Jfj
def Qcs := sub [1, 0, 1, 0, 0, 1, 1, 0, 0, 1] B68
def Jfl : List Item := .code Qcs :: Jfk
def Qct := sub [1, 0, 1, 0, 0, 1, 1, 0, 0, 0] B68
def Jfm : List Item := .inRegion (opsOf Qct) [0, 1, 2, 3] :: Jfl
def Qcu := sub [1, 0, 1, 0, 0, 1, 1, 0, 0, 1, 1] B68
def Jfn : List Item := .code Qcu :: Jfk
def Qcv := sub [1, 0, 1, 0, 0, 1, 1, 0, 0, 1, 0] B68
def Jfo : List Item := .inRegion (opsOf Qcv) [0, 1, 2] :: Jfn
def Qcw := sub [1, 0, 1, 0, 0, 1, 1, 0, 0, 1, 1, 0, 1] B68
def Jfp : List Item := .code Qcw :: Jfk
def Qcx := sub [1, 1, 1] B68
def Jfq : List Item := [.code Qcx]
def Qcy := sub [1, 1, 0] B68
def Jfr : List Item := .inRegion (opsOf Qcy) [0, 1, 2] :: Jfq

def Post.z1v (r : Bool) (v : Value) (w' : World) : Prop :=
 ∃ S', v = .bool r ∧ Ext S0 w0 S' w' ∧ Hp nz wz S' w' (Lr)

def LF.z1v : T27 → Bool → Prop := fun x0 r => ∀ {nz wz S0 w0 Lr} [Gw nz wz] u92 u93 u94 (_ : Hp nz wz S0 w0 (Lr)) (_ : x0.Set.length = 4) (_ : Rd kT27 S0 w0 u92 u94 x0.L) (_ : x0.L.length = u93),
 Calls Tryd.prog 68 #[(ag (.i x0.Kind :: U4 x0.Set [.slice u92 u93 u94, .i x0.Min, .i x0.Max]))] w0 (Rets (Post.z1v nz wz S0 w0 Lr r))

def L.z1w : T27 × (List T27) × Int × Int → Bool → Prop := fun ⟨x1v, x6, x7, x8⟩ r => ∀ S1 w1, Ext S0 w0 S1 w1 → ∀ gx1 u9p u9q u9r Ax6 nx6 cx6 (_ : Hp nz wz S1 w1 ((some gx1, .row 28 (.i x1v.Kind :: U4 x1v.Set [.slice u9p u9q u9r, .i x1v.Min, .i x1v.Max]) 8 0) :: Lr)) (_ : x1v.Set.length = 4) (_ : Rd kT27 S1 w1 u9p u9r x1v.L) (_ : x1v.L.length = u9q) (_ : Rd kT27 S1 w1 Ax6 cx6 x6) (_ : x6.length = nx6) (junk : Nat → Value),
 Goes Tryd.prog (base 68) Jfc ⟨lfr 18 [(1, (pt gx1 0)), (6, .slice Ax6 nx6 cx6), (7, .i x7), (8, .i x8)] junk, []⟩ w1 (Done Tryd.prog 68 (Rets (Post.z1v nz wz S0 w0 Lr r)))

def LL.z1w : T27 × (List T27) × Int × Int → Bool → Prop := fun a r => ∀ {nz wz S0 w0 Lr} [Gw nz wz], L.z1w nz wz S0 w0 Lr a r

theorem W.z1x : (∀ a r, M.syntax_right a = some r → LF.z1v a r) ∧ (∀ a r, M.syntax_right_l0 a = some r → LL.z1w a r) := by
 refine M.syntax_right.mutual_partial_correctness LF.z1v LL.z1w ?_ ?_
 ·
  intro u9w u9x x0 r h nz wz S0 w0 Lr iG u92 u93 u94 p0 u9e u9f u9g
  try dsimp only at h
  subst u9g
  refine calls_of_goes (fn := Tryd.f68) (c := B68) (by kernel_rfl) (by kernel_rfl) 17 (by kernel_rfl) ?_
  refine Goes.jp 18 [(0, (ag (.i x0.Kind :: U4 x0.Set [.slice u92 x0.L.length u94, .i x0.Min, .i x0.Max])))] (fun junk => ?_)
  refine Goes.rn 2 [] Jfe ?_
  refine Op_.box 28 (.tmp 0) 1 0 (ag (.i x0.Kind :: U4 x0.Set [.slice u92 x0.L.length u94, .i x0.Min, .i x0.Max])) (.i x0.Kind :: U4 x0.Set [.slice u92 x0.L.length u94, .i x0.Min, .i x0.Max]) p0 Goes.v (by kernel_rfl) (by kernel_rfl) ?_
  intro b1 w2 z2 p2
  refine Goes.rn 6 [(2, .bool false), (5, (pt b1 5))] Jfg ?_
  refine Goes.ld 26 (.tmp 5) 6 26 ⟨b1, 5, none⟩ (.slice u92 x0.L.length u94) (p2.c 0 5) ?_
  refine Goes.rn 5 [(7, .i (x0.L.length : Int)), (8, .i 0)] Jfc ?_
  exact Goes.jp 18 [(1, (pt b1 0)), (6, .slice u92 x0.L.length u94), (7, .i (x0.L.length : Int)), (8, .i 0)] (u9x _ _ h _ _ ((Ext.refl S0 w0).trans z2) b1 u92 x0.L.length u94 u92 x0.L.length u94 p2 u9e (u9f.ext z2) rfl (u9f.ext z2) rfl)
 ·
  intro rec_syntax_right u9w ih_syntax_right u9x ⟨x1v, x6, x7, x8⟩ r h nz wz S0 w0 Lr iG S1 w1 hx gx1 u9p u9q u9r Ax6 nx6 cx6 p1 u9s u9t u9u fx6 lx6 junk
  try dsimp only at h
  subst u9u
  subst lx6
  refine Goes.rn 5 [(9, .bool (decide (x8 < x7)))] Jfi ?_
  refine ite_some h (fun h4 h => ?_) (fun h4 h => ?_)
  ·
   rw [decide_eq_true h4]
   refine Goes.rn 6 [] Jfm ?_
   refine guard_some' h fun g5 h => ?_
   refine guard_some' h fun g6 h => ?_
   refine Op_.ixR_n 26 (.tmp 6) (.tmp 8) 10 0 28 .i64 x8 (gi x6 x8) rfl rfl fx6 Goes.v (by kernel_rfl) (by kernel_rfl) (by kernel_rfl) (by kernel_rfl) g5 g6 ?_
   intro a7 _ f8 q9
   have q10 := q9
   obtain ⟨_, _, rfl, rfl, ⟨_, _, rfl, ⟨l11, f12⟩, ⟨_, _, rfl, ⟨A13, c14, rfl, f15⟩, ⟨_, _, rfl, rfl, rfl⟩⟩⟩⟩ := kT27_open q10
   obtain rfl := els_lit4' f12 l11
   refine Goes.ldN 28 (.tmp 10) 11 28 a7 ([.i ((gi x6 x8).Kind)] ++ ((U4 ((gi x6 x8).Set) []) ++ ([.slice A13 (((gi x6 x8).L).length) c14] ++ ([.i ((gi x6 x8).Min)] ++ [.i ((gi x6 x8).Max)])))) (f8.cell) ?_
   refine Op_.alloc 28 4 0 (.agg #[.i 0, .u 0, .u 0, .u 0, .u 0, .slice none 0 0, .i 0, .i 0]) [.i 0, .u 0, .u 0, .u 0, .u 0, .slice none 0 0, .i 0, .i 0] p1 Goes.v (by kernel_rfl) (by kernel_rfl) ?_
   intro b16 w3 z3 p3
   refine Op_.st 28 (.tmp 4) (.tmp 11) 0 0 b16 0 (ag (.i ((gi x6 x8).Kind) :: U4 ((gi x6 x8).Set) [.slice A13 (((gi x6 x8).L).length) c14, .i ((gi x6 x8).Min), .i ((gi x6 x8).Max)])) (.i ((gi x6 x8).Kind) :: U4 ((gi x6 x8).Set) [.slice A13 (((gi x6 x8).L).length) c14, .i ((gi x6 x8).Min), .i ((gi x6 x8).Max)]) p3 rfl Goes.s (by kernel_rfl) (by kernel_rfl) (by kernel_rfl) (by kernel_rfl) (Nat.zero_le _) (by simp only [List.length_cons, List.length_nil]; omega) (by simp [Value.oneCell']) ?_
   intro w4 z4 p4
   have p4 : Hp nz wz S1 w4 ((some b16, .row 28 (.i ((gi x6 x8).Kind) :: U4 ((gi x6 x8).Set) [.slice A13 (((gi x6 x8).L).length) c14, .i ((gi x6 x8).Min), .i ((gi x6 x8).Max)]) 8 0) :: (some gx1, .row 28 (.i x1v.Kind :: U4 x1v.Set [.slice u9p x1v.L.length u9r, .i x1v.Min, .i x1v.Max]) 8 0) :: Lr) := p4
   refine Goes.rn 3 [] Jfo ?_
   refine Goes.ldN 28 (.tmp 4) 12 28 ⟨b16, 0, none⟩ (.i ((gi x6 x8).Kind) :: U4 ((gi x6 x8).Set) [.slice A13 (((gi x6 x8).L).length) c14, .i ((gi x6 x8).Min), .i ((gi x6 x8).Max)]) (p4.pa 0 0) ?_
   refine bind_some' h fun y18 e19 h => ?_
   refine Goes.cal (kc 68 [12] #[28]) 13 4 68 _ (ih_syntax_right (⟨(gi x6 x8).Kind, ((gi x6 x8).Set), (gi x6 x8).L, (gi x6 x8).Min, (gi x6 x8).Max⟩ : T27) y18 e19 A13 (((gi x6 x8).L).length) c14 p4 l11 (f15.ext (z3.trans z4)) rfl) ?_
   rintro _ w5 ⟨S5, rfl, z5, p5⟩
   have p5 := p5.dp 0
   refine Goes.rn 2 [(14, .bool (!y18))] Jfn ?_
   refine ite_some h (fun h20 h => ?_) (fun h20 h => ?_)
   ·
    rw [h20]
    refine Goes.rn 8 [(15, .i (wr .i64 (x8 + 1))), (8, .i (wr .i64 (x8 + 1)))] Jfc ?_
    exact Goes.jp 18 [(1, (pt gx1 0)), (6, .slice Ax6 x6.length cx6), (7, .i x7), (8, .i (wr .i64 (x8 + 1)))] (u9x _ _ h _ _ (((hx.trans z3).trans z4).trans z5) gx1 u9p x1v.L.length u9r Ax6 x6.length cx6 p5 u9s (u9t.ext ((z3.trans z4).trans z5)) rfl (fx6.ext ((z3.trans z4).trans z5)) rfl)
   ·
    have u9y : y18 = false := by simpa using h20
    rw [u9y]
    refine Goes.rn 5 [(2, .bool false)] Jfp ?_
    obtain rfl := Option.some.inj h
    have p5 := p5.dp 0
    exact Goes.rt Tryd.f68 (.bool false) ⟨S5, rfl, (((hx.trans z3).trans z4).trans z5), p5⟩
  ·
   rw [decide_eq_false h4]
   refine Goes.rn 4 [] Jfr ?_
   refine Goes.ldN 28 (.tmp 1) 16 28 ⟨gx1, 0, none⟩ (.i x1v.Kind :: U4 x1v.Set [.slice u9p x1v.L.length u9r, .i x1v.Min, .i x1v.Max]) (p1.pa 0 0) ?_
   refine bind_some' h fun y21 e22 h => ?_
   refine Goes.cal (kc 80 [16] #[28]) 17 4 80 _ (W.z1q x1v y21 e22 u9p x1v.L.length u9r p1 u9s u9t rfl) ?_
   rintro _ w6 ⟨S6, rfl, z6, p6⟩
   have p6 := p6.dp 0
   refine Goes.rn 2 [(2, .bool y21)] Jfq ?_
   obtain rfl := Option.some.inj h
   exact Goes.rt Tryd.f68 (.bool y21) ⟨S6, rfl, (hx.trans z6), p6⟩

theorem W.z1v : ∀ a r, M.syntax_right a = some r → LF.z1v a r := (W.z1x).1

theorem W.z1w : ∀ a r, M.syntax_right_l0 a = some r → LL.z1w a r := (W.z1x).2

def Qcz := sub [1] B50
def Jfs : List Item := [.code Qcz]
def Qd0 := sub [0] B50
def Jft : List Item := .inRegion (opsOf Qd0) [0, 1] :: Jfs
def Qd1 := sub [1, 1] B50
def Jfu : List Item := [.code Qd1]
def Qd2 := sub [1, 0] B50
def Jfv : List Item := .inRegion (opsOf Qd2) [0, 1] :: Jfu
def Qd3 := sub [1, 1, 1] B50
def Jfw : List Item := [.code Qd3]
def Qd4 := sub [1, 1, 0, 1] B50
def Jfx : List Item := .code Qd4 :: Jfw
def Qd5 := sub [1, 1, 0, 0] B50
def Jfy : List Item := .inRegion (opsOf Qd5) [0, 1, 2, 3, 4, 5, 6, 7] :: Jfx
def Jfz : List Item := .inRegion (opsOf Qd5) [4, 5, 6, 7] :: Jfx
def Qd6 := sub [1, 1, 1, 1] B50
def Jg0 : List Item := [.code Qd6]
def Qd7 := sub [1, 1, 1, 0] B50
def Jg1 : List Item := .inRegion (opsOf Qd7) [0, 1] :: Jg0
def Qd8 := sub [1, 1, 0, 1, 0, 1] B50
def Jg2 : List Item := .code Qd8 :: Jfw

def Post.z1y (r : Int) (v : Value) (w' : World) : Prop :=
 ∃ S', v = .i r ∧ Ext S0 w0 S' w' ∧ Hp nz wz S' w' (Lr)

theorem W.z1y (x0 : T27) (r : Int) (h : M.syntax_Size x0 = some r) {nz wz S0 w0 Lr} [Gw nz wz] (u92 u93 u94) (p0 : Hp nz wz S0 w0 (Lr)) (u9e : x0.Set.length = 4) (u9f : Rd kT27 S0 w0 u92 u94 x0.L) (u9g : x0.L.length = u93) :
  Calls Tryd.prog 50 #[(ag (.i x0.Kind :: U4 x0.Set [.slice u92 u93 u94, .i x0.Min, .i x0.Max]))] w0 (Rets (Post.z1y nz wz S0 w0 Lr r)) := by
 subst u9g
 refine calls_of_goes (fn := Tryd.f50) (c := B50) (by kernel_rfl) (by kernel_rfl) 12 (by kernel_rfl) ?_
 refine Goes.jp 13 [(0, (ag (.i x0.Kind :: U4 x0.Set [.slice u92 x0.L.length u94, .i x0.Min, .i x0.Max])))] (fun junk => ?_)
 delta M.syntax_Size at h
 refine Goes.rn 2 [] Jft ?_
 refine Op_.box 28 (.tmp 0) 1 0 (ag (.i x0.Kind :: U4 x0.Set [.slice u92 x0.L.length u94, .i x0.Min, .i x0.Max])) (.i x0.Kind :: U4 x0.Set [.slice u92 x0.L.length u94, .i x0.Min, .i x0.Max]) p0 Goes.v (by kernel_rfl) (by kernel_rfl) ?_
 intro b1 w2 z2 p2
 refine Goes.rn 4 [(2, .i 0)] Jfv ?_
 refine Op_.alloc 3 3 0 (.i 0) [.i 0] p2 Goes.v (by kernel_rfl) (by kernel_rfl) ?_
 intro b3 w3 z3 p3
 refine Op_.st 3 (.tmp 3) (.const (.int .i64 0)) 0 0 b3 0 (.i 0) [.i 0] p3 rfl Goes.s (by kernel_rfl) (by kernel_rfl) (by kernel_rfl) (by kernel_rfl) (Nat.zero_le _) (by simp only [List.length_cons, List.length_nil]; omega) (by simp [Value.oneCell']) ?_
 intro w4 z4 p4
 have p4 : Hp nz wz S0 w4 ((some b3, .row 3 [.i 0] 1 0) :: (some b1, .row 28 (.i x0.Kind :: U4 x0.Set [.slice u92 x0.L.length u94, .i x0.Min, .i x0.Max]) 8 0) :: Lr) := p4
 refine Goes.rn 4 [] Jfy ?_
 refine Goes.ldN 28 (.tmp 1) 4 28 ⟨b1, 0, none⟩ (.i x0.Kind :: U4 x0.Set [.slice u92 x0.L.length u94, .i x0.Min, .i x0.Max]) (p4.pa 1 0) ?_
 refine bind_some' h fun y5 e6 h => ?_
 refine Goes.cal (.call { callee := .value (.func 67), args := #[(.tmp 4), (.const (.int .i64 128)), (.tmp 3)], argTypes := #[28, 3, 75] }) 5 4 67 _ (W.z1m (x0, 128, 0) y5 e6 u92 x0.L.length u94 b3 p4 u9e (u9f.ext ((z2.trans z3).trans z4)) rfl) ?_
 rintro _ w5 ⟨S5, rfl, z5, p5⟩
 refine Goes.rn 2 [(6, .bool (!y5.1)), (7, .bool (!y5.1))] Jfz ?_
 refine ite_some h (fun h7 h => ?_) (fun h7 h => ?_)
 ·
  rw [h7]
  refine Goes.ldN 28 (.tmp 1) 8 28 ⟨b1, 0, none⟩ (.i x0.Kind :: U4 x0.Set [.slice u92 x0.L.length u94, .i x0.Min, .i x0.Max]) (p5.pa 1 0) ?_
  refine bind_some' h fun y8 e9 h => ?_
  refine Goes.cal (kc 68 [8] #[28]) 9 4 68 _ (W.z1v x0 y8 e9 u92 x0.L.length u94 p5 u9e (u9f.ext (((z2.trans z3).trans z4).trans z5)) rfl) ?_
  rintro _ w6 ⟨S6, rfl, z6, p6⟩
  have p6 := p6.dp 1
  refine Goes.rn 3 [(10, .bool (!y8)), (11, .bool (!y8))] Jfx ?_
  refine ite_some h (fun h10 h => ?_) (fun h10 h => ?_)
  ·
   rw [h10]
   refine Goes.rn 4 [] Jg1 ?_
   refine Goes.ld 3 (.tmp 3) 12 3 ⟨b3, 0, none⟩ (.i y5.2) (p6.c 0 0) ?_
   refine Goes.rn 2 [(2, .i y5.2)] Jg0 ?_
   obtain rfl := Option.some.inj h
   have p6 := p6.dp 0
   exact Goes.rt Tryd.f50 (.i y5.2) ⟨S6, rfl, ((((((Ext.refl S0 w0).trans z2).trans z3).trans z4).trans z5).trans z6), p6⟩
  ·
   have u7f : y8 = false := by simpa using h10
   rw [u7f]
   refine Goes.rn 5 [(2, .i 0)] Jg2 ?_
   obtain rfl := Option.some.inj h
   have p6 := p6.dp 0
   exact Goes.rt Tryd.f50 (.i 0) ⟨S6, rfl, ((((((Ext.refl S0 w0).trans z2).trans z3).trans z4).trans z5).trans z6), p6⟩
 ·
  have h7' : y5.1 = false := by simpa using h7
  rw [h7']
  refine Goes.rn 10 [(8, undef), (9, undef), (10, undef), (11, .bool true), (2, .i 0)] Jg2 ?_
  obtain rfl := Option.some.inj h
  have p5 := (p5.dp 0).dp 0
  exact Goes.rt Tryd.f50 (.i 0) ⟨S5, rfl, (((((Ext.refl S0 w0).trans z2).trans z3).trans z4).trans z5), p5⟩

def Qd9 := sub [1] B32
def Jg3 : List Item := [.code Qd9]
def Qda := sub [0] B32
def Jg4 : List Item := .inRegion (opsOf Qda) [0, 1] :: Jg3
def Qdb := sub [1, 1] B32
def Jg5 : List Item := [.code Qdb]
def Qdc := sub [1, 0] B32
def Jg6 : List Item := .inRegion (opsOf Qdc) [0, 1, 2, 3] :: Jg5

def Post.z1z (r : Bool) (v : Value) (w' : World) : Prop :=
 ∃ S', v = .bool r ∧ Ext S0 w0 S' w' ∧ Hp nz wz S' w' (Lr)

theorem W.z1z (x0 : T27) (r : Bool) (h : M.syntax_Check x0 = some r) {nz wz S0 w0 Lr} [Gw nz wz] (u92 u93 u94) (p0 : Hp nz wz S0 w0 (Lr)) (u9e : x0.Set.length = 4) (u9f : Rd kT27 S0 w0 u92 u94 x0.L) (u9g : x0.L.length = u93) :
  Calls Tryd.prog 32 #[(ag (.i x0.Kind :: U4 x0.Set [.slice u92 u93 u94, .i x0.Min, .i x0.Max]))] w0 (Rets (Post.z1z nz wz S0 w0 Lr r)) := by
 subst u9g
 refine calls_of_goes (fn := Tryd.f32) (c := B32) (by kernel_rfl) (by kernel_rfl) 5 (by kernel_rfl) ?_
 refine Goes.jp 6 [(0, (ag (.i x0.Kind :: U4 x0.Set [.slice u92 x0.L.length u94, .i x0.Min, .i x0.Max])))] (fun junk => ?_)
 delta M.syntax_Check at h
 refine Goes.rn 2 [] Jg4 ?_
 refine Op_.box 28 (.tmp 0) 1 0 (ag (.i x0.Kind :: U4 x0.Set [.slice u92 x0.L.length u94, .i x0.Min, .i x0.Max])) (.i x0.Kind :: U4 x0.Set [.slice u92 x0.L.length u94, .i x0.Min, .i x0.Max]) p0 Goes.v (by kernel_rfl) (by kernel_rfl) ?_
 intro b1 w2 z2 p2
 refine Goes.rn 4 [(2, .bool false)] Jg6 ?_
 refine Goes.ldN 28 (.tmp 1) 3 28 ⟨b1, 0, none⟩ (.i x0.Kind :: U4 x0.Set [.slice u92 x0.L.length u94, .i x0.Min, .i x0.Max]) (p2.pa 0 0) ?_
 refine bind_some' h fun y3 e4 h => ?_
 refine Goes.cal (kc 50 [3] #[28]) 4 3 50 _ (W.z1y x0 y3 e4 u92 x0.L.length u94 p2 u9e (u9f.ext z2) rfl) ?_
 rintro _ w3 ⟨S3, rfl, z3, p3⟩
 have p3 := p3.dp 0
 refine Goes.rn 3 [(5, .bool (decide (y3 > 0))), (2, .bool (decide (y3 > 0)))] Jg5 ?_
 obtain rfl := Option.some.inj h
 exact Goes.rt Tryd.f32 (.bool (decide (y3 > 0))) ⟨S3, rfl, (((Ext.refl S0 w0).trans z2).trans z3), p3⟩

def Qdd := sub [1, 1, 1] B38
def Jg7 : List Item := [.code Qdd]
def Jg8 : List Item := .inBlock 0 :: Jg7
def Qde := sub [1, 1, 0, 1, 0, 1] B38
def Jg9 : List Item := .code Qde :: Jg8
def Jga : List Item := .inBlock 3 :: Jg9
def Qdf := sub [1, 1, 0, 1, 0, 0, 0, 1, 1] B38
def Jgb : List Item := .code Qdf :: Jga
def Jgc : List Item := .inBlock 4 :: Jgb
def Qdg := sub [1, 1, 0, 1, 0, 0, 0, 1, 0, 1, 0, 0] B38
def Jgd : List Item := .inLoop Qdg :: Jgc
def Jge : List Item := .code Qdg :: Jgd
def Qdh := sub [1] B38
def Jgf : List Item := [.code Qdh]
def Qdi := sub [0] B38
def Jgg : List Item := .inRegion (opsOf Qdi) [0, 1] :: Jgf
def Qdj := sub [1, 1, 0, 1] B38
def Jgh : List Item := .code Qdj :: Jg7
def Qdk := sub [1, 1, 0, 0] B38
def Jgi : List Item := .inRegion (opsOf Qdk) [1] :: Jgh
def Qdl := sub [1, 1, 0, 1, 0, 0, 0, 1] B38
def Jgj : List Item := .code Qdl :: Jga
def Jgk : List Item := .inBlock 2 :: Jgj
def Qdm := sub [1, 1, 0, 1, 0, 0, 0, 0, 0, 1] B38
def Jgl : List Item := .code Qdm :: Jgk
def Jgm : List Item := .inBlock 1 :: Jgl
def Qdn := sub [1, 1, 0, 1, 0, 0, 0, 0, 0, 0, 0, 1] B38
def Jgn : List Item := .code Qdn :: Jgm
def Qdo := sub [1, 1, 0, 1, 0, 0, 0, 0, 0, 0, 0, 0, 1] B38
def Jgo : List Item := .code Qdo :: Jgn
def Qdp := sub [1, 1, 0, 1, 0, 0, 0, 0, 0, 0, 0, 0, 0, 1] B38
def Jgp : List Item := .code Qdp :: Jgo
def Qdq := sub [1, 1, 0, 1, 0, 0, 0, 0, 0, 0, 0, 0, 0, 0] B38
def Jgq : List Item := .inRegion (opsOf Qdq) [] :: Jgp
def Jgr : List Item := .inRegion (opsOf Qdm) [1, 2, 3, 4, 5] :: Jgk
def Qdr := sub [1, 1, 0, 1, 0, 0, 0, 1, 0, 1] B38
def Jgs : List Item := .code Qdr :: Jgb
def Qds := sub [1, 1, 0, 1, 0, 0, 0, 1, 0, 0] B38
def Jgt : List Item := .inRegion (opsOf Qds) [1, 2, 3] :: Jgs
def Qdt := sub [1, 1, 0, 1, 0, 0, 0, 0, 0, 0, 0, 0, 1, 1] B38
def Jgu : List Item := .code Qdt :: Jgn
def Qdu := sub [1, 1, 0, 1, 0, 0, 0, 0, 0, 0, 0, 0, 1, 0, 1] B38
def Jgv : List Item := .code Qdu :: Jgu
def Qdv := sub [1, 1, 0, 1, 0, 0, 0, 0, 0, 0, 0, 0, 1, 1, 1] B38
def Jgw : List Item := .code Qdv :: Jgn
def Qdw := sub [1, 1, 0, 1, 0, 1, 1] B38
def Jgx : List Item := .code Qdw :: Jg8
def Qdx := sub [1, 1, 0, 1, 0, 1, 0, 1] B38
def Jgy : List Item := .code Qdx :: Jgx
def Qdy := sub [1, 1, 0, 1, 0, 1, 0, 0] B38
def Jgz : List Item := .inRegion (opsOf Qdy) [1, 2, 3, 4, 5] :: Jgy
def Qdz := sub [1, 1, 0, 1, 0, 1, 0, 1, 1] B38
def Jh0 : List Item := .code Qdz :: Jgx
def Qe0 := sub [1, 1, 0, 1, 0, 1, 0, 1, 0] B38
def Jh1 : List Item := .inRegion (opsOf Qe0) [1, 2, 3, 4] :: Jh0
def Qe1 := sub [1, 1, 0, 1, 0, 1, 0, 1, 1, 1] B38
def Jh2 : List Item := .code Qe1 :: Jgx
def Qe2 := sub [1, 1, 0, 1, 0, 1, 0, 1, 1, 0] B38
def Jh3 : List Item := .inRegion (opsOf Qe2) [1, 2] :: Jh2
def Qe3 := sub [1, 1, 1, 1] B38
def Jh4 : List Item := [.code Qe3]
def Qe4 := sub [1, 1, 1, 0] B38
def Jh5 : List Item := .inRegion (opsOf Qe4) [3] :: Jh4
def Qe5 := sub [1, 1, 0, 1, 0, 1, 0, 1, 1, 1, 1] B38
def Jh6 : List Item := .inRegion (opsOf Qe5) [2, 3, 4, 5, 6, 7, 8, 9, 10] :: Jgx
def Jh7 : List Item := .inRegion (opsOf Qe5) [4, 5, 6, 7, 8, 9, 10] :: Jgx
def Jh8 : List Item := .inRegion (opsOf Qe4) [] :: Jh4
def Qe6 := sub [1, 1, 0, 1, 0, 0, 0, 1, 0, 1, 0, 0, 1, 1] B38
def Jh9 : List Item := .code Qe6 :: Jgd
def Qe7 := sub [1, 1, 0, 1, 0, 0, 0, 1, 0, 1, 0, 0, 1, 0] B38
def Jha : List Item := .code Qe7 :: Jh9
def Qe8 := sub [1, 1, 0, 1, 0, 0, 0, 1, 0, 1, 0, 0, 1, 1, 1] B38
def Jhb : List Item := .code Qe8 :: Jgd
def Jhc : List Item := .inBlock 5 :: Jhb
def Qe9 := sub [1, 1, 0, 1, 0, 0, 0, 1, 0, 1, 0, 0, 1, 1, 0, 0, 1] B38
def Jhd : List Item := .code Qe9 :: Jhc
def Qea := sub [1, 1, 0, 1, 0, 0, 0, 1, 0, 1, 0, 0, 1, 1, 0, 0, 0] B38
def Jhe : List Item := .inRegion (opsOf Qea) [0, 1, 2, 3] :: Jhd
def Jhf : List Item := .inRegion (opsOf Qe9) [1, 2, 3, 4, 5] :: Jhc

def Post.z20 (r : Int) (v : Value) (w' : World) : Prop :=
 ∃ S', v = .i r ∧ Ext S0 w0 S' w' ∧ Hp nz wz S' w' (Lr)

def LF.z20 : T27 → Int → Prop := fun x0 r => ∀ {nz wz S0 w0 Lr} [Gw nz wz] u92 u93 u94 (_ : Hp nz wz S0 w0 (Lr)) (_ : x0.Set.length = 4) (_ : Rd kT27 S0 w0 u92 u94 x0.L) (_ : x0.L.length = u93),
 Calls Tryd.prog 38 #[(ag (.i x0.Kind :: U4 x0.Set [.slice u92 u93 u94, .i x0.Min, .i x0.Max]))] w0 (Rets (Post.z20 nz wz S0 w0 Lr r))

def L.z21 : Int × (List T27) × Int × Int → Int → Prop := fun ⟨x3, x21, x22, x23⟩ r => ∀ S1 w1, Ext S0 w0 S1 w1 → ∀ u9z ua0 ua1 (_ : Hp nz wz S1 w1 (Lr)) (_ : Rd kT27 S1 w1 u9z ua1 x21) (_ : x21.length = ua0) (junk : Nat → Value),
 Goes Tryd.prog (base 38) Jge ⟨lfr 62 [(3, .i x3), (21, .slice u9z ua0 ua1), (22, .i x22), (23, .i x23)] junk, []⟩ w1 (Done Tryd.prog 38 (Rets (Post.z20 nz wz S0 w0 Lr r)))

def LL.z21 : Int × (List T27) × Int × Int → Int → Prop := fun a r => ∀ {nz wz S0 w0 Lr} [Gw nz wz], L.z21 nz wz S0 w0 Lr a r

theorem W.z22 : (∀ a r, M.prog_size a = some r → LF.z20 a r) ∧ (∀ a r, M.prog_size_l0 a = some r → LL.z21 a r) := by
 refine M.prog_size.mutual_partial_correctness LF.z20 LL.z21 ?_ ?_
 ·
  intro rec_prog_size ua2 ih_prog_size ua3 x0 r h nz wz S0 w0 Lr iG u92 u93 u94 p0 u9e u9f u9g
  try dsimp only at h
  subst u9g
  refine calls_of_goes (fn := Tryd.f38) (c := B38) (by kernel_rfl) (by kernel_rfl) 61 (by kernel_rfl) ?_
  refine Goes.jp 62 [(0, (ag (.i x0.Kind :: U4 x0.Set [.slice u92 x0.L.length u94, .i x0.Min, .i x0.Max])))] (fun junk => ?_)
  refine Goes.rn 2 [] Jgg ?_
  refine Op_.box 28 (.tmp 0) 1 0 (ag (.i x0.Kind :: U4 x0.Set [.slice u92 x0.L.length u94, .i x0.Min, .i x0.Max])) (.i x0.Kind :: U4 x0.Set [.slice u92 x0.L.length u94, .i x0.Min, .i x0.Max]) p0 Goes.v (by kernel_rfl) (by kernel_rfl) ?_
  intro b1 w2 z2 p2
  refine Goes.rn 10 [(2, .i 0), (3, .i 0), (7, (pt b1 0))] Jgi ?_
  refine Goes.ld 3 (.tmp 7) 8 3 ⟨b1, 0, none⟩ (.i x0.Kind) (p2.c 0 0) ?_
  refine Goes.rn 14 [(10, .bool (decide (x0.Kind = 3))), (9, .bool (decide (x0.Kind = 3)))] Jgq ?_
  refine Goes.rn 1 [] Jgp ?_
  refine ite_some h (fun h3 h => ?_) (fun h3 h => ?_)
  ·
   rw [decide_eq_true h3]
   refine Goes.rn 4 [(15, (pt b1 5))] Jgr ?_
   refine Goes.ld 26 (.tmp 15) 16 26 ⟨b1, 5, none⟩ (.slice u92 x0.L.length u94) (p2.c 0 5) ?_
   refine Goes.rn 10 [(17, .i (x0.L.length : Int)), (18, .i (wr .i64 ((x0.L.length : Int) - 1))), (19, .i (imx 0 (wr .i64 ((x0.L.length : Int) - 1)))), (3, .i (imx 0 (wr .i64 ((x0.L.length : Int) - 1)))), (20, (pt b1 5))] Jgt ?_
   refine Goes.ld 26 (.tmp 20) 21 26 ⟨b1, 5, none⟩ (.slice u92 x0.L.length u94) (p2.c 0 5) ?_
   refine Goes.rn 5 [(22, .i (x0.L.length : Int)), (23, .i 0)] Jge ?_
   have p2 := p2.dp 0
   exact Goes.jp 62 [(3, .i (imx 0 (wr .i64 ((x0.L.length : Int) - 1)))), (21, .slice u92 x0.L.length u94), (22, .i (x0.L.length : Int)), (23, .i 0)] (ua3 _ _ h _ _ ((Ext.refl S0 w0).trans z2) u92 x0.L.length u94 p2 (u9f.ext z2) rfl)
  ·
   rw [decide_eq_false h3]
   refine Goes.rn 8 [(12, .bool (decide (x0.Kind = 2))), (11, .bool (decide (x0.Kind = 2)))] Jgv ?_
   refine ite_some h (fun h4 h => ?_) (fun h4 h => ?_)
   ·
    rw [decide_eq_true h4]
    refine Goes.rn 6 [(20, (pt b1 5))] Jgt ?_
    refine Goes.ld 26 (.tmp 20) 21 26 ⟨b1, 5, none⟩ (.slice u92 x0.L.length u94) (p2.c 0 5) ?_
    refine Goes.rn 5 [(22, .i (x0.L.length : Int)), (23, .i 0)] Jge ?_
    have p2 := p2.dp 0
    exact Goes.jp 62 [(3, .i 0), (21, .slice u92 x0.L.length u94), (22, .i (x0.L.length : Int)), (23, .i 0)] (ua3 _ _ h _ _ ((Ext.refl S0 w0).trans z2) u92 x0.L.length u94 p2 (u9f.ext z2) rfl)
   ·
    rw [decide_eq_false h4]
    refine Goes.rn 7 [(14, .bool (decide (x0.Kind = 4))), (13, .bool (decide (x0.Kind = 4)))] Jgw ?_
    refine ite_some h (fun h5 h => ?_) (fun h5 h => ?_)
    ·
     rw [decide_eq_true h5]
     refine Goes.rn 6 [(33, (pt b1 5))] Jgz ?_
     refine Goes.ld 26 (.tmp 33) 34 26 ⟨b1, 5, none⟩ (.slice u92 x0.L.length u94) (p2.c 0 5) ?_
     refine guard_some' h fun g6 h => ?_
     refine Op_.ixR_n 26 (.tmp 34) (.const (.int .i64 0)) 35 0 28 .i64 0 (gi x0.L 0) rfl rfl (u9f.ext z2) Goes.v (by kernel_rfl) (by kernel_rfl) (by kernel_rfl) (by kernel_rfl) (by decide : (0 : Int) ≤ 0) g6 ?_
     intro a7 _ f8 q9
     have q10 := q9
     obtain ⟨_, _, rfl, rfl, ⟨_, _, rfl, ⟨l11, f12⟩, ⟨_, _, rfl, ⟨A13, c14, rfl, f15⟩, ⟨_, _, rfl, rfl, rfl⟩⟩⟩⟩ := kT27_open q10
     obtain rfl := els_lit4' f12 l11
     refine Goes.ldN 28 (.tmp 35) 36 28 a7 ([.i ((gi x0.L 0).Kind)] ++ ((U4 ((gi x0.L 0).Set) []) ++ ([.slice A13 (((gi x0.L 0).L).length) c14] ++ ([.i ((gi x0.L 0).Min)] ++ [.i ((gi x0.L 0).Max)])))) (f8.cell) ?_
     refine bind_some' h fun y16 e17 h => ?_
     refine Goes.cal (kc 38 [36] #[28]) 37 3 38 _ (ih_prog_size (⟨(gi x0.L 0).Kind, ((gi x0.L 0).Set), (gi x0.L 0).L, (gi x0.L 0).Min, (gi x0.L 0).Max⟩ : T27) y16 e17 A13 (((gi x0.L 0).L).length) c14 p2 l11 f15 rfl) ?_
     rintro _ w3 ⟨S3, rfl, z3, p3⟩
     refine Goes.rn 5 [(6, .i y16), (38, (pt b1 6))] Jh1 ?_
     refine Goes.ld 3 (.tmp 38) 39 3 ⟨b1, 6, none⟩ (.i x0.Min) (p3.c 0 6) ?_
     refine Goes.rn 7 [(40, .i y16), (41, .i (wr .i64 (x0.Min * y16))), (3, .i (wr .i64 (x0.Min * y16))), (42, (pt b1 7))] Jh3 ?_
     refine Goes.ld 3 (.tmp 42) 43 3 ⟨b1, 7, none⟩ (.i x0.Max) (p3.c 0 7) ?_
     refine Goes.rn 2 [(44, .bool (decide (x0.Max < 0)))] Jh2 ?_
     refine ite_some h (fun h18 h => ?_) (fun h18 h => ?_)
     ·
      rw [decide_eq_true h18]
      refine Goes.rn 14 [(45, .i (wr .i64 (x0.Min * y16))), (46, .i y16), (47, .i (wr .i64 (y16 + 1))), (48, .i (wr .i64 ((wr .i64 (x0.Min * y16)) + (wr .i64 (y16 + 1))))), (3, .i (wr .i64 ((wr .i64 (x0.Min * y16)) + (wr .i64 (y16 + 1))))), (59, .i (wr .i64 ((wr .i64 (x0.Min * y16)) + (wr .i64 (y16 + 1))))), (60, .i (imx 1 (wr .i64 ((wr .i64 (x0.Min * y16)) + (wr .i64 (y16 + 1)))))), (61, .i (imn 1048576 (imx 1 (wr .i64 ((wr .i64 (x0.Min * y16)) + (wr .i64 (y16 + 1)))))))] Jh5 ?_
      refine Goes.rn 2 [(2, .i (imn 1048576 (imx 1 (wr .i64 ((wr .i64 (x0.Min * y16)) + (wr .i64 (y16 + 1)))))))] Jh4 ?_
      obtain rfl := Option.some.inj h
      have p3 := p3.dp 0
      exact Goes.rt Tryd.f38 (.i (imn 1048576 (imx 1 (wr .i64 ((wr .i64 (x0.Min * y16)) + (wr .i64 (y16 + 1))))))) ⟨S3, rfl, (((Ext.refl S0 w0).trans z2).trans z3), p3⟩
     ·
      rw [decide_eq_false h18]
      refine Goes.rn 4 [(49, .i (wr .i64 (x0.Min * y16))), (50, (pt b1 7))] Jh6 ?_
      refine Goes.ld 3 (.tmp 50) 51 3 ⟨b1, 7, none⟩ (.i x0.Max) (p3.c 0 7) ?_
      refine Goes.rn 1 [(52, (pt b1 6))] Jh7 ?_
      refine Goes.ld 3 (.tmp 52) 53 3 ⟨b1, 6, none⟩ (.i x0.Min) (p3.c 0 6) ?_
      refine Goes.rn 14 [(54, .i (wr .i64 (x0.Max - x0.Min))), (55, .i y16), (56, .i (wr .i64 (y16 + 1))), (57, .i (wr .i64 ((wr .i64 (x0.Max - x0.Min)) * (wr .i64 (y16 + 1))))), (58, .i (wr .i64 ((wr .i64 (x0.Min * y16)) + (wr .i64 ((wr .i64 (x0.Max - x0.Min)) * (wr .i64 (y16 + 1))))))), (3, .i (wr .i64 ((wr .i64 (x0.Min * y16)) + (wr .i64 ((wr .i64 (x0.Max - x0.Min)) * (wr .i64 (y16 + 1))))))), (59, .i (wr .i64 ((wr .i64 (x0.Min * y16)) + (wr .i64 ((wr .i64 (x0.Max - x0.Min)) * (wr .i64 (y16 + 1))))))), (60, .i (imx 1 (wr .i64 ((wr .i64 (x0.Min * y16)) + (wr .i64 ((wr .i64 (x0.Max - x0.Min)) * (wr .i64 (y16 + 1)))))))), (61, .i (imn 1048576 (imx 1 (wr .i64 ((wr .i64 (x0.Min * y16)) + (wr .i64 ((wr .i64 (x0.Max - x0.Min)) * (wr .i64 (y16 + 1))))))))), (2, .i (imn 1048576 (imx 1 (wr .i64 ((wr .i64 (x0.Min * y16)) + (wr .i64 ((wr .i64 (x0.Max - x0.Min)) * (wr .i64 (y16 + 1)))))))))] Jh8 ?_
      refine Goes.rn 1 [] Jh4 ?_
      obtain rfl := Option.some.inj h
      have p3 := p3.dp 0
      exact Goes.rt Tryd.f38 (.i (imn 1048576 (imx 1 (wr .i64 ((wr .i64 (x0.Min * y16)) + (wr .i64 ((wr .i64 (x0.Max - x0.Min)) * (wr .i64 (y16 + 1))))))))) ⟨S3, rfl, (((Ext.refl S0 w0).trans z2).trans z3), p3⟩
    ·
     rw [decide_eq_false h5]
     refine Goes.rn 10 [(59, .i 0), (60, .i 1), (61, .i 1), (2, .i 1)] Jh4 ?_
     obtain rfl := Option.some.inj h
     have p2 := p2.dp 0
     exact Goes.rt Tryd.f38 (.i 1) ⟨S0, rfl, ((Ext.refl S0 w0).trans z2), p2⟩
 ·
  intro rec_prog_size ua2 ih_prog_size ua3 ⟨x3, x21, x22, x23⟩ r h nz wz S0 w0 Lr iG S1 w1 hx u9z ua0 ua1 p1 ua4 ua5 junk
  try dsimp only at h
  subst ua5
  refine Goes.rn 5 [(24, .bool (decide (x23 < x22)))] Jha ?_
  refine ite_some h (fun h19 h => ?_) (fun h19 h => ?_)
  ·
   rw [decide_eq_true h19]
   refine Goes.rn 6 [] Jhe ?_
   refine guard_some' h fun g20 h => ?_
   refine guard_some' h fun g21 h => ?_
   refine Op_.ixR_n 26 (.tmp 21) (.tmp 23) 25 0 28 .i64 x23 (gi x21 x23) rfl rfl ua4 Goes.v (by kernel_rfl) (by kernel_rfl) (by kernel_rfl) (by kernel_rfl) g20 g21 ?_
   intro a22 _ f23 q24
   have q25 := q24
   obtain ⟨_, _, rfl, rfl, ⟨_, _, rfl, ⟨l26, f27⟩, ⟨_, _, rfl, ⟨A28, c29, rfl, f30⟩, ⟨_, _, rfl, rfl, rfl⟩⟩⟩⟩ := kT27_open q25
   obtain rfl := els_lit4' f27 l26
   refine Goes.ldN 28 (.tmp 25) 26 28 a22 ([.i ((gi x21 x23).Kind)] ++ ((U4 ((gi x21 x23).Set) []) ++ ([.slice A28 (((gi x21 x23).L).length) c29] ++ ([.i ((gi x21 x23).Min)] ++ [.i ((gi x21 x23).Max)])))) (f23.cell) ?_
   refine Op_.alloc 28 5 0 (.agg #[.i 0, .u 0, .u 0, .u 0, .u 0, .slice none 0 0, .i 0, .i 0]) [.i 0, .u 0, .u 0, .u 0, .u 0, .slice none 0 0, .i 0, .i 0] p1 Goes.v (by kernel_rfl) (by kernel_rfl) ?_
   intro b31 w4 z4 p4
   refine Op_.st 28 (.tmp 5) (.tmp 26) 0 0 b31 0 (ag (.i ((gi x21 x23).Kind) :: U4 ((gi x21 x23).Set) [.slice A28 (((gi x21 x23).L).length) c29, .i ((gi x21 x23).Min), .i ((gi x21 x23).Max)])) (.i ((gi x21 x23).Kind) :: U4 ((gi x21 x23).Set) [.slice A28 (((gi x21 x23).L).length) c29, .i ((gi x21 x23).Min), .i ((gi x21 x23).Max)]) p4 rfl Goes.s (by kernel_rfl) (by kernel_rfl) (by kernel_rfl) (by kernel_rfl) (Nat.zero_le _) (by simp only [List.length_cons, List.length_nil]; omega) (by simp [Value.oneCell']) ?_
   intro w5 z5 p5
   have p5 : Hp nz wz S1 w5 ((some b31, .row 28 (.i ((gi x21 x23).Kind) :: U4 ((gi x21 x23).Set) [.slice A28 (((gi x21 x23).L).length) c29, .i ((gi x21 x23).Min), .i ((gi x21 x23).Max)]) 8 0) :: Lr) := p5
   refine Goes.rn 3 [(27, .i x3)] Jhf ?_
   refine Goes.ldN 28 (.tmp 5) 28 28 ⟨b31, 0, none⟩ (.i ((gi x21 x23).Kind) :: U4 ((gi x21 x23).Set) [.slice A28 (((gi x21 x23).L).length) c29, .i ((gi x21 x23).Min), .i ((gi x21 x23).Max)]) (p5.pa 0 0) ?_
   refine bind_some' h fun y33 e34 h => ?_
   refine Goes.cal (kc 38 [28] #[28]) 29 3 38 _ (ih_prog_size (⟨(gi x21 x23).Kind, ((gi x21 x23).Set), (gi x21 x23).L, (gi x21 x23).Min, (gi x21 x23).Max⟩ : T27) y33 e34 A28 (((gi x21 x23).L).length) c29 p5 l26 (f30.ext (z4.trans z5)) rfl) ?_
   rintro _ w6 ⟨S6, rfl, z6, p6⟩
   have p6 := p6.dp 0
   refine Goes.rn 10 [(30, .i (wr .i64 (x3 + y33))), (31, .i (imn 1048576 (wr .i64 (x3 + y33)))), (3, .i (imn 1048576 (wr .i64 (x3 + y33)))), (32, .i (wr .i64 (x23 + 1))), (23, .i (wr .i64 (x23 + 1)))] Jge ?_
   exact Goes.jp 62 [(3, .i (imn 1048576 (wr .i64 (x3 + y33)))), (21, .slice u9z x21.length ua1), (22, .i x22), (23, .i (wr .i64 (x23 + 1)))] (ua3 _ _ h _ _ (((hx.trans z4).trans z5).trans z6) u9z x21.length ua1 p6 (ua4.ext ((z4.trans z5).trans z6)) rfl)
  ·
   rw [decide_eq_false h19]
   refine Goes.rn 10 [(59, .i x3), (60, .i (imx 1 x3)), (61, .i (imn 1048576 (imx 1 x3))), (2, .i (imn 1048576 (imx 1 x3)))] Jh4 ?_
   obtain rfl := Option.some.inj h
   exact Goes.rt Tryd.f38 (.i (imn 1048576 (imx 1 x3))) ⟨S1, rfl, hx, p1⟩

theorem W.z20 : ∀ a r, M.prog_size a = some r → LF.z20 a r := (W.z22).1

theorem W.z21 : ∀ a r, M.prog_size_l0 a = some r → LL.z21 a r := (W.z22).2

def Qeb := sub [1] B17
def Jhg : List Item := [.code Qeb]
def Qec := sub [0] B17
def Jhh : List Item := .inRegion (opsOf Qec) [0, 1, 2] :: Jhg
def Qed := sub [1, 1] B17
def Jhi : List Item := [.code Qed]
def Qee := sub [1, 0, 1] B17
def Jhj : List Item := .code Qee :: Jhi
def Qef := sub [1, 0, 0] B17
def Jhk : List Item := .inRegion (opsOf Qef) [0, 1, 2] :: Jhj
def Qeg := sub [1, 1, 1] B17
def Jhl : List Item := [.code Qeg]
def Qeh := sub [1, 1, 0] B17
def Jhm : List Item := .inRegion (opsOf Qeh) [0, 1, 2, 3, 4, 5] :: Jhl
def Qei := sub [1, 0, 1, 0, 1] B17
def Jhn : List Item := .code Qei :: Jhi

def Post.z23 (r : Int × Int) (v : Value) (w' : World) : Prop :=
 ∃ S', v = .tuple #[.i r.1, .i r.2] ∧ Ext S0 w0 S' w' ∧ Hp nz wz S' w' (Lr)

theorem W.z23 (x0 : T27) (r : Int × Int) (h : M.prog_Count x0 = some r) {nz wz S0 w0 Lr} [Gw nz wz] (u92 u93 u94) (p0 : Hp nz wz S0 w0 (Lr)) (u9e : x0.Set.length = 4) (u9f : Rd kT27 S0 w0 u92 u94 x0.L) (u9g : x0.L.length = u93) :
  Calls Tryd.prog 17 #[(ag (.i x0.Kind :: U4 x0.Set [.slice u92 u93 u94, .i x0.Min, .i x0.Max]))] w0 (Rets (Post.z23 nz wz S0 w0 Lr r)) := by
 subst u9g
 refine calls_of_goes (fn := Tryd.f17) (c := B17) (by kernel_rfl) (by kernel_rfl) 10 (by kernel_rfl) ?_
 refine Goes.jp 11 [(0, (ag (.i x0.Kind :: U4 x0.Set [.slice u92 x0.L.length u94, .i x0.Min, .i x0.Max])))] (fun junk => ?_)
 delta M.prog_Count at h
 refine Goes.rn 2 [] Jhh ?_
 refine Op_.box 28 (.tmp 0) 1 0 (ag (.i x0.Kind :: U4 x0.Set [.slice u92 x0.L.length u94, .i x0.Min, .i x0.Max])) (.i x0.Kind :: U4 x0.Set [.slice u92 x0.L.length u94, .i x0.Min, .i x0.Max]) p0 Goes.v (by kernel_rfl) (by kernel_rfl) ?_
 intro b1 w2 z2 p2
 refine Goes.rn 6 [(2, .i 0), (3, .i 0)] Jhk ?_
 refine Goes.ldN 28 (.tmp 1) 4 28 ⟨b1, 0, none⟩ (.i x0.Kind :: U4 x0.Set [.slice u92 x0.L.length u94, .i x0.Min, .i x0.Max]) (p2.pa 0 0) ?_
 refine bind_some' h fun y3 e4 h => ?_
 refine Goes.cal (kc 32 [4] #[28]) 5 4 32 _ (W.z1z x0 y3 e4 u92 x0.L.length u94 p2 u9e (u9f.ext z2) rfl) ?_
 rintro _ w3 ⟨S3, rfl, z3, p3⟩
 refine Goes.rn 2 [(6, .bool (!y3))] Jhj ?_
 refine ite_some h (fun h5 h => ?_) (fun h5 h => ?_)
 ·
  rw [h5]
  refine Goes.rn 4 [] Jhm ?_
  refine Goes.ldN 28 (.tmp 1) 7 28 ⟨b1, 0, none⟩ (.i x0.Kind :: U4 x0.Set [.slice u92 x0.L.length u94, .i x0.Min, .i x0.Max]) (p3.pa 0 0) ?_
  refine bind_some' h fun y6 e7 h => ?_
  refine Goes.cal (kc 38 [7] #[28]) 8 3 38 _ (W.z20 x0 y6 e7 u92 x0.L.length u94 p3 u9e (u9f.ext (z2.trans z3)) rfl) ?_
  rintro _ w4 ⟨S4, rfl, z4, p4⟩
  have p4 := p4.dp 0
  refine Goes.rn 5 [(9, .i (wr .i64 (y6 + 1))), (10, .i (imn 1048576 (wr .i64 (y6 + 1)))), (2, .i (imn 1048576 (wr .i64 (y6 + 1)))), (3, .i 0)] Jhl ?_
  obtain rfl := Option.some.inj h
  exact Goes.rt Tryd.f17 (.tuple #[.i (imn 1048576 (wr .i64 (y6 + 1))), .i 0]) ⟨S4, rfl, ((((Ext.refl S0 w0).trans z2).trans z3).trans z4), p4⟩
 ·
  have h5' : y3 = false := by simpa using h5
  rw [h5']
  refine Goes.rn 6 [(2, .i 0), (3, .i 2)] Jhn ?_
  obtain rfl := Option.some.inj h
  have p3 := p3.dp 0
  exact Goes.rt Tryd.f17 (.tuple #[.i 0, .i 2]) ⟨S3, rfl, (((Ext.refl S0 w0).trans z2).trans z3), p3⟩

def Qej := sub [1] B36
def Jho : List Item := [.code Qej]
def Qek := sub [0] B36
def Jhp : List Item := .inRegion (opsOf Qek) [0, 1] :: Jho
def Qel := sub [1, 1] B36
def Jhq : List Item := [.code Qel]
def Qem := sub [1, 0] B36
def Jhr : List Item := .code Qem :: Jhq
def Qen := sub [1, 1, 1] B36
def Jhs : List Item := [.code Qen]
def Qeo := sub [1, 1, 0] B36
def Jht : List Item := .inRegion (opsOf Qeo) [3, 4, 5, 6] :: Jhs

def Post.z24 (gx0 : Nat) (r : Int × (List T48)) (v : Value) (w' : World) : Prop :=
 ∃ S' ua6 ua7 ua8 ua9, v = .i r.1 ∧ Ext S0 w0 S' w' ∧ Hp nz wz S' w' ((some gx0, .row 78 [.slice (Gp ua6) ua7 ua8] 1 0) :: (ua6, .row 49 ua9 (ua8 * kT48.size) 0) :: Lr) ∧ Els kT48 S' w' ua9 r.2 ∧ r.2.length = ua7

theorem W.z24 (uaa : List T48) (x1 : T48) (r : Int × (List T48)) (h : M.prog_writer_put uaa x1 = some r) {nz wz S0 w0 Lr} [Gw nz wz] (gx0 uab uac uad uae) (p0 : Hp nz wz S0 w0 ((some gx0, .row 78 [.slice (Gp uab) uac uad] 1 0) :: (uab, .row 49 uae (uad * kT48.size) 0) :: Lr)) (uaf : Els kT48 S0 w0 uae uaa) (uag : uaa.length = uac) (uah : x1.Set.length = 4) :
  Calls Tryd.prog 36 #[(pt gx0 0), (ag (.i x1.Op :: U4 x1.Set [.i x1.X, .i x1.Y]))] w0 (Rets (Post.z24 nz wz S0 w0 Lr gx0 r)) := by
 subst uag
 refine calls_of_goes (fn := Tryd.f36) (c := B36) (by kernel_rfl) (by kernel_rfl) 19 (by kernel_rfl) ?_
 refine Goes.jp 21 [(0, (pt gx0 0)), (1, (ag (.i x1.Op :: U4 x1.Set [.i x1.X, .i x1.Y])))] (fun junk => ?_)
 delta M.prog_writer_put at h
 refine Goes.rn 2 [] Jhp ?_
 refine Op_.box 49 (.tmp 1) 3 0 (ag (.i x1.Op :: U4 x1.Set [.i x1.X, .i x1.Y])) (.i x1.Op :: U4 x1.Set [.i x1.X, .i x1.Y]) p0 Goes.v (by kernel_rfl) (by kernel_rfl) ?_
 intro b3 w2 z2 p2
 refine Goes.rn 3 [(4, .i 0)] Jhr ?_
 have z3 : Ext S0 w2 S0 (w2).drew := Ext.draw
 have p3 := p2.draw
 refine Goes.drawn (s := [10]) (F := Fc S0 (w2).drew [(⟨gx0, 0, none⟩, .slice (Gp uab) uaa.length uad), (⟨b3, 0, none⟩, .i x1.Op), (⟨b3, 1, none⟩, .u (gi x1.Set 0)), (⟨b3, 2, none⟩, .u (gi x1.Set 1)), (⟨b3, 3, none⟩, .u (gi x1.Set 2)), (⟨b3, 4, none⟩, .u (gi x1.Set 3)), (⟨b3, 5, none⟩, .i x1.X), (⟨b3, 6, none⟩, .i x1.Y)]) 1 11 (by kernel_rfl) (by kernel_rfl) (by kernel_rfl) (by kernel_rfl) ?_
 generalize (w2).drew = w3 at z3 p3 ⊢
 refine AnyG.pu 0 (.move (.tmp 0)) 5 76 ((pt gx0 0)) (Fc.here (p3.cs [(1, 0, 1), (0, 0, 7)])) ?_
 refine AnyG.pu 1 (.move (.tmp 0)) 6 76 ((pt gx0 0)) (Fc.here (p3.cs [(1, 0, 1), (0, 0, 7)])) ?_
 refine AnyG.pu 2 (.nilCheck (.tmp 6)) 7 0 ((pt gx0 0)) (Fc.here (p3.cs [(1, 0, 1), (0, 0, 7)])) ?_
 refine AnyG.pu 3 (.fieldAddr 78 (.tmp 7) 0) 8 0 ((pt gx0 0)) (Fc.here (p3.cs [(1, 0, 1), (0, 0, 7)])) ?_
 refine AnyG.ld1 (i := 4) 37 (.tmp 8) 9 37 ⟨gx0, 0, none⟩ (.slice (Gp uab) uaa.length uad) (by kernel_rfl) (by kernel_rfl) (Fc.here (p3.cs [(1, 0, 1), (0, 0, 7)])) (by kernel_rfl) (by kernel_rfl) (fun _ h => h.2.at_ 0 rfl) ?_
 refine AnyG.ldN (i := 5) 49 (.tmp 3) 10 49 ⟨b3, 0, none⟩ (.i x1.Op :: U4 x1.Set [.i x1.X, .i x1.Y]) (by kernel_rfl) (by kernel_rfl) (Fc.here (p3.cs [(1, 0, 1), (0, 0, 7)])) (by kernel_rfl) (by kernel_rfl) (by kernel_rfl) (fun _ h j v hj => by match j, hj with | 0, rfl => exact h.2.at_ 1 rfl | 1, rfl => exact h.2.at_ 2 rfl | 2, rfl => exact h.2.at_ 3 rfl | 3, rfl => exact h.2.at_ 4 rfl | 4, rfl => exact h.2.at_ 5 rfl | 5, rfl => exact h.2.at_ 6 rfl | 6, rfl => exact h.2.at_ 7 rfl | (j + 7), hj => simp at hj) ?_
 have f6 : Els kT48 S0 w3 ((.i x1.Op :: U4 x1.Set [.i x1.X, .i x1.Y]) : List Value) [x1] := by exact (Els.cons (K := kT48) (vs := (.i x1.Op :: U4 x1.Set [.i x1.X, .i x1.Y])) (x := x1) ⟨[.i x1.Op], (U4 x1.Set [.i x1.X, .i x1.Y]), rfl, rfl, ⟨(U4 x1.Set []), [.i x1.X, .i x1.Y], rfl, ⟨uah, els_mk4 uah⟩, ⟨[.i x1.X], [.i x1.Y], rfl, rfl, rfl⟩⟩⟩ Els.nil)
 refine Op_.made (.buildSlice 37 1 #[(0, (.tmp 10))]) 11 37 (fun b => .slice (Gp (some b)) 1 1) 49 ((.i x1.Op :: U4 x1.Set [.i x1.X, .i x1.Y]) : List Value) p3 (AnyG.vs (i := 6) (by kernel_rfl) (by kernel_rfl)) (by kernel_rfl) ?_
 intro b5 w4 z4 p4
 have p4 : Hp nz wz S0 w4 (((some b5), .row 49 ((.i x1.Op :: U4 x1.Set [.i x1.X, .i x1.Y]) : List Value) (1 * kT48.size) 0) :: (some b3, .row 49 (.i x1.Op :: U4 x1.Set [.i x1.X, .i x1.Y]) 7 0) :: (some gx0, .row 78 [.slice (Gp uab) uaa.length uad] 1 0) :: (uab, .row 49 uae (uad * kT48.size) 0) :: Lr) := p4
 refine AnyG.next z4 ⟨(p4.c 2 0), (p4.c 1 0), (p4.c 1 1), (p4.c 1 2), (p4.c 1 3), (p4.c 1 4), (p4.c 1 5), (p4.c 1 6), trivial⟩ ?_
 refine guard_some' h fun g11 h => ?_
 refine Op_.ap_n (K := kT48) 37 (.tmp 9) (.tmp 11) 12 37 49 3 (.agg #[.i 0, .u 0, .u 0, .u 0, .u 0, .i 0, .i 0]) 56 uaa.length uad 1 uaa [x1] (uaa ++ [x1]) (Gp (some b5)) 1 rfl rfl rfl p4 rfl (uaf.ext ((z2.trans z3).trans z4)) (AnyG.vs (i := 7) (by kernel_rfl) (by kernel_rfl)) (by kernel_rfl) (by kernel_rfl) (by kernel_rfl) (by kernel_rfl) rfl (by decide) (f6.ext z4) (src_own p4 (q := 0) rfl) (by have := g11; omega) (by have := g11; omega) ?_
 intro w5 G12 c13 uai z5 p5 f15
 refine AnyG.next z5 ⟨(p5.c 2 0), (p5.c 1 0), (p5.c 1 1), (p5.c 1 2), (p5.c 1 3), (p5.c 1 4), (p5.c 1 5), (p5.c 1 6), trivial⟩ ?_
 refine AnyG.pu 8 (.nilCheck (.tmp 5)) 13 0 ((pt gx0 0)) (Fc.here (p5.cs [(2, 0, 1), (1, 0, 7)])) ?_
 refine AnyG.pu 9 (.fieldAddr 78 (.tmp 13) 0) 14 0 ((pt gx0 0)) (Fc.here (p5.cs [(2, 0, 1), (1, 0, 7)])) ?_
 refine Op_.st 37 (.tmp 14) (.tmp 12) 0 2 gx0 0 (.slice (Gp G12) ((uaa ++ [x1]).length) c13) [.slice (Gp G12) ((uaa ++ [x1]).length) c13] p5 rfl (AnyG.ss (i := 10) (by kernel_rfl) (by kernel_rfl)) (by kernel_rfl) (by kernel_rfl) (by kernel_rfl) (by kernel_rfl) (Nat.zero_le _) (by simp only [List.length_cons, List.length_nil]; omega) (by simp [Value.oneCell']) ?_
 intro w6 z6 p6
 have p6 : Hp nz wz S0 w6 (((some b5), .row 49 ((.i x1.Op :: U4 x1.Set [.i x1.X, .i x1.Y]) : List Value) (1 * kT48.size) 0) :: (some b3, .row 49 (.i x1.Op :: U4 x1.Set [.i x1.X, .i x1.Y]) 7 0) :: (some gx0, .row 78 [.slice (Gp G12) ((uaa ++ [x1]).length) c13] 1 0) :: (G12, .row 49 uai (c13 * kT48.size) 0) :: Lr) := p6
 refine AnyG.last [] (Fc S0 w6 []) (by decide) ?_
 refine AnyG.done (by kernel_rfl) ?_ _
 have p6 := (p6.dp 0).dp 0
 refine Goes.rn 5 [(15, (pt gx0 0)), (16, (pt gx0 0)), (17, (pt gx0 0))] Jht ?_
 refine Goes.ld 37 (.tmp 17) 18 37 ⟨gx0, 0, none⟩ (.slice (Gp G12) ((uaa ++ [x1]).length) c13) (p6.c 0 0) ?_
 refine Goes.rn 4 [(19, .i ((uaa ++ [x1]).length : Int)), (20, .i (wr .i64 (((uaa ++ [x1]).length : Int) - 1))), (4, .i (wr .i64 (((uaa ++ [x1]).length : Int) - 1)))] Jhs ?_
 obtain rfl := Option.some.inj h
 exact Goes.rt Tryd.f36 (.i (wr .i64 (((uaa ++ [x1]).length : Int) - 1))) ⟨S0, G12, (uaa ++ [x1]).length, c13, uai, rfl, ((((((Ext.refl S0 w0).trans z2).trans z3).trans z4).trans z5).trans z6), p6, (f15.ext z6), rfl⟩

end

end Go.Gx
