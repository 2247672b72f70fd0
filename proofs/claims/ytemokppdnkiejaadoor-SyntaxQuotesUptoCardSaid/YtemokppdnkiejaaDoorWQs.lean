import Derived.Test.YtemokppdnkiejaaDoorWQsb

set_option linter.unusedVariables false

set_option maxRecDepth 100000

set_option maxHeartbeats 4000000

namespace Go.Gx

open Go.RowKit Go.Proofs

variable (nz : Nat) (wz : World) (S0 : Fz) (w0 : World) (Lr : List Ent)

noncomputable section

def Qcu := sub [1] B11
def Jfk : List Item := [.code Qcu]
def Qcv := sub [0] B11
def Jfl : List Item := .inRegion (opsOf Qcv) [0, 1, 2] :: Jfk
def Qcw := sub [1, 1] B11
def Jfm : List Item := [.code Qcw]
def Qcx := sub [1, 0, 1] B11
def Jfn : List Item := .code Qcx :: Jfm
def Qcy := sub [1, 0, 1, 0, 1] B11
def Jfo : List Item := .code Qcy :: Jfm
def Qcz := sub [1, 0, 1, 0, 0] B11
def Jfp : List Item := .inRegion (opsOf Qcz) [1, 2, 3] :: Jfo
def Qd0 := sub [1, 1, 1] B11
def Jfq : List Item := [.code Qd0]
def Qd1 := sub [1, 1, 0] B11
def Jfr : List Item := .inRegion (opsOf Qd1) [2, 3] :: Jfq
def Qd2 := sub [1, 1, 1, 1] B11
def Jfs : List Item := [.code Qd2]
def Qd3 := sub [1, 1, 1, 0] B11
def Jft : List Item := .inRegion (opsOf Qd3) [1, 2, 3] :: Jfs
def Qd4 := sub [1, 1, 1, 1, 0, 0] B11
def Jfu : List Item := .inRegion (opsOf Qd4) [3, 4, 5, 6, 7, 8, 9, 10, 11, 12, 13] :: Jfi
def Jfv : List Item := .inRegion (opsOf Qd4) [9, 10, 11, 12, 13] :: Jfi

theorem W.z23 (x0 : ByteArray) (r : T27 × Int × Int) (h : M.syntax_Parse x0 = some r) {nz wz S0 w0 Lr} [Gw nz wz] (p0 : Hp nz wz S0 w0 (Lr)) :
  Calls Tryd.prog 11 #[.string x0] w0 (Rets (Post.z23 nz wz S0 w0 Lr r)) := by
 refine calls_of_goes (fn := Tryd.f11) (c := B11) (by kernel_rfl) (by kernel_rfl) 49 (by kernel_rfl) ?_
 refine Goes.jp 50 [(0, .string x0)] (fun junk => ?_)
 delta M.syntax_Parse at h
 refine Goes.rn 2 [] Jfl ?_
 refine Op_.alloc 28 2 0 (.agg #[.i 0, .u 0, .u 0, .u 0, .u 0, .slice none 0 0, .i 0, .i 0]) [.i 0, .u 0, .u 0, .u 0, .u 0, .slice none 0 0, .i 0, .i 0] p0 Goes.v (by kernel_rfl) (by kernel_rfl) ?_
 intro b1 w2 z2 p2
 refine Goes.rn 10 [(3, .i 0), (4, .i 0), (7, .string x0), (8, .i (x0.size : Int)), (9, .bool (decide ((x0.size : Int) > 256)))] Jfn ?_
 refine ite_some h (fun h3 h => ?_) (fun h3 h => ?_)
 ·
  rw [decide_eq_true h3]
  refine Goes.rn 4 [(10, .agg #[.i 0, .u 0, .u 0, .u 0, .u 0, .slice none 0 0, .i 0, .i 0])] Jfp ?_
  refine Op_.st 28 (.tmp 2) (.tmp 10) 0 0 b1 0 (.agg #[.i 0, .u 0, .u 0, .u 0, .u 0, .slice none 0 0, .i 0, .i 0]) [.i 0, .u 0, .u 0, .u 0, .u 0, .slice none 0 0, .i 0, .i 0] p2 rfl Goes.s (by kernel_rfl) (by kernel_rfl) (by kernel_rfl) (by kernel_rfl) (Nat.zero_le _) (by simp only [List.length_cons, List.length_nil]; omega) (by simp [Value.oneCell']) ?_
  intro w3 z3 p3
  have p3 : Hp nz wz S0 w3 ((some b1, .row 28 [.i 0, .u 0, .u 0, .u 0, .u 0, .slice none 0 0, .i 0, .i 0] 8 0) :: Lr) := p3
  refine Goes.rn 3 [(3, .i 0), (4, .i 3)] Jfo ?_
  obtain rfl := Option.some.inj h
  exact Goes.ret (fn := Tryd.f11) (by kernel_rfl) (v := .tuple #[.agg #[.i 0, .u 0, .u 0, .u 0, .u 0, .slice none 0 0, .i 0, .i 0], .i 0, .i 3]) (results_n3 (fn := Tryd.f11) (a := .cell 2 28) (b := .tmp 3) (c := .tmp 4) (by kernel_rfl) (resV_cell ⟨b1, 0, none⟩ (by kernel_rfl) (run_loadN [.i 0, .u 0, .u 0, .u 0, .u 0, .slice none 0 0, .i 0, .i 0] (by kernel_rfl) (by kernel_rfl) (p3.pa 0 0))) (resV_tmp (by kernel_rfl)) (resV_tmp (by kernel_rfl))) ⟨S0, none, 0, 0, rfl, (((Ext.refl S0 w0).trans z2).trans z3), p3.drop, rfl, Rd.none_, rfl⟩
 ·
  rw [decide_eq_false h3]
  refine Goes.rn 6 [(11, .string x0), (12, .agg #[.string x0, .i 0, .i 0, .pointer none])] Jfr ?_
  refine Op_.box 69 (.tmp 12) 13 66 (.agg #[.string x0, .i 0, .i 0, .pointer none]) [.string x0, .i 0, .i 0, .pointer none] p2 Goes.v (by kernel_rfl) (by kernel_rfl) ?_
  intro b4 w4 z4 p4
  refine Goes.rn 5 [(5, (pt b4 0)), (14, (pt b4 0))] Jft ?_
  refine bind_some' h fun y6 e7 h => ?_
  refine Goes.cal (kc 30 [14] #[66]) 15 28 30 _ (W.z1r (⟨x0, 0, 0, none⟩ : T68) y6 e7 b4 (.pointer none) p4 rfl) ?_
  rintro _ w5 ⟨S5, u9n, u9o, u9p, u56, rfl, z5, p5, u9q, u9r, rfl, u58⟩
  refine Op_.alloc 28 6 0 (.agg #[.i 0, .u 0, .u 0, .u 0, .u 0, .slice none 0 0, .i 0, .i 0]) [.i 0, .u 0, .u 0, .u 0, .u 0, .slice none 0 0, .i 0, .i 0] p5 Goes.v (by kernel_rfl) (by kernel_rfl) ?_
  intro b8 w6 z6 p6
  refine Op_.st 28 (.tmp 6) (.tmp 15) 0 0 b8 0 (ag (.i y6.1.Kind :: U4 y6.1.Set [.slice u9n y6.1.L.length u9p, .i y6.1.Min, .i y6.1.Max])) (.i y6.1.Kind :: U4 y6.1.Set [.slice u9n y6.1.L.length u9p, .i y6.1.Min, .i y6.1.Max]) p6 rfl Goes.s (by kernel_rfl) (by kernel_rfl) (by kernel_rfl) (by kernel_rfl) (Nat.zero_le _) (by simp only [List.length_cons, List.length_nil]; omega) (by simp [Value.oneCell']) ?_
  intro w7 z7 p7
  have p7 : Hp nz wz S5 w7 ((some b8, .row 28 (.i y6.1.Kind :: U4 y6.1.Set [.slice u9n y6.1.L.length u9p, .i y6.1.Min, .i y6.1.Max]) 8 0) :: (some b4, .row 69 [.string y6.2.s, .i y6.2.at_, .i y6.2.deep, u56] 4 0) :: (some b1, .row 28 [.i 0, .u 0, .u 0, .u 0, .u 0, .slice none 0 0, .i 0, .i 0] 8 0) :: Lr) := p7
  refine Goes.rn 7 [(16, (pt b4 0)), (17, (pt b4 0)), (18, (pt b4 3))] Jfu ?_
  refine Goes.ld 67 (.tmp 18) 19 67 ⟨b4, 3, none⟩ (u56) (p7.c 1 3) ?_
  refine let_some h fun v22 h10 h => ?_
  rcases v22 with _ | y11
  ·
   try dsimp only at h
   obtain rfl := PtO.nil (u58.ext (z6.trans z7)) h10
   refine Goes.rn 5 [(20, .bool true), (21, .bool true), (22, (pt b4 0)), (23, (pt b4 0)), (24, (pt b4 1))] Jfv ?_
   refine Goes.ld 3 (.tmp 24) 25 3 ⟨b4, 1, none⟩ (.i y6.2.at_) (p7.c 1 1) ?_
   refine Goes.rn 5 [(26, .string x0), (27, .i (x0.size : Int)), (28, .bool (decide (y6.2.at_ < (x0.size : Int)))), (29, .bool (decide (y6.2.at_ < (x0.size : Int))))] Jfi ?_
   have p7 : Hp nz wz S5 w7 ((none, .row 28 [] (0 * kT27.size) 0) :: (some b8, .row 28 (.i y6.1.Kind :: U4 y6.1.Set [.slice u9n y6.1.L.length u9p, .i y6.1.Min, .i y6.1.Max]) 8 0) :: (some b4, .row 69 [.string y6.2.s, .i y6.2.at_, .i y6.2.deep, .pointer none] 4 0) :: (some b1, .row 28 [.i 0, .u 0, .u 0, .u 0, .u 0, .slice none 0 0, .i 0, .i 0] 8 0) :: Lr) := p7.nilRow' 28
   have p7 := (((p7.fr 1).fr 2).fr 2).fr 3
   exact Goes.jp 50 [(2, (pt b1 0)), (5, (pt b4 0)), (6, (pt b8 0)), (29, .bool (decide (y6.2.at_ < (x0.size : Int))))] (W.z26 _ _ h _ _ ((((((Ext.refl S0 w0).trans z2).trans z4).trans z5).trans z6).trans z7) b1 none 0 0 [] b4 (.pointer none) b8 u9n y6.1.L.length u9p p7 rfl (Els.nil (K := kT27)) rfl rfl u9q (u9r.ext (z6.trans z7)) rfl)
  ·
   try dsimp only at h
   obtain ⟨a13, _, rfl, -, f14, q15⟩ := PtO.got (u58.ext (z6.trans z7)) h10
   obtain rfl := q15
   refine Goes.rn 11 [(20, .bool false), (21, .bool false), (22, undef), (23, undef), (24, undef), (25, undef), (26, undef), (27, undef), (28, undef), (29, .bool false)] Jfi ?_
   have p7 : Hp nz wz S5 w7 ((none, .row 28 [] (0 * kT27.size) 0) :: (some b8, .row 28 (.i y6.1.Kind :: U4 y6.1.Set [.slice u9n y6.1.L.length u9p, .i y6.1.Min, .i y6.1.Max]) 8 0) :: (some b4, .row 69 [.string y6.2.s, .i y6.2.at_, .i y6.2.deep, .pointer (some a13)] 4 0) :: (some b1, .row 28 [.i 0, .u 0, .u 0, .u 0, .u 0, .slice none 0 0, .i 0, .i 0] 8 0) :: Lr) := p7.nilRow' 28
   have p7 := (((p7.fr 1).fr 2).fr 2).fr 3
   exact Goes.jp 50 [(2, (pt b1 0)), (5, (pt b4 0)), (6, (pt b8 0)), (29, .bool false)] (W.z26 _ _ h _ _ ((((((Ext.refl S0 w0).trans z2).trans z4).trans z5).trans z6).trans z7) b1 none 0 0 [] b4 (.pointer (some a13)) b8 u9n y6.1.L.length u9p p7 rfl (Els.nil (K := kT27)) rfl ⟨_, _, rfl, List.cons_ne_nil _ _, f14, rfl⟩ u9q (u9r.ext (z6.trans z7)) rfl)

def Qd5 := sub [1, 1] B12
def Jfw : List Item := [.code Qd5]
def Qd6 := sub [1, 0] B12
def Jfx : List Item := .inRegion (opsOf Qd6) [0, 1, 2, 3, 4, 5, 6, 7, 8] :: Jfw
def Jfy : List Item := .inRegion (opsOf Qd6) [5, 6, 7, 8] :: Jfw
def Qd7 := sub [1, 1, 1] B12
def Jfz : List Item := [.code Qd7]
def Qd8 := sub [1, 1, 0] B12
def Jg0 : List Item := .inRegion (opsOf Qd8) [0, 1, 2, 3, 4, 5, 6, 7, 8] :: Jfz
def Jg1 : List Item := .inRegion (opsOf Qd8) [5, 6, 7, 8] :: Jfz
def Qd9 := sub [1, 1, 1, 1] B12
def Jg2 : List Item := [.code Qd9]
def Qda := sub [1, 1, 1, 0] B12
def Jg3 : List Item := .inRegion (opsOf Qda) [0, 1, 2, 3, 4, 5, 6, 7, 8] :: Jg2
def Jg4 : List Item := .inRegion (opsOf Qda) [5, 6, 7, 8] :: Jg2
def Qdb := sub [1, 1, 1, 1, 1] B12
def Jg5 : List Item := [.code Qdb]
def Qdc := sub [1, 1, 1, 1, 0] B12
def Jg6 : List Item := .inRegion (opsOf Qdc) [3, 4, 5, 6, 7, 8, 9, 10, 11, 12, 13, 14, 15, 16, 17, 18, 19, 20, 21, 22, 23, 24, 25, 26, 27, 28, 29, 30, 31, 32, 33, 34, 35, 36, 37, 38, 39, 40, 41] :: Jg5
def Jg7 : List Item := .inRegion (opsOf Qdc) [4, 5, 6, 7, 8, 9, 10, 11, 12, 13, 14, 15, 16, 17, 18, 19, 20, 21, 22, 23, 24, 25, 26, 27, 28, 29, 30, 31, 32, 33, 34, 35, 36, 37, 38, 39, 40, 41] :: Jg5
def Jg8 : List Item := .inRegion (opsOf Qdc) [8, 9, 10, 11, 12, 13, 14, 15, 16, 17, 18, 19, 20, 21, 22, 23, 24, 25, 26, 27, 28, 29, 30, 31, 32, 33, 34, 35, 36, 37, 38, 39, 40, 41] :: Jg5
def Jg9 : List Item := .inRegion (opsOf Qdc) [9, 10, 11, 12, 13, 14, 15, 16, 17, 18, 19, 20, 21, 22, 23, 24, 25, 26, 27, 28, 29, 30, 31, 32, 33, 34, 35, 36, 37, 38, 39, 40, 41] :: Jg5
def Jga : List Item := .inRegion (opsOf Qdc) [14, 15, 16, 17, 18, 19, 20, 21, 22, 23, 24, 25, 26, 27, 28, 29, 30, 31, 32, 33, 34, 35, 36, 37, 38, 39, 40, 41] :: Jg5
def Jgb : List Item := .inRegion (opsOf Qdc) [15, 16, 17, 18, 19, 20, 21, 22, 23, 24, 25, 26, 27, 28, 29, 30, 31, 32, 33, 34, 35, 36, 37, 38, 39, 40, 41] :: Jg5
def Jgc : List Item := .inRegion (opsOf Qdc) [18, 19, 20, 21, 22, 23, 24, 25, 26, 27, 28, 29, 30, 31, 32, 33, 34, 35, 36, 37, 38, 39, 40, 41] :: Jg5
def Jgd : List Item := .inRegion (opsOf Qdc) [22, 23, 24, 25, 26, 27, 28, 29, 30, 31, 32, 33, 34, 35, 36, 37, 38, 39, 40, 41] :: Jg5
def Jge : List Item := .inRegion (opsOf Qdc) [23, 24, 25, 26, 27, 28, 29, 30, 31, 32, 33, 34, 35, 36, 37, 38, 39, 40, 41] :: Jg5
def Jgf : List Item := .inRegion (opsOf Qdc) [26, 27, 28, 29, 30, 31, 32, 33, 34, 35, 36, 37, 38, 39, 40, 41] :: Jg5
def Jgg : List Item := .inRegion (opsOf Qdc) [30, 31, 32, 33, 34, 35, 36, 37, 38, 39, 40, 41] :: Jg5
def Jgh : List Item := .inRegion (opsOf Qdc) [34, 35, 36, 37, 38, 39, 40, 41] :: Jg5
def Jgi : List Item := .inRegion (opsOf Qdc) [38, 39, 40, 41] :: Jg5
def Jgj : List Item := .inRegion (opsOf Qdc) [36, 37, 38, 39, 40, 41] :: Jg5
def Jgk : List Item := .inRegion (opsOf Qdc) [28, 29, 30, 31, 32, 33, 34, 35, 36, 37, 38, 39, 40, 41] :: Jg5
def Jgl : List Item := .inRegion (opsOf Qdc) [] :: Jg5
def Jgm : List Item := .inRegion (opsOf Qdc) [17, 18, 19, 20, 21, 22, 23, 24, 25, 26, 27, 28, 29, 30, 31, 32, 33, 34, 35, 36, 37, 38, 39, 40, 41] :: Jg5
def Jgn : List Item := .inRegion (opsOf Qdc) [31, 32, 33, 34, 35, 36, 37, 38, 39, 40, 41] :: Jg5

def Post.z27 (r : Bool) (v : Value) (w' : World) : Prop :=
 ∃ S', v = .bool r ∧ Ext S0 w0 S' w' ∧ Hp nz wz S' w' (Lr)

theorem W.z27 (r : Bool) (h : M.tidepolelaw10_works = some r) {nz wz S0 w0 Lr} [Gw nz wz] (p0 : Hp nz wz S0 w0 (Lr)) :
  Calls Tryd.prog 12 #[] w0 (Rets (Post.z27 nz wz S0 w0 Lr r)) := by
 refine calls_of_goes (fn := Tryd.f12) (c := B12) (by kernel_rfl) (by kernel_rfl) 66 (by kernel_rfl) ?_
 refine Goes.jp 66 [] (fun junk => ?_)
 delta M.tidepolelaw10_works at h
 refine Goes.rn 6 [(0, .bool false)] Jfx ?_
 refine bind_some' h fun y1 e2 h => ?_
 refine Goes.cal (.call { callee := .value (.func 11), args := #[(.const (.string ⟨#[97, 124, 98, 42]⟩))], argTypes := #[9] }) 11 30 11 _ (W.z23 (⟨#[97, 124, 98, 42]⟩ : ByteArray) y1 e2  p0 ) ?_
 rintro _ w2 ⟨S2, uax, uay, uaz, rfl, z2, p2, ub0, ub1, rfl⟩
 refine Goes.rn 4 [(10, .tuple #[(ag (.i y1.1.Kind :: U4 y1.1.Set [.slice uax y1.1.L.length uaz, .i y1.1.Min, .i y1.1.Max])), .i y1.2.1, .i y1.2.2]), (12, (ag (.i y1.1.Kind :: U4 y1.1.Set [.slice uax y1.1.L.length uaz, .i y1.1.Min, .i y1.1.Max]))), (13, .i y1.2.1), (14, .i y1.2.2)] Jfy ?_
 refine Op_.alloc 28 1 0 (.agg #[.i 0, .u 0, .u 0, .u 0, .u 0, .slice none 0 0, .i 0, .i 0]) [.i 0, .u 0, .u 0, .u 0, .u 0, .slice none 0 0, .i 0, .i 0] p2 Goes.v (by kernel_rfl) (by kernel_rfl) ?_
 intro b3 w3 z3 p3
 refine Op_.st 28 (.tmp 1) (.tmp 12) 0 0 b3 0 (ag (.i y1.1.Kind :: U4 y1.1.Set [.slice uax y1.1.L.length uaz, .i y1.1.Min, .i y1.1.Max])) (.i y1.1.Kind :: U4 y1.1.Set [.slice uax y1.1.L.length uaz, .i y1.1.Min, .i y1.1.Max]) p3 rfl Goes.s (by kernel_rfl) (by kernel_rfl) (by kernel_rfl) (by kernel_rfl) (Nat.zero_le _) (by simp only [List.length_cons, List.length_nil]; omega) (by simp [Value.oneCell']) ?_
 intro w4 z4 p4
 have p4 : Hp nz wz S2 w4 ((some b3, .row 28 (.i y1.1.Kind :: U4 y1.1.Set [.slice uax y1.1.L.length uaz, .i y1.1.Min, .i y1.1.Max]) 8 0) :: Lr) := p4
 refine Goes.rn 5 [(2, .i y1.2.1), (3, .i y1.2.2)] Jg0 ?_
 refine bind_some' h fun y5 e6 h => ?_
 refine Goes.cal (.call { callee := .value (.func 11), args := #[(.const (.string ⟨#[97, 42, 42]⟩))], argTypes := #[9] }) 16 30 11 _ (W.z23 (⟨#[97, 42, 42]⟩ : ByteArray) y5 e6  p4 ) ?_
 rintro _ w5 ⟨S5, ub2, ub3, ub4, rfl, z5, p5, ub5, ub6, rfl⟩
 refine Goes.rn 4 [(15, .tuple #[(ag (.i y5.1.Kind :: U4 y5.1.Set [.slice ub2 y5.1.L.length ub4, .i y5.1.Min, .i y5.1.Max])), .i y5.2.1, .i y5.2.2]), (17, (ag (.i y5.1.Kind :: U4 y5.1.Set [.slice ub2 y5.1.L.length ub4, .i y5.1.Min, .i y5.1.Max]))), (18, .i y5.2.1), (19, .i y5.2.2)] Jg1 ?_
 refine Op_.alloc 28 4 0 (.agg #[.i 0, .u 0, .u 0, .u 0, .u 0, .slice none 0 0, .i 0, .i 0]) [.i 0, .u 0, .u 0, .u 0, .u 0, .slice none 0 0, .i 0, .i 0] p5 Goes.v (by kernel_rfl) (by kernel_rfl) ?_
 intro b7 w6 z6 p6
 refine Op_.st 28 (.tmp 4) (.tmp 17) 0 0 b7 0 (ag (.i y5.1.Kind :: U4 y5.1.Set [.slice ub2 y5.1.L.length ub4, .i y5.1.Min, .i y5.1.Max])) (.i y5.1.Kind :: U4 y5.1.Set [.slice ub2 y5.1.L.length ub4, .i y5.1.Min, .i y5.1.Max]) p6 rfl Goes.s (by kernel_rfl) (by kernel_rfl) (by kernel_rfl) (by kernel_rfl) (Nat.zero_le _) (by simp only [List.length_cons, List.length_nil]; omega) (by simp [Value.oneCell']) ?_
 intro w7 z7 p7
 have p7 : Hp nz wz S5 w7 ((some b7, .row 28 (.i y5.1.Kind :: U4 y5.1.Set [.slice ub2 y5.1.L.length ub4, .i y5.1.Min, .i y5.1.Max]) 8 0) :: (some b3, .row 28 (.i y1.1.Kind :: U4 y1.1.Set [.slice uax y1.1.L.length uaz, .i y1.1.Min, .i y1.1.Max]) 8 0) :: Lr) := p7
 refine Goes.rn 5 [(5, .i y5.2.1), (6, .i y5.2.2)] Jg3 ?_
 refine bind_some' h fun y9 e10 h => ?_
 refine Goes.cal (.call { callee := .value (.func 11), args := #[(.const (.string ⟨#[91, 98, 45, 97, 93]⟩))], argTypes := #[9] }) 21 30 11 _ (W.z23 (⟨#[91, 98, 45, 97, 93]⟩ : ByteArray) y9 e10  p7 ) ?_
 rintro _ w8 ⟨S8, ub7, ub8, ub9, rfl, z8, p8, uba, ubb, rfl⟩
 have p8 := p8.dp 0
 refine Goes.rn 4 [(20, .tuple #[(ag (.i y9.1.Kind :: U4 y9.1.Set [.slice ub7 y9.1.L.length ub9, .i y9.1.Min, .i y9.1.Max])), .i y9.2.1, .i y9.2.2]), (22, (ag (.i y9.1.Kind :: U4 y9.1.Set [.slice ub7 y9.1.L.length ub9, .i y9.1.Min, .i y9.1.Max]))), (23, .i y9.2.1), (24, .i y9.2.2)] Jg4 ?_
 refine Op_.alloc 28 7 0 (.agg #[.i 0, .u 0, .u 0, .u 0, .u 0, .slice none 0 0, .i 0, .i 0]) [.i 0, .u 0, .u 0, .u 0, .u 0, .slice none 0 0, .i 0, .i 0] p8 Goes.v (by kernel_rfl) (by kernel_rfl) ?_
 intro b11 w9 z9 p9
 refine Op_.st 28 (.tmp 7) (.tmp 22) 0 0 b11 0 (ag (.i y9.1.Kind :: U4 y9.1.Set [.slice ub7 y9.1.L.length ub9, .i y9.1.Min, .i y9.1.Max])) (.i y9.1.Kind :: U4 y9.1.Set [.slice ub7 y9.1.L.length ub9, .i y9.1.Min, .i y9.1.Max]) p9 rfl Goes.s (by kernel_rfl) (by kernel_rfl) (by kernel_rfl) (by kernel_rfl) (Nat.zero_le _) (by simp only [List.length_cons, List.length_nil]; omega) (by simp [Value.oneCell']) ?_
 intro w10 z10 p10
 have p10 : Hp nz wz S8 w10 ((some b11, .row 28 (.i y9.1.Kind :: U4 y9.1.Set [.slice ub7 y9.1.L.length ub9, .i y9.1.Min, .i y9.1.Max]) 8 0) :: (some b3, .row 28 (.i y1.1.Kind :: U4 y1.1.Set [.slice uax y1.1.L.length uaz, .i y1.1.Min, .i y1.1.Max]) 8 0) :: Lr) := p10
 refine Goes.rn 8 [(8, .i y9.2.1), (9, .i y9.2.2), (25, .i y1.2.2), (26, .bool (decide (y1.2.2 = 0))), (27, .bool (decide (y1.2.2 = 0)))] Jg6 ?_
 refine ite_some h (fun h13 h => ?_) (fun h13 h => ?_)
 ·
  rw [decide_eq_true h13]
  refine Goes.rn 1 [(28, (pt b3 0))] Jg7 ?_
  refine Goes.ld 3 (.tmp 28) 29 3 ⟨b3, 0, none⟩ (.i y1.1.Kind) (p10.c 1 0) ?_
  refine Goes.rn 3 [(30, .bool (decide (y1.1.Kind = 3))), (31, .bool (decide (y1.1.Kind = 3))), (32, .bool (decide (y1.1.Kind = 3)))] Jg8 ?_
  refine ite_some h (fun h14 h => ?_) (fun h14 h => ?_)
  ·
   rw [decide_eq_true h14]
   refine Goes.rn 1 [(33, (pt b3 5))] Jg9 ?_
   refine Goes.ld 26 (.tmp 33) 34 26 ⟨b3, 5, none⟩ (.slice uax y1.1.L.length uaz) (p10.c 1 5) ?_
   refine Goes.rn 4 [(35, .i (y1.1.L.length : Int)), (36, .bool (decide ((y1.1.L.length : Int) = 2))), (37, .bool (decide ((y1.1.L.length : Int) = 2))), (38, .bool (decide ((y1.1.L.length : Int) = 2)))] Jga ?_
   refine ite_some h (fun h15 h => ?_) (fun h15 h => ?_)
   ·
    rw [decide_eq_true h15]
    refine Goes.rn 1 [(39, (pt b3 5))] Jgb ?_
    refine Goes.ld 26 (.tmp 39) 40 26 ⟨b3, 5, none⟩ (.slice uax y1.1.L.length uaz) (p10.c 1 5) ?_
    refine guard_some' h fun g16 h => ?_
    refine Op_.ixR_n 26 (.tmp 40) (.const (.int .i64 1)) 41 0 28 .i64 1 (gi y1.1.L 1) rfl rfl (ub1.ext (((((((z3.trans z4).trans z5).trans z6).trans z7).trans z8).trans z9).trans z10)) Goes.v (by kernel_rfl) (by kernel_rfl) (by kernel_rfl) (by kernel_rfl) (by decide : (0 : Int) ≤ 1) g16 ?_
    intro a17 _ f18 q19
    have q20 := q19
    obtain ⟨_, _, rfl, rfl, ⟨_, _, rfl, ⟨l21, f22⟩, ⟨_, _, rfl, ⟨A23, c24, rfl, f25⟩, ⟨_, _, rfl, rfl, rfl⟩⟩⟩⟩ := kT27_open q20
    obtain rfl := els_lit4' f22 l21
    refine Goes.rn 1 [(42, .pointer (some (Addr.add a17 0)))] Jgc ?_
    refine Goes.ld 3 (.tmp 42) 43 3 (Addr.add a17 0) (.i ((gi y1.1.L 1).Kind)) ((Cs.left (us := [.i ((gi y1.1.L 1).Kind)]) (vs := (U4 ((gi y1.1.L 1).Set) [.slice A23 (((gi y1.1.L 1).L).length) c24, .i ((gi y1.1.L 1).Min), .i ((gi y1.1.L 1).Max)])) (Cs.add (us := []) (vs := (.i ((gi y1.1.L 1).Kind) :: U4 ((gi y1.1.L 1).Set) [.slice A23 (((gi y1.1.L 1).L).length) c24, .i ((gi y1.1.L 1).Min), .i ((gi y1.1.L 1).Max)])) f18)).cell 0 _ rfl) ?_
    refine Goes.rn 3 [(44, .bool (decide ((gi y1.1.L 1).Kind = 4))), (45, .bool (decide ((gi y1.1.L 1).Kind = 4))), (46, .bool (decide ((gi y1.1.L 1).Kind = 4)))] Jgd ?_
    refine ite_some h (fun h26 h => ?_) (fun h26 h => ?_)
    ·
     rw [decide_eq_true h26]
     refine Goes.rn 1 [(47, (pt b3 5))] Jge ?_
     refine Goes.ld 26 (.tmp 47) 48 26 ⟨b3, 5, none⟩ (.slice uax y1.1.L.length uaz) (p10.c 1 5) ?_
     refine Op_.ixR_n 26 (.tmp 48) (.const (.int .i64 1)) 49 0 28 .i64 1 (gi y1.1.L 1) rfl rfl (ub1.ext (((((((z3.trans z4).trans z5).trans z6).trans z7).trans z8).trans z9).trans z10)) Goes.v (by kernel_rfl) (by kernel_rfl) (by kernel_rfl) (by kernel_rfl) (by decide : (0 : Int) ≤ 1) g16 ?_
     intro a27 _ f28 q29
     have q30 := q29
     obtain ⟨_, _, rfl, rfl, ⟨_, _, rfl, ⟨l31, f32⟩, ⟨_, _, rfl, ⟨A33, c34, rfl, f35⟩, ⟨_, _, rfl, rfl, rfl⟩⟩⟩⟩ := kT27_open q30
     obtain rfl := els_lit4' f32 l31
     refine Goes.rn 1 [(50, .pointer (some (Addr.add a27 7)))] Jgf ?_
     refine Goes.ld 3 (.tmp 50) 51 3 (Addr.add a27 7) (.i ((gi y1.1.L 1).Max)) ((Cs.left (us := [.i ((gi y1.1.L 1).Max)]) (vs := []) (Cs.add (us := (.i ((gi y1.1.L 1).Kind) :: U4 ((gi y1.1.L 1).Set) [.slice A33 (((gi y1.1.L 1).L).length) c34, .i ((gi y1.1.L 1).Min)])) (vs := [.i ((gi y1.1.L 1).Max)]) f28)).cell 0 _ rfl) ?_
     refine Goes.rn 3 [(52, .bool (decide ((gi y1.1.L 1).Max = (-1)))), (53, .bool (decide ((gi y1.1.L 1).Max = (-1)))), (54, .bool (decide ((gi y1.1.L 1).Max = (-1))))] Jgg ?_
     refine ite_some h (fun h36 h => ?_) (fun h36 h => ?_)
     ·
      rw [decide_eq_true h36]
      refine Goes.rn 4 [(55, .i y5.2.1), (56, .bool (decide (y5.2.1 = 2))), (57, .bool (decide (y5.2.1 = 2))), (58, .bool (decide (y5.2.1 = 2)))] Jgh ?_
      refine ite_some h (fun h37 h => ?_) (fun h37 h => ?_)
      ·
       rw [decide_eq_true h37]
       refine Goes.rn 4 [(59, .i y5.2.2), (60, .bool (decide (y5.2.2 = 100))), (61, .bool (decide (y5.2.2 = 100))), (62, .bool (decide (y5.2.2 = 100)))] Jgi ?_
       refine ite_some h (fun h38 h => ?_) (fun h38 h => ?_)
       ·
        rw [decide_eq_true h38]
        refine Goes.rn 5 [(63, .i y9.2.1), (64, .bool (decide (y9.2.1 = 1))), (65, .bool (decide (y9.2.1 = 1))), (0, .bool (decide (y9.2.1 = 1)))] Jg5 ?_
        obtain rfl := Option.some.inj h
        have p10 := (p10.dp 0).dp 0
        exact Goes.rt Tryd.f12 (.bool (decide (y9.2.1 = 1))) ⟨S8, rfl, ((((((((((Ext.refl S0 w0).trans z2).trans z3).trans z4).trans z5).trans z6).trans z7).trans z8).trans z9).trans z10), p10⟩
       ·
        rw [decide_eq_false h38]
        refine Goes.rn 5 [(63, undef), (64, undef), (65, .bool false), (0, .bool false)] Jg5 ?_
        obtain rfl := Option.some.inj h
        have p10 := (p10.dp 0).dp 0
        exact Goes.rt Tryd.f12 (.bool false) ⟨S8, rfl, ((((((((((Ext.refl S0 w0).trans z2).trans z3).trans z4).trans z5).trans z6).trans z7).trans z8).trans z9).trans z10), p10⟩
      ·
       rw [decide_eq_false h37]
       refine Goes.rn 9 [(59, undef), (60, undef), (61, .bool false), (62, .bool false), (63, undef), (64, undef), (65, .bool false), (0, .bool false)] Jg5 ?_
       obtain rfl := Option.some.inj h
       have p10 := (p10.dp 0).dp 0
       exact Goes.rt Tryd.f12 (.bool false) ⟨S8, rfl, ((((((((((Ext.refl S0 w0).trans z2).trans z3).trans z4).trans z5).trans z6).trans z7).trans z8).trans z9).trans z10), p10⟩
     ·
      rw [decide_eq_false h36]
      refine Goes.rn 13 [(55, undef), (56, undef), (57, .bool false), (58, .bool false), (59, undef), (60, undef), (61, .bool false), (62, .bool false), (63, undef), (64, undef), (65, .bool false), (0, .bool false)] Jg5 ?_
      obtain rfl := Option.some.inj h
      have p10 := (p10.dp 0).dp 0
      exact Goes.rt Tryd.f12 (.bool false) ⟨S8, rfl, ((((((((((Ext.refl S0 w0).trans z2).trans z3).trans z4).trans z5).trans z6).trans z7).trans z8).trans z9).trans z10), p10⟩
    ·
     rw [decide_eq_false h26]
     refine Goes.rn 14 [(47, undef), (48, undef), (49, undef), (50, undef), (51, undef), (52, undef), (53, .bool false), (54, .bool false), (55, undef), (56, undef), (57, .bool false), (58, .bool false), (59, undef), (60, undef)] Jgj ?_
     refine Goes.rn 7 [(61, .bool false), (62, .bool false), (63, undef), (64, undef), (65, .bool false), (0, .bool false)] Jg5 ?_
     obtain rfl := Option.some.inj h
     have p10 := (p10.dp 0).dp 0
     exact Goes.rt Tryd.f12 (.bool false) ⟨S8, rfl, ((((((((((Ext.refl S0 w0).trans z2).trans z3).trans z4).trans z5).trans z6).trans z7).trans z8).trans z9).trans z10), p10⟩
   ·
    rw [decide_eq_false h15]
    refine Goes.rn 14 [(39, undef), (40, undef), (41, undef), (42, undef), (43, undef), (44, undef), (45, .bool false), (46, .bool false), (47, undef), (48, undef), (49, undef), (50, undef), (51, undef), (52, undef)] Jgk ?_
    refine Goes.rn 14 [(53, .bool false), (54, .bool false), (55, undef), (56, undef), (57, .bool false), (58, .bool false), (59, undef), (60, undef), (61, .bool false), (62, .bool false), (63, undef), (64, undef), (65, .bool false), (0, .bool false)] Jgl ?_
    refine Goes.rn 1 [] Jg5 ?_
    obtain rfl := Option.some.inj h
    have p10 := (p10.dp 0).dp 0
    exact Goes.rt Tryd.f12 (.bool false) ⟨S8, rfl, ((((((((((Ext.refl S0 w0).trans z2).trans z3).trans z4).trans z5).trans z6).trans z7).trans z8).trans z9).trans z10), p10⟩
  ·
   rw [decide_eq_false h14]
   refine Goes.rn 14 [(33, undef), (34, undef), (35, undef), (36, undef), (37, .bool false), (38, .bool false), (39, undef), (40, undef), (41, undef), (42, undef), (43, undef), (44, undef), (45, .bool false), (46, .bool false)] Jgd ?_
   refine Goes.rn 14 [(47, undef), (48, undef), (49, undef), (50, undef), (51, undef), (52, undef), (53, .bool false), (54, .bool false), (55, undef), (56, undef), (57, .bool false), (58, .bool false), (59, undef), (60, undef)] Jgj ?_
   refine Goes.rn 7 [(61, .bool false), (62, .bool false), (63, undef), (64, undef), (65, .bool false), (0, .bool false)] Jg5 ?_
   obtain rfl := Option.some.inj h
   have p10 := (p10.dp 0).dp 0
   exact Goes.rt Tryd.f12 (.bool false) ⟨S8, rfl, ((((((((((Ext.refl S0 w0).trans z2).trans z3).trans z4).trans z5).trans z6).trans z7).trans z8).trans z9).trans z10), p10⟩
 ·
  rw [decide_eq_false h13]
  refine Goes.rn 14 [(28, undef), (29, undef), (30, undef), (31, .bool false), (32, .bool false), (33, undef), (34, undef), (35, undef), (36, undef), (37, .bool false), (38, .bool false), (39, undef), (40, undef), (41, undef)] Jgm ?_
  refine Goes.rn 14 [(42, undef), (43, undef), (44, undef), (45, .bool false), (46, .bool false), (47, undef), (48, undef), (49, undef), (50, undef), (51, undef), (52, undef), (53, .bool false), (54, .bool false), (55, undef)] Jgn ?_
  refine Goes.rn 12 [(56, undef), (57, .bool false), (58, .bool false), (59, undef), (60, undef), (61, .bool false), (62, .bool false), (63, undef), (64, undef), (65, .bool false), (0, .bool false)] Jg5 ?_
  obtain rfl := Option.some.inj h
  have p10 := (p10.dp 0).dp 0
  exact Goes.rt Tryd.f12 (.bool false) ⟨S8, rfl, ((((((((((Ext.refl S0 w0).trans z2).trans z3).trans z4).trans z5).trans z6).trans z7).trans z8).trans z9).trans z10), p10⟩

def Qdd := sub [1, 1, 1, 1, 1, 1] B3
def Jgo : List Item := [.code Qdd]
def Qde := sub [1, 1, 1, 1, 1, 0, 1, 0, 1] B3
def Jgp : List Item := .code Qde :: Jgo

def Post.z28 (r : Bool) (v : Value) (w' : World) : Prop :=
 ∃ S', v = .bool r ∧ Ext S0 w0 S' w' ∧ Hp nz wz S' w' (Lr)

def L.z29 : Bool → Bool → Prop := fun x2 r => ∀ S1 w1, Ext S0 w0 S1 w1 → ∀ (_ : Hp nz wz S1 w1 (Lr)) (junk : Nat → Value),
 Goes Tryd.prog (base 3) Jgp ⟨lfr 52 [(2, .bool x2)] junk, []⟩ w1 (Done Tryd.prog 3 (Rets (Post.z28 nz wz S0 w0 Lr r)))

theorem W.z29 {nz wz S0 w0 Lr} [Gw nz wz] : ∀ a r, M.tidepolelaw10_SyntaxQuotes_l0 a = some r → L.z29 nz wz S0 w0 Lr a r := by
 intro x2 r h S1 w1 hx p1 junk
 rw [M.tidepolelaw10_SyntaxQuotes_l0] at h
 try dsimp only at h
 obtain rfl := Option.some.inj h
 exact Goes.rt Tryd.f3 (.bool x2) ⟨S1, rfl, hx, p1⟩

def Qdf := sub [1, 1, 1] B67
def Jgq : List Item := [.code Qdf]
def Qdg := sub [1, 1, 0, 1] B67
def Jgr : List Item := .code Qdg :: Jgq
def Qdh := sub [1, 1, 1, 1] B67
def Jgs : List Item := [.code Qdh]
def Jgt : List Item := .inBlock 0 :: Jgs
def Qdi := sub [1, 1, 1, 0, 1, 0, 0] B67
def Jgu : List Item := .inLoop Qdi :: Jgt
def Jgv : List Item := .code Qdi :: Jgu
def Qdj := sub [1] B67
def Jgw : List Item := [.code Qdj]
def Qdk := sub [0] B67
def Jgx : List Item := .inRegion (opsOf Qdk) [0, 1] :: Jgw
def Qdl := sub [1, 1] B67
def Jgy : List Item := [.code Qdl]
def Qdm := sub [1, 0] B67
def Jgz : List Item := .inRegion (opsOf Qdm) [2, 3, 4, 5] :: Jgy
def Jh0 : List Item := .inRegion (opsOf Qdm) [5] :: Jgy
def Qdn := sub [1, 1, 0, 0] B67
def Jh1 : List Item := .inRegion (opsOf Qdn) [3, 4, 5, 6, 7] :: Jgr
def Jh2 : List Item := .inRegion (opsOf Qdn) [5, 6, 7] :: Jgr
def Qdo := sub [1, 1, 0, 1, 0, 1] B67
def Jh3 : List Item := .code Qdo :: Jgq
def Qdp := sub [1, 1, 1, 0, 1] B67
def Jh4 : List Item := .code Qdp :: Jgs
def Qdq := sub [1, 1, 1, 0, 0] B67
def Jh5 : List Item := .inRegion (opsOf Qdq) [1, 2, 3] :: Jh4
def Qdr := sub [1, 1, 1, 0, 1, 0, 0, 1, 1] B67
def Jh6 : List Item := .code Qdr :: Jgu
def Qds := sub [1, 1, 1, 0, 1, 0, 0, 1, 0] B67
def Jh7 : List Item := .code Qds :: Jh6
def Qdt := sub [1, 1, 1, 0, 1, 0, 0, 1, 1, 1] B67
def Jh8 : List Item := .code Qdt :: Jgu
def Jh9 : List Item := .inBlock 1 :: Jh8
def Qdu := sub [1, 1, 1, 0, 1, 0, 0, 1, 1, 0, 0, 1] B67
def Jha : List Item := .code Qdu :: Jh9
def Qdv := sub [1, 1, 1, 0, 1, 0, 0, 1, 1, 0, 0, 0] B67
def Jhb : List Item := .inRegion (opsOf Qdv) [0, 1, 2, 3] :: Jha
def Qdw := sub [1, 1, 1, 0, 1, 0, 0, 1, 1, 0, 0, 1, 1] B67
def Jhc : List Item := .code Qdw :: Jh9
def Qdx := sub [1, 1, 1, 0, 1, 0, 0, 1, 1, 0, 0, 1, 0] B67
def Jhd : List Item := .inRegion (opsOf Qdx) [0, 1, 2, 3, 4, 5] :: Jhc
def Jhe : List Item := .inRegion (opsOf Qdx) [4, 5] :: Jhc
def Qdy := sub [1, 1, 1, 0, 1, 0, 0, 1, 1, 0, 0, 1, 1, 0, 1] B67
def Jhf : List Item := .code Qdy :: Jh9
def Qdz := sub [1, 1, 1, 1, 1] B67
def Jhg : List Item := [.code Qdz]

def Post.z2a (gx2 : Nat) (r : Bool × Int) (v : Value) (w' : World) : Prop :=
 ∃ S', v = .bool r.1 ∧ Ext S0 w0 S' w' ∧ Hp nz wz S' w' ((some gx2, .row 3 [.i r.2] 1 0) :: Lr)

def LF.z2a : T27 × Int × Int → (Bool × Int) → Prop := fun ⟨x0, x1, u2a⟩ r => ∀ {nz wz S0 w0 Lr} [Gw nz wz] ubc ubd ube gx2 (_ : Hp nz wz S0 w0 ((some gx2, .row 3 [.i u2a] 1 0) :: Lr)) (_ : x0.Set.length = 4) (_ : Rd kT27 S0 w0 ubc ube x0.L) (_ : x0.L.length = ubd),
 Calls Tryd.prog 67 #[(ag (.i x0.Kind :: U4 x0.Set [.slice ubc ubd ube, .i x0.Min, .i x0.Max])), .i x1, (pt gx2 0)] w0 (Rets (Post.z2a nz wz S0 w0 Lr gx2 r))

def L.z2b (gx2 : Nat) : Int × T27 × Bool × Int → (Bool × Int) → Prop := fun ⟨x1, x3v, x21, ubf⟩ r => ∀ S1 w1, Ext S0 w0 S1 w1 → ∀ gx3 ubg ubh ubi (_ : Hp nz wz S1 w1 ((some gx3, .row 28 (.i x3v.Kind :: U4 x3v.Set [.slice ubg ubh ubi, .i x3v.Min, .i x3v.Max]) 8 0) :: (some gx2, .row 3 [.i ubf] 1 0) :: Lr)) (_ : x3v.Set.length = 4) (_ : Rd kT27 S1 w1 ubg ubi x3v.L) (_ : x3v.L.length = ubh) (junk : Nat → Value),
 Goes Tryd.prog (base 67) Jgr ⟨lfr 36 [(1, .i x1), (2, (pt gx2 0)), (3, (pt gx3 0)), (21, .bool x21)] junk, []⟩ w1 (Done Tryd.prog 67 (Rets (Post.z2a nz wz S0 w0 Lr gx2 r)))

def LL.z2b : Int × T27 × Bool × Int → (Bool × Int) → Prop := fun a r => ∀ {nz wz S0 w0 Lr} [Gw nz wz] (gx2 : Nat), L.z2b nz wz S0 w0 Lr gx2 a r

def L.z2c (gx2 : Nat) : Int × (List T27) × Int × Int × Int → (Bool × Int) → Prop := fun ⟨x1, x23, x24, x25, ubf⟩ r => ∀ S1 w1, Ext S0 w0 S1 w1 → ∀ ubj ubk ubl (_ : Hp nz wz S1 w1 ((some gx2, .row 3 [.i ubf] 1 0) :: Lr)) (_ : Rd kT27 S1 w1 ubj ubl x23) (_ : x23.length = ubk) (junk : Nat → Value),
 Goes Tryd.prog (base 67) Jgv ⟨lfr 36 [(1, .i x1), (2, (pt gx2 0)), (23, .slice ubj ubk ubl), (24, .i x24), (25, .i x25)] junk, []⟩ w1 (Done Tryd.prog 67 (Rets (Post.z2a nz wz S0 w0 Lr gx2 r)))

def LL.z2c : Int × (List T27) × Int × Int × Int → (Bool × Int) → Prop := fun a r => ∀ {nz wz S0 w0 Lr} [Gw nz wz] (gx2 : Nat), L.z2c nz wz S0 w0 Lr gx2 a r

theorem W.z2d : (∀ a r, M.syntax_count a = some r → LF.z2a a r) ∧ (∀ a r, M.syntax_count_l0 a = some r → LL.z2b a r) ∧ (∀ a r, M.syntax_count_l1 a = some r → LL.z2c a r) := by
 refine M.syntax_count.mutual_partial_correctness LF.z2a LL.z2b LL.z2c ?_ ?_ ?_
 ·
  intro ubm ubn ⟨x0, x1, u2a⟩ r h nz wz S0 w0 Lr iG ubc ubd ube gx2 p0 ubo ubp ubq
  try dsimp only at h
  subst ubq
  refine calls_of_goes (fn := Tryd.f67) (c := B67) (by kernel_rfl) (by kernel_rfl) 33 (by kernel_rfl) ?_
  refine Goes.jp 36 [(0, (ag (.i x0.Kind :: U4 x0.Set [.slice ubc x0.L.length ube, .i x0.Min, .i x0.Max]))), (1, .i x1), (2, (pt gx2 0))] (fun junk => ?_)
  refine Goes.rn 2 [] Jgx ?_
  refine Op_.box 28 (.tmp 0) 3 0 (ag (.i x0.Kind :: U4 x0.Set [.slice ubc x0.L.length ube, .i x0.Min, .i x0.Max])) (.i x0.Kind :: U4 x0.Set [.slice ubc x0.L.length ube, .i x0.Min, .i x0.Max]) p0 Goes.v (by kernel_rfl) (by kernel_rfl) ?_
  intro b2 w2 z2 p2
  refine Goes.rn 6 [(6, .bool false), (9, (pt gx2 0)), (10, (pt gx2 0))] Jgz ?_
  refine Goes.ld 3 (.tmp 10) 11 3 ⟨gx2, 0, none⟩ (.i u2a) (p2.c 1 0) ?_
  refine Goes.rn 2 [(12, .i (wr .i64 (u2a + 1))), (13, (pt gx2 0))] Jh0 ?_
  refine Op_.st 3 (.tmp 13) (.tmp 12) 0 1 gx2 0 (.i (wr .i64 (u2a + 1))) [.i (wr .i64 (u2a + 1))] p2 rfl Goes.s (by kernel_rfl) (by kernel_rfl) (by kernel_rfl) (by kernel_rfl) (Nat.zero_le _) (by simp only [List.length_cons, List.length_nil]; omega) (by simp [Value.oneCell']) ?_
  intro w3 z3 p3
  have p3 : Hp nz wz S0 w3 ((some b2, .row 28 (.i x0.Kind :: U4 x0.Set [.slice ubc x0.L.length ube, .i x0.Min, .i x0.Max]) 8 0) :: (some gx2, .row 3 [.i (wr .i64 (u2a + 1))] 1 0) :: Lr) := p3
  refine Goes.rn 7 [(14, .i x1), (15, .bool (decide (x1 = 0))), (16, .bool (decide (x1 = 0)))] Jh1 ?_
  refine ite_some h (fun h4 h => ?_) (fun h4 h => ?_)
  ·
   rw [decide_eq_true h4]
   refine Goes.rn 6 [(17, undef), (18, undef), (19, undef), (20, undef), (21, .bool true)] Jgr ?_
   exact Goes.jp 36 [(1, .i x1), (2, (pt gx2 0)), (3, (pt b2 0)), (21, .bool true)] (ubn _ _ h gx2 _ _ (((Ext.refl S0 w0).trans z2).trans z3) b2 ubc x0.L.length ube p3 ubo (ubp.ext (z2.trans z3)) rfl)
  ·
   rw [decide_eq_false h4]
   refine Goes.rn 2 [(17, (pt gx2 0)), (18, (pt gx2 0))] Jh2 ?_
   refine Goes.ld 3 (.tmp 18) 19 3 ⟨gx2, 0, none⟩ (.i (wr .i64 (u2a + 1))) (p3.c 1 0) ?_
   refine Goes.rn 3 [(20, .bool (decide (wr .i64 (u2a + 1) > 4096))), (21, .bool (decide (wr .i64 (u2a + 1) > 4096)))] Jgr ?_
   exact Goes.jp 36 [(1, .i x1), (2, (pt gx2 0)), (3, (pt b2 0)), (21, .bool (decide (wr .i64 (u2a + 1) > 4096)))] (ubn _ _ h gx2 _ _ (((Ext.refl S0 w0).trans z2).trans z3) b2 ubc x0.L.length ube p3 ubo (ubp.ext (z2.trans z3)) rfl)
 ·
  intro ubr ubs ⟨x1, x3v, x21, ubf⟩ r h nz wz S0 w0 Lr iG gx2 S1 w1 hx gx3 ubg ubh ubi p1 ut ubt ubu junk
  try dsimp only at h
  subst ubu
  refine ite_some h (fun h6 h => ?_) (fun h6 h => ?_)
  ·
   rw [h6]
   refine Goes.rn 5 [(6, .bool false)] Jh3 ?_
   obtain rfl := Option.some.inj h
   have p1 := p1.dp 0
   exact Goes.rt Tryd.f67 (.bool false) ⟨S1, rfl, hx, p1⟩
  ·
   have h6' : x21 = false := by simpa using h6
   rw [h6']
   refine Goes.rn 6 [(22, (pt gx3 5))] Jh5 ?_
   refine Goes.ld 26 (.tmp 22) 23 26 ⟨gx3, 5, none⟩ (.slice ubg x3v.L.length ubi) (p1.c 0 5) ?_
   refine Goes.rn 5 [(24, .i (x3v.L.length : Int)), (25, .i 0)] Jgv ?_
   have p1 := p1.dp 0
   exact Goes.jp 36 [(1, .i x1), (2, (pt gx2 0)), (23, .slice ubg x3v.L.length ubi), (24, .i (x3v.L.length : Int)), (25, .i 0)] (ubs _ _ h gx2 _ _ hx ubg x3v.L.length ubi p1 ubt rfl)
 ·
  intro rec_syntax_count ubr ih_syntax_count ubs ⟨x1, x23, x24, x25, ubf⟩ r h nz wz S0 w0 Lr iG gx2 S1 w1 hx ubj ubk ubl p1 ubv ubw junk
  try dsimp only at h
  subst ubw
  refine Goes.rn 5 [(26, .bool (decide (x25 < x24)))] Jh7 ?_
  refine ite_some h (fun h7 h => ?_) (fun h7 h => ?_)
  ·
   rw [decide_eq_true h7]
   refine Goes.rn 6 [] Jhb ?_
   refine guard_some' h fun g8 h => ?_
   refine guard_some' h fun g9 h => ?_
   refine Op_.ixR_n 26 (.tmp 23) (.tmp 25) 27 0 28 .i64 x25 (gi x23 x25) rfl rfl ubv Goes.v (by kernel_rfl) (by kernel_rfl) (by kernel_rfl) (by kernel_rfl) g8 g9 ?_
   intro a10 _ f11 q12
   have q13 := q12
   obtain ⟨_, _, rfl, rfl, ⟨_, _, rfl, ⟨l14, f15⟩, ⟨_, _, rfl, ⟨A16, c17, rfl, f18⟩, ⟨_, _, rfl, rfl, rfl⟩⟩⟩⟩ := kT27_open q13
   obtain rfl := els_lit4' f15 l14
   refine Goes.ldN 28 (.tmp 27) 28 28 a10 ([.i ((gi x23 x25).Kind)] ++ ((U4 ((gi x23 x25).Set) []) ++ ([.slice A16 (((gi x23 x25).L).length) c17] ++ ([.i ((gi x23 x25).Min)] ++ [.i ((gi x23 x25).Max)])))) (f11.cell) ?_
   refine Op_.alloc 28 8 0 (.agg #[.i 0, .u 0, .u 0, .u 0, .u 0, .slice none 0 0, .i 0, .i 0]) [.i 0, .u 0, .u 0, .u 0, .u 0, .slice none 0 0, .i 0, .i 0] p1 Goes.v (by kernel_rfl) (by kernel_rfl) ?_
   intro b19 w4 z4 p4
   refine Op_.st 28 (.tmp 8) (.tmp 28) 0 0 b19 0 (ag (.i ((gi x23 x25).Kind) :: U4 ((gi x23 x25).Set) [.slice A16 (((gi x23 x25).L).length) c17, .i ((gi x23 x25).Min), .i ((gi x23 x25).Max)])) (.i ((gi x23 x25).Kind) :: U4 ((gi x23 x25).Set) [.slice A16 (((gi x23 x25).L).length) c17, .i ((gi x23 x25).Min), .i ((gi x23 x25).Max)]) p4 rfl Goes.s (by kernel_rfl) (by kernel_rfl) (by kernel_rfl) (by kernel_rfl) (Nat.zero_le _) (by simp only [List.length_cons, List.length_nil]; omega) (by simp [Value.oneCell']) ?_
   intro w5 z5 p5
   have p5 : Hp nz wz S1 w5 ((some b19, .row 28 (.i ((gi x23 x25).Kind) :: U4 ((gi x23 x25).Set) [.slice A16 (((gi x23 x25).L).length) c17, .i ((gi x23 x25).Min), .i ((gi x23 x25).Max)]) 8 0) :: (some gx2, .row 3 [.i ubf] 1 0) :: Lr) := p5
   refine Goes.rn 3 [] Jhd ?_
   refine Goes.ldN 28 (.tmp 8) 29 28 ⟨b19, 0, none⟩ (.i ((gi x23 x25).Kind) :: U4 ((gi x23 x25).Set) [.slice A16 (((gi x23 x25).L).length) c17, .i ((gi x23 x25).Min), .i ((gi x23 x25).Max)]) (p5.pa 0 0) ?_
   refine Goes.rn 3 [(30, .i x1), (31, .i (wr .i64 (x1 - 1))), (32, (pt gx2 0))] Jhe ?_
   have p5 := p5.fr 1
   refine bind_some' h fun y21 e22 h => ?_
   refine Goes.cal (kc 67 [29, 31, 32] #[28, 3, 75]) 33 4 67 _ (ih_syntax_count ((⟨(gi x23 x25).Kind, ((gi x23 x25).Set), (gi x23 x25).L, (gi x23 x25).Min, (gi x23 x25).Max⟩ : T27), wr .i64 (x1 - 1), ubf) y21 e22 A16 (((gi x23 x25).L).length) c17 gx2 p5 l14 (f18.ext (z4.trans z5)) rfl) ?_
   rintro _ w6 ⟨S6, rfl, z6, p6⟩
   have p6 := p6.dp 1
   refine Goes.rn 2 [(34, .bool (!y21.1))] Jhc ?_
   refine ite_some h (fun h23 h => ?_) (fun h23 h => ?_)
   ·
    rw [h23]
    refine Goes.rn 8 [(35, .i (wr .i64 (x25 + 1))), (25, .i (wr .i64 (x25 + 1)))] Jgv ?_
    exact Goes.jp 36 [(1, .i x1), (2, (pt gx2 0)), (23, .slice ubj x23.length ubl), (24, .i x24), (25, .i (wr .i64 (x25 + 1)))] (ubs _ _ h gx2 _ _ (((hx.trans z4).trans z5).trans z6) ubj x23.length ubl p6 (ubv.ext ((z4.trans z5).trans z6)) rfl)
   ·
    have uaw : y21.1 = false := by simpa using h23
    rw [uaw]
    refine Goes.rn 5 [(6, .bool false)] Jhf ?_
    obtain rfl := Option.some.inj h
    exact Goes.rt Tryd.f67 (.bool false) ⟨S6, rfl, (((hx.trans z4).trans z5).trans z6), p6⟩
  ·
   rw [decide_eq_false h7]
   refine Goes.rn 6 [(6, .bool true)] Jhg ?_
   obtain rfl := Option.some.inj h
   exact Goes.rt Tryd.f67 (.bool true) ⟨S1, rfl, hx, p1⟩

theorem W.z2a : ∀ a r, M.syntax_count a = some r → LF.z2a a r := (W.z2d).1

theorem W.z2b : ∀ a r, M.syntax_count_l0 a = some r → LL.z2b a r := (W.z2d).2.1

theorem W.z2c : ∀ a r, M.syntax_count_l1 a = some r → LL.z2c a r := (W.z2d).2.2

def Qe0 := sub [1, 1, 1, 1] B80
def Jhh : List Item := [.code Qe0]
def Jhi : List Item := .inBlock 0 :: Jhh
def Qe1 := sub [1, 1, 1, 0, 1, 0, 1, 1, 1, 1, 1, 0, 1, 1] B80
def Jhj : List Item := .code Qe1 :: Jhi
def Qe2 := sub [1, 1, 1, 0, 1, 0, 1, 1, 1, 1, 1, 0, 1, 1, 1] B80
def Jhk : List Item := .code Qe2 :: Jhi
def Qe3 := sub [1, 1, 1, 0, 1, 0, 1, 1, 1, 1, 1, 0, 1, 1, 0] B80
def Jhl : List Item := .inRegion (opsOf Qe3) [1, 2, 3, 4, 5, 6, 7, 8, 9, 10, 11, 12, 13, 14, 15, 16] :: Jhk
def Jhm : List Item := .inRegion (opsOf Qe3) [5, 6, 7, 8, 9, 10, 11, 12, 13, 14, 15, 16] :: Jhk
def Jhn : List Item := .inRegion (opsOf Qe3) [6, 7, 8, 9, 10, 11, 12, 13, 14, 15, 16] :: Jhk
def Jho : List Item := .inRegion (opsOf Qe3) [11, 12, 13, 14, 15, 16] :: Jhk
def Jhp : List Item := .inRegion (opsOf Qe3) [14, 15, 16] :: Jhk

def Post.z2e (r : Bool) (v : Value) (w' : World) : Prop :=
 ∃ S', v = .bool r ∧ Ext S0 w0 S' w' ∧ Hp nz wz S' w' (Lr)

def L.z2f : T27 × (List Int) × Bool × Bool → Bool → Prop := fun ⟨x1v, ubx, x5, x6⟩ r => ∀ S1 w1, Ext S0 w0 S1 w1 → ∀ gx1 uby ubz uc0 gx3 (_ : Hp nz wz S1 w1 ((some gx1, .row 28 (.i x1v.Kind :: U4 x1v.Set [.slice uby ubz uc0, .i x1v.Min, .i x1v.Max]) 8 0) :: (some gx3, .row 25 (U4 ubx []) 4 0) :: Lr)) (_ : x1v.Set.length = 4) (_ : Rd kT27 S1 w1 uby uc0 x1v.L) (_ : x1v.L.length = ubz) (_ : ubx.length = 4) (junk : Nat → Value),
 Goes Tryd.prog (base 80) Jhj ⟨lfr 77 [(1, (pt gx1 0)), (3, (pt gx3 0)), (5, .bool x5), (6, .bool x6)] junk, []⟩ w1 (Done Tryd.prog 80 (Rets (Post.z2e nz wz S0 w0 Lr r)))

theorem W.z2f {nz wz S0 w0 Lr} [Gw nz wz] : ∀ a r, M.syntax_shaped_l3 a = some r → L.z2f nz wz S0 w0 Lr a r := by
 intro ⟨x1v, ubx, x5, x6⟩ r h S1 w1 hx gx1 uby ubz uc0 gx3 p1 uc1 uc2 uc3 uc4 junk
 rw [M.syntax_shaped_l3] at h
 try dsimp only at h
 subst uc3
 refine Goes.rn 3 [(61, (pt gx1 5))] Jhl ?_
 refine Goes.ld 26 (.tmp 61) 62 26 ⟨gx1, 5, none⟩ (.slice uby x1v.L.length uc0) (p1.c 0 5) ?_
 refine Goes.rn 3 [(63, .i (x1v.L.length : Int)), (64, .bool (decide ((x1v.L.length : Int) = 1))), (65, .bool (decide ((x1v.L.length : Int) = 1)))] Jhm ?_
 refine ite_some h (fun h23 h => ?_) (fun h23 h => ?_)
 ·
  rw [decide_eq_true h23]
  refine Goes.rn 1 [(66, (pt gx1 1))] Jhn ?_
  refine Goes.ldN 25 (.tmp 66) 67 25 ⟨gx1, 1, none⟩ (U4 x1v.Set []) (p1.pa 0 1) ?_
  refine Goes.ldN 25 (.tmp 3) 68 25 ⟨gx3, 0, none⟩ (U4 ubx []) (p1.pa 1 0) ?_
  refine Op_.eqA 25 (.tmp 67) (.tmp 68) 25 69 4 23 4 .u64 (us := ((U4 x1v.Set []) : List Value)) (vs := ((U4 ubx []) : List Value)) Goes.v (by kernel_rfl) (by kernel_rfl) (by kernel_rfl) (by kernel_rfl) (by kernel_rfl) (by kernel_rfl) (by kernel_rfl) (els_mk4 (S := S1) (w := w1) (k := .u64) uc1) (els_mk4 (S := S1) (w := w1) (k := .u64) uc4) (Els.len1 (els_mk4 (S := S1) (w := w1) (k := .u64) uc1) rfl rfl) (Els.len1 (els_mk4 (S := S1) (w := w1) (k := .u64) uc4) rfl rfl) ?_
  refine Goes.rn 2 [(70, .bool (decide (x1v.Set = ubx))), (71, .bool (decide (x1v.Set = ubx)))] Jho ?_
  refine ite_some h (fun h24 h => ?_) (fun h24 h => ?_)
  ·
   rw [decide_eq_true h24]
   refine Goes.rn 3 [(72, .bool x5), (73, .bool x5), (74, .bool x5)] Jhp ?_
   refine ite_some h (fun h25 h => ?_) (fun h25 h => ?_)
   ·
    rw [h25]
    refine Goes.rn 4 [(75, .bool x6), (76, .bool x6), (2, .bool x6)] Jhk ?_
    obtain rfl := Option.some.inj h
    have p1 := (p1.dp 0).dp 0
    exact Goes.rt Tryd.f80 (.bool x6) ⟨S1, rfl, hx, p1⟩
   ·
    have u9a : x5 = false := by simpa using h25
    rw [u9a]
    refine Goes.rn 4 [(75, undef), (76, .bool false), (2, .bool false)] Jhk ?_
    obtain rfl := Option.some.inj h
    have p1 := (p1.dp 0).dp 0
    exact Goes.rt Tryd.f80 (.bool false) ⟨S1, rfl, hx, p1⟩
  ·
   rw [decide_eq_false h24]
   refine Goes.rn 7 [(72, undef), (73, .bool false), (74, .bool false), (75, undef), (76, .bool false), (2, .bool false)] Jhk ?_
   obtain rfl := Option.some.inj h
   have p1 := (p1.dp 0).dp 0
   exact Goes.rt Tryd.f80 (.bool false) ⟨S1, rfl, hx, p1⟩
 ·
  rw [decide_eq_false h23]
  refine Goes.rn 13 [(66, undef), (67, undef), (68, undef), (69, undef), (70, .bool false), (71, .bool false), (72, undef), (73, .bool false), (74, .bool false), (75, undef), (76, .bool false), (2, .bool false)] Jhk ?_
  obtain rfl := Option.some.inj h
  have p1 := (p1.dp 0).dp 0
  exact Goes.rt Tryd.f80 (.bool false) ⟨S1, rfl, hx, p1⟩

def Qe4 := sub [1, 1, 1, 0, 1, 0, 1, 1, 1, 1, 1, 0, 1] B80
def Jhq : List Item := .code Qe4 :: Jhi
def Qe5 := sub [1, 1, 1, 0, 1, 0, 1, 1, 1, 1, 1, 0, 1, 0] B80
def Jhr : List Item := .inRegion (opsOf Qe5) [1, 2, 3, 4, 5, 6, 7, 8, 9, 10, 11, 12, 13, 14, 15] :: Jhj
def Jhs : List Item := .inRegion (opsOf Qe5) [4, 5, 6, 7, 8, 9, 10, 11, 12, 13, 14, 15] :: Jhj
def Jht : List Item := .inRegion (opsOf Qe5) [5, 6, 7, 8, 9, 10, 11, 12, 13, 14, 15] :: Jhj
def Jhu : List Item := .inRegion (opsOf Qe5) [7, 8, 9, 10, 11, 12, 13, 14, 15] :: Jhj
def Jhv : List Item := .inRegion (opsOf Qe5) [10, 11, 12, 13, 14, 15] :: Jhj
def Jhw : List Item := .inRegion (opsOf Qe5) [11, 12, 13, 14, 15] :: Jhj

def L.z2g : T27 × (List Int) × Bool → Bool → Prop := fun ⟨x1v, ubx, x5⟩ r => ∀ S1 w1, Ext S0 w0 S1 w1 → ∀ gx1 uby ubz uc0 gx3 (_ : Hp nz wz S1 w1 ((some gx1, .row 28 (.i x1v.Kind :: U4 x1v.Set [.slice uby ubz uc0, .i x1v.Min, .i x1v.Max]) 8 0) :: (some gx3, .row 25 (U4 ubx []) 4 0) :: Lr)) (_ : x1v.Set.length = 4) (_ : Rd kT27 S1 w1 uby uc0 x1v.L) (_ : x1v.L.length = ubz) (_ : ubx.length = 4) (junk : Nat → Value),
 Goes Tryd.prog (base 80) Jhq ⟨lfr 77 [(1, (pt gx1 0)), (3, (pt gx3 0)), (5, .bool x5)] junk, []⟩ w1 (Done Tryd.prog 80 (Rets (Post.z2e nz wz S0 w0 Lr r)))

theorem W.z2g {nz wz S0 w0 Lr} [Gw nz wz] : ∀ a r, M.syntax_shaped_l2 a = some r → L.z2g nz wz S0 w0 Lr a r := by
 intro ⟨x1v, ubx, x5⟩ r h S1 w1 hx gx1 uby ubz uc0 gx3 p1 uc1 uc2 uc3 uc4 junk
 rw [M.syntax_shaped_l2] at h
 try dsimp only at h
 subst uc3
 refine Goes.rn 3 [(46, (pt gx1 7))] Jhr ?_
 refine Goes.ld 3 (.tmp 46) 47 3 ⟨gx1, 7, none⟩ (.i x1v.Max) (p1.c 0 7) ?_
 refine Goes.rn 2 [(48, .bool (decide (x1v.Max = (-1)))), (49, .bool (decide (x1v.Max = (-1))))] Jhs ?_
 refine ite_some h (fun h19 h => ?_) (fun h19 h => ?_)
 ·
  rw [decide_eq_true h19]
  refine Goes.rn 13 [(50, undef), (51, undef), (52, undef), (53, undef), (54, undef), (55, undef), (56, undef), (57, undef), (58, undef), (59, undef), (60, .bool true), (6, .bool true)] Jhj ?_
  exact Goes.jp 77 [(1, (pt gx1 0)), (3, (pt gx3 0)), (5, .bool x5), (6, .bool true)] (W.z2f _ _ h _ _ hx gx1 uby x1v.L.length uc0 gx3 p1 uc1 uc2 rfl uc4)
 ·
  rw [decide_eq_false h19]
  refine Goes.rn 1 [(50, (pt gx1 7))] Jht ?_
  refine Goes.ld 3 (.tmp 50) 51 3 ⟨gx1, 7, none⟩ (.i x1v.Max) (p1.c 0 7) ?_
  refine Goes.rn 1 [(52, (pt gx1 6))] Jhu ?_
  refine Goes.ld 3 (.tmp 52) 53 3 ⟨gx1, 6, none⟩ (.i x1v.Min) (p1.c 0 6) ?_
  refine Goes.rn 2 [(54, .bool (decide (x1v.Max ≥ x1v.Min))), (55, .bool (decide (x1v.Max ≥ x1v.Min)))] Jhv ?_
  refine ite_some h (fun h22 h => ?_) (fun h22 h => ?_)
  ·
   rw [decide_eq_true h22]
   refine Goes.rn 1 [(56, (pt gx1 7))] Jhw ?_
   refine Goes.ld 3 (.tmp 56) 57 3 ⟨gx1, 7, none⟩ (.i x1v.Max) (p1.c 0 7) ?_
   refine Goes.rn 5 [(58, .bool (decide (x1v.Max ≤ 64))), (59, .bool (decide (x1v.Max ≤ 64))), (60, .bool (decide (x1v.Max ≤ 64))), (6, .bool (decide (x1v.Max ≤ 64)))] Jhj ?_
   exact Goes.jp 77 [(1, (pt gx1 0)), (3, (pt gx3 0)), (5, .bool x5), (6, .bool (decide (x1v.Max ≤ 64)))] (W.z2f _ _ h _ _ hx gx1 uby x1v.L.length uc0 gx3 p1 uc1 uc2 rfl uc4)
  ·
   rw [decide_eq_false h22]
   refine Goes.rn 7 [(56, undef), (57, undef), (58, undef), (59, .bool false), (60, .bool false), (6, .bool false)] Jhj ?_
   exact Goes.jp 77 [(1, (pt gx1 0)), (3, (pt gx3 0)), (5, .bool x5), (6, .bool false)] (W.z2f _ _ h _ _ hx gx1 uby x1v.L.length uc0 gx3 p1 uc1 uc2 rfl uc4)

def Qe6 := sub [1, 1, 1, 0, 1, 0, 1, 1, 1] B80
def Jhx : List Item := .code Qe6 :: Jhi
def Qe7 := sub [1, 1, 1, 0, 1, 0, 1, 1, 1, 0, 1] B80
def Jhy : List Item := .code Qe7 :: Jhi
def Qe8 := sub [1, 1, 1, 0, 1, 0, 1, 1, 1, 0, 0] B80
def Jhz : List Item := .inRegion (opsOf Qe8) [1, 2, 3, 4, 5, 6, 7] :: Jhy
def Ji0 : List Item := .inRegion (opsOf Qe8) [5, 6, 7] :: Jhy
def Qe9 := sub [1, 1, 1, 0, 1, 0, 1, 1, 1, 1, 1] B80
def Ji1 : List Item := .code Qe9 :: Jhi
def Qea := sub [1, 1, 1, 0, 1, 0, 1, 1, 1, 1, 1, 0, 0] B80
def Ji2 : List Item := .inRegion (opsOf Qea) [1, 2, 3, 4, 5, 6, 7, 8] :: Jhq
def Ji3 : List Item := .inRegion (opsOf Qea) [4, 5, 6, 7, 8] :: Jhq
def Ji4 : List Item := .inRegion (opsOf Qea) [5, 6, 7, 8] :: Jhq
def Qeb := sub [1, 1, 1, 1, 1] B80
def Ji5 : List Item := [.code Qeb]

def L.z2h : T27 × (List Int) × Bool × Int × Bool → Bool → Prop := fun ⟨x1v, ubx, x4, x16, x26⟩ r => ∀ S1 w1, Ext S0 w0 S1 w1 → ∀ gx1 uby ubz uc0 gx3 (_ : Hp nz wz S1 w1 ((some gx1, .row 28 (.i x1v.Kind :: U4 x1v.Set [.slice uby ubz uc0, .i x1v.Min, .i x1v.Max]) 8 0) :: (some gx3, .row 25 (U4 ubx []) 4 0) :: Lr)) (_ : x1v.Set.length = 4) (_ : Rd kT27 S1 w1 uby uc0 x1v.L) (_ : x1v.L.length = ubz) (_ : ubx.length = 4) (junk : Nat → Value),
 Goes Tryd.prog (base 80) Jhx ⟨lfr 77 [(1, (pt gx1 0)), (3, (pt gx3 0)), (4, .bool x4), (16, .i x16), (26, .bool x26)] junk, []⟩ w1 (Done Tryd.prog 80 (Rets (Post.z2e nz wz S0 w0 Lr r)))

theorem W.z2h {nz wz S0 w0 Lr} [Gw nz wz] : ∀ a r, M.syntax_shaped_l1 a = some r → L.z2h nz wz S0 w0 Lr a r := by
 intro ⟨x1v, ubx, x4, x16, x26⟩ r h S1 w1 hx gx1 uby ubz uc0 gx3 p1 uc1 uc2 uc3 uc4 junk
 rw [M.syntax_shaped_l1] at h
 try dsimp only at h
 subst uc3
 refine ite_some h (fun h13 h => ?_) (fun h13 h => ?_)
 ·
  rw [h13]
  refine Goes.rn 4 [(29, (pt gx1 1))] Jhz ?_
  refine Goes.ldN 25 (.tmp 29) 30 25 ⟨gx1, 1, none⟩ (U4 x1v.Set []) (p1.pa 0 1) ?_
  refine Goes.ldN 25 (.tmp 3) 31 25 ⟨gx3, 0, none⟩ (U4 ubx []) (p1.pa 1 0) ?_
  refine Op_.eqA 25 (.tmp 30) (.tmp 31) 25 32 4 23 4 .u64 (us := ((U4 x1v.Set []) : List Value)) (vs := ((U4 ubx []) : List Value)) Goes.v (by kernel_rfl) (by kernel_rfl) (by kernel_rfl) (by kernel_rfl) (by kernel_rfl) (by kernel_rfl) (by kernel_rfl) (els_mk4 (S := S1) (w := w1) (k := .u64) uc1) (els_mk4 (S := S1) (w := w1) (k := .u64) uc4) (Els.len1 (els_mk4 (S := S1) (w := w1) (k := .u64) uc1) rfl rfl) (Els.len1 (els_mk4 (S := S1) (w := w1) (k := .u64) uc4) rfl rfl) ?_
  refine Goes.rn 1 [(33, .bool (decide (x1v.Set = ubx)))] Ji0 ?_
  refine ite_some h (fun h14 h => ?_) (fun h14 h => ?_)
  ·
   rw [decide_eq_true h14]
   refine Goes.rn 4 [(34, .bool x4), (35, .bool x4), (2, .bool x4)] Jhy ?_
   obtain rfl := Option.some.inj h
   have p1 := (p1.dp 0).dp 0
   exact Goes.rt Tryd.f80 (.bool x4) ⟨S1, rfl, hx, p1⟩
  ·
   rw [decide_eq_false h14]
   refine Goes.rn 4 [(34, undef), (35, .bool false), (2, .bool false)] Jhy ?_
   obtain rfl := Option.some.inj h
   have p1 := (p1.dp 0).dp 0
   exact Goes.rt Tryd.f80 (.bool false) ⟨S1, rfl, hx, p1⟩
 ·
  have u83 : x26 = false := by simpa using h13
  rw [u83]
  refine Goes.rn 6 [(37, .bool (decide (x16 = 4))), (36, .bool (decide (x16 = 4)))] Ji1 ?_
  refine ite_some h (fun h15 h => ?_) (fun h15 h => ?_)
  ·
   rw [decide_eq_true h15]
   refine Goes.rn 4 [(38, (pt gx1 6))] Ji2 ?_
   refine Goes.ld 3 (.tmp 38) 39 3 ⟨gx1, 6, none⟩ (.i x1v.Min) (p1.c 0 6) ?_
   refine Goes.rn 2 [(40, .bool (decide (x1v.Min ≥ 0))), (41, .bool (decide (x1v.Min ≥ 0)))] Ji3 ?_
   refine ite_some h (fun h16 h => ?_) (fun h16 h => ?_)
   ·
    rw [decide_eq_true h16]
    refine Goes.rn 1 [(42, (pt gx1 6))] Ji4 ?_
    refine Goes.ld 3 (.tmp 42) 43 3 ⟨gx1, 6, none⟩ (.i x1v.Min) (p1.c 0 6) ?_
    refine Goes.rn 4 [(44, .bool (decide (x1v.Min ≤ 64))), (45, .bool (decide (x1v.Min ≤ 64))), (5, .bool (decide (x1v.Min ≤ 64)))] Jhq ?_
    exact Goes.jp 77 [(1, (pt gx1 0)), (3, (pt gx3 0)), (5, .bool (decide (x1v.Min ≤ 64)))] (W.z2g _ _ h _ _ hx gx1 uby x1v.L.length uc0 gx3 p1 uc1 uc2 rfl uc4)
   ·
    rw [decide_eq_false h16]
    refine Goes.rn 6 [(42, undef), (43, undef), (44, undef), (45, .bool false), (5, .bool false)] Jhq ?_
    exact Goes.jp 77 [(1, (pt gx1 0)), (3, (pt gx3 0)), (5, .bool false)] (W.z2g _ _ h _ _ hx gx1 uby x1v.L.length uc0 gx3 p1 uc1 uc2 rfl uc4)
  ·
   rw [decide_eq_false h15]
   refine Goes.rn 7 [(2, .bool false)] Ji5 ?_
   obtain rfl := Option.some.inj h
   have p1 := (p1.dp 0).dp 0
   exact Goes.rt Tryd.f80 (.bool false) ⟨S1, rfl, hx, p1⟩

def Qec := sub [1, 1, 1] B80
def Ji6 : List Item := [.code Qec]
def Qed := sub [1, 1, 1, 0, 1] B80
def Ji7 : List Item := .code Qed :: Jhh
def Qee := sub [1, 1, 1, 0, 0] B80
def Ji8 : List Item := .inRegion (opsOf Qee) [1] :: Ji7
def Qef := sub [1, 1, 1, 0, 1, 0, 1] B80
def Ji9 : List Item := .code Qef :: Jhi
def Qeg := sub [1, 1, 1, 0, 1, 0, 1, 0, 1] B80
def Jia : List Item := .code Qeg :: Jhi
def Qeh := sub [1, 1, 1, 0, 1, 0, 1, 0, 0] B80
def Jib : List Item := .inRegion (opsOf Qeh) [1, 2, 3, 4, 5, 6, 7] :: Jia
def Jic : List Item := .inRegion (opsOf Qeh) [5, 6, 7] :: Jia
def Qei := sub [1, 1, 1, 0, 1, 0, 1, 1, 0, 1] B80
def Jid : List Item := .code Qei :: Jhx

def L.z2i : T27 × (List Int) × Bool → Bool → Prop := fun ⟨x1v, ubx, x4⟩ r => ∀ S1 w1, Ext S0 w0 S1 w1 → ∀ gx1 uby ubz uc0 gx3 (_ : Hp nz wz S1 w1 ((some gx1, .row 28 (.i x1v.Kind :: U4 x1v.Set [.slice uby ubz uc0, .i x1v.Min, .i x1v.Max]) 8 0) :: (some gx3, .row 25 (U4 ubx []) 4 0) :: Lr)) (_ : x1v.Set.length = 4) (_ : Rd kT27 S1 w1 uby uc0 x1v.L) (_ : x1v.L.length = ubz) (_ : ubx.length = 4) (junk : Nat → Value),
 Goes Tryd.prog (base 80) Ji6 ⟨lfr 77 [(1, (pt gx1 0)), (3, (pt gx3 0)), (4, .bool x4)] junk, []⟩ w1 (Done Tryd.prog 80 (Rets (Post.z2e nz wz S0 w0 Lr r)))

theorem W.z2i {nz wz S0 w0 Lr} [Gw nz wz] : ∀ a r, M.syntax_shaped_l0 a = some r → L.z2i nz wz S0 w0 Lr a r := by
 intro ⟨x1v, ubx, x4⟩ r h S1 w1 hx gx1 uby ubz uc0 gx3 p1 uc1 uc2 uc3 uc4 junk
 rw [M.syntax_shaped_l0] at h
 try dsimp only at h
 subst uc3
 refine Goes.rn 4 [(15, (pt gx1 0))] Ji8 ?_
 refine Goes.ld 3 (.tmp 15) 16 3 ⟨gx1, 0, none⟩ (.i x1v.Kind) (p1.c 0 0) ?_
 refine Goes.rn 7 [(18, .bool (decide (x1v.Kind = 1))), (17, .bool (decide (x1v.Kind = 1)))] Ji9 ?_
 refine ite_some h (fun h8 h => ?_) (fun h8 h => ?_)
 ·
  rw [decide_eq_true h8]
  refine Goes.rn 4 [(19, (pt gx1 5))] Jib ?_
  refine Goes.ld 26 (.tmp 19) 20 26 ⟨gx1, 5, none⟩ (.slice uby x1v.L.length uc0) (p1.c 0 5) ?_
  refine Goes.rn 3 [(21, .i (x1v.L.length : Int)), (22, .bool (decide ((x1v.L.length : Int) = 0))), (23, .bool (decide ((x1v.L.length : Int) = 0)))] Jic ?_
  refine ite_some h (fun h9 h => ?_) (fun h9 h => ?_)
  ·
   rw [decide_eq_true h9]
   refine Goes.rn 4 [(24, .bool x4), (25, .bool x4), (2, .bool x4)] Jia ?_
   obtain rfl := Option.some.inj h
   have p1 := (p1.dp 0).dp 0
   exact Goes.rt Tryd.f80 (.bool x4) ⟨S1, rfl, hx, p1⟩
  ·
   rw [decide_eq_false h9]
   refine Goes.rn 4 [(24, undef), (25, .bool false), (2, .bool false)] Jia ?_
   obtain rfl := Option.some.inj h
   have p1 := (p1.dp 0).dp 0
   exact Goes.rt Tryd.f80 (.bool false) ⟨S1, rfl, hx, p1⟩
 ·
  rw [decide_eq_false h8]
  refine Goes.rn 7 [(27, .bool (decide (x1v.Kind = 2))), (26, .bool (decide (x1v.Kind = 2)))] Jid ?_
  refine ite_some h (fun h10 h => ?_) (fun h10 h => ?_)
  ·
   rw [decide_eq_true h10]
   refine Goes.rn 2 [] Jhx ?_
   exact Goes.jp 77 [(1, (pt gx1 0)), (3, (pt gx3 0)), (4, .bool x4), (16, .i x1v.Kind), (26, .bool true)] (W.z2h _ _ h _ _ hx gx1 uby x1v.L.length uc0 gx3 p1 uc1 uc2 rfl uc4)
  ·
   rw [decide_eq_false h10]
   refine Goes.rn 5 [(28, .bool (decide (x1v.Kind = 3))), (26, .bool (decide (x1v.Kind = 3)))] Jhx ?_
   exact Goes.jp 77 [(1, (pt gx1 0)), (3, (pt gx3 0)), (4, .bool x4), (16, .i x1v.Kind), (26, .bool (decide (x1v.Kind = 3)))] (W.z2h _ _ h _ _ hx gx1 uby x1v.L.length uc0 gx3 p1 uc1 uc2 rfl uc4)

def Qej := sub [1] B80
def Jie : List Item := [.code Qej]
def Qek := sub [0] B80
def Jif : List Item := .inRegion (opsOf Qek) [0, 1] :: Jie
def Qel := sub [1, 1] B80
def Jig : List Item := [.code Qel]
def Qem := sub [1, 0] B80
def Jih : List Item := .inRegion (opsOf Qem) [0] :: Jig
def Qen := sub [1, 1, 0] B80
def Jii : List Item := .inRegion (opsOf Qen) [1, 2, 3, 4, 5, 6, 7, 8] :: Ji6
def Jij : List Item := .inRegion (opsOf Qen) [4, 5, 6, 7, 8] :: Ji6
def Jik : List Item := .inRegion (opsOf Qen) [5, 6, 7, 8] :: Ji6

theorem W.z2e (x0 : T27) (r : Bool) (h : M.syntax_shaped x0 = some r) {nz wz S0 w0 Lr} [Gw nz wz] (ubc ubd ube) (p0 : Hp nz wz S0 w0 (Lr)) (ubo : x0.Set.length = 4) (ubp : Rd kT27 S0 w0 ubc ube x0.L) (ubq : x0.L.length = ubd) :
  Calls Tryd.prog 80 #[(ag (.i x0.Kind :: U4 x0.Set [.slice ubc ubd ube, .i x0.Min, .i x0.Max]))] w0 (Rets (Post.z2e nz wz S0 w0 Lr r)) := by
 subst ubq
 refine calls_of_goes (fn := Tryd.f80) (c := B80) (by kernel_rfl) (by kernel_rfl) 76 (by kernel_rfl) ?_
 refine Goes.jp 77 [(0, (ag (.i x0.Kind :: U4 x0.Set [.slice ubc x0.L.length ube, .i x0.Min, .i x0.Max])))] (fun junk => ?_)
 delta M.syntax_shaped at h
 refine Goes.rn 2 [] Jif ?_
 refine Op_.box 28 (.tmp 0) 1 0 (ag (.i x0.Kind :: U4 x0.Set [.slice ubc x0.L.length ube, .i x0.Min, .i x0.Max])) (.i x0.Kind :: U4 x0.Set [.slice ubc x0.L.length ube, .i x0.Min, .i x0.Max]) p0 Goes.v (by kernel_rfl) (by kernel_rfl) ?_
 intro b1 w2 z2 p2
 refine Goes.rn 4 [(2, .bool false)] Jih ?_
 refine Op_.alloc 25 3 0 (.agg #[.u 0, .u 0, .u 0, .u 0]) [.u 0, .u 0, .u 0, .u 0] p2 Goes.v (by kernel_rfl) (by kernel_rfl) ?_
 intro b3 w3 z3 p3
 refine Goes.rn 4 [(7, (pt b1 6))] Jii ?_
 refine Goes.ld 3 (.tmp 7) 8 3 ⟨b1, 6, none⟩ (.i x0.Min) (p3.c 1 6) ?_
 refine Goes.rn 2 [(9, .bool (decide (x0.Min = 0))), (10, .bool (decide (x0.Min = 0)))] Jij ?_
 refine ite_some h (fun h5 h => ?_) (fun h5 h => ?_)
 ·
  rw [decide_eq_true h5]
  refine Goes.rn 1 [(11, (pt b1 7))] Jik ?_
  refine Goes.ld 3 (.tmp 11) 12 3 ⟨b1, 7, none⟩ (.i x0.Max) (p3.c 1 7) ?_
  refine Goes.rn 4 [(13, .bool (decide (x0.Max = 0))), (14, .bool (decide (x0.Max = 0))), (4, .bool (decide (x0.Max = 0)))] Ji6 ?_
  have p3 := (p3.fr 0).fr 1
  exact Goes.jp 77 [(1, (pt b1 0)), (3, (pt b3 0)), (4, .bool (decide (x0.Max = 0)))] (W.z2i _ _ h _ _ (((Ext.refl S0 w0).trans z2).trans z3) b1 ubc x0.L.length ube b3 p3 ubo (ubp.ext (z2.trans z3)) rfl rfl)
 ·
  rw [decide_eq_false h5]
  refine Goes.rn 6 [(11, undef), (12, undef), (13, undef), (14, .bool false), (4, .bool false)] Ji6 ?_
  have p3 := (p3.fr 0).fr 1
  exact Goes.jp 77 [(1, (pt b1 0)), (3, (pt b3 0)), (4, .bool false)] (W.z2i _ _ h _ _ (((Ext.refl S0 w0).trans z2).trans z3) b1 ubc x0.L.length ube b3 p3 ubo (ubp.ext (z2.trans z3)) rfl rfl)

def Qeo := sub [1, 1] B68
def Jil : List Item := [.code Qeo]
def Jim : List Item := .inBlock 0 :: Jil
def Qep := sub [1, 0, 1, 0, 0] B68
def Jin : List Item := .inLoop Qep :: Jim
def Jio : List Item := .code Qep :: Jin
def Qeq := sub [1] B68
def Jip : List Item := [.code Qeq]
def Qer := sub [0] B68
def Jiq : List Item := .inRegion (opsOf Qer) [0, 1] :: Jip
def Qes := sub [1, 0, 1] B68
def Jir : List Item := .code Qes :: Jil
def Qet := sub [1, 0, 0] B68
def Jis : List Item := .inRegion (opsOf Qet) [1, 2, 3] :: Jir
def Qeu := sub [1, 0, 1, 0, 0, 1, 1] B68
def Jit : List Item := .code Qeu :: Jin
def Qev := sub [1, 0, 1, 0, 0, 1, 0] B68
def Jiu : List Item := .code Qev :: Jit
def Qew := sub [1, 0, 1, 0, 0, 1, 1, 1] B68
def Jiv : List Item := .code Qew :: Jin
def Jiw : List Item := .inBlock 1 :: Jiv
def Qex := sub [1, 0, 1, 0, 0, 1, 1, 0, 0, 1] B68
def Jix : List Item := .code Qex :: Jiw
def Qey := sub [1, 0, 1, 0, 0, 1, 1, 0, 0, 0] B68
def Jiy : List Item := .inRegion (opsOf Qey) [0, 1, 2, 3] :: Jix
def Qez := sub [1, 0, 1, 0, 0, 1, 1, 0, 0, 1, 1] B68
def Jiz : List Item := .code Qez :: Jiw
def Qf0 := sub [1, 0, 1, 0, 0, 1, 1, 0, 0, 1, 0] B68
def Jj0 : List Item := .inRegion (opsOf Qf0) [0, 1, 2] :: Jiz
def Qf1 := sub [1, 0, 1, 0, 0, 1, 1, 0, 0, 1, 1, 0, 1] B68
def Jj1 : List Item := .code Qf1 :: Jiw
def Qf2 := sub [1, 1, 1] B68
def Jj2 : List Item := [.code Qf2]
def Qf3 := sub [1, 1, 0] B68
def Jj3 : List Item := .inRegion (opsOf Qf3) [0, 1, 2] :: Jj2

def Post.z2j (r : Bool) (v : Value) (w' : World) : Prop :=
 ∃ S', v = .bool r ∧ Ext S0 w0 S' w' ∧ Hp nz wz S' w' (Lr)

def LF.z2j : T27 → Bool → Prop := fun x0 r => ∀ {nz wz S0 w0 Lr} [Gw nz wz] ubc ubd ube (_ : Hp nz wz S0 w0 (Lr)) (_ : x0.Set.length = 4) (_ : Rd kT27 S0 w0 ubc ube x0.L) (_ : x0.L.length = ubd),
 Calls Tryd.prog 68 #[(ag (.i x0.Kind :: U4 x0.Set [.slice ubc ubd ube, .i x0.Min, .i x0.Max]))] w0 (Rets (Post.z2j nz wz S0 w0 Lr r))

def L.z2k : T27 × (List T27) × Int × Int → Bool → Prop := fun ⟨x1v, x6, x7, x8⟩ r => ∀ S1 w1, Ext S0 w0 S1 w1 → ∀ gx1 uby ubz uc0 Ax6 nx6 cx6 (_ : Hp nz wz S1 w1 ((some gx1, .row 28 (.i x1v.Kind :: U4 x1v.Set [.slice uby ubz uc0, .i x1v.Min, .i x1v.Max]) 8 0) :: Lr)) (_ : x1v.Set.length = 4) (_ : Rd kT27 S1 w1 uby uc0 x1v.L) (_ : x1v.L.length = ubz) (_ : Rd kT27 S1 w1 Ax6 cx6 x6) (_ : x6.length = nx6) (junk : Nat → Value),
 Goes Tryd.prog (base 68) Jio ⟨lfr 18 [(1, (pt gx1 0)), (6, .slice Ax6 nx6 cx6), (7, .i x7), (8, .i x8)] junk, []⟩ w1 (Done Tryd.prog 68 (Rets (Post.z2j nz wz S0 w0 Lr r)))

def LL.z2k : T27 × (List T27) × Int × Int → Bool → Prop := fun a r => ∀ {nz wz S0 w0 Lr} [Gw nz wz], L.z2k nz wz S0 w0 Lr a r

theorem W.z2l : (∀ a r, M.syntax_right a = some r → LF.z2j a r) ∧ (∀ a r, M.syntax_right_l0 a = some r → LL.z2k a r) := by
 refine M.syntax_right.mutual_partial_correctness LF.z2j LL.z2k ?_ ?_
 ·
  intro uc5 uc6 x0 r h nz wz S0 w0 Lr iG ubc ubd ube p0 ubo ubp ubq
  try dsimp only at h
  subst ubq
  refine calls_of_goes (fn := Tryd.f68) (c := B68) (by kernel_rfl) (by kernel_rfl) 17 (by kernel_rfl) ?_
  refine Goes.jp 18 [(0, (ag (.i x0.Kind :: U4 x0.Set [.slice ubc x0.L.length ube, .i x0.Min, .i x0.Max])))] (fun junk => ?_)
  refine Goes.rn 2 [] Jiq ?_
  refine Op_.box 28 (.tmp 0) 1 0 (ag (.i x0.Kind :: U4 x0.Set [.slice ubc x0.L.length ube, .i x0.Min, .i x0.Max])) (.i x0.Kind :: U4 x0.Set [.slice ubc x0.L.length ube, .i x0.Min, .i x0.Max]) p0 Goes.v (by kernel_rfl) (by kernel_rfl) ?_
  intro b1 w2 z2 p2
  refine Goes.rn 6 [(2, .bool false), (5, (pt b1 5))] Jis ?_
  refine Goes.ld 26 (.tmp 5) 6 26 ⟨b1, 5, none⟩ (.slice ubc x0.L.length ube) (p2.c 0 5) ?_
  refine Goes.rn 5 [(7, .i (x0.L.length : Int)), (8, .i 0)] Jio ?_
  exact Goes.jp 18 [(1, (pt b1 0)), (6, .slice ubc x0.L.length ube), (7, .i (x0.L.length : Int)), (8, .i 0)] (uc6 _ _ h _ _ ((Ext.refl S0 w0).trans z2) b1 ubc x0.L.length ube ubc x0.L.length ube p2 ubo (ubp.ext z2) rfl (ubp.ext z2) rfl)
 ·
  intro rec_syntax_right uc5 ih_syntax_right uc6 ⟨x1v, x6, x7, x8⟩ r h nz wz S0 w0 Lr iG S1 w1 hx gx1 uby ubz uc0 Ax6 nx6 cx6 p1 uc1 uc2 uc3 fx6 lx6 junk
  try dsimp only at h
  subst uc3
  subst lx6
  refine Goes.rn 5 [(9, .bool (decide (x8 < x7)))] Jiu ?_
  refine ite_some h (fun h4 h => ?_) (fun h4 h => ?_)
  ·
   rw [decide_eq_true h4]
   refine Goes.rn 6 [] Jiy ?_
   refine guard_some' h fun g5 h => ?_
   refine guard_some' h fun g6 h => ?_
   refine Op_.ixR_n 26 (.tmp 6) (.tmp 8) 10 0 28 .i64 x8 (gi x6 x8) rfl rfl fx6 Goes.v (by kernel_rfl) (by kernel_rfl) (by kernel_rfl) (by kernel_rfl) g5 g6 ?_
   intro a7 _ f8 q9
   have q10 := q9
   obtain ⟨_, _, rfl, rfl, ⟨_, _, rfl, ⟨l11, f12⟩, ⟨_, _, rfl, ⟨A13, c14, rfl, f15⟩, ⟨_, _, rfl, rfl, rfl⟩⟩⟩⟩ := kT27_open q10
   obtain rfl := els_lit4' f12 l11
   refine Goes.ldN 28 (.tmp 10) 11 28 a7 ([.i ((gi x6 x8).Kind)] ++ ((U4 ((gi x6 x8).Set) []) ++ ([.slice A13 (((gi x6 x8).L).length) c14] ++ ([.i ((gi x6 x8).Min)] ++ [.i ((gi x6 x8).Max)])))) (f8.cell) ?_
   refine Op_.alloc 28 4 0 (.agg #[.i 0, .u 0, .u 0, .u 0, .u 0, .slice none 0 0, .i 0, .i 0]) [.i 0, .u 0, .u 0, .u 0, .u 0, .slice none 0 0, .i 0, .i 0] p1 Goes.v (by kernel_rfl) (by kernel_rfl) ?_
   intro b16 w3 z3 p3
   refine Op_.st 28 (.tmp 4) (.tmp 11) 0 0 b16 0 (ag (.i ((gi x6 x8).Kind) :: U4 ((gi x6 x8).Set) [.slice A13 (((gi x6 x8).L).length) c14, .i ((gi x6 x8).Min), .i ((gi x6 x8).Max)])) (.i ((gi x6 x8).Kind) :: U4 ((gi x6 x8).Set) [.slice A13 (((gi x6 x8).L).length) c14, .i ((gi x6 x8).Min), .i ((gi x6 x8).Max)]) p3 rfl Goes.s (by kernel_rfl) (by kernel_rfl) (by kernel_rfl) (by kernel_rfl) (Nat.zero_le _) (by simp only [List.length_cons, List.length_nil]; omega) (by simp [Value.oneCell']) ?_
   intro w4 z4 p4
   have p4 : Hp nz wz S1 w4 ((some b16, .row 28 (.i ((gi x6 x8).Kind) :: U4 ((gi x6 x8).Set) [.slice A13 (((gi x6 x8).L).length) c14, .i ((gi x6 x8).Min), .i ((gi x6 x8).Max)]) 8 0) :: (some gx1, .row 28 (.i x1v.Kind :: U4 x1v.Set [.slice uby x1v.L.length uc0, .i x1v.Min, .i x1v.Max]) 8 0) :: Lr) := p4
   refine Goes.rn 3 [] Jj0 ?_
   refine Goes.ldN 28 (.tmp 4) 12 28 ⟨b16, 0, none⟩ (.i ((gi x6 x8).Kind) :: U4 ((gi x6 x8).Set) [.slice A13 (((gi x6 x8).L).length) c14, .i ((gi x6 x8).Min), .i ((gi x6 x8).Max)]) (p4.pa 0 0) ?_
   refine bind_some' h fun y18 e19 h => ?_
   refine Goes.cal (kc 68 [12] #[28]) 13 4 68 _ (ih_syntax_right (⟨(gi x6 x8).Kind, ((gi x6 x8).Set), (gi x6 x8).L, (gi x6 x8).Min, (gi x6 x8).Max⟩ : T27) y18 e19 A13 (((gi x6 x8).L).length) c14 p4 l11 (f15.ext (z3.trans z4)) rfl) ?_
   rintro _ w5 ⟨S5, rfl, z5, p5⟩
   have p5 := p5.dp 0
   refine Goes.rn 2 [(14, .bool (!y18))] Jiz ?_
   refine ite_some h (fun h20 h => ?_) (fun h20 h => ?_)
   ·
    rw [h20]
    refine Goes.rn 8 [(15, .i (wr .i64 (x8 + 1))), (8, .i (wr .i64 (x8 + 1)))] Jio ?_
    exact Goes.jp 18 [(1, (pt gx1 0)), (6, .slice Ax6 x6.length cx6), (7, .i x7), (8, .i (wr .i64 (x8 + 1)))] (uc6 _ _ h _ _ (((hx.trans z3).trans z4).trans z5) gx1 uby x1v.L.length uc0 Ax6 x6.length cx6 p5 uc1 (uc2.ext ((z3.trans z4).trans z5)) rfl (fx6.ext ((z3.trans z4).trans z5)) rfl)
   ·
    have uc7 : y18 = false := by simpa using h20
    rw [uc7]
    refine Goes.rn 5 [(2, .bool false)] Jj1 ?_
    obtain rfl := Option.some.inj h
    have p5 := p5.dp 0
    exact Goes.rt Tryd.f68 (.bool false) ⟨S5, rfl, (((hx.trans z3).trans z4).trans z5), p5⟩
  ·
   rw [decide_eq_false h4]
   refine Goes.rn 4 [] Jj3 ?_
   refine Goes.ldN 28 (.tmp 1) 16 28 ⟨gx1, 0, none⟩ (.i x1v.Kind :: U4 x1v.Set [.slice uby x1v.L.length uc0, .i x1v.Min, .i x1v.Max]) (p1.pa 0 0) ?_
   refine bind_some' h fun y21 e22 h => ?_
   refine Goes.cal (kc 80 [16] #[28]) 17 4 80 _ (W.z2e x1v y21 e22 uby x1v.L.length uc0 p1 uc1 uc2 rfl) ?_
   rintro _ w6 ⟨S6, rfl, z6, p6⟩
   have p6 := p6.dp 0
   refine Goes.rn 2 [(2, .bool y21)] Jj2 ?_
   obtain rfl := Option.some.inj h
   exact Goes.rt Tryd.f68 (.bool y21) ⟨S6, rfl, (hx.trans z6), p6⟩

theorem W.z2j : ∀ a r, M.syntax_right a = some r → LF.z2j a r := (W.z2l).1

theorem W.z2k : ∀ a r, M.syntax_right_l0 a = some r → LL.z2k a r := (W.z2l).2

def Qf4 := sub [1] B50
def Jj4 : List Item := [.code Qf4]
def Qf5 := sub [0] B50
def Jj5 : List Item := .inRegion (opsOf Qf5) [0, 1] :: Jj4
def Qf6 := sub [1, 1] B50
def Jj6 : List Item := [.code Qf6]
def Qf7 := sub [1, 0] B50
def Jj7 : List Item := .inRegion (opsOf Qf7) [0, 1] :: Jj6
def Qf8 := sub [1, 1, 1] B50
def Jj8 : List Item := [.code Qf8]
def Qf9 := sub [1, 1, 0, 1] B50
def Jj9 : List Item := .code Qf9 :: Jj8
def Qfa := sub [1, 1, 0, 0] B50
def Jja : List Item := .inRegion (opsOf Qfa) [0, 1, 2, 3, 4, 5, 6, 7] :: Jj9
def Jjb : List Item := .inRegion (opsOf Qfa) [4, 5, 6, 7] :: Jj9
def Qfb := sub [1, 1, 1, 1] B50
def Jjc : List Item := [.code Qfb]
def Qfc := sub [1, 1, 1, 0] B50
def Jjd : List Item := .inRegion (opsOf Qfc) [0, 1] :: Jjc
def Qfd := sub [1, 1, 0, 1, 0, 1] B50
def Jje : List Item := .code Qfd :: Jj8

def Post.z2m (r : Int) (v : Value) (w' : World) : Prop :=
 ∃ S', v = .i r ∧ Ext S0 w0 S' w' ∧ Hp nz wz S' w' (Lr)

theorem W.z2m (x0 : T27) (r : Int) (h : M.syntax_Size x0 = some r) {nz wz S0 w0 Lr} [Gw nz wz] (ubc ubd ube) (p0 : Hp nz wz S0 w0 (Lr)) (ubo : x0.Set.length = 4) (ubp : Rd kT27 S0 w0 ubc ube x0.L) (ubq : x0.L.length = ubd) :
  Calls Tryd.prog 50 #[(ag (.i x0.Kind :: U4 x0.Set [.slice ubc ubd ube, .i x0.Min, .i x0.Max]))] w0 (Rets (Post.z2m nz wz S0 w0 Lr r)) := by
 subst ubq
 refine calls_of_goes (fn := Tryd.f50) (c := B50) (by kernel_rfl) (by kernel_rfl) 12 (by kernel_rfl) ?_
 refine Goes.jp 13 [(0, (ag (.i x0.Kind :: U4 x0.Set [.slice ubc x0.L.length ube, .i x0.Min, .i x0.Max])))] (fun junk => ?_)
 delta M.syntax_Size at h
 refine Goes.rn 2 [] Jj5 ?_
 refine Op_.box 28 (.tmp 0) 1 0 (ag (.i x0.Kind :: U4 x0.Set [.slice ubc x0.L.length ube, .i x0.Min, .i x0.Max])) (.i x0.Kind :: U4 x0.Set [.slice ubc x0.L.length ube, .i x0.Min, .i x0.Max]) p0 Goes.v (by kernel_rfl) (by kernel_rfl) ?_
 intro b1 w2 z2 p2
 refine Goes.rn 4 [(2, .i 0)] Jj7 ?_
 refine Op_.alloc 3 3 0 (.i 0) [.i 0] p2 Goes.v (by kernel_rfl) (by kernel_rfl) ?_
 intro b3 w3 z3 p3
 refine Op_.st 3 (.tmp 3) (.const (.int .i64 0)) 0 0 b3 0 (.i 0) [.i 0] p3 rfl Goes.s (by kernel_rfl) (by kernel_rfl) (by kernel_rfl) (by kernel_rfl) (Nat.zero_le _) (by simp only [List.length_cons, List.length_nil]; omega) (by simp [Value.oneCell']) ?_
 intro w4 z4 p4
 have p4 : Hp nz wz S0 w4 ((some b3, .row 3 [.i 0] 1 0) :: (some b1, .row 28 (.i x0.Kind :: U4 x0.Set [.slice ubc x0.L.length ube, .i x0.Min, .i x0.Max]) 8 0) :: Lr) := p4
 refine Goes.rn 4 [] Jja ?_
 refine Goes.ldN 28 (.tmp 1) 4 28 ⟨b1, 0, none⟩ (.i x0.Kind :: U4 x0.Set [.slice ubc x0.L.length ube, .i x0.Min, .i x0.Max]) (p4.pa 1 0) ?_
 refine bind_some' h fun y5 e6 h => ?_
 refine Goes.cal (.call { callee := .value (.func 67), args := #[(.tmp 4), (.const (.int .i64 128)), (.tmp 3)], argTypes := #[28, 3, 75] }) 5 4 67 _ (W.z2a (x0, 128, 0) y5 e6 ubc x0.L.length ube b3 p4 ubo (ubp.ext ((z2.trans z3).trans z4)) rfl) ?_
 rintro _ w5 ⟨S5, rfl, z5, p5⟩
 refine Goes.rn 2 [(6, .bool (!y5.1)), (7, .bool (!y5.1))] Jjb ?_
 refine ite_some h (fun h7 h => ?_) (fun h7 h => ?_)
 ·
  rw [h7]
  refine Goes.ldN 28 (.tmp 1) 8 28 ⟨b1, 0, none⟩ (.i x0.Kind :: U4 x0.Set [.slice ubc x0.L.length ube, .i x0.Min, .i x0.Max]) (p5.pa 1 0) ?_
  refine bind_some' h fun y8 e9 h => ?_
  refine Goes.cal (kc 68 [8] #[28]) 9 4 68 _ (W.z2j x0 y8 e9 ubc x0.L.length ube p5 ubo (ubp.ext (((z2.trans z3).trans z4).trans z5)) rfl) ?_
  rintro _ w6 ⟨S6, rfl, z6, p6⟩
  have p6 := p6.dp 1
  refine Goes.rn 3 [(10, .bool (!y8)), (11, .bool (!y8))] Jj9 ?_
  refine ite_some h (fun h10 h => ?_) (fun h10 h => ?_)
  ·
   rw [h10]
   refine Goes.rn 4 [] Jjd ?_
   refine Goes.ld 3 (.tmp 3) 12 3 ⟨b3, 0, none⟩ (.i y5.2) (p6.c 0 0) ?_
   refine Goes.rn 2 [(2, .i y5.2)] Jjc ?_
   obtain rfl := Option.some.inj h
   have p6 := p6.dp 0
   exact Goes.rt Tryd.f50 (.i y5.2) ⟨S6, rfl, ((((((Ext.refl S0 w0).trans z2).trans z3).trans z4).trans z5).trans z6), p6⟩
  ·
   have u9b : y8 = false := by simpa using h10
   rw [u9b]
   refine Goes.rn 5 [(2, .i 0)] Jje ?_
   obtain rfl := Option.some.inj h
   have p6 := p6.dp 0
   exact Goes.rt Tryd.f50 (.i 0) ⟨S6, rfl, ((((((Ext.refl S0 w0).trans z2).trans z3).trans z4).trans z5).trans z6), p6⟩
 ·
  have h7' : y5.1 = false := by simpa using h7
  rw [h7']
  refine Goes.rn 10 [(8, undef), (9, undef), (10, undef), (11, .bool true), (2, .i 0)] Jje ?_
  obtain rfl := Option.some.inj h
  have p5 := (p5.dp 0).dp 0
  exact Goes.rt Tryd.f50 (.i 0) ⟨S5, rfl, (((((Ext.refl S0 w0).trans z2).trans z3).trans z4).trans z5), p5⟩

def Qfe := sub [1] B32
def Jjf : List Item := [.code Qfe]
def Qff := sub [0] B32
def Jjg : List Item := .inRegion (opsOf Qff) [0, 1] :: Jjf
def Qfg := sub [1, 1] B32
def Jjh : List Item := [.code Qfg]
def Qfh := sub [1, 0] B32
def Jji : List Item := .inRegion (opsOf Qfh) [0, 1, 2, 3] :: Jjh

def Post.z2n (r : Bool) (v : Value) (w' : World) : Prop :=
 ∃ S', v = .bool r ∧ Ext S0 w0 S' w' ∧ Hp nz wz S' w' (Lr)

theorem W.z2n (x0 : T27) (r : Bool) (h : M.syntax_Check x0 = some r) {nz wz S0 w0 Lr} [Gw nz wz] (ubc ubd ube) (p0 : Hp nz wz S0 w0 (Lr)) (ubo : x0.Set.length = 4) (ubp : Rd kT27 S0 w0 ubc ube x0.L) (ubq : x0.L.length = ubd) :
  Calls Tryd.prog 32 #[(ag (.i x0.Kind :: U4 x0.Set [.slice ubc ubd ube, .i x0.Min, .i x0.Max]))] w0 (Rets (Post.z2n nz wz S0 w0 Lr r)) := by
 subst ubq
 refine calls_of_goes (fn := Tryd.f32) (c := B32) (by kernel_rfl) (by kernel_rfl) 5 (by kernel_rfl) ?_
 refine Goes.jp 6 [(0, (ag (.i x0.Kind :: U4 x0.Set [.slice ubc x0.L.length ube, .i x0.Min, .i x0.Max])))] (fun junk => ?_)
 delta M.syntax_Check at h
 refine Goes.rn 2 [] Jjg ?_
 refine Op_.box 28 (.tmp 0) 1 0 (ag (.i x0.Kind :: U4 x0.Set [.slice ubc x0.L.length ube, .i x0.Min, .i x0.Max])) (.i x0.Kind :: U4 x0.Set [.slice ubc x0.L.length ube, .i x0.Min, .i x0.Max]) p0 Goes.v (by kernel_rfl) (by kernel_rfl) ?_
 intro b1 w2 z2 p2
 refine Goes.rn 4 [(2, .bool false)] Jji ?_
 refine Goes.ldN 28 (.tmp 1) 3 28 ⟨b1, 0, none⟩ (.i x0.Kind :: U4 x0.Set [.slice ubc x0.L.length ube, .i x0.Min, .i x0.Max]) (p2.pa 0 0) ?_
 refine bind_some' h fun y3 e4 h => ?_
 refine Goes.cal (kc 50 [3] #[28]) 4 3 50 _ (W.z2m x0 y3 e4 ubc x0.L.length ube p2 ubo (ubp.ext z2) rfl) ?_
 rintro _ w3 ⟨S3, rfl, z3, p3⟩
 have p3 := p3.dp 0
 refine Goes.rn 3 [(5, .bool (decide (y3 > 0))), (2, .bool (decide (y3 > 0)))] Jjh ?_
 obtain rfl := Option.some.inj h
 exact Goes.rt Tryd.f32 (.bool (decide (y3 > 0))) ⟨S3, rfl, (((Ext.refl S0 w0).trans z2).trans z3), p3⟩

def Qfi := sub [1, 1] B76
def Jjj : List Item := [.code Qfi]
def Qfj := sub [1, 1, 1, 1] B76
def Jjk : List Item := [.code Qfj]
def Qfk := sub [1, 1, 1, 0] B76
def Jjl : List Item := .inRegion (opsOf Qfk) [2, 3, 4, 5] :: Jjk
def Qfl := sub [1, 1, 1, 1, 1, 1] B76
def Jjm : List Item := [.code Qfl]
def Qfm := sub [1, 1, 1, 1, 1, 0] B76
def Jjn : List Item := .code Qfm :: Jjm
def Qfn := sub [1, 1, 1, 1, 1, 1, 1] B76
def Jjo : List Item := [.code Qfn]
def Qfo := sub [1, 1, 1, 1, 1, 1, 0] B76
def Jjp : List Item := .inRegion (opsOf Qfo) [] :: Jjo
def Qfp := sub [1, 1, 1, 1, 1, 1, 1, 1] B76
def Jjq : List Item := [.code Qfp]

def Post.z2o (r : Int) (v : Value) (w' : World) : Prop :=
 ∃ S', v = .i r ∧ Ext S0 w0 S' w' ∧ Hp nz wz S' w' (Lr)

theorem W.z2o (x0 : Int) (r : Int) (h : M.bits_OnesCount64 x0 = some r) {nz wz S0 w0 Lr} [Gw nz wz] (p0 : Hp nz wz S0 w0 (Lr)) :
  Calls Tryd.prog 76 #[.u x0] w0 (Rets (Post.z2o nz wz S0 w0 Lr r)) := by
 refine calls_of_goes (fn := Tryd.f76) (c := B76) (by kernel_rfl) (by kernel_rfl) 34 (by kernel_rfl) ?_
 refine Goes.jp 35 [(0, .u x0)] (fun junk => ?_)
 delta M.bits_OnesCount64 at h
 refine Goes.rn 14 [(2, .i 0), (3, .u x0), (4, .u (ishr .u64 x0 1)), (5, .u (iand .u64 (ishr .u64 x0 1) 6148914691236517205)), (6, .u x0), (7, .u (iand .u64 x0 6148914691236517205)), (8, .u (wr .u64 ((iand .u64 (ishr .u64 x0 1) 6148914691236517205) + (iand .u64 x0 6148914691236517205)))), (0, .u (wr .u64 ((iand .u64 (ishr .u64 x0 1) 6148914691236517205) + (iand .u64 x0 6148914691236517205))))] Jjj ?_
 refine Goes.rn 14 [(9, .u (wr .u64 ((iand .u64 (ishr .u64 x0 1) 6148914691236517205) + (iand .u64 x0 6148914691236517205)))), (10, .u (ishr .u64 (wr .u64 ((iand .u64 (ishr .u64 x0 1) 6148914691236517205) + (iand .u64 x0 6148914691236517205))) 2)), (11, .u (iand .u64 (ishr .u64 (wr .u64 ((iand .u64 (ishr .u64 x0 1) 6148914691236517205) + (iand .u64 x0 6148914691236517205))) 2) 3689348814741910323)), (12, .u (wr .u64 ((iand .u64 (ishr .u64 x0 1) 6148914691236517205) + (iand .u64 x0 6148914691236517205)))), (13, .u (iand .u64 (wr .u64 ((iand .u64 (ishr .u64 x0 1) 6148914691236517205) + (iand .u64 x0 6148914691236517205))) 3689348814741910323)), (14, .u (wr .u64 ((iand .u64 (ishr .u64 (wr .u64 ((iand .u64 (ishr .u64 x0 1) 6148914691236517205) + (iand .u64 x0 6148914691236517205))) 2) 3689348814741910323) + (iand .u64 (wr .u64 ((iand .u64 (ishr .u64 x0 1) 6148914691236517205) + (iand .u64 x0 6148914691236517205))) 3689348814741910323)))), (0, .u (wr .u64 ((iand .u64 (ishr .u64 (wr .u64 ((iand .u64 (ishr .u64 x0 1) 6148914691236517205) + (iand .u64 x0 6148914691236517205))) 2) 3689348814741910323) + (iand .u64 (wr .u64 ((iand .u64 (ishr .u64 x0 1) 6148914691236517205) + (iand .u64 x0 6148914691236517205))) 3689348814741910323)))), (15, .u (wr .u64 ((iand .u64 (ishr .u64 (wr .u64 ((iand .u64 (ishr .u64 x0 1) 6148914691236517205) + (iand .u64 x0 6148914691236517205))) 2) 3689348814741910323) + (iand .u64 (wr .u64 ((iand .u64 (ishr .u64 x0 1) 6148914691236517205) + (iand .u64 x0 6148914691236517205))) 3689348814741910323)))), (16, .u (ishr .u64 (wr .u64 ((iand .u64 (ishr .u64 (wr .u64 ((iand .u64 (ishr .u64 x0 1) 6148914691236517205) + (iand .u64 x0 6148914691236517205))) 2) 3689348814741910323) + (iand .u64 (wr .u64 ((iand .u64 (ishr .u64 x0 1) 6148914691236517205) + (iand .u64 x0 6148914691236517205))) 3689348814741910323))) 4))] Jjl ?_
 refine Goes.rn 14 [(17, .u (wr .u64 ((iand .u64 (ishr .u64 (wr .u64 ((iand .u64 (ishr .u64 x0 1) 6148914691236517205) + (iand .u64 x0 6148914691236517205))) 2) 3689348814741910323) + (iand .u64 (wr .u64 ((iand .u64 (ishr .u64 x0 1) 6148914691236517205) + (iand .u64 x0 6148914691236517205))) 3689348814741910323)))), (18, .u (wr .u64 ((ishr .u64 (wr .u64 ((iand .u64 (ishr .u64 (wr .u64 ((iand .u64 (ishr .u64 x0 1) 6148914691236517205) + (iand .u64 x0 6148914691236517205))) 2) 3689348814741910323) + (iand .u64 (wr .u64 ((iand .u64 (ishr .u64 x0 1) 6148914691236517205) + (iand .u64 x0 6148914691236517205))) 3689348814741910323))) 4) + (wr .u64 ((iand .u64 (ishr .u64 (wr .u64 ((iand .u64 (ishr .u64 x0 1) 6148914691236517205) + (iand .u64 x0 6148914691236517205))) 2) 3689348814741910323) + (iand .u64 (wr .u64 ((iand .u64 (ishr .u64 x0 1) 6148914691236517205) + (iand .u64 x0 6148914691236517205))) 3689348814741910323)))))), (19, .u (iand .u64 (wr .u64 ((ishr .u64 (wr .u64 ((iand .u64 (ishr .u64 (wr .u64 ((iand .u64 (ishr .u64 x0 1) 6148914691236517205) + (iand .u64 x0 6148914691236517205))) 2) 3689348814741910323) + (iand .u64 (wr .u64 ((iand .u64 (ishr .u64 x0 1) 6148914691236517205) + (iand .u64 x0 6148914691236517205))) 3689348814741910323))) 4) + (wr .u64 ((iand .u64 (ishr .u64 (wr .u64 ((iand .u64 (ishr .u64 x0 1) 6148914691236517205) + (iand .u64 x0 6148914691236517205))) 2) 3689348814741910323) + (iand .u64 (wr .u64 ((iand .u64 (ishr .u64 x0 1) 6148914691236517205) + (iand .u64 x0 6148914691236517205))) 3689348814741910323))))) 1085102592571150095)), (0, .u (wr .u64 ((iand .u64 (wr .u64 ((ishr .u64 (wr .u64 ((iand .u64 (ishr .u64 (wr .u64 ((iand .u64 (ishr .u64 x0 1) 6148914691236517205) + (iand .u64 x0 6148914691236517205))) 2) 3689348814741910323) + (iand .u64 (wr .u64 ((iand .u64 (ishr .u64 x0 1) 6148914691236517205) + (iand .u64 x0 6148914691236517205))) 3689348814741910323))) 4) + (wr .u64 ((iand .u64 (ishr .u64 (wr .u64 ((iand .u64 (ishr .u64 x0 1) 6148914691236517205) + (iand .u64 x0 6148914691236517205))) 2) 3689348814741910323) + (iand .u64 (wr .u64 ((iand .u64 (ishr .u64 x0 1) 6148914691236517205) + (iand .u64 x0 6148914691236517205))) 3689348814741910323))))) 1085102592571150095) + (ishr .u64 (iand .u64 (wr .u64 ((ishr .u64 (wr .u64 ((iand .u64 (ishr .u64 (wr .u64 ((iand .u64 (ishr .u64 x0 1) 6148914691236517205) + (iand .u64 x0 6148914691236517205))) 2) 3689348814741910323) + (iand .u64 (wr .u64 ((iand .u64 (ishr .u64 x0 1) 6148914691236517205) + (iand .u64 x0 6148914691236517205))) 3689348814741910323))) 4) + (wr .u64 ((iand .u64 (ishr .u64 (wr .u64 ((iand .u64 (ishr .u64 x0 1) 6148914691236517205) + (iand .u64 x0 6148914691236517205))) 2) 3689348814741910323) + (iand .u64 (wr .u64 ((iand .u64 (ishr .u64 x0 1) 6148914691236517205) + (iand .u64 x0 6148914691236517205))) 3689348814741910323))))) 1085102592571150095) 8)))), (20, .u (iand .u64 (wr .u64 ((ishr .u64 (wr .u64 ((iand .u64 (ishr .u64 (wr .u64 ((iand .u64 (ishr .u64 x0 1) 6148914691236517205) + (iand .u64 x0 6148914691236517205))) 2) 3689348814741910323) + (iand .u64 (wr .u64 ((iand .u64 (ishr .u64 x0 1) 6148914691236517205) + (iand .u64 x0 6148914691236517205))) 3689348814741910323))) 4) + (wr .u64 ((iand .u64 (ishr .u64 (wr .u64 ((iand .u64 (ishr .u64 x0 1) 6148914691236517205) + (iand .u64 x0 6148914691236517205))) 2) 3689348814741910323) + (iand .u64 (wr .u64 ((iand .u64 (ishr .u64 x0 1) 6148914691236517205) + (iand .u64 x0 6148914691236517205))) 3689348814741910323))))) 1085102592571150095)), (21, .u (iand .u64 (wr .u64 ((ishr .u64 (wr .u64 ((iand .u64 (ishr .u64 (wr .u64 ((iand .u64 (ishr .u64 x0 1) 6148914691236517205) + (iand .u64 x0 6148914691236517205))) 2) 3689348814741910323) + (iand .u64 (wr .u64 ((iand .u64 (ishr .u64 x0 1) 6148914691236517205) + (iand .u64 x0 6148914691236517205))) 3689348814741910323))) 4) + (wr .u64 ((iand .u64 (ishr .u64 (wr .u64 ((iand .u64 (ishr .u64 x0 1) 6148914691236517205) + (iand .u64 x0 6148914691236517205))) 2) 3689348814741910323) + (iand .u64 (wr .u64 ((iand .u64 (ishr .u64 x0 1) 6148914691236517205) + (iand .u64 x0 6148914691236517205))) 3689348814741910323))))) 1085102592571150095)), (22, .u (ishr .u64 (iand .u64 (wr .u64 ((ishr .u64 (wr .u64 ((iand .u64 (ishr .u64 (wr .u64 ((iand .u64 (ishr .u64 x0 1) 6148914691236517205) + (iand .u64 x0 6148914691236517205))) 2) 3689348814741910323) + (iand .u64 (wr .u64 ((iand .u64 (ishr .u64 x0 1) 6148914691236517205) + (iand .u64 x0 6148914691236517205))) 3689348814741910323))) 4) + (wr .u64 ((iand .u64 (ishr .u64 (wr .u64 ((iand .u64 (ishr .u64 x0 1) 6148914691236517205) + (iand .u64 x0 6148914691236517205))) 2) 3689348814741910323) + (iand .u64 (wr .u64 ((iand .u64 (ishr .u64 x0 1) 6148914691236517205) + (iand .u64 x0 6148914691236517205))) 3689348814741910323))))) 1085102592571150095) 8)), (23, .u (wr .u64 ((iand .u64 (wr .u64 ((ishr .u64 (wr .u64 ((iand .u64 (ishr .u64 (wr .u64 ((iand .u64 (ishr .u64 x0 1) 6148914691236517205) + (iand .u64 x0 6148914691236517205))) 2) 3689348814741910323) + (iand .u64 (wr .u64 ((iand .u64 (ishr .u64 x0 1) 6148914691236517205) + (iand .u64 x0 6148914691236517205))) 3689348814741910323))) 4) + (wr .u64 ((iand .u64 (ishr .u64 (wr .u64 ((iand .u64 (ishr .u64 x0 1) 6148914691236517205) + (iand .u64 x0 6148914691236517205))) 2) 3689348814741910323) + (iand .u64 (wr .u64 ((iand .u64 (ishr .u64 x0 1) 6148914691236517205) + (iand .u64 x0 6148914691236517205))) 3689348814741910323))))) 1085102592571150095) + (ishr .u64 (iand .u64 (wr .u64 ((ishr .u64 (wr .u64 ((iand .u64 (ishr .u64 (wr .u64 ((iand .u64 (ishr .u64 x0 1) 6148914691236517205) + (iand .u64 x0 6148914691236517205))) 2) 3689348814741910323) + (iand .u64 (wr .u64 ((iand .u64 (ishr .u64 x0 1) 6148914691236517205) + (iand .u64 x0 6148914691236517205))) 3689348814741910323))) 4) + (wr .u64 ((iand .u64 (ishr .u64 (wr .u64 ((iand .u64 (ishr .u64 x0 1) 6148914691236517205) + (iand .u64 x0 6148914691236517205))) 2) 3689348814741910323) + (iand .u64 (wr .u64 ((iand .u64 (ishr .u64 x0 1) 6148914691236517205) + (iand .u64 x0 6148914691236517205))) 3689348814741910323))))) 1085102592571150095) 8))))] Jjn ?_
 refine Goes.rn 14 [(24, .u (wr .u64 ((iand .u64 (wr .u64 ((ishr .u64 (wr .u64 ((iand .u64 (ishr .u64 (wr .u64 ((iand .u64 (ishr .u64 x0 1) 6148914691236517205) + (iand .u64 x0 6148914691236517205))) 2) 3689348814741910323) + (iand .u64 (wr .u64 ((iand .u64 (ishr .u64 x0 1) 6148914691236517205) + (iand .u64 x0 6148914691236517205))) 3689348814741910323))) 4) + (wr .u64 ((iand .u64 (ishr .u64 (wr .u64 ((iand .u64 (ishr .u64 x0 1) 6148914691236517205) + (iand .u64 x0 6148914691236517205))) 2) 3689348814741910323) + (iand .u64 (wr .u64 ((iand .u64 (ishr .u64 x0 1) 6148914691236517205) + (iand .u64 x0 6148914691236517205))) 3689348814741910323))))) 1085102592571150095) + (ishr .u64 (iand .u64 (wr .u64 ((ishr .u64 (wr .u64 ((iand .u64 (ishr .u64 (wr .u64 ((iand .u64 (ishr .u64 x0 1) 6148914691236517205) + (iand .u64 x0 6148914691236517205))) 2) 3689348814741910323) + (iand .u64 (wr .u64 ((iand .u64 (ishr .u64 x0 1) 6148914691236517205) + (iand .u64 x0 6148914691236517205))) 3689348814741910323))) 4) + (wr .u64 ((iand .u64 (ishr .u64 (wr .u64 ((iand .u64 (ishr .u64 x0 1) 6148914691236517205) + (iand .u64 x0 6148914691236517205))) 2) 3689348814741910323) + (iand .u64 (wr .u64 ((iand .u64 (ishr .u64 x0 1) 6148914691236517205) + (iand .u64 x0 6148914691236517205))) 3689348814741910323))))) 1085102592571150095) 8)))), (25, .u (wr .u64 ((iand .u64 (wr .u64 ((ishr .u64 (wr .u64 ((iand .u64 (ishr .u64 (wr .u64 ((iand .u64 (ishr .u64 x0 1) 6148914691236517205) + (iand .u64 x0 6148914691236517205))) 2) 3689348814741910323) + (iand .u64 (wr .u64 ((iand .u64 (ishr .u64 x0 1) 6148914691236517205) + (iand .u64 x0 6148914691236517205))) 3689348814741910323))) 4) + (wr .u64 ((iand .u64 (ishr .u64 (wr .u64 ((iand .u64 (ishr .u64 x0 1) 6148914691236517205) + (iand .u64 x0 6148914691236517205))) 2) 3689348814741910323) + (iand .u64 (wr .u64 ((iand .u64 (ishr .u64 x0 1) 6148914691236517205) + (iand .u64 x0 6148914691236517205))) 3689348814741910323))))) 1085102592571150095) + (ishr .u64 (iand .u64 (wr .u64 ((ishr .u64 (wr .u64 ((iand .u64 (ishr .u64 (wr .u64 ((iand .u64 (ishr .u64 x0 1) 6148914691236517205) + (iand .u64 x0 6148914691236517205))) 2) 3689348814741910323) + (iand .u64 (wr .u64 ((iand .u64 (ishr .u64 x0 1) 6148914691236517205) + (iand .u64 x0 6148914691236517205))) 3689348814741910323))) 4) + (wr .u64 ((iand .u64 (ishr .u64 (wr .u64 ((iand .u64 (ishr .u64 x0 1) 6148914691236517205) + (iand .u64 x0 6148914691236517205))) 2) 3689348814741910323) + (iand .u64 (wr .u64 ((iand .u64 (ishr .u64 x0 1) 6148914691236517205) + (iand .u64 x0 6148914691236517205))) 3689348814741910323))))) 1085102592571150095) 8)))), (26, .u (ishr .u64 (wr .u64 ((iand .u64 (wr .u64 ((ishr .u64 (wr .u64 ((iand .u64 (ishr .u64 (wr .u64 ((iand .u64 (ishr .u64 x0 1) 6148914691236517205) + (iand .u64 x0 6148914691236517205))) 2) 3689348814741910323) + (iand .u64 (wr .u64 ((iand .u64 (ishr .u64 x0 1) 6148914691236517205) + (iand .u64 x0 6148914691236517205))) 3689348814741910323))) 4) + (wr .u64 ((iand .u64 (ishr .u64 (wr .u64 ((iand .u64 (ishr .u64 x0 1) 6148914691236517205) + (iand .u64 x0 6148914691236517205))) 2) 3689348814741910323) + (iand .u64 (wr .u64 ((iand .u64 (ishr .u64 x0 1) 6148914691236517205) + (iand .u64 x0 6148914691236517205))) 3689348814741910323))))) 1085102592571150095) + (ishr .u64 (iand .u64 (wr .u64 ((ishr .u64 (wr .u64 ((iand .u64 (ishr .u64 (wr .u64 ((iand .u64 (ishr .u64 x0 1) 6148914691236517205) + (iand .u64 x0 6148914691236517205))) 2) 3689348814741910323) + (iand .u64 (wr .u64 ((iand .u64 (ishr .u64 x0 1) 6148914691236517205) + (iand .u64 x0 6148914691236517205))) 3689348814741910323))) 4) + (wr .u64 ((iand .u64 (ishr .u64 (wr .u64 ((iand .u64 (ishr .u64 x0 1) 6148914691236517205) + (iand .u64 x0 6148914691236517205))) 2) 3689348814741910323) + (iand .u64 (wr .u64 ((iand .u64 (ishr .u64 x0 1) 6148914691236517205) + (iand .u64 x0 6148914691236517205))) 3689348814741910323))))) 1085102592571150095) 8))) 16)), (27, .u (wr .u64 ((wr .u64 ((iand .u64 (wr .u64 ((ishr .u64 (wr .u64 ((iand .u64 (ishr .u64 (wr .u64 ((iand .u64 (ishr .u64 x0 1) 6148914691236517205) + (iand .u64 x0 6148914691236517205))) 2) 3689348814741910323) + (iand .u64 (wr .u64 ((iand .u64 (ishr .u64 x0 1) 6148914691236517205) + (iand .u64 x0 6148914691236517205))) 3689348814741910323))) 4) + (wr .u64 ((iand .u64 (ishr .u64 (wr .u64 ((iand .u64 (ishr .u64 x0 1) 6148914691236517205) + (iand .u64 x0 6148914691236517205))) 2) 3689348814741910323) + (iand .u64 (wr .u64 ((iand .u64 (ishr .u64 x0 1) 6148914691236517205) + (iand .u64 x0 6148914691236517205))) 3689348814741910323))))) 1085102592571150095) + (ishr .u64 (iand .u64 (wr .u64 ((ishr .u64 (wr .u64 ((iand .u64 (ishr .u64 (wr .u64 ((iand .u64 (ishr .u64 x0 1) 6148914691236517205) + (iand .u64 x0 6148914691236517205))) 2) 3689348814741910323) + (iand .u64 (wr .u64 ((iand .u64 (ishr .u64 x0 1) 6148914691236517205) + (iand .u64 x0 6148914691236517205))) 3689348814741910323))) 4) + (wr .u64 ((iand .u64 (ishr .u64 (wr .u64 ((iand .u64 (ishr .u64 x0 1) 6148914691236517205) + (iand .u64 x0 6148914691236517205))) 2) 3689348814741910323) + (iand .u64 (wr .u64 ((iand .u64 (ishr .u64 x0 1) 6148914691236517205) + (iand .u64 x0 6148914691236517205))) 3689348814741910323))))) 1085102592571150095) 8))) + (ishr .u64 (wr .u64 ((iand .u64 (wr .u64 ((ishr .u64 (wr .u64 ((iand .u64 (ishr .u64 (wr .u64 ((iand .u64 (ishr .u64 x0 1) 6148914691236517205) + (iand .u64 x0 6148914691236517205))) 2) 3689348814741910323) + (iand .u64 (wr .u64 ((iand .u64 (ishr .u64 x0 1) 6148914691236517205) + (iand .u64 x0 6148914691236517205))) 3689348814741910323))) 4) + (wr .u64 ((iand .u64 (ishr .u64 (wr .u64 ((iand .u64 (ishr .u64 x0 1) 6148914691236517205) + (iand .u64 x0 6148914691236517205))) 2) 3689348814741910323) + (iand .u64 (wr .u64 ((iand .u64 (ishr .u64 x0 1) 6148914691236517205) + (iand .u64 x0 6148914691236517205))) 3689348814741910323))))) 1085102592571150095) + (ishr .u64 (iand .u64 (wr .u64 ((ishr .u64 (wr .u64 ((iand .u64 (ishr .u64 (wr .u64 ((iand .u64 (ishr .u64 x0 1) 6148914691236517205) + (iand .u64 x0 6148914691236517205))) 2) 3689348814741910323) + (iand .u64 (wr .u64 ((iand .u64 (ishr .u64 x0 1) 6148914691236517205) + (iand .u64 x0 6148914691236517205))) 3689348814741910323))) 4) + (wr .u64 ((iand .u64 (ishr .u64 (wr .u64 ((iand .u64 (ishr .u64 x0 1) 6148914691236517205) + (iand .u64 x0 6148914691236517205))) 2) 3689348814741910323) + (iand .u64 (wr .u64 ((iand .u64 (ishr .u64 x0 1) 6148914691236517205) + (iand .u64 x0 6148914691236517205))) 3689348814741910323))))) 1085102592571150095) 8))) 16)))), (0, .u (wr .u64 ((wr .u64 ((wr .u64 ((iand .u64 (wr .u64 ((ishr .u64 (wr .u64 ((iand .u64 (ishr .u64 (wr .u64 ((iand .u64 (ishr .u64 x0 1) 6148914691236517205) + (iand .u64 x0 6148914691236517205))) 2) 3689348814741910323) + (iand .u64 (wr .u64 ((iand .u64 (ishr .u64 x0 1) 6148914691236517205) + (iand .u64 x0 6148914691236517205))) 3689348814741910323))) 4) + (wr .u64 ((iand .u64 (ishr .u64 (wr .u64 ((iand .u64 (ishr .u64 x0 1) 6148914691236517205) + (iand .u64 x0 6148914691236517205))) 2) 3689348814741910323) + (iand .u64 (wr .u64 ((iand .u64 (ishr .u64 x0 1) 6148914691236517205) + (iand .u64 x0 6148914691236517205))) 3689348814741910323))))) 1085102592571150095) + (ishr .u64 (iand .u64 (wr .u64 ((ishr .u64 (wr .u64 ((iand .u64 (ishr .u64 (wr .u64 ((iand .u64 (ishr .u64 x0 1) 6148914691236517205) + (iand .u64 x0 6148914691236517205))) 2) 3689348814741910323) + (iand .u64 (wr .u64 ((iand .u64 (ishr .u64 x0 1) 6148914691236517205) + (iand .u64 x0 6148914691236517205))) 3689348814741910323))) 4) + (wr .u64 ((iand .u64 (ishr .u64 (wr .u64 ((iand .u64 (ishr .u64 x0 1) 6148914691236517205) + (iand .u64 x0 6148914691236517205))) 2) 3689348814741910323) + (iand .u64 (wr .u64 ((iand .u64 (ishr .u64 x0 1) 6148914691236517205) + (iand .u64 x0 6148914691236517205))) 3689348814741910323))))) 1085102592571150095) 8))) + (ishr .u64 (wr .u64 ((iand .u64 (wr .u64 ((ishr .u64 (wr .u64 ((iand .u64 (ishr .u64 (wr .u64 ((iand .u64 (ishr .u64 x0 1) 6148914691236517205) + (iand .u64 x0 6148914691236517205))) 2) 3689348814741910323) + (iand .u64 (wr .u64 ((iand .u64 (ishr .u64 x0 1) 6148914691236517205) + (iand .u64 x0 6148914691236517205))) 3689348814741910323))) 4) + (wr .u64 ((iand .u64 (ishr .u64 (wr .u64 ((iand .u64 (ishr .u64 x0 1) 6148914691236517205) + (iand .u64 x0 6148914691236517205))) 2) 3689348814741910323) + (iand .u64 (wr .u64 ((iand .u64 (ishr .u64 x0 1) 6148914691236517205) + (iand .u64 x0 6148914691236517205))) 3689348814741910323))))) 1085102592571150095) + (ishr .u64 (iand .u64 (wr .u64 ((ishr .u64 (wr .u64 ((iand .u64 (ishr .u64 (wr .u64 ((iand .u64 (ishr .u64 x0 1) 6148914691236517205) + (iand .u64 x0 6148914691236517205))) 2) 3689348814741910323) + (iand .u64 (wr .u64 ((iand .u64 (ishr .u64 x0 1) 6148914691236517205) + (iand .u64 x0 6148914691236517205))) 3689348814741910323))) 4) + (wr .u64 ((iand .u64 (ishr .u64 (wr .u64 ((iand .u64 (ishr .u64 x0 1) 6148914691236517205) + (iand .u64 x0 6148914691236517205))) 2) 3689348814741910323) + (iand .u64 (wr .u64 ((iand .u64 (ishr .u64 x0 1) 6148914691236517205) + (iand .u64 x0 6148914691236517205))) 3689348814741910323))))) 1085102592571150095) 8))) 16))) + (ishr .u64 (wr .u64 ((wr .u64 ((iand .u64 (wr .u64 ((ishr .u64 (wr .u64 ((iand .u64 (ishr .u64 (wr .u64 ((iand .u64 (ishr .u64 x0 1) 6148914691236517205) + (iand .u64 x0 6148914691236517205))) 2) 3689348814741910323) + (iand .u64 (wr .u64 ((iand .u64 (ishr .u64 x0 1) 6148914691236517205) + (iand .u64 x0 6148914691236517205))) 3689348814741910323))) 4) + (wr .u64 ((iand .u64 (ishr .u64 (wr .u64 ((iand .u64 (ishr .u64 x0 1) 6148914691236517205) + (iand .u64 x0 6148914691236517205))) 2) 3689348814741910323) + (iand .u64 (wr .u64 ((iand .u64 (ishr .u64 x0 1) 6148914691236517205) + (iand .u64 x0 6148914691236517205))) 3689348814741910323))))) 1085102592571150095) + (ishr .u64 (iand .u64 (wr .u64 ((ishr .u64 (wr .u64 ((iand .u64 (ishr .u64 (wr .u64 ((iand .u64 (ishr .u64 x0 1) 6148914691236517205) + (iand .u64 x0 6148914691236517205))) 2) 3689348814741910323) + (iand .u64 (wr .u64 ((iand .u64 (ishr .u64 x0 1) 6148914691236517205) + (iand .u64 x0 6148914691236517205))) 3689348814741910323))) 4) + (wr .u64 ((iand .u64 (ishr .u64 (wr .u64 ((iand .u64 (ishr .u64 x0 1) 6148914691236517205) + (iand .u64 x0 6148914691236517205))) 2) 3689348814741910323) + (iand .u64 (wr .u64 ((iand .u64 (ishr .u64 x0 1) 6148914691236517205) + (iand .u64 x0 6148914691236517205))) 3689348814741910323))))) 1085102592571150095) 8))) + (ishr .u64 (wr .u64 ((iand .u64 (wr .u64 ((ishr .u64 (wr .u64 ((iand .u64 (ishr .u64 (wr .u64 ((iand .u64 (ishr .u64 x0 1) 6148914691236517205) + (iand .u64 x0 6148914691236517205))) 2) 3689348814741910323) + (iand .u64 (wr .u64 ((iand .u64 (ishr .u64 x0 1) 6148914691236517205) + (iand .u64 x0 6148914691236517205))) 3689348814741910323))) 4) + (wr .u64 ((iand .u64 (ishr .u64 (wr .u64 ((iand .u64 (ishr .u64 x0 1) 6148914691236517205) + (iand .u64 x0 6148914691236517205))) 2) 3689348814741910323) + (iand .u64 (wr .u64 ((iand .u64 (ishr .u64 x0 1) 6148914691236517205) + (iand .u64 x0 6148914691236517205))) 3689348814741910323))))) 1085102592571150095) + (ishr .u64 (iand .u64 (wr .u64 ((ishr .u64 (wr .u64 ((iand .u64 (ishr .u64 (wr .u64 ((iand .u64 (ishr .u64 x0 1) 6148914691236517205) + (iand .u64 x0 6148914691236517205))) 2) 3689348814741910323) + (iand .u64 (wr .u64 ((iand .u64 (ishr .u64 x0 1) 6148914691236517205) + (iand .u64 x0 6148914691236517205))) 3689348814741910323))) 4) + (wr .u64 ((iand .u64 (ishr .u64 (wr .u64 ((iand .u64 (ishr .u64 x0 1) 6148914691236517205) + (iand .u64 x0 6148914691236517205))) 2) 3689348814741910323) + (iand .u64 (wr .u64 ((iand .u64 (ishr .u64 x0 1) 6148914691236517205) + (iand .u64 x0 6148914691236517205))) 3689348814741910323))))) 1085102592571150095) 8))) 16))) 32)))), (28, .u (wr .u64 ((wr .u64 ((iand .u64 (wr .u64 ((ishr .u64 (wr .u64 ((iand .u64 (ishr .u64 (wr .u64 ((iand .u64 (ishr .u64 x0 1) 6148914691236517205) + (iand .u64 x0 6148914691236517205))) 2) 3689348814741910323) + (iand .u64 (wr .u64 ((iand .u64 (ishr .u64 x0 1) 6148914691236517205) + (iand .u64 x0 6148914691236517205))) 3689348814741910323))) 4) + (wr .u64 ((iand .u64 (ishr .u64 (wr .u64 ((iand .u64 (ishr .u64 x0 1) 6148914691236517205) + (iand .u64 x0 6148914691236517205))) 2) 3689348814741910323) + (iand .u64 (wr .u64 ((iand .u64 (ishr .u64 x0 1) 6148914691236517205) + (iand .u64 x0 6148914691236517205))) 3689348814741910323))))) 1085102592571150095) + (ishr .u64 (iand .u64 (wr .u64 ((ishr .u64 (wr .u64 ((iand .u64 (ishr .u64 (wr .u64 ((iand .u64 (ishr .u64 x0 1) 6148914691236517205) + (iand .u64 x0 6148914691236517205))) 2) 3689348814741910323) + (iand .u64 (wr .u64 ((iand .u64 (ishr .u64 x0 1) 6148914691236517205) + (iand .u64 x0 6148914691236517205))) 3689348814741910323))) 4) + (wr .u64 ((iand .u64 (ishr .u64 (wr .u64 ((iand .u64 (ishr .u64 x0 1) 6148914691236517205) + (iand .u64 x0 6148914691236517205))) 2) 3689348814741910323) + (iand .u64 (wr .u64 ((iand .u64 (ishr .u64 x0 1) 6148914691236517205) + (iand .u64 x0 6148914691236517205))) 3689348814741910323))))) 1085102592571150095) 8))) + (ishr .u64 (wr .u64 ((iand .u64 (wr .u64 ((ishr .u64 (wr .u64 ((iand .u64 (ishr .u64 (wr .u64 ((iand .u64 (ishr .u64 x0 1) 6148914691236517205) + (iand .u64 x0 6148914691236517205))) 2) 3689348814741910323) + (iand .u64 (wr .u64 ((iand .u64 (ishr .u64 x0 1) 6148914691236517205) + (iand .u64 x0 6148914691236517205))) 3689348814741910323))) 4) + (wr .u64 ((iand .u64 (ishr .u64 (wr .u64 ((iand .u64 (ishr .u64 x0 1) 6148914691236517205) + (iand .u64 x0 6148914691236517205))) 2) 3689348814741910323) + (iand .u64 (wr .u64 ((iand .u64 (ishr .u64 x0 1) 6148914691236517205) + (iand .u64 x0 6148914691236517205))) 3689348814741910323))))) 1085102592571150095) + (ishr .u64 (iand .u64 (wr .u64 ((ishr .u64 (wr .u64 ((iand .u64 (ishr .u64 (wr .u64 ((iand .u64 (ishr .u64 x0 1) 6148914691236517205) + (iand .u64 x0 6148914691236517205))) 2) 3689348814741910323) + (iand .u64 (wr .u64 ((iand .u64 (ishr .u64 x0 1) 6148914691236517205) + (iand .u64 x0 6148914691236517205))) 3689348814741910323))) 4) + (wr .u64 ((iand .u64 (ishr .u64 (wr .u64 ((iand .u64 (ishr .u64 x0 1) 6148914691236517205) + (iand .u64 x0 6148914691236517205))) 2) 3689348814741910323) + (iand .u64 (wr .u64 ((iand .u64 (ishr .u64 x0 1) 6148914691236517205) + (iand .u64 x0 6148914691236517205))) 3689348814741910323))))) 1085102592571150095) 8))) 16)))), (29, .u (wr .u64 ((wr .u64 ((iand .u64 (wr .u64 ((ishr .u64 (wr .u64 ((iand .u64 (ishr .u64 (wr .u64 ((iand .u64 (ishr .u64 x0 1) 6148914691236517205) + (iand .u64 x0 6148914691236517205))) 2) 3689348814741910323) + (iand .u64 (wr .u64 ((iand .u64 (ishr .u64 x0 1) 6148914691236517205) + (iand .u64 x0 6148914691236517205))) 3689348814741910323))) 4) + (wr .u64 ((iand .u64 (ishr .u64 (wr .u64 ((iand .u64 (ishr .u64 x0 1) 6148914691236517205) + (iand .u64 x0 6148914691236517205))) 2) 3689348814741910323) + (iand .u64 (wr .u64 ((iand .u64 (ishr .u64 x0 1) 6148914691236517205) + (iand .u64 x0 6148914691236517205))) 3689348814741910323))))) 1085102592571150095) + (ishr .u64 (iand .u64 (wr .u64 ((ishr .u64 (wr .u64 ((iand .u64 (ishr .u64 (wr .u64 ((iand .u64 (ishr .u64 x0 1) 6148914691236517205) + (iand .u64 x0 6148914691236517205))) 2) 3689348814741910323) + (iand .u64 (wr .u64 ((iand .u64 (ishr .u64 x0 1) 6148914691236517205) + (iand .u64 x0 6148914691236517205))) 3689348814741910323))) 4) + (wr .u64 ((iand .u64 (ishr .u64 (wr .u64 ((iand .u64 (ishr .u64 x0 1) 6148914691236517205) + (iand .u64 x0 6148914691236517205))) 2) 3689348814741910323) + (iand .u64 (wr .u64 ((iand .u64 (ishr .u64 x0 1) 6148914691236517205) + (iand .u64 x0 6148914691236517205))) 3689348814741910323))))) 1085102592571150095) 8))) + (ishr .u64 (wr .u64 ((iand .u64 (wr .u64 ((ishr .u64 (wr .u64 ((iand .u64 (ishr .u64 (wr .u64 ((iand .u64 (ishr .u64 x0 1) 6148914691236517205) + (iand .u64 x0 6148914691236517205))) 2) 3689348814741910323) + (iand .u64 (wr .u64 ((iand .u64 (ishr .u64 x0 1) 6148914691236517205) + (iand .u64 x0 6148914691236517205))) 3689348814741910323))) 4) + (wr .u64 ((iand .u64 (ishr .u64 (wr .u64 ((iand .u64 (ishr .u64 x0 1) 6148914691236517205) + (iand .u64 x0 6148914691236517205))) 2) 3689348814741910323) + (iand .u64 (wr .u64 ((iand .u64 (ishr .u64 x0 1) 6148914691236517205) + (iand .u64 x0 6148914691236517205))) 3689348814741910323))))) 1085102592571150095) + (ishr .u64 (iand .u64 (wr .u64 ((ishr .u64 (wr .u64 ((iand .u64 (ishr .u64 (wr .u64 ((iand .u64 (ishr .u64 x0 1) 6148914691236517205) + (iand .u64 x0 6148914691236517205))) 2) 3689348814741910323) + (iand .u64 (wr .u64 ((iand .u64 (ishr .u64 x0 1) 6148914691236517205) + (iand .u64 x0 6148914691236517205))) 3689348814741910323))) 4) + (wr .u64 ((iand .u64 (ishr .u64 (wr .u64 ((iand .u64 (ishr .u64 x0 1) 6148914691236517205) + (iand .u64 x0 6148914691236517205))) 2) 3689348814741910323) + (iand .u64 (wr .u64 ((iand .u64 (ishr .u64 x0 1) 6148914691236517205) + (iand .u64 x0 6148914691236517205))) 3689348814741910323))))) 1085102592571150095) 8))) 16)))), (30, .u (ishr .u64 (wr .u64 ((wr .u64 ((iand .u64 (wr .u64 ((ishr .u64 (wr .u64 ((iand .u64 (ishr .u64 (wr .u64 ((iand .u64 (ishr .u64 x0 1) 6148914691236517205) + (iand .u64 x0 6148914691236517205))) 2) 3689348814741910323) + (iand .u64 (wr .u64 ((iand .u64 (ishr .u64 x0 1) 6148914691236517205) + (iand .u64 x0 6148914691236517205))) 3689348814741910323))) 4) + (wr .u64 ((iand .u64 (ishr .u64 (wr .u64 ((iand .u64 (ishr .u64 x0 1) 6148914691236517205) + (iand .u64 x0 6148914691236517205))) 2) 3689348814741910323) + (iand .u64 (wr .u64 ((iand .u64 (ishr .u64 x0 1) 6148914691236517205) + (iand .u64 x0 6148914691236517205))) 3689348814741910323))))) 1085102592571150095) + (ishr .u64 (iand .u64 (wr .u64 ((ishr .u64 (wr .u64 ((iand .u64 (ishr .u64 (wr .u64 ((iand .u64 (ishr .u64 x0 1) 6148914691236517205) + (iand .u64 x0 6148914691236517205))) 2) 3689348814741910323) + (iand .u64 (wr .u64 ((iand .u64 (ishr .u64 x0 1) 6148914691236517205) + (iand .u64 x0 6148914691236517205))) 3689348814741910323))) 4) + (wr .u64 ((iand .u64 (ishr .u64 (wr .u64 ((iand .u64 (ishr .u64 x0 1) 6148914691236517205) + (iand .u64 x0 6148914691236517205))) 2) 3689348814741910323) + (iand .u64 (wr .u64 ((iand .u64 (ishr .u64 x0 1) 6148914691236517205) + (iand .u64 x0 6148914691236517205))) 3689348814741910323))))) 1085102592571150095) 8))) + (ishr .u64 (wr .u64 ((iand .u64 (wr .u64 ((ishr .u64 (wr .u64 ((iand .u64 (ishr .u64 (wr .u64 ((iand .u64 (ishr .u64 x0 1) 6148914691236517205) + (iand .u64 x0 6148914691236517205))) 2) 3689348814741910323) + (iand .u64 (wr .u64 ((iand .u64 (ishr .u64 x0 1) 6148914691236517205) + (iand .u64 x0 6148914691236517205))) 3689348814741910323))) 4) + (wr .u64 ((iand .u64 (ishr .u64 (wr .u64 ((iand .u64 (ishr .u64 x0 1) 6148914691236517205) + (iand .u64 x0 6148914691236517205))) 2) 3689348814741910323) + (iand .u64 (wr .u64 ((iand .u64 (ishr .u64 x0 1) 6148914691236517205) + (iand .u64 x0 6148914691236517205))) 3689348814741910323))))) 1085102592571150095) + (ishr .u64 (iand .u64 (wr .u64 ((ishr .u64 (wr .u64 ((iand .u64 (ishr .u64 (wr .u64 ((iand .u64 (ishr .u64 x0 1) 6148914691236517205) + (iand .u64 x0 6148914691236517205))) 2) 3689348814741910323) + (iand .u64 (wr .u64 ((iand .u64 (ishr .u64 x0 1) 6148914691236517205) + (iand .u64 x0 6148914691236517205))) 3689348814741910323))) 4) + (wr .u64 ((iand .u64 (ishr .u64 (wr .u64 ((iand .u64 (ishr .u64 x0 1) 6148914691236517205) + (iand .u64 x0 6148914691236517205))) 2) 3689348814741910323) + (iand .u64 (wr .u64 ((iand .u64 (ishr .u64 x0 1) 6148914691236517205) + (iand .u64 x0 6148914691236517205))) 3689348814741910323))))) 1085102592571150095) 8))) 16))) 32)), (31, .u (wr .u64 ((wr .u64 ((wr .u64 ((iand .u64 (wr .u64 ((ishr .u64 (wr .u64 ((iand .u64 (ishr .u64 (wr .u64 ((iand .u64 (ishr .u64 x0 1) 6148914691236517205) + (iand .u64 x0 6148914691236517205))) 2) 3689348814741910323) + (iand .u64 (wr .u64 ((iand .u64 (ishr .u64 x0 1) 6148914691236517205) + (iand .u64 x0 6148914691236517205))) 3689348814741910323))) 4) + (wr .u64 ((iand .u64 (ishr .u64 (wr .u64 ((iand .u64 (ishr .u64 x0 1) 6148914691236517205) + (iand .u64 x0 6148914691236517205))) 2) 3689348814741910323) + (iand .u64 (wr .u64 ((iand .u64 (ishr .u64 x0 1) 6148914691236517205) + (iand .u64 x0 6148914691236517205))) 3689348814741910323))))) 1085102592571150095) + (ishr .u64 (iand .u64 (wr .u64 ((ishr .u64 (wr .u64 ((iand .u64 (ishr .u64 (wr .u64 ((iand .u64 (ishr .u64 x0 1) 6148914691236517205) + (iand .u64 x0 6148914691236517205))) 2) 3689348814741910323) + (iand .u64 (wr .u64 ((iand .u64 (ishr .u64 x0 1) 6148914691236517205) + (iand .u64 x0 6148914691236517205))) 3689348814741910323))) 4) + (wr .u64 ((iand .u64 (ishr .u64 (wr .u64 ((iand .u64 (ishr .u64 x0 1) 6148914691236517205) + (iand .u64 x0 6148914691236517205))) 2) 3689348814741910323) + (iand .u64 (wr .u64 ((iand .u64 (ishr .u64 x0 1) 6148914691236517205) + (iand .u64 x0 6148914691236517205))) 3689348814741910323))))) 1085102592571150095) 8))) + (ishr .u64 (wr .u64 ((iand .u64 (wr .u64 ((ishr .u64 (wr .u64 ((iand .u64 (ishr .u64 (wr .u64 ((iand .u64 (ishr .u64 x0 1) 6148914691236517205) + (iand .u64 x0 6148914691236517205))) 2) 3689348814741910323) + (iand .u64 (wr .u64 ((iand .u64 (ishr .u64 x0 1) 6148914691236517205) + (iand .u64 x0 6148914691236517205))) 3689348814741910323))) 4) + (wr .u64 ((iand .u64 (ishr .u64 (wr .u64 ((iand .u64 (ishr .u64 x0 1) 6148914691236517205) + (iand .u64 x0 6148914691236517205))) 2) 3689348814741910323) + (iand .u64 (wr .u64 ((iand .u64 (ishr .u64 x0 1) 6148914691236517205) + (iand .u64 x0 6148914691236517205))) 3689348814741910323))))) 1085102592571150095) + (ishr .u64 (iand .u64 (wr .u64 ((ishr .u64 (wr .u64 ((iand .u64 (ishr .u64 (wr .u64 ((iand .u64 (ishr .u64 x0 1) 6148914691236517205) + (iand .u64 x0 6148914691236517205))) 2) 3689348814741910323) + (iand .u64 (wr .u64 ((iand .u64 (ishr .u64 x0 1) 6148914691236517205) + (iand .u64 x0 6148914691236517205))) 3689348814741910323))) 4) + (wr .u64 ((iand .u64 (ishr .u64 (wr .u64 ((iand .u64 (ishr .u64 x0 1) 6148914691236517205) + (iand .u64 x0 6148914691236517205))) 2) 3689348814741910323) + (iand .u64 (wr .u64 ((iand .u64 (ishr .u64 x0 1) 6148914691236517205) + (iand .u64 x0 6148914691236517205))) 3689348814741910323))))) 1085102592571150095) 8))) 16))) + (ishr .u64 (wr .u64 ((wr .u64 ((iand .u64 (wr .u64 ((ishr .u64 (wr .u64 ((iand .u64 (ishr .u64 (wr .u64 ((iand .u64 (ishr .u64 x0 1) 6148914691236517205) + (iand .u64 x0 6148914691236517205))) 2) 3689348814741910323) + (iand .u64 (wr .u64 ((iand .u64 (ishr .u64 x0 1) 6148914691236517205) + (iand .u64 x0 6148914691236517205))) 3689348814741910323))) 4) + (wr .u64 ((iand .u64 (ishr .u64 (wr .u64 ((iand .u64 (ishr .u64 x0 1) 6148914691236517205) + (iand .u64 x0 6148914691236517205))) 2) 3689348814741910323) + (iand .u64 (wr .u64 ((iand .u64 (ishr .u64 x0 1) 6148914691236517205) + (iand .u64 x0 6148914691236517205))) 3689348814741910323))))) 1085102592571150095) + (ishr .u64 (iand .u64 (wr .u64 ((ishr .u64 (wr .u64 ((iand .u64 (ishr .u64 (wr .u64 ((iand .u64 (ishr .u64 x0 1) 6148914691236517205) + (iand .u64 x0 6148914691236517205))) 2) 3689348814741910323) + (iand .u64 (wr .u64 ((iand .u64 (ishr .u64 x0 1) 6148914691236517205) + (iand .u64 x0 6148914691236517205))) 3689348814741910323))) 4) + (wr .u64 ((iand .u64 (ishr .u64 (wr .u64 ((iand .u64 (ishr .u64 x0 1) 6148914691236517205) + (iand .u64 x0 6148914691236517205))) 2) 3689348814741910323) + (iand .u64 (wr .u64 ((iand .u64 (ishr .u64 x0 1) 6148914691236517205) + (iand .u64 x0 6148914691236517205))) 3689348814741910323))))) 1085102592571150095) 8))) + (ishr .u64 (wr .u64 ((iand .u64 (wr .u64 ((ishr .u64 (wr .u64 ((iand .u64 (ishr .u64 (wr .u64 ((iand .u64 (ishr .u64 x0 1) 6148914691236517205) + (iand .u64 x0 6148914691236517205))) 2) 3689348814741910323) + (iand .u64 (wr .u64 ((iand .u64 (ishr .u64 x0 1) 6148914691236517205) + (iand .u64 x0 6148914691236517205))) 3689348814741910323))) 4) + (wr .u64 ((iand .u64 (ishr .u64 (wr .u64 ((iand .u64 (ishr .u64 x0 1) 6148914691236517205) + (iand .u64 x0 6148914691236517205))) 2) 3689348814741910323) + (iand .u64 (wr .u64 ((iand .u64 (ishr .u64 x0 1) 6148914691236517205) + (iand .u64 x0 6148914691236517205))) 3689348814741910323))))) 1085102592571150095) + (ishr .u64 (iand .u64 (wr .u64 ((ishr .u64 (wr .u64 ((iand .u64 (ishr .u64 (wr .u64 ((iand .u64 (ishr .u64 x0 1) 6148914691236517205) + (iand .u64 x0 6148914691236517205))) 2) 3689348814741910323) + (iand .u64 (wr .u64 ((iand .u64 (ishr .u64 x0 1) 6148914691236517205) + (iand .u64 x0 6148914691236517205))) 3689348814741910323))) 4) + (wr .u64 ((iand .u64 (ishr .u64 (wr .u64 ((iand .u64 (ishr .u64 x0 1) 6148914691236517205) + (iand .u64 x0 6148914691236517205))) 2) 3689348814741910323) + (iand .u64 (wr .u64 ((iand .u64 (ishr .u64 x0 1) 6148914691236517205) + (iand .u64 x0 6148914691236517205))) 3689348814741910323))))) 1085102592571150095) 8))) 16))) 32))))] Jjp ?_
 refine Goes.rn 8 [(32, .u (wr .u64 ((wr .u64 ((wr .u64 ((iand .u64 (wr .u64 ((ishr .u64 (wr .u64 ((iand .u64 (ishr .u64 (wr .u64 ((iand .u64 (ishr .u64 x0 1) 6148914691236517205) + (iand .u64 x0 6148914691236517205))) 2) 3689348814741910323) + (iand .u64 (wr .u64 ((iand .u64 (ishr .u64 x0 1) 6148914691236517205) + (iand .u64 x0 6148914691236517205))) 3689348814741910323))) 4) + (wr .u64 ((iand .u64 (ishr .u64 (wr .u64 ((iand .u64 (ishr .u64 x0 1) 6148914691236517205) + (iand .u64 x0 6148914691236517205))) 2) 3689348814741910323) + (iand .u64 (wr .u64 ((iand .u64 (ishr .u64 x0 1) 6148914691236517205) + (iand .u64 x0 6148914691236517205))) 3689348814741910323))))) 1085102592571150095) + (ishr .u64 (iand .u64 (wr .u64 ((ishr .u64 (wr .u64 ((iand .u64 (ishr .u64 (wr .u64 ((iand .u64 (ishr .u64 x0 1) 6148914691236517205) + (iand .u64 x0 6148914691236517205))) 2) 3689348814741910323) + (iand .u64 (wr .u64 ((iand .u64 (ishr .u64 x0 1) 6148914691236517205) + (iand .u64 x0 6148914691236517205))) 3689348814741910323))) 4) + (wr .u64 ((iand .u64 (ishr .u64 (wr .u64 ((iand .u64 (ishr .u64 x0 1) 6148914691236517205) + (iand .u64 x0 6148914691236517205))) 2) 3689348814741910323) + (iand .u64 (wr .u64 ((iand .u64 (ishr .u64 x0 1) 6148914691236517205) + (iand .u64 x0 6148914691236517205))) 3689348814741910323))))) 1085102592571150095) 8))) + (ishr .u64 (wr .u64 ((iand .u64 (wr .u64 ((ishr .u64 (wr .u64 ((iand .u64 (ishr .u64 (wr .u64 ((iand .u64 (ishr .u64 x0 1) 6148914691236517205) + (iand .u64 x0 6148914691236517205))) 2) 3689348814741910323) + (iand .u64 (wr .u64 ((iand .u64 (ishr .u64 x0 1) 6148914691236517205) + (iand .u64 x0 6148914691236517205))) 3689348814741910323))) 4) + (wr .u64 ((iand .u64 (ishr .u64 (wr .u64 ((iand .u64 (ishr .u64 x0 1) 6148914691236517205) + (iand .u64 x0 6148914691236517205))) 2) 3689348814741910323) + (iand .u64 (wr .u64 ((iand .u64 (ishr .u64 x0 1) 6148914691236517205) + (iand .u64 x0 6148914691236517205))) 3689348814741910323))))) 1085102592571150095) + (ishr .u64 (iand .u64 (wr .u64 ((ishr .u64 (wr .u64 ((iand .u64 (ishr .u64 (wr .u64 ((iand .u64 (ishr .u64 x0 1) 6148914691236517205) + (iand .u64 x0 6148914691236517205))) 2) 3689348814741910323) + (iand .u64 (wr .u64 ((iand .u64 (ishr .u64 x0 1) 6148914691236517205) + (iand .u64 x0 6148914691236517205))) 3689348814741910323))) 4) + (wr .u64 ((iand .u64 (ishr .u64 (wr .u64 ((iand .u64 (ishr .u64 x0 1) 6148914691236517205) + (iand .u64 x0 6148914691236517205))) 2) 3689348814741910323) + (iand .u64 (wr .u64 ((iand .u64 (ishr .u64 x0 1) 6148914691236517205) + (iand .u64 x0 6148914691236517205))) 3689348814741910323))))) 1085102592571150095) 8))) 16))) + (ishr .u64 (wr .u64 ((wr .u64 ((iand .u64 (wr .u64 ((ishr .u64 (wr .u64 ((iand .u64 (ishr .u64 (wr .u64 ((iand .u64 (ishr .u64 x0 1) 6148914691236517205) + (iand .u64 x0 6148914691236517205))) 2) 3689348814741910323) + (iand .u64 (wr .u64 ((iand .u64 (ishr .u64 x0 1) 6148914691236517205) + (iand .u64 x0 6148914691236517205))) 3689348814741910323))) 4) + (wr .u64 ((iand .u64 (ishr .u64 (wr .u64 ((iand .u64 (ishr .u64 x0 1) 6148914691236517205) + (iand .u64 x0 6148914691236517205))) 2) 3689348814741910323) + (iand .u64 (wr .u64 ((iand .u64 (ishr .u64 x0 1) 6148914691236517205) + (iand .u64 x0 6148914691236517205))) 3689348814741910323))))) 1085102592571150095) + (ishr .u64 (iand .u64 (wr .u64 ((ishr .u64 (wr .u64 ((iand .u64 (ishr .u64 (wr .u64 ((iand .u64 (ishr .u64 x0 1) 6148914691236517205) + (iand .u64 x0 6148914691236517205))) 2) 3689348814741910323) + (iand .u64 (wr .u64 ((iand .u64 (ishr .u64 x0 1) 6148914691236517205) + (iand .u64 x0 6148914691236517205))) 3689348814741910323))) 4) + (wr .u64 ((iand .u64 (ishr .u64 (wr .u64 ((iand .u64 (ishr .u64 x0 1) 6148914691236517205) + (iand .u64 x0 6148914691236517205))) 2) 3689348814741910323) + (iand .u64 (wr .u64 ((iand .u64 (ishr .u64 x0 1) 6148914691236517205) + (iand .u64 x0 6148914691236517205))) 3689348814741910323))))) 1085102592571150095) 8))) + (ishr .u64 (wr .u64 ((iand .u64 (wr .u64 ((ishr .u64 (wr .u64 ((iand .u64 (ishr .u64 (wr .u64 ((iand .u64 (ishr .u64 x0 1) 6148914691236517205) + (iand .u64 x0 6148914691236517205))) 2) 3689348814741910323) + (iand .u64 (wr .u64 ((iand .u64 (ishr .u64 x0 1) 6148914691236517205) + (iand .u64 x0 6148914691236517205))) 3689348814741910323))) 4) + (wr .u64 ((iand .u64 (ishr .u64 (wr .u64 ((iand .u64 (ishr .u64 x0 1) 6148914691236517205) + (iand .u64 x0 6148914691236517205))) 2) 3689348814741910323) + (iand .u64 (wr .u64 ((iand .u64 (ishr .u64 x0 1) 6148914691236517205) + (iand .u64 x0 6148914691236517205))) 3689348814741910323))))) 1085102592571150095) + (ishr .u64 (iand .u64 (wr .u64 ((ishr .u64 (wr .u64 ((iand .u64 (ishr .u64 (wr .u64 ((iand .u64 (ishr .u64 x0 1) 6148914691236517205) + (iand .u64 x0 6148914691236517205))) 2) 3689348814741910323) + (iand .u64 (wr .u64 ((iand .u64 (ishr .u64 x0 1) 6148914691236517205) + (iand .u64 x0 6148914691236517205))) 3689348814741910323))) 4) + (wr .u64 ((iand .u64 (ishr .u64 (wr .u64 ((iand .u64 (ishr .u64 x0 1) 6148914691236517205) + (iand .u64 x0 6148914691236517205))) 2) 3689348814741910323) + (iand .u64 (wr .u64 ((iand .u64 (ishr .u64 x0 1) 6148914691236517205) + (iand .u64 x0 6148914691236517205))) 3689348814741910323))))) 1085102592571150095) 8))) 16))) 32)))), (33, .i (wr .i64 (wr .u64 ((wr .u64 ((wr .u64 ((iand .u64 (wr .u64 ((ishr .u64 (wr .u64 ((iand .u64 (ishr .u64 (wr .u64 ((iand .u64 (ishr .u64 x0 1) 6148914691236517205) + (iand .u64 x0 6148914691236517205))) 2) 3689348814741910323) + (iand .u64 (wr .u64 ((iand .u64 (ishr .u64 x0 1) 6148914691236517205) + (iand .u64 x0 6148914691236517205))) 3689348814741910323))) 4) + (wr .u64 ((iand .u64 (ishr .u64 (wr .u64 ((iand .u64 (ishr .u64 x0 1) 6148914691236517205) + (iand .u64 x0 6148914691236517205))) 2) 3689348814741910323) + (iand .u64 (wr .u64 ((iand .u64 (ishr .u64 x0 1) 6148914691236517205) + (iand .u64 x0 6148914691236517205))) 3689348814741910323))))) 1085102592571150095) + (ishr .u64 (iand .u64 (wr .u64 ((ishr .u64 (wr .u64 ((iand .u64 (ishr .u64 (wr .u64 ((iand .u64 (ishr .u64 x0 1) 6148914691236517205) + (iand .u64 x0 6148914691236517205))) 2) 3689348814741910323) + (iand .u64 (wr .u64 ((iand .u64 (ishr .u64 x0 1) 6148914691236517205) + (iand .u64 x0 6148914691236517205))) 3689348814741910323))) 4) + (wr .u64 ((iand .u64 (ishr .u64 (wr .u64 ((iand .u64 (ishr .u64 x0 1) 6148914691236517205) + (iand .u64 x0 6148914691236517205))) 2) 3689348814741910323) + (iand .u64 (wr .u64 ((iand .u64 (ishr .u64 x0 1) 6148914691236517205) + (iand .u64 x0 6148914691236517205))) 3689348814741910323))))) 1085102592571150095) 8))) + (ishr .u64 (wr .u64 ((iand .u64 (wr .u64 ((ishr .u64 (wr .u64 ((iand .u64 (ishr .u64 (wr .u64 ((iand .u64 (ishr .u64 x0 1) 6148914691236517205) + (iand .u64 x0 6148914691236517205))) 2) 3689348814741910323) + (iand .u64 (wr .u64 ((iand .u64 (ishr .u64 x0 1) 6148914691236517205) + (iand .u64 x0 6148914691236517205))) 3689348814741910323))) 4) + (wr .u64 ((iand .u64 (ishr .u64 (wr .u64 ((iand .u64 (ishr .u64 x0 1) 6148914691236517205) + (iand .u64 x0 6148914691236517205))) 2) 3689348814741910323) + (iand .u64 (wr .u64 ((iand .u64 (ishr .u64 x0 1) 6148914691236517205) + (iand .u64 x0 6148914691236517205))) 3689348814741910323))))) 1085102592571150095) + (ishr .u64 (iand .u64 (wr .u64 ((ishr .u64 (wr .u64 ((iand .u64 (ishr .u64 (wr .u64 ((iand .u64 (ishr .u64 x0 1) 6148914691236517205) + (iand .u64 x0 6148914691236517205))) 2) 3689348814741910323) + (iand .u64 (wr .u64 ((iand .u64 (ishr .u64 x0 1) 6148914691236517205) + (iand .u64 x0 6148914691236517205))) 3689348814741910323))) 4) + (wr .u64 ((iand .u64 (ishr .u64 (wr .u64 ((iand .u64 (ishr .u64 x0 1) 6148914691236517205) + (iand .u64 x0 6148914691236517205))) 2) 3689348814741910323) + (iand .u64 (wr .u64 ((iand .u64 (ishr .u64 x0 1) 6148914691236517205) + (iand .u64 x0 6148914691236517205))) 3689348814741910323))))) 1085102592571150095) 8))) 16))) + (ishr .u64 (wr .u64 ((wr .u64 ((iand .u64 (wr .u64 ((ishr .u64 (wr .u64 ((iand .u64 (ishr .u64 (wr .u64 ((iand .u64 (ishr .u64 x0 1) 6148914691236517205) + (iand .u64 x0 6148914691236517205))) 2) 3689348814741910323) + (iand .u64 (wr .u64 ((iand .u64 (ishr .u64 x0 1) 6148914691236517205) + (iand .u64 x0 6148914691236517205))) 3689348814741910323))) 4) + (wr .u64 ((iand .u64 (ishr .u64 (wr .u64 ((iand .u64 (ishr .u64 x0 1) 6148914691236517205) + (iand .u64 x0 6148914691236517205))) 2) 3689348814741910323) + (iand .u64 (wr .u64 ((iand .u64 (ishr .u64 x0 1) 6148914691236517205) + (iand .u64 x0 6148914691236517205))) 3689348814741910323))))) 1085102592571150095) + (ishr .u64 (iand .u64 (wr .u64 ((ishr .u64 (wr .u64 ((iand .u64 (ishr .u64 (wr .u64 ((iand .u64 (ishr .u64 x0 1) 6148914691236517205) + (iand .u64 x0 6148914691236517205))) 2) 3689348814741910323) + (iand .u64 (wr .u64 ((iand .u64 (ishr .u64 x0 1) 6148914691236517205) + (iand .u64 x0 6148914691236517205))) 3689348814741910323))) 4) + (wr .u64 ((iand .u64 (ishr .u64 (wr .u64 ((iand .u64 (ishr .u64 x0 1) 6148914691236517205) + (iand .u64 x0 6148914691236517205))) 2) 3689348814741910323) + (iand .u64 (wr .u64 ((iand .u64 (ishr .u64 x0 1) 6148914691236517205) + (iand .u64 x0 6148914691236517205))) 3689348814741910323))))) 1085102592571150095) 8))) + (ishr .u64 (wr .u64 ((iand .u64 (wr .u64 ((ishr .u64 (wr .u64 ((iand .u64 (ishr .u64 (wr .u64 ((iand .u64 (ishr .u64 x0 1) 6148914691236517205) + (iand .u64 x0 6148914691236517205))) 2) 3689348814741910323) + (iand .u64 (wr .u64 ((iand .u64 (ishr .u64 x0 1) 6148914691236517205) + (iand .u64 x0 6148914691236517205))) 3689348814741910323))) 4) + (wr .u64 ((iand .u64 (ishr .u64 (wr .u64 ((iand .u64 (ishr .u64 x0 1) 6148914691236517205) + (iand .u64 x0 6148914691236517205))) 2) 3689348814741910323) + (iand .u64 (wr .u64 ((iand .u64 (ishr .u64 x0 1) 6148914691236517205) + (iand .u64 x0 6148914691236517205))) 3689348814741910323))))) 1085102592571150095) + (ishr .u64 (iand .u64 (wr .u64 ((ishr .u64 (wr .u64 ((iand .u64 (ishr .u64 (wr .u64 ((iand .u64 (ishr .u64 x0 1) 6148914691236517205) + (iand .u64 x0 6148914691236517205))) 2) 3689348814741910323) + (iand .u64 (wr .u64 ((iand .u64 (ishr .u64 x0 1) 6148914691236517205) + (iand .u64 x0 6148914691236517205))) 3689348814741910323))) 4) + (wr .u64 ((iand .u64 (ishr .u64 (wr .u64 ((iand .u64 (ishr .u64 x0 1) 6148914691236517205) + (iand .u64 x0 6148914691236517205))) 2) 3689348814741910323) + (iand .u64 (wr .u64 ((iand .u64 (ishr .u64 x0 1) 6148914691236517205) + (iand .u64 x0 6148914691236517205))) 3689348814741910323))))) 1085102592571150095) 8))) 16))) 32))))), (34, .i (iand .i64 (wr .i64 (wr .u64 ((wr .u64 ((wr .u64 ((iand .u64 (wr .u64 ((ishr .u64 (wr .u64 ((iand .u64 (ishr .u64 (wr .u64 ((iand .u64 (ishr .u64 x0 1) 6148914691236517205) + (iand .u64 x0 6148914691236517205))) 2) 3689348814741910323) + (iand .u64 (wr .u64 ((iand .u64 (ishr .u64 x0 1) 6148914691236517205) + (iand .u64 x0 6148914691236517205))) 3689348814741910323))) 4) + (wr .u64 ((iand .u64 (ishr .u64 (wr .u64 ((iand .u64 (ishr .u64 x0 1) 6148914691236517205) + (iand .u64 x0 6148914691236517205))) 2) 3689348814741910323) + (iand .u64 (wr .u64 ((iand .u64 (ishr .u64 x0 1) 6148914691236517205) + (iand .u64 x0 6148914691236517205))) 3689348814741910323))))) 1085102592571150095) + (ishr .u64 (iand .u64 (wr .u64 ((ishr .u64 (wr .u64 ((iand .u64 (ishr .u64 (wr .u64 ((iand .u64 (ishr .u64 x0 1) 6148914691236517205) + (iand .u64 x0 6148914691236517205))) 2) 3689348814741910323) + (iand .u64 (wr .u64 ((iand .u64 (ishr .u64 x0 1) 6148914691236517205) + (iand .u64 x0 6148914691236517205))) 3689348814741910323))) 4) + (wr .u64 ((iand .u64 (ishr .u64 (wr .u64 ((iand .u64 (ishr .u64 x0 1) 6148914691236517205) + (iand .u64 x0 6148914691236517205))) 2) 3689348814741910323) + (iand .u64 (wr .u64 ((iand .u64 (ishr .u64 x0 1) 6148914691236517205) + (iand .u64 x0 6148914691236517205))) 3689348814741910323))))) 1085102592571150095) 8))) + (ishr .u64 (wr .u64 ((iand .u64 (wr .u64 ((ishr .u64 (wr .u64 ((iand .u64 (ishr .u64 (wr .u64 ((iand .u64 (ishr .u64 x0 1) 6148914691236517205) + (iand .u64 x0 6148914691236517205))) 2) 3689348814741910323) + (iand .u64 (wr .u64 ((iand .u64 (ishr .u64 x0 1) 6148914691236517205) + (iand .u64 x0 6148914691236517205))) 3689348814741910323))) 4) + (wr .u64 ((iand .u64 (ishr .u64 (wr .u64 ((iand .u64 (ishr .u64 x0 1) 6148914691236517205) + (iand .u64 x0 6148914691236517205))) 2) 3689348814741910323) + (iand .u64 (wr .u64 ((iand .u64 (ishr .u64 x0 1) 6148914691236517205) + (iand .u64 x0 6148914691236517205))) 3689348814741910323))))) 1085102592571150095) + (ishr .u64 (iand .u64 (wr .u64 ((ishr .u64 (wr .u64 ((iand .u64 (ishr .u64 (wr .u64 ((iand .u64 (ishr .u64 x0 1) 6148914691236517205) + (iand .u64 x0 6148914691236517205))) 2) 3689348814741910323) + (iand .u64 (wr .u64 ((iand .u64 (ishr .u64 x0 1) 6148914691236517205) + (iand .u64 x0 6148914691236517205))) 3689348814741910323))) 4) + (wr .u64 ((iand .u64 (ishr .u64 (wr .u64 ((iand .u64 (ishr .u64 x0 1) 6148914691236517205) + (iand .u64 x0 6148914691236517205))) 2) 3689348814741910323) + (iand .u64 (wr .u64 ((iand .u64 (ishr .u64 x0 1) 6148914691236517205) + (iand .u64 x0 6148914691236517205))) 3689348814741910323))))) 1085102592571150095) 8))) 16))) + (ishr .u64 (wr .u64 ((wr .u64 ((iand .u64 (wr .u64 ((ishr .u64 (wr .u64 ((iand .u64 (ishr .u64 (wr .u64 ((iand .u64 (ishr .u64 x0 1) 6148914691236517205) + (iand .u64 x0 6148914691236517205))) 2) 3689348814741910323) + (iand .u64 (wr .u64 ((iand .u64 (ishr .u64 x0 1) 6148914691236517205) + (iand .u64 x0 6148914691236517205))) 3689348814741910323))) 4) + (wr .u64 ((iand .u64 (ishr .u64 (wr .u64 ((iand .u64 (ishr .u64 x0 1) 6148914691236517205) + (iand .u64 x0 6148914691236517205))) 2) 3689348814741910323) + (iand .u64 (wr .u64 ((iand .u64 (ishr .u64 x0 1) 6148914691236517205) + (iand .u64 x0 6148914691236517205))) 3689348814741910323))))) 1085102592571150095) + (ishr .u64 (iand .u64 (wr .u64 ((ishr .u64 (wr .u64 ((iand .u64 (ishr .u64 (wr .u64 ((iand .u64 (ishr .u64 x0 1) 6148914691236517205) + (iand .u64 x0 6148914691236517205))) 2) 3689348814741910323) + (iand .u64 (wr .u64 ((iand .u64 (ishr .u64 x0 1) 6148914691236517205) + (iand .u64 x0 6148914691236517205))) 3689348814741910323))) 4) + (wr .u64 ((iand .u64 (ishr .u64 (wr .u64 ((iand .u64 (ishr .u64 x0 1) 6148914691236517205) + (iand .u64 x0 6148914691236517205))) 2) 3689348814741910323) + (iand .u64 (wr .u64 ((iand .u64 (ishr .u64 x0 1) 6148914691236517205) + (iand .u64 x0 6148914691236517205))) 3689348814741910323))))) 1085102592571150095) 8))) + (ishr .u64 (wr .u64 ((iand .u64 (wr .u64 ((ishr .u64 (wr .u64 ((iand .u64 (ishr .u64 (wr .u64 ((iand .u64 (ishr .u64 x0 1) 6148914691236517205) + (iand .u64 x0 6148914691236517205))) 2) 3689348814741910323) + (iand .u64 (wr .u64 ((iand .u64 (ishr .u64 x0 1) 6148914691236517205) + (iand .u64 x0 6148914691236517205))) 3689348814741910323))) 4) + (wr .u64 ((iand .u64 (ishr .u64 (wr .u64 ((iand .u64 (ishr .u64 x0 1) 6148914691236517205) + (iand .u64 x0 6148914691236517205))) 2) 3689348814741910323) + (iand .u64 (wr .u64 ((iand .u64 (ishr .u64 x0 1) 6148914691236517205) + (iand .u64 x0 6148914691236517205))) 3689348814741910323))))) 1085102592571150095) + (ishr .u64 (iand .u64 (wr .u64 ((ishr .u64 (wr .u64 ((iand .u64 (ishr .u64 (wr .u64 ((iand .u64 (ishr .u64 x0 1) 6148914691236517205) + (iand .u64 x0 6148914691236517205))) 2) 3689348814741910323) + (iand .u64 (wr .u64 ((iand .u64 (ishr .u64 x0 1) 6148914691236517205) + (iand .u64 x0 6148914691236517205))) 3689348814741910323))) 4) + (wr .u64 ((iand .u64 (ishr .u64 (wr .u64 ((iand .u64 (ishr .u64 x0 1) 6148914691236517205) + (iand .u64 x0 6148914691236517205))) 2) 3689348814741910323) + (iand .u64 (wr .u64 ((iand .u64 (ishr .u64 x0 1) 6148914691236517205) + (iand .u64 x0 6148914691236517205))) 3689348814741910323))))) 1085102592571150095) 8))) 16))) 32)))) 127)), (2, .i (iand .i64 (wr .i64 (wr .u64 ((wr .u64 ((wr .u64 ((iand .u64 (wr .u64 ((ishr .u64 (wr .u64 ((iand .u64 (ishr .u64 (wr .u64 ((iand .u64 (ishr .u64 x0 1) 6148914691236517205) + (iand .u64 x0 6148914691236517205))) 2) 3689348814741910323) + (iand .u64 (wr .u64 ((iand .u64 (ishr .u64 x0 1) 6148914691236517205) + (iand .u64 x0 6148914691236517205))) 3689348814741910323))) 4) + (wr .u64 ((iand .u64 (ishr .u64 (wr .u64 ((iand .u64 (ishr .u64 x0 1) 6148914691236517205) + (iand .u64 x0 6148914691236517205))) 2) 3689348814741910323) + (iand .u64 (wr .u64 ((iand .u64 (ishr .u64 x0 1) 6148914691236517205) + (iand .u64 x0 6148914691236517205))) 3689348814741910323))))) 1085102592571150095) + (ishr .u64 (iand .u64 (wr .u64 ((ishr .u64 (wr .u64 ((iand .u64 (ishr .u64 (wr .u64 ((iand .u64 (ishr .u64 x0 1) 6148914691236517205) + (iand .u64 x0 6148914691236517205))) 2) 3689348814741910323) + (iand .u64 (wr .u64 ((iand .u64 (ishr .u64 x0 1) 6148914691236517205) + (iand .u64 x0 6148914691236517205))) 3689348814741910323))) 4) + (wr .u64 ((iand .u64 (ishr .u64 (wr .u64 ((iand .u64 (ishr .u64 x0 1) 6148914691236517205) + (iand .u64 x0 6148914691236517205))) 2) 3689348814741910323) + (iand .u64 (wr .u64 ((iand .u64 (ishr .u64 x0 1) 6148914691236517205) + (iand .u64 x0 6148914691236517205))) 3689348814741910323))))) 1085102592571150095) 8))) + (ishr .u64 (wr .u64 ((iand .u64 (wr .u64 ((ishr .u64 (wr .u64 ((iand .u64 (ishr .u64 (wr .u64 ((iand .u64 (ishr .u64 x0 1) 6148914691236517205) + (iand .u64 x0 6148914691236517205))) 2) 3689348814741910323) + (iand .u64 (wr .u64 ((iand .u64 (ishr .u64 x0 1) 6148914691236517205) + (iand .u64 x0 6148914691236517205))) 3689348814741910323))) 4) + (wr .u64 ((iand .u64 (ishr .u64 (wr .u64 ((iand .u64 (ishr .u64 x0 1) 6148914691236517205) + (iand .u64 x0 6148914691236517205))) 2) 3689348814741910323) + (iand .u64 (wr .u64 ((iand .u64 (ishr .u64 x0 1) 6148914691236517205) + (iand .u64 x0 6148914691236517205))) 3689348814741910323))))) 1085102592571150095) + (ishr .u64 (iand .u64 (wr .u64 ((ishr .u64 (wr .u64 ((iand .u64 (ishr .u64 (wr .u64 ((iand .u64 (ishr .u64 x0 1) 6148914691236517205) + (iand .u64 x0 6148914691236517205))) 2) 3689348814741910323) + (iand .u64 (wr .u64 ((iand .u64 (ishr .u64 x0 1) 6148914691236517205) + (iand .u64 x0 6148914691236517205))) 3689348814741910323))) 4) + (wr .u64 ((iand .u64 (ishr .u64 (wr .u64 ((iand .u64 (ishr .u64 x0 1) 6148914691236517205) + (iand .u64 x0 6148914691236517205))) 2) 3689348814741910323) + (iand .u64 (wr .u64 ((iand .u64 (ishr .u64 x0 1) 6148914691236517205) + (iand .u64 x0 6148914691236517205))) 3689348814741910323))))) 1085102592571150095) 8))) 16))) + (ishr .u64 (wr .u64 ((wr .u64 ((iand .u64 (wr .u64 ((ishr .u64 (wr .u64 ((iand .u64 (ishr .u64 (wr .u64 ((iand .u64 (ishr .u64 x0 1) 6148914691236517205) + (iand .u64 x0 6148914691236517205))) 2) 3689348814741910323) + (iand .u64 (wr .u64 ((iand .u64 (ishr .u64 x0 1) 6148914691236517205) + (iand .u64 x0 6148914691236517205))) 3689348814741910323))) 4) + (wr .u64 ((iand .u64 (ishr .u64 (wr .u64 ((iand .u64 (ishr .u64 x0 1) 6148914691236517205) + (iand .u64 x0 6148914691236517205))) 2) 3689348814741910323) + (iand .u64 (wr .u64 ((iand .u64 (ishr .u64 x0 1) 6148914691236517205) + (iand .u64 x0 6148914691236517205))) 3689348814741910323))))) 1085102592571150095) + (ishr .u64 (iand .u64 (wr .u64 ((ishr .u64 (wr .u64 ((iand .u64 (ishr .u64 (wr .u64 ((iand .u64 (ishr .u64 x0 1) 6148914691236517205) + (iand .u64 x0 6148914691236517205))) 2) 3689348814741910323) + (iand .u64 (wr .u64 ((iand .u64 (ishr .u64 x0 1) 6148914691236517205) + (iand .u64 x0 6148914691236517205))) 3689348814741910323))) 4) + (wr .u64 ((iand .u64 (ishr .u64 (wr .u64 ((iand .u64 (ishr .u64 x0 1) 6148914691236517205) + (iand .u64 x0 6148914691236517205))) 2) 3689348814741910323) + (iand .u64 (wr .u64 ((iand .u64 (ishr .u64 x0 1) 6148914691236517205) + (iand .u64 x0 6148914691236517205))) 3689348814741910323))))) 1085102592571150095) 8))) + (ishr .u64 (wr .u64 ((iand .u64 (wr .u64 ((ishr .u64 (wr .u64 ((iand .u64 (ishr .u64 (wr .u64 ((iand .u64 (ishr .u64 x0 1) 6148914691236517205) + (iand .u64 x0 6148914691236517205))) 2) 3689348814741910323) + (iand .u64 (wr .u64 ((iand .u64 (ishr .u64 x0 1) 6148914691236517205) + (iand .u64 x0 6148914691236517205))) 3689348814741910323))) 4) + (wr .u64 ((iand .u64 (ishr .u64 (wr .u64 ((iand .u64 (ishr .u64 x0 1) 6148914691236517205) + (iand .u64 x0 6148914691236517205))) 2) 3689348814741910323) + (iand .u64 (wr .u64 ((iand .u64 (ishr .u64 x0 1) 6148914691236517205) + (iand .u64 x0 6148914691236517205))) 3689348814741910323))))) 1085102592571150095) + (ishr .u64 (iand .u64 (wr .u64 ((ishr .u64 (wr .u64 ((iand .u64 (ishr .u64 (wr .u64 ((iand .u64 (ishr .u64 x0 1) 6148914691236517205) + (iand .u64 x0 6148914691236517205))) 2) 3689348814741910323) + (iand .u64 (wr .u64 ((iand .u64 (ishr .u64 x0 1) 6148914691236517205) + (iand .u64 x0 6148914691236517205))) 3689348814741910323))) 4) + (wr .u64 ((iand .u64 (ishr .u64 (wr .u64 ((iand .u64 (ishr .u64 x0 1) 6148914691236517205) + (iand .u64 x0 6148914691236517205))) 2) 3689348814741910323) + (iand .u64 (wr .u64 ((iand .u64 (ishr .u64 x0 1) 6148914691236517205) + (iand .u64 x0 6148914691236517205))) 3689348814741910323))))) 1085102592571150095) 8))) 16))) 32)))) 127))] Jjq ?_
 obtain rfl := Option.some.inj h
 exact Goes.rt Tryd.f76 (.i (iand .i64 (wr .i64 (wr .u64 ((wr .u64 ((wr .u64 ((iand .u64 (wr .u64 ((ishr .u64 (wr .u64 ((iand .u64 (ishr .u64 (wr .u64 ((iand .u64 (ishr .u64 x0 1) 6148914691236517205) + (iand .u64 x0 6148914691236517205))) 2) 3689348814741910323) + (iand .u64 (wr .u64 ((iand .u64 (ishr .u64 x0 1) 6148914691236517205) + (iand .u64 x0 6148914691236517205))) 3689348814741910323))) 4) + (wr .u64 ((iand .u64 (ishr .u64 (wr .u64 ((iand .u64 (ishr .u64 x0 1) 6148914691236517205) + (iand .u64 x0 6148914691236517205))) 2) 3689348814741910323) + (iand .u64 (wr .u64 ((iand .u64 (ishr .u64 x0 1) 6148914691236517205) + (iand .u64 x0 6148914691236517205))) 3689348814741910323))))) 1085102592571150095) + (ishr .u64 (iand .u64 (wr .u64 ((ishr .u64 (wr .u64 ((iand .u64 (ishr .u64 (wr .u64 ((iand .u64 (ishr .u64 x0 1) 6148914691236517205) + (iand .u64 x0 6148914691236517205))) 2) 3689348814741910323) + (iand .u64 (wr .u64 ((iand .u64 (ishr .u64 x0 1) 6148914691236517205) + (iand .u64 x0 6148914691236517205))) 3689348814741910323))) 4) + (wr .u64 ((iand .u64 (ishr .u64 (wr .u64 ((iand .u64 (ishr .u64 x0 1) 6148914691236517205) + (iand .u64 x0 6148914691236517205))) 2) 3689348814741910323) + (iand .u64 (wr .u64 ((iand .u64 (ishr .u64 x0 1) 6148914691236517205) + (iand .u64 x0 6148914691236517205))) 3689348814741910323))))) 1085102592571150095) 8))) + (ishr .u64 (wr .u64 ((iand .u64 (wr .u64 ((ishr .u64 (wr .u64 ((iand .u64 (ishr .u64 (wr .u64 ((iand .u64 (ishr .u64 x0 1) 6148914691236517205) + (iand .u64 x0 6148914691236517205))) 2) 3689348814741910323) + (iand .u64 (wr .u64 ((iand .u64 (ishr .u64 x0 1) 6148914691236517205) + (iand .u64 x0 6148914691236517205))) 3689348814741910323))) 4) + (wr .u64 ((iand .u64 (ishr .u64 (wr .u64 ((iand .u64 (ishr .u64 x0 1) 6148914691236517205) + (iand .u64 x0 6148914691236517205))) 2) 3689348814741910323) + (iand .u64 (wr .u64 ((iand .u64 (ishr .u64 x0 1) 6148914691236517205) + (iand .u64 x0 6148914691236517205))) 3689348814741910323))))) 1085102592571150095) + (ishr .u64 (iand .u64 (wr .u64 ((ishr .u64 (wr .u64 ((iand .u64 (ishr .u64 (wr .u64 ((iand .u64 (ishr .u64 x0 1) 6148914691236517205) + (iand .u64 x0 6148914691236517205))) 2) 3689348814741910323) + (iand .u64 (wr .u64 ((iand .u64 (ishr .u64 x0 1) 6148914691236517205) + (iand .u64 x0 6148914691236517205))) 3689348814741910323))) 4) + (wr .u64 ((iand .u64 (ishr .u64 (wr .u64 ((iand .u64 (ishr .u64 x0 1) 6148914691236517205) + (iand .u64 x0 6148914691236517205))) 2) 3689348814741910323) + (iand .u64 (wr .u64 ((iand .u64 (ishr .u64 x0 1) 6148914691236517205) + (iand .u64 x0 6148914691236517205))) 3689348814741910323))))) 1085102592571150095) 8))) 16))) + (ishr .u64 (wr .u64 ((wr .u64 ((iand .u64 (wr .u64 ((ishr .u64 (wr .u64 ((iand .u64 (ishr .u64 (wr .u64 ((iand .u64 (ishr .u64 x0 1) 6148914691236517205) + (iand .u64 x0 6148914691236517205))) 2) 3689348814741910323) + (iand .u64 (wr .u64 ((iand .u64 (ishr .u64 x0 1) 6148914691236517205) + (iand .u64 x0 6148914691236517205))) 3689348814741910323))) 4) + (wr .u64 ((iand .u64 (ishr .u64 (wr .u64 ((iand .u64 (ishr .u64 x0 1) 6148914691236517205) + (iand .u64 x0 6148914691236517205))) 2) 3689348814741910323) + (iand .u64 (wr .u64 ((iand .u64 (ishr .u64 x0 1) 6148914691236517205) + (iand .u64 x0 6148914691236517205))) 3689348814741910323))))) 1085102592571150095) + (ishr .u64 (iand .u64 (wr .u64 ((ishr .u64 (wr .u64 ((iand .u64 (ishr .u64 (wr .u64 ((iand .u64 (ishr .u64 x0 1) 6148914691236517205) + (iand .u64 x0 6148914691236517205))) 2) 3689348814741910323) + (iand .u64 (wr .u64 ((iand .u64 (ishr .u64 x0 1) 6148914691236517205) + (iand .u64 x0 6148914691236517205))) 3689348814741910323))) 4) + (wr .u64 ((iand .u64 (ishr .u64 (wr .u64 ((iand .u64 (ishr .u64 x0 1) 6148914691236517205) + (iand .u64 x0 6148914691236517205))) 2) 3689348814741910323) + (iand .u64 (wr .u64 ((iand .u64 (ishr .u64 x0 1) 6148914691236517205) + (iand .u64 x0 6148914691236517205))) 3689348814741910323))))) 1085102592571150095) 8))) + (ishr .u64 (wr .u64 ((iand .u64 (wr .u64 ((ishr .u64 (wr .u64 ((iand .u64 (ishr .u64 (wr .u64 ((iand .u64 (ishr .u64 x0 1) 6148914691236517205) + (iand .u64 x0 6148914691236517205))) 2) 3689348814741910323) + (iand .u64 (wr .u64 ((iand .u64 (ishr .u64 x0 1) 6148914691236517205) + (iand .u64 x0 6148914691236517205))) 3689348814741910323))) 4) + (wr .u64 ((iand .u64 (ishr .u64 (wr .u64 ((iand .u64 (ishr .u64 x0 1) 6148914691236517205) + (iand .u64 x0 6148914691236517205))) 2) 3689348814741910323) + (iand .u64 (wr .u64 ((iand .u64 (ishr .u64 x0 1) 6148914691236517205) + (iand .u64 x0 6148914691236517205))) 3689348814741910323))))) 1085102592571150095) + (ishr .u64 (iand .u64 (wr .u64 ((ishr .u64 (wr .u64 ((iand .u64 (ishr .u64 (wr .u64 ((iand .u64 (ishr .u64 x0 1) 6148914691236517205) + (iand .u64 x0 6148914691236517205))) 2) 3689348814741910323) + (iand .u64 (wr .u64 ((iand .u64 (ishr .u64 x0 1) 6148914691236517205) + (iand .u64 x0 6148914691236517205))) 3689348814741910323))) 4) + (wr .u64 ((iand .u64 (ishr .u64 (wr .u64 ((iand .u64 (ishr .u64 x0 1) 6148914691236517205) + (iand .u64 x0 6148914691236517205))) 2) 3689348814741910323) + (iand .u64 (wr .u64 ((iand .u64 (ishr .u64 x0 1) 6148914691236517205) + (iand .u64 x0 6148914691236517205))) 3689348814741910323))))) 1085102592571150095) 8))) 16))) 32)))) 127)) ⟨S0, rfl, (Ext.refl S0 w0), p0⟩

def Qfq := sub [1, 1] B81
def Jjr : List Item := [.code Qfq]
def Qfr := sub [1, 0, 1] B81
def Jjs : List Item := .code Qfr :: Jjr
def Qfs := sub [1, 0, 1, 0, 1] B81
def Jjt : List Item := .code Qfs :: Jjr
def Qft := sub [1, 1, 1] B81
def Jju : List Item := [.code Qft]
def Qfu := sub [1, 1, 0] B81
def Jjv : List Item := .inRegion (opsOf Qfu) [6, 7, 8, 9] :: Jju

def Post.z2p (r : Int) (v : Value) (w' : World) : Prop :=
 ∃ S', v = .i r ∧ Ext S0 w0 S' w' ∧ Hp nz wz S' w' (Lr)

theorem W.z2p (x0 : Int) (r : Int) (h : M.bits_TrailingZeros64 x0 = some r) {nz wz S0 w0 Lr} [Gw nz wz] (p0 : Hp nz wz S0 w0 (Lr)) :
  Calls Tryd.prog 81 #[.u x0] w0 (Rets (Post.z2p nz wz S0 w0 Lr r)) := by
 refine calls_of_goes (fn := Tryd.f81) (c := B81) (by kernel_rfl) (by kernel_rfl) 13 (by kernel_rfl) ?_
 refine Goes.jp 14 [(0, .u x0)] (fun junk => ?_)
 delta M.bits_TrailingZeros64 at h
 refine Goes.rn 10 [(2, .i 0), (3, .u x0), (4, .bool (decide (x0 = 0)))] Jjs ?_
 refine ite_some h (fun h1 h => ?_) (fun h1 h => ?_)
 ·
  rw [decide_eq_true h1]
  refine Goes.rn 5 [(2, .i 64)] Jjt ?_
  obtain rfl := Option.some.inj h
  exact Goes.rt Tryd.f81 (.i 64) ⟨S0, rfl, (Ext.refl S0 w0), p0⟩
 ·
  rw [decide_eq_false h1]
  refine Goes.rn 10 [(5, .u x0), (6, .u x0), (7, .u (wr .u64 (0 - x0))), (8, .u (iand .u64 x0 (wr .u64 (0 - x0)))), (9, .u (wr .u64 ((iand .u64 x0 (wr .u64 (0 - x0))) * 285870213051353865))), (10, .u (ishr .u64 (wr .u64 ((iand .u64 x0 (wr .u64 (0 - x0))) * 285870213051353865)) 58))] Jjv ?_
  refine guard_some' h fun g2 h => ?_
  refine guard_some' h fun g3 h => ?_
  refine Op_.ixG 130 (.global 1) (.tmp 10) 11 0 5 64 .u64 (ishr .u64 (wr .u64 ((iand .u64 x0 (wr .u64 (0 - x0))) * 285870213051353865)) 58) 1 Goes.v (by kernel_rfl) (by kernel_rfl) (by kernel_rfl) (by kernel_rfl) g2 g3 ?_
  refine Goes.ld 5 (.tmp 11) 12 5 ⟨1, Int.toNat (ishr .u64 (wr .u64 ((iand .u64 x0 (wr .u64 (0 - x0))) * 285870213051353865)) 58), none⟩ (.int .u8 (gi tb1 (ishr .u64 (wr .u64 ((iand .u64 x0 (wr .u64 (0 - x0))) * 285870213051353865)) 58))) (Gw.g1.cell p0 (ishr .u64 (wr .u64 ((iand .u64 x0 (wr .u64 (0 - x0))) * 285870213051353865)) 58) g2 g3) ?_
  refine Goes.rn 3 [(13, .i (wr .i64 (gi tb1 (ishr .u64 (wr .u64 ((iand .u64 x0 (wr .u64 (0 - x0))) * 285870213051353865)) 58)))), (2, .i (wr .i64 (gi tb1 (ishr .u64 (wr .u64 ((iand .u64 x0 (wr .u64 (0 - x0))) * 285870213051353865)) 58))))] Jju ?_
  obtain rfl := Option.some.inj h
  exact Goes.rt Tryd.f81 (.i (wr .i64 (gi tb1 (ishr .u64 (wr .u64 ((iand .u64 x0 (wr .u64 (0 - x0))) * 285870213051353865)) 58)))) ⟨S0, rfl, (Ext.refl S0 w0), p0⟩

def Qfv := sub [1, 1, 1] B69
def Jjw : List Item := [.code Qfv]
def Jjx : List Item := .inBlock 0 :: Jjw
def Qfw := sub [1, 1, 0, 1, 0, 0] B69
def Jjy : List Item := .inLoop Qfw :: Jjx
def Jjz : List Item := .code Qfw :: Jjy
def Qfx := sub [1, 1, 0, 1, 0, 0, 1, 1, 1] B69
def Jk0 : List Item := .code Qfx :: Jjy
def Jk1 : List Item := .inBlock 1 :: Jk0
def Qfy := sub [1, 1, 0, 1, 0, 0, 1, 1] B69
def Jk2 : List Item := .code Qfy :: Jjy
def Qfz := sub [1, 1, 0, 1, 0, 0, 1, 0] B69
def Jk3 : List Item := .code Qfz :: Jk2
def Qg0 := sub [1, 1, 0, 1, 0, 0, 1, 1, 0, 0, 1] B69
def Jk4 : List Item := .code Qg0 :: Jk1
def Qg1 := sub [1, 1, 0, 1, 0, 0, 1, 1, 0, 0, 0] B69
def Jk5 : List Item := .inRegion (opsOf Qg1) [1, 2, 3] :: Jk4
def Qg2 := sub [1, 1, 0, 1, 0, 0, 1, 1, 0, 0, 1, 1] B69
def Jk6 : List Item := .code Qg2 :: Jk1
def Qg3 := sub [1, 1, 0, 1, 0, 0, 1, 1, 0, 0, 1, 0] B69
def Jk7 : List Item := .inRegion (opsOf Qg3) [2, 3, 4] :: Jk6
def Qg4 := sub [1, 1, 0, 1, 0, 0, 1, 1, 0, 0, 1, 1, 1] B69
def Jk8 : List Item := .code Qg4 :: Jk1
def Qg5 := sub [1, 1, 0, 1, 0, 0, 1, 1, 0, 0, 1, 1, 1, 0] B69
def Jk9 : List Item := .inRegion (opsOf Qg5) [3, 4, 5] :: Jk1
def Qg6 := sub [1, 1, 1, 1] B69
def Jka : List Item := [.code Qg6]

def Post.z2q (r : Int × Bool) (v : Value) (w' : World) : Prop :=
 ∃ S', v = .tuple #[.int .u8 r.1, .bool r.2] ∧ Ext S0 w0 S' w' ∧ Hp nz wz S' w' (Lr)

def L.z2r : Int × Int × (List Int) × Int → (Int × Bool) → Prop := fun ⟨x4, x5, x8, x9⟩ r => ∀ S1 w1, Ext S0 w0 S1 w1 → ∀ uc8 (_ : Hp nz wz S1 w1 (Lr)) (_ : Els (kInt .u64) S1 w1 uc8 x8) (_ : uc8.length = 4) (junk : Nat → Value),
 Goes Tryd.prog (base 69) Jjz ⟨lfr 29 [(4, .i x4), (5, .i x5), (8, .agg uc8.toArray), (9, .i x9)] junk, []⟩ w1 (Done Tryd.prog 69 (Rets (Post.z2q nz wz S0 w0 Lr r)))

def L.z2s : Int × Int × (List Int) × Int → (Int × Bool) → Prop := fun ⟨x4, x5, x8, x9⟩ r => ∀ S1 w1, Ext S0 w0 S1 w1 → ∀ uc8 (_ : Hp nz wz S1 w1 (Lr)) (_ : Els (kInt .u64) S1 w1 uc8 x8) (_ : uc8.length = 4) (junk : Nat → Value),
 Goes Tryd.prog (base 69) Jk1 ⟨lfr 29 [(4, .i x4), (5, .i x5), (8, .agg uc8.toArray), (9, .i x9)] junk, []⟩ w1 (Done Tryd.prog 69 (Rets (Post.z2q nz wz S0 w0 Lr r)))

theorem W.z2t {nz wz S0 w0 Lr} [Gw nz wz] : (∀ a r, M.syntax_only_l0 a = some r → (L.z2r nz wz S0 w0 Lr) a r) ∧ (∀ a r, M.syntax_only_l1 a = some r → (L.z2s nz wz S0 w0 Lr) a r) := by
 refine M.syntax_only_l0.mutual_partial_correctness (L.z2r nz wz S0 w0 Lr) (L.z2s nz wz S0 w0 Lr) ?_ ?_
 ·
  intro uc9 uca ⟨x4, x5, x8, x9⟩ r h S1 w1 hx uc8 p1 fx8 lx8 junk
  try dsimp only at h
  refine Goes.rn 5 [(10, .bool (decide (x9 < 4)))] Jk3 ?_
  refine ite_some h (fun h3 h => ?_) (fun h3 h => ?_)
  ·
   rw [decide_eq_true h3]
   refine Goes.rn 7 [(11, .i x9)] Jk5 ?_
   refine guard_some' h fun g4 h => ?_
   refine Op_.ixV 25 (.tmp 8) (.tmp 9) 12 23 23 4 .u64 .i64 x9 (vs := uc8) (xs := x8) Goes.v (by kernel_rfl) (by kernel_rfl) (by kernel_rfl) (by kernel_rfl) (by kernel_rfl) fx8 lx8 g4 h3 ?_
   refine Goes.rn 7 [(6, .i x9), (7, .u (gi x8 x9)), (13, .i x4), (14, .u (gi x8 x9))] Jk7 ?_
   refine bind_some' h fun y5 e6 h => ?_
   refine Goes.cal (kc 76 [14] #[23]) 15 3 76 _ (W.z2o (gi x8 x9) y5 e6  p1 ) ?_
   rintro _ w3 ⟨S3, rfl, z3, p3⟩
   refine Goes.rn 8 [(16, .i (wr .i64 (x4 + y5))), (4, .i (wr .i64 (x4 + y5))), (17, .u (gi x8 x9)), (18, .bool (!(decide (gi x8 x9 = 0))))] Jk8 ?_
   refine ite_some h (fun h7 h => ?_) (fun h7 h => ?_)
   ·
    rw [decide_eq_true h7]
    refine Goes.rn 2 [] Jk1 ?_
    exact Goes.jp 29 [(4, .i (wr .i64 (x4 + y5))), (5, .i x5), (8, .agg uc8.toArray), (9, .i x9)] (uca _ _ h _ _ (hx.trans z3) uc8 p3 (fx8.ext z3) lx8)
   ·
    rw [decide_eq_false h7]
    refine Goes.rn 5 [(19, .i x9), (20, .i (wr .i64 (x9 * 64))), (21, .u (gi x8 x9))] Jk9 ?_
    refine bind_some' h fun y8 e9 h => ?_
    refine Goes.cal (kc 81 [21] #[23]) 22 3 81 _ (W.z2p (gi x8 x9) y8 e9  p3 ) ?_
    rintro _ w4 ⟨S4, rfl, z4, p4⟩
    refine Goes.rn 3 [(23, .i (wr .i64 ((wr .i64 (x9 * 64)) + y8))), (5, .i (wr .i64 ((wr .i64 (x9 * 64)) + y8)))] Jk1 ?_
    exact Goes.jp 29 [(4, .i (wr .i64 (x4 + y5))), (5, .i (wr .i64 ((wr .i64 (x9 * 64)) + y8))), (8, .agg uc8.toArray), (9, .i x9)] (uca _ _ h _ _ ((hx.trans z3).trans z4) uc8 p4 (fx8.ext (z3.trans z4)) lx8)
  ·
   rw [decide_eq_false h3]
   refine Goes.rn 11 [(25, .i x5), (26, .int .u8 (wr .u8 x5)), (27, .i x4), (28, .bool (decide (x4 = 1))), (2, .int .u8 (wr .u8 x5)), (3, .bool (decide (x4 = 1)))] Jka ?_
   obtain rfl := Option.some.inj h
   exact Goes.rt Tryd.f69 (.tuple #[.int .u8 (wr .u8 x5), .bool (decide (x4 = 1))]) ⟨S1, rfl, hx, p1⟩
 ·
  intro ucb ucc ⟨x4, x5, x8, x9⟩ r h S1 w1 hx uc8 p1 fx8 lx8 junk
  try dsimp only at h
  refine Goes.rn 6 [(24, .i (wr .i64 (x9 + 1))), (9, .i (wr .i64 (x9 + 1)))] Jjz ?_
  exact Goes.jp 29 [(4, .i x4), (5, .i x5), (8, .agg uc8.toArray), (9, .i (wr .i64 (x9 + 1)))] (ucc _ _ h _ _ hx uc8 p1 fx8 lx8)

theorem W.z2r {nz wz S0 w0 Lr} [Gw nz wz] : ∀ a r, M.syntax_only_l0 a = some r → (L.z2r nz wz S0 w0 Lr) a r := (W.z2t).1

theorem W.z2s {nz wz S0 w0 Lr} [Gw nz wz] : ∀ a r, M.syntax_only_l1 a = some r → (L.z2s nz wz S0 w0 Lr) a r := (W.z2t).2

def Qg7 := sub [1] B69
def Jkb : List Item := [.code Qg7]
def Qg8 := sub [0] B69
def Jkc : List Item := .inRegion (opsOf Qg8) [0, 1, 2] :: Jkb
def Qg9 := sub [1, 1, 0, 1] B69
def Jkd : List Item := .code Qg9 :: Jjw
def Qga := sub [1, 1, 0, 0] B69
def Jke : List Item := .inRegion (opsOf Qga) [0, 1] :: Jkd

theorem W.z2q (x0 : List Int) (r : Int × Bool) (h : M.syntax_only x0 = some r) {nz wz S0 w0 Lr} [Gw nz wz] (u2f) (p0 : Hp nz wz S0 w0 (Lr)) (fx0 : Els (kInt .u64) S0 w0 u2f x0) (lx0 : u2f.length = 4) :
  Calls Tryd.prog 69 #[.agg u2f.toArray] w0 (Rets (Post.z2q nz wz S0 w0 Lr r)) := by
 refine calls_of_goes (fn := Tryd.f69) (c := B69) (by kernel_rfl) (by kernel_rfl) 28 (by kernel_rfl) ?_
 refine Goes.jp 29 [(0, .agg u2f.toArray)] (fun junk => ?_)
 delta M.syntax_only at h
 refine Goes.rn 2 [] Jkc ?_
 refine Op_.box 25 (.tmp 0) 1 0 (.agg u2f.toArray) u2f p0 Goes.v (by kernel_rfl) rfl ?_
 intro b1 w2 z2 p2
 replace p2 : Hp nz wz S0 w2 ((some b1, .row 25 u2f 4 0) :: Lr) := by rw [show (u2f).length = 4 from lx0] at p2; exact p2
 refine Goes.rn 11 [(2, .int .u8 0), (3, .bool false), (4, .i 0), (5, .i 0)] Jke ?_
 refine Op_.ldN 25 (.tmp 1) 8 25 ⟨b1, 0, none⟩ u2f Goes.v (by kernel_rfl) (by kernel_rfl) (by rw [lx0]; kernel_rfl) (At_all (p2.mem 0 rfl)) ?_
 refine Goes.rn 4 [(9, .i 0)] Jjz ?_
 have p2 := p2.dp 0
 exact Goes.jp 29 [(4, .i 0), (5, .i 0), (8, .agg u2f.toArray), (9, .i 0)] (W.z2r _ _ h _ _ ((Ext.refl S0 w0).trans z2) u2f p2 (fx0.ext z2) lx0)

def Qgb := sub [1, 1] B51
def Jkf : List Item := [.code Qgb]
def Jkg : List Item := .inBlock 0 :: Jkf
def Qgc := sub [1, 0, 1, 0, 1, 1, 1, 1, 1, 0, 1, 1] B51
def Jkh : List Item := .code Qgc :: Jkg

def Post.z2u (r : Int × Bool) (v : Value) (w' : World) : Prop :=
 ∃ S', v = .tuple #[.i r.1, .bool r.2] ∧ Ext S0 w0 S' w' ∧ Hp nz wz S' w' (Lr)

def L.z2v : Int × Bool → (Int × Bool) → Prop := fun ⟨x2, x3⟩ r => ∀ S1 w1, Ext S0 w0 S1 w1 → ∀ (_ : Hp nz wz S1 w1 (Lr)) (junk : Nat → Value),
 Goes Tryd.prog (base 51) Jkh ⟨lfr 69 [(2, .i x2), (3, .bool x3)] junk, []⟩ w1 (Done Tryd.prog 51 (Rets (Post.z2u nz wz S0 w0 Lr r)))

theorem W.z2v {nz wz S0 w0 Lr} [Gw nz wz] : ∀ a r, M.syntax_length_l0 a = some r → L.z2v nz wz S0 w0 Lr a r := by
 intro ⟨x2, x3⟩ r h S1 w1 hx p1 junk
 rw [M.syntax_length_l0] at h
 try dsimp only at h
 obtain rfl := Option.some.inj h
 exact Goes.rt Tryd.f51 (.tuple #[.i x2, .bool x3]) ⟨S1, rfl, hx, p1⟩

def Qgd := sub [1, 1, 1, 1] B51
def Jki : List Item := [.code Qgd]
def Jkj : List Item := .inBlock 1 :: Jki
def Qge := sub [1, 1, 1, 0, 1, 0, 0] B51
def Jkk : List Item := .inLoop Qge :: Jkj
def Jkl : List Item := .code Qge :: Jkk
def Qgf := sub [1] B51
def Jkm : List Item := [.code Qgf]
def Qgg := sub [0] B51
def Jkn : List Item := .inRegion (opsOf Qgg) [0, 1, 2] :: Jkm
def Qgh := sub [1, 0, 1] B51
def Jko : List Item := .code Qgh :: Jkf
def Qgi := sub [1, 0, 0] B51
def Jkp : List Item := .inRegion (opsOf Qgi) [1] :: Jko
def Qgj := sub [1, 0, 1, 0, 1] B51
def Jkq : List Item := .code Qgj :: Jkg
def Qgk := sub [1, 0, 1, 0, 1, 0, 1] B51
def Jkr : List Item := .code Qgk :: Jkg
def Qgl := sub [1, 0, 1, 0, 1, 0, 0] B51
def Jks : List Item := .inRegion (opsOf Qgl) [1, 2, 3, 4, 5, 6, 7] :: Jkr
def Qgm := sub [1, 0, 1, 0, 1, 0, 1, 1] B51
def Jkt : List Item := .code Qgm :: Jkg
def Qgn := sub [1, 0, 1, 0, 1, 1, 1] B51
def Jku : List Item := .code Qgn :: Jkg
def Qgo := sub [1, 0, 1, 0, 1, 1, 1, 0, 1] B51
def Jkv : List Item := .code Qgo :: Jkg
def Qgp := sub [1, 0, 1, 0, 1, 1, 1, 1, 1] B51
def Jkw : List Item := .code Qgp :: Jkg
def Qgq := sub [1, 0, 1, 0, 1, 1, 1, 1, 1, 0, 1] B51
def Jkx : List Item := .code Qgq :: Jkg
def Qgr := sub [1, 0, 1, 0, 1, 1, 1, 1, 1, 0, 0] B51
def Jky : List Item := .inRegion (opsOf Qgr) [1, 2, 3, 4, 5, 6, 7, 8, 9] :: Jkx
def Qgs := sub [1, 0, 1, 0, 1, 1, 1, 1, 1, 0, 1, 0] B51
def Jkz : List Item := .code Qgs :: Jkh
def Qgt := sub [1, 1, 1, 0, 1] B51
def Jl0 : List Item := .code Qgt :: Jki
def Qgu := sub [1, 1, 1, 0, 0] B51
def Jl1 : List Item := .inRegion (opsOf Qgu) [1, 2, 3] :: Jl0
def Qgv := sub [1, 1, 1, 0, 1, 0, 0, 1, 1] B51
def Jl2 : List Item := .code Qgv :: Jkk
def Qgw := sub [1, 1, 1, 0, 1, 0, 0, 1, 0] B51
def Jl3 : List Item := .code Qgw :: Jl2
def Qgx := sub [1, 1, 1, 0, 1, 0, 0, 1, 1, 1] B51
def Jl4 : List Item := .code Qgx :: Jkk
def Jl5 : List Item := .inBlock 2 :: Jl4
def Qgy := sub [1, 1, 1, 0, 1, 0, 0, 1, 1, 0, 0, 1] B51
def Jl6 : List Item := .code Qgy :: Jl5
def Qgz := sub [1, 1, 1, 0, 1, 0, 0, 1, 1, 0, 0, 0] B51
def Jl7 : List Item := .inRegion (opsOf Qgz) [0, 1, 2, 3] :: Jl6
def Qh0 := sub [1, 1, 1, 0, 1, 0, 0, 1, 1, 0, 0, 1, 1] B51
def Jl8 : List Item := .code Qh0 :: Jl5
def Qh1 := sub [1, 1, 1, 0, 1, 0, 0, 1, 1, 0, 0, 1, 0] B51
def Jl9 : List Item := .inRegion (opsOf Qh1) [0, 1, 2, 3, 4, 5, 6] :: Jl8
def Qh2 := sub [1, 1, 1, 0, 1, 0, 0, 1, 1, 0, 0, 1, 1, 1] B51
def Jla : List Item := .code Qh2 :: Jl5
def Qh3 := sub [1, 1, 1, 0, 1, 0, 0, 1, 1, 0, 0, 1, 1, 0, 1] B51
def Jlb : List Item := .code Qh3 :: Jla
def Qh4 := sub [1, 1, 1, 0, 1, 0, 0, 1, 1, 0, 0, 1, 1, 0, 1, 0, 1] B51
def Jlc : List Item := .code Qh4 :: Jla
def Qh5 := sub [1, 1, 1, 1, 1] B51
def Jld : List Item := [.code Qh5]

def LF.z2u : T27 → (Int × Bool) → Prop := fun x0 r => ∀ {nz wz S0 w0 Lr} [Gw nz wz] ubc ubd ube (_ : Hp nz wz S0 w0 (Lr)) (_ : x0.Set.length = 4) (_ : Rd kT27 S0 w0 ubc ube x0.L) (_ : x0.L.length = ubd),
 Calls Tryd.prog 51 #[(ag (.i x0.Kind :: U4 x0.Set [.slice ubc ubd ube, .i x0.Min, .i x0.Max]))] w0 (Rets (Post.z2u nz wz S0 w0 Lr r))

def L.z2w : Int × (List T27) × Int × Int → (Int × Bool) → Prop := fun ⟨x8, x50, x51, x52⟩ r => ∀ S1 w1, Ext S0 w0 S1 w1 → ∀ ucd uce ucf (_ : Hp nz wz S1 w1 (Lr)) (_ : Rd kT27 S1 w1 ucd ucf x50) (_ : x50.length = uce) (junk : Nat → Value),
 Goes Tryd.prog (base 51) Jkl ⟨lfr 69 [(8, .i x8), (50, .slice ucd uce ucf), (51, .i x51), (52, .i x52)] junk, []⟩ w1 (Done Tryd.prog 51 (Rets (Post.z2u nz wz S0 w0 Lr r)))

def LL.z2w : Int × (List T27) × Int × Int → (Int × Bool) → Prop := fun a r => ∀ {nz wz S0 w0 Lr} [Gw nz wz], L.z2w nz wz S0 w0 Lr a r

theorem W.z2x : (∀ a r, M.syntax_length a = some r → LF.z2u a r) ∧ (∀ a r, M.syntax_length_l1 a = some r → LL.z2w a r) := by
 refine M.syntax_length.mutual_partial_correctness LF.z2u LL.z2w ?_ ?_
 ·
  intro rec_syntax_length ucg ih_syntax_length uch x0 r h nz wz S0 w0 Lr iG ubc ubd ube p0 ubo ubp ubq
  try dsimp only at h
  subst ubq
  refine calls_of_goes (fn := Tryd.f51) (c := B51) (by kernel_rfl) (by kernel_rfl) 68 (by kernel_rfl) ?_
  refine Goes.jp 69 [(0, (ag (.i x0.Kind :: U4 x0.Set [.slice ubc x0.L.length ube, .i x0.Min, .i x0.Max])))] (fun junk => ?_)
  refine Goes.rn 2 [] Jkn ?_
  refine Op_.box 28 (.tmp 0) 1 0 (ag (.i x0.Kind :: U4 x0.Set [.slice ubc x0.L.length ube, .i x0.Min, .i x0.Max])) (.i x0.Kind :: U4 x0.Set [.slice ubc x0.L.length ube, .i x0.Min, .i x0.Max]) p0 Goes.v (by kernel_rfl) (by kernel_rfl) ?_
  intro b1 w2 z2 p2
  refine Goes.rn 7 [(2, .i 0), (3, .bool false), (13, (pt b1 0))] Jkp ?_
  refine Goes.ld 3 (.tmp 13) 14 3 ⟨b1, 0, none⟩ (.i x0.Kind) (p2.c 0 0) ?_
  refine Goes.rn 7 [(16, .bool (decide (x0.Kind = 1))), (15, .bool (decide (x0.Kind = 1)))] Jkq ?_
  refine ite_some h (fun h3 h => ?_) (fun h3 h => ?_)
  ·
   rw [decide_eq_true h3]
   refine Goes.rn 4 [(18, (pt b1 1))] Jks ?_
   refine Goes.ldN 25 (.tmp 18) 19 25 ⟨b1, 1, none⟩ (U4 x0.Set []) (p2.pa 0 1) ?_
   refine bind_some' h fun y4 e5 h => ?_
   refine Goes.cal (kc 69 [19] #[25]) 20 114 69 _ (W.z2q x0.Set y4 e5 ((U4 x0.Set []) : List Value) p2 (els_mk4 (S := S0) (w := w2) (k := .u64) ubo) rfl) ?_
   rintro _ w3 ⟨S3, rfl, z3, p3⟩
   have p3 := p3.dp 0
   refine Goes.rn 12 [(17, .tuple #[.int .u8 y4.1, .bool y4.2]), (21, .int .u8 y4.1), (22, .bool y4.2), (4, .int .u8 y4.1), (5, .bool y4.2), (23, .bool y4.2), (2, .i 1), (3, .bool y4.2)] Jkt ?_
   obtain rfl := Option.some.inj h
   exact Goes.rt Tryd.f51 (.tuple #[.i 1, .bool y4.2]) ⟨S3, rfl, (((Ext.refl S0 w0).trans z2).trans z3), p3⟩
  ·
   rw [decide_eq_false h3]
   refine Goes.rn 6 [(25, .bool (decide (x0.Kind = 3))), (24, .bool (decide (x0.Kind = 3)))] Jku ?_
   refine ite_some h (fun h6 h => ?_) (fun h6 h => ?_)
   ·
    rw [decide_eq_true h6]
    refine Goes.rn 6 [(2, .i 0), (3, .bool false)] Jkv ?_
    obtain rfl := Option.some.inj h
    have p2 := p2.dp 0
    exact Goes.rt Tryd.f51 (.tuple #[.i 0, .bool false]) ⟨S0, rfl, ((Ext.refl S0 w0).trans z2), p2⟩
   ·
    rw [decide_eq_false h6]
    refine Goes.rn 6 [(27, .bool (decide (x0.Kind = 4))), (26, .bool (decide (x0.Kind = 4)))] Jkw ?_
    refine ite_some h (fun h7 h => ?_) (fun h7 h => ?_)
    ·
     rw [decide_eq_true h7]
     refine Goes.rn 4 [(29, (pt b1 5))] Jky ?_
     refine Goes.ld 26 (.tmp 29) 30 26 ⟨b1, 5, none⟩ (.slice ubc x0.L.length ube) (p2.c 0 5) ?_
     refine guard_some' h fun g8 h => ?_
     refine Op_.ixR_n 26 (.tmp 30) (.const (.int .i64 0)) 31 0 28 .i64 0 (gi x0.L 0) rfl rfl (ubp.ext z2) Goes.v (by kernel_rfl) (by kernel_rfl) (by kernel_rfl) (by kernel_rfl) (by decide : (0 : Int) ≤ 0) g8 ?_
     intro a9 _ f10 q11
     have q12 := q11
     obtain ⟨_, _, rfl, rfl, ⟨_, _, rfl, ⟨l13, f14⟩, ⟨_, _, rfl, ⟨A15, c16, rfl, f17⟩, ⟨_, _, rfl, rfl, rfl⟩⟩⟩⟩ := kT27_open q12
     obtain rfl := els_lit4' f14 l13
     refine Goes.ldN 28 (.tmp 31) 32 28 a9 ([.i ((gi x0.L 0).Kind)] ++ ((U4 ((gi x0.L 0).Set) []) ++ ([.slice A15 (((gi x0.L 0).L).length) c16] ++ ([.i ((gi x0.L 0).Min)] ++ [.i ((gi x0.L 0).Max)])))) (f10.cell) ?_
     refine bind_some' h fun y18 e19 h => ?_
     refine Goes.cal (kc 51 [32] #[28]) 33 92 51 _ (ih_syntax_length (⟨(gi x0.L 0).Kind, ((gi x0.L 0).Set), (gi x0.L 0).L, (gi x0.L 0).Min, (gi x0.L 0).Max⟩ : T27) y18 e19 A15 (((gi x0.L 0).L).length) c16 p2 l13 f17 rfl) ?_
     rintro _ w4 ⟨S4, rfl, z4, p4⟩
     refine Goes.rn 7 [(28, .tuple #[.i y18.1, .bool y18.2]), (34, .i y18.1), (35, .bool y18.2), (6, .i y18.1), (7, .bool y18.2)] Jkz ?_
     have z5 : Ext S4 w4 S4 (w4).drew := Ext.draw
     have p5 := p4.draw
     refine Goes.drawn (s := []) (F := Fc S4 (w4).drew [(⟨b1, 6, none⟩, .i x0.Min), (⟨b1, 7, none⟩, .i x0.Max)]) 9 15 (by kernel_rfl) (by kernel_rfl) (by kernel_rfl) (by kernel_rfl) ?_
     generalize (w4).drew = w5 at z5 p5 ⊢
     refine AnyG.pu 0 (.move (.tmp 6)) 36 3 (.i y18.1) (Fc.here (p5.cs [(0, 6, 2)])) ?_
     refine AnyG.pu 1 (.fieldAddr 28 (.tmp 1) 3) 37 0 ((pt b1 6)) (Fc.here (p5.cs [(0, 6, 2)])) ?_
     refine AnyG.ld1 (i := 2) 3 (.tmp 37) 38 3 ⟨b1, 6, none⟩ (.i x0.Min) (by kernel_rfl) (by kernel_rfl) (Fc.here (p5.cs [(0, 6, 2)])) (by kernel_rfl) (by kernel_rfl) (fun _ h => h.2.at_ 0 rfl) ?_
     refine AnyG.pu 3 (.binOp .mul 3 (.tmp 36) (.tmp 38) 3) 39 3 (.i (wr .i64 (y18.1 * x0.Min))) (Fc.here (p5.cs [(0, 6, 2)])) ?_
     refine AnyG.pu 4 (.call { callee := .builtin .min, args := #[(.tmp 39), (.const (.int .i64 65537))], argTypes := #[3, 3] }) 40 3 (.i (imn (wr .i64 (y18.1 * x0.Min)) 65537)) (Fc.here (p5.cs [(0, 6, 2)])) ?_
     refine AnyG.pu 5 (.move (.tmp 7)) 41 4 (.bool y18.2) (Fc.here (p5.cs [(0, 6, 2)])) ?_
     refine AnyG.pu 6 (.move (.tmp 41)) 42 4 (.bool y18.2) (Fc.here (p5.cs [(0, 6, 2)])) ?_
     refine ite_some h (fun h20 h => ?_) (fun h20 h => ?_)
     ·
      rw [h20]
      refine AnyG.pu 7 (.fieldAddr 28 (.tmp 1) 3) 43 0 ((pt b1 6)) (Fc.here (p5.cs [(0, 6, 2)])) ?_
      refine AnyG.ld1 (i := 8) 3 (.tmp 43) 44 3 ⟨b1, 6, none⟩ (.i x0.Min) (by kernel_rfl) (by kernel_rfl) (Fc.here (p5.cs [(0, 6, 2)])) (by kernel_rfl) (by kernel_rfl) (fun _ h => h.2.at_ 0 rfl) ?_
      refine AnyG.pu 9 (.fieldAddr 28 (.tmp 1) 4) 45 0 ((pt b1 7)) (Fc.here (p5.cs [(0, 6, 2)])) ?_
      refine AnyG.ld1 (i := 10) 3 (.tmp 45) 46 3 ⟨b1, 7, none⟩ (.i x0.Max) (by kernel_rfl) (by kernel_rfl) (Fc.here (p5.cs [(0, 6, 2)])) (by kernel_rfl) (by kernel_rfl) (fun _ h => h.2.at_ 1 rfl) ?_
      refine AnyG.pu 11 (.binOp .eql 3 (.tmp 44) (.tmp 46) 3) 47 4 (.bool (decide (x0.Min = x0.Max))) (Fc.here (p5.cs [(0, 6, 2)])) ?_
      refine AnyG.pu 12 (.pick (.tmp 42) (.tmp 47) (.const (.bool false))) 48 4 (.bool (decide (x0.Min = x0.Max))) (Fc.here (p5.cs [(0, 6, 2)])) ?_
      refine AnyG.pu 13 (.assign (.tmp 40)) 2 3 (.i (imn (wr .i64 (y18.1 * x0.Min)) 65537)) (Fc.here (p5.cs [(0, 6, 2)])) ?_
      refine AnyG.pu 14 (.assign (.tmp 48)) 3 4 (.bool (decide (x0.Min = x0.Max))) (Fc.here (p5.cs [(0, 6, 2)])) ?_
      refine AnyG.done (by kernel_rfl) ?_ _
      have p5 := p5.dp 0
      exact Goes.jp 69 [(2, .i (imn (wr .i64 (y18.1 * x0.Min)) 65537)), (3, .bool (decide (x0.Min = x0.Max)))] (W.z2v _ _ h _ _ ((((Ext.refl S0 w0).trans z2).trans z4).trans z5) p5)
     ·
      have uc7 : y18.2 = false := by simpa using h20
      rw [uc7]
      refine AnyG.s1 7 43 (Fc.here (p5.cs [(0, 6, 2)])) ?_
      refine AnyG.s1 8 44 (Fc.here (p5.cs [(0, 6, 2)])) ?_
      refine AnyG.s1 9 45 (Fc.here (p5.cs [(0, 6, 2)])) ?_
      refine AnyG.s1 10 46 (Fc.here (p5.cs [(0, 6, 2)])) ?_
      refine AnyG.s1 11 47 (Fc.here (p5.cs [(0, 6, 2)])) ?_
      refine AnyG.pu 12 (.pick (.tmp 42) (.tmp 47) (.const (.bool false))) 48 4 (.bool false) (Fc.here (p5.cs [(0, 6, 2)])) ?_
      refine AnyG.pu 13 (.assign (.tmp 40)) 2 3 (.i (imn (wr .i64 (y18.1 * x0.Min)) 65537)) (Fc.here (p5.cs [(0, 6, 2)])) ?_
      refine AnyG.pu 14 (.assign (.tmp 48)) 3 4 (.bool false) (Fc.here (p5.cs [(0, 6, 2)])) ?_
      refine AnyG.done (by kernel_rfl) ?_ _
      have p5 := p5.dp 0
      exact Goes.jp 69 [(2, .i (imn (wr .i64 (y18.1 * x0.Min)) 65537)), (3, .bool false)] (W.z2v _ _ h _ _ ((((Ext.refl S0 w0).trans z2).trans z4).trans z5) p5)
    ·
     rw [decide_eq_false h7]
     refine Goes.rn 11 [(8, .i 0), (49, (pt b1 5))] Jl1 ?_
     refine Goes.ld 26 (.tmp 49) 50 26 ⟨b1, 5, none⟩ (.slice ubc x0.L.length ube) (p2.c 0 5) ?_
     refine Goes.rn 5 [(51, .i (x0.L.length : Int)), (52, .i 0)] Jkl ?_
     have p2 := p2.dp 0
     exact Goes.jp 69 [(8, .i 0), (50, .slice ubc x0.L.length ube), (51, .i (x0.L.length : Int)), (52, .i 0)] (uch _ _ h _ _ ((Ext.refl S0 w0).trans z2) ubc x0.L.length ube p2 (ubp.ext z2) rfl)
 ·
  intro rec_syntax_length ucg ih_syntax_length uch ⟨x8, x50, x51, x52⟩ r h nz wz S0 w0 Lr iG S1 w1 hx ucd uce ucf p1 uci ucj junk
  try dsimp only at h
  subst ucj
  refine Goes.rn 5 [(53, .bool (decide (x52 < x51)))] Jl3 ?_
  refine ite_some h (fun h21 h => ?_) (fun h21 h => ?_)
  ·
   rw [decide_eq_true h21]
   refine Goes.rn 6 [] Jl7 ?_
   refine guard_some' h fun g22 h => ?_
   refine guard_some' h fun g23 h => ?_
   refine Op_.ixR_n 26 (.tmp 50) (.tmp 52) 54 0 28 .i64 x52 (gi x50 x52) rfl rfl uci Goes.v (by kernel_rfl) (by kernel_rfl) (by kernel_rfl) (by kernel_rfl) g22 g23 ?_
   intro a24 _ f25 q26
   have q27 := q26
   obtain ⟨_, _, rfl, rfl, ⟨_, _, rfl, ⟨l28, f29⟩, ⟨_, _, rfl, ⟨A30, c31, rfl, f32⟩, ⟨_, _, rfl, rfl, rfl⟩⟩⟩⟩ := kT27_open q27
   obtain rfl := els_lit4' f29 l28
   refine Goes.ldN 28 (.tmp 54) 55 28 a24 ([.i ((gi x50 x52).Kind)] ++ ((U4 ((gi x50 x52).Set) []) ++ ([.slice A30 (((gi x50 x52).L).length) c31] ++ ([.i ((gi x50 x52).Min)] ++ [.i ((gi x50 x52).Max)])))) (f25.cell) ?_
   refine Op_.alloc 28 10 0 (.agg #[.i 0, .u 0, .u 0, .u 0, .u 0, .slice none 0 0, .i 0, .i 0]) [.i 0, .u 0, .u 0, .u 0, .u 0, .slice none 0 0, .i 0, .i 0] p1 Goes.v (by kernel_rfl) (by kernel_rfl) ?_
   intro b33 w6 z6 p6
   refine Op_.st 28 (.tmp 10) (.tmp 55) 0 0 b33 0 (ag (.i ((gi x50 x52).Kind) :: U4 ((gi x50 x52).Set) [.slice A30 (((gi x50 x52).L).length) c31, .i ((gi x50 x52).Min), .i ((gi x50 x52).Max)])) (.i ((gi x50 x52).Kind) :: U4 ((gi x50 x52).Set) [.slice A30 (((gi x50 x52).L).length) c31, .i ((gi x50 x52).Min), .i ((gi x50 x52).Max)]) p6 rfl Goes.s (by kernel_rfl) (by kernel_rfl) (by kernel_rfl) (by kernel_rfl) (Nat.zero_le _) (by simp only [List.length_cons, List.length_nil]; omega) (by simp [Value.oneCell']) ?_
   intro w7 z7 p7
   have p7 : Hp nz wz S1 w7 ((some b33, .row 28 (.i ((gi x50 x52).Kind) :: U4 ((gi x50 x52).Set) [.slice A30 (((gi x50 x52).L).length) c31, .i ((gi x50 x52).Min), .i ((gi x50 x52).Max)]) 8 0) :: Lr) := p7
   refine Goes.rn 3 [] Jl9 ?_
   refine Goes.ldN 28 (.tmp 10) 57 28 ⟨b33, 0, none⟩ (.i ((gi x50 x52).Kind) :: U4 ((gi x50 x52).Set) [.slice A30 (((gi x50 x52).L).length) c31, .i ((gi x50 x52).Min), .i ((gi x50 x52).Max)]) (p7.pa 0 0) ?_
   refine bind_some' h fun y35 e36 h => ?_
   refine Goes.cal (kc 51 [57] #[28]) 58 92 51 _ (ih_syntax_length (⟨(gi x50 x52).Kind, ((gi x50 x52).Set), (gi x50 x52).L, (gi x50 x52).Min, (gi x50 x52).Max⟩ : T27) y35 e36 A30 (((gi x50 x52).L).length) c31 p7 l28 (f32.ext (z6.trans z7)) rfl) ?_
   rintro _ w8 ⟨S8, rfl, z8, p8⟩
   have p8 := p8.dp 0
   refine Goes.rn 12 [(56, .tuple #[.i y35.1, .bool y35.2]), (59, .i y35.1), (60, .bool y35.2), (11, .i y35.1), (12, .bool y35.2), (61, .bool y35.2), (62, .bool (!y35.2))] Jlb ?_
   refine ite_some h (fun h37 h => ?_) (fun h37 h => ?_)
   ·
    rw [h37]
    refine Goes.rn 14 [(63, .i x8), (64, .i y35.1), (65, .i (wr .i64 (x8 + y35.1))), (66, .i (imn (wr .i64 (x8 + y35.1)) 65537)), (8, .i (imn (wr .i64 (x8 + y35.1)) 65537)), (67, .i (wr .i64 (x52 + 1))), (52, .i (wr .i64 (x52 + 1)))] Jkk ?_
    refine Goes.rn 1 [] Jkl ?_
    exact Goes.jp 69 [(8, .i (imn (wr .i64 (x8 + y35.1)) 65537)), (50, .slice ucd x50.length ucf), (51, .i x51), (52, .i (wr .i64 (x52 + 1)))] (uch _ _ h _ _ (((hx.trans z6).trans z7).trans z8) ucd x50.length ucf p8 (uci.ext ((z6.trans z7).trans z8)) rfl)
   ·
    have uck : y35.2 = false := by simpa using h37
    rw [uck]
    refine Goes.rn 6 [(2, .i 0), (3, .bool false)] Jlc ?_
    obtain rfl := Option.some.inj h
    exact Goes.rt Tryd.f51 (.tuple #[.i 0, .bool false]) ⟨S8, rfl, (((hx.trans z6).trans z7).trans z8), p8⟩
  ·
   rw [decide_eq_false h21]
   refine Goes.rn 8 [(68, .i x8), (2, .i x8), (3, .bool true)] Jld ?_
   obtain rfl := Option.some.inj h
   exact Goes.rt Tryd.f51 (.tuple #[.i x8, .bool true]) ⟨S1, rfl, hx, p1⟩

theorem W.z2u : ∀ a r, M.syntax_length a = some r → LF.z2u a r := (W.z2x).1

theorem W.z2w : ∀ a r, M.syntax_length_l1 a = some r → LL.z2w a r := (W.z2x).2

def Qh6 := sub [1, 1] B52
def Jle : List Item := [.code Qh6]
def Jlf : List Item := .inBlock 0 :: Jle
def Qh7 := sub [1, 0, 0, 1, 1, 1] B52
def Jlg : List Item := .code Qh7 :: Jlf
def Qh8 := sub [1, 1, 1, 1] B52
def Jlh : List Item := [.code Qh8]
def Jli : List Item := .inBlock 1 :: Jlh
def Qh9 := sub [1, 1, 1, 0, 1, 0, 0] B52
def Jlj : List Item := .inLoop Qh9 :: Jli
def Jlk : List Item := .code Qh9 :: Jlj
def Qha := sub [1] B52
def Jll : List Item := [.code Qha]
def Qhb := sub [0] B52
def Jlm : List Item := .inRegion (opsOf Qhb) [0, 1] :: Jll
def Qhc := sub [1, 0, 0, 1] B52
def Jln : List Item := .code Qhc :: Jlf
def Qhd := sub [1, 0, 0, 0] B52
def Jlo : List Item := .inRegion (opsOf Qhd) [1, 2, 3] :: Jln
def Qhe := sub [1, 0, 0, 1, 0, 1] B52
def Jlp : List Item := .code Qhe :: Jlf
def Qhf := sub [1, 0, 0, 1, 0, 0] B52
def Jlq : List Item := .inRegion (opsOf Qhf) [1, 2, 3, 4, 5, 6, 7] :: Jlp
def Qhg := sub [1, 0, 0, 1, 0, 1, 1] B52
def Jlr : List Item := .code Qhg :: Jlf
def Qhh := sub [1, 0, 0, 1, 0, 1, 0] B52
def Jls : List Item := .inRegion (opsOf Qhh) [1, 2, 3] :: Jlr
def Qhi := sub [1, 0, 0, 1, 1, 0] B52
def Jlt : List Item := .inRegion (opsOf Qhi) [1, 2, 3, 4, 5, 6, 7, 8] :: Jlg
def Jlu : List Item := .inRegion (opsOf Qhi) [4, 5, 6, 7, 8] :: Jlg
def Jlv : List Item := .inRegion (opsOf Qhi) [5, 6, 7, 8] :: Jlg
def Qhj := sub [1, 0, 0, 1, 1, 1, 0, 1] B52
def Jlw : List Item := .code Qhj :: Jlf
def Qhk := sub [1, 0, 0, 1, 1, 1, 1, 1] B52
def Jlx : List Item := .code Qhk :: Jlf
def Qhl := sub [1, 0, 0, 1, 1, 1, 1, 0] B52
def Jly : List Item := .inRegion (opsOf Qhl) [1, 2, 3] :: Jlx
def Qhm := sub [1, 0, 0, 1, 1, 1, 1, 1, 0, 1] B52
def Jlz : List Item := .code Qhm :: Jlf
def Qhn := sub [1, 0, 0, 1, 1, 1, 1, 1, 0, 0] B52
def Jm0 : List Item := .code Qhn :: Jlz
def Qho := sub [1, 1, 1] B52
def Jm1 : List Item := [.code Qho]
def Qhp := sub [1, 1, 0] B52
def Jm2 : List Item := .inRegion (opsOf Qhp) [0] :: Jm1
def Qhq := sub [1, 1, 1, 0, 1] B52
def Jm3 : List Item := .code Qhq :: Jlh
def Qhr := sub [1, 1, 1, 0, 0] B52
def Jm4 : List Item := .inRegion (opsOf Qhr) [1, 2, 3] :: Jm3
def Qhs := sub [1, 1, 1, 0, 1, 0, 0, 1, 1] B52
def Jm5 : List Item := .code Qhs :: Jlj
def Qht := sub [1, 1, 1, 0, 1, 0, 0, 1, 0] B52
def Jm6 : List Item := .code Qht :: Jm5
def Qhu := sub [1, 1, 1, 0, 1, 0, 0, 1, 1, 1] B52
def Jm7 : List Item := .code Qhu :: Jlj
def Jm8 : List Item := .inBlock 2 :: Jm7
def Qhv := sub [1, 1, 1, 0, 1, 0, 0, 1, 1, 0, 0, 1] B52
def Jm9 : List Item := .code Qhv :: Jm8
def Qhw := sub [1, 1, 1, 0, 1, 0, 0, 1, 1, 0, 0, 0] B52
def Jma : List Item := .inRegion (opsOf Qhw) [0, 1, 2, 3] :: Jm9
def Jmb : List Item := .inRegion (opsOf Qhv) [0, 1, 2] :: Jm8
def Qhx := sub [1, 1, 1, 1, 1] B52
def Jmc : List Item := [.code Qhx]
def Qhy := sub [1, 1, 1, 1, 0] B52
def Jmd : List Item := .inRegion (opsOf Qhy) [0, 1] :: Jmc

def Post.z2y (r : ByteArray) (v : Value) (w' : World) : Prop :=
 ∃ S', v = .string r ∧ Ext S0 w0 S' w' ∧ Hp nz wz S' w' (Lr)

def LF.z2y : T27 → ByteArray → Prop := fun x0 r => ∀ {nz wz S0 w0 Lr} [Gw nz wz] ubc ubd ube (_ : Hp nz wz S0 w0 (Lr)) (_ : x0.Set.length = 4) (_ : Rd kT27 S0 w0 ubc ube x0.L) (_ : x0.L.length = ubd),
 Calls Tryd.prog 52 #[(ag (.i x0.Kind :: U4 x0.Set [.slice ubc ubd ube, .i x0.Min, .i x0.Max]))] w0 (Rets (Post.z2y nz wz S0 w0 Lr r))

def L.z2z : T27 × Bool → ByteArray → Prop := fun ⟨x1v, x21⟩ r => ∀ S1 w1, Ext S0 w0 S1 w1 → ∀ gx1 uby ubz uc0 (_ : Hp nz wz S1 w1 ((some gx1, .row 28 (.i x1v.Kind :: U4 x1v.Set [.slice uby ubz uc0, .i x1v.Min, .i x1v.Max]) 8 0) :: Lr)) (_ : x1v.Set.length = 4) (_ : Rd kT27 S1 w1 uby uc0 x1v.L) (_ : x1v.L.length = ubz) (junk : Nat → Value),
 Goes Tryd.prog (base 52) Jlg ⟨lfr 54 [(1, (pt gx1 0)), (21, .bool x21)] junk, []⟩ w1 (Done Tryd.prog 52 (Rets (Post.z2y nz wz S0 w0 Lr r)))

def LL.z2z : T27 × Bool → ByteArray → Prop := fun a r => ∀ {nz wz S0 w0 Lr} [Gw nz wz], L.z2z nz wz S0 w0 Lr a r

def L.z30 : (List Int) × (List T27) × Int × Int → ByteArray → Prop := fun ⟨ucl, x43, x44, x45⟩ r => ∀ S1 w1, Ext S0 w0 S1 w1 → ∀ gx5 ucm ucn uco ucp ucq ucr ucs (_ : Hp nz wz S1 w1 ((some gx5, .row 56 [.pointer none, .slice (Gp ucm) ucn uco] 2 0) :: (ucm, .row 5 ucp (uco * (kInt .u8).size) 0) :: Lr)) (_ : Els (kInt .u8) S1 w1 ucp ucl) (_ : ucl.length = ucn) (_ : Rd kT27 S1 w1 ucq ucs x43) (_ : x43.length = ucr) (junk : Nat → Value),
 Goes Tryd.prog (base 52) Jlk ⟨lfr 54 [(5, (pt gx5 0)), (43, .slice ucq ucr ucs), (44, .i x44), (45, .i x45)] junk, []⟩ w1 (Done Tryd.prog 52 (Rets (Post.z2y nz wz S0 w0 Lr r)))

def LL.z30 : (List Int) × (List T27) × Int × Int → ByteArray → Prop := fun a r => ∀ {nz wz S0 w0 Lr} [Gw nz wz], L.z30 nz wz S0 w0 Lr a r

def L.z31 : (List Int) × (List T27) × Int × Int → ByteArray → Prop := fun ⟨ucl, x43, x44, x45⟩ r => ∀ S1 w1, Ext S0 w0 S1 w1 → ∀ gx5 ucm ucn uco ucp ucq ucr ucs (_ : Hp nz wz S1 w1 ((some gx5, .row 56 [(pt gx5 0), .slice (Gp ucm) ucn uco] 2 0) :: (ucm, .row 5 ucp (uco * (kInt .u8).size) 0) :: Lr)) (_ : Els (kInt .u8) S1 w1 ucp ucl) (_ : ucl.length = ucn) (_ : Rd kT27 S1 w1 ucq ucs x43) (_ : x43.length = ucr) (junk : Nat → Value),
 Goes Tryd.prog (base 52) Jlk ⟨lfr 54 [(5, (pt gx5 0)), (43, .slice ucq ucr ucs), (44, .i x44), (45, .i x45)] junk, []⟩ w1 (Done Tryd.prog 52 (Rets (Post.z2y nz wz S0 w0 Lr r)))

def LL.z31 : (List Int) × (List T27) × Int × Int → ByteArray → Prop := fun a r => ∀ {nz wz S0 w0 Lr} [Gw nz wz], L.z31 nz wz S0 w0 Lr a r

theorem W.z32 : (∀ a r, M.syntax_spelled a = some r → LF.z2y a r) ∧ (∀ a r, M.syntax_spelled_l0 a = some r → LL.z2z a r) ∧ (∀ a r, M.syntax_spelled_l1 a = some r → LL.z30 a r) ∧ (∀ a r, M.syntax_spelled_l2 a = some r → LL.z31 a r) := by
 refine M.syntax_spelled.mutual_partial_correctness LF.z2y LL.z2z LL.z30 LL.z31 ?_ ?_ ?_ ?_
 ·
  intro uct ucu x0 r h nz wz S0 w0 Lr iG ubc ubd ube p0 ubo ubp ubq
  try dsimp only at h
  subst ubq
  refine calls_of_goes (fn := Tryd.f52) (c := B52) (by kernel_rfl) (by kernel_rfl) 53 (by kernel_rfl) ?_
  refine Goes.jp 54 [(0, (ag (.i x0.Kind :: U4 x0.Set [.slice ubc x0.L.length ube, .i x0.Min, .i x0.Max])))] (fun junk => ?_)
  refine Goes.rn 2 [] Jlm ?_
  refine Op_.box 28 (.tmp 0) 1 0 (ag (.i x0.Kind :: U4 x0.Set [.slice ubc x0.L.length ube, .i x0.Min, .i x0.Max])) (.i x0.Kind :: U4 x0.Set [.slice ubc x0.L.length ube, .i x0.Min, .i x0.Max]) p0 Goes.v (by kernel_rfl) (by kernel_rfl) ?_
  intro b1 w2 z2 p2
  refine Goes.rn 7 [(2, .string (⟨#[]⟩ : ByteArray)), (9, (pt b1 0))] Jlo ?_
  refine Goes.ld 3 (.tmp 9) 10 3 ⟨b1, 0, none⟩ (.i x0.Kind) (p2.c 0 0) ?_
  refine Goes.rn 3 [(11, .bool (decide (x0.Kind = 1))), (8, .bool (decide (x0.Kind = 1)))] Jln ?_
  refine ite_some h (fun h3 h => ?_) (fun h3 h => ?_)
  ·
   rw [decide_eq_true h3]
   refine Goes.rn 4 [(13, (pt b1 1))] Jlq ?_
   refine Goes.ldN 25 (.tmp 13) 14 25 ⟨b1, 1, none⟩ (U4 x0.Set []) (p2.pa 0 1) ?_
   refine bind_some' h fun y4 e5 h => ?_
   refine Goes.cal (kc 69 [14] #[25]) 15 114 69 _ (W.z2q x0.Set y4 e5 ((U4 x0.Set []) : List Value) p2 (els_mk4 (S := S0) (w := w2) (k := .u64) ubo) rfl) ?_
   rintro _ w3 ⟨S3, rfl, z3, p3⟩
   have p3 := p3.dp 0
   refine Goes.rn 9 [(12, .tuple #[.int .u8 y4.1, .bool y4.2]), (16, .int .u8 y4.1), (17, .bool y4.2), (3, .int .u8 y4.1), (4, .bool y4.2), (18, .int .u8 y4.1)] Jls ?_
   have f7 : Els (kInt .u8) S3 w3 ([.int .u8 y4.1] : List Value) [y4.1] := by exact (Els.cons (K := (kInt .u8)) (vs := [.int .u8 y4.1]) (x := y4.1) rfl Els.nil)
   refine Op_.made (.buildSlice 54 1 #[(0, (.tmp 18))]) 19 54 (fun b => .slice (Gp (some b)) 1 1) 5 ([.int .u8 y4.1] : List Value) p3 Goes.v (by kernel_rfl) ?_
   intro b6 w4 z4 p4
   have p4 : Hp nz wz S3 w4 (((some b6), .row 5 ([.int .u8 y4.1] : List Value) (1 * (kInt .u8).size) 0) :: Lr) := p4
   obtain ⟨S5, z5, p5, f9⟩ := p4.freezeRd 0 rfl (f7.ext z4) (by decide)
   refine Op_.b2s_n 54 9 (.tmp 19) 20 9 5 (b2s [y4.1]) rfl rfl f9 Goes.v (by kernel_rfl) (by kernel_rfl) (by kernel_rfl) (by kernel_rfl) ?_
   refine Goes.rn 2 [(2, .string (b2s [y4.1]))] Jlr ?_
   obtain rfl := Option.some.inj h
   have p5 := p5.dp 0
   exact Goes.rt Tryd.f52 (.string (b2s [y4.1])) ⟨S5, rfl, (((((Ext.refl S0 w0).trans z2).trans z3).trans z4).trans z5), p5⟩
  ·
   rw [decide_eq_false h3]
   refine Goes.rn 4 [(22, (pt b1 0))] Jlt ?_
   refine Goes.ld 3 (.tmp 22) 23 3 ⟨b1, 0, none⟩ (.i x0.Kind) (p2.c 0 0) ?_
   refine Goes.rn 2 [(24, .bool (decide (x0.Kind = 4))), (25, .bool (decide (x0.Kind = 4)))] Jlu ?_
   refine ite_some h (fun h10 h => ?_) (fun h10 h => ?_)
   ·
    rw [decide_eq_true h10]
    refine Goes.rn 1 [(26, (pt b1 6))] Jlv ?_
    refine Goes.ld 3 (.tmp 26) 27 3 ⟨b1, 6, none⟩ (.i x0.Min) (p2.c 0 6) ?_
    refine Goes.rn 4 [(28, .bool (decide (x0.Min = 0))), (29, .bool (decide (x0.Min = 0))), (21, .bool (decide (x0.Min = 0)))] Jlg ?_
    exact Goes.jp 54 [(1, (pt b1 0)), (21, .bool (decide (x0.Min = 0)))] (ucu _ _ h _ _ ((Ext.refl S0 w0).trans z2) b1 ubc x0.L.length ube p2 ubo (ubp.ext z2) rfl)
   ·
    rw [decide_eq_false h10]
    refine Goes.rn 6 [(26, undef), (27, undef), (28, undef), (29, .bool false), (21, .bool false)] Jlg ?_
    exact Goes.jp 54 [(1, (pt b1 0)), (21, .bool false)] (ucu _ _ h _ _ ((Ext.refl S0 w0).trans z2) b1 ubc x0.L.length ube p2 ubo (ubp.ext z2) rfl)
 ·
  intro rec_syntax_spelled ucv ih_syntax_spelled ucw ⟨x1v, x21⟩ r h nz wz S0 w0 Lr iG S1 w1 hx gx1 uby ubz uc0 p1 uc1 uc2 uc3 junk
  try dsimp only at h
  subst uc3
  refine ite_some h (fun h12 h => ?_) (fun h12 h => ?_)
  ·
   rw [h12]
   refine Goes.rn 5 [(2, .string (⟨#[]⟩ : ByteArray))] Jlw ?_
   obtain rfl := Option.some.inj h
   have p1 := p1.dp 0
   exact Goes.rt Tryd.f52 (.string (⟨#[]⟩ : ByteArray)) ⟨S1, rfl, hx, p1⟩
  ·
   have ucx : x21 = false := by simpa using h12
   rw [ucx]
   refine Goes.rn 4 [(31, (pt gx1 0))] Jly ?_
   refine Goes.ld 3 (.tmp 31) 32 3 ⟨gx1, 0, none⟩ (.i x1v.Kind) (p1.c 0 0) ?_
   refine Goes.rn 3 [(33, .bool (decide (x1v.Kind = 4))), (30, .bool (decide (x1v.Kind = 4)))] Jlx ?_
   refine ite_some h (fun h13 h => ?_) (fun h13 h => ?_)
   ·
    rw [decide_eq_true h13]
    refine Goes.rn 2 [] Jm0 ?_
    have z6 : Ext S1 w1 S1 (w1).drew := Ext.draw
    have p6 := p1.draw
    refine Goes.drawn (s := [7]) (F := Fc S1 (w1).drew [(⟨gx1, 5, none⟩, .slice uby x1v.L.length uc0), (⟨gx1, 6, none⟩, .i x1v.Min)]) 7 9 (by kernel_rfl) (by kernel_rfl) (by kernel_rfl) (by kernel_rfl) ?_
    generalize (w1).drew = w6 at z6 p6 ⊢
    refine AnyG.pu 0 (.fieldAddr 28 (.tmp 1) 2) 34 0 ((pt gx1 5)) (Fc.here (p6.cs [(0, 5, 2)])) ?_
    refine AnyG.ld1 (i := 1) 26 (.tmp 34) 35 26 ⟨gx1, 5, none⟩ (.slice uby x1v.L.length uc0) (by kernel_rfl) (by kernel_rfl) (Fc.here (p6.cs [(0, 5, 2)])) (by kernel_rfl) (by kernel_rfl) (fun _ h => h.2.at_ 0 rfl) ?_
    refine guard_some' h fun g14 h => ?_
    refine AnyG.ixR_n (i := 2) 26 (.tmp 35) (.const (.int .i64 0)) 36 0 28 .i64 0 (gi x1v.L 0) rfl rfl (uc2.ext z6) (by kernel_rfl) (by kernel_rfl) (Fc.here (p6.cs [(0, 5, 2)])) (by kernel_rfl) (by kernel_rfl) (by kernel_rfl) (by kernel_rfl) (by decide : (0 : Int) ≤ 0) g14 ?_
    intro a15 _ f16 q17
    have q18 := q17
    obtain ⟨_, _, rfl, rfl, ⟨_, _, rfl, ⟨l19, f20⟩, ⟨_, _, rfl, ⟨A21, c22, rfl, f23⟩, ⟨_, _, rfl, rfl, rfl⟩⟩⟩⟩ := kT27_open q18
    obtain rfl := els_lit4' f20 l19
    refine AnyG.ldN (i := 3) 28 (.tmp 36) 37 28 a15 ([.i ((gi x1v.L 0).Kind)] ++ ((U4 ((gi x1v.L 0).Set) []) ++ ([.slice A21 (((gi x1v.L 0).L).length) c22] ++ ([.i ((gi x1v.L 0).Min)] ++ [.i ((gi x1v.L 0).Max)])))) (by kernel_rfl) (by kernel_rfl) (Fc.here (p6.cs [(0, 5, 2)])) (by kernel_rfl) (by kernel_rfl) (by kernel_rfl) (fun _ h => f16.fc h) ?_
    refine AnyG.pu 5 (.fieldAddr 28 (.tmp 1) 3) 39 0 ((pt gx1 6)) (Fc.here (p6.cs [(0, 5, 2)])) ?_
    refine AnyG.ld1 (i := 6) 3 (.tmp 39) 40 3 ⟨gx1, 6, none⟩ (.i x1v.Min) (by kernel_rfl) (by kernel_rfl) (Fc.here (p6.cs [(0, 5, 2)])) (by kernel_rfl) (by kernel_rfl) (fun _ h => h.2.at_ 1 rfl) ?_
    refine bind_some' h fun y24 e25 h => ?_
    refine Op_.call (kc 52 [37] #[28]) 38 9 52 #[(ag (.i ((gi x1v.L 0).Kind) :: U4 ((gi x1v.L 0).Set) [.slice A21 (((gi x1v.L 0).L).length) c22, .i ((gi x1v.L 0).Min), .i ((gi x1v.L 0).Max)]))] (AnyG.cs (i := 4) (by kernel_rfl) (by kernel_rfl)) (by kernel_rfl) (ih_syntax_spelled (⟨(gi x1v.L 0).Kind, ((gi x1v.L 0).Set), (gi x1v.L 0).L, (gi x1v.L 0).Min, (gi x1v.L 0).Max⟩ : T27) y24 e25 A21 (((gi x1v.L 0).L).length) c22 p6 l19 f23 rfl) ?_
    rintro _ w7 ⟨S7, rfl, z7, p7⟩
    refine AnyG.next z7 ⟨(p7.c 0 5), (p7.c 0 6), trivial⟩ ?_
    refine guard_some' h fun g26 h => ?_
    refine guard_some' h fun g27 h => ?_
    refine guard_some' h fun g28 h => ?_
    refine Op_.call (kc 70 [38, 40] #[9, 3]) 41 9 70 #[.string y24, .i x1v.Min] (AnyG.cs (i := 7) (by kernel_rfl) (by kernel_rfl)) (by kernel_rfl) (rep_calls Tryd.lays105 Tryd.Builder_Extra_105 p7 y24 x1v.Min g26 g27 g28) ?_
    rintro _ w8 ⟨rfl, z8, p8⟩
    have p8 : Hp nz wz S7 w8 ((some gx1, .row 28 (.i x1v.Kind :: U4 x1v.Set [.slice uby x1v.L.length uc0, .i x1v.Min, .i x1v.Max]) 8 0) :: Lr) := p8
    refine AnyG.last [] (Fc S7 w8 []) (by decide) ?_
    refine AnyG.pu 8 (.assign (.tmp 41)) 2 9 (.string (repB y24 x1v.Min)) (Fc.here trivial) ?_
    refine AnyG.done (by kernel_rfl) ?_ _
    have p8 := p8.dp 0
    obtain rfl := Option.some.inj h
    exact Goes.rt Tryd.f52 (.string (repB y24 x1v.Min)) ⟨S7, rfl, (((hx.trans z6).trans z7).trans z8), p8⟩
   ·
    rw [decide_eq_false h13]
    refine Goes.rn 5 [] Jm2 ?_
    refine Op_.alloc 56 5 0 (.agg #[.pointer none, .slice none 0 0]) [.pointer none, .slice none 0 0] p1 Goes.v (by kernel_rfl) (by kernel_rfl) ?_
    intro b29 w9 z9 p9
    refine Goes.rn 5 [(42, (pt gx1 5))] Jm4 ?_
    refine Goes.ld 26 (.tmp 42) 43 26 ⟨gx1, 5, none⟩ (.slice uby x1v.L.length uc0) (p9.c 1 5) ?_
    refine Goes.rn 5 [(44, .i (x1v.L.length : Int)), (45, .i 0)] Jlk ?_
    have p9 : Hp nz wz S1 w9 ((none, .row 5 [] (0 * (kInt .u8).size) 0) :: (some b29, .row 56 [.pointer none, .slice none 0 0] 2 0) :: (some gx1, .row 28 (.i x1v.Kind :: U4 x1v.Set [.slice uby x1v.L.length uc0, .i x1v.Min, .i x1v.Max]) 8 0) :: Lr) := p9.nilRow' 5
    have p9 := p9.dp 2
    have p9 := (p9.fr 0).fr 1
    exact Goes.jp 54 [(5, (pt b29 0)), (43, .slice uby x1v.L.length uc0), (44, .i (x1v.L.length : Int)), (45, .i 0)] (ucw _ _ h _ _ (hx.trans z9) b29 none 0 0 [] uby x1v.L.length uc0 p9 (Els.nil (K := (kInt .u8))) rfl (uc2.ext z9) rfl)
 ·
  intro rec_syntax_spelled ucy ih_syntax_spelled ucz ⟨ucl, x43, x44, x45⟩ r h nz wz S0 w0 Lr iG S1 w1 hx gx5 ucm ucn uco ucp ucq ucr ucs p1 ud0 ud1 ud2 ud3 junk
  try dsimp only at h
  subst ud1
  subst ud3
  refine Goes.rn 5 [(46, .bool (decide (x45 < x44)))] Jm6 ?_
  refine ite_some h (fun h34 h => ?_) (fun h34 h => ?_)
  ·
   rw [decide_eq_true h34]
   refine Goes.rn 6 [] Jma ?_
   refine guard_some' h fun g35 h => ?_
   refine guard_some' h fun g36 h => ?_
   refine Op_.ixR_n 26 (.tmp 43) (.tmp 45) 47 0 28 .i64 x45 (gi x43 x45) rfl rfl ud2 Goes.v (by kernel_rfl) (by kernel_rfl) (by kernel_rfl) (by kernel_rfl) g35 g36 ?_
   intro a37 _ f38 q39
   have q40 := q39
   obtain ⟨_, _, rfl, rfl, ⟨_, _, rfl, ⟨l41, f42⟩, ⟨_, _, rfl, ⟨A43, c44, rfl, f45⟩, ⟨_, _, rfl, rfl, rfl⟩⟩⟩⟩ := kT27_open q40
   obtain rfl := els_lit4' f42 l41
   refine Goes.ldN 28 (.tmp 47) 48 28 a37 ([.i ((gi x43 x45).Kind)] ++ ((U4 ((gi x43 x45).Set) []) ++ ([.slice A43 (((gi x43 x45).L).length) c44] ++ ([.i ((gi x43 x45).Min)] ++ [.i ((gi x43 x45).Max)])))) (f38.cell) ?_
   refine Op_.alloc 28 7 0 (.agg #[.i 0, .u 0, .u 0, .u 0, .u 0, .slice none 0 0, .i 0, .i 0]) [.i 0, .u 0, .u 0, .u 0, .u 0, .slice none 0 0, .i 0, .i 0] p1 Goes.v (by kernel_rfl) (by kernel_rfl) ?_
   intro b46 w10 z10 p10
   refine Op_.st 28 (.tmp 7) (.tmp 48) 0 0 b46 0 (ag (.i ((gi x43 x45).Kind) :: U4 ((gi x43 x45).Set) [.slice A43 (((gi x43 x45).L).length) c44, .i ((gi x43 x45).Min), .i ((gi x43 x45).Max)])) (.i ((gi x43 x45).Kind) :: U4 ((gi x43 x45).Set) [.slice A43 (((gi x43 x45).L).length) c44, .i ((gi x43 x45).Min), .i ((gi x43 x45).Max)]) p10 rfl Goes.s (by kernel_rfl) (by kernel_rfl) (by kernel_rfl) (by kernel_rfl) (Nat.zero_le _) (by simp only [List.length_cons, List.length_nil]; omega) (by simp [Value.oneCell']) ?_
   intro w11 z11 p11
   have p11 : Hp nz wz S1 w11 ((some b46, .row 28 (.i ((gi x43 x45).Kind) :: U4 ((gi x43 x45).Set) [.slice A43 (((gi x43 x45).L).length) c44, .i ((gi x43 x45).Min), .i ((gi x43 x45).Max)]) 8 0) :: (some gx5, .row 56 [.pointer none, .slice (Gp ucm) ucl.length uco] 2 0) :: (ucm, .row 5 ucp (uco * (kInt .u8).size) 0) :: Lr) := p11
   refine Goes.rn 2 [] Jmb ?_
   refine Goes.ldN 28 (.tmp 7) 49 28 ⟨b46, 0, none⟩ (.i ((gi x43 x45).Kind) :: U4 ((gi x43 x45).Set) [.slice A43 (((gi x43 x45).L).length) c44, .i ((gi x43 x45).Min), .i ((gi x43 x45).Max)]) (p11.pa 0 0) ?_
   refine bind_some' h fun y48 e49 h => ?_
   refine Goes.cal (kc 52 [49] #[28]) 50 9 52 _ (ih_syntax_spelled (⟨(gi x43 x45).Kind, ((gi x43 x45).Set), (gi x43 x45).L, (gi x43 x45).Min, (gi x43 x45).Max⟩ : T27) y48 e49 A43 (((gi x43 x45).L).length) c44 p11 l41 (f45.ext (z10.trans z11)) rfl) ?_
   rintro _ w12 ⟨S12, rfl, z12, p12⟩
   have p12 := p12.dp 0
   refine bind_some' h fun y50 e51 h => ?_
   refine Goes.cal (kc 27 [5, 50] #[56, 9]) 51 61 27 _ (W.zd ucl y48 y50 e51 gx5 ucm ucl.length uco ucp p12 (ud0.ext ((z10.trans z11).trans z12)) rfl) ?_
   rintro _ w13 ⟨S13, ud4, ud5, ud6, ud7, rfl, z13, p13, ud8, rfl⟩
   refine Goes.rn 7 [(52, .i (wr .i64 (x45 + 1))), (45, .i (wr .i64 (x45 + 1)))] Jlk ?_
   exact Goes.jp 54 [(5, (pt gx5 0)), (43, .slice ucq x43.length ucs), (44, .i x44), (45, .i (wr .i64 (x45 + 1)))] (ucz _ _ h _ _ ((((hx.trans z10).trans z11).trans z12).trans z13) gx5 ud4 y50.2.length ud6 ud7 ucq x43.length ucs p13 ud8 rfl (ud2.ext (((z10.trans z11).trans z12).trans z13)) rfl)
  ·
   rw [decide_eq_false h34]
   refine Goes.rn 4 [] Jmd ?_
   refine bind_some' h fun y55 e56 h => ?_
   refine Goes.cal (kc 28 [5] #[56]) 53 9 28 _ (W.ze ucl y55 e56 gx5 ucm ucl.length uco ucp p1 ud0 rfl) ?_
   rintro _ w14 ⟨S14, ud9, uda, udb, rfl, z14, p14, udc, rfl⟩
   have p14 := p14.dp 0
   refine Goes.rn 2 [(2, .string y55.1)] Jmc ?_
   obtain rfl := Option.some.inj h
   exact Goes.rt Tryd.f52 (.string y55.1) ⟨S14, rfl, (hx.trans z14), p14⟩
 ·
  intro rec_syntax_spelled ucy ih_syntax_spelled ucz ⟨ucl, x43, x44, x45⟩ r h nz wz S0 w0 Lr iG S1 w1 hx gx5 ucm ucn uco ucp ucq ucr ucs p1 ud0 ud1 ud2 ud3 junk
  try dsimp only at h
  subst ud1
  subst ud3
  refine Goes.rn 5 [(46, .bool (decide (x45 < x44)))] Jm6 ?_
  refine ite_some h (fun h57 h => ?_) (fun h57 h => ?_)
  ·
   rw [decide_eq_true h57]
   refine Goes.rn 6 [] Jma ?_
   refine guard_some' h fun g58 h => ?_
   refine guard_some' h fun g59 h => ?_
   refine Op_.ixR_n 26 (.tmp 43) (.tmp 45) 47 0 28 .i64 x45 (gi x43 x45) rfl rfl ud2 Goes.v (by kernel_rfl) (by kernel_rfl) (by kernel_rfl) (by kernel_rfl) g58 g59 ?_
   intro a60 _ f61 q62
   have q63 := q62
   obtain ⟨_, _, rfl, rfl, ⟨_, _, rfl, ⟨l64, f65⟩, ⟨_, _, rfl, ⟨A66, c67, rfl, f68⟩, ⟨_, _, rfl, rfl, rfl⟩⟩⟩⟩ := kT27_open q63
   obtain rfl := els_lit4' f65 l64
   refine Goes.ldN 28 (.tmp 47) 48 28 a60 ([.i ((gi x43 x45).Kind)] ++ ((U4 ((gi x43 x45).Set) []) ++ ([.slice A66 (((gi x43 x45).L).length) c67] ++ ([.i ((gi x43 x45).Min)] ++ [.i ((gi x43 x45).Max)])))) (f61.cell) ?_
   refine Op_.alloc 28 7 0 (.agg #[.i 0, .u 0, .u 0, .u 0, .u 0, .slice none 0 0, .i 0, .i 0]) [.i 0, .u 0, .u 0, .u 0, .u 0, .slice none 0 0, .i 0, .i 0] p1 Goes.v (by kernel_rfl) (by kernel_rfl) ?_
   intro b69 w15 z15 p15
   refine Op_.st 28 (.tmp 7) (.tmp 48) 0 0 b69 0 (ag (.i ((gi x43 x45).Kind) :: U4 ((gi x43 x45).Set) [.slice A66 (((gi x43 x45).L).length) c67, .i ((gi x43 x45).Min), .i ((gi x43 x45).Max)])) (.i ((gi x43 x45).Kind) :: U4 ((gi x43 x45).Set) [.slice A66 (((gi x43 x45).L).length) c67, .i ((gi x43 x45).Min), .i ((gi x43 x45).Max)]) p15 rfl Goes.s (by kernel_rfl) (by kernel_rfl) (by kernel_rfl) (by kernel_rfl) (Nat.zero_le _) (by simp only [List.length_cons, List.length_nil]; omega) (by simp [Value.oneCell']) ?_
   intro w16 z16 p16
   have p16 : Hp nz wz S1 w16 ((some b69, .row 28 (.i ((gi x43 x45).Kind) :: U4 ((gi x43 x45).Set) [.slice A66 (((gi x43 x45).L).length) c67, .i ((gi x43 x45).Min), .i ((gi x43 x45).Max)]) 8 0) :: (some gx5, .row 56 [(pt gx5 0), .slice (Gp ucm) ucl.length uco] 2 0) :: (ucm, .row 5 ucp (uco * (kInt .u8).size) 0) :: Lr) := p16
   refine Goes.rn 2 [] Jmb ?_
   refine Goes.ldN 28 (.tmp 7) 49 28 ⟨b69, 0, none⟩ (.i ((gi x43 x45).Kind) :: U4 ((gi x43 x45).Set) [.slice A66 (((gi x43 x45).L).length) c67, .i ((gi x43 x45).Min), .i ((gi x43 x45).Max)]) (p16.pa 0 0) ?_
   refine bind_some' h fun y71 e72 h => ?_
   refine Goes.cal (kc 52 [49] #[28]) 50 9 52 _ (ih_syntax_spelled (⟨(gi x43 x45).Kind, ((gi x43 x45).Set), (gi x43 x45).L, (gi x43 x45).Min, (gi x43 x45).Max⟩ : T27) y71 e72 A66 (((gi x43 x45).L).length) c67 p16 l64 (f68.ext (z15.trans z16)) rfl) ?_
   rintro _ w17 ⟨S17, rfl, z17, p17⟩
   have p17 := p17.dp 0
   refine bind_some' h fun y73 e74 h => ?_
   refine Goes.cal (kc 27 [5, 50] #[56, 9]) 51 61 27 _ (W.z9 ucl y71 y73 e74 gx5 ucm ucl.length uco ucp p17 (ud0.ext ((z15.trans z16).trans z17)) rfl) ?_
   rintro _ w18 ⟨S18, udd, ude, udf, udg, rfl, z18, p18, udh, rfl⟩
   refine Goes.rn 7 [(52, .i (wr .i64 (x45 + 1))), (45, .i (wr .i64 (x45 + 1)))] Jlk ?_
   exact Goes.jp 54 [(5, (pt gx5 0)), (43, .slice ucq x43.length ucs), (44, .i x44), (45, .i (wr .i64 (x45 + 1)))] (ucz _ _ h _ _ ((((hx.trans z15).trans z16).trans z17).trans z18) gx5 udd y73.2.length udf udg ucq x43.length ucs p18 udh rfl (ud2.ext (((z15.trans z16).trans z17).trans z18)) rfl)
  ·
   rw [decide_eq_false h57]
   refine Goes.rn 4 [] Jmd ?_
   refine bind_some' h fun y76 e77 h => ?_
   refine Goes.cal (kc 28 [5] #[56]) 53 9 28 _ (W.za ucl y76 e77 gx5 ucm ucl.length uco ucp p1 ud0 rfl) ?_
   rintro _ w19 ⟨S19, udi, udj, udk, rfl, z19, p19, udl, rfl⟩
   have p19 := p19.dp 0
   refine Goes.rn 2 [(2, .string y76.1)] Jmc ?_
   obtain rfl := Option.some.inj h
   exact Goes.rt Tryd.f52 (.string y76.1) ⟨S19, rfl, (hx.trans z19), p19⟩

theorem W.z2y : ∀ a r, M.syntax_spelled a = some r → LF.z2y a r := (W.z32).1

theorem W.z2z : ∀ a r, M.syntax_spelled_l0 a = some r → LL.z2z a r := (W.z32).2.1

theorem W.z30 : ∀ a r, M.syntax_spelled_l1 a = some r → LL.z30 a r := (W.z32).2.2.1

theorem W.z31 : ∀ a r, M.syntax_spelled_l2 a = some r → LL.z31 a r := (W.z32).2.2.2

def Qhz := sub [1] B33
def Jme : List Item := [.code Qhz]
def Qi0 := sub [0] B33
def Jmf : List Item := .inRegion (opsOf Qi0) [0, 1, 2] :: Jme
def Qi1 := sub [1, 1] B33
def Jmg : List Item := [.code Qi1]
def Qi2 := sub [1, 0, 1] B33
def Jmh : List Item := .code Qi2 :: Jmg
def Qi3 := sub [1, 0, 0] B33
def Jmi : List Item := .inRegion (opsOf Qi3) [0, 1, 2, 3, 4, 5, 6] :: Jmh
def Qi4 := sub [1, 0, 1, 1] B33
def Jmj : List Item := .code Qi4 :: Jmg
def Qi5 := sub [1, 0, 1, 0] B33
def Jmk : List Item := .inRegion (opsOf Qi5) [3, 4, 5] :: Jmj
def Qi6 := sub [1, 0, 1, 1, 0, 1] B33
def Jml : List Item := .code Qi6 :: Jmg
def Qi7 := sub [1, 1, 1] B33
def Jmm : List Item := [.code Qi7]
def Qi8 := sub [1, 1, 0] B33
def Jmn : List Item := .inRegion (opsOf Qi8) [0, 1, 2, 3] :: Jmm

def Post.z33 (r : ByteArray × Bool) (v : Value) (w' : World) : Prop :=
 ∃ S', v = .tuple #[.string r.1, .bool r.2] ∧ Ext S0 w0 S' w' ∧ Hp nz wz S' w' (Lr)

theorem W.z33 (x0 : T27) (r : ByteArray × Bool) (h : M.syntax_literal x0 = some r) {nz wz S0 w0 Lr} [Gw nz wz] (ubc ubd ube) (p0 : Hp nz wz S0 w0 (Lr)) (ubo : x0.Set.length = 4) (ubp : Rd kT27 S0 w0 ubc ube x0.L) (ubq : x0.L.length = ubd) :
  Calls Tryd.prog 33 #[(ag (.i x0.Kind :: U4 x0.Set [.slice ubc ubd ube, .i x0.Min, .i x0.Max]))] w0 (Rets (Post.z33 nz wz S0 w0 Lr r)) := by
 subst ubq
 refine calls_of_goes (fn := Tryd.f33) (c := B33) (by kernel_rfl) (by kernel_rfl) 18 (by kernel_rfl) ?_
 refine Goes.jp 19 [(0, (ag (.i x0.Kind :: U4 x0.Set [.slice ubc x0.L.length ube, .i x0.Min, .i x0.Max])))] (fun junk => ?_)
 delta M.syntax_literal at h
 refine Goes.rn 2 [] Jmf ?_
 refine Op_.box 28 (.tmp 0) 1 0 (ag (.i x0.Kind :: U4 x0.Set [.slice ubc x0.L.length ube, .i x0.Min, .i x0.Max])) (.i x0.Kind :: U4 x0.Set [.slice ubc x0.L.length ube, .i x0.Min, .i x0.Max]) p0 Goes.v (by kernel_rfl) (by kernel_rfl) ?_
 intro b1 w2 z2 p2
 refine Goes.rn 6 [(2, .string (⟨#[]⟩ : ByteArray)), (3, .bool false)] Jmi ?_
 refine Goes.ldN 28 (.tmp 1) 7 28 ⟨b1, 0, none⟩ (.i x0.Kind :: U4 x0.Set [.slice ubc x0.L.length ube, .i x0.Min, .i x0.Max]) (p2.pa 0 0) ?_
 refine bind_some' h fun y3 e4 h => ?_
 refine Goes.cal (kc 51 [7] #[28]) 8 92 51 _ (W.z2u x0 y3 e4 ubc x0.L.length ube p2 ubo (ubp.ext z2) rfl) ?_
 rintro _ w3 ⟨S3, rfl, z3, p3⟩
 refine Goes.rn 11 [(6, .tuple #[.i y3.1, .bool y3.2]), (9, .i y3.1), (10, .bool y3.2), (4, .i y3.1), (5, .bool y3.2), (11, .bool y3.2), (12, .bool (!y3.2)), (13, .bool (!y3.2))] Jmk ?_
 refine ite_some h (fun h5 h => ?_) (fun h5 h => ?_)
 ·
  rw [h5]
  refine Goes.rn 4 [(14, .i y3.1), (15, .bool (decide (y3.1 > 65536))), (16, .bool (decide (y3.1 > 65536)))] Jmj ?_
  refine ite_some h (fun h6 h => ?_) (fun h6 h => ?_)
  ·
   rw [decide_eq_true h6]
   refine Goes.rn 6 [(2, .string (⟨#[]⟩ : ByteArray)), (3, .bool false)] Jml ?_
   obtain rfl := Option.some.inj h
   have p3 := p3.dp 0
   exact Goes.rt Tryd.f33 (.tuple #[.string (⟨#[]⟩ : ByteArray), .bool false]) ⟨S3, rfl, (((Ext.refl S0 w0).trans z2).trans z3), p3⟩
  ·
   rw [decide_eq_false h6]
   refine Goes.rn 4 [] Jmn ?_
   refine Goes.ldN 28 (.tmp 1) 17 28 ⟨b1, 0, none⟩ (.i x0.Kind :: U4 x0.Set [.slice ubc x0.L.length ube, .i x0.Min, .i x0.Max]) (p3.pa 0 0) ?_
   refine bind_some' h fun y7 e8 h => ?_
   refine Goes.cal (kc 52 [17] #[28]) 18 9 52 _ (W.z2y x0 y7 e8 ubc x0.L.length ube p3 ubo (ubp.ext (z2.trans z3)) rfl) ?_
   rintro _ w4 ⟨S4, rfl, z4, p4⟩
   have p4 := p4.dp 0
   refine Goes.rn 3 [(2, .string y7), (3, .bool true)] Jmm ?_
   obtain rfl := Option.some.inj h
   exact Goes.rt Tryd.f33 (.tuple #[.string y7, .bool true]) ⟨S4, rfl, ((((Ext.refl S0 w0).trans z2).trans z3).trans z4), p4⟩
 ·
  have h5' : y3.2 = false := by simpa using h5
  rw [h5']
  refine Goes.rn 10 [(14, undef), (15, undef), (16, .bool true), (2, .string (⟨#[]⟩ : ByteArray)), (3, .bool false)] Jml ?_
  obtain rfl := Option.some.inj h
  have p3 := p3.dp 0
  exact Goes.rt Tryd.f33 (.tuple #[.string (⟨#[]⟩ : ByteArray), .bool false]) ⟨S3, rfl, (((Ext.refl S0 w0).trans z2).trans z3), p3⟩

def Qi9 := sub [1] B13
def Jmo : List Item := [.code Qi9]
def Qia := sub [0] B13
def Jmp : List Item := .inRegion (opsOf Qia) [0, 1, 2] :: Jmo
def Qib := sub [1, 1] B13
def Jmq : List Item := [.code Qib]
def Qic := sub [1, 0, 1] B13
def Jmr : List Item := .code Qic :: Jmq
def Qid := sub [1, 0, 0] B13
def Jms : List Item := .inRegion (opsOf Qid) [0, 1, 2] :: Jmr
def Qie := sub [1, 1, 1] B13
def Jmt : List Item := [.code Qie]
def Qif := sub [1, 1, 0] B13
def Jmu : List Item := .inRegion (opsOf Qif) [0, 1, 2, 3, 4, 5] :: Jmt
def Qig := sub [1, 0, 1, 0, 1] B13
def Jmv : List Item := .code Qig :: Jmq

def Post.z34 (r : ByteArray × Bool) (v : Value) (w' : World) : Prop :=
 ∃ S', v = .tuple #[.string r.1, .bool r.2] ∧ Ext S0 w0 S' w' ∧ Hp nz wz S' w' (Lr)

theorem W.z34 (x0 : T27) (r : ByteArray × Bool) (h : M.syntax_Literal x0 = some r) {nz wz S0 w0 Lr} [Gw nz wz] (ubc ubd ube) (p0 : Hp nz wz S0 w0 (Lr)) (ubo : x0.Set.length = 4) (ubp : Rd kT27 S0 w0 ubc ube x0.L) (ubq : x0.L.length = ubd) :
  Calls Tryd.prog 13 #[(ag (.i x0.Kind :: U4 x0.Set [.slice ubc ubd ube, .i x0.Min, .i x0.Max]))] w0 (Rets (Post.z34 nz wz S0 w0 Lr r)) := by
 subst ubq
 refine calls_of_goes (fn := Tryd.f13) (c := B13) (by kernel_rfl) (by kernel_rfl) 10 (by kernel_rfl) ?_
 refine Goes.jp 11 [(0, (ag (.i x0.Kind :: U4 x0.Set [.slice ubc x0.L.length ube, .i x0.Min, .i x0.Max])))] (fun junk => ?_)
 delta M.syntax_Literal at h
 refine Goes.rn 2 [] Jmp ?_
 refine Op_.box 28 (.tmp 0) 1 0 (ag (.i x0.Kind :: U4 x0.Set [.slice ubc x0.L.length ube, .i x0.Min, .i x0.Max])) (.i x0.Kind :: U4 x0.Set [.slice ubc x0.L.length ube, .i x0.Min, .i x0.Max]) p0 Goes.v (by kernel_rfl) (by kernel_rfl) ?_
 intro b1 w2 z2 p2
 refine Goes.rn 6 [(2, .string (⟨#[]⟩ : ByteArray)), (3, .bool false)] Jms ?_
 refine Goes.ldN 28 (.tmp 1) 4 28 ⟨b1, 0, none⟩ (.i x0.Kind :: U4 x0.Set [.slice ubc x0.L.length ube, .i x0.Min, .i x0.Max]) (p2.pa 0 0) ?_
 refine bind_some' h fun y3 e4 h => ?_
 refine Goes.cal (kc 32 [4] #[28]) 5 4 32 _ (W.z2n x0 y3 e4 ubc x0.L.length ube p2 ubo (ubp.ext z2) rfl) ?_
 rintro _ w3 ⟨S3, rfl, z3, p3⟩
 refine Goes.rn 2 [(6, .bool (!y3))] Jmr ?_
 refine ite_some h (fun h5 h => ?_) (fun h5 h => ?_)
 ·
  rw [h5]
  refine Goes.rn 4 [] Jmu ?_
  refine Goes.ldN 28 (.tmp 1) 7 28 ⟨b1, 0, none⟩ (.i x0.Kind :: U4 x0.Set [.slice ubc x0.L.length ube, .i x0.Min, .i x0.Max]) (p3.pa 0 0) ?_
  refine bind_some' h fun y6 e7 h => ?_
  refine Goes.cal (kc 33 [7] #[28]) 8 33 33 _ (W.z33 x0 y6 e7 ubc x0.L.length ube p3 ubo (ubp.ext (z2.trans z3)) rfl) ?_
  rintro _ w4 ⟨S4, rfl, z4, p4⟩
  have p4 := p4.dp 0
  refine Goes.rn 5 [(9, .string y6.1), (10, .bool y6.2), (2, .string y6.1), (3, .bool y6.2)] Jmt ?_
  obtain rfl := Option.some.inj h
  exact Goes.rt Tryd.f13 (.tuple #[.string y6.1, .bool y6.2]) ⟨S4, rfl, ((((Ext.refl S0 w0).trans z2).trans z3).trans z4), p4⟩
 ·
  have h5' : y3 = false := by simpa using h5
  rw [h5']
  refine Goes.rn 6 [(2, .string (⟨#[]⟩ : ByteArray)), (3, .bool false)] Jmv ?_
  obtain rfl := Option.some.inj h
  have p3 := p3.dp 0
  exact Goes.rt Tryd.f13 (.tuple #[.string (⟨#[]⟩ : ByteArray), .bool false]) ⟨S3, rfl, (((Ext.refl S0 w0).trans z2).trans z3), p3⟩

def Qih := sub [1, 1] B3
def Jmw : List Item := [.code Qih]
def Qii := sub [1, 0] B3
def Jmx : List Item := .inRegion (opsOf Qii) [4, 5] :: Jmw
def Qij := sub [1, 1, 1] B3
def Jmy : List Item := [.code Qij]
def Qik := sub [1, 1, 0] B3
def Jmz : List Item := .inRegion (opsOf Qik) [1, 2] :: Jmy
def Qil := sub [1, 1, 1, 1] B3
def Jn0 : List Item := [.code Qil]
def Qim := sub [1, 1, 1, 0, 1] B3
def Jn1 : List Item := .code Qim :: Jn0
def Qin := sub [1, 1, 1, 0, 0] B3
def Jn2 : List Item := .inRegion (opsOf Qin) [2, 3] :: Jn1
def Qio := sub [1, 1, 1, 1, 1] B3
def Jn3 : List Item := [.code Qio]
def Qip := sub [1, 1, 1, 1, 0] B3
def Jn4 : List Item := .inRegion (opsOf Qip) [1, 2, 3, 4, 5, 6, 7, 8, 9] :: Jn3
def Jn5 : List Item := .inRegion (opsOf Qip) [6, 7, 8, 9] :: Jn3
def Qiq := sub [1, 1, 1, 1, 1, 0, 1] B3
def Jn6 : List Item := .code Qiq :: Jgo
def Qir := sub [1, 1, 1, 1, 1, 0, 1, 0, 0] B3
def Jn7 : List Item := .inRegion (opsOf Qir) [3, 4, 5] :: Jgp
def Qis := sub [1, 1, 1, 1, 1, 1, 1] B3
def Jn8 : List Item := [.code Qis]
def Qit := sub [1, 1, 1, 1, 1, 1, 0] B3
def Jn9 : List Item := .inRegion (opsOf Qit) [0, 1, 2, 3, 4, 5, 6] :: Jn8
def Qiu := sub [1, 1, 1, 1, 1, 1, 1, 1] B3
def Jna : List Item := [.code Qiu]
def Qiv := sub [1, 1, 1, 1, 1, 1, 1, 0] B3
def Jnb : List Item := .inRegion (opsOf Qiv) [3, 4, 5, 6, 7, 8, 9, 10, 11, 12, 13] :: Jna
def Jnc : List Item := .inRegion (opsOf Qiv) [6, 7, 8, 9, 10, 11, 12, 13] :: Jna
def Jnd : List Item := .inRegion (opsOf Qiv) [11, 12, 13] :: Jna
def Qiw := sub [1, 1, 1, 0, 1, 0, 1] B3
def Jne : List Item := .code Qiw :: Jn0

theorem W.z28 (x0 : ByteArray) (r : Bool) (h : M.tidepolelaw10_SyntaxQuotes x0 = some r) {nz wz S0 w0 Lr} [Gw nz wz] (p0 : Hp nz wz S0 w0 (Lr)) :
  Calls Tryd.prog 3 #[.string x0] w0 (Rets (Post.z28 nz wz S0 w0 Lr r)) := by
 refine calls_of_goes (fn := Tryd.f3) (c := B3) (by kernel_rfl) (by kernel_rfl) 51 (by kernel_rfl) ?_
 refine Goes.jp 52 [(0, .string x0)] (fun junk => ?_)
 delta M.tidepolelaw10_SyntaxQuotes at h
 refine Goes.rn 10 [(2, .bool false), (9, .string x0), (10, .string x0), (11, .i (x0.size : Int)), (12, .i (imn (x0.size : Int) 256))] Jmx ?_
 refine guard_some' h fun g1 h => ?_
 refine guard_some' h fun g2 h => ?_
 refine Op_.slS_n 9 (.tmp 9) none (some (.tmp 12)) 13 9 x0 0 (imn (x0.size : Int) 256) (ss x0 0 (imn (x0.size : Int) 256)) rfl Goes.v (by kernel_rfl) (by kernel_rfl) Bnd.no (Bnd.at_ .i64 (by kernel_rfl)) (by decide : (0 : Int) ≤ 0) g1 g2 ?_
 refine Goes.rn 5 [(0, .string (ss x0 0 (imn (x0.size : Int) 256))), (14, .string (ss x0 0 (imn (x0.size : Int) 256)))] Jmz ?_
 refine bind_some' h fun y3 e4 h => ?_
 refine Goes.cal (kc 9 [14] #[9]) 15 9 9 _ (W.zb (ss x0 0 (imn (x0.size : Int) 256)) y3 e4  p0 ) ?_
 rintro _ w2 ⟨S2, rfl, z2, p2⟩
 refine Goes.rn 7 [(3, .string y3), (16, .string y3), (17, .string (ss x0 0 (imn (x0.size : Int) 256)))] Jn2 ?_
 refine bind_some' h fun y5 e6 h => ?_
 refine Goes.cal (kc 10 [17] #[9]) 18 9 10 _ (W.zi (ss x0 0 (imn (x0.size : Int) 256)) y5 e6  p2 ) ?_
 rintro _ w3 ⟨S3, rfl, z3, p3⟩
 refine Goes.rn 2 [(19, .bool (!(y3.toList == y5.toList)))] Jn1 ?_
 refine ite_some h (fun h7 h => ?_) (fun h7 h => ?_)
 ·
  rw [h7]
  refine Goes.rn 5 [(21, .string y3)] Jn4 ?_
  refine bind_some' h fun y8 e9 h => ?_
  refine Goes.cal (kc 11 [21] #[9]) 22 30 11 _ (W.z23 y3 y8 e9  p3 ) ?_
  rintro _ w4 ⟨S4, udm, udn, udo, rfl, z4, p4, udp, udq, rfl⟩
  refine Goes.rn 4 [(20, .tuple #[(ag (.i y8.1.Kind :: U4 y8.1.Set [.slice udm y8.1.L.length udo, .i y8.1.Min, .i y8.1.Max])), .i y8.2.1, .i y8.2.2]), (23, (ag (.i y8.1.Kind :: U4 y8.1.Set [.slice udm y8.1.L.length udo, .i y8.1.Min, .i y8.1.Max]))), (24, .i y8.2.1), (25, .i y8.2.2)] Jn5 ?_
  refine Op_.alloc 28 4 0 (.agg #[.i 0, .u 0, .u 0, .u 0, .u 0, .slice none 0 0, .i 0, .i 0]) [.i 0, .u 0, .u 0, .u 0, .u 0, .slice none 0 0, .i 0, .i 0] p4 Goes.v (by kernel_rfl) (by kernel_rfl) ?_
  intro b10 w5 z5 p5
  refine Op_.st 28 (.tmp 4) (.tmp 23) 0 0 b10 0 (ag (.i y8.1.Kind :: U4 y8.1.Set [.slice udm y8.1.L.length udo, .i y8.1.Min, .i y8.1.Max])) (.i y8.1.Kind :: U4 y8.1.Set [.slice udm y8.1.L.length udo, .i y8.1.Min, .i y8.1.Max]) p5 rfl Goes.s (by kernel_rfl) (by kernel_rfl) (by kernel_rfl) (by kernel_rfl) (Nat.zero_le _) (by simp only [List.length_cons, List.length_nil]; omega) (by simp [Value.oneCell']) ?_
  intro w6 z6 p6
  have p6 : Hp nz wz S4 w6 ((some b10, .row 28 (.i y8.1.Kind :: U4 y8.1.Set [.slice udm y8.1.L.length udo, .i y8.1.Min, .i y8.1.Max]) 8 0) :: Lr) := p6
  refine Goes.rn 10 [(5, .i y8.2.1), (6, .i y8.2.2), (26, .string y3), (27, .i (y3.size : Int)), (28, .bool (decide ((y3.size : Int) > 256)))] Jn6 ?_
  refine ite_some h (fun h12 h => ?_) (fun h12 h => ?_)
  ·
   rw [decide_eq_true h12]
   refine Goes.rn 6 [(29, .i y8.2.2), (30, .bool (decide (y8.2.2 = 3))), (31, .bool (decide (y8.2.2 = 3)))] Jn7 ?_
   refine ite_some h (fun h13 h => ?_) (fun h13 h => ?_)
   ·
    rw [decide_eq_true h13]
    refine bind_some' h fun y14 e15 h => ?_
    refine Goes.cal (kc 12 [] #[]) 32 4 12 _ (W.z27 y14 e15  p6 ) ?_
    rintro _ w7 ⟨S7, rfl, z7, p7⟩
    have p7 := p7.dp 0
    refine Goes.rn 3 [(33, .bool y14), (2, .bool y14)] Jgp ?_
    exact Goes.jp 52 [(2, .bool y14)] (W.z29 _ _ h _ _ (((((((Ext.refl S0 w0).trans z2).trans z3).trans z4).trans z5).trans z6).trans z7) p7)
   ·
    rw [decide_eq_false h13]
    refine Goes.rn 4 [(32, undef), (33, .bool false), (2, .bool false)] Jgp ?_
    have p6 := p6.dp 0
    exact Goes.jp 52 [(2, .bool false)] (W.z29 _ _ h _ _ ((((((Ext.refl S0 w0).trans z2).trans z3).trans z4).trans z5).trans z6) p6)
  ·
   rw [decide_eq_false h12]
   refine Goes.rn 4 [] Jn9 ?_
   refine Goes.ldN 28 (.tmp 4) 35 28 ⟨b10, 0, none⟩ (.i y8.1.Kind :: U4 y8.1.Set [.slice udm y8.1.L.length udo, .i y8.1.Min, .i y8.1.Max]) (p6.pa 0 0) ?_
   refine bind_some' h fun y16 e17 h => ?_
   refine Goes.cal (kc 13 [35] #[28]) 36 33 13 _ (W.z34 y8.1 y16 e17 udm y8.1.L.length udo p6 udp (udq.ext (z5.trans z6)) rfl) ?_
   rintro _ w8 ⟨S8, rfl, z8, p8⟩
   have p8 := p8.dp 0
   refine Goes.rn 11 [(34, .tuple #[.string y16.1, .bool y16.2]), (37, .string y16.1), (38, .bool y16.2), (7, .string y16.1), (8, .bool y16.2), (39, .i y8.2.2), (40, .bool (decide (y8.2.2 = 0))), (41, .bool (decide (y8.2.2 = 0)))] Jnb ?_
   refine ite_some h (fun h18 h => ?_) (fun h18 h => ?_)
   ·
    rw [decide_eq_true h18]
    refine Goes.rn 3 [(42, .bool y16.2), (43, .bool y16.2), (44, .bool y16.2)] Jnc ?_
    refine ite_some h (fun h19 h => ?_) (fun h19 h => ?_)
    ·
     rw [h19]
     refine Goes.rn 5 [(45, .string y16.1), (46, .string (ss x0 0 (imn (x0.size : Int) 256))), (47, .bool (y16.1.toList == (ss x0 0 (imn (x0.size : Int) 256)).toList)), (48, .bool (y16.1.toList == (ss x0 0 (imn (x0.size : Int) 256)).toList)), (49, .bool (y16.1.toList == (ss x0 0 (imn (x0.size : Int) 256)).toList))] Jnd ?_
     refine ite_some h (fun h20 h => ?_) (fun h20 h => ?_)
     ·
      rw [h20]
      refine bind_some' h fun y21 e22 h => ?_
      refine Goes.cal (kc 12 [] #[]) 50 4 12 _ (W.z27 y21 e22  p8 ) ?_
      rintro _ w9 ⟨S9, rfl, z9, p9⟩
      refine Goes.rn 3 [(51, .bool y21), (2, .bool y21)] Jna ?_
      obtain rfl := Option.some.inj h
      exact Goes.rt Tryd.f3 (.bool y21) ⟨S9, rfl, ((((((((Ext.refl S0 w0).trans z2).trans z3).trans z4).trans z5).trans z6).trans z8).trans z9), p9⟩
     ·
      have uc7 : (y16.1.toList == (ss x0 0 (imn (x0.size : Int) 256)).toList) = false := by simpa using h20
      rw [uc7]
      refine Goes.rn 4 [(50, undef), (51, .bool false), (2, .bool false)] Jna ?_
      obtain rfl := Option.some.inj h
      exact Goes.rt Tryd.f3 (.bool false) ⟨S8, rfl, (((((((Ext.refl S0 w0).trans z2).trans z3).trans z4).trans z5).trans z6).trans z8), p8⟩
    ·
     have u7q : y16.2 = false := by simpa using h19
     rw [u7q]
     refine Goes.rn 9 [(45, undef), (46, undef), (47, undef), (48, .bool false), (49, .bool false), (50, undef), (51, .bool false), (2, .bool false)] Jna ?_
     obtain rfl := Option.some.inj h
     exact Goes.rt Tryd.f3 (.bool false) ⟨S8, rfl, (((((((Ext.refl S0 w0).trans z2).trans z3).trans z4).trans z5).trans z6).trans z8), p8⟩
   ·
    rw [decide_eq_false h18]
    refine Goes.rn 12 [(42, undef), (43, .bool false), (44, .bool false), (45, undef), (46, undef), (47, undef), (48, .bool false), (49, .bool false), (50, undef), (51, .bool false), (2, .bool false)] Jna ?_
    obtain rfl := Option.some.inj h
    exact Goes.rt Tryd.f3 (.bool false) ⟨S8, rfl, (((((((Ext.refl S0 w0).trans z2).trans z3).trans z4).trans z5).trans z6).trans z8), p8⟩
 ·
  have h7' : (y3.toList == y5.toList) = false := by simpa using h7
  rw [h7']
  refine Goes.rn 5 [(2, .bool false)] Jne ?_
  obtain rfl := Option.some.inj h
  exact Goes.rt Tryd.f3 (.bool false) ⟨S3, rfl, (((Ext.refl S0 w0).trans z2).trans z3), p3⟩

end

end Go.Gx
