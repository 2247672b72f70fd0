import Derived.Test.YtemokppdnkiejaaDoorWPra

set_option linter.unusedVariables false

set_option maxRecDepth 100000

set_option maxHeartbeats 4000000

namespace Go.Gx

open Go.RowKit Go.Proofs

variable (nz : Nat) (wz : World) (S0 : Fz) (w0 : World) (Lr : List Ent)

noncomputable section

def Q32 := sub [1, 1, 1] B24
def J3x : List Item := [.code Q32]
def J3y : List Item := .inBlock 0 :: J3x
def Q33 := sub [1, 1, 0, 1, 0, 0] B24
def J3z : List Item := .inLoop Q33 :: J3y
def J40 : List Item := .code Q33 :: J3z
def Q34 := sub [1, 1, 0, 1, 0, 0, 1, 1] B24
def J41 : List Item := .code Q34 :: J3z
def J42 : List Item := .inBlock 1 :: J41
def Q35 := sub [1, 1, 0, 1, 0, 0, 1, 0, 0, 1, 1] B24
def J43 : List Item := .code Q35 :: J42
def Q36 := sub [1, 1, 0, 1, 0, 0, 1] B24
def J44 : List Item := .code Q36 :: J3z
def Q37 := sub [1, 1, 0, 1, 0, 0, 0, 1] B24
def J45 : List Item := .code Q37 :: J44
def Q38 := sub [1, 1, 0, 1, 0, 0, 1, 0, 0, 1] B24
def J46 : List Item := .code Q38 :: J42
def Q39 := sub [1, 1, 0, 1, 0, 0, 1, 0, 0, 0] B24
def J47 : List Item := .inRegion (opsOf Q39) [2, 3, 4, 5] :: J46
def Q3a := sub [1, 1, 0, 1, 0, 0, 1, 0, 0, 1, 0] B24
def J48 : List Item := .inRegion (opsOf Q3a) [1, 2, 3, 4, 5, 6, 7, 8, 9, 10, 11, 12, 13, 14, 15, 16, 17, 18, 19, 20, 21, 22, 23, 24, 25, 26, 27, 28, 29, 30, 31, 32, 33, 34, 35, 36, 37, 38, 39, 40, 41, 42, 43, 44, 45, 46, 47, 48, 49, 50, 51, 52, 53, 54, 55, 56, 57, 58, 59, 60, 61, 62] :: J43
def J49 : List Item := .inRegion (opsOf Q3a) [4, 5, 6, 7, 8, 9, 10, 11, 12, 13, 14, 15, 16, 17, 18, 19, 20, 21, 22, 23, 24, 25, 26, 27, 28, 29, 30, 31, 32, 33, 34, 35, 36, 37, 38, 39, 40, 41, 42, 43, 44, 45, 46, 47, 48, 49, 50, 51, 52, 53, 54, 55, 56, 57, 58, 59, 60, 61, 62] :: J43
def J4a : List Item := .inRegion (opsOf Q3a) [18, 19, 20, 21, 22, 23, 24, 25, 26, 27, 28, 29, 30, 31, 32, 33, 34, 35, 36, 37, 38, 39, 40, 41, 42, 43, 44, 45, 46, 47, 48, 49, 50, 51, 52, 53, 54, 55, 56, 57, 58, 59, 60, 61, 62] :: J43
def J4b : List Item := .inRegion (opsOf Q3a) [32, 33, 34, 35, 36, 37, 38, 39, 40, 41, 42, 43, 44, 45, 46, 47, 48, 49, 50, 51, 52, 53, 54, 55, 56, 57, 58, 59, 60, 61, 62] :: J43
def J4c : List Item := .inRegion (opsOf Q3a) [46, 47, 48, 49, 50, 51, 52, 53, 54, 55, 56, 57, 58, 59, 60, 61, 62] :: J43
def J4d : List Item := .inRegion (opsOf Q3a) [60, 61, 62] :: J43
def J4e : List Item := .inRegion (opsOf Q3a) [5, 6, 7, 8, 9, 10, 11, 12, 13, 14, 15, 16, 17, 18, 19, 20, 21, 22, 23, 24, 25, 26, 27, 28, 29, 30, 31, 32, 33, 34, 35, 36, 37, 38, 39, 40, 41, 42, 43, 44, 45, 46, 47, 48, 49, 50, 51, 52, 53, 54, 55, 56, 57, 58, 59, 60, 61, 62] :: J43
def J4f : List Item := .inRegion (opsOf Q3a) [9, 10, 11, 12, 13, 14, 15, 16, 17, 18, 19, 20, 21, 22, 23, 24, 25, 26, 27, 28, 29, 30, 31, 32, 33, 34, 35, 36, 37, 38, 39, 40, 41, 42, 43, 44, 45, 46, 47, 48, 49, 50, 51, 52, 53, 54, 55, 56, 57, 58, 59, 60, 61, 62] :: J43
def J4g : List Item := .inRegion (opsOf Q3a) [23, 24, 25, 26, 27, 28, 29, 30, 31, 32, 33, 34, 35, 36, 37, 38, 39, 40, 41, 42, 43, 44, 45, 46, 47, 48, 49, 50, 51, 52, 53, 54, 55, 56, 57, 58, 59, 60, 61, 62] :: J43
def J4h : List Item := .inRegion (opsOf Q3a) [37, 38, 39, 40, 41, 42, 43, 44, 45, 46, 47, 48, 49, 50, 51, 52, 53, 54, 55, 56, 57, 58, 59, 60, 61, 62] :: J43
def J4i : List Item := .inRegion (opsOf Q3a) [51, 52, 53, 54, 55, 56, 57, 58, 59, 60, 61, 62] :: J43
def J4j : List Item := .inRegion (opsOf Q3a) [10, 11, 12, 13, 14, 15, 16, 17, 18, 19, 20, 21, 22, 23, 24, 25, 26, 27, 28, 29, 30, 31, 32, 33, 34, 35, 36, 37, 38, 39, 40, 41, 42, 43, 44, 45, 46, 47, 48, 49, 50, 51, 52, 53, 54, 55, 56, 57, 58, 59, 60, 61, 62] :: J43
def J4k : List Item := .inRegion (opsOf Q3a) [13, 14, 15, 16, 17, 18, 19, 20, 21, 22, 23, 24, 25, 26, 27, 28, 29, 30, 31, 32, 33, 34, 35, 36, 37, 38, 39, 40, 41, 42, 43, 44, 45, 46, 47, 48, 49, 50, 51, 52, 53, 54, 55, 56, 57, 58, 59, 60, 61, 62] :: J43
def J4l : List Item := .inRegion (opsOf Q3a) [21, 22, 23, 24, 25, 26, 27, 28, 29, 30, 31, 32, 33, 34, 35, 36, 37, 38, 39, 40, 41, 42, 43, 44, 45, 46, 47, 48, 49, 50, 51, 52, 53, 54, 55, 56, 57, 58, 59, 60, 61, 62] :: J43
def J4m : List Item := .inRegion (opsOf Q3a) [24, 25, 26, 27, 28, 29, 30, 31, 32, 33, 34, 35, 36, 37, 38, 39, 40, 41, 42, 43, 44, 45, 46, 47, 48, 49, 50, 51, 52, 53, 54, 55, 56, 57, 58, 59, 60, 61, 62] :: J43
def J4n : List Item := .inRegion (opsOf Q3a) [25, 26, 27, 28, 29, 30, 31, 32, 33, 34, 35, 36, 37, 38, 39, 40, 41, 42, 43, 44, 45, 46, 47, 48, 49, 50, 51, 52, 53, 54, 55, 56, 57, 58, 59, 60, 61, 62] :: J43
def J4o : List Item := .inRegion (opsOf Q3a) [30, 31, 32, 33, 34, 35, 36, 37, 38, 39, 40, 41, 42, 43, 44, 45, 46, 47, 48, 49, 50, 51, 52, 53, 54, 55, 56, 57, 58, 59, 60, 61, 62] :: J43
def J4p : List Item := .inRegion (opsOf Q3a) [31, 32, 33, 34, 35, 36, 37, 38, 39, 40, 41, 42, 43, 44, 45, 46, 47, 48, 49, 50, 51, 52, 53, 54, 55, 56, 57, 58, 59, 60, 61, 62] :: J43
def J4q : List Item := .inRegion (opsOf Q3a) [34, 35, 36, 37, 38, 39, 40, 41, 42, 43, 44, 45, 46, 47, 48, 49, 50, 51, 52, 53, 54, 55, 56, 57, 58, 59, 60, 61, 62] :: J43
def J4r : List Item := .inRegion (opsOf Q3a) [41, 42, 43, 44, 45, 46, 47, 48, 49, 50, 51, 52, 53, 54, 55, 56, 57, 58, 59, 60, 61, 62] :: J43
def J4s : List Item := .inRegion (opsOf Q3a) [45, 46, 47, 48, 49, 50, 51, 52, 53, 54, 55, 56, 57, 58, 59, 60, 61, 62] :: J43
def J4t : List Item := .inRegion (opsOf Q3a) [59, 60, 61, 62] :: J43
def J4u : List Item := .inRegion (opsOf Q3a) [52, 53, 54, 55, 56, 57, 58, 59, 60, 61, 62] :: J43
def J4v : List Item := .inRegion (opsOf Q3a) [53, 54, 55, 56, 57, 58, 59, 60, 61, 62] :: J43
def J4w : List Item := .inRegion (opsOf Q3a) [57, 58, 59, 60, 61, 62] :: J43
def J4x : List Item := .inRegion (opsOf Q3a) [58, 59, 60, 61, 62] :: J43
def J4y : List Item := .inRegion (opsOf Q3a) [35, 36, 37, 38, 39, 40, 41, 42, 43, 44, 45, 46, 47, 48, 49, 50, 51, 52, 53, 54, 55, 56, 57, 58, 59, 60, 61, 62] :: J43
def J4z : List Item := .inRegion (opsOf Q3a) [40, 41, 42, 43, 44, 45, 46, 47, 48, 49, 50, 51, 52, 53, 54, 55, 56, 57, 58, 59, 60, 61, 62] :: J43
def J50 : List Item := .inRegion (opsOf Q3a) [54, 55, 56, 57, 58, 59, 60, 61, 62] :: J43
def J51 : List Item := .inRegion (opsOf Q3a) [44, 45, 46, 47, 48, 49, 50, 51, 52, 53, 54, 55, 56, 57, 58, 59, 60, 61, 62] :: J43
def J52 : List Item := .inRegion (opsOf Q3a) [14, 15, 16, 17, 18, 19, 20, 21, 22, 23, 24, 25, 26, 27, 28, 29, 30, 31, 32, 33, 34, 35, 36, 37, 38, 39, 40, 41, 42, 43, 44, 45, 46, 47, 48, 49, 50, 51, 52, 53, 54, 55, 56, 57, 58, 59, 60, 61, 62] :: J43
def J53 : List Item := .inRegion (opsOf Q3a) [16, 17, 18, 19, 20, 21, 22, 23, 24, 25, 26, 27, 28, 29, 30, 31, 32, 33, 34, 35, 36, 37, 38, 39, 40, 41, 42, 43, 44, 45, 46, 47, 48, 49, 50, 51, 52, 53, 54, 55, 56, 57, 58, 59, 60, 61, 62] :: J43
def J54 : List Item := .inRegion (opsOf Q3a) [20, 21, 22, 23, 24, 25, 26, 27, 28, 29, 30, 31, 32, 33, 34, 35, 36, 37, 38, 39, 40, 41, 42, 43, 44, 45, 46, 47, 48, 49, 50, 51, 52, 53, 54, 55, 56, 57, 58, 59, 60, 61, 62] :: J43
def J55 : List Item := .inRegion (opsOf Q3a) [48, 49, 50, 51, 52, 53, 54, 55, 56, 57, 58, 59, 60, 61, 62] :: J43
def J56 : List Item := .inRegion (opsOf Q3a) [62] :: J43
def Q3b := sub [1, 1, 1, 1] B24
def J57 : List Item := [.code Q3b]
def Q3c := sub [1, 1, 0, 1, 0, 0, 1, 0, 0, 1, 1, 0, 1] B24
def J58 : List Item := .code Q3c :: J42

def Post.zl (r : Int) (v : Value) (w' : World) : Prop :=
 ∃ S', v = .i r ∧ Ext S0 w0 S' w' ∧ Hp nz wz S' w' (Lr)

def L.zm : (List T48) × Int → Int → Prop := fun ⟨x0, x3⟩ r => ∀ S1 w1, Ext S0 w0 S1 w1 → ∀ Ax0 nx0 cx0 (_ : Hp nz wz S1 w1 (Lr)) (_ : Rd kT48 S1 w1 Ax0 cx0 x0) (_ : x0.length = nx0) (junk : Nat → Value),
 Goes Tryd.prog (base 24) J40 ⟨lfr 86 [(0, .slice Ax0 nx0 cx0), (3, .i x3)] junk, []⟩ w1 (Done Tryd.prog 24 (Rets (Post.zl nz wz S0 w0 Lr r)))

def L.zn : (List T48) × Int × Bool → Int → Prop := fun ⟨x0, x3, x85⟩ r => ∀ S1 w1, Ext S0 w0 S1 w1 → ∀ Ax0 nx0 cx0 (_ : Hp nz wz S1 w1 (Lr)) (_ : Rd kT48 S1 w1 Ax0 cx0 x0) (_ : x0.length = nx0) (junk : Nat → Value),
 Goes Tryd.prog (base 24) J43 ⟨lfr 86 [(0, .slice Ax0 nx0 cx0), (3, .i x3), (85, .bool x85)] junk, []⟩ w1 (Done Tryd.prog 24 (Rets (Post.zl nz wz S0 w0 Lr r)))

theorem W.zo {nz wz S0 w0 Lr} [Gw nz wz] : (∀ a r, M.tidepoleref11_Check_l1 a = some r → (L.zm nz wz S0 w0 Lr) a r) ∧ (∀ a r, M.tidepoleref11_Check_l2 a = some r → (L.zn nz wz S0 w0 Lr) a r) := by
 refine M.tidepoleref11_Check_l1.mutual_partial_correctness (L.zm nz wz S0 w0 Lr) (L.zn nz wz S0 w0 Lr) ?_ ?_
 ·
  intro u3p u3q ⟨x0, x3⟩ r h S1 w1 hx Ax0 nx0 cx0 p1 fx0 lx0 junk
  try dsimp only at h
  subst lx0
  refine Goes.rn 8 [(13, .i x3), (14, .slice Ax0 x0.length cx0), (15, .i (x0.length : Int)), (16, .bool (decide (x3 < (x0.length : Int))))] J45 ?_
  refine ite_some h (fun h3 h => ?_) (fun h3 h => ?_)
  ·
   rw [decide_eq_true h3]
   refine Goes.rn 8 [(19, .slice Ax0 x0.length cx0), (20, .i x3)] J47 ?_
   refine guard_some' h fun g4 h => ?_
   refine Op_.ixR_n 37 (.tmp 19) (.tmp 20) 21 0 49 .i64 x3 (gi x0 x3) rfl rfl fx0 Goes.v (by kernel_rfl) (by kernel_rfl) (by kernel_rfl) (by kernel_rfl) g4 h3 ?_
   intro a5 _ f6 q7
   obtain ⟨_, _, rfl, rfl, ⟨_, _, rfl, ⟨l8, f9⟩, ⟨_, _, rfl, rfl, rfl⟩⟩⟩ := q7
   obtain rfl := els_lit4' f9 l8
   refine Goes.ldN 49 (.tmp 21) 22 49 a5 ([.i ((gi x0 x3).Op)] ++ ((U4 ((gi x0 x3).Set) []) ++ ([.i ((gi x0 x3).X)] ++ [.i ((gi x0 x3).Y)]))) (f6.cell) ?_
   refine Op_.alloc 49 4 0 (.agg #[.i 0, .u 0, .u 0, .u 0, .u 0, .i 0, .i 0]) [.i 0, .u 0, .u 0, .u 0, .u 0, .i 0, .i 0] p1 Goes.v (by kernel_rfl) (by kernel_rfl) ?_
   intro b10 w2 z2 p2
   refine Op_.st 49 (.tmp 4) (.tmp 22) 0 0 b10 0 (ag (.i ((gi x0 x3).Op) :: U4 ((gi x0 x3).Set) [.i ((gi x0 x3).X), .i ((gi x0 x3).Y)])) (.i ((gi x0 x3).Op) :: U4 ((gi x0 x3).Set) [.i ((gi x0 x3).X), .i ((gi x0 x3).Y)]) p2 rfl Goes.s (by kernel_rfl) (by kernel_rfl) (by kernel_rfl) (by kernel_rfl) (Nat.zero_le _) (by simp only [List.length_cons, List.length_nil]; omega) (by simp [Value.oneCell']) ?_
   intro w3 z3 p3
   have p3 : Hp nz wz S1 w3 ((some b10, .row 49 (.i ((gi x0 x3).Op) :: U4 ((gi x0 x3).Set) [.i ((gi x0 x3).X), .i ((gi x0 x3).Y)]) 7 0) :: Lr) := p3
   refine Goes.rn 4 [(23, (pt b10 0))] J48 ?_
   refine Goes.ld 3 (.tmp 23) 24 3 ⟨b10, 0, none⟩ (.i ((gi x0 x3).Op)) (p3.c 0 0) ?_
   refine Goes.rn 2 [(25, .bool (decide ((gi x0 x3).Op < 1))), (26, .bool (decide ((gi x0 x3).Op < 1)))] J49 ?_
   refine ite_some h (fun h12 h => ?_) (fun h12 h => ?_)
   ·
    rw [decide_eq_true h12]
    refine Goes.rn 14 [(27, undef), (28, undef), (29, undef), (30, .bool true), (31, .bool true), (32, undef), (33, undef), (34, undef), (35, undef), (36, undef), (37, undef), (38, undef), (39, undef), (40, undef)] J4a ?_
    refine Goes.rn 14 [(41, .bool true), (42, .bool true), (43, undef), (44, undef), (45, undef), (46, undef), (47, undef), (48, undef), (49, undef), (50, undef), (51, .bool true), (52, .bool true), (53, undef), (54, undef)] J4b ?_
    refine Goes.rn 14 [(55, undef), (56, undef), (57, undef), (58, undef), (59, undef), (60, undef), (61, .bool true), (62, .bool true), (63, undef), (64, undef), (65, undef), (66, .bool true), (67, .bool true), (68, undef)] J4c ?_
    refine Goes.rn 14 [(69, undef), (70, undef), (71, undef), (72, undef), (73, .bool true), (74, .bool true), (75, undef), (76, undef), (77, undef), (78, .bool true), (79, .bool true), (80, undef), (81, undef), (82, undef)] J4d ?_
    refine Goes.rn 4 [(83, undef), (84, undef), (85, .bool true)] J43 ?_
    have p3 := p3.dp 0
    exact Goes.jp 86 [(0, .slice Ax0 x0.length cx0), (3, .i x3), (85, .bool true)] (u3q _ _ h _ _ ((hx.trans z2).trans z3) Ax0 x0.length cx0 p3 (fx0.ext (z2.trans z3)) rfl)
   ·
    rw [decide_eq_false h12]
    refine Goes.rn 1 [(27, (pt b10 0))] J4e ?_
    refine Goes.ld 3 (.tmp 27) 28 3 ⟨b10, 0, none⟩ (.i ((gi x0 x3).Op)) (p3.c 0 0) ?_
    refine Goes.rn 3 [(29, .bool (decide ((gi x0 x3).Op > 4))), (30, .bool (decide ((gi x0 x3).Op > 4))), (31, .bool (decide ((gi x0 x3).Op > 4)))] J4f ?_
    refine ite_some h (fun h13 h => ?_) (fun h13 h => ?_)
    ·
     rw [decide_eq_true h13]
     refine Goes.rn 14 [(32, undef), (33, undef), (34, undef), (35, undef), (36, undef), (37, undef), (38, undef), (39, undef), (40, undef), (41, .bool true), (42, .bool true), (43, undef), (44, undef), (45, undef)] J4g ?_
     refine Goes.rn 14 [(46, undef), (47, undef), (48, undef), (49, undef), (50, undef), (51, .bool true), (52, .bool true), (53, undef), (54, undef), (55, undef), (56, undef), (57, undef), (58, undef), (59, undef)] J4h ?_
     refine Goes.rn 14 [(60, undef), (61, .bool true), (62, .bool true), (63, undef), (64, undef), (65, undef), (66, .bool true), (67, .bool true), (68, undef), (69, undef), (70, undef), (71, undef), (72, undef), (73, .bool true)] J4i ?_
     refine Goes.rn 13 [(74, .bool true), (75, undef), (76, undef), (77, undef), (78, .bool true), (79, .bool true), (80, undef), (81, undef), (82, undef), (83, undef), (84, undef), (85, .bool true)] J43 ?_
     have p3 := p3.dp 0
     exact Goes.jp 86 [(0, .slice Ax0 x0.length cx0), (3, .i x3), (85, .bool true)] (u3q _ _ h _ _ ((hx.trans z2).trans z3) Ax0 x0.length cx0 p3 (fx0.ext (z2.trans z3)) rfl)
    ·
     rw [decide_eq_false h13]
     refine Goes.rn 1 [(32, (pt b10 0))] J4j ?_
     refine Goes.ld 3 (.tmp 32) 33 3 ⟨b10, 0, none⟩ (.i ((gi x0 x3).Op)) (p3.c 0 0) ?_
     refine Goes.rn 2 [(34, .bool (!(decide ((gi x0 x3).Op = 1)))), (35, .bool (!(decide ((gi x0 x3).Op = 1))))] J4k ?_
     refine ite_some h (fun h14 h => ?_) (fun h14 h => ?_)
     ·
      rw [decide_eq_true h14]
      refine Goes.rn 8 [(36, undef), (37, undef), (38, undef), (39, undef), (40, .bool false), (41, .bool false), (42, .bool false), (43, (pt b10 0))] J4l ?_
      refine Goes.ld 3 (.tmp 43) 44 3 ⟨b10, 0, none⟩ (.i ((gi x0 x3).Op)) (p3.c 0 0) ?_
      refine Goes.rn 2 [(45, .bool (decide ((gi x0 x3).Op = 3))), (46, .bool (decide ((gi x0 x3).Op = 3)))] J4m ?_
      refine ite_some h (fun h15 h => ?_) (fun h15 h => ?_)
      ·
       rw [decide_eq_true h15]
       refine Goes.rn 1 [(47, (pt b10 5))] J4n ?_
       refine Goes.ld 3 (.tmp 47) 48 3 ⟨b10, 5, none⟩ (.i ((gi x0 x3).X)) (p3.c 0 5) ?_
       refine Goes.rn 4 [(49, .bool (!(decide ((gi x0 x3).X = 0)))), (50, .bool (!(decide ((gi x0 x3).X = 0)))), (51, .bool (!(decide ((gi x0 x3).X = 0)))), (52, .bool (!(decide ((gi x0 x3).X = 0))))] J4o ?_
       refine ite_some h (fun h16 h => ?_) (fun h16 h => ?_)
       ·
        rw [decide_eq_true h16]
        refine Goes.rn 1 [(53, (pt b10 0))] J4p ?_
        refine Goes.ld 3 (.tmp 53) 54 3 ⟨b10, 0, none⟩ (.i ((gi x0 x3).Op)) (p3.c 0 0) ?_
        refine Goes.rn 2 [(55, .bool (!(decide ((gi x0 x3).Op = 2)))), (56, .bool (!(decide ((gi x0 x3).Op = 2))))] J4q ?_
        refine ite_some h (fun h17 h => ?_) (fun h17 h => ?_)
        ·
         rw [decide_eq_true h17]
         refine Goes.rn 7 [(57, undef), (58, undef), (59, undef), (60, .bool false), (61, .bool false), (62, .bool false), (63, (pt b10 5))] J4r ?_
         refine Goes.ld 3 (.tmp 63) 64 3 ⟨b10, 5, none⟩ (.i ((gi x0 x3).X)) (p3.c 0 5) ?_
         refine Goes.rn 3 [(65, .bool (decide ((gi x0 x3).X < 0))), (66, .bool (decide ((gi x0 x3).X < 0))), (67, .bool (decide ((gi x0 x3).X < 0)))] J4s ?_
         refine ite_some h (fun h18 h => ?_) (fun h18 h => ?_)
         ·
          rw [decide_eq_true h18]
          refine Goes.rn 14 [(68, undef), (69, undef), (70, undef), (71, undef), (72, undef), (73, .bool true), (74, .bool true), (75, undef), (76, undef), (77, undef), (78, .bool true), (79, .bool true), (80, undef), (81, undef)] J4t ?_
          refine Goes.rn 5 [(82, undef), (83, undef), (84, undef), (85, .bool true)] J43 ?_
          have p3 := p3.dp 0
          exact Goes.jp 86 [(0, .slice Ax0 x0.length cx0), (3, .i x3), (85, .bool true)] (u3q _ _ h _ _ ((hx.trans z2).trans z3) Ax0 x0.length cx0 p3 (fx0.ext (z2.trans z3)) rfl)
         ·
          rw [decide_eq_false h18]
          refine Goes.rn 1 [(68, (pt b10 5))] J4c ?_
          refine Goes.ld 3 (.tmp 68) 69 3 ⟨b10, 5, none⟩ (.i ((gi x0 x3).X)) (p3.c 0 5) ?_
          refine Goes.rn 5 [(70, .slice Ax0 x0.length cx0), (71, .i (x0.length : Int)), (72, .bool (decide ((gi x0 x3).X ≥ (x0.length : Int)))), (73, .bool (decide ((gi x0 x3).X ≥ (x0.length : Int)))), (74, .bool (decide ((gi x0 x3).X ≥ (x0.length : Int))))] J4u ?_
          refine ite_some h (fun h19 h => ?_) (fun h19 h => ?_)
          ·
           rw [decide_eq_true h19]
           refine Goes.rn 12 [(75, undef), (76, undef), (77, undef), (78, .bool true), (79, .bool true), (80, undef), (81, undef), (82, undef), (83, undef), (84, undef), (85, .bool true)] J43 ?_
           have p3 := p3.dp 0
           exact Goes.jp 86 [(0, .slice Ax0 x0.length cx0), (3, .i x3), (85, .bool true)] (u3q _ _ h _ _ ((hx.trans z2).trans z3) Ax0 x0.length cx0 p3 (fx0.ext (z2.trans z3)) rfl)
          ·
           rw [decide_eq_false h19]
           refine Goes.rn 1 [(75, (pt b10 6))] J4v ?_
           refine Goes.ld 3 (.tmp 75) 76 3 ⟨b10, 6, none⟩ (.i ((gi x0 x3).Y)) (p3.c 0 6) ?_
           refine Goes.rn 3 [(77, .bool (decide ((gi x0 x3).Y < 0))), (78, .bool (decide ((gi x0 x3).Y < 0))), (79, .bool (decide ((gi x0 x3).Y < 0)))] J4w ?_
           refine ite_some h (fun h20 h => ?_) (fun h20 h => ?_)
           ·
            rw [decide_eq_true h20]
            refine Goes.rn 7 [(80, undef), (81, undef), (82, undef), (83, undef), (84, undef), (85, .bool true)] J43 ?_
            have p3 := p3.dp 0
            exact Goes.jp 86 [(0, .slice Ax0 x0.length cx0), (3, .i x3), (85, .bool true)] (u3q _ _ h _ _ ((hx.trans z2).trans z3) Ax0 x0.length cx0 p3 (fx0.ext (z2.trans z3)) rfl)
           ·
            rw [decide_eq_false h20]
            refine Goes.rn 1 [(80, (pt b10 6))] J4x ?_
            refine Goes.ld 3 (.tmp 80) 81 3 ⟨b10, 6, none⟩ (.i ((gi x0 x3).Y)) (p3.c 0 6) ?_
            refine Goes.rn 5 [(82, .slice Ax0 x0.length cx0), (83, .i (x0.length : Int)), (84, .bool (decide ((gi x0 x3).Y ≥ (x0.length : Int)))), (85, .bool (decide ((gi x0 x3).Y ≥ (x0.length : Int))))] J43 ?_
            have p3 := p3.dp 0
            exact Goes.jp 86 [(0, .slice Ax0 x0.length cx0), (3, .i x3), (85, .bool (decide ((gi x0 x3).Y ≥ (x0.length : Int))))] (u3q _ _ h _ _ ((hx.trans z2).trans z3) Ax0 x0.length cx0 p3 (fx0.ext (z2.trans z3)) rfl)
        ·
         rw [decide_eq_false h17]
         refine Goes.rn 1 [(57, (pt b10 6))] J4y ?_
         refine Goes.ld 3 (.tmp 57) 58 3 ⟨b10, 6, none⟩ (.i ((gi x0 x3).Y)) (p3.c 0 6) ?_
         refine Goes.rn 4 [(59, .bool (!(decide ((gi x0 x3).Y = 0)))), (60, .bool (!(decide ((gi x0 x3).Y = 0)))), (61, .bool (!(decide ((gi x0 x3).Y = 0)))), (62, .bool (!(decide ((gi x0 x3).Y = 0))))] J4z ?_
         refine ite_some h (fun h21 h => ?_) (fun h21 h => ?_)
         ·
          rw [decide_eq_true h21]
          refine Goes.rn 1 [(63, (pt b10 5))] J4r ?_
          refine Goes.ld 3 (.tmp 63) 64 3 ⟨b10, 5, none⟩ (.i ((gi x0 x3).X)) (p3.c 0 5) ?_
          refine Goes.rn 3 [(65, .bool (decide ((gi x0 x3).X < 0))), (66, .bool (decide ((gi x0 x3).X < 0))), (67, .bool (decide ((gi x0 x3).X < 0)))] J4s ?_
          refine ite_some h (fun h22 h => ?_) (fun h22 h => ?_)
          ·
           rw [decide_eq_true h22]
           refine Goes.rn 14 [(68, undef), (69, undef), (70, undef), (71, undef), (72, undef), (73, .bool true), (74, .bool true), (75, undef), (76, undef), (77, undef), (78, .bool true), (79, .bool true), (80, undef), (81, undef)] J4t ?_
           refine Goes.rn 5 [(82, undef), (83, undef), (84, undef), (85, .bool true)] J43 ?_
           have p3 := p3.dp 0
           exact Goes.jp 86 [(0, .slice Ax0 x0.length cx0), (3, .i x3), (85, .bool true)] (u3q _ _ h _ _ ((hx.trans z2).trans z3) Ax0 x0.length cx0 p3 (fx0.ext (z2.trans z3)) rfl)
          ·
           rw [decide_eq_false h22]
           refine Goes.rn 1 [(68, (pt b10 5))] J4c ?_
           refine Goes.ld 3 (.tmp 68) 69 3 ⟨b10, 5, none⟩ (.i ((gi x0 x3).X)) (p3.c 0 5) ?_
           refine Goes.rn 5 [(70, .slice Ax0 x0.length cx0), (71, .i (x0.length : Int)), (72, .bool (decide ((gi x0 x3).X ≥ (x0.length : Int)))), (73, .bool (decide ((gi x0 x3).X ≥ (x0.length : Int)))), (74, .bool (decide ((gi x0 x3).X ≥ (x0.length : Int))))] J4u ?_
           refine ite_some h (fun h23 h => ?_) (fun h23 h => ?_)
           ·
            rw [decide_eq_true h23]
            refine Goes.rn 12 [(75, undef), (76, undef), (77, undef), (78, .bool true), (79, .bool true), (80, undef), (81, undef), (82, undef), (83, undef), (84, undef), (85, .bool true)] J43 ?_
            have p3 := p3.dp 0
            exact Goes.jp 86 [(0, .slice Ax0 x0.length cx0), (3, .i x3), (85, .bool true)] (u3q _ _ h _ _ ((hx.trans z2).trans z3) Ax0 x0.length cx0 p3 (fx0.ext (z2.trans z3)) rfl)
           ·
            rw [decide_eq_false h23]
            refine Goes.rn 1 [(75, (pt b10 6))] J4v ?_
            refine Goes.ld 3 (.tmp 75) 76 3 ⟨b10, 6, none⟩ (.i ((gi x0 x3).Y)) (p3.c 0 6) ?_
            refine Goes.rn 3 [(77, .bool (decide ((gi x0 x3).Y < 0))), (78, .bool (decide ((gi x0 x3).Y < 0))), (79, .bool (decide ((gi x0 x3).Y < 0)))] J4w ?_
            refine ite_some h (fun h24 h => ?_) (fun h24 h => ?_)
            ·
             rw [decide_eq_true h24]
             refine Goes.rn 7 [(80, undef), (81, undef), (82, undef), (83, undef), (84, undef), (85, .bool true)] J43 ?_
             have p3 := p3.dp 0
             exact Goes.jp 86 [(0, .slice Ax0 x0.length cx0), (3, .i x3), (85, .bool true)] (u3q _ _ h _ _ ((hx.trans z2).trans z3) Ax0 x0.length cx0 p3 (fx0.ext (z2.trans z3)) rfl)
            ·
             rw [decide_eq_false h24]
             refine Goes.rn 1 [(80, (pt b10 6))] J4x ?_
             refine Goes.ld 3 (.tmp 80) 81 3 ⟨b10, 6, none⟩ (.i ((gi x0 x3).Y)) (p3.c 0 6) ?_
             refine Goes.rn 5 [(82, .slice Ax0 x0.length cx0), (83, .i (x0.length : Int)), (84, .bool (decide ((gi x0 x3).Y ≥ (x0.length : Int)))), (85, .bool (decide ((gi x0 x3).Y ≥ (x0.length : Int))))] J43 ?_
             have p3 := p3.dp 0
             exact Goes.jp 86 [(0, .slice Ax0 x0.length cx0), (3, .i x3), (85, .bool (decide ((gi x0 x3).Y ≥ (x0.length : Int))))] (u3q _ _ h _ _ ((hx.trans z2).trans z3) Ax0 x0.length cx0 p3 (fx0.ext (z2.trans z3)) rfl)
         ·
          rw [decide_eq_false h21]
          refine Goes.rn 14 [(63, undef), (64, undef), (65, undef), (66, .bool true), (67, .bool true), (68, undef), (69, undef), (70, undef), (71, undef), (72, undef), (73, .bool true), (74, .bool true), (75, undef), (76, undef)] J50 ?_
          refine Goes.rn 10 [(77, undef), (78, .bool true), (79, .bool true), (80, undef), (81, undef), (82, undef), (83, undef), (84, undef), (85, .bool true)] J43 ?_
          have p3 := p3.dp 0
          exact Goes.jp 86 [(0, .slice Ax0 x0.length cx0), (3, .i x3), (85, .bool true)] (u3q _ _ h _ _ ((hx.trans z2).trans z3) Ax0 x0.length cx0 p3 (fx0.ext (z2.trans z3)) rfl)
       ·
        rw [decide_eq_false h16]
        refine Goes.rn 14 [(53, undef), (54, undef), (55, undef), (56, undef), (57, undef), (58, undef), (59, undef), (60, undef), (61, .bool true), (62, .bool true), (63, undef), (64, undef), (65, undef), (66, .bool true)] J51 ?_
        refine Goes.rn 14 [(67, .bool true), (68, undef), (69, undef), (70, undef), (71, undef), (72, undef), (73, .bool true), (74, .bool true), (75, undef), (76, undef), (77, undef), (78, .bool true), (79, .bool true), (80, undef)] J4x ?_
        refine Goes.rn 6 [(81, undef), (82, undef), (83, undef), (84, undef), (85, .bool true)] J43 ?_
        have p3 := p3.dp 0
        exact Goes.jp 86 [(0, .slice Ax0 x0.length cx0), (3, .i x3), (85, .bool true)] (u3q _ _ h _ _ ((hx.trans z2).trans z3) Ax0 x0.length cx0 p3 (fx0.ext (z2.trans z3)) rfl)
      ·
       rw [decide_eq_false h15]
       refine Goes.rn 7 [(47, undef), (48, undef), (49, undef), (50, .bool false), (51, .bool false), (52, .bool false), (53, (pt b10 0))] J4p ?_
       refine Goes.ld 3 (.tmp 53) 54 3 ⟨b10, 0, none⟩ (.i ((gi x0 x3).Op)) (p3.c 0 0) ?_
       refine Goes.rn 2 [(55, .bool (!(decide ((gi x0 x3).Op = 2)))), (56, .bool (!(decide ((gi x0 x3).Op = 2))))] J4q ?_
       refine ite_some h (fun h25 h => ?_) (fun h25 h => ?_)
       ·
        rw [decide_eq_true h25]
        refine Goes.rn 7 [(57, undef), (58, undef), (59, undef), (60, .bool false), (61, .bool false), (62, .bool false), (63, (pt b10 5))] J4r ?_
        refine Goes.ld 3 (.tmp 63) 64 3 ⟨b10, 5, none⟩ (.i ((gi x0 x3).X)) (p3.c 0 5) ?_
        refine Goes.rn 3 [(65, .bool (decide ((gi x0 x3).X < 0))), (66, .bool (decide ((gi x0 x3).X < 0))), (67, .bool (decide ((gi x0 x3).X < 0)))] J4s ?_
        refine ite_some h (fun h26 h => ?_) (fun h26 h => ?_)
        ·
         rw [decide_eq_true h26]
         refine Goes.rn 14 [(68, undef), (69, undef), (70, undef), (71, undef), (72, undef), (73, .bool true), (74, .bool true), (75, undef), (76, undef), (77, undef), (78, .bool true), (79, .bool true), (80, undef), (81, undef)] J4t ?_
         refine Goes.rn 5 [(82, undef), (83, undef), (84, undef), (85, .bool true)] J43 ?_
         have p3 := p3.dp 0
         exact Goes.jp 86 [(0, .slice Ax0 x0.length cx0), (3, .i x3), (85, .bool true)] (u3q _ _ h _ _ ((hx.trans z2).trans z3) Ax0 x0.length cx0 p3 (fx0.ext (z2.trans z3)) rfl)
        ·
         rw [decide_eq_false h26]
         refine Goes.rn 1 [(68, (pt b10 5))] J4c ?_
         refine Goes.ld 3 (.tmp 68) 69 3 ⟨b10, 5, none⟩ (.i ((gi x0 x3).X)) (p3.c 0 5) ?_
         refine Goes.rn 5 [(70, .slice Ax0 x0.length cx0), (71, .i (x0.length : Int)), (72, .bool (decide ((gi x0 x3).X ≥ (x0.length : Int)))), (73, .bool (decide ((gi x0 x3).X ≥ (x0.length : Int)))), (74, .bool (decide ((gi x0 x3).X ≥ (x0.length : Int))))] J4u ?_
         refine ite_some h (fun h27 h => ?_) (fun h27 h => ?_)
         ·
          rw [decide_eq_true h27]
          refine Goes.rn 12 [(75, undef), (76, undef), (77, undef), (78, .bool true), (79, .bool true), (80, undef), (81, undef), (82, undef), (83, undef), (84, undef), (85, .bool true)] J43 ?_
          have p3 := p3.dp 0
          exact Goes.jp 86 [(0, .slice Ax0 x0.length cx0), (3, .i x3), (85, .bool true)] (u3q _ _ h _ _ ((hx.trans z2).trans z3) Ax0 x0.length cx0 p3 (fx0.ext (z2.trans z3)) rfl)
         ·
          rw [decide_eq_false h27]
          refine Goes.rn 1 [(75, (pt b10 6))] J4v ?_
          refine Goes.ld 3 (.tmp 75) 76 3 ⟨b10, 6, none⟩ (.i ((gi x0 x3).Y)) (p3.c 0 6) ?_
          refine Goes.rn 3 [(77, .bool (decide ((gi x0 x3).Y < 0))), (78, .bool (decide ((gi x0 x3).Y < 0))), (79, .bool (decide ((gi x0 x3).Y < 0)))] J4w ?_
          refine ite_some h (fun h28 h => ?_) (fun h28 h => ?_)
          ·
           rw [decide_eq_true h28]
           refine Goes.rn 7 [(80, undef), (81, undef), (82, undef), (83, undef), (84, undef), (85, .bool true)] J43 ?_
           have p3 := p3.dp 0
           exact Goes.jp 86 [(0, .slice Ax0 x0.length cx0), (3, .i x3), (85, .bool true)] (u3q _ _ h _ _ ((hx.trans z2).trans z3) Ax0 x0.length cx0 p3 (fx0.ext (z2.trans z3)) rfl)
          ·
           rw [decide_eq_false h28]
           refine Goes.rn 1 [(80, (pt b10 6))] J4x ?_
           refine Goes.ld 3 (.tmp 80) 81 3 ⟨b10, 6, none⟩ (.i ((gi x0 x3).Y)) (p3.c 0 6) ?_
           refine Goes.rn 5 [(82, .slice Ax0 x0.length cx0), (83, .i (x0.length : Int)), (84, .bool (decide ((gi x0 x3).Y ≥ (x0.length : Int)))), (85, .bool (decide ((gi x0 x3).Y ≥ (x0.length : Int))))] J43 ?_
           have p3 := p3.dp 0
           exact Goes.jp 86 [(0, .slice Ax0 x0.length cx0), (3, .i x3), (85, .bool (decide ((gi x0 x3).Y ≥ (x0.length : Int))))] (u3q _ _ h _ _ ((hx.trans z2).trans z3) Ax0 x0.length cx0 p3 (fx0.ext (z2.trans z3)) rfl)
       ·
        rw [decide_eq_false h25]
        refine Goes.rn 1 [(57, (pt b10 6))] J4y ?_
        refine Goes.ld 3 (.tmp 57) 58 3 ⟨b10, 6, none⟩ (.i ((gi x0 x3).Y)) (p3.c 0 6) ?_
        refine Goes.rn 4 [(59, .bool (!(decide ((gi x0 x3).Y = 0)))), (60, .bool (!(decide ((gi x0 x3).Y = 0)))), (61, .bool (!(decide ((gi x0 x3).Y = 0)))), (62, .bool (!(decide ((gi x0 x3).Y = 0))))] J4z ?_
        refine ite_some h (fun h29 h => ?_) (fun h29 h => ?_)
        ·
         rw [decide_eq_true h29]
         refine Goes.rn 1 [(63, (pt b10 5))] J4r ?_
         refine Goes.ld 3 (.tmp 63) 64 3 ⟨b10, 5, none⟩ (.i ((gi x0 x3).X)) (p3.c 0 5) ?_
         refine Goes.rn 3 [(65, .bool (decide ((gi x0 x3).X < 0))), (66, .bool (decide ((gi x0 x3).X < 0))), (67, .bool (decide ((gi x0 x3).X < 0)))] J4s ?_
         refine ite_some h (fun h30 h => ?_) (fun h30 h => ?_)
         ·
          rw [decide_eq_true h30]
          refine Goes.rn 14 [(68, undef), (69, undef), (70, undef), (71, undef), (72, undef), (73, .bool true), (74, .bool true), (75, undef), (76, undef), (77, undef), (78, .bool true), (79, .bool true), (80, undef), (81, undef)] J4t ?_
          refine Goes.rn 5 [(82, undef), (83, undef), (84, undef), (85, .bool true)] J43 ?_
          have p3 := p3.dp 0
          exact Goes.jp 86 [(0, .slice Ax0 x0.length cx0), (3, .i x3), (85, .bool true)] (u3q _ _ h _ _ ((hx.trans z2).trans z3) Ax0 x0.length cx0 p3 (fx0.ext (z2.trans z3)) rfl)
         ·
          rw [decide_eq_false h30]
          refine Goes.rn 1 [(68, (pt b10 5))] J4c ?_
          refine Goes.ld 3 (.tmp 68) 69 3 ⟨b10, 5, none⟩ (.i ((gi x0 x3).X)) (p3.c 0 5) ?_
          refine Goes.rn 5 [(70, .slice Ax0 x0.length cx0), (71, .i (x0.length : Int)), (72, .bool (decide ((gi x0 x3).X ≥ (x0.length : Int)))), (73, .bool (decide ((gi x0 x3).X ≥ (x0.length : Int)))), (74, .bool (decide ((gi x0 x3).X ≥ (x0.length : Int))))] J4u ?_
          refine ite_some h (fun h31 h => ?_) (fun h31 h => ?_)
          ·
           rw [decide_eq_true h31]
           refine Goes.rn 12 [(75, undef), (76, undef), (77, undef), (78, .bool true), (79, .bool true), (80, undef), (81, undef), (82, undef), (83, undef), (84, undef), (85, .bool true)] J43 ?_
           have p3 := p3.dp 0
           exact Goes.jp 86 [(0, .slice Ax0 x0.length cx0), (3, .i x3), (85, .bool true)] (u3q _ _ h _ _ ((hx.trans z2).trans z3) Ax0 x0.length cx0 p3 (fx0.ext (z2.trans z3)) rfl)
          ·
           rw [decide_eq_false h31]
           refine Goes.rn 1 [(75, (pt b10 6))] J4v ?_
           refine Goes.ld 3 (.tmp 75) 76 3 ⟨b10, 6, none⟩ (.i ((gi x0 x3).Y)) (p3.c 0 6) ?_
           refine Goes.rn 3 [(77, .bool (decide ((gi x0 x3).Y < 0))), (78, .bool (decide ((gi x0 x3).Y < 0))), (79, .bool (decide ((gi x0 x3).Y < 0)))] J4w ?_
           refine ite_some h (fun h32 h => ?_) (fun h32 h => ?_)
           ·
            rw [decide_eq_true h32]
            refine Goes.rn 7 [(80, undef), (81, undef), (82, undef), (83, undef), (84, undef), (85, .bool true)] J43 ?_
            have p3 := p3.dp 0
            exact Goes.jp 86 [(0, .slice Ax0 x0.length cx0), (3, .i x3), (85, .bool true)] (u3q _ _ h _ _ ((hx.trans z2).trans z3) Ax0 x0.length cx0 p3 (fx0.ext (z2.trans z3)) rfl)
           ·
            rw [decide_eq_false h32]
            refine Goes.rn 1 [(80, (pt b10 6))] J4x ?_
            refine Goes.ld 3 (.tmp 80) 81 3 ⟨b10, 6, none⟩ (.i ((gi x0 x3).Y)) (p3.c 0 6) ?_
            refine Goes.rn 5 [(82, .slice Ax0 x0.length cx0), (83, .i (x0.length : Int)), (84, .bool (decide ((gi x0 x3).Y ≥ (x0.length : Int)))), (85, .bool (decide ((gi x0 x3).Y ≥ (x0.length : Int))))] J43 ?_
            have p3 := p3.dp 0
            exact Goes.jp 86 [(0, .slice Ax0 x0.length cx0), (3, .i x3), (85, .bool (decide ((gi x0 x3).Y ≥ (x0.length : Int))))] (u3q _ _ h _ _ ((hx.trans z2).trans z3) Ax0 x0.length cx0 p3 (fx0.ext (z2.trans z3)) rfl)
        ·
         rw [decide_eq_false h29]
         refine Goes.rn 14 [(63, undef), (64, undef), (65, undef), (66, .bool true), (67, .bool true), (68, undef), (69, undef), (70, undef), (71, undef), (72, undef), (73, .bool true), (74, .bool true), (75, undef), (76, undef)] J50 ?_
         refine Goes.rn 10 [(77, undef), (78, .bool true), (79, .bool true), (80, undef), (81, undef), (82, undef), (83, undef), (84, undef), (85, .bool true)] J43 ?_
         have p3 := p3.dp 0
         exact Goes.jp 86 [(0, .slice Ax0 x0.length cx0), (3, .i x3), (85, .bool true)] (u3q _ _ h _ _ ((hx.trans z2).trans z3) Ax0 x0.length cx0 p3 (fx0.ext (z2.trans z3)) rfl)
     ·
      rw [decide_eq_false h14]
      refine Goes.rn 1 [(36, (pt b10 1))] J52 ?_
      refine Goes.ldN 25 (.tmp 36) 37 25 ⟨b10, 1, none⟩ (U4 ((gi x0 x3).Set) []) (p3.pa 0 1) ?_
      refine Goes.rn 1 [(38, .agg #[.u 0, .u 0, .u 0, .u 0])] J53 ?_
      refine Op_.neA 25 (.tmp 37) (.tmp 38) 25 39 4 23 4 .u64 (us := ((U4 ((gi x0 x3).Set) []) : List Value)) (vs := ([.u 0, .u 0, .u 0, .u 0] : List Value)) Goes.v (by kernel_rfl) (by kernel_rfl) (by kernel_rfl) (by kernel_rfl) (by kernel_rfl) (by kernel_rfl) (by kernel_rfl) (els_mk4 (S := S1) (w := w3) (k := .u64) l8) (show Els (kInt .u64) S1 w3 ([.u 0, .u 0, .u 0, .u 0] : List Value) _ from (Els.cons (K := (kInt .u64)) (vs := [.u 0]) (x := 0) rfl (Els.cons (K := (kInt .u64)) (vs := [.u 0]) (x := 0) rfl (Els.cons (K := (kInt .u64)) (vs := [.u 0]) (x := 0) rfl (Els.cons (K := (kInt .u64)) (vs := [.u 0]) (x := 0) rfl Els.nil))))) (Els.len1 (els_mk4 (S := S1) (w := w3) (k := .u64) l8) rfl rfl) (Els.len1 (show Els (kInt .u64) S1 w3 ([.u 0, .u 0, .u 0, .u 0] : List Value) _ from (Els.cons (K := (kInt .u64)) (vs := [.u 0]) (x := 0) rfl (Els.cons (K := (kInt .u64)) (vs := [.u 0]) (x := 0) rfl (Els.cons (K := (kInt .u64)) (vs := [.u 0]) (x := 0) rfl (Els.cons (K := (kInt .u64)) (vs := [.u 0]) (x := 0) rfl Els.nil))))) rfl rfl) ?_
      refine Goes.rn 3 [(40, .bool (!(decide (((gi x0 x3).Set) = [0, 0, 0, 0])))), (41, .bool (!(decide (((gi x0 x3).Set) = [0, 0, 0, 0])))), (42, .bool (!(decide (((gi x0 x3).Set) = [0, 0, 0, 0]))))] J54 ?_
      refine ite_some h (fun h33 h => ?_) (fun h33 h => ?_)
      ·
       rw [decide_eq_true h33]
       refine Goes.rn 1 [(43, (pt b10 0))] J4l ?_
       refine Goes.ld 3 (.tmp 43) 44 3 ⟨b10, 0, none⟩ (.i ((gi x0 x3).Op)) (p3.c 0 0) ?_
       refine Goes.rn 2 [(45, .bool (decide ((gi x0 x3).Op = 3))), (46, .bool (decide ((gi x0 x3).Op = 3)))] J4m ?_
       refine ite_some h (fun h34 h => ?_) (fun h34 h => ?_)
       ·
        rw [decide_eq_true h34]
        refine Goes.rn 1 [(47, (pt b10 5))] J4n ?_
        refine Goes.ld 3 (.tmp 47) 48 3 ⟨b10, 5, none⟩ (.i ((gi x0 x3).X)) (p3.c 0 5) ?_
        refine Goes.rn 4 [(49, .bool (!(decide ((gi x0 x3).X = 0)))), (50, .bool (!(decide ((gi x0 x3).X = 0)))), (51, .bool (!(decide ((gi x0 x3).X = 0)))), (52, .bool (!(decide ((gi x0 x3).X = 0))))] J4o ?_
        refine ite_some h (fun h35 h => ?_) (fun h35 h => ?_)
        ·
         rw [decide_eq_true h35]
         refine Goes.rn 1 [(53, (pt b10 0))] J4p ?_
         refine Goes.ld 3 (.tmp 53) 54 3 ⟨b10, 0, none⟩ (.i ((gi x0 x3).Op)) (p3.c 0 0) ?_
         refine Goes.rn 2 [(55, .bool (!(decide ((gi x0 x3).Op = 2)))), (56, .bool (!(decide ((gi x0 x3).Op = 2))))] J4q ?_
         refine ite_some h (fun h36 h => ?_) (fun h36 h => ?_)
         ·
          rw [decide_eq_true h36]
          refine Goes.rn 7 [(57, undef), (58, undef), (59, undef), (60, .bool false), (61, .bool false), (62, .bool false), (63, (pt b10 5))] J4r ?_
          refine Goes.ld 3 (.tmp 63) 64 3 ⟨b10, 5, none⟩ (.i ((gi x0 x3).X)) (p3.c 0 5) ?_
          refine Goes.rn 3 [(65, .bool (decide ((gi x0 x3).X < 0))), (66, .bool (decide ((gi x0 x3).X < 0))), (67, .bool (decide ((gi x0 x3).X < 0)))] J4s ?_
          refine ite_some h (fun h37 h => ?_) (fun h37 h => ?_)
          ·
           rw [decide_eq_true h37]
           refine Goes.rn 14 [(68, undef), (69, undef), (70, undef), (71, undef), (72, undef), (73, .bool true), (74, .bool true), (75, undef), (76, undef), (77, undef), (78, .bool true), (79, .bool true), (80, undef), (81, undef)] J4t ?_
           refine Goes.rn 5 [(82, undef), (83, undef), (84, undef), (85, .bool true)] J43 ?_
           have p3 := p3.dp 0
           exact Goes.jp 86 [(0, .slice Ax0 x0.length cx0), (3, .i x3), (85, .bool true)] (u3q _ _ h _ _ ((hx.trans z2).trans z3) Ax0 x0.length cx0 p3 (fx0.ext (z2.trans z3)) rfl)
          ·
           rw [decide_eq_false h37]
           refine Goes.rn 1 [(68, (pt b10 5))] J4c ?_
           refine Goes.ld 3 (.tmp 68) 69 3 ⟨b10, 5, none⟩ (.i ((gi x0 x3).X)) (p3.c 0 5) ?_
           refine Goes.rn 5 [(70, .slice Ax0 x0.length cx0), (71, .i (x0.length : Int)), (72, .bool (decide ((gi x0 x3).X ≥ (x0.length : Int)))), (73, .bool (decide ((gi x0 x3).X ≥ (x0.length : Int)))), (74, .bool (decide ((gi x0 x3).X ≥ (x0.length : Int))))] J4u ?_
           refine ite_some h (fun h38 h => ?_) (fun h38 h => ?_)
           ·
            rw [decide_eq_true h38]
            refine Goes.rn 12 [(75, undef), (76, undef), (77, undef), (78, .bool true), (79, .bool true), (80, undef), (81, undef), (82, undef), (83, undef), (84, undef), (85, .bool true)] J43 ?_
            have p3 := p3.dp 0
            exact Goes.jp 86 [(0, .slice Ax0 x0.length cx0), (3, .i x3), (85, .bool true)] (u3q _ _ h _ _ ((hx.trans z2).trans z3) Ax0 x0.length cx0 p3 (fx0.ext (z2.trans z3)) rfl)
           ·
            rw [decide_eq_false h38]
            refine Goes.rn 1 [(75, (pt b10 6))] J4v ?_
            refine Goes.ld 3 (.tmp 75) 76 3 ⟨b10, 6, none⟩ (.i ((gi x0 x3).Y)) (p3.c 0 6) ?_
            refine Goes.rn 3 [(77, .bool (decide ((gi x0 x3).Y < 0))), (78, .bool (decide ((gi x0 x3).Y < 0))), (79, .bool (decide ((gi x0 x3).Y < 0)))] J4w ?_
            refine ite_some h (fun h39 h => ?_) (fun h39 h => ?_)
            ·
             rw [decide_eq_true h39]
             refine Goes.rn 7 [(80, undef), (81, undef), (82, undef), (83, undef), (84, undef), (85, .bool true)] J43 ?_
             have p3 := p3.dp 0
             exact Goes.jp 86 [(0, .slice Ax0 x0.length cx0), (3, .i x3), (85, .bool true)] (u3q _ _ h _ _ ((hx.trans z2).trans z3) Ax0 x0.length cx0 p3 (fx0.ext (z2.trans z3)) rfl)
            ·
             rw [decide_eq_false h39]
             refine Goes.rn 1 [(80, (pt b10 6))] J4x ?_
             refine Goes.ld 3 (.tmp 80) 81 3 ⟨b10, 6, none⟩ (.i ((gi x0 x3).Y)) (p3.c 0 6) ?_
             refine Goes.rn 5 [(82, .slice Ax0 x0.length cx0), (83, .i (x0.length : Int)), (84, .bool (decide ((gi x0 x3).Y ≥ (x0.length : Int)))), (85, .bool (decide ((gi x0 x3).Y ≥ (x0.length : Int))))] J43 ?_
             have p3 := p3.dp 0
             exact Goes.jp 86 [(0, .slice Ax0 x0.length cx0), (3, .i x3), (85, .bool (decide ((gi x0 x3).Y ≥ (x0.length : Int))))] (u3q _ _ h _ _ ((hx.trans z2).trans z3) Ax0 x0.length cx0 p3 (fx0.ext (z2.trans z3)) rfl)
         ·
          rw [decide_eq_false h36]
          refine Goes.rn 1 [(57, (pt b10 6))] J4y ?_
          refine Goes.ld 3 (.tmp 57) 58 3 ⟨b10, 6, none⟩ (.i ((gi x0 x3).Y)) (p3.c 0 6) ?_
          refine Goes.rn 4 [(59, .bool (!(decide ((gi x0 x3).Y = 0)))), (60, .bool (!(decide ((gi x0 x3).Y = 0)))), (61, .bool (!(decide ((gi x0 x3).Y = 0)))), (62, .bool (!(decide ((gi x0 x3).Y = 0))))] J4z ?_
          refine ite_some h (fun h40 h => ?_) (fun h40 h => ?_)
          ·
           rw [decide_eq_true h40]
           refine Goes.rn 1 [(63, (pt b10 5))] J4r ?_
           refine Goes.ld 3 (.tmp 63) 64 3 ⟨b10, 5, none⟩ (.i ((gi x0 x3).X)) (p3.c 0 5) ?_
           refine Goes.rn 3 [(65, .bool (decide ((gi x0 x3).X < 0))), (66, .bool (decide ((gi x0 x3).X < 0))), (67, .bool (decide ((gi x0 x3).X < 0)))] J4s ?_
           refine ite_some h (fun h41 h => ?_) (fun h41 h => ?_)
           ·
            rw [decide_eq_true h41]
            refine Goes.rn 14 [(68, undef), (69, undef), (70, undef), (71, undef), (72, undef), (73, .bool true), (74, .bool true), (75, undef), (76, undef), (77, undef), (78, .bool true), (79, .bool true), (80, undef), (81, undef)] J4t ?_
            refine Goes.rn 5 [(82, undef), (83, undef), (84, undef), (85, .bool true)] J43 ?_
            have p3 := p3.dp 0
            exact Goes.jp 86 [(0, .slice Ax0 x0.length cx0), (3, .i x3), (85, .bool true)] (u3q _ _ h _ _ ((hx.trans z2).trans z3) Ax0 x0.length cx0 p3 (fx0.ext (z2.trans z3)) rfl)
           ·
            rw [decide_eq_false h41]
            refine Goes.rn 1 [(68, (pt b10 5))] J4c ?_
            refine Goes.ld 3 (.tmp 68) 69 3 ⟨b10, 5, none⟩ (.i ((gi x0 x3).X)) (p3.c 0 5) ?_
            refine Goes.rn 5 [(70, .slice Ax0 x0.length cx0), (71, .i (x0.length : Int)), (72, .bool (decide ((gi x0 x3).X ≥ (x0.length : Int)))), (73, .bool (decide ((gi x0 x3).X ≥ (x0.length : Int)))), (74, .bool (decide ((gi x0 x3).X ≥ (x0.length : Int))))] J4u ?_
            refine ite_some h (fun h42 h => ?_) (fun h42 h => ?_)
            ·
             rw [decide_eq_true h42]
             refine Goes.rn 12 [(75, undef), (76, undef), (77, undef), (78, .bool true), (79, .bool true), (80, undef), (81, undef), (82, undef), (83, undef), (84, undef), (85, .bool true)] J43 ?_
             have p3 := p3.dp 0
             exact Goes.jp 86 [(0, .slice Ax0 x0.length cx0), (3, .i x3), (85, .bool true)] (u3q _ _ h _ _ ((hx.trans z2).trans z3) Ax0 x0.length cx0 p3 (fx0.ext (z2.trans z3)) rfl)
            ·
             rw [decide_eq_false h42]
             refine Goes.rn 1 [(75, (pt b10 6))] J4v ?_
             refine Goes.ld 3 (.tmp 75) 76 3 ⟨b10, 6, none⟩ (.i ((gi x0 x3).Y)) (p3.c 0 6) ?_
             refine Goes.rn 3 [(77, .bool (decide ((gi x0 x3).Y < 0))), (78, .bool (decide ((gi x0 x3).Y < 0))), (79, .bool (decide ((gi x0 x3).Y < 0)))] J4w ?_
             refine ite_some h (fun h43 h => ?_) (fun h43 h => ?_)
             ·
              rw [decide_eq_true h43]
              refine Goes.rn 7 [(80, undef), (81, undef), (82, undef), (83, undef), (84, undef), (85, .bool true)] J43 ?_
              have p3 := p3.dp 0
              exact Goes.jp 86 [(0, .slice Ax0 x0.length cx0), (3, .i x3), (85, .bool true)] (u3q _ _ h _ _ ((hx.trans z2).trans z3) Ax0 x0.length cx0 p3 (fx0.ext (z2.trans z3)) rfl)
             ·
              rw [decide_eq_false h43]
              refine Goes.rn 1 [(80, (pt b10 6))] J4x ?_
              refine Goes.ld 3 (.tmp 80) 81 3 ⟨b10, 6, none⟩ (.i ((gi x0 x3).Y)) (p3.c 0 6) ?_
              refine Goes.rn 5 [(82, .slice Ax0 x0.length cx0), (83, .i (x0.length : Int)), (84, .bool (decide ((gi x0 x3).Y ≥ (x0.length : Int)))), (85, .bool (decide ((gi x0 x3).Y ≥ (x0.length : Int))))] J43 ?_
              have p3 := p3.dp 0
              exact Goes.jp 86 [(0, .slice Ax0 x0.length cx0), (3, .i x3), (85, .bool (decide ((gi x0 x3).Y ≥ (x0.length : Int))))] (u3q _ _ h _ _ ((hx.trans z2).trans z3) Ax0 x0.length cx0 p3 (fx0.ext (z2.trans z3)) rfl)
          ·
           rw [decide_eq_false h40]
           refine Goes.rn 14 [(63, undef), (64, undef), (65, undef), (66, .bool true), (67, .bool true), (68, undef), (69, undef), (70, undef), (71, undef), (72, undef), (73, .bool true), (74, .bool true), (75, undef), (76, undef)] J50 ?_
           refine Goes.rn 10 [(77, undef), (78, .bool true), (79, .bool true), (80, undef), (81, undef), (82, undef), (83, undef), (84, undef), (85, .bool true)] J43 ?_
           have p3 := p3.dp 0
           exact Goes.jp 86 [(0, .slice Ax0 x0.length cx0), (3, .i x3), (85, .bool true)] (u3q _ _ h _ _ ((hx.trans z2).trans z3) Ax0 x0.length cx0 p3 (fx0.ext (z2.trans z3)) rfl)
        ·
         rw [decide_eq_false h35]
         refine Goes.rn 14 [(53, undef), (54, undef), (55, undef), (56, undef), (57, undef), (58, undef), (59, undef), (60, undef), (61, .bool true), (62, .bool true), (63, undef), (64, undef), (65, undef), (66, .bool true)] J51 ?_
         refine Goes.rn 14 [(67, .bool true), (68, undef), (69, undef), (70, undef), (71, undef), (72, undef), (73, .bool true), (74, .bool true), (75, undef), (76, undef), (77, undef), (78, .bool true), (79, .bool true), (80, undef)] J4x ?_
         refine Goes.rn 6 [(81, undef), (82, undef), (83, undef), (84, undef), (85, .bool true)] J43 ?_
         have p3 := p3.dp 0
         exact Goes.jp 86 [(0, .slice Ax0 x0.length cx0), (3, .i x3), (85, .bool true)] (u3q _ _ h _ _ ((hx.trans z2).trans z3) Ax0 x0.length cx0 p3 (fx0.ext (z2.trans z3)) rfl)
       ·
        rw [decide_eq_false h34]
        refine Goes.rn 7 [(47, undef), (48, undef), (49, undef), (50, .bool false), (51, .bool false), (52, .bool false), (53, (pt b10 0))] J4p ?_
        refine Goes.ld 3 (.tmp 53) 54 3 ⟨b10, 0, none⟩ (.i ((gi x0 x3).Op)) (p3.c 0 0) ?_
        refine Goes.rn 2 [(55, .bool (!(decide ((gi x0 x3).Op = 2)))), (56, .bool (!(decide ((gi x0 x3).Op = 2))))] J4q ?_
        refine ite_some h (fun h44 h => ?_) (fun h44 h => ?_)
        ·
         rw [decide_eq_true h44]
         refine Goes.rn 7 [(57, undef), (58, undef), (59, undef), (60, .bool false), (61, .bool false), (62, .bool false), (63, (pt b10 5))] J4r ?_
         refine Goes.ld 3 (.tmp 63) 64 3 ⟨b10, 5, none⟩ (.i ((gi x0 x3).X)) (p3.c 0 5) ?_
         refine Goes.rn 3 [(65, .bool (decide ((gi x0 x3).X < 0))), (66, .bool (decide ((gi x0 x3).X < 0))), (67, .bool (decide ((gi x0 x3).X < 0)))] J4s ?_
         refine ite_some h (fun h45 h => ?_) (fun h45 h => ?_)
         ·
          rw [decide_eq_true h45]
          refine Goes.rn 14 [(68, undef), (69, undef), (70, undef), (71, undef), (72, undef), (73, .bool true), (74, .bool true), (75, undef), (76, undef), (77, undef), (78, .bool true), (79, .bool true), (80, undef), (81, undef)] J4t ?_
          refine Goes.rn 5 [(82, undef), (83, undef), (84, undef), (85, .bool true)] J43 ?_
          have p3 := p3.dp 0
          exact Goes.jp 86 [(0, .slice Ax0 x0.length cx0), (3, .i x3), (85, .bool true)] (u3q _ _ h _ _ ((hx.trans z2).trans z3) Ax0 x0.length cx0 p3 (fx0.ext (z2.trans z3)) rfl)
         ·
          rw [decide_eq_false h45]
          refine Goes.rn 1 [(68, (pt b10 5))] J4c ?_
          refine Goes.ld 3 (.tmp 68) 69 3 ⟨b10, 5, none⟩ (.i ((gi x0 x3).X)) (p3.c 0 5) ?_
          refine Goes.rn 5 [(70, .slice Ax0 x0.length cx0), (71, .i (x0.length : Int)), (72, .bool (decide ((gi x0 x3).X ≥ (x0.length : Int)))), (73, .bool (decide ((gi x0 x3).X ≥ (x0.length : Int)))), (74, .bool (decide ((gi x0 x3).X ≥ (x0.length : Int))))] J4u ?_
          refine ite_some h (fun h46 h => ?_) (fun h46 h => ?_)
          ·
           rw [decide_eq_true h46]
           refine Goes.rn 12 [(75, undef), (76, undef), (77, undef), (78, .bool true), (79, .bool true), (80, undef), (81, undef), (82, undef), (83, undef), (84, undef), (85, .bool true)] J43 ?_
           have p3 := p3.dp 0
           exact Goes.jp 86 [(0, .slice Ax0 x0.length cx0), (3, .i x3), (85, .bool true)] (u3q _ _ h _ _ ((hx.trans z2).trans z3) Ax0 x0.length cx0 p3 (fx0.ext (z2.trans z3)) rfl)
          ·
           rw [decide_eq_false h46]
           refine Goes.rn 1 [(75, (pt b10 6))] J4v ?_
           refine Goes.ld 3 (.tmp 75) 76 3 ⟨b10, 6, none⟩ (.i ((gi x0 x3).Y)) (p3.c 0 6) ?_
           refine Goes.rn 3 [(77, .bool (decide ((gi x0 x3).Y < 0))), (78, .bool (decide ((gi x0 x3).Y < 0))), (79, .bool (decide ((gi x0 x3).Y < 0)))] J4w ?_
           refine ite_some h (fun h47 h => ?_) (fun h47 h => ?_)
           ·
            rw [decide_eq_true h47]
            refine Goes.rn 7 [(80, undef), (81, undef), (82, undef), (83, undef), (84, undef), (85, .bool true)] J43 ?_
            have p3 := p3.dp 0
            exact Goes.jp 86 [(0, .slice Ax0 x0.length cx0), (3, .i x3), (85, .bool true)] (u3q _ _ h _ _ ((hx.trans z2).trans z3) Ax0 x0.length cx0 p3 (fx0.ext (z2.trans z3)) rfl)
           ·
            rw [decide_eq_false h47]
            refine Goes.rn 1 [(80, (pt b10 6))] J4x ?_
            refine Goes.ld 3 (.tmp 80) 81 3 ⟨b10, 6, none⟩ (.i ((gi x0 x3).Y)) (p3.c 0 6) ?_
            refine Goes.rn 5 [(82, .slice Ax0 x0.length cx0), (83, .i (x0.length : Int)), (84, .bool (decide ((gi x0 x3).Y ≥ (x0.length : Int)))), (85, .bool (decide ((gi x0 x3).Y ≥ (x0.length : Int))))] J43 ?_
            have p3 := p3.dp 0
            exact Goes.jp 86 [(0, .slice Ax0 x0.length cx0), (3, .i x3), (85, .bool (decide ((gi x0 x3).Y ≥ (x0.length : Int))))] (u3q _ _ h _ _ ((hx.trans z2).trans z3) Ax0 x0.length cx0 p3 (fx0.ext (z2.trans z3)) rfl)
        ·
         rw [decide_eq_false h44]
         refine Goes.rn 1 [(57, (pt b10 6))] J4y ?_
         refine Goes.ld 3 (.tmp 57) 58 3 ⟨b10, 6, none⟩ (.i ((gi x0 x3).Y)) (p3.c 0 6) ?_
         refine Goes.rn 4 [(59, .bool (!(decide ((gi x0 x3).Y = 0)))), (60, .bool (!(decide ((gi x0 x3).Y = 0)))), (61, .bool (!(decide ((gi x0 x3).Y = 0)))), (62, .bool (!(decide ((gi x0 x3).Y = 0))))] J4z ?_
         refine ite_some h (fun h48 h => ?_) (fun h48 h => ?_)
         ·
          rw [decide_eq_true h48]
          refine Goes.rn 1 [(63, (pt b10 5))] J4r ?_
          refine Goes.ld 3 (.tmp 63) 64 3 ⟨b10, 5, none⟩ (.i ((gi x0 x3).X)) (p3.c 0 5) ?_
          refine Goes.rn 3 [(65, .bool (decide ((gi x0 x3).X < 0))), (66, .bool (decide ((gi x0 x3).X < 0))), (67, .bool (decide ((gi x0 x3).X < 0)))] J4s ?_
          refine ite_some h (fun h49 h => ?_) (fun h49 h => ?_)
          ·
           rw [decide_eq_true h49]
           refine Goes.rn 14 [(68, undef), (69, undef), (70, undef), (71, undef), (72, undef), (73, .bool true), (74, .bool true), (75, undef), (76, undef), (77, undef), (78, .bool true), (79, .bool true), (80, undef), (81, undef)] J4t ?_
           refine Goes.rn 5 [(82, undef), (83, undef), (84, undef), (85, .bool true)] J43 ?_
           have p3 := p3.dp 0
           exact Goes.jp 86 [(0, .slice Ax0 x0.length cx0), (3, .i x3), (85, .bool true)] (u3q _ _ h _ _ ((hx.trans z2).trans z3) Ax0 x0.length cx0 p3 (fx0.ext (z2.trans z3)) rfl)
          ·
           rw [decide_eq_false h49]
           refine Goes.rn 1 [(68, (pt b10 5))] J4c ?_
           refine Goes.ld 3 (.tmp 68) 69 3 ⟨b10, 5, none⟩ (.i ((gi x0 x3).X)) (p3.c 0 5) ?_
           refine Goes.rn 5 [(70, .slice Ax0 x0.length cx0), (71, .i (x0.length : Int)), (72, .bool (decide ((gi x0 x3).X ≥ (x0.length : Int)))), (73, .bool (decide ((gi x0 x3).X ≥ (x0.length : Int)))), (74, .bool (decide ((gi x0 x3).X ≥ (x0.length : Int))))] J4u ?_
           refine ite_some h (fun h50 h => ?_) (fun h50 h => ?_)
           ·
            rw [decide_eq_true h50]
            refine Goes.rn 12 [(75, undef), (76, undef), (77, undef), (78, .bool true), (79, .bool true), (80, undef), (81, undef), (82, undef), (83, undef), (84, undef), (85, .bool true)] J43 ?_
            have p3 := p3.dp 0
            exact Goes.jp 86 [(0, .slice Ax0 x0.length cx0), (3, .i x3), (85, .bool true)] (u3q _ _ h _ _ ((hx.trans z2).trans z3) Ax0 x0.length cx0 p3 (fx0.ext (z2.trans z3)) rfl)
           ·
            rw [decide_eq_false h50]
            refine Goes.rn 1 [(75, (pt b10 6))] J4v ?_
            refine Goes.ld 3 (.tmp 75) 76 3 ⟨b10, 6, none⟩ (.i ((gi x0 x3).Y)) (p3.c 0 6) ?_
            refine Goes.rn 3 [(77, .bool (decide ((gi x0 x3).Y < 0))), (78, .bool (decide ((gi x0 x3).Y < 0))), (79, .bool (decide ((gi x0 x3).Y < 0)))] J4w ?_
            refine ite_some h (fun h51 h => ?_) (fun h51 h => ?_)
            ·
             rw [decide_eq_true h51]
             refine Goes.rn 7 [(80, undef), (81, undef), (82, undef), (83, undef), (84, undef), (85, .bool true)] J43 ?_
             have p3 := p3.dp 0
             exact Goes.jp 86 [(0, .slice Ax0 x0.length cx0), (3, .i x3), (85, .bool true)] (u3q _ _ h _ _ ((hx.trans z2).trans z3) Ax0 x0.length cx0 p3 (fx0.ext (z2.trans z3)) rfl)
            ·
             rw [decide_eq_false h51]
             refine Goes.rn 1 [(80, (pt b10 6))] J4x ?_
             refine Goes.ld 3 (.tmp 80) 81 3 ⟨b10, 6, none⟩ (.i ((gi x0 x3).Y)) (p3.c 0 6) ?_
             refine Goes.rn 5 [(82, .slice Ax0 x0.length cx0), (83, .i (x0.length : Int)), (84, .bool (decide ((gi x0 x3).Y ≥ (x0.length : Int)))), (85, .bool (decide ((gi x0 x3).Y ≥ (x0.length : Int))))] J43 ?_
             have p3 := p3.dp 0
             exact Goes.jp 86 [(0, .slice Ax0 x0.length cx0), (3, .i x3), (85, .bool (decide ((gi x0 x3).Y ≥ (x0.length : Int))))] (u3q _ _ h _ _ ((hx.trans z2).trans z3) Ax0 x0.length cx0 p3 (fx0.ext (z2.trans z3)) rfl)
         ·
          rw [decide_eq_false h48]
          refine Goes.rn 14 [(63, undef), (64, undef), (65, undef), (66, .bool true), (67, .bool true), (68, undef), (69, undef), (70, undef), (71, undef), (72, undef), (73, .bool true), (74, .bool true), (75, undef), (76, undef)] J50 ?_
          refine Goes.rn 10 [(77, undef), (78, .bool true), (79, .bool true), (80, undef), (81, undef), (82, undef), (83, undef), (84, undef), (85, .bool true)] J43 ?_
          have p3 := p3.dp 0
          exact Goes.jp 86 [(0, .slice Ax0 x0.length cx0), (3, .i x3), (85, .bool true)] (u3q _ _ h _ _ ((hx.trans z2).trans z3) Ax0 x0.length cx0 p3 (fx0.ext (z2.trans z3)) rfl)
      ·
       rw [decide_eq_false h33]
       refine Goes.rn 14 [(43, undef), (44, undef), (45, undef), (46, undef), (47, undef), (48, undef), (49, undef), (50, undef), (51, .bool true), (52, .bool true), (53, undef), (54, undef), (55, undef), (56, undef)] J4q ?_
       refine Goes.rn 14 [(57, undef), (58, undef), (59, undef), (60, undef), (61, .bool true), (62, .bool true), (63, undef), (64, undef), (65, undef), (66, .bool true), (67, .bool true), (68, undef), (69, undef), (70, undef)] J55 ?_
       refine Goes.rn 14 [(71, undef), (72, undef), (73, .bool true), (74, .bool true), (75, undef), (76, undef), (77, undef), (78, .bool true), (79, .bool true), (80, undef), (81, undef), (82, undef), (83, undef), (84, undef)] J56 ?_
       refine Goes.rn 2 [(85, .bool true)] J43 ?_
       have p3 := p3.dp 0
       exact Goes.jp 86 [(0, .slice Ax0 x0.length cx0), (3, .i x3), (85, .bool true)] (u3q _ _ h _ _ ((hx.trans z2).trans z3) Ax0 x0.length cx0 p3 (fx0.ext (z2.trans z3)) rfl)
  ·
   rw [decide_eq_false h3]
   refine Goes.rn 6 [(2, .i 0)] J57 ?_
   obtain rfl := Option.some.inj h
   exact Goes.rt Tryd.f24 (.i 0) ⟨S1, rfl, hx, p1⟩
 ·
  intro u3r u3s ⟨x0, x3, x85⟩ r h S1 w1 hx Ax0 nx0 cx0 p1 fx0 lx0 junk
  try dsimp only at h
  subst lx0
  refine ite_some h (fun h52 h => ?_) (fun h52 h => ?_)
  ·
   rw [h52]
   refine Goes.rn 5 [(2, .i 110)] J58 ?_
   obtain rfl := Option.some.inj h
   exact Goes.rt Tryd.f24 (.i 110) ⟨S1, rfl, hx, p1⟩
  ·
   have u3t : x85 = false := by simpa using h52
   rw [u3t]
   refine Goes.rn 9 [(17, .i x3), (18, .i (wr .i64 (x3 + 1))), (3, .i (wr .i64 (x3 + 1)))] J40 ?_
   exact Goes.jp 86 [(0, .slice Ax0 x0.length cx0), (3, .i (wr .i64 (x3 + 1)))] (u3s _ _ h _ _ hx Ax0 x0.length cx0 p1 fx0 rfl)

theorem W.zm {nz wz S0 w0 Lr} [Gw nz wz] : ∀ a r, M.tidepoleref11_Check_l1 a = some r → (L.zm nz wz S0 w0 Lr) a r := (W.zo).1

theorem W.zn {nz wz S0 w0 Lr} [Gw nz wz] : ∀ a r, M.tidepoleref11_Check_l2 a = some r → (L.zn nz wz S0 w0 Lr) a r := (W.zo).2

def Q3d := sub [1, 1] B24
def J59 : List Item := [.code Q3d]
def Q3e := sub [1, 0, 1] B24
def J5a : List Item := .code Q3e :: J59
def Q3f := sub [1, 0, 1, 0, 1] B24
def J5b : List Item := .code Q3f :: J59

def L.zp : (List T48) × Bool → Int → Prop := fun ⟨x0, x12⟩ r => ∀ S1 w1, Ext S0 w0 S1 w1 → ∀ Ax0 nx0 cx0 (_ : Hp nz wz S1 w1 (Lr)) (_ : Rd kT48 S1 w1 Ax0 cx0 x0) (_ : x0.length = nx0) (junk : Nat → Value),
 Goes Tryd.prog (base 24) J5a ⟨lfr 86 [(0, .slice Ax0 nx0 cx0), (12, .bool x12)] junk, []⟩ w1 (Done Tryd.prog 24 (Rets (Post.zl nz wz S0 w0 Lr r)))

theorem W.zp {nz wz S0 w0 Lr} [Gw nz wz] : ∀ a r, M.tidepoleref11_Check_l0 a = some r → L.zp nz wz S0 w0 Lr a r := by
 intro ⟨x0, x12⟩ r h S1 w1 hx Ax0 nx0 cx0 p1 fx0 lx0 junk
 rw [M.tidepoleref11_Check_l0] at h
 try dsimp only at h
 subst lx0
 refine ite_some h (fun h2 h => ?_) (fun h2 h => ?_)
 ·
  rw [h2]
  refine Goes.rn 5 [(2, .i 110)] J5b ?_
  obtain rfl := Option.some.inj h
  exact Goes.rt Tryd.f24 (.i 110) ⟨S1, rfl, hx, p1⟩
 ·
  have h2' : x12 = false := by simpa using h2
  rw [h2']
  refine Goes.rn 9 [(3, .i 0)] J40 ?_
  exact Goes.jp 86 [(0, .slice Ax0 x0.length cx0), (3, .i 0)] (W.zm _ _ h _ _ hx Ax0 x0.length cx0 p1 fx0 rfl)

def Q3g := sub [1, 0, 0] B24
def J5c : List Item := .inRegion (opsOf Q3g) [4, 5, 6, 7] :: J5a

theorem W.zl (x0 : List T48) (r : Int) (h : M.tidepoleref11_Check x0 = some r) {nz wz S0 w0 Lr} [Gw nz wz] (Ax0 nx0 cx0) (p0 : Hp nz wz S0 w0 (Lr)) (fx0 : Rd kT48 S0 w0 Ax0 cx0 x0) (lx0 : x0.length = nx0) :
  Calls Tryd.prog 24 #[.slice Ax0 nx0 cx0] w0 (Rets (Post.zl nz wz S0 w0 Lr r)) := by
 subst lx0
 refine calls_of_goes (fn := Tryd.f24) (c := B24) (by kernel_rfl) (by kernel_rfl) 85 (by kernel_rfl) ?_
 refine Goes.jp 86 [(0, .slice Ax0 x0.length cx0)] (fun junk => ?_)
 delta M.tidepoleref11_Check at h
 refine Goes.rn 11 [(2, .i 0), (5, .slice Ax0 x0.length cx0), (6, .i (x0.length : Int)), (7, .bool (decide ((x0.length : Int) = 0))), (8, .bool (decide ((x0.length : Int) = 0)))] J5c ?_
 refine ite_some h (fun h1 h => ?_) (fun h1 h => ?_)
 ·
  rw [decide_eq_true h1]
  refine Goes.rn 5 [(9, undef), (10, undef), (11, undef), (12, .bool true)] J5a ?_
  exact Goes.jp 86 [(0, .slice Ax0 x0.length cx0), (12, .bool true)] (W.zp _ _ h _ _ (Ext.refl S0 w0) Ax0 x0.length cx0 p0 fx0 rfl)
 ·
  rw [decide_eq_false h1]
  refine Goes.rn 5 [(9, .slice Ax0 x0.length cx0), (10, .i (x0.length : Int)), (11, .bool (decide ((x0.length : Int) > 2048))), (12, .bool (decide ((x0.length : Int) > 2048)))] J5a ?_
  exact Goes.jp 86 [(0, .slice Ax0 x0.length cx0), (12, .bool (decide ((x0.length : Int) > 2048)))] (W.zp _ _ h _ _ (Ext.refl S0 w0) Ax0 x0.length cx0 p0 fx0 rfl)

def Q3h := sub [1] B42
def J5d : List Item := [.code Q3h]
def Q3i := sub [0] B42
def J5e : List Item := .inRegion (opsOf Q3i) [0, 1] :: J5d
def Q3j := sub [1, 1] B42
def J5f : List Item := [.code Q3j]
def Q3k := sub [1, 0] B42
def J5g : List Item := .inRegion (opsOf Q3k) [2, 3, 4, 5, 6, 7, 8, 9] :: J5f
def J5h : List Item := .inRegion (opsOf Q3k) [6, 7, 8, 9] :: J5f

def Post.zq (r : Bool) (v : Value) (w' : World) : Prop :=
 ∃ S', v = .bool r ∧ Ext S0 w0 S' w' ∧ Hp nz wz S' w' (Lr)

theorem W.zq (x0 : List Int) (x1 : Int) (r : Bool) (h : M.tidepoleref10_Has x0 x1 = some r) {nz wz S0 w0 Lr} [Gw nz wz] (u3u) (p0 : Hp nz wz S0 w0 (Lr)) (fx0 : Els (kInt .u64) S0 w0 u3u x0) (lx0 : u3u.length = 4) :
  Calls Tryd.prog 42 #[.agg u3u.toArray, .int .u8 x1] w0 (Rets (Post.zq nz wz S0 w0 Lr r)) := by
 refine calls_of_goes (fn := Tryd.f42) (c := B42) (by kernel_rfl) (by kernel_rfl) 12 (by kernel_rfl) ?_
 refine Goes.jp 14 [(0, .agg u3u.toArray), (1, .int .u8 x1)] (fun junk => ?_)
 delta M.tidepoleref10_Has at h
 refine Goes.rn 2 [] J5e ?_
 refine Op_.box 25 (.tmp 0) 2 0 (.agg u3u.toArray) u3u p0 Goes.v (by kernel_rfl) rfl ?_
 intro b1 w2 z2 p2
 replace p2 : Hp nz wz S0 w2 ((some b1, .row 25 u3u 4 0) :: Lr) := by rw [show (u3u).length = 4 from lx0] at p2; exact p2
 refine Goes.rn 6 [(4, .bool false), (5, .int .u8 x1), (6, .int .u8 (iquo .u8 x1 64))] J5g ?_
 refine guard_some' h fun g3 h => ?_
 refine guard_some' h fun g4 h => ?_
 refine Op_.ixA_n (K := (kInt .u64)) 25 (.tmp 2) (.tmp 6) 7 0 23 4 .u8 (iquo .u8 x1 64) 0 (gi x0 (iquo .u8 x1 64)) rfl p2 rfl (fx0.ext z2) (Els.len1 (fx0.ext z2) lx0 rfl) Goes.v (by kernel_rfl) (by kernel_rfl) (by kernel_rfl) (by kernel_rfl) g3 g4 ?_
 intro _ q6 f5
 obtain rfl := q6
 refine Goes.ld 23 (.tmp 7) 8 23 ⟨b1, (iquo .u8 x1 64 : Int).toNat * (kInt .u64).size, none⟩ (.u (gi x0 (iquo .u8 x1 64))) (f5 0 _ rfl) ?_
 refine Goes.rn 2 [(9, .int .u8 x1), (10, .int .u8 (irem .u8 x1 64))] J5h ?_
 refine guard_some' h fun g7 h => ?_
 refine Op_.binshr 23 (.tmp 8) (.tmp 10) 5 11 23 .u64 .u8 (gi x0 (iquo .u8 x1 64)) (irem .u8 x1 64) Goes.v (by kernel_rfl) (by kernel_rfl) g7 ?_
 refine Goes.rn 4 [(12, .u (irem .u64 (ishr .u64 (gi x0 (iquo .u8 x1 64)) (irem .u8 x1 64)) 2)), (13, .bool (decide (irem .u64 (ishr .u64 (gi x0 (iquo .u8 x1 64)) (irem .u8 x1 64)) 2 = 1))), (4, .bool (decide (irem .u64 (ishr .u64 (gi x0 (iquo .u8 x1 64)) (irem .u8 x1 64)) 2 = 1)))] J5f ?_
 obtain rfl := Option.some.inj h
 have p2 := p2.dp 0
 exact Goes.rt Tryd.f42 (.bool (decide (irem .u64 (ishr .u64 (gi x0 (iquo .u8 x1 64)) (irem .u8 x1 64)) 2 = 1))) ⟨S0, rfl, ((Ext.refl S0 w0).trans z2), p2⟩

def Q3l := sub [1, 1, 1, 1] B43
def J5i : List Item := [.code Q3l]
def J5j : List Item := .inBlock 0 :: J5i
def Q3m := sub [1, 1, 1, 0, 0, 0] B43
def J5k : List Item := .inLoop Q3m :: J5j
def J5l : List Item := .code Q3m :: J5k
def J5m : List Item := .inBlock 1 :: J5k
def Q3n := sub [1, 1, 1, 0, 0, 0, 1, 0, 1, 1] B43
def J5n : List Item := .code Q3n :: J5m
def Q3o := sub [1, 1, 1, 0, 0, 0, 1] B43
def J5o : List Item := .code Q3o :: J5k
def Q3p := sub [1, 1, 1, 0, 0, 0, 0, 1] B43
def J5p : List Item := .code Q3p :: J5o
def Q3q := sub [1, 1, 1, 1, 1] B43
def J5q : List Item := [.code Q3q]
def Q3r := sub [1, 1, 1, 1, 0, 1] B43
def J5r : List Item := .code Q3r :: J5q
def Q3s := sub [1, 1, 1, 1, 0, 1, 0] B43
def J5s : List Item := .inRegion (opsOf Q3s) [1, 2] :: J5q
def Q3t := sub [1, 1, 1, 1, 1, 1] B43
def J5t : List Item := [.code Q3t]
def Q3u := sub [1, 1, 1, 0, 0, 0, 1, 0, 1, 0, 1] B43
def J5u : List Item := .code Q3u :: J5n
def Q3v := sub [1, 1, 1, 0, 0, 0, 1, 0, 1, 0, 0] B43
def J5v : List Item := .inRegion (opsOf Q3v) [] :: J5u
def Q3w := sub [1, 1, 1, 0, 0, 0, 1, 0, 1, 1, 1] B43
def J5w : List Item := .code Q3w :: J5m
def Q3x := sub [1, 1, 1, 0, 0, 0, 1, 0, 1, 1, 0] B43
def J5x : List Item := .inRegion (opsOf Q3x) [3, 4, 5, 6, 7] :: J5w
def J5y : List Item := .inRegion (opsOf Q3x) [6, 7] :: J5w

def Post.zr (r : ByteArray) (v : Value) (w' : World) : Prop :=
 ∃ S', v = .string r ∧ Ext S0 w0 S' w' ∧ Hp nz wz S' w' (Lr)

def L.zs : Int × ByteArray × Int → ByteArray → Prop := fun ⟨x0, x3, x4⟩ r => ∀ S1 w1, Ext S0 w0 S1 w1 → ∀ (_ : Hp nz wz S1 w1 (Lr)) (junk : Nat → Value),
 Goes Tryd.prog (base 43) J5l ⟨lfr 31 [(0, .i x0), (3, .string x3), (4, .i x4)] junk, []⟩ w1 (Done Tryd.prog 43 (Rets (Post.zr nz wz S0 w0 Lr r)))

def L.zt : Int × ByteArray × Int × Int → ByteArray → Prop := fun ⟨x0, x3, x4, x5⟩ r => ∀ S1 w1, Ext S0 w0 S1 w1 → ∀ (_ : Hp nz wz S1 w1 (Lr)) (junk : Nat → Value),
 Goes Tryd.prog (base 43) J5n ⟨lfr 31 [(0, .i x0), (3, .string x3), (4, .i x4), (5, .i x5)] junk, []⟩ w1 (Done Tryd.prog 43 (Rets (Post.zr nz wz S0 w0 Lr r)))

theorem W.zu {nz wz S0 w0 Lr} [Gw nz wz] : (∀ a r, M.tidepolebase_Itoa_l0 a = some r → (L.zs nz wz S0 w0 Lr) a r) ∧ (∀ a r, M.tidepolebase_Itoa_l1 a = some r → (L.zt nz wz S0 w0 Lr) a r) := by
 refine M.tidepolebase_Itoa_l0.mutual_partial_correctness (L.zs nz wz S0 w0 Lr) (L.zt nz wz S0 w0 Lr) ?_ ?_
 ·
  intro u3v u3w ⟨x0, x3, x4⟩ r h S1 w1 hx p1 junk
  try dsimp only at h
  refine Goes.rn 6 [(9, .i x4), (10, .bool (!(decide (x4 = 0))))] J5p ?_
  refine ite_some h (fun h2 h => ?_) (fun h2 h => ?_)
  ·
   rw [decide_eq_true h2]
   refine Goes.rn 8 [(26, .i x0), (27, .bool (decide (x0 < 0)))] J5r ?_
   refine ite_some h (fun h3 h => ?_) (fun h3 h => ?_)
   ·
    rw [decide_eq_true h3]
    refine Goes.rn 3 [(28, .string x3)] J5s ?_
    refine guard_some' h fun g4 h => ?_
    refine Op_.cat_n 9 (.const (.string ⟨#[45]⟩)) (.tmp 28) 9 29 9 (⟨#[45]⟩ : ByteArray) x3 ((⟨#[45]⟩ : ByteArray) ++ x3) rfl Goes.v (by kernel_rfl) (by kernel_rfl) g4 ?_
    refine Goes.rn 7 [(3, .string ((⟨#[45]⟩ : ByteArray) ++ x3)), (30, .string ((⟨#[45]⟩ : ByteArray) ++ x3)), (2, .string ((⟨#[45]⟩ : ByteArray) ++ x3))] J5t ?_
    obtain rfl := Option.some.inj h
    exact Goes.rt Tryd.f43 (.string ((⟨#[45]⟩ : ByteArray) ++ x3)) ⟨S1, rfl, hx, p1⟩
   ·
    rw [decide_eq_false h3]
    refine Goes.rn 7 [(30, .string x3), (2, .string x3)] J5t ?_
    obtain rfl := Option.some.inj h
    exact Goes.rt Tryd.f43 (.string x3) ⟨S1, rfl, hx, p1⟩
  ·
   rw [decide_eq_false h2]
   refine Goes.rn 14 [(11, .i x4), (12, .i (irem .i64 x4 10)), (5, .i (irem .i64 x4 10)), (13, .i (irem .i64 x4 10)), (14, .bool (decide (irem .i64 x4 10 < 0)))] J5v ?_
   refine Goes.rn 1 [] J5u ?_
   refine ite_some h (fun h5 h => ?_) (fun h5 h => ?_)
   ·
    rw [decide_eq_true h5]
    refine Goes.rn 6 [(15, .i (irem .i64 x4 10)), (16, .i (wr .i64 (0 - (irem .i64 x4 10)))), (5, .i (wr .i64 (0 - (irem .i64 x4 10))))] J5n ?_
    exact Goes.jp 31 [(0, .i x0), (3, .string x3), (4, .i x4), (5, .i (wr .i64 (0 - (irem .i64 x4 10))))] (u3w _ _ h _ _ hx p1)
   ·
    rw [decide_eq_false h5]
    refine Goes.rn 2 [] J5n ?_
    exact Goes.jp 31 [(0, .i x0), (3, .string x3), (4, .i x4), (5, .i (irem .i64 x4 10))] (u3w _ _ h _ _ hx p1)
 ·
  intro u3x u3y ⟨x0, x3, x4, x5⟩ r h S1 w1 hx p1 junk
  try dsimp only at h
  refine Goes.rn 5 [(17, .i x5), (18, .i (wr .i64 (48 + x5))), (19, .int .u8 (wr .u8 (wr .i64 (48 + x5))))] J5x ?_
  have f7 : Els (kInt .u8) S1 w1 ([.int .u8 (wr .u8 (wr .i64 (48 + x5)))] : List Value) [wr .u8 (wr .i64 (48 + x5))] := by exact (Els.cons (K := (kInt .u8)) (vs := [.int .u8 (wr .u8 (wr .i64 (48 + x5)))]) (x := wr .u8 (wr .i64 (48 + x5))) rfl Els.nil)
  refine Op_.made (.buildSlice 54 1 #[(0, (.tmp 19))]) 20 54 (fun b => .slice (Gp (some b)) 1 1) 5 ([.int .u8 (wr .u8 (wr .i64 (48 + x5)))] : List Value) p1 Goes.v (by kernel_rfl) ?_
  intro b6 w2 z2 p2
  have p2 : Hp nz wz S1 w2 (((some b6), .row 5 ([.int .u8 (wr .u8 (wr .i64 (48 + x5)))] : List Value) (1 * (kInt .u8).size) 0) :: Lr) := p2
  obtain ⟨S3, z3, p3, f9⟩ := p2.freezeRd 0 rfl (f7.ext z2) (by decide)
  refine Op_.b2s_n 54 9 (.tmp 20) 21 9 5 (b2s [wr .u8 (wr .i64 (48 + x5))]) rfl rfl f9 Goes.v (by kernel_rfl) (by kernel_rfl) (by kernel_rfl) (by kernel_rfl) ?_
  refine Goes.rn 1 [(22, .string x3)] J5y ?_
  refine guard_some' h fun g10 h => ?_
  refine Op_.cat_n 9 (.tmp 21) (.tmp 22) 9 23 9 (b2s [wr .u8 (wr .i64 (48 + x5))]) x3 ((b2s [wr .u8 (wr .i64 (48 + x5))]) ++ x3) rfl Goes.v (by kernel_rfl) (by kernel_rfl) g10 ?_
  refine Goes.rn 9 [(3, .string ((b2s [wr .u8 (wr .i64 (48 + x5))]) ++ x3)), (24, .i x4), (25, .i (iquo .i64 x4 10)), (4, .i (iquo .i64 x4 10))] J5l ?_
  have p3 := p3.dp 0
  exact Goes.jp 31 [(0, .i x0), (3, .string ((b2s [wr .u8 (wr .i64 (48 + x5))]) ++ x3)), (4, .i (iquo .i64 x4 10))] (u3y _ _ h _ _ ((hx.trans z2).trans z3) p3)

theorem W.zs {nz wz S0 w0 Lr} [Gw nz wz] : ∀ a r, M.tidepolebase_Itoa_l0 a = some r → (L.zs nz wz S0 w0 Lr) a r := (W.zu).1

theorem W.zt {nz wz S0 w0 Lr} [Gw nz wz] : ∀ a r, M.tidepolebase_Itoa_l1 a = some r → (L.zt nz wz S0 w0 Lr) a r := (W.zu).2

def Q3y := sub [1, 1] B43
def J5z : List Item := [.code Q3y]
def Q3z := sub [1, 0, 1] B43
def J60 : List Item := .code Q3z :: J5z
def Q40 := sub [1, 0, 1, 0, 1] B43
def J61 : List Item := .code Q40 :: J5z

theorem W.zr (x0 : Int) (r : ByteArray) (h : M.tidepolebase_Itoa x0 = some r) {nz wz S0 w0 Lr} [Gw nz wz] (p0 : Hp nz wz S0 w0 (Lr)) :
  Calls Tryd.prog 43 #[.i x0] w0 (Rets (Post.zr nz wz S0 w0 Lr r)) := by
 refine calls_of_goes (fn := Tryd.f43) (c := B43) (by kernel_rfl) (by kernel_rfl) 30 (by kernel_rfl) ?_
 refine Goes.jp 31 [(0, .i x0)] (fun junk => ?_)
 delta M.tidepolebase_Itoa at h
 refine Goes.rn 10 [(2, .string (⟨#[]⟩ : ByteArray)), (6, .i x0), (7, .bool (decide (x0 = 0)))] J60 ?_
 refine ite_some h (fun h1 h => ?_) (fun h1 h => ?_)
 ·
  rw [decide_eq_true h1]
  refine Goes.rn 5 [(2, .string (⟨#[48]⟩ : ByteArray))] J61 ?_
  obtain rfl := Option.some.inj h
  exact Goes.rt Tryd.f43 (.string (⟨#[48]⟩ : ByteArray)) ⟨S0, rfl, (Ext.refl S0 w0), p0⟩
 ·
  rw [decide_eq_false h1]
  refine Goes.rn 11 [(8, .i x0), (3, .string (⟨#[]⟩ : ByteArray)), (4, .i x0)] J5l ?_
  exact Goes.jp 31 [(0, .i x0), (3, .string (⟨#[]⟩ : ByteArray)), (4, .i x0)] (W.zs _ _ h _ _ (Ext.refl S0 w0) p0)

def Q41 := sub [1, 1, 1, 1] B22
def J62 : List Item := [.code Q41]
def J63 : List Item := .inBlock 0 :: J62
def Q42 := sub [1, 1, 1, 0, 1, 0, 0] B22
def J64 : List Item := .inLoop Q42 :: J63
def J65 : List Item := .code Q42 :: J64
def Q43 := sub [1, 1, 1, 0, 1, 0, 0, 1, 1] B22
def J66 : List Item := .code Q43 :: J64
def J67 : List Item := .inBlock 1 :: J66
def J68 : List Item := .inBlock 2 :: J67
def Q44 := sub [1, 1, 1, 0, 1, 0, 0, 1, 0, 0, 1, 1, 0, 1, 0, 1, 1] B22
def J69 : List Item := .code Q44 :: J68
def J6a : List Item := .inBlock 3 :: J69
def Q45 := sub [1, 1, 1, 0, 1, 0, 0, 1, 0, 0, 1, 1, 0, 1, 0, 1, 0, 1, 0, 0] B22
def J6b : List Item := .inLoop Q45 :: J6a
def J6c : List Item := .code Q45 :: J6b
def Q46 := sub [1, 1, 1, 0, 1, 0, 0, 1, 0, 0, 1, 1, 0, 1, 0, 1, 0, 1, 0, 0, 1, 1] B22
def J6d : List Item := .code Q46 :: J6b
def J6e : List Item := .inBlock 4 :: J6d
def Q47 := sub [1, 1, 1, 0, 1, 0, 0, 1] B22
def J6f : List Item := .code Q47 :: J64
def Q48 := sub [1, 1, 1, 0, 1, 0, 0, 0, 1] B22
def J6g : List Item := .code Q48 :: J6f
def Q49 := sub [1, 1, 1, 0, 1, 0, 0, 1, 0, 0, 1] B22
def J6h : List Item := .code Q49 :: J67
def Q4a := sub [1, 1, 1, 0, 1, 0, 0, 1, 0, 0, 0] B22
def J6i : List Item := .inRegion (opsOf Q4a) [2, 3, 4, 5] :: J6h
def Q4b := sub [1, 1, 1, 0, 1, 0, 0, 1, 0, 0, 1, 1] B22
def J6j : List Item := .code Q4b :: J67
def Q4c := sub [1, 1, 1, 0, 1, 0, 0, 1, 0, 0, 1, 0] B22
def J6k : List Item := .inRegion (opsOf Q4c) [1] :: J6j
def Q4d := sub [1, 1, 1, 0, 1, 0, 0, 1, 0, 0, 1, 1, 0, 1] B22
def J6l : List Item := .code Q4d :: J68
def Q4e := sub [1, 1, 1, 0, 1, 0, 0, 1, 0, 0, 1, 1, 0, 1, 1, 1] B22
def J6m : List Item := .code Q4e :: J68
def Q4f := sub [1, 1, 1, 0, 1, 0, 0, 1, 0, 0, 1, 1, 0, 1, 1, 1, 0] B22
def J6n : List Item := .code Q4f :: J68
def Q4g := sub [1, 1, 1, 0, 1, 0, 0, 1, 0, 0, 1, 1, 0, 1, 1, 1, 1, 1] B22
def J6o : List Item := .code Q4g :: J68
def Q4h := sub [1, 1, 1, 0, 1, 0, 0, 1, 0, 0, 1, 1, 0, 1, 1, 1, 1, 1, 0] B22
def J6p : List Item := .inRegion (opsOf Q4h) [1, 2] :: J68
def Q4i := sub [1, 1, 1, 0, 1, 0, 0, 1, 0, 0, 1, 1, 0, 1, 1, 1, 1, 1, 1, 1] B22
def J6q : List Item := .code Q4i :: J68
def Q4j := sub [1, 1, 1, 0, 1, 0, 0, 1, 0, 0, 1, 1, 0, 1, 1, 1, 1, 1, 1, 1, 0] B22
def J6r : List Item := .inRegion (opsOf Q4j) [2, 3, 4, 5, 6, 7] :: J68
def Q4k := sub [1, 1, 1, 1, 1] B22
def J6s : List Item := [.code Q4k]
def Q4l := sub [1, 1, 1, 0, 1, 0, 0, 1, 0, 0, 1, 1, 0, 1, 0, 1, 0, 1, 0, 0, 1] B22
def J6t : List Item := .code Q4l :: J6b
def Q4m := sub [1, 1, 1, 0, 1, 0, 0, 1, 0, 0, 1, 1, 0, 1, 0, 1, 0, 1, 0, 0, 0, 1] B22
def J6u : List Item := .code Q4m :: J6t
def Q4n := sub [1, 1, 1, 0, 1, 0, 0, 1, 0, 0, 1, 1, 0, 1, 0, 1, 0, 1, 0, 0, 1, 0, 0, 1] B22
def J6v : List Item := .code Q4n :: J6e
def Q4o := sub [1, 1, 1, 0, 1, 0, 0, 1, 0, 0, 1, 1, 0, 1, 0, 1, 0, 1, 0, 0, 1, 0, 0, 0] B22
def J6w : List Item := .inRegion (opsOf Q4o) [1, 2, 3, 4] :: J6v
def J6x : List Item := .inRegion (opsOf Q4o) [4] :: J6v

def Post.zv (r : ByteArray × Int) (v : Value) (w' : World) : Prop :=
 ∃ S', v = .tuple #[.string r.1, .i r.2] ∧ Ext S0 w0 S' w' ∧ Hp nz wz S' w' (Lr)

def L.zw : (List T48) × ByteArray × Int → (ByteArray × Int) → Prop := fun ⟨x0, x4, x5⟩ r => ∀ S1 w1, Ext S0 w0 S1 w1 → ∀ Ax0 nx0 cx0 (_ : Hp nz wz S1 w1 (Lr)) (_ : Rd kT48 S1 w1 Ax0 cx0 x0) (_ : x0.length = nx0) (junk : Nat → Value),
 Goes Tryd.prog (base 22) J65 ⟨lfr 76 [(0, .slice Ax0 nx0 cx0), (4, .string x4), (5, .i x5)] junk, []⟩ w1 (Done Tryd.prog 22 (Rets (Post.zv nz wz S0 w0 Lr r)))

def L.zx : (List T48) × ByteArray × Int × T48 × Int × Int → (ByteArray × Int) → Prop := fun ⟨x0, x4, x5, x6v, x7, x8⟩ r => ∀ S1 w1, Ext S0 w0 S1 w1 → ∀ Ax0 nx0 cx0 gx6 (_ : Hp nz wz S1 w1 ((some gx6, .row 49 (.i x6v.Op :: U4 x6v.Set [.i x6v.X, .i x6v.Y]) 7 0) :: Lr)) (_ : Rd kT48 S1 w1 Ax0 cx0 x0) (_ : x0.length = nx0) (_ : x6v.Set.length = 4) (junk : Nat → Value),
 Goes Tryd.prog (base 22) J6c ⟨lfr 76 [(0, .slice Ax0 nx0 cx0), (4, .string x4), (5, .i x5), (6, (pt gx6 0)), (7, .i x7), (8, .i x8)] junk, []⟩ w1 (Done Tryd.prog 22 (Rets (Post.zv nz wz S0 w0 Lr r)))

def L.zy : (List T48) × ByteArray × Int × T48 × Int × Int → (ByteArray × Int) → Prop := fun ⟨x0, x4, x5, x6v, x7, x8⟩ r => ∀ S1 w1, Ext S0 w0 S1 w1 → ∀ Ax0 nx0 cx0 gx6 (_ : Hp nz wz S1 w1 ((some gx6, .row 49 (.i x6v.Op :: U4 x6v.Set [.i x6v.X, .i x6v.Y]) 7 0) :: Lr)) (_ : Rd kT48 S1 w1 Ax0 cx0 x0) (_ : x0.length = nx0) (_ : x6v.Set.length = 4) (junk : Nat → Value),
 Goes Tryd.prog (base 22) J6e ⟨lfr 76 [(0, .slice Ax0 nx0 cx0), (4, .string x4), (5, .i x5), (6, (pt gx6 0)), (7, .i x7), (8, .i x8)] junk, []⟩ w1 (Done Tryd.prog 22 (Rets (Post.zv nz wz S0 w0 Lr r)))

def L.zz : (List T48) × ByteArray × Int → (ByteArray × Int) → Prop := fun ⟨x0, x4, x5⟩ r => ∀ S1 w1, Ext S0 w0 S1 w1 → ∀ Ax0 nx0 cx0 (_ : Hp nz wz S1 w1 (Lr)) (_ : Rd kT48 S1 w1 Ax0 cx0 x0) (_ : x0.length = nx0) (junk : Nat → Value),
 Goes Tryd.prog (base 22) J68 ⟨lfr 76 [(0, .slice Ax0 nx0 cx0), (4, .string x4), (5, .i x5)] junk, []⟩ w1 (Done Tryd.prog 22 (Rets (Post.zv nz wz S0 w0 Lr r)))

theorem W.z10 {nz wz S0 w0 Lr} [Gw nz wz] : (∀ a r, M.tidepoleref11_Text_l0 a = some r → (L.zw nz wz S0 w0 Lr) a r) ∧ (∀ a r, M.tidepoleref11_Text_l2 a = some r → (L.zz nz wz S0 w0 Lr) a r) ∧ (∀ a r, M.tidepoleref11_Text_l1 a = some r → (L.zx nz wz S0 w0 Lr) a r) ∧ (∀ a r, M.tidepoleref11_Text_l3 a = some r → (L.zy nz wz S0 w0 Lr) a r) := by
 refine M.tidepoleref11_Text_l0.mutual_partial_correctness (L.zw nz wz S0 w0 Lr) (L.zz nz wz S0 w0 Lr) (L.zx nz wz S0 w0 Lr) (L.zy nz wz S0 w0 Lr) ?_ ?_ ?_ ?_
 ·
  intro u3z u40 u41 u42 ⟨x0, x4, x5⟩ r h S1 w1 hx Ax0 nx0 cx0 p1 fx0 lx0 junk
  try dsimp only at h
  subst lx0
  refine Goes.rn 8 [(12, .i x5), (13, .slice Ax0 x0.length cx0), (14, .i (x0.length : Int)), (15, .bool (decide (x5 < (x0.length : Int))))] J6g ?_
  refine ite_some h (fun h4 h => ?_) (fun h4 h => ?_)
  ·
   rw [decide_eq_true h4]
   refine Goes.rn 8 [(18, .slice Ax0 x0.length cx0), (19, .i x5)] J6i ?_
   refine guard_some' h fun g5 h => ?_
   refine Op_.ixR_n 37 (.tmp 18) (.tmp 19) 20 0 49 .i64 x5 (gi x0 x5) rfl rfl fx0 Goes.v (by kernel_rfl) (by kernel_rfl) (by kernel_rfl) (by kernel_rfl) g5 h4 ?_
   intro a6 _ f7 q8
   obtain ⟨_, _, rfl, rfl, ⟨_, _, rfl, ⟨l9, f10⟩, ⟨_, _, rfl, rfl, rfl⟩⟩⟩ := q8
   obtain rfl := els_lit4' f10 l9
   refine Goes.ldN 49 (.tmp 20) 21 49 a6 ([.i ((gi x0 x5).Op)] ++ ((U4 ((gi x0 x5).Set) []) ++ ([.i ((gi x0 x5).X)] ++ [.i ((gi x0 x5).Y)]))) (f7.cell) ?_
   refine Op_.alloc 49 6 0 (.agg #[.i 0, .u 0, .u 0, .u 0, .u 0, .i 0, .i 0]) [.i 0, .u 0, .u 0, .u 0, .u 0, .i 0, .i 0] p1 Goes.v (by kernel_rfl) (by kernel_rfl) ?_
   intro b11 w3 z3 p3
   refine Op_.st 49 (.tmp 6) (.tmp 21) 0 0 b11 0 (ag (.i ((gi x0 x5).Op) :: U4 ((gi x0 x5).Set) [.i ((gi x0 x5).X), .i ((gi x0 x5).Y)])) (.i ((gi x0 x5).Op) :: U4 ((gi x0 x5).Set) [.i ((gi x0 x5).X), .i ((gi x0 x5).Y)]) p3 rfl Goes.s (by kernel_rfl) (by kernel_rfl) (by kernel_rfl) (by kernel_rfl) (Nat.zero_le _) (by simp only [List.length_cons, List.length_nil]; omega) (by simp [Value.oneCell']) ?_
   intro w4 z4 p4
   have p4 : Hp nz wz S1 w4 ((some b11, .row 49 (.i ((gi x0 x5).Op) :: U4 ((gi x0 x5).Set) [.i ((gi x0 x5).X), .i ((gi x0 x5).Y)]) 7 0) :: Lr) := p4
   refine Goes.rn 4 [(22, (pt b11 0))] J6k ?_
   refine Goes.ld 3 (.tmp 22) 23 3 ⟨b11, 0, none⟩ (.i ((gi x0 x5).Op)) (p4.c 0 0) ?_
   refine Goes.rn 7 [(25, .bool (decide ((gi x0 x5).Op = 1))), (24, .bool (decide ((gi x0 x5).Op = 1)))] J6l ?_
   refine ite_some h (fun h13 h => ?_) (fun h13 h => ?_)
   ·
    rw [decide_eq_true h13]
    refine Goes.rn 12 [(7, .i 0), (8, .i 0)] J6c ?_
    exact Goes.jp 76 [(0, .slice Ax0 x0.length cx0), (4, .string x4), (5, .i x5), (6, (pt b11 0)), (7, .i 0), (8, .i 0)] (u42 _ _ h _ _ ((hx.trans z3).trans z4) Ax0 x0.length cx0 b11 p4 (fx0.ext (z3.trans z4)) rfl l9)
   ·
    rw [decide_eq_false h13]
    refine Goes.rn 6 [(49, .bool (decide ((gi x0 x5).Op = 2))), (48, .bool (decide ((gi x0 x5).Op = 2)))] J6m ?_
    refine ite_some h (fun h15 h => ?_) (fun h15 h => ?_)
    ·
     rw [decide_eq_true h15]
     refine Goes.rn 1 [] J6n ?_
     have z5 : Ext S1 w4 S1 (w4).drew := Ext.draw
     have p5 := p4.draw
     refine Goes.drawn (s := []) (F := Fc S1 (w4).drew [(⟨b11, 5, none⟩, .i ((gi x0 x5).X)), (⟨b11, 6, none⟩, .i ((gi x0 x5).Y))]) 18 13 (by kernel_rfl) (by kernel_rfl) (by kernel_rfl) (by kernel_rfl) ?_
     generalize (w4).drew = w5 at z5 p5 ⊢
     refine AnyG.pu 0 (.move (.tmp 4)) 50 9 (.string x4) (Fc.here (p5.cs [(0, 5, 2)])) ?_
     refine AnyG.pu 1 (.fieldAddr 49 (.tmp 6) 2) 51 0 ((pt b11 5)) (Fc.here (p5.cs [(0, 5, 2)])) ?_
     refine AnyG.ld1 (i := 2) 3 (.tmp 51) 52 3 ⟨b11, 5, none⟩ (.i ((gi x0 x5).X)) (by kernel_rfl) (by kernel_rfl) (Fc.here (p5.cs [(0, 5, 2)])) (by kernel_rfl) (by kernel_rfl) (fun _ h => h.2.at_ 0 rfl) ?_
     refine AnyG.pu 6 (.fieldAddr 49 (.tmp 6) 3) 56 0 ((pt b11 6)) (Fc.here (p5.cs [(0, 5, 2)])) ?_
     refine AnyG.ld1 (i := 7) 3 (.tmp 56) 57 3 ⟨b11, 6, none⟩ (.i ((gi x0 x5).Y)) (by kernel_rfl) (by kernel_rfl) (Fc.here (p5.cs [(0, 5, 2)])) (by kernel_rfl) (by kernel_rfl) (fun _ h => h.2.at_ 1 rfl) ?_
     refine bind_some' h fun y16 e17 h => ?_
     refine Op_.call (kc 43 [52] #[3]) 53 9 43 #[.i ((gi x0 x5).X)] (AnyG.cs (i := 3) (by kernel_rfl) (by kernel_rfl)) (by kernel_rfl) (W.zr ((gi x0 x5).X) y16 e17  p5 ) ?_
     rintro _ w6 ⟨S6, rfl, z6, p6⟩
     refine AnyG.next z6 ⟨(p6.c 0 5), (p6.c 0 6), trivial⟩ ?_
     refine guard_some' h fun g18 h => ?_
     refine let_some h fun v19 e20 h => ?_
     refine AnyG.cat_n (i := 4) 9 (.const (.string ⟨#[115, 112, 108, 105, 116, 32]⟩)) (.tmp 53) 9 54 9 (⟨#[115, 112, 108, 105, 116, 32]⟩ : ByteArray) y16 v19 e20 (by kernel_rfl) (by kernel_rfl) (Fc.here (p6.cs [(0, 5, 2)])) (by kernel_rfl) (by kernel_rfl) g18 ?_
     refine guard_some' h fun g21 h => ?_
     refine AnyG.cat_n (i := 5) 9 (.tmp 54) (.const (.string ⟨#[32]⟩)) 9 55 9 v19 (⟨#[32]⟩ : ByteArray) (v19 ++ (⟨#[32]⟩ : ByteArray)) rfl (by kernel_rfl) (by kernel_rfl) (Fc.here (p6.cs [(0, 5, 2)])) (by kernel_rfl) (by kernel_rfl) g21 ?_
     refine bind_some' h fun y22 e23 h => ?_
     refine Op_.call (kc 43 [57] #[3]) 58 9 43 #[.i ((gi x0 x5).Y)] (AnyG.cs (i := 8) (by kernel_rfl) (by kernel_rfl)) (by kernel_rfl) (W.zr ((gi x0 x5).Y) y22 e23  p6 ) ?_
     rintro _ w7 ⟨S7, rfl, z7, p7⟩
     refine AnyG.next z7 ⟨(p7.c 0 5), (p7.c 0 6), trivial⟩ ?_
     refine guard_some' h fun g24 h => ?_
     refine AnyG.cat_n (i := 9) 9 (.tmp 55) (.tmp 58) 9 59 9 (v19 ++ (⟨#[32]⟩ : ByteArray)) y22 ((v19 ++ (⟨#[32]⟩ : ByteArray)) ++ y22) rfl (by kernel_rfl) (by kernel_rfl) (Fc.here (p7.cs [(0, 5, 2)])) (by kernel_rfl) (by kernel_rfl) g24 ?_
     refine guard_some' h fun g25 h => ?_
     refine let_some h fun v26 e27 h => ?_
     refine AnyG.cat_n (i := 10) 9 (.tmp 59) (.const (.string ⟨#[10]⟩)) 9 60 9 ((v19 ++ (⟨#[32]⟩ : ByteArray)) ++ y22) (⟨#[10]⟩ : ByteArray) v26 e27 (by kernel_rfl) (by kernel_rfl) (Fc.here (p7.cs [(0, 5, 2)])) (by kernel_rfl) (by kernel_rfl) g25 ?_
     refine guard_some' h fun g28 h => ?_
     refine AnyG.cat_n (i := 11) 9 (.tmp 50) (.tmp 60) 9 61 9 x4 v26 (x4 ++ v26) rfl (by kernel_rfl) (by kernel_rfl) (Fc.here (p7.cs [(0, 5, 2)])) (by kernel_rfl) (by kernel_rfl) g28 ?_
     refine AnyG.pu 12 (.assign (.tmp 61)) 4 9 (.string (x4 ++ v26)) (Fc.here (p7.cs [(0, 5, 2)])) ?_
     refine AnyG.done (by kernel_rfl) ?_ _
     have p7 := p7.dp 0
     exact Goes.jp 76 [(0, .slice Ax0 x0.length cx0), (4, .string (x4 ++ v26)), (5, .i x5)] (u41 _ _ h _ _ (((((hx.trans z3).trans z4).trans z5).trans z6).trans z7) Ax0 x0.length cx0 p7 (fx0.ext ((((z3.trans z4).trans z5).trans z6).trans z7)) rfl)
    ·
     rw [decide_eq_false h15]
     refine Goes.rn 6 [(63, .bool (decide ((gi x0 x5).Op = 3))), (62, .bool (decide ((gi x0 x5).Op = 3)))] J6o ?_
     refine ite_some h (fun h29 h => ?_) (fun h29 h => ?_)
     ·
      rw [decide_eq_true h29]
      refine Goes.rn 3 [(64, .string x4)] J6p ?_
      refine guard_some' h fun g30 h => ?_
      refine Op_.cat_n 9 (.tmp 64) (.const (.string ⟨#[101, 110, 100, 10]⟩)) 9 65 9 x4 (⟨#[101, 110, 100, 10]⟩ : ByteArray) (x4 ++ (⟨#[101, 110, 100, 10]⟩ : ByteArray)) rfl Goes.v (by kernel_rfl) (by kernel_rfl) g30 ?_
      refine Goes.rn 2 [(4, .string (x4 ++ (⟨#[101, 110, 100, 10]⟩ : ByteArray)))] J68 ?_
      have p4 := p4.dp 0
      exact Goes.jp 76 [(0, .slice Ax0 x0.length cx0), (4, .string (x4 ++ (⟨#[101, 110, 100, 10]⟩ : ByteArray))), (5, .i x5)] (u41 _ _ h _ _ ((hx.trans z3).trans z4) Ax0 x0.length cx0 p4 (fx0.ext (z3.trans z4)) rfl)
     ·
      rw [decide_eq_false h29]
      refine Goes.rn 6 [(67, .bool (decide ((gi x0 x5).Op = 4))), (66, .bool (decide ((gi x0 x5).Op = 4)))] J6q ?_
      refine ite_some h (fun h31 h => ?_) (fun h31 h => ?_)
      ·
       rw [decide_eq_true h31]
       refine Goes.rn 4 [(68, .string x4), (69, (pt b11 5))] J6r ?_
       refine Goes.ld 3 (.tmp 69) 70 3 ⟨b11, 5, none⟩ (.i ((gi x0 x5).X)) (p4.c 0 5) ?_
       refine bind_some' h fun y32 e33 h => ?_
       refine Goes.cal (kc 43 [70] #[3]) 71 9 43 _ (W.zr ((gi x0 x5).X) y32 e33  p4 ) ?_
       rintro _ w8 ⟨S8, rfl, z8, p8⟩
       have p8 := p8.dp 0
       refine guard_some' h fun g34 h => ?_
       refine let_some h fun v35 e36 h => ?_
       refine Op_.cat_n 9 (.const (.string ⟨#[106, 117, 109, 112, 32]⟩)) (.tmp 71) 9 72 9 (⟨#[106, 117, 109, 112, 32]⟩ : ByteArray) y32 v35 e36 Goes.v (by kernel_rfl) (by kernel_rfl) g34 ?_
       refine guard_some' h fun g37 h => ?_
       refine Op_.cat_n 9 (.tmp 72) (.const (.string ⟨#[10]⟩)) 9 73 9 v35 (⟨#[10]⟩ : ByteArray) (v35 ++ (⟨#[10]⟩ : ByteArray)) rfl Goes.v (by kernel_rfl) (by kernel_rfl) g37 ?_
       refine guard_some' h fun g38 h => ?_
       refine Op_.cat_n 9 (.tmp 68) (.tmp 73) 9 74 9 x4 (v35 ++ (⟨#[10]⟩ : ByteArray)) (x4 ++ (v35 ++ (⟨#[10]⟩ : ByteArray))) rfl Goes.v (by kernel_rfl) (by kernel_rfl) g38 ?_
       refine Goes.rn 2 [(4, .string (x4 ++ (v35 ++ (⟨#[10]⟩ : ByteArray))))] J68 ?_
       exact Goes.jp 76 [(0, .slice Ax0 x0.length cx0), (4, .string (x4 ++ (v35 ++ (⟨#[10]⟩ : ByteArray)))), (5, .i x5)] (u41 _ _ h _ _ (((hx.trans z3).trans z4).trans z8) Ax0 x0.length cx0 p8 (fx0.ext ((z3.trans z4).trans z8)) rfl)
      ·
       rw [decide_eq_false h31]
       refine Goes.rn 2 [] J68 ?_
       have p4 := p4.dp 0
       exact Goes.jp 76 [(0, .slice Ax0 x0.length cx0), (4, .string x4), (5, .i x5)] (u41 _ _ h _ _ ((hx.trans z3).trans z4) Ax0 x0.length cx0 p4 (fx0.ext (z3.trans z4)) rfl)
  ·
   rw [decide_eq_false h4]
   refine Goes.rn 8 [(75, .string x4), (2, .string x4), (3, .i 0)] J6s ?_
   obtain rfl := Option.some.inj h
   exact Goes.rt Tryd.f22 (.tuple #[.string x4, .i 0]) ⟨S1, rfl, hx, p1⟩
 ·
  intro u43 u44 ⟨x0, x4, x5⟩ r h S1 w1 hx Ax0 nx0 cx0 p1 fx0 lx0 junk
  try dsimp only at h
  subst lx0
  refine Goes.rn 8 [(16, .i x5), (17, .i (wr .i64 (x5 + 1))), (5, .i (wr .i64 (x5 + 1)))] J65 ?_
  exact Goes.jp 76 [(0, .slice Ax0 x0.length cx0), (4, .string x4), (5, .i (wr .i64 (x5 + 1)))] (u44 _ _ h _ _ hx Ax0 x0.length cx0 p1 fx0 rfl)
 ·
  intro u3z u45 u41 u46 ⟨x0, x4, x5, x6v, x7, x8⟩ r h S1 w1 hx Ax0 nx0 cx0 gx6 p1 fx0 lx0 u47 junk
  try dsimp only at h
  subst lx0
  refine Goes.rn 6 [(26, .i x8), (27, .bool (decide (x8 < 256)))] J6u ?_
  refine ite_some h (fun h39 h => ?_) (fun h39 h => ?_)
  ·
   rw [decide_eq_true h39]
   refine Goes.rn 7 [(30, (pt gx6 1))] J6w ?_
   refine Goes.ldN 25 (.tmp 30) 31 25 ⟨gx6, 1, none⟩ (U4 x6v.Set []) (p1.pa 0 1) ?_
   refine Goes.rn 2 [(32, .i x8), (33, .int .u8 (wr .u8 x8))] J6x ?_
   refine bind_some' h fun y40 e41 h => ?_
   refine Goes.cal (kc 42 [31, 33] #[25, 5]) 34 4 42 _ (W.zq x6v.Set (wr .u8 x8) y40 e41 ((U4 x6v.Set []) : List Value) p1 (els_mk4 (S := S1) (w := w1) (k := .u64) u47) rfl) ?_
   rintro _ w9 ⟨S9, rfl, z9, p9⟩
   refine Goes.rn 1 [] J6v ?_
   refine ite_some h (fun h42 h => ?_) (fun h42 h => ?_)
   ·
    rw [h42]
    refine Goes.rn 6 [(35, .i x7), (36, .i (wr .i64 (x7 + 1))), (7, .i (wr .i64 (x7 + 1)))] J6e ?_
    exact Goes.jp 76 [(0, .slice Ax0 x0.length cx0), (4, .string x4), (5, .i x5), (6, (pt gx6 0)), (7, .i (wr .i64 (x7 + 1))), (8, .i x8)] (u46 _ _ h _ _ (hx.trans z9) Ax0 x0.length cx0 gx6 p9 (fx0.ext z9) rfl u47)
   ·
    have u48 : y40 = false := by simpa using h42
    rw [u48]
    refine Goes.rn 2 [] J6e ?_
    exact Goes.jp 76 [(0, .slice Ax0 x0.length cx0), (4, .string x4), (5, .i x5), (6, (pt gx6 0)), (7, .i x7), (8, .i x8)] (u46 _ _ h _ _ (hx.trans z9) Ax0 x0.length cx0 gx6 p9 (fx0.ext z9) rfl u47)
  ·
   rw [decide_eq_false h39]
   refine Goes.rn 2 [] J69 ?_
   have z10 : Ext S1 w1 S1 (w1).drew := Ext.draw
   have p10 := p1.draw
   refine Goes.drawn (s := []) (F := Fc S1 (w1).drew [(⟨gx6, 5, none⟩, .i x6v.X)]) 16 12 (by kernel_rfl) (by kernel_rfl) (by kernel_rfl) (by kernel_rfl) ?_
   generalize (w1).drew = w10 at z10 p10 ⊢
   refine AnyG.pu 0 (.move (.tmp 4)) 37 9 (.string x4) (Fc.here (p10.cs [(0, 5, 1)])) ?_
   refine AnyG.pu 1 (.move (.tmp 7)) 38 3 (.i x7) (Fc.here (p10.cs [(0, 5, 1)])) ?_
   refine AnyG.pu 5 (.fieldAddr 49 (.tmp 6) 2) 42 0 ((pt gx6 5)) (Fc.here (p10.cs [(0, 5, 1)])) ?_
   refine AnyG.ld1 (i := 6) 3 (.tmp 42) 43 3 ⟨gx6, 5, none⟩ (.i x6v.X) (by kernel_rfl) (by kernel_rfl) (Fc.here (p10.cs [(0, 5, 1)])) (by kernel_rfl) (by kernel_rfl) (fun _ h => h.2.at_ 0 rfl) ?_
   refine bind_some' h fun y44 e45 h => ?_
   refine Op_.call (kc 43 [38] #[3]) 39 9 43 #[.i x7] (AnyG.cs (i := 2) (by kernel_rfl) (by kernel_rfl)) (by kernel_rfl) (W.zr x7 y44 e45  p10 ) ?_
   rintro _ w11 ⟨S11, rfl, z11, p11⟩
   refine AnyG.next z11 ⟨(p11.c 0 5), trivial⟩ ?_
   refine guard_some' h fun g46 h => ?_
   refine let_some h fun v47 e48 h => ?_
   refine AnyG.cat_n (i := 3) 9 (.const (.string ⟨#[98, 121, 116, 101, 32]⟩)) (.tmp 39) 9 40 9 (⟨#[98, 121, 116, 101, 32]⟩ : ByteArray) y44 v47 e48 (by kernel_rfl) (by kernel_rfl) (Fc.here (p11.cs [(0, 5, 1)])) (by kernel_rfl) (by kernel_rfl) g46 ?_
   refine guard_some' h fun g49 h => ?_
   refine AnyG.cat_n (i := 4) 9 (.tmp 40) (.const (.string ⟨#[32]⟩)) 9 41 9 v47 (⟨#[32]⟩ : ByteArray) (v47 ++ (⟨#[32]⟩ : ByteArray)) rfl (by kernel_rfl) (by kernel_rfl) (Fc.here (p11.cs [(0, 5, 1)])) (by kernel_rfl) (by kernel_rfl) g49 ?_
   refine bind_some' h fun y50 e51 h => ?_
   refine Op_.call (kc 43 [43] #[3]) 44 9 43 #[.i x6v.X] (AnyG.cs (i := 7) (by kernel_rfl) (by kernel_rfl)) (by kernel_rfl) (W.zr x6v.X y50 e51  p11 ) ?_
   rintro _ w12 ⟨S12, rfl, z12, p12⟩
   refine AnyG.next z12 ⟨(p12.c 0 5), trivial⟩ ?_
   refine guard_some' h fun g52 h => ?_
   refine AnyG.cat_n (i := 8) 9 (.tmp 41) (.tmp 44) 9 45 9 (v47 ++ (⟨#[32]⟩ : ByteArray)) y50 ((v47 ++ (⟨#[32]⟩ : ByteArray)) ++ y50) rfl (by kernel_rfl) (by kernel_rfl) (Fc.here (p12.cs [(0, 5, 1)])) (by kernel_rfl) (by kernel_rfl) g52 ?_
   refine guard_some' h fun g53 h => ?_
   refine let_some h fun v54 e55 h => ?_
   refine AnyG.cat_n (i := 9) 9 (.tmp 45) (.const (.string ⟨#[10]⟩)) 9 46 9 ((v47 ++ (⟨#[32]⟩ : ByteArray)) ++ y50) (⟨#[10]⟩ : ByteArray) v54 e55 (by kernel_rfl) (by kernel_rfl) (Fc.here (p12.cs [(0, 5, 1)])) (by kernel_rfl) (by kernel_rfl) g53 ?_
   refine guard_some' h fun g56 h => ?_
   refine AnyG.cat_n (i := 10) 9 (.tmp 37) (.tmp 46) 9 47 9 x4 v54 (x4 ++ v54) rfl (by kernel_rfl) (by kernel_rfl) (Fc.here (p12.cs [(0, 5, 1)])) (by kernel_rfl) (by kernel_rfl) g56 ?_
   refine AnyG.pu 11 (.assign (.tmp 47)) 4 9 (.string (x4 ++ v54)) (Fc.here (p12.cs [(0, 5, 1)])) ?_
   refine AnyG.done (by kernel_rfl) ?_ _
   have p12 := p12.dp 0
   exact Goes.jp 76 [(0, .slice Ax0 x0.length cx0), (4, .string (x4 ++ v54)), (5, .i x5)] (u41 _ _ h _ _ (((hx.trans z10).trans z11).trans z12) Ax0 x0.length cx0 p12 (fx0.ext ((z10.trans z11).trans z12)) rfl)
 ·
  intro u40 u42 ⟨x0, x4, x5, x6v, x7, x8⟩ r h S1 w1 hx Ax0 nx0 cx0 gx6 p1 fx0 lx0 u47 junk
  try dsimp only at h
  subst lx0
  refine Goes.rn 7 [(28, .i x8), (29, .i (wr .i64 (x8 + 1))), (8, .i (wr .i64 (x8 + 1)))] J6c ?_
  exact Goes.jp 76 [(0, .slice Ax0 x0.length cx0), (4, .string x4), (5, .i x5), (6, (pt gx6 0)), (7, .i x7), (8, .i (wr .i64 (x8 + 1)))] (u42 _ _ h _ _ hx Ax0 x0.length cx0 gx6 p1 fx0 rfl u47)

theorem W.zw {nz wz S0 w0 Lr} [Gw nz wz] : ∀ a r, M.tidepoleref11_Text_l0 a = some r → (L.zw nz wz S0 w0 Lr) a r := (W.z10).1

theorem W.zz {nz wz S0 w0 Lr} [Gw nz wz] : ∀ a r, M.tidepoleref11_Text_l2 a = some r → (L.zz nz wz S0 w0 Lr) a r := (W.z10).2.1

theorem W.zx {nz wz S0 w0 Lr} [Gw nz wz] : ∀ a r, M.tidepoleref11_Text_l1 a = some r → (L.zx nz wz S0 w0 Lr) a r := (W.z10).2.2.1

theorem W.zy {nz wz S0 w0 Lr} [Gw nz wz] : ∀ a r, M.tidepoleref11_Text_l3 a = some r → (L.zy nz wz S0 w0 Lr) a r := (W.z10).2.2.2

def Q4p := sub [1, 1] B22
def J6y : List Item := [.code Q4p]
def Q4q := sub [1, 0, 1] B22
def J6z : List Item := .code Q4q :: J6y
def Q4r := sub [1, 0, 0] B22
def J70 : List Item := .inRegion (opsOf Q4r) [1, 2] :: J6z
def Q4s := sub [1, 0, 1, 0, 1] B22
def J71 : List Item := .code Q4s :: J6y

theorem W.zv (x0 : List T48) (r : ByteArray × Int) (h : M.tidepoleref11_Text x0 = some r) {nz wz S0 w0 Lr} [Gw nz wz] (Ax0 nx0 cx0) (p0 : Hp nz wz S0 w0 (Lr)) (fx0 : Rd kT48 S0 w0 Ax0 cx0 x0) (lx0 : x0.length = nx0) :
  Calls Tryd.prog 22 #[.slice Ax0 nx0 cx0] w0 (Rets (Post.zv nz wz S0 w0 Lr r)) := by
 subst lx0
 refine calls_of_goes (fn := Tryd.f22) (c := B22) (by kernel_rfl) (by kernel_rfl) 75 (by kernel_rfl) ?_
 refine Goes.jp 76 [(0, .slice Ax0 x0.length cx0)] (fun junk => ?_)
 delta M.tidepoleref11_Text at h
 refine Goes.rn 9 [(2, .string (⟨#[]⟩ : ByteArray)), (3, .i 0), (9, .slice Ax0 x0.length cx0)] J70 ?_
 refine bind_some' h fun y1 e2 h => ?_
 refine Goes.cal (kc 24 [9] #[37]) 10 29 24 _ (W.zl x0 y1 e2 Ax0 x0.length cx0 p0 fx0 rfl) ?_
 rintro _ w2 ⟨S2, rfl, z2, p2⟩
 refine Goes.rn 2 [(11, .bool (!(decide (y1 = 0))))] J6z ?_
 refine ite_some h (fun h3 h => ?_) (fun h3 h => ?_)
 ·
  rw [decide_eq_true h3]
  refine Goes.rn 13 [(4, .string (⟨#[]⟩ : ByteArray)), (5, .i 0)] J65 ?_
  exact Goes.jp 76 [(0, .slice Ax0 x0.length cx0), (4, .string (⟨#[]⟩ : ByteArray)), (5, .i 0)] (W.zw _ _ h _ _ ((Ext.refl S0 w0).trans z2) Ax0 x0.length cx0 p2 (fx0.ext z2) rfl)
 ·
  rw [decide_eq_false h3]
  refine Goes.rn 6 [(2, .string (⟨#[]⟩ : ByteArray)), (3, .i 110)] J71 ?_
  obtain rfl := Option.some.inj h
  exact Goes.rt Tryd.f22 (.tuple #[.string (⟨#[]⟩ : ByteArray), .i 110]) ⟨S2, rfl, ((Ext.refl S0 w0).trans z2), p2⟩

def Q4t := sub [1, 1] B65
def J72 : List Item := [.code Q4t]
def Q4u := sub [1, 0, 1] B65
def J73 : List Item := .code Q4u :: J72
def Q4v := sub [1, 0, 1, 0, 1] B65
def J74 : List Item := .code Q4v :: J72
def Q4w := sub [1, 1, 1] B65
def J75 : List Item := [.code Q4w]
def Q4x := sub [1, 1, 0] B65
def J76 : List Item := .code Q4x :: J75

def Post.z11 (gx0 : Nat) (r : Int × T68) (v : Value) (w' : World) : Prop :=
 ∃ S' u49, v = .int .u8 r.1 ∧ Ext S0 w0 S' w' ∧ Hp nz wz S' w' ((some gx0, .row 69 [.string r.2.s, .i r.2.at_, .i r.2.deep, u49] 4 0) :: Lr) ∧ PtO kT72 S' w' u49 r.2.bad

def L.z12 (gx0 : Nat) : Bool × T68 → (Int × T68) → Prop := fun ⟨x19, e0v⟩ r => ∀ S1 w1, Ext S0 w0 S1 w1 → ∀ u49 (_ : Hp nz wz S1 w1 ((some gx0, .row 69 [.string e0v.s, .i e0v.at_, .i e0v.deep, u49] 4 0) :: Lr)) (_ : PtO kT72 S1 w1 u49 e0v.bad) (junk : Nat → Value),
 Goes Tryd.prog (base 65) J73 ⟨lfr 29 [(0, (pt gx0 0)), (19, .bool x19)] junk, []⟩ w1 (Done Tryd.prog 65 (Rets (Post.z11 nz wz S0 w0 Lr gx0 r)))

theorem W.z12 {nz wz S0 w0 Lr} [Gw nz wz] (gx0 : Nat) : ∀ a r, M.syntax_parser_peek_l0 a = some r → L.z12 nz wz S0 w0 Lr gx0 a r := by
 intro ⟨x19, e0v⟩ r h S1 w1 hx u49 p1 u4a junk
 rw [M.syntax_parser_peek_l0] at h
 try dsimp only at h
 refine ite_some h (fun h9 h => ?_) (fun h9 h => ?_)
 ·
  rw [h9]
  refine Goes.rn 5 [(2, .int .u8 0)] J74 ?_
  obtain rfl := Option.some.inj h
  exact Goes.rt Tryd.f65 (.int .u8 0) ⟨S1, u49, rfl, hx, p1, u4a⟩
 ·
  have h9' : x19 = false := by simpa using h9
  rw [h9']
  refine Goes.rn 3 [] J76 ?_
  have z3 : Ext S1 w1 S1 (w1).drew := Ext.draw
  have p3 := p1.draw
  refine Goes.drawn (s := []) (F := Fc S1 (w1).drew [(⟨gx0, 0, none⟩, .string e0v.s), (⟨gx0, 1, none⟩, .i e0v.at_)]) 3 10 (by kernel_rfl) (by kernel_rfl) (by kernel_rfl) (by kernel_rfl) ?_
  generalize (w1).drew = w3 at z3 p3 ⊢
  refine AnyG.pu 0 (.move (.tmp 0)) 20 66 ((pt gx0 0)) (Fc.here (p3.cs [(0, 0, 2)])) ?_
  refine AnyG.pu 1 (.nilCheck (.tmp 20)) 21 0 ((pt gx0 0)) (Fc.here (p3.cs [(0, 0, 2)])) ?_
  refine AnyG.pu 2 (.fieldAddr 69 (.tmp 21) 0) 22 0 ((pt gx0 0)) (Fc.here (p3.cs [(0, 0, 2)])) ?_
  refine AnyG.ld1 (i := 3) 9 (.tmp 22) 23 9 ⟨gx0, 0, none⟩ (.string e0v.s) (by kernel_rfl) (by kernel_rfl) (Fc.here (p3.cs [(0, 0, 2)])) (by kernel_rfl) (by kernel_rfl) (fun _ h => h.2.at_ 0 rfl) ?_
  refine AnyG.pu 4 (.move (.tmp 0)) 24 66 ((pt gx0 0)) (Fc.here (p3.cs [(0, 0, 2)])) ?_
  refine AnyG.pu 5 (.nilCheck (.tmp 24)) 25 0 ((pt gx0 0)) (Fc.here (p3.cs [(0, 0, 2)])) ?_
  refine AnyG.pu 6 (.fieldAddr 69 (.tmp 25) 1) 26 0 ((pt gx0 1)) (Fc.here (p3.cs [(0, 0, 2)])) ?_
  refine AnyG.ld1 (i := 7) 3 (.tmp 26) 27 3 ⟨gx0, 1, none⟩ (.i e0v.at_) (by kernel_rfl) (by kernel_rfl) (Fc.here (p3.cs [(0, 0, 2)])) (by kernel_rfl) (by kernel_rfl) (fun _ h => h.2.at_ 1 rfl) ?_
  refine guard_some' h fun g10 h => ?_
  refine guard_some' h fun g11 h => ?_
  refine AnyG.ixS (i := 8) 9 (.tmp 23) (.tmp 27) 28 5 .i64 e0v.s e0v.at_ (by kernel_rfl) (by kernel_rfl) (Fc.here (p3.cs [(0, 0, 2)])) (by kernel_rfl) (by kernel_rfl) (by kernel_rfl) g10 g11 ?_
  refine AnyG.pu 9 (.assign (.tmp 28)) 2 5 (.int .u8 (bt e0v.s e0v.at_)) (Fc.here (p3.cs [(0, 0, 2)])) ?_
  refine AnyG.done (by kernel_rfl) ?_ _
  obtain rfl := Option.some.inj h
  exact Goes.rt Tryd.f65 (.int .u8 (bt e0v.s e0v.at_)) ⟨S1, u49, rfl, (hx.trans z3), p3, (u4a.ext z3)⟩

def Q4y := sub [1, 0, 0] B65
def J77 : List Item := .code Q4y :: J73

theorem W.z11 (x0v : T68) (r : Int × T68) (h : M.syntax_parser_peek x0v = some r) {nz wz S0 w0 Lr} [Gw nz wz] (gx0 u4b) (p0 : Hp nz wz S0 w0 ((some gx0, .row 69 [.string x0v.s, .i x0v.at_, .i x0v.deep, u4b] 4 0) :: Lr)) (u4c : PtO kT72 S0 w0 u4b x0v.bad) :
  Calls Tryd.prog 65 #[(pt gx0 0)] w0 (Rets (Post.z11 nz wz S0 w0 Lr gx0 r)) := by
 refine calls_of_goes (fn := Tryd.f65) (c := B65) (by kernel_rfl) (by kernel_rfl) 28 (by kernel_rfl) ?_
 refine Goes.jp 29 [(0, (pt gx0 0))] (fun junk => ?_)
 delta M.syntax_parser_peek at h
 refine Goes.rn 6 [(2, .int .u8 0)] J77 ?_
 have z2 : Ext S0 w0 S0 (w0).drew := Ext.draw
 have p2 := p0.draw
 refine Goes.drawn (s := []) (F := Fc S0 (w0).drew [(⟨gx0, 3, none⟩, u4b), (⟨gx0, 1, none⟩, .i x0v.at_), (⟨gx0, 0, none⟩, .string x0v.s)]) 1 17 (by kernel_rfl) (by kernel_rfl) (by kernel_rfl) (by kernel_rfl) ?_
 generalize (w0).drew = w2 at z2 p2 ⊢
 refine AnyG.pu 0 (.move (.tmp 0)) 3 66 ((pt gx0 0)) (Fc.here (p2.cs [(0, 3, 1), (0, 1, 1), (0, 0, 1)])) ?_
 refine AnyG.pu 1 (.nilCheck (.tmp 3)) 4 0 ((pt gx0 0)) (Fc.here (p2.cs [(0, 3, 1), (0, 1, 1), (0, 0, 1)])) ?_
 refine AnyG.pu 2 (.fieldAddr 69 (.tmp 4) 3) 5 0 ((pt gx0 3)) (Fc.here (p2.cs [(0, 3, 1), (0, 1, 1), (0, 0, 1)])) ?_
 refine AnyG.ld1 (i := 3) 67 (.tmp 5) 6 67 ⟨gx0, 3, none⟩ (u4b) (by kernel_rfl) (by kernel_rfl) (Fc.here (p2.cs [(0, 3, 1), (0, 1, 1), (0, 0, 1)])) (by kernel_rfl) (by kernel_rfl) (fun _ h => h.2.at_ 0 rfl) ?_
 refine let_some h fun v8 h2 h => ?_
 rcases v8 with _ | y3
 ·
  try dsimp only at h
  obtain rfl := PtO.nil (u4c.ext z2) h2
  refine AnyG.pu 4 (.binOp .neq 67 (.tmp 6) (.const (.pointer none)) 67) 7 4 (.bool false) (Fc.here (p2.cs [(0, 3, 1), (0, 1, 1), (0, 0, 1)])) ?_
  refine AnyG.pu 5 (.move (.tmp 7)) 8 4 (.bool false) (Fc.here (p2.cs [(0, 3, 1), (0, 1, 1), (0, 0, 1)])) ?_
  refine AnyG.pu 6 (.move (.tmp 0)) 9 66 ((pt gx0 0)) (Fc.here (p2.cs [(0, 3, 1), (0, 1, 1), (0, 0, 1)])) ?_
  refine AnyG.pu 7 (.nilCheck (.tmp 9)) 10 0 ((pt gx0 0)) (Fc.here (p2.cs [(0, 3, 1), (0, 1, 1), (0, 0, 1)])) ?_
  refine AnyG.pu 8 (.fieldAddr 69 (.tmp 10) 1) 11 0 ((pt gx0 1)) (Fc.here (p2.cs [(0, 3, 1), (0, 1, 1), (0, 0, 1)])) ?_
  refine AnyG.ld1 (i := 9) 3 (.tmp 11) 12 3 ⟨gx0, 1, none⟩ (.i x0v.at_) (by kernel_rfl) (by kernel_rfl) (Fc.here (p2.cs [(0, 3, 1), (0, 1, 1), (0, 0, 1)])) (by kernel_rfl) (by kernel_rfl) (fun _ h => h.2.at_ 1 rfl) ?_
  refine AnyG.pu 10 (.move (.tmp 0)) 13 66 ((pt gx0 0)) (Fc.here (p2.cs [(0, 3, 1), (0, 1, 1), (0, 0, 1)])) ?_
  refine AnyG.pu 11 (.nilCheck (.tmp 13)) 14 0 ((pt gx0 0)) (Fc.here (p2.cs [(0, 3, 1), (0, 1, 1), (0, 0, 1)])) ?_
  refine AnyG.pu 12 (.fieldAddr 69 (.tmp 14) 0) 15 0 ((pt gx0 0)) (Fc.here (p2.cs [(0, 3, 1), (0, 1, 1), (0, 0, 1)])) ?_
  refine AnyG.ld1 (i := 13) 9 (.tmp 15) 16 9 ⟨gx0, 0, none⟩ (.string x0v.s) (by kernel_rfl) (by kernel_rfl) (Fc.here (p2.cs [(0, 3, 1), (0, 1, 1), (0, 0, 1)])) (by kernel_rfl) (by kernel_rfl) (fun _ h => h.2.at_ 2 rfl) ?_
  refine AnyG.pu 14 (.call { callee := .builtin .len, args := #[(.tmp 16)], argTypes := #[9] }) 17 3 (.i (x0v.s.size : Int)) (Fc.here (p2.cs [(0, 3, 1), (0, 1, 1), (0, 0, 1)])) ?_
  refine AnyG.pu 15 (.binOp .geq 3 (.tmp 12) (.tmp 17) 3) 18 4 (.bool (decide (x0v.at_ ≥ (x0v.s.size : Int)))) (Fc.here (p2.cs [(0, 3, 1), (0, 1, 1), (0, 0, 1)])) ?_
  refine AnyG.pu 16 (.pick (.tmp 8) (.const (.bool true)) (.tmp 18)) 19 4 (.bool (decide (x0v.at_ ≥ (x0v.s.size : Int)))) (Fc.here (p2.cs [(0, 3, 1), (0, 1, 1), (0, 0, 1)])) ?_
  refine AnyG.done (by kernel_rfl) ?_ _
  exact Goes.jp 29 [(0, (pt gx0 0)), (19, .bool (decide (x0v.at_ ≥ (x0v.s.size : Int))))] (W.z12 gx0 _ _ h _ _ ((Ext.refl S0 w0).trans z2) (.pointer none) p2 rfl)
 ·
  try dsimp only at h
  obtain ⟨a5, _, rfl, -, f6, q7⟩ := PtO.got (u4c.ext z2) h2
  obtain rfl := q7
  refine AnyG.pu 4 (.binOp .neq 67 (.tmp 6) (.const (.pointer none)) 67) 7 4 (.bool true) (Fc.here (p2.cs [(0, 3, 1), (0, 1, 1), (0, 0, 1)])) ?_
  refine AnyG.pu 5 (.move (.tmp 7)) 8 4 (.bool true) (Fc.here (p2.cs [(0, 3, 1), (0, 1, 1), (0, 0, 1)])) ?_
  refine AnyG.s1 6 9 (Fc.here (p2.cs [(0, 3, 1), (0, 1, 1), (0, 0, 1)])) ?_
  refine AnyG.s1 7 10 (Fc.here (p2.cs [(0, 3, 1), (0, 1, 1), (0, 0, 1)])) ?_
  refine AnyG.s1 8 11 (Fc.here (p2.cs [(0, 3, 1), (0, 1, 1), (0, 0, 1)])) ?_
  refine AnyG.s1 9 12 (Fc.here (p2.cs [(0, 3, 1), (0, 1, 1), (0, 0, 1)])) ?_
  refine AnyG.s1 10 13 (Fc.here (p2.cs [(0, 3, 1), (0, 1, 1), (0, 0, 1)])) ?_
  refine AnyG.s1 11 14 (Fc.here (p2.cs [(0, 3, 1), (0, 1, 1), (0, 0, 1)])) ?_
  refine AnyG.s1 12 15 (Fc.here (p2.cs [(0, 3, 1), (0, 1, 1), (0, 0, 1)])) ?_
  refine AnyG.s1 13 16 (Fc.here (p2.cs [(0, 3, 1), (0, 1, 1), (0, 0, 1)])) ?_
  refine AnyG.s1 14 17 (Fc.here (p2.cs [(0, 3, 1), (0, 1, 1), (0, 0, 1)])) ?_
  refine AnyG.s1 15 18 (Fc.here (p2.cs [(0, 3, 1), (0, 1, 1), (0, 0, 1)])) ?_
  refine AnyG.pu 16 (.pick (.tmp 8) (.const (.bool true)) (.tmp 18)) 19 4 (.bool true) (Fc.here (p2.cs [(0, 3, 1), (0, 1, 1), (0, 0, 1)])) ?_
  refine AnyG.done (by kernel_rfl) ?_ _
  exact Goes.jp 29 [(0, (pt gx0 0)), (19, .bool true)] (W.z12 gx0 _ _ h _ _ ((Ext.refl S0 w0).trans z2) (.pointer (some a5)) p2 ⟨_, _, rfl, List.cons_ne_nil _ _, f6, rfl⟩)

def Q4z := sub [1] B31
def J78 : List Item := [.code Q4z]
def Q50 := sub [0] B31
def J79 : List Item := .inRegion (opsOf Q50) [0] :: J78
def Q51 := sub [1, 1] B31
def J7a : List Item := [.code Q51]
def Q52 := sub [1, 0, 1] B31
def J7b : List Item := .code Q52 :: J7a
def Q53 := sub [1, 0, 0] B31
def J7c : List Item := .inRegion (opsOf Q53) [3, 4] :: J7b
def Q54 := sub [1, 0, 1, 0] B31
def J7d : List Item := .inRegion (opsOf Q54) [3, 4, 5, 6] :: J7a
def J7e : List Item := .inRegion (opsOf Q54) [6] :: J7a
def Q55 := sub [1, 1, 1] B31
def J7f : List Item := [.code Q55]
def Q56 := sub [1, 1, 0] B31
def J7g : List Item := .inRegion (opsOf Q56) [1] :: J7f

def Post.z13 (gx0 : Nat) (r : T27 × T68) (v : Value) (w' : World) : Prop :=
 ∃ S' u4d u4e u4f u49, v = (ag (.i r.1.Kind :: U4 r.1.Set [.slice u4d u4e u4f, .i r.1.Min, .i r.1.Max])) ∧ Ext S0 w0 S' w' ∧ Hp nz wz S' w' ((some gx0, .row 69 [.string r.2.s, .i r.2.at_, .i r.2.deep, u49] 4 0) :: Lr) ∧ r.1.Set.length = 4 ∧ Rd kT27 S' w' u4d u4f r.1.L ∧ r.1.L.length = u4e ∧ PtO kT72 S' w' u49 r.2.bad

theorem W.z13 (x0v : T68) (x1 : Int) (r : T27 × T68) (h : M.syntax_parser_fail x0v x1 = some r) {nz wz S0 w0 Lr} [Gw nz wz] (gx0 u4b) (p0 : Hp nz wz S0 w0 ((some gx0, .row 69 [.string x0v.s, .i x0v.at_, .i x0v.deep, u4b] 4 0) :: Lr)) (u4c : PtO kT72 S0 w0 u4b x0v.bad) :
  Calls Tryd.prog 31 #[(pt gx0 0), .i x1] w0 (Rets (Post.z13 nz wz S0 w0 Lr gx0 r)) := by
 refine calls_of_goes (fn := Tryd.f31) (c := B31) (by kernel_rfl) (by kernel_rfl) 15 (by kernel_rfl) ?_
 refine Goes.jp 17 [(0, (pt gx0 0)), (1, .i x1)] (fun junk => ?_)
 delta M.syntax_parser_fail at h
 refine Goes.rn 2 [] J79 ?_
 refine Op_.alloc 28 4 0 (.agg #[.i 0, .u 0, .u 0, .u 0, .u 0, .slice none 0 0, .i 0, .i 0]) [.i 0, .u 0, .u 0, .u 0, .u 0, .slice none 0 0, .i 0, .i 0] p0 Goes.v (by kernel_rfl) (by kernel_rfl) ?_
 intro b2 w2 z2 p2
 refine Goes.rn 7 [(5, (pt gx0 0)), (6, (pt gx0 0)), (7, (pt gx0 3))] J7c ?_
 refine Goes.ld 67 (.tmp 7) 8 67 ⟨gx0, 3, none⟩ (u4b) (p2.c 1 3) ?_
 refine let_some h fun v13 h4 h => ?_
 rcases v13 with _ | y5
 ·
  try dsimp only at h
  obtain rfl := PtO.nil (u4c.ext z2) h4
  refine Goes.rn 7 [(9, .bool true), (10, (pt gx0 0)), (11, .i x1), (12, .agg #[.i x1])] J7d ?_
  refine Op_.box 73 (.tmp 12) 13 67 (.agg #[.i x1]) [.i x1] p2 Goes.v (by kernel_rfl) (by kernel_rfl) ?_
  intro b10 w3 z3 p3
  refine Goes.rn 2 [(14, (pt gx0 0)), (15, (pt gx0 3))] J7e ?_
  refine Op_.st 67 (.tmp 15) (.tmp 13) 0 2 gx0 3 ((pt b10 0)) [(pt b10 0)] p3 rfl Goes.s (by kernel_rfl) (by kernel_rfl) (by kernel_rfl) (by kernel_rfl) (Nat.zero_le _) (by simp only [List.length_cons, List.length_nil]; omega) (by simp [Value.oneCell']) ?_
  intro w4 z4 p4
  have p4 : Hp nz wz S0 w4 ((some b10, .row 73 [.i x1] 1 0) :: (some b2, .row 28 [.i 0, .u 0, .u 0, .u 0, .u 0, .slice none 0 0, .i 0, .i 0] 8 0) :: (some gx0, .row 69 [.string x0v.s, .i x0v.at_, .i x0v.deep, (pt b10 0)] 4 0) :: Lr) := p4
  refine Goes.rn 4 [(16, .agg #[.i 0, .u 0, .u 0, .u 0, .u 0, .slice none 0 0, .i 0, .i 0])] J7g ?_
  refine Op_.st 28 (.tmp 4) (.tmp 16) 0 1 b2 0 (.agg #[.i 0, .u 0, .u 0, .u 0, .u 0, .slice none 0 0, .i 0, .i 0]) [.i 0, .u 0, .u 0, .u 0, .u 0, .slice none 0 0, .i 0, .i 0] p4 rfl Goes.s (by kernel_rfl) (by kernel_rfl) (by kernel_rfl) (by kernel_rfl) (Nat.zero_le _) (by simp only [List.length_cons, List.length_nil]; omega) (by simp [Value.oneCell']) ?_
  intro w5 z5 p5
  have p5 : Hp nz wz S0 w5 ((some b10, .row 73 [.i x1] 1 0) :: (some b2, .row 28 [.i 0, .u 0, .u 0, .u 0, .u 0, .slice none 0 0, .i 0, .i 0] 8 0) :: (some gx0, .row 69 [.string x0v.s, .i x0v.at_, .i x0v.deep, (pt b10 0)] 4 0) :: Lr) := p5
  refine Goes.rn 1 [] J7f ?_
  obtain ⟨S6, z6, p6, f12⟩ := p5.freezeBlk 0 rfl
  obtain rfl := Option.some.inj h
  exact Goes.ret (fn := Tryd.f31) (by kernel_rfl) (v := .agg #[.i 0, .u 0, .u 0, .u 0, .u 0, .slice none 0 0, .i 0, .i 0]) (results_n1 (fn := Tryd.f31) (a := .cell 4 28) (by kernel_rfl) (resV_cell ⟨b2, 0, none⟩ (by kernel_rfl) (run_loadN [.i 0, .u 0, .u 0, .u 0, .u 0, .slice none 0 0, .i 0, .i 0] (by kernel_rfl) (by kernel_rfl) (p6.pa 0 0)))) ⟨S6, none, 0, 0, (pt b10 0), rfl, ((((((Ext.refl S0 w0).trans z2).trans z3).trans z4).trans z5).trans z6), p6.drop, rfl, Rd.none_, rfl, ⟨_, _, rfl, List.cons_ne_nil _ _, f12, rfl⟩⟩
 ·
  try dsimp only at h
  obtain ⟨a7, _, rfl, -, f8, q9⟩ := PtO.got (u4c.ext z2) h4
  obtain rfl := q9
  refine Goes.rn 7 [(9, .bool false), (16, .agg #[.i 0, .u 0, .u 0, .u 0, .u 0, .slice none 0 0, .i 0, .i 0])] J7g ?_
  refine Op_.st 28 (.tmp 4) (.tmp 16) 0 0 b2 0 (.agg #[.i 0, .u 0, .u 0, .u 0, .u 0, .slice none 0 0, .i 0, .i 0]) [.i 0, .u 0, .u 0, .u 0, .u 0, .slice none 0 0, .i 0, .i 0] p2 rfl Goes.s (by kernel_rfl) (by kernel_rfl) (by kernel_rfl) (by kernel_rfl) (Nat.zero_le _) (by simp only [List.length_cons, List.length_nil]; omega) (by simp [Value.oneCell']) ?_
  intro w7 z7 p7
  have p7 : Hp nz wz S0 w7 ((some b2, .row 28 [.i 0, .u 0, .u 0, .u 0, .u 0, .slice none 0 0, .i 0, .i 0] 8 0) :: (some gx0, .row 69 [.string x0v.s, .i x0v.at_, .i x0v.deep, .pointer (some a7)] 4 0) :: Lr) := p7
  refine Goes.rn 1 [] J7f ?_
  obtain rfl := Option.some.inj h
  exact Goes.ret (fn := Tryd.f31) (by kernel_rfl) (v := .agg #[.i 0, .u 0, .u 0, .u 0, .u 0, .slice none 0 0, .i 0, .i 0]) (results_n1 (fn := Tryd.f31) (a := .cell 4 28) (by kernel_rfl) (resV_cell ⟨b2, 0, none⟩ (by kernel_rfl) (run_loadN [.i 0, .u 0, .u 0, .u 0, .u 0, .slice none 0 0, .i 0, .i 0] (by kernel_rfl) (by kernel_rfl) (p7.pa 0 0)))) ⟨S0, none, 0, 0, .pointer (some a7), rfl, (((Ext.refl S0 w0).trans z2).trans z7), p7.drop, rfl, Rd.none_, rfl, ⟨_, _, rfl, List.cons_ne_nil _ _, (f8.ext z7), rfl⟩⟩

def Q57 := sub [1, 1] B48
def J7h : List Item := [.code Q57]
def Q58 := sub [1, 0, 1] B48
def J7i : List Item := .code Q58 :: J7h
def Q59 := sub [1, 0, 1, 0, 1] B48
def J7j : List Item := .code Q59 :: J7h
def Q5a := sub [1, 1, 1] B48
def J7k : List Item := [.code Q5a]
def Q5b := sub [1, 1, 0] B48
def J7l : List Item := .inRegion (opsOf Q5b) [3, 4, 5, 6, 7] :: J7k
def J7m : List Item := .inRegion (opsOf Q5b) [7] :: J7k
def Q5c := sub [1, 1, 1, 1] B48
def J7n : List Item := [.code Q5c]

def Post.z14 (gx0 : Nat) (r : Bool × T68) (v : Value) (w' : World) : Prop :=
 ∃ S' u49, v = .bool r.1 ∧ Ext S0 w0 S' w' ∧ Hp nz wz S' w' ((some gx0, .row 69 [.string r.2.s, .i r.2.at_, .i r.2.deep, u49] 4 0) :: Lr) ∧ PtO kT72 S' w' u49 r.2.bad

def L.z15 (gx0 : Nat) : Bool × T68 → (Bool × T68) → Prop := fun ⟨x12, e0v⟩ r => ∀ S1 w1, Ext S0 w0 S1 w1 → ∀ u49 (_ : Hp nz wz S1 w1 ((some gx0, .row 69 [.string e0v.s, .i e0v.at_, .i e0v.deep, u49] 4 0) :: Lr)) (_ : PtO kT72 S1 w1 u49 e0v.bad) (junk : Nat → Value),
 Goes Tryd.prog (base 48) J7i ⟨lfr 20 [(0, (pt gx0 0)), (12, .bool x12)] junk, []⟩ w1 (Done Tryd.prog 48 (Rets (Post.z14 nz wz S0 w0 Lr gx0 r)))

theorem W.z15 {nz wz S0 w0 Lr} [Gw nz wz] (gx0 : Nat) : ∀ a r, M.syntax_parser_take_l0 a = some r → L.z15 nz wz S0 w0 Lr gx0 a r := by
 intro ⟨x12, e0v⟩ r h S1 w1 hx u49 p1 u4a junk
 rw [M.syntax_parser_take_l0] at h
 try dsimp only at h
 refine ite_some h (fun h5 h => ?_) (fun h5 h => ?_)
 ·
  rw [h5]
  refine Goes.rn 5 [(4, .bool false)] J7j ?_
  obtain rfl := Option.some.inj h
  exact Goes.rt Tryd.f48 (.bool false) ⟨S1, u49, rfl, hx, p1, u4a⟩
 ·
  have h5' : x12 = false := by simpa using h5
  rw [h5']
  refine Goes.rn 7 [(13, (pt gx0 0)), (14, (pt gx0 0)), (15, (pt gx0 1))] J7l ?_
  refine Goes.ld 3 (.tmp 15) 16 3 ⟨gx0, 1, none⟩ (.i e0v.at_) (p1.c 0 1) ?_
  refine Goes.rn 3 [(17, .i (wr .i64 (e0v.at_ + 1))), (18, (pt gx0 0)), (19, (pt gx0 1))] J7m ?_
  refine Op_.st 3 (.tmp 19) (.tmp 17) 0 0 gx0 1 (.i (wr .i64 (e0v.at_ + 1))) [.i (wr .i64 (e0v.at_ + 1))] p1 rfl Goes.s (by kernel_rfl) (by kernel_rfl) (by kernel_rfl) (by kernel_rfl) (Nat.zero_le _) (by simp only [List.length_cons, List.length_nil]; omega) (by simp [Value.oneCell']) ?_
  intro w3 z3 p3
  have p3 : Hp nz wz S1 w3 ((some gx0, .row 69 [.string e0v.s, .i (wr .i64 (e0v.at_ + 1)), .i e0v.deep, u49] 4 0) :: Lr) := p3
  refine Goes.rn 5 [(4, .bool true)] J7n ?_
  obtain rfl := Option.some.inj h
  exact Goes.rt Tryd.f48 (.bool true) ⟨S1, u49, rfl, (hx.trans z3), p3, (u4a.ext z3)⟩

def Q5d := sub [1, 0, 0] B48
def J7o : List Item := .inRegion (opsOf Q5d) [3, 4, 5, 6, 7] :: J7i
def J7p : List Item := .inRegion (opsOf Q5d) [4, 5, 6, 7] :: J7i

theorem W.z14 (x0v : T68) (x1 : Int) (r : Bool × T68) (h : M.syntax_parser_take x0v x1 = some r) {nz wz S0 w0 Lr} [Gw nz wz] (gx0 u4b) (p0 : Hp nz wz S0 w0 ((some gx0, .row 69 [.string x0v.s, .i x0v.at_, .i x0v.deep, u4b] 4 0) :: Lr)) (u4c : PtO kT72 S0 w0 u4b x0v.bad) :
  Calls Tryd.prog 48 #[(pt gx0 0), .int .u8 x1] w0 (Rets (Post.z14 nz wz S0 w0 Lr gx0 r)) := by
 refine calls_of_goes (fn := Tryd.f48) (c := B48) (by kernel_rfl) (by kernel_rfl) 18 (by kernel_rfl) ?_
 refine Goes.jp 20 [(0, (pt gx0 0)), (1, .int .u8 x1)] (fun junk => ?_)
 delta M.syntax_parser_take at h
 refine Goes.rn 10 [(4, .bool false), (5, .int .u8 x1), (6, .bool (decide (x1 = 0))), (7, .bool (decide (x1 = 0)))] J7o ?_
 refine ite_some h (fun h2 h => ?_) (fun h2 h => ?_)
 ·
  rw [decide_eq_true h2]
  refine Goes.rn 6 [(8, undef), (9, undef), (10, undef), (11, undef), (12, .bool true)] J7i ?_
  exact Goes.jp 20 [(0, (pt gx0 0)), (12, .bool true)] (W.z15 gx0 _ _ h _ _ (Ext.refl S0 w0) u4b p0 u4c)
 ·
  rw [decide_eq_false h2]
  refine Goes.rn 1 [(8, (pt gx0 0))] J7p ?_
  refine bind_some' h fun y3 e4 h => ?_
  refine Goes.cal (kc 65 [8] #[66]) 9 5 65 _ (W.z11 x0v y3 e4 gx0 u4b p0 u4c) ?_
  rintro _ w2 ⟨S2, u4g, rfl, z2, p2, u4h⟩
  refine Goes.rn 4 [(10, .int .u8 x1), (11, .bool (!(decide (y3.1 = x1)))), (12, .bool (!(decide (y3.1 = x1))))] J7i ?_
  exact Goes.jp 20 [(0, (pt gx0 0)), (12, .bool (!(decide (y3.1 = x1))))] (W.z15 gx0 _ _ h _ _ ((Ext.refl S0 w0).trans z2) u4g p2 u4h)

def Q5e := sub [1] B90
def J7q : List Item := [.code Q5e]
def Q5f := sub [0] B90
def J7r : List Item := .inRegion (opsOf Q5f) [0] :: J7q
def Q5g := sub [1, 1] B90
def J7s : List Item := [.code Q5g]
def Q5h := sub [1, 0] B90
def J7t : List Item := .inRegion (opsOf Q5h) [0] :: J7s
def Q5i := sub [1, 1, 1] B90
def J7u : List Item := [.code Q5i]
def Q5j := sub [1, 1, 0] B90
def J7v : List Item := .inRegion (opsOf Q5j) [4, 5, 6] :: J7u
def Q5k := sub [1, 1, 1, 1] B90
def J7w : List Item := [.code Q5k]
def Q5l := sub [1, 1, 1, 0] B90
def J7x : List Item := .inRegion (opsOf Q5l) [0, 1] :: J7w

def Post.z16 (r : List Int) (v : Value) (w' : World) : Prop :=
 ∃ S' vsq, v = .agg vsq.toArray ∧ Ext S0 w0 S' w' ∧ Hp nz wz S' w' (Lr) ∧ Els (kInt .u64) S' w' vsq r ∧ vsq.length = 4

theorem W.z16 (x0 : Int) (r : List Int) (h : M.syntax_one x0 = some r) {nz wz S0 w0 Lr} [Gw nz wz] (p0 : Hp nz wz S0 w0 (Lr)) :
  Calls Tryd.prog 90 #[.int .u8 x0] w0 (Rets (Post.z16 nz wz S0 w0 Lr r)) := by
 refine calls_of_goes (fn := Tryd.f90) (c := B90) (by kernel_rfl) (by kernel_rfl) 10 (by kernel_rfl) ?_
 refine Goes.jp 11 [(0, .int .u8 x0)] (fun junk => ?_)
 delta M.syntax_one at h
 refine Goes.rn 2 [] J7r ?_
 refine Op_.alloc 25 2 0 (.agg #[.u 0, .u 0, .u 0, .u 0]) [.u 0, .u 0, .u 0, .u 0] p0 Goes.v (by kernel_rfl) (by kernel_rfl) ?_
 intro b1 w2 z2 p2
 refine Goes.rn 3 [] J7t ?_
 refine Op_.alloc 25 3 0 (.agg #[.u 0, .u 0, .u 0, .u 0]) [.u 0, .u 0, .u 0, .u 0] p2 Goes.v (by kernel_rfl) (by kernel_rfl) ?_
 intro b3 w3 z3 p3
 refine Goes.rn 7 [(4, .int .u8 x0), (5, .int .u8 (iquo .u8 x0 64)), (6, .int .u8 x0), (7, .int .u8 (irem .u8 x0 64))] J7v ?_
 refine guard_some' h fun g5 h => ?_
 refine Op_.binshl 23 (.const (.int .u64 1)) (.tmp 7) 5 8 23 .u64 .u8 1 (irem .u8 x0 64) Goes.v (by kernel_rfl) (by kernel_rfl) g5 ?_
 have f6 : Els (kInt .u64) S0 w3 ([.u 0, .u 0, .u 0, .u 0] : List Value) [0, 0, 0, 0] := (Els.cons (K := (kInt .u64)) (vs := [.u 0]) (x := 0) rfl (Els.cons (K := (kInt .u64)) (vs := [.u 0]) (x := 0) rfl (Els.cons (K := (kInt .u64)) (vs := [.u 0]) (x := 0) rfl (Els.cons (K := (kInt .u64)) (vs := [.u 0]) (x := 0) rfl Els.nil))))
 refine guard_some' h fun g7 h => ?_
 refine guard_some' h fun g8 h => ?_
 refine Op_.ixA_n (K := (kInt .u64)) 25 (.tmp 3) (.tmp 5) 9 0 23 4 .u8 (iquo .u8 x0 64) 0 (gi [0, 0, 0, 0] (iquo .u8 x0 64)) rfl p3 rfl f6 (Els.len1 f6 rfl rfl) Goes.v (by kernel_rfl) (by kernel_rfl) (by kernel_rfl) (by kernel_rfl) g7 g8 ?_
 intro _ q10 f9
 obtain rfl := q10
 refine let_some h fun v11 e12 h => ?_
 refine Op_.stE_n (K := (kInt .u64)) 23 (.tmp 9) (.tmp 8) 0 0 (iquo .u8 x0 64) (.u (ishl .u64 1 (irem .u8 x0 64))) [.u (ishl .u64 1 (irem .u8 x0 64))] (ishl .u64 1 (irem .u8 x0 64)) v11 4 (Els.len1 f6 rfl rfl) e12 p3 rfl f6 Goes.s (by kernel_rfl) (by kernel_rfl) (by kernel_rfl) rfl (by kernel_rfl) g7 g8 (Nat.zero_le _) ?_
 intro w4 u4i z4 p4 f14 l15
 have l16 : u4i.length = 4 := by rw [f14.length, l15]; rfl
 refine Goes.rn 3 [] J7x ?_
 refine Op_.ldN 25 (.tmp 3) 10 25 ⟨b3, 0, none⟩ u4i Goes.v (by kernel_rfl) (by kernel_rfl) (by rw [l16]; kernel_rfl) (At_all (p4.mem 0 rfl)) ?_
 have f17 : Els (kInt .u64) S0 w4 ([.u 0, .u 0, .u 0, .u 0] : List Value) [0, 0, 0, 0] := (Els.cons (K := (kInt .u64)) (vs := [.u 0]) (x := 0) rfl (Els.cons (K := (kInt .u64)) (vs := [.u 0]) (x := 0) rfl (Els.cons (K := (kInt .u64)) (vs := [.u 0]) (x := 0) rfl (Els.cons (K := (kInt .u64)) (vs := [.u 0]) (x := 0) rfl Els.nil))))
 refine Op_.stA 25 (.tmp 2) (.tmp 10) 0 1 b1 4 u4i p4 rfl rfl Goes.s (by kernel_rfl) (by kernel_rfl) (by kernel_rfl) l16 (Els.one f14) ?_
 intro w5 z5 p5
 refine Goes.rn 1 [] J7w ?_
 obtain rfl := Option.some.inj h
 have p5 := p5.dp 0
 exact Goes.ret (fn := Tryd.f90) (by kernel_rfl) (v := .agg u4i.toArray) (results_n1 (fn := Tryd.f90) (a := .cell 2 25) (by kernel_rfl) (resV_cell ⟨b1, 0, none⟩ (by kernel_rfl) (run_loadN u4i (by kernel_rfl) (by rw [l16]; kernel_rfl) (At_all (p5.mem 0 rfl))))) ⟨S0, u4i, rfl, (((((Ext.refl S0 w0).trans z2).trans z3).trans z4).trans z5), p5.drop, (f14.ext z5), l16⟩

def Q5m := sub [1, 1] B89
def J7y : List Item := [.code Q5m]
def J7z : List Item := .inBlock 0 :: J7y
def Q5n := sub [1, 0, 1, 0, 0] B89
def J80 : List Item := .inLoop Q5n :: J7z
def J81 : List Item := .code Q5n :: J80
def Q5o := sub [1, 0, 1, 0, 0, 1, 1] B89
def J82 : List Item := .code Q5o :: J80
def Q5p := sub [1, 0, 1, 0, 0, 1, 0] B89
def J83 : List Item := .code Q5p :: J82
def Q5q := sub [1, 0, 1, 0, 0, 1, 1, 1] B89
def J84 : List Item := .code Q5q :: J80
def J85 : List Item := .inBlock 1 :: J84
def Q5r := sub [1, 0, 1, 0, 0, 1, 1, 0, 0, 1] B89
def J86 : List Item := .inRegion (opsOf Q5r) [2, 3, 4, 5, 6] :: J85
def J87 : List Item := .inRegion (opsOf Q5r) [5, 6] :: J85
def Q5s := sub [1, 1, 1] B89
def J88 : List Item := [.code Q5s]
def Q5t := sub [1, 1, 0] B89
def J89 : List Item := .inRegion (opsOf Q5t) [0, 1] :: J88

def Post.z17 (r : List Int) (v : Value) (w' : World) : Prop :=
 ∃ S' vsq, v = .agg vsq.toArray ∧ Ext S0 w0 S' w' ∧ Hp nz wz S' w' (Lr) ∧ Els (kInt .u64) S' w' vsq r ∧ vsq.length = 4

def L.z18 : (List Int) × (List Int) × Int → (List Int) → Prop := fun ⟨x1, u4j, x4⟩ r => ∀ S1 w1, Ext S0 w0 S1 w1 → ∀ gx1 u4k gx2 (_ : Hp nz wz S1 w1 ((some gx1, .row 25 u4k 4 0) :: (some gx2, .row 25 (U4 u4j []) 4 0) :: Lr)) (_ : Els (kInt .u64) S1 w1 u4k x1) (_ : u4k.length = 4) (_ : u4j.length = 4) (junk : Nat → Value),
 Goes Tryd.prog (base 89) J81 ⟨lfr 15 [(1, (pt gx1 0)), (2, (pt gx2 0)), (4, .i x4)] junk, []⟩ w1 (Done Tryd.prog 89 (Rets (Post.z17 nz wz S0 w0 Lr r)))

theorem W.z18 {nz wz S0 w0 Lr} [Gw nz wz] : ∀ a r, M.syntax_not_l0 a = some r → (L.z18 nz wz S0 w0 Lr) a r := by
 refine M.syntax_not_l0.partial_correctness (motive := (L.z18 nz wz S0 w0 Lr)) ?_
 intro u4l u4m ⟨x1, u4j, x4⟩ r h S1 w1 hx gx1 u4k gx2 p1 fx1 lx1 u4n junk
 try dsimp only at h
 refine Goes.rn 5 [(5, .bool (decide (x4 < 4)))] J83 ?_
 refine ite_some h (fun h7 h => ?_) (fun h7 h => ?_)
 ·
  rw [decide_eq_true h7]
  refine Goes.rn 12 [(6, .i x4), (3, .i x4), (7, .i x4), (8, .i x4)] J86 ?_
  refine guard_some' h fun g8 h => ?_
  refine Op_.ixA_n (K := (kInt .u64)) 25 (.tmp 1) (.tmp 8) 9 0 23 4 .i64 x4 0 (gi x1 x4) rfl p1 rfl fx1 (Els.len1 fx1 lx1 rfl) Goes.v (by kernel_rfl) (by kernel_rfl) (by kernel_rfl) (by kernel_rfl) g8 h7 ?_
  intro _ q10 f9
  obtain rfl := q10
  refine Goes.ld 23 (.tmp 9) 10 23 ⟨gx1, (x4 : Int).toNat * (kInt .u64).size, none⟩ (.u (gi x1 x4)) (f9 0 _ rfl) ?_
  refine Goes.rn 1 [(11, .u (ixor .u64 18446744073709551615 (gi x1 x4)))] J87 ?_
  refine Op_.ixA_n (K := (kInt .u64)) 25 (.tmp 1) (.tmp 7) 12 0 23 4 .i64 x4 0 (gi x1 x4) rfl p1 rfl fx1 (Els.len1 fx1 lx1 rfl) Goes.v (by kernel_rfl) (by kernel_rfl) (by kernel_rfl) (by kernel_rfl) g8 h7 ?_
  intro _ q12 f11
  obtain rfl := q12
  refine let_some h fun v13 e14 h => ?_
  refine Op_.stE_n (K := (kInt .u64)) 23 (.tmp 12) (.tmp 11) 0 0 x4 (.u (ixor .u64 18446744073709551615 (gi x1 x4))) [.u (ixor .u64 18446744073709551615 (gi x1 x4))] (ixor .u64 18446744073709551615 (gi x1 x4)) v13 4 (Els.len1 fx1 lx1 rfl) e14 p1 rfl fx1 Goes.s (by kernel_rfl) (by kernel_rfl) (by kernel_rfl) rfl (by kernel_rfl) g8 h7 (Nat.zero_le _) ?_
  intro w4 u4o z4 p4 f16 l17
  have l18 : u4o.length = 4 := by rw [f16.length, l17]; rfl
  refine Goes.rn 7 [(13, .i (wr .i64 (x4 + 1))), (4, .i (wr .i64 (x4 + 1)))] J81 ?_
  exact Goes.jp 15 [(1, (pt gx1 0)), (2, (pt gx2 0)), (4, .i (wr .i64 (x4 + 1)))] (u4m _ _ h _ _ (hx.trans z4) gx1 u4o gx2 p4 f16 l18 u4n)
 ·
  rw [decide_eq_false h7]
  refine Goes.rn 4 [] J89 ?_
  refine Op_.ldN 25 (.tmp 1) 14 25 ⟨gx1, 0, none⟩ u4k Goes.v (by kernel_rfl) (by kernel_rfl) (by rw [lx1]; kernel_rfl) (At_all (p1.mem 0 rfl)) ?_
  have f19 : Els (kInt .u64) S1 w1 ((U4 u4j []) : List Value) u4j := (els_mk4 (k := .u64) u4n)
  refine Op_.stA 25 (.tmp 2) (.tmp 14) 0 1 gx2 4 u4k p1 rfl rfl Goes.s (by kernel_rfl) (by kernel_rfl) (by kernel_rfl) lx1 (Els.one fx1) ?_
  intro w5 z5 p5
  refine Goes.rn 1 [] J88 ?_
  obtain rfl := Option.some.inj h
  have p5 := p5.dp 0
  exact Goes.ret (fn := Tryd.f89) (by kernel_rfl) (v := .agg u4k.toArray) (results_n1 (fn := Tryd.f89) (a := .cell 2 25) (by kernel_rfl) (resV_cell ⟨gx2, 0, none⟩ (by kernel_rfl) (run_loadN u4k (by kernel_rfl) (by rw [lx1]; kernel_rfl) (At_all (p5.mem 0 rfl))))) ⟨S1, u4k, rfl, (hx.trans z5), p5.drop, (fx1.ext z5), lx1⟩

def Q5u := sub [1] B89
def J8a : List Item := [.code Q5u]
def Q5v := sub [0] B89
def J8b : List Item := .inRegion (opsOf Q5v) [0, 1] :: J8a

theorem W.z17 (x0 : List Int) (r : List Int) (h : M.syntax_not x0 = some r) {nz wz S0 w0 Lr} [Gw nz wz] (u3u) (p0 : Hp nz wz S0 w0 (Lr)) (fx0 : Els (kInt .u64) S0 w0 u3u x0) (lx0 : u3u.length = 4) :
  Calls Tryd.prog 89 #[.agg u3u.toArray] w0 (Rets (Post.z17 nz wz S0 w0 Lr r)) := by
 refine calls_of_goes (fn := Tryd.f89) (c := B89) (by kernel_rfl) (by kernel_rfl) 14 (by kernel_rfl) ?_
 refine Goes.jp 15 [(0, .agg u3u.toArray)] (fun junk => ?_)
 delta M.syntax_not at h
 refine Goes.rn 2 [] J8b ?_
 refine Op_.box 25 (.tmp 0) 1 0 (.agg u3u.toArray) u3u p0 Goes.v (by kernel_rfl) rfl ?_
 intro b1 w2 z2 p2
 replace p2 : Hp nz wz S0 w2 ((some b1, .row 25 u3u 4 0) :: Lr) := by rw [show (u3u).length = 4 from lx0] at p2; exact p2
 refine Op_.alloc 25 2 0 (.agg #[.u 0, .u 0, .u 0, .u 0]) [.u 0, .u 0, .u 0, .u 0] p2 Goes.v (by kernel_rfl) (by kernel_rfl) ?_
 intro b3 w3 z3 p3
 refine Goes.rn 8 [(4, .i 0)] J81 ?_
 have p3 := (p3.fr 0).fr 1
 exact Goes.jp 15 [(1, (pt b1 0)), (2, (pt b3 0)), (4, .i 0)] (W.z18 _ _ h _ _ (((Ext.refl S0 w0).trans z2).trans z3) b1 u3u b3 p3 (fx0.ext (z2.trans z3)) lx0 rfl)

def Q5w := sub [1] B101
def J8c : List Item := [.code Q5w]
def Q5x := sub [0] B101
def J8d : List Item := .inRegion (opsOf Q5x) [0, 1] :: J8c
def Q5y := sub [1, 1] B101
def J8e : List Item := [.code Q5y]

def Post.z19 (gx0 : Nat) (u4b : Value) (x0v : T68) (r : Unit) (v : Value) (w' : World) : Prop :=
 ∃ S' uc, v = .func (.func 111) #[] #[(pt uc 0)] ∧ Ext S0 w0 S' w' ∧ Hp nz wz S' w' ((some uc, .row 66 [(pt gx0 0)] 1 0) :: (some gx0, .row 69 [.string x0v.s, .i x0v.at_, .i x0v.deep, u4b] 4 0) :: Lr)

theorem W.z19 (x0v : T68) (r : Unit) (h : M.syntax_parser_items x0v = some r) {nz wz S0 w0 Lr} [Gw nz wz] (gx0 u4b) (p0 : Hp nz wz S0 w0 ((some gx0, .row 69 [.string x0v.s, .i x0v.at_, .i x0v.deep, u4b] 4 0) :: Lr)) (u4c : PtO kT72 S0 w0 u4b x0v.bad) :
  Calls Tryd.prog 101 #[(pt gx0 0)] w0 (Rets (Post.z19 nz wz S0 w0 Lr gx0 u4b x0v r)) := by
 refine calls_of_goes (fn := Tryd.f101) (c := B101) (by kernel_rfl) (by kernel_rfl) 3 (by kernel_rfl) ?_
 refine Goes.jp 4 [(0, (pt gx0 0))] (fun junk => ?_)
 delta M.syntax_parser_items at h
 refine Goes.rn 2 [] J8d ?_
 refine Op_.box 66 (.tmp 0) 1 0 ((pt gx0 0)) [(pt gx0 0)] p0 Goes.v (by kernel_rfl) (by kernel_rfl) ?_
 intro b2 w2 z2 p2
 refine Goes.rn 7 [(2, .func (.func 111) #[] #[(pt b2 0)]), (3, .func (.func 111) #[] #[(pt b2 0)])] J8e ?_
 obtain rfl := Option.some.inj h
 exact Goes.rt Tryd.f101 (.func (.func 111) #[] #[(pt b2 0)]) ⟨S0, b2, rfl, ((Ext.refl S0 w0).trans z2), p2⟩

def Q5z := sub [1, 1, 1] B113
def J8f : List Item := [.code Q5z]
def J8g : List Item := .inBlock 0 :: J8f
def Q60 := sub [1, 1, 0, 1, 0, 0] B113
def J8h : List Item := .inLoop Q60 :: J8g
def J8i : List Item := .code Q60 :: J8h
def Q61 := sub [1, 1, 0, 1, 0, 0, 1] B113
def J8j : List Item := .code Q61 :: J8h
def Q62 := sub [1, 1, 0, 1, 0, 0, 0, 1] B113
def J8k : List Item := .code Q62 :: J8j
def Q63 := sub [1, 1, 0, 1, 0, 0, 1, 1] B113
def J8l : List Item := .code Q63 :: J8h
def J8m : List Item := .inBlock 1 :: J8l
def Q64 := sub [1, 1, 0, 1, 0, 0, 1, 0, 0] B113
def J8n : List Item := .code Q64 :: J8m
def Q65 := sub [1, 1, 1, 1] B113
def J8o : List Item := [.code Q65]
def Q66 := sub [1, 1, 1, 0] B113
def J8p : List Item := .inRegion (opsOf Q66) [0, 1] :: J8o

def Post.z1a (r : List Int) (v : Value) (w' : World) : Prop :=
 ∃ S' vsq, v = .agg vsq.toArray ∧ Ext S0 w0 S' w' ∧ Hp nz wz S' w' (Lr) ∧ Els (kInt .u64) S' w' vsq r ∧ vsq.length = 4

def L.z1b : Int × (List Int) × (List Int) × Int → (List Int) → Prop := fun ⟨x1, u4p, x5, x6⟩ r => ∀ S1 w1, Ext S0 w0 S1 w1 → ∀ gx4 gx5 u4q (_ : Hp nz wz S1 w1 ((some gx4, .row 25 (U4 u4p []) 4 0) :: (some gx5, .row 25 u4q 4 0) :: Lr)) (_ : u4p.length = 4) (_ : Els (kInt .u64) S1 w1 u4q x5) (_ : u4q.length = 4) (junk : Nat → Value),
 Goes Tryd.prog (base 113) J8i ⟨lfr 25 [(1, .int .u8 x1), (4, (pt gx4 0)), (5, (pt gx5 0)), (6, .i x6)] junk, []⟩ w1 (Done Tryd.prog 113 (Rets (Post.z1a nz wz S0 w0 Lr r)))

theorem W.z1b {nz wz S0 w0 Lr} [Gw nz wz] : ∀ a r, M.syntax_span_l0 a = some r → (L.z1b nz wz S0 w0 Lr) a r := by
 refine M.syntax_span_l0.partial_correctness (motive := (L.z1b nz wz S0 w0 Lr)) ?_
 intro u4r u4s ⟨x1, u4p, x5, x6⟩ r h S1 w1 hx gx4 gx5 u4q p1 u4t fx5 lx5 junk
 try dsimp only at h
 refine Goes.rn 8 [(9, .i x6), (10, .int .u8 x1), (11, .i (wr .i64 x1)), (12, .bool (decide (x6 ≤ wr .i64 x1)))] J8k ?_
 refine ite_some h (fun h8 h => ?_) (fun h8 h => ?_)
 ·
  rw [decide_eq_true h8]
  refine Goes.rn 4 [] J8n ?_
  have z4 : Ext S1 w1 S1 (w1).drew := Ext.draw
  have p4 := p1.draw
  refine Goes.drawn (s := [9]) (F := Fc S1 (w1).drew ([] ++ (rowCells gx5 u4q ++ []))) 5 10 (by kernel_rfl) (by kernel_rfl) (by kernel_rfl) (by kernel_rfl) ?_
  generalize (w1).drew = w4 at z4 p4 ⊢
  refine AnyG.pu 0 (.move (.tmp 6)) 15 3 (.i x6) (Fc.here (Cells.app trivial (Cells.app (Cells.row (p4.mem 1 rfl).cell) trivial))) ?_
  refine AnyG.pu 1 (.binOp .quo 3 (.tmp 15) (.const (.int .i64 64)) 3) 16 3 (.i (iquo .i64 x6 64)) (Fc.here (Cells.app trivial (Cells.app (Cells.row (p4.mem 1 rfl).cell) trivial))) ?_
  refine guard_some' h fun g9 h => ?_
  refine guard_some' h fun g10 h => ?_
  refine AnyG.ixA_n (i := 2) (K := (kInt .u64)) 25 (.tmp 5) (.tmp 16) 17 0 23 4 .i64 (iquo .i64 x6 64) 1 (gi x5 (iquo .i64 x6 64)) rfl p4 rfl (fx5.ext z4) (Els.len1 (fx5.ext z4) lx5 rfl) (by kernel_rfl) (by kernel_rfl) (Fc.here (Cells.app trivial (Cells.app (Cells.row (p4.mem 1 rfl).cell) trivial))) (by kernel_rfl) (by kernel_rfl) (by kernel_rfl) (by kernel_rfl) g9 g10 ?_
  intro _ q12 f13 f11
  obtain rfl := q12
  refine AnyG.ld1 (i := 3) 23 (.tmp 17) 18 23 ⟨gx5, (iquo .i64 x6 64 : Int).toNat * (kInt .u64).size, none⟩ (.u (gi x5 (iquo .i64 x6 64))) (by kernel_rfl) (by kernel_rfl) (Fc.here (Cells.app trivial (Cells.app (Cells.row (p4.mem 1 rfl).cell) trivial))) (by kernel_rfl) (by kernel_rfl) (fun _ h => h.2.right.left.rowAt (f13 0 _ rfl)) ?_
  refine AnyG.pu 4 (.move (.tmp 6)) 19 3 (.i x6) (Fc.here (Cells.app trivial (Cells.app (Cells.row (p4.mem 1 rfl).cell) trivial))) ?_
  refine AnyG.pu 5 (.binOp .rem 3 (.tmp 19) (.const (.int .i64 64)) 3) 20 3 (.i (irem .i64 x6 64)) (Fc.here (Cells.app trivial (Cells.app (Cells.row (p4.mem 1 rfl).cell) trivial))) ?_
  refine guard_some' h fun g14 h => ?_
  refine AnyG.binshl (i := 6) 23 (.const (.int .u64 1)) (.tmp 20) 3 21 23 .u64 .i64 1 (irem .i64 x6 64) (by kernel_rfl) (by kernel_rfl) (Fc.here (Cells.app trivial (Cells.app (Cells.row (p4.mem 1 rfl).cell) trivial))) (by kernel_rfl) (by kernel_rfl) g14 ?_
  refine AnyG.pu 7 (.binOp .or 23 (.tmp 18) (.tmp 21) 23) 22 23 (.u (ior .u64 (gi x5 (iquo .i64 x6 64)) (ishl .u64 1 (irem .i64 x6 64)))) (Fc.here (Cells.app trivial (Cells.app (Cells.row (p4.mem 1 rfl).cell) trivial))) ?_
  refine AnyG.ixA_n (i := 8) (K := (kInt .u64)) 25 (.tmp 5) (.tmp 16) 23 0 23 4 .i64 (iquo .i64 x6 64) 1 (gi x5 (iquo .i64 x6 64)) rfl p4 rfl (fx5.ext z4) (Els.len1 (fx5.ext z4) lx5 rfl) (by kernel_rfl) (by kernel_rfl) (Fc.here (Cells.app trivial (Cells.app (Cells.row (p4.mem 1 rfl).cell) trivial))) (by kernel_rfl) (by kernel_rfl) (by kernel_rfl) (by kernel_rfl) g9 g10 ?_
  intro _ q16 f17 f15
  obtain rfl := q16
  refine let_some h fun v18 e19 h => ?_
  refine Op_.stE_n (K := (kInt .u64)) 23 (.tmp 23) (.tmp 22) 0 1 (iquo .i64 x6 64) (.u (ior .u64 (gi x5 (iquo .i64 x6 64)) (ishl .u64 1 (irem .i64 x6 64)))) [.u (ior .u64 (gi x5 (iquo .i64 x6 64)) (ishl .u64 1 (irem .i64 x6 64)))] (ior .u64 (gi x5 (iquo .i64 x6 64)) (ishl .u64 1 (irem .i64 x6 64))) v18 4 (Els.len1 (fx5.ext z4) lx5 rfl) e19 p4 rfl (fx5.ext z4) (AnyG.ss (i := 9) (by kernel_rfl) (by kernel_rfl)) (by kernel_rfl) (by kernel_rfl) (by kernel_rfl) rfl (by kernel_rfl) g9 g10 (Nat.zero_le _) ?_
  intro w5 u4u z5 p5 f21 l22
  have l23 : u4u.length = 4 := by rw [f21.length, l22]; rfl
  refine AnyG.last [] (Fc S1 w5 []) (by decide) ?_
  refine AnyG.done (by kernel_rfl) ?_ _
  refine Goes.rn 7 [(13, .i x6), (14, .i (wr .i64 (x6 + 1))), (6, .i (wr .i64 (x6 + 1)))] J8i ?_
  exact Goes.jp 25 [(1, .int .u8 x1), (4, (pt gx4 0)), (5, (pt gx5 0)), (6, .i (wr .i64 (x6 + 1)))] (u4s _ _ h _ _ ((hx.trans z4).trans z5) gx4 gx5 u4u p5 u4t f21 l23)
 ·
  rw [decide_eq_false h8]
  refine Goes.rn 4 [] J8p ?_
  refine Op_.ldN 25 (.tmp 5) 24 25 ⟨gx5, 0, none⟩ u4q Goes.v (by kernel_rfl) (by kernel_rfl) (by rw [lx5]; kernel_rfl) (At_all (p1.mem 1 rfl)) ?_
  have f24 : Els (kInt .u64) S1 w1 ((U4 u4p []) : List Value) u4p := (els_mk4 (k := .u64) u4t)
  refine Op_.stA 25 (.tmp 4) (.tmp 24) 0 0 gx4 4 u4q p1 rfl rfl Goes.s (by kernel_rfl) (by kernel_rfl) (by kernel_rfl) lx5 (Els.one fx5) ?_
  intro w6 z6 p6
  refine Goes.rn 1 [] J8o ?_
  obtain rfl := Option.some.inj h
  have p6 := p6.dp 1
  exact Goes.ret (fn := Tryd.f113) (by kernel_rfl) (v := .agg u4q.toArray) (results_n1 (fn := Tryd.f113) (a := .cell 4 25) (by kernel_rfl) (resV_cell ⟨gx4, 0, none⟩ (by kernel_rfl) (run_loadN u4q (by kernel_rfl) (by rw [lx5]; kernel_rfl) (At_all (p6.mem 0 rfl))))) ⟨S1, u4q, rfl, (hx.trans z6), p6.drop, (fx5.ext z6), lx5⟩

def Q67 := sub [1] B113
def J8q : List Item := [.code Q67]
def Q68 := sub [0] B113
def J8r : List Item := .inRegion (opsOf Q68) [0] :: J8q
def Q69 := sub [1, 1] B113
def J8s : List Item := [.code Q69]
def Q6a := sub [1, 0] B113
def J8t : List Item := .inRegion (opsOf Q6a) [0] :: J8s

theorem W.z1a (x0 : Int) (x1 : Int) (r : List Int) (h : M.syntax_span x0 x1 = some r) {nz wz S0 w0 Lr} [Gw nz wz] (p0 : Hp nz wz S0 w0 (Lr)) :
  Calls Tryd.prog 113 #[.int .u8 x0, .int .u8 x1] w0 (Rets (Post.z1a nz wz S0 w0 Lr r)) := by
 refine calls_of_goes (fn := Tryd.f113) (c := B113) (by kernel_rfl) (by kernel_rfl) 23 (by kernel_rfl) ?_
 refine Goes.jp 25 [(0, .int .u8 x0), (1, .int .u8 x1)] (fun junk => ?_)
 delta M.syntax_span at h
 refine Goes.rn 2 [] J8r ?_
 refine Op_.alloc 25 4 0 (.agg #[.u 0, .u 0, .u 0, .u 0]) [.u 0, .u 0, .u 0, .u 0] p0 Goes.v (by kernel_rfl) (by kernel_rfl) ?_
 intro b1 w2 z2 p2
 refine Goes.rn 3 [] J8t ?_
 refine Op_.alloc 25 5 0 (.agg #[.u 0, .u 0, .u 0, .u 0]) [.u 0, .u 0, .u 0, .u 0] p2 Goes.v (by kernel_rfl) (by kernel_rfl) ?_
 intro b3 w3 z3 p3
 refine Goes.rn 10 [(7, .int .u8 x0), (8, .i (wr .i64 x0)), (6, .i (wr .i64 x0))] J8i ?_
 have f7 : Els (kInt .u64) S0 w3 ([.u 0, .u 0, .u 0, .u 0] : List Value) [0, 0, 0, 0] := (Els.cons (K := (kInt .u64)) (vs := [.u 0]) (x := 0) rfl (Els.cons (K := (kInt .u64)) (vs := [.u 0]) (x := 0) rfl (Els.cons (K := (kInt .u64)) (vs := [.u 0]) (x := 0) rfl (Els.cons (K := (kInt .u64)) (vs := [.u 0]) (x := 0) rfl Els.nil))))
 have p3 := (p3.fr 0).fr 1
 exact Goes.jp 25 [(1, .int .u8 x1), (4, (pt b1 0)), (5, (pt b3 0)), (6, .i (wr .i64 x0))] (W.z1b _ _ h _ _ (((Ext.refl S0 w0).trans z2).trans z3) b1 b3 ([.u 0, .u 0, .u 0, .u 0] : List Value) p3 rfl f7 rfl)

def Q6b := sub [1, 1, 1] B102
def J8u : List Item := [.code Q6b]
def J8v : List Item := .inBlock 0 :: J8u
def Q6c := sub [1, 1, 0, 1, 0, 0] B102
def J8w : List Item := .inLoop Q6c :: J8v
def J8x : List Item := .code Q6c :: J8w
def Q6d := sub [1, 1, 0, 1, 0, 0, 1, 1, 1] B102
def J8y : List Item := .code Q6d :: J8w
def J8z : List Item := .inBlock 1 :: J8y
def J90 : List Item := .inBlock 2 :: J8z
def Q6e := sub [1, 1, 0, 1, 0, 0, 1, 1, 0, 0, 1, 1, 0, 0] B102
def J91 : List Item := .inLoop Q6e :: J90
def J92 : List Item := .code Q6e :: J91
def Q6f := sub [1, 1, 0, 1, 0, 0, 1, 1] B102
def J93 : List Item := .code Q6f :: J8w
def Q6g := sub [1, 1, 0, 1, 0, 0, 1, 0] B102
def J94 : List Item := .code Q6g :: J93
def Q6h := sub [1, 1, 0, 1, 0, 0, 1, 1, 0, 0, 1] B102
def J95 : List Item := .code Q6h :: J8z
def Q6i := sub [1, 1, 0, 1, 0, 0, 1, 1, 0, 0, 0] B102
def J96 : List Item := .inRegion (opsOf Q6i) [0, 1, 2, 3] :: J95
def Q6j := sub [1, 1, 1, 1] B102
def J97 : List Item := [.code Q6j]
def Q6k := sub [1, 1, 1, 0] B102
def J98 : List Item := .inRegion (opsOf Q6k) [0, 1] :: J97
def Q6l := sub [1, 1, 0, 1, 0, 0, 1, 1, 0, 0, 1, 1, 0, 0, 1, 1] B102
def J99 : List Item := .code Q6l :: J91
def Q6m := sub [1, 1, 0, 1, 0, 0, 1, 1, 0, 0, 1, 1, 0, 0, 1, 0] B102
def J9a : List Item := .code Q6m :: J99
def Q6n := sub [1, 1, 0, 1, 0, 0, 1, 1, 0, 0, 1, 1, 0, 0, 1, 1, 1] B102
def J9b : List Item := .code Q6n :: J91
def J9c : List Item := .inBlock 3 :: J9b
def Q6o := sub [1, 1, 0, 1, 0, 0, 1, 1, 0, 0, 1, 1, 0, 0, 1, 1, 0, 0, 1] B102
def J9d : List Item := .code Q6o :: J9c

def Post.z1c (r : List Int) (v : Value) (w' : World) : Prop :=
 ∃ S' vsq, v = .agg vsq.toArray ∧ Ext S0 w0 S' w' ∧ Hp nz wz S' w' (Lr) ∧ Els (kInt .u64) S' w' vsq r ∧ vsq.length = 4

def L.z1d : (List Int) × (List Int) × (List (List Int)) × Int × Int → (List Int) → Prop := fun ⟨u4j, x3, x7, x8, x9⟩ r => ∀ S1 w1, Ext S0 w0 S1 w1 → ∀ gx2 gx3 u4v Ax7 nx7 cx7 (_ : Hp nz wz S1 w1 ((some gx2, .row 25 (U4 u4j []) 4 0) :: (some gx3, .row 25 u4v 4 0) :: Lr)) (_ : u4j.length = 4) (_ : Els (kInt .u64) S1 w1 u4v x3) (_ : u4v.length = 4) (_ : Rd (kArr 4 (kInt .u64)) S1 w1 Ax7 cx7 x7) (_ : x7.length = nx7) (junk : Nat → Value),
 Goes Tryd.prog (base 102) J8x ⟨lfr 27 [(2, (pt gx2 0)), (3, (pt gx3 0)), (7, .slice Ax7 nx7 cx7), (8, .i x8), (9, .i x9)] junk, []⟩ w1 (Done Tryd.prog 102 (Rets (Post.z1c nz wz S0 w0 Lr r)))

def L.z1e : (List Int) × (List Int) × (List Int) × (List (List Int)) × Int × Int × Int → (List Int) → Prop := fun ⟨u4j, x3, x5, x7, x8, x9, x13⟩ r => ∀ S1 w1, Ext S0 w0 S1 w1 → ∀ gx2 gx3 u4v gx5 u4q Ax7 nx7 cx7 (_ : Hp nz wz S1 w1 ((some gx2, .row 25 (U4 u4j []) 4 0) :: (some gx3, .row 25 u4v 4 0) :: (some gx5, .row 25 u4q 4 0) :: Lr)) (_ : u4j.length = 4) (_ : Els (kInt .u64) S1 w1 u4v x3) (_ : u4v.length = 4) (_ : Els (kInt .u64) S1 w1 u4q x5) (_ : u4q.length = 4) (_ : Rd (kArr 4 (kInt .u64)) S1 w1 Ax7 cx7 x7) (_ : x7.length = nx7) (junk : Nat → Value),
 Goes Tryd.prog (base 102) J92 ⟨lfr 27 [(2, (pt gx2 0)), (3, (pt gx3 0)), (5, (pt gx5 0)), (7, .slice Ax7 nx7 cx7), (8, .i x8), (9, .i x9), (13, .i x13)] junk, []⟩ w1 (Done Tryd.prog 102 (Rets (Post.z1c nz wz S0 w0 Lr r)))

theorem W.z1f {nz wz S0 w0 Lr} [Gw nz wz] : (∀ a r, M.syntax_join_l0 a = some r → (L.z1d nz wz S0 w0 Lr) a r) ∧ (∀ a r, M.syntax_join_l1 a = some r → (L.z1e nz wz S0 w0 Lr) a r) := by
 refine M.syntax_join_l0.mutual_partial_correctness (L.z1d nz wz S0 w0 Lr) (L.z1e nz wz S0 w0 Lr) ?_ ?_
 ·
  intro u4w u4x ⟨u4j, x3, x7, x8, x9⟩ r h S1 w1 hx gx2 gx3 u4v Ax7 nx7 cx7 p1 u4n fx3 lx3 fx7 lx7 junk
  try dsimp only at h
  subst lx7
  refine Goes.rn 5 [(10, .bool (decide (x9 < x8)))] J94 ?_
  refine ite_some h (fun h8 h => ?_) (fun h8 h => ?_)
  ·
   rw [decide_eq_true h8]
   refine Goes.rn 6 [] J96 ?_
   refine guard_some' h fun g9 h => ?_
   refine guard_some' h fun g10 h => ?_
   refine Op_.ixR_n 151 (.tmp 7) (.tmp 9) 11 0 25 .i64 x9 (gi x7 x9) rfl rfl fx7 Goes.v (by kernel_rfl) (by kernel_rfl) (by kernel_rfl) (by kernel_rfl) g9 g10 ?_
   intro a11 _ f12 q13
   obtain ⟨l14, f15⟩ := q13
   obtain rfl := els_lit4' f15 l14
   refine Goes.ldN 25 (.tmp 11) 12 25 a11 (U4 (gi x7 x9) []) (f12.cell) ?_
   refine Op_.alloc 25 5 0 (.agg #[.u 0, .u 0, .u 0, .u 0]) [.u 0, .u 0, .u 0, .u 0] p1 Goes.v (by kernel_rfl) (by kernel_rfl) ?_
   intro b16 w4 z4 p4
   refine Op_.st 25 (.tmp 5) (.tmp 12) 0 0 b16 0 (ag (U4 (gi x7 x9) [])) (U4 (gi x7 x9) []) p4 rfl Goes.s (by kernel_rfl) (by kernel_rfl) (by kernel_rfl) (by kernel_rfl) (Nat.zero_le _) (by simp only [List.length_cons, List.length_nil]; omega) (by simp [Value.oneCell']) ?_
   intro w5 z5 p5
   have p5 : Hp nz wz S1 w5 ((some b16, .row 25 (U4 (gi x7 x9) []) 4 0) :: (some gx2, .row 25 (U4 u4j []) 4 0) :: (some gx3, .row 25 u4v 4 0) :: Lr) := p5
   refine Goes.rn 7 [(13, .i 0)] J92 ?_
   have f21 : Els (kInt .u64) S1 w5 ((U4 (gi x7 x9) []) : List Value) (gi x7 x9) := (els_mk4 (k := .u64) l14)
   have p5 := ((p5.fr 0).fr 2).fr 2
   exact Goes.jp 27 [(2, (pt gx2 0)), (3, (pt gx3 0)), (5, (pt b16 0)), (7, .slice Ax7 x7.length cx7), (8, .i x8), (9, .i x9), (13, .i 0)] (u4x _ _ h _ _ ((hx.trans z4).trans z5) gx2 gx3 u4v b16 ((U4 (gi x7 x9) []) : List Value) Ax7 x7.length cx7 p5 u4n (fx3.ext (z4.trans z5)) lx3 f21 rfl (fx7.ext (z4.trans z5)) rfl)
  ·
   rw [decide_eq_false h8]
   refine Goes.rn 4 [] J98 ?_
   refine Op_.ldN 25 (.tmp 3) 26 25 ⟨gx3, 0, none⟩ u4v Goes.v (by kernel_rfl) (by kernel_rfl) (by rw [lx3]; kernel_rfl) (At_all (p1.mem 1 rfl)) ?_
   have f22 : Els (kInt .u64) S1 w1 ((U4 u4j []) : List Value) u4j := (els_mk4 (k := .u64) u4n)
   refine Op_.stA 25 (.tmp 2) (.tmp 26) 0 0 gx2 4 u4v p1 rfl rfl Goes.s (by kernel_rfl) (by kernel_rfl) (by kernel_rfl) lx3 (Els.one fx3) ?_
   intro w6 z6 p6
   refine Goes.rn 1 [] J97 ?_
   obtain rfl := Option.some.inj h
   have p6 := p6.dp 1
   exact Goes.ret (fn := Tryd.f102) (by kernel_rfl) (v := .agg u4v.toArray) (results_n1 (fn := Tryd.f102) (a := .cell 2 25) (by kernel_rfl) (resV_cell ⟨gx2, 0, none⟩ (by kernel_rfl) (run_loadN u4v (by kernel_rfl) (by rw [lx3]; kernel_rfl) (At_all (p6.mem 0 rfl))))) ⟨S1, u4v, rfl, (hx.trans z6), p6.drop, (fx3.ext z6), lx3⟩
 ·
  intro u4y u4w u4z u4x ⟨u4j, x3, x5, x7, x8, x9, x13⟩ r h S1 w1 hx gx2 gx3 u4v gx5 u4q Ax7 nx7 cx7 p1 u4n fx3 lx3 fx5 lx5 fx7 lx7 junk
  try dsimp only at h
  subst lx7
  refine Goes.rn 5 [(14, .bool (decide (x13 < 4)))] J9a ?_
  refine ite_some h (fun h23 h => ?_) (fun h23 h => ?_)
  ·
   rw [decide_eq_true h23]
   refine Goes.rn 9 [(15, .i x13), (6, .i x13)] J9d ?_
   have z7 : Ext S1 w1 S1 (w1).drew := Ext.draw
   have p7 := p1.draw
   refine Goes.drawn (s := [8]) (F := Fc S1 (w1).drew ([] ++ (rowCells gx3 u4v ++ (rowCells gx5 u4q ++ [])))) 8 9 (by kernel_rfl) (by kernel_rfl) (by kernel_rfl) (by kernel_rfl) ?_
   generalize (w1).drew = w7 at z7 p7 ⊢
   refine AnyG.pu 0 (.move (.tmp 6)) 16 3 (.i x13) (Fc.here (Cells.app trivial (Cells.app (Cells.row (p7.mem 1 rfl).cell) (Cells.app (Cells.row (p7.mem 2 rfl).cell) trivial)))) ?_
   refine guard_some' h fun g24 h => ?_
   refine AnyG.ixA_n (i := 1) (K := (kInt .u64)) 25 (.tmp 3) (.tmp 16) 17 0 23 4 .i64 x13 1 (gi x3 x13) rfl p7 rfl (fx3.ext z7) (Els.len1 (fx3.ext z7) lx3 rfl) (by kernel_rfl) (by kernel_rfl) (Fc.here (Cells.app trivial (Cells.app (Cells.row (p7.mem 1 rfl).cell) (Cells.app (Cells.row (p7.mem 2 rfl).cell) trivial)))) (by kernel_rfl) (by kernel_rfl) (by kernel_rfl) (by kernel_rfl) g24 h23 ?_
   intro _ q26 f27 f25
   obtain rfl := q26
   refine AnyG.ld1 (i := 2) 23 (.tmp 17) 18 23 ⟨gx3, (x13 : Int).toNat * (kInt .u64).size, none⟩ (.u (gi x3 x13)) (by kernel_rfl) (by kernel_rfl) (Fc.here (Cells.app trivial (Cells.app (Cells.row (p7.mem 1 rfl).cell) (Cells.app (Cells.row (p7.mem 2 rfl).cell) trivial)))) (by kernel_rfl) (by kernel_rfl) (fun _ h => h.2.right.left.rowAt (f27 0 _ rfl)) ?_
   refine AnyG.pu 3 (.move (.tmp 6)) 19 3 (.i x13) (Fc.here (Cells.app trivial (Cells.app (Cells.row (p7.mem 1 rfl).cell) (Cells.app (Cells.row (p7.mem 2 rfl).cell) trivial)))) ?_
   refine AnyG.ixA_n (i := 4) (K := (kInt .u64)) 25 (.tmp 5) (.tmp 19) 20 0 23 4 .i64 x13 2 (gi x5 x13) rfl p7 rfl (fx5.ext z7) (Els.len1 (fx5.ext z7) lx5 rfl) (by kernel_rfl) (by kernel_rfl) (Fc.here (Cells.app trivial (Cells.app (Cells.row (p7.mem 1 rfl).cell) (Cells.app (Cells.row (p7.mem 2 rfl).cell) trivial)))) (by kernel_rfl) (by kernel_rfl) (by kernel_rfl) (by kernel_rfl) g24 h23 ?_
   intro _ q29 f30 f28
   obtain rfl := q29
   refine AnyG.ld1 (i := 5) 23 (.tmp 20) 21 23 ⟨gx5, (x13 : Int).toNat * (kInt .u64).size, none⟩ (.u (gi x5 x13)) (by kernel_rfl) (by kernel_rfl) (Fc.here (Cells.app trivial (Cells.app (Cells.row (p7.mem 1 rfl).cell) (Cells.app (Cells.row (p7.mem 2 rfl).cell) trivial)))) (by kernel_rfl) (by kernel_rfl) (fun _ h => h.2.right.right.left.rowAt (f30 0 _ rfl)) ?_
   refine AnyG.pu 6 (.binOp .or 23 (.tmp 18) (.tmp 21) 23) 22 23 (.u (ior .u64 (gi x3 x13) (gi x5 x13))) (Fc.here (Cells.app trivial (Cells.app (Cells.row (p7.mem 1 rfl).cell) (Cells.app (Cells.row (p7.mem 2 rfl).cell) trivial)))) ?_
   refine AnyG.ixA_n (i := 7) (K := (kInt .u64)) 25 (.tmp 3) (.tmp 16) 23 0 23 4 .i64 x13 1 (gi x3 x13) rfl p7 rfl (fx3.ext z7) (Els.len1 (fx3.ext z7) lx3 rfl) (by kernel_rfl) (by kernel_rfl) (Fc.here (Cells.app trivial (Cells.app (Cells.row (p7.mem 1 rfl).cell) (Cells.app (Cells.row (p7.mem 2 rfl).cell) trivial)))) (by kernel_rfl) (by kernel_rfl) (by kernel_rfl) (by kernel_rfl) g24 h23 ?_
   intro _ q32 f33 f31
   obtain rfl := q32
   refine let_some h fun v34 e35 h => ?_
   refine Op_.stE_n (K := (kInt .u64)) 23 (.tmp 23) (.tmp 22) 0 1 x13 (.u (ior .u64 (gi x3 x13) (gi x5 x13))) [.u (ior .u64 (gi x3 x13) (gi x5 x13))] (ior .u64 (gi x3 x13) (gi x5 x13)) v34 4 (Els.len1 (fx3.ext z7) lx3 rfl) e35 p7 rfl (fx3.ext z7) (AnyG.ss (i := 8) (by kernel_rfl) (by kernel_rfl)) (by kernel_rfl) (by kernel_rfl) (by kernel_rfl) rfl (by kernel_rfl) g24 h23 (Nat.zero_le _) ?_
   intro w8 u50 z8 p8 f37 l38
   have l39 : u50.length = 4 := by rw [f37.length, l38]; rfl
   refine AnyG.last [] (Fc S1 w8 []) (by decide) ?_
   refine AnyG.done (by kernel_rfl) ?_ _
   refine Goes.rn 6 [(24, .i (wr .i64 (x13 + 1))), (13, .i (wr .i64 (x13 + 1)))] J92 ?_
   exact Goes.jp 27 [(2, (pt gx2 0)), (3, (pt gx3 0)), (5, (pt gx5 0)), (7, .slice Ax7 x7.length cx7), (8, .i x8), (9, .i x9), (13, .i (wr .i64 (x13 + 1)))] (u4x _ _ h _ _ ((hx.trans z7).trans z8) gx2 gx3 u50 gx5 u4q Ax7 x7.length cx7 p8 u4n f37 l39 (fx5.ext (z7.trans z8)) lx5 (fx7.ext (z7.trans z8)) rfl)
  ·
   rw [decide_eq_false h23]
   refine Goes.rn 8 [(25, .i (wr .i64 (x9 + 1))), (9, .i (wr .i64 (x9 + 1)))] J8x ?_
   have p1 := p1.dp 2
   exact Goes.jp 27 [(2, (pt gx2 0)), (3, (pt gx3 0)), (7, .slice Ax7 x7.length cx7), (8, .i x8), (9, .i (wr .i64 (x9 + 1)))] (u4z _ _ h _ _ hx gx2 gx3 u4v Ax7 x7.length cx7 p1 u4n fx3 lx3 fx7 rfl)

theorem W.z1d {nz wz S0 w0 Lr} [Gw nz wz] : ∀ a r, M.syntax_join_l0 a = some r → (L.z1d nz wz S0 w0 Lr) a r := (W.z1f).1

theorem W.z1e {nz wz S0 w0 Lr} [Gw nz wz] : ∀ a r, M.syntax_join_l1 a = some r → (L.z1e nz wz S0 w0 Lr) a r := (W.z1f).2

def Q6p := sub [1] B102
def J9e : List Item := [.code Q6p]
def Q6q := sub [0] B102
def J9f : List Item := .inRegion (opsOf Q6q) [0] :: J9e
def Q6r := sub [1, 1] B102
def J9g : List Item := [.code Q6r]
def Q6s := sub [1, 0] B102
def J9h : List Item := .inRegion (opsOf Q6s) [0] :: J9g

theorem W.z1c (x0 : List (List Int)) (r : List Int) (h : M.syntax_join x0 = some r) {nz wz S0 w0 Lr} [Gw nz wz] (Ax0 nx0 cx0) (p0 : Hp nz wz S0 w0 (Lr)) (fx0 : Rd (kArr 4 (kInt .u64)) S0 w0 Ax0 cx0 x0) (lx0 : x0.length = nx0) :
  Calls Tryd.prog 102 #[.slice Ax0 nx0 cx0] w0 (Rets (Post.z1c nz wz S0 w0 Lr r)) := by
 subst lx0
 refine calls_of_goes (fn := Tryd.f102) (c := B102) (by kernel_rfl) (by kernel_rfl) 26 (by kernel_rfl) ?_
 refine Goes.jp 27 [(0, .slice Ax0 x0.length cx0)] (fun junk => ?_)
 delta M.syntax_join at h
 refine Goes.rn 2 [] J9f ?_
 refine Op_.alloc 25 2 0 (.agg #[.u 0, .u 0, .u 0, .u 0]) [.u 0, .u 0, .u 0, .u 0] p0 Goes.v (by kernel_rfl) (by kernel_rfl) ?_
 intro b1 w2 z2 p2
 refine Goes.rn 3 [] J9h ?_
 refine Op_.alloc 25 3 0 (.agg #[.u 0, .u 0, .u 0, .u 0]) [.u 0, .u 0, .u 0, .u 0] p2 Goes.v (by kernel_rfl) (by kernel_rfl) ?_
 intro b3 w3 z3 p3
 refine Goes.rn 10 [(7, .slice Ax0 x0.length cx0), (8, .i (x0.length : Int)), (9, .i 0)] J8x ?_
 have f7 : Els (kInt .u64) S0 w3 ([.u 0, .u 0, .u 0, .u 0] : List Value) [0, 0, 0, 0] := (Els.cons (K := (kInt .u64)) (vs := [.u 0]) (x := 0) rfl (Els.cons (K := (kInt .u64)) (vs := [.u 0]) (x := 0) rfl (Els.cons (K := (kInt .u64)) (vs := [.u 0]) (x := 0) rfl (Els.cons (K := (kInt .u64)) (vs := [.u 0]) (x := 0) rfl Els.nil))))
 have p3 := (p3.fr 0).fr 1
 exact Goes.jp 27 [(2, (pt b1 0)), (3, (pt b3 0)), (7, .slice Ax0 x0.length cx0), (8, .i (x0.length : Int)), (9, .i 0)] (W.z1d _ _ h _ _ (((Ext.refl S0 w0).trans z2).trans z3) b1 b3 ([.u 0, .u 0, .u 0, .u 0] : List Value) Ax0 x0.length cx0 p3 rfl f7 rfl (fx0.ext (z2.trans z3)) rfl)

def Q6t := sub [1] B103
def J9i : List Item := [.code Q6t]
def Q6u := sub [0] B103
def J9j : List Item := .inRegion (opsOf Q6u) [0, 1] :: J9i
def Q6v := sub [1, 1] B103
def J9k : List Item := [.code Q6v]
def Q6w := sub [1, 0] B103
def J9l : List Item := .inRegion (opsOf Q6w) [0] :: J9k
def Q6x := sub [1, 1, 1] B103
def J9m : List Item := [.code Q6x]
def J9n : List Item := .inBlock 0 :: J9m
def Q6y := sub [1, 1, 0, 1, 0, 1] B103
def J9o : List Item := .code Q6y :: J9n
def J9p : List Item := .inBlock 4 :: J9o
def Q6z := sub [1, 1, 0, 1, 0, 0, 0, 1] B103
def J9q : List Item := .code Q6z :: J9p
def J9r : List Item := .inBlock 3 :: J9q
def Q70 := sub [1, 1, 0, 1, 0, 0, 0, 0, 0, 1] B103
def J9s : List Item := .code Q70 :: J9r
def J9t : List Item := .inBlock 2 :: J9s
def Q71 := sub [1, 1, 0, 1, 0, 0, 0, 0, 0, 0, 0] B103
def J9u : List Item := .code Q71 :: J9t
def Q72 := sub [1, 1, 0, 1, 0, 0, 0, 0, 0, 0, 0, 1] B103
def J9v : List Item := .code Q72 :: J9t
def J9w : List Item := .inBlock 1 :: J9v
def Q73 := sub [1, 1, 0, 1, 0, 0, 0, 0, 0, 0, 0, 0, 0, 1] B103
def J9x : List Item := .code Q73 :: J9w
def Q74 := sub [1, 1, 0, 1, 0, 0, 0, 0, 0, 0, 0, 0, 0, 0, 1] B103
def J9y : List Item := .code Q74 :: J9x
def Q75 := sub [1, 1, 0, 1, 0, 0, 0, 0, 0, 0, 0, 0, 0, 0, 0, 1] B103
def J9z : List Item := .code Q75 :: J9y
def Q76 := sub [1, 1, 0, 1, 0, 0, 0, 0, 0, 1, 1] B103
def Ja0 : List Item := .code Q76 :: J9r
def Q77 := sub [1, 1, 0, 1, 0, 0, 0, 0, 0, 1, 0] B103
def Ja1 : List Item := .code Q77 :: Ja0
def Q78 := sub [1, 1, 1, 1] B103
def Ja2 : List Item := [.code Q78]
def Q79 := sub [1, 1, 1, 0, 1] B103
def Ja3 : List Item := .code Q79 :: Ja2
def Q7a := sub [1, 1, 1, 0, 1, 0] B103
def Ja4 : List Item := .inRegion (opsOf Q7a) [0, 1, 2] :: Ja2
def Q7b := sub [1, 1, 1, 1, 1] B103
def Ja5 : List Item := [.code Q7b]
def Q7c := sub [1, 1, 1, 1, 0] B103
def Ja6 : List Item := .inRegion (opsOf Q7c) [0, 1, 2] :: Ja5
def Q7d := sub [1, 1, 0, 1, 0, 0, 0, 0, 0, 0, 0, 0, 0, 0, 1, 1] B103
def Ja7 : List Item := .code Q7d :: J9x
def Q7e := sub [1, 1, 0, 1, 0, 0, 0, 0, 0, 0, 0, 0, 0, 0, 1, 0, 1] B103
def Ja8 : List Item := .code Q7e :: Ja7
def Q7f := sub [1, 1, 0, 1, 0, 0, 0, 0, 0, 0, 0, 0, 0, 0, 1, 1, 1] B103
def Ja9 : List Item := .code Q7f :: J9x
def Q7g := sub [1, 1, 0, 1, 0, 0, 0, 1, 1] B103
def Jaa : List Item := .code Q7g :: J9p
def Q7h := sub [1, 1, 0, 1, 0, 0, 0, 1, 0] B103
def Jab : List Item := .inRegion (opsOf Q7h) [0, 1, 2, 3, 4, 5] :: Jaa
def Q7i := sub [1, 1, 0, 1, 0, 1, 1] B103
def Jac : List Item := .code Q7i :: J9n
def Q7j := sub [1, 1, 0, 1, 0, 1, 0, 1] B103
def Jad : List Item := .code Q7j :: Jac
def Q7k := sub [1, 1, 0, 1, 0, 1, 0, 0] B103
def Jae : List Item := .inRegion (opsOf Q7k) [0, 1, 2] :: Jad

def Post.z1g (r : (List Int) × Bool) (v : Value) (w' : World) : Prop :=
 ∃ S' u51, v = .tuple #[.agg u51.toArray, .bool r.2] ∧ Ext S0 w0 S' w' ∧ Hp nz wz S' w' (Lr) ∧ Els (kInt .u64) S' w' u51 r.1 ∧ u51.length = 4

theorem W.z1g (x0 : Int) (r : (List Int) × Bool) (h : M.syntax_class x0 = some r) {nz wz S0 w0 Lr} [Gw nz wz] (p0 : Hp nz wz S0 w0 (Lr)) :
  Calls Tryd.prog 103 #[.int .u8 x0] w0 (Rets (Post.z1g nz wz S0 w0 Lr r)) := by
 refine calls_of_goes (fn := Tryd.f103) (c := B103) (by kernel_rfl) (by kernel_rfl) 34 (by kernel_rfl) ?_
 refine Goes.jp 35 [(0, .int .u8 x0)] (fun junk => ?_)
 delta M.syntax_class at h
 refine Goes.rn 2 [] J9j ?_
 refine Op_.alloc 25 2 0 (.agg #[.u 0, .u 0, .u 0, .u 0]) [.u 0, .u 0, .u 0, .u 0] p0 Goes.v (by kernel_rfl) (by kernel_rfl) ?_
 intro b1 w2 z2 p2
 refine Goes.rn 4 [(3, .bool false)] J9l ?_
 refine Op_.alloc 25 4 0 (.agg #[.u 0, .u 0, .u 0, .u 0]) [.u 0, .u 0, .u 0, .u 0] p2 Goes.v (by kernel_rfl) (by kernel_rfl) ?_
 intro b3 w3 z3 p3
 refine Goes.rn 14 [(5, .int .u8 x0), (6, .int .u8 (ior .u8 x0 32))] J9u ?_
 refine Goes.rn 9 [(8, .bool (decide (ior .u8 x0 32 = 119))), (7, .bool (decide (ior .u8 x0 32 = 119)))] J9z ?_
 refine ite_some h (fun h5 h => ?_) (fun h5 h => ?_)
 ·
  rw [decide_eq_true h5]
  refine Goes.rn 2 [] J9v ?_
  have z4 : Ext S0 w3 S0 (w3).drew := Ext.draw
  have p4 := p3.draw
  refine Goes.drawn (s := [4, 5, 6]) (F := Fc S0 (w3).drew [(⟨b3, 0, none⟩, .u 0), (⟨b3, 1, none⟩, .u 0), (⟨b3, 2, none⟩, .u 0), (⟨b3, 3, none⟩, .u 0)]) 6 7 (by kernel_rfl) (by kernel_rfl) (by kernel_rfl) (by kernel_rfl) ?_
  generalize (w3).drew = w4 at z4 p4 ⊢
  refine AnyG.ldN (i := 0) 25 (.tmp 4) 13 25 ⟨b3, 0, none⟩ [.u 0, .u 0, .u 0, .u 0] (by kernel_rfl) (by kernel_rfl) (Fc.here (p4.cs [(0, 0, 4)])) (by kernel_rfl) (by kernel_rfl) (by kernel_rfl) (fun _ h j v hj => by match j, hj with | 0, rfl => exact h.2.at_ 0 rfl | 1, rfl => exact h.2.at_ 1 rfl | 2, rfl => exact h.2.at_ 2 rfl | 3, rfl => exact h.2.at_ 3 rfl | (j + 4), hj => simp at hj) ?_
  refine bind_some' h fun y6 e7 h => ?_
  refine Op_.call (.call { callee := .value (.func 113), args := #[(.const (.int .u8 97)), (.const (.int .u8 122))], argTypes := #[5, 5] }) 14 25 113 #[.int .u8 97, .int .u8 122] (AnyG.cs (i := 1) (by kernel_rfl) (by kernel_rfl)) (by kernel_rfl) (W.z1a 97 122 y6 e7  p4 ) ?_
  rintro _ w5 ⟨S5, u52, rfl, z5, p5, u53, u54⟩
  refine AnyG.next z5 ⟨(p5.c 0 0), (p5.c 0 1), (p5.c 0 2), (p5.c 0 3), trivial⟩ ?_
  refine bind_some' h fun y8 e9 h => ?_
  refine Op_.call (.call { callee := .value (.func 113), args := #[(.const (.int .u8 65)), (.const (.int .u8 90))], argTypes := #[5, 5] }) 15 25 113 #[.int .u8 65, .int .u8 90] (AnyG.cs (i := 2) (by kernel_rfl) (by kernel_rfl)) (by kernel_rfl) (W.z1a 65 90 y8 e9  p5 ) ?_
  rintro _ w6 ⟨S6, u55, rfl, z6, p6, u56, u57⟩
  refine AnyG.next z6 ⟨(p6.c 0 0), (p6.c 0 1), (p6.c 0 2), (p6.c 0 3), trivial⟩ ?_
  refine bind_some' h fun y10 e11 h => ?_
  refine Op_.call (.call { callee := .value (.func 90), args := #[(.const (.int .u8 95))], argTypes := #[5] }) 16 25 90 #[.int .u8 95] (AnyG.cs (i := 3) (by kernel_rfl) (by kernel_rfl)) (by kernel_rfl) (W.z16 95 y10 e11  p6 ) ?_
  rintro _ w7 ⟨S7, u58, rfl, z7, p7, u59, u5a⟩
  refine AnyG.next z7 ⟨(p7.c 0 0), (p7.c 0 1), (p7.c 0 2), (p7.c 0 3), trivial⟩ ?_
  have l12 := Els.len1 (u53.ext (z6.trans z7)) u54 rfl
  obtain rfl := els_lit4 (u53.ext (z6.trans z7)) u54
  have l13 := Els.len1 (u56.ext z7) u57 rfl
  obtain rfl := els_lit4 (u56.ext z7) u57
  have l14 := Els.len1 u59 u5a rfl
  obtain rfl := els_lit4 u59 u5a
  have f16 : Els (kArr 4 (kInt .u64)) S7 w7 ((.u 0 :: .u 0 :: .u 0 :: .u 0 :: U4 y6 (U4 y8 (U4 y10 []))) : List Value) [[0, 0, 0, 0], y6, y8, y10] := by exact (Els.cons (K := (kArr 4 (kInt .u64))) (vs := [.u 0, .u 0, .u 0, .u 0]) (x := [0, 0, 0, 0]) ⟨rfl, (Els.cons (K := (kInt .u64)) (vs := [.u 0]) (x := 0) rfl (Els.cons (K := (kInt .u64)) (vs := [.u 0]) (x := 0) rfl (Els.cons (K := (kInt .u64)) (vs := [.u 0]) (x := 0) rfl (Els.cons (K := (kInt .u64)) (vs := [.u 0]) (x := 0) rfl Els.nil))))⟩ (Els.cons (K := (kArr 4 (kInt .u64))) (vs := (U4 y6 [])) (x := y6) ⟨l12, els_mk4 l12⟩ (Els.cons (K := (kArr 4 (kInt .u64))) (vs := (U4 y8 [])) (x := y8) ⟨l13, els_mk4 l13⟩ (Els.cons (K := (kArr 4 (kInt .u64))) (vs := (U4 y10 [])) (x := y10) ⟨l14, els_mk4 l14⟩ Els.nil))))
  refine Op_.made (.buildSlice 151 4 #[(0, (.tmp 13)), (1, (.tmp 14)), (2, (.tmp 15)), (3, (.tmp 16))]) 17 151 (fun b => .slice (Gp (some b)) 4 4) 25 ((.u 0 :: .u 0 :: .u 0 :: .u 0 :: U4 y6 (U4 y8 (U4 y10 []))) : List Value) p7 (AnyG.vs (i := 4) (by kernel_rfl) (by kernel_rfl)) (by kernel_rfl) ?_
  intro b15 w8 z8 p8
  have p8 : Hp nz wz S7 w8 (((some b15), .row 25 ((.u 0 :: .u 0 :: .u 0 :: .u 0 :: U4 y6 (U4 y8 (U4 y10 []))) : List Value) (4 * (kArr 4 (kInt .u64)).size) 0) :: (some b3, .row 25 [.u 0, .u 0, .u 0, .u 0] 4 0) :: (some b1, .row 25 [.u 0, .u 0, .u 0, .u 0] 4 0) :: Lr) := p8
  refine AnyG.last [5, 6] (Fc S7 w8 []) (by decide) ?_
  obtain ⟨S9, z9, p9, f18⟩ := p8.freezeRd 0 rfl (f16.ext z8) (by decide)
  refine AnyG.refz z9 ?_
  refine bind_some' h fun y19 e20 h => ?_
  refine Op_.call (kc 102 [17] #[151]) 18 25 102 #[.slice (Gp (some b15)) 4 4] (AnyG.cs (i := 5) (by kernel_rfl) (by kernel_rfl)) (by kernel_rfl) (W.z1c [[0, 0, 0, 0], y6, y8, y10] y19 e20 (Gp (some b15)) 4 4 p9 f18 rfl) ?_
  rintro _ w10 ⟨S10, u5b, rfl, z10, p10, u29, u5c⟩
  refine AnyG.last [6] (Fc S10 w10 []) (by decide) ?_
  have f21 : Els (kInt .u64) S10 w10 ([.u 0, .u 0, .u 0, .u 0] : List Value) [0, 0, 0, 0] := (Els.cons (K := (kInt .u64)) (vs := [.u 0]) (x := 0) rfl (Els.cons (K := (kInt .u64)) (vs := [.u 0]) (x := 0) rfl (Els.cons (K := (kInt .u64)) (vs := [.u 0]) (x := 0) rfl (Els.cons (K := (kInt .u64)) (vs := [.u 0]) (x := 0) rfl Els.nil))))
  refine Op_.stA 25 (.tmp 4) (.tmp 18) 0 1 b3 4 u5b p10 rfl rfl (AnyG.ss (i := 6) (by kernel_rfl) (by kernel_rfl)) (by kernel_rfl) (by kernel_rfl) (by kernel_rfl) u5c (Els.one u29) ?_
  intro w11 z11 p11
  refine AnyG.last [] (Fc S10 w11 []) (by decide) ?_
  refine AnyG.done (by kernel_rfl) ?_ _
  have p11 := p11.dp 0
  refine Goes.rn 2 [] Ja1 ?_
  have z12 : Ext S10 w11 S10 (w11).drew := Ext.draw
  have p12 := p11.draw
  refine Goes.drawn (s := [2, 3, 4]) (F := Fc S10 (w11).drew ([] ++ (rowCells b3 u5b ++ []))) 7 5 (by kernel_rfl) (by kernel_rfl) (by kernel_rfl) (by kernel_rfl) ?_
  generalize (w11).drew = w12 at z12 p12 ⊢
  refine AnyG.ldN (i := 0) 25 (.tmp 4) 19 25 ⟨b3, 0, none⟩ u5b (by kernel_rfl) (by kernel_rfl) (Fc.here (Cells.app trivial (Cells.app (Cells.row (p12.mem 0 rfl).cell) trivial))) (by kernel_rfl) (by kernel_rfl) (by rw [u5c]; kernel_rfl) (fun _ h => h.2.right.left.rowsAt (fun q v hq => by rw [Nat.zero_add]; exact hq)) ?_
  refine bind_some' h fun y22 e23 h => ?_
  refine Op_.call (.call { callee := .value (.func 113), args := #[(.const (.int .u8 48)), (.const (.int .u8 57))], argTypes := #[5, 5] }) 20 25 113 #[.int .u8 48, .int .u8 57] (AnyG.cs (i := 1) (by kernel_rfl) (by kernel_rfl)) (by kernel_rfl) (W.z1a 48 57 y22 e23  p12 ) ?_
  rintro _ w13 ⟨S13, u5d, rfl, z13, p13, u5e, u5f⟩
  refine AnyG.next z13 (Cells.app trivial (Cells.app (Cells.row (p13.mem 0 rfl).cell) trivial)) ?_
  have l24 := Els.len1 (u29.ext ((z11.trans z12).trans z13)) u5c rfl
  obtain rfl := els_lit4 (u29.ext ((z11.trans z12).trans z13)) u5c
  have l25 := Els.len1 u5e u5f rfl
  obtain rfl := els_lit4 u5e u5f
  have f27 : Els (kArr 4 (kInt .u64)) S13 w13 ((U4 y19 (U4 y22 [])) : List Value) [y19, y22] := by exact (Els.cons (K := (kArr 4 (kInt .u64))) (vs := (U4 y19 [])) (x := y19) ⟨l24, els_mk4 l24⟩ (Els.cons (K := (kArr 4 (kInt .u64))) (vs := (U4 y22 [])) (x := y22) ⟨l25, els_mk4 l25⟩ Els.nil))
  refine Op_.made (.buildSlice 151 2 #[(0, (.tmp 19)), (1, (.tmp 20))]) 21 151 (fun b => .slice (Gp (some b)) 2 2) 25 ((U4 y19 (U4 y22 [])) : List Value) p13 (AnyG.vs (i := 2) (by kernel_rfl) (by kernel_rfl)) (by kernel_rfl) ?_
  intro b26 w14 z14 p14
  have p14 : Hp nz wz S13 w14 (((some b26), .row 25 ((U4 y19 (U4 y22 [])) : List Value) (2 * (kArr 4 (kInt .u64)).size) 0) :: (some b3, .row 25 ((U4 y19 []) : List Value) 4 0) :: (some b1, .row 25 [.u 0, .u 0, .u 0, .u 0] 4 0) :: Lr) := p14
  refine AnyG.last [3, 4] (Fc S13 w14 []) (by decide) ?_
  obtain ⟨S15, z15, p15, f29⟩ := p14.freezeRd 0 rfl (f27.ext z14) (by decide)
  refine AnyG.refz z15 ?_
  refine bind_some' h fun y30 e31 h => ?_
  refine Op_.call (kc 102 [21] #[151]) 22 25 102 #[.slice (Gp (some b26)) 2 2] (AnyG.cs (i := 3) (by kernel_rfl) (by kernel_rfl)) (by kernel_rfl) (W.z1c [y19, y22] y30 e31 (Gp (some b26)) 2 2 p15 f29 rfl) ?_
  rintro _ w16 ⟨S16, u5g, rfl, z16, p16, u5h, u5i⟩
  refine AnyG.last [4] (Fc S16 w16 []) (by decide) ?_
  refine Op_.stA 25 (.tmp 4) (.tmp 22) 0 1 b3 4 u5g p16 rfl u5c (AnyG.ss (i := 4) (by kernel_rfl) (by kernel_rfl)) (by kernel_rfl) (by kernel_rfl) (by kernel_rfl) u5i (Els.one u5h) ?_
  intro w17 z17 p17
  refine AnyG.last [] (Fc S16 w17 []) (by decide) ?_
  refine AnyG.done (by kernel_rfl) ?_ _
  have p17 := p17.dp 0
  refine Goes.rn 8 [(29, .int .u8 x0), (30, .int .u8 (iand .u8 x0 32)), (31, .bool (decide (iand .u8 x0 32 = 0)))] Ja3 ?_
  refine ite_some h (fun h32 h => ?_) (fun h32 h => ?_)
  ·
   rw [decide_eq_true h32]
   refine Goes.rn 2 [] Ja4 ?_
   refine Op_.ldN 25 (.tmp 4) 32 25 ⟨b3, 0, none⟩ u5g Goes.v (by kernel_rfl) (by kernel_rfl) (by rw [u5i]; kernel_rfl) (At_all (p17.mem 0 rfl)) ?_
   refine bind_some' h fun y33 e34 h => ?_
   refine Goes.cal (kc 89 [32] #[25]) 33 25 89 _ (W.z17 y30 y33 e34 u5g p17 (u5h.ext z17) u5i) ?_
   rintro _ w18 ⟨S18, u5j, rfl, z18, p18, u5k, u5l⟩
   refine Op_.stA 25 (.tmp 4) (.tmp 33) 0 0 b3 4 u5j p18 rfl u5i Goes.s (by kernel_rfl) (by kernel_rfl) (by kernel_rfl) u5l (Els.one u5k) ?_
   intro w19 z19 p19
   refine Goes.rn 3 [] Ja6 ?_
   refine Op_.ldN 25 (.tmp 4) 34 25 ⟨b3, 0, none⟩ u5j Goes.v (by kernel_rfl) (by kernel_rfl) (by rw [u5l]; kernel_rfl) (At_all (p19.mem 0 rfl)) ?_
   have f35 : Els (kInt .u64) S18 w19 ([.u 0, .u 0, .u 0, .u 0] : List Value) [0, 0, 0, 0] := (Els.cons (K := (kInt .u64)) (vs := [.u 0]) (x := 0) rfl (Els.cons (K := (kInt .u64)) (vs := [.u 0]) (x := 0) rfl (Els.cons (K := (kInt .u64)) (vs := [.u 0]) (x := 0) rfl (Els.cons (K := (kInt .u64)) (vs := [.u 0]) (x := 0) rfl Els.nil))))
   refine Op_.stA 25 (.tmp 2) (.tmp 34) 0 1 b1 4 u5j p19 rfl rfl Goes.s (by kernel_rfl) (by kernel_rfl) (by kernel_rfl) u5l (Els.one (u5k.ext z19)) ?_
   intro w20 z20 p20
   refine Goes.rn 2 [(3, .bool true)] Ja5 ?_
   obtain rfl := Option.some.inj h
   have p20 := p20.dp 0
   exact Goes.ret (fn := Tryd.f103) (by kernel_rfl) (v := .tuple #[.agg u5j.toArray, .bool true]) (results_n2 (fn := Tryd.f103) (a := .cell 2 25) (b := .tmp 3) (by kernel_rfl) (resV_cell ⟨b1, 0, none⟩ (by kernel_rfl) (run_loadN u5j (by kernel_rfl) (by rw [u5l]; kernel_rfl) (At_all (p20.mem 0 rfl)))) (resV_tmp (by kernel_rfl))) ⟨S18, u5j, rfl, ((((((((((((((((((((Ext.refl S0 w0).trans z2).trans z3).trans z4).trans z5).trans z6).trans z7).trans z8).trans z9).trans z10).trans z11).trans z12).trans z13).trans z14).trans z15).trans z16).trans z17).trans z18).trans z19).trans z20), p20.drop, (u5k.ext (z19.trans z20)), u5l⟩
  ·
   rw [decide_eq_false h32]
   refine Goes.rn 4 [] Ja6 ?_
   refine Op_.ldN 25 (.tmp 4) 34 25 ⟨b3, 0, none⟩ u5g Goes.v (by kernel_rfl) (by kernel_rfl) (by rw [u5i]; kernel_rfl) (At_all (p17.mem 0 rfl)) ?_
   have f36 : Els (kInt .u64) S16 w17 ([.u 0, .u 0, .u 0, .u 0] : List Value) [0, 0, 0, 0] := (Els.cons (K := (kInt .u64)) (vs := [.u 0]) (x := 0) rfl (Els.cons (K := (kInt .u64)) (vs := [.u 0]) (x := 0) rfl (Els.cons (K := (kInt .u64)) (vs := [.u 0]) (x := 0) rfl (Els.cons (K := (kInt .u64)) (vs := [.u 0]) (x := 0) rfl Els.nil))))
   refine Op_.stA 25 (.tmp 2) (.tmp 34) 0 1 b1 4 u5g p17 rfl rfl Goes.s (by kernel_rfl) (by kernel_rfl) (by kernel_rfl) u5i (Els.one (u5h.ext z17)) ?_
   intro w21 z21 p21
   refine Goes.rn 2 [(3, .bool true)] Ja5 ?_
   obtain rfl := Option.some.inj h
   have p21 := p21.dp 0
   exact Goes.ret (fn := Tryd.f103) (by kernel_rfl) (v := .tuple #[.agg u5g.toArray, .bool true]) (results_n2 (fn := Tryd.f103) (a := .cell 2 25) (b := .tmp 3) (by kernel_rfl) (resV_cell ⟨b1, 0, none⟩ (by kernel_rfl) (run_loadN u5g (by kernel_rfl) (by rw [u5i]; kernel_rfl) (At_all (p21.mem 0 rfl)))) (resV_tmp (by kernel_rfl))) ⟨S16, u5g, rfl, ((((((((((((((((((Ext.refl S0 w0).trans z2).trans z3).trans z4).trans z5).trans z6).trans z7).trans z8).trans z9).trans z10).trans z11).trans z12).trans z13).trans z14).trans z15).trans z16).trans z17).trans z21), p21.drop, (u5h.ext (z17.trans z21)), u5i⟩
 ·
  rw [decide_eq_false h5]
  refine Goes.rn 8 [(10, .bool (decide (ior .u8 x0 32 = 100))), (9, .bool (decide (ior .u8 x0 32 = 100)))] Ja8 ?_
  refine ite_some h (fun h37 h => ?_) (fun h37 h => ?_)
  ·
   rw [decide_eq_true h37]
   refine Goes.rn 3 [] Ja1 ?_
   have z22 : Ext S0 w3 S0 (w3).drew := Ext.draw
   have p22 := p3.draw
   refine Goes.drawn (s := [2, 3, 4]) (F := Fc S0 (w3).drew [(⟨b3, 0, none⟩, .u 0), (⟨b3, 1, none⟩, .u 0), (⟨b3, 2, none⟩, .u 0), (⟨b3, 3, none⟩, .u 0)]) 7 5 (by kernel_rfl) (by kernel_rfl) (by kernel_rfl) (by kernel_rfl) ?_
   generalize (w3).drew = w22 at z22 p22 ⊢
   refine AnyG.ldN (i := 0) 25 (.tmp 4) 19 25 ⟨b3, 0, none⟩ [.u 0, .u 0, .u 0, .u 0] (by kernel_rfl) (by kernel_rfl) (Fc.here (p22.cs [(0, 0, 4)])) (by kernel_rfl) (by kernel_rfl) (by kernel_rfl) (fun _ h j v hj => by match j, hj with | 0, rfl => exact h.2.at_ 0 rfl | 1, rfl => exact h.2.at_ 1 rfl | 2, rfl => exact h.2.at_ 2 rfl | 3, rfl => exact h.2.at_ 3 rfl | (j + 4), hj => simp at hj) ?_
   refine bind_some' h fun y38 e39 h => ?_
   refine Op_.call (.call { callee := .value (.func 113), args := #[(.const (.int .u8 48)), (.const (.int .u8 57))], argTypes := #[5, 5] }) 20 25 113 #[.int .u8 48, .int .u8 57] (AnyG.cs (i := 1) (by kernel_rfl) (by kernel_rfl)) (by kernel_rfl) (W.z1a 48 57 y38 e39  p22 ) ?_
   rintro _ w23 ⟨S23, u5m, rfl, z23, p23, u5n, u5o⟩
   refine AnyG.next z23 ⟨(p23.c 0 0), (p23.c 0 1), (p23.c 0 2), (p23.c 0 3), trivial⟩ ?_
   have l40 := Els.len1 u5n u5o rfl
   obtain rfl := els_lit4 u5n u5o
   have f42 : Els (kArr 4 (kInt .u64)) S23 w23 ((.u 0 :: .u 0 :: .u 0 :: .u 0 :: U4 y38 []) : List Value) [[0, 0, 0, 0], y38] := by exact (Els.cons (K := (kArr 4 (kInt .u64))) (vs := [.u 0, .u 0, .u 0, .u 0]) (x := [0, 0, 0, 0]) ⟨rfl, (Els.cons (K := (kInt .u64)) (vs := [.u 0]) (x := 0) rfl (Els.cons (K := (kInt .u64)) (vs := [.u 0]) (x := 0) rfl (Els.cons (K := (kInt .u64)) (vs := [.u 0]) (x := 0) rfl (Els.cons (K := (kInt .u64)) (vs := [.u 0]) (x := 0) rfl Els.nil))))⟩ (Els.cons (K := (kArr 4 (kInt .u64))) (vs := (U4 y38 [])) (x := y38) ⟨l40, els_mk4 l40⟩ Els.nil))
   refine Op_.made (.buildSlice 151 2 #[(0, (.tmp 19)), (1, (.tmp 20))]) 21 151 (fun b => .slice (Gp (some b)) 2 2) 25 ((.u 0 :: .u 0 :: .u 0 :: .u 0 :: U4 y38 []) : List Value) p23 (AnyG.vs (i := 2) (by kernel_rfl) (by kernel_rfl)) (by kernel_rfl) ?_
   intro b41 w24 z24 p24
   have p24 : Hp nz wz S23 w24 (((some b41), .row 25 ((.u 0 :: .u 0 :: .u 0 :: .u 0 :: U4 y38 []) : List Value) (2 * (kArr 4 (kInt .u64)).size) 0) :: (some b3, .row 25 [.u 0, .u 0, .u 0, .u 0] 4 0) :: (some b1, .row 25 [.u 0, .u 0, .u 0, .u 0] 4 0) :: Lr) := p24
   refine AnyG.last [3, 4] (Fc S23 w24 []) (by decide) ?_
   obtain ⟨S25, z25, p25, f44⟩ := p24.freezeRd 0 rfl (f42.ext z24) (by decide)
   refine AnyG.refz z25 ?_
   refine bind_some' h fun y45 e46 h => ?_
   refine Op_.call (kc 102 [21] #[151]) 22 25 102 #[.slice (Gp (some b41)) 2 2] (AnyG.cs (i := 3) (by kernel_rfl) (by kernel_rfl)) (by kernel_rfl) (W.z1c [[0, 0, 0, 0], y38] y45 e46 (Gp (some b41)) 2 2 p25 f44 rfl) ?_
   rintro _ w26 ⟨S26, u5p, rfl, z26, p26, u5q, u5r⟩
   refine AnyG.last [4] (Fc S26 w26 []) (by decide) ?_
   have f47 : Els (kInt .u64) S26 w26 ([.u 0, .u 0, .u 0, .u 0] : List Value) [0, 0, 0, 0] := (Els.cons (K := (kInt .u64)) (vs := [.u 0]) (x := 0) rfl (Els.cons (K := (kInt .u64)) (vs := [.u 0]) (x := 0) rfl (Els.cons (K := (kInt .u64)) (vs := [.u 0]) (x := 0) rfl (Els.cons (K := (kInt .u64)) (vs := [.u 0]) (x := 0) rfl Els.nil))))
   refine Op_.stA 25 (.tmp 4) (.tmp 22) 0 1 b3 4 u5p p26 rfl rfl (AnyG.ss (i := 4) (by kernel_rfl) (by kernel_rfl)) (by kernel_rfl) (by kernel_rfl) (by kernel_rfl) u5r (Els.one u5q) ?_
   intro w27 z27 p27
   refine AnyG.last [] (Fc S26 w27 []) (by decide) ?_
   refine AnyG.done (by kernel_rfl) ?_ _
   have p27 := p27.dp 0
   refine Goes.rn 8 [(29, .int .u8 x0), (30, .int .u8 (iand .u8 x0 32)), (31, .bool (decide (iand .u8 x0 32 = 0)))] Ja3 ?_
   refine ite_some h (fun h48 h => ?_) (fun h48 h => ?_)
   ·
    rw [decide_eq_true h48]
    refine Goes.rn 2 [] Ja4 ?_
    refine Op_.ldN 25 (.tmp 4) 32 25 ⟨b3, 0, none⟩ u5p Goes.v (by kernel_rfl) (by kernel_rfl) (by rw [u5r]; kernel_rfl) (At_all (p27.mem 0 rfl)) ?_
    refine bind_some' h fun y49 e50 h => ?_
    refine Goes.cal (kc 89 [32] #[25]) 33 25 89 _ (W.z17 y45 y49 e50 u5p p27 (u5q.ext z27) u5r) ?_
    rintro _ w28 ⟨S28, u5s, rfl, z28, p28, u5t, u5u⟩
    refine Op_.stA 25 (.tmp 4) (.tmp 33) 0 0 b3 4 u5s p28 rfl u5r Goes.s (by kernel_rfl) (by kernel_rfl) (by kernel_rfl) u5u (Els.one u5t) ?_
    intro w29 z29 p29
    refine Goes.rn 3 [] Ja6 ?_
    refine Op_.ldN 25 (.tmp 4) 34 25 ⟨b3, 0, none⟩ u5s Goes.v (by kernel_rfl) (by kernel_rfl) (by rw [u5u]; kernel_rfl) (At_all (p29.mem 0 rfl)) ?_
    have f51 : Els (kInt .u64) S28 w29 ([.u 0, .u 0, .u 0, .u 0] : List Value) [0, 0, 0, 0] := (Els.cons (K := (kInt .u64)) (vs := [.u 0]) (x := 0) rfl (Els.cons (K := (kInt .u64)) (vs := [.u 0]) (x := 0) rfl (Els.cons (K := (kInt .u64)) (vs := [.u 0]) (x := 0) rfl (Els.cons (K := (kInt .u64)) (vs := [.u 0]) (x := 0) rfl Els.nil))))
    refine Op_.stA 25 (.tmp 2) (.tmp 34) 0 1 b1 4 u5s p29 rfl rfl Goes.s (by kernel_rfl) (by kernel_rfl) (by kernel_rfl) u5u (Els.one (u5t.ext z29)) ?_
    intro w30 z30 p30
    refine Goes.rn 2 [(3, .bool true)] Ja5 ?_
    obtain rfl := Option.some.inj h
    have p30 := p30.dp 0
    exact Goes.ret (fn := Tryd.f103) (by kernel_rfl) (v := .tuple #[.agg u5s.toArray, .bool true]) (results_n2 (fn := Tryd.f103) (a := .cell 2 25) (b := .tmp 3) (by kernel_rfl) (resV_cell ⟨b1, 0, none⟩ (by kernel_rfl) (run_loadN u5s (by kernel_rfl) (by rw [u5u]; kernel_rfl) (At_all (p30.mem 0 rfl)))) (resV_tmp (by kernel_rfl))) ⟨S28, u5s, rfl, ((((((((((((Ext.refl S0 w0).trans z2).trans z3).trans z22).trans z23).trans z24).trans z25).trans z26).trans z27).trans z28).trans z29).trans z30), p30.drop, (u5t.ext (z29.trans z30)), u5u⟩
   ·
    rw [decide_eq_false h48]
    refine Goes.rn 4 [] Ja6 ?_
    refine Op_.ldN 25 (.tmp 4) 34 25 ⟨b3, 0, none⟩ u5p Goes.v (by kernel_rfl) (by kernel_rfl) (by rw [u5r]; kernel_rfl) (At_all (p27.mem 0 rfl)) ?_
    have f52 : Els (kInt .u64) S26 w27 ([.u 0, .u 0, .u 0, .u 0] : List Value) [0, 0, 0, 0] := (Els.cons (K := (kInt .u64)) (vs := [.u 0]) (x := 0) rfl (Els.cons (K := (kInt .u64)) (vs := [.u 0]) (x := 0) rfl (Els.cons (K := (kInt .u64)) (vs := [.u 0]) (x := 0) rfl (Els.cons (K := (kInt .u64)) (vs := [.u 0]) (x := 0) rfl Els.nil))))
    refine Op_.stA 25 (.tmp 2) (.tmp 34) 0 1 b1 4 u5p p27 rfl rfl Goes.s (by kernel_rfl) (by kernel_rfl) (by kernel_rfl) u5r (Els.one (u5q.ext z27)) ?_
    intro w31 z31 p31
    refine Goes.rn 2 [(3, .bool true)] Ja5 ?_
    obtain rfl := Option.some.inj h
    have p31 := p31.dp 0
    exact Goes.ret (fn := Tryd.f103) (by kernel_rfl) (v := .tuple #[.agg u5p.toArray, .bool true]) (results_n2 (fn := Tryd.f103) (a := .cell 2 25) (b := .tmp 3) (by kernel_rfl) (resV_cell ⟨b1, 0, none⟩ (by kernel_rfl) (run_loadN u5p (by kernel_rfl) (by rw [u5r]; kernel_rfl) (At_all (p31.mem 0 rfl)))) (resV_tmp (by kernel_rfl))) ⟨S26, u5p, rfl, ((((((((((Ext.refl S0 w0).trans z2).trans z3).trans z22).trans z23).trans z24).trans z25).trans z26).trans z27).trans z31), p31.drop, (u5q.ext (z27.trans z31)), u5r⟩
  ·
   rw [decide_eq_false h37]
   refine Goes.rn 7 [(12, .bool (decide (ior .u8 x0 32 = 115))), (11, .bool (decide (ior .u8 x0 32 = 115)))] Ja9 ?_
   refine ite_some h (fun h53 h => ?_) (fun h53 h => ?_)
   ·
    rw [decide_eq_true h53]
    refine Goes.rn 4 [] Jab ?_
    refine bind_some' h fun y54 e55 h => ?_
    refine Goes.cal (.call { callee := .value (.func 113), args := #[(.const (.int .u8 9)), (.const (.int .u8 10))], argTypes := #[5, 5] }) 23 25 113 _ (W.z1a 9 10 y54 e55  p3 ) ?_
    rintro _ w32 ⟨S32, u5v, rfl, z32, p32, u5w, u5x⟩
    refine bind_some' h fun y56 e57 h => ?_
    refine Goes.cal (.call { callee := .value (.func 113), args := #[(.const (.int .u8 12)), (.const (.int .u8 13))], argTypes := #[5, 5] }) 24 25 113 _ (W.z1a 12 13 y56 e57  p32 ) ?_
    rintro _ w33 ⟨S33, u5y, rfl, z33, p33, u5z, u60⟩
    refine bind_some' h fun y58 e59 h => ?_
    refine Goes.cal (.call { callee := .value (.func 90), args := #[(.const (.int .u8 32))], argTypes := #[5] }) 25 25 90 _ (W.z16 32 y58 e59  p33 ) ?_
    rintro _ w34 ⟨S34, u61, rfl, z34, p34, u62, u63⟩
    have l60 := Els.len1 (u5w.ext (z33.trans z34)) u5x rfl
    obtain rfl := els_lit4 (u5w.ext (z33.trans z34)) u5x
    have l61 := Els.len1 (u5z.ext z34) u60 rfl
    obtain rfl := els_lit4 (u5z.ext z34) u60
    have l62 := Els.len1 u62 u63 rfl
    obtain rfl := els_lit4 u62 u63
    have f64 : Els (kArr 4 (kInt .u64)) S34 w34 ((U4 y54 (U4 y56 (U4 y58 []))) : List Value) [y54, y56, y58] := by exact (Els.cons (K := (kArr 4 (kInt .u64))) (vs := (U4 y54 [])) (x := y54) ⟨l60, els_mk4 l60⟩ (Els.cons (K := (kArr 4 (kInt .u64))) (vs := (U4 y56 [])) (x := y56) ⟨l61, els_mk4 l61⟩ (Els.cons (K := (kArr 4 (kInt .u64))) (vs := (U4 y58 [])) (x := y58) ⟨l62, els_mk4 l62⟩ Els.nil)))
    refine Op_.made (.buildSlice 151 3 #[(0, (.tmp 23)), (1, (.tmp 24)), (2, (.tmp 25))]) 26 151 (fun b => .slice (Gp (some b)) 3 3) 25 ((U4 y54 (U4 y56 (U4 y58 []))) : List Value) p34 Goes.v (by kernel_rfl) ?_
    intro b63 w35 z35 p35
    have p35 : Hp nz wz S34 w35 (((some b63), .row 25 ((U4 y54 (U4 y56 (U4 y58 []))) : List Value) (3 * (kArr 4 (kInt .u64)).size) 0) :: (some b3, .row 25 [.u 0, .u 0, .u 0, .u 0] 4 0) :: (some b1, .row 25 [.u 0, .u 0, .u 0, .u 0] 4 0) :: Lr) := p35
    obtain ⟨S36, z36, p36, f66⟩ := p35.freezeRd 0 rfl (f64.ext z35) (by decide)
    refine bind_some' h fun y67 e68 h => ?_
    refine Goes.cal (kc 102 [26] #[151]) 27 25 102 _ (W.z1c [y54, y56, y58] y67 e68 (Gp (some b63)) 3 3 p36 f66 rfl) ?_
    rintro _ w37 ⟨S37, u64, rfl, z37, p37, u65, u66⟩
    have p37 := p37.dp 0
    have f69 : Els (kInt .u64) S37 w37 ([.u 0, .u 0, .u 0, .u 0] : List Value) [0, 0, 0, 0] := (Els.cons (K := (kInt .u64)) (vs := [.u 0]) (x := 0) rfl (Els.cons (K := (kInt .u64)) (vs := [.u 0]) (x := 0) rfl (Els.cons (K := (kInt .u64)) (vs := [.u 0]) (x := 0) rfl (Els.cons (K := (kInt .u64)) (vs := [.u 0]) (x := 0) rfl Els.nil))))
    refine Op_.stA 25 (.tmp 4) (.tmp 27) 0 0 b3 4 u64 p37 rfl rfl Goes.s (by kernel_rfl) (by kernel_rfl) (by kernel_rfl) u66 (Els.one u65) ?_
    intro w38 z38 p38
    refine Goes.rn 9 [(29, .int .u8 x0), (30, .int .u8 (iand .u8 x0 32)), (31, .bool (decide (iand .u8 x0 32 = 0)))] Ja3 ?_
    refine ite_some h (fun h70 h => ?_) (fun h70 h => ?_)
    ·
     rw [decide_eq_true h70]
     refine Goes.rn 2 [] Ja4 ?_
     refine Op_.ldN 25 (.tmp 4) 32 25 ⟨b3, 0, none⟩ u64 Goes.v (by kernel_rfl) (by kernel_rfl) (by rw [u66]; kernel_rfl) (At_all (p38.mem 0 rfl)) ?_
     refine bind_some' h fun y71 e72 h => ?_
     refine Goes.cal (kc 89 [32] #[25]) 33 25 89 _ (W.z17 y67 y71 e72 u64 p38 (u65.ext z38) u66) ?_
     rintro _ w39 ⟨S39, u67, rfl, z39, p39, u68, u69⟩
     refine Op_.stA 25 (.tmp 4) (.tmp 33) 0 0 b3 4 u67 p39 rfl u66 Goes.s (by kernel_rfl) (by kernel_rfl) (by kernel_rfl) u69 (Els.one u68) ?_
     intro w40 z40 p40
     refine Goes.rn 3 [] Ja6 ?_
     refine Op_.ldN 25 (.tmp 4) 34 25 ⟨b3, 0, none⟩ u67 Goes.v (by kernel_rfl) (by kernel_rfl) (by rw [u69]; kernel_rfl) (At_all (p40.mem 0 rfl)) ?_
     have f73 : Els (kInt .u64) S39 w40 ([.u 0, .u 0, .u 0, .u 0] : List Value) [0, 0, 0, 0] := (Els.cons (K := (kInt .u64)) (vs := [.u 0]) (x := 0) rfl (Els.cons (K := (kInt .u64)) (vs := [.u 0]) (x := 0) rfl (Els.cons (K := (kInt .u64)) (vs := [.u 0]) (x := 0) rfl (Els.cons (K := (kInt .u64)) (vs := [.u 0]) (x := 0) rfl Els.nil))))
     refine Op_.stA 25 (.tmp 2) (.tmp 34) 0 1 b1 4 u67 p40 rfl rfl Goes.s (by kernel_rfl) (by kernel_rfl) (by kernel_rfl) u69 (Els.one (u68.ext z40)) ?_
     intro w41 z41 p41
     refine Goes.rn 2 [(3, .bool true)] Ja5 ?_
     obtain rfl := Option.some.inj h
     have p41 := p41.dp 0
     exact Goes.ret (fn := Tryd.f103) (by kernel_rfl) (v := .tuple #[.agg u67.toArray, .bool true]) (results_n2 (fn := Tryd.f103) (a := .cell 2 25) (b := .tmp 3) (by kernel_rfl) (resV_cell ⟨b1, 0, none⟩ (by kernel_rfl) (run_loadN u67 (by kernel_rfl) (by rw [u69]; kernel_rfl) (At_all (p41.mem 0 rfl)))) (resV_tmp (by kernel_rfl))) ⟨S39, u67, rfl, (((((((((((((Ext.refl S0 w0).trans z2).trans z3).trans z32).trans z33).trans z34).trans z35).trans z36).trans z37).trans z38).trans z39).trans z40).trans z41), p41.drop, (u68.ext (z40.trans z41)), u69⟩
    ·
     rw [decide_eq_false h70]
     refine Goes.rn 4 [] Ja6 ?_
     refine Op_.ldN 25 (.tmp 4) 34 25 ⟨b3, 0, none⟩ u64 Goes.v (by kernel_rfl) (by kernel_rfl) (by rw [u66]; kernel_rfl) (At_all (p38.mem 0 rfl)) ?_
     have f74 : Els (kInt .u64) S37 w38 ([.u 0, .u 0, .u 0, .u 0] : List Value) [0, 0, 0, 0] := (Els.cons (K := (kInt .u64)) (vs := [.u 0]) (x := 0) rfl (Els.cons (K := (kInt .u64)) (vs := [.u 0]) (x := 0) rfl (Els.cons (K := (kInt .u64)) (vs := [.u 0]) (x := 0) rfl (Els.cons (K := (kInt .u64)) (vs := [.u 0]) (x := 0) rfl Els.nil))))
     refine Op_.stA 25 (.tmp 2) (.tmp 34) 0 1 b1 4 u64 p38 rfl rfl Goes.s (by kernel_rfl) (by kernel_rfl) (by kernel_rfl) u66 (Els.one (u65.ext z38)) ?_
     intro w42 z42 p42
     refine Goes.rn 2 [(3, .bool true)] Ja5 ?_
     obtain rfl := Option.some.inj h
     have p42 := p42.dp 0
     exact Goes.ret (fn := Tryd.f103) (by kernel_rfl) (v := .tuple #[.agg u64.toArray, .bool true]) (results_n2 (fn := Tryd.f103) (a := .cell 2 25) (b := .tmp 3) (by kernel_rfl) (resV_cell ⟨b1, 0, none⟩ (by kernel_rfl) (run_loadN u64 (by kernel_rfl) (by rw [u66]; kernel_rfl) (At_all (p42.mem 0 rfl)))) (resV_tmp (by kernel_rfl))) ⟨S37, u64, rfl, (((((((((((Ext.refl S0 w0).trans z2).trans z3).trans z32).trans z33).trans z34).trans z35).trans z36).trans z37).trans z38).trans z42), p42.drop, (u65.ext (z38.trans z42)), u66⟩
   ·
    rw [decide_eq_false h53]
    refine Goes.rn 6 [] Jae ?_
    refine Goes.ldN 25 (.tmp 4) 28 25 ⟨b3, 0, none⟩ [.u 0, .u 0, .u 0, .u 0] (p3.pa 0 0) ?_
    refine Op_.st 25 (.tmp 2) (.tmp 28) 0 1 b1 0 (.agg #[.u 0, .u 0, .u 0, .u 0]) [.u 0, .u 0, .u 0, .u 0] p3 rfl Goes.s (by kernel_rfl) (by kernel_rfl) (by kernel_rfl) (by kernel_rfl) (Nat.zero_le _) (by simp only [List.length_cons, List.length_nil]; omega) (by simp [Value.oneCell']) ?_
    intro w43 z43 p43
    have p43 : Hp nz wz S0 w43 ((some b3, .row 25 [.u 0, .u 0, .u 0, .u 0] 4 0) :: (some b1, .row 25 [.u 0, .u 0, .u 0, .u 0] 4 0) :: Lr) := p43
    refine Goes.rn 2 [(3, .bool false)] Jad ?_
    obtain rfl := Option.some.inj h
    have p43 := p43.dp 0
    exact Goes.ret (fn := Tryd.f103) (by kernel_rfl) (v := .tuple #[.agg #[.u 0, .u 0, .u 0, .u 0], .bool false]) (results_n2 (fn := Tryd.f103) (a := .cell 2 25) (b := .tmp 3) (by kernel_rfl) (resV_cell ⟨b1, 0, none⟩ (by kernel_rfl) (run_loadN [.u 0, .u 0, .u 0, .u 0] (by kernel_rfl) (by kernel_rfl) (p43.pa 0 0))) (resV_tmp (by kernel_rfl))) ⟨S0, ([.u 0, .u 0, .u 0, .u 0] : List Value), rfl, ((((Ext.refl S0 w0).trans z2).trans z3).trans z43), p43.drop, (show Els (kInt .u64) S0 w43 ([.u 0, .u 0, .u 0, .u 0] : List Value) _ from (Els.cons (K := (kInt .u64)) (vs := [.u 0]) (x := 0) rfl (Els.cons (K := (kInt .u64)) (vs := [.u 0]) (x := 0) rfl (Els.cons (K := (kInt .u64)) (vs := [.u 0]) (x := 0) rfl (Els.cons (K := (kInt .u64)) (vs := [.u 0]) (x := 0) rfl Els.nil))))), rfl⟩

def Q7l := sub [1, 1] B121
def Jaf : List Item := [.code Q7l]
def Q7m := sub [1, 0, 1] B121
def Jag : List Item := .code Q7m :: Jaf
def Q7n := sub [1, 0, 0] B121
def Jah : List Item := .inRegion (opsOf Q7n) [3, 4, 5] :: Jag
def Q7o := sub [1, 0, 1, 0, 1] B121
def Jai : List Item := .code Q7o :: Jaf
def Q7p := sub [1, 1, 1] B121
def Jaj : List Item := [.code Q7p]

def Post.z1h (r : Int) (v : Value) (w' : World) : Prop :=
 ∃ S', v = .int .u8 r ∧ Ext S0 w0 S' w' ∧ Hp nz wz S' w' (Lr)

theorem W.z1h (x0 : Int) (r : Int) (h : M.syntax_lower x0 = some r) {nz wz S0 w0 Lr} [Gw nz wz] (p0 : Hp nz wz S0 w0 (Lr)) :
  Calls Tryd.prog 121 #[.int .u8 x0] w0 (Rets (Post.z1h nz wz S0 w0 Lr r)) := by
 refine calls_of_goes (fn := Tryd.f121) (c := B121) (by kernel_rfl) (by kernel_rfl) 12 (by kernel_rfl) ?_
 refine Goes.jp 13 [(0, .int .u8 x0)] (fun junk => ?_)
 delta M.syntax_lower at h
 refine Goes.rn 10 [(2, .int .u8 0), (3, .int .u8 x0), (4, .bool (decide (x0 ≥ 65))), (5, .bool (decide (x0 ≥ 65)))] Jah ?_
 refine ite_some h (fun h1 h => ?_) (fun h1 h => ?_)
 ·
  rw [decide_eq_true h1]
  refine Goes.rn 4 [(6, .int .u8 x0), (7, .bool (decide (x0 ≤ 70))), (8, .bool (decide (x0 ≤ 70)))] Jag ?_
  refine ite_some h (fun h2 h => ?_) (fun h2 h => ?_)
  ·
   rw [decide_eq_true h2]
   refine Goes.rn 8 [(9, .int .u8 x0), (10, .int .u8 (wr .u8 (x0 + 97))), (11, .int .u8 (wr .u8 ((wr .u8 (x0 + 97)) - 65))), (2, .int .u8 (wr .u8 ((wr .u8 (x0 + 97)) - 65)))] Jai ?_
   obtain rfl := Option.some.inj h
   exact Goes.rt Tryd.f121 (.int .u8 (wr .u8 ((wr .u8 (x0 + 97)) - 65))) ⟨S0, rfl, (Ext.refl S0 w0), p0⟩
  ·
   rw [decide_eq_false h2]
   refine Goes.rn 7 [(12, .int .u8 x0), (2, .int .u8 x0)] Jaj ?_
   obtain rfl := Option.some.inj h
   exact Goes.rt Tryd.f121 (.int .u8 x0) ⟨S0, rfl, (Ext.refl S0 w0), p0⟩
 ·
  rw [decide_eq_false h1]
  refine Goes.rn 11 [(6, undef), (7, undef), (8, .bool false), (12, .int .u8 x0), (2, .int .u8 x0)] Jaj ?_
  obtain rfl := Option.some.inj h
  exact Goes.rt Tryd.f121 (.int .u8 x0) ⟨S0, rfl, (Ext.refl S0 w0), p0⟩

def Q7q := sub [1, 1] B63
def Jak : List Item := [.code Q7q]
def Q7r := sub [1, 0] B63
def Jal : List Item := .inRegion (opsOf Q7r) [2, 3] :: Jak

def Post.z1i (r : Int) (v : Value) (w' : World) : Prop :=
 ∃ S', v = .i r ∧ Ext S0 w0 S' w' ∧ Hp nz wz S' w' (Lr)

theorem W.z1i (x0 : ByteArray) (x1 : Int) (r : Int) (h : M.stringslite_IndexByte x0 x1 = some r) {nz wz S0 w0 Lr} [Gw nz wz] (p0 : Hp nz wz S0 w0 (Lr)) :
  Calls Tryd.prog 63 #[.string x0, .int .u8 x1] w0 (Rets (Post.z1i nz wz S0 w0 Lr r)) := by
 refine calls_of_goes (fn := Tryd.f63) (c := B63) (by kernel_rfl) (by kernel_rfl) 6 (by kernel_rfl) ?_
 refine Goes.jp 8 [(0, .string x0), (1, .int .u8 x1)] (fun junk => ?_)
 delta M.stringslite_IndexByte at h
 refine Goes.rn 8 [(4, .i 0), (5, .string x0), (6, .int .u8 x1)] Jal ?_
 refine Op_.ext { callee := .value (.func 77), args := #[(.tmp 5), (.tmp 6)], argTypes := #[9, 5] } 7 3 77 #[.string x0, .int .u8 x1] Tryd.f77 Extern.BytealgIndexByte.indexByte (.i (ixB x0 x1)) Goes.v (by kernel_rfl) (by kernel_rfl) (by kernel_rfl) (by kernel_rfl) (by kernel_rfl) (by kernel_rfl) (ixB_run _ _) ?_
 refine Goes.rn 2 [(4, .i (ixB x0 x1))] Jak ?_
 obtain rfl := Option.some.inj h
 exact Goes.rt Tryd.f63 (.i (ixB x0 x1)) ⟨S0, rfl, (Ext.refl S0 w0), p0⟩

def Q7s := sub [1, 1] B45
def Jam : List Item := [.code Q7s]
def Q7t := sub [1, 0] B45
def Jan : List Item := .inRegion (opsOf Q7t) [2, 3] :: Jam

def Post.z1j (r : Int) (v : Value) (w' : World) : Prop :=
 ∃ S', v = .i r ∧ Ext S0 w0 S' w' ∧ Hp nz wz S' w' (Lr)

theorem W.z1j (x0 : ByteArray) (x1 : Int) (r : Int) (h : M.strings_IndexByte x0 x1 = some r) {nz wz S0 w0 Lr} [Gw nz wz] (p0 : Hp nz wz S0 w0 (Lr)) :
  Calls Tryd.prog 45 #[.string x0, .int .u8 x1] w0 (Rets (Post.z1j nz wz S0 w0 Lr r)) := by
 refine calls_of_goes (fn := Tryd.f45) (c := B45) (by kernel_rfl) (by kernel_rfl) 6 (by kernel_rfl) ?_
 refine Goes.jp 8 [(0, .string x0), (1, .int .u8 x1)] (fun junk => ?_)
 delta M.strings_IndexByte at h
 refine Goes.rn 8 [(4, .i 0), (5, .string x0), (6, .int .u8 x1)] Jan ?_
 refine bind_some' h fun y1 e2 h => ?_
 refine Goes.cal (kc 63 [5, 6] #[9, 5]) 7 3 63 _ (W.z1i x0 x1 y1 e2  p0 ) ?_
 rintro _ w2 ⟨S2, rfl, z2, p2⟩
 refine Goes.rn 2 [(4, .i y1)] Jam ?_
 obtain rfl := Option.some.inj h
 exact Goes.rt Tryd.f45 (.i y1) ⟨S2, rfl, ((Ext.refl S0 w0).trans z2), p2⟩

def Q7u := sub [1, 1] B114
def Jao : List Item := [.code Q7u]
def Q7v := sub [1, 0] B114
def Jap : List Item := .inRegion (opsOf Q7v) [1, 2, 3] :: Jao

def Post.z1k (r : Int) (v : Value) (w' : World) : Prop :=
 ∃ S', v = .i r ∧ Ext S0 w0 S' w' ∧ Hp nz wz S' w' (Lr)

theorem W.z1k (x0 : Int) (r : Int) (h : M.syntax_nibble x0 = some r) {nz wz S0 w0 Lr} [Gw nz wz] (p0 : Hp nz wz S0 w0 (Lr)) :
  Calls Tryd.prog 114 #[.int .u8 x0] w0 (Rets (Post.z1k nz wz S0 w0 Lr r)) := by
 refine calls_of_goes (fn := Tryd.f114) (c := B114) (by kernel_rfl) (by kernel_rfl) 5 (by kernel_rfl) ?_
 refine Goes.jp 6 [(0, .int .u8 x0)] (fun junk => ?_)
 delta M.syntax_nibble at h
 refine Goes.rn 7 [(2, .i 0), (3, .int .u8 x0)] Jap ?_
 refine bind_some' h fun y1 e2 h => ?_
 refine Goes.cal (kc 121 [3] #[5]) 4 5 121 _ (W.z1h x0 y1 e2  p0 ) ?_
 rintro _ w2 ⟨S2, rfl, z2, p2⟩
 refine bind_some' h fun y3 e4 h => ?_
 refine Goes.cal (.call { callee := .value (.func 45), args := #[(.const (.string ⟨#[48, 49, 50, 51, 52, 53, 54, 55, 56, 57, 97, 98, 99, 100, 101, 102]⟩)), (.tmp 4)], argTypes := #[9, 5] }) 5 3 45 _ (W.z1j (⟨#[48, 49, 50, 51, 52, 53, 54, 55, 56, 57, 97, 98, 99, 100, 101, 102]⟩ : ByteArray) y1 y3 e4  p2 ) ?_
 rintro _ w3 ⟨S3, rfl, z3, p3⟩
 refine Goes.rn 2 [(2, .i y3)] Jao ?_
 obtain rfl := Option.some.inj h
 exact Goes.rt Tryd.f114 (.i y3) ⟨S3, rfl, (((Ext.refl S0 w0).trans z2).trans z3), p3⟩

def Q7w := sub [1, 1] B104
def Jaq : List Item := [.code Q7w]
def Q7x := sub [1, 0] B104
def Jar : List Item := .inRegion (opsOf Q7x) [1, 2, 3] :: Jaq
def Q7y := sub [1, 1, 1] B104
def Jas : List Item := [.code Q7y]
def Q7z := sub [1, 1, 0, 1] B104
def Jat : List Item := .code Q7z :: Jas
def Q80 := sub [1, 1, 0, 1, 0, 1] B104
def Jau : List Item := .code Q80 :: Jas
def Q81 := sub [1, 1, 0, 1, 0, 0] B104
def Jav : List Item := .inRegion (opsOf Q81) [4, 5] :: Jau
def Q82 := sub [1, 1, 0, 1, 0, 1, 1] B104
def Jaw : List Item := .code Q82 :: Jas
def Q83 := sub [1, 1, 1, 1] B104
def Jax : List Item := [.code Q83]
def Q84 := sub [1, 1, 1, 0] B104
def Jay : List Item := .inRegion (opsOf Q84) [3, 4, 5, 6, 7] :: Jax
def Jaz : List Item := .inRegion (opsOf Q84) [7] :: Jax
def Q85 := sub [1, 1, 1, 1, 1] B104
def Jb0 : List Item := [.code Q85]

def Post.z1l (gx0 : Nat) (r : Int × T68) (v : Value) (w' : World) : Prop :=
 ∃ S' u49, v = .int .u8 r.1 ∧ Ext S0 w0 S' w' ∧ Hp nz wz S' w' ((some gx0, .row 69 [.string r.2.s, .i r.2.at_, .i r.2.deep, u49] 4 0) :: Lr) ∧ PtO kT72 S' w' u49 r.2.bad

theorem W.z1l (x0v : T68) (r : Int × T68) (h : M.syntax_parser_digit x0v = some r) {nz wz S0 w0 Lr} [Gw nz wz] (gx0 u4b) (p0 : Hp nz wz S0 w0 ((some gx0, .row 69 [.string x0v.s, .i x0v.at_, .i x0v.deep, u4b] 4 0) :: Lr)) (u4c : PtO kT72 S0 w0 u4b x0v.bad) :
  Calls Tryd.prog 104 #[(pt gx0 0)] w0 (Rets (Post.z1l nz wz S0 w0 Lr gx0 r)) := by
 refine calls_of_goes (fn := Tryd.f104) (c := B104) (by kernel_rfl) (by kernel_rfl) 23 (by kernel_rfl) ?_
 refine Goes.jp 24 [(0, (pt gx0 0))] (fun junk => ?_)
 delta M.syntax_parser_digit at h
 refine Goes.rn 7 [(2, .int .u8 0), (4, (pt gx0 0))] Jar ?_
 refine bind_some' h fun y2 e3 h => ?_
 refine Goes.cal (kc 65 [4] #[66]) 5 5 65 _ (W.z11 x0v y2 e3 gx0 u4b p0 u4c) ?_
 rintro _ w2 ⟨S2, u4g, rfl, z2, p2, u4h⟩
 refine bind_some' h fun y4 e5 h => ?_
 refine Goes.cal (kc 114 [5] #[5]) 6 3 114 _ (W.z1k y2.1 y4 e5  p2 ) ?_
 rintro _ w3 ⟨S3, rfl, z3, p3⟩
 refine Goes.rn 8 [(3, .i y4), (7, .i y4), (8, .bool (decide (y4 < 0)))] Jat ?_
 refine ite_some h (fun h6 h => ?_) (fun h6 h => ?_)
 ·
  rw [decide_eq_true h6]
  refine Goes.rn 7 [(9, (pt gx0 0)), (10, (pt gx0 0)), (11, (pt gx0 0)), (12, (pt gx0 1))] Jav ?_
  refine Goes.ld 3 (.tmp 12) 13 3 ⟨gx0, 1, none⟩ (.i y2.2.at_) (p3.c 0 1) ?_
  refine bind_some' h fun y7 e8 h => ?_
  refine Goes.cal (kc 31 [9, 13] #[66, 3]) 14 28 31 _ (W.z13 y2.2 y2.2.at_ y7 e8 gx0 u4g p3 (u4h.ext z3)) ?_
  rintro _ w4 ⟨S4, u6a, u6b, u6c, u6d, rfl, z4, p4, u6e, u6f, rfl, u6g⟩
  refine Goes.rn 5 [(2, .int .u8 0)] Jaw ?_
  obtain rfl := Option.some.inj h
  exact Goes.rt Tryd.f104 (.int .u8 0) ⟨S4, u6d, rfl, ((((Ext.refl S0 w0).trans z2).trans z3).trans z4), p4, u6g⟩
 ·
  rw [decide_eq_false h6]
  refine Goes.rn 7 [(15, (pt gx0 0)), (16, (pt gx0 0)), (17, (pt gx0 1))] Jay ?_
  refine Goes.ld 3 (.tmp 17) 18 3 ⟨gx0, 1, none⟩ (.i y2.2.at_) (p3.c 0 1) ?_
  refine Goes.rn 3 [(19, .i (wr .i64 (y2.2.at_ + 1))), (20, (pt gx0 0)), (21, (pt gx0 1))] Jaz ?_
  refine Op_.st 3 (.tmp 21) (.tmp 19) 0 0 gx0 1 (.i (wr .i64 (y2.2.at_ + 1))) [.i (wr .i64 (y2.2.at_ + 1))] p3 rfl Goes.s (by kernel_rfl) (by kernel_rfl) (by kernel_rfl) (by kernel_rfl) (Nat.zero_le _) (by simp only [List.length_cons, List.length_nil]; omega) (by simp [Value.oneCell']) ?_
  intro w5 z5 p5
  have p5 : Hp nz wz S3 w5 ((some gx0, .row 69 [.string y2.2.s, .i (wr .i64 (y2.2.at_ + 1)), .i y2.2.deep, u4g] 4 0) :: Lr) := p5
  refine Goes.rn 7 [(22, .i y4), (23, .int .u8 (wr .u8 y4)), (2, .int .u8 (wr .u8 y4))] Jb0 ?_
  obtain rfl := Option.some.inj h
  exact Goes.rt Tryd.f104 (.int .u8 (wr .u8 y4)) ⟨S3, u4g, rfl, ((((Ext.refl S0 w0).trans z2).trans z3).trans z5), p5, (u4h.ext (z3.trans z5))⟩

def Q86 := sub [1] B105
def Jb1 : List Item := [.code Q86]
def Q87 := sub [0] B105
def Jb2 : List Item := .inRegion (opsOf Q87) [0] :: Jb1
def Q88 := sub [1, 1] B105
def Jb3 : List Item := [.code Q88]
def Q89 := sub [1, 0] B105
def Jb4 : List Item := .inRegion (opsOf Q89) [1, 2, 3, 4] :: Jb3
def Jb5 : List Item := .inRegion (opsOf Q89) [3, 4] :: Jb3
def Jb6 : List Item := .inRegion (opsOf Q89) [4] :: Jb3

def Post.z1m (r : T126) (v : Value) (w' : World) : Prop :=
 ∃ S', v = (ag (U4 r.set_ [.int .u8 r.b, .bool r.single])) ∧ Ext S0 w0 S' w' ∧ Hp nz wz S' w' (Lr) ∧ r.set_.length = 4

theorem W.z1m (x0 : Int) (r : T126) (h : M.syntax_of x0 = some r) {nz wz S0 w0 Lr} [Gw nz wz] (p0 : Hp nz wz S0 w0 (Lr)) :
  Calls Tryd.prog 105 #[.int .u8 x0] w0 (Rets (Post.z1m nz wz S0 w0 Lr r)) := by
 refine calls_of_goes (fn := Tryd.f105) (c := B105) (by kernel_rfl) (by kernel_rfl) 6 (by kernel_rfl) ?_
 refine Goes.jp 7 [(0, .int .u8 x0)] (fun junk => ?_)
 delta M.syntax_of at h
 refine Goes.rn 2 [] Jb2 ?_
 refine Op_.alloc 127 2 0 (.agg #[.u 0, .u 0, .u 0, .u 0, .int .u8 0, .bool false]) [.u 0, .u 0, .u 0, .u 0, .int .u8 0, .bool false] p0 Goes.v (by kernel_rfl) (by kernel_rfl) ?_
 intro b1 w2 z2 p2
 refine Goes.rn 4 [(3, .int .u8 x0)] Jb4 ?_
 refine bind_some' h fun y3 e4 h => ?_
 refine Goes.cal (kc 90 [3] #[5]) 4 25 90 _ (W.z16 x0 y3 e4  p2 ) ?_
 rintro _ w3 ⟨S3, u6h, rfl, z3, p3, u6i, u6j⟩
 refine Goes.rn 1 [(5, .int .u8 x0)] Jb5 ?_
 have l5 := Els.len1 u6i u6j rfl
 obtain rfl := els_lit4 u6i u6j
 refine Goes.rn 1 [(6, (ag (U4 y3 [.int .u8 x0, .bool true])))] Jb6 ?_
 refine Op_.st 127 (.tmp 2) (.tmp 6) 0 0 b1 0 (ag (U4 y3 [.int .u8 x0, .bool true])) (U4 y3 [.int .u8 x0, .bool true]) p3 rfl Goes.s (by kernel_rfl) (by kernel_rfl) (by kernel_rfl) (by kernel_rfl) (Nat.zero_le _) (by simp only [List.length_cons, List.length_nil]; omega) (by simp [Value.oneCell']) ?_
 intro w4 z4 p4
 have p4 : Hp nz wz S3 w4 ((some b1, .row 127 (U4 y3 [.int .u8 x0, .bool true]) 6 0) :: Lr) := p4
 refine Goes.rn 1 [] Jb3 ?_
 obtain rfl := Option.some.inj h
 exact Goes.ret (fn := Tryd.f105) (by kernel_rfl) (v := (ag (U4 y3 [.int .u8 x0, .bool true]))) (results_n1 (fn := Tryd.f105) (a := .cell 2 127) (by kernel_rfl) (resV_cell ⟨b1, 0, none⟩ (by kernel_rfl) (run_loadN (U4 y3 [.int .u8 x0, .bool true]) (by kernel_rfl) (by kernel_rfl) (p4.pa 0 0)))) ⟨S3, rfl, ((((Ext.refl S0 w0).trans z2).trans z3).trans z4), p4.drop, l5⟩

def Q8a := sub [1, 1, 1, 1] B93
def Jb7 : List Item := [.code Q8a]
def Jb8 : List Item := .inBlock 0 :: Jb7
def Q8b := sub [1, 1, 1, 0, 0, 1, 1, 1, 1, 1, 1, 1] B93
def Jb9 : List Item := .code Q8b :: Jb8
def Q8c := sub [1, 1, 1, 0, 0, 1, 1, 1, 1, 1, 1, 1, 0, 1] B93
def Jba : List Item := .code Q8c :: Jb8
def Q8d := sub [1, 1, 1, 0, 0, 1, 1, 1, 1, 1, 1, 1, 0, 0] B93
def Jbb : List Item := .inRegion (opsOf Q8d) [4, 5] :: Jba
def Q8e := sub [1, 1, 1, 0, 0, 1, 1, 1, 1, 1, 1, 1, 0, 1, 1] B93
def Jbc : List Item := .code Q8e :: Jb8
def Q8f := sub [1, 1, 1, 0, 0, 1, 1, 1, 1, 1, 1, 1, 0, 1, 0] B93
def Jbd : List Item := .inRegion (opsOf Q8f) [1] :: Jbc
def Q8g := sub [1, 1, 1, 1, 1] B93
def Jbe : List Item := [.code Q8g]
def Q8h := sub [1, 1, 1, 1, 0] B93
def Jbf : List Item := .inRegion (opsOf Q8h) [3, 4, 5, 6, 7] :: Jbe
def Jbg : List Item := .inRegion (opsOf Q8h) [7] :: Jbe
def Q8i := sub [1, 1, 1, 1, 1, 1] B93
def Jbh : List Item := [.code Q8i]
def Q8j := sub [1, 1, 1, 1, 1, 0] B93
def Jbi : List Item := .inRegion (opsOf Q8j) [1, 2] :: Jbh

def Post.z1n (gx0 : Nat) (r : T126 × T68) (v : Value) (w' : World) : Prop :=
 ∃ S' u49, v = (ag (U4 r.1.set_ [.int .u8 r.1.b, .bool r.1.single])) ∧ Ext S0 w0 S' w' ∧ Hp nz wz S' w' ((some gx0, .row 69 [.string r.2.s, .i r.2.at_, .i r.2.deep, u49] 4 0) :: Lr) ∧ r.1.set_.length = 4 ∧ PtO kT72 S' w' u49 r.2.bad

def L.z1o (gx0 : Nat) : T126 × Int × Bool × T68 → (T126 × T68) → Prop := fun ⟨x2v, x3, x66, e0v⟩ r => ∀ S1 w1, Ext S0 w0 S1 w1 → ∀ gx2 u49 (_ : Hp nz wz S1 w1 ((some gx2, .row 127 (U4 x2v.set_ [.int .u8 x2v.b, .bool x2v.single]) 6 0) :: (some gx0, .row 69 [.string e0v.s, .i e0v.at_, .i e0v.deep, u49] 4 0) :: Lr)) (_ : x2v.set_.length = 4) (_ : PtO kT72 S1 w1 u49 e0v.bad) (junk : Nat → Value),
 Goes Tryd.prog (base 93) Jb9 ⟨lfr 90 [(0, (pt gx0 0)), (2, (pt gx2 0)), (3, .int .u8 x3), (66, .bool x66)] junk, []⟩ w1 (Done Tryd.prog 93 (Rets (Post.z1n nz wz S0 w0 Lr gx0 r)))

theorem W.z1o {nz wz S0 w0 Lr} [Gw nz wz] (gx0 : Nat) : ∀ a r, M.syntax_parser_escape_l0 a = some r → L.z1o nz wz S0 w0 Lr gx0 a r := by
 intro ⟨x2v, x3, x66, e0v⟩ r h S1 w1 hx gx2 u49 p1 u4n u4a junk
 rw [M.syntax_parser_escape_l0] at h
 try dsimp only at h
 refine ite_some h (fun h30 h => ?_) (fun h30 h => ?_)
 ·
  rw [h30]
  refine Goes.rn 7 [(74, (pt gx0 0)), (75, (pt gx0 0)), (76, (pt gx0 0)), (77, (pt gx0 1))] Jbb ?_
  refine Goes.ld 3 (.tmp 77) 78 3 ⟨gx0, 1, none⟩ (.i e0v.at_) (p1.c 1 1) ?_
  have p1 := p1.fr 1
  refine bind_some' h fun y31 e32 h => ?_
  refine Goes.cal (kc 31 [74, 78] #[66, 3]) 79 28 31 _ (W.z13 e0v e0v.at_ y31 e32 gx0 u49 p1 u4a) ?_
  rintro _ w21 ⟨S21, u6k, u6l, u6m, u6n, rfl, z21, p21, u6o, u6p, rfl, u6q⟩
  refine Goes.rn 4 [(80, .agg #[.u 0, .u 0, .u 0, .u 0, .int .u8 0, .bool false])] Jbd ?_
  refine Op_.st 127 (.tmp 2) (.tmp 80) 0 1 gx2 0 (.agg #[.u 0, .u 0, .u 0, .u 0, .int .u8 0, .bool false]) [.u 0, .u 0, .u 0, .u 0, .int .u8 0, .bool false] p21 rfl Goes.s (by kernel_rfl) (by kernel_rfl) (by kernel_rfl) (by kernel_rfl) (Nat.zero_le _) (by simp only [List.length_cons, List.length_nil]; omega) (by simp [Value.oneCell']) ?_
  intro w22 z22 p22
  have p22 : Hp nz wz S21 w22 ((some gx0, .row 69 [.string y31.2.s, .i y31.2.at_, .i y31.2.deep, u6n] 4 0) :: (some gx2, .row 127 [.u 0, .u 0, .u 0, .u 0, .int .u8 0, .bool false] 6 0) :: Lr) := p22
  refine Goes.rn 1 [] Jbc ?_
  obtain rfl := Option.some.inj h
  have p22 := (p22.fr 0).fr 1
  exact Goes.ret (fn := Tryd.f93) (by kernel_rfl) (v := .agg #[.u 0, .u 0, .u 0, .u 0, .int .u8 0, .bool false]) (results_n1 (fn := Tryd.f93) (a := .cell 2 127) (by kernel_rfl) (resV_cell ⟨gx2, 0, none⟩ (by kernel_rfl) (run_loadN [.u 0, .u 0, .u 0, .u 0, .int .u8 0, .bool false] (by kernel_rfl) (by kernel_rfl) (p22.pa 0 0)))) ⟨S21, u6n, rfl, ((hx.trans z21).trans z22), p22.drop, rfl, (u6q.ext z22)⟩
 ·
  have u6r : x66 = false := by simpa using h30
  rw [u6r]
  refine Goes.rn 8 [(81, (pt gx0 0)), (82, (pt gx0 0)), (83, (pt gx0 1))] Jbf ?_
  refine Goes.ld 3 (.tmp 83) 84 3 ⟨gx0, 1, none⟩ (.i e0v.at_) (p1.c 1 1) ?_
  refine Goes.rn 3 [(85, .i (wr .i64 (e0v.at_ + 1))), (86, (pt gx0 0)), (87, (pt gx0 1))] Jbg ?_
  refine Op_.st 3 (.tmp 87) (.tmp 85) 0 1 gx0 1 (.i (wr .i64 (e0v.at_ + 1))) [.i (wr .i64 (e0v.at_ + 1))] p1 rfl Goes.s (by kernel_rfl) (by kernel_rfl) (by kernel_rfl) (by kernel_rfl) (Nat.zero_le _) (by simp only [List.length_cons, List.length_nil]; omega) (by simp [Value.oneCell']) ?_
  intro w23 z23 p23
  have p23 : Hp nz wz S1 w23 ((some gx2, .row 127 (U4 x2v.set_ [.int .u8 x2v.b, .bool x2v.single]) 6 0) :: (some gx0, .row 69 [.string e0v.s, .i (wr .i64 (e0v.at_ + 1)), .i e0v.deep, u49] 4 0) :: Lr) := p23
  refine Goes.rn 4 [(88, .int .u8 x3)] Jbi ?_
  refine bind_some' h fun y33 e34 h => ?_
  refine Goes.cal (kc 105 [88] #[5]) 89 127 105 _ (W.z1m x3 y33 e34  p23 ) ?_
  rintro _ w24 ⟨S24, rfl, z24, p24, u6s⟩
  refine Op_.st 127 (.tmp 2) (.tmp 89) 0 0 gx2 0 (ag (U4 y33.set_ [.int .u8 y33.b, .bool y33.single])) (U4 y33.set_ [.int .u8 y33.b, .bool y33.single]) p24 rfl Goes.s (by kernel_rfl) (by kernel_rfl) (by kernel_rfl) (by kernel_rfl) (Nat.zero_le _) (by simp only [List.length_cons, List.length_nil]; omega) (by simp [Value.oneCell']) ?_
  intro w25 z25 p25
  have p25 : Hp nz wz S24 w25 ((some gx2, .row 127 (U4 y33.set_ [.int .u8 y33.b, .bool y33.single]) 6 0) :: (some gx0, .row 69 [.string e0v.s, .i (wr .i64 (e0v.at_ + 1)), .i e0v.deep, u49] 4 0) :: Lr) := p25
  refine Goes.rn 1 [] Jbh ?_
  obtain rfl := Option.some.inj h
  exact Goes.ret (fn := Tryd.f93) (by kernel_rfl) (v := (ag (U4 y33.set_ [.int .u8 y33.b, .bool y33.single]))) (results_n1 (fn := Tryd.f93) (a := .cell 2 127) (by kernel_rfl) (resV_cell ⟨gx2, 0, none⟩ (by kernel_rfl) (run_loadN (U4 y33.set_ [.int .u8 y33.b, .bool y33.single]) (by kernel_rfl) (by kernel_rfl) (p25.pa 0 0)))) ⟨S24, u49, rfl, (((hx.trans z23).trans z24).trans z25), p25.drop, u6s, (u4a.ext ((z23.trans z24).trans z25))⟩

end

end Go.Gx
