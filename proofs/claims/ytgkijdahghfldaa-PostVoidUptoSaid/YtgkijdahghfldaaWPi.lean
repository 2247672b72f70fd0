import Derived.Test.YtgkijdahghfldaaWPib

set_option linter.unusedVariables false

set_option maxRecDepth 100000

set_option maxHeartbeats 4000000

namespace Go.Gx

open Go.RowKit Go.Proofs

variable (nz : Nat) (wz : World) (S0 : Fz) (w0 : World) (Lr : List Ent)

noncomputable section

def Q8i := sub [1, 1, 1, 1] B6
def Jau : List Item := [.code Q8i]
def Jav : List Item := .inBlock 0 :: Jau
def Q8j := sub [1, 1, 1, 0, 1, 0, 0] B6
def Jaw : List Item := .inLoop Q8j :: Jav
def Jax : List Item := .code Q8j :: Jaw
def Q8k := sub [1, 1, 1, 0, 1, 0, 0, 1] B6
def Jay : List Item := .code Q8k :: Jaw
def Q8l := sub [1, 1, 1, 0, 1, 0, 0, 0, 1] B6
def Jaz : List Item := .code Q8l :: Jay
def Q8m := sub [1, 1, 1, 0, 1, 0, 0, 1, 1] B6
def Jb0 : List Item := .code Q8m :: Jaw
def Jb1 : List Item := .inBlock 1 :: Jb0
def Q8n := sub [1, 1, 1, 0, 1, 0, 0, 1, 0, 0, 1, 1] B6
def Jb2 : List Item := .code Q8n :: Jb1
def Q8o := sub [1, 1, 1, 0, 1, 0, 0, 1, 0, 0, 1, 1, 1, 1] B6
def Jb3 : List Item := .code Q8o :: Jb1
def Jb4 : List Item := .inBlock 2 :: Jb3
def Q8p := sub [1, 1, 1, 0, 1, 0, 0, 1, 0, 0, 1, 1, 1, 0, 1, 0, 0] B6
def Jb5 : List Item := .inLoop Q8p :: Jb4
def Jb6 : List Item := .code Q8p :: Jb5
def Q8q := sub [1, 1, 1, 0, 1, 0, 0, 1, 0, 0, 1, 1, 1, 1, 1] B6
def Jb7 : List Item := .code Q8q :: Jb1
def Q8r := sub [1, 1, 1, 0, 1, 0, 0, 0, 0] B6
def Jb8 : List Item := .inRegion (opsOf Q8r) [5, 6, 7] :: Jaz
def Q8s := sub [1, 1, 1, 0, 1, 0, 0, 1, 0, 0, 1] B6
def Jb9 : List Item := .code Q8s :: Jb1
def Q8t := sub [1, 1, 1, 0, 1, 0, 0, 1, 0, 0, 0] B6
def Jba : List Item := .inRegion (opsOf Q8t) [2, 3, 4, 5] :: Jb9
def Q8u := sub [1, 1, 1, 0, 1, 0, 0, 1, 0, 0, 1, 0, 1] B6
def Jbb : List Item := .code Q8u :: Jb2
def Q8v := sub [1, 1, 1, 0, 1, 0, 0, 1, 0, 0, 1, 0, 0] B6
def Jbc : List Item := .inRegion (opsOf Q8v) [1, 2, 3] :: Jbb
def Q8w := sub [1, 1, 1, 0, 1, 0, 0, 1, 0, 0, 1, 0, 1, 0, 1] B6
def Jbd : List Item := .code Q8w :: Jb2
def Q8x := sub [1, 1, 1, 0, 1, 0, 0, 1, 0, 0, 1, 0, 1, 0, 0, 1] B6
def Jbe : List Item := .code Q8x :: Jbd
def Q8y := sub [1, 1, 1, 0, 1, 0, 0, 1, 0, 0, 1, 0, 1, 0, 0, 0] B6
def Jbf : List Item := .inRegion (opsOf Q8y) [2, 3, 4, 5, 6] :: Jbe
def Jbg : List Item := .inRegion (opsOf Q8y) [4, 5, 6] :: Jbe
def Jbh : List Item := .inRegion (opsOf Q8w) [2, 3, 4, 5] :: Jb2
def Jbi : List Item := .inRegion (opsOf Q8w) [4, 5] :: Jb2
def Q8z := sub [1, 1, 1, 0, 1, 0, 0, 1, 0, 0, 1, 0, 1, 0, 0, 1, 0, 1] B6
def Jbj : List Item := .code Q8z :: Jbd
def Q90 := sub [1, 1, 1, 0, 1, 0, 0, 1, 0, 0, 1, 0, 1, 1, 1] B6
def Jbk : List Item := .code Q90 :: Jb2
def Q91 := sub [1, 1, 1, 0, 1, 0, 0, 1, 0, 0, 1, 0, 1, 1, 0, 1] B6
def Jbl : List Item := .code Q91 :: Jbk
def Q92 := sub [1, 1, 1, 0, 1, 0, 0, 1, 0, 0, 1, 0, 1, 1, 0, 0] B6
def Jbm : List Item := .inRegion (opsOf Q92) [2, 3, 4, 5, 6] :: Jbl
def Jbn : List Item := .inRegion (opsOf Q92) [4, 5, 6] :: Jbl
def Jbo : List Item := .inRegion (opsOf Q90) [2, 3, 4, 5] :: Jb2
def Jbp : List Item := .inRegion (opsOf Q90) [4, 5] :: Jb2
def Q93 := sub [1, 1, 1, 0, 1, 0, 0, 1, 0, 0, 1, 0, 1, 1, 0, 1, 0, 1] B6
def Jbq : List Item := .code Q93 :: Jbk
def Q94 := sub [1, 1, 1, 1, 1] B6
def Jbr : List Item := [.code Q94]
def Q95 := sub [1, 1, 1, 1, 0] B6
def Jbs : List Item := .inRegion (opsOf Q95) [0, 1] :: Jbr
def Q96 := sub [1, 1, 1, 0, 1, 0, 0, 1, 0, 0, 1, 1, 1] B6
def Jbt : List Item := .code Q96 :: Jb1
def Q97 := sub [1, 1, 1, 0, 1, 0, 0, 1, 0, 0, 1, 1, 0] B6
def Jbu : List Item := .inRegion (opsOf Q97) [0, 1, 2] :: Jbt
def Q98 := sub [1, 1, 1, 0, 1, 0, 0, 1, 0, 0, 1, 1, 1, 0, 1, 0, 0, 1] B6
def Jbv : List Item := .code Q98 :: Jb5
def Q99 := sub [1, 1, 1, 0, 1, 0, 0, 1, 0, 0, 1, 1, 1, 0, 1, 0, 0, 0, 1] B6
def Jbw : List Item := .code Q99 :: Jbv
def Q9a := sub [1, 1, 1, 0, 1, 0, 0, 1, 0, 0, 1, 1, 1, 0, 1, 0, 0, 0, 0] B6
def Jbx : List Item := .inRegion (opsOf Q9a) [4, 5, 6] :: Jbw
def Q9b := sub [1, 1, 1, 0, 1, 0, 0, 1, 0, 0, 1, 1, 1, 0, 1, 0, 0, 1, 1] B6
def Jby : List Item := .code Q9b :: Jb5
def Jbz : List Item := .inBlock 3 :: Jby
def Q9c := sub [1, 1, 1, 0, 1, 0, 0, 1, 0, 0, 1, 1, 1, 0, 1, 0, 0, 1, 0, 0, 1] B6
def Jc0 : List Item := .code Q9c :: Jbz
def Q9d := sub [1, 1, 1, 0, 1, 0, 0, 1, 0, 0, 1, 1, 1, 0, 1, 0, 0, 1, 0, 0, 0] B6
def Jc1 : List Item := .inRegion (opsOf Q9d) [4, 5, 6, 7, 8, 9, 10, 11] :: Jc0
def Jc2 : List Item := .inRegion (opsOf Q9d) [6, 7, 8, 9, 10, 11] :: Jc0
def Jc3 : List Item := .inRegion (opsOf Q9d) [8, 9, 10, 11] :: Jc0
def Q9e := sub [1, 1, 1, 0, 1, 0, 0, 1, 0, 0, 1, 1, 1, 0, 1, 0, 0, 1, 0, 0, 1, 1] B6
def Jc4 : List Item := .code Q9e :: Jbz
def Q9f := sub [1, 1, 1, 0, 1, 0, 0, 1, 0, 0, 1, 1, 1, 0, 1, 0, 0, 1, 0, 0, 1, 0] B6
def Jc5 : List Item := .inRegion (opsOf Q9f) [4, 5, 6, 7, 8, 9, 10, 11] :: Jc4
def Jc6 : List Item := .inRegion (opsOf Q9f) [6, 7, 8, 9, 10, 11] :: Jc4
def Jc7 : List Item := .inRegion (opsOf Q9f) [8, 9, 10, 11] :: Jc4
def Q9g := sub [1, 1, 1, 0, 1, 0, 0, 1, 0, 0, 1, 1, 1, 0, 1, 0, 0, 1, 0, 0, 1, 1, 1] B6
def Jc8 : List Item := .code Q9g :: Jbz
def Q9h := sub [1, 1, 1, 0, 1, 0, 0, 1, 0, 0, 1, 1, 1, 0, 1, 0, 0, 1, 0, 0, 1, 1, 0] B6
def Jc9 : List Item := .code Q9h :: Jc8
def Q9i := sub [1, 1, 1, 0, 1, 0, 0, 1, 0, 0, 1, 1, 1, 0, 1, 0, 0, 1, 0, 0, 1, 1, 1, 0, 1] B6
def Jca : List Item := .code Q9i :: Jbz
def Q9j := sub [1, 1, 1, 0, 1, 0, 0, 1, 0, 0, 1, 1, 1, 1, 0] B6
def Jcb : List Item := .inRegion (opsOf Q9j) [1, 2, 3, 4, 5, 6, 7, 8, 9, 10, 11, 12, 13, 14, 15, 16, 17, 18, 19, 20] :: Jb7
def Jcc : List Item := .inRegion (opsOf Q9j) [3, 4, 5, 6, 7, 8, 9, 10, 11, 12, 13, 14, 15, 16, 17, 18, 19, 20] :: Jb7
def Jcd : List Item := .inRegion (opsOf Q9j) [6, 7, 8, 9, 10, 11, 12, 13, 14, 15, 16, 17, 18, 19, 20] :: Jb7
def Jce : List Item := .inRegion (opsOf Q9j) [7, 8, 9, 10, 11, 12, 13, 14, 15, 16, 17, 18, 19, 20] :: Jb7
def Jcf : List Item := .inRegion (opsOf Q9j) [12, 13, 14, 15, 16, 17, 18, 19, 20] :: Jb7
def Jcg : List Item := .inRegion (opsOf Q9j) [14, 15, 16, 17, 18, 19, 20] :: Jb7
def Jch : List Item := .inRegion (opsOf Q9j) [17, 18, 19, 20] :: Jb7
def Jci : List Item := .inRegion (opsOf Q9j) [20] :: Jb7
def Q9k := sub [1, 1, 1, 0, 1, 0, 0, 1, 0, 0, 1, 1, 1, 1, 1, 0, 1] B6
def Jcj : List Item := .code Q9k :: Jb1

def Post.z30 (r : Bool × (List (List (ByteArray × (List Int))))) (v : Value) (w' : World) : Prop :=
 ∃ S' Ee0, v = .bool r.1 ∧ Ext S0 w0 S' w' ∧ Hp nz wz S' w' ((none, .seg 65 Ee0) :: Lr) ∧ Pl (oMap Value.string (kSl (kInt .u64))) S' w' Ee0 r.2

def L.z31 : (List T53) × ByteArray × Nat × (List T58) × Int × (List (List (ByteArray × (List Int)))) → (Bool × (List (List (ByteArray × (List Int))))) → Prop := fun ⟨x0, x1, uas, uat, x7, e0⟩ r => ∀ S1 w1, Ext S0 w0 S1 w1 → ∀ Ax0 nx0 cx0 gx5 uau gx6 uav uaw uax uay Ee0 (_ : Hp nz wz S1 w1 ((some gx5, .row 69 [.map (some uau)] 1 0) :: (some gx6, .row 52 [.slice (Gp uav) uaw uax] 1 0) :: (uav, .row 59 uay (uax * kT58.size) 0) :: (none, .seg 65 Ee0) :: Lr)) (_ : Rd kT53 S1 w1 Ax0 cx0 x0) (_ : x0.length = nx0) (_ : Pa 65 S1 uas uau) (_ : Els kT58 S1 w1 uay uat) (_ : uat.length = uaw) (_ : Pl (oMap Value.string (kSl (kInt .u64))) S1 w1 Ee0 e0) (junk : Nat → Value),
 Goes Try.prog (base 6) Jax ⟨lfr 135 [(0, .slice Ax0 nx0 cx0), (1, .string x1), (5, (pt gx5 0)), (6, (pt gx6 0)), (7, .i x7)] junk, []⟩ w1 (Done Try.prog 6 (Rets (Post.z30 nz wz S0 w0 Lr r)))

def L.z32 : (List T53) × ByteArray × Nat × (List T58) × Int × Bool × (List (List (ByteArray × (List Int)))) → (Bool × (List (List (ByteArray × (List Int))))) → Prop := fun ⟨x0, x1, uas, uat, x7, x24, e0⟩ r => ∀ S1 w1, Ext S0 w0 S1 w1 → ∀ Ax0 nx0 cx0 gx5 uau gx6 uav uaw uax uay Ee0 (_ : Hp nz wz S1 w1 ((some gx5, .row 69 [.map (some uau)] 1 0) :: (some gx6, .row 52 [.slice (Gp uav) uaw uax] 1 0) :: (uav, .row 59 uay (uax * kT58.size) 0) :: (none, .seg 65 Ee0) :: Lr)) (_ : Rd kT53 S1 w1 Ax0 cx0 x0) (_ : x0.length = nx0) (_ : Pa 65 S1 uas uau) (_ : Els kT58 S1 w1 uay uat) (_ : uat.length = uaw) (_ : Pl (oMap Value.string (kSl (kInt .u64))) S1 w1 Ee0 e0) (junk : Nat → Value),
 Goes Try.prog (base 6) Jaz ⟨lfr 135 [(0, .slice Ax0 nx0 cx0), (1, .string x1), (5, (pt gx5 0)), (6, (pt gx6 0)), (7, .i x7), (24, .bool x24)] junk, []⟩ w1 (Done Try.prog 6 (Rets (Post.z30 nz wz S0 w0 Lr r)))

def L.z33 : (List T53) × ByteArray × Nat × (List T58) × Int × (List (List (ByteArray × (List Int)))) → (Bool × (List (List (ByteArray × (List Int))))) → Prop := fun ⟨x0, x1, uas, uat, x7, e0⟩ r => ∀ S1 w1, Ext S0 w0 S1 w1 → ∀ Ax0 nx0 cx0 gx5 uau gx6 uav uaw uax uay Ee0 (_ : Hp nz wz S1 w1 ((some gx5, .row 69 [.map (some uau)] 1 0) :: (some gx6, .row 52 [.slice (Gp uav) uaw uax] 1 0) :: (uav, .row 59 uay (uax * kT58.size) 0) :: (none, .seg 65 Ee0) :: Lr)) (_ : Rd kT53 S1 w1 Ax0 cx0 x0) (_ : x0.length = nx0) (_ : Pa 65 S1 uas uau) (_ : Els kT58 S1 w1 uay uat) (_ : uat.length = uaw) (_ : Pl (oMap Value.string (kSl (kInt .u64))) S1 w1 Ee0 e0) (junk : Nat → Value),
 Goes Try.prog (base 6) Jb2 ⟨lfr 135 [(0, .slice Ax0 nx0 cx0), (1, .string x1), (5, (pt gx5 0)), (6, (pt gx6 0)), (7, .i x7)] junk, []⟩ w1 (Done Try.prog 6 (Rets (Post.z30 nz wz S0 w0 Lr r)))

def L.z34 : (List T53) × ByteArray × Nat × (List T58) × Int × (List ByteArray) × Int × Int × (List (List (ByteArray × (List Int)))) → (Bool × (List (List (ByteArray × (List Int))))) → Prop := fun ⟨x0, x1, uas, uat, x7, x9, x10, x11, e0⟩ r => ∀ S1 w1, Ext S0 w0 S1 w1 → ∀ Ax0 nx0 cx0 gx5 uau gx6 uav uaw uax uay Gx9 nx9 cx9 u3u Ee0 (_ : Hp nz wz S1 w1 ((some gx5, .row 69 [.map (some uau)] 1 0) :: (some gx6, .row 52 [.slice (Gp uav) uaw uax] 1 0) :: (uav, .row 59 uay (uax * kT58.size) 0) :: (Gx9, .row 9 u3u (cx9 * kStr.size) 0) :: (none, .seg 65 Ee0) :: Lr)) (_ : Rd kT53 S1 w1 Ax0 cx0 x0) (_ : x0.length = nx0) (_ : Pa 65 S1 uas uau) (_ : Els kT58 S1 w1 uay uat) (_ : uat.length = uaw) (_ : Els kStr S1 w1 u3u x9) (_ : x9.length = nx9) (_ : Pl (oMap Value.string (kSl (kInt .u64))) S1 w1 Ee0 e0) (junk : Nat → Value),
 Goes Try.prog (base 6) Jb6 ⟨lfr 135 [(0, .slice Ax0 nx0 cx0), (1, .string x1), (5, (pt gx5 0)), (6, (pt gx6 0)), (7, .i x7), (9, .slice (Gp Gx9) nx9 cx9), (10, .i x10), (11, .i x11)] junk, []⟩ w1 (Done Try.prog 6 (Rets (Post.z30 nz wz S0 w0 Lr r)))

def L.z35 : (List T53) × ByteArray × Nat × (List T58) × Int × Bool × (List (List (ByteArray × (List Int)))) → (Bool × (List (List (ByteArray × (List Int))))) → Prop := fun ⟨x0, x1, uas, uat, x7, uaz, e0⟩ r => ∀ S1 w1, Ext S0 w0 S1 w1 → ∀ Ax0 nx0 cx0 gx5 uau gx6 uav uaw uax uay Ee0 (_ : Hp nz wz S1 w1 ((some gx5, .row 69 [.map (some uau)] 1 0) :: (some gx6, .row 52 [.slice (Gp uav) uaw uax] 1 0) :: (uav, .row 59 uay (uax * kT58.size) 0) :: (none, .seg 65 Ee0) :: Lr)) (_ : Rd kT53 S1 w1 Ax0 cx0 x0) (_ : x0.length = nx0) (_ : Pa 65 S1 uas uau) (_ : Els kT58 S1 w1 uay uat) (_ : uat.length = uaw) (_ : Pl (oMap Value.string (kSl (kInt .u64))) S1 w1 Ee0 e0) (junk : Nat → Value),
 Goes Try.prog (base 6) Jb7 ⟨lfr 135 [(0, .slice Ax0 nx0 cx0), (1, .string x1), (5, (pt gx5 0)), (6, (pt gx6 0)), (7, .i x7), (133, .bool uaz)] junk, []⟩ w1 (Done Try.prog 6 (Rets (Post.z30 nz wz S0 w0 Lr r)))

theorem W.z36 {nz wz S0 w0 Lr} : (∀ a r, M.tidepolelaw13_PostIndexes_l0 a = some r → (L.z31 nz wz S0 w0 Lr) a r) ∧ (∀ a r, M.tidepolelaw13_PostIndexes_l1 a = some r → (L.z32 nz wz S0 w0 Lr) a r) ∧ (∀ a r, M.tidepolelaw13_PostIndexes_l2 a = some r → (L.z33 nz wz S0 w0 Lr) a r) ∧ (∀ a r, M.tidepolelaw13_PostIndexes_l3 a = some r → (L.z34 nz wz S0 w0 Lr) a r) ∧ (∀ a r, M.tidepolelaw13_PostIndexes_l4 a = some r → (L.z35 nz wz S0 w0 Lr) a r) := by
 refine M.tidepolelaw13_PostIndexes_l0.mutual_partial_correctness (L.z31 nz wz S0 w0 Lr) (L.z32 nz wz S0 w0 Lr) (L.z33 nz wz S0 w0 Lr) (L.z34 nz wz S0 w0 Lr) (L.z35 nz wz S0 w0 Lr) ?_ ?_ ?_ ?_ ?_
 ·
  intro ub0 ub1 ⟨x0, x1, uas, uat, x7, e0⟩ r h S1 w1 hx Ax0 nx0 cx0 gx5 uau gx6 uav uaw uax uay Ee0 p1 fx0 lx0 ub2 ub3 ub4 fe0 junk
  try dsimp only at h
  subst lx0
  subst ub4
  refine Goes.rn 8 [(17, .i x7), (18, .slice Ax0 x0.length cx0), (19, .i (x0.length : Int)), (20, .bool (decide (x7 < (x0.length : Int)))), (21, .bool (decide (x7 < (x0.length : Int))))] Jb8 ?_
  refine ite_some h (fun h10 h => ?_) (fun h10 h => ?_)
  ·
   rw [decide_eq_true h10]
   refine Goes.rn 4 [(22, .i x7), (23, .bool (decide (x7 < 60))), (24, .bool (decide (x7 < 60)))] Jaz ?_
   exact Goes.jp 135 [(0, .slice Ax0 x0.length cx0), (1, .string x1), (5, (pt gx5 0)), (6, (pt gx6 0)), (7, .i x7), (24, .bool (decide (x7 < 60)))] (ub1 _ _ h _ _ hx Ax0 x0.length cx0 gx5 uau gx6 uav uat.length uax uay Ee0 p1 fx0 rfl ub2 ub3 rfl fe0)
  ·
   rw [decide_eq_false h10]
   refine Goes.rn 4 [(22, undef), (23, undef), (24, .bool false)] Jaz ?_
   exact Goes.jp 135 [(0, .slice Ax0 x0.length cx0), (1, .string x1), (5, (pt gx5 0)), (6, (pt gx6 0)), (7, .i x7), (24, .bool false)] (ub1 _ _ h _ _ hx Ax0 x0.length cx0 gx5 uau gx6 uav uat.length uax uay Ee0 p1 fx0 rfl ub2 ub3 rfl fe0)
 ·
  intro ub5 ub6 ⟨x0, x1, uas, uat, x7, x24, e0⟩ r h S1 w1 hx Ax0 nx0 cx0 gx5 uau gx6 uav uaw uax uay Ee0 p1 fx0 lx0 ub2 ub3 ub4 fe0 junk
  try dsimp only at h
  subst lx0
  subst ub4
  refine ite_some h (fun h14 h => ?_) (fun h14 h => ?_)
  ·
   rw [h14]
   refine Goes.rn 8 [(27, .slice Ax0 x0.length cx0), (28, .i x7)] Jba ?_
   refine guard_some' h fun g15 h => ?_
   refine guard_some' h fun g16 h => ?_
   refine Op_.ixR_n 46 (.tmp 27) (.tmp 28) 29 0 54 .i64 x7 (gi x0 x7) rfl rfl fx0 Goes.v (by kernel_rfl) (by kernel_rfl) (by kernel_rfl) (by kernel_rfl) g15 g16 ?_
   intro a17 _ f18 q19
   obtain ⟨_, _, rfl, rfl, ⟨_, _, rfl, rfl, rfl⟩⟩ := q19
   refine Goes.ldN 54 (.tmp 29) 30 54 a17 ([.i ((gi x0 x7).Do)] ++ ([.string ((gi x0 x7).Key)] ++ [.u ((gi x0 x7).N)])) (f18.cell) ?_
   refine Op_.alloc 54 8 0 (.agg #[.i 0, .string (⟨#[]⟩ : ByteArray), .u 0]) [.i 0, .string (⟨#[]⟩ : ByteArray), .u 0] p1 Goes.v (by kernel_rfl) (by kernel_rfl) ?_
   intro b20 w4 z4 p4
   refine Op_.st 54 (.tmp 8) (.tmp 30) 0 0 b20 0 (.agg #[.i ((gi x0 x7).Do), .string ((gi x0 x7).Key), .u ((gi x0 x7).N)]) [.i ((gi x0 x7).Do), .string ((gi x0 x7).Key), .u ((gi x0 x7).N)] p4 rfl Goes.s (by kernel_rfl) (by kernel_rfl) (by kernel_rfl) (by kernel_rfl) (Nat.zero_le _) (by simp only [List.length_cons, List.length_nil]; omega) (by simp [Value.oneCell']) ?_
   intro w5 z5 p5
   have p5 : Hp nz wz S1 w5 ((some b20, .row 54 [.i ((gi x0 x7).Do), .string ((gi x0 x7).Key), .u ((gi x0 x7).N)] 3 0) :: (some gx5, .row 69 [.map (some uau)] 1 0) :: (some gx6, .row 52 [.slice (Gp uav) uat.length uax] 1 0) :: (uav, .row 59 uay (uax * kT58.size) 0) :: (none, .seg 65 Ee0) :: Lr) := p5
   refine Goes.rn 5 [(31, (pt b20 0))] Jbc ?_
   refine Goes.ld 3 (.tmp 31) 32 3 ⟨b20, 0, none⟩ (.i ((gi x0 x7).Do)) (p5.c 0 0) ?_
   refine bind_some' h fun y22 e23 h => ?_
   refine Goes.cal (.call { callee := .value (.func 16), args := #[(.tmp 32), (.const (.int .i64 5))], argTypes := #[3, 3] }) 33 3 16 _ (W.z1 ((gi x0 x7).Do) 5 y22 e23  p5 ) ?_
   rintro _ w6 ⟨S6, rfl, z6, p6⟩
   refine Goes.rn 2 [(34, .bool (decide (y22 < 3)))] Jbb ?_
   refine ite_some h (fun h24 h => ?_) (fun h24 h => ?_)
   ·
    rw [decide_eq_true h24]
    refine Goes.rn 6 [(35, (pt gx5 0)), (36, (pt b20 1))] Jbf ?_
    refine Goes.ld 9 (.tmp 36) 37 9 ⟨b20, 1, none⟩ (.string ((gi x0 x7).Key)) (p6.c 0 1) ?_
    refine Goes.rn 1 [(38, (pt b20 2))] Jbg ?_
    refine Goes.ld 35 (.tmp 38) 39 35 ⟨b20, 2, none⟩ (.u ((gi x0 x7).N)) (p6.c 0 2) ?_
    have p6 := (p6.fr 4).fr 2
    refine bind_some' h fun y25 e26 h => ?_
    refine Goes.cal (kc 33 [35, 37, 39] #[47, 9, 35]) 40 25 33 _ (W.zr uas ((gi x0 x7).Key) ((gi x0 x7).N) e0 y25 e26 gx5 uau Ee0 p6 (ub2.ext ((z4.trans z5).trans z6)) (fe0.ext ((z4.trans z5).trans z6))) ?_
    rintro _ w7 ⟨S7, ub7, rfl, z7, p7, ub8⟩
    refine Goes.rn 2 [(41, .bool (!(decide (y25.1 = 0))))] Jbe ?_
    refine ite_some h (fun h27 h => ?_) (fun h27 h => ?_)
    ·
     rw [decide_eq_true h27]
     refine Goes.rn 5 [(42, (pt gx6 0)), (43, (pt b20 1))] Jbh ?_
     refine Goes.ld 9 (.tmp 43) 44 9 ⟨b20, 1, none⟩ (.string ((gi x0 x7).Key)) (p7.c 2 1) ?_
     refine Goes.rn 1 [(45, (pt b20 2))] Jbi ?_
     refine Goes.ld 35 (.tmp 45) 46 35 ⟨b20, 2, none⟩ (.u ((gi x0 x7).N)) (p7.c 2 2) ?_
     have p7 := (p7.fr 4).fr 4
     refine bind_some' h fun y28 e29 h => ?_
     refine Goes.cal (kc 34 [42, 44, 46] #[49, 9, 35]) 47 0 34 _ (W.z18 uat ((gi x0 x7).Key) ((gi x0 x7).N) y28 e29 gx6 uav uat.length uax uay p7 (ub3.ext (((z4.trans z5).trans z6).trans z7)) rfl) ?_
     rintro _ w8 ⟨S8, ub9, uba, ubb, ubc, rfl, z8, p8, ubd, rfl⟩
     have p8 := p8.dp 4
     refine Goes.rn 1 [] Jb2 ?_
     have p8 := (((p8.fr 3).fr 2).fr 2).fr 3
     exact Goes.jp 135 [(0, .slice Ax0 x0.length cx0), (1, .string x1), (5, (pt gx5 0)), (6, (pt gx6 0)), (7, .i x7)] (ub6 _ _ h _ _ (((((hx.trans z4).trans z5).trans z6).trans z7).trans z8) Ax0 x0.length cx0 gx5 uau gx6 ub9 y28.length ubb ubc ub7 p8 (fx0.ext ((((z4.trans z5).trans z6).trans z7).trans z8)) rfl (ub2.ext ((((z4.trans z5).trans z6).trans z7).trans z8)) ubd rfl (ub8.ext z8))
    ·
     rw [decide_eq_false h27]
     refine Goes.rn 5 [(4, .bool false)] Jbj ?_
     obtain rfl := Option.some.inj h
     have p7 := (((p7.dp 0).dp 1).dp 1).dp 1
     exact Goes.rt Try.f6 (.bool false) ⟨S7, ub7, rfl, ((((hx.trans z4).trans z5).trans z6).trans z7), p7, ub8⟩
   ·
    rw [decide_eq_false h24]
    refine Goes.rn 6 [(48, (pt gx5 0)), (49, (pt b20 1))] Jbm ?_
    refine Goes.ld 9 (.tmp 49) 50 9 ⟨b20, 1, none⟩ (.string ((gi x0 x7).Key)) (p6.c 0 1) ?_
    refine Goes.rn 1 [(51, (pt b20 2))] Jbn ?_
    refine Goes.ld 35 (.tmp 51) 52 35 ⟨b20, 2, none⟩ (.u ((gi x0 x7).N)) (p6.c 0 2) ?_
    have p6 := (p6.fr 4).fr 2
    refine bind_some' h fun y34 e35 h => ?_
    refine Goes.cal (kc 35 [48, 50, 52] #[47, 9, 35]) 53 25 35 _ (W.z28 uas ((gi x0 x7).Key) ((gi x0 x7).N) e0 y34 e35 gx5 uau Ee0 p6 (ub2.ext ((z4.trans z5).trans z6)) (fe0.ext ((z4.trans z5).trans z6))) ?_
    rintro _ w9 ⟨S9, ube, rfl, z9, p9, ubf⟩
    refine Goes.rn 2 [(54, .bool (!(decide (y34.1 = 0))))] Jbl ?_
    refine ite_some h (fun h36 h => ?_) (fun h36 h => ?_)
    ·
     rw [decide_eq_true h36]
     refine Goes.rn 5 [(55, (pt gx6 0)), (56, (pt b20 1))] Jbo ?_
     refine Goes.ld 9 (.tmp 56) 57 9 ⟨b20, 1, none⟩ (.string ((gi x0 x7).Key)) (p9.c 2 1) ?_
     refine Goes.rn 1 [(58, (pt b20 2))] Jbp ?_
     refine Goes.ld 35 (.tmp 58) 59 35 ⟨b20, 2, none⟩ (.u ((gi x0 x7).N)) (p9.c 2 2) ?_
     have p9 := (p9.fr 4).fr 4
     refine bind_some' h fun y37 e38 h => ?_
     refine Goes.cal (kc 36 [55, 57, 59] #[49, 9, 35]) 60 0 36 _ (W.z2h uat ((gi x0 x7).Key) ((gi x0 x7).N) y37 e38 gx6 uav uat.length uax uay p9 (ub3.ext (((z4.trans z5).trans z6).trans z9)) rfl) ?_
     rintro _ w10 ⟨S10, ubg, ubh, ubi, ubj, rfl, z10, p10, ubk, rfl⟩
     have p10 := p10.dp 4
     refine Goes.rn 1 [] Jb2 ?_
     have p10 := (((p10.fr 3).fr 2).fr 2).fr 3
     exact Goes.jp 135 [(0, .slice Ax0 x0.length cx0), (1, .string x1), (5, (pt gx5 0)), (6, (pt gx6 0)), (7, .i x7)] (ub6 _ _ h _ _ (((((hx.trans z4).trans z5).trans z6).trans z9).trans z10) Ax0 x0.length cx0 gx5 uau gx6 ubg y37.length ubi ubj ube p10 (fx0.ext ((((z4.trans z5).trans z6).trans z9).trans z10)) rfl (ub2.ext ((((z4.trans z5).trans z6).trans z9).trans z10)) ubk rfl (ubf.ext z10))
    ·
     rw [decide_eq_false h36]
     refine Goes.rn 5 [(4, .bool false)] Jbq ?_
     obtain rfl := Option.some.inj h
     have p9 := (((p9.dp 0).dp 1).dp 1).dp 1
     exact Goes.rt Try.f6 (.bool false) ⟨S9, ube, rfl, ((((hx.trans z4).trans z5).trans z6).trans z9), p9, ubf⟩
  ·
   have ubl : x24 = false := by simpa using h14
   rw [ubl]
   refine Goes.rn 4 [] Jbs ?_
   refine bind_some' h fun y40 e41 h => ?_
   refine Goes.cal (kc 8 [] #[]) 134 4 8 _ (W.z2z y40 e41  p1 ) ?_
   rintro _ w11 ⟨S11, rfl, z11, p11⟩
   have p11 := ((p11.dp 0).dp 0).dp 0
   refine Goes.rn 2 [(4, .bool y40)] Jbr ?_
   obtain rfl := Option.some.inj h
   exact Goes.rt Try.f6 (.bool y40) ⟨S11, Ee0, rfl, (hx.trans z11), p11, (fe0.ext z11)⟩
 ·
  intro ubm ubn ⟨x0, x1, uas, uat, x7, e0⟩ r h S1 w1 hx Ax0 nx0 cx0 gx5 uau gx6 uav uaw uax uay Ee0 p1 fx0 lx0 ub2 ub3 ub4 fe0 junk
  try dsimp only at h
  subst lx0
  subst ub4
  refine Goes.rn 2 [] Jbu ?_
  have f43 : Els kStr S1 w1 ([] : List Value) ([] : List ByteArray) := by exact Els.nil
  refine Op_.made (.buildSlice 57 0 #[]) 61 57 (fun b => .slice (Gp (some b)) 0 0) 9 ([] : List Value) p1 Goes.v (by kernel_rfl) ?_
  intro b42 w12 z12 p12
  have p12 : Hp nz wz S1 w12 (((some b42), .row 9 ([] : List Value) (0 * kStr.size) 0) :: (some gx5, .row 69 [.map (some uau)] 1 0) :: (some gx6, .row 52 [.slice (Gp uav) uat.length uax] 1 0) :: (uav, .row 59 uay (uax * kT58.size) 0) :: (none, .seg 65 Ee0) :: Lr) := p12
  refine Goes.rn 10 [(9, .slice (Gp (some b42)) 0 0), (10, .i 0), (11, .i 0)] Jb6 ?_
  have p12 := ((((p12.fr 4).fr 1).fr 4).fr 4).fr 4
  exact Goes.jp 135 [(0, .slice Ax0 x0.length cx0), (1, .string x1), (5, (pt gx5 0)), (6, (pt gx6 0)), (7, .i x7), (9, .slice (Gp (some b42)) 0 0), (10, .i 0), (11, .i 0)] (ubn _ _ h _ _ (hx.trans z12) Ax0 x0.length cx0 gx5 uau gx6 uav uat.length uax uay (some b42) 0 0 ([] : List Value) Ee0 p12 (fx0.ext z12) rfl (ub2.ext z12) (ub3.ext z12) rfl (f43.ext z12) rfl (fe0.ext z12))
 ·
  intro ubm ubo ubn ubp ⟨x0, x1, uas, uat, x7, x9, x10, x11, e0⟩ r h S1 w1 hx Ax0 nx0 cx0 gx5 uau gx6 uav uaw uax uay Gx9 nx9 cx9 u3u Ee0 p1 fx0 lx0 ub2 ub3 ub4 fx9 lx9 fe0 junk
  try dsimp only at h
  subst lx0
  subst ub4
  subst lx9
  refine Goes.rn 7 [(62, .i x11), (63, (pt gx6 0)), (64, (pt gx6 0)), (65, (pt gx6 0))] Jbx ?_
  refine Goes.ld 50 (.tmp 65) 66 50 ⟨gx6, 0, none⟩ (.slice (Gp uav) uat.length uax) (p1.c 1 0) ?_
  refine Goes.rn 3 [(67, .i (uat.length : Int)), (68, .bool (decide (x11 < (uat.length : Int))))] Jbw ?_
  refine ite_some h (fun h49 h => ?_) (fun h49 h => ?_)
  ·
   rw [decide_eq_true h49]
   refine Goes.rn 10 [(71, .slice (Gp Gx9) x9.length cx9), (72, (pt gx6 0)), (73, (pt gx6 0)), (74, (pt gx6 0))] Jc1 ?_
   refine Goes.ld 50 (.tmp 74) 75 50 ⟨gx6, 0, none⟩ (.slice (Gp uav) uat.length uax) (p1.c 1 0) ?_
   refine Goes.rn 1 [(76, .i x11)] Jc2 ?_
   refine guard_some' h fun g50 h => ?_
   refine Op_.ixO_n 50 (.tmp 75) (.tmp 76) 77 0 59 .i64 x11 2 uat.length uax (gi uat x11) rfl rfl p1 rfl ub3 Goes.v (by kernel_rfl) (by kernel_rfl) (by kernel_rfl) (by kernel_rfl) (by decide) g50 h49 ?_
   rintro b51 _ rfl q53 f52
   obtain ⟨_, _, rfl, rfl, ⟨A54, c55, rfl, f56⟩⟩ := q53
   refine Goes.rn 1 [(78, .pointer (some (Addr.add ⟨b51, (x11 : Int).toNat * kT58.size, none⟩ 0)))] Jc3 ?_
   refine Goes.ld 9 (.tmp 78) 79 9 (Addr.add ⟨b51, (x11 : Int).toNat * kT58.size, none⟩ 0) (.string ((gi uat x11).Key)) ((hc_part (us := []) (vs := [.string ((gi uat x11).Key)]) (ws := [.slice A54 (((gi uat x11).L).length) c55]) f52) 0 _ rfl) ?_
   have f59 : Els kStr S1 w1 ([.string ((gi uat x11).Key)] : List Value) [(gi uat x11).Key] := by exact (Els.cons (K := kStr) (vs := [.string ((gi uat x11).Key)]) (x := (gi uat x11).Key) rfl Els.nil)
   refine Op_.made (.buildSlice 57 1 #[(0, (.tmp 79))]) 80 57 (fun b => .slice (Gp (some b)) 1 1) 9 ([.string ((gi uat x11).Key)] : List Value) p1 Goes.v (by kernel_rfl) ?_
   intro b58 w13 z13 p13
   have p13 : Hp nz wz S1 w13 (((some b58), .row 9 ([.string ((gi uat x11).Key)] : List Value) (1 * kStr.size) 0) :: (some gx5, .row 69 [.map (some uau)] 1 0) :: (some gx6, .row 52 [.slice (Gp (some b51)) uat.length uax] 1 0) :: ((some b51), .row 59 uay (uax * kT58.size) 0) :: (Gx9, .row 9 u3u (cx9 * kStr.size) 0) :: (none, .seg 65 Ee0) :: Lr) := p13
   refine guard_some' h fun g64 h => ?_
   refine Op_.ap_n (K := kStr) 57 (.tmp 71) (.tmp 80) 81 57 9 4 (.string ⟨#[]⟩) 16 x9.length cx9 1 x9 [(gi uat x11).Key] (x9 ++ [(gi uat x11).Key]) (Gp (some b58)) 1 rfl rfl rfl p13 rfl (fx9.ext z13) Goes.v (by kernel_rfl) (by kernel_rfl) (by kernel_rfl) (by kernel_rfl) rfl (by decide) (f59.ext z13) (src_own p13 (q := 0) rfl) (by have := g64; omega) (by have := g64; omega) ?_
   intro w14 G65 c66 ubq z14 p14 f68
   refine Goes.rn 8 [(9, .slice (Gp G65) ((x9 ++ [(gi uat x11).Key]).length) c66), (82, .i x10), (83, (pt gx6 0)), (84, (pt gx6 0)), (85, (pt gx6 0))] Jc5 ?_
   refine Goes.ld 50 (.tmp 85) 86 50 ⟨gx6, 0, none⟩ (.slice (Gp (some b51)) uat.length uax) (p14.c 2 0) ?_
   refine Goes.rn 1 [(87, .i x11)] Jc6 ?_
   refine Op_.ixO_n 50 (.tmp 86) (.tmp 87) 88 0 59 .i64 x11 3 uat.length uax (gi uat x11) rfl rfl p14 rfl (ub3.ext (z13.trans z14)) Goes.v (by kernel_rfl) (by kernel_rfl) (by kernel_rfl) (by kernel_rfl) (by decide) g50 h49 ?_
   rintro b69 _ e75 q71 f70
   injection e75 with ubr; subst ubr
   obtain ⟨_, _, rfl, rfl, ⟨A72, c73, rfl, f74⟩⟩ := q71
   refine Goes.rn 1 [(89, .pointer (some (Addr.add ⟨b51, (x11 : Int).toNat * kT58.size, none⟩ 1)))] Jc7 ?_
   refine Goes.ld 22 (.tmp 89) 90 22 (Addr.add ⟨b51, (x11 : Int).toNat * kT58.size, none⟩ 1) (.slice A72 (((gi uat x11).L).length) c73) ((hc_part (us := [.string ((gi uat x11).Key)]) (vs := [.slice A72 (((gi uat x11).L).length) c73]) (ws := []) f70) 0 _ rfl) ?_
   refine Goes.rn 5 [(91, .i (((gi uat x11).L).length : Int)), (92, .i (wr .i64 (x10 + (((gi uat x11).L).length : Int)))), (10, .i (wr .i64 (x10 + (((gi uat x11).L).length : Int))))] Jc9 ?_
   have z15 : Ext S1 w14 S1 (w14).drew := Ext.draw
   have p15 := p14.draw
   refine Goes.drawn (s := [18]) (F := Fc S1 (w14).drew ([(⟨gx6, 0, none⟩, .slice (Gp (some b51)) uat.length uax)] ++ (rowCellsO (some b51) uay ++ []))) 21 20 (by kernel_rfl) (by kernel_rfl) (by kernel_rfl) (by kernel_rfl) ?_
   generalize (w14).drew = w15 at z15 p15 ⊢
   refine AnyG.pu 0 (.move (.tmp 5)) 93 47 ((pt gx5 0)) (Fc.here (Cells.app ⟨(p15.c 2 0), trivial⟩ (Cells.app (Cells.rowO (p15.mem 3 rfl)) trivial))) ?_
   refine AnyG.pu 1 (.move (.tmp 6)) 94 49 ((pt gx6 0)) (Fc.here (Cells.app ⟨(p15.c 2 0), trivial⟩ (Cells.app (Cells.rowO (p15.mem 3 rfl)) trivial))) ?_
   refine AnyG.pu 2 (.nilCheck (.tmp 94)) 95 0 ((pt gx6 0)) (Fc.here (Cells.app ⟨(p15.c 2 0), trivial⟩ (Cells.app (Cells.rowO (p15.mem 3 rfl)) trivial))) ?_
   refine AnyG.pu 3 (.fieldAddr 52 (.tmp 95) 0) 96 0 ((pt gx6 0)) (Fc.here (Cells.app ⟨(p15.c 2 0), trivial⟩ (Cells.app (Cells.rowO (p15.mem 3 rfl)) trivial))) ?_
   refine AnyG.ld1 (i := 4) 50 (.tmp 96) 97 50 ⟨gx6, 0, none⟩ (.slice (Gp (some b51)) uat.length uax) (by kernel_rfl) (by kernel_rfl) (Fc.here (Cells.app ⟨(p15.c 2 0), trivial⟩ (Cells.app (Cells.rowO (p15.mem 3 rfl)) trivial))) (by kernel_rfl) (by kernel_rfl) (fun _ h => h.2.left.at_ 0 rfl) ?_
   refine AnyG.pu 5 (.move (.tmp 11)) 98 3 (.i x11) (Fc.here (Cells.app ⟨(p15.c 2 0), trivial⟩ (Cells.app (Cells.rowO (p15.mem 3 rfl)) trivial))) ?_
   refine AnyG.ixO_n (i := 6) 50 (.tmp 97) (.tmp 98) 99 0 59 .i64 x11 3 uat.length uax (gi uat x11) rfl rfl p15 rfl (ub3.ext ((z13.trans z14).trans z15)) (by kernel_rfl) (by kernel_rfl) (Fc.here (Cells.app ⟨(p15.c 2 0), trivial⟩ (Cells.app (Cells.rowO (p15.mem 3 rfl)) trivial))) (by kernel_rfl) (by kernel_rfl) (by kernel_rfl) (by kernel_rfl) (by decide) g50 h49 ?_
   rintro b76 _ e82 q78 f83 f77
   injection e82 with ubs; subst ubs
   obtain ⟨_, _, rfl, rfl, ⟨A79, c80, rfl, f81⟩⟩ := q78
   refine AnyG.pu 7 (.fieldAddr 59 (.tmp 99) 0) 100 0 (.pointer (some (Addr.add ⟨b51, (x11 : Int).toNat * kT58.size, none⟩ 0))) (Fc.here (Cells.app ⟨(p15.c 2 0), trivial⟩ (Cells.app (Cells.rowO (p15.mem 3 rfl)) trivial))) ?_
   refine AnyG.ld1 (i := 8) 9 (.tmp 100) 101 9 (Addr.add ⟨b51, (x11 : Int).toNat * kT58.size, none⟩ 0) (.string ((gi uat x11).Key)) (by kernel_rfl) (by kernel_rfl) (Fc.here (Cells.app ⟨(p15.c 2 0), trivial⟩ (Cells.app (Cells.rowO (p15.mem 3 rfl)) trivial))) (by kernel_rfl) (by kernel_rfl) (fun _ h => hc_part (us := []) (vs := [.string ((gi uat x11).Key)]) (ws := [.slice A79 (((gi uat x11).L).length) c80]) (h.2.right.left.rowsAt f83) 0 _ rfl) ?_
   refine AnyG.pu 10 (.move (.tmp 6)) 103 49 ((pt gx6 0)) (Fc.here (Cells.app ⟨(p15.c 2 0), trivial⟩ (Cells.app (Cells.rowO (p15.mem 3 rfl)) trivial))) ?_
   refine AnyG.pu 11 (.nilCheck (.tmp 103)) 104 0 ((pt gx6 0)) (Fc.here (Cells.app ⟨(p15.c 2 0), trivial⟩ (Cells.app (Cells.rowO (p15.mem 3 rfl)) trivial))) ?_
   refine AnyG.pu 12 (.fieldAddr 52 (.tmp 104) 0) 105 0 ((pt gx6 0)) (Fc.here (Cells.app ⟨(p15.c 2 0), trivial⟩ (Cells.app (Cells.rowO (p15.mem 3 rfl)) trivial))) ?_
   refine AnyG.ld1 (i := 13) 50 (.tmp 105) 106 50 ⟨gx6, 0, none⟩ (.slice (Gp (some b51)) uat.length uax) (by kernel_rfl) (by kernel_rfl) (Fc.here (Cells.app ⟨(p15.c 2 0), trivial⟩ (Cells.app (Cells.rowO (p15.mem 3 rfl)) trivial))) (by kernel_rfl) (by kernel_rfl) (fun _ h => h.2.left.at_ 0 rfl) ?_
   refine AnyG.pu 14 (.move (.tmp 11)) 107 3 (.i x11) (Fc.here (Cells.app ⟨(p15.c 2 0), trivial⟩ (Cells.app (Cells.rowO (p15.mem 3 rfl)) trivial))) ?_
   refine AnyG.ixO_n (i := 15) 50 (.tmp 106) (.tmp 107) 108 0 59 .i64 x11 3 uat.length uax (gi uat x11) rfl rfl p15 rfl (ub3.ext ((z13.trans z14).trans z15)) (by kernel_rfl) (by kernel_rfl) (Fc.here (Cells.app ⟨(p15.c 2 0), trivial⟩ (Cells.app (Cells.rowO (p15.mem 3 rfl)) trivial))) (by kernel_rfl) (by kernel_rfl) (by kernel_rfl) (by kernel_rfl) (by decide) g50 h49 ?_
   rintro b84 _ e90 q86 f91 f85
   injection e90 with ubt; subst ubt
   obtain ⟨_, _, rfl, rfl, ⟨A87, c88, rfl, f89⟩⟩ := q86
   refine AnyG.pu 16 (.fieldAddr 59 (.tmp 108) 1) 109 0 (.pointer (some (Addr.add ⟨b51, (x11 : Int).toNat * kT58.size, none⟩ 1))) (Fc.here (Cells.app ⟨(p15.c 2 0), trivial⟩ (Cells.app (Cells.rowO (p15.mem 3 rfl)) trivial))) ?_
   refine AnyG.ld1 (i := 17) 22 (.tmp 109) 110 22 (Addr.add ⟨b51, (x11 : Int).toNat * kT58.size, none⟩ 1) (.slice A87 (((gi uat x11).L).length) c88) (by kernel_rfl) (by kernel_rfl) (Fc.here (Cells.app ⟨(p15.c 2 0), trivial⟩ (Cells.app (Cells.rowO (p15.mem 3 rfl)) trivial))) (by kernel_rfl) (by kernel_rfl) (fun _ h => hc_part (us := [.string ((gi uat x11).Key)]) (vs := [.slice A87 (((gi uat x11).L).length) c88]) (ws := []) (h.2.right.left.rowsAt f91) 0 _ rfl) ?_
   have p15 := (p15.fr 5).fr 2
   refine bind_some' h fun y92 e93 h => ?_
   refine Op_.call (kc 37 [93, 101] #[47, 9]) 102 22 37 #[(pt gx5 0), .string ((gi uat x11).Key)] (AnyG.cs (i := 9) (by kernel_rfl) (by kernel_rfl)) (by kernel_rfl) (W.z19 uas ((gi uat x11).Key) e0 y92 e93 gx5 uau Ee0 p15 (ub2.ext ((z13.trans z14).trans z15)) (fe0.ext ((z13.trans z14).trans z15))) ?_
   rintro _ w16 ⟨S16, ubu, ubv, ubw, ubx, rfl, z16, p16, uby, rfl⟩
   refine AnyG.next z16 (Cells.app ⟨(p16.c 4 0), trivial⟩ (Cells.app (Cells.rowO (p16.mem 5 rfl)) trivial)) ?_
   obtain ⟨S17, z17, p17, f95⟩ := p16.freezeRd 0 rfl uby (by decide)
   refine AnyG.refz z17 ?_
   refine bind_some' h fun y96 e97 h => ?_
   refine Op_.call (kc 11 [102, 110] #[22, 22]) 111 4 11 #[.slice (Gp ubu) y92.length ubw, .slice A87 (((gi uat x11).L).length) c88] (AnyG.cs (i := 18) (by kernel_rfl) (by kernel_rfl)) (by kernel_rfl) (W.z1a y92 ((gi uat x11).L) y96 e97 (Gp ubu) y92.length ubw A87 (((gi uat x11).L).length) c88 p17 f95 rfl (f89.ext (z16.trans z17)) rfl) ?_
   rintro _ w18 ⟨S18, rfl, z18, p18⟩
   refine AnyG.last [] (Fc S18 w18 []) (by decide) ?_
   refine AnyG.pu 19 (.unOp .not 4 (.tmp 111)) 112 4 (.bool (!y96)) (Fc.here trivial) ?_
   refine AnyG.done (by kernel_rfl) ?_ _
   have p18 := (p18.dp 0).dp 2
   refine ite_some h (fun h98 h => ?_) (fun h98 h => ?_)
   ·
    rw [h98]
    refine Goes.rn 9 [(69, .i x11), (70, .i (wr .i64 (x11 + 1))), (11, .i (wr .i64 (x11 + 1)))] Jb6 ?_
    have p18 := ((((p18.fr 1).fr 4).fr 4).fr 4).fr 4
    exact Goes.jp 135 [(0, .slice Ax0 x0.length cx0), (1, .string x1), (5, (pt gx5 0)), (6, (pt gx6 0)), (7, .i x7), (9, .slice (Gp G65) ((x9 ++ [(gi uat x11).Key]).length) c66), (10, .i (wr .i64 (x10 + (((gi uat x11).L).length : Int)))), (11, .i (wr .i64 (x11 + 1)))] (ubn _ _ h _ _ ((((((hx.trans z13).trans z14).trans z15).trans z16).trans z17).trans z18) Ax0 x0.length cx0 gx5 uau gx6 (some b51) uat.length uax uay G65 ((x9 ++ [(gi uat x11).Key]).length) c66 ubq Ee0 p18 (fx0.ext (((((z13.trans z14).trans z15).trans z16).trans z17).trans z18)) rfl (ub2.ext (((((z13.trans z14).trans z15).trans z16).trans z17).trans z18)) (ub3.ext (((((z13.trans z14).trans z15).trans z16).trans z17).trans z18)) rfl (f68.ext (((z15.trans z16).trans z17).trans z18)) rfl (fe0.ext (((((z13.trans z14).trans z15).trans z16).trans z17).trans z18)))
   ·
    have ubz : y96 = false := by simpa using h98
    rw [ubz]
    refine Goes.rn 5 [(4, .bool false)] Jca ?_
    obtain rfl := Option.some.inj h
    have p18 := (((p18.dp 0).dp 1).dp 1).dp 1
    exact Goes.rt Try.f6 (.bool false) ⟨S18, Ee0, rfl, ((((((hx.trans z13).trans z14).trans z15).trans z16).trans z17).trans z18), p18, (fe0.ext (((((z13.trans z14).trans z15).trans z16).trans z17).trans z18))⟩
  ·
   rw [decide_eq_false h49]
   refine Goes.rn 5 [(113, (pt gx5 0))] Jcb ?_
   have p1 := (p1.fr 4).fr 1
   refine bind_some' h fun y99 uc0 h => ?_
   refine Goes.cal (kc 39 [113] #[47]) 114 57 39 _ (W.z1k uas e0 y99 uc0 gx5 uau Ee0 p1 ub2 fe0) ?_
   rintro _ w19 ⟨S19, uc1, uc2, uc3, uc4, rfl, z19, p19, uc5, rfl⟩
   refine Goes.rn 1 [(115, .slice (Gp Gx9) x9.length cx9)] Jcc ?_
   obtain ⟨S20, z20, p20, uc6⟩ := p19.freezeRd 0 rfl uc5 (by decide)
   obtain ⟨S21, z21, p21, uc7⟩ := p20.freezeRd 5 rfl (fx9.ext (z19.trans z20)) (by decide)
   refine bind_some' h fun uc8 uc9 h => ?_
   refine Goes.cal (kc 38 [114, 115] #[57, 57]) 116 4 38 _ (W.z1l y99 x9 uc8 uc9 (Gp uc1) y99.length uc3 (Gp Gx9) x9.length cx9 p21 (uc6.ext z21) rfl uc7 rfl) ?_
   rintro _ w22 ⟨S22, rfl, z22, p22⟩
   have p22 := (p22.dp 0).dp 4
   refine Goes.rn 2 [(117, .bool (!uc8)), (118, .bool (!uc8))] Jcd ?_
   refine ite_some h (fun uca h => ?_) (fun uca h => ?_)
   ·
    rw [uca]
    refine Goes.rn 1 [(119, (pt gx5 0))] Jce ?_
    refine bind_some' h fun ucb ucc h => ?_
    refine Goes.cal (kc 40 [119] #[47]) 120 3 40 _ (W.z1p uas e0 ucb ucc gx5 uau Ee0 p22 (ub2.ext (((z19.trans z20).trans z21).trans z22)) (fe0.ext (((z19.trans z20).trans z21).trans z22))) ?_
    rintro _ w23 ⟨S23, rfl, z23, p23⟩
    refine Goes.rn 4 [(121, .i x10), (122, .bool (!(decide (ucb = x10)))), (123, .bool (!(decide (ucb = x10)))), (124, .bool (!(decide (ucb = x10))))] Jcf ?_
    refine ite_some h (fun ucd h => ?_) (fun ucd h => ?_)
    ·
     rw [decide_eq_true ucd]
     refine Goes.rn 2 [(125, (pt gx5 0)), (126, .string x1)] Jcg ?_
     refine bind_some' h fun uce ucf h => ?_
     refine Goes.cal (kc 37 [125, 126] #[47, 9]) 127 22 37 _ (W.z19 uas x1 e0 uce ucf gx5 uau Ee0 p23 (ub2.ext ((((z19.trans z20).trans z21).trans z22).trans z23)) (fe0.ext ((((z19.trans z20).trans z21).trans z22).trans z23))) ?_
     rintro _ w24 ⟨S24, ucg, uch, uci, ucj, rfl, z24, p24, uck, rfl⟩
     refine Goes.rn 2 [(128, (pt gx6 0)), (129, .string x1)] Jch ?_
     have p24 := (p24.fr 4).fr 4
     refine bind_some' h fun ucl ucm h => ?_
     refine Goes.cal (kc 41 [128, 129] #[49, 9]) 130 22 41 _ (W.zs uat x1 ucl ucm gx6 uav uat.length uax uay p24 (ub3.ext (((((z19.trans z20).trans z21).trans z22).trans z23).trans z24)) rfl) ?_
     rintro _ w25 ⟨S25, ucn, uco, ucp, ucq, rfl, z25, p25, ucr, rfl⟩
     obtain ⟨S26, z26, p26, ucs⟩ := p25.freezeRd 3 rfl (uck.ext z25) (by decide)
     obtain ⟨S27, z27, p27, uct⟩ := p26.freezeRd 0 rfl (ucr.ext z26) (by decide)
     refine bind_some' h fun ucu ucv h => ?_
     refine Goes.cal (kc 11 [127, 130] #[22, 22]) 131 4 11 _ (W.z1a uce ucl ucu ucv (Gp ucg) uce.length uci (Gp ucn) ucl.length ucp p27 (ucs.ext z27) rfl uct rfl) ?_
     rintro _ w28 ⟨S28, rfl, z28, p28⟩
     have p28 := (p28.dp 0).dp 2
     refine Goes.rn 3 [(132, .bool (!ucu)), (133, .bool (!ucu))] Jb7 ?_
     have p28 := (((p28.fr 3).fr 2).fr 2).fr 3
     exact Goes.jp 135 [(0, .slice Ax0 x0.length cx0), (1, .string x1), (5, (pt gx5 0)), (6, (pt gx6 0)), (7, .i x7), (133, .bool (!ucu))] (ubp _ _ h _ _ ((((((((((hx.trans z19).trans z20).trans z21).trans z22).trans z23).trans z24).trans z25).trans z26).trans z27).trans z28) Ax0 x0.length cx0 gx5 uau gx6 uav uat.length uax uay Ee0 p28 (fx0.ext (((((((((z19.trans z20).trans z21).trans z22).trans z23).trans z24).trans z25).trans z26).trans z27).trans z28)) rfl (ub2.ext (((((((((z19.trans z20).trans z21).trans z22).trans z23).trans z24).trans z25).trans z26).trans z27).trans z28)) (ub3.ext (((((((((z19.trans z20).trans z21).trans z22).trans z23).trans z24).trans z25).trans z26).trans z27).trans z28)) rfl (fe0.ext (((((((((z19.trans z20).trans z21).trans z22).trans z23).trans z24).trans z25).trans z26).trans z27).trans z28)))
    ·
     rw [decide_eq_false ucd]
     refine Goes.rn 10 [(125, undef), (126, undef), (127, undef), (128, undef), (129, undef), (130, undef), (131, undef), (132, undef), (133, .bool true)] Jb7 ?_
     have p23 := (((p23.fr 1).fr 3).fr 3).fr 3
     exact Goes.jp 135 [(0, .slice Ax0 x0.length cx0), (1, .string x1), (5, (pt gx5 0)), (6, (pt gx6 0)), (7, .i x7), (133, .bool true)] (ubp _ _ h _ _ (((((hx.trans z19).trans z20).trans z21).trans z22).trans z23) Ax0 x0.length cx0 gx5 uau gx6 uav uat.length uax uay Ee0 p23 (fx0.ext ((((z19.trans z20).trans z21).trans z22).trans z23)) rfl (ub2.ext ((((z19.trans z20).trans z21).trans z22).trans z23)) (ub3.ext ((((z19.trans z20).trans z21).trans z22).trans z23)) rfl (fe0.ext ((((z19.trans z20).trans z21).trans z22).trans z23)))
   ·
    have ucw : uc8 = false := by simpa using uca
    rw [ucw]
    refine Goes.rn 14 [(119, undef), (120, undef), (121, undef), (122, undef), (123, .bool true), (124, .bool true), (125, undef), (126, undef), (127, undef), (128, undef), (129, undef), (130, undef), (131, undef), (132, undef)] Jci ?_
    refine Goes.rn 2 [(133, .bool true)] Jb7 ?_
    have p22 := (((p22.fr 1).fr 3).fr 3).fr 3
    exact Goes.jp 135 [(0, .slice Ax0 x0.length cx0), (1, .string x1), (5, (pt gx5 0)), (6, (pt gx6 0)), (7, .i x7), (133, .bool true)] (ubp _ _ h _ _ ((((hx.trans z19).trans z20).trans z21).trans z22) Ax0 x0.length cx0 gx5 uau gx6 uav uat.length uax uay Ee0 p22 (fx0.ext (((z19.trans z20).trans z21).trans z22)) rfl (ub2.ext (((z19.trans z20).trans z21).trans z22)) (ub3.ext (((z19.trans z20).trans z21).trans z22)) rfl (fe0.ext (((z19.trans z20).trans z21).trans z22)))
 ·
  intro ucx ucy ⟨x0, x1, uas, uat, x7, uaz, e0⟩ r h S1 w1 hx Ax0 nx0 cx0 gx5 uau gx6 uav uaw uax uay Ee0 p1 fx0 lx0 ub2 ub3 ub4 fe0 junk
  try dsimp only at h
  subst lx0
  subst ub4
  refine ite_some h (fun ucz h => ?_) (fun ucz h => ?_)
  ·
   rw [ucz]
   refine Goes.rn 5 [(4, .bool false)] Jcj ?_
   obtain rfl := Option.some.inj h
   have p1 := ((p1.dp 0).dp 0).dp 0
   exact Goes.rt Try.f6 (.bool false) ⟨S1, Ee0, rfl, hx, p1, fe0⟩
  ·
   have ud0 : uaz = false := by simpa using ucz
   rw [ud0]
   refine Goes.rn 9 [(25, .i x7), (26, .i (wr .i64 (x7 + 1))), (7, .i (wr .i64 (x7 + 1)))] Jax ?_
   exact Goes.jp 135 [(0, .slice Ax0 x0.length cx0), (1, .string x1), (5, (pt gx5 0)), (6, (pt gx6 0)), (7, .i (wr .i64 (x7 + 1)))] (ucy _ _ h _ _ hx Ax0 x0.length cx0 gx5 uau gx6 uav uat.length uax uay Ee0 p1 fx0 rfl ub2 ub3 rfl fe0)

theorem W.z31 {nz wz S0 w0 Lr} : ∀ a r, M.tidepolelaw13_PostIndexes_l0 a = some r → (L.z31 nz wz S0 w0 Lr) a r := (W.z36).1

theorem W.z32 {nz wz S0 w0 Lr} : ∀ a r, M.tidepolelaw13_PostIndexes_l1 a = some r → (L.z32 nz wz S0 w0 Lr) a r := (W.z36).2.1

theorem W.z33 {nz wz S0 w0 Lr} : ∀ a r, M.tidepolelaw13_PostIndexes_l2 a = some r → (L.z33 nz wz S0 w0 Lr) a r := (W.z36).2.2.1

theorem W.z34 {nz wz S0 w0 Lr} : ∀ a r, M.tidepolelaw13_PostIndexes_l3 a = some r → (L.z34 nz wz S0 w0 Lr) a r := (W.z36).2.2.2.1

theorem W.z35 {nz wz S0 w0 Lr} : ∀ a r, M.tidepolelaw13_PostIndexes_l4 a = some r → (L.z35 nz wz S0 w0 Lr) a r := (W.z36).2.2.2.2

def Q9l := sub [1, 1] B6
def Jck : List Item := [.code Q9l]
def Q9m := sub [1, 0] B6
def Jcl : List Item := .inRegion (opsOf Q9m) [0, 1, 2, 3, 4] :: Jck
def Jcm : List Item := .inRegion (opsOf Q9m) [2, 3, 4] :: Jck
def Q9n := sub [1, 1, 1, 0, 1] B6
def Jcn : List Item := .code Q9n :: Jau
def Q9o := sub [1, 1, 1, 0, 0] B6
def Jco : List Item := .inRegion (opsOf Q9o) [0] :: Jcn

theorem W.z30 (x0 : List T53) (x1 : ByteArray) (u1 : List (List (ByteArray × (List Int)))) (r : Bool × (List (List (ByteArray × (List Int))))) (h : M.tidepolelaw13_PostIndexes x0 x1 u1 = some r) {nz wz S0 w0 Lr} (Ax0 nx0 cx0 u2) (p0 : Hp nz wz S0 w0 ((none, .seg 65 u2) :: Lr)) (fx0 : Rd kT53 S0 w0 Ax0 cx0 x0) (lx0 : x0.length = nx0) (u3 : Pl (oMap Value.string (kSl (kInt .u64))) S0 w0 u2 u1) :
  Calls Try.prog 6 #[.slice Ax0 nx0 cx0, .string x1] w0 (Rets (Post.z30 nz wz S0 w0 Lr r)) := by
 subst lx0
 refine calls_of_goes (fn := Try.f6) (c := B6) (by kernel_rfl) (by kernel_rfl) 133 (by kernel_rfl) ?_
 refine Goes.jp 135 [(0, .slice Ax0 x0.length cx0), (1, .string x1)] (fun junk => ?_)
 delta M.tidepolelaw13_PostIndexes at h
 refine Goes.rn 6 [(4, .bool false)] Jcl ?_
 refine bind_some' h fun y1 e2 h => ?_
 refine Goes.cal (kc 32 [] #[]) 12 47 32 _ (W.z0 u1 y1 e2 u2 p0 u3) ?_
 rintro _ w2 ⟨S2, ud1, ud2, ud3, rfl, z2, p2, ud4, ud5⟩
 refine Goes.rn 1 [(13, .agg #[.slice none 0 0])] Jcm ?_
 refine Op_.box 52 (.tmp 13) 14 49 (.agg #[.slice none 0 0]) [.slice none 0 0] p2 Goes.v (by kernel_rfl) (by kernel_rfl) ?_
 intro b4 w3 z3 p3
 refine Goes.rn 14 [(5, (pt ud1 0)), (6, (pt b4 0)), (15, (pt ud1 0)), (16, .bool false)] Jco ?_
 refine Goes.rn 4 [(7, .i 0)] Jax ?_
 have p3 : Hp nz wz S2 w3 ((none, .row 59 [] (0 * kT58.size) 0) :: (some b4, .row 52 [.slice none 0 0] 1 0) :: (some ud1, .row 69 [.map (some ud2)] 1 0) :: (none, .seg 65 ud3) :: Lr) := p3.nilRow' 59
 have p3 := (((p3.fr 3).fr 1).fr 2).fr 3
 exact Goes.jp 135 [(0, .slice Ax0 x0.length cx0), (1, .string x1), (5, (pt ud1 0)), (6, (pt b4 0)), (7, .i 0)] (W.z31 _ _ h _ _ (((Ext.refl S0 w0).trans z2).trans z3) Ax0 x0.length cx0 ud1 ud2 b4 none 0 0 [] ud3 p3 (fx0.ext (z2.trans z3)) rfl (ud4.ext z3) (Els.nil (K := kT58)) rfl (ud5.ext z3))

def Jcp : List Item := .inRegion (opsOf Q8) [8, 9, 10] :: J8

def Post.z37 (r : Unit) (v : Value) (w' : World) : Prop :=
 ∃ S', v = .bool false ∧ Ext S0 w0 S' w' ∧ Hp nz wz S' w' (Lr)

theorem W.z37 (r : Unit) (h : M.post_Index_is_2 = some r) {nz wz S0 w0 Lr} (p0 : Hp nz wz S0 w0 (Lr)) :
  Calls Try.prog 52 #[.pointer none] w0 (Rets (Post.z37 nz wz S0 w0 Lr r)) := by
 refine calls_of_goes (fn := Try.f52) (c := B52) (by kernel_rfl) (by kernel_rfl) 12 (by kernel_rfl) ?_
 refine Goes.jp 13 [(0, .pointer none)] (fun junk => ?_)
 delta M.post_Index_is_2 at h
 refine Goes.rn 14 [(2, .bool false), (3, .pointer none), (4, .bool false), (5, .bool false), (6, undef), (7, undef), (8, undef), (9, undef), (10, undef)] Jcp ?_
 refine Goes.rn 4 [(11, undef), (12, .bool false), (2, .bool false)] J8 ?_
 obtain rfl := Option.some.inj h
 exact Goes.rt Try.f52 (.bool false) ⟨S0, rfl, (Ext.refl S0 w0), p0⟩

def Q9p := sub [1, 1] B42
def Jcq : List Item := [.code Q9p]
def Q9q := sub [1, 0] B42
def Jcr : List Item := .inRegion (opsOf Q9q) [1, 2, 3] :: Jcq

def Post.z38 (r : Unit) (v : Value) (w' : World) : Prop :=
 ∃ S', v = .bool true ∧ Ext S0 w0 S' w' ∧ Hp nz wz S' w' (Lr)

theorem W.z38 (r : Unit) (h : M.post_Index_Void = some r) {nz wz S0 w0 Lr} (p0 : Hp nz wz S0 w0 (Lr)) :
  Calls Try.prog 42 #[.pointer none] w0 (Rets (Post.z38 nz wz S0 w0 Lr r)) := by
 refine calls_of_goes (fn := Try.f42) (c := B42) (by kernel_rfl) (by kernel_rfl) 5 (by kernel_rfl) ?_
 refine Goes.jp 6 [(0, .pointer none)] (fun junk => ?_)
 delta M.post_Index_Void at h
 refine Goes.rn 7 [(2, .bool false), (3, .pointer none)] Jcr ?_
 refine bind_some' h fun y1 e2 h => ?_
 refine Goes.cal (kc 52 [3] #[47]) 4 4 52 _ (W.z37 y1 e2  p0 ) ?_
 rintro _ w2 ⟨S2, rfl, z2, p2⟩
 refine Goes.rn 3 [(5, .bool (!false)), (2, .bool (!false))] Jcq ?_
 obtain rfl := Option.some.inj h
 exact Goes.rt Try.f42 (.bool (!false)) ⟨S2, rfl, ((Ext.refl S0 w0).trans z2), p2⟩

def Post.z39 (gx0 : Nat) (r : Unit) (v : Value) (w' : World) : Prop :=
 ∃ S', v = .bool false ∧ Ext S0 w0 S' w' ∧ Hp nz wz S' w' ((some gx0, .row 69 [.map none] 1 0) :: Lr)

theorem W.z39 (r : Unit) (h : M.post_Index_is_3 = some r) {nz wz S0 w0 Lr} (gx0) (p0 : Hp nz wz S0 w0 ((some gx0, .row 69 [.map none] 1 0) :: Lr)) :
  Calls Try.prog 52 #[(pt gx0 0)] w0 (Rets (Post.z39 nz wz S0 w0 Lr gx0 r)) := by
 refine calls_of_goes (fn := Try.f52) (c := B52) (by kernel_rfl) (by kernel_rfl) 12 (by kernel_rfl) ?_
 refine Goes.jp 13 [(0, (pt gx0 0))] (fun junk => ?_)
 delta M.post_Index_is_3 at h
 refine Goes.rn 13 [(2, .bool false), (3, (pt gx0 0)), (4, .bool true), (5, .bool true), (6, (pt gx0 0)), (7, (pt gx0 0)), (8, (pt gx0 0)), (9, (pt gx0 0))] J9 ?_
 refine Goes.ld 65 (.tmp 9) 10 65 ⟨gx0, 0, none⟩ (.map none) (p0.c 0 0) ?_
 refine Goes.rn 4 [(11, .bool false), (12, .bool false), (2, .bool false)] J8 ?_
 obtain rfl := Option.some.inj h
 exact Goes.rt Try.f52 (.bool false) ⟨S0, rfl, (Ext.refl S0 w0), p0⟩

def Post.z3a (gx0 : Nat) (r : Unit) (v : Value) (w' : World) : Prop :=
 ∃ S', v = .bool true ∧ Ext S0 w0 S' w' ∧ Hp nz wz S' w' ((some gx0, .row 69 [.map none] 1 0) :: Lr)

theorem W.z3a (r : Unit) (h : M.post_Index_Void_2 = some r) {nz wz S0 w0 Lr} (gx0) (p0 : Hp nz wz S0 w0 ((some gx0, .row 69 [.map none] 1 0) :: Lr)) :
  Calls Try.prog 42 #[(pt gx0 0)] w0 (Rets (Post.z3a nz wz S0 w0 Lr gx0 r)) := by
 refine calls_of_goes (fn := Try.f42) (c := B42) (by kernel_rfl) (by kernel_rfl) 5 (by kernel_rfl) ?_
 refine Goes.jp 6 [(0, (pt gx0 0))] (fun junk => ?_)
 delta M.post_Index_Void_2 at h
 refine Goes.rn 7 [(2, .bool false), (3, (pt gx0 0))] Jcr ?_
 refine bind_some' h fun y2 e3 h => ?_
 refine Goes.cal (kc 52 [3] #[47]) 4 4 52 _ (W.z39 y2 e3 gx0 p0 ) ?_
 rintro _ w2 ⟨S2, rfl, z2, p2⟩
 refine Goes.rn 3 [(5, .bool (!false)), (2, .bool (!false))] Jcq ?_
 obtain rfl := Option.some.inj h
 exact Goes.rt Try.f42 (.bool (!false)) ⟨S2, rfl, ((Ext.refl S0 w0).trans z2), p2⟩

def Post.z3b (gx0 : Nat) (u4 : Nat) (u5 : Nat) (r : Unit) (v : Value) (w' : World) : Prop :=
 ∃ S', v = .bool false ∧ Ext S0 w0 S' w' ∧ Hp nz wz S' w' ((some gx0, .row 69 [.map (some u4)] 1 0) :: Lr)

theorem W.z3b (u5 : Nat) (r : Unit) (h : M.post_Index_Void_3 u5 = some r) {nz wz S0 w0 Lr} (gx0 u4) (p0 : Hp nz wz S0 w0 ((some gx0, .row 69 [.map (some u4)] 1 0) :: Lr)) (u6 : Pa 65 S0 u5 u4) :
  Calls Try.prog 42 #[(pt gx0 0)] w0 (Rets (Post.z3b nz wz S0 w0 Lr gx0 u4 u5 r)) := by
 refine calls_of_goes (fn := Try.f42) (c := B42) (by kernel_rfl) (by kernel_rfl) 5 (by kernel_rfl) ?_
 refine Goes.jp 6 [(0, (pt gx0 0))] (fun junk => ?_)
 delta M.post_Index_Void_3 at h
 refine Goes.rn 7 [(2, .bool false), (3, (pt gx0 0))] Jcr ?_
 refine bind_some' h fun y2 e3 h => ?_
 refine Goes.cal (kc 52 [3] #[47]) 4 4 52 _ (W.z2 u5 y2 e3 gx0 u4 p0 u6) ?_
 rintro _ w2 ⟨S2, rfl, z2, p2⟩
 refine Goes.rn 3 [(5, .bool (!true)), (2, .bool (!true))] Jcq ?_
 obtain rfl := Option.some.inj h
 exact Goes.rt Try.f42 (.bool (!true)) ⟨S2, rfl, ((Ext.refl S0 w0).trans z2), p2⟩

def Q9r := sub [1, 0, 1, 0, 1] B33
def Jcs : List Item := .code Q9r :: J3g

def Post.z3c (u2 : List (Nat × Obj)) (u1 : List (List (ByteArray × (List Int)))) (r : Int) (v : Value) (w' : World) : Prop :=
 ∃ S', v = .i r ∧ Ext S0 w0 S' w' ∧ Hp nz wz S' w' ((none, .seg 65 u2) :: Lr)

theorem W.z3c (x1 : ByteArray) (x2 : Int) (u1 : List (List (ByteArray × (List Int)))) (r : Int) (h : M.post_Index_Put_2 x1 x2 u1 = some r) {nz wz S0 w0 Lr} (u2) (p0 : Hp nz wz S0 w0 ((none, .seg 65 u2) :: Lr)) (u3 : Pl (oMap Value.string (kSl (kInt .u64))) S0 w0 u2 u1) :
  Calls Try.prog 33 #[.pointer none, .string x1, .u x2] w0 (Rets (Post.z3c nz wz S0 w0 Lr u2 u1 r)) := by
 refine calls_of_goes (fn := Try.f33) (c := B33) (by kernel_rfl) (by kernel_rfl) 28 (by kernel_rfl) ?_
 refine Goes.jp 31 [(0, .pointer none), (1, .string x1), (2, .u x2)] (fun junk => ?_)
 delta M.post_Index_Put_2 at h
 refine Goes.rn 8 [(6, .i 0), (9, .pointer none)] J3i ?_
 refine bind_some' h fun y1 e2 h => ?_
 refine Goes.cal (kc 52 [9] #[47]) 10 4 52 _ (W.z37 y1 e2  p0 ) ?_
 rintro _ w2 ⟨S2, rfl, z2, p2⟩
 refine Goes.rn 7 [(11, .bool (!false)), (6, .i 1)] Jcs ?_
 obtain rfl := Option.some.inj h
 exact Goes.rt Try.f33 (.i 1) ⟨S2, rfl, ((Ext.refl S0 w0).trans z2), p2⟩

def Post.z3d (gx0 : Nat) (u2 : List (Nat × Obj)) (u1 : List (List (ByteArray × (List Int)))) (r : Int) (v : Value) (w' : World) : Prop :=
 ∃ S', v = .i r ∧ Ext S0 w0 S' w' ∧ Hp nz wz S' w' ((some gx0, .row 69 [.map none] 1 0) :: (none, .seg 65 u2) :: Lr)

theorem W.z3d (x1 : ByteArray) (x2 : Int) (u1 : List (List (ByteArray × (List Int)))) (r : Int) (h : M.post_Index_Put_3 x1 x2 u1 = some r) {nz wz S0 w0 Lr} (gx0 u2) (p0 : Hp nz wz S0 w0 ((some gx0, .row 69 [.map none] 1 0) :: (none, .seg 65 u2) :: Lr)) (u3 : Pl (oMap Value.string (kSl (kInt .u64))) S0 w0 u2 u1) :
  Calls Try.prog 33 #[(pt gx0 0), .string x1, .u x2] w0 (Rets (Post.z3d nz wz S0 w0 Lr gx0 u2 u1 r)) := by
 refine calls_of_goes (fn := Try.f33) (c := B33) (by kernel_rfl) (by kernel_rfl) 28 (by kernel_rfl) ?_
 refine Goes.jp 31 [(0, (pt gx0 0)), (1, .string x1), (2, .u x2)] (fun junk => ?_)
 delta M.post_Index_Put_3 at h
 refine Goes.rn 8 [(6, .i 0), (9, (pt gx0 0))] J3i ?_
 refine bind_some' h fun y2 e3 h => ?_
 refine Goes.cal (kc 52 [9] #[47]) 10 4 52 _ (W.z39 y2 e3 gx0 p0 ) ?_
 rintro _ w2 ⟨S2, rfl, z2, p2⟩
 refine Goes.rn 7 [(11, .bool (!false)), (6, .i 1)] Jcs ?_
 obtain rfl := Option.some.inj h
 exact Goes.rt Try.f33 (.i 1) ⟨S2, rfl, ((Ext.refl S0 w0).trans z2), p2⟩

def Q9s := sub [1, 0, 1, 0, 1] B35
def Jct : List Item := .code Q9s :: J8x

def Post.z3e (u2 : List (Nat × Obj)) (u1 : List (List (ByteArray × (List Int)))) (r : Int) (v : Value) (w' : World) : Prop :=
 ∃ S', v = .i r ∧ Ext S0 w0 S' w' ∧ Hp nz wz S' w' ((none, .seg 65 u2) :: Lr)

theorem W.z3e (x1 : ByteArray) (x2 : Int) (u1 : List (List (ByteArray × (List Int)))) (r : Int) (h : M.post_Index_Take_2 x1 x2 u1 = some r) {nz wz S0 w0 Lr} (u2) (p0 : Hp nz wz S0 w0 ((none, .seg 65 u2) :: Lr)) (u3 : Pl (oMap Value.string (kSl (kInt .u64))) S0 w0 u2 u1) :
  Calls Try.prog 35 #[.pointer none, .string x1, .u x2] w0 (Rets (Post.z3e nz wz S0 w0 Lr u2 u1 r)) := by
 refine calls_of_goes (fn := Try.f35) (c := B35) (by kernel_rfl) (by kernel_rfl) 28 (by kernel_rfl) ?_
 refine Goes.jp 31 [(0, .pointer none), (1, .string x1), (2, .u x2)] (fun junk => ?_)
 delta M.post_Index_Take_2 at h
 refine Goes.rn 8 [(6, .i 0), (9, .pointer none)] J8z ?_
 refine bind_some' h fun y1 e2 h => ?_
 refine Goes.cal (kc 52 [9] #[47]) 10 4 52 _ (W.z37 y1 e2  p0 ) ?_
 rintro _ w2 ⟨S2, rfl, z2, p2⟩
 refine Goes.rn 7 [(11, .bool (!false)), (6, .i 1)] Jct ?_
 obtain rfl := Option.some.inj h
 exact Goes.rt Try.f35 (.i 1) ⟨S2, rfl, ((Ext.refl S0 w0).trans z2), p2⟩

def Post.z3f (gx0 : Nat) (u2 : List (Nat × Obj)) (u1 : List (List (ByteArray × (List Int)))) (r : Int) (v : Value) (w' : World) : Prop :=
 ∃ S', v = .i r ∧ Ext S0 w0 S' w' ∧ Hp nz wz S' w' ((some gx0, .row 69 [.map none] 1 0) :: (none, .seg 65 u2) :: Lr)

theorem W.z3f (x1 : ByteArray) (x2 : Int) (u1 : List (List (ByteArray × (List Int)))) (r : Int) (h : M.post_Index_Take_3 x1 x2 u1 = some r) {nz wz S0 w0 Lr} (gx0 u2) (p0 : Hp nz wz S0 w0 ((some gx0, .row 69 [.map none] 1 0) :: (none, .seg 65 u2) :: Lr)) (u3 : Pl (oMap Value.string (kSl (kInt .u64))) S0 w0 u2 u1) :
  Calls Try.prog 35 #[(pt gx0 0), .string x1, .u x2] w0 (Rets (Post.z3f nz wz S0 w0 Lr gx0 u2 u1 r)) := by
 refine calls_of_goes (fn := Try.f35) (c := B35) (by kernel_rfl) (by kernel_rfl) 28 (by kernel_rfl) ?_
 refine Goes.jp 31 [(0, (pt gx0 0)), (1, .string x1), (2, .u x2)] (fun junk => ?_)
 delta M.post_Index_Take_3 at h
 refine Goes.rn 8 [(6, .i 0), (9, (pt gx0 0))] J8z ?_
 refine bind_some' h fun y2 e3 h => ?_
 refine Goes.cal (kc 52 [9] #[47]) 10 4 52 _ (W.z39 y2 e3 gx0 p0 ) ?_
 rintro _ w2 ⟨S2, rfl, z2, p2⟩
 refine Goes.rn 7 [(11, .bool (!false)), (6, .i 1)] Jct ?_
 obtain rfl := Option.some.inj h
 exact Goes.rt Try.f35 (.i 1) ⟨S2, rfl, ((Ext.refl S0 w0).trans z2), p2⟩

def Q9t := sub [1, 0, 1, 0, 1] B37
def Jcu : List Item := .code Q9t :: J6a

def Post.z3g (u2 : List (Nat × Obj)) (u1 : List (List (ByteArray × (List Int)))) (r : Unit) (v : Value) (w' : World) : Prop :=
 ∃ S', v = .slice none 0 0 ∧ Ext S0 w0 S' w' ∧ Hp nz wz S' w' ((none, .seg 65 u2) :: Lr)

theorem W.z3g (x1 : ByteArray) (u1 : List (List (ByteArray × (List Int)))) (r : Unit) (h : M.post_Index_List_2 x1 u1 = some r) {nz wz S0 w0 Lr} (u2) (p0 : Hp nz wz S0 w0 ((none, .seg 65 u2) :: Lr)) (u3 : Pl (oMap Value.string (kSl (kInt .u64))) S0 w0 u2 u1) :
  Calls Try.prog 37 #[.pointer none, .string x1] w0 (Rets (Post.z3g nz wz S0 w0 Lr u2 u1 r)) := by
 refine calls_of_goes (fn := Try.f37) (c := B37) (by kernel_rfl) (by kernel_rfl) 14 (by kernel_rfl) ?_
 refine Goes.jp 16 [(0, .pointer none), (1, .string x1)] (fun junk => ?_)
 delta M.post_Index_List_2 at h
 refine Goes.rn 8 [(4, .slice none 0 0), (5, .pointer none)] J6c ?_
 refine bind_some' h fun y1 e2 h => ?_
 refine Goes.cal (kc 52 [5] #[47]) 6 4 52 _ (W.z37 y1 e2  p0 ) ?_
 rintro _ w2 ⟨S2, rfl, z2, p2⟩
 refine Goes.rn 7 [(7, .bool (!false)), (4, .slice none 0 0)] Jcu ?_
 obtain rfl := Option.some.inj h
 exact Goes.rt Try.f37 (.slice none 0 0) ⟨S2, rfl, ((Ext.refl S0 w0).trans z2), p2⟩

def Post.z3h (gx0 : Nat) (u2 : List (Nat × Obj)) (u1 : List (List (ByteArray × (List Int)))) (r : Unit) (v : Value) (w' : World) : Prop :=
 ∃ S', v = .slice none 0 0 ∧ Ext S0 w0 S' w' ∧ Hp nz wz S' w' ((some gx0, .row 69 [.map none] 1 0) :: (none, .seg 65 u2) :: Lr)

theorem W.z3h (x1 : ByteArray) (u1 : List (List (ByteArray × (List Int)))) (r : Unit) (h : M.post_Index_List_3 x1 u1 = some r) {nz wz S0 w0 Lr} (gx0 u2) (p0 : Hp nz wz S0 w0 ((some gx0, .row 69 [.map none] 1 0) :: (none, .seg 65 u2) :: Lr)) (u3 : Pl (oMap Value.string (kSl (kInt .u64))) S0 w0 u2 u1) :
  Calls Try.prog 37 #[(pt gx0 0), .string x1] w0 (Rets (Post.z3h nz wz S0 w0 Lr gx0 u2 u1 r)) := by
 refine calls_of_goes (fn := Try.f37) (c := B37) (by kernel_rfl) (by kernel_rfl) 14 (by kernel_rfl) ?_
 refine Goes.jp 16 [(0, (pt gx0 0)), (1, .string x1)] (fun junk => ?_)
 delta M.post_Index_List_3 at h
 refine Goes.rn 8 [(4, .slice none 0 0), (5, (pt gx0 0))] J6c ?_
 refine bind_some' h fun y2 e3 h => ?_
 refine Goes.cal (kc 52 [5] #[47]) 6 4 52 _ (W.z39 y2 e3 gx0 p0 ) ?_
 rintro _ w2 ⟨S2, rfl, z2, p2⟩
 refine Goes.rn 7 [(7, .bool (!false)), (4, .slice none 0 0)] Jcu ?_
 obtain rfl := Option.some.inj h
 exact Goes.rt Try.f37 (.slice none 0 0) ⟨S2, rfl, ((Ext.refl S0 w0).trans z2), p2⟩

def Q9u := sub [1, 0, 1, 0, 1] B39
def Jcv : List Item := .code Q9u :: J7r

def Post.z3i (u2 : List (Nat × Obj)) (u1 : List (List (ByteArray × (List Int)))) (r : Unit) (v : Value) (w' : World) : Prop :=
 ∃ S', v = .slice none 0 0 ∧ Ext S0 w0 S' w' ∧ Hp nz wz S' w' ((none, .seg 65 u2) :: Lr)

theorem W.z3i (u1 : List (List (ByteArray × (List Int)))) (r : Unit) (h : M.post_Index_Keys_2 u1 = some r) {nz wz S0 w0 Lr} (u2) (p0 : Hp nz wz S0 w0 ((none, .seg 65 u2) :: Lr)) (u3 : Pl (oMap Value.string (kSl (kInt .u64))) S0 w0 u2 u1) :
  Calls Try.prog 39 #[.pointer none] w0 (Rets (Post.z3i nz wz S0 w0 Lr u2 u1 r)) := by
 refine calls_of_goes (fn := Try.f39) (c := B39) (by kernel_rfl) (by kernel_rfl) 9 (by kernel_rfl) ?_
 refine Goes.jp 10 [(0, .pointer none)] (fun junk => ?_)
 delta M.post_Index_Keys_2 at h
 refine Goes.rn 8 [(2, .slice none 0 0), (3, .pointer none)] J7t ?_
 refine bind_some' h fun y1 e2 h => ?_
 refine Goes.cal (kc 52 [3] #[47]) 4 4 52 _ (W.z37 y1 e2  p0 ) ?_
 rintro _ w2 ⟨S2, rfl, z2, p2⟩
 refine Goes.rn 7 [(5, .bool (!false)), (2, .slice none 0 0)] Jcv ?_
 obtain rfl := Option.some.inj h
 exact Goes.rt Try.f39 (.slice none 0 0) ⟨S2, rfl, ((Ext.refl S0 w0).trans z2), p2⟩

def Post.z3j (gx0 : Nat) (u2 : List (Nat × Obj)) (u1 : List (List (ByteArray × (List Int)))) (r : Unit) (v : Value) (w' : World) : Prop :=
 ∃ S', v = .slice none 0 0 ∧ Ext S0 w0 S' w' ∧ Hp nz wz S' w' ((some gx0, .row 69 [.map none] 1 0) :: (none, .seg 65 u2) :: Lr)

theorem W.z3j (u1 : List (List (ByteArray × (List Int)))) (r : Unit) (h : M.post_Index_Keys_3 u1 = some r) {nz wz S0 w0 Lr} (gx0 u2) (p0 : Hp nz wz S0 w0 ((some gx0, .row 69 [.map none] 1 0) :: (none, .seg 65 u2) :: Lr)) (u3 : Pl (oMap Value.string (kSl (kInt .u64))) S0 w0 u2 u1) :
  Calls Try.prog 39 #[(pt gx0 0)] w0 (Rets (Post.z3j nz wz S0 w0 Lr gx0 u2 u1 r)) := by
 refine calls_of_goes (fn := Try.f39) (c := B39) (by kernel_rfl) (by kernel_rfl) 9 (by kernel_rfl) ?_
 refine Goes.jp 10 [(0, (pt gx0 0))] (fun junk => ?_)
 delta M.post_Index_Keys_3 at h
 refine Goes.rn 8 [(2, .slice none 0 0), (3, (pt gx0 0))] J7t ?_
 refine bind_some' h fun y2 e3 h => ?_
 refine Goes.cal (kc 52 [3] #[47]) 4 4 52 _ (W.z39 y2 e3 gx0 p0 ) ?_
 rintro _ w2 ⟨S2, rfl, z2, p2⟩
 refine Goes.rn 7 [(5, .bool (!false)), (2, .slice none 0 0)] Jcv ?_
 obtain rfl := Option.some.inj h
 exact Goes.rt Try.f39 (.slice none 0 0) ⟨S2, rfl, ((Ext.refl S0 w0).trans z2), p2⟩

def Q9v := sub [1, 0, 1, 0, 1] B40
def Jcw : List Item := .code Q9v :: J8n

def Post.z3k (u2 : List (Nat × Obj)) (u1 : List (List (ByteArray × (List Int)))) (r : Int) (v : Value) (w' : World) : Prop :=
 ∃ S', v = .i r ∧ Ext S0 w0 S' w' ∧ Hp nz wz S' w' ((none, .seg 65 u2) :: Lr)

theorem W.z3k (u1 : List (List (ByteArray × (List Int)))) (r : Int) (h : M.post_Index_Size_2 u1 = some r) {nz wz S0 w0 Lr} (u2) (p0 : Hp nz wz S0 w0 ((none, .seg 65 u2) :: Lr)) (u3 : Pl (oMap Value.string (kSl (kInt .u64))) S0 w0 u2 u1) :
  Calls Try.prog 40 #[.pointer none] w0 (Rets (Post.z3k nz wz S0 w0 Lr u2 u1 r)) := by
 refine calls_of_goes (fn := Try.f40) (c := B40) (by kernel_rfl) (by kernel_rfl) 9 (by kernel_rfl) ?_
 refine Goes.jp 10 [(0, .pointer none)] (fun junk => ?_)
 delta M.post_Index_Size_2 at h
 refine Goes.rn 8 [(2, .i 0), (3, .pointer none)] J8p ?_
 refine bind_some' h fun y1 e2 h => ?_
 refine Goes.cal (kc 52 [3] #[47]) 4 4 52 _ (W.z37 y1 e2  p0 ) ?_
 rintro _ w2 ⟨S2, rfl, z2, p2⟩
 refine Goes.rn 7 [(5, .bool (!false)), (2, .i 0)] Jcw ?_
 obtain rfl := Option.some.inj h
 exact Goes.rt Try.f40 (.i 0) ⟨S2, rfl, ((Ext.refl S0 w0).trans z2), p2⟩

def Post.z3l (gx0 : Nat) (u2 : List (Nat × Obj)) (u1 : List (List (ByteArray × (List Int)))) (r : Int) (v : Value) (w' : World) : Prop :=
 ∃ S', v = .i r ∧ Ext S0 w0 S' w' ∧ Hp nz wz S' w' ((some gx0, .row 69 [.map none] 1 0) :: (none, .seg 65 u2) :: Lr)

theorem W.z3l (u1 : List (List (ByteArray × (List Int)))) (r : Int) (h : M.post_Index_Size_3 u1 = some r) {nz wz S0 w0 Lr} (gx0 u2) (p0 : Hp nz wz S0 w0 ((some gx0, .row 69 [.map none] 1 0) :: (none, .seg 65 u2) :: Lr)) (u3 : Pl (oMap Value.string (kSl (kInt .u64))) S0 w0 u2 u1) :
  Calls Try.prog 40 #[(pt gx0 0)] w0 (Rets (Post.z3l nz wz S0 w0 Lr gx0 u2 u1 r)) := by
 refine calls_of_goes (fn := Try.f40) (c := B40) (by kernel_rfl) (by kernel_rfl) 9 (by kernel_rfl) ?_
 refine Goes.jp 10 [(0, (pt gx0 0))] (fun junk => ?_)
 delta M.post_Index_Size_3 at h
 refine Goes.rn 8 [(2, .i 0), (3, (pt gx0 0))] J8p ?_
 refine bind_some' h fun y2 e3 h => ?_
 refine Goes.cal (kc 52 [3] #[47]) 4 4 52 _ (W.z39 y2 e3 gx0 p0 ) ?_
 rintro _ w2 ⟨S2, rfl, z2, p2⟩
 refine Goes.rn 7 [(5, .bool (!false)), (2, .i 0)] Jcw ?_
 obtain rfl := Option.some.inj h
 exact Goes.rt Try.f40 (.i 0) ⟨S2, rfl, ((Ext.refl S0 w0).trans z2), p2⟩

def Q9w := sub [1, 1] B7
def Jcx : List Item := [.code Q9w]
def Q9x := sub [1, 0, 1] B7
def Jcy : List Item := .code Q9x :: Jcx
def Q9y := sub [1, 0, 0] B7
def Jcz : List Item := .inRegion (opsOf Q9y) [0, 1] :: Jcy
def Q9z := sub [1, 1, 1, 1] B7
def Jd0 : List Item := [.code Q9z]
def Qa0 := sub [1, 1, 1, 0] B7
def Jd1 : List Item := .inRegion (opsOf Qa0) [0] :: Jd0
def Qa1 := sub [1, 1, 1, 1, 1] B7
def Jd2 : List Item := [.code Qa1]
def Qa2 := sub [1, 1, 1, 1, 0] B7
def Jd3 : List Item := .inRegion (opsOf Qa2) [1, 2, 3, 4, 5, 6, 7, 8, 9, 10, 11, 12, 13, 14, 15, 16, 17, 18, 19, 20, 21, 22, 23, 24, 25, 26, 27, 28, 29, 30, 31, 32, 33, 34, 35, 36, 37, 38, 39, 40, 41, 42, 43, 44, 45, 46, 47, 48, 49, 50, 51, 52, 53, 54, 55, 56, 57, 58, 59] :: Jd2
def Jd4 : List Item := .inRegion (opsOf Qa2) [3, 4, 5, 6, 7, 8, 9, 10, 11, 12, 13, 14, 15, 16, 17, 18, 19, 20, 21, 22, 23, 24, 25, 26, 27, 28, 29, 30, 31, 32, 33, 34, 35, 36, 37, 38, 39, 40, 41, 42, 43, 44, 45, 46, 47, 48, 49, 50, 51, 52, 53, 54, 55, 56, 57, 58, 59] :: Jd2
def Jd5 : List Item := .inRegion (opsOf Qa2) [6, 7, 8, 9, 10, 11, 12, 13, 14, 15, 16, 17, 18, 19, 20, 21, 22, 23, 24, 25, 26, 27, 28, 29, 30, 31, 32, 33, 34, 35, 36, 37, 38, 39, 40, 41, 42, 43, 44, 45, 46, 47, 48, 49, 50, 51, 52, 53, 54, 55, 56, 57, 58, 59] :: Jd2
def Jd6 : List Item := .inRegion (opsOf Qa2) [14, 15, 16, 17, 18, 19, 20, 21, 22, 23, 24, 25, 26, 27, 28, 29, 30, 31, 32, 33, 34, 35, 36, 37, 38, 39, 40, 41, 42, 43, 44, 45, 46, 47, 48, 49, 50, 51, 52, 53, 54, 55, 56, 57, 58, 59] :: Jd2
def Jd7 : List Item := .inRegion (opsOf Qa2) [18, 19, 20, 21, 22, 23, 24, 25, 26, 27, 28, 29, 30, 31, 32, 33, 34, 35, 36, 37, 38, 39, 40, 41, 42, 43, 44, 45, 46, 47, 48, 49, 50, 51, 52, 53, 54, 55, 56, 57, 58, 59] :: Jd2
def Jd8 : List Item := .inRegion (opsOf Qa2) [20, 21, 22, 23, 24, 25, 26, 27, 28, 29, 30, 31, 32, 33, 34, 35, 36, 37, 38, 39, 40, 41, 42, 43, 44, 45, 46, 47, 48, 49, 50, 51, 52, 53, 54, 55, 56, 57, 58, 59] :: Jd2
def Jd9 : List Item := .inRegion (opsOf Qa2) [24, 25, 26, 27, 28, 29, 30, 31, 32, 33, 34, 35, 36, 37, 38, 39, 40, 41, 42, 43, 44, 45, 46, 47, 48, 49, 50, 51, 52, 53, 54, 55, 56, 57, 58, 59] :: Jd2
def Jda : List Item := .inRegion (opsOf Qa2) [27, 28, 29, 30, 31, 32, 33, 34, 35, 36, 37, 38, 39, 40, 41, 42, 43, 44, 45, 46, 47, 48, 49, 50, 51, 52, 53, 54, 55, 56, 57, 58, 59] :: Jd2
def Jdb : List Item := .inRegion (opsOf Qa2) [31, 32, 33, 34, 35, 36, 37, 38, 39, 40, 41, 42, 43, 44, 45, 46, 47, 48, 49, 50, 51, 52, 53, 54, 55, 56, 57, 58, 59] :: Jd2
def Jdc : List Item := .inRegion (opsOf Qa2) [33, 34, 35, 36, 37, 38, 39, 40, 41, 42, 43, 44, 45, 46, 47, 48, 49, 50, 51, 52, 53, 54, 55, 56, 57, 58, 59] :: Jd2
def Jdd : List Item := .inRegion (opsOf Qa2) [37, 38, 39, 40, 41, 42, 43, 44, 45, 46, 47, 48, 49, 50, 51, 52, 53, 54, 55, 56, 57, 58, 59] :: Jd2
def Jde : List Item := .inRegion (opsOf Qa2) [39, 40, 41, 42, 43, 44, 45, 46, 47, 48, 49, 50, 51, 52, 53, 54, 55, 56, 57, 58, 59] :: Jd2
def Jdf : List Item := .inRegion (opsOf Qa2) [42, 43, 44, 45, 46, 47, 48, 49, 50, 51, 52, 53, 54, 55, 56, 57, 58, 59] :: Jd2
def Jdg : List Item := .inRegion (opsOf Qa2) [46, 47, 48, 49, 50, 51, 52, 53, 54, 55, 56, 57, 58, 59] :: Jd2
def Jdh : List Item := .inRegion (opsOf Qa2) [49, 50, 51, 52, 53, 54, 55, 56, 57, 58, 59] :: Jd2
def Jdi : List Item := .inRegion (opsOf Qa2) [53, 54, 55, 56, 57, 58, 59] :: Jd2
def Jdj : List Item := .inRegion (opsOf Qa2) [55, 56, 57, 58, 59] :: Jd2
def Jdk : List Item := .inRegion (opsOf Qa2) [51, 52, 53, 54, 55, 56, 57, 58, 59] :: Jd2
def Jdl : List Item := .inRegion (opsOf Qa2) [45, 46, 47, 48, 49, 50, 51, 52, 53, 54, 55, 56, 57, 58, 59] :: Jd2
def Jdm : List Item := .inRegion (opsOf Qa2) [59] :: Jd2
def Jdn : List Item := .inRegion (opsOf Qa2) [38, 39, 40, 41, 42, 43, 44, 45, 46, 47, 48, 49, 50, 51, 52, 53, 54, 55, 56, 57, 58, 59] :: Jd2
def Jdo : List Item := .inRegion (opsOf Qa2) [52, 53, 54, 55, 56, 57, 58, 59] :: Jd2
def Jdp : List Item := .inRegion (opsOf Qa2) [32, 33, 34, 35, 36, 37, 38, 39, 40, 41, 42, 43, 44, 45, 46, 47, 48, 49, 50, 51, 52, 53, 54, 55, 56, 57, 58, 59] :: Jd2
def Jdq : List Item := .inRegion (opsOf Qa2) [] :: Jd2
def Qa3 := sub [1, 0, 1, 0, 1] B7
def Jdr : List Item := .code Qa3 :: Jcx

def Post.z3m (r : Bool × (List (List (ByteArray × (List Int))))) (v : Value) (w' : World) : Prop :=
 ∃ S' Ee0, v = .bool r.1 ∧ Ext S0 w0 S' w' ∧ Hp nz wz S' w' ((none, .seg 65 Ee0) :: Lr) ∧ Pl (oMap Value.string (kSl (kInt .u64))) S' w' Ee0 r.2

theorem W.z3m (x0 : ByteArray) (x1 : Int) (u1 : List (List (ByteArray × (List Int)))) (r : Bool × (List (List (ByteArray × (List Int))))) (h : M.tidepolelaw13_PostVoid x0 x1 u1 = some r) {nz wz S0 w0 Lr} (u2) (p0 : Hp nz wz S0 w0 ((none, .seg 65 u2) :: Lr)) (u3 : Pl (oMap Value.string (kSl (kInt .u64))) S0 w0 u2 u1) :
  Calls Try.prog 7 #[.string x0, .u x1] w0 (Rets (Post.z3m nz wz S0 w0 Lr r)) := by
 refine calls_of_goes (fn := Try.f7) (c := B7) (by kernel_rfl) (by kernel_rfl) 66 (by kernel_rfl) ?_
 refine Goes.jp 68 [(0, .string x0), (1, .u x1)] (fun junk => ?_)
 delta M.tidepolelaw13_PostVoid at h
 refine Goes.rn 7 [(4, .bool false)] Jcz ?_
 refine bind_some' h fun y1 e2 h => ?_
 refine Goes.cal (kc 8 [] #[]) 7 4 8 _ (W.z2z y1 e2  p0 ) ?_
 rintro _ w2 ⟨S2, rfl, z2, p2⟩
 refine Goes.rn 2 [(8, .bool (!y1))] Jcy ?_
 refine ite_some h (fun h3 h => ?_) (fun h3 h => ?_)
 ·
  rw [h3]
  refine Goes.rn 8 [(5, .pointer none)] Jd1 ?_
  refine Op_.alloc 69 6 0 (.agg #[.map none]) [.map none] p2 Goes.v (by kernel_rfl) (by kernel_rfl) ?_
  intro b4 w3 z3 p3
  refine Goes.rn 4 [(9, .pointer none)] Jd3 ?_
  refine bind_some' h fun y6 e7 h => ?_
  refine Goes.cal (kc 42 [9] #[47]) 10 4 42 _ (W.z38 y6 e7  p3 ) ?_
  rintro _ w4 ⟨S4, rfl, z4, p4⟩
  refine Goes.rn 1 [(11, .bool true)] Jd4 ?_
  refine bind_some' h fun y8 e9 h => ?_
  refine Goes.cal (kc 42 [6] #[69]) 12 4 42 _ (W.z3a y8 e9 b4 p4 ) ?_
  rintro _ w5 ⟨S5, rfl, z5, p5⟩
  refine Goes.rn 2 [(13, .bool true), (14, .bool true)] Jd5 ?_
  have p5 := p5.fr 1
  refine bind_some' h fun y10 e11 h => ?_
  refine Goes.cal (kc 32 [] #[]) 15 47 32 _ (W.z0 u1 y10 e11 u2 p5 (u3.ext (((z2.trans z3).trans z4).trans z5))) ?_
  rintro _ w6 ⟨S6, ud6, ud7, ud8, rfl, z6, p6, ud9, uda⟩
  refine bind_some' h fun y13 e14 h => ?_
  refine Goes.cal (kc 42 [15] #[47]) 16 4 42 _ (W.z3b y10.1 y13 e14 ud6 ud7 p6 ud9) ?_
  rintro _ w7 ⟨S7, rfl, z7, p7⟩
  have p7 := p7.dp 0
  refine Goes.rn 6 [(17, .bool (!false)), (18, .bool (!false)), (19, .bool (!false)), (20, .pointer none), (21, .string x0), (22, .u x1)] Jd6 ?_
  refine bind_some' h fun y15 e16 h => ?_
  refine Goes.cal (kc 33 [20, 21, 22] #[47, 9, 35]) 23 25 33 _ (W.z3c x0 x1 y10.2 y15 e16 ud8 p7 (uda.ext z7)) ?_
  rintro _ w8 ⟨S8, rfl, z8, p8⟩
  refine Goes.rn 3 [(24, .bool (decide (y15 = 1))), (25, .bool (decide (y15 = 1))), (26, .bool (decide (y15 = 1)))] Jd7 ?_
  refine ite_some h (fun h17 h => ?_) (fun h17 h => ?_)
  ·
   rw [decide_eq_true h17]
   refine Goes.rn 2 [(27, .string x0), (28, .u x1)] Jd8 ?_
   have p8 := (p8.fr 0).fr 1
   refine bind_some' h fun y18 e19 h => ?_
   refine Goes.cal (kc 33 [6, 27, 28] #[69, 9, 35]) 29 25 33 _ (W.z3d x0 x1 y10.2 y18 e19 b4 ud8 p8 (uda.ext (z7.trans z8))) ?_
   rintro _ w9 ⟨S9, rfl, z9, p9⟩
   refine Goes.rn 3 [(30, .bool (decide (y18 = 1))), (31, .bool (decide (y18 = 1))), (32, .bool (decide (y18 = 1)))] Jd9 ?_
   refine ite_some h (fun h20 h => ?_) (fun h20 h => ?_)
   ·
    rw [decide_eq_true h20]
    refine Goes.rn 3 [(33, .pointer none), (34, .string x0), (35, .u x1)] Jda ?_
    have p9 := p9.fr 1
    refine bind_some' h fun y21 e22 h => ?_
    refine Goes.cal (kc 35 [33, 34, 35] #[47, 9, 35]) 36 25 35 _ (W.z3e x0 x1 y10.2 y21 e22 ud8 p9 (uda.ext ((z7.trans z8).trans z9))) ?_
    rintro _ w10 ⟨S10, rfl, z10, p10⟩
    refine Goes.rn 3 [(37, .bool (decide (y21 = 1))), (38, .bool (decide (y21 = 1))), (39, .bool (decide (y21 = 1)))] Jdb ?_
    refine ite_some h (fun h23 h => ?_) (fun h23 h => ?_)
    ·
     rw [decide_eq_true h23]
     refine Goes.rn 2 [(40, .string x0), (41, .u x1)] Jdc ?_
     have p10 := (p10.fr 0).fr 1
     refine bind_some' h fun y24 e25 h => ?_
     refine Goes.cal (kc 35 [6, 40, 41] #[69, 9, 35]) 42 25 35 _ (W.z3f x0 x1 y10.2 y24 e25 b4 ud8 p10 (uda.ext (((z7.trans z8).trans z9).trans z10))) ?_
     rintro _ w11 ⟨S11, rfl, z11, p11⟩
     refine Goes.rn 3 [(43, .bool (decide (y24 = 1))), (44, .bool (decide (y24 = 1))), (45, .bool (decide (y24 = 1)))] Jdd ?_
     refine ite_some h (fun h26 h => ?_) (fun h26 h => ?_)
     ·
      rw [decide_eq_true h26]
      refine Goes.rn 2 [(46, .pointer none), (47, .string x0)] Jde ?_
      have p11 := p11.fr 1
      refine bind_some' h fun y27 e28 h => ?_
      refine Goes.cal (kc 37 [46, 47] #[47, 9]) 48 22 37 _ (W.z3g x0 y10.2 y27 e28 ud8 p11 (uda.ext ((((z7.trans z8).trans z9).trans z10).trans z11))) ?_
      rintro _ w12 ⟨S12, rfl, z12, p12⟩
      refine Goes.rn 2 [(49, .i 0), (50, .string x0)] Jdf ?_
      have p12 := (p12.fr 0).fr 1
      refine bind_some' h fun y29 e30 h => ?_
      refine Goes.cal (kc 37 [6, 50] #[69, 9]) 51 22 37 _ (W.z3h x0 y10.2 y29 e30 b4 ud8 p12 (uda.ext (((((z7.trans z8).trans z9).trans z10).trans z11).trans z12))) ?_
      rintro _ w13 ⟨S13, rfl, z13, p13⟩
      refine Goes.rn 3 [(52, .i 0), (53, .i 0), (54, .pointer none)] Jdg ?_
      have p13 := p13.fr 1
      refine bind_some' h fun y31 e32 h => ?_
      refine Goes.cal (kc 39 [54] #[47]) 55 57 39 _ (W.z3i y10.2 y31 e32 ud8 p13 (uda.ext ((((((z7.trans z8).trans z9).trans z10).trans z11).trans z12).trans z13))) ?_
      rintro _ w14 ⟨S14, rfl, z14, p14⟩
      refine Goes.rn 2 [(56, .i 0), (57, .i 0)] Jdh ?_
      have p14 := (p14.fr 0).fr 1
      refine bind_some' h fun y33 e34 h => ?_
      refine Goes.cal (kc 39 [6] #[69]) 58 57 39 _ (W.z3j y10.2 y33 e34 b4 ud8 p14 (uda.ext (((((((z7.trans z8).trans z9).trans z10).trans z11).trans z12).trans z13).trans z14))) ?_
      rintro _ w15 ⟨S15, rfl, z15, p15⟩
      refine Goes.rn 3 [(59, .i 0), (60, .i 0), (61, .pointer none)] Jdi ?_
      have p15 := p15.fr 1
      refine bind_some' h fun y35 e36 h => ?_
      refine Goes.cal (kc 40 [61] #[47]) 62 3 40 _ (W.z3k y10.2 y35 e36 ud8 p15 (uda.ext ((((((((z7.trans z8).trans z9).trans z10).trans z11).trans z12).trans z13).trans z14).trans z15))) ?_
      rintro _ w16 ⟨S16, rfl, z16, p16⟩
      refine Goes.rn 1 [(63, .i (wr .i64 (0 + y35)))] Jdj ?_
      have p16 := (p16.fr 0).fr 1
      refine bind_some' h fun y37 e38 h => ?_
      refine Goes.cal (kc 40 [6] #[69]) 64 3 40 _ (W.z3l y10.2 y37 e38 b4 ud8 p16 (uda.ext (((((((((z7.trans z8).trans z9).trans z10).trans z11).trans z12).trans z13).trans z14).trans z15).trans z16))) ?_
      rintro _ w17 ⟨S17, rfl, z17, p17⟩
      have p17 := p17.dp 0
      refine Goes.rn 5 [(65, .i (wr .i64 ((wr .i64 (0 + y35)) + y37))), (66, .bool (decide (wr .i64 ((wr .i64 (0 + y35)) + y37) = 0))), (67, .bool (decide (wr .i64 ((wr .i64 (0 + y35)) + y37) = 0))), (4, .bool (decide (wr .i64 ((wr .i64 (0 + y35)) + y37) = 0)))] Jd2 ?_
      obtain rfl := Option.some.inj h
      exact Goes.rt Try.f7 (.bool (decide (wr .i64 ((wr .i64 (0 + y35)) + y37) = 0))) ⟨S17, ud8, rfl, (((((((((((((((((Ext.refl S0 w0).trans z2).trans z3).trans z4).trans z5).trans z6).trans z7).trans z8).trans z9).trans z10).trans z11).trans z12).trans z13).trans z14).trans z15).trans z16).trans z17), p17, (uda.ext ((((((((((z7.trans z8).trans z9).trans z10).trans z11).trans z12).trans z13).trans z14).trans z15).trans z16).trans z17))⟩
     ·
      rw [decide_eq_false h26]
      refine Goes.rn 14 [(46, undef), (47, undef), (48, undef), (49, undef), (50, undef), (51, undef), (52, undef), (53, undef), (54, undef), (55, undef), (56, undef), (57, undef), (58, undef), (59, undef)] Jdk ?_
      refine Goes.rn 10 [(60, undef), (61, undef), (62, undef), (63, undef), (64, undef), (65, undef), (66, undef), (67, .bool false), (4, .bool false)] Jd2 ?_
      obtain rfl := Option.some.inj h
      have p11 := p11.dp 0
      exact Goes.rt Try.f7 (.bool false) ⟨S11, ud8, rfl, (((((((((((Ext.refl S0 w0).trans z2).trans z3).trans z4).trans z5).trans z6).trans z7).trans z8).trans z9).trans z10).trans z11), p11, (uda.ext ((((z7.trans z8).trans z9).trans z10).trans z11))⟩
    ·
     rw [decide_eq_false h23]
     refine Goes.rn 14 [(40, undef), (41, undef), (42, undef), (43, undef), (44, .bool false), (45, .bool false), (46, undef), (47, undef), (48, undef), (49, undef), (50, undef), (51, undef), (52, undef), (53, undef)] Jdl ?_
     refine Goes.rn 14 [(54, undef), (55, undef), (56, undef), (57, undef), (58, undef), (59, undef), (60, undef), (61, undef), (62, undef), (63, undef), (64, undef), (65, undef), (66, undef), (67, .bool false)] Jdm ?_
     refine Goes.rn 2 [(4, .bool false)] Jd2 ?_
     obtain rfl := Option.some.inj h
     have p10 := p10.dp 1
     exact Goes.rt Try.f7 (.bool false) ⟨S10, ud8, rfl, ((((((((((Ext.refl S0 w0).trans z2).trans z3).trans z4).trans z5).trans z6).trans z7).trans z8).trans z9).trans z10), p10, (uda.ext (((z7.trans z8).trans z9).trans z10))⟩
   ·
    rw [decide_eq_false h20]
    refine Goes.rn 14 [(33, undef), (34, undef), (35, undef), (36, undef), (37, undef), (38, .bool false), (39, .bool false), (40, undef), (41, undef), (42, undef), (43, undef), (44, .bool false), (45, .bool false), (46, undef)] Jdn ?_
    refine Goes.rn 14 [(47, undef), (48, undef), (49, undef), (50, undef), (51, undef), (52, undef), (53, undef), (54, undef), (55, undef), (56, undef), (57, undef), (58, undef), (59, undef), (60, undef)] Jdo ?_
    refine Goes.rn 9 [(61, undef), (62, undef), (63, undef), (64, undef), (65, undef), (66, undef), (67, .bool false), (4, .bool false)] Jd2 ?_
    obtain rfl := Option.some.inj h
    have p9 := p9.dp 0
    exact Goes.rt Try.f7 (.bool false) ⟨S9, ud8, rfl, (((((((((Ext.refl S0 w0).trans z2).trans z3).trans z4).trans z5).trans z6).trans z7).trans z8).trans z9), p9, (uda.ext ((z7.trans z8).trans z9))⟩
  ·
   rw [decide_eq_false h17]
   refine Goes.rn 14 [(27, undef), (28, undef), (29, undef), (30, undef), (31, .bool false), (32, .bool false), (33, undef), (34, undef), (35, undef), (36, undef), (37, undef), (38, .bool false), (39, .bool false), (40, undef)] Jdp ?_
   refine Goes.rn 14 [(41, undef), (42, undef), (43, undef), (44, .bool false), (45, .bool false), (46, undef), (47, undef), (48, undef), (49, undef), (50, undef), (51, undef), (52, undef), (53, undef), (54, undef)] Jdg ?_
   refine Goes.rn 14 [(55, undef), (56, undef), (57, undef), (58, undef), (59, undef), (60, undef), (61, undef), (62, undef), (63, undef), (64, undef), (65, undef), (66, undef), (67, .bool false), (4, .bool false)] Jdq ?_
   refine Goes.rn 1 [] Jd2 ?_
   obtain rfl := Option.some.inj h
   have p8 := p8.dp 1
   exact Goes.rt Try.f7 (.bool false) ⟨S8, ud8, rfl, ((((((((Ext.refl S0 w0).trans z2).trans z3).trans z4).trans z5).trans z6).trans z7).trans z8), p8, (uda.ext (z7.trans z8))⟩
 ·
  have h3' : y1 = false := by simpa using h3
  rw [h3']
  refine Goes.rn 5 [(4, .bool false)] Jdr ?_
  obtain rfl := Option.some.inj h
  exact Goes.rt Try.f7 (.bool false) ⟨S2, u2, rfl, ((Ext.refl S0 w0).trans z2), p2, (u3.ext z2)⟩

end

end Go.Gx
