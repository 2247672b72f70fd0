import Derived.Test.YtemokppdnkiejaaDoorWMka

set_option linter.unusedVariables false

set_option maxRecDepth 100000

set_option maxHeartbeats 4000000

namespace Go.Gx

open Go.RowKit Go.Proofs

variable (nz : Nat) (wz : World) (S0 : Fz) (w0 : World) (Lr : List Ent)

noncomputable section

def Q54 := sub [1] B53
def J6n : List Item := [.code Q54]
def J6o : List Item := .inBlock 0 :: J6n
def Q55 := sub [0, 1, 0, 0] B53
def J6p : List Item := .inLoop Q55 :: J6o
def J6q : List Item := .code Q55 :: J6p
def Q56 := sub [0, 1, 0, 0, 1, 1, 1] B53
def J6r : List Item := .code Q56 :: J6p
def J6s : List Item := .inBlock 1 :: J6r
def Q57 := sub [0, 1, 0, 0, 1, 1, 0, 0, 1, 1] B53
def J6t : List Item := .code Q57 :: J6s
def Q58 := sub [1, 1, 1] B35
def J6u : List Item := [.code Q58]
def J6v : List Item := .inBlock 0 :: J6u
def J6w : List Item := .inBlock 1 :: J6v
def Q59 := sub [1, 1, 0, 1, 0, 1, 1, 1, 1, 1, 0, 1, 0, 0] B35
def J6x : List Item := .inLoop Q59 :: J6w
def J6y : List Item := .code Q59 :: J6x
def J6z : List Item := [.inBlock 0]
def Q5a := sub [1, 0, 0] B56
def J70 : List Item := .inLoop Q5a :: J6z
def J71 : List Item := .code Q5a :: J70
def Q5b := sub [1, 0, 0, 1, 1, 1] B56
def J72 : List Item := .code Q5b :: J70
def J73 : List Item := .inBlock 1 :: J72
def Q5c := sub [1, 0, 0, 1, 1, 0, 0, 1, 1, 1] B56
def J74 : List Item := .code Q5c :: J73
def Q5d := sub [1] B35
def J75 : List Item := [.code Q5d]
def Q5e := sub [0] B35
def J76 : List Item := .inRegion (opsOf Q5e) [0] :: J75
def Q5f := sub [1, 1, 0, 1] B35
def J77 : List Item := .code Q5f :: J6u
def Q5g := sub [1, 1, 0, 0] B35
def J78 : List Item := .inRegion (opsOf Q5g) [1] :: J77
def Q5h := sub [1, 1, 0, 1, 0, 1] B35
def J79 : List Item := .code Q5h :: J6v
def Q5i := sub [1, 1, 0, 1, 0, 1, 0, 1] B35
def J7a : List Item := .code Q5i :: J6v
def Q5j := sub [1, 1, 0, 1, 0, 1, 0, 0] B35
def J7b : List Item := .inRegion (opsOf Q5j) [2, 3, 4, 5] :: J7a
def J7c : List Item := .inRegion (opsOf Q5j) [5] :: J7a
def Q5k := sub [1, 1, 0, 1, 0, 1, 1, 1] B35
def J7d : List Item := .code Q5k :: J6v
def Q5l := sub [1, 1, 0, 1, 0, 1, 1, 1, 0, 1] B35
def J7e : List Item := .code Q5l :: J6v
def Q5m := sub [1, 1, 0, 1, 0, 1, 1, 1, 0, 0] B35
def J7f : List Item := .inRegion (opsOf Q5m) [2, 3, 4] :: J7e
def J7g : List Item := .inRegion (opsOf Q5m) [4] :: J7e
def Q5n := sub [1, 1, 0, 1, 0, 1, 1, 1, 1, 1] B35
def J7h : List Item := .code Q5n :: J6v
def Q5o := sub [1, 1, 0, 1, 0, 1, 1, 1, 1, 1, 0, 1] B35
def J7i : List Item := .code Q5o :: J6v
def Q5p := sub [1, 1, 0, 1, 0, 1, 1, 1, 1, 1, 0, 0] B35
def J7j : List Item := .inRegion (opsOf Q5p) [1, 2, 3] :: J7i
def Q5q := sub [1, 1, 0, 1, 0, 1, 1, 1, 1, 1, 1, 1] B35
def J7k : List Item := .code Q5q :: J6v
def Q5r := sub [1, 1, 0, 1, 0, 1, 1, 1, 1, 1, 1, 1, 0] B35
def J7l : List Item := .inRegion (opsOf Q5r) [1, 2, 3, 4] :: J6v
def J7m : List Item := .inRegion (opsOf Q5r) [3, 4] :: J6v
def Q5s := sub [1, 1, 1, 1] B35
def J7n : List Item := [.code Q5s]
def Q5t := sub [1, 1, 1, 0, 1, 0] B35
def J7o : List Item := .inRegion (opsOf Q5t) [3] :: J7n
def J7p : List Item := [.inRegion (opsOf Q5s) [3]]
def Q5u := sub [1, 0, 0, 1, 1] B56
def J7q : List Item := .code Q5u :: J70
def Q5v := sub [1, 0, 0, 1, 0] B56
def J7r : List Item := .code Q5v :: J7q
def Q5w := sub [1, 0, 0, 1, 1, 0, 0, 1] B56
def J7s : List Item := .code Q5w :: J73
def Q5x := sub [1, 0, 0, 1, 1, 0, 0, 0] B56
def J7t : List Item := .inRegion (opsOf Q5x) [1, 2, 3, 4, 5] :: J7s
def J7u : List Item := .inRegion (opsOf Q5x) [5] :: J7s
def Q5y := sub [1, 0, 0, 1, 1, 0, 0, 1, 1, 0, 1] B56
def J7v : List Item := .code Q5y :: J74
def Q5z := sub [1, 0, 0, 1, 1, 0, 0, 1, 1, 0, 0] B56
def J7w : List Item := .inRegion (opsOf Q5z) [] :: J7v
def Q60 := sub [1, 0, 0, 1, 1, 0, 0, 1, 1, 0, 1, 0] B56
def J7x : List Item := .code Q60 :: J74
def J7y : List Item := .inRegion (opsOf Q5c) [1, 2, 3] :: J73
def J7z : List Item := .inRegion (opsOf Q5c) [3] :: J73
def Q61 := sub [1] B86
def J80 : List Item := [.code Q61]
def Q62 := sub [0] B86
def J81 : List Item := .code Q62 :: J80
def J82 : List Item := [.inRegion (opsOf Q61) [0, 1, 2, 3]]
def J83 : List Item := [.inRegion (opsOf Q61) [3]]
def Q63 := sub [1] B85
def J84 : List Item := [.code Q63]
def Q64 := sub [0] B85
def J85 : List Item := .code Q64 :: J84
def J86 : List Item := [.inRegion (opsOf Q63) [0, 1, 2, 3]]
def J87 : List Item := [.inRegion (opsOf Q63) [3]]
def Q65 := sub [] B71
def J88 : List Item := [.inRegion (opsOf Q65) [0, 1, 2, 3]]
def J89 : List Item := [.inRegion (opsOf Q65) [3]]
def Q66 := sub [1, 1, 1, 0, 1] B35
def J8a : List Item := .code Q66 :: J7n
def Q67 := sub [1, 1, 0, 1, 0, 1, 1, 1, 1, 1, 0, 1, 0, 0, 1, 1] B35
def J8b : List Item := .code Q67 :: J6x
def Q68 := sub [1, 1, 0, 1, 0, 1, 1, 1, 1, 1, 0, 1, 0, 0, 1, 0] B35
def J8c : List Item := .code Q68 :: J8b
def Q69 := sub [1, 1, 0, 1, 0, 1, 1, 1, 1, 1, 0, 1, 0, 0, 1, 1, 1] B35
def J8d : List Item := .code Q69 :: J6x
def J8e : List Item := .inBlock 2 :: J8d
def Q6a := sub [1, 1, 0, 1, 0, 1, 1, 1, 1, 1, 0, 1, 0, 0, 1, 1, 0, 0, 1] B35
def J8f : List Item := .code Q6a :: J8e
def Q6b := sub [1, 1, 0, 1, 0, 1, 1, 1, 1, 1, 0, 1, 0, 0, 1, 1, 0, 0, 0] B35
def J8g : List Item := .inRegion (opsOf Q6b) [0, 1, 2, 3] :: J8f
def J8h : List Item := .inRegion (opsOf Q6a) [2, 3, 4, 5, 6] :: J8e
def Q6c := sub [0, 1, 0, 0, 1, 1] B53
def J8i : List Item := .code Q6c :: J6p
def Q6d := sub [0, 1, 0, 0, 1, 0] B53
def J8j : List Item := .code Q6d :: J8i
def Q6e := sub [0, 1, 0, 0, 1, 1, 0, 0, 1] B53
def J8k : List Item := .code Q6e :: J6s
def Q6f := sub [0, 1, 0, 0, 1, 1, 0, 0, 0] B53
def J8l : List Item := .inRegion (opsOf Q6f) [1, 2, 3, 4, 5] :: J8k
def J8m : List Item := .inRegion (opsOf Q6f) [5] :: J8k
def Q6g := sub [0, 1, 0, 0, 1, 1, 0, 0, 1, 0, 1] B53
def J8n : List Item := .code Q6g :: J6t
def Q6h := sub [0, 1, 0, 0, 1, 1, 0, 0, 1, 0, 1, 0, 1] B53
def J8o : List Item := .code Q6h :: J6t
def Q6i := sub [0, 1, 0, 0, 1, 1, 0, 0, 1, 0, 1, 0, 0] B53
def J8p : List Item := .inRegion (opsOf Q6i) [3, 4, 5, 6] :: J8o
def J8q : List Item := .inRegion (opsOf Q6h) [3, 4, 5, 6, 7] :: J6t
def J8r : List Item := .inRegion (opsOf Q6h) [7] :: J6t
def Q6j := sub [1, 1] B53
def J8s : List Item := [.code Q6j]
def Q6k := sub [1, 1, 0] B53
def J8t : List Item := [.inRegion (opsOf Q6k) [3]]
def J8u : List Item := .inRegion (opsOf Q57) [1, 2, 3] :: J6s
def J8v : List Item := .inRegion (opsOf Q57) [3] :: J6s

def Post.zw (gx0 : Nat) (r : List T48) (v : Value) (w' : World) : Prop :=
 ∃ S' u2c u2d u2e u2f, v = .tuple #[] ∧ Ext S0 w0 S' w' ∧ Hp nz wz S' w' ((some gx0, .row 78 [.slice (Gp u2c) u2d u2e] 1 0) :: (u2c, .row 49 u2f (u2e * kT48.size) 0) :: Lr) ∧ Els kT48 S' w' u2f r ∧ r.length = u2d

def Post.zx (gx0 : Nat) (r : List T48) (v : Value) (w' : World) : Prop :=
 ∃ S' u2c u2d u2e u2f, v = .tuple #[] ∧ Ext S0 w0 S' w' ∧ Hp nz wz S' w' ((some gx0, .row 78 [.slice (Gp u2c) u2d u2e] 1 0) :: (u2c, .row 49 u2f (u2e * kT48.size) 0) :: Lr) ∧ Els kT48 S' w' u2f r ∧ r.length = u2d

def Post.zy (gx0 : Nat) (r : List T48) (v : Value) (w' : World) : Prop :=
 ∃ S' u2c u2d u2e u2f, v = .tuple #[] ∧ Ext S0 w0 S' w' ∧ Hp nz wz S' w' ((some gx0, .row 78 [.slice (Gp u2c) u2d u2e] 1 0) :: (u2c, .row 49 u2f (u2e * kT48.size) 0) :: Lr) ∧ Els kT48 S' w' u2f r ∧ r.length = u2d

def Post.zz (gx1 : Nat) (r : List T48) (v : Value) (w' : World) : Prop :=
 ∃ S' u2c u2d u2e u2f, v = .tuple #[] ∧ Ext S0 w0 S' w' ∧ Hp nz wz S' w' ((some gx1, .row 78 [.slice (Gp u2c) u2d u2e] 1 0) :: (u2c, .row 49 u2f (u2e * kT48.size) 0) :: Lr) ∧ Els kT48 S' w' u2f r ∧ r.length = u2d

def Post.z10 (gx1 : Nat) (r : List T48) (v : Value) (w' : World) : Prop :=
 ∃ S' u2c u2d u2e u2f, v = .tuple #[] ∧ Ext S0 w0 S' w' ∧ Hp nz wz S' w' ((some gx1, .row 78 [.slice (Gp u2c) u2d u2e] 1 0) :: (u2c, .row 49 u2f (u2e * kT48.size) 0) :: Lr) ∧ Els kT48 S' w' u2f r ∧ r.length = u2d

def Post.z11 (gx1 : Nat) (r : List T48) (v : Value) (w' : World) : Prop :=
 ∃ S' u2c u2d u2e u2f, v = .tuple #[] ∧ Ext S0 w0 S' w' ∧ Hp nz wz S' w' ((some gx1, .row 78 [.slice (Gp u2c) u2d u2e] 1 0) :: (u2c, .row 49 u2f (u2e * kT48.size) 0) :: Lr) ∧ Els kT48 S' w' u2f r ∧ r.length = u2d

def LF.zw : (List T48) × T27 × Int → (List T48) → Prop := fun ⟨u2g, x1, x2⟩ r => ∀ {nz wz S0 w0 Lr} [Gw nz wz] gx0 u2h u2i u2j u2k u2q u2r u2s (_ : Hp nz wz S0 w0 ((some gx0, .row 78 [.slice (Gp u2h) u2i u2j] 1 0) :: (u2h, .row 49 u2k (u2j * kT48.size) 0) :: Lr)) (_ : Els kT48 S0 w0 u2k u2g) (_ : u2g.length = u2i) (_ : x1.Set.length = 4) (_ : Rd kT27 S0 w0 u2q u2s x1.L) (_ : x1.L.length = u2r),
 Calls Tryd.prog 35 #[(pt gx0 0), (ag (.i x1.Kind :: U4 x1.Set [.slice u2q u2r u2s, .i x1.Min, .i x1.Max])), .i x2] w0 (Rets (Post.zw nz wz S0 w0 Lr gx0 r))

def LF.zx : (List T48) × (List T27) × Int → (List T48) → Prop := fun ⟨u2g, x1, x2⟩ r => ∀ {nz wz S0 w0 Lr} [Gw nz wz] gx0 u2h u2i u2j u2k Ax1 nx1 cx1 (_ : Hp nz wz S0 w0 ((some gx0, .row 78 [.slice (Gp u2h) u2i u2j] 1 0) :: (u2h, .row 49 u2k (u2j * kT48.size) 0) :: Lr)) (_ : Els kT48 S0 w0 u2k u2g) (_ : u2g.length = u2i) (_ : Rd kT27 S0 w0 Ax1 cx1 x1) (_ : x1.length = nx1),
 Calls Tryd.prog 53 #[(pt gx0 0), .slice Ax1 nx1 cx1, .i x2] w0 (Rets (Post.zx nz wz S0 w0 Lr gx0 r))

def L.z12 (gx0 : Nat) : (List T27) × Int × (List T27) × Int × Int × (List T48) → (List T48) → Prop := fun ⟨x1, x2, x9, x10, x11, u8⟩ r => ∀ S1 w1, Ext S0 w0 S1 w1 → ∀ Ax1 nx1 cx1 Ax9 nx9 cx9 u2c u2d u2e u2f (_ : Hp nz wz S1 w1 ((some gx0, .row 78 [.slice (Gp u2c) u2d u2e] 1 0) :: (u2c, .row 49 u2f (u2e * kT48.size) 0) :: Lr)) (_ : Rd kT27 S1 w1 Ax1 cx1 x1) (_ : x1.length = nx1) (_ : Rd kT27 S1 w1 Ax9 cx9 x9) (_ : x9.length = nx9) (_ : Els kT48 S1 w1 u2f u8) (_ : u8.length = u2d) (junk : Nat → Value),
 Goes Tryd.prog (base 53) J6q ⟨lfr 47 [(0, (pt gx0 0)), (1, .slice Ax1 nx1 cx1), (2, .i x2), (9, .slice Ax9 nx9 cx9), (10, .i x10), (11, .i x11)] junk, []⟩ w1 (Done Tryd.prog 53 (Rets (Post.zx nz wz S0 w0 Lr gx0 r)))

def LL.z12 : (List T27) × Int × (List T27) × Int × Int × (List T48) → (List T48) → Prop := fun a r => ∀ {nz wz S0 w0 Lr} [Gw nz wz] (gx0 : Nat), L.z12 nz wz S0 w0 Lr gx0 a r

def L.z13 (gx0 : Nat) : (List T27) × Int × T27 × (List T27) × Int × Int × (List T48) → (List T48) → Prop := fun ⟨x1, x2, x7v, x9, x10, x11, u8⟩ r => ∀ S1 w1, Ext S0 w0 S1 w1 → ∀ Ax1 nx1 cx1 gx7 u42 uh ui Ax9 nx9 cx9 u2c u2d u2e u2f (_ : Hp nz wz S1 w1 ((some gx7, .row 28 (.i x7v.Kind :: U4 x7v.Set [.slice u42 uh ui, .i x7v.Min, .i x7v.Max]) 8 0) :: (some gx0, .row 78 [.slice (Gp u2c) u2d u2e] 1 0) :: (u2c, .row 49 u2f (u2e * kT48.size) 0) :: Lr)) (_ : Rd kT27 S1 w1 Ax1 cx1 x1) (_ : x1.length = nx1) (_ : x7v.Set.length = 4) (_ : Rd kT27 S1 w1 u42 ui x7v.L) (_ : x7v.L.length = uh) (_ : Rd kT27 S1 w1 Ax9 cx9 x9) (_ : x9.length = nx9) (_ : Els kT48 S1 w1 u2f u8) (_ : u8.length = u2d) (junk : Nat → Value),
 Goes Tryd.prog (base 53) J6t ⟨lfr 47 [(0, (pt gx0 0)), (1, .slice Ax1 nx1 cx1), (2, .i x2), (7, (pt gx7 0)), (9, .slice Ax9 nx9 cx9), (10, .i x10), (11, .i x11)] junk, []⟩ w1 (Done Tryd.prog 53 (Rets (Post.zx nz wz S0 w0 Lr gx0 r)))

def LL.z13 : (List T27) × Int × T27 × (List T27) × Int × Int × (List T48) → (List T48) → Prop := fun a r => ∀ {nz wz S0 w0 Lr} [Gw nz wz] (gx0 : Nat), L.z13 nz wz S0 w0 Lr gx0 a r

def L.z14 (gx0 : Nat) : Int × (List T27) × Int × Int × (List T48) → (List T48) → Prop := fun ⟨x2, x29, x30, x31, u8⟩ r => ∀ S1 w1, Ext S0 w0 S1 w1 → ∀ u43 u44 u45 u2c u2d u2e u2f (_ : Hp nz wz S1 w1 ((some gx0, .row 78 [.slice (Gp u2c) u2d u2e] 1 0) :: (u2c, .row 49 u2f (u2e * kT48.size) 0) :: Lr)) (_ : Rd kT27 S1 w1 u43 u45 x29) (_ : x29.length = u44) (_ : Els kT48 S1 w1 u2f u8) (_ : u8.length = u2d) (junk : Nat → Value),
 Goes Tryd.prog (base 35) J6y ⟨lfr 59 [(0, (pt gx0 0)), (2, .i x2), (6, .slice none 0 0), (29, .slice u43 u44 u45), (30, .i x30), (31, .i x31)] junk, []⟩ w1 (Done Tryd.prog 35 (Rets (Post.zw nz wz S0 w0 Lr gx0 r)))

def LL.z14 : Int × (List T27) × Int × Int × (List T48) → (List T48) → Prop := fun a r => ∀ {nz wz S0 w0 Lr} [Gw nz wz] (gx0 : Nat), L.z14 nz wz S0 w0 Lr gx0 a r

def L.z15 (gx0 : Nat) : Int × (List T99) × (List T27) × Int × Int × (List T48) → (List T48) → Prop := fun ⟨x2, x6, x29, x30, x31, u8⟩ r => ∀ S1 w1, Ext S0 w0 S1 w1 → ∀ Gx6 nx6 cx6 u46 u43 u44 u45 u2c u2d u2e u2f (_ : Hp nz wz S1 w1 ((Gx6, .row 100 u46 (cx6 * (kT99 gx0).size) 0) :: (some gx0, .row 78 [.slice (Gp u2c) u2d u2e] 1 0) :: (u2c, .row 49 u2f (u2e * kT48.size) 0) :: Lr)) (_ : Els (kT99 gx0) S1 w1 u46 x6) (_ : x6.length = nx6) (_ : Rd kT27 S1 w1 u43 u45 x29) (_ : x29.length = u44) (_ : Els kT48 S1 w1 u2f u8) (_ : u8.length = u2d) (junk : Nat → Value),
 Goes Tryd.prog (base 35) J6y ⟨lfr 59 [(0, (pt gx0 0)), (2, .i x2), (6, .slice (Gp Gx6) nx6 cx6), (29, .slice u43 u44 u45), (30, .i x30), (31, .i x31)] junk, []⟩ w1 (Done Tryd.prog 35 (Rets (Post.zw nz wz S0 w0 Lr gx0 r)))

def LL.z15 : Int × (List T99) × (List T27) × Int × Int × (List T48) → (List T48) → Prop := fun a r => ∀ {nz wz S0 w0 Lr} [Gw nz wz] (gx0 : Nat), L.z15 nz wz S0 w0 Lr gx0 a r

def L.z16 (gx0 : Nat) : Int × (List T99) × (List T48) → (List T48) → Prop := fun ⟨x2, x6, u8⟩ r => ∀ S1 w1, Ext S0 w0 S1 w1 → ∀ Gx6 nx6 cx6 u46 u2c u2d u2e u2f (_ : Hp nz wz S1 w1 ((Gx6, .row 100 u46 (cx6 * (kT99 gx0).size) 0) :: (some gx0, .row 78 [.slice (Gp u2c) u2d u2e] 1 0) :: (u2c, .row 49 u2f (u2e * kT48.size) 0) :: Lr)) (_ : Els (kT99 gx0) S1 w1 u46 x6) (_ : x6.length = nx6) (_ : Els kT48 S1 w1 u2f u8) (_ : u8.length = u2d) (junk : Nat → Value),
 Goes Tryd.prog (base 35) J6v ⟨lfr 59 [(0, (pt gx0 0)), (2, .i x2), (6, .slice (Gp Gx6) nx6 cx6)] junk, []⟩ w1 (Done Tryd.prog 35 (Rets (Post.zw nz wz S0 w0 Lr gx0 r)))

def LL.z16 : Int × (List T99) × (List T48) → (List T48) → Prop := fun a r => ∀ {nz wz S0 w0 Lr} [Gw nz wz] (gx0 : Nat), L.z16 nz wz S0 w0 Lr gx0 a r

def LF.zy : (List T48) × (List T99) × Int → (List T48) → Prop := fun ⟨u2g, x1, x2⟩ r => ∀ {nz wz S0 w0 Lr} [Gw nz wz] gx0 u2h u2i u2j u2k Ax1 nx1 cx1 (_ : Hp nz wz S0 w0 ((some gx0, .row 78 [.slice (Gp u2h) u2i u2j] 1 0) :: (u2h, .row 49 u2k (u2j * kT48.size) 0) :: Lr)) (_ : Els kT48 S0 w0 u2k u2g) (_ : u2g.length = u2i) (_ : Rd (kT99 gx0) S0 w0 Ax1 cx1 x1) (_ : x1.length = nx1),
 Calls Tryd.prog 56 #[(pt gx0 0), .slice Ax1 nx1 cx1, .i x2] w0 (Rets (Post.zy nz wz S0 w0 Lr gx0 r))

def L.z17 (gx0 : Nat) : (List T99) × Int × (List T99) × Int × Int × (List T48) → (List T48) → Prop := fun ⟨x1, x2, x9, x10, x11, u8⟩ r => ∀ S1 w1, Ext S0 w0 S1 w1 → ∀ Ax1 nx1 cx1 Ax9 nx9 cx9 u2c u2d u2e u2f (_ : Hp nz wz S1 w1 ((some gx0, .row 78 [.slice (Gp u2c) u2d u2e] 1 0) :: (u2c, .row 49 u2f (u2e * kT48.size) 0) :: Lr)) (_ : Rd (kT99 gx0) S1 w1 Ax1 cx1 x1) (_ : x1.length = nx1) (_ : Rd (kT99 gx0) S1 w1 Ax9 cx9 x9) (_ : x9.length = nx9) (_ : Els kT48 S1 w1 u2f u8) (_ : u8.length = u2d) (junk : Nat → Value),
 Goes Tryd.prog (base 56) J71 ⟨lfr 35 [(0, (pt gx0 0)), (1, .slice Ax1 nx1 cx1), (2, .i x2), (9, .slice Ax9 nx9 cx9), (10, .i x10), (11, .i x11)] junk, []⟩ w1 (Done Tryd.prog 56 (Rets (Post.zy nz wz S0 w0 Lr gx0 r)))

def LL.z17 : (List T99) × Int × (List T99) × Int × Int × (List T48) → (List T48) → Prop := fun a r => ∀ {nz wz S0 w0 Lr} [Gw nz wz] (gx0 : Nat), L.z17 nz wz S0 w0 Lr gx0 a r

def L.z18 (gx0 : Nat) : (List T99) × Int × T99 × Int × (List T99) × Int × Int × (List T48) → (List T48) → Prop := fun ⟨x1, x2, x7v, x8, x9, x10, x11, u8⟩ r => ∀ S1 w1, Ext S0 w0 S1 w1 → ∀ Ax1 nx1 cx1 gx7 u47 Ax9 nx9 cx9 u2c u2d u2e u2f (_ : Hp nz wz S1 w1 ((some gx7, .row 100 [.i x7v.n, u47] 2 0) :: (some gx0, .row 78 [.slice (Gp u2c) u2d u2e] 1 0) :: (u2c, .row 49 u2f (u2e * kT48.size) 0) :: Lr)) (_ : Rd (kT99 gx0) S1 w1 Ax1 cx1 x1) (_ : x1.length = nx1) (_ : Rp1 (kC98 gx0) S1 w1 u47 x7v.code) (_ : Rd (kT99 gx0) S1 w1 Ax9 cx9 x9) (_ : x9.length = nx9) (_ : Els kT48 S1 w1 u2f u8) (_ : u8.length = u2d) (junk : Nat → Value),
 Goes Tryd.prog (base 56) J74 ⟨lfr 35 [(0, (pt gx0 0)), (1, .slice Ax1 nx1 cx1), (2, .i x2), (7, (pt gx7 0)), (8, .i x8), (9, .slice Ax9 nx9 cx9), (10, .i x10), (11, .i x11)] junk, []⟩ w1 (Done Tryd.prog 56 (Rets (Post.zy nz wz S0 w0 Lr gx0 r)))

def LL.z18 : (List T99) × Int × T99 × Int × (List T99) × Int × Int × (List T48) → (List T48) → Prop := fun a r => ∀ {nz wz S0 w0 Lr} [Gw nz wz] (gx0 : Nat), L.z18 nz wz S0 w0 Lr gx0 a r

def LF.zz : Int × (List T48) × T27 → (List T48) → Prop := fun ⟨x0, u48, x2⟩ r => ∀ {nz wz S0 w0 Lr} [Gw nz wz] ax1 gx1 u49 u4a u4b u4c ax2 u4d u4e u4f (_ : Hp nz wz S0 w0 ((some gx1, .row 78 [.slice (Gp u49) u4a u4b] 1 0) :: (u49, .row 49 u4c (u4b * kT48.size) 0) :: Lr)) (_ : Els kT48 S0 w0 u4c u48) (_ : u48.length = u4a) (_ : Cs S0 w0 ax1 [(pt gx1 0)]) (_ : x2.Set.length = 4) (_ : Rd kT27 S0 w0 u4d u4f x2.L) (_ : x2.L.length = u4e) (_ : Cs S0 w0 ax2 (.i x2.Kind :: U4 x2.Set [.slice u4d u4e u4f, .i x2.Min, .i x2.Max])),
 Calls Tryd.prog 71 #[.i x0, .pointer (some ax1), .pointer (some ax2)] w0 (Rets (Post.zz nz wz S0 w0 Lr gx1 r))

def L.z19 (gx0 : Nat) : (List T99) × Int × (List T99) × Int × Int × (List T48) → (List T48) → Prop := fun ⟨x1, x2, x9, x10, x11, u8⟩ r => ∀ S1 w1, Ext S0 w0 S1 w1 → ∀ Ax1 nx1 cx1 Ax9 nx9 cx9 u2c u2d u2e u2f (_ : Hp nz wz S1 w1 ((some gx0, .row 78 [.slice (Gp u2c) u2d u2e] 1 0) :: (u2c, .row 49 u2f (u2e * kT48.size) 0) :: Lr)) (_ : Rd (kT99 gx0) S1 w1 Ax1 cx1 x1) (_ : x1.length = nx1) (_ : Rd (kT99 gx0) S1 w1 Ax9 cx9 x9) (_ : x9.length = nx9) (_ : Els kT48 S1 w1 u2f u8) (_ : u8.length = u2d) (junk : Nat → Value),
 Goes Tryd.prog (base 56) J73 ⟨lfr 35 [(0, (pt gx0 0)), (1, .slice Ax1 nx1 cx1), (2, .i x2), (9, .slice Ax9 nx9 cx9), (10, .i x10), (11, .i x11)] junk, []⟩ w1 (Done Tryd.prog 56 (Rets (Post.zy nz wz S0 w0 Lr gx0 r)))

def LL.z19 : (List T99) × Int × (List T99) × Int × Int × (List T48) → (List T48) → Prop := fun a r => ∀ {nz wz S0 w0 Lr} [Gw nz wz] (gx0 : Nat), L.z19 nz wz S0 w0 Lr gx0 a r

def LF.z10 : Int × (List T48) × T27 → (List T48) → Prop := fun ⟨x0, u48, x2⟩ r => ∀ {nz wz S0 w0 Lr} [Gw nz wz] ax1 gx1 u49 u4a u4b u4c ax2 u4d u4e u4f (_ : Hp nz wz S0 w0 ((some gx1, .row 78 [.slice (Gp u49) u4a u4b] 1 0) :: (u49, .row 49 u4c (u4b * kT48.size) 0) :: Lr)) (_ : Els kT48 S0 w0 u4c u48) (_ : u48.length = u4a) (_ : Cs S0 w0 ax1 [(pt gx1 0)]) (_ : x2.Set.length = 4) (_ : Rd kT27 S0 w0 u4d u4f x2.L) (_ : x2.L.length = u4e) (_ : Cs S0 w0 ax2 (.i x2.Kind :: U4 x2.Set [.slice u4d u4e u4f, .i x2.Min, .i x2.Max])),
 Calls Tryd.prog 85 #[.i x0, .pointer (some ax1), .pointer (some ax2)] w0 (Rets (Post.z10 nz wz S0 w0 Lr gx1 r))

def LF.z11 : Int × (List T48) × Int × T27 → (List T48) → Prop := fun ⟨x0, u48, x2, x3⟩ r => ∀ {nz wz S0 w0 Lr} [Gw nz wz] ax1 gx1 u49 u4a u4b u4c ax2 ax3 u4g u4h u4i (_ : Hp nz wz S0 w0 ((some gx1, .row 78 [.slice (Gp u49) u4a u4b] 1 0) :: (u49, .row 49 u4c (u4b * kT48.size) 0) :: Lr)) (_ : Els kT48 S0 w0 u4c u48) (_ : u48.length = u4a) (_ : Cs S0 w0 ax1 [(pt gx1 0)]) (_ : Cs S0 w0 ax2 [.i x2]) (_ : x3.Set.length = 4) (_ : Rd kT27 S0 w0 u4g u4i x3.L) (_ : x3.L.length = u4h) (_ : Cs S0 w0 ax3 (.i x3.Kind :: U4 x3.Set [.slice u4g u4h u4i, .i x3.Min, .i x3.Max])),
 Calls Tryd.prog 86 #[.i x0, .pointer (some ax1), .pointer (some ax2), .pointer (some ax3)] w0 (Rets (Post.z11 nz wz S0 w0 Lr gx1 r))

def L.z1a (gx0 : Nat) : Int × (List T48) → (List T48) → Prop := fun ⟨x2, u8⟩ r => ∀ S1 w1, Ext S0 w0 S1 w1 → ∀ u2c u2d u2e u2f (_ : Hp nz wz S1 w1 ((some gx0, .row 78 [.slice (Gp u2c) u2d u2e] 1 0) :: (u2c, .row 49 u2f (u2e * kT48.size) 0) :: Lr)) (_ : Els kT48 S1 w1 u2f u8) (_ : u8.length = u2d) (junk : Nat → Value),
 Goes Tryd.prog (base 35) J6v ⟨lfr 59 [(0, (pt gx0 0)), (2, .i x2), (6, .slice none 0 0)] junk, []⟩ w1 (Done Tryd.prog 35 (Rets (Post.zw nz wz S0 w0 Lr gx0 r)))

def LL.z1a : Int × (List T48) → (List T48) → Prop := fun a r => ∀ {nz wz S0 w0 Lr} [Gw nz wz] (gx0 : Nat), L.z1a nz wz S0 w0 Lr gx0 a r

theorem W.z1b : (∀ a r, M.prog_writer_code a = some r → LF.zw a r) ∧ (∀ a r, M.prog_writer_code_l2 a = some r → LL.z1a a r) ∧ (∀ a r, M.prog_writer_row a = some r → LF.zy a r) ∧ (∀ a r, M.prog_writer_row_l0 a = some r → LL.z17 a r) ∧ (∀ a r, M.prog_writer_row_l1 a = some r → LL.z18 a r) ∧ (∀ a r, M.prog_writer_perhaps_1 a = some r → LF.z11 a r) ∧ (∀ a r, M.prog_writer_loop_1 a = some r → LF.z10 a r) ∧ (∀ a r, M.prog_writer_row_l2 a = some r → LL.z19 a r) ∧ (∀ a r, M.prog_writer_of_1 a = some r → LF.zz a r) ∧ (∀ a r, M.prog_writer_code_l1 a = some r → LL.z16 a r) ∧ (∀ a r, M.prog_writer_code_l0 a = some r → LL.z14 a r) ∧ (∀ a r, M.prog_writer_code_l3 a = some r → LL.z15 a r) ∧ (∀ a r, M.prog_writer_any a = some r → LF.zx a r) ∧ (∀ a r, M.prog_writer_any_l0 a = some r → LL.z12 a r) ∧ (∀ a r, M.prog_writer_any_l1 a = some r → LL.z13 a r) := by
 refine M.prog_writer_code.mutual_partial_correctness LF.zw LL.z1a LF.zy LL.z17 LL.z18 LF.z11 LF.z10 LL.z19 LF.zz LL.z16 LL.z14 LL.z15 LF.zx LL.z12 LL.z13 ?_ ?_ ?_ ?_ ?_ ?_ ?_ ?_ ?_ ?_ ?_ ?_ ?_ ?_ ?_
 ·
  intro u4j u4k u4l rec_prog_writer_any u4m u4n u4o ih_prog_writer_any ⟨u2g, x1, x2⟩ r h nz wz S0 w0 Lr iG gx0 u2h u2i u2j u2k u2q u2r u2s p0 u2l u2m u2n u2t u2u
  try dsimp only at h
  subst u2m
  subst u2u
  refine calls_of_goes (fn := Tryd.f35) (c := B35) (by kernel_rfl) (by kernel_rfl) 56 (by kernel_rfl) ?_
  refine Goes.jp 59 [(0, (pt gx0 0)), (1, (ag (.i x1.Kind :: U4 x1.Set [.slice u2q x1.L.length u2s, .i x1.Min, .i x1.Max]))), (2, .i x2)] (fun junk => ?_)
  refine Goes.rn 2 [] J76 ?_
  refine Op_.box 28 (.tmp 1) 4 0 (ag (.i x1.Kind :: U4 x1.Set [.slice u2q x1.L.length u2s, .i x1.Min, .i x1.Max])) (.i x1.Kind :: U4 x1.Set [.slice u2q x1.L.length u2s, .i x1.Min, .i x1.Max]) p0 Goes.v (by kernel_rfl) (by kernel_rfl) ?_
  intro b3 w2 z2 p2
  refine Goes.rn 9 [(6, .slice none 0 0), (9, (pt b3 0))] J78 ?_
  refine Goes.ld 3 (.tmp 9) 10 3 ⟨b3, 0, none⟩ (.i x1.Kind) (p2.c 0 0) ?_
  refine Goes.rn 7 [(12, .bool (decide (x1.Kind = 1))), (11, .bool (decide (x1.Kind = 1)))] J79 ?_
  refine ite_some h (fun h5 h => ?_) (fun h5 h => ?_)
  ·
   rw [decide_eq_true h5]
   refine Goes.rn 5 [(13, (pt gx0 0)), (14, (pt b3 1))] J7b ?_
   refine Goes.ldN 25 (.tmp 14) 15 25 ⟨b3, 1, none⟩ (U4 x1.Set []) (p2.pa 0 1) ?_
   refine Goes.rn 2 [(16, .i x2), (17, (ag (.i 1 :: U4 x1.Set [.i x2, .i 0])))] J7c ?_
   have p2 := (p2.fr 2).fr 2
   refine bind_some' h fun y6 e7 h => ?_
   refine Goes.cal (kc 36 [13, 17] #[76, 49]) 18 3 36 _ (W.zn u2g (⟨1, x1.Set, x2, 0⟩ : T48) y6 e7 gx0 u2h u2g.length u2j u2k p2 (u2l.ext z2) rfl u2n) ?_
   rintro _ w3 ⟨S3, u4p, u4q, u4r, u4s, rfl, z3, p3, u4t, rfl⟩
   have p3 := p3.dp 2
   refine Goes.rn 1 [] J7a ?_
   obtain rfl := Option.some.inj h
   exact Goes.rt Tryd.f35 (.tuple #[]) ⟨S3, u4p, y6.2.length, u4r, u4s, rfl, (((Ext.refl S0 w0).trans z2).trans z3), p3, u4t, rfl⟩
  ·
   rw [decide_eq_false h5]
   refine Goes.rn 6 [(20, .bool (decide (x1.Kind = 3))), (19, .bool (decide (x1.Kind = 3)))] J7d ?_
   refine ite_some h (fun h9 h => ?_) (fun h9 h => ?_)
   ·
    rw [decide_eq_true h9]
    refine Goes.rn 5 [(21, (pt gx0 0)), (22, (pt b3 5))] J7f ?_
    refine Goes.ld 26 (.tmp 22) 23 26 ⟨b3, 5, none⟩ (.slice u2q x1.L.length u2s) (p2.c 0 5) ?_
    refine Goes.rn 1 [(24, .i x2)] J7g ?_
    have p2 := (p2.fr 2).fr 2
    refine bind_some' h fun y10 e11 h => ?_
    refine Goes.cal (kc 53 [21, 23, 24] #[76, 26, 3]) 25 0 53 _ (ih_prog_writer_any (u2g, x1.L, x2) y10 e11 gx0 u2h u2g.length u2j u2k u2q x1.L.length u2s p2 (u2l.ext z2) rfl (u2t.ext z2) rfl) ?_
    rintro _ w4 ⟨S4, u4u, u4v, u4w, u4x, rfl, z4, p4, u4y, rfl⟩
    have p4 := p4.dp 2
    refine Goes.rn 1 [] J7e ?_
    obtain rfl := Option.some.inj h
    exact Goes.rt Tryd.f35 (.tuple #[]) ⟨S4, u4u, y10.length, u4w, u4x, rfl, (((Ext.refl S0 w0).trans z2).trans z4), p4, u4y, rfl⟩
   ·
    rw [decide_eq_false h9]
    refine Goes.rn 6 [(27, .bool (decide (x1.Kind = 2))), (26, .bool (decide (x1.Kind = 2)))] J7h ?_
    refine ite_some h (fun h13 h => ?_) (fun h13 h => ?_)
    ·
     rw [decide_eq_true h13]
     refine Goes.rn 4 [(28, (pt b3 5))] J7j ?_
     refine Goes.ld 26 (.tmp 28) 29 26 ⟨b3, 5, none⟩ (.slice u2q x1.L.length u2s) (p2.c 0 5) ?_
     refine Goes.rn 5 [(30, .i (x1.L.length : Int)), (31, .i 0)] J6y ?_
     have p2 := p2.dp 0
     exact Goes.jp 59 [(0, (pt gx0 0)), (2, .i x2), (6, .slice none 0 0), (29, .slice u2q x1.L.length u2s), (30, .i (x1.L.length : Int)), (31, .i 0)] (u4o _ _ h gx0 _ _ ((Ext.refl S0 w0).trans z2) u2q x1.L.length u2s u2h u2g.length u2j u2k p2 (u2t.ext z2) rfl (u2l.ext z2) rfl)
    ·
     rw [decide_eq_false h13]
     refine Goes.rn 6 [(43, .bool (decide (x1.Kind = 4))), (42, .bool (decide (x1.Kind = 4)))] J7k ?_
     refine ite_some h (fun h15 h => ?_) (fun h15 h => ?_)
     ·
      rw [decide_eq_true h15]
      refine Goes.rn 3 [(44, (pt gx0 0))] J7l ?_
      refine Goes.ldN 28 (.tmp 4) 45 28 ⟨b3, 0, none⟩ (.i x1.Kind :: U4 x1.Set [.slice u2q x1.L.length u2s, .i x1.Min, .i x1.Max]) (p2.pa 0 0) ?_
      refine Goes.rn 1 [(46, .i x2)] J7m ?_
      have p2 := (p2.fr 2).fr 2
      refine bind_some' h fun y16 e17 h => ?_
      refine Goes.cal (kc 55 [44, 45, 46] #[76, 28, 3]) 47 95 55 _ (W.zr u2g x1 x2 y16 e17 gx0 u2h u2g.length u2j u2k u2q x1.L.length u2s p2 (u2l.ext z2) rfl u2n (u2t.ext z2) rfl) ?_
      rintro _ w5 ⟨S5, u4z, u50, u51, u52, rfl, z5, p5, u53, rfl⟩
      have p5 := p5.dp 3
      refine Goes.rn 2 [(6, .slice (Gp u4z) y16.length u51)] J6v ?_
      exact Goes.jp 59 [(0, (pt gx0 0)), (2, .i x2), (6, .slice (Gp u4z) y16.length u51)] (u4n _ _ h gx0 _ _ (((Ext.refl S0 w0).trans z2).trans z5) u4z y16.length u51 u52 u2h u2g.length u2j u2k p5 u53 rfl (u2l.ext (z2.trans z5)) rfl)
     ·
      rw [decide_eq_false h15]
      refine Goes.rn 2 [] J6v ?_
      have p2 := p2.dp 0
      exact Goes.jp 59 [(0, (pt gx0 0)), (2, .i x2), (6, .slice none 0 0)] (u4m _ _ h gx0 _ _ ((Ext.refl S0 w0).trans z2) u2h u2g.length u2j u2k p2 (u2l.ext z2) rfl)
 ·
  intro rec_prog_writer_row ih_prog_writer_row ⟨x2, u8⟩ r h nz wz S0 w0 Lr iG gx0 S1 w1 hx u2c u2d u2e u2f p1 u54 u55 junk
  try dsimp only at h
  subst u55
  refine Goes.rn 13 [(48, .slice none 0 0), (49, .i 0), (50, .bool true), (51, (pt gx0 0)), (52, .i x2), (53, .agg #[.i 4, .u 0, .u 0, .u 0, .u 0, .i x2, .i 0])] J7o ?_
  refine bind_some' h fun y64 e65 h => ?_
  refine Goes.cal (kc 36 [51, 53] #[76, 49]) 54 3 36 _ (W.zn u8 (⟨4, [0, 0, 0, 0], x2, 0⟩ : T48) y64 e65 gx0 u2c u8.length u2e u2f p1 u54 rfl rfl) ?_
  rintro _ w16 ⟨S16, u56, u57, u58, u59, rfl, z16, p16, u5a, rfl⟩
  refine Goes.rn 5 [(55, (pt gx0 0)), (56, .slice none 0 0), (57, .i x2)] J7p ?_
  refine bind_some' h fun y67 e68 h => ?_
  refine Goes.cal (kc 56 [55, 56, 57] #[76, 95, 3]) 58 0 56 _ (ih_prog_writer_row (y64.2, ([] : List T99), x2) y67 e68 gx0 u56 y64.2.length u58 u59 none 0 0 p16 u5a rfl Rd.none_ rfl) ?_
  rintro _ w17 ⟨S17, u5b, u5c, u5d, u5e, rfl, z17, p17, u5f, rfl⟩
  refine Goes.rn 1 [] [] ?_
  obtain rfl := Option.some.inj h
  exact Goes.end_ (fn := Tryd.f35) (by kernel_rfl) (v := .tuple #[]) (by kernel_rfl) ⟨S17, u5b, y67.length, u5d, u5e, rfl, ((hx.trans z16).trans z17), p17, u5f, rfl⟩
 ·
  intro u5g u5h ⟨u2g, x1, x2⟩ r h nz wz S0 w0 Lr iG gx0 u2h u2i u2j u2k Ax1 nx1 cx1 p0 u2l u2m fx1 lx1
  try dsimp only at h
  subst u2m
  subst lx1
  refine calls_of_goes (fn := Tryd.f56) (c := B56) (by kernel_rfl) (by kernel_rfl) 32 (by kernel_rfl) ?_
  refine Goes.jp 35 [(0, (pt gx0 0)), (1, .slice Ax1 x1.length cx1), (2, .i x2)] (fun junk => ?_)
  refine Goes.rn 8 [(9, .slice Ax1 x1.length cx1), (10, .i (x1.length : Int)), (11, .i 0)] J71 ?_
  exact Goes.jp 35 [(0, (pt gx0 0)), (1, .slice Ax1 x1.length cx1), (2, .i x2), (9, .slice Ax1 x1.length cx1), (10, .i (x1.length : Int)), (11, .i 0)] (u5h _ _ h gx0 _ _ (Ext.refl S0 w0) Ax1 x1.length cx1 Ax1 x1.length cx1 u2h u2g.length u2j u2k p0 fx1 rfl fx1 rfl u2l rfl)
 ·
  intro u5i u5j ⟨x1, x2, x9, x10, x11, u8⟩ r h nz wz S0 w0 Lr iG gx0 S1 w1 hx Ax1 nx1 cx1 Ax9 nx9 cx9 u2c u2d u2e u2f p1 fx1 lx1 fx9 lx9 u54 u55 junk
  try dsimp only at h
  subst lx1
  subst lx9
  subst u55
  refine Goes.rn 5 [(12, .bool (decide (x11 < x10)))] J7r ?_
  refine ite_some h (fun h4 h => ?_) (fun h4 h => ?_)
  ·
   rw [decide_eq_true h4]
   refine Goes.rn 7 [(13, .i x11)] J7t ?_
   refine guard_some' h fun g5 h => ?_
   refine guard_some' h fun g6 h => ?_
   refine Op_.ixR_n 95 (.tmp 9) (.tmp 11) 14 0 100 .i64 x11 (gi x9 x11) rfl rfl fx9 Goes.v (by kernel_rfl) (by kernel_rfl) (by kernel_rfl) (by kernel_rfl) g5 g6 ?_
   intro a7 _ f8 q9
   obtain ⟨_, _, rfl, rfl, q12⟩ := q9
   obtain ⟨v10, rfl, f11⟩ := rp1_one rfl q12
   refine Goes.ldN 100 (.tmp 14) 15 100 a7 ([.i ((gi x9 x11).n)] ++ [v10]) (f8.cell) ?_
   refine Op_.alloc 100 7 0 (.agg #[.i 0, .nilFunc]) [.i 0, .nilFunc] p1 Goes.v (by kernel_rfl) (by kernel_rfl) ?_
   intro b13 w2 z2 p2
   refine Goes.rn 1 [(6, .i x11)] J7u ?_
   refine Op_.st 100 (.tmp 7) (.tmp 15) 0 0 b13 0 (.agg #[.i ((gi x9 x11).n), v10]) [.i ((gi x9 x11).n), v10] p2 rfl Goes.s (by kernel_rfl) (by kernel_rfl) (by kernel_rfl) (by kernel_rfl) (Nat.zero_le _) (by simp only [List.length_cons, List.length_nil]; omega) (by intro v hv; simp only [List.mem_cons, List.not_mem_nil, or_false] at hv; rcases hv with rfl | rfl <;> first | rfl | exact Rp1.one1 (f11.ext z2)) ?_
   intro w3 z3 p3
   have p3 : Hp nz wz S1 w3 ((some b13, .row 100 [.i ((gi x9 x11).n), v10] 2 0) :: (some gx0, .row 78 [.slice (Gp u2c) u8.length u2e] 1 0) :: (u2c, .row 49 u2f (u2e * kT48.size) 0) :: Lr) := p3
   refine Goes.rn 14 [(16, .i x2), (8, .i x2), (17, .i x11), (18, .slice Ax1 x1.length cx1), (19, .i (x1.length : Int)), (20, .i (wr .i64 ((x1.length : Int) - 1))), (21, .bool (decide (x11 < wr .i64 ((x1.length : Int) - 1))))] J7w ?_
   refine Goes.rn 1 [] J7v ?_
   refine ite_some h (fun h15 h => ?_) (fun h15 h => ?_)
   ·
    rw [decide_eq_true h15]
    refine Goes.rn 1 [] J7x ?_
    have z4 : Ext S1 w3 S1 (w3).drew := Ext.draw
    have p4 := p3.draw
    refine Goes.drawn (s := []) (F := Fc S1 (w3).drew [(⟨gx0, 0, none⟩, .slice (Gp u2c) u8.length u2e), (⟨b13, 0, none⟩, .i ((gi x9 x11).n))]) 5 9 (by kernel_rfl) (by kernel_rfl) (by kernel_rfl) (by kernel_rfl) ?_
    generalize (w3).drew = w4 at z4 p4 ⊢
    refine AnyG.pu 0 (.move (.tmp 0)) 22 76 ((pt gx0 0)) (Fc.here (p4.cs [(1, 0, 1), (0, 0, 1)])) ?_
    refine AnyG.pu 1 (.nilCheck (.tmp 22)) 23 0 ((pt gx0 0)) (Fc.here (p4.cs [(1, 0, 1), (0, 0, 1)])) ?_
    refine AnyG.pu 2 (.fieldAddr 78 (.tmp 23) 0) 24 0 ((pt gx0 0)) (Fc.here (p4.cs [(1, 0, 1), (0, 0, 1)])) ?_
    refine AnyG.ld1 (i := 3) 37 (.tmp 24) 25 37 ⟨gx0, 0, none⟩ (.slice (Gp u2c) u8.length u2e) (by kernel_rfl) (by kernel_rfl) (Fc.here (p4.cs [(1, 0, 1), (0, 0, 1)])) (by kernel_rfl) (by kernel_rfl) (fun _ h => h.2.at_ 0 rfl) ?_
    refine AnyG.pu 4 (.call { callee := .builtin .len, args := #[(.tmp 25)], argTypes := #[37] }) 26 3 (.i (u8.length : Int)) (Fc.here (p4.cs [(1, 0, 1), (0, 0, 1)])) ?_
    refine AnyG.pu 5 (.fieldAddr 100 (.tmp 7) 0) 27 0 ((pt b13 0)) (Fc.here (p4.cs [(1, 0, 1), (0, 0, 1)])) ?_
    refine AnyG.ld1 (i := 6) 3 (.tmp 27) 28 3 ⟨b13, 0, none⟩ (.i ((gi x9 x11).n)) (by kernel_rfl) (by kernel_rfl) (Fc.here (p4.cs [(1, 0, 1), (0, 0, 1)])) (by kernel_rfl) (by kernel_rfl) (fun _ h => h.2.at_ 1 rfl) ?_
    refine AnyG.pu 7 (.binOp .add 3 (.tmp 26) (.tmp 28) 3) 29 3 (.i (wr .i64 ((u8.length : Int) + ((gi x9 x11).n)))) (Fc.here (p4.cs [(1, 0, 1), (0, 0, 1)])) ?_
    refine AnyG.pu 8 (.assign (.tmp 29)) 8 3 (.i (wr .i64 ((u8.length : Int) + ((gi x9 x11).n)))) (Fc.here (p4.cs [(1, 0, 1), (0, 0, 1)])) ?_
    refine AnyG.done (by kernel_rfl) ?_ _
    exact Goes.jp 35 [(0, (pt gx0 0)), (1, .slice Ax1 x1.length cx1), (2, .i x2), (7, (pt b13 0)), (8, .i (wr .i64 ((u8.length : Int) + ((gi x9 x11).n)))), (9, .slice Ax9 x9.length cx9), (10, .i x10), (11, .i x11)] (u5j _ _ h gx0 _ _ (((hx.trans z2).trans z3).trans z4) Ax1 x1.length cx1 b13 v10 Ax9 x9.length cx9 u2c u8.length u2e u2f p4 (fx1.ext ((z2.trans z3).trans z4)) rfl (f11.ext ((z2.trans z3).trans z4)) (fx9.ext ((z2.trans z3).trans z4)) rfl (u54.ext ((z2.trans z3).trans z4)) rfl)
   ·
    rw [decide_eq_false h15]
    refine Goes.rn 2 [] J74 ?_
    exact Goes.jp 35 [(0, (pt gx0 0)), (1, .slice Ax1 x1.length cx1), (2, .i x2), (7, (pt b13 0)), (8, .i x2), (9, .slice Ax9 x9.length cx9), (10, .i x10), (11, .i x11)] (u5j _ _ h gx0 _ _ ((hx.trans z2).trans z3) Ax1 x1.length cx1 b13 v10 Ax9 x9.length cx9 u2c u8.length u2e u2f p3 (fx1.ext (z2.trans z3)) rfl (f11.ext (z2.trans z3)) (fx9.ext (z2.trans z3)) rfl (u54.ext (z2.trans z3)) rfl)
  ·
   rw [decide_eq_false h4]
   refine Goes.rn 2 [] [] ?_
   obtain rfl := Option.some.inj h
   exact Goes.end_ (fn := Tryd.f56) (by kernel_rfl) (v := .tuple #[]) (by kernel_rfl) ⟨S1, u2c, u8.length, u2e, u2f, rfl, hx, p1, u54, rfl⟩
 ·
  intro u5k u5l u5m u5n u5o u5p u5q u5r ⟨x1, x2, x7v, x8, x9, x10, x11, u8⟩ r h nz wz S0 w0 Lr iG gx0 S1 w1 hx Ax1 nx1 cx1 gx7 u47 Ax9 nx9 cx9 u2c u2d u2e u2f p1 fx1 lx1 u5s fx9 lx9 u54 u55 junk
  try dsimp only at h
  subst lx1
  subst lx9
  subst u55
  refine Goes.rn 2 [(30, (pt gx7 1))] J7y ?_
  refine Goes.ld 98 (.tmp 30) 31 98 ⟨gx7, 1, none⟩ (u47) (p1.c 0 1) ?_
  refine Goes.rn 1 [(32, .i x8)] J7z ?_
  refine let_some h fun v19 e20 h => ?_
  have f18 : Rp1 (kC98 gx0) S1 w1 u47 v19 := by rw [← e20]; exact u5s
  rcases v19 with y21 | y33 | y45
  ·
   try dsimp only at h
   obtain ⟨_, rfl, ⟨_, _, rfl, ⟨a22, rfl, f23⟩, ⟨a24, _, rfl, -, f25, q26⟩⟩⟩ := kFn_get (kSum_l f18)
   have q27 := q26
   obtain ⟨_, _, rfl, rfl, ⟨_, _, rfl, ⟨l28, f29⟩, ⟨_, _, rfl, ⟨A30, c31, rfl, f32⟩, ⟨_, _, rfl, rfl, rfl⟩⟩⟩⟩ := kT27_open q27
   obtain rfl := els_lit4' f29 l28
   have p1 := (p1.fr 2).fr 2
   refine bind_some' h fun y60 e61 h => ?_
   refine Goes.cal (.call { callee := .value (.tmp 31), args := #[(.tmp 32)], argTypes := #[3] }) 33 0 71 _ (u5r (x8, u8, y21) y60 e61 a22 gx0 u2c u8.length u2e u2f a24 A30 y21.L.length c31 p1 u54 rfl f23 l28 f32 rfl f25) ?_
   rintro _ w5 ⟨S5, u5t, u5u, u5v, u5w, rfl, z5, p5, u5x, rfl⟩
   have p5 := p5.dp 2
   refine Goes.rn 1 [] J73 ?_
   exact Goes.jp 35 [(0, (pt gx0 0)), (1, .slice Ax1 x1.length cx1), (2, .i x2), (9, .slice Ax9 x9.length cx9), (10, .i x10), (11, .i x11)] (u5q _ _ h gx0 _ _ (hx.trans z5) Ax1 x1.length cx1 Ax9 x9.length cx9 u5t y60.length u5v u5w p5 (fx1.ext z5) rfl (fx9.ext z5) rfl u5x rfl)
  ·
   try dsimp only at h
   obtain ⟨_, rfl, ⟨_, _, rfl, ⟨a34, rfl, f35⟩, ⟨a36, _, rfl, -, f37, q38⟩⟩⟩ := kFn_get (kSum_l (kSum_r f18))
   have q39 := q38
   obtain ⟨_, _, rfl, rfl, ⟨_, _, rfl, ⟨l40, f41⟩, ⟨_, _, rfl, ⟨A42, c43, rfl, f44⟩, ⟨_, _, rfl, rfl, rfl⟩⟩⟩⟩ := kT27_open q39
   obtain rfl := els_lit4' f41 l40
   have p1 := (p1.fr 2).fr 2
   refine bind_some' h fun y64 e65 h => ?_
   refine Goes.cal (.call { callee := .value (.tmp 31), args := #[(.tmp 32)], argTypes := #[3] }) 33 0 85 _ (u5p (x8, u8, y33) y64 e65 a34 gx0 u2c u8.length u2e u2f a36 A42 y33.L.length c43 p1 u54 rfl f35 l40 f44 rfl f37) ?_
   rintro _ w6 ⟨S6, u5y, u5z, u60, u61, rfl, z6, p6, u62, rfl⟩
   have p6 := p6.dp 2
   refine Goes.rn 1 [] J73 ?_
   exact Goes.jp 35 [(0, (pt gx0 0)), (1, .slice Ax1 x1.length cx1), (2, .i x2), (9, .slice Ax9 x9.length cx9), (10, .i x10), (11, .i x11)] (u5q _ _ h gx0 _ _ (hx.trans z6) Ax1 x1.length cx1 Ax9 x9.length cx9 u5y y64.length u60 u61 p6 (fx1.ext z6) rfl (fx9.ext z6) rfl u62 rfl)
  ·
   try dsimp only at h
   obtain ⟨_, rfl, ⟨_, _, rfl, ⟨a46, rfl, f47⟩, ⟨_, _, rfl, ⟨a48, _, rfl, -, f49, q50⟩, ⟨a51, _, rfl, -, f52, q53⟩⟩⟩⟩ := kFn_get (kSum_r (kSum_r f18))
   obtain rfl := q50
   have q54 := q53
   obtain ⟨_, _, rfl, rfl, ⟨_, _, rfl, ⟨l55, f56⟩, ⟨_, _, rfl, ⟨A57, c58, rfl, f59⟩, ⟨_, _, rfl, rfl, rfl⟩⟩⟩⟩ := kT27_open q54
   obtain rfl := els_lit4' f56 l55
   have p1 := (p1.fr 2).fr 2
   refine bind_some' h fun y67 e68 h => ?_
   refine Goes.cal (.call { callee := .value (.tmp 31), args := #[(.tmp 32)], argTypes := #[3] }) 33 0 86 _ (u5o (x8, u8, y45.1, y45.2) y67 e68 a46 gx0 u2c u8.length u2e u2f a48 a51 A57 y45.2.L.length c58 p1 u54 rfl f47 f49 l55 f59 rfl f52) ?_
   rintro _ w7 ⟨S7, u63, u64, u65, u66, rfl, z7, p7, u67, rfl⟩
   have p7 := p7.dp 2
   refine Goes.rn 1 [] J73 ?_
   exact Goes.jp 35 [(0, (pt gx0 0)), (1, .slice Ax1 x1.length cx1), (2, .i x2), (9, .slice Ax9 x9.length cx9), (10, .i x10), (11, .i x11)] (u5q _ _ h gx0 _ _ (hx.trans z7) Ax1 x1.length cx1 Ax9 x9.length cx9 u63 y67.length u65 u66 p7 (fx1.ext z7) rfl (fx9.ext z7) rfl u67 rfl)
 ·
  intro rec_prog_writer_code ih_prog_writer_code ⟨x0, u48, x2, x3⟩ r h nz wz S0 w0 Lr iG ax1 gx1 u49 u4a u4b u4c ax2 ax3 u4g u4h u4i p0 u68 u69 u6a u6b u6c u6d u6e u6f
  try dsimp only at h
  subst u69
  subst u6e
  refine calls_of_goes (fn := Tryd.f86) (c := B86) (by kernel_rfl) (by kernel_rfl) 15 (by kernel_rfl) ?_
  refine Goes.jp 19 [(0, .i x0), (1, .pointer (some ax1)), (2, .pointer (some ax2)), (3, .pointer (some ax3))] (fun junk => ?_)
  refine Goes.rn 1 [] J81 ?_
  have z2 : Ext S0 w0 S0 (w0).drew := Ext.draw
  have p2 := p0.draw
  refine Goes.drawn (s := [9]) (F := Fc S0 (w0).drew []) 0 10 (by kernel_rfl) (by kernel_rfl) (by kernel_rfl) (by kernel_rfl) ?_
  generalize (w0).drew = w2 at z2 p2 ⊢
  refine AnyG.ld1 (i := 0) 76 (.tmp 1) 5 76 ax1 ((pt gx1 0)) (by kernel_rfl) (by kernel_rfl) (Fc.here trivial) (by kernel_rfl) (by kernel_rfl) (fun _ h => (u6a.ext z2).fc h 0 _ rfl) ?_
  refine AnyG.ld1 (i := 1) 76 (.tmp 1) 6 76 ax1 ((pt gx1 0)) (by kernel_rfl) (by kernel_rfl) (Fc.here trivial) (by kernel_rfl) (by kernel_rfl) (fun _ h => (u6a.ext z2).fc h 0 _ rfl) ?_
  refine AnyG.pu 2 (.nilCheck (.tmp 6)) 7 0 ((pt gx1 0)) (Fc.here trivial) ?_
  refine AnyG.pu 3 (.fieldAddr 78 (.tmp 7) 0) 8 0 ((pt gx1 0)) (Fc.here trivial) ?_
  refine AnyG.ld1 (i := 7) 3 (.tmp 2) 12 3 ax2 (.i x2) (by kernel_rfl) (by kernel_rfl) (Fc.here trivial) (by kernel_rfl) (by kernel_rfl) (fun _ h => (u6b.ext z2).fc h 0 _ rfl) ?_
  refine Op_.ld1 37 (.tmp 8) 9 37 ⟨gx1, 0, none⟩ (.slice (Gp u49) u48.length u4b) (AnyG.vs (i := 4) (by kernel_rfl) (by kernel_rfl)) (by kernel_rfl) (by kernel_rfl) (p2.c 0 0) ?_
  refine AnyG.next (Ext.refl _ _) trivial ?_
  refine AnyG.pu 5 (.call { callee := .builtin .len, args := #[(.tmp 9)], argTypes := #[37] }) 10 3 (.i (u48.length : Int)) (Fc.here trivial) ?_
  refine AnyG.pu 6 (.binOp .add 3 (.tmp 10) (.const (.int .i64 1)) 3) 11 3 (.i (wr .i64 ((u48.length : Int) + 1))) (Fc.here trivial) ?_
  refine AnyG.pu 8 (.build 49 #[(0, (.const (.int .i64 2))), (2, (.tmp 11)), (3, (.tmp 12))]) 13 49 (.agg #[.i 2, .u 0, .u 0, .u 0, .u 0, .i (wr .i64 ((u48.length : Int) + 1)), .i x2]) (Fc.here trivial) ?_
  refine bind_some' h fun y3 e4 h => ?_
  refine Op_.call (kc 36 [5, 13] #[76, 49]) 14 3 36 #[(pt gx1 0), .agg #[.i 2, .u 0, .u 0, .u 0, .u 0, .i (wr .i64 ((u48.length : Int) + 1)), .i x2]] (AnyG.cs (i := 9) (by kernel_rfl) (by kernel_rfl)) (by kernel_rfl) (W.zn u48 (⟨2, [0, 0, 0, 0], wr .i64 ((u48.length : Int) + 1), x2⟩ : T48) y3 e4 gx1 u49 u48.length u4b u4c p2 (u68.ext z2) rfl rfl) ?_
  rintro _ w3 ⟨S3, u4p, u4q, u4r, u4s, rfl, z3, p3, u4t, rfl⟩
  refine AnyG.last [] (Fc S3 w3 []) (by decide) ?_
  refine AnyG.done (by kernel_rfl) ?_ _
  refine Goes.rn 1 [] J82 ?_
  refine Goes.ld 76 (.tmp 1) 15 76 ax1 ((pt gx1 0)) ((u6a.ext (z2.trans z3)).cell 0 _ rfl) ?_
  refine Goes.ldN 28 (.tmp 3) 16 28 ax3 (.i x3.Kind :: U4 x3.Set [.slice u4g x3.L.length u4i, .i x3.Min, .i x3.Max]) ((u6f.ext (z2.trans z3)).cell) ?_
  refine Goes.rn 1 [(17, .i x0)] J83 ?_
  refine bind_some' h fun y6 e7 h => ?_
  refine Goes.cal (kc 35 [15, 16, 17] #[76, 28, 3]) 18 0 35 _ (ih_prog_writer_code (y3.2, x3, x0) y6 e7 gx1 u4p y3.2.length u4r u4s u4g x3.L.length u4i p3 u4t rfl u6c (u6d.ext (z2.trans z3)) rfl) ?_
  rintro _ w4 ⟨S4, u4u, u4v, u4w, u4x, rfl, z4, p4, u4y, rfl⟩
  refine Goes.rn 1 [] [] ?_
  obtain rfl := Option.some.inj h
  exact Goes.end_ (fn := Tryd.f86) (by kernel_rfl) (v := .tuple #[]) (by kernel_rfl) ⟨S4, u4u, y6.length, u4w, u4x, rfl, ((((Ext.refl S0 w0).trans z2).trans z3).trans z4), p4, u4y, rfl⟩
 ·
  intro rec_prog_writer_code ih_prog_writer_code ⟨x0, u48, x2⟩ r h nz wz S0 w0 Lr iG ax1 gx1 u49 u4a u4b u4c ax2 u4d u4e u4f p0 u68 u69 u6a u6g u6h u6i u6b
  try dsimp only at h
  subst u69
  subst u6i
  refine calls_of_goes (fn := Tryd.f85) (c := B85) (by kernel_rfl) (by kernel_rfl) 16 (by kernel_rfl) ?_
  refine Goes.jp 19 [(0, .i x0), (1, .pointer (some ax1)), (2, .pointer (some ax2))] (fun junk => ?_)
  refine Goes.rn 1 [] J85 ?_
  have z2 : Ext S0 w0 S0 (w0).drew := Ext.draw
  have p2 := p0.draw
  refine Goes.drawn (s := [9]) (F := Fc S0 (w0).drew []) 0 11 (by kernel_rfl) (by kernel_rfl) (by kernel_rfl) (by kernel_rfl) ?_
  generalize (w0).drew = w2 at z2 p2 ⊢
  refine AnyG.ld1 (i := 0) 76 (.tmp 1) 5 76 ax1 ((pt gx1 0)) (by kernel_rfl) (by kernel_rfl) (Fc.here trivial) (by kernel_rfl) (by kernel_rfl) (fun _ h => (u6a.ext z2).fc h 0 _ rfl) ?_
  refine AnyG.ld1 (i := 1) 76 (.tmp 1) 6 76 ax1 ((pt gx1 0)) (by kernel_rfl) (by kernel_rfl) (Fc.here trivial) (by kernel_rfl) (by kernel_rfl) (fun _ h => (u6a.ext z2).fc h 0 _ rfl) ?_
  refine AnyG.pu 2 (.nilCheck (.tmp 6)) 7 0 ((pt gx1 0)) (Fc.here trivial) ?_
  refine AnyG.pu 3 (.fieldAddr 78 (.tmp 7) 0) 8 0 ((pt gx1 0)) (Fc.here trivial) ?_
  refine AnyG.pu 7 (.move (.tmp 0)) 12 3 (.i x0) (Fc.here trivial) ?_
  refine Op_.ld1 37 (.tmp 8) 9 37 ⟨gx1, 0, none⟩ (.slice (Gp u49) u48.length u4b) (AnyG.vs (i := 4) (by kernel_rfl) (by kernel_rfl)) (by kernel_rfl) (by kernel_rfl) (p2.c 0 0) ?_
  refine AnyG.next (Ext.refl _ _) trivial ?_
  refine AnyG.pu 5 (.call { callee := .builtin .len, args := #[(.tmp 9)], argTypes := #[37] }) 10 3 (.i (u48.length : Int)) (Fc.here trivial) ?_
  refine AnyG.pu 6 (.binOp .add 3 (.tmp 10) (.const (.int .i64 1)) 3) 11 3 (.i (wr .i64 ((u48.length : Int) + 1))) (Fc.here trivial) ?_
  refine AnyG.pu 8 (.build 49 #[(0, (.const (.int .i64 2))), (2, (.tmp 11)), (3, (.tmp 12))]) 13 49 (.agg #[.i 2, .u 0, .u 0, .u 0, .u 0, .i (wr .i64 ((u48.length : Int) + 1)), .i x0]) (Fc.here trivial) ?_
  refine bind_some' h fun y3 e4 h => ?_
  refine Op_.call (kc 36 [5, 13] #[76, 49]) 14 3 36 #[(pt gx1 0), .agg #[.i 2, .u 0, .u 0, .u 0, .u 0, .i (wr .i64 ((u48.length : Int) + 1)), .i x0]] (AnyG.cs (i := 9) (by kernel_rfl) (by kernel_rfl)) (by kernel_rfl) (W.zn u48 (⟨2, [0, 0, 0, 0], wr .i64 ((u48.length : Int) + 1), x0⟩ : T48) y3 e4 gx1 u49 u48.length u4b u4c p2 (u68.ext z2) rfl rfl) ?_
  rintro _ w3 ⟨S3, u4p, u4q, u4r, u4s, rfl, z3, p3, u4t, rfl⟩
  refine AnyG.last [] (Fc S3 w3 []) (by decide) ?_
  refine AnyG.pu 10 (.assign (.tmp 14)) 4 3 (.i y3.1) (Fc.here trivial) ?_
  refine AnyG.done (by kernel_rfl) ?_ _
  refine Goes.rn 1 [] J86 ?_
  refine Goes.ld 76 (.tmp 1) 15 76 ax1 ((pt gx1 0)) ((u6a.ext (z2.trans z3)).cell 0 _ rfl) ?_
  refine Goes.ldN 28 (.tmp 2) 16 28 ax2 (.i x2.Kind :: U4 x2.Set [.slice u4d x2.L.length u4f, .i x2.Min, .i x2.Max]) ((u6b.ext (z2.trans z3)).cell) ?_
  refine Goes.rn 1 [(17, .i y3.1)] J87 ?_
  refine bind_some' h fun y6 e7 h => ?_
  refine Goes.cal (kc 35 [15, 16, 17] #[76, 28, 3]) 18 0 35 _ (ih_prog_writer_code (y3.2, x2, y3.1) y6 e7 gx1 u4p y3.2.length u4r u4s u4d x2.L.length u4f p3 u4t rfl u6g (u6h.ext (z2.trans z3)) rfl) ?_
  rintro _ w4 ⟨S4, u4u, u4v, u4w, u4x, rfl, z4, p4, u4y, rfl⟩
  refine Goes.rn 1 [] [] ?_
  obtain rfl := Option.some.inj h
  exact Goes.end_ (fn := Tryd.f85) (by kernel_rfl) (v := .tuple #[]) (by kernel_rfl) ⟨S4, u4u, y6.length, u4w, u4x, rfl, ((((Ext.refl S0 w0).trans z2).trans z3).trans z4), p4, u4y, rfl⟩
 ·
  intro u5g u5h ⟨x1, x2, x9, x10, x11, u8⟩ r h nz wz S0 w0 Lr iG gx0 S1 w1 hx Ax1 nx1 cx1 Ax9 nx9 cx9 u2c u2d u2e u2f p1 fx1 lx1 fx9 lx9 u54 u55 junk
  try dsimp only at h
  subst lx1
  subst lx9
  subst u55
  refine Goes.rn 6 [(34, .i (wr .i64 (x11 + 1))), (11, .i (wr .i64 (x11 + 1)))] J71 ?_
  exact Goes.jp 35 [(0, (pt gx0 0)), (1, .slice Ax1 x1.length cx1), (2, .i x2), (9, .slice Ax9 x9.length cx9), (10, .i x10), (11, .i (wr .i64 (x11 + 1)))] (u5h _ _ h gx0 _ _ hx Ax1 x1.length cx1 Ax9 x9.length cx9 u2c u8.length u2e u2f p1 fx1 rfl fx9 rfl u54 rfl)
 ·
  intro rec_prog_writer_code ih_prog_writer_code ⟨x0, u48, x2⟩ r h nz wz S0 w0 Lr iG ax1 gx1 u49 u4a u4b u4c ax2 u4d u4e u4f p0 u68 u69 u6a u6g u6h u6i u6b
  try dsimp only at h
  subst u69
  subst u6i
  refine calls_of_goes (fn := Tryd.f71) (c := B71) (by kernel_rfl) (by kernel_rfl) 5 (by kernel_rfl) ?_
  refine Goes.jp 8 [(0, .i x0), (1, .pointer (some ax1)), (2, .pointer (some ax2))] (fun junk => ?_)
  refine Goes.rn 1 [] J88 ?_
  refine Goes.ld 76 (.tmp 1) 4 76 ax1 ((pt gx1 0)) (u6a.cell 0 _ rfl) ?_
  refine Goes.ldN 28 (.tmp 2) 5 28 ax2 (.i x2.Kind :: U4 x2.Set [.slice u4d x2.L.length u4f, .i x2.Min, .i x2.Max]) (u6b.cell) ?_
  refine Goes.rn 1 [(6, .i x0)] J89 ?_
  refine bind_some' h fun y3 e4 h => ?_
  refine Goes.cal (kc 35 [4, 5, 6] #[76, 28, 3]) 7 0 35 _ (ih_prog_writer_code (u48, x2, x0) y3 e4 gx1 u49 u48.length u4b u4c u4d x2.L.length u4f p0 u68 rfl u6g u6h rfl) ?_
  rintro _ w2 ⟨S2, u6j, u6k, u6l, u6m, rfl, z2, p2, u6n, rfl⟩
  refine Goes.rn 1 [] [] ?_
  obtain rfl := Option.some.inj h
  exact Goes.end_ (fn := Tryd.f71) (by kernel_rfl) (v := .tuple #[]) (by kernel_rfl) ⟨S2, u6j, y3.length, u6l, u6m, rfl, ((Ext.refl S0 w0).trans z2), p2, u6n, rfl⟩
 ·
  intro rec_prog_writer_row ih_prog_writer_row ⟨x2, x6, u8⟩ r h nz wz S0 w0 Lr iG gx0 S1 w1 hx Gx6 nx6 cx6 u46 u2c u2d u2e u2f p1 fx6 lx6 u54 u55 junk
  try dsimp only at h
  subst lx6
  subst u55
  refine Goes.rn 8 [(48, .slice (Gp Gx6) x6.length cx6), (49, .i (x6.length : Int)), (50, .bool (decide ((x6.length : Int) = 0)))] J8a ?_
  refine ite_some h (fun h52 h => ?_) (fun h52 h => ?_)
  ·
   rw [decide_eq_true h52]
   refine Goes.rn 5 [(51, (pt gx0 0)), (52, .i x2), (53, .agg #[.i 4, .u 0, .u 0, .u 0, .u 0, .i x2, .i 0])] J7o ?_
   have p1 := (p1.fr 2).fr 2
   refine bind_some' h fun y53 e54 h => ?_
   refine Goes.cal (kc 36 [51, 53] #[76, 49]) 54 3 36 _ (W.zn u8 (⟨4, [0, 0, 0, 0], x2, 0⟩ : T48) y53 e54 gx0 u2c u8.length u2e u2f p1 u54 rfl rfl) ?_
   rintro _ w11 ⟨S11, u6o, u6p, u6q, u6r, rfl, z11, p11, u6s, rfl⟩
   refine Goes.rn 5 [(55, (pt gx0 0)), (56, .slice (Gp Gx6) x6.length cx6), (57, .i x2)] J7p ?_
   obtain ⟨S12, z12, p12, f56⟩ := p11.freezeRd 2 rfl (fx6.ext z11) (show (0 : Nat) < 2 by decide)
   refine bind_some' h fun y57 e58 h => ?_
   refine Goes.cal (kc 56 [55, 56, 57] #[76, 95, 3]) 58 0 56 _ (ih_prog_writer_row (y53.2, x6, x2) y57 e58 gx0 u6o y53.2.length u6q u6r (Gp Gx6) x6.length cx6 p12 (u6s.ext z12) rfl f56 rfl) ?_
   rintro _ w13 ⟨S13, u6t, u6u, u6v, u6w, rfl, z13, p13, u6x, rfl⟩
   have p13 := p13.dp 2
   refine Goes.rn 1 [] [] ?_
   obtain rfl := Option.some.inj h
   exact Goes.end_ (fn := Tryd.f35) (by kernel_rfl) (v := .tuple #[]) (by kernel_rfl) ⟨S13, u6t, y57.length, u6v, u6w, rfl, (((hx.trans z11).trans z12).trans z13), p13, u6x, rfl⟩
  ·
   rw [decide_eq_false h52]
   refine Goes.rn 6 [(55, (pt gx0 0)), (56, .slice (Gp Gx6) x6.length cx6), (57, .i x2)] J7p ?_
   obtain ⟨S14, z14, p14, f60⟩ := p1.freezeRd 0 rfl fx6 (show (0 : Nat) < 2 by decide)
   have p14 := (p14.fr 2).fr 2
   refine bind_some' h fun y61 e62 h => ?_
   refine Goes.cal (kc 56 [55, 56, 57] #[76, 95, 3]) 58 0 56 _ (ih_prog_writer_row (u8, x6, x2) y61 e62 gx0 u2c u8.length u2e u2f (Gp Gx6) x6.length cx6 p14 (u54.ext z14) rfl f60 rfl) ?_
   rintro _ w15 ⟨S15, u6y, u6z, u70, u71, rfl, z15, p15, u72, rfl⟩
   have p15 := p15.dp 2
   refine Goes.rn 1 [] [] ?_
   obtain rfl := Option.some.inj h
   exact Goes.end_ (fn := Tryd.f35) (by kernel_rfl) (v := .tuple #[]) (by kernel_rfl) ⟨S15, u6y, y61.length, u70, u71, rfl, ((hx.trans z14).trans z15), p15, u72, rfl⟩
 ·
  intro u4j u73 u4m u74 ⟨x2, x29, x30, x31, u8⟩ r h nz wz S0 w0 Lr iG gx0 S1 w1 hx u43 u44 u45 u2c u2d u2e u2f p1 u75 u76 u54 u55 junk
  try dsimp only at h
  subst u76
  subst u55
  refine Goes.rn 5 [(32, .bool (decide (x31 < x30)))] J8c ?_
  refine ite_some h (fun h22 h => ?_) (fun h22 h => ?_)
  ·
   rw [decide_eq_true h22]
   refine Goes.rn 6 [] J8g ?_
   refine guard_some' h fun g23 h => ?_
   refine guard_some' h fun g24 h => ?_
   refine Op_.ixR_n 26 (.tmp 29) (.tmp 31) 33 0 28 .i64 x31 (gi x29 x31) rfl rfl u75 Goes.v (by kernel_rfl) (by kernel_rfl) (by kernel_rfl) (by kernel_rfl) g23 g24 ?_
   intro a25 _ f26 q27
   have q28 := q27
   obtain ⟨_, _, rfl, rfl, ⟨_, _, rfl, ⟨l29, f30⟩, ⟨_, _, rfl, ⟨A31, c32, rfl, f33⟩, ⟨_, _, rfl, rfl, rfl⟩⟩⟩⟩ := kT27_open q28
   obtain rfl := els_lit4' f30 l29
   refine Goes.ldN 28 (.tmp 33) 34 28 a25 ([.i ((gi x29 x31).Kind)] ++ ((U4 ((gi x29 x31).Set) []) ++ ([.slice A31 (((gi x29 x31).L).length) c32] ++ ([.i ((gi x29 x31).Min)] ++ [.i ((gi x29 x31).Max)])))) (f26.cell) ?_
   refine Op_.alloc 28 8 0 (.agg #[.i 0, .u 0, .u 0, .u 0, .u 0, .slice none 0 0, .i 0, .i 0]) [.i 0, .u 0, .u 0, .u 0, .u 0, .slice none 0 0, .i 0, .i 0] p1 Goes.v (by kernel_rfl) (by kernel_rfl) ?_
   intro b34 w6 z6 p6
   refine Op_.st 28 (.tmp 8) (.tmp 34) 0 0 b34 0 (ag (.i ((gi x29 x31).Kind) :: U4 ((gi x29 x31).Set) [.slice A31 (((gi x29 x31).L).length) c32, .i ((gi x29 x31).Min), .i ((gi x29 x31).Max)])) (.i ((gi x29 x31).Kind) :: U4 ((gi x29 x31).Set) [.slice A31 (((gi x29 x31).L).length) c32, .i ((gi x29 x31).Min), .i ((gi x29 x31).Max)]) p6 rfl Goes.s (by kernel_rfl) (by kernel_rfl) (by kernel_rfl) (by kernel_rfl) (Nat.zero_le _) (by simp only [List.length_cons, List.length_nil]; omega) (by simp [Value.oneCell']) ?_
   intro w7 z7 p7
   have p7 : Hp nz wz S1 w7 ((some b34, .row 28 (.i ((gi x29 x31).Kind) :: U4 ((gi x29 x31).Set) [.slice A31 (((gi x29 x31).L).length) c32, .i ((gi x29 x31).Min), .i ((gi x29 x31).Max)]) 8 0) :: (some gx0, .row 78 [.slice (Gp u2c) u8.length u2e] 1 0) :: (u2c, .row 49 u2f (u2e * kT48.size) 0) :: Lr) := p7
   refine Goes.rn 4 [(35, .slice none 0 0), (36, (pt gx0 0))] J8h ?_
   refine Goes.ldN 28 (.tmp 8) 37 28 ⟨b34, 0, none⟩ (.i ((gi x29 x31).Kind) :: U4 ((gi x29 x31).Set) [.slice A31 (((gi x29 x31).L).length) c32, .i ((gi x29 x31).Min), .i ((gi x29 x31).Max)]) (p7.pa 0 0) ?_
   have p7 := (p7.fr 2).fr 2
   refine bind_some' h fun y36 e37 h => ?_
   refine Goes.cal (kc 54 [36, 37] #[76, 28]) 38 100 54 _ (W.zo u8 (⟨(gi x29 x31).Kind, ((gi x29 x31).Set), (gi x29 x31).L, (gi x29 x31).Min, (gi x29 x31).Max⟩ : T27) y36 e37 gx0 u2c u8.length u2e u2f A31 (((gi x29 x31).L).length) c32 p7 (u54.ext (z6.trans z7)) rfl l29 (f33.ext (z6.trans z7)) rfl) ?_
   rintro _ w8 ⟨S8, u3z, rfl, z8, p8, u40⟩
   have p8 := p8.dp 2
   have f39 : Els (kT99 gx0) S8 w8 ([.i y36.n, u3z] : List Value) [y36] := by exact (Els.cons (K := (kT99 gx0)) (vs := [.i y36.n, u3z]) (x := y36) ⟨[.i y36.n], [u3z], rfl, rfl, u40⟩ Els.nil)
   refine Op_.made (.buildSlice 95 1 #[(0, (.tmp 38))]) 39 95 (fun b => .slice (Gp (some b)) 1 1) 100 ([.i y36.n, u3z] : List Value) p8 Goes.v (by kernel_rfl) ?_
   intro b38 w9 z9 p9
   have p9 : Hp nz wz S8 w9 (((some b38), .row 100 ([.i y36.n, u3z] : List Value) (1 * (kT99 gx0).size) 0) :: (some gx0, .row 78 [.slice (Gp u2c) u8.length u2e] 1 0) :: (u2c, .row 49 u2f (u2e * kT48.size) 0) :: Lr) := p9
   have p9 : Hp nz wz S8 w9 ((none, .row 100 [] (0 * (kT99 gx0).size) 0) :: ((some b38), .row 100 ([.i y36.n, u3z] : List Value) (1 * (kT99 gx0).size) 0) :: (some gx0, .row 78 [.slice (Gp u2c) u8.length u2e] 1 0) :: (u2c, .row 49 u2f (u2e * kT48.size) 0) :: Lr) := p9.nilRow' 100
   refine guard_some' h fun g45 h => ?_
   refine Op_.ap_n (K := (kT99 gx0)) 95 (.tmp 35) (.tmp 39) 40 95 100 0 (.agg #[.i 0, .nilFunc]) 16 0 0 1 ([] : List T99) [y36] [y36] (Gp (some b38)) 1 rfl rfl (List.nil_append _) p9 rfl (Els.nil (K := (kT99 gx0))) Goes.v (by kernel_rfl) (by kernel_rfl) (by kernel_rfl) (by kernel_rfl) rfl (show (0 : Nat) < 2 by decide) (f39.ext z9) (src_own p9 (q := 1) rfl) (by have := g45; omega) (by have := g45; omega) ?_
   intro w10 G46 c47 u77 z10 p10 f49
   refine Goes.rn 8 [(6, .slice (Gp G46) ([y36].length) c47), (41, .i (wr .i64 (x31 + 1))), (31, .i (wr .i64 (x31 + 1)))] J6y ?_
   have p10 := p10.dp 1
   exact Goes.jp 59 [(0, (pt gx0 0)), (2, .i x2), (6, .slice (Gp G46) ([y36].length) c47), (29, .slice u43 x29.length u45), (30, .i x30), (31, .i (wr .i64 (x31 + 1)))] (u74 _ _ h gx0 _ _ (((((hx.trans z6).trans z7).trans z8).trans z9).trans z10) G46 ([y36].length) c47 u77 u43 x29.length u45 u2c u8.length u2e u2f p10 f49 rfl (u75.ext ((((z6.trans z7).trans z8).trans z9).trans z10)) rfl (u54.ext ((((z6.trans z7).trans z8).trans z9).trans z10)) rfl)
  ·
   rw [decide_eq_false h22]
   refine Goes.rn 2 [] J6v ?_
   exact Goes.jp 59 [(0, (pt gx0 0)), (2, .i x2), (6, .slice none 0 0)] (u4m _ _ h gx0 _ _ hx u2c u8.length u2e u2f p1 u54 rfl)
 ·
  intro u4k u73 u4n u74 ⟨x2, x6, x29, x30, x31, u8⟩ r h nz wz S0 w0 Lr iG gx0 S1 w1 hx Gx6 nx6 cx6 u46 u43 u44 u45 u2c u2d u2e u2f p1 fx6 lx6 u75 u76 u54 u55 junk
  try dsimp only at h
  subst lx6
  subst u76
  subst u55
  refine Goes.rn 5 [(32, .bool (decide (x31 < x30)))] J8c ?_
  refine ite_some h (fun h70 h => ?_) (fun h70 h => ?_)
  ·
   rw [decide_eq_true h70]
   refine Goes.rn 6 [] J8g ?_
   refine guard_some' h fun g71 h => ?_
   refine guard_some' h fun g72 h => ?_
   refine Op_.ixR_n 26 (.tmp 29) (.tmp 31) 33 0 28 .i64 x31 (gi x29 x31) rfl rfl u75 Goes.v (by kernel_rfl) (by kernel_rfl) (by kernel_rfl) (by kernel_rfl) g71 g72 ?_
   intro a73 _ f74 q75
   have q76 := q75
   obtain ⟨_, _, rfl, rfl, ⟨_, _, rfl, ⟨l77, f78⟩, ⟨_, _, rfl, ⟨A79, c80, rfl, f81⟩, ⟨_, _, rfl, rfl, rfl⟩⟩⟩⟩ := kT27_open q76
   obtain rfl := els_lit4' f78 l77
   refine Goes.ldN 28 (.tmp 33) 34 28 a73 ([.i ((gi x29 x31).Kind)] ++ ((U4 ((gi x29 x31).Set) []) ++ ([.slice A79 (((gi x29 x31).L).length) c80] ++ ([.i ((gi x29 x31).Min)] ++ [.i ((gi x29 x31).Max)])))) (f74.cell) ?_
   refine Op_.alloc 28 8 0 (.agg #[.i 0, .u 0, .u 0, .u 0, .u 0, .slice none 0 0, .i 0, .i 0]) [.i 0, .u 0, .u 0, .u 0, .u 0, .slice none 0 0, .i 0, .i 0] p1 Goes.v (by kernel_rfl) (by kernel_rfl) ?_
   intro b82 w18 z18 p18
   refine Op_.st 28 (.tmp 8) (.tmp 34) 0 0 b82 0 (ag (.i ((gi x29 x31).Kind) :: U4 ((gi x29 x31).Set) [.slice A79 (((gi x29 x31).L).length) c80, .i ((gi x29 x31).Min), .i ((gi x29 x31).Max)])) (.i ((gi x29 x31).Kind) :: U4 ((gi x29 x31).Set) [.slice A79 (((gi x29 x31).L).length) c80, .i ((gi x29 x31).Min), .i ((gi x29 x31).Max)]) p18 rfl Goes.s (by kernel_rfl) (by kernel_rfl) (by kernel_rfl) (by kernel_rfl) (Nat.zero_le _) (by simp only [List.length_cons, List.length_nil]; omega) (by simp [Value.oneCell']) ?_
   intro w19 z19 p19
   have p19 : Hp nz wz S1 w19 ((some b82, .row 28 (.i ((gi x29 x31).Kind) :: U4 ((gi x29 x31).Set) [.slice A79 (((gi x29 x31).L).length) c80, .i ((gi x29 x31).Min), .i ((gi x29 x31).Max)]) 8 0) :: (Gx6, .row 100 u46 (cx6 * (kT99 gx0).size) 0) :: (some gx0, .row 78 [.slice (Gp u2c) u8.length u2e] 1 0) :: (u2c, .row 49 u2f (u2e * kT48.size) 0) :: Lr) := p19
   refine Goes.rn 4 [(35, .slice (Gp Gx6) x6.length cx6), (36, (pt gx0 0))] J8h ?_
   refine Goes.ldN 28 (.tmp 8) 37 28 ⟨b82, 0, none⟩ (.i ((gi x29 x31).Kind) :: U4 ((gi x29 x31).Set) [.slice A79 (((gi x29 x31).L).length) c80, .i ((gi x29 x31).Min), .i ((gi x29 x31).Max)]) (p19.pa 0 0) ?_
   have p19 := (p19.fr 3).fr 3
   refine bind_some' h fun y84 e85 h => ?_
   refine Goes.cal (kc 54 [36, 37] #[76, 28]) 38 100 54 _ (W.zo u8 (⟨(gi x29 x31).Kind, ((gi x29 x31).Set), (gi x29 x31).L, (gi x29 x31).Min, (gi x29 x31).Max⟩ : T27) y84 e85 gx0 u2c u8.length u2e u2f A79 (((gi x29 x31).L).length) c80 p19 (u54.ext (z18.trans z19)) rfl l77 (f81.ext (z18.trans z19)) rfl) ?_
   rintro _ w20 ⟨S20, u36, rfl, z20, p20, u37⟩
   have p20 := p20.dp 2
   have f87 : Els (kT99 gx0) S20 w20 ([.i y84.n, u36] : List Value) [y84] := by exact (Els.cons (K := (kT99 gx0)) (vs := [.i y84.n, u36]) (x := y84) ⟨[.i y84.n], [u36], rfl, rfl, u37⟩ Els.nil)
   refine Op_.made (.buildSlice 95 1 #[(0, (.tmp 38))]) 39 95 (fun b => .slice (Gp (some b)) 1 1) 100 ([.i y84.n, u36] : List Value) p20 Goes.v (by kernel_rfl) ?_
   intro b86 w21 z21 p21
   have p21 : Hp nz wz S20 w21 (((some b86), .row 100 ([.i y84.n, u36] : List Value) (1 * (kT99 gx0).size) 0) :: (some gx0, .row 78 [.slice (Gp u2c) u8.length u2e] 1 0) :: (u2c, .row 49 u2f (u2e * kT48.size) 0) :: (Gx6, .row 100 u46 (cx6 * (kT99 gx0).size) 0) :: Lr) := p21
   refine guard_some' h fun g92 h => ?_
   refine Op_.ap_n (K := (kT99 gx0)) 95 (.tmp 35) (.tmp 39) 40 95 100 3 (.agg #[.i 0, .nilFunc]) 16 x6.length cx6 1 x6 [y84] (x6 ++ [y84]) (Gp (some b86)) 1 rfl rfl rfl p21 rfl (fx6.ext (((z18.trans z19).trans z20).trans z21)) Goes.v (by kernel_rfl) (by kernel_rfl) (by kernel_rfl) (by kernel_rfl) rfl (show (0 : Nat) < 2 by decide) (f87.ext z21) (src_own p21 (q := 0) rfl) (by have := g92; omega) (by have := g92; omega) ?_
   intro w22 G93 c94 u78 z22 p22 f96
   refine Goes.rn 8 [(6, .slice (Gp G93) ((x6 ++ [y84]).length) c94), (41, .i (wr .i64 (x31 + 1))), (31, .i (wr .i64 (x31 + 1)))] J6y ?_
   have p22 := p22.dp 0
   have p22 := ((p22.fr 1).fr 1).fr 2
   exact Goes.jp 59 [(0, (pt gx0 0)), (2, .i x2), (6, .slice (Gp G93) ((x6 ++ [y84]).length) c94), (29, .slice u43 x29.length u45), (30, .i x30), (31, .i (wr .i64 (x31 + 1)))] (u74 _ _ h gx0 _ _ (((((hx.trans z18).trans z19).trans z20).trans z21).trans z22) G93 ((x6 ++ [y84]).length) c94 u78 u43 x29.length u45 u2c u8.length u2e u2f p22 f96 rfl (u75.ext ((((z18.trans z19).trans z20).trans z21).trans z22)) rfl (u54.ext ((((z18.trans z19).trans z20).trans z21).trans z22)) rfl)
  ·
   rw [decide_eq_false h70]
   refine Goes.rn 2 [] J6v ?_
   exact Goes.jp 59 [(0, (pt gx0 0)), (2, .i x2), (6, .slice (Gp Gx6) x6.length cx6)] (u4n _ _ h gx0 _ _ hx Gx6 x6.length cx6 u46 u2c u8.length u2e u2f p1 fx6 rfl u54 rfl)
 ·
  intro u79 u7a ⟨u2g, x1, x2⟩ r h nz wz S0 w0 Lr iG gx0 u2h u2i u2j u2k Ax1 nx1 cx1 p0 u2l u2m fx1 lx1
  try dsimp only at h
  subst u2m
  subst lx1
  refine calls_of_goes (fn := Tryd.f53) (c := B53) (by kernel_rfl) (by kernel_rfl) 44 (by kernel_rfl) ?_
  refine Goes.jp 47 [(0, (pt gx0 0)), (1, .slice Ax1 x1.length cx1), (2, .i x2)] (fun junk => ?_)
  refine Goes.rn 9 [(9, .slice Ax1 x1.length cx1), (10, .i (x1.length : Int)), (11, .i 0)] J6q ?_
  exact Goes.jp 47 [(0, (pt gx0 0)), (1, .slice Ax1 x1.length cx1), (2, .i x2), (9, .slice Ax1 x1.length cx1), (10, .i (x1.length : Int)), (11, .i 0)] (u7a _ _ h gx0 _ _ (Ext.refl S0 w0) Ax1 x1.length cx1 Ax1 x1.length cx1 u2h u2g.length u2j u2k p0 fx1 rfl fx1 rfl u2l rfl)
 ·
  intro u7b u7c ⟨x1, x2, x9, x10, x11, u8⟩ r h nz wz S0 w0 Lr iG gx0 S1 w1 hx Ax1 nx1 cx1 Ax9 nx9 cx9 u2c u2d u2e u2f p1 fx1 lx1 fx9 lx9 u54 u55 junk
  try dsimp only at h
  subst lx1
  subst lx9
  subst u55
  refine Goes.rn 5 [(12, .bool (decide (x11 < x10)))] J8j ?_
  refine ite_some h (fun h4 h => ?_) (fun h4 h => ?_)
  ·
   rw [decide_eq_true h4]
   refine Goes.rn 7 [(13, .i x11)] J8l ?_
   refine guard_some' h fun g5 h => ?_
   refine guard_some' h fun g6 h => ?_
   refine Op_.ixR_n 26 (.tmp 9) (.tmp 11) 14 0 28 .i64 x11 (gi x9 x11) rfl rfl fx9 Goes.v (by kernel_rfl) (by kernel_rfl) (by kernel_rfl) (by kernel_rfl) g5 g6 ?_
   intro a7 _ f8 q9
   have q10 := q9
   obtain ⟨_, _, rfl, rfl, ⟨_, _, rfl, ⟨l11, f12⟩, ⟨_, _, rfl, ⟨A13, c14, rfl, f15⟩, ⟨_, _, rfl, rfl, rfl⟩⟩⟩⟩ := kT27_open q10
   obtain rfl := els_lit4' f12 l11
   refine Goes.ldN 28 (.tmp 14) 15 28 a7 ([.i ((gi x9 x11).Kind)] ++ ((U4 ((gi x9 x11).Set) []) ++ ([.slice A13 (((gi x9 x11).L).length) c14] ++ ([.i ((gi x9 x11).Min)] ++ [.i ((gi x9 x11).Max)])))) (f8.cell) ?_
   refine Op_.alloc 28 7 0 (.agg #[.i 0, .u 0, .u 0, .u 0, .u 0, .slice none 0 0, .i 0, .i 0]) [.i 0, .u 0, .u 0, .u 0, .u 0, .slice none 0 0, .i 0, .i 0] p1 Goes.v (by kernel_rfl) (by kernel_rfl) ?_
   intro b16 w2 z2 p2
   refine Goes.rn 1 [(6, .i x11)] J8m ?_
   refine Op_.st 28 (.tmp 7) (.tmp 15) 0 0 b16 0 (ag (.i ((gi x9 x11).Kind) :: U4 ((gi x9 x11).Set) [.slice A13 (((gi x9 x11).L).length) c14, .i ((gi x9 x11).Min), .i ((gi x9 x11).Max)])) (.i ((gi x9 x11).Kind) :: U4 ((gi x9 x11).Set) [.slice A13 (((gi x9 x11).L).length) c14, .i ((gi x9 x11).Min), .i ((gi x9 x11).Max)]) p2 rfl Goes.s (by kernel_rfl) (by kernel_rfl) (by kernel_rfl) (by kernel_rfl) (Nat.zero_le _) (by simp only [List.length_cons, List.length_nil]; omega) (by simp [Value.oneCell']) ?_
   intro w3 z3 p3
   have p3 : Hp nz wz S1 w3 ((some b16, .row 28 (.i ((gi x9 x11).Kind) :: U4 ((gi x9 x11).Set) [.slice A13 (((gi x9 x11).L).length) c14, .i ((gi x9 x11).Min), .i ((gi x9 x11).Max)]) 8 0) :: (some gx0, .row 78 [.slice (Gp u2c) u8.length u2e] 1 0) :: (u2c, .row 49 u2f (u2e * kT48.size) 0) :: Lr) := p3
   refine Goes.rn 10 [(16, .i x11), (17, .slice Ax1 x1.length cx1), (18, .i (x1.length : Int)), (19, .i (wr .i64 ((x1.length : Int) - 1))), (20, .bool (decide (x11 < wr .i64 ((x1.length : Int) - 1))))] J8n ?_
   refine ite_some h (fun h18 h => ?_) (fun h18 h => ?_)
   ·
    rw [decide_eq_true h18]
    refine Goes.rn 6 [(21, (pt gx0 0)), (22, (pt gx0 0)), (23, (pt gx0 0))] J8p ?_
    refine Goes.ld 37 (.tmp 23) 24 37 ⟨gx0, 0, none⟩ (.slice (Gp u2c) u8.length u2e) (p3.c 1 0) ?_
    refine Goes.rn 8 [(25, .i (u8.length : Int)), (26, .i (wr .i64 ((u8.length : Int) + 1))), (8, .i (wr .i64 ((u8.length : Int) + 1))), (27, (pt gx0 0)), (28, .i (wr .i64 ((u8.length : Int) + 1))), (29, .i (wr .i64 ((u8.length : Int) + 1)))] J8q ?_
    refine Goes.ldN 28 (.tmp 7) 30 28 ⟨b16, 0, none⟩ (.i ((gi x9 x11).Kind) :: U4 ((gi x9 x11).Set) [.slice A13 (((gi x9 x11).L).length) c14, .i ((gi x9 x11).Min), .i ((gi x9 x11).Max)]) (p3.pa 0 0) ?_
    refine bind_some' h fun y19 e20 h => ?_
    refine Goes.cal (kc 38 [30] #[28]) 31 3 38 _ (W.zj (⟨(gi x9 x11).Kind, ((gi x9 x11).Set), (gi x9 x11).L, (gi x9 x11).Min, (gi x9 x11).Max⟩ : T27) y19 e20 A13 (((gi x9 x11).L).length) c14 p3 l11 (f15.ext (z2.trans z3)) rfl) ?_
    rintro _ w4 ⟨S4, rfl, z4, p4⟩
    refine Goes.rn 2 [(32, .i (wr .i64 ((wr .i64 ((u8.length : Int) + 1)) + y19))), (33, .agg #[.i 2, .u 0, .u 0, .u 0, .u 0, .i (wr .i64 ((u8.length : Int) + 1)), .i (wr .i64 ((wr .i64 ((u8.length : Int) + 1)) + y19))])] J8r ?_
    have p4 := (p4.fr 2).fr 2
    refine bind_some' h fun y21 e22 h => ?_
    refine Goes.cal (kc 36 [27, 33] #[76, 49]) 34 3 36 _ (W.zn u8 (⟨2, [0, 0, 0, 0], wr .i64 ((u8.length : Int) + 1), wr .i64 ((wr .i64 ((u8.length : Int) + 1)) + y19)⟩ : T48) y21 e22 gx0 u2c u8.length u2e u2f p4 (u54.ext ((z2.trans z3).trans z4)) rfl rfl) ?_
    rintro _ w5 ⟨S5, u5t, u5u, u5v, u5w, rfl, z5, p5, u5x, rfl⟩
    refine Goes.rn 1 [] J6t ?_
    have p5 := ((p5.fr 1).fr 1).fr 2
    exact Goes.jp 47 [(0, (pt gx0 0)), (1, .slice Ax1 x1.length cx1), (2, .i x2), (7, (pt b16 0)), (9, .slice Ax9 x9.length cx9), (10, .i x10), (11, .i x11)] (u7c _ _ h gx0 _ _ ((((hx.trans z2).trans z3).trans z4).trans z5) Ax1 x1.length cx1 b16 A13 (((gi x9 x11).L).length) c14 Ax9 x9.length cx9 u5t y21.2.length u5v u5w p5 (fx1.ext (((z2.trans z3).trans z4).trans z5)) rfl l11 (f15.ext (((z2.trans z3).trans z4).trans z5)) rfl (fx9.ext (((z2.trans z3).trans z4).trans z5)) rfl u5x rfl)
   ·
    rw [decide_eq_false h18]
    refine Goes.rn 2 [] J6t ?_
    exact Goes.jp 47 [(0, (pt gx0 0)), (1, .slice Ax1 x1.length cx1), (2, .i x2), (7, (pt b16 0)), (9, .slice Ax9 x9.length cx9), (10, .i x10), (11, .i x11)] (u7c _ _ h gx0 _ _ ((hx.trans z2).trans z3) Ax1 x1.length cx1 b16 A13 (((gi x9 x11).L).length) c14 Ax9 x9.length cx9 u2c u8.length u2e u2f p3 (fx1.ext (z2.trans z3)) rfl l11 (f15.ext (z2.trans z3)) rfl (fx9.ext (z2.trans z3)) rfl (u54.ext (z2.trans z3)) rfl)
  ·
   rw [decide_eq_false h4]
   refine Goes.rn 8 [(40, .slice Ax1 x1.length cx1), (41, .i (x1.length : Int)), (42, .bool (decide ((x1.length : Int) = 0)))] J8s ?_
   refine ite_some h (fun h26 h => ?_) (fun h26 h => ?_)
   ·
    rw [decide_eq_true h26]
    refine Goes.rn 5 [(43, (pt gx0 0)), (44, .i x2), (45, .agg #[.i 1, .u 0, .u 0, .u 0, .u 0, .i x2, .i 0])] J8t ?_
    refine bind_some' h fun y27 e28 h => ?_
    refine Goes.cal (kc 36 [43, 45] #[76, 49]) 46 3 36 _ (W.zn u8 (⟨1, [0, 0, 0, 0], x2, 0⟩ : T48) y27 e28 gx0 u2c u8.length u2e u2f p1 u54 rfl rfl) ?_
    rintro _ w6 ⟨S6, u5y, u5z, u60, u61, rfl, z6, p6, u62, rfl⟩
    refine Goes.rn 1 [] [] ?_
    obtain rfl := Option.some.inj h
    exact Goes.end_ (fn := Tryd.f53) (by kernel_rfl) (v := .tuple #[]) (by kernel_rfl) ⟨S6, u5y, y27.2.length, u60, u61, rfl, (hx.trans z6), p6, u62, rfl⟩
   ·
    rw [decide_eq_false h26]
    refine Goes.rn 2 [] [] ?_
    obtain rfl := Option.some.inj h
    exact Goes.end_ (fn := Tryd.f53) (by kernel_rfl) (v := .tuple #[]) (by kernel_rfl) ⟨S1, u2c, u8.length, u2e, u2f, rfl, hx, p1, u54, rfl⟩
 ·
  intro rec_prog_writer_code u79 ih_prog_writer_code u7a ⟨x1, x2, x7v, x9, x10, x11, u8⟩ r h nz wz S0 w0 Lr iG gx0 S1 w1 hx Ax1 nx1 cx1 gx7 u42 uh ui Ax9 nx9 cx9 u2c u2d u2e u2f p1 fx1 lx1 uy uz u10 fx9 lx9 u54 u55 junk
  try dsimp only at h
  subst lx1
  subst u10
  subst lx9
  subst u55
  refine Goes.rn 2 [(35, (pt gx0 0))] J8u ?_
  refine Goes.ldN 28 (.tmp 7) 36 28 ⟨gx7, 0, none⟩ (.i x7v.Kind :: U4 x7v.Set [.slice u42 x7v.L.length ui, .i x7v.Min, .i x7v.Max]) (p1.pa 0 0) ?_
  refine Goes.rn 1 [(37, .i x2)] J8v ?_
  have p1 := (p1.fr 2).fr 2
  refine bind_some' h fun y30 e31 h => ?_
  refine Goes.cal (kc 35 [35, 36, 37] #[76, 28, 3]) 38 0 35 _ (ih_prog_writer_code (u8, x7v, x2) y30 e31 gx0 u2c u8.length u2e u2f u42 x7v.L.length ui p1 u54 rfl uy uz rfl) ?_
  rintro _ w7 ⟨S7, u63, u64, u65, u66, rfl, z7, p7, u67, rfl⟩
  have p7 := p7.dp 2
  refine Goes.rn 7 [(39, .i (wr .i64 (x11 + 1))), (11, .i (wr .i64 (x11 + 1)))] J6q ?_
  exact Goes.jp 47 [(0, (pt gx0 0)), (1, .slice Ax1 x1.length cx1), (2, .i x2), (9, .slice Ax9 x9.length cx9), (10, .i x10), (11, .i (wr .i64 (x11 + 1)))] (u7a _ _ h gx0 _ _ (hx.trans z7) Ax1 x1.length cx1 Ax9 x9.length cx9 u63 y30.length u65 u66 p7 (fx1.ext z7) rfl (fx9.ext z7) rfl u67 rfl)

theorem W.zw : ∀ a r, M.prog_writer_code a = some r → LF.zw a r := (W.z1b).1

theorem W.z1a : ∀ a r, M.prog_writer_code_l2 a = some r → LL.z1a a r := (W.z1b).2.1

theorem W.zy : ∀ a r, M.prog_writer_row a = some r → LF.zy a r := (W.z1b).2.2.1

theorem W.z17 : ∀ a r, M.prog_writer_row_l0 a = some r → LL.z17 a r := (W.z1b).2.2.2.1

theorem W.z18 : ∀ a r, M.prog_writer_row_l1 a = some r → LL.z18 a r := (W.z1b).2.2.2.2.1

theorem W.z11 : ∀ a r, M.prog_writer_perhaps_1 a = some r → LF.z11 a r := (W.z1b).2.2.2.2.2.1

theorem W.z10 : ∀ a r, M.prog_writer_loop_1 a = some r → LF.z10 a r := (W.z1b).2.2.2.2.2.2.1

theorem W.z19 : ∀ a r, M.prog_writer_row_l2 a = some r → LL.z19 a r := (W.z1b).2.2.2.2.2.2.2.1

theorem W.zz : ∀ a r, M.prog_writer_of_1 a = some r → LF.zz a r := (W.z1b).2.2.2.2.2.2.2.2.1

theorem W.z16 : ∀ a r, M.prog_writer_code_l1 a = some r → LL.z16 a r := (W.z1b).2.2.2.2.2.2.2.2.2.1

theorem W.z14 : ∀ a r, M.prog_writer_code_l0 a = some r → LL.z14 a r := (W.z1b).2.2.2.2.2.2.2.2.2.2.1

theorem W.z15 : ∀ a r, M.prog_writer_code_l3 a = some r → LL.z15 a r := (W.z1b).2.2.2.2.2.2.2.2.2.2.2.1

theorem W.zx : ∀ a r, M.prog_writer_any a = some r → LF.zx a r := (W.z1b).2.2.2.2.2.2.2.2.2.2.2.2.1

theorem W.z12 : ∀ a r, M.prog_writer_any_l0 a = some r → LL.z12 a r := (W.z1b).2.2.2.2.2.2.2.2.2.2.2.2.2.1

theorem W.z13 : ∀ a r, M.prog_writer_any_l1 a = some r → LL.z13 a r := (W.z1b).2.2.2.2.2.2.2.2.2.2.2.2.2.2

def Q6l := sub [1] B15
def J8w : List Item := [.code Q6l]
def Q6m := sub [0] B15
def J8x : List Item := .inRegion (opsOf Q6m) [0, 1, 2] :: J8w
def Q6n := sub [1, 1] B15
def J8y : List Item := [.code Q6n]
def Q6o := sub [1, 0] B15
def J8z : List Item := .inRegion (opsOf Q6o) [0, 1, 2, 3, 4, 5, 6] :: J8y
def Q6p := sub [1, 1, 1] B15
def J90 : List Item := [.code Q6p]
def J91 : List Item := .inBlock 0 :: J90
def Q6q := sub [1, 1, 0, 0, 1] B15
def J92 : List Item := .code Q6q :: J91
def Q6r := sub [1, 1, 0, 0, 1, 1, 1] B15
def J93 : List Item := .code Q6r :: J91
def Q6s := sub [1, 1, 0, 0, 1, 1, 1, 0, 1] B15
def J94 : List Item := .code Q6s :: J91
def Q6t := sub [1, 1, 1, 1] B15
def J95 : List Item := [.code Q6t]
def Q6u := sub [1, 1, 1, 0] B15
def J96 : List Item := .inRegion (opsOf Q6u) [1, 2] :: J95
def Q6v := sub [1, 1, 1, 1, 1] B15
def J97 : List Item := [.code Q6v]
def Q6w := sub [1, 1, 1, 1, 0] B15
def J98 : List Item := .inRegion (opsOf Q6w) [1, 2, 3, 4] :: J97
def J99 : List Item := .inRegion (opsOf Q6w) [4] :: J97
def Q6x := sub [1, 1, 1, 1, 1, 1] B15
def J9a : List Item := [.code Q6x]
def Q6y := sub [1, 1, 1, 1, 1, 0] B15
def J9b : List Item := .inRegion (opsOf Q6y) [2] :: J9a
def Q6z := sub [1, 1, 1, 1, 1, 1, 1] B15
def J9c : List Item := [.code Q6z]
def Q70 := sub [1, 1, 1, 1, 1, 1, 0] B15
def J9d : List Item := .inRegion (opsOf Q70) [3, 4, 5, 6] :: J9c
def Q71 := sub [1, 1, 0, 0, 1, 0, 1] B15
def J9e : List Item := .code Q71 :: J91

def Post.z1c (r : (List T48) × Int) (v : Value) (w' : World) : Prop :=
 ∃ S' u7d u7e u7f u7g, v = .tuple #[.slice (Gp u7d) u7e u7f, .i r.2] ∧ Ext S0 w0 S' w' ∧ Hp nz wz S' w' ((u7d, .row 49 u7g (u7f * kT48.size) 0) :: Lr) ∧ Els kT48 S' w' u7g r.1 ∧ r.1.length = u7e

theorem W.z1c (x0 : T27) (r : (List T48) × Int) (h : M.prog_Make x0 = some r) {nz wz S0 w0 Lr} [Gw nz wz] (u5 u6 u7) (p0 : Hp nz wz S0 w0 (Lr)) (um : x0.Set.length = 4) (un : Rd kT27 S0 w0 u5 u7 x0.L) (uo : x0.L.length = u6) :
  Calls Tryd.prog 15 #[(ag (.i x0.Kind :: U4 x0.Set [.slice u5 u6 u7, .i x0.Min, .i x0.Max]))] w0 (Rets (Post.z1c nz wz S0 w0 Lr r)) := by
 subst uo
 refine calls_of_goes (fn := Tryd.f15) (c := B15) (by kernel_rfl) (by kernel_rfl) 33 (by kernel_rfl) ?_
 refine Goes.jp 34 [(0, (ag (.i x0.Kind :: U4 x0.Set [.slice u5 x0.L.length u7, .i x0.Min, .i x0.Max])))] (fun junk => ?_)
 delta M.prog_Make at h
 refine Goes.rn 2 [] J8x ?_
 refine Op_.box 28 (.tmp 0) 1 0 (ag (.i x0.Kind :: U4 x0.Set [.slice u5 x0.L.length u7, .i x0.Min, .i x0.Max])) (.i x0.Kind :: U4 x0.Set [.slice u5 x0.L.length u7, .i x0.Min, .i x0.Max]) p0 Goes.v (by kernel_rfl) (by kernel_rfl) ?_
 intro b1 w2 z2 p2
 refine Goes.rn 5 [(2, .slice none 0 0), (3, .i 0)] J8z ?_
 refine Goes.ldN 28 (.tmp 1) 8 28 ⟨b1, 0, none⟩ (.i x0.Kind :: U4 x0.Set [.slice u5 x0.L.length u7, .i x0.Min, .i x0.Max]) (p2.pa 0 0) ?_
 refine bind_some' h fun y3 e4 h => ?_
 refine Goes.cal (kc 17 [8] #[28]) 9 40 17 _ (W.zm x0 y3 e4 u5 x0.L.length u7 p2 um (un.ext z2) rfl) ?_
 rintro _ w3 ⟨S3, rfl, z3, p3⟩
 refine Goes.rn 14 [(7, .tuple #[.i y3.1, .i y3.2]), (10, .i y3.1), (11, .i y3.2), (4, .i y3.1), (5, .i y3.2), (13, .i y3.2), (14, .bool (!(decide (y3.2 = 0)))), (12, .bool (!(decide (y3.2 = 0))))] J92 ?_
 refine ite_some h (fun h5 h => ?_) (fun h5 h => ?_)
 ·
  rw [decide_eq_true h5]
  refine Goes.rn 7 [(17, .i y3.1), (18, .bool (decide (y3.1 > 2048))), (16, .bool (decide (y3.1 > 2048)))] J93 ?_
  refine ite_some h (fun h6 h => ?_) (fun h6 h => ?_)
  ·
   rw [decide_eq_true h6]
   refine Goes.rn 6 [(2, .slice none 0 0), (3, .i 110)] J94 ?_
   have p3 : Hp nz wz S3 w3 ((none, .row 49 [] (0 * kT48.size) 0) :: (some b1, .row 28 (.i x0.Kind :: U4 x0.Set [.slice u5 x0.L.length u7, .i x0.Min, .i x0.Max]) 8 0) :: Lr) := p3.nilRow' 49
   obtain rfl := Option.some.inj h
   have p3 := p3.dp 1
   exact Goes.rt Tryd.f15 (.tuple #[.slice (Gp none) 0 0, .i 110]) ⟨S3, none, 0, 0, [], rfl, (((Ext.refl S0 w0).trans z2).trans z3), p3, (Els.nil (K := kT48)), rfl⟩
  ·
   rw [decide_eq_false h6]
   refine Goes.rn 6 [(19, .agg #[.slice none 0 0])] J96 ?_
   refine Op_.box 78 (.tmp 19) 20 76 (.agg #[.slice none 0 0]) [.slice none 0 0] p3 Goes.v (by kernel_rfl) (by kernel_rfl) ?_
   intro b8 w4 z4 p4
   refine Goes.rn 5 [(6, (pt b8 0)), (21, (pt b8 0))] J98 ?_
   refine Goes.ldN 28 (.tmp 1) 22 28 ⟨b1, 0, none⟩ (.i x0.Kind :: U4 x0.Set [.slice u5 x0.L.length u7, .i x0.Min, .i x0.Max]) (p4.pa 1 0) ?_
   refine Goes.rn 2 [(23, .i y3.1), (24, .i (wr .i64 (y3.1 - 1)))] J99 ?_
   have p4 : Hp nz wz S3 w4 ((none, .row 49 [] (0 * kT48.size) 0) :: (some b8, .row 78 [.slice none 0 0] 1 0) :: (some b1, .row 28 (.i x0.Kind :: U4 x0.Set [.slice u5 x0.L.length u7, .i x0.Min, .i x0.Max]) 8 0) :: Lr) := p4.nilRow' 49
   have p4 := (p4.fr 0).fr 1
   refine bind_some' h fun y11 e12 h => ?_
   refine Goes.cal (kc 35 [21, 22, 24] #[76, 28, 3]) 25 0 35 _ (W.zw (([] : List T48), x0, wr .i64 (y3.1 - 1)) y11 e12 b8 none 0 0 [] u5 x0.L.length u7 p4 (Els.nil (K := kT48)) rfl um (un.ext ((z2.trans z3).trans z4)) rfl) ?_
   rintro _ w5 ⟨S5, u5t, u5u, u5v, u5w, rfl, z5, p5, u5x, rfl⟩
   have p5 := p5.dp 2
   refine Goes.rn 5 [(26, (pt b8 0)), (27, .agg #[.i 3, .u 0, .u 0, .u 0, .u 0, .i 0, .i 0])] J9b ?_
   refine bind_some' h fun y14 e15 h => ?_
   refine Goes.cal (kc 36 [26, 27] #[76, 49]) 28 3 36 _ (W.zn y11 (⟨3, [0, 0, 0, 0], 0, 0⟩ : T48) y14 e15 b8 u5t y11.length u5v u5w p5 u5x rfl rfl) ?_
   rintro _ w6 ⟨S6, u5y, u5z, u60, u61, rfl, z6, p6, u62, rfl⟩
   refine Goes.rn 6 [(29, (pt b8 0)), (30, (pt b8 0)), (31, (pt b8 0))] J9d ?_
   refine Goes.ld 37 (.tmp 31) 32 37 ⟨b8, 0, none⟩ (.slice (Gp u5y) y14.2.length u60) (p6.c 0 0) ?_
   refine Goes.rn 4 [(33, .i y3.2), (2, .slice (Gp u5y) y14.2.length u60), (3, .i y3.2)] J9c ?_
   obtain rfl := Option.some.inj h
   have p6 := p6.dp 0
   exact Goes.rt Tryd.f15 (.tuple #[.slice (Gp u5y) y14.2.length u60, .i y3.2]) ⟨S6, u5y, y14.2.length, u60, u61, rfl, ((((((Ext.refl S0 w0).trans z2).trans z3).trans z4).trans z5).trans z6), p6, u62, rfl⟩
 ·
  rw [decide_eq_false h5]
  refine Goes.rn 7 [(15, .i y3.2), (2, .slice none 0 0), (3, .i y3.2)] J9e ?_
  have p3 : Hp nz wz S3 w3 ((none, .row 49 [] (0 * kT48.size) 0) :: (some b1, .row 28 (.i x0.Kind :: U4 x0.Set [.slice u5 x0.L.length u7, .i x0.Min, .i x0.Max]) 8 0) :: Lr) := p3.nilRow' 49
  obtain rfl := Option.some.inj h
  have p3 := p3.dp 1
  exact Goes.rt Tryd.f15 (.tuple #[.slice (Gp none) 0 0, .i y3.2]) ⟨S3, none, 0, 0, [], rfl, (((Ext.refl S0 w0).trans z2).trans z3), p3, (Els.nil (K := kT48)), rfl⟩

def Q72 := sub [1, 1, 1] B57
def J9f : List Item := [.code Q72]
def J9g : List Item := .inBlock 0 :: J9f
def Q73 := sub [1, 1, 0, 1, 0, 0] B57
def J9h : List Item := .inLoop Q73 :: J9g
def J9i : List Item := .code Q73 :: J9h
def Q74 := sub [1, 1, 0, 1, 0, 0, 1] B57
def J9j : List Item := .code Q74 :: J9h
def Q75 := sub [1, 1, 0, 1, 0, 0, 0, 1] B57
def J9k : List Item := .code Q75 :: J9j
def Q76 := sub [1, 1, 0, 1, 0, 0, 1, 1] B57
def J9l : List Item := .code Q76 :: J9h
def J9m : List Item := .inBlock 1 :: J9l
def Q77 := sub [1, 1, 0, 1, 0, 0, 1, 0, 0, 1, 1, 1, 1] B57
def J9n : List Item := .code Q77 :: J9m
def Q78 := sub [1] B57
def J9o : List Item := [.code Q78]
def Q79 := sub [0] B57
def J9p : List Item := .inRegion (opsOf Q79) [0, 1, 2] :: J9o
def Q7a := sub [1, 1, 0, 1, 0] B57
def J9q : List Item := .code Q7a :: J9g
def Q7b := sub [1, 1, 0, 1, 0, 0, 0, 0] B57
def J9r : List Item := .inRegion (opsOf Q7b) [2, 3, 4, 5, 6, 7, 8] :: J9k
def J9s : List Item := .inRegion (opsOf Q7b) [6, 7, 8] :: J9k
def Q7c := sub [1, 1, 0, 1, 0, 0, 1, 0, 0, 1] B57
def J9t : List Item := .code Q7c :: J9m
def Q7d := sub [1, 1, 0, 1, 0, 0, 1, 0, 0, 0, 1] B57
def J9u : List Item := .code Q7d :: J9t
def Q7e := sub [1, 1, 0, 1, 0, 0, 1, 0, 0, 0, 1, 0, 1] B57
def J9v : List Item := .code Q7e :: J9t
def Q7f := sub [1, 1, 0, 1, 0, 0, 1, 0, 0, 1, 1] B57
def J9w : List Item := .code Q7f :: J9m
def Q7g := sub [1, 1, 0, 1, 0, 0, 1, 0, 0, 1, 0] B57
def J9x : List Item := .inRegion (opsOf Q7g) [1, 2, 3, 4, 5, 6, 7, 8, 9, 10, 11, 12] :: J9w
def J9y : List Item := .inRegion (opsOf Q7g) [3, 4, 5, 6, 7, 8, 9, 10, 11, 12] :: J9w
def J9z : List Item := .inRegion (opsOf Q7g) [7, 8, 9, 10, 11, 12] :: J9w
def Q7h := sub [1, 1, 0, 1, 0, 0, 1, 0, 0, 1, 1, 1] B57
def Ja0 : List Item := .code Q7h :: J9m
def Q7i := sub [1, 1, 0, 1, 0, 0, 1, 0, 0, 1, 1, 0] B57
def Ja1 : List Item := .inRegion (opsOf Q7i) [6, 7] :: Ja0
def Q7j := sub [1, 1, 0, 1, 0, 0, 1, 0, 0, 1, 1, 1, 0] B57
def Ja2 : List Item := .inRegion (opsOf Q7j) [3, 4, 5] :: J9n
def Q7k := sub [1, 1, 1, 1] B57
def Ja3 : List Item := [.code Q7k]
def Q7l := sub [1, 1, 0, 1, 0, 0, 1, 0, 0, 1, 1, 1, 1, 0, 1] B57
def Ja4 : List Item := .code Q7l :: J9m

def Post.z1d (r : Int × Int) (v : Value) (w' : World) : Prop :=
 ∃ S', v = .tuple #[.i r.1, .i r.2] ∧ Ext S0 w0 S' w' ∧ Hp nz wz S' w' (Lr)

def LF.z1d : T27 × Int → (Int × Int) → Prop := fun ⟨x0, x1⟩ r => ∀ {nz wz S0 w0 Lr} [Gw nz wz] u5 u6 u7 (_ : Hp nz wz S0 w0 (Lr)) (_ : x0.Set.length = 4) (_ : Rd kT27 S0 w0 u5 u7 x0.L) (_ : x0.L.length = u6),
 Calls Tryd.prog 57 #[(ag (.i x0.Kind :: U4 x0.Set [.slice u5 u6 u7, .i x0.Min, .i x0.Max])), .i x1] w0 (Rets (Post.z1d nz wz S0 w0 Lr r))

def L.z1e : Int × T27 × Int × Int × Int → (Int × Int) → Prop := fun ⟨x1, x2v, x6, x7, x8⟩ r => ∀ S1 w1, Ext S0 w0 S1 w1 → ∀ gx2 u7h u7i u7j (_ : Hp nz wz S1 w1 ((some gx2, .row 28 (.i x2v.Kind :: U4 x2v.Set [.slice u7h u7i u7j, .i x2v.Min, .i x2v.Max]) 8 0) :: Lr)) (_ : x2v.Set.length = 4) (_ : Rd kT27 S1 w1 u7h u7j x2v.L) (_ : x2v.L.length = u7i) (junk : Nat → Value),
 Goes Tryd.prog (base 57) J9i ⟨lfr 50 [(1, .i x1), (2, (pt gx2 0)), (6, .i x6), (7, .i x7), (8, .i x8)] junk, []⟩ w1 (Done Tryd.prog 57 (Rets (Post.z1d nz wz S0 w0 Lr r)))

def LL.z1e : Int × T27 × Int × Int × Int → (Int × Int) → Prop := fun a r => ∀ {nz wz S0 w0 Lr} [Gw nz wz], L.z1e nz wz S0 w0 Lr a r

def L.z1f : Int × T27 × Int × Int × Int × Bool → (Int × Int) → Prop := fun ⟨x1, x2v, x6, x7, x8, x19⟩ r => ∀ S1 w1, Ext S0 w0 S1 w1 → ∀ gx2 u7h u7i u7j (_ : Hp nz wz S1 w1 ((some gx2, .row 28 (.i x2v.Kind :: U4 x2v.Set [.slice u7h u7i u7j, .i x2v.Min, .i x2v.Max]) 8 0) :: Lr)) (_ : x2v.Set.length = 4) (_ : Rd kT27 S1 w1 u7h u7j x2v.L) (_ : x2v.L.length = u7i) (junk : Nat → Value),
 Goes Tryd.prog (base 57) J9k ⟨lfr 50 [(1, .i x1), (2, (pt gx2 0)), (6, .i x6), (7, .i x7), (8, .i x8), (19, .bool x19)] junk, []⟩ w1 (Done Tryd.prog 57 (Rets (Post.z1d nz wz S0 w0 Lr r)))

def LL.z1f : Int × T27 × Int × Int × Int × Bool → (Int × Int) → Prop := fun a r => ∀ {nz wz S0 w0 Lr} [Gw nz wz], L.z1f nz wz S0 w0 Lr a r

def L.z1g : Int × T27 × Int × Int × Int × Bool → (Int × Int) → Prop := fun ⟨x1, x2v, x6, x7, x8, x46⟩ r => ∀ S1 w1, Ext S0 w0 S1 w1 → ∀ gx2 u7h u7i u7j (_ : Hp nz wz S1 w1 ((some gx2, .row 28 (.i x2v.Kind :: U4 x2v.Set [.slice u7h u7i u7j, .i x2v.Min, .i x2v.Max]) 8 0) :: Lr)) (_ : x2v.Set.length = 4) (_ : Rd kT27 S1 w1 u7h u7j x2v.L) (_ : x2v.L.length = u7i) (junk : Nat → Value),
 Goes Tryd.prog (base 57) J9n ⟨lfr 50 [(1, .i x1), (2, (pt gx2 0)), (6, .i x6), (7, .i x7), (8, .i x8), (46, .bool x46)] junk, []⟩ w1 (Done Tryd.prog 57 (Rets (Post.z1d nz wz S0 w0 Lr r)))

def LL.z1g : Int × T27 × Int × Int × Int × Bool → (Int × Int) → Prop := fun a r => ∀ {nz wz S0 w0 Lr} [Gw nz wz], L.z1g nz wz S0 w0 Lr a r

theorem W.z1h : (∀ a r, M.tidepoleref10_deep a = some r → LF.z1d a r) ∧ (∀ a r, M.tidepoleref10_deep_l0 a = some r → LL.z1e a r) ∧ (∀ a r, M.tidepoleref10_deep_l1 a = some r → LL.z1f a r) ∧ (∀ a r, M.tidepoleref10_deep_l2 a = some r → LL.z1g a r) := by
 refine M.tidepoleref10_deep.mutual_partial_correctness LF.z1d LL.z1e LL.z1f LL.z1g ?_ ?_ ?_ ?_
 ·
  intro u7k u7l ⟨x0, x1⟩ r h nz wz S0 w0 Lr iG u5 u6 u7 p0 um un uo
  try dsimp only at h
  subst uo
  refine calls_of_goes (fn := Tryd.f57) (c := B57) (by kernel_rfl) (by kernel_rfl) 48 (by kernel_rfl) ?_
  refine Goes.jp 50 [(0, (ag (.i x0.Kind :: U4 x0.Set [.slice u5 x0.L.length u7, .i x0.Min, .i x0.Max]))), (1, .i x1)] (fun junk => ?_)
  refine Goes.rn 2 [] J9p ?_
  refine Op_.box 28 (.tmp 0) 2 0 (ag (.i x0.Kind :: U4 x0.Set [.slice u5 x0.L.length u7, .i x0.Min, .i x0.Max])) (.i x0.Kind :: U4 x0.Set [.slice u5 x0.L.length u7, .i x0.Min, .i x0.Max]) p0 Goes.v (by kernel_rfl) (by kernel_rfl) ?_
  intro b1 w2 z2 p2
  refine Goes.rn 14 [(4, .i 0), (5, .i 0), (6, .i 0), (7, .i 1), (8, .i 0)] J9q ?_
  refine Goes.rn 1 [] J9i ?_
  exact Goes.jp 50 [(1, .i x1), (2, (pt b1 0)), (6, .i 0), (7, .i 1), (8, .i 0)] (u7l _ _ h _ _ ((Ext.refl S0 w0).trans z2) b1 u5 x0.L.length u7 p2 um (un.ext z2) rfl)
 ·
  intro u7m u7n ⟨x1, x2v, x6, x7, x8⟩ r h nz wz S0 w0 Lr iG S1 w1 hx gx2 u7h u7i u7j p1 u7o u7p u7q junk
  try dsimp only at h
  subst u7q
  refine Goes.rn 5 [(11, .i x8), (12, (pt gx2 5))] J9r ?_
  refine Goes.ld 26 (.tmp 12) 13 26 ⟨gx2, 5, none⟩ (.slice u7h x2v.L.length u7j) (p1.c 0 5) ?_
  refine Goes.rn 3 [(14, .i (x2v.L.length : Int)), (15, .bool (decide (x8 < (x2v.L.length : Int)))), (16, .bool (decide (x8 < (x2v.L.length : Int))))] J9s ?_
  refine ite_some h (fun h4 h => ?_) (fun h4 h => ?_)
  ·
   rw [decide_eq_true h4]
   refine Goes.rn 4 [(17, .i x8), (18, .bool (decide (x8 < 5000))), (19, .bool (decide (x8 < 5000)))] J9k ?_
   exact Goes.jp 50 [(1, .i x1), (2, (pt gx2 0)), (6, .i x6), (7, .i x7), (8, .i x8), (19, .bool (decide (x8 < 5000)))] (u7n _ _ h _ _ hx gx2 u7h x2v.L.length u7j p1 u7o u7p rfl)
  ·
   rw [decide_eq_false h4]
   refine Goes.rn 4 [(17, undef), (18, undef), (19, .bool false)] J9k ?_
   exact Goes.jp 50 [(1, .i x1), (2, (pt gx2 0)), (6, .i x6), (7, .i x7), (8, .i x8), (19, .bool false)] (u7n _ _ h _ _ hx gx2 u7h x2v.L.length u7j p1 u7o u7p rfl)
 ·
  intro u7r u7s u7t u7u ⟨x1, x2v, x6, x7, x8, x19⟩ r h nz wz S0 w0 Lr iG S1 w1 hx gx2 u7h u7i u7j p1 u7o u7p u7q junk
  try dsimp only at h
  subst u7q
  refine ite_some h (fun h6 h => ?_) (fun h6 h => ?_)
  ·
   rw [h6]
   refine Goes.rn 10 [(22, .i x1), (23, .bool (decide (x1 = 0)))] J9u ?_
   refine ite_some h (fun h7 h => ?_) (fun h7 h => ?_)
   ·
    rw [decide_eq_true h7]
    refine Goes.rn 6 [(4, .i 999), (5, .i 9999)] J9v ?_
    obtain rfl := Option.some.inj h
    have p1 := p1.dp 0
    exact Goes.rt Tryd.f57 (.tuple #[.i 999, .i 9999]) ⟨S1, rfl, hx, p1⟩
   ·
    rw [decide_eq_false h7]
    refine Goes.rn 5 [(25, (pt gx2 5))] J9x ?_
    refine Goes.ld 26 (.tmp 25) 26 26 ⟨gx2, 5, none⟩ (.slice u7h x2v.L.length u7j) (p1.c 0 5) ?_
    refine Goes.rn 1 [(27, .i x8)] J9y ?_
    refine guard_some' h fun g8 h => ?_
    refine guard_some' h fun g9 h => ?_
    refine Op_.ixR_n 26 (.tmp 26) (.tmp 27) 28 0 28 .i64 x8 (gi x2v.L x8) rfl rfl u7p Goes.v (by kernel_rfl) (by kernel_rfl) (by kernel_rfl) (by kernel_rfl) g8 g9 ?_
    intro a10 _ f11 q12
    have q13 := q12
    obtain ⟨_, _, rfl, rfl, ⟨_, _, rfl, ⟨l14, f15⟩, ⟨_, _, rfl, ⟨A16, c17, rfl, f18⟩, ⟨_, _, rfl, rfl, rfl⟩⟩⟩⟩ := kT27_open q13
    obtain rfl := els_lit4' f15 l14
    refine Goes.ldN 28 (.tmp 28) 29 28 a10 ([.i ((gi x2v.L x8).Kind)] ++ ((U4 ((gi x2v.L x8).Set) []) ++ ([.slice A16 (((gi x2v.L x8).L).length) c17] ++ ([.i ((gi x2v.L x8).Min)] ++ [.i ((gi x2v.L x8).Max)])))) (f11.cell) ?_
    refine Goes.rn 2 [(30, .i x1), (31, .i (wr .i64 (x1 - 1)))] J9z ?_
    refine bind_some' h fun y19 e20 h => ?_
    refine Goes.cal (kc 57 [29, 31] #[28, 3]) 32 104 57 _ (u7t ((⟨(gi x2v.L x8).Kind, ((gi x2v.L x8).Set), (gi x2v.L x8).L, (gi x2v.L x8).Min, (gi x2v.L x8).Max⟩ : T27), wr .i64 (x1 - 1)) y19 e20 A16 (((gi x2v.L x8).L).length) c17 p1 l14 f18 rfl) ?_
    rintro _ w3 ⟨S3, rfl, z3, p3⟩
    refine Goes.rn 14 [(24, .tuple #[.i y19.1, .i y19.2]), (33, .i y19.1), (34, .i y19.2), (9, .i y19.1), (10, .i y19.2), (35, .i x6), (36, .i y19.1), (37, .i (imx x6 y19.1)), (38, .i x7), (39, .i y19.2), (40, .i (wr .i64 (x7 + y19.2)))] Ja1 ?_
    refine Goes.rn 8 [(6, .i (imx x6 y19.1)), (7, .i (wr .i64 (x7 + y19.2))), (41, .i (wr .i64 (x7 + y19.2))), (42, .bool (decide (wr .i64 (x7 + y19.2) > 4096))), (43, .bool (decide (wr .i64 (x7 + y19.2) > 4096)))] Ja2 ?_
    refine ite_some h (fun h21 h => ?_) (fun h21 h => ?_)
    ·
     rw [decide_eq_true h21]
     refine Goes.rn 4 [(44, undef), (45, undef), (46, .bool true)] J9n ?_
     exact Goes.jp 50 [(1, .i x1), (2, (pt gx2 0)), (6, .i (imx x6 y19.1)), (7, .i (wr .i64 (x7 + y19.2))), (8, .i x8), (46, .bool true)] (u7u _ _ h _ _ (hx.trans z3) gx2 u7h x2v.L.length u7j p3 u7o (u7p.ext z3) rfl)
    ·
     rw [decide_eq_false h21]
     refine Goes.rn 4 [(44, .i (imx x6 y19.1)), (45, .bool (decide (imx x6 y19.1 ≥ 999))), (46, .bool (decide (imx x6 y19.1 ≥ 999)))] J9n ?_
     exact Goes.jp 50 [(1, .i x1), (2, (pt gx2 0)), (6, .i (imx x6 y19.1)), (7, .i (wr .i64 (x7 + y19.2))), (8, .i x8), (46, .bool (decide (imx x6 y19.1 ≥ 999)))] (u7u _ _ h _ _ (hx.trans z3) gx2 u7h x2v.L.length u7j p3 u7o (u7p.ext z3) rfl)
  ·
   have h6' : x19 = false := by simpa using h6
   rw [h6']
   refine Goes.rn 10 [(47, .i x6), (48, .i (wr .i64 (x6 + 1))), (49, .i x7), (4, .i (wr .i64 (x6 + 1))), (5, .i x7)] Ja3 ?_
   obtain rfl := Option.some.inj h
   have p1 := p1.dp 0
   exact Goes.rt Tryd.f57 (.tuple #[.i (wr .i64 (x6 + 1)), .i x7]) ⟨S1, rfl, hx, p1⟩
 ·
  intro u7k u7l ⟨x1, x2v, x6, x7, x8, x46⟩ r h nz wz S0 w0 Lr iG S1 w1 hx gx2 u7h u7i u7j p1 u7o u7p u7q junk
  try dsimp only at h
  subst u7q
  refine ite_some h (fun h23 h => ?_) (fun h23 h => ?_)
  ·
   rw [h23]
   refine Goes.rn 6 [(4, .i 999), (5, .i 9999)] Ja4 ?_
   obtain rfl := Option.some.inj h
   have p1 := p1.dp 0
   exact Goes.rt Tryd.f57 (.tuple #[.i 999, .i 9999]) ⟨S1, rfl, hx, p1⟩
  ·
   have u1q : x46 = false := by simpa using h23
   rw [u1q]
   refine Goes.rn 9 [(20, .i x8), (21, .i (wr .i64 (x8 + 1))), (8, .i (wr .i64 (x8 + 1)))] J9i ?_
   exact Goes.jp 50 [(1, .i x1), (2, (pt gx2 0)), (6, .i x6), (7, .i x7), (8, .i (wr .i64 (x8 + 1)))] (u7l _ _ h _ _ hx gx2 u7h x2v.L.length u7j p1 u7o u7p rfl)

theorem W.z1d : ∀ a r, M.tidepoleref10_deep a = some r → LF.z1d a r := (W.z1h).1

theorem W.z1e : ∀ a r, M.tidepoleref10_deep_l0 a = some r → LL.z1e a r := (W.z1h).2.1

theorem W.z1f : ∀ a r, M.tidepoleref10_deep_l1 a = some r → LL.z1f a r := (W.z1h).2.2.1

theorem W.z1g : ∀ a r, M.tidepoleref10_deep_l2 a = some r → LL.z1g a r := (W.z1h).2.2.2

def Q7m := sub [1, 1, 1] B58
def Ja5 : List Item := [.code Q7m]
def Q7n := sub [1, 1, 1, 1, 1] B58
def Ja6 : List Item := [.code Q7n]
def Ja7 : List Item := .inBlock 0 :: Ja6
def Q7o := sub [1, 1, 1, 1, 1, 1] B58
def Ja8 : List Item := [.code Q7o]
def Ja9 : List Item := .inBlock 1 :: Ja8
def Q7p := sub [1, 1, 1, 1, 1, 0, 1, 0, 0] B58
def Jaa : List Item := .inLoop Q7p :: Ja9
def Jab : List Item := .code Q7p :: Jaa
def Q7q := sub [1, 1, 1, 1, 1, 0, 1, 0, 0, 1] B58
def Jac : List Item := .code Q7q :: Jaa
def Q7r := sub [1, 1, 1, 1, 1, 0, 1, 0, 0, 0, 1] B58
def Jad : List Item := .code Q7r :: Jac
def Q7s := sub [1, 1, 1, 1, 0, 1, 0, 1, 1, 1] B58
def Jae : List Item := .code Q7s :: Ja7
def Q7t := sub [1] B58
def Jaf : List Item := [.code Q7t]
def Q7u := sub [0] B58
def Jag : List Item := .inRegion (opsOf Q7u) [0, 1] :: Jaf
def Q7v := sub [1, 1] B58
def Jah : List Item := [.code Q7v]
def Q7w := sub [1, 0] B58
def Jai : List Item := .inRegion (opsOf Q7w) [1, 2, 3, 4] :: Jah
def Jaj : List Item := .inRegion (opsOf Q7w) [3, 4] :: Jah
def Q7x := sub [1, 1, 0] B58
def Jak : List Item := .inRegion (opsOf Q7x) [1, 2, 3, 4, 5, 6, 7, 8] :: Ja5
def Jal : List Item := .inRegion (opsOf Q7x) [4, 5, 6, 7, 8] :: Ja5
def Jam : List Item := .inRegion (opsOf Q7x) [5, 6, 7, 8] :: Ja5
def Q7y := sub [1, 1, 1, 1, 0, 1] B58
def Jan : List Item := .code Q7y :: Ja6
def Q7z := sub [1, 1, 1, 1, 0, 0] B58
def Jao : List Item := .inRegion (opsOf Q7z) [1] :: Jan
def Q80 := sub [1, 1, 1, 1, 0, 1, 0, 1] B58
def Jap : List Item := .code Q80 :: Ja7
def Q81 := sub [1, 1, 1, 1, 0, 1, 0, 1, 0] B58
def Jaq : List Item := .inRegion (opsOf Q81) [1, 2, 3, 4, 5, 6, 7] :: Ja7
def Jar : List Item := .inRegion (opsOf Q81) [5, 6, 7] :: Ja7
def Q82 := sub [1, 1, 1, 1, 0, 1, 0, 1, 1, 0, 1] B58
def Jas : List Item := .code Q82 :: Jae
def Q83 := sub [1, 1, 1, 1, 0, 1, 0, 1, 1, 1, 0] B58
def Jat : List Item := .inRegion (opsOf Q83) [2, 3, 4] :: Ja7
def Q84 := sub [1, 1, 1, 1, 0, 1, 0, 1, 1, 1, 1, 1] B58
def Jau : List Item := .code Q84 :: Ja7
def Q85 := sub [1, 1, 1, 1, 0, 1, 0, 1, 1, 1, 1, 1, 0] B58
def Jav : List Item := .inRegion (opsOf Q85) [1, 2, 3, 4, 5, 6, 7, 8, 9, 10, 11, 12, 13, 14, 15, 16, 17, 18, 19, 20, 21, 22, 23, 24, 25, 26, 27, 28, 29, 30, 31, 32, 33, 34] :: Ja7
def Jaw : List Item := .inRegion (opsOf Q85) [5, 6, 7, 8, 9, 10, 11, 12, 13, 14, 15, 16, 17, 18, 19, 20, 21, 22, 23, 24, 25, 26, 27, 28, 29, 30, 31, 32, 33, 34] :: Ja7
def Jax : List Item := .inRegion (opsOf Q85) [8, 9, 10, 11, 12, 13, 14, 15, 16, 17, 18, 19, 20, 21, 22, 23, 24, 25, 26, 27, 28, 29, 30, 31, 32, 33, 34] :: Ja7
def Jay : List Item := .inRegion (opsOf Q85) [9, 10, 11, 12, 13, 14, 15, 16, 17, 18, 19, 20, 21, 22, 23, 24, 25, 26, 27, 28, 29, 30, 31, 32, 33, 34] :: Ja7
def Jaz : List Item := .inRegion (opsOf Q85) [13, 14, 15, 16, 17, 18, 19, 20, 21, 22, 23, 24, 25, 26, 27, 28, 29, 30, 31, 32, 33, 34] :: Ja7
def Jb0 : List Item := .inRegion (opsOf Q85) [14, 15, 16, 17, 18, 19, 20, 21, 22, 23, 24, 25, 26, 27, 28, 29, 30, 31, 32, 33, 34] :: Ja7
def Jb1 : List Item := .inRegion (opsOf Q85) [18, 19, 20, 21, 22, 23, 24, 25, 26, 27, 28, 29, 30, 31, 32, 33, 34] :: Ja7
def Jb2 : List Item := .inRegion (opsOf Q85) [19, 20, 21, 22, 23, 24, 25, 26, 27, 28, 29, 30, 31, 32, 33, 34] :: Ja7
def Jb3 : List Item := .inRegion (opsOf Q85) [23, 24, 25, 26, 27, 28, 29, 30, 31, 32, 33, 34] :: Ja7
def Jb4 : List Item := .inRegion (opsOf Q85) [24, 25, 26, 27, 28, 29, 30, 31, 32, 33, 34] :: Ja7
def Jb5 : List Item := .inRegion (opsOf Q85) [27, 28, 29, 30, 31, 32, 33, 34] :: Ja7
def Jb6 : List Item := .inRegion (opsOf Q85) [28, 29, 30, 31, 32, 33, 34] :: Ja7
def Jb7 : List Item := .inRegion (opsOf Q85) [30, 31, 32, 33, 34] :: Ja7
def Jb8 : List Item := .inRegion (opsOf Q85) [32, 33, 34] :: Ja7
def Jb9 : List Item := .inRegion (opsOf Q85) [22, 23, 24, 25, 26, 27, 28, 29, 30, 31, 32, 33, 34] :: Ja7
def Jba : List Item := .inRegion (opsOf Q85) [33, 34] :: Ja7
def Q86 := sub [1, 1, 1, 1, 0, 1, 0, 1, 1, 1, 1, 1, 1, 1] B58
def Jbb : List Item := .code Q86 :: Ja7
def Q87 := sub [1, 1, 1, 1, 1, 0, 1, 0, 0, 0, 0] B58
def Jbc : List Item := .inRegion (opsOf Q87) [2, 3, 4, 5, 6, 7] :: Jad
def Jbd : List Item := .inRegion (opsOf Q87) [6, 7] :: Jad
def Q88 := sub [1, 1, 1, 1, 1, 0, 1, 0, 0, 1, 1] B58
def Jbe : List Item := .code Q88 :: Jaa
def Jbf : List Item := .inBlock 2 :: Jbe
def Q89 := sub [1, 1, 1, 1, 1, 0, 1, 0, 0, 1, 0, 0] B58
def Jbg : List Item := .inRegion (opsOf Q89) [1, 2, 3, 4, 5, 6] :: Jbf
def Jbh : List Item := .inRegion (opsOf Q89) [3, 4, 5, 6] :: Jbf
def Q8a := sub [1, 1, 1, 1, 1, 1, 1] B58
def Jbi : List Item := [.code Q8a]

def Post.z1i (r : Bool) (v : Value) (w' : World) : Prop :=
 ∃ S', v = .bool r ∧ Ext S0 w0 S' w' ∧ Hp nz wz S' w' (Lr)

def LF.z1i : T27 → Bool → Prop := fun x0 r => ∀ {nz wz S0 w0 Lr} [Gw nz wz] u5 u6 u7 (_ : Hp nz wz S0 w0 (Lr)) (_ : x0.Set.length = 4) (_ : Rd kT27 S0 w0 u5 u7 x0.L) (_ : x0.L.length = u6),
 Calls Tryd.prog 58 #[(ag (.i x0.Kind :: U4 x0.Set [.slice u5 u6 u7, .i x0.Min, .i x0.Max]))] w0 (Rets (Post.z1i nz wz S0 w0 Lr r))

def L.z1j : T27 × Bool × Bool → Bool → Prop := fun ⟨x1v, x3, x4⟩ r => ∀ S1 w1, Ext S0 w0 S1 w1 → ∀ gx1 u1s u1t u1u (_ : Hp nz wz S1 w1 ((some gx1, .row 28 (.i x1v.Kind :: U4 x1v.Set [.slice u1s u1t u1u, .i x1v.Min, .i x1v.Max]) 8 0) :: Lr)) (_ : x1v.Set.length = 4) (_ : Rd kT27 S1 w1 u1s u1u x1v.L) (_ : x1v.L.length = u1t) (junk : Nat → Value),
 Goes Tryd.prog (base 58) Ja5 ⟨lfr 90 [(1, (pt gx1 0)), (3, .bool x3), (4, .bool x4)] junk, []⟩ w1 (Done Tryd.prog 58 (Rets (Post.z1i nz wz S0 w0 Lr r)))

def LL.z1j : T27 × Bool × Bool → Bool → Prop := fun a r => ∀ {nz wz S0 w0 Lr} [Gw nz wz], L.z1j nz wz S0 w0 Lr a r

def L.z1k : T27 × Bool → Bool → Prop := fun ⟨x1v, x5⟩ r => ∀ S1 w1, Ext S0 w0 S1 w1 → ∀ gx1 u1s u1t u1u (_ : Hp nz wz S1 w1 ((some gx1, .row 28 (.i x1v.Kind :: U4 x1v.Set [.slice u1s u1t u1u, .i x1v.Min, .i x1v.Max]) 8 0) :: Lr)) (_ : x1v.Set.length = 4) (_ : Rd kT27 S1 w1 u1s u1u x1v.L) (_ : x1v.L.length = u1t) (junk : Nat → Value),
 Goes Tryd.prog (base 58) Ja7 ⟨lfr 90 [(1, (pt gx1 0)), (5, .bool x5)] junk, []⟩ w1 (Done Tryd.prog 58 (Rets (Post.z1i nz wz S0 w0 Lr r)))

def LL.z1k : T27 × Bool → Bool → Prop := fun a r => ∀ {nz wz S0 w0 Lr} [Gw nz wz], L.z1k nz wz S0 w0 Lr a r

def L.z1l : T27 × Bool × Int → Bool → Prop := fun ⟨x1v, x5, x6⟩ r => ∀ S1 w1, Ext S0 w0 S1 w1 → ∀ gx1 u1s u1t u1u (_ : Hp nz wz S1 w1 ((some gx1, .row 28 (.i x1v.Kind :: U4 x1v.Set [.slice u1s u1t u1u, .i x1v.Min, .i x1v.Max]) 8 0) :: Lr)) (_ : x1v.Set.length = 4) (_ : Rd kT27 S1 w1 u1s u1u x1v.L) (_ : x1v.L.length = u1t) (junk : Nat → Value),
 Goes Tryd.prog (base 58) Jab ⟨lfr 90 [(1, (pt gx1 0)), (5, .bool x5), (6, .i x6)] junk, []⟩ w1 (Done Tryd.prog 58 (Rets (Post.z1i nz wz S0 w0 Lr r)))

def LL.z1l : T27 × Bool × Int → Bool → Prop := fun a r => ∀ {nz wz S0 w0 Lr} [Gw nz wz], L.z1l nz wz S0 w0 Lr a r

def L.z1m : T27 × Bool × Int × Bool → Bool → Prop := fun ⟨x1v, x5, x6, x80⟩ r => ∀ S1 w1, Ext S0 w0 S1 w1 → ∀ gx1 u1s u1t u1u (_ : Hp nz wz S1 w1 ((some gx1, .row 28 (.i x1v.Kind :: U4 x1v.Set [.slice u1s u1t u1u, .i x1v.Min, .i x1v.Max]) 8 0) :: Lr)) (_ : x1v.Set.length = 4) (_ : Rd kT27 S1 w1 u1s u1u x1v.L) (_ : x1v.L.length = u1t) (junk : Nat → Value),
 Goes Tryd.prog (base 58) Jad ⟨lfr 90 [(1, (pt gx1 0)), (5, .bool x5), (6, .i x6), (80, .bool x80)] junk, []⟩ w1 (Done Tryd.prog 58 (Rets (Post.z1i nz wz S0 w0 Lr r)))

def LL.z1m : T27 × Bool × Int × Bool → Bool → Prop := fun a r => ∀ {nz wz S0 w0 Lr} [Gw nz wz], L.z1m nz wz S0 w0 Lr a r

def L.z1n : T27 × Bool × Bool × Int × Bool → Bool → Prop := fun ⟨x1v, x3, x4, x20, x30⟩ r => ∀ S1 w1, Ext S0 w0 S1 w1 → ∀ gx1 u1s u1t u1u (_ : Hp nz wz S1 w1 ((some gx1, .row 28 (.i x1v.Kind :: U4 x1v.Set [.slice u1s u1t u1u, .i x1v.Min, .i x1v.Max]) 8 0) :: Lr)) (_ : x1v.Set.length = 4) (_ : Rd kT27 S1 w1 u1s u1u x1v.L) (_ : x1v.L.length = u1t) (junk : Nat → Value),
 Goes Tryd.prog (base 58) Jae ⟨lfr 90 [(1, (pt gx1 0)), (3, .bool x3), (4, .bool x4), (20, .i x20), (30, .bool x30)] junk, []⟩ w1 (Done Tryd.prog 58 (Rets (Post.z1i nz wz S0 w0 Lr r)))

def LL.z1n : T27 × Bool × Bool × Int × Bool → Bool → Prop := fun a r => ∀ {nz wz S0 w0 Lr} [Gw nz wz], L.z1n nz wz S0 w0 Lr a r

theorem W.z1o : (∀ a r, M.tidepoleref10_shape a = some r → LF.z1i a r) ∧ (∀ a r, M.tidepoleref10_shape_l0 a = some r → LL.z1j a r) ∧ (∀ a r, M.tidepoleref10_shape_l2 a = some r → LL.z1n a r) ∧ (∀ a r, M.tidepoleref10_shape_l1 a = some r → LL.z1k a r) ∧ (∀ a r, M.tidepoleref10_shape_l3 a = some r → LL.z1l a r) ∧ (∀ a r, M.tidepoleref10_shape_l4 a = some r → LL.z1m a r) := by
 refine M.tidepoleref10_shape.mutual_partial_correctness LF.z1i LL.z1j LL.z1n LL.z1k LL.z1l LL.z1m ?_ ?_ ?_ ?_ ?_ ?_
 ·
  intro u7v u7w x0 r h nz wz S0 w0 Lr iG u5 u6 u7 p0 um un uo
  try dsimp only at h
  subst uo
  refine calls_of_goes (fn := Tryd.f58) (c := B58) (by kernel_rfl) (by kernel_rfl) 89 (by kernel_rfl) ?_
  refine Goes.jp 90 [(0, (ag (.i x0.Kind :: U4 x0.Set [.slice u5 x0.L.length u7, .i x0.Min, .i x0.Max])))] (fun junk => ?_)
  refine Goes.rn 2 [] Jag ?_
  refine Op_.box 28 (.tmp 0) 1 0 (ag (.i x0.Kind :: U4 x0.Set [.slice u5 x0.L.length u7, .i x0.Min, .i x0.Max])) (.i x0.Kind :: U4 x0.Set [.slice u5 x0.L.length u7, .i x0.Min, .i x0.Max]) p0 Goes.v (by kernel_rfl) (by kernel_rfl) ?_
  intro b1 w2 z2 p2
  refine Goes.rn 5 [(2, .bool false), (7, (pt b1 1))] Jai ?_
  refine Goes.ldN 25 (.tmp 7) 8 25 ⟨b1, 1, none⟩ (U4 x0.Set []) (p2.pa 0 1) ?_
  refine Goes.rn 1 [(9, .agg #[.u 0, .u 0, .u 0, .u 0])] Jaj ?_
  refine Op_.eqA 25 (.tmp 8) (.tmp 9) 25 10 4 23 4 .u64 (us := ((U4 x0.Set []) : List Value)) (vs := ([.u 0, .u 0, .u 0, .u 0] : List Value)) Goes.v (by kernel_rfl) (by kernel_rfl) (by kernel_rfl) (by kernel_rfl) (by kernel_rfl) (by kernel_rfl) (by kernel_rfl) (els_mk4 (S := S0) (w := w2) (k := .u64) um) (show Els (kInt .u64) S0 w2 ([.u 0, .u 0, .u 0, .u 0] : List Value) _ from (Els.cons (K := (kInt .u64)) (vs := [.u 0]) (x := 0) rfl (Els.cons (K := (kInt .u64)) (vs := [.u 0]) (x := 0) rfl (Els.cons (K := (kInt .u64)) (vs := [.u 0]) (x := 0) rfl (Els.cons (K := (kInt .u64)) (vs := [.u 0]) (x := 0) rfl Els.nil))))) (Els.len1 (els_mk4 (S := S0) (w := w2) (k := .u64) um) rfl rfl) (Els.len1 (show Els (kInt .u64) S0 w2 ([.u 0, .u 0, .u 0, .u 0] : List Value) _ from (Els.cons (K := (kInt .u64)) (vs := [.u 0]) (x := 0) rfl (Els.cons (K := (kInt .u64)) (vs := [.u 0]) (x := 0) rfl (Els.cons (K := (kInt .u64)) (vs := [.u 0]) (x := 0) rfl (Els.cons (K := (kInt .u64)) (vs := [.u 0]) (x := 0) rfl Els.nil))))) rfl rfl) ?_
  refine Goes.rn 5 [(3, .bool (decide (x0.Set = [0, 0, 0, 0]))), (11, (pt b1 6))] Jak ?_
  refine Goes.ld 3 (.tmp 11) 12 3 ⟨b1, 6, none⟩ (.i x0.Min) (p2.c 0 6) ?_
  refine Goes.rn 2 [(13, .bool (decide (x0.Min = 0))), (14, .bool (decide (x0.Min = 0)))] Jal ?_
  refine ite_some h (fun h3 h => ?_) (fun h3 h => ?_)
  ·
   rw [decide_eq_true h3]
   refine Goes.rn 1 [(15, (pt b1 7))] Jam ?_
   refine Goes.ld 3 (.tmp 15) 16 3 ⟨b1, 7, none⟩ (.i x0.Max) (p2.c 0 7) ?_
   refine Goes.rn 4 [(17, .bool (decide (x0.Max = 0))), (18, .bool (decide (x0.Max = 0))), (4, .bool (decide (x0.Max = 0)))] Ja5 ?_
   exact Goes.jp 90 [(1, (pt b1 0)), (3, .bool (decide (x0.Set = [0, 0, 0, 0]))), (4, .bool (decide (x0.Max = 0)))] (u7w _ _ h _ _ ((Ext.refl S0 w0).trans z2) b1 u5 x0.L.length u7 p2 um (un.ext z2) rfl)
  ·
   rw [decide_eq_false h3]
   refine Goes.rn 6 [(15, undef), (16, undef), (17, undef), (18, .bool false), (4, .bool false)] Ja5 ?_
   exact Goes.jp 90 [(1, (pt b1 0)), (3, .bool (decide (x0.Set = [0, 0, 0, 0]))), (4, .bool false)] (u7w _ _ h _ _ ((Ext.refl S0 w0).trans z2) b1 u5 x0.L.length u7 p2 um (un.ext z2) rfl)
 ·
  intro u7x u7y u7z u80 ⟨x1v, x3, x4⟩ r h nz wz S0 w0 Lr iG S1 w1 hx gx1 u1s u1t u1u p1 u1v u1w u1x junk
  try dsimp only at h
  subst u1x
  refine Goes.rn 8 [(5, .bool false), (19, (pt gx1 0))] Jao ?_
  refine Goes.ld 3 (.tmp 19) 20 3 ⟨gx1, 0, none⟩ (.i x1v.Kind) (p1.c 0 0) ?_
  refine Goes.rn 7 [(22, .bool (decide (x1v.Kind = 1))), (21, .bool (decide (x1v.Kind = 1)))] Jap ?_
  refine ite_some h (fun h5 h => ?_) (fun h5 h => ?_)
  ·
   rw [decide_eq_true h5]
   refine Goes.rn 3 [(23, (pt gx1 5))] Jaq ?_
   refine Goes.ld 26 (.tmp 23) 24 26 ⟨gx1, 5, none⟩ (.slice u1s x1v.L.length u1u) (p1.c 0 5) ?_
   refine Goes.rn 3 [(25, .i (x1v.L.length : Int)), (26, .bool (decide ((x1v.L.length : Int) = 0))), (27, .bool (decide ((x1v.L.length : Int) = 0)))] Jar ?_
   refine ite_some h (fun h6 h => ?_) (fun h6 h => ?_)
   ·
    rw [decide_eq_true h6]
    refine Goes.rn 4 [(28, .bool x4), (29, .bool x4), (5, .bool x4)] Ja7 ?_
    exact Goes.jp 90 [(1, (pt gx1 0)), (5, .bool x4)] (u80 _ _ h _ _ hx gx1 u1s x1v.L.length u1u p1 u1v u1w rfl)
   ·
    rw [decide_eq_false h6]
    refine Goes.rn 4 [(28, undef), (29, .bool false), (5, .bool false)] Ja7 ?_
    exact Goes.jp 90 [(1, (pt gx1 0)), (5, .bool false)] (u80 _ _ h _ _ hx gx1 u1s x1v.L.length u1u p1 u1v u1w rfl)
  ·
   rw [decide_eq_false h5]
   refine Goes.rn 7 [(31, .bool (decide (x1v.Kind = 2))), (30, .bool (decide (x1v.Kind = 2)))] Jas ?_
   refine ite_some h (fun h8 h => ?_) (fun h8 h => ?_)
   ·
    rw [decide_eq_true h8]
    refine Goes.rn 2 [] Jae ?_
    exact Goes.jp 90 [(1, (pt gx1 0)), (3, .bool x3), (4, .bool x4), (20, .i x1v.Kind), (30, .bool true)] (u7z _ _ h _ _ hx gx1 u1s x1v.L.length u1u p1 u1v u1w rfl)
   ·
    rw [decide_eq_false h8]
    refine Goes.rn 5 [(32, .bool (decide (x1v.Kind = 3))), (30, .bool (decide (x1v.Kind = 3)))] Jae ?_
    exact Goes.jp 90 [(1, (pt gx1 0)), (3, .bool x3), (4, .bool x4), (20, .i x1v.Kind), (30, .bool (decide (x1v.Kind = 3)))] (u7z _ _ h _ _ hx gx1 u1s x1v.L.length u1u p1 u1v u1w rfl)
 ·
  intro u7y u80 ⟨x1v, x3, x4, x20, x30⟩ r h nz wz S0 w0 Lr iG S1 w1 hx gx1 u1s u1t u1u p1 u1v u1w u1x junk
  try dsimp only at h
  subst u1x
  refine ite_some h (fun h11 h => ?_) (fun h11 h => ?_)
  ·
   rw [h11]
   refine Goes.rn 4 [(33, .bool x3), (34, .bool x3)] Jat ?_
   refine ite_some h (fun h12 h => ?_) (fun h12 h => ?_)
   ·
    rw [h12]
    refine Goes.rn 4 [(35, .bool x4), (36, .bool x4), (5, .bool x4)] Ja7 ?_
    exact Goes.jp 90 [(1, (pt gx1 0)), (5, .bool x4)] (u80 _ _ h _ _ hx gx1 u1s x1v.L.length u1u p1 u1v u1w rfl)
   ·
    have u81 : x3 = false := by simpa using h12
    rw [u81]
    refine Goes.rn 4 [(35, undef), (36, .bool false), (5, .bool false)] Ja7 ?_
    exact Goes.jp 90 [(1, (pt gx1 0)), (5, .bool false)] (u80 _ _ h _ _ hx gx1 u1s x1v.L.length u1u p1 u1v u1w rfl)
  ·
   have u82 : x30 = false := by simpa using h11
   rw [u82]
   refine Goes.rn 6 [(38, .bool (decide (x20 = 4))), (37, .bool (decide (x20 = 4)))] Jau ?_
   refine ite_some h (fun h13 h => ?_) (fun h13 h => ?_)
   ·
    rw [decide_eq_true h13]
    refine Goes.rn 3 [(39, (pt gx1 5))] Jav ?_
    refine Goes.ld 26 (.tmp 39) 40 26 ⟨gx1, 5, none⟩ (.slice u1s x1v.L.length u1u) (p1.c 0 5) ?_
    refine Goes.rn 3 [(41, .i (x1v.L.length : Int)), (42, .bool (decide ((x1v.L.length : Int) = 1))), (43, .bool (decide ((x1v.L.length : Int) = 1)))] Jaw ?_
    refine ite_some h (fun h14 h => ?_) (fun h14 h => ?_)
    ·
     rw [decide_eq_true h14]
     refine Goes.rn 3 [(44, .bool x3), (45, .bool x3), (46, .bool x3)] Jax ?_
     refine ite_some h (fun h15 h => ?_) (fun h15 h => ?_)
     ·
      rw [h15]
      refine Goes.rn 1 [(47, (pt gx1 6))] Jay ?_
      refine Goes.ld 3 (.tmp 47) 48 3 ⟨gx1, 6, none⟩ (.i x1v.Min) (p1.c 0 6) ?_
      refine Goes.rn 3 [(49, .bool (decide (x1v.Min ≥ 0))), (50, .bool (decide (x1v.Min ≥ 0))), (51, .bool (decide (x1v.Min ≥ 0)))] Jaz ?_
      refine ite_some h (fun h16 h => ?_) (fun h16 h => ?_)
      ·
       rw [decide_eq_true h16]
       refine Goes.rn 1 [(52, (pt gx1 6))] Jb0 ?_
       refine Goes.ld 3 (.tmp 52) 53 3 ⟨gx1, 6, none⟩ (.i x1v.Min) (p1.c 0 6) ?_
       refine Goes.rn 3 [(54, .bool (decide (x1v.Min ≤ 64))), (55, .bool (decide (x1v.Min ≤ 64))), (56, .bool (decide (x1v.Min ≤ 64)))] Jb1 ?_
       refine ite_some h (fun h17 h => ?_) (fun h17 h => ?_)
       ·
        rw [decide_eq_true h17]
        refine Goes.rn 1 [(57, (pt gx1 7))] Jb2 ?_
        refine Goes.ld 3 (.tmp 57) 58 3 ⟨gx1, 7, none⟩ (.i x1v.Max) (p1.c 0 7) ?_
        refine Goes.rn 3 [(59, .bool (decide (x1v.Max ≤ 64))), (60, .bool (decide (x1v.Max ≤ 64))), (61, .bool (decide (x1v.Max ≤ 64)))] Jb3 ?_
        refine ite_some h (fun h18 h => ?_) (fun h18 h => ?_)
        ·
         rw [decide_eq_true h18]
         refine Goes.rn 1 [(62, (pt gx1 7))] Jb4 ?_
         refine Goes.ld 3 (.tmp 62) 63 3 ⟨gx1, 7, none⟩ (.i x1v.Max) (p1.c 0 7) ?_
         refine Goes.rn 2 [(64, .bool (decide (x1v.Max = (-1)))), (65, .bool (decide (x1v.Max = (-1))))] Jb5 ?_
         refine ite_some h (fun h19 h => ?_) (fun h19 h => ?_)
         ·
          rw [decide_eq_true h19]
          refine Goes.rn 9 [(66, undef), (67, undef), (68, undef), (69, undef), (70, undef), (71, .bool true), (72, .bool true), (5, .bool true)] Ja7 ?_
          exact Goes.jp 90 [(1, (pt gx1 0)), (5, .bool true)] (u80 _ _ h _ _ hx gx1 u1s x1v.L.length u1u p1 u1v u1w rfl)
         ·
          rw [decide_eq_false h19]
          refine Goes.rn 1 [(66, (pt gx1 7))] Jb6 ?_
          refine Goes.ld 3 (.tmp 66) 67 3 ⟨gx1, 7, none⟩ (.i x1v.Max) (p1.c 0 7) ?_
          refine Goes.rn 1 [(68, (pt gx1 6))] Jb7 ?_
          refine Goes.ld 3 (.tmp 68) 69 3 ⟨gx1, 6, none⟩ (.i x1v.Min) (p1.c 0 6) ?_
          refine Goes.rn 5 [(70, .bool (decide (x1v.Max ≥ x1v.Min))), (71, .bool (decide (x1v.Max ≥ x1v.Min))), (72, .bool (decide (x1v.Max ≥ x1v.Min))), (5, .bool (decide (x1v.Max ≥ x1v.Min)))] Ja7 ?_
          exact Goes.jp 90 [(1, (pt gx1 0)), (5, .bool (decide (x1v.Max ≥ x1v.Min)))] (u80 _ _ h _ _ hx gx1 u1s x1v.L.length u1u p1 u1v u1w rfl)
        ·
         rw [decide_eq_false h18]
         refine Goes.rn 13 [(62, undef), (63, undef), (64, undef), (65, undef), (66, undef), (67, undef), (68, undef), (69, undef), (70, undef), (71, undef), (72, .bool false), (5, .bool false)] Ja7 ?_
         exact Goes.jp 90 [(1, (pt gx1 0)), (5, .bool false)] (u80 _ _ h _ _ hx gx1 u1s x1v.L.length u1u p1 u1v u1w rfl)
       ·
        rw [decide_eq_false h17]
        refine Goes.rn 14 [(57, undef), (58, undef), (59, undef), (60, .bool false), (61, .bool false), (62, undef), (63, undef), (64, undef), (65, undef), (66, undef), (67, undef), (68, undef), (69, undef), (70, undef)] Jb8 ?_
        refine Goes.rn 4 [(71, undef), (72, .bool false), (5, .bool false)] Ja7 ?_
        exact Goes.jp 90 [(1, (pt gx1 0)), (5, .bool false)] (u80 _ _ h _ _ hx gx1 u1s x1v.L.length u1u p1 u1v u1w rfl)
      ·
       rw [decide_eq_false h16]
       refine Goes.rn 14 [(52, undef), (53, undef), (54, undef), (55, .bool false), (56, .bool false), (57, undef), (58, undef), (59, undef), (60, .bool false), (61, .bool false), (62, undef), (63, undef), (64, undef), (65, undef)] Jb5 ?_
       refine Goes.rn 9 [(66, undef), (67, undef), (68, undef), (69, undef), (70, undef), (71, undef), (72, .bool false), (5, .bool false)] Ja7 ?_
       exact Goes.jp 90 [(1, (pt gx1 0)), (5, .bool false)] (u80 _ _ h _ _ hx gx1 u1s x1v.L.length u1u p1 u1v u1w rfl)
     ·
      have u83 : x3 = false := by simpa using h15
      rw [u83]
      refine Goes.rn 14 [(47, undef), (48, undef), (49, undef), (50, .bool false), (51, .bool false), (52, undef), (53, undef), (54, undef), (55, .bool false), (56, .bool false), (57, undef), (58, undef), (59, undef), (60, .bool false)] Jb9 ?_
      refine Goes.rn 14 [(61, .bool false), (62, undef), (63, undef), (64, undef), (65, undef), (66, undef), (67, undef), (68, undef), (69, undef), (70, undef), (71, undef), (72, .bool false), (5, .bool false)] Ja7 ?_
      exact Goes.jp 90 [(1, (pt gx1 0)), (5, .bool false)] (u80 _ _ h _ _ hx gx1 u1s x1v.L.length u1u p1 u1v u1w rfl)
    ·
     rw [decide_eq_false h14]
     refine Goes.rn 14 [(44, undef), (45, .bool false), (46, .bool false), (47, undef), (48, undef), (49, undef), (50, .bool false), (51, .bool false), (52, undef), (53, undef), (54, undef), (55, .bool false), (56, .bool false), (57, undef)] Jb2 ?_
     refine Goes.rn 14 [(58, undef), (59, undef), (60, .bool false), (61, .bool false), (62, undef), (63, undef), (64, undef), (65, undef), (66, undef), (67, undef), (68, undef), (69, undef), (70, undef), (71, undef)] Jba ?_
     refine Goes.rn 3 [(72, .bool false), (5, .bool false)] Ja7 ?_
     exact Goes.jp 90 [(1, (pt gx1 0)), (5, .bool false)] (u80 _ _ h _ _ hx gx1 u1s x1v.L.length u1u p1 u1v u1w rfl)
   ·
    rw [decide_eq_false h13]
    refine Goes.rn 5 [(2, .bool false)] Jbb ?_
    obtain rfl := Option.some.inj h
    have p1 := p1.dp 0
    exact Goes.rt Tryd.f58 (.bool false) ⟨S1, rfl, hx, p1⟩
 ·
  intro u84 u85 ⟨x1v, x5⟩ r h nz wz S0 w0 Lr iG S1 w1 hx gx1 u1s u1t u1u p1 u1v u1w u1x junk
  try dsimp only at h
  subst u1x
  refine Goes.rn 8 [(6, .i 0)] Jab ?_
  exact Goes.jp 90 [(1, (pt gx1 0)), (5, .bool x5), (6, .i 0)] (u85 _ _ h _ _ hx gx1 u1s x1v.L.length u1u p1 u1v u1w rfl)
 ·
  intro u86 u87 ⟨x1v, x5, x6⟩ r h nz wz S0 w0 Lr iG S1 w1 hx gx1 u1s u1t u1u p1 u1v u1w u1x junk
  try dsimp only at h
  subst u1x
  refine Goes.rn 5 [(73, .i x6), (74, (pt gx1 5))] Jbc ?_
  refine Goes.ld 26 (.tmp 74) 75 26 ⟨gx1, 5, none⟩ (.slice u1s x1v.L.length u1u) (p1.c 0 5) ?_
  refine Goes.rn 3 [(76, .i (x1v.L.length : Int)), (77, .bool (decide (x6 < (x1v.L.length : Int)))), (78, .bool (decide (x6 < (x1v.L.length : Int))))] Jbd ?_
  refine ite_some h (fun h20 h => ?_) (fun h20 h => ?_)
  ·
   rw [decide_eq_true h20]
   refine Goes.rn 3 [(79, .bool x5), (80, .bool x5)] Jad ?_
   exact Goes.jp 90 [(1, (pt gx1 0)), (5, .bool x5), (6, .i x6), (80, .bool x5)] (u87 _ _ h _ _ hx gx1 u1s x1v.L.length u1u p1 u1v u1w rfl)
  ·
   rw [decide_eq_false h20]
   refine Goes.rn 3 [(79, undef), (80, .bool false)] Jad ?_
   exact Goes.jp 90 [(1, (pt gx1 0)), (5, .bool x5), (6, .i x6), (80, .bool false)] (u87 _ _ h _ _ hx gx1 u1s x1v.L.length u1u p1 u1v u1w rfl)
 ·
  intro u88 u84 u89 u85 ⟨x1v, x5, x6, x80⟩ r h nz wz S0 w0 Lr iG S1 w1 hx gx1 u1s u1t u1u p1 u1v u1w u1x junk
  try dsimp only at h
  subst u1x
  refine ite_some h (fun h22 h => ?_) (fun h22 h => ?_)
  ·
   rw [h22]
   refine Goes.rn 6 [(83, (pt gx1 5))] Jbg ?_
   refine Goes.ld 26 (.tmp 83) 84 26 ⟨gx1, 5, none⟩ (.slice u1s x1v.L.length u1u) (p1.c 0 5) ?_
   refine Goes.rn 1 [(85, .i x6)] Jbh ?_
   refine guard_some' h fun g23 h => ?_
   refine guard_some' h fun g24 h => ?_
   refine Op_.ixR_n 26 (.tmp 84) (.tmp 85) 86 0 28 .i64 x6 (gi x1v.L x6) rfl rfl u1w Goes.v (by kernel_rfl) (by kernel_rfl) (by kernel_rfl) (by kernel_rfl) g23 g24 ?_
   intro a25 _ f26 q27
   have q28 := q27
   obtain ⟨_, _, rfl, rfl, ⟨_, _, rfl, ⟨l29, f30⟩, ⟨_, _, rfl, ⟨A31, c32, rfl, f33⟩, ⟨_, _, rfl, rfl, rfl⟩⟩⟩⟩ := kT27_open q28
   obtain rfl := els_lit4' f30 l29
   refine Goes.ldN 28 (.tmp 86) 87 28 a25 ([.i ((gi x1v.L x6).Kind)] ++ ((U4 ((gi x1v.L x6).Set) []) ++ ([.slice A31 (((gi x1v.L x6).L).length) c32] ++ ([.i ((gi x1v.L x6).Min)] ++ [.i ((gi x1v.L x6).Max)])))) (f26.cell) ?_
   refine bind_some' h fun y34 e35 h => ?_
   refine Goes.cal (kc 58 [87] #[28]) 88 4 58 _ (u89 (⟨(gi x1v.L x6).Kind, ((gi x1v.L x6).Set), (gi x1v.L x6).L, (gi x1v.L x6).Min, (gi x1v.L x6).Max⟩ : T27) y34 e35 A31 (((gi x1v.L x6).L).length) c32 p1 l29 f33 rfl) ?_
   rintro _ w3 ⟨S3, rfl, z3, p3⟩
   refine Goes.rn 9 [(5, .bool y34), (81, .i x6), (82, .i (wr .i64 (x6 + 1))), (6, .i (wr .i64 (x6 + 1)))] Jab ?_
   exact Goes.jp 90 [(1, (pt gx1 0)), (5, .bool y34), (6, .i (wr .i64 (x6 + 1)))] (u85 _ _ h _ _ (hx.trans z3) gx1 u1s x1v.L.length u1u p3 u1v (u1w.ext z3) rfl)
  ·
   have u1a : x80 = false := by simpa using h22
   rw [u1a]
   refine Goes.rn 7 [(89, .bool x5), (2, .bool x5)] Jbi ?_
   obtain rfl := Option.some.inj h
   have p1 := p1.dp 0
   exact Goes.rt Tryd.f58 (.bool x5) ⟨S1, rfl, hx, p1⟩

theorem W.z1i : ∀ a r, M.tidepoleref10_shape a = some r → LF.z1i a r := (W.z1o).1

theorem W.z1j : ∀ a r, M.tidepoleref10_shape_l0 a = some r → LL.z1j a r := (W.z1o).2.1

theorem W.z1n : ∀ a r, M.tidepoleref10_shape_l2 a = some r → LL.z1n a r := (W.z1o).2.2.1

theorem W.z1k : ∀ a r, M.tidepoleref10_shape_l1 a = some r → LL.z1k a r := (W.z1o).2.2.2.1

theorem W.z1l : ∀ a r, M.tidepoleref10_shape_l3 a = some r → LL.z1l a r := (W.z1o).2.2.2.2.1

theorem W.z1m : ∀ a r, M.tidepoleref10_shape_l4 a = some r → LL.z1m a r := (W.z1o).2.2.2.2.2

def Q8b := sub [1] B39
def Jbj : List Item := [.code Q8b]
def Q8c := sub [0] B39
def Jbk : List Item := .inRegion (opsOf Q8c) [0, 1] :: Jbj
def Q8d := sub [1, 1] B39
def Jbl : List Item := [.code Q8d]
def Q8e := sub [1, 0] B39
def Jbm : List Item := .inRegion (opsOf Q8e) [0, 1, 2, 3, 4, 5, 6] :: Jbl
def Q8f := sub [1, 1, 1] B39
def Jbn : List Item := [.code Q8f]
def Q8g := sub [1, 1, 0] B39
def Jbo : List Item := .inRegion (opsOf Q8g) [3, 4, 5, 6, 7, 8, 9, 10] :: Jbn
def Jbp : List Item := .inRegion (opsOf Q8g) [7, 8, 9, 10] :: Jbn

def Post.z1p (r : Bool) (v : Value) (w' : World) : Prop :=
 ∃ S', v = .bool r ∧ Ext S0 w0 S' w' ∧ Hp nz wz S' w' (Lr)

theorem W.z1p (x0 : T27) (r : Bool) (h : M.tidepoleref10_Check x0 = some r) {nz wz S0 w0 Lr} [Gw nz wz] (u5 u6 u7) (p0 : Hp nz wz S0 w0 (Lr)) (um : x0.Set.length = 4) (un : Rd kT27 S0 w0 u5 u7 x0.L) (uo : x0.L.length = u6) :
  Calls Tryd.prog 39 #[(ag (.i x0.Kind :: U4 x0.Set [.slice u5 u6 u7, .i x0.Min, .i x0.Max]))] w0 (Rets (Post.z1p nz wz S0 w0 Lr r)) := by
 subst uo
 refine calls_of_goes (fn := Tryd.f39) (c := B39) (by kernel_rfl) (by kernel_rfl) 19 (by kernel_rfl) ?_
 refine Goes.jp 20 [(0, (ag (.i x0.Kind :: U4 x0.Set [.slice u5 x0.L.length u7, .i x0.Min, .i x0.Max])))] (fun junk => ?_)
 delta M.tidepoleref10_Check at h
 refine Goes.rn 2 [] Jbk ?_
 refine Op_.box 28 (.tmp 0) 1 0 (ag (.i x0.Kind :: U4 x0.Set [.slice u5 x0.L.length u7, .i x0.Min, .i x0.Max])) (.i x0.Kind :: U4 x0.Set [.slice u5 x0.L.length u7, .i x0.Min, .i x0.Max]) p0 Goes.v (by kernel_rfl) (by kernel_rfl) ?_
 intro b1 w2 z2 p2
 refine Goes.rn 4 [(2, .bool false)] Jbm ?_
 refine Goes.ldN 28 (.tmp 1) 6 28 ⟨b1, 0, none⟩ (.i x0.Kind :: U4 x0.Set [.slice u5 x0.L.length u7, .i x0.Min, .i x0.Max]) (p2.pa 0 0) ?_
 refine bind_some' h fun y3 e4 h => ?_
 refine Goes.cal (.call { callee := .value (.func 57), args := #[(.tmp 6), (.const (.int .i64 128))], argTypes := #[28, 3] }) 7 104 57 _ (W.z1d (x0, 128) y3 e4 u5 x0.L.length u7 p2 um (un.ext z2) rfl) ?_
 rintro _ w3 ⟨S3, rfl, z3, p3⟩
 refine Goes.rn 11 [(5, .tuple #[.i y3.1, .i y3.2]), (8, .i y3.1), (9, .i y3.2), (3, .i y3.1), (4, .i y3.2), (10, .i y3.1), (11, .bool (decide (y3.1 ≤ 128))), (12, .bool (decide (y3.1 ≤ 128)))] Jbo ?_
 refine ite_some h (fun h5 h => ?_) (fun h5 h => ?_)
 ·
  rw [decide_eq_true h5]
  refine Goes.rn 4 [(13, .i y3.2), (14, .bool (decide (y3.2 ≤ 4096))), (15, .bool (decide (y3.2 ≤ 4096))), (16, .bool (decide (y3.2 ≤ 4096)))] Jbp ?_
  refine ite_some h (fun h6 h => ?_) (fun h6 h => ?_)
  ·
   rw [decide_eq_true h6]
   refine Goes.ldN 28 (.tmp 1) 17 28 ⟨b1, 0, none⟩ (.i x0.Kind :: U4 x0.Set [.slice u5 x0.L.length u7, .i x0.Min, .i x0.Max]) (p3.pa 0 0) ?_
   refine bind_some' h fun y7 e8 h => ?_
   refine Goes.cal (kc 58 [17] #[28]) 18 4 58 _ (W.z1i x0 y7 e8 u5 x0.L.length u7 p3 um (un.ext (z2.trans z3)) rfl) ?_
   rintro _ w4 ⟨S4, rfl, z4, p4⟩
   have p4 := p4.dp 0
   refine Goes.rn 3 [(19, .bool y7), (2, .bool y7)] Jbn ?_
   obtain rfl := Option.some.inj h
   exact Goes.rt Tryd.f39 (.bool y7) ⟨S4, rfl, ((((Ext.refl S0 w0).trans z2).trans z3).trans z4), p4⟩
  ·
   rw [decide_eq_false h6]
   refine Goes.rn 5 [(17, undef), (18, undef), (19, .bool false), (2, .bool false)] Jbn ?_
   obtain rfl := Option.some.inj h
   have p3 := p3.dp 0
   exact Goes.rt Tryd.f39 (.bool false) ⟨S3, rfl, (((Ext.refl S0 w0).trans z2).trans z3), p3⟩
 ·
  rw [decide_eq_false h5]
  refine Goes.rn 9 [(13, undef), (14, undef), (15, .bool false), (16, .bool false), (17, undef), (18, undef), (19, .bool false), (2, .bool false)] Jbn ?_
  obtain rfl := Option.some.inj h
  have p3 := p3.dp 0
  exact Goes.rt Tryd.f39 (.bool false) ⟨S3, rfl, (((Ext.refl S0 w0).trans z2).trans z3), p3⟩

def Q8h := sub [1, 1, 1] B40
def Jbq : List Item := [.code Q8h]
def Jbr : List Item := .inBlock 0 :: Jbq
def Q8i := sub [1, 1, 0, 1, 0, 1, 0, 1, 1] B40
def Jbs : List Item := .code Q8i :: Jbr
def Q8j := sub [1, 1, 0, 1, 0, 1, 0, 1, 1, 0] B40
def Jbt : List Item := .inRegion (opsOf Q8j) [2, 3, 4, 5, 6, 7] :: Jbr
def Q8k := sub [1, 1, 1, 1] B40
def Jbu : List Item := [.code Q8k]

def Post.z1q (r : Int) (v : Value) (w' : World) : Prop :=
 ∃ S', v = .i r ∧ Ext S0 w0 S' w' ∧ Hp nz wz S' w' (Lr)

def L.z1r : T27 × Int × Bool → Int → Prop := fun ⟨x1v, x3, x35⟩ r => ∀ S1 w1, Ext S0 w0 S1 w1 → ∀ gx1 u1s u1t u1u (_ : Hp nz wz S1 w1 ((some gx1, .row 28 (.i x1v.Kind :: U4 x1v.Set [.slice u1s u1t u1u, .i x1v.Min, .i x1v.Max]) 8 0) :: Lr)) (_ : x1v.Set.length = 4) (_ : Rd kT27 S1 w1 u1s u1u x1v.L) (_ : x1v.L.length = u1t) (junk : Nat → Value),
 Goes Tryd.prog (base 40) Jbs ⟨lfr 74 [(1, (pt gx1 0)), (3, .i x3), (35, .bool x35)] junk, []⟩ w1 (Done Tryd.prog 40 (Rets (Post.z1q nz wz S0 w0 Lr r)))

theorem W.z1r {nz wz S0 w0 Lr} [Gw nz wz] : ∀ a r, M.tidepoleref11_count_l2 a = some r → L.z1r nz wz S0 w0 Lr a r := by
 intro ⟨x1v, x3, x35⟩ r h S1 w1 hx gx1 u1s u1t u1u p1 u1v u1w u1x junk
 rw [M.tidepoleref11_count_l2] at h
 try dsimp only at h
 subst u1x
 refine ite_some h (fun h36 h => ?_) (fun h36 h => ?_)
 ·
  rw [h36]
  refine Goes.rn 4 [(36, .i x3), (37, (pt gx1 5))] Jbt ?_
  refine Goes.ld 26 (.tmp 37) 38 26 ⟨gx1, 5, none⟩ (.slice u1s x1v.L.length u1u) (p1.c 0 5) ?_
  refine Goes.rn 14 [(39, .i (x1v.L.length : Int)), (40, .i (wr .i64 (x3 + (x1v.L.length : Int)))), (41, .i (wr .i64 ((wr .i64 (x3 + (x1v.L.length : Int))) - 1))), (42, .i (imn 1048576 (wr .i64 ((wr .i64 (x3 + (x1v.L.length : Int))) - 1)))), (3, .i (imn 1048576 (wr .i64 ((wr .i64 (x3 + (x1v.L.length : Int))) - 1)))), (71, .i (imn 1048576 (wr .i64 ((wr .i64 (x3 + (x1v.L.length : Int))) - 1)))), (72, .i (imn 1048576 (imn 1048576 (wr .i64 ((wr .i64 (x3 + (x1v.L.length : Int))) - 1))))), (73, .i (imx 1 (imn 1048576 (imn 1048576 (wr .i64 ((wr .i64 (x3 + (x1v.L.length : Int))) - 1)))))), (2, .i (imx 1 (imn 1048576 (imn 1048576 (wr .i64 ((wr .i64 (x3 + (x1v.L.length : Int))) - 1))))))] Jbu ?_
  obtain rfl := Option.some.inj h
  have p1 := p1.dp 0
  exact Goes.rt Tryd.f40 (.i (imx 1 (imn 1048576 (imn 1048576 (wr .i64 ((wr .i64 (x3 + (x1v.L.length : Int))) - 1)))))) ⟨S1, rfl, hx, p1⟩
 ·
  have u8a : x35 = false := by simpa using h36
  rw [u8a]
  refine Goes.rn 10 [(71, .i x3), (72, .i (imn 1048576 x3)), (73, .i (imx 1 (imn 1048576 x3))), (2, .i (imx 1 (imn 1048576 x3)))] Jbu ?_
  obtain rfl := Option.some.inj h
  have p1 := p1.dp 0
  exact Goes.rt Tryd.f40 (.i (imx 1 (imn 1048576 x3))) ⟨S1, rfl, hx, p1⟩

def Q8l := sub [1, 1, 0, 1, 0, 1] B40
def Jbv : List Item := .code Q8l :: Jbr
def Q8m := sub [1, 1, 0, 1, 0, 1, 0, 1] B40
def Jbw : List Item := .code Q8m :: Jbr
def Jbx : List Item := .inBlock 1 :: Jbw
def Q8n := sub [1, 1, 0, 1, 0, 1, 0, 0, 1, 0, 0] B40
def Jby : List Item := .inLoop Q8n :: Jbx
def Jbz : List Item := .code Q8n :: Jby
def Q8o := sub [1] B40
def Jc0 : List Item := [.code Q8o]
def Q8p := sub [0] B40
def Jc1 : List Item := .inRegion (opsOf Q8p) [0, 1] :: Jc0
def Q8q := sub [1, 1, 0, 1] B40
def Jc2 : List Item := .code Q8q :: Jbq
def Q8r := sub [1, 1, 0, 0] B40
def Jc3 : List Item := .inRegion (opsOf Q8r) [1] :: Jc2
def Q8s := sub [1, 1, 0, 1, 0, 0, 1] B40
def Jc4 : List Item := .code Q8s :: Jbv
def Q8t := sub [1, 1, 0, 1, 0, 1, 1, 1] B40
def Jc5 : List Item := .code Q8t :: Jbr
def Q8u := sub [1, 1, 0, 1, 0, 1, 1, 1, 0, 1] B40
def Jc6 : List Item := .code Q8u :: Jbr
def Q8v := sub [1, 1, 0, 1, 0, 1, 1, 1, 0, 0] B40
def Jc7 : List Item := .inRegion (opsOf Q8v) [1, 2, 3, 4, 5] :: Jc6
def Q8w := sub [1, 1, 0, 1, 0, 1, 1, 1, 0, 1, 1] B40
def Jc8 : List Item := .code Q8w :: Jbr
def Q8x := sub [1, 1, 0, 1, 0, 1, 1, 1, 0, 1, 0] B40
def Jc9 : List Item := .inRegion (opsOf Q8x) [1, 2, 3, 4] :: Jc8
def Q8y := sub [1, 1, 0, 1, 0, 1, 1, 1, 0, 1, 1, 1] B40
def Jca : List Item := .code Q8y :: Jbr
def Q8z := sub [1, 1, 0, 1, 0, 1, 1, 1, 0, 1, 1, 0] B40
def Jcb : List Item := .inRegion (opsOf Q8z) [1, 2] :: Jca
def Q90 := sub [1, 1, 1, 0] B40
def Jcc : List Item := .inRegion (opsOf Q90) [3] :: Jbu
def Q91 := sub [1, 1, 0, 1, 0, 1, 1, 1, 0, 1, 1, 1, 1] B40
def Jcd : List Item := .inRegion (opsOf Q91) [2, 3, 4, 5, 6, 7, 8, 9, 10] :: Jbr
def Jce : List Item := .inRegion (opsOf Q91) [4, 5, 6, 7, 8, 9, 10] :: Jbr
def Jcf : List Item := .inRegion (opsOf Q90) [] :: Jbu
def Q92 := sub [1, 1, 0, 1, 0, 1, 0, 0, 1, 0, 0, 1] B40
def Jcg : List Item := .code Q92 :: Jby
def Q93 := sub [1, 1, 0, 1, 0, 1, 0, 0, 1, 0, 0, 0, 1] B40
def Jch : List Item := .code Q93 :: Jcg
def Q94 := sub [1, 1, 0, 1, 0, 1, 0, 0, 1, 0, 0, 0, 0] B40
def Jci : List Item := .inRegion (opsOf Q94) [2, 3, 4] :: Jch
def Q95 := sub [1, 1, 0, 1, 0, 1, 0, 0, 1, 0, 0, 1, 1] B40
def Jcj : List Item := .code Q95 :: Jby
def Jck : List Item := .inBlock 2 :: Jcj
def Q96 := sub [1, 1, 0, 1, 0, 1, 0, 0, 1, 0, 0, 1, 0, 0] B40
def Jcl : List Item := .inRegion (opsOf Q96) [2, 3, 4, 5, 6, 7, 8, 9] :: Jck
def Jcm : List Item := .inRegion (opsOf Q96) [4, 5, 6, 7, 8, 9] :: Jck
def Q97 := sub [1, 1, 0, 1, 0, 1, 0, 1, 0] B40
def Jcn : List Item := .inRegion (opsOf Q97) [1, 2, 3, 4, 5, 6, 7, 8] :: Jbs
def Jco : List Item := .inRegion (opsOf Q97) [4, 5, 6, 7, 8] :: Jbs
def Jcp : List Item := .inRegion (opsOf Q97) [5, 6, 7, 8] :: Jbs

def LF.z1q : T27 → Int → Prop := fun x0 r => ∀ {nz wz S0 w0 Lr} [Gw nz wz] u5 u6 u7 (_ : Hp nz wz S0 w0 (Lr)) (_ : x0.Set.length = 4) (_ : Rd kT27 S0 w0 u5 u7 x0.L) (_ : x0.L.length = u6),
 Calls Tryd.prog 40 #[(ag (.i x0.Kind :: U4 x0.Set [.slice u5 u6 u7, .i x0.Min, .i x0.Max]))] w0 (Rets (Post.z1q nz wz S0 w0 Lr r))

def L.z1s : T27 × Int × Int × Bool → Int → Prop := fun ⟨x1v, x3, x7, x8⟩ r => ∀ S1 w1, Ext S0 w0 S1 w1 → ∀ gx1 u1s u1t u1u (_ : Hp nz wz S1 w1 ((some gx1, .row 28 (.i x1v.Kind :: U4 x1v.Set [.slice u1s u1t u1u, .i x1v.Min, .i x1v.Max]) 8 0) :: Lr)) (_ : x1v.Set.length = 4) (_ : Rd kT27 S1 w1 u1s u1u x1v.L) (_ : x1v.L.length = u1t) (junk : Nat → Value),
 Goes Tryd.prog (base 40) Jbv ⟨lfr 74 [(1, (pt gx1 0)), (3, .i x3), (7, .i x7), (8, .bool x8)] junk, []⟩ w1 (Done Tryd.prog 40 (Rets (Post.z1q nz wz S0 w0 Lr r)))

def LL.z1s : T27 × Int × Int × Bool → Int → Prop := fun a r => ∀ {nz wz S0 w0 Lr} [Gw nz wz], L.z1s nz wz S0 w0 Lr a r

def L.z1t : T27 × Int × Int → Int → Prop := fun ⟨x1v, x3, x4⟩ r => ∀ S1 w1, Ext S0 w0 S1 w1 → ∀ gx1 u1s u1t u1u (_ : Hp nz wz S1 w1 ((some gx1, .row 28 (.i x1v.Kind :: U4 x1v.Set [.slice u1s u1t u1u, .i x1v.Min, .i x1v.Max]) 8 0) :: Lr)) (_ : x1v.Set.length = 4) (_ : Rd kT27 S1 w1 u1s u1u x1v.L) (_ : x1v.L.length = u1t) (junk : Nat → Value),
 Goes Tryd.prog (base 40) Jbz ⟨lfr 74 [(1, (pt gx1 0)), (3, .i x3), (4, .i x4)] junk, []⟩ w1 (Done Tryd.prog 40 (Rets (Post.z1q nz wz S0 w0 Lr r)))

def LL.z1t : T27 × Int × Int → Int → Prop := fun a r => ∀ {nz wz S0 w0 Lr} [Gw nz wz], L.z1t nz wz S0 w0 Lr a r

theorem W.z1u : (∀ a r, M.tidepoleref11_count a = some r → LF.z1q a r) ∧ (∀ a r, M.tidepoleref11_count_l0 a = some r → LL.z1s a r) ∧ (∀ a r, M.tidepoleref11_count_l1 a = some r → LL.z1t a r) := by
 refine M.tidepoleref11_count.mutual_partial_correctness LF.z1q LL.z1s LL.z1t ?_ ?_ ?_
 ·
  intro u8b u8c x0 r h nz wz S0 w0 Lr iG u5 u6 u7 p0 um un uo
  try dsimp only at h
  subst uo
  refine calls_of_goes (fn := Tryd.f40) (c := B40) (by kernel_rfl) (by kernel_rfl) 73 (by kernel_rfl) ?_
  refine Goes.jp 74 [(0, (ag (.i x0.Kind :: U4 x0.Set [.slice u5 x0.L.length u7, .i x0.Min, .i x0.Max])))] (fun junk => ?_)
  refine Goes.rn 2 [] Jc1 ?_
  refine Op_.box 28 (.tmp 0) 1 0 (ag (.i x0.Kind :: U4 x0.Set [.slice u5 x0.L.length u7, .i x0.Min, .i x0.Max])) (.i x0.Kind :: U4 x0.Set [.slice u5 x0.L.length u7, .i x0.Min, .i x0.Max]) p0 Goes.v (by kernel_rfl) (by kernel_rfl) ?_
  intro b1 w2 z2 p2
  refine Goes.rn 10 [(2, .i 0), (3, .i 0), (6, (pt b1 0))] Jc3 ?_
  refine Goes.ld 3 (.tmp 6) 7 3 ⟨b1, 0, none⟩ (.i x0.Kind) (p2.c 0 0) ?_
  refine Goes.rn 8 [(9, .bool (decide (x0.Kind = 2))), (8, .bool (decide (x0.Kind = 2)))] Jc4 ?_
  refine ite_some h (fun h3 h => ?_) (fun h3 h => ?_)
  ·
   rw [decide_eq_true h3]
   refine Goes.rn 2 [] Jbv ?_
   exact Goes.jp 74 [(1, (pt b1 0)), (3, .i 0), (7, .i x0.Kind), (8, .bool true)] (u8c _ _ h _ _ ((Ext.refl S0 w0).trans z2) b1 u5 x0.L.length u7 p2 um (un.ext z2) rfl)
  ·
   rw [decide_eq_false h3]
   refine Goes.rn 5 [(10, .bool (decide (x0.Kind = 3))), (8, .bool (decide (x0.Kind = 3)))] Jbv ?_
   exact Goes.jp 74 [(1, (pt b1 0)), (3, .i 0), (7, .i x0.Kind), (8, .bool (decide (x0.Kind = 3)))] (u8c _ _ h _ _ ((Ext.refl S0 w0).trans z2) b1 u5 x0.L.length u7 p2 um (un.ext z2) rfl)
 ·
  intro u8d u8e u8f u8g ⟨x1v, x3, x7, x8⟩ r h nz wz S0 w0 Lr iG S1 w1 hx gx1 u1s u1t u1u p1 u1v u1w u1x junk
  try dsimp only at h
  subst u1x
  refine ite_some h (fun h5 h => ?_) (fun h5 h => ?_)
  ·
   rw [h5]
   refine Goes.rn 8 [(4, .i 0)] Jbz ?_
   exact Goes.jp 74 [(1, (pt gx1 0)), (3, .i x3), (4, .i 0)] (u8g _ _ h _ _ hx gx1 u1s x1v.L.length u1u p1 u1v u1w rfl)
  ·
   have h5' : x8 = false := by simpa using h5
   rw [h5']
   refine Goes.rn 6 [(44, .bool (decide (x7 = 4))), (43, .bool (decide (x7 = 4)))] Jc5 ?_
   refine ite_some h (fun h7 h => ?_) (fun h7 h => ?_)
   ·
    rw [decide_eq_true h7]
    refine Goes.rn 4 [(45, (pt gx1 5))] Jc7 ?_
    refine Goes.ld 26 (.tmp 45) 46 26 ⟨gx1, 5, none⟩ (.slice u1s x1v.L.length u1u) (p1.c 0 5) ?_
    refine guard_some' h fun g8 h => ?_
    refine Op_.ixR_n 26 (.tmp 46) (.const (.int .i64 0)) 47 0 28 .i64 0 (gi x1v.L 0) rfl rfl u1w Goes.v (by kernel_rfl) (by kernel_rfl) (by kernel_rfl) (by kernel_rfl) (by decide : (0 : Int) ≤ 0) g8 ?_
    intro a9 _ f10 q11
    have q12 := q11
    obtain ⟨_, _, rfl, rfl, ⟨_, _, rfl, ⟨l13, f14⟩, ⟨_, _, rfl, ⟨A15, c16, rfl, f17⟩, ⟨_, _, rfl, rfl, rfl⟩⟩⟩⟩ := kT27_open q12
    obtain rfl := els_lit4' f14 l13
    refine Goes.ldN 28 (.tmp 47) 48 28 a9 ([.i ((gi x1v.L 0).Kind)] ++ ((U4 ((gi x1v.L 0).Set) []) ++ ([.slice A15 (((gi x1v.L 0).L).length) c16] ++ ([.i ((gi x1v.L 0).Min)] ++ [.i ((gi x1v.L 0).Max)])))) (f10.cell) ?_
    refine bind_some' h fun y18 e19 h => ?_
    refine Goes.cal (kc 40 [48] #[28]) 49 3 40 _ (u8f (⟨(gi x1v.L 0).Kind, ((gi x1v.L 0).Set), (gi x1v.L 0).L, (gi x1v.L 0).Min, (gi x1v.L 0).Max⟩ : T27) y18 e19 A15 (((gi x1v.L 0).L).length) c16 p1 l13 f17 rfl) ?_
    rintro _ w3 ⟨S3, rfl, z3, p3⟩
    refine Goes.rn 5 [(5, .i y18), (50, (pt gx1 6))] Jc9 ?_
    refine Goes.ld 3 (.tmp 50) 51 3 ⟨gx1, 6, none⟩ (.i x1v.Min) (p3.c 0 6) ?_
    refine Goes.rn 7 [(52, .i y18), (53, .i (wr .i64 (x1v.Min * y18))), (3, .i (wr .i64 (x1v.Min * y18))), (54, (pt gx1 7))] Jcb ?_
    refine Goes.ld 3 (.tmp 54) 55 3 ⟨gx1, 7, none⟩ (.i x1v.Max) (p3.c 0 7) ?_
    refine Goes.rn 2 [(56, .bool (decide (x1v.Max < 0)))] Jca ?_
    refine ite_some h (fun h20 h => ?_) (fun h20 h => ?_)
    ·
     rw [decide_eq_true h20]
     refine Goes.rn 14 [(57, .i (wr .i64 (x1v.Min * y18))), (58, .i y18), (59, .i (wr .i64 (y18 + 1))), (60, .i (wr .i64 ((wr .i64 (x1v.Min * y18)) + (wr .i64 (y18 + 1))))), (3, .i (wr .i64 ((wr .i64 (x1v.Min * y18)) + (wr .i64 (y18 + 1))))), (71, .i (wr .i64 ((wr .i64 (x1v.Min * y18)) + (wr .i64 (y18 + 1))))), (72, .i (imn 1048576 (wr .i64 ((wr .i64 (x1v.Min * y18)) + (wr .i64 (y18 + 1)))))), (73, .i (imx 1 (imn 1048576 (wr .i64 ((wr .i64 (x1v.Min * y18)) + (wr .i64 (y18 + 1)))))))] Jcc ?_
     refine Goes.rn 2 [(2, .i (imx 1 (imn 1048576 (wr .i64 ((wr .i64 (x1v.Min * y18)) + (wr .i64 (y18 + 1)))))))] Jbu ?_
     obtain rfl := Option.some.inj h
     have p3 := p3.dp 0
     exact Goes.rt Tryd.f40 (.i (imx 1 (imn 1048576 (wr .i64 ((wr .i64 (x1v.Min * y18)) + (wr .i64 (y18 + 1))))))) ⟨S3, rfl, (hx.trans z3), p3⟩
    ·
     rw [decide_eq_false h20]
     refine Goes.rn 4 [(61, .i (wr .i64 (x1v.Min * y18))), (62, (pt gx1 7))] Jcd ?_
     refine Goes.ld 3 (.tmp 62) 63 3 ⟨gx1, 7, none⟩ (.i x1v.Max) (p3.c 0 7) ?_
     refine Goes.rn 1 [(64, (pt gx1 6))] Jce ?_
     refine Goes.ld 3 (.tmp 64) 65 3 ⟨gx1, 6, none⟩ (.i x1v.Min) (p3.c 0 6) ?_
     refine Goes.rn 14 [(66, .i (wr .i64 (x1v.Max - x1v.Min))), (67, .i y18), (68, .i (wr .i64 (y18 + 1))), (69, .i (wr .i64 ((wr .i64 (x1v.Max - x1v.Min)) * (wr .i64 (y18 + 1))))), (70, .i (wr .i64 ((wr .i64 (x1v.Min * y18)) + (wr .i64 ((wr .i64 (x1v.Max - x1v.Min)) * (wr .i64 (y18 + 1))))))), (3, .i (wr .i64 ((wr .i64 (x1v.Min * y18)) + (wr .i64 ((wr .i64 (x1v.Max - x1v.Min)) * (wr .i64 (y18 + 1))))))), (71, .i (wr .i64 ((wr .i64 (x1v.Min * y18)) + (wr .i64 ((wr .i64 (x1v.Max - x1v.Min)) * (wr .i64 (y18 + 1))))))), (72, .i (imn 1048576 (wr .i64 ((wr .i64 (x1v.Min * y18)) + (wr .i64 ((wr .i64 (x1v.Max - x1v.Min)) * (wr .i64 (y18 + 1)))))))), (73, .i (imx 1 (imn 1048576 (wr .i64 ((wr .i64 (x1v.Min * y18)) + (wr .i64 ((wr .i64 (x1v.Max - x1v.Min)) * (wr .i64 (y18 + 1))))))))), (2, .i (imx 1 (imn 1048576 (wr .i64 ((wr .i64 (x1v.Min * y18)) + (wr .i64 ((wr .i64 (x1v.Max - x1v.Min)) * (wr .i64 (y18 + 1)))))))))] Jcf ?_
     refine Goes.rn 1 [] Jbu ?_
     obtain rfl := Option.some.inj h
     have p3 := p3.dp 0
     exact Goes.rt Tryd.f40 (.i (imx 1 (imn 1048576 (wr .i64 ((wr .i64 (x1v.Min * y18)) + (wr .i64 ((wr .i64 (x1v.Max - x1v.Min)) * (wr .i64 (y18 + 1))))))))) ⟨S3, rfl, (hx.trans z3), p3⟩
   ·
    rw [decide_eq_false h7]
    refine Goes.rn 10 [(71, .i x3), (72, .i (imn 1048576 x3)), (73, .i (imx 1 (imn 1048576 x3))), (2, .i (imx 1 (imn 1048576 x3)))] Jbu ?_
    obtain rfl := Option.some.inj h
    have p1 := p1.dp 0
    exact Goes.rt Tryd.f40 (.i (imx 1 (imn 1048576 x3))) ⟨S1, rfl, hx, p1⟩
 ·
  intro u8d u8e u8f u8g ⟨x1v, x3, x4⟩ r h nz wz S0 w0 Lr iG S1 w1 hx gx1 u1s u1t u1u p1 u1v u1w u1x junk
  try dsimp only at h
  subst u1x
  refine Goes.rn 5 [(11, .i x4), (12, (pt gx1 5))] Jci ?_
  refine Goes.ld 26 (.tmp 12) 13 26 ⟨gx1, 5, none⟩ (.slice u1s x1v.L.length u1u) (p1.c 0 5) ?_
  refine Goes.rn 3 [(14, .i (x1v.L.length : Int)), (15, .bool (decide (x4 < (x1v.L.length : Int))))] Jch ?_
  refine ite_some h (fun h21 h => ?_) (fun h21 h => ?_)
  ·
   rw [decide_eq_true h21]
   refine Goes.rn 7 [(18, .i x3), (19, (pt gx1 5))] Jcl ?_
   refine Goes.ld 26 (.tmp 19) 20 26 ⟨gx1, 5, none⟩ (.slice u1s x1v.L.length u1u) (p1.c 0 5) ?_
   refine Goes.rn 1 [(21, .i x4)] Jcm ?_
   refine guard_some' h fun g22 h => ?_
   refine Op_.ixR_n 26 (.tmp 20) (.tmp 21) 22 0 28 .i64 x4 (gi x1v.L x4) rfl rfl u1w Goes.v (by kernel_rfl) (by kernel_rfl) (by kernel_rfl) (by kernel_rfl) g22 h21 ?_
   intro a23 _ f24 q25
   have q26 := q25
   obtain ⟨_, _, rfl, rfl, ⟨_, _, rfl, ⟨l27, f28⟩, ⟨_, _, rfl, ⟨A29, c30, rfl, f31⟩, ⟨_, _, rfl, rfl, rfl⟩⟩⟩⟩ := kT27_open q26
   obtain rfl := els_lit4' f28 l27
   refine Goes.ldN 28 (.tmp 22) 23 28 a23 ([.i ((gi x1v.L x4).Kind)] ++ ((U4 ((gi x1v.L x4).Set) []) ++ ([.slice A29 (((gi x1v.L x4).L).length) c30] ++ ([.i ((gi x1v.L x4).Min)] ++ [.i ((gi x1v.L x4).Max)])))) (f24.cell) ?_
   refine bind_some' h fun y32 e33 h => ?_
   refine Goes.cal (kc 40 [23] #[28]) 24 3 40 _ (u8f (⟨(gi x1v.L x4).Kind, ((gi x1v.L x4).Set), (gi x1v.L x4).L, (gi x1v.L x4).Min, (gi x1v.L x4).Max⟩ : T27) y32 e33 A29 (((gi x1v.L x4).L).length) c30 p1 l27 f31 rfl) ?_
   rintro _ w4 ⟨S4, rfl, z4, p4⟩
   refine Goes.rn 11 [(25, .i (wr .i64 (x3 + y32))), (26, .i (imn 1048576 (wr .i64 (x3 + y32)))), (3, .i (imn 1048576 (wr .i64 (x3 + y32)))), (16, .i x4), (17, .i (wr .i64 (x4 + 1))), (4, .i (wr .i64 (x4 + 1)))] Jbz ?_
   exact Goes.jp 74 [(1, (pt gx1 0)), (3, .i (imn 1048576 (wr .i64 (x3 + y32)))), (4, .i (wr .i64 (x4 + 1)))] (u8g _ _ h _ _ (hx.trans z4) gx1 u1s x1v.L.length u1u p4 u1v (u1w.ext z4) rfl)
  ·
   rw [decide_eq_false h21]
   refine Goes.rn 5 [(27, (pt gx1 0))] Jcn ?_
   refine Goes.ld 3 (.tmp 27) 28 3 ⟨gx1, 0, none⟩ (.i x1v.Kind) (p1.c 0 0) ?_
   refine Goes.rn 2 [(29, .bool (decide (x1v.Kind = 3))), (30, .bool (decide (x1v.Kind = 3)))] Jco ?_
   refine ite_some h (fun h34 h => ?_) (fun h34 h => ?_)
   ·
    rw [decide_eq_true h34]
    refine Goes.rn 1 [(31, (pt gx1 5))] Jcp ?_
    refine Goes.ld 26 (.tmp 31) 32 26 ⟨gx1, 5, none⟩ (.slice u1s x1v.L.length u1u) (p1.c 0 5) ?_
    refine Goes.rn 4 [(33, .i (x1v.L.length : Int)), (34, .bool (decide ((x1v.L.length : Int) > 0))), (35, .bool (decide ((x1v.L.length : Int) > 0)))] Jbs ?_
    exact Goes.jp 74 [(1, (pt gx1 0)), (3, .i x3), (35, .bool (decide ((x1v.L.length : Int) > 0)))] (W.z1r _ _ h _ _ hx gx1 u1s x1v.L.length u1u p1 u1v u1w rfl)
   ·
    rw [decide_eq_false h34]
    refine Goes.rn 6 [(31, undef), (32, undef), (33, undef), (34, undef), (35, .bool false)] Jbs ?_
    exact Goes.jp 74 [(1, (pt gx1 0)), (3, .i x3), (35, .bool false)] (W.z1r _ _ h _ _ hx gx1 u1s x1v.L.length u1u p1 u1v u1w rfl)

theorem W.z1q : ∀ a r, M.tidepoleref11_count a = some r → LF.z1q a r := (W.z1u).1

theorem W.z1s : ∀ a r, M.tidepoleref11_count_l0 a = some r → LL.z1s a r := (W.z1u).2.1

theorem W.z1t : ∀ a r, M.tidepoleref11_count_l1 a = some r → LL.z1t a r := (W.z1u).2.2

def Q98 := sub [1] B18
def Jcq : List Item := [.code Q98]
def Q99 := sub [0] B18
def Jcr : List Item := .inRegion (opsOf Q99) [0, 1, 2] :: Jcq
def Q9a := sub [1, 1] B18
def Jcs : List Item := [.code Q9a]
def Q9b := sub [1, 0, 1] B18
def Jct : List Item := .code Q9b :: Jcs
def Q9c := sub [1, 0, 0] B18
def Jcu : List Item := .inRegion (opsOf Q9c) [0, 1, 2] :: Jct
def Q9d := sub [1, 1, 1] B18
def Jcv : List Item := [.code Q9d]
def Q9e := sub [1, 1, 0] B18
def Jcw : List Item := .inRegion (opsOf Q9e) [0, 1, 2, 3, 4, 5] :: Jcv
def Q9f := sub [1, 0, 1, 0, 1] B18
def Jcx : List Item := .code Q9f :: Jcs

def Post.z1v (r : Int × Int) (v : Value) (w' : World) : Prop :=
 ∃ S', v = .tuple #[.i r.1, .i r.2] ∧ Ext S0 w0 S' w' ∧ Hp nz wz S' w' (Lr)

theorem W.z1v (x0 : T27) (r : Int × Int) (h : M.tidepoleref11_Count x0 = some r) {nz wz S0 w0 Lr} [Gw nz wz] (u5 u6 u7) (p0 : Hp nz wz S0 w0 (Lr)) (um : x0.Set.length = 4) (un : Rd kT27 S0 w0 u5 u7 x0.L) (uo : x0.L.length = u6) :
  Calls Tryd.prog 18 #[(ag (.i x0.Kind :: U4 x0.Set [.slice u5 u6 u7, .i x0.Min, .i x0.Max]))] w0 (Rets (Post.z1v nz wz S0 w0 Lr r)) := by
 subst uo
 refine calls_of_goes (fn := Tryd.f18) (c := B18) (by kernel_rfl) (by kernel_rfl) 10 (by kernel_rfl) ?_
 refine Goes.jp 11 [(0, (ag (.i x0.Kind :: U4 x0.Set [.slice u5 x0.L.length u7, .i x0.Min, .i x0.Max])))] (fun junk => ?_)
 delta M.tidepoleref11_Count at h
 refine Goes.rn 2 [] Jcr ?_
 refine Op_.box 28 (.tmp 0) 1 0 (ag (.i x0.Kind :: U4 x0.Set [.slice u5 x0.L.length u7, .i x0.Min, .i x0.Max])) (.i x0.Kind :: U4 x0.Set [.slice u5 x0.L.length u7, .i x0.Min, .i x0.Max]) p0 Goes.v (by kernel_rfl) (by kernel_rfl) ?_
 intro b1 w2 z2 p2
 refine Goes.rn 6 [(2, .i 0), (3, .i 0)] Jcu ?_
 refine Goes.ldN 28 (.tmp 1) 4 28 ⟨b1, 0, none⟩ (.i x0.Kind :: U4 x0.Set [.slice u5 x0.L.length u7, .i x0.Min, .i x0.Max]) (p2.pa 0 0) ?_
 refine bind_some' h fun y3 e4 h => ?_
 refine Goes.cal (kc 39 [4] #[28]) 5 4 39 _ (W.z1p x0 y3 e4 u5 x0.L.length u7 p2 um (un.ext z2) rfl) ?_
 rintro _ w3 ⟨S3, rfl, z3, p3⟩
 refine Goes.rn 2 [(6, .bool (!y3))] Jct ?_
 refine ite_some h (fun h5 h => ?_) (fun h5 h => ?_)
 ·
  rw [h5]
  refine Goes.rn 4 [] Jcw ?_
  refine Goes.ldN 28 (.tmp 1) 7 28 ⟨b1, 0, none⟩ (.i x0.Kind :: U4 x0.Set [.slice u5 x0.L.length u7, .i x0.Min, .i x0.Max]) (p3.pa 0 0) ?_
  refine bind_some' h fun y6 e7 h => ?_
  refine Goes.cal (kc 40 [7] #[28]) 8 3 40 _ (W.z1q x0 y6 e7 u5 x0.L.length u7 p3 um (un.ext (z2.trans z3)) rfl) ?_
  rintro _ w4 ⟨S4, rfl, z4, p4⟩
  have p4 := p4.dp 0
  refine Goes.rn 5 [(9, .i (wr .i64 (y6 + 1))), (10, .i (imn 1048576 (wr .i64 (y6 + 1)))), (2, .i (imn 1048576 (wr .i64 (y6 + 1)))), (3, .i 0)] Jcv ?_
  obtain rfl := Option.some.inj h
  exact Goes.rt Tryd.f18 (.tuple #[.i (imn 1048576 (wr .i64 (y6 + 1))), .i 0]) ⟨S4, rfl, ((((Ext.refl S0 w0).trans z2).trans z3).trans z4), p4⟩
 ·
  have h5' : y3 = false := by simpa using h5
  rw [h5']
  refine Goes.rn 6 [(2, .i 0), (3, .i 2)] Jcx ?_
  obtain rfl := Option.some.inj h
  have p3 := p3.dp 0
  exact Goes.rt Tryd.f18 (.tuple #[.i 0, .i 2]) ⟨S3, rfl, (((Ext.refl S0 w0).trans z2).trans z3), p3⟩

end

end Go.Gx
