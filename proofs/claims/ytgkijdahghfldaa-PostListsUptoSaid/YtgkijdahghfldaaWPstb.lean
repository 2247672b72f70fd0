import Derived.Test.YtgkijdahghfldaaWPsta

set_option linter.unusedVariables false

set_option maxRecDepth 100000

namespace Go.Gx

open Go.RowKit Go.Proofs

/-! tidepole/post.merge[uint64]$1 -/
def Post.post_merge_uint64_1_3 (nz : Nat) (wz : World) (S0 : Fz) (w0 : World) (Lr : List Ent) (lx0 : Nat) (rx0 : Nat) (jkx0 : Nat → Value) (gx0q5 : Nat) (gx0q7 : Nat) (gx0q12b0 : Nat) (gx0q12b1 : Nat) (r : (List Int) × (List Int) × (List Int)) (v : Value) (w' : World) : Prop :=
  ∃ (S' : Fz) (G1 : Option Nat) (c2 : Nat) (cs3 : List Value) (A4 : Option Addr) (c5 : Nat) (A6 : Option Addr) (c7 : Nat), v = .tuple #[] ∧ Ext S0 w0 S' w' ∧ Hp nz wz S' w' ((G1, .row 35 cs3 (c2 * (kInt .u64).size) 0) :: (some lx0, .obj (lpst 58 (lfr 23 [(5, .pointer (some ⟨gx0q5, 0, none⟩)), (7, .pointer (some ⟨gx0q7, 0, none⟩)), (12, .func (.func 68) #[] #[.pointer (some ⟨gx0q12b0, 0, none⟩), .pointer (some ⟨gx0q12b1, 0, none⟩)])] jkx0) #[13, 14] (rfAssign (sub [1, 1, 0, 1, 0] B58)) (rfBody (sub [1, 1, 0, 1, 0] B58)) rx0 .ready none)) :: (some gx0q5, .row 72 [.func (.func 44) #[] #[]] 1 0) :: (some gx0q7, .row 22 [.slice (Gp G1) r.1.length c2] 1 0) :: (some gx0q12b0, .row 22 [.slice A4 r.2.1.length c5] 1 0) :: (some gx0q12b1, .row 22 [.slice A6 r.2.2.length c7] 1 0) :: Lr) ∧ Els (kInt .u64) S' w' cs3 r.1 ∧ Rd (kInt .u64) S' w' A4 c5 r.2.1 ∧ Rd (kInt .u64) S' w' A6 c7 r.2.2

def L.post_merge_uint64_1_3_l0 (nz : Nat) (wz : World) (S0 : Fz) (w0 : World) (Lr : List Ent) (lx0 : Nat) (rx0 : Nat) (jkx0 : Nat → Value) (gx0q5 : Nat) (gx0q7 : Nat) (gx0q12b0 : Nat) (gx0q12b1 : Nat) : List Int × List Int × List Int → ((List Int) × (List Int) × (List Int)) → Prop := fun ⟨x1v0, x2v0, eE2v0⟩ r => ∀ S1 w1, Ext S0 w0 S1 w1 → ∀ (Ax1v0 : Option Addr) (cx1v0 : Nat) (Ax2v0 : Option Addr) (cx2v0 : Nat) (GeE2v0 : Option Nat) (ceE2v0 : Nat) (cseE2v0 : List Value) (_ : Hp nz wz S1 w1 ((some lx0, .obj (lpst 58 (lfr 23 [(5, .pointer (some ⟨gx0q5, 0, none⟩)), (7, .pointer (some ⟨gx0q7, 0, none⟩)), (12, .func (.func 68) #[] #[.pointer (some ⟨gx0q12b0, 0, none⟩), .pointer (some ⟨gx0q12b1, 0, none⟩)])] jkx0) #[13, 14] (rfAssign (sub [1, 1, 0, 1, 0] B58)) (rfBody (sub [1, 1, 0, 1, 0] B58)) rx0 .ready none)) :: (some gx0q12b0, .row 22 [.slice Ax1v0 x1v0.length cx1v0] 1 0) :: (some gx0q12b1, .row 22 [.slice Ax2v0 x2v0.length cx2v0] 1 0) :: (some gx0q5, .row 72 [.func (.func 44) #[] #[]] 1 0) :: (some gx0q7, .row 22 [.slice (Gp GeE2v0) eE2v0.length ceE2v0] 1 0) :: (GeE2v0, .row 35 cseE2v0 (ceE2v0 * (kInt .u64).size) 0) :: Lr)) (_ : Rd (kInt .u64) S1 w1 Ax1v0 cx1v0 x1v0) (_ : Rd (kInt .u64) S1 w1 Ax2v0 cx2v0 x2v0) (_ : Els (kInt .u64) S1 w1 cseE2v0 eE2v0) (junk : Nat → Value),
  Goes Try.prog (base 68) [.code (sub [0, 0] B68), .inLoop (sub [0, 0] B68), .inBlock 0] ⟨lfr 73 [(0, yieldV lx0), (1, .pointer (some ⟨gx0q12b0, 0, none⟩)), (2, .pointer (some ⟨gx0q12b1, 0, none⟩))] junk, []⟩ w1 (Done Try.prog 68 (Rets (Post.post_merge_uint64_1_3 nz wz S0 w0 Lr lx0 rx0 jkx0 gx0q5 gx0q7 gx0q12b0 gx0q12b1 r)))

def L.post_merge_uint64_1_3_l1 (nz : Nat) (wz : World) (S0 : Fz) (w0 : World) (Lr : List Ent) (lx0 : Nat) (rx0 : Nat) (jkx0 : Nat → Value) (gx0q5 : Nat) (gx0q7 : Nat) (gx0q12b0 : Nat) (gx0q12b1 : Nat) : List Int × List Int × Bool × List Int → ((List Int) × (List Int) × (List Int)) → Prop := fun ⟨x1v0, x2v0, x13, eE2v0⟩ r => ∀ S1 w1, Ext S0 w0 S1 w1 → ∀ (Ax1v0 : Option Addr) (cx1v0 : Nat) (Ax2v0 : Option Addr) (cx2v0 : Nat) (GeE2v0 : Option Nat) (ceE2v0 : Nat) (cseE2v0 : List Value) (_ : Hp nz wz S1 w1 ((some lx0, .obj (lpst 58 (lfr 23 [(5, .pointer (some ⟨gx0q5, 0, none⟩)), (7, .pointer (some ⟨gx0q7, 0, none⟩)), (12, .func (.func 68) #[] #[.pointer (some ⟨gx0q12b0, 0, none⟩), .pointer (some ⟨gx0q12b1, 0, none⟩)])] jkx0) #[13, 14] (rfAssign (sub [1, 1, 0, 1, 0] B58)) (rfBody (sub [1, 1, 0, 1, 0] B58)) rx0 .ready none)) :: (some gx0q12b0, .row 22 [.slice Ax1v0 x1v0.length cx1v0] 1 0) :: (some gx0q12b1, .row 22 [.slice Ax2v0 x2v0.length cx2v0] 1 0) :: (some gx0q5, .row 72 [.func (.func 44) #[] #[]] 1 0) :: (some gx0q7, .row 22 [.slice (Gp GeE2v0) eE2v0.length ceE2v0] 1 0) :: (GeE2v0, .row 35 cseE2v0 (ceE2v0 * (kInt .u64).size) 0) :: Lr)) (_ : Rd (kInt .u64) S1 w1 Ax1v0 cx1v0 x1v0) (_ : Rd (kInt .u64) S1 w1 Ax2v0 cx2v0 x2v0) (_ : Els (kInt .u64) S1 w1 cseE2v0 eE2v0) (junk : Nat → Value),
  Goes Try.prog (base 68) [.code (sub [0, 0, 0, 1] B68), .code (sub [0, 0, 1] B68), .inLoop (sub [0, 0] B68), .inBlock 0] ⟨lfr 73 [(0, yieldV lx0), (1, .pointer (some ⟨gx0q12b0, 0, none⟩)), (2, .pointer (some ⟨gx0q12b1, 0, none⟩)), (13, .bool x13)] junk, []⟩ w1 (Done Try.prog 68 (Rets (Post.post_merge_uint64_1_3 nz wz S0 w0 Lr lx0 rx0 jkx0 gx0q5 gx0q7 gx0q12b0 gx0q12b1 r)))

def L.post_merge_uint64_1_3_l2 (nz : Nat) (wz : World) (S0 : Fz) (w0 : World) (Lr : List Ent) (lx0 : Nat) (rx0 : Nat) (jkx0 : Nat → Value) (gx0q5 : Nat) (gx0q7 : Nat) (gx0q12b0 : Nat) (gx0q12b1 : Nat) : List Int × List Int × Int × Bool × List Int → ((List Int) × (List Int) × (List Int)) → Prop := fun ⟨x1v0, x2v0, x4, x30, eE2v0⟩ r => ∀ S1 w1, Ext S0 w0 S1 w1 → ∀ (Ax1v0 : Option Addr) (cx1v0 : Nat) (Ax2v0 : Option Addr) (cx2v0 : Nat) (GeE2v0 : Option Nat) (ceE2v0 : Nat) (cseE2v0 : List Value) (_ : Hp nz wz S1 w1 ((some lx0, .obj (lpst 58 (lfr 23 [(5, .pointer (some ⟨gx0q5, 0, none⟩)), (7, .pointer (some ⟨gx0q7, 0, none⟩)), (12, .func (.func 68) #[] #[.pointer (some ⟨gx0q12b0, 0, none⟩), .pointer (some ⟨gx0q12b1, 0, none⟩)])] jkx0) #[13, 14] (rfAssign (sub [1, 1, 0, 1, 0] B58)) (rfBody (sub [1, 1, 0, 1, 0] B58)) rx0 .ready none)) :: (some gx0q12b0, .row 22 [.slice Ax1v0 x1v0.length cx1v0] 1 0) :: (some gx0q12b1, .row 22 [.slice Ax2v0 x2v0.length cx2v0] 1 0) :: (some gx0q5, .row 72 [.func (.func 44) #[] #[]] 1 0) :: (some gx0q7, .row 22 [.slice (Gp GeE2v0) eE2v0.length ceE2v0] 1 0) :: (GeE2v0, .row 35 cseE2v0 (ceE2v0 * (kInt .u64).size) 0) :: Lr)) (_ : Rd (kInt .u64) S1 w1 Ax1v0 cx1v0 x1v0) (_ : Rd (kInt .u64) S1 w1 Ax2v0 cx2v0 x2v0) (_ : Els (kInt .u64) S1 w1 cseE2v0 eE2v0) (junk : Nat → Value),
  Goes Try.prog (base 68) [.code (sub [0, 0, 1, 0, 1, 0, 1] B68), .code (sub [0, 0, 1, 0, 1, 1] B68), .inBlock 1, .inLoop (sub [0, 0] B68), .inBlock 0] ⟨lfr 73 [(0, yieldV lx0), (1, .pointer (some ⟨gx0q12b0, 0, none⟩)), (2, .pointer (some ⟨gx0q12b1, 0, none⟩)), (4, .int .i64 x4), (30, .bool x30)] junk, []⟩ w1 (Done Try.prog 68 (Rets (Post.post_merge_uint64_1_3 nz wz S0 w0 Lr lx0 rx0 jkx0 gx0q5 gx0q7 gx0q12b0 gx0q12b1 r)))

def L.post_merge_uint64_1_3_l3 (nz : Nat) (wz : World) (S0 : Fz) (w0 : World) (Lr : List Ent) (lx0 : Nat) (rx0 : Nat) (jkx0 : Nat → Value) (gx0q5 : Nat) (gx0q7 : Nat) (gx0q12b0 : Nat) (gx0q12b1 : Nat) : List Int × List Int × Int × List Int → ((List Int) × (List Int) × (List Int)) → Prop := fun ⟨x1v0, x2v0, x4, eE2v0⟩ r => ∀ S1 w1, Ext S0 w0 S1 w1 → ∀ (Ax1v0 : Option Addr) (cx1v0 : Nat) (Ax2v0 : Option Addr) (cx2v0 : Nat) (GeE2v0 : Option Nat) (ceE2v0 : Nat) (cseE2v0 : List Value) (_ : Hp nz wz S1 w1 ((some lx0, .obj (lpst 58 (lfr 23 [(5, .pointer (some ⟨gx0q5, 0, none⟩)), (7, .pointer (some ⟨gx0q7, 0, none⟩)), (12, .func (.func 68) #[] #[.pointer (some ⟨gx0q12b0, 0, none⟩), .pointer (some ⟨gx0q12b1, 0, none⟩)])] jkx0) #[13, 14] (rfAssign (sub [1, 1, 0, 1, 0] B58)) (rfBody (sub [1, 1, 0, 1, 0] B58)) rx0 .ready none)) :: (some gx0q12b0, .row 22 [.slice Ax1v0 x1v0.length cx1v0] 1 0) :: (some gx0q12b1, .row 22 [.slice Ax2v0 x2v0.length cx2v0] 1 0) :: (some gx0q5, .row 72 [.func (.func 44) #[] #[]] 1 0) :: (some gx0q7, .row 22 [.slice (Gp GeE2v0) eE2v0.length ceE2v0] 1 0) :: (GeE2v0, .row 35 cseE2v0 (ceE2v0 * (kInt .u64).size) 0) :: Lr)) (_ : Rd (kInt .u64) S1 w1 Ax1v0 cx1v0 x1v0) (_ : Rd (kInt .u64) S1 w1 Ax2v0 cx2v0 x2v0) (_ : Els (kInt .u64) S1 w1 cseE2v0 eE2v0) (junk : Nat → Value),
  Goes Try.prog (base 68) [.code (sub [0, 0, 1, 0, 1, 1] B68), .inBlock 1, .inLoop (sub [0, 0] B68), .inBlock 0] ⟨lfr 73 [(0, yieldV lx0), (1, .pointer (some ⟨gx0q12b0, 0, none⟩)), (2, .pointer (some ⟨gx0q12b1, 0, none⟩)), (4, .int .i64 x4)] junk, []⟩ w1 (Done Try.prog 68 (Rets (Post.post_merge_uint64_1_3 nz wz S0 w0 Lr lx0 rx0 jkx0 gx0q5 gx0q7 gx0q12b0 gx0q12b1 r)))

def L.post_merge_uint64_1_3_l4 (nz : Nat) (wz : World) (S0 : Fz) (w0 : World) (Lr : List Ent) (lx0 : Nat) (rx0 : Nat) (jkx0 : Nat → Value) (gx0q5 : Nat) (gx0q7 : Nat) (gx0q12b0 : Nat) (gx0q12b1 : Nat) : List Int × List Int × Int × Bool × List Int → ((List Int) × (List Int) × (List Int)) → Prop := fun ⟨x1v0, x2v0, x4, x49, eE2v0⟩ r => ∀ S1 w1, Ext S0 w0 S1 w1 → ∀ (Ax1v0 : Option Addr) (cx1v0 : Nat) (Ax2v0 : Option Addr) (cx2v0 : Nat) (GeE2v0 : Option Nat) (ceE2v0 : Nat) (cseE2v0 : List Value) (_ : Hp nz wz S1 w1 ((some lx0, .obj (lpst 58 (lfr 23 [(5, .pointer (some ⟨gx0q5, 0, none⟩)), (7, .pointer (some ⟨gx0q7, 0, none⟩)), (12, .func (.func 68) #[] #[.pointer (some ⟨gx0q12b0, 0, none⟩), .pointer (some ⟨gx0q12b1, 0, none⟩)])] jkx0) #[13, 14] (rfAssign (sub [1, 1, 0, 1, 0] B58)) (rfBody (sub [1, 1, 0, 1, 0] B58)) rx0 .ready none)) :: (some gx0q12b0, .row 22 [.slice Ax1v0 x1v0.length cx1v0] 1 0) :: (some gx0q12b1, .row 22 [.slice Ax2v0 x2v0.length cx2v0] 1 0) :: (some gx0q5, .row 72 [.func (.func 44) #[] #[]] 1 0) :: (some gx0q7, .row 22 [.slice (Gp GeE2v0) eE2v0.length ceE2v0] 1 0) :: (GeE2v0, .row 35 cseE2v0 (ceE2v0 * (kInt .u64).size) 0) :: Lr)) (_ : Rd (kInt .u64) S1 w1 Ax1v0 cx1v0 x1v0) (_ : Rd (kInt .u64) S1 w1 Ax2v0 cx2v0 x2v0) (_ : Els (kInt .u64) S1 w1 cseE2v0 eE2v0) (junk : Nat → Value),
  Goes Try.prog (base 68) [.code (sub [0, 0, 1, 0, 1, 1, 0, 1] B68), .code (sub [0, 0, 1, 0, 1, 1, 1] B68), .inBlock 1, .inLoop (sub [0, 0] B68), .inBlock 0] ⟨lfr 73 [(0, yieldV lx0), (1, .pointer (some ⟨gx0q12b0, 0, none⟩)), (2, .pointer (some ⟨gx0q12b1, 0, none⟩)), (4, .int .i64 x4), (49, .bool x49)] junk, []⟩ w1 (Done Try.prog 68 (Rets (Post.post_merge_uint64_1_3 nz wz S0 w0 Lr lx0 rx0 jkx0 gx0q5 gx0q7 gx0q12b0 gx0q12b1 r)))

def L.post_merge_uint64_1_3_l5 (nz : Nat) (wz : World) (S0 : Fz) (w0 : World) (Lr : List Ent) (lx0 : Nat) (rx0 : Nat) (jkx0 : Nat → Value) (gx0q5 : Nat) (gx0q7 : Nat) (gx0q12b0 : Nat) (gx0q12b1 : Nat) : List Int × List Int × Int × List Int → ((List Int) × (List Int) × (List Int)) → Prop := fun ⟨x1v0, x2v0, x4, eE2v0⟩ r => ∀ S1 w1, Ext S0 w0 S1 w1 → ∀ (Ax1v0 : Option Addr) (cx1v0 : Nat) (Ax2v0 : Option Addr) (cx2v0 : Nat) (GeE2v0 : Option Nat) (ceE2v0 : Nat) (cseE2v0 : List Value) (_ : Hp nz wz S1 w1 ((some lx0, .obj (lpst 58 (lfr 23 [(5, .pointer (some ⟨gx0q5, 0, none⟩)), (7, .pointer (some ⟨gx0q7, 0, none⟩)), (12, .func (.func 68) #[] #[.pointer (some ⟨gx0q12b0, 0, none⟩), .pointer (some ⟨gx0q12b1, 0, none⟩)])] jkx0) #[13, 14] (rfAssign (sub [1, 1, 0, 1, 0] B58)) (rfBody (sub [1, 1, 0, 1, 0] B58)) rx0 .ready none)) :: (some gx0q12b0, .row 22 [.slice Ax1v0 x1v0.length cx1v0] 1 0) :: (some gx0q12b1, .row 22 [.slice Ax2v0 x2v0.length cx2v0] 1 0) :: (some gx0q5, .row 72 [.func (.func 44) #[] #[]] 1 0) :: (some gx0q7, .row 22 [.slice (Gp GeE2v0) eE2v0.length ceE2v0] 1 0) :: (GeE2v0, .row 35 cseE2v0 (ceE2v0 * (kInt .u64).size) 0) :: Lr)) (_ : Rd (kInt .u64) S1 w1 Ax1v0 cx1v0 x1v0) (_ : Rd (kInt .u64) S1 w1 Ax2v0 cx2v0 x2v0) (_ : Els (kInt .u64) S1 w1 cseE2v0 eE2v0) (junk : Nat → Value),
  Goes Try.prog (base 68) [.code (sub [0, 0, 1, 0, 1, 1, 1] B68), .inBlock 1, .inLoop (sub [0, 0] B68), .inBlock 0] ⟨lfr 73 [(0, yieldV lx0), (1, .pointer (some ⟨gx0q12b0, 0, none⟩)), (2, .pointer (some ⟨gx0q12b1, 0, none⟩)), (4, .int .i64 x4)] junk, []⟩ w1 (Done Try.prog 68 (Rets (Post.post_merge_uint64_1_3 nz wz S0 w0 Lr lx0 rx0 jkx0 gx0q5 gx0q7 gx0q12b0 gx0q12b1 r)))

def L.post_merge_uint64_1_3_l6 (nz : Nat) (wz : World) (S0 : Fz) (w0 : World) (Lr : List Ent) (lx0 : Nat) (rx0 : Nat) (jkx0 : Nat → Value) (gx0q5 : Nat) (gx0q7 : Nat) (gx0q12b0 : Nat) (gx0q12b1 : Nat) : List Int × List Int × Int × Int × List Int → ((List Int) × (List Int) × (List Int)) → Prop := fun ⟨x1v0, x2v0, x4, x5, eE2v0⟩ r => ∀ S1 w1, Ext S0 w0 S1 w1 → ∀ (Ax1v0 : Option Addr) (cx1v0 : Nat) (Ax2v0 : Option Addr) (cx2v0 : Nat) (GeE2v0 : Option Nat) (ceE2v0 : Nat) (cseE2v0 : List Value) (_ : Hp nz wz S1 w1 ((some lx0, .obj (lpst 58 (lfr 23 [(5, .pointer (some ⟨gx0q5, 0, none⟩)), (7, .pointer (some ⟨gx0q7, 0, none⟩)), (12, .func (.func 68) #[] #[.pointer (some ⟨gx0q12b0, 0, none⟩), .pointer (some ⟨gx0q12b1, 0, none⟩)])] jkx0) #[13, 14] (rfAssign (sub [1, 1, 0, 1, 0] B58)) (rfBody (sub [1, 1, 0, 1, 0] B58)) rx0 .ready none)) :: (some gx0q12b0, .row 22 [.slice Ax1v0 x1v0.length cx1v0] 1 0) :: (some gx0q12b1, .row 22 [.slice Ax2v0 x2v0.length cx2v0] 1 0) :: (some gx0q5, .row 72 [.func (.func 44) #[] #[]] 1 0) :: (some gx0q7, .row 22 [.slice (Gp GeE2v0) eE2v0.length ceE2v0] 1 0) :: (GeE2v0, .row 35 cseE2v0 (ceE2v0 * (kInt .u64).size) 0) :: Lr)) (_ : Rd (kInt .u64) S1 w1 Ax1v0 cx1v0 x1v0) (_ : Rd (kInt .u64) S1 w1 Ax2v0 cx2v0 x2v0) (_ : Els (kInt .u64) S1 w1 cseE2v0 eE2v0) (junk : Nat → Value),
  Goes Try.prog (base 68) [.code (sub [0, 0, 1, 0, 1, 1, 1, 1, 1] B68), .inBlock 1, .inLoop (sub [0, 0] B68), .inBlock 0] ⟨lfr 73 [(0, yieldV lx0), (1, .pointer (some ⟨gx0q12b0, 0, none⟩)), (2, .pointer (some ⟨gx0q12b1, 0, none⟩)), (4, .int .i64 x4), (5, .int .u64 x5)] junk, []⟩ w1 (Done Try.prog 68 (Rets (Post.post_merge_uint64_1_3 nz wz S0 w0 Lr lx0 rx0 jkx0 gx0q5 gx0q7 gx0q12b0 gx0q12b1 r)))

def L.post_merge_uint64_1_3_l7 (nz : Nat) (wz : World) (S0 : Fz) (w0 : World) (Lr : List Ent) (lx0 : Nat) (rx0 : Nat) (jkx0 : Nat → Value) (gx0q5 : Nat) (gx0q7 : Nat) (gx0q12b0 : Nat) (gx0q12b1 : Nat) : List Int × List Int × Int × Int × List Int → ((List Int) × (List Int) × (List Int)) → Prop := fun ⟨x1v0, x2v0, x4, x5, eE2v0⟩ r => ∀ S1 w1, Ext S0 w0 S1 w1 → ∀ (Ax1v0 : Option Addr) (cx1v0 : Nat) (Ax2v0 : Option Addr) (cx2v0 : Nat) (GeE2v0 : Option Nat) (ceE2v0 : Nat) (cseE2v0 : List Value) (_ : Hp nz wz S1 w1 ((some lx0, .obj (lpst 58 (lfr 23 [(5, .pointer (some ⟨gx0q5, 0, none⟩)), (7, .pointer (some ⟨gx0q7, 0, none⟩)), (12, .func (.func 68) #[] #[.pointer (some ⟨gx0q12b0, 0, none⟩), .pointer (some ⟨gx0q12b1, 0, none⟩)])] jkx0) #[13, 14] (rfAssign (sub [1, 1, 0, 1, 0] B58)) (rfBody (sub [1, 1, 0, 1, 0] B58)) rx0 .ready none)) :: (some gx0q12b0, .row 22 [.slice Ax1v0 x1v0.length cx1v0] 1 0) :: (some gx0q12b1, .row 22 [.slice Ax2v0 x2v0.length cx2v0] 1 0) :: (some gx0q5, .row 72 [.func (.func 44) #[] #[]] 1 0) :: (some gx0q7, .row 22 [.slice (Gp GeE2v0) eE2v0.length ceE2v0] 1 0) :: (GeE2v0, .row 35 cseE2v0 (ceE2v0 * (kInt .u64).size) 0) :: Lr)) (_ : Rd (kInt .u64) S1 w1 Ax1v0 cx1v0 x1v0) (_ : Rd (kInt .u64) S1 w1 Ax2v0 cx2v0 x2v0) (_ : Els (kInt .u64) S1 w1 cseE2v0 eE2v0) (junk : Nat → Value),
  Goes Try.prog (base 68) [.code (sub [0, 0, 1, 0, 1, 1, 1, 1, 1, 1] B68), .inBlock 1, .inLoop (sub [0, 0] B68), .inBlock 0] ⟨lfr 73 [(0, yieldV lx0), (1, .pointer (some ⟨gx0q12b0, 0, none⟩)), (2, .pointer (some ⟨gx0q12b1, 0, none⟩)), (4, .int .i64 x4), (5, .int .u64 x5)] junk, []⟩ w1 (Done Try.prog 68 (Rets (Post.post_merge_uint64_1_3 nz wz S0 w0 Lr lx0 rx0 jkx0 gx0q5 gx0q7 gx0q12b0 gx0q12b1 r)))

theorem W.post_merge_uint64_1_3_l0_all (nz : Nat) (wz : World) (S0 : Fz) (w0 : World) (Lr : List Ent) (lx0 : Nat) (rx0 : Nat) (jkx0 : Nat → Value) (gx0q5 : Nat) (gx0q7 : Nat) (gx0q12b0 : Nat) (gx0q12b1 : Nat) : (∀ a r, M.post_merge_uint64_1_3_l0 a = some r → L.post_merge_uint64_1_3_l0 nz wz S0 w0 Lr lx0 rx0 jkx0 gx0q5 gx0q7 gx0q12b0 gx0q12b1 a r) ∧ (∀ a r, M.post_merge_uint64_1_3_l1 a = some r → L.post_merge_uint64_1_3_l1 nz wz S0 w0 Lr lx0 rx0 jkx0 gx0q5 gx0q7 gx0q12b0 gx0q12b1 a r) ∧ (∀ a r, M.post_merge_uint64_1_3_l2 a = some r → L.post_merge_uint64_1_3_l2 nz wz S0 w0 Lr lx0 rx0 jkx0 gx0q5 gx0q7 gx0q12b0 gx0q12b1 a r) ∧ (∀ a r, M.post_merge_uint64_1_3_l3 a = some r → L.post_merge_uint64_1_3_l3 nz wz S0 w0 Lr lx0 rx0 jkx0 gx0q5 gx0q7 gx0q12b0 gx0q12b1 a r) ∧ (∀ a r, M.post_merge_uint64_1_3_l4 a = some r → L.post_merge_uint64_1_3_l4 nz wz S0 w0 Lr lx0 rx0 jkx0 gx0q5 gx0q7 gx0q12b0 gx0q12b1 a r) ∧ (∀ a r, M.post_merge_uint64_1_3_l5 a = some r → L.post_merge_uint64_1_3_l5 nz wz S0 w0 Lr lx0 rx0 jkx0 gx0q5 gx0q7 gx0q12b0 gx0q12b1 a r) ∧ (∀ a r, M.post_merge_uint64_1_3_l6 a = some r → L.post_merge_uint64_1_3_l6 nz wz S0 w0 Lr lx0 rx0 jkx0 gx0q5 gx0q7 gx0q12b0 gx0q12b1 a r) ∧ (∀ a r, M.post_merge_uint64_1_3_l7 a = some r → L.post_merge_uint64_1_3_l7 nz wz S0 w0 Lr lx0 rx0 jkx0 gx0q5 gx0q7 gx0q12b0 gx0q12b1 a r) := by
  refine M.post_merge_uint64_1_3_l0.mutual_partial_correctness (L.post_merge_uint64_1_3_l0 nz wz S0 w0 Lr lx0 rx0 jkx0 gx0q5 gx0q7 gx0q12b0 gx0q12b1) (L.post_merge_uint64_1_3_l1 nz wz S0 w0 Lr lx0 rx0 jkx0 gx0q5 gx0q7 gx0q12b0 gx0q12b1) (L.post_merge_uint64_1_3_l2 nz wz S0 w0 Lr lx0 rx0 jkx0 gx0q5 gx0q7 gx0q12b0 gx0q12b1) (L.post_merge_uint64_1_3_l3 nz wz S0 w0 Lr lx0 rx0 jkx0 gx0q5 gx0q7 gx0q12b0 gx0q12b1) (L.post_merge_uint64_1_3_l4 nz wz S0 w0 Lr lx0 rx0 jkx0 gx0q5 gx0q7 gx0q12b0 gx0q12b1) (L.post_merge_uint64_1_3_l5 nz wz S0 w0 Lr lx0 rx0 jkx0 gx0q5 gx0q7 gx0q12b0 gx0q12b1) (L.post_merge_uint64_1_3_l6 nz wz S0 w0 Lr lx0 rx0 jkx0 gx0q5 gx0q7 gx0q12b0 gx0q12b1) (L.post_merge_uint64_1_3_l7 nz wz S0 w0 Lr lx0 rx0 jkx0 gx0q5 gx0q7 gx0q12b0 gx0q12b1) ?_ ?_ ?_ ?_ ?_ ?_ ?_ ?_
  · intro rec_post_merge_uint64_1_3_l1 ih_post_merge_uint64_1_3_l1 ⟨x1v0, x2v0, eE2v0⟩ r h S1 w1 hx Ax1v0 cx1v0 Ax2v0 cx2v0 GeE2v0 ceE2v0 cseE2v0 p1 fx1v0 fx2v0 feE2v0 junk
    dsimp only at h
    refine Goes.runs 3 [] [.inRegion (opsOf (sub [0, 0, 0, 0] B68)) [0, 1, 2, 3, 4, 5, 6, 7], .code (sub [0, 0, 0, 1] B68), .code (sub [0, 0, 1] B68), .inLoop (sub [0, 0] B68), .inBlock 0] (by kernel_rfl) ?_
    refine Op_.ld1 22 (.tmp 1) 6 22 ⟨gx0q12b0, 0, none⟩ (.slice Ax1v0 x1v0.length cx1v0) (Goes.vs (by kernel_rfl)) (by kernel_rfl) (by kernel_rfl) ((p1.mem 1 rfl).cell 0 _ rfl) ?_
    refine Goes.runs 3 [(7, .int .i64 (x1v0.length : Int)), (8, .bool (decide ((x1v0.length : Int) > 0))), (9, .bool (decide ((x1v0.length : Int) > 0)))] [.inRegion (opsOf (sub [0, 0, 0, 0] B68)) [4, 5, 6, 7], .code (sub [0, 0, 0, 1] B68), .code (sub [0, 0, 1] B68), .inLoop (sub [0, 0] B68), .inBlock 0] (by kernel_rfl) ?_
    by_cases h1 : (x1v0.length : Int) > 0
    · rw [if_pos h1] at h
      rw [decide_eq_true h1]
      refine Goes.runs 5 [(10, undef), (11, undef), (12, undef), (13, .bool true)] [.code (sub [0, 0, 0, 1] B68), .code (sub [0, 0, 1] B68), .inLoop (sub [0, 0] B68), .inBlock 0] (by kernel_rfl) ?_
      exact Goes.jump 73 [(0, yieldV lx0), (1, .pointer (some ⟨gx0q12b0, 0, none⟩)), (2, .pointer (some ⟨gx0q12b1, 0, none⟩)), (13, .bool true)] (by kernel_rfl) (ih_post_merge_uint64_1_3_l1 _ _ h _ _ hx Ax1v0 cx1v0 Ax2v0 cx2v0 GeE2v0 ceE2v0 cseE2v0 p1 fx1v0 fx2v0 feE2v0)
    · rw [if_neg h1] at h
      rw [decide_eq_false h1]
      refine Op_.ld1 22 (.tmp 2) 10 22 ⟨gx0q12b1, 0, none⟩ (.slice Ax2v0 x2v0.length cx2v0) (Goes.vs (by kernel_rfl)) (by kernel_rfl) (by kernel_rfl) ((p1.mem 2 rfl).cell 0 _ rfl) ?_
      refine Goes.runs 4 [(11, .int .i64 (x2v0.length : Int)), (12, .bool (decide ((x2v0.length : Int) > 0))), (13, .bool (decide ((x2v0.length : Int) > 0)))] [.code (sub [0, 0, 0, 1] B68), .code (sub [0, 0, 1] B68), .inLoop (sub [0, 0] B68), .inBlock 0] (by kernel_rfl) ?_
      exact Goes.jump 73 [(0, yieldV lx0), (1, .pointer (some ⟨gx0q12b0, 0, none⟩)), (2, .pointer (some ⟨gx0q12b1, 0, none⟩)), (13, .bool (decide ((x2v0.length : Int) > 0)))] (by kernel_rfl) (ih_post_merge_uint64_1_3_l1 _ _ h _ _ hx Ax1v0 cx1v0 Ax2v0 cx2v0 GeE2v0 ceE2v0 cseE2v0 p1 fx1v0 fx2v0 feE2v0)
  · intro rec_post_merge_uint64_1_3_l2 ih_post_merge_uint64_1_3_l2 ⟨x1v0, x2v0, x13, eE2v0⟩ r h S1 w1 hx Ax1v0 cx1v0 Ax2v0 cx2v0 GeE2v0 ceE2v0 cseE2v0 p1 fx1v0 fx2v0 feE2v0 junk
    dsimp only at h
    by_cases h2 : x13 = true
    · rw [if_pos h2] at h
      rw [h2]
      refine Goes.runs 9 [(4, .int .i64 0)] [.code (sub [0, 0, 1, 0, 1, 0, 0] B68), .code (sub [0, 0, 1, 0, 1, 0, 1] B68), .code (sub [0, 0, 1, 0, 1, 1] B68), .inBlock 1, .inLoop (sub [0, 0] B68), .inBlock 0] (by kernel_rfl) ?_
      have z2 : Ext S1 w1 S1 (w1).drew := Ext.draw
      have p2 := p1.draw
      refine Goes.drawn (s := []) (F := Fc S1 (w1).drew [(⟨gx0q12b1, 0, none⟩, .slice Ax2v0 x2v0.length cx2v0), (⟨gx0q12b0, 0, none⟩, .slice Ax1v0 x1v0.length cx1v0)]) 2 17 (by kernel_rfl) (by kernel_rfl) (by kernel_rfl) (by kernel_rfl) ?_
      generalize (w1).drew = w2 at z2 p2 ⊢
      refine AnyG.ld1 (i := 0) 22 (.tmp 2) 14 22 ⟨gx0q12b1, 0, none⟩ (.slice Ax2v0 x2v0.length cx2v0) (by kernel_rfl) (by kernel_rfl) (Fc.here ⟨((p2.mem 2 rfl).cell 0 _ rfl), ((p2.mem 1 rfl).cell 0 _ rfl), trivial⟩) (by kernel_rfl) (by kernel_rfl) (fun _ h => h.2.at_ 0 rfl) ?_
      refine AnyG.pure (i := 1) (.call { callee := .builtin .len, args := #[(.tmp 14)], argTypes := #[22] }) 15 3 (.int .i64 (x2v0.length : Int)) (by kernel_rfl) (by kernel_rfl) (by kernel_rfl) (Fc.here ⟨((p2.mem 2 rfl).cell 0 _ rfl), ((p2.mem 1 rfl).cell 0 _ rfl), trivial⟩) ?_
      refine AnyG.pure (i := 2) (.binOp .eql 3 (.tmp 15) (.const (.int .i64 0)) 3) 16 4 (.bool (decide ((x2v0.length : Int) = 0))) (by kernel_rfl) (by kernel_rfl) (by kernel_rfl) (Fc.here ⟨((p2.mem 2 rfl).cell 0 _ rfl), ((p2.mem 1 rfl).cell 0 _ rfl), trivial⟩) ?_
      refine AnyG.pure (i := 3) (.move (.tmp 16)) 17 4 (.bool (decide ((x2v0.length : Int) = 0))) (by kernel_rfl) (by kernel_rfl) (by kernel_rfl) (Fc.here ⟨((p2.mem 2 rfl).cell 0 _ rfl), ((p2.mem 1 rfl).cell 0 _ rfl), trivial⟩) ?_
      by_cases h3 : (x2v0.length : Int) = 0
      · rw [if_pos h3] at h
        rw [decide_eq_true h3]
        refine AnyG.skip1 (i := 4) 18 (by kernel_rfl) (by kernel_rfl) (Fc.here ⟨((p2.mem 2 rfl).cell 0 _ rfl), ((p2.mem 1 rfl).cell 0 _ rfl), trivial⟩) ?_
        refine AnyG.skip1 (i := 5) 19 (by kernel_rfl) (by kernel_rfl) (Fc.here ⟨((p2.mem 2 rfl).cell 0 _ rfl), ((p2.mem 1 rfl).cell 0 _ rfl), trivial⟩) ?_
        refine AnyG.skip1 (i := 6) 20 (by kernel_rfl) (by kernel_rfl) (Fc.here ⟨((p2.mem 2 rfl).cell 0 _ rfl), ((p2.mem 1 rfl).cell 0 _ rfl), trivial⟩) ?_
        refine AnyG.skip1 (i := 7) 21 (by kernel_rfl) (by kernel_rfl) (Fc.here ⟨((p2.mem 2 rfl).cell 0 _ rfl), ((p2.mem 1 rfl).cell 0 _ rfl), trivial⟩) ?_
        refine AnyG.skip1 (i := 8) 22 (by kernel_rfl) (by kernel_rfl) (Fc.here ⟨((p2.mem 2 rfl).cell 0 _ rfl), ((p2.mem 1 rfl).cell 0 _ rfl), trivial⟩) ?_
        refine AnyG.skip1 (i := 9) 23 (by kernel_rfl) (by kernel_rfl) (Fc.here ⟨((p2.mem 2 rfl).cell 0 _ rfl), ((p2.mem 1 rfl).cell 0 _ rfl), trivial⟩) ?_
        refine AnyG.skip1 (i := 10) 24 (by kernel_rfl) (by kernel_rfl) (Fc.here ⟨((p2.mem 2 rfl).cell 0 _ rfl), ((p2.mem 1 rfl).cell 0 _ rfl), trivial⟩) ?_
        refine AnyG.skip1 (i := 11) 25 (by kernel_rfl) (by kernel_rfl) (Fc.here ⟨((p2.mem 2 rfl).cell 0 _ rfl), ((p2.mem 1 rfl).cell 0 _ rfl), trivial⟩) ?_
        refine AnyG.skip1 (i := 12) 26 (by kernel_rfl) (by kernel_rfl) (Fc.here ⟨((p2.mem 2 rfl).cell 0 _ rfl), ((p2.mem 1 rfl).cell 0 _ rfl), trivial⟩) ?_
        refine AnyG.skip1 (i := 13) 27 (by kernel_rfl) (by kernel_rfl) (Fc.here ⟨((p2.mem 2 rfl).cell 0 _ rfl), ((p2.mem 1 rfl).cell 0 _ rfl), trivial⟩) ?_
        refine AnyG.skip1 (i := 14) 28 (by kernel_rfl) (by kernel_rfl) (Fc.here ⟨((p2.mem 2 rfl).cell 0 _ rfl), ((p2.mem 1 rfl).cell 0 _ rfl), trivial⟩) ?_
        refine AnyG.skip1 (i := 15) 29 (by kernel_rfl) (by kernel_rfl) (Fc.here ⟨((p2.mem 2 rfl).cell 0 _ rfl), ((p2.mem 1 rfl).cell 0 _ rfl), trivial⟩) ?_
        refine AnyG.pure (i := 16) (.pick (.tmp 17) (.const (.bool true)) (.tmp 29)) 30 4 (.bool true) (by kernel_rfl) (by kernel_rfl) (by kernel_rfl) (Fc.here ⟨((p2.mem 2 rfl).cell 0 _ rfl), ((p2.mem 1 rfl).cell 0 _ rfl), trivial⟩) ?_
        refine AnyG.done (by kernel_rfl) ?_ _
        exact Goes.jump 73 [(0, yieldV lx0), (1, .pointer (some ⟨gx0q12b0, 0, none⟩)), (2, .pointer (some ⟨gx0q12b1, 0, none⟩)), (4, .int .i64 0), (30, .bool true)] (by kernel_rfl) (ih_post_merge_uint64_1_3_l2 _ _ h _ _ (hx.trans z2) Ax1v0 cx1v0 Ax2v0 cx2v0 GeE2v0 ceE2v0 cseE2v0 p2 (fx1v0.ext z2) (fx2v0.ext z2) (feE2v0.ext z2))
      · rw [if_neg h3] at h
        rw [decide_eq_false h3]
        refine AnyG.ld1 (i := 4) 22 (.tmp 1) 18 22 ⟨gx0q12b0, 0, none⟩ (.slice Ax1v0 x1v0.length cx1v0) (by kernel_rfl) (by kernel_rfl) (Fc.here ⟨((p2.mem 2 rfl).cell 0 _ rfl), ((p2.mem 1 rfl).cell 0 _ rfl), trivial⟩) (by kernel_rfl) (by kernel_rfl) (fun _ h => h.2.at_ 1 rfl) ?_
        refine AnyG.pure (i := 5) (.call { callee := .builtin .len, args := #[(.tmp 18)], argTypes := #[22] }) 19 3 (.int .i64 (x1v0.length : Int)) (by kernel_rfl) (by kernel_rfl) (by kernel_rfl) (Fc.here ⟨((p2.mem 2 rfl).cell 0 _ rfl), ((p2.mem 1 rfl).cell 0 _ rfl), trivial⟩) ?_
        refine AnyG.pure (i := 6) (.binOp .gtr 3 (.tmp 19) (.const (.int .i64 0)) 3) 20 4 (.bool (decide ((x1v0.length : Int) > 0))) (by kernel_rfl) (by kernel_rfl) (by kernel_rfl) (Fc.here ⟨((p2.mem 2 rfl).cell 0 _ rfl), ((p2.mem 1 rfl).cell 0 _ rfl), trivial⟩) ?_
        refine AnyG.pure (i := 7) (.move (.tmp 20)) 21 4 (.bool (decide ((x1v0.length : Int) > 0))) (by kernel_rfl) (by kernel_rfl) (by kernel_rfl) (Fc.here ⟨((p2.mem 2 rfl).cell 0 _ rfl), ((p2.mem 1 rfl).cell 0 _ rfl), trivial⟩) ?_
        by_cases h4 : (x1v0.length : Int) > 0
        · rw [if_pos h4] at h
          rw [decide_eq_true h4]
          refine AnyG.ld1 (i := 8) 22 (.tmp 1) 22 22 ⟨gx0q12b0, 0, none⟩ (.slice Ax1v0 x1v0.length cx1v0) (by kernel_rfl) (by kernel_rfl) (Fc.here ⟨((p2.mem 2 rfl).cell 0 _ rfl), ((p2.mem 1 rfl).cell 0 _ rfl), trivial⟩) (by kernel_rfl) (by kernel_rfl) (fun _ h => h.2.at_ 1 rfl) ?_
          obtain ⟨g5, h⟩ := guard_some h
          refine AnyG.ixR (i := 9) 22 (.tmp 22) (.const (.int .i64 0)) 23 0 35 .i64 0 (fx1v0.ext z2) (by kernel_rfl) (by kernel_rfl) (Fc.here ⟨((p2.mem 2 rfl).cell 0 _ rfl), ((p2.mem 1 rfl).cell 0 _ rfl), trivial⟩) (by kernel_rfl) (by kernel_rfl) (by kernel_rfl) (by kernel_rfl) (by decide) g5 ?_
          rintro a6 _ f7 rfl
          refine AnyG.ld1 (i := 10) 35 (.tmp 23) 24 35 a6 (.int .u64 (gi x1v0 0)) (by kernel_rfl) (by kernel_rfl) (Fc.here ⟨((p2.mem 2 rfl).cell 0 _ rfl), ((p2.mem 1 rfl).cell 0 _ rfl), trivial⟩) (by kernel_rfl) (by kernel_rfl) (fun _ h => f7.fc h 0 _ rfl) ?_
          refine AnyG.ld1 (i := 11) 22 (.tmp 2) 25 22 ⟨gx0q12b1, 0, none⟩ (.slice Ax2v0 x2v0.length cx2v0) (by kernel_rfl) (by kernel_rfl) (Fc.here ⟨((p2.mem 2 rfl).cell 0 _ rfl), ((p2.mem 1 rfl).cell 0 _ rfl), trivial⟩) (by kernel_rfl) (by kernel_rfl) (fun _ h => h.2.at_ 0 rfl) ?_
          obtain ⟨g8, h⟩ := guard_some h
          refine AnyG.ixR (i := 12) 22 (.tmp 25) (.const (.int .i64 0)) 26 0 35 .i64 0 (fx2v0.ext z2) (by kernel_rfl) (by kernel_rfl) (Fc.here ⟨((p2.mem 2 rfl).cell 0 _ rfl), ((p2.mem 1 rfl).cell 0 _ rfl), trivial⟩) (by kernel_rfl) (by kernel_rfl) (by kernel_rfl) (by kernel_rfl) (by decide) g8 ?_
          rintro a9 _ f10 rfl
          refine AnyG.ld1 (i := 13) 35 (.tmp 26) 27 35 a9 (.int .u64 (gi x2v0 0)) (by kernel_rfl) (by kernel_rfl) (Fc.here ⟨((p2.mem 2 rfl).cell 0 _ rfl), ((p2.mem 1 rfl).cell 0 _ rfl), trivial⟩) (by kernel_rfl) (by kernel_rfl) (fun _ h => f10.fc h 0 _ rfl) ?_
          refine AnyG.pure (i := 14) (.binOp .leq 35 (.tmp 24) (.tmp 27) 35) 28 4 (.bool (decide (gi x1v0 0 ≤ gi x2v0 0))) (by kernel_rfl) (by kernel_rfl) (by kernel_rfl) (Fc.here ⟨((p2.mem 2 rfl).cell 0 _ rfl), ((p2.mem 1 rfl).cell 0 _ rfl), trivial⟩) ?_
          refine AnyG.pure (i := 15) (.pick (.tmp 21) (.tmp 28) (.const (.bool false))) 29 4 (.bool (decide (gi x1v0 0 ≤ gi x2v0 0))) (by kernel_rfl) (by kernel_rfl) (by kernel_rfl) (Fc.here ⟨((p2.mem 2 rfl).cell 0 _ rfl), ((p2.mem 1 rfl).cell 0 _ rfl), trivial⟩) ?_
          refine AnyG.pure (i := 16) (.pick (.tmp 17) (.const (.bool true)) (.tmp 29)) 30 4 (.bool (decide (gi x1v0 0 ≤ gi x2v0 0))) (by kernel_rfl) (by kernel_rfl) (by kernel_rfl) (Fc.here ⟨((p2.mem 2 rfl).cell 0 _ rfl), ((p2.mem 1 rfl).cell 0 _ rfl), trivial⟩) ?_
          refine AnyG.done (by kernel_rfl) ?_ _
          exact Goes.jump 73 [(0, yieldV lx0), (1, .pointer (some ⟨gx0q12b0, 0, none⟩)), (2, .pointer (some ⟨gx0q12b1, 0, none⟩)), (4, .int .i64 0), (30, .bool (decide (gi x1v0 0 ≤ gi x2v0 0)))] (by kernel_rfl) (ih_post_merge_uint64_1_3_l2 _ _ h _ _ (hx.trans z2) Ax1v0 cx1v0 Ax2v0 cx2v0 GeE2v0 ceE2v0 cseE2v0 p2 (fx1v0.ext z2) (fx2v0.ext z2) (feE2v0.ext z2))
        · rw [if_neg h4] at h
          rw [decide_eq_false h4]
          refine AnyG.skip1 (i := 8) 22 (by kernel_rfl) (by kernel_rfl) (Fc.here ⟨((p2.mem 2 rfl).cell 0 _ rfl), ((p2.mem 1 rfl).cell 0 _ rfl), trivial⟩) ?_
          refine AnyG.skip1 (i := 9) 23 (by kernel_rfl) (by kernel_rfl) (Fc.here ⟨((p2.mem 2 rfl).cell 0 _ rfl), ((p2.mem 1 rfl).cell 0 _ rfl), trivial⟩) ?_
          refine AnyG.skip1 (i := 10) 24 (by kernel_rfl) (by kernel_rfl) (Fc.here ⟨((p2.mem 2 rfl).cell 0 _ rfl), ((p2.mem 1 rfl).cell 0 _ rfl), trivial⟩) ?_
          refine AnyG.skip1 (i := 11) 25 (by kernel_rfl) (by kernel_rfl) (Fc.here ⟨((p2.mem 2 rfl).cell 0 _ rfl), ((p2.mem 1 rfl).cell 0 _ rfl), trivial⟩) ?_
          refine AnyG.skip1 (i := 12) 26 (by kernel_rfl) (by kernel_rfl) (Fc.here ⟨((p2.mem 2 rfl).cell 0 _ rfl), ((p2.mem 1 rfl).cell 0 _ rfl), trivial⟩) ?_
          refine AnyG.skip1 (i := 13) 27 (by kernel_rfl) (by kernel_rfl) (Fc.here ⟨((p2.mem 2 rfl).cell 0 _ rfl), ((p2.mem 1 rfl).cell 0 _ rfl), trivial⟩) ?_
          refine AnyG.skip1 (i := 14) 28 (by kernel_rfl) (by kernel_rfl) (Fc.here ⟨((p2.mem 2 rfl).cell 0 _ rfl), ((p2.mem 1 rfl).cell 0 _ rfl), trivial⟩) ?_
          refine AnyG.pure (i := 15) (.pick (.tmp 21) (.tmp 28) (.const (.bool false))) 29 4 (.bool false) (by kernel_rfl) (by kernel_rfl) (by kernel_rfl) (Fc.here ⟨((p2.mem 2 rfl).cell 0 _ rfl), ((p2.mem 1 rfl).cell 0 _ rfl), trivial⟩) ?_
          refine AnyG.pure (i := 16) (.pick (.tmp 17) (.const (.bool true)) (.tmp 29)) 30 4 (.bool false) (by kernel_rfl) (by kernel_rfl) (by kernel_rfl) (Fc.here ⟨((p2.mem 2 rfl).cell 0 _ rfl), ((p2.mem 1 rfl).cell 0 _ rfl), trivial⟩) ?_
          refine AnyG.done (by kernel_rfl) ?_ _
          exact Goes.jump 73 [(0, yieldV lx0), (1, .pointer (some ⟨gx0q12b0, 0, none⟩)), (2, .pointer (some ⟨gx0q12b1, 0, none⟩)), (4, .int .i64 0), (30, .bool false)] (by kernel_rfl) (ih_post_merge_uint64_1_3_l2 _ _ h _ _ (hx.trans z2) Ax1v0 cx1v0 Ax2v0 cx2v0 GeE2v0 ceE2v0 cseE2v0 p2 (fx1v0.ext z2) (fx2v0.ext z2) (feE2v0.ext z2))
    · rw [if_neg h2] at h
      have h2' : x13 = false := by simpa using h2
      rw [h2']
      refine Goes.runs 2 [] [] (by kernel_rfl) ?_
      have p1 := p1.front 2 _ rfl
      have p1 := p1.front 2 _ rfl
      have p1 := p1.front 4 _ rfl
      have p1 := p1.front 4 _ rfl
      have p1 := p1.front 4 _ rfl
      have p1 := p1.front 5 _ rfl
      obtain rfl := Option.some.inj h
      exact Goes.end_ (fn := Try.f68) (by kernel_rfl) (v := .tuple #[]) (by kernel_rfl) ⟨S1, GeE2v0, ceE2v0, cseE2v0, Ax1v0, cx1v0, Ax2v0, cx2v0, rfl, hx, p1, feE2v0, fx1v0, fx2v0⟩
  · intro rec_post_merge_uint64_1_3_l3 ih_post_merge_uint64_1_3_l3 ⟨x1v0, x2v0, x4, x30, eE2v0⟩ r h S1 w1 hx Ax1v0 cx1v0 Ax2v0 cx2v0 GeE2v0 ceE2v0 cseE2v0 p1 fx1v0 fx2v0 feE2v0 junk
    dsimp only at h
    by_cases h11 : x30 = true
    · rw [if_pos h11] at h
      rw [h11]
      refine Goes.runs 6 [(31, .int .i64 x4), (32, .int .i64 (ior .i64 x4 1)), (4, .int .i64 (ior .i64 x4 1))] [.code (sub [0, 0, 1, 0, 1, 1] B68), .inBlock 1, .inLoop (sub [0, 0] B68), .inBlock 0] (by kernel_rfl) ?_
      exact Goes.jump 73 [(0, yieldV lx0), (1, .pointer (some ⟨gx0q12b0, 0, none⟩)), (2, .pointer (some ⟨gx0q12b1, 0, none⟩)), (4, .int .i64 (ior .i64 x4 1))] (by kernel_rfl) (ih_post_merge_uint64_1_3_l3 _ _ h _ _ hx Ax1v0 cx1v0 Ax2v0 cx2v0 GeE2v0 ceE2v0 cseE2v0 p1 fx1v0 fx2v0 feE2v0)
    · rw [if_neg h11] at h
      have h11' : x30 = false := by simpa using h11
      rw [h11']
      refine Goes.runs 2 [] [.code (sub [0, 0, 1, 0, 1, 1] B68), .inBlock 1, .inLoop (sub [0, 0] B68), .inBlock 0] (by kernel_rfl) ?_
      exact Goes.jump 73 [(0, yieldV lx0), (1, .pointer (some ⟨gx0q12b0, 0, none⟩)), (2, .pointer (some ⟨gx0q12b1, 0, none⟩)), (4, .int .i64 x4)] (by kernel_rfl) (ih_post_merge_uint64_1_3_l3 _ _ h _ _ hx Ax1v0 cx1v0 Ax2v0 cx2v0 GeE2v0 ceE2v0 cseE2v0 p1 fx1v0 fx2v0 feE2v0)
  · intro rec_post_merge_uint64_1_3_l4 ih_post_merge_uint64_1_3_l4 ⟨x1v0, x2v0, x4, eE2v0⟩ r h S1 w1 hx Ax1v0 cx1v0 Ax2v0 cx2v0 GeE2v0 ceE2v0 cseE2v0 p1 fx1v0 fx2v0 feE2v0 junk
    dsimp only at h
    refine Goes.runs 2 [] [.code (sub [0, 0, 1, 0, 1, 1, 0, 0] B68), .code (sub [0, 0, 1, 0, 1, 1, 0, 1] B68), .code (sub [0, 0, 1, 0, 1, 1, 1] B68), .inBlock 1, .inLoop (sub [0, 0] B68), .inBlock 0] (by kernel_rfl) ?_
    have z3 : Ext S1 w1 S1 (w1).drew := Ext.draw
    have p3 := p1.draw
    refine Goes.drawn (s := []) (F := Fc S1 (w1).drew [(⟨gx0q12b0, 0, none⟩, .slice Ax1v0 x1v0.length cx1v0), (⟨gx0q12b1, 0, none⟩, .slice Ax2v0 x2v0.length cx2v0)]) 4 17 (by kernel_rfl) (by kernel_rfl) (by kernel_rfl) (by kernel_rfl) ?_
    generalize (w1).drew = w3 at z3 p3 ⊢
    refine AnyG.ld1 (i := 0) 22 (.tmp 1) 33 22 ⟨gx0q12b0, 0, none⟩ (.slice Ax1v0 x1v0.length cx1v0) (by kernel_rfl) (by kernel_rfl) (Fc.here ⟨((p3.mem 1 rfl).cell 0 _ rfl), ((p3.mem 2 rfl).cell 0 _ rfl), trivial⟩) (by kernel_rfl) (by kernel_rfl) (fun _ h => h.2.at_ 0 rfl) ?_
    refine AnyG.pure (i := 1) (.call { callee := .builtin .len, args := #[(.tmp 33)], argTypes := #[22] }) 34 3 (.int .i64 (x1v0.length : Int)) (by kernel_rfl) (by kernel_rfl) (by kernel_rfl) (Fc.here ⟨((p3.mem 1 rfl).cell 0 _ rfl), ((p3.mem 2 rfl).cell 0 _ rfl), trivial⟩) ?_
    refine AnyG.pure (i := 2) (.binOp .eql 3 (.tmp 34) (.const (.int .i64 0)) 3) 35 4 (.bool (decide ((x1v0.length : Int) = 0))) (by kernel_rfl) (by kernel_rfl) (by kernel_rfl) (Fc.here ⟨((p3.mem 1 rfl).cell 0 _ rfl), ((p3.mem 2 rfl).cell 0 _ rfl), trivial⟩) ?_
    refine AnyG.pure (i := 3) (.move (.tmp 35)) 36 4 (.bool (decide ((x1v0.length : Int) = 0))) (by kernel_rfl) (by kernel_rfl) (by kernel_rfl) (Fc.here ⟨((p3.mem 1 rfl).cell 0 _ rfl), ((p3.mem 2 rfl).cell 0 _ rfl), trivial⟩) ?_
    by_cases h12 : (x1v0.length : Int) = 0
    · rw [if_pos h12] at h
      rw [decide_eq_true h12]
      refine AnyG.skip1 (i := 4) 37 (by kernel_rfl) (by kernel_rfl) (Fc.here ⟨((p3.mem 1 rfl).cell 0 _ rfl), ((p3.mem 2 rfl).cell 0 _ rfl), trivial⟩) ?_
      refine AnyG.skip1 (i := 5) 38 (by kernel_rfl) (by kernel_rfl) (Fc.here ⟨((p3.mem 1 rfl).cell 0 _ rfl), ((p3.mem 2 rfl).cell 0 _ rfl), trivial⟩) ?_
      refine AnyG.skip1 (i := 6) 39 (by kernel_rfl) (by kernel_rfl) (Fc.here ⟨((p3.mem 1 rfl).cell 0 _ rfl), ((p3.mem 2 rfl).cell 0 _ rfl), trivial⟩) ?_
      refine AnyG.skip1 (i := 7) 40 (by kernel_rfl) (by kernel_rfl) (Fc.here ⟨((p3.mem 1 rfl).cell 0 _ rfl), ((p3.mem 2 rfl).cell 0 _ rfl), trivial⟩) ?_
      refine AnyG.skip1 (i := 8) 41 (by kernel_rfl) (by kernel_rfl) (Fc.here ⟨((p3.mem 1 rfl).cell 0 _ rfl), ((p3.mem 2 rfl).cell 0 _ rfl), trivial⟩) ?_
      refine AnyG.skip1 (i := 9) 42 (by kernel_rfl) (by kernel_rfl) (Fc.here ⟨((p3.mem 1 rfl).cell 0 _ rfl), ((p3.mem 2 rfl).cell 0 _ rfl), trivial⟩) ?_
      refine AnyG.skip1 (i := 10) 43 (by kernel_rfl) (by kernel_rfl) (Fc.here ⟨((p3.mem 1 rfl).cell 0 _ rfl), ((p3.mem 2 rfl).cell 0 _ rfl), trivial⟩) ?_
      refine AnyG.skip1 (i := 11) 44 (by kernel_rfl) (by kernel_rfl) (Fc.here ⟨((p3.mem 1 rfl).cell 0 _ rfl), ((p3.mem 2 rfl).cell 0 _ rfl), trivial⟩) ?_
      refine AnyG.skip1 (i := 12) 45 (by kernel_rfl) (by kernel_rfl) (Fc.here ⟨((p3.mem 1 rfl).cell 0 _ rfl), ((p3.mem 2 rfl).cell 0 _ rfl), trivial⟩) ?_
      refine AnyG.skip1 (i := 13) 46 (by kernel_rfl) (by kernel_rfl) (Fc.here ⟨((p3.mem 1 rfl).cell 0 _ rfl), ((p3.mem 2 rfl).cell 0 _ rfl), trivial⟩) ?_
      refine AnyG.skip1 (i := 14) 47 (by kernel_rfl) (by kernel_rfl) (Fc.here ⟨((p3.mem 1 rfl).cell 0 _ rfl), ((p3.mem 2 rfl).cell 0 _ rfl), trivial⟩) ?_
      refine AnyG.skip1 (i := 15) 48 (by kernel_rfl) (by kernel_rfl) (Fc.here ⟨((p3.mem 1 rfl).cell 0 _ rfl), ((p3.mem 2 rfl).cell 0 _ rfl), trivial⟩) ?_
      refine AnyG.pure (i := 16) (.pick (.tmp 36) (.const (.bool true)) (.tmp 48)) 49 4 (.bool true) (by kernel_rfl) (by kernel_rfl) (by kernel_rfl) (Fc.here ⟨((p3.mem 1 rfl).cell 0 _ rfl), ((p3.mem 2 rfl).cell 0 _ rfl), trivial⟩) ?_
      refine AnyG.done (by kernel_rfl) ?_ _
      exact Goes.jump 73 [(0, yieldV lx0), (1, .pointer (some ⟨gx0q12b0, 0, none⟩)), (2, .pointer (some ⟨gx0q12b1, 0, none⟩)), (4, .int .i64 x4), (49, .bool true)] (by kernel_rfl) (ih_post_merge_uint64_1_3_l4 _ _ h _ _ (hx.trans z3) Ax1v0 cx1v0 Ax2v0 cx2v0 GeE2v0 ceE2v0 cseE2v0 p3 (fx1v0.ext z3) (fx2v0.ext z3) (feE2v0.ext z3))
    · rw [if_neg h12] at h
      rw [decide_eq_false h12]
      refine AnyG.ld1 (i := 4) 22 (.tmp 2) 37 22 ⟨gx0q12b1, 0, none⟩ (.slice Ax2v0 x2v0.length cx2v0) (by kernel_rfl) (by kernel_rfl) (Fc.here ⟨((p3.mem 1 rfl).cell 0 _ rfl), ((p3.mem 2 rfl).cell 0 _ rfl), trivial⟩) (by kernel_rfl) (by kernel_rfl) (fun _ h => h.2.at_ 1 rfl) ?_
      refine AnyG.pure (i := 5) (.call { callee := .builtin .len, args := #[(.tmp 37)], argTypes := #[22] }) 38 3 (.int .i64 (x2v0.length : Int)) (by kernel_rfl) (by kernel_rfl) (by kernel_rfl) (Fc.here ⟨((p3.mem 1 rfl).cell 0 _ rfl), ((p3.mem 2 rfl).cell 0 _ rfl), trivial⟩) ?_
      refine AnyG.pure (i := 6) (.binOp .gtr 3 (.tmp 38) (.const (.int .i64 0)) 3) 39 4 (.bool (decide ((x2v0.length : Int) > 0))) (by kernel_rfl) (by kernel_rfl) (by kernel_rfl) (Fc.here ⟨((p3.mem 1 rfl).cell 0 _ rfl), ((p3.mem 2 rfl).cell 0 _ rfl), trivial⟩) ?_
      refine AnyG.pure (i := 7) (.move (.tmp 39)) 40 4 (.bool (decide ((x2v0.length : Int) > 0))) (by kernel_rfl) (by kernel_rfl) (by kernel_rfl) (Fc.here ⟨((p3.mem 1 rfl).cell 0 _ rfl), ((p3.mem 2 rfl).cell 0 _ rfl), trivial⟩) ?_
      by_cases h13 : (x2v0.length : Int) > 0
      · rw [if_pos h13] at h
        rw [decide_eq_true h13]
        refine AnyG.ld1 (i := 8) 22 (.tmp 2) 41 22 ⟨gx0q12b1, 0, none⟩ (.slice Ax2v0 x2v0.length cx2v0) (by kernel_rfl) (by kernel_rfl) (Fc.here ⟨((p3.mem 1 rfl).cell 0 _ rfl), ((p3.mem 2 rfl).cell 0 _ rfl), trivial⟩) (by kernel_rfl) (by kernel_rfl) (fun _ h => h.2.at_ 1 rfl) ?_
        obtain ⟨g14, h⟩ := guard_some h
        refine AnyG.ixR (i := 9) 22 (.tmp 41) (.const (.int .i64 0)) 42 0 35 .i64 0 (fx2v0.ext z3) (by kernel_rfl) (by kernel_rfl) (Fc.here ⟨((p3.mem 1 rfl).cell 0 _ rfl), ((p3.mem 2 rfl).cell 0 _ rfl), trivial⟩) (by kernel_rfl) (by kernel_rfl) (by kernel_rfl) (by kernel_rfl) (by decide) g14 ?_
        rintro a15 _ f16 rfl
        refine AnyG.ld1 (i := 10) 35 (.tmp 42) 43 35 a15 (.int .u64 (gi x2v0 0)) (by kernel_rfl) (by kernel_rfl) (Fc.here ⟨((p3.mem 1 rfl).cell 0 _ rfl), ((p3.mem 2 rfl).cell 0 _ rfl), trivial⟩) (by kernel_rfl) (by kernel_rfl) (fun _ h => f16.fc h 0 _ rfl) ?_
        refine AnyG.ld1 (i := 11) 22 (.tmp 1) 44 22 ⟨gx0q12b0, 0, none⟩ (.slice Ax1v0 x1v0.length cx1v0) (by kernel_rfl) (by kernel_rfl) (Fc.here ⟨((p3.mem 1 rfl).cell 0 _ rfl), ((p3.mem 2 rfl).cell 0 _ rfl), trivial⟩) (by kernel_rfl) (by kernel_rfl) (fun _ h => h.2.at_ 0 rfl) ?_
        obtain ⟨g17, h⟩ := guard_some h
        refine AnyG.ixR (i := 12) 22 (.tmp 44) (.const (.int .i64 0)) 45 0 35 .i64 0 (fx1v0.ext z3) (by kernel_rfl) (by kernel_rfl) (Fc.here ⟨((p3.mem 1 rfl).cell 0 _ rfl), ((p3.mem 2 rfl).cell 0 _ rfl), trivial⟩) (by kernel_rfl) (by kernel_rfl) (by kernel_rfl) (by kernel_rfl) (by decide) g17 ?_
        rintro a18 _ f19 rfl
        refine AnyG.ld1 (i := 13) 35 (.tmp 45) 46 35 a18 (.int .u64 (gi x1v0 0)) (by kernel_rfl) (by kernel_rfl) (Fc.here ⟨((p3.mem 1 rfl).cell 0 _ rfl), ((p3.mem 2 rfl).cell 0 _ rfl), trivial⟩) (by kernel_rfl) (by kernel_rfl) (fun _ h => f19.fc h 0 _ rfl) ?_
        refine AnyG.pure (i := 14) (.binOp .leq 35 (.tmp 43) (.tmp 46) 35) 47 4 (.bool (decide (gi x2v0 0 ≤ gi x1v0 0))) (by kernel_rfl) (by kernel_rfl) (by kernel_rfl) (Fc.here ⟨((p3.mem 1 rfl).cell 0 _ rfl), ((p3.mem 2 rfl).cell 0 _ rfl), trivial⟩) ?_
        refine AnyG.pure (i := 15) (.pick (.tmp 40) (.tmp 47) (.const (.bool false))) 48 4 (.bool (decide (gi x2v0 0 ≤ gi x1v0 0))) (by kernel_rfl) (by kernel_rfl) (by kernel_rfl) (Fc.here ⟨((p3.mem 1 rfl).cell 0 _ rfl), ((p3.mem 2 rfl).cell 0 _ rfl), trivial⟩) ?_
        refine AnyG.pure (i := 16) (.pick (.tmp 36) (.const (.bool true)) (.tmp 48)) 49 4 (.bool (decide (gi x2v0 0 ≤ gi x1v0 0))) (by kernel_rfl) (by kernel_rfl) (by kernel_rfl) (Fc.here ⟨((p3.mem 1 rfl).cell 0 _ rfl), ((p3.mem 2 rfl).cell 0 _ rfl), trivial⟩) ?_
        refine AnyG.done (by kernel_rfl) ?_ _
        exact Goes.jump 73 [(0, yieldV lx0), (1, .pointer (some ⟨gx0q12b0, 0, none⟩)), (2, .pointer (some ⟨gx0q12b1, 0, none⟩)), (4, .int .i64 x4), (49, .bool (decide (gi x2v0 0 ≤ gi x1v0 0)))] (by kernel_rfl) (ih_post_merge_uint64_1_3_l4 _ _ h _ _ (hx.trans z3) Ax1v0 cx1v0 Ax2v0 cx2v0 GeE2v0 ceE2v0 cseE2v0 p3 (fx1v0.ext z3) (fx2v0.ext z3) (feE2v0.ext z3))
      · rw [if_neg h13] at h
        rw [decide_eq_false h13]
        refine AnyG.skip1 (i := 8) 41 (by kernel_rfl) (by kernel_rfl) (Fc.here ⟨((p3.mem 1 rfl).cell 0 _ rfl), ((p3.mem 2 rfl).cell 0 _ rfl), trivial⟩) ?_
        refine AnyG.skip1 (i := 9) 42 (by kernel_rfl) (by kernel_rfl) (Fc.here ⟨((p3.mem 1 rfl).cell 0 _ rfl), ((p3.mem 2 rfl).cell 0 _ rfl), trivial⟩) ?_
        refine AnyG.skip1 (i := 10) 43 (by kernel_rfl) (by kernel_rfl) (Fc.here ⟨((p3.mem 1 rfl).cell 0 _ rfl), ((p3.mem 2 rfl).cell 0 _ rfl), trivial⟩) ?_
        refine AnyG.skip1 (i := 11) 44 (by kernel_rfl) (by kernel_rfl) (Fc.here ⟨((p3.mem 1 rfl).cell 0 _ rfl), ((p3.mem 2 rfl).cell 0 _ rfl), trivial⟩) ?_
        refine AnyG.skip1 (i := 12) 45 (by kernel_rfl) (by kernel_rfl) (Fc.here ⟨((p3.mem 1 rfl).cell 0 _ rfl), ((p3.mem 2 rfl).cell 0 _ rfl), trivial⟩) ?_
        refine AnyG.skip1 (i := 13) 46 (by kernel_rfl) (by kernel_rfl) (Fc.here ⟨((p3.mem 1 rfl).cell 0 _ rfl), ((p3.mem 2 rfl).cell 0 _ rfl), trivial⟩) ?_
        refine AnyG.skip1 (i := 14) 47 (by kernel_rfl) (by kernel_rfl) (Fc.here ⟨((p3.mem 1 rfl).cell 0 _ rfl), ((p3.mem 2 rfl).cell 0 _ rfl), trivial⟩) ?_
        refine AnyG.pure (i := 15) (.pick (.tmp 40) (.tmp 47) (.const (.bool false))) 48 4 (.bool false) (by kernel_rfl) (by kernel_rfl) (by kernel_rfl) (Fc.here ⟨((p3.mem 1 rfl).cell 0 _ rfl), ((p3.mem 2 rfl).cell 0 _ rfl), trivial⟩) ?_
        refine AnyG.pure (i := 16) (.pick (.tmp 36) (.const (.bool true)) (.tmp 48)) 49 4 (.bool false) (by kernel_rfl) (by kernel_rfl) (by kernel_rfl) (Fc.here ⟨((p3.mem 1 rfl).cell 0 _ rfl), ((p3.mem 2 rfl).cell 0 _ rfl), trivial⟩) ?_
        refine AnyG.done (by kernel_rfl) ?_ _
        exact Goes.jump 73 [(0, yieldV lx0), (1, .pointer (some ⟨gx0q12b0, 0, none⟩)), (2, .pointer (some ⟨gx0q12b1, 0, none⟩)), (4, .int .i64 x4), (49, .bool false)] (by kernel_rfl) (ih_post_merge_uint64_1_3_l4 _ _ h _ _ (hx.trans z3) Ax1v0 cx1v0 Ax2v0 cx2v0 GeE2v0 ceE2v0 cseE2v0 p3 (fx1v0.ext z3) (fx2v0.ext z3) (feE2v0.ext z3))
  · intro rec_post_merge_uint64_1_3_l5 ih_post_merge_uint64_1_3_l5 ⟨x1v0, x2v0, x4, x49, eE2v0⟩ r h S1 w1 hx Ax1v0 cx1v0 Ax2v0 cx2v0 GeE2v0 ceE2v0 cseE2v0 p1 fx1v0 fx2v0 feE2v0 junk
    dsimp only at h
    by_cases h20 : x49 = true
    · rw [if_pos h20] at h
      rw [h20]
      refine Goes.runs 6 [(50, .int .i64 x4), (51, .int .i64 (ior .i64 x4 2)), (4, .int .i64 (ior .i64 x4 2))] [.code (sub [0, 0, 1, 0, 1, 1, 1] B68), .inBlock 1, .inLoop (sub [0, 0] B68), .inBlock 0] (by kernel_rfl) ?_
      exact Goes.jump 73 [(0, yieldV lx0), (1, .pointer (some ⟨gx0q12b0, 0, none⟩)), (2, .pointer (some ⟨gx0q12b1, 0, none⟩)), (4, .int .i64 (ior .i64 x4 2))] (by kernel_rfl) (ih_post_merge_uint64_1_3_l5 _ _ h _ _ hx Ax1v0 cx1v0 Ax2v0 cx2v0 GeE2v0 ceE2v0 cseE2v0 p1 fx1v0 fx2v0 feE2v0)
    · rw [if_neg h20] at h
      have h20' : x49 = false := by simpa using h20
      rw [h20']
      refine Goes.runs 2 [] [.code (sub [0, 0, 1, 0, 1, 1, 1] B68), .inBlock 1, .inLoop (sub [0, 0] B68), .inBlock 0] (by kernel_rfl) ?_
      exact Goes.jump 73 [(0, yieldV lx0), (1, .pointer (some ⟨gx0q12b0, 0, none⟩)), (2, .pointer (some ⟨gx0q12b1, 0, none⟩)), (4, .int .i64 x4)] (by kernel_rfl) (ih_post_merge_uint64_1_3_l5 _ _ h _ _ hx Ax1v0 cx1v0 Ax2v0 cx2v0 GeE2v0 ceE2v0 cseE2v0 p1 fx1v0 fx2v0 feE2v0)
  · intro rec_post_merge_uint64_1_3_l6 ih_post_merge_uint64_1_3_l6 ⟨x1v0, x2v0, x4, eE2v0⟩ r h S1 w1 hx Ax1v0 cx1v0 Ax2v0 cx2v0 GeE2v0 ceE2v0 cseE2v0 p1 fx1v0 fx2v0 feE2v0 junk
    dsimp only at h
    refine Goes.runs 11 [(5, .int .u64 0), (52, .int .i64 x4), (53, .int .i64 (iand .i64 x4 2)), (54, .bool (!(decide (iand .i64 x4 2 = 0))))] [.code (sub [0, 0, 1, 0, 1, 1, 1, 1, 0, 1] B68), .code (sub [0, 0, 1, 0, 1, 1, 1, 1, 1] B68), .inBlock 1, .inLoop (sub [0, 0] B68), .inBlock 0] (by kernel_rfl) ?_
    by_cases h21 : iand .i64 x4 2 = 0
    · rw [if_pos h21] at h
      rw [decide_eq_true h21]
      refine Goes.runs 2 [] [.code (sub [0, 0, 1, 0, 1, 1, 1, 1, 1] B68), .inBlock 1, .inLoop (sub [0, 0] B68), .inBlock 0] (by kernel_rfl) ?_
      exact Goes.jump 73 [(0, yieldV lx0), (1, .pointer (some ⟨gx0q12b0, 0, none⟩)), (2, .pointer (some ⟨gx0q12b1, 0, none⟩)), (4, .int .i64 x4), (5, .int .u64 0)] (by kernel_rfl) (ih_post_merge_uint64_1_3_l6 _ _ h _ _ hx Ax1v0 cx1v0 Ax2v0 cx2v0 GeE2v0 ceE2v0 cseE2v0 p1 fx1v0 fx2v0 feE2v0)
    · rw [if_neg h21] at h
      rw [decide_eq_false h21]
      refine Goes.runs 1 [] [.code (sub [0, 0, 1, 0, 1, 1, 1, 1, 0, 1, 0] B68), .code (sub [0, 0, 1, 0, 1, 1, 1, 1, 1] B68), .inBlock 1, .inLoop (sub [0, 0] B68), .inBlock 0] (by kernel_rfl) ?_
      have z4 : Ext S1 w1 S1 (w1).drew := Ext.draw
      have p4 := p1.draw
      refine Goes.drawn (s := [6]) (F := Fc S1 (w1).drew [(⟨gx0q12b1, 0, none⟩, .slice Ax2v0 x2v0.length cx2v0)]) 8 7 (by kernel_rfl) (by kernel_rfl) (by kernel_rfl) (by kernel_rfl) ?_
      generalize (w1).drew = w4 at z4 p4 ⊢
      refine AnyG.ld1 (i := 0) 22 (.tmp 2) 55 22 ⟨gx0q12b1, 0, none⟩ (.slice Ax2v0 x2v0.length cx2v0) (by kernel_rfl) (by kernel_rfl) (Fc.here ⟨((p4.mem 2 rfl).cell 0 _ rfl), trivial⟩) (by kernel_rfl) (by kernel_rfl) (fun _ h => h.2.at_ 0 rfl) ?_
      obtain ⟨g22, h⟩ := guard_some h
      refine AnyG.ixR (i := 1) 22 (.tmp 55) (.const (.int .i64 0)) 56 0 35 .i64 0 (fx2v0.ext z4) (by kernel_rfl) (by kernel_rfl) (Fc.here ⟨((p4.mem 2 rfl).cell 0 _ rfl), trivial⟩) (by kernel_rfl) (by kernel_rfl) (by kernel_rfl) (by kernel_rfl) (by decide) g22 ?_
      rintro a23 _ f24 rfl
      refine AnyG.ld1 (i := 2) 35 (.tmp 56) 57 35 a23 (.int .u64 (gi x2v0 0)) (by kernel_rfl) (by kernel_rfl) (Fc.here ⟨((p4.mem 2 rfl).cell 0 _ rfl), trivial⟩) (by kernel_rfl) (by kernel_rfl) (fun _ h => f24.fc h 0 _ rfl) ?_
      refine AnyG.ld1 (i := 3) 22 (.tmp 2) 58 22 ⟨gx0q12b1, 0, none⟩ (.slice Ax2v0 x2v0.length cx2v0) (by kernel_rfl) (by kernel_rfl) (Fc.here ⟨((p4.mem 2 rfl).cell 0 _ rfl), trivial⟩) (by kernel_rfl) (by kernel_rfl) (fun _ h => h.2.at_ 0 rfl) ?_
      obtain ⟨g25, h⟩ := guard_some h
      refine AnyG.slR (i := 4) 22 (.tmp 58) (some (.const (.int .i64 1))) none 59 22 35 1 (x2v0.length : Int) (fx2v0.ext z4) (by kernel_rfl) (by kernel_rfl) (Fc.here ⟨((p4.mem 2 rfl).cell 0 _ rfl), trivial⟩) (by kernel_rfl) (by kernel_rfl) (by kernel_rfl) (Bnd.at_ .i64 (by kernel_rfl)) Bnd.no (by decide) g25 (Int.le_refl _) ?_
      intro A26 c27 f28
      refine AnyG.pure (i := 5) (.assign (.tmp 57)) 5 35 (.int .u64 (gi x2v0 0)) (by kernel_rfl) (by kernel_rfl) (by kernel_rfl) (Fc.here ⟨((p4.mem 2 rfl).cell 0 _ rfl), trivial⟩) ?_
      refine Op_.st 22 (.tmp 2) (.tmp 59) 0 2 gx0q12b1 0 (.slice A26 (sl x2v0 1 (x2v0.length : Int)).length c27) [.slice A26 (sl x2v0 1 (x2v0.length : Int)).length c27] p4 rfl (AnyG.ss (i := 6) (by kernel_rfl) (by kernel_rfl)) (by kernel_rfl) (by kernel_rfl) (by kernel_rfl) (by kernel_rfl) (Nat.zero_le _) (by simp only [List.length_cons, List.length_nil]; omega) (by simp [Value.oneCell']) ?_
      intro w5 z5 p5
      refine AnyG.last (by decide) ?_
      refine AnyG.done (by kernel_rfl) ?_ _
      exact Goes.jump 73 [(0, yieldV lx0), (1, .pointer (some ⟨gx0q12b0, 0, none⟩)), (2, .pointer (some ⟨gx0q12b1, 0, none⟩)), (4, .int .i64 x4), (5, .int .u64 (gi x2v0 0))] (by kernel_rfl) (ih_post_merge_uint64_1_3_l6 _ _ h _ _ ((hx.trans z4).trans z5) Ax1v0 cx1v0 A26 c27 GeE2v0 ceE2v0 cseE2v0 p5 ((fx1v0.ext z4).ext z5) (f28.ext z5) ((feE2v0.ext z4).ext z5))
  · intro rec_post_merge_uint64_1_3_l7 ih_post_merge_uint64_1_3_l7 ⟨x1v0, x2v0, x4, x5, eE2v0⟩ r h S1 w1 hx Ax1v0 cx1v0 Ax2v0 cx2v0 GeE2v0 ceE2v0 cseE2v0 p1 fx1v0 fx2v0 feE2v0 junk
    dsimp only at h
    refine Goes.runs 7 [(60, .int .i64 x4), (61, .int .i64 (iand .i64 x4 1)), (62, .bool (!(decide (iand .i64 x4 1 = 0))))] [.code (sub [0, 0, 1, 0, 1, 1, 1, 1, 1, 0, 1] B68), .code (sub [0, 0, 1, 0, 1, 1, 1, 1, 1, 1] B68), .inBlock 1, .inLoop (sub [0, 0] B68), .inBlock 0] (by kernel_rfl) ?_
    by_cases h29 : iand .i64 x4 1 = 0
    · rw [if_pos h29] at h
      rw [decide_eq_true h29]
      refine Goes.runs 2 [] [.code (sub [0, 0, 1, 0, 1, 1, 1, 1, 1, 1] B68), .inBlock 1, .inLoop (sub [0, 0] B68), .inBlock 0] (by kernel_rfl) ?_
      exact Goes.jump 73 [(0, yieldV lx0), (1, .pointer (some ⟨gx0q12b0, 0, none⟩)), (2, .pointer (some ⟨gx0q12b1, 0, none⟩)), (4, .int .i64 x4), (5, .int .u64 x5)] (by kernel_rfl) (ih_post_merge_uint64_1_3_l7 _ _ h _ _ hx Ax1v0 cx1v0 Ax2v0 cx2v0 GeE2v0 ceE2v0 cseE2v0 p1 fx1v0 fx2v0 feE2v0)
    · rw [if_neg h29] at h
      rw [decide_eq_false h29]
      refine Goes.runs 1 [] [.code (sub [0, 0, 1, 0, 1, 1, 1, 1, 1, 0, 1, 0] B68), .code (sub [0, 0, 1, 0, 1, 1, 1, 1, 1, 1] B68), .inBlock 1, .inLoop (sub [0, 0] B68), .inBlock 0] (by kernel_rfl) ?_
      have z6 : Ext S1 w1 S1 (w1).drew := Ext.draw
      have p6 := p1.draw
      refine Goes.drawn (s := [6]) (F := Fc S1 (w1).drew [(⟨gx0q12b0, 0, none⟩, .slice Ax1v0 x1v0.length cx1v0)]) 10 7 (by kernel_rfl) (by kernel_rfl) (by kernel_rfl) (by kernel_rfl) ?_
      generalize (w1).drew = w6 at z6 p6 ⊢
      refine AnyG.ld1 (i := 0) 22 (.tmp 1) 63 22 ⟨gx0q12b0, 0, none⟩ (.slice Ax1v0 x1v0.length cx1v0) (by kernel_rfl) (by kernel_rfl) (Fc.here ⟨((p6.mem 1 rfl).cell 0 _ rfl), trivial⟩) (by kernel_rfl) (by kernel_rfl) (fun _ h => h.2.at_ 0 rfl) ?_
      obtain ⟨g30, h⟩ := guard_some h
      refine AnyG.ixR (i := 1) 22 (.tmp 63) (.const (.int .i64 0)) 64 0 35 .i64 0 (fx1v0.ext z6) (by kernel_rfl) (by kernel_rfl) (Fc.here ⟨((p6.mem 1 rfl).cell 0 _ rfl), trivial⟩) (by kernel_rfl) (by kernel_rfl) (by kernel_rfl) (by kernel_rfl) (by decide) g30 ?_
      rintro a31 _ f32 rfl
      refine AnyG.ld1 (i := 2) 35 (.tmp 64) 65 35 a31 (.int .u64 (gi x1v0 0)) (by kernel_rfl) (by kernel_rfl) (Fc.here ⟨((p6.mem 1 rfl).cell 0 _ rfl), trivial⟩) (by kernel_rfl) (by kernel_rfl) (fun _ h => f32.fc h 0 _ rfl) ?_
      refine AnyG.ld1 (i := 3) 22 (.tmp 1) 66 22 ⟨gx0q12b0, 0, none⟩ (.slice Ax1v0 x1v0.length cx1v0) (by kernel_rfl) (by kernel_rfl) (Fc.here ⟨((p6.mem 1 rfl).cell 0 _ rfl), trivial⟩) (by kernel_rfl) (by kernel_rfl) (fun _ h => h.2.at_ 0 rfl) ?_
      obtain ⟨g33, h⟩ := guard_some h
      refine AnyG.slR (i := 4) 22 (.tmp 66) (some (.const (.int .i64 1))) none 67 22 35 1 (x1v0.length : Int) (fx1v0.ext z6) (by kernel_rfl) (by kernel_rfl) (Fc.here ⟨((p6.mem 1 rfl).cell 0 _ rfl), trivial⟩) (by kernel_rfl) (by kernel_rfl) (by kernel_rfl) (Bnd.at_ .i64 (by kernel_rfl)) Bnd.no (by decide) g33 (Int.le_refl _) ?_
      intro A34 c35 f36
      refine AnyG.pure (i := 5) (.assign (.tmp 65)) 5 35 (.int .u64 (gi x1v0 0)) (by kernel_rfl) (by kernel_rfl) (by kernel_rfl) (Fc.here ⟨((p6.mem 1 rfl).cell 0 _ rfl), trivial⟩) ?_
      refine Op_.st 22 (.tmp 1) (.tmp 67) 0 1 gx0q12b0 0 (.slice A34 (sl x1v0 1 (x1v0.length : Int)).length c35) [.slice A34 (sl x1v0 1 (x1v0.length : Int)).length c35] p6 rfl (AnyG.ss (i := 6) (by kernel_rfl) (by kernel_rfl)) (by kernel_rfl) (by kernel_rfl) (by kernel_rfl) (by kernel_rfl) (Nat.zero_le _) (by simp only [List.length_cons, List.length_nil]; omega) (by simp [Value.oneCell']) ?_
      intro w7 z7 p7
      refine AnyG.last (by decide) ?_
      refine AnyG.done (by kernel_rfl) ?_ _
      exact Goes.jump 73 [(0, yieldV lx0), (1, .pointer (some ⟨gx0q12b0, 0, none⟩)), (2, .pointer (some ⟨gx0q12b1, 0, none⟩)), (4, .int .i64 x4), (5, .int .u64 (gi x1v0 0))] (by kernel_rfl) (ih_post_merge_uint64_1_3_l7 _ _ h _ _ ((hx.trans z6).trans z7) A34 c35 Ax2v0 cx2v0 GeE2v0 ceE2v0 cseE2v0 p7 (f36.ext z7) ((fx2v0.ext z6).ext z7) ((feE2v0.ext z6).ext z7))
  · intro rec_post_merge_uint64_1_3_l0 ih_post_merge_uint64_1_3_l0 ⟨x1v0, x2v0, x4, x5, eE2v0⟩ r h S1 w1 hx Ax1v0 cx1v0 Ax2v0 cx2v0 GeE2v0 ceE2v0 cseE2v0 p1 fx1v0 fx2v0 feE2v0 junk
    dsimp only at h
    refine Goes.runs 5 [(68, yieldV lx0), (69, .int .u64 x5), (70, .int .i64 x4)] [.inRegion (opsOf (sub [0, 0, 1, 0, 1, 1, 1, 1, 1, 1, 0] B68)) [3, 4], .code (sub [0, 0, 1, 0, 1, 1, 1, 1, 1, 1, 1] B68), .inBlock 1, .inLoop (sub [0, 0] B68), .inBlock 0] (by kernel_rfl) ?_
    have p1 := p1.front 2 _ rfl
    have p1 := p1.front 2 _ rfl
    have p1 := p1.front 5 _ rfl
    have p1 := p1.front 5 _ rfl
    have p1 := p1.front 5 _ rfl
    have p1 := p1.front 5 _ rfl
    obtain ⟨y37, e38, h⟩ := bind_some h
    try dsimp only at h
    refine Goes.yieldAt (.call { callee := .value (.tmp 68), args := #[(.tmp 69), (.tmp 70)], argTypes := #[35, 3] }) 71 4 0 lx0 #[.int .u64 x5, .int .i64 x4] p1 rfl (by kernel_rfl) rfl (fun _ => by kernel_rfl) rfl (W.post_those_uint64__r_3 eE2v0 x1v0 x2v0 x5 x4 y37 e38 nz wz S1 w1 (Lr) lx0 rx0 jkx0 gx0q5 gx0q7 GeE2v0 ceE2v0 cseE2v0 gx0q12b0 Ax1v0 cx1v0 gx0q12b1 Ax2v0 cx2v0 p1 feE2v0 fx1v0 fx2v0) ?_
    rintro _ w8 ⟨S8, G39, c40, cs41, A45, c46, A48, c49, rfl, z8, p8, f43, f47, f50⟩
    refine Goes.runs 6 [(72, .bool (!true))] [.code (sub [0, 0] B68), .inLoop (sub [0, 0] B68), .inBlock 0] (by kernel_rfl) ?_
    have p8 := p8.front 0 _ rfl
    have p8 := p8.front 3 _ rfl
    have p8 := p8.front 3 _ rfl
    have p8 := p8.front 5 _ rfl
    have p8 := p8.front 5 _ rfl
    have p8 := p8.front 5 _ rfl
    exact Goes.jump 73 [(0, yieldV lx0), (1, .pointer (some ⟨gx0q12b0, 0, none⟩)), (2, .pointer (some ⟨gx0q12b1, 0, none⟩))] (by kernel_rfl) (ih_post_merge_uint64_1_3_l0 _ _ h _ _ (hx.trans z8) A45 c46 A48 c49 G39 c40 cs41 p8 f47 f50 f43)

theorem W.post_merge_uint64_1_3_l0 (nz : Nat) (wz : World) (S0 : Fz) (w0 : World) (Lr : List Ent) (lx0 : Nat) (rx0 : Nat) (jkx0 : Nat → Value) (gx0q5 : Nat) (gx0q7 : Nat) (gx0q12b0 : Nat) (gx0q12b1 : Nat) : ∀ a r, M.post_merge_uint64_1_3_l0 a = some r → L.post_merge_uint64_1_3_l0 nz wz S0 w0 Lr lx0 rx0 jkx0 gx0q5 gx0q7 gx0q12b0 gx0q12b1 a r := (W.post_merge_uint64_1_3_l0_all nz wz S0 w0 Lr lx0 rx0 jkx0 gx0q5 gx0q7 gx0q12b0 gx0q12b1).1

theorem W.post_merge_uint64_1_3_l1 (nz : Nat) (wz : World) (S0 : Fz) (w0 : World) (Lr : List Ent) (lx0 : Nat) (rx0 : Nat) (jkx0 : Nat → Value) (gx0q5 : Nat) (gx0q7 : Nat) (gx0q12b0 : Nat) (gx0q12b1 : Nat) : ∀ a r, M.post_merge_uint64_1_3_l1 a = some r → L.post_merge_uint64_1_3_l1 nz wz S0 w0 Lr lx0 rx0 jkx0 gx0q5 gx0q7 gx0q12b0 gx0q12b1 a r := (W.post_merge_uint64_1_3_l0_all nz wz S0 w0 Lr lx0 rx0 jkx0 gx0q5 gx0q7 gx0q12b0 gx0q12b1).2.1

theorem W.post_merge_uint64_1_3_l2 (nz : Nat) (wz : World) (S0 : Fz) (w0 : World) (Lr : List Ent) (lx0 : Nat) (rx0 : Nat) (jkx0 : Nat → Value) (gx0q5 : Nat) (gx0q7 : Nat) (gx0q12b0 : Nat) (gx0q12b1 : Nat) : ∀ a r, M.post_merge_uint64_1_3_l2 a = some r → L.post_merge_uint64_1_3_l2 nz wz S0 w0 Lr lx0 rx0 jkx0 gx0q5 gx0q7 gx0q12b0 gx0q12b1 a r := (W.post_merge_uint64_1_3_l0_all nz wz S0 w0 Lr lx0 rx0 jkx0 gx0q5 gx0q7 gx0q12b0 gx0q12b1).2.2.1

theorem W.post_merge_uint64_1_3_l3 (nz : Nat) (wz : World) (S0 : Fz) (w0 : World) (Lr : List Ent) (lx0 : Nat) (rx0 : Nat) (jkx0 : Nat → Value) (gx0q5 : Nat) (gx0q7 : Nat) (gx0q12b0 : Nat) (gx0q12b1 : Nat) : ∀ a r, M.post_merge_uint64_1_3_l3 a = some r → L.post_merge_uint64_1_3_l3 nz wz S0 w0 Lr lx0 rx0 jkx0 gx0q5 gx0q7 gx0q12b0 gx0q12b1 a r := (W.post_merge_uint64_1_3_l0_all nz wz S0 w0 Lr lx0 rx0 jkx0 gx0q5 gx0q7 gx0q12b0 gx0q12b1).2.2.2.1

theorem W.post_merge_uint64_1_3_l4 (nz : Nat) (wz : World) (S0 : Fz) (w0 : World) (Lr : List Ent) (lx0 : Nat) (rx0 : Nat) (jkx0 : Nat → Value) (gx0q5 : Nat) (gx0q7 : Nat) (gx0q12b0 : Nat) (gx0q12b1 : Nat) : ∀ a r, M.post_merge_uint64_1_3_l4 a = some r → L.post_merge_uint64_1_3_l4 nz wz S0 w0 Lr lx0 rx0 jkx0 gx0q5 gx0q7 gx0q12b0 gx0q12b1 a r := (W.post_merge_uint64_1_3_l0_all nz wz S0 w0 Lr lx0 rx0 jkx0 gx0q5 gx0q7 gx0q12b0 gx0q12b1).2.2.2.2.1

theorem W.post_merge_uint64_1_3_l5 (nz : Nat) (wz : World) (S0 : Fz) (w0 : World) (Lr : List Ent) (lx0 : Nat) (rx0 : Nat) (jkx0 : Nat → Value) (gx0q5 : Nat) (gx0q7 : Nat) (gx0q12b0 : Nat) (gx0q12b1 : Nat) : ∀ a r, M.post_merge_uint64_1_3_l5 a = some r → L.post_merge_uint64_1_3_l5 nz wz S0 w0 Lr lx0 rx0 jkx0 gx0q5 gx0q7 gx0q12b0 gx0q12b1 a r := (W.post_merge_uint64_1_3_l0_all nz wz S0 w0 Lr lx0 rx0 jkx0 gx0q5 gx0q7 gx0q12b0 gx0q12b1).2.2.2.2.2.1

theorem W.post_merge_uint64_1_3_l6 (nz : Nat) (wz : World) (S0 : Fz) (w0 : World) (Lr : List Ent) (lx0 : Nat) (rx0 : Nat) (jkx0 : Nat → Value) (gx0q5 : Nat) (gx0q7 : Nat) (gx0q12b0 : Nat) (gx0q12b1 : Nat) : ∀ a r, M.post_merge_uint64_1_3_l6 a = some r → L.post_merge_uint64_1_3_l6 nz wz S0 w0 Lr lx0 rx0 jkx0 gx0q5 gx0q7 gx0q12b0 gx0q12b1 a r := (W.post_merge_uint64_1_3_l0_all nz wz S0 w0 Lr lx0 rx0 jkx0 gx0q5 gx0q7 gx0q12b0 gx0q12b1).2.2.2.2.2.2.1

theorem W.post_merge_uint64_1_3_l7 (nz : Nat) (wz : World) (S0 : Fz) (w0 : World) (Lr : List Ent) (lx0 : Nat) (rx0 : Nat) (jkx0 : Nat → Value) (gx0q5 : Nat) (gx0q7 : Nat) (gx0q12b0 : Nat) (gx0q12b1 : Nat) : ∀ a r, M.post_merge_uint64_1_3_l7 a = some r → L.post_merge_uint64_1_3_l7 nz wz S0 w0 Lr lx0 rx0 jkx0 gx0q5 gx0q7 gx0q12b0 gx0q12b1 a r := (W.post_merge_uint64_1_3_l0_all nz wz S0 w0 Lr lx0 rx0 jkx0 gx0q5 gx0q7 gx0q12b0 gx0q12b1).2.2.2.2.2.2.2

theorem W.post_merge_uint64_1_3 (x0q7v0 : List Int) (x0q12b0v0 : List Int) (x0q12b1v0 : List Int) (r : (List Int) × (List Int) × (List Int)) (h : M.post_merge_uint64_1_3 x0q7v0 x0q12b0v0 x0q12b1v0 = some r) (nz : Nat) (wz : World) (S0 : Fz) (w0 : World) (Lr : List Ent) (lx0 : Nat) (rx0 : Nat) (jkx0 : Nat → Value) (gx0q5 : Nat) (gx0q7 : Nat) (Gx0q7v0 : Option Nat) (cx0q7v0 : Nat) (csx0q7v0 : List Value) (gx0q12b0 : Nat) (Ax0q12b0v0 : Option Addr) (cx0q12b0v0 : Nat) (gx0q12b1 : Nat) (Ax0q12b1v0 : Option Addr) (cx0q12b1v0 : Nat) (p0 : Hp nz wz S0 w0 ((some lx0, .obj (lpst 58 (lfr 23 [(5, .pointer (some ⟨gx0q5, 0, none⟩)), (7, .pointer (some ⟨gx0q7, 0, none⟩)), (12, .func (.func 68) #[] #[.pointer (some ⟨gx0q12b0, 0, none⟩), .pointer (some ⟨gx0q12b1, 0, none⟩)])] jkx0) #[13, 14] (rfAssign (sub [1, 1, 0, 1, 0] B58)) (rfBody (sub [1, 1, 0, 1, 0] B58)) rx0 .ready none)) :: (some gx0q5, .row 72 [.func (.func 44) #[] #[]] 1 0) :: (some gx0q7, .row 22 [.slice (Gp Gx0q7v0) x0q7v0.length cx0q7v0] 1 0) :: (Gx0q7v0, .row 35 csx0q7v0 (cx0q7v0 * (kInt .u64).size) 0) :: (some gx0q12b0, .row 22 [.slice Ax0q12b0v0 x0q12b0v0.length cx0q12b0v0] 1 0) :: (some gx0q12b1, .row 22 [.slice Ax0q12b1v0 x0q12b1v0.length cx0q12b1v0] 1 0) :: Lr)) (fx0q7v0 : Els (kInt .u64) S0 w0 csx0q7v0 x0q7v0) (fx0q12b0v0 : Rd (kInt .u64) S0 w0 Ax0q12b0v0 cx0q12b0v0 x0q12b0v0) (fx0q12b1v0 : Rd (kInt .u64) S0 w0 Ax0q12b1v0 cx0q12b1v0 x0q12b1v0) :
    Calls Try.prog 68 #[yieldV lx0, .pointer (some ⟨gx0q12b0, 0, none⟩), .pointer (some ⟨gx0q12b1, 0, none⟩)] w0 (Rets (Post.post_merge_uint64_1_3 nz wz S0 w0 Lr lx0 rx0 jkx0 gx0q5 gx0q7 gx0q12b0 gx0q12b1 r)) := by
  refine calls_of_goes (fn := Try.f68) (c := B68) (by kernel_rfl) (by kernel_rfl) 70 (by kernel_rfl) ?_
  refine Goes.jump 73 [(0, yieldV lx0), (1, .pointer (some ⟨gx0q12b0, 0, none⟩)), (2, .pointer (some ⟨gx0q12b1, 0, none⟩))] (by kernel_rfl) (fun junk => ?_)
  delta M.post_merge_uint64_1_3 at h
  refine Goes.runs 2 [] [.code (sub [0, 0] B68), .inLoop (sub [0, 0] B68), .inBlock 0] (by kernel_rfl) ?_
  have p0 := p0.front 3 _ rfl
  have p0 := p0.front 3 _ rfl
  have p0 := p0.front 3 _ rfl
  have p0 := p0.front 5 _ rfl
  have p0 := p0.front 5 _ rfl
  have p0 := p0.front 5 _ rfl
  exact Goes.jump 73 [(0, yieldV lx0), (1, .pointer (some ⟨gx0q12b0, 0, none⟩)), (2, .pointer (some ⟨gx0q12b1, 0, none⟩))] (by kernel_rfl) (W.post_merge_uint64_1_3_l0 nz wz S0 w0 Lr lx0 rx0 jkx0 gx0q5 gx0q7 gx0q12b0 gx0q12b1 _ _ h _ _ (Ext.refl S0 w0) Ax0q12b0v0 cx0q12b0v0 Ax0q12b1v0 cx0q12b1v0 Gx0q7v0 cx0q7v0 csx0q7v0 p0 fx0q12b0v0 fx0q12b1v0 fx0q7v0)

/-! tidepole/post.those[uint64] -/
def Post.post_those_uint64_3 (nz : Nat) (wz : World) (S0 : Fz) (w0 : World) (Lr : List Ent) (r : List Int) (v : Value) (w' : World) : Prop :=
  ∃ (S' : Fz) (G1 : Option Nat) (c2 : Nat) (cs3 : List Value), v = .slice (Gp G1) r.length c2 ∧ Ext S0 w0 S' w' ∧ Hp nz wz S' w' ((G1, .row 35 cs3 (c2 * (kInt .u64).size) 0) :: Lr) ∧ Els (kInt .u64) S' w' cs3 r

theorem W.post_those_uint64_3 (x0 : List Int) (x1 : List Int) (r : List Int) (h : M.post_those_uint64_3 x0 x1 = some r) (nz : Nat) (wz : World) (S0 : Fz) (w0 : World) (Lr : List Ent) (Ax0 : Option Addr) (cx0 : Nat) (Ax1 : Option Addr) (cx1 : Nat) (p0 : Hp nz wz S0 w0 (Lr)) (fx0 : Rd (kInt .u64) S0 w0 Ax0 cx0 x0) (fx1 : Rd (kInt .u64) S0 w0 Ax1 cx1 x1) :
    Calls Try.prog 58 #[.slice Ax0 x0.length cx0, .slice Ax1 x1.length cx1, .func (.func 44) #[] #[]] w0 (Rets (Post.post_those_uint64_3 nz wz S0 w0 Lr r)) := by
  refine calls_of_goes (fn := Try.f58) (c := B58) (by kernel_rfl) (by kernel_rfl) 20 (by kernel_rfl) ?_
  refine Goes.jump 23 [(0, .slice Ax0 x0.length cx0), (1, .slice Ax1 x1.length cx1), (2, .func (.func 44) #[] #[])] (by kernel_rfl) (fun junk => ?_)
  delta M.post_those_uint64_3 at h
  refine Goes.runs 2 [] [.inRegion (opsOf (sub [0] B58)) [0, 1], .code (sub [1] B58)] (by kernel_rfl) ?_
  refine Op_.box 72 (.tmp 2) 5 0 (.func (.func 44) #[] #[]) [.func (.func 44) #[] #[]] p0 (Goes.vs (by kernel_rfl)) (by kernel_rfl) (by kernel_rfl) ?_
  intro b1 w2 z2 p2
  refine Goes.runs 4 [(6, .slice none 0 0)] [.inRegion (opsOf (sub [1, 0] B58)) [0], .code (sub [1, 1] B58)] (by kernel_rfl) ?_
  refine Op_.alloc 22 7 0 (.slice none 0 0) [.slice none 0 0] p2 (Goes.vs (by kernel_rfl)) (by kernel_rfl) (by kernel_rfl) ?_
  intro b3 w3 z3 p3
  refine Goes.runs 6 [(10, .slice Ax0 x0.length cx0), (11, .slice Ax1 x1.length cx1)] [.inRegion (opsOf (sub [1, 1, 0, 0] B58)) [2], .code (sub [1, 1, 0, 1] B58), .code (sub [1, 1, 1] B58)] (by kernel_rfl) ?_
  obtain ⟨y5, e6, h⟩ := bind_some h
  try dsimp only at h
  refine Op_.call (.call { callee := .value (.func 63), args := #[(.tmp 10), (.tmp 11)], argTypes := #[22, 22] }) 12 88 63 #[.slice Ax0 x0.length cx0, .slice Ax1 x1.length cx1] (Goes.cs (by kernel_rfl)) (by kernel_rfl) (W.post_merge_uint64 x0 x1 y5 e6 nz wz S0 w3 ((some b3, .row 22 [.slice none 0 0] 1 0) :: (some b1, .row 72 [.func (.func 44) #[] #[]] 1 0) :: Lr) Ax0 cx0 Ax1 cx1 p3 ((fx0.ext z2).ext z3) ((fx1.ext z2).ext z3)) ?_
  rintro _ w4 ⟨S4, b8, A9, c10, b13, A14, c15, rfl, z4, p4, f11, f16⟩
  refine Goes.runs 2 [] [.code (sub [1, 1, 0, 1, 0] B58), .inBlock 0, .code (sub [1, 1, 1] B58)] (by kernel_rfl) ?_
  refine Goes.jump 23 [(5, .pointer (some ⟨b1, 0, none⟩)), (7, .pointer (some ⟨b3, 0, none⟩)), (12, .func (.func 68) #[] #[.pointer (some ⟨b8, 0, none⟩), .pointer (some ⟨b13, 0, none⟩)])] (by kernel_rfl) (fun junk17 => ?_)
  refine Goes.rangeF (f := 58) (.tmp 12) #[13, 14] 68 #[] #[.pointer (some ⟨b8, 0, none⟩), .pointer (some ⟨b13, 0, none⟩)] (by kernel_rfl) (by kernel_rfl) (fun _ => by kernel_rfl) p4 ?_
  intro r18 l19 w5 z5 p5
  have p5 : Hp nz wz S4 w5 ((none, .row 35 [] (0 * (kInt .u64).size) 0) :: (some l19, .obj (lpst 58 (lfr 23 [(5, .pointer (some ⟨b1, 0, none⟩)), (7, .pointer (some ⟨b3, 0, none⟩)), (12, .func (.func 68) #[] #[.pointer (some ⟨b8, 0, none⟩), .pointer (some ⟨b13, 0, none⟩)])] junk17) #[13, 14] (rfAssign (sub [1, 1, 0, 1, 0] B58)) (rfBody (sub [1, 1, 0, 1, 0] B58)) r18 .ready none)) :: (some r18, .obj (.deferred (some []))) :: (some b8, .row 22 [.slice A9 y5.1.length c10] 1 0) :: (some b13, .row 22 [.slice A14 y5.2.length c15] 1 0) :: (some b3, .row 22 [.slice none 0 0] 1 0) :: (some b1, .row 72 [.func (.func 44) #[] #[]] 1 0) :: Lr) := p5.nilRow' 35
  have p5 := p5.front 4 _ rfl
  have p5 := p5.front 4 _ rfl
  have p5 := p5.front 2 _ rfl
  have p5 := p5.front 5 _ rfl
  have p5 := p5.front 6 _ rfl
  have p5 := p5.front 5 _ rfl
  obtain ⟨y23, e24, h⟩ := bind_some h
  try dsimp only at h
  refine ⟨_, W.post_merge_uint64_1_3 ([] : List Int) y5.1 y5.2 y23 e24 nz wz S4 w5 ((some r18, .obj (.deferred (some []))) :: Lr) l19 r18 junk17 b1 b3 none 0 [] b8 A9 c10 b13 A14 c15 p5 (Els.nil : Els (kInt .u64) S4 w5 [] []) (f11.ext z5) (f16.ext z5), ?_⟩
  rintro _ w6 ⟨S6, G25, c26, cs27, A31, c32, A34, c35, rfl, z6, p6, f29, f33, f36⟩
  refine Goes.endF 1 p6 rfl rfl ?_
  intro w7 z7 p7
  replace p7 : Hp nz wz S6 w7 ((G25, .row 35 cs27 (c26 * (kInt .u64).size) 0) :: (some b1, .row 72 [.func (.func 44) #[] #[]] 1 0) :: (some b3, .row 22 [.slice (Gp G25) y23.1.length c26] 1 0) :: (some b8, .row 22 [.slice A31 y23.2.1.length c32] 1 0) :: (some b13, .row 22 [.slice A34 y23.2.2.length c35] 1 0) :: (some r18, .obj (.deferred (some []))) :: Lr) := (p7.front 1 _ rfl).drop
  show Goes _ _ [.inBlock 0, .code (sub [1, 1, 1] B58)] _ _ _
  refine Goes.runs 3 [] [.inRegion (opsOf (sub [1, 1, 1, 0] B58)) [0, 1], .code (sub [1, 1, 1, 1] B58)] (by kernel_rfl) ?_
  refine Op_.ld1 22 (.tmp 7) 22 22 ⟨b3, 0, none⟩ (.slice (Gp G25) y23.1.length c26) (Goes.vs (by kernel_rfl)) (by kernel_rfl) (by kernel_rfl) ((p7.mem 2 rfl).cell 0 _ rfl) ?_
  refine Goes.runs 2 [(6, .slice (Gp G25) y23.1.length c26)] [.code (sub [1, 1, 1, 1] B58)] (by kernel_rfl) ?_
  have p7 := (p7.front 1 _ rfl).drop
  have p7 := (p7.front 1 _ rfl).drop
  have p7 := (p7.front 1 _ rfl).drop
  have p7 := (p7.front 1 _ rfl).drop
  have p7 := p7.front 0 _ rfl
  have p7 := p7.front 1 _ rfl
  obtain rfl := Option.some.inj h
  refine Goes.retL ?_
  refine lvs_mark 0 rfl rfl p7 rfl ?_
  intro w8 z8 p8
  replace p8 : Hp nz wz S6 w8 ((G25, .row 35 cs27 (c26 * (kInt .u64).size) 0) :: Lr) := p8.drop
  exact lvs_done (fn := Try.f58) rfl rfl rfl rfl (by kernel_rfl) (v := .slice (Gp G25) y23.1.length c26) (by kernel_rfl) ⟨S6, G25, c26, cs27, rfl, ((((((((Ext.refl S0 w0).trans z2).trans z3).trans z4).trans z5).trans z6).trans z7).trans z8), p8, ((f29.ext z7).ext z8)⟩

/-! tidepole/post.fold -/
def Post.post_fold_3 (nz : Nat) (wz : World) (S0 : Fz) (w0 : World) (Lr : List Ent) (r : (List Int) × Int) (v : Value) (w' : World) : Prop :=
  ∃ (S' : Fz) (G1 : Option Nat) (c2 : Nat) (cs3 : List Value), v = .tuple #[.slice (Gp G1) r.1.length c2, .int .i64 r.2] ∧ Ext S0 w0 S' w' ∧ Hp nz wz S' w' ((G1, .row 35 cs3 (c2 * (kInt .u64).size) 0) :: Lr) ∧ Els (kInt .u64) S' w' cs3 r.1

def L.post_fold_3_l1 (nz : Nat) (wz : World) (S0 : Fz) (w0 : World) (Lr : List Ent) : List Int × List (List Int) × Int × Int → ((List Int) × Int) → Prop := fun ⟨x9, x35, x36, x37⟩ r => ∀ S1 w1, Ext S0 w0 S1 w1 → ∀ (Gx9 : Option Nat) (cx9 : Nat) (csx9 : List Value) (Ax35 : Option Addr) (cx35 : Nat) (_ : Hp nz wz S1 w1 ((Gx9, .row 35 csx9 (cx9 * (kInt .u64).size) 0) :: Lr)) (_ : Els (kInt .u64) S1 w1 csx9 x9) (_ : Rd (kSl (kInt .u64)) S1 w1 Ax35 cx35 x35) (junk : Nat → Value),
  Goes Try.prog (base 43) [.code (sub [1, 1, 1, 1, 1, 0, 1, 0, 0] B43), .inLoop (sub [1, 1, 1, 1, 1, 0, 1, 0, 0] B43), .inBlock 2, .code (sub [1, 1, 1, 1, 1, 1] B43)] ⟨lfr 47 [(1, .func (.func 44) #[] #[]), (9, .slice (Gp Gx9) x9.length cx9), (35, .slice Ax35 x35.length cx35), (36, .int .i64 x36), (37, .int .i64 x37)] junk, []⟩ w1 (Done Try.prog 43 (Rets (Post.post_fold_3 nz wz S0 w0 Lr r)))

theorem W.post_fold_3_l1 (nz : Nat) (wz : World) (S0 : Fz) (w0 : World) (Lr : List Ent) : ∀ a r, M.post_fold_3_l1 a = some r → L.post_fold_3_l1 nz wz S0 w0 Lr a r := by
  refine M.post_fold_3_l1.partial_correctness (motive := L.post_fold_3_l1 nz wz S0 w0 Lr) ?_
  intro rec_post_fold_3_l1 ih_post_fold_3_l1 ⟨x9, x35, x36, x37⟩ r h S1 w1 hx Gx9 cx9 csx9 Ax35 cx35 p1 fx9 fx35 junk
  dsimp only at h
  refine Goes.runs 5 [(38, .bool (decide (x37 < x36)))] [.code (sub [1, 1, 1, 1, 1, 0, 1, 0, 0, 1, 0] B43), .code (sub [1, 1, 1, 1, 1, 0, 1, 0, 0, 1, 1] B43), .inLoop (sub [1, 1, 1, 1, 1, 0, 1, 0, 0] B43), .inBlock 2, .code (sub [1, 1, 1, 1, 1, 1] B43)] (by kernel_rfl) ?_
  by_cases h35 : x37 < x36
  · rw [if_pos h35] at h
    rw [decide_eq_true h35]
    refine Goes.runs 6 [] [.inRegion (opsOf (sub [1, 1, 1, 1, 1, 0, 1, 0, 0, 1, 1, 0, 0, 0] B43)) [0, 1, 2], .code (sub [1, 1, 1, 1, 1, 0, 1, 0, 0, 1, 1, 0, 0, 1] B43), .inBlock 3, .code (sub [1, 1, 1, 1, 1, 0, 1, 0, 0, 1, 1, 1] B43), .inLoop (sub [1, 1, 1, 1, 1, 0, 1, 0, 0] B43), .inBlock 2, .code (sub [1, 1, 1, 1, 1, 1] B43)] (by kernel_rfl) ?_
    obtain ⟨g36, h⟩ := guard_some h
    obtain ⟨g37, h⟩ := guard_some h
    refine Op_.ixR 38 (.tmp 35) (.tmp 37) 39 0 22 .i64 x37 fx35 (Goes.vs (by kernel_rfl)) (by kernel_rfl) (by kernel_rfl) (by kernel_rfl) (by kernel_rfl) g36 g37 ?_
    rintro a38 _ f39 ⟨A40, c41, rfl, f42⟩
    refine Op_.ld1 22 (.tmp 39) 40 22 a38 (.slice A40 (gi x35 x37).length c41) (Goes.vs (by kernel_rfl)) (by kernel_rfl) (by kernel_rfl) (f39.cell 0 _ rfl) ?_
    refine Goes.runs 6 [(11, .slice A40 (gi x35 x37).length c41), (41, .slice (Gp Gx9) x9.length cx9), (42, .slice A40 (gi x35 x37).length c41), (43, .func (.func 44) #[] #[])] [.inRegion (opsOf (sub [1, 1, 1, 1, 1, 0, 1, 0, 0, 1, 1, 0, 0, 1] B43)) [3, 4], .inBlock 3, .code (sub [1, 1, 1, 1, 1, 0, 1, 0, 0, 1, 1, 1] B43), .inLoop (sub [1, 1, 1, 1, 1, 0, 1, 0, 0] B43), .inBlock 2, .code (sub [1, 1, 1, 1, 1, 1] B43)] (by kernel_rfl) ?_
    obtain ⟨S4, z4, p4, f43⟩ := p1.freezeRd 0 rfl fx9 (by decide)
    obtain ⟨y44, e45, h⟩ := bind_some h
    try dsimp only at h
    refine Op_.call (.call { callee := .value (.func 58), args := #[(.tmp 41), (.tmp 42), (.tmp 43)], argTypes := #[22, 22, 72] }) 44 22 58 #[.slice (Gp Gx9) x9.length cx9, .slice A40 (gi x35 x37).length c41, .func (.func 44) #[] #[]] (Goes.cs (by kernel_rfl)) (by kernel_rfl) (W.post_those_uint64_3 x9 (gi x35 x37) y44 e45 nz wz S4 w1 ((Gx9, .row 35 csx9 (cx9 * (kInt .u64).size) csx9.length) :: Lr) (Gp Gx9) cx9 A40 c41 p4 f43 (f42.ext z4)) ?_
    rintro _ w5 ⟨S5, G46, c47, cs48, rfl, z5, p5, f50⟩
    have p5 := (p5.front 1 _ rfl).drop
    refine Goes.runs 8 [(9, .slice (Gp G46) y44.length c47), (45, .int .i64 (wr .i64 (x37 + 1))), (37, .int .i64 (wr .i64 (x37 + 1)))] [.code (sub [1, 1, 1, 1, 1, 0, 1, 0, 0] B43), .inLoop (sub [1, 1, 1, 1, 1, 0, 1, 0, 0] B43), .inBlock 2, .code (sub [1, 1, 1, 1, 1, 1] B43)] (by kernel_rfl) ?_
    exact Goes.jump 47 [(1, .func (.func 44) #[] #[]), (9, .slice (Gp G46) y44.length c47), (35, .slice Ax35 x35.length cx35), (36, .int .i64 x36), (37, .int .i64 (wr .i64 (x37 + 1)))] (by kernel_rfl) (ih_post_fold_3_l1 _ _ h _ _ ((hx.trans z4).trans z5) G46 c47 cs48 Ax35 cx35 p5 f50 ((fx35.ext z4).ext z5))
  · rw [if_neg h35] at h
    rw [decide_eq_false h35]
    refine Goes.runs 8 [(46, .slice (Gp Gx9) x9.length cx9), (4, .slice (Gp Gx9) x9.length cx9), (5, .int .i64 0)] [.code (sub [1, 1, 1, 1, 1, 1, 1] B43)] (by kernel_rfl) ?_
    obtain rfl := Option.some.inj h
    exact Goes.ret (fn := Try.f43) (by kernel_rfl) (v := .tuple #[.slice (Gp Gx9) x9.length cx9, .int .i64 0]) (by kernel_rfl) ⟨S1, Gx9, cx9, csx9, rfl, hx, p1, fx9⟩

def L.post_fold_3_l0 (nz : Nat) (wz : World) (S0 : Fz) (w0 : World) (Lr : List Ent) : List (List Int) × List (List Int) × Int × Int → ((List Int) × Int) → Prop := fun ⟨x0, x15, x16, x17⟩ r => ∀ S1 w1, Ext S0 w0 S1 w1 → ∀ (Ax0 : Option Addr) (cx0 : Nat) (Ax15 : Option Addr) (cx15 : Nat) (_ : Hp nz wz S1 w1 (Lr)) (_ : Rd (kSl (kInt .u64)) S1 w1 Ax0 cx0 x0) (_ : Rd (kSl (kInt .u64)) S1 w1 Ax15 cx15 x15) (junk : Nat → Value),
  Goes Try.prog (base 43) [.code (sub [1, 1, 0, 1, 0, 0] B43), .inLoop (sub [1, 1, 0, 1, 0, 0] B43), .inBlock 0, .code (sub [1, 1, 1] B43)] ⟨lfr 47 [(0, .slice Ax0 x0.length cx0), (1, .func (.func 44) #[] #[]), (15, .slice Ax15 x15.length cx15), (16, .int .i64 x16), (17, .int .i64 x17)] junk, []⟩ w1 (Done Try.prog 43 (Rets (Post.post_fold_3 nz wz S0 w0 Lr r)))

theorem W.post_fold_3_l0 (nz : Nat) (wz : World) (S0 : Fz) (w0 : World) (Lr : List Ent) : ∀ a r, M.post_fold_3_l0 a = some r → L.post_fold_3_l0 nz wz S0 w0 Lr a r := by
  refine M.post_fold_3_l0.partial_correctness (motive := L.post_fold_3_l0 nz wz S0 w0 Lr) ?_
  intro rec_post_fold_3_l0 ih_post_fold_3_l0 ⟨x0, x15, x16, x17⟩ r h S1 w1 hx Ax0 cx0 Ax15 cx15 p1 fx0 fx15 junk
  dsimp only at h
  refine Goes.runs 5 [(18, .bool (decide (x17 < x16)))] [.code (sub [1, 1, 0, 1, 0, 0, 1, 0] B43), .code (sub [1, 1, 0, 1, 0, 0, 1, 1] B43), .inLoop (sub [1, 1, 0, 1, 0, 0] B43), .inBlock 0, .code (sub [1, 1, 1] B43)] (by kernel_rfl) ?_
  by_cases h3 : x17 < x16
  · rw [if_pos h3] at h
    rw [decide_eq_true h3]
    refine Goes.runs 6 [] [.inRegion (opsOf (sub [1, 1, 0, 1, 0, 0, 1, 1, 0, 0, 0] B43)) [0, 1, 2], .code (sub [1, 1, 0, 1, 0, 0, 1, 1, 0, 0, 1] B43), .inBlock 1, .code (sub [1, 1, 0, 1, 0, 0, 1, 1, 1] B43), .inLoop (sub [1, 1, 0, 1, 0, 0] B43), .inBlock 0, .code (sub [1, 1, 1] B43)] (by kernel_rfl) ?_
    obtain ⟨g4, h⟩ := guard_some h
    obtain ⟨g5, h⟩ := guard_some h
    refine Op_.ixR 38 (.tmp 15) (.tmp 17) 19 0 22 .i64 x17 fx15 (Goes.vs (by kernel_rfl)) (by kernel_rfl) (by kernel_rfl) (by kernel_rfl) (by kernel_rfl) g4 g5 ?_
    rintro a6 _ f7 ⟨A8, c9, rfl, f10⟩
    refine Op_.ld1 22 (.tmp 19) 20 22 a6 (.slice A8 (gi x15 x17).length c9) (Goes.vs (by kernel_rfl)) (by kernel_rfl) (by kernel_rfl) (f7.cell 0 _ rfl) ?_
    refine Goes.runs 5 [(7, .slice A8 (gi x15 x17).length c9), (21, .slice A8 (gi x15 x17).length c9)] [.inRegion (opsOf (sub [1, 1, 0, 1, 0, 0, 1, 1, 0, 0, 1, 0] B43)) [1, 2], .code (sub [1, 1, 0, 1, 0, 0, 1, 1, 0, 0, 1, 1] B43), .inBlock 1, .code (sub [1, 1, 0, 1, 0, 0, 1, 1, 1] B43), .inLoop (sub [1, 1, 0, 1, 0, 0] B43), .inBlock 0, .code (sub [1, 1, 1] B43)] (by kernel_rfl) ?_
    obtain ⟨y11, e12, h⟩ := bind_some h
    try dsimp only at h
    refine Op_.call (.call { callee := .value (.func 23), args := #[(.tmp 21)], argTypes := #[22] }) 22 25 23 #[.slice A8 (gi x15 x17).length c9] (Goes.cs (by kernel_rfl)) (by kernel_rfl) (W.post_Check (gi x15 x17) y11 e12 nz wz S1 w1 (Lr) A8 c9 p1 f10) ?_
    rintro _ w2 ⟨S2, rfl, z2, p2⟩
    refine Goes.runs 7 [(8, .int .i64 y11), (23, .int .i64 y11), (24, .bool (!(decide (y11 = 0))))] [.code (sub [1, 1, 0, 1, 0, 0, 1, 1, 0, 0, 1, 1, 1] B43), .inBlock 1, .code (sub [1, 1, 0, 1, 0, 0, 1, 1, 1] B43), .inLoop (sub [1, 1, 0, 1, 0, 0] B43), .inBlock 0, .code (sub [1, 1, 1] B43)] (by kernel_rfl) ?_
    by_cases h13 : y11 = 0
    · rw [if_pos h13] at h
      rw [decide_eq_true h13]
      refine Goes.runs 8 [(26, .int .i64 (wr .i64 (x17 + 1))), (17, .int .i64 (wr .i64 (x17 + 1)))] [.code (sub [1, 1, 0, 1, 0, 0] B43), .inLoop (sub [1, 1, 0, 1, 0, 0] B43), .inBlock 0, .code (sub [1, 1, 1] B43)] (by kernel_rfl) ?_
      exact Goes.jump 47 [(0, .slice Ax0 x0.length cx0), (1, .func (.func 44) #[] #[]), (15, .slice Ax15 x15.length cx15), (16, .int .i64 x16), (17, .int .i64 (wr .i64 (x17 + 1)))] (by kernel_rfl) (ih_post_fold_3_l0 _ _ h _ _ (hx.trans z2) Ax0 cx0 Ax15 cx15 p2 (fx0.ext z2) (fx15.ext z2))
    · rw [if_neg h13] at h
      rw [decide_eq_false h13]
      refine Goes.runs 7 [(25, .int .i64 y11), (4, .slice none 0 0), (5, .int .i64 y11)] [.code (sub [1, 1, 0, 1, 0, 0, 1, 1, 0, 0, 1, 1, 1, 0, 1] B43), .inBlock 1, .code (sub [1, 1, 0, 1, 0, 0, 1, 1, 1] B43), .inLoop (sub [1, 1, 0, 1, 0, 0] B43), .inBlock 0, .code (sub [1, 1, 1] B43)] (by kernel_rfl) ?_
      have p2 : Hp nz wz S2 w2 ((none, .row 35 [] (0 * (kInt .u64).size) 0) :: Lr) := p2.nilRow' 35
      obtain rfl := Option.some.inj h
      exact Goes.ret (fn := Try.f43) (by kernel_rfl) (v := .tuple #[.slice (Gp none) ([] : List Int).length 0, .int .i64 y11]) (by kernel_rfl) ⟨S2, none, 0, [], rfl, (hx.trans z2), p2, (Els.nil : Els (kInt .u64) S2 w2 [] [])⟩
  · rw [if_neg h3] at h
    rw [decide_eq_false h3]
    refine Goes.runs 9 [(27, .slice Ax0 x0.length cx0), (28, .int .i64 (x0.length : Int)), (29, .bool (decide ((x0.length : Int) = 0)))] [.code (sub [1, 1, 1, 0, 1] B43), .code (sub [1, 1, 1, 1] B43)] (by kernel_rfl) ?_
    by_cases h15 : (x0.length : Int) = 0
    · rw [if_pos h15] at h
      rw [decide_eq_true h15]
      refine Goes.runs 6 [(4, .slice none 0 0), (5, .int .i64 0)] [.code (sub [1, 1, 1, 0, 1, 0, 1] B43), .code (sub [1, 1, 1, 1] B43)] (by kernel_rfl) ?_
      have p1 : Hp nz wz S1 w1 ((none, .row 35 [] (0 * (kInt .u64).size) 0) :: Lr) := p1.nilRow' 35
      obtain rfl := Option.some.inj h
      exact Goes.ret (fn := Try.f43) (by kernel_rfl) (v := .tuple #[.slice (Gp none) ([] : List Int).length 0, .int .i64 0]) (by kernel_rfl) ⟨S1, none, 0, [], rfl, hx, p1, (Els.nil : Els (kInt .u64) S1 w1 [] [])⟩
    · rw [if_neg h15] at h
      rw [decide_eq_false h15]
      refine Goes.runs 5 [(30, .slice Ax0 x0.length cx0)] [.inRegion (opsOf (sub [1, 1, 1, 1, 0] B43)) [1, 2, 3, 4], .code (sub [1, 1, 1, 1, 1] B43)] (by kernel_rfl) ?_
      obtain ⟨g17, h⟩ := guard_some h
      refine Op_.ixR 38 (.tmp 30) (.const (.int .i64 0)) 31 0 22 .i64 0 fx0 (Goes.vs (by kernel_rfl)) (by kernel_rfl) (by kernel_rfl) (by kernel_rfl) (by kernel_rfl) (by decide) g17 ?_
      rintro a18 _ f19 ⟨A20, c21, rfl, f22⟩
      refine Op_.ld1 22 (.tmp 31) 32 22 a18 (.slice A20 (gi x0 0).length c21) (Goes.vs (by kernel_rfl)) (by kernel_rfl) (by kernel_rfl) (f19.cell 0 _ rfl) ?_
      obtain ⟨y23, e24, h⟩ := bind_some h
      try dsimp only at h
      refine Op_.call (.call { callee := .value (.func 55), args := #[(.tmp 32)], argTypes := #[22] }) 33 22 55 #[.slice A20 (gi x0 0).length c21] (Goes.cs (by kernel_rfl)) (by kernel_rfl) (W.slices_Clone_uint64_uint64 (gi x0 0) y23 e24 nz wz S1 w1 (Lr) A20 c21 p1 f22) ?_
      rintro _ w3 ⟨S3, G25, c26, cs27, rfl, z3, p3, f29⟩
      refine Goes.runs 6 [(9, .slice (Gp G25) y23.length c26), (34, .slice Ax0 x0.length cx0)] [.inRegion (opsOf (sub [1, 1, 1, 1, 1, 0, 0] B43)) [1, 2, 3], .code (sub [1, 1, 1, 1, 1, 0, 1] B43), .code (sub [1, 1, 1, 1, 1, 1] B43)] (by kernel_rfl) ?_
      obtain ⟨g31, h⟩ := guard_some h
      refine Op_.slR 38 (.tmp 34) (some (.const (.int .i64 1))) none 35 38 22 1 (x0.length : Int) (fx0.ext z3) (Goes.vs (by kernel_rfl)) (by kernel_rfl) (by kernel_rfl) (by kernel_rfl) (Bnd.at_ .i64 (by kernel_rfl)) Bnd.no (by decide) g31 (Int.le_refl _) ?_
      intro A32 c33 f34
      refine Goes.runs 5 [(36, .int .i64 ((sl x0 1 (x0.length : Int)).length : Int)), (37, .int .i64 0)] [.code (sub [1, 1, 1, 1, 1, 0, 1, 0, 0] B43), .inLoop (sub [1, 1, 1, 1, 1, 0, 1, 0, 0] B43), .inBlock 2, .code (sub [1, 1, 1, 1, 1, 1] B43)] (by kernel_rfl) ?_
      exact Goes.jump 47 [(1, .func (.func 44) #[] #[]), (9, .slice (Gp G25) y23.length c26), (35, .slice A32 (sl x0 1 (x0.length : Int)).length c33), (36, .int .i64 ((sl x0 1 (x0.length : Int)).length : Int)), (37, .int .i64 0)] (by kernel_rfl) (W.post_fold_3_l1 nz wz S0 w0 Lr _ _ h _ _ (hx.trans z3) G25 c26 cs27 A32 c33 p3 f29 f34)

theorem W.post_fold_3 (x0 : List (List Int)) (r : (List Int) × Int) (h : M.post_fold_3 x0 = some r) (nz : Nat) (wz : World) (S0 : Fz) (w0 : World) (Lr : List Ent) (Ax0 : Option Addr) (cx0 : Nat) (p0 : Hp nz wz S0 w0 (Lr)) (fx0 : Rd (kSl (kInt .u64)) S0 w0 Ax0 cx0 x0) :
    Calls Try.prog 43 #[.slice Ax0 x0.length cx0, .func (.func 44) #[] #[]] w0 (Rets (Post.post_fold_3 nz wz S0 w0 Lr r)) := by
  refine calls_of_goes (fn := Try.f43) (c := B43) (by kernel_rfl) (by kernel_rfl) 45 (by kernel_rfl) ?_
  refine Goes.jump 47 [(0, .slice Ax0 x0.length cx0), (1, .func (.func 44) #[] #[])] (by kernel_rfl) (fun junk => ?_)
  delta M.post_fold_3 at h
  refine Goes.runs 12 [(4, .slice none 0 0), (5, .int .i64 0), (12, .slice Ax0 x0.length cx0), (13, .int .i64 (x0.length : Int)), (14, .bool (decide ((x0.length : Int) > 4096)))] [.code (sub [1, 0, 1] B43), .code (sub [1, 1] B43)] (by kernel_rfl) ?_
  by_cases h1 : (x0.length : Int) > 4096
  · rw [if_pos h1] at h
    rw [decide_eq_true h1]
    refine Goes.runs 6 [(4, .slice none 0 0), (5, .int .i64 3)] [.code (sub [1, 0, 1, 0, 1] B43), .code (sub [1, 1] B43)] (by kernel_rfl) ?_
    have p0 : Hp nz wz S0 w0 ((none, .row 35 [] (0 * (kInt .u64).size) 0) :: Lr) := p0.nilRow' 35
    obtain rfl := Option.some.inj h
    exact Goes.ret (fn := Try.f43) (by kernel_rfl) (v := .tuple #[.slice (Gp none) ([] : List Int).length 0, .int .i64 3]) (by kernel_rfl) ⟨S0, none, 0, [], rfl, (Ext.refl S0 w0), p0, (Els.nil : Els (kInt .u64) S0 w0 [] [])⟩
  · rw [if_neg h1] at h
    rw [decide_eq_false h1]
    refine Goes.runs 11 [(15, .slice Ax0 x0.length cx0), (16, .int .i64 (x0.length : Int)), (17, .int .i64 0)] [.code (sub [1, 1, 0, 1, 0, 0] B43), .inLoop (sub [1, 1, 0, 1, 0, 0] B43), .inBlock 0, .code (sub [1, 1, 1] B43)] (by kernel_rfl) ?_
    exact Goes.jump 47 [(0, .slice Ax0 x0.length cx0), (1, .func (.func 44) #[] #[]), (15, .slice Ax0 x0.length cx0), (16, .int .i64 (x0.length : Int)), (17, .int .i64 0)] (by kernel_rfl) (W.post_fold_3_l0 nz wz S0 w0 Lr _ _ h _ _ (Ext.refl S0 w0) Ax0 cx0 Ax0 cx0 p0 fx0 fx0)

/-! tidepole/post.But -/
def Post.post_But (nz : Nat) (wz : World) (S0 : Fz) (w0 : World) (Lr : List Ent) (r : (List Int) × Int) (v : Value) (w' : World) : Prop :=
  ∃ (S' : Fz) (G1 : Option Nat) (c2 : Nat) (cs3 : List Value), v = .tuple #[.slice (Gp G1) r.1.length c2, .int .i64 r.2] ∧ Ext S0 w0 S' w' ∧ Hp nz wz S' w' ((G1, .row 35 cs3 (c2 * (kInt .u64).size) 0) :: Lr) ∧ Els (kInt .u64) S' w' cs3 r.1

theorem W.post_But (x0 : List Int) (x1 : List Int) (r : (List Int) × Int) (h : M.post_But x0 x1 = some r) (nz : Nat) (wz : World) (S0 : Fz) (w0 : World) (Lr : List Ent) (Ax0 : Option Addr) (cx0 : Nat) (Ax1 : Option Addr) (cx1 : Nat) (p0 : Hp nz wz S0 w0 (Lr)) (fx0 : Rd (kInt .u64) S0 w0 Ax0 cx0 x0) (fx1 : Rd (kInt .u64) S0 w0 Ax1 cx1 x1) :
    Calls Try.prog 10 #[.slice Ax0 x0.length cx0, .slice Ax1 x1.length cx1] w0 (Rets (Post.post_But nz wz S0 w0 Lr r)) := by
  refine calls_of_goes (fn := Try.f10) (c := B10) (by kernel_rfl) (by kernel_rfl) 10 (by kernel_rfl) ?_
  refine Goes.jump 12 [(0, .slice Ax0 x0.length cx0), (1, .slice Ax1 x1.length cx1)] (by kernel_rfl) (fun junk => ?_)
  delta M.post_But at h
  refine Goes.runs 9 [(4, .slice none 0 0), (5, .int .i64 0), (6, .slice Ax0 x0.length cx0), (7, .slice Ax1 x1.length cx1)] [.inRegion (opsOf (sub [1, 0] B10)) [2, 3, 4, 5, 6, 7], .code (sub [1, 1] B10)] (by kernel_rfl) ?_
  have f2 : Els (kSl (kInt .u64)) S0 w0 ([.slice Ax0 x0.length cx0, .slice Ax1 x1.length cx1] : List Value) [x0, x1] := (Els.cons (K := (kSl (kInt .u64))) (vs := [.slice Ax0 x0.length cx0]) (x := x0) ⟨_, _, rfl, fx0⟩ (Els.cons (K := (kSl (kInt .u64))) (vs := [.slice Ax1 x1.length cx1]) (x := x1) ⟨_, _, rfl, fx1⟩ Els.nil))
  refine Op_.made (.buildSlice 38 2 #[(0, (.tmp 6)), (1, (.tmp 7))]) 8 38 (fun b => .slice (Gp (some b)) 2 2) 22 ([.slice Ax0 x0.length cx0, .slice Ax1 x1.length cx1] : List Value) p0 (Goes.vs (by kernel_rfl)) (by kernel_rfl) ?_
  intro b1 w2 z2 p2
  have p2 : Hp nz wz S0 w2 (((some b1), .row 22 ([.slice Ax0 x0.length cx0, .slice Ax1 x1.length cx1] : List Value) (2 * (kSl (kInt .u64)).size) 0) :: Lr) := p2
  obtain ⟨S3, z3, p3, f4⟩ := p2.freezeRd 0 rfl (f2.ext z2) (by decide)
  obtain ⟨y5, e6, h⟩ := bind_some h
  try dsimp only at h
  refine Op_.call (.call { callee := .value (.func 43), args := #[(.tmp 8), (.func 44)], argTypes := #[38, 72] }) 9 26 43 #[.slice (Gp (some b1)) [x0, x1].length 2, .func (.func 44) #[] #[]] (Goes.cs (by kernel_rfl)) (by kernel_rfl) (W.post_fold_3 [x0, x1] y5 e6 nz wz S3 w2 (((some b1), .row 22 ([.slice Ax0 x0.length cx0, .slice Ax1 x1.length cx1] : List Value) (2 * (kSl (kInt .u64)).size) (([.slice Ax0 x0.length cx0, .slice Ax1 x1.length cx1] : List Value).length)) :: Lr) (Gp (some b1)) 2 p3 f4) ?_
  rintro _ w4 ⟨S4, G7, c8, cs9, rfl, z4, p4, f11⟩
  have p4 := (p4.front 1 _ rfl).drop
  refine Goes.runs 5 [(10, .slice (Gp G7) y5.1.length c8), (11, .int .i64 y5.2), (4, .slice (Gp G7) y5.1.length c8), (5, .int .i64 y5.2)] [.code (sub [1, 1] B10)] (by kernel_rfl) ?_
  obtain rfl := Option.some.inj h
  exact Goes.ret (fn := Try.f10) (by kernel_rfl) (v := .tuple #[.slice (Gp G7) y5.1.length c8, .int .i64 y5.2]) (by kernel_rfl) ⟨S4, G7, c8, cs9, rfl, ((((Ext.refl S0 w0).trans z2).trans z3).trans z4), p4, f11⟩

/-! tidepole/tidepolelaw13.same -/
def Post.tidepolelaw13_same (nz : Nat) (wz : World) (S0 : Fz) (w0 : World) (Lr : List Ent) (r : Bool) (v : Value) (w' : World) : Prop :=
  ∃ (S' : Fz) , v = .bool r ∧ Ext S0 w0 S' w' ∧ Hp nz wz S' w' (Lr)

def L.tidepolelaw13_same_l0 (nz : Nat) (wz : World) (S0 : Fz) (w0 : World) (Lr : List Ent) : List Int × List Int × Int → Bool → Prop := fun ⟨x0, x1, x5⟩ r => ∀ S1 w1, Ext S0 w0 S1 w1 → ∀ (Ax0 : Option Addr) (cx0 : Nat) (Ax1 : Option Addr) (cx1 : Nat) (_ : Hp nz wz S1 w1 (Lr)) (_ : Rd (kInt .u64) S1 w1 Ax0 cx0 x0) (_ : Rd (kInt .u64) S1 w1 Ax1 cx1 x1) (junk : Nat → Value),
  Goes Try.prog (base 11) [.code (sub [1, 1, 0, 1, 0, 0] B11), .inLoop (sub [1, 1, 0, 1, 0, 0] B11), .inBlock 0, .code (sub [1, 1, 1] B11)] ⟨lfr 26 [(0, .slice Ax0 x0.length cx0), (1, .slice Ax1 x1.length cx1), (5, .int .i64 x5)] junk, []⟩ w1 (Done Try.prog 11 (Rets (Post.tidepolelaw13_same nz wz S0 w0 Lr r)))

theorem W.tidepolelaw13_same_l0 (nz : Nat) (wz : World) (S0 : Fz) (w0 : World) (Lr : List Ent) : ∀ a r, M.tidepolelaw13_same_l0 a = some r → L.tidepolelaw13_same_l0 nz wz S0 w0 Lr a r := by
  refine M.tidepolelaw13_same_l0.partial_correctness (motive := L.tidepolelaw13_same_l0 nz wz S0 w0 Lr) ?_
  intro rec_tidepolelaw13_same_l0 ih_tidepolelaw13_same_l0 ⟨x0, x1, x5⟩ r h S1 w1 hx Ax0 cx0 Ax1 cx1 p1 fx0 fx1 junk
  dsimp only at h
  refine Goes.runs 8 [(11, .int .i64 x5), (12, .slice Ax0 x0.length cx0), (13, .int .i64 (x0.length : Int)), (14, .bool (decide (x5 < (x0.length : Int))))] [.code (sub [1, 1, 0, 1, 0, 0, 0, 1] B11), .code (sub [1, 1, 0, 1, 0, 0, 1] B11), .inLoop (sub [1, 1, 0, 1, 0, 0] B11), .inBlock 0, .code (sub [1, 1, 1] B11)] (by kernel_rfl) ?_
  by_cases h2 : x5 < (x0.length : Int)
  · rw [if_pos h2] at h
    rw [decide_eq_true h2]
    refine Goes.runs 5 [] [.code (sub [1, 1, 0, 1, 0, 0, 1, 0, 0, 0] B11), .code (sub [1, 1, 0, 1, 0, 0, 1, 0, 0, 1] B11), .inBlock 1, .code (sub [1, 1, 0, 1, 0, 0, 1, 1] B11), .inLoop (sub [1, 1, 0, 1, 0, 0] B11), .inBlock 0, .code (sub [1, 1, 1] B11)] (by kernel_rfl) ?_
    have z2 : Ext S1 w1 S1 (w1).drew := Ext.draw
    have p2 := p1.draw
    refine Goes.drawn (s := []) (F := Fc S1 (w1).drew []) 6 9 (by kernel_rfl) (by kernel_rfl) (by kernel_rfl) (by kernel_rfl) ?_
    generalize (w1).drew = w2 at z2 p2 ⊢
    refine AnyG.pure (i := 0) (.move (.tmp 0)) 17 22 (.slice Ax0 x0.length cx0) (by kernel_rfl) (by kernel_rfl) (by kernel_rfl) (Fc.here trivial) ?_
    refine AnyG.pure (i := 1) (.move (.tmp 5)) 18 3 (.int .i64 x5) (by kernel_rfl) (by kernel_rfl) (by kernel_rfl) (Fc.here trivial) ?_
    obtain ⟨g3, h⟩ := guard_some h
    refine AnyG.ixR (i := 2) 22 (.tmp 17) (.tmp 18) 19 0 35 .i64 x5 (fx0.ext z2) (by kernel_rfl) (by kernel_rfl) (Fc.here trivial) (by kernel_rfl) (by kernel_rfl) (by kernel_rfl) (by kernel_rfl) g3 h2 ?_
    rintro a4 _ f5 rfl
    refine AnyG.ld1 (i := 3) 35 (.tmp 19) 20 35 a4 (.int .u64 (gi x0 x5)) (by kernel_rfl) (by kernel_rfl) (Fc.here trivial) (by kernel_rfl) (by kernel_rfl) (fun _ h => f5.fc h 0 _ rfl) ?_
    refine AnyG.pure (i := 4) (.move (.tmp 1)) 21 22 (.slice Ax1 x1.length cx1) (by kernel_rfl) (by kernel_rfl) (by kernel_rfl) (Fc.here trivial) ?_
    refine AnyG.pure (i := 5) (.move (.tmp 5)) 22 3 (.int .i64 x5) (by kernel_rfl) (by kernel_rfl) (by kernel_rfl) (Fc.here trivial) ?_
    obtain ⟨g6, h⟩ := guard_some h
    refine AnyG.ixR (i := 6) 22 (.tmp 21) (.tmp 22) 23 0 35 .i64 x5 (fx1.ext z2) (by kernel_rfl) (by kernel_rfl) (Fc.here trivial) (by kernel_rfl) (by kernel_rfl) (by kernel_rfl) (by kernel_rfl) g3 g6 ?_
    rintro a7 _ f8 rfl
    refine AnyG.ld1 (i := 7) 35 (.tmp 23) 24 35 a7 (.int .u64 (gi x1 x5)) (by kernel_rfl) (by kernel_rfl) (Fc.here trivial) (by kernel_rfl) (by kernel_rfl) (fun _ h => f8.fc h 0 _ rfl) ?_
    refine AnyG.pure (i := 8) (.binOp .neq 35 (.tmp 20) (.tmp 24) 35) 25 4 (.bool (!(decide (gi x0 x5 = gi x1 x5)))) (by kernel_rfl) (by kernel_rfl) (by kernel_rfl) (Fc.here trivial) ?_
    refine AnyG.done (by kernel_rfl) ?_ _
    by_cases h9 : gi x0 x5 = gi x1 x5
    · rw [if_pos h9] at h
      rw [decide_eq_true h9]
      refine Goes.runs 9 [(15, .int .i64 x5), (16, .int .i64 (wr .i64 (x5 + 1))), (5, .int .i64 (wr .i64 (x5 + 1)))] [.code (sub [1, 1, 0, 1, 0, 0] B11), .inLoop (sub [1, 1, 0, 1, 0, 0] B11), .inBlock 0, .code (sub [1, 1, 1] B11)] (by kernel_rfl) ?_
      exact Goes.jump 26 [(0, .slice Ax0 x0.length cx0), (1, .slice Ax1 x1.length cx1), (5, .int .i64 (wr .i64 (x5 + 1)))] (by kernel_rfl) (ih_tidepolelaw13_same_l0 _ _ h _ _ (hx.trans z2) Ax0 cx0 Ax1 cx1 p2 (fx0.ext z2) (fx1.ext z2))
    · rw [if_neg h9] at h
      rw [decide_eq_false h9]
      refine Goes.runs 5 [(4, .bool false)] [.code (sub [1, 1, 0, 1, 0, 0, 1, 0, 0, 1, 0, 1] B11), .inBlock 1, .code (sub [1, 1, 0, 1, 0, 0, 1, 1] B11), .inLoop (sub [1, 1, 0, 1, 0, 0] B11), .inBlock 0, .code (sub [1, 1, 1] B11)] (by kernel_rfl) ?_
      obtain rfl := Option.some.inj h
      exact Goes.ret (fn := Try.f11) (by kernel_rfl) (v := .bool false) (by kernel_rfl) ⟨S1, rfl, (hx.trans z2), p2⟩
  · rw [if_neg h2] at h
    rw [decide_eq_false h2]
    refine Goes.runs 6 [(4, .bool true)] [.code (sub [1, 1, 1, 1] B11)] (by kernel_rfl) ?_
    obtain rfl := Option.some.inj h
    exact Goes.ret (fn := Try.f11) (by kernel_rfl) (v := .bool true) (by kernel_rfl) ⟨S1, rfl, hx, p1⟩

theorem W.tidepolelaw13_same (x0 : List Int) (x1 : List Int) (r : Bool) (h : M.tidepolelaw13_same x0 x1 = some r) (nz : Nat) (wz : World) (S0 : Fz) (w0 : World) (Lr : List Ent) (Ax0 : Option Addr) (cx0 : Nat) (Ax1 : Option Addr) (cx1 : Nat) (p0 : Hp nz wz S0 w0 (Lr)) (fx0 : Rd (kInt .u64) S0 w0 Ax0 cx0 x0) (fx1 : Rd (kInt .u64) S0 w0 Ax1 cx1 x1) :
    Calls Try.prog 11 #[.slice Ax0 x0.length cx0, .slice Ax1 x1.length cx1] w0 (Rets (Post.tidepolelaw13_same nz wz S0 w0 Lr r)) := by
  refine calls_of_goes (fn := Try.f11) (c := B11) (by kernel_rfl) (by kernel_rfl) 24 (by kernel_rfl) ?_
  refine Goes.jump 26 [(0, .slice Ax0 x0.length cx0), (1, .slice Ax1 x1.length cx1)] (by kernel_rfl) (fun junk => ?_)
  delta M.tidepolelaw13_same at h
  refine Goes.runs 13 [(4, .bool false), (6, .slice Ax0 x0.length cx0), (7, .int .i64 (x0.length : Int)), (8, .slice Ax1 x1.length cx1), (9, .int .i64 (x1.length : Int)), (10, .bool (!(decide ((x0.length : Int) = (x1.length : Int)))))] [.code (sub [1, 0, 1] B11), .code (sub [1, 1] B11)] (by kernel_rfl) ?_
  by_cases h1 : (x0.length : Int) = (x1.length : Int)
  · rw [if_pos h1] at h
    rw [decide_eq_true h1]
    refine Goes.runs 9 [(5, .int .i64 0)] [.code (sub [1, 1, 0, 1, 0, 0] B11), .inLoop (sub [1, 1, 0, 1, 0, 0] B11), .inBlock 0, .code (sub [1, 1, 1] B11)] (by kernel_rfl) ?_
    exact Goes.jump 26 [(0, .slice Ax0 x0.length cx0), (1, .slice Ax1 x1.length cx1), (5, .int .i64 0)] (by kernel_rfl) (W.tidepolelaw13_same_l0 nz wz S0 w0 Lr _ _ h _ _ (Ext.refl S0 w0) Ax0 cx0 Ax1 cx1 p0 fx0 fx1)
  · rw [if_neg h1] at h
    rw [decide_eq_false h1]
    refine Goes.runs 5 [(4, .bool false)] [.code (sub [1, 0, 1, 0, 1] B11), .code (sub [1, 1] B11)] (by kernel_rfl) ?_
    obtain rfl := Option.some.inj h
    exact Goes.ret (fn := Try.f11) (by kernel_rfl) (v := .bool false) (by kernel_rfl) ⟨S0, rfl, (Ext.refl S0 w0), p0⟩

/-! tidepole/tidepolelaw13.works -/
def Post.tidepolelaw13_works (nz : Nat) (wz : World) (S0 : Fz) (w0 : World) (Lr : List Ent) (r : Bool) (v : Value) (w' : World) : Prop :=
  ∃ (S' : Fz) , v = .bool r ∧ Ext S0 w0 S' w' ∧ Hp nz wz S' w' (Lr)

theorem W.tidepolelaw13_works (r : Bool) (h : M.tidepolelaw13_works = some r) (nz : Nat) (wz : World) (S0 : Fz) (w0 : World) (Lr : List Ent) (p0 : Hp nz wz S0 w0 (Lr)) :
    Calls Try.prog 8 #[] w0 (Rets (Post.tidepolelaw13_works nz wz S0 w0 Lr r)) := by
  refine calls_of_goes (fn := Try.f8) (c := B8) (by kernel_rfl) (by kernel_rfl) 56 (by kernel_rfl) ?_
  refine Goes.jump 56 [] (by kernel_rfl) (fun junk => ?_)
  delta M.tidepolelaw13_works at h
  refine Goes.runs 6 [(0, .bool false)] [.inRegion (opsOf (sub [1, 0] B8)) [0, 1, 2, 3], .code (sub [1, 1] B8)] (by kernel_rfl) ?_
  have f2 : Els (kInt .u64) S0 w0 ([.int .u64 1, .int .u64 3, .int .u64 5] : List Value) [1, 3, 5] := (Els.cons (K := (kInt .u64)) (vs := [.int .u64 1]) (x := 1) rfl (Els.cons (K := (kInt .u64)) (vs := [.int .u64 3]) (x := 3) rfl (Els.cons (K := (kInt .u64)) (vs := [.int .u64 5]) (x := 5) rfl Els.nil)))
  refine Op_.made (.buildSlice 22 3 #[(0, (.const (.int .u64 1))), (1, (.const (.int .u64 3))), (2, (.const (.int .u64 5)))]) 9 22 (fun b => .slice (Gp (some b)) 3 3) 35 ([.int .u64 1, .int .u64 3, .int .u64 5] : List Value) p0 (Goes.vs (by kernel_rfl)) (by kernel_rfl) ?_
  intro b1 w2 z2 p2
  have p2 : Hp nz wz S0 w2 (((some b1), .row 35 ([.int .u64 1, .int .u64 3, .int .u64 5] : List Value) (3 * (kInt .u64).size) 0) :: Lr) := p2
  have f5 : Els (kInt .u64) S0 w2 ([.int .u64 3, .int .u64 4, .int .u64 5] : List Value) [3, 4, 5] := (Els.cons (K := (kInt .u64)) (vs := [.int .u64 3]) (x := 3) rfl (Els.cons (K := (kInt .u64)) (vs := [.int .u64 4]) (x := 4) rfl (Els.cons (K := (kInt .u64)) (vs := [.int .u64 5]) (x := 5) rfl Els.nil)))
  refine Op_.made (.buildSlice 22 3 #[(0, (.const (.int .u64 3))), (1, (.const (.int .u64 4))), (2, (.const (.int .u64 5)))]) 10 22 (fun b => .slice (Gp (some b)) 3 3) 35 ([.int .u64 3, .int .u64 4, .int .u64 5] : List Value) p2 (Goes.vs (by kernel_rfl)) (by kernel_rfl) ?_
  intro b4 w3 z3 p3
  have p3 : Hp nz wz S0 w3 (((some b4), .row 35 ([.int .u64 3, .int .u64 4, .int .u64 5] : List Value) (3 * (kInt .u64).size) 0) :: ((some b1), .row 35 ([.int .u64 1, .int .u64 3, .int .u64 5] : List Value) (3 * (kInt .u64).size) 0) :: Lr) := p3
  refine Goes.runs 7 [(1, .slice (Gp (some b1)) [1, 3, 5].length 3), (2, .slice (Gp (some b4)) [3, 4, 5].length 3), (12, .slice (Gp (some b1)) [1, 3, 5].length 3), (13, .slice (Gp (some b4)) [3, 4, 5].length 3)] [.inRegion (opsOf (sub [1, 1, 0] B8)) [2, 3, 4, 5, 6, 7, 8], .code (sub [1, 1, 1] B8)] (by kernel_rfl) ?_
  obtain ⟨S4, z4, p4, f7⟩ := p3.freezeRd 1 rfl ((f2.ext z2).ext z3) (by decide)
  obtain ⟨S5, z5, p5, f8⟩ := p4.freezeRd 0 rfl ((f5.ext z3).ext z4) (by decide)
  have f10 : Els (kSl (kInt .u64)) S5 w3 ([.slice (Gp (some b1)) [1, 3, 5].length 3, .slice (Gp (some b4)) [3, 4, 5].length 3] : List Value) [[1, 3, 5], [3, 4, 5]] := (Els.cons (K := (kSl (kInt .u64))) (vs := [.slice (Gp (some b1)) [1, 3, 5].length 3]) (x := [1, 3, 5]) ⟨_, _, rfl, (f7.ext z5)⟩ (Els.cons (K := (kSl (kInt .u64))) (vs := [.slice (Gp (some b4)) [3, 4, 5].length 3]) (x := [3, 4, 5]) ⟨_, _, rfl, f8⟩ Els.nil))
  refine Op_.made (.buildSlice 38 2 #[(0, (.tmp 12)), (1, (.tmp 13))]) 14 38 (fun b => .slice (Gp (some b)) 2 2) 22 ([.slice (Gp (some b1)) [1, 3, 5].length 3, .slice (Gp (some b4)) [3, 4, 5].length 3] : List Value) p5 (Goes.vs (by kernel_rfl)) (by kernel_rfl) ?_
  intro b9 w6 z6 p6
  have p6 : Hp nz wz S5 w6 (((some b9), .row 22 ([.slice (Gp (some b1)) [1, 3, 5].length 3, .slice (Gp (some b4)) [3, 4, 5].length 3] : List Value) (2 * (kSl (kInt .u64)).size) 0) :: ((some b4), .row 35 ([.int .u64 3, .int .u64 4, .int .u64 5] : List Value) (3 * (kInt .u64).size) (([.int .u64 3, .int .u64 4, .int .u64 5] : List Value).length)) :: ((some b1), .row 35 ([.int .u64 1, .int .u64 3, .int .u64 5] : List Value) (3 * (kInt .u64).size) (([.int .u64 1, .int .u64 3, .int .u64 5] : List Value).length)) :: Lr) := p6
  obtain ⟨S7, z7, p7, f12⟩ := p6.freezeRd 0 rfl (f10.ext z6) (by decide)
  obtain ⟨y13, e14, h⟩ := bind_some h
  try dsimp only at h
  refine Op_.call (.call { callee := .value (.func 19), args := #[(.tmp 14)], argTypes := #[38] }) 15 26 19 #[.slice (Gp (some b9)) [[1, 3, 5], [3, 4, 5]].length 2] (Goes.cs (by kernel_rfl)) (by kernel_rfl) (W.post_And [[1, 3, 5], [3, 4, 5]] y13 e14 nz wz S7 w6 (((some b9), .row 22 ([.slice (Gp (some b1)) [1, 3, 5].length 3, .slice (Gp (some b4)) [3, 4, 5].length 3] : List Value) (2 * (kSl (kInt .u64)).size) (([.slice (Gp (some b1)) [1, 3, 5].length 3, .slice (Gp (some b4)) [3, 4, 5].length 3] : List Value).length)) :: ((some b4), .row 35 ([.int .u64 3, .int .u64 4, .int .u64 5] : List Value) (3 * (kInt .u64).size) (([.int .u64 3, .int .u64 4, .int .u64 5] : List Value).length)) :: ((some b1), .row 35 ([.int .u64 1, .int .u64 3, .int .u64 5] : List Value) (3 * (kInt .u64).size) (([.int .u64 1, .int .u64 3, .int .u64 5] : List Value).length)) :: Lr) (Gp (some b9)) 2 p7 f12) ?_
  rintro _ w8 ⟨S8, G15, c16, cs17, rfl, z8, p8, f19⟩
  have p8 := (p8.front 1 _ rfl).drop
  have p8 := (p8.front 1 _ rfl).drop
  have p8 := (p8.front 1 _ rfl).drop
  refine Goes.runs 10 [(11, .tuple #[.slice (Gp G15) y13.1.length c16, .int .i64 y13.2]), (16, .slice (Gp G15) y13.1.length c16), (17, .int .i64 y13.2), (3, .slice (Gp G15) y13.1.length c16), (4, .int .i64 y13.2), (19, .slice (Gp (some b1)) [1, 3, 5].length 3), (20, .slice (Gp (some b4)) [3, 4, 5].length 3)] [.inRegion (opsOf (sub [1, 1, 1, 0] B8)) [2, 3, 4, 5, 6, 7, 8], .code (sub [1, 1, 1, 1] B8)] (by kernel_rfl) ?_
  have f22 : Els (kSl (kInt .u64)) S8 w8 ([.slice (Gp (some b1)) [1, 3, 5].length 3, .slice (Gp (some b4)) [3, 4, 5].length 3] : List Value) [[1, 3, 5], [3, 4, 5]] := (Els.cons (K := (kSl (kInt .u64))) (vs := [.slice (Gp (some b1)) [1, 3, 5].length 3]) (x := [1, 3, 5]) ⟨_, _, rfl, ((((f7.ext z5).ext z6).ext z7).ext z8)⟩ (Els.cons (K := (kSl (kInt .u64))) (vs := [.slice (Gp (some b4)) [3, 4, 5].length 3]) (x := [3, 4, 5]) ⟨_, _, rfl, (((f8.ext z6).ext z7).ext z8)⟩ Els.nil))
  refine Op_.made (.buildSlice 38 2 #[(0, (.tmp 19)), (1, (.tmp 20))]) 21 38 (fun b => .slice (Gp (some b)) 2 2) 22 ([.slice (Gp (some b1)) [1, 3, 5].length 3, .slice (Gp (some b4)) [3, 4, 5].length 3] : List Value) p8 (Goes.vs (by kernel_rfl)) (by kernel_rfl) ?_
  intro b21 w9 z9 p9
  have p9 : Hp nz wz S8 w9 (((some b21), .row 22 ([.slice (Gp (some b1)) [1, 3, 5].length 3, .slice (Gp (some b4)) [3, 4, 5].length 3] : List Value) (2 * (kSl (kInt .u64)).size) 0) :: (G15, .row 35 cs17 (c16 * (kInt .u64).size) 0) :: Lr) := p9
  obtain ⟨S10, z10, p10, f24⟩ := p9.freezeRd 0 rfl (f22.ext z9) (by decide)
  obtain ⟨y25, e26, h⟩ := bind_some h
  try dsimp only at h
  refine Op_.call (.call { callee := .value (.func 20), args := #[(.tmp 21)], argTypes := #[38] }) 22 26 20 #[.slice (Gp (some b21)) [[1, 3, 5], [3, 4, 5]].length 2] (Goes.cs (by kernel_rfl)) (by kernel_rfl) (W.post_Or [[1, 3, 5], [3, 4, 5]] y25 e26 nz wz S10 w9 (((some b21), .row 22 ([.slice (Gp (some b1)) [1, 3, 5].length 3, .slice (Gp (some b4)) [3, 4, 5].length 3] : List Value) (2 * (kSl (kInt .u64)).size) (([.slice (Gp (some b1)) [1, 3, 5].length 3, .slice (Gp (some b4)) [3, 4, 5].length 3] : List Value).length)) :: (G15, .row 35 cs17 (c16 * (kInt .u64).size) 0) :: Lr) (Gp (some b21)) 2 p10 f24) ?_
  rintro _ w11 ⟨S11, G27, c28, cs29, rfl, z11, p11, f31⟩
  have p11 := (p11.front 1 _ rfl).drop
  refine Goes.runs 10 [(18, .tuple #[.slice (Gp G27) y25.1.length c28, .int .i64 y25.2]), (23, .slice (Gp G27) y25.1.length c28), (24, .int .i64 y25.2), (5, .slice (Gp G27) y25.1.length c28), (6, .int .i64 y25.2), (26, .slice (Gp (some b1)) [1, 3, 5].length 3), (27, .slice (Gp (some b4)) [3, 4, 5].length 3)] [.inRegion (opsOf (sub [1, 1, 1, 1, 0] B8)) [2, 3, 4, 5, 6, 7], .code (sub [1, 1, 1, 1, 1] B8)] (by kernel_rfl) ?_
  obtain ⟨y33, e34, h⟩ := bind_some h
  try dsimp only at h
  refine Op_.call (.call { callee := .value (.func 10), args := #[(.tmp 26), (.tmp 27)], argTypes := #[22, 22] }) 28 26 10 #[.slice (Gp (some b1)) [1, 3, 5].length 3, .slice (Gp (some b4)) [3, 4, 5].length 3] (Goes.cs (by kernel_rfl)) (by kernel_rfl) (W.post_But [1, 3, 5] [3, 4, 5] y33 e34 nz wz S11 w11 ((G27, .row 35 cs29 (c28 * (kInt .u64).size) 0) :: (G15, .row 35 cs17 (c16 * (kInt .u64).size) 0) :: Lr) (Gp (some b1)) 3 (Gp (some b4)) 3 p11 (((((((f7.ext z5).ext z6).ext z7).ext z8).ext z9).ext z10).ext z11) ((((((f8.ext z6).ext z7).ext z8).ext z9).ext z10).ext z11)) ?_
  rintro _ w12 ⟨S12, G35, c36, cs37, rfl, z12, p12, f39⟩
  refine Goes.runs 9 [(25, .tuple #[.slice (Gp G35) y33.1.length c36, .int .i64 y33.2]), (29, .slice (Gp G35) y33.1.length c36), (30, .int .i64 y33.2), (7, .slice (Gp G35) y33.1.length c36), (8, .int .i64 y33.2), (31, .slice (Gp G15) y13.1.length c16)] [.inRegion (opsOf (sub [1, 1, 1, 1, 1, 0] B8)) [1, 2, 3, 4, 5, 6, 7, 8, 9, 10, 11, 12, 13, 14, 15, 16, 17, 18, 19, 20, 21, 22, 23, 24, 25], .code (sub [1, 1, 1, 1, 1, 1] B8)] (by kernel_rfl) ?_
  have f42 : Els (kInt .u64) S12 w12 ([.int .u64 3, .int .u64 5] : List Value) [3, 5] := (Els.cons (K := (kInt .u64)) (vs := [.int .u64 3]) (x := 3) rfl (Els.cons (K := (kInt .u64)) (vs := [.int .u64 5]) (x := 5) rfl Els.nil))
  refine Op_.made (.buildSlice 22 2 #[(0, (.const (.int .u64 3))), (1, (.const (.int .u64 5)))]) 32 22 (fun b => .slice (Gp (some b)) 2 2) 35 ([.int .u64 3, .int .u64 5] : List Value) p12 (Goes.vs (by kernel_rfl)) (by kernel_rfl) ?_
  intro b41 w13 z13 p13
  have p13 : Hp nz wz S12 w13 (((some b41), .row 35 ([.int .u64 3, .int .u64 5] : List Value) (2 * (kInt .u64).size) 0) :: (G35, .row 35 cs37 (c36 * (kInt .u64).size) 0) :: (G27, .row 35 cs29 (c28 * (kInt .u64).size) 0) :: (G15, .row 35 cs17 (c16 * (kInt .u64).size) 0) :: Lr) := p13
  obtain ⟨S14, z14, p14, f44⟩ := p13.freezeRd 3 rfl (((((f19.ext z9).ext z10).ext z11).ext z12).ext z13) (by decide)
  obtain ⟨S15, z15, p15, f45⟩ := p14.freezeRd 0 rfl ((f42.ext z13).ext z14) (by decide)
  obtain ⟨y46, e47, h⟩ := bind_some h
  try dsimp only at h
  refine Op_.call (.call { callee := .value (.func 11), args := #[(.tmp 31), (.tmp 32)], argTypes := #[22, 22] }) 33 4 11 #[.slice (Gp G15) y13.1.length c16, .slice (Gp (some b41)) [3, 5].length 2] (Goes.cs (by kernel_rfl)) (by kernel_rfl) (W.tidepolelaw13_same y13.1 [3, 5] y46 e47 nz wz S15 w13 (((some b41), .row 35 ([.int .u64 3, .int .u64 5] : List Value) (2 * (kInt .u64).size) (([.int .u64 3, .int .u64 5] : List Value).length)) :: (G35, .row 35 cs37 (c36 * (kInt .u64).size) 0) :: (G27, .row 35 cs29 (c28 * (kInt .u64).size) 0) :: (G15, .row 35 cs17 (c16 * (kInt .u64).size) cs17.length) :: Lr) (Gp G15) c16 (Gp (some b41)) 2 p15 (f44.ext z15) f45) ?_
  rintro _ w16 ⟨S16, rfl, z16, p16⟩
  have p16 := (p16.front 0 _ rfl).drop
  have p16 := (p16.front 2 _ rfl).drop
  refine Goes.runs 1 [(34, .bool y46)] [.inRegion (opsOf (sub [1, 1, 1, 1, 1, 0] B8)) [4, 5, 6, 7, 8, 9, 10, 11, 12, 13, 14, 15, 16, 17, 18, 19, 20, 21, 22, 23, 24, 25], .code (sub [1, 1, 1, 1, 1, 1] B8)] (by kernel_rfl) ?_
  by_cases h48 : y46 = true
  · rw [if_pos h48] at h
    rw [h48]
    refine Goes.runs 1 [(35, .slice (Gp G27) y25.1.length c28)] [.inRegion (opsOf (sub [1, 1, 1, 1, 1, 0] B8)) [5, 6, 7, 8, 9, 10, 11, 12, 13, 14, 15, 16, 17, 18, 19, 20, 21, 22, 23, 24, 25], .code (sub [1, 1, 1, 1, 1, 1] B8)] (by kernel_rfl) ?_
    have f50 : Els (kInt .u64) S16 w16 ([.int .u64 1, .int .u64 3, .int .u64 4, .int .u64 5] : List Value) [1, 3, 4, 5] := (Els.cons (K := (kInt .u64)) (vs := [.int .u64 1]) (x := 1) rfl (Els.cons (K := (kInt .u64)) (vs := [.int .u64 3]) (x := 3) rfl (Els.cons (K := (kInt .u64)) (vs := [.int .u64 4]) (x := 4) rfl (Els.cons (K := (kInt .u64)) (vs := [.int .u64 5]) (x := 5) rfl Els.nil))))
    refine Op_.made (.buildSlice 22 4 #[(0, (.const (.int .u64 1))), (1, (.const (.int .u64 3))), (2, (.const (.int .u64 4))), (3, (.const (.int .u64 5)))]) 36 22 (fun b => .slice (Gp (some b)) 4 4) 35 ([.int .u64 1, .int .u64 3, .int .u64 4, .int .u64 5] : List Value) p16 (Goes.vs (by kernel_rfl)) (by kernel_rfl) ?_
    intro b49 w17 z17 p17
    have p17 : Hp nz wz S16 w17 (((some b49), .row 35 ([.int .u64 1, .int .u64 3, .int .u64 4, .int .u64 5] : List Value) (4 * (kInt .u64).size) 0) :: (G35, .row 35 cs37 (c36 * (kInt .u64).size) 0) :: (G27, .row 35 cs29 (c28 * (kInt .u64).size) 0) :: Lr) := p17
    obtain ⟨S18, z18, p18, f52⟩ := p17.freezeRd 2 rfl ((((((f31.ext z12).ext z13).ext z14).ext z15).ext z16).ext z17) (by decide)
    obtain ⟨S19, z19, p19, f53⟩ := p18.freezeRd 0 rfl ((f50.ext z17).ext z18) (by decide)
    obtain ⟨y54, e55, h⟩ := bind_some h
    try dsimp only at h
    refine Op_.call (.call { callee := .value (.func 11), args := #[(.tmp 35), (.tmp 36)], argTypes := #[22, 22] }) 37 4 11 #[.slice (Gp G27) y25.1.length c28, .slice (Gp (some b49)) [1, 3, 4, 5].length 4] (Goes.cs (by kernel_rfl)) (by kernel_rfl) (W.tidepolelaw13_same y25.1 [1, 3, 4, 5] y54 e55 nz wz S19 w17 (((some b49), .row 35 ([.int .u64 1, .int .u64 3, .int .u64 4, .int .u64 5] : List Value) (4 * (kInt .u64).size) (([.int .u64 1, .int .u64 3, .int .u64 4, .int .u64 5] : List Value).length)) :: (G35, .row 35 cs37 (c36 * (kInt .u64).size) 0) :: (G27, .row 35 cs29 (c28 * (kInt .u64).size) cs29.length) :: Lr) (Gp G27) c28 (Gp (some b49)) 4 p19 (f52.ext z19) f53) ?_
    rintro _ w20 ⟨S20, rfl, z20, p20⟩
    have p20 := (p20.front 0 _ rfl).drop
    have p20 := (p20.front 1 _ rfl).drop
    refine Goes.runs 2 [(38, .bool y54), (39, .bool y54)] [.inRegion (opsOf (sub [1, 1, 1, 1, 1, 0] B8)) [9, 10, 11, 12, 13, 14, 15, 16, 17, 18, 19, 20, 21, 22, 23, 24, 25], .code (sub [1, 1, 1, 1, 1, 1] B8)] (by kernel_rfl) ?_
    by_cases h56 : y54 = true
    · rw [if_pos h56] at h
      rw [h56]
      refine Goes.runs 1 [(40, .slice (Gp G35) y33.1.length c36)] [.inRegion (opsOf (sub [1, 1, 1, 1, 1, 0] B8)) [10, 11, 12, 13, 14, 15, 16, 17, 18, 19, 20, 21, 22, 23, 24, 25], .code (sub [1, 1, 1, 1, 1, 1] B8)] (by kernel_rfl) ?_
      have f58 : Els (kInt .u64) S20 w20 ([.int .u64 1] : List Value) [1] := (Els.cons (K := (kInt .u64)) (vs := [.int .u64 1]) (x := 1) rfl Els.nil)
      refine Op_.made (.buildSlice 22 1 #[(0, (.const (.int .u64 1)))]) 41 22 (fun b => .slice (Gp (some b)) 1 1) 35 ([.int .u64 1] : List Value) p20 (Goes.vs (by kernel_rfl)) (by kernel_rfl) ?_
      intro b57 w21 z21 p21
      have p21 : Hp nz wz S20 w21 (((some b57), .row 35 ([.int .u64 1] : List Value) (1 * (kInt .u64).size) 0) :: (G35, .row 35 cs37 (c36 * (kInt .u64).size) 0) :: Lr) := p21
      obtain ⟨S22, z22, p22, f60⟩ := p21.freezeRd 1 rfl (((((((((f39.ext z13).ext z14).ext z15).ext z16).ext z17).ext z18).ext z19).ext z20).ext z21) (by decide)
      obtain ⟨S23, z23, p23, f61⟩ := p22.freezeRd 0 rfl ((f58.ext z21).ext z22) (by decide)
      obtain ⟨y62, e63, h⟩ := bind_some h
      try dsimp only at h
      refine Op_.call (.call { callee := .value (.func 11), args := #[(.tmp 40), (.tmp 41)], argTypes := #[22, 22] }) 42 4 11 #[.slice (Gp G35) y33.1.length c36, .slice (Gp (some b57)) [1].length 1] (Goes.cs (by kernel_rfl)) (by kernel_rfl) (W.tidepolelaw13_same y33.1 [1] y62 e63 nz wz S23 w21 (((some b57), .row 35 ([.int .u64 1] : List Value) (1 * (kInt .u64).size) (([.int .u64 1] : List Value).length)) :: (G35, .row 35 cs37 (c36 * (kInt .u64).size) cs37.length) :: Lr) (Gp G35) c36 (Gp (some b57)) 1 p23 (f60.ext z23) f61) ?_
      rintro _ w24 ⟨S24, rfl, z24, p24⟩
      have p24 := (p24.front 0 _ rfl).drop
      have p24 := (p24.front 0 _ rfl).drop
      refine Goes.runs 2 [(43, .bool y62), (44, .bool y62)] [.inRegion (opsOf (sub [1, 1, 1, 1, 1, 0] B8)) [14, 15, 16, 17, 18, 19, 20, 21, 22, 23, 24, 25], .code (sub [1, 1, 1, 1, 1, 1] B8)] (by kernel_rfl) ?_
      by_cases h64 : y62 = true
      · rw [if_pos h64] at h
        rw [h64]
        refine Goes.runs 4 [(45, .int .i64 y13.2), (46, .bool (decide (y13.2 = 0))), (47, .bool (decide (y13.2 = 0))), (48, .bool (decide (y13.2 = 0)))] [.inRegion (opsOf (sub [1, 1, 1, 1, 1, 0] B8)) [18, 19, 20, 21, 22, 23, 24, 25], .code (sub [1, 1, 1, 1, 1, 1] B8)] (by kernel_rfl) ?_
        by_cases h65 : y13.2 = 0
        · rw [if_pos h65] at h
          rw [decide_eq_true h65]
          refine Goes.runs 4 [(49, .int .i64 y25.2), (50, .bool (decide (y25.2 = 0))), (51, .bool (decide (y25.2 = 0))), (52, .bool (decide (y25.2 = 0)))] [.inRegion (opsOf (sub [1, 1, 1, 1, 1, 0] B8)) [22, 23, 24, 25], .code (sub [1, 1, 1, 1, 1, 1] B8)] (by kernel_rfl) ?_
          by_cases h66 : y25.2 = 0
          · rw [if_pos h66] at h
            rw [decide_eq_true h66]
            refine Goes.runs 5 [(53, .int .i64 y33.2), (54, .bool (decide (y33.2 = 0))), (55, .bool (decide (y33.2 = 0))), (0, .bool (decide (y33.2 = 0)))] [.code (sub [1, 1, 1, 1, 1, 1] B8)] (by kernel_rfl) ?_
            obtain rfl := Option.some.inj h
            exact Goes.ret (fn := Try.f8) (by kernel_rfl) (v := .bool (decide (y33.2 = 0))) (by kernel_rfl) ⟨S24, rfl, ((((((((((((((((((((((((Ext.refl S0 w0).trans z2).trans z3).trans z4).trans z5).trans z6).trans z7).trans z8).trans z9).trans z10).trans z11).trans z12).trans z13).trans z14).trans z15).trans z16).trans z17).trans z18).trans z19).trans z20).trans z21).trans z22).trans z23).trans z24), p24⟩
          · rw [if_neg h66] at h
            rw [decide_eq_false h66]
            refine Goes.runs 5 [(53, undef), (54, undef), (55, .bool false), (0, .bool false)] [.code (sub [1, 1, 1, 1, 1, 1] B8)] (by kernel_rfl) ?_
            obtain rfl := Option.some.inj h
            exact Goes.ret (fn := Try.f8) (by kernel_rfl) (v := .bool false) (by kernel_rfl) ⟨S24, rfl, ((((((((((((((((((((((((Ext.refl S0 w0).trans z2).trans z3).trans z4).trans z5).trans z6).trans z7).trans z8).trans z9).trans z10).trans z11).trans z12).trans z13).trans z14).trans z15).trans z16).trans z17).trans z18).trans z19).trans z20).trans z21).trans z22).trans z23).trans z24), p24⟩
        · rw [if_neg h65] at h
          rw [decide_eq_false h65]
          refine Goes.runs 9 [(49, undef), (50, undef), (51, .bool false), (52, .bool false), (53, undef), (54, undef), (55, .bool false), (0, .bool false)] [.code (sub [1, 1, 1, 1, 1, 1] B8)] (by kernel_rfl) ?_
          obtain rfl := Option.some.inj h
          exact Goes.ret (fn := Try.f8) (by kernel_rfl) (v := .bool false) (by kernel_rfl) ⟨S24, rfl, ((((((((((((((((((((((((Ext.refl S0 w0).trans z2).trans z3).trans z4).trans z5).trans z6).trans z7).trans z8).trans z9).trans z10).trans z11).trans z12).trans z13).trans z14).trans z15).trans z16).trans z17).trans z18).trans z19).trans z20).trans z21).trans z22).trans z23).trans z24), p24⟩
      · rw [if_neg h64] at h
        have h64' : y62 = false := by simpa using h64
        rw [h64']
        refine Goes.runs 13 [(45, undef), (46, undef), (47, .bool false), (48, .bool false), (49, undef), (50, undef), (51, .bool false), (52, .bool false), (53, undef), (54, undef), (55, .bool false), (0, .bool false)] [.code (sub [1, 1, 1, 1, 1, 1] B8)] (by kernel_rfl) ?_
        obtain rfl := Option.some.inj h
        exact Goes.ret (fn := Try.f8) (by kernel_rfl) (v := .bool false) (by kernel_rfl) ⟨S24, rfl, ((((((((((((((((((((((((Ext.refl S0 w0).trans z2).trans z3).trans z4).trans z5).trans z6).trans z7).trans z8).trans z9).trans z10).trans z11).trans z12).trans z13).trans z14).trans z15).trans z16).trans z17).trans z18).trans z19).trans z20).trans z21).trans z22).trans z23).trans z24), p24⟩
    · rw [if_neg h56] at h
      have h56' : y54 = false := by simpa using h56
      rw [h56']
      refine Goes.runs 14 [(40, undef), (41, undef), (42, undef), (43, .bool false), (44, .bool false), (45, undef), (46, undef), (47, .bool false), (48, .bool false), (49, undef), (50, undef), (51, .bool false), (52, .bool false), (53, undef)] [.inRegion (opsOf (sub [1, 1, 1, 1, 1, 0] B8)) [23, 24, 25], .code (sub [1, 1, 1, 1, 1, 1] B8)] (by kernel_rfl) ?_
      refine Goes.runs 4 [(54, undef), (55, .bool false), (0, .bool false)] [.code (sub [1, 1, 1, 1, 1, 1] B8)] (by kernel_rfl) ?_
      have p20 := (p20.front 0 _ rfl).drop
      obtain rfl := Option.some.inj h
      exact Goes.ret (fn := Try.f8) (by kernel_rfl) (v := .bool false) (by kernel_rfl) ⟨S20, rfl, ((((((((((((((((((((Ext.refl S0 w0).trans z2).trans z3).trans z4).trans z5).trans z6).trans z7).trans z8).trans z9).trans z10).trans z11).trans z12).trans z13).trans z14).trans z15).trans z16).trans z17).trans z18).trans z19).trans z20), p20⟩
  · rw [if_neg h48] at h
    have h48' : y46 = false := by simpa using h48
    rw [h48']
    refine Goes.runs 14 [(35, undef), (36, undef), (37, undef), (38, .bool false), (39, .bool false), (40, undef), (41, undef), (42, undef), (43, .bool false), (44, .bool false), (45, undef), (46, undef), (47, .bool false), (48, .bool false)] [.inRegion (opsOf (sub [1, 1, 1, 1, 1, 0] B8)) [18, 19, 20, 21, 22, 23, 24, 25], .code (sub [1, 1, 1, 1, 1, 1] B8)] (by kernel_rfl) ?_
    refine Goes.runs 9 [(49, undef), (50, undef), (51, .bool false), (52, .bool false), (53, undef), (54, undef), (55, .bool false), (0, .bool false)] [.code (sub [1, 1, 1, 1, 1, 1] B8)] (by kernel_rfl) ?_
    have p16 := (p16.front 0 _ rfl).drop
    have p16 := (p16.front 0 _ rfl).drop
    obtain rfl := Option.some.inj h
    exact Goes.ret (fn := Try.f8) (by kernel_rfl) (v := .bool false) (by kernel_rfl) ⟨S16, rfl, ((((((((((((((((Ext.refl S0 w0).trans z2).trans z3).trans z4).trans z5).trans z6).trans z7).trans z8).trans z9).trans z10).trans z11).trans z12).trans z13).trans z14).trans z15).trans z16), p16⟩

/-! tidepole/tidepolelaw13.rising -/
def Post.tidepolelaw13_rising (nz : Nat) (wz : World) (S0 : Fz) (w0 : World) (Lr : List Ent) (r : List Int) (v : Value) (w' : World) : Prop :=
  ∃ (S' : Fz) (G1 : Option Nat) (c2 : Nat) (cs3 : List Value), v = .slice (Gp G1) r.length c2 ∧ Ext S0 w0 S' w' ∧ Hp nz wz S' w' ((G1, .row 35 cs3 (c2 * (kInt .u64).size) 0) :: Lr) ∧ Els (kInt .u64) S' w' cs3 r

def L.tidepolelaw13_rising_l0 (nz : Nat) (wz : World) (S0 : Fz) (w0 : World) (Lr : List Ent) : List Int × List Int × Int × Int → (List Int) → Prop := fun ⟨x0, x3, x4, x5⟩ r => ∀ S1 w1, Ext S0 w0 S1 w1 → ∀ (Ax0 : Option Addr) (cx0 : Nat) (Gx3 : Option Nat) (cx3 : Nat) (csx3 : List Value) (_ : Hp nz wz S1 w1 ((Gx3, .row 35 csx3 (cx3 * (kInt .u64).size) 0) :: Lr)) (_ : Rd (kInt .u64) S1 w1 Ax0 cx0 x0) (_ : Els (kInt .u64) S1 w1 csx3 x3) (junk : Nat → Value),
  Goes Try.prog (base 9) [.code (sub [1, 1, 1, 0, 1, 0, 0] B9), .inLoop (sub [1, 1, 1, 0, 1, 0, 0] B9), .inBlock 0, .code (sub [1, 1, 1, 1] B9)] ⟨lfr 30 [(0, .slice Ax0 x0.length cx0), (3, .slice (Gp Gx3) x3.length cx3), (4, .int .u64 x4), (5, .int .i64 x5)] junk, []⟩ w1 (Done Try.prog 9 (Rets (Post.tidepolelaw13_rising nz wz S0 w0 Lr r)))

def L.tidepolelaw13_rising_l1 (nz : Nat) (wz : World) (S0 : Fz) (w0 : World) (Lr : List Ent) : List Int × List Int × Int × Int × Bool → (List Int) → Prop := fun ⟨x0, x3, x4, x5, x14⟩ r => ∀ S1 w1, Ext S0 w0 S1 w1 → ∀ (Ax0 : Option Addr) (cx0 : Nat) (Gx3 : Option Nat) (cx3 : Nat) (csx3 : List Value) (_ : Hp nz wz S1 w1 ((Gx3, .row 35 csx3 (cx3 * (kInt .u64).size) 0) :: Lr)) (_ : Rd (kInt .u64) S1 w1 Ax0 cx0 x0) (_ : Els (kInt .u64) S1 w1 csx3 x3) (junk : Nat → Value),
  Goes Try.prog (base 9) [.code (sub [1, 1, 1, 0, 1, 0, 0, 0, 1] B9), .code (sub [1, 1, 1, 0, 1, 0, 0, 1] B9), .inLoop (sub [1, 1, 1, 0, 1, 0, 0] B9), .inBlock 0, .code (sub [1, 1, 1, 1] B9)] ⟨lfr 30 [(0, .slice Ax0 x0.length cx0), (3, .slice (Gp Gx3) x3.length cx3), (4, .int .u64 x4), (5, .int .i64 x5), (14, .bool x14)] junk, []⟩ w1 (Done Try.prog 9 (Rets (Post.tidepolelaw13_rising nz wz S0 w0 Lr r)))

theorem W.tidepolelaw13_rising_l0_all (nz : Nat) (wz : World) (S0 : Fz) (w0 : World) (Lr : List Ent) : (∀ a r, M.tidepolelaw13_rising_l0 a = some r → L.tidepolelaw13_rising_l0 nz wz S0 w0 Lr a r) ∧ (∀ a r, M.tidepolelaw13_rising_l1 a = some r → L.tidepolelaw13_rising_l1 nz wz S0 w0 Lr a r) := by
  refine M.tidepolelaw13_rising_l0.mutual_partial_correctness (L.tidepolelaw13_rising_l0 nz wz S0 w0 Lr) (L.tidepolelaw13_rising_l1 nz wz S0 w0 Lr) ?_ ?_
  · intro rec_tidepolelaw13_rising_l1 ih_tidepolelaw13_rising_l1 ⟨x0, x3, x4, x5⟩ r h S1 w1 hx Ax0 cx0 Gx3 cx3 csx3 p1 fx0 fx3 junk
    dsimp only at h
    refine Goes.runs 8 [(7, .int .i64 x5), (8, .slice Ax0 x0.length cx0), (9, .int .i64 (x0.length : Int)), (10, .bool (decide (x5 < (x0.length : Int)))), (11, .bool (decide (x5 < (x0.length : Int))))] [.inRegion (opsOf (sub [1, 1, 1, 0, 1, 0, 0, 0, 0] B9)) [5, 6, 7], .code (sub [1, 1, 1, 0, 1, 0, 0, 0, 1] B9), .code (sub [1, 1, 1, 0, 1, 0, 0, 1] B9), .inLoop (sub [1, 1, 1, 0, 1, 0, 0] B9), .inBlock 0, .code (sub [1, 1, 1, 1] B9)] (by kernel_rfl) ?_
    by_cases h4 : x5 < (x0.length : Int)
    · rw [if_pos h4] at h
      rw [decide_eq_true h4]
      refine Goes.runs 4 [(12, .int .i64 x5), (13, .bool (decide (x5 < 40))), (14, .bool (decide (x5 < 40)))] [.code (sub [1, 1, 1, 0, 1, 0, 0, 0, 1] B9), .code (sub [1, 1, 1, 0, 1, 0, 0, 1] B9), .inLoop (sub [1, 1, 1, 0, 1, 0, 0] B9), .inBlock 0, .code (sub [1, 1, 1, 1] B9)] (by kernel_rfl) ?_
      exact Goes.jump 30 [(0, .slice Ax0 x0.length cx0), (3, .slice (Gp Gx3) x3.length cx3), (4, .int .u64 x4), (5, .int .i64 x5), (14, .bool (decide (x5 < 40)))] (by kernel_rfl) (ih_tidepolelaw13_rising_l1 _ _ h _ _ hx Ax0 cx0 Gx3 cx3 csx3 p1 fx0 fx3)
    · rw [if_neg h4] at h
      rw [decide_eq_false h4]
      refine Goes.runs 4 [(12, undef), (13, undef), (14, .bool false)] [.code (sub [1, 1, 1, 0, 1, 0, 0, 0, 1] B9), .code (sub [1, 1, 1, 0, 1, 0, 0, 1] B9), .inLoop (sub [1, 1, 1, 0, 1, 0, 0] B9), .inBlock 0, .code (sub [1, 1, 1, 1] B9)] (by kernel_rfl) ?_
      exact Goes.jump 30 [(0, .slice Ax0 x0.length cx0), (3, .slice (Gp Gx3) x3.length cx3), (4, .int .u64 x4), (5, .int .i64 x5), (14, .bool false)] (by kernel_rfl) (ih_tidepolelaw13_rising_l1 _ _ h _ _ hx Ax0 cx0 Gx3 cx3 csx3 p1 fx0 fx3)
  · intro rec_tidepolelaw13_rising_l0 ih_tidepolelaw13_rising_l0 ⟨x0, x3, x4, x5, x14⟩ r h S1 w1 hx Ax0 cx0 Gx3 cx3 csx3 p1 fx0 fx3 junk
    dsimp only at h
    by_cases h5 : x14 = true
    · rw [if_pos h5] at h
      rw [h5]
      refine Goes.runs 9 [(17, .int .u64 x4), (18, .slice Ax0 x0.length cx0), (19, .int .i64 x5)] [.inRegion (opsOf (sub [1, 1, 1, 0, 1, 0, 0, 1, 0, 0, 0] B9)) [3, 4, 5, 6, 7, 8], .code (sub [1, 1, 1, 0, 1, 0, 0, 1, 0, 0, 1] B9), .inBlock 1, .code (sub [1, 1, 1, 0, 1, 0, 0, 1, 1] B9), .inLoop (sub [1, 1, 1, 0, 1, 0, 0] B9), .inBlock 0, .code (sub [1, 1, 1, 1] B9)] (by kernel_rfl) ?_
      obtain ⟨g6, h⟩ := guard_some h
      obtain ⟨g7, h⟩ := guard_some h
      refine Op_.ixR 22 (.tmp 18) (.tmp 19) 20 0 35 .i64 x5 fx0 (Goes.vs (by kernel_rfl)) (by kernel_rfl) (by kernel_rfl) (by kernel_rfl) (by kernel_rfl) g6 g7 ?_
      rintro a8 _ f9 rfl
      refine Op_.ld1 35 (.tmp 20) 21 35 a8 (.int .u64 (gi x0 x5)) (Goes.vs (by kernel_rfl)) (by kernel_rfl) (by kernel_rfl) (f9.cell 0 _ rfl) ?_
      refine Goes.runs 8 [(22, .int .u64 (irem .u64 (gi x0 x5) 5)), (23, .int .u64 (wr .u64 (1 + (irem .u64 (gi x0 x5) 5)))), (24, .int .u64 (wr .u64 (x4 + (wr .u64 (1 + (irem .u64 (gi x0 x5) 5)))))), (4, .int .u64 (wr .u64 (x4 + (wr .u64 (1 + (irem .u64 (gi x0 x5) 5)))))), (25, .slice (Gp Gx3) x3.length cx3), (26, .int .u64 (wr .u64 (x4 + (wr .u64 (1 + (irem .u64 (gi x0 x5) 5))))))] [.inRegion (opsOf (sub [1, 1, 1, 0, 1, 0, 0, 1, 0, 0, 1] B9)) [2, 3, 4], .inBlock 1, .code (sub [1, 1, 1, 0, 1, 0, 0, 1, 1] B9), .inLoop (sub [1, 1, 1, 0, 1, 0, 0] B9), .inBlock 0, .code (sub [1, 1, 1, 1] B9)] (by kernel_rfl) ?_
      have f11 : Els (kInt .u64) S1 w1 ([.int .u64 (wr .u64 (x4 + (wr .u64 (1 + (irem .u64 (gi x0 x5) 5)))))] : List Value) [wr .u64 (x4 + (wr .u64 (1 + (irem .u64 (gi x0 x5) 5))))] := (Els.cons (K := (kInt .u64)) (vs := [.int .u64 (wr .u64 (x4 + (wr .u64 (1 + (irem .u64 (gi x0 x5) 5)))))]) (x := wr .u64 (x4 + (wr .u64 (1 + (irem .u64 (gi x0 x5) 5))))) rfl Els.nil)
      refine Op_.made (.buildSlice 22 1 #[(0, (.tmp 26))]) 27 22 (fun b => .slice (Gp (some b)) 1 1) 35 ([.int .u64 (wr .u64 (x4 + (wr .u64 (1 + (irem .u64 (gi x0 x5) 5)))))] : List Value) p1 (Goes.vs (by kernel_rfl)) (by kernel_rfl) ?_
      intro b10 w3 z3 p3
      have p3 : Hp nz wz S1 w3 (((some b10), .row 35 ([.int .u64 (wr .u64 (x4 + (wr .u64 (1 + (irem .u64 (gi x0 x5) 5)))))] : List Value) (1 * (kInt .u64).size) 0) :: (Gx3, .row 35 csx3 (cx3 * (kInt .u64).size) 0) :: Lr) := p3
      obtain ⟨g16, h⟩ := guard_some h
      refine Op_.ap (K := (kInt .u64)) 22 (.tmp 25) (.tmp 27) 28 22 35 1 (.int .u64 0) 8 cx3 x3 [wr .u64 (x4 + (wr .u64 (1 + (irem .u64 (gi x0 x5) 5))))] (Gp (some b10)) 1 p3 rfl (fx3.ext z3) (Goes.vs (by kernel_rfl)) (by kernel_rfl) (by kernel_rfl) (by kernel_rfl) (by kernel_rfl) rfl (by decide) (f11.ext z3) (src_own p3 (q := 0) rfl) (by have := g16; omega) (by have := g16; omega) ?_
      intro w4 G17 c18 cs19 z4 p4 f20
      refine Goes.runs 9 [(3, .slice (Gp G17) (x3 ++ [wr .u64 (x4 + (wr .u64 (1 + (irem .u64 (gi x0 x5) 5))))]).length c18), (15, .int .i64 x5), (16, .int .i64 (wr .i64 (x5 + 1))), (5, .int .i64 (wr .i64 (x5 + 1)))] [.code (sub [1, 1, 1, 0, 1, 0, 0] B9), .inLoop (sub [1, 1, 1, 0, 1, 0, 0] B9), .inBlock 0, .code (sub [1, 1, 1, 1] B9)] (by kernel_rfl) ?_
      have p4 := (p4.front 0 _ rfl).drop
      exact Goes.jump 30 [(0, .slice Ax0 x0.length cx0), (3, .slice (Gp G17) (x3 ++ [wr .u64 (x4 + (wr .u64 (1 + (irem .u64 (gi x0 x5) 5))))]).length c18), (4, .int .u64 (wr .u64 (x4 + (wr .u64 (1 + (irem .u64 (gi x0 x5) 5)))))), (5, .int .i64 (wr .i64 (x5 + 1)))] (by kernel_rfl) (ih_tidepolelaw13_rising_l0 _ _ h _ _ ((hx.trans z3).trans z4) Ax0 cx0 G17 c18 cs19 p4 ((fx0.ext z3).ext z4) f20)
    · rw [if_neg h5] at h
      have h5' : x14 = false := by simpa using h5
      rw [h5']
      refine Goes.runs 7 [(29, .slice (Gp Gx3) x3.length cx3), (2, .slice (Gp Gx3) x3.length cx3)] [.code (sub [1, 1, 1, 1, 1] B9)] (by kernel_rfl) ?_
      obtain rfl := Option.some.inj h
      exact Goes.ret (fn := Try.f9) (by kernel_rfl) (v := .slice (Gp Gx3) x3.length cx3) (by kernel_rfl) ⟨S1, Gx3, cx3, csx3, rfl, hx, p1, fx3⟩

theorem W.tidepolelaw13_rising_l0 (nz : Nat) (wz : World) (S0 : Fz) (w0 : World) (Lr : List Ent) : ∀ a r, M.tidepolelaw13_rising_l0 a = some r → L.tidepolelaw13_rising_l0 nz wz S0 w0 Lr a r := (W.tidepolelaw13_rising_l0_all nz wz S0 w0 Lr).1

theorem W.tidepolelaw13_rising_l1 (nz : Nat) (wz : World) (S0 : Fz) (w0 : World) (Lr : List Ent) : ∀ a r, M.tidepolelaw13_rising_l1 a = some r → L.tidepolelaw13_rising_l1 nz wz S0 w0 Lr a r := (W.tidepolelaw13_rising_l0_all nz wz S0 w0 Lr).2

theorem W.tidepolelaw13_rising (x0 : List Int) (r : List Int) (h : M.tidepolelaw13_rising x0 = some r) (nz : Nat) (wz : World) (S0 : Fz) (w0 : World) (Lr : List Ent) (Ax0 : Option Addr) (cx0 : Nat) (p0 : Hp nz wz S0 w0 (Lr)) (fx0 : Rd (kInt .u64) S0 w0 Ax0 cx0 x0) :
    Calls Try.prog 9 #[.slice Ax0 x0.length cx0] w0 (Rets (Post.tidepolelaw13_rising nz wz S0 w0 Lr r)) := by
  refine calls_of_goes (fn := Try.f9) (c := B9) (by kernel_rfl) (by kernel_rfl) 29 (by kernel_rfl) ?_
  refine Goes.jump 30 [(0, .slice Ax0 x0.length cx0)] (by kernel_rfl) (fun junk => ?_)
  delta M.tidepolelaw13_rising at h
  refine Goes.runs 6 [(2, .slice none 0 0)] [.inRegion (opsOf (sub [1, 0] B9)) [0, 1], .code (sub [1, 1] B9)] (by kernel_rfl) ?_
  have f2 : Els (kInt .u64) S0 w0 ([] : List Value) ([] : List Int) := Els.nil
  refine Op_.made (.buildSlice 22 0 #[]) 6 22 (fun b => .slice (Gp (some b)) 0 0) 35 ([] : List Value) p0 (Goes.vs (by kernel_rfl)) (by kernel_rfl) ?_
  intro b1 w2 z2 p2
  have p2 : Hp nz wz S0 w2 (((some b1), .row 35 ([] : List Value) (0 * (kInt .u64).size) 0) :: Lr) := p2
  refine Goes.runs 13 [(3, .slice (Gp (some b1)) ([] : List Int).length 0), (4, .int .u64 0), (5, .int .i64 0)] [.code (sub [1, 1, 1, 0, 1, 0, 0] B9), .inLoop (sub [1, 1, 1, 0, 1, 0, 0] B9), .inBlock 0, .code (sub [1, 1, 1, 1] B9)] (by kernel_rfl) ?_
  exact Goes.jump 30 [(0, .slice Ax0 x0.length cx0), (3, .slice (Gp (some b1)) ([] : List Int).length 0), (4, .int .u64 0), (5, .int .i64 0)] (by kernel_rfl) (W.tidepolelaw13_rising_l0 nz wz S0 w0 Lr _ _ h _ _ ((Ext.refl S0 w0).trans z2) Ax0 cx0 (some b1) 0 ([] : List Value) p2 (fx0.ext z2) (f2.ext z2))

/-! tidepole/tidepolelaw13.and -/
def Post.tidepolelaw13_and (nz : Nat) (wz : World) (S0 : Fz) (w0 : World) (Lr : List Ent) (r : List Int) (v : Value) (w' : World) : Prop :=
  ∃ (S' : Fz) (G1 : Option Nat) (c2 : Nat) (cs3 : List Value), v = .slice (Gp G1) r.length c2 ∧ Ext S0 w0 S' w' ∧ Hp nz wz S' w' ((G1, .row 35 cs3 (c2 * (kInt .u64).size) 0) :: Lr) ∧ Els (kInt .u64) S' w' cs3 r

theorem W.tidepolelaw13_and (x0 : List (List Int)) (r : List Int) (h : M.tidepolelaw13_and x0 = some r) (nz : Nat) (wz : World) (S0 : Fz) (w0 : World) (Lr : List Ent) (Ax0 : Option Addr) (cx0 : Nat) (p0 : Hp nz wz S0 w0 (Lr)) (fx0 : Rd (kSl (kInt .u64)) S0 w0 Ax0 cx0 x0) :
    Calls Try.prog 12 #[.slice Ax0 x0.length cx0] w0 (Rets (Post.tidepolelaw13_and nz wz S0 w0 Lr r)) := by
  refine calls_of_goes (fn := Try.f12) (c := B12) (by kernel_rfl) (by kernel_rfl) 10 (by kernel_rfl) ?_
  refine Goes.jump 11 [(0, .slice Ax0 x0.length cx0)] (by kernel_rfl) (fun junk => ?_)
  delta M.tidepolelaw13_and at h
  refine Goes.runs 7 [(2, .slice none 0 0), (6, .slice Ax0 x0.length cx0)] [.inRegion (opsOf (sub [1, 0] B12)) [1, 2, 3, 4, 5, 6], .code (sub [1, 1] B12)] (by kernel_rfl) ?_
  obtain ⟨y1, e2, h⟩ := bind_some h
  try dsimp only at h
  refine Op_.call (.call { callee := .value (.func 19), args := #[(.tmp 6)], argTypes := #[38] }) 7 26 19 #[.slice Ax0 x0.length cx0] (Goes.cs (by kernel_rfl)) (by kernel_rfl) (W.post_And x0 y1 e2 nz wz S0 w0 (Lr) Ax0 cx0 p0 fx0) ?_
  rintro _ w2 ⟨S2, G3, c4, cs5, rfl, z2, p2, f7⟩
  refine Goes.runs 11 [(5, .tuple #[.slice (Gp G3) y1.1.length c4, .int .i64 y1.2]), (8, .slice (Gp G3) y1.1.length c4), (9, .int .i64 y1.2), (3, .slice (Gp G3) y1.1.length c4), (4, .int .i64 y1.2), (10, .slice (Gp G3) y1.1.length c4), (2, .slice (Gp G3) y1.1.length c4)] [.code (sub [1, 1, 1] B12)] (by kernel_rfl) ?_
  obtain rfl := Option.some.inj h
  exact Goes.ret (fn := Try.f12) (by kernel_rfl) (v := .slice (Gp G3) y1.1.length c4) (by kernel_rfl) ⟨S2, G3, c4, cs5, rfl, ((Ext.refl S0 w0).trans z2), p2, f7⟩

/-! tidepole/tidepolelaw13.or -/
def Post.tidepolelaw13_or (nz : Nat) (wz : World) (S0 : Fz) (w0 : World) (Lr : List Ent) (r : List Int) (v : Value) (w' : World) : Prop :=
  ∃ (S' : Fz) (G1 : Option Nat) (c2 : Nat) (cs3 : List Value), v = .slice (Gp G1) r.length c2 ∧ Ext S0 w0 S' w' ∧ Hp nz wz S' w' ((G1, .row 35 cs3 (c2 * (kInt .u64).size) 0) :: Lr) ∧ Els (kInt .u64) S' w' cs3 r

theorem W.tidepolelaw13_or (x0 : List (List Int)) (r : List Int) (h : M.tidepolelaw13_or x0 = some r) (nz : Nat) (wz : World) (S0 : Fz) (w0 : World) (Lr : List Ent) (Ax0 : Option Addr) (cx0 : Nat) (p0 : Hp nz wz S0 w0 (Lr)) (fx0 : Rd (kSl (kInt .u64)) S0 w0 Ax0 cx0 x0) :
    Calls Try.prog 13 #[.slice Ax0 x0.length cx0] w0 (Rets (Post.tidepolelaw13_or nz wz S0 w0 Lr r)) := by
  refine calls_of_goes (fn := Try.f13) (c := B13) (by kernel_rfl) (by kernel_rfl) 10 (by kernel_rfl) ?_
  refine Goes.jump 11 [(0, .slice Ax0 x0.length cx0)] (by kernel_rfl) (fun junk => ?_)
  delta M.tidepolelaw13_or at h
  refine Goes.runs 7 [(2, .slice none 0 0), (6, .slice Ax0 x0.length cx0)] [.inRegion (opsOf (sub [1, 0] B13)) [1, 2, 3, 4, 5, 6], .code (sub [1, 1] B13)] (by kernel_rfl) ?_
  obtain ⟨y1, e2, h⟩ := bind_some h
  try dsimp only at h
  refine Op_.call (.call { callee := .value (.func 20), args := #[(.tmp 6)], argTypes := #[38] }) 7 26 20 #[.slice Ax0 x0.length cx0] (Goes.cs (by kernel_rfl)) (by kernel_rfl) (W.post_Or x0 y1 e2 nz wz S0 w0 (Lr) Ax0 cx0 p0 fx0) ?_
  rintro _ w2 ⟨S2, G3, c4, cs5, rfl, z2, p2, f7⟩
  refine Goes.runs 11 [(5, .tuple #[.slice (Gp G3) y1.1.length c4, .int .i64 y1.2]), (8, .slice (Gp G3) y1.1.length c4), (9, .int .i64 y1.2), (3, .slice (Gp G3) y1.1.length c4), (4, .int .i64 y1.2), (10, .slice (Gp G3) y1.1.length c4), (2, .slice (Gp G3) y1.1.length c4)] [.code (sub [1, 1, 1] B13)] (by kernel_rfl) ?_
  obtain rfl := Option.some.inj h
  exact Goes.ret (fn := Try.f13) (by kernel_rfl) (v := .slice (Gp G3) y1.1.length c4) (by kernel_rfl) ⟨S2, G3, c4, cs5, rfl, ((Ext.refl S0 w0).trans z2), p2, f7⟩

/-! tidepole/tidepolelaw13.PostSets -/
def Post.tidepolelaw13_PostSets (nz : Nat) (wz : World) (S0 : Fz) (w0 : World) (Lr : List Ent) (r : Bool) (v : Value) (w' : World) : Prop :=
  ∃ (S' : Fz) , v = .bool r ∧ Ext S0 w0 S' w' ∧ Hp nz wz S' w' (Lr)

theorem W.tidepolelaw13_PostSets (x0 : List Int) (x1 : List Int) (x2 : List Int) (r : Bool) (h : M.tidepolelaw13_PostSets x0 x1 x2 = some r) (nz : Nat) (wz : World) (S0 : Fz) (w0 : World) (Lr : List Ent) (Ax0 : Option Addr) (cx0 : Nat) (Ax1 : Option Addr) (cx1 : Nat) (Ax2 : Option Addr) (cx2 : Nat) (p0 : Hp nz wz S0 w0 (Lr)) (fx0 : Rd (kInt .u64) S0 w0 Ax0 cx0 x0) (fx1 : Rd (kInt .u64) S0 w0 Ax1 cx1 x1) (fx2 : Rd (kInt .u64) S0 w0 Ax2 cx2 x2) :
    Calls Try.prog 3 #[.slice Ax0 x0.length cx0, .slice Ax1 x1.length cx1, .slice Ax2 x2.length cx2] w0 (Rets (Post.tidepolelaw13_PostSets nz wz S0 w0 Lr r)) := by
  refine calls_of_goes (fn := Try.f3) (c := B3) (by kernel_rfl) (by kernel_rfl) 107 (by kernel_rfl) ?_
  refine Goes.jump 110 [(0, .slice Ax0 x0.length cx0), (1, .slice Ax1 x1.length cx1), (2, .slice Ax2 x2.length cx2)] (by kernel_rfl) (fun junk => ?_)
  delta M.tidepolelaw13_PostSets at h
  refine Goes.runs 7 [(6, .bool false)] [.inRegion (opsOf (sub [1, 0, 0] B3)) [0, 1], .code (sub [1, 0, 1] B3), .code (sub [1, 1] B3)] (by kernel_rfl) ?_
  obtain ⟨y1, e2, h⟩ := bind_some h
  try dsimp only at h
  refine Op_.call (.call { callee := .value (.func 8), args := #[], argTypes := #[] }) 9 4 8 #[] (Goes.cs (by kernel_rfl)) (by kernel_rfl) (W.tidepolelaw13_works  y1 e2 nz wz S0 w0 (Lr)  p0 ) ?_
  rintro _ w2 ⟨S2, rfl, z2, p2⟩
  refine Goes.runs 2 [(10, .bool (!y1))] [.code (sub [1, 0, 1] B3), .code (sub [1, 1] B3)] (by kernel_rfl) ?_
  by_cases h3 : y1 = true
  · rw [if_pos h3] at h
    rw [h3]
    refine Goes.runs 5 [(11, .slice Ax0 x0.length cx0)] [.inRegion (opsOf (sub [1, 1, 0] B3)) [1, 2, 3, 4, 5, 6, 7, 8], .code (sub [1, 1, 1] B3)] (by kernel_rfl) ?_
    obtain ⟨y4, e5, h⟩ := bind_some h
    try dsimp only at h
    refine Op_.call (.call { callee := .value (.func 9), args := #[(.tmp 11)], argTypes := #[22] }) 12 22 9 #[.slice Ax0 x0.length cx0] (Goes.cs (by kernel_rfl)) (by kernel_rfl) (W.tidepolelaw13_rising x0 y4 e5 nz wz S2 w2 (Lr) Ax0 cx0 p2 (fx0.ext z2)) ?_
    rintro _ w3 ⟨S3, G6, c7, cs8, rfl, z3, p3, f10⟩
    refine Goes.runs 1 [(13, .slice Ax1 x1.length cx1)] [.inRegion (opsOf (sub [1, 1, 0] B3)) [3, 4, 5, 6, 7, 8], .code (sub [1, 1, 1] B3)] (by kernel_rfl) ?_
    obtain ⟨y12, e13, h⟩ := bind_some h
    try dsimp only at h
    refine Op_.call (.call { callee := .value (.func 9), args := #[(.tmp 13)], argTypes := #[22] }) 14 22 9 #[.slice Ax1 x1.length cx1] (Goes.cs (by kernel_rfl)) (by kernel_rfl) (W.tidepolelaw13_rising x1 y12 e13 nz wz S3 w3 ((G6, .row 35 cs8 (c7 * (kInt .u64).size) 0) :: Lr) Ax1 cx1 p3 ((fx1.ext z2).ext z3)) ?_
    rintro _ w4 ⟨S4, G14, c15, cs16, rfl, z4, p4, f18⟩
    refine Goes.runs 1 [(15, .slice Ax2 x2.length cx2)] [.inRegion (opsOf (sub [1, 1, 0] B3)) [5, 6, 7, 8], .code (sub [1, 1, 1] B3)] (by kernel_rfl) ?_
    obtain ⟨y20, e21, h⟩ := bind_some h
    try dsimp only at h
    refine Op_.call (.call { callee := .value (.func 9), args := #[(.tmp 15)], argTypes := #[22] }) 16 22 9 #[.slice Ax2 x2.length cx2] (Goes.cs (by kernel_rfl)) (by kernel_rfl) (W.tidepolelaw13_rising x2 y20 e21 nz wz S4 w4 ((G14, .row 35 cs16 (c15 * (kInt .u64).size) 0) :: (G6, .row 35 cs8 (c7 * (kInt .u64).size) 0) :: Lr) Ax2 cx2 p4 (((fx2.ext z2).ext z3).ext z4)) ?_
    rintro _ w5 ⟨S5, G22, c23, cs24, rfl, z5, p5, f26⟩
    refine Goes.runs 8 [(0, .slice (Gp G6) y4.length c7), (1, .slice (Gp G14) y12.length c15), (2, .slice (Gp G22) y20.length c23), (18, .slice (Gp G6) y4.length c7), (19, .slice (Gp G14) y12.length c15)] [.inRegion (opsOf (sub [1, 1, 1, 0] B3)) [2, 3, 4, 5, 6, 7], .code (sub [1, 1, 1, 1] B3)] (by kernel_rfl) ?_
    obtain ⟨S6, z6, p6, f28⟩ := p5.freezeRd 2 rfl ((f10.ext z4).ext z5) (by decide)
    obtain ⟨S7, z7, p7, f29⟩ := p6.freezeRd 1 rfl ((f18.ext z5).ext z6) (by decide)
    obtain ⟨y30, e31, h⟩ := bind_some h
    try dsimp only at h
    refine Op_.call (.call { callee := .value (.func 10), args := #[(.tmp 18), (.tmp 19)], argTypes := #[22, 22] }) 20 26 10 #[.slice (Gp G6) y4.length c7, .slice (Gp G14) y12.length c15] (Goes.cs (by kernel_rfl)) (by kernel_rfl) (W.post_But y4 y12 y30 e31 nz wz S7 w5 ((G22, .row 35 cs24 (c23 * (kInt .u64).size) 0) :: (G14, .row 35 cs16 (c15 * (kInt .u64).size) cs16.length) :: (G6, .row 35 cs8 (c7 * (kInt .u64).size) cs8.length) :: Lr) (Gp G6) c7 (Gp G14) c15 p7 (f28.ext z7) f29) ?_
    rintro _ w8 ⟨S8, G32, c33, cs34, rfl, z8, p8, f36⟩
    have p8 := (p8.front 2 _ rfl).drop
    have p8 := (p8.front 2 _ rfl).drop
    refine Goes.runs 11 [(17, .tuple #[.slice (Gp G32) y30.1.length c33, .int .i64 y30.2]), (21, .slice (Gp G32) y30.1.length c33), (22, .int .i64 y30.2), (7, .slice (Gp G32) y30.1.length c33), (8, .int .i64 y30.2), (23, .slice (Gp G6) y4.length c7), (24, .slice (Gp G14) y12.length c15), (25, .slice (Gp G22) y20.length c23)] [.inRegion (opsOf (sub [1, 1, 1, 1, 0] B3)) [3, 4, 5, 6, 7, 8, 9, 10, 11, 12, 13, 14, 15, 16, 17, 18, 19, 20, 21, 22, 23, 24, 25, 26, 27, 28, 29, 30, 31, 32, 33, 34, 35, 36, 37, 38, 39, 40, 41, 42, 43, 44, 45, 46, 47, 48, 49, 50, 51, 52, 53, 54, 55, 56, 57, 58, 59, 60, 61, 62, 63, 64, 65, 66, 67, 68, 69, 70, 71, 72, 73, 74, 75, 76, 77, 78, 79, 80, 81, 82, 83, 84, 85, 86, 87], .code (sub [1, 1, 1, 1, 1] B3)] (by kernel_rfl) ?_
    obtain ⟨S9, z9, p9, f38⟩ := p8.freezeRd 1 rfl (((f26.ext z6).ext z7).ext z8) (by decide)
    have f40 : Els (kSl (kInt .u64)) S9 w8 ([.slice (Gp G6) y4.length c7, .slice (Gp G14) y12.length c15, .slice (Gp G22) y20.length c23] : List Value) [y4, y12, y20] := (Els.cons (K := (kSl (kInt .u64))) (vs := [.slice (Gp G6) y4.length c7]) (x := y4) ⟨_, _, rfl, (((f28.ext z7).ext z8).ext z9)⟩ (Els.cons (K := (kSl (kInt .u64))) (vs := [.slice (Gp G14) y12.length c15]) (x := y12) ⟨_, _, rfl, ((f29.ext z8).ext z9)⟩ (Els.cons (K := (kSl (kInt .u64))) (vs := [.slice (Gp G22) y20.length c23]) (x := y20) ⟨_, _, rfl, f38⟩ Els.nil)))
    refine Op_.made (.buildSlice 38 3 #[(0, (.tmp 23)), (1, (.tmp 24)), (2, (.tmp 25))]) 26 38 (fun b => .slice (Gp (some b)) 3 3) 22 ([.slice (Gp G6) y4.length c7, .slice (Gp G14) y12.length c15, .slice (Gp G22) y20.length c23] : List Value) p9 (Goes.vs (by kernel_rfl)) (by kernel_rfl) ?_
    intro b39 w10 z10 p10
    have p10 : Hp nz wz S9 w10 (((some b39), .row 22 ([.slice (Gp G6) y4.length c7, .slice (Gp G14) y12.length c15, .slice (Gp G22) y20.length c23] : List Value) (3 * (kSl (kInt .u64)).size) 0) :: (G32, .row 35 cs34 (c33 * (kInt .u64).size) 0) :: (G22, .row 35 cs24 (c23 * (kInt .u64).size) cs24.length) :: Lr) := p10
    obtain ⟨S11, z11, p11, f42⟩ := p10.freezeRd 0 rfl (f40.ext z10) (by decide)
    obtain ⟨y43, e44, h⟩ := bind_some h
    try dsimp only at h
    refine Op_.call (.call { callee := .value (.func 12), args := #[(.tmp 26)], argTypes := #[38] }) 27 22 12 #[.slice (Gp (some b39)) [y4, y12, y20].length 3] (Goes.cs (by kernel_rfl)) (by kernel_rfl) (W.tidepolelaw13_and [y4, y12, y20] y43 e44 nz wz S11 w10 (((some b39), .row 22 ([.slice (Gp G6) y4.length c7, .slice (Gp G14) y12.length c15, .slice (Gp G22) y20.length c23] : List Value) (3 * (kSl (kInt .u64)).size) (([.slice (Gp G6) y4.length c7, .slice (Gp G14) y12.length c15, .slice (Gp G22) y20.length c23] : List Value).length)) :: (G32, .row 35 cs34 (c33 * (kInt .u64).size) 0) :: (G22, .row 35 cs24 (c23 * (kInt .u64).size) cs24.length) :: Lr) (Gp (some b39)) 3 p11 f42) ?_
    rintro _ w12 ⟨S12, G45, c46, cs47, rfl, z12, p12, f49⟩
    have p12 := (p12.front 1 _ rfl).drop
    have p12 := (p12.front 2 _ rfl).drop
    refine Goes.runs 3 [(28, .slice (Gp G22) y20.length c23), (29, .slice (Gp G6) y4.length c7), (30, .slice (Gp G14) y12.length c15)] [.inRegion (opsOf (sub [1, 1, 1, 1, 0] B3)) [8, 9, 10, 11, 12, 13, 14, 15, 16, 17, 18, 19, 20, 21, 22, 23, 24, 25, 26, 27, 28, 29, 30, 31, 32, 33, 34, 35, 36, 37, 38, 39, 40, 41, 42, 43, 44, 45, 46, 47, 48, 49, 50, 51, 52, 53, 54, 55, 56, 57, 58, 59, 60, 61, 62, 63, 64, 65, 66, 67, 68, 69, 70, 71, 72, 73, 74, 75, 76, 77, 78, 79, 80, 81, 82, 83, 84, 85, 86, 87], .code (sub [1, 1, 1, 1, 1] B3)] (by kernel_rfl) ?_
    have f52 : Els (kSl (kInt .u64)) S12 w12 ([.slice (Gp G22) y20.length c23, .slice (Gp G6) y4.length c7, .slice (Gp G14) y12.length c15] : List Value) [y20, y4, y12] := (Els.cons (K := (kSl (kInt .u64))) (vs := [.slice (Gp G22) y20.length c23]) (x := y20) ⟨_, _, rfl, (((f38.ext z10).ext z11).ext z12)⟩ (Els.cons (K := (kSl (kInt .u64))) (vs := [.slice (Gp G6) y4.length c7]) (x := y4) ⟨_, _, rfl, ((((((f28.ext z7).ext z8).ext z9).ext z10).ext z11).ext z12)⟩ (Els.cons (K := (kSl (kInt .u64))) (vs := [.slice (Gp G14) y12.length c15]) (x := y12) ⟨_, _, rfl, (((((f29.ext z8).ext z9).ext z10).ext z11).ext z12)⟩ Els.nil)))
    refine Op_.made (.buildSlice 38 3 #[(0, (.tmp 28)), (1, (.tmp 29)), (2, (.tmp 30))]) 31 38 (fun b => .slice (Gp (some b)) 3 3) 22 ([.slice (Gp G22) y20.length c23, .slice (Gp G6) y4.length c7, .slice (Gp G14) y12.length c15] : List Value) p12 (Goes.vs (by kernel_rfl)) (by kernel_rfl) ?_
    intro b51 w13 z13 p13
    have p13 : Hp nz wz S12 w13 (((some b51), .row 22 ([.slice (Gp G22) y20.length c23, .slice (Gp G6) y4.length c7, .slice (Gp G14) y12.length c15] : List Value) (3 * (kSl (kInt .u64)).size) 0) :: (G45, .row 35 cs47 (c46 * (kInt .u64).size) 0) :: (G32, .row 35 cs34 (c33 * (kInt .u64).size) 0) :: Lr) := p13
    obtain ⟨S14, z14, p14, f54⟩ := p13.freezeRd 0 rfl (f52.ext z13) (by decide)
    obtain ⟨y55, e56, h⟩ := bind_some h
    try dsimp only at h
    refine Op_.call (.call { callee := .value (.func 12), args := #[(.tmp 31)], argTypes := #[38] }) 32 22 12 #[.slice (Gp (some b51)) [y20, y4, y12].length 3] (Goes.cs (by kernel_rfl)) (by kernel_rfl) (W.tidepolelaw13_and [y20, y4, y12] y55 e56 nz wz S14 w13 (((some b51), .row 22 ([.slice (Gp G22) y20.length c23, .slice (Gp G6) y4.length c7, .slice (Gp G14) y12.length c15] : List Value) (3 * (kSl (kInt .u64)).size) (([.slice (Gp G22) y20.length c23, .slice (Gp G6) y4.length c7, .slice (Gp G14) y12.length c15] : List Value).length)) :: (G45, .row 35 cs47 (c46 * (kInt .u64).size) 0) :: (G32, .row 35 cs34 (c33 * (kInt .u64).size) 0) :: Lr) (Gp (some b51)) 3 p14 f54) ?_
    rintro _ w15 ⟨S15, G57, c58, cs59, rfl, z15, p15, f61⟩
    have p15 := (p15.front 1 _ rfl).drop
    obtain ⟨S16, z16, p16, f63⟩ := p15.freezeRd 1 rfl (((f49.ext z13).ext z14).ext z15) (by decide)
    obtain ⟨S17, z17, p17, f64⟩ := p16.freezeRd 0 rfl (f61.ext z16) (by decide)
    obtain ⟨y65, e66, h⟩ := bind_some h
    try dsimp only at h
    refine Op_.call (.call { callee := .value (.func 11), args := #[(.tmp 27), (.tmp 32)], argTypes := #[22, 22] }) 33 4 11 #[.slice (Gp G45) y43.length c46, .slice (Gp G57) y55.length c58] (Goes.cs (by kernel_rfl)) (by kernel_rfl) (W.tidepolelaw13_same y43 y55 y65 e66 nz wz S17 w15 ((G57, .row 35 cs59 (c58 * (kInt .u64).size) cs59.length) :: (G45, .row 35 cs47 (c46 * (kInt .u64).size) cs47.length) :: (G32, .row 35 cs34 (c33 * (kInt .u64).size) 0) :: Lr) (Gp G45) c46 (Gp G57) c58 p17 (f63.ext z17) f64) ?_
    rintro _ w18 ⟨S18, rfl, z18, p18⟩
    have p18 := (p18.front 0 _ rfl).drop
    have p18 := (p18.front 0 _ rfl).drop
    refine Goes.runs 1 [(34, .bool y65)] [.inRegion (opsOf (sub [1, 1, 1, 1, 0] B3)) [12, 13, 14, 15, 16, 17, 18, 19, 20, 21, 22, 23, 24, 25, 26, 27, 28, 29, 30, 31, 32, 33, 34, 35, 36, 37, 38, 39, 40, 41, 42, 43, 44, 45, 46, 47, 48, 49, 50, 51, 52, 53, 54, 55, 56, 57, 58, 59, 60, 61, 62, 63, 64, 65, 66, 67, 68, 69, 70, 71, 72, 73, 74, 75, 76, 77, 78, 79, 80, 81, 82, 83, 84, 85, 86, 87], .code (sub [1, 1, 1, 1, 1] B3)] (by kernel_rfl) ?_
    by_cases h67 : y65 = true
    · rw [if_pos h67] at h
      rw [h67]
      refine Goes.runs 3 [(35, .slice (Gp G6) y4.length c7), (36, .slice (Gp G14) y12.length c15), (37, .slice (Gp G22) y20.length c23)] [.inRegion (opsOf (sub [1, 1, 1, 1, 0] B3)) [15, 16, 17, 18, 19, 20, 21, 22, 23, 24, 25, 26, 27, 28, 29, 30, 31, 32, 33, 34, 35, 36, 37, 38, 39, 40, 41, 42, 43, 44, 45, 46, 47, 48, 49, 50, 51, 52, 53, 54, 55, 56, 57, 58, 59, 60, 61, 62, 63, 64, 65, 66, 67, 68, 69, 70, 71, 72, 73, 74, 75, 76, 77, 78, 79, 80, 81, 82, 83, 84, 85, 86, 87], .code (sub [1, 1, 1, 1, 1] B3)] (by kernel_rfl) ?_
      have f69 : Els (kSl (kInt .u64)) S18 w18 ([.slice (Gp G6) y4.length c7, .slice (Gp G14) y12.length c15, .slice (Gp G22) y20.length c23] : List Value) [y4, y12, y20] := (Els.cons (K := (kSl (kInt .u64))) (vs := [.slice (Gp G6) y4.length c7]) (x := y4) ⟨_, _, rfl, ((((((((((((f28.ext z7).ext z8).ext z9).ext z10).ext z11).ext z12).ext z13).ext z14).ext z15).ext z16).ext z17).ext z18)⟩ (Els.cons (K := (kSl (kInt .u64))) (vs := [.slice (Gp G14) y12.length c15]) (x := y12) ⟨_, _, rfl, (((((((((((f29.ext z8).ext z9).ext z10).ext z11).ext z12).ext z13).ext z14).ext z15).ext z16).ext z17).ext z18)⟩ (Els.cons (K := (kSl (kInt .u64))) (vs := [.slice (Gp G22) y20.length c23]) (x := y20) ⟨_, _, rfl, (((((((((f38.ext z10).ext z11).ext z12).ext z13).ext z14).ext z15).ext z16).ext z17).ext z18)⟩ Els.nil)))
      refine Op_.made (.buildSlice 38 3 #[(0, (.tmp 35)), (1, (.tmp 36)), (2, (.tmp 37))]) 38 38 (fun b => .slice (Gp (some b)) 3 3) 22 ([.slice (Gp G6) y4.length c7, .slice (Gp G14) y12.length c15, .slice (Gp G22) y20.length c23] : List Value) p18 (Goes.vs (by kernel_rfl)) (by kernel_rfl) ?_
      intro b68 w19 z19 p19
      have p19 : Hp nz wz S18 w19 (((some b68), .row 22 ([.slice (Gp G6) y4.length c7, .slice (Gp G14) y12.length c15, .slice (Gp G22) y20.length c23] : List Value) (3 * (kSl (kInt .u64)).size) 0) :: (G32, .row 35 cs34 (c33 * (kInt .u64).size) 0) :: Lr) := p19
      obtain ⟨S20, z20, p20, f71⟩ := p19.freezeRd 0 rfl (f69.ext z19) (by decide)
      obtain ⟨y72, e73, h⟩ := bind_some h
      try dsimp only at h
      refine Op_.call (.call { callee := .value (.func 13), args := #[(.tmp 38)], argTypes := #[38] }) 39 22 13 #[.slice (Gp (some b68)) [y4, y12, y20].length 3] (Goes.cs (by kernel_rfl)) (by kernel_rfl) (W.tidepolelaw13_or [y4, y12, y20] y72 e73 nz wz S20 w19 (((some b68), .row 22 ([.slice (Gp G6) y4.length c7, .slice (Gp G14) y12.length c15, .slice (Gp G22) y20.length c23] : List Value) (3 * (kSl (kInt .u64)).size) (([.slice (Gp G6) y4.length c7, .slice (Gp G14) y12.length c15, .slice (Gp G22) y20.length c23] : List Value).length)) :: (G32, .row 35 cs34 (c33 * (kInt .u64).size) 0) :: Lr) (Gp (some b68)) 3 p20 f71) ?_
      rintro _ w21 ⟨S21, G74, c75, cs76, rfl, z21, p21, f78⟩
      have p21 := (p21.front 1 _ rfl).drop
      refine Goes.runs 3 [(40, .slice (Gp G22) y20.length c23), (41, .slice (Gp G14) y12.length c15), (42, .slice (Gp G6) y4.length c7)] [.inRegion (opsOf (sub [1, 1, 1, 1, 0] B3)) [20, 21, 22, 23, 24, 25, 26, 27, 28, 29, 30, 31, 32, 33, 34, 35, 36, 37, 38, 39, 40, 41, 42, 43, 44, 45, 46, 47, 48, 49, 50, 51, 52, 53, 54, 55, 56, 57, 58, 59, 60, 61, 62, 63, 64, 65, 66, 67, 68, 69, 70, 71, 72, 73, 74, 75, 76, 77, 78, 79, 80, 81, 82, 83, 84, 85, 86, 87], .code (sub [1, 1, 1, 1, 1] B3)] (by kernel_rfl) ?_
      have f81 : Els (kSl (kInt .u64)) S21 w21 ([.slice (Gp G22) y20.length c23, .slice (Gp G14) y12.length c15, .slice (Gp G6) y4.length c7] : List Value) [y20, y12, y4] := (Els.cons (K := (kSl (kInt .u64))) (vs := [.slice (Gp G22) y20.length c23]) (x := y20) ⟨_, _, rfl, ((((((((((((f38.ext z10).ext z11).ext z12).ext z13).ext z14).ext z15).ext z16).ext z17).ext z18).ext z19).ext z20).ext z21)⟩ (Els.cons (K := (kSl (kInt .u64))) (vs := [.slice (Gp G14) y12.length c15]) (x := y12) ⟨_, _, rfl, ((((((((((((((f29.ext z8).ext z9).ext z10).ext z11).ext z12).ext z13).ext z14).ext z15).ext z16).ext z17).ext z18).ext z19).ext z20).ext z21)⟩ (Els.cons (K := (kSl (kInt .u64))) (vs := [.slice (Gp G6) y4.length c7]) (x := y4) ⟨_, _, rfl, (((((((((((((((f28.ext z7).ext z8).ext z9).ext z10).ext z11).ext z12).ext z13).ext z14).ext z15).ext z16).ext z17).ext z18).ext z19).ext z20).ext z21)⟩ Els.nil)))
      refine Op_.made (.buildSlice 38 3 #[(0, (.tmp 40)), (1, (.tmp 41)), (2, (.tmp 42))]) 43 38 (fun b => .slice (Gp (some b)) 3 3) 22 ([.slice (Gp G22) y20.length c23, .slice (Gp G14) y12.length c15, .slice (Gp G6) y4.length c7] : List Value) p21 (Goes.vs (by kernel_rfl)) (by kernel_rfl) ?_
      intro b80 w22 z22 p22
      have p22 : Hp nz wz S21 w22 (((some b80), .row 22 ([.slice (Gp G22) y20.length c23, .slice (Gp G14) y12.length c15, .slice (Gp G6) y4.length c7] : List Value) (3 * (kSl (kInt .u64)).size) 0) :: (G74, .row 35 cs76 (c75 * (kInt .u64).size) 0) :: (G32, .row 35 cs34 (c33 * (kInt .u64).size) 0) :: Lr) := p22
      obtain ⟨S23, z23, p23, f83⟩ := p22.freezeRd 0 rfl (f81.ext z22) (by decide)
      obtain ⟨y84, e85, h⟩ := bind_some h
      try dsimp only at h
      refine Op_.call (.call { callee := .value (.func 13), args := #[(.tmp 43)], argTypes := #[38] }) 44 22 13 #[.slice (Gp (some b80)) [y20, y12, y4].length 3] (Goes.cs (by kernel_rfl)) (by kernel_rfl) (W.tidepolelaw13_or [y20, y12, y4] y84 e85 nz wz S23 w22 (((some b80), .row 22 ([.slice (Gp G22) y20.length c23, .slice (Gp G14) y12.length c15, .slice (Gp G6) y4.length c7] : List Value) (3 * (kSl (kInt .u64)).size) (([.slice (Gp G22) y20.length c23, .slice (Gp G14) y12.length c15, .slice (Gp G6) y4.length c7] : List Value).length)) :: (G74, .row 35 cs76 (c75 * (kInt .u64).size) 0) :: (G32, .row 35 cs34 (c33 * (kInt .u64).size) 0) :: Lr) (Gp (some b80)) 3 p23 f83) ?_
      rintro _ w24 ⟨S24, G86, c87, cs88, rfl, z24, p24, f90⟩
      have p24 := (p24.front 1 _ rfl).drop
      obtain ⟨S25, z25, p25, f92⟩ := p24.freezeRd 1 rfl (((f78.ext z22).ext z23).ext z24) (by decide)
      obtain ⟨S26, z26, p26, f93⟩ := p25.freezeRd 0 rfl (f90.ext z25) (by decide)
      obtain ⟨y94, e95, h⟩ := bind_some h
      try dsimp only at h
      refine Op_.call (.call { callee := .value (.func 11), args := #[(.tmp 39), (.tmp 44)], argTypes := #[22, 22] }) 45 4 11 #[.slice (Gp G74) y72.length c75, .slice (Gp G86) y84.length c87] (Goes.cs (by kernel_rfl)) (by kernel_rfl) (W.tidepolelaw13_same y72 y84 y94 e95 nz wz S26 w24 ((G86, .row 35 cs88 (c87 * (kInt .u64).size) cs88.length) :: (G74, .row 35 cs76 (c75 * (kInt .u64).size) cs76.length) :: (G32, .row 35 cs34 (c33 * (kInt .u64).size) 0) :: Lr) (Gp G74) c75 (Gp G86) c87 p26 (f92.ext z26) f93) ?_
      rintro _ w27 ⟨S27, rfl, z27, p27⟩
      have p27 := (p27.front 0 _ rfl).drop
      have p27 := (p27.front 0 _ rfl).drop
      refine Goes.runs 2 [(46, .bool y94), (47, .bool y94)] [.inRegion (opsOf (sub [1, 1, 1, 1, 0] B3)) [25, 26, 27, 28, 29, 30, 31, 32, 33, 34, 35, 36, 37, 38, 39, 40, 41, 42, 43, 44, 45, 46, 47, 48, 49, 50, 51, 52, 53, 54, 55, 56, 57, 58, 59, 60, 61, 62, 63, 64, 65, 66, 67, 68, 69, 70, 71, 72, 73, 74, 75, 76, 77, 78, 79, 80, 81, 82, 83, 84, 85, 86, 87], .code (sub [1, 1, 1, 1, 1] B3)] (by kernel_rfl) ?_
      by_cases h96 : y94 = true
      · rw [if_pos h96] at h
        rw [h96]
        refine Goes.runs 3 [(48, .slice (Gp G6) y4.length c7), (49, .slice (Gp G14) y12.length c15), (50, .slice (Gp G22) y20.length c23)] [.inRegion (opsOf (sub [1, 1, 1, 1, 0] B3)) [28, 29, 30, 31, 32, 33, 34, 35, 36, 37, 38, 39, 40, 41, 42, 43, 44, 45, 46, 47, 48, 49, 50, 51, 52, 53, 54, 55, 56, 57, 58, 59, 60, 61, 62, 63, 64, 65, 66, 67, 68, 69, 70, 71, 72, 73, 74, 75, 76, 77, 78, 79, 80, 81, 82, 83, 84, 85, 86, 87], .code (sub [1, 1, 1, 1, 1] B3)] (by kernel_rfl) ?_
        have f98 : Els (kSl (kInt .u64)) S27 w27 ([.slice (Gp G14) y12.length c15, .slice (Gp G22) y20.length c23] : List Value) [y12, y20] := (Els.cons (K := (kSl (kInt .u64))) (vs := [.slice (Gp G14) y12.length c15]) (x := y12) ⟨_, _, rfl, ((((((((((((((((((((f29.ext z8).ext z9).ext z10).ext z11).ext z12).ext z13).ext z14).ext z15).ext z16).ext z17).ext z18).ext z19).ext z20).ext z21).ext z22).ext z23).ext z24).ext z25).ext z26).ext z27)⟩ (Els.cons (K := (kSl (kInt .u64))) (vs := [.slice (Gp G22) y20.length c23]) (x := y20) ⟨_, _, rfl, ((((((((((((((((((f38.ext z10).ext z11).ext z12).ext z13).ext z14).ext z15).ext z16).ext z17).ext z18).ext z19).ext z20).ext z21).ext z22).ext z23).ext z24).ext z25).ext z26).ext z27)⟩ Els.nil))
        refine Op_.made (.buildSlice 38 2 #[(0, (.tmp 49)), (1, (.tmp 50))]) 51 38 (fun b => .slice (Gp (some b)) 2 2) 22 ([.slice (Gp G14) y12.length c15, .slice (Gp G22) y20.length c23] : List Value) p27 (Goes.vs (by kernel_rfl)) (by kernel_rfl) ?_
        intro b97 w28 z28 p28
        have p28 : Hp nz wz S27 w28 (((some b97), .row 22 ([.slice (Gp G14) y12.length c15, .slice (Gp G22) y20.length c23] : List Value) (2 * (kSl (kInt .u64)).size) 0) :: (G32, .row 35 cs34 (c33 * (kInt .u64).size) 0) :: Lr) := p28
        obtain ⟨S29, z29, p29, f100⟩ := p28.freezeRd 0 rfl (f98.ext z28) (by decide)
        obtain ⟨y101, e102, h⟩ := bind_some h
        try dsimp only at h
        refine Op_.call (.call { callee := .value (.func 13), args := #[(.tmp 51)], argTypes := #[38] }) 52 22 13 #[.slice (Gp (some b97)) [y12, y20].length 2] (Goes.cs (by kernel_rfl)) (by kernel_rfl) (W.tidepolelaw13_or [y12, y20] y101 e102 nz wz S29 w28 (((some b97), .row 22 ([.slice (Gp G14) y12.length c15, .slice (Gp G22) y20.length c23] : List Value) (2 * (kSl (kInt .u64)).size) (([.slice (Gp G14) y12.length c15, .slice (Gp G22) y20.length c23] : List Value).length)) :: (G32, .row 35 cs34 (c33 * (kInt .u64).size) 0) :: Lr) (Gp (some b97)) 2 p29 f100) ?_
        rintro _ w30 ⟨S30, G103, c104, cs105, rfl, z30, p30, f107⟩
        have p30 := (p30.front 1 _ rfl).drop
        obtain ⟨S31, z31, p31, f109⟩ := p30.freezeRd 0 rfl f107 (by decide)
        have f111 : Els (kSl (kInt .u64)) S31 w30 ([.slice (Gp G6) y4.length c7, .slice (Gp G103) y101.length c104] : List Value) [y4, y101] := (Els.cons (K := (kSl (kInt .u64))) (vs := [.slice (Gp G6) y4.length c7]) (x := y4) ⟨_, _, rfl, (((((((((((((((((((((((((f28.ext z7).ext z8).ext z9).ext z10).ext z11).ext z12).ext z13).ext z14).ext z15).ext z16).ext z17).ext z18).ext z19).ext z20).ext z21).ext z22).ext z23).ext z24).ext z25).ext z26).ext z27).ext z28).ext z29).ext z30).ext z31)⟩ (Els.cons (K := (kSl (kInt .u64))) (vs := [.slice (Gp G103) y101.length c104]) (x := y101) ⟨_, _, rfl, f109⟩ Els.nil))
        refine Op_.made (.buildSlice 38 2 #[(0, (.tmp 48)), (1, (.tmp 52))]) 53 38 (fun b => .slice (Gp (some b)) 2 2) 22 ([.slice (Gp G6) y4.length c7, .slice (Gp G103) y101.length c104] : List Value) p31 (Goes.vs (by kernel_rfl)) (by kernel_rfl) ?_
        intro b110 w32 z32 p32
        have p32 : Hp nz wz S31 w32 (((some b110), .row 22 ([.slice (Gp G6) y4.length c7, .slice (Gp G103) y101.length c104] : List Value) (2 * (kSl (kInt .u64)).size) 0) :: (G103, .row 35 cs105 (c104 * (kInt .u64).size) cs105.length) :: (G32, .row 35 cs34 (c33 * (kInt .u64).size) 0) :: Lr) := p32
        obtain ⟨S33, z33, p33, f113⟩ := p32.freezeRd 0 rfl (f111.ext z32) (by decide)
        obtain ⟨y114, e115, h⟩ := bind_some h
        try dsimp only at h
        refine Op_.call (.call { callee := .value (.func 12), args := #[(.tmp 53)], argTypes := #[38] }) 54 22 12 #[.slice (Gp (some b110)) [y4, y101].length 2] (Goes.cs (by kernel_rfl)) (by kernel_rfl) (W.tidepolelaw13_and [y4, y101] y114 e115 nz wz S33 w32 (((some b110), .row 22 ([.slice (Gp G6) y4.length c7, .slice (Gp G103) y101.length c104] : List Value) (2 * (kSl (kInt .u64)).size) (([.slice (Gp G6) y4.length c7, .slice (Gp G103) y101.length c104] : List Value).length)) :: (G103, .row 35 cs105 (c104 * (kInt .u64).size) cs105.length) :: (G32, .row 35 cs34 (c33 * (kInt .u64).size) 0) :: Lr) (Gp (some b110)) 2 p33 f113) ?_
        rintro _ w34 ⟨S34, G116, c117, cs118, rfl, z34, p34, f120⟩
        have p34 := (p34.front 1 _ rfl).drop
        have p34 := (p34.front 1 _ rfl).drop
        refine Goes.runs 2 [(55, .slice (Gp G6) y4.length c7), (56, .slice (Gp G14) y12.length c15)] [.inRegion (opsOf (sub [1, 1, 1, 1, 0] B3)) [34, 35, 36, 37, 38, 39, 40, 41, 42, 43, 44, 45, 46, 47, 48, 49, 50, 51, 52, 53, 54, 55, 56, 57, 58, 59, 60, 61, 62, 63, 64, 65, 66, 67, 68, 69, 70, 71, 72, 73, 74, 75, 76, 77, 78, 79, 80, 81, 82, 83, 84, 85, 86, 87], .code (sub [1, 1, 1, 1, 1] B3)] (by kernel_rfl) ?_
        have f123 : Els (kSl (kInt .u64)) S34 w34 ([.slice (Gp G6) y4.length c7, .slice (Gp G14) y12.length c15] : List Value) [y4, y12] := (Els.cons (K := (kSl (kInt .u64))) (vs := [.slice (Gp G6) y4.length c7]) (x := y4) ⟨_, _, rfl, ((((((((((((((((((((((((((((f28.ext z7).ext z8).ext z9).ext z10).ext z11).ext z12).ext z13).ext z14).ext z15).ext z16).ext z17).ext z18).ext z19).ext z20).ext z21).ext z22).ext z23).ext z24).ext z25).ext z26).ext z27).ext z28).ext z29).ext z30).ext z31).ext z32).ext z33).ext z34)⟩ (Els.cons (K := (kSl (kInt .u64))) (vs := [.slice (Gp G14) y12.length c15]) (x := y12) ⟨_, _, rfl, (((((((((((((((((((((((((((f29.ext z8).ext z9).ext z10).ext z11).ext z12).ext z13).ext z14).ext z15).ext z16).ext z17).ext z18).ext z19).ext z20).ext z21).ext z22).ext z23).ext z24).ext z25).ext z26).ext z27).ext z28).ext z29).ext z30).ext z31).ext z32).ext z33).ext z34)⟩ Els.nil))
        refine Op_.made (.buildSlice 38 2 #[(0, (.tmp 55)), (1, (.tmp 56))]) 57 38 (fun b => .slice (Gp (some b)) 2 2) 22 ([.slice (Gp G6) y4.length c7, .slice (Gp G14) y12.length c15] : List Value) p34 (Goes.vs (by kernel_rfl)) (by kernel_rfl) ?_
        intro b122 w35 z35 p35
        have p35 : Hp nz wz S34 w35 (((some b122), .row 22 ([.slice (Gp G6) y4.length c7, .slice (Gp G14) y12.length c15] : List Value) (2 * (kSl (kInt .u64)).size) 0) :: (G116, .row 35 cs118 (c117 * (kInt .u64).size) 0) :: (G32, .row 35 cs34 (c33 * (kInt .u64).size) 0) :: Lr) := p35
        obtain ⟨S36, z36, p36, f125⟩ := p35.freezeRd 0 rfl (f123.ext z35) (by decide)
        obtain ⟨y126, e127, h⟩ := bind_some h
        try dsimp only at h
        refine Op_.call (.call { callee := .value (.func 12), args := #[(.tmp 57)], argTypes := #[38] }) 58 22 12 #[.slice (Gp (some b122)) [y4, y12].length 2] (Goes.cs (by kernel_rfl)) (by kernel_rfl) (W.tidepolelaw13_and [y4, y12] y126 e127 nz wz S36 w35 (((some b122), .row 22 ([.slice (Gp G6) y4.length c7, .slice (Gp G14) y12.length c15] : List Value) (2 * (kSl (kInt .u64)).size) (([.slice (Gp G6) y4.length c7, .slice (Gp G14) y12.length c15] : List Value).length)) :: (G116, .row 35 cs118 (c117 * (kInt .u64).size) 0) :: (G32, .row 35 cs34 (c33 * (kInt .u64).size) 0) :: Lr) (Gp (some b122)) 2 p36 f125) ?_
        rintro _ w37 ⟨S37, G128, c129, cs130, rfl, z37, p37, f132⟩
        have p37 := (p37.front 1 _ rfl).drop
        refine Goes.runs 2 [(59, .slice (Gp G6) y4.length c7), (60, .slice (Gp G22) y20.length c23)] [.inRegion (opsOf (sub [1, 1, 1, 1, 0] B3)) [38, 39, 40, 41, 42, 43, 44, 45, 46, 47, 48, 49, 50, 51, 52, 53, 54, 55, 56, 57, 58, 59, 60, 61, 62, 63, 64, 65, 66, 67, 68, 69, 70, 71, 72, 73, 74, 75, 76, 77, 78, 79, 80, 81, 82, 83, 84, 85, 86, 87], .code (sub [1, 1, 1, 1, 1] B3)] (by kernel_rfl) ?_
        have f135 : Els (kSl (kInt .u64)) S37 w37 ([.slice (Gp G6) y4.length c7, .slice (Gp G22) y20.length c23] : List Value) [y4, y20] := (Els.cons (K := (kSl (kInt .u64))) (vs := [.slice (Gp G6) y4.length c7]) (x := y4) ⟨_, _, rfl, (((((((((((((((((((((((((((((((f28.ext z7).ext z8).ext z9).ext z10).ext z11).ext z12).ext z13).ext z14).ext z15).ext z16).ext z17).ext z18).ext z19).ext z20).ext z21).ext z22).ext z23).ext z24).ext z25).ext z26).ext z27).ext z28).ext z29).ext z30).ext z31).ext z32).ext z33).ext z34).ext z35).ext z36).ext z37)⟩ (Els.cons (K := (kSl (kInt .u64))) (vs := [.slice (Gp G22) y20.length c23]) (x := y20) ⟨_, _, rfl, ((((((((((((((((((((((((((((f38.ext z10).ext z11).ext z12).ext z13).ext z14).ext z15).ext z16).ext z17).ext z18).ext z19).ext z20).ext z21).ext z22).ext z23).ext z24).ext z25).ext z26).ext z27).ext z28).ext z29).ext z30).ext z31).ext z32).ext z33).ext z34).ext z35).ext z36).ext z37)⟩ Els.nil))
        refine Op_.made (.buildSlice 38 2 #[(0, (.tmp 59)), (1, (.tmp 60))]) 61 38 (fun b => .slice (Gp (some b)) 2 2) 22 ([.slice (Gp G6) y4.length c7, .slice (Gp G22) y20.length c23] : List Value) p37 (Goes.vs (by kernel_rfl)) (by kernel_rfl) ?_
        intro b134 w38 z38 p38
        have p38 : Hp nz wz S37 w38 (((some b134), .row 22 ([.slice (Gp G6) y4.length c7, .slice (Gp G22) y20.length c23] : List Value) (2 * (kSl (kInt .u64)).size) 0) :: (G128, .row 35 cs130 (c129 * (kInt .u64).size) 0) :: (G116, .row 35 cs118 (c117 * (kInt .u64).size) 0) :: (G32, .row 35 cs34 (c33 * (kInt .u64).size) 0) :: Lr) := p38
        obtain ⟨S39, z39, p39, f137⟩ := p38.freezeRd 0 rfl (f135.ext z38) (by decide)
        obtain ⟨y138, e139, h⟩ := bind_some h
        try dsimp only at h
        refine Op_.call (.call { callee := .value (.func 12), args := #[(.tmp 61)], argTypes := #[38] }) 62 22 12 #[.slice (Gp (some b134)) [y4, y20].length 2] (Goes.cs (by kernel_rfl)) (by kernel_rfl) (W.tidepolelaw13_and [y4, y20] y138 e139 nz wz S39 w38 (((some b134), .row 22 ([.slice (Gp G6) y4.length c7, .slice (Gp G22) y20.length c23] : List Value) (2 * (kSl (kInt .u64)).size) (([.slice (Gp G6) y4.length c7, .slice (Gp G22) y20.length c23] : List Value).length)) :: (G128, .row 35 cs130 (c129 * (kInt .u64).size) 0) :: (G116, .row 35 cs118 (c117 * (kInt .u64).size) 0) :: (G32, .row 35 cs34 (c33 * (kInt .u64).size) 0) :: Lr) (Gp (some b134)) 2 p39 f137) ?_
        rintro _ w40 ⟨S40, G140, c141, cs142, rfl, z40, p40, f144⟩
        have p40 := (p40.front 1 _ rfl).drop
        obtain ⟨S41, z41, p41, f146⟩ := p40.freezeRd 1 rfl (((f132.ext z38).ext z39).ext z40) (by decide)
        obtain ⟨S42, z42, p42, f147⟩ := p41.freezeRd 0 rfl (f144.ext z41) (by decide)
        have f149 : Els (kSl (kInt .u64)) S42 w40 ([.slice (Gp G128) y126.length c129, .slice (Gp G140) y138.length c141] : List Value) [y126, y138] := (Els.cons (K := (kSl (kInt .u64))) (vs := [.slice (Gp G128) y126.length c129]) (x := y126) ⟨_, _, rfl, (f146.ext z42)⟩ (Els.cons (K := (kSl (kInt .u64))) (vs := [.slice (Gp G140) y138.length c141]) (x := y138) ⟨_, _, rfl, f147⟩ Els.nil))
        refine Op_.made (.buildSlice 38 2 #[(0, (.tmp 58)), (1, (.tmp 62))]) 63 38 (fun b => .slice (Gp (some b)) 2 2) 22 ([.slice (Gp G128) y126.length c129, .slice (Gp G140) y138.length c141] : List Value) p42 (Goes.vs (by kernel_rfl)) (by kernel_rfl) ?_
        intro b148 w43 z43 p43
        have p43 : Hp nz wz S42 w43 (((some b148), .row 22 ([.slice (Gp G128) y126.length c129, .slice (Gp G140) y138.length c141] : List Value) (2 * (kSl (kInt .u64)).size) 0) :: (G140, .row 35 cs142 (c141 * (kInt .u64).size) cs142.length) :: (G128, .row 35 cs130 (c129 * (kInt .u64).size) cs130.length) :: (G116, .row 35 cs118 (c117 * (kInt .u64).size) 0) :: (G32, .row 35 cs34 (c33 * (kInt .u64).size) 0) :: Lr) := p43
        obtain ⟨S44, z44, p44, f151⟩ := p43.freezeRd 0 rfl (f149.ext z43) (by decide)
        obtain ⟨y152, e153, h⟩ := bind_some h
        try dsimp only at h
        refine Op_.call (.call { callee := .value (.func 13), args := #[(.tmp 63)], argTypes := #[38] }) 64 22 13 #[.slice (Gp (some b148)) [y126, y138].length 2] (Goes.cs (by kernel_rfl)) (by kernel_rfl) (W.tidepolelaw13_or [y126, y138] y152 e153 nz wz S44 w43 (((some b148), .row 22 ([.slice (Gp G128) y126.length c129, .slice (Gp G140) y138.length c141] : List Value) (2 * (kSl (kInt .u64)).size) (([.slice (Gp G128) y126.length c129, .slice (Gp G140) y138.length c141] : List Value).length)) :: (G140, .row 35 cs142 (c141 * (kInt .u64).size) cs142.length) :: (G128, .row 35 cs130 (c129 * (kInt .u64).size) cs130.length) :: (G116, .row 35 cs118 (c117 * (kInt .u64).size) 0) :: (G32, .row 35 cs34 (c33 * (kInt .u64).size) 0) :: Lr) (Gp (some b148)) 2 p44 f151) ?_
        rintro _ w45 ⟨S45, G154, c155, cs156, rfl, z45, p45, f158⟩
        have p45 := (p45.front 1 _ rfl).drop
        have p45 := (p45.front 1 _ rfl).drop
        have p45 := (p45.front 1 _ rfl).drop
        obtain ⟨S46, z46, p46, f160⟩ := p45.freezeRd 1 rfl (((((((((((f120.ext z35).ext z36).ext z37).ext z38).ext z39).ext z40).ext z41).ext z42).ext z43).ext z44).ext z45) (by decide)
        obtain ⟨S47, z47, p47, f161⟩ := p46.freezeRd 0 rfl (f158.ext z46) (by decide)
        obtain ⟨y162, e163, h⟩ := bind_some h
        try dsimp only at h
        refine Op_.call (.call { callee := .value (.func 11), args := #[(.tmp 54), (.tmp 64)], argTypes := #[22, 22] }) 65 4 11 #[.slice (Gp G116) y114.length c117, .slice (Gp G154) y152.length c155] (Goes.cs (by kernel_rfl)) (by kernel_rfl) (W.tidepolelaw13_same y114 y152 y162 e163 nz wz S47 w45 ((G154, .row 35 cs156 (c155 * (kInt .u64).size) cs156.length) :: (G116, .row 35 cs118 (c117 * (kInt .u64).size) cs118.length) :: (G32, .row 35 cs34 (c33 * (kInt .u64).size) 0) :: Lr) (Gp G116) c117 (Gp G154) c155 p47 (f160.ext z47) f161) ?_
        rintro _ w48 ⟨S48, rfl, z48, p48⟩
        have p48 := (p48.front 0 _ rfl).drop
        have p48 := (p48.front 0 _ rfl).drop
        refine Goes.runs 2 [(66, .bool y162), (67, .bool y162)] [.inRegion (opsOf (sub [1, 1, 1, 1, 0] B3)) [45, 46, 47, 48, 49, 50, 51, 52, 53, 54, 55, 56, 57, 58, 59, 60, 61, 62, 63, 64, 65, 66, 67, 68, 69, 70, 71, 72, 73, 74, 75, 76, 77, 78, 79, 80, 81, 82, 83, 84, 85, 86, 87], .code (sub [1, 1, 1, 1, 1] B3)] (by kernel_rfl) ?_
        by_cases h164 : y162 = true
        · rw [if_pos h164] at h
          rw [h164]
          refine Goes.runs 3 [(68, .slice (Gp G6) y4.length c7), (69, .slice (Gp G14) y12.length c15), (70, .slice (Gp G22) y20.length c23)] [.inRegion (opsOf (sub [1, 1, 1, 1, 0] B3)) [48, 49, 50, 51, 52, 53, 54, 55, 56, 57, 58, 59, 60, 61, 62, 63, 64, 65, 66, 67, 68, 69, 70, 71, 72, 73, 74, 75, 76, 77, 78, 79, 80, 81, 82, 83, 84, 85, 86, 87], .code (sub [1, 1, 1, 1, 1] B3)] (by kernel_rfl) ?_
          have f166 : Els (kSl (kInt .u64)) S48 w48 ([.slice (Gp G14) y12.length c15, .slice (Gp G22) y20.length c23] : List Value) [y12, y20] := (Els.cons (K := (kSl (kInt .u64))) (vs := [.slice (Gp G14) y12.length c15]) (x := y12) ⟨_, _, rfl, (((((((((((((((((((((((((((((((((((((((((f29.ext z8).ext z9).ext z10).ext z11).ext z12).ext z13).ext z14).ext z15).ext z16).ext z17).ext z18).ext z19).ext z20).ext z21).ext z22).ext z23).ext z24).ext z25).ext z26).ext z27).ext z28).ext z29).ext z30).ext z31).ext z32).ext z33).ext z34).ext z35).ext z36).ext z37).ext z38).ext z39).ext z40).ext z41).ext z42).ext z43).ext z44).ext z45).ext z46).ext z47).ext z48)⟩ (Els.cons (K := (kSl (kInt .u64))) (vs := [.slice (Gp G22) y20.length c23]) (x := y20) ⟨_, _, rfl, (((((((((((((((((((((((((((((((((((((((f38.ext z10).ext z11).ext z12).ext z13).ext z14).ext z15).ext z16).ext z17).ext z18).ext z19).ext z20).ext z21).ext z22).ext z23).ext z24).ext z25).ext z26).ext z27).ext z28).ext z29).ext z30).ext z31).ext z32).ext z33).ext z34).ext z35).ext z36).ext z37).ext z38).ext z39).ext z40).ext z41).ext z42).ext z43).ext z44).ext z45).ext z46).ext z47).ext z48)⟩ Els.nil))
          refine Op_.made (.buildSlice 38 2 #[(0, (.tmp 69)), (1, (.tmp 70))]) 71 38 (fun b => .slice (Gp (some b)) 2 2) 22 ([.slice (Gp G14) y12.length c15, .slice (Gp G22) y20.length c23] : List Value) p48 (Goes.vs (by kernel_rfl)) (by kernel_rfl) ?_
          intro b165 w49 z49 p49
          have p49 : Hp nz wz S48 w49 (((some b165), .row 22 ([.slice (Gp G14) y12.length c15, .slice (Gp G22) y20.length c23] : List Value) (2 * (kSl (kInt .u64)).size) 0) :: (G32, .row 35 cs34 (c33 * (kInt .u64).size) 0) :: Lr) := p49
          obtain ⟨S50, z50, p50, f168⟩ := p49.freezeRd 0 rfl (f166.ext z49) (by decide)
          obtain ⟨y169, e170, h⟩ := bind_some h
          try dsimp only at h
          refine Op_.call (.call { callee := .value (.func 12), args := #[(.tmp 71)], argTypes := #[38] }) 72 22 12 #[.slice (Gp (some b165)) [y12, y20].length 2] (Goes.cs (by kernel_rfl)) (by kernel_rfl) (W.tidepolelaw13_and [y12, y20] y169 e170 nz wz S50 w49 (((some b165), .row 22 ([.slice (Gp G14) y12.length c15, .slice (Gp G22) y20.length c23] : List Value) (2 * (kSl (kInt .u64)).size) (([.slice (Gp G14) y12.length c15, .slice (Gp G22) y20.length c23] : List Value).length)) :: (G32, .row 35 cs34 (c33 * (kInt .u64).size) 0) :: Lr) (Gp (some b165)) 2 p50 f168) ?_
          rintro _ w51 ⟨S51, G171, c172, cs173, rfl, z51, p51, f175⟩
          have p51 := (p51.front 1 _ rfl).drop
          obtain ⟨S52, z52, p52, f177⟩ := p51.freezeRd 0 rfl f175 (by decide)
          have f179 : Els (kSl (kInt .u64)) S52 w51 ([.slice (Gp G6) y4.length c7, .slice (Gp G171) y169.length c172] : List Value) [y4, y169] := (Els.cons (K := (kSl (kInt .u64))) (vs := [.slice (Gp G6) y4.length c7]) (x := y4) ⟨_, _, rfl, ((((((((((((((((((((((((((((((((((((((((((((((f28.ext z7).ext z8).ext z9).ext z10).ext z11).ext z12).ext z13).ext z14).ext z15).ext z16).ext z17).ext z18).ext z19).ext z20).ext z21).ext z22).ext z23).ext z24).ext z25).ext z26).ext z27).ext z28).ext z29).ext z30).ext z31).ext z32).ext z33).ext z34).ext z35).ext z36).ext z37).ext z38).ext z39).ext z40).ext z41).ext z42).ext z43).ext z44).ext z45).ext z46).ext z47).ext z48).ext z49).ext z50).ext z51).ext z52)⟩ (Els.cons (K := (kSl (kInt .u64))) (vs := [.slice (Gp G171) y169.length c172]) (x := y169) ⟨_, _, rfl, f177⟩ Els.nil))
          refine Op_.made (.buildSlice 38 2 #[(0, (.tmp 68)), (1, (.tmp 72))]) 73 38 (fun b => .slice (Gp (some b)) 2 2) 22 ([.slice (Gp G6) y4.length c7, .slice (Gp G171) y169.length c172] : List Value) p52 (Goes.vs (by kernel_rfl)) (by kernel_rfl) ?_
          intro b178 w53 z53 p53
          have p53 : Hp nz wz S52 w53 (((some b178), .row 22 ([.slice (Gp G6) y4.length c7, .slice (Gp G171) y169.length c172] : List Value) (2 * (kSl (kInt .u64)).size) 0) :: (G171, .row 35 cs173 (c172 * (kInt .u64).size) cs173.length) :: (G32, .row 35 cs34 (c33 * (kInt .u64).size) 0) :: Lr) := p53
          obtain ⟨S54, z54, p54, f181⟩ := p53.freezeRd 0 rfl (f179.ext z53) (by decide)
          obtain ⟨y182, e183, h⟩ := bind_some h
          try dsimp only at h
          refine Op_.call (.call { callee := .value (.func 13), args := #[(.tmp 73)], argTypes := #[38] }) 74 22 13 #[.slice (Gp (some b178)) [y4, y169].length 2] (Goes.cs (by kernel_rfl)) (by kernel_rfl) (W.tidepolelaw13_or [y4, y169] y182 e183 nz wz S54 w53 (((some b178), .row 22 ([.slice (Gp G6) y4.length c7, .slice (Gp G171) y169.length c172] : List Value) (2 * (kSl (kInt .u64)).size) (([.slice (Gp G6) y4.length c7, .slice (Gp G171) y169.length c172] : List Value).length)) :: (G171, .row 35 cs173 (c172 * (kInt .u64).size) cs173.length) :: (G32, .row 35 cs34 (c33 * (kInt .u64).size) 0) :: Lr) (Gp (some b178)) 2 p54 f181) ?_
          rintro _ w55 ⟨S55, G184, c185, cs186, rfl, z55, p55, f188⟩
          have p55 := (p55.front 1 _ rfl).drop
          have p55 := (p55.front 1 _ rfl).drop
          refine Goes.runs 2 [(75, .slice (Gp G6) y4.length c7), (76, .slice (Gp G14) y12.length c15)] [.inRegion (opsOf (sub [1, 1, 1, 1, 0] B3)) [54, 55, 56, 57, 58, 59, 60, 61, 62, 63, 64, 65, 66, 67, 68, 69, 70, 71, 72, 73, 74, 75, 76, 77, 78, 79, 80, 81, 82, 83, 84, 85, 86, 87], .code (sub [1, 1, 1, 1, 1] B3)] (by kernel_rfl) ?_
          have f191 : Els (kSl (kInt .u64)) S55 w55 ([.slice (Gp G6) y4.length c7, .slice (Gp G14) y12.length c15] : List Value) [y4, y12] := (Els.cons (K := (kSl (kInt .u64))) (vs := [.slice (Gp G6) y4.length c7]) (x := y4) ⟨_, _, rfl, (((((((((((((((((((((((((((((((((((((((((((((((((f28.ext z7).ext z8).ext z9).ext z10).ext z11).ext z12).ext z13).ext z14).ext z15).ext z16).ext z17).ext z18).ext z19).ext z20).ext z21).ext z22).ext z23).ext z24).ext z25).ext z26).ext z27).ext z28).ext z29).ext z30).ext z31).ext z32).ext z33).ext z34).ext z35).ext z36).ext z37).ext z38).ext z39).ext z40).ext z41).ext z42).ext z43).ext z44).ext z45).ext z46).ext z47).ext z48).ext z49).ext z50).ext z51).ext z52).ext z53).ext z54).ext z55)⟩ (Els.cons (K := (kSl (kInt .u64))) (vs := [.slice (Gp G14) y12.length c15]) (x := y12) ⟨_, _, rfl, ((((((((((((((((((((((((((((((((((((((((((((((((f29.ext z8).ext z9).ext z10).ext z11).ext z12).ext z13).ext z14).ext z15).ext z16).ext z17).ext z18).ext z19).ext z20).ext z21).ext z22).ext z23).ext z24).ext z25).ext z26).ext z27).ext z28).ext z29).ext z30).ext z31).ext z32).ext z33).ext z34).ext z35).ext z36).ext z37).ext z38).ext z39).ext z40).ext z41).ext z42).ext z43).ext z44).ext z45).ext z46).ext z47).ext z48).ext z49).ext z50).ext z51).ext z52).ext z53).ext z54).ext z55)⟩ Els.nil))
          refine Op_.made (.buildSlice 38 2 #[(0, (.tmp 75)), (1, (.tmp 76))]) 77 38 (fun b => .slice (Gp (some b)) 2 2) 22 ([.slice (Gp G6) y4.length c7, .slice (Gp G14) y12.length c15] : List Value) p55 (Goes.vs (by kernel_rfl)) (by kernel_rfl) ?_
          intro b190 w56 z56 p56
          have p56 : Hp nz wz S55 w56 (((some b190), .row 22 ([.slice (Gp G6) y4.length c7, .slice (Gp G14) y12.length c15] : List Value) (2 * (kSl (kInt .u64)).size) 0) :: (G184, .row 35 cs186 (c185 * (kInt .u64).size) 0) :: (G32, .row 35 cs34 (c33 * (kInt .u64).size) 0) :: Lr) := p56
          obtain ⟨S57, z57, p57, f193⟩ := p56.freezeRd 0 rfl (f191.ext z56) (by decide)
          obtain ⟨y194, e195, h⟩ := bind_some h
          try dsimp only at h
          refine Op_.call (.call { callee := .value (.func 13), args := #[(.tmp 77)], argTypes := #[38] }) 78 22 13 #[.slice (Gp (some b190)) [y4, y12].length 2] (Goes.cs (by kernel_rfl)) (by kernel_rfl) (W.tidepolelaw13_or [y4, y12] y194 e195 nz wz S57 w56 (((some b190), .row 22 ([.slice (Gp G6) y4.length c7, .slice (Gp G14) y12.length c15] : List Value) (2 * (kSl (kInt .u64)).size) (([.slice (Gp G6) y4.length c7, .slice (Gp G14) y12.length c15] : List Value).length)) :: (G184, .row 35 cs186 (c185 * (kInt .u64).size) 0) :: (G32, .row 35 cs34 (c33 * (kInt .u64).size) 0) :: Lr) (Gp (some b190)) 2 p57 f193) ?_
          rintro _ w58 ⟨S58, G196, c197, cs198, rfl, z58, p58, f200⟩
          have p58 := (p58.front 1 _ rfl).drop
          refine Goes.runs 2 [(79, .slice (Gp G6) y4.length c7), (80, .slice (Gp G22) y20.length c23)] [.inRegion (opsOf (sub [1, 1, 1, 1, 0] B3)) [58, 59, 60, 61, 62, 63, 64, 65, 66, 67, 68, 69, 70, 71, 72, 73, 74, 75, 76, 77, 78, 79, 80, 81, 82, 83, 84, 85, 86, 87], .code (sub [1, 1, 1, 1, 1] B3)] (by kernel_rfl) ?_
          have f203 : Els (kSl (kInt .u64)) S58 w58 ([.slice (Gp G6) y4.length c7, .slice (Gp G22) y20.length c23] : List Value) [y4, y20] := (Els.cons (K := (kSl (kInt .u64))) (vs := [.slice (Gp G6) y4.length c7]) (x := y4) ⟨_, _, rfl, ((((((((((((((((((((((((((((((((((((((((((((((((((((f28.ext z7).ext z8).ext z9).ext z10).ext z11).ext z12).ext z13).ext z14).ext z15).ext z16).ext z17).ext z18).ext z19).ext z20).ext z21).ext z22).ext z23).ext z24).ext z25).ext z26).ext z27).ext z28).ext z29).ext z30).ext z31).ext z32).ext z33).ext z34).ext z35).ext z36).ext z37).ext z38).ext z39).ext z40).ext z41).ext z42).ext z43).ext z44).ext z45).ext z46).ext z47).ext z48).ext z49).ext z50).ext z51).ext z52).ext z53).ext z54).ext z55).ext z56).ext z57).ext z58)⟩ (Els.cons (K := (kSl (kInt .u64))) (vs := [.slice (Gp G22) y20.length c23]) (x := y20) ⟨_, _, rfl, (((((((((((((((((((((((((((((((((((((((((((((((((f38.ext z10).ext z11).ext z12).ext z13).ext z14).ext z15).ext z16).ext z17).ext z18).ext z19).ext z20).ext z21).ext z22).ext z23).ext z24).ext z25).ext z26).ext z27).ext z28).ext z29).ext z30).ext z31).ext z32).ext z33).ext z34).ext z35).ext z36).ext z37).ext z38).ext z39).ext z40).ext z41).ext z42).ext z43).ext z44).ext z45).ext z46).ext z47).ext z48).ext z49).ext z50).ext z51).ext z52).ext z53).ext z54).ext z55).ext z56).ext z57).ext z58)⟩ Els.nil))
          refine Op_.made (.buildSlice 38 2 #[(0, (.tmp 79)), (1, (.tmp 80))]) 81 38 (fun b => .slice (Gp (some b)) 2 2) 22 ([.slice (Gp G6) y4.length c7, .slice (Gp G22) y20.length c23] : List Value) p58 (Goes.vs (by kernel_rfl)) (by kernel_rfl) ?_
          intro b202 w59 z59 p59
          have p59 : Hp nz wz S58 w59 (((some b202), .row 22 ([.slice (Gp G6) y4.length c7, .slice (Gp G22) y20.length c23] : List Value) (2 * (kSl (kInt .u64)).size) 0) :: (G196, .row 35 cs198 (c197 * (kInt .u64).size) 0) :: (G184, .row 35 cs186 (c185 * (kInt .u64).size) 0) :: (G32, .row 35 cs34 (c33 * (kInt .u64).size) 0) :: Lr) := p59
          obtain ⟨S60, z60, p60, f205⟩ := p59.freezeRd 0 rfl (f203.ext z59) (by decide)
          obtain ⟨y206, e207, h⟩ := bind_some h
          try dsimp only at h
          refine Op_.call (.call { callee := .value (.func 13), args := #[(.tmp 81)], argTypes := #[38] }) 82 22 13 #[.slice (Gp (some b202)) [y4, y20].length 2] (Goes.cs (by kernel_rfl)) (by kernel_rfl) (W.tidepolelaw13_or [y4, y20] y206 e207 nz wz S60 w59 (((some b202), .row 22 ([.slice (Gp G6) y4.length c7, .slice (Gp G22) y20.length c23] : List Value) (2 * (kSl (kInt .u64)).size) (([.slice (Gp G6) y4.length c7, .slice (Gp G22) y20.length c23] : List Value).length)) :: (G196, .row 35 cs198 (c197 * (kInt .u64).size) 0) :: (G184, .row 35 cs186 (c185 * (kInt .u64).size) 0) :: (G32, .row 35 cs34 (c33 * (kInt .u64).size) 0) :: Lr) (Gp (some b202)) 2 p60 f205) ?_
          rintro _ w61 ⟨S61, G208, c209, cs210, rfl, z61, p61, f212⟩
          have p61 := (p61.front 1 _ rfl).drop
          obtain ⟨S62, z62, p62, f214⟩ := p61.freezeRd 1 rfl (((f200.ext z59).ext z60).ext z61) (by decide)
          obtain ⟨S63, z63, p63, f215⟩ := p62.freezeRd 0 rfl (f212.ext z62) (by decide)
          have f217 : Els (kSl (kInt .u64)) S63 w61 ([.slice (Gp G196) y194.length c197, .slice (Gp G208) y206.length c209] : List Value) [y194, y206] := (Els.cons (K := (kSl (kInt .u64))) (vs := [.slice (Gp G196) y194.length c197]) (x := y194) ⟨_, _, rfl, (f214.ext z63)⟩ (Els.cons (K := (kSl (kInt .u64))) (vs := [.slice (Gp G208) y206.length c209]) (x := y206) ⟨_, _, rfl, f215⟩ Els.nil))
          refine Op_.made (.buildSlice 38 2 #[(0, (.tmp 78)), (1, (.tmp 82))]) 83 38 (fun b => .slice (Gp (some b)) 2 2) 22 ([.slice (Gp G196) y194.length c197, .slice (Gp G208) y206.length c209] : List Value) p63 (Goes.vs (by kernel_rfl)) (by kernel_rfl) ?_
          intro b216 w64 z64 p64
          have p64 : Hp nz wz S63 w64 (((some b216), .row 22 ([.slice (Gp G196) y194.length c197, .slice (Gp G208) y206.length c209] : List Value) (2 * (kSl (kInt .u64)).size) 0) :: (G208, .row 35 cs210 (c209 * (kInt .u64).size) cs210.length) :: (G196, .row 35 cs198 (c197 * (kInt .u64).size) cs198.length) :: (G184, .row 35 cs186 (c185 * (kInt .u64).size) 0) :: (G32, .row 35 cs34 (c33 * (kInt .u64).size) 0) :: Lr) := p64
          obtain ⟨S65, z65, p65, f219⟩ := p64.freezeRd 0 rfl (f217.ext z64) (by decide)
          obtain ⟨y220, e221, h⟩ := bind_some h
          try dsimp only at h
          refine Op_.call (.call { callee := .value (.func 12), args := #[(.tmp 83)], argTypes := #[38] }) 84 22 12 #[.slice (Gp (some b216)) [y194, y206].length 2] (Goes.cs (by kernel_rfl)) (by kernel_rfl) (W.tidepolelaw13_and [y194, y206] y220 e221 nz wz S65 w64 (((some b216), .row 22 ([.slice (Gp G196) y194.length c197, .slice (Gp G208) y206.length c209] : List Value) (2 * (kSl (kInt .u64)).size) (([.slice (Gp G196) y194.length c197, .slice (Gp G208) y206.length c209] : List Value).length)) :: (G208, .row 35 cs210 (c209 * (kInt .u64).size) cs210.length) :: (G196, .row 35 cs198 (c197 * (kInt .u64).size) cs198.length) :: (G184, .row 35 cs186 (c185 * (kInt .u64).size) 0) :: (G32, .row 35 cs34 (c33 * (kInt .u64).size) 0) :: Lr) (Gp (some b216)) 2 p65 f219) ?_
          rintro _ w66 ⟨S66, G222, c223, cs224, rfl, z66, p66, f226⟩
          have p66 := (p66.front 1 _ rfl).drop
          have p66 := (p66.front 1 _ rfl).drop
          have p66 := (p66.front 1 _ rfl).drop
          obtain ⟨S67, z67, p67, f228⟩ := p66.freezeRd 1 rfl (((((((((((f188.ext z56).ext z57).ext z58).ext z59).ext z60).ext z61).ext z62).ext z63).ext z64).ext z65).ext z66) (by decide)
          obtain ⟨S68, z68, p68, f229⟩ := p67.freezeRd 0 rfl (f226.ext z67) (by decide)
          obtain ⟨y230, e231, h⟩ := bind_some h
          try dsimp only at h
          refine Op_.call (.call { callee := .value (.func 11), args := #[(.tmp 74), (.tmp 84)], argTypes := #[22, 22] }) 85 4 11 #[.slice (Gp G184) y182.length c185, .slice (Gp G222) y220.length c223] (Goes.cs (by kernel_rfl)) (by kernel_rfl) (W.tidepolelaw13_same y182 y220 y230 e231 nz wz S68 w66 ((G222, .row 35 cs224 (c223 * (kInt .u64).size) cs224.length) :: (G184, .row 35 cs186 (c185 * (kInt .u64).size) cs186.length) :: (G32, .row 35 cs34 (c33 * (kInt .u64).size) 0) :: Lr) (Gp G184) c185 (Gp G222) c223 p68 (f228.ext z68) f229) ?_
          rintro _ w69 ⟨S69, rfl, z69, p69⟩
          have p69 := (p69.front 0 _ rfl).drop
          have p69 := (p69.front 0 _ rfl).drop
          refine Goes.runs 2 [(86, .bool y230), (87, .bool y230)] [.inRegion (opsOf (sub [1, 1, 1, 1, 0] B3)) [65, 66, 67, 68, 69, 70, 71, 72, 73, 74, 75, 76, 77, 78, 79, 80, 81, 82, 83, 84, 85, 86, 87], .code (sub [1, 1, 1, 1, 1] B3)] (by kernel_rfl) ?_
          by_cases h232 : y230 = true
          · rw [if_pos h232] at h
            rw [h232]
            refine Goes.runs 4 [(88, .int .i64 y30.2), (89, .bool (decide (y30.2 = 0))), (90, .bool (decide (y30.2 = 0))), (91, .bool (decide (y30.2 = 0)))] [.inRegion (opsOf (sub [1, 1, 1, 1, 0] B3)) [69, 70, 71, 72, 73, 74, 75, 76, 77, 78, 79, 80, 81, 82, 83, 84, 85, 86, 87], .code (sub [1, 1, 1, 1, 1] B3)] (by kernel_rfl) ?_
            by_cases h233 : y30.2 = 0
            · rw [if_pos h233] at h
              rw [decide_eq_true h233]
              refine Goes.runs 3 [(92, .slice (Gp G32) y30.1.length c33), (93, .slice (Gp G6) y4.length c7), (94, .slice (Gp G14) y12.length c15)] [.inRegion (opsOf (sub [1, 1, 1, 1, 0] B3)) [72, 73, 74, 75, 76, 77, 78, 79, 80, 81, 82, 83, 84, 85, 86, 87], .code (sub [1, 1, 1, 1, 1] B3)] (by kernel_rfl) ?_
              have f235 : Els (kSl (kInt .u64)) S69 w69 ([.slice (Gp G6) y4.length c7, .slice (Gp G14) y12.length c15] : List Value) [y4, y12] := (Els.cons (K := (kSl (kInt .u64))) (vs := [.slice (Gp G6) y4.length c7]) (x := y4) ⟨_, _, rfl, (((((((((((((((((((((((((((((((((((((((((((((((((((((((((((((((f28.ext z7).ext z8).ext z9).ext z10).ext z11).ext z12).ext z13).ext z14).ext z15).ext z16).ext z17).ext z18).ext z19).ext z20).ext z21).ext z22).ext z23).ext z24).ext z25).ext z26).ext z27).ext z28).ext z29).ext z30).ext z31).ext z32).ext z33).ext z34).ext z35).ext z36).ext z37).ext z38).ext z39).ext z40).ext z41).ext z42).ext z43).ext z44).ext z45).ext z46).ext z47).ext z48).ext z49).ext z50).ext z51).ext z52).ext z53).ext z54).ext z55).ext z56).ext z57).ext z58).ext z59).ext z60).ext z61).ext z62).ext z63).ext z64).ext z65).ext z66).ext z67).ext z68).ext z69)⟩ (Els.cons (K := (kSl (kInt .u64))) (vs := [.slice (Gp G14) y12.length c15]) (x := y12) ⟨_, _, rfl, ((((((((((((((((((((((((((((((((((((((((((((((((((((((((((((((f29.ext z8).ext z9).ext z10).ext z11).ext z12).ext z13).ext z14).ext z15).ext z16).ext z17).ext z18).ext z19).ext z20).ext z21).ext z22).ext z23).ext z24).ext z25).ext z26).ext z27).ext z28).ext z29).ext z30).ext z31).ext z32).ext z33).ext z34).ext z35).ext z36).ext z37).ext z38).ext z39).ext z40).ext z41).ext z42).ext z43).ext z44).ext z45).ext z46).ext z47).ext z48).ext z49).ext z50).ext z51).ext z52).ext z53).ext z54).ext z55).ext z56).ext z57).ext z58).ext z59).ext z60).ext z61).ext z62).ext z63).ext z64).ext z65).ext z66).ext z67).ext z68).ext z69)⟩ Els.nil))
              refine Op_.made (.buildSlice 38 2 #[(0, (.tmp 93)), (1, (.tmp 94))]) 95 38 (fun b => .slice (Gp (some b)) 2 2) 22 ([.slice (Gp G6) y4.length c7, .slice (Gp G14) y12.length c15] : List Value) p69 (Goes.vs (by kernel_rfl)) (by kernel_rfl) ?_
              intro b234 w70 z70 p70
              have p70 : Hp nz wz S69 w70 (((some b234), .row 22 ([.slice (Gp G6) y4.length c7, .slice (Gp G14) y12.length c15] : List Value) (2 * (kSl (kInt .u64)).size) 0) :: (G32, .row 35 cs34 (c33 * (kInt .u64).size) 0) :: Lr) := p70
              obtain ⟨S71, z71, p71, f237⟩ := p70.freezeRd 0 rfl (f235.ext z70) (by decide)
              obtain ⟨y238, e239, h⟩ := bind_some h
              try dsimp only at h
              refine Op_.call (.call { callee := .value (.func 12), args := #[(.tmp 95)], argTypes := #[38] }) 96 22 12 #[.slice (Gp (some b234)) [y4, y12].length 2] (Goes.cs (by kernel_rfl)) (by kernel_rfl) (W.tidepolelaw13_and [y4, y12] y238 e239 nz wz S71 w70 (((some b234), .row 22 ([.slice (Gp G6) y4.length c7, .slice (Gp G14) y12.length c15] : List Value) (2 * (kSl (kInt .u64)).size) (([.slice (Gp G6) y4.length c7, .slice (Gp G14) y12.length c15] : List Value).length)) :: (G32, .row 35 cs34 (c33 * (kInt .u64).size) 0) :: Lr) (Gp (some b234)) 2 p71 f237) ?_
              rintro _ w72 ⟨S72, G240, c241, cs242, rfl, z72, p72, f244⟩
              have p72 := (p72.front 1 _ rfl).drop
              obtain ⟨S73, z73, p73, f246⟩ := p72.freezeRd 1 rfl ((((((((((((((((((((((((((((((((((((((((((((((((((((((((((((((((f36.ext z9).ext z10).ext z11).ext z12).ext z13).ext z14).ext z15).ext z16).ext z17).ext z18).ext z19).ext z20).ext z21).ext z22).ext z23).ext z24).ext z25).ext z26).ext z27).ext z28).ext z29).ext z30).ext z31).ext z32).ext z33).ext z34).ext z35).ext z36).ext z37).ext z38).ext z39).ext z40).ext z41).ext z42).ext z43).ext z44).ext z45).ext z46).ext z47).ext z48).ext z49).ext z50).ext z51).ext z52).ext z53).ext z54).ext z55).ext z56).ext z57).ext z58).ext z59).ext z60).ext z61).ext z62).ext z63).ext z64).ext z65).ext z66).ext z67).ext z68).ext z69).ext z70).ext z71).ext z72) (by decide)
              obtain ⟨S74, z74, p74, f247⟩ := p73.freezeRd 0 rfl (f244.ext z73) (by decide)
              have f249 : Els (kSl (kInt .u64)) S74 w72 ([.slice (Gp G32) y30.1.length c33, .slice (Gp G240) y238.length c241] : List Value) [y30.1, y238] := (Els.cons (K := (kSl (kInt .u64))) (vs := [.slice (Gp G32) y30.1.length c33]) (x := y30.1) ⟨_, _, rfl, (f246.ext z74)⟩ (Els.cons (K := (kSl (kInt .u64))) (vs := [.slice (Gp G240) y238.length c241]) (x := y238) ⟨_, _, rfl, f247⟩ Els.nil))
              refine Op_.made (.buildSlice 38 2 #[(0, (.tmp 92)), (1, (.tmp 96))]) 97 38 (fun b => .slice (Gp (some b)) 2 2) 22 ([.slice (Gp G32) y30.1.length c33, .slice (Gp G240) y238.length c241] : List Value) p74 (Goes.vs (by kernel_rfl)) (by kernel_rfl) ?_
              intro b248 w75 z75 p75
              have p75 : Hp nz wz S74 w75 (((some b248), .row 22 ([.slice (Gp G32) y30.1.length c33, .slice (Gp G240) y238.length c241] : List Value) (2 * (kSl (kInt .u64)).size) 0) :: (G240, .row 35 cs242 (c241 * (kInt .u64).size) cs242.length) :: (G32, .row 35 cs34 (c33 * (kInt .u64).size) cs34.length) :: Lr) := p75
              obtain ⟨S76, z76, p76, f251⟩ := p75.freezeRd 0 rfl (f249.ext z75) (by decide)
              obtain ⟨y252, e253, h⟩ := bind_some h
              try dsimp only at h
              refine Op_.call (.call { callee := .value (.func 13), args := #[(.tmp 97)], argTypes := #[38] }) 98 22 13 #[.slice (Gp (some b248)) [y30.1, y238].length 2] (Goes.cs (by kernel_rfl)) (by kernel_rfl) (W.tidepolelaw13_or [y30.1, y238] y252 e253 nz wz S76 w75 (((some b248), .row 22 ([.slice (Gp G32) y30.1.length c33, .slice (Gp G240) y238.length c241] : List Value) (2 * (kSl (kInt .u64)).size) (([.slice (Gp G32) y30.1.length c33, .slice (Gp G240) y238.length c241] : List Value).length)) :: (G240, .row 35 cs242 (c241 * (kInt .u64).size) cs242.length) :: (G32, .row 35 cs34 (c33 * (kInt .u64).size) cs34.length) :: Lr) (Gp (some b248)) 2 p76 f251) ?_
              rintro _ w77 ⟨S77, G254, c255, cs256, rfl, z77, p77, f258⟩
              have p77 := (p77.front 1 _ rfl).drop
              have p77 := (p77.front 1 _ rfl).drop
              have p77 := (p77.front 1 _ rfl).drop
              refine Goes.runs 1 [(99, .slice (Gp G6) y4.length c7)] [.inRegion (opsOf (sub [1, 1, 1, 1, 0] B3)) [77, 78, 79, 80, 81, 82, 83, 84, 85, 86, 87], .code (sub [1, 1, 1, 1, 1] B3)] (by kernel_rfl) ?_
              obtain ⟨S78, z78, p78, f260⟩ := p77.freezeRd 0 rfl f258 (by decide)
              obtain ⟨y261, e262, h⟩ := bind_some h
              try dsimp only at h
              refine Op_.call (.call { callee := .value (.func 11), args := #[(.tmp 98), (.tmp 99)], argTypes := #[22, 22] }) 100 4 11 #[.slice (Gp G254) y252.length c255, .slice (Gp G6) y4.length c7] (Goes.cs (by kernel_rfl)) (by kernel_rfl) (W.tidepolelaw13_same y252 y4 y261 e262 nz wz S78 w77 ((G254, .row 35 cs256 (c255 * (kInt .u64).size) cs256.length) :: Lr) (Gp G254) c255 (Gp G6) c7 p78 f260 ((((((((((((((((((((((((((((((((((((((((((((((((((((((((((((((((((((((((f28.ext z7).ext z8).ext z9).ext z10).ext z11).ext z12).ext z13).ext z14).ext z15).ext z16).ext z17).ext z18).ext z19).ext z20).ext z21).ext z22).ext z23).ext z24).ext z25).ext z26).ext z27).ext z28).ext z29).ext z30).ext z31).ext z32).ext z33).ext z34).ext z35).ext z36).ext z37).ext z38).ext z39).ext z40).ext z41).ext z42).ext z43).ext z44).ext z45).ext z46).ext z47).ext z48).ext z49).ext z50).ext z51).ext z52).ext z53).ext z54).ext z55).ext z56).ext z57).ext z58).ext z59).ext z60).ext z61).ext z62).ext z63).ext z64).ext z65).ext z66).ext z67).ext z68).ext z69).ext z70).ext z71).ext z72).ext z73).ext z74).ext z75).ext z76).ext z77).ext z78)) ?_
              rintro _ w79 ⟨S79, rfl, z79, p79⟩
              have p79 := (p79.front 0 _ rfl).drop
              refine Goes.runs 2 [(101, .bool y261), (102, .bool y261)] [.inRegion (opsOf (sub [1, 1, 1, 1, 0] B3)) [80, 81, 82, 83, 84, 85, 86, 87], .code (sub [1, 1, 1, 1, 1] B3)] (by kernel_rfl) ?_
              by_cases h263 : y261 = true
              · rw [if_pos h263] at h
                rw [h263]
                refine Goes.runs 2 [(103, .slice (Gp G32) y30.1.length c33), (104, .slice (Gp G14) y12.length c15)] [.inRegion (opsOf (sub [1, 1, 1, 1, 0] B3)) [82, 83, 84, 85, 86, 87], .code (sub [1, 1, 1, 1, 1] B3)] (by kernel_rfl) ?_
                have f265 : Els (kSl (kInt .u64)) S79 w79 ([.slice (Gp G32) y30.1.length c33, .slice (Gp G14) y12.length c15] : List Value) [y30.1, y12] := (Els.cons (K := (kSl (kInt .u64))) (vs := [.slice (Gp G32) y30.1.length c33]) (x := y30.1) ⟨_, _, rfl, ((((((f246.ext z74).ext z75).ext z76).ext z77).ext z78).ext z79)⟩ (Els.cons (K := (kSl (kInt .u64))) (vs := [.slice (Gp G14) y12.length c15]) (x := y12) ⟨_, _, rfl, ((((((((((((((((((((((((((((((((((((((((((((((((((((((((((((((((((((((((f29.ext z8).ext z9).ext z10).ext z11).ext z12).ext z13).ext z14).ext z15).ext z16).ext z17).ext z18).ext z19).ext z20).ext z21).ext z22).ext z23).ext z24).ext z25).ext z26).ext z27).ext z28).ext z29).ext z30).ext z31).ext z32).ext z33).ext z34).ext z35).ext z36).ext z37).ext z38).ext z39).ext z40).ext z41).ext z42).ext z43).ext z44).ext z45).ext z46).ext z47).ext z48).ext z49).ext z50).ext z51).ext z52).ext z53).ext z54).ext z55).ext z56).ext z57).ext z58).ext z59).ext z60).ext z61).ext z62).ext z63).ext z64).ext z65).ext z66).ext z67).ext z68).ext z69).ext z70).ext z71).ext z72).ext z73).ext z74).ext z75).ext z76).ext z77).ext z78).ext z79)⟩ Els.nil))
                refine Op_.made (.buildSlice 38 2 #[(0, (.tmp 103)), (1, (.tmp 104))]) 105 38 (fun b => .slice (Gp (some b)) 2 2) 22 ([.slice (Gp G32) y30.1.length c33, .slice (Gp G14) y12.length c15] : List Value) p79 (Goes.vs (by kernel_rfl)) (by kernel_rfl) ?_
                intro b264 w80 z80 p80
                have p80 : Hp nz wz S79 w80 (((some b264), .row 22 ([.slice (Gp G32) y30.1.length c33, .slice (Gp G14) y12.length c15] : List Value) (2 * (kSl (kInt .u64)).size) 0) :: Lr) := p80
                obtain ⟨S81, z81, p81, f267⟩ := p80.freezeRd 0 rfl (f265.ext z80) (by decide)
                obtain ⟨y268, e269, h⟩ := bind_some h
                try dsimp only at h
                refine Op_.call (.call { callee := .value (.func 12), args := #[(.tmp 105)], argTypes := #[38] }) 106 22 12 #[.slice (Gp (some b264)) [y30.1, y12].length 2] (Goes.cs (by kernel_rfl)) (by kernel_rfl) (W.tidepolelaw13_and [y30.1, y12] y268 e269 nz wz S81 w80 (((some b264), .row 22 ([.slice (Gp G32) y30.1.length c33, .slice (Gp G14) y12.length c15] : List Value) (2 * (kSl (kInt .u64)).size) (([.slice (Gp G32) y30.1.length c33, .slice (Gp G14) y12.length c15] : List Value).length)) :: Lr) (Gp (some b264)) 2 p81 f267) ?_
                rintro _ w82 ⟨S82, G270, c271, cs272, rfl, z82, p82, f274⟩
                have p82 := (p82.front 1 _ rfl).drop
                refine Goes.runs 5 [(107, .int .i64 (y268.length : Int)), (108, .bool (decide ((y268.length : Int) = 0))), (109, .bool (decide ((y268.length : Int) = 0))), (6, .bool (decide ((y268.length : Int) = 0)))] [.code (sub [1, 1, 1, 1, 1] B3)] (by kernel_rfl) ?_
                have p82 := (p82.front 0 _ rfl).drop
                obtain rfl := Option.some.inj h
                exact Goes.ret (fn := Try.f3) (by kernel_rfl) (v := .bool (decide ((y268.length : Int) = 0))) (by kernel_rfl) ⟨S82, rfl, ((((((((((((((((((((((((((((((((((((((((((((((((((((((((((((((((((((((((((((((((((Ext.refl S0 w0).trans z2).trans z3).trans z4).trans z5).trans z6).trans z7).trans z8).trans z9).trans z10).trans z11).trans z12).trans z13).trans z14).trans z15).trans z16).trans z17).trans z18).trans z19).trans z20).trans z21).trans z22).trans z23).trans z24).trans z25).trans z26).trans z27).trans z28).trans z29).trans z30).trans z31).trans z32).trans z33).trans z34).trans z35).trans z36).trans z37).trans z38).trans z39).trans z40).trans z41).trans z42).trans z43).trans z44).trans z45).trans z46).trans z47).trans z48).trans z49).trans z50).trans z51).trans z52).trans z53).trans z54).trans z55).trans z56).trans z57).trans z58).trans z59).trans z60).trans z61).trans z62).trans z63).trans z64).trans z65).trans z66).trans z67).trans z68).trans z69).trans z70).trans z71).trans z72).trans z73).trans z74).trans z75).trans z76).trans z77).trans z78).trans z79).trans z80).trans z81).trans z82), p82⟩
              · rw [if_neg h263] at h
                have h263' : y261 = false := by simpa using h263
                rw [h263']
                refine Goes.runs 9 [(103, undef), (104, undef), (105, undef), (106, undef), (107, undef), (108, undef), (109, .bool false), (6, .bool false)] [.code (sub [1, 1, 1, 1, 1] B3)] (by kernel_rfl) ?_
                obtain rfl := Option.some.inj h
                exact Goes.ret (fn := Try.f3) (by kernel_rfl) (v := .bool false) (by kernel_rfl) ⟨S79, rfl, (((((((((((((((((((((((((((((((((((((((((((((((((((((((((((((((((((((((((((((((Ext.refl S0 w0).trans z2).trans z3).trans z4).trans z5).trans z6).trans z7).trans z8).trans z9).trans z10).trans z11).trans z12).trans z13).trans z14).trans z15).trans z16).trans z17).trans z18).trans z19).trans z20).trans z21).trans z22).trans z23).trans z24).trans z25).trans z26).trans z27).trans z28).trans z29).trans z30).trans z31).trans z32).trans z33).trans z34).trans z35).trans z36).trans z37).trans z38).trans z39).trans z40).trans z41).trans z42).trans z43).trans z44).trans z45).trans z46).trans z47).trans z48).trans z49).trans z50).trans z51).trans z52).trans z53).trans z54).trans z55).trans z56).trans z57).trans z58).trans z59).trans z60).trans z61).trans z62).trans z63).trans z64).trans z65).trans z66).trans z67).trans z68).trans z69).trans z70).trans z71).trans z72).trans z73).trans z74).trans z75).trans z76).trans z77).trans z78).trans z79), p79⟩
            · rw [if_neg h233] at h
              rw [decide_eq_false h233]
              refine Goes.runs 14 [(92, undef), (93, undef), (94, undef), (95, undef), (96, undef), (97, undef), (98, undef), (99, undef), (100, undef), (101, .bool false), (102, .bool false), (103, undef), (104, undef), (105, undef)] [.inRegion (opsOf (sub [1, 1, 1, 1, 0] B3)) [83, 84, 85, 86, 87], .code (sub [1, 1, 1, 1, 1] B3)] (by kernel_rfl) ?_
              refine Goes.runs 6 [(106, undef), (107, undef), (108, undef), (109, .bool false), (6, .bool false)] [.code (sub [1, 1, 1, 1, 1] B3)] (by kernel_rfl) ?_
              have p69 := (p69.front 0 _ rfl).drop
              obtain rfl := Option.some.inj h
              exact Goes.ret (fn := Try.f3) (by kernel_rfl) (v := .bool false) (by kernel_rfl) ⟨S69, rfl, (((((((((((((((((((((((((((((((((((((((((((((((((((((((((((((((((((((Ext.refl S0 w0).trans z2).trans z3).trans z4).trans z5).trans z6).trans z7).trans z8).trans z9).trans z10).trans z11).trans z12).trans z13).trans z14).trans z15).trans z16).trans z17).trans z18).trans z19).trans z20).trans z21).trans z22).trans z23).trans z24).trans z25).trans z26).trans z27).trans z28).trans z29).trans z30).trans z31).trans z32).trans z33).trans z34).trans z35).trans z36).trans z37).trans z38).trans z39).trans z40).trans z41).trans z42).trans z43).trans z44).trans z45).trans z46).trans z47).trans z48).trans z49).trans z50).trans z51).trans z52).trans z53).trans z54).trans z55).trans z56).trans z57).trans z58).trans z59).trans z60).trans z61).trans z62).trans z63).trans z64).trans z65).trans z66).trans z67).trans z68).trans z69), p69⟩
          · rw [if_neg h232] at h
            have h232' : y230 = false := by simpa using h232
            rw [h232']
            refine Goes.runs 14 [(88, undef), (89, undef), (90, .bool false), (91, .bool false), (92, undef), (93, undef), (94, undef), (95, undef), (96, undef), (97, undef), (98, undef), (99, undef), (100, undef), (101, .bool false)] [.inRegion (opsOf (sub [1, 1, 1, 1, 0] B3)) [79, 80, 81, 82, 83, 84, 85, 86, 87], .code (sub [1, 1, 1, 1, 1] B3)] (by kernel_rfl) ?_
            refine Goes.runs 10 [(102, .bool false), (103, undef), (104, undef), (105, undef), (106, undef), (107, undef), (108, undef), (109, .bool false), (6, .bool false)] [.code (sub [1, 1, 1, 1, 1] B3)] (by kernel_rfl) ?_
            have p69 := (p69.front 0 _ rfl).drop
            obtain rfl := Option.some.inj h
            exact Goes.ret (fn := Try.f3) (by kernel_rfl) (v := .bool false) (by kernel_rfl) ⟨S69, rfl, (((((((((((((((((((((((((((((((((((((((((((((((((((((((((((((((((((((Ext.refl S0 w0).trans z2).trans z3).trans z4).trans z5).trans z6).trans z7).trans z8).trans z9).trans z10).trans z11).trans z12).trans z13).trans z14).trans z15).trans z16).trans z17).trans z18).trans z19).trans z20).trans z21).trans z22).trans z23).trans z24).trans z25).trans z26).trans z27).trans z28).trans z29).trans z30).trans z31).trans z32).trans z33).trans z34).trans z35).trans z36).trans z37).trans z38).trans z39).trans z40).trans z41).trans z42).trans z43).trans z44).trans z45).trans z46).trans z47).trans z48).trans z49).trans z50).trans z51).trans z52).trans z53).trans z54).trans z55).trans z56).trans z57).trans z58).trans z59).trans z60).trans z61).trans z62).trans z63).trans z64).trans z65).trans z66).trans z67).trans z68).trans z69), p69⟩
        · rw [if_neg h164] at h
          have h164' : y162 = false := by simpa using h164
          rw [h164']
          refine Goes.runs 14 [(68, undef), (69, undef), (70, undef), (71, undef), (72, undef), (73, undef), (74, undef), (75, undef), (76, undef), (77, undef), (78, undef), (79, undef), (80, undef), (81, undef)] [.inRegion (opsOf (sub [1, 1, 1, 1, 0] B3)) [59, 60, 61, 62, 63, 64, 65, 66, 67, 68, 69, 70, 71, 72, 73, 74, 75, 76, 77, 78, 79, 80, 81, 82, 83, 84, 85, 86, 87], .code (sub [1, 1, 1, 1, 1] B3)] (by kernel_rfl) ?_
          refine Goes.runs 14 [(82, undef), (83, undef), (84, undef), (85, undef), (86, .bool false), (87, .bool false), (88, undef), (89, undef), (90, .bool false), (91, .bool false), (92, undef), (93, undef), (94, undef), (95, undef)] [.inRegion (opsOf (sub [1, 1, 1, 1, 0] B3)) [73, 74, 75, 76, 77, 78, 79, 80, 81, 82, 83, 84, 85, 86, 87], .code (sub [1, 1, 1, 1, 1] B3)] (by kernel_rfl) ?_
          refine Goes.runs 14 [(96, undef), (97, undef), (98, undef), (99, undef), (100, undef), (101, .bool false), (102, .bool false), (103, undef), (104, undef), (105, undef), (106, undef), (107, undef), (108, undef), (109, .bool false)] [.inRegion (opsOf (sub [1, 1, 1, 1, 0] B3)) [87], .code (sub [1, 1, 1, 1, 1] B3)] (by kernel_rfl) ?_
          refine Goes.runs 2 [(6, .bool false)] [.code (sub [1, 1, 1, 1, 1] B3)] (by kernel_rfl) ?_
          have p48 := (p48.front 0 _ rfl).drop
          obtain rfl := Option.some.inj h
          exact Goes.ret (fn := Try.f3) (by kernel_rfl) (v := .bool false) (by kernel_rfl) ⟨S48, rfl, ((((((((((((((((((((((((((((((((((((((((((((((((Ext.refl S0 w0).trans z2).trans z3).trans z4).trans z5).trans z6).trans z7).trans z8).trans z9).trans z10).trans z11).trans z12).trans z13).trans z14).trans z15).trans z16).trans z17).trans z18).trans z19).trans z20).trans z21).trans z22).trans z23).trans z24).trans z25).trans z26).trans z27).trans z28).trans z29).trans z30).trans z31).trans z32).trans z33).trans z34).trans z35).trans z36).trans z37).trans z38).trans z39).trans z40).trans z41).trans z42).trans z43).trans z44).trans z45).trans z46).trans z47).trans z48), p48⟩
      · rw [if_neg h96] at h
        have h96' : y94 = false := by simpa using h96
        rw [h96']
        refine Goes.runs 14 [(48, undef), (49, undef), (50, undef), (51, undef), (52, undef), (53, undef), (54, undef), (55, undef), (56, undef), (57, undef), (58, undef), (59, undef), (60, undef), (61, undef)] [.inRegion (opsOf (sub [1, 1, 1, 1, 0] B3)) [39, 40, 41, 42, 43, 44, 45, 46, 47, 48, 49, 50, 51, 52, 53, 54, 55, 56, 57, 58, 59, 60, 61, 62, 63, 64, 65, 66, 67, 68, 69, 70, 71, 72, 73, 74, 75, 76, 77, 78, 79, 80, 81, 82, 83, 84, 85, 86, 87], .code (sub [1, 1, 1, 1, 1] B3)] (by kernel_rfl) ?_
        refine Goes.runs 14 [(62, undef), (63, undef), (64, undef), (65, undef), (66, .bool false), (67, .bool false), (68, undef), (69, undef), (70, undef), (71, undef), (72, undef), (73, undef), (74, undef), (75, undef)] [.inRegion (opsOf (sub [1, 1, 1, 1, 0] B3)) [53, 54, 55, 56, 57, 58, 59, 60, 61, 62, 63, 64, 65, 66, 67, 68, 69, 70, 71, 72, 73, 74, 75, 76, 77, 78, 79, 80, 81, 82, 83, 84, 85, 86, 87], .code (sub [1, 1, 1, 1, 1] B3)] (by kernel_rfl) ?_
        refine Goes.runs 14 [(76, undef), (77, undef), (78, undef), (79, undef), (80, undef), (81, undef), (82, undef), (83, undef), (84, undef), (85, undef), (86, .bool false), (87, .bool false), (88, undef), (89, undef)] [.inRegion (opsOf (sub [1, 1, 1, 1, 0] B3)) [67, 68, 69, 70, 71, 72, 73, 74, 75, 76, 77, 78, 79, 80, 81, 82, 83, 84, 85, 86, 87], .code (sub [1, 1, 1, 1, 1] B3)] (by kernel_rfl) ?_
        refine Goes.runs 14 [(90, .bool false), (91, .bool false), (92, undef), (93, undef), (94, undef), (95, undef), (96, undef), (97, undef), (98, undef), (99, undef), (100, undef), (101, .bool false), (102, .bool false), (103, undef)] [.inRegion (opsOf (sub [1, 1, 1, 1, 0] B3)) [81, 82, 83, 84, 85, 86, 87], .code (sub [1, 1, 1, 1, 1] B3)] (by kernel_rfl) ?_
        refine Goes.runs 8 [(104, undef), (105, undef), (106, undef), (107, undef), (108, undef), (109, .bool false), (6, .bool false)] [.code (sub [1, 1, 1, 1, 1] B3)] (by kernel_rfl) ?_
        have p27 := (p27.front 0 _ rfl).drop
        obtain rfl := Option.some.inj h
        exact Goes.ret (fn := Try.f3) (by kernel_rfl) (v := .bool false) (by kernel_rfl) ⟨S27, rfl, (((((((((((((((((((((((((((Ext.refl S0 w0).trans z2).trans z3).trans z4).trans z5).trans z6).trans z7).trans z8).trans z9).trans z10).trans z11).trans z12).trans z13).trans z14).trans z15).trans z16).trans z17).trans z18).trans z19).trans z20).trans z21).trans z22).trans z23).trans z24).trans z25).trans z26).trans z27), p27⟩
    · rw [if_neg h67] at h
      have h67' : y65 = false := by simpa using h67
      rw [h67']
      refine Goes.runs 14 [(35, undef), (36, undef), (37, undef), (38, undef), (39, undef), (40, undef), (41, undef), (42, undef), (43, undef), (44, undef), (45, undef), (46, .bool false), (47, .bool false), (48, undef)] [.inRegion (opsOf (sub [1, 1, 1, 1, 0] B3)) [26, 27, 28, 29, 30, 31, 32, 33, 34, 35, 36, 37, 38, 39, 40, 41, 42, 43, 44, 45, 46, 47, 48, 49, 50, 51, 52, 53, 54, 55, 56, 57, 58, 59, 60, 61, 62, 63, 64, 65, 66, 67, 68, 69, 70, 71, 72, 73, 74, 75, 76, 77, 78, 79, 80, 81, 82, 83, 84, 85, 86, 87], .code (sub [1, 1, 1, 1, 1] B3)] (by kernel_rfl) ?_
      refine Goes.runs 14 [(49, undef), (50, undef), (51, undef), (52, undef), (53, undef), (54, undef), (55, undef), (56, undef), (57, undef), (58, undef), (59, undef), (60, undef), (61, undef), (62, undef)] [.inRegion (opsOf (sub [1, 1, 1, 1, 0] B3)) [40, 41, 42, 43, 44, 45, 46, 47, 48, 49, 50, 51, 52, 53, 54, 55, 56, 57, 58, 59, 60, 61, 62, 63, 64, 65, 66, 67, 68, 69, 70, 71, 72, 73, 74, 75, 76, 77, 78, 79, 80, 81, 82, 83, 84, 85, 86, 87], .code (sub [1, 1, 1, 1, 1] B3)] (by kernel_rfl) ?_
      refine Goes.runs 14 [(63, undef), (64, undef), (65, undef), (66, .bool false), (67, .bool false), (68, undef), (69, undef), (70, undef), (71, undef), (72, undef), (73, undef), (74, undef), (75, undef), (76, undef)] [.inRegion (opsOf (sub [1, 1, 1, 1, 0] B3)) [54, 55, 56, 57, 58, 59, 60, 61, 62, 63, 64, 65, 66, 67, 68, 69, 70, 71, 72, 73, 74, 75, 76, 77, 78, 79, 80, 81, 82, 83, 84, 85, 86, 87], .code (sub [1, 1, 1, 1, 1] B3)] (by kernel_rfl) ?_
      refine Goes.runs 14 [(77, undef), (78, undef), (79, undef), (80, undef), (81, undef), (82, undef), (83, undef), (84, undef), (85, undef), (86, .bool false), (87, .bool false), (88, undef), (89, undef), (90, .bool false)] [.inRegion (opsOf (sub [1, 1, 1, 1, 0] B3)) [68, 69, 70, 71, 72, 73, 74, 75, 76, 77, 78, 79, 80, 81, 82, 83, 84, 85, 86, 87], .code (sub [1, 1, 1, 1, 1] B3)] (by kernel_rfl) ?_
      refine Goes.runs 14 [(91, .bool false), (92, undef), (93, undef), (94, undef), (95, undef), (96, undef), (97, undef), (98, undef), (99, undef), (100, undef), (101, .bool false), (102, .bool false), (103, undef), (104, undef)] [.inRegion (opsOf (sub [1, 1, 1, 1, 0] B3)) [82, 83, 84, 85, 86, 87], .code (sub [1, 1, 1, 1, 1] B3)] (by kernel_rfl) ?_
      refine Goes.runs 7 [(105, undef), (106, undef), (107, undef), (108, undef), (109, .bool false), (6, .bool false)] [.code (sub [1, 1, 1, 1, 1] B3)] (by kernel_rfl) ?_
      have p18 := (p18.front 0 _ rfl).drop
      obtain rfl := Option.some.inj h
      exact Goes.ret (fn := Try.f3) (by kernel_rfl) (v := .bool false) (by kernel_rfl) ⟨S18, rfl, ((((((((((((((((((Ext.refl S0 w0).trans z2).trans z3).trans z4).trans z5).trans z6).trans z7).trans z8).trans z9).trans z10).trans z11).trans z12).trans z13).trans z14).trans z15).trans z16).trans z17).trans z18), p18⟩
  · rw [if_neg h3] at h
    have h3' : y1 = false := by simpa using h3
    rw [h3']
    refine Goes.runs 5 [(6, .bool false)] [.code (sub [1, 0, 1, 0, 1] B3), .code (sub [1, 1] B3)] (by kernel_rfl) ?_
    obtain rfl := Option.some.inj h
    exact Goes.ret (fn := Try.f3) (by kernel_rfl) (v := .bool false) (by kernel_rfl) ⟨S2, rfl, ((Ext.refl S0 w0).trans z2), p2⟩

/-! tidepole/tidepolelaw13.own -/
def Post.tidepolelaw13_own (nz : Nat) (wz : World) (S0 : Fz) (w0 : World) (Lr : List Ent) (r : List Int) (v : Value) (w' : World) : Prop :=
  ∃ (S' : Fz) (G1 : Option Nat) (c2 : Nat) (cs3 : List Value), v = .slice (Gp G1) r.length c2 ∧ Ext S0 w0 S' w' ∧ Hp nz wz S' w' ((G1, .row 35 cs3 (c2 * (kInt .u64).size) 0) :: Lr) ∧ Els (kInt .u64) S' w' cs3 r

theorem W.tidepolelaw13_own (x0 : List Int) (r : List Int) (h : M.tidepolelaw13_own x0 = some r) (nz : Nat) (wz : World) (S0 : Fz) (w0 : World) (Lr : List Ent) (Ax0 : Option Addr) (cx0 : Nat) (p0 : Hp nz wz S0 w0 (Lr)) (fx0 : Rd (kInt .u64) S0 w0 Ax0 cx0 x0) :
    Calls Try.prog 14 #[.slice Ax0 x0.length cx0] w0 (Rets (Post.tidepolelaw13_own nz wz S0 w0 Lr r)) := by
  refine calls_of_goes (fn := Try.f14) (c := B14) (by kernel_rfl) (by kernel_rfl) 9 (by kernel_rfl) ?_
  refine Goes.jump 10 [(0, .slice Ax0 x0.length cx0)] (by kernel_rfl) (fun junk => ?_)
  delta M.tidepolelaw13_own at h
  refine Goes.runs 6 [(2, .slice none 0 0)] [.inRegion (opsOf (sub [1, 0] B14)) [0, 1, 2, 3, 4, 5, 6, 7], .code (sub [1, 1] B14)] (by kernel_rfl) ?_
  have f2 : Els (kInt .u64) S0 w0 ([] : List Value) ([] : List Int) := Els.nil
  refine Op_.made (.buildSlice 22 0 #[]) 3 22 (fun b => .slice (Gp (some b)) 0 0) 35 ([] : List Value) p0 (Goes.vs (by kernel_rfl)) (by kernel_rfl) ?_
  intro b1 w2 z2 p2
  have p2 : Hp nz wz S0 w2 (((some b1), .row 35 ([] : List Value) (0 * (kInt .u64).size) 0) :: Lr) := p2
  refine Goes.runs 4 [(4, .slice Ax0 x0.length cx0), (5, .slice Ax0 x0.length cx0), (6, .int .i64 (x0.length : Int)), (7, .int .i64 (imn (x0.length : Int) 60))] [.inRegion (opsOf (sub [1, 0] B14)) [5, 6, 7], .code (sub [1, 1] B14)] (by kernel_rfl) ?_
  obtain ⟨g4, h⟩ := guard_some h
  obtain ⟨g5, h⟩ := guard_some h
  refine Op_.slR 22 (.tmp 4) none (some (.tmp 7)) 8 22 35 0 (imn (x0.length : Int) 60) (fx0.ext z2) (Goes.vs (by kernel_rfl)) (by kernel_rfl) (by kernel_rfl) (by kernel_rfl) Bnd.no (Bnd.at_ .i64 (by kernel_rfl)) (by decide) g4 g5 ?_
  intro A6 c7 f8
  obtain ⟨ns9, f10, f11⟩ := src_rd f8
  obtain ⟨g12, h⟩ := guard_some h
  refine Op_.ap (K := (kInt .u64)) 22 (.tmp 3) (.tmp 8) 9 22 35 0 (.int .u64 0) 8 0 ([] : List Int) (sl x0 0 (imn (x0.length : Int) 60)) A6 c7 p2 rfl (f2.ext z2) (Goes.vs (by kernel_rfl)) (by kernel_rfl) (by kernel_rfl) (by kernel_rfl) (by kernel_rfl) rfl (by decide) f10 f11 (by have := g12; simp only [List.nil_append]; omega) (by have := g12; simp only [List.nil_append]; omega) ?_
  intro w3 G13 c14 cs15 z3 p3 f16
  refine Goes.runs 2 [(2, .slice (Gp G13) (sl x0 0 (imn (x0.length : Int) 60)).length c14)] [.code (sub [1, 1] B14)] (by kernel_rfl) ?_
  obtain rfl := Option.some.inj h
  exact Goes.ret (fn := Try.f14) (by kernel_rfl) (v := .slice (Gp G13) (sl x0 0 (imn (x0.length : Int) 60)).length c14) (by kernel_rfl) ⟨S0, G13, c14, cs15, rfl, (((Ext.refl S0 w0).trans z2).trans z3), p3, f16⟩

/-! tidepole/post.All -/
def Post.post_All (nz : Nat) (wz : World) (S0 : Fz) (w0 : World) (Lr : List Ent) (r : List Int) (v : Value) (w' : World) : Prop :=
  ∃ (S' : Fz) (b1 : Nat) (A2 : Option Addr) (c3 : Nat), v = .func (.func 45) #[] #[.pointer (some ⟨b1, 0, none⟩)] ∧ Ext S0 w0 S' w' ∧ Hp nz wz S' w' ((some b1, .row 22 [.slice A2 r.length c3] 1 0) :: Lr) ∧ Rd (kInt .u64) S' w' A2 c3 r

theorem W.post_All (x0 : List Int) (r : List Int) (h : M.post_All x0 = some r) (nz : Nat) (wz : World) (S0 : Fz) (w0 : World) (Lr : List Ent) (Ax0 : Option Addr) (cx0 : Nat) (p0 : Hp nz wz S0 w0 (Lr)) (fx0 : Rd (kInt .u64) S0 w0 Ax0 cx0 x0) :
    Calls Try.prog 15 #[.slice Ax0 x0.length cx0] w0 (Rets (Post.post_All nz wz S0 w0 Lr r)) := by
  refine calls_of_goes (fn := Try.f15) (c := B15) (by kernel_rfl) (by kernel_rfl) 3 (by kernel_rfl) ?_
  refine Goes.jump 4 [(0, .slice Ax0 x0.length cx0)] (by kernel_rfl) (fun junk => ?_)
  delta M.post_All at h
  refine Goes.runs 2 [] [.inRegion (opsOf (sub [0] B15)) [0, 1], .code (sub [1] B15)] (by kernel_rfl) ?_
  refine Op_.box 22 (.tmp 0) 1 0 (.slice Ax0 x0.length cx0) [.slice Ax0 x0.length cx0] p0 (Goes.vs (by kernel_rfl)) (by kernel_rfl) (by kernel_rfl) ?_
  intro b1 w2 z2 p2
  refine Goes.runs 7 [(2, .func (.func 45) #[] #[.pointer (some ⟨b1, 0, none⟩)]), (3, .func (.func 45) #[] #[.pointer (some ⟨b1, 0, none⟩)])] [.code (sub [1, 1] B15)] (by kernel_rfl) ?_
  obtain rfl := Option.some.inj h
  exact Goes.ret (fn := Try.f15) (by kernel_rfl) (v := .func (.func 45) #[] #[.pointer (some ⟨b1, 0, none⟩)]) (by kernel_rfl) ⟨S0, b1, Ax0, cx0, rfl, ((Ext.refl S0 w0).trans z2), p2, (fx0.ext z2)⟩

/-! tidepole/tidepolebase.Among -/
def Post.tidepolebase_Among (nz : Nat) (wz : World) (S0 : Fz) (w0 : World) (Lr : List Ent) (r : Int) (v : Value) (w' : World) : Prop :=
  ∃ (S' : Fz) , v = .int .i64 r ∧ Ext S0 w0 S' w' ∧ Hp nz wz S' w' (Lr)

theorem W.tidepolebase_Among (x0 : Int) (x1 : Int) (r : Int) (h : M.tidepolebase_Among x0 x1 = some r) (nz : Nat) (wz : World) (S0 : Fz) (w0 : World) (Lr : List Ent) (p0 : Hp nz wz S0 w0 (Lr)) :
    Calls Try.prog 16 #[.int .i64 x0, .int .i64 x1] w0 (Rets (Post.tidepolebase_Among nz wz S0 w0 Lr r)) := by
  refine calls_of_goes (fn := Try.f16) (c := B16) (by kernel_rfl) (by kernel_rfl) 11 (by kernel_rfl) ?_
  refine Goes.jump 13 [(0, .int .i64 x0), (1, .int .i64 x1)] (by kernel_rfl) (fun junk => ?_)
  delta M.tidepolebase_Among at h
  refine Goes.runs 10 [(4, .int .i64 0), (5, .int .i64 x1), (6, .bool (decide (x1 < 1)))] [.code (sub [1, 0, 1] B16), .code (sub [1, 1] B16)] (by kernel_rfl) ?_
  by_cases h1 : x1 < 1
  · rw [if_pos h1] at h
    rw [decide_eq_true h1]
    refine Goes.runs 5 [(4, .int .i64 0)] [.code (sub [1, 0, 1, 0, 1] B16), .code (sub [1, 1] B16)] (by kernel_rfl) ?_
    obtain rfl := Option.some.inj h
    exact Goes.ret (fn := Try.f16) (by kernel_rfl) (v := .int .i64 0) (by kernel_rfl) ⟨S0, rfl, (Ext.refl S0 w0), p0⟩
  · rw [if_neg h1] at h
    rw [decide_eq_false h1]
    refine Goes.runs 8 [(7, .int .i64 x0), (8, .int .u64 (wr .u64 x0)), (9, .int .i64 x1), (10, .int .u64 (wr .u64 x1))] [.inRegion (opsOf (sub [1, 1, 0] B16)) [4, 5, 6], .code (sub [1, 1, 1] B16)] (by kernel_rfl) ?_
    obtain ⟨g2, h⟩ := guard_some h
    refine Op_.binrem 35 (.tmp 8) (.tmp 10) 35 11 35 .u64 (wr .u64 x0) (wr .u64 x1) (Goes.vs (by kernel_rfl)) (by kernel_rfl) (by kernel_rfl) g2 ?_
    refine Goes.runs 3 [(12, .int .i64 (wr .i64 (irem .u64 (wr .u64 x0) (wr .u64 x1)))), (4, .int .i64 (wr .i64 (irem .u64 (wr .u64 x0) (wr .u64 x1))))] [.code (sub [1, 1, 1] B16)] (by kernel_rfl) ?_
    obtain rfl := Option.some.inj h
    exact Goes.ret (fn := Try.f16) (by kernel_rfl) (v := .int .i64 (wr .i64 (irem .u64 (wr .u64 x0) (wr .u64 x1)))) (by kernel_rfl) ⟨S0, rfl, (Ext.refl S0 w0), p0⟩

/-! tidepole/tidepolelaw13.PostGoes$1 -/
def Post.tidepolelaw13_PostGoes_1 (nz : Nat) (wz : World) (S0 : Fz) (w0 : World) (Lr : List Ent) (gx1 : Nat) (gx2 : Nat) (r : Bool × (List Int) × Int) (v : Value) (w' : World) : Prop :=
  ∃ (S' : Fz) (G1 : Option Nat) (c2 : Nat) (cs3 : List Value), v = .bool r.1 ∧ Ext S0 w0 S' w' ∧ Hp nz wz S' w' ((G1, .row 35 cs3 (c2 * (kInt .u64).size) 0) :: (some gx1, .row 22 [.slice (Gp G1) r.2.1.length c2] 1 0) :: (some gx2, .row 3 [.int .i64 r.2.2] 1 0) :: Lr) ∧ Els (kInt .u64) S' w' cs3 r.2.1

theorem W.tidepolelaw13_PostGoes_1 (x0 : Int) (x1v0 : List Int) (x2v0 : Int) (r : Bool × (List Int) × Int) (h : M.tidepolelaw13_PostGoes_1 x0 x1v0 x2v0 = some r) (nz : Nat) (wz : World) (S0 : Fz) (w0 : World) (Lr : List Ent) (gx1 : Nat) (Gx1v0 : Option Nat) (cx1v0 : Nat) (csx1v0 : List Value) (gx2 : Nat) (p0 : Hp nz wz S0 w0 ((some gx1, .row 22 [.slice (Gp Gx1v0) x1v0.length cx1v0] 1 0) :: (Gx1v0, .row 35 csx1v0 (cx1v0 * (kInt .u64).size) 0) :: (some gx2, .row 3 [.int .i64 x2v0] 1 0) :: Lr)) (fx1v0 : Els (kInt .u64) S0 w0 csx1v0 x1v0) :
    Calls Try.prog 17 #[.int .u64 x0, .pointer (some ⟨gx1, 0, none⟩), .pointer (some ⟨gx2, 0, none⟩)] w0 (Rets (Post.tidepolelaw13_PostGoes_1 nz wz S0 w0 Lr gx1 gx2 r)) := by
  refine calls_of_goes (fn := Try.f17) (c := B17) (by kernel_rfl) (by kernel_rfl) 10 (by kernel_rfl) ?_
  refine Goes.jump 13 [(0, .int .u64 x0), (1, .pointer (some ⟨gx1, 0, none⟩)), (2, .pointer (some ⟨gx2, 0, none⟩))] (by kernel_rfl) (fun junk => ?_)
  delta M.tidepolelaw13_PostGoes_1 at h
  refine Goes.runs 6 [(4, .bool false)] [.inRegion (opsOf (sub [1, 0] B17)) [0, 1, 2, 3, 4], .code (sub [1, 1] B17)] (by kernel_rfl) ?_
  refine Op_.ld1 22 (.tmp 1) 5 22 ⟨gx1, 0, none⟩ (.slice (Gp Gx1v0) x1v0.length cx1v0) (Goes.vs (by kernel_rfl)) (by kernel_rfl) (by kernel_rfl) ((p0.mem 0 rfl).cell 0 _ rfl) ?_
  refine Goes.runs 1 [(6, .int .u64 x0)] [.inRegion (opsOf (sub [1, 0] B17)) [2, 3, 4], .code (sub [1, 1] B17)] (by kernel_rfl) ?_
  have f2 : Els (kInt .u64) S0 w0 ([.int .u64 x0] : List Value) [x0] := (Els.cons (K := (kInt .u64)) (vs := [.int .u64 x0]) (x := x0) rfl Els.nil)
  refine Op_.made (.buildSlice 22 1 #[(0, (.tmp 6))]) 7 22 (fun b => .slice (Gp (some b)) 1 1) 35 ([.int .u64 x0] : List Value) p0 (Goes.vs (by kernel_rfl)) (by kernel_rfl) ?_
  intro b1 w2 z2 p2
  have p2 : Hp nz wz S0 w2 (((some b1), .row 35 ([.int .u64 x0] : List Value) (1 * (kInt .u64).size) 0) :: (some gx1, .row 22 [.slice (Gp Gx1v0) x1v0.length cx1v0] 1 0) :: (Gx1v0, .row 35 csx1v0 (cx1v0 * (kInt .u64).size) 0) :: (some gx2, .row 3 [.int .i64 x2v0] 1 0) :: Lr) := p2
  obtain ⟨g7, h⟩ := guard_some h
  refine Op_.ap (K := (kInt .u64)) 22 (.tmp 5) (.tmp 7) 8 22 35 2 (.int .u64 0) 8 cx1v0 x1v0 [x0] (Gp (some b1)) 1 p2 rfl (fx1v0.ext z2) (Goes.vs (by kernel_rfl)) (by kernel_rfl) (by kernel_rfl) (by kernel_rfl) (by kernel_rfl) rfl (by decide) (f2.ext z2) (src_own p2 (q := 0) rfl) (by have := g7; omega) (by have := g7; omega) ?_
  intro w3 G8 c9 cs10 z3 p3 f11
  refine Op_.st 22 (.tmp 1) (.tmp 8) 0 1 gx1 0 (.slice (Gp G8) (x1v0 ++ [x0]).length c9) [.slice (Gp G8) (x1v0 ++ [x0]).length c9] p3 rfl (Goes.ss (by kernel_rfl)) (by kernel_rfl) (by kernel_rfl) (by kernel_rfl) (by kernel_rfl) (Nat.zero_le _) (by simp only [List.length_cons, List.length_nil]; omega) (by simp [Value.oneCell']) ?_
  intro w4 z4 p4
  refine Goes.runs 3 [] [.inRegion (opsOf (sub [1, 1, 0] B17)) [0, 1, 2, 3, 4], .code (sub [1, 1, 1] B17)] (by kernel_rfl) ?_
  refine Op_.ld1 22 (.tmp 1) 9 22 ⟨gx1, 0, none⟩ (.slice (Gp G8) (x1v0 ++ [x0]).length c9) (Goes.vs (by kernel_rfl)) (by kernel_rfl) (by kernel_rfl) ((p4.mem 1 rfl).cell 0 _ rfl) ?_
  refine Goes.runs 1 [(10, .int .i64 ((x1v0 ++ [x0]).length : Int))] [.inRegion (opsOf (sub [1, 1, 0] B17)) [2, 3, 4], .code (sub [1, 1, 1] B17)] (by kernel_rfl) ?_
  refine Op_.ld1 3 (.tmp 2) 11 3 ⟨gx2, 0, none⟩ (.int .i64 x2v0) (Goes.vs (by kernel_rfl)) (by kernel_rfl) (by kernel_rfl) ((p4.mem 3 rfl).cell 0 _ rfl) ?_
  refine Goes.runs 3 [(12, .bool (decide (((x1v0 ++ [x0]).length : Int) ≤ x2v0))), (4, .bool (decide (((x1v0 ++ [x0]).length : Int) ≤ x2v0)))] [.code (sub [1, 1, 1] B17)] (by kernel_rfl) ?_
  have p4 := (p4.front 0 _ rfl).drop
  have p4 := p4.front 2 _ rfl
  have p4 := p4.front 1 _ rfl
  have p4 := p4.front 2 _ rfl
  obtain rfl := Option.some.inj h
  exact Goes.ret (fn := Try.f17) (by kernel_rfl) (v := .bool (decide (((x1v0 ++ [x0]).length : Int) ≤ x2v0))) (by kernel_rfl) ⟨S0, G8, c9, cs10, rfl, ((((Ext.refl S0 w0).trans z2).trans z3).trans z4), p4, (f11.ext z4)⟩

/-! tidepole/post.All$1 -/
def Post.post_All_1 (nz : Nat) (wz : World) (S0 : Fz) (w0 : World) (Lr : List Ent) (gx0b0 : Nat) (gx0b1 : Nat) (gx1 : Nat) (r : (List Int) × Int × (List Int)) (v : Value) (w' : World) : Prop :=
  ∃ (S' : Fz) (G1 : Option Nat) (c2 : Nat) (cs3 : List Value) (A4 : Option Addr) (c5 : Nat), v = .tuple #[] ∧ Ext S0 w0 S' w' ∧ Hp nz wz S' w' ((G1, .row 35 cs3 (c2 * (kInt .u64).size) 0) :: (some gx0b0, .row 22 [.slice (Gp G1) r.1.length c2] 1 0) :: (some gx0b1, .row 3 [.int .i64 r.2.1] 1 0) :: (some gx1, .row 22 [.slice A4 r.2.2.length c5] 1 0) :: Lr) ∧ Els (kInt .u64) S' w' cs3 r.1 ∧ Rd (kInt .u64) S' w' A4 c5 r.2.2

def L.post_All_1_l0 (nz : Nat) (wz : World) (S0 : Fz) (w0 : World) (Lr : List Ent) (gx0b0 : Nat) (gx0b1 : Nat) (gx1 : Nat) : List Int × Int × List Int × Int × Int × List Int → ((List Int) × Int × (List Int)) → Prop := fun ⟨x0b0v0, x0b1v0, x5, x6, x7, eE2v0⟩ r => ∀ S1 w1, Ext S0 w0 S1 w1 → ∀ (Gx0b0v0 : Option Nat) (cx0b0v0 : Nat) (csx0b0v0 : List Value) (Ax5 : Option Addr) (cx5 : Nat) (AeE2v0 : Option Addr) (ceE2v0 : Nat) (_ : Hp nz wz S1 w1 ((some gx0b0, .row 22 [.slice (Gp Gx0b0v0) x0b0v0.length cx0b0v0] 1 0) :: (Gx0b0v0, .row 35 csx0b0v0 (cx0b0v0 * (kInt .u64).size) 0) :: (some gx0b1, .row 3 [.int .i64 x0b1v0] 1 0) :: (some gx1, .row 22 [.slice AeE2v0 eE2v0.length ceE2v0] 1 0) :: Lr)) (_ : Els (kInt .u64) S1 w1 csx0b0v0 x0b0v0) (_ : Rd (kInt .u64) S1 w1 Ax5 cx5 x5) (_ : Rd (kInt .u64) S1 w1 AeE2v0 ceE2v0 eE2v0) (junk : Nat → Value),
  Goes Try.prog (base 45) [.code (sub [1, 0, 0] B45), .inLoop (sub [1, 0, 0] B45), .inBlock 0] ⟨lfr 16 [(0, .func (.func 17) #[] #[.pointer (some ⟨gx0b0, 0, none⟩), .pointer (some ⟨gx0b1, 0, none⟩)]), (5, .slice Ax5 x5.length cx5), (6, .int .i64 x6), (7, .int .i64 x7)] junk, []⟩ w1 (Done Try.prog 45 (Rets (Post.post_All_1 nz wz S0 w0 Lr gx0b0 gx0b1 gx1 r)))

theorem W.post_All_1_l0 (nz : Nat) (wz : World) (S0 : Fz) (w0 : World) (Lr : List Ent) (gx0b0 : Nat) (gx0b1 : Nat) (gx1 : Nat) : ∀ a r, M.post_All_1_l0 a = some r → L.post_All_1_l0 nz wz S0 w0 Lr gx0b0 gx0b1 gx1 a r := by
  refine M.post_All_1_l0.partial_correctness (motive := L.post_All_1_l0 nz wz S0 w0 Lr gx0b0 gx0b1 gx1) ?_
  intro rec_post_All_1_l0 ih_post_All_1_l0 ⟨x0b0v0, x0b1v0, x5, x6, x7, eE2v0⟩ r h S1 w1 hx Gx0b0v0 cx0b0v0 csx0b0v0 Ax5 cx5 AeE2v0 ceE2v0 p1 fx0b0v0 fx5 feE2v0 junk
  dsimp only at h
  refine Goes.runs 5 [(8, .bool (decide (x7 < x6)))] [.code (sub [1, 0, 0, 1, 0] B45), .code (sub [1, 0, 0, 1, 1] B45), .inLoop (sub [1, 0, 0] B45), .inBlock 0] (by kernel_rfl) ?_
  by_cases h1 : x7 < x6
  · rw [if_pos h1] at h
    rw [decide_eq_true h1]
    refine Goes.runs 6 [] [.inRegion (opsOf (sub [1, 0, 0, 1, 1, 0, 0, 0] B45)) [0, 1, 2], .code (sub [1, 0, 0, 1, 1, 0, 0, 1] B45), .inBlock 1, .code (sub [1, 0, 0, 1, 1, 1] B45), .inLoop (sub [1, 0, 0] B45), .inBlock 0] (by kernel_rfl) ?_
    obtain ⟨g2, h⟩ := guard_some h
    obtain ⟨g3, h⟩ := guard_some h
    refine Op_.ixR 22 (.tmp 5) (.tmp 7) 9 0 35 .i64 x7 fx5 (Goes.vs (by kernel_rfl)) (by kernel_rfl) (by kernel_rfl) (by kernel_rfl) (by kernel_rfl) g2 g3 ?_
    rintro a4 _ f5 rfl
    refine Op_.ld1 35 (.tmp 9) 10 35 a4 (.int .u64 (gi x5 x7)) (Goes.vs (by kernel_rfl)) (by kernel_rfl) (by kernel_rfl) (f5.cell 0 _ rfl) ?_
    refine Goes.runs 6 [(4, .int .u64 (gi x5 x7)), (11, .func (.func 17) #[] #[.pointer (some ⟨gx0b0, 0, none⟩), .pointer (some ⟨gx0b1, 0, none⟩)]), (12, .int .u64 (gi x5 x7))] [.inRegion (opsOf (sub [1, 0, 0, 1, 1, 0, 0, 1, 0] B45)) [2, 3], .code (sub [1, 0, 0, 1, 1, 0, 0, 1, 1] B45), .inBlock 1, .code (sub [1, 0, 0, 1, 1, 1] B45), .inLoop (sub [1, 0, 0] B45), .inBlock 0] (by kernel_rfl) ?_
    obtain ⟨y6, e7, h⟩ := bind_some h
    try dsimp only at h
    refine Op_.call (.call { callee := .value (.tmp 11), args := #[(.tmp 12)], argTypes := #[35] }) 13 4 17 #[.int .u64 (gi x5 x7), .pointer (some ⟨gx0b0, 0, none⟩), .pointer (some ⟨gx0b1, 0, none⟩)] (Goes.cs (by kernel_rfl)) (by kernel_rfl) (W.tidepolelaw13_PostGoes_1 (gi x5 x7) x0b0v0 x0b1v0 y6 e7 nz wz S1 w1 ((some gx1, .row 22 [.slice AeE2v0 eE2v0.length ceE2v0] 1 0) :: Lr) gx0b0 Gx0b0v0 cx0b0v0 csx0b0v0 gx0b1 p1 fx0b0v0) ?_
    rintro _ w2 ⟨S2, G8, c9, cs10, rfl, z2, p2, f12⟩
    refine Goes.runs 2 [(14, .bool (!y6.1))] [.code (sub [1, 0, 0, 1, 1, 0, 0, 1, 1] B45), .inBlock 1, .code (sub [1, 0, 0, 1, 1, 1] B45), .inLoop (sub [1, 0, 0] B45), .inBlock 0] (by kernel_rfl) ?_
    by_cases h14 : y6.1 = true
    · rw [if_pos h14] at h
      rw [h14]
      refine Goes.runs 8 [(15, .int .i64 (wr .i64 (x7 + 1))), (7, .int .i64 (wr .i64 (x7 + 1)))] [.code (sub [1, 0, 0] B45), .inLoop (sub [1, 0, 0] B45), .inBlock 0] (by kernel_rfl) ?_
      have p2 := p2.front 3 _ rfl
      have p2 := p2.front 3 _ rfl
      have p2 := p2.front 2 _ rfl
      have p2 := p2.front 3 _ rfl
      exact Goes.jump 16 [(0, .func (.func 17) #[] #[.pointer (some ⟨gx0b0, 0, none⟩), .pointer (some ⟨gx0b1, 0, none⟩)]), (5, .slice Ax5 x5.length cx5), (6, .int .i64 x6), (7, .int .i64 (wr .i64 (x7 + 1)))] (by kernel_rfl) (ih_post_All_1_l0 _ _ h _ _ (hx.trans z2) G8 c9 cs10 Ax5 cx5 AeE2v0 ceE2v0 p2 f12 (fx5.ext z2) (feE2v0.ext z2))
    · rw [if_neg h14] at h
      have h14' : y6.1 = false := by simpa using h14
      rw [h14']
      refine Goes.runs 1 [] [.code (sub [1, 0, 0, 1, 1, 0, 0, 1, 1, 0] B45), .inBlock 1, .code (sub [1, 0, 0, 1, 1, 1] B45), .inLoop (sub [1, 0, 0] B45), .inBlock 0] (by kernel_rfl) ?_
      obtain rfl := Option.some.inj h
      exact Goes.ret (fn := Try.f45) (by kernel_rfl) (v := .tuple #[]) (by kernel_rfl) ⟨S2, G8, c9, cs10, AeE2v0, ceE2v0, rfl, (hx.trans z2), p2, f12, (feE2v0.ext z2)⟩
  · rw [if_neg h1] at h
    rw [decide_eq_false h1]
    refine Goes.runs 2 [] [] (by kernel_rfl) ?_
    have p1 := p1.front 3 _ rfl
    have p1 := p1.front 3 _ rfl
    have p1 := p1.front 2 _ rfl
    have p1 := p1.front 3 _ rfl
    obtain rfl := Option.some.inj h
    exact Goes.end_ (fn := Try.f45) (by kernel_rfl) (v := .tuple #[]) (by kernel_rfl) ⟨S1, Gx0b0v0, cx0b0v0, csx0b0v0, AeE2v0, ceE2v0, rfl, hx, p1, fx0b0v0, feE2v0⟩

theorem W.post_All_1 (x0b0v0 : List Int) (x0b1v0 : Int) (x1v0 : List Int) (r : (List Int) × Int × (List Int)) (h : M.post_All_1 x0b0v0 x0b1v0 x1v0 = some r) (nz : Nat) (wz : World) (S0 : Fz) (w0 : World) (Lr : List Ent) (gx0b0 : Nat) (Gx0b0v0 : Option Nat) (cx0b0v0 : Nat) (csx0b0v0 : List Value) (gx0b1 : Nat) (gx1 : Nat) (Ax1v0 : Option Addr) (cx1v0 : Nat) (p0 : Hp nz wz S0 w0 ((some gx0b0, .row 22 [.slice (Gp Gx0b0v0) x0b0v0.length cx0b0v0] 1 0) :: (Gx0b0v0, .row 35 csx0b0v0 (cx0b0v0 * (kInt .u64).size) 0) :: (some gx0b1, .row 3 [.int .i64 x0b1v0] 1 0) :: (some gx1, .row 22 [.slice Ax1v0 x1v0.length cx1v0] 1 0) :: Lr)) (fx0b0v0 : Els (kInt .u64) S0 w0 csx0b0v0 x0b0v0) (fx1v0 : Rd (kInt .u64) S0 w0 Ax1v0 cx1v0 x1v0) :
    Calls Try.prog 45 #[.func (.func 17) #[] #[.pointer (some ⟨gx0b0, 0, none⟩), .pointer (some ⟨gx0b1, 0, none⟩)], .pointer (some ⟨gx1, 0, none⟩)] w0 (Rets (Post.post_All_1 nz wz S0 w0 Lr gx0b0 gx0b1 gx1 r)) := by
  refine calls_of_goes (fn := Try.f45) (c := B45) (by kernel_rfl) (by kernel_rfl) 14 (by kernel_rfl) ?_
  refine Goes.jump 16 [(0, .func (.func 17) #[] #[.pointer (some ⟨gx0b0, 0, none⟩), .pointer (some ⟨gx0b1, 0, none⟩)]), (1, .pointer (some ⟨gx1, 0, none⟩))] (by kernel_rfl) (fun junk => ?_)
  delta M.post_All_1 at h
  refine Goes.runs 2 [] [.inRegion (opsOf (sub [0] B45)) [0, 1, 2], .code (sub [1] B45)] (by kernel_rfl) ?_
  refine Op_.ld1 22 (.tmp 1) 5 22 ⟨gx1, 0, none⟩ (.slice Ax1v0 x1v0.length cx1v0) (Goes.vs (by kernel_rfl)) (by kernel_rfl) (by kernel_rfl) ((p0.mem 3 rfl).cell 0 _ rfl) ?_
  refine Goes.runs 5 [(6, .int .i64 (x1v0.length : Int)), (7, .int .i64 0)] [.code (sub [1, 0, 0] B45), .inLoop (sub [1, 0, 0] B45), .inBlock 0] (by kernel_rfl) ?_
  exact Goes.jump 16 [(0, .func (.func 17) #[] #[.pointer (some ⟨gx0b0, 0, none⟩), .pointer (some ⟨gx0b1, 0, none⟩)]), (5, .slice Ax1v0 x1v0.length cx1v0), (6, .int .i64 (x1v0.length : Int)), (7, .int .i64 0)] (by kernel_rfl) (W.post_All_1_l0 nz wz S0 w0 Lr gx0b0 gx0b1 gx1 _ _ h _ _ (Ext.refl S0 w0) Gx0b0v0 cx0b0v0 csx0b0v0 Ax1v0 cx1v0 Ax1v0 cx1v0 p0 fx0b0v0 fx1v0 fx1v0)

/-! tidepole/tidepolelaw13.PostGoes$2 -/
def Post.tidepolelaw13_PostGoes_2 (nz : Nat) (wz : World) (S0 : Fz) (w0 : World) (Lr : List Ent) (gx1 : Nat) (r : Bool × (List Int)) (v : Value) (w' : World) : Prop :=
  ∃ (S' : Fz) (G1 : Option Nat) (c2 : Nat) (cs3 : List Value), v = .bool r.1 ∧ Ext S0 w0 S' w' ∧ Hp nz wz S' w' ((G1, .row 35 cs3 (c2 * (kInt .u64).size) 0) :: (some gx1, .row 22 [.slice (Gp G1) r.2.length c2] 1 0) :: Lr) ∧ Els (kInt .u64) S' w' cs3 r.2

theorem W.tidepolelaw13_PostGoes_2 (x0 : Int) (x1v0 : List Int) (r : Bool × (List Int)) (h : M.tidepolelaw13_PostGoes_2 x0 x1v0 = some r) (nz : Nat) (wz : World) (S0 : Fz) (w0 : World) (Lr : List Ent) (gx1 : Nat) (Gx1v0 : Option Nat) (cx1v0 : Nat) (csx1v0 : List Value) (p0 : Hp nz wz S0 w0 ((some gx1, .row 22 [.slice (Gp Gx1v0) x1v0.length cx1v0] 1 0) :: (Gx1v0, .row 35 csx1v0 (cx1v0 * (kInt .u64).size) 0) :: Lr)) (fx1v0 : Els (kInt .u64) S0 w0 csx1v0 x1v0) :
    Calls Try.prog 18 #[.int .u64 x0, .pointer (some ⟨gx1, 0, none⟩)] w0 (Rets (Post.tidepolelaw13_PostGoes_2 nz wz S0 w0 Lr gx1 r)) := by
  refine calls_of_goes (fn := Try.f18) (c := B18) (by kernel_rfl) (by kernel_rfl) 6 (by kernel_rfl) ?_
  refine Goes.jump 8 [(0, .int .u64 x0), (1, .pointer (some ⟨gx1, 0, none⟩))] (by kernel_rfl) (fun junk => ?_)
  delta M.tidepolelaw13_PostGoes_2 at h
  refine Goes.runs 6 [(3, .bool false)] [.inRegion (opsOf (sub [1, 0] B18)) [0, 1, 2, 3, 4], .code (sub [1, 1] B18)] (by kernel_rfl) ?_
  refine Op_.ld1 22 (.tmp 1) 4 22 ⟨gx1, 0, none⟩ (.slice (Gp Gx1v0) x1v0.length cx1v0) (Goes.vs (by kernel_rfl)) (by kernel_rfl) (by kernel_rfl) ((p0.mem 0 rfl).cell 0 _ rfl) ?_
  refine Goes.runs 1 [(5, .int .u64 x0)] [.inRegion (opsOf (sub [1, 0] B18)) [2, 3, 4], .code (sub [1, 1] B18)] (by kernel_rfl) ?_
  have f2 : Els (kInt .u64) S0 w0 ([.int .u64 x0] : List Value) [x0] := (Els.cons (K := (kInt .u64)) (vs := [.int .u64 x0]) (x := x0) rfl Els.nil)
  refine Op_.made (.buildSlice 22 1 #[(0, (.tmp 5))]) 6 22 (fun b => .slice (Gp (some b)) 1 1) 35 ([.int .u64 x0] : List Value) p0 (Goes.vs (by kernel_rfl)) (by kernel_rfl) ?_
  intro b1 w2 z2 p2
  have p2 : Hp nz wz S0 w2 (((some b1), .row 35 ([.int .u64 x0] : List Value) (1 * (kInt .u64).size) 0) :: (some gx1, .row 22 [.slice (Gp Gx1v0) x1v0.length cx1v0] 1 0) :: (Gx1v0, .row 35 csx1v0 (cx1v0 * (kInt .u64).size) 0) :: Lr) := p2
  obtain ⟨g7, h⟩ := guard_some h
  refine Op_.ap (K := (kInt .u64)) 22 (.tmp 4) (.tmp 6) 7 22 35 2 (.int .u64 0) 8 cx1v0 x1v0 [x0] (Gp (some b1)) 1 p2 rfl (fx1v0.ext z2) (Goes.vs (by kernel_rfl)) (by kernel_rfl) (by kernel_rfl) (by kernel_rfl) (by kernel_rfl) rfl (by decide) (f2.ext z2) (src_own p2 (q := 0) rfl) (by have := g7; omega) (by have := g7; omega) ?_
  intro w3 G8 c9 cs10 z3 p3 f11
  refine Op_.st 22 (.tmp 1) (.tmp 7) 0 1 gx1 0 (.slice (Gp G8) (x1v0 ++ [x0]).length c9) [.slice (Gp G8) (x1v0 ++ [x0]).length c9] p3 rfl (Goes.ss (by kernel_rfl)) (by kernel_rfl) (by kernel_rfl) (by kernel_rfl) (by kernel_rfl) (Nat.zero_le _) (by simp only [List.length_cons, List.length_nil]; omega) (by simp [Value.oneCell']) ?_
  intro w4 z4 p4
  refine Goes.runs 5 [(3, .bool true)] [.code (sub [1, 1, 1] B18)] (by kernel_rfl) ?_
  have p4 := (p4.front 0 _ rfl).drop
  have p4 := p4.front 0 _ rfl
  have p4 := p4.front 1 _ rfl
  obtain rfl := Option.some.inj h
  exact Goes.ret (fn := Try.f18) (by kernel_rfl) (v := .bool true) (by kernel_rfl) ⟨S0, G8, c9, cs10, rfl, ((((Ext.refl S0 w0).trans z2).trans z3).trans z4), p4, (f11.ext z4)⟩

/-! tidepole/post.All$1 -/
def Post.post_All_1_2 (nz : Nat) (wz : World) (S0 : Fz) (w0 : World) (Lr : List Ent) (gx0b0 : Nat) (gx1 : Nat) (r : (List Int) × (List Int)) (v : Value) (w' : World) : Prop :=
  ∃ (S' : Fz) (G1 : Option Nat) (c2 : Nat) (cs3 : List Value) (A4 : Option Addr) (c5 : Nat), v = .tuple #[] ∧ Ext S0 w0 S' w' ∧ Hp nz wz S' w' ((G1, .row 35 cs3 (c2 * (kInt .u64).size) 0) :: (some gx0b0, .row 22 [.slice (Gp G1) r.1.length c2] 1 0) :: (some gx1, .row 22 [.slice A4 r.2.length c5] 1 0) :: Lr) ∧ Els (kInt .u64) S' w' cs3 r.1 ∧ Rd (kInt .u64) S' w' A4 c5 r.2

def L.post_All_1_2_l0 (nz : Nat) (wz : World) (S0 : Fz) (w0 : World) (Lr : List Ent) (gx0b0 : Nat) (gx1 : Nat) : List Int × List Int × Int × Int × List Int → ((List Int) × (List Int)) → Prop := fun ⟨x0b0v0, x5, x6, x7, eE1v0⟩ r => ∀ S1 w1, Ext S0 w0 S1 w1 → ∀ (Gx0b0v0 : Option Nat) (cx0b0v0 : Nat) (csx0b0v0 : List Value) (Ax5 : Option Addr) (cx5 : Nat) (AeE1v0 : Option Addr) (ceE1v0 : Nat) (_ : Hp nz wz S1 w1 ((some gx0b0, .row 22 [.slice (Gp Gx0b0v0) x0b0v0.length cx0b0v0] 1 0) :: (Gx0b0v0, .row 35 csx0b0v0 (cx0b0v0 * (kInt .u64).size) 0) :: (some gx1, .row 22 [.slice AeE1v0 eE1v0.length ceE1v0] 1 0) :: Lr)) (_ : Els (kInt .u64) S1 w1 csx0b0v0 x0b0v0) (_ : Rd (kInt .u64) S1 w1 Ax5 cx5 x5) (_ : Rd (kInt .u64) S1 w1 AeE1v0 ceE1v0 eE1v0) (junk : Nat → Value),
  Goes Try.prog (base 45) [.code (sub [1, 0, 0] B45), .inLoop (sub [1, 0, 0] B45), .inBlock 0] ⟨lfr 16 [(0, .func (.func 18) #[] #[.pointer (some ⟨gx0b0, 0, none⟩)]), (5, .slice Ax5 x5.length cx5), (6, .int .i64 x6), (7, .int .i64 x7)] junk, []⟩ w1 (Done Try.prog 45 (Rets (Post.post_All_1_2 nz wz S0 w0 Lr gx0b0 gx1 r)))

theorem W.post_All_1_2_l0 (nz : Nat) (wz : World) (S0 : Fz) (w0 : World) (Lr : List Ent) (gx0b0 : Nat) (gx1 : Nat) : ∀ a r, M.post_All_1_2_l0 a = some r → L.post_All_1_2_l0 nz wz S0 w0 Lr gx0b0 gx1 a r := by
  refine M.post_All_1_2_l0.partial_correctness (motive := L.post_All_1_2_l0 nz wz S0 w0 Lr gx0b0 gx1) ?_
  intro rec_post_All_1_2_l0 ih_post_All_1_2_l0 ⟨x0b0v0, x5, x6, x7, eE1v0⟩ r h S1 w1 hx Gx0b0v0 cx0b0v0 csx0b0v0 Ax5 cx5 AeE1v0 ceE1v0 p1 fx0b0v0 fx5 feE1v0 junk
  dsimp only at h
  refine Goes.runs 5 [(8, .bool (decide (x7 < x6)))] [.code (sub [1, 0, 0, 1, 0] B45), .code (sub [1, 0, 0, 1, 1] B45), .inLoop (sub [1, 0, 0] B45), .inBlock 0] (by kernel_rfl) ?_
  by_cases h1 : x7 < x6
  · rw [if_pos h1] at h
    rw [decide_eq_true h1]
    refine Goes.runs 6 [] [.inRegion (opsOf (sub [1, 0, 0, 1, 1, 0, 0, 0] B45)) [0, 1, 2], .code (sub [1, 0, 0, 1, 1, 0, 0, 1] B45), .inBlock 1, .code (sub [1, 0, 0, 1, 1, 1] B45), .inLoop (sub [1, 0, 0] B45), .inBlock 0] (by kernel_rfl) ?_
    obtain ⟨g2, h⟩ := guard_some h
    obtain ⟨g3, h⟩ := guard_some h
    refine Op_.ixR 22 (.tmp 5) (.tmp 7) 9 0 35 .i64 x7 fx5 (Goes.vs (by kernel_rfl)) (by kernel_rfl) (by kernel_rfl) (by kernel_rfl) (by kernel_rfl) g2 g3 ?_
    rintro a4 _ f5 rfl
    refine Op_.ld1 35 (.tmp 9) 10 35 a4 (.int .u64 (gi x5 x7)) (Goes.vs (by kernel_rfl)) (by kernel_rfl) (by kernel_rfl) (f5.cell 0 _ rfl) ?_
    refine Goes.runs 6 [(4, .int .u64 (gi x5 x7)), (11, .func (.func 18) #[] #[.pointer (some ⟨gx0b0, 0, none⟩)]), (12, .int .u64 (gi x5 x7))] [.inRegion (opsOf (sub [1, 0, 0, 1, 1, 0, 0, 1, 0] B45)) [2, 3], .code (sub [1, 0, 0, 1, 1, 0, 0, 1, 1] B45), .inBlock 1, .code (sub [1, 0, 0, 1, 1, 1] B45), .inLoop (sub [1, 0, 0] B45), .inBlock 0] (by kernel_rfl) ?_
    obtain ⟨y6, e7, h⟩ := bind_some h
    try dsimp only at h
    refine Op_.call (.call { callee := .value (.tmp 11), args := #[(.tmp 12)], argTypes := #[35] }) 13 4 18 #[.int .u64 (gi x5 x7), .pointer (some ⟨gx0b0, 0, none⟩)] (Goes.cs (by kernel_rfl)) (by kernel_rfl) (W.tidepolelaw13_PostGoes_2 (gi x5 x7) x0b0v0 y6 e7 nz wz S1 w1 ((some gx1, .row 22 [.slice AeE1v0 eE1v0.length ceE1v0] 1 0) :: Lr) gx0b0 Gx0b0v0 cx0b0v0 csx0b0v0 p1 fx0b0v0) ?_
    rintro _ w2 ⟨S2, G8, c9, cs10, rfl, z2, p2, f12⟩
    refine Goes.runs 2 [(14, .bool (!y6.1))] [.code (sub [1, 0, 0, 1, 1, 0, 0, 1, 1] B45), .inBlock 1, .code (sub [1, 0, 0, 1, 1, 1] B45), .inLoop (sub [1, 0, 0] B45), .inBlock 0] (by kernel_rfl) ?_
    by_cases h14 : y6.1 = true
    · rw [if_pos h14] at h
      rw [h14]
      refine Goes.runs 8 [(15, .int .i64 (wr .i64 (x7 + 1))), (7, .int .i64 (wr .i64 (x7 + 1)))] [.code (sub [1, 0, 0] B45), .inLoop (sub [1, 0, 0] B45), .inBlock 0] (by kernel_rfl) ?_
      have p2 := p2.front 2 _ rfl
      have p2 := p2.front 1 _ rfl
      have p2 := p2.front 2 _ rfl
      exact Goes.jump 16 [(0, .func (.func 18) #[] #[.pointer (some ⟨gx0b0, 0, none⟩)]), (5, .slice Ax5 x5.length cx5), (6, .int .i64 x6), (7, .int .i64 (wr .i64 (x7 + 1)))] (by kernel_rfl) (ih_post_All_1_2_l0 _ _ h _ _ (hx.trans z2) G8 c9 cs10 Ax5 cx5 AeE1v0 ceE1v0 p2 f12 (fx5.ext z2) (feE1v0.ext z2))
    · rw [if_neg h14] at h
      have h14' : y6.1 = false := by simpa using h14
      rw [h14']
      refine Goes.runs 1 [] [.code (sub [1, 0, 0, 1, 1, 0, 0, 1, 1, 0] B45), .inBlock 1, .code (sub [1, 0, 0, 1, 1, 1] B45), .inLoop (sub [1, 0, 0] B45), .inBlock 0] (by kernel_rfl) ?_
      obtain rfl := Option.some.inj h
      exact Goes.ret (fn := Try.f45) (by kernel_rfl) (v := .tuple #[]) (by kernel_rfl) ⟨S2, G8, c9, cs10, AeE1v0, ceE1v0, rfl, (hx.trans z2), p2, f12, (feE1v0.ext z2)⟩
  · rw [if_neg h1] at h
    rw [decide_eq_false h1]
    refine Goes.runs 2 [] [] (by kernel_rfl) ?_
    have p1 := p1.front 2 _ rfl
    have p1 := p1.front 1 _ rfl
    have p1 := p1.front 2 _ rfl
    obtain rfl := Option.some.inj h
    exact Goes.end_ (fn := Try.f45) (by kernel_rfl) (v := .tuple #[]) (by kernel_rfl) ⟨S1, Gx0b0v0, cx0b0v0, csx0b0v0, AeE1v0, ceE1v0, rfl, hx, p1, fx0b0v0, feE1v0⟩

theorem W.post_All_1_2 (x0b0v0 : List Int) (x1v0 : List Int) (r : (List Int) × (List Int)) (h : M.post_All_1_2 x0b0v0 x1v0 = some r) (nz : Nat) (wz : World) (S0 : Fz) (w0 : World) (Lr : List Ent) (gx0b0 : Nat) (Gx0b0v0 : Option Nat) (cx0b0v0 : Nat) (csx0b0v0 : List Value) (gx1 : Nat) (Ax1v0 : Option Addr) (cx1v0 : Nat) (p0 : Hp nz wz S0 w0 ((some gx0b0, .row 22 [.slice (Gp Gx0b0v0) x0b0v0.length cx0b0v0] 1 0) :: (Gx0b0v0, .row 35 csx0b0v0 (cx0b0v0 * (kInt .u64).size) 0) :: (some gx1, .row 22 [.slice Ax1v0 x1v0.length cx1v0] 1 0) :: Lr)) (fx0b0v0 : Els (kInt .u64) S0 w0 csx0b0v0 x0b0v0) (fx1v0 : Rd (kInt .u64) S0 w0 Ax1v0 cx1v0 x1v0) :
    Calls Try.prog 45 #[.func (.func 18) #[] #[.pointer (some ⟨gx0b0, 0, none⟩)], .pointer (some ⟨gx1, 0, none⟩)] w0 (Rets (Post.post_All_1_2 nz wz S0 w0 Lr gx0b0 gx1 r)) := by
  refine calls_of_goes (fn := Try.f45) (c := B45) (by kernel_rfl) (by kernel_rfl) 14 (by kernel_rfl) ?_
  refine Goes.jump 16 [(0, .func (.func 18) #[] #[.pointer (some ⟨gx0b0, 0, none⟩)]), (1, .pointer (some ⟨gx1, 0, none⟩))] (by kernel_rfl) (fun junk => ?_)
  delta M.post_All_1_2 at h
  refine Goes.runs 2 [] [.inRegion (opsOf (sub [0] B45)) [0, 1, 2], .code (sub [1] B45)] (by kernel_rfl) ?_
  refine Op_.ld1 22 (.tmp 1) 5 22 ⟨gx1, 0, none⟩ (.slice Ax1v0 x1v0.length cx1v0) (Goes.vs (by kernel_rfl)) (by kernel_rfl) (by kernel_rfl) ((p0.mem 2 rfl).cell 0 _ rfl) ?_
  refine Goes.runs 5 [(6, .int .i64 (x1v0.length : Int)), (7, .int .i64 0)] [.code (sub [1, 0, 0] B45), .inLoop (sub [1, 0, 0] B45), .inBlock 0] (by kernel_rfl) ?_
  exact Goes.jump 16 [(0, .func (.func 18) #[] #[.pointer (some ⟨gx0b0, 0, none⟩)]), (5, .slice Ax1v0 x1v0.length cx1v0), (6, .int .i64 (x1v0.length : Int)), (7, .int .i64 0)] (by kernel_rfl) (W.post_All_1_2_l0 nz wz S0 w0 Lr gx0b0 gx1 _ _ h _ _ (Ext.refl S0 w0) Gx0b0v0 cx0b0v0 csx0b0v0 Ax1v0 cx1v0 Ax1v0 cx1v0 p0 fx0b0v0 fx1v0 fx1v0)

end Go.Gx
