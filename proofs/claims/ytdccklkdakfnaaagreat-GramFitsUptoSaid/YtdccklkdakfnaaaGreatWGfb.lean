import Derived.Test.YtdccklkdakfnaaaGreatWGfa
set_option linter.unusedVariables false
set_option linter.unusedSimpArgs false
set_option maxRecDepth 100000
set_option maxHeartbeats 4000000
namespace Go.Gx
open Go.RowKit Go.Proofs
variable (nz : Nat) (wz : World) (S0 : Fz) (w0 : World) (Lr : List Ent)
noncomputable section
def Q92 := Yq 100 B302
def Jbq := Zl Q92 J2z
def Jbr := Zc Q92 Jbq
def Jbt := Ys 10001 B302 (Ys 1001 B302 Jbq)
def Jbu := Zb 1 Jbq
def Jbv := Ys 1001011 B302 Jbu
def Jbw := Ys 10010101 B302 Jbv
def Jbx := Ys 10010111 B302 Jbu
def Jby := Ys 100101101 B302 Jbx
def Jbz := Ys 1001011111 B302 Jbu
def Jc0 := Ys 10010111111 B302 Jbu
def Q9b := Yq 10000 B302
def Jc1 := Zr Q9b [0, 1, 2, 3, 4, 5, 6, 7] Jbt
def Jc2 := Zr Q9b [4, 5, 6, 7] Jbt
def Jc3 := Ys 10010100 B302 Jbw
def Jc4 := Ys 100101100 B302 Jby
def Jc5 := Ys 10010111101 B302 Jbz
def Jc6 := Ys 100101111010 B302 Jbz
def Jc7 := Ys 100101111101 B302 Jc0
def Jc8 := Ys 1001011111010 B302 Jc0
def Jca := Yt 100101111110 B302 [3, 4] (Ys 100101111111 B302 Jbu)
def Post.z2c (lx0 : Nat) (rx0 : Nat) (u2f : Nat → Value) (u8m : Nat) (u8n : Nat) (u8o : Nat) (u8p : Nat) (r : (List Int) × (List Int) × (List Int)) (v : Value) (w' : World) : Prop :=
 ∃ S' u86 u87 u88 u89 u8q u8r u8s u8t u8u u8v, v = .tuple #[] ∧ Ext S0 w0 S' w' ∧ Hp nz wz S' w' ((some lx0, .obj (lpst 251 (lfr 23 [(5, (pt u8m 0)), (7, (pt u8n 0)), (12, .func (.func 302) #[] #[(pt u8o 0), (pt u8p 0)])] u2f) #[13, 14] (rfAssign (Q90)) (rfBody (Q90)) rx0 .ready none)) :: (some u8m, .row 313 [.func (.func 204) #[] #[]] 1 0) :: (some u8n, .row 60 [.slice (Gp u86) u87 u88] 1 0) :: (u86, .row 22 u89 (u88 * kU.size) 0) :: (some u8o, .row 60 [.slice u8q u8r u8s] 1 0) :: (some u8p, .row 60 [.slice u8t u8u u8v] 1 0) :: Lr) ∧ Els kU S' w' u89 r.1 ∧ r.1.length = u87 ∧ Rd kU S' w' u8q u8s r.2.1 ∧ r.2.1.length = u8r ∧ Rd kU S' w' u8t u8v r.2.2 ∧ r.2.2.length = u8u
def L.z2d (lx0 : Nat) (rx0 : Nat) (u2f : Nat → Value) (u8m : Nat) (u8n : Nat) (u8o : Nat) (u8p : Nat) : (List Int) × (List Int) × (List Int) → ((List Int) × (List Int) × (List Int)) → Prop := fun ⟨u8w, u8x, u8y⟩ r => ∀ S1 w1, Ext S0 w0 S1 w1 → ∀ u86 u87 u88 u89 u8q u8r u8s u8t u8u u8v (_ : Hp nz wz S1 w1 ((some lx0, .obj (lpst 251 (lfr 23 [(5, (pt u8m 0)), (7, (pt u8n 0)), (12, .func (.func 302) #[] #[(pt u8o 0), (pt u8p 0)])] u2f) #[13, 14] (rfAssign (Q90)) (rfBody (Q90)) rx0 .ready none)) :: (some u8m, .row 313 [.func (.func 204) #[] #[]] 1 0) :: (some u8n, .row 60 [.slice (Gp u86) u87 u88] 1 0) :: (u86, .row 22 u89 (u88 * kU.size) 0) :: (some u8o, .row 60 [.slice u8q u8r u8s] 1 0) :: (some u8p, .row 60 [.slice u8t u8u u8v] 1 0) :: Lr)) (_ : Els kU S1 w1 u89 u8w) (_ : u8w.length = u87) (_ : Rd kU S1 w1 u8q u8s u8x) (_ : u8x.length = u8r) (_ : Rd kU S1 w1 u8t u8v u8y) (_ : u8y.length = u8u) (junk : Nat → Value),
 Goes Tg (base 302) Jbr ⟨lfr 73 [(0, yieldV lx0), (1, (pt u8o 0)), (2, (pt u8p 0))] junk, []⟩ w1 (Done Tg 302 (Rets (Post.z2c nz wz S0 w0 Lr lx0 rx0 u2f u8m u8n u8o u8p r)))
def L.z2e (lx0 : Nat) (rx0 : Nat) (u2f : Nat → Value) (u8m : Nat) (u8n : Nat) (u8o : Nat) (u8p : Nat) : Bool × (List Int) × (List Int) × (List Int) → ((List Int) × (List Int) × (List Int)) → Prop := fun ⟨x13, u8w, u8x, u8y⟩ r => ∀ S1 w1, Ext S0 w0 S1 w1 → ∀ u86 u87 u88 u89 u8q u8r u8s u8t u8u u8v (_ : Hp nz wz S1 w1 ((some lx0, .obj (lpst 251 (lfr 23 [(5, (pt u8m 0)), (7, (pt u8n 0)), (12, .func (.func 302) #[] #[(pt u8o 0), (pt u8p 0)])] u2f) #[13, 14] (rfAssign (Q90)) (rfBody (Q90)) rx0 .ready none)) :: (some u8m, .row 313 [.func (.func 204) #[] #[]] 1 0) :: (some u8n, .row 60 [.slice (Gp u86) u87 u88] 1 0) :: (u86, .row 22 u89 (u88 * kU.size) 0) :: (some u8o, .row 60 [.slice u8q u8r u8s] 1 0) :: (some u8p, .row 60 [.slice u8t u8u u8v] 1 0) :: Lr)) (_ : Els kU S1 w1 u89 u8w) (_ : u8w.length = u87) (_ : Rd kU S1 w1 u8q u8s u8x) (_ : u8x.length = u8r) (_ : Rd kU S1 w1 u8t u8v u8y) (_ : u8y.length = u8u) (junk : Nat → Value),
 Goes Tg (base 302) Jbt ⟨lfr 73 [(0, yieldV lx0), (1, (pt u8o 0)), (2, (pt u8p 0)), (13, .bool x13)] junk, []⟩ w1 (Done Tg 302 (Rets (Post.z2c nz wz S0 w0 Lr lx0 rx0 u2f u8m u8n u8o u8p r)))
def L.z2f (lx0 : Nat) (rx0 : Nat) (u2f : Nat → Value) (u8m : Nat) (u8n : Nat) (u8o : Nat) (u8p : Nat) : Int × Bool × (List Int) × (List Int) × (List Int) → ((List Int) × (List Int) × (List Int)) → Prop := fun ⟨x4, x30, u8w, u8x, u8y⟩ r => ∀ S1 w1, Ext S0 w0 S1 w1 → ∀ u86 u87 u88 u89 u8q u8r u8s u8t u8u u8v (_ : Hp nz wz S1 w1 ((some lx0, .obj (lpst 251 (lfr 23 [(5, (pt u8m 0)), (7, (pt u8n 0)), (12, .func (.func 302) #[] #[(pt u8o 0), (pt u8p 0)])] u2f) #[13, 14] (rfAssign (Q90)) (rfBody (Q90)) rx0 .ready none)) :: (some u8m, .row 313 [.func (.func 204) #[] #[]] 1 0) :: (some u8n, .row 60 [.slice (Gp u86) u87 u88] 1 0) :: (u86, .row 22 u89 (u88 * kU.size) 0) :: (some u8o, .row 60 [.slice u8q u8r u8s] 1 0) :: (some u8p, .row 60 [.slice u8t u8u u8v] 1 0) :: Lr)) (_ : Els kU S1 w1 u89 u8w) (_ : u8w.length = u87) (_ : Rd kU S1 w1 u8q u8s u8x) (_ : u8x.length = u8r) (_ : Rd kU S1 w1 u8t u8v u8y) (_ : u8y.length = u8u) (junk : Nat → Value),
 Goes Tg (base 302) Jbw ⟨lfr 73 [(0, yieldV lx0), (1, (pt u8o 0)), (2, (pt u8p 0)), (4, .i x4), (30, .bool x30)] junk, []⟩ w1 (Done Tg 302 (Rets (Post.z2c nz wz S0 w0 Lr lx0 rx0 u2f u8m u8n u8o u8p r)))
def L.z2g (lx0 : Nat) (rx0 : Nat) (u2f : Nat → Value) (u8m : Nat) (u8n : Nat) (u8o : Nat) (u8p : Nat) : Int × (List Int) × (List Int) × (List Int) → ((List Int) × (List Int) × (List Int)) → Prop := fun ⟨x4, u8w, u8x, u8y⟩ r => ∀ S1 w1, Ext S0 w0 S1 w1 → ∀ u86 u87 u88 u89 u8q u8r u8s u8t u8u u8v (_ : Hp nz wz S1 w1 ((some lx0, .obj (lpst 251 (lfr 23 [(5, (pt u8m 0)), (7, (pt u8n 0)), (12, .func (.func 302) #[] #[(pt u8o 0), (pt u8p 0)])] u2f) #[13, 14] (rfAssign (Q90)) (rfBody (Q90)) rx0 .ready none)) :: (some u8m, .row 313 [.func (.func 204) #[] #[]] 1 0) :: (some u8n, .row 60 [.slice (Gp u86) u87 u88] 1 0) :: (u86, .row 22 u89 (u88 * kU.size) 0) :: (some u8o, .row 60 [.slice u8q u8r u8s] 1 0) :: (some u8p, .row 60 [.slice u8t u8u u8v] 1 0) :: Lr)) (_ : Els kU S1 w1 u89 u8w) (_ : u8w.length = u87) (_ : Rd kU S1 w1 u8q u8s u8x) (_ : u8x.length = u8r) (_ : Rd kU S1 w1 u8t u8v u8y) (_ : u8y.length = u8u) (junk : Nat → Value),
 Goes Tg (base 302) Jbv ⟨lfr 73 [(0, yieldV lx0), (1, (pt u8o 0)), (2, (pt u8p 0)), (4, .i x4)] junk, []⟩ w1 (Done Tg 302 (Rets (Post.z2c nz wz S0 w0 Lr lx0 rx0 u2f u8m u8n u8o u8p r)))
def L.z2h (lx0 : Nat) (rx0 : Nat) (u2f : Nat → Value) (u8m : Nat) (u8n : Nat) (u8o : Nat) (u8p : Nat) : Int × Bool × (List Int) × (List Int) × (List Int) → ((List Int) × (List Int) × (List Int)) → Prop := fun ⟨x4, x49, u8w, u8x, u8y⟩ r => ∀ S1 w1, Ext S0 w0 S1 w1 → ∀ u86 u87 u88 u89 u8q u8r u8s u8t u8u u8v (_ : Hp nz wz S1 w1 ((some lx0, .obj (lpst 251 (lfr 23 [(5, (pt u8m 0)), (7, (pt u8n 0)), (12, .func (.func 302) #[] #[(pt u8o 0), (pt u8p 0)])] u2f) #[13, 14] (rfAssign (Q90)) (rfBody (Q90)) rx0 .ready none)) :: (some u8m, .row 313 [.func (.func 204) #[] #[]] 1 0) :: (some u8n, .row 60 [.slice (Gp u86) u87 u88] 1 0) :: (u86, .row 22 u89 (u88 * kU.size) 0) :: (some u8o, .row 60 [.slice u8q u8r u8s] 1 0) :: (some u8p, .row 60 [.slice u8t u8u u8v] 1 0) :: Lr)) (_ : Els kU S1 w1 u89 u8w) (_ : u8w.length = u87) (_ : Rd kU S1 w1 u8q u8s u8x) (_ : u8x.length = u8r) (_ : Rd kU S1 w1 u8t u8v u8y) (_ : u8y.length = u8u) (junk : Nat → Value),
 Goes Tg (base 302) Jby ⟨lfr 73 [(0, yieldV lx0), (1, (pt u8o 0)), (2, (pt u8p 0)), (4, .i x4), (49, .bool x49)] junk, []⟩ w1 (Done Tg 302 (Rets (Post.z2c nz wz S0 w0 Lr lx0 rx0 u2f u8m u8n u8o u8p r)))
def L.z2i (lx0 : Nat) (rx0 : Nat) (u2f : Nat → Value) (u8m : Nat) (u8n : Nat) (u8o : Nat) (u8p : Nat) : Int × (List Int) × (List Int) × (List Int) → ((List Int) × (List Int) × (List Int)) → Prop := fun ⟨x4, u8w, u8x, u8y⟩ r => ∀ S1 w1, Ext S0 w0 S1 w1 → ∀ u86 u87 u88 u89 u8q u8r u8s u8t u8u u8v (_ : Hp nz wz S1 w1 ((some lx0, .obj (lpst 251 (lfr 23 [(5, (pt u8m 0)), (7, (pt u8n 0)), (12, .func (.func 302) #[] #[(pt u8o 0), (pt u8p 0)])] u2f) #[13, 14] (rfAssign (Q90)) (rfBody (Q90)) rx0 .ready none)) :: (some u8m, .row 313 [.func (.func 204) #[] #[]] 1 0) :: (some u8n, .row 60 [.slice (Gp u86) u87 u88] 1 0) :: (u86, .row 22 u89 (u88 * kU.size) 0) :: (some u8o, .row 60 [.slice u8q u8r u8s] 1 0) :: (some u8p, .row 60 [.slice u8t u8u u8v] 1 0) :: Lr)) (_ : Els kU S1 w1 u89 u8w) (_ : u8w.length = u87) (_ : Rd kU S1 w1 u8q u8s u8x) (_ : u8x.length = u8r) (_ : Rd kU S1 w1 u8t u8v u8y) (_ : u8y.length = u8u) (junk : Nat → Value),
 Goes Tg (base 302) Jbx ⟨lfr 73 [(0, yieldV lx0), (1, (pt u8o 0)), (2, (pt u8p 0)), (4, .i x4)] junk, []⟩ w1 (Done Tg 302 (Rets (Post.z2c nz wz S0 w0 Lr lx0 rx0 u2f u8m u8n u8o u8p r)))
def L.z2j (lx0 : Nat) (rx0 : Nat) (u2f : Nat → Value) (u8m : Nat) (u8n : Nat) (u8o : Nat) (u8p : Nat) : Int × Int × (List Int) × (List Int) × (List Int) → ((List Int) × (List Int) × (List Int)) → Prop := fun ⟨x4, x5, u8w, u8x, u8y⟩ r => ∀ S1 w1, Ext S0 w0 S1 w1 → ∀ u86 u87 u88 u89 u8q u8r u8s u8t u8u u8v (_ : Hp nz wz S1 w1 ((some lx0, .obj (lpst 251 (lfr 23 [(5, (pt u8m 0)), (7, (pt u8n 0)), (12, .func (.func 302) #[] #[(pt u8o 0), (pt u8p 0)])] u2f) #[13, 14] (rfAssign (Q90)) (rfBody (Q90)) rx0 .ready none)) :: (some u8m, .row 313 [.func (.func 204) #[] #[]] 1 0) :: (some u8n, .row 60 [.slice (Gp u86) u87 u88] 1 0) :: (u86, .row 22 u89 (u88 * kU.size) 0) :: (some u8o, .row 60 [.slice u8q u8r u8s] 1 0) :: (some u8p, .row 60 [.slice u8t u8u u8v] 1 0) :: Lr)) (_ : Els kU S1 w1 u89 u8w) (_ : u8w.length = u87) (_ : Rd kU S1 w1 u8q u8s u8x) (_ : u8x.length = u8r) (_ : Rd kU S1 w1 u8t u8v u8y) (_ : u8y.length = u8u) (junk : Nat → Value),
 Goes Tg (base 302) Jbz ⟨lfr 73 [(0, yieldV lx0), (1, (pt u8o 0)), (2, (pt u8p 0)), (4, .i x4), (5, .u x5)] junk, []⟩ w1 (Done Tg 302 (Rets (Post.z2c nz wz S0 w0 Lr lx0 rx0 u2f u8m u8n u8o u8p r)))
def L.z2k (lx0 : Nat) (rx0 : Nat) (u2f : Nat → Value) (u8m : Nat) (u8n : Nat) (u8o : Nat) (u8p : Nat) : Int × Int × (List Int) × (List Int) × (List Int) → ((List Int) × (List Int) × (List Int)) → Prop := fun ⟨x4, x5, u8w, u8x, u8y⟩ r => ∀ S1 w1, Ext S0 w0 S1 w1 → ∀ u86 u87 u88 u89 u8q u8r u8s u8t u8u u8v (_ : Hp nz wz S1 w1 ((some lx0, .obj (lpst 251 (lfr 23 [(5, (pt u8m 0)), (7, (pt u8n 0)), (12, .func (.func 302) #[] #[(pt u8o 0), (pt u8p 0)])] u2f) #[13, 14] (rfAssign (Q90)) (rfBody (Q90)) rx0 .ready none)) :: (some u8m, .row 313 [.func (.func 204) #[] #[]] 1 0) :: (some u8n, .row 60 [.slice (Gp u86) u87 u88] 1 0) :: (u86, .row 22 u89 (u88 * kU.size) 0) :: (some u8o, .row 60 [.slice u8q u8r u8s] 1 0) :: (some u8p, .row 60 [.slice u8t u8u u8v] 1 0) :: Lr)) (_ : Els kU S1 w1 u89 u8w) (_ : u8w.length = u87) (_ : Rd kU S1 w1 u8q u8s u8x) (_ : u8x.length = u8r) (_ : Rd kU S1 w1 u8t u8v u8y) (_ : u8y.length = u8u) (junk : Nat → Value),
 Goes Tg (base 302) Jc0 ⟨lfr 73 [(0, yieldV lx0), (1, (pt u8o 0)), (2, (pt u8p 0)), (4, .i x4), (5, .u x5)] junk, []⟩ w1 (Done Tg 302 (Rets (Post.z2c nz wz S0 w0 Lr lx0 rx0 u2f u8m u8n u8o u8p r)))
theorem W.z2l {nz wz S0 w0 Lr} (lx0 : Nat) (rx0 : Nat) (u2f : Nat → Value) (u8m : Nat) (u8n : Nat) (u8o : Nat) (u8p : Nat) : (∀ a r, M.ac a = some r → (L.z2d nz wz S0 w0 Lr lx0 rx0 u2f u8m u8n u8o u8p) a r) ∧ (∀ a r, M.a16 a = some r → (L.z2e nz wz S0 w0 Lr lx0 rx0 u2f u8m u8n u8o u8p) a r) ∧ (∀ a r, M.ao a = some r → (L.z2f nz wz S0 w0 Lr lx0 rx0 u2f u8m u8n u8o u8p) a r) ∧ (∀ a r, M.a17 a = some r → (L.z2g nz wz S0 w0 Lr lx0 rx0 u2f u8m u8n u8o u8p) a r) ∧ (∀ a r, M.ap a = some r → (L.z2h nz wz S0 w0 Lr lx0 rx0 u2f u8m u8n u8o u8p) a r) ∧ (∀ a r, M.a18 a = some r → (L.z2i nz wz S0 w0 Lr lx0 rx0 u2f u8m u8n u8o u8p) a r) ∧ (∀ a r, M.a19 a = some r → (L.z2j nz wz S0 w0 Lr lx0 rx0 u2f u8m u8n u8o u8p) a r) ∧ (∀ a r, M.a1a a = some r → (L.z2k nz wz S0 w0 Lr lx0 rx0 u2f u8m u8n u8o u8p) a r) := by
 refine M.ac.mutual_partial_correctness (L.z2d nz wz S0 w0 Lr lx0 rx0 u2f u8m u8n u8o u8p) (L.z2e nz wz S0 w0 Lr lx0 rx0 u2f u8m u8n u8o u8p) (L.z2f nz wz S0 w0 Lr lx0 rx0 u2f u8m u8n u8o u8p) (L.z2g nz wz S0 w0 Lr lx0 rx0 u2f u8m u8n u8o u8p) (L.z2h nz wz S0 w0 Lr lx0 rx0 u2f u8m u8n u8o u8p) (L.z2i nz wz S0 w0 Lr lx0 rx0 u2f u8m u8n u8o u8p) (L.z2j nz wz S0 w0 Lr lx0 rx0 u2f u8m u8n u8o u8p) (L.z2k nz wz S0 w0 Lr lx0 rx0 u2f u8m u8n u8o u8p) ?_ ?_ ?_ ?_ ?_ ?_ ?_ ?_
 ·
  intro u8z u90 ⟨u8w, u8x, u8y⟩ r h S1 w1 hx u86 u87 u88 u89 u8q u8r u8s u8t u8u u8v p1 u91 u92 u93 u94 u95 u96 junk
  try dsimp only at h
  subst u92
  subst u94
  subst u96
  refine Gn 3 [] Jc1 ?_
  refine Xc 60 1 6 60 ⟨u8o, 0, none⟩ (Sl u8q u8x u8s) (p1.c 4 0) ?_
  refine Gm 3 [([7], .i (u8x.length : Int)), ([8, 9], .bool (decide ((u8x.length : Int) > 0)))] Jc2 ?_
  refine Gi h (fun h8 h => ?_) fun h8 h => ?_
  ·
   rw [dt h8]
   refine Gm 5 [([10, 11, 12], undef), ([13], .bool true)] Jbt ?_
   exact Gj 73 [(0, yieldV lx0), (1, (pt u8o 0)), (2, (pt u8p 0)), (13, .bool true)] (u90 _ _ h _ _ hx _ _ _ _ _ _ _ _ _ _ p1 u91 rfl u93 rfl u95 rfl)
  ·
   rw [df h8]
   refine Xc 60 2 10 60 ⟨u8p, 0, none⟩ (Sl u8t u8y u8v) (p1.c 5 0) ?_
   refine Gm 4 [([11], .i (u8y.length : Int)), ([12, 13], .bool (decide ((u8y.length : Int) > 0)))] Jbt ?_
   exact Gj 73 [(0, yieldV lx0), (1, (pt u8o 0)), (2, (pt u8p 0)), (13, .bool (decide ((u8y.length : Int) > 0)))] (u90 _ _ h _ _ hx _ _ _ _ _ _ _ _ _ _ p1 u91 rfl u93 rfl u95 rfl)
 ·
  intro u97 u98 ⟨x13, u8w, u8x, u8y⟩ r h S1 w1 hx u86 u87 u88 u89 u8q u8r u8s u8t u8u u8v p1 u91 u92 u93 u94 u95 u96 junk
  try dsimp only at h
  subst u92
  subst u94
  subst u96
  refine Gi h (fun h10 h => ?_) fun h10 h => ?_
  ·
   rw [h10]
   refine Gn 9 [(4, .i 0)] Jc3 ?_
   have z2 : Ext S1 w1 S1 (w1).drew := Xk
   have p2 := p1.draw
   refine Gd [] (Fc S1 (w1).drew [(⟨u8p, 0, none⟩, Sl u8t u8y u8v), (⟨u8o, 0, none⟩, Sl u8q u8x u8s)]) 2 17 ?_
   generalize (w1).drew = w2 at z2 p2 ⊢
   refine Al 0 60 2 14 60 ⟨u8p, 0, none⟩ (Sl u8t u8y u8v) (p2.k [(5, 0, 1), (4, 0, 1)]) (fun _ h => h.2.at_ 0 rfl) ?_
   refine Xb 1 (.call { callee := .builtin .len, args := #[14], argTypes := #[60] }) 15 3 (.i (u8y.length : Int)) (p2.k [(5, 0, 1), (4, 0, 1)]) ?_
   refine Xb 2 (.binOp .eql 3 15 (.const (.int .i64 0)) 3) 16 4 (.bool (decide ((u8y.length : Int) = 0))) (p2.k [(5, 0, 1), (4, 0, 1)]) ?_
   refine Xb 3 (.move 16) 17 4 (.bool (decide ((u8y.length : Int) = 0))) (p2.k [(5, 0, 1), (4, 0, 1)]) ?_
   refine Gi h (fun h11 h => ?_) fun h11 h => ?_
   ·
    rw [dt h11]
    refine Xf 4 18 (p2.k [(5, 0, 1), (4, 0, 1)]) ?_
    refine Xf 5 19 (p2.k [(5, 0, 1), (4, 0, 1)]) ?_
    refine Xf 6 20 (p2.k [(5, 0, 1), (4, 0, 1)]) ?_
    refine Xf 7 21 (p2.k [(5, 0, 1), (4, 0, 1)]) ?_
    refine Xf 8 22 (p2.k [(5, 0, 1), (4, 0, 1)]) ?_
    refine Xf 9 23 (p2.k [(5, 0, 1), (4, 0, 1)]) ?_
    refine Xf 10 24 (p2.k [(5, 0, 1), (4, 0, 1)]) ?_
    refine Xf 11 25 (p2.k [(5, 0, 1), (4, 0, 1)]) ?_
    refine Xf 12 26 (p2.k [(5, 0, 1), (4, 0, 1)]) ?_
    refine Xf 13 27 (p2.k [(5, 0, 1), (4, 0, 1)]) ?_
    refine Xf 14 28 (p2.k [(5, 0, 1), (4, 0, 1)]) ?_
    refine Xf 15 29 (p2.k [(5, 0, 1), (4, 0, 1)]) ?_
    refine Xb 16 (.pick 17 (.const (.bool true)) 29) 30 4 (.bool true) (p2.k [(5, 0, 1), (4, 0, 1)]) ?_
    refine Ad ?_
    exact Gj 73 [(0, yieldV lx0), (1, (pt u8o 0)), (2, (pt u8p 0)), (4, .i 0), (30, .bool true)] (u98 _ _ h _ _ (hx.t z2) _ _ _ _ _ _ _ _ _ _ p2 (u91.ext z2) rfl (u93.ext z2) rfl (u95.ext z2) rfl)
   ·
    rw [df h11]
    refine Al 4 60 1 18 60 ⟨u8o, 0, none⟩ (Sl u8q u8x u8s) (p2.k [(5, 0, 1), (4, 0, 1)]) (fun _ h => h.2.at_ 1 rfl) ?_
    refine Xb 5 (.call { callee := .builtin .len, args := #[18], argTypes := #[60] }) 19 3 (.i (u8x.length : Int)) (p2.k [(5, 0, 1), (4, 0, 1)]) ?_
    refine Xb 6 (.binOp .gtr 3 19 (.const (.int .i64 0)) 3) 20 4 (.bool (decide ((u8x.length : Int) > 0))) (p2.k [(5, 0, 1), (4, 0, 1)]) ?_
    refine Xb 7 (.move 20) 21 4 (.bool (decide ((u8x.length : Int) > 0))) (p2.k [(5, 0, 1), (4, 0, 1)]) ?_
    refine Gi h (fun h13 h => ?_) fun h13 h => ?_
    ·
     rw [dt h13]
     refine Al 8 60 1 22 60 ⟨u8o, 0, none⟩ (Sl u8q u8x u8s) (p2.k [(5, 0, 1), (4, 0, 1)]) (fun _ h => h.2.at_ 1 rfl) ?_
     refine Gg h fun g14 h => ?_
     refine Xn (i := 9) 60 22 (.const (.int .i64 0)) 23 0 22 .i64 0 (gi u8x 0) rfl rfl (u93.ext z2) (by kernel_rfl) (by kernel_rfl) (p2.k [(5, 0, 1), (4, 0, 1)]) (by kernel_rfl) (by kernel_rfl) (by kernel_rfl) (by kernel_rfl) (by decide : (0 : Int) ≤ 0) g14 fun a15 _ f16 q17 => ?_
     obtain rfl := q17
     refine Al 10 22 23 24 22 a15 (.u (gi u8x 0)) (p2.k [(5, 0, 1), (4, 0, 1)]) (fun _ h => f16.fc h 0 _ rfl) ?_
     refine Al 11 60 2 25 60 ⟨u8p, 0, none⟩ (Sl u8t u8y u8v) (p2.k [(5, 0, 1), (4, 0, 1)]) (fun _ h => h.2.at_ 0 rfl) ?_
     refine Gg h fun g18 h => ?_
     refine Xn (i := 12) 60 25 (.const (.int .i64 0)) 26 0 22 .i64 0 (gi u8y 0) rfl rfl (u95.ext z2) (by kernel_rfl) (by kernel_rfl) (p2.k [(5, 0, 1), (4, 0, 1)]) (by kernel_rfl) (by kernel_rfl) (by kernel_rfl) (by kernel_rfl) (by decide : (0 : Int) ≤ 0) g18 fun a19 _ f20 q21 => ?_
     obtain rfl := q21
     refine Al 13 22 26 27 22 a19 (.u (gi u8y 0)) (p2.k [(5, 0, 1), (4, 0, 1)]) (fun _ h => f20.fc h 0 _ rfl) ?_
     refine Xb 14 (.binOp .leq 22 24 27 22) 28 4 (.bool (decide (gi u8x 0 ≤ gi u8y 0))) (p2.k [(5, 0, 1), (4, 0, 1)]) ?_
     refine Xb 15 (.pick 21 28 (.const (.bool false))) 29 4 (.bool (decide (gi u8x 0 ≤ gi u8y 0))) (p2.k [(5, 0, 1), (4, 0, 1)]) ?_
     refine Xb 16 (.pick 17 (.const (.bool true)) 29) 30 4 (.bool (decide (gi u8x 0 ≤ gi u8y 0))) (p2.k [(5, 0, 1), (4, 0, 1)]) ?_
     refine Ad ?_
     exact Gj 73 [(0, yieldV lx0), (1, (pt u8o 0)), (2, (pt u8p 0)), (4, .i 0), (30, .bool (decide (gi u8x 0 ≤ gi u8y 0)))] (u98 _ _ h _ _ (hx.t z2) _ _ _ _ _ _ _ _ _ _ p2 (u91.ext z2) rfl (u93.ext z2) rfl (u95.ext z2) rfl)
    ·
     rw [df h13]
     refine Xf 8 22 (p2.k [(5, 0, 1), (4, 0, 1)]) ?_
     refine Xf 9 23 (p2.k [(5, 0, 1), (4, 0, 1)]) ?_
     refine Xf 10 24 (p2.k [(5, 0, 1), (4, 0, 1)]) ?_
     refine Xf 11 25 (p2.k [(5, 0, 1), (4, 0, 1)]) ?_
     refine Xf 12 26 (p2.k [(5, 0, 1), (4, 0, 1)]) ?_
     refine Xf 13 27 (p2.k [(5, 0, 1), (4, 0, 1)]) ?_
     refine Xf 14 28 (p2.k [(5, 0, 1), (4, 0, 1)]) ?_
     refine Xb 15 (.pick 21 28 (.const (.bool false))) 29 4 (.bool false) (p2.k [(5, 0, 1), (4, 0, 1)]) ?_
     refine Xb 16 (.pick 17 (.const (.bool true)) 29) 30 4 (.bool false) (p2.k [(5, 0, 1), (4, 0, 1)]) ?_
     refine Ad ?_
     exact Gj 73 [(0, yieldV lx0), (1, (pt u8o 0)), (2, (pt u8p 0)), (4, .i 0), (30, .bool false)] (u98 _ _ h _ _ (hx.t z2) _ _ _ _ _ _ _ _ _ _ p2 (u91.ext z2) rfl (u93.ext z2) rfl (u95.ext z2) rfl)
  ·
   rw [bf h10]
   refine Gn 2 [] [] ?_
   obtain rfl := sj h
   exact Xy (fn := Tryz.f302) (by kernel_rfl) (v := .tuple #[]) (by kernel_rfl) ⟨S1, u86, u8w.length, u88, u89, u8q, u8x.length, u8s, u8t, u8y.length, u8v, rfl, hx, p1, u91, rfl, u93, rfl, u95, rfl⟩
 ·
  intro u99 u9a ⟨x4, x30, u8w, u8x, u8y⟩ r h S1 w1 hx u86 u87 u88 u89 u8q u8r u8s u8t u8u u8v p1 u91 u92 u93 u94 u95 u96 junk
  try dsimp only at h
  subst u92
  subst u94
  subst u96
  refine Gi h (fun h22 h => ?_) fun h22 h => ?_
  ·
   rw [h22]
   refine Gm 6 [([31], .i x4), ([32, 4], .i (ior .i64 x4 1))] Jbv ?_
   exact Gj 73 [(0, yieldV lx0), (1, (pt u8o 0)), (2, (pt u8p 0)), (4, .i (ior .i64 x4 1))] (u9a _ _ h _ _ hx _ _ _ _ _ _ _ _ _ _ p1 u91 rfl u93 rfl u95 rfl)
  ·
   rw [bf h22]
   refine Gn 2 [] Jbv ?_
   exact Gj 73 [(0, yieldV lx0), (1, (pt u8o 0)), (2, (pt u8p 0)), (4, .i x4)] (u9a _ _ h _ _ hx _ _ _ _ _ _ _ _ _ _ p1 u91 rfl u93 rfl u95 rfl)
 ·
  intro u9b u9c ⟨x4, u8w, u8x, u8y⟩ r h S1 w1 hx u86 u87 u88 u89 u8q u8r u8s u8t u8u u8v p1 u91 u92 u93 u94 u95 u96 junk
  try dsimp only at h
  subst u92
  subst u94
  subst u96
  refine Gn 2 [] Jc4 ?_
  have z3 : Ext S1 w1 S1 (w1).drew := Xk
  have p3 := p1.draw
  refine Gd [] (Fc S1 (w1).drew [(⟨u8o, 0, none⟩, Sl u8q u8x u8s), (⟨u8p, 0, none⟩, Sl u8t u8y u8v)]) 4 17 ?_
  generalize (w1).drew = w3 at z3 p3 ⊢
  refine Al 0 60 1 33 60 ⟨u8o, 0, none⟩ (Sl u8q u8x u8s) (p3.k [(4, 0, 1), (5, 0, 1)]) (fun _ h => h.2.at_ 0 rfl) ?_
  refine Xb 1 (.call { callee := .builtin .len, args := #[33], argTypes := #[60] }) 34 3 (.i (u8x.length : Int)) (p3.k [(4, 0, 1), (5, 0, 1)]) ?_
  refine Xb 2 (.binOp .eql 3 34 (.const (.int .i64 0)) 3) 35 4 (.bool (decide ((u8x.length : Int) = 0))) (p3.k [(4, 0, 1), (5, 0, 1)]) ?_
  refine Xb 3 (.move 35) 36 4 (.bool (decide ((u8x.length : Int) = 0))) (p3.k [(4, 0, 1), (5, 0, 1)]) ?_
  refine Gi h (fun h24 h => ?_) fun h24 h => ?_
  ·
   rw [dt h24]
   refine Xf 4 37 (p3.k [(4, 0, 1), (5, 0, 1)]) ?_
   refine Xf 5 38 (p3.k [(4, 0, 1), (5, 0, 1)]) ?_
   refine Xf 6 39 (p3.k [(4, 0, 1), (5, 0, 1)]) ?_
   refine Xf 7 40 (p3.k [(4, 0, 1), (5, 0, 1)]) ?_
   refine Xf 8 41 (p3.k [(4, 0, 1), (5, 0, 1)]) ?_
   refine Xf 9 42 (p3.k [(4, 0, 1), (5, 0, 1)]) ?_
   refine Xf 10 43 (p3.k [(4, 0, 1), (5, 0, 1)]) ?_
   refine Xf 11 44 (p3.k [(4, 0, 1), (5, 0, 1)]) ?_
   refine Xf 12 45 (p3.k [(4, 0, 1), (5, 0, 1)]) ?_
   refine Xf 13 46 (p3.k [(4, 0, 1), (5, 0, 1)]) ?_
   refine Xf 14 47 (p3.k [(4, 0, 1), (5, 0, 1)]) ?_
   refine Xf 15 48 (p3.k [(4, 0, 1), (5, 0, 1)]) ?_
   refine Xb 16 (.pick 36 (.const (.bool true)) 48) 49 4 (.bool true) (p3.k [(4, 0, 1), (5, 0, 1)]) ?_
   refine Ad ?_
   exact Gj 73 [(0, yieldV lx0), (1, (pt u8o 0)), (2, (pt u8p 0)), (4, .i x4), (49, .bool true)] (u9c _ _ h _ _ (hx.t z3) _ _ _ _ _ _ _ _ _ _ p3 (u91.ext z3) rfl (u93.ext z3) rfl (u95.ext z3) rfl)
  ·
   rw [df h24]
   refine Al 4 60 2 37 60 ⟨u8p, 0, none⟩ (Sl u8t u8y u8v) (p3.k [(4, 0, 1), (5, 0, 1)]) (fun _ h => h.2.at_ 1 rfl) ?_
   refine Xb 5 (.call { callee := .builtin .len, args := #[37], argTypes := #[60] }) 38 3 (.i (u8y.length : Int)) (p3.k [(4, 0, 1), (5, 0, 1)]) ?_
   refine Xb 6 (.binOp .gtr 3 38 (.const (.int .i64 0)) 3) 39 4 (.bool (decide ((u8y.length : Int) > 0))) (p3.k [(4, 0, 1), (5, 0, 1)]) ?_
   refine Xb 7 (.move 39) 40 4 (.bool (decide ((u8y.length : Int) > 0))) (p3.k [(4, 0, 1), (5, 0, 1)]) ?_
   refine Gi h (fun h26 h => ?_) fun h26 h => ?_
   ·
    rw [dt h26]
    refine Al 8 60 2 41 60 ⟨u8p, 0, none⟩ (Sl u8t u8y u8v) (p3.k [(4, 0, 1), (5, 0, 1)]) (fun _ h => h.2.at_ 1 rfl) ?_
    refine Gg h fun g27 h => ?_
    refine Xn (i := 9) 60 41 (.const (.int .i64 0)) 42 0 22 .i64 0 (gi u8y 0) rfl rfl (u95.ext z3) (by kernel_rfl) (by kernel_rfl) (p3.k [(4, 0, 1), (5, 0, 1)]) (by kernel_rfl) (by kernel_rfl) (by kernel_rfl) (by kernel_rfl) (by decide : (0 : Int) ≤ 0) g27 fun a28 _ f29 q30 => ?_
    obtain rfl := q30
    refine Al 10 22 42 43 22 a28 (.u (gi u8y 0)) (p3.k [(4, 0, 1), (5, 0, 1)]) (fun _ h => f29.fc h 0 _ rfl) ?_
    refine Al 11 60 1 44 60 ⟨u8o, 0, none⟩ (Sl u8q u8x u8s) (p3.k [(4, 0, 1), (5, 0, 1)]) (fun _ h => h.2.at_ 0 rfl) ?_
    refine Gg h fun g31 h => ?_
    refine Xn (i := 12) 60 44 (.const (.int .i64 0)) 45 0 22 .i64 0 (gi u8x 0) rfl rfl (u93.ext z3) (by kernel_rfl) (by kernel_rfl) (p3.k [(4, 0, 1), (5, 0, 1)]) (by kernel_rfl) (by kernel_rfl) (by kernel_rfl) (by kernel_rfl) (by decide : (0 : Int) ≤ 0) g31 fun a32 _ f33 q34 => ?_
    obtain rfl := q34
    refine Al 13 22 45 46 22 a32 (.u (gi u8x 0)) (p3.k [(4, 0, 1), (5, 0, 1)]) (fun _ h => f33.fc h 0 _ rfl) ?_
    refine Xb 14 (.binOp .leq 22 43 46 22) 47 4 (.bool (decide (gi u8y 0 ≤ gi u8x 0))) (p3.k [(4, 0, 1), (5, 0, 1)]) ?_
    refine Xb 15 (.pick 40 47 (.const (.bool false))) 48 4 (.bool (decide (gi u8y 0 ≤ gi u8x 0))) (p3.k [(4, 0, 1), (5, 0, 1)]) ?_
    refine Xb 16 (.pick 36 (.const (.bool true)) 48) 49 4 (.bool (decide (gi u8y 0 ≤ gi u8x 0))) (p3.k [(4, 0, 1), (5, 0, 1)]) ?_
    refine Ad ?_
    exact Gj 73 [(0, yieldV lx0), (1, (pt u8o 0)), (2, (pt u8p 0)), (4, .i x4), (49, .bool (decide (gi u8y 0 ≤ gi u8x 0)))] (u9c _ _ h _ _ (hx.t z3) _ _ _ _ _ _ _ _ _ _ p3 (u91.ext z3) rfl (u93.ext z3) rfl (u95.ext z3) rfl)
   ·
    rw [df h26]
    refine Xf 8 41 (p3.k [(4, 0, 1), (5, 0, 1)]) ?_
    refine Xf 9 42 (p3.k [(4, 0, 1), (5, 0, 1)]) ?_
    refine Xf 10 43 (p3.k [(4, 0, 1), (5, 0, 1)]) ?_
    refine Xf 11 44 (p3.k [(4, 0, 1), (5, 0, 1)]) ?_
    refine Xf 12 45 (p3.k [(4, 0, 1), (5, 0, 1)]) ?_
    refine Xf 13 46 (p3.k [(4, 0, 1), (5, 0, 1)]) ?_
    refine Xf 14 47 (p3.k [(4, 0, 1), (5, 0, 1)]) ?_
    refine Xb 15 (.pick 40 47 (.const (.bool false))) 48 4 (.bool false) (p3.k [(4, 0, 1), (5, 0, 1)]) ?_
    refine Xb 16 (.pick 36 (.const (.bool true)) 48) 49 4 (.bool false) (p3.k [(4, 0, 1), (5, 0, 1)]) ?_
    refine Ad ?_
    exact Gj 73 [(0, yieldV lx0), (1, (pt u8o 0)), (2, (pt u8p 0)), (4, .i x4), (49, .bool false)] (u9c _ _ h _ _ (hx.t z3) _ _ _ _ _ _ _ _ _ _ p3 (u91.ext z3) rfl (u93.ext z3) rfl (u95.ext z3) rfl)
 ·
  intro u9d u9e ⟨x4, x49, u8w, u8x, u8y⟩ r h S1 w1 hx u86 u87 u88 u89 u8q u8r u8s u8t u8u u8v p1 u91 u92 u93 u94 u95 u96 junk
  try dsimp only at h
  subst u92
  subst u94
  subst u96
  refine Gi h (fun h35 h => ?_) fun h35 h => ?_
  ·
   rw [h35]
   refine Gm 6 [([50], .i x4), ([51, 4], .i (ior .i64 x4 2))] Jbx ?_
   exact Gj 73 [(0, yieldV lx0), (1, (pt u8o 0)), (2, (pt u8p 0)), (4, .i (ior .i64 x4 2))] (u9e _ _ h _ _ hx _ _ _ _ _ _ _ _ _ _ p1 u91 rfl u93 rfl u95 rfl)
  ·
   rw [bf h35]
   refine Gn 2 [] Jbx ?_
   exact Gj 73 [(0, yieldV lx0), (1, (pt u8o 0)), (2, (pt u8p 0)), (4, .i x4)] (u9e _ _ h _ _ hx _ _ _ _ _ _ _ _ _ _ p1 u91 rfl u93 rfl u95 rfl)
 ·
  intro u9g u9h ⟨x4, u8w, u8x, u8y⟩ r h S1 w1 hx u86 u87 u88 u89 u8q u8r u8s u8t u8u u8v p1 u91 u92 u93 u94 u95 u96 junk
  try dsimp only at h
  subst u92
  subst u94
  subst u96
  refine Gn 11 [(5, .u 0), (52, .i x4), (53, .i (iand .i64 x4 2)), (54, .bool (!(decide (iand .i64 x4 2 = 0))))] Jc5 ?_
  refine Gi h (fun h37 h => ?_) fun h37 h => ?_
  ·
   rw [dt h37]
   refine Gn 2 [] Jbz ?_
   exact Gj 73 [(0, yieldV lx0), (1, (pt u8o 0)), (2, (pt u8p 0)), (4, .i x4), (5, .u 0)] (u9h _ _ h _ _ hx _ _ _ _ _ _ _ _ _ _ p1 u91 rfl u93 rfl u95 rfl)
  ·
   rw [df h37]
   refine Gn 1 [] Jc6 ?_
   have z4 : Ext S1 w1 S1 (w1).drew := Xk
   have p4 := p1.draw
   refine Gd [6] (Fc S1 (w1).drew [(⟨u8p, 0, none⟩, Sl u8t u8y u8v)]) 8 7 ?_
   generalize (w1).drew = w4 at z4 p4 ⊢
   refine Al 0 60 2 55 60 ⟨u8p, 0, none⟩ (Sl u8t u8y u8v) (p4.k [(5, 0, 1)]) (fun _ h => h.2.at_ 0 rfl) ?_
   refine Gg h fun g39 h => ?_
   refine Xn (i := 1) 60 55 (.const (.int .i64 0)) 56 0 22 .i64 0 (gi u8y 0) rfl rfl (u95.ext z4) (by kernel_rfl) (by kernel_rfl) (p4.k [(5, 0, 1)]) (by kernel_rfl) (by kernel_rfl) (by kernel_rfl) (by kernel_rfl) (by decide : (0 : Int) ≤ 0) g39 fun a40 _ f41 q42 => ?_
   obtain rfl := q42
   refine Al 2 22 56 57 22 a40 (.u (gi u8y 0)) (p4.k [(5, 0, 1)]) (fun _ h => f41.fc h 0 _ rfl) ?_
   refine Al 3 60 2 58 60 ⟨u8p, 0, none⟩ (Sl u8t u8y u8v) (p4.k [(5, 0, 1)]) (fun _ h => h.2.at_ 0 rfl) ?_
   refine Gg h fun g43 h => ?_
   refine AnyG.slR_n (i := 4) 60 58 (some (.const (.int .i64 1))) none 59 60 22 1 (u8y.length : Int) (sl u8y 1 (u8y.length : Int)) rfl rfl (u95.ext z4) (by kernel_rfl) (by kernel_rfl) (p4.k [(5, 0, 1)]) (by kernel_rfl) (by kernel_rfl) (by kernel_rfl) (Xt .i64 (by kernel_rfl)) Xv (by decide : (0 : Int) ≤ 1) g43 (Int.le_refl _) fun A44 c45 f46 => ?_
   refine Xb 5 (.assign 57) 5 22 (.u (gi u8y 0)) (p4.k [(5, 0, 1)]) ?_
   refine So 60 2 59 0 5 u8p 0 (.slice A44 ((sl u8y 1 (u8y.length : Int)).length) c45) [.slice A44 ((sl u8y 1 (u8y.length : Int)).length) c45] p4 rfl (As 6) fun w5 z5 p5 => ?_
   refine Xi [] (Fc S1 w5 []) (by decide) ?_
   refine Ad ?_
   exact Gj 73 [(0, yieldV lx0), (1, (pt u8o 0)), (2, (pt u8p 0)), (4, .i x4), (5, .u (gi u8y 0))] (u9h _ _ h _ _ ((hx.t z4).t z5) _ _ _ _ _ _ _ _ _ _ p5 (u91.ext (z4.t z5)) rfl (u93.ext (z4.t z5)) rfl (f46.ext z5) rfl)
 ·
  intro u9i u9j ⟨x4, x5, u8w, u8x, u8y⟩ r h S1 w1 hx u86 u87 u88 u89 u8q u8r u8s u8t u8u u8v p1 u91 u92 u93 u94 u95 u96 junk
  try dsimp only at h
  subst u92
  subst u94
  subst u96
  refine Gn 7 [(60, .i x4), (61, .i (iand .i64 x4 1)), (62, .bool (!(decide (iand .i64 x4 1 = 0))))] Jc7 ?_
  refine Gi h (fun h47 h => ?_) fun h47 h => ?_
  ·
   rw [dt h47]
   refine Gn 2 [] Jc0 ?_
   exact Gj 73 [(0, yieldV lx0), (1, (pt u8o 0)), (2, (pt u8p 0)), (4, .i x4), (5, .u x5)] (u9j _ _ h _ _ hx _ _ _ _ _ _ _ _ _ _ p1 u91 rfl u93 rfl u95 rfl)
  ·
   rw [df h47]
   refine Gn 1 [] Jc8 ?_
   have z6 : Ext S1 w1 S1 (w1).drew := Xk
   have p6 := p1.draw
   refine Gd [6] (Fc S1 (w1).drew [(⟨u8o, 0, none⟩, Sl u8q u8x u8s)]) 10 7 ?_
   generalize (w1).drew = w6 at z6 p6 ⊢
   refine Al 0 60 1 63 60 ⟨u8o, 0, none⟩ (Sl u8q u8x u8s) (p6.k [(4, 0, 1)]) (fun _ h => h.2.at_ 0 rfl) ?_
   refine Gg h fun g49 h => ?_
   refine Xn (i := 1) 60 63 (.const (.int .i64 0)) 64 0 22 .i64 0 (gi u8x 0) rfl rfl (u93.ext z6) (by kernel_rfl) (by kernel_rfl) (p6.k [(4, 0, 1)]) (by kernel_rfl) (by kernel_rfl) (by kernel_rfl) (by kernel_rfl) (by decide : (0 : Int) ≤ 0) g49 fun a50 _ f51 q52 => ?_
   obtain rfl := q52
   refine Al 2 22 64 65 22 a50 (.u (gi u8x 0)) (p6.k [(4, 0, 1)]) (fun _ h => f51.fc h 0 _ rfl) ?_
   refine Al 3 60 1 66 60 ⟨u8o, 0, none⟩ (Sl u8q u8x u8s) (p6.k [(4, 0, 1)]) (fun _ h => h.2.at_ 0 rfl) ?_
   refine Gg h fun g53 h => ?_
   refine AnyG.slR_n (i := 4) 60 66 (some (.const (.int .i64 1))) none 67 60 22 1 (u8x.length : Int) (sl u8x 1 (u8x.length : Int)) rfl rfl (u93.ext z6) (by kernel_rfl) (by kernel_rfl) (p6.k [(4, 0, 1)]) (by kernel_rfl) (by kernel_rfl) (by kernel_rfl) (Xt .i64 (by kernel_rfl)) Xv (by decide : (0 : Int) ≤ 1) g53 (Int.le_refl _) fun A54 c55 f56 => ?_
   refine Xb 5 (.assign 65) 5 22 (.u (gi u8x 0)) (p6.k [(4, 0, 1)]) ?_
   refine So 60 1 67 0 4 u8o 0 (.slice A54 ((sl u8x 1 (u8x.length : Int)).length) c55) [.slice A54 ((sl u8x 1 (u8x.length : Int)).length) c55] p6 rfl (As 6) fun w7 z7 p7 => ?_
   refine Xi [] (Fc S1 w7 []) (by decide) ?_
   refine Ad ?_
   exact Gj 73 [(0, yieldV lx0), (1, (pt u8o 0)), (2, (pt u8p 0)), (4, .i x4), (5, .u (gi u8x 0))] (u9j _ _ h _ _ ((hx.t z6).t z7) _ _ _ _ _ _ _ _ _ _ p7 (u91.ext (z6.t z7)) rfl (f56.ext z7) rfl (u95.ext (z6.t z7)) rfl)
 ·
  intro u9k u9l ⟨x4, x5, u8w, u8x, u8y⟩ r h S1 w1 hx u86 u87 u88 u89 u8q u8r u8s u8t u8u u8v p1 u91 u92 u93 u94 u95 u96 junk
  try dsimp only at h
  subst u92
  subst u94
  subst u96
  refine Gn 5 [(68, yieldV lx0), (69, .u x5), (70, .i x4)] Jca ?_
  refine Gb h fun y57 e58 h => ?_
  refine Goes.yieldAt (.call { callee := .value 68, args := #[69, 70], argTypes := #[22, 3] }) 71 4 0 lx0 #[.u x5, .i x4] p1 rfl (by kernel_rfl) rfl (fun _ => by kernel_rfl) rfl (W.z2b u8w u8x u8y x5 x4 y57 e58 _ _ _ _ _ _ _ _ _ _ _ _ _ _ _ _ _ p1 u91 rfl u93 rfl u95 rfl) ?_
  rintro _ w8 ⟨S8, u9m, u9n, u9o, u9p, rfl, z8, p8, u9q, rfl⟩
  refine Gn 6 [(72, .bool (!true))] Jbr ?_
  exact Gj 73 [(0, yieldV lx0), (1, (pt u8o 0)), (2, (pt u8p 0))] (u9l _ _ h _ _ (hx.t z8) _ _ _ _ _ _ _ _ _ _ p8 u9q rfl (u93.ext z8) rfl (u95.ext z8) rfl)
theorem W.z2d {nz wz S0 w0 Lr} (lx0 : Nat) (rx0 : Nat) (u2f : Nat → Value) (u8m : Nat) (u8n : Nat) (u8o : Nat) (u8p : Nat) : ∀ a r, M.ac a = some r → (L.z2d nz wz S0 w0 Lr lx0 rx0 u2f u8m u8n u8o u8p) a r := (W.z2l lx0 rx0 u2f u8m u8n u8o u8p).1
theorem W.z2e {nz wz S0 w0 Lr} (lx0 : Nat) (rx0 : Nat) (u2f : Nat → Value) (u8m : Nat) (u8n : Nat) (u8o : Nat) (u8p : Nat) : ∀ a r, M.a16 a = some r → (L.z2e nz wz S0 w0 Lr lx0 rx0 u2f u8m u8n u8o u8p) a r := (W.z2l lx0 rx0 u2f u8m u8n u8o u8p).2.1
theorem W.z2f {nz wz S0 w0 Lr} (lx0 : Nat) (rx0 : Nat) (u2f : Nat → Value) (u8m : Nat) (u8n : Nat) (u8o : Nat) (u8p : Nat) : ∀ a r, M.ao a = some r → (L.z2f nz wz S0 w0 Lr lx0 rx0 u2f u8m u8n u8o u8p) a r := (W.z2l lx0 rx0 u2f u8m u8n u8o u8p).2.2.1
theorem W.z2g {nz wz S0 w0 Lr} (lx0 : Nat) (rx0 : Nat) (u2f : Nat → Value) (u8m : Nat) (u8n : Nat) (u8o : Nat) (u8p : Nat) : ∀ a r, M.a17 a = some r → (L.z2g nz wz S0 w0 Lr lx0 rx0 u2f u8m u8n u8o u8p) a r := (W.z2l lx0 rx0 u2f u8m u8n u8o u8p).2.2.2.1
theorem W.z2h {nz wz S0 w0 Lr} (lx0 : Nat) (rx0 : Nat) (u2f : Nat → Value) (u8m : Nat) (u8n : Nat) (u8o : Nat) (u8p : Nat) : ∀ a r, M.ap a = some r → (L.z2h nz wz S0 w0 Lr lx0 rx0 u2f u8m u8n u8o u8p) a r := (W.z2l lx0 rx0 u2f u8m u8n u8o u8p).2.2.2.2.1
theorem W.z2i {nz wz S0 w0 Lr} (lx0 : Nat) (rx0 : Nat) (u2f : Nat → Value) (u8m : Nat) (u8n : Nat) (u8o : Nat) (u8p : Nat) : ∀ a r, M.a18 a = some r → (L.z2i nz wz S0 w0 Lr lx0 rx0 u2f u8m u8n u8o u8p) a r := (W.z2l lx0 rx0 u2f u8m u8n u8o u8p).2.2.2.2.2.1
theorem W.z2j {nz wz S0 w0 Lr} (lx0 : Nat) (rx0 : Nat) (u2f : Nat → Value) (u8m : Nat) (u8n : Nat) (u8o : Nat) (u8p : Nat) : ∀ a r, M.a19 a = some r → (L.z2j nz wz S0 w0 Lr lx0 rx0 u2f u8m u8n u8o u8p) a r := (W.z2l lx0 rx0 u2f u8m u8n u8o u8p).2.2.2.2.2.2.1
theorem W.z2k {nz wz S0 w0 Lr} (lx0 : Nat) (rx0 : Nat) (u2f : Nat → Value) (u8m : Nat) (u8n : Nat) (u8o : Nat) (u8p : Nat) : ∀ a r, M.a1a a = some r → (L.z2k nz wz S0 w0 Lr lx0 rx0 u2f u8m u8n u8o u8p) a r := (W.z2l lx0 rx0 u2f u8m u8n u8o u8p).2.2.2.2.2.2.2
theorem W.z2c (u9r : List Int) (u9s : List Int) (u9t : List Int) (r : (List Int) × (List Int) × (List Int)) (h : M.a6y u9r u9s u9t = some r) {nz wz S0 w0 Lr} (lx0 rx0 u2f u8m u8n u9u u9v u9w u9x u8o u9y u9z ua0 u8p ua1 ua2 ua3) (p0 : Hp nz wz S0 w0 ((some lx0, .obj (lpst 251 (lfr 23 [(5, (pt u8m 0)), (7, (pt u8n 0)), (12, .func (.func 302) #[] #[(pt u8o 0), (pt u8p 0)])] u2f) #[13, 14] (rfAssign (Q90)) (rfBody (Q90)) rx0 .ready none)) :: (some u8m, .row 313 [.func (.func 204) #[] #[]] 1 0) :: (some u8n, .row 60 [.slice (Gp u9u) u9v u9w] 1 0) :: (u9u, .row 22 u9x (u9w * kU.size) 0) :: (some u8o, .row 60 [.slice u9y u9z ua0] 1 0) :: (some u8p, .row 60 [.slice ua1 ua2 ua3] 1 0) :: Lr)) (ua4 : Els kU S0 w0 u9x u9r) (ua5 : u9r.length = u9v) (ua6 : Rd kU S0 w0 u9y ua0 u9s) (ua7 : u9s.length = u9z) (ua8 : Rd kU S0 w0 ua1 ua3 u9t) (ua9 : u9t.length = ua2) :
  Calls Tg 302 #[yieldV lx0, (pt u8o 0), (pt u8p 0)] w0 (Rets (Post.z2c nz wz S0 w0 Lr lx0 rx0 u2f u8m u8n u8o u8p r)) := by
 subst ua5
 subst ua7
 subst ua9
 refine Zf Tryz.f302 B302 70 ?_
 refine Gj 73 [(0, yieldV lx0), (1, (pt u8o 0)), (2, (pt u8p 0))] fun junk => ?_
 delta M.a6y at h
 refine Gn 2 [] Jbr ?_
 exact Gj 73 [(0, yieldV lx0), (1, (pt u8o 0)), (2, (pt u8p 0))] (W.z2d lx0 rx0 u2f u8m u8n u8o u8p _ _ h _ _ (Xj S0 w0) _ _ _ _ _ _ _ _ _ _ p0 ua4 rfl ua6 rfl ua8 rfl)
def Jcc := Yt 10 B251 [0, 1] (Ys 11 B251 [])
def Jce := Yt 110 B251 [0] (Ys 111 B251 [])
def Jcf := Ys 1111 B251 []
def Jch := Yt 11100 B251 [2] (Ys 11101 B251 Jcf)
def Jci := Zb 0 Jcf
def Jcj := Zc Q90 Jci
def Jck := Ys 11111 B251 []
def Jcl := Yt 11110 B251 [0, 1] Jck
def Post.z2m (r : List Int) (v : Value) (w' : World) : Prop :=
 ∃ S' Gq nq cq csq, v = .slice (Gp Gq) nq cq ∧ Ext S0 w0 S' w' ∧ Hp nz wz S' w' ((Gq, .row 22 csq (cq * kU.size) 0) :: Lr) ∧ Els kU S' w' csq r ∧ r.length = nq
theorem W.z2m (x0 : List Int) (x1 : List Int) (r : List Int) (h : M.a64 x0 x1 = some r) {nz wz S0 w0 Lr} (Ax0 nx0 cx0 Ax1 nx1 cx1) (p0 : Hp nz wz S0 w0 (Lr)) (fx0 : Rd kU S0 w0 Ax0 cx0 x0) (lx0 : x0.length = nx0) (fx1 : Rd kU S0 w0 Ax1 cx1 x1) (lx1 : x1.length = nx1) :
  Calls Tg 251 #[.slice Ax0 nx0 cx0, .slice Ax1 nx1 cx1, .func (.func 204) #[] #[]] w0 (Rets (Post.z2m nz wz S0 w0 Lr r)) := by
 subst lx0
 subst lx1
 refine Zf Tryz.f251 B251 20 ?_
 refine Gj 23 [(0, Sl Ax0 x0 cx0), (1, Sl Ax1 x1 cx1), (2, .func (.func 204) #[] #[])] fun junk => ?_
 delta M.a64 at h
 refine Gn 2 [] Jcc ?_
 refine Ob 313 2 5 0 (.func (.func 204) #[] #[]) [.func (.func 204) #[] #[]] p0 Xa fun b1 w2 z2 p2 => ?_
 refine Gn 4 [(6, Sn)] Jce ?_
 refine Oa 60 7 0 (Sn) [Sn] p2 Xa fun b3 w3 z3 p3 => ?_
 refine Gn 6 [(10, Sl Ax0 x0 cx0), (11, Sl Ax1 x1 cx1)] Jch ?_
 refine Gb h fun y5 e6 h => ?_
 refine Gc (kc 280 [10, 11] #[60, 60]) 12 375 280 _ (W.z29 x0 x1 y5 e6 _ _ _ _ _ _ p3 (fx0.ext (z2.t z3)) rfl (fx1.ext (z2.t z3)) rfl) ?_
 rintro _ w4 ⟨S4, uaa, uab, uac, uad, uae, uaf, uag, uah, rfl, z4, p4, uai, rfl, uaj, rfl⟩
 refine Gn 2 [] Jcj ?_
 refine Gj 23 [(5, (pt b1 0)), (7, (pt b3 0)), (12, .func (.func 302) #[] #[(pt uaa 0), (pt uae 0)])] (fun uak => ?_)
 refine Goes.rangeF (f := 251) 12 #[13, 14] 302 #[] #[(pt uaa 0), (pt uae 0)] (by kernel_rfl) (by kernel_rfl) (fun _ => by kernel_rfl) p4 fun r10 l11 w5 z5 p5 => ?_
 have p5 : Hp nz wz S4 w5 ((none, .row 22 [] (0 * kU.size) 0) :: (some l11, .obj (lpst 251 (lfr 23 [(5, (pt b1 0)), (7, (pt b3 0)), (12, .func (.func 302) #[] #[(pt uaa 0), (pt uae 0)])] uak) #[13, 14] (rfAssign (Q90)) (rfBody (Q90)) r10 .ready none)) :: (some r10, .obj (.deferred (some []))) :: (some uaa, .row 60 [Sl uab y5.1 uad] 1 0) :: (some uae, .row 60 [Sl uaf y5.2 uah] 1 0) :: (some b3, .row 60 [Sn] 1 0) :: (some b1, .row 313 [.func (.func 204) #[] #[]] 1 0) :: Lr) := p5.nilRow' 22
 have p5 := (((((p5.fr 4).fr 4).fr 2).fr 5).fr 6).fr 5
 refine Gb h fun y15 e16 h => ?_
 refine ⟨_, W.z2c ([] : List Int) y5.1 y5.2 y15 e16 _ _ _ _ _ none 0 0 [] _ _ _ _ _ _ _ _ p5 (Els.nil (K := kU)) rfl (uai.ext z5) rfl (uaj.ext z5) rfl, ?_⟩
 rintro _ w6 ⟨S6, ual, uam, uan, uao, uap, uaq, uar, uas, uat, uau, rfl, z6, p6, uav, rfl, uaw, rfl, uax, rfl⟩
 refine Goes.endF 0 p6 rfl rfl fun w7 z7 p7 => ?_
 replace p7 : Hp nz wz S6 w7 ((some b1, .row 313 [.func (.func 204) #[] #[]] 1 0) :: (some b3, .row 60 [Sl (Gp ual) y15.1 uan] 1 0) :: (ual, .row 22 uao (uan * kU.size) 0) :: (some uaa, .row 60 [Sl uap y15.2.1 uar] 1 0) :: (some uae, .row 60 [Sl uas y15.2.2 uau] 1 0) :: (some r10, .obj (.deferred (some []))) :: Lr) := (p7.front 0 _ rfl).drop
 show Goes _ _ Jci _ _ _
 refine Gn 3 [] Jcl ?_
 refine Xc 60 7 22 60 ⟨b3, 0, none⟩ (Sl (Gp ual) y15.1 uan) (p7.c 1 0) ?_
 refine Gn 2 [(6, Sl (Gp ual) y15.1 uan)] Jck ?_
 obtain rfl := sj h
 have p7 := (((p7.dp 0).dp 0).dp 1).dp 1
 have p7 := (p7.fr 0).fr 1
 refine Goes.retL ?_
 refine lvs_mark 0 rfl rfl p7 rfl fun w8 z8 p8 => ?_
 replace p8 : Hp nz wz S6 w8 ((ual, .row 22 uao (uan * kU.size) 0) :: Lr) := p8.drop
 exact lvs_done (fn := Tryz.f251) rfl rfl rfl rfl (by kernel_rfl) (v := Sl (Gp ual) y15.1 uan) (by kernel_rfl) ⟨S6, ual, y15.1.length, uan, uao, rfl, ((((((z2.t z3).t z4).t z5).t z6).t z7).t z8), p8, (uav.ext (z7.t z8)), rfl⟩
def Jcm := Ys 1111111 B203 []
def Q9u := Yq 1111110100 B203
def Jco := Zl Q9u (Zb 2 Jcm)
def Jcp := Zc Q9u Jco
def Jcr := Ys 111111010010 B203 (Ys 111111010011 B203 Jco)
def Jct := Zb 3 (Ys 1111110100111 B203 Jco)
def Q9y := Yq 111111010011001 B203
def Jcv := Yt 111111010011000 B203 [0, 1, 2] (Zc Q9y Jct)
def Jcw := Zr Q9y [3, 4] Jct
def Jcx := Ys 11111111 B203 []
def Post.z2n (r : (List Int) × Int) (v : Value) (w' : World) : Prop :=
 ∃ S' uay uaz ub0 ub1, v = .tuple #[.slice (Gp uay) uaz ub0, .i r.2] ∧ Ext S0 w0 S' w' ∧ Hp nz wz S' w' ((uay, .row 22 ub1 (ub0 * kU.size) 0) :: Lr) ∧ Els kU S' w' ub1 r.1 ∧ r.1.length = uaz
def L.z2o : (List Int) × (List (List Int)) × Int × Int → ((List Int) × Int) → Prop := fun ⟨x9, x35, x36, x37⟩ r => ∀ S1 w1, Ext S0 w0 S1 w1 → ∀ Gx9 nx9 cx9 ub2 ub3 ub4 ub5 (_ : Hp nz wz S1 w1 ((Gx9, .row 22 ub2 (cx9 * kU.size) 0) :: Lr)) (_ : Els kU S1 w1 ub2 x9) (_ : x9.length = nx9) (_ : Rd (kSl kU) S1 w1 ub3 ub5 x35) (_ : x35.length = ub4) (junk : Nat → Value),
 Goes Tg (base 203) Jcp ⟨lfr 47 [(1, .func (.func 204) #[] #[]), (9, .slice (Gp Gx9) nx9 cx9), (35, .slice ub3 ub4 ub5), (36, .i x36), (37, .i x37)] junk, []⟩ w1 (Done Tg 203 (Rets (Post.z2n nz wz S0 w0 Lr r)))
theorem W.z2o {nz wz S0 w0 Lr} : ∀ a r, M.a3n a = some r → (L.z2o nz wz S0 w0 Lr) a r := by
 refine M.a3n.partial_correctness (motive := (L.z2o nz wz S0 w0 Lr)) ?_
 intro ub6 ub7 ⟨x9, x35, x36, x37⟩ r h S1 w1 hx Gx9 nx9 cx9 ub2 ub3 ub4 ub5 p1 fx9 lx9 ub8 ub9 junk
 try dsimp only at h
 subst lx9
 subst ub9
 refine Gn 5 [(38, .bool (decide (x37 < x36)))] Jcr ?_
 refine Gi h (fun h33 h => ?_) fun h33 h => ?_
 ·
  rw [dt h33]
  refine Gn 6 [] Jcv ?_
  refine Gg h fun g34 h => ?_
  refine Gg h fun g35 h => ?_
  refine Oi 311 35 37 39 0 60 .i64 x37 (gi x35 x37) rfl rfl ub8 Xa g34 g35 fun a36 _ f37 q38 => ?_
  obtain ⟨A39, c40, rfl, f41⟩ := q38
  refine Xc 60 39 40 60 a36 (.slice A39 ((gi x35 x37).length) c40) (f37.cell 0 _ rfl) ?_
  refine Gm 6 [([11, 42], .slice A39 ((gi x35 x37).length) c40), ([41], Sl (Gp Gx9) x9 cx9), ([43], .func (.func 204) #[] #[])] Jcw ?_
  obtain ⟨S4, z4, p4, f42⟩ := p1.freezeRd 0 rfl fx9 (by decide)
  refine Gb h fun y43 e44 h => ?_
  refine Gc (kc 251 [41, 42, 43] #[60, 60, 313]) 44 60 251 _ (W.z2m x9 (gi x35 x37) y43 e44 _ _ _ _ _ _ p4 f42 rfl (f41.ext z4) rfl) ?_
  rintro _ w5 ⟨S5, u4z, u50, u51, u52, rfl, z5, p5, u53, rfl⟩
  have p5 := p5.dp 1
  refine Gm 8 [([9], Sl (Gp u4z) y43 u51), ([45, 37], .i (wr .i64 (x37 + 1)))] Jcp ?_
  exact Gj 47 [(1, .func (.func 204) #[] #[]), (9, Sl (Gp u4z) y43 u51), (35, Sl ub3 x35 ub5), (36, .i x36), (37, .i (wr .i64 (x37 + 1)))] (ub7 _ _ h _ _ ((hx.t z4).t z5) _ _ _ _ _ _ _ p5 u53 rfl (ub8.ext (z4.t z5)) rfl)
 ·
  rw [df h33]
  refine Gm 8 [([46, 4], Sl (Gp Gx9) x9 cx9), ([5], .i 0)] Jcx ?_
  obtain rfl := sj h
  exact Xd Tryz.f203 (.tuple #[Sl (Gp Gx9) x9 cx9, .i 0]) ⟨_, _, _, _, _, rfl, hx, p1, fx9, rfl⟩
def Qa2 := Yq 1110100 B203
def Jd0 := Zl Qa2 (Zb 0 (Ys 1111 B203 []))
def Jd1 := Zc Qa2 Jd0
def Jd3 := Ys 111010010 B203 (Ys 111010011 B203 Jd0)
def Jd5 := Zb 1 (Ys 1110100111 B203 Jd0)
def Jd7 := Yt 111010011000 B203 [0, 1, 2] (Ys 111010011001 B203 Jd5)
def Jd9 := Yt 1110100110010 B203 [1, 2] (Ys 1110100110011 B203 Jd5)
def Jda := Ys 11101001100111 B203 Jd5
def Jdb := Ys 1110100110011101 B203 Jd5
def Jdc := Ys 11111 B203 []
def Jdd := Ys 111101 B203 Jdc
def Jde := Ys 11110101 B203 Jdc
def Jdg := Yt 111110 B203 [1, 2, 3, 4] (Ys 111111 B203 [])
def Jdi := Yt 11111100 B203 [1, 2, 3] (Ys 11111101 B203 Jcm)
def L.z2p : (List (List Int)) × (List (List Int)) × Int × Int → ((List Int) × Int) → Prop := fun ⟨x0, x15, x16, x17⟩ r => ∀ S1 w1, Ext S0 w0 S1 w1 → ∀ Ax0 nx0 cx0 uba ubb ubc (_ : Hp nz wz S1 w1 (Lr)) (_ : Rd (kSl kU) S1 w1 Ax0 cx0 x0) (_ : x0.length = nx0) (_ : Rd (kSl kU) S1 w1 uba ubc x15) (_ : x15.length = ubb) (junk : Nat → Value),
 Goes Tg (base 203) Jd1 ⟨lfr 47 [(0, .slice Ax0 nx0 cx0), (1, .func (.func 204) #[] #[]), (15, .slice uba ubb ubc), (16, .i x16), (17, .i x17)] junk, []⟩ w1 (Done Tg 203 (Rets (Post.z2n nz wz S0 w0 Lr r)))
theorem W.z2p {nz wz S0 w0 Lr} : ∀ a r, M.a3o a = some r → (L.z2p nz wz S0 w0 Lr) a r := by
 refine M.a3o.partial_correctness (motive := (L.z2p nz wz S0 w0 Lr)) ?_
 intro ubd ube ⟨x0, x15, x16, x17⟩ r h S1 w1 hx Ax0 nx0 cx0 uba ubb ubc p1 fx0 lx0 ubf ubg junk
 try dsimp only at h
 subst lx0
 subst ubg
 refine Gn 5 [(18, .bool (decide (x17 < x16)))] Jd3 ?_
 refine Gi h (fun h3 h => ?_) fun h3 h => ?_
 ·
  rw [dt h3]
  refine Gn 6 [] Jd7 ?_
  refine Gg h fun g4 h => ?_
  refine Gg h fun g5 h => ?_
  refine Oi 311 15 17 19 0 60 .i64 x17 (gi x15 x17) rfl rfl ubf Xa g4 g5 fun a6 _ f7 q8 => ?_
  obtain ⟨A9, c10, rfl, f11⟩ := q8
  refine Xc 60 19 20 60 a6 (.slice A9 ((gi x15 x17).length) c10) (f7.cell 0 _ rfl) ?_
  refine Gm 5 [([7, 21], .slice A9 ((gi x15 x17).length) c10)] Jd9 ?_
  refine Gb h fun y12 e13 h => ?_
  refine Gc (kc 82 [21] #[60]) 22 34 82 _ (W.z27 (gi x15 x17) y12 e13 _ _ _ p1 f11 rfl) ?_
  rintro _ w2 ⟨S2, rfl, z2, p2⟩
  refine Gm 7 [([8, 23], .i y12), ([24], .bool (!(decide (y12 = 0))))] Jda ?_
  refine Gi h (fun h14 h => ?_) fun h14 h => ?_
  ·
   rw [dt h14]
   refine Gm 8 [([26, 17], .i (wr .i64 (x17 + 1)))] Jd1 ?_
   exact Gj 47 [(0, Sl Ax0 x0 cx0), (1, .func (.func 204) #[] #[]), (15, Sl uba x15 ubc), (16, .i x16), (17, .i (wr .i64 (x17 + 1)))] (ube _ _ h _ _ (hx.t z2) _ _ _ _ _ _ p2 (fx0.ext z2) rfl (ubf.ext z2) rfl)
  ·
   rw [df h14]
   refine Gm 7 [([25, 5], .i y12), ([4], Sn)] Jdb ?_
   have p2 : Hp nz wz S2 w2 ((none, .row 22 [] (0 * kU.size) 0) :: Lr) := p2.nilRow' 22
   obtain rfl := sj h
   exact Xd Tryz.f203 (.tuple #[.slice (Gp none) 0 0, .i y12]) ⟨_, _, _, _, _, rfl, (hx.t z2), p2, (Els.nil (K := kU)), rfl⟩
 ·
  rw [df h3]
  refine Gn 9 [(27, Sl Ax0 x0 cx0), (28, .i (x0.length : Int)), (29, .bool (decide ((x0.length : Int) = 0)))] Jdd ?_
  refine Gi h (fun h16 h => ?_) fun h16 h => ?_
  ·
   rw [dt h16]
   refine Gn 6 [(4, Sn), (5, .i 0)] Jde ?_
   have p1 : Hp nz wz S1 w1 ((none, .row 22 [] (0 * kU.size) 0) :: Lr) := p1.nilRow' 22
   obtain rfl := sj h
   exact Xd Tryz.f203 (.tuple #[.slice (Gp none) 0 0, .i 0]) ⟨_, _, _, _, _, rfl, hx, p1, (Els.nil (K := kU)), rfl⟩
  ·
   rw [df h16]
   refine Gn 5 [(30, Sl Ax0 x0 cx0)] Jdg ?_
   refine Gg h fun g18 h => ?_
   refine Oi 311 30 (.const (.int .i64 0)) 31 0 60 .i64 0 (gi x0 0) rfl rfl fx0 Xa (by decide : (0 : Int) ≤ 0) g18 fun a19 _ f20 q21 => ?_
   obtain ⟨A22, c23, rfl, f24⟩ := q21
   refine Xc 60 31 32 60 a19 (.slice A22 ((gi x0 0).length) c23) (f20.cell 0 _ rfl) ?_
   refine Gb h fun y25 e26 h => ?_
   refine Gc (kc 142 [32] #[60]) 33 60 142 _ (W.z28 (gi x0 0) y25 e26 _ _ _ p1 f24 rfl) ?_
   rintro _ w3 ⟨S3, u3g, u3h, u3i, u3j, rfl, z3, p3, u3k, rfl⟩
   refine Gn 6 [(9, Sl (Gp u3g) y25 u3i), (34, Sl Ax0 x0 cx0)] Jdi ?_
   refine Gg h fun g28 h => ?_
   refine Op_.slR_n 311 34 (some (.const (.int .i64 1))) none 35 311 60 1 (x0.length : Int) (sl x0 1 (x0.length : Int)) rfl rfl (fx0.ext z3) Xa (by kernel_rfl) (by kernel_rfl) (by kernel_rfl) (Xt .i64 (by kernel_rfl)) Xv (by decide : (0 : Int) ≤ 1) g28 (Int.le_refl _) fun A29 c30 f31 => ?_
   refine Gn 5 [(36, .i ((sl x0 1 (x0.length : Int)).length : Int)), (37, .i 0)] Jcp ?_
   exact Gj 47 [(1, .func (.func 204) #[] #[]), (9, Sl (Gp u3g) y25 u3i), (35, .slice A29 ((sl x0 1 (x0.length : Int)).length) c30), (36, .i ((sl x0 1 (x0.length : Int)).length : Int)), (37, .i 0)] (W.z2o _ _ h _ _ (hx.t z3) _ _ _ _ _ _ _ p3 u3k rfl f31 rfl)
def Jdj := Ys 111 B203 []
def Jdk := Ys 1101 B203 Jdj
def Jdl := Ys 110101 B203 Jdj
theorem W.z2n (x0 : List (List Int)) (r : (List Int) × Int) (h : M.a65 x0 = some r) {nz wz S0 w0 Lr} (Ax0 nx0 cx0) (p0 : Hp nz wz S0 w0 (Lr)) (fx0 : Rd (kSl kU) S0 w0 Ax0 cx0 x0) (lx0 : x0.length = nx0) :
  Calls Tg 203 #[.slice Ax0 nx0 cx0, .func (.func 204) #[] #[]] w0 (Rets (Post.z2n nz wz S0 w0 Lr r)) := by
 subst lx0
 refine Zf Tryz.f203 B203 45 ?_
 refine Gj 47 [(0, Sl Ax0 x0 cx0), (1, .func (.func 204) #[] #[])] fun junk => ?_
 delta M.a65 at h
 refine Gn 12 [(4, Sn), (5, .i 0), (12, Sl Ax0 x0 cx0), (13, .i (x0.length : Int)), (14, .bool (decide ((x0.length : Int) > 4096)))] Jdk ?_
 refine Gi h (fun h1 h => ?_) fun h1 h => ?_
 ·
  rw [dt h1]
  refine Gn 6 [(4, Sn), (5, .i 3)] Jdl ?_
  have p0 : Hp nz wz S0 w0 ((none, .row 22 [] (0 * kU.size) 0) :: Lr) := p0.nilRow' 22
  obtain rfl := sj h
  exact Xd Tryz.f203 (.tuple #[.slice (Gp none) 0 0, .i 3]) ⟨_, _, _, _, _, rfl, (Xj S0 w0), p0, (Els.nil (K := kU)), rfl⟩
 ·
  rw [df h1]
  refine Gn 11 [(15, Sl Ax0 x0 cx0), (16, .i (x0.length : Int)), (17, .i 0)] Jd1 ?_
  exact Gj 47 [(0, Sl Ax0 x0 cx0), (1, .func (.func 204) #[] #[]), (15, Sl Ax0 x0 cx0), (16, .i (x0.length : Int)), (17, .i 0)] (W.z2p _ _ h _ _ (Xj S0 w0) _ _ _ _ _ _ p0 fx0 rfl fx0 rfl)
def Jdm := Ys 111 B140 []
def Post.z2q (r : (List Int) × Int) (v : Value) (w' : World) : Prop :=
 ∃ S' uay uaz ub0 ub1, v = .tuple #[.slice (Gp uay) uaz ub0, .i r.2] ∧ Ext S0 w0 S' w' ∧ Hp nz wz S' w' ((uay, .row 22 ub1 (ub0 * kU.size) 0) :: Lr) ∧ Els kU S' w' ub1 r.1 ∧ r.1.length = uaz
theorem W.z2q (x0 : List (List Int)) (r : (List Int) × Int) (h : M.a4u x0 = some r) {nz wz S0 w0 Lr} (Ax0 nx0 cx0) (p0 : Hp nz wz S0 w0 (Lr)) (fx0 : Rd (kSl kU) S0 w0 Ax0 cx0 x0) (lx0 : x0.length = nx0) :
  Calls Tg 140 #[.slice Ax0 nx0 cx0] w0 (Rets (Post.z2q nz wz S0 w0 Lr r)) := by
 subst lx0
 refine Zf Tryz.f140 B140 7 ?_
 refine Gj 8 [(0, Sl Ax0 x0 cx0)] fun junk => ?_
 delta M.a4u at h
 refine Gn 8 [(2, Sn), (3, .i 0), (4, Sl Ax0 x0 cx0)] (Yt 110 B140 [1, 2, 3, 4, 5] Jdm) ?_
 refine Gb h fun y1 e2 h => ?_
 refine Gc (.call { callee := .value (.func 203), args := #[4, (.func 204)], argTypes := #[311, 313] }) 5 72 203 _ (W.z2n x0 y1 e2 _ _ _ p0 fx0 rfl) ?_
 rintro _ w2 ⟨S2, ubh, ubi, ubj, ubk, rfl, z2, p2, ubl, rfl⟩
 refine Gm 5 [([6, 2], Sl (Gp ubh) y1.1 ubj), ([7, 3], .i y1.2)] Jdm ?_
 obtain rfl := sj h
 exact Xd Tryz.f140 (.tuple #[Sl (Gp ubh) y1.1 ubj, .i y1.2]) ⟨_, _, _, _, _, rfl, z2, p2, ubl, rfl⟩
def Jdo := Ys 111 B77 []
def Post.z2r (r : (List Int) × Int) (v : Value) (w' : World) : Prop :=
 ∃ S' uay uaz ub0 ub1, v = .tuple #[.slice (Gp uay) uaz ub0, .i r.2] ∧ Ext S0 w0 S' w' ∧ Hp nz wz S' w' ((uay, .row 22 ub1 (ub0 * kU.size) 0) :: Lr) ∧ Els kU S' w' ub1 r.1 ∧ r.1.length = uaz
theorem W.z2r (x0 : List Int) (x1 : Int) (r : (List Int) × Int) (h : M.a66 x0 x1 = some r) {nz wz S0 w0 Lr} (Ax0 nx0 cx0) (p0 : Hp nz wz S0 w0 (Lr)) (fx0 : Rd kU S0 w0 Ax0 cx0 x0) (lx0 : x0.length = nx0) :
  Calls Tg 77 #[.slice Ax0 nx0 cx0, .u x1] w0 (Rets (Post.z2r nz wz S0 w0 Lr r)) := by
 subst lx0
 refine Zf Tryz.f77 B77 11 ?_
 refine Gj 13 [(0, Sl Ax0 x0 cx0), (1, .u x1)] fun junk => ?_
 delta M.a66 at h
 refine Gn 9 [(4, Sn), (5, .i 0), (6, Sl Ax0 x0 cx0), (7, .u x1)] (Yt 110 B77 [2, 3, 4, 5, 6, 7, 8] Jdo) ?_
 have f2 : Els kU S0 w0 ([.u x1] : List Value) [x1] := by exact (Els.cons (K := kU) (vs := [.u x1]) (x := x1) rfl Els.nil)
 refine Om (.buildSlice 60 1 #[(0, 7)]) 8 60 (fun b => .slice (Gp (some b)) 1 1) 22 ([.u x1] : List Value) (1 * kU.size) p0 Xa fun b1 w2 z2 p2 => ?_
 obtain ⟨S3, z3, p3, f4⟩ := p2.freezeRd 0 rfl (f2.ext z2) (by decide)
 have f6 : Els (kSl kU) S3 w2 ([Sl Ax0 x0 cx0, .slice (Gp (some b1)) 1 1] : List Value) [x0, [x1]] := by exact (Els.cons (K := (kSl kU)) (vs := [Sl Ax0 x0 cx0]) (x := x0) ⟨_, _, rfl, (fx0.ext (z2.t z3))⟩ (Els.cons (K := (kSl kU)) (vs := [.slice (Gp (some b1)) 1 1]) (x := [x1]) ⟨_, _, rfl, f4⟩ Els.nil))
 refine Om (.buildSlice 311 2 #[(0, 6), (1, 8)]) 9 311 (fun b => .slice (Gp (some b)) 2 2) 60 ([Sl Ax0 x0 cx0, .slice (Gp (some b1)) 1 1] : List Value) (2 * (kSl kU).size) p3 Xa fun b5 w4 z4 p4 => ?_
 obtain ⟨S5, z5, p5, f8⟩ := p4.freezeRd 0 rfl (f6.ext z4) (by decide)
 refine Gb h fun y9 e10 h => ?_
 refine Gc (kc 140 [9] #[311]) 10 72 140 _ (W.z2q [x0, [x1]] y9 e10 _ _ _ p5 f8 rfl) ?_
 rintro _ w6 ⟨S6, ubm, ubn, ubo, ubp, rfl, z6, p6, ubq, rfl⟩
 have p6 := (p6.dp 1).dp 1
 refine Gm 5 [([11, 4], Sl (Gp ubm) y9.1 ubo), ([12, 5], .i y9.2)] Jdo ?_
 obtain rfl := sj h
 exact Xd Tryz.f77 (.tuple #[Sl (Gp ubm) y9.1 ubo, .i y9.2]) ⟨_, _, _, _, _, rfl, ((((z2.t z3).t z4).t z5).t z6), p6, ubq, rfl⟩
def Qaq := Yq 11 B78
def Jdq := Zc Qaq []
def Jds := Ys 10101 B78 Jdq
def Qat := Yq 10100 B78
def Post.z2s (gx0 : Nat) (u7h : Nat) (u7i : Nat) (r : List (List (ByteArray × (List Int)))) (v : Value) (w' : World) : Prop :=
 ∃ S' Ee1, v = .tuple #[] ∧ Ext S0 w0 S' w' ∧ Hp nz wz S' w' ((some gx0, .row 158 [.map (some u7h)] 1 0) :: (none, .seg 154 Ee1) :: Lr) ∧ Pl (oMap Value.string (kSl kU)) S' w' Ee1 r
theorem W.z2s (u7i : Nat) (x1 : ByteArray) (x2 : List Int) (u7e : List (List (ByteArray × (List Int)))) (r : List (List (ByteArray × (List Int)))) (h : M.a4v u7i x1 x2 u7e = some r) {nz wz S0 w0 Lr} (gx0 u7h Ax2 nx2 cx2 u7f) (p0 : Hp nz wz S0 w0 ((some gx0, .row 158 [.map (some u7h)] 1 0) :: (none, .seg 154 u7f) :: Lr)) (u7j : Pa 154 S0 u7i u7h) (fx2 : Rd kU S0 w0 Ax2 cx2 x2) (lx2 : x2.length = nx2) (u7g : Pl (oMap Value.string (kSl kU)) S0 w0 u7f u7e) :
  Calls Tg 78 #[(pt gx0 0), .string x1, .slice Ax2 nx2 cx2] w0 (Rets (Post.z2s nz wz S0 w0 Lr gx0 u7h u7i r)) := by
 subst lx2
 refine Zf Tryz.f78 B78 17 ?_
 refine Gj 20 [(0, (pt gx0 0)), (1, .string x1), (2, Sl Ax2 x2 cx2)] fun junk => ?_
 delta M.a4v at h
 refine Gn 7 [(6, Sl Ax2 x2 cx2), (7, .i (x2.length : Int)), (8, .bool (decide ((x2.length : Int) = 0)))] (Ys 101 B78 Jdq) ?_
 refine Gi h (fun h2 h => ?_) fun h2 h => ?_
 ·
  rw [dt h2]
  refine Gm 6 [([9, 10, 11], (pt gx0 0))] (Zr Qat [3, 4, 5] Jds) ?_
  refine Xc 154 11 12 154 ⟨gx0, 0, none⟩ (.map (some u7h)) (p0.c 0 0) ?_
  refine Gn 1 [(13, .string x1)] (Zr Qat [5] Jds) ?_
  refine Gl h fun v3 e4 h => ?_
  refine Op_.deM 154 9 12 13 0 9 60 1 x1 v3 p0 rfl u7g u7j (Goes.v0s (by kernel_rfl)) (by kernel_rfl) (by kernel_rfl) (by kernel_rfl) (kok_str (by kernel_rfl)) e4 fun w2 E5 z2 p2 f6 e7 => ?_
  refine Gn 1 [] Jds ?_
  obtain rfl := sj h
  exact Xd Tryz.f78 (.tuple #[]) ⟨_, _, rfl, z2, p2, f6⟩
 ·
  rw [df h2]
  refine Gm 6 [([14, 15, 16], (pt gx0 0))] (Zr Qaq [3, 4, 5, 6] []) ?_
  refine Xc 154 16 17 154 ⟨gx0, 0, none⟩ (.map (some u7h)) (p0.c 0 0) ?_
  refine Gn 2 [(18, .string x1), (19, Sl Ax2 x2 cx2)] (Zr Qaq [6] []) ?_
  refine Gl h fun v8 e9 h => ?_
  refine Op_.muM 154 17 18 19 0 9 60 1 x1 (Sl Ax2 x2 cx2) x2 v8 p0 rfl u7g u7j Xe (by kernel_rfl) (by kernel_rfl) (by kernel_rfl) (by kernel_rfl) (kok_str (by kernel_rfl)) ⟨_, _, rfl, fx2⟩ e9 fun w3 E10 z3 p3 f11 e12 => ?_
  refine Gn 1 [] [] ?_
  obtain rfl := sj h
  exact Xy (fn := Tryz.f78) (by kernel_rfl) (v := .tuple #[]) (by kernel_rfl) ⟨S0, E10, rfl, z3, p3, f11⟩
def Je0 := Ys 1111 B30 []
def Qay := Yq 1110 B30
def Post.z2t (gx0 : Nat) (u7h : Nat) (u7i : Nat) (r : Int × (List (List (ByteArray × (List Int))))) (v : Value) (w' : World) : Prop :=
 ∃ S' Ee1, v = .i r.1 ∧ Ext S0 w0 S' w' ∧ Hp nz wz S' w' ((some gx0, .row 158 [.map (some u7h)] 1 0) :: (none, .seg 154 Ee1) :: Lr) ∧ Pl (oMap Value.string (kSl kU)) S' w' Ee1 r.2
theorem W.z2t (u7i : Nat) (x1 : ByteArray) (x2 : Int) (u7e : List (List (ByteArray × (List Int)))) (r : Int × (List (List (ByteArray × (List Int))))) (h : M.a67 u7i x1 x2 u7e = some r) {nz wz S0 w0 Lr} (gx0 u7h u7f) (p0 : Hp nz wz S0 w0 ((some gx0, .row 158 [.map (some u7h)] 1 0) :: (none, .seg 154 u7f) :: Lr)) (u7j : Pa 154 S0 u7i u7h) (u7g : Pl (oMap Value.string (kSl kU)) S0 w0 u7f u7e) :
  Calls Tg 30 #[(pt gx0 0), .string x1, .u x2] w0 (Rets (Post.z2t nz wz S0 w0 Lr gx0 u7h u7i r)) := by
 refine Zf Tryz.f30 B30 28 ?_
 refine Gj 31 [(0, (pt gx0 0)), (1, .string x1), (2, .u x2)] fun junk => ?_
 delta M.a67 at h
 refine Gn 8 [(6, .i 0), (9, (pt gx0 0))] (Yt 1100 B30 [1, 2] (Ys 1101 B30 (Ys 111 B30 []))) ?_
 refine Gb h fun y2 e3 h => ?_
 refine Gc (kc 76 [9] #[62]) 10 4 76 _ (W.z24 u7i y2 e3 _ _ p0 u7j) ?_
 rintro _ w2 ⟨S2, rfl, z2, p2⟩
 refine Gm 10 [([11], .bool (!true)), ([13, 14, 15, 16], (pt gx0 0))] (Zr Qay [4, 5, 6, 7, 8, 9, 10, 11, 12, 13] Je0) ?_
 refine Xc 154 16 17 154 ⟨gx0, 0, none⟩ (.map (some u7h)) (p2.c 0 0) ?_
 refine Gn 1 [(18, .string x1)] (Zr Qay [6, 7, 8, 9, 10, 11, 12, 13] Je0) ?_
 refine Gl h fun v4 e5 h => ?_
 refine Op_.lkM 154 17 18 19 60 9 60 1 (Sn) ([] : List Int) x1 v4 p2 rfl (u7g.ext z2) (u7j.ext z2) Xa (by kernel_rfl) (by kernel_rfl) (by kernel_rfl) (kok_str (by kernel_rfl)) (by kernel_rfl) ⟨none, 0, rfl, Xr⟩ e5 fun v6 f7 => ?_
 obtain ⟨A8, c9, rfl, f10⟩ := one_sl f7
 refine Gn 1 [(20, .u x2)] (Zr Qay [8, 9, 10, 11, 12, 13] Je0) ?_
 refine Gb h fun y11 e12 h => ?_
 refine Gc (kc 77 [19, 20] #[60, 22]) 21 72 77 _ (W.z2r v4 x2 y11 e12 _ _ _ p2 f10 rfl) ?_
 rintro _ w3 ⟨S3, ubr, ubs, ubt, ubu, rfl, z3, p3, ubv, rfl⟩
 refine Gm 13 [([12], .tuple #[Sl (Gp ubr) y11.1 ubt, .i y11.2]), ([22, 7, 28], Sl (Gp ubr) y11.1 ubt), ([23, 8], .i y11.2), ([24, 25, 26], (pt gx0 0)), ([27], .string x1)] (Yt 11110 B30 [5] (Ys 11111 B30 [])) ?_
 obtain ⟨S4, z4, p4, f14⟩ := p3.freezeRd 0 rfl ubv (by decide)
 have p4 := (p4.fr 2).fr 2
 refine Gb h fun y15 e16 h => ?_
 refine Gc (kc 78 [26, 27, 28] #[156, 9, 60]) 29 0 78 _ (W.z2s u7i x1 y11.1 u7e y15 e16 _ _ _ _ _ _ p4 (u7j.ext ((z2.t z3).t z4)) f14 rfl (u7g.ext ((z2.t z3).t z4))) ?_
 rintro _ w5 ⟨S5, ubw, rfl, z5, p5, ubx⟩
 have p5 := p5.dp 2
 refine Gm 6 [([30, 6], .i y11.2)] (Ys 111111 B30 []) ?_
 obtain rfl := sj h
 exact Xd Tryz.f30 (.i y11.2) ⟨_, _, rfl, (((z2.t z3).t z4).t z5), p5, ubx⟩
def Qb3 := Yq 110100 B80
def Je9 := Zl Qb3 (Zb 0 (Ys 111 B80 []))
def Jea := Zc Qb3 Je9
def Jec := Ys 11010001 B80 (Ys 1101001 B80 Je9)
def Jef := Zb 1 (Ys 11010011 B80 Je9)
def Jeg := Ys 1101001001 B80 Jef
def Qb9 := Yq 1101001000 B80
def Jek := Ys 110100100101 B80 Jef
def Qbb := Yq 110100100100 B80
def Post.z2u (gx0 : Nat) (uby : Option Nat) (ubz : Nat) (uc0 : Nat) (uc1 : List Value) (uc2 : List T165) (r : List Int) (v : Value) (w' : World) : Prop :=
 ∃ S' Gq nq cq csq, v = .slice (Gp Gq) nq cq ∧ Ext S0 w0 S' w' ∧ Hp nz wz S' w' ((Gq, .row 22 csq (cq * kU.size) 0) :: (some gx0, .row 67 [.slice (Gp uby) ubz uc0] 1 0) :: (uby, .row 166 uc1 (uc0 * kT165.size) 0) :: Lr) ∧ Els kU S' w' csq r ∧ r.length = nq
def L.z2v (gx0 : Nat) (uby : Option Nat) (ubz : Nat) (uc0 : Nat) (uc1 : List Value) : ByteArray × Int × (List T165) → (List Int) → Prop := fun ⟨x1, x5, uc2⟩ r => ∀ S1 w1, Ext S0 w0 S1 w1 → ∀ (_ : Hp nz wz S1 w1 ((some gx0, .row 67 [.slice (Gp uby) ubz uc0] 1 0) :: (uby, .row 166 uc1 (uc0 * kT165.size) 0) :: Lr)) (_ : Els kT165 S1 w1 uc1 uc2) (_ : uc2.length = ubz) (junk : Nat → Value),
 Goes Tg (base 80) Jea ⟨lfr 35 [(0, (pt gx0 0)), (1, .string x1), (5, .i x5)] junk, []⟩ w1 (Done Tg 80 (Rets (Post.z2u nz wz S0 w0 Lr gx0 uby ubz uc0 uc1 uc2 r)))
theorem W.z2v {nz wz S0 w0 Lr} (gx0 : Nat) (uby : Option Nat) (ubz : Nat) (uc0 : Nat) (uc1 : List Value) : ∀ a r, M.a3p a = some r → (L.z2v nz wz S0 w0 Lr gx0 uby ubz uc0 uc1) a r := by
 refine M.a3p.partial_correctness (motive := (L.z2v nz wz S0 w0 Lr gx0 uby ubz uc0 uc1)) ?_
 intro uc3 uc4 ⟨x1, x5, uc2⟩ r h S1 w1 hx p1 fs0 ls0 junk
 try dsimp only at h
 subst ls0
 refine Gm 7 [([6], .i x5), ([7, 8, 9], (pt gx0 0))] (Yt 11010000 B80 [4, 5, 6] Jec) ?_
 refine Xc 65 9 10 65 ⟨gx0, 0, none⟩ (Sl (Gp uby) uc2 uc0) (p1.c 0 0) ?_
 refine Gn 3 [(11, .i (uc2.length : Int)), (12, .bool (decide (x5 < (uc2.length : Int))))] Jec ?_
 refine Gi h (fun h3 h => ?_) fun h3 h => ?_
 ·
  rw [dt h3]
  refine Gm 9 [([15, 16, 17], (pt gx0 0))] (Zr Qb9 [3, 4, 5, 6, 7, 8, 9] Jeg) ?_
  refine Xc 65 17 18 65 ⟨gx0, 0, none⟩ (Sl (Gp uby) uc2 uc0) (p1.c 0 0) ?_
  refine Gn 1 [(19, .i x5)] (Zr Qb9 [5, 6, 7, 8, 9] Jeg) ?_
  refine Gg h fun g4 h => ?_
  refine X0 65 18 19 20 0 166 .i64 x5 1 uc2.length uc0 (gi uc2 x5) rfl rfl p1 rfl fs0 Xa (by kernel_rfl) (by kernel_rfl) (by kernel_rfl) (by kernel_rfl) (by decide) g4 h3 ?_
  rintro b5 _ rfl q7 f6
  obtain ⟨_, _, rfl, rfl, ⟨A8, c9, rfl, f10⟩⟩ := q7
  refine Gn 1 [(21, .pointer (some (Addr.add ⟨b5, (x5 : Int).toNat * kT165.size, none⟩ 0)))] (Zr Qb9 [7, 8, 9] Jeg) ?_
  refine Xc 9 21 22 9 (Addr.add ⟨b5, (x5 : Int).toNat * kT165.size, none⟩ 0) (.string ((gi uc2 x5).Key)) ((hc_part (us := []) (vs := [.string ((gi uc2 x5).Key)]) (ws := [.slice A8 (((gi uc2 x5).L).length) c9]) f6) 0 _ rfl) ?_
  refine Gn 3 [(23, .string x1), (24, .bool (((gi uc2 x5).Key).toList == x1.toList))] Jeg ?_
  refine Gi h (fun h12 h => ?_) fun h12 h => ?_
  ·
   rw [h12]
   refine Gn 3 [] (Zr Qbb [0, 1, 2, 3, 4, 5, 6, 7, 8, 9, 10] Jek) ?_
   have f14 : Els kU S1 w1 ([] : List Value) ([] : List Int) := by exact Els.nil
   refine Om (.buildSlice 60 0 #[]) 25 60 (fun b => .slice (Gp (some b)) 0 0) 22 ([] : List Value) (0 * kU.size) p1 Xa fun b13 w2 z2 p2 => ?_
   refine Gm 3 [([26, 27, 28], (pt gx0 0))] (Zr Qbb [4, 5, 6, 7, 8, 9, 10] Jek) ?_
   refine Xc 65 28 29 65 ⟨gx0, 0, none⟩ (.slice (Gp (some b5)) uc2.length uc0) (p2.c 1 0) ?_
   refine Gn 1 [(30, .i x5)] (Zr Qbb [6, 7, 8, 9, 10] Jek) ?_
   refine X0 65 29 30 31 0 166 .i64 x5 2 uc2.length uc0 (gi uc2 x5) rfl rfl p2 rfl (fs0.ext z2) Xa (by kernel_rfl) (by kernel_rfl) (by kernel_rfl) (by kernel_rfl) (by decide) g4 h3 ?_
   rintro b16 _ e22 q18 f17
   injection e22 with uc5; subst uc5
   obtain ⟨_, _, rfl, rfl, ⟨A19, c20, rfl, f21⟩⟩ := q18
   refine Gn 1 [(32, .pointer (some (Addr.add ⟨b5, (x5 : Int).toNat * kT165.size, none⟩ 1)))] (Zr Qbb [8, 9, 10] Jek) ?_
   refine Xc 60 32 33 60 (Addr.add ⟨b5, (x5 : Int).toNat * kT165.size, none⟩ 1) (.slice A19 (((gi uc2 x5).L).length) c20) ((hc_part (us := [.string ((gi uc2 x5).Key)]) (vs := [.slice A19 (((gi uc2 x5).L).length) c20]) (ws := []) f17) 0 _ rfl) ?_
   obtain ⟨uc6, f24, f25⟩ := src_rd f21
   refine Gg h fun g26 h => ?_
   refine On (K := kU) 60 25 33 34 60 22 0 (.u 0) 8 0 0 (((gi uc2 x5).L).length) ([] : List Int) ((gi uc2 x5).L) ((gi uc2 x5).L) A19 c20 rfl rfl (List.nil_append _) p2 rfl (f14.ext z2) Xa f24 f25 g26 fun w3 G27 c28 uc7 z3 p3 f30 => ?_
   refine Gn 2 [(4, .slice (Gp G27) (((gi uc2 x5).L).length) c28)] Jek ?_
   obtain rfl := sj h
   exact Xd Tryz.f80 (.slice (Gp G27) (((gi uc2 x5).L).length) c28) ⟨_, _, _, _, _, rfl, ((hx.t z2).t z3), p3, f30, rfl⟩
  ·
   rw [bf h12]
   refine Gm 9 [([13], .i x5), ([14, 5], .i (wr .i64 (x5 + 1)))] Jea ?_
   exact Gj 35 [(0, (pt gx0 0)), (1, .string x1), (5, .i (wr .i64 (x5 + 1)))] (uc4 _ _ h _ _ hx p1 fs0 rfl)
 ·
  rw [df h3]
  refine Gn 6 [(4, Sn)] (Ys 1111 B80 []) ?_
  have p1 : Hp nz wz S1 w1 ((none, .row 22 [] (0 * kU.size) 0) :: (some gx0, .row 67 [Sl (Gp uby) uc2 uc0] 1 0) :: (uby, .row 166 uc1 (uc0 * kT165.size) 0) :: Lr) := p1.nilRow' 22
  obtain rfl := sj h
  exact Xd Tryz.f80 (.slice (Gp none) 0 0) ⟨_, _, _, _, _, rfl, hx, p1, (Els.nil (K := kU)), rfl⟩
theorem W.z2u (uc2 : List T165) (x1 : ByteArray) (r : List Int) (h : M.a68 uc2 x1 = some r) {nz wz S0 w0 Lr} (gx0 uby ubz uc0 uc1) (p0 : Hp nz wz S0 w0 ((some gx0, .row 67 [.slice (Gp uby) ubz uc0] 1 0) :: (uby, .row 166 uc1 (uc0 * kT165.size) 0) :: Lr)) (uc8 : Els kT165 S0 w0 uc1 uc2) (uc9 : uc2.length = ubz) :
  Calls Tg 80 #[(pt gx0 0), .string x1] w0 (Rets (Post.z2u nz wz S0 w0 Lr gx0 uby ubz uc0 uc1 uc2 r)) := by
 subst uc9
 refine Zf Tryz.f80 B80 33 ?_
 refine Gj 35 [(0, (pt gx0 0)), (1, .string x1)] fun junk => ?_
 delta M.a68 at h
 refine Gn 11 [(4, Sn), (5, .i 0)] Jea ?_
 exact Gj 35 [(0, (pt gx0 0)), (1, .string x1), (5, .i 0)] (W.z2v gx0 uby uc2.length uc0 uc1 _ _ h _ _ (Xj S0 w0) p0 uc8 rfl)
def Qbe := Yq 110100 B85
def Jes := Zl Qbe (Zb 0 (Ys 111 B85 []))
def Jet := Zc Qbe Jes
def Jex := Zb 1 (Ys 11010011 B85 Jes)
def Post.z2w (r : Int) (v : Value) (w' : World) : Prop :=
 ∃ S', v = .i r ∧ Ext S0 w0 S' w' ∧ Hp nz wz S' w' (Lr)
def L.z2x : (List Int) × Int → Int → Prop := fun ⟨x0, x3⟩ r => ∀ S1 w1, Ext S0 w0 S1 w1 → ∀ Ax0 nx0 cx0 (_ : Hp nz wz S1 w1 (Lr)) (_ : Rd kU S1 w1 Ax0 cx0 x0) (_ : x0.length = nx0) (junk : Nat → Value),
 Goes Tg (base 85) Jet ⟨lfr 20 [(0, .slice Ax0 nx0 cx0), (3, .i x3)] junk, []⟩ w1 (Done Tg 85 (Rets (Post.z2w nz wz S0 w0 Lr r)))
theorem W.z2x {nz wz S0 w0 Lr} : ∀ a r, M.a3q a = some r → (L.z2x nz wz S0 w0 Lr) a r := by
 refine M.a3q.partial_correctness (motive := (L.z2x nz wz S0 w0 Lr)) ?_
 intro uca ucb ⟨x0, x3⟩ r h S1 w1 hx Ax0 nx0 cx0 p1 fx0 lx0 junk
 try dsimp only at h
 subst lx0
 refine Gn 8 [(4, .i x3), (5, Sl Ax0 x0 cx0), (6, .i (x0.length : Int)), (7, .bool (decide (x3 < (x0.length : Int))))] (Ys 11010001 B85 (Ys 1101001 B85 Jes)) ?_
 refine Gi h (fun h1 h => ?_) fun h1 h => ?_
 ·
  rw [dt h1]
  refine Gn 5 [] (Ys 1101001000 B85 (Ys 1101001001 B85 Jex)) ?_
  have z2 : Ext S1 w1 S1 (w1).drew := Xk
  have p2 := p1.draw
  refine Gd [] (Fc S1 (w1).drew []) 4 10 ?_
  generalize (w1).drew = w2 at z2 p2 ⊢
  refine Xb 0 (.move 0) 10 60 (Sl Ax0 x0 cx0) Fc0 ?_
  refine Xb 1 (.move 3) 11 3 (.i x3) Fc0 ?_
  refine Xb 2 (.binOp .sub 3 11 (.const (.int .i64 1)) 3) 12 3 (.i (wr .i64 (x3 - 1))) Fc0 ?_
  refine Gg h fun g2 h => ?_
  refine Gg h fun g3 h => ?_
  refine Xn (i := 3) 60 10 12 13 0 22 .i64 (wr .i64 (x3 - 1)) (gi x0 (wr .i64 (x3 - 1))) rfl rfl (fx0.ext z2) (by kernel_rfl) (by kernel_rfl) Fc0 (by kernel_rfl) (by kernel_rfl) (by kernel_rfl) (by kernel_rfl) g2 g3 fun a4 _ f5 q6 => ?_
  obtain rfl := q6
  refine Al 4 22 13 14 22 a4 (.u (gi x0 (wr .i64 (x3 - 1)))) Fc0 (fun _ h => f5.fc h 0 _ rfl) ?_
  refine Xb 5 (.move 0) 15 60 (Sl Ax0 x0 cx0) Fc0 ?_
  refine Xb 6 (.move 3) 16 3 (.i x3) Fc0 ?_
  refine Gg h fun g7 h => ?_
  refine Xn (i := 7) 60 15 16 17 0 22 .i64 x3 (gi x0 x3) rfl rfl (fx0.ext z2) (by kernel_rfl) (by kernel_rfl) Fc0 (by kernel_rfl) (by kernel_rfl) (by kernel_rfl) (by kernel_rfl) g7 h1 fun a8 _ f9 q10 => ?_
  obtain rfl := q10
  refine Al 8 22 17 18 22 a8 (.u (gi x0 x3)) Fc0 (fun _ h => f9.fc h 0 _ rfl) ?_
  refine Xb 9 (.binOp .geq 22 14 18 22) 19 4 (.bool (decide (gi x0 (wr .i64 (x3 - 1)) ≥ gi x0 x3))) Fc0 ?_
  refine Ad ?_
  refine Gi h (fun h11 h => ?_) fun h11 h => ?_
  ·
   rw [dt h11]
   refine Gn 5 [(2, .i 2)] (Ys 110100100101 B85 Jex) ?_
   obtain rfl := sj h
   exact Xd Tryz.f85 (.i 2) ⟨_, rfl, (hx.t z2), p2⟩
  ·
   rw [df h11]
   refine Gm 9 [([8], .i x3), ([9, 3], .i (wr .i64 (x3 + 1)))] Jet ?_
   exact Gj 20 [(0, Sl Ax0 x0 cx0), (3, .i (wr .i64 (x3 + 1)))] (ucb _ _ h _ _ (hx.t z2) _ _ _ p2 (fx0.ext z2) rfl)
 ·
  rw [df h1]
  refine Gn 6 [(2, .i 0)] (Ys 1111 B85 []) ?_
  obtain rfl := sj h
  exact Xd Tryz.f85 (.i 0) ⟨_, rfl, hx, p1⟩
theorem W.z2w (x0 : List Int) (r : Int) (h : M.a3r x0 = some r) {nz wz S0 w0 Lr} (Ax0 nx0 cx0) (p0 : Hp nz wz S0 w0 (Lr)) (fx0 : Rd kU S0 w0 Ax0 cx0 x0) (lx0 : x0.length = nx0) :
  Calls Tg 85 #[.slice Ax0 nx0 cx0] w0 (Rets (Post.z2w nz wz S0 w0 Lr r)) := by
 subst lx0
 refine Zf Tryz.f85 B85 19 ?_
 refine Gj 20 [(0, Sl Ax0 x0 cx0)] fun junk => ?_
 delta M.a3r at h
 refine Gn 11 [(2, .i 0), (3, .i 1)] Jet ?_
 exact Gj 20 [(0, Sl Ax0 x0 cx0), (3, .i 1)] (W.z2x _ _ h _ _ (Xj S0 w0) _ _ _ p0 fx0 rfl)
def Qbn := Yq 111110100 B79
def Jf4 := Zl Qbn (Zb 0 (Ys 111111 B79 []))
def Jf5 := Zc Qbn Jf4
def Jf7 := Zb 1 (Ys 11111010011 B79 Jf4)
def Jf8 := Ys 1111101001001 B79 Jf7
def Jf9 := Ys 11111010010001 B79 Jf8
def Qbt := Yq 11111010010000 B79
def Jfe := Ys 1111111 B79 []
def Jfg := Ys 11111111 B79 []
def Jfk := Ys 11111010010011 B79 Jf7
def Post.z2y (r : (List Int) × Int) (v : Value) (w' : World) : Prop :=
 ∃ S' uay uaz ub0 ub1, v = .tuple #[.slice (Gp uay) uaz ub0, .i r.2] ∧ Ext S0 w0 S' w' ∧ Hp nz wz S' w' ((uay, .row 22 ub1 (ub0 * kU.size) 0) :: Lr) ∧ Els kU S' w' ub1 r.1 ∧ r.1.length = uaz
def L.z2z : (List Int) × Int × (List Int) × Bool × Int → ((List Int) × Int) → Prop := fun ⟨x0, x1, x6, x7, x8⟩ r => ∀ S1 w1, Ext S0 w0 S1 w1 → ∀ Ax0 nx0 cx0 Gx6 nx6 cx6 ucc (_ : Hp nz wz S1 w1 ((Gx6, .row 22 ucc (cx6 * kU.size) 0) :: Lr)) (_ : Rd kU S1 w1 Ax0 cx0 x0) (_ : x0.length = nx0) (_ : Els kU S1 w1 ucc x6) (_ : x6.length = nx6) (junk : Nat → Value),
 Goes Tg (base 79) Jf5 ⟨lfr 53 [(0, .slice Ax0 nx0 cx0), (1, .u x1), (6, .slice (Gp Gx6) nx6 cx6), (7, .bool x7), (8, .i x8)] junk, []⟩ w1 (Done Tg 79 (Rets (Post.z2y nz wz S0 w0 Lr r)))
def L.z30 : (List Int) × Int × (List Int) × Bool × Int × Bool → ((List Int) × Int) → Prop := fun ⟨x0, x1, x6, x7, x8, x28⟩ r => ∀ S1 w1, Ext S0 w0 S1 w1 → ∀ Ax0 nx0 cx0 Gx6 nx6 cx6 ucc (_ : Hp nz wz S1 w1 ((Gx6, .row 22 ucc (cx6 * kU.size) 0) :: Lr)) (_ : Rd kU S1 w1 Ax0 cx0 x0) (_ : x0.length = nx0) (_ : Els kU S1 w1 ucc x6) (_ : x6.length = nx6) (junk : Nat → Value),
 Goes Tg (base 79) Jf9 ⟨lfr 53 [(0, .slice Ax0 nx0 cx0), (1, .u x1), (6, .slice (Gp Gx6) nx6 cx6), (7, .bool x7), (8, .i x8), (28, .bool x28)] junk, []⟩ w1 (Done Tg 79 (Rets (Post.z2y nz wz S0 w0 Lr r)))
def L.z31 : (List Int) × Int × (List Int) × Bool × Int → ((List Int) × Int) → Prop := fun ⟨x0, x1, x6, x7, x8⟩ r => ∀ S1 w1, Ext S0 w0 S1 w1 → ∀ Ax0 nx0 cx0 Gx6 nx6 cx6 ucc (_ : Hp nz wz S1 w1 ((Gx6, .row 22 ucc (cx6 * kU.size) 0) :: Lr)) (_ : Rd kU S1 w1 Ax0 cx0 x0) (_ : x0.length = nx0) (_ : Els kU S1 w1 ucc x6) (_ : x6.length = nx6) (junk : Nat → Value),
 Goes Tg (base 79) Jf8 ⟨lfr 53 [(0, .slice Ax0 nx0 cx0), (1, .u x1), (6, .slice (Gp Gx6) nx6 cx6), (7, .bool x7), (8, .i x8)] junk, []⟩ w1 (Done Tg 79 (Rets (Post.z2y nz wz S0 w0 Lr r)))
def L.z32 : (List Int) × Int × (List Int) × Bool × Int → ((List Int) × Int) → Prop := fun ⟨x0, x1, x6, x7, x8⟩ r => ∀ S1 w1, Ext S0 w0 S1 w1 → ∀ Ax0 nx0 cx0 Gx6 nx6 cx6 ucc (_ : Hp nz wz S1 w1 ((Gx6, .row 22 ucc (cx6 * kU.size) 0) :: Lr)) (_ : Rd kU S1 w1 Ax0 cx0 x0) (_ : x0.length = nx0) (_ : Els kU S1 w1 ucc x6) (_ : x6.length = nx6) (junk : Nat → Value),
 Goes Tg (base 79) Jf7 ⟨lfr 53 [(0, .slice Ax0 nx0 cx0), (1, .u x1), (6, .slice (Gp Gx6) nx6 cx6), (7, .bool x7), (8, .i x8)] junk, []⟩ w1 (Done Tg 79 (Rets (Post.z2y nz wz S0 w0 Lr r)))
theorem W.z33 {nz wz S0 w0 Lr} : (∀ a r, M.a29 a = some r → (L.z2z nz wz S0 w0 Lr) a r) ∧ (∀ a r, M.a4w a = some r → (L.z30 nz wz S0 w0 Lr) a r) ∧ (∀ a r, M.a4x a = some r → (L.z31 nz wz S0 w0 Lr) a r) ∧ (∀ a r, M.a4y a = some r → (L.z32 nz wz S0 w0 Lr) a r) := by
 refine M.a29.mutual_partial_correctness (L.z2z nz wz S0 w0 Lr) (L.z30 nz wz S0 w0 Lr) (L.z31 nz wz S0 w0 Lr) (L.z32 nz wz S0 w0 Lr) ?_ ?_ ?_ ?_
 ·
  intro ucd uce ⟨x0, x1, x6, x7, x8⟩ r h S1 w1 hx Ax0 nx0 cx0 Gx6 nx6 cx6 ucc p1 fx0 lx0 fx6 lx6 junk
  try dsimp only at h
  subst lx0
  subst lx6
  refine Gn 8 [(13, .i x8), (14, Sl Ax0 x0 cx0), (15, .i (x0.length : Int)), (16, .bool (decide (x8 < (x0.length : Int))))] (Ys 11111010001 B79 (Ys 1111101001 B79 Jf4)) ?_
  refine Gi h (fun h9 h => ?_) fun h9 h => ?_
  ·
   rw [dt h9]
   refine Gm 10 [([19], .bool x7), ([20, 21], .bool (!x7))] (Zr Qbt [3, 4, 5, 6, 7, 8, 9] Jf9) ?_
   refine Gi h (fun h10 h => ?_) fun h10 h => ?_
   ·
    rw [h10]
    refine Gm 8 [([22, 23, 24, 25, 26, 27], undef), ([28], .bool false)] Jf9 ?_
    exact Gj 53 [(0, Sl Ax0 x0 cx0), (1, .u x1), (6, Sl (Gp Gx6) x6 cx6), (7, .bool true), (8, .i x8), (28, .bool false)] (uce _ _ h _ _ hx _ _ _ _ _ _ _ p1 fx0 rfl fx6 rfl)
   ·
    rw [bf h10]
    refine Gn 2 [(22, Sl Ax0 x0 cx0), (23, .i x8)] (Zr Qbt [5, 6, 7, 8, 9] Jf9) ?_
    refine Gg h fun g12 h => ?_
    refine Oi 60 22 23 24 0 22 .i64 x8 (gi x0 x8) rfl rfl fx0 Xa g12 h9 fun a13 _ f14 q15 => ?_
    obtain rfl := q15
    refine Xc 22 24 25 22 a13 (.u (gi x0 x8)) (f14.cell 0 _ rfl) ?_
    refine Gm 4 [([26], .u x1), ([27, 28], .bool (decide (gi x0 x8 ≥ x1)))] Jf9 ?_
    exact Gj 53 [(0, Sl Ax0 x0 cx0), (1, .u x1), (6, Sl (Gp Gx6) x6 cx6), (7, .bool false), (8, .i x8), (28, .bool (decide (gi x0 x8 ≥ x1)))] (uce _ _ h _ _ hx _ _ _ _ _ _ _ p1 fx0 rfl fx6 rfl)
  ·
   rw [df h9]
   refine Gn 8 [(46, .bool x7), (47, .bool (!x7))] (Ys 11111101 B79 Jfe) ?_
   refine Gi h (fun h16 h => ?_) fun h16 h => ?_
   ·
    rw [h16]
    refine Gm 8 [([52, 4], Sl (Gp Gx6) x6 cx6), ([5], .i 0)] Jfg ?_
    obtain rfl := sj h
    exact Xd Tryz.f79 (.tuple #[Sl (Gp Gx6) x6 cx6, .i 0]) ⟨_, _, _, _, _, rfl, hx, p1, fx6, rfl⟩
   ·
    rw [bf h16]
    refine Gn 4 [(48, Sl (Gp Gx6) x6 cx6), (49, .u x1)] (Yt 111111010 B79 [2, 3, 4] Jfe) ?_
    have f18 : Els kU S1 w1 ([.u x1] : List Value) [x1] := by exact (Els.cons (K := kU) (vs := [.u x1]) (x := x1) rfl Els.nil)
    refine Om (.buildSlice 60 1 #[(0, 49)]) 50 60 (fun b => .slice (Gp (some b)) 1 1) 22 ([.u x1] : List Value) (1 * kU.size) p1 Xa fun b17 w4 z4 p4 => ?_
    refine Gg h fun g23 h => ?_
    refine On (K := kU) 60 48 50 51 60 22 1 (.u 0) 8 x6.length cx6 1 x6 [x1] (x6 ++ [x1]) (Gp (some b17)) 1 rfl rfl rfl p4 rfl (fx6.ext z4) Xa (f18.ext z4) (src_own p4 (q := 0) rfl) g23 fun w5 G24 c25 ucf z5 p5 f27 => ?_
    refine Gm 8 [([6, 52, 4], .slice (Gp G24) ((x6 ++ [x1]).length) c25), ([5], .i 0)] Jfg ?_
    obtain rfl := sj h
    have p5 := p5.dp 0
    exact Xd Tryz.f79 (.tuple #[.slice (Gp G24) ((x6 ++ [x1]).length) c25, .i 0]) ⟨_, _, _, _, _, rfl, ((hx.t z4).t z5), p5, f27, rfl⟩
 ·
  intro ucg uch ⟨x0, x1, x6, x7, x8, x28⟩ r h S1 w1 hx Ax0 nx0 cx0 Gx6 nx6 cx6 ucc p1 fx0 lx0 fx6 lx6 junk
  try dsimp only at h
  subst lx0
  subst lx6
  refine Gi h (fun h28 h => ?_) fun h28 h => ?_
  ·
   rw [h28]
   refine Gn 5 [(29, Sl (Gp Gx6) x6 cx6), (30, .u x1)] (Yt 1111101001000100 B79 [2, 3, 4] (Ys 1111101001000101 B79 Jf8)) ?_
   have f30 : Els kU S1 w1 ([.u x1] : List Value) [x1] := by exact (Els.cons (K := kU) (vs := [.u x1]) (x := x1) rfl Els.nil)
   refine Om (.buildSlice 60 1 #[(0, 30)]) 31 60 (fun b => .slice (Gp (some b)) 1 1) 22 ([.u x1] : List Value) (1 * kU.size) p1 Xa fun b29 w6 z6 p6 => ?_
   refine Gg h fun g35 h => ?_
   refine On (K := kU) 60 29 31 32 60 22 1 (.u 0) 8 x6.length cx6 1 x6 [x1] (x6 ++ [x1]) (Gp (some b29)) 1 rfl rfl rfl p6 rfl (fx6.ext z6) Xa (f30.ext z6) (src_own p6 (q := 0) rfl) g35 fun w7 G36 c37 uci z7 p7 f39 => ?_
   refine Gn 5 [(6, .slice (Gp G36) ((x6 ++ [x1]).length) c37), (7, .bool true)] Jf8 ?_
   have p7 := p7.dp 0
   exact Gj 53 [(0, Sl Ax0 x0 cx0), (1, .u x1), (6, .slice (Gp G36) ((x6 ++ [x1]).length) c37), (7, .bool true), (8, .i x8)] (uch _ _ h _ _ ((hx.t z6).t z7) _ _ _ _ _ _ _ p7 (fx0.ext (z6.t z7)) rfl f39 rfl)
  ·
   rw [bf h28]
   refine Gn 2 [] Jf8 ?_
   exact Gj 53 [(0, Sl Ax0 x0 cx0), (1, .u x1), (6, Sl (Gp Gx6) x6 cx6), (7, .bool x7), (8, .i x8)] (uch _ _ h _ _ hx _ _ _ _ _ _ _ p1 fx0 rfl fx6 rfl)
 ·
  intro uck ucl ⟨x0, x1, x6, x7, x8⟩ r h S1 w1 hx Ax0 nx0 cx0 Gx6 nx6 cx6 ucc p1 fx0 lx0 fx6 lx6 junk
  try dsimp only at h
  subst lx0
  subst lx6
  refine Gn 4 [(33, Sl Ax0 x0 cx0), (34, .i x8)] (Yt 11111010010010 B79 [2, 3, 4, 5] Jfk) ?_
  refine Gg h fun g41 h => ?_
  refine Gg h fun g42 h => ?_
  refine Oi 60 33 34 35 0 22 .i64 x8 (gi x0 x8) rfl rfl fx0 Xa g41 g42 fun a43 _ f44 q45 => ?_
  obtain rfl := q45
  refine Xc 22 35 36 22 a43 (.u (gi x0 x8)) (f44.cell 0 _ rfl) ?_
  refine Gn 3 [(37, .u x1), (38, .bool (!(decide (gi x0 x8 = x1))))] Jfk ?_
  refine Gi h (fun h46 h => ?_) fun h46 h => ?_
  ·
   rw [dt h46]
   refine Gn 2 [] Jf7 ?_
   exact Gj 53 [(0, Sl Ax0 x0 cx0), (1, .u x1), (6, Sl (Gp Gx6) x6 cx6), (7, .bool x7), (8, .i x8)] (ucl _ _ h _ _ hx _ _ _ _ _ _ _ p1 fx0 rfl fx6 rfl)
  ·
   rw [df h46]
   refine Gn 5 [(39, Sl (Gp Gx6) x6 cx6), (40, Sl Ax0 x0 cx0), (41, .i x8)] (Yt 111110100100110 B79 [3, 4, 5, 6, 7] Jf7) ?_
   refine Oi 60 40 41 42 0 22 .i64 x8 (gi x0 x8) rfl rfl fx0 Xa g41 g42 fun a48 _ f49 q50 => ?_
   obtain rfl := q50
   refine Xc 22 42 43 22 a48 (.u (gi x0 x8)) (f49.cell 0 _ rfl) ?_
   have f52 : Els kU S1 w1 ([.u (gi x0 x8)] : List Value) [gi x0 x8] := by exact (Els.cons (K := kU) (vs := [.u (gi x0 x8)]) (x := gi x0 x8) rfl Els.nil)
   refine Om (.buildSlice 60 1 #[(0, 43)]) 44 60 (fun b => .slice (Gp (some b)) 1 1) 22 ([.u (gi x0 x8)] : List Value) (1 * kU.size) p1 Xa fun b51 w8 z8 p8 => ?_
   refine Gg h fun g57 h => ?_
   refine On (K := kU) 60 39 44 45 60 22 1 (.u 0) 8 x6.length cx6 1 x6 [gi x0 x8] (x6 ++ [gi x0 x8]) (Gp (some b51)) 1 rfl rfl rfl p8 rfl (fx6.ext z8) Xa (f52.ext z8) (src_own p8 (q := 0) rfl) g57 fun w9 G58 c59 ucm z9 p9 f61 => ?_
   refine Gn 2 [(6, .slice (Gp G58) ((x6 ++ [gi x0 x8]).length) c59)] Jf7 ?_
   have p9 := p9.dp 0
   exact Gj 53 [(0, Sl Ax0 x0 cx0), (1, .u x1), (6, .slice (Gp G58) ((x6 ++ [gi x0 x8]).length) c59), (7, .bool x7), (8, .i x8)] (ucl _ _ h _ _ ((hx.t z8).t z9) _ _ _ _ _ _ _ p9 (fx0.ext (z8.t z9)) rfl f61 rfl)
 ·
  intro ucn uco ⟨x0, x1, x6, x7, x8⟩ r h S1 w1 hx Ax0 nx0 cx0 Gx6 nx6 cx6 ucc p1 fx0 lx0 fx6 lx6 junk
  try dsimp only at h
  subst lx0
  subst lx6
  refine Gm 7 [([17], .i x8), ([18, 8], .i (wr .i64 (x8 + 1)))] Jf5 ?_
  exact Gj 53 [(0, Sl Ax0 x0 cx0), (1, .u x1), (6, Sl (Gp Gx6) x6 cx6), (7, .bool x7), (8, .i (wr .i64 (x8 + 1)))] (uco _ _ h _ _ hx _ _ _ _ _ _ _ p1 fx0 rfl fx6 rfl)
theorem W.z2z {nz wz S0 w0 Lr} : ∀ a r, M.a29 a = some r → (L.z2z nz wz S0 w0 Lr) a r := (W.z33).1
theorem W.z30 {nz wz S0 w0 Lr} : ∀ a r, M.a4w a = some r → (L.z30 nz wz S0 w0 Lr) a r := (W.z33).2.1
theorem W.z31 {nz wz S0 w0 Lr} : ∀ a r, M.a4x a = some r → (L.z31 nz wz S0 w0 Lr) a r := (W.z33).2.2.1
theorem W.z32 {nz wz S0 w0 Lr} : ∀ a r, M.a4y a = some r → (L.z32 nz wz S0 w0 Lr) a r := (W.z33).2.2.2
def Jfn := Ys 111 B79 []
def Jfo := Ys 1101 B79 Jfn
theorem W.z2y (x0 : List Int) (x1 : Int) (r : (List Int) × Int) (h : M.a3s x0 x1 = some r) {nz wz S0 w0 Lr} (Ax0 nx0 cx0) (p0 : Hp nz wz S0 w0 (Lr)) (fx0 : Rd kU S0 w0 Ax0 cx0 x0) (lx0 : x0.length = nx0) :
  Calls Tg 79 #[.slice Ax0 nx0 cx0, .u x1] w0 (Rets (Post.z2y nz wz S0 w0 Lr r)) := by
 subst lx0
 refine Zf Tryz.f79 B79 51 ?_
 refine Gj 53 [(0, Sl Ax0 x0 cx0), (1, .u x1)] fun junk => ?_
 delta M.a3s at h
 refine Gn 9 [(4, Sn), (5, .i 0), (9, Sl Ax0 x0 cx0)] (Yt 1100 B79 [1, 2] Jfo) ?_
 refine Gb h fun y1 e2 h => ?_
 refine Gc (kc 85 [9] #[60]) 10 34 85 _ (W.z2w x0 y1 e2 _ _ _ p0 fx0 rfl) ?_
 rintro _ w2 ⟨S2, rfl, z2, p2⟩
 refine Gn 2 [(11, .bool (!(decide (y1 = 0))))] Jfo ?_
 refine Gi h (fun h3 h => ?_) fun h3 h => ?_
 ·
  rw [dt h3]
  refine Gn 4 [] (Yt 1110 B79 [0, 1] (Ys 1111 B79 [])) ?_
  have f5 : Els kU S2 w2 ([] : List Value) ([] : List Int) := by exact Els.nil
  refine Om (.buildSlice 60 0 #[]) 12 60 (fun b => .slice (Gp (some b)) 0 0) 22 ([] : List Value) (0 * kU.size) p2 Xa fun b4 w3 z3 p3 => ?_
  refine Gn 13 [(6, .slice (Gp (some b4)) 0 0), (7, .bool false), (8, .i 0)] Jf5 ?_
  exact Gj 53 [(0, Sl Ax0 x0 cx0), (1, .u x1), (6, .slice (Gp (some b4)) 0 0), (7, .bool false), (8, .i 0)] (W.z2z _ _ h _ _ (z2.t z3) _ _ _ (some b4) 0 0 _ p3 (fx0.ext (z2.t z3)) rfl (f5.ext z3) rfl)
 ·
  rw [df h3]
  refine Gn 6 [(4, Sn), (5, .i 2)] (Ys 110101 B79 Jfn) ?_
  have p2 : Hp nz wz S2 w2 ((none, .row 22 [] (0 * kU.size) 0) :: Lr) := p2.nilRow' 22
  obtain rfl := sj h
  exact Xd Tryz.f79 (.tuple #[.slice (Gp none) 0 0, .i 2]) ⟨_, _, _, _, _, rfl, z2, p2, (Els.nil (K := kU)), rfl⟩
def Jft := Ys 1111 B81 []
def Qca := Yq 1110100 B81
def Jfv := Zl Qca (Zb 0 Jft)
def Jfw := Zc Qca Jfv
def Jfy := Zb 1 (Ys 111010011 B81 Jfv)
def Jfz := Ys 11101001001 B81 Jfy
def Jg0 := Ys 111010010001 B81 Jfz
def Jg2 := Ys 111010001 B81 (Ys 11101001 B81 Jfv)
def Qch := Yq 111010010000 B81
def Qci := Yq 11111 B81
def Jg8 := Zc Qci []
def Jga := Zr Qci [4] []
def Jge := Ys 111010010011 B81 Jfy
def Qco := Yq 111010010010 B81
def Qcp := Yq 1110100100110 B81
def Post.z34 (gx0 : Nat) (r : List T165) (v : Value) (w' : World) : Prop :=
 ∃ S' ucp ucq ucr ucs, v = .tuple #[] ∧ Ext S0 w0 S' w' ∧ Hp nz wz S' w' ((some gx0, .row 67 [.slice (Gp ucp) ucq ucr] 1 0) :: (ucp, .row 166 ucs (ucr * kT165.size) 0) :: Lr) ∧ Els kT165 S' w' ucs r ∧ r.length = ucq
def L.z35 (gx0 : Nat) : ByteArray × (List Int) × (List T165) × Bool × Int × (List T165) → (List T165) → Prop := fun ⟨x1, x2, x6, x7, x8, u8⟩ r => ∀ S1 w1, Ext S0 w0 S1 w1 → ∀ Ax2 nx2 cx2 Gx6 nx6 cx6 ucc ucp ucq ucr ucs (_ : Hp nz wz S1 w1 ((Gx6, .row 166 ucc (cx6 * kT165.size) 0) :: (some gx0, .row 67 [.slice (Gp ucp) ucq ucr] 1 0) :: (ucp, .row 166 ucs (ucr * kT165.size) 0) :: Lr)) (_ : Rd kU S1 w1 Ax2 cx2 x2) (_ : x2.length = nx2) (_ : Els kT165 S1 w1 ucc x6) (_ : x6.length = nx6) (_ : Els kT165 S1 w1 ucs u8) (_ : u8.length = ucq) (junk : Nat → Value),
 Goes Tg (base 81) Jfw ⟨lfr 74 [(0, (pt gx0 0)), (1, .string x1), (2, .slice Ax2 nx2 cx2), (6, .slice (Gp Gx6) nx6 cx6), (7, .bool x7), (8, .i x8)] junk, []⟩ w1 (Done Tg 81 (Rets (Post.z34 nz wz S0 w0 Lr gx0 r)))
def L.z36 (gx0 : Nat) : ByteArray × (List Int) × (List T165) × Bool × Int × Bool × (List T165) → (List T165) → Prop := fun ⟨x1, x2, x6, x7, x8, x35, u8⟩ r => ∀ S1 w1, Ext S0 w0 S1 w1 → ∀ Ax2 nx2 cx2 Gx6 nx6 cx6 ucc ucp ucq ucr ucs (_ : Hp nz wz S1 w1 ((Gx6, .row 166 ucc (cx6 * kT165.size) 0) :: (some gx0, .row 67 [.slice (Gp ucp) ucq ucr] 1 0) :: (ucp, .row 166 ucs (ucr * kT165.size) 0) :: Lr)) (_ : Rd kU S1 w1 Ax2 cx2 x2) (_ : x2.length = nx2) (_ : Els kT165 S1 w1 ucc x6) (_ : x6.length = nx6) (_ : Els kT165 S1 w1 ucs u8) (_ : u8.length = ucq) (junk : Nat → Value),
 Goes Tg (base 81) Jg0 ⟨lfr 74 [(0, (pt gx0 0)), (1, .string x1), (2, .slice Ax2 nx2 cx2), (6, .slice (Gp Gx6) nx6 cx6), (7, .bool x7), (8, .i x8), (35, .bool x35)] junk, []⟩ w1 (Done Tg 81 (Rets (Post.z34 nz wz S0 w0 Lr gx0 r)))
def L.z37 (gx0 : Nat) : ByteArray × (List Int) × (List T165) × Bool × Int × (List T165) → (List T165) → Prop := fun ⟨x1, x2, x6, x7, x8, u8⟩ r => ∀ S1 w1, Ext S0 w0 S1 w1 → ∀ Ax2 nx2 cx2 Gx6 nx6 cx6 ucc ucp ucq ucr ucs (_ : Hp nz wz S1 w1 ((Gx6, .row 166 ucc (cx6 * kT165.size) 0) :: (some gx0, .row 67 [.slice (Gp ucp) ucq ucr] 1 0) :: (ucp, .row 166 ucs (ucr * kT165.size) 0) :: Lr)) (_ : Rd kU S1 w1 Ax2 cx2 x2) (_ : x2.length = nx2) (_ : Els kT165 S1 w1 ucc x6) (_ : x6.length = nx6) (_ : Els kT165 S1 w1 ucs u8) (_ : u8.length = ucq) (junk : Nat → Value),
 Goes Tg (base 81) Jfz ⟨lfr 74 [(0, (pt gx0 0)), (1, .string x1), (2, .slice Ax2 nx2 cx2), (6, .slice (Gp Gx6) nx6 cx6), (7, .bool x7), (8, .i x8)] junk, []⟩ w1 (Done Tg 81 (Rets (Post.z34 nz wz S0 w0 Lr gx0 r)))
def L.z38 (gx0 : Nat) : ByteArray × (List Int) × (List T165) × Bool × Int × (List T165) → (List T165) → Prop := fun ⟨x1, x2, x6, x7, x8, u8⟩ r => ∀ S1 w1, Ext S0 w0 S1 w1 → ∀ Ax2 nx2 cx2 Gx6 nx6 cx6 ucc ucp ucq ucr ucs (_ : Hp nz wz S1 w1 ((Gx6, .row 166 ucc (cx6 * kT165.size) 0) :: (some gx0, .row 67 [.slice (Gp ucp) ucq ucr] 1 0) :: (ucp, .row 166 ucs (ucr * kT165.size) 0) :: Lr)) (_ : Rd kU S1 w1 Ax2 cx2 x2) (_ : x2.length = nx2) (_ : Els kT165 S1 w1 ucc x6) (_ : x6.length = nx6) (_ : Els kT165 S1 w1 ucs u8) (_ : u8.length = ucq) (junk : Nat → Value),
 Goes Tg (base 81) Jfy ⟨lfr 74 [(0, (pt gx0 0)), (1, .string x1), (2, .slice Ax2 nx2 cx2), (6, .slice (Gp Gx6) nx6 cx6), (7, .bool x7), (8, .i x8)] junk, []⟩ w1 (Done Tg 81 (Rets (Post.z34 nz wz S0 w0 Lr gx0 r)))
theorem W.z39 {nz wz S0 w0 Lr} (gx0 : Nat) : (∀ a r, M.a2a a = some r → (L.z35 nz wz S0 w0 Lr gx0) a r) ∧ (∀ a r, M.a3t a = some r → (L.z36 nz wz S0 w0 Lr gx0) a r) ∧ (∀ a r, M.a4z a = some r → (L.z37 nz wz S0 w0 Lr gx0) a r) ∧ (∀ a r, M.a50 a = some r → (L.z38 nz wz S0 w0 Lr gx0) a r) := by
 refine M.a2a.mutual_partial_correctness (L.z35 nz wz S0 w0 Lr gx0) (L.z36 nz wz S0 w0 Lr gx0) (L.z37 nz wz S0 w0 Lr gx0) (L.z38 nz wz S0 w0 Lr gx0) ?_ ?_ ?_ ?_
 ·
  intro uct ucu ⟨x1, x2, x6, x7, x8, u8⟩ r h S1 w1 hx Ax2 nx2 cx2 Gx6 nx6 cx6 ucc ucp ucq ucr ucs p1 fx2 lx2 fx6 lx6 ucv ucw junk
  try dsimp only at h
  subst lx2
  subst lx6
  subst ucw
  refine Gm 7 [([13], .i x8), ([14, 15, 16], (pt gx0 0))] (Yt 111010000 B81 [4, 5, 6] Jg2) ?_
  refine Xc 65 16 17 65 ⟨gx0, 0, none⟩ (Sl (Gp ucp) u8 ucr) (p1.c 1 0) ?_
  refine Gn 3 [(18, .i (u8.length : Int)), (19, .bool (decide (x8 < (u8.length : Int))))] Jg2 ?_
  refine Gi h (fun h8 h => ?_) fun h8 h => ?_
  ·
   rw [dt h8]
   refine Gm 10 [([22], .bool x7), ([23, 24], .bool (!x7))] (Zr Qch [3, 4, 5, 6, 7, 8, 9, 10, 11, 12, 13] Jg0) ?_
   refine Gi h (fun h9 h => ?_) fun h9 h => ?_
   ·
    rw [h9]
    refine Gm 12 [([25, 26, 27, 28, 29, 30, 31, 32, 33, 34], undef), ([35], .bool false)] Jg0 ?_
    exact Gj 74 [(0, (pt gx0 0)), (1, .string x1), (2, Sl Ax2 x2 cx2), (6, Sl (Gp Gx6) x6 cx6), (7, .bool true), (8, .i x8), (35, .bool false)] (ucu _ _ h _ _ hx _ _ _ _ _ _ _ _ _ _ _ p1 fx2 rfl fx6 rfl ucv rfl)
   ·
    rw [bf h9]
    refine Gm 3 [([25, 26, 27], (pt gx0 0))] (Zr Qch [6, 7, 8, 9, 10, 11, 12, 13] Jg0) ?_
    refine Xc 65 27 28 65 ⟨gx0, 0, none⟩ (Sl (Gp ucp) u8 ucr) (p1.c 1 0) ?_
    refine Gn 1 [(29, .i x8)] (Zr Qch [8, 9, 10, 11, 12, 13] Jg0) ?_
    refine Gg h fun g12 h => ?_
    refine X0 65 28 29 30 0 166 .i64 x8 2 u8.length ucr (gi u8 x8) rfl rfl p1 rfl ucv Xa (by kernel_rfl) (by kernel_rfl) (by kernel_rfl) (by kernel_rfl) (by decide) g12 h8 ?_
    rintro b13 _ rfl q15 f14
    obtain ⟨_, _, rfl, rfl, ⟨A16, c17, rfl, f18⟩⟩ := q15
    refine Gn 1 [(31, .pointer (some (Addr.add ⟨b13, (x8 : Int).toNat * kT165.size, none⟩ 0)))] (Zr Qch [10, 11, 12, 13] Jg0) ?_
    refine Xc 9 31 32 9 (Addr.add ⟨b13, (x8 : Int).toNat * kT165.size, none⟩ 0) (.string ((gi u8 x8).Key)) ((hc_part (us := []) (vs := [.string ((gi u8 x8).Key)]) (ws := [.slice A16 (((gi u8 x8).L).length) c17]) f14) 0 _ rfl) ?_
    refine Gm 4 [([33], .string x1), ([34, 35], .bool (!(Op.bytesLess ((gi u8 x8).Key).toList x1.toList)))] Jg0 ?_
    exact Gj 74 [(0, (pt gx0 0)), (1, .string x1), (2, Sl Ax2 x2 cx2), (6, Sl (Gp Gx6) x6 cx6), (7, .bool false), (8, .i x8), (35, .bool (!(Op.bytesLess ((gi u8 x8).Key).toList x1.toList)))] (ucu _ _ h _ _ hx _ _ _ _ _ _ _ (some b13) _ _ _ p1 fx2 rfl fx6 rfl ucv rfl)
  ·
   rw [df h8]
   refine Gn 8 [(62, .bool x7), (63, .bool (!x7))] (Ys 111101 B81 Jg8) ?_
   refine Gi h (fun h20 h => ?_) fun h20 h => ?_
   ·
    rw [h20]
    refine Gm 7 [([70, 72, 73], (pt gx0 0)), ([71], Sl (Gp Gx6) x6 cx6)] Jga ?_
    refine So 65 73 71 0 1 gx0 0 (Sl (Gp Gx6) x6 cx6) [Sl (Gp Gx6) x6 cx6] p1 rfl Xe fun w3 z3 p3 => ?_
    refine Gn 1 [] [] ?_
    obtain rfl := sj h
    have p3 := p3.dp 2
    have p3 := (p3.fr 0).fr 1
    exact Xy (fn := Tryz.f81) (by kernel_rfl) (v := .tuple #[]) (by kernel_rfl) ⟨S1, Gx6, x6.length, cx6, ucc, rfl, (hx.t z3), p3, (fx6.ext z3), rfl⟩
   ·
    rw [bf h20]
    refine Gn 6 [(64, Sl (Gp Gx6) x6 cx6), (65, .string x1), (66, Sl Ax2 x2 cx2), (67, .agg #[.string x1, Sl Ax2 x2 cx2])] (Yt 1111010 B81 [4, 5, 6] Jg8) ?_
    have f22 : Els kT165 S1 w1 ([.string x1, Sl Ax2 x2 cx2] : List Value) [(⟨x1, x2⟩ : T165)] := by exact (Els.cons (K := kT165) (vs := [.string x1, Sl Ax2 x2 cx2]) (x := (⟨x1, x2⟩ : T165)) ⟨[.string x1], [Sl Ax2 x2 cx2], rfl, rfl, ⟨_, _, rfl, fx2⟩⟩ Els.nil)
    refine Om (.buildSlice 65 1 #[(0, 67)]) 68 65 (fun b => .slice (Gp (some b)) 1 1) 166 ([.string x1, Sl Ax2 x2 cx2] : List Value) (1 * kT165.size) p1 Xa fun b21 w4 z4 p4 => ?_
    refine Gg h fun g27 h => ?_
    refine On (K := kT165) 65 64 68 69 65 166 1 (.agg #[.string ⟨#[]⟩, Sn]) 40 x6.length cx6 1 x6 [(⟨x1, x2⟩ : T165)] (x6 ++ [(⟨x1, x2⟩ : T165)]) (Gp (some b21)) 1 rfl rfl rfl p4 rfl (fx6.ext z4) Xa (f22.ext z4) (src_own p4 (q := 0) rfl) g27 fun w5 G28 c29 ucx z5 p5 f31 => ?_
    refine Gm 7 [([6, 71], .slice (Gp G28) ((x6 ++ [(⟨x1, x2⟩ : T165)]).length) c29), ([70, 72, 73], (pt gx0 0))] Jga ?_
    refine So 65 73 71 0 2 gx0 0 (.slice (Gp G28) ((x6 ++ [(⟨x1, x2⟩ : T165)]).length) c29) [.slice (Gp G28) ((x6 ++ [(⟨x1, x2⟩ : T165)]).length) c29] p5 rfl Xe fun w6 z6 p6 => ?_
    refine Gn 1 [] [] ?_
    obtain rfl := sj h
    have p6 := (p6.dp 0).dp 2
    have p6 := (p6.fr 0).fr 1
    exact Xy (fn := Tryz.f81) (by kernel_rfl) (v := .tuple #[]) (by kernel_rfl) ⟨S1, G28, (x6 ++ [(⟨x1, x2⟩ : T165)]).length, c29, ucx, rfl, (((hx.t z4).t z5).t z6), p6, (f31.ext z6), rfl⟩
 ·
  intro ucy ucz ⟨x1, x2, x6, x7, x8, x35, u8⟩ r h S1 w1 hx Ax2 nx2 cx2 Gx6 nx6 cx6 ucc ucp ucq ucr ucs p1 fx2 lx2 fx6 lx6 ucv ucw junk
  try dsimp only at h
  subst lx2
  subst lx6
  subst ucw
  refine Gi h (fun h32 h => ?_) fun h32 h => ?_
  ·
   rw [h32]
   refine Gn 7 [(36, Sl (Gp Gx6) x6 cx6), (37, .string x1), (38, Sl Ax2 x2 cx2), (39, .agg #[.string x1, Sl Ax2 x2 cx2])] (Yt 11101001000100 B81 [4, 5, 6] (Ys 11101001000101 B81 Jfz)) ?_
   have f34 : Els kT165 S1 w1 ([.string x1, Sl Ax2 x2 cx2] : List Value) [(⟨x1, x2⟩ : T165)] := by exact (Els.cons (K := kT165) (vs := [.string x1, Sl Ax2 x2 cx2]) (x := (⟨x1, x2⟩ : T165)) ⟨[.string x1], [Sl Ax2 x2 cx2], rfl, rfl, ⟨_, _, rfl, fx2⟩⟩ Els.nil)
   refine Om (.buildSlice 65 1 #[(0, 39)]) 40 65 (fun b => .slice (Gp (some b)) 1 1) 166 ([.string x1, Sl Ax2 x2 cx2] : List Value) (1 * kT165.size) p1 Xa fun b33 w7 z7 p7 => ?_
   refine Gg h fun g39 h => ?_
   refine On (K := kT165) 65 36 40 41 65 166 1 (.agg #[.string ⟨#[]⟩, Sn]) 40 x6.length cx6 1 x6 [(⟨x1, x2⟩ : T165)] (x6 ++ [(⟨x1, x2⟩ : T165)]) (Gp (some b33)) 1 rfl rfl rfl p7 rfl (fx6.ext z7) Xa (f34.ext z7) (src_own p7 (q := 0) rfl) g39 fun w8 G40 c41 ud0 z8 p8 f43 => ?_
   refine Gn 5 [(6, .slice (Gp G40) ((x6 ++ [(⟨x1, x2⟩ : T165)]).length) c41), (7, .bool true)] Jfz ?_
   have p8 := p8.dp 0
   exact Gj 74 [(0, (pt gx0 0)), (1, .string x1), (2, Sl Ax2 x2 cx2), (6, .slice (Gp G40) ((x6 ++ [(⟨x1, x2⟩ : T165)]).length) c41), (7, .bool true), (8, .i x8)] (ucz _ _ h _ _ ((hx.t z7).t z8) _ _ _ _ _ _ _ _ _ _ _ p8 (fx2.ext (z7.t z8)) rfl f43 rfl (ucv.ext (z7.t z8)) rfl)
  ·
   rw [bf h32]
   refine Gn 2 [] Jfz ?_
   exact Gj 74 [(0, (pt gx0 0)), (1, .string x1), (2, Sl Ax2 x2 cx2), (6, Sl (Gp Gx6) x6 cx6), (7, .bool x7), (8, .i x8)] (ucz _ _ h _ _ hx _ _ _ _ _ _ _ _ _ _ _ p1 fx2 rfl fx6 rfl ucv rfl)
 ·
  intro ud2 ud3 ⟨x1, x2, x6, x7, x8, u8⟩ r h S1 w1 hx Ax2 nx2 cx2 Gx6 nx6 cx6 ucc ucp ucq ucr ucs p1 fx2 lx2 fx6 lx6 ucv ucw junk
  try dsimp only at h
  subst lx2
  subst lx6
  subst ucw
  refine Gm 5 [([42, 43, 44], (pt gx0 0))] (Zr Qco [3, 4, 5, 6, 7, 8, 9] Jge) ?_
  refine Xc 65 44 45 65 ⟨gx0, 0, none⟩ (Sl (Gp ucp) u8 ucr) (p1.c 1 0) ?_
  refine Gn 1 [(46, .i x8)] (Zr Qco [5, 6, 7, 8, 9] Jge) ?_
  refine Gg h fun g46 h => ?_
  refine Gg h fun g47 h => ?_
  refine X0 65 45 46 47 0 166 .i64 x8 2 u8.length ucr (gi u8 x8) rfl rfl p1 rfl ucv Xa (by kernel_rfl) (by kernel_rfl) (by kernel_rfl) (by kernel_rfl) (by decide) g46 g47 ?_
  rintro b48 _ rfl q50 f49
  obtain ⟨_, _, rfl, rfl, ⟨A51, c52, rfl, f53⟩⟩ := q50
  refine Gn 1 [(48, .pointer (some (Addr.add ⟨b48, (x8 : Int).toNat * kT165.size, none⟩ 0)))] (Zr Qco [7, 8, 9] Jge) ?_
  refine Xc 9 48 49 9 (Addr.add ⟨b48, (x8 : Int).toNat * kT165.size, none⟩ 0) (.string ((gi u8 x8).Key)) ((hc_part (us := []) (vs := [.string ((gi u8 x8).Key)]) (ws := [.slice A51 (((gi u8 x8).L).length) c52]) f49) 0 _ rfl) ?_
  refine Gn 3 [(50, .string x1), (51, .bool (!(((gi u8 x8).Key).toList == x1.toList)))] Jge ?_
  refine Gi h (fun h55 h => ?_) fun h55 h => ?_
  ·
   rw [h55]
   refine Gn 2 [] Jfy ?_
   exact Gj 74 [(0, (pt gx0 0)), (1, .string x1), (2, Sl Ax2 x2 cx2), (6, Sl (Gp Gx6) x6 cx6), (7, .bool x7), (8, .i x8)] (ud3 _ _ h _ _ hx _ _ _ _ _ _ _ (some b48) _ _ _ p1 fx2 rfl fx6 rfl ucv rfl)
  ·
   rw [bf h55]
   refine Gm 6 [([52], Sl (Gp Gx6) x6 cx6), ([53, 54, 55], (pt gx0 0))] (Zr Qcp [4, 5, 6, 7, 8, 9, 10] Jfy) ?_
   refine Xc 65 55 56 65 ⟨gx0, 0, none⟩ (.slice (Gp (some b48)) u8.length ucr) (p1.c 1 0) ?_
   refine Gn 1 [(57, .i x8)] (Zr Qcp [6, 7, 8, 9, 10] Jfy) ?_
   refine X0 65 56 57 58 0 166 .i64 x8 2 u8.length ucr (gi u8 x8) rfl rfl p1 rfl ucv Xa (by kernel_rfl) (by kernel_rfl) (by kernel_rfl) (by kernel_rfl) (by decide) g46 g47 ?_
   rintro b58 _ e64 q60 f59
   injection e64 with ud5; subst ud5
   obtain ⟨_, _, rfl, rfl, ⟨A61, c62, rfl, f63⟩⟩ := q60
   refine Xg 166 58 59 166 ⟨b48, (x8 : Int).toNat * kT165.size, none⟩ ([.string ((gi u8 x8).Key)] ++ [.slice A61 (((gi u8 x8).L).length) c62]) f59 ?_
   have f66 : Els kT165 S1 w1 ((vT165 (gi u8 x8) A61 (((gi u8 x8).L).length) c62) : List Value) [gi u8 x8] := by exact (Els.cons (K := kT165) (vs := (vT165 (gi u8 x8) A61 (((gi u8 x8).L).length) c62)) (x := gi u8 x8) ⟨[.string ((gi u8 x8).Key)], [.slice A61 (((gi u8 x8).L).length) c62], rfl, rfl, ⟨_, _, rfl, f63⟩⟩ Els.nil)
   refine Om (.buildSlice 65 1 #[(0, 59)]) 60 65 (fun b => .slice (Gp (some b)) 1 1) 166 ((vT165 (gi u8 x8) A61 (((gi u8 x8).L).length) c62) : List Value) (1 * kT165.size) p1 Xa fun b65 w9 z9 p9 => ?_
   refine Gg h fun g71 h => ?_
   refine On (K := kT165) 65 52 60 61 65 166 1 (.agg #[.string ⟨#[]⟩, Sn]) 40 x6.length cx6 1 x6 [gi u8 x8] (x6 ++ [gi u8 x8]) (Gp (some b65)) 1 rfl rfl rfl p9 rfl (fx6.ext z9) Xa (f66.ext z9) (src_own p9 (q := 0) rfl) g71 fun w10 G72 c73 ud6 z10 p10 f75 => ?_
   refine Gn 2 [(6, .slice (Gp G72) ((x6 ++ [gi u8 x8]).length) c73)] Jfy ?_
   have p10 := p10.dp 0
   exact Gj 74 [(0, (pt gx0 0)), (1, .string x1), (2, Sl Ax2 x2 cx2), (6, .slice (Gp G72) ((x6 ++ [gi u8 x8]).length) c73), (7, .bool x7), (8, .i x8)] (ud3 _ _ h _ _ ((hx.t z9).t z10) _ _ _ _ _ _ _ (some b48) _ _ _ p10 (fx2.ext (z9.t z10)) rfl f75 rfl (ucv.ext (z9.t z10)) rfl)
 ·
  intro ud7 ud8 ⟨x1, x2, x6, x7, x8, u8⟩ r h S1 w1 hx Ax2 nx2 cx2 Gx6 nx6 cx6 ucc ucp ucq ucr ucs p1 fx2 lx2 fx6 lx6 ucv ucw junk
  try dsimp only at h
  subst lx2
  subst lx6
  subst ucw
  refine Gm 7 [([20], .i x8), ([21, 8], .i (wr .i64 (x8 + 1)))] Jfw ?_
  exact Gj 74 [(0, (pt gx0 0)), (1, .string x1), (2, Sl Ax2 x2 cx2), (6, Sl (Gp Gx6) x6 cx6), (7, .bool x7), (8, .i (wr .i64 (x8 + 1)))] (ud8 _ _ h _ _ hx _ _ _ _ _ _ _ _ _ _ _ p1 fx2 rfl fx6 rfl ucv rfl)
theorem W.z35 {nz wz S0 w0 Lr} (gx0 : Nat) : ∀ a r, M.a2a a = some r → (L.z35 nz wz S0 w0 Lr gx0) a r := (W.z39 gx0).1
theorem W.z36 {nz wz S0 w0 Lr} (gx0 : Nat) : ∀ a r, M.a3t a = some r → (L.z36 nz wz S0 w0 Lr gx0) a r := (W.z39 gx0).2.1
theorem W.z37 {nz wz S0 w0 Lr} (gx0 : Nat) : ∀ a r, M.a4z a = some r → (L.z37 nz wz S0 w0 Lr gx0) a r := (W.z39 gx0).2.2.1
theorem W.z38 {nz wz S0 w0 Lr} (gx0 : Nat) : ∀ a r, M.a50 a = some r → (L.z38 nz wz S0 w0 Lr gx0) a r := (W.z39 gx0).2.2.2
theorem W.z34 (uc2 : List T165) (x1 : ByteArray) (x2 : List Int) (r : List T165) (h : M.a51 uc2 x1 x2 = some r) {nz wz S0 w0 Lr} (gx0 uby ubz uc0 uc1 Ax2 nx2 cx2) (p0 : Hp nz wz S0 w0 ((some gx0, .row 67 [.slice (Gp uby) ubz uc0] 1 0) :: (uby, .row 166 uc1 (uc0 * kT165.size) 0) :: Lr)) (uc8 : Els kT165 S0 w0 uc1 uc2) (uc9 : uc2.length = ubz) (fx2 : Rd kU S0 w0 Ax2 cx2 x2) (lx2 : x2.length = nx2) :
  Calls Tg 81 #[(pt gx0 0), .string x1, .slice Ax2 nx2 cx2] w0 (Rets (Post.z34 nz wz S0 w0 Lr gx0 r)) := by
 subst uc9
 subst lx2
 refine Zf Tryz.f81 B81 71 ?_
 refine Gj 74 [(0, (pt gx0 0)), (1, .string x1), (2, Sl Ax2 x2 cx2)] fun junk => ?_
 delta M.a51 at h
 refine Gn 2 [] (Yt 10 B81 [0, 1] (Ys 11 B81 [])) ?_
 have f4 : Els kT165 S0 w0 ([] : List Value) ([] : List T165) := by exact Els.nil
 refine Om (.buildSlice 65 0 #[]) 9 65 (fun b => .slice (Gp (some b)) 0 0) 166 ([] : List Value) (0 * kT165.size) p0 Xa fun b3 w2 z2 p2 => ?_
 refine Gm 14 [([6], .slice (Gp (some b3)) 0 0), ([10], Sl Ax2 x2 cx2), ([11], .i (x2.length : Int)), ([12, 7], .bool (decide ((x2.length : Int) = 0))), ([8], .i 0)] (Ys 11101 B81 Jft) ?_
 refine Gn 2 [] Jfw ?_
 exact Gj 74 [(0, (pt gx0 0)), (1, .string x1), (2, Sl Ax2 x2 cx2), (6, .slice (Gp (some b3)) 0 0), (7, .bool (decide ((x2.length : Int) = 0))), (8, .i 0)] (W.z35 gx0 _ _ h _ _ z2 _ _ _ (some b3) 0 0 _ _ _ _ _ p2 (fx2.ext z2) rfl (f4.ext z2) rfl (uc8.ext z2) rfl)
def Qct := Yq 11 B31
def Jgn := Zc Qct []
def Qcu := Yq 10 B31
def Post.z3a (gx0 : Nat) (r : List T165) (v : Value) (w' : World) : Prop :=
 ∃ S' ucp ucq ucr ucs, v = .tuple #[] ∧ Ext S0 w0 S' w' ∧ Hp nz wz S' w' ((some gx0, .row 67 [.slice (Gp ucp) ucq ucr] 1 0) :: (ucp, .row 166 ucs (ucr * kT165.size) 0) :: Lr) ∧ Els kT165 S' w' ucs r ∧ r.length = ucq
theorem W.z3a (uc2 : List T165) (x1 : ByteArray) (x2 : Int) (r : List T165) (h : M.a69 uc2 x1 x2 = some r) {nz wz S0 w0 Lr} (gx0 uby ubz uc0 uc1) (p0 : Hp nz wz S0 w0 ((some gx0, .row 67 [.slice (Gp uby) ubz uc0] 1 0) :: (uby, .row 166 uc1 (uc0 * kT165.size) 0) :: Lr)) (uc8 : Els kT165 S0 w0 uc1 uc2) (uc9 : uc2.length = ubz) :
  Calls Tg 31 #[(pt gx0 0), .string x1, .u x2] w0 (Rets (Post.z3a nz wz S0 w0 Lr gx0 r)) := by
 subst uc9
 refine Zf Tryz.f31 B31 17 ?_
 refine Gj 20 [(0, (pt gx0 0)), (1, .string x1), (2, .u x2)] fun junk => ?_
 delta M.a69 at h
 refine Gn 4 [(9, (pt gx0 0)), (10, .string x1)] (Zr Qcu [2, 3, 4, 5, 6, 7, 8, 9] Jgn) ?_
 refine Gb h fun y3 e4 h => ?_
 refine Gc (kc 80 [9, 10] #[64, 9]) 11 60 80 _ (W.z2u uc2 x1 y3 e4 _ _ _ _ _ p0 uc8 rfl) ?_
 rintro _ w2 ⟨S2, u3a, u3b, u3c, u3d, rfl, z2, p2, u3e, rfl⟩
 refine Gn 1 [(12, .u x2)] (Zr Qcu [4, 5, 6, 7, 8, 9] Jgn) ?_
 obtain ⟨S3, z3, p3, f6⟩ := p2.freezeRd 0 rfl u3e (by decide)
 refine Gb h fun y7 e8 h => ?_
 refine Gc (kc 79 [11, 12] #[60, 22]) 13 72 79 _ (W.z2y y3 x2 y7 e8 _ _ _ p3 f6 rfl) ?_
 rintro _ w4 ⟨S4, ud9, uda, udb, udc, rfl, z4, p4, udd, rfl⟩
 have p4 := p4.dp 1
 refine Gm 10 [([8], .tuple #[Sl (Gp ud9) y7.1 udb, .i y7.2]), ([14, 6, 18], Sl (Gp ud9) y7.1 udb), ([15, 7], .i y7.2), ([16], (pt gx0 0)), ([17], .string x1)] (Zr Qct [3] []) ?_
 obtain ⟨S5, z5, p5, f10⟩ := p4.freezeRd 0 rfl udd (by decide)
 have p5 := (p5.fr 2).fr 2
 refine Gb h fun y11 e12 h => ?_
 refine Gc (kc 81 [16, 17, 18] #[64, 9, 60]) 19 0 81 _ (W.z34 uc2 x1 y7.1 y11 e12 _ _ _ _ _ _ _ _ p5 (uc8.ext (((z2.t z3).t z4).t z5)) rfl f10 rfl) ?_
 rintro _ w6 ⟨S6, ude, udf, udg, udh, rfl, z6, p6, udi, rfl⟩
 have p6 := p6.dp 2
 refine Gn 1 [] [] ?_
 obtain rfl := sj h
 exact Xy (fn := Tryz.f31) (by kernel_rfl) (v := .tuple #[]) (by kernel_rfl) ⟨S6, ude, y11.length, udg, udh, rfl, ((((z2.t z3).t z4).t z5).t z6), p6, udi, rfl⟩
def Jgr := Ys 111 B83 []
def Post.z3b (gx0 : Nat) (u7h : Nat) (u7i : Nat) (r : Unit) (v : Value) (w' : World) : Prop :=
 ∃ S', v = .bool false ∧ Ext S0 w0 S' w' ∧ Hp nz wz S' w' ((some gx0, .row 158 [.map (some u7h)] 1 0) :: Lr)
theorem W.z3b (u7i : Nat) (r : Unit) (h : M.a6z u7i = some r) {nz wz S0 w0 Lr} (gx0 u7h) (p0 : Hp nz wz S0 w0 ((some gx0, .row 158 [.map (some u7h)] 1 0) :: Lr)) (u7j : Pa 154 S0 u7i u7h) :
  Calls Tg 83 #[(pt gx0 0)] w0 (Rets (Post.z3b nz wz S0 w0 Lr gx0 u7h u7i r)) := by
 refine Zf Tryz.f83 B83 5 ?_
 refine Gj 6 [(0, (pt gx0 0))] fun junk => ?_
 delta M.a6z at h
 refine Gn 7 [(2, .bool false), (3, (pt gx0 0))] (Yt 110 B83 [1, 2, 3] Jgr) ?_
 refine Gb h fun y2 e3 h => ?_
 refine Gc (kc 76 [3] #[62]) 4 4 76 _ (W.z24 u7i y2 e3 _ _ p0 u7j) ?_
 rintro _ w2 ⟨S2, rfl, z2, p2⟩
 refine Gm 3 [([5, 2], .bool (!true))] Jgr ?_
 obtain rfl := sj h
 exact Xd Tryz.f83 (.bool (!true)) ⟨_, rfl, z2, p2⟩
def Jgw := Ys 1111 B144 []
def Qd1 := Yq 1110 B144
def Post.z3c (gx0 : Nat) (u7h : Nat) (u7f : List (Nat × Obj)) (u7i : Nat) (u7e : List (List (ByteArray × (List Int)))) (r : List Int) (v : Value) (w' : World) : Prop :=
 ∃ S' Gq nq cq csq, v = .slice (Gp Gq) nq cq ∧ Ext S0 w0 S' w' ∧ Hp nz wz S' w' ((Gq, .row 22 csq (cq * kU.size) 0) :: (some gx0, .row 158 [.map (some u7h)] 1 0) :: (none, .seg 154 u7f) :: Lr) ∧ Els kU S' w' csq r ∧ r.length = nq
theorem W.z3c (u7i : Nat) (x1 : ByteArray) (u7e : List (List (ByteArray × (List Int)))) (r : List Int) (h : M.a52 u7i x1 u7e = some r) {nz wz S0 w0 Lr} (gx0 u7h u7f) (p0 : Hp nz wz S0 w0 ((some gx0, .row 158 [.map (some u7h)] 1 0) :: (none, .seg 154 u7f) :: Lr)) (u7j : Pa 154 S0 u7i u7h) (u7g : Pl (oMap Value.string (kSl kU)) S0 w0 u7f u7e) :
  Calls Tg 144 #[(pt gx0 0), .string x1] w0 (Rets (Post.z3c nz wz S0 w0 Lr gx0 u7h u7f u7i u7e r)) := by
 refine Zf Tryz.f144 B144 14 ?_
 refine Gj 16 [(0, (pt gx0 0)), (1, .string x1)] fun junk => ?_
 delta M.a52 at h
 refine Gn 8 [(4, Sn), (5, (pt gx0 0))] (Yt 1100 B144 [1, 2] (Ys 1101 B144 (Ys 111 B144 []))) ?_
 refine Gb h fun y2 e3 h => ?_
 refine Gc (kc 76 [5] #[62]) 6 4 76 _ (W.z24 u7i y2 e3 _ _ p0 u7j) ?_
 rintro _ w2 ⟨S2, rfl, z2, p2⟩
 refine Gm 10 [([7], .bool (!true)), ([8, 9, 10, 11], (pt gx0 0))] (Zr Qd1 [4, 5, 6, 7, 8] Jgw) ?_
 refine Xc 154 11 12 154 ⟨gx0, 0, none⟩ (.map (some u7h)) (p2.c 0 0) ?_
 refine Gn 1 [(13, .string x1)] (Zr Qd1 [6, 7, 8] Jgw) ?_
 refine Gl h fun v4 e5 h => ?_
 refine Op_.lkM 154 12 13 14 60 9 60 1 (Sn) ([] : List Int) x1 v4 p2 rfl (u7g.ext z2) (u7j.ext z2) Xa (by kernel_rfl) (by kernel_rfl) (by kernel_rfl) (kok_str (by kernel_rfl)) (by kernel_rfl) ⟨none, 0, rfl, Xr⟩ e5 fun v6 f7 => ?_
 obtain ⟨A8, c9, rfl, f10⟩ := one_sl f7
 refine Gb h fun y11 e12 h => ?_
 refine Gc (kc 142 [14] #[60]) 15 60 142 _ (W.z28 v4 y11 e12 _ _ _ p2 f10 rfl) ?_
 rintro _ w3 ⟨S3, u3g, u3h, u3i, u3j, rfl, z3, p3, u3k, rfl⟩
 refine Gn 2 [(4, Sl (Gp u3g) y11 u3i)] Jgw ?_
 obtain rfl := sj h
 exact Xd Tryz.f144 (Sl (Gp u3g) y11 u3i) ⟨_, _, _, _, _, rfl, (z2.t z3), p3, u3k, rfl⟩
def Post.z3d (r : Bool) (v : Value) (w' : World) : Prop :=
 ∃ S', v = .bool r ∧ Ext S0 w0 S' w' ∧ Hp nz wz S' w' (Lr)
theorem W.z3d (x0 : Int) (r : Bool) (h : M.a70 x0 = some r) {nz wz S0 w0 Lr} (p0 : Hp nz wz S0 w0 (Lr)) :
  Calls Tg 205 #[.i x0] w0 (Rets (Post.z3d nz wz S0 w0 Lr r)) := by
 refine Zf Tryz.f205 B205 4 ?_
 refine Gj 5 [(0, .i x0)] fun junk => ?_
 delta M.a70 at h
 refine Gm 10 [([2, 4], .bool (decide (x0 = 3))), ([3], .i x0)] (Ys 111 B205 []) ?_
 obtain rfl := sj h
 exact Xd Tryz.f205 (.bool (decide (x0 = 3))) ⟨_, rfl, (Xj S0 w0), p0⟩
def Post.z3e (lk : Nat) (rk : Nat) (jkk : Nat → Value) (u7u : Nat) (u7v : Nat) (u7w : Nat) (u7x : Option Addr) (u7y : Nat) (u7z : Nat) (u80 : Nat) (u81 : Option Addr) (u82 : Nat) (u83 : Nat) (u84 : List Int) (u85 : List Int) (r : List Int) (v : Value) (w' : World) : Prop :=
 ∃ S' u86 u87 u88 u89, v = .bool true ∧ Ext S0 w0 S' w' ∧ Hp nz wz S' w' ((some lk, .obj (lpst 251 (lfr 23 [(5, (pt u7u 0)), (7, (pt u7v 0)), (12, .func (.func 302) #[] #[(pt u7w 0), (pt u80 0)])] jkk) #[13, 14] (rfAssign (Q90)) (rfBody (Q90)) rk .ready none)) :: (some u7u, .row 313 [.func (.func 205) #[] #[]] 1 0) :: (some u7v, .row 60 [.slice (Gp u86) u87 u88] 1 0) :: (u86, .row 22 u89 (u88 * kU.size) 0) :: (some u7w, .row 60 [.slice u7x u7y u7z] 1 0) :: (some u80, .row 60 [.slice u81 u82 u83] 1 0) :: Lr) ∧ Els kU S' w' u89 r ∧ r.length = u87
theorem W.z3e (u8a : List Int) (u84 : List Int) (u85 : List Int) (a0 : Int) (a1 : Int) (r : List Int) (h : M.a6a u8a u84 u85 a0 a1 = some r) {nz wz S0 w0 Lr} (lk rk jkk u7u u7v u8b u8c u8d u8e u7w u7x u7y u7z u80 u81 u82 u83) (p0 : Hp nz wz S0 w0 ((some lk, .obj (lpst 251 (lfr 23 [(5, (pt u7u 0)), (7, (pt u7v 0)), (12, .func (.func 302) #[] #[(pt u7w 0), (pt u80 0)])] jkk) #[13, 14] (rfAssign (Q90)) (rfBody (Q90)) rk .ready none)) :: (some u7u, .row 313 [.func (.func 205) #[] #[]] 1 0) :: (some u7v, .row 60 [.slice (Gp u8b) u8c u8d] 1 0) :: (u8b, .row 22 u8e (u8d * kU.size) 0) :: (some u7w, .row 60 [.slice u7x u7y u7z] 1 0) :: (some u80, .row 60 [.slice u81 u82 u83] 1 0) :: Lr)) (u8f : Els kU S0 w0 u8e u8a) (u8g : u8a.length = u8c) (u8h : Rd kU S0 w0 u7x u7z u84) (u8i : u84.length = u7y) (u8j : Rd kU S0 w0 u81 u83 u85) (u8k : u85.length = u82) :
  Goes Tg (rbase 251 lk) [.code (rfAssign (Q90)), .beginRound, .code (rfBody (Q90))] ⟨setp (lfr 23 [(5, (pt u7u 0)), (7, (pt u7v 0)), (12, .func (.func 302) #[] #[(pt u7w 0), (pt u80 0)])] jkk) #[13, 14] #[.u a0, .i a1], []⟩ w0 (DoneR (Post.z3e nz wz S0 w0 Lr lk rk jkk u7u u7v u7w u7x u7y u7z u80 u81 u82 u83 u84 u85 r)) := by
 subst u8g
 subst u8i
 subst u8k
 refine Gj 23 [(5, (pt u7u 0)), (7, (pt u7v 0)), (12, .func (.func 302) #[] #[(pt u7w 0), (pt u80 0)]), (13, .u a0), (14, .i a1)] fun junk => ?_
 delta M.a6a at h
 refine Gn 7 [(8, .u a0), (9, .i a1)] [.beginRound, .code (Q91)] ?_
 refine Goes.beginR 0 rfl p0 rfl fun w2 z2 p2 => ?_
 refine Gn 3 [] Jbm ?_
 refine Xc 313 5 15 313 ⟨u7u, 0, none⟩ (.func (.func 205) #[] #[]) (p2.c 1 0) ?_
 refine Gn 1 [(16, .i a1)] Jbn ?_
 refine Gb h fun y7 e8 h => ?_
 refine Gc (.call { callee := .value 15, args := #[16], argTypes := #[3] }) 17 4 205 _ (W.z3d a1 y7 e8  p2 ) ?_
 rintro _ w3 ⟨S3, rfl, z3, p3⟩
 refine Gn 1 [] Jbl ?_
 refine Gi h (fun h9 h => ?_) fun h9 h => ?_
 ·
  rw [h9]
  refine Gn 2 [] Jbo ?_
  refine Xc 60 7 18 60 ⟨u7v, 0, none⟩ (Sl (Gp u8b) u8a u8d) (p3.c 2 0) ?_
  refine Gn 1 [(19, .u a0)] Jbp ?_
  have f11 : Els kU S3 w3 ([.u a0] : List Value) [a0] := by exact (Els.cons (K := kU) (vs := [.u a0]) (x := a0) rfl Els.nil)
  refine Om (.buildSlice 60 1 #[(0, 19)]) 20 60 (fun b => .slice (Gp (some b)) 1 1) 22 ([.u a0] : List Value) (1 * kU.size) p3 Xa fun b10 w4 z4 p4 => ?_
  refine Gg h fun g16 h => ?_
  refine On (K := kU) 60 18 20 21 60 22 4 (.u 0) 8 u8a.length u8d 1 u8a [a0] (u8a ++ [a0]) (Gp (some b10)) 1 rfl rfl rfl p4 rfl (u8f.ext ((z2.t z3).t z4)) Xa (f11.ext z4) (src_own p4 (q := 0) rfl) g16 fun w5 G17 c18 u8l z5 p5 f20 => ?_
  refine So 60 7 21 0 3 u7v 0 (.slice (Gp G17) ((u8a ++ [a0]).length) c18) [.slice (Gp G17) ((u8a ++ [a0]).length) c18] p5 rfl Xe fun w6 z6 p6 => ?_
  refine Gn 2 [] [] ?_
  have p6 := p6.dp 0
  obtain rfl := sj h
  refine Goes.endR 0 p6 rfl fun w7 z7 p7 => ?_
  exact ⟨S3, G17, (u8a ++ [a0]).length, c18, u8l, rfl, (((((z2.t z3).t z4).t z5).t z6).t z7), p7, (f20.ext (z6.t z7)), rfl⟩
 ·
  rw [bf h9]
  refine Gn 3 [] [] ?_
  obtain rfl := sj h
  refine Goes.endR 0 p3 rfl fun w8 z8 p8 => ?_
  exact ⟨S3, u8b, u8a.length, u8d, u8e, rfl, ((z2.t z3).t z8), p8, (u8f.ext ((z2.t z3).t z8)), rfl⟩
def Post.z3f (lx0 : Nat) (rx0 : Nat) (u2f : Nat → Value) (u8m : Nat) (u8n : Nat) (u8o : Nat) (u8p : Nat) (r : (List Int) × (List Int) × (List Int)) (v : Value) (w' : World) : Prop :=
 ∃ S' u86 u87 u88 u89 u8q u8r u8s u8t u8u u8v, v = .tuple #[] ∧ Ext S0 w0 S' w' ∧ Hp nz wz S' w' ((some lx0, .obj (lpst 251 (lfr 23 [(5, (pt u8m 0)), (7, (pt u8n 0)), (12, .func (.func 302) #[] #[(pt u8o 0), (pt u8p 0)])] u2f) #[13, 14] (rfAssign (Q90)) (rfBody (Q90)) rx0 .ready none)) :: (some u8m, .row 313 [.func (.func 205) #[] #[]] 1 0) :: (some u8n, .row 60 [.slice (Gp u86) u87 u88] 1 0) :: (u86, .row 22 u89 (u88 * kU.size) 0) :: (some u8o, .row 60 [.slice u8q u8r u8s] 1 0) :: (some u8p, .row 60 [.slice u8t u8u u8v] 1 0) :: Lr) ∧ Els kU S' w' u89 r.1 ∧ r.1.length = u87 ∧ Rd kU S' w' u8q u8s r.2.1 ∧ r.2.1.length = u8r ∧ Rd kU S' w' u8t u8v r.2.2 ∧ r.2.2.length = u8u
def L.z3g (lx0 : Nat) (rx0 : Nat) (u2f : Nat → Value) (u8m : Nat) (u8n : Nat) (u8o : Nat) (u8p : Nat) : (List Int) × (List Int) × (List Int) → ((List Int) × (List Int) × (List Int)) → Prop := fun ⟨u8w, u8x, u8y⟩ r => ∀ S1 w1, Ext S0 w0 S1 w1 → ∀ u86 u87 u88 u89 u8q u8r u8s u8t u8u u8v (_ : Hp nz wz S1 w1 ((some lx0, .obj (lpst 251 (lfr 23 [(5, (pt u8m 0)), (7, (pt u8n 0)), (12, .func (.func 302) #[] #[(pt u8o 0), (pt u8p 0)])] u2f) #[13, 14] (rfAssign (Q90)) (rfBody (Q90)) rx0 .ready none)) :: (some u8m, .row 313 [.func (.func 205) #[] #[]] 1 0) :: (some u8n, .row 60 [.slice (Gp u86) u87 u88] 1 0) :: (u86, .row 22 u89 (u88 * kU.size) 0) :: (some u8o, .row 60 [.slice u8q u8r u8s] 1 0) :: (some u8p, .row 60 [.slice u8t u8u u8v] 1 0) :: Lr)) (_ : Els kU S1 w1 u89 u8w) (_ : u8w.length = u87) (_ : Rd kU S1 w1 u8q u8s u8x) (_ : u8x.length = u8r) (_ : Rd kU S1 w1 u8t u8v u8y) (_ : u8y.length = u8u) (junk : Nat → Value),
 Goes Tg (base 302) Jbr ⟨lfr 73 [(0, yieldV lx0), (1, (pt u8o 0)), (2, (pt u8p 0))] junk, []⟩ w1 (Done Tg 302 (Rets (Post.z3f nz wz S0 w0 Lr lx0 rx0 u2f u8m u8n u8o u8p r)))
def L.z3h (lx0 : Nat) (rx0 : Nat) (u2f : Nat → Value) (u8m : Nat) (u8n : Nat) (u8o : Nat) (u8p : Nat) : Bool × (List Int) × (List Int) × (List Int) → ((List Int) × (List Int) × (List Int)) → Prop := fun ⟨x13, u8w, u8x, u8y⟩ r => ∀ S1 w1, Ext S0 w0 S1 w1 → ∀ u86 u87 u88 u89 u8q u8r u8s u8t u8u u8v (_ : Hp nz wz S1 w1 ((some lx0, .obj (lpst 251 (lfr 23 [(5, (pt u8m 0)), (7, (pt u8n 0)), (12, .func (.func 302) #[] #[(pt u8o 0), (pt u8p 0)])] u2f) #[13, 14] (rfAssign (Q90)) (rfBody (Q90)) rx0 .ready none)) :: (some u8m, .row 313 [.func (.func 205) #[] #[]] 1 0) :: (some u8n, .row 60 [.slice (Gp u86) u87 u88] 1 0) :: (u86, .row 22 u89 (u88 * kU.size) 0) :: (some u8o, .row 60 [.slice u8q u8r u8s] 1 0) :: (some u8p, .row 60 [.slice u8t u8u u8v] 1 0) :: Lr)) (_ : Els kU S1 w1 u89 u8w) (_ : u8w.length = u87) (_ : Rd kU S1 w1 u8q u8s u8x) (_ : u8x.length = u8r) (_ : Rd kU S1 w1 u8t u8v u8y) (_ : u8y.length = u8u) (junk : Nat → Value),
 Goes Tg (base 302) Jbt ⟨lfr 73 [(0, yieldV lx0), (1, (pt u8o 0)), (2, (pt u8p 0)), (13, .bool x13)] junk, []⟩ w1 (Done Tg 302 (Rets (Post.z3f nz wz S0 w0 Lr lx0 rx0 u2f u8m u8n u8o u8p r)))
def L.z3i (lx0 : Nat) (rx0 : Nat) (u2f : Nat → Value) (u8m : Nat) (u8n : Nat) (u8o : Nat) (u8p : Nat) : Int × Bool × (List Int) × (List Int) × (List Int) → ((List Int) × (List Int) × (List Int)) → Prop := fun ⟨x4, x30, u8w, u8x, u8y⟩ r => ∀ S1 w1, Ext S0 w0 S1 w1 → ∀ u86 u87 u88 u89 u8q u8r u8s u8t u8u u8v (_ : Hp nz wz S1 w1 ((some lx0, .obj (lpst 251 (lfr 23 [(5, (pt u8m 0)), (7, (pt u8n 0)), (12, .func (.func 302) #[] #[(pt u8o 0), (pt u8p 0)])] u2f) #[13, 14] (rfAssign (Q90)) (rfBody (Q90)) rx0 .ready none)) :: (some u8m, .row 313 [.func (.func 205) #[] #[]] 1 0) :: (some u8n, .row 60 [.slice (Gp u86) u87 u88] 1 0) :: (u86, .row 22 u89 (u88 * kU.size) 0) :: (some u8o, .row 60 [.slice u8q u8r u8s] 1 0) :: (some u8p, .row 60 [.slice u8t u8u u8v] 1 0) :: Lr)) (_ : Els kU S1 w1 u89 u8w) (_ : u8w.length = u87) (_ : Rd kU S1 w1 u8q u8s u8x) (_ : u8x.length = u8r) (_ : Rd kU S1 w1 u8t u8v u8y) (_ : u8y.length = u8u) (junk : Nat → Value),
 Goes Tg (base 302) Jbw ⟨lfr 73 [(0, yieldV lx0), (1, (pt u8o 0)), (2, (pt u8p 0)), (4, .i x4), (30, .bool x30)] junk, []⟩ w1 (Done Tg 302 (Rets (Post.z3f nz wz S0 w0 Lr lx0 rx0 u2f u8m u8n u8o u8p r)))
def L.z3j (lx0 : Nat) (rx0 : Nat) (u2f : Nat → Value) (u8m : Nat) (u8n : Nat) (u8o : Nat) (u8p : Nat) : Int × (List Int) × (List Int) × (List Int) → ((List Int) × (List Int) × (List Int)) → Prop := fun ⟨x4, u8w, u8x, u8y⟩ r => ∀ S1 w1, Ext S0 w0 S1 w1 → ∀ u86 u87 u88 u89 u8q u8r u8s u8t u8u u8v (_ : Hp nz wz S1 w1 ((some lx0, .obj (lpst 251 (lfr 23 [(5, (pt u8m 0)), (7, (pt u8n 0)), (12, .func (.func 302) #[] #[(pt u8o 0), (pt u8p 0)])] u2f) #[13, 14] (rfAssign (Q90)) (rfBody (Q90)) rx0 .ready none)) :: (some u8m, .row 313 [.func (.func 205) #[] #[]] 1 0) :: (some u8n, .row 60 [.slice (Gp u86) u87 u88] 1 0) :: (u86, .row 22 u89 (u88 * kU.size) 0) :: (some u8o, .row 60 [.slice u8q u8r u8s] 1 0) :: (some u8p, .row 60 [.slice u8t u8u u8v] 1 0) :: Lr)) (_ : Els kU S1 w1 u89 u8w) (_ : u8w.length = u87) (_ : Rd kU S1 w1 u8q u8s u8x) (_ : u8x.length = u8r) (_ : Rd kU S1 w1 u8t u8v u8y) (_ : u8y.length = u8u) (junk : Nat → Value),
 Goes Tg (base 302) Jbv ⟨lfr 73 [(0, yieldV lx0), (1, (pt u8o 0)), (2, (pt u8p 0)), (4, .i x4)] junk, []⟩ w1 (Done Tg 302 (Rets (Post.z3f nz wz S0 w0 Lr lx0 rx0 u2f u8m u8n u8o u8p r)))
def L.z3k (lx0 : Nat) (rx0 : Nat) (u2f : Nat → Value) (u8m : Nat) (u8n : Nat) (u8o : Nat) (u8p : Nat) : Int × Bool × (List Int) × (List Int) × (List Int) → ((List Int) × (List Int) × (List Int)) → Prop := fun ⟨x4, x49, u8w, u8x, u8y⟩ r => ∀ S1 w1, Ext S0 w0 S1 w1 → ∀ u86 u87 u88 u89 u8q u8r u8s u8t u8u u8v (_ : Hp nz wz S1 w1 ((some lx0, .obj (lpst 251 (lfr 23 [(5, (pt u8m 0)), (7, (pt u8n 0)), (12, .func (.func 302) #[] #[(pt u8o 0), (pt u8p 0)])] u2f) #[13, 14] (rfAssign (Q90)) (rfBody (Q90)) rx0 .ready none)) :: (some u8m, .row 313 [.func (.func 205) #[] #[]] 1 0) :: (some u8n, .row 60 [.slice (Gp u86) u87 u88] 1 0) :: (u86, .row 22 u89 (u88 * kU.size) 0) :: (some u8o, .row 60 [.slice u8q u8r u8s] 1 0) :: (some u8p, .row 60 [.slice u8t u8u u8v] 1 0) :: Lr)) (_ : Els kU S1 w1 u89 u8w) (_ : u8w.length = u87) (_ : Rd kU S1 w1 u8q u8s u8x) (_ : u8x.length = u8r) (_ : Rd kU S1 w1 u8t u8v u8y) (_ : u8y.length = u8u) (junk : Nat → Value),
 Goes Tg (base 302) Jby ⟨lfr 73 [(0, yieldV lx0), (1, (pt u8o 0)), (2, (pt u8p 0)), (4, .i x4), (49, .bool x49)] junk, []⟩ w1 (Done Tg 302 (Rets (Post.z3f nz wz S0 w0 Lr lx0 rx0 u2f u8m u8n u8o u8p r)))
def L.z3l (lx0 : Nat) (rx0 : Nat) (u2f : Nat → Value) (u8m : Nat) (u8n : Nat) (u8o : Nat) (u8p : Nat) : Int × (List Int) × (List Int) × (List Int) → ((List Int) × (List Int) × (List Int)) → Prop := fun ⟨x4, u8w, u8x, u8y⟩ r => ∀ S1 w1, Ext S0 w0 S1 w1 → ∀ u86 u87 u88 u89 u8q u8r u8s u8t u8u u8v (_ : Hp nz wz S1 w1 ((some lx0, .obj (lpst 251 (lfr 23 [(5, (pt u8m 0)), (7, (pt u8n 0)), (12, .func (.func 302) #[] #[(pt u8o 0), (pt u8p 0)])] u2f) #[13, 14] (rfAssign (Q90)) (rfBody (Q90)) rx0 .ready none)) :: (some u8m, .row 313 [.func (.func 205) #[] #[]] 1 0) :: (some u8n, .row 60 [.slice (Gp u86) u87 u88] 1 0) :: (u86, .row 22 u89 (u88 * kU.size) 0) :: (some u8o, .row 60 [.slice u8q u8r u8s] 1 0) :: (some u8p, .row 60 [.slice u8t u8u u8v] 1 0) :: Lr)) (_ : Els kU S1 w1 u89 u8w) (_ : u8w.length = u87) (_ : Rd kU S1 w1 u8q u8s u8x) (_ : u8x.length = u8r) (_ : Rd kU S1 w1 u8t u8v u8y) (_ : u8y.length = u8u) (junk : Nat → Value),
 Goes Tg (base 302) Jbx ⟨lfr 73 [(0, yieldV lx0), (1, (pt u8o 0)), (2, (pt u8p 0)), (4, .i x4)] junk, []⟩ w1 (Done Tg 302 (Rets (Post.z3f nz wz S0 w0 Lr lx0 rx0 u2f u8m u8n u8o u8p r)))
def L.z3m (lx0 : Nat) (rx0 : Nat) (u2f : Nat → Value) (u8m : Nat) (u8n : Nat) (u8o : Nat) (u8p : Nat) : Int × Int × (List Int) × (List Int) × (List Int) → ((List Int) × (List Int) × (List Int)) → Prop := fun ⟨x4, x5, u8w, u8x, u8y⟩ r => ∀ S1 w1, Ext S0 w0 S1 w1 → ∀ u86 u87 u88 u89 u8q u8r u8s u8t u8u u8v (_ : Hp nz wz S1 w1 ((some lx0, .obj (lpst 251 (lfr 23 [(5, (pt u8m 0)), (7, (pt u8n 0)), (12, .func (.func 302) #[] #[(pt u8o 0), (pt u8p 0)])] u2f) #[13, 14] (rfAssign (Q90)) (rfBody (Q90)) rx0 .ready none)) :: (some u8m, .row 313 [.func (.func 205) #[] #[]] 1 0) :: (some u8n, .row 60 [.slice (Gp u86) u87 u88] 1 0) :: (u86, .row 22 u89 (u88 * kU.size) 0) :: (some u8o, .row 60 [.slice u8q u8r u8s] 1 0) :: (some u8p, .row 60 [.slice u8t u8u u8v] 1 0) :: Lr)) (_ : Els kU S1 w1 u89 u8w) (_ : u8w.length = u87) (_ : Rd kU S1 w1 u8q u8s u8x) (_ : u8x.length = u8r) (_ : Rd kU S1 w1 u8t u8v u8y) (_ : u8y.length = u8u) (junk : Nat → Value),
 Goes Tg (base 302) Jbz ⟨lfr 73 [(0, yieldV lx0), (1, (pt u8o 0)), (2, (pt u8p 0)), (4, .i x4), (5, .u x5)] junk, []⟩ w1 (Done Tg 302 (Rets (Post.z3f nz wz S0 w0 Lr lx0 rx0 u2f u8m u8n u8o u8p r)))
def L.z3n (lx0 : Nat) (rx0 : Nat) (u2f : Nat → Value) (u8m : Nat) (u8n : Nat) (u8o : Nat) (u8p : Nat) : Int × Int × (List Int) × (List Int) × (List Int) → ((List Int) × (List Int) × (List Int)) → Prop := fun ⟨x4, x5, u8w, u8x, u8y⟩ r => ∀ S1 w1, Ext S0 w0 S1 w1 → ∀ u86 u87 u88 u89 u8q u8r u8s u8t u8u u8v (_ : Hp nz wz S1 w1 ((some lx0, .obj (lpst 251 (lfr 23 [(5, (pt u8m 0)), (7, (pt u8n 0)), (12, .func (.func 302) #[] #[(pt u8o 0), (pt u8p 0)])] u2f) #[13, 14] (rfAssign (Q90)) (rfBody (Q90)) rx0 .ready none)) :: (some u8m, .row 313 [.func (.func 205) #[] #[]] 1 0) :: (some u8n, .row 60 [.slice (Gp u86) u87 u88] 1 0) :: (u86, .row 22 u89 (u88 * kU.size) 0) :: (some u8o, .row 60 [.slice u8q u8r u8s] 1 0) :: (some u8p, .row 60 [.slice u8t u8u u8v] 1 0) :: Lr)) (_ : Els kU S1 w1 u89 u8w) (_ : u8w.length = u87) (_ : Rd kU S1 w1 u8q u8s u8x) (_ : u8x.length = u8r) (_ : Rd kU S1 w1 u8t u8v u8y) (_ : u8y.length = u8u) (junk : Nat → Value),
 Goes Tg (base 302) Jc0 ⟨lfr 73 [(0, yieldV lx0), (1, (pt u8o 0)), (2, (pt u8p 0)), (4, .i x4), (5, .u x5)] junk, []⟩ w1 (Done Tg 302 (Rets (Post.z3f nz wz S0 w0 Lr lx0 rx0 u2f u8m u8n u8o u8p r)))
theorem W.z3o {nz wz S0 w0 Lr} (lx0 : Nat) (rx0 : Nat) (u2f : Nat → Value) (u8m : Nat) (u8n : Nat) (u8o : Nat) (u8p : Nat) : (∀ a r, M.ad a = some r → (L.z3g nz wz S0 w0 Lr lx0 rx0 u2f u8m u8n u8o u8p) a r) ∧ (∀ a r, M.a1b a = some r → (L.z3h nz wz S0 w0 Lr lx0 rx0 u2f u8m u8n u8o u8p) a r) ∧ (∀ a r, M.aq a = some r → (L.z3i nz wz S0 w0 Lr lx0 rx0 u2f u8m u8n u8o u8p) a r) ∧ (∀ a r, M.a1c a = some r → (L.z3j nz wz S0 w0 Lr lx0 rx0 u2f u8m u8n u8o u8p) a r) ∧ (∀ a r, M.ar a = some r → (L.z3k nz wz S0 w0 Lr lx0 rx0 u2f u8m u8n u8o u8p) a r) ∧ (∀ a r, M.a1d a = some r → (L.z3l nz wz S0 w0 Lr lx0 rx0 u2f u8m u8n u8o u8p) a r) ∧ (∀ a r, M.a1e a = some r → (L.z3m nz wz S0 w0 Lr lx0 rx0 u2f u8m u8n u8o u8p) a r) ∧ (∀ a r, M.a1f a = some r → (L.z3n nz wz S0 w0 Lr lx0 rx0 u2f u8m u8n u8o u8p) a r) := by
 refine M.ad.mutual_partial_correctness (L.z3g nz wz S0 w0 Lr lx0 rx0 u2f u8m u8n u8o u8p) (L.z3h nz wz S0 w0 Lr lx0 rx0 u2f u8m u8n u8o u8p) (L.z3i nz wz S0 w0 Lr lx0 rx0 u2f u8m u8n u8o u8p) (L.z3j nz wz S0 w0 Lr lx0 rx0 u2f u8m u8n u8o u8p) (L.z3k nz wz S0 w0 Lr lx0 rx0 u2f u8m u8n u8o u8p) (L.z3l nz wz S0 w0 Lr lx0 rx0 u2f u8m u8n u8o u8p) (L.z3m nz wz S0 w0 Lr lx0 rx0 u2f u8m u8n u8o u8p) (L.z3n nz wz S0 w0 Lr lx0 rx0 u2f u8m u8n u8o u8p) ?_ ?_ ?_ ?_ ?_ ?_ ?_ ?_
 ·
  intro udj udk ⟨u8w, u8x, u8y⟩ r h S1 w1 hx u86 u87 u88 u89 u8q u8r u8s u8t u8u u8v p1 u91 u92 u93 u94 u95 u96 junk
  try dsimp only at h
  subst u92
  subst u94
  subst u96
  refine Gn 3 [] Jc1 ?_
  refine Xc 60 1 6 60 ⟨u8o, 0, none⟩ (Sl u8q u8x u8s) (p1.c 4 0) ?_
  refine Gm 3 [([7], .i (u8x.length : Int)), ([8, 9], .bool (decide ((u8x.length : Int) > 0)))] Jc2 ?_
  refine Gi h (fun h8 h => ?_) fun h8 h => ?_
  ·
   rw [dt h8]
   refine Gm 5 [([10, 11, 12], undef), ([13], .bool true)] Jbt ?_
   exact Gj 73 [(0, yieldV lx0), (1, (pt u8o 0)), (2, (pt u8p 0)), (13, .bool true)] (udk _ _ h _ _ hx _ _ _ _ _ _ _ _ _ _ p1 u91 rfl u93 rfl u95 rfl)
  ·
   rw [df h8]
   refine Xc 60 2 10 60 ⟨u8p, 0, none⟩ (Sl u8t u8y u8v) (p1.c 5 0) ?_
   refine Gm 4 [([11], .i (u8y.length : Int)), ([12, 13], .bool (decide ((u8y.length : Int) > 0)))] Jbt ?_
   exact Gj 73 [(0, yieldV lx0), (1, (pt u8o 0)), (2, (pt u8p 0)), (13, .bool (decide ((u8y.length : Int) > 0)))] (udk _ _ h _ _ hx _ _ _ _ _ _ _ _ _ _ p1 u91 rfl u93 rfl u95 rfl)
 ·
  intro udl udm ⟨x13, u8w, u8x, u8y⟩ r h S1 w1 hx u86 u87 u88 u89 u8q u8r u8s u8t u8u u8v p1 u91 u92 u93 u94 u95 u96 junk
  try dsimp only at h
  subst u92
  subst u94
  subst u96
  refine Gi h (fun h10 h => ?_) fun h10 h => ?_
  ·
   rw [h10]
   refine Gn 9 [(4, .i 0)] Jc3 ?_
   have z2 : Ext S1 w1 S1 (w1).drew := Xk
   have p2 := p1.draw
   refine Gd [] (Fc S1 (w1).drew [(⟨u8p, 0, none⟩, Sl u8t u8y u8v), (⟨u8o, 0, none⟩, Sl u8q u8x u8s)]) 2 17 ?_
   generalize (w1).drew = w2 at z2 p2 ⊢
   refine Al 0 60 2 14 60 ⟨u8p, 0, none⟩ (Sl u8t u8y u8v) (p2.k [(5, 0, 1), (4, 0, 1)]) (fun _ h => h.2.at_ 0 rfl) ?_
   refine Xb 1 (.call { callee := .builtin .len, args := #[14], argTypes := #[60] }) 15 3 (.i (u8y.length : Int)) (p2.k [(5, 0, 1), (4, 0, 1)]) ?_
   refine Xb 2 (.binOp .eql 3 15 (.const (.int .i64 0)) 3) 16 4 (.bool (decide ((u8y.length : Int) = 0))) (p2.k [(5, 0, 1), (4, 0, 1)]) ?_
   refine Xb 3 (.move 16) 17 4 (.bool (decide ((u8y.length : Int) = 0))) (p2.k [(5, 0, 1), (4, 0, 1)]) ?_
   refine Gi h (fun h11 h => ?_) fun h11 h => ?_
   ·
    rw [dt h11]
    refine Xf 4 18 (p2.k [(5, 0, 1), (4, 0, 1)]) ?_
    refine Xf 5 19 (p2.k [(5, 0, 1), (4, 0, 1)]) ?_
    refine Xf 6 20 (p2.k [(5, 0, 1), (4, 0, 1)]) ?_
    refine Xf 7 21 (p2.k [(5, 0, 1), (4, 0, 1)]) ?_
    refine Xf 8 22 (p2.k [(5, 0, 1), (4, 0, 1)]) ?_
    refine Xf 9 23 (p2.k [(5, 0, 1), (4, 0, 1)]) ?_
    refine Xf 10 24 (p2.k [(5, 0, 1), (4, 0, 1)]) ?_
    refine Xf 11 25 (p2.k [(5, 0, 1), (4, 0, 1)]) ?_
    refine Xf 12 26 (p2.k [(5, 0, 1), (4, 0, 1)]) ?_
    refine Xf 13 27 (p2.k [(5, 0, 1), (4, 0, 1)]) ?_
    refine Xf 14 28 (p2.k [(5, 0, 1), (4, 0, 1)]) ?_
    refine Xf 15 29 (p2.k [(5, 0, 1), (4, 0, 1)]) ?_
    refine Xb 16 (.pick 17 (.const (.bool true)) 29) 30 4 (.bool true) (p2.k [(5, 0, 1), (4, 0, 1)]) ?_
    refine Ad ?_
    exact Gj 73 [(0, yieldV lx0), (1, (pt u8o 0)), (2, (pt u8p 0)), (4, .i 0), (30, .bool true)] (udm _ _ h _ _ (hx.t z2) _ _ _ _ _ _ _ _ _ _ p2 (u91.ext z2) rfl (u93.ext z2) rfl (u95.ext z2) rfl)
   ·
    rw [df h11]
    refine Al 4 60 1 18 60 ⟨u8o, 0, none⟩ (Sl u8q u8x u8s) (p2.k [(5, 0, 1), (4, 0, 1)]) (fun _ h => h.2.at_ 1 rfl) ?_
    refine Xb 5 (.call { callee := .builtin .len, args := #[18], argTypes := #[60] }) 19 3 (.i (u8x.length : Int)) (p2.k [(5, 0, 1), (4, 0, 1)]) ?_
    refine Xb 6 (.binOp .gtr 3 19 (.const (.int .i64 0)) 3) 20 4 (.bool (decide ((u8x.length : Int) > 0))) (p2.k [(5, 0, 1), (4, 0, 1)]) ?_
    refine Xb 7 (.move 20) 21 4 (.bool (decide ((u8x.length : Int) > 0))) (p2.k [(5, 0, 1), (4, 0, 1)]) ?_
    refine Gi h (fun h13 h => ?_) fun h13 h => ?_
    ·
     rw [dt h13]
     refine Al 8 60 1 22 60 ⟨u8o, 0, none⟩ (Sl u8q u8x u8s) (p2.k [(5, 0, 1), (4, 0, 1)]) (fun _ h => h.2.at_ 1 rfl) ?_
     refine Gg h fun g14 h => ?_
     refine Xn (i := 9) 60 22 (.const (.int .i64 0)) 23 0 22 .i64 0 (gi u8x 0) rfl rfl (u93.ext z2) (by kernel_rfl) (by kernel_rfl) (p2.k [(5, 0, 1), (4, 0, 1)]) (by kernel_rfl) (by kernel_rfl) (by kernel_rfl) (by kernel_rfl) (by decide : (0 : Int) ≤ 0) g14 fun a15 _ f16 q17 => ?_
     obtain rfl := q17
     refine Al 10 22 23 24 22 a15 (.u (gi u8x 0)) (p2.k [(5, 0, 1), (4, 0, 1)]) (fun _ h => f16.fc h 0 _ rfl) ?_
     refine Al 11 60 2 25 60 ⟨u8p, 0, none⟩ (Sl u8t u8y u8v) (p2.k [(5, 0, 1), (4, 0, 1)]) (fun _ h => h.2.at_ 0 rfl) ?_
     refine Gg h fun g18 h => ?_
     refine Xn (i := 12) 60 25 (.const (.int .i64 0)) 26 0 22 .i64 0 (gi u8y 0) rfl rfl (u95.ext z2) (by kernel_rfl) (by kernel_rfl) (p2.k [(5, 0, 1), (4, 0, 1)]) (by kernel_rfl) (by kernel_rfl) (by kernel_rfl) (by kernel_rfl) (by decide : (0 : Int) ≤ 0) g18 fun a19 _ f20 q21 => ?_
     obtain rfl := q21
     refine Al 13 22 26 27 22 a19 (.u (gi u8y 0)) (p2.k [(5, 0, 1), (4, 0, 1)]) (fun _ h => f20.fc h 0 _ rfl) ?_
     refine Xb 14 (.binOp .leq 22 24 27 22) 28 4 (.bool (decide (gi u8x 0 ≤ gi u8y 0))) (p2.k [(5, 0, 1), (4, 0, 1)]) ?_
     refine Xb 15 (.pick 21 28 (.const (.bool false))) 29 4 (.bool (decide (gi u8x 0 ≤ gi u8y 0))) (p2.k [(5, 0, 1), (4, 0, 1)]) ?_
     refine Xb 16 (.pick 17 (.const (.bool true)) 29) 30 4 (.bool (decide (gi u8x 0 ≤ gi u8y 0))) (p2.k [(5, 0, 1), (4, 0, 1)]) ?_
     refine Ad ?_
     exact Gj 73 [(0, yieldV lx0), (1, (pt u8o 0)), (2, (pt u8p 0)), (4, .i 0), (30, .bool (decide (gi u8x 0 ≤ gi u8y 0)))] (udm _ _ h _ _ (hx.t z2) _ _ _ _ _ _ _ _ _ _ p2 (u91.ext z2) rfl (u93.ext z2) rfl (u95.ext z2) rfl)
    ·
     rw [df h13]
     refine Xf 8 22 (p2.k [(5, 0, 1), (4, 0, 1)]) ?_
     refine Xf 9 23 (p2.k [(5, 0, 1), (4, 0, 1)]) ?_
     refine Xf 10 24 (p2.k [(5, 0, 1), (4, 0, 1)]) ?_
     refine Xf 11 25 (p2.k [(5, 0, 1), (4, 0, 1)]) ?_
     refine Xf 12 26 (p2.k [(5, 0, 1), (4, 0, 1)]) ?_
     refine Xf 13 27 (p2.k [(5, 0, 1), (4, 0, 1)]) ?_
     refine Xf 14 28 (p2.k [(5, 0, 1), (4, 0, 1)]) ?_
     refine Xb 15 (.pick 21 28 (.const (.bool false))) 29 4 (.bool false) (p2.k [(5, 0, 1), (4, 0, 1)]) ?_
     refine Xb 16 (.pick 17 (.const (.bool true)) 29) 30 4 (.bool false) (p2.k [(5, 0, 1), (4, 0, 1)]) ?_
     refine Ad ?_
     exact Gj 73 [(0, yieldV lx0), (1, (pt u8o 0)), (2, (pt u8p 0)), (4, .i 0), (30, .bool false)] (udm _ _ h _ _ (hx.t z2) _ _ _ _ _ _ _ _ _ _ p2 (u91.ext z2) rfl (u93.ext z2) rfl (u95.ext z2) rfl)
  ·
   rw [bf h10]
   refine Gn 2 [] [] ?_
   obtain rfl := sj h
   exact Xy (fn := Tryz.f302) (by kernel_rfl) (v := .tuple #[]) (by kernel_rfl) ⟨S1, u86, u8w.length, u88, u89, u8q, u8x.length, u8s, u8t, u8y.length, u8v, rfl, hx, p1, u91, rfl, u93, rfl, u95, rfl⟩
 ·
  intro udn udo ⟨x4, x30, u8w, u8x, u8y⟩ r h S1 w1 hx u86 u87 u88 u89 u8q u8r u8s u8t u8u u8v p1 u91 u92 u93 u94 u95 u96 junk
  try dsimp only at h
  subst u92
  subst u94
  subst u96
  refine Gi h (fun h22 h => ?_) fun h22 h => ?_
  ·
   rw [h22]
   refine Gm 6 [([31], .i x4), ([32, 4], .i (ior .i64 x4 1))] Jbv ?_
   exact Gj 73 [(0, yieldV lx0), (1, (pt u8o 0)), (2, (pt u8p 0)), (4, .i (ior .i64 x4 1))] (udo _ _ h _ _ hx _ _ _ _ _ _ _ _ _ _ p1 u91 rfl u93 rfl u95 rfl)
  ·
   rw [bf h22]
   refine Gn 2 [] Jbv ?_
   exact Gj 73 [(0, yieldV lx0), (1, (pt u8o 0)), (2, (pt u8p 0)), (4, .i x4)] (udo _ _ h _ _ hx _ _ _ _ _ _ _ _ _ _ p1 u91 rfl u93 rfl u95 rfl)
 ·
  intro udp udq ⟨x4, u8w, u8x, u8y⟩ r h S1 w1 hx u86 u87 u88 u89 u8q u8r u8s u8t u8u u8v p1 u91 u92 u93 u94 u95 u96 junk
  try dsimp only at h
  subst u92
  subst u94
  subst u96
  refine Gn 2 [] Jc4 ?_
  have z3 : Ext S1 w1 S1 (w1).drew := Xk
  have p3 := p1.draw
  refine Gd [] (Fc S1 (w1).drew [(⟨u8o, 0, none⟩, Sl u8q u8x u8s), (⟨u8p, 0, none⟩, Sl u8t u8y u8v)]) 4 17 ?_
  generalize (w1).drew = w3 at z3 p3 ⊢
  refine Al 0 60 1 33 60 ⟨u8o, 0, none⟩ (Sl u8q u8x u8s) (p3.k [(4, 0, 1), (5, 0, 1)]) (fun _ h => h.2.at_ 0 rfl) ?_
  refine Xb 1 (.call { callee := .builtin .len, args := #[33], argTypes := #[60] }) 34 3 (.i (u8x.length : Int)) (p3.k [(4, 0, 1), (5, 0, 1)]) ?_
  refine Xb 2 (.binOp .eql 3 34 (.const (.int .i64 0)) 3) 35 4 (.bool (decide ((u8x.length : Int) = 0))) (p3.k [(4, 0, 1), (5, 0, 1)]) ?_
  refine Xb 3 (.move 35) 36 4 (.bool (decide ((u8x.length : Int) = 0))) (p3.k [(4, 0, 1), (5, 0, 1)]) ?_
  refine Gi h (fun h24 h => ?_) fun h24 h => ?_
  ·
   rw [dt h24]
   refine Xf 4 37 (p3.k [(4, 0, 1), (5, 0, 1)]) ?_
   refine Xf 5 38 (p3.k [(4, 0, 1), (5, 0, 1)]) ?_
   refine Xf 6 39 (p3.k [(4, 0, 1), (5, 0, 1)]) ?_
   refine Xf 7 40 (p3.k [(4, 0, 1), (5, 0, 1)]) ?_
   refine Xf 8 41 (p3.k [(4, 0, 1), (5, 0, 1)]) ?_
   refine Xf 9 42 (p3.k [(4, 0, 1), (5, 0, 1)]) ?_
   refine Xf 10 43 (p3.k [(4, 0, 1), (5, 0, 1)]) ?_
   refine Xf 11 44 (p3.k [(4, 0, 1), (5, 0, 1)]) ?_
   refine Xf 12 45 (p3.k [(4, 0, 1), (5, 0, 1)]) ?_
   refine Xf 13 46 (p3.k [(4, 0, 1), (5, 0, 1)]) ?_
   refine Xf 14 47 (p3.k [(4, 0, 1), (5, 0, 1)]) ?_
   refine Xf 15 48 (p3.k [(4, 0, 1), (5, 0, 1)]) ?_
   refine Xb 16 (.pick 36 (.const (.bool true)) 48) 49 4 (.bool true) (p3.k [(4, 0, 1), (5, 0, 1)]) ?_
   refine Ad ?_
   exact Gj 73 [(0, yieldV lx0), (1, (pt u8o 0)), (2, (pt u8p 0)), (4, .i x4), (49, .bool true)] (udq _ _ h _ _ (hx.t z3) _ _ _ _ _ _ _ _ _ _ p3 (u91.ext z3) rfl (u93.ext z3) rfl (u95.ext z3) rfl)
  ·
   rw [df h24]
   refine Al 4 60 2 37 60 ⟨u8p, 0, none⟩ (Sl u8t u8y u8v) (p3.k [(4, 0, 1), (5, 0, 1)]) (fun _ h => h.2.at_ 1 rfl) ?_
   refine Xb 5 (.call { callee := .builtin .len, args := #[37], argTypes := #[60] }) 38 3 (.i (u8y.length : Int)) (p3.k [(4, 0, 1), (5, 0, 1)]) ?_
   refine Xb 6 (.binOp .gtr 3 38 (.const (.int .i64 0)) 3) 39 4 (.bool (decide ((u8y.length : Int) > 0))) (p3.k [(4, 0, 1), (5, 0, 1)]) ?_
   refine Xb 7 (.move 39) 40 4 (.bool (decide ((u8y.length : Int) > 0))) (p3.k [(4, 0, 1), (5, 0, 1)]) ?_
   refine Gi h (fun h26 h => ?_) fun h26 h => ?_
   ·
    rw [dt h26]
    refine Al 8 60 2 41 60 ⟨u8p, 0, none⟩ (Sl u8t u8y u8v) (p3.k [(4, 0, 1), (5, 0, 1)]) (fun _ h => h.2.at_ 1 rfl) ?_
    refine Gg h fun g27 h => ?_
    refine Xn (i := 9) 60 41 (.const (.int .i64 0)) 42 0 22 .i64 0 (gi u8y 0) rfl rfl (u95.ext z3) (by kernel_rfl) (by kernel_rfl) (p3.k [(4, 0, 1), (5, 0, 1)]) (by kernel_rfl) (by kernel_rfl) (by kernel_rfl) (by kernel_rfl) (by decide : (0 : Int) ≤ 0) g27 fun a28 _ f29 q30 => ?_
    obtain rfl := q30
    refine Al 10 22 42 43 22 a28 (.u (gi u8y 0)) (p3.k [(4, 0, 1), (5, 0, 1)]) (fun _ h => f29.fc h 0 _ rfl) ?_
    refine Al 11 60 1 44 60 ⟨u8o, 0, none⟩ (Sl u8q u8x u8s) (p3.k [(4, 0, 1), (5, 0, 1)]) (fun _ h => h.2.at_ 0 rfl) ?_
    refine Gg h fun g31 h => ?_
    refine Xn (i := 12) 60 44 (.const (.int .i64 0)) 45 0 22 .i64 0 (gi u8x 0) rfl rfl (u93.ext z3) (by kernel_rfl) (by kernel_rfl) (p3.k [(4, 0, 1), (5, 0, 1)]) (by kernel_rfl) (by kernel_rfl) (by kernel_rfl) (by kernel_rfl) (by decide : (0 : Int) ≤ 0) g31 fun a32 _ f33 q34 => ?_
    obtain rfl := q34
    refine Al 13 22 45 46 22 a32 (.u (gi u8x 0)) (p3.k [(4, 0, 1), (5, 0, 1)]) (fun _ h => f33.fc h 0 _ rfl) ?_
    refine Xb 14 (.binOp .leq 22 43 46 22) 47 4 (.bool (decide (gi u8y 0 ≤ gi u8x 0))) (p3.k [(4, 0, 1), (5, 0, 1)]) ?_
    refine Xb 15 (.pick 40 47 (.const (.bool false))) 48 4 (.bool (decide (gi u8y 0 ≤ gi u8x 0))) (p3.k [(4, 0, 1), (5, 0, 1)]) ?_
    refine Xb 16 (.pick 36 (.const (.bool true)) 48) 49 4 (.bool (decide (gi u8y 0 ≤ gi u8x 0))) (p3.k [(4, 0, 1), (5, 0, 1)]) ?_
    refine Ad ?_
    exact Gj 73 [(0, yieldV lx0), (1, (pt u8o 0)), (2, (pt u8p 0)), (4, .i x4), (49, .bool (decide (gi u8y 0 ≤ gi u8x 0)))] (udq _ _ h _ _ (hx.t z3) _ _ _ _ _ _ _ _ _ _ p3 (u91.ext z3) rfl (u93.ext z3) rfl (u95.ext z3) rfl)
   ·
    rw [df h26]
    refine Xf 8 41 (p3.k [(4, 0, 1), (5, 0, 1)]) ?_
    refine Xf 9 42 (p3.k [(4, 0, 1), (5, 0, 1)]) ?_
    refine Xf 10 43 (p3.k [(4, 0, 1), (5, 0, 1)]) ?_
    refine Xf 11 44 (p3.k [(4, 0, 1), (5, 0, 1)]) ?_
    refine Xf 12 45 (p3.k [(4, 0, 1), (5, 0, 1)]) ?_
    refine Xf 13 46 (p3.k [(4, 0, 1), (5, 0, 1)]) ?_
    refine Xf 14 47 (p3.k [(4, 0, 1), (5, 0, 1)]) ?_
    refine Xb 15 (.pick 40 47 (.const (.bool false))) 48 4 (.bool false) (p3.k [(4, 0, 1), (5, 0, 1)]) ?_
    refine Xb 16 (.pick 36 (.const (.bool true)) 48) 49 4 (.bool false) (p3.k [(4, 0, 1), (5, 0, 1)]) ?_
    refine Ad ?_
    exact Gj 73 [(0, yieldV lx0), (1, (pt u8o 0)), (2, (pt u8p 0)), (4, .i x4), (49, .bool false)] (udq _ _ h _ _ (hx.t z3) _ _ _ _ _ _ _ _ _ _ p3 (u91.ext z3) rfl (u93.ext z3) rfl (u95.ext z3) rfl)
 ·
  intro udr uds ⟨x4, x49, u8w, u8x, u8y⟩ r h S1 w1 hx u86 u87 u88 u89 u8q u8r u8s u8t u8u u8v p1 u91 u92 u93 u94 u95 u96 junk
  try dsimp only at h
  subst u92
  subst u94
  subst u96
  refine Gi h (fun h35 h => ?_) fun h35 h => ?_
  ·
   rw [h35]
   refine Gm 6 [([50], .i x4), ([51, 4], .i (ior .i64 x4 2))] Jbx ?_
   exact Gj 73 [(0, yieldV lx0), (1, (pt u8o 0)), (2, (pt u8p 0)), (4, .i (ior .i64 x4 2))] (uds _ _ h _ _ hx _ _ _ _ _ _ _ _ _ _ p1 u91 rfl u93 rfl u95 rfl)
  ·
   rw [bf h35]
   refine Gn 2 [] Jbx ?_
   exact Gj 73 [(0, yieldV lx0), (1, (pt u8o 0)), (2, (pt u8p 0)), (4, .i x4)] (uds _ _ h _ _ hx _ _ _ _ _ _ _ _ _ _ p1 u91 rfl u93 rfl u95 rfl)
 ·
  intro udt udu ⟨x4, u8w, u8x, u8y⟩ r h S1 w1 hx u86 u87 u88 u89 u8q u8r u8s u8t u8u u8v p1 u91 u92 u93 u94 u95 u96 junk
  try dsimp only at h
  subst u92
  subst u94
  subst u96
  refine Gn 11 [(5, .u 0), (52, .i x4), (53, .i (iand .i64 x4 2)), (54, .bool (!(decide (iand .i64 x4 2 = 0))))] Jc5 ?_
  refine Gi h (fun h37 h => ?_) fun h37 h => ?_
  ·
   rw [dt h37]
   refine Gn 2 [] Jbz ?_
   exact Gj 73 [(0, yieldV lx0), (1, (pt u8o 0)), (2, (pt u8p 0)), (4, .i x4), (5, .u 0)] (udu _ _ h _ _ hx _ _ _ _ _ _ _ _ _ _ p1 u91 rfl u93 rfl u95 rfl)
  ·
   rw [df h37]
   refine Gn 1 [] Jc6 ?_
   have z4 : Ext S1 w1 S1 (w1).drew := Xk
   have p4 := p1.draw
   refine Gd [6] (Fc S1 (w1).drew [(⟨u8p, 0, none⟩, Sl u8t u8y u8v)]) 8 7 ?_
   generalize (w1).drew = w4 at z4 p4 ⊢
   refine Al 0 60 2 55 60 ⟨u8p, 0, none⟩ (Sl u8t u8y u8v) (p4.k [(5, 0, 1)]) (fun _ h => h.2.at_ 0 rfl) ?_
   refine Gg h fun g39 h => ?_
   refine Xn (i := 1) 60 55 (.const (.int .i64 0)) 56 0 22 .i64 0 (gi u8y 0) rfl rfl (u95.ext z4) (by kernel_rfl) (by kernel_rfl) (p4.k [(5, 0, 1)]) (by kernel_rfl) (by kernel_rfl) (by kernel_rfl) (by kernel_rfl) (by decide : (0 : Int) ≤ 0) g39 fun a40 _ f41 q42 => ?_
   obtain rfl := q42
   refine Al 2 22 56 57 22 a40 (.u (gi u8y 0)) (p4.k [(5, 0, 1)]) (fun _ h => f41.fc h 0 _ rfl) ?_
   refine Al 3 60 2 58 60 ⟨u8p, 0, none⟩ (Sl u8t u8y u8v) (p4.k [(5, 0, 1)]) (fun _ h => h.2.at_ 0 rfl) ?_
   refine Gg h fun g43 h => ?_
   refine AnyG.slR_n (i := 4) 60 58 (some (.const (.int .i64 1))) none 59 60 22 1 (u8y.length : Int) (sl u8y 1 (u8y.length : Int)) rfl rfl (u95.ext z4) (by kernel_rfl) (by kernel_rfl) (p4.k [(5, 0, 1)]) (by kernel_rfl) (by kernel_rfl) (by kernel_rfl) (Xt .i64 (by kernel_rfl)) Xv (by decide : (0 : Int) ≤ 1) g43 (Int.le_refl _) fun A44 c45 f46 => ?_
   refine Xb 5 (.assign 57) 5 22 (.u (gi u8y 0)) (p4.k [(5, 0, 1)]) ?_
   refine So 60 2 59 0 5 u8p 0 (.slice A44 ((sl u8y 1 (u8y.length : Int)).length) c45) [.slice A44 ((sl u8y 1 (u8y.length : Int)).length) c45] p4 rfl (As 6) fun w5 z5 p5 => ?_
   refine Xi [] (Fc S1 w5 []) (by decide) ?_
   refine Ad ?_
   exact Gj 73 [(0, yieldV lx0), (1, (pt u8o 0)), (2, (pt u8p 0)), (4, .i x4), (5, .u (gi u8y 0))] (udu _ _ h _ _ ((hx.t z4).t z5) _ _ _ _ _ _ _ _ _ _ p5 (u91.ext (z4.t z5)) rfl (u93.ext (z4.t z5)) rfl (f46.ext z5) rfl)
 ·
  intro udv udw ⟨x4, x5, u8w, u8x, u8y⟩ r h S1 w1 hx u86 u87 u88 u89 u8q u8r u8s u8t u8u u8v p1 u91 u92 u93 u94 u95 u96 junk
  try dsimp only at h
  subst u92
  subst u94
  subst u96
  refine Gn 7 [(60, .i x4), (61, .i (iand .i64 x4 1)), (62, .bool (!(decide (iand .i64 x4 1 = 0))))] Jc7 ?_
  refine Gi h (fun h47 h => ?_) fun h47 h => ?_
  ·
   rw [dt h47]
   refine Gn 2 [] Jc0 ?_
   exact Gj 73 [(0, yieldV lx0), (1, (pt u8o 0)), (2, (pt u8p 0)), (4, .i x4), (5, .u x5)] (udw _ _ h _ _ hx _ _ _ _ _ _ _ _ _ _ p1 u91 rfl u93 rfl u95 rfl)
  ·
   rw [df h47]
   refine Gn 1 [] Jc8 ?_
   have z6 : Ext S1 w1 S1 (w1).drew := Xk
   have p6 := p1.draw
   refine Gd [6] (Fc S1 (w1).drew [(⟨u8o, 0, none⟩, Sl u8q u8x u8s)]) 10 7 ?_
   generalize (w1).drew = w6 at z6 p6 ⊢
   refine Al 0 60 1 63 60 ⟨u8o, 0, none⟩ (Sl u8q u8x u8s) (p6.k [(4, 0, 1)]) (fun _ h => h.2.at_ 0 rfl) ?_
   refine Gg h fun g49 h => ?_
   refine Xn (i := 1) 60 63 (.const (.int .i64 0)) 64 0 22 .i64 0 (gi u8x 0) rfl rfl (u93.ext z6) (by kernel_rfl) (by kernel_rfl) (p6.k [(4, 0, 1)]) (by kernel_rfl) (by kernel_rfl) (by kernel_rfl) (by kernel_rfl) (by decide : (0 : Int) ≤ 0) g49 fun a50 _ f51 q52 => ?_
   obtain rfl := q52
   refine Al 2 22 64 65 22 a50 (.u (gi u8x 0)) (p6.k [(4, 0, 1)]) (fun _ h => f51.fc h 0 _ rfl) ?_
   refine Al 3 60 1 66 60 ⟨u8o, 0, none⟩ (Sl u8q u8x u8s) (p6.k [(4, 0, 1)]) (fun _ h => h.2.at_ 0 rfl) ?_
   refine Gg h fun g53 h => ?_
   refine AnyG.slR_n (i := 4) 60 66 (some (.const (.int .i64 1))) none 67 60 22 1 (u8x.length : Int) (sl u8x 1 (u8x.length : Int)) rfl rfl (u93.ext z6) (by kernel_rfl) (by kernel_rfl) (p6.k [(4, 0, 1)]) (by kernel_rfl) (by kernel_rfl) (by kernel_rfl) (Xt .i64 (by kernel_rfl)) Xv (by decide : (0 : Int) ≤ 1) g53 (Int.le_refl _) fun A54 c55 f56 => ?_
   refine Xb 5 (.assign 65) 5 22 (.u (gi u8x 0)) (p6.k [(4, 0, 1)]) ?_
   refine So 60 1 67 0 4 u8o 0 (.slice A54 ((sl u8x 1 (u8x.length : Int)).length) c55) [.slice A54 ((sl u8x 1 (u8x.length : Int)).length) c55] p6 rfl (As 6) fun w7 z7 p7 => ?_
   refine Xi [] (Fc S1 w7 []) (by decide) ?_
   refine Ad ?_
   exact Gj 73 [(0, yieldV lx0), (1, (pt u8o 0)), (2, (pt u8p 0)), (4, .i x4), (5, .u (gi u8x 0))] (udw _ _ h _ _ ((hx.t z6).t z7) _ _ _ _ _ _ _ _ _ _ p7 (u91.ext (z6.t z7)) rfl (f56.ext z7) rfl (u95.ext (z6.t z7)) rfl)
 ·
  intro udx udy ⟨x4, x5, u8w, u8x, u8y⟩ r h S1 w1 hx u86 u87 u88 u89 u8q u8r u8s u8t u8u u8v p1 u91 u92 u93 u94 u95 u96 junk
  try dsimp only at h
  subst u92
  subst u94
  subst u96
  refine Gn 5 [(68, yieldV lx0), (69, .u x5), (70, .i x4)] Jca ?_
  refine Gb h fun y57 e58 h => ?_
  refine Goes.yieldAt (.call { callee := .value 68, args := #[69, 70], argTypes := #[22, 3] }) 71 4 0 lx0 #[.u x5, .i x4] p1 rfl (by kernel_rfl) rfl (fun _ => by kernel_rfl) rfl (W.z3e u8w u8x u8y x5 x4 y57 e58 _ _ _ _ _ _ _ _ _ _ _ _ _ _ _ _ _ p1 u91 rfl u93 rfl u95 rfl) ?_
  rintro _ w8 ⟨S8, u9m, u9n, u9o, u9p, rfl, z8, p8, u9q, rfl⟩
  refine Gn 6 [(72, .bool (!true))] Jbr ?_
  exact Gj 73 [(0, yieldV lx0), (1, (pt u8o 0)), (2, (pt u8p 0))] (udy _ _ h _ _ (hx.t z8) _ _ _ _ _ _ _ _ _ _ p8 u9q rfl (u93.ext z8) rfl (u95.ext z8) rfl)
theorem W.z3g {nz wz S0 w0 Lr} (lx0 : Nat) (rx0 : Nat) (u2f : Nat → Value) (u8m : Nat) (u8n : Nat) (u8o : Nat) (u8p : Nat) : ∀ a r, M.ad a = some r → (L.z3g nz wz S0 w0 Lr lx0 rx0 u2f u8m u8n u8o u8p) a r := (W.z3o lx0 rx0 u2f u8m u8n u8o u8p).1
theorem W.z3h {nz wz S0 w0 Lr} (lx0 : Nat) (rx0 : Nat) (u2f : Nat → Value) (u8m : Nat) (u8n : Nat) (u8o : Nat) (u8p : Nat) : ∀ a r, M.a1b a = some r → (L.z3h nz wz S0 w0 Lr lx0 rx0 u2f u8m u8n u8o u8p) a r := (W.z3o lx0 rx0 u2f u8m u8n u8o u8p).2.1
theorem W.z3i {nz wz S0 w0 Lr} (lx0 : Nat) (rx0 : Nat) (u2f : Nat → Value) (u8m : Nat) (u8n : Nat) (u8o : Nat) (u8p : Nat) : ∀ a r, M.aq a = some r → (L.z3i nz wz S0 w0 Lr lx0 rx0 u2f u8m u8n u8o u8p) a r := (W.z3o lx0 rx0 u2f u8m u8n u8o u8p).2.2.1
theorem W.z3j {nz wz S0 w0 Lr} (lx0 : Nat) (rx0 : Nat) (u2f : Nat → Value) (u8m : Nat) (u8n : Nat) (u8o : Nat) (u8p : Nat) : ∀ a r, M.a1c a = some r → (L.z3j nz wz S0 w0 Lr lx0 rx0 u2f u8m u8n u8o u8p) a r := (W.z3o lx0 rx0 u2f u8m u8n u8o u8p).2.2.2.1
theorem W.z3k {nz wz S0 w0 Lr} (lx0 : Nat) (rx0 : Nat) (u2f : Nat → Value) (u8m : Nat) (u8n : Nat) (u8o : Nat) (u8p : Nat) : ∀ a r, M.ar a = some r → (L.z3k nz wz S0 w0 Lr lx0 rx0 u2f u8m u8n u8o u8p) a r := (W.z3o lx0 rx0 u2f u8m u8n u8o u8p).2.2.2.2.1
theorem W.z3l {nz wz S0 w0 Lr} (lx0 : Nat) (rx0 : Nat) (u2f : Nat → Value) (u8m : Nat) (u8n : Nat) (u8o : Nat) (u8p : Nat) : ∀ a r, M.a1d a = some r → (L.z3l nz wz S0 w0 Lr lx0 rx0 u2f u8m u8n u8o u8p) a r := (W.z3o lx0 rx0 u2f u8m u8n u8o u8p).2.2.2.2.2.1
theorem W.z3m {nz wz S0 w0 Lr} (lx0 : Nat) (rx0 : Nat) (u2f : Nat → Value) (u8m : Nat) (u8n : Nat) (u8o : Nat) (u8p : Nat) : ∀ a r, M.a1e a = some r → (L.z3m nz wz S0 w0 Lr lx0 rx0 u2f u8m u8n u8o u8p) a r := (W.z3o lx0 rx0 u2f u8m u8n u8o u8p).2.2.2.2.2.2.1
theorem W.z3n {nz wz S0 w0 Lr} (lx0 : Nat) (rx0 : Nat) (u2f : Nat → Value) (u8m : Nat) (u8n : Nat) (u8o : Nat) (u8p : Nat) : ∀ a r, M.a1f a = some r → (L.z3n nz wz S0 w0 Lr lx0 rx0 u2f u8m u8n u8o u8p) a r := (W.z3o lx0 rx0 u2f u8m u8n u8o u8p).2.2.2.2.2.2.2
theorem W.z3f (u9r : List Int) (u9s : List Int) (u9t : List Int) (r : (List Int) × (List Int) × (List Int)) (h : M.a71 u9r u9s u9t = some r) {nz wz S0 w0 Lr} (lx0 rx0 u2f u8m u8n u9u u9v u9w u9x u8o u9y u9z ua0 u8p ua1 ua2 ua3) (p0 : Hp nz wz S0 w0 ((some lx0, .obj (lpst 251 (lfr 23 [(5, (pt u8m 0)), (7, (pt u8n 0)), (12, .func (.func 302) #[] #[(pt u8o 0), (pt u8p 0)])] u2f) #[13, 14] (rfAssign (Q90)) (rfBody (Q90)) rx0 .ready none)) :: (some u8m, .row 313 [.func (.func 205) #[] #[]] 1 0) :: (some u8n, .row 60 [.slice (Gp u9u) u9v u9w] 1 0) :: (u9u, .row 22 u9x (u9w * kU.size) 0) :: (some u8o, .row 60 [.slice u9y u9z ua0] 1 0) :: (some u8p, .row 60 [.slice ua1 ua2 ua3] 1 0) :: Lr)) (ua4 : Els kU S0 w0 u9x u9r) (ua5 : u9r.length = u9v) (ua6 : Rd kU S0 w0 u9y ua0 u9s) (ua7 : u9s.length = u9z) (ua8 : Rd kU S0 w0 ua1 ua3 u9t) (ua9 : u9t.length = ua2) :
  Calls Tg 302 #[yieldV lx0, (pt u8o 0), (pt u8p 0)] w0 (Rets (Post.z3f nz wz S0 w0 Lr lx0 rx0 u2f u8m u8n u8o u8p r)) := by
 subst ua5
 subst ua7
 subst ua9
 refine Zf Tryz.f302 B302 70 ?_
 refine Gj 73 [(0, yieldV lx0), (1, (pt u8o 0)), (2, (pt u8p 0))] fun junk => ?_
 delta M.a71 at h
 refine Gn 2 [] Jbr ?_
 exact Gj 73 [(0, yieldV lx0), (1, (pt u8o 0)), (2, (pt u8p 0))] (W.z3g lx0 rx0 u2f u8m u8n u8o u8p _ _ h _ _ (Xj S0 w0) _ _ _ _ _ _ _ _ _ _ p0 ua4 rfl ua6 rfl ua8 rfl)
def Post.z3p (r : List Int) (v : Value) (w' : World) : Prop :=
 ∃ S' Gq nq cq csq, v = .slice (Gp Gq) nq cq ∧ Ext S0 w0 S' w' ∧ Hp nz wz S' w' ((Gq, .row 22 csq (cq * kU.size) 0) :: Lr) ∧ Els kU S' w' csq r ∧ r.length = nq
theorem W.z3p (x0 : List Int) (x1 : List Int) (r : List Int) (h : M.a6b x0 x1 = some r) {nz wz S0 w0 Lr} (Ax0 nx0 cx0 Ax1 nx1 cx1) (p0 : Hp nz wz S0 w0 (Lr)) (fx0 : Rd kU S0 w0 Ax0 cx0 x0) (lx0 : x0.length = nx0) (fx1 : Rd kU S0 w0 Ax1 cx1 x1) (lx1 : x1.length = nx1) :
  Calls Tg 251 #[.slice Ax0 nx0 cx0, .slice Ax1 nx1 cx1, .func (.func 205) #[] #[]] w0 (Rets (Post.z3p nz wz S0 w0 Lr r)) := by
 subst lx0
 subst lx1
 refine Zf Tryz.f251 B251 20 ?_
 refine Gj 23 [(0, Sl Ax0 x0 cx0), (1, Sl Ax1 x1 cx1), (2, .func (.func 205) #[] #[])] fun junk => ?_
 delta M.a6b at h
 refine Gn 2 [] Jcc ?_
 refine Ob 313 2 5 0 (.func (.func 205) #[] #[]) [.func (.func 205) #[] #[]] p0 Xa fun b1 w2 z2 p2 => ?_
 refine Gn 4 [(6, Sn)] Jce ?_
 refine Oa 60 7 0 (Sn) [Sn] p2 Xa fun b3 w3 z3 p3 => ?_
 refine Gn 6 [(10, Sl Ax0 x0 cx0), (11, Sl Ax1 x1 cx1)] Jch ?_
 refine Gb h fun y5 e6 h => ?_
 refine Gc (kc 280 [10, 11] #[60, 60]) 12 375 280 _ (W.z29 x0 x1 y5 e6 _ _ _ _ _ _ p3 (fx0.ext (z2.t z3)) rfl (fx1.ext (z2.t z3)) rfl) ?_
 rintro _ w4 ⟨S4, uaa, uab, uac, uad, uae, uaf, uag, uah, rfl, z4, p4, uai, rfl, uaj, rfl⟩
 refine Gn 2 [] Jcj ?_
 refine Gj 23 [(5, (pt b1 0)), (7, (pt b3 0)), (12, .func (.func 302) #[] #[(pt uaa 0), (pt uae 0)])] (fun uak => ?_)
 refine Goes.rangeF (f := 251) 12 #[13, 14] 302 #[] #[(pt uaa 0), (pt uae 0)] (by kernel_rfl) (by kernel_rfl) (fun _ => by kernel_rfl) p4 fun r10 l11 w5 z5 p5 => ?_
 have p5 : Hp nz wz S4 w5 ((none, .row 22 [] (0 * kU.size) 0) :: (some l11, .obj (lpst 251 (lfr 23 [(5, (pt b1 0)), (7, (pt b3 0)), (12, .func (.func 302) #[] #[(pt uaa 0), (pt uae 0)])] uak) #[13, 14] (rfAssign (Q90)) (rfBody (Q90)) r10 .ready none)) :: (some r10, .obj (.deferred (some []))) :: (some uaa, .row 60 [Sl uab y5.1 uad] 1 0) :: (some uae, .row 60 [Sl uaf y5.2 uah] 1 0) :: (some b3, .row 60 [Sn] 1 0) :: (some b1, .row 313 [.func (.func 205) #[] #[]] 1 0) :: Lr) := p5.nilRow' 22
 have p5 := (((((p5.fr 4).fr 4).fr 2).fr 5).fr 6).fr 5
 refine Gb h fun y15 e16 h => ?_
 refine ⟨_, W.z3f ([] : List Int) y5.1 y5.2 y15 e16 _ _ _ _ _ none 0 0 [] _ _ _ _ _ _ _ _ p5 (Els.nil (K := kU)) rfl (uai.ext z5) rfl (uaj.ext z5) rfl, ?_⟩
 rintro _ w6 ⟨S6, ual, uam, uan, uao, uap, uaq, uar, uas, uat, uau, rfl, z6, p6, uav, rfl, uaw, rfl, uax, rfl⟩
 refine Goes.endF 0 p6 rfl rfl fun w7 z7 p7 => ?_
 replace p7 : Hp nz wz S6 w7 ((some b1, .row 313 [.func (.func 205) #[] #[]] 1 0) :: (some b3, .row 60 [Sl (Gp ual) y15.1 uan] 1 0) :: (ual, .row 22 uao (uan * kU.size) 0) :: (some uaa, .row 60 [Sl uap y15.2.1 uar] 1 0) :: (some uae, .row 60 [Sl uas y15.2.2 uau] 1 0) :: (some r10, .obj (.deferred (some []))) :: Lr) := (p7.front 0 _ rfl).drop
 show Goes _ _ Jci _ _ _
 refine Gn 3 [] Jcl ?_
 refine Xc 60 7 22 60 ⟨b3, 0, none⟩ (Sl (Gp ual) y15.1 uan) (p7.c 1 0) ?_
 refine Gn 2 [(6, Sl (Gp ual) y15.1 uan)] Jck ?_
 obtain rfl := sj h
 have p7 := (((p7.dp 0).dp 0).dp 1).dp 1
 have p7 := (p7.fr 0).fr 1
 refine Goes.retL ?_
 refine lvs_mark 0 rfl rfl p7 rfl fun w8 z8 p8 => ?_
 replace p8 : Hp nz wz S6 w8 ((ual, .row 22 uao (uan * kU.size) 0) :: Lr) := p8.drop
 exact lvs_done (fn := Tryz.f251) rfl rfl rfl rfl (by kernel_rfl) (v := Sl (Gp ual) y15.1 uan) (by kernel_rfl) ⟨S6, ual, y15.1.length, uan, uao, rfl, ((((((z2.t z3).t z4).t z5).t z6).t z7).t z8), p8, (uav.ext (z7.t z8)), rfl⟩
def Post.z3q (r : (List Int) × Int) (v : Value) (w' : World) : Prop :=
 ∃ S' uay uaz ub0 ub1, v = .tuple #[.slice (Gp uay) uaz ub0, .i r.2] ∧ Ext S0 w0 S' w' ∧ Hp nz wz S' w' ((uay, .row 22 ub1 (ub0 * kU.size) 0) :: Lr) ∧ Els kU S' w' ub1 r.1 ∧ r.1.length = uaz
def L.z3r : (List Int) × (List (List Int)) × Int × Int → ((List Int) × Int) → Prop := fun ⟨x9, x35, x36, x37⟩ r => ∀ S1 w1, Ext S0 w0 S1 w1 → ∀ Gx9 nx9 cx9 ub2 ub3 ub4 ub5 (_ : Hp nz wz S1 w1 ((Gx9, .row 22 ub2 (cx9 * kU.size) 0) :: Lr)) (_ : Els kU S1 w1 ub2 x9) (_ : x9.length = nx9) (_ : Rd (kSl kU) S1 w1 ub3 ub5 x35) (_ : x35.length = ub4) (junk : Nat → Value),
 Goes Tg (base 203) Jcp ⟨lfr 47 [(1, .func (.func 205) #[] #[]), (9, .slice (Gp Gx9) nx9 cx9), (35, .slice ub3 ub4 ub5), (36, .i x36), (37, .i x37)] junk, []⟩ w1 (Done Tg 203 (Rets (Post.z3q nz wz S0 w0 Lr r)))
theorem W.z3r {nz wz S0 w0 Lr} : ∀ a r, M.a3u a = some r → (L.z3r nz wz S0 w0 Lr) a r := by
 refine M.a3u.partial_correctness (motive := (L.z3r nz wz S0 w0 Lr)) ?_
 intro udz ue0 ⟨x9, x35, x36, x37⟩ r h S1 w1 hx Gx9 nx9 cx9 ub2 ub3 ub4 ub5 p1 fx9 lx9 ub8 ub9 junk
 try dsimp only at h
 subst lx9
 subst ub9
 refine Gn 5 [(38, .bool (decide (x37 < x36)))] Jcr ?_
 refine Gi h (fun h33 h => ?_) fun h33 h => ?_
 ·
  rw [dt h33]
  refine Gn 6 [] Jcv ?_
  refine Gg h fun g34 h => ?_
  refine Gg h fun g35 h => ?_
  refine Oi 311 35 37 39 0 60 .i64 x37 (gi x35 x37) rfl rfl ub8 Xa g34 g35 fun a36 _ f37 q38 => ?_
  obtain ⟨A39, c40, rfl, f41⟩ := q38
  refine Xc 60 39 40 60 a36 (.slice A39 ((gi x35 x37).length) c40) (f37.cell 0 _ rfl) ?_
  refine Gm 6 [([11, 42], .slice A39 ((gi x35 x37).length) c40), ([41], Sl (Gp Gx9) x9 cx9), ([43], .func (.func 205) #[] #[])] Jcw ?_
  obtain ⟨S4, z4, p4, f42⟩ := p1.freezeRd 0 rfl fx9 (by decide)
  refine Gb h fun y43 e44 h => ?_
  refine Gc (kc 251 [41, 42, 43] #[60, 60, 313]) 44 60 251 _ (W.z3p x9 (gi x35 x37) y43 e44 _ _ _ _ _ _ p4 f42 rfl (f41.ext z4) rfl) ?_
  rintro _ w5 ⟨S5, u4z, u50, u51, u52, rfl, z5, p5, u53, rfl⟩
  have p5 := p5.dp 1
  refine Gm 8 [([9], Sl (Gp u4z) y43 u51), ([45, 37], .i (wr .i64 (x37 + 1)))] Jcp ?_
  exact Gj 47 [(1, .func (.func 205) #[] #[]), (9, Sl (Gp u4z) y43 u51), (35, Sl ub3 x35 ub5), (36, .i x36), (37, .i (wr .i64 (x37 + 1)))] (ue0 _ _ h _ _ ((hx.t z4).t z5) _ _ _ _ _ _ _ p5 u53 rfl (ub8.ext (z4.t z5)) rfl)
 ·
  rw [df h33]
  refine Gm 8 [([46, 4], Sl (Gp Gx9) x9 cx9), ([5], .i 0)] Jcx ?_
  obtain rfl := sj h
  exact Xd Tryz.f203 (.tuple #[Sl (Gp Gx9) x9 cx9, .i 0]) ⟨_, _, _, _, _, rfl, hx, p1, fx9, rfl⟩
def L.z3s : (List (List Int)) × (List (List Int)) × Int × Int → ((List Int) × Int) → Prop := fun ⟨x0, x15, x16, x17⟩ r => ∀ S1 w1, Ext S0 w0 S1 w1 → ∀ Ax0 nx0 cx0 uba ubb ubc (_ : Hp nz wz S1 w1 (Lr)) (_ : Rd (kSl kU) S1 w1 Ax0 cx0 x0) (_ : x0.length = nx0) (_ : Rd (kSl kU) S1 w1 uba ubc x15) (_ : x15.length = ubb) (junk : Nat → Value),
 Goes Tg (base 203) Jd1 ⟨lfr 47 [(0, .slice Ax0 nx0 cx0), (1, .func (.func 205) #[] #[]), (15, .slice uba ubb ubc), (16, .i x16), (17, .i x17)] junk, []⟩ w1 (Done Tg 203 (Rets (Post.z3q nz wz S0 w0 Lr r)))
theorem W.z3s {nz wz S0 w0 Lr} : ∀ a r, M.a3v a = some r → (L.z3s nz wz S0 w0 Lr) a r := by
 refine M.a3v.partial_correctness (motive := (L.z3s nz wz S0 w0 Lr)) ?_
 intro ue1 ue2 ⟨x0, x15, x16, x17⟩ r h S1 w1 hx Ax0 nx0 cx0 uba ubb ubc p1 fx0 lx0 ubf ubg junk
 try dsimp only at h
 subst lx0
 subst ubg
 refine Gn 5 [(18, .bool (decide (x17 < x16)))] Jd3 ?_
 refine Gi h (fun h3 h => ?_) fun h3 h => ?_
 ·
  rw [dt h3]
  refine Gn 6 [] Jd7 ?_
  refine Gg h fun g4 h => ?_
  refine Gg h fun g5 h => ?_
  refine Oi 311 15 17 19 0 60 .i64 x17 (gi x15 x17) rfl rfl ubf Xa g4 g5 fun a6 _ f7 q8 => ?_
  obtain ⟨A9, c10, rfl, f11⟩ := q8
  refine Xc 60 19 20 60 a6 (.slice A9 ((gi x15 x17).length) c10) (f7.cell 0 _ rfl) ?_
  refine Gm 5 [([7, 21], .slice A9 ((gi x15 x17).length) c10)] Jd9 ?_
  refine Gb h fun y12 e13 h => ?_
  refine Gc (kc 82 [21] #[60]) 22 34 82 _ (W.z27 (gi x15 x17) y12 e13 _ _ _ p1 f11 rfl) ?_
  rintro _ w2 ⟨S2, rfl, z2, p2⟩
  refine Gm 7 [([8, 23], .i y12), ([24], .bool (!(decide (y12 = 0))))] Jda ?_
  refine Gi h (fun h14 h => ?_) fun h14 h => ?_
  ·
   rw [dt h14]
   refine Gm 8 [([26, 17], .i (wr .i64 (x17 + 1)))] Jd1 ?_
   exact Gj 47 [(0, Sl Ax0 x0 cx0), (1, .func (.func 205) #[] #[]), (15, Sl uba x15 ubc), (16, .i x16), (17, .i (wr .i64 (x17 + 1)))] (ue2 _ _ h _ _ (hx.t z2) _ _ _ _ _ _ p2 (fx0.ext z2) rfl (ubf.ext z2) rfl)
  ·
   rw [df h14]
   refine Gm 7 [([25, 5], .i y12), ([4], Sn)] Jdb ?_
   have p2 : Hp nz wz S2 w2 ((none, .row 22 [] (0 * kU.size) 0) :: Lr) := p2.nilRow' 22
   obtain rfl := sj h
   exact Xd Tryz.f203 (.tuple #[.slice (Gp none) 0 0, .i y12]) ⟨_, _, _, _, _, rfl, (hx.t z2), p2, (Els.nil (K := kU)), rfl⟩
 ·
  rw [df h3]
  refine Gn 9 [(27, Sl Ax0 x0 cx0), (28, .i (x0.length : Int)), (29, .bool (decide ((x0.length : Int) = 0)))] Jdd ?_
  refine Gi h (fun h16 h => ?_) fun h16 h => ?_
  ·
   rw [dt h16]
   refine Gn 6 [(4, Sn), (5, .i 0)] Jde ?_
   have p1 : Hp nz wz S1 w1 ((none, .row 22 [] (0 * kU.size) 0) :: Lr) := p1.nilRow' 22
   obtain rfl := sj h
   exact Xd Tryz.f203 (.tuple #[.slice (Gp none) 0 0, .i 0]) ⟨_, _, _, _, _, rfl, hx, p1, (Els.nil (K := kU)), rfl⟩
  ·
   rw [df h16]
   refine Gn 5 [(30, Sl Ax0 x0 cx0)] Jdg ?_
   refine Gg h fun g18 h => ?_
   refine Oi 311 30 (.const (.int .i64 0)) 31 0 60 .i64 0 (gi x0 0) rfl rfl fx0 Xa (by decide : (0 : Int) ≤ 0) g18 fun a19 _ f20 q21 => ?_
   obtain ⟨A22, c23, rfl, f24⟩ := q21
   refine Xc 60 31 32 60 a19 (.slice A22 ((gi x0 0).length) c23) (f20.cell 0 _ rfl) ?_
   refine Gb h fun y25 e26 h => ?_
   refine Gc (kc 142 [32] #[60]) 33 60 142 _ (W.z28 (gi x0 0) y25 e26 _ _ _ p1 f24 rfl) ?_
   rintro _ w3 ⟨S3, u3g, u3h, u3i, u3j, rfl, z3, p3, u3k, rfl⟩
   refine Gn 6 [(9, Sl (Gp u3g) y25 u3i), (34, Sl Ax0 x0 cx0)] Jdi ?_
   refine Gg h fun g28 h => ?_
   refine Op_.slR_n 311 34 (some (.const (.int .i64 1))) none 35 311 60 1 (x0.length : Int) (sl x0 1 (x0.length : Int)) rfl rfl (fx0.ext z3) Xa (by kernel_rfl) (by kernel_rfl) (by kernel_rfl) (Xt .i64 (by kernel_rfl)) Xv (by decide : (0 : Int) ≤ 1) g28 (Int.le_refl _) fun A29 c30 f31 => ?_
   refine Gn 5 [(36, .i ((sl x0 1 (x0.length : Int)).length : Int)), (37, .i 0)] Jcp ?_
   exact Gj 47 [(1, .func (.func 205) #[] #[]), (9, Sl (Gp u3g) y25 u3i), (35, .slice A29 ((sl x0 1 (x0.length : Int)).length) c30), (36, .i ((sl x0 1 (x0.length : Int)).length : Int)), (37, .i 0)] (W.z3r _ _ h _ _ (hx.t z3) _ _ _ _ _ _ _ p3 u3k rfl f31 rfl)
theorem W.z3q (x0 : List (List Int)) (r : (List Int) × Int) (h : M.a6c x0 = some r) {nz wz S0 w0 Lr} (Ax0 nx0 cx0) (p0 : Hp nz wz S0 w0 (Lr)) (fx0 : Rd (kSl kU) S0 w0 Ax0 cx0 x0) (lx0 : x0.length = nx0) :
  Calls Tg 203 #[.slice Ax0 nx0 cx0, .func (.func 205) #[] #[]] w0 (Rets (Post.z3q nz wz S0 w0 Lr r)) := by
 subst lx0
 refine Zf Tryz.f203 B203 45 ?_
 refine Gj 47 [(0, Sl Ax0 x0 cx0), (1, .func (.func 205) #[] #[])] fun junk => ?_
 delta M.a6c at h
 refine Gn 12 [(4, Sn), (5, .i 0), (12, Sl Ax0 x0 cx0), (13, .i (x0.length : Int)), (14, .bool (decide ((x0.length : Int) > 4096)))] Jdk ?_
 refine Gi h (fun h1 h => ?_) fun h1 h => ?_
 ·
  rw [dt h1]
  refine Gn 6 [(4, Sn), (5, .i 3)] Jdl ?_
  have p0 : Hp nz wz S0 w0 ((none, .row 22 [] (0 * kU.size) 0) :: Lr) := p0.nilRow' 22
  obtain rfl := sj h
  exact Xd Tryz.f203 (.tuple #[.slice (Gp none) 0 0, .i 3]) ⟨_, _, _, _, _, rfl, (Xj S0 w0), p0, (Els.nil (K := kU)), rfl⟩
 ·
  rw [df h1]
  refine Gn 11 [(15, Sl Ax0 x0 cx0), (16, .i (x0.length : Int)), (17, .i 0)] Jd1 ?_
  exact Gj 47 [(0, Sl Ax0 x0 cx0), (1, .func (.func 205) #[] #[]), (15, Sl Ax0 x0 cx0), (16, .i (x0.length : Int)), (17, .i 0)] (W.z3s _ _ h _ _ (Xj S0 w0) _ _ _ _ _ _ p0 fx0 rfl fx0 rfl)
def Jh0 := Ys 111 B143 []
def Post.z3t (r : (List Int) × Int) (v : Value) (w' : World) : Prop :=
 ∃ S' uay uaz ub0 ub1, v = .tuple #[.slice (Gp uay) uaz ub0, .i r.2] ∧ Ext S0 w0 S' w' ∧ Hp nz wz S' w' ((uay, .row 22 ub1 (ub0 * kU.size) 0) :: Lr) ∧ Els kU S' w' ub1 r.1 ∧ r.1.length = uaz
theorem W.z3t (x0 : List (List Int)) (r : (List Int) × Int) (h : M.a6d x0 = some r) {nz wz S0 w0 Lr} (Ax0 nx0 cx0) (p0 : Hp nz wz S0 w0 (Lr)) (fx0 : Rd (kSl kU) S0 w0 Ax0 cx0 x0) (lx0 : x0.length = nx0) :
  Calls Tg 143 #[.slice Ax0 nx0 cx0] w0 (Rets (Post.z3t nz wz S0 w0 Lr r)) := by
 subst lx0
 refine Zf Tryz.f143 B143 7 ?_
 refine Gj 8 [(0, Sl Ax0 x0 cx0)] fun junk => ?_
 delta M.a6d at h
 refine Gn 8 [(2, Sn), (3, .i 0), (4, Sl Ax0 x0 cx0)] (Yt 110 B143 [1, 2, 3, 4, 5] Jh0) ?_
 refine Gb h fun y1 e2 h => ?_
 refine Gc (.call { callee := .value (.func 203), args := #[4, (.func 205)], argTypes := #[311, 313] }) 5 72 203 _ (W.z3q x0 y1 e2 _ _ _ p0 fx0 rfl) ?_
 rintro _ w2 ⟨S2, ubh, ubi, ubj, ubk, rfl, z2, p2, ubl, rfl⟩
 refine Gm 5 [([6, 2], Sl (Gp ubh) y1.1 ubj), ([7, 3], .i y1.2)] Jh0 ?_
 obtain rfl := sj h
 exact Xd Tryz.f143 (.tuple #[Sl (Gp ubh) y1.1 ubj, .i y1.2]) ⟨_, _, _, _, _, rfl, z2, p2, ubl, rfl⟩
def Jh2 := Ys 1111 B84 []
def Jh3 := Zb 0 Jh2
def Qd6 := Yq 1110101111101100 B84
def Jh5 := Zl Qd6 (Zb 1 Jh3)
def Jh6 := Zc Qd6 Jh5
def Qd7 := Yq 11101011111110100 B84
def Jh8 := Zl Qd7 (Zb 3 Jh3)
def Jh9 := Zc Qd7 Jh8
def Jhg := Ys 11111 B84 []
def Jhu := Zb 4 (Ys 11101011111110100111 B84 Jh8)
def Qds := Yq 1110101111111010011001 B84
def Ji2 := Zb 2 (Ys 1110101111101100111 B84 Jh5)
def Qdx := Yq 111010111110110011001 B84
def Post.z3u (gx1 : Nat) (ue3 : Nat) (u7f : List (Nat × Obj)) (ue4 : Nat) (u7e : List (List (ByteArray × (List Int)))) (r : List Int) (v : Value) (w' : World) : Prop :=
 ∃ S' Gq nq cq csq, v = .slice (Gp Gq) nq cq ∧ Ext S0 w0 S' w' ∧ Hp nz wz S' w' ((Gq, .row 22 csq (cq * kU.size) 0) :: (some gx1, .row 158 [.map (some ue3)] 1 0) :: (none, .seg 154 u7f) :: Lr) ∧ Els kU S' w' csq r ∧ r.length = nq
def LF.z3u : T29 × Nat × (List Int) × (List (List (ByteArray × (List Int)))) → (List Int) → Prop := fun ⟨x0, ue4, x2, u7e⟩ r => ∀ {nz wz S0 w0 Lr} u5 u6 u7 gx1 ue3 Ax2 nx2 cx2 u7f (_ : Hp nz wz S0 w0 ((some gx1, .row 158 [.map (some ue3)] 1 0) :: (none, .seg 154 u7f) :: Lr)) (_ : Rd kT29 S0 w0 u5 u7 x0.L) (_ : x0.L.length = u6) (_ : Pa 154 S0 ue4 ue3) (_ : Rd kU S0 w0 Ax2 cx2 x2) (_ : x2.length = nx2) (_ : Pl (oMap Value.string (kSl kU)) S0 w0 u7f u7e),
 Calls Tg 84 #[(ag (wT29 x0.Op x0.Text u5 u6 u7)), (pt gx1 0), .slice Ax2 nx2 cx2] w0 (Rets (Post.z3u nz wz S0 w0 Lr gx1 ue3 u7f ue4 u7e r))
def L.z3v (gx1 : Nat) (ue3 : Nat) (u7f : List (Nat × Obj)) : (List Int) × (List T29) × Int × Int × Nat × (List (List (ByteArray × (List Int)))) → (List Int) → Prop := fun ⟨x7, x35, x36, x37, ue4, u7e⟩ r => ∀ S1 w1, Ext S0 w0 S1 w1 → ∀ Gx7 nx7 cx7 ue5 ub3 ub4 ub5 (_ : Hp nz wz S1 w1 ((Gx7, .row 22 ue5 (cx7 * kU.size) 0) :: (some gx1, .row 158 [.map (some ue3)] 1 0) :: (none, .seg 154 u7f) :: Lr)) (_ : Els kU S1 w1 ue5 x7) (_ : x7.length = nx7) (_ : Rd kT29 S1 w1 ub3 ub5 x35) (_ : x35.length = ub4) (_ : Pa 154 S1 ue4 ue3) (_ : Pl (oMap Value.string (kSl kU)) S1 w1 u7f u7e) (junk : Nat → Value),
 Goes Tg (base 84) Jh6 ⟨lfr 67 [(1, (pt gx1 0)), (7, .slice (Gp Gx7) nx7 cx7), (35, .slice ub3 ub4 ub5), (36, .i x36), (37, .i x37)] junk, []⟩ w1 (Done Tg 84 (Rets (Post.z3u nz wz S0 w0 Lr gx1 ue3 u7f ue4 u7e r)))
def LL.z3v : (List Int) × (List T29) × Int × Int × Nat × (List (List (ByteArray × (List Int)))) → (List Int) → Prop := fun a r => ∀ {nz wz S0 w0 Lr} (gx1 : Nat) (ue3 : Nat) (u7f : List (Nat × Obj)), L.z3v nz wz S0 w0 Lr gx1 ue3 u7f a r
def L.z3w (gx1 : Nat) (ue3 : Nat) (u7f : List (Nat × Obj)) : (List Int) × (List Int) × (List T29) × Int × Int × Nat × (List (List (ByteArray × (List Int)))) → (List Int) → Prop := fun ⟨x2, x7, x49, x50, x51, ue4, u7e⟩ r => ∀ S1 w1, Ext S0 w0 S1 w1 → ∀ Ax2 nx2 cx2 Gx7 nx7 cx7 ue5 ue6 ue7 ue8 (_ : Hp nz wz S1 w1 ((Gx7, .row 22 ue5 (cx7 * kU.size) 0) :: (some gx1, .row 158 [.map (some ue3)] 1 0) :: (none, .seg 154 u7f) :: Lr)) (_ : Rd kU S1 w1 Ax2 cx2 x2) (_ : x2.length = nx2) (_ : Els kU S1 w1 ue5 x7) (_ : x7.length = nx7) (_ : Rd kT29 S1 w1 ue6 ue8 x49) (_ : x49.length = ue7) (_ : Pa 154 S1 ue4 ue3) (_ : Pl (oMap Value.string (kSl kU)) S1 w1 u7f u7e) (junk : Nat → Value),
 Goes Tg (base 84) Jh9 ⟨lfr 67 [(1, (pt gx1 0)), (2, .slice Ax2 nx2 cx2), (7, .slice (Gp Gx7) nx7 cx7), (49, .slice ue6 ue7 ue8), (50, .i x50), (51, .i x51)] junk, []⟩ w1 (Done Tg 84 (Rets (Post.z3u nz wz S0 w0 Lr gx1 ue3 u7f ue4 u7e r)))
def LL.z3w : (List Int) × (List Int) × (List T29) × Int × Int × Nat × (List (List (ByteArray × (List Int)))) → (List Int) → Prop := fun a r => ∀ {nz wz S0 w0 Lr} (gx1 : Nat) (ue3 : Nat) (u7f : List (Nat × Obj)), L.z3w nz wz S0 w0 Lr gx1 ue3 u7f a r
theorem W.z3x : (∀ a r, M.as a = some r → LF.z3u a r) ∧ (∀ a r, M.a2b a = some r → LL.z3w a r) ∧ (∀ a r, M.a3w a = some r → LL.z3v a r) := by
 refine M.as.mutual_partial_correctness LF.z3u LL.z3w LL.z3v ?_ ?_ ?_
 ·
  intro ue9 uea ueb uec ⟨x0, ue4, x2, u7e⟩ r h nz wz S0 w0 Lr u5 u6 u7 gx1 ue3 Ax2 nx2 cx2 u7f p0 um un ued fx2 lx2 u7g
  try dsimp only at h
  subst un
  subst lx2
  refine Zf Tryz.f84 B84 64 ?_
  refine Gj 67 [(0, (ag (wT29 x0.Op x0.Text u5 x0.L.length u7))), (1, (pt gx1 0)), (2, Sl Ax2 x2 cx2)] fun junk => ?_
  refine Gn 2 [] (Yt 10 B84 [0, 1] (Ys 11 B84 [])) ?_
  refine Ob 30 0 3 0 ((ag (wT29 x0.Op x0.Text u5 x0.L.length u7))) (wT29 x0.Op x0.Text u5 x0.L.length u7) p0 Xa fun b2 w2 z2 p2 => ?_
  refine Gm 10 [([6, 7], Sn), ([12], (pt b2 0))] (Yt 11100 B84 [1] (Ys 11101 B84 Jh2)) ?_
  refine Xc 3 12 13 3 ⟨b2, 0, none⟩ (.i x0.Op) (p2.c 0 0) ?_
  refine Gm 7 [([15, 14], .bool (decide (x0.Op = 0)))] (Ys 1110101 B84 Jh3) ?_
  refine Gi h (fun h4 h => ?_) fun h4 h => ?_
  ·
   rw [dt h4]
   refine Gn 3 [(16, Sl Ax2 x2 cx2)] (Yt 11101010 B84 [1, 2] Jh3) ?_
   refine Gb h fun y5 e6 h => ?_
   refine Gc (kc 142 [16] #[60]) 17 60 142 _ (W.z28 x2 y5 e6 _ _ _ p2 (fx2.ext z2) rfl) ?_
   rintro _ w3 ⟨S3, u3g, u3h, u3i, u3j, rfl, z3, p3, u3k, rfl⟩
   have p3 := p3.dp 1
   refine Gm 8 [([7, 66, 6], Sl (Gp u3g) y5 u3i)] Jhg ?_
   obtain rfl := sj h
   exact Xd Tryz.f84 (Sl (Gp u3g) y5 u3i) ⟨_, _, _, _, _, rfl, (z2.t z3), p3, u3k, rfl⟩
  ·
   rw [df h4]
   refine Gm 6 [([19, 18], .bool (decide (x0.Op = 2)))] (Ys 111010111 B84 Jh3) ?_
   refine Gi h (fun h8 h => ?_) fun h8 h => ?_
   ·
    rw [dt h8]
    refine Gn 5 [(21, Sl Ax2 x2 cx2), (22, (pt gx1 0)), (23, (pt b2 1))] (Yt 1110101110 B84 [3, 4, 5, 6, 7, 8, 9, 10] Jh3) ?_
    refine Xc 9 23 24 9 ⟨b2, 1, none⟩ (.string x0.Text) (p2.c 0 1) ?_
    have p2 := (p2.fr 2).fr 2
    refine Gb h fun y9 e10 h => ?_
    refine Gc (kc 144 [22, 24] #[62, 9]) 25 60 144 _ (W.z3c ue4 x0.Text u7e y9 e10 _ _ _ p2 (ued.ext z2) (u7g.ext z2)) ?_
    rintro _ w4 ⟨S4, uee, uef, ueg, ueh, rfl, z4, p4, uei, rfl⟩
    have p4 := p4.dp 3
    obtain ⟨S5, z5, p5, f12⟩ := p4.freezeRd 0 rfl uei (by decide)
    have f14 : Els (kSl kU) S5 w4 ([Sl Ax2 x2 cx2, Sl (Gp uee) y9 ueg] : List Value) [x2, y9] := by exact (Els.cons (K := (kSl kU)) (vs := [Sl Ax2 x2 cx2]) (x := x2) ⟨_, _, rfl, (fx2.ext ((z2.t z4).t z5))⟩ (Els.cons (K := (kSl kU)) (vs := [Sl (Gp uee) y9 ueg]) (x := y9) ⟨_, _, rfl, f12⟩ Els.nil))
    refine Om (.buildSlice 311 2 #[(0, 21), (1, 25)]) 26 311 (fun b => .slice (Gp (some b)) 2 2) 60 ([Sl Ax2 x2 cx2, Sl (Gp uee) y9 ueg] : List Value) (2 * (kSl kU).size) p5 Xa fun b13 w6 z6 p6 => ?_
    obtain ⟨S7, z7, p7, f16⟩ := p6.freezeRd 0 rfl (f14.ext z6) (by decide)
    refine Gb h fun y17 e18 h => ?_
    refine Gc (kc 143 [26] #[311]) 27 72 143 _ (W.z3t [x2, y9] y17 e18 _ _ _ p7 f16 rfl) ?_
    rintro _ w8 ⟨S8, uej, uek, uel, uem, rfl, z8, p8, uen, rfl⟩
    have p8 := (p8.dp 1).dp 1
    refine Gm 11 [([20], .tuple #[Sl (Gp uej) y17.1 uel, .i y17.2]), ([28, 7, 66, 6], Sl (Gp uej) y17.1 uel), ([29], .i y17.2)] Jhg ?_
    obtain rfl := sj h
    exact Xd Tryz.f84 (Sl (Gp uej) y17.1 uel) ⟨_, _, _, _, _, rfl, (((((z2.t z4).t z5).t z6).t z7).t z8), p8, uen, rfl⟩
   ·
    rw [df h8]
    refine Gm 6 [([31, 30], .bool (decide (x0.Op = 3)))] (Ys 11101011111 B84 Jh3) ?_
    refine Gi h (fun h20 h => ?_) fun h20 h => ?_
    ·
     rw [dt h20]
     refine Gn 4 [(32, Sl Ax2 x2 cx2)] (Yt 1110101111100 B84 [1, 2] (Ys 1110101111101 B84 Jh3)) ?_
     refine Gb h fun y21 e22 h => ?_
     refine Gc (kc 142 [32] #[60]) 33 60 142 _ (W.z28 x2 y21 e22 _ _ _ p2 (fx2.ext z2) rfl) ?_
     rintro _ w9 ⟨S9, ueo, uep, ueq, uer, rfl, z9, p9, ues, rfl⟩
     refine Gn 5 [(7, Sl (Gp ueo) y21 ueq), (34, (pt b2 2))] (Yt 11101011111010 B84 [1, 2, 3] (Ys 11101011111011 B84 Jh3)) ?_
     refine Xc 28 34 35 28 ⟨b2, 2, none⟩ (Sl u5 x0.L u7) (p9.c 1 2) ?_
     refine Gn 5 [(36, .i (x0.L.length : Int)), (37, .i 0)] Jh6 ?_
     have p9 := p9.dp 1
     exact Gj 67 [(1, (pt gx1 0)), (7, Sl (Gp ueo) y21 ueq), (35, Sl u5 x0.L u7), (36, .i (x0.L.length : Int)), (37, .i 0)] (uec _ _ h gx1 ue3 u7f _ _ (z2.t z9) _ _ _ _ _ _ _ p9 ues rfl (um.ext (z2.t z9)) rfl (ued.ext (z2.t z9)) (u7g.ext (z2.t z9)))
    ·
     rw [df h20]
     refine Gm 6 [([47, 46], .bool (decide (x0.Op = 4)))] (Ys 1110101111111 B84 Jh3) ?_
     refine Gi h (fun h25 h => ?_) fun h25 h => ?_
     ·
      rw [dt h25]
      refine Gn 4 [(48, (pt b2 2))] (Yt 111010111111100 B84 [1, 2, 3] (Ys 111010111111101 B84 Jh3)) ?_
      refine Xc 28 48 49 28 ⟨b2, 2, none⟩ (Sl u5 x0.L u7) (p2.c 0 2) ?_
      refine Gn 5 [(50, .i (x0.L.length : Int)), (51, .i 0)] Jh9 ?_
      have p2 := p2.dp 0
      have p2 : Hp nz wz S0 w2 ((none, .row 22 [] (0 * kU.size) 0) :: (some gx1, .row 158 [.map (some ue3)] 1 0) :: (none, .seg 154 u7f) :: Lr) := p2.nilRow' 22
      exact Gj 67 [(1, (pt gx1 0)), (2, Sl Ax2 x2 cx2), (7, .slice (Gp none) 0 0), (49, Sl u5 x0.L u7), (50, .i (x0.L.length : Int)), (51, .i 0)] (ueb _ _ h gx1 ue3 u7f _ _ z2 _ _ _ none 0 0 [] _ _ _ p2 (fx2.ext z2) rfl (Els.nil (K := kU)) rfl (um.ext z2) rfl (ued.ext z2) (u7g.ext z2))
     ·
      rw [df h25]
      refine Gm 8 [([66, 6], Sn)] Jhg ?_
      have p2 : Hp nz wz S0 w2 ((none, .row 22 [] (0 * kU.size) 0) :: (some b2, .row 30 (wT29 x0.Op x0.Text u5 x0.L.length u7) 3 0) :: (some gx1, .row 158 [.map (some ue3)] 1 0) :: (none, .seg 154 u7f) :: Lr) := p2.nilRow' 22
      obtain rfl := sj h
      have p2 := p2.dp 1
      exact Xd Tryz.f84 (.slice (Gp none) 0 0) ⟨_, _, _, _, _, rfl, z2, p2, (Els.nil (K := kU)), rfl⟩
 ·
  intro rec_gram_Query_eval ue9 ih_gram_Query_eval ueb ⟨x2, x7, x49, x50, x51, ue4, u7e⟩ r h nz wz S0 w0 Lr gx1 ue3 u7f S1 w1 hx Ax2 nx2 cx2 Gx7 nx7 cx7 ue5 ue6 ue7 ue8 p1 fx2 lx2 fx7 lx7 uet ueu uev fs7 junk
  try dsimp only at h
  subst lx2
  subst lx7
  subst ueu
  refine Gn 5 [(52, .bool (decide (x51 < x50)))] (Ys 1110101111111010010 B84 (Ys 1110101111111010011 B84 Jh8)) ?_
  refine Gi h (fun h45 h => ?_) fun h45 h => ?_
  ·
   rw [dt h45]
   refine Gn 6 [] (Yt 1110101111111010011000 B84 [0, 1, 2, 3] (Zc Qds Jhu)) ?_
   refine Gg h fun g46 h => ?_
   refine Gg h fun g47 h => ?_
   refine Oi 28 49 51 53 0 30 .i64 x51 (gi x49 x51) rfl rfl uet Xa g46 g47 fun a48 _ f49 q50 => ?_
   have q51 := q50
   obtain ⟨_, _, rfl, rfl, ⟨_, _, rfl, rfl, ⟨A52, c53, rfl, f54⟩⟩⟩ := kT29_open q51
   refine Xg 30 53 54 30 a48 ([.i ((gi x49 x51).Op)] ++ ([.string ((gi x49 x51).Text)] ++ [.slice A52 (((gi x49 x51).L).length) c53])) (f49.cell) ?_
   refine Oa 30 11 0 (.agg #[.i 0, .string bE, Sn]) [.i 0, .string bE, Sn] p1 Xa fun b55 w14 z14 p14 => ?_
   refine So 30 11 54 0 0 b55 0 ((ag (wT29 (gi x49 x51).Op (gi x49 x51).Text A52 (((gi x49 x51).L).length) c53))) (wT29 (gi x49 x51).Op (gi x49 x51).Text A52 (((gi x49 x51).L).length) c53) p14 rfl Xe fun w15 z15 p15 => ?_
   refine Gn 3 [(56, Sl (Gp Gx7) x7 cx7)] (Zr Qds [1, 2, 3, 4, 5, 6, 7, 8, 9, 10] Jhu) ?_
   refine Xg 30 11 57 30 ⟨b55, 0, none⟩ (wT29 (gi x49 x51).Op (gi x49 x51).Text A52 (((gi x49 x51).L).length) c53) (p15.pa 0 0) ?_
   refine Gn 2 [(58, (pt gx1 0)), (59, Sl Ax2 x2 cx2)] (Zr Qds [4, 5, 6, 7, 8, 9, 10] Jhu) ?_
   have p15 := (p15.fr 3).fr 3
   refine Gb h fun y57 e58 h => ?_
   refine Gc (kc 84 [57, 58, 59] #[30, 62, 60]) 60 60 84 _ (ih_gram_Query_eval (gi x49 x51, ue4, x2, u7e) y57 e58 _ _ _ _ _ _ _ _ _ p15 (f54.ext (z14.t z15)) rfl (uev.ext (z14.t z15)) (fx2.ext (z14.t z15)) rfl (fs7.ext (z14.t z15))) ?_
   rintro _ w16 ⟨S16, uew, uex, uey, uez, rfl, z16, p16, uf0, rfl⟩
   have p16 := p16.dp 3
   obtain ⟨S17, z17, p17, f60⟩ := p16.freezeRd 3 rfl (fx7.ext ((z14.t z15).t z16)) (by decide)
   obtain ⟨S18, z18, p18, f61⟩ := p17.freezeRd 0 rfl (uf0.ext z17) (by decide)
   have f63 : Els (kSl kU) S18 w16 ([Sl (Gp Gx7) x7 cx7, Sl (Gp uew) y57 uey] : List Value) [x7, y57] := by exact (Els.cons (K := (kSl kU)) (vs := [Sl (Gp Gx7) x7 cx7]) (x := x7) ⟨_, _, rfl, (f60.ext z18)⟩ (Els.cons (K := (kSl kU)) (vs := [Sl (Gp uew) y57 uey]) (x := y57) ⟨_, _, rfl, f61⟩ Els.nil))
   refine Om (.buildSlice 311 2 #[(0, 56), (1, 60)]) 61 311 (fun b => .slice (Gp (some b)) 2 2) 60 ([Sl (Gp Gx7) x7 cx7, Sl (Gp uew) y57 uey] : List Value) (2 * (kSl kU).size) p18 Xa fun b62 w19 z19 p19 => ?_
   obtain ⟨S20, z20, p20, f65⟩ := p19.freezeRd 0 rfl (f63.ext z19) (by decide)
   refine Gb h fun y66 e67 h => ?_
   refine Gc (kc 140 [61] #[311]) 62 72 140 _ (W.z2q [x7, y57] y66 e67 _ _ _ p20 f65 rfl) ?_
   rintro _ w21 ⟨S21, uf1, uf2, uf3, uf4, rfl, z21, p21, uf5, rfl⟩
   have p21 := ((p21.dp 1).dp 1).dp 3
   refine Gm 11 [([55], .tuple #[Sl (Gp uf1) y66.1 uf3, .i y66.2]), ([63, 7], Sl (Gp uf1) y66.1 uf3), ([64], .i y66.2), ([65, 51], .i (wr .i64 (x51 + 1)))] Jh9 ?_
   exact Gj 67 [(1, (pt gx1 0)), (2, Sl Ax2 x2 cx2), (7, Sl (Gp uf1) y66.1 uf3), (49, Sl ue6 x49 ue8), (50, .i x50), (51, .i (wr .i64 (x51 + 1)))] (ueb _ _ h gx1 ue3 u7f _ _ ((((((((hx.t z14).t z15).t z16).t z17).t z18).t z19).t z20).t z21) _ _ _ _ _ _ _ _ _ _ p21 (fx2.ext (((((((z14.t z15).t z16).t z17).t z18).t z19).t z20).t z21)) rfl uf5 rfl (uet.ext (((((((z14.t z15).t z16).t z17).t z18).t z19).t z20).t z21)) rfl (uev.ext (((((((z14.t z15).t z16).t z17).t z18).t z19).t z20).t z21)) (fs7.ext (((((((z14.t z15).t z16).t z17).t z18).t z19).t z20).t z21)))
  ·
   rw [df h45]
   refine Gm 8 [([66, 6], Sl (Gp Gx7) x7 cx7)] Jhg ?_
   obtain rfl := sj h
   exact Xd Tryz.f84 (Sl (Gp Gx7) x7 cx7) ⟨_, _, _, _, _, rfl, hx, p1, fx7, rfl⟩
 ·
  intro rec_gram_Query_eval uea ih_gram_Query_eval uec ⟨x7, x35, x36, x37, ue4, u7e⟩ r h nz wz S0 w0 Lr gx1 ue3 u7f S1 w1 hx Gx7 nx7 cx7 ue5 ub3 ub4 ub5 p1 fx7 lx7 ub8 ub9 uf6 fs5 junk
  try dsimp only at h
  subst lx7
  subst ub9
  refine Gn 5 [(38, .bool (decide (x37 < x36)))] (Ys 111010111110110010 B84 (Ys 111010111110110011 B84 Jh5)) ?_
  refine Gi h (fun h29 h => ?_) fun h29 h => ?_
  ·
   rw [dt h29]
   refine Gn 6 [] (Yt 111010111110110011000 B84 [0, 1, 2, 3] (Zc Qdx Ji2)) ?_
   refine Gg h fun g30 h => ?_
   refine Gg h fun g31 h => ?_
   refine Oi 28 35 37 39 0 30 .i64 x37 (gi x35 x37) rfl rfl ub8 Xa g30 g31 fun a32 _ f33 q34 => ?_
   have q35 := q34
   obtain ⟨_, _, rfl, rfl, ⟨_, _, rfl, rfl, ⟨A36, c37, rfl, f38⟩⟩⟩ := kT29_open q35
   refine Xg 30 39 40 30 a32 ([.i ((gi x35 x37).Op)] ++ ([.string ((gi x35 x37).Text)] ++ [.slice A36 (((gi x35 x37).L).length) c37])) (f33.cell) ?_
   refine Oa 30 9 0 (.agg #[.i 0, .string bE, Sn]) [.i 0, .string bE, Sn] p1 Xa fun b39 w10 z10 p10 => ?_
   refine So 30 9 40 0 0 b39 0 ((ag (wT29 (gi x35 x37).Op (gi x35 x37).Text A36 (((gi x35 x37).L).length) c37))) (wT29 (gi x35 x37).Op (gi x35 x37).Text A36 (((gi x35 x37).L).length) c37) p10 rfl Xe fun w11 z11 p11 => ?_
   refine Gn 2 [] (Zr Qdx [0, 1, 2, 3, 4] Ji2) ?_
   refine Xg 30 9 41 30 ⟨b39, 0, none⟩ (wT29 (gi x35 x37).Op (gi x35 x37).Text A36 (((gi x35 x37).L).length) c37) (p11.pa 0 0) ?_
   refine Gn 2 [(42, (pt gx1 0)), (43, Sl (Gp Gx7) x7 cx7)] (Zr Qdx [3, 4] Ji2) ?_
   obtain ⟨S12, z12, p12, f41⟩ := p11.freezeRd 1 rfl (fx7.ext (z10.t z11)) (by decide)
   have p12 := (p12.fr 3).fr 3
   refine Gb h fun y42 e43 h => ?_
   refine Gc (kc 84 [41, 42, 43] #[30, 62, 60]) 44 60 84 _ (ih_gram_Query_eval (gi x35 x37, ue4, x7, u7e) y42 e43 _ _ _ _ _ _ _ _ _ p12 (f38.ext ((z10.t z11).t z12)) rfl (uf6.ext ((z10.t z11).t z12)) f41 rfl (fs5.ext ((z10.t z11).t z12))) ?_
   rintro _ w13 ⟨S13, uf7, uf8, uf9, ufa, rfl, z13, p13, ufb, rfl⟩
   have p13 := (p13.dp 3).dp 3
   refine Gm 8 [([7], Sl (Gp uf7) y42 uf9), ([45, 37], .i (wr .i64 (x37 + 1)))] Jh6 ?_
   exact Gj 67 [(1, (pt gx1 0)), (7, Sl (Gp uf7) y42 uf9), (35, Sl ub3 x35 ub5), (36, .i x36), (37, .i (wr .i64 (x37 + 1)))] (uec _ _ h gx1 ue3 u7f _ _ ((((hx.t z10).t z11).t z12).t z13) _ _ _ _ _ _ _ p13 ufb rfl (ub8.ext (((z10.t z11).t z12).t z13)) rfl (uf6.ext (((z10.t z11).t z12).t z13)) (fs5.ext (((z10.t z11).t z12).t z13)))
  ·
   rw [df h29]
   refine Gm 8 [([66, 6], Sl (Gp Gx7) x7 cx7)] Jhg ?_
   obtain rfl := sj h
   exact Xd Tryz.f84 (Sl (Gp Gx7) x7 cx7) ⟨_, _, _, _, _, rfl, hx, p1, fx7, rfl⟩
theorem W.z3u : ∀ a r, M.as a = some r → LF.z3u a r := (W.z3x).1
theorem W.z3w : ∀ a r, M.a2b a = some r → LL.z3w a r := (W.z3x).2.1
theorem W.z3v : ∀ a r, M.a3w a = some r → LL.z3v a r := (W.z3x).2.2
def Ji7 := Ys 111 B32 []
def Ji8 := Ys 1101 B32 Ji7
def Jid := Ys 11111 B32 []
def Qe6 := Yq 11110 B32
def Post.z3y (gx1 : Nat) (ue3 : Nat) (u7f : List (Nat × Obj)) (ue4 : Nat) (u7e : List (List (ByteArray × (List Int)))) (r : (List Int) × Int) (v : Value) (w' : World) : Prop :=
 ∃ S' uay uaz ub0 ub1, v = .tuple #[.slice (Gp uay) uaz ub0, .i r.2] ∧ Ext S0 w0 S' w' ∧ Hp nz wz S' w' ((uay, .row 22 ub1 (ub0 * kU.size) 0) :: (some gx1, .row 158 [.map (some ue3)] 1 0) :: (none, .seg 154 u7f) :: Lr) ∧ Els kU S' w' ub1 r.1 ∧ r.1.length = uaz
def L.z3z (gx1 : Nat) (ue3 : Nat) (u7f : List (Nat × Obj)) : (List Int) × T29 × Bool × Nat × (List (List (ByteArray × (List Int)))) → ((List Int) × Int) → Prop := fun ⟨x2, x3v, x15, ue4, u7e⟩ r => ∀ S1 w1, Ext S0 w0 S1 w1 → ∀ Ax2 nx2 cx2 gx3 u9 ua ub (_ : Hp nz wz S1 w1 ((some gx3, .row 30 (wT29 x3v.Op x3v.Text u9 ua ub) 3 0) :: (some gx1, .row 158 [.map (some ue3)] 1 0) :: (none, .seg 154 u7f) :: Lr)) (_ : Rd kU S1 w1 Ax2 cx2 x2) (_ : x2.length = nx2) (_ : Rd kT29 S1 w1 u9 ub x3v.L) (_ : x3v.L.length = ua) (_ : Pa 154 S1 ue4 ue3) (_ : Pl (oMap Value.string (kSl kU)) S1 w1 u7f u7e) (junk : Nat → Value),
 Goes Tg (base 32) Ji8 ⟨lfr 22 [(1, (pt gx1 0)), (2, .slice Ax2 nx2 cx2), (3, (pt gx3 0)), (15, .bool x15)] junk, []⟩ w1 (Done Tg 32 (Rets (Post.z3y nz wz S0 w0 Lr gx1 ue3 u7f ue4 u7e r)))
theorem W.z3z {nz wz S0 w0 Lr} (gx1 : Nat) (ue3 : Nat) (u7f : List (Nat × Obj)) : ∀ a r, M.a53 a = some r → L.z3z nz wz S0 w0 Lr gx1 ue3 u7f a r := by
 intro ⟨x2, x3v, x15, ue4, u7e⟩ r h S1 w1 hx Ax2 nx2 cx2 gx3 u9 ua ub p1 fx2 lx2 uq ur uf6 fs5 junk
 rw [M.a53] at h
 try dsimp only at h
 subst lx2
 subst ur
 refine Gi h (fun h10 h => ?_) fun h10 h => ?_
 ·
  rw [h10]
  refine Gn 6 [(6, Sn), (7, .i 2)] (Ys 110101 B32 Ji7) ?_
  have p1 : Hp nz wz S1 w1 ((none, .row 22 [] (0 * kU.size) 0) :: (some gx3, .row 30 (wT29 x3v.Op x3v.Text u9 x3v.L.length ub) 3 0) :: (some gx1, .row 158 [.map (some ue3)] 1 0) :: (none, .seg 154 u7f) :: Lr) := p1.nilRow' 22
  obtain rfl := sj h
  have p1 := p1.dp 1
  exact Xd Tryz.f32 (.tuple #[.slice (Gp none) 0 0, .i 2]) ⟨_, _, _, _, _, rfl, hx, p1, (Els.nil (K := kU)), rfl⟩
 ·
  rw [bf h10]
  refine Gn 6 [(16, (pt gx1 0))] (Yt 11100 B32 [1] (Ys 11101 B32 (Ys 1111 B32 []))) ?_
  have p1 := p1.fr 1
  refine Gb h fun y12 e13 h => ?_
  refine Gc (kc 83 [16] #[62]) 17 4 83 _ (W.z3b ue4 y12 e13 _ _ p1 uf6) ?_
  rintro _ w5 ⟨S5, rfl, z5, p5⟩
  refine Gn 5 [] (Zr Qe6 [0, 1, 2, 3, 4, 5] Jid) ?_
  refine Xg 30 3 18 30 ⟨gx3, 0, none⟩ (wT29 x3v.Op x3v.Text u9 x3v.L.length ub) (p5.pa 1 0) ?_
  refine Gn 2 [(19, (pt gx1 0)), (20, Sl Ax2 x2 cx2)] (Zr Qe6 [3, 4, 5] Jid) ?_
  have p5 := (p5.fr 2).fr 1
  refine Gb h fun y14 e15 h => ?_
  refine Gc (kc 84 [18, 19, 20] #[30, 62, 60]) 21 60 84 _ (W.z3u (x3v, ue4, x2, u7e) y14 e15 _ _ _ _ _ _ _ _ _ p5 (uq.ext z5) rfl (uf6.ext z5) (fx2.ext z5) rfl (fs5.ext z5)) ?_
  rintro _ w6 ⟨S6, u6z, u70, u71, u72, rfl, z6, p6, u73, rfl⟩
  have p6 := p6.dp 3
  refine Gn 3 [(6, Sl (Gp u6z) y14 u71), (7, .i 0)] Jid ?_
  obtain rfl := sj h
  exact Xd Tryz.f32 (.tuple #[Sl (Gp u6z) y14 u71, .i 0]) ⟨_, _, _, _, _, rfl, ((hx.t z5).t z6), p6, u73, rfl⟩
def Qe9 := Yq 1100 B32
theorem W.z3y (x0 : T29) (ue4 : Nat) (x2 : List Int) (u7e : List (List (ByteArray × (List Int)))) (r : (List Int) × Int) (h : M.a6e x0 ue4 x2 u7e = some r) {nz wz S0 w0 Lr} (u5 u6 u7 gx1 ue3 Ax2 nx2 cx2 u7f) (p0 : Hp nz wz S0 w0 ((some gx1, .row 158 [.map (some ue3)] 1 0) :: (none, .seg 154 u7f) :: Lr)) (um : Rd kT29 S0 w0 u5 u7 x0.L) (un : x0.L.length = u6) (ued : Pa 154 S0 ue4 ue3) (fx2 : Rd kU S0 w0 Ax2 cx2 x2) (lx2 : x2.length = nx2) (u7g : Pl (oMap Value.string (kSl kU)) S0 w0 u7f u7e) :
  Calls Tg 32 #[(ag (wT29 x0.Op x0.Text u5 u6 u7)), (pt gx1 0), .slice Ax2 nx2 cx2] w0 (Rets (Post.z3y nz wz S0 w0 Lr gx1 ue3 u7f ue4 u7e r)) := by
 subst un
 subst lx2
 refine Zf Tryz.f32 B32 19 ?_
 refine Gj 22 [(0, (ag (wT29 x0.Op x0.Text u5 x0.L.length u7))), (1, (pt gx1 0)), (2, Sl Ax2 x2 cx2)] fun junk => ?_
 delta M.a6e at h
 refine Gn 2 [] (Yt 10 B32 [0, 1, 2] (Ys 11 B32 [])) ?_
 refine Ob 30 0 3 0 ((ag (wT29 x0.Op x0.Text u5 x0.L.length u7))) (wT29 x0.Op x0.Text u5 x0.L.length u7) p0 Xa fun b2 w2 z2 p2 => ?_
 refine Gn 6 [(6, Sn), (7, .i 0)] (Zr Qe9 [0, 1, 2, 3, 4, 5, 6, 7] Ji8) ?_
 refine Xg 30 3 8 30 ⟨b2, 0, none⟩ (wT29 x0.Op x0.Text u5 x0.L.length u7) (p2.pa 0 0) ?_
 refine Gb h fun y4 e5 h => ?_
 refine Gc (kc 20 [8] #[30]) 9 34 20 _ (W.zg x0 y4 e5 _ _ _ p2 (um.ext z2) rfl) ?_
 rintro _ w3 ⟨S3, rfl, z3, p3⟩
 refine Gm 2 [([10, 11], .bool (!(decide (y4 = 0))))] (Zr Qe9 [4, 5, 6, 7] Ji8) ?_
 refine Gi h (fun h6 h => ?_) fun h6 h => ?_
 ·
  rw [dt h6]
  refine Gn 1 [(12, Sl Ax2 x2 cx2)] (Zr Qe9 [5, 6, 7] Ji8) ?_
  refine Gb h fun y7 e8 h => ?_
  refine Gc (kc 82 [12] #[60]) 13 34 82 _ (W.z27 x2 y7 e8 _ _ _ p3 (fx2.ext (z2.t z3)) rfl) ?_
  rintro _ w4 ⟨S4, rfl, z4, p4⟩
  refine Gm 3 [([14, 15], .bool (!(decide (y7 = 0))))] Ji8 ?_
  exact Gj 22 [(1, (pt gx1 0)), (2, Sl Ax2 x2 cx2), (3, (pt b2 0)), (15, .bool (!(decide (y7 = 0))))] (W.z3z gx1 ue3 u7f _ _ h _ _ ((z2.t z3).t z4) _ _ _ _ _ _ _ p4 (fx2.ext ((z2.t z3).t z4)) rfl (um.ext ((z2.t z3).t z4)) rfl (ued.ext ((z2.t z3).t z4)) (u7g.ext ((z2.t z3).t z4)))
 ·
  rw [df h6]
  refine Gm 5 [([12, 13, 14], undef), ([15], .bool true)] Ji8 ?_
  exact Gj 22 [(1, (pt gx1 0)), (2, Sl Ax2 x2 cx2), (3, (pt b2 0)), (15, .bool true)] (W.z3z gx1 ue3 u7f _ _ h _ _ (z2.t z3) _ _ _ _ _ _ _ p3 (fx2.ext (z2.t z3)) rfl (um.ext (z2.t z3)) rfl (ued.ext (z2.t z3)) (u7g.ext (z2.t z3)))
def Qeb := Yq 110100 B145
def Jin := Zl Qeb (Zb 0 (Ys 111 B145 []))
def Jio := Zc Qeb Jin
def Jis := Zb 1 (Ys 11010011 B145 Jin)
def Jit := Ys 1101001001 B145 Jis
def Post.z40 (r : Bool) (v : Value) (w' : World) : Prop :=
 ∃ S', v = .bool r ∧ Ext S0 w0 S' w' ∧ Hp nz wz S' w' (Lr)
def L.z41 : (List Int) × Int × Int → Bool → Prop := fun ⟨x0, x1, x5⟩ r => ∀ S1 w1, Ext S0 w0 S1 w1 → ∀ Ax0 nx0 cx0 (_ : Hp nz wz S1 w1 (Lr)) (_ : Rd kU S1 w1 Ax0 cx0 x0) (_ : x0.length = nx0) (junk : Nat → Value),
 Goes Tg (base 145) Jio ⟨lfr 18 [(0, .slice Ax0 nx0 cx0), (1, .u x1), (5, .i x5)] junk, []⟩ w1 (Done Tg 145 (Rets (Post.z40 nz wz S0 w0 Lr r)))
theorem W.z41 {nz wz S0 w0 Lr} : ∀ a r, M.a3x a = some r → (L.z41 nz wz S0 w0 Lr) a r := by
 refine M.a3x.partial_correctness (motive := (L.z41 nz wz S0 w0 Lr)) ?_
 intro ufc ufd ⟨x0, x1, x5⟩ r h S1 w1 hx Ax0 nx0 cx0 p1 fx0 lx0 junk
 try dsimp only at h
 subst lx0
 refine Gn 8 [(6, .i x5), (7, Sl Ax0 x0 cx0), (8, .i (x0.length : Int)), (9, .bool (decide (x5 < (x0.length : Int))))] (Ys 11010001 B145 (Ys 1101001 B145 Jin)) ?_
 refine Gi h (fun h1 h => ?_) fun h1 h => ?_
 ·
  rw [dt h1]
  refine Gn 8 [(12, Sl Ax0 x0 cx0), (13, .i x5)] (Yt 1101001000 B145 [2, 3, 4, 5] Jit) ?_
  refine Gg h fun g2 h => ?_
  refine Oi 60 12 13 14 0 22 .i64 x5 (gi x0 x5) rfl rfl fx0 Xa g2 h1 fun a3 _ f4 q5 => ?_
  obtain rfl := q5
  refine Xc 22 14 15 22 a3 (.u (gi x0 x5)) (f4.cell 0 _ rfl) ?_
  refine Gn 3 [(16, .u x1), (17, .bool (decide (gi x0 x5 = x1)))] Jit ?_
  refine Gi h (fun h6 h => ?_) fun h6 h => ?_
  ·
   rw [dt h6]
   refine Gn 5 [(4, .bool true)] (Ys 110100100101 B145 Jis) ?_
   obtain rfl := sj h
   exact Xd Tryz.f145 (.bool true) ⟨_, rfl, hx, p1⟩
  ·
   rw [df h6]
   refine Gm 9 [([10], .i x5), ([11, 5], .i (wr .i64 (x5 + 1)))] Jio ?_
   exact Gj 18 [(0, Sl Ax0 x0 cx0), (1, .u x1), (5, .i (wr .i64 (x5 + 1)))] (ufd _ _ h _ _ hx _ _ _ p1 fx0 rfl)
 ·
  rw [df h1]
  refine Gn 6 [(4, .bool false)] (Ys 1111 B145 []) ?_
  obtain rfl := sj h
  exact Xd Tryz.f145 (.bool false) ⟨_, rfl, hx, p1⟩
theorem W.z40 (x0 : List Int) (x1 : Int) (r : Bool) (h : M.a6f x0 x1 = some r) {nz wz S0 w0 Lr} (Ax0 nx0 cx0) (p0 : Hp nz wz S0 w0 (Lr)) (fx0 : Rd kU S0 w0 Ax0 cx0 x0) (lx0 : x0.length = nx0) :
  Calls Tg 145 #[.slice Ax0 nx0 cx0, .u x1] w0 (Rets (Post.z40 nz wz S0 w0 Lr r)) := by
 subst lx0
 refine Zf Tryz.f145 B145 16 ?_
 refine Gj 18 [(0, Sl Ax0 x0 cx0), (1, .u x1)] fun junk => ?_
 delta M.a6f at h
 refine Gn 11 [(4, .bool false), (5, .i 0)] Jio ?_
 exact Gj 18 [(0, Sl Ax0 x0 cx0), (1, .u x1), (5, .i 0)] (W.z41 _ _ h _ _ (Xj S0 w0) _ _ _ p0 fx0 rfl)
def Jix := Ys 111 B86 []
def Jiy := Ys 1101 B86 Jix
def Jj0 := Ys 1111 B86 []
def Post.z42 (r : Bool × Int) (v : Value) (w' : World) : Prop :=
 ∃ S', v = .tuple #[.bool r.1, .i r.2] ∧ Ext S0 w0 S' w' ∧ Hp nz wz S' w' (Lr)
theorem W.z42 (x0 : List Int) (x1 : Int) (r : Bool × Int) (h : M.a72 x0 x1 = some r) {nz wz S0 w0 Lr} (Ax0 nx0 cx0) (p0 : Hp nz wz S0 w0 (Lr)) (fx0 : Rd kU S0 w0 Ax0 cx0 x0) (lx0 : x0.length = nx0) :
  Calls Tg 86 #[.slice Ax0 nx0 cx0, .u x1] w0 (Rets (Post.z42 nz wz S0 w0 Lr r)) := by
 subst lx0
 refine Zf Tryz.f86 B86 10 ?_
 refine Gj 12 [(0, Sl Ax0 x0 cx0), (1, .u x1)] fun junk => ?_
 delta M.a72 at h
 refine Gn 9 [(4, .bool false), (5, .i 0), (6, Sl Ax0 x0 cx0)] (Yt 1100 B86 [1, 2] Jiy) ?_
 refine Gb h fun y1 e2 h => ?_
 refine Gc (kc 85 [6] #[60]) 7 34 85 _ (W.z2w x0 y1 e2 _ _ _ p0 fx0 rfl) ?_
 rintro _ w2 ⟨S2, rfl, z2, p2⟩
 refine Gn 2 [(8, .bool (!(decide (y1 = 0))))] Jiy ?_
 refine Gi h (fun h3 h => ?_) fun h3 h => ?_
 ·
  rw [dt h3]
  refine Gn 6 [(9, Sl Ax0 x0 cx0), (10, .u x1)] (Yt 1110 B86 [2, 3, 4] Jj0) ?_
  refine Gb h fun y4 e5 h => ?_
  refine Gc (kc 145 [9, 10] #[60, 22]) 11 4 145 _ (W.z40 x0 x1 y4 e5 _ _ _ p2 (fx0.ext z2) rfl) ?_
  rintro _ w3 ⟨S3, rfl, z3, p3⟩
  refine Gn 3 [(4, .bool y4), (5, .i 0)] Jj0 ?_
  obtain rfl := sj h
  exact Xd Tryz.f86 (.tuple #[.bool y4, .i 0]) ⟨_, rfl, (z2.t z3), p3⟩
 ·
  rw [df h3]
  refine Gn 6 [(4, .bool false), (5, .i 2)] (Ys 110101 B86 Jix) ?_
  obtain rfl := sj h
  exact Xd Tryz.f86 (.tuple #[.bool false, .i 2]) ⟨_, rfl, z2, p2⟩
end
end Go.Gx
