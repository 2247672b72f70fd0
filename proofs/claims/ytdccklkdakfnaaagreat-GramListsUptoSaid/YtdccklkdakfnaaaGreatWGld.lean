import Derived.Test.YtdccklkdakfnaaaGreatWGlc

set_option linter.unusedVariables false

set_option linter.unusedSimpArgs false

set_option maxRecDepth 100000

set_option maxHeartbeats 4000000

namespace Go.Gx

open Go.RowKit Go.Proofs

variable (nz : Nat) (wz : World) (S0 : Fz) (w0 : World) (Lr : List Ent)

noncomputable section

def Qs9 := Yq 100 B302
def Jyk := Zl Qs9 J7e
def Jyl := Zc Qs9 Jyk
def Jyn := Ys 10001 B302 (Ys 1001 B302 Jyk)
def Jyo := Zb 1 Jyk
def Jyp := Ys 1001011 B302 Jyo
def Jyq := Ys 10010101 B302 Jyp
def Jyr := Ys 10010111 B302 Jyo
def Jys := Ys 100101101 B302 Jyr
def Jyt := Ys 1001011111 B302 Jyo
def Jyu := Ys 10010111111 B302 Jyo
def Qsi := Yq 10000 B302
def Jyv := Zr Qsi [0, 1, 2, 3, 4, 5, 6, 7] Jyn
def Jyw := Zr Qsi [4, 5, 6, 7] Jyn
def Jyx := Ys 10010100 B302 Jyq
def Jyy := Ys 100101100 B302 Jys
def Jyz := Ys 10010111101 B302 Jyt
def Jz0 := Ys 100101111010 B302 Jyt
def Jz1 := Ys 100101111101 B302 Jyu
def Jz2 := Ys 1001011111010 B302 Jyu
def Jz4 := Yt 100101111110 B302 [3, 4] (Ys 100101111111 B302 Jyo)

def Post.z4y (lx0 : Nat) (rx0 : Nat) (u4q : Nat → Value) (uld : Nat) (ule : Nat) (ulf : Nat) (ulg : Nat) (r : (List Int) × (List Int) × (List Int)) (v : Value) (w' : World) : Prop :=
 ∃ S' ukx uky ukz ul0 ulh uli ulj ulk ull ulm, v = .tuple #[] ∧ Ext S0 w0 S' w' ∧ Hp nz wz S' w' ((some lx0, .obj (lpst 251 (lfr 23 [(5, (pt uld 0)), (7, (pt ule 0)), (12, .func (.func 302) #[] #[(pt ulf 0), (pt ulg 0)])] u4q) #[13, 14] (rfAssign (Qs7)) (rfBody (Qs7)) rx0 .ready none)) :: (some uld, .row 313 [.func (.func 204) #[] #[]] 1 0) :: (some ule, .row 60 [.slice (Gp ukx) uky ukz] 1 0) :: (ukx, .row 22 ul0 (ukz * (kInt .u64).size) 0) :: (some ulf, .row 60 [.slice ulh uli ulj] 1 0) :: (some ulg, .row 60 [.slice ulk ull ulm] 1 0) :: Lr) ∧ Els (kInt .u64) S' w' ul0 r.1 ∧ r.1.length = uky ∧ Rd (kInt .u64) S' w' ulh ulj r.2.1 ∧ r.2.1.length = uli ∧ Rd (kInt .u64) S' w' ulk ulm r.2.2 ∧ r.2.2.length = ull

def L.z4z (lx0 : Nat) (rx0 : Nat) (u4q : Nat → Value) (uld : Nat) (ule : Nat) (ulf : Nat) (ulg : Nat) : (List Int) × (List Int) × (List Int) → ((List Int) × (List Int) × (List Int)) → Prop := fun ⟨uln, ulo, ulp⟩ r => ∀ S1 w1, Ext S0 w0 S1 w1 → ∀ ukx uky ukz ul0 ulh uli ulj ulk ull ulm (_ : Hp nz wz S1 w1 ((some lx0, .obj (lpst 251 (lfr 23 [(5, (pt uld 0)), (7, (pt ule 0)), (12, .func (.func 302) #[] #[(pt ulf 0), (pt ulg 0)])] u4q) #[13, 14] (rfAssign (Qs7)) (rfBody (Qs7)) rx0 .ready none)) :: (some uld, .row 313 [.func (.func 204) #[] #[]] 1 0) :: (some ule, .row 60 [.slice (Gp ukx) uky ukz] 1 0) :: (ukx, .row 22 ul0 (ukz * (kInt .u64).size) 0) :: (some ulf, .row 60 [.slice ulh uli ulj] 1 0) :: (some ulg, .row 60 [.slice ulk ull ulm] 1 0) :: Lr)) (_ : Els (kInt .u64) S1 w1 ul0 uln) (_ : uln.length = uky) (_ : Rd (kInt .u64) S1 w1 ulh ulj ulo) (_ : ulo.length = uli) (_ : Rd (kInt .u64) S1 w1 ulk ulm ulp) (_ : ulp.length = ull) (junk : Nat → Value),
 Goes Tryz.prog (base 302) Jyl ⟨lfr 73 [(0, yieldV lx0), (1, (pt ulf 0)), (2, (pt ulg 0))] junk, []⟩ w1 (Done Tryz.prog 302 (Rets (Post.z4y nz wz S0 w0 Lr lx0 rx0 u4q uld ule ulf ulg r)))

def L.z50 (lx0 : Nat) (rx0 : Nat) (u4q : Nat → Value) (uld : Nat) (ule : Nat) (ulf : Nat) (ulg : Nat) : Bool × (List Int) × (List Int) × (List Int) → ((List Int) × (List Int) × (List Int)) → Prop := fun ⟨x13, uln, ulo, ulp⟩ r => ∀ S1 w1, Ext S0 w0 S1 w1 → ∀ ukx uky ukz ul0 ulh uli ulj ulk ull ulm (_ : Hp nz wz S1 w1 ((some lx0, .obj (lpst 251 (lfr 23 [(5, (pt uld 0)), (7, (pt ule 0)), (12, .func (.func 302) #[] #[(pt ulf 0), (pt ulg 0)])] u4q) #[13, 14] (rfAssign (Qs7)) (rfBody (Qs7)) rx0 .ready none)) :: (some uld, .row 313 [.func (.func 204) #[] #[]] 1 0) :: (some ule, .row 60 [.slice (Gp ukx) uky ukz] 1 0) :: (ukx, .row 22 ul0 (ukz * (kInt .u64).size) 0) :: (some ulf, .row 60 [.slice ulh uli ulj] 1 0) :: (some ulg, .row 60 [.slice ulk ull ulm] 1 0) :: Lr)) (_ : Els (kInt .u64) S1 w1 ul0 uln) (_ : uln.length = uky) (_ : Rd (kInt .u64) S1 w1 ulh ulj ulo) (_ : ulo.length = uli) (_ : Rd (kInt .u64) S1 w1 ulk ulm ulp) (_ : ulp.length = ull) (junk : Nat → Value),
 Goes Tryz.prog (base 302) Jyn ⟨lfr 73 [(0, yieldV lx0), (1, (pt ulf 0)), (2, (pt ulg 0)), (13, .bool x13)] junk, []⟩ w1 (Done Tryz.prog 302 (Rets (Post.z4y nz wz S0 w0 Lr lx0 rx0 u4q uld ule ulf ulg r)))

def L.z51 (lx0 : Nat) (rx0 : Nat) (u4q : Nat → Value) (uld : Nat) (ule : Nat) (ulf : Nat) (ulg : Nat) : Int × Bool × (List Int) × (List Int) × (List Int) → ((List Int) × (List Int) × (List Int)) → Prop := fun ⟨x4, x30, uln, ulo, ulp⟩ r => ∀ S1 w1, Ext S0 w0 S1 w1 → ∀ ukx uky ukz ul0 ulh uli ulj ulk ull ulm (_ : Hp nz wz S1 w1 ((some lx0, .obj (lpst 251 (lfr 23 [(5, (pt uld 0)), (7, (pt ule 0)), (12, .func (.func 302) #[] #[(pt ulf 0), (pt ulg 0)])] u4q) #[13, 14] (rfAssign (Qs7)) (rfBody (Qs7)) rx0 .ready none)) :: (some uld, .row 313 [.func (.func 204) #[] #[]] 1 0) :: (some ule, .row 60 [.slice (Gp ukx) uky ukz] 1 0) :: (ukx, .row 22 ul0 (ukz * (kInt .u64).size) 0) :: (some ulf, .row 60 [.slice ulh uli ulj] 1 0) :: (some ulg, .row 60 [.slice ulk ull ulm] 1 0) :: Lr)) (_ : Els (kInt .u64) S1 w1 ul0 uln) (_ : uln.length = uky) (_ : Rd (kInt .u64) S1 w1 ulh ulj ulo) (_ : ulo.length = uli) (_ : Rd (kInt .u64) S1 w1 ulk ulm ulp) (_ : ulp.length = ull) (junk : Nat → Value),
 Goes Tryz.prog (base 302) Jyq ⟨lfr 73 [(0, yieldV lx0), (1, (pt ulf 0)), (2, (pt ulg 0)), (4, .i x4), (30, .bool x30)] junk, []⟩ w1 (Done Tryz.prog 302 (Rets (Post.z4y nz wz S0 w0 Lr lx0 rx0 u4q uld ule ulf ulg r)))

def L.z52 (lx0 : Nat) (rx0 : Nat) (u4q : Nat → Value) (uld : Nat) (ule : Nat) (ulf : Nat) (ulg : Nat) : Int × (List Int) × (List Int) × (List Int) → ((List Int) × (List Int) × (List Int)) → Prop := fun ⟨x4, uln, ulo, ulp⟩ r => ∀ S1 w1, Ext S0 w0 S1 w1 → ∀ ukx uky ukz ul0 ulh uli ulj ulk ull ulm (_ : Hp nz wz S1 w1 ((some lx0, .obj (lpst 251 (lfr 23 [(5, (pt uld 0)), (7, (pt ule 0)), (12, .func (.func 302) #[] #[(pt ulf 0), (pt ulg 0)])] u4q) #[13, 14] (rfAssign (Qs7)) (rfBody (Qs7)) rx0 .ready none)) :: (some uld, .row 313 [.func (.func 204) #[] #[]] 1 0) :: (some ule, .row 60 [.slice (Gp ukx) uky ukz] 1 0) :: (ukx, .row 22 ul0 (ukz * (kInt .u64).size) 0) :: (some ulf, .row 60 [.slice ulh uli ulj] 1 0) :: (some ulg, .row 60 [.slice ulk ull ulm] 1 0) :: Lr)) (_ : Els (kInt .u64) S1 w1 ul0 uln) (_ : uln.length = uky) (_ : Rd (kInt .u64) S1 w1 ulh ulj ulo) (_ : ulo.length = uli) (_ : Rd (kInt .u64) S1 w1 ulk ulm ulp) (_ : ulp.length = ull) (junk : Nat → Value),
 Goes Tryz.prog (base 302) Jyp ⟨lfr 73 [(0, yieldV lx0), (1, (pt ulf 0)), (2, (pt ulg 0)), (4, .i x4)] junk, []⟩ w1 (Done Tryz.prog 302 (Rets (Post.z4y nz wz S0 w0 Lr lx0 rx0 u4q uld ule ulf ulg r)))

def L.z53 (lx0 : Nat) (rx0 : Nat) (u4q : Nat → Value) (uld : Nat) (ule : Nat) (ulf : Nat) (ulg : Nat) : Int × Bool × (List Int) × (List Int) × (List Int) → ((List Int) × (List Int) × (List Int)) → Prop := fun ⟨x4, x49, uln, ulo, ulp⟩ r => ∀ S1 w1, Ext S0 w0 S1 w1 → ∀ ukx uky ukz ul0 ulh uli ulj ulk ull ulm (_ : Hp nz wz S1 w1 ((some lx0, .obj (lpst 251 (lfr 23 [(5, (pt uld 0)), (7, (pt ule 0)), (12, .func (.func 302) #[] #[(pt ulf 0), (pt ulg 0)])] u4q) #[13, 14] (rfAssign (Qs7)) (rfBody (Qs7)) rx0 .ready none)) :: (some uld, .row 313 [.func (.func 204) #[] #[]] 1 0) :: (some ule, .row 60 [.slice (Gp ukx) uky ukz] 1 0) :: (ukx, .row 22 ul0 (ukz * (kInt .u64).size) 0) :: (some ulf, .row 60 [.slice ulh uli ulj] 1 0) :: (some ulg, .row 60 [.slice ulk ull ulm] 1 0) :: Lr)) (_ : Els (kInt .u64) S1 w1 ul0 uln) (_ : uln.length = uky) (_ : Rd (kInt .u64) S1 w1 ulh ulj ulo) (_ : ulo.length = uli) (_ : Rd (kInt .u64) S1 w1 ulk ulm ulp) (_ : ulp.length = ull) (junk : Nat → Value),
 Goes Tryz.prog (base 302) Jys ⟨lfr 73 [(0, yieldV lx0), (1, (pt ulf 0)), (2, (pt ulg 0)), (4, .i x4), (49, .bool x49)] junk, []⟩ w1 (Done Tryz.prog 302 (Rets (Post.z4y nz wz S0 w0 Lr lx0 rx0 u4q uld ule ulf ulg r)))

def L.z54 (lx0 : Nat) (rx0 : Nat) (u4q : Nat → Value) (uld : Nat) (ule : Nat) (ulf : Nat) (ulg : Nat) : Int × (List Int) × (List Int) × (List Int) → ((List Int) × (List Int) × (List Int)) → Prop := fun ⟨x4, uln, ulo, ulp⟩ r => ∀ S1 w1, Ext S0 w0 S1 w1 → ∀ ukx uky ukz ul0 ulh uli ulj ulk ull ulm (_ : Hp nz wz S1 w1 ((some lx0, .obj (lpst 251 (lfr 23 [(5, (pt uld 0)), (7, (pt ule 0)), (12, .func (.func 302) #[] #[(pt ulf 0), (pt ulg 0)])] u4q) #[13, 14] (rfAssign (Qs7)) (rfBody (Qs7)) rx0 .ready none)) :: (some uld, .row 313 [.func (.func 204) #[] #[]] 1 0) :: (some ule, .row 60 [.slice (Gp ukx) uky ukz] 1 0) :: (ukx, .row 22 ul0 (ukz * (kInt .u64).size) 0) :: (some ulf, .row 60 [.slice ulh uli ulj] 1 0) :: (some ulg, .row 60 [.slice ulk ull ulm] 1 0) :: Lr)) (_ : Els (kInt .u64) S1 w1 ul0 uln) (_ : uln.length = uky) (_ : Rd (kInt .u64) S1 w1 ulh ulj ulo) (_ : ulo.length = uli) (_ : Rd (kInt .u64) S1 w1 ulk ulm ulp) (_ : ulp.length = ull) (junk : Nat → Value),
 Goes Tryz.prog (base 302) Jyr ⟨lfr 73 [(0, yieldV lx0), (1, (pt ulf 0)), (2, (pt ulg 0)), (4, .i x4)] junk, []⟩ w1 (Done Tryz.prog 302 (Rets (Post.z4y nz wz S0 w0 Lr lx0 rx0 u4q uld ule ulf ulg r)))

def L.z55 (lx0 : Nat) (rx0 : Nat) (u4q : Nat → Value) (uld : Nat) (ule : Nat) (ulf : Nat) (ulg : Nat) : Int × Int × (List Int) × (List Int) × (List Int) → ((List Int) × (List Int) × (List Int)) → Prop := fun ⟨x4, x5, uln, ulo, ulp⟩ r => ∀ S1 w1, Ext S0 w0 S1 w1 → ∀ ukx uky ukz ul0 ulh uli ulj ulk ull ulm (_ : Hp nz wz S1 w1 ((some lx0, .obj (lpst 251 (lfr 23 [(5, (pt uld 0)), (7, (pt ule 0)), (12, .func (.func 302) #[] #[(pt ulf 0), (pt ulg 0)])] u4q) #[13, 14] (rfAssign (Qs7)) (rfBody (Qs7)) rx0 .ready none)) :: (some uld, .row 313 [.func (.func 204) #[] #[]] 1 0) :: (some ule, .row 60 [.slice (Gp ukx) uky ukz] 1 0) :: (ukx, .row 22 ul0 (ukz * (kInt .u64).size) 0) :: (some ulf, .row 60 [.slice ulh uli ulj] 1 0) :: (some ulg, .row 60 [.slice ulk ull ulm] 1 0) :: Lr)) (_ : Els (kInt .u64) S1 w1 ul0 uln) (_ : uln.length = uky) (_ : Rd (kInt .u64) S1 w1 ulh ulj ulo) (_ : ulo.length = uli) (_ : Rd (kInt .u64) S1 w1 ulk ulm ulp) (_ : ulp.length = ull) (junk : Nat → Value),
 Goes Tryz.prog (base 302) Jyt ⟨lfr 73 [(0, yieldV lx0), (1, (pt ulf 0)), (2, (pt ulg 0)), (4, .i x4), (5, .u x5)] junk, []⟩ w1 (Done Tryz.prog 302 (Rets (Post.z4y nz wz S0 w0 Lr lx0 rx0 u4q uld ule ulf ulg r)))

def L.z56 (lx0 : Nat) (rx0 : Nat) (u4q : Nat → Value) (uld : Nat) (ule : Nat) (ulf : Nat) (ulg : Nat) : Int × Int × (List Int) × (List Int) × (List Int) → ((List Int) × (List Int) × (List Int)) → Prop := fun ⟨x4, x5, uln, ulo, ulp⟩ r => ∀ S1 w1, Ext S0 w0 S1 w1 → ∀ ukx uky ukz ul0 ulh uli ulj ulk ull ulm (_ : Hp nz wz S1 w1 ((some lx0, .obj (lpst 251 (lfr 23 [(5, (pt uld 0)), (7, (pt ule 0)), (12, .func (.func 302) #[] #[(pt ulf 0), (pt ulg 0)])] u4q) #[13, 14] (rfAssign (Qs7)) (rfBody (Qs7)) rx0 .ready none)) :: (some uld, .row 313 [.func (.func 204) #[] #[]] 1 0) :: (some ule, .row 60 [.slice (Gp ukx) uky ukz] 1 0) :: (ukx, .row 22 ul0 (ukz * (kInt .u64).size) 0) :: (some ulf, .row 60 [.slice ulh uli ulj] 1 0) :: (some ulg, .row 60 [.slice ulk ull ulm] 1 0) :: Lr)) (_ : Els (kInt .u64) S1 w1 ul0 uln) (_ : uln.length = uky) (_ : Rd (kInt .u64) S1 w1 ulh ulj ulo) (_ : ulo.length = uli) (_ : Rd (kInt .u64) S1 w1 ulk ulm ulp) (_ : ulp.length = ull) (junk : Nat → Value),
 Goes Tryz.prog (base 302) Jyu ⟨lfr 73 [(0, yieldV lx0), (1, (pt ulf 0)), (2, (pt ulg 0)), (4, .i x4), (5, .u x5)] junk, []⟩ w1 (Done Tryz.prog 302 (Rets (Post.z4y nz wz S0 w0 Lr lx0 rx0 u4q uld ule ulf ulg r)))

theorem W.z57 {nz wz S0 w0 Lr} (lx0 : Nat) (rx0 : Nat) (u4q : Nat → Value) (uld : Nat) (ule : Nat) (ulf : Nat) (ulg : Nat) : (∀ a r, M.ab a = some r → (L.z4z nz wz S0 w0 Lr lx0 rx0 u4q uld ule ulf ulg) a r) ∧ (∀ a r, M.a11 a = some r → (L.z50 nz wz S0 w0 Lr lx0 rx0 u4q uld ule ulf ulg) a r) ∧ (∀ a r, M.am a = some r → (L.z51 nz wz S0 w0 Lr lx0 rx0 u4q uld ule ulf ulg) a r) ∧ (∀ a r, M.a12 a = some r → (L.z52 nz wz S0 w0 Lr lx0 rx0 u4q uld ule ulf ulg) a r) ∧ (∀ a r, M.an a = some r → (L.z53 nz wz S0 w0 Lr lx0 rx0 u4q uld ule ulf ulg) a r) ∧ (∀ a r, M.a13 a = some r → (L.z54 nz wz S0 w0 Lr lx0 rx0 u4q uld ule ulf ulg) a r) ∧ (∀ a r, M.a14 a = some r → (L.z55 nz wz S0 w0 Lr lx0 rx0 u4q uld ule ulf ulg) a r) ∧ (∀ a r, M.a15 a = some r → (L.z56 nz wz S0 w0 Lr lx0 rx0 u4q uld ule ulf ulg) a r) := by
 refine M.ab.mutual_partial_correctness (L.z4z nz wz S0 w0 Lr lx0 rx0 u4q uld ule ulf ulg) (L.z50 nz wz S0 w0 Lr lx0 rx0 u4q uld ule ulf ulg) (L.z51 nz wz S0 w0 Lr lx0 rx0 u4q uld ule ulf ulg) (L.z52 nz wz S0 w0 Lr lx0 rx0 u4q uld ule ulf ulg) (L.z53 nz wz S0 w0 Lr lx0 rx0 u4q uld ule ulf ulg) (L.z54 nz wz S0 w0 Lr lx0 rx0 u4q uld ule ulf ulg) (L.z55 nz wz S0 w0 Lr lx0 rx0 u4q uld ule ulf ulg) (L.z56 nz wz S0 w0 Lr lx0 rx0 u4q uld ule ulf ulg) ?_ ?_ ?_ ?_ ?_ ?_ ?_ ?_
 ·
  intro ulq ulr ⟨uln, ulo, ulp⟩ r h S1 w1 hx ukx uky ukz ul0 ulh uli ulj ulk ull ulm p1 uls ult ulu ulv ulw ulx junk
  try dsimp only at h
  subst ult
  subst ulv
  subst ulx
  refine Gn 3 [] Jyv ?_
  refine Goes.ld 60 (.tmp 1) 6 60 ⟨ulf, 0, none⟩ (.slice ulh ulo.length ulj) (p1.c 4 0) ?_
  refine Gm 3 [([7], .i (ulo.length : Int)), ([8, 9], .bool (decide ((ulo.length : Int) > 0)))] Jyw ?_
  refine Gi h (fun h8 h => ?_) fun h8 h => ?_
  ·
   rw [dt h8]
   refine Gm 5 [([10, 11, 12], undef), ([13], .bool true)] Jyn ?_
   exact Gj 73 [(0, yieldV lx0), (1, (pt ulf 0)), (2, (pt ulg 0)), (13, .bool true)] (ulr _ _ h _ _ hx _ _ _ _ _ _ _ _ _ _ p1 uls rfl ulu rfl ulw rfl)
  ·
   rw [df h8]
   refine Goes.ld 60 (.tmp 2) 10 60 ⟨ulg, 0, none⟩ (.slice ulk ulp.length ulm) (p1.c 5 0) ?_
   refine Gm 4 [([11], .i (ulp.length : Int)), ([12, 13], .bool (decide ((ulp.length : Int) > 0)))] Jyn ?_
   exact Gj 73 [(0, yieldV lx0), (1, (pt ulf 0)), (2, (pt ulg 0)), (13, .bool (decide ((ulp.length : Int) > 0)))] (ulr _ _ h _ _ hx _ _ _ _ _ _ _ _ _ _ p1 uls rfl ulu rfl ulw rfl)
 ·
  intro uly ulz ⟨x13, uln, ulo, ulp⟩ r h S1 w1 hx ukx uky ukz ul0 ulh uli ulj ulk ull ulm p1 uls ult ulu ulv ulw ulx junk
  try dsimp only at h
  subst ult
  subst ulv
  subst ulx
  refine Gi h (fun h10 h => ?_) fun h10 h => ?_
  ·
   rw [h10]
   refine Gn 9 [(4, .i 0)] Jyx ?_
   have z2 : Ext S1 w1 S1 (w1).drew := Ext.draw
   have p2 := p1.draw
   refine Gd [] (Fc S1 (w1).drew [(⟨ulg, 0, none⟩, .slice ulk ulp.length ulm), (⟨ulf, 0, none⟩, .slice ulh ulo.length ulj)]) 2 17 ?_
   generalize (w1).drew = w2 at z2 p2 ⊢
   refine Al 0 60 (.tmp 2) 14 60 ⟨ulg, 0, none⟩ (.slice ulk ulp.length ulm) (Fc.here (p2.cs [(5, 0, 1), (4, 0, 1)])) (fun _ h => h.2.at_ 0 rfl) ?_
   refine AnyG.pu 1 (.call { callee := .builtin .len, args := #[(.tmp 14)], argTypes := #[60] }) 15 3 (.i (ulp.length : Int)) (Fc.here (p2.cs [(5, 0, 1), (4, 0, 1)])) ?_
   refine AnyG.pu 2 (.binOp .eql 3 (.tmp 15) (.const (.int .i64 0)) 3) 16 4 (.bool (decide ((ulp.length : Int) = 0))) (Fc.here (p2.cs [(5, 0, 1), (4, 0, 1)])) ?_
   refine AnyG.pu 3 (.move (.tmp 16)) 17 4 (.bool (decide ((ulp.length : Int) = 0))) (Fc.here (p2.cs [(5, 0, 1), (4, 0, 1)])) ?_
   refine Gi h (fun h11 h => ?_) fun h11 h => ?_
   ·
    rw [dt h11]
    refine AnyG.s1 4 18 (Fc.here (p2.cs [(5, 0, 1), (4, 0, 1)])) ?_
    refine AnyG.s1 5 19 (Fc.here (p2.cs [(5, 0, 1), (4, 0, 1)])) ?_
    refine AnyG.s1 6 20 (Fc.here (p2.cs [(5, 0, 1), (4, 0, 1)])) ?_
    refine AnyG.s1 7 21 (Fc.here (p2.cs [(5, 0, 1), (4, 0, 1)])) ?_
    refine AnyG.s1 8 22 (Fc.here (p2.cs [(5, 0, 1), (4, 0, 1)])) ?_
    refine AnyG.s1 9 23 (Fc.here (p2.cs [(5, 0, 1), (4, 0, 1)])) ?_
    refine AnyG.s1 10 24 (Fc.here (p2.cs [(5, 0, 1), (4, 0, 1)])) ?_
    refine AnyG.s1 11 25 (Fc.here (p2.cs [(5, 0, 1), (4, 0, 1)])) ?_
    refine AnyG.s1 12 26 (Fc.here (p2.cs [(5, 0, 1), (4, 0, 1)])) ?_
    refine AnyG.s1 13 27 (Fc.here (p2.cs [(5, 0, 1), (4, 0, 1)])) ?_
    refine AnyG.s1 14 28 (Fc.here (p2.cs [(5, 0, 1), (4, 0, 1)])) ?_
    refine AnyG.s1 15 29 (Fc.here (p2.cs [(5, 0, 1), (4, 0, 1)])) ?_
    refine AnyG.pu 16 (.pick (.tmp 17) (.const (.bool true)) (.tmp 29)) 30 4 (.bool true) (Fc.here (p2.cs [(5, 0, 1), (4, 0, 1)])) ?_
    refine Ad ?_
    exact Gj 73 [(0, yieldV lx0), (1, (pt ulf 0)), (2, (pt ulg 0)), (4, .i 0), (30, .bool true)] (ulz _ _ h _ _ (hx.t z2) _ _ _ _ _ _ _ _ _ _ p2 (uls.ext z2) rfl (ulu.ext z2) rfl (ulw.ext z2) rfl)
   ·
    rw [df h11]
    refine Al 4 60 (.tmp 1) 18 60 ⟨ulf, 0, none⟩ (.slice ulh ulo.length ulj) (Fc.here (p2.cs [(5, 0, 1), (4, 0, 1)])) (fun _ h => h.2.at_ 1 rfl) ?_
    refine AnyG.pu 5 (.call { callee := .builtin .len, args := #[(.tmp 18)], argTypes := #[60] }) 19 3 (.i (ulo.length : Int)) (Fc.here (p2.cs [(5, 0, 1), (4, 0, 1)])) ?_
    refine AnyG.pu 6 (.binOp .gtr 3 (.tmp 19) (.const (.int .i64 0)) 3) 20 4 (.bool (decide ((ulo.length : Int) > 0))) (Fc.here (p2.cs [(5, 0, 1), (4, 0, 1)])) ?_
    refine AnyG.pu 7 (.move (.tmp 20)) 21 4 (.bool (decide ((ulo.length : Int) > 0))) (Fc.here (p2.cs [(5, 0, 1), (4, 0, 1)])) ?_
    refine Gi h (fun h13 h => ?_) fun h13 h => ?_
    ·
     rw [dt h13]
     refine Al 8 60 (.tmp 1) 22 60 ⟨ulf, 0, none⟩ (.slice ulh ulo.length ulj) (Fc.here (p2.cs [(5, 0, 1), (4, 0, 1)])) (fun _ h => h.2.at_ 1 rfl) ?_
     refine Gg h fun g14 h => ?_
     refine AnyG.ixR_n (i := 9) 60 (.tmp 22) (.const (.int .i64 0)) 23 0 22 .i64 0 (gi ulo 0) rfl rfl (ulu.ext z2) (by kernel_rfl) (by kernel_rfl) (Fc.here (p2.cs [(5, 0, 1), (4, 0, 1)])) (by kernel_rfl) (by kernel_rfl) (by kernel_rfl) (by kernel_rfl) (by decide : (0 : Int) ≤ 0) g14 fun a15 _ f16 q17 => ?_
     obtain rfl := q17
     refine Al 10 22 (.tmp 23) 24 22 a15 (.u (gi ulo 0)) (Fc.here (p2.cs [(5, 0, 1), (4, 0, 1)])) (fun _ h => f16.fc h 0 _ rfl) ?_
     refine Al 11 60 (.tmp 2) 25 60 ⟨ulg, 0, none⟩ (.slice ulk ulp.length ulm) (Fc.here (p2.cs [(5, 0, 1), (4, 0, 1)])) (fun _ h => h.2.at_ 0 rfl) ?_
     refine Gg h fun g18 h => ?_
     refine AnyG.ixR_n (i := 12) 60 (.tmp 25) (.const (.int .i64 0)) 26 0 22 .i64 0 (gi ulp 0) rfl rfl (ulw.ext z2) (by kernel_rfl) (by kernel_rfl) (Fc.here (p2.cs [(5, 0, 1), (4, 0, 1)])) (by kernel_rfl) (by kernel_rfl) (by kernel_rfl) (by kernel_rfl) (by decide : (0 : Int) ≤ 0) g18 fun a19 _ f20 q21 => ?_
     obtain rfl := q21
     refine Al 13 22 (.tmp 26) 27 22 a19 (.u (gi ulp 0)) (Fc.here (p2.cs [(5, 0, 1), (4, 0, 1)])) (fun _ h => f20.fc h 0 _ rfl) ?_
     refine AnyG.pu 14 (.binOp .leq 22 (.tmp 24) (.tmp 27) 22) 28 4 (.bool (decide (gi ulo 0 ≤ gi ulp 0))) (Fc.here (p2.cs [(5, 0, 1), (4, 0, 1)])) ?_
     refine AnyG.pu 15 (.pick (.tmp 21) (.tmp 28) (.const (.bool false))) 29 4 (.bool (decide (gi ulo 0 ≤ gi ulp 0))) (Fc.here (p2.cs [(5, 0, 1), (4, 0, 1)])) ?_
     refine AnyG.pu 16 (.pick (.tmp 17) (.const (.bool true)) (.tmp 29)) 30 4 (.bool (decide (gi ulo 0 ≤ gi ulp 0))) (Fc.here (p2.cs [(5, 0, 1), (4, 0, 1)])) ?_
     refine Ad ?_
     exact Gj 73 [(0, yieldV lx0), (1, (pt ulf 0)), (2, (pt ulg 0)), (4, .i 0), (30, .bool (decide (gi ulo 0 ≤ gi ulp 0)))] (ulz _ _ h _ _ (hx.t z2) _ _ _ _ _ _ _ _ _ _ p2 (uls.ext z2) rfl (ulu.ext z2) rfl (ulw.ext z2) rfl)
    ·
     rw [df h13]
     refine AnyG.s1 8 22 (Fc.here (p2.cs [(5, 0, 1), (4, 0, 1)])) ?_
     refine AnyG.s1 9 23 (Fc.here (p2.cs [(5, 0, 1), (4, 0, 1)])) ?_
     refine AnyG.s1 10 24 (Fc.here (p2.cs [(5, 0, 1), (4, 0, 1)])) ?_
     refine AnyG.s1 11 25 (Fc.here (p2.cs [(5, 0, 1), (4, 0, 1)])) ?_
     refine AnyG.s1 12 26 (Fc.here (p2.cs [(5, 0, 1), (4, 0, 1)])) ?_
     refine AnyG.s1 13 27 (Fc.here (p2.cs [(5, 0, 1), (4, 0, 1)])) ?_
     refine AnyG.s1 14 28 (Fc.here (p2.cs [(5, 0, 1), (4, 0, 1)])) ?_
     refine AnyG.pu 15 (.pick (.tmp 21) (.tmp 28) (.const (.bool false))) 29 4 (.bool false) (Fc.here (p2.cs [(5, 0, 1), (4, 0, 1)])) ?_
     refine AnyG.pu 16 (.pick (.tmp 17) (.const (.bool true)) (.tmp 29)) 30 4 (.bool false) (Fc.here (p2.cs [(5, 0, 1), (4, 0, 1)])) ?_
     refine Ad ?_
     exact Gj 73 [(0, yieldV lx0), (1, (pt ulf 0)), (2, (pt ulg 0)), (4, .i 0), (30, .bool false)] (ulz _ _ h _ _ (hx.t z2) _ _ _ _ _ _ _ _ _ _ p2 (uls.ext z2) rfl (ulu.ext z2) rfl (ulw.ext z2) rfl)
  ·
   rw [bf h10]
   refine Gn 2 [] [] ?_
   obtain rfl := sj h
   exact Goes.end_ (fn := Tryz.f302) (by kernel_rfl) (v := .tuple #[]) (by kernel_rfl) ⟨S1, ukx, uln.length, ukz, ul0, ulh, ulo.length, ulj, ulk, ulp.length, ulm, rfl, hx, p1, uls, rfl, ulu, rfl, ulw, rfl⟩
 ·
  intro um0 um1 ⟨x4, x30, uln, ulo, ulp⟩ r h S1 w1 hx ukx uky ukz ul0 ulh uli ulj ulk ull ulm p1 uls ult ulu ulv ulw ulx junk
  try dsimp only at h
  subst ult
  subst ulv
  subst ulx
  refine Gi h (fun h22 h => ?_) fun h22 h => ?_
  ·
   rw [h22]
   refine Gm 6 [([31], .i x4), ([32, 4], .i (ior .i64 x4 1))] Jyp ?_
   exact Gj 73 [(0, yieldV lx0), (1, (pt ulf 0)), (2, (pt ulg 0)), (4, .i (ior .i64 x4 1))] (um1 _ _ h _ _ hx _ _ _ _ _ _ _ _ _ _ p1 uls rfl ulu rfl ulw rfl)
  ·
   rw [bf h22]
   refine Gn 2 [] Jyp ?_
   exact Gj 73 [(0, yieldV lx0), (1, (pt ulf 0)), (2, (pt ulg 0)), (4, .i x4)] (um1 _ _ h _ _ hx _ _ _ _ _ _ _ _ _ _ p1 uls rfl ulu rfl ulw rfl)
 ·
  intro um3 um4 ⟨x4, uln, ulo, ulp⟩ r h S1 w1 hx ukx uky ukz ul0 ulh uli ulj ulk ull ulm p1 uls ult ulu ulv ulw ulx junk
  try dsimp only at h
  subst ult
  subst ulv
  subst ulx
  refine Gn 2 [] Jyy ?_
  have z3 : Ext S1 w1 S1 (w1).drew := Ext.draw
  have p3 := p1.draw
  refine Gd [] (Fc S1 (w1).drew [(⟨ulf, 0, none⟩, .slice ulh ulo.length ulj), (⟨ulg, 0, none⟩, .slice ulk ulp.length ulm)]) 4 17 ?_
  generalize (w1).drew = w3 at z3 p3 ⊢
  refine Al 0 60 (.tmp 1) 33 60 ⟨ulf, 0, none⟩ (.slice ulh ulo.length ulj) (Fc.here (p3.cs [(4, 0, 1), (5, 0, 1)])) (fun _ h => h.2.at_ 0 rfl) ?_
  refine AnyG.pu 1 (.call { callee := .builtin .len, args := #[(.tmp 33)], argTypes := #[60] }) 34 3 (.i (ulo.length : Int)) (Fc.here (p3.cs [(4, 0, 1), (5, 0, 1)])) ?_
  refine AnyG.pu 2 (.binOp .eql 3 (.tmp 34) (.const (.int .i64 0)) 3) 35 4 (.bool (decide ((ulo.length : Int) = 0))) (Fc.here (p3.cs [(4, 0, 1), (5, 0, 1)])) ?_
  refine AnyG.pu 3 (.move (.tmp 35)) 36 4 (.bool (decide ((ulo.length : Int) = 0))) (Fc.here (p3.cs [(4, 0, 1), (5, 0, 1)])) ?_
  refine Gi h (fun h24 h => ?_) fun h24 h => ?_
  ·
   rw [dt h24]
   refine AnyG.s1 4 37 (Fc.here (p3.cs [(4, 0, 1), (5, 0, 1)])) ?_
   refine AnyG.s1 5 38 (Fc.here (p3.cs [(4, 0, 1), (5, 0, 1)])) ?_
   refine AnyG.s1 6 39 (Fc.here (p3.cs [(4, 0, 1), (5, 0, 1)])) ?_
   refine AnyG.s1 7 40 (Fc.here (p3.cs [(4, 0, 1), (5, 0, 1)])) ?_
   refine AnyG.s1 8 41 (Fc.here (p3.cs [(4, 0, 1), (5, 0, 1)])) ?_
   refine AnyG.s1 9 42 (Fc.here (p3.cs [(4, 0, 1), (5, 0, 1)])) ?_
   refine AnyG.s1 10 43 (Fc.here (p3.cs [(4, 0, 1), (5, 0, 1)])) ?_
   refine AnyG.s1 11 44 (Fc.here (p3.cs [(4, 0, 1), (5, 0, 1)])) ?_
   refine AnyG.s1 12 45 (Fc.here (p3.cs [(4, 0, 1), (5, 0, 1)])) ?_
   refine AnyG.s1 13 46 (Fc.here (p3.cs [(4, 0, 1), (5, 0, 1)])) ?_
   refine AnyG.s1 14 47 (Fc.here (p3.cs [(4, 0, 1), (5, 0, 1)])) ?_
   refine AnyG.s1 15 48 (Fc.here (p3.cs [(4, 0, 1), (5, 0, 1)])) ?_
   refine AnyG.pu 16 (.pick (.tmp 36) (.const (.bool true)) (.tmp 48)) 49 4 (.bool true) (Fc.here (p3.cs [(4, 0, 1), (5, 0, 1)])) ?_
   refine Ad ?_
   exact Gj 73 [(0, yieldV lx0), (1, (pt ulf 0)), (2, (pt ulg 0)), (4, .i x4), (49, .bool true)] (um4 _ _ h _ _ (hx.t z3) _ _ _ _ _ _ _ _ _ _ p3 (uls.ext z3) rfl (ulu.ext z3) rfl (ulw.ext z3) rfl)
  ·
   rw [df h24]
   refine Al 4 60 (.tmp 2) 37 60 ⟨ulg, 0, none⟩ (.slice ulk ulp.length ulm) (Fc.here (p3.cs [(4, 0, 1), (5, 0, 1)])) (fun _ h => h.2.at_ 1 rfl) ?_
   refine AnyG.pu 5 (.call { callee := .builtin .len, args := #[(.tmp 37)], argTypes := #[60] }) 38 3 (.i (ulp.length : Int)) (Fc.here (p3.cs [(4, 0, 1), (5, 0, 1)])) ?_
   refine AnyG.pu 6 (.binOp .gtr 3 (.tmp 38) (.const (.int .i64 0)) 3) 39 4 (.bool (decide ((ulp.length : Int) > 0))) (Fc.here (p3.cs [(4, 0, 1), (5, 0, 1)])) ?_
   refine AnyG.pu 7 (.move (.tmp 39)) 40 4 (.bool (decide ((ulp.length : Int) > 0))) (Fc.here (p3.cs [(4, 0, 1), (5, 0, 1)])) ?_
   refine Gi h (fun h26 h => ?_) fun h26 h => ?_
   ·
    rw [dt h26]
    refine Al 8 60 (.tmp 2) 41 60 ⟨ulg, 0, none⟩ (.slice ulk ulp.length ulm) (Fc.here (p3.cs [(4, 0, 1), (5, 0, 1)])) (fun _ h => h.2.at_ 1 rfl) ?_
    refine Gg h fun g27 h => ?_
    refine AnyG.ixR_n (i := 9) 60 (.tmp 41) (.const (.int .i64 0)) 42 0 22 .i64 0 (gi ulp 0) rfl rfl (ulw.ext z3) (by kernel_rfl) (by kernel_rfl) (Fc.here (p3.cs [(4, 0, 1), (5, 0, 1)])) (by kernel_rfl) (by kernel_rfl) (by kernel_rfl) (by kernel_rfl) (by decide : (0 : Int) ≤ 0) g27 fun a28 _ f29 q30 => ?_
    obtain rfl := q30
    refine Al 10 22 (.tmp 42) 43 22 a28 (.u (gi ulp 0)) (Fc.here (p3.cs [(4, 0, 1), (5, 0, 1)])) (fun _ h => f29.fc h 0 _ rfl) ?_
    refine Al 11 60 (.tmp 1) 44 60 ⟨ulf, 0, none⟩ (.slice ulh ulo.length ulj) (Fc.here (p3.cs [(4, 0, 1), (5, 0, 1)])) (fun _ h => h.2.at_ 0 rfl) ?_
    refine Gg h fun g31 h => ?_
    refine AnyG.ixR_n (i := 12) 60 (.tmp 44) (.const (.int .i64 0)) 45 0 22 .i64 0 (gi ulo 0) rfl rfl (ulu.ext z3) (by kernel_rfl) (by kernel_rfl) (Fc.here (p3.cs [(4, 0, 1), (5, 0, 1)])) (by kernel_rfl) (by kernel_rfl) (by kernel_rfl) (by kernel_rfl) (by decide : (0 : Int) ≤ 0) g31 fun a32 _ f33 q34 => ?_
    obtain rfl := q34
    refine Al 13 22 (.tmp 45) 46 22 a32 (.u (gi ulo 0)) (Fc.here (p3.cs [(4, 0, 1), (5, 0, 1)])) (fun _ h => f33.fc h 0 _ rfl) ?_
    refine AnyG.pu 14 (.binOp .leq 22 (.tmp 43) (.tmp 46) 22) 47 4 (.bool (decide (gi ulp 0 ≤ gi ulo 0))) (Fc.here (p3.cs [(4, 0, 1), (5, 0, 1)])) ?_
    refine AnyG.pu 15 (.pick (.tmp 40) (.tmp 47) (.const (.bool false))) 48 4 (.bool (decide (gi ulp 0 ≤ gi ulo 0))) (Fc.here (p3.cs [(4, 0, 1), (5, 0, 1)])) ?_
    refine AnyG.pu 16 (.pick (.tmp 36) (.const (.bool true)) (.tmp 48)) 49 4 (.bool (decide (gi ulp 0 ≤ gi ulo 0))) (Fc.here (p3.cs [(4, 0, 1), (5, 0, 1)])) ?_
    refine Ad ?_
    exact Gj 73 [(0, yieldV lx0), (1, (pt ulf 0)), (2, (pt ulg 0)), (4, .i x4), (49, .bool (decide (gi ulp 0 ≤ gi ulo 0)))] (um4 _ _ h _ _ (hx.t z3) _ _ _ _ _ _ _ _ _ _ p3 (uls.ext z3) rfl (ulu.ext z3) rfl (ulw.ext z3) rfl)
   ·
    rw [df h26]
    refine AnyG.s1 8 41 (Fc.here (p3.cs [(4, 0, 1), (5, 0, 1)])) ?_
    refine AnyG.s1 9 42 (Fc.here (p3.cs [(4, 0, 1), (5, 0, 1)])) ?_
    refine AnyG.s1 10 43 (Fc.here (p3.cs [(4, 0, 1), (5, 0, 1)])) ?_
    refine AnyG.s1 11 44 (Fc.here (p3.cs [(4, 0, 1), (5, 0, 1)])) ?_
    refine AnyG.s1 12 45 (Fc.here (p3.cs [(4, 0, 1), (5, 0, 1)])) ?_
    refine AnyG.s1 13 46 (Fc.here (p3.cs [(4, 0, 1), (5, 0, 1)])) ?_
    refine AnyG.s1 14 47 (Fc.here (p3.cs [(4, 0, 1), (5, 0, 1)])) ?_
    refine AnyG.pu 15 (.pick (.tmp 40) (.tmp 47) (.const (.bool false))) 48 4 (.bool false) (Fc.here (p3.cs [(4, 0, 1), (5, 0, 1)])) ?_
    refine AnyG.pu 16 (.pick (.tmp 36) (.const (.bool true)) (.tmp 48)) 49 4 (.bool false) (Fc.here (p3.cs [(4, 0, 1), (5, 0, 1)])) ?_
    refine Ad ?_
    exact Gj 73 [(0, yieldV lx0), (1, (pt ulf 0)), (2, (pt ulg 0)), (4, .i x4), (49, .bool false)] (um4 _ _ h _ _ (hx.t z3) _ _ _ _ _ _ _ _ _ _ p3 (uls.ext z3) rfl (ulu.ext z3) rfl (ulw.ext z3) rfl)
 ·
  intro um5 um6 ⟨x4, x49, uln, ulo, ulp⟩ r h S1 w1 hx ukx uky ukz ul0 ulh uli ulj ulk ull ulm p1 uls ult ulu ulv ulw ulx junk
  try dsimp only at h
  subst ult
  subst ulv
  subst ulx
  refine Gi h (fun h35 h => ?_) fun h35 h => ?_
  ·
   rw [h35]
   refine Gm 6 [([50], .i x4), ([51, 4], .i (ior .i64 x4 2))] Jyr ?_
   exact Gj 73 [(0, yieldV lx0), (1, (pt ulf 0)), (2, (pt ulg 0)), (4, .i (ior .i64 x4 2))] (um6 _ _ h _ _ hx _ _ _ _ _ _ _ _ _ _ p1 uls rfl ulu rfl ulw rfl)
  ·
   rw [bf h35]
   refine Gn 2 [] Jyr ?_
   exact Gj 73 [(0, yieldV lx0), (1, (pt ulf 0)), (2, (pt ulg 0)), (4, .i x4)] (um6 _ _ h _ _ hx _ _ _ _ _ _ _ _ _ _ p1 uls rfl ulu rfl ulw rfl)
 ·
  intro um8 um9 ⟨x4, uln, ulo, ulp⟩ r h S1 w1 hx ukx uky ukz ul0 ulh uli ulj ulk ull ulm p1 uls ult ulu ulv ulw ulx junk
  try dsimp only at h
  subst ult
  subst ulv
  subst ulx
  refine Gn 11 [(5, .u 0), (52, .i x4), (53, .i (iand .i64 x4 2)), (54, .bool (!(decide (iand .i64 x4 2 = 0))))] Jyz ?_
  refine Gi h (fun h37 h => ?_) fun h37 h => ?_
  ·
   rw [dt h37]
   refine Gn 2 [] Jyt ?_
   exact Gj 73 [(0, yieldV lx0), (1, (pt ulf 0)), (2, (pt ulg 0)), (4, .i x4), (5, .u 0)] (um9 _ _ h _ _ hx _ _ _ _ _ _ _ _ _ _ p1 uls rfl ulu rfl ulw rfl)
  ·
   rw [df h37]
   refine Gn 1 [] Jz0 ?_
   have z4 : Ext S1 w1 S1 (w1).drew := Ext.draw
   have p4 := p1.draw
   refine Gd [6] (Fc S1 (w1).drew [(⟨ulg, 0, none⟩, .slice ulk ulp.length ulm)]) 8 7 ?_
   generalize (w1).drew = w4 at z4 p4 ⊢
   refine Al 0 60 (.tmp 2) 55 60 ⟨ulg, 0, none⟩ (.slice ulk ulp.length ulm) (Fc.here (p4.cs [(5, 0, 1)])) (fun _ h => h.2.at_ 0 rfl) ?_
   refine Gg h fun g39 h => ?_
   refine AnyG.ixR_n (i := 1) 60 (.tmp 55) (.const (.int .i64 0)) 56 0 22 .i64 0 (gi ulp 0) rfl rfl (ulw.ext z4) (by kernel_rfl) (by kernel_rfl) (Fc.here (p4.cs [(5, 0, 1)])) (by kernel_rfl) (by kernel_rfl) (by kernel_rfl) (by kernel_rfl) (by decide : (0 : Int) ≤ 0) g39 fun a40 _ f41 q42 => ?_
   obtain rfl := q42
   refine Al 2 22 (.tmp 56) 57 22 a40 (.u (gi ulp 0)) (Fc.here (p4.cs [(5, 0, 1)])) (fun _ h => f41.fc h 0 _ rfl) ?_
   refine Al 3 60 (.tmp 2) 58 60 ⟨ulg, 0, none⟩ (.slice ulk ulp.length ulm) (Fc.here (p4.cs [(5, 0, 1)])) (fun _ h => h.2.at_ 0 rfl) ?_
   refine Gg h fun g43 h => ?_
   refine AnyG.slR_n (i := 4) 60 (.tmp 58) (some (.const (.int .i64 1))) none 59 60 22 1 (ulp.length : Int) (sl ulp 1 (ulp.length : Int)) rfl rfl (ulw.ext z4) (by kernel_rfl) (by kernel_rfl) (Fc.here (p4.cs [(5, 0, 1)])) (by kernel_rfl) (by kernel_rfl) (by kernel_rfl) (Bnd.at_ .i64 (by kernel_rfl)) Bnd.no (by decide : (0 : Int) ≤ 1) g43 (Int.le_refl _) fun A44 c45 f46 => ?_
   refine AnyG.pu 5 (.assign (.tmp 57)) 5 22 (.u (gi ulp 0)) (Fc.here (p4.cs [(5, 0, 1)])) ?_
   refine So 60 (.tmp 2) (.tmp 59) 0 5 ulg 0 (.slice A44 ((sl ulp 1 (ulp.length : Int)).length) c45) [.slice A44 ((sl ulp 1 (ulp.length : Int)).length) c45] p4 rfl (As 6) fun w5 z5 p5 => ?_
   refine AnyG.last [] (Fc S1 w5 []) (by decide) ?_
   refine Ad ?_
   exact Gj 73 [(0, yieldV lx0), (1, (pt ulf 0)), (2, (pt ulg 0)), (4, .i x4), (5, .u (gi ulp 0))] (um9 _ _ h _ _ ((hx.t z4).t z5) _ _ _ _ _ _ _ _ _ _ p5 (uls.ext (z4.t z5)) rfl (ulu.ext (z4.t z5)) rfl (f46.ext z5) rfl)
 ·
  intro uma umb ⟨x4, x5, uln, ulo, ulp⟩ r h S1 w1 hx ukx uky ukz ul0 ulh uli ulj ulk ull ulm p1 uls ult ulu ulv ulw ulx junk
  try dsimp only at h
  subst ult
  subst ulv
  subst ulx
  refine Gn 7 [(60, .i x4), (61, .i (iand .i64 x4 1)), (62, .bool (!(decide (iand .i64 x4 1 = 0))))] Jz1 ?_
  refine Gi h (fun h47 h => ?_) fun h47 h => ?_
  ·
   rw [dt h47]
   refine Gn 2 [] Jyu ?_
   exact Gj 73 [(0, yieldV lx0), (1, (pt ulf 0)), (2, (pt ulg 0)), (4, .i x4), (5, .u x5)] (umb _ _ h _ _ hx _ _ _ _ _ _ _ _ _ _ p1 uls rfl ulu rfl ulw rfl)
  ·
   rw [df h47]
   refine Gn 1 [] Jz2 ?_
   have z6 : Ext S1 w1 S1 (w1).drew := Ext.draw
   have p6 := p1.draw
   refine Gd [6] (Fc S1 (w1).drew [(⟨ulf, 0, none⟩, .slice ulh ulo.length ulj)]) 10 7 ?_
   generalize (w1).drew = w6 at z6 p6 ⊢
   refine Al 0 60 (.tmp 1) 63 60 ⟨ulf, 0, none⟩ (.slice ulh ulo.length ulj) (Fc.here (p6.cs [(4, 0, 1)])) (fun _ h => h.2.at_ 0 rfl) ?_
   refine Gg h fun g49 h => ?_
   refine AnyG.ixR_n (i := 1) 60 (.tmp 63) (.const (.int .i64 0)) 64 0 22 .i64 0 (gi ulo 0) rfl rfl (ulu.ext z6) (by kernel_rfl) (by kernel_rfl) (Fc.here (p6.cs [(4, 0, 1)])) (by kernel_rfl) (by kernel_rfl) (by kernel_rfl) (by kernel_rfl) (by decide : (0 : Int) ≤ 0) g49 fun a50 _ f51 q52 => ?_
   obtain rfl := q52
   refine Al 2 22 (.tmp 64) 65 22 a50 (.u (gi ulo 0)) (Fc.here (p6.cs [(4, 0, 1)])) (fun _ h => f51.fc h 0 _ rfl) ?_
   refine Al 3 60 (.tmp 1) 66 60 ⟨ulf, 0, none⟩ (.slice ulh ulo.length ulj) (Fc.here (p6.cs [(4, 0, 1)])) (fun _ h => h.2.at_ 0 rfl) ?_
   refine Gg h fun g53 h => ?_
   refine AnyG.slR_n (i := 4) 60 (.tmp 66) (some (.const (.int .i64 1))) none 67 60 22 1 (ulo.length : Int) (sl ulo 1 (ulo.length : Int)) rfl rfl (ulu.ext z6) (by kernel_rfl) (by kernel_rfl) (Fc.here (p6.cs [(4, 0, 1)])) (by kernel_rfl) (by kernel_rfl) (by kernel_rfl) (Bnd.at_ .i64 (by kernel_rfl)) Bnd.no (by decide : (0 : Int) ≤ 1) g53 (Int.le_refl _) fun A54 c55 f56 => ?_
   refine AnyG.pu 5 (.assign (.tmp 65)) 5 22 (.u (gi ulo 0)) (Fc.here (p6.cs [(4, 0, 1)])) ?_
   refine So 60 (.tmp 1) (.tmp 67) 0 4 ulf 0 (.slice A54 ((sl ulo 1 (ulo.length : Int)).length) c55) [.slice A54 ((sl ulo 1 (ulo.length : Int)).length) c55] p6 rfl (As 6) fun w7 z7 p7 => ?_
   refine AnyG.last [] (Fc S1 w7 []) (by decide) ?_
   refine Ad ?_
   exact Gj 73 [(0, yieldV lx0), (1, (pt ulf 0)), (2, (pt ulg 0)), (4, .i x4), (5, .u (gi ulo 0))] (umb _ _ h _ _ ((hx.t z6).t z7) _ _ _ _ _ _ _ _ _ _ p7 (uls.ext (z6.t z7)) rfl (f56.ext z7) rfl (ulw.ext (z6.t z7)) rfl)
 ·
  intro umc umd ⟨x4, x5, uln, ulo, ulp⟩ r h S1 w1 hx ukx uky ukz ul0 ulh uli ulj ulk ull ulm p1 uls ult ulu ulv ulw ulx junk
  try dsimp only at h
  subst ult
  subst ulv
  subst ulx
  refine Gn 5 [(68, yieldV lx0), (69, .u x5), (70, .i x4)] Jz4 ?_
  refine Gb h fun y57 e58 h => ?_
  refine Goes.yieldAt (.call { callee := .value (.tmp 68), args := #[(.tmp 69), (.tmp 70)], argTypes := #[22, 3] }) 71 4 0 lx0 #[.u x5, .i x4] p1 rfl (by kernel_rfl) rfl (fun _ => by kernel_rfl) rfl (W.z4x uln ulo ulp x5 x4 y57 e58 _ _ _ _ _ _ _ _ _ _ _ _ _ _ _ _ _ p1 uls rfl ulu rfl ulw rfl) ?_
  rintro _ w8 ⟨S8, ume, umf, umg, umh, rfl, z8, p8, umi, rfl⟩
  refine Gn 6 [(72, .bool (!true))] Jyl ?_
  exact Gj 73 [(0, yieldV lx0), (1, (pt ulf 0)), (2, (pt ulg 0))] (umd _ _ h _ _ (hx.t z8) _ _ _ _ _ _ _ _ _ _ p8 umi rfl (ulu.ext z8) rfl (ulw.ext z8) rfl)

theorem W.z4z {nz wz S0 w0 Lr} (lx0 : Nat) (rx0 : Nat) (u4q : Nat → Value) (uld : Nat) (ule : Nat) (ulf : Nat) (ulg : Nat) : ∀ a r, M.ab a = some r → (L.z4z nz wz S0 w0 Lr lx0 rx0 u4q uld ule ulf ulg) a r := (W.z57 lx0 rx0 u4q uld ule ulf ulg).1

theorem W.z50 {nz wz S0 w0 Lr} (lx0 : Nat) (rx0 : Nat) (u4q : Nat → Value) (uld : Nat) (ule : Nat) (ulf : Nat) (ulg : Nat) : ∀ a r, M.a11 a = some r → (L.z50 nz wz S0 w0 Lr lx0 rx0 u4q uld ule ulf ulg) a r := (W.z57 lx0 rx0 u4q uld ule ulf ulg).2.1

theorem W.z51 {nz wz S0 w0 Lr} (lx0 : Nat) (rx0 : Nat) (u4q : Nat → Value) (uld : Nat) (ule : Nat) (ulf : Nat) (ulg : Nat) : ∀ a r, M.am a = some r → (L.z51 nz wz S0 w0 Lr lx0 rx0 u4q uld ule ulf ulg) a r := (W.z57 lx0 rx0 u4q uld ule ulf ulg).2.2.1

theorem W.z52 {nz wz S0 w0 Lr} (lx0 : Nat) (rx0 : Nat) (u4q : Nat → Value) (uld : Nat) (ule : Nat) (ulf : Nat) (ulg : Nat) : ∀ a r, M.a12 a = some r → (L.z52 nz wz S0 w0 Lr lx0 rx0 u4q uld ule ulf ulg) a r := (W.z57 lx0 rx0 u4q uld ule ulf ulg).2.2.2.1

theorem W.z53 {nz wz S0 w0 Lr} (lx0 : Nat) (rx0 : Nat) (u4q : Nat → Value) (uld : Nat) (ule : Nat) (ulf : Nat) (ulg : Nat) : ∀ a r, M.an a = some r → (L.z53 nz wz S0 w0 Lr lx0 rx0 u4q uld ule ulf ulg) a r := (W.z57 lx0 rx0 u4q uld ule ulf ulg).2.2.2.2.1

theorem W.z54 {nz wz S0 w0 Lr} (lx0 : Nat) (rx0 : Nat) (u4q : Nat → Value) (uld : Nat) (ule : Nat) (ulf : Nat) (ulg : Nat) : ∀ a r, M.a13 a = some r → (L.z54 nz wz S0 w0 Lr lx0 rx0 u4q uld ule ulf ulg) a r := (W.z57 lx0 rx0 u4q uld ule ulf ulg).2.2.2.2.2.1

theorem W.z55 {nz wz S0 w0 Lr} (lx0 : Nat) (rx0 : Nat) (u4q : Nat → Value) (uld : Nat) (ule : Nat) (ulf : Nat) (ulg : Nat) : ∀ a r, M.a14 a = some r → (L.z55 nz wz S0 w0 Lr lx0 rx0 u4q uld ule ulf ulg) a r := (W.z57 lx0 rx0 u4q uld ule ulf ulg).2.2.2.2.2.2.1

theorem W.z56 {nz wz S0 w0 Lr} (lx0 : Nat) (rx0 : Nat) (u4q : Nat → Value) (uld : Nat) (ule : Nat) (ulf : Nat) (ulg : Nat) : ∀ a r, M.a15 a = some r → (L.z56 nz wz S0 w0 Lr lx0 rx0 u4q uld ule ulf ulg) a r := (W.z57 lx0 rx0 u4q uld ule ulf ulg).2.2.2.2.2.2.2

theorem W.z4y (umj : List Int) (umk : List Int) (uml : List Int) (r : (List Int) × (List Int) × (List Int)) (h : M.a5t umj umk uml = some r) {nz wz S0 w0 Lr} (lx0 rx0 u4q uld ule umm umn umo ump ulf umq umr ums ulg umt umu umv) (p0 : Hp nz wz S0 w0 ((some lx0, .obj (lpst 251 (lfr 23 [(5, (pt uld 0)), (7, (pt ule 0)), (12, .func (.func 302) #[] #[(pt ulf 0), (pt ulg 0)])] u4q) #[13, 14] (rfAssign (Qs7)) (rfBody (Qs7)) rx0 .ready none)) :: (some uld, .row 313 [.func (.func 204) #[] #[]] 1 0) :: (some ule, .row 60 [.slice (Gp umm) umn umo] 1 0) :: (umm, .row 22 ump (umo * (kInt .u64).size) 0) :: (some ulf, .row 60 [.slice umq umr ums] 1 0) :: (some ulg, .row 60 [.slice umt umu umv] 1 0) :: Lr)) (umw : Els (kInt .u64) S0 w0 ump umj) (umx : umj.length = umn) (umy : Rd (kInt .u64) S0 w0 umq ums umk) (umz : umk.length = umr) (un0 : Rd (kInt .u64) S0 w0 umt umv uml) (un1 : uml.length = umu) :
  Calls Tryz.prog 302 #[yieldV lx0, (pt ulf 0), (pt ulg 0)] w0 (Rets (Post.z4y nz wz S0 w0 Lr lx0 rx0 u4q uld ule ulf ulg r)) := by
 subst umx
 subst umz
 subst un1
 refine Zf Tryz.f302 B302 70 ?_
 refine Gj 73 [(0, yieldV lx0), (1, (pt ulf 0)), (2, (pt ulg 0))] fun junk => ?_
 delta M.a5t at h
 refine Gn 2 [] Jyl ?_
 exact Gj 73 [(0, yieldV lx0), (1, (pt ulf 0)), (2, (pt ulg 0))] (W.z4z lx0 rx0 u4q uld ule ulf ulg _ _ h _ _ (Ext.refl S0 w0) _ _ _ _ _ _ _ _ _ _ p0 umw rfl umy rfl un0 rfl)

def Jz6 := Yt 10 B251 [0, 1] (Ys 11 B251 [])
def Jz8 := Yt 110 B251 [0] (Ys 111 B251 [])
def Jz9 := Ys 1111 B251 []
def Jzb := Yt 11100 B251 [2] (Ys 11101 B251 Jz9)
def Jzc := Zb 0 Jz9
def Jzd := Zc Qs7 Jzc
def Jze := Ys 11111 B251 []
def Jzf := Yt 11110 B251 [0, 1] Jze

def Post.z58 (r : List Int) (v : Value) (w' : World) : Prop :=
 ∃ S' Gq nq cq csq, v = .slice (Gp Gq) nq cq ∧ Ext S0 w0 S' w' ∧ Hp nz wz S' w' ((Gq, .row 22 csq (cq * (kInt .u64).size) 0) :: Lr) ∧ Els (kInt .u64) S' w' csq r ∧ r.length = nq

theorem W.z58 (x0 : List Int) (x1 : List Int) (r : List Int) (h : M.a4s x0 x1 = some r) {nz wz S0 w0 Lr} (Ax0 nx0 cx0 Ax1 nx1 cx1) (p0 : Hp nz wz S0 w0 (Lr)) (fx0 : Rd (kInt .u64) S0 w0 Ax0 cx0 x0) (lx0 : x0.length = nx0) (fx1 : Rd (kInt .u64) S0 w0 Ax1 cx1 x1) (lx1 : x1.length = nx1) :
  Calls Tryz.prog 251 #[.slice Ax0 nx0 cx0, .slice Ax1 nx1 cx1, .func (.func 204) #[] #[]] w0 (Rets (Post.z58 nz wz S0 w0 Lr r)) := by
 subst lx0
 subst lx1
 refine Zf Tryz.f251 B251 20 ?_
 refine Gj 23 [(0, .slice Ax0 x0.length cx0), (1, .slice Ax1 x1.length cx1), (2, .func (.func 204) #[] #[])] fun junk => ?_
 delta M.a4s at h
 refine Gn 2 [] Jz6 ?_
 refine Ob 313 (.tmp 2) 5 0 (.func (.func 204) #[] #[]) [.func (.func 204) #[] #[]] p0 Goes.v fun b1 w2 z2 p2 => ?_
 refine Gn 4 [(6, .slice none 0 0)] Jz8 ?_
 refine Oa 60 7 0 (.slice none 0 0) [.slice none 0 0] p2 Goes.v fun b3 w3 z3 p3 => ?_
 refine Gn 6 [(10, .slice Ax0 x0.length cx0), (11, .slice Ax1 x1.length cx1)] Jzb ?_
 refine Gb h fun y5 e6 h => ?_
 refine Gc (kc 280 [10, 11] #[60, 60]) 12 375 280 _ (W.z4v x0 x1 y5 e6 _ _ _ _ _ _ p3 (fx0.ext (z2.t z3)) rfl (fx1.ext (z2.t z3)) rfl) ?_
 rintro _ w4 ⟨S4, un2, un3, un4, un5, un6, un7, un8, un9, rfl, z4, p4, una, rfl, unb, rfl⟩
 refine Gn 2 [] Jzd ?_
 refine Gj 23 [(5, (pt b1 0)), (7, (pt b3 0)), (12, .func (.func 302) #[] #[(pt un2 0), (pt un6 0)])] (fun unc => ?_)
 refine Goes.rangeF (f := 251) (.tmp 12) #[13, 14] 302 #[] #[(pt un2 0), (pt un6 0)] (by kernel_rfl) (by kernel_rfl) (fun _ => by kernel_rfl) p4 fun r10 l11 w5 z5 p5 => ?_
 have p5 : Hp nz wz S4 w5 ((none, .row 22 [] (0 * (kInt .u64).size) 0) :: (some l11, .obj (lpst 251 (lfr 23 [(5, (pt b1 0)), (7, (pt b3 0)), (12, .func (.func 302) #[] #[(pt un2 0), (pt un6 0)])] unc) #[13, 14] (rfAssign (Qs7)) (rfBody (Qs7)) r10 .ready none)) :: (some r10, .obj (.deferred (some []))) :: (some un2, .row 60 [.slice un3 y5.1.length un5] 1 0) :: (some un6, .row 60 [.slice un7 y5.2.length un9] 1 0) :: (some b3, .row 60 [.slice none 0 0] 1 0) :: (some b1, .row 313 [.func (.func 204) #[] #[]] 1 0) :: Lr) := p5.nilRow' 22
 have p5 := (((((p5.fr 4).fr 4).fr 2).fr 5).fr 6).fr 5
 refine Gb h fun y15 e16 h => ?_
 refine ⟨_, W.z4y ([] : List Int) y5.1 y5.2 y15 e16 _ _ _ _ _ none 0 0 [] _ _ _ _ _ _ _ _ p5 (Els.nil (K := (kInt .u64))) rfl (una.ext z5) rfl (unb.ext z5) rfl, ?_⟩
 rintro _ w6 ⟨S6, und, une, unf, ung, unh, uni, unj, unk, unl, unm, rfl, z6, p6, unn, rfl, uno, rfl, unp, rfl⟩
 refine Goes.endF 0 p6 rfl rfl fun w7 z7 p7 => ?_
 replace p7 : Hp nz wz S6 w7 ((some b1, .row 313 [.func (.func 204) #[] #[]] 1 0) :: (some b3, .row 60 [.slice (Gp und) y15.1.length unf] 1 0) :: (und, .row 22 ung (unf * (kInt .u64).size) 0) :: (some un2, .row 60 [.slice unh y15.2.1.length unj] 1 0) :: (some un6, .row 60 [.slice unk y15.2.2.length unm] 1 0) :: (some r10, .obj (.deferred (some []))) :: Lr) := (p7.front 0 _ rfl).drop
 show Goes _ _ Jzc _ _ _
 refine Gn 3 [] Jzf ?_
 refine Goes.ld 60 (.tmp 7) 22 60 ⟨b3, 0, none⟩ (.slice (Gp und) y15.1.length unf) (p7.c 1 0) ?_
 refine Gn 2 [(6, .slice (Gp und) y15.1.length unf)] Jze ?_
 obtain rfl := sj h
 have p7 := (((p7.dp 0).dp 0).dp 1).dp 1
 have p7 := (p7.fr 0).fr 1
 refine Goes.retL ?_
 refine lvs_mark 0 rfl rfl p7 rfl fun w8 z8 p8 => ?_
 replace p8 : Hp nz wz S6 w8 ((und, .row 22 ung (unf * (kInt .u64).size) 0) :: Lr) := p8.drop
 exact lvs_done (fn := Tryz.f251) rfl rfl rfl rfl (by kernel_rfl) (v := .slice (Gp und) y15.1.length unf) (by kernel_rfl) ⟨S6, und, y15.1.length, unf, ung, rfl, ((((((z2.t z3).t z4).t z5).t z6).t z7).t z8), p8, (unn.ext (z7.t z8)), rfl⟩

def Jzg := Ys 1111111 B203 []
def Qt1 := Yq 1111110100 B203
def Jzi := Zl Qt1 (Zb 2 Jzg)
def Jzj := Zc Qt1 Jzi
def Jzl := Ys 111111010010 B203 (Ys 111111010011 B203 Jzi)
def Jzn := Zb 3 (Ys 1111110100111 B203 Jzi)
def Qt5 := Yq 111111010011001 B203
def Jzp := Yt 111111010011000 B203 [0, 1, 2] (Zc Qt5 Jzn)
def Jzq := Zr Qt5 [3, 4] Jzn
def Jzr := Ys 11111111 B203 []

def Post.z59 (r : (List Int) × Int) (v : Value) (w' : World) : Prop :=
 ∃ S' unq ua0 ua1 unr, v = .tuple #[.slice (Gp unq) ua0 ua1, .i r.2] ∧ Ext S0 w0 S' w' ∧ Hp nz wz S' w' ((unq, .row 22 unr (ua1 * (kInt .u64).size) 0) :: Lr) ∧ Els (kInt .u64) S' w' unr r.1 ∧ r.1.length = ua0

def L.z5a : (List Int) × (List (List Int)) × Int × Int → ((List Int) × Int) → Prop := fun ⟨x9, x35, x36, x37⟩ r => ∀ S1 w1, Ext S0 w0 S1 w1 → ∀ Gx9 nx9 cx9 uns unt unu unv (_ : Hp nz wz S1 w1 ((Gx9, .row 22 uns (cx9 * (kInt .u64).size) 0) :: Lr)) (_ : Els (kInt .u64) S1 w1 uns x9) (_ : x9.length = nx9) (_ : Rd (kSl (kInt .u64)) S1 w1 unt unv x35) (_ : x35.length = unu) (junk : Nat → Value),
 Goes Tryz.prog (base 203) Jzj ⟨lfr 47 [(1, .func (.func 204) #[] #[]), (9, .slice (Gp Gx9) nx9 cx9), (35, .slice unt unu unv), (36, .i x36), (37, .i x37)] junk, []⟩ w1 (Done Tryz.prog 203 (Rets (Post.z59 nz wz S0 w0 Lr r)))

theorem W.z5a {nz wz S0 w0 Lr} : ∀ a r, M.a31 a = some r → (L.z5a nz wz S0 w0 Lr) a r := by
 refine M.a31.partial_correctness (motive := (L.z5a nz wz S0 w0 Lr)) ?_
 intro unw unx ⟨x9, x35, x36, x37⟩ r h S1 w1 hx Gx9 nx9 cx9 uns unt unu unv p1 fx9 lx9 uny unz junk
 try dsimp only at h
 subst lx9
 subst unz
 refine Gn 5 [(38, .bool (decide (x37 < x36)))] Jzl ?_
 refine Gi h (fun h33 h => ?_) fun h33 h => ?_
 ·
  rw [dt h33]
  refine Gn 6 [] Jzp ?_
  refine Gg h fun g34 h => ?_
  refine Gg h fun g35 h => ?_
  refine Oi 311 (.tmp 35) (.tmp 37) 39 0 60 .i64 x37 (gi x35 x37) rfl rfl uny Goes.v g34 g35 fun a36 _ f37 q38 => ?_
  obtain ⟨A39, c40, rfl, f41⟩ := q38
  refine Goes.ld 60 (.tmp 39) 40 60 a36 (.slice A39 ((gi x35 x37).length) c40) (f37.cell 0 _ rfl) ?_
  refine Gm 6 [([11, 42], .slice A39 ((gi x35 x37).length) c40), ([41], .slice (Gp Gx9) x9.length cx9), ([43], .func (.func 204) #[] #[])] Jzq ?_
  obtain ⟨S4, z4, p4, f42⟩ := p1.freezeRd 0 rfl fx9 (by decide)
  refine Gb h fun y43 e44 h => ?_
  refine Gc (kc 251 [41, 42, 43] #[60, 60, 313]) 44 60 251 _ (W.z58 x9 (gi x35 x37) y43 e44 _ _ _ _ _ _ p4 f42 rfl (f41.ext z4) rfl) ?_
  rintro _ w5 ⟨S5, uo0, uo1, uo2, uo3, rfl, z5, p5, ux, rfl⟩
  have p5 := p5.dp 1
  refine Gm 8 [([9], .slice (Gp uo0) y43.length uo2), ([45, 37], .i (wr .i64 (x37 + 1)))] Jzj ?_
  exact Gj 47 [(1, .func (.func 204) #[] #[]), (9, .slice (Gp uo0) y43.length uo2), (35, .slice unt x35.length unv), (36, .i x36), (37, .i (wr .i64 (x37 + 1)))] (unx _ _ h _ _ ((hx.t z4).t z5) _ _ _ _ _ _ _ p5 ux rfl (uny.ext (z4.t z5)) rfl)
 ·
  rw [df h33]
  refine Gm 8 [([46, 4], .slice (Gp Gx9) x9.length cx9), ([5], .i 0)] Jzr ?_
  obtain rfl := sj h
  exact Goes.rt Tryz.f203 (.tuple #[.slice (Gp Gx9) x9.length cx9, .i 0]) ⟨_, _, _, _, _, rfl, hx, p1, fx9, rfl⟩

def Qt9 := Yq 1110100 B203
def Jzu := Zl Qt9 (Zb 0 (Ys 1111 B203 []))
def Jzv := Zc Qt9 Jzu
def Jzx := Ys 111010010 B203 (Ys 111010011 B203 Jzu)
def Jzz := Zb 1 (Ys 1110100111 B203 Jzu)
def J101 := Yt 111010011000 B203 [0, 1, 2] (Ys 111010011001 B203 Jzz)
def J103 := Yt 1110100110010 B203 [1, 2] (Ys 1110100110011 B203 Jzz)
def J104 := Ys 11101001100111 B203 Jzz
def J105 := Ys 1110100110011101 B203 Jzz
def J106 := Ys 11111 B203 []
def J107 := Ys 111101 B203 J106
def J108 := Ys 11110101 B203 J106
def J10a := Yt 111110 B203 [1, 2, 3, 4] (Ys 111111 B203 [])
def J10c := Yt 11111100 B203 [1, 2, 3] (Ys 11111101 B203 Jzg)

def L.z5b : (List (List Int)) × (List (List Int)) × Int × Int → ((List Int) × Int) → Prop := fun ⟨x0, x15, x16, x17⟩ r => ∀ S1 w1, Ext S0 w0 S1 w1 → ∀ Ax0 nx0 cx0 ufj ufk ufl (_ : Hp nz wz S1 w1 (Lr)) (_ : Rd (kSl (kInt .u64)) S1 w1 Ax0 cx0 x0) (_ : x0.length = nx0) (_ : Rd (kSl (kInt .u64)) S1 w1 ufj ufl x15) (_ : x15.length = ufk) (junk : Nat → Value),
 Goes Tryz.prog (base 203) Jzv ⟨lfr 47 [(0, .slice Ax0 nx0 cx0), (1, .func (.func 204) #[] #[]), (15, .slice ufj ufk ufl), (16, .i x16), (17, .i x17)] junk, []⟩ w1 (Done Tryz.prog 203 (Rets (Post.z59 nz wz S0 w0 Lr r)))

theorem W.z5b {nz wz S0 w0 Lr} : ∀ a r, M.a32 a = some r → (L.z5b nz wz S0 w0 Lr) a r := by
 refine M.a32.partial_correctness (motive := (L.z5b nz wz S0 w0 Lr)) ?_
 intro uo4 uo5 ⟨x0, x15, x16, x17⟩ r h S1 w1 hx Ax0 nx0 cx0 ufj ufk ufl p1 fx0 lx0 ufs uft junk
 try dsimp only at h
 subst lx0
 subst uft
 refine Gn 5 [(18, .bool (decide (x17 < x16)))] Jzx ?_
 refine Gi h (fun h3 h => ?_) fun h3 h => ?_
 ·
  rw [dt h3]
  refine Gn 6 [] J101 ?_
  refine Gg h fun g4 h => ?_
  refine Gg h fun g5 h => ?_
  refine Oi 311 (.tmp 15) (.tmp 17) 19 0 60 .i64 x17 (gi x15 x17) rfl rfl ufs Goes.v g4 g5 fun a6 _ f7 q8 => ?_
  obtain ⟨A9, c10, rfl, f11⟩ := q8
  refine Goes.ld 60 (.tmp 19) 20 60 a6 (.slice A9 ((gi x15 x17).length) c10) (f7.cell 0 _ rfl) ?_
  refine Gm 5 [([7, 21], .slice A9 ((gi x15 x17).length) c10)] J103 ?_
  refine Gb h fun y12 e13 h => ?_
  refine Gc (kc 82 [21] #[60]) 22 34 82 _ (W.z4t (gi x15 x17) y12 e13 _ _ _ p1 f11 rfl) ?_
  rintro _ w2 ⟨S2, rfl, z2, p2⟩
  refine Gm 7 [([8, 23], .i y12), ([24], .bool (!(decide (y12 = 0))))] J104 ?_
  refine Gi h (fun h14 h => ?_) fun h14 h => ?_
  ·
   rw [dt h14]
   refine Gm 8 [([26, 17], .i (wr .i64 (x17 + 1)))] Jzv ?_
   exact Gj 47 [(0, .slice Ax0 x0.length cx0), (1, .func (.func 204) #[] #[]), (15, .slice ufj x15.length ufl), (16, .i x16), (17, .i (wr .i64 (x17 + 1)))] (uo5 _ _ h _ _ (hx.t z2) _ _ _ _ _ _ p2 (fx0.ext z2) rfl (ufs.ext z2) rfl)
  ·
   rw [df h14]
   refine Gm 7 [([25, 5], .i y12), ([4], .slice none 0 0)] J105 ?_
   have p2 : Hp nz wz S2 w2 ((none, .row 22 [] (0 * (kInt .u64).size) 0) :: Lr) := p2.nilRow' 22
   obtain rfl := sj h
   exact Goes.rt Tryz.f203 (.tuple #[.slice (Gp none) 0 0, .i y12]) ⟨_, _, _, _, _, rfl, (hx.t z2), p2, (Els.nil (K := (kInt .u64))), rfl⟩
 ·
  rw [df h3]
  refine Gn 9 [(27, .slice Ax0 x0.length cx0), (28, .i (x0.length : Int)), (29, .bool (decide ((x0.length : Int) = 0)))] J107 ?_
  refine Gi h (fun h16 h => ?_) fun h16 h => ?_
  ·
   rw [dt h16]
   refine Gn 6 [(4, .slice none 0 0), (5, .i 0)] J108 ?_
   have p1 : Hp nz wz S1 w1 ((none, .row 22 [] (0 * (kInt .u64).size) 0) :: Lr) := p1.nilRow' 22
   obtain rfl := sj h
   exact Goes.rt Tryz.f203 (.tuple #[.slice (Gp none) 0 0, .i 0]) ⟨_, _, _, _, _, rfl, hx, p1, (Els.nil (K := (kInt .u64))), rfl⟩
  ·
   rw [df h16]
   refine Gn 5 [(30, .slice Ax0 x0.length cx0)] J10a ?_
   refine Gg h fun g18 h => ?_
   refine Oi 311 (.tmp 30) (.const (.int .i64 0)) 31 0 60 .i64 0 (gi x0 0) rfl rfl fx0 Goes.v (by decide : (0 : Int) ≤ 0) g18 fun a19 _ f20 q21 => ?_
   obtain ⟨A22, c23, rfl, f24⟩ := q21
   refine Goes.ld 60 (.tmp 31) 32 60 a19 (.slice A22 ((gi x0 0).length) c23) (f20.cell 0 _ rfl) ?_
   refine Gb h fun y25 e26 h => ?_
   refine Gc (kc 142 [32] #[60]) 33 60 142 _ (W.z4u (gi x0 0) y25 e26 _ _ _ p1 f24 rfl) ?_
   rintro _ w3 ⟨S3, ufc, ufd, ufe, uff, rfl, z3, p3, u2d, rfl⟩
   refine Gn 6 [(9, .slice (Gp ufc) y25.length ufe), (34, .slice Ax0 x0.length cx0)] J10c ?_
   refine Gg h fun g28 h => ?_
   refine Op_.slR_n 311 (.tmp 34) (some (.const (.int .i64 1))) none 35 311 60 1 (x0.length : Int) (sl x0 1 (x0.length : Int)) rfl rfl (fx0.ext z3) Goes.v (by kernel_rfl) (by kernel_rfl) (by kernel_rfl) (Bnd.at_ .i64 (by kernel_rfl)) Bnd.no (by decide : (0 : Int) ≤ 1) g28 (Int.le_refl _) fun A29 c30 f31 => ?_
   refine Gn 5 [(36, .i ((sl x0 1 (x0.length : Int)).length : Int)), (37, .i 0)] Jzj ?_
   exact Gj 47 [(1, .func (.func 204) #[] #[]), (9, .slice (Gp ufc) y25.length ufe), (35, .slice A29 ((sl x0 1 (x0.length : Int)).length) c30), (36, .i ((sl x0 1 (x0.length : Int)).length : Int)), (37, .i 0)] (W.z5a _ _ h _ _ (hx.t z3) _ _ _ _ _ _ _ p3 u2d rfl f31 rfl)

def J10d := Ys 111 B203 []
def J10e := Ys 1101 B203 J10d
def J10f := Ys 110101 B203 J10d

theorem W.z59 (x0 : List (List Int)) (r : (List Int) × Int) (h : M.a4t x0 = some r) {nz wz S0 w0 Lr} (Ax0 nx0 cx0) (p0 : Hp nz wz S0 w0 (Lr)) (fx0 : Rd (kSl (kInt .u64)) S0 w0 Ax0 cx0 x0) (lx0 : x0.length = nx0) :
  Calls Tryz.prog 203 #[.slice Ax0 nx0 cx0, .func (.func 204) #[] #[]] w0 (Rets (Post.z59 nz wz S0 w0 Lr r)) := by
 subst lx0
 refine Zf Tryz.f203 B203 45 ?_
 refine Gj 47 [(0, .slice Ax0 x0.length cx0), (1, .func (.func 204) #[] #[])] fun junk => ?_
 delta M.a4t at h
 refine Gn 12 [(4, .slice none 0 0), (5, .i 0), (12, .slice Ax0 x0.length cx0), (13, .i (x0.length : Int)), (14, .bool (decide ((x0.length : Int) > 4096)))] J10e ?_
 refine Gi h (fun h1 h => ?_) fun h1 h => ?_
 ·
  rw [dt h1]
  refine Gn 6 [(4, .slice none 0 0), (5, .i 3)] J10f ?_
  have p0 : Hp nz wz S0 w0 ((none, .row 22 [] (0 * (kInt .u64).size) 0) :: Lr) := p0.nilRow' 22
  obtain rfl := sj h
  exact Goes.rt Tryz.f203 (.tuple #[.slice (Gp none) 0 0, .i 3]) ⟨_, _, _, _, _, rfl, (Ext.refl S0 w0), p0, (Els.nil (K := (kInt .u64))), rfl⟩
 ·
  rw [df h1]
  refine Gn 11 [(15, .slice Ax0 x0.length cx0), (16, .i (x0.length : Int)), (17, .i 0)] Jzv ?_
  exact Gj 47 [(0, .slice Ax0 x0.length cx0), (1, .func (.func 204) #[] #[]), (15, .slice Ax0 x0.length cx0), (16, .i (x0.length : Int)), (17, .i 0)] (W.z5b _ _ h _ _ (Ext.refl S0 w0) _ _ _ _ _ _ p0 fx0 rfl fx0 rfl)

def J10g := Ys 111 B140 []

def Post.z5c (r : (List Int) × Int) (v : Value) (w' : World) : Prop :=
 ∃ S' unq ua0 ua1 unr, v = .tuple #[.slice (Gp unq) ua0 ua1, .i r.2] ∧ Ext S0 w0 S' w' ∧ Hp nz wz S' w' ((unq, .row 22 unr (ua1 * (kInt .u64).size) 0) :: Lr) ∧ Els (kInt .u64) S' w' unr r.1 ∧ r.1.length = ua0

theorem W.z5c (x0 : List (List Int)) (r : (List Int) × Int) (h : M.a3w x0 = some r) {nz wz S0 w0 Lr} (Ax0 nx0 cx0) (p0 : Hp nz wz S0 w0 (Lr)) (fx0 : Rd (kSl (kInt .u64)) S0 w0 Ax0 cx0 x0) (lx0 : x0.length = nx0) :
  Calls Tryz.prog 140 #[.slice Ax0 nx0 cx0] w0 (Rets (Post.z5c nz wz S0 w0 Lr r)) := by
 subst lx0
 refine Zf Tryz.f140 B140 7 ?_
 refine Gj 8 [(0, .slice Ax0 x0.length cx0)] fun junk => ?_
 delta M.a3w at h
 refine Gn 8 [(2, .slice none 0 0), (3, .i 0), (4, .slice Ax0 x0.length cx0)] (Yt 110 B140 [1, 2, 3, 4, 5] J10g) ?_
 refine Gb h fun y1 e2 h => ?_
 refine Gc (.call { callee := .value (.func 203), args := #[(.tmp 4), (.func 204)], argTypes := #[311, 313] }) 5 72 203 _ (W.z59 x0 y1 e2 _ _ _ p0 fx0 rfl) ?_
 rintro _ w2 ⟨S2, uo6, uo7, uo8, uo9, rfl, z2, p2, uoa, rfl⟩
 refine Gm 5 [([6, 2], .slice (Gp uo6) y1.1.length uo8), ([7, 3], .i y1.2)] J10g ?_
 obtain rfl := sj h
 exact Goes.rt Tryz.f140 (.tuple #[.slice (Gp uo6) y1.1.length uo8, .i y1.2]) ⟨_, _, _, _, _, rfl, z2, p2, uoa, rfl⟩

def J10i := Ys 111 B77 []

def Post.z5d (r : (List Int) × Int) (v : Value) (w' : World) : Prop :=
 ∃ S' unq ua0 ua1 unr, v = .tuple #[.slice (Gp unq) ua0 ua1, .i r.2] ∧ Ext S0 w0 S' w' ∧ Hp nz wz S' w' ((unq, .row 22 unr (ua1 * (kInt .u64).size) 0) :: Lr) ∧ Els (kInt .u64) S' w' unr r.1 ∧ r.1.length = ua0

theorem W.z5d (x0 : List Int) (x1 : Int) (r : (List Int) × Int) (h : M.a4u x0 x1 = some r) {nz wz S0 w0 Lr} (Ax0 nx0 cx0) (p0 : Hp nz wz S0 w0 (Lr)) (fx0 : Rd (kInt .u64) S0 w0 Ax0 cx0 x0) (lx0 : x0.length = nx0) :
  Calls Tryz.prog 77 #[.slice Ax0 nx0 cx0, .u x1] w0 (Rets (Post.z5d nz wz S0 w0 Lr r)) := by
 subst lx0
 refine Zf Tryz.f77 B77 11 ?_
 refine Gj 13 [(0, .slice Ax0 x0.length cx0), (1, .u x1)] fun junk => ?_
 delta M.a4u at h
 refine Gn 9 [(4, .slice none 0 0), (5, .i 0), (6, .slice Ax0 x0.length cx0), (7, .u x1)] (Yt 110 B77 [2, 3, 4, 5, 6, 7, 8] J10i) ?_
 have f2 : Els (kInt .u64) S0 w0 ([.u x1] : List Value) [x1] := by exact (Els.cons (K := (kInt .u64)) (vs := [.u x1]) (x := x1) rfl Els.nil)
 refine Om (.buildSlice 60 1 #[(0, (.tmp 7))]) 8 60 (fun b => .slice (Gp (some b)) 1 1) 22 ([.u x1] : List Value) (1 * (kInt .u64).size) p0 Goes.v fun b1 w2 z2 p2 => ?_
 obtain ⟨S3, z3, p3, f4⟩ := p2.freezeRd 0 rfl (f2.ext z2) (by decide)
 have f6 : Els (kSl (kInt .u64)) S3 w2 ([.slice Ax0 x0.length cx0, .slice (Gp (some b1)) 1 1] : List Value) [x0, [x1]] := by exact (Els.cons (K := (kSl (kInt .u64))) (vs := [.slice Ax0 x0.length cx0]) (x := x0) ⟨_, _, rfl, (fx0.ext (z2.t z3))⟩ (Els.cons (K := (kSl (kInt .u64))) (vs := [.slice (Gp (some b1)) 1 1]) (x := [x1]) ⟨_, _, rfl, f4⟩ Els.nil))
 refine Om (.buildSlice 311 2 #[(0, (.tmp 6)), (1, (.tmp 8))]) 9 311 (fun b => .slice (Gp (some b)) 2 2) 60 ([.slice Ax0 x0.length cx0, .slice (Gp (some b1)) 1 1] : List Value) (2 * (kSl (kInt .u64)).size) p3 Goes.v fun b5 w4 z4 p4 => ?_
 obtain ⟨S5, z5, p5, f8⟩ := p4.freezeRd 0 rfl (f6.ext z4) (by decide)
 refine Gb h fun y9 e10 h => ?_
 refine Gc (kc 140 [9] #[311]) 10 72 140 _ (W.z5c [x0, [x1]] y9 e10 _ _ _ p5 f8 rfl) ?_
 rintro _ w6 ⟨S6, uob, uco, ucp, uoc, rfl, z6, p6, ucq, rfl⟩
 have p6 := (p6.dp 1).dp 1
 refine Gm 5 [([11, 4], .slice (Gp uob) y9.1.length ucp), ([12, 5], .i y9.2)] J10i ?_
 obtain rfl := sj h
 exact Goes.rt Tryz.f77 (.tuple #[.slice (Gp uob) y9.1.length ucp, .i y9.2]) ⟨_, _, _, _, _, rfl, ((((z2.t z3).t z4).t z5).t z6), p6, ucq, rfl⟩

def Qtx := Yq 11 B78
def J10k := Zc Qtx []
def J10m := Ys 10101 B78 J10k
def Qu0 := Yq 10100 B78

def Post.z5e (gx0 : Nat) (uk8 : Nat) (uk9 : Nat) (r : List (List (ByteArray × (List Int)))) (v : Value) (w' : World) : Prop :=
 ∃ S' Ee1, v = .tuple #[] ∧ Ext S0 w0 S' w' ∧ Hp nz wz S' w' ((some gx0, .row 158 [.map (some uk8)] 1 0) :: (none, .seg 154 Ee1) :: Lr) ∧ Pl (oMap Value.string (kSl (kInt .u64))) S' w' Ee1 r

theorem W.z5e (uk9 : Nat) (x1 : ByteArray) (x2 : List Int) (uk5 : List (List (ByteArray × (List Int)))) (r : List (List (ByteArray × (List Int)))) (h : M.a4v uk9 x1 x2 uk5 = some r) {nz wz S0 w0 Lr} (gx0 uk8 Ax2 nx2 cx2 uk6) (p0 : Hp nz wz S0 w0 ((some gx0, .row 158 [.map (some uk8)] 1 0) :: (none, .seg 154 uk6) :: Lr)) (uka : Pa 154 S0 uk9 uk8) (fx2 : Rd (kInt .u64) S0 w0 Ax2 cx2 x2) (lx2 : x2.length = nx2) (uk7 : Pl (oMap Value.string (kSl (kInt .u64))) S0 w0 uk6 uk5) :
  Calls Tryz.prog 78 #[(pt gx0 0), .string x1, .slice Ax2 nx2 cx2] w0 (Rets (Post.z5e nz wz S0 w0 Lr gx0 uk8 uk9 r)) := by
 subst lx2
 refine Zf Tryz.f78 B78 17 ?_
 refine Gj 20 [(0, (pt gx0 0)), (1, .string x1), (2, .slice Ax2 x2.length cx2)] fun junk => ?_
 delta M.a4v at h
 refine Gn 7 [(6, .slice Ax2 x2.length cx2), (7, .i (x2.length : Int)), (8, .bool (decide ((x2.length : Int) = 0)))] (Ys 101 B78 J10k) ?_
 refine Gi h (fun h2 h => ?_) fun h2 h => ?_
 ·
  rw [dt h2]
  refine Gm 6 [([9, 10, 11], (pt gx0 0))] (Zr Qu0 [3, 4, 5] J10m) ?_
  refine Goes.ld 154 (.tmp 11) 12 154 ⟨gx0, 0, none⟩ (.map (some uk8)) (p0.c 0 0) ?_
  refine Gn 1 [(13, .string x1)] (Zr Qu0 [5] J10m) ?_
  refine Gl h fun v3 e4 h => ?_
  refine Op_.deM 154 9 (.tmp 12) (.tmp 13) 0 9 60 1 x1 v3 p0 rfl uk7 uka (Goes.v0s (by kernel_rfl)) (by kernel_rfl) (by kernel_rfl) (by kernel_rfl) (kok_str (by kernel_rfl)) e4 fun w2 E5 z2 p2 f6 e7 => ?_
  refine Gn 1 [] J10m ?_
  obtain rfl := sj h
  exact Goes.rt Tryz.f78 (.tuple #[]) ⟨_, _, rfl, z2, p2, f6⟩
 ·
  rw [df h2]
  refine Gm 6 [([14, 15, 16], (pt gx0 0))] (Zr Qtx [3, 4, 5, 6] []) ?_
  refine Goes.ld 154 (.tmp 16) 17 154 ⟨gx0, 0, none⟩ (.map (some uk8)) (p0.c 0 0) ?_
  refine Gn 2 [(18, .string x1), (19, .slice Ax2 x2.length cx2)] (Zr Qtx [6] []) ?_
  refine Gl h fun v8 e9 h => ?_
  refine Op_.muM 154 (.tmp 17) (.tmp 18) (.tmp 19) 0 9 60 1 x1 (.slice Ax2 x2.length cx2) x2 v8 p0 rfl uk7 uka Goes.s (by kernel_rfl) (by kernel_rfl) (by kernel_rfl) (by kernel_rfl) (kok_str (by kernel_rfl)) ⟨_, _, rfl, fx2⟩ e9 fun w3 E10 z3 p3 f11 e12 => ?_
  refine Gn 1 [] [] ?_
  obtain rfl := sj h
  exact Goes.end_ (fn := Tryz.f78) (by kernel_rfl) (v := .tuple #[]) (by kernel_rfl) ⟨S0, E10, rfl, z3, p3, f11⟩

def J10u := Ys 1111 B30 []
def Qu5 := Yq 1110 B30

def Post.z5f (gx0 : Nat) (uk8 : Nat) (uk9 : Nat) (r : Int × (List (List (ByteArray × (List Int))))) (v : Value) (w' : World) : Prop :=
 ∃ S' Ee1, v = .i r.1 ∧ Ext S0 w0 S' w' ∧ Hp nz wz S' w' ((some gx0, .row 158 [.map (some uk8)] 1 0) :: (none, .seg 154 Ee1) :: Lr) ∧ Pl (oMap Value.string (kSl (kInt .u64))) S' w' Ee1 r.2

theorem W.z5f (uk9 : Nat) (x1 : ByteArray) (x2 : Int) (uk5 : List (List (ByteArray × (List Int)))) (r : Int × (List (List (ByteArray × (List Int))))) (h : M.a4w uk9 x1 x2 uk5 = some r) {nz wz S0 w0 Lr} (gx0 uk8 uk6) (p0 : Hp nz wz S0 w0 ((some gx0, .row 158 [.map (some uk8)] 1 0) :: (none, .seg 154 uk6) :: Lr)) (uka : Pa 154 S0 uk9 uk8) (uk7 : Pl (oMap Value.string (kSl (kInt .u64))) S0 w0 uk6 uk5) :
  Calls Tryz.prog 30 #[(pt gx0 0), .string x1, .u x2] w0 (Rets (Post.z5f nz wz S0 w0 Lr gx0 uk8 uk9 r)) := by
 refine Zf Tryz.f30 B30 28 ?_
 refine Gj 31 [(0, (pt gx0 0)), (1, .string x1), (2, .u x2)] fun junk => ?_
 delta M.a4w at h
 refine Gn 8 [(6, .i 0), (9, (pt gx0 0))] (Yt 1100 B30 [1, 2] (Ys 1101 B30 (Ys 111 B30 []))) ?_
 refine Gb h fun y2 e3 h => ?_
 refine Gc (kc 76 [9] #[62]) 10 4 76 _ (W.z4q uk9 y2 e3 _ _ p0 uka) ?_
 rintro _ w2 ⟨S2, rfl, z2, p2⟩
 refine Gm 10 [([11], .bool (!true)), ([13, 14, 15, 16], (pt gx0 0))] (Zr Qu5 [4, 5, 6, 7, 8, 9, 10, 11, 12, 13] J10u) ?_
 refine Goes.ld 154 (.tmp 16) 17 154 ⟨gx0, 0, none⟩ (.map (some uk8)) (p2.c 0 0) ?_
 refine Gn 1 [(18, .string x1)] (Zr Qu5 [6, 7, 8, 9, 10, 11, 12, 13] J10u) ?_
 refine Gl h fun v4 e5 h => ?_
 refine Op_.lkM 154 (.tmp 17) (.tmp 18) 19 60 9 60 1 (.slice none 0 0) ([] : List Int) x1 v4 p2 rfl (uk7.ext z2) (uka.ext z2) Goes.v (by kernel_rfl) (by kernel_rfl) (by kernel_rfl) (kok_str (by kernel_rfl)) (by kernel_rfl) ⟨none, 0, rfl, Rd.none_⟩ e5 fun v6 f7 => ?_
 obtain ⟨A8, c9, rfl, f10⟩ := one_sl f7
 refine Gn 1 [(20, .u x2)] (Zr Qu5 [8, 9, 10, 11, 12, 13] J10u) ?_
 refine Gb h fun y11 e12 h => ?_
 refine Gc (kc 77 [19, 20] #[60, 22]) 21 72 77 _ (W.z5d v4 x2 y11 e12 _ _ _ p2 f10 rfl) ?_
 rintro _ w3 ⟨S3, uod, ui2, ui3, uoe, rfl, z3, p3, ui4, rfl⟩
 refine Gm 13 [([12], .tuple #[.slice (Gp uod) y11.1.length ui3, .i y11.2]), ([22, 7, 28], .slice (Gp uod) y11.1.length ui3), ([23, 8], .i y11.2), ([24, 25, 26], (pt gx0 0)), ([27], .string x1)] (Yt 11110 B30 [5] (Ys 11111 B30 [])) ?_
 obtain ⟨S4, z4, p4, f14⟩ := p3.freezeRd 0 rfl ui4 (by decide)
 have p4 := (p4.fr 2).fr 2
 refine Gb h fun y15 e16 h => ?_
 refine Gc (kc 78 [26, 27, 28] #[156, 9, 60]) 29 0 78 _ (W.z5e uk9 x1 y11.1 uk5 y15 e16 _ _ _ _ _ _ p4 (uka.ext ((z2.t z3).t z4)) f14 rfl (uk7.ext ((z2.t z3).t z4))) ?_
 rintro _ w5 ⟨S5, uof, rfl, z5, p5, uog⟩
 have p5 := p5.dp 2
 refine Gm 6 [([30, 6], .i y11.2)] (Ys 111111 B30 []) ?_
 obtain rfl := sj h
 exact Goes.rt Tryz.f30 (.i y11.2) ⟨_, _, rfl, (((z2.t z3).t z4).t z5), p5, uog⟩


def Post.z5g (r : Bool) (v : Value) (w' : World) : Prop :=
 ∃ S', v = .bool r ∧ Ext S0 w0 S' w' ∧ Hp nz wz S' w' (Lr)

theorem W.z5g (x0 : ByteArray) (r : Bool) (h : M.a4x x0 = some r) {nz wz S0 w0 Lr} (p0 : Hp nz wz S0 w0 (Lr)) :
  Calls Tryz.prog 250 #[.string x0] w0 (Rets (Post.z5g nz wz S0 w0 Lr r)) := by
 refine Zf Tryz.f250 B250 5 ?_
 refine Gj 6 [(0, .string x0)] fun junk => ?_
 delta M.a4x at h
 refine Gm 11 [([2, 5], .bool (!(x0.toList == x0.toList))), ([3, 4], .string x0)] (Ys 111 B250 []) ?_
 obtain rfl := sj h
 exact Goes.rt Tryz.f250 (.bool (!(x0.toList == x0.toList))) ⟨_, rfl, (Ext.refl S0 w0), p0⟩

def J112 := Ys 111 B201 []
def Qub := Yq 110 B201

def Post.z5h (r : Bool) (v : Value) (w' : World) : Prop :=
 ∃ S', v = .bool r ∧ Ext S0 w0 S' w' ∧ Hp nz wz S' w' (Lr)

theorem W.z5h (x0 : ByteArray) (x1 : ByteArray) (r : Bool) (h : M.a4y x0 x1 = some r) {nz wz S0 w0 Lr} (p0 : Hp nz wz S0 w0 (Lr)) :
  Calls Tryz.prog 201 #[.string x0, .string x1] w0 (Rets (Post.z5h nz wz S0 w0 Lr r)) := by
 refine Zf Tryz.f201 B201 15 ?_
 refine Gj 17 [(0, .string x0), (1, .string x1)] fun junk => ?_
 delta M.a4y at h
 refine Gn 7 [(4, .bool false), (5, .string x0)] (Zr Qub [1, 2, 3, 4, 5, 6, 7, 8, 9, 10, 11, 12] J112) ?_
 refine Gb h fun y1 e2 h => ?_
 refine Gc (kc 250 [5] #[9]) 6 4 250 _ (W.z5g x0 y1 e2  p0 ) ?_
 rintro _ w2 ⟨S2, rfl, z2, p2⟩
 refine Gn 1 [(7, .bool y1)] (Zr Qub [3, 4, 5, 6, 7, 8, 9, 10, 11, 12] J112) ?_
 refine Gi h (fun h3 h => ?_) fun h3 h => ?_
 ·
  rw [h3]
  refine Gn 1 [(8, .string x1)] (Zr Qub [4, 5, 6, 7, 8, 9, 10, 11, 12] J112) ?_
  refine Gb h fun y4 e5 h => ?_
  refine Gc (kc 250 [8] #[9]) 9 4 250 _ (W.z5g x1 y4 e5  p2 ) ?_
  rintro _ w3 ⟨S3, rfl, z3, p3⟩
  refine Gm 3 [([10, 11, 12], .bool (!y4))] (Zr Qub [8, 9, 10, 11, 12] J112) ?_
  refine Gi h (fun h6 h => ?_) fun h6 h => ?_
  ·
   rw [h6]
   refine Gm 6 [([13], .string x0), ([14], .string x1), ([15, 16, 4], .bool (Op.bytesLess x0.toList x1.toList))] J112 ?_
   obtain rfl := sj h
   exact Goes.rt Tryz.f201 (.bool (Op.bytesLess x0.toList x1.toList)) ⟨_, rfl, (z2.t z3), p3⟩
  ·
   rw [bf h6]
   refine Gm 6 [([13, 14, 15], undef), ([16, 4], .bool true)] J112 ?_
   obtain rfl := sj h
   exact Goes.rt Tryz.f201 (.bool true) ⟨_, rfl, (z2.t z3), p3⟩
 ·
  rw [bf h3]
  refine Gm 11 [([8, 9, 10], undef), ([11, 12], .bool false), ([13], .string x0), ([14], .string x1), ([15, 16, 4], .bool (Op.bytesLess x0.toList x1.toList))] J112 ?_
  obtain rfl := sj h
  exact Goes.rt Tryz.f201 (.bool (Op.bytesLess x0.toList x1.toList)) ⟨_, rfl, z2, p2⟩


def Post.z5i (r : Bool) (v : Value) (w' : World) : Prop :=
 ∃ S', v = .bool r ∧ Ext S0 w0 S' w' ∧ Hp nz wz S' w' (Lr)

theorem W.z5i (x0 : ByteArray) (r : Bool) (h : M.a4z x0 = some r) {nz wz S0 w0 Lr} (p0 : Hp nz wz S0 w0 (Lr)) :
  Calls Tryz.prog 202 #[.string x0] w0 (Rets (Post.z5i nz wz S0 w0 Lr r)) := by
 refine Zf Tryz.f202 B202 5 ?_
 refine Gj 6 [(0, .string x0)] fun junk => ?_
 delta M.a4z at h
 refine Gm 11 [([2, 5], .bool (!(x0.toList == x0.toList))), ([3, 4], .string x0)] (Ys 111 B202 []) ?_
 obtain rfl := sj h
 exact Goes.rt Tryz.f202 (.bool (!(x0.toList == x0.toList))) ⟨_, rfl, (Ext.refl S0 w0), p0⟩

def Que := Yq 1111000 B137
def J11a := Zl Que (Zb 0 (Ys 11111 B137 []))
def J11b := Zc Que J11a
def J11c := Zb 1 J11a
def J11f := Ys 11110001011 B137 J11c
def Qui := Yq 11110001010 B137
def J11j := Ys 111111 B137 []
def Quk := Yq 111110 B137
def J11p := Zr Quk [19, 20, 21, 22, 23, 24] J11j

def Post.z5j (r : Int × Bool) (v : Value) (w' : World) : Prop :=
 ∃ S', v = .tuple #[.i r.1, .bool r.2] ∧ Ext S0 w0 S' w' ∧ Hp nz wz S' w' (Lr)

def L.z5k : (List ByteArray) × ByteArray × Int × Int × Int → (Int × Bool) → Prop := fun ⟨x0, x1, x6, x7, x8⟩ r => ∀ S1 w1, Ext S0 w0 S1 w1 → ∀ Ax0 nx0 cx0 (_ : Hp nz wz S1 w1 (Lr)) (_ : Rd kStr S1 w1 Ax0 cx0 x0) (_ : x0.length = nx0) (junk : Nat → Value),
 Goes Tryz.prog (base 137) J11b ⟨lfr 54 [(0, .slice Ax0 nx0 cx0), (1, .string x1), (6, .i x6), (7, .i x7), (8, .i x8)] junk, []⟩ w1 (Done Tryz.prog 137 (Rets (Post.z5j nz wz S0 w0 Lr r)))

def L.z5l : (List ByteArray) × ByteArray × Int × Int × Int → (Int × Bool) → Prop := fun ⟨x0, x1, x6, x7, x8⟩ r => ∀ S1 w1, Ext S0 w0 S1 w1 → ∀ Ax0 nx0 cx0 (_ : Hp nz wz S1 w1 (Lr)) (_ : Rd kStr S1 w1 Ax0 cx0 x0) (_ : x0.length = nx0) (junk : Nat → Value),
 Goes Tryz.prog (base 137) J11c ⟨lfr 54 [(0, .slice Ax0 nx0 cx0), (1, .string x1), (6, .i x6), (7, .i x7), (8, .i x8)] junk, []⟩ w1 (Done Tryz.prog 137 (Rets (Post.z5j nz wz S0 w0 Lr r)))

theorem W.z5m {nz wz S0 w0 Lr} : (∀ a r, M.a1w a = some r → (L.z5k nz wz S0 w0 Lr) a r) ∧ (∀ a r, M.a3x a = some r → (L.z5l nz wz S0 w0 Lr) a r) := by
 refine M.a1w.mutual_partial_correctness (L.z5k nz wz S0 w0 Lr) (L.z5l nz wz S0 w0 Lr) ?_ ?_
 ·
  intro uoh uoi ⟨x0, x1, x6, x7, x8⟩ r h S1 w1 hx Ax0 nx0 cx0 p1 fx0 lx0 junk
  try dsimp only at h
  subst lx0
  refine Gn 7 [(13, .i x7), (14, .i x8), (15, .bool (decide (x7 < x8)))] (Ys 111100001 B137 (Ys 11110001 B137 J11a)) ?_
  refine Gi h (fun h1 h => ?_) fun h1 h => ?_
  ·
   rw [dt h1]
   refine Gm 14 [([16], .i x7), ([17], .i x8), ([18], .i (wr .i64 (x7 + x8))), ([19], .u (wr .u64 (wr .i64 (x7 + x8)))), ([20], .u (ishr .u64 (wr .u64 (wr .i64 (x7 + x8))) 1)), ([21, 9], .i (wr .i64 (ishr .u64 (wr .u64 (wr .i64 (x7 + x8))) 1)))] (Zc Qui J11f) ?_
   refine Gn 3 [(22, .slice Ax0 x0.length cx0), (23, .i (wr .i64 (ishr .u64 (wr .u64 (wr .i64 (x7 + x8))) 1)))] (Zr Qui [2, 3, 4, 5] J11f) ?_
   refine Gg h fun g2 h => ?_
   refine Gg h fun g3 h => ?_
   refine Gl h fun v7 e8 h => ?_
   refine Oi 43 (.tmp 22) (.tmp 23) 24 0 9 .i64 (wr .i64 (ishr .u64 (wr .u64 (wr .i64 (x7 + x8))) 1)) v7 rfl e8 fx0 Goes.v g2 g3 fun a4 _ f5 q6 => ?_
   obtain rfl := q6
   refine Goes.ld 9 (.tmp 24) 25 9 a4 (.string v7) (f5.cell 0 _ rfl) ?_
   refine Gn 1 [(26, .string x1)] (Zr Qui [5] J11f) ?_
   refine Gb h fun y9 e10 h => ?_
   refine Gc (kc 201 [25, 26] #[9, 9]) 27 4 201 _ (W.z5h v7 x1 y9 e10  p1 ) ?_
   rintro _ w2 ⟨S2, rfl, z2, p2⟩
   refine Gn 1 [] J11f ?_
   refine Gi h (fun h11 h => ?_) fun h11 h => ?_
   ·
    rw [h11]
    refine Gm 6 [([28], .i (wr .i64 (ishr .u64 (wr .u64 (wr .i64 (x7 + x8))) 1))), ([29, 7], .i (wr .i64 ((wr .i64 (ishr .u64 (wr .u64 (wr .i64 (x7 + x8))) 1)) + 1)))] J11c ?_
    exact Gj 54 [(0, .slice Ax0 x0.length cx0), (1, .string x1), (6, .i x6), (7, .i (wr .i64 ((wr .i64 (ishr .u64 (wr .u64 (wr .i64 (x7 + x8))) 1)) + 1))), (8, .i x8)] (uoi _ _ h _ _ (hx.t z2) _ _ _ p2 (fx0.ext z2) rfl)
   ·
    rw [bf h11]
    refine Gm 5 [([30, 8], .i (wr .i64 (ishr .u64 (wr .u64 (wr .i64 (x7 + x8))) 1)))] J11c ?_
    exact Gj 54 [(0, .slice Ax0 x0.length cx0), (1, .string x1), (6, .i x6), (7, .i x7), (8, .i (wr .i64 (ishr .u64 (wr .u64 (wr .i64 (x7 + x8))) 1)))] (uoi _ _ h _ _ (hx.t z2) _ _ _ p2 (fx0.ext z2) rfl)
  ·
   rw [df h1]
   refine Gm 9 [([31, 32], .i x7), ([33], .i x6), ([34, 35], .bool (decide (x7 < x6)))] (Zr Quk [5, 6, 7, 8, 9, 10, 11, 12, 13, 14, 15, 16, 17, 18, 19, 20, 21, 22, 23, 24] J11j) ?_
   refine Gi h (fun h12 h => ?_) fun h12 h => ?_
   ·
    rw [dt h12]
    refine Gn 2 [(36, .slice Ax0 x0.length cx0), (37, .i x7)] (Zr Quk [7, 8, 9, 10, 11, 12, 13, 14, 15, 16, 17, 18, 19, 20, 21, 22, 23, 24] J11j) ?_
    refine Gg h fun g13 h => ?_
    refine Gg h fun g14 h => ?_
    refine Oi 43 (.tmp 36) (.tmp 37) 38 0 9 .i64 x7 (gi x0 x7) rfl rfl fx0 Goes.v g13 g14 fun a15 _ f16 q17 => ?_
    obtain rfl := q17
    refine Goes.ld 9 (.tmp 38) 39 9 a15 (.string (gi x0 x7)) (f16.cell 0 _ rfl) ?_
    refine Gm 3 [([40], .string x1), ([41, 42], .bool ((gi x0 x7).toList == x1.toList))] (Zr Quk [12, 13, 14, 15, 16, 17, 18, 19, 20, 21, 22, 23, 24] J11j) ?_
    refine Gi h (fun h18 h => ?_) fun h18 h => ?_
    ·
     rw [h18]
     refine Gm 14 [([43, 44, 45, 46, 47, 48, 49, 50, 51], undef), ([52, 53, 5], .bool true), ([4], .i x7)] J11j ?_
     obtain rfl := sj h
     exact Goes.rt Tryz.f137 (.tuple #[.i x7, .bool true]) ⟨_, rfl, hx, p1⟩
    ·
     rw [bf h18]
     refine Gn 2 [(43, .slice Ax0 x0.length cx0), (44, .i x7)] (Zr Quk [14, 15, 16, 17, 18, 19, 20, 21, 22, 23, 24] J11j) ?_
     refine Oi 43 (.tmp 43) (.tmp 44) 45 0 9 .i64 x7 (gi x0 x7) rfl rfl fx0 Goes.v g13 g14 fun a19 _ f20 q21 => ?_
     obtain rfl := q21
     refine Goes.ld 9 (.tmp 45) 46 9 a19 (.string (gi x0 x7)) (f20.cell 0 _ rfl) ?_
     refine Gb h fun y22 e23 h => ?_
     refine Gc (kc 202 [46] #[9]) 47 4 202 _ (W.z5i (gi x0 x7) y22 e23  p1 ) ?_
     rintro _ w3 ⟨S3, rfl, z3, p3⟩
     refine Gn 1 [(48, .bool y22)] (Zr Quk [18, 19, 20, 21, 22, 23, 24] J11j) ?_
     refine Gi h (fun h24 h => ?_) fun h24 h => ?_
     ·
      rw [h24]
      refine Gn 1 [(49, .string x1)] J11p ?_
      refine Gb h fun y25 e26 h => ?_
      refine Gc (kc 202 [49] #[9]) 50 4 202 _ (W.z5i x1 y25 e26  p3 ) ?_
      rintro _ w4 ⟨S4, rfl, z4, p4⟩
      refine Gm 6 [([51, 52, 53, 5], .bool y25), ([4], .i x7)] J11j ?_
      obtain rfl := sj h
      exact Goes.rt Tryz.f137 (.tuple #[.i x7, .bool y25]) ⟨_, rfl, ((hx.t z3).t z4), p4⟩
     ·
      rw [bf h24]
      refine Gm 8 [([49, 50], undef), ([51, 52, 53, 5], .bool false), ([4], .i x7)] J11j ?_
      obtain rfl := sj h
      exact Goes.rt Tryz.f137 (.tuple #[.i x7, .bool false]) ⟨_, rfl, (hx.t z3), p3⟩
   ·
    rw [df h12]
    refine Gm 14 [([36, 37, 38, 39, 40, 41, 42, 43, 44, 45, 46, 47, 48, 49], undef)] J11p ?_
    refine Gm 7 [([50, 51, 52], undef), ([53, 5], .bool false), ([4], .i x7)] J11j ?_
    obtain rfl := sj h
    exact Goes.rt Tryz.f137 (.tuple #[.i x7, .bool false]) ⟨_, rfl, hx, p1⟩
 ·
  intro uoj uok ⟨x0, x1, x6, x7, x8⟩ r h S1 w1 hx Ax0 nx0 cx0 p1 fx0 lx0 junk
  try dsimp only at h
  subst lx0
  refine Gn 2 [] J11b ?_
  exact Gj 54 [(0, .slice Ax0 x0.length cx0), (1, .string x1), (6, .i x6), (7, .i x7), (8, .i x8)] (uok _ _ h _ _ hx _ _ _ p1 fx0 rfl)

theorem W.z5k {nz wz S0 w0 Lr} : ∀ a r, M.a1w a = some r → (L.z5k nz wz S0 w0 Lr) a r := (W.z5m).1

theorem W.z5l {nz wz S0 w0 Lr} : ∀ a r, M.a3x a = some r → (L.z5l nz wz S0 w0 Lr) a r := (W.z5m).2


theorem W.z5j (x0 : List ByteArray) (x1 : ByteArray) (r : Int × Bool) (h : M.a50 x0 x1 = some r) {nz wz S0 w0 Lr} (Ax0 nx0 cx0) (p0 : Hp nz wz S0 w0 (Lr)) (fx0 : Rd kStr S0 w0 Ax0 cx0 x0) (lx0 : x0.length = nx0) :
  Calls Tryz.prog 137 #[.slice Ax0 nx0 cx0, .string x1] w0 (Rets (Post.z5j nz wz S0 w0 Lr r)) := by
 subst lx0
 refine Zf Tryz.f137 B137 52 ?_
 refine Gj 54 [(0, .slice Ax0 x0.length cx0), (1, .string x1)] fun junk => ?_
 delta M.a50 at h
 refine Gm 14 [([4], .i 0), ([5], .bool false), ([10], .slice Ax0 x0.length cx0), ([11, 6, 12], .i (x0.length : Int))] (Yt 1110 B137 [1, 2] (Ys 1111 B137 [])) ?_
 refine Gn 6 [(7, .i 0), (8, .i (x0.length : Int))] J11b ?_
 exact Gj 54 [(0, .slice Ax0 x0.length cx0), (1, .string x1), (6, .i (x0.length : Int)), (7, .i 0), (8, .i (x0.length : Int))] (W.z5k _ _ h _ _ (Ext.refl S0 w0) _ _ _ p0 fx0 rfl)

def J11w := Ys 1111 B74 []
def J11z := Zb 0 J11w
def J121 := Ys 111010101 B74 J11z
def Quw := Yq 111010100 B74
def J126 := Ys 11101011101 B74 J11z
def Qv0 := Yq 11101011100 B74
def J12a := Ys 1110101111101 B74 J11z
def J12c := Ys 11111 B74 []
def J12g := Ys 111 B136 []
def J12k := Ys 111 B138 []

def Post.z5n (r : Bool) (v : Value) (w' : World) : Prop :=
 ∃ S', v = .bool r ∧ Ext S0 w0 S' w' ∧ Hp nz wz S' w' (Lr)

def Post.z5o (uf1 : Nat) (uol : Nat) (uom : Option Addr) (uon : Nat) (uoo : Nat) (uop : List ByteArray) (r : Bool) (v : Value) (w' : World) : Prop :=
 ∃ S', v = .bool r ∧ Ext S0 w0 S' w' ∧ Hp nz wz S' w' ((some uf1, .row 232 [.func (.func 136) #[] #[(pt uol 0)]] 1 0) :: (some uol, .row 43 [.slice uom uon uoo] 1 0) :: Lr)

def Post.z5p (uf1 : Nat) (uol : Nat) (uom : Option Addr) (uon : Nat) (uoo : Nat) (uop : List ByteArray) (r : Int) (v : Value) (w' : World) : Prop :=
 ∃ S', v = .i r ∧ Ext S0 w0 S' w' ∧ Hp nz wz S' w' ((some uf1, .row 232 [.func (.func 136) #[] #[(pt uol 0)]] 1 0) :: (some uol, .row 43 [.slice uom uon uoo] 1 0) :: Lr)

def Post.z5q (gx1 : Nat) (uoq : Nat) (uor : Option Addr) (uos : Nat) (uot : Nat) (uou : List ByteArray) (r : Bool) (v : Value) (w' : World) : Prop :=
 ∃ S', v = .bool r ∧ Ext S0 w0 S' w' ∧ Hp nz wz S' w' ((some gx1, .row 232 [.func (.func 136) #[] #[(pt uoq 0)]] 1 0) :: (some uoq, .row 43 [.slice uor uos uot] 1 0) :: Lr)

def Post.z5r (gx1 : Nat) (uov : Option Addr) (uow : Nat) (uox : Nat) (uoy : List ByteArray) (r : Bool) (v : Value) (w' : World) : Prop :=
 ∃ S', v = .bool r ∧ Ext S0 w0 S' w' ∧ Hp nz wz S' w' ((some gx1, .row 43 [.slice uov uow uox] 1 0) :: Lr)

def Post.z5s (uf1 : Nat) (uoz : Option Addr) (up0 : Nat) (up1 : Nat) (uf2 : List ByteArray) (r : Bool) (v : Value) (w' : World) : Prop :=
 ∃ S', v = .bool r ∧ Ext S0 w0 S' w' ∧ Hp nz wz S' w' ((some uf1, .row 43 [.slice uoz up0 up1] 1 0) :: Lr)

def Post.z5t (uf1 : Nat) (uoz : Option Addr) (up0 : Nat) (up1 : Nat) (uf2 : List ByteArray) (r : Int) (v : Value) (w' : World) : Prop :=
 ∃ S', v = .i r ∧ Ext S0 w0 S' w' ∧ Hp nz wz S' w' ((some uf1, .row 43 [.slice uoz up0 up1] 1 0) :: Lr)

def LF.z5n : T29 × (List ByteArray) → Bool → Prop := fun ⟨x0, x1⟩ r => ∀ {nz wz S0 w0 Lr} u92 u93 u94 Ax1 nx1 cx1 (_ : Hp nz wz S0 w0 (Lr)) (_ : Rd kT29 S0 w0 u92 u94 x0.L) (_ : x0.L.length = u93) (_ : Rd kStr S0 w0 Ax1 cx1 x1) (_ : x1.length = nx1),
 Calls Tryz.prog 74 #[(ag (vT29 x0 u92 u93 u94)), .slice Ax1 nx1 cx1] w0 (Rets (Post.z5n nz wz S0 w0 Lr r))

def LF.z5o : (List T29) × (List ByteArray) → Bool → Prop := fun ⟨x0, uop⟩ r => ∀ {nz wz S0 w0 Lr} Ax0 nx0 cx0 uf1 uol uom uon uoo (_ : Hp nz wz S0 w0 ((some uf1, .row 232 [.func (.func 136) #[] #[(pt uol 0)]] 1 0) :: (some uol, .row 43 [.slice uom uon uoo] 1 0) :: Lr)) (_ : Rd kT29 S0 w0 Ax0 cx0 x0) (_ : x0.length = nx0) (_ : Rd kStr S0 w0 uom uoo uop) (_ : uop.length = uon),
 Calls Tryz.prog 128 #[.slice Ax0 nx0 cx0, .func (.func 138) #[] #[(pt uf1 0)]] w0 (Rets (Post.z5o nz wz S0 w0 Lr uf1 uol uom uon uoo uop r))

def LF.z5p : (List T29) × (List ByteArray) → Int → Prop := fun ⟨x0, uop⟩ r => ∀ {nz wz S0 w0 Lr} Ax0 nx0 cx0 uf1 uol uom uon uoo (_ : Hp nz wz S0 w0 ((some uf1, .row 232 [.func (.func 136) #[] #[(pt uol 0)]] 1 0) :: (some uol, .row 43 [.slice uom uon uoo] 1 0) :: Lr)) (_ : Rd kT29 S0 w0 Ax0 cx0 x0) (_ : x0.length = nx0) (_ : Rd kStr S0 w0 uom uoo uop) (_ : uop.length = uon),
 Calls Tryz.prog 195 #[.slice Ax0 nx0 cx0, .func (.func 138) #[] #[(pt uf1 0)]] w0 (Rets (Post.z5p nz wz S0 w0 Lr uf1 uol uom uon uoo uop r))

def L.z5u (uf1 : Nat) (uol : Nat) (uom : Option Addr) (uon : Nat) (uoo : Nat) : (List T29) × Int × Int × (List ByteArray) → Int → Prop := fun ⟨x0, x7, x8, uop⟩ r => ∀ S1 w1, Ext S0 w0 S1 w1 → ∀ Ax0 nx0 cx0 (_ : Hp nz wz S1 w1 ((some uf1, .row 232 [.func (.func 136) #[] #[(pt uol 0)]] 1 0) :: (some uol, .row 43 [.slice uom uon uoo] 1 0) :: Lr)) (_ : Rd kT29 S1 w1 Ax0 cx0 x0) (_ : x0.length = nx0) (_ : Rd kStr S1 w1 uom uoo uop) (_ : uop.length = uon) (junk : Nat → Value),
 Goes Tryz.prog (base 195) Joj ⟨lfr 19 [(0, .slice Ax0 nx0 cx0), (1, .func (.func 138) #[] #[(pt uf1 0)]), (7, .i x7), (8, .i x8)] junk, []⟩ w1 (Done Tryz.prog 195 (Rets (Post.z5p nz wz S0 w0 Lr uf1 uol uom uon uoo uop r)))

def LL.z5u : (List T29) × Int × Int × (List ByteArray) → Int → Prop := fun a r => ∀ {nz wz S0 w0 Lr} (uf1 : Nat) (uol : Nat) (uom : Option Addr) (uon : Nat) (uoo : Nat), L.z5u nz wz S0 w0 Lr uf1 uol uom uon uoo a r

def LF.z5q : T29 × (List ByteArray) → Bool → Prop := fun ⟨x0, uou⟩ r => ∀ {nz wz S0 w0 Lr} u92 u93 u94 gx1 uoq uor uos uot (_ : Hp nz wz S0 w0 ((some gx1, .row 232 [.func (.func 136) #[] #[(pt uoq 0)]] 1 0) :: (some uoq, .row 43 [.slice uor uos uot] 1 0) :: Lr)) (_ : Rd kT29 S0 w0 u92 u94 x0.L) (_ : x0.L.length = u93) (_ : Rd kStr S0 w0 uor uot uou) (_ : uou.length = uos),
 Calls Tryz.prog 138 #[(ag (vT29 x0 u92 u93 u94)), (pt gx1 0)] w0 (Rets (Post.z5q nz wz S0 w0 Lr gx1 uoq uor uos uot uou r))

def LF.z5r : T29 × (List ByteArray) → Bool → Prop := fun ⟨x0, uoy⟩ r => ∀ {nz wz S0 w0 Lr} u92 u93 u94 gx1 uov uow uox (_ : Hp nz wz S0 w0 ((some gx1, .row 43 [.slice uov uow uox] 1 0) :: Lr)) (_ : Rd kT29 S0 w0 u92 u94 x0.L) (_ : x0.L.length = u93) (_ : Rd kStr S0 w0 uov uox uoy) (_ : uoy.length = uow),
 Calls Tryz.prog 136 #[(ag (vT29 x0 u92 u93 u94)), (pt gx1 0)] w0 (Rets (Post.z5r nz wz S0 w0 Lr gx1 uov uow uox uoy r))

def LF.z5s : (List T29) × (List ByteArray) → Bool → Prop := fun ⟨x0, uf2⟩ r => ∀ {nz wz S0 w0 Lr} Ax0 nx0 cx0 uf1 uoz up0 up1 (_ : Hp nz wz S0 w0 ((some uf1, .row 43 [.slice uoz up0 up1] 1 0) :: Lr)) (_ : Rd kT29 S0 w0 Ax0 cx0 x0) (_ : x0.length = nx0) (_ : Rd kStr S0 w0 uoz up1 uf2) (_ : uf2.length = up0),
 Calls Tryz.prog 128 #[.slice Ax0 nx0 cx0, .func (.func 136) #[] #[(pt uf1 0)]] w0 (Rets (Post.z5s nz wz S0 w0 Lr uf1 uoz up0 up1 uf2 r))

def LF.z5t : (List T29) × (List ByteArray) → Int → Prop := fun ⟨x0, uf2⟩ r => ∀ {nz wz S0 w0 Lr} Ax0 nx0 cx0 uf1 uoz up0 up1 (_ : Hp nz wz S0 w0 ((some uf1, .row 43 [.slice uoz up0 up1] 1 0) :: Lr)) (_ : Rd kT29 S0 w0 Ax0 cx0 x0) (_ : x0.length = nx0) (_ : Rd kStr S0 w0 uoz up1 uf2) (_ : uf2.length = up0),
 Calls Tryz.prog 195 #[.slice Ax0 nx0 cx0, .func (.func 136) #[] #[(pt uf1 0)]] w0 (Rets (Post.z5t nz wz S0 w0 Lr uf1 uoz up0 up1 uf2 r))

def L.z5v (uf1 : Nat) (uoz : Option Addr) (up0 : Nat) (up1 : Nat) : (List T29) × Int × Int × (List ByteArray) → Int → Prop := fun ⟨x0, x7, x8, uf2⟩ r => ∀ S1 w1, Ext S0 w0 S1 w1 → ∀ Ax0 nx0 cx0 (_ : Hp nz wz S1 w1 ((some uf1, .row 43 [.slice uoz up0 up1] 1 0) :: Lr)) (_ : Rd kT29 S1 w1 Ax0 cx0 x0) (_ : x0.length = nx0) (_ : Rd kStr S1 w1 uoz up1 uf2) (_ : uf2.length = up0) (junk : Nat → Value),
 Goes Tryz.prog (base 195) Joj ⟨lfr 19 [(0, .slice Ax0 nx0 cx0), (1, .func (.func 136) #[] #[(pt uf1 0)]), (7, .i x7), (8, .i x8)] junk, []⟩ w1 (Done Tryz.prog 195 (Rets (Post.z5t nz wz S0 w0 Lr uf1 uoz up0 up1 uf2 r)))

def LL.z5v : (List T29) × Int × Int × (List ByteArray) → Int → Prop := fun a r => ∀ {nz wz S0 w0 Lr} (uf1 : Nat) (uoz : Option Addr) (up0 : Nat) (up1 : Nat), L.z5v nz wz S0 w0 Lr uf1 uoz up0 up1 a r

theorem W.z5w : (∀ a r, M.a1x a = some r → LF.z5n a r) ∧ (∀ a r, M.a5v a = some r → LF.z5s a r) ∧ (∀ a r, M.a5y a = some r → LF.z5t a r) ∧ (∀ a r, M.a1z a = some r → LL.z5v a r) ∧ (∀ a r, M.a3y a = some r → LF.z5r a r) ∧ (∀ a r, M.a5u a = some r → LF.z5o a r) ∧ (∀ a r, M.a5w a = some r → LF.z5p a r) ∧ (∀ a r, M.a1y a = some r → LL.z5u a r) ∧ (∀ a r, M.a5x a = some r → LF.z5q a r) := by
 refine M.a1x.mutual_partial_correctness LF.z5n LF.z5s LF.z5t LL.z5v LF.z5r LF.z5o LF.z5p LL.z5u LF.z5q ?_ ?_ ?_ ?_ ?_ ?_ ?_ ?_ ?_
 ·
  intro up2 up3 up4 up5 ⟨x0, x1⟩ r h nz wz S0 w0 Lr u92 u93 u94 Ax1 nx1 cx1 p0 u9f u9g fx1 lx1
  try dsimp only at h
  subst u9g
  subst lx1
  refine Zf Tryz.f74 B74 35 ?_
  refine Gj 37 [(0, (ag (vT29 x0 u92 x0.L.length u94))), (1, .slice Ax1 x1.length cx1)] fun junk => ?_
  refine Gn 2 [] (Yt 10 B74 [0, 1, 2] (Ys 11 B74 [])) ?_
  refine Ob 30 (.tmp 0) 2 0 (ag (vT29 x0 u92 x0.L.length u94)) (vT29 x0 u92 x0.L.length u94) p0 Goes.v fun b1 w2 z2 p2 => ?_
  refine Ob 43 (.tmp 1) 3 0 (.slice Ax1 x1.length cx1) [.slice Ax1 x1.length cx1] p2 Goes.v fun b3 w3 z3 p3 => ?_
  refine Gn 5 [(4, .bool false), (8, .func (.func 136) #[] #[(pt b3 0)])] (Yt 110 B74 [1, 2] (Ys 111 B74 [])) ?_
  refine Oa 232 5 0 (.nilFunc) [.nilFunc] p3 Goes.v fun b5 w4 z4 p4 => ?_
  refine So 232 (.tmp 5) (.tmp 8) 0 0 b5 0 (.func (.func 136) #[] #[(pt b3 0)]) [.func (.func 136) #[] #[(pt b3 0)]] p4 rfl Goes.s fun w5 z5 p5 => ?_
  refine Gn 5 [(9, (pt b1 0))] (Yt 11100 B74 [1] (Ys 11101 B74 J11w)) ?_
  refine Goes.ld 3 (.tmp 9) 10 3 ⟨b1, 0, none⟩ (.i x0.Op) (p5.c 2 0) ?_
  refine Gm 7 [([12, 11], .bool (decide (x0.Op = 2)))] (Ys 1110101 B74 J11z) ?_
  refine Gi h (fun h7 h => ?_) fun h7 h => ?_
  ·
   rw [dt h7]
   refine Gn 3 [] (Zr Quw [0, 1, 2, 3, 4, 5, 6, 7, 8] J121) ?_
   refine Goes.ld 43 (.tmp 3) 14 43 ⟨b3, 0, none⟩ (.slice Ax1 x1.length cx1) (p5.c 1 0) ?_
   refine Gn 1 [(15, (pt b1 1))] (Zr Quw [2, 3, 4, 5, 6, 7, 8] J121) ?_
   refine Goes.ld 9 (.tmp 15) 16 9 ⟨b1, 1, none⟩ (.string x0.Text) (p5.c 2 1) ?_
   refine Gb h fun y8 e9 h => ?_
   refine Gc (kc 137 [14, 16] #[43, 9]) 17 237 137 _ (W.z5j x1 x0.Text y8 e9 _ _ _ p5 (fx1.ext (((z2.t z3).t z4).t z5)) rfl) ?_
   rintro _ w6 ⟨S6, rfl, z6, p6⟩
   have p6 := ((p6.dp 0).dp 0).dp 0
   refine Gm 11 [([13], .tuple #[.i y8.1, .bool y8.2]), ([18, 6], .i y8.1), ([19, 7, 20, 4], .bool y8.2)] (Ys 1110101011 B74 J11z) ?_
   obtain rfl := sj h
   exact Goes.rt Tryz.f74 (.bool y8.2) ⟨_, rfl, ((((z2.t z3).t z4).t z5).t z6), p6⟩
  ·
   rw [df h7]
   refine Gm 6 [([22, 21], .bool (decide (x0.Op = 3)))] (Ys 111010111 B74 J11z) ?_
   refine Gi h (fun h10 h => ?_) fun h10 h => ?_
   ·
    rw [dt h10]
    refine Gn 4 [(23, (pt b1 2))] (Zr Qv0 [1, 2, 3, 4, 5] J126) ?_
    refine Goes.ld 28 (.tmp 23) 24 28 ⟨b1, 2, none⟩ (.slice u92 x0.L.length u94) (p5.c 2 2) ?_
    refine Gn 1 [(25, .func (.func 138) #[] #[(pt b5 0)])] (Zr Qv0 [3, 4, 5] J126) ?_
    refine Gb h fun y11 e12 h => ?_
    refine Gc (kc 128 [24, 25] #[28, 232]) 26 4 128 _ (up5 (x0.L, x1) y11 e12 _ _ _ _ _ _ _ _ p5 (u9f.ext (((z2.t z3).t z4).t z5)) rfl (fx1.ext (((z2.t z3).t z4).t z5)) rfl) ?_
    rintro _ w7 ⟨S7, rfl, z7, p7⟩
    have p7 := ((p7.dp 0).dp 0).dp 0
    refine Gm 3 [([27, 4], .bool (!y11))] J126 ?_
    obtain rfl := sj h
    exact Goes.rt Tryz.f74 (.bool (!y11)) ⟨_, rfl, ((((z2.t z3).t z4).t z5).t z7), p7⟩
   ·
    rw [df h10]
    refine Gm 6 [([29, 28], .bool (decide (x0.Op = 4)))] (Ys 11101011111 B74 J11z) ?_
    refine Gi h (fun h13 h => ?_) fun h13 h => ?_
    ·
     rw [dt h13]
     refine Gn 4 [(30, (pt b1 2))] (Yt 1110101111100 B74 [1, 2, 3, 4] J12a) ?_
     refine Goes.ld 28 (.tmp 30) 31 28 ⟨b1, 2, none⟩ (.slice u92 x0.L.length u94) (p5.c 2 2) ?_
     refine Goes.ld 232 (.tmp 5) 32 232 ⟨b5, 0, none⟩ (.func (.func 136) #[] #[(pt b3 0)]) (p5.c 0 0) ?_
     have p5 := p5.fr 1
     refine Gb h fun y14 e15 h => ?_
     refine Gc (kc 128 [31, 32] #[28, 232]) 33 4 128 _ (up4 (x0.L, x1) y14 e15 _ _ _ _ _ _ _ p5 (u9f.ext (((z2.t z3).t z4).t z5)) rfl (fx1.ext (((z2.t z3).t z4).t z5)) rfl) ?_
     rintro _ w8 ⟨S8, rfl, z8, p8⟩
     have p8 := ((p8.dp 0).dp 0).dp 0
     refine Gn 2 [(4, .bool y14)] J12a ?_
     obtain rfl := sj h
     exact Goes.rt Tryz.f74 (.bool y14) ⟨_, rfl, ((((z2.t z3).t z4).t z5).t z8), p8⟩
    ·
     rw [df h13]
     refine Gn 6 [(34, (pt b1 0))] (Yt 11110 B74 [1, 2, 3] J12c) ?_
     refine Goes.ld 3 (.tmp 34) 35 3 ⟨b1, 0, none⟩ (.i x0.Op) (p5.c 2 0) ?_
     refine Gm 3 [([36, 4], .bool (decide (x0.Op = 0)))] J12c ?_
     obtain rfl := sj h
     have p5 := ((p5.dp 0).dp 0).dp 0
     exact Goes.rt Tryz.f74 (.bool (decide (x0.Op = 0))) ⟨_, rfl, (((z2.t z3).t z4).t z5), p5⟩
 ·
  intro up6 up7 ⟨x0, uf2⟩ r h nz wz S0 w0 Lr Ax0 nx0 cx0 uf1 uoz up0 up1 p0 fx0 lx0 up8 up9
  try dsimp only at h
  subst lx0
  subst up9
  refine Zf Tryz.f128 B128 7 ?_
  refine Gj 9 [(0, .slice Ax0 x0.length cx0), (1, .func (.func 136) #[] #[(pt uf1 0)])] fun junk => ?_
  refine Gn 8 [(4, .bool false), (5, .slice Ax0 x0.length cx0), (6, .func (.func 136) #[] #[(pt uf1 0)])] Jot ?_
  refine Gb h fun y2 e3 h => ?_
  refine Gc (kc 195 [5, 6] #[28, 232]) 7 3 195 _ (up7 (x0, uf2) y2 e3 _ _ _ _ _ _ _ p0 fx0 rfl up8 rfl) ?_
  rintro _ w2 ⟨S2, rfl, z2, p2⟩
  refine Gm 3 [([8, 4], .bool (decide (y2 ≥ 0)))] Jos ?_
  obtain rfl := sj h
  exact Goes.rt Tryz.f128 (.bool (decide (y2 ≥ 0))) ⟨_, rfl, z2, p2⟩
 ·
  intro upa upb ⟨x0, uf2⟩ r h nz wz S0 w0 Lr Ax0 nx0 cx0 uf1 uoz up0 up1 p0 fx0 lx0 up8 up9
  try dsimp only at h
  subst lx0
  subst up9
  refine Zf Tryz.f195 B195 17 ?_
  refine Gj 19 [(0, .slice Ax0 x0.length cx0), (1, .func (.func 136) #[] #[(pt uf1 0)])] fun junk => ?_
  refine Gm 13 [([4, 8], .i 0), ([6], .slice Ax0 x0.length cx0), ([7], .i (x0.length : Int))] Joj ?_
  exact Gj 19 [(0, .slice Ax0 x0.length cx0), (1, .func (.func 136) #[] #[(pt uf1 0)]), (7, .i (x0.length : Int)), (8, .i 0)] (upb _ _ h uf1 uoz uf2.length up1 _ _ (Ext.refl S0 w0) _ _ _ p0 fx0 rfl up8 rfl)
 ·
  intro upa upc upb upe ⟨x0, x7, x8, uf2⟩ r h nz wz S0 w0 Lr uf1 uoz up0 up1 S1 w1 hx Ax0 nx0 cx0 p1 fx0 lx0 ug2 ug3 junk
  try dsimp only at h
  subst lx0
  subst ug3
  refine Gn 5 [(9, .bool (decide (x8 < x7)))] Jol ?_
  refine Gi h (fun h2 h => ?_) fun h2 h => ?_
  ·
   rw [dt h2]
   refine Gm 14 [([10, 5, 13], .i x8), ([11], .func (.func 136) #[] #[(pt uf1 0)]), ([12], .slice Ax0 x0.length cx0)] Jop ?_
   refine Gg h fun g3 h => ?_
   refine Gg h fun g4 h => ?_
   refine Oi 28 (.tmp 12) (.tmp 13) 14 0 30 .i64 x8 (gi x0 x8) rfl rfl fx0 Goes.v g3 g4 fun a5 _ f6 q7 => ?_
   have q8 := q7
   obtain ⟨_, _, rfl, rfl, ⟨_, _, rfl, rfl, ⟨A9, c10, rfl, f11⟩⟩⟩ := kT29_open q8
   refine Goes.ldN 30 (.tmp 14) 15 30 a5 ([.i ((gi x0 x8).Op)] ++ ([.string ((gi x0 x8).Text)] ++ [.slice A9 (((gi x0 x8).L).length) c10])) (f6.cell) ?_
   refine Gb h fun y12 e13 h => ?_
   refine Gc (.call { callee := .value (.tmp 11), args := #[(.tmp 15)], argTypes := #[30] }) 16 4 136 _ (upe (gi x0 x8, uf2) y12 e13 _ _ _ _ _ _ _ p1 f11 rfl ug2 rfl) ?_
   rintro _ w2 ⟨S2, rfl, z2, p2⟩
   refine Gn 1 [] Joo ?_
   refine Gi h (fun h14 h => ?_) fun h14 h => ?_
   ·
    rw [h14]
    refine Gm 6 [([17, 4], .i x8)] Joq ?_
    obtain rfl := sj h
    exact Goes.rt Tryz.f195 (.i x8) ⟨_, rfl, (hx.t z2), p2⟩
   ·
    rw [bf h14]
    refine Gm 8 [([18, 8], .i (wr .i64 (x8 + 1)))] Joj ?_
    exact Gj 19 [(0, .slice Ax0 x0.length cx0), (1, .func (.func 136) #[] #[(pt uf1 0)]), (7, .i x7), (8, .i (wr .i64 (x8 + 1)))] (upb _ _ h uf1 uoz uf2.length up1 _ _ (hx.t z2) _ _ _ p2 (fx0.ext z2) rfl (ug2.ext z2) rfl)
  ·
   rw [df h2]
   refine Gn 6 [(4, .i (-1))] Jor ?_
   obtain rfl := sj h
   exact Goes.rt Tryz.f195 (.i (-1)) ⟨_, rfl, hx, p1⟩
 ·
  intro rec_gram_Query_fits ih_gram_Query_fits ⟨x0, uoy⟩ r h nz wz S0 w0 Lr u92 u93 u94 gx1 uov uow uox p0 u9f u9g upf upg
  try dsimp only at h
  subst u9g
  subst upg
  refine Zf Tryz.f136 B136 5 ?_
  refine Gj 7 [(0, (ag (vT29 x0 u92 x0.L.length u94))), (1, (pt gx1 0))] fun junk => ?_
  refine Gn 2 [] (Yt 10 B136 [0, 1] (Ys 11 B136 [])) ?_
  refine Ob 30 (.tmp 0) 2 0 (ag (vT29 x0 u92 x0.L.length u94)) (vT29 x0 u92 x0.L.length u94) p0 Goes.v fun b2 w2 z2 p2 => ?_
  refine Gn 4 [(3, .bool false)] (Yt 110 B136 [0, 1, 2, 3] J12g) ?_
  refine Goes.ldN 30 (.tmp 2) 4 30 ⟨b2, 0, none⟩ (vT29 x0 u92 x0.L.length u94) (p2.pa 0 0) ?_
  refine Goes.ld 43 (.tmp 1) 5 43 ⟨gx1, 0, none⟩ (.slice uov uoy.length uox) (p2.c 1 0) ?_
  refine Gb h fun y4 e5 h => ?_
  refine Gc (kc 74 [4, 5] #[30, 43]) 6 4 74 _ (ih_gram_Query_fits (x0, uoy) y4 e5 _ _ _ _ _ _ p2 (u9f.ext z2) rfl (upf.ext z2) rfl) ?_
  rintro _ w3 ⟨S3, rfl, z3, p3⟩
  have p3 := p3.dp 0
  refine Gn 2 [(3, .bool y4)] J12g ?_
  obtain rfl := sj h
  exact Goes.rt Tryz.f136 (.bool y4) ⟨_, rfl, (z2.t z3), p3⟩
 ·
  intro uph upi ⟨x0, uop⟩ r h nz wz S0 w0 Lr Ax0 nx0 cx0 uf1 uol uom uon uoo p0 fx0 lx0 upj upk
  try dsimp only at h
  subst lx0
  subst upk
  refine Zf Tryz.f128 B128 7 ?_
  refine Gj 9 [(0, .slice Ax0 x0.length cx0), (1, .func (.func 138) #[] #[(pt uf1 0)])] fun junk => ?_
  refine Gn 8 [(4, .bool false), (5, .slice Ax0 x0.length cx0), (6, .func (.func 138) #[] #[(pt uf1 0)])] Jot ?_
  refine Gb h fun y3 e4 h => ?_
  refine Gc (kc 195 [5, 6] #[28, 232]) 7 3 195 _ (upi (x0, uop) y3 e4 _ _ _ _ _ _ _ _ p0 fx0 rfl upj rfl) ?_
  rintro _ w2 ⟨S2, rfl, z2, p2⟩
  refine Gm 3 [([8, 4], .bool (decide (y3 ≥ 0)))] Jos ?_
  obtain rfl := sj h
  exact Goes.rt Tryz.f128 (.bool (decide (y3 ≥ 0))) ⟨_, rfl, z2, p2⟩
 ·
  intro upl upm ⟨x0, uop⟩ r h nz wz S0 w0 Lr Ax0 nx0 cx0 uf1 uol uom uon uoo p0 fx0 lx0 upj upk
  try dsimp only at h
  subst lx0
  subst upk
  refine Zf Tryz.f195 B195 17 ?_
  refine Gj 19 [(0, .slice Ax0 x0.length cx0), (1, .func (.func 138) #[] #[(pt uf1 0)])] fun junk => ?_
  refine Gm 13 [([4, 8], .i 0), ([6], .slice Ax0 x0.length cx0), ([7], .i (x0.length : Int))] Joj ?_
  exact Gj 19 [(0, .slice Ax0 x0.length cx0), (1, .func (.func 138) #[] #[(pt uf1 0)]), (7, .i (x0.length : Int)), (8, .i 0)] (upm _ _ h uf1 uol uom uop.length uoo _ _ (Ext.refl S0 w0) _ _ _ p0 fx0 rfl upj rfl)
 ·
  intro upl upn upm upo ⟨x0, x7, x8, uop⟩ r h nz wz S0 w0 Lr uf1 uol uom uon uoo S1 w1 hx Ax0 nx0 cx0 p1 fx0 lx0 ug2 ug3 junk
  try dsimp only at h
  subst lx0
  subst ug3
  refine Gn 5 [(9, .bool (decide (x8 < x7)))] Jol ?_
  refine Gi h (fun h3 h => ?_) fun h3 h => ?_
  ·
   rw [dt h3]
   refine Gm 14 [([10, 5, 13], .i x8), ([11], .func (.func 138) #[] #[(pt uf1 0)]), ([12], .slice Ax0 x0.length cx0)] Jop ?_
   refine Gg h fun g4 h => ?_
   refine Gg h fun g5 h => ?_
   refine Oi 28 (.tmp 12) (.tmp 13) 14 0 30 .i64 x8 (gi x0 x8) rfl rfl fx0 Goes.v g4 g5 fun a6 _ f7 q8 => ?_
   have q9 := q8
   obtain ⟨_, _, rfl, rfl, ⟨_, _, rfl, rfl, ⟨A10, c11, rfl, f12⟩⟩⟩ := kT29_open q9
   refine Goes.ldN 30 (.tmp 14) 15 30 a6 ([.i ((gi x0 x8).Op)] ++ ([.string ((gi x0 x8).Text)] ++ [.slice A10 (((gi x0 x8).L).length) c11])) (f7.cell) ?_
   refine Gb h fun y13 e14 h => ?_
   refine Gc (.call { callee := .value (.tmp 11), args := #[(.tmp 15)], argTypes := #[30] }) 16 4 138 _ (upo (gi x0 x8, uop) y13 e14 _ _ _ _ _ _ _ _ p1 f12 rfl ug2 rfl) ?_
   rintro _ w2 ⟨S2, rfl, z2, p2⟩
   refine Gn 1 [] Joo ?_
   refine Gi h (fun h15 h => ?_) fun h15 h => ?_
   ·
    rw [h15]
    refine Gm 6 [([17, 4], .i x8)] Joq ?_
    obtain rfl := sj h
    exact Goes.rt Tryz.f195 (.i x8) ⟨_, rfl, (hx.t z2), p2⟩
   ·
    rw [bf h15]
    refine Gm 8 [([18, 8], .i (wr .i64 (x8 + 1)))] Joj ?_
    exact Gj 19 [(0, .slice Ax0 x0.length cx0), (1, .func (.func 138) #[] #[(pt uf1 0)]), (7, .i x7), (8, .i (wr .i64 (x8 + 1)))] (upm _ _ h uf1 uol uom uop.length uoo _ _ (hx.t z2) _ _ _ p2 (fx0.ext z2) rfl (ug2.ext z2) rfl)
  ·
   rw [df h3]
   refine Gn 6 [(4, .i (-1))] Jor ?_
   obtain rfl := sj h
   exact Goes.rt Tryz.f195 (.i (-1)) ⟨_, rfl, hx, p1⟩
 ·
  intro upc upe ⟨x0, uou⟩ r h nz wz S0 w0 Lr u92 u93 u94 gx1 uoq uor uos uot p0 u9f u9g upp upq
  try dsimp only at h
  subst u9g
  subst upq
  refine Zf Tryz.f138 B138 6 ?_
  refine Gj 8 [(0, (ag (vT29 x0 u92 x0.L.length u94))), (1, (pt gx1 0))] fun junk => ?_
  refine Gn 2 [] (Yt 10 B138 [0, 1] (Ys 11 B138 [])) ?_
  refine Ob 30 (.tmp 0) 2 0 (ag (vT29 x0 u92 x0.L.length u94)) (vT29 x0 u92 x0.L.length u94) p0 Goes.v fun b3 w2 z2 p2 => ?_
  refine Gn 4 [(3, .bool false)] (Yt 110 B138 [0, 1, 2, 3, 4] J12k) ?_
  refine Goes.ld 232 (.tmp 1) 4 232 ⟨gx1, 0, none⟩ (.func (.func 136) #[] #[(pt uoq 0)]) (p2.c 1 0) ?_
  refine Goes.ldN 30 (.tmp 2) 5 30 ⟨b3, 0, none⟩ (vT29 x0 u92 x0.L.length u94) (p2.pa 0 0) ?_
  have p2 := p2.fr 2
  refine Gb h fun y5 e6 h => ?_
  refine Gc (.call { callee := .value (.tmp 4), args := #[(.tmp 5)], argTypes := #[30] }) 6 4 136 _ (upe (x0, uou) y5 e6 _ _ _ _ _ _ _ p2 (u9f.ext z2) rfl (upp.ext z2) rfl) ?_
  rintro _ w3 ⟨S3, rfl, z3, p3⟩
  have p3 := p3.dp 1
  refine Gm 3 [([7, 3], .bool (!y5))] J12k ?_
  obtain rfl := sj h
  have p3 := (p3.fr 0).fr 1
  exact Goes.rt Tryz.f138 (.bool (!y5)) ⟨_, rfl, (z2.t z3), p3⟩

theorem W.z5n : ∀ a r, M.a1x a = some r → LF.z5n a r := (W.z5w).1

theorem W.z5s : ∀ a r, M.a5v a = some r → LF.z5s a r := (W.z5w).2.1

theorem W.z5t : ∀ a r, M.a5y a = some r → LF.z5t a r := (W.z5w).2.2.1

theorem W.z5v : ∀ a r, M.a1z a = some r → LL.z5v a r := (W.z5w).2.2.2.1

theorem W.z5r : ∀ a r, M.a3y a = some r → LF.z5r a r := (W.z5w).2.2.2.2.1

theorem W.z5o : ∀ a r, M.a5u a = some r → LF.z5o a r := (W.z5w).2.2.2.2.2.1

theorem W.z5p : ∀ a r, M.a5w a = some r → LF.z5p a r := (W.z5w).2.2.2.2.2.2.1

theorem W.z5u : ∀ a r, M.a1y a = some r → LL.z5u a r := (W.z5w).2.2.2.2.2.2.2.1

theorem W.z5q : ∀ a r, M.a5x a = some r → LF.z5q a r := (W.z5w).2.2.2.2.2.2.2.2

def J12o := Ys 111 B27 []

def Post.z5x (r : Bool × Int) (v : Value) (w' : World) : Prop :=
 ∃ S', v = .tuple #[.bool r.1, .i r.2] ∧ Ext S0 w0 S' w' ∧ Hp nz wz S' w' (Lr)

theorem W.z5x (x0 : T29) (x1 : ByteArray) (r : Bool × Int) (h : M.a51 x0 x1 = some r) {nz wz S0 w0 Lr} (u92 u93 u94) (p0 : Hp nz wz S0 w0 (Lr)) (u9f : Rd kT29 S0 w0 u92 u94 x0.L) (u9g : x0.L.length = u93) :
  Calls Tryz.prog 27 #[(ag (vT29 x0 u92 u93 u94)), .string x1] w0 (Rets (Post.z5x nz wz S0 w0 Lr r)) := by
 subst u9g
 refine Zf Tryz.f27 B27 14 ?_
 refine Gj 16 [(0, (ag (vT29 x0 u92 x0.L.length u94))), (1, .string x1)] fun junk => ?_
 delta M.a51 at h
 refine Gn 2 [] (Yt 10 B27 [0, 1, 2] (Ys 11 B27 [])) ?_
 refine Ob 30 (.tmp 0) 2 0 (ag (vT29 x0 u92 x0.L.length u94)) (vT29 x0 u92 x0.L.length u94) p0 Goes.v fun b1 w2 z2 p2 => ?_
 refine Gn 6 [(4, .bool false), (5, .i 0)] (Yt 1100 B27 [0, 1, 2] (Ys 1101 B27 J12o)) ?_
 refine Goes.ldN 30 (.tmp 2) 7 30 ⟨b1, 0, none⟩ (vT29 x0 u92 x0.L.length u94) (p2.pa 0 0) ?_
 refine Gb h fun y3 e4 h => ?_
 refine Gc (kc 20 [7] #[30]) 8 34 20 _ (W.z4f x0 y3 e4 _ _ _ p2 (u9f.ext z2) rfl) ?_
 rintro _ w3 ⟨S3, rfl, z3, p3⟩
 refine Gm 7 [([6, 9], .i y3), ([10], .bool (!(decide (y3 = 0))))] (Ys 11011 B27 J12o) ?_
 refine Gi h (fun h5 h => ?_) fun h5 h => ?_
 ·
  rw [dt h5]
  refine Gn 3 [] (Ys 1110 B27 (Ys 1111 B27 [])) ?_
  have z4 : Ext S3 w3 S3 (w3).drew := Ext.draw
  have p4 := p3.draw
  refine Gd [3] (Fc S3 (w3).drew [(⟨b1, 0, none⟩, .i x0.Op), (⟨b1, 1, none⟩, .string x0.Text), (⟨b1, 2, none⟩, .slice u92 x0.L.length u94)]) 4 6 ?_
  generalize (w3).drew = w4 at z4 p4 ⊢
  refine AnyG.ldN (i := 0) 30 (.tmp 2) 12 30 ⟨b1, 0, none⟩ (vT29 x0 u92 x0.L.length u94) (by kernel_rfl) (by kernel_rfl) (Fc.here (p4.cs [(0, 0, 3)])) (by kernel_rfl) (by kernel_rfl) (by kernel_rfl) (fun _ h j v hj => by match j, hj with | 0, rfl => exact h.2.at_ 0 rfl | 1, rfl => exact h.2.at_ 1 rfl | 2, rfl => exact h.2.at_ 2 rfl | (j + 3), hj => simp at hj) ?_
  refine AnyG.pu 1 (.move (.tmp 1)) 13 9 (.string x1) (Fc.here (p4.cs [(0, 0, 3)])) ?_
  refine Gb h fun y6 e7 h => ?_
  refine Oc (kc 16 [13] #[9]) 14 43 16 #[.string x1] (Ac 2) (W.z34 x1 y6 e7  p4 ) ?_
  rintro _ w5 ⟨S5, uo0, uo1, uo2, uo3, rfl, z5, p5, ux, rfl⟩
  refine AnyG.next z5 ⟨(p5.c 1 0), (p5.c 1 1), (p5.c 1 2), trivial⟩ ?_
  obtain ⟨S6, z6, p6, f9⟩ := p5.freezeRd 0 rfl ux (by decide)
  refine AnyG.refz z6 ?_
  refine Gb h fun y10 e11 h => ?_
  refine Oc (kc 74 [12, 14] #[30, 43]) 15 4 74 #[(ag (vT29 x0 u92 x0.L.length u94)), .slice (Gp uo0) y6.length uo2] (Ac 3) (W.z5n (x0, y6) y10 e11 _ _ _ _ _ _ p6 (u9f.ext ((((z2.t z3).t z4).t z5).t z6)) rfl f9 rfl) ?_
  rintro _ w7 ⟨S7, rfl, z7, p7⟩
  refine AnyG.last [] (Fc S7 w7 []) (by decide) ?_
  refine AnyG.pu 4 (.assign (.tmp 15)) 4 4 (.bool y10) (Fc.here trivial) ?_
  refine AnyG.pu 5 (.assign (.const (.int .i64 0))) 5 34 (.i 0) (Fc.here trivial) ?_
  refine Ad ?_
  have p7 := (p7.dp 0).dp 0
  obtain rfl := sj h
  exact Goes.rt Tryz.f27 (.tuple #[.bool y10, .i 0]) ⟨_, rfl, (((((z2.t z3).t z4).t z5).t z6).t z7), p7⟩
 ·
  rw [df h5]
  refine Gm 7 [([11, 5], .i y3), ([4], .bool false)] (Ys 1101101 B27 J12o) ?_
  obtain rfl := sj h
  have p3 := p3.dp 0
  exact Goes.rt Tryz.f27 (.tuple #[.bool false, .i y3]) ⟨_, rfl, (z2.t z3), p3⟩

def J12v := Ys 111 B83 []

def Post.z5y (gx0 : Nat) (uk8 : Nat) (uk9 : Nat) (r : Unit) (v : Value) (w' : World) : Prop :=
 ∃ S', v = .bool false ∧ Ext S0 w0 S' w' ∧ Hp nz wz S' w' ((some gx0, .row 158 [.map (some uk8)] 1 0) :: Lr)

theorem W.z5y (uk9 : Nat) (r : Unit) (h : M.a5z uk9 = some r) {nz wz S0 w0 Lr} (gx0 uk8) (p0 : Hp nz wz S0 w0 ((some gx0, .row 158 [.map (some uk8)] 1 0) :: Lr)) (uka : Pa 154 S0 uk9 uk8) :
  Calls Tryz.prog 83 #[(pt gx0 0)] w0 (Rets (Post.z5y nz wz S0 w0 Lr gx0 uk8 uk9 r)) := by
 refine Zf Tryz.f83 B83 5 ?_
 refine Gj 6 [(0, (pt gx0 0))] fun junk => ?_
 delta M.a5z at h
 refine Gn 7 [(2, .bool false), (3, (pt gx0 0))] (Yt 110 B83 [1, 2, 3] J12v) ?_
 refine Gb h fun y2 e3 h => ?_
 refine Gc (kc 76 [3] #[62]) 4 4 76 _ (W.z4q uk9 y2 e3 _ _ p0 uka) ?_
 rintro _ w2 ⟨S2, rfl, z2, p2⟩
 refine Gm 3 [([5, 2], .bool (!true))] J12v ?_
 obtain rfl := sj h
 exact Goes.rt Tryz.f83 (.bool (!true)) ⟨_, rfl, z2, p2⟩

def J130 := Ys 1111 B144 []
def Qvt := Yq 1110 B144

def Post.z5z (gx0 : Nat) (uk8 : Nat) (uk6 : List (Nat × Obj)) (uk9 : Nat) (uk5 : List (List (ByteArray × (List Int)))) (r : List Int) (v : Value) (w' : World) : Prop :=
 ∃ S' Gq nq cq csq, v = .slice (Gp Gq) nq cq ∧ Ext S0 w0 S' w' ∧ Hp nz wz S' w' ((Gq, .row 22 csq (cq * (kInt .u64).size) 0) :: (some gx0, .row 158 [.map (some uk8)] 1 0) :: (none, .seg 154 uk6) :: Lr) ∧ Els (kInt .u64) S' w' csq r ∧ r.length = nq

theorem W.z5z (uk9 : Nat) (x1 : ByteArray) (uk5 : List (List (ByteArray × (List Int)))) (r : List Int) (h : M.a3z uk9 x1 uk5 = some r) {nz wz S0 w0 Lr} (gx0 uk8 uk6) (p0 : Hp nz wz S0 w0 ((some gx0, .row 158 [.map (some uk8)] 1 0) :: (none, .seg 154 uk6) :: Lr)) (uka : Pa 154 S0 uk9 uk8) (uk7 : Pl (oMap Value.string (kSl (kInt .u64))) S0 w0 uk6 uk5) :
  Calls Tryz.prog 144 #[(pt gx0 0), .string x1] w0 (Rets (Post.z5z nz wz S0 w0 Lr gx0 uk8 uk6 uk9 uk5 r)) := by
 refine Zf Tryz.f144 B144 14 ?_
 refine Gj 16 [(0, (pt gx0 0)), (1, .string x1)] fun junk => ?_
 delta M.a3z at h
 refine Gn 8 [(4, .slice none 0 0), (5, (pt gx0 0))] (Yt 1100 B144 [1, 2] (Ys 1101 B144 (Ys 111 B144 []))) ?_
 refine Gb h fun y2 e3 h => ?_
 refine Gc (kc 76 [5] #[62]) 6 4 76 _ (W.z4q uk9 y2 e3 _ _ p0 uka) ?_
 rintro _ w2 ⟨S2, rfl, z2, p2⟩
 refine Gm 10 [([7], .bool (!true)), ([8, 9, 10, 11], (pt gx0 0))] (Zr Qvt [4, 5, 6, 7, 8] J130) ?_
 refine Goes.ld 154 (.tmp 11) 12 154 ⟨gx0, 0, none⟩ (.map (some uk8)) (p2.c 0 0) ?_
 refine Gn 1 [(13, .string x1)] (Zr Qvt [6, 7, 8] J130) ?_
 refine Gl h fun v4 e5 h => ?_
 refine Op_.lkM 154 (.tmp 12) (.tmp 13) 14 60 9 60 1 (.slice none 0 0) ([] : List Int) x1 v4 p2 rfl (uk7.ext z2) (uka.ext z2) Goes.v (by kernel_rfl) (by kernel_rfl) (by kernel_rfl) (kok_str (by kernel_rfl)) (by kernel_rfl) ⟨none, 0, rfl, Rd.none_⟩ e5 fun v6 f7 => ?_
 obtain ⟨A8, c9, rfl, f10⟩ := one_sl f7
 refine Gb h fun y11 e12 h => ?_
 refine Gc (kc 142 [14] #[60]) 15 60 142 _ (W.z4u v4 y11 e12 _ _ _ p2 f10 rfl) ?_
 rintro _ w3 ⟨S3, ufc, ufd, ufe, uff, rfl, z3, p3, u2d, rfl⟩
 refine Gn 2 [(4, .slice (Gp ufc) y11.length ufe)] J130 ?_
 obtain rfl := sj h
 exact Goes.rt Tryz.f144 (.slice (Gp ufc) y11.length ufe) ⟨_, _, _, _, _, rfl, (z2.t z3), p3, u2d, rfl⟩


def Post.z60 (r : Bool) (v : Value) (w' : World) : Prop :=
 ∃ S', v = .bool r ∧ Ext S0 w0 S' w' ∧ Hp nz wz S' w' (Lr)

theorem W.z60 (x0 : Int) (r : Bool) (h : M.a60 x0 = some r) {nz wz S0 w0 Lr} (p0 : Hp nz wz S0 w0 (Lr)) :
  Calls Tryz.prog 205 #[.i x0] w0 (Rets (Post.z60 nz wz S0 w0 Lr r)) := by
 refine Zf Tryz.f205 B205 4 ?_
 refine Gj 5 [(0, .i x0)] fun junk => ?_
 delta M.a60 at h
 refine Gm 10 [([2, 4], .bool (decide (x0 = 3))), ([3], .i x0)] (Ys 111 B205 []) ?_
 obtain rfl := sj h
 exact Goes.rt Tryz.f205 (.bool (decide (x0 = 3))) ⟨_, rfl, (Ext.refl S0 w0), p0⟩

def Post.z61 (lk : Nat) (rk : Nat) (jkk : Nat → Value) (ukl : Nat) (ukm : Nat) (ukn : Nat) (uko : Option Addr) (ukp : Nat) (ukq : Nat) (ukr : Nat) (uks : Option Addr) (ukt : Nat) (uku : Nat) (ukv : List Int) (ukw : List Int) (r : List Int) (v : Value) (w' : World) : Prop :=
 ∃ S' ukx uky ukz ul0, v = .bool true ∧ Ext S0 w0 S' w' ∧ Hp nz wz S' w' ((some lk, .obj (lpst 251 (lfr 23 [(5, (pt ukl 0)), (7, (pt ukm 0)), (12, .func (.func 302) #[] #[(pt ukn 0), (pt ukr 0)])] jkk) #[13, 14] (rfAssign (Qs7)) (rfBody (Qs7)) rk .ready none)) :: (some ukl, .row 313 [.func (.func 205) #[] #[]] 1 0) :: (some ukm, .row 60 [.slice (Gp ukx) uky ukz] 1 0) :: (ukx, .row 22 ul0 (ukz * (kInt .u64).size) 0) :: (some ukn, .row 60 [.slice uko ukp ukq] 1 0) :: (some ukr, .row 60 [.slice uks ukt uku] 1 0) :: Lr) ∧ Els (kInt .u64) S' w' ul0 r ∧ r.length = uky

theorem W.z61 (ul1 : List Int) (ukv : List Int) (ukw : List Int) (a0 : Int) (a1 : Int) (r : List Int) (h : M.a52 ul1 ukv ukw a0 a1 = some r) {nz wz S0 w0 Lr} (lk rk jkk ukl ukm ul2 ul3 ul4 ul5 ukn uko ukp ukq ukr uks ukt uku) (p0 : Hp nz wz S0 w0 ((some lk, .obj (lpst 251 (lfr 23 [(5, (pt ukl 0)), (7, (pt ukm 0)), (12, .func (.func 302) #[] #[(pt ukn 0), (pt ukr 0)])] jkk) #[13, 14] (rfAssign (Qs7)) (rfBody (Qs7)) rk .ready none)) :: (some ukl, .row 313 [.func (.func 205) #[] #[]] 1 0) :: (some ukm, .row 60 [.slice (Gp ul2) ul3 ul4] 1 0) :: (ul2, .row 22 ul5 (ul4 * (kInt .u64).size) 0) :: (some ukn, .row 60 [.slice uko ukp ukq] 1 0) :: (some ukr, .row 60 [.slice uks ukt uku] 1 0) :: Lr)) (ul6 : Els (kInt .u64) S0 w0 ul5 ul1) (ul7 : ul1.length = ul3) (ul8 : Rd (kInt .u64) S0 w0 uko ukq ukv) (ul9 : ukv.length = ukp) (ula : Rd (kInt .u64) S0 w0 uks uku ukw) (ulb : ukw.length = ukt) :
  Goes Tryz.prog (rbase 251 lk) [.code (rfAssign (Qs7)), .beginRound, .code (rfBody (Qs7))] ⟨setp (lfr 23 [(5, (pt ukl 0)), (7, (pt ukm 0)), (12, .func (.func 302) #[] #[(pt ukn 0), (pt ukr 0)])] jkk) #[13, 14] #[.u a0, .i a1], []⟩ w0 (DoneR (Post.z61 nz wz S0 w0 Lr lk rk jkk ukl ukm ukn uko ukp ukq ukr uks ukt uku ukv ukw r)) := by
 subst ul7
 subst ul9
 subst ulb
 refine Gj 23 [(5, (pt ukl 0)), (7, (pt ukm 0)), (12, .func (.func 302) #[] #[(pt ukn 0), (pt ukr 0)]), (13, .u a0), (14, .i a1)] fun junk => ?_
 delta M.a52 at h
 refine Gn 7 [(8, .u a0), (9, .i a1)] [.beginRound, .code (Qs8)] ?_
 refine Goes.beginR 0 rfl p0 rfl fun w2 z2 p2 => ?_
 refine Gn 3 [] Jyg ?_
 refine Goes.ld 313 (.tmp 5) 15 313 ⟨ukl, 0, none⟩ (.func (.func 205) #[] #[]) (p2.c 1 0) ?_
 refine Gn 1 [(16, .i a1)] Jyh ?_
 refine Gb h fun y7 e8 h => ?_
 refine Gc (.call { callee := .value (.tmp 15), args := #[(.tmp 16)], argTypes := #[3] }) 17 4 205 _ (W.z60 a1 y7 e8  p2 ) ?_
 rintro _ w3 ⟨S3, rfl, z3, p3⟩
 refine Gn 1 [] Jyf ?_
 refine Gi h (fun h9 h => ?_) fun h9 h => ?_
 ·
  rw [h9]
  refine Gn 2 [] Jyi ?_
  refine Goes.ld 60 (.tmp 7) 18 60 ⟨ukm, 0, none⟩ (.slice (Gp ul2) ul1.length ul4) (p3.c 2 0) ?_
  refine Gn 1 [(19, .u a0)] Jyj ?_
  have f11 : Els (kInt .u64) S3 w3 ([.u a0] : List Value) [a0] := by exact (Els.cons (K := (kInt .u64)) (vs := [.u a0]) (x := a0) rfl Els.nil)
  refine Om (.buildSlice 60 1 #[(0, (.tmp 19))]) 20 60 (fun b => .slice (Gp (some b)) 1 1) 22 ([.u a0] : List Value) (1 * (kInt .u64).size) p3 Goes.v fun b10 w4 z4 p4 => ?_
  refine Gg h fun g16 h => ?_
  refine On (K := (kInt .u64)) 60 (.tmp 18) (.tmp 20) 21 60 22 4 (.u 0) 8 ul1.length ul4 1 ul1 [a0] (ul1 ++ [a0]) (Gp (some b10)) 1 rfl rfl rfl p4 rfl (ul6.ext ((z2.t z3).t z4)) Goes.v (f11.ext z4) (src_own p4 (q := 0) rfl) g16 fun w5 G17 c18 ulc z5 p5 f20 => ?_
  refine So 60 (.tmp 7) (.tmp 21) 0 3 ukm 0 (.slice (Gp G17) ((ul1 ++ [a0]).length) c18) [.slice (Gp G17) ((ul1 ++ [a0]).length) c18] p5 rfl Goes.s fun w6 z6 p6 => ?_
  refine Gn 2 [] [] ?_
  have p6 := p6.dp 0
  obtain rfl := sj h
  refine Goes.endR 0 p6 rfl fun w7 z7 p7 => ?_
  exact ⟨S3, G17, (ul1 ++ [a0]).length, c18, ulc, rfl, (((((z2.t z3).t z4).t z5).t z6).t z7), p7, (f20.ext (z6.t z7)), rfl⟩
 ·
  rw [bf h9]
  refine Gn 3 [] [] ?_
  obtain rfl := sj h
  refine Goes.endR 0 p3 rfl fun w8 z8 p8 => ?_
  exact ⟨S3, ul2, ul1.length, ul4, ul5, rfl, ((z2.t z3).t z8), p8, (ul6.ext ((z2.t z3).t z8)), rfl⟩

def Post.z62 (lx0 : Nat) (rx0 : Nat) (u4q : Nat → Value) (uld : Nat) (ule : Nat) (ulf : Nat) (ulg : Nat) (r : (List Int) × (List Int) × (List Int)) (v : Value) (w' : World) : Prop :=
 ∃ S' ukx uky ukz ul0 ulh uli ulj ulk ull ulm, v = .tuple #[] ∧ Ext S0 w0 S' w' ∧ Hp nz wz S' w' ((some lx0, .obj (lpst 251 (lfr 23 [(5, (pt uld 0)), (7, (pt ule 0)), (12, .func (.func 302) #[] #[(pt ulf 0), (pt ulg 0)])] u4q) #[13, 14] (rfAssign (Qs7)) (rfBody (Qs7)) rx0 .ready none)) :: (some uld, .row 313 [.func (.func 205) #[] #[]] 1 0) :: (some ule, .row 60 [.slice (Gp ukx) uky ukz] 1 0) :: (ukx, .row 22 ul0 (ukz * (kInt .u64).size) 0) :: (some ulf, .row 60 [.slice ulh uli ulj] 1 0) :: (some ulg, .row 60 [.slice ulk ull ulm] 1 0) :: Lr) ∧ Els (kInt .u64) S' w' ul0 r.1 ∧ r.1.length = uky ∧ Rd (kInt .u64) S' w' ulh ulj r.2.1 ∧ r.2.1.length = uli ∧ Rd (kInt .u64) S' w' ulk ulm r.2.2 ∧ r.2.2.length = ull

def L.z63 (lx0 : Nat) (rx0 : Nat) (u4q : Nat → Value) (uld : Nat) (ule : Nat) (ulf : Nat) (ulg : Nat) : (List Int) × (List Int) × (List Int) → ((List Int) × (List Int) × (List Int)) → Prop := fun ⟨uln, ulo, ulp⟩ r => ∀ S1 w1, Ext S0 w0 S1 w1 → ∀ ukx uky ukz ul0 ulh uli ulj ulk ull ulm (_ : Hp nz wz S1 w1 ((some lx0, .obj (lpst 251 (lfr 23 [(5, (pt uld 0)), (7, (pt ule 0)), (12, .func (.func 302) #[] #[(pt ulf 0), (pt ulg 0)])] u4q) #[13, 14] (rfAssign (Qs7)) (rfBody (Qs7)) rx0 .ready none)) :: (some uld, .row 313 [.func (.func 205) #[] #[]] 1 0) :: (some ule, .row 60 [.slice (Gp ukx) uky ukz] 1 0) :: (ukx, .row 22 ul0 (ukz * (kInt .u64).size) 0) :: (some ulf, .row 60 [.slice ulh uli ulj] 1 0) :: (some ulg, .row 60 [.slice ulk ull ulm] 1 0) :: Lr)) (_ : Els (kInt .u64) S1 w1 ul0 uln) (_ : uln.length = uky) (_ : Rd (kInt .u64) S1 w1 ulh ulj ulo) (_ : ulo.length = uli) (_ : Rd (kInt .u64) S1 w1 ulk ulm ulp) (_ : ulp.length = ull) (junk : Nat → Value),
 Goes Tryz.prog (base 302) Jyl ⟨lfr 73 [(0, yieldV lx0), (1, (pt ulf 0)), (2, (pt ulg 0))] junk, []⟩ w1 (Done Tryz.prog 302 (Rets (Post.z62 nz wz S0 w0 Lr lx0 rx0 u4q uld ule ulf ulg r)))

def L.z64 (lx0 : Nat) (rx0 : Nat) (u4q : Nat → Value) (uld : Nat) (ule : Nat) (ulf : Nat) (ulg : Nat) : Bool × (List Int) × (List Int) × (List Int) → ((List Int) × (List Int) × (List Int)) → Prop := fun ⟨x13, uln, ulo, ulp⟩ r => ∀ S1 w1, Ext S0 w0 S1 w1 → ∀ ukx uky ukz ul0 ulh uli ulj ulk ull ulm (_ : Hp nz wz S1 w1 ((some lx0, .obj (lpst 251 (lfr 23 [(5, (pt uld 0)), (7, (pt ule 0)), (12, .func (.func 302) #[] #[(pt ulf 0), (pt ulg 0)])] u4q) #[13, 14] (rfAssign (Qs7)) (rfBody (Qs7)) rx0 .ready none)) :: (some uld, .row 313 [.func (.func 205) #[] #[]] 1 0) :: (some ule, .row 60 [.slice (Gp ukx) uky ukz] 1 0) :: (ukx, .row 22 ul0 (ukz * (kInt .u64).size) 0) :: (some ulf, .row 60 [.slice ulh uli ulj] 1 0) :: (some ulg, .row 60 [.slice ulk ull ulm] 1 0) :: Lr)) (_ : Els (kInt .u64) S1 w1 ul0 uln) (_ : uln.length = uky) (_ : Rd (kInt .u64) S1 w1 ulh ulj ulo) (_ : ulo.length = uli) (_ : Rd (kInt .u64) S1 w1 ulk ulm ulp) (_ : ulp.length = ull) (junk : Nat → Value),
 Goes Tryz.prog (base 302) Jyn ⟨lfr 73 [(0, yieldV lx0), (1, (pt ulf 0)), (2, (pt ulg 0)), (13, .bool x13)] junk, []⟩ w1 (Done Tryz.prog 302 (Rets (Post.z62 nz wz S0 w0 Lr lx0 rx0 u4q uld ule ulf ulg r)))

def L.z65 (lx0 : Nat) (rx0 : Nat) (u4q : Nat → Value) (uld : Nat) (ule : Nat) (ulf : Nat) (ulg : Nat) : Int × Bool × (List Int) × (List Int) × (List Int) → ((List Int) × (List Int) × (List Int)) → Prop := fun ⟨x4, x30, uln, ulo, ulp⟩ r => ∀ S1 w1, Ext S0 w0 S1 w1 → ∀ ukx uky ukz ul0 ulh uli ulj ulk ull ulm (_ : Hp nz wz S1 w1 ((some lx0, .obj (lpst 251 (lfr 23 [(5, (pt uld 0)), (7, (pt ule 0)), (12, .func (.func 302) #[] #[(pt ulf 0), (pt ulg 0)])] u4q) #[13, 14] (rfAssign (Qs7)) (rfBody (Qs7)) rx0 .ready none)) :: (some uld, .row 313 [.func (.func 205) #[] #[]] 1 0) :: (some ule, .row 60 [.slice (Gp ukx) uky ukz] 1 0) :: (ukx, .row 22 ul0 (ukz * (kInt .u64).size) 0) :: (some ulf, .row 60 [.slice ulh uli ulj] 1 0) :: (some ulg, .row 60 [.slice ulk ull ulm] 1 0) :: Lr)) (_ : Els (kInt .u64) S1 w1 ul0 uln) (_ : uln.length = uky) (_ : Rd (kInt .u64) S1 w1 ulh ulj ulo) (_ : ulo.length = uli) (_ : Rd (kInt .u64) S1 w1 ulk ulm ulp) (_ : ulp.length = ull) (junk : Nat → Value),
 Goes Tryz.prog (base 302) Jyq ⟨lfr 73 [(0, yieldV lx0), (1, (pt ulf 0)), (2, (pt ulg 0)), (4, .i x4), (30, .bool x30)] junk, []⟩ w1 (Done Tryz.prog 302 (Rets (Post.z62 nz wz S0 w0 Lr lx0 rx0 u4q uld ule ulf ulg r)))

def L.z66 (lx0 : Nat) (rx0 : Nat) (u4q : Nat → Value) (uld : Nat) (ule : Nat) (ulf : Nat) (ulg : Nat) : Int × (List Int) × (List Int) × (List Int) → ((List Int) × (List Int) × (List Int)) → Prop := fun ⟨x4, uln, ulo, ulp⟩ r => ∀ S1 w1, Ext S0 w0 S1 w1 → ∀ ukx uky ukz ul0 ulh uli ulj ulk ull ulm (_ : Hp nz wz S1 w1 ((some lx0, .obj (lpst 251 (lfr 23 [(5, (pt uld 0)), (7, (pt ule 0)), (12, .func (.func 302) #[] #[(pt ulf 0), (pt ulg 0)])] u4q) #[13, 14] (rfAssign (Qs7)) (rfBody (Qs7)) rx0 .ready none)) :: (some uld, .row 313 [.func (.func 205) #[] #[]] 1 0) :: (some ule, .row 60 [.slice (Gp ukx) uky ukz] 1 0) :: (ukx, .row 22 ul0 (ukz * (kInt .u64).size) 0) :: (some ulf, .row 60 [.slice ulh uli ulj] 1 0) :: (some ulg, .row 60 [.slice ulk ull ulm] 1 0) :: Lr)) (_ : Els (kInt .u64) S1 w1 ul0 uln) (_ : uln.length = uky) (_ : Rd (kInt .u64) S1 w1 ulh ulj ulo) (_ : ulo.length = uli) (_ : Rd (kInt .u64) S1 w1 ulk ulm ulp) (_ : ulp.length = ull) (junk : Nat → Value),
 Goes Tryz.prog (base 302) Jyp ⟨lfr 73 [(0, yieldV lx0), (1, (pt ulf 0)), (2, (pt ulg 0)), (4, .i x4)] junk, []⟩ w1 (Done Tryz.prog 302 (Rets (Post.z62 nz wz S0 w0 Lr lx0 rx0 u4q uld ule ulf ulg r)))

def L.z67 (lx0 : Nat) (rx0 : Nat) (u4q : Nat → Value) (uld : Nat) (ule : Nat) (ulf : Nat) (ulg : Nat) : Int × Bool × (List Int) × (List Int) × (List Int) → ((List Int) × (List Int) × (List Int)) → Prop := fun ⟨x4, x49, uln, ulo, ulp⟩ r => ∀ S1 w1, Ext S0 w0 S1 w1 → ∀ ukx uky ukz ul0 ulh uli ulj ulk ull ulm (_ : Hp nz wz S1 w1 ((some lx0, .obj (lpst 251 (lfr 23 [(5, (pt uld 0)), (7, (pt ule 0)), (12, .func (.func 302) #[] #[(pt ulf 0), (pt ulg 0)])] u4q) #[13, 14] (rfAssign (Qs7)) (rfBody (Qs7)) rx0 .ready none)) :: (some uld, .row 313 [.func (.func 205) #[] #[]] 1 0) :: (some ule, .row 60 [.slice (Gp ukx) uky ukz] 1 0) :: (ukx, .row 22 ul0 (ukz * (kInt .u64).size) 0) :: (some ulf, .row 60 [.slice ulh uli ulj] 1 0) :: (some ulg, .row 60 [.slice ulk ull ulm] 1 0) :: Lr)) (_ : Els (kInt .u64) S1 w1 ul0 uln) (_ : uln.length = uky) (_ : Rd (kInt .u64) S1 w1 ulh ulj ulo) (_ : ulo.length = uli) (_ : Rd (kInt .u64) S1 w1 ulk ulm ulp) (_ : ulp.length = ull) (junk : Nat → Value),
 Goes Tryz.prog (base 302) Jys ⟨lfr 73 [(0, yieldV lx0), (1, (pt ulf 0)), (2, (pt ulg 0)), (4, .i x4), (49, .bool x49)] junk, []⟩ w1 (Done Tryz.prog 302 (Rets (Post.z62 nz wz S0 w0 Lr lx0 rx0 u4q uld ule ulf ulg r)))

def L.z68 (lx0 : Nat) (rx0 : Nat) (u4q : Nat → Value) (uld : Nat) (ule : Nat) (ulf : Nat) (ulg : Nat) : Int × (List Int) × (List Int) × (List Int) → ((List Int) × (List Int) × (List Int)) → Prop := fun ⟨x4, uln, ulo, ulp⟩ r => ∀ S1 w1, Ext S0 w0 S1 w1 → ∀ ukx uky ukz ul0 ulh uli ulj ulk ull ulm (_ : Hp nz wz S1 w1 ((some lx0, .obj (lpst 251 (lfr 23 [(5, (pt uld 0)), (7, (pt ule 0)), (12, .func (.func 302) #[] #[(pt ulf 0), (pt ulg 0)])] u4q) #[13, 14] (rfAssign (Qs7)) (rfBody (Qs7)) rx0 .ready none)) :: (some uld, .row 313 [.func (.func 205) #[] #[]] 1 0) :: (some ule, .row 60 [.slice (Gp ukx) uky ukz] 1 0) :: (ukx, .row 22 ul0 (ukz * (kInt .u64).size) 0) :: (some ulf, .row 60 [.slice ulh uli ulj] 1 0) :: (some ulg, .row 60 [.slice ulk ull ulm] 1 0) :: Lr)) (_ : Els (kInt .u64) S1 w1 ul0 uln) (_ : uln.length = uky) (_ : Rd (kInt .u64) S1 w1 ulh ulj ulo) (_ : ulo.length = uli) (_ : Rd (kInt .u64) S1 w1 ulk ulm ulp) (_ : ulp.length = ull) (junk : Nat → Value),
 Goes Tryz.prog (base 302) Jyr ⟨lfr 73 [(0, yieldV lx0), (1, (pt ulf 0)), (2, (pt ulg 0)), (4, .i x4)] junk, []⟩ w1 (Done Tryz.prog 302 (Rets (Post.z62 nz wz S0 w0 Lr lx0 rx0 u4q uld ule ulf ulg r)))

def L.z69 (lx0 : Nat) (rx0 : Nat) (u4q : Nat → Value) (uld : Nat) (ule : Nat) (ulf : Nat) (ulg : Nat) : Int × Int × (List Int) × (List Int) × (List Int) → ((List Int) × (List Int) × (List Int)) → Prop := fun ⟨x4, x5, uln, ulo, ulp⟩ r => ∀ S1 w1, Ext S0 w0 S1 w1 → ∀ ukx uky ukz ul0 ulh uli ulj ulk ull ulm (_ : Hp nz wz S1 w1 ((some lx0, .obj (lpst 251 (lfr 23 [(5, (pt uld 0)), (7, (pt ule 0)), (12, .func (.func 302) #[] #[(pt ulf 0), (pt ulg 0)])] u4q) #[13, 14] (rfAssign (Qs7)) (rfBody (Qs7)) rx0 .ready none)) :: (some uld, .row 313 [.func (.func 205) #[] #[]] 1 0) :: (some ule, .row 60 [.slice (Gp ukx) uky ukz] 1 0) :: (ukx, .row 22 ul0 (ukz * (kInt .u64).size) 0) :: (some ulf, .row 60 [.slice ulh uli ulj] 1 0) :: (some ulg, .row 60 [.slice ulk ull ulm] 1 0) :: Lr)) (_ : Els (kInt .u64) S1 w1 ul0 uln) (_ : uln.length = uky) (_ : Rd (kInt .u64) S1 w1 ulh ulj ulo) (_ : ulo.length = uli) (_ : Rd (kInt .u64) S1 w1 ulk ulm ulp) (_ : ulp.length = ull) (junk : Nat → Value),
 Goes Tryz.prog (base 302) Jyt ⟨lfr 73 [(0, yieldV lx0), (1, (pt ulf 0)), (2, (pt ulg 0)), (4, .i x4), (5, .u x5)] junk, []⟩ w1 (Done Tryz.prog 302 (Rets (Post.z62 nz wz S0 w0 Lr lx0 rx0 u4q uld ule ulf ulg r)))

def L.z6a (lx0 : Nat) (rx0 : Nat) (u4q : Nat → Value) (uld : Nat) (ule : Nat) (ulf : Nat) (ulg : Nat) : Int × Int × (List Int) × (List Int) × (List Int) → ((List Int) × (List Int) × (List Int)) → Prop := fun ⟨x4, x5, uln, ulo, ulp⟩ r => ∀ S1 w1, Ext S0 w0 S1 w1 → ∀ ukx uky ukz ul0 ulh uli ulj ulk ull ulm (_ : Hp nz wz S1 w1 ((some lx0, .obj (lpst 251 (lfr 23 [(5, (pt uld 0)), (7, (pt ule 0)), (12, .func (.func 302) #[] #[(pt ulf 0), (pt ulg 0)])] u4q) #[13, 14] (rfAssign (Qs7)) (rfBody (Qs7)) rx0 .ready none)) :: (some uld, .row 313 [.func (.func 205) #[] #[]] 1 0) :: (some ule, .row 60 [.slice (Gp ukx) uky ukz] 1 0) :: (ukx, .row 22 ul0 (ukz * (kInt .u64).size) 0) :: (some ulf, .row 60 [.slice ulh uli ulj] 1 0) :: (some ulg, .row 60 [.slice ulk ull ulm] 1 0) :: Lr)) (_ : Els (kInt .u64) S1 w1 ul0 uln) (_ : uln.length = uky) (_ : Rd (kInt .u64) S1 w1 ulh ulj ulo) (_ : ulo.length = uli) (_ : Rd (kInt .u64) S1 w1 ulk ulm ulp) (_ : ulp.length = ull) (junk : Nat → Value),
 Goes Tryz.prog (base 302) Jyu ⟨lfr 73 [(0, yieldV lx0), (1, (pt ulf 0)), (2, (pt ulg 0)), (4, .i x4), (5, .u x5)] junk, []⟩ w1 (Done Tryz.prog 302 (Rets (Post.z62 nz wz S0 w0 Lr lx0 rx0 u4q uld ule ulf ulg r)))

theorem W.z6b {nz wz S0 w0 Lr} (lx0 : Nat) (rx0 : Nat) (u4q : Nat → Value) (uld : Nat) (ule : Nat) (ulf : Nat) (ulg : Nat) : (∀ a r, M.ac a = some r → (L.z63 nz wz S0 w0 Lr lx0 rx0 u4q uld ule ulf ulg) a r) ∧ (∀ a r, M.a16 a = some r → (L.z64 nz wz S0 w0 Lr lx0 rx0 u4q uld ule ulf ulg) a r) ∧ (∀ a r, M.ao a = some r → (L.z65 nz wz S0 w0 Lr lx0 rx0 u4q uld ule ulf ulg) a r) ∧ (∀ a r, M.a17 a = some r → (L.z66 nz wz S0 w0 Lr lx0 rx0 u4q uld ule ulf ulg) a r) ∧ (∀ a r, M.ap a = some r → (L.z67 nz wz S0 w0 Lr lx0 rx0 u4q uld ule ulf ulg) a r) ∧ (∀ a r, M.a18 a = some r → (L.z68 nz wz S0 w0 Lr lx0 rx0 u4q uld ule ulf ulg) a r) ∧ (∀ a r, M.a19 a = some r → (L.z69 nz wz S0 w0 Lr lx0 rx0 u4q uld ule ulf ulg) a r) ∧ (∀ a r, M.a1a a = some r → (L.z6a nz wz S0 w0 Lr lx0 rx0 u4q uld ule ulf ulg) a r) := by
 refine M.ac.mutual_partial_correctness (L.z63 nz wz S0 w0 Lr lx0 rx0 u4q uld ule ulf ulg) (L.z64 nz wz S0 w0 Lr lx0 rx0 u4q uld ule ulf ulg) (L.z65 nz wz S0 w0 Lr lx0 rx0 u4q uld ule ulf ulg) (L.z66 nz wz S0 w0 Lr lx0 rx0 u4q uld ule ulf ulg) (L.z67 nz wz S0 w0 Lr lx0 rx0 u4q uld ule ulf ulg) (L.z68 nz wz S0 w0 Lr lx0 rx0 u4q uld ule ulf ulg) (L.z69 nz wz S0 w0 Lr lx0 rx0 u4q uld ule ulf ulg) (L.z6a nz wz S0 w0 Lr lx0 rx0 u4q uld ule ulf ulg) ?_ ?_ ?_ ?_ ?_ ?_ ?_ ?_
 ·
  intro upr ups ⟨uln, ulo, ulp⟩ r h S1 w1 hx ukx uky ukz ul0 ulh uli ulj ulk ull ulm p1 uls ult ulu ulv ulw ulx junk
  try dsimp only at h
  subst ult
  subst ulv
  subst ulx
  refine Gn 3 [] Jyv ?_
  refine Goes.ld 60 (.tmp 1) 6 60 ⟨ulf, 0, none⟩ (.slice ulh ulo.length ulj) (p1.c 4 0) ?_
  refine Gm 3 [([7], .i (ulo.length : Int)), ([8, 9], .bool (decide ((ulo.length : Int) > 0)))] Jyw ?_
  refine Gi h (fun h8 h => ?_) fun h8 h => ?_
  ·
   rw [dt h8]
   refine Gm 5 [([10, 11, 12], undef), ([13], .bool true)] Jyn ?_
   exact Gj 73 [(0, yieldV lx0), (1, (pt ulf 0)), (2, (pt ulg 0)), (13, .bool true)] (ups _ _ h _ _ hx _ _ _ _ _ _ _ _ _ _ p1 uls rfl ulu rfl ulw rfl)
  ·
   rw [df h8]
   refine Goes.ld 60 (.tmp 2) 10 60 ⟨ulg, 0, none⟩ (.slice ulk ulp.length ulm) (p1.c 5 0) ?_
   refine Gm 4 [([11], .i (ulp.length : Int)), ([12, 13], .bool (decide ((ulp.length : Int) > 0)))] Jyn ?_
   exact Gj 73 [(0, yieldV lx0), (1, (pt ulf 0)), (2, (pt ulg 0)), (13, .bool (decide ((ulp.length : Int) > 0)))] (ups _ _ h _ _ hx _ _ _ _ _ _ _ _ _ _ p1 uls rfl ulu rfl ulw rfl)
 ·
  intro upt upu ⟨x13, uln, ulo, ulp⟩ r h S1 w1 hx ukx uky ukz ul0 ulh uli ulj ulk ull ulm p1 uls ult ulu ulv ulw ulx junk
  try dsimp only at h
  subst ult
  subst ulv
  subst ulx
  refine Gi h (fun h10 h => ?_) fun h10 h => ?_
  ·
   rw [h10]
   refine Gn 9 [(4, .i 0)] Jyx ?_
   have z2 : Ext S1 w1 S1 (w1).drew := Ext.draw
   have p2 := p1.draw
   refine Gd [] (Fc S1 (w1).drew [(⟨ulg, 0, none⟩, .slice ulk ulp.length ulm), (⟨ulf, 0, none⟩, .slice ulh ulo.length ulj)]) 2 17 ?_
   generalize (w1).drew = w2 at z2 p2 ⊢
   refine Al 0 60 (.tmp 2) 14 60 ⟨ulg, 0, none⟩ (.slice ulk ulp.length ulm) (Fc.here (p2.cs [(5, 0, 1), (4, 0, 1)])) (fun _ h => h.2.at_ 0 rfl) ?_
   refine AnyG.pu 1 (.call { callee := .builtin .len, args := #[(.tmp 14)], argTypes := #[60] }) 15 3 (.i (ulp.length : Int)) (Fc.here (p2.cs [(5, 0, 1), (4, 0, 1)])) ?_
   refine AnyG.pu 2 (.binOp .eql 3 (.tmp 15) (.const (.int .i64 0)) 3) 16 4 (.bool (decide ((ulp.length : Int) = 0))) (Fc.here (p2.cs [(5, 0, 1), (4, 0, 1)])) ?_
   refine AnyG.pu 3 (.move (.tmp 16)) 17 4 (.bool (decide ((ulp.length : Int) = 0))) (Fc.here (p2.cs [(5, 0, 1), (4, 0, 1)])) ?_
   refine Gi h (fun h11 h => ?_) fun h11 h => ?_
   ·
    rw [dt h11]
    refine AnyG.s1 4 18 (Fc.here (p2.cs [(5, 0, 1), (4, 0, 1)])) ?_
    refine AnyG.s1 5 19 (Fc.here (p2.cs [(5, 0, 1), (4, 0, 1)])) ?_
    refine AnyG.s1 6 20 (Fc.here (p2.cs [(5, 0, 1), (4, 0, 1)])) ?_
    refine AnyG.s1 7 21 (Fc.here (p2.cs [(5, 0, 1), (4, 0, 1)])) ?_
    refine AnyG.s1 8 22 (Fc.here (p2.cs [(5, 0, 1), (4, 0, 1)])) ?_
    refine AnyG.s1 9 23 (Fc.here (p2.cs [(5, 0, 1), (4, 0, 1)])) ?_
    refine AnyG.s1 10 24 (Fc.here (p2.cs [(5, 0, 1), (4, 0, 1)])) ?_
    refine AnyG.s1 11 25 (Fc.here (p2.cs [(5, 0, 1), (4, 0, 1)])) ?_
    refine AnyG.s1 12 26 (Fc.here (p2.cs [(5, 0, 1), (4, 0, 1)])) ?_
    refine AnyG.s1 13 27 (Fc.here (p2.cs [(5, 0, 1), (4, 0, 1)])) ?_
    refine AnyG.s1 14 28 (Fc.here (p2.cs [(5, 0, 1), (4, 0, 1)])) ?_
    refine AnyG.s1 15 29 (Fc.here (p2.cs [(5, 0, 1), (4, 0, 1)])) ?_
    refine AnyG.pu 16 (.pick (.tmp 17) (.const (.bool true)) (.tmp 29)) 30 4 (.bool true) (Fc.here (p2.cs [(5, 0, 1), (4, 0, 1)])) ?_
    refine Ad ?_
    exact Gj 73 [(0, yieldV lx0), (1, (pt ulf 0)), (2, (pt ulg 0)), (4, .i 0), (30, .bool true)] (upu _ _ h _ _ (hx.t z2) _ _ _ _ _ _ _ _ _ _ p2 (uls.ext z2) rfl (ulu.ext z2) rfl (ulw.ext z2) rfl)
   ·
    rw [df h11]
    refine Al 4 60 (.tmp 1) 18 60 ⟨ulf, 0, none⟩ (.slice ulh ulo.length ulj) (Fc.here (p2.cs [(5, 0, 1), (4, 0, 1)])) (fun _ h => h.2.at_ 1 rfl) ?_
    refine AnyG.pu 5 (.call { callee := .builtin .len, args := #[(.tmp 18)], argTypes := #[60] }) 19 3 (.i (ulo.length : Int)) (Fc.here (p2.cs [(5, 0, 1), (4, 0, 1)])) ?_
    refine AnyG.pu 6 (.binOp .gtr 3 (.tmp 19) (.const (.int .i64 0)) 3) 20 4 (.bool (decide ((ulo.length : Int) > 0))) (Fc.here (p2.cs [(5, 0, 1), (4, 0, 1)])) ?_
    refine AnyG.pu 7 (.move (.tmp 20)) 21 4 (.bool (decide ((ulo.length : Int) > 0))) (Fc.here (p2.cs [(5, 0, 1), (4, 0, 1)])) ?_
    refine Gi h (fun h13 h => ?_) fun h13 h => ?_
    ·
     rw [dt h13]
     refine Al 8 60 (.tmp 1) 22 60 ⟨ulf, 0, none⟩ (.slice ulh ulo.length ulj) (Fc.here (p2.cs [(5, 0, 1), (4, 0, 1)])) (fun _ h => h.2.at_ 1 rfl) ?_
     refine Gg h fun g14 h => ?_
     refine AnyG.ixR_n (i := 9) 60 (.tmp 22) (.const (.int .i64 0)) 23 0 22 .i64 0 (gi ulo 0) rfl rfl (ulu.ext z2) (by kernel_rfl) (by kernel_rfl) (Fc.here (p2.cs [(5, 0, 1), (4, 0, 1)])) (by kernel_rfl) (by kernel_rfl) (by kernel_rfl) (by kernel_rfl) (by decide : (0 : Int) ≤ 0) g14 fun a15 _ f16 q17 => ?_
     obtain rfl := q17
     refine Al 10 22 (.tmp 23) 24 22 a15 (.u (gi ulo 0)) (Fc.here (p2.cs [(5, 0, 1), (4, 0, 1)])) (fun _ h => f16.fc h 0 _ rfl) ?_
     refine Al 11 60 (.tmp 2) 25 60 ⟨ulg, 0, none⟩ (.slice ulk ulp.length ulm) (Fc.here (p2.cs [(5, 0, 1), (4, 0, 1)])) (fun _ h => h.2.at_ 0 rfl) ?_
     refine Gg h fun g18 h => ?_
     refine AnyG.ixR_n (i := 12) 60 (.tmp 25) (.const (.int .i64 0)) 26 0 22 .i64 0 (gi ulp 0) rfl rfl (ulw.ext z2) (by kernel_rfl) (by kernel_rfl) (Fc.here (p2.cs [(5, 0, 1), (4, 0, 1)])) (by kernel_rfl) (by kernel_rfl) (by kernel_rfl) (by kernel_rfl) (by decide : (0 : Int) ≤ 0) g18 fun a19 _ f20 q21 => ?_
     obtain rfl := q21
     refine Al 13 22 (.tmp 26) 27 22 a19 (.u (gi ulp 0)) (Fc.here (p2.cs [(5, 0, 1), (4, 0, 1)])) (fun _ h => f20.fc h 0 _ rfl) ?_
     refine AnyG.pu 14 (.binOp .leq 22 (.tmp 24) (.tmp 27) 22) 28 4 (.bool (decide (gi ulo 0 ≤ gi ulp 0))) (Fc.here (p2.cs [(5, 0, 1), (4, 0, 1)])) ?_
     refine AnyG.pu 15 (.pick (.tmp 21) (.tmp 28) (.const (.bool false))) 29 4 (.bool (decide (gi ulo 0 ≤ gi ulp 0))) (Fc.here (p2.cs [(5, 0, 1), (4, 0, 1)])) ?_
     refine AnyG.pu 16 (.pick (.tmp 17) (.const (.bool true)) (.tmp 29)) 30 4 (.bool (decide (gi ulo 0 ≤ gi ulp 0))) (Fc.here (p2.cs [(5, 0, 1), (4, 0, 1)])) ?_
     refine Ad ?_
     exact Gj 73 [(0, yieldV lx0), (1, (pt ulf 0)), (2, (pt ulg 0)), (4, .i 0), (30, .bool (decide (gi ulo 0 ≤ gi ulp 0)))] (upu _ _ h _ _ (hx.t z2) _ _ _ _ _ _ _ _ _ _ p2 (uls.ext z2) rfl (ulu.ext z2) rfl (ulw.ext z2) rfl)
    ·
     rw [df h13]
     refine AnyG.s1 8 22 (Fc.here (p2.cs [(5, 0, 1), (4, 0, 1)])) ?_
     refine AnyG.s1 9 23 (Fc.here (p2.cs [(5, 0, 1), (4, 0, 1)])) ?_
     refine AnyG.s1 10 24 (Fc.here (p2.cs [(5, 0, 1), (4, 0, 1)])) ?_
     refine AnyG.s1 11 25 (Fc.here (p2.cs [(5, 0, 1), (4, 0, 1)])) ?_
     refine AnyG.s1 12 26 (Fc.here (p2.cs [(5, 0, 1), (4, 0, 1)])) ?_
     refine AnyG.s1 13 27 (Fc.here (p2.cs [(5, 0, 1), (4, 0, 1)])) ?_
     refine AnyG.s1 14 28 (Fc.here (p2.cs [(5, 0, 1), (4, 0, 1)])) ?_
     refine AnyG.pu 15 (.pick (.tmp 21) (.tmp 28) (.const (.bool false))) 29 4 (.bool false) (Fc.here (p2.cs [(5, 0, 1), (4, 0, 1)])) ?_
     refine AnyG.pu 16 (.pick (.tmp 17) (.const (.bool true)) (.tmp 29)) 30 4 (.bool false) (Fc.here (p2.cs [(5, 0, 1), (4, 0, 1)])) ?_
     refine Ad ?_
     exact Gj 73 [(0, yieldV lx0), (1, (pt ulf 0)), (2, (pt ulg 0)), (4, .i 0), (30, .bool false)] (upu _ _ h _ _ (hx.t z2) _ _ _ _ _ _ _ _ _ _ p2 (uls.ext z2) rfl (ulu.ext z2) rfl (ulw.ext z2) rfl)
  ·
   rw [bf h10]
   refine Gn 2 [] [] ?_
   obtain rfl := sj h
   exact Goes.end_ (fn := Tryz.f302) (by kernel_rfl) (v := .tuple #[]) (by kernel_rfl) ⟨S1, ukx, uln.length, ukz, ul0, ulh, ulo.length, ulj, ulk, ulp.length, ulm, rfl, hx, p1, uls, rfl, ulu, rfl, ulw, rfl⟩
 ·
  intro upv upw ⟨x4, x30, uln, ulo, ulp⟩ r h S1 w1 hx ukx uky ukz ul0 ulh uli ulj ulk ull ulm p1 uls ult ulu ulv ulw ulx junk
  try dsimp only at h
  subst ult
  subst ulv
  subst ulx
  refine Gi h (fun h22 h => ?_) fun h22 h => ?_
  ·
   rw [h22]
   refine Gm 6 [([31], .i x4), ([32, 4], .i (ior .i64 x4 1))] Jyp ?_
   exact Gj 73 [(0, yieldV lx0), (1, (pt ulf 0)), (2, (pt ulg 0)), (4, .i (ior .i64 x4 1))] (upw _ _ h _ _ hx _ _ _ _ _ _ _ _ _ _ p1 uls rfl ulu rfl ulw rfl)
  ·
   rw [bf h22]
   refine Gn 2 [] Jyp ?_
   exact Gj 73 [(0, yieldV lx0), (1, (pt ulf 0)), (2, (pt ulg 0)), (4, .i x4)] (upw _ _ h _ _ hx _ _ _ _ _ _ _ _ _ _ p1 uls rfl ulu rfl ulw rfl)
 ·
  intro upx upy ⟨x4, uln, ulo, ulp⟩ r h S1 w1 hx ukx uky ukz ul0 ulh uli ulj ulk ull ulm p1 uls ult ulu ulv ulw ulx junk
  try dsimp only at h
  subst ult
  subst ulv
  subst ulx
  refine Gn 2 [] Jyy ?_
  have z3 : Ext S1 w1 S1 (w1).drew := Ext.draw
  have p3 := p1.draw
  refine Gd [] (Fc S1 (w1).drew [(⟨ulf, 0, none⟩, .slice ulh ulo.length ulj), (⟨ulg, 0, none⟩, .slice ulk ulp.length ulm)]) 4 17 ?_
  generalize (w1).drew = w3 at z3 p3 ⊢
  refine Al 0 60 (.tmp 1) 33 60 ⟨ulf, 0, none⟩ (.slice ulh ulo.length ulj) (Fc.here (p3.cs [(4, 0, 1), (5, 0, 1)])) (fun _ h => h.2.at_ 0 rfl) ?_
  refine AnyG.pu 1 (.call { callee := .builtin .len, args := #[(.tmp 33)], argTypes := #[60] }) 34 3 (.i (ulo.length : Int)) (Fc.here (p3.cs [(4, 0, 1), (5, 0, 1)])) ?_
  refine AnyG.pu 2 (.binOp .eql 3 (.tmp 34) (.const (.int .i64 0)) 3) 35 4 (.bool (decide ((ulo.length : Int) = 0))) (Fc.here (p3.cs [(4, 0, 1), (5, 0, 1)])) ?_
  refine AnyG.pu 3 (.move (.tmp 35)) 36 4 (.bool (decide ((ulo.length : Int) = 0))) (Fc.here (p3.cs [(4, 0, 1), (5, 0, 1)])) ?_
  refine Gi h (fun h24 h => ?_) fun h24 h => ?_
  ·
   rw [dt h24]
   refine AnyG.s1 4 37 (Fc.here (p3.cs [(4, 0, 1), (5, 0, 1)])) ?_
   refine AnyG.s1 5 38 (Fc.here (p3.cs [(4, 0, 1), (5, 0, 1)])) ?_
   refine AnyG.s1 6 39 (Fc.here (p3.cs [(4, 0, 1), (5, 0, 1)])) ?_
   refine AnyG.s1 7 40 (Fc.here (p3.cs [(4, 0, 1), (5, 0, 1)])) ?_
   refine AnyG.s1 8 41 (Fc.here (p3.cs [(4, 0, 1), (5, 0, 1)])) ?_
   refine AnyG.s1 9 42 (Fc.here (p3.cs [(4, 0, 1), (5, 0, 1)])) ?_
   refine AnyG.s1 10 43 (Fc.here (p3.cs [(4, 0, 1), (5, 0, 1)])) ?_
   refine AnyG.s1 11 44 (Fc.here (p3.cs [(4, 0, 1), (5, 0, 1)])) ?_
   refine AnyG.s1 12 45 (Fc.here (p3.cs [(4, 0, 1), (5, 0, 1)])) ?_
   refine AnyG.s1 13 46 (Fc.here (p3.cs [(4, 0, 1), (5, 0, 1)])) ?_
   refine AnyG.s1 14 47 (Fc.here (p3.cs [(4, 0, 1), (5, 0, 1)])) ?_
   refine AnyG.s1 15 48 (Fc.here (p3.cs [(4, 0, 1), (5, 0, 1)])) ?_
   refine AnyG.pu 16 (.pick (.tmp 36) (.const (.bool true)) (.tmp 48)) 49 4 (.bool true) (Fc.here (p3.cs [(4, 0, 1), (5, 0, 1)])) ?_
   refine Ad ?_
   exact Gj 73 [(0, yieldV lx0), (1, (pt ulf 0)), (2, (pt ulg 0)), (4, .i x4), (49, .bool true)] (upy _ _ h _ _ (hx.t z3) _ _ _ _ _ _ _ _ _ _ p3 (uls.ext z3) rfl (ulu.ext z3) rfl (ulw.ext z3) rfl)
  ·
   rw [df h24]
   refine Al 4 60 (.tmp 2) 37 60 ⟨ulg, 0, none⟩ (.slice ulk ulp.length ulm) (Fc.here (p3.cs [(4, 0, 1), (5, 0, 1)])) (fun _ h => h.2.at_ 1 rfl) ?_
   refine AnyG.pu 5 (.call { callee := .builtin .len, args := #[(.tmp 37)], argTypes := #[60] }) 38 3 (.i (ulp.length : Int)) (Fc.here (p3.cs [(4, 0, 1), (5, 0, 1)])) ?_
   refine AnyG.pu 6 (.binOp .gtr 3 (.tmp 38) (.const (.int .i64 0)) 3) 39 4 (.bool (decide ((ulp.length : Int) > 0))) (Fc.here (p3.cs [(4, 0, 1), (5, 0, 1)])) ?_
   refine AnyG.pu 7 (.move (.tmp 39)) 40 4 (.bool (decide ((ulp.length : Int) > 0))) (Fc.here (p3.cs [(4, 0, 1), (5, 0, 1)])) ?_
   refine Gi h (fun h26 h => ?_) fun h26 h => ?_
   ·
    rw [dt h26]
    refine Al 8 60 (.tmp 2) 41 60 ⟨ulg, 0, none⟩ (.slice ulk ulp.length ulm) (Fc.here (p3.cs [(4, 0, 1), (5, 0, 1)])) (fun _ h => h.2.at_ 1 rfl) ?_
    refine Gg h fun g27 h => ?_
    refine AnyG.ixR_n (i := 9) 60 (.tmp 41) (.const (.int .i64 0)) 42 0 22 .i64 0 (gi ulp 0) rfl rfl (ulw.ext z3) (by kernel_rfl) (by kernel_rfl) (Fc.here (p3.cs [(4, 0, 1), (5, 0, 1)])) (by kernel_rfl) (by kernel_rfl) (by kernel_rfl) (by kernel_rfl) (by decide : (0 : Int) ≤ 0) g27 fun a28 _ f29 q30 => ?_
    obtain rfl := q30
    refine Al 10 22 (.tmp 42) 43 22 a28 (.u (gi ulp 0)) (Fc.here (p3.cs [(4, 0, 1), (5, 0, 1)])) (fun _ h => f29.fc h 0 _ rfl) ?_
    refine Al 11 60 (.tmp 1) 44 60 ⟨ulf, 0, none⟩ (.slice ulh ulo.length ulj) (Fc.here (p3.cs [(4, 0, 1), (5, 0, 1)])) (fun _ h => h.2.at_ 0 rfl) ?_
    refine Gg h fun g31 h => ?_
    refine AnyG.ixR_n (i := 12) 60 (.tmp 44) (.const (.int .i64 0)) 45 0 22 .i64 0 (gi ulo 0) rfl rfl (ulu.ext z3) (by kernel_rfl) (by kernel_rfl) (Fc.here (p3.cs [(4, 0, 1), (5, 0, 1)])) (by kernel_rfl) (by kernel_rfl) (by kernel_rfl) (by kernel_rfl) (by decide : (0 : Int) ≤ 0) g31 fun a32 _ f33 q34 => ?_
    obtain rfl := q34
    refine Al 13 22 (.tmp 45) 46 22 a32 (.u (gi ulo 0)) (Fc.here (p3.cs [(4, 0, 1), (5, 0, 1)])) (fun _ h => f33.fc h 0 _ rfl) ?_
    refine AnyG.pu 14 (.binOp .leq 22 (.tmp 43) (.tmp 46) 22) 47 4 (.bool (decide (gi ulp 0 ≤ gi ulo 0))) (Fc.here (p3.cs [(4, 0, 1), (5, 0, 1)])) ?_
    refine AnyG.pu 15 (.pick (.tmp 40) (.tmp 47) (.const (.bool false))) 48 4 (.bool (decide (gi ulp 0 ≤ gi ulo 0))) (Fc.here (p3.cs [(4, 0, 1), (5, 0, 1)])) ?_
    refine AnyG.pu 16 (.pick (.tmp 36) (.const (.bool true)) (.tmp 48)) 49 4 (.bool (decide (gi ulp 0 ≤ gi ulo 0))) (Fc.here (p3.cs [(4, 0, 1), (5, 0, 1)])) ?_
    refine Ad ?_
    exact Gj 73 [(0, yieldV lx0), (1, (pt ulf 0)), (2, (pt ulg 0)), (4, .i x4), (49, .bool (decide (gi ulp 0 ≤ gi ulo 0)))] (upy _ _ h _ _ (hx.t z3) _ _ _ _ _ _ _ _ _ _ p3 (uls.ext z3) rfl (ulu.ext z3) rfl (ulw.ext z3) rfl)
   ·
    rw [df h26]
    refine AnyG.s1 8 41 (Fc.here (p3.cs [(4, 0, 1), (5, 0, 1)])) ?_
    refine AnyG.s1 9 42 (Fc.here (p3.cs [(4, 0, 1), (5, 0, 1)])) ?_
    refine AnyG.s1 10 43 (Fc.here (p3.cs [(4, 0, 1), (5, 0, 1)])) ?_
    refine AnyG.s1 11 44 (Fc.here (p3.cs [(4, 0, 1), (5, 0, 1)])) ?_
    refine AnyG.s1 12 45 (Fc.here (p3.cs [(4, 0, 1), (5, 0, 1)])) ?_
    refine AnyG.s1 13 46 (Fc.here (p3.cs [(4, 0, 1), (5, 0, 1)])) ?_
    refine AnyG.s1 14 47 (Fc.here (p3.cs [(4, 0, 1), (5, 0, 1)])) ?_
    refine AnyG.pu 15 (.pick (.tmp 40) (.tmp 47) (.const (.bool false))) 48 4 (.bool false) (Fc.here (p3.cs [(4, 0, 1), (5, 0, 1)])) ?_
    refine AnyG.pu 16 (.pick (.tmp 36) (.const (.bool true)) (.tmp 48)) 49 4 (.bool false) (Fc.here (p3.cs [(4, 0, 1), (5, 0, 1)])) ?_
    refine Ad ?_
    exact Gj 73 [(0, yieldV lx0), (1, (pt ulf 0)), (2, (pt ulg 0)), (4, .i x4), (49, .bool false)] (upy _ _ h _ _ (hx.t z3) _ _ _ _ _ _ _ _ _ _ p3 (uls.ext z3) rfl (ulu.ext z3) rfl (ulw.ext z3) rfl)
 ·
  intro upz uq0 ⟨x4, x49, uln, ulo, ulp⟩ r h S1 w1 hx ukx uky ukz ul0 ulh uli ulj ulk ull ulm p1 uls ult ulu ulv ulw ulx junk
  try dsimp only at h
  subst ult
  subst ulv
  subst ulx
  refine Gi h (fun h35 h => ?_) fun h35 h => ?_
  ·
   rw [h35]
   refine Gm 6 [([50], .i x4), ([51, 4], .i (ior .i64 x4 2))] Jyr ?_
   exact Gj 73 [(0, yieldV lx0), (1, (pt ulf 0)), (2, (pt ulg 0)), (4, .i (ior .i64 x4 2))] (uq0 _ _ h _ _ hx _ _ _ _ _ _ _ _ _ _ p1 uls rfl ulu rfl ulw rfl)
  ·
   rw [bf h35]
   refine Gn 2 [] Jyr ?_
   exact Gj 73 [(0, yieldV lx0), (1, (pt ulf 0)), (2, (pt ulg 0)), (4, .i x4)] (uq0 _ _ h _ _ hx _ _ _ _ _ _ _ _ _ _ p1 uls rfl ulu rfl ulw rfl)
 ·
  intro uq1 uq2 ⟨x4, uln, ulo, ulp⟩ r h S1 w1 hx ukx uky ukz ul0 ulh uli ulj ulk ull ulm p1 uls ult ulu ulv ulw ulx junk
  try dsimp only at h
  subst ult
  subst ulv
  subst ulx
  refine Gn 11 [(5, .u 0), (52, .i x4), (53, .i (iand .i64 x4 2)), (54, .bool (!(decide (iand .i64 x4 2 = 0))))] Jyz ?_
  refine Gi h (fun h37 h => ?_) fun h37 h => ?_
  ·
   rw [dt h37]
   refine Gn 2 [] Jyt ?_
   exact Gj 73 [(0, yieldV lx0), (1, (pt ulf 0)), (2, (pt ulg 0)), (4, .i x4), (5, .u 0)] (uq2 _ _ h _ _ hx _ _ _ _ _ _ _ _ _ _ p1 uls rfl ulu rfl ulw rfl)
  ·
   rw [df h37]
   refine Gn 1 [] Jz0 ?_
   have z4 : Ext S1 w1 S1 (w1).drew := Ext.draw
   have p4 := p1.draw
   refine Gd [6] (Fc S1 (w1).drew [(⟨ulg, 0, none⟩, .slice ulk ulp.length ulm)]) 8 7 ?_
   generalize (w1).drew = w4 at z4 p4 ⊢
   refine Al 0 60 (.tmp 2) 55 60 ⟨ulg, 0, none⟩ (.slice ulk ulp.length ulm) (Fc.here (p4.cs [(5, 0, 1)])) (fun _ h => h.2.at_ 0 rfl) ?_
   refine Gg h fun g39 h => ?_
   refine AnyG.ixR_n (i := 1) 60 (.tmp 55) (.const (.int .i64 0)) 56 0 22 .i64 0 (gi ulp 0) rfl rfl (ulw.ext z4) (by kernel_rfl) (by kernel_rfl) (Fc.here (p4.cs [(5, 0, 1)])) (by kernel_rfl) (by kernel_rfl) (by kernel_rfl) (by kernel_rfl) (by decide : (0 : Int) ≤ 0) g39 fun a40 _ f41 q42 => ?_
   obtain rfl := q42
   refine Al 2 22 (.tmp 56) 57 22 a40 (.u (gi ulp 0)) (Fc.here (p4.cs [(5, 0, 1)])) (fun _ h => f41.fc h 0 _ rfl) ?_
   refine Al 3 60 (.tmp 2) 58 60 ⟨ulg, 0, none⟩ (.slice ulk ulp.length ulm) (Fc.here (p4.cs [(5, 0, 1)])) (fun _ h => h.2.at_ 0 rfl) ?_
   refine Gg h fun g43 h => ?_
   refine AnyG.slR_n (i := 4) 60 (.tmp 58) (some (.const (.int .i64 1))) none 59 60 22 1 (ulp.length : Int) (sl ulp 1 (ulp.length : Int)) rfl rfl (ulw.ext z4) (by kernel_rfl) (by kernel_rfl) (Fc.here (p4.cs [(5, 0, 1)])) (by kernel_rfl) (by kernel_rfl) (by kernel_rfl) (Bnd.at_ .i64 (by kernel_rfl)) Bnd.no (by decide : (0 : Int) ≤ 1) g43 (Int.le_refl _) fun A44 c45 f46 => ?_
   refine AnyG.pu 5 (.assign (.tmp 57)) 5 22 (.u (gi ulp 0)) (Fc.here (p4.cs [(5, 0, 1)])) ?_
   refine So 60 (.tmp 2) (.tmp 59) 0 5 ulg 0 (.slice A44 ((sl ulp 1 (ulp.length : Int)).length) c45) [.slice A44 ((sl ulp 1 (ulp.length : Int)).length) c45] p4 rfl (As 6) fun w5 z5 p5 => ?_
   refine AnyG.last [] (Fc S1 w5 []) (by decide) ?_
   refine Ad ?_
   exact Gj 73 [(0, yieldV lx0), (1, (pt ulf 0)), (2, (pt ulg 0)), (4, .i x4), (5, .u (gi ulp 0))] (uq2 _ _ h _ _ ((hx.t z4).t z5) _ _ _ _ _ _ _ _ _ _ p5 (uls.ext (z4.t z5)) rfl (ulu.ext (z4.t z5)) rfl (f46.ext z5) rfl)
 ·
  intro uq3 uq4 ⟨x4, x5, uln, ulo, ulp⟩ r h S1 w1 hx ukx uky ukz ul0 ulh uli ulj ulk ull ulm p1 uls ult ulu ulv ulw ulx junk
  try dsimp only at h
  subst ult
  subst ulv
  subst ulx
  refine Gn 7 [(60, .i x4), (61, .i (iand .i64 x4 1)), (62, .bool (!(decide (iand .i64 x4 1 = 0))))] Jz1 ?_
  refine Gi h (fun h47 h => ?_) fun h47 h => ?_
  ·
   rw [dt h47]
   refine Gn 2 [] Jyu ?_
   exact Gj 73 [(0, yieldV lx0), (1, (pt ulf 0)), (2, (pt ulg 0)), (4, .i x4), (5, .u x5)] (uq4 _ _ h _ _ hx _ _ _ _ _ _ _ _ _ _ p1 uls rfl ulu rfl ulw rfl)
  ·
   rw [df h47]
   refine Gn 1 [] Jz2 ?_
   have z6 : Ext S1 w1 S1 (w1).drew := Ext.draw
   have p6 := p1.draw
   refine Gd [6] (Fc S1 (w1).drew [(⟨ulf, 0, none⟩, .slice ulh ulo.length ulj)]) 10 7 ?_
   generalize (w1).drew = w6 at z6 p6 ⊢
   refine Al 0 60 (.tmp 1) 63 60 ⟨ulf, 0, none⟩ (.slice ulh ulo.length ulj) (Fc.here (p6.cs [(4, 0, 1)])) (fun _ h => h.2.at_ 0 rfl) ?_
   refine Gg h fun g49 h => ?_
   refine AnyG.ixR_n (i := 1) 60 (.tmp 63) (.const (.int .i64 0)) 64 0 22 .i64 0 (gi ulo 0) rfl rfl (ulu.ext z6) (by kernel_rfl) (by kernel_rfl) (Fc.here (p6.cs [(4, 0, 1)])) (by kernel_rfl) (by kernel_rfl) (by kernel_rfl) (by kernel_rfl) (by decide : (0 : Int) ≤ 0) g49 fun a50 _ f51 q52 => ?_
   obtain rfl := q52
   refine Al 2 22 (.tmp 64) 65 22 a50 (.u (gi ulo 0)) (Fc.here (p6.cs [(4, 0, 1)])) (fun _ h => f51.fc h 0 _ rfl) ?_
   refine Al 3 60 (.tmp 1) 66 60 ⟨ulf, 0, none⟩ (.slice ulh ulo.length ulj) (Fc.here (p6.cs [(4, 0, 1)])) (fun _ h => h.2.at_ 0 rfl) ?_
   refine Gg h fun g53 h => ?_
   refine AnyG.slR_n (i := 4) 60 (.tmp 66) (some (.const (.int .i64 1))) none 67 60 22 1 (ulo.length : Int) (sl ulo 1 (ulo.length : Int)) rfl rfl (ulu.ext z6) (by kernel_rfl) (by kernel_rfl) (Fc.here (p6.cs [(4, 0, 1)])) (by kernel_rfl) (by kernel_rfl) (by kernel_rfl) (Bnd.at_ .i64 (by kernel_rfl)) Bnd.no (by decide : (0 : Int) ≤ 1) g53 (Int.le_refl _) fun A54 c55 f56 => ?_
   refine AnyG.pu 5 (.assign (.tmp 65)) 5 22 (.u (gi ulo 0)) (Fc.here (p6.cs [(4, 0, 1)])) ?_
   refine So 60 (.tmp 1) (.tmp 67) 0 4 ulf 0 (.slice A54 ((sl ulo 1 (ulo.length : Int)).length) c55) [.slice A54 ((sl ulo 1 (ulo.length : Int)).length) c55] p6 rfl (As 6) fun w7 z7 p7 => ?_
   refine AnyG.last [] (Fc S1 w7 []) (by decide) ?_
   refine Ad ?_
   exact Gj 73 [(0, yieldV lx0), (1, (pt ulf 0)), (2, (pt ulg 0)), (4, .i x4), (5, .u (gi ulo 0))] (uq4 _ _ h _ _ ((hx.t z6).t z7) _ _ _ _ _ _ _ _ _ _ p7 (uls.ext (z6.t z7)) rfl (f56.ext z7) rfl (ulw.ext (z6.t z7)) rfl)
 ·
  intro uq5 uq6 ⟨x4, x5, uln, ulo, ulp⟩ r h S1 w1 hx ukx uky ukz ul0 ulh uli ulj ulk ull ulm p1 uls ult ulu ulv ulw ulx junk
  try dsimp only at h
  subst ult
  subst ulv
  subst ulx
  refine Gn 5 [(68, yieldV lx0), (69, .u x5), (70, .i x4)] Jz4 ?_
  refine Gb h fun y57 e58 h => ?_
  refine Goes.yieldAt (.call { callee := .value (.tmp 68), args := #[(.tmp 69), (.tmp 70)], argTypes := #[22, 3] }) 71 4 0 lx0 #[.u x5, .i x4] p1 rfl (by kernel_rfl) rfl (fun _ => by kernel_rfl) rfl (W.z61 uln ulo ulp x5 x4 y57 e58 _ _ _ _ _ _ _ _ _ _ _ _ _ _ _ _ _ p1 uls rfl ulu rfl ulw rfl) ?_
  rintro _ w8 ⟨S8, ume, umf, umg, umh, rfl, z8, p8, umi, rfl⟩
  refine Gn 6 [(72, .bool (!true))] Jyl ?_
  exact Gj 73 [(0, yieldV lx0), (1, (pt ulf 0)), (2, (pt ulg 0))] (uq6 _ _ h _ _ (hx.t z8) _ _ _ _ _ _ _ _ _ _ p8 umi rfl (ulu.ext z8) rfl (ulw.ext z8) rfl)

theorem W.z63 {nz wz S0 w0 Lr} (lx0 : Nat) (rx0 : Nat) (u4q : Nat → Value) (uld : Nat) (ule : Nat) (ulf : Nat) (ulg : Nat) : ∀ a r, M.ac a = some r → (L.z63 nz wz S0 w0 Lr lx0 rx0 u4q uld ule ulf ulg) a r := (W.z6b lx0 rx0 u4q uld ule ulf ulg).1

theorem W.z64 {nz wz S0 w0 Lr} (lx0 : Nat) (rx0 : Nat) (u4q : Nat → Value) (uld : Nat) (ule : Nat) (ulf : Nat) (ulg : Nat) : ∀ a r, M.a16 a = some r → (L.z64 nz wz S0 w0 Lr lx0 rx0 u4q uld ule ulf ulg) a r := (W.z6b lx0 rx0 u4q uld ule ulf ulg).2.1

theorem W.z65 {nz wz S0 w0 Lr} (lx0 : Nat) (rx0 : Nat) (u4q : Nat → Value) (uld : Nat) (ule : Nat) (ulf : Nat) (ulg : Nat) : ∀ a r, M.ao a = some r → (L.z65 nz wz S0 w0 Lr lx0 rx0 u4q uld ule ulf ulg) a r := (W.z6b lx0 rx0 u4q uld ule ulf ulg).2.2.1

theorem W.z66 {nz wz S0 w0 Lr} (lx0 : Nat) (rx0 : Nat) (u4q : Nat → Value) (uld : Nat) (ule : Nat) (ulf : Nat) (ulg : Nat) : ∀ a r, M.a17 a = some r → (L.z66 nz wz S0 w0 Lr lx0 rx0 u4q uld ule ulf ulg) a r := (W.z6b lx0 rx0 u4q uld ule ulf ulg).2.2.2.1

theorem W.z67 {nz wz S0 w0 Lr} (lx0 : Nat) (rx0 : Nat) (u4q : Nat → Value) (uld : Nat) (ule : Nat) (ulf : Nat) (ulg : Nat) : ∀ a r, M.ap a = some r → (L.z67 nz wz S0 w0 Lr lx0 rx0 u4q uld ule ulf ulg) a r := (W.z6b lx0 rx0 u4q uld ule ulf ulg).2.2.2.2.1

theorem W.z68 {nz wz S0 w0 Lr} (lx0 : Nat) (rx0 : Nat) (u4q : Nat → Value) (uld : Nat) (ule : Nat) (ulf : Nat) (ulg : Nat) : ∀ a r, M.a18 a = some r → (L.z68 nz wz S0 w0 Lr lx0 rx0 u4q uld ule ulf ulg) a r := (W.z6b lx0 rx0 u4q uld ule ulf ulg).2.2.2.2.2.1

theorem W.z69 {nz wz S0 w0 Lr} (lx0 : Nat) (rx0 : Nat) (u4q : Nat → Value) (uld : Nat) (ule : Nat) (ulf : Nat) (ulg : Nat) : ∀ a r, M.a19 a = some r → (L.z69 nz wz S0 w0 Lr lx0 rx0 u4q uld ule ulf ulg) a r := (W.z6b lx0 rx0 u4q uld ule ulf ulg).2.2.2.2.2.2.1

theorem W.z6a {nz wz S0 w0 Lr} (lx0 : Nat) (rx0 : Nat) (u4q : Nat → Value) (uld : Nat) (ule : Nat) (ulf : Nat) (ulg : Nat) : ∀ a r, M.a1a a = some r → (L.z6a nz wz S0 w0 Lr lx0 rx0 u4q uld ule ulf ulg) a r := (W.z6b lx0 rx0 u4q uld ule ulf ulg).2.2.2.2.2.2.2

theorem W.z62 (umj : List Int) (umk : List Int) (uml : List Int) (r : (List Int) × (List Int) × (List Int)) (h : M.a61 umj umk uml = some r) {nz wz S0 w0 Lr} (lx0 rx0 u4q uld ule umm umn umo ump ulf umq umr ums ulg umt umu umv) (p0 : Hp nz wz S0 w0 ((some lx0, .obj (lpst 251 (lfr 23 [(5, (pt uld 0)), (7, (pt ule 0)), (12, .func (.func 302) #[] #[(pt ulf 0), (pt ulg 0)])] u4q) #[13, 14] (rfAssign (Qs7)) (rfBody (Qs7)) rx0 .ready none)) :: (some uld, .row 313 [.func (.func 205) #[] #[]] 1 0) :: (some ule, .row 60 [.slice (Gp umm) umn umo] 1 0) :: (umm, .row 22 ump (umo * (kInt .u64).size) 0) :: (some ulf, .row 60 [.slice umq umr ums] 1 0) :: (some ulg, .row 60 [.slice umt umu umv] 1 0) :: Lr)) (umw : Els (kInt .u64) S0 w0 ump umj) (umx : umj.length = umn) (umy : Rd (kInt .u64) S0 w0 umq ums umk) (umz : umk.length = umr) (un0 : Rd (kInt .u64) S0 w0 umt umv uml) (un1 : uml.length = umu) :
  Calls Tryz.prog 302 #[yieldV lx0, (pt ulf 0), (pt ulg 0)] w0 (Rets (Post.z62 nz wz S0 w0 Lr lx0 rx0 u4q uld ule ulf ulg r)) := by
 subst umx
 subst umz
 subst un1
 refine Zf Tryz.f302 B302 70 ?_
 refine Gj 73 [(0, yieldV lx0), (1, (pt ulf 0)), (2, (pt ulg 0))] fun junk => ?_
 delta M.a61 at h
 refine Gn 2 [] Jyl ?_
 exact Gj 73 [(0, yieldV lx0), (1, (pt ulf 0)), (2, (pt ulg 0))] (W.z63 lx0 rx0 u4q uld ule ulf ulg _ _ h _ _ (Ext.refl S0 w0) _ _ _ _ _ _ _ _ _ _ p0 umw rfl umy rfl un0 rfl)

def Post.z6c (r : List Int) (v : Value) (w' : World) : Prop :=
 ∃ S' Gq nq cq csq, v = .slice (Gp Gq) nq cq ∧ Ext S0 w0 S' w' ∧ Hp nz wz S' w' ((Gq, .row 22 csq (cq * (kInt .u64).size) 0) :: Lr) ∧ Els (kInt .u64) S' w' csq r ∧ r.length = nq

theorem W.z6c (x0 : List Int) (x1 : List Int) (r : List Int) (h : M.a53 x0 x1 = some r) {nz wz S0 w0 Lr} (Ax0 nx0 cx0 Ax1 nx1 cx1) (p0 : Hp nz wz S0 w0 (Lr)) (fx0 : Rd (kInt .u64) S0 w0 Ax0 cx0 x0) (lx0 : x0.length = nx0) (fx1 : Rd (kInt .u64) S0 w0 Ax1 cx1 x1) (lx1 : x1.length = nx1) :
  Calls Tryz.prog 251 #[.slice Ax0 nx0 cx0, .slice Ax1 nx1 cx1, .func (.func 205) #[] #[]] w0 (Rets (Post.z6c nz wz S0 w0 Lr r)) := by
 subst lx0
 subst lx1
 refine Zf Tryz.f251 B251 20 ?_
 refine Gj 23 [(0, .slice Ax0 x0.length cx0), (1, .slice Ax1 x1.length cx1), (2, .func (.func 205) #[] #[])] fun junk => ?_
 delta M.a53 at h
 refine Gn 2 [] Jz6 ?_
 refine Ob 313 (.tmp 2) 5 0 (.func (.func 205) #[] #[]) [.func (.func 205) #[] #[]] p0 Goes.v fun b1 w2 z2 p2 => ?_
 refine Gn 4 [(6, .slice none 0 0)] Jz8 ?_
 refine Oa 60 7 0 (.slice none 0 0) [.slice none 0 0] p2 Goes.v fun b3 w3 z3 p3 => ?_
 refine Gn 6 [(10, .slice Ax0 x0.length cx0), (11, .slice Ax1 x1.length cx1)] Jzb ?_
 refine Gb h fun y5 e6 h => ?_
 refine Gc (kc 280 [10, 11] #[60, 60]) 12 375 280 _ (W.z4v x0 x1 y5 e6 _ _ _ _ _ _ p3 (fx0.ext (z2.t z3)) rfl (fx1.ext (z2.t z3)) rfl) ?_
 rintro _ w4 ⟨S4, un2, un3, un4, un5, un6, un7, un8, un9, rfl, z4, p4, una, rfl, unb, rfl⟩
 refine Gn 2 [] Jzd ?_
 refine Gj 23 [(5, (pt b1 0)), (7, (pt b3 0)), (12, .func (.func 302) #[] #[(pt un2 0), (pt un6 0)])] (fun unc => ?_)
 refine Goes.rangeF (f := 251) (.tmp 12) #[13, 14] 302 #[] #[(pt un2 0), (pt un6 0)] (by kernel_rfl) (by kernel_rfl) (fun _ => by kernel_rfl) p4 fun r10 l11 w5 z5 p5 => ?_
 have p5 : Hp nz wz S4 w5 ((none, .row 22 [] (0 * (kInt .u64).size) 0) :: (some l11, .obj (lpst 251 (lfr 23 [(5, (pt b1 0)), (7, (pt b3 0)), (12, .func (.func 302) #[] #[(pt un2 0), (pt un6 0)])] unc) #[13, 14] (rfAssign (Qs7)) (rfBody (Qs7)) r10 .ready none)) :: (some r10, .obj (.deferred (some []))) :: (some un2, .row 60 [.slice un3 y5.1.length un5] 1 0) :: (some un6, .row 60 [.slice un7 y5.2.length un9] 1 0) :: (some b3, .row 60 [.slice none 0 0] 1 0) :: (some b1, .row 313 [.func (.func 205) #[] #[]] 1 0) :: Lr) := p5.nilRow' 22
 have p5 := (((((p5.fr 4).fr 4).fr 2).fr 5).fr 6).fr 5
 refine Gb h fun y15 e16 h => ?_
 refine ⟨_, W.z62 ([] : List Int) y5.1 y5.2 y15 e16 _ _ _ _ _ none 0 0 [] _ _ _ _ _ _ _ _ p5 (Els.nil (K := (kInt .u64))) rfl (una.ext z5) rfl (unb.ext z5) rfl, ?_⟩
 rintro _ w6 ⟨S6, und, une, unf, ung, unh, uni, unj, unk, unl, unm, rfl, z6, p6, unn, rfl, uno, rfl, unp, rfl⟩
 refine Goes.endF 0 p6 rfl rfl fun w7 z7 p7 => ?_
 replace p7 : Hp nz wz S6 w7 ((some b1, .row 313 [.func (.func 205) #[] #[]] 1 0) :: (some b3, .row 60 [.slice (Gp und) y15.1.length unf] 1 0) :: (und, .row 22 ung (unf * (kInt .u64).size) 0) :: (some un2, .row 60 [.slice unh y15.2.1.length unj] 1 0) :: (some un6, .row 60 [.slice unk y15.2.2.length unm] 1 0) :: (some r10, .obj (.deferred (some []))) :: Lr) := (p7.front 0 _ rfl).drop
 show Goes _ _ Jzc _ _ _
 refine Gn 3 [] Jzf ?_
 refine Goes.ld 60 (.tmp 7) 22 60 ⟨b3, 0, none⟩ (.slice (Gp und) y15.1.length unf) (p7.c 1 0) ?_
 refine Gn 2 [(6, .slice (Gp und) y15.1.length unf)] Jze ?_
 obtain rfl := sj h
 have p7 := (((p7.dp 0).dp 0).dp 1).dp 1
 have p7 := (p7.fr 0).fr 1
 refine Goes.retL ?_
 refine lvs_mark 0 rfl rfl p7 rfl fun w8 z8 p8 => ?_
 replace p8 : Hp nz wz S6 w8 ((und, .row 22 ung (unf * (kInt .u64).size) 0) :: Lr) := p8.drop
 exact lvs_done (fn := Tryz.f251) rfl rfl rfl rfl (by kernel_rfl) (v := .slice (Gp und) y15.1.length unf) (by kernel_rfl) ⟨S6, und, y15.1.length, unf, ung, rfl, ((((((z2.t z3).t z4).t z5).t z6).t z7).t z8), p8, (unn.ext (z7.t z8)), rfl⟩

def Post.z6d (r : (List Int) × Int) (v : Value) (w' : World) : Prop :=
 ∃ S' unq ua0 ua1 unr, v = .tuple #[.slice (Gp unq) ua0 ua1, .i r.2] ∧ Ext S0 w0 S' w' ∧ Hp nz wz S' w' ((unq, .row 22 unr (ua1 * (kInt .u64).size) 0) :: Lr) ∧ Els (kInt .u64) S' w' unr r.1 ∧ r.1.length = ua0

def L.z6e : (List Int) × (List (List Int)) × Int × Int → ((List Int) × Int) → Prop := fun ⟨x9, x35, x36, x37⟩ r => ∀ S1 w1, Ext S0 w0 S1 w1 → ∀ Gx9 nx9 cx9 uns unt unu unv (_ : Hp nz wz S1 w1 ((Gx9, .row 22 uns (cx9 * (kInt .u64).size) 0) :: Lr)) (_ : Els (kInt .u64) S1 w1 uns x9) (_ : x9.length = nx9) (_ : Rd (kSl (kInt .u64)) S1 w1 unt unv x35) (_ : x35.length = unu) (junk : Nat → Value),
 Goes Tryz.prog (base 203) Jzj ⟨lfr 47 [(1, .func (.func 205) #[] #[]), (9, .slice (Gp Gx9) nx9 cx9), (35, .slice unt unu unv), (36, .i x36), (37, .i x37)] junk, []⟩ w1 (Done Tryz.prog 203 (Rets (Post.z6d nz wz S0 w0 Lr r)))

theorem W.z6e {nz wz S0 w0 Lr} : ∀ a r, M.a33 a = some r → (L.z6e nz wz S0 w0 Lr) a r := by
 refine M.a33.partial_correctness (motive := (L.z6e nz wz S0 w0 Lr)) ?_
 intro uq7 uq8 ⟨x9, x35, x36, x37⟩ r h S1 w1 hx Gx9 nx9 cx9 uns unt unu unv p1 fx9 lx9 uny unz junk
 try dsimp only at h
 subst lx9
 subst unz
 refine Gn 5 [(38, .bool (decide (x37 < x36)))] Jzl ?_
 refine Gi h (fun h33 h => ?_) fun h33 h => ?_
 ·
  rw [dt h33]
  refine Gn 6 [] Jzp ?_
  refine Gg h fun g34 h => ?_
  refine Gg h fun g35 h => ?_
  refine Oi 311 (.tmp 35) (.tmp 37) 39 0 60 .i64 x37 (gi x35 x37) rfl rfl uny Goes.v g34 g35 fun a36 _ f37 q38 => ?_
  obtain ⟨A39, c40, rfl, f41⟩ := q38
  refine Goes.ld 60 (.tmp 39) 40 60 a36 (.slice A39 ((gi x35 x37).length) c40) (f37.cell 0 _ rfl) ?_
  refine Gm 6 [([11, 42], .slice A39 ((gi x35 x37).length) c40), ([41], .slice (Gp Gx9) x9.length cx9), ([43], .func (.func 205) #[] #[])] Jzq ?_
  obtain ⟨S4, z4, p4, f42⟩ := p1.freezeRd 0 rfl fx9 (by decide)
  refine Gb h fun y43 e44 h => ?_
  refine Gc (kc 251 [41, 42, 43] #[60, 60, 313]) 44 60 251 _ (W.z6c x9 (gi x35 x37) y43 e44 _ _ _ _ _ _ p4 f42 rfl (f41.ext z4) rfl) ?_
  rintro _ w5 ⟨S5, uo0, uo1, uo2, uo3, rfl, z5, p5, ux, rfl⟩
  have p5 := p5.dp 1
  refine Gm 8 [([9], .slice (Gp uo0) y43.length uo2), ([45, 37], .i (wr .i64 (x37 + 1)))] Jzj ?_
  exact Gj 47 [(1, .func (.func 205) #[] #[]), (9, .slice (Gp uo0) y43.length uo2), (35, .slice unt x35.length unv), (36, .i x36), (37, .i (wr .i64 (x37 + 1)))] (uq8 _ _ h _ _ ((hx.t z4).t z5) _ _ _ _ _ _ _ p5 ux rfl (uny.ext (z4.t z5)) rfl)
 ·
  rw [df h33]
  refine Gm 8 [([46, 4], .slice (Gp Gx9) x9.length cx9), ([5], .i 0)] Jzr ?_
  obtain rfl := sj h
  exact Goes.rt Tryz.f203 (.tuple #[.slice (Gp Gx9) x9.length cx9, .i 0]) ⟨_, _, _, _, _, rfl, hx, p1, fx9, rfl⟩

def L.z6f : (List (List Int)) × (List (List Int)) × Int × Int → ((List Int) × Int) → Prop := fun ⟨x0, x15, x16, x17⟩ r => ∀ S1 w1, Ext S0 w0 S1 w1 → ∀ Ax0 nx0 cx0 ufj ufk ufl (_ : Hp nz wz S1 w1 (Lr)) (_ : Rd (kSl (kInt .u64)) S1 w1 Ax0 cx0 x0) (_ : x0.length = nx0) (_ : Rd (kSl (kInt .u64)) S1 w1 ufj ufl x15) (_ : x15.length = ufk) (junk : Nat → Value),
 Goes Tryz.prog (base 203) Jzv ⟨lfr 47 [(0, .slice Ax0 nx0 cx0), (1, .func (.func 205) #[] #[]), (15, .slice ufj ufk ufl), (16, .i x16), (17, .i x17)] junk, []⟩ w1 (Done Tryz.prog 203 (Rets (Post.z6d nz wz S0 w0 Lr r)))

theorem W.z6f {nz wz S0 w0 Lr} : ∀ a r, M.a34 a = some r → (L.z6f nz wz S0 w0 Lr) a r := by
 refine M.a34.partial_correctness (motive := (L.z6f nz wz S0 w0 Lr)) ?_
 intro uq9 uqa ⟨x0, x15, x16, x17⟩ r h S1 w1 hx Ax0 nx0 cx0 ufj ufk ufl p1 fx0 lx0 ufs uft junk
 try dsimp only at h
 subst lx0
 subst uft
 refine Gn 5 [(18, .bool (decide (x17 < x16)))] Jzx ?_
 refine Gi h (fun h3 h => ?_) fun h3 h => ?_
 ·
  rw [dt h3]
  refine Gn 6 [] J101 ?_
  refine Gg h fun g4 h => ?_
  refine Gg h fun g5 h => ?_
  refine Oi 311 (.tmp 15) (.tmp 17) 19 0 60 .i64 x17 (gi x15 x17) rfl rfl ufs Goes.v g4 g5 fun a6 _ f7 q8 => ?_
  obtain ⟨A9, c10, rfl, f11⟩ := q8
  refine Goes.ld 60 (.tmp 19) 20 60 a6 (.slice A9 ((gi x15 x17).length) c10) (f7.cell 0 _ rfl) ?_
  refine Gm 5 [([7, 21], .slice A9 ((gi x15 x17).length) c10)] J103 ?_
  refine Gb h fun y12 e13 h => ?_
  refine Gc (kc 82 [21] #[60]) 22 34 82 _ (W.z4t (gi x15 x17) y12 e13 _ _ _ p1 f11 rfl) ?_
  rintro _ w2 ⟨S2, rfl, z2, p2⟩
  refine Gm 7 [([8, 23], .i y12), ([24], .bool (!(decide (y12 = 0))))] J104 ?_
  refine Gi h (fun h14 h => ?_) fun h14 h => ?_
  ·
   rw [dt h14]
   refine Gm 8 [([26, 17], .i (wr .i64 (x17 + 1)))] Jzv ?_
   exact Gj 47 [(0, .slice Ax0 x0.length cx0), (1, .func (.func 205) #[] #[]), (15, .slice ufj x15.length ufl), (16, .i x16), (17, .i (wr .i64 (x17 + 1)))] (uqa _ _ h _ _ (hx.t z2) _ _ _ _ _ _ p2 (fx0.ext z2) rfl (ufs.ext z2) rfl)
  ·
   rw [df h14]
   refine Gm 7 [([25, 5], .i y12), ([4], .slice none 0 0)] J105 ?_
   have p2 : Hp nz wz S2 w2 ((none, .row 22 [] (0 * (kInt .u64).size) 0) :: Lr) := p2.nilRow' 22
   obtain rfl := sj h
   exact Goes.rt Tryz.f203 (.tuple #[.slice (Gp none) 0 0, .i y12]) ⟨_, _, _, _, _, rfl, (hx.t z2), p2, (Els.nil (K := (kInt .u64))), rfl⟩
 ·
  rw [df h3]
  refine Gn 9 [(27, .slice Ax0 x0.length cx0), (28, .i (x0.length : Int)), (29, .bool (decide ((x0.length : Int) = 0)))] J107 ?_
  refine Gi h (fun h16 h => ?_) fun h16 h => ?_
  ·
   rw [dt h16]
   refine Gn 6 [(4, .slice none 0 0), (5, .i 0)] J108 ?_
   have p1 : Hp nz wz S1 w1 ((none, .row 22 [] (0 * (kInt .u64).size) 0) :: Lr) := p1.nilRow' 22
   obtain rfl := sj h
   exact Goes.rt Tryz.f203 (.tuple #[.slice (Gp none) 0 0, .i 0]) ⟨_, _, _, _, _, rfl, hx, p1, (Els.nil (K := (kInt .u64))), rfl⟩
  ·
   rw [df h16]
   refine Gn 5 [(30, .slice Ax0 x0.length cx0)] J10a ?_
   refine Gg h fun g18 h => ?_
   refine Oi 311 (.tmp 30) (.const (.int .i64 0)) 31 0 60 .i64 0 (gi x0 0) rfl rfl fx0 Goes.v (by decide : (0 : Int) ≤ 0) g18 fun a19 _ f20 q21 => ?_
   obtain ⟨A22, c23, rfl, f24⟩ := q21
   refine Goes.ld 60 (.tmp 31) 32 60 a19 (.slice A22 ((gi x0 0).length) c23) (f20.cell 0 _ rfl) ?_
   refine Gb h fun y25 e26 h => ?_
   refine Gc (kc 142 [32] #[60]) 33 60 142 _ (W.z4u (gi x0 0) y25 e26 _ _ _ p1 f24 rfl) ?_
   rintro _ w3 ⟨S3, ufc, ufd, ufe, uff, rfl, z3, p3, u2d, rfl⟩
   refine Gn 6 [(9, .slice (Gp ufc) y25.length ufe), (34, .slice Ax0 x0.length cx0)] J10c ?_
   refine Gg h fun g28 h => ?_
   refine Op_.slR_n 311 (.tmp 34) (some (.const (.int .i64 1))) none 35 311 60 1 (x0.length : Int) (sl x0 1 (x0.length : Int)) rfl rfl (fx0.ext z3) Goes.v (by kernel_rfl) (by kernel_rfl) (by kernel_rfl) (Bnd.at_ .i64 (by kernel_rfl)) Bnd.no (by decide : (0 : Int) ≤ 1) g28 (Int.le_refl _) fun A29 c30 f31 => ?_
   refine Gn 5 [(36, .i ((sl x0 1 (x0.length : Int)).length : Int)), (37, .i 0)] Jzj ?_
   exact Gj 47 [(1, .func (.func 205) #[] #[]), (9, .slice (Gp ufc) y25.length ufe), (35, .slice A29 ((sl x0 1 (x0.length : Int)).length) c30), (36, .i ((sl x0 1 (x0.length : Int)).length : Int)), (37, .i 0)] (W.z6e _ _ h _ _ (hx.t z3) _ _ _ _ _ _ _ p3 u2d rfl f31 rfl)

theorem W.z6d (x0 : List (List Int)) (r : (List Int) × Int) (h : M.a54 x0 = some r) {nz wz S0 w0 Lr} (Ax0 nx0 cx0) (p0 : Hp nz wz S0 w0 (Lr)) (fx0 : Rd (kSl (kInt .u64)) S0 w0 Ax0 cx0 x0) (lx0 : x0.length = nx0) :
  Calls Tryz.prog 203 #[.slice Ax0 nx0 cx0, .func (.func 205) #[] #[]] w0 (Rets (Post.z6d nz wz S0 w0 Lr r)) := by
 subst lx0
 refine Zf Tryz.f203 B203 45 ?_
 refine Gj 47 [(0, .slice Ax0 x0.length cx0), (1, .func (.func 205) #[] #[])] fun junk => ?_
 delta M.a54 at h
 refine Gn 12 [(4, .slice none 0 0), (5, .i 0), (12, .slice Ax0 x0.length cx0), (13, .i (x0.length : Int)), (14, .bool (decide ((x0.length : Int) > 4096)))] J10e ?_
 refine Gi h (fun h1 h => ?_) fun h1 h => ?_
 ·
  rw [dt h1]
  refine Gn 6 [(4, .slice none 0 0), (5, .i 3)] J10f ?_
  have p0 : Hp nz wz S0 w0 ((none, .row 22 [] (0 * (kInt .u64).size) 0) :: Lr) := p0.nilRow' 22
  obtain rfl := sj h
  exact Goes.rt Tryz.f203 (.tuple #[.slice (Gp none) 0 0, .i 3]) ⟨_, _, _, _, _, rfl, (Ext.refl S0 w0), p0, (Els.nil (K := (kInt .u64))), rfl⟩
 ·
  rw [df h1]
  refine Gn 11 [(15, .slice Ax0 x0.length cx0), (16, .i (x0.length : Int)), (17, .i 0)] Jzv ?_
  exact Gj 47 [(0, .slice Ax0 x0.length cx0), (1, .func (.func 205) #[] #[]), (15, .slice Ax0 x0.length cx0), (16, .i (x0.length : Int)), (17, .i 0)] (W.z6f _ _ h _ _ (Ext.refl S0 w0) _ _ _ _ _ _ p0 fx0 rfl fx0 rfl)

def J134 := Ys 111 B143 []

def Post.z6g (r : (List Int) × Int) (v : Value) (w' : World) : Prop :=
 ∃ S' unq ua0 ua1 unr, v = .tuple #[.slice (Gp unq) ua0 ua1, .i r.2] ∧ Ext S0 w0 S' w' ∧ Hp nz wz S' w' ((unq, .row 22 unr (ua1 * (kInt .u64).size) 0) :: Lr) ∧ Els (kInt .u64) S' w' unr r.1 ∧ r.1.length = ua0

theorem W.z6g (x0 : List (List Int)) (r : (List Int) × Int) (h : M.a55 x0 = some r) {nz wz S0 w0 Lr} (Ax0 nx0 cx0) (p0 : Hp nz wz S0 w0 (Lr)) (fx0 : Rd (kSl (kInt .u64)) S0 w0 Ax0 cx0 x0) (lx0 : x0.length = nx0) :
  Calls Tryz.prog 143 #[.slice Ax0 nx0 cx0] w0 (Rets (Post.z6g nz wz S0 w0 Lr r)) := by
 subst lx0
 refine Zf Tryz.f143 B143 7 ?_
 refine Gj 8 [(0, .slice Ax0 x0.length cx0)] fun junk => ?_
 delta M.a55 at h
 refine Gn 8 [(2, .slice none 0 0), (3, .i 0), (4, .slice Ax0 x0.length cx0)] (Yt 110 B143 [1, 2, 3, 4, 5] J134) ?_
 refine Gb h fun y1 e2 h => ?_
 refine Gc (.call { callee := .value (.func 203), args := #[(.tmp 4), (.func 205)], argTypes := #[311, 313] }) 5 72 203 _ (W.z6d x0 y1 e2 _ _ _ p0 fx0 rfl) ?_
 rintro _ w2 ⟨S2, uo6, uo7, uo8, uo9, rfl, z2, p2, uoa, rfl⟩
 refine Gm 5 [([6, 2], .slice (Gp uo6) y1.1.length uo8), ([7, 3], .i y1.2)] J134 ?_
 obtain rfl := sj h
 exact Goes.rt Tryz.f143 (.tuple #[.slice (Gp uo6) y1.1.length uo8, .i y1.2]) ⟨_, _, _, _, _, rfl, z2, p2, uoa, rfl⟩

def J136 := Ys 1111 B84 []
def J137 := Zb 0 J136
def Qvy := Yq 1110101111101100 B84
def J139 := Zl Qvy (Zb 1 J137)
def J13a := Zc Qvy J139
def Qvz := Yq 11101011111110100 B84
def J13c := Zl Qvz (Zb 3 J137)
def J13d := Zc Qvz J13c
def J13k := Ys 11111 B84 []
def J13y := Zb 4 (Ys 11101011111110100111 B84 J13c)
def Qwk := Yq 1110101111111010011001 B84
def J146 := Zb 2 (Ys 1110101111101100111 B84 J139)
def Qwp := Yq 111010111110110011001 B84

def Post.z6h (gx1 : Nat) (uqb : Nat) (uk6 : List (Nat × Obj)) (uqc : Nat) (uk5 : List (List (ByteArray × (List Int)))) (r : List Int) (v : Value) (w' : World) : Prop :=
 ∃ S' Gq nq cq csq, v = .slice (Gp Gq) nq cq ∧ Ext S0 w0 S' w' ∧ Hp nz wz S' w' ((Gq, .row 22 csq (cq * (kInt .u64).size) 0) :: (some gx1, .row 158 [.map (some uqb)] 1 0) :: (none, .seg 154 uk6) :: Lr) ∧ Els (kInt .u64) S' w' csq r ∧ r.length = nq

def LF.z6h : T29 × Nat × (List Int) × (List (List (ByteArray × (List Int)))) → (List Int) → Prop := fun ⟨x0, uqc, x2, uk5⟩ r => ∀ {nz wz S0 w0 Lr} u92 u93 u94 gx1 uqb Ax2 nx2 cx2 uk6 (_ : Hp nz wz S0 w0 ((some gx1, .row 158 [.map (some uqb)] 1 0) :: (none, .seg 154 uk6) :: Lr)) (_ : Rd kT29 S0 w0 u92 u94 x0.L) (_ : x0.L.length = u93) (_ : Pa 154 S0 uqc uqb) (_ : Rd (kInt .u64) S0 w0 Ax2 cx2 x2) (_ : x2.length = nx2) (_ : Pl (oMap Value.string (kSl (kInt .u64))) S0 w0 uk6 uk5),
 Calls Tryz.prog 84 #[(ag (vT29 x0 u92 u93 u94)), (pt gx1 0), .slice Ax2 nx2 cx2] w0 (Rets (Post.z6h nz wz S0 w0 Lr gx1 uqb uk6 uqc uk5 r))

def L.z6i (gx1 : Nat) (uqb : Nat) (uk6 : List (Nat × Obj)) : (List Int) × (List T29) × Int × Int × Nat × (List (List (ByteArray × (List Int)))) → (List Int) → Prop := fun ⟨x7, x35, x36, x37, uqc, uk5⟩ r => ∀ S1 w1, Ext S0 w0 S1 w1 → ∀ Gx7 nx7 cx7 uc7 unt unu unv (_ : Hp nz wz S1 w1 ((Gx7, .row 22 uc7 (cx7 * (kInt .u64).size) 0) :: (some gx1, .row 158 [.map (some uqb)] 1 0) :: (none, .seg 154 uk6) :: Lr)) (_ : Els (kInt .u64) S1 w1 uc7 x7) (_ : x7.length = nx7) (_ : Rd kT29 S1 w1 unt unv x35) (_ : x35.length = unu) (_ : Pa 154 S1 uqc uqb) (_ : Pl (oMap Value.string (kSl (kInt .u64))) S1 w1 uk6 uk5) (junk : Nat → Value),
 Goes Tryz.prog (base 84) J13a ⟨lfr 67 [(1, (pt gx1 0)), (7, .slice (Gp Gx7) nx7 cx7), (35, .slice unt unu unv), (36, .i x36), (37, .i x37)] junk, []⟩ w1 (Done Tryz.prog 84 (Rets (Post.z6h nz wz S0 w0 Lr gx1 uqb uk6 uqc uk5 r)))

def LL.z6i : (List Int) × (List T29) × Int × Int × Nat × (List (List (ByteArray × (List Int)))) → (List Int) → Prop := fun a r => ∀ {nz wz S0 w0 Lr} (gx1 : Nat) (uqb : Nat) (uk6 : List (Nat × Obj)), L.z6i nz wz S0 w0 Lr gx1 uqb uk6 a r

def L.z6j (gx1 : Nat) (uqb : Nat) (uk6 : List (Nat × Obj)) : (List Int) × (List Int) × (List T29) × Int × Int × Nat × (List (List (ByteArray × (List Int)))) → (List Int) → Prop := fun ⟨x2, x7, x49, x50, x51, uqc, uk5⟩ r => ∀ S1 w1, Ext S0 w0 S1 w1 → ∀ Ax2 nx2 cx2 Gx7 nx7 cx7 uc7 uqd uqe uqf (_ : Hp nz wz S1 w1 ((Gx7, .row 22 uc7 (cx7 * (kInt .u64).size) 0) :: (some gx1, .row 158 [.map (some uqb)] 1 0) :: (none, .seg 154 uk6) :: Lr)) (_ : Rd (kInt .u64) S1 w1 Ax2 cx2 x2) (_ : x2.length = nx2) (_ : Els (kInt .u64) S1 w1 uc7 x7) (_ : x7.length = nx7) (_ : Rd kT29 S1 w1 uqd uqf x49) (_ : x49.length = uqe) (_ : Pa 154 S1 uqc uqb) (_ : Pl (oMap Value.string (kSl (kInt .u64))) S1 w1 uk6 uk5) (junk : Nat → Value),
 Goes Tryz.prog (base 84) J13d ⟨lfr 67 [(1, (pt gx1 0)), (2, .slice Ax2 nx2 cx2), (7, .slice (Gp Gx7) nx7 cx7), (49, .slice uqd uqe uqf), (50, .i x50), (51, .i x51)] junk, []⟩ w1 (Done Tryz.prog 84 (Rets (Post.z6h nz wz S0 w0 Lr gx1 uqb uk6 uqc uk5 r)))

def LL.z6j : (List Int) × (List Int) × (List T29) × Int × Int × Nat × (List (List (ByteArray × (List Int)))) → (List Int) → Prop := fun a r => ∀ {nz wz S0 w0 Lr} (gx1 : Nat) (uqb : Nat) (uk6 : List (Nat × Obj)), L.z6j nz wz S0 w0 Lr gx1 uqb uk6 a r

theorem W.z6k : (∀ a r, M.a1b a = some r → LF.z6h a r) ∧ (∀ a r, M.a20 a = some r → LL.z6j a r) ∧ (∀ a r, M.a35 a = some r → LL.z6i a r) := by
 refine M.a1b.mutual_partial_correctness LF.z6h LL.z6j LL.z6i ?_ ?_ ?_
 ·
  intro uqg uqh uqi uqj ⟨x0, uqc, x2, uk5⟩ r h nz wz S0 w0 Lr u92 u93 u94 gx1 uqb Ax2 nx2 cx2 uk6 p0 u9f u9g uqk fx2 lx2 uk7
  try dsimp only at h
  subst u9g
  subst lx2
  refine Zf Tryz.f84 B84 64 ?_
  refine Gj 67 [(0, (ag (vT29 x0 u92 x0.L.length u94))), (1, (pt gx1 0)), (2, .slice Ax2 x2.length cx2)] fun junk => ?_
  refine Gn 2 [] (Yt 10 B84 [0, 1] (Ys 11 B84 [])) ?_
  refine Ob 30 (.tmp 0) 3 0 (ag (vT29 x0 u92 x0.L.length u94)) (vT29 x0 u92 x0.L.length u94) p0 Goes.v fun b2 w2 z2 p2 => ?_
  refine Gm 10 [([6, 7], .slice none 0 0), ([12], (pt b2 0))] (Yt 11100 B84 [1] (Ys 11101 B84 J136)) ?_
  refine Goes.ld 3 (.tmp 12) 13 3 ⟨b2, 0, none⟩ (.i x0.Op) (p2.c 0 0) ?_
  refine Gm 7 [([15, 14], .bool (decide (x0.Op = 0)))] (Ys 1110101 B84 J137) ?_
  refine Gi h (fun h4 h => ?_) fun h4 h => ?_
  ·
   rw [dt h4]
   refine Gn 3 [(16, .slice Ax2 x2.length cx2)] (Yt 11101010 B84 [1, 2] J137) ?_
   refine Gb h fun y5 e6 h => ?_
   refine Gc (kc 142 [16] #[60]) 17 60 142 _ (W.z4u x2 y5 e6 _ _ _ p2 (fx2.ext z2) rfl) ?_
   rintro _ w3 ⟨S3, ufc, ufd, ufe, uff, rfl, z3, p3, u2d, rfl⟩
   have p3 := p3.dp 1
   refine Gm 8 [([7, 66, 6], .slice (Gp ufc) y5.length ufe)] J13k ?_
   obtain rfl := sj h
   exact Goes.rt Tryz.f84 (.slice (Gp ufc) y5.length ufe) ⟨_, _, _, _, _, rfl, (z2.t z3), p3, u2d, rfl⟩
  ·
   rw [df h4]
   refine Gm 6 [([19, 18], .bool (decide (x0.Op = 2)))] (Ys 111010111 B84 J137) ?_
   refine Gi h (fun h8 h => ?_) fun h8 h => ?_
   ·
    rw [dt h8]
    refine Gn 5 [(21, .slice Ax2 x2.length cx2), (22, (pt gx1 0)), (23, (pt b2 1))] (Yt 1110101110 B84 [3, 4, 5, 6, 7, 8, 9, 10] J137) ?_
    refine Goes.ld 9 (.tmp 23) 24 9 ⟨b2, 1, none⟩ (.string x0.Text) (p2.c 0 1) ?_
    have p2 := (p2.fr 2).fr 2
    refine Gb h fun y9 e10 h => ?_
    refine Gc (kc 144 [22, 24] #[62, 9]) 25 60 144 _ (W.z5z uqc x0.Text uk5 y9 e10 _ _ _ p2 (uqk.ext z2) (uk7.ext z2)) ?_
    rintro _ w4 ⟨S4, ugz, uh0, uh1, uh2, rfl, z4, p4, uh3, rfl⟩
    have p4 := p4.dp 3
    obtain ⟨S5, z5, p5, f12⟩ := p4.freezeRd 0 rfl uh3 (by decide)
    have f14 : Els (kSl (kInt .u64)) S5 w4 ([.slice Ax2 x2.length cx2, .slice (Gp ugz) y9.length uh1] : List Value) [x2, y9] := by exact (Els.cons (K := (kSl (kInt .u64))) (vs := [.slice Ax2 x2.length cx2]) (x := x2) ⟨_, _, rfl, (fx2.ext ((z2.t z4).t z5))⟩ (Els.cons (K := (kSl (kInt .u64))) (vs := [.slice (Gp ugz) y9.length uh1]) (x := y9) ⟨_, _, rfl, f12⟩ Els.nil))
    refine Om (.buildSlice 311 2 #[(0, (.tmp 21)), (1, (.tmp 25))]) 26 311 (fun b => .slice (Gp (some b)) 2 2) 60 ([.slice Ax2 x2.length cx2, .slice (Gp ugz) y9.length uh1] : List Value) (2 * (kSl (kInt .u64)).size) p5 Goes.v fun b13 w6 z6 p6 => ?_
    obtain ⟨S7, z7, p7, f16⟩ := p6.freezeRd 0 rfl (f14.ext z6) (by decide)
    refine Gb h fun y17 e18 h => ?_
    refine Gc (kc 143 [26] #[311]) 27 72 143 _ (W.z6g [x2, y9] y17 e18 _ _ _ p7 f16 rfl) ?_
    rintro _ w8 ⟨S8, uql, ucs, uct, uqm, rfl, z8, p8, ucu, rfl⟩
    have p8 := (p8.dp 1).dp 1
    refine Gm 11 [([20], .tuple #[.slice (Gp uql) y17.1.length uct, .i y17.2]), ([28, 7, 66, 6], .slice (Gp uql) y17.1.length uct), ([29], .i y17.2)] J13k ?_
    obtain rfl := sj h
    exact Goes.rt Tryz.f84 (.slice (Gp uql) y17.1.length uct) ⟨_, _, _, _, _, rfl, (((((z2.t z4).t z5).t z6).t z7).t z8), p8, ucu, rfl⟩
   ·
    rw [df h8]
    refine Gm 6 [([31, 30], .bool (decide (x0.Op = 3)))] (Ys 11101011111 B84 J137) ?_
    refine Gi h (fun h20 h => ?_) fun h20 h => ?_
    ·
     rw [dt h20]
     refine Gn 4 [(32, .slice Ax2 x2.length cx2)] (Yt 1110101111100 B84 [1, 2] (Ys 1110101111101 B84 J137)) ?_
     refine Gb h fun y21 e22 h => ?_
     refine Gc (kc 142 [32] #[60]) 33 60 142 _ (W.z4u x2 y21 e22 _ _ _ p2 (fx2.ext z2) rfl) ?_
     rintro _ w9 ⟨S9, uqn, uqo, uqp, uqq, rfl, z9, p9, u5s, rfl⟩
     refine Gn 5 [(7, .slice (Gp uqn) y21.length uqp), (34, (pt b2 2))] (Yt 11101011111010 B84 [1, 2, 3] (Ys 11101011111011 B84 J137)) ?_
     refine Goes.ld 28 (.tmp 34) 35 28 ⟨b2, 2, none⟩ (.slice u92 x0.L.length u94) (p9.c 1 2) ?_
     refine Gn 5 [(36, .i (x0.L.length : Int)), (37, .i 0)] J13a ?_
     have p9 := p9.dp 1
     exact Gj 67 [(1, (pt gx1 0)), (7, .slice (Gp uqn) y21.length uqp), (35, .slice u92 x0.L.length u94), (36, .i (x0.L.length : Int)), (37, .i 0)] (uqj _ _ h gx1 uqb uk6 _ _ (z2.t z9) _ _ _ _ _ _ _ p9 u5s rfl (u9f.ext (z2.t z9)) rfl (uqk.ext (z2.t z9)) (uk7.ext (z2.t z9)))
    ·
     rw [df h20]
     refine Gm 6 [([47, 46], .bool (decide (x0.Op = 4)))] (Ys 1110101111111 B84 J137) ?_
     refine Gi h (fun h25 h => ?_) fun h25 h => ?_
     ·
      rw [dt h25]
      refine Gn 4 [(48, (pt b2 2))] (Yt 111010111111100 B84 [1, 2, 3] (Ys 111010111111101 B84 J137)) ?_
      refine Goes.ld 28 (.tmp 48) 49 28 ⟨b2, 2, none⟩ (.slice u92 x0.L.length u94) (p2.c 0 2) ?_
      refine Gn 5 [(50, .i (x0.L.length : Int)), (51, .i 0)] J13d ?_
      have p2 := p2.dp 0
      have p2 : Hp nz wz S0 w2 ((none, .row 22 [] (0 * (kInt .u64).size) 0) :: (some gx1, .row 158 [.map (some uqb)] 1 0) :: (none, .seg 154 uk6) :: Lr) := p2.nilRow' 22
      exact Gj 67 [(1, (pt gx1 0)), (2, .slice Ax2 x2.length cx2), (7, .slice (Gp none) 0 0), (49, .slice u92 x0.L.length u94), (50, .i (x0.L.length : Int)), (51, .i 0)] (uqi _ _ h gx1 uqb uk6 _ _ z2 _ _ _ none 0 0 [] _ _ _ p2 (fx2.ext z2) rfl (Els.nil (K := (kInt .u64))) rfl (u9f.ext z2) rfl (uqk.ext z2) (uk7.ext z2))
     ·
      rw [df h25]
      refine Gm 8 [([66, 6], .slice none 0 0)] J13k ?_
      have p2 : Hp nz wz S0 w2 ((none, .row 22 [] (0 * (kInt .u64).size) 0) :: (some b2, .row 30 (vT29 x0 u92 x0.L.length u94) 3 0) :: (some gx1, .row 158 [.map (some uqb)] 1 0) :: (none, .seg 154 uk6) :: Lr) := p2.nilRow' 22
      obtain rfl := sj h
      have p2 := p2.dp 1
      exact Goes.rt Tryz.f84 (.slice (Gp none) 0 0) ⟨_, _, _, _, _, rfl, z2, p2, (Els.nil (K := (kInt .u64))), rfl⟩
 ·
  intro rec_gram_Query_eval uqg ih_gram_Query_eval uqi ⟨x2, x7, x49, x50, x51, uqc, uk5⟩ r h nz wz S0 w0 Lr gx1 uqb uk6 S1 w1 hx Ax2 nx2 cx2 Gx7 nx7 cx7 uc7 uqd uqe uqf p1 fx2 lx2 fx7 lx7 uqr uqs uqt fs7 junk
  try dsimp only at h
  subst lx2
  subst lx7
  subst uqs
  refine Gn 5 [(52, .bool (decide (x51 < x50)))] (Ys 1110101111111010010 B84 (Ys 1110101111111010011 B84 J13c)) ?_
  refine Gi h (fun h45 h => ?_) fun h45 h => ?_
  ·
   rw [dt h45]
   refine Gn 6 [] (Yt 1110101111111010011000 B84 [0, 1, 2, 3] (Zc Qwk J13y)) ?_
   refine Gg h fun g46 h => ?_
   refine Gg h fun g47 h => ?_
   refine Oi 28 (.tmp 49) (.tmp 51) 53 0 30 .i64 x51 (gi x49 x51) rfl rfl uqr Goes.v g46 g47 fun a48 _ f49 q50 => ?_
   have q51 := q50
   obtain ⟨_, _, rfl, rfl, ⟨_, _, rfl, rfl, ⟨A52, c53, rfl, f54⟩⟩⟩ := kT29_open q51
   refine Goes.ldN 30 (.tmp 53) 54 30 a48 ([.i ((gi x49 x51).Op)] ++ ([.string ((gi x49 x51).Text)] ++ [.slice A52 (((gi x49 x51).L).length) c53])) (f49.cell) ?_
   refine Oa 30 11 0 (.agg #[.i 0, .string (⟨#[]⟩ : ByteArray), .slice none 0 0]) [.i 0, .string (⟨#[]⟩ : ByteArray), .slice none 0 0] p1 Goes.v fun b55 w14 z14 p14 => ?_
   refine So 30 (.tmp 11) (.tmp 54) 0 0 b55 0 ((ag (vT29 (gi x49 x51) A52 (((gi x49 x51).L).length) c53))) (vT29 (gi x49 x51) A52 (((gi x49 x51).L).length) c53) p14 rfl Goes.s fun w15 z15 p15 => ?_
   refine Gn 3 [(56, .slice (Gp Gx7) x7.length cx7)] (Zr Qwk [1, 2, 3, 4, 5, 6, 7, 8, 9, 10] J13y) ?_
   refine Goes.ldN 30 (.tmp 11) 57 30 ⟨b55, 0, none⟩ (vT29 (gi x49 x51) A52 (((gi x49 x51).L).length) c53) (p15.pa 0 0) ?_
   refine Gn 2 [(58, (pt gx1 0)), (59, .slice Ax2 x2.length cx2)] (Zr Qwk [4, 5, 6, 7, 8, 9, 10] J13y) ?_
   have p15 := (p15.fr 3).fr 3
   refine Gb h fun y57 e58 h => ?_
   refine Gc (kc 84 [57, 58, 59] #[30, 62, 60]) 60 60 84 _ (ih_gram_Query_eval (gi x49 x51, uqc, x2, uk5) y57 e58 _ _ _ _ _ _ _ _ _ p15 (f54.ext (z14.t z15)) rfl (uqt.ext (z14.t z15)) (fx2.ext (z14.t z15)) rfl (fs7.ext (z14.t z15))) ?_
   rintro _ w16 ⟨S16, uqu, uqv, uqw, uqx, rfl, z16, p16, u1c, rfl⟩
   have p16 := p16.dp 3
   obtain ⟨S17, z17, p17, f60⟩ := p16.freezeRd 3 rfl (fx7.ext ((z14.t z15).t z16)) (by decide)
   obtain ⟨S18, z18, p18, f61⟩ := p17.freezeRd 0 rfl (u1c.ext z17) (by decide)
   have f63 : Els (kSl (kInt .u64)) S18 w16 ([.slice (Gp Gx7) x7.length cx7, .slice (Gp uqu) y57.length uqw] : List Value) [x7, y57] := by exact (Els.cons (K := (kSl (kInt .u64))) (vs := [.slice (Gp Gx7) x7.length cx7]) (x := x7) ⟨_, _, rfl, (f60.ext z18)⟩ (Els.cons (K := (kSl (kInt .u64))) (vs := [.slice (Gp uqu) y57.length uqw]) (x := y57) ⟨_, _, rfl, f61⟩ Els.nil))
   refine Om (.buildSlice 311 2 #[(0, (.tmp 56)), (1, (.tmp 60))]) 61 311 (fun b => .slice (Gp (some b)) 2 2) 60 ([.slice (Gp Gx7) x7.length cx7, .slice (Gp uqu) y57.length uqw] : List Value) (2 * (kSl (kInt .u64)).size) p18 Goes.v fun b62 w19 z19 p19 => ?_
   obtain ⟨S20, z20, p20, f65⟩ := p19.freezeRd 0 rfl (f63.ext z19) (by decide)
   refine Gb h fun y66 e67 h => ?_
   refine Gc (kc 140 [61] #[311]) 62 72 140 _ (W.z5c [x7, y57] y66 e67 _ _ _ p20 f65 rfl) ?_
   rintro _ w21 ⟨S21, uqy, uqz, ur0, ur1, rfl, z21, p21, ur2, rfl⟩
   have p21 := ((p21.dp 1).dp 1).dp 3
   refine Gm 11 [([55], .tuple #[.slice (Gp uqy) y66.1.length ur0, .i y66.2]), ([63, 7], .slice (Gp uqy) y66.1.length ur0), ([64], .i y66.2), ([65, 51], .i (wr .i64 (x51 + 1)))] J13d ?_
   exact Gj 67 [(1, (pt gx1 0)), (2, .slice Ax2 x2.length cx2), (7, .slice (Gp uqy) y66.1.length ur0), (49, .slice uqd x49.length uqf), (50, .i x50), (51, .i (wr .i64 (x51 + 1)))] (uqi _ _ h gx1 uqb uk6 _ _ ((((((((hx.t z14).t z15).t z16).t z17).t z18).t z19).t z20).t z21) _ _ _ _ _ _ _ _ _ _ p21 (fx2.ext (((((((z14.t z15).t z16).t z17).t z18).t z19).t z20).t z21)) rfl ur2 rfl (uqr.ext (((((((z14.t z15).t z16).t z17).t z18).t z19).t z20).t z21)) rfl (uqt.ext (((((((z14.t z15).t z16).t z17).t z18).t z19).t z20).t z21)) (fs7.ext (((((((z14.t z15).t z16).t z17).t z18).t z19).t z20).t z21)))
  ·
   rw [df h45]
   refine Gm 8 [([66, 6], .slice (Gp Gx7) x7.length cx7)] J13k ?_
   obtain rfl := sj h
   exact Goes.rt Tryz.f84 (.slice (Gp Gx7) x7.length cx7) ⟨_, _, _, _, _, rfl, hx, p1, fx7, rfl⟩
 ·
  intro rec_gram_Query_eval uqh ih_gram_Query_eval uqj ⟨x7, x35, x36, x37, uqc, uk5⟩ r h nz wz S0 w0 Lr gx1 uqb uk6 S1 w1 hx Gx7 nx7 cx7 uc7 unt unu unv p1 fx7 lx7 uny unz ur3 fs5 junk
  try dsimp only at h
  subst lx7
  subst unz
  refine Gn 5 [(38, .bool (decide (x37 < x36)))] (Ys 111010111110110010 B84 (Ys 111010111110110011 B84 J139)) ?_
  refine Gi h (fun h29 h => ?_) fun h29 h => ?_
  ·
   rw [dt h29]
   refine Gn 6 [] (Yt 111010111110110011000 B84 [0, 1, 2, 3] (Zc Qwp J146)) ?_
   refine Gg h fun g30 h => ?_
   refine Gg h fun g31 h => ?_
   refine Oi 28 (.tmp 35) (.tmp 37) 39 0 30 .i64 x37 (gi x35 x37) rfl rfl uny Goes.v g30 g31 fun a32 _ f33 q34 => ?_
   have q35 := q34
   obtain ⟨_, _, rfl, rfl, ⟨_, _, rfl, rfl, ⟨A36, c37, rfl, f38⟩⟩⟩ := kT29_open q35
   refine Goes.ldN 30 (.tmp 39) 40 30 a32 ([.i ((gi x35 x37).Op)] ++ ([.string ((gi x35 x37).Text)] ++ [.slice A36 (((gi x35 x37).L).length) c37])) (f33.cell) ?_
   refine Oa 30 9 0 (.agg #[.i 0, .string (⟨#[]⟩ : ByteArray), .slice none 0 0]) [.i 0, .string (⟨#[]⟩ : ByteArray), .slice none 0 0] p1 Goes.v fun b39 w10 z10 p10 => ?_
   refine So 30 (.tmp 9) (.tmp 40) 0 0 b39 0 ((ag (vT29 (gi x35 x37) A36 (((gi x35 x37).L).length) c37))) (vT29 (gi x35 x37) A36 (((gi x35 x37).L).length) c37) p10 rfl Goes.s fun w11 z11 p11 => ?_
   refine Gn 2 [] (Zr Qwp [0, 1, 2, 3, 4] J146) ?_
   refine Goes.ldN 30 (.tmp 9) 41 30 ⟨b39, 0, none⟩ (vT29 (gi x35 x37) A36 (((gi x35 x37).L).length) c37) (p11.pa 0 0) ?_
   refine Gn 2 [(42, (pt gx1 0)), (43, .slice (Gp Gx7) x7.length cx7)] (Zr Qwp [3, 4] J146) ?_
   obtain ⟨S12, z12, p12, f41⟩ := p11.freezeRd 1 rfl (fx7.ext (z10.t z11)) (by decide)
   have p12 := (p12.fr 3).fr 3
   refine Gb h fun y42 e43 h => ?_
   refine Gc (kc 84 [41, 42, 43] #[30, 62, 60]) 44 60 84 _ (ih_gram_Query_eval (gi x35 x37, uqc, x7, uk5) y42 e43 _ _ _ _ _ _ _ _ _ p12 (f38.ext ((z10.t z11).t z12)) rfl (ur3.ext ((z10.t z11).t z12)) f41 rfl (fs5.ext ((z10.t z11).t z12))) ?_
   rintro _ w13 ⟨S13, ur4, ur5, ur6, ur7, rfl, z13, p13, u19, rfl⟩
   have p13 := (p13.dp 3).dp 3
   refine Gm 8 [([7], .slice (Gp ur4) y42.length ur6), ([45, 37], .i (wr .i64 (x37 + 1)))] J13a ?_
   exact Gj 67 [(1, (pt gx1 0)), (7, .slice (Gp ur4) y42.length ur6), (35, .slice unt x35.length unv), (36, .i x36), (37, .i (wr .i64 (x37 + 1)))] (uqj _ _ h gx1 uqb uk6 _ _ ((((hx.t z10).t z11).t z12).t z13) _ _ _ _ _ _ _ p13 u19 rfl (uny.ext (((z10.t z11).t z12).t z13)) rfl (ur3.ext (((z10.t z11).t z12).t z13)) (fs5.ext (((z10.t z11).t z12).t z13)))
  ·
   rw [df h29]
   refine Gm 8 [([66, 6], .slice (Gp Gx7) x7.length cx7)] J13k ?_
   obtain rfl := sj h
   exact Goes.rt Tryz.f84 (.slice (Gp Gx7) x7.length cx7) ⟨_, _, _, _, _, rfl, hx, p1, fx7, rfl⟩

theorem W.z6h : ∀ a r, M.a1b a = some r → LF.z6h a r := (W.z6k).1

theorem W.z6j : ∀ a r, M.a20 a = some r → LL.z6j a r := (W.z6k).2.1

theorem W.z6i : ∀ a r, M.a35 a = some r → LL.z6i a r := (W.z6k).2.2

def J14b := Ys 111 B32 []
def J14c := Ys 1101 B32 J14b
def J14h := Ys 11111 B32 []
def Qwy := Yq 11110 B32

def Post.z6l (gx1 : Nat) (uqb : Nat) (uk6 : List (Nat × Obj)) (uqc : Nat) (uk5 : List (List (ByteArray × (List Int)))) (r : (List Int) × Int) (v : Value) (w' : World) : Prop :=
 ∃ S' unq ua0 ua1 unr, v = .tuple #[.slice (Gp unq) ua0 ua1, .i r.2] ∧ Ext S0 w0 S' w' ∧ Hp nz wz S' w' ((unq, .row 22 unr (ua1 * (kInt .u64).size) 0) :: (some gx1, .row 158 [.map (some uqb)] 1 0) :: (none, .seg 154 uk6) :: Lr) ∧ Els (kInt .u64) S' w' unr r.1 ∧ r.1.length = ua0

def L.z6m (gx1 : Nat) (uqb : Nat) (uk6 : List (Nat × Obj)) : (List Int) × T29 × Bool × Nat × (List (List (ByteArray × (List Int)))) → ((List Int) × Int) → Prop := fun ⟨x2, x3v, x15, uqc, uk5⟩ r => ∀ S1 w1, Ext S0 w0 S1 w1 → ∀ Ax2 nx2 cx2 gx3 u96 u97 u98 (_ : Hp nz wz S1 w1 ((some gx3, .row 30 (vT29 x3v u96 u97 u98) 3 0) :: (some gx1, .row 158 [.map (some uqb)] 1 0) :: (none, .seg 154 uk6) :: Lr)) (_ : Rd (kInt .u64) S1 w1 Ax2 cx2 x2) (_ : x2.length = nx2) (_ : Rd kT29 S1 w1 u96 u98 x3v.L) (_ : x3v.L.length = u97) (_ : Pa 154 S1 uqc uqb) (_ : Pl (oMap Value.string (kSl (kInt .u64))) S1 w1 uk6 uk5) (junk : Nat → Value),
 Goes Tryz.prog (base 32) J14c ⟨lfr 22 [(1, (pt gx1 0)), (2, .slice Ax2 nx2 cx2), (3, (pt gx3 0)), (15, .bool x15)] junk, []⟩ w1 (Done Tryz.prog 32 (Rets (Post.z6l nz wz S0 w0 Lr gx1 uqb uk6 uqc uk5 r)))

theorem W.z6m {nz wz S0 w0 Lr} (gx1 : Nat) (uqb : Nat) (uk6 : List (Nat × Obj)) : ∀ a r, M.a40 a = some r → L.z6m nz wz S0 w0 Lr gx1 uqb uk6 a r := by
 intro ⟨x2, x3v, x15, uqc, uk5⟩ r h S1 w1 hx Ax2 nx2 cx2 gx3 u96 u97 u98 p1 fx2 lx2 u9k u9l ur3 fs5 junk
 rw [M.a40] at h
 try dsimp only at h
 subst lx2
 subst u9l
 refine Gi h (fun h10 h => ?_) fun h10 h => ?_
 ·
  rw [h10]
  refine Gn 6 [(6, .slice none 0 0), (7, .i 2)] (Ys 110101 B32 J14b) ?_
  have p1 : Hp nz wz S1 w1 ((none, .row 22 [] (0 * (kInt .u64).size) 0) :: (some gx3, .row 30 (vT29 x3v u96 x3v.L.length u98) 3 0) :: (some gx1, .row 158 [.map (some uqb)] 1 0) :: (none, .seg 154 uk6) :: Lr) := p1.nilRow' 22
  obtain rfl := sj h
  have p1 := p1.dp 1
  exact Goes.rt Tryz.f32 (.tuple #[.slice (Gp none) 0 0, .i 2]) ⟨_, _, _, _, _, rfl, hx, p1, (Els.nil (K := (kInt .u64))), rfl⟩
 ·
  rw [bf h10]
  refine Gn 6 [(16, (pt gx1 0))] (Yt 11100 B32 [1] (Ys 11101 B32 (Ys 1111 B32 []))) ?_
  have p1 := p1.fr 1
  refine Gb h fun y12 e13 h => ?_
  refine Gc (kc 83 [16] #[62]) 17 4 83 _ (W.z5y uqc y12 e13 _ _ p1 ur3) ?_
  rintro _ w5 ⟨S5, rfl, z5, p5⟩
  refine Gn 5 [] (Zr Qwy [0, 1, 2, 3, 4, 5] J14h) ?_
  refine Goes.ldN 30 (.tmp 3) 18 30 ⟨gx3, 0, none⟩ (vT29 x3v u96 x3v.L.length u98) (p5.pa 1 0) ?_
  refine Gn 2 [(19, (pt gx1 0)), (20, .slice Ax2 x2.length cx2)] (Zr Qwy [3, 4, 5] J14h) ?_
  have p5 := (p5.fr 2).fr 1
  refine Gb h fun y14 e15 h => ?_
  refine Gc (kc 84 [18, 19, 20] #[30, 62, 60]) 21 60 84 _ (W.z6h (x3v, uqc, x2, uk5) y14 e15 _ _ _ _ _ _ _ _ _ p5 (u9k.ext z5) rfl (ur3.ext z5) (fx2.ext z5) rfl (fs5.ext z5)) ?_
  rintro _ w6 ⟨S6, ur8, ur9, ura, urb, rfl, z6, p6, u10, rfl⟩
  have p6 := p6.dp 3
  refine Gn 3 [(6, .slice (Gp ur8) y14.length ura), (7, .i 0)] J14h ?_
  obtain rfl := sj h
  exact Goes.rt Tryz.f32 (.tuple #[.slice (Gp ur8) y14.length ura, .i 0]) ⟨_, _, _, _, _, rfl, ((hx.t z5).t z6), p6, u10, rfl⟩

def Qx1 := Yq 1100 B32

theorem W.z6l (x0 : T29) (uqc : Nat) (x2 : List Int) (uk5 : List (List (ByteArray × (List Int)))) (r : (List Int) × Int) (h : M.a56 x0 uqc x2 uk5 = some r) {nz wz S0 w0 Lr} (u92 u93 u94 gx1 uqb Ax2 nx2 cx2 uk6) (p0 : Hp nz wz S0 w0 ((some gx1, .row 158 [.map (some uqb)] 1 0) :: (none, .seg 154 uk6) :: Lr)) (u9f : Rd kT29 S0 w0 u92 u94 x0.L) (u9g : x0.L.length = u93) (uqk : Pa 154 S0 uqc uqb) (fx2 : Rd (kInt .u64) S0 w0 Ax2 cx2 x2) (lx2 : x2.length = nx2) (uk7 : Pl (oMap Value.string (kSl (kInt .u64))) S0 w0 uk6 uk5) :
  Calls Tryz.prog 32 #[(ag (vT29 x0 u92 u93 u94)), (pt gx1 0), .slice Ax2 nx2 cx2] w0 (Rets (Post.z6l nz wz S0 w0 Lr gx1 uqb uk6 uqc uk5 r)) := by
 subst u9g
 subst lx2
 refine Zf Tryz.f32 B32 19 ?_
 refine Gj 22 [(0, (ag (vT29 x0 u92 x0.L.length u94))), (1, (pt gx1 0)), (2, .slice Ax2 x2.length cx2)] fun junk => ?_
 delta M.a56 at h
 refine Gn 2 [] (Yt 10 B32 [0, 1, 2] (Ys 11 B32 [])) ?_
 refine Ob 30 (.tmp 0) 3 0 (ag (vT29 x0 u92 x0.L.length u94)) (vT29 x0 u92 x0.L.length u94) p0 Goes.v fun b2 w2 z2 p2 => ?_
 refine Gn 6 [(6, .slice none 0 0), (7, .i 0)] (Zr Qx1 [0, 1, 2, 3, 4, 5, 6, 7] J14c) ?_
 refine Goes.ldN 30 (.tmp 3) 8 30 ⟨b2, 0, none⟩ (vT29 x0 u92 x0.L.length u94) (p2.pa 0 0) ?_
 refine Gb h fun y4 e5 h => ?_
 refine Gc (kc 20 [8] #[30]) 9 34 20 _ (W.z4f x0 y4 e5 _ _ _ p2 (u9f.ext z2) rfl) ?_
 rintro _ w3 ⟨S3, rfl, z3, p3⟩
 refine Gm 2 [([10, 11], .bool (!(decide (y4 = 0))))] (Zr Qx1 [4, 5, 6, 7] J14c) ?_
 refine Gi h (fun h6 h => ?_) fun h6 h => ?_
 ·
  rw [dt h6]
  refine Gn 1 [(12, .slice Ax2 x2.length cx2)] (Zr Qx1 [5, 6, 7] J14c) ?_
  refine Gb h fun y7 e8 h => ?_
  refine Gc (kc 82 [12] #[60]) 13 34 82 _ (W.z4t x2 y7 e8 _ _ _ p3 (fx2.ext (z2.t z3)) rfl) ?_
  rintro _ w4 ⟨S4, rfl, z4, p4⟩
  refine Gm 3 [([14, 15], .bool (!(decide (y7 = 0))))] J14c ?_
  exact Gj 22 [(1, (pt gx1 0)), (2, .slice Ax2 x2.length cx2), (3, (pt b2 0)), (15, .bool (!(decide (y7 = 0))))] (W.z6m gx1 uqb uk6 _ _ h _ _ ((z2.t z3).t z4) _ _ _ _ _ _ _ p4 (fx2.ext ((z2.t z3).t z4)) rfl (u9f.ext ((z2.t z3).t z4)) rfl (uqk.ext ((z2.t z3).t z4)) (uk7.ext ((z2.t z3).t z4)))
 ·
  rw [df h6]
  refine Gm 5 [([12, 13, 14], undef), ([15], .bool true)] J14c ?_
  exact Gj 22 [(1, (pt gx1 0)), (2, .slice Ax2 x2.length cx2), (3, (pt b2 0)), (15, .bool true)] (W.z6m gx1 uqb uk6 _ _ h _ _ (z2.t z3) _ _ _ _ _ _ _ p3 (fx2.ext (z2.t z3)) rfl (u9f.ext (z2.t z3)) rfl (uqk.ext (z2.t z3)) (uk7.ext (z2.t z3)))

def Qx3 := Yq 111111111110100 B6
def J14r := Zl Qx3 (Zb 4 (Ys 111111111111 B6 []))
def J14s := Zc Qx3 J14r
def J14w := Zb 5 (Ys 11111111111010011 B6 J14r)

def Post.z6n (r : Bool × (List (List (ByteArray × (List Int))))) (v : Value) (w' : World) : Prop :=
 ∃ S' Ee0, v = .bool r.1 ∧ Ext S0 w0 S' w' ∧ Hp nz wz S' w' ((none, .seg 154 Ee0) :: Lr) ∧ Pl (oMap Value.string (kSl (kInt .u64))) S' w' Ee0 r.2

def L.z6o : (List Int) × (List Int) × Int × (List (List (ByteArray × (List Int)))) → (Bool × (List (List (ByteArray × (List Int))))) → Prop := fun ⟨x8, x16, x18, e0⟩ r => ∀ S1 w1, Ext S0 w0 S1 w1 → ∀ Gx8 nx8 cx8 urc urd ure urf urg Ee0 (_ : Hp nz wz S1 w1 ((Gx8, .row 22 urc (cx8 * (kInt .u64).size) 0) :: (urd, .row 22 urg (urf * (kInt .u64).size) 0) :: (none, .seg 154 Ee0) :: Lr)) (_ : Els (kInt .u64) S1 w1 urc x8) (_ : x8.length = nx8) (_ : Els (kInt .u64) S1 w1 urg x16) (_ : x16.length = ure) (_ : Pl (oMap Value.string (kSl (kInt .u64))) S1 w1 Ee0 e0) (junk : Nat → Value),
 Goes Tryz.prog (base 6) J14s ⟨lfr 122 [(8, .slice (Gp Gx8) nx8 cx8), (16, .slice (Gp urd) ure urf), (18, .i x18)] junk, []⟩ w1 (Done Tryz.prog 6 (Rets (Post.z6n nz wz S0 w0 Lr r)))

theorem W.z6o {nz wz S0 w0 Lr} : ∀ a r, M.a36 a = some r → (L.z6o nz wz S0 w0 Lr) a r := by
 refine M.a36.partial_correctness (motive := (L.z6o nz wz S0 w0 Lr)) ?_
 intro urh uri ⟨x8, x16, x18, e0⟩ r h S1 w1 hx Gx8 nx8 cx8 urc urd ure urf urg Ee0 p1 fx8 lx8 urj urk fe0 junk
 try dsimp only at h
 subst lx8
 subst urk
 refine Gn 8 [(107, .i x18), (108, .slice (Gp urd) x16.length urf), (109, .i (x16.length : Int)), (110, .bool (decide (x18 < (x16.length : Int))))] (Ys 11111111111010001 B6 (Ys 1111111111101001 B6 J14r)) ?_
 refine Gi h (fun h93 h => ?_) fun h93 h => ?_
 ·
  rw [dt h93]
  refine Gn 5 [] (Ys 1111111111101001000 B6 (Ys 1111111111101001001 B6 J14w)) ?_
  have z22 : Ext S1 w1 S1 (w1).drew := Ext.draw
  have p22 := p1.draw
  refine Gd [] (Fc S1 (w1).drew ([] ++ (rowCellsO urd urg ++ (rowCellsO Gx8 urc ++ [])))) 29 9 ?_
  generalize (w1).drew = w22 at z22 p22 ⊢
  refine AnyG.pu 0 (.move (.tmp 16)) 113 60 (.slice (Gp urd) x16.length urf) (Fc.here (Cells.app trivial (Cells.app (Cells.rowO (p22.mem 1 rfl)) (Cells.app (Cells.rowO (p22.mem 0 rfl)) trivial)))) ?_
  refine AnyG.pu 1 (.move (.tmp 18)) 114 3 (.i x18) (Fc.here (Cells.app trivial (Cells.app (Cells.rowO (p22.mem 1 rfl)) (Cells.app (Cells.rowO (p22.mem 0 rfl)) trivial)))) ?_
  refine Gg h fun g94 h => ?_
  refine AnyG.ixO_n (i := 2) 60 (.tmp 113) (.tmp 114) 115 0 22 .i64 x18 1 x16.length urf (gi x16 x18) rfl rfl p22 rfl (urj.ext z22) (by kernel_rfl) (by kernel_rfl) (Fc.here (Cells.app trivial (Cells.app (Cells.rowO (p22.mem 1 rfl)) (Cells.app (Cells.rowO (p22.mem 0 rfl)) trivial)))) (by kernel_rfl) (by kernel_rfl) (by kernel_rfl) (by kernel_rfl) (by decide) g94 h93 ?_
  rintro b95 _ rfl q97 f99 f96
  obtain rfl := q97
  refine Al 3 22 (.tmp 115) 116 22 ⟨b95, (x18 : Int).toNat * (kInt .u64).size, none⟩ (.u (gi x16 x18)) (Fc.here (Cells.app trivial (Cells.app (Cells.rowO (p22.mem 1 rfl)) (Cells.app (Cells.rowO (p22.mem 0 rfl)) trivial)))) (fun _ h => h.2.right.left.rowAt (f99 0 _ rfl)) ?_
  refine AnyG.pu 4 (.move (.tmp 8)) 117 60 (.slice (Gp Gx8) x8.length cx8) (Fc.here (Cells.app trivial (Cells.app (Cells.rowO (p22.mem 1 rfl)) (Cells.app (Cells.rowO (p22.mem 0 rfl)) trivial)))) ?_
  refine AnyG.pu 5 (.move (.tmp 18)) 118 3 (.i x18) (Fc.here (Cells.app trivial (Cells.app (Cells.rowO (p22.mem 1 rfl)) (Cells.app (Cells.rowO (p22.mem 0 rfl)) trivial)))) ?_
  refine Gg h fun url h => ?_
  refine AnyG.ixO_n (i := 6) 60 (.tmp 117) (.tmp 118) 119 0 22 .i64 x18 0 x8.length cx8 (gi x8 x18) rfl rfl p22 rfl (fx8.ext z22) (by kernel_rfl) (by kernel_rfl) (Fc.here (Cells.app trivial (Cells.app (Cells.rowO (p22.mem 1 rfl)) (Cells.app (Cells.rowO (p22.mem 0 rfl)) trivial)))) (by kernel_rfl) (by kernel_rfl) (by kernel_rfl) (by kernel_rfl) (by decide) g94 url ?_
  rintro urm _ rfl urn uro urp
  obtain rfl := urn
  refine Al 7 22 (.tmp 119) 120 22 ⟨urm, (x18 : Int).toNat * (kInt .u64).size, none⟩ (.u (gi x8 x18)) (Fc.here (Cells.app trivial (Cells.app (Cells.rowO (p22.mem 1 rfl)) (Cells.app (Cells.rowO (p22.mem 0 rfl)) trivial)))) (fun _ h => h.2.right.right.left.rowAt (uro 0 _ rfl)) ?_
  refine AnyG.pu 8 (.binOp .neq 22 (.tmp 116) (.tmp 120) 22) 121 4 (.bool (!(decide (gi x16 x18 = gi x8 x18)))) (Fc.here (Cells.app trivial (Cells.app (Cells.rowO (p22.mem 1 rfl)) (Cells.app (Cells.rowO (p22.mem 0 rfl)) trivial)))) ?_
  refine Ad ?_
  refine Gi h (fun urq h => ?_) fun urq h => ?_
  ·
   rw [dt urq]
   refine Gm 9 [([111], .i x18), ([112, 18], .i (wr .i64 (x18 + 1)))] J14s ?_
   exact Gj 122 [(8, .slice (Gp (some urm)) x8.length cx8), (16, .slice (Gp (some b95)) x16.length urf), (18, .i (wr .i64 (x18 + 1)))] (uri _ _ h _ _ (hx.t z22) (some urm) _ _ _ (some b95) _ _ _ _ p22 (fx8.ext z22) rfl (urj.ext z22) rfl (fe0.ext z22))
  ·
   rw [df urq]
   refine Gn 5 [(4, .bool false)] (Ys 111111111110100100101 B6 J14w) ?_
   obtain rfl := sj h
   have p22 := (p22.dp 0).dp 0
   exact Goes.rt Tryz.f6 (.bool false) ⟨_, _, rfl, (hx.t z22), p22, (fe0.ext z22)⟩
 ·
  rw [df h93]
  refine Gn 6 [(4, .bool true)] (Ys 1111111111111 B6 []) ?_
  obtain rfl := sj h
  have p1 := (p1.dp 0).dp 0
  exact Goes.rt Tryz.f6 (.bool true) ⟨_, _, rfl, hx, p1, fe0⟩

def J151 := Ys 1111111111 B6 []
def J152 := Ys 1111111110101 B6 J151

def L.z6p : Bool × (List (List (ByteArray × (List Int)))) → (Bool × (List (List (ByteArray × (List Int))))) → Prop := fun ⟨x4, e0⟩ r => ∀ S1 w1, Ext S0 w0 S1 w1 → ∀ Ee0 (_ : Hp nz wz S1 w1 ((none, .seg 154 Ee0) :: Lr)) (_ : Pl (oMap Value.string (kSl (kInt .u64))) S1 w1 Ee0 e0) (junk : Nat → Value),
 Goes Tryz.prog (base 6) J152 ⟨lfr 122 [(4, .bool x4)] junk, []⟩ w1 (Done Tryz.prog 6 (Rets (Post.z6n nz wz S0 w0 Lr r)))

theorem W.z6p {nz wz S0 w0 Lr} : ∀ a r, M.a57 a = some r → L.z6p nz wz S0 w0 Lr a r := by
 intro ⟨x4, e0⟩ r h S1 w1 hx Ee0 p1 fe0 junk
 rw [M.a57] at h
 try dsimp only at h
 obtain rfl := sj h
 exact Goes.rt Tryz.f6 (.bool x4) ⟨_, _, rfl, hx, p1, fe0⟩

end

end Go.Gx
