import Derived.Test.YtbclkjbkebebeaaGreatWIva

set_option linter.unusedVariables false

set_option linter.unusedSimpArgs false

set_option maxRecDepth 100000

set_option maxHeartbeats 4000000

namespace Go.Gx

open Go.RowKit Go.Proofs

variable (nz : Nat) (wz : World) (S0 : Fz) (w0 : World) (Lr : List Ent)

noncomputable section

def Q8x := Yq 1100 B227
def Jba := Zl Q8x J3k
def Jbb := Zc Q8x Jba
def Q8z := Yq 1100100100 B227
def Jbf := Zl Q8z (Zb 2 (Zb 1 (Ys 110011 B227 Jba)))
def Jbg := Zc Q8z Jbf
def Jbi := Ys 110010010001 B227 (Ys 11001001001 B227 Jbf)

def Post.z2f (Gx0 : Option Nat) (nx0 : Nat) (cx0 : Nat) (r : List Int) (v : Value) (w' : World) : Prop :=
 ∃ S' uf1, v = .tuple #[] ∧ Ext S0 w0 S' w' ∧ Hp nz wz S' w' ((Gx0, .row 35 uf1 (cx0 * (kInt .u64).size) 0) :: Lr) ∧ Els (kInt .u64) S' w' uf1 r ∧ r.length = nx0

def L.z2g (Gx0 : Option Nat) (nx0 : Nat) (cx0 : Nat) : Int × Int × Int × (List Int) → (List Int) → Prop := fun ⟨x1, x2, x6, e0⟩ r => ∀ S1 w1, Ext S0 w0 S1 w1 → ∀ uf1 (_ : Hp nz wz S1 w1 ((Gx0, .row 35 uf1 (cx0 * (kInt .u64).size) 0) :: Lr)) (_ : Els (kInt .u64) S1 w1 uf1 e0) (_ : e0.length = nx0) (junk : Nat → Value),
 Goes Tryz.prog (base 227) Jbb ⟨lfr 49 [(0, .slice (Gp Gx0) nx0 cx0), (1, .i x1), (2, .i x2), (6, .i x6)] junk, []⟩ w1 (Done Tryz.prog 227 (Rets (Post.z2f nz wz S0 w0 Lr Gx0 nx0 cx0 r)))

def L.z2h (Gx0 : Option Nat) (nx0 : Nat) (cx0 : Nat) : Int × Int × Int × Int × (List Int) → (List Int) → Prop := fun ⟨x1, x2, x6, x7, e0⟩ r => ∀ S1 w1, Ext S0 w0 S1 w1 → ∀ uf1 (_ : Hp nz wz S1 w1 ((Gx0, .row 35 uf1 (cx0 * (kInt .u64).size) 0) :: Lr)) (_ : Els (kInt .u64) S1 w1 uf1 e0) (_ : e0.length = nx0) (junk : Nat → Value),
 Goes Tryz.prog (base 227) Jbg ⟨lfr 49 [(0, .slice (Gp Gx0) nx0 cx0), (1, .i x1), (2, .i x2), (6, .i x6), (7, .i x7)] junk, []⟩ w1 (Done Tryz.prog 227 (Rets (Post.z2f nz wz S0 w0 Lr Gx0 nx0 cx0 r)))

def L.z2i (Gx0 : Option Nat) (nx0 : Nat) (cx0 : Nat) : Int × Int × Int × Int × Bool × (List Int) → (List Int) → Prop := fun ⟨x1, x2, x6, x7, x30, e0⟩ r => ∀ S1 w1, Ext S0 w0 S1 w1 → ∀ uf1 (_ : Hp nz wz S1 w1 ((Gx0, .row 35 uf1 (cx0 * (kInt .u64).size) 0) :: Lr)) (_ : Els (kInt .u64) S1 w1 uf1 e0) (_ : e0.length = nx0) (junk : Nat → Value),
 Goes Tryz.prog (base 227) Jbi ⟨lfr 49 [(0, .slice (Gp Gx0) nx0 cx0), (1, .i x1), (2, .i x2), (6, .i x6), (7, .i x7), (30, .bool x30)] junk, []⟩ w1 (Done Tryz.prog 227 (Rets (Post.z2f nz wz S0 w0 Lr Gx0 nx0 cx0 r)))

theorem W.z2j {nz wz S0 w0 Lr} (Gx0 : Option Nat) (nx0 : Nat) (cx0 : Nat) : (∀ a r, M.af a = some r → (L.z2g nz wz S0 w0 Lr Gx0 nx0 cx0) a r) ∧ (∀ a r, M.aq a = some r → (L.z2h nz wz S0 w0 Lr Gx0 nx0 cx0) a r) ∧ (∀ a r, M.ar a = some r → (L.z2i nz wz S0 w0 Lr Gx0 nx0 cx0) a r) := by
 refine M.af.mutual_partial_correctness (L.z2g nz wz S0 w0 Lr Gx0 nx0 cx0) (L.z2h nz wz S0 w0 Lr Gx0 nx0 cx0) (L.z2i nz wz S0 w0 Lr Gx0 nx0 cx0) ?_ ?_ ?_
 ·
  intro uf2 uf3 ⟨x1, x2, x6, e0⟩ r h S1 w1 hx uf1 p1 fe0 le0 junk
  try dsimp only at h
  subst le0
  refine Hn 7 (Ys 110001 B227 (Ys 11001 B227 Jba)) ?_
  refine Hb [(12, .bool (decide (x6 < x2)))] ?_
  refine Gi h (fun h2 h => ?_) fun h2 h => ?_
  ·
   rw [dt h2]
   refine Hn 11 Jbg ?_
   exact Gk (uf3 _ _ h _ _ hx _ p1 fe0 rfl)
  ·
   rw [df h2]
   refine Hn 2 [] ?_
   obtain rfl := sj h
   exact Goes.end_ (fn := Tryz.f227) (by kernel_rfl) (v := .tuple #[]) (by kernel_rfl) ⟨S1, uf1, rfl, hx, p1, fe0, rfl⟩
 ·
  intro uf4 uf5 ⟨x1, x2, x6, x7, e0⟩ r h S1 w1 hx uf1 p1 fe0 le0 junk
  try dsimp only at h
  subst le0
  refine Hn 2 (Ys 110010010000 B227 Jbi) ?_
  have z2 : Ext S1 w1 S1 (w1).drew := Ext.draw
  have p2 := p1.draw
  refine Gd [13] (Fc S1 (w1).drew ([] ++ (rowCellsO Gx0 uf1 ++ []))) 4 15 ?_
  generalize (w1).drew = w2 at z2 p2 ⊢
  refine Hq [0, 1, 2, 3] 4 (p2.g 0) ?_
  refine HbA [(18, .bool (decide (x7 > x1))), (19, .bool (decide (x7 > x1)))] ?_
  refine Gi h (fun h3 h => ?_) fun h3 h => ?_
  ·
   rw [dt h3]
   refine Hq [4, 5] 2 (p2.g 0) ?_
   refine Gg h fun g4 h => ?_
   refine Gg h fun g5 h => ?_
   refine Hx 6 .i64 0 cx0 rfl rfl p2 rfl (fe0.ext z2) (p2.g 0) g4 g5 ?_
   rintro b6 _ rfl q8 f10 f7
   obtain rfl := q8
   refine Hl 7 (p2.g 0) (fun _ h => h.2.right.left.rowAt (f10 0 _ rfl)) ?_
   refine Hq [8, 9, 10] 3 (p2.g 0) ?_
   refine Gg h fun g11 h => ?_
   refine Gg h fun g12 h => ?_
   refine Hx 11 .i64 0 cx0 rfl rfl p2 rfl (fe0.ext z2) (p2.g 0) g11 g12 ?_
   rintro b13 _ e16 q15 f17 f14
   injection e16 with uf6; subst uf6
   obtain rfl := q15
   refine Hl 12 (p2.g 0) (fun _ h => h.2.right.left.rowAt (f17 0 _ rfl)) ?_
   refine Gb h fun y18 e19 h => ?_
   refine Oc (kc 157 [23, 28] #[35, 35]) 29 4 157 #[.u (gi e0 x7), .u (gi e0 (wr .i64 (x7 - 1)))] (Ac 13) (W.z2e (gi e0 x7) (gi e0 (wr .i64 (x7 - 1))) y18 e19  p2 ) ?_
   rintro _ w3 ⟨S3, rfl, z3, p3⟩
   refine AnyG.last [] (Fc S3 w3 []) (by decide) ?_
   refine Hq [14] 1 (Fc.here trivial) ?_
   refine Ad ?_
   exact Gk (uf5 _ _ h _ _ ((hx.t z2).t z3) _ p3 (fe0.ext (z2.t z3)) rfl)
  ·
   rw [df h3]
   refine Hq [4, 5, 6, 7, 8, 9, 10, 11, 12] 9 (p2.g 0) ?_
   refine Ak 13 29 ?_
   refine Hq [14] 1 (p2.g 0) ?_
   refine Ad ?_
   exact Gk (uf5 _ _ h _ _ (hx.t z2) _ p2 (fe0.ext z2) rfl)
 ·
  intro uf7 uf2 uf8 uf3 ⟨x1, x2, x6, x7, x30, e0⟩ r h S1 w1 hx uf1 p1 fe0 le0 junk
  try dsimp only at h
  subst le0
  refine Hb [(30, .bool x30)] ?_
  refine Gi h (fun h20 h => ?_) fun h20 h => ?_
  ·
   rw [h20]
   refine Hn 4 (Ys 1100100100100 B227 (Zb 3 (Ys 110010010011 B227 Jbf))) ?_
   have z4 : Ext S1 w1 S1 (w1).drew := Ext.draw
   have p4 := p1.draw
   refine Gd [15, 17] (Fc S1 (w1).drew ([] ++ (rowCellsO Gx0 uf1 ++ []))) 6 18 ?_
   generalize (w1).drew = w4 at z4 p4 ⊢
   refine Hq [0, 1, 2, 3, 4, 5, 6, 7] 8 (p4.g 0) ?_
   refine Gg h fun g21 h => ?_
   refine Gg h fun g22 h => ?_
   refine Hx 8 .i64 0 cx0 rfl rfl p4 rfl (fe0.ext z4) (p4.g 0) g21 g22 ?_
   rintro b23 _ rfl q25 f27 f24
   obtain rfl := q25
   refine Hl 9 (p4.g 0) (fun _ h => h.2.right.left.rowAt (f27 0 _ rfl)) ?_
   refine Hq [10, 11] 2 (p4.g 0) ?_
   refine Gg h fun g28 h => ?_
   refine Gg h fun g29 h => ?_
   refine Hx 12 .i64 0 cx0 rfl rfl p4 rfl (fe0.ext z4) (p4.g 0) g28 g29 ?_
   rintro b30 _ e33 q32 f34 f31
   injection e33 with uf9; subst uf9
   obtain rfl := q32
   refine Hl 13 (p4.g 0) (fun _ h => h.2.right.left.rowAt (f34 0 _ rfl)) ?_
   refine Hx 14 .i64 0 cx0 rfl rfl p4 rfl (fe0.ext z4) (p4.g 0) g28 g29 ?_
   rintro b35 _ e38 q37 f39 f36
   injection e38 with ufa; subst ufa
   obtain rfl := q37
   refine Op_.stE_n (K := (kInt .u64)) 35 (.tmp 47) (.tmp 42) 0 0 x7 (.u (gi e0 (wr .i64 (x7 - 1)))) [.u (gi e0 (wr .i64 (x7 - 1)))] (gi e0 (wr .i64 (x7 - 1))) (si e0 x7 (gi e0 (wr .i64 (x7 - 1)))) e0.length rfl rfl p4 rfl (fe0.ext z4) (As 15) (by kernel_rfl) (by kernel_rfl) (by kernel_rfl) rfl (by kernel_rfl) g28 g29 (Nat.zero_le _) fun w5 ufb z5 p5 f41 l42 => ?_
   refine AnyG.last [17] (Fc S1 w5 []) (by decide) ?_
   refine Gl h fun v46 e47 h => ?_
   refine Hx 16 .i64 0 cx0 l42 e47 p5 rfl f41 (Fc.here trivial) g21 g22 ?_
   rintro b43 _ e48 q45 f49 f44
   injection e48 with ufc; subst ufc
   obtain rfl := q45
   refine Gl h fun v50 e51 h => ?_
   refine Op_.stE_n (K := (kInt .u64)) 35 (.tmp 48) (.tmp 46) 0 0 (wr .i64 (x7 - 1)) (.u (gi e0 x7)) [.u (gi e0 x7)] (gi e0 x7) v50 e0.length l42 e51 p5 rfl f41 (As 17) (by kernel_rfl) (by kernel_rfl) (by kernel_rfl) rfl (by kernel_rfl) g21 g22 (Nat.zero_le _) fun w6 ufd z6 p6 f53 l54 => ?_
   refine AnyG.last [] (Fc S1 w6 []) (by decide) ?_
   refine Ad ?_
   refine Hn 7 Jbg ?_
   exact Gk (uf3 _ _ h _ _ (((hx.t z4).t z5).t z6) _ p6 f53 l54)
  ·
   rw [bf h20]
   refine Hn 9 Jbb ?_
   exact Gk (uf8 _ _ h _ _ hx _ p1 fe0 rfl)

theorem W.z2g {nz wz S0 w0 Lr} (Gx0 : Option Nat) (nx0 : Nat) (cx0 : Nat) : ∀ a r, M.af a = some r → (L.z2g nz wz S0 w0 Lr Gx0 nx0 cx0) a r := (W.z2j Gx0 nx0 cx0).1

theorem W.z2h {nz wz S0 w0 Lr} (Gx0 : Option Nat) (nx0 : Nat) (cx0 : Nat) : ∀ a r, M.aq a = some r → (L.z2h nz wz S0 w0 Lr Gx0 nx0 cx0) a r := (W.z2j Gx0 nx0 cx0).2.1

theorem W.z2i {nz wz S0 w0 Lr} (Gx0 : Option Nat) (nx0 : Nat) (cx0 : Nat) : ∀ a r, M.ar a = some r → (L.z2i nz wz S0 w0 Lr Gx0 nx0 cx0) a r := (W.z2j Gx0 nx0 cx0).2.2

theorem W.z2f (x0 : List Int) (x1 : Int) (x2 : Int) (r : List Int) (h : M.a2g x0 x1 x2 = some r) {nz wz S0 w0 Lr} (Gx0 nx0 cx0 uff) (p0 : Hp nz wz S0 w0 ((Gx0, .row 35 uff (cx0 * (kInt .u64).size) 0) :: Lr)) (fx0 : Els (kInt .u64) S0 w0 uff x0) (lx0 : x0.length = nx0) :
  Calls Tryz.prog 227 #[.slice (Gp Gx0) nx0 cx0, .i x1, .i x2] w0 (Rets (Post.z2f nz wz S0 w0 Lr Gx0 nx0 cx0 r)) := by
 subst lx0
 refine Zf Tryz.f227 B227 46 ?_
 refine Gj 49 [(0, .slice (Gp Gx0) x0.length cx0), (1, .i x1), (2, .i x2)] fun junk => ?_
 delta M.a2g at h
 refine Hn 8 Jbb ?_
 exact Gk (W.z2g Gx0 x0.length cx0 _ _ h _ _ (Ext.refl S0 w0) _ p0 fx0 rfl)

def Q97 := Yq 1100 B246
def Jbp := Zl Q97 J3k
def Jbq := Zc Q97 Jbp
def Jbr := Zb 1 Jbp
def Jbs := Ys 11000111 B246 Jbr
def Jbt := Ys 110001101 B246 Jbs
def Jbv := Ys 11000101 B246 (Ys 1100011 B246 Jbr)
def Jby := Ys 110001111 B246 Jbr

def Post.z2k (Gx0 : Option Nat) (nx0 : Nat) (cx0 : Nat) (r : List Int) (v : Value) (w' : World) : Prop :=
 ∃ S' uf1, v = .tuple #[] ∧ Ext S0 w0 S' w' ∧ Hp nz wz S' w' ((Gx0, .row 35 uf1 (cx0 * (kInt .u64).size) 0) :: Lr) ∧ Els (kInt .u64) S' w' uf1 r ∧ r.length = nx0

def L.z2l (Gx0 : Option Nat) (nx0 : Nat) (cx0 : Nat) : Int × Int × Int × (List Int) → (List Int) → Prop := fun ⟨x2, x3, x8, e0⟩ r => ∀ S1 w1, Ext S0 w0 S1 w1 → ∀ uf1 (_ : Hp nz wz S1 w1 ((Gx0, .row 35 uf1 (cx0 * (kInt .u64).size) 0) :: Lr)) (_ : Els (kInt .u64) S1 w1 uf1 e0) (_ : e0.length = nx0) (junk : Nat → Value),
 Goes Tryz.prog (base 246) Jbq ⟨lfr 76 [(0, .slice (Gp Gx0) nx0 cx0), (2, .i x2), (3, .i x3), (8, .i x8)] junk, []⟩ w1 (Done Tryz.prog 246 (Rets (Post.z2k nz wz S0 w0 Lr Gx0 nx0 cx0 r)))

def L.z2m (Gx0 : Option Nat) (nx0 : Nat) (cx0 : Nat) : Int × Int × Int × Int × Bool × (List Int) → (List Int) → Prop := fun ⟨x2, x3, x8, x9, x36, e0⟩ r => ∀ S1 w1, Ext S0 w0 S1 w1 → ∀ uf1 (_ : Hp nz wz S1 w1 ((Gx0, .row 35 uf1 (cx0 * (kInt .u64).size) 0) :: Lr)) (_ : Els (kInt .u64) S1 w1 uf1 e0) (_ : e0.length = nx0) (junk : Nat → Value),
 Goes Tryz.prog (base 246) Jbt ⟨lfr 76 [(0, .slice (Gp Gx0) nx0 cx0), (2, .i x2), (3, .i x3), (8, .i x8), (9, .i x9), (36, .bool x36)] junk, []⟩ w1 (Done Tryz.prog 246 (Rets (Post.z2k nz wz S0 w0 Lr Gx0 nx0 cx0 r)))

def L.z2n (Gx0 : Option Nat) (nx0 : Nat) (cx0 : Nat) : Int × Int × Int × Int × (List Int) → (List Int) → Prop := fun ⟨x2, x3, x8, x9, e0⟩ r => ∀ S1 w1, Ext S0 w0 S1 w1 → ∀ uf1 (_ : Hp nz wz S1 w1 ((Gx0, .row 35 uf1 (cx0 * (kInt .u64).size) 0) :: Lr)) (_ : Els (kInt .u64) S1 w1 uf1 e0) (_ : e0.length = nx0) (junk : Nat → Value),
 Goes Tryz.prog (base 246) Jbs ⟨lfr 76 [(0, .slice (Gp Gx0) nx0 cx0), (2, .i x2), (3, .i x3), (8, .i x8), (9, .i x9)] junk, []⟩ w1 (Done Tryz.prog 246 (Rets (Post.z2k nz wz S0 w0 Lr Gx0 nx0 cx0 r)))

theorem W.z2o {nz wz S0 w0 Lr} (Gx0 : Option Nat) (nx0 : Nat) (cx0 : Nat) : (∀ a r, M.ag a = some r → (L.z2l nz wz S0 w0 Lr Gx0 nx0 cx0) a r) ∧ (∀ a r, M.a17 a = some r → (L.z2m nz wz S0 w0 Lr Gx0 nx0 cx0) a r) ∧ (∀ a r, M.a18 a = some r → (L.z2n nz wz S0 w0 Lr Gx0 nx0 cx0) a r) := by
 refine M.ag.mutual_partial_correctness (L.z2l nz wz S0 w0 Lr Gx0 nx0 cx0) (L.z2m nz wz S0 w0 Lr Gx0 nx0 cx0) (L.z2n nz wz S0 w0 Lr Gx0 nx0 cx0) ?_ ?_ ?_
 ·
  intro ufg ufh ⟨x2, x3, x8, e0⟩ r h S1 w1 hx uf1 p1 fe0 le0 junk
  try dsimp only at h
  subst le0
  refine Hn 14 (Yt 11000100 B246 [] Jbv) ?_
  refine Hn 1 Jbv ?_
  refine Hb [(16, .bool (decide (wr .i64 ((wr .i64 (2 * x8)) + 1) ≥ x2)))] ?_
  refine Gi h (fun h2 h => ?_) fun h2 h => ?_
  ·
   rw [dt h2]
   refine Hn 2 [] ?_
   obtain rfl := sj h
   exact Goes.end_ (fn := Tryz.f246) (by kernel_rfl) (v := .tuple #[]) (by kernel_rfl) ⟨S1, uf1, rfl, hx, p1, fe0, rfl⟩
  ·
   rw [df h2]
   refine Hn 4 (Ys 110001100 B246 Jbt) ?_
   have z2 : Ext S1 w1 S1 (w1).drew := Ext.draw
   have p2 := p1.draw
   refine Gd [18] (Fc S1 (w1).drew ([] ++ (rowCellsO Gx0 uf1 ++ []))) 3 20 ?_
   generalize (w1).drew = w2 at z2 p2 ⊢
   refine Hq [0, 1, 2, 3, 4] 5 (p2.g 0) ?_
   refine HbA [(20, .bool (decide (wr .i64 ((wr .i64 ((wr .i64 (2 * x8)) + 1)) + 1) < x2))), (21, .bool (decide (wr .i64 ((wr .i64 ((wr .i64 (2 * x8)) + 1)) + 1) < x2)))] ?_
   refine Gi h (fun h3 h => ?_) fun h3 h => ?_
   ·
    rw [dt h3]
    refine Hq [5, 6, 7, 8] 4 (p2.g 0) ?_
    refine Gg h fun g4 h => ?_
    refine Gg h fun g5 h => ?_
    refine Gl h fun v9 e10 h => ?_
    refine Hx 9 .i64 0 cx0 rfl e10 p2 rfl (fe0.ext z2) (p2.g 0) g4 g5 ?_
    rintro b6 _ rfl q8 f12 f7
    obtain rfl := q8
    refine Hl 10 (p2.g 0) (fun _ h => h.2.right.left.rowAt (f12 0 _ rfl)) ?_
    refine Hq [11, 12, 13, 14, 15] 5 (p2.g 0) ?_
    refine Gg h fun g13 h => ?_
    refine Gg h fun g14 h => ?_
    refine Gl h fun v18 e19 h => ?_
    refine Hx 16 .i64 0 cx0 rfl e19 p2 rfl (fe0.ext z2) (p2.g 0) g13 g14 ?_
    rintro b15 _ e20 q17 f21 f16
    injection e20 with ufi; subst ufi
    obtain rfl := q17
    refine Hl 17 (p2.g 0) (fun _ h => h.2.right.left.rowAt (f21 0 _ rfl)) ?_
    refine Gb h fun y22 e23 h => ?_
    refine Oc (kc 157 [27, 34] #[35, 35]) 35 4 157 #[.u v9, .u v18] (Ac 18) (W.z2e v9 v18 y22 e23  p2 ) ?_
    rintro _ w3 ⟨S3, rfl, z3, p3⟩
    refine AnyG.last [] (Fc S3 w3 []) (by decide) ?_
    refine Hq [19] 1 (Fc.here trivial) ?_
    refine Ad ?_
    exact Gk (ufh _ _ h _ _ ((hx.t z2).t z3) _ p3 (fe0.ext (z2.t z3)) rfl)
   ·
    rw [df h3]
    refine Hq [5, 6, 7, 8, 9, 10, 11, 12, 13, 14, 15, 16, 17] 13 (p2.g 0) ?_
    refine Ak 18 35 ?_
    refine Hq [19] 1 (p2.g 0) ?_
    refine Ad ?_
    exact Gk (ufh _ _ h _ _ (hx.t z2) _ p2 (fe0.ext z2) rfl)
 ·
  intro ufj ufk ⟨x2, x3, x8, x9, x36, e0⟩ r h S1 w1 hx uf1 p1 fe0 le0 junk
  try dsimp only at h
  subst le0
  refine Hb [(36, .bool x36)] ?_
  refine Gi h (fun h24 h => ?_) fun h24 h => ?_
  ·
   rw [h24]
   refine Hn 6 Jbs ?_
   exact Gk (ufk _ _ h _ _ hx _ p1 fe0 rfl)
  ·
   rw [bf h24]
   refine Hn 2 Jbs ?_
   exact Gk (ufk _ _ h _ _ hx _ p1 fe0 rfl)
 ·
  intro ufm ufn ⟨x2, x3, x8, x9, e0⟩ r h S1 w1 hx uf1 p1 fe0 le0 junk
  try dsimp only at h
  subst le0
  refine Hn 2 (Ys 1100011100 B246 (Ys 1100011101 B246 Jby)) ?_
  have z4 : Ext S1 w1 S1 (w1).drew := Ext.draw
  have p4 := p1.draw
  refine Gd [12] (Fc S1 (w1).drew ([] ++ (rowCellsO Gx0 uf1 ++ []))) 5 14 ?_
  generalize (w1).drew = w4 at z4 p4 ⊢
  refine Hq [0, 1, 2, 3] 4 (p4.g 0) ?_
  refine Gg h fun g25 h => ?_
  refine Gg h fun g26 h => ?_
  refine Hx 4 .i64 0 cx0 rfl rfl p4 rfl (fe0.ext z4) (p4.g 0) g25 g26 ?_
  rintro b27 _ rfl q29 f31 f28
  obtain rfl := q29
  refine Hl 5 (p4.g 0) (fun _ h => h.2.right.left.rowAt (f31 0 _ rfl)) ?_
  refine Hq [6, 7, 8, 9] 4 (p4.g 0) ?_
  refine Gg h fun g32 h => ?_
  refine Gg h fun g33 h => ?_
  refine Hx 10 .i64 0 cx0 rfl rfl p4 rfl (fe0.ext z4) (p4.g 0) g32 g33 ?_
  rintro b34 _ e37 q36 f38 f35
  injection e37 with ufo; subst ufo
  obtain rfl := q36
  refine Hl 11 (p4.g 0) (fun _ h => h.2.right.left.rowAt (f38 0 _ rfl)) ?_
  refine Gb h fun y39 e40 h => ?_
  refine Oc (kc 157 [44, 50] #[35, 35]) 51 4 157 #[.u (gi e0 (wr .i64 (x3 + x8))), .u (gi e0 (wr .i64 (x3 + x9)))] (Ac 12) (W.z2e (gi e0 (wr .i64 (x3 + x8))) (gi e0 (wr .i64 (x3 + x9))) y39 e40  p4 ) ?_
  rintro _ w5 ⟨S5, rfl, z5, p5⟩
  refine AnyG.last [] (Fc S5 w5 []) (by decide) ?_
  refine Hq [13] 1 (Fc.here trivial) ?_
  refine Ad ?_
  refine Hb [(51, .bool y39), (52, .bool (!y39))] ?_
  refine Gi h (fun h41 h => ?_) fun h41 h => ?_
  ·
   rw [h41]
   refine Hn 3 (Ys 1100011110 B246 (Ys 1100011111 B246 Jbr)) ?_
   have z6 : Ext S5 w5 S5 (w5).drew := Ext.draw
   have p6 := p5.draw
   refine Gd [21, 23] (Fc S5 (w5).drew ([] ++ (rowCellsO (some b27) uf1 ++ []))) 6 24 ?_
   generalize (w5).drew = w6 at z6 p6 ⊢
   refine Hq [0, 1, 2, 3, 4, 5, 6, 7, 8, 9, 10, 11] 12 (p6.g 0) ?_
   refine Hx 12 .i64 0 cx0 rfl rfl p6 rfl (fe0.ext ((z4.t z5).t z6)) (p6.g 0) g32 g33 ?_
   rintro b42 _ e45 q44 f46 f43
   injection e45 with ufp; subst ufp
   obtain rfl := q44
   refine Hl 13 (p6.g 0) (fun _ h => h.2.right.left.rowAt (f46 0 _ rfl)) ?_
   refine Hq [14, 15, 16, 17] 4 (p6.g 0) ?_
   refine Hx 18 .i64 0 cx0 rfl rfl p6 rfl (fe0.ext ((z4.t z5).t z6)) (p6.g 0) g25 g26 ?_
   rintro b47 _ e50 q49 f51 f48
   injection e50 with ufq; subst ufq
   obtain rfl := q49
   refine Hl 19 (p6.g 0) (fun _ h => h.2.right.left.rowAt (f51 0 _ rfl)) ?_
   refine Hx 20 .i64 0 cx0 rfl rfl p6 rfl (fe0.ext ((z4.t z5).t z6)) (p6.g 0) g25 g26 ?_
   rintro b52 _ e55 q54 f56 f53
   injection e55 with ufr; subst ufr
   obtain rfl := q54
   refine Gl h fun v57 e58 h => ?_
   refine Op_.stE_n (K := (kInt .u64)) 35 (.tmp 73) (.tmp 66) 0 0 (wr .i64 (x3 + x8)) (.u (gi e0 (wr .i64 (x3 + x9)))) [.u (gi e0 (wr .i64 (x3 + x9)))] (gi e0 (wr .i64 (x3 + x9))) v57 e0.length rfl e58 p6 rfl (fe0.ext ((z4.t z5).t z6)) (As 21) (by kernel_rfl) (by kernel_rfl) (by kernel_rfl) rfl (by kernel_rfl) g25 g26 (Nat.zero_le _) fun w7 ufs z7 p7 f60 l61 => ?_
   refine AnyG.last [23] (Fc S5 w7 []) (by decide) ?_
   refine Hx 22 .i64 0 cx0 l61 rfl p7 rfl f60 (Fc.here trivial) g32 g33 ?_
   rintro b62 _ e65 q64 f66 f63
   injection e65 with uft; subst uft
   obtain rfl := q64
   refine Gl h fun v67 e68 h => ?_
   refine Op_.stE_n (K := (kInt .u64)) 35 (.tmp 74) (.tmp 72) 0 0 (wr .i64 (x3 + x9)) (.u (gi e0 (wr .i64 (x3 + x8)))) [.u (gi e0 (wr .i64 (x3 + x8)))] (gi e0 (wr .i64 (x3 + x8))) v67 e0.length l61 e68 p7 rfl f60 (As 23) (by kernel_rfl) (by kernel_rfl) (by kernel_rfl) rfl (by kernel_rfl) g32 g33 (Nat.zero_le _) fun w8 ufu z8 p8 f70 l71 => ?_
   refine AnyG.last [] (Fc S5 w8 []) (by decide) ?_
   refine Ad ?_
   refine Hn 6 Jbq ?_
   exact Gk (ufn _ _ h _ _ (((((hx.t z4).t z5).t z6).t z7).t z8) _ p8 f70 l71)
  ·
   rw [bf h41]
   refine Hn 1 (Ys 11000111010 B246 Jby) ?_
   obtain rfl := sj h
   exact Hr Tryz.f246 ⟨_, _, rfl, ((hx.t z4).t z5), p5, (fe0.ext (z4.t z5)), rfl⟩

theorem W.z2l {nz wz S0 w0 Lr} (Gx0 : Option Nat) (nx0 : Nat) (cx0 : Nat) : ∀ a r, M.ag a = some r → (L.z2l nz wz S0 w0 Lr Gx0 nx0 cx0) a r := (W.z2o Gx0 nx0 cx0).1

theorem W.z2m {nz wz S0 w0 Lr} (Gx0 : Option Nat) (nx0 : Nat) (cx0 : Nat) : ∀ a r, M.a17 a = some r → (L.z2m nz wz S0 w0 Lr Gx0 nx0 cx0) a r := (W.z2o Gx0 nx0 cx0).2.1

theorem W.z2n {nz wz S0 w0 Lr} (Gx0 : Option Nat) (nx0 : Nat) (cx0 : Nat) : ∀ a r, M.a18 a = some r → (L.z2n nz wz S0 w0 Lr Gx0 nx0 cx0) a r := (W.z2o Gx0 nx0 cx0).2.2

theorem W.z2k (x0 : List Int) (x1 : Int) (x2 : Int) (x3 : Int) (r : List Int) (h : M.a2h x0 x1 x2 x3 = some r) {nz wz S0 w0 Lr} (Gx0 nx0 cx0 uff) (p0 : Hp nz wz S0 w0 ((Gx0, .row 35 uff (cx0 * (kInt .u64).size) 0) :: Lr)) (fx0 : Els (kInt .u64) S0 w0 uff x0) (lx0 : x0.length = nx0) :
  Calls Tryz.prog 246 #[.slice (Gp Gx0) nx0 cx0, .i x1, .i x2, .i x3] w0 (Rets (Post.z2k nz wz S0 w0 Lr Gx0 nx0 cx0 r)) := by
 subst lx0
 refine Zf Tryz.f246 B246 72 ?_
 refine Gj 76 [(0, .slice (Gp Gx0) x0.length cx0), (1, .i x1), (2, .i x2), (3, .i x3)] fun junk => ?_
 delta M.a2h at h
 refine Hn 7 Jbq ?_
 exact Gk (W.z2l Gx0 x0.length cx0 _ _ h _ _ (Ext.refl S0 w0) _ p0 fx0 rfl)

def Q9k := Yq 11111100 B228
def Jc5 := Zl Q9k (Zb 2 [])
def Jc6 := Zc Q9k Jc5
def Jca := Zb 3 (Ys 1111110011 B228 Jc5)
def Q9o := Yq 111111001001 B228

def Post.z2p (Gx0 : Option Nat) (nx0 : Nat) (cx0 : Nat) (r : List Int) (v : Value) (w' : World) : Prop :=
 ∃ S' uf1, v = .tuple #[] ∧ Ext S0 w0 S' w' ∧ Hp nz wz S' w' ((Gx0, .row 35 uf1 (cx0 * (kInt .u64).size) 0) :: Lr) ∧ Els (kInt .u64) S' w' uf1 r ∧ r.length = nx0

def L.z2q (Gx0 : Option Nat) (nx0 : Nat) (cx0 : Nat) : Int × Int × Int × (List Int) → (List Int) → Prop := fun ⟨x6, x7, x10, e0⟩ r => ∀ S1 w1, Ext S0 w0 S1 w1 → ∀ uf1 (_ : Hp nz wz S1 w1 ((Gx0, .row 35 uf1 (cx0 * (kInt .u64).size) 0) :: Lr)) (_ : Els (kInt .u64) S1 w1 uf1 e0) (_ : e0.length = nx0) (junk : Nat → Value),
 Goes Tryz.prog (base 228) Jc6 ⟨lfr 56 [(0, .slice (Gp Gx0) nx0 cx0), (6, .i x6), (7, .i x7), (10, .i x10)] junk, []⟩ w1 (Done Tryz.prog 228 (Rets (Post.z2p nz wz S0 w0 Lr Gx0 nx0 cx0 r)))

theorem W.z2q {nz wz S0 w0 Lr} (Gx0 : Option Nat) (nx0 : Nat) (cx0 : Nat) : ∀ a r, M.as a = some r → (L.z2q nz wz S0 w0 Lr Gx0 nx0 cx0) a r := by
 refine M.as.partial_correctness (motive := (L.z2q nz wz S0 w0 Lr Gx0 nx0 cx0)) ?_
 intro ufw ufx ⟨x6, x7, x10, e0⟩ r h S1 w1 hx uf1 p1 fe0 le0 junk
 try dsimp only at h
 subst le0
 refine Hn 6 (Ys 1111110001 B228 (Ys 111111001 B228 Jc5)) ?_
 refine Hb [(30, .bool (decide (x10 ≥ 0)))] ?_
 refine Gi h (fun h5 h => ?_) fun h5 h => ?_
 ·
  rw [dt h5]
  refine Hn 5 (Ys 111111001000 B228 (Zc Q9o Jca)) ?_
  have z3 : Ext S1 w1 S1 (w1).drew := Ext.draw
  have p3 := p1.draw
  refine Gd [17, 19] (Fc S1 (w1).drew ([] ++ (rowCellsO Gx0 uf1 ++ []))) 10 20 ?_
  generalize (w1).drew = w3 at z3 p3 ⊢
  refine Hq [0, 1, 2, 3, 4, 5, 6, 7, 8, 9] 10 (p3.g 0) ?_
  refine Gg h fun g6 h => ?_
  refine Gg h fun g7 h => ?_
  refine Hx 10 .i64 0 cx0 rfl rfl p3 rfl (fe0.ext z3) (p3.g 0) g6 g7 ?_
  rintro b8 _ rfl q10 f12 f9
  obtain rfl := q10
  refine Hl 11 (p3.g 0) (fun _ h => h.2.right.left.rowAt (f12 0 _ rfl)) ?_
  refine Hq [12, 13] 2 (p3.g 0) ?_
  refine Gg h fun g13 h => ?_
  refine Gg h fun g14 h => ?_
  refine Hx 14 .i64 0 cx0 rfl rfl p3 rfl (fe0.ext z3) (p3.g 0) g13 g14 ?_
  rintro b15 _ e18 q17 f19 f16
  injection e18 with ufy; subst ufy
  obtain rfl := q17
  refine Hl 15 (p3.g 0) (fun _ h => h.2.right.left.rowAt (f19 0 _ rfl)) ?_
  refine Hx 16 .i64 0 cx0 rfl rfl p3 rfl (fe0.ext z3) (p3.g 0) g13 g14 ?_
  rintro b20 _ e23 q22 f24 f21
  injection e23 with ufz; subst ufz
  obtain rfl := q22
  refine Op_.stE_n (K := (kInt .u64)) 35 (.tmp 49) (.tmp 44) 0 0 x6 (.u (gi e0 (wr .i64 (x6 + x10)))) [.u (gi e0 (wr .i64 (x6 + x10)))] (gi e0 (wr .i64 (x6 + x10))) (si e0 x6 (gi e0 (wr .i64 (x6 + x10)))) e0.length rfl rfl p3 rfl (fe0.ext z3) (As 17) (by kernel_rfl) (by kernel_rfl) (by kernel_rfl) rfl (by kernel_rfl) g13 g14 (Nat.zero_le _) fun w4 ug0 z4 p4 f26 l27 => ?_
  refine AnyG.last [19] (Fc S1 w4 []) (by decide) ?_
  refine Gl h fun v31 e32 h => ?_
  refine Hx 18 .i64 0 cx0 l27 e32 p4 rfl f26 (Fc.here trivial) g6 g7 ?_
  rintro b28 _ e33 q30 f34 f29
  injection e33 with uf9; subst uf9
  obtain rfl := q30
  refine Gl h fun v35 e36 h => ?_
  refine Op_.stE_n (K := (kInt .u64)) 35 (.tmp 50) (.tmp 48) 0 0 (wr .i64 (x6 + x10)) (.u (gi e0 x6)) [.u (gi e0 x6)] (gi e0 x6) v35 e0.length l27 e36 p4 rfl f26 (As 19) (by kernel_rfl) (by kernel_rfl) (by kernel_rfl) rfl (by kernel_rfl) g6 g7 (Nat.zero_le _) fun w5 ug1 z5 p5 f38 l39 => ?_
  refine AnyG.last [] (Fc S1 w5 []) (by decide) ?_
  refine Ad ?_
  refine Hn 5 (Zr Q9o [4] Jca) ?_
  refine Gb h fun y40 e41 h => ?_
  refine Gc (kc 246 [51, 52, 53, 54] #[31, 3, 3, 3]) 55 0 246 _ (W.z2k v35 x7 x10 x6 y40 e41 (some b8) _ _ _ p5 f38 l39) ?_
  rintro _ w6 ⟨S6, ug2, rfl, z6, p6, ug3, ug4⟩
  refine Hn 8 Jc6 ?_
  exact Gk (ufx _ _ h _ _ ((((hx.t z3).t z4).t z5).t z6) _ p6 ug3 ug4)
 ·
  rw [df h5]
  refine Hn 2 [] ?_
  obtain rfl := sj h
  exact Goes.end_ (fn := Tryz.f228) (by kernel_rfl) (v := .tuple #[]) (by kernel_rfl) ⟨S1, uf1, rfl, hx, p1, fe0, rfl⟩

def Q9r := Yq 11110100 B228
def Jcg := Zl Q9r (Zb 0 (Ys 11111 B228 []))
def Jch := Zc Q9r Jcg

def L.z2r (Gx0 : Option Nat) (nx0 : Nat) (cx0 : Nat) : Int × Int × Int × Int × (List Int) → (List Int) → Prop := fun ⟨x6, x7, x8, x9, e0⟩ r => ∀ S1 w1, Ext S0 w0 S1 w1 → ∀ uf1 (_ : Hp nz wz S1 w1 ((Gx0, .row 35 uf1 (cx0 * (kInt .u64).size) 0) :: Lr)) (_ : Els (kInt .u64) S1 w1 uf1 e0) (_ : e0.length = nx0) (junk : Nat → Value),
 Goes Tryz.prog (base 228) Jch ⟨lfr 56 [(0, .slice (Gp Gx0) nx0 cx0), (6, .i x6), (7, .i x7), (8, .i x8), (9, .i x9)] junk, []⟩ w1 (Done Tryz.prog 228 (Rets (Post.z2p nz wz S0 w0 Lr Gx0 nx0 cx0 r)))

theorem W.z2r {nz wz S0 w0 Lr} (Gx0 : Option Nat) (nx0 : Nat) (cx0 : Nat) : ∀ a r, M.at a = some r → (L.z2r nz wz S0 w0 Lr Gx0 nx0 cx0) a r := by
 refine M.at.partial_correctness (motive := (L.z2r nz wz S0 w0 Lr Gx0 nx0 cx0)) ?_
 intro ug5 ug6 ⟨x6, x7, x8, x9, e0⟩ r h S1 w1 hx uf1 p1 fe0 le0 junk
 try dsimp only at h
 subst le0
 refine Hn 6 (Ys 1111010001 B228 (Ys 111101001 B228 Jcg)) ?_
 refine Hb [(19, .bool (decide (x9 ≥ 0)))] ?_
 refine Gi h (fun h2 h => ?_) fun h2 h => ?_
 ·
  rw [dt h2]
  refine Hn 9 (Yt 11110100100 B228 [4] (Zb 1 (Ys 1111010011 B228 Jcg))) ?_
  refine Gb h fun y3 e4 h => ?_
  refine Gc (kc 246 [22, 23, 24, 25] #[31, 3, 3, 3]) 26 0 246 _ (W.z2k e0 x9 x8 x6 y3 e4 _ _ _ _ p1 fe0 rfl) ?_
  rintro _ w2 ⟨S2, ug7, rfl, z2, p2, ug8, ug9⟩
  refine Hn 8 Jch ?_
  exact Gk (ug6 _ _ h _ _ (hx.t z2) _ p2 ug8 ug9)
 ·
  rw [df h2]
  refine Hn 10 Jc6 ?_
  exact Gk (W.z2q Gx0 e0.length cx0 _ _ h _ _ hx _ p1 fe0 rfl)


theorem W.z2p (x0 : List Int) (x1 : Int) (x2 : Int) (r : List Int) (h : M.a2i x0 x1 x2 = some r) {nz wz S0 w0 Lr} (Gx0 nx0 cx0 uff) (p0 : Hp nz wz S0 w0 ((Gx0, .row 35 uff (cx0 * (kInt .u64).size) 0) :: Lr)) (fx0 : Els (kInt .u64) S0 w0 uff x0) (lx0 : x0.length = nx0) :
  Calls Tryz.prog 228 #[.slice (Gp Gx0) nx0 cx0, .i x1, .i x2] w0 (Rets (Post.z2p nz wz S0 w0 Lr Gx0 nx0 cx0 r)) := by
 subst lx0
 refine Zf Tryz.f228 B228 53 ?_
 refine Gj 56 [(0, .slice (Gp Gx0) x0.length cx0), (1, .i x1), (2, .i x2)] fun junk => ?_
 delta M.a2i at h
 refine Hn 14 (Yt 1110 B228 [3] (Ys 1111 B228 [])) ?_
 refine Hn 12 Jch ?_
 exact Gk (W.z2r Gx0 x0.length cx0 _ _ h _ _ (Ext.refl S0 w0) _ p0 fx0 rfl)

def Jcp := Ys 111 B252 []
def Jcs := Ys 110101 B252 Jcp
def Qa2 := Yq 110100 B252

def Post.z2s (Gx0 : Option Nat) (nx0 : Nat) (cx0 : Nat) (uff : List Value) (gx3 : Nat) (x0 : List Int) (r : Int × Int × Int) (v : Value) (w' : World) : Prop :=
 ∃ S', v = .tuple #[.i r.1, .i r.2.1] ∧ Ext S0 w0 S' w' ∧ Hp nz wz S' w' ((Gx0, .row 35 uff (cx0 * (kInt .u64).size) 0) :: (some gx3, .row 3 [.i r.2.2] 1 0) :: Lr)

theorem W.z2s (x0 : List Int) (x1 : Int) (x2 : Int) (uga : Int) (r : Int × Int × Int) (h : M.a2v x0 x1 x2 uga = some r) {nz wz S0 w0 Lr} (Gx0 nx0 cx0 uff gx3) (p0 : Hp nz wz S0 w0 ((Gx0, .row 35 uff (cx0 * (kInt .u64).size) 0) :: (some gx3, .row 3 [.i uga] 1 0) :: Lr)) (fx0 : Els (kInt .u64) S0 w0 uff x0) (lx0 : x0.length = nx0) :
  Calls Tryz.prog 252 #[.slice (Gp Gx0) nx0 cx0, .i x1, .i x2, (pt gx3 0)] w0 (Rets (Post.z2s nz wz S0 w0 Lr Gx0 nx0 cx0 uff gx3 x0 r)) := by
 subst lx0
 refine Zf Tryz.f252 B252 24 ?_
 refine Gj 28 [(0, .slice (Gp Gx0) x0.length cx0), (1, .i x1), (2, .i x2), (3, (pt gx3 0))] fun junk => ?_
 delta M.a2v at h
 refine Hn 7 (Ys 1100 B252 (Ys 1101 B252 Jcp)) ?_
 have z2 : Ext S0 w0 S0 (w0).drew := Ext.draw
 have p2 := p0.draw
 refine Gd [8] (Fc S0 (w0).drew ([] ++ (rowCellsO Gx0 uff ++ []))) 1 9 ?_
 generalize (w0).drew = w2 at z2 p2 ⊢
 refine Hq [0, 1] 2 (p2.g 0) ?_
 refine Gg h fun g3 h => ?_
 refine Gg h fun g4 h => ?_
 refine Hx 2 .i64 0 cx0 rfl rfl p2 rfl (fx0.ext z2) (p2.g 0) g3 g4 ?_
 rintro b5 _ rfl q7 f9 f6
 obtain rfl := q7
 refine Hl 3 (p2.g 0) (fun _ h => h.2.right.left.rowAt (f9 0 _ rfl)) ?_
 refine Hq [4, 5] 2 (p2.g 0) ?_
 refine Gg h fun g10 h => ?_
 refine Gg h fun g11 h => ?_
 refine Hx 6 .i64 0 cx0 rfl rfl p2 rfl (fx0.ext z2) (p2.g 0) g10 g11 ?_
 rintro b12 _ e15 q14 f16 f13
 injection e15 with ugb; subst ugb
 obtain rfl := q14
 refine Hl 7 (p2.g 0) (fun _ h => h.2.right.left.rowAt (f16 0 _ rfl)) ?_
 refine Gb h fun y17 e18 h => ?_
 refine Oc (kc 157 [13, 17] #[35, 35]) 18 4 157 #[.u (gi x0 x2), .u (gi x0 x1)] (Ac 8) (W.z2e (gi x0 x2) (gi x0 x1) y17 e18  p2 ) ?_
 rintro _ w3 ⟨S3, rfl, z3, p3⟩
 refine AnyG.last [] (Fc S3 w3 []) (by decide) ?_
 refine Ad ?_
 refine Hb [(18, .bool y17)] ?_
 refine Gi h (fun h19 h => ?_) fun h19 h => ?_
 ·
  rw [h19]
  refine Hn 5 (Zr Qa2 [2, 3, 4, 5] Jcs) ?_
  refine Hd (p3.e 1 0) ?_
  refine Hn 2 (Zr Qa2 [5] Jcs) ?_
  refine So 3 (.tmp 23) (.tmp 22) 0 1 gx3 0 (.i (wr .i64 (uga + 1))) [.i (wr .i64 (uga + 1))] p3 rfl Goes.s fun w4 z4 p4 => ?_
  refine Hn 8 (Ys 1101011 B252 Jcp) ?_
  obtain rfl := sj h
  exact Hr Tryz.f252 ⟨_, rfl, ((z2.t z3).t z4), p4⟩
 ·
  rw [bf h19]
  refine Hn 9 (Ys 1111 B252 []) ?_
  obtain rfl := sj h
  exact Hr Tryz.f252 ⟨_, rfl, (z2.t z3), p3⟩


def Post.z2t (Gx0 : Option Nat) (nx0 : Nat) (cx0 : Nat) (uff : List Value) (gx4 : Nat) (x0 : List Int) (r : Int × Int) (v : Value) (w' : World) : Prop :=
 ∃ S', v = .i r.1 ∧ Ext S0 w0 S' w' ∧ Hp nz wz S' w' ((Gx0, .row 35 uff (cx0 * (kInt .u64).size) 0) :: (some gx4, .row 3 [.i r.2] 1 0) :: Lr)

theorem W.z2t (x0 : List Int) (x1 : Int) (x2 : Int) (x3 : Int) (ugd : Int) (r : Int × Int) (h : M.a3q x0 x1 x2 x3 ugd = some r) {nz wz S0 w0 Lr} (Gx0 nx0 cx0 uff gx4) (p0 : Hp nz wz S0 w0 ((Gx0, .row 35 uff (cx0 * (kInt .u64).size) 0) :: (some gx4, .row 3 [.i ugd] 1 0) :: Lr)) (fx0 : Els (kInt .u64) S0 w0 uff x0) (lx0 : x0.length = nx0) :
  Calls Tryz.prog 248 #[.slice (Gp Gx0) nx0 cx0, .i x1, .i x2, .i x3, (pt gx4 0)] w0 (Rets (Post.z2t nz wz S0 w0 Lr Gx0 nx0 cx0 uff gx4 x0 r)) := by
 subst lx0
 refine Zf Tryz.f248 B248 31 ?_
 refine Gj 36 [(0, .slice (Gp Gx0) x0.length cx0), (1, .i x1), (2, .i x2), (3, .i x3), (4, (pt gx4 0))] fun junk => ?_
 delta M.a3q at h
 refine Hn 10 (Yt 110 B248 [4, 5, 6, 7, 8, 9] (Ys 111 B248 [])) ?_
 refine Gb h fun y3 e4 h => ?_
 refine Gc (kc 252 [12, 13, 14, 15] #[31, 3, 3, 67]) 16 194 252 _ (W.z2s x0 x1 x2 ugd y3 e4 _ _ _ _ _ p0 fx0 rfl) ?_
 rintro _ w2 ⟨S2, rfl, z2, p2⟩
 refine Hn 12 (Yt 1110 B248 [4, 5, 6, 7, 8, 9] (Ys 1111 B248 [])) ?_
 refine Gb h fun y5 e6 h => ?_
 refine Gc (kc 252 [20, 21, 22, 23] #[31, 3, 3, 67]) 24 194 252 _ (W.z2s x0 y3.2.1 x3 y3.2.2 y5 e6 _ _ _ _ _ p2 (fx0.ext z2) rfl) ?_
 rintro _ w3 ⟨S3, rfl, z3, p3⟩
 refine Hn 12 (Yt 11110 B248 [4, 5, 6, 7, 8, 9] (Ys 11111 B248 [])) ?_
 refine Gb h fun y7 e8 h => ?_
 refine Gc (kc 252 [28, 29, 30, 31] #[31, 3, 3, 67]) 32 194 252 _ (W.z2s x0 y3.1 y5.1 y5.2.2 y7 e8 _ _ _ _ _ p3 (fx0.ext (z2.t z3)) rfl) ?_
 rintro _ w4 ⟨S4, rfl, z4, p4⟩
 refine Hn 11 (Ys 111111 B248 []) ?_
 obtain rfl := sj h
 exact Hr Tryz.f248 ⟨_, rfl, ((z2.t z3).t z4), p4⟩

def Jd4 := Ys 111 B247 []

def Post.z2u (Gx0 : Option Nat) (nx0 : Nat) (cx0 : Nat) (uff : List Value) (gx2 : Nat) (x0 : List Int) (r : Int × Int) (v : Value) (w' : World) : Prop :=
 ∃ S', v = .i r.1 ∧ Ext S0 w0 S' w' ∧ Hp nz wz S' w' ((Gx0, .row 35 uff (cx0 * (kInt .u64).size) 0) :: (some gx2, .row 3 [.i r.2] 1 0) :: Lr)

theorem W.z2u (x0 : List Int) (x1 : Int) (uge : Int) (r : Int × Int) (h : M.a2w x0 x1 uge = some r) {nz wz S0 w0 Lr} (Gx0 nx0 cx0 uff gx2) (p0 : Hp nz wz S0 w0 ((Gx0, .row 35 uff (cx0 * (kInt .u64).size) 0) :: (some gx2, .row 3 [.i uge] 1 0) :: Lr)) (fx0 : Els (kInt .u64) S0 w0 uff x0) (lx0 : x0.length = nx0) :
  Calls Tryz.prog 247 #[.slice (Gp Gx0) nx0 cx0, .i x1, (pt gx2 0)] w0 (Rets (Post.z2u nz wz S0 w0 Lr Gx0 nx0 cx0 uff gx2 x0 r)) := by
 subst lx0
 refine Zf Tryz.f247 B247 12 ?_
 refine Gj 15 [(0, .slice (Gp Gx0) x0.length cx0), (1, .i x1), (2, (pt gx2 0))] fun junk => ?_
 delta M.a2w at h
 refine Hn 13 (Yt 110 B247 [7, 8] Jd4) ?_
 refine Gb h fun y3 e4 h => ?_
 refine Gc (kc 248 [7, 9, 10, 12, 13] #[31, 3, 3, 3, 67]) 14 3 248 _ (W.z2t x0 (wr .i64 (x1 - 1)) x1 (wr .i64 (x1 + 1)) uge y3 e4 _ _ _ _ _ p0 fx0 rfl) ?_
 rintro _ w2 ⟨S2, rfl, z2, p2⟩
 refine Hn 2 Jd4 ?_
 obtain rfl := sj h
 exact Hr Tryz.f247 ⟨_, rfl, z2, p2⟩

def Jd6 := Ys 11111111 B230 []

def Post.z2v (Gx0 : Option Nat) (nx0 : Nat) (cx0 : Nat) (uff : List Value) (x0 : List Int) (r : Int × Int) (v : Value) (w' : World) : Prop :=
 ∃ S', v = .tuple #[.i r.1, .i r.2] ∧ Ext S0 w0 S' w' ∧ Hp nz wz S' w' ((Gx0, .row 35 uff (cx0 * (kInt .u64).size) 0) :: Lr)

def L.z2w (Gx0 : Option Nat) (nx0 : Nat) (cx0 : Nat) (uff : List Value) : Int × Int × (List Int) → (Int × Int) → Prop := fun ⟨ugf, x11, x0⟩ r => ∀ S1 w1, Ext S0 w0 S1 w1 → ∀ gx9 (_ : Hp nz wz S1 w1 ((some gx9, .row 3 [.i ugf] 1 0) :: (Gx0, .row 35 uff (cx0 * (kInt .u64).size) 0) :: Lr)) (_ : Els (kInt .u64) S1 w1 uff x0) (_ : x0.length = nx0) (junk : Nat → Value),
 Goes Tryz.prog (base 230) Jd6 ⟨lfr 57 [(9, (pt gx9 0)), (11, .i x11)] junk, []⟩ w1 (Done Tryz.prog 230 (Rets (Post.z2v nz wz S0 w0 Lr Gx0 nx0 cx0 uff x0 r)))

theorem W.z2w {nz wz S0 w0 Lr} (Gx0 : Option Nat) (nx0 : Nat) (cx0 : Nat) (uff : List Value) : ∀ a r, M.a3r a = some r → L.z2w nz wz S0 w0 Lr Gx0 nx0 cx0 uff a r := by
 intro ⟨ugf, x11, x0⟩ r h S1 w1 hx gx9 p1 fs0 ls0 junk
 rw [M.a3r] at h
 try dsimp only at h
 subst ls0
 refine Hn 2 (Yt 111111110 B230 [0] (Ys 111111111 B230 [])) ?_
 refine Hd (p1.e 0 0) ?_
 refine Hn 7 (Ys 11111111101 B230 J3k) ?_
 refine Hb [(52, .bool (decide (ugf = 0))), (51, .bool (decide (ugf = 0)))] ?_
 refine Gi h (fun h16 h => ?_) fun h16 h => ?_
 ·
  rw [dt h16]
  refine Hn 7 (Ys 1111111110101 B230 J3k) ?_
  obtain rfl := sj h
  have p1 := p1.dp 0
  exact Hr Tryz.f230 ⟨_, rfl, hx, p1⟩
 ·
  rw [df h16]
  refine Hn 6 (Ys 1111111110111 B230 J3k) ?_
  refine Hb [(55, .bool (decide (ugf = 12))), (54, .bool (decide (ugf = 12)))] ?_
  refine Gi h (fun h17 h => ?_) fun h17 h => ?_
  ·
   rw [dt h17]
   refine Hn 7 (Ys 111111111011101 B230 J3k) ?_
   obtain rfl := sj h
   have p1 := p1.dp 0
   exact Hr Tryz.f230 ⟨_, rfl, hx, p1⟩
  ·
   rw [df h17]
   refine Hn 7 (Ys 111111111011111 B230 J3k) ?_
   obtain rfl := sj h
   have p1 := p1.dp 0
   exact Hr Tryz.f230 ⟨_, rfl, hx, p1⟩

def Qam := Yq 11111110101 B230
def Jde := Zc Qam Jd6

def L.z2x (Gx0 : Option Nat) (nx0 : Nat) (cx0 : Nat) (uff : List Value) : Int × Int × Int × Int × (List Int) → (Int × Int) → Prop := fun ⟨ugf, x10, x11, x12, x0⟩ r => ∀ S1 w1, Ext S0 w0 S1 w1 → ∀ gx9 (_ : Hp nz wz S1 w1 ((some gx9, .row 3 [.i ugf] 1 0) :: (Gx0, .row 35 uff (cx0 * (kInt .u64).size) 0) :: Lr)) (_ : Els (kInt .u64) S1 w1 uff x0) (_ : x0.length = nx0) (junk : Nat → Value),
 Goes Tryz.prog (base 230) Jde ⟨lfr 57 [(0, .slice (Gp Gx0) nx0 cx0), (9, (pt gx9 0)), (10, .i x10), (11, .i x11), (12, .i x12)] junk, []⟩ w1 (Done Tryz.prog 230 (Rets (Post.z2v nz wz S0 w0 Lr Gx0 nx0 cx0 uff x0 r)))

theorem W.z2x {nz wz S0 w0 Lr} (Gx0 : Option Nat) (nx0 : Nat) (cx0 : Nat) (uff : List Value) : ∀ a r, M.a3s a = some r → L.z2x nz wz S0 w0 Lr Gx0 nx0 cx0 uff a r := by
 intro ⟨ugf, x10, x11, x12, x0⟩ r h S1 w1 hx gx9 p1 fs0 ls0 junk
 rw [M.a3s] at h
 try dsimp only at h
 subst ls0
 refine Hn 5 (Zr Qam [4, 5] Jd6) ?_
 have p1 := p1.fr 1
 refine Gb h fun y14 e15 h => ?_
 refine Gc (kc 248 [44, 45, 46, 47, 9] #[31, 3, 3, 3, 67]) 48 3 248 _ (W.z2t x0 x10 x11 x12 ugf y14 e15 _ _ _ _ _ p1 fs0 rfl) ?_
 rintro _ w6 ⟨S6, rfl, z6, p6⟩
 refine Hn 2 Jd6 ?_
 have p6 := p6.fr 1
 exact Gk (W.z2w Gx0 x0.length cx0 uff _ _ h _ _ (hx.t z6) _ p6 (fs0.ext z6) rfl)

def Qaw := Yq 111111101001011 B230

theorem W.z2v (x0 : List Int) (x1 : Int) (x2 : Int) (r : Int × Int) (h : M.a3d x0 x1 x2 = some r) {nz wz S0 w0 Lr} (Gx0 nx0 cx0 uff) (p0 : Hp nz wz S0 w0 ((Gx0, .row 35 uff (cx0 * (kInt .u64).size) 0) :: Lr)) (fx0 : Els (kInt .u64) S0 w0 uff x0) (lx0 : x0.length = nx0) :
  Calls Tryz.prog 230 #[.slice (Gp Gx0) nx0 cx0, .i x1, .i x2] w0 (Rets (Post.z2v nz wz S0 w0 Lr Gx0 nx0 cx0 uff x0 r)) := by
 subst lx0
 refine Zf Tryz.f230 B230 54 ?_
 refine Gj 57 [(0, .slice (Gp Gx0) x0.length cx0), (1, .i x1), (2, .i x2)] fun junk => ?_
 delta M.a3d at h
 refine Hn 14 (Yt 1110 B230 [0] (Ys 1111 B230 [])) ?_
 refine Oa 3 9 0 (.i 0) [.i 0] p0 Goes.v fun b2 w2 z2 p2 => ?_
 refine Hn 14 (Yt 111110 B230 [2, 3, 4, 5] (Ys 111111 B230 [])) ?_
 refine Hn 14 (Ys 1111111 B230 []) ?_
 refine Hn 6 (Ys 111111101 B230 Jd6) ?_
 refine Hb [(32, .bool (decide (wr .i64 (x2 - x1) ≥ 8)))] ?_
 refine Gi h (fun h4 h => ?_) fun h4 h => ?_
 ·
  rw [dt h4]
  refine Hn 7 (Ys 111111101001 B230 Jde) ?_
  refine Hb [(34, .bool (decide (wr .i64 (x2 - x1) ≥ 50)))] ?_
  refine Gi h (fun h5 h => ?_) fun h5 h => ?_
  ·
   rw [dt h5]
   refine Hn 5 (Yt 11111110100100 B230 [2, 3] (Ys 11111110100101 B230 Jde)) ?_
   have p2 := p2.fr 1
   refine Gb h fun y6 e7 h => ?_
   refine Gc (kc 247 [35, 36, 9] #[31, 3, 67]) 37 3 247 _ (W.z2u x0 (wr .i64 (x1 + (wr .i64 ((iquo .i64 (wr .i64 (x2 - x1)) 4) * 1)))) 0 y6 e7 _ _ _ _ _ p2 (fx0.ext z2) rfl) ?_
   rintro _ w3 ⟨S3, rfl, z3, p3⟩
   refine Hn 6 (Yt 111111101001010 B230 [2, 3] (Zc Qaw Jde)) ?_
   refine Gb h fun y8 e9 h => ?_
   refine Gc (kc 247 [38, 39, 9] #[31, 3, 67]) 40 3 247 _ (W.z2u x0 (wr .i64 (x1 + (wr .i64 ((iquo .i64 (wr .i64 (x2 - x1)) 4) * 2)))) y6.2 y8 e9 _ _ _ _ _ p3 (fx0.ext (z2.t z3)) rfl) ?_
   rintro _ w4 ⟨S4, rfl, z4, p4⟩
   refine Hn 5 (Zr Qaw [2, 3] Jde) ?_
   refine Gb h fun y10 e11 h => ?_
   refine Gc (kc 247 [41, 42, 9] #[31, 3, 67]) 43 3 247 _ (W.z2u x0 (wr .i64 (x1 + (wr .i64 ((iquo .i64 (wr .i64 (x2 - x1)) 4) * 3)))) y8.2 y10 e11 _ _ _ _ _ p4 (fx0.ext ((z2.t z3).t z4)) rfl) ?_
   rintro _ w5 ⟨S5, rfl, z5, p5⟩
   refine Hn 2 Jde ?_
   have p5 := p5.fr 1
   exact Gk (W.z2x Gx0 x0.length cx0 uff _ _ h _ _ (((z2.t z3).t z4).t z5) _ p5 (fx0.ext (((z2.t z3).t z4).t z5)) rfl)
  ·
   rw [df h5]
   refine Hn 2 Jde ?_
   exact Gk (W.z2x Gx0 x0.length cx0 uff _ _ h _ _ z2 _ p2 (fx0.ext z2) rfl)
 ·
  rw [df h4]
  refine Hn 2 Jd6 ?_
  exact Gk (W.z2w Gx0 x0.length cx0 uff _ _ h _ _ z2 _ p2 (fx0.ext z2) rfl)

def Qay := Yq 11100 B231
def Jds := Zl Qay J3k
def Jdt := Zc Qay Jds

def Post.z2y (Gx0 : Option Nat) (nx0 : Nat) (cx0 : Nat) (r : List Int) (v : Value) (w' : World) : Prop :=
 ∃ S' uf1, v = .tuple #[] ∧ Ext S0 w0 S' w' ∧ Hp nz wz S' w' ((Gx0, .row 35 uf1 (cx0 * (kInt .u64).size) 0) :: Lr) ∧ Els (kInt .u64) S' w' uf1 r ∧ r.length = nx0

def L.z2z (Gx0 : Option Nat) (nx0 : Nat) (cx0 : Nat) : Int × Int × (List Int) → (List Int) → Prop := fun ⟨x6, x7, e0⟩ r => ∀ S1 w1, Ext S0 w0 S1 w1 → ∀ uf1 (_ : Hp nz wz S1 w1 ((Gx0, .row 35 uf1 (cx0 * (kInt .u64).size) 0) :: Lr)) (_ : Els (kInt .u64) S1 w1 uf1 e0) (_ : e0.length = nx0) (junk : Nat → Value),
 Goes Tryz.prog (base 231) Jdt ⟨lfr 32 [(0, .slice (Gp Gx0) nx0 cx0), (6, .i x6), (7, .i x7)] junk, []⟩ w1 (Done Tryz.prog 231 (Rets (Post.z2y nz wz S0 w0 Lr Gx0 nx0 cx0 r)))

theorem W.z2z {nz wz S0 w0 Lr} (Gx0 : Option Nat) (nx0 : Nat) (cx0 : Nat) : ∀ a r, M.a19 a = some r → (L.z2z nz wz S0 w0 Lr Gx0 nx0 cx0) a r := by
 refine M.a19.partial_correctness (motive := (L.z2z nz wz S0 w0 Lr Gx0 nx0 cx0)) ?_
 intro ugg ugh ⟨x6, x7, e0⟩ r h S1 w1 hx uf1 p1 fe0 le0 junk
 try dsimp only at h
 subst le0
 refine Hn 7 (Ys 1110001 B231 (Ys 111001 B231 Jds)) ?_
 refine Hb [(13, .bool (decide (x6 < x7)))] ?_
 refine Gi h (fun h2 h => ?_) fun h2 h => ?_
 ·
  rw [dt h2]
  refine Hn 4 (Ys 11100100 B231 (Ys 11100101 B231 (Zb 1 Jds))) ?_
  have z2 : Ext S1 w1 S1 (w1).drew := Ext.draw
  have p2 := p1.draw
  refine Gd [13, 15] (Fc S1 (w1).drew ([] ++ (rowCellsO Gx0 uf1 ++ []))) 3 16 ?_
  generalize (w1).drew = w2 at z2 p2 ⊢
  refine Hq [0, 1, 2, 3, 4, 5] 6 (p2.g 0) ?_
  refine Gg h fun g3 h => ?_
  refine Gg h fun g4 h => ?_
  refine Hx 6 .i64 0 cx0 rfl rfl p2 rfl (fe0.ext z2) (p2.g 0) g3 g4 ?_
  rintro b5 _ rfl q7 f9 f6
  obtain rfl := q7
  refine Hl 7 (p2.g 0) (fun _ h => h.2.right.left.rowAt (f9 0 _ rfl)) ?_
  refine Hq [8, 9] 2 (p2.g 0) ?_
  refine Gg h fun g10 h => ?_
  refine Gg h fun g11 h => ?_
  refine Hx 10 .i64 0 cx0 rfl rfl p2 rfl (fe0.ext z2) (p2.g 0) g10 g11 ?_
  rintro b12 _ e15 q14 f16 f13
  injection e15 with ugb; subst ugb
  obtain rfl := q14
  refine Hl 11 (p2.g 0) (fun _ h => h.2.right.left.rowAt (f16 0 _ rfl)) ?_
  refine Hx 12 .i64 0 cx0 rfl rfl p2 rfl (fe0.ext z2) (p2.g 0) g10 g11 ?_
  rintro b17 _ e20 q19 f21 f18
  injection e20 with ufi; subst ufi
  obtain rfl := q19
  refine Op_.stE_n (K := (kInt .u64)) 35 (.tmp 26) (.tmp 21) 0 0 x6 (.u (gi e0 x7)) [.u (gi e0 x7)] (gi e0 x7) (si e0 x6 (gi e0 x7)) e0.length rfl rfl p2 rfl (fe0.ext z2) (As 13) (by kernel_rfl) (by kernel_rfl) (by kernel_rfl) rfl (by kernel_rfl) g10 g11 (Nat.zero_le _) fun w3 ugi z3 p3 f23 l24 => ?_
  refine AnyG.last [15] (Fc S1 w3 []) (by decide) ?_
  refine Hx 14 .i64 0 cx0 l24 rfl p3 rfl f23 (Fc.here trivial) g3 g4 ?_
  rintro b25 _ e28 q27 f29 f26
  injection e28 with ugj; subst ugj
  obtain rfl := q27
  refine Op_.stE_n (K := (kInt .u64)) 35 (.tmp 27) (.tmp 25) 0 0 x7 (.u (gi e0 x6)) [.u (gi e0 x6)] (gi e0 x6) (si (si e0 x6 (gi e0 x7)) x7 (gi e0 x6)) e0.length l24 rfl p3 rfl f23 (As 15) (by kernel_rfl) (by kernel_rfl) (by kernel_rfl) rfl (by kernel_rfl) g3 g4 (Nat.zero_le _) fun w4 ugk z4 p4 f31 l32 => ?_
  refine AnyG.last [] (Fc S1 w4 []) (by decide) ?_
  refine Ad ?_
  refine Hn 13 Jdt ?_
  exact Gk (ugh _ _ h _ _ (((hx.t z2).t z3).t z4) _ p4 f31 l32)
 ·
  rw [df h2]
  refine Hn 2 [] ?_
  obtain rfl := sj h
  exact Goes.end_ (fn := Tryz.f231) (by kernel_rfl) (v := .tuple #[]) (by kernel_rfl) ⟨S1, uf1, rfl, hx, p1, fe0, rfl⟩

theorem W.z2y (x0 : List Int) (x1 : Int) (x2 : Int) (r : List Int) (h : M.a2j x0 x1 x2 = some r) {nz wz S0 w0 Lr} (Gx0 nx0 cx0 uff) (p0 : Hp nz wz S0 w0 ((Gx0, .row 35 uff (cx0 * (kInt .u64).size) 0) :: Lr)) (fx0 : Els (kInt .u64) S0 w0 uff x0) (lx0 : x0.length = nx0) :
  Calls Tryz.prog 231 #[.slice (Gp Gx0) nx0 cx0, .i x1, .i x2] w0 (Rets (Post.z2y nz wz S0 w0 Lr Gx0 nx0 cx0 r)) := by
 subst lx0
 refine Zf Tryz.f231 B231 29 ?_
 refine Gj 32 [(0, .slice (Gp Gx0) x0.length cx0), (1, .i x1), (2, .i x2)] fun junk => ?_
 delta M.a2j at h
 refine Hn 13 Jdt ?_
 exact Gk (W.z2z Gx0 x0.length cx0 _ _ h _ _ (Ext.refl S0 w0) _ p0 fx0 rfl)

def Jdz := Ys 1111 B232 []
def Qb4 := Yq 1110100 B232
def Je1 := Zl Qb4 (Zb 0 Jdz)
def Je2 := Zc Qb4 Je1
def Je4 := Zb 1 (Ys 111010011 B232 Je1)
def Qb7 := Yq 1110100100000 B232
def Je7 := Zl Qb7 (Zb 2 (Ys 11101001001 B232 Je4))
def Je8 := Zc Qb7 Je7
def Jea := Ys 111010010000001 B232 (Ys 11101001000001 B232 Je7)
def Jeb := Ys 111010010011111 B232 Je4
def Qbb := Yq 11101001001111010100 B232
def Jed := Zl Qbb (Zb 4 Jeb)
def Jee := Zc Qbb Jed
def Qbc := Yq 11101001001111110100 B232
def Jeg := Zl Qbc (Zb 6 Je4)
def Jeh := Zc Qbc Jeg
def Jem := Ys 111010010011 B232 Je4
def Jep := Ys 1110100100111 B232 Je4
def Jf0 := Ys 111010010011111101001001 B232 (Zb 7 (Ys 1110100100111111010011 B232 Jeg))
def Jf7 := Ys 111010010011110101001001 B232 (Zb 5 (Ys 1110100100111101010011 B232 Jed))

def Post.z30 (Gx0 : Option Nat) (nx0 : Nat) (cx0 : Nat) (r : Bool × (List Int)) (v : Value) (w' : World) : Prop :=
 ∃ S' uf1, v = .bool r.1 ∧ Ext S0 w0 S' w' ∧ Hp nz wz S' w' ((Gx0, .row 35 uf1 (cx0 * (kInt .u64).size) 0) :: Lr) ∧ Els (kInt .u64) S' w' uf1 r.2 ∧ r.2.length = nx0

def L.z31 (Gx0 : Option Nat) (nx0 : Nat) (cx0 : Nat) : Int × Int × Int × Int × (List Int) → (Bool × (List Int)) → Prop := fun ⟨x1, x2, x7, x8, e0⟩ r => ∀ S1 w1, Ext S0 w0 S1 w1 → ∀ uf1 (_ : Hp nz wz S1 w1 ((Gx0, .row 35 uf1 (cx0 * (kInt .u64).size) 0) :: Lr)) (_ : Els (kInt .u64) S1 w1 uf1 e0) (_ : e0.length = nx0) (junk : Nat → Value),
 Goes Tryz.prog (base 232) Je2 ⟨lfr 133 [(0, .slice (Gp Gx0) nx0 cx0), (1, .i x1), (2, .i x2), (7, .i x7), (8, .i x8)] junk, []⟩ w1 (Done Tryz.prog 232 (Rets (Post.z30 nz wz S0 w0 Lr Gx0 nx0 cx0 r)))

def L.z32 (Gx0 : Option Nat) (nx0 : Nat) (cx0 : Nat) : Int × Int × Int × Int × (List Int) → (Bool × (List Int)) → Prop := fun ⟨x1, x2, x7, x8, e0⟩ r => ∀ S1 w1, Ext S0 w0 S1 w1 → ∀ uf1 (_ : Hp nz wz S1 w1 ((Gx0, .row 35 uf1 (cx0 * (kInt .u64).size) 0) :: Lr)) (_ : Els (kInt .u64) S1 w1 uf1 e0) (_ : e0.length = nx0) (junk : Nat → Value),
 Goes Tryz.prog (base 232) Je8 ⟨lfr 133 [(0, .slice (Gp Gx0) nx0 cx0), (1, .i x1), (2, .i x2), (7, .i x7), (8, .i x8)] junk, []⟩ w1 (Done Tryz.prog 232 (Rets (Post.z30 nz wz S0 w0 Lr Gx0 nx0 cx0 r)))

def L.z33 (Gx0 : Option Nat) (nx0 : Nat) (cx0 : Nat) : Int × Int × Int × Int × Bool × (List Int) → (Bool × (List Int)) → Prop := fun ⟨x1, x2, x7, x8, x32, e0⟩ r => ∀ S1 w1, Ext S0 w0 S1 w1 → ∀ uf1 (_ : Hp nz wz S1 w1 ((Gx0, .row 35 uf1 (cx0 * (kInt .u64).size) 0) :: Lr)) (_ : Els (kInt .u64) S1 w1 uf1 e0) (_ : e0.length = nx0) (junk : Nat → Value),
 Goes Tryz.prog (base 232) Jea ⟨lfr 133 [(0, .slice (Gp Gx0) nx0 cx0), (1, .i x1), (2, .i x2), (7, .i x7), (8, .i x8), (32, .bool x32)] junk, []⟩ w1 (Done Tryz.prog 232 (Rets (Post.z30 nz wz S0 w0 Lr Gx0 nx0 cx0 r)))

def L.z34 (Gx0 : Option Nat) (nx0 : Nat) (cx0 : Nat) : Int × Int × Int × Int × Int × (List Int) → (Bool × (List Int)) → Prop := fun ⟨x1, x2, x7, x8, x9, e0⟩ r => ∀ S1 w1, Ext S0 w0 S1 w1 → ∀ uf1 (_ : Hp nz wz S1 w1 ((Gx0, .row 35 uf1 (cx0 * (kInt .u64).size) 0) :: Lr)) (_ : Els (kInt .u64) S1 w1 uf1 e0) (_ : e0.length = nx0) (junk : Nat → Value),
 Goes Tryz.prog (base 232) Jee ⟨lfr 133 [(0, .slice (Gp Gx0) nx0 cx0), (1, .i x1), (2, .i x2), (7, .i x7), (8, .i x8), (9, .i x9)] junk, []⟩ w1 (Done Tryz.prog 232 (Rets (Post.z30 nz wz S0 w0 Lr Gx0 nx0 cx0 r)))

def L.z35 (Gx0 : Option Nat) (nx0 : Nat) (cx0 : Nat) : Int × Int × Int × Int × (List Int) → (Bool × (List Int)) → Prop := fun ⟨x1, x2, x7, x8, e0⟩ r => ∀ S1 w1, Ext S0 w0 S1 w1 → ∀ uf1 (_ : Hp nz wz S1 w1 ((Gx0, .row 35 uf1 (cx0 * (kInt .u64).size) 0) :: Lr)) (_ : Els (kInt .u64) S1 w1 uf1 e0) (_ : e0.length = nx0) (junk : Nat → Value),
 Goes Tryz.prog (base 232) Jeb ⟨lfr 133 [(0, .slice (Gp Gx0) nx0 cx0), (1, .i x1), (2, .i x2), (7, .i x7), (8, .i x8)] junk, []⟩ w1 (Done Tryz.prog 232 (Rets (Post.z30 nz wz S0 w0 Lr Gx0 nx0 cx0 r)))

def L.z36 (Gx0 : Option Nat) (nx0 : Nat) (cx0 : Nat) : Int × Int × Int × Int × Int × (List Int) → (Bool × (List Int)) → Prop := fun ⟨x1, x2, x7, x8, x10, e0⟩ r => ∀ S1 w1, Ext S0 w0 S1 w1 → ∀ uf1 (_ : Hp nz wz S1 w1 ((Gx0, .row 35 uf1 (cx0 * (kInt .u64).size) 0) :: Lr)) (_ : Els (kInt .u64) S1 w1 uf1 e0) (_ : e0.length = nx0) (junk : Nat → Value),
 Goes Tryz.prog (base 232) Jeh ⟨lfr 133 [(0, .slice (Gp Gx0) nx0 cx0), (1, .i x1), (2, .i x2), (7, .i x7), (8, .i x8), (10, .i x10)] junk, []⟩ w1 (Done Tryz.prog 232 (Rets (Post.z30 nz wz S0 w0 Lr Gx0 nx0 cx0 r)))

def L.z37 (Gx0 : Option Nat) (nx0 : Nat) (cx0 : Nat) : Int × Int × Int × Int × (List Int) → (Bool × (List Int)) → Prop := fun ⟨x1, x2, x7, x8, e0⟩ r => ∀ S1 w1, Ext S0 w0 S1 w1 → ∀ uf1 (_ : Hp nz wz S1 w1 ((Gx0, .row 35 uf1 (cx0 * (kInt .u64).size) 0) :: Lr)) (_ : Els (kInt .u64) S1 w1 uf1 e0) (_ : e0.length = nx0) (junk : Nat → Value),
 Goes Tryz.prog (base 232) Je4 ⟨lfr 133 [(0, .slice (Gp Gx0) nx0 cx0), (1, .i x1), (2, .i x2), (7, .i x7), (8, .i x8)] junk, []⟩ w1 (Done Tryz.prog 232 (Rets (Post.z30 nz wz S0 w0 Lr Gx0 nx0 cx0 r)))

theorem W.z38 {nz wz S0 w0 Lr} (Gx0 : Option Nat) (nx0 : Nat) (cx0 : Nat) : (∀ a r, M.ah a = some r → (L.z31 nz wz S0 w0 Lr Gx0 nx0 cx0) a r) ∧ (∀ a r, M.a1a a = some r → (L.z32 nz wz S0 w0 Lr Gx0 nx0 cx0) a r) ∧ (∀ a r, M.au a = some r → (L.z33 nz wz S0 w0 Lr Gx0 nx0 cx0) a r) ∧ (∀ a r, M.ai a = some r → (L.z35 nz wz S0 w0 Lr Gx0 nx0 cx0) a r) ∧ (∀ a r, M.aj a = some r → (L.z37 nz wz S0 w0 Lr Gx0 nx0 cx0) a r) ∧ (∀ a r, M.a1b a = some r → (L.z36 nz wz S0 w0 Lr Gx0 nx0 cx0) a r) ∧ (∀ a r, M.av a = some r → (L.z34 nz wz S0 w0 Lr Gx0 nx0 cx0) a r) := by
 refine M.ah.mutual_partial_correctness (L.z31 nz wz S0 w0 Lr Gx0 nx0 cx0) (L.z32 nz wz S0 w0 Lr Gx0 nx0 cx0) (L.z33 nz wz S0 w0 Lr Gx0 nx0 cx0) (L.z35 nz wz S0 w0 Lr Gx0 nx0 cx0) (L.z37 nz wz S0 w0 Lr Gx0 nx0 cx0) (L.z36 nz wz S0 w0 Lr Gx0 nx0 cx0) (L.z34 nz wz S0 w0 Lr Gx0 nx0 cx0) ?_ ?_ ?_ ?_ ?_ ?_ ?_
 ·
  intro ugl ugm ⟨x1, x2, x7, x8, e0⟩ r h S1 w1 hx uf1 p1 fe0 le0 junk
  try dsimp only at h
  subst le0
  refine Hn 6 (Ys 111010001 B232 (Ys 11101001 B232 Je1)) ?_
  refine Hb [(14, .bool (decide (x8 < 5)))] ?_
  refine Gi h (fun h2 h => ?_) fun h2 h => ?_
  ·
   rw [dt h2]
   refine Hn 7 Je8 ?_
   exact Gk (ugm _ _ h _ _ hx _ p1 fe0 rfl)
  ·
   rw [df h2]
   refine Hn 6 (Ys 11111 B232 []) ?_
   obtain rfl := sj h
   exact Hr Tryz.f232 ⟨_, _, rfl, hx, p1, fe0, rfl⟩
 ·
  intro ugn ugo ⟨x1, x2, x7, x8, e0⟩ r h S1 w1 hx uf1 p1 fe0 le0 junk
  try dsimp only at h
  subst le0
  refine Hn 2 (Ys 111010010000000 B232 Jea) ?_
  have z2 : Ext S1 w1 S1 (w1).drew := Ext.draw
  have p2 := p1.draw
  refine Gd [13] (Fc S1 (w1).drew ([] ++ (rowCellsO Gx0 uf1 ++ []))) 5 16 ?_
  generalize (w1).drew = w2 at z2 p2 ⊢
  refine Hq [0, 1, 2, 3] 4 (p2.g 0) ?_
  refine HbA [(19, .bool (decide (x7 < x2))), (20, .bool (decide (x7 < x2)))] ?_
  refine Gi h (fun h3 h => ?_) fun h3 h => ?_
  ·
   rw [dt h3]
   refine Hq [4, 5] 2 (p2.g 0) ?_
   refine Gg h fun g4 h => ?_
   refine Gg h fun g5 h => ?_
   refine Hx 6 .i64 0 cx0 rfl rfl p2 rfl (fe0.ext z2) (p2.g 0) g4 g5 ?_
   rintro b6 _ rfl q8 f10 f7
   obtain rfl := q8
   refine Hl 7 (p2.g 0) (fun _ h => h.2.right.left.rowAt (f10 0 _ rfl)) ?_
   refine Hq [8, 9, 10] 3 (p2.g 0) ?_
   refine Gg h fun g11 h => ?_
   refine Gg h fun g12 h => ?_
   refine Hx 11 .i64 0 cx0 rfl rfl p2 rfl (fe0.ext z2) (p2.g 0) g11 g12 ?_
   rintro b13 _ e16 q15 f17 f14
   injection e16 with uf6; subst uf6
   obtain rfl := q15
   refine Hl 12 (p2.g 0) (fun _ h => h.2.right.left.rowAt (f17 0 _ rfl)) ?_
   refine Gb h fun y18 e19 h => ?_
   refine Oc (kc 157 [24, 29] #[35, 35]) 30 4 157 #[.u (gi e0 x7), .u (gi e0 (wr .i64 (x7 - 1)))] (Ac 13) (W.z2e (gi e0 x7) (gi e0 (wr .i64 (x7 - 1))) y18 e19  p2 ) ?_
   rintro _ w3 ⟨S3, rfl, z3, p3⟩
   refine AnyG.last [] (Fc S3 w3 []) (by decide) ?_
   refine Hq [14, 15] 2 (Fc.here trivial) ?_
   refine Ad ?_
   exact Gk (ugo _ _ h _ _ ((hx.t z2).t z3) _ p3 (fe0.ext (z2.t z3)) rfl)
  ·
   rw [df h3]
   refine Hq [4, 5, 6, 7, 8, 9, 10, 11, 12] 9 (p2.g 0) ?_
   refine Ak 13 30 ?_
   refine Hq [14, 15] 2 (p2.g 0) ?_
   refine Ad ?_
   exact Gk (ugo _ _ h _ _ (hx.t z2) _ p2 (fe0.ext z2) rfl)
 ·
  intro ugl ugp ugq ugm ugr ugs ⟨x1, x2, x7, x8, x32, e0⟩ r h S1 w1 hx uf1 p1 fe0 le0 junk
  try dsimp only at h
  subst le0
  refine Hb [(32, .bool x32)] ?_
  refine Gi h (fun h20 h => ?_) fun h20 h => ?_
  ·
   rw [h20]
   refine Hn 10 Je8 ?_
   exact Gk (ugm _ _ h _ _ hx _ p1 fe0 rfl)
  ·
   rw [bf h20]
   refine Hn 9 (Ys 1110100100101 B232 Jem) ?_
   refine Hb [(37, .bool (decide (x7 = x2)))] ?_
   refine Gi h (fun h21 h => ?_) fun h21 h => ?_
   ·
    rw [dt h21]
    refine Hn 5 (Ys 111010010010101 B232 Jem) ?_
    obtain rfl := sj h
    exact Hr Tryz.f232 ⟨_, _, rfl, hx, p1, fe0, rfl⟩
   ·
    rw [df h21]
    refine Hn 10 (Ys 11101001001101 B232 Jep) ?_
    refine Hb [(41, .bool (decide (wr .i64 (x2 - x1) < 50)))] ?_
    refine Gi h (fun h22 h => ?_) fun h22 h => ?_
    ·
     rw [dt h22]
     refine Hn 5 (Ys 1110100100110101 B232 Jep) ?_
     obtain rfl := sj h
     exact Hr Tryz.f232 ⟨_, _, rfl, hx, p1, fe0, rfl⟩
    ·
     rw [df h22]
     refine Hn 3 (Ys 11101001001110 B232 (Ys 11101001001111 B232 Je4)) ?_
     have z4 : Ext S1 w1 S1 (w1).drew := Ext.draw
     have p4 := p1.draw
     refine Gd [15, 17] (Fc S1 (w1).drew ([] ++ (rowCellsO Gx0 uf1 ++ []))) 11 18 ?_
     generalize (w1).drew = w4 at z4 p4 ⊢
     refine Hq [0, 1, 2, 3, 4, 5, 6, 7] 8 (p4.g 0) ?_
     refine Gg h fun g23 h => ?_
     refine Gg h fun g24 h => ?_
     refine Hx 8 .i64 0 cx0 rfl rfl p4 rfl (fe0.ext z4) (p4.g 0) g23 g24 ?_
     rintro b25 _ rfl q27 f29 f26
     obtain rfl := q27
     refine Hl 9 (p4.g 0) (fun _ h => h.2.right.left.rowAt (f29 0 _ rfl)) ?_
     refine Hq [10, 11] 2 (p4.g 0) ?_
     refine Gg h fun g30 h => ?_
     refine Gg h fun g31 h => ?_
     refine Hx 12 .i64 0 cx0 rfl rfl p4 rfl (fe0.ext z4) (p4.g 0) g30 g31 ?_
     rintro b32 _ e35 q34 f36 f33
     injection e35 with ugt; subst ugt
     obtain rfl := q34
     refine Hl 13 (p4.g 0) (fun _ h => h.2.right.left.rowAt (f36 0 _ rfl)) ?_
     refine Hx 14 .i64 0 cx0 rfl rfl p4 rfl (fe0.ext z4) (p4.g 0) g30 g31 ?_
     rintro b37 _ e40 q39 f41 f38
     injection e40 with ugu; subst ugu
     obtain rfl := q39
     refine Op_.stE_n (K := (kInt .u64)) 35 (.tmp 56) (.tmp 51) 0 0 x7 (.u (gi e0 (wr .i64 (x7 - 1)))) [.u (gi e0 (wr .i64 (x7 - 1)))] (gi e0 (wr .i64 (x7 - 1))) (si e0 x7 (gi e0 (wr .i64 (x7 - 1)))) e0.length rfl rfl p4 rfl (fe0.ext z4) (As 15) (by kernel_rfl) (by kernel_rfl) (by kernel_rfl) rfl (by kernel_rfl) g30 g31 (Nat.zero_le _) fun w5 ugv z5 p5 f43 l44 => ?_
     refine AnyG.last [17] (Fc S1 w5 []) (by decide) ?_
     refine Gl h fun v48 e49 h => ?_
     refine Hx 16 .i64 0 cx0 l44 e49 p5 rfl f43 (Fc.here trivial) g23 g24 ?_
     rintro b45 _ e50 q47 f51 f46
     injection e50 with ufq; subst ufq
     obtain rfl := q47
     refine Gl h fun v52 e53 h => ?_
     refine Op_.stE_n (K := (kInt .u64)) 35 (.tmp 57) (.tmp 55) 0 0 (wr .i64 (x7 - 1)) (.u (gi e0 x7)) [.u (gi e0 x7)] (gi e0 x7) v52 e0.length l44 e53 p5 rfl f43 (As 17) (by kernel_rfl) (by kernel_rfl) (by kernel_rfl) rfl (by kernel_rfl) g23 g24 (Nat.zero_le _) fun w6 ugw z6 p6 f55 l56 => ?_
     refine AnyG.last [] (Fc S1 w6 []) (by decide) ?_
     refine Ad ?_
     refine Hn 8 (Ys 1110100100111101 B232 Jeb) ?_
     refine Hb [(61, .bool (decide (wr .i64 (x7 - x1) ≥ 2)))] ?_
     refine Gi h (fun h57 h => ?_) fun h57 h => ?_
     ·
      rw [dt h57]
      refine Hn 9 Jee ?_
      exact Gk (ugs _ _ h _ _ (((hx.t z4).t z5).t z6) _ p6 f55 l56)
     ·
      rw [df h57]
      refine Hn 2 Jeb ?_
      exact Gk (ugr _ _ h _ _ (((hx.t z4).t z5).t z6) _ p6 f55 l56)
 ·
  intro ugx ugy ugz uh0 ⟨x1, x2, x7, x8, e0⟩ r h S1 w1 hx uf1 p1 fe0 le0 junk
  try dsimp only at h
  subst le0
  refine Hn 7 (Ys 1110100100111111 B232 Je4) ?_
  refine Hb [(98, .bool (decide (wr .i64 (x2 - x7) ≥ 2)))] ?_
  refine Gi h (fun uh1 h => ?_) fun uh1 h => ?_
  ·
   rw [dt uh1]
   refine Hn 9 Jeh ?_
   exact Gk (uh0 _ _ h _ _ hx _ p1 fe0 rfl)
  ·
   rw [df uh1]
   refine Hn 2 Je4 ?_
   exact Gk (ugz _ _ h _ _ hx _ p1 fe0 rfl)
 ·
  intro uh2 uh3 ⟨x1, x2, x7, x8, e0⟩ r h S1 w1 hx uf1 p1 fe0 le0 junk
  try dsimp only at h
  subst le0
  refine Hn 7 Je2 ?_
  exact Gk (uh3 _ _ h _ _ hx _ p1 fe0 rfl)
 ·
  intro ugx ugy ugz uh0 ⟨x1, x2, x7, x8, x10, e0⟩ r h S1 w1 hx uf1 p1 fe0 le0 junk
  try dsimp only at h
  subst le0
  refine Hn 7 (Ys 1110100100111111010001 B232 (Ys 111010010011111101001 B232 Jeg)) ?_
  refine Hb [(103, .bool (decide (x10 < x2)))] ?_
  refine Gi h (fun uh4 h => ?_) fun uh4 h => ?_
  ·
   rw [dt uh4]
   refine Hn 6 (Ys 1110100100111111010010000 B232 (Ys 1110100100111111010010001 B232 Jf0)) ?_
   have z12 : Ext S1 w1 S1 (w1).drew := Ext.draw
   have p12 := p1.draw
   refine Gd [9] (Fc S1 (w1).drew ([] ++ (rowCellsO Gx0 uf1 ++ []))) 22 11 ?_
   generalize (w1).drew = w12 at z12 p12 ⊢
   refine Hq [0, 1] 2 (p12.g 0) ?_
   refine Gg h fun uh5 h => ?_
   refine Gg h fun uh6 h => ?_
   refine Hx 2 .i64 0 cx0 rfl rfl p12 rfl (fe0.ext z12) (p12.g 0) uh5 uh6 ?_
   rintro uh7 _ rfl uh8 uag uh9
   obtain rfl := uh8
   refine Hl 3 (p12.g 0) (fun _ h => h.2.right.left.rowAt (uag 0 _ rfl)) ?_
   refine Hq [4, 5, 6] 3 (p12.g 0) ?_
   refine Gg h fun uef h => ?_
   refine Gg h fun uha h => ?_
   refine Hx 7 .i64 0 cx0 rfl rfl p12 rfl (fe0.ext z12) (p12.g 0) uef uha ?_
   rintro uhb _ uhc uhd uhe uhf
   injection uhc with uhg; subst uhg
   obtain rfl := uhd
   refine Hl 8 (p12.g 0) (fun _ h => h.2.right.left.rowAt (uhe 0 _ rfl)) ?_
   refine Gb h fun uhh uhi h => ?_
   refine Oc (kc 157 [109, 114] #[35, 35]) 115 4 157 #[.u (gi e0 x10), .u (gi e0 (wr .i64 (x10 - 1)))] (Ac 9) (W.z2e (gi e0 x10) (gi e0 (wr .i64 (x10 - 1))) uhh uhi  p12 ) ?_
   rintro _ w13 ⟨S13, rfl, z13, p13⟩
   refine AnyG.last [] (Fc S13 w13 []) (by decide) ?_
   refine Hq [10] 1 (Fc.here trivial) ?_
   refine Ad ?_
   refine Hb [(115, .bool uhh), (116, .bool (!uhh))] ?_
   refine Gi h (fun uhj h => ?_) fun uhj h => ?_
   ·
    rw [uhj]
    refine Hn 2 Jf0 ?_
    have z14 : Ext S13 w13 S13 (w13).drew := Ext.draw
    have p14 := p13.draw
    refine Gd [15, 17] (Fc S13 (w13).drew ([] ++ (rowCellsO (some uh7) uf1 ++ []))) 23 18 ?_
    generalize (w13).drew = w14 at z14 p14 ⊢
    refine Hq [0, 1, 2, 3, 4, 5, 6, 7] 8 (p14.g 0) ?_
    refine Hx 8 .i64 0 cx0 rfl rfl p14 rfl (fe0.ext ((z12.t z13).t z14)) (p14.g 0) uef uha ?_
    rintro uhk _ uhl uhm uhn ueo
    injection uhl with uho; subst uho
    obtain rfl := uhm
    refine Hl 9 (p14.g 0) (fun _ h => h.2.right.left.rowAt (uhn 0 _ rfl)) ?_
    refine Hq [10, 11] 2 (p14.g 0) ?_
    refine Hx 12 .i64 0 cx0 rfl rfl p14 rfl (fe0.ext ((z12.t z13).t z14)) (p14.g 0) uh5 uh6 ?_
    rintro uhp _ uhq uhr uax uhs
    injection uhq with uht; subst uht
    obtain rfl := uhr
    refine Hl 13 (p14.g 0) (fun _ h => h.2.right.left.rowAt (uax 0 _ rfl)) ?_
    refine Hx 14 .i64 0 cx0 rfl rfl p14 rfl (fe0.ext ((z12.t z13).t z14)) (p14.g 0) uh5 uh6 ?_
    rintro uc5 _ ub1 uhu uhv uaz
    injection ub1 with uhw; subst uhw
    obtain rfl := uhu
    refine Op_.stE_n (K := (kInt .u64)) 35 (.tmp 131) (.tmp 126) 0 0 x10 (.u (gi e0 (wr .i64 (x10 - 1)))) [.u (gi e0 (wr .i64 (x10 - 1)))] (gi e0 (wr .i64 (x10 - 1))) (si e0 x10 (gi e0 (wr .i64 (x10 - 1)))) e0.length rfl rfl p14 rfl (fe0.ext ((z12.t z13).t z14)) (As 15) (by kernel_rfl) (by kernel_rfl) (by kernel_rfl) rfl (by kernel_rfl) uh5 uh6 (Nat.zero_le _) fun w15 uhx z15 p15 uca uhy => ?_
    refine AnyG.last [17] (Fc S13 w15 []) (by decide) ?_
    refine Gl h fun uhz ui0 h => ?_
    refine Hx 16 .i64 0 cx0 uhy ui0 p15 rfl uca (Fc.here trivial) uef uha ?_
    rintro ui1 _ ubc ui2 uci ub8
    injection ubc with ui3; subst ui3
    obtain rfl := ui2
    refine Gl h fun ui4 ui5 h => ?_
    refine Op_.stE_n (K := (kInt .u64)) 35 (.tmp 132) (.tmp 130) 0 0 (wr .i64 (x10 - 1)) (.u (gi e0 x10)) [.u (gi e0 x10)] (gi e0 x10) ui4 e0.length uhy ui5 p15 rfl uca (As 17) (by kernel_rfl) (by kernel_rfl) (by kernel_rfl) rfl (by kernel_rfl) uef uha (Nat.zero_le _) fun w16 ui6 z16 p16 ubh ui7 => ?_
    refine AnyG.last [] (Fc S13 w16 []) (by decide) ?_
    refine Ad ?_
    refine Hn 7 Jeh ?_
    exact Gk (uh0 _ _ h _ _ (((((hx.t z12).t z13).t z14).t z15).t z16) _ p16 ubh ui7)
   ·
    rw [bf uhj]
    refine Hn 2 Je4 ?_
    exact Gk (ugz _ _ h _ _ ((hx.t z12).t z13) _ p13 (fe0.ext (z12.t z13)) rfl)
  ·
   rw [df uh4]
   refine Hn 2 Je4 ?_
   exact Gk (ugz _ _ h _ _ hx _ p1 fe0 rfl)
 ·
  intro ugp ugq ugr ugs ⟨x1, x2, x7, x8, x9, e0⟩ r h S1 w1 hx uf1 p1 fe0 le0 junk
  try dsimp only at h
  subst le0
  refine Hn 6 (Ys 1110100100111101010001 B232 (Ys 111010010011110101001 B232 Jed)) ?_
  refine Hb [(65, .bool (decide (x9 ≥ 1)))] ?_
  refine Gi h (fun h58 h => ?_) fun h58 h => ?_
  ·
   rw [dt h58]
   refine Hn 6 (Ys 1110100100111101010010000 B232 (Ys 1110100100111101010010001 B232 Jf7)) ?_
   have z7 : Ext S1 w1 S1 (w1).drew := Ext.draw
   have p7 := p1.draw
   refine Gd [9] (Fc S1 (w1).drew ([] ++ (rowCellsO Gx0 uf1 ++ []))) 16 11 ?_
   generalize (w1).drew = w7 at z7 p7 ⊢
   refine Hq [0, 1] 2 (p7.g 0) ?_
   refine Gg h fun g59 h => ?_
   refine Gg h fun g60 h => ?_
   refine Hx 2 .i64 0 cx0 rfl rfl p7 rfl (fe0.ext z7) (p7.g 0) g59 g60 ?_
   rintro b61 _ rfl q63 f65 f62
   obtain rfl := q63
   refine Hl 3 (p7.g 0) (fun _ h => h.2.right.left.rowAt (f65 0 _ rfl)) ?_
   refine Hq [4, 5, 6] 3 (p7.g 0) ?_
   refine Gg h fun g66 h => ?_
   refine Gg h fun g67 h => ?_
   refine Hx 7 .i64 0 cx0 rfl rfl p7 rfl (fe0.ext z7) (p7.g 0) g66 g67 ?_
   rintro b68 _ e71 q70 f72 f69
   injection e71 with ui9; subst ui9
   obtain rfl := q70
   refine Hl 8 (p7.g 0) (fun _ h => h.2.right.left.rowAt (f72 0 _ rfl)) ?_
   refine Gb h fun y73 e74 h => ?_
   refine Oc (kc 157 [71, 76] #[35, 35]) 77 4 157 #[.u (gi e0 x9), .u (gi e0 (wr .i64 (x9 - 1)))] (Ac 9) (W.z2e (gi e0 x9) (gi e0 (wr .i64 (x9 - 1))) y73 e74  p7 ) ?_
   rintro _ w8 ⟨S8, rfl, z8, p8⟩
   refine AnyG.last [] (Fc S8 w8 []) (by decide) ?_
   refine Hq [10] 1 (Fc.here trivial) ?_
   refine Ad ?_
   refine Hb [(77, .bool y73), (78, .bool (!y73))] ?_
   refine Gi h (fun h75 h => ?_) fun h75 h => ?_
   ·
    rw [h75]
    refine Hn 2 Jf7 ?_
    have z9 : Ext S8 w8 S8 (w8).drew := Ext.draw
    have p9 := p8.draw
    refine Gd [15, 17] (Fc S8 (w8).drew ([] ++ (rowCellsO (some b61) uf1 ++ []))) 17 18 ?_
    generalize (w8).drew = w9 at z9 p9 ⊢
    refine Hq [0, 1, 2, 3, 4, 5, 6, 7] 8 (p9.g 0) ?_
    refine Hx 8 .i64 0 cx0 rfl rfl p9 rfl (fe0.ext ((z7.t z8).t z9)) (p9.g 0) g66 g67 ?_
    rintro b76 _ e79 q78 f80 f77
    injection e79 with uia; subst uia
    obtain rfl := q78
    refine Hl 9 (p9.g 0) (fun _ h => h.2.right.left.rowAt (f80 0 _ rfl)) ?_
    refine Hq [10, 11] 2 (p9.g 0) ?_
    refine Hx 12 .i64 0 cx0 rfl rfl p9 rfl (fe0.ext ((z7.t z8).t z9)) (p9.g 0) g59 g60 ?_
    rintro b81 _ e84 q83 f85 f82
    injection e84 with uib; subst uib
    obtain rfl := q83
    refine Hl 13 (p9.g 0) (fun _ h => h.2.right.left.rowAt (f85 0 _ rfl)) ?_
    refine Hx 14 .i64 0 cx0 rfl rfl p9 rfl (fe0.ext ((z7.t z8).t z9)) (p9.g 0) g59 g60 ?_
    rintro b86 _ e89 q88 f90 f87
    injection e89 with uic; subst uic
    obtain rfl := q88
    refine Op_.stE_n (K := (kInt .u64)) 35 (.tmp 93) (.tmp 88) 0 0 x9 (.u (gi e0 (wr .i64 (x9 - 1)))) [.u (gi e0 (wr .i64 (x9 - 1)))] (gi e0 (wr .i64 (x9 - 1))) (si e0 x9 (gi e0 (wr .i64 (x9 - 1)))) e0.length rfl rfl p9 rfl (fe0.ext ((z7.t z8).t z9)) (As 15) (by kernel_rfl) (by kernel_rfl) (by kernel_rfl) rfl (by kernel_rfl) g59 g60 (Nat.zero_le _) fun w10 uid z10 p10 f92 l93 => ?_
    refine AnyG.last [17] (Fc S8 w10 []) (by decide) ?_
    refine Gl h fun v97 e98 h => ?_
    refine Hx 16 .i64 0 cx0 l93 e98 p10 rfl f92 (Fc.here trivial) g66 g67 ?_
    rintro b94 _ e99 q96 uie f95
    injection e99 with uif; subst uif
    obtain rfl := q96
    refine Gl h fun ua0 uig h => ?_
    refine Op_.stE_n (K := (kInt .u64)) 35 (.tmp 94) (.tmp 92) 0 0 (wr .i64 (x9 - 1)) (.u (gi e0 x9)) [.u (gi e0 x9)] (gi e0 x9) ua0 e0.length l93 uig p10 rfl f92 (As 17) (by kernel_rfl) (by kernel_rfl) (by kernel_rfl) rfl (by kernel_rfl) g66 g67 (Nat.zero_le _) fun w11 uih z11 p11 ue5 uii => ?_
    refine AnyG.last [] (Fc S8 w11 []) (by decide) ?_
    refine Ad ?_
    refine Hn 7 Jee ?_
    exact Gk (ugs _ _ h _ _ (((((hx.t z7).t z8).t z9).t z10).t z11) _ p11 ue5 uii)
   ·
    rw [bf h75]
    refine Hn 2 Jeb ?_
    exact Gk (ugr _ _ h _ _ ((hx.t z7).t z8) _ p8 (fe0.ext (z7.t z8)) rfl)
  ·
   rw [df h58]
   refine Hn 2 Jeb ?_
   exact Gk (ugr _ _ h _ _ hx _ p1 fe0 rfl)

theorem W.z31 {nz wz S0 w0 Lr} (Gx0 : Option Nat) (nx0 : Nat) (cx0 : Nat) : ∀ a r, M.ah a = some r → (L.z31 nz wz S0 w0 Lr Gx0 nx0 cx0) a r := (W.z38 Gx0 nx0 cx0).1

theorem W.z32 {nz wz S0 w0 Lr} (Gx0 : Option Nat) (nx0 : Nat) (cx0 : Nat) : ∀ a r, M.a1a a = some r → (L.z32 nz wz S0 w0 Lr Gx0 nx0 cx0) a r := (W.z38 Gx0 nx0 cx0).2.1

theorem W.z33 {nz wz S0 w0 Lr} (Gx0 : Option Nat) (nx0 : Nat) (cx0 : Nat) : ∀ a r, M.au a = some r → (L.z33 nz wz S0 w0 Lr Gx0 nx0 cx0) a r := (W.z38 Gx0 nx0 cx0).2.2.1

theorem W.z35 {nz wz S0 w0 Lr} (Gx0 : Option Nat) (nx0 : Nat) (cx0 : Nat) : ∀ a r, M.ai a = some r → (L.z35 nz wz S0 w0 Lr Gx0 nx0 cx0) a r := (W.z38 Gx0 nx0 cx0).2.2.2.1

theorem W.z37 {nz wz S0 w0 Lr} (Gx0 : Option Nat) (nx0 : Nat) (cx0 : Nat) : ∀ a r, M.aj a = some r → (L.z37 nz wz S0 w0 Lr Gx0 nx0 cx0) a r := (W.z38 Gx0 nx0 cx0).2.2.2.2.1

theorem W.z36 {nz wz S0 w0 Lr} (Gx0 : Option Nat) (nx0 : Nat) (cx0 : Nat) : ∀ a r, M.a1b a = some r → (L.z36 nz wz S0 w0 Lr Gx0 nx0 cx0) a r := (W.z38 Gx0 nx0 cx0).2.2.2.2.2.1

theorem W.z34 {nz wz S0 w0 Lr} (Gx0 : Option Nat) (nx0 : Nat) (cx0 : Nat) : ∀ a r, M.av a = some r → (L.z34 nz wz S0 w0 Lr Gx0 nx0 cx0) a r := (W.z38 Gx0 nx0 cx0).2.2.2.2.2.2


theorem W.z30 (x0 : List Int) (x1 : Int) (x2 : Int) (r : Bool × (List Int)) (h : M.a2k x0 x1 x2 = some r) {nz wz S0 w0 Lr} (Gx0 nx0 cx0 uff) (p0 : Hp nz wz S0 w0 ((Gx0, .row 35 uff (cx0 * (kInt .u64).size) 0) :: Lr)) (fx0 : Els (kInt .u64) S0 w0 uff x0) (lx0 : x0.length = nx0) :
  Calls Tryz.prog 232 #[.slice (Gp Gx0) nx0 cx0, .i x1, .i x2] w0 (Rets (Post.z30 nz wz S0 w0 Lr Gx0 nx0 cx0 r)) := by
 subst lx0
 refine Zf Tryz.f232 B232 130 ?_
 refine Gj 133 [(0, .slice (Gp Gx0) x0.length cx0), (1, .i x1), (2, .i x2)] fun junk => ?_
 delta M.a2k at h
 refine Hn 14 (Yt 11100 B232 [] (Ys 11101 B232 Jdz)) ?_
 refine Hn 3 Je2 ?_
 exact Gk (W.z31 Gx0 x0.length cx0 _ _ h _ _ (Ext.refl S0 w0) _ p0 fx0 rfl)

def Qc6 := Yq 1111000 B233
def Jfe := Zl Qc6 (Zb 0 (Ys 11111 B233 []))
def Jff := Zc Qc6 Jfe
def Jfg := Zb 1 Jfe
def Qc8 := Yq 11110000000 B233
def Jfj := Zl Qc8 (Zb 2 (Ys 111100001 B233 Jfg))
def Jfk := Zc Qc8 Jfj
def Jfm := Ys 1111000000001 B233 (Ys 111100000001 B233 Jfj)
def Qcc := Yq 111100001000 B233
def Jfp := Zl Qcc (Zb 4 (Ys 1111000011 B233 Jfg))
def Jfq := Zc Qcc Jfp
def Jfs := Ys 11110000100001 B233 (Ys 1111000010001 B233 Jfp)

def Post.z39 (Gx0 : Option Nat) (nx0 : Nat) (cx0 : Nat) (r : Int × (List Int)) (v : Value) (w' : World) : Prop :=
 ∃ S' uf1, v = .i r.1 ∧ Ext S0 w0 S' w' ∧ Hp nz wz S' w' ((Gx0, .row 35 uf1 (cx0 * (kInt .u64).size) 0) :: Lr) ∧ Els (kInt .u64) S' w' uf1 r.2 ∧ r.2.length = nx0

def L.z3a (Gx0 : Option Nat) (nx0 : Nat) (cx0 : Nat) : Int × Int × Int × (List Int) → (Int × (List Int)) → Prop := fun ⟨x1, x9, x10, e0⟩ r => ∀ S1 w1, Ext S0 w0 S1 w1 → ∀ uf1 (_ : Hp nz wz S1 w1 ((Gx0, .row 35 uf1 (cx0 * (kInt .u64).size) 0) :: Lr)) (_ : Els (kInt .u64) S1 w1 uf1 e0) (_ : e0.length = nx0) (junk : Nat → Value),
 Goes Tryz.prog (base 233) Jff ⟨lfr 84 [(0, .slice (Gp Gx0) nx0 cx0), (1, .i x1), (9, .i x9), (10, .i x10)] junk, []⟩ w1 (Done Tryz.prog 233 (Rets (Post.z39 nz wz S0 w0 Lr Gx0 nx0 cx0 r)))

def L.z3b (Gx0 : Option Nat) (nx0 : Nat) (cx0 : Nat) : Int × Int × Int × (List Int) → (Int × (List Int)) → Prop := fun ⟨x1, x9, x10, e0⟩ r => ∀ S1 w1, Ext S0 w0 S1 w1 → ∀ uf1 (_ : Hp nz wz S1 w1 ((Gx0, .row 35 uf1 (cx0 * (kInt .u64).size) 0) :: Lr)) (_ : Els (kInt .u64) S1 w1 uf1 e0) (_ : e0.length = nx0) (junk : Nat → Value),
 Goes Tryz.prog (base 233) Jfk ⟨lfr 84 [(0, .slice (Gp Gx0) nx0 cx0), (1, .i x1), (9, .i x9), (10, .i x10)] junk, []⟩ w1 (Done Tryz.prog 233 (Rets (Post.z39 nz wz S0 w0 Lr Gx0 nx0 cx0 r)))

def L.z3c (Gx0 : Option Nat) (nx0 : Nat) (cx0 : Nat) : Int × Int × Int × Bool × (List Int) → (Int × (List Int)) → Prop := fun ⟨x1, x9, x10, x43, e0⟩ r => ∀ S1 w1, Ext S0 w0 S1 w1 → ∀ uf1 (_ : Hp nz wz S1 w1 ((Gx0, .row 35 uf1 (cx0 * (kInt .u64).size) 0) :: Lr)) (_ : Els (kInt .u64) S1 w1 uf1 e0) (_ : e0.length = nx0) (junk : Nat → Value),
 Goes Tryz.prog (base 233) Jfm ⟨lfr 84 [(0, .slice (Gp Gx0) nx0 cx0), (1, .i x1), (9, .i x9), (10, .i x10), (43, .bool x43)] junk, []⟩ w1 (Done Tryz.prog 233 (Rets (Post.z39 nz wz S0 w0 Lr Gx0 nx0 cx0 r)))

def L.z3d (Gx0 : Option Nat) (nx0 : Nat) (cx0 : Nat) : Int × Int × Int × (List Int) → (Int × (List Int)) → Prop := fun ⟨x1, x9, x10, e0⟩ r => ∀ S1 w1, Ext S0 w0 S1 w1 → ∀ uf1 (_ : Hp nz wz S1 w1 ((Gx0, .row 35 uf1 (cx0 * (kInt .u64).size) 0) :: Lr)) (_ : Els (kInt .u64) S1 w1 uf1 e0) (_ : e0.length = nx0) (junk : Nat → Value),
 Goes Tryz.prog (base 233) Jfq ⟨lfr 84 [(0, .slice (Gp Gx0) nx0 cx0), (1, .i x1), (9, .i x9), (10, .i x10)] junk, []⟩ w1 (Done Tryz.prog 233 (Rets (Post.z39 nz wz S0 w0 Lr Gx0 nx0 cx0 r)))

def L.z3e (Gx0 : Option Nat) (nx0 : Nat) (cx0 : Nat) : Int × Int × Int × Bool × (List Int) → (Int × (List Int)) → Prop := fun ⟨x1, x9, x10, x59, e0⟩ r => ∀ S1 w1, Ext S0 w0 S1 w1 → ∀ uf1 (_ : Hp nz wz S1 w1 ((Gx0, .row 35 uf1 (cx0 * (kInt .u64).size) 0) :: Lr)) (_ : Els (kInt .u64) S1 w1 uf1 e0) (_ : e0.length = nx0) (junk : Nat → Value),
 Goes Tryz.prog (base 233) Jfs ⟨lfr 84 [(0, .slice (Gp Gx0) nx0 cx0), (1, .i x1), (9, .i x9), (10, .i x10), (59, .bool x59)] junk, []⟩ w1 (Done Tryz.prog 233 (Rets (Post.z39 nz wz S0 w0 Lr Gx0 nx0 cx0 r)))

theorem W.z3f {nz wz S0 w0 Lr} (Gx0 : Option Nat) (nx0 : Nat) (cx0 : Nat) : (∀ a r, M.aw a = some r → (L.z3a nz wz S0 w0 Lr Gx0 nx0 cx0) a r) ∧ (∀ a r, M.a1c a = some r → (L.z3b nz wz S0 w0 Lr Gx0 nx0 cx0) a r) ∧ (∀ a r, M.a1d a = some r → (L.z3c nz wz S0 w0 Lr Gx0 nx0 cx0) a r) ∧ (∀ a r, M.ak a = some r → (L.z3d nz wz S0 w0 Lr Gx0 nx0 cx0) a r) ∧ (∀ a r, M.ax a = some r → (L.z3e nz wz S0 w0 Lr Gx0 nx0 cx0) a r) := by
 refine M.aw.mutual_partial_correctness (L.z3a nz wz S0 w0 Lr Gx0 nx0 cx0) (L.z3b nz wz S0 w0 Lr Gx0 nx0 cx0) (L.z3c nz wz S0 w0 Lr Gx0 nx0 cx0) (L.z3d nz wz S0 w0 Lr Gx0 nx0 cx0) (L.z3e nz wz S0 w0 Lr Gx0 nx0 cx0) ?_ ?_ ?_ ?_ ?_
 ·
  intro uij uik ⟨x1, x9, x10, e0⟩ r h S1 w1 hx uf1 p1 fe0 le0 junk
  try dsimp only at h
  subst le0
  refine Hn 4 Jfk ?_
  exact Gk (uik _ _ h _ _ hx _ p1 fe0 rfl)
 ·
  intro uil uim ⟨x1, x9, x10, e0⟩ r h S1 w1 hx uf1 p1 fe0 le0 junk
  try dsimp only at h
  subst le0
  refine Hn 2 (Ys 1111000000000 B233 Jfm) ?_
  have z5 : Ext S1 w1 S1 (w1).drew := Ext.draw
  have p5 := p1.draw
  refine Gd [12] (Fc S1 (w1).drew ([] ++ (rowCellsO Gx0 uf1 ++ []))) 3 15 ?_
  generalize (w1).drew = w5 at z5 p5 ⊢
  refine Hq [0, 1, 2, 3] 4 (p5.g 0) ?_
  refine HbA [(31, .bool (decide (x9 ≤ x10))), (32, .bool (decide (x9 ≤ x10)))] ?_
  refine Gi h (fun h32 h => ?_) fun h32 h => ?_
  ·
   rw [dt h32]
   refine Hq [4, 5] 2 (p5.g 0) ?_
   refine Gg h fun g33 h => ?_
   refine Gg h fun g34 h => ?_
   refine Hx 6 .i64 0 cx0 rfl rfl p5 rfl (fe0.ext z5) (p5.g 0) g33 g34 ?_
   rintro b35 _ rfl q37 f39 f36
   obtain rfl := q37
   refine Hl 7 (p5.g 0) (fun _ h => h.2.right.left.rowAt (f39 0 _ rfl)) ?_
   refine Hq [8, 9] 2 (p5.g 0) ?_
   refine Gg h fun g40 h => ?_
   refine Gg h fun g41 h => ?_
   refine Hx 10 .i64 0 cx0 rfl rfl p5 rfl (fe0.ext z5) (p5.g 0) g40 g41 ?_
   rintro b42 _ e45 q44 f46 f43
   injection e45 with ufp; subst ufp
   obtain rfl := q44
   refine Hl 11 (p5.g 0) (fun _ h => h.2.right.left.rowAt (f46 0 _ rfl)) ?_
   refine Gb h fun y47 e48 h => ?_
   refine Oc (kc 157 [36, 40] #[35, 35]) 41 4 157 #[.u (gi e0 x1), .u (gi e0 x9)] (Ac 12) (W.z2e (gi e0 x1) (gi e0 x9) y47 e48  p5 ) ?_
   rintro _ w6 ⟨S6, rfl, z6, p6⟩
   refine AnyG.last [] (Fc S6 w6 []) (by decide) ?_
   refine Hq [13, 14] 2 (Fc.here trivial) ?_
   refine Ad ?_
   exact Gk (uim _ _ h _ _ ((hx.t z5).t z6) _ p6 (fe0.ext (z5.t z6)) rfl)
  ·
   rw [df h32]
   refine Hq [4, 5, 6, 7, 8, 9, 10, 11] 8 (p5.g 0) ?_
   refine Ak 12 41 ?_
   refine Hq [13, 14] 2 (p5.g 0) ?_
   refine Ad ?_
   exact Gk (uim _ _ h _ _ (hx.t z5) _ p5 (fe0.ext z5) rfl)
 ·
  intro uij uin uik uio ⟨x1, x9, x10, x43, e0⟩ r h S1 w1 hx uf1 p1 fe0 le0 junk
  try dsimp only at h
  subst le0
  refine Hb [(43, .bool x43)] ?_
  refine Gi h (fun h49 h => ?_) fun h49 h => ?_
  ·
   rw [h49]
   refine Hn 10 Jfk ?_
   exact Gk (uik _ _ h _ _ hx _ p1 fe0 rfl)
  ·
   rw [bf h49]
   refine Hn 5 Jfq ?_
   exact Gk (uio _ _ h _ _ hx _ p1 fe0 rfl)
 ·
  intro uiq uir ⟨x1, x9, x10, e0⟩ r h S1 w1 hx uf1 p1 fe0 le0 junk
  try dsimp only at h
  subst le0
  refine Hn 2 (Ys 11110000100000 B233 Jfs) ?_
  have z7 : Ext S1 w1 S1 (w1).drew := Ext.draw
  have p7 := p1.draw
  refine Gd [12] (Fc S1 (w1).drew ([] ++ (rowCellsO Gx0 uf1 ++ []))) 5 14 ?_
  generalize (w1).drew = w7 at z7 p7 ⊢
  refine Hq [0, 1, 2, 3] 4 (p7.g 0) ?_
  refine HbA [(48, .bool (decide (x9 ≤ x10))), (49, .bool (decide (x9 ≤ x10)))] ?_
  refine Gi h (fun h50 h => ?_) fun h50 h => ?_
  ·
   rw [dt h50]
   refine Hq [4, 5] 2 (p7.g 0) ?_
   refine Gg h fun g51 h => ?_
   refine Gg h fun g52 h => ?_
   refine Hx 6 .i64 0 cx0 rfl rfl p7 rfl (fe0.ext z7) (p7.g 0) g51 g52 ?_
   rintro b53 _ rfl q55 f57 f54
   obtain rfl := q55
   refine Hl 7 (p7.g 0) (fun _ h => h.2.right.left.rowAt (f57 0 _ rfl)) ?_
   refine Hq [8, 9] 2 (p7.g 0) ?_
   refine Gg h fun g58 h => ?_
   refine Gg h fun g59 h => ?_
   refine Hx 10 .i64 0 cx0 rfl rfl p7 rfl (fe0.ext z7) (p7.g 0) g58 g59 ?_
   rintro b60 _ e63 q62 f64 f61
   injection e63 with uis; subst uis
   obtain rfl := q62
   refine Hl 11 (p7.g 0) (fun _ h => h.2.right.left.rowAt (f64 0 _ rfl)) ?_
   refine Gb h fun y65 e66 h => ?_
   refine Oc (kc 157 [53, 57] #[35, 35]) 58 4 157 #[.u (gi e0 x1), .u (gi e0 x10)] (Ac 12) (W.z2e (gi e0 x1) (gi e0 x10) y65 e66  p7 ) ?_
   rintro _ w8 ⟨S8, rfl, z8, p8⟩
   refine AnyG.last [] (Fc S8 w8 []) (by decide) ?_
   refine Hq [13] 1 (Fc.here trivial) ?_
   refine Ad ?_
   exact Gk (uir _ _ h _ _ ((hx.t z7).t z8) _ p8 (fe0.ext (z7.t z8)) rfl)
  ·
   rw [df h50]
   refine Hq [4, 5, 6, 7, 8, 9, 10, 11] 8 (p7.g 0) ?_
   refine Ak 12 58 ?_
   refine Hq [13] 1 (p7.g 0) ?_
   refine Ad ?_
   exact Gk (uir _ _ h _ _ (hx.t z7) _ p7 (fe0.ext z7) rfl)
 ·
  intro uit uin uiu uio ⟨x1, x9, x10, x59, e0⟩ r h S1 w1 hx uf1 p1 fe0 le0 junk
  try dsimp only at h
  subst le0
  refine Hb [(59, .bool x59)] ?_
  refine Gi h (fun h67 h => ?_) fun h67 h => ?_
  ·
   rw [h67]
   refine Hn 10 Jfq ?_
   exact Gk (uio _ _ h _ _ hx _ p1 fe0 rfl)
  ·
   rw [bf h67]
   refine Hn 9 (Ys 111100001101 B233 (Ys 11110000111 B233 Jfg)) ?_
   refine Hb [(64, .bool (decide (x9 > x10)))] ?_
   refine Gi h (fun h68 h => ?_) fun h68 h => ?_
   ·
    rw [dt h68]
    refine Hn 7 (Ys 111111 B233 []) ?_
    obtain rfl := sj h
    exact Hr Tryz.f233 ⟨_, _, rfl, hx, p1, fe0, rfl⟩
   ·
    rw [df h68]
    refine Hn 3 (Ys 111100001110 B233 (Ys 111100001111 B233 Jfg)) ?_
    have z9 : Ext S1 w1 S1 (w1).drew := Ext.draw
    have p9 := p1.draw
    refine Gd [13, 15] (Fc S1 (w1).drew ([] ++ (rowCellsO Gx0 uf1 ++ []))) 8 16 ?_
    generalize (w1).drew = w9 at z9 p9 ⊢
    refine Hq [0, 1, 2, 3, 4, 5] 6 (p9.g 0) ?_
    refine Gg h fun g69 h => ?_
    refine Gg h fun g70 h => ?_
    refine Hx 6 .i64 0 cx0 rfl rfl p9 rfl (fe0.ext z9) (p9.g 0) g69 g70 ?_
    rintro b71 _ rfl q73 f75 f72
    obtain rfl := q73
    refine Hl 7 (p9.g 0) (fun _ h => h.2.right.left.rowAt (f75 0 _ rfl)) ?_
    refine Hq [8, 9] 2 (p9.g 0) ?_
    refine Gg h fun g76 h => ?_
    refine Gg h fun g77 h => ?_
    refine Hx 10 .i64 0 cx0 rfl rfl p9 rfl (fe0.ext z9) (p9.g 0) g76 g77 ?_
    rintro b78 _ e81 q80 f82 f79
    injection e81 with uiw; subst uiw
    obtain rfl := q80
    refine Hl 11 (p9.g 0) (fun _ h => h.2.right.left.rowAt (f82 0 _ rfl)) ?_
    refine Hx 12 .i64 0 cx0 rfl rfl p9 rfl (fe0.ext z9) (p9.g 0) g76 g77 ?_
    rintro b83 _ e86 q85 f87 f84
    injection e86 with uix; subst uix
    obtain rfl := q85
    refine Op_.stE_n (K := (kInt .u64)) 35 (.tmp 77) (.tmp 72) 0 0 x9 (.u (gi e0 x10)) [.u (gi e0 x10)] (gi e0 x10) (si e0 x9 (gi e0 x10)) e0.length rfl rfl p9 rfl (fe0.ext z9) (As 13) (by kernel_rfl) (by kernel_rfl) (by kernel_rfl) rfl (by kernel_rfl) g76 g77 (Nat.zero_le _) fun w10 uiy z10 p10 f89 l90 => ?_
    refine AnyG.last [15] (Fc S1 w10 []) (by decide) ?_
    refine Hx 14 .i64 0 cx0 l90 rfl p10 rfl f89 (Fc.here trivial) g69 g70 ?_
    rintro b91 _ e94 q93 f95 f92
    injection e94 with uiz; subst uiz
    obtain rfl := q93
    refine Op_.stE_n (K := (kInt .u64)) 35 (.tmp 78) (.tmp 76) 0 0 x10 (.u (gi e0 x9)) [.u (gi e0 x9)] (gi e0 x9) (si (si e0 x9 (gi e0 x10)) x10 (gi e0 x9)) e0.length l90 rfl p10 rfl f89 (As 15) (by kernel_rfl) (by kernel_rfl) (by kernel_rfl) rfl (by kernel_rfl) g69 g70 (Nat.zero_le _) fun w11 uj0 z11 p11 f97 l98 => ?_
    refine AnyG.last [] (Fc S1 w11 []) (by decide) ?_
    refine Ad ?_
    refine Hn 13 Jff ?_
    exact Gk (uiu _ _ h _ _ (((hx.t z9).t z10).t z11) _ p11 f97 l98)

theorem W.z3a {nz wz S0 w0 Lr} (Gx0 : Option Nat) (nx0 : Nat) (cx0 : Nat) : ∀ a r, M.aw a = some r → (L.z3a nz wz S0 w0 Lr Gx0 nx0 cx0) a r := (W.z3f Gx0 nx0 cx0).1

theorem W.z3b {nz wz S0 w0 Lr} (Gx0 : Option Nat) (nx0 : Nat) (cx0 : Nat) : ∀ a r, M.a1c a = some r → (L.z3b nz wz S0 w0 Lr Gx0 nx0 cx0) a r := (W.z3f Gx0 nx0 cx0).2.1

theorem W.z3c {nz wz S0 w0 Lr} (Gx0 : Option Nat) (nx0 : Nat) (cx0 : Nat) : ∀ a r, M.a1d a = some r → (L.z3c nz wz S0 w0 Lr Gx0 nx0 cx0) a r := (W.z3f Gx0 nx0 cx0).2.2.1

theorem W.z3d {nz wz S0 w0 Lr} (Gx0 : Option Nat) (nx0 : Nat) (cx0 : Nat) : ∀ a r, M.ak a = some r → (L.z3d nz wz S0 w0 Lr Gx0 nx0 cx0) a r := (W.z3f Gx0 nx0 cx0).2.2.2.1

theorem W.z3e {nz wz S0 w0 Lr} (Gx0 : Option Nat) (nx0 : Nat) (cx0 : Nat) : ∀ a r, M.ax a = some r → (L.z3e nz wz S0 w0 Lr Gx0 nx0 cx0) a r := (W.z3f Gx0 nx0 cx0).2.2.2.2


theorem W.z39 (x0 : List Int) (x1 : Int) (x2 : Int) (x3 : Int) (r : Int × (List Int)) (h : M.a2l x0 x1 x2 x3 = some r) {nz wz S0 w0 Lr} (Gx0 nx0 cx0 uff) (p0 : Hp nz wz S0 w0 ((Gx0, .row 35 uff (cx0 * (kInt .u64).size) 0) :: Lr)) (fx0 : Els (kInt .u64) S0 w0 uff x0) (lx0 : x0.length = nx0) :
  Calls Tryz.prog 233 #[.slice (Gp Gx0) nx0 cx0, .i x1, .i x2, .i x3] w0 (Rets (Post.z39 nz wz S0 w0 Lr Gx0 nx0 cx0 r)) := by
 subst lx0
 refine Zf Tryz.f233 B233 80 ?_
 refine Gj 84 [(0, .slice (Gp Gx0) x0.length cx0), (1, .i x1), (2, .i x2), (3, .i x3)] fun junk => ?_
 delta M.a2l at h
 refine Hn 5 (Ys 110 B233 (Ys 111 B233 [])) ?_
 have z2 : Ext S0 w0 S0 (w0).drew := Ext.draw
 have p2 := p0.draw
 refine Gd [13, 15] (Fc S0 (w0).drew ([] ++ (rowCellsO Gx0 uff ++ []))) 1 16 ?_
 generalize (w0).drew = w2 at z2 p2 ⊢
 refine Hq [0, 1, 2, 3, 4, 5] 6 (p2.g 0) ?_
 refine Gg h fun g2 h => ?_
 refine Gg h fun g3 h => ?_
 refine Hx 6 .i64 0 cx0 rfl rfl p2 rfl (fx0.ext z2) (p2.g 0) g2 g3 ?_
 rintro b4 _ rfl q6 f8 f5
 obtain rfl := q6
 refine Hl 7 (p2.g 0) (fun _ h => h.2.right.left.rowAt (f8 0 _ rfl)) ?_
 refine Hq [8, 9] 2 (p2.g 0) ?_
 refine Gg h fun g9 h => ?_
 refine Gg h fun g10 h => ?_
 refine Hx 10 .i64 0 cx0 rfl rfl p2 rfl (fx0.ext z2) (p2.g 0) g9 g10 ?_
 rintro b11 _ e14 q13 f15 f12
 injection e14 with uj1; subst uj1
 obtain rfl := q13
 refine Hl 11 (p2.g 0) (fun _ h => h.2.right.left.rowAt (f15 0 _ rfl)) ?_
 refine Hx 12 .i64 0 cx0 rfl rfl p2 rfl (fx0.ext z2) (p2.g 0) g9 g10 ?_
 rintro b16 _ e19 q18 f20 f17
 injection e19 with uj2; subst uj2
 obtain rfl := q18
 refine Op_.stE_n (K := (kInt .u64)) 35 (.tmp 23) (.tmp 18) 0 0 x1 (.u (gi x0 x3)) [.u (gi x0 x3)] (gi x0 x3) (si x0 x1 (gi x0 x3)) x0.length rfl rfl p2 rfl (fx0.ext z2) (As 13) (by kernel_rfl) (by kernel_rfl) (by kernel_rfl) rfl (by kernel_rfl) g9 g10 (Nat.zero_le _) fun w3 uj3 z3 p3 f22 l23 => ?_
 refine AnyG.last [15] (Fc S0 w3 []) (by decide) ?_
 refine Hx 14 .i64 0 cx0 l23 rfl p3 rfl f22 (Fc.here trivial) g2 g3 ?_
 rintro b24 _ e27 q26 f28 f25
 injection e27 with uj4; subst uj4
 obtain rfl := q26
 refine Op_.stE_n (K := (kInt .u64)) 35 (.tmp 24) (.tmp 22) 0 0 x3 (.u (gi x0 x1)) [.u (gi x0 x1)] (gi x0 x1) (si (si x0 x1 (gi x0 x3)) x3 (gi x0 x1)) x0.length l23 rfl p3 rfl f22 (As 15) (by kernel_rfl) (by kernel_rfl) (by kernel_rfl) rfl (by kernel_rfl) g2 g3 (Nat.zero_le _) fun w4 uj5 z4 p4 f30 l31 => ?_
 refine AnyG.last [] (Fc S0 w4 []) (by decide) ?_
 refine Ad ?_
 refine Hn 12 Jff ?_
 exact Gk (W.z3a (some b4) x0.length cx0 _ _ h _ _ ((z2.t z3).t z4) _ p4 f30 l31)

def Jg3 := Zb 4 (Ys 11111111111 B234 [])
def Qcp := Yq 1111111111000 B234
def Jg4 := Zl Qcp Jg3
def Jg5 := Zc Qcp Jg4
def Jg6 := Zb 5 Jg4
def Qcr := Yq 11111111110000000 B234
def Jg9 := Zl Qcr (Zb 6 (Ys 111111111100001 B234 Jg6))
def Jga := Zc Qcr Jg9
def Jgc := Ys 1111111111000000001 B234 (Ys 111111111100000001 B234 Jg9)
def Qcv := Yq 111111111100001000 B234
def Jgf := Zl Qcv (Zb 8 (Ys 1111111111000011 B234 Jg6))
def Jgg := Zc Qcv Jgf
def Jgi := Ys 11111111110000100001 B234 (Ys 1111111111000010001 B234 Jgf)

def Post.z3g (Gx0 : Option Nat) (nx0 : Nat) (cx0 : Nat) (r : Int × Bool × (List Int)) (v : Value) (w' : World) : Prop :=
 ∃ S' uf1, v = .tuple #[.i r.1, .bool r.2.1] ∧ Ext S0 w0 S' w' ∧ Hp nz wz S' w' ((Gx0, .row 35 uf1 (cx0 * (kInt .u64).size) 0) :: Lr) ∧ Els (kInt .u64) S' w' uf1 r.2.2 ∧ r.2.2.length = nx0

def L.z3h (Gx0 : Option Nat) (nx0 : Nat) (cx0 : Nat) : Int × Int × Int × (List Int) → (Int × Bool × (List Int)) → Prop := fun ⟨x1, x10, x11, e0⟩ r => ∀ S1 w1, Ext S0 w0 S1 w1 → ∀ uf1 (_ : Hp nz wz S1 w1 ((Gx0, .row 35 uf1 (cx0 * (kInt .u64).size) 0) :: Lr)) (_ : Els (kInt .u64) S1 w1 uf1 e0) (_ : e0.length = nx0) (junk : Nat → Value),
 Goes Tryz.prog (base 234) Jg5 ⟨lfr 168 [(0, .slice (Gp Gx0) nx0 cx0), (1, .i x1), (10, .i x10), (11, .i x11)] junk, []⟩ w1 (Done Tryz.prog 234 (Rets (Post.z3g nz wz S0 w0 Lr Gx0 nx0 cx0 r)))

def L.z3i (Gx0 : Option Nat) (nx0 : Nat) (cx0 : Nat) : Int × Int × Int × (List Int) → (Int × Bool × (List Int)) → Prop := fun ⟨x1, x10, x11, e0⟩ r => ∀ S1 w1, Ext S0 w0 S1 w1 → ∀ uf1 (_ : Hp nz wz S1 w1 ((Gx0, .row 35 uf1 (cx0 * (kInt .u64).size) 0) :: Lr)) (_ : Els (kInt .u64) S1 w1 uf1 e0) (_ : e0.length = nx0) (junk : Nat → Value),
 Goes Tryz.prog (base 234) Jga ⟨lfr 168 [(0, .slice (Gp Gx0) nx0 cx0), (1, .i x1), (10, .i x10), (11, .i x11)] junk, []⟩ w1 (Done Tryz.prog 234 (Rets (Post.z3g nz wz S0 w0 Lr Gx0 nx0 cx0 r)))

def L.z3j (Gx0 : Option Nat) (nx0 : Nat) (cx0 : Nat) : Int × Int × Int × Bool × (List Int) → (Int × Bool × (List Int)) → Prop := fun ⟨x1, x10, x11, uj6, e0⟩ r => ∀ S1 w1, Ext S0 w0 S1 w1 → ∀ uf1 (_ : Hp nz wz S1 w1 ((Gx0, .row 35 uf1 (cx0 * (kInt .u64).size) 0) :: Lr)) (_ : Els (kInt .u64) S1 w1 uf1 e0) (_ : e0.length = nx0) (junk : Nat → Value),
 Goes Tryz.prog (base 234) Jgc ⟨lfr 168 [(0, .slice (Gp Gx0) nx0 cx0), (1, .i x1), (10, .i x10), (11, .i x11), (112, .bool uj6)] junk, []⟩ w1 (Done Tryz.prog 234 (Rets (Post.z3g nz wz S0 w0 Lr Gx0 nx0 cx0 r)))

def L.z3k (Gx0 : Option Nat) (nx0 : Nat) (cx0 : Nat) : Int × Int × Int × (List Int) → (Int × Bool × (List Int)) → Prop := fun ⟨x1, x10, x11, e0⟩ r => ∀ S1 w1, Ext S0 w0 S1 w1 → ∀ uf1 (_ : Hp nz wz S1 w1 ((Gx0, .row 35 uf1 (cx0 * (kInt .u64).size) 0) :: Lr)) (_ : Els (kInt .u64) S1 w1 uf1 e0) (_ : e0.length = nx0) (junk : Nat → Value),
 Goes Tryz.prog (base 234) Jgg ⟨lfr 168 [(0, .slice (Gp Gx0) nx0 cx0), (1, .i x1), (10, .i x10), (11, .i x11)] junk, []⟩ w1 (Done Tryz.prog 234 (Rets (Post.z3g nz wz S0 w0 Lr Gx0 nx0 cx0 r)))

def L.z3l (Gx0 : Option Nat) (nx0 : Nat) (cx0 : Nat) : Int × Int × Int × Bool × (List Int) → (Int × Bool × (List Int)) → Prop := fun ⟨x1, x10, x11, uj7, e0⟩ r => ∀ S1 w1, Ext S0 w0 S1 w1 → ∀ uf1 (_ : Hp nz wz S1 w1 ((Gx0, .row 35 uf1 (cx0 * (kInt .u64).size) 0) :: Lr)) (_ : Els (kInt .u64) S1 w1 uf1 e0) (_ : e0.length = nx0) (junk : Nat → Value),
 Goes Tryz.prog (base 234) Jgi ⟨lfr 168 [(0, .slice (Gp Gx0) nx0 cx0), (1, .i x1), (10, .i x10), (11, .i x11), (129, .bool uj7)] junk, []⟩ w1 (Done Tryz.prog 234 (Rets (Post.z3g nz wz S0 w0 Lr Gx0 nx0 cx0 r)))

theorem W.z3m {nz wz S0 w0 Lr} (Gx0 : Option Nat) (nx0 : Nat) (cx0 : Nat) : (∀ a r, M.ay a = some r → (L.z3h nz wz S0 w0 Lr Gx0 nx0 cx0) a r) ∧ (∀ a r, M.a1e a = some r → (L.z3i nz wz S0 w0 Lr Gx0 nx0 cx0) a r) ∧ (∀ a r, M.a1f a = some r → (L.z3j nz wz S0 w0 Lr Gx0 nx0 cx0) a r) ∧ (∀ a r, M.al a = some r → (L.z3k nz wz S0 w0 Lr Gx0 nx0 cx0) a r) ∧ (∀ a r, M.az a = some r → (L.z3l nz wz S0 w0 Lr Gx0 nx0 cx0) a r) := by
 refine M.ay.mutual_partial_correctness (L.z3h nz wz S0 w0 Lr Gx0 nx0 cx0) (L.z3i nz wz S0 w0 Lr Gx0 nx0 cx0) (L.z3j nz wz S0 w0 Lr Gx0 nx0 cx0) (L.z3k nz wz S0 w0 Lr Gx0 nx0 cx0) (L.z3l nz wz S0 w0 Lr Gx0 nx0 cx0) ?_ ?_ ?_ ?_ ?_
 ·
  intro uj8 uj9 ⟨x1, x10, x11, e0⟩ r h S1 w1 hx uf1 p1 fe0 le0 junk
  try dsimp only at h
  subst le0
  refine Hn 4 Jga ?_
  exact Gk (uj9 _ _ h _ _ hx _ p1 fe0 rfl)
 ·
  intro uja ujb ⟨x1, x10, x11, e0⟩ r h S1 w1 hx uf1 p1 fe0 le0 junk
  try dsimp only at h
  subst le0
  refine Hn 2 (Ys 1111111111000000000 B234 Jgc) ?_
  have z15 : Ext S1 w1 S1 (w1).drew := Ext.draw
  have p15 := p1.draw
  refine Gd [12] (Fc S1 (w1).drew ([] ++ (rowCellsO Gx0 uf1 ++ []))) 13 14 ?_
  generalize (w1).drew = w15 at z15 p15 ⊢
  refine Hq [0, 1, 2, 3] 4 (p15.g 0) ?_
  refine HbA [(101, .bool (decide (x10 ≤ x11))), (102, .bool (decide (x10 ≤ x11)))] ?_
  refine Gi h (fun ubz h => ?_) fun ubz h => ?_
  ·
   rw [dt ubz]
   refine Hq [4, 5] 2 (p15.g 0) ?_
   refine Gg h fun uc0 h => ?_
   refine Gg h fun uc1 h => ?_
   refine Hx 6 .i64 0 cx0 rfl rfl p15 rfl (fe0.ext z15) (p15.g 0) uc0 uc1 ?_
   rintro ujc _ rfl uc4 uaz uc3
   obtain rfl := uc4
   refine Hl 7 (p15.g 0) (fun _ h => h.2.right.left.rowAt (uaz 0 _ rfl)) ?_
   refine Hq [8, 9] 2 (p15.g 0) ?_
   refine Gg h fun ujd h => ?_
   refine Gg h fun uje h => ?_
   refine Hx 10 .i64 0 cx0 rfl rfl p15 rfl (fe0.ext z15) (p15.g 0) ujd uje ?_
   rintro ujf _ ujg ujh ucf ub3
   injection ujg with uji; subst uji
   obtain rfl := ujh
   refine Hl 11 (p15.g 0) (fun _ h => h.2.right.left.rowAt (ucf 0 _ rfl)) ?_
   refine Gb h fun ujj ujk h => ?_
   refine Oc (kc 157 [106, 110] #[35, 35]) 111 4 157 #[.u (gi e0 x10), .u (gi e0 x1)] (Ac 12) (W.z2e (gi e0 x10) (gi e0 x1) ujj ujk  p15 ) ?_
   rintro _ w16 ⟨S16, rfl, z16, p16⟩
   refine AnyG.last [] (Fc S16 w16 []) (by decide) ?_
   refine Hq [13] 1 (Fc.here trivial) ?_
   refine Ad ?_
   exact Gk (ujb _ _ h _ _ ((hx.t z15).t z16) _ p16 (fe0.ext (z15.t z16)) rfl)
  ·
   rw [df ubz]
   refine Hq [4, 5, 6, 7, 8, 9, 10, 11] 8 (p15.g 0) ?_
   refine Ak 12 111 ?_
   refine Hq [13] 1 (p15.g 0) ?_
   refine Ad ?_
   exact Gk (ujb _ _ h _ _ (hx.t z15) _ p15 (fe0.ext z15) rfl)
 ·
  intro uj8 ujl uj9 ujm ⟨x1, x10, x11, uj6, e0⟩ r h S1 w1 hx uf1 p1 fe0 le0 junk
  try dsimp only at h
  subst le0
  refine Hb [(112, .bool uj6)] ?_
  refine Gi h (fun ujn h => ?_) fun ujn h => ?_
  ·
   rw [ujn]
   refine Hn 10 Jga ?_
   exact Gk (uj9 _ _ h _ _ hx _ p1 fe0 rfl)
  ·
   rw [bf ujn]
   refine Hn 5 Jgg ?_
   exact Gk (ujm _ _ h _ _ hx _ p1 fe0 rfl)
 ·
  intro ujp ujq ⟨x1, x10, x11, e0⟩ r h S1 w1 hx uf1 p1 fe0 le0 junk
  try dsimp only at h
  subst le0
  refine Hn 2 (Ys 11111111110000100000 B234 Jgi) ?_
  have z17 : Ext S1 w1 S1 (w1).drew := Ext.draw
  have p17 := p1.draw
  refine Gd [12] (Fc S1 (w1).drew ([] ++ (rowCellsO Gx0 uf1 ++ []))) 15 15 ?_
  generalize (w1).drew = w17 at z17 p17 ⊢
  refine Hq [0, 1, 2, 3] 4 (p17.g 0) ?_
  refine HbA [(117, .bool (decide (x10 ≤ x11))), (118, .bool (decide (x10 ≤ x11)))] ?_
  refine Gi h (fun ujr h => ?_) fun ujr h => ?_
  ·
   rw [dt ujr]
   refine Hq [4, 5] 2 (p17.g 0) ?_
   refine Gg h fun ujs h => ?_
   refine Gg h fun ujt h => ?_
   refine Hx 6 .i64 0 cx0 rfl rfl p17 rfl (fe0.ext z17) (p17.g 0) ujs ujt ?_
   rintro uju _ rfl ujv ubi ujw
   obtain rfl := ujv
   refine Hl 7 (p17.g 0) (fun _ h => h.2.right.left.rowAt (ubi 0 _ rfl)) ?_
   refine Hq [8, 9] 2 (p17.g 0) ?_
   refine Gg h fun ujx h => ?_
   refine Gg h fun ujy h => ?_
   refine Hx 10 .i64 0 cx0 rfl rfl p17 rfl (fe0.ext z17) (p17.g 0) ujx ujy ?_
   rintro ujz _ uk0 uk1 uk2 ubm
   injection uk0 with uk3; subst uk3
   obtain rfl := uk1
   refine Hl 11 (p17.g 0) (fun _ h => h.2.right.left.rowAt (uk2 0 _ rfl)) ?_
   refine Gb h fun u7g uk4 h => ?_
   refine Oc (kc 157 [122, 126] #[35, 35]) 127 4 157 #[.u (gi e0 x11), .u (gi e0 x1)] (Ac 12) (W.z2e (gi e0 x11) (gi e0 x1) u7g uk4  p17 ) ?_
   rintro _ w18 ⟨S18, rfl, z18, p18⟩
   refine AnyG.last [] (Fc S18 w18 []) (by decide) ?_
   refine Hq [13, 14] 2 (Fc.here trivial) ?_
   refine Ad ?_
   exact Gk (ujq _ _ h _ _ ((hx.t z17).t z18) _ p18 (fe0.ext (z17.t z18)) rfl)
  ·
   rw [df ujr]
   refine Hq [4, 5, 6, 7, 8, 9, 10, 11] 8 (p17.g 0) ?_
   refine Ak 12 127 ?_
   refine Hq [13, 14] 2 (p17.g 0) ?_
   refine Ad ?_
   exact Gk (ujq _ _ h _ _ (hx.t z17) _ p17 (fe0.ext z17) rfl)
 ·
  intro uk5 ujl uk6 ujm ⟨x1, x10, x11, uj7, e0⟩ r h S1 w1 hx uf1 p1 fe0 le0 junk
  try dsimp only at h
  subst le0
  refine Hb [(129, .bool uj7)] ?_
  refine Gi h (fun uk7 h => ?_) fun uk7 h => ?_
  ·
   rw [uk7]
   refine Hn 10 Jgg ?_
   exact Gk (ujm _ _ h _ _ hx _ p1 fe0 rfl)
  ·
   rw [bf uk7]
   refine Hn 9 (Ys 111111111100001101 B234 (Ys 11111111110000111 B234 Jg6)) ?_
   refine Hb [(134, .bool (decide (x10 > x11)))] ?_
   refine Gi h (fun uk9 h => ?_) fun uk9 h => ?_
   ·
    rw [dt uk9]
    refine Hn 3 (Ys 111111111110 B234 (Ys 111111111111 B234 [])) ?_
    have z19 : Ext S1 w1 S1 (w1).drew := Ext.draw
    have p19 := p1.draw
    refine Gd [13, 15] (Fc S1 (w1).drew ([] ++ (rowCellsO Gx0 uf1 ++ []))) 21 16 ?_
    generalize (w1).drew = w19 at z19 p19 ⊢
    refine Hq [0, 1, 2, 3, 4, 5] 6 (p19.g 0) ?_
    refine Gg h fun uka h => ?_
    refine Gg h fun ukb h => ?_
    refine Hx 6 .i64 0 cx0 rfl rfl p19 rfl (fe0.ext z19) (p19.g 0) uka ukb ?_
    rintro ukc _ rfl ukd uke ukf
    obtain rfl := ukd
    refine Hl 7 (p19.g 0) (fun _ h => h.2.right.left.rowAt (uke 0 _ rfl)) ?_
    refine Hq [8, 9] 2 (p19.g 0) ?_
    refine Gg h fun ukg h => ?_
    refine Gg h fun ukh h => ?_
    refine Hx 10 .i64 0 cx0 rfl rfl p19 rfl (fe0.ext z19) (p19.g 0) ukg ukh ?_
    rintro uki _ ukj u7t u80 u7y
    injection ukj with ukk; subst ukk
    obtain rfl := u7t
    refine Hl 11 (p19.g 0) (fun _ h => h.2.right.left.rowAt (u80 0 _ rfl)) ?_
    refine Hx 12 .i64 0 cx0 rfl rfl p19 rfl (fe0.ext z19) (p19.g 0) ukg ukh ?_
    rintro ukl _ ukm ukn uko ukp
    injection ukm with ukq; subst ukq
    obtain rfl := ukn
    refine Op_.stE_n (K := (kInt .u64)) 35 (.tmp 165) (.tmp 160) 0 0 x11 (.u (gi e0 x1)) [.u (gi e0 x1)] (gi e0 x1) (si e0 x11 (gi e0 x1)) e0.length rfl rfl p19 rfl (fe0.ext z19) (As 13) (by kernel_rfl) (by kernel_rfl) (by kernel_rfl) rfl (by kernel_rfl) ukg ukh (Nat.zero_le _) fun w20 ukr z20 p20 uks ukt => ?_
    refine AnyG.last [15] (Fc S1 w20 []) (by decide) ?_
    refine Hx 14 .i64 0 cx0 ukt rfl p20 rfl uks (Fc.here trivial) uka ukb ?_
    rintro uku _ ukv ukw udq ukx
    injection ukv with uky; subst uky
    obtain rfl := ukw
    refine Op_.stE_n (K := (kInt .u64)) 35 (.tmp 166) (.tmp 164) 0 0 x1 (.u (gi e0 x11)) [.u (gi e0 x11)] (gi e0 x11) (si (si e0 x11 (gi e0 x1)) x1 (gi e0 x11)) e0.length ukt rfl p20 rfl uks (As 15) (by kernel_rfl) (by kernel_rfl) (by kernel_rfl) rfl (by kernel_rfl) uka ukb (Nat.zero_le _) fun w21 ukz z21 p21 ul0 ul1 => ?_
    refine AnyG.last [] (Fc S1 w21 []) (by decide) ?_
    refine Ad ?_
    refine Hn 6 (Ys 1111111111111 B234 []) ?_
    obtain rfl := sj h
    exact Hr Tryz.f234 ⟨_, _, rfl, (((hx.t z19).t z20).t z21), p21, ul0, ul1⟩
   ·
    rw [df uk9]
    refine Hn 3 (Ys 111111111100001110 B234 (Ys 111111111100001111 B234 Jg6)) ?_
    have z22 : Ext S1 w1 S1 (w1).drew := Ext.draw
    have p22 := p1.draw
    refine Gd [13, 15] (Fc S1 (w1).drew ([] ++ (rowCellsO Gx0 uf1 ++ []))) 18 16 ?_
    generalize (w1).drew = w22 at z22 p22 ⊢
    refine Hq [0, 1, 2, 3, 4, 5] 6 (p22.g 0) ?_
    refine Gg h fun ul2 h => ?_
    refine Gg h fun ul3 h => ?_
    refine Hx 6 .i64 0 cx0 rfl rfl p22 rfl (fe0.ext z22) (p22.g 0) ul2 ul3 ?_
    rintro ul4 _ rfl u8c u8l u8j
    obtain rfl := u8c
    refine Hl 7 (p22.g 0) (fun _ h => h.2.right.left.rowAt (u8l 0 _ rfl)) ?_
    refine Hq [8, 9] 2 (p22.g 0) ?_
    refine Gg h fun ul5 h => ?_
    refine Gg h fun ul6 h => ?_
    refine Hx 10 .i64 0 cx0 rfl rfl p22 rfl (fe0.ext z22) (p22.g 0) ul5 ul6 ?_
    rintro ul7 _ ul8 ul9 ula ulb
    injection ul8 with ulc; subst ulc
    obtain rfl := ul9
    refine Hl 11 (p22.g 0) (fun _ h => h.2.right.left.rowAt (ula 0 _ rfl)) ?_
    refine Hx 12 .i64 0 cx0 rfl rfl p22 rfl (fe0.ext z22) (p22.g 0) ul5 ul6 ?_
    rintro uld _ ule ulf ulg ulh
    injection ule with uli; subst uli
    obtain rfl := ulf
    refine Op_.stE_n (K := (kInt .u64)) 35 (.tmp 147) (.tmp 142) 0 0 x10 (.u (gi e0 x11)) [.u (gi e0 x11)] (gi e0 x11) (si e0 x10 (gi e0 x11)) e0.length rfl rfl p22 rfl (fe0.ext z22) (As 13) (by kernel_rfl) (by kernel_rfl) (by kernel_rfl) rfl (by kernel_rfl) ul5 ul6 (Nat.zero_le _) fun w23 ulj z23 p23 ulk ull => ?_
    refine AnyG.last [15] (Fc S1 w23 []) (by decide) ?_
    refine Hx 14 .i64 0 cx0 ull rfl p23 rfl ulk (Fc.here trivial) ul2 ul3 ?_
    rintro ulm _ uln ulo ulp ulq
    injection uln with ulr; subst ulr
    obtain rfl := ulo
    refine Op_.stE_n (K := (kInt .u64)) 35 (.tmp 148) (.tmp 146) 0 0 x11 (.u (gi e0 x10)) [.u (gi e0 x10)] (gi e0 x10) (si (si e0 x10 (gi e0 x11)) x11 (gi e0 x10)) e0.length ull rfl p23 rfl ulk (As 15) (by kernel_rfl) (by kernel_rfl) (by kernel_rfl) rfl (by kernel_rfl) ul2 ul3 (Nat.zero_le _) fun w24 uls z24 p24 u98 ult => ?_
    refine AnyG.last [] (Fc S1 w24 []) (by decide) ?_
    refine Ad ?_
    refine Hn 13 Jg5 ?_
    exact Gk (uk6 _ _ h _ _ (((hx.t z22).t z23).t z24) _ p24 u98 ult)

theorem W.z3h {nz wz S0 w0 Lr} (Gx0 : Option Nat) (nx0 : Nat) (cx0 : Nat) : ∀ a r, M.ay a = some r → (L.z3h nz wz S0 w0 Lr Gx0 nx0 cx0) a r := (W.z3m Gx0 nx0 cx0).1

theorem W.z3i {nz wz S0 w0 Lr} (Gx0 : Option Nat) (nx0 : Nat) (cx0 : Nat) : ∀ a r, M.a1e a = some r → (L.z3i nz wz S0 w0 Lr Gx0 nx0 cx0) a r := (W.z3m Gx0 nx0 cx0).2.1

theorem W.z3j {nz wz S0 w0 Lr} (Gx0 : Option Nat) (nx0 : Nat) (cx0 : Nat) : ∀ a r, M.a1f a = some r → (L.z3j nz wz S0 w0 Lr Gx0 nx0 cx0) a r := (W.z3m Gx0 nx0 cx0).2.2.1

theorem W.z3k {nz wz S0 w0 Lr} (Gx0 : Option Nat) (nx0 : Nat) (cx0 : Nat) : ∀ a r, M.al a = some r → (L.z3k nz wz S0 w0 Lr Gx0 nx0 cx0) a r := (W.z3m Gx0 nx0 cx0).2.2.2.1

theorem W.z3l {nz wz S0 w0 Lr} (Gx0 : Option Nat) (nx0 : Nat) (cx0 : Nat) : ∀ a r, M.az a = some r → (L.z3l nz wz S0 w0 Lr Gx0 nx0 cx0) a r := (W.z3m Gx0 nx0 cx0).2.2.2.2

def Qd8 := Yq 11111000 B234
def Jgu := Zl Qd8 (Zb 2 (Ys 111111 B234 []))
def Jgv := Zc Qd8 Jgu
def Jgx := Ys 1111100001 B234 (Ys 111110001 B234 Jgu)
def Jgz := Ys 1111111 B234 []

def L.z3n (Gx0 : Option Nat) (nx0 : Nat) (cx0 : Nat) : Int × Int × Int × (List Int) → (Int × Bool × (List Int)) → Prop := fun ⟨x1, x10, x11, e0⟩ r => ∀ S1 w1, Ext S0 w0 S1 w1 → ∀ uf1 (_ : Hp nz wz S1 w1 ((Gx0, .row 35 uf1 (cx0 * (kInt .u64).size) 0) :: Lr)) (_ : Els (kInt .u64) S1 w1 uf1 e0) (_ : e0.length = nx0) (junk : Nat → Value),
 Goes Tryz.prog (base 234) Jgv ⟨lfr 168 [(0, .slice (Gp Gx0) nx0 cx0), (1, .i x1), (10, .i x10), (11, .i x11)] junk, []⟩ w1 (Done Tryz.prog 234 (Rets (Post.z3g nz wz S0 w0 Lr Gx0 nx0 cx0 r)))

def L.z3o (Gx0 : Option Nat) (nx0 : Nat) (cx0 : Nat) : Int × Int × Int × Bool × (List Int) → (Int × Bool × (List Int)) → Prop := fun ⟨x1, x10, x11, x60, e0⟩ r => ∀ S1 w1, Ext S0 w0 S1 w1 → ∀ uf1 (_ : Hp nz wz S1 w1 ((Gx0, .row 35 uf1 (cx0 * (kInt .u64).size) 0) :: Lr)) (_ : Els (kInt .u64) S1 w1 uf1 e0) (_ : e0.length = nx0) (junk : Nat → Value),
 Goes Tryz.prog (base 234) Jgx ⟨lfr 168 [(0, .slice (Gp Gx0) nx0 cx0), (1, .i x1), (10, .i x10), (11, .i x11), (60, .bool x60)] junk, []⟩ w1 (Done Tryz.prog 234 (Rets (Post.z3g nz wz S0 w0 Lr Gx0 nx0 cx0 r)))

theorem W.z3p {nz wz S0 w0 Lr} (Gx0 : Option Nat) (nx0 : Nat) (cx0 : Nat) : (∀ a r, M.ab a = some r → (L.z3n nz wz S0 w0 Lr Gx0 nx0 cx0) a r) ∧ (∀ a r, M.a10 a = some r → (L.z3o nz wz S0 w0 Lr Gx0 nx0 cx0) a r) := by
 refine M.ab.mutual_partial_correctness (L.z3n nz wz S0 w0 Lr Gx0 nx0 cx0) (L.z3o nz wz S0 w0 Lr Gx0 nx0 cx0) ?_ ?_
 ·
  intro ulu ulv ⟨x1, x10, x11, e0⟩ r h S1 w1 hx uf1 p1 fe0 le0 junk
  try dsimp only at h
  subst le0
  refine Hn 2 (Ys 1111100000 B234 Jgx) ?_
  have z7 : Ext S1 w1 S1 (w1).drew := Ext.draw
  have p7 := p1.draw
  refine Gd [12] (Fc S1 (w1).drew ([] ++ (rowCellsO Gx0 uf1 ++ []))) 5 15 ?_
  generalize (w1).drew = w7 at z7 p7 ⊢
  refine Hq [0, 1, 2, 3] 4 (p7.g 0) ?_
  refine HbA [(48, .bool (decide (x10 ≤ x11))), (49, .bool (decide (x10 ≤ x11)))] ?_
  refine Gi h (fun h50 h => ?_) fun h50 h => ?_
  ·
   rw [dt h50]
   refine Hq [4, 5] 2 (p7.g 0) ?_
   refine Gg h fun g51 h => ?_
   refine Gg h fun g52 h => ?_
   refine Hx 6 .i64 0 cx0 rfl rfl p7 rfl (fe0.ext z7) (p7.g 0) g51 g52 ?_
   rintro b53 _ rfl q55 f57 f54
   obtain rfl := q55
   refine Hl 7 (p7.g 0) (fun _ h => h.2.right.left.rowAt (f57 0 _ rfl)) ?_
   refine Hq [8, 9] 2 (p7.g 0) ?_
   refine Gg h fun g58 h => ?_
   refine Gg h fun g59 h => ?_
   refine Hx 10 .i64 0 cx0 rfl rfl p7 rfl (fe0.ext z7) (p7.g 0) g58 g59 ?_
   rintro b60 _ e63 q62 f64 f61
   injection e63 with uis; subst uis
   obtain rfl := q62
   refine Hl 11 (p7.g 0) (fun _ h => h.2.right.left.rowAt (f64 0 _ rfl)) ?_
   refine Gb h fun y65 e66 h => ?_
   refine Oc (kc 157 [53, 57] #[35, 35]) 58 4 157 #[.u (gi e0 x11), .u (gi e0 x1)] (Ac 12) (W.z2e (gi e0 x11) (gi e0 x1) y65 e66  p7 ) ?_
   rintro _ w8 ⟨S8, rfl, z8, p8⟩
   refine AnyG.last [] (Fc S8 w8 []) (by decide) ?_
   refine Hq [13, 14] 2 (Fc.here trivial) ?_
   refine Ad ?_
   exact Gk (ulv _ _ h _ _ ((hx.t z7).t z8) _ p8 (fe0.ext (z7.t z8)) rfl)
  ·
   rw [df h50]
   refine Hq [4, 5, 6, 7, 8, 9, 10, 11] 8 (p7.g 0) ?_
   refine Ak 12 58 ?_
   refine Hq [13, 14] 2 (p7.g 0) ?_
   refine Ad ?_
   exact Gk (ulv _ _ h _ _ (hx.t z7) _ p7 (fe0.ext z7) rfl)
 ·
  intro ulw ulx ⟨x1, x10, x11, x60, e0⟩ r h S1 w1 hx uf1 p1 fe0 le0 junk
  try dsimp only at h
  subst le0
  refine Hb [(60, .bool x60)] ?_
  refine Gi h (fun h67 h => ?_) fun h67 h => ?_
  ·
   rw [h67]
   refine Hn 10 Jgv ?_
   exact Gk (ulx _ _ h _ _ hx _ p1 fe0 rfl)
  ·
   rw [bf h67]
   refine Hn 9 (Ys 11111101 B234 Jgz) ?_
   refine Hb [(65, .bool (decide (x10 > x11)))] ?_
   refine Gi h (fun h68 h => ?_) fun h68 h => ?_
   ·
    rw [dt h68]
    refine Hn 2 (Ys 1111110100 B234 (Ys 1111110101 B234 Jgz)) ?_
    have z9 : Ext S1 w1 S1 (w1).drew := Ext.draw
    have p9 := p1.draw
    refine Gd [13, 15] (Fc S1 (w1).drew ([] ++ (rowCellsO Gx0 uf1 ++ []))) 8 16 ?_
    generalize (w1).drew = w9 at z9 p9 ⊢
    refine Hq [0, 1, 2, 3, 4, 5] 6 (p9.g 0) ?_
    refine Gg h fun g69 h => ?_
    refine Gg h fun g70 h => ?_
    refine Hx 6 .i64 0 cx0 rfl rfl p9 rfl (fe0.ext z9) (p9.g 0) g69 g70 ?_
    rintro b71 _ rfl q73 f75 f72
    obtain rfl := q73
    refine Hl 7 (p9.g 0) (fun _ h => h.2.right.left.rowAt (f75 0 _ rfl)) ?_
    refine Hq [8, 9] 2 (p9.g 0) ?_
    refine Gg h fun g76 h => ?_
    refine Gg h fun g77 h => ?_
    refine Hx 10 .i64 0 cx0 rfl rfl p9 rfl (fe0.ext z9) (p9.g 0) g76 g77 ?_
    rintro b78 _ e81 q80 f82 f79
    injection e81 with uiw; subst uiw
    obtain rfl := q80
    refine Hl 11 (p9.g 0) (fun _ h => h.2.right.left.rowAt (f82 0 _ rfl)) ?_
    refine Hx 12 .i64 0 cx0 rfl rfl p9 rfl (fe0.ext z9) (p9.g 0) g76 g77 ?_
    rintro b83 _ e86 q85 f87 f84
    injection e86 with uix; subst uix
    obtain rfl := q85
    refine Op_.stE_n (K := (kInt .u64)) 35 (.tmp 78) (.tmp 73) 0 0 x11 (.u (gi e0 x1)) [.u (gi e0 x1)] (gi e0 x1) (si e0 x11 (gi e0 x1)) e0.length rfl rfl p9 rfl (fe0.ext z9) (As 13) (by kernel_rfl) (by kernel_rfl) (by kernel_rfl) rfl (by kernel_rfl) g76 g77 (Nat.zero_le _) fun w10 uiy z10 p10 f89 l90 => ?_
    refine AnyG.last [15] (Fc S1 w10 []) (by decide) ?_
    refine Hx 14 .i64 0 cx0 l90 rfl p10 rfl f89 (Fc.here trivial) g69 g70 ?_
    rintro b91 _ e94 q93 f95 f92
    injection e94 with uiz; subst uiz
    obtain rfl := q93
    refine Op_.stE_n (K := (kInt .u64)) 35 (.tmp 79) (.tmp 77) 0 0 x1 (.u (gi e0 x11)) [.u (gi e0 x11)] (gi e0 x11) (si (si e0 x11 (gi e0 x1)) x1 (gi e0 x11)) e0.length l90 rfl p10 rfl f89 (As 15) (by kernel_rfl) (by kernel_rfl) (by kernel_rfl) rfl (by kernel_rfl) g69 g70 (Nat.zero_le _) fun w11 uj0 z11 p11 f97 l98 => ?_
    refine AnyG.last [] (Fc S1 w11 []) (by decide) ?_
    refine Ad ?_
    refine Hn 6 (Ys 11111101011 B234 Jgz) ?_
    obtain rfl := sj h
    exact Hr Tryz.f234 ⟨_, _, rfl, (((hx.t z9).t z10).t z11), p11, f97, l98⟩
   ·
    rw [df h68]
    refine Hn 3 (Ys 11111110 B234 (Ys 11111111 B234 [])) ?_
    have z12 : Ext S1 w1 S1 (w1).drew := Ext.draw
    have p12 := p1.draw
    refine Gd [13, 15] (Fc S1 (w1).drew ([] ++ (rowCellsO Gx0 uf1 ++ []))) 10 16 ?_
    generalize (w1).drew = w12 at z12 p12 ⊢
    refine Hq [0, 1, 2, 3, 4, 5] 6 (p12.g 0) ?_
    refine Gg h fun g99 h => ?_
    refine Gg h fun uly h => ?_
    refine Hx 6 .i64 0 cx0 rfl rfl p12 rfl (fe0.ext z12) (p12.g 0) g99 uly ?_
    rintro ulz _ rfl u9z um0 ua1
    obtain rfl := u9z
    refine Hl 7 (p12.g 0) (fun _ h => h.2.right.left.rowAt (um0 0 _ rfl)) ?_
    refine Hq [8, 9] 2 (p12.g 0) ?_
    refine Gg h fun um1 h => ?_
    refine Gg h fun um2 h => ?_
    refine Hx 10 .i64 0 cx0 rfl rfl p12 rfl (fe0.ext z12) (p12.g 0) um1 um2 ?_
    rintro um3 _ ua9 um4 uaa um5
    injection ua9 with um6; subst um6
    obtain rfl := um4
    refine Hl 11 (p12.g 0) (fun _ h => h.2.right.left.rowAt (uaa 0 _ rfl)) ?_
    refine Hx 12 .i64 0 cx0 rfl rfl p12 rfl (fe0.ext z12) (p12.g 0) um1 um2 ?_
    rintro um7 _ um8 uab uai uag
    injection um8 with um9; subst um9
    obtain rfl := uab
    refine Op_.stE_n (K := (kInt .u64)) 35 (.tmp 93) (.tmp 88) 0 0 x10 (.u (gi e0 x11)) [.u (gi e0 x11)] (gi e0 x11) (si e0 x10 (gi e0 x11)) e0.length rfl rfl p12 rfl (fe0.ext z12) (As 13) (by kernel_rfl) (by kernel_rfl) (by kernel_rfl) rfl (by kernel_rfl) um1 um2 (Nat.zero_le _) fun w13 uma z13 p13 umb umc => ?_
    refine AnyG.last [15] (Fc S1 w13 []) (by decide) ?_
    refine Hx 14 .i64 0 cx0 umc rfl p13 rfl umb (Fc.here trivial) g99 uly ?_
    rintro umd _ ume umf umg uel
    injection ume with umh; subst umh
    obtain rfl := umf
    refine Op_.stE_n (K := (kInt .u64)) 35 (.tmp 94) (.tmp 92) 0 0 x11 (.u (gi e0 x10)) [.u (gi e0 x10)] (gi e0 x10) (si (si e0 x10 (gi e0 x11)) x11 (gi e0 x10)) e0.length umc rfl p13 rfl umb (As 15) (by kernel_rfl) (by kernel_rfl) (by kernel_rfl) rfl (by kernel_rfl) g99 uly (Nat.zero_le _) fun w14 umi z14 p14 umj umk => ?_
    refine AnyG.last [] (Fc S1 w14 []) (by decide) ?_
    refine Ad ?_
    refine Hn 14 (Ys 111111111100 B234 Jg3) ?_
    refine Hn 1 Jg5 ?_
    exact Gk (W.z3h (some ulz) e0.length cx0 _ _ h _ _ (((hx.t z12).t z13).t z14) _ p14 umj umk)

theorem W.z3n {nz wz S0 w0 Lr} (Gx0 : Option Nat) (nx0 : Nat) (cx0 : Nat) : ∀ a r, M.ab a = some r → (L.z3n nz wz S0 w0 Lr Gx0 nx0 cx0) a r := (W.z3p Gx0 nx0 cx0).1

theorem W.z3o {nz wz S0 w0 Lr} (Gx0 : Option Nat) (nx0 : Nat) (cx0 : Nat) : ∀ a r, M.a10 a = some r → (L.z3o nz wz S0 w0 Lr Gx0 nx0 cx0) a r := (W.z3p Gx0 nx0 cx0).2

def Qdl := Yq 1111000 B234
def Jh9 := Zl Qdl (Zb 0 (Ys 11111 B234 []))
def Jha := Zc Qdl Jh9
def Jhc := Ys 111100001 B234 (Ys 11110001 B234 Jh9)

def L.z3q (Gx0 : Option Nat) (nx0 : Nat) (cx0 : Nat) : Int × Int × Int × (List Int) → (Int × Bool × (List Int)) → Prop := fun ⟨x1, x10, x11, e0⟩ r => ∀ S1 w1, Ext S0 w0 S1 w1 → ∀ uf1 (_ : Hp nz wz S1 w1 ((Gx0, .row 35 uf1 (cx0 * (kInt .u64).size) 0) :: Lr)) (_ : Els (kInt .u64) S1 w1 uf1 e0) (_ : e0.length = nx0) (junk : Nat → Value),
 Goes Tryz.prog (base 234) Jha ⟨lfr 168 [(0, .slice (Gp Gx0) nx0 cx0), (1, .i x1), (10, .i x10), (11, .i x11)] junk, []⟩ w1 (Done Tryz.prog 234 (Rets (Post.z3g nz wz S0 w0 Lr Gx0 nx0 cx0 r)))

def L.z3r (Gx0 : Option Nat) (nx0 : Nat) (cx0 : Nat) : Int × Int × Int × Bool × (List Int) → (Int × Bool × (List Int)) → Prop := fun ⟨x1, x10, x11, x43, e0⟩ r => ∀ S1 w1, Ext S0 w0 S1 w1 → ∀ uf1 (_ : Hp nz wz S1 w1 ((Gx0, .row 35 uf1 (cx0 * (kInt .u64).size) 0) :: Lr)) (_ : Els (kInt .u64) S1 w1 uf1 e0) (_ : e0.length = nx0) (junk : Nat → Value),
 Goes Tryz.prog (base 234) Jhc ⟨lfr 168 [(0, .slice (Gp Gx0) nx0 cx0), (1, .i x1), (10, .i x10), (11, .i x11), (43, .bool x43)] junk, []⟩ w1 (Done Tryz.prog 234 (Rets (Post.z3g nz wz S0 w0 Lr Gx0 nx0 cx0 r)))

theorem W.z3s {nz wz S0 w0 Lr} (Gx0 : Option Nat) (nx0 : Nat) (cx0 : Nat) : (∀ a r, M.a11 a = some r → (L.z3q nz wz S0 w0 Lr Gx0 nx0 cx0) a r) ∧ (∀ a r, M.a1g a = some r → (L.z3r nz wz S0 w0 Lr Gx0 nx0 cx0) a r) := by
 refine M.a11.mutual_partial_correctness (L.z3q nz wz S0 w0 Lr Gx0 nx0 cx0) (L.z3r nz wz S0 w0 Lr Gx0 nx0 cx0) ?_ ?_
 ·
  intro uml umm ⟨x1, x10, x11, e0⟩ r h S1 w1 hx uf1 p1 fe0 le0 junk
  try dsimp only at h
  subst le0
  refine Hn 2 (Ys 111100000 B234 Jhc) ?_
  have z5 : Ext S1 w1 S1 (w1).drew := Ext.draw
  have p5 := p1.draw
  refine Gd [12] (Fc S1 (w1).drew ([] ++ (rowCellsO Gx0 uf1 ++ []))) 3 14 ?_
  generalize (w1).drew = w5 at z5 p5 ⊢
  refine Hq [0, 1, 2, 3] 4 (p5.g 0) ?_
  refine HbA [(32, .bool (decide (x10 ≤ x11))), (33, .bool (decide (x10 ≤ x11)))] ?_
  refine Gi h (fun h32 h => ?_) fun h32 h => ?_
  ·
   rw [dt h32]
   refine Hq [4, 5] 2 (p5.g 0) ?_
   refine Gg h fun g33 h => ?_
   refine Gg h fun g34 h => ?_
   refine Hx 6 .i64 0 cx0 rfl rfl p5 rfl (fe0.ext z5) (p5.g 0) g33 g34 ?_
   rintro b35 _ rfl q37 f39 f36
   obtain rfl := q37
   refine Hl 7 (p5.g 0) (fun _ h => h.2.right.left.rowAt (f39 0 _ rfl)) ?_
   refine Hq [8, 9] 2 (p5.g 0) ?_
   refine Gg h fun g40 h => ?_
   refine Gg h fun g41 h => ?_
   refine Hx 10 .i64 0 cx0 rfl rfl p5 rfl (fe0.ext z5) (p5.g 0) g40 g41 ?_
   rintro b42 _ e45 q44 f46 f43
   injection e45 with ufp; subst ufp
   obtain rfl := q44
   refine Hl 11 (p5.g 0) (fun _ h => h.2.right.left.rowAt (f46 0 _ rfl)) ?_
   refine Gb h fun y47 e48 h => ?_
   refine Oc (kc 157 [37, 41] #[35, 35]) 42 4 157 #[.u (gi e0 x10), .u (gi e0 x1)] (Ac 12) (W.z2e (gi e0 x10) (gi e0 x1) y47 e48  p5 ) ?_
   rintro _ w6 ⟨S6, rfl, z6, p6⟩
   refine AnyG.last [] (Fc S6 w6 []) (by decide) ?_
   refine Hq [13] 1 (Fc.here trivial) ?_
   refine Ad ?_
   exact Gk (umm _ _ h _ _ ((hx.t z5).t z6) _ p6 (fe0.ext (z5.t z6)) rfl)
  ·
   rw [df h32]
   refine Hq [4, 5, 6, 7, 8, 9, 10, 11] 8 (p5.g 0) ?_
   refine Ak 12 42 ?_
   refine Hq [13] 1 (p5.g 0) ?_
   refine Ad ?_
   exact Gk (umm _ _ h _ _ (hx.t z5) _ p5 (fe0.ext z5) rfl)
 ·
  intro umn umo ⟨x1, x10, x11, x43, e0⟩ r h S1 w1 hx uf1 p1 fe0 le0 junk
  try dsimp only at h
  subst le0
  refine Hb [(43, .bool x43)] ?_
  refine Gi h (fun h49 h => ?_) fun h49 h => ?_
  ·
   rw [h49]
   refine Hn 10 Jha ?_
   exact Gk (umo _ _ h _ _ hx _ p1 fe0 rfl)
  ·
   rw [bf h49]
   refine Hn 5 Jgv ?_
   exact Gk (W.z3n Gx0 e0.length cx0 _ _ h _ _ hx _ p1 fe0 rfl)

theorem W.z3q {nz wz S0 w0 Lr} (Gx0 : Option Nat) (nx0 : Nat) (cx0 : Nat) : ∀ a r, M.a11 a = some r → (L.z3q nz wz S0 w0 Lr Gx0 nx0 cx0) a r := (W.z3s Gx0 nx0 cx0).1

theorem W.z3r {nz wz S0 w0 Lr} (Gx0 : Option Nat) (nx0 : Nat) (cx0 : Nat) : ∀ a r, M.a1g a = some r → (L.z3r nz wz S0 w0 Lr Gx0 nx0 cx0) a r := (W.z3s Gx0 nx0 cx0).2


theorem W.z3g (x0 : List Int) (x1 : Int) (x2 : Int) (x3 : Int) (r : Int × Bool × (List Int)) (h : M.a2m x0 x1 x2 x3 = some r) {nz wz S0 w0 Lr} (Gx0 nx0 cx0 uff) (p0 : Hp nz wz S0 w0 ((Gx0, .row 35 uff (cx0 * (kInt .u64).size) 0) :: Lr)) (fx0 : Els (kInt .u64) S0 w0 uff x0) (lx0 : x0.length = nx0) :
  Calls Tryz.prog 234 #[.slice (Gp Gx0) nx0 cx0, .i x1, .i x2, .i x3] w0 (Rets (Post.z3g nz wz S0 w0 Lr Gx0 nx0 cx0 r)) := by
 subst lx0
 refine Zf Tryz.f234 B234 164 ?_
 refine Gj 168 [(0, .slice (Gp Gx0) x0.length cx0), (1, .i x1), (2, .i x2), (3, .i x3)] fun junk => ?_
 delta M.a2m at h
 refine Hn 6 (Ys 110 B234 (Ys 111 B234 [])) ?_
 have z2 : Ext S0 w0 S0 (w0).drew := Ext.draw
 have p2 := p0.draw
 refine Gd [13, 15] (Fc S0 (w0).drew ([] ++ (rowCellsO Gx0 uff ++ []))) 1 16 ?_
 generalize (w0).drew = w2 at z2 p2 ⊢
 refine Hq [0, 1, 2, 3, 4, 5] 6 (p2.g 0) ?_
 refine Gg h fun g2 h => ?_
 refine Gg h fun g3 h => ?_
 refine Hx 6 .i64 0 cx0 rfl rfl p2 rfl (fx0.ext z2) (p2.g 0) g2 g3 ?_
 rintro b4 _ rfl q6 f8 f5
 obtain rfl := q6
 refine Hl 7 (p2.g 0) (fun _ h => h.2.right.left.rowAt (f8 0 _ rfl)) ?_
 refine Hq [8, 9] 2 (p2.g 0) ?_
 refine Gg h fun g9 h => ?_
 refine Gg h fun g10 h => ?_
 refine Hx 10 .i64 0 cx0 rfl rfl p2 rfl (fx0.ext z2) (p2.g 0) g9 g10 ?_
 rintro b11 _ e14 q13 f15 f12
 injection e14 with uj1; subst uj1
 obtain rfl := q13
 refine Hl 11 (p2.g 0) (fun _ h => h.2.right.left.rowAt (f15 0 _ rfl)) ?_
 refine Hx 12 .i64 0 cx0 rfl rfl p2 rfl (fx0.ext z2) (p2.g 0) g9 g10 ?_
 rintro b16 _ e19 q18 f20 f17
 injection e19 with uj2; subst uj2
 obtain rfl := q18
 refine Op_.stE_n (K := (kInt .u64)) 35 (.tmp 24) (.tmp 19) 0 0 x1 (.u (gi x0 x3)) [.u (gi x0 x3)] (gi x0 x3) (si x0 x1 (gi x0 x3)) x0.length rfl rfl p2 rfl (fx0.ext z2) (As 13) (by kernel_rfl) (by kernel_rfl) (by kernel_rfl) rfl (by kernel_rfl) g9 g10 (Nat.zero_le _) fun w3 uj3 z3 p3 f22 l23 => ?_
 refine AnyG.last [15] (Fc S0 w3 []) (by decide) ?_
 refine Hx 14 .i64 0 cx0 l23 rfl p3 rfl f22 (Fc.here trivial) g2 g3 ?_
 rintro b24 _ e27 q26 f28 f25
 injection e27 with uj4; subst uj4
 obtain rfl := q26
 refine Op_.stE_n (K := (kInt .u64)) 35 (.tmp 25) (.tmp 23) 0 0 x3 (.u (gi x0 x1)) [.u (gi x0 x1)] (gi x0 x1) (si (si x0 x1 (gi x0 x3)) x3 (gi x0 x1)) x0.length l23 rfl p3 rfl f22 (As 15) (by kernel_rfl) (by kernel_rfl) (by kernel_rfl) rfl (by kernel_rfl) g2 g3 (Nat.zero_le _) fun w4 uj5 z4 p4 f30 l31 => ?_
 refine AnyG.last [] (Fc S0 w4 []) (by decide) ?_
 refine Ad ?_
 refine Hn 12 Jha ?_
 exact Gk (W.z3q (some b4) x0.length cx0 _ _ h _ _ ((z2.t z3).t z4) _ p4 f30 l31)

def Jhg := Ys 111 B241 []

def Post.z3t (r : Int) (v : Value) (w' : World) : Prop :=
 ∃ S', v = .u r ∧ Ext S0 w0 S' w' ∧ Hp nz wz S' w' (Lr)

theorem W.z3t (x0 : Int) (r : Int) (h : M.a3c x0 = some r) {nz wz S0 w0 Lr} (p0 : Hp nz wz S0 w0 (Lr)) :
  Calls Tryz.prog 241 #[.i x0] w0 (Rets (Post.z3t nz wz S0 w0 Lr r)) := by
 refine Zf Tryz.f241 B241 6 ?_
 refine Gj 7 [(0, .i x0)] fun junk => ?_
 delta M.a3c at h
 refine Hn 8 (Yt 110 B241 [2, 3, 4] Jhg) ?_
 refine Gb h fun y1 e2 h => ?_
 refine Gc (kc 176 [4] #[213]) 5 3 176 _ (W.z2c (wr .u64 x0) y1 e2  p0 ) ?_
 rintro _ w2 ⟨S2, rfl, z2, p2⟩
 refine Gg h fun g3 h => ?_
 refine Op_.binshl 213 (.const (.int .u64 1)) (.tmp 5) 3 6 213 .u64 .i64 1 y1 Goes.v (by kernel_rfl) (by kernel_rfl) g3 ?_
 refine Hn 2 Jhg ?_
 obtain rfl := sj h
 exact Hr Tryz.f241 ⟨_, rfl, z2, p2⟩

def Jho := Ys 111111 B242 []

def Post.z3u (gx0 : Nat) (r : Int × Int) (v : Value) (w' : World) : Prop :=
 ∃ S', v = .u r.1 ∧ Ext S0 w0 S' w' ∧ Hp nz wz S' w' ((some gx0, .row 281 [.u r.2] 1 0) :: Lr)

theorem W.z3u (ump : Int) (r : Int × Int) (h : M.a3b ump = some r) {nz wz S0 w0 Lr} (gx0) (p0 : Hp nz wz S0 w0 ((some gx0, .row 281 [.u ump] 1 0) :: Lr)) :
  Calls Tryz.prog 242 #[(pt gx0 0)] w0 (Rets (Post.z3u nz wz S0 w0 Lr gx0 r)) := by
 refine Zf Tryz.f242 B242 32 ?_
 refine Gj 33 [(0, (pt gx0 0))] fun junk => ?_
 delta M.a3b at h
 refine Hn 5 (Ys 110 B242 (Ys 111 B242 [])) ?_
 have z2 : Ext S0 w0 S0 (w0).drew := Ext.draw
 have p2 := p0.draw
 refine Gd [9] (Fc S0 (w0).drew [(⟨gx0, 0, none⟩, .u ump)]) 1 10 ?_
 generalize (w0).drew = w2 at z2 p2 ⊢
 refine Hq [0, 1] 2 (Fc.here (p2.cs [(0, 0, 1)])) ?_
 refine Hl 2 (Fc.here (p2.cs [(0, 0, 1)])) (fun _ h => h.2.at_ 0 rfl) ?_
 refine Hq [3, 4] 2 (Fc.here (p2.cs [(0, 0, 1)])) ?_
 refine Hl 5 (Fc.here (p2.cs [(0, 0, 1)])) (fun _ h => h.2.at_ 0 rfl) ?_
 refine Hq [6, 7, 8] 3 (Fc.here (p2.cs [(0, 0, 1)])) ?_
 refine So 281 (.tmp 11) (.tmp 10) 0 0 gx0 0 (.u (ixor .u64 ump (ishl .u64 ump 13))) [.u (ixor .u64 ump (ishl .u64 ump 13))] p2 rfl (As 9) fun w3 z3 p3 => ?_
 refine AnyG.last [] (Fc S0 w3 []) (by decide) ?_
 refine Ad ?_
 refine Hn 1 (Ys 1110 B242 (Ys 1111 B242 [])) ?_
 have z4 : Ext S0 w3 S0 (w3).drew := Ext.draw
 have p4 := p3.draw
 refine Gd [9] (Fc S0 (w3).drew [(⟨gx0, 0, none⟩, .u (ixor .u64 ump (ishl .u64 ump 13)))]) 2 10 ?_
 generalize (w3).drew = w4 at z4 p4 ⊢
 refine Hq [0, 1] 2 (Fc.here (p4.cs [(0, 0, 1)])) ?_
 refine Hl 2 (Fc.here (p4.cs [(0, 0, 1)])) (fun _ h => h.2.at_ 0 rfl) ?_
 refine Hq [3, 4] 2 (Fc.here (p4.cs [(0, 0, 1)])) ?_
 refine Hl 5 (Fc.here (p4.cs [(0, 0, 1)])) (fun _ h => h.2.at_ 0 rfl) ?_
 refine Hq [6, 7, 8] 3 (Fc.here (p4.cs [(0, 0, 1)])) ?_
 refine So 281 (.tmp 20) (.tmp 19) 0 0 gx0 0 (.u (ixor .u64 (ixor .u64 ump (ishl .u64 ump 13)) (ishr .u64 (ixor .u64 ump (ishl .u64 ump 13)) 7))) [.u (ixor .u64 (ixor .u64 ump (ishl .u64 ump 13)) (ishr .u64 (ixor .u64 ump (ishl .u64 ump 13)) 7))] p4 rfl (As 9) fun w5 z5 p5 => ?_
 refine AnyG.last [] (Fc S0 w5 []) (by decide) ?_
 refine Ad ?_
 refine Hn 1 (Ys 11110 B242 (Ys 11111 B242 [])) ?_
 have z6 : Ext S0 w5 S0 (w5).drew := Ext.draw
 have p6 := p5.draw
 refine Gd [9] (Fc S0 (w5).drew [(⟨gx0, 0, none⟩, .u (ixor .u64 (ixor .u64 ump (ishl .u64 ump 13)) (ishr .u64 (ixor .u64 ump (ishl .u64 ump 13)) 7)))]) 3 10 ?_
 generalize (w5).drew = w6 at z6 p6 ⊢
 refine Hq [0, 1] 2 (Fc.here (p6.cs [(0, 0, 1)])) ?_
 refine Hl 2 (Fc.here (p6.cs [(0, 0, 1)])) (fun _ h => h.2.at_ 0 rfl) ?_
 refine Hq [3, 4] 2 (Fc.here (p6.cs [(0, 0, 1)])) ?_
 refine Hl 5 (Fc.here (p6.cs [(0, 0, 1)])) (fun _ h => h.2.at_ 0 rfl) ?_
 refine Hq [6, 7, 8] 3 (Fc.here (p6.cs [(0, 0, 1)])) ?_
 refine So 281 (.tmp 29) (.tmp 28) 0 0 gx0 0 (.u (ixor .u64 (ixor .u64 (ixor .u64 ump (ishl .u64 ump 13)) (ishr .u64 (ixor .u64 ump (ishl .u64 ump 13)) 7)) (ishl .u64 (ixor .u64 (ixor .u64 ump (ishl .u64 ump 13)) (ishr .u64 (ixor .u64 ump (ishl .u64 ump 13)) 7)) 17))) [.u (ixor .u64 (ixor .u64 (ixor .u64 ump (ishl .u64 ump 13)) (ishr .u64 (ixor .u64 ump (ishl .u64 ump 13)) 7)) (ishl .u64 (ixor .u64 (ixor .u64 ump (ishl .u64 ump 13)) (ishr .u64 (ixor .u64 ump (ishl .u64 ump 13)) 7)) 17))] p6 rfl (As 9) fun w7 z7 p7 => ?_
 refine AnyG.last [] (Fc S0 w7 []) (by decide) ?_
 refine Ad ?_
 refine Hn 4 (Yt 111110 B242 [2, 3] Jho) ?_
 refine Hd (p7.e 0 0) ?_
 refine Hn 2 Jho ?_
 obtain rfl := sj h
 exact Hr Tryz.f242 ⟨_, rfl, (((((z2.t z3).t z4).t z5).t z6).t z7), p7⟩

def Qe1 := Yq 111011100 B229
def Jhq := Zl Qe1 J3k
def Jhr := Zc Qe1 Jhq
def Jht := Zb 1 (Ys 11101110011 B229 Jhq)
def Jhu := Ys 11101110010011 B229 Jht

def Post.z3v (Gx0 : Option Nat) (nx0 : Nat) (cx0 : Nat) (r : List Int) (v : Value) (w' : World) : Prop :=
 ∃ S' uf1, v = .tuple #[] ∧ Ext S0 w0 S' w' ∧ Hp nz wz S' w' ((Gx0, .row 35 uf1 (cx0 * (kInt .u64).size) 0) :: Lr) ∧ Els (kInt .u64) S' w' uf1 r ∧ r.length = nx0

def L.z3w (Gx0 : Option Nat) (nx0 : Nat) (cx0 : Nat) : Int × Int × Int × Int × Int × (List Int) → (List Int) → Prop := fun ⟨x1, x6, umq, x8, x9, e0⟩ r => ∀ S1 w1, Ext S0 w0 S1 w1 → ∀ gx7 uf1 (_ : Hp nz wz S1 w1 ((some gx7, .row 281 [.u umq] 1 0) :: (Gx0, .row 35 uf1 (cx0 * (kInt .u64).size) 0) :: Lr)) (_ : Els (kInt .u64) S1 w1 uf1 e0) (_ : e0.length = nx0) (junk : Nat → Value),
 Goes Tryz.prog (base 229) Jhr ⟨lfr 65 [(0, .slice (Gp Gx0) nx0 cx0), (1, .i x1), (6, .i x6), (7, (pt gx7 0)), (8, .u x8), (9, .i x9)] junk, []⟩ w1 (Done Tryz.prog 229 (Rets (Post.z3v nz wz S0 w0 Lr Gx0 nx0 cx0 r)))

def L.z3x (Gx0 : Option Nat) (nx0 : Nat) (cx0 : Nat) : Int × Int × Int × Int × Int × Int × (List Int) → (List Int) → Prop := fun ⟨x1, x6, umq, x8, x9, x10, e0⟩ r => ∀ S1 w1, Ext S0 w0 S1 w1 → ∀ gx7 uf1 (_ : Hp nz wz S1 w1 ((some gx7, .row 281 [.u umq] 1 0) :: (Gx0, .row 35 uf1 (cx0 * (kInt .u64).size) 0) :: Lr)) (_ : Els (kInt .u64) S1 w1 uf1 e0) (_ : e0.length = nx0) (junk : Nat → Value),
 Goes Tryz.prog (base 229) Jhu ⟨lfr 65 [(0, .slice (Gp Gx0) nx0 cx0), (1, .i x1), (6, .i x6), (7, (pt gx7 0)), (8, .u x8), (9, .i x9), (10, .i x10)] junk, []⟩ w1 (Done Tryz.prog 229 (Rets (Post.z3v nz wz S0 w0 Lr Gx0 nx0 cx0 r)))

theorem W.z3y {nz wz S0 w0 Lr} (Gx0 : Option Nat) (nx0 : Nat) (cx0 : Nat) : (∀ a r, M.a8 a = some r → (L.z3w nz wz S0 w0 Lr Gx0 nx0 cx0) a r) ∧ (∀ a r, M.a1h a = some r → (L.z3x nz wz S0 w0 Lr Gx0 nx0 cx0) a r) := by
 refine M.a8.mutual_partial_correctness (L.z3w nz wz S0 w0 Lr Gx0 nx0 cx0) (L.z3x nz wz S0 w0 Lr Gx0 nx0 cx0) ?_ ?_
 ·
  intro umr ums ⟨x1, x6, umq, x8, x9, e0⟩ r h S1 w1 hx gx7 uf1 p1 fe0 le0 junk
  try dsimp only at h
  subst le0
  refine Hn 12 (Ys 11101110001 B229 (Ys 1110111001 B229 Jhq)) ?_
  refine Hb [(33, .bool (decide (x9 ≤ wr .i64 ((wr .i64 (x1 + (wr .i64 ((iquo .i64 x6 4) * 2)))) + 1))))] ?_
  refine Gi h (fun h8 h => ?_) fun h8 h => ?_
  ·
   rw [dt h8]
   refine Hn 6 (Yt 1110111001000 B229 [0, 1, 2, 3, 4, 5] (Ys 1110111001001 B229 Jht)) ?_
   refine Gb h fun y9 e10 h => ?_
   refine Gc (kc 242 [7] #[281]) 36 35 242 _ (W.z3u umq y9 e10 _ p1 ) ?_
   rintro _ w5 ⟨S5, rfl, z5, p5⟩
   refine Hn 13 (Ys 111011100100101 B229 Jhu) ?_
   refine Hb [(43, .bool (decide (wr .i64 (iand .u64 y9.1 (wr .u64 (x8 - 1))) ≥ x6)))] ?_
   refine Gi h (fun h11 h => ?_) fun h11 h => ?_
   ·
    rw [dt h11]
    refine Hn 7 Jhu ?_
    exact Gk (ums _ _ h _ _ (hx.t z5) _ _ p5 (fe0.ext z5) rfl)
   ·
    rw [df h11]
    refine Hn 2 Jhu ?_
    exact Gk (ums _ _ h _ _ (hx.t z5) _ _ p5 (fe0.ext z5) rfl)
  ·
   rw [df h8]
   refine Hn 2 [] ?_
   obtain rfl := sj h
   have p1 := p1.dp 0
   exact Goes.end_ (fn := Tryz.f229) (by kernel_rfl) (v := .tuple #[]) (by kernel_rfl) ⟨S1, uf1, rfl, hx, p1, fe0, rfl⟩
 ·
  intro umt umu ⟨x1, x6, umq, x8, x9, x10, e0⟩ r h S1 w1 hx gx7 uf1 p1 fe0 le0 junk
  try dsimp only at h
  subst le0
  have z6 : Ext S1 w1 S1 (w1).drew := Ext.draw
  have p6 := p1.draw
  refine Gd [17, 19] (Fc S1 (w1).drew ([] ++ (rowCellsO Gx0 uf1 ++ []))) 10 20 ?_
  generalize (w1).drew = w6 at z6 p6 ⊢
  refine Hq [0, 1, 2, 3, 4, 5, 6, 7, 8, 9] 10 (p6.g 1) ?_
  refine Gg h fun g13 h => ?_
  refine Gg h fun g14 h => ?_
  refine Hx 10 .i64 1 cx0 rfl rfl p6 rfl (fe0.ext z6) (p6.g 1) g13 g14 ?_
  rintro b15 _ rfl q17 f19 f16
  obtain rfl := q17
  refine Hl 11 (p6.g 1) (fun _ h => h.2.right.left.rowAt (f19 0 _ rfl)) ?_
  refine Hq [12, 13] 2 (p6.g 1) ?_
  refine Gg h fun g20 h => ?_
  refine Gg h fun g21 h => ?_
  refine Hx 14 .i64 1 cx0 rfl rfl p6 rfl (fe0.ext z6) (p6.g 1) g20 g21 ?_
  rintro b22 _ e25 q24 f26 f23
  injection e25 with umv; subst umv
  obtain rfl := q24
  refine Hl 15 (p6.g 1) (fun _ h => h.2.right.left.rowAt (f26 0 _ rfl)) ?_
  refine Hx 16 .i64 1 cx0 rfl rfl p6 rfl (fe0.ext z6) (p6.g 1) g20 g21 ?_
  rintro b27 _ e30 q29 f31 f28
  injection e30 with umw; subst umw
  obtain rfl := q29
  refine Op_.stE_n (K := (kInt .u64)) 35 (.tmp 63) (.tmp 58) 0 1 x9 (.u (gi e0 (wr .i64 (x1 + x10)))) [.u (gi e0 (wr .i64 (x1 + x10)))] (gi e0 (wr .i64 (x1 + x10))) (si e0 x9 (gi e0 (wr .i64 (x1 + x10)))) e0.length rfl rfl p6 rfl (fe0.ext z6) (As 17) (by kernel_rfl) (by kernel_rfl) (by kernel_rfl) rfl (by kernel_rfl) g20 g21 (Nat.zero_le _) fun w7 umx z7 p7 f33 l34 => ?_
  refine AnyG.last [19] (Fc S1 w7 []) (by decide) ?_
  refine Gl h fun v38 e39 h => ?_
  refine Hx 18 .i64 1 cx0 l34 e39 p7 rfl f33 (Fc.here trivial) g13 g14 ?_
  rintro b35 _ e40 q37 f41 f36
  injection e40 with ugu; subst ugu
  obtain rfl := q37
  refine Gl h fun v42 e43 h => ?_
  refine Op_.stE_n (K := (kInt .u64)) 35 (.tmp 64) (.tmp 62) 0 1 (wr .i64 (x1 + x10)) (.u (gi e0 x9)) [.u (gi e0 x9)] (gi e0 x9) v42 e0.length l34 e43 p7 rfl f33 (As 19) (by kernel_rfl) (by kernel_rfl) (by kernel_rfl) rfl (by kernel_rfl) g13 g14 (Nat.zero_le _) fun w8 umy z8 p8 f45 l46 => ?_
  refine AnyG.last [] (Fc S1 w8 []) (by decide) ?_
  refine Ad ?_
  refine Hn 7 Jhr ?_
  exact Gk (umu _ _ h _ _ (((hx.t z6).t z7).t z8) _ _ p8 f45 l46)

theorem W.z3w {nz wz S0 w0 Lr} (Gx0 : Option Nat) (nx0 : Nat) (cx0 : Nat) : ∀ a r, M.a8 a = some r → (L.z3w nz wz S0 w0 Lr Gx0 nx0 cx0) a r := (W.z3y Gx0 nx0 cx0).1

theorem W.z3x {nz wz S0 w0 Lr} (Gx0 : Option Nat) (nx0 : Nat) (cx0 : Nat) : ∀ a r, M.a1h a = some r → (L.z3x nz wz S0 w0 Lr Gx0 nx0 cx0) a r := (W.z3y Gx0 nx0 cx0).2


theorem W.z3v (x0 : List Int) (x1 : Int) (x2 : Int) (r : List Int) (h : M.a2n x0 x1 x2 = some r) {nz wz S0 w0 Lr} (Gx0 nx0 cx0 uff) (p0 : Hp nz wz S0 w0 ((Gx0, .row 35 uff (cx0 * (kInt .u64).size) 0) :: Lr)) (fx0 : Els (kInt .u64) S0 w0 uff x0) (lx0 : x0.length = nx0) :
  Calls Tryz.prog 229 #[.slice (Gp Gx0) nx0 cx0, .i x1, .i x2] w0 (Rets (Post.z3v nz wz S0 w0 Lr Gx0 nx0 cx0 r)) := by
 subst lx0
 refine Zf Tryz.f229 B229 62 ?_
 refine Gj 65 [(0, .slice (Gp Gx0) x0.length cx0), (1, .i x1), (2, .i x2)] fun junk => ?_
 delta M.a2n at h
 refine Hn 12 (Ys 111 B229 []) ?_
 refine Hb [(15, .bool (decide (wr .i64 (x2 - x1) ≥ 8)))] ?_
 refine Gi h (fun h2 h => ?_) fun h2 h => ?_
 ·
  rw [dt h2]
  refine Hn 5 (Yt 11100 B229 [2, 3] (Ys 11101 B229 [])) ?_
  refine Oa 281 7 0 (.u 0) [.u 0] p0 Goes.v fun b3 w2 z2 p2 => ?_
  refine So 281 (.tmp 7) (.tmp 17) 0 0 b3 0 (.u (wr .u64 (wr .i64 (x2 - x1)))) [.u (wr .u64 (wr .i64 (x2 - x1)))] p2 rfl Goes.s fun w3 z3 p3 => ?_
  refine Hn 4 (Yt 111010 B229 [1, 2] (Ys 111011 B229 [])) ?_
  refine Gb h fun y5 e6 h => ?_
  refine Gc (kc 241 [18] #[3]) 19 213 241 _ (W.z3t (wr .i64 (x2 - x1)) y5 e6  p3 ) ?_
  rintro _ w4 ⟨S4, rfl, z4, p4⟩
  refine Hn 14 Jhr ?_
  exact Gk (W.z3w Gx0 x0.length cx0 _ _ h _ _ ((z2.t z3).t z4) _ _ p4 (fx0.ext ((z2.t z3).t z4)) rfl)
 ·
  rw [df h2]
  refine Hn 2 [] ?_
  obtain rfl := sj h
  exact Goes.end_ (fn := Tryz.f229) (by kernel_rfl) (v := .tuple #[]) (by kernel_rfl) ⟨S0, uff, rfl, (Ext.refl S0 w0), p0, fx0, rfl⟩

def Qee := Yq 11100 B193
def Ji5 := Zl Qee J3k
def Ji6 := Zc Qee Ji5
def Ji7 := Zb 1 Ji5
def Ji8 := Ys 1110001111 B193 Ji7
def Ji9 := Ys 111000111111 B193 Ji7
def Jia := Ys 1110001111111 B193 Ji7
def Jib := Ys 11100011111101 B193 Jia
def Jic := Ys 11100011111111 B193 Ji7
def Jid := Ys 111000111111101 B193 Jic
def Jie := Ys 11100011 B193 Ji7
def Jig := Ys 11100010101 B193 Jie
def Jii := Ys 111000111 B193 Ji7
def Jik := Ys 111000110101 B193 Jii
def Qf1 := Yq 11100011111100 B193
def Jiw := Ys 1110001111110101 B193 Jia
def Jja := Ys 1110001111111111111111 B193 Ji7
def Qfh := Yq 1110001111111111111110 B193

def Post.z3z (Gx0 : Option Nat) (nx0 : Nat) (cx0 : Nat) (r : List Int) (v : Value) (w' : World) : Prop :=
 ∃ S' uf1, v = .tuple #[] ∧ Ext S0 w0 S' w' ∧ Hp nz wz S' w' ((Gx0, .row 35 uf1 (cx0 * (kInt .u64).size) 0) :: Lr) ∧ Els (kInt .u64) S' w' uf1 r ∧ r.length = nx0

def LF.z3z : (List Int) × Int × Int × Int → (List Int) → Prop := fun ⟨x0, x1, x2, x3⟩ r => ∀ {nz wz S0 w0 Lr} Gx0 nx0 cx0 uff (_ : Hp nz wz S0 w0 ((Gx0, .row 35 uff (cx0 * (kInt .u64).size) 0) :: Lr)) (_ : Els (kInt .u64) S0 w0 uff x0) (_ : x0.length = nx0),
 Calls Tryz.prog 193 #[.slice (Gp Gx0) nx0 cx0, .i x1, .i x2, .i x3] w0 (Rets (Post.z3z nz wz S0 w0 Lr Gx0 nx0 cx0 r))

def L.z40 (Gx0 : Option Nat) (nx0 : Nat) (cx0 : Nat) : Int × Int × Int × Bool × Bool × (List Int) → (List Int) → Prop := fun ⟨x1, x2, x3, x8, x9, e0⟩ r => ∀ S1 w1, Ext S0 w0 S1 w1 → ∀ uf1 (_ : Hp nz wz S1 w1 ((Gx0, .row 35 uf1 (cx0 * (kInt .u64).size) 0) :: Lr)) (_ : Els (kInt .u64) S1 w1 uf1 e0) (_ : e0.length = nx0) (junk : Nat → Value),
 Goes Tryz.prog (base 193) Ji6 ⟨lfr 134 [(0, .slice (Gp Gx0) nx0 cx0), (1, .i x1), (2, .i x2), (3, .i x3), (8, .bool x8), (9, .bool x9)] junk, []⟩ w1 (Done Tryz.prog 193 (Rets (Post.z3z nz wz S0 w0 Lr Gx0 nx0 cx0 r)))

def LL.z40 : Int × Int × Int × Bool × Bool × (List Int) → (List Int) → Prop := fun a r => ∀ {nz wz S0 w0 Lr} (Gx0 : Option Nat) (nx0 : Nat) (cx0 : Nat), L.z40 nz wz S0 w0 Lr Gx0 nx0 cx0 a r

def L.z41 (Gx0 : Option Nat) (nx0 : Nat) (cx0 : Nat) : Int × Int × Int × Bool × Bool × Int × (List Int) → (List Int) → Prop := fun ⟨x1, x2, x3, x8, x9, x10, e0⟩ r => ∀ S1 w1, Ext S0 w0 S1 w1 → ∀ uf1 (_ : Hp nz wz S1 w1 ((Gx0, .row 35 uf1 (cx0 * (kInt .u64).size) 0) :: Lr)) (_ : Els (kInt .u64) S1 w1 uf1 e0) (_ : e0.length = nx0) (junk : Nat → Value),
 Goes Tryz.prog (base 193) Ji8 ⟨lfr 134 [(0, .slice (Gp Gx0) nx0 cx0), (1, .i x1), (2, .i x2), (3, .i x3), (8, .bool x8), (9, .bool x9), (10, .i x10)] junk, []⟩ w1 (Done Tryz.prog 193 (Rets (Post.z3z nz wz S0 w0 Lr Gx0 nx0 cx0 r)))

def LL.z41 : Int × Int × Int × Bool × Bool × Int × (List Int) → (List Int) → Prop := fun a r => ∀ {nz wz S0 w0 Lr} (Gx0 : Option Nat) (nx0 : Nat) (cx0 : Nat), L.z41 nz wz S0 w0 Lr Gx0 nx0 cx0 a r

def L.z42 (Gx0 : Option Nat) (nx0 : Nat) (cx0 : Nat) : Int × Int × Int × Bool × Bool × Int × Int × Int × (List Int) → (List Int) → Prop := fun ⟨x1, x2, x3, x8, x9, x10, x11, x12, e0⟩ r => ∀ S1 w1, Ext S0 w0 S1 w1 → ∀ uf1 (_ : Hp nz wz S1 w1 ((Gx0, .row 35 uf1 (cx0 * (kInt .u64).size) 0) :: Lr)) (_ : Els (kInt .u64) S1 w1 uf1 e0) (_ : e0.length = nx0) (junk : Nat → Value),
 Goes Tryz.prog (base 193) Ji9 ⟨lfr 134 [(0, .slice (Gp Gx0) nx0 cx0), (1, .i x1), (2, .i x2), (3, .i x3), (8, .bool x8), (9, .bool x9), (10, .i x10), (11, .i x11), (12, .i x12)] junk, []⟩ w1 (Done Tryz.prog 193 (Rets (Post.z3z nz wz S0 w0 Lr Gx0 nx0 cx0 r)))

def LL.z42 : Int × Int × Int × Bool × Bool × Int × Int × Int × (List Int) → (List Int) → Prop := fun a r => ∀ {nz wz S0 w0 Lr} (Gx0 : Option Nat) (nx0 : Nat) (cx0 : Nat), L.z42 nz wz S0 w0 Lr Gx0 nx0 cx0 a r

def L.z43 (Gx0 : Option Nat) (nx0 : Nat) (cx0 : Nat) : Int × Int × Int × Bool × Bool × Int × Int × Bool × (List Int) → (List Int) → Prop := fun ⟨x1, x2, x3, x8, x9, x10, x11, x68, e0⟩ r => ∀ S1 w1, Ext S0 w0 S1 w1 → ∀ uf1 (_ : Hp nz wz S1 w1 ((Gx0, .row 35 uf1 (cx0 * (kInt .u64).size) 0) :: Lr)) (_ : Els (kInt .u64) S1 w1 uf1 e0) (_ : e0.length = nx0) (junk : Nat → Value),
 Goes Tryz.prog (base 193) Jib ⟨lfr 134 [(0, .slice (Gp Gx0) nx0 cx0), (1, .i x1), (2, .i x2), (3, .i x3), (8, .bool x8), (9, .bool x9), (10, .i x10), (11, .i x11), (68, .bool x68)] junk, []⟩ w1 (Done Tryz.prog 193 (Rets (Post.z3z nz wz S0 w0 Lr Gx0 nx0 cx0 r)))

def LL.z43 : Int × Int × Int × Bool × Bool × Int × Int × Bool × (List Int) → (List Int) → Prop := fun a r => ∀ {nz wz S0 w0 Lr} (Gx0 : Option Nat) (nx0 : Nat) (cx0 : Nat), L.z43 nz wz S0 w0 Lr Gx0 nx0 cx0 a r

def L.z44 (Gx0 : Option Nat) (nx0 : Nat) (cx0 : Nat) : Int × Int × Int × Bool × Bool × Int × Int × (List Int) → (List Int) → Prop := fun ⟨x1, x2, x3, x8, x9, x10, x11, e0⟩ r => ∀ S1 w1, Ext S0 w0 S1 w1 → ∀ uf1 (_ : Hp nz wz S1 w1 ((Gx0, .row 35 uf1 (cx0 * (kInt .u64).size) 0) :: Lr)) (_ : Els (kInt .u64) S1 w1 uf1 e0) (_ : e0.length = nx0) (junk : Nat → Value),
 Goes Tryz.prog (base 193) Jia ⟨lfr 134 [(0, .slice (Gp Gx0) nx0 cx0), (1, .i x1), (2, .i x2), (3, .i x3), (8, .bool x8), (9, .bool x9), (10, .i x10), (11, .i x11)] junk, []⟩ w1 (Done Tryz.prog 193 (Rets (Post.z3z nz wz S0 w0 Lr Gx0 nx0 cx0 r)))

def LL.z44 : Int × Int × Int × Bool × Bool × Int × Int × (List Int) → (List Int) → Prop := fun a r => ∀ {nz wz S0 w0 Lr} (Gx0 : Option Nat) (nx0 : Nat) (cx0 : Nat), L.z44 nz wz S0 w0 Lr Gx0 nx0 cx0 a r

def L.z45 (Gx0 : Option Nat) (nx0 : Nat) (cx0 : Nat) : Int × Int × Int × Bool × Bool × Int × Int × Bool × (List Int) → (List Int) → Prop := fun ⟨x1, x2, x3, x8, x9, x10, x11, x87, e0⟩ r => ∀ S1 w1, Ext S0 w0 S1 w1 → ∀ uf1 (_ : Hp nz wz S1 w1 ((Gx0, .row 35 uf1 (cx0 * (kInt .u64).size) 0) :: Lr)) (_ : Els (kInt .u64) S1 w1 uf1 e0) (_ : e0.length = nx0) (junk : Nat → Value),
 Goes Tryz.prog (base 193) Jid ⟨lfr 134 [(0, .slice (Gp Gx0) nx0 cx0), (1, .i x1), (2, .i x2), (3, .i x3), (8, .bool x8), (9, .bool x9), (10, .i x10), (11, .i x11), (87, .bool x87)] junk, []⟩ w1 (Done Tryz.prog 193 (Rets (Post.z3z nz wz S0 w0 Lr Gx0 nx0 cx0 r)))

def LL.z45 : Int × Int × Int × Bool × Bool × Int × Int × Bool × (List Int) → (List Int) → Prop := fun a r => ∀ {nz wz S0 w0 Lr} (Gx0 : Option Nat) (nx0 : Nat) (cx0 : Nat), L.z45 nz wz S0 w0 Lr Gx0 nx0 cx0 a r

def L.z46 (Gx0 : Option Nat) (nx0 : Nat) (cx0 : Nat) : Int × Int × Int × Bool × Bool × (List Int) → (List Int) → Prop := fun ⟨x1, x2, x3, x8, x9, e0⟩ r => ∀ S1 w1, Ext S0 w0 S1 w1 → ∀ uf1 (_ : Hp nz wz S1 w1 ((Gx0, .row 35 uf1 (cx0 * (kInt .u64).size) 0) :: Lr)) (_ : Els (kInt .u64) S1 w1 uf1 e0) (_ : e0.length = nx0) (junk : Nat → Value),
 Goes Tryz.prog (base 193) Ji7 ⟨lfr 134 [(0, .slice (Gp Gx0) nx0 cx0), (1, .i x1), (2, .i x2), (3, .i x3), (8, .bool x8), (9, .bool x9)] junk, []⟩ w1 (Done Tryz.prog 193 (Rets (Post.z3z nz wz S0 w0 Lr Gx0 nx0 cx0 r)))

def LL.z46 : Int × Int × Int × Bool × Bool × (List Int) → (List Int) → Prop := fun a r => ∀ {nz wz S0 w0 Lr} (Gx0 : Option Nat) (nx0 : Nat) (cx0 : Nat), L.z46 nz wz S0 w0 Lr Gx0 nx0 cx0 a r

theorem W.z47 : (∀ a r, M.ac a = some r → LF.z3z a r) ∧ (∀ a r, M.am a = some r → LL.z40 a r) ∧ (∀ a r, M.a1i a = some r → LL.z41 a r) ∧ (∀ a r, M.a1j a = some r → LL.z42 a r) ∧ (∀ a r, M.an a = some r → LL.z43 a r) ∧ (∀ a r, M.a1k a = some r → LL.z44 a r) ∧ (∀ a r, M.a1l a = some r → LL.z45 a r) ∧ (∀ a r, M.a1m a = some r → LL.z46 a r) := by
 refine M.ac.mutual_partial_correctness LF.z3z LL.z40 LL.z41 LL.z42 LL.z43 LL.z44 LL.z45 LL.z46 ?_ ?_ ?_ ?_ ?_ ?_ ?_ ?_
 ·
  intro umz un0 ⟨x0, x1, x2, x3⟩ r h nz wz S0 w0 Lr Gx0 nx0 cx0 uff p0 fx0 lx0
  try dsimp only at h
  subst lx0
  refine Zf Tryz.f193 B193 130 ?_
  refine Gj 134 [(0, .slice (Gp Gx0) x0.length cx0), (1, .i x1), (2, .i x2), (3, .i x3)] fun junk => ?_
  refine Hn 10 Ji6 ?_
  exact Gk (un0 _ _ h Gx0 x0.length cx0 _ _ (Ext.refl S0 w0) _ p0 fx0 rfl)
 ·
  intro un1 un2 ⟨x1, x2, x3, x8, x9, e0⟩ r h nz wz S0 w0 Lr Gx0 nx0 cx0 S1 w1 hx uf1 p1 fe0 le0 junk
  try dsimp only at h
  subst le0
  refine Hn 14 (Ys 111000101 B193 Jie) ?_
  refine Hb [(23, .bool (decide (wr .i64 (x2 - x1) ≤ 12)))] ?_
  refine Gi h (fun h2 h => ?_) fun h2 h => ?_
  ·
   rw [dt h2]
   refine Hn 6 (Yt 11100010100 B193 [3] Jig) ?_
   refine Gb h fun y3 e4 h => ?_
   refine Gc (kc 227 [24, 25, 26] #[31, 3, 3]) 27 0 227 _ (W.z2f e0 x1 x2 y3 e4 _ _ _ _ p1 fe0 rfl) ?_
   rintro _ w2 ⟨S2, ug7, rfl, z2, p2, ug8, ug9⟩
   refine Hn 1 Jig ?_
   obtain rfl := sj h
   exact Hr Tryz.f193 ⟨_, _, rfl, (hx.t z2), p2, ug8, ug9⟩
  ·
   rw [df h2]
   refine Hn 8 (Ys 1110001101 B193 Jii) ?_
   refine Hb [(29, .bool (decide (x3 = 0)))] ?_
   refine Gi h (fun h5 h => ?_) fun h5 h => ?_
   ·
    rw [dt h5]
    refine Hn 6 (Yt 111000110100 B193 [3] Jik) ?_
    refine Gb h fun y6 e7 h => ?_
    refine Gc (kc 228 [30, 31, 32] #[31, 3, 3]) 33 0 228 _ (W.z2p e0 x1 x2 y6 e7 _ _ _ _ p1 fe0 rfl) ?_
    rintro _ w3 ⟨S3, un3, rfl, z3, p3, uev, un4⟩
    refine Hn 1 Jik ?_
    obtain rfl := sj h
    exact Hr Tryz.f193 ⟨_, _, rfl, (hx.t z3), p3, uev, un4⟩
   ·
    rw [df h5]
    refine Hn 8 (Ys 11100011101 B193 Ji8) ?_
    refine Hb [(8, .bool x8), (34, .bool x8), (35, .bool (!x8))] ?_
    refine Gi h (fun h8 h => ?_) fun h8 h => ?_
    ·
     rw [h8]
     refine Hn 2 Ji8 ?_
     exact Gk (un2 _ _ h Gx0 e0.length cx0 _ _ hx _ p1 fe0 rfl)
    ·
     rw [bf h8]
     refine Hn 6 (Yt 1110001110100 B193 [3] (Ys 1110001110101 B193 Ji8)) ?_
     refine Gb h fun y9 e10 h => ?_
     refine Gc (kc 229 [36, 37, 38] #[31, 3, 3]) 39 0 229 _ (W.z3v e0 x1 x2 y9 e10 _ _ _ _ p1 fe0 rfl) ?_
     rintro _ w4 ⟨S4, un5, rfl, z4, p4, uez, un6⟩
     refine Hn 6 Ji8 ?_
     exact Gk (un2 _ _ h Gx0 e0.length cx0 _ _ (hx.t z4) _ p4 uez un6)
 ·
  intro un7 un8 ⟨x1, x2, x3, x8, x9, x10, e0⟩ r h nz wz S0 w0 Lr Gx0 nx0 cx0 S1 w1 hx uf1 p1 fe0 le0 junk
  try dsimp only at h
  subst le0
  refine Hn 5 (Yt 11100011110 B193 [3, 4, 5, 6, 7, 8] (Ys 11100011111 B193 Ji7)) ?_
  refine Gb h fun y11 e12 h => ?_
  refine Gc (kc 230 [43, 44, 45] #[31, 3, 3]) 46 261 230 _ (W.z2v e0 x1 x2 y11 e12 _ _ _ _ p1 fe0 rfl) ?_
  rintro _ w5 ⟨S5, rfl, z5, p5⟩
  refine Hn 12 (Ys 1110001111101 B193 Ji9) ?_
  refine Hb [(50, .bool (decide (y11.2 = 2)))] ?_
  refine Gi h (fun h13 h => ?_) fun h13 h => ?_
  ·
   rw [dt h13]
   refine Hn 6 (Yt 111000111110100 B193 [3] (Ys 111000111110101 B193 Ji9)) ?_
   refine Gb h fun y14 e15 h => ?_
   refine Gc (kc 231 [51, 52, 53] #[31, 3, 3]) 54 0 231 _ (W.z2y e0 x1 x2 y14 e15 _ _ _ _ p5 (fe0.ext z5) rfl) ?_
   rintro _ w6 ⟨S6, ug2, rfl, z6, p6, ug3, ug4⟩
   refine Hn 14 Ji9 ?_
   exact Gk (un8 _ _ h Gx0 e0.length cx0 _ _ ((hx.t z5).t z6) _ p6 ug3 ug4)
  ·
   rw [df h13]
   refine Hn 2 Ji9 ?_
   exact Gk (un8 _ _ h Gx0 e0.length cx0 _ _ (hx.t z5) _ p5 (fe0.ext z5) rfl)
 ·
  intro un9 una ⟨x1, x2, x3, x8, x9, x10, x11, x12, e0⟩ r h nz wz S0 w0 Lr Gx0 nx0 cx0 S1 w1 hx uf1 p1 fe0 le0 junk
  try dsimp only at h
  subst le0
  refine Hn 5 (Zr Qf1 [2, 3, 4, 5, 6, 7] Jib) ?_
  refine Hb [(8, .bool x8), (61, .bool x8), (62, .bool x8)] ?_
  refine Gi h (fun h16 h => ?_) fun h16 h => ?_
  ·
   rw [h16]
   refine Hn 3 (Zr Qf1 [5, 6, 7] Jib) ?_
   refine Hb [(9, .bool x9), (63, .bool x9), (64, .bool x9), (65, .bool x9)] ?_
   refine Gi h (fun h17 h => ?_) fun h17 h => ?_
   ·
    rw [h17]
    refine Hn 4 Jib ?_
    exact Gk (una _ _ h Gx0 e0.length cx0 _ _ hx _ p1 fe0 rfl)
   ·
    rw [bf h17]
    refine Hn 4 Jib ?_
    exact Gk (una _ _ h Gx0 e0.length cx0 _ _ hx _ p1 fe0 rfl)
  ·
   rw [bf h16]
   refine Hn 7 Jib ?_
   exact Gk (una _ _ h Gx0 e0.length cx0 _ _ hx _ p1 fe0 rfl)
 ·
  intro unb unc ⟨x1, x2, x3, x8, x9, x10, x11, x68, e0⟩ r h nz wz S0 w0 Lr Gx0 nx0 cx0 S1 w1 hx uf1 p1 fe0 le0 junk
  try dsimp only at h
  subst le0
  refine Hb [(68, .bool x68)] ?_
  refine Gi h (fun h18 h => ?_) fun h18 h => ?_
  ·
   rw [h18]
   refine Hn 6 (Yt 1110001111110100 B193 [3] Jiw) ?_
   refine Gb h fun y19 e20 h => ?_
   refine Gc (kc 232 [69, 70, 71] #[31, 3, 3]) 72 4 232 _ (W.z30 e0 x1 x2 y19 e20 _ _ _ _ p1 fe0 rfl) ?_
   rintro _ w7 ⟨S7, und, rfl, z7, p7, une, unf⟩
   refine Hn 1 Jiw ?_
   refine Hb [(72, .bool y19.1)] ?_
   refine Gi h (fun h21 h => ?_) fun h21 h => ?_
   ·
    rw [h21]
    refine Hn 1 (Ys 11100011111101010 B193 Jia) ?_
    obtain rfl := sj h
    exact Hr Tryz.f193 ⟨_, _, rfl, (hx.t z7), p7, une, unf⟩
   ·
    rw [bf h21]
    refine Hn 2 Jia ?_
    exact Gk (unc _ _ h Gx0 e0.length cx0 _ _ (hx.t z7) _ p7 une unf)
  ·
   rw [bf h18]
   refine Hn 2 Jia ?_
   exact Gk (unc _ _ h Gx0 e0.length cx0 _ _ hx _ p1 fe0 rfl)
 ·
  intro uni unj ⟨x1, x2, x3, x8, x9, x10, x11, e0⟩ r h nz wz S0 w0 Lr Gx0 nx0 cx0 S1 w1 hx uf1 p1 fe0 le0 junk
  try dsimp only at h
  subst le0
  refine Hn 2 (Ys 111000111111100 B193 Jid) ?_
  have z8 : Ext S1 w1 S1 (w1).drew := Ext.draw
  have p8 := p1.draw
  refine Gd [12] (Fc S1 (w1).drew ([] ++ (rowCellsO Gx0 uf1 ++ []))) 17 15 ?_
  generalize (w1).drew = w8 at z8 p8 ⊢
  refine Hq [0, 1, 2] 3 (p8.g 0) ?_
  refine HbA [(74, .bool (decide (x1 > 0))), (75, .bool (decide (x1 > 0)))] ?_
  refine Gi h (fun h22 h => ?_) fun h22 h => ?_
  ·
   rw [dt h22]
   refine Hq [3, 4, 5] 3 (p8.g 0) ?_
   refine Gg h fun g23 h => ?_
   refine Gg h fun g24 h => ?_
   refine Hx 6 .i64 0 cx0 rfl rfl p8 rfl (fe0.ext z8) (p8.g 0) g23 g24 ?_
   rintro b25 _ rfl q27 f29 f26
   obtain rfl := q27
   refine Hl 7 (p8.g 0) (fun _ h => h.2.right.left.rowAt (f29 0 _ rfl)) ?_
   refine Hq [8, 9] 2 (p8.g 0) ?_
   refine Gg h fun g30 h => ?_
   refine Gg h fun g31 h => ?_
   refine Hx 10 .i64 0 cx0 rfl rfl p8 rfl (fe0.ext z8) (p8.g 0) g30 g31 ?_
   rintro b32 _ e35 q34 f36 f33
   injection e35 with ugt; subst ugt
   obtain rfl := q34
   refine Hl 11 (p8.g 0) (fun _ h => h.2.right.left.rowAt (f36 0 _ rfl)) ?_
   refine Gb h fun y37 e38 h => ?_
   refine Oc (kc 157 [80, 84] #[35, 35]) 85 4 157 #[.u (gi e0 (wr .i64 (x1 - 1))), .u (gi e0 x11)] (Ac 12) (W.z2e (gi e0 (wr .i64 (x1 - 1))) (gi e0 x11) y37 e38  p8 ) ?_
   rintro _ w9 ⟨S9, rfl, z9, p9⟩
   refine AnyG.last [] (Fc S9 w9 []) (by decide) ?_
   refine Hq [13, 14] 2 (Fc.here trivial) ?_
   refine Ad ?_
   exact Gk (unj _ _ h (some b25) e0.length cx0 _ _ ((hx.t z8).t z9) _ p9 (fe0.ext (z8.t z9)) rfl)
  ·
   rw [df h22]
   refine Hq [3, 4, 5, 6, 7, 8, 9, 10, 11] 9 (p8.g 0) ?_
   refine Ak 12 85 ?_
   refine Hq [13, 14] 2 (p8.g 0) ?_
   refine Ad ?_
   exact Gk (unj _ _ h Gx0 e0.length cx0 _ _ (hx.t z8) _ p8 (fe0.ext z8) rfl)
 ·
  intro unk umz unl unm un0 unn ⟨x1, x2, x3, x8, x9, x10, x11, x87, e0⟩ r h nz wz S0 w0 Lr Gx0 nx0 cx0 S1 w1 hx uf1 p1 fe0 le0 junk
  try dsimp only at h
  subst le0
  refine Hb [(87, .bool x87)] ?_
  refine Gi h (fun h39 h => ?_) fun h39 h => ?_
  ·
   rw [h39]
   refine Hn 7 (Yt 11100011111110100 B193 [4, 5] (Ys 11100011111110101 B193 Jic)) ?_
   refine Gb h fun y40 e41 h => ?_
   refine Gc (kc 233 [88, 89, 90, 91] #[31, 3, 3, 3]) 92 3 233 _ (W.z39 e0 x1 x2 x11 y40 e41 _ _ _ _ p1 fe0 rfl) ?_
   rintro _ w10 ⟨S10, uno, rfl, z10, p10, unp, unq⟩
   refine Hn 9 Ji6 ?_
   exact Gk (un0 _ _ h Gx0 e0.length cx0 _ _ (hx.t z10) _ p10 unp unq)
  ·
   rw [bf h39]
   refine Hn 8 (Yt 111000111111110 B193 [4, 5, 6, 7, 8, 9] (Ys 111000111111111 B193 Ji7)) ?_
   refine Gb h fun y42 e43 h => ?_
   refine Gc (kc 234 [95, 96, 97, 98] #[31, 3, 3, 3]) 99 155 234 _ (W.z3g e0 x1 x2 x11 y42 e43 _ _ _ _ p1 fe0 rfl) ?_
   rintro _ w11 ⟨S11, uns, rfl, z11, p11, unt, unu⟩
   refine Hn 14 (Yt 11100011111111110 B193 [1, 2, 3, 4, 5, 6, 7] (Ys 11100011111111111 B193 Ji7)) ?_
   refine Hn 14 (Ys 111000111111111111 B193 Ji7) ?_
   refine Hn 6 (Ys 1110001111111111111 B193 Ji7) ?_
   refine Hb [(113, .bool (decide (wr .i64 (y42.1 - x1) < wr .i64 (x2 - y42.1))))] ?_
   refine Gi h (fun h44 h => ?_) fun h44 h => ?_
   ·
    rw [dt h44]
    refine Hn 14 (Yt 1110001111111111111010 B193 [4] (Ys 1110001111111111111011 B193 Ji7)) ?_
    refine Gb h fun y45 e46 h => ?_
    refine Gc (kc 193 [117, 118, 119, 120] #[31, 3, 3, 3]) 121 0 193 _ (unm (y42.2.2, x1, y42.1, x3) y45 e46 _ _ _ _ p11 unt unu) ?_
    rintro _ w12 ⟨S12, unv, rfl, z12, p12, unw, unx⟩
    refine Hn 6 Ji7 ?_
    exact Gk (unn _ _ h Gx0 e0.length cx0 _ _ ((hx.t z11).t z12) _ p12 unw unx)
   ·
    rw [df h44]
    refine Hn 14 (Zr Qfh [4, 5] Jja) ?_
    refine Hn 1 (Zr Qfh [5] Jja) ?_
    refine Gb h fun y47 e48 h => ?_
    refine Gc (kc 193 [127, 129, 130, 131] #[31, 3, 3, 3]) 132 0 193 _ (unm (y42.2.2, wr .i64 (y42.1 + 1), x2, x3) y47 e48 _ _ _ _ p11 unt unu) ?_
    rintro _ w13 ⟨S13, uny, rfl, z13, p13, unz, uo0⟩
    refine Hn 5 Ji7 ?_
    exact Gk (unn _ _ h Gx0 e0.length cx0 _ _ ((hx.t z11).t z13) _ p13 unz uo0)
 ·
  intro umz un0 ⟨x1, x2, x3, x8, x9, e0⟩ r h nz wz S0 w0 Lr Gx0 nx0 cx0 S1 w1 hx uf1 p1 fe0 le0 junk
  try dsimp only at h
  subst le0
  refine Hn 2 Ji6 ?_
  exact Gk (un0 _ _ h Gx0 e0.length cx0 _ _ hx _ p1 fe0 rfl)

theorem W.z3z : ∀ a r, M.ac a = some r → LF.z3z a r := (W.z47).1

theorem W.z40 : ∀ a r, M.am a = some r → LL.z40 a r := (W.z47).2.1

theorem W.z41 : ∀ a r, M.a1i a = some r → LL.z41 a r := (W.z47).2.2.1

theorem W.z42 : ∀ a r, M.a1j a = some r → LL.z42 a r := (W.z47).2.2.2.1

theorem W.z43 : ∀ a r, M.an a = some r → LL.z43 a r := (W.z47).2.2.2.2.1

theorem W.z44 : ∀ a r, M.a1k a = some r → LL.z44 a r := (W.z47).2.2.2.2.2.1

theorem W.z45 : ∀ a r, M.a1l a = some r → LL.z45 a r := (W.z47).2.2.2.2.2.2.1

theorem W.z46 : ∀ a r, M.a1m a = some r → LL.z46 a r := (W.z47).2.2.2.2.2.2.2


def Post.z48 (Gx0 : Option Nat) (nx0 : Nat) (cx0 : Nat) (r : List Int) (v : Value) (w' : World) : Prop :=
 ∃ S' uf1, v = .tuple #[] ∧ Ext S0 w0 S' w' ∧ Hp nz wz S' w' ((Gx0, .row 35 uf1 (cx0 * (kInt .u64).size) 0) :: Lr) ∧ Els (kInt .u64) S' w' uf1 r ∧ r.length = nx0

theorem W.z48 (x0 : List Int) (r : List Int) (h : M.a6 x0 = some r) {nz wz S0 w0 Lr} (Gx0 nx0 cx0 uff) (p0 : Hp nz wz S0 w0 ((Gx0, .row 35 uff (cx0 * (kInt .u64).size) 0) :: Lr)) (fx0 : Els (kInt .u64) S0 w0 uff x0) (lx0 : x0.length = nx0) :
  Calls Tryz.prog 138 #[.slice (Gp Gx0) nx0 cx0] w0 (Rets (Post.z48 nz wz S0 w0 Lr Gx0 nx0 cx0 r)) := by
 subst lx0
 refine Zf Tryz.f138 B138 10 ?_
 refine Gj 11 [(0, .slice (Gp Gx0) x0.length cx0)] fun junk => ?_
 delta M.a6 at h
 refine Hn 11 (Yt 11 B138 [4, 5] []) ?_
 refine Gb h fun y2 e3 h => ?_
 refine Gc (kc 176 [8] #[213]) 9 3 176 _ (W.z2c (wr .u64 (x0.length : Int)) y2 e3  p0 ) ?_
 rintro _ w2 ⟨S2, rfl, z2, p2⟩
 refine Gg h fun g4 h => ?_
 refine Gb h fun y5 e6 h => ?_
 refine Gc (.call { callee := .value (.func 193), args := #[(.tmp 5), (.const (.int .i64 0)), (.tmp 6), (.tmp 9)], argTypes := #[31, 3, 3, 3] }) 10 0 193 _ (W.z3z (x0, 0, (x0.length : Int), y2) y5 e6 _ _ _ _ p2 (fx0.ext z2) rfl) ?_
 rintro _ w3 ⟨S3, un3, rfl, z3, p3, uev, un4⟩
 refine Hn 1 [] ?_
 obtain rfl := sj h
 exact Goes.end_ (fn := Tryz.f138) (by kernel_rfl) (v := .tuple #[]) (by kernel_rfl) ⟨S3, un3, rfl, (z2.t z3), p3, uev, un4⟩

def Jjf := Yt 110 B79 [1, 2] (Ys 111 B79 [])
def Jjh := Yt 1110 B79 [1] (Ys 1111 B79 [])
def Jji := Ys 11111 B79 []

def Post.z49 (u30 : Nat) (Epl : ZE) (pl : Z) (r : List Int) (v : Value) (w' : World) : Prop :=
 ∃ S' Gq nq cq csq, v = .slice (Gp Gq) nq cq ∧ Ext S0 w0 S' w' ∧ Hp nz wz S' w' ((Gq, .row 35 csq (cq * (kInt .u64).size) 0) :: (some u30, .row 77 [.map none] 1 0) :: PL Epl (Lr)) ∧ Els (kInt .u64) S' w' csq r ∧ r.length = nq

theorem W.z49 (pl : Z) (r : List Int) (h : M.a4b pl = some r) {nz wz S0 w0 Lr} (u30 Epl) (p0 : Hp nz wz S0 w0 ((some u30, .row 77 [.map none] 1 0) :: PL Epl (Lr))) (fpl : PS S0 w0 Epl pl) :
  Calls Tryz.prog 79 #[.func (.func 139) #[] #[(pt u30 0)]] w0 (Rets (Post.z49 nz wz S0 w0 Lr u30 Epl pl r)) := by
 refine Zf Tryz.f79 B79 8 ?_
 refine Gj 9 [(0, .func (.func 139) #[] #[(pt u30 0)])] fun junk => ?_
 delta M.a4b at h
 refine Hn 7 Jjf ?_
 refine Gb h fun y2 e3 h => ?_
 refine Gc (kc 137 [4] #[141]) 5 31 137 _ (W.z28 pl y2 e3 _ _ p0 fpl) ?_
 rintro _ w2 ⟨S2, ul, um, un, uo, rfl, z2, p2, up, rfl⟩
 refine Hn 5 Jjh ?_
 refine Gb h fun y5 e6 h => ?_
 refine Gc (kc 138 [6] #[31]) 7 0 138 _ (W.z48 y2 y5 e6 _ _ _ _ p2 up rfl) ?_
 rintro _ w3 ⟨S3, un3, rfl, z3, p3, uev, un4⟩
 refine Hn 6 Jji ?_
 obtain rfl := sj h
 exact Hr Tryz.f79 ⟨_, _, _, _, _, rfl, (z2.t z3), p3, uev, un4⟩

def Post.z4a (Epl : ZE) (pl : Z) (r : Nat) (v : Value) (w' : World) : Prop :=
 ∃ S' u1r uo1, v = .func (.func 139) #[] #[(pt u1r 0)] ∧ Ext S0 w0 S' w' ∧ Hp nz wz S' w' ((some u1r, .row 77 [.map (some uo1)] 1 0) :: PL Epl (Lr)) ∧ Pa 77 S' r uo1

theorem W.z4a (x0 : Nat) (pl : Z) (r : Nat) (h : M.a5k x0 pl = some r) {nz wz S0 w0 Lr} (gx0 Epl) (p0 : Hp nz wz S0 w0 (PL Epl (Lr))) (fx0 : Pa 77 S0 x0 gx0) (fpl : PS S0 w0 Epl pl) :
  Calls Tryz.prog 80 #[.map (some gx0)] w0 (Rets (Post.z4a nz wz S0 w0 Lr Epl pl r)) := by
 refine Zf Tryz.f80 B80 3 ?_
 refine Gj 4 [(0, .map (some gx0))] fun junk => ?_
 delta M.a5k at h
 refine Hn 2 Jac ?_
 refine Ob 77 (.tmp 0) 1 0 (.map (some gx0)) [.map (some gx0)] p0 Goes.v fun b1 w2 z2 p2 => ?_
 refine Hn 7 Jad ?_
 obtain rfl := sj h
 exact Hr Tryz.f80 ⟨_, _, _, rfl, z2, p2, (fx0.ext z2)⟩

def Qfo := Yq 1101010 B192
def Jjj := Zr Qfo [0, 1, 2, 3, 4] J3h
def Jjk := Zr Qfo [2, 3, 4] J3h
def Qfp := Yq 110101 B192

def Post.z4b (lk : Nat) (rk : Nat) (jkk : Nat → Value) (u1s : Nat) (u1t : Nat) (uo2 : Nat) (Epl : ZE) (u1u : Nat) (pl : Z) (r : List Int) (v : Value) (w' : World) : Prop :=
 ∃ S' u1v u1w u1x u1y, v = .bool true ∧ Ext S0 w0 S' w' ∧ Hp nz wz S' w' ((some lk, .obj (lpst 192 (lfr 13 [(2, (pt u1s 0)), (6, .func (.func 139) #[] #[(pt u1t 0)])] jkk) #[7] (rfAssign (Q8a)) (rfBody (Q8a)) rk .ready none)) :: (some u1s, .row 31 [.slice (Gp u1v) u1w u1x] 1 0) :: (u1v, .row 35 u1y (u1x * (kInt .u64).size) 0) :: (some u1t, .row 77 [.map (some uo2)] 1 0) :: PL Epl (Lr)) ∧ Els (kInt .u64) S' w' u1y r ∧ r.length = u1w

theorem W.z4b (u1z : List Int) (u1u : Nat) (a0 : Int) (pl : Z) (r : List Int) (h : M.a4c u1z u1u a0 pl = some r) {nz wz S0 w0 Lr} (lk rk jkk u1s u20 u21 u22 u23 u1t uo2 Epl) (p0 : Hp nz wz S0 w0 ((some lk, .obj (lpst 192 (lfr 13 [(2, (pt u1s 0)), (6, .func (.func 139) #[] #[(pt u1t 0)])] jkk) #[7] (rfAssign (Q8a)) (rfBody (Q8a)) rk .ready none)) :: (some u1s, .row 31 [.slice (Gp u20) u21 u22] 1 0) :: (u20, .row 35 u23 (u22 * (kInt .u64).size) 0) :: (some u1t, .row 77 [.map (some uo2)] 1 0) :: PL Epl (Lr))) (u24 : Els (kInt .u64) S0 w0 u23 u1z) (u25 : u1z.length = u21) (uo3 : Pa 77 S0 u1u uo2) (fpl : PS S0 w0 Epl pl) :
  Goes Tryz.prog (rbase 192 lk) [.code (rfAssign (Q8a)), .beginRound, .code (rfBody (Q8a))] ⟨setp (lfr 13 [(2, (pt u1s 0)), (6, .func (.func 139) #[] #[(pt u1t 0)])] jkk) #[7] #[.u a0], []⟩ w0 (DoneR (Post.z4b nz wz S0 w0 Lr lk rk jkk u1s u1t uo2 Epl u1u pl r)) := by
 subst u25
 refine Gj 13 [(2, (pt u1s 0)), (6, .func (.func 139) #[] #[(pt u1t 0)]), (7, .u a0)] fun junk => ?_
 delta M.a4c at h
 refine Hn 3 [.beginRound, .code (Qfp)] ?_
 refine Goes.beginR 0 rfl p0 rfl fun w2 z2 p2 => ?_
 refine Hn 2 Jjj ?_
 refine Hd (p2.e 1 0) ?_
 refine Hn 1 Jjk ?_
 have f6 : Els (kInt .u64) S0 w2 ([.u a0] : List Value) [a0] := by exact (Els.cons (K := (kInt .u64)) (vs := [.u a0]) (x := a0) rfl Els.nil)
 refine Om (.buildSlice 31 1 #[(0, (.tmp 9))]) 10 31 (fun b => .slice (Gp (some b)) 1 1) 35 ([.u a0] : List Value) (1 * (kInt .u64).size) p2 Goes.v fun b5 w3 z3 p3 => ?_
 refine Gg h fun g11 h => ?_
 refine On (K := (kInt .u64)) 31 (.tmp 8) (.tmp 10) 11 31 35 3 (.u 0) 8 u1z.length u22 1 u1z [a0] (u1z ++ [a0]) (Gp (some b5)) 1 rfl rfl rfl p3 rfl (u24.ext (z2.t z3)) Goes.v (f6.ext z3) (src_own p3 (q := 0) rfl) g11 fun w4 G12 c13 u26 z4 p4 f15 => ?_
 refine So 31 (.tmp 2) (.tmp 11) 0 2 u1s 0 (.slice (Gp G12) ((u1z ++ [a0]).length) c13) [.slice (Gp G12) ((u1z ++ [a0]).length) c13] p4 rfl Goes.s fun w5 z5 p5 => ?_
 refine Hn 2 [] ?_
 have p5 := p5.dp 0
 obtain rfl := sj h
 refine Goes.endR 0 p5 rfl fun w6 z6 p6 => ?_
 exact ⟨S0, G12, (u1z ++ [a0]).length, c13, u26, rfl, ((((z2.t z3).t z4).t z5).t z6), p6, (f15.ext (z5.t z6)), rfl⟩

def Jjl := Zb 1 Jae

def Post.z4c (lx0 : Nat) (rx0 : Nat) (u27 : Nat → Value) (u28 : Nat) (u29 : Nat) (uo4 : Nat) (Epl : ZE) (u2a : Nat) (pl : Z) (r : List Int) (v : Value) (w' : World) : Prop :=
 ∃ S' u1v u1w u1x u1y, v = .tuple #[] ∧ Ext S0 w0 S' w' ∧ Hp nz wz S' w' ((some lx0, .obj (lpst 192 (lfr 13 [(2, (pt u28 0)), (6, .func (.func 139) #[] #[(pt u29 0)])] u27) #[7] (rfAssign (Q8a)) (rfBody (Q8a)) rx0 .ready none)) :: (some u28, .row 31 [.slice (Gp u1v) u1w u1x] 1 0) :: (u1v, .row 35 u1y (u1x * (kInt .u64).size) 0) :: (some u29, .row 77 [.map (some uo4)] 1 0) :: PL Epl (Lr)) ∧ Els (kInt .u64) S' w' u1y r ∧ r.length = u1w

def L.z4d (lx0 : Nat) (rx0 : Nat) (u27 : Nat → Value) (u28 : Nat) (u29 : Nat) (uo4 : Nat) (Epl : ZE) : Nat × (List (Int × (List T55))) × (List Int) × Nat × Z → (List Int) → Prop := fun ⟨x5i, x5, u2b, u2a, pl⟩ r => ∀ S1 w1, Ext S0 w0 S1 w1 → ∀ gx5 uo5 uo6 uo7 uo8 u1v u1w u1x u1y (_ : Hp nz wz S1 w1 ((some gx5, .obj (.mapIter (some uo5) uo7 uo8 uo7)) :: (some lx0, .obj (lpst 192 (lfr 13 [(2, (pt u28 0)), (6, .func (.func 139) #[] #[(pt u29 0)])] u27) #[7] (rfAssign (Q8a)) (rfBody (Q8a)) rx0 .ready none)) :: (some u28, .row 31 [.slice (Gp u1v) u1w u1x] 1 0) :: (u1v, .row 35 u1y (u1x * (kInt .u64).size) 0) :: (some u29, .row 77 [.map (some uo4)] 1 0) :: PL Epl (Lr))) (_ : It (Value.int .u64) (kSl kT55) S1 w1 uo6 uo7 uo8 x5) (_ : Els (kInt .u64) S1 w1 u1y u2b) (_ : u2b.length = u1w) (_ : Pa 77 S1 u2a uo4) (_ : PS S1 w1 Epl pl) (_ : Epl.za[x5i]? = some (uo5, .map uo6 uo7)) (junk : Nat → Value),
 Goes Tryz.prog (base 139) Jaf ⟨lfr 14 [(0, yieldV lx0), (5, (pt gx5 0))] junk, []⟩ w1 (Done Tryz.prog 139 (Rets (PermP (Post.z4c nz wz S0 w0 Lr lx0 rx0 u27 u28 u29 uo4 Epl u2a pl) r)))

theorem W.z4d {nz wz S0 w0 Lr} (lx0 : Nat) (rx0 : Nat) (u27 : Nat → Value) (u28 : Nat) (u29 : Nat) (uo4 : Nat) (Epl : ZE) : ∀ a r, M.a5 a = some r → L.z4d nz wz S0 w0 Lr lx0 rx0 u27 u28 u29 uo4 Epl a r := by
 have main : ∀ n a r, List.length a.2.1 = n → M.a5 a = some r → L.z4d nz wz S0 w0 Lr lx0 rx0 u27 u28 u29 uo4 Epl a r := by
  intro n
  induction n using Nat.strongRecOn with
  | _ n ih0 =>
  have uo9 : ∀ a r, List.length a.2.1 < n → M.a5 a = some r → L.z4d nz wz S0 w0 Lr lx0 rx0 u27 u28 u29 uo4 Epl a r := fun a r hl h => ih0 _ hl a r rfl h
  intro ⟨x5i, x5, u2b, u2a, pl⟩ r hn h S1 w1 hx gx5 uo5 uo6 uo7 uo8 u1v u1w u1x u1y p1 fx5 u2e u2f uoa fs4 hx5 junk
  try dsimp only at hn
  subst u2f
  refine Hn 2 Jah ?_
  skip
  refine Op_.nxM (.tmp 5) 6 0 0 gx5 p1 rfl (p1.poolGet 5 rfl hx5) fx5 Goes.v (by kernel_rfl) ?_ ?_
  ·
   intro e23; subst e23; rw [M.a5] at h; try dsimp only at h
   refine Hn 5 [] ?_
   obtain rfl := sj h
   have p1 := p1.dp 0
   exact Goes.end_ (fn := Tryz.f139) (by kernel_rfl) (v := .tuple #[]) (by kernel_rfl) ⟨_, List.Perm.refl _, ⟨S1, u1v, u2b.length, u1x, u1y, rfl, hx, p1, u2e, rfl⟩⟩
  ·
   intro j15 l16 v17 b18 w3 z3 p3 f19 m20 f21
   obtain ⟨rn, hn2, qn⟩ := O.api_Labels_1_2_l0 x5i u2b u2a pl _ _ r (pick_perm x5 j15 l16) h; refine Goes.monoP qn ?_; clear h; have h := hn2; clear hn2; rw [M.a5] at h; try dsimp only at h
   have l22 : (List.eraseIdx x5 j15).length < x5.length := by rw [List.length_eraseIdx_of_lt l16]; omega
   generalize List.eraseIdx x5 j15 = uob at h f19 l22
   generalize x5[j15]'(by exact l16) = uoc at h m20 f21
   obtain ⟨A24, c25, rfl, f26⟩ := one_sl f21
   refine Hn 8 (Yt 11001100 B139 [0, 1, 2] (Ys 11001101 B139 Jjl)) ?_
   refine Op_.enM (.tmp 5) 8 0 0 gx5 p3 rfl (p3.poolGet 5 rfl hx5) f19.nd m20 Goes.v (by kernel_rfl) ?_
   refine Hn 7 (Yt 110011010 B139 [2, 3] (Ys 110011011 B139 Jjl)) ?_
   have p3 := p3.rt 5 10
   have p3 := (((p3.fr 14).fr 14).fr 14).fr 14
   refine Gb h fun y27 e28 h => ?_
   refine Goes.yieldAt (.call { callee := .value (.tmp 10), args := #[(.tmp 11)], argTypes := #[35] }) 12 4 0 lx0 #[.u uoc.1] p3 rfl (by kernel_rfl) rfl (fun _ => by kernel_rfl) rfl (W.z4b u2b u2a uoc.1 pl y27 e28 _ _ _ _ _ _ _ _ _ _ _ p3 (u2e.ext z3) rfl (uoa.ext z3) (fs4.ext z3)) ?_
   rintro _ w4 ⟨S4, u2v, u2w, u2x, u2y, rfl, z4, p4, u2z, rfl⟩
   refine Hn 6 Jaf ?_
   have p4 := p4.fr 14
   exact Gk (uo9 _ _ (Nat.lt_of_lt_of_eq l22 hn) h _ _ ((hx.t z3).t z4) _ _ _ _ _ _ _ _ _ p4 (f19.ext z4) u2z rfl (uoa.ext (z3.t z4)) (fs4.ext (z3.t z4)) hx5)
 exact fun a r h => main _ a r rfl h

theorem W.z4c (u2l : List Int) (u2a : Nat) (pl : Z) (r : List Int) (h : M.a4d u2l u2a pl = some r) {nz wz S0 w0 Lr} (lx0 rx0 u27 u28 u2m u2n u2o u2p u29 uo4 Epl) (p0 : Hp nz wz S0 w0 ((some lx0, .obj (lpst 192 (lfr 13 [(2, (pt u28 0)), (6, .func (.func 139) #[] #[(pt u29 0)])] u27) #[7] (rfAssign (Q8a)) (rfBody (Q8a)) rx0 .ready none)) :: (some u28, .row 31 [.slice (Gp u2m) u2n u2o] 1 0) :: (u2m, .row 35 u2p (u2o * (kInt .u64).size) 0) :: (some u29, .row 77 [.map (some uo4)] 1 0) :: PL Epl (Lr))) (u2q : Els (kInt .u64) S0 w0 u2p u2l) (u2r : u2l.length = u2n) (uod : Pa 77 S0 u2a uo4) (fpl : PS S0 w0 Epl pl) :
  Calls Tryz.prog 139 #[yieldV lx0, (pt u29 0)] w0 (Rets (PermP (Post.z4c nz wz S0 w0 Lr lx0 rx0 u27 u28 u29 uo4 Epl u2a pl) r)) := by
 subst u2r
 refine Zf Tryz.f139 B139 12 ?_
 refine Gj 14 [(0, yieldV lx0), (1, (pt u29 0))] fun junk => ?_
 delta M.a4d at h
 refine Hn 2 Jaj ?_
 refine Hd (p0.e 3 0) ?_
 refine Op_.rgM 77 (.tmp 4) 5 0 35 38 4 p0 rfl fpl.za uod Goes.v (by kernel_rfl) (by kernel_rfl) fun r5 w2 es6 ck7 z2 p2 e9 f8 => ?_
 refine Hn 3 Jaf ?_
 exact Gk (W.z4d lx0 rx0 u27 u28 u29 uo4 Epl _ _ h _ _ z2 _ _ _ _ _ _ _ _ _ p2 f8 (u2q.ext z2) rfl (uod.ext z2) (fpl.ext z2) e9)

def Post.z4e (u2s : Nat) (uoe : Nat) (Epl : ZE) (u2t : Nat) (pl : Z) (r : List Int) (v : Value) (w' : World) : Prop :=
 ∃ S' Gq nq cq csq, v = .slice (Gp Gq) nq cq ∧ Ext S0 w0 S' w' ∧ Hp nz wz S' w' ((Gq, .row 35 csq (cq * (kInt .u64).size) 0) :: (some u2s, .row 77 [.map (some uoe)] 1 0) :: PL Epl (Lr)) ∧ Els (kInt .u64) S' w' csq r ∧ r.length = nq

theorem W.z4e (u2t : Nat) (pl : Z) (r : List Int) (h : M.a4e u2t pl = some r) {nz wz S0 w0 Lr} (u2s uoe Epl) (p0 : Hp nz wz S0 w0 ((some u2s, .row 77 [.map (some uoe)] 1 0) :: PL Epl (Lr))) (uof : Pa 77 S0 u2t uoe) (fpl : PS S0 w0 Epl pl) :
  Calls Tryz.prog 192 #[.slice none 0 0, .func (.func 139) #[] #[(pt u2s 0)]] w0 (Rets (PermP (Post.z4e nz wz S0 w0 Lr u2s uoe Epl u2t pl) r)) := by
 refine Zf Tryz.f192 B192 11 ?_
 refine Gj 13 [(0, .slice none 0 0), (1, .func (.func 139) #[] #[(pt u2s 0)])] fun junk => ?_
 delta M.a4e at h
 refine Hn 2 Jal ?_
 refine Ob 31 (.tmp 0) 2 0 (.slice none 0 0) [.slice none 0 0] p0 Goes.v fun b2 w2 z2 p2 => ?_
 refine Hn 8 Jao ?_
 refine Gj 13 [(2, (pt b2 0)), (6, .func (.func 139) #[] #[(pt u2s 0)])] (fun u2u => ?_)
 refine Goes.rangeF (f := 192) (.tmp 6) #[7] 139 #[] #[(pt u2s 0)] (by kernel_rfl) (by kernel_rfl) (fun _ => by kernel_rfl) p2 fun r5 l6 w3 z3 p3 => ?_
 have p3 : Hp nz wz S0 w3 ((none, .row 35 [] (0 * (kInt .u64).size) 0) :: (some l6, .obj (lpst 192 (lfr 13 [(2, (pt b2 0)), (6, .func (.func 139) #[] #[(pt u2s 0)])] u2u) #[7] (rfAssign (Q8a)) (rfBody (Q8a)) r5 .ready none)) :: (some r5, .obj (.deferred (some []))) :: (some b2, .row 31 [.slice none 0 0] 1 0) :: (some u2s, .row 77 [.map (some uoe)] 1 0) :: PL Epl (Lr)) := p3.nilRow' 35
 have p3 := p3.rt 5 10
 have p3 := (((p3.fr 14).fr 11).fr 14).fr 13
 refine Gb h fun y10 e11 h => ?_
 refine ⟨_, W.z4c ([] : List Int) u2t pl y10 e11 _ _ _ _ none 0 0 [] _ _ _ p3 (Els.nil (K := (kInt .u64))) rfl (uof.ext (z2.t z3)) (fpl.ext (z2.t z3)), ?_⟩
 rintro _ w4 ⟨uog, uoh, S4, u2v, u2w, u2x, u2y, rfl, z4, p4, u2z, rfl⟩
 refine Goes.endF 0 p4 rfl rfl fun w5 z5 p5 => ?_
 replace p5 : Hp nz wz S4 w5 ((some b2, .row 31 [.slice (Gp u2v) uog.length u2x] 1 0) :: (u2v, .row 35 u2y (u2x * (kInt .u64).size) 0) :: (some u2s, .row 77 [.map (some uoe)] 1 0) :: PL Epl ((some r5, .obj (.deferred (some []))) :: Lr)) := (p5.front 0 _ rfl).drop
 show Goes _ _ Jan _ _ _
 refine Hn 3 Jaq ?_
 refine Hd (p5.e 0 0) ?_
 refine Hn 2 Jap ?_
 obtain rfl := sj h
 have p5 := p5.dp 0
 have p5 := p5.fr 12
 refine Goes.retL ?_
 refine lvs_mark 0 rfl rfl p5 rfl fun w6 z6 p6 => ?_
 replace p6 : Hp nz wz S4 w6 ((u2v, .row 35 u2y (u2x * (kInt .u64).size) 0) :: (some u2s, .row 77 [.map (some uoe)] 1 0) :: PL Epl (Lr)) := p6.drop
 exact lvs_done (fn := Tryz.f192) rfl rfl rfl rfl (by kernel_rfl) (v := .slice (Gp u2v) uog.length u2x) (by kernel_rfl) ⟨_, uoh, ⟨S4, u2v, uog.length, u2x, u2y, rfl, ((((z2.t z3).t z4).t z5).t z6), p6, (u2z.ext (z5.t z6)), rfl⟩⟩

def Post.z4f (u30 : Nat) (uoi : Nat) (Epl : ZE) (u31 : Nat) (pl : Z) (r : List Int) (v : Value) (w' : World) : Prop :=
 ∃ S' Gq nq cq csq, v = .slice (Gp Gq) nq cq ∧ Ext S0 w0 S' w' ∧ Hp nz wz S' w' ((Gq, .row 35 csq (cq * (kInt .u64).size) 0) :: (some u30, .row 77 [.map (some uoi)] 1 0) :: PL Epl (Lr)) ∧ Els (kInt .u64) S' w' csq r ∧ r.length = nq

theorem W.z4f (u31 : Nat) (pl : Z) (r : List Int) (h : M.a4f u31 pl = some r) {nz wz S0 w0 Lr} (u30 uoi Epl) (p0 : Hp nz wz S0 w0 ((some u30, .row 77 [.map (some uoi)] 1 0) :: PL Epl (Lr))) (uoj : Pa 77 S0 u31 uoi) (fpl : PS S0 w0 Epl pl) :
  Calls Tryz.prog 137 #[.func (.func 139) #[] #[(pt u30 0)]] w0 (Rets (PermP (Post.z4f nz wz S0 w0 Lr u30 uoi Epl u31 pl) r)) := by
 refine Zf Tryz.f137 B137 4 ?_
 refine Gj 5 [(0, .func (.func 139) #[] #[(pt u30 0)])] fun junk => ?_
 delta M.a4f at h
 refine Hn 7 Jas ?_
 refine Gb h fun y2 e3 h => ?_
 refine Gc (.call { callee := .value (.func 192), args := #[(.const (.slice none 0 0)), (.tmp 3)], argTypes := #[31, 141] }) 4 31 192 _ (W.z4e u31 pl y2 e3 _ _ _ p0 uoj fpl) ?_
 rintro _ w2 ⟨y2n, qy2, S2, ul, um, un, uo, rfl, z2, p2, up, rfl⟩
 refine Hn 2 Jar ?_
 obtain rfl := sj h
 exact Hr Tryz.f137 ⟨_, qy2, ⟨_, _, _, _, _, rfl, z2, p2, up, rfl⟩⟩

def Post.z4g (u30 : Nat) (uoi : Nat) (Epl : ZE) (u31 : Nat) (pl : Z) (r : List Int) (v : Value) (w' : World) : Prop :=
 ∃ S' Gq nq cq csq, v = .slice (Gp Gq) nq cq ∧ Ext S0 w0 S' w' ∧ Hp nz wz S' w' ((Gq, .row 35 csq (cq * (kInt .u64).size) 0) :: (some u30, .row 77 [.map (some uoi)] 1 0) :: PL Epl (Lr)) ∧ Els (kInt .u64) S' w' csq r ∧ r.length = nq

theorem W.z4g (u31 : Nat) (pl : Z) (r : List Int) (h : M.a4g u31 pl = some r) {nz wz S0 w0 Lr} (u30 uoi Epl) (p0 : Hp nz wz S0 w0 ((some u30, .row 77 [.map (some uoi)] 1 0) :: PL Epl (Lr))) (uoj : Pa 77 S0 u31 uoi) (fpl : PS S0 w0 Epl pl) :
  Calls Tryz.prog 79 #[.func (.func 139) #[] #[(pt u30 0)]] w0 (Rets (Post.z4g nz wz S0 w0 Lr u30 uoi Epl u31 pl r)) := by
 refine Zf Tryz.f79 B79 8 ?_
 refine Gj 9 [(0, .func (.func 139) #[] #[(pt u30 0)])] fun junk => ?_
 delta M.a4g at h
 refine Hn 7 Jjf ?_
 refine Gb h fun y2 e3 h => ?_
 refine Gc (kc 137 [4] #[141]) 5 31 137 _ (W.z4f u31 pl y2 e3 _ _ _ p0 uoj fpl) ?_
 rintro _ w2 ⟨y2n, qy2, S2, ul, um, un, uo, rfl, z2, p2, up, rfl⟩
 refine Hn 5 Jjh ?_
 refine Gb h fun y5 e6 h => ?_
 replace e6 := O.slices_Sort_uint64_uint64 qy2 e6
 refine Gc (kc 138 [6] #[31]) 7 0 138 _ (W.z48 y2n y5 e6 _ _ _ _ p2 up rfl) ?_
 rintro _ w3 ⟨S3, un3, rfl, z3, p3, uev, un4⟩
 refine Hn 6 Jji ?_
 obtain rfl := sj h
 exact Hr Tryz.f79 ⟨_, _, _, _, _, rfl, (z2.t z3), p3, uev, un4⟩

def Jjq := Ys 111 B39 []
def Jjr := Ys 1101 B39 Jjq
def Jjs := Yt 1100 B39 [1, 2] Jjr
def Jjt := Ys 1111 B39 []
def Jjv := Ys 110101 B39 Jjq

def Post.z4h (Epl : ZE) (pl : Z) (r : List Int) (v : Value) (w' : World) : Prop :=
 ∃ S' Gq nq cq csq, v = .slice (Gp Gq) nq cq ∧ Ext S0 w0 S' w' ∧ Hp nz wz S' w' ((Gq, .row 35 csq (cq * (kInt .u64).size) 0) :: PL Epl (Lr)) ∧ Els (kInt .u64) S' w' csq r ∧ r.length = nq

theorem W.z4h (x0 : Nat) (pl : Z) (r : List Int) (h : M.a1n x0 pl = some r) {nz wz S0 w0 Lr} (gx0 Epl) (p0 : Hp nz wz S0 w0 (PL Epl (Lr))) (fx0 : Pa 80 S0 x0 gx0) (fpl : PS S0 w0 Epl pl) :
  Calls Tryz.prog 39 #[(pt gx0 0)] w0 (Rets (Post.z4h nz wz S0 w0 Lr Epl pl r)) := by
 refine Zf Tryz.f39 B39 11 ?_
 refine Gj 12 [(0, (pt gx0 0))] fun junk => ?_
 delta M.a1n at h
 refine Hn 8 Jjs ?_
 refine Gb h fun y1 e2 h => ?_
 refine Gc (kc 59 [3] #[24]) 4 4 59 _ (W.z1 x0 pl y1 e2 _ _ p0 fx0 fpl) ?_
 rintro _ w2 ⟨S2, rfl, z2, p2⟩
 refine Hn 2 Jjr ?_
 refine Hb [(4, .bool y1), (5, .bool (!y1))] ?_
 refine Gi h (fun h3 h => ?_) fun h3 h => ?_
 ·
  rw [h3]
  refine Hn 7 (Yt 1110 B39 [3, 4, 5, 6] Jjt) ?_
  obtain ⟨cs4, q5, l6, e7, f8⟩ := Pl.row p2 3 rfl (fpl.zd.ext z2) (fx0.ext z2)
  obtain ⟨_, _, rfl, q11, ⟨_, _, rfl, q14, q17⟩⟩ := q5
  obtain ⟨v9, rfl, f10⟩ := kMp_one (w := w2) q11
  obtain ⟨v12, rfl, f13⟩ := kMp_one (w := w2) q14
  obtain ⟨v15, rfl, f16⟩ := kMp_one (w := w2) q17
  refine Hd (f8 0 _ rfl) ?_
  refine Gl h fun v34 h18 h => ?_
  rcases v34 with _ | y19
  ·
   try dsimp only at h
   obtain rfl := MpO.nil f10 h18
   refine Gb h fun y22 e23 h => ?_
   refine Gc (kc 80 [9] #[77]) 10 141 80 _ (W.z24 pl y22 e23 _ p2 (fpl.ext z2)) ?_
   rintro _ w3 ⟨S3, uok, rfl, z3, p3⟩
   refine Gb h fun y25 e26 h => ?_
   refine Gc (kc 79 [10] #[141]) 11 31 79 _ (W.z49 pl y25 e26 _ _ p3 (fpl.ext (z2.t z3))) ?_
   rintro _ w4 ⟨S4, uol, uom, uon, uoo, rfl, z4, p4, uey, rfl⟩
   have p4 := p4.dp 1
   refine Hn 2 Jjt ?_
   obtain rfl := sj h
   exact Hr Tryz.f39 ⟨_, _, _, _, _, rfl, ((z2.t z3).t z4), p4, uey, rfl⟩
  ·
   try dsimp only at h
   obtain ⟨g20, rfl, f21⟩ := MpO.got f10 h18
   refine Gb h fun y28 e29 h => ?_
   refine Gc (kc 80 [9] #[77]) 10 141 80 _ (W.z4a y19 pl y28 e29 _ _ p2 f21 (fpl.ext z2)) ?_
   rintro _ w5 ⟨S5, uop, uoq, rfl, z5, p5, uor⟩
   refine Gb h fun y31 e32 h => ?_
   refine Gc (kc 79 [10] #[141]) 11 31 79 _ (W.z4g y28 pl y31 e32 _ _ _ p5 uor (fpl.ext (z2.t z5))) ?_
   rintro _ w6 ⟨S6, uos, uot, uou, uov, rfl, z6, p6, uow, rfl⟩
   have p6 := p6.dp 1
   refine Hn 2 Jjt ?_
   obtain rfl := sj h
   exact Hr Tryz.f39 ⟨_, _, _, _, _, rfl, ((z2.t z5).t z6), p6, uow, rfl⟩
 ·
  rw [bf h3]
  refine Hn 5 Jjv ?_
  have p2 : Hp nz wz S2 w2 ((none, .row 35 [] (0 * (kInt .u64).size) 0) :: PL Epl (Lr)) := p2.nilRow' 35
  obtain rfl := sj h
  exact Hr Tryz.f39 ⟨_, _, _, _, _, rfl, z2, p2, (Els.nil (K := (kInt .u64))), rfl⟩

def Jjx := Yt 10 B119 [0, 1] (Ys 11 B119 [])
def Jjy := Ys 111 B119 []

def Post.z4i (Epl : ZE) (pl : Z) (r : Nat) (v : Value) (w' : World) : Prop :=
 ∃ S' u1r uo1, v = .func (.func 177) #[] #[(pt u1r 0)] ∧ Ext S0 w0 S' w' ∧ Hp nz wz S' w' ((some u1r, .row 123 [.map (some uo1)] 1 0) :: PL Epl (Lr)) ∧ Pa 122 S' r uo1

theorem W.z4i (x0 : Nat) (pl : Z) (r : Nat) (h : M.a2p x0 pl = some r) {nz wz S0 w0 Lr} (gx0 Epl) (p0 : Hp nz wz S0 w0 (PL Epl (Lr))) (fx0 : Pa 122 S0 x0 gx0) (fpl : PS S0 w0 Epl pl) :
  Calls Tryz.prog 119 #[.map (some gx0)] w0 (Rets (Post.z4i nz wz S0 w0 Lr Epl pl r)) := by
 refine Zf Tryz.f119 B119 3 ?_
 refine Gj 4 [(0, .map (some gx0))] fun junk => ?_
 delta M.a2p at h
 refine Hn 2 Jjx ?_
 refine Ob 123 (.tmp 0) 1 0 (.map (some gx0)) [.map (some gx0)] p0 Goes.v fun b1 w2 z2 p2 => ?_
 refine Hn 7 Jjy ?_
 obtain rfl := sj h
 exact Hr Tryz.f119 ⟨_, _, _, rfl, z2, p2, (fx0.ext z2)⟩

def Post.z4j (lk : Nat) (rk : Nat) (jkk : Nat → Value) (u1s : Nat) (u1t : Nat) (uo2 : Nat) (Epl : ZE) (u1u : Nat) (pl : Z) (r : List Int) (v : Value) (w' : World) : Prop :=
 ∃ S' u1v u1w u1x u1y, v = .bool true ∧ Ext S0 w0 S' w' ∧ Hp nz wz S' w' ((some lk, .obj (lpst 192 (lfr 13 [(2, (pt u1s 0)), (6, .func (.func 177) #[] #[(pt u1t 0)])] jkk) #[7] (rfAssign (Q8a)) (rfBody (Q8a)) rk .ready none)) :: (some u1s, .row 31 [.slice (Gp u1v) u1w u1x] 1 0) :: (u1v, .row 35 u1y (u1x * (kInt .u64).size) 0) :: (some u1t, .row 123 [.map (some uo2)] 1 0) :: PL Epl (Lr)) ∧ Els (kInt .u64) S' w' u1y r ∧ r.length = u1w

theorem W.z4j (u1z : List Int) (u1u : Nat) (a0 : Int) (pl : Z) (r : List Int) (h : M.a4h u1z u1u a0 pl = some r) {nz wz S0 w0 Lr} (lk rk jkk u1s u20 u21 u22 u23 u1t uo2 Epl) (p0 : Hp nz wz S0 w0 ((some lk, .obj (lpst 192 (lfr 13 [(2, (pt u1s 0)), (6, .func (.func 177) #[] #[(pt u1t 0)])] jkk) #[7] (rfAssign (Q8a)) (rfBody (Q8a)) rk .ready none)) :: (some u1s, .row 31 [.slice (Gp u20) u21 u22] 1 0) :: (u20, .row 35 u23 (u22 * (kInt .u64).size) 0) :: (some u1t, .row 123 [.map (some uo2)] 1 0) :: PL Epl (Lr))) (u24 : Els (kInt .u64) S0 w0 u23 u1z) (u25 : u1z.length = u21) (uo3 : Pa 122 S0 u1u uo2) (fpl : PS S0 w0 Epl pl) :
  Goes Tryz.prog (rbase 192 lk) [.code (rfAssign (Q8a)), .beginRound, .code (rfBody (Q8a))] ⟨setp (lfr 13 [(2, (pt u1s 0)), (6, .func (.func 177) #[] #[(pt u1t 0)])] jkk) #[7] #[.u a0], []⟩ w0 (DoneR (Post.z4j nz wz S0 w0 Lr lk rk jkk u1s u1t uo2 Epl u1u pl r)) := by
 subst u25
 refine Gj 13 [(2, (pt u1s 0)), (6, .func (.func 177) #[] #[(pt u1t 0)]), (7, .u a0)] fun junk => ?_
 delta M.a4h at h
 refine Hn 3 [.beginRound, .code (Qfp)] ?_
 refine Goes.beginR 0 rfl p0 rfl fun w2 z2 p2 => ?_
 refine Hn 2 Jjj ?_
 refine Hd (p2.e 1 0) ?_
 refine Hn 1 Jjk ?_
 have f6 : Els (kInt .u64) S0 w2 ([.u a0] : List Value) [a0] := by exact (Els.cons (K := (kInt .u64)) (vs := [.u a0]) (x := a0) rfl Els.nil)
 refine Om (.buildSlice 31 1 #[(0, (.tmp 9))]) 10 31 (fun b => .slice (Gp (some b)) 1 1) 35 ([.u a0] : List Value) (1 * (kInt .u64).size) p2 Goes.v fun b5 w3 z3 p3 => ?_
 refine Gg h fun g11 h => ?_
 refine On (K := (kInt .u64)) 31 (.tmp 8) (.tmp 10) 11 31 35 3 (.u 0) 8 u1z.length u22 1 u1z [a0] (u1z ++ [a0]) (Gp (some b5)) 1 rfl rfl rfl p3 rfl (u24.ext (z2.t z3)) Goes.v (f6.ext z3) (src_own p3 (q := 0) rfl) g11 fun w4 G12 c13 u26 z4 p4 f15 => ?_
 refine So 31 (.tmp 2) (.tmp 11) 0 2 u1s 0 (.slice (Gp G12) ((u1z ++ [a0]).length) c13) [.slice (Gp G12) ((u1z ++ [a0]).length) c13] p4 rfl Goes.s fun w5 z5 p5 => ?_
 refine Hn 2 [] ?_
 have p5 := p5.dp 0
 obtain rfl := sj h
 refine Goes.endR 0 p5 rfl fun w6 z6 p6 => ?_
 exact ⟨S0, G12, (u1z ++ [a0]).length, c13, u26, rfl, ((((z2.t z3).t z4).t z5).t z6), p6, (f15.ext (z5.t z6)), rfl⟩

def Qg3 := Yq 1100 B177
def Jjz := Zl Qg3 J3k
def Jk0 := Zc Qg3 Jjz
def Jk2 := Yt 11000 B177 [0, 1] (Ys 11001 B177 Jjz)
def Jk3 := Zb 1 Jjz

def Post.z4k (lx0 : Nat) (rx0 : Nat) (u27 : Nat → Value) (u28 : Nat) (u29 : Nat) (uo4 : Nat) (Epl : ZE) (u2a : Nat) (pl : Z) (r : List Int) (v : Value) (w' : World) : Prop :=
 ∃ S' u1v u1w u1x u1y, v = .tuple #[] ∧ Ext S0 w0 S' w' ∧ Hp nz wz S' w' ((some lx0, .obj (lpst 192 (lfr 13 [(2, (pt u28 0)), (6, .func (.func 177) #[] #[(pt u29 0)])] u27) #[7] (rfAssign (Q8a)) (rfBody (Q8a)) rx0 .ready none)) :: (some u28, .row 31 [.slice (Gp u1v) u1w u1x] 1 0) :: (u1v, .row 35 u1y (u1x * (kInt .u64).size) 0) :: (some u29, .row 123 [.map (some uo4)] 1 0) :: PL Epl (Lr)) ∧ Els (kInt .u64) S' w' u1y r ∧ r.length = u1w

def L.z4l (lx0 : Nat) (rx0 : Nat) (u27 : Nat → Value) (u28 : Nat) (u29 : Nat) (uo4 : Nat) (Epl : ZE) : Nat × (List (Int × Bool)) × (List Int) × Nat × Z → (List Int) → Prop := fun ⟨x5i, x5, u2b, u2a, pl⟩ r => ∀ S1 w1, Ext S0 w0 S1 w1 → ∀ gx5 uo5 uo6 uo7 uo8 u1v u1w u1x u1y (_ : Hp nz wz S1 w1 ((some gx5, .obj (.mapIter (some uo5) uo7 uo8 uo7)) :: (some lx0, .obj (lpst 192 (lfr 13 [(2, (pt u28 0)), (6, .func (.func 177) #[] #[(pt u29 0)])] u27) #[7] (rfAssign (Q8a)) (rfBody (Q8a)) rx0 .ready none)) :: (some u28, .row 31 [.slice (Gp u1v) u1w u1x] 1 0) :: (u1v, .row 35 u1y (u1x * (kInt .u64).size) 0) :: (some u29, .row 123 [.map (some uo4)] 1 0) :: PL Epl (Lr))) (_ : It (Value.int .u64) kBool S1 w1 uo6 uo7 uo8 x5) (_ : Els (kInt .u64) S1 w1 u1y u2b) (_ : u2b.length = u1w) (_ : Pa 122 S1 u2a uo4) (_ : PS S1 w1 Epl pl) (_ : Epl.zf[x5i]? = some (uo5, .map uo6 uo7)) (junk : Nat → Value),
 Goes Tryz.prog (base 177) Jk0 ⟨lfr 14 [(0, yieldV lx0), (5, (pt gx5 0))] junk, []⟩ w1 (Done Tryz.prog 177 (Rets (PermP (Post.z4k nz wz S0 w0 Lr lx0 rx0 u27 u28 u29 uo4 Epl u2a pl) r)))

theorem W.z4l {nz wz S0 w0 Lr} (lx0 : Nat) (rx0 : Nat) (u27 : Nat → Value) (u28 : Nat) (u29 : Nat) (uo4 : Nat) (Epl : ZE) : ∀ a r, M.a3 a = some r → L.z4l nz wz S0 w0 Lr lx0 rx0 u27 u28 u29 uo4 Epl a r := by
 have main : ∀ n a r, List.length a.2.1 = n → M.a3 a = some r → L.z4l nz wz S0 w0 Lr lx0 rx0 u27 u28 u29 uo4 Epl a r := by
  intro n
  induction n using Nat.strongRecOn with
  | _ n ih0 =>
  have uox : ∀ a r, List.length a.2.1 < n → M.a3 a = some r → L.z4l nz wz S0 w0 Lr lx0 rx0 u27 u28 u29 uo4 Epl a r := fun a r hl h => ih0 _ hl a r rfl h
  intro ⟨x5i, x5, u2b, u2a, pl⟩ r hn h S1 w1 hx gx5 uo5 uo6 uo7 uo8 u1v u1w u1x u1y p1 fx5 u2e u2f uoa fs4 hx5 junk
  try dsimp only at hn
  subst u2f
  refine Hn 2 Jk2 ?_
  skip
  refine Op_.nxM (.tmp 5) 6 0 0 gx5 p1 rfl (p1.poolGet 10 rfl hx5) fx5 Goes.v (by kernel_rfl) ?_ ?_
  ·
   intro e23; subst e23; rw [M.a3] at h; try dsimp only at h
   refine Hn 5 [] ?_
   obtain rfl := sj h
   have p1 := p1.dp 0
   exact Goes.end_ (fn := Tryz.f177) (by kernel_rfl) (v := .tuple #[]) (by kernel_rfl) ⟨_, List.Perm.refl _, ⟨S1, u1v, u2b.length, u1x, u1y, rfl, hx, p1, u2e, rfl⟩⟩
  ·
   intro j15 l16 v17 b18 w3 z3 p3 f19 m20 f21
   obtain ⟨rn, hn2, qn⟩ := O.inv_members_uint64_uint64_bool_1_2_l0 x5i u2b u2a pl _ _ r (pick_perm x5 j15 l16) h; refine Goes.monoP qn ?_; clear h; have h := hn2; clear hn2; rw [M.a3] at h; try dsimp only at h
   have l22 : (List.eraseIdx x5 j15).length < x5.length := by rw [List.length_eraseIdx_of_lt l16]; omega
   generalize List.eraseIdx x5 j15 = uob at h f19 l22
   generalize x5[j15]'(by exact l16) = uoc at h m20 f21
   obtain rfl := one_bool f21
   refine Hn 8 (Yt 11001100 B177 [0, 1, 2] (Ys 11001101 B177 Jk3)) ?_
   refine Op_.enM (.tmp 5) 8 0 0 gx5 p3 rfl (p3.poolGet 10 rfl hx5) f19.nd m20 Goes.v (by kernel_rfl) ?_
   refine Hn 7 (Yt 110011010 B177 [2, 3] (Ys 110011011 B177 Jk3)) ?_
   have p3 := p3.rt 5 10
   have p3 := (((p3.fr 14).fr 14).fr 14).fr 14
   refine Gb h fun y24 e25 h => ?_
   refine Goes.yieldAt (.call { callee := .value (.tmp 10), args := #[(.tmp 11)], argTypes := #[35] }) 12 4 0 lx0 #[.u uoc.1] p3 rfl (by kernel_rfl) rfl (fun _ => by kernel_rfl) rfl (W.z4j u2b u2a uoc.1 pl y24 e25 _ _ _ _ _ _ _ _ _ _ _ p3 (u2e.ext z3) rfl (uoa.ext z3) (fs4.ext z3)) ?_
   rintro _ w4 ⟨S4, u2v, u2w, u2x, u2y, rfl, z4, p4, u2z, rfl⟩
   refine Hn 6 Jk0 ?_
   have p4 := p4.fr 14
   exact Gk (uox _ _ (Nat.lt_of_lt_of_eq l22 hn) h _ _ ((hx.t z3).t z4) _ _ _ _ _ _ _ _ _ p4 (f19.ext z4) u2z rfl (uoa.ext (z3.t z4)) (fs4.ext (z3.t z4)) hx5)
 exact fun a r h => main _ a r rfl h

def Jk9 := Yt 10 B177 [0, 1] (Ys 11 B177 [])

theorem W.z4k (u2l : List Int) (u2a : Nat) (pl : Z) (r : List Int) (h : M.a3f u2l u2a pl = some r) {nz wz S0 w0 Lr} (lx0 rx0 u27 u28 u2m u2n u2o u2p u29 uo4 Epl) (p0 : Hp nz wz S0 w0 ((some lx0, .obj (lpst 192 (lfr 13 [(2, (pt u28 0)), (6, .func (.func 177) #[] #[(pt u29 0)])] u27) #[7] (rfAssign (Q8a)) (rfBody (Q8a)) rx0 .ready none)) :: (some u28, .row 31 [.slice (Gp u2m) u2n u2o] 1 0) :: (u2m, .row 35 u2p (u2o * (kInt .u64).size) 0) :: (some u29, .row 123 [.map (some uo4)] 1 0) :: PL Epl (Lr))) (u2q : Els (kInt .u64) S0 w0 u2p u2l) (u2r : u2l.length = u2n) (uod : Pa 122 S0 u2a uo4) (fpl : PS S0 w0 Epl pl) :
  Calls Tryz.prog 177 #[yieldV lx0, (pt u29 0)] w0 (Rets (PermP (Post.z4k nz wz S0 w0 Lr lx0 rx0 u27 u28 u29 uo4 Epl u2a pl) r)) := by
 subst u2r
 refine Zf Tryz.f177 B177 12 ?_
 refine Gj 14 [(0, yieldV lx0), (1, (pt u29 0))] fun junk => ?_
 delta M.a3f at h
 refine Hn 2 Jk9 ?_
 refine Hd (p0.e 3 0) ?_
 refine Op_.rgM 123 (.tmp 4) 5 0 35 4 9 p0 rfl fpl.zf uod Goes.v (by kernel_rfl) (by kernel_rfl) fun r5 w2 es6 ck7 z2 p2 e9 f8 => ?_
 refine Hn 3 Jk0 ?_
 exact Gk (W.z4l lx0 rx0 u27 u28 u29 uo4 Epl _ _ h _ _ z2 _ _ _ _ _ _ _ _ _ p2 f8 (u2q.ext z2) rfl (uod.ext z2) (fpl.ext z2) e9)

def Post.z4m (u2s : Nat) (uoe : Nat) (Epl : ZE) (u2t : Nat) (pl : Z) (r : List Int) (v : Value) (w' : World) : Prop :=
 ∃ S' Gq nq cq csq, v = .slice (Gp Gq) nq cq ∧ Ext S0 w0 S' w' ∧ Hp nz wz S' w' ((Gq, .row 35 csq (cq * (kInt .u64).size) 0) :: (some u2s, .row 123 [.map (some uoe)] 1 0) :: PL Epl (Lr)) ∧ Els (kInt .u64) S' w' csq r ∧ r.length = nq

theorem W.z4m (u2t : Nat) (pl : Z) (r : List Int) (h : M.a3g u2t pl = some r) {nz wz S0 w0 Lr} (u2s uoe Epl) (p0 : Hp nz wz S0 w0 ((some u2s, .row 123 [.map (some uoe)] 1 0) :: PL Epl (Lr))) (uof : Pa 122 S0 u2t uoe) (fpl : PS S0 w0 Epl pl) :
  Calls Tryz.prog 192 #[.slice none 0 0, .func (.func 177) #[] #[(pt u2s 0)]] w0 (Rets (PermP (Post.z4m nz wz S0 w0 Lr u2s uoe Epl u2t pl) r)) := by
 refine Zf Tryz.f192 B192 11 ?_
 refine Gj 13 [(0, .slice none 0 0), (1, .func (.func 177) #[] #[(pt u2s 0)])] fun junk => ?_
 delta M.a3g at h
 refine Hn 2 Jal ?_
 refine Ob 31 (.tmp 0) 2 0 (.slice none 0 0) [.slice none 0 0] p0 Goes.v fun b2 w2 z2 p2 => ?_
 refine Hn 8 Jao ?_
 refine Gj 13 [(2, (pt b2 0)), (6, .func (.func 177) #[] #[(pt u2s 0)])] (fun u2u => ?_)
 refine Goes.rangeF (f := 192) (.tmp 6) #[7] 177 #[] #[(pt u2s 0)] (by kernel_rfl) (by kernel_rfl) (fun _ => by kernel_rfl) p2 fun r5 l6 w3 z3 p3 => ?_
 have p3 : Hp nz wz S0 w3 ((none, .row 35 [] (0 * (kInt .u64).size) 0) :: (some l6, .obj (lpst 192 (lfr 13 [(2, (pt b2 0)), (6, .func (.func 177) #[] #[(pt u2s 0)])] u2u) #[7] (rfAssign (Q8a)) (rfBody (Q8a)) r5 .ready none)) :: (some r5, .obj (.deferred (some []))) :: (some b2, .row 31 [.slice none 0 0] 1 0) :: (some u2s, .row 123 [.map (some uoe)] 1 0) :: PL Epl (Lr)) := p3.nilRow' 35
 have p3 := p3.rt 5 10
 have p3 := (((p3.fr 14).fr 11).fr 14).fr 13
 refine Gb h fun y10 e11 h => ?_
 refine ⟨_, W.z4k ([] : List Int) u2t pl y10 e11 _ _ _ _ none 0 0 [] _ _ _ p3 (Els.nil (K := (kInt .u64))) rfl (uof.ext (z2.t z3)) (fpl.ext (z2.t z3)), ?_⟩
 rintro _ w4 ⟨uog, uoh, S4, u2v, u2w, u2x, u2y, rfl, z4, p4, u2z, rfl⟩
 refine Goes.endF 0 p4 rfl rfl fun w5 z5 p5 => ?_
 replace p5 : Hp nz wz S4 w5 ((some b2, .row 31 [.slice (Gp u2v) uog.length u2x] 1 0) :: (u2v, .row 35 u2y (u2x * (kInt .u64).size) 0) :: (some u2s, .row 123 [.map (some uoe)] 1 0) :: PL Epl ((some r5, .obj (.deferred (some []))) :: Lr)) := (p5.front 0 _ rfl).drop
 show Goes _ _ Jan _ _ _
 refine Hn 3 Jaq ?_
 refine Hd (p5.e 0 0) ?_
 refine Hn 2 Jap ?_
 obtain rfl := sj h
 have p5 := p5.dp 0
 have p5 := p5.fr 12
 refine Goes.retL ?_
 refine lvs_mark 0 rfl rfl p5 rfl fun w6 z6 p6 => ?_
 replace p6 : Hp nz wz S4 w6 ((u2v, .row 35 u2y (u2x * (kInt .u64).size) 0) :: (some u2s, .row 123 [.map (some uoe)] 1 0) :: PL Epl (Lr)) := p6.drop
 exact lvs_done (fn := Tryz.f192) rfl rfl rfl rfl (by kernel_rfl) (v := .slice (Gp u2v) uog.length u2x) (by kernel_rfl) ⟨_, uoh, ⟨S4, u2v, uog.length, u2x, u2y, rfl, ((((z2.t z3).t z4).t z5).t z6), p6, (u2z.ext (z5.t z6)), rfl⟩⟩

def Post.z4n (u30 : Nat) (uoi : Nat) (Epl : ZE) (u31 : Nat) (pl : Z) (r : List Int) (v : Value) (w' : World) : Prop :=
 ∃ S' Gq nq cq csq, v = .slice (Gp Gq) nq cq ∧ Ext S0 w0 S' w' ∧ Hp nz wz S' w' ((Gq, .row 35 csq (cq * (kInt .u64).size) 0) :: (some u30, .row 123 [.map (some uoi)] 1 0) :: PL Epl (Lr)) ∧ Els (kInt .u64) S' w' csq r ∧ r.length = nq

theorem W.z4n (u31 : Nat) (pl : Z) (r : List Int) (h : M.a3h u31 pl = some r) {nz wz S0 w0 Lr} (u30 uoi Epl) (p0 : Hp nz wz S0 w0 ((some u30, .row 123 [.map (some uoi)] 1 0) :: PL Epl (Lr))) (uoj : Pa 122 S0 u31 uoi) (fpl : PS S0 w0 Epl pl) :
  Calls Tryz.prog 137 #[.func (.func 177) #[] #[(pt u30 0)]] w0 (Rets (PermP (Post.z4n nz wz S0 w0 Lr u30 uoi Epl u31 pl) r)) := by
 refine Zf Tryz.f137 B137 4 ?_
 refine Gj 5 [(0, .func (.func 177) #[] #[(pt u30 0)])] fun junk => ?_
 delta M.a3h at h
 refine Hn 7 Jas ?_
 refine Gb h fun y2 e3 h => ?_
 refine Gc (.call { callee := .value (.func 192), args := #[(.const (.slice none 0 0)), (.tmp 3)], argTypes := #[31, 141] }) 4 31 192 _ (W.z4m u31 pl y2 e3 _ _ _ p0 uoj fpl) ?_
 rintro _ w2 ⟨y2n, qy2, S2, ul, um, un, uo, rfl, z2, p2, up, rfl⟩
 refine Hn 2 Jar ?_
 obtain rfl := sj h
 exact Hr Tryz.f137 ⟨_, qy2, ⟨_, _, _, _, _, rfl, z2, p2, up, rfl⟩⟩

def Post.z4o (u30 : Nat) (uoi : Nat) (Epl : ZE) (u31 : Nat) (pl : Z) (r : List Int) (v : Value) (w' : World) : Prop :=
 ∃ S' Gq nq cq csq, v = .slice (Gp Gq) nq cq ∧ Ext S0 w0 S' w' ∧ Hp nz wz S' w' ((Gq, .row 35 csq (cq * (kInt .u64).size) 0) :: (some u30, .row 123 [.map (some uoi)] 1 0) :: PL Epl (Lr)) ∧ Els (kInt .u64) S' w' csq r ∧ r.length = nq

theorem W.z4o (u31 : Nat) (pl : Z) (r : List Int) (h : M.a2o u31 pl = some r) {nz wz S0 w0 Lr} (u30 uoi Epl) (p0 : Hp nz wz S0 w0 ((some u30, .row 123 [.map (some uoi)] 1 0) :: PL Epl (Lr))) (uoj : Pa 122 S0 u31 uoi) (fpl : PS S0 w0 Epl pl) :
  Calls Tryz.prog 79 #[.func (.func 177) #[] #[(pt u30 0)]] w0 (Rets (Post.z4o nz wz S0 w0 Lr u30 uoi Epl u31 pl r)) := by
 refine Zf Tryz.f79 B79 8 ?_
 refine Gj 9 [(0, .func (.func 177) #[] #[(pt u30 0)])] fun junk => ?_
 delta M.a2o at h
 refine Hn 7 Jjf ?_
 refine Gb h fun y2 e3 h => ?_
 refine Gc (kc 137 [4] #[141]) 5 31 137 _ (W.z4n u31 pl y2 e3 _ _ _ p0 uoj fpl) ?_
 rintro _ w2 ⟨y2n, qy2, S2, ul, um, un, uo, rfl, z2, p2, up, rfl⟩
 refine Hn 5 Jjh ?_
 refine Gb h fun y5 e6 h => ?_
 replace e6 := O.slices_Sort_uint64_uint64 qy2 e6
 refine Gc (kc 138 [6] #[31]) 7 0 138 _ (W.z48 y2n y5 e6 _ _ _ _ p2 up rfl) ?_
 rintro _ w3 ⟨S3, un3, rfl, z3, p3, uev, un4⟩
 refine Hn 6 Jji ?_
 obtain rfl := sj h
 exact Hr Tryz.f79 ⟨_, _, _, _, _, rfl, (z2.t z3), p3, uev, un4⟩

def Jka := Ys 111 B64 []
def Jkb := Yt 110 B64 [1, 2, 3] Jka

def Post.z4p (Epl : ZE) (pl : Z) (r : List Int) (v : Value) (w' : World) : Prop :=
 ∃ S' Gq nq cq csq, v = .slice (Gp Gq) nq cq ∧ Ext S0 w0 S' w' ∧ Hp nz wz S' w' ((Gq, .row 35 csq (cq * (kInt .u64).size) 0) :: PL Epl (Lr)) ∧ Els (kInt .u64) S' w' csq r ∧ r.length = nq

theorem W.z4p (x0 : Nat) (pl : Z) (r : List Int) (h : M.a2q x0 pl = some r) {nz wz S0 w0 Lr} (gx0 Epl) (p0 : Hp nz wz S0 w0 (PL Epl (Lr))) (fx0 : Pa 122 S0 x0 gx0) (fpl : PS S0 w0 Epl pl) :
  Calls Tryz.prog 64 #[.map (some gx0)] w0 (Rets (Post.z4p nz wz S0 w0 Lr Epl pl r)) := by
 refine Zf Tryz.f64 B64 5 ?_
 refine Gj 6 [(0, .map (some gx0))] fun junk => ?_
 delta M.a2q at h
 refine Hn 7 Jkb ?_
 refine Gb h fun y1 e2 h => ?_
 refine Gc (kc 119 [3] #[123]) 4 141 119 _ (W.z4i x0 pl y1 e2 _ _ p0 fx0 fpl) ?_
 rintro _ w2 ⟨S2, u32, uoy, rfl, z2, p2, uoz⟩
 refine Gb h fun y4 e5 h => ?_
 refine Gc (kc 79 [4] #[141]) 5 31 79 _ (W.z4o y1 pl y4 e5 _ _ _ p2 uoz (fpl.ext z2)) ?_
 rintro _ w3 ⟨S3, u1d, u1e, u1f, u1g, rfl, z3, p3, u1h, rfl⟩
 have p3 := p3.dp 1
 refine Hn 2 Jka ?_
 obtain rfl := sj h
 exact Hr Tryz.f64 ⟨_, _, _, _, _, rfl, (z2.t z3), p3, u1h, rfl⟩

def Jkc := Ys 1111111 B17 []
def Qgf := Yq 1111110100 B17
def Jke := Zl Qgf (Zb 2 Jkc)
def Jkf := Zc Qgf Jke
def Jkh := Yt 11111101000 B17 [0, 1] (Ys 11111101001 B17 Jke)
def Jki := Ys 11111111 B17 []
def Jkj := Yt 11111110 B17 [1, 2] Jki

def Post.z4q (r : (List Int) × Z) (v : Value) (w' : World) : Prop :=
 ∃ S' Gq nq cq csq Ee0, v = .slice (Gp Gq) nq cq ∧ Ext S0 w0 S' w' ∧ Hp nz wz S' w' ((Gq, .row 35 csq (cq * (kInt .u64).size) 0) :: PL Ee0 (Lr)) ∧ Els (kInt .u64) S' w' csq r.1 ∧ r.1.length = nq ∧ PS S' w' Ee0 r.2

def L.z4r : Nat × Z → ((List Int) × Z) → Prop := fun ⟨x8, e0⟩ r => ∀ S1 w1, Ext S0 w0 S1 w1 → ∀ gx8 up0 Ee0 (_ : Hp nz wz S1 w1 ((some up0, .obj (.mapIter none 0 #[] 0)) :: PL Ee0 (Lr))) (_ : Pa 122 S1 x8 gx8) (_ : PS S1 w1 Ee0 e0) (junk : Nat → Value),
 Goes Tryz.prog (base 17) Jkf ⟨lfr 56 [(8, .map (some gx8)), (41, (pt up0 0))] junk, []⟩ w1 (Done Tryz.prog 17 (Rets (Post.z4q nz wz S0 w0 Lr r)))

theorem W.z4r {nz wz S0 w0 Lr} : ∀ a r, M.a4i a = some r → L.z4r nz wz S0 w0 Lr a r := by
 intro ⟨x8, e0⟩ r h S1 w1 hx gx8 up0 Ee0 p1 fx8 fe0 junk
 rw [M.a4i] at h
 try dsimp only at h
 refine Hn 2 Jkh ?_
 refine Op_.nxN (.tmp 41) 42 0 0 up0 p1 rfl Goes.v (by kernel_rfl) ?_
 refine Hn 8 Jkj ?_
 have p1 := p1.rt 1 10
 refine Gb h fun up1 up2 h => ?_
 refine Gc (kc 64 [54] #[123]) 55 31 64 _ (W.z4p x8 e0 up1 up2 _ _ p1 fx8 fe0) ?_
 rintro _ w10 ⟨S10, up3, up4, up5, up6, rfl, z10, p10, up7, rfl⟩
 have p10 := p10.dp 11
 refine Hn 2 Jki ?_
 obtain rfl := sj h
 exact Hr Tryz.f17 ⟨_, _, _, _, _, _, rfl, (hx.t z10), p10, up7, rfl, (fe0.ext z10)⟩

def Jkk := Ys 11111101 B17 Jkc

def L.z4s : Nat × Z → ((List Int) × Z) → Prop := fun ⟨x8, e0⟩ r => ∀ S1 w1, Ext S0 w0 S1 w1 → ∀ gx8 up0 Ee0 (_ : Hp nz wz S1 w1 ((some up0, .obj (.mapIter none 0 #[] 0)) :: PL Ee0 (Lr))) (_ : Pa 122 S1 x8 gx8) (_ : PS S1 w1 Ee0 e0) (junk : Nat → Value),
 Goes Tryz.prog (base 17) Jkk ⟨lfr 56 [(8, .map (some gx8)), (41, (pt up0 0))] junk, []⟩ w1 (Done Tryz.prog 17 (Rets (Post.z4q nz wz S0 w0 Lr r)))

theorem W.z4s {nz wz S0 w0 Lr} : ∀ a r, M.a4j a = some r → L.z4s nz wz S0 w0 Lr a r := by
 intro ⟨x8, e0⟩ r h S1 w1 hx gx8 up0 Ee0 p1 fx8 fe0 junk
 rw [M.a4j] at h
 try dsimp only at h
 refine Hn 2 Jkf ?_
 exact Gk (W.z4r _ _ h _ _ hx _ _ _ p1 fx8 fe0)

def Jkl := Zb 3 Jke
def Jkm := Ys 111111010011011 B17 Jkl
def Qgm := Yq 11111101001101100 B17
def Jko := Zl Qgm (Zb 4 Jkl)
def Jkp := Zc Qgm Jko
def Jku := Yt 111111010011011000 B17 [0, 1] (Ys 111111010011011001 B17 Jko)
def Jkv := Zb 5 Jko
def Qgs := Yq 111111010011011001101 B17

def L.z4t : Nat × Nat × (List (ByteArray × (Option Nat))) × Z → ((List Int) × Z) → Prop := fun ⟨x8, up8, x41, e0⟩ r => ∀ S1 w1, Ext S0 w0 S1 w1 → ∀ gx8 up0 up9 upa upb upc Ee0 (_ : Hp nz wz S1 w1 ((some up0, .obj (.mapIter (some up9) upb upc upb)) :: PL Ee0 (Lr))) (_ : Pa 122 S1 x8 gx8) (_ : It Value.string (kMp 122) S1 w1 upa upb upc x41) (_ : PS S1 w1 Ee0 e0) (_ : Ee0.ze[up8]? = some (up9, .map upa upb)) (junk : Nat → Value),
 Goes Tryz.prog (base 17) Jkf ⟨lfr 56 [(8, .map (some gx8)), (41, (pt up0 0))] junk, []⟩ w1 (Done Tryz.prog 17 (Rets (Post.z4q nz wz S0 w0 Lr r)))

def L.z4u : Nat × Nat × (List (ByteArray × (Option Nat))) × Z → ((List Int) × Z) → Prop := fun ⟨x8, up8, x41, e0⟩ r => ∀ S1 w1, Ext S0 w0 S1 w1 → ∀ gx8 up0 up9 upa upb upc upe Ee0 (_ : Hp nz wz S1 w1 ((some up0, .obj (.mapIter (some up9) upb upc upb)) :: (some upe, .obj (.mapIter none 0 #[] 0)) :: PL Ee0 (Lr))) (_ : Pa 122 S1 x8 gx8) (_ : It Value.string (kMp 122) S1 w1 upa upb upc x41) (_ : PS S1 w1 Ee0 e0) (_ : Ee0.ze[up8]? = some (up9, .map upa upb)) (junk : Nat → Value),
 Goes Tryz.prog (base 17) Jkm ⟨lfr 56 [(8, .map (some gx8)), (41, (pt up0 0)), (47, (pt upe 0))] junk, []⟩ w1 (Done Tryz.prog 17 (Rets (Post.z4q nz wz S0 w0 Lr r)))

def L.z4v : Nat × Nat × (List (ByteArray × (Option Nat))) × Z → ((List Int) × Z) → Prop := fun ⟨x8, up8, x41, e0⟩ r => ∀ S1 w1, Ext S0 w0 S1 w1 → ∀ gx8 up0 up9 upa upb upc upe Ee0 (_ : Hp nz wz S1 w1 ((some up0, .obj (.mapIter (some up9) upb upc upb)) :: (some upe, .obj (.mapIter none 0 #[] 0)) :: PL Ee0 (Lr))) (_ : Pa 122 S1 x8 gx8) (_ : It Value.string (kMp 122) S1 w1 upa upb upc x41) (_ : PS S1 w1 Ee0 e0) (_ : Ee0.ze[up8]? = some (up9, .map upa upb)) (junk : Nat → Value),
 Goes Tryz.prog (base 17) Jkp ⟨lfr 56 [(8, .map (some gx8)), (41, (pt up0 0)), (47, (pt upe 0))] junk, []⟩ w1 (Done Tryz.prog 17 (Rets (Post.z4q nz wz S0 w0 Lr r)))

def L.z4w : Nat × Nat × (List (ByteArray × (Option Nat))) × Nat × (List (Int × Bool)) × Z → ((List Int) × Z) → Prop := fun ⟨x8, up8, x41, upf, x47, e0⟩ r => ∀ S1 w1, Ext S0 w0 S1 w1 → ∀ gx8 up0 up9 upa upb upc upe upg uph upi upj Ee0 (_ : Hp nz wz S1 w1 ((some up0, .obj (.mapIter (some up9) upb upc upb)) :: (some upe, .obj (.mapIter (some upg) upi upj upi)) :: PL Ee0 (Lr))) (_ : Pa 122 S1 x8 gx8) (_ : It Value.string (kMp 122) S1 w1 upa upb upc x41) (_ : It (Value.int .u64) kBool S1 w1 uph upi upj x47) (_ : PS S1 w1 Ee0 e0) (_ : Ee0.ze[up8]? = some (up9, .map upa upb)) (_ : Ee0.zf[upf]? = some (upg, .map uph upi)) (junk : Nat → Value),
 Goes Tryz.prog (base 17) Jkm ⟨lfr 56 [(8, .map (some gx8)), (41, (pt up0 0)), (47, (pt upe 0))] junk, []⟩ w1 (Done Tryz.prog 17 (Rets (Post.z4q nz wz S0 w0 Lr r)))

def L.z4x : Nat × Nat × (List (ByteArray × (Option Nat))) × Nat × (List (Int × Bool)) × Z → ((List Int) × Z) → Prop := fun ⟨x8, up8, x41, upf, x47, e0⟩ r => ∀ S1 w1, Ext S0 w0 S1 w1 → ∀ gx8 up0 up9 upa upb upc upe upg uph upi upj Ee0 (_ : Hp nz wz S1 w1 ((some up0, .obj (.mapIter (some up9) upb upc upb)) :: (some upe, .obj (.mapIter (some upg) upi upj upi)) :: PL Ee0 (Lr))) (_ : Pa 122 S1 x8 gx8) (_ : It Value.string (kMp 122) S1 w1 upa upb upc x41) (_ : It (Value.int .u64) kBool S1 w1 uph upi upj x47) (_ : PS S1 w1 Ee0 e0) (_ : Ee0.ze[up8]? = some (up9, .map upa upb)) (_ : Ee0.zf[upf]? = some (upg, .map uph upi)) (junk : Nat → Value),
 Goes Tryz.prog (base 17) Jkp ⟨lfr 56 [(8, .map (some gx8)), (41, (pt up0 0)), (47, (pt upe 0))] junk, []⟩ w1 (Done Tryz.prog 17 (Rets (Post.z4q nz wz S0 w0 Lr r)))

theorem W.z4y {nz wz S0 w0 Lr} : (∀ a r, M.a1 a = some r → L.z4t nz wz S0 w0 Lr a r) ∧ (∀ a r, M.a2 a = some r → L.z4x nz wz S0 w0 Lr a r) ∧ (∀ a r, M.ao a = some r → L.z4v nz wz S0 w0 Lr a r) ∧ (∀ a r, M.ae a = some r → L.z4w nz wz S0 w0 Lr a r) ∧ (∀ a r, M.ad a = some r → L.z4u nz wz S0 w0 Lr a r) := by
 have main : ∀ n0, (∀ a r, List.length a.2.2.1 = n0 → M.a1 a = some r → L.z4t nz wz S0 w0 Lr a r) ∧ (∀ a r, List.length a.2.2.1 = n0 → M.a2 a = some r → L.z4x nz wz S0 w0 Lr a r) ∧ (∀ a r, List.length a.2.2.1 = n0 → M.ao a = some r → L.z4v nz wz S0 w0 Lr a r) ∧ (∀ a r, List.length a.2.2.1 = n0 → M.ae a = some r → L.z4w nz wz S0 w0 Lr a r) ∧ (∀ a r, List.length a.2.2.1 = n0 → M.ad a = some r → L.z4u nz wz S0 w0 Lr a r) := by
  intro n0
  induction n0 using Nat.strongRecOn with
  | _ n0 ih0 =>
  have ho : ∀ a r, List.length a.2.2.1 = n0 → M.a1 a = some r → L.z4t nz wz S0 w0 Lr a r := by
   have upk : ∀ a r, List.length a.2.2.1 < n0 → M.a1 a = some r → L.z4t nz wz S0 w0 Lr a r := fun a r hl h => (ih0 _ hl).1 a r rfl h
   have upl : ∀ a r, List.length a.2.2.1 < n0 → M.a2 a = some r → L.z4x nz wz S0 w0 Lr a r := fun a r hl h => (ih0 _ hl).2.1 a r rfl h
   have upm : ∀ a r, List.length a.2.2.1 < n0 → M.ao a = some r → L.z4v nz wz S0 w0 Lr a r := fun a r hl h => (ih0 _ hl).2.2.1 a r rfl h
   have upn : ∀ a r, List.length a.2.2.1 < n0 → M.ae a = some r → L.z4w nz wz S0 w0 Lr a r := fun a r hl h => (ih0 _ hl).2.2.2.1 a r rfl h
   have upo : ∀ a r, List.length a.2.2.1 < n0 → M.ad a = some r → L.z4u nz wz S0 w0 Lr a r := fun a r hl h => (ih0 _ hl).2.2.2.2 a r rfl h
   intro ⟨x8, up8, x41, e0⟩ r hn h S1 w1 hx gx8 up0 up9 upa upb upc Ee0 p1 fx8 upp fe0 upq junk
   try dsimp only at hn
   refine Hn 2 Jkh ?_
   skip
   refine Op_.nxM (.tmp 41) 42 0 0 up0 p1 rfl (p1.poolGet 5 rfl upq) upp Goes.v (by kernel_rfl) ?_ ?_
   ·
    intro upr; subst upr; rw [M.a1] at h; try dsimp only at h
    refine Hn 8 Jkj ?_
    have p1 := p1.rt 1 10
    refine Gb h fun ups uei h => ?_
    refine Gc (kc 64 [54] #[123]) 55 31 64 _ (W.z4p x8 e0 ups uei _ _ p1 fx8 fe0) ?_
    rintro _ w12 ⟨S12, u9r, u9s, u9t, u9u, rfl, z12, p12, u9v, rfl⟩
    have p12 := p12.dp 11
    refine Hn 2 Jki ?_
    obtain rfl := sj h
    exact Hr Tryz.f17 ⟨_, _, _, _, _, _, rfl, (hx.t z12), p12, u9v, rfl, (fe0.ext z12)⟩
   ·
    intro upt upu ue9 uh7 w11 z11 p11 uh9 upv upw
    rw [O.inv_Index_List_l5 x8 up8 e0 _ _ (pick_perm x41 upt upu)] at h; rw [M.a1] at h; try dsimp only at h
    have upx : (List.eraseIdx x41 upt).length < x41.length := by rw [List.length_eraseIdx_of_lt upu]; omega
    generalize List.eraseIdx x41 upt = upy at h uh9 upx
    generalize x41[upt]'(by exact upu) = upz at h upv upw
    have ueg := one_mp upw
    refine Hn 8 (Yt 11111101001100 B17 [0, 1, 2] (Ys 11111101001101 B17 Jkl)) ?_
    refine Op_.enM (.tmp 41) 44 0 0 up0 p11 rfl (p11.poolGet 5 rfl upq) uh9.nd upv Goes.v (by kernel_rfl) ?_
    refine Hn 6 (Yt 111111010011010 B17 [1] Jkm) ?_
    refine Gl h fun ub0 uq0 h => ?_
    rcases ub0 with _ | uq1
    ·
     try dsimp only at h
     obtain rfl := MpO.nil ueg uq0
     refine Op_.rgN 123 (.tmp 46) 47 0 35 4 p11 Goes.v (by kernel_rfl) (by kernel_rfl) fun uq2 w13 z13 p13 => ?_
     refine Hn 1 Jkm ?_
     have p13 := p13.rt 2 10
     have p13 := (p13.fr 10).fr 11
     exact Gk (upo _ _ (Nat.lt_of_lt_of_eq upx hn) h _ _ ((hx.t z11).t z13) _ _ _ _ _ _ _ _ p13 (fx8.ext (z11.t z13)) (uh9.ext z13) (fe0.ext (z11.t z13)) upq)
    ·
     try dsimp only at h
     obtain ⟨uq3, rfl, uam⟩ := MpO.got ueg uq0
     refine Gg h fun uq4 h => ?_
     refine Op_.rgM 123 (.tmp 46) 47 0 35 4 6 p11 rfl (fe0.zf.ext z11) uam Goes.v (by kernel_rfl) (by kernel_rfl) fun uq5 w14 uq6 uq7 z14 p14 uhq uq8 => ?_
     refine Hn 1 Jkm ?_
     have p14 := p14.rt 2 10
     have p14 := (p14.fr 10).fr 11
     exact Gk (upn _ _ (Nat.lt_of_lt_of_eq upx hn) h _ _ ((hx.t z11).t z14) _ _ _ _ _ _ _ _ _ _ _ _ p14 (fx8.ext (z11.t z14)) (uh9.ext z14) uq8 (fe0.ext (z11.t z14)) upq uhq)
  have hi : ∀ a r, List.length a.2.2.1 = n0 → M.a2 a = some r → L.z4x nz wz S0 w0 Lr a r := by
   have mi : ∀ n1 a r, List.length a.2.2.1 = n0 → List.length a.2.2.2.2.1 = n1 → M.a2 a = some r → L.z4x nz wz S0 w0 Lr a r := by
    intro n1
    induction n1 using Nat.strongRecOn with
    | _ n1 ih1 =>
    have upl : ∀ a r, List.length a.2.2.1 = n0 → List.length a.2.2.2.2.1 < n1 → M.a2 a = some r → L.z4x nz wz S0 w0 Lr a r := fun a r hl hl1 h => ih1 _ hl1 a r hl rfl h
    have upk := ho
    intro ⟨x8, up8, x41, upf, x47, e0⟩ r hn0 hn h S1 w1 hx gx8 up0 up9 upa upb upc upe upg uph upi upj Ee0 p1 fx8 upp uq9 fe0 upq uqa junk
    try dsimp only at hn0 hn
    refine Hn 2 Jku ?_
    skip
    refine Op_.nxM (.tmp 47) 48 0 1 upe p1 rfl (p1.poolGet 7 rfl uqa) uq9 Goes.v (by kernel_rfl) ?_ ?_
    ·
     intro uqb; subst uqb; rw [M.a2] at h; try dsimp only at h
     refine Hn 7 Jkf ?_
     have p1 := p1.dp 1
     exact Gk (upk _ _ hn0 h _ _ hx _ _ _ _ _ _ _ p1 fx8 upp fe0 upq)
    ·
     intro uqc uqd uhz uqe w15 z15 p15 uqf uqg uqh
     rw [O.inv_Index_List_l9 x8 up8 x41 upf e0 _ _ (pick_perm x47 uqc uqd)] at h; rw [M.a2] at h; try dsimp only at h
     have uqi : (List.eraseIdx x47 uqc).length < x47.length := by rw [List.length_eraseIdx_of_lt uqd]; omega
     generalize List.eraseIdx x47 uqc = uqj at h uqf uqi
     generalize x47[uqc]'(by exact uqd) = uqk at h uqg uqh
     obtain rfl := one_bool uqh
     refine Hn 8 (Yt 111111010011011001100 B17 [0, 1, 2] (Zc Qgs Jkv)) ?_
     refine Op_.enM (.tmp 47) 50 0 1 upe p15 rfl (p15.poolGet 7 rfl uqa) uqf.nd uqg Goes.v (by kernel_rfl) ?_
     refine Hn 6 (Zr Qgs [2] Jkv) ?_
     refine Gg h fun ucm h => ?_
     refine Op_.deM 123 35 (.tmp 52) (.tmp 53) 0 35 4 7 uqk.1 (sn e0.zf x8 (mdel (gn e0.zf x8) uqk.1)) p15 rfl (fe0.zf.ext z15) (fx8.ext z15) (Goes.v0s (by kernel_rfl)) (by kernel_rfl) (by kernel_rfl) (by kernel_rfl) (kok_int (by kernel_rfl)) rfl fun w16 uql z16 p16 uqm ubk => ?_
     have uco := it_ne ubk ucm uqa
     refine Hn 3 Jkp ?_
     exact Gk (upl _ _ hn0 (Nat.lt_of_lt_of_eq uqi hn) h _ _ ((hx.t z15).t z16) _ _ _ _ _ _ _ _ _ _ _ ({Ee0 with zf := uql}) p16 (fx8.ext (z15.t z16)) (upp.ext (z15.t z16)) (uqf.ext z16) (PS.uzf (fe0.ext (z15.t z16)) uqm) upq uco)
   exact fun a r hl h => mi _ a r hl rfl h
  have hm0 : ∀ a r, List.length a.2.2.1 = n0 → M.ao a = some r → L.z4v nz wz S0 w0 Lr a r := by
   have upk := ho
   have upl := hi
   intro ⟨x8, up8, x41, e0⟩ r hn h S1 w1 hx gx8 up0 up9 upa upb upc upe Ee0 p1 fx8 upp fe0 upq junk
   rw [M.ao] at h
   try dsimp only at h hn
   refine Hn 2 Jku ?_
   refine Op_.nxN (.tmp 47) 48 0 1 upe p1 rfl Goes.v (by kernel_rfl) ?_
   refine Hn 7 Jkf ?_
   have p1 := p1.dp 1
   exact Gk (upk _ _ hn h _ _ hx _ _ _ _ _ _ _ p1 fx8 upp fe0 upq)
  have hm1 : ∀ a r, List.length a.2.2.1 = n0 → M.ae a = some r → L.z4w nz wz S0 w0 Lr a r := by
   have upk := ho
   have upl := hi
   have upm := hm0
   intro ⟨x8, up8, x41, upf, x47, e0⟩ r hn h S1 w1 hx gx8 up0 up9 upa upb upc upe upg uph upi upj Ee0 p1 fx8 upp uq9 fe0 upq uqa junk
   rw [M.ae] at h
   try dsimp only at h hn
   refine Hn 2 Jkp ?_
   exact Gk (upl _ _ hn h _ _ hx _ _ _ _ _ _ _ _ _ _ _ _ p1 fx8 upp uq9 fe0 upq uqa)
  have hm2 : ∀ a r, List.length a.2.2.1 = n0 → M.ad a = some r → L.z4u nz wz S0 w0 Lr a r := by
   have upk := ho
   have upl := hi
   have upm := hm0
   have upn := hm1
   intro ⟨x8, up8, x41, e0⟩ r hn h S1 w1 hx gx8 up0 up9 upa upb upc upe Ee0 p1 fx8 upp fe0 upq junk
   rw [M.ad] at h
   try dsimp only at h hn
   refine Hn 2 Jkp ?_
   exact Gk (upm _ _ hn h _ _ hx _ _ _ _ _ _ _ _ p1 fx8 upp fe0 upq)
  exact ⟨ho, hi, hm0, hm1, hm2⟩
 exact ⟨fun a r h => (main _).1 a r rfl h, fun a r h => (main _).2.1 a r rfl h, fun a r h => (main _).2.2.1 a r rfl h, fun a r h => (main _).2.2.2.1 a r rfl h, fun a r h => (main _).2.2.2.2 a r rfl h⟩

theorem W.z4t {nz wz S0 w0 Lr} : ∀ a r, M.a1 a = some r → L.z4t nz wz S0 w0 Lr a r := (W.z4y).1

theorem W.z4x {nz wz S0 w0 Lr} : ∀ a r, M.a2 a = some r → L.z4x nz wz S0 w0 Lr a r := (W.z4y).2.1

theorem W.z4v {nz wz S0 w0 Lr} : ∀ a r, M.ao a = some r → L.z4v nz wz S0 w0 Lr a r := (W.z4y).2.2.1

theorem W.z4w {nz wz S0 w0 Lr} : ∀ a r, M.ae a = some r → L.z4w nz wz S0 w0 Lr a r := (W.z4y).2.2.2.1

theorem W.z4u {nz wz S0 w0 Lr} : ∀ a r, M.ad a = some r → L.z4u nz wz S0 w0 Lr a r := (W.z4y).2.2.2.2

def L.z4z : Nat × Nat × (List (ByteArray × (Option Nat))) × Z → ((List Int) × Z) → Prop := fun ⟨x8, up8, x41, e0⟩ r => ∀ S1 w1, Ext S0 w0 S1 w1 → ∀ gx8 up0 up9 upa upb upc Ee0 (_ : Hp nz wz S1 w1 ((some up0, .obj (.mapIter (some up9) upb upc upb)) :: PL Ee0 (Lr))) (_ : Pa 122 S1 x8 gx8) (_ : It Value.string (kMp 122) S1 w1 upa upb upc x41) (_ : PS S1 w1 Ee0 e0) (_ : Ee0.ze[up8]? = some (up9, .map upa upb)) (junk : Nat → Value),
 Goes Tryz.prog (base 17) Jkk ⟨lfr 56 [(8, .map (some gx8)), (41, (pt up0 0))] junk, []⟩ w1 (Done Tryz.prog 17 (Rets (Post.z4q nz wz S0 w0 Lr r)))

theorem W.z4z {nz wz S0 w0 Lr} : ∀ a r, M.a4k a = some r → L.z4z nz wz S0 w0 Lr a r := by
 intro ⟨x8, up8, x41, e0⟩ r h S1 w1 hx gx8 up0 up9 upa upb upc Ee0 p1 fx8 upp fe0 upq junk
 rw [M.a4k] at h
 try dsimp only at h
 refine Hn 2 Jkf ?_
 exact Gk (W.z4t _ _ h _ _ hx _ _ _ _ _ _ _ p1 fx8 upp fe0 upq)

def Jkz := Ys 111111 B17 []
def Qgv := Yq 111110100 B17
def Jl1 := Zl Qgv (Zb 0 Jkz)
def Jl2 := Zc Qgv Jl1
def Jl6 := Zb 1 (Ys 111110100111 B17 Jl1)
def Qgz := Yq 11111010011001 B17
def Qh1 := Yq 11111100 B17

def L.z50 : (Option Nat) × Nat × (List Int) × Int × Int × Z → ((List Int) × Z) → Prop := fun ⟨x7, x8, x28, x29, x30, e0⟩ r => ∀ S1 w1, Ext S0 w0 S1 w1 → ∀ vx7 gx8 uqn uqo uqp uqq Ee0 (_ : Hp nz wz S1 w1 ((uqn, .row 35 uqq (uqp * (kInt .u64).size) 0) :: PL Ee0 (Lr))) (_ : PpO 126 S1 vx7 x7) (_ : Pa 122 S1 x8 gx8) (_ : Els (kInt .u64) S1 w1 uqq x28) (_ : x28.length = uqo) (_ : PS S1 w1 Ee0 e0) (junk : Nat → Value),
 Goes Tryz.prog (base 17) Jl2 ⟨lfr 56 [(7, vx7), (8, .map (some gx8)), (28, .slice (Gp uqn) uqo uqp), (29, .i x29), (30, .i x30)] junk, []⟩ w1 (Done Tryz.prog 17 (Rets (Post.z4q nz wz S0 w0 Lr r)))

theorem W.z50 {nz wz S0 w0 Lr} : ∀ a r, M.a1o a = some r → (L.z50 nz wz S0 w0 Lr) a r := by
 refine M.a1o.partial_correctness (motive := (L.z50 nz wz S0 w0 Lr)) ?_
 intro uqr uqs ⟨x7, x8, x28, x29, x30, e0⟩ r h S1 w1 hx vx7 gx8 uqn uqo uqp uqq Ee0 p1 fx7 fx8 uqt uqu fe0 junk
 try dsimp only at h
 subst uqu
 refine Hn 5 (Ys 11111010010 B17 (Ys 11111010011 B17 Jl1)) ?_
 refine Hb [(31, .bool (decide (x30 < x29)))] ?_
 refine Gi h (fun h51 h => ?_) fun h51 h => ?_
 ·
  rw [dt h51]
  refine Hn 6 (Yt 11111010011000 B17 [0, 1, 2] (Zc Qgz Jl6)) ?_
  refine Gg h fun g52 h => ?_
  refine Gg h fun g53 h => ?_
  refine Op_.ixO_n 31 (.tmp 28) (.tmp 30) 32 0 35 .i64 x30 0 x28.length uqp (gi x28 x30) rfl rfl p1 rfl uqt Goes.v (by kernel_rfl) (by kernel_rfl) (by kernel_rfl) (by kernel_rfl) (by decide) g52 g53 ?_
  rintro b54 _ rfl q56 f55
  obtain rfl := q56
  refine Hd (f55 0 _ rfl) ?_
  refine Hn 5 (Zr Qgz [2] Jl6) ?_
  refine Gl h fun v58 e59 h => ?_
  refine Op_.muM 123 (.tmp 34) (.tmp 35) (.const (.bool true)) 0 35 4 6 (gi x28 x30) (.bool true) true v58 p1 rfl fe0.zf fx8 Goes.s (by kernel_rfl) (by kernel_rfl) (by kernel_rfl) (by kernel_rfl) (kok_int (by kernel_rfl)) rfl e59 fun w7 E60 z7 p7 f61 e62 => ?_
  refine Hn 7 Jl2 ?_
  exact Gk (uqs _ _ h _ _ (hx.t z7) _ _ (some b54) _ _ _ ({Ee0 with zf := E60}) p7 (fx7.ext z7) (fx8.ext z7) (uqt.ext z7) rfl (PS.uzf (fe0.ext z7) f61))
 ·
  rw [df h51]
  refine Hn 6 (Zr Qh1 [1, 2, 3, 4] Jkk) ?_
  refine Gl h fun v99 h63 h => ?_
  rcases v99 with _ | y64
  ·
   try dsimp only at h
   obtain rfl := PpO.nil fx7 h63
   cases h
  ·
   try dsimp only at h
   obtain ⟨g65, rfl, f66⟩ := PpO.got fx7 h63
   refine Hn 2 (Zr Qh1 [3, 4] Jkk) ?_
   obtain ⟨uqv, q68, l69, e70, f71⟩ := Pl.row p1 8 rfl fe0.zh f66
   obtain ⟨_, _, rfl, q74, ⟨_, _, rfl, q77, ⟨_, _, rfl, q80, ⟨_, _, rfl, q83, ⟨_, _, rfl, rfl, rfl⟩⟩⟩⟩⟩ := q68
   obtain ⟨v72, rfl, f73⟩ := kMp_one (w := w1) q74
   obtain ⟨v75, rfl, f76⟩ := kMp_one (w := w1) q77
   obtain ⟨v78, rfl, f79⟩ := kMp_one (w := w1) q80
   obtain ⟨v81, rfl, f82⟩ := kPp_one (w := w1) q83
   refine Hd (f71 0 _ rfl) ?_
   refine Gl h fun v98 h84 h => ?_
   rcases v98 with _ | y85
   ·
    try dsimp only at h
    obtain rfl := MpO.nil f73 h84
    refine Op_.rgN 121 (.tmp 40) 41 0 9 123 p1 Goes.v (by kernel_rfl) (by kernel_rfl) fun r88 w8 z8 p8 => ?_
    refine Hn 1 Jkk ?_
    have p8 := p8.dp 1
    exact Gk (W.z4s _ _ h _ _ (hx.t z8) _ _ _ p8 (fx8.ext z8) (fe0.ext z8))
   ·
    try dsimp only at h
    obtain ⟨g86, rfl, f87⟩ := MpO.got f73 h84
    refine Op_.rgM 121 (.tmp 40) 41 0 9 123 5 p1 rfl fe0.ze f87 Goes.v (by kernel_rfl) (by kernel_rfl) fun r91 w9 uqw uqx z9 p9 e95 f94 => ?_
    refine Hn 1 Jkk ?_
    have p9 := p9.dp 1
    exact Gk (W.z4z _ _ h _ _ (hx.t z9) _ _ _ _ _ _ _ p9 (fx8.ext z9) f94 (fe0.ext z9) e95)

end

end Go.Gx
