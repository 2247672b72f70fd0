import Derived.Test.YtdccklkdakfnaaaGreatWGld

set_option linter.unusedVariables false

set_option linter.unusedSimpArgs false

set_option maxRecDepth 100000

set_option maxHeartbeats 4000000

namespace Go.Gx

open Go.RowKit Go.Proofs

variable (nz : Nat) (wz : World) (S0 : Fz) (w0 : World) (Lr : List Ent)

noncomputable section

def Qxe := Yq 11111110100 B6
def J155 := Zl Qxe (Zb 0 (Ys 11111111 B6 []))
def J156 := Zc Qxe J155
def J158 := Ys 1111111010001 B6 (Ys 111111101001 B6 J155)
def J15a := Zb 1 (Ys 1111111010011 B6 J155)
def Qxj := Yq 1111111010010011110100 B6
def J15d := Zl Qxj (Zb 2 (Ys 1111111010010011111 B6 J15a))
def J15e := Zc Qxj J15d
def J15f := Ys 111111101001001111111 B6 J15a
def J15n := Ys 111111111 B6 []
def Qxt := Yq 111111110 B6
def J15r := Ys 11111111111 B6 []
def Qxy := Yq 1111111110100 B6
def J15z := Zb 3 (Ys 111111101001001111010011 B6 J15d)
def Qy2 := Yq 1111111010010011110100100 B6
def J162 := Ys 11111110100100111111 B6 J15a
def Qy4 := Yq 11111110100100111110 B6

def L.z6q : (List ByteArray) × T29 × Nat × (List Int) × (List Int) × Int × (List (List (ByteArray × (List Int)))) → (Bool × (List (List (ByteArray × (List Int))))) → Prop := fun ⟨x1, x2v, urr, x7, x8, x9, e0⟩ r => ∀ S1 w1, Ext S0 w0 S1 w1 → ∀ Ax1 nx1 cx1 gx2 u6o u6p u6q u6r urs gx6 urt Gx7 nx7 cx7 uc7 Gx8 nx8 cx8 urc Ee0 (_ : Hp nz wz S1 w1 ((some gx2, .row 30 (vT29 x2v (Gp u6o) u6p u6q) 3 0) :: (u6o, .row 30 u6r (u6q * kT29.size) urs) :: (some gx6, .row 158 [.map (some urt)] 1 0) :: (Gx7, .row 22 uc7 (cx7 * (kInt .u64).size) 0) :: (Gx8, .row 22 urc (cx8 * (kInt .u64).size) 0) :: (none, .seg 154 Ee0) :: Lr)) (_ : Rd kStr S1 w1 Ax1 cx1 x1) (_ : x1.length = nx1) (_ : Els kT29 S1 w1 u6r x2v.L) (_ : x2v.L.length = u6p) (_ : Pa 154 S1 urr urt) (_ : Els (kInt .u64) S1 w1 uc7 x7) (_ : x7.length = nx7) (_ : Els (kInt .u64) S1 w1 urc x8) (_ : x8.length = nx8) (_ : Pl (oMap Value.string (kSl (kInt .u64))) S1 w1 Ee0 e0) (junk : Nat → Value),
 Goes Tryz.prog (base 6) J156 ⟨lfr 122 [(1, .slice Ax1 nx1 cx1), (2, (pt gx2 0)), (6, (pt gx6 0)), (7, .slice (Gp Gx7) nx7 cx7), (8, .slice (Gp Gx8) nx8 cx8), (9, .i x9)] junk, []⟩ w1 (Done Tryz.prog 6 (Rets (Post.z6n nz wz S0 w0 Lr r)))

def L.z6r : (List ByteArray) × T29 × Nat × (List Int) × (List Int) × Int × Bool × (List (List (ByteArray × (List Int)))) → (Bool × (List (List (ByteArray × (List Int))))) → Prop := fun ⟨x1, x2v, urr, x7, x8, x9, x33, e0⟩ r => ∀ S1 w1, Ext S0 w0 S1 w1 → ∀ Ax1 nx1 cx1 gx2 u6o u6p u6q u6r urs gx6 urt Gx7 nx7 cx7 uc7 Gx8 nx8 cx8 urc Ee0 (_ : Hp nz wz S1 w1 ((some gx2, .row 30 (vT29 x2v (Gp u6o) u6p u6q) 3 0) :: (u6o, .row 30 u6r (u6q * kT29.size) urs) :: (some gx6, .row 158 [.map (some urt)] 1 0) :: (Gx7, .row 22 uc7 (cx7 * (kInt .u64).size) 0) :: (Gx8, .row 22 urc (cx8 * (kInt .u64).size) 0) :: (none, .seg 154 Ee0) :: Lr)) (_ : Rd kStr S1 w1 Ax1 cx1 x1) (_ : x1.length = nx1) (_ : Els kT29 S1 w1 u6r x2v.L) (_ : x2v.L.length = u6p) (_ : Pa 154 S1 urr urt) (_ : Els (kInt .u64) S1 w1 uc7 x7) (_ : x7.length = nx7) (_ : Els (kInt .u64) S1 w1 urc x8) (_ : x8.length = nx8) (_ : Pl (oMap Value.string (kSl (kInt .u64))) S1 w1 Ee0 e0) (junk : Nat → Value),
 Goes Tryz.prog (base 6) J158 ⟨lfr 122 [(1, .slice Ax1 nx1 cx1), (2, (pt gx2 0)), (6, (pt gx6 0)), (7, .slice (Gp Gx7) nx7 cx7), (8, .slice (Gp Gx8) nx8 cx8), (9, .i x9), (33, .bool x33)] junk, []⟩ w1 (Done Tryz.prog 6 (Rets (Post.z6n nz wz S0 w0 Lr r)))

def L.z6s : (List ByteArray) × T29 × Nat × (List Int) × (List Int) × Int × ByteArray × Int × (List ByteArray) × Int × (List (List (ByteArray × (List Int)))) → (Bool × (List (List (ByteArray × (List Int))))) → Prop := fun ⟨x1, x2v, urr, x7, x8, x9, x10, x11, x12, x13, e0⟩ r => ∀ S1 w1, Ext S0 w0 S1 w1 → ∀ Ax1 nx1 cx1 gx2 u6o u6p u6q u6r urs gx6 urt Gx7 nx7 cx7 uc7 Gx8 nx8 cx8 urc uru urv urw urx Ee0 (_ : Hp nz wz S1 w1 ((some gx2, .row 30 (vT29 x2v (Gp u6o) u6p u6q) 3 0) :: (u6o, .row 30 u6r (u6q * kT29.size) urs) :: (some gx6, .row 158 [.map (some urt)] 1 0) :: (Gx7, .row 22 uc7 (cx7 * (kInt .u64).size) 0) :: (Gx8, .row 22 urc (cx8 * (kInt .u64).size) 0) :: (uru, .row 9 urx (urw * kStr.size) 0) :: (none, .seg 154 Ee0) :: Lr)) (_ : Rd kStr S1 w1 Ax1 cx1 x1) (_ : x1.length = nx1) (_ : Els kT29 S1 w1 u6r x2v.L) (_ : x2v.L.length = u6p) (_ : Pa 154 S1 urr urt) (_ : Els (kInt .u64) S1 w1 uc7 x7) (_ : x7.length = nx7) (_ : Els (kInt .u64) S1 w1 urc x8) (_ : x8.length = nx8) (_ : Els kStr S1 w1 urx x12) (_ : x12.length = urv) (_ : Pl (oMap Value.string (kSl (kInt .u64))) S1 w1 Ee0 e0) (junk : Nat → Value),
 Goes Tryz.prog (base 6) J15e ⟨lfr 122 [(1, .slice Ax1 nx1 cx1), (2, (pt gx2 0)), (6, (pt gx6 0)), (7, .slice (Gp Gx7) nx7 cx7), (8, .slice (Gp Gx8) nx8 cx8), (9, .i x9), (10, .string x10), (11, .u x11), (12, .slice (Gp uru) urv urw), (13, .i x13)] junk, []⟩ w1 (Done Tryz.prog 6 (Rets (Post.z6n nz wz S0 w0 Lr r)))

def L.z6t : (List ByteArray) × T29 × Nat × (List Int) × (List Int) × Int × Int × Bool × (List (List (ByteArray × (List Int)))) → (Bool × (List (List (ByteArray × (List Int))))) → Prop := fun ⟨x1, x2v, urr, x7, x8, x9, x11, x80, e0⟩ r => ∀ S1 w1, Ext S0 w0 S1 w1 → ∀ Ax1 nx1 cx1 gx2 u6o u6p u6q u6r urs gx6 urt Gx7 nx7 cx7 uc7 Gx8 nx8 cx8 urc Ee0 (_ : Hp nz wz S1 w1 ((some gx2, .row 30 (vT29 x2v (Gp u6o) u6p u6q) 3 0) :: (u6o, .row 30 u6r (u6q * kT29.size) urs) :: (some gx6, .row 158 [.map (some urt)] 1 0) :: (Gx7, .row 22 uc7 (cx7 * (kInt .u64).size) 0) :: (Gx8, .row 22 urc (cx8 * (kInt .u64).size) 0) :: (none, .seg 154 Ee0) :: Lr)) (_ : Rd kStr S1 w1 Ax1 cx1 x1) (_ : x1.length = nx1) (_ : Els kT29 S1 w1 u6r x2v.L) (_ : x2v.L.length = u6p) (_ : Pa 154 S1 urr urt) (_ : Els (kInt .u64) S1 w1 uc7 x7) (_ : x7.length = nx7) (_ : Els (kInt .u64) S1 w1 urc x8) (_ : x8.length = nx8) (_ : Pl (oMap Value.string (kSl (kInt .u64))) S1 w1 Ee0 e0) (junk : Nat → Value),
 Goes Tryz.prog (base 6) J15f ⟨lfr 122 [(1, .slice Ax1 nx1 cx1), (2, (pt gx2 0)), (6, (pt gx6 0)), (7, .slice (Gp Gx7) nx7 cx7), (8, .slice (Gp Gx8) nx8 cx8), (9, .i x9), (11, .u x11), (80, .bool x80)] junk, []⟩ w1 (Done Tryz.prog 6 (Rets (Post.z6n nz wz S0 w0 Lr r)))

def L.z6u : (List ByteArray) × T29 × Nat × (List Int) × (List Int) × Int × (List (List (ByteArray × (List Int)))) → (Bool × (List (List (ByteArray × (List Int))))) → Prop := fun ⟨x1, x2v, urr, x7, x8, x9, e0⟩ r => ∀ S1 w1, Ext S0 w0 S1 w1 → ∀ Ax1 nx1 cx1 gx2 u6o u6p u6q u6r urs gx6 urt Gx7 nx7 cx7 uc7 Gx8 nx8 cx8 urc Ee0 (_ : Hp nz wz S1 w1 ((some gx2, .row 30 (vT29 x2v (Gp u6o) u6p u6q) 3 0) :: (u6o, .row 30 u6r (u6q * kT29.size) urs) :: (some gx6, .row 158 [.map (some urt)] 1 0) :: (Gx7, .row 22 uc7 (cx7 * (kInt .u64).size) 0) :: (Gx8, .row 22 urc (cx8 * (kInt .u64).size) 0) :: (none, .seg 154 Ee0) :: Lr)) (_ : Rd kStr S1 w1 Ax1 cx1 x1) (_ : x1.length = nx1) (_ : Els kT29 S1 w1 u6r x2v.L) (_ : x2v.L.length = u6p) (_ : Pa 154 S1 urr urt) (_ : Els (kInt .u64) S1 w1 uc7 x7) (_ : x7.length = nx7) (_ : Els (kInt .u64) S1 w1 urc x8) (_ : x8.length = nx8) (_ : Pl (oMap Value.string (kSl (kInt .u64))) S1 w1 Ee0 e0) (junk : Nat → Value),
 Goes Tryz.prog (base 6) J15a ⟨lfr 122 [(1, .slice Ax1 nx1 cx1), (2, (pt gx2 0)), (6, (pt gx6 0)), (7, .slice (Gp Gx7) nx7 cx7), (8, .slice (Gp Gx8) nx8 cx8), (9, .i x9)] junk, []⟩ w1 (Done Tryz.prog 6 (Rets (Post.z6n nz wz S0 w0 Lr r)))

theorem W.z6v {nz wz S0 w0 Lr} : (∀ a r, M.a1c a = some r → (L.z6q nz wz S0 w0 Lr) a r) ∧ (∀ a r, M.a37 a = some r → (L.z6r nz wz S0 w0 Lr) a r) ∧ (∀ a r, M.a1d a = some r → (L.z6s nz wz S0 w0 Lr) a r) ∧ (∀ a r, M.a38 a = some r → (L.z6t nz wz S0 w0 Lr) a r) ∧ (∀ a r, M.a41 a = some r → (L.z6u nz wz S0 w0 Lr) a r) := by
 refine M.a1c.mutual_partial_correctness (L.z6q nz wz S0 w0 Lr) (L.z6r nz wz S0 w0 Lr) (L.z6s nz wz S0 w0 Lr) (L.z6t nz wz S0 w0 Lr) (L.z6u nz wz S0 w0 Lr) ?_ ?_ ?_ ?_ ?_
 ·
  intro ury urz ⟨x1, x2v, urr, x7, x8, x9, e0⟩ r h S1 w1 hx Ax1 nx1 cx1 gx2 u6o u6p u6q u6r urs gx6 urt Gx7 nx7 cx7 uc7 Gx8 nx8 cx8 urc Ee0 p1 fx1 lx1 u6v u6w us0 fx7 lx7 fx8 lx8 fe0 junk
  try dsimp only at h
  subst lx1
  subst u6w
  subst lx7
  subst lx8
  refine Gm 8 [([26], .i x9), ([27], .slice Ax1 x1.length cx1), ([28], .i (x1.length : Int)), ([29, 30], .bool (decide (x9 < (x1.length : Int))))] (Yt 1111111010000 B6 [5, 6, 7] J158) ?_
  refine Gi h (fun h25 h => ?_) fun h25 h => ?_
  ·
   rw [dt h25]
   refine Gm 4 [([31], .i x9), ([32, 33], .bool (decide (x9 < 12)))] J158 ?_
   exact Gj 122 [(1, .slice Ax1 x1.length cx1), (2, (pt gx2 0)), (6, (pt gx6 0)), (7, .slice (Gp Gx7) x7.length cx7), (8, .slice (Gp Gx8) x8.length cx8), (9, .i x9), (33, .bool (decide (x9 < 12)))] (urz _ _ h _ _ hx _ _ _ _ _ _ _ _ _ _ _ _ _ _ _ _ _ _ _ _ p1 fx1 rfl u6v rfl us0 fx7 rfl fx8 rfl fe0)
  ·
   rw [df h25]
   refine Gm 4 [([31, 32], undef), ([33], .bool false)] J158 ?_
   exact Gj 122 [(1, .slice Ax1 x1.length cx1), (2, (pt gx2 0)), (6, (pt gx6 0)), (7, .slice (Gp Gx7) x7.length cx7), (8, .slice (Gp Gx8) x8.length cx8), (9, .i x9), (33, .bool false)] (urz _ _ h _ _ hx _ _ _ _ _ _ _ _ _ _ _ _ _ _ _ _ _ _ _ _ p1 fx1 rfl u6v rfl us0 fx7 rfl fx8 rfl fe0)
 ·
  intro us1 us2 ⟨x1, x2v, urr, x7, x8, x9, x33, e0⟩ r h S1 w1 hx Ax1 nx1 cx1 gx2 u6o u6p u6q u6r urs gx6 urt Gx7 nx7 cx7 uc7 Gx8 nx8 cx8 urc Ee0 p1 fx1 lx1 u6v u6w us0 fx7 lx7 fx8 lx8 fe0 junk
  try dsimp only at h
  subst lx1
  subst u6w
  subst lx7
  subst lx8
  refine Gi h (fun h31 h => ?_) fun h31 h => ?_
  ·
   rw [h31]
   refine Gn 5 [] (Ys 111111101001000 B6 (Ys 111111101001001 B6 J15a)) ?_
   have z11 : Ext S1 w1 S1 (w1).drew := Ext.draw
   have p11 := p1.draw
   refine Gd [] (Fc S1 (w1).drew []) 10 12 ?_
   generalize (w1).drew = w11 at z11 p11 ⊢
   refine AnyG.pu 0 (.move (.tmp 1)) 36 43 (.slice Ax1 x1.length cx1) (Fc.here trivial) ?_
   refine AnyG.pu 1 (.move (.tmp 9)) 37 3 (.i x9) (Fc.here trivial) ?_
   refine Gg h fun g32 h => ?_
   refine Gg h fun g33 h => ?_
   refine AnyG.ixR_n (i := 2) 43 (.tmp 36) (.tmp 37) 38 0 9 .i64 x9 (gi x1 x9) rfl rfl (fx1.ext z11) (by kernel_rfl) (by kernel_rfl) (Fc.here trivial) (by kernel_rfl) (by kernel_rfl) (by kernel_rfl) (by kernel_rfl) g32 g33 fun a34 _ f35 q36 => ?_
   obtain rfl := q36
   refine Al 3 9 (.tmp 38) 39 9 a34 (.string (gi x1 x9)) (Fc.here trivial) (fun _ h => f35.fc h 0 _ rfl) ?_
   refine AnyG.pu 4 (.move (.tmp 1)) 40 43 (.slice Ax1 x1.length cx1) (Fc.here trivial) ?_
   refine AnyG.pu 5 (.move (.tmp 9)) 41 3 (.i x9) (Fc.here trivial) ?_
   refine AnyG.ixR_n (i := 6) 43 (.tmp 40) (.tmp 41) 42 0 9 .i64 x9 (gi x1 x9) rfl rfl (fx1.ext z11) (by kernel_rfl) (by kernel_rfl) (Fc.here trivial) (by kernel_rfl) (by kernel_rfl) (by kernel_rfl) (by kernel_rfl) g32 g33 fun a37 _ f38 q39 => ?_
   obtain rfl := q39
   refine Al 7 9 (.tmp 42) 43 9 a37 (.string (gi x1 x9)) (Fc.here trivial) (fun _ h => f38.fc h 0 _ rfl) ?_
   refine AnyG.pu 8 (.call { callee := .builtin .len, args := #[(.tmp 43)], argTypes := #[9] }) 44 3 (.i ((gi x1 x9).size : Int)) (Fc.here trivial) ?_
   refine AnyG.pu 9 (.call { callee := .builtin .min, args := #[(.tmp 44), (.const (.int .i64 40))], argTypes := #[3, 3] }) 45 3 (.i (imn ((gi x1 x9).size : Int) 40)) (Fc.here trivial) ?_
   refine Gg h fun g40 h => ?_
   refine Gg h fun g41 h => ?_
   refine AnyG.slS (i := 10) 9 (.tmp 39) none (some (.tmp 45)) 46 9 (gi x1 x9) 0 (imn ((gi x1 x9).size : Int) 40) (by kernel_rfl) (by kernel_rfl) (Fc.here trivial) (by kernel_rfl) (by kernel_rfl) Bnd.no (Bnd.at_ .i64 (by kernel_rfl)) (by decide : (0 : Int) ≤ 0) g40 g41 ?_
   refine AnyG.pu 11 (.assign (.tmp 46)) 10 9 (.string (ss (gi x1 x9) 0 (imn ((gi x1 x9).size : Int) 40))) (Fc.here trivial) ?_
   refine Ad ?_
   refine Gm 12 [([47], .i x9), ([48], .i (wr .i64 (3 * x9))), ([49], .i (wr .i64 ((wr .i64 (3 * x9)) + 1))), ([50, 11, 52], .u (wr .u64 (wr .i64 ((wr .i64 (3 * x9)) + 1)))), ([51], .slice (Gp Gx7) x7.length cx7)] (Yt 11111110100100110 B6 [2, 3, 4] (Ys 11111110100100111 B6 J15a)) ?_
   have f43 : Els (kInt .u64) S1 w11 ([.u (wr .u64 (wr .i64 ((wr .i64 (3 * x9)) + 1)))] : List Value) [wr .u64 (wr .i64 ((wr .i64 (3 * x9)) + 1))] := by exact (Els.cons (K := (kInt .u64)) (vs := [.u (wr .u64 (wr .i64 ((wr .i64 (3 * x9)) + 1)))]) (x := wr .u64 (wr .i64 ((wr .i64 (3 * x9)) + 1))) rfl Els.nil)
   refine Om (.buildSlice 60 1 #[(0, (.tmp 52))]) 53 60 (fun b => .slice (Gp (some b)) 1 1) 22 ([.u (wr .u64 (wr .i64 ((wr .i64 (3 * x9)) + 1)))] : List Value) (1 * (kInt .u64).size) p11 Goes.v fun b42 w12 z12 p12 => ?_
   refine Gl h fun v48 e49 h => ?_
   refine Gg h fun g50 h => ?_
   refine On (K := (kInt .u64)) 60 (.tmp 51) (.tmp 53) 54 60 22 4 (.u 0) 8 x7.length cx7 1 x7 [wr .u64 (wr .i64 ((wr .i64 (3 * x9)) + 1))] v48 (Gp (some b42)) 1 rfl rfl e49 p12 rfl (fx7.ext (z11.t z12)) Goes.v (f43.ext z12) (src_own p12 (q := 0) rfl) g50 fun w13 G51 c52 ubc z13 p13 f54 => ?_
   refine Gn 5 [(7, .slice (Gp G51) v48.length c52), (55, .string (ss (gi x1 x9) 0 (imn ((gi x1 x9).size : Int) 40)))] (Yt 111111101001001110 B6 [1, 2] (Ys 111111101001001111 B6 J15a)) ?_
   refine Gb h fun y55 e56 h => ?_
   refine Gc (kc 16 [55] #[9]) 56 43 16 _ (W.z34 (ss (gi x1 x9) 0 (imn ((gi x1 x9).size : Int) 40)) y55 e56  p13 ) ?_
   rintro _ w14 ⟨S14, us3, us4, us5, us6, rfl, z14, p14, us7, rfl⟩
   have p14 := p14.dp 1
   refine Gn 9 [(12, .slice (Gp us3) y55.length us5), (13, .i 0)] J15e ?_
   have p14 := ((((((p14.fr 6).fr 1).fr 6).fr 6).fr 6).fr 6).fr 6
   exact Gj 122 [(1, .slice Ax1 x1.length cx1), (2, (pt gx2 0)), (6, (pt gx6 0)), (7, .slice (Gp G51) v48.length c52), (8, .slice (Gp Gx8) x8.length cx8), (9, .i x9), (10, .string (ss (gi x1 x9) 0 (imn ((gi x1 x9).size : Int) 40))), (11, .u (wr .u64 (wr .i64 ((wr .i64 (3 * x9)) + 1)))), (12, .slice (Gp us3) y55.length us5), (13, .i 0)] (us2 _ _ h _ _ ((((hx.t z11).t z12).t z13).t z14) _ _ _ _ _ _ _ _ _ _ _ _ _ _ _ _ _ _ _ _ _ _ _ _ p14 (fx1.ext (((z11.t z12).t z13).t z14)) rfl (u6v.ext (((z11.t z12).t z13).t z14)) rfl (us0.ext (((z11.t z12).t z13).t z14)) (f54.ext z14) rfl (fx8.ext (((z11.t z12).t z13).t z14)) rfl us7 rfl (fe0.ext (((z11.t z12).t z13).t z14)))
  ·
   rw [bf h31]
   refine Gn 4 [] (Zr Qxt [0, 1, 2, 3, 4, 5, 6, 7, 8] J15n) ?_
   refine Goes.ldN 30 (.tmp 2) 86 30 ⟨gx2, 0, none⟩ (vT29 x2v (Gp u6o) x2v.L.length u6q) (p1.pa 0 0) ?_
   refine Gn 2 [(87, (pt gx6 0)), (88, .slice (Gp Gx7) x7.length cx7)] (Zr Qxt [3, 4, 5, 6, 7, 8] J15n) ?_
   obtain ⟨S15, z15, p15, f64⟩ := p1.freezeRd 1 rfl u6v (by decide)
   obtain ⟨S16, z16, p16, f65⟩ := p15.freezeRd 3 rfl (fx7.ext z15) (by decide)
   have p16 := (p16.fr 5).fr 3
   refine Gb h fun y66 e67 h => ?_
   refine Gc (kc 32 [86, 87, 88] #[30, 62, 60]) 89 72 32 _ (W.z6l x2v urr x7 e0 y66 e67 _ _ _ _ _ _ _ _ _ p16 (f64.ext z16) rfl (us0.ext (z15.t z16)) f65 rfl (fe0.ext (z15.t z16))) ?_
   rintro _ w17 ⟨S17, us8, us9, usa, usb, rfl, z17, p17, usc, rfl⟩
   have p17 := (p17.dp 1).dp 4
   refine Gm 12 [([85], .tuple #[.slice (Gp us8) y66.1.length usa, .i y66.2]), ([90, 16], .slice (Gp us8) y66.1.length usa), ([91, 17, 92], .i y66.2), ([93], .bool (!(decide (y66.2 = 0))))] (Ys 11111111101 B6 J151) ?_
   refine Gi h (fun h69 h => ?_) fun h69 h => ?_
   ·
    rw [dt h69]
    refine Gn 11 [(102, .slice (Gp us8) y66.1.length usa), (103, .i (y66.1.length : Int)), (104, .slice (Gp Gx8) x8.length cx8), (105, .i (x8.length : Int)), (106, .bool (!(decide ((y66.1.length : Int) = (x8.length : Int)))))] (Ys 111111111101 B6 J15r) ?_
    refine Gi h (fun h70 h => ?_) fun h70 h => ?_
    ·
     rw [dt h70]
     refine Gn 9 [(18, .i 0)] J14s ?_
     have p17 := (p17.dp 2).dp 2
     have p17 := ((p17.fr 1).fr 1).fr 2
     exact Gj 122 [(8, .slice (Gp Gx8) x8.length cx8), (16, .slice (Gp us8) y66.1.length usa), (18, .i 0)] (W.z6o _ _ h _ _ (((hx.t z15).t z16).t z17) _ _ _ _ _ _ _ _ _ p17 (fx8.ext ((z15.t z16).t z17)) rfl usc rfl (fe0.ext ((z15.t z16).t z17)))
    ·
     rw [df h70]
     refine Gn 5 [(4, .bool false)] (Ys 11111111110101 B6 J15r) ?_
     obtain rfl := sj h
     have p17 := (((p17.dp 0).dp 1).dp 1).dp 1
     exact Goes.rt Tryz.f6 (.bool false) ⟨_, _, rfl, (((hx.t z15).t z16).t z17), p17, (fe0.ext ((z15.t z16).t z17))⟩
   ·
    rw [df h69]
    refine Gn 3 [] (Zr Qxy [0, 1, 2, 3, 4, 5, 6, 7, 8] J152) ?_
    refine Goes.ldN 30 (.tmp 2) 94 30 ⟨gx2, 0, none⟩ (vT29 x2v (Gp u6o) x2v.L.length u6q) (p17.pa 2 0) ?_
    refine Gb h fun y73 e74 h => ?_
    refine Gc (kc 20 [94] #[30]) 95 34 20 _ (W.z4f x2v y73 e74 _ _ _ p17 (f64.ext (z16.t z17)) rfl) ?_
    rintro _ w18 ⟨S18, rfl, z18, p18⟩
    have p18 := ((p18.dp 2).dp 2).dp 2
    refine Gm 2 [([96, 97], .bool (!(decide (y73 = 0))))] (Zr Qxy [4, 5, 6, 7, 8] J152) ?_
    refine Gi h (fun h75 h => ?_) fun h75 h => ?_
    ·
     rw [dt h75]
     refine Gm 6 [([98, 99, 100], undef), ([101, 4], .bool false)] J152 ?_
     have p18 := p18.dp 0
     exact Gj 122 [(4, .bool false)] (W.z6p _ _ h _ _ ((((hx.t z15).t z16).t z17).t z18) _ p18 (fe0.ext (((z15.t z16).t z17).t z18)))
    ·
     rw [df h75]
     refine Gm 6 [([98], .slice (Gp us8) y66.1.length usa), ([99], .i (y66.1.length : Int)), ([100, 101, 4], .bool (decide ((y66.1.length : Int) = 0)))] J152 ?_
     have p18 := p18.dp 0
     exact Gj 122 [(4, .bool (decide ((y66.1.length : Int) = 0)))] (W.z6p _ _ h _ _ ((((hx.t z15).t z16).t z17).t z18) _ p18 (fe0.ext (((z15.t z16).t z17).t z18)))
 ·
  intro us1 usd us2 use ⟨x1, x2v, urr, x7, x8, x9, x10, x11, x12, x13, e0⟩ r h S1 w1 hx Ax1 nx1 cx1 gx2 u6o u6p u6q u6r urs gx6 urt Gx7 nx7 cx7 uc7 Gx8 nx8 cx8 urc uru urv urw urx Ee0 p1 fx1 lx1 u6v u6w us0 fx7 lx7 fx8 lx8 usf usg fe0 junk
  try dsimp only at h
  subst lx1
  subst u6w
  subst lx7
  subst lx8
  subst usg
  refine Gn 8 [(57, .i x13), (58, .slice (Gp uru) x12.length urw), (59, .i (x12.length : Int)), (60, .bool (decide (x13 < (x12.length : Int))))] (Ys 111111101001001111010001 B6 (Ys 11111110100100111101001 B6 J15d)) ?_
  refine Gi h (fun h76 h => ?_) fun h76 h => ?_
  ·
   rw [dt h76]
   refine Gn 8 [(63, (pt gx6 0)), (64, .slice (Gp uru) x12.length urw), (65, .i x13)] (Zr Qy2 [3, 4, 5, 6] J15z) ?_
   refine Gg h fun g77 h => ?_
   refine Op_.ixO_n 43 (.tmp 64) (.tmp 65) 66 0 9 .i64 x13 5 x12.length urw (gi x12 x13) rfl rfl p1 rfl usf Goes.v (by kernel_rfl) (by kernel_rfl) (by kernel_rfl) (by kernel_rfl) (by decide) g77 h76 ?_
   rintro b78 _ rfl q80 f79
   obtain rfl := q80
   refine Goes.ld 9 (.tmp 66) 67 9 ⟨b78, (x13 : Int).toNat * kStr.size, none⟩ (.string (gi x12 x13)) (f79 0 _ rfl) ?_
   refine Gn 1 [(68, .u x11)] (Zr Qy2 [6] J15z) ?_
   have p1 := (p1.fr 6).fr 3
   refine Gb h fun y82 e83 h => ?_
   refine Gc (kc 30 [63, 67, 68] #[62, 9, 22]) 69 34 30 _ (W.z5f urr (gi x12 x13) x11 e0 y82 e83 _ _ _ p1 us0 fe0) ?_
   rintro _ w19 ⟨S19, ush, rfl, z19, p19, usi⟩
   refine Gm 8 [([61], .i x13), ([62, 13], .i (wr .i64 (x13 + 1)))] J15e ?_
   have p19 := ((((((p19.fr 1).fr 6).fr 6).fr 6).fr 4).fr 6).fr 6
   exact Gj 122 [(1, .slice Ax1 x1.length cx1), (2, (pt gx2 0)), (6, (pt gx6 0)), (7, .slice (Gp Gx7) x7.length cx7), (8, .slice (Gp Gx8) x8.length cx8), (9, .i x9), (10, .string x10), (11, .u x11), (12, .slice (Gp (some b78)) x12.length urw), (13, .i (wr .i64 (x13 + 1)))] (us2 _ _ h _ _ (hx.t z19) _ _ _ _ _ _ _ _ _ _ _ _ _ _ _ _ _ _ _ (some b78) _ _ _ _ p19 (fx1.ext z19) rfl (u6v.ext z19) rfl (us0.ext z19) (fx7.ext z19) rfl (fx8.ext z19) rfl (usf.ext z19) rfl usi)
  ·
   rw [df h76]
   refine Gn 4 [] (Zr Qy4 [0, 1, 2, 3, 4, 5, 6, 7] J162) ?_
   refine Goes.ldN 30 (.tmp 2) 71 30 ⟨gx2, 0, none⟩ (vT29 x2v (Gp u6o) x2v.L.length u6q) (p1.pa 0 0) ?_
   refine Gn 1 [(72, .string x10)] (Zr Qy4 [2, 3, 4, 5, 6, 7] J162) ?_
   obtain ⟨S20, z20, p20, f84⟩ := p1.freezeRd 1 rfl u6v (by decide)
   refine Gb h fun y85 e86 h => ?_
   refine Gc (kc 27 [71, 72] #[30, 9]) 73 56 27 _ (W.z5x x2v x10 y85 e86 _ _ _ p20 f84 rfl) ?_
   rintro _ w21 ⟨S21, rfl, z21, p21⟩
   have p21 := p21.dp 5
   refine Gm 10 [([70], .tuple #[.bool y85.1, .i y85.2]), ([74, 14, 76, 77], .bool y85.1), ([75, 15], .i y85.2)] (Yt 111111101001001111110 B6 [2, 3, 4] J15f) ?_
   refine Gi h (fun h87 h => ?_) fun h87 h => ?_
   ·
    rw [h87]
    refine Gm 4 [([78], .i y85.2), ([79, 80], .bool (decide (y85.2 = 0)))] J15f ?_
    exact Gj 122 [(1, .slice Ax1 x1.length cx1), (2, (pt gx2 0)), (6, (pt gx6 0)), (7, .slice (Gp Gx7) x7.length cx7), (8, .slice (Gp Gx8) x8.length cx8), (9, .i x9), (11, .u x11), (80, .bool (decide (y85.2 = 0)))] (use _ _ h _ _ ((hx.t z20).t z21) _ _ _ _ _ _ _ _ _ _ _ _ _ _ _ _ _ _ _ _ p21 (fx1.ext (z20.t z21)) rfl (u6v.ext (z20.t z21)) rfl (us0.ext (z20.t z21)) (fx7.ext (z20.t z21)) rfl (fx8.ext (z20.t z21)) rfl (fe0.ext (z20.t z21)))
   ·
    rw [bf h87]
    refine Gm 4 [([78, 79], undef), ([80], .bool false)] J15f ?_
    exact Gj 122 [(1, .slice Ax1 x1.length cx1), (2, (pt gx2 0)), (6, (pt gx6 0)), (7, .slice (Gp Gx7) x7.length cx7), (8, .slice (Gp Gx8) x8.length cx8), (9, .i x9), (11, .u x11), (80, .bool false)] (use _ _ h _ _ ((hx.t z20).t z21) _ _ _ _ _ _ _ _ _ _ _ _ _ _ _ _ _ _ _ _ p21 (fx1.ext (z20.t z21)) rfl (u6v.ext (z20.t z21)) rfl (us0.ext (z20.t z21)) (fx7.ext (z20.t z21)) rfl (fx8.ext (z20.t z21)) rfl (fe0.ext (z20.t z21)))
 ·
  intro usk usl ⟨x1, x2v, urr, x7, x8, x9, x11, x80, e0⟩ r h S1 w1 hx Ax1 nx1 cx1 gx2 u6o u6p u6q u6r urs gx6 urt Gx7 nx7 cx7 uc7 Gx8 nx8 cx8 urc Ee0 p1 fx1 lx1 u6v u6w us0 fx7 lx7 fx8 lx8 fe0 junk
  try dsimp only at h
  subst lx1
  subst u6w
  subst lx7
  subst lx8
  refine Gi h (fun usm h => ?_) fun usm h => ?_
  ·
   rw [usm]
   refine Gn 4 [(81, .slice (Gp Gx8) x8.length cx8), (82, .u x11)] (Yt 1111111010010011111110 B6 [2, 3, 4] J15a) ?_
   have usn : Els (kInt .u64) S1 w1 ([.u x11] : List Value) [x11] := by exact (Els.cons (K := (kInt .u64)) (vs := [.u x11]) (x := x11) rfl Els.nil)
   refine Op_.made (.buildSlice 60 1 #[(0, (.tmp 82))]) 83 60 (fun b => .slice (Gp (some b)) 1 1) 22 ([.u x11] : List Value) p1 Goes.v (by kernel_rfl) fun uso w23 z23 p23 => ?_
   have p23 : Hp nz wz S1 w23 (((some uso), .row 22 ([.u x11] : List Value) (1 * (kInt .u64).size) 0) :: (some gx2, .row 30 (vT29 x2v (Gp u6o) x2v.L.length u6q) 3 0) :: (u6o, .row 30 u6r (u6q * kT29.size) urs) :: (some gx6, .row 158 [.map (some urt)] 1 0) :: (Gx7, .row 22 uc7 (cx7 * (kInt .u64).size) 0) :: (Gx8, .row 22 urc (cx8 * (kInt .u64).size) 0) :: (none, .seg 154 Ee0) :: Lr) := p23
   refine Gg h fun usp h => ?_
   refine Op_.ap_n (K := (kInt .u64)) 60 (.tmp 81) (.tmp 83) 84 60 22 5 (.u 0) 8 x8.length cx8 1 x8 [x11] (x8 ++ [x11]) (Gp (some uso)) 1 rfl rfl rfl p23 rfl (fx8.ext z23) Goes.v (by kernel_rfl) (by kernel_rfl) (by kernel_rfl) (by kernel_rfl) rfl (by decide) (usn.ext z23) (src_own p23 (q := 0) rfl) (by have := usp; omega) (by have := usp; omega) fun w24 usq usr uss z24 p24 ust => ?_
   refine Gn 2 [(8, .slice (Gp usq) ((x8 ++ [x11]).length) usr)] J15a ?_
   have p24 := p24.dp 0
   exact Gj 122 [(1, .slice Ax1 x1.length cx1), (2, (pt gx2 0)), (6, (pt gx6 0)), (7, .slice (Gp Gx7) x7.length cx7), (8, .slice (Gp usq) ((x8 ++ [x11]).length) usr), (9, .i x9)] (usl _ _ h _ _ ((hx.t z23).t z24) _ _ _ _ _ _ _ _ _ _ _ _ _ _ _ _ _ _ _ _ p24 (fx1.ext (z23.t z24)) rfl (u6v.ext (z23.t z24)) rfl (us0.ext (z23.t z24)) (fx7.ext (z23.t z24)) rfl ust rfl (fe0.ext (z23.t z24)))
  ·
   rw [bf usm]
   refine Gn 2 [] J15a ?_
   exact Gj 122 [(1, .slice Ax1 x1.length cx1), (2, (pt gx2 0)), (6, (pt gx6 0)), (7, .slice (Gp Gx7) x7.length cx7), (8, .slice (Gp Gx8) x8.length cx8), (9, .i x9)] (usl _ _ h _ _ hx _ _ _ _ _ _ _ _ _ _ _ _ _ _ _ _ _ _ _ _ p1 fx1 rfl u6v rfl us0 fx7 rfl fx8 rfl fe0)
 ·
  intro usv usw ⟨x1, x2v, urr, x7, x8, x9, e0⟩ r h S1 w1 hx Ax1 nx1 cx1 gx2 u6o u6p u6q u6r urs gx6 urt Gx7 nx7 cx7 uc7 Gx8 nx8 cx8 urc Ee0 p1 fx1 lx1 u6v u6w us0 fx7 lx7 fx8 lx8 fe0 junk
  try dsimp only at h
  subst lx1
  subst u6w
  subst lx7
  subst lx8
  refine Gm 7 [([34], .i x9), ([35, 9], .i (wr .i64 (x9 + 1)))] J156 ?_
  exact Gj 122 [(1, .slice Ax1 x1.length cx1), (2, (pt gx2 0)), (6, (pt gx6 0)), (7, .slice (Gp Gx7) x7.length cx7), (8, .slice (Gp Gx8) x8.length cx8), (9, .i (wr .i64 (x9 + 1)))] (usw _ _ h _ _ hx _ _ _ _ _ _ _ _ _ _ _ _ _ _ _ _ _ _ _ _ p1 fx1 rfl u6v rfl us0 fx7 rfl fx8 rfl fe0)

theorem W.z6q {nz wz S0 w0 Lr} : ∀ a r, M.a1c a = some r → (L.z6q nz wz S0 w0 Lr) a r := (W.z6v).1

theorem W.z6r {nz wz S0 w0 Lr} : ∀ a r, M.a37 a = some r → (L.z6r nz wz S0 w0 Lr) a r := (W.z6v).2.1

theorem W.z6s {nz wz S0 w0 Lr} : ∀ a r, M.a1d a = some r → (L.z6s nz wz S0 w0 Lr) a r := (W.z6v).2.2.1

theorem W.z6t {nz wz S0 w0 Lr} : ∀ a r, M.a38 a = some r → (L.z6t nz wz S0 w0 Lr) a r := (W.z6v).2.2.2.1

theorem W.z6u {nz wz S0 w0 Lr} : ∀ a r, M.a41 a = some r → (L.z6u nz wz S0 w0 Lr) a r := (W.z6v).2.2.2.2

def J169 := Ys 111 B6 []
def J16a := Ys 1101 B6 J169

theorem W.z6n (x0 : T29) (x1 : List ByteArray) (uk5 : List (List (ByteArray × (List Int)))) (r : Bool × (List (List (ByteArray × (List Int))))) (h : M.a58 x0 x1 uk5 = some r) {nz wz S0 w0 Lr} (u92 u93 u94 Ax1 nx1 cx1 uk6) (p0 : Hp nz wz S0 w0 ((none, .seg 154 uk6) :: Lr)) (u9f : Rd kT29 S0 w0 u92 u94 x0.L) (u9g : x0.L.length = u93) (fx1 : Rd kStr S0 w0 Ax1 cx1 x1) (lx1 : x1.length = nx1) (uk7 : Pl (oMap Value.string (kSl (kInt .u64))) S0 w0 uk6 uk5) :
  Calls Tryz.prog 6 #[(ag (vT29 x0 u92 u93 u94)), .slice Ax1 nx1 cx1] w0 (Rets (Post.z6n nz wz S0 w0 Lr r)) := by
 subst u9g
 subst lx1
 refine Zf Tryz.f6 B6 120 ?_
 refine Gj 122 [(0, (ag (vT29 x0 u92 x0.L.length u94))), (1, .slice Ax1 x1.length cx1)] fun junk => ?_
 delta M.a58 at h
 refine Gn 2 [] (Yt 10 B6 [0, 1] (Ys 11 B6 [])) ?_
 refine Ob 30 (.tmp 0) 2 0 (ag (vT29 x0 u92 x0.L.length u94)) (vT29 x0 u92 x0.L.length u94) p0 Goes.v fun b1 w2 z2 p2 => ?_
 refine Gn 5 [(4, .bool false)] (Yt 1100 B6 [0, 1] J16a) ?_
 refine Gb h fun y3 e4 h => ?_
 refine Gc (kc 24 [] #[]) 19 4 24 _ (W.z4k y3 e4  p2 ) ?_
 rintro _ w3 ⟨S3, rfl, z3, p3⟩
 refine Gn 2 [(20, .bool (!y3))] J16a ?_
 refine Gi h (fun h5 h => ?_) fun h5 h => ?_
 ·
  rw [h5]
  refine Gn 4 [] (Yt 1110 B6 [0, 1] (Ys 1111 B6 [])) ?_
  refine Oa 3 5 0 (.i 0) [.i 0] p3 Goes.v fun b6 w4 z4 p4 => ?_
  refine So 3 (.tmp 5) (.const (.int .i64 60)) 0 0 b6 0 (.i 60) [.i 60] p4 rfl Goes.s fun w5 z5 p5 => ?_
  refine Gn 3 [] (Yt 11110 B6 [0, 1, 2] (Ys 11111 B6 [])) ?_
  refine Goes.ldN 30 (.tmp 2) 21 30 ⟨b1, 0, none⟩ (vT29 x0 u92 x0.L.length u94) (p5.pa 1 0) ?_
  refine Gb h fun y8 e9 h => ?_
  refine Gc (.call { callee := .value (.func 12), args := #[(.tmp 21), (.const (.int .i64 9)), (.tmp 5)], argTypes := #[30, 3, 33] }) 22 30 12 _ (W.z4l (x0, 9, 60) y8 e9 _ _ _ _ p5 (u9f.ext (((z2.t z3).t z4).t z5)) rfl) ?_
  rintro _ w6 ⟨S6, usx, u6y, u6z, usy, rfl, z6, p6, u71, rfl⟩
  have p6 := p6.dp 1
  refine So 30 (.tmp 2) (.tmp 22) 0 1 b1 0 ((ag (vT29 y8.1 (Gp usx) y8.1.L.length u6z))) (vT29 y8.1 (Gp usx) y8.1.L.length u6z) p6 rfl Goes.s fun w7 z7 p7 => ?_
  refine Gn 3 [] (Yt 111110 B6 [0, 1] (Ys 111111 B6 [])) ?_
  have p7 := p7.fr 2
  refine Gb h fun y11 e12 h => ?_
  refine Gc (kc 29 [] #[]) 23 62 29 _ (W.z4p uk5 y11 e12 _ p7 (uk7.ext (((((z2.t z3).t z4).t z5).t z6).t z7))) ?_
  rintro _ w8 ⟨S8, usz, ut0, ut1, rfl, z8, p8, ut2, ut3⟩
  refine Gn 4 [(6, (pt usz 0))] (Yt 1111110 B6 [0, 1, 2, 3] (Ys 1111111 B6 [])) ?_
  have f15 : Els (kInt .u64) S8 w8 ([] : List Value) ([] : List Int) := by exact Els.nil
  refine Om (.buildSlice 60 0 #[]) 24 60 (fun b => .slice (Gp (some b)) 0 0) 22 ([] : List Value) (0 * (kInt .u64).size) p8 Goes.v fun b14 w9 z9 p9 => ?_
  have f18 : Els (kInt .u64) S8 w9 ([] : List Value) ([] : List Int) := by exact Els.nil
  refine Om (.buildSlice 60 0 #[]) 25 60 (fun b => .slice (Gp (some b)) 0 0) 22 ([] : List Value) (0 * (kInt .u64).size) p9 Goes.v fun b17 w10 z10 p10 => ?_
  refine Gn 10 [(7, .slice (Gp (some b14)) 0 0), (8, .slice (Gp (some b17)) 0 0), (9, .i 0)] J156 ?_
  have p10 := (((((p10.fr 3).fr 1).fr 2).fr 3).fr 4).fr 5
  exact Gj 122 [(1, .slice Ax1 x1.length cx1), (2, (pt b1 0)), (6, (pt usz 0)), (7, .slice (Gp (some b14)) 0 0), (8, .slice (Gp (some b17)) 0 0), (9, .i 0)] (W.z6q _ _ h _ _ ((((((((z2.t z3).t z4).t z5).t z6).t z7).t z8).t z9).t z10) _ _ _ _ _ _ _ _ 0 _ _ (some b14) 0 0 _ (some b17) 0 0 _ _ p10 (fx1.ext ((((((((z2.t z3).t z4).t z5).t z6).t z7).t z8).t z9).t z10)) rfl (u71.ext (((z7.t z8).t z9).t z10)) rfl (ut2.ext (z9.t z10)) (f15.ext (z9.t z10)) rfl (f18.ext z10) rfl (ut3.ext (z9.t z10)))
 ·
  rw [bf h5]
  refine Gn 5 [(4, .bool false)] (Ys 110101 B6 J169) ?_
  obtain rfl := sj h
  have p3 := p3.dp 0
  exact Goes.rt Tryz.f6 (.bool false) ⟨_, _, rfl, (z2.t z3), p3, (uk7.ext (z2.t z3))⟩

end

end Go.Gx
