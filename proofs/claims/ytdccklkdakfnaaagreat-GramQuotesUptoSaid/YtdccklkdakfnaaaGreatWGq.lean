import Derived.Test.YtdccklkdakfnaaaGreatWGqc

set_option linter.unusedVariables false

set_option linter.unusedSimpArgs false

set_option maxRecDepth 100000

set_option maxHeartbeats 4000000

namespace Go.Gx

open Go.RowKit Go.Proofs

variable (nz : Nat) (wz : World) (S0 : Fz) (w0 : World) (Lr : List Ent)

noncomputable section

def L.z4y : ByteArray × (List Int) × Int × Int → ByteArray → Prop := fun ⟨x0, uk2, x7, x8⟩ r => ∀ S1 w1, Ext S0 w0 S1 w1 → ∀ gx3 uk3 uk4 uk5 uk6 (_ : Hp nz wz S1 w1 ((some gx3, .row 143 [.pointer none, .slice (Gp uk3) uk4 uk5] 2 0) :: (uk3, .row 5 uk6 (uk5 * (kInt .u8).size) 0) :: Lr)) (_ : Els (kInt .u8) S1 w1 uk6 uk2) (_ : uk2.length = uk4) (junk : Nat → Value),
 Goes Tryz.prog (base 26) Jxx ⟨lfr 35 [(0, .string x0), (3, (pt gx3 0)), (7, .i x7), (8, .i x8)] junk, []⟩ w1 (Done Tryz.prog 26 (Rets (Post.z4u nz wz S0 w0 Lr r)))

theorem W.z4y {nz wz S0 w0 Lr} : ∀ a r, M.a4a a = some r → L.z4y nz wz S0 w0 Lr a r := by
 intro ⟨x0, uk2, x7, x8⟩ r h S1 w1 hx gx3 uk3 uk4 uk5 uk6 p1 uk9 u9j junk
 rw [M.a4a] at h
 try dsimp only at h
 subst u9j
 refine Gn 5 [(9, .bool (decide (x8 < x7)))] Jxz ?_
 refine Gi h (fun h6 h => ?_) fun h6 h => ?_
 ·
  rw [dt h6]
  refine Gm 13 [([10, 4, 12], .i x8), ([11], .string x0)] Jy3 ?_
  refine Gg h fun g7 h => ?_
  refine Gg h fun g8 h => ?_
  refine Op_.ixS 9 (.tmp 11) (.tmp 12) 13 5 .i64 x0 x8 Goes.v (by kernel_rfl) (by kernel_rfl) (by kernel_rfl) g7 g8 ?_
  refine Gm 6 [([5, 14], .int .u8 (bt x0 x8))] Jy6 ?_
  refine Gb h fun y9 e10 h => ?_
  refine Gc (kc 70 [14] #[5]) 15 4 70 _ (W.z4l (bt x0 x8) y9 e10  p1 ) ?_
  rintro _ w3 ⟨S3, rfl, z3, p3⟩
  refine Gn 1 [] Jy5 ?_
  refine Gi h (fun h11 h => ?_) fun h11 h => ?_
  ·
   rw [h11]
   refine Gn 4 [(16, .int .u8 (bt x0 x8))] Jy8 ?_
   refine Gb h fun y12 e13 h => ?_
   refine Gc (kc 71 [3, 16] #[143, 5]) 17 146 71 _ (W.z4p uk2 (bt x0 x8) y12 e13 _ _ _ _ _ p3 (uk9.ext z3) rfl) ?_
   rintro _ w4 ⟨S4, ukp, ukq, ukr, uks, rfl, z4, p4, ukt, rfl⟩
   refine Gm 7 [([33, 8], .i (wr .i64 (x8 + 1)))] Jxx ?_
   exact Gj 35 [(0, .string x0), (3, (pt gx3 0)), (7, .i x7), (8, .i (wr .i64 (x8 + 1)))] (W.z4v _ _ h _ _ ((hx.t z3).t z4) _ _ _ _ _ p4 ukt rfl)
  ·
   rw [bf h11]
   refine Gn 2 [] Jy4 ?_
   have z5 : Ext S3 w3 S3 (w3).drew := Ext.draw
   have p5 := p3.draw
   refine Gd [14] (Fc S3 (w3).drew []) 8 15 ?_
   generalize (w3).drew = w5 at z5 p5 ⊢
   refine AnyG.pu 0 (.move (.tmp 5)) 18 5 (.int .u8 (bt x0 x8)) (Fc.here trivial) ?_
   refine AnyG.pu 1 (.binOp .shr 5 (.tmp 18) (.const (.int .u64 4)) 150) 19 5 (.int .u8 (ishr .u8 (bt x0 x8) 4)) (Fc.here trivial) ?_
   refine AnyG.pu 2 (.move (.tmp 5)) 20 5 (.int .u8 (bt x0 x8)) (Fc.here trivial) ?_
   refine AnyG.pu 3 (.binOp .shr 5 (.tmp 20) (.const (.int .u64 4)) 150) 21 5 (.int .u8 (ishr .u8 (bt x0 x8) 4)) (Fc.here trivial) ?_
   refine AnyG.pu 4 (.binOp .add 5 (.tmp 21) (.const (.int .u8 1)) 5) 22 5 (.int .u8 (wr .u8 ((ishr .u8 (bt x0 x8) 4) + 1))) (Fc.here trivial) ?_
   refine Gg h fun g17 h => ?_
   refine Gg h fun g18 h => ?_
   refine Gg h fun g19 h => ?_
   refine AnyG.slS (i := 5) 9 (.const (.string ⟨#[48, 49, 50, 51, 52, 53, 54, 55, 56, 57, 97, 98, 99, 100, 101, 102]⟩)) (some (.tmp 19)) (some (.tmp 22)) 23 9 (⟨#[48, 49, 50, 51, 52, 53, 54, 55, 56, 57, 97, 98, 99, 100, 101, 102]⟩ : ByteArray) (ishr .u8 (bt x0 x8) 4) (wr .u8 ((ishr .u8 (bt x0 x8) 4) + 1)) (by kernel_rfl) (by kernel_rfl) (Fc.here trivial) (by kernel_rfl) (by kernel_rfl) (Bnd.at_ .u8 (by kernel_rfl)) (Bnd.at_ .u8 (by kernel_rfl)) g17 g18 g19 ?_
   refine Gg h fun g20 h => ?_
   refine Gl h fun v21 e22 h => ?_
   refine AnyG.cat_n (i := 6) 9 (.const (.string ⟨#[92, 120]⟩)) (.tmp 23) 9 24 9 (⟨#[92, 120]⟩ : ByteArray) (ss (⟨#[48, 49, 50, 51, 52, 53, 54, 55, 56, 57, 97, 98, 99, 100, 101, 102]⟩ : ByteArray) (ishr .u8 (bt x0 x8) 4) (wr .u8 ((ishr .u8 (bt x0 x8) 4) + 1))) v21 e22 (by kernel_rfl) (by kernel_rfl) (Fc.here trivial) (by kernel_rfl) (by kernel_rfl) g20 ?_
   refine AnyG.pu 7 (.move (.tmp 5)) 25 5 (.int .u8 (bt x0 x8)) (Fc.here trivial) ?_
   refine AnyG.pu 8 (.binOp .and 5 (.tmp 25) (.const (.int .u8 15)) 5) 26 5 (.int .u8 (iand .u8 (bt x0 x8) 15)) (Fc.here trivial) ?_
   refine AnyG.pu 9 (.move (.tmp 5)) 27 5 (.int .u8 (bt x0 x8)) (Fc.here trivial) ?_
   refine AnyG.pu 10 (.binOp .and 5 (.tmp 27) (.const (.int .u8 15)) 5) 28 5 (.int .u8 (iand .u8 (bt x0 x8) 15)) (Fc.here trivial) ?_
   refine AnyG.pu 11 (.binOp .add 5 (.tmp 28) (.const (.int .u8 1)) 5) 29 5 (.int .u8 (wr .u8 ((iand .u8 (bt x0 x8) 15) + 1))) (Fc.here trivial) ?_
   refine Gg h fun g23 h => ?_
   refine Gg h fun g24 h => ?_
   refine Gg h fun g25 h => ?_
   refine AnyG.slS (i := 12) 9 (.const (.string ⟨#[48, 49, 50, 51, 52, 53, 54, 55, 56, 57, 97, 98, 99, 100, 101, 102]⟩)) (some (.tmp 26)) (some (.tmp 29)) 30 9 (⟨#[48, 49, 50, 51, 52, 53, 54, 55, 56, 57, 97, 98, 99, 100, 101, 102]⟩ : ByteArray) (iand .u8 (bt x0 x8) 15) (wr .u8 ((iand .u8 (bt x0 x8) 15) + 1)) (by kernel_rfl) (by kernel_rfl) (Fc.here trivial) (by kernel_rfl) (by kernel_rfl) (Bnd.at_ .u8 (by kernel_rfl)) (Bnd.at_ .u8 (by kernel_rfl)) g23 g24 g25 ?_
   refine Gg h fun g26 h => ?_
   refine Gl h fun v27 e28 h => ?_
   refine AnyG.cat_n (i := 13) 9 (.tmp 24) (.tmp 30) 9 31 9 v21 (ss (⟨#[48, 49, 50, 51, 52, 53, 54, 55, 56, 57, 97, 98, 99, 100, 101, 102]⟩ : ByteArray) (iand .u8 (bt x0 x8) 15) (wr .u8 ((iand .u8 (bt x0 x8) 15) + 1))) v27 e28 (by kernel_rfl) (by kernel_rfl) (Fc.here trivial) (by kernel_rfl) (by kernel_rfl) g26 ?_
   refine Gb h fun y29 e30 h => ?_
   refine Oc (kc 72 [3, 31] #[143, 9]) 32 148 72 #[(pt gx3 0), .string v27] (Ac 14) (W.z4w uk2 v27 y29 e30 _ _ _ _ _ p5 (uk9.ext (z3.t z5)) rfl) ?_
   rintro _ w6 ⟨S6, uku, ukv, ukw, ukx, rfl, z6, p6, uky, rfl⟩
   refine AnyG.last [] (Fc S6 w6 []) (by decide) ?_
   refine Ad ?_
   refine Gm 6 [([33, 8], .i (wr .i64 (x8 + 1)))] Jxx ?_
   exact Gj 35 [(0, .string x0), (3, (pt gx3 0)), (7, .i x7), (8, .i (wr .i64 (x8 + 1)))] (W.z4v _ _ h _ _ (((hx.t z3).t z5).t z6) _ _ _ _ _ p6 uky rfl)
 ·
  rw [df h6]
  refine Gn 4 [] Jya ?_
  refine Gb h fun y32 e33 h => ?_
  refine Gc (kc 73 [3] #[143]) 34 9 73 _ (W.z4x uk2 y32 e33 _ _ _ _ _ p1 uk9 rfl) ?_
  rintro _ w7 ⟨S7, ukz, ul0, ul1, rfl, z7, p7, ul2, rfl⟩
  have p7 := p7.dp 0
  refine Gn 2 [(2, .string y32.1)] Jy9 ?_
  obtain rfl := sj h
  exact Goes.rt Tryz.f26 (.string y32.1) ⟨_, rfl, (hx.t z7), p7⟩


theorem W.z4u (x0 : ByteArray) (r : ByteArray) (h : M.a4b x0 = some r) {nz wz S0 w0 Lr} (p0 : Hp nz wz S0 w0 (Lr)) :
  Calls Tryz.prog 26 #[.string x0] w0 (Rets (Post.z4u nz wz S0 w0 Lr r)) := by
 refine Zf Tryz.f26 B26 34 ?_
 refine Gj 35 [(0, .string x0)] fun junk => ?_
 delta M.a4b at h
 refine Gn 6 [(2, .string (⟨#[]⟩ : ByteArray))] (Yt 110 B26 [0] (Ys 111 B26 [])) ?_
 refine Oa 143 3 0 (.agg #[.pointer none, .slice none 0 0]) [.pointer none, .slice none 0 0] p0 Goes.v fun b1 w2 z2 p2 => ?_
 refine Gn 10 [(6, .string x0), (7, .i (x0.size : Int)), (8, .i 0)] Jxx ?_
 have p2 : Hp nz wz S0 w2 ((none, .row 5 [] (0 * (kInt .u8).size) 0) :: (some b1, .row 143 [.pointer none, .slice none 0 0] 2 0) :: Lr) := p2.nilRow' 5
 have p2 := (p2.fr 0).fr 1
 exact Gj 35 [(0, .string x0), (3, (pt b1 0)), (7, .i (x0.size : Int)), (8, .i 0)] (W.z4y _ _ h _ _ z2 _ none 0 0 [] p2 (Els.nil (K := (kInt .u8))) rfl)


def Post.z4z (r : Bool) (v : Value) (w' : World) : Prop :=
 ∃ S', v = .bool r ∧ Ext S0 w0 S' w' ∧ Hp nz wz S' w' (Lr)

theorem W.z4z (x0 : ByteArray) (r : Bool) (h : M.a4c x0 = some r) {nz wz S0 w0 Lr} (p0 : Hp nz wz S0 w0 (Lr)) :
  Calls Tryz.prog 250 #[.string x0] w0 (Rets (Post.z4z nz wz S0 w0 Lr r)) := by
 refine Zf Tryz.f250 B250 5 ?_
 refine Gj 6 [(0, .string x0)] fun junk => ?_
 delta M.a4c at h
 refine Gm 11 [([2, 5], .bool (!(x0.toList == x0.toList))), ([3, 4], .string x0)] (Ys 111 B250 []) ?_
 obtain rfl := sj h
 exact Goes.rt Tryz.f250 (.bool (!(x0.toList == x0.toList))) ⟨_, rfl, (Ext.refl S0 w0), p0⟩

def Jye := Ys 111 B201 []
def Qs6 := Yq 110 B201

def Post.z50 (r : Bool) (v : Value) (w' : World) : Prop :=
 ∃ S', v = .bool r ∧ Ext S0 w0 S' w' ∧ Hp nz wz S' w' (Lr)

theorem W.z50 (x0 : ByteArray) (x1 : ByteArray) (r : Bool) (h : M.a4d x0 x1 = some r) {nz wz S0 w0 Lr} (p0 : Hp nz wz S0 w0 (Lr)) :
  Calls Tryz.prog 201 #[.string x0, .string x1] w0 (Rets (Post.z50 nz wz S0 w0 Lr r)) := by
 refine Zf Tryz.f201 B201 15 ?_
 refine Gj 17 [(0, .string x0), (1, .string x1)] fun junk => ?_
 delta M.a4d at h
 refine Gn 7 [(4, .bool false), (5, .string x0)] (Zr Qs6 [1, 2, 3, 4, 5, 6, 7, 8, 9, 10, 11, 12] Jye) ?_
 refine Gb h fun y1 e2 h => ?_
 refine Gc (kc 250 [5] #[9]) 6 4 250 _ (W.z4z x0 y1 e2  p0 ) ?_
 rintro _ w2 ⟨S2, rfl, z2, p2⟩
 refine Gn 1 [(7, .bool y1)] (Zr Qs6 [3, 4, 5, 6, 7, 8, 9, 10, 11, 12] Jye) ?_
 refine Gi h (fun h3 h => ?_) fun h3 h => ?_
 ·
  rw [h3]
  refine Gn 1 [(8, .string x1)] (Zr Qs6 [4, 5, 6, 7, 8, 9, 10, 11, 12] Jye) ?_
  refine Gb h fun y4 e5 h => ?_
  refine Gc (kc 250 [8] #[9]) 9 4 250 _ (W.z4z x1 y4 e5  p2 ) ?_
  rintro _ w3 ⟨S3, rfl, z3, p3⟩
  refine Gm 3 [([10, 11, 12], .bool (!y4))] (Zr Qs6 [8, 9, 10, 11, 12] Jye) ?_
  refine Gi h (fun h6 h => ?_) fun h6 h => ?_
  ·
   rw [h6]
   refine Gm 6 [([13], .string x0), ([14], .string x1), ([15, 16, 4], .bool (Op.bytesLess x0.toList x1.toList))] Jye ?_
   obtain rfl := sj h
   exact Goes.rt Tryz.f201 (.bool (Op.bytesLess x0.toList x1.toList)) ⟨_, rfl, (z2.t z3), p3⟩
  ·
   rw [bf h6]
   refine Gm 6 [([13, 14, 15], undef), ([16, 4], .bool true)] Jye ?_
   obtain rfl := sj h
   exact Goes.rt Tryz.f201 (.bool true) ⟨_, rfl, (z2.t z3), p3⟩
 ·
  rw [bf h3]
  refine Gm 11 [([8, 9, 10], undef), ([11, 12], .bool false), ([13], .string x0), ([14], .string x1), ([15, 16, 4], .bool (Op.bytesLess x0.toList x1.toList))] Jye ?_
  obtain rfl := sj h
  exact Goes.rt Tryz.f201 (.bool (Op.bytesLess x0.toList x1.toList)) ⟨_, rfl, z2, p2⟩


def Post.z51 (r : Bool) (v : Value) (w' : World) : Prop :=
 ∃ S', v = .bool r ∧ Ext S0 w0 S' w' ∧ Hp nz wz S' w' (Lr)

theorem W.z51 (x0 : ByteArray) (r : Bool) (h : M.a4e x0 = some r) {nz wz S0 w0 Lr} (p0 : Hp nz wz S0 w0 (Lr)) :
  Calls Tryz.prog 202 #[.string x0] w0 (Rets (Post.z51 nz wz S0 w0 Lr r)) := by
 refine Zf Tryz.f202 B202 5 ?_
 refine Gj 6 [(0, .string x0)] fun junk => ?_
 delta M.a4e at h
 refine Gm 11 [([2, 5], .bool (!(x0.toList == x0.toList))), ([3, 4], .string x0)] (Ys 111 B202 []) ?_
 obtain rfl := sj h
 exact Goes.rt Tryz.f202 (.bool (!(x0.toList == x0.toList))) ⟨_, rfl, (Ext.refl S0 w0), p0⟩

def Qs9 := Yq 1111000 B137
def Jym := Zl Qs9 (Zb 0 (Ys 11111 B137 []))
def Jyn := Zc Qs9 Jym
def Jyo := Zb 1 Jym
def Jyr := Ys 11110001011 B137 Jyo
def Qsd := Yq 11110001010 B137
def Jyv := Ys 111111 B137 []
def Qsf := Yq 111110 B137
def Jz1 := Zr Qsf [19, 20, 21, 22, 23, 24] Jyv

def Post.z52 (r : Int × Bool) (v : Value) (w' : World) : Prop :=
 ∃ S', v = .tuple #[.i r.1, .bool r.2] ∧ Ext S0 w0 S' w' ∧ Hp nz wz S' w' (Lr)

def L.z53 : (List ByteArray) × ByteArray × Int × Int × Int → (Int × Bool) → Prop := fun ⟨x0, x1, x6, x7, x8⟩ r => ∀ S1 w1, Ext S0 w0 S1 w1 → ∀ Ax0 nx0 cx0 (_ : Hp nz wz S1 w1 (Lr)) (_ : Rd kStr S1 w1 Ax0 cx0 x0) (_ : x0.length = nx0) (junk : Nat → Value),
 Goes Tryz.prog (base 137) Jyn ⟨lfr 54 [(0, .slice Ax0 nx0 cx0), (1, .string x1), (6, .i x6), (7, .i x7), (8, .i x8)] junk, []⟩ w1 (Done Tryz.prog 137 (Rets (Post.z52 nz wz S0 w0 Lr r)))

def L.z54 : (List ByteArray) × ByteArray × Int × Int × Int → (Int × Bool) → Prop := fun ⟨x0, x1, x6, x7, x8⟩ r => ∀ S1 w1, Ext S0 w0 S1 w1 → ∀ Ax0 nx0 cx0 (_ : Hp nz wz S1 w1 (Lr)) (_ : Rd kStr S1 w1 Ax0 cx0 x0) (_ : x0.length = nx0) (junk : Nat → Value),
 Goes Tryz.prog (base 137) Jyo ⟨lfr 54 [(0, .slice Ax0 nx0 cx0), (1, .string x1), (6, .i x6), (7, .i x7), (8, .i x8)] junk, []⟩ w1 (Done Tryz.prog 137 (Rets (Post.z52 nz wz S0 w0 Lr r)))

theorem W.z55 {nz wz S0 w0 Lr} : (∀ a r, M.a2a a = some r → (L.z53 nz wz S0 w0 Lr) a r) ∧ (∀ a r, M.a3w a = some r → (L.z54 nz wz S0 w0 Lr) a r) := by
 refine M.a2a.mutual_partial_correctness (L.z53 nz wz S0 w0 Lr) (L.z54 nz wz S0 w0 Lr) ?_ ?_
 ·
  intro ul3 ul4 ⟨x0, x1, x6, x7, x8⟩ r h S1 w1 hx Ax0 nx0 cx0 p1 fx0 lx0 junk
  try dsimp only at h
  subst lx0
  refine Gn 7 [(13, .i x7), (14, .i x8), (15, .bool (decide (x7 < x8)))] (Ys 111100001 B137 (Ys 11110001 B137 Jym)) ?_
  refine Gi h (fun h1 h => ?_) fun h1 h => ?_
  ·
   rw [dt h1]
   refine Gm 14 [([16], .i x7), ([17], .i x8), ([18], .i (wr .i64 (x7 + x8))), ([19], .u (wr .u64 (wr .i64 (x7 + x8)))), ([20], .u (ishr .u64 (wr .u64 (wr .i64 (x7 + x8))) 1)), ([21, 9], .i (wr .i64 (ishr .u64 (wr .u64 (wr .i64 (x7 + x8))) 1)))] (Zc Qsd Jyr) ?_
   refine Gn 3 [(22, .slice Ax0 x0.length cx0), (23, .i (wr .i64 (ishr .u64 (wr .u64 (wr .i64 (x7 + x8))) 1)))] (Zr Qsd [2, 3, 4, 5] Jyr) ?_
   refine Gg h fun g2 h => ?_
   refine Gg h fun g3 h => ?_
   refine Gl h fun v7 e8 h => ?_
   refine Oi 43 (.tmp 22) (.tmp 23) 24 0 9 .i64 (wr .i64 (ishr .u64 (wr .u64 (wr .i64 (x7 + x8))) 1)) v7 rfl e8 fx0 Goes.v g2 g3 fun a4 _ f5 q6 => ?_
   obtain rfl := q6
   refine Goes.ld 9 (.tmp 24) 25 9 a4 (.string v7) (f5.cell 0 _ rfl) ?_
   refine Gn 1 [(26, .string x1)] (Zr Qsd [5] Jyr) ?_
   refine Gb h fun y9 e10 h => ?_
   refine Gc (kc 201 [25, 26] #[9, 9]) 27 4 201 _ (W.z50 v7 x1 y9 e10  p1 ) ?_
   rintro _ w2 ⟨S2, rfl, z2, p2⟩
   refine Gn 1 [] Jyr ?_
   refine Gi h (fun h11 h => ?_) fun h11 h => ?_
   ·
    rw [h11]
    refine Gm 6 [([28], .i (wr .i64 (ishr .u64 (wr .u64 (wr .i64 (x7 + x8))) 1))), ([29, 7], .i (wr .i64 ((wr .i64 (ishr .u64 (wr .u64 (wr .i64 (x7 + x8))) 1)) + 1)))] Jyo ?_
    exact Gj 54 [(0, .slice Ax0 x0.length cx0), (1, .string x1), (6, .i x6), (7, .i (wr .i64 ((wr .i64 (ishr .u64 (wr .u64 (wr .i64 (x7 + x8))) 1)) + 1))), (8, .i x8)] (ul4 _ _ h _ _ (hx.t z2) _ _ _ p2 (fx0.ext z2) rfl)
   ·
    rw [bf h11]
    refine Gm 5 [([30, 8], .i (wr .i64 (ishr .u64 (wr .u64 (wr .i64 (x7 + x8))) 1)))] Jyo ?_
    exact Gj 54 [(0, .slice Ax0 x0.length cx0), (1, .string x1), (6, .i x6), (7, .i x7), (8, .i (wr .i64 (ishr .u64 (wr .u64 (wr .i64 (x7 + x8))) 1)))] (ul4 _ _ h _ _ (hx.t z2) _ _ _ p2 (fx0.ext z2) rfl)
  ·
   rw [df h1]
   refine Gm 9 [([31, 32], .i x7), ([33], .i x6), ([34, 35], .bool (decide (x7 < x6)))] (Zr Qsf [5, 6, 7, 8, 9, 10, 11, 12, 13, 14, 15, 16, 17, 18, 19, 20, 21, 22, 23, 24] Jyv) ?_
   refine Gi h (fun h12 h => ?_) fun h12 h => ?_
   ·
    rw [dt h12]
    refine Gn 2 [(36, .slice Ax0 x0.length cx0), (37, .i x7)] (Zr Qsf [7, 8, 9, 10, 11, 12, 13, 14, 15, 16, 17, 18, 19, 20, 21, 22, 23, 24] Jyv) ?_
    refine Gg h fun g13 h => ?_
    refine Gg h fun g14 h => ?_
    refine Oi 43 (.tmp 36) (.tmp 37) 38 0 9 .i64 x7 (gi x0 x7) rfl rfl fx0 Goes.v g13 g14 fun a15 _ f16 q17 => ?_
    obtain rfl := q17
    refine Goes.ld 9 (.tmp 38) 39 9 a15 (.string (gi x0 x7)) (f16.cell 0 _ rfl) ?_
    refine Gm 3 [([40], .string x1), ([41, 42], .bool ((gi x0 x7).toList == x1.toList))] (Zr Qsf [12, 13, 14, 15, 16, 17, 18, 19, 20, 21, 22, 23, 24] Jyv) ?_
    refine Gi h (fun h18 h => ?_) fun h18 h => ?_
    ·
     rw [h18]
     refine Gm 14 [([43, 44, 45, 46, 47, 48, 49, 50, 51], undef), ([52, 53, 5], .bool true), ([4], .i x7)] Jyv ?_
     obtain rfl := sj h
     exact Goes.rt Tryz.f137 (.tuple #[.i x7, .bool true]) ⟨_, rfl, hx, p1⟩
    ·
     rw [bf h18]
     refine Gn 2 [(43, .slice Ax0 x0.length cx0), (44, .i x7)] (Zr Qsf [14, 15, 16, 17, 18, 19, 20, 21, 22, 23, 24] Jyv) ?_
     refine Oi 43 (.tmp 43) (.tmp 44) 45 0 9 .i64 x7 (gi x0 x7) rfl rfl fx0 Goes.v g13 g14 fun a19 _ f20 q21 => ?_
     obtain rfl := q21
     refine Goes.ld 9 (.tmp 45) 46 9 a19 (.string (gi x0 x7)) (f20.cell 0 _ rfl) ?_
     refine Gb h fun y22 e23 h => ?_
     refine Gc (kc 202 [46] #[9]) 47 4 202 _ (W.z51 (gi x0 x7) y22 e23  p1 ) ?_
     rintro _ w3 ⟨S3, rfl, z3, p3⟩
     refine Gn 1 [(48, .bool y22)] (Zr Qsf [18, 19, 20, 21, 22, 23, 24] Jyv) ?_
     refine Gi h (fun h24 h => ?_) fun h24 h => ?_
     ·
      rw [h24]
      refine Gn 1 [(49, .string x1)] Jz1 ?_
      refine Gb h fun y25 e26 h => ?_
      refine Gc (kc 202 [49] #[9]) 50 4 202 _ (W.z51 x1 y25 e26  p3 ) ?_
      rintro _ w4 ⟨S4, rfl, z4, p4⟩
      refine Gm 6 [([51, 52, 53, 5], .bool y25), ([4], .i x7)] Jyv ?_
      obtain rfl := sj h
      exact Goes.rt Tryz.f137 (.tuple #[.i x7, .bool y25]) ⟨_, rfl, ((hx.t z3).t z4), p4⟩
     ·
      rw [bf h24]
      refine Gm 8 [([49, 50], undef), ([51, 52, 53, 5], .bool false), ([4], .i x7)] Jyv ?_
      obtain rfl := sj h
      exact Goes.rt Tryz.f137 (.tuple #[.i x7, .bool false]) ⟨_, rfl, (hx.t z3), p3⟩
   ·
    rw [df h12]
    refine Gm 14 [([36, 37, 38, 39, 40, 41, 42, 43, 44, 45, 46, 47, 48, 49], undef)] Jz1 ?_
    refine Gm 7 [([50, 51, 52], undef), ([53, 5], .bool false), ([4], .i x7)] Jyv ?_
    obtain rfl := sj h
    exact Goes.rt Tryz.f137 (.tuple #[.i x7, .bool false]) ⟨_, rfl, hx, p1⟩
 ·
  intro ul5 ul6 ⟨x0, x1, x6, x7, x8⟩ r h S1 w1 hx Ax0 nx0 cx0 p1 fx0 lx0 junk
  try dsimp only at h
  subst lx0
  refine Gn 2 [] Jyn ?_
  exact Gj 54 [(0, .slice Ax0 x0.length cx0), (1, .string x1), (6, .i x6), (7, .i x7), (8, .i x8)] (ul6 _ _ h _ _ hx _ _ _ p1 fx0 rfl)

theorem W.z53 {nz wz S0 w0 Lr} : ∀ a r, M.a2a a = some r → (L.z53 nz wz S0 w0 Lr) a r := (W.z55).1

theorem W.z54 {nz wz S0 w0 Lr} : ∀ a r, M.a3w a = some r → (L.z54 nz wz S0 w0 Lr) a r := (W.z55).2


theorem W.z52 (x0 : List ByteArray) (x1 : ByteArray) (r : Int × Bool) (h : M.a4f x0 x1 = some r) {nz wz S0 w0 Lr} (Ax0 nx0 cx0) (p0 : Hp nz wz S0 w0 (Lr)) (fx0 : Rd kStr S0 w0 Ax0 cx0 x0) (lx0 : x0.length = nx0) :
  Calls Tryz.prog 137 #[.slice Ax0 nx0 cx0, .string x1] w0 (Rets (Post.z52 nz wz S0 w0 Lr r)) := by
 subst lx0
 refine Zf Tryz.f137 B137 52 ?_
 refine Gj 54 [(0, .slice Ax0 x0.length cx0), (1, .string x1)] fun junk => ?_
 delta M.a4f at h
 refine Gm 14 [([4], .i 0), ([5], .bool false), ([10], .slice Ax0 x0.length cx0), ([11, 6, 12], .i (x0.length : Int))] (Yt 1110 B137 [1, 2] (Ys 1111 B137 [])) ?_
 refine Gn 6 [(7, .i 0), (8, .i (x0.length : Int))] Jyn ?_
 exact Gj 54 [(0, .slice Ax0 x0.length cx0), (1, .string x1), (6, .i (x0.length : Int)), (7, .i 0), (8, .i (x0.length : Int))] (W.z53 _ _ h _ _ (Ext.refl S0 w0) _ _ _ p0 fx0 rfl)

def Jz8 := Ys 1111 B74 []
def Jzb := Zb 0 Jz8
def Jzd := Ys 111010101 B74 Jzb
def Qsr := Yq 111010100 B74
def Jzi := Ys 11101011101 B74 Jzb
def Qsv := Yq 11101011100 B74
def Jzm := Ys 1110101111101 B74 Jzb
def Jzo := Ys 11111 B74 []
def Jzs := Ys 111 B136 []
def Jzw := Ys 111 B138 []

def Post.z56 (r : Bool) (v : Value) (w' : World) : Prop :=
 ∃ S', v = .bool r ∧ Ext S0 w0 S' w' ∧ Hp nz wz S' w' (Lr)

def Post.z57 (uf1 : Nat) (ul7 : Nat) (ul8 : Option Addr) (ul9 : Nat) (ula : Nat) (ulb : List ByteArray) (r : Bool) (v : Value) (w' : World) : Prop :=
 ∃ S', v = .bool r ∧ Ext S0 w0 S' w' ∧ Hp nz wz S' w' ((some uf1, .row 232 [.func (.func 136) #[] #[(pt ul7 0)]] 1 0) :: (some ul7, .row 43 [.slice ul8 ul9 ula] 1 0) :: Lr)

def Post.z58 (uf1 : Nat) (ul7 : Nat) (ul8 : Option Addr) (ul9 : Nat) (ula : Nat) (ulb : List ByteArray) (r : Int) (v : Value) (w' : World) : Prop :=
 ∃ S', v = .i r ∧ Ext S0 w0 S' w' ∧ Hp nz wz S' w' ((some uf1, .row 232 [.func (.func 136) #[] #[(pt ul7 0)]] 1 0) :: (some ul7, .row 43 [.slice ul8 ul9 ula] 1 0) :: Lr)

def Post.z59 (gx1 : Nat) (ulc : Nat) (uld : Option Addr) (ule : Nat) (ulf : Nat) (ulg : List ByteArray) (r : Bool) (v : Value) (w' : World) : Prop :=
 ∃ S', v = .bool r ∧ Ext S0 w0 S' w' ∧ Hp nz wz S' w' ((some gx1, .row 232 [.func (.func 136) #[] #[(pt ulc 0)]] 1 0) :: (some ulc, .row 43 [.slice uld ule ulf] 1 0) :: Lr)

def Post.z5a (gx1 : Nat) (ulh : Option Addr) (uli : Nat) (ulj : Nat) (ulk : List ByteArray) (r : Bool) (v : Value) (w' : World) : Prop :=
 ∃ S', v = .bool r ∧ Ext S0 w0 S' w' ∧ Hp nz wz S' w' ((some gx1, .row 43 [.slice ulh uli ulj] 1 0) :: Lr)

def Post.z5b (uf1 : Nat) (ull : Option Addr) (ulm : Nat) (uln : Nat) (uf2 : List ByteArray) (r : Bool) (v : Value) (w' : World) : Prop :=
 ∃ S', v = .bool r ∧ Ext S0 w0 S' w' ∧ Hp nz wz S' w' ((some uf1, .row 43 [.slice ull ulm uln] 1 0) :: Lr)

def Post.z5c (uf1 : Nat) (ull : Option Addr) (ulm : Nat) (uln : Nat) (uf2 : List ByteArray) (r : Int) (v : Value) (w' : World) : Prop :=
 ∃ S', v = .i r ∧ Ext S0 w0 S' w' ∧ Hp nz wz S' w' ((some uf1, .row 43 [.slice ull ulm uln] 1 0) :: Lr)

def LF.z56 : T29 × (List ByteArray) → Bool → Prop := fun ⟨x0, x1⟩ r => ∀ {nz wz S0 w0 Lr} u92 u93 u94 Ax1 nx1 cx1 (_ : Hp nz wz S0 w0 (Lr)) (_ : Rd kT29 S0 w0 u92 u94 x0.L) (_ : x0.L.length = u93) (_ : Rd kStr S0 w0 Ax1 cx1 x1) (_ : x1.length = nx1),
 Calls Tryz.prog 74 #[(ag (vT29 x0 u92 u93 u94)), .slice Ax1 nx1 cx1] w0 (Rets (Post.z56 nz wz S0 w0 Lr r))

def LF.z57 : (List T29) × (List ByteArray) → Bool → Prop := fun ⟨x0, ulb⟩ r => ∀ {nz wz S0 w0 Lr} Ax0 nx0 cx0 uf1 ul7 ul8 ul9 ula (_ : Hp nz wz S0 w0 ((some uf1, .row 232 [.func (.func 136) #[] #[(pt ul7 0)]] 1 0) :: (some ul7, .row 43 [.slice ul8 ul9 ula] 1 0) :: Lr)) (_ : Rd kT29 S0 w0 Ax0 cx0 x0) (_ : x0.length = nx0) (_ : Rd kStr S0 w0 ul8 ula ulb) (_ : ulb.length = ul9),
 Calls Tryz.prog 128 #[.slice Ax0 nx0 cx0, .func (.func 138) #[] #[(pt uf1 0)]] w0 (Rets (Post.z57 nz wz S0 w0 Lr uf1 ul7 ul8 ul9 ula ulb r))

def LF.z58 : (List T29) × (List ByteArray) → Int → Prop := fun ⟨x0, ulb⟩ r => ∀ {nz wz S0 w0 Lr} Ax0 nx0 cx0 uf1 ul7 ul8 ul9 ula (_ : Hp nz wz S0 w0 ((some uf1, .row 232 [.func (.func 136) #[] #[(pt ul7 0)]] 1 0) :: (some ul7, .row 43 [.slice ul8 ul9 ula] 1 0) :: Lr)) (_ : Rd kT29 S0 w0 Ax0 cx0 x0) (_ : x0.length = nx0) (_ : Rd kStr S0 w0 ul8 ula ulb) (_ : ulb.length = ul9),
 Calls Tryz.prog 195 #[.slice Ax0 nx0 cx0, .func (.func 138) #[] #[(pt uf1 0)]] w0 (Rets (Post.z58 nz wz S0 w0 Lr uf1 ul7 ul8 ul9 ula ulb r))

def L.z5d (uf1 : Nat) (ul7 : Nat) (ul8 : Option Addr) (ul9 : Nat) (ula : Nat) : (List T29) × Int × Int × (List ByteArray) → Int → Prop := fun ⟨x0, x7, x8, ulb⟩ r => ∀ S1 w1, Ext S0 w0 S1 w1 → ∀ Ax0 nx0 cx0 (_ : Hp nz wz S1 w1 ((some uf1, .row 232 [.func (.func 136) #[] #[(pt ul7 0)]] 1 0) :: (some ul7, .row 43 [.slice ul8 ul9 ula] 1 0) :: Lr)) (_ : Rd kT29 S1 w1 Ax0 cx0 x0) (_ : x0.length = nx0) (_ : Rd kStr S1 w1 ul8 ula ulb) (_ : ulb.length = ul9) (junk : Nat → Value),
 Goes Tryz.prog (base 195) Joj ⟨lfr 19 [(0, .slice Ax0 nx0 cx0), (1, .func (.func 138) #[] #[(pt uf1 0)]), (7, .i x7), (8, .i x8)] junk, []⟩ w1 (Done Tryz.prog 195 (Rets (Post.z58 nz wz S0 w0 Lr uf1 ul7 ul8 ul9 ula ulb r)))

def LL.z5d : (List T29) × Int × Int × (List ByteArray) → Int → Prop := fun a r => ∀ {nz wz S0 w0 Lr} (uf1 : Nat) (ul7 : Nat) (ul8 : Option Addr) (ul9 : Nat) (ula : Nat), L.z5d nz wz S0 w0 Lr uf1 ul7 ul8 ul9 ula a r

def LF.z59 : T29 × (List ByteArray) → Bool → Prop := fun ⟨x0, ulg⟩ r => ∀ {nz wz S0 w0 Lr} u92 u93 u94 gx1 ulc uld ule ulf (_ : Hp nz wz S0 w0 ((some gx1, .row 232 [.func (.func 136) #[] #[(pt ulc 0)]] 1 0) :: (some ulc, .row 43 [.slice uld ule ulf] 1 0) :: Lr)) (_ : Rd kT29 S0 w0 u92 u94 x0.L) (_ : x0.L.length = u93) (_ : Rd kStr S0 w0 uld ulf ulg) (_ : ulg.length = ule),
 Calls Tryz.prog 138 #[(ag (vT29 x0 u92 u93 u94)), (pt gx1 0)] w0 (Rets (Post.z59 nz wz S0 w0 Lr gx1 ulc uld ule ulf ulg r))

def LF.z5a : T29 × (List ByteArray) → Bool → Prop := fun ⟨x0, ulk⟩ r => ∀ {nz wz S0 w0 Lr} u92 u93 u94 gx1 ulh uli ulj (_ : Hp nz wz S0 w0 ((some gx1, .row 43 [.slice ulh uli ulj] 1 0) :: Lr)) (_ : Rd kT29 S0 w0 u92 u94 x0.L) (_ : x0.L.length = u93) (_ : Rd kStr S0 w0 ulh ulj ulk) (_ : ulk.length = uli),
 Calls Tryz.prog 136 #[(ag (vT29 x0 u92 u93 u94)), (pt gx1 0)] w0 (Rets (Post.z5a nz wz S0 w0 Lr gx1 ulh uli ulj ulk r))

def LF.z5b : (List T29) × (List ByteArray) → Bool → Prop := fun ⟨x0, uf2⟩ r => ∀ {nz wz S0 w0 Lr} Ax0 nx0 cx0 uf1 ull ulm uln (_ : Hp nz wz S0 w0 ((some uf1, .row 43 [.slice ull ulm uln] 1 0) :: Lr)) (_ : Rd kT29 S0 w0 Ax0 cx0 x0) (_ : x0.length = nx0) (_ : Rd kStr S0 w0 ull uln uf2) (_ : uf2.length = ulm),
 Calls Tryz.prog 128 #[.slice Ax0 nx0 cx0, .func (.func 136) #[] #[(pt uf1 0)]] w0 (Rets (Post.z5b nz wz S0 w0 Lr uf1 ull ulm uln uf2 r))

def LF.z5c : (List T29) × (List ByteArray) → Int → Prop := fun ⟨x0, uf2⟩ r => ∀ {nz wz S0 w0 Lr} Ax0 nx0 cx0 uf1 ull ulm uln (_ : Hp nz wz S0 w0 ((some uf1, .row 43 [.slice ull ulm uln] 1 0) :: Lr)) (_ : Rd kT29 S0 w0 Ax0 cx0 x0) (_ : x0.length = nx0) (_ : Rd kStr S0 w0 ull uln uf2) (_ : uf2.length = ulm),
 Calls Tryz.prog 195 #[.slice Ax0 nx0 cx0, .func (.func 136) #[] #[(pt uf1 0)]] w0 (Rets (Post.z5c nz wz S0 w0 Lr uf1 ull ulm uln uf2 r))

def L.z5e (uf1 : Nat) (ull : Option Addr) (ulm : Nat) (uln : Nat) : (List T29) × Int × Int × (List ByteArray) → Int → Prop := fun ⟨x0, x7, x8, uf2⟩ r => ∀ S1 w1, Ext S0 w0 S1 w1 → ∀ Ax0 nx0 cx0 (_ : Hp nz wz S1 w1 ((some uf1, .row 43 [.slice ull ulm uln] 1 0) :: Lr)) (_ : Rd kT29 S1 w1 Ax0 cx0 x0) (_ : x0.length = nx0) (_ : Rd kStr S1 w1 ull uln uf2) (_ : uf2.length = ulm) (junk : Nat → Value),
 Goes Tryz.prog (base 195) Joj ⟨lfr 19 [(0, .slice Ax0 nx0 cx0), (1, .func (.func 136) #[] #[(pt uf1 0)]), (7, .i x7), (8, .i x8)] junk, []⟩ w1 (Done Tryz.prog 195 (Rets (Post.z5c nz wz S0 w0 Lr uf1 ull ulm uln uf2 r)))

def LL.z5e : (List T29) × Int × Int × (List ByteArray) → Int → Prop := fun a r => ∀ {nz wz S0 w0 Lr} (uf1 : Nat) (ull : Option Addr) (ulm : Nat) (uln : Nat), L.z5e nz wz S0 w0 Lr uf1 ull ulm uln a r

theorem W.z5f : (∀ a r, M.a2b a = some r → LF.z56 a r) ∧ (∀ a r, M.a4t a = some r → LF.z5b a r) ∧ (∀ a r, M.a4w a = some r → LF.z5c a r) ∧ (∀ a r, M.a2d a = some r → LL.z5e a r) ∧ (∀ a r, M.a3x a = some r → LF.z5a a r) ∧ (∀ a r, M.a4s a = some r → LF.z57 a r) ∧ (∀ a r, M.a4u a = some r → LF.z58 a r) ∧ (∀ a r, M.a2c a = some r → LL.z5d a r) ∧ (∀ a r, M.a4v a = some r → LF.z59 a r) := by
 refine M.a2b.mutual_partial_correctness LF.z56 LF.z5b LF.z5c LL.z5e LF.z5a LF.z57 LF.z58 LL.z5d LF.z59 ?_ ?_ ?_ ?_ ?_ ?_ ?_ ?_ ?_
 ·
  intro ulo ulp ulq ulr ⟨x0, x1⟩ r h nz wz S0 w0 Lr u92 u93 u94 Ax1 nx1 cx1 p0 u9f u9g fx1 lx1
  try dsimp only at h
  subst u9g
  subst lx1
  refine Zf Tryz.f74 B74 35 ?_
  refine Gj 37 [(0, (ag (vT29 x0 u92 x0.L.length u94))), (1, .slice Ax1 x1.length cx1)] fun junk => ?_
  refine Gn 2 [] (Yt 10 B74 [0, 1, 2] (Ys 11 B74 [])) ?_
  refine Ob 30 (.tmp 0) 2 0 (ag (vT29 x0 u92 x0.L.length u94)) (vT29 x0 u92 x0.L.length u94) p0 Goes.v fun b1 w2 z2 p2 => ?_
  refine Ob 43 (.tmp 1) 3 0 (.slice Ax1 x1.length cx1) [.slice Ax1 x1.length cx1] p2 Goes.v fun b3 w3 z3 p3 => ?_
  refine Gn 5 [(4, .bool false), (8, .func (.func 136) #[] #[(pt b3 0)])] (Yt 110 B74 [1, 2] (Ys 111 B74 [])) ?_
  refine Oa 232 5 0 (.nilFunc) [.nilFunc] p3 Goes.v fun b5 w4 z4 p4 => ?_
  refine So 232 (.tmp 5) (.tmp 8) 0 0 b5 0 (.func (.func 136) #[] #[(pt b3 0)]) [.func (.func 136) #[] #[(pt b3 0)]] p4 rfl Goes.s fun w5 z5 p5 => ?_
  refine Gn 5 [(9, (pt b1 0))] (Yt 11100 B74 [1] (Ys 11101 B74 Jz8)) ?_
  refine Goes.ld 3 (.tmp 9) 10 3 ⟨b1, 0, none⟩ (.i x0.Op) (p5.c 2 0) ?_
  refine Gm 7 [([12, 11], .bool (decide (x0.Op = 2)))] (Ys 1110101 B74 Jzb) ?_
  refine Gi h (fun h7 h => ?_) fun h7 h => ?_
  ·
   rw [dt h7]
   refine Gn 3 [] (Zr Qsr [0, 1, 2, 3, 4, 5, 6, 7, 8] Jzd) ?_
   refine Goes.ld 43 (.tmp 3) 14 43 ⟨b3, 0, none⟩ (.slice Ax1 x1.length cx1) (p5.c 1 0) ?_
   refine Gn 1 [(15, (pt b1 1))] (Zr Qsr [2, 3, 4, 5, 6, 7, 8] Jzd) ?_
   refine Goes.ld 9 (.tmp 15) 16 9 ⟨b1, 1, none⟩ (.string x0.Text) (p5.c 2 1) ?_
   refine Gb h fun y8 e9 h => ?_
   refine Gc (kc 137 [14, 16] #[43, 9]) 17 237 137 _ (W.z52 x1 x0.Text y8 e9 _ _ _ p5 (fx1.ext (((z2.t z3).t z4).t z5)) rfl) ?_
   rintro _ w6 ⟨S6, rfl, z6, p6⟩
   have p6 := ((p6.dp 0).dp 0).dp 0
   refine Gm 11 [([13], .tuple #[.i y8.1, .bool y8.2]), ([18, 6], .i y8.1), ([19, 7, 20, 4], .bool y8.2)] (Ys 1110101011 B74 Jzb) ?_
   obtain rfl := sj h
   exact Goes.rt Tryz.f74 (.bool y8.2) ⟨_, rfl, ((((z2.t z3).t z4).t z5).t z6), p6⟩
  ·
   rw [df h7]
   refine Gm 6 [([22, 21], .bool (decide (x0.Op = 3)))] (Ys 111010111 B74 Jzb) ?_
   refine Gi h (fun h10 h => ?_) fun h10 h => ?_
   ·
    rw [dt h10]
    refine Gn 4 [(23, (pt b1 2))] (Zr Qsv [1, 2, 3, 4, 5] Jzi) ?_
    refine Goes.ld 28 (.tmp 23) 24 28 ⟨b1, 2, none⟩ (.slice u92 x0.L.length u94) (p5.c 2 2) ?_
    refine Gn 1 [(25, .func (.func 138) #[] #[(pt b5 0)])] (Zr Qsv [3, 4, 5] Jzi) ?_
    refine Gb h fun y11 e12 h => ?_
    refine Gc (kc 128 [24, 25] #[28, 232]) 26 4 128 _ (ulr (x0.L, x1) y11 e12 _ _ _ _ _ _ _ _ p5 (u9f.ext (((z2.t z3).t z4).t z5)) rfl (fx1.ext (((z2.t z3).t z4).t z5)) rfl) ?_
    rintro _ w7 ⟨S7, rfl, z7, p7⟩
    have p7 := ((p7.dp 0).dp 0).dp 0
    refine Gm 3 [([27, 4], .bool (!y11))] Jzi ?_
    obtain rfl := sj h
    exact Goes.rt Tryz.f74 (.bool (!y11)) ⟨_, rfl, ((((z2.t z3).t z4).t z5).t z7), p7⟩
   ·
    rw [df h10]
    refine Gm 6 [([29, 28], .bool (decide (x0.Op = 4)))] (Ys 11101011111 B74 Jzb) ?_
    refine Gi h (fun h13 h => ?_) fun h13 h => ?_
    ·
     rw [dt h13]
     refine Gn 4 [(30, (pt b1 2))] (Yt 1110101111100 B74 [1, 2, 3, 4] Jzm) ?_
     refine Goes.ld 28 (.tmp 30) 31 28 ⟨b1, 2, none⟩ (.slice u92 x0.L.length u94) (p5.c 2 2) ?_
     refine Goes.ld 232 (.tmp 5) 32 232 ⟨b5, 0, none⟩ (.func (.func 136) #[] #[(pt b3 0)]) (p5.c 0 0) ?_
     have p5 := p5.fr 1
     refine Gb h fun y14 e15 h => ?_
     refine Gc (kc 128 [31, 32] #[28, 232]) 33 4 128 _ (ulq (x0.L, x1) y14 e15 _ _ _ _ _ _ _ p5 (u9f.ext (((z2.t z3).t z4).t z5)) rfl (fx1.ext (((z2.t z3).t z4).t z5)) rfl) ?_
     rintro _ w8 ⟨S8, rfl, z8, p8⟩
     have p8 := ((p8.dp 0).dp 0).dp 0
     refine Gn 2 [(4, .bool y14)] Jzm ?_
     obtain rfl := sj h
     exact Goes.rt Tryz.f74 (.bool y14) ⟨_, rfl, ((((z2.t z3).t z4).t z5).t z8), p8⟩
    ·
     rw [df h13]
     refine Gn 6 [(34, (pt b1 0))] (Yt 11110 B74 [1, 2, 3] Jzo) ?_
     refine Goes.ld 3 (.tmp 34) 35 3 ⟨b1, 0, none⟩ (.i x0.Op) (p5.c 2 0) ?_
     refine Gm 3 [([36, 4], .bool (decide (x0.Op = 0)))] Jzo ?_
     obtain rfl := sj h
     have p5 := ((p5.dp 0).dp 0).dp 0
     exact Goes.rt Tryz.f74 (.bool (decide (x0.Op = 0))) ⟨_, rfl, (((z2.t z3).t z4).t z5), p5⟩
 ·
  intro uls ult ⟨x0, uf2⟩ r h nz wz S0 w0 Lr Ax0 nx0 cx0 uf1 ull ulm uln p0 fx0 lx0 ulu ulv
  try dsimp only at h
  subst lx0
  subst ulv
  refine Zf Tryz.f128 B128 7 ?_
  refine Gj 9 [(0, .slice Ax0 x0.length cx0), (1, .func (.func 136) #[] #[(pt uf1 0)])] fun junk => ?_
  refine Gn 8 [(4, .bool false), (5, .slice Ax0 x0.length cx0), (6, .func (.func 136) #[] #[(pt uf1 0)])] Jot ?_
  refine Gb h fun y2 e3 h => ?_
  refine Gc (kc 195 [5, 6] #[28, 232]) 7 3 195 _ (ult (x0, uf2) y2 e3 _ _ _ _ _ _ _ p0 fx0 rfl ulu rfl) ?_
  rintro _ w2 ⟨S2, rfl, z2, p2⟩
  refine Gm 3 [([8, 4], .bool (decide (y2 ≥ 0)))] Jos ?_
  obtain rfl := sj h
  exact Goes.rt Tryz.f128 (.bool (decide (y2 ≥ 0))) ⟨_, rfl, z2, p2⟩
 ·
  intro ulw ulx ⟨x0, uf2⟩ r h nz wz S0 w0 Lr Ax0 nx0 cx0 uf1 ull ulm uln p0 fx0 lx0 ulu ulv
  try dsimp only at h
  subst lx0
  subst ulv
  refine Zf Tryz.f195 B195 17 ?_
  refine Gj 19 [(0, .slice Ax0 x0.length cx0), (1, .func (.func 136) #[] #[(pt uf1 0)])] fun junk => ?_
  refine Gm 13 [([4, 8], .i 0), ([6], .slice Ax0 x0.length cx0), ([7], .i (x0.length : Int))] Joj ?_
  exact Gj 19 [(0, .slice Ax0 x0.length cx0), (1, .func (.func 136) #[] #[(pt uf1 0)]), (7, .i (x0.length : Int)), (8, .i 0)] (ulx _ _ h uf1 ull uf2.length uln _ _ (Ext.refl S0 w0) _ _ _ p0 fx0 rfl ulu rfl)
 ·
  intro ulw uly ulx ulz ⟨x0, x7, x8, uf2⟩ r h nz wz S0 w0 Lr uf1 ull ulm uln S1 w1 hx Ax0 nx0 cx0 p1 fx0 lx0 ug2 ug3 junk
  try dsimp only at h
  subst lx0
  subst ug3
  refine Gn 5 [(9, .bool (decide (x8 < x7)))] Jol ?_
  refine Gi h (fun h2 h => ?_) fun h2 h => ?_
  ·
   rw [dt h2]
   refine Gm 14 [([10, 5, 13], .i x8), ([11], .func (.func 136) #[] #[(pt uf1 0)]), ([12], .slice Ax0 x0.length cx0)] Jop ?_
   refine Gg h fun g3 h => ?_
   refine Gg h fun g4 h => ?_
   refine Oi 28 (.tmp 12) (.tmp 13) 14 0 30 .i64 x8 (gi x0 x8) rfl rfl fx0 Goes.v g3 g4 fun a5 _ f6 q7 => ?_
   have q8 := q7
   obtain ⟨_, _, rfl, rfl, ⟨_, _, rfl, rfl, ⟨A9, c10, rfl, f11⟩⟩⟩ := kT29_open q8
   refine Goes.ldN 30 (.tmp 14) 15 30 a5 ([.i ((gi x0 x8).Op)] ++ ([.string ((gi x0 x8).Text)] ++ [.slice A9 (((gi x0 x8).L).length) c10])) (f6.cell) ?_
   refine Gb h fun y12 e13 h => ?_
   refine Gc (.call { callee := .value (.tmp 11), args := #[(.tmp 15)], argTypes := #[30] }) 16 4 136 _ (ulz (gi x0 x8, uf2) y12 e13 _ _ _ _ _ _ _ p1 f11 rfl ug2 rfl) ?_
   rintro _ w2 ⟨S2, rfl, z2, p2⟩
   refine Gn 1 [] Joo ?_
   refine Gi h (fun h14 h => ?_) fun h14 h => ?_
   ·
    rw [h14]
    refine Gm 6 [([17, 4], .i x8)] Joq ?_
    obtain rfl := sj h
    exact Goes.rt Tryz.f195 (.i x8) ⟨_, rfl, (hx.t z2), p2⟩
   ·
    rw [bf h14]
    refine Gm 8 [([18, 8], .i (wr .i64 (x8 + 1)))] Joj ?_
    exact Gj 19 [(0, .slice Ax0 x0.length cx0), (1, .func (.func 136) #[] #[(pt uf1 0)]), (7, .i x7), (8, .i (wr .i64 (x8 + 1)))] (ulx _ _ h uf1 ull uf2.length uln _ _ (hx.t z2) _ _ _ p2 (fx0.ext z2) rfl (ug2.ext z2) rfl)
  ·
   rw [df h2]
   refine Gn 6 [(4, .i (-1))] Jor ?_
   obtain rfl := sj h
   exact Goes.rt Tryz.f195 (.i (-1)) ⟨_, rfl, hx, p1⟩
 ·
  intro rec_gram_Query_fits ih_gram_Query_fits ⟨x0, ulk⟩ r h nz wz S0 w0 Lr u92 u93 u94 gx1 ulh uli ulj p0 u9f u9g um0 um1
  try dsimp only at h
  subst u9g
  subst um1
  refine Zf Tryz.f136 B136 5 ?_
  refine Gj 7 [(0, (ag (vT29 x0 u92 x0.L.length u94))), (1, (pt gx1 0))] fun junk => ?_
  refine Gn 2 [] (Yt 10 B136 [0, 1] (Ys 11 B136 [])) ?_
  refine Ob 30 (.tmp 0) 2 0 (ag (vT29 x0 u92 x0.L.length u94)) (vT29 x0 u92 x0.L.length u94) p0 Goes.v fun b2 w2 z2 p2 => ?_
  refine Gn 4 [(3, .bool false)] (Yt 110 B136 [0, 1, 2, 3] Jzs) ?_
  refine Goes.ldN 30 (.tmp 2) 4 30 ⟨b2, 0, none⟩ (vT29 x0 u92 x0.L.length u94) (p2.pa 0 0) ?_
  refine Goes.ld 43 (.tmp 1) 5 43 ⟨gx1, 0, none⟩ (.slice ulh ulk.length ulj) (p2.c 1 0) ?_
  refine Gb h fun y4 e5 h => ?_
  refine Gc (kc 74 [4, 5] #[30, 43]) 6 4 74 _ (ih_gram_Query_fits (x0, ulk) y4 e5 _ _ _ _ _ _ p2 (u9f.ext z2) rfl (um0.ext z2) rfl) ?_
  rintro _ w3 ⟨S3, rfl, z3, p3⟩
  have p3 := p3.dp 0
  refine Gn 2 [(3, .bool y4)] Jzs ?_
  obtain rfl := sj h
  exact Goes.rt Tryz.f136 (.bool y4) ⟨_, rfl, (z2.t z3), p3⟩
 ·
  intro um2 um3 ⟨x0, ulb⟩ r h nz wz S0 w0 Lr Ax0 nx0 cx0 uf1 ul7 ul8 ul9 ula p0 fx0 lx0 um4 um5
  try dsimp only at h
  subst lx0
  subst um5
  refine Zf Tryz.f128 B128 7 ?_
  refine Gj 9 [(0, .slice Ax0 x0.length cx0), (1, .func (.func 138) #[] #[(pt uf1 0)])] fun junk => ?_
  refine Gn 8 [(4, .bool false), (5, .slice Ax0 x0.length cx0), (6, .func (.func 138) #[] #[(pt uf1 0)])] Jot ?_
  refine Gb h fun y3 e4 h => ?_
  refine Gc (kc 195 [5, 6] #[28, 232]) 7 3 195 _ (um3 (x0, ulb) y3 e4 _ _ _ _ _ _ _ _ p0 fx0 rfl um4 rfl) ?_
  rintro _ w2 ⟨S2, rfl, z2, p2⟩
  refine Gm 3 [([8, 4], .bool (decide (y3 ≥ 0)))] Jos ?_
  obtain rfl := sj h
  exact Goes.rt Tryz.f128 (.bool (decide (y3 ≥ 0))) ⟨_, rfl, z2, p2⟩
 ·
  intro um6 um7 ⟨x0, ulb⟩ r h nz wz S0 w0 Lr Ax0 nx0 cx0 uf1 ul7 ul8 ul9 ula p0 fx0 lx0 um4 um5
  try dsimp only at h
  subst lx0
  subst um5
  refine Zf Tryz.f195 B195 17 ?_
  refine Gj 19 [(0, .slice Ax0 x0.length cx0), (1, .func (.func 138) #[] #[(pt uf1 0)])] fun junk => ?_
  refine Gm 13 [([4, 8], .i 0), ([6], .slice Ax0 x0.length cx0), ([7], .i (x0.length : Int))] Joj ?_
  exact Gj 19 [(0, .slice Ax0 x0.length cx0), (1, .func (.func 138) #[] #[(pt uf1 0)]), (7, .i (x0.length : Int)), (8, .i 0)] (um7 _ _ h uf1 ul7 ul8 ulb.length ula _ _ (Ext.refl S0 w0) _ _ _ p0 fx0 rfl um4 rfl)
 ·
  intro um6 um8 um7 um9 ⟨x0, x7, x8, ulb⟩ r h nz wz S0 w0 Lr uf1 ul7 ul8 ul9 ula S1 w1 hx Ax0 nx0 cx0 p1 fx0 lx0 ug2 ug3 junk
  try dsimp only at h
  subst lx0
  subst ug3
  refine Gn 5 [(9, .bool (decide (x8 < x7)))] Jol ?_
  refine Gi h (fun h3 h => ?_) fun h3 h => ?_
  ·
   rw [dt h3]
   refine Gm 14 [([10, 5, 13], .i x8), ([11], .func (.func 138) #[] #[(pt uf1 0)]), ([12], .slice Ax0 x0.length cx0)] Jop ?_
   refine Gg h fun g4 h => ?_
   refine Gg h fun g5 h => ?_
   refine Oi 28 (.tmp 12) (.tmp 13) 14 0 30 .i64 x8 (gi x0 x8) rfl rfl fx0 Goes.v g4 g5 fun a6 _ f7 q8 => ?_
   have q9 := q8
   obtain ⟨_, _, rfl, rfl, ⟨_, _, rfl, rfl, ⟨A10, c11, rfl, f12⟩⟩⟩ := kT29_open q9
   refine Goes.ldN 30 (.tmp 14) 15 30 a6 ([.i ((gi x0 x8).Op)] ++ ([.string ((gi x0 x8).Text)] ++ [.slice A10 (((gi x0 x8).L).length) c11])) (f7.cell) ?_
   refine Gb h fun y13 e14 h => ?_
   refine Gc (.call { callee := .value (.tmp 11), args := #[(.tmp 15)], argTypes := #[30] }) 16 4 138 _ (um9 (gi x0 x8, ulb) y13 e14 _ _ _ _ _ _ _ _ p1 f12 rfl ug2 rfl) ?_
   rintro _ w2 ⟨S2, rfl, z2, p2⟩
   refine Gn 1 [] Joo ?_
   refine Gi h (fun h15 h => ?_) fun h15 h => ?_
   ·
    rw [h15]
    refine Gm 6 [([17, 4], .i x8)] Joq ?_
    obtain rfl := sj h
    exact Goes.rt Tryz.f195 (.i x8) ⟨_, rfl, (hx.t z2), p2⟩
   ·
    rw [bf h15]
    refine Gm 8 [([18, 8], .i (wr .i64 (x8 + 1)))] Joj ?_
    exact Gj 19 [(0, .slice Ax0 x0.length cx0), (1, .func (.func 138) #[] #[(pt uf1 0)]), (7, .i x7), (8, .i (wr .i64 (x8 + 1)))] (um7 _ _ h uf1 ul7 ul8 ulb.length ula _ _ (hx.t z2) _ _ _ p2 (fx0.ext z2) rfl (ug2.ext z2) rfl)
  ·
   rw [df h3]
   refine Gn 6 [(4, .i (-1))] Jor ?_
   obtain rfl := sj h
   exact Goes.rt Tryz.f195 (.i (-1)) ⟨_, rfl, hx, p1⟩
 ·
  intro uly ulz ⟨x0, ulg⟩ r h nz wz S0 w0 Lr u92 u93 u94 gx1 ulc uld ule ulf p0 u9f u9g uma umb
  try dsimp only at h
  subst u9g
  subst umb
  refine Zf Tryz.f138 B138 6 ?_
  refine Gj 8 [(0, (ag (vT29 x0 u92 x0.L.length u94))), (1, (pt gx1 0))] fun junk => ?_
  refine Gn 2 [] (Yt 10 B138 [0, 1] (Ys 11 B138 [])) ?_
  refine Ob 30 (.tmp 0) 2 0 (ag (vT29 x0 u92 x0.L.length u94)) (vT29 x0 u92 x0.L.length u94) p0 Goes.v fun b3 w2 z2 p2 => ?_
  refine Gn 4 [(3, .bool false)] (Yt 110 B138 [0, 1, 2, 3, 4] Jzw) ?_
  refine Goes.ld 232 (.tmp 1) 4 232 ⟨gx1, 0, none⟩ (.func (.func 136) #[] #[(pt ulc 0)]) (p2.c 1 0) ?_
  refine Goes.ldN 30 (.tmp 2) 5 30 ⟨b3, 0, none⟩ (vT29 x0 u92 x0.L.length u94) (p2.pa 0 0) ?_
  have p2 := p2.fr 2
  refine Gb h fun y5 e6 h => ?_
  refine Gc (.call { callee := .value (.tmp 4), args := #[(.tmp 5)], argTypes := #[30] }) 6 4 136 _ (ulz (x0, ulg) y5 e6 _ _ _ _ _ _ _ p2 (u9f.ext z2) rfl (uma.ext z2) rfl) ?_
  rintro _ w3 ⟨S3, rfl, z3, p3⟩
  have p3 := p3.dp 1
  refine Gm 3 [([7, 3], .bool (!y5))] Jzw ?_
  obtain rfl := sj h
  have p3 := (p3.fr 0).fr 1
  exact Goes.rt Tryz.f138 (.bool (!y5)) ⟨_, rfl, (z2.t z3), p3⟩

theorem W.z56 : ∀ a r, M.a2b a = some r → LF.z56 a r := (W.z5f).1

theorem W.z5b : ∀ a r, M.a4t a = some r → LF.z5b a r := (W.z5f).2.1

theorem W.z5c : ∀ a r, M.a4w a = some r → LF.z5c a r := (W.z5f).2.2.1

theorem W.z5e : ∀ a r, M.a2d a = some r → LL.z5e a r := (W.z5f).2.2.2.1

theorem W.z5a : ∀ a r, M.a3x a = some r → LF.z5a a r := (W.z5f).2.2.2.2.1

theorem W.z57 : ∀ a r, M.a4s a = some r → LF.z57 a r := (W.z5f).2.2.2.2.2.1

theorem W.z58 : ∀ a r, M.a4u a = some r → LF.z58 a r := (W.z5f).2.2.2.2.2.2.1

theorem W.z5d : ∀ a r, M.a2c a = some r → LL.z5d a r := (W.z5f).2.2.2.2.2.2.2.1

theorem W.z59 : ∀ a r, M.a4v a = some r → LF.z59 a r := (W.z5f).2.2.2.2.2.2.2.2

def J100 := Ys 111 B27 []

def Post.z5g (r : Bool × Int) (v : Value) (w' : World) : Prop :=
 ∃ S', v = .tuple #[.bool r.1, .i r.2] ∧ Ext S0 w0 S' w' ∧ Hp nz wz S' w' (Lr)

theorem W.z5g (x0 : T29) (x1 : ByteArray) (r : Bool × Int) (h : M.a4g x0 x1 = some r) {nz wz S0 w0 Lr} (u92 u93 u94) (p0 : Hp nz wz S0 w0 (Lr)) (u9f : Rd kT29 S0 w0 u92 u94 x0.L) (u9g : x0.L.length = u93) :
  Calls Tryz.prog 27 #[(ag (vT29 x0 u92 u93 u94)), .string x1] w0 (Rets (Post.z5g nz wz S0 w0 Lr r)) := by
 subst u9g
 refine Zf Tryz.f27 B27 14 ?_
 refine Gj 16 [(0, (ag (vT29 x0 u92 x0.L.length u94))), (1, .string x1)] fun junk => ?_
 delta M.a4g at h
 refine Gn 2 [] (Yt 10 B27 [0, 1, 2] (Ys 11 B27 [])) ?_
 refine Ob 30 (.tmp 0) 2 0 (ag (vT29 x0 u92 x0.L.length u94)) (vT29 x0 u92 x0.L.length u94) p0 Goes.v fun b1 w2 z2 p2 => ?_
 refine Gn 6 [(4, .bool false), (5, .i 0)] (Yt 1100 B27 [0, 1, 2] (Ys 1101 B27 J100)) ?_
 refine Goes.ldN 30 (.tmp 2) 7 30 ⟨b1, 0, none⟩ (vT29 x0 u92 x0.L.length u94) (p2.pa 0 0) ?_
 refine Gb h fun y3 e4 h => ?_
 refine Gc (kc 20 [7] #[30]) 8 34 20 _ (W.z4f x0 y3 e4 _ _ _ p2 (u9f.ext z2) rfl) ?_
 rintro _ w3 ⟨S3, rfl, z3, p3⟩
 refine Gm 7 [([6, 9], .i y3), ([10], .bool (!(decide (y3 = 0))))] (Ys 11011 B27 J100) ?_
 refine Gi h (fun h5 h => ?_) fun h5 h => ?_
 ·
  rw [dt h5]
  refine Gn 3 [] (Ys 1110 B27 (Ys 1111 B27 [])) ?_
  have z4 : Ext S3 w3 S3 (w3).drew := Ext.draw
  have p4 := p3.draw
  refine Gd [3] (Fc S3 (w3).drew [(⟨b1, 0, none⟩, .i x0.Op), (⟨b1, 1, none⟩, .string x0.Text), (⟨b1, 2, none⟩, .slice u92 x0.L.length u94)]) 4 6 ?_
  generalize (w3).drew = w4 at z4 p4 ⊢
  refine AnyG.ldN (i := 0) 30 (.tmp 2) 12 30 ⟨b1, 0, none⟩ (vT29 x0 u92 x0.L.length u94) (by kernel_rfl) (by kernel_rfl) (Fc.here (p4.cs [(0, 0, 3)])) (by kernel_rfl) (by kernel_rfl) (by kernel_rfl) (fun _ h j v hj => by match j, hj with | 0, rfl => exact h.2.at_ 0 rfl | 1, rfl => exact h.2.at_ 1 rfl | 2, rfl => exact h.2.at_ 2 rfl | (j + 3), hj => simp at hj) ?_
  refine AnyG.pu 1 (.move (.tmp 1)) 13 9 (.string x1) (Fc.here (p4.cs [(0, 0, 3)])) ?_
  refine Gb h fun y6 e7 h => ?_
  refine Oc (kc 16 [13] #[9]) 14 43 16 #[.string x1] (Ac 2) (W.z34 x1 y6 e7  p4 ) ?_
  rintro _ w5 ⟨S5, umc, umd, ume, umf, rfl, z5, p5, ux, rfl⟩
  refine AnyG.next z5 ⟨(p5.c 1 0), (p5.c 1 1), (p5.c 1 2), trivial⟩ ?_
  obtain ⟨S6, z6, p6, f9⟩ := p5.freezeRd 0 rfl ux (by decide)
  refine AnyG.refz z6 ?_
  refine Gb h fun y10 e11 h => ?_
  refine Oc (kc 74 [12, 14] #[30, 43]) 15 4 74 #[(ag (vT29 x0 u92 x0.L.length u94)), .slice (Gp umc) y6.length ume] (Ac 3) (W.z56 (x0, y6) y10 e11 _ _ _ _ _ _ p6 (u9f.ext ((((z2.t z3).t z4).t z5).t z6)) rfl f9 rfl) ?_
  rintro _ w7 ⟨S7, rfl, z7, p7⟩
  refine AnyG.last [] (Fc S7 w7 []) (by decide) ?_
  refine AnyG.pu 4 (.assign (.tmp 15)) 4 4 (.bool y10) (Fc.here trivial) ?_
  refine AnyG.pu 5 (.assign (.const (.int .i64 0))) 5 34 (.i 0) (Fc.here trivial) ?_
  refine Ad ?_
  have p7 := (p7.dp 0).dp 0
  obtain rfl := sj h
  exact Goes.rt Tryz.f27 (.tuple #[.bool y10, .i 0]) ⟨_, rfl, (((((z2.t z3).t z4).t z5).t z6).t z7), p7⟩
 ·
  rw [df h5]
  refine Gm 7 [([11, 5], .i y3), ([4], .bool false)] (Ys 1101101 B27 J100) ?_
  obtain rfl := sj h
  have p3 := p3.dp 0
  exact Goes.rt Tryz.f27 (.tuple #[.bool false, .i y3]) ⟨_, rfl, (z2.t z3), p3⟩

def J107 := Ys 1111111111 B4 []
def J108 := Ys 11111111111 B4 []
def Qtk := Yq 11111111110 B4
def J10e := Zr Qtk [21, 22, 23, 24, 25, 26, 27, 28, 29] J108
def J10g := Zr Qtk [25, 26, 27, 28, 29] J108

def Post.z5h (r : Bool) (v : Value) (w' : World) : Prop :=
 ∃ S', v = .bool r ∧ Ext S0 w0 S' w' ∧ Hp nz wz S' w' (Lr)

def L.z5i : Int × T29 × Int × Bool × Int × Int × Int → Bool → Prop := fun ⟨x5, x6v, x7, x8, x9, x10, x11⟩ r => ∀ S1 w1, Ext S0 w0 S1 w1 → ∀ gx6 u8t u8u u8v (_ : Hp nz wz S1 w1 ((some gx6, .row 30 (vT29 x6v u8t u8u u8v) 3 0) :: Lr)) (_ : Rd kT29 S1 w1 u8t u8v x6v.L) (_ : x6v.L.length = u8u) (junk : Nat → Value),
 Goes Tryz.prog (base 4) J107 ⟨lfr 72 [(5, .i x5), (6, (pt gx6 0)), (7, .i x7), (8, .bool x8), (9, .i x9), (10, .i x10), (11, .i x11)] junk, []⟩ w1 (Done Tryz.prog 4 (Rets (Post.z5h nz wz S0 w0 Lr r)))

theorem W.z5i {nz wz S0 w0 Lr} : ∀ a r, M.a34 a = some r → L.z5i nz wz S0 w0 Lr a r := by
 intro ⟨x5, x6v, x7, x8, x9, x10, x11⟩ r h S1 w1 hx gx6 u8t u8u u8v p1 u8y u8z junk
 rw [M.a34] at h
 try dsimp only at h
 subst u8z
 refine Gm 5 [([43], .i x5), ([44, 45], .bool (decide (x5 = 0)))] (Zr Qtk [3, 4, 5, 6, 7, 8, 9, 10, 11, 12, 13, 14, 15, 16, 17, 18, 19, 20, 21, 22, 23, 24, 25, 26, 27, 28, 29] J108) ?_
 refine Gi h (fun h23 h => ?_) fun h23 h => ?_
 ·
  rw [dt h23]
  refine Gm 4 [([46], .i x7), ([47, 48, 49], .bool (decide (x7 = 0)))] (Zr Qtk [7, 8, 9, 10, 11, 12, 13, 14, 15, 16, 17, 18, 19, 20, 21, 22, 23, 24, 25, 26, 27, 28, 29] J108) ?_
  refine Gi h (fun h24 h => ?_) fun h24 h => ?_
  ·
   rw [dt h24]
   refine Gm 4 [([50], .i x9), ([51, 52, 53], .bool (decide (x9 = 0)))] (Zr Qtk [11, 12, 13, 14, 15, 16, 17, 18, 19, 20, 21, 22, 23, 24, 25, 26, 27, 28, 29] J108) ?_
   refine Gi h (fun h25 h => ?_) fun h25 h => ?_
   ·
    rw [dt h25]
    refine Gm 3 [([54, 55, 56], .bool x8)] (Zr Qtk [14, 15, 16, 17, 18, 19, 20, 21, 22, 23, 24, 25, 26, 27, 28, 29] J108) ?_
    refine Gi h (fun h26 h => ?_) fun h26 h => ?_
    ·
     rw [h26]
     refine Gn 1 [(57, (pt gx6 2))] (Zr Qtk [15, 16, 17, 18, 19, 20, 21, 22, 23, 24, 25, 26, 27, 28, 29] J108) ?_
     refine Goes.ld 28 (.tmp 57) 58 28 ⟨gx6, 2, none⟩ (.slice u8t x6v.L.length u8v) (p1.c 0 2) ?_
     refine Gm 5 [([59], .i (x6v.L.length : Int)), ([60], .i x11), ([61, 62, 63], .bool (decide ((x6v.L.length : Int) = x11)))] J10e ?_
     refine Gi h (fun h27 h => ?_) fun h27 h => ?_
     ·
      rw [dt h27]
      refine Gm 3 [([64], .i x10), ([65, 66], .bool (decide (x10 > 0)))] (Zr Qtk [24, 25, 26, 27, 28, 29] J108) ?_
      refine Gi h (fun h28 h => ?_) fun h28 h => ?_
      ·
       rw [dt h28]
       refine Gm 7 [([67, 68, 69], undef), ([70, 71, 2], .bool true)] J108 ?_
       obtain rfl := sj h
       have p1 := p1.dp 0
       exact Goes.rt Tryz.f4 (.bool true) ⟨_, rfl, hx, p1⟩
      ·
       rw [df h28]
       refine Gn 1 [(67, (pt gx6 0))] J10g ?_
       refine Goes.ld 3 (.tmp 67) 68 3 ⟨gx6, 0, none⟩ (.i x6v.Op) (p1.c 0 0) ?_
       refine Gm 5 [([69, 70, 71, 2], .bool (decide (x6v.Op = 0)))] J108 ?_
       obtain rfl := sj h
       have p1 := p1.dp 0
       exact Goes.rt Tryz.f4 (.bool (decide (x6v.Op = 0))) ⟨_, rfl, hx, p1⟩
     ·
      rw [df h27]
      refine Gm 10 [([64, 65, 66, 67, 68, 69, 70], undef), ([71, 2], .bool false)] J108 ?_
      obtain rfl := sj h
      have p1 := p1.dp 0
      exact Goes.rt Tryz.f4 (.bool false) ⟨_, rfl, hx, p1⟩
    ·
     rw [bf h26]
     refine Gm 14 [([57, 58, 59, 60, 61, 64, 65, 66, 67, 68, 69, 70], undef), ([62, 63], .bool false)] (Zr Qtk [28, 29] J108) ?_
     refine Gm 3 [([71, 2], .bool false)] J108 ?_
     obtain rfl := sj h
     have p1 := p1.dp 0
     exact Goes.rt Tryz.f4 (.bool false) ⟨_, rfl, hx, p1⟩
   ·
    rw [df h25]
    refine Gm 14 [([54, 57, 58, 59, 60, 61, 64, 65, 66, 67], undef), ([55, 56, 62, 63], .bool false)] J10g ?_
    refine Gm 6 [([68, 69, 70], undef), ([71, 2], .bool false)] J108 ?_
    obtain rfl := sj h
    have p1 := p1.dp 0
    exact Goes.rt Tryz.f4 (.bool false) ⟨_, rfl, hx, p1⟩
  ·
   rw [df h24]
   refine Gm 14 [([50, 51, 54, 57, 58, 59, 60, 61], undef), ([52, 53, 55, 56, 62, 63], .bool false)] J10e ?_
   refine Gm 10 [([64, 65, 66, 67, 68, 69, 70], undef), ([71, 2], .bool false)] J108 ?_
   obtain rfl := sj h
   have p1 := p1.dp 0
   exact Goes.rt Tryz.f4 (.bool false) ⟨_, rfl, hx, p1⟩
 ·
  rw [df h23]
  refine Gm 14 [([46, 47, 50, 51, 54, 57, 58, 59], undef), ([48, 49, 52, 53, 55, 56], .bool false)] (Zr Qtk [17, 18, 19, 20, 21, 22, 23, 24, 25, 26, 27, 28, 29] J108) ?_
  refine Gm 14 [([60, 61, 64, 65, 66, 67, 68, 69, 70], undef), ([62, 63, 71, 2], .bool false)] J108 ?_
  obtain rfl := sj h
  have p1 := p1.dp 0
  exact Goes.rt Tryz.f4 (.bool false) ⟨_, rfl, hx, p1⟩

def J10j := Ys 111 B4 []
def J10k := Ys 1101 B4 J10j
def J10o := Ys 11111 B4 []
def Qtr := Yq 11110 B4
def J10r := Ys 111111 B4 []
def Qtt := Yq 111110 B4
def J10u := Ys 1111111 B4 []
def Qtv := Yq 1111110 B4

theorem W.z5h (x0 : ByteArray) (r : Bool) (h : M.a4h x0 = some r) {nz wz S0 w0 Lr} (p0 : Hp nz wz S0 w0 (Lr)) :
  Calls Tryz.prog 4 #[.string x0] w0 (Rets (Post.z5h nz wz S0 w0 Lr r)) := by
 refine Zf Tryz.f4 B4 71 ?_
 refine Gj 72 [(0, .string x0)] fun junk => ?_
 delta M.a4h at h
 refine Gn 7 [(2, .bool false)] (Yt 1100 B4 [0, 1] J10k) ?_
 refine Gb h fun y1 e2 h => ?_
 refine Gc (kc 24 [] #[]) 12 4 24 _ (W.z4k y1 e2  p0 ) ?_
 rintro _ w2 ⟨S2, rfl, z2, p2⟩
 refine Gn 2 [(13, .bool (!y1))] J10k ?_
 refine Gi h (fun h3 h => ?_) fun h3 h => ?_
 ·
  rw [h3]
  refine Gm 8 [([14, 15], .string x0), ([16], .i (x0.size : Int)), ([17], .i (imn (x0.size : Int) 32))] (Yt 1110 B4 [4, 5] (Ys 1111 B4 [])) ?_
  refine Gg h fun g4 h => ?_
  refine Gg h fun g5 h => ?_
  refine Op_.slS_n 9 (.tmp 14) none (some (.tmp 17)) 18 9 x0 0 (imn (x0.size : Int) 32) (ss x0 0 (imn (x0.size : Int) 32)) rfl Goes.v (by kernel_rfl) (by kernel_rfl) Bnd.no (Bnd.at_ .i64 (by kernel_rfl)) (by decide : (0 : Int) ≤ 0) g4 g5 ?_
  refine Gm 5 [([0, 20], .string (ss x0 0 (imn (x0.size : Int) 32)))] (Zr Qtr [1, 2, 3, 4, 5, 6, 7, 8, 9, 10] J10o) ?_
  refine Gb h fun y6 e7 h => ?_
  refine Gc (kc 26 [20] #[9]) 21 9 26 _ (W.z4u (ss x0 0 (imn (x0.size : Int) 32)) y6 e7  p2 ) ?_
  rintro _ w3 ⟨S3, rfl, z3, p3⟩
  refine Gb h fun y8 e9 h => ?_
  refine Gc (kc 25 [21] #[9]) 22 53 25 _ (W.z1i y6 y8 e9  p3 ) ?_
  rintro _ w4 ⟨S4, umg, umh, umi, rfl, z4, p4, umj, umk, rfl⟩
  refine Gn 4 [(19, .tuple #[(ag (vT26 y8.1 umg y8.1.L.length umi)), .i y8.2.1, .i y8.2.2]), (23, (ag (vT26 y8.1 umg y8.1.L.length umi))), (24, .i y8.2.1), (25, .i y8.2.2)] (Zr Qtr [7, 8, 9, 10] J10o) ?_
  refine Oa 27 3 0 (.agg #[.i 0, .u 0, .u 0, .u 0, .u 0, .slice none 0 0, .i 0, .i 0]) [.i 0, .u 0, .u 0, .u 0, .u 0, .slice none 0 0, .i 0, .i 0] p4 Goes.v fun b10 w5 z5 p5 => ?_
  refine So 27 (.tmp 3) (.tmp 23) 0 0 b10 0 (ag (vT26 y8.1 umg y8.1.L.length umi)) (vT26 y8.1 umg y8.1.L.length umi) p5 rfl Goes.s fun w6 z6 p6 => ?_
  refine Gn 5 [(4, .i y8.2.1), (5, .i y8.2.2)] (Zr Qtt [0, 1, 2, 3, 4, 5, 6, 7] J10r) ?_
  refine Goes.ldN 27 (.tmp 3) 27 27 ⟨b10, 0, none⟩ (vT26 y8.1 umg y8.1.L.length umi) (p6.pa 0 0) ?_
  refine Gb h fun y12 e13 h => ?_
  refine Gc (kc 13 [27] #[27]) 28 35 13 _ (W.z42 y8.1 y12 e13 _ _ _ p6 umj (umk.ext (z5.t z6)) rfl) ?_
  rintro _ w7 ⟨S7, uml, umm, umn, rfl, z7, p7, umo, rfl⟩
  have p7 := p7.dp 0
  refine Gn 3 [(26, .tuple #[(ag (vT29 y12.1 uml y12.1.L.length umn)), .i y12.2]), (29, (ag (vT29 y12.1 uml y12.1.L.length umn))), (30, .i y12.2)] (Zr Qtt [5, 6, 7] J10r) ?_
  refine Oa 30 6 0 (.agg #[.i 0, .string (⟨#[]⟩ : ByteArray), .slice none 0 0]) [.i 0, .string (⟨#[]⟩ : ByteArray), .slice none 0 0] p7 Goes.v fun b14 w8 z8 p8 => ?_
  refine So 30 (.tmp 6) (.tmp 29) 0 0 b14 0 (ag (vT29 y12.1 uml y12.1.L.length umn)) (vT29 y12.1 uml y12.1.L.length umn) p8 rfl Goes.s fun w9 z9 p9 => ?_
  refine Gn 4 [(7, .i y12.2)] (Zr Qtv [0, 1, 2, 3, 4, 5, 6, 7] J10u) ?_
  refine Goes.ldN 30 (.tmp 6) 32 30 ⟨b14, 0, none⟩ (vT29 y12.1 uml y12.1.L.length umn) (p9.pa 0 0) ?_
  refine Gn 1 [(33, .string (ss x0 0 (imn (x0.size : Int) 32)))] (Zr Qtv [2, 3, 4, 5, 6, 7] J10u) ?_
  refine Gb h fun y16 e17 h => ?_
  refine Gc (kc 27 [32, 33] #[30, 9]) 34 56 27 _ (W.z5g y12.1 (ss x0 0 (imn (x0.size : Int) 32)) y16 e17 _ _ _ p9 (umo.ext (z8.t z9)) rfl) ?_
  rintro _ w10 ⟨S10, rfl, z10, p10⟩
  refine Gm 9 [([31], .tuple #[.bool y16.1, .i y16.2]), ([35, 8], .bool y16.1), ([36, 9], .i y16.2), ([37], .string (ss x0 0 (imn (x0.size : Int) 32)))] (Yt 11111110 B4 [1, 2, 3] (Ys 11111111 B4 [])) ?_
  refine Gb h fun y18 e19 h => ?_
  refine Gc (kc 16 [37] #[9]) 38 43 16 _ (W.z34 (ss x0 0 (imn (x0.size : Int) 32)) y18 e19  p10 ) ?_
  rintro _ w11 ⟨S11, ucv, ucw, ucx, ucy, rfl, z11, p11, u7y, rfl⟩
  refine Gm 14 [([39, 10, 40, 11, 41], .i (y18.length : Int)), ([42], .bool (decide ((y18.length : Int) = 1)))] (Ys 11111111101 B4 J107) ?_
  refine Gi h (fun h21 h => ?_) fun h21 h => ?_
  ·
   rw [dt h21]
   refine Gn 4 [(11, .i 0)] J107 ?_
   have p11 := p11.dp 0
   exact Gj 72 [(5, .i y8.2.2), (6, (pt b14 0)), (7, .i y12.2), (8, .bool y16.1), (9, .i y16.2), (10, .i (y18.length : Int)), (11, .i 0)] (W.z5i _ _ h _ _ (((((((((z2.t z3).t z4).t z5).t z6).t z7).t z8).t z9).t z10).t z11) _ _ _ _ p11 (umo.ext (((z8.t z9).t z10).t z11)) rfl)
  ·
   rw [df h21]
   refine Gn 2 [] J107 ?_
   have p11 := p11.dp 0
   exact Gj 72 [(5, .i y8.2.2), (6, (pt b14 0)), (7, .i y12.2), (8, .bool y16.1), (9, .i y16.2), (10, .i (y18.length : Int)), (11, .i (y18.length : Int))] (W.z5i _ _ h _ _ (((((((((z2.t z3).t z4).t z5).t z6).t z7).t z8).t z9).t z10).t z11) _ _ _ _ p11 (umo.ext (((z8.t z9).t z10).t z11)) rfl)
 ·
  rw [bf h3]
  refine Gn 5 [(2, .bool false)] (Ys 110101 B4 J10j) ?_
  obtain rfl := sj h
  exact Goes.rt Tryz.f4 (.bool false) ⟨_, rfl, z2, p2⟩

end

end Go.Gx
