import Derived.Test.YtdccklkdakfnaaaGreatWGtc

set_option linter.unusedVariables false

set_option linter.unusedSimpArgs false

set_option maxRecDepth 100000

set_option maxHeartbeats 4000000

namespace Go.Gx

open Go.RowKit Go.Proofs

variable (nz : Nat) (wz : World) (S0 : Fz) (w0 : World) (Lr : List Ent)

noncomputable section

def J11f := Ys 11111 B274 []

def Post.z5r (r : List Int) (v : Value) (w' : World) : Prop :=
 ∃ S' vsq, v = .agg vsq.toArray ∧ Ext S0 w0 S' w' ∧ Hp nz wz S' w' (Lr) ∧ Els (kInt .u64) S' w' vsq r ∧ vsq.length = 4

theorem W.z5r (x0 : Int) (r : List Int) (h : M.at x0 = some r) {nz wz S0 w0 Lr} (p0 : Hp nz wz S0 w0 (Lr)) :
  Calls Tryz.prog 274 #[.int .u8 x0] w0 (Rets (Post.z5r nz wz S0 w0 Lr r)) := by
 refine Zf Tryz.f274 B274 10 ?_
 refine Gj 11 [(0, .int .u8 x0)] fun junk => ?_
 delta M.at at h
 refine Gn 2 [] (Yt 10 B274 [0] (Ys 11 B274 [])) ?_
 refine Oa 24 2 0 (.agg #[.u 0, .u 0, .u 0, .u 0]) [.u 0, .u 0, .u 0, .u 0] p0 Goes.v fun b1 w2 z2 p2 => ?_
 refine Gn 3 [] (Yt 110 B274 [0] (Ys 111 B274 [])) ?_
 refine Oa 24 3 0 (.agg #[.u 0, .u 0, .u 0, .u 0]) [.u 0, .u 0, .u 0, .u 0] p2 Goes.v fun b3 w3 z3 p3 => ?_
 refine Gm 7 [([4, 6], .int .u8 x0), ([5], .int .u8 (iquo .u8 x0 64)), ([7], .int .u8 (irem .u8 x0 64))] (Yt 1110 B274 [4, 5, 6] (Ys 1111 B274 [])) ?_
 refine Gg h fun g5 h => ?_
 refine Op_.binshl 22 (.const (.int .u64 1)) (.tmp 7) 5 8 22 .u64 .u8 1 (irem .u8 x0 64) Goes.v (by kernel_rfl) (by kernel_rfl) g5 ?_
 have f6 : Els (kInt .u64) S0 w3 ([.u 0, .u 0, .u 0, .u 0] : List Value) [0, 0, 0, 0] := (Els.cons (K := (kInt .u64)) (vs := [.u 0]) (x := 0) rfl (Els.cons (K := (kInt .u64)) (vs := [.u 0]) (x := 0) rfl (Els.cons (K := (kInt .u64)) (vs := [.u 0]) (x := 0) rfl (Els.cons (K := (kInt .u64)) (vs := [.u 0]) (x := 0) rfl Els.nil))))
 refine Gg h fun g7 h => ?_
 refine Gg h fun g8 h => ?_
 refine Op_.ixA_n (K := (kInt .u64)) 24 (.tmp 3) (.tmp 5) 9 0 22 4 .u8 (iquo .u8 x0 64) 0 (gi [0, 0, 0, 0] (iquo .u8 x0 64)) rfl p3 rfl f6 (Els.len1 f6 rfl rfl) Goes.v (by kernel_rfl) (by kernel_rfl) (by kernel_rfl) (by kernel_rfl) g7 g8 fun _ q10 f9 => ?_
 obtain rfl := q10
 refine Gl h fun v11 e12 h => ?_
 refine Op_.stE_n (K := (kInt .u64)) 22 (.tmp 9) (.tmp 8) 0 0 (iquo .u8 x0 64) (.u (ishl .u64 1 (irem .u8 x0 64))) [.u (ishl .u64 1 (irem .u8 x0 64))] (ishl .u64 1 (irem .u8 x0 64)) v11 4 (Els.len1 f6 rfl rfl) e12 p3 rfl f6 Goes.s (by kernel_rfl) (by kernel_rfl) (by kernel_rfl) rfl (by kernel_rfl) g7 g8 (Nat.zero_le _) fun w4 u48 z4 p4 f14 l15 => ?_
 have l16 : u48.length = 4 := by rw [f14.length, l15]; rfl
 refine Gn 3 [] (Yt 11110 B274 [0, 1] J11f) ?_
 refine Op_.ldN 24 (.tmp 3) 10 24 ⟨b3, 0, none⟩ u48 Goes.v (by kernel_rfl) (by kernel_rfl) (by rw [l16]; kernel_rfl) (At_all (p4.mem 0 rfl)) ?_
 have f17 : Els (kInt .u64) S0 w4 ([.u 0, .u 0, .u 0, .u 0] : List Value) [0, 0, 0, 0] := (Els.cons (K := (kInt .u64)) (vs := [.u 0]) (x := 0) rfl (Els.cons (K := (kInt .u64)) (vs := [.u 0]) (x := 0) rfl (Els.cons (K := (kInt .u64)) (vs := [.u 0]) (x := 0) rfl (Els.cons (K := (kInt .u64)) (vs := [.u 0]) (x := 0) rfl Els.nil))))
 refine Op_.stA 24 (.tmp 2) (.tmp 10) 0 1 b1 4 u48 p4 rfl rfl Goes.s (by kernel_rfl) (by kernel_rfl) (by kernel_rfl) l16 (Els.one f14) fun w5 z5 p5 => ?_
 refine Gn 1 [] J11f ?_
 obtain rfl := sj h
 have p5 := p5.dp 0
 exact Goes.ret (fn := Tryz.f274) (by kernel_rfl) (v := .agg u48.toArray) (results_n1 (fn := Tryz.f274) (a := .cell 2 24) (by kernel_rfl) (resV_cell ⟨b1, 0, none⟩ (by kernel_rfl) (run_loadN u48 (by kernel_rfl) (by rw [l16]; kernel_rfl) (At_all (p5.mem 0 rfl))))) ⟨S0, u48, rfl, (((z2.t z3).t z4).t z5), p5.drop, (f14.ext z5), l16⟩

def Qt5 := Yq 110100 B273
def J11j := Zl Qt5 (Zb 0 (Ys 111 B273 []))
def J11k := Zc Qt5 J11j
def J11o := Zb 1 (Ys 110100111 B273 J11j)
def Qt9 := Yq 11010011001 B273
def J11r := Ys 1111 B273 []

def Post.z5s (r : List Int) (v : Value) (w' : World) : Prop :=
 ∃ S' vsq, v = .agg vsq.toArray ∧ Ext S0 w0 S' w' ∧ Hp nz wz S' w' (Lr) ∧ Els (kInt .u64) S' w' vsq r ∧ vsq.length = 4

def L.z5t : (List Int) × (List Int) × Int → (List Int) → Prop := fun ⟨x1, u4, x4⟩ r => ∀ S1 w1, Ext S0 w0 S1 w1 → ∀ gx1 u2g gx2 (_ : Hp nz wz S1 w1 ((some gx1, .row 24 u2g 4 0) :: (some gx2, .row 24 (U4 u4 []) 4 0) :: Lr)) (_ : Els (kInt .u64) S1 w1 u2g x1) (_ : u2g.length = 4) (_ : u4.length = 4) (junk : Nat → Value),
 Goes Tryz.prog (base 273) J11k ⟨lfr 15 [(1, (pt gx1 0)), (2, (pt gx2 0)), (4, .i x4)] junk, []⟩ w1 (Done Tryz.prog 273 (Rets (Post.z5s nz wz S0 w0 Lr r)))

theorem W.z5t {nz wz S0 w0 Lr} : ∀ a r, M.a3j a = some r → (L.z5t nz wz S0 w0 Lr) a r := by
 refine M.a3j.partial_correctness (motive := (L.z5t nz wz S0 w0 Lr)) ?_
 intro un1 un2 ⟨x1, u4, x4⟩ r h S1 w1 hx gx1 u2g gx2 p1 fx1 lx1 u2p junk
 try dsimp only at h
 refine Gn 5 [(5, .bool (decide (x4 < 4)))] (Ys 11010010 B273 (Ys 11010011 B273 J11j)) ?_
 refine Gi h (fun h7 h => ?_) fun h7 h => ?_
 ·
  rw [dt h7]
  refine Gm 12 [([6, 3, 7, 8], .i x4)] (Zr Qt9 [2, 3, 4, 5, 6] J11o) ?_
  refine Gg h fun g8 h => ?_
  refine Op_.ixA_n (K := (kInt .u64)) 24 (.tmp 1) (.tmp 8) 9 0 22 4 .i64 x4 0 (gi x1 x4) rfl p1 rfl fx1 (Els.len1 fx1 lx1 rfl) Goes.v (by kernel_rfl) (by kernel_rfl) (by kernel_rfl) (by kernel_rfl) g8 h7 fun _ q10 f9 => ?_
  obtain rfl := q10
  refine Goes.ld 22 (.tmp 9) 10 22 ⟨gx1, (x4 : Int).toNat * (kInt .u64).size, none⟩ (.u (gi x1 x4)) (f9 0 _ rfl) ?_
  refine Gn 1 [(11, .u (ixor .u64 18446744073709551615 (gi x1 x4)))] (Zr Qt9 [5, 6] J11o) ?_
  refine Op_.ixA_n (K := (kInt .u64)) 24 (.tmp 1) (.tmp 7) 12 0 22 4 .i64 x4 0 (gi x1 x4) rfl p1 rfl fx1 (Els.len1 fx1 lx1 rfl) Goes.v (by kernel_rfl) (by kernel_rfl) (by kernel_rfl) (by kernel_rfl) g8 h7 fun _ q12 f11 => ?_
  obtain rfl := q12
  refine Gl h fun v13 e14 h => ?_
  refine Op_.stE_n (K := (kInt .u64)) 22 (.tmp 12) (.tmp 11) 0 0 x4 (.u (ixor .u64 18446744073709551615 (gi x1 x4))) [.u (ixor .u64 18446744073709551615 (gi x1 x4))] (ixor .u64 18446744073709551615 (gi x1 x4)) v13 4 (Els.len1 fx1 lx1 rfl) e14 p1 rfl fx1 Goes.s (by kernel_rfl) (by kernel_rfl) (by kernel_rfl) rfl (by kernel_rfl) g8 h7 (Nat.zero_le _) fun w4 u49 z4 p4 f16 l17 => ?_
  have l18 : u49.length = 4 := by rw [f16.length, l17]; rfl
  refine Gm 7 [([13, 4], .i (wr .i64 (x4 + 1)))] J11k ?_
  exact Gj 15 [(1, (pt gx1 0)), (2, (pt gx2 0)), (4, .i (wr .i64 (x4 + 1)))] (un2 _ _ h _ _ (hx.t z4) _ _ _ p4 f16 l18 u2p)
 ·
  rw [df h7]
  refine Gn 4 [] (Yt 1110 B273 [0, 1] J11r) ?_
  refine Op_.ldN 24 (.tmp 1) 14 24 ⟨gx1, 0, none⟩ u2g Goes.v (by kernel_rfl) (by kernel_rfl) (by rw [lx1]; kernel_rfl) (At_all (p1.mem 0 rfl)) ?_
  have f19 : Els (kInt .u64) S1 w1 ((U4 u4 []) : List Value) u4 := (els_mk4 (k := .u64) u2p)
  refine Op_.stA 24 (.tmp 2) (.tmp 14) 0 1 gx2 4 u2g p1 rfl rfl Goes.s (by kernel_rfl) (by kernel_rfl) (by kernel_rfl) lx1 (Els.one fx1) fun w5 z5 p5 => ?_
  refine Gn 1 [] J11r ?_
  obtain rfl := sj h
  have p5 := p5.dp 0
  exact Goes.ret (fn := Tryz.f273) (by kernel_rfl) (v := .agg u2g.toArray) (results_n1 (fn := Tryz.f273) (a := .cell 2 24) (by kernel_rfl) (resV_cell ⟨gx2, 0, none⟩ (by kernel_rfl) (run_loadN u2g (by kernel_rfl) (by rw [lx1]; kernel_rfl) (At_all (p5.mem 0 rfl))))) ⟨S1, u2g, rfl, (hx.t z5), p5.drop, (fx1.ext z5), lx1⟩


theorem W.z5s (x0 : List Int) (r : List Int) (h : M.a1z x0 = some r) {nz wz S0 w0 Lr} (u2c) (p0 : Hp nz wz S0 w0 (Lr)) (fx0 : Els (kInt .u64) S0 w0 u2c x0) (lx0 : u2c.length = 4) :
  Calls Tryz.prog 273 #[.agg u2c.toArray] w0 (Rets (Post.z5s nz wz S0 w0 Lr r)) := by
 refine Zf Tryz.f273 B273 14 ?_
 refine Gj 15 [(0, .agg u2c.toArray)] fun junk => ?_
 delta M.a1z at h
 refine Gn 2 [] (Yt 10 B273 [0, 1] (Ys 11 B273 [])) ?_
 refine Op_.box 24 (.tmp 0) 1 0 (.agg u2c.toArray) u2c p0 Goes.v (by kernel_rfl) rfl fun b1 w2 z2 p2 => ?_
 replace p2 : Hp nz wz S0 w2 ((some b1, .row 24 u2c 4 0) :: Lr) := by rw [show (u2c).length = 4 from lx0] at p2; exact p2
 refine Oa 24 2 0 (.agg #[.u 0, .u 0, .u 0, .u 0]) [.u 0, .u 0, .u 0, .u 0] p2 Goes.v fun b3 w3 z3 p3 => ?_
 refine Gn 8 [(4, .i 0)] J11k ?_
 have p3 := (p3.fr 0).fr 1
 exact Gj 15 [(1, (pt b1 0)), (2, (pt b3 0)), (4, .i 0)] (W.z5t _ _ h _ _ (z2.t z3) _ _ _ p3 (fx0.ext (z2.t z3)) lx0 rfl)


def Post.z5u (gx0 : Nat) (umx : Value) (x0v : T134) (r : Unit) (v : Value) (w' : World) : Prop :=
 ∃ S' u6t, v = .func (.func 313) #[] #[(pt u6t 0)] ∧ Ext S0 w0 S' w' ∧ Hp nz wz S' w' ((some u6t, .row 132 [(pt gx0 0)] 1 0) :: (some gx0, .row 135 (vT134 x0v umx) 4 0) :: Lr)

theorem W.z5u (x0v : T134) (r : Unit) (h : M.a5w x0v = some r) {nz wz S0 w0 Lr} (gx0 umx) (p0 : Hp nz wz S0 w0 ((some gx0, .row 135 (vT134 x0v umx) 4 0) :: Lr)) (umy : PtO kT138 S0 w0 umx x0v.bad) :
  Calls Tryz.prog 296 #[(pt gx0 0)] w0 (Rets (Post.z5u nz wz S0 w0 Lr gx0 umx x0v r)) := by
 refine Zf Tryz.f296 B296 3 ?_
 refine Gj 4 [(0, (pt gx0 0))] fun junk => ?_
 delta M.a5w at h
 refine Gn 2 [] (Yt 10 B296 [0, 1] (Ys 11 B296 [])) ?_
 refine Ob 132 (.tmp 0) 1 0 ((pt gx0 0)) [(pt gx0 0)] p0 Goes.v fun b2 w2 z2 p2 => ?_
 refine Gm 7 [([2, 3], .func (.func 313) #[] #[(pt b2 0)])] (Ys 111 B296 []) ?_
 obtain rfl := sj h
 exact Goes.rt Tryz.f296 (.func (.func 313) #[] #[(pt b2 0)]) ⟨_, _, rfl, z2, p2⟩

def Qti := Yq 1110100 B315
def J120 := Zl Qti (Zb 0 (Ys 1111 B315 []))
def J121 := Zc Qti J120
def J127 := Ys 11111 B315 []

def Post.z5v (r : List Int) (v : Value) (w' : World) : Prop :=
 ∃ S' vsq, v = .agg vsq.toArray ∧ Ext S0 w0 S' w' ∧ Hp nz wz S' w' (Lr) ∧ Els (kInt .u64) S' w' vsq r ∧ vsq.length = 4

def L.z5w : Int × (List Int) × (List Int) × Int → (List Int) → Prop := fun ⟨x1, un3, x5, x6⟩ r => ∀ S1 w1, Ext S0 w0 S1 w1 → ∀ gx4 gx5 u3a (_ : Hp nz wz S1 w1 ((some gx4, .row 24 (U4 un3 []) 4 0) :: (some gx5, .row 24 u3a 4 0) :: Lr)) (_ : un3.length = 4) (_ : Els (kInt .u64) S1 w1 u3a x5) (_ : u3a.length = 4) (junk : Nat → Value),
 Goes Tryz.prog (base 315) J121 ⟨lfr 25 [(1, .int .u8 x1), (4, (pt gx4 0)), (5, (pt gx5 0)), (6, .i x6)] junk, []⟩ w1 (Done Tryz.prog 315 (Rets (Post.z5v nz wz S0 w0 Lr r)))

theorem W.z5w {nz wz S0 w0 Lr} : ∀ a r, M.a3k a = some r → (L.z5w nz wz S0 w0 Lr) a r := by
 refine M.a3k.partial_correctness (motive := (L.z5w nz wz S0 w0 Lr)) ?_
 intro un4 un5 ⟨x1, un3, x5, x6⟩ r h S1 w1 hx gx4 gx5 u3a p1 u3l fx5 lx5 junk
 try dsimp only at h
 refine Gn 8 [(9, .i x6), (10, .int .u8 x1), (11, .i (wr .i64 x1)), (12, .bool (decide (x6 ≤ wr .i64 x1)))] (Ys 111010001 B315 (Ys 11101001 B315 J120)) ?_
 refine Gi h (fun h8 h => ?_) fun h8 h => ?_
 ·
  rw [dt h8]
  refine Gn 4 [] (Ys 1110100100 B315 (Zb 1 (Ys 111010011 B315 J120))) ?_
  have z4 : Ext S1 w1 S1 (w1).drew := Ext.draw
  have p4 := p1.draw
  refine Gd [9] (Fc S1 (w1).drew ([] ++ (rowCellsO (some gx5) u3a ++ []))) 5 10 ?_
  generalize (w1).drew = w4 at z4 p4 ⊢
  refine AnyG.pu 0 (.move (.tmp 6)) 15 3 (.i x6) (Fc.here (Cells.app trivial (Cells.app (Cells.rowO (p4.mem 1 rfl)) trivial))) ?_
  refine AnyG.pu 1 (.binOp .quo 3 (.tmp 15) (.const (.int .i64 64)) 3) 16 3 (.i (iquo .i64 x6 64)) (Fc.here (Cells.app trivial (Cells.app (Cells.rowO (p4.mem 1 rfl)) trivial))) ?_
  refine Gg h fun g9 h => ?_
  refine Gg h fun g10 h => ?_
  refine AnyG.ixA_n (i := 2) (K := (kInt .u64)) 24 (.tmp 5) (.tmp 16) 17 0 22 4 .i64 (iquo .i64 x6 64) 1 (gi x5 (iquo .i64 x6 64)) rfl p4 rfl (fx5.ext z4) (Els.len1 (fx5.ext z4) lx5 rfl) (by kernel_rfl) (by kernel_rfl) (Fc.here (Cells.app trivial (Cells.app (Cells.rowO (p4.mem 1 rfl)) trivial))) (by kernel_rfl) (by kernel_rfl) (by kernel_rfl) (by kernel_rfl) g9 g10 fun _ q12 f13 f11 => ?_
  obtain rfl := q12
  refine Al 3 22 (.tmp 17) 18 22 ⟨gx5, (iquo .i64 x6 64 : Int).toNat * (kInt .u64).size, none⟩ (.u (gi x5 (iquo .i64 x6 64))) (Fc.here (Cells.app trivial (Cells.app (Cells.rowO (p4.mem 1 rfl)) trivial))) (fun _ h => h.2.right.left.rowAt (f13 0 _ rfl)) ?_
  refine AnyG.pu 4 (.move (.tmp 6)) 19 3 (.i x6) (Fc.here (Cells.app trivial (Cells.app (Cells.rowO (p4.mem 1 rfl)) trivial))) ?_
  refine AnyG.pu 5 (.binOp .rem 3 (.tmp 19) (.const (.int .i64 64)) 3) 20 3 (.i (irem .i64 x6 64)) (Fc.here (Cells.app trivial (Cells.app (Cells.rowO (p4.mem 1 rfl)) trivial))) ?_
  refine Gg h fun g14 h => ?_
  refine AnyG.binshl (i := 6) 22 (.const (.int .u64 1)) (.tmp 20) 3 21 22 .u64 .i64 1 (irem .i64 x6 64) (by kernel_rfl) (by kernel_rfl) (Fc.here (Cells.app trivial (Cells.app (Cells.rowO (p4.mem 1 rfl)) trivial))) (by kernel_rfl) (by kernel_rfl) g14 ?_
  refine AnyG.pu 7 (.binOp .or 22 (.tmp 18) (.tmp 21) 22) 22 22 (.u (ior .u64 (gi x5 (iquo .i64 x6 64)) (ishl .u64 1 (irem .i64 x6 64)))) (Fc.here (Cells.app trivial (Cells.app (Cells.rowO (p4.mem 1 rfl)) trivial))) ?_
  refine AnyG.ixA_n (i := 8) (K := (kInt .u64)) 24 (.tmp 5) (.tmp 16) 23 0 22 4 .i64 (iquo .i64 x6 64) 1 (gi x5 (iquo .i64 x6 64)) rfl p4 rfl (fx5.ext z4) (Els.len1 (fx5.ext z4) lx5 rfl) (by kernel_rfl) (by kernel_rfl) (Fc.here (Cells.app trivial (Cells.app (Cells.rowO (p4.mem 1 rfl)) trivial))) (by kernel_rfl) (by kernel_rfl) (by kernel_rfl) (by kernel_rfl) g9 g10 fun _ q16 f17 f15 => ?_
  obtain rfl := q16
  refine Gl h fun v18 e19 h => ?_
  refine Op_.stE_n (K := (kInt .u64)) 22 (.tmp 23) (.tmp 22) 0 1 (iquo .i64 x6 64) (.u (ior .u64 (gi x5 (iquo .i64 x6 64)) (ishl .u64 1 (irem .i64 x6 64)))) [.u (ior .u64 (gi x5 (iquo .i64 x6 64)) (ishl .u64 1 (irem .i64 x6 64)))] (ior .u64 (gi x5 (iquo .i64 x6 64)) (ishl .u64 1 (irem .i64 x6 64))) v18 4 (Els.len1 (fx5.ext z4) lx5 rfl) e19 p4 rfl (fx5.ext z4) (As 9) (by kernel_rfl) (by kernel_rfl) (by kernel_rfl) rfl (by kernel_rfl) g9 g10 (Nat.zero_le _) fun w5 un6 z5 p5 f21 l22 => ?_
  have l23 : un6.length = 4 := by rw [f21.length, l22]; rfl
  refine AnyG.last [] (Fc S1 w5 []) (by decide) ?_
  refine Ad ?_
  refine Gm 7 [([13], .i x6), ([14, 6], .i (wr .i64 (x6 + 1)))] J121 ?_
  exact Gj 25 [(1, .int .u8 x1), (4, (pt gx4 0)), (5, (pt gx5 0)), (6, .i (wr .i64 (x6 + 1)))] (un5 _ _ h _ _ ((hx.t z4).t z5) _ _ _ p5 u3l f21 l23)
 ·
  rw [df h8]
  refine Gn 4 [] (Yt 11110 B315 [0, 1] J127) ?_
  refine Op_.ldN 24 (.tmp 5) 24 24 ⟨gx5, 0, none⟩ u3a Goes.v (by kernel_rfl) (by kernel_rfl) (by rw [lx5]; kernel_rfl) (At_all (p1.mem 1 rfl)) ?_
  have f24 : Els (kInt .u64) S1 w1 ((U4 un3 []) : List Value) un3 := (els_mk4 (k := .u64) u3l)
  refine Op_.stA 24 (.tmp 4) (.tmp 24) 0 0 gx4 4 u3a p1 rfl rfl Goes.s (by kernel_rfl) (by kernel_rfl) (by kernel_rfl) lx5 (Els.one fx5) fun w6 z6 p6 => ?_
  refine Gn 1 [] J127 ?_
  obtain rfl := sj h
  have p6 := p6.dp 1
  exact Goes.ret (fn := Tryz.f315) (by kernel_rfl) (v := .agg u3a.toArray) (results_n1 (fn := Tryz.f315) (a := .cell 4 24) (by kernel_rfl) (resV_cell ⟨gx4, 0, none⟩ (by kernel_rfl) (run_loadN u3a (by kernel_rfl) (by rw [lx5]; kernel_rfl) (At_all (p6.mem 0 rfl))))) ⟨S1, u3a, rfl, (hx.t z6), p6.drop, (fx5.ext z6), lx5⟩


theorem W.z5v (x0 : Int) (x1 : Int) (r : List Int) (h : M.as x0 x1 = some r) {nz wz S0 w0 Lr} (p0 : Hp nz wz S0 w0 (Lr)) :
  Calls Tryz.prog 315 #[.int .u8 x0, .int .u8 x1] w0 (Rets (Post.z5v nz wz S0 w0 Lr r)) := by
 refine Zf Tryz.f315 B315 23 ?_
 refine Gj 25 [(0, .int .u8 x0), (1, .int .u8 x1)] fun junk => ?_
 delta M.as at h
 refine Gn 2 [] (Yt 10 B315 [0] (Ys 11 B315 [])) ?_
 refine Oa 24 4 0 (.agg #[.u 0, .u 0, .u 0, .u 0]) [.u 0, .u 0, .u 0, .u 0] p0 Goes.v fun b1 w2 z2 p2 => ?_
 refine Gn 3 [] (Yt 110 B315 [0] (Ys 111 B315 [])) ?_
 refine Oa 24 5 0 (.agg #[.u 0, .u 0, .u 0, .u 0]) [.u 0, .u 0, .u 0, .u 0] p2 Goes.v fun b3 w3 z3 p3 => ?_
 refine Gm 10 [([7], .int .u8 x0), ([8, 6], .i (wr .i64 x0))] J121 ?_
 have f7 : Els (kInt .u64) S0 w3 ([.u 0, .u 0, .u 0, .u 0] : List Value) [0, 0, 0, 0] := (Els.cons (K := (kInt .u64)) (vs := [.u 0]) (x := 0) rfl (Els.cons (K := (kInt .u64)) (vs := [.u 0]) (x := 0) rfl (Els.cons (K := (kInt .u64)) (vs := [.u 0]) (x := 0) rfl (Els.cons (K := (kInt .u64)) (vs := [.u 0]) (x := 0) rfl Els.nil))))
 have p3 := (p3.fr 0).fr 1
 exact Gj 25 [(1, .int .u8 x1), (4, (pt b1 0)), (5, (pt b3 0)), (6, .i (wr .i64 x0))] (W.z5w _ _ h _ _ (z2.t z3) _ _ _ p3 rfl f7 rfl)

def Qtu := Yq 1110100 B297
def J12f := Zl Qtu (Zb 0 (Ys 1111 B297 []))
def J12g := Zc Qtu J12f
def J12i := Zb 1 (Ys 1110100111 B297 J12f)
def Qtw := Yq 111010011001100 B297
def J12k := Zl Qtw (Zb 2 J12i)
def J12l := Zc Qtw J12k
def J12q := Ys 11111 B297 []

def Post.z5x (r : List Int) (v : Value) (w' : World) : Prop :=
 ∃ S' vsq, v = .agg vsq.toArray ∧ Ext S0 w0 S' w' ∧ Hp nz wz S' w' (Lr) ∧ Els (kInt .u64) S' w' vsq r ∧ vsq.length = 4

def L.z5y : (List Int) × (List Int) × (List (List Int)) × Int × Int → (List Int) → Prop := fun ⟨u4, x3, x7, x8, x9⟩ r => ∀ S1 w1, Ext S0 w0 S1 w1 → ∀ gx2 gx3 u2l Ax7 nx7 cx7 (_ : Hp nz wz S1 w1 ((some gx2, .row 24 (U4 u4 []) 4 0) :: (some gx3, .row 24 u2l 4 0) :: Lr)) (_ : u4.length = 4) (_ : Els (kInt .u64) S1 w1 u2l x3) (_ : u2l.length = 4) (_ : Rd (kArr 4 (kInt .u64)) S1 w1 Ax7 cx7 x7) (_ : x7.length = nx7) (junk : Nat → Value),
 Goes Tryz.prog (base 297) J12g ⟨lfr 27 [(2, (pt gx2 0)), (3, (pt gx3 0)), (7, .slice Ax7 nx7 cx7), (8, .i x8), (9, .i x9)] junk, []⟩ w1 (Done Tryz.prog 297 (Rets (Post.z5x nz wz S0 w0 Lr r)))

def L.z5z : (List Int) × (List Int) × (List Int) × (List (List Int)) × Int × Int × Int → (List Int) → Prop := fun ⟨u4, x3, x5, x7, x8, x9, x13⟩ r => ∀ S1 w1, Ext S0 w0 S1 w1 → ∀ gx2 gx3 u2l gx5 u3a Ax7 nx7 cx7 (_ : Hp nz wz S1 w1 ((some gx2, .row 24 (U4 u4 []) 4 0) :: (some gx3, .row 24 u2l 4 0) :: (some gx5, .row 24 u3a 4 0) :: Lr)) (_ : u4.length = 4) (_ : Els (kInt .u64) S1 w1 u2l x3) (_ : u2l.length = 4) (_ : Els (kInt .u64) S1 w1 u3a x5) (_ : u3a.length = 4) (_ : Rd (kArr 4 (kInt .u64)) S1 w1 Ax7 cx7 x7) (_ : x7.length = nx7) (junk : Nat → Value),
 Goes Tryz.prog (base 297) J12l ⟨lfr 27 [(2, (pt gx2 0)), (3, (pt gx3 0)), (5, (pt gx5 0)), (7, .slice Ax7 nx7 cx7), (8, .i x8), (9, .i x9), (13, .i x13)] junk, []⟩ w1 (Done Tryz.prog 297 (Rets (Post.z5x nz wz S0 w0 Lr r)))

theorem W.z60 {nz wz S0 w0 Lr} : (∀ a r, M.a2h a = some r → (L.z5y nz wz S0 w0 Lr) a r) ∧ (∀ a r, M.a3l a = some r → (L.z5z nz wz S0 w0 Lr) a r) := by
 refine M.a2h.mutual_partial_correctness (L.z5y nz wz S0 w0 Lr) (L.z5z nz wz S0 w0 Lr) ?_ ?_
 ·
  intro un7 un8 ⟨u4, x3, x7, x8, x9⟩ r h S1 w1 hx gx2 gx3 u2l Ax7 nx7 cx7 p1 u2p fx3 lx3 fx7 lx7 junk
  try dsimp only at h
  subst lx7
  refine Gn 5 [(10, .bool (decide (x9 < x8)))] (Ys 111010010 B297 (Ys 111010011 B297 J12f)) ?_
  refine Gi h (fun h8 h => ?_) fun h8 h => ?_
  ·
   rw [dt h8]
   refine Gn 6 [] (Yt 111010011000 B297 [0, 1, 2, 3] (Ys 111010011001 B297 J12i)) ?_
   refine Gg h fun g9 h => ?_
   refine Gg h fun g10 h => ?_
   refine Oi 405 (.tmp 7) (.tmp 9) 11 0 24 .i64 x9 (gi x7 x9) rfl rfl fx7 Goes.v g9 g10 fun a11 _ f12 q13 => ?_
   obtain ⟨l14, f15⟩ := q13
   obtain rfl := els_lit4' f15 l14
   refine Goes.ldN 24 (.tmp 11) 12 24 a11 (U4 (gi x7 x9) []) (f12.cell) ?_
   refine Oa 24 5 0 (.agg #[.u 0, .u 0, .u 0, .u 0]) [.u 0, .u 0, .u 0, .u 0] p1 Goes.v fun b16 w4 z4 p4 => ?_
   refine So 24 (.tmp 5) (.tmp 12) 0 0 b16 0 (ag (U4 (gi x7 x9) [])) (U4 (gi x7 x9) []) p4 rfl Goes.s fun w5 z5 p5 => ?_
   refine Gn 7 [(13, .i 0)] J12l ?_
   have f21 : Els (kInt .u64) S1 w5 ((U4 (gi x7 x9) []) : List Value) (gi x7 x9) := (els_mk4 (k := .u64) l14)
   have p5 := ((p5.fr 0).fr 2).fr 2
   exact Gj 27 [(2, (pt gx2 0)), (3, (pt gx3 0)), (5, (pt b16 0)), (7, .slice Ax7 x7.length cx7), (8, .i x8), (9, .i x9), (13, .i 0)] (un8 _ _ h _ _ ((hx.t z4).t z5) _ _ _ _ _ _ _ _ p5 u2p (fx3.ext (z4.t z5)) lx3 f21 rfl (fx7.ext (z4.t z5)) rfl)
  ·
   rw [df h8]
   refine Gn 4 [] (Yt 11110 B297 [0, 1] J12q) ?_
   refine Op_.ldN 24 (.tmp 3) 26 24 ⟨gx3, 0, none⟩ u2l Goes.v (by kernel_rfl) (by kernel_rfl) (by rw [lx3]; kernel_rfl) (At_all (p1.mem 1 rfl)) ?_
   have f22 : Els (kInt .u64) S1 w1 ((U4 u4 []) : List Value) u4 := (els_mk4 (k := .u64) u2p)
   refine Op_.stA 24 (.tmp 2) (.tmp 26) 0 0 gx2 4 u2l p1 rfl rfl Goes.s (by kernel_rfl) (by kernel_rfl) (by kernel_rfl) lx3 (Els.one fx3) fun w6 z6 p6 => ?_
   refine Gn 1 [] J12q ?_
   obtain rfl := sj h
   have p6 := p6.dp 1
   exact Goes.ret (fn := Tryz.f297) (by kernel_rfl) (v := .agg u2l.toArray) (results_n1 (fn := Tryz.f297) (a := .cell 2 24) (by kernel_rfl) (resV_cell ⟨gx2, 0, none⟩ (by kernel_rfl) (run_loadN u2l (by kernel_rfl) (by rw [lx3]; kernel_rfl) (At_all (p6.mem 0 rfl))))) ⟨S1, u2l, rfl, (hx.t z6), p6.drop, (fx3.ext z6), lx3⟩
 ·
  intro un9 un7 una un8 ⟨u4, x3, x5, x7, x8, x9, x13⟩ r h S1 w1 hx gx2 gx3 u2l gx5 u3a Ax7 nx7 cx7 p1 u2p fx3 lx3 fx5 lx5 fx7 lx7 junk
  try dsimp only at h
  subst lx7
  refine Gn 5 [(14, .bool (decide (x13 < 4)))] (Ys 11101001100110010 B297 (Ys 11101001100110011 B297 J12k)) ?_
  refine Gi h (fun h23 h => ?_) fun h23 h => ?_
  ·
   rw [dt h23]
   refine Gm 9 [([15, 6], .i x13)] (Ys 11101001100110011001 B297 (Zb 3 (Ys 111010011001100111 B297 J12k))) ?_
   have z7 : Ext S1 w1 S1 (w1).drew := Ext.draw
   have p7 := p1.draw
   refine Gd [8] (Fc S1 (w1).drew ([] ++ (rowCellsO (some gx3) u2l ++ (rowCellsO (some gx5) u3a ++ [])))) 8 9 ?_
   generalize (w1).drew = w7 at z7 p7 ⊢
   refine AnyG.pu 0 (.move (.tmp 6)) 16 3 (.i x13) (Fc.here (Cells.app trivial (Cells.app (Cells.rowO (p7.mem 1 rfl)) (Cells.app (Cells.rowO (p7.mem 2 rfl)) trivial)))) ?_
   refine Gg h fun g24 h => ?_
   refine AnyG.ixA_n (i := 1) (K := (kInt .u64)) 24 (.tmp 3) (.tmp 16) 17 0 22 4 .i64 x13 1 (gi x3 x13) rfl p7 rfl (fx3.ext z7) (Els.len1 (fx3.ext z7) lx3 rfl) (by kernel_rfl) (by kernel_rfl) (Fc.here (Cells.app trivial (Cells.app (Cells.rowO (p7.mem 1 rfl)) (Cells.app (Cells.rowO (p7.mem 2 rfl)) trivial)))) (by kernel_rfl) (by kernel_rfl) (by kernel_rfl) (by kernel_rfl) g24 h23 fun _ q26 f27 f25 => ?_
   obtain rfl := q26
   refine Al 2 22 (.tmp 17) 18 22 ⟨gx3, (x13 : Int).toNat * (kInt .u64).size, none⟩ (.u (gi x3 x13)) (Fc.here (Cells.app trivial (Cells.app (Cells.rowO (p7.mem 1 rfl)) (Cells.app (Cells.rowO (p7.mem 2 rfl)) trivial)))) (fun _ h => h.2.right.left.rowAt (f27 0 _ rfl)) ?_
   refine AnyG.pu 3 (.move (.tmp 6)) 19 3 (.i x13) (Fc.here (Cells.app trivial (Cells.app (Cells.rowO (p7.mem 1 rfl)) (Cells.app (Cells.rowO (p7.mem 2 rfl)) trivial)))) ?_
   refine AnyG.ixA_n (i := 4) (K := (kInt .u64)) 24 (.tmp 5) (.tmp 19) 20 0 22 4 .i64 x13 2 (gi x5 x13) rfl p7 rfl (fx5.ext z7) (Els.len1 (fx5.ext z7) lx5 rfl) (by kernel_rfl) (by kernel_rfl) (Fc.here (Cells.app trivial (Cells.app (Cells.rowO (p7.mem 1 rfl)) (Cells.app (Cells.rowO (p7.mem 2 rfl)) trivial)))) (by kernel_rfl) (by kernel_rfl) (by kernel_rfl) (by kernel_rfl) g24 h23 fun _ q29 f30 f28 => ?_
   obtain rfl := q29
   refine Al 5 22 (.tmp 20) 21 22 ⟨gx5, (x13 : Int).toNat * (kInt .u64).size, none⟩ (.u (gi x5 x13)) (Fc.here (Cells.app trivial (Cells.app (Cells.rowO (p7.mem 1 rfl)) (Cells.app (Cells.rowO (p7.mem 2 rfl)) trivial)))) (fun _ h => h.2.right.right.left.rowAt (f30 0 _ rfl)) ?_
   refine AnyG.pu 6 (.binOp .or 22 (.tmp 18) (.tmp 21) 22) 22 22 (.u (ior .u64 (gi x3 x13) (gi x5 x13))) (Fc.here (Cells.app trivial (Cells.app (Cells.rowO (p7.mem 1 rfl)) (Cells.app (Cells.rowO (p7.mem 2 rfl)) trivial)))) ?_
   refine AnyG.ixA_n (i := 7) (K := (kInt .u64)) 24 (.tmp 3) (.tmp 16) 23 0 22 4 .i64 x13 1 (gi x3 x13) rfl p7 rfl (fx3.ext z7) (Els.len1 (fx3.ext z7) lx3 rfl) (by kernel_rfl) (by kernel_rfl) (Fc.here (Cells.app trivial (Cells.app (Cells.rowO (p7.mem 1 rfl)) (Cells.app (Cells.rowO (p7.mem 2 rfl)) trivial)))) (by kernel_rfl) (by kernel_rfl) (by kernel_rfl) (by kernel_rfl) g24 h23 fun _ q32 f33 f31 => ?_
   obtain rfl := q32
   refine Gl h fun v34 e35 h => ?_
   refine Op_.stE_n (K := (kInt .u64)) 22 (.tmp 23) (.tmp 22) 0 1 x13 (.u (ior .u64 (gi x3 x13) (gi x5 x13))) [.u (ior .u64 (gi x3 x13) (gi x5 x13))] (ior .u64 (gi x3 x13) (gi x5 x13)) v34 4 (Els.len1 (fx3.ext z7) lx3 rfl) e35 p7 rfl (fx3.ext z7) (As 8) (by kernel_rfl) (by kernel_rfl) (by kernel_rfl) rfl (by kernel_rfl) g24 h23 (Nat.zero_le _) fun w8 unb z8 p8 f37 l38 => ?_
   have l39 : unb.length = 4 := by rw [f37.length, l38]; rfl
   refine AnyG.last [] (Fc S1 w8 []) (by decide) ?_
   refine Ad ?_
   refine Gm 6 [([24, 13], .i (wr .i64 (x13 + 1)))] J12l ?_
   exact Gj 27 [(2, (pt gx2 0)), (3, (pt gx3 0)), (5, (pt gx5 0)), (7, .slice Ax7 x7.length cx7), (8, .i x8), (9, .i x9), (13, .i (wr .i64 (x13 + 1)))] (un8 _ _ h _ _ ((hx.t z7).t z8) _ _ _ _ _ _ _ _ p8 u2p f37 l39 (fx5.ext (z7.t z8)) lx5 (fx7.ext (z7.t z8)) rfl)
  ·
   rw [df h23]
   refine Gm 8 [([25, 9], .i (wr .i64 (x9 + 1)))] J12g ?_
   have p1 := p1.dp 2
   exact Gj 27 [(2, (pt gx2 0)), (3, (pt gx3 0)), (7, .slice Ax7 x7.length cx7), (8, .i x8), (9, .i (wr .i64 (x9 + 1)))] (una _ _ h _ _ hx _ _ _ _ _ _ p1 u2p fx3 lx3 fx7 rfl)

theorem W.z5y {nz wz S0 w0 Lr} : ∀ a r, M.a2h a = some r → (L.z5y nz wz S0 w0 Lr) a r := (W.z60).1

theorem W.z5z {nz wz S0 w0 Lr} : ∀ a r, M.a3l a = some r → (L.z5z nz wz S0 w0 Lr) a r := (W.z60).2


theorem W.z5x (x0 : List (List Int)) (r : List Int) (h : M.a20 x0 = some r) {nz wz S0 w0 Lr} (Ax0 nx0 cx0) (p0 : Hp nz wz S0 w0 (Lr)) (fx0 : Rd (kArr 4 (kInt .u64)) S0 w0 Ax0 cx0 x0) (lx0 : x0.length = nx0) :
  Calls Tryz.prog 297 #[.slice Ax0 nx0 cx0] w0 (Rets (Post.z5x nz wz S0 w0 Lr r)) := by
 subst lx0
 refine Zf Tryz.f297 B297 26 ?_
 refine Gj 27 [(0, .slice Ax0 x0.length cx0)] fun junk => ?_
 delta M.a20 at h
 refine Gn 2 [] (Yt 10 B297 [0] (Ys 11 B297 [])) ?_
 refine Oa 24 2 0 (.agg #[.u 0, .u 0, .u 0, .u 0]) [.u 0, .u 0, .u 0, .u 0] p0 Goes.v fun b1 w2 z2 p2 => ?_
 refine Gn 3 [] (Yt 110 B297 [0] (Ys 111 B297 [])) ?_
 refine Oa 24 3 0 (.agg #[.u 0, .u 0, .u 0, .u 0]) [.u 0, .u 0, .u 0, .u 0] p2 Goes.v fun b3 w3 z3 p3 => ?_
 refine Gn 10 [(7, .slice Ax0 x0.length cx0), (8, .i (x0.length : Int)), (9, .i 0)] J12g ?_
 have f7 : Els (kInt .u64) S0 w3 ([.u 0, .u 0, .u 0, .u 0] : List Value) [0, 0, 0, 0] := (Els.cons (K := (kInt .u64)) (vs := [.u 0]) (x := 0) rfl (Els.cons (K := (kInt .u64)) (vs := [.u 0]) (x := 0) rfl (Els.cons (K := (kInt .u64)) (vs := [.u 0]) (x := 0) rfl (Els.cons (K := (kInt .u64)) (vs := [.u 0]) (x := 0) rfl Els.nil))))
 have p3 := (p3.fr 0).fr 1
 exact Gj 27 [(2, (pt b1 0)), (3, (pt b3 0)), (7, .slice Ax0 x0.length cx0), (8, .i (x0.length : Int)), (9, .i 0)] (W.z5y _ _ h _ _ (z2.t z3) _ _ _ _ _ _ p3 rfl f7 rfl (fx0.ext (z2.t z3)) rfl)

def J136 := Zb 0 (Ys 1111 B298 [])
def J138 := Zb 4 (Ys 1110101 B298 J136)
def J13a := Zb 3 (Ys 111010001 B298 J138)
def J13c := Zb 2 (Ys 11101000001 B298 J13a)
def J13e := Ys 1110100000001 B298 J13c
def J13g := Ys 111010000000001 B298 (Zb 1 J13e)
def J13k := Ys 111010000010 B298 (Ys 111010000011 B298 J13a)
def J13l := Ys 11111 B298 []
def J13m := Ys 111101 B298 J13l
def J13n := Yt 1111010 B298 [0, 1, 2] J13l
def J13o := Ys 111111 B298 []
def J13p := Yt 111110 B298 [0, 1, 2] J13o
def J13w := Ys 111010101 B298 (Ys 11101011 B298 J136)

def Post.z61 (r : (List Int) × Bool) (v : Value) (w' : World) : Prop :=
 ∃ S' unc, v = .tuple #[.agg unc.toArray, .bool r.2] ∧ Ext S0 w0 S' w' ∧ Hp nz wz S' w' (Lr) ∧ Els (kInt .u64) S' w' unc r.1 ∧ unc.length = 4

theorem W.z61 (x0 : Int) (r : (List Int) × Bool) (h : M.a5l x0 = some r) {nz wz S0 w0 Lr} (p0 : Hp nz wz S0 w0 (Lr)) :
  Calls Tryz.prog 298 #[.int .u8 x0] w0 (Rets (Post.z61 nz wz S0 w0 Lr r)) := by
 refine Zf Tryz.f298 B298 34 ?_
 refine Gj 35 [(0, .int .u8 x0)] fun junk => ?_
 delta M.a5l at h
 refine Gn 2 [] (Yt 10 B298 [0, 1] (Ys 11 B298 [])) ?_
 refine Oa 24 2 0 (.agg #[.u 0, .u 0, .u 0, .u 0]) [.u 0, .u 0, .u 0, .u 0] p0 Goes.v fun b1 w2 z2 p2 => ?_
 refine Gn 4 [(3, .bool false)] (Yt 110 B298 [0] (Ys 111 B298 [])) ?_
 refine Oa 24 4 0 (.agg #[.u 0, .u 0, .u 0, .u 0]) [.u 0, .u 0, .u 0, .u 0] p2 Goes.v fun b3 w3 z3 p3 => ?_
 refine Gn 14 [(5, .int .u8 x0), (6, .int .u8 (ior .u8 x0 32))] (Ys 111010000000 B298 J13c) ?_
 refine Gm 9 [([8, 7], .bool (decide (ior .u8 x0 32 = 119)))] (Ys 11101000000000001 B298 (Ys 1110100000000001 B298 J13g)) ?_
 refine Gi h (fun h5 h => ?_) fun h5 h => ?_
 ·
  rw [dt h5]
  refine Gn 2 [] J13e ?_
  have z4 : Ext S0 w3 S0 (w3).drew := Ext.draw
  have p4 := p3.draw
  refine Gd [4, 5, 6] (Fc S0 (w3).drew [(⟨b3, 0, none⟩, .u 0), (⟨b3, 1, none⟩, .u 0), (⟨b3, 2, none⟩, .u 0), (⟨b3, 3, none⟩, .u 0)]) 6 7 ?_
  generalize (w3).drew = w4 at z4 p4 ⊢
  refine AnyG.ldN (i := 0) 24 (.tmp 4) 13 24 ⟨b3, 0, none⟩ [.u 0, .u 0, .u 0, .u 0] (by kernel_rfl) (by kernel_rfl) (Fc.here (p4.cs [(0, 0, 4)])) (by kernel_rfl) (by kernel_rfl) (by kernel_rfl) (fun _ h j v hj => by match j, hj with | 0, rfl => exact h.2.at_ 0 rfl | 1, rfl => exact h.2.at_ 1 rfl | 2, rfl => exact h.2.at_ 2 rfl | 3, rfl => exact h.2.at_ 3 rfl | (j + 4), hj => simp at hj) ?_
  refine Gb h fun y6 e7 h => ?_
  refine Oc (.call { callee := .value (.func 315), args := #[(.const (.int .u8 97)), (.const (.int .u8 122))], argTypes := #[5, 5] }) 14 24 315 #[.int .u8 97, .int .u8 122] (Ac 1) (W.z5v 97 122 y6 e7  p4 ) ?_
  rintro _ w5 ⟨S5, und, rfl, z5, p5, une, unf⟩
  refine AnyG.next z5 ⟨(p5.c 0 0), (p5.c 0 1), (p5.c 0 2), (p5.c 0 3), trivial⟩ ?_
  refine Gb h fun y8 e9 h => ?_
  refine Oc (.call { callee := .value (.func 315), args := #[(.const (.int .u8 65)), (.const (.int .u8 90))], argTypes := #[5, 5] }) 15 24 315 #[.int .u8 65, .int .u8 90] (Ac 2) (W.z5v 65 90 y8 e9  p5 ) ?_
  rintro _ w6 ⟨S6, ung, rfl, z6, p6, ufy, unh⟩
  refine AnyG.next z6 ⟨(p6.c 0 0), (p6.c 0 1), (p6.c 0 2), (p6.c 0 3), trivial⟩ ?_
  refine Gb h fun y10 e11 h => ?_
  refine Oc (.call { callee := .value (.func 274), args := #[(.const (.int .u8 95))], argTypes := #[5] }) 16 24 274 #[.int .u8 95] (Ac 3) (W.z5r 95 y10 e11  p6 ) ?_
  rintro _ w7 ⟨S7, uni, rfl, z7, p7, unj, unk⟩
  refine AnyG.next z7 ⟨(p7.c 0 0), (p7.c 0 1), (p7.c 0 2), (p7.c 0 3), trivial⟩ ?_
  have l12 := Els.len1 (une.ext (z6.t z7)) unf rfl
  obtain rfl := els_lit4 (une.ext (z6.t z7)) unf
  have l13 := Els.len1 (ufy.ext z7) unh rfl
  obtain rfl := els_lit4 (ufy.ext z7) unh
  have l14 := Els.len1 unj unk rfl
  obtain rfl := els_lit4 unj unk
  have f16 : Els (kArr 4 (kInt .u64)) S7 w7 ((.u 0 :: .u 0 :: .u 0 :: .u 0 :: U4 y6 (U4 y8 (U4 y10 []))) : List Value) [[0, 0, 0, 0], y6, y8, y10] := by exact (Els.cons (K := (kArr 4 (kInt .u64))) (vs := [.u 0, .u 0, .u 0, .u 0]) (x := [0, 0, 0, 0]) ⟨rfl, (Els.cons (K := (kInt .u64)) (vs := [.u 0]) (x := 0) rfl (Els.cons (K := (kInt .u64)) (vs := [.u 0]) (x := 0) rfl (Els.cons (K := (kInt .u64)) (vs := [.u 0]) (x := 0) rfl (Els.cons (K := (kInt .u64)) (vs := [.u 0]) (x := 0) rfl Els.nil))))⟩ (Els.cons (K := (kArr 4 (kInt .u64))) (vs := (U4 y6 [])) (x := y6) ⟨l12, els_mk4 l12⟩ (Els.cons (K := (kArr 4 (kInt .u64))) (vs := (U4 y8 [])) (x := y8) ⟨l13, els_mk4 l13⟩ (Els.cons (K := (kArr 4 (kInt .u64))) (vs := (U4 y10 [])) (x := y10) ⟨l14, els_mk4 l14⟩ Els.nil))))
  refine Om (.buildSlice 405 4 #[(0, (.tmp 13)), (1, (.tmp 14)), (2, (.tmp 15)), (3, (.tmp 16))]) 17 405 (fun b => .slice (Gp (some b)) 4 4) 24 ((.u 0 :: .u 0 :: .u 0 :: .u 0 :: U4 y6 (U4 y8 (U4 y10 []))) : List Value) (4 * (kArr 4 (kInt .u64)).size) p7 (Av 4) fun b15 w8 z8 p8 => ?_
  refine AnyG.last [5, 6] (Fc S7 w8 []) (by decide) ?_
  obtain ⟨S9, z9, p9, f18⟩ := p8.freezeRd 0 rfl (f16.ext z8) (by decide)
  refine AnyG.refz z9 ?_
  refine Gb h fun y19 e20 h => ?_
  refine Oc (kc 297 [17] #[405]) 18 24 297 #[.slice (Gp (some b15)) 4 4] (Ac 5) (W.z5x [[0, 0, 0, 0], y6, y8, y10] y19 e20 _ _ _ p9 f18 rfl) ?_
  rintro _ w10 ⟨S10, unl, rfl, z10, p10, unm, unn⟩
  refine AnyG.last [6] (Fc S10 w10 []) (by decide) ?_
  have f21 : Els (kInt .u64) S10 w10 ([.u 0, .u 0, .u 0, .u 0] : List Value) [0, 0, 0, 0] := (Els.cons (K := (kInt .u64)) (vs := [.u 0]) (x := 0) rfl (Els.cons (K := (kInt .u64)) (vs := [.u 0]) (x := 0) rfl (Els.cons (K := (kInt .u64)) (vs := [.u 0]) (x := 0) rfl (Els.cons (K := (kInt .u64)) (vs := [.u 0]) (x := 0) rfl Els.nil))))
  refine Op_.stA 24 (.tmp 4) (.tmp 18) 0 1 b3 4 unl p10 rfl rfl (As 6) (by kernel_rfl) (by kernel_rfl) (by kernel_rfl) unn (Els.one unm) fun w11 z11 p11 => ?_
  refine AnyG.last [] (Fc S10 w11 []) (by decide) ?_
  refine Ad ?_
  have p11 := p11.dp 0
  refine Gn 2 [] J13k ?_
  have z12 : Ext S10 w11 S10 (w11).drew := Ext.draw
  have p12 := p11.draw
  refine Gd [2, 3, 4] (Fc S10 (w11).drew ([] ++ (rowCellsO (some b3) unl ++ []))) 7 5 ?_
  generalize (w11).drew = w12 at z12 p12 ⊢
  refine AnyG.ldN (i := 0) 24 (.tmp 4) 19 24 ⟨b3, 0, none⟩ unl (by kernel_rfl) (by kernel_rfl) (Fc.here (Cells.app trivial (Cells.app (Cells.rowO (p12.mem 0 rfl)) trivial))) (by kernel_rfl) (by kernel_rfl) (by rw [unn]; kernel_rfl) (fun _ h => h.2.right.left.rowsAt (fun q v hq => by rw [Nat.zero_add]; exact hq)) ?_
  refine Gb h fun y22 e23 h => ?_
  refine Oc (.call { callee := .value (.func 315), args := #[(.const (.int .u8 48)), (.const (.int .u8 57))], argTypes := #[5, 5] }) 20 24 315 #[.int .u8 48, .int .u8 57] (Ac 1) (W.z5v 48 57 y22 e23  p12 ) ?_
  rintro _ w13 ⟨S13, uno, rfl, z13, p13, unp, unq⟩
  refine AnyG.next z13 (Cells.app trivial (Cells.app (Cells.rowO (p13.mem 0 rfl)) trivial)) ?_
  have l24 := Els.len1 (unm.ext ((z11.t z12).t z13)) unn rfl
  obtain rfl := els_lit4 (unm.ext ((z11.t z12).t z13)) unn
  have l25 := Els.len1 unp unq rfl
  obtain rfl := els_lit4 unp unq
  have f27 : Els (kArr 4 (kInt .u64)) S13 w13 ((U4 y19 (U4 y22 [])) : List Value) [y19, y22] := by exact (Els.cons (K := (kArr 4 (kInt .u64))) (vs := (U4 y19 [])) (x := y19) ⟨l24, els_mk4 l24⟩ (Els.cons (K := (kArr 4 (kInt .u64))) (vs := (U4 y22 [])) (x := y22) ⟨l25, els_mk4 l25⟩ Els.nil))
  refine Om (.buildSlice 405 2 #[(0, (.tmp 19)), (1, (.tmp 20))]) 21 405 (fun b => .slice (Gp (some b)) 2 2) 24 ((U4 y19 (U4 y22 [])) : List Value) (2 * (kArr 4 (kInt .u64)).size) p13 (Av 2) fun b26 w14 z14 p14 => ?_
  refine AnyG.last [3, 4] (Fc S13 w14 []) (by decide) ?_
  obtain ⟨S15, z15, p15, f29⟩ := p14.freezeRd 0 rfl (f27.ext z14) (by decide)
  refine AnyG.refz z15 ?_
  refine Gb h fun y30 e31 h => ?_
  refine Oc (kc 297 [21] #[405]) 22 24 297 #[.slice (Gp (some b26)) 2 2] (Ac 3) (W.z5x [y19, y22] y30 e31 _ _ _ p15 f29 rfl) ?_
  rintro _ w16 ⟨S16, unr, rfl, z16, p16, uns, unt⟩
  refine AnyG.last [4] (Fc S16 w16 []) (by decide) ?_
  refine Op_.stA 24 (.tmp 4) (.tmp 22) 0 1 b3 4 unr p16 rfl unn (As 4) (by kernel_rfl) (by kernel_rfl) (by kernel_rfl) unt (Els.one uns) fun w17 z17 p17 => ?_
  refine AnyG.last [] (Fc S16 w17 []) (by decide) ?_
  refine Ad ?_
  have p17 := p17.dp 0
  refine Gn 8 [(29, .int .u8 x0), (30, .int .u8 (iand .u8 x0 32)), (31, .bool (decide (iand .u8 x0 32 = 0)))] J13m ?_
  refine Gi h (fun h32 h => ?_) fun h32 h => ?_
  ·
   rw [dt h32]
   refine Gn 2 [] J13n ?_
   refine Op_.ldN 24 (.tmp 4) 32 24 ⟨b3, 0, none⟩ unr Goes.v (by kernel_rfl) (by kernel_rfl) (by rw [unt]; kernel_rfl) (At_all (p17.mem 0 rfl)) ?_
   refine Gb h fun y33 e34 h => ?_
   refine Gc (kc 273 [32] #[24]) 33 24 273 _ (W.z5s y30 y33 e34 _ p17 (uns.ext z17) unt) ?_
   rintro _ w18 ⟨S18, unu, rfl, z18, p18, unv, unw⟩
   refine Op_.stA 24 (.tmp 4) (.tmp 33) 0 0 b3 4 unu p18 rfl unt Goes.s (by kernel_rfl) (by kernel_rfl) (by kernel_rfl) unw (Els.one unv) fun w19 z19 p19 => ?_
   refine Gn 3 [] J13p ?_
   refine Op_.ldN 24 (.tmp 4) 34 24 ⟨b3, 0, none⟩ unu Goes.v (by kernel_rfl) (by kernel_rfl) (by rw [unw]; kernel_rfl) (At_all (p19.mem 0 rfl)) ?_
   have f35 : Els (kInt .u64) S18 w19 ([.u 0, .u 0, .u 0, .u 0] : List Value) [0, 0, 0, 0] := (Els.cons (K := (kInt .u64)) (vs := [.u 0]) (x := 0) rfl (Els.cons (K := (kInt .u64)) (vs := [.u 0]) (x := 0) rfl (Els.cons (K := (kInt .u64)) (vs := [.u 0]) (x := 0) rfl (Els.cons (K := (kInt .u64)) (vs := [.u 0]) (x := 0) rfl Els.nil))))
   refine Op_.stA 24 (.tmp 2) (.tmp 34) 0 1 b1 4 unu p19 rfl rfl Goes.s (by kernel_rfl) (by kernel_rfl) (by kernel_rfl) unw (Els.one (unv.ext z19)) fun w20 z20 p20 => ?_
   refine Gn 2 [(3, .bool true)] J13o ?_
   obtain rfl := sj h
   have p20 := p20.dp 0
   exact Goes.ret (fn := Tryz.f298) (by kernel_rfl) (v := .tuple #[.agg unu.toArray, .bool true]) (results_n2 (fn := Tryz.f298) (a := .cell 2 24) (b := .tmp 3) (by kernel_rfl) (resV_cell ⟨b1, 0, none⟩ (by kernel_rfl) (run_loadN unu (by kernel_rfl) (by rw [unw]; kernel_rfl) (At_all (p20.mem 0 rfl)))) (resV_tmp (by kernel_rfl))) ⟨S18, unu, rfl, ((((((((((((((((((z2.t z3).t z4).t z5).t z6).t z7).t z8).t z9).t z10).t z11).t z12).t z13).t z14).t z15).t z16).t z17).t z18).t z19).t z20), p20.drop, (unv.ext (z19.t z20)), unw⟩
  ·
   rw [df h32]
   refine Gn 4 [] J13p ?_
   refine Op_.ldN 24 (.tmp 4) 34 24 ⟨b3, 0, none⟩ unr Goes.v (by kernel_rfl) (by kernel_rfl) (by rw [unt]; kernel_rfl) (At_all (p17.mem 0 rfl)) ?_
   have f36 : Els (kInt .u64) S16 w17 ([.u 0, .u 0, .u 0, .u 0] : List Value) [0, 0, 0, 0] := (Els.cons (K := (kInt .u64)) (vs := [.u 0]) (x := 0) rfl (Els.cons (K := (kInt .u64)) (vs := [.u 0]) (x := 0) rfl (Els.cons (K := (kInt .u64)) (vs := [.u 0]) (x := 0) rfl (Els.cons (K := (kInt .u64)) (vs := [.u 0]) (x := 0) rfl Els.nil))))
   refine Op_.stA 24 (.tmp 2) (.tmp 34) 0 1 b1 4 unr p17 rfl rfl Goes.s (by kernel_rfl) (by kernel_rfl) (by kernel_rfl) unt (Els.one (uns.ext z17)) fun w21 z21 p21 => ?_
   refine Gn 2 [(3, .bool true)] J13o ?_
   obtain rfl := sj h
   have p21 := p21.dp 0
   exact Goes.ret (fn := Tryz.f298) (by kernel_rfl) (v := .tuple #[.agg unr.toArray, .bool true]) (results_n2 (fn := Tryz.f298) (a := .cell 2 24) (b := .tmp 3) (by kernel_rfl) (resV_cell ⟨b1, 0, none⟩ (by kernel_rfl) (run_loadN unr (by kernel_rfl) (by rw [unt]; kernel_rfl) (At_all (p21.mem 0 rfl)))) (resV_tmp (by kernel_rfl))) ⟨S16, unr, rfl, ((((((((((((((((z2.t z3).t z4).t z5).t z6).t z7).t z8).t z9).t z10).t z11).t z12).t z13).t z14).t z15).t z16).t z17).t z21), p21.drop, (uns.ext (z17.t z21)), unt⟩
 ·
  rw [df h5]
  refine Gm 8 [([10, 9], .bool (decide (ior .u8 x0 32 = 100)))] (Ys 111010000000000101 B298 (Ys 11101000000000011 B298 J13g)) ?_
  refine Gi h (fun h37 h => ?_) fun h37 h => ?_
  ·
   rw [dt h37]
   refine Gn 3 [] J13k ?_
   have z22 : Ext S0 w3 S0 (w3).drew := Ext.draw
   have p22 := p3.draw
   refine Gd [2, 3, 4] (Fc S0 (w3).drew [(⟨b3, 0, none⟩, .u 0), (⟨b3, 1, none⟩, .u 0), (⟨b3, 2, none⟩, .u 0), (⟨b3, 3, none⟩, .u 0)]) 7 5 ?_
   generalize (w3).drew = w22 at z22 p22 ⊢
   refine AnyG.ldN (i := 0) 24 (.tmp 4) 19 24 ⟨b3, 0, none⟩ [.u 0, .u 0, .u 0, .u 0] (by kernel_rfl) (by kernel_rfl) (Fc.here (p22.cs [(0, 0, 4)])) (by kernel_rfl) (by kernel_rfl) (by kernel_rfl) (fun _ h j v hj => by match j, hj with | 0, rfl => exact h.2.at_ 0 rfl | 1, rfl => exact h.2.at_ 1 rfl | 2, rfl => exact h.2.at_ 2 rfl | 3, rfl => exact h.2.at_ 3 rfl | (j + 4), hj => simp at hj) ?_
   refine Gb h fun y38 e39 h => ?_
   refine Oc (.call { callee := .value (.func 315), args := #[(.const (.int .u8 48)), (.const (.int .u8 57))], argTypes := #[5, 5] }) 20 24 315 #[.int .u8 48, .int .u8 57] (Ac 1) (W.z5v 48 57 y38 e39  p22 ) ?_
   rintro _ w23 ⟨S23, unx, rfl, z23, p23, uny, unz⟩
   refine AnyG.next z23 ⟨(p23.c 0 0), (p23.c 0 1), (p23.c 0 2), (p23.c 0 3), trivial⟩ ?_
   have l40 := Els.len1 uny unz rfl
   obtain rfl := els_lit4 uny unz
   have f42 : Els (kArr 4 (kInt .u64)) S23 w23 ((.u 0 :: .u 0 :: .u 0 :: .u 0 :: U4 y38 []) : List Value) [[0, 0, 0, 0], y38] := by exact (Els.cons (K := (kArr 4 (kInt .u64))) (vs := [.u 0, .u 0, .u 0, .u 0]) (x := [0, 0, 0, 0]) ⟨rfl, (Els.cons (K := (kInt .u64)) (vs := [.u 0]) (x := 0) rfl (Els.cons (K := (kInt .u64)) (vs := [.u 0]) (x := 0) rfl (Els.cons (K := (kInt .u64)) (vs := [.u 0]) (x := 0) rfl (Els.cons (K := (kInt .u64)) (vs := [.u 0]) (x := 0) rfl Els.nil))))⟩ (Els.cons (K := (kArr 4 (kInt .u64))) (vs := (U4 y38 [])) (x := y38) ⟨l40, els_mk4 l40⟩ Els.nil))
   refine Om (.buildSlice 405 2 #[(0, (.tmp 19)), (1, (.tmp 20))]) 21 405 (fun b => .slice (Gp (some b)) 2 2) 24 ((.u 0 :: .u 0 :: .u 0 :: .u 0 :: U4 y38 []) : List Value) (2 * (kArr 4 (kInt .u64)).size) p23 (Av 2) fun b41 w24 z24 p24 => ?_
   refine AnyG.last [3, 4] (Fc S23 w24 []) (by decide) ?_
   obtain ⟨S25, z25, p25, f44⟩ := p24.freezeRd 0 rfl (f42.ext z24) (by decide)
   refine AnyG.refz z25 ?_
   refine Gb h fun y45 e46 h => ?_
   refine Oc (kc 297 [21] #[405]) 22 24 297 #[.slice (Gp (some b41)) 2 2] (Ac 3) (W.z5x [[0, 0, 0, 0], y38] y45 e46 _ _ _ p25 f44 rfl) ?_
   rintro _ w26 ⟨S26, uo0, rfl, z26, p26, uo1, uo2⟩
   refine AnyG.last [4] (Fc S26 w26 []) (by decide) ?_
   have f47 : Els (kInt .u64) S26 w26 ([.u 0, .u 0, .u 0, .u 0] : List Value) [0, 0, 0, 0] := (Els.cons (K := (kInt .u64)) (vs := [.u 0]) (x := 0) rfl (Els.cons (K := (kInt .u64)) (vs := [.u 0]) (x := 0) rfl (Els.cons (K := (kInt .u64)) (vs := [.u 0]) (x := 0) rfl (Els.cons (K := (kInt .u64)) (vs := [.u 0]) (x := 0) rfl Els.nil))))
   refine Op_.stA 24 (.tmp 4) (.tmp 22) 0 1 b3 4 uo0 p26 rfl rfl (As 4) (by kernel_rfl) (by kernel_rfl) (by kernel_rfl) uo2 (Els.one uo1) fun w27 z27 p27 => ?_
   refine AnyG.last [] (Fc S26 w27 []) (by decide) ?_
   refine Ad ?_
   have p27 := p27.dp 0
   refine Gn 8 [(29, .int .u8 x0), (30, .int .u8 (iand .u8 x0 32)), (31, .bool (decide (iand .u8 x0 32 = 0)))] J13m ?_
   refine Gi h (fun h48 h => ?_) fun h48 h => ?_
   ·
    rw [dt h48]
    refine Gn 2 [] J13n ?_
    refine Op_.ldN 24 (.tmp 4) 32 24 ⟨b3, 0, none⟩ uo0 Goes.v (by kernel_rfl) (by kernel_rfl) (by rw [uo2]; kernel_rfl) (At_all (p27.mem 0 rfl)) ?_
    refine Gb h fun y49 e50 h => ?_
    refine Gc (kc 273 [32] #[24]) 33 24 273 _ (W.z5s y45 y49 e50 _ p27 (uo1.ext z27) uo2) ?_
    rintro _ w28 ⟨S28, uo3, rfl, z28, p28, uo4, uo5⟩
    refine Op_.stA 24 (.tmp 4) (.tmp 33) 0 0 b3 4 uo3 p28 rfl uo2 Goes.s (by kernel_rfl) (by kernel_rfl) (by kernel_rfl) uo5 (Els.one uo4) fun w29 z29 p29 => ?_
    refine Gn 3 [] J13p ?_
    refine Op_.ldN 24 (.tmp 4) 34 24 ⟨b3, 0, none⟩ uo3 Goes.v (by kernel_rfl) (by kernel_rfl) (by rw [uo5]; kernel_rfl) (At_all (p29.mem 0 rfl)) ?_
    have f51 : Els (kInt .u64) S28 w29 ([.u 0, .u 0, .u 0, .u 0] : List Value) [0, 0, 0, 0] := (Els.cons (K := (kInt .u64)) (vs := [.u 0]) (x := 0) rfl (Els.cons (K := (kInt .u64)) (vs := [.u 0]) (x := 0) rfl (Els.cons (K := (kInt .u64)) (vs := [.u 0]) (x := 0) rfl (Els.cons (K := (kInt .u64)) (vs := [.u 0]) (x := 0) rfl Els.nil))))
    refine Op_.stA 24 (.tmp 2) (.tmp 34) 0 1 b1 4 uo3 p29 rfl rfl Goes.s (by kernel_rfl) (by kernel_rfl) (by kernel_rfl) uo5 (Els.one (uo4.ext z29)) fun w30 z30 p30 => ?_
    refine Gn 2 [(3, .bool true)] J13o ?_
    obtain rfl := sj h
    have p30 := p30.dp 0
    exact Goes.ret (fn := Tryz.f298) (by kernel_rfl) (v := .tuple #[.agg uo3.toArray, .bool true]) (results_n2 (fn := Tryz.f298) (a := .cell 2 24) (b := .tmp 3) (by kernel_rfl) (resV_cell ⟨b1, 0, none⟩ (by kernel_rfl) (run_loadN uo3 (by kernel_rfl) (by rw [uo5]; kernel_rfl) (At_all (p30.mem 0 rfl)))) (resV_tmp (by kernel_rfl))) ⟨S28, uo3, rfl, ((((((((((z2.t z3).t z22).t z23).t z24).t z25).t z26).t z27).t z28).t z29).t z30), p30.drop, (uo4.ext (z29.t z30)), uo5⟩
   ·
    rw [df h48]
    refine Gn 4 [] J13p ?_
    refine Op_.ldN 24 (.tmp 4) 34 24 ⟨b3, 0, none⟩ uo0 Goes.v (by kernel_rfl) (by kernel_rfl) (by rw [uo2]; kernel_rfl) (At_all (p27.mem 0 rfl)) ?_
    have f52 : Els (kInt .u64) S26 w27 ([.u 0, .u 0, .u 0, .u 0] : List Value) [0, 0, 0, 0] := (Els.cons (K := (kInt .u64)) (vs := [.u 0]) (x := 0) rfl (Els.cons (K := (kInt .u64)) (vs := [.u 0]) (x := 0) rfl (Els.cons (K := (kInt .u64)) (vs := [.u 0]) (x := 0) rfl (Els.cons (K := (kInt .u64)) (vs := [.u 0]) (x := 0) rfl Els.nil))))
    refine Op_.stA 24 (.tmp 2) (.tmp 34) 0 1 b1 4 uo0 p27 rfl rfl Goes.s (by kernel_rfl) (by kernel_rfl) (by kernel_rfl) uo2 (Els.one (uo1.ext z27)) fun w31 z31 p31 => ?_
    refine Gn 2 [(3, .bool true)] J13o ?_
    obtain rfl := sj h
    have p31 := p31.dp 0
    exact Goes.ret (fn := Tryz.f298) (by kernel_rfl) (v := .tuple #[.agg uo0.toArray, .bool true]) (results_n2 (fn := Tryz.f298) (a := .cell 2 24) (b := .tmp 3) (by kernel_rfl) (resV_cell ⟨b1, 0, none⟩ (by kernel_rfl) (run_loadN uo0 (by kernel_rfl) (by rw [uo2]; kernel_rfl) (At_all (p31.mem 0 rfl)))) (resV_tmp (by kernel_rfl))) ⟨S26, uo0, rfl, ((((((((z2.t z3).t z22).t z23).t z24).t z25).t z26).t z27).t z31), p31.drop, (uo1.ext (z27.t z31)), uo2⟩
  ·
   rw [df h37]
   refine Gm 7 [([12, 11], .bool (decide (ior .u8 x0 32 = 115)))] (Ys 111010000000000111 B298 J13g) ?_
   refine Gi h (fun h53 h => ?_) fun h53 h => ?_
   ·
    rw [dt h53]
    refine Gn 4 [] (Yt 1110100010 B298 [0, 1, 2, 3, 4, 5] (Ys 1110100011 B298 J138)) ?_
    refine Gb h fun y54 e55 h => ?_
    refine Gc (.call { callee := .value (.func 315), args := #[(.const (.int .u8 9)), (.const (.int .u8 10))], argTypes := #[5, 5] }) 23 24 315 _ (W.z5v 9 10 y54 e55  p3 ) ?_
    rintro _ w32 ⟨S32, uo6, rfl, z32, p32, uo7, uo8⟩
    refine Gb h fun y56 e57 h => ?_
    refine Gc (.call { callee := .value (.func 315), args := #[(.const (.int .u8 12)), (.const (.int .u8 13))], argTypes := #[5, 5] }) 24 24 315 _ (W.z5v 12 13 y56 e57  p32 ) ?_
    rintro _ w33 ⟨S33, uo9, rfl, z33, p33, uoa, uob⟩
    refine Gb h fun y58 e59 h => ?_
    refine Gc (.call { callee := .value (.func 274), args := #[(.const (.int .u8 32))], argTypes := #[5] }) 25 24 274 _ (W.z5r 32 y58 e59  p33 ) ?_
    rintro _ w34 ⟨S34, uoc, rfl, z34, p34, uod, uoe⟩
    have l60 := Els.len1 (uo7.ext (z33.t z34)) uo8 rfl
    obtain rfl := els_lit4 (uo7.ext (z33.t z34)) uo8
    have l61 := Els.len1 (uoa.ext z34) uob rfl
    obtain rfl := els_lit4 (uoa.ext z34) uob
    have l62 := Els.len1 uod uoe rfl
    obtain rfl := els_lit4 uod uoe
    have f64 : Els (kArr 4 (kInt .u64)) S34 w34 ((U4 y54 (U4 y56 (U4 y58 []))) : List Value) [y54, y56, y58] := by exact (Els.cons (K := (kArr 4 (kInt .u64))) (vs := (U4 y54 [])) (x := y54) ⟨l60, els_mk4 l60⟩ (Els.cons (K := (kArr 4 (kInt .u64))) (vs := (U4 y56 [])) (x := y56) ⟨l61, els_mk4 l61⟩ (Els.cons (K := (kArr 4 (kInt .u64))) (vs := (U4 y58 [])) (x := y58) ⟨l62, els_mk4 l62⟩ Els.nil)))
    refine Om (.buildSlice 405 3 #[(0, (.tmp 23)), (1, (.tmp 24)), (2, (.tmp 25))]) 26 405 (fun b => .slice (Gp (some b)) 3 3) 24 ((U4 y54 (U4 y56 (U4 y58 []))) : List Value) (3 * (kArr 4 (kInt .u64)).size) p34 Goes.v fun b63 w35 z35 p35 => ?_
    obtain ⟨S36, z36, p36, f66⟩ := p35.freezeRd 0 rfl (f64.ext z35) (by decide)
    refine Gb h fun y67 e68 h => ?_
    refine Gc (kc 297 [26] #[405]) 27 24 297 _ (W.z5x [y54, y56, y58] y67 e68 _ _ _ p36 f66 rfl) ?_
    rintro _ w37 ⟨S37, uof, rfl, z37, p37, uog, uoh⟩
    have p37 := p37.dp 0
    have f69 : Els (kInt .u64) S37 w37 ([.u 0, .u 0, .u 0, .u 0] : List Value) [0, 0, 0, 0] := (Els.cons (K := (kInt .u64)) (vs := [.u 0]) (x := 0) rfl (Els.cons (K := (kInt .u64)) (vs := [.u 0]) (x := 0) rfl (Els.cons (K := (kInt .u64)) (vs := [.u 0]) (x := 0) rfl (Els.cons (K := (kInt .u64)) (vs := [.u 0]) (x := 0) rfl Els.nil))))
    refine Op_.stA 24 (.tmp 4) (.tmp 27) 0 0 b3 4 uof p37 rfl rfl Goes.s (by kernel_rfl) (by kernel_rfl) (by kernel_rfl) uoh (Els.one uog) fun w38 z38 p38 => ?_
    refine Gn 9 [(29, .int .u8 x0), (30, .int .u8 (iand .u8 x0 32)), (31, .bool (decide (iand .u8 x0 32 = 0)))] J13m ?_
    refine Gi h (fun h70 h => ?_) fun h70 h => ?_
    ·
     rw [dt h70]
     refine Gn 2 [] J13n ?_
     refine Op_.ldN 24 (.tmp 4) 32 24 ⟨b3, 0, none⟩ uof Goes.v (by kernel_rfl) (by kernel_rfl) (by rw [uoh]; kernel_rfl) (At_all (p38.mem 0 rfl)) ?_
     refine Gb h fun y71 e72 h => ?_
     refine Gc (kc 273 [32] #[24]) 33 24 273 _ (W.z5s y67 y71 e72 _ p38 (uog.ext z38) uoh) ?_
     rintro _ w39 ⟨S39, uoi, rfl, z39, p39, uoj, uok⟩
     refine Op_.stA 24 (.tmp 4) (.tmp 33) 0 0 b3 4 uoi p39 rfl uoh Goes.s (by kernel_rfl) (by kernel_rfl) (by kernel_rfl) uok (Els.one uoj) fun w40 z40 p40 => ?_
     refine Gn 3 [] J13p ?_
     refine Op_.ldN 24 (.tmp 4) 34 24 ⟨b3, 0, none⟩ uoi Goes.v (by kernel_rfl) (by kernel_rfl) (by rw [uok]; kernel_rfl) (At_all (p40.mem 0 rfl)) ?_
     have f73 : Els (kInt .u64) S39 w40 ([.u 0, .u 0, .u 0, .u 0] : List Value) [0, 0, 0, 0] := (Els.cons (K := (kInt .u64)) (vs := [.u 0]) (x := 0) rfl (Els.cons (K := (kInt .u64)) (vs := [.u 0]) (x := 0) rfl (Els.cons (K := (kInt .u64)) (vs := [.u 0]) (x := 0) rfl (Els.cons (K := (kInt .u64)) (vs := [.u 0]) (x := 0) rfl Els.nil))))
     refine Op_.stA 24 (.tmp 2) (.tmp 34) 0 1 b1 4 uoi p40 rfl rfl Goes.s (by kernel_rfl) (by kernel_rfl) (by kernel_rfl) uok (Els.one (uoj.ext z40)) fun w41 z41 p41 => ?_
     refine Gn 2 [(3, .bool true)] J13o ?_
     obtain rfl := sj h
     have p41 := p41.dp 0
     exact Goes.ret (fn := Tryz.f298) (by kernel_rfl) (v := .tuple #[.agg uoi.toArray, .bool true]) (results_n2 (fn := Tryz.f298) (a := .cell 2 24) (b := .tmp 3) (by kernel_rfl) (resV_cell ⟨b1, 0, none⟩ (by kernel_rfl) (run_loadN uoi (by kernel_rfl) (by rw [uok]; kernel_rfl) (At_all (p41.mem 0 rfl)))) (resV_tmp (by kernel_rfl))) ⟨S39, uoi, rfl, (((((((((((z2.t z3).t z32).t z33).t z34).t z35).t z36).t z37).t z38).t z39).t z40).t z41), p41.drop, (uoj.ext (z40.t z41)), uok⟩
    ·
     rw [df h70]
     refine Gn 4 [] J13p ?_
     refine Op_.ldN 24 (.tmp 4) 34 24 ⟨b3, 0, none⟩ uof Goes.v (by kernel_rfl) (by kernel_rfl) (by rw [uoh]; kernel_rfl) (At_all (p38.mem 0 rfl)) ?_
     have f74 : Els (kInt .u64) S37 w38 ([.u 0, .u 0, .u 0, .u 0] : List Value) [0, 0, 0, 0] := (Els.cons (K := (kInt .u64)) (vs := [.u 0]) (x := 0) rfl (Els.cons (K := (kInt .u64)) (vs := [.u 0]) (x := 0) rfl (Els.cons (K := (kInt .u64)) (vs := [.u 0]) (x := 0) rfl (Els.cons (K := (kInt .u64)) (vs := [.u 0]) (x := 0) rfl Els.nil))))
     refine Op_.stA 24 (.tmp 2) (.tmp 34) 0 1 b1 4 uof p38 rfl rfl Goes.s (by kernel_rfl) (by kernel_rfl) (by kernel_rfl) uoh (Els.one (uog.ext z38)) fun w42 z42 p42 => ?_
     refine Gn 2 [(3, .bool true)] J13o ?_
     obtain rfl := sj h
     have p42 := p42.dp 0
     exact Goes.ret (fn := Tryz.f298) (by kernel_rfl) (v := .tuple #[.agg uof.toArray, .bool true]) (results_n2 (fn := Tryz.f298) (a := .cell 2 24) (b := .tmp 3) (by kernel_rfl) (resV_cell ⟨b1, 0, none⟩ (by kernel_rfl) (run_loadN uof (by kernel_rfl) (by rw [uoh]; kernel_rfl) (At_all (p42.mem 0 rfl)))) (resV_tmp (by kernel_rfl))) ⟨S37, uof, rfl, (((((((((z2.t z3).t z32).t z33).t z34).t z35).t z36).t z37).t z38).t z42), p42.drop, (uog.ext (z38.t z42)), uoh⟩
   ·
    rw [df h53]
    refine Gn 6 [] (Yt 111010100 B298 [0, 1, 2] J13w) ?_
    refine Goes.ldN 24 (.tmp 4) 28 24 ⟨b3, 0, none⟩ [.u 0, .u 0, .u 0, .u 0] (p3.pa 0 0) ?_
    refine So 24 (.tmp 2) (.tmp 28) 0 1 b1 0 (.agg #[.u 0, .u 0, .u 0, .u 0]) [.u 0, .u 0, .u 0, .u 0] p3 rfl Goes.s fun w43 z43 p43 => ?_
    refine Gn 2 [(3, .bool false)] J13w ?_
    obtain rfl := sj h
    have p43 := p43.dp 0
    exact R2 Tryz.f298 (.cell 2 24) (.tmp 3) (.tuple #[.agg #[.u 0, .u 0, .u 0, .u 0], .bool false]) (Rn b1 (p43.pa 0 0)) Rt ⟨_, _, rfl, ((z2.t z3).t z43), p43.drop, (show Els (kInt .u64) S0 w43 ([.u 0, .u 0, .u 0, .u 0] : List Value) _ from (Els.cons (K := (kInt .u64)) (vs := [.u 0]) (x := 0) rfl (Els.cons (K := (kInt .u64)) (vs := [.u 0]) (x := 0) rfl (Els.cons (K := (kInt .u64)) (vs := [.u 0]) (x := 0) rfl (Els.cons (K := (kInt .u64)) (vs := [.u 0]) (x := 0) rfl Els.nil))))), rfl⟩

def J13y := Ys 111 B323 []
def J13z := Ys 1101 B323 J13y
def J142 := Ys 1111 B323 []

def Post.z62 (r : Int) (v : Value) (w' : World) : Prop :=
 ∃ S', v = .int .u8 r ∧ Ext S0 w0 S' w' ∧ Hp nz wz S' w' (Lr)

theorem W.z62 (x0 : Int) (r : Int) (h : M.a69 x0 = some r) {nz wz S0 w0 Lr} (p0 : Hp nz wz S0 w0 (Lr)) :
  Calls Tryz.prog 323 #[.int .u8 x0] w0 (Rets (Post.z62 nz wz S0 w0 Lr r)) := by
 refine Zf Tryz.f323 B323 12 ?_
 refine Gj 13 [(0, .int .u8 x0)] fun junk => ?_
 delta M.a69 at h
 refine Gm 10 [([2], .int .u8 0), ([3], .int .u8 x0), ([4, 5], .bool (decide (x0 ≥ 65)))] (Yt 1100 B323 [3, 4, 5] J13z) ?_
 refine Gi h (fun h1 h => ?_) fun h1 h => ?_
 ·
  rw [dt h1]
  refine Gm 4 [([6], .int .u8 x0), ([7, 8], .bool (decide (x0 ≤ 70)))] J13z ?_
  refine Gi h (fun h2 h => ?_) fun h2 h => ?_
  ·
   rw [dt h2]
   refine Gm 8 [([9], .int .u8 x0), ([10], .int .u8 (wr .u8 (x0 + 97))), ([11, 2], .int .u8 (wr .u8 ((wr .u8 (x0 + 97)) - 65)))] (Ys 110101 B323 J13y) ?_
   obtain rfl := sj h
   exact Goes.rt Tryz.f323 (.int .u8 (wr .u8 ((wr .u8 (x0 + 97)) - 65))) ⟨_, rfl, (Ext.refl S0 w0), p0⟩
  ·
   rw [df h2]
   refine Gm 7 [([12, 2], .int .u8 x0)] J142 ?_
   obtain rfl := sj h
   exact Goes.rt Tryz.f323 (.int .u8 x0) ⟨_, rfl, (Ext.refl S0 w0), p0⟩
 ·
  rw [df h1]
  refine Gm 11 [([6, 7], undef), ([8], .bool false), ([12, 2], .int .u8 x0)] J142 ?_
  obtain rfl := sj h
  exact Goes.rt Tryz.f323 (.int .u8 x0) ⟨_, rfl, (Ext.refl S0 w0), p0⟩

def J143 := Ys 111 B199 []

def Post.z63 (r : Int) (v : Value) (w' : World) : Prop :=
 ∃ S', v = .i r ∧ Ext S0 w0 S' w' ∧ Hp nz wz S' w' (Lr)

theorem W.z63 (x0 : ByteArray) (x1 : Int) (r : Int) (h : M.a6a x0 x1 = some r) {nz wz S0 w0 Lr} (p0 : Hp nz wz S0 w0 (Lr)) :
  Calls Tryz.prog 199 #[.string x0, .int .u8 x1] w0 (Rets (Post.z63 nz wz S0 w0 Lr r)) := by
 refine Zf Tryz.f199 B199 6 ?_
 refine Gj 8 [(0, .string x0), (1, .int .u8 x1)] fun junk => ?_
 delta M.a6a at h
 refine Gn 8 [(4, .i 0), (5, .string x0), (6, .int .u8 x1)] (Yt 110 B199 [2, 3] J143) ?_
 refine Op_.ext { callee := .value (.func 249), args := #[(.tmp 5), (.tmp 6)], argTypes := #[9, 5] } 7 3 249 #[.string x0, .int .u8 x1] Tryz.f249 Extern.BytealgIndexByte.indexByte (.i (ixB x0 x1)) Goes.v (by kernel_rfl) (by kernel_rfl) (by kernel_rfl) (by kernel_rfl) (by kernel_rfl) (by kernel_rfl) (ixB_run _ _) ?_
 refine Gn 2 [(4, .i (ixB x0 x1))] J143 ?_
 obtain rfl := sj h
 exact Goes.rt Tryz.f199 (.i (ixB x0 x1)) ⟨_, rfl, (Ext.refl S0 w0), p0⟩

def J145 := Ys 111 B134 []

def Post.z64 (r : Int) (v : Value) (w' : World) : Prop :=
 ∃ S', v = .i r ∧ Ext S0 w0 S' w' ∧ Hp nz wz S' w' (Lr)

theorem W.z64 (x0 : ByteArray) (x1 : Int) (r : Int) (h : M.a21 x0 x1 = some r) {nz wz S0 w0 Lr} (p0 : Hp nz wz S0 w0 (Lr)) :
  Calls Tryz.prog 134 #[.string x0, .int .u8 x1] w0 (Rets (Post.z64 nz wz S0 w0 Lr r)) := by
 refine Zf Tryz.f134 B134 6 ?_
 refine Gj 8 [(0, .string x0), (1, .int .u8 x1)] fun junk => ?_
 delta M.a21 at h
 refine Gn 8 [(4, .i 0), (5, .string x0), (6, .int .u8 x1)] (Yt 110 B134 [2, 3] J145) ?_
 refine Gb h fun y1 e2 h => ?_
 refine Gc (kc 199 [5, 6] #[9, 5]) 7 3 199 _ (W.z63 x0 x1 y1 e2  p0 ) ?_
 rintro _ w2 ⟨S2, rfl, z2, p2⟩
 refine Gn 2 [(4, .i y1)] J145 ?_
 obtain rfl := sj h
 exact Goes.rt Tryz.f134 (.i y1) ⟨_, rfl, z2, p2⟩

def J147 := Ys 111 B316 []

def Post.z65 (r : Int) (v : Value) (w' : World) : Prop :=
 ∃ S', v = .i r ∧ Ext S0 w0 S' w' ∧ Hp nz wz S' w' (Lr)

theorem W.z65 (x0 : Int) (r : Int) (h : M.a6b x0 = some r) {nz wz S0 w0 Lr} (p0 : Hp nz wz S0 w0 (Lr)) :
  Calls Tryz.prog 316 #[.int .u8 x0] w0 (Rets (Post.z65 nz wz S0 w0 Lr r)) := by
 refine Zf Tryz.f316 B316 5 ?_
 refine Gj 6 [(0, .int .u8 x0)] fun junk => ?_
 delta M.a6b at h
 refine Gn 7 [(2, .i 0), (3, .int .u8 x0)] (Yt 110 B316 [1, 2, 3] J147) ?_
 refine Gb h fun y1 e2 h => ?_
 refine Gc (kc 323 [3] #[5]) 4 5 323 _ (W.z62 x0 y1 e2  p0 ) ?_
 rintro _ w2 ⟨S2, rfl, z2, p2⟩
 refine Gb h fun y3 e4 h => ?_
 refine Gc (.call { callee := .value (.func 134), args := #[(.const (.string ⟨#[48, 49, 50, 51, 52, 53, 54, 55, 56, 57, 97, 98, 99, 100, 101, 102]⟩)), (.tmp 4)], argTypes := #[9, 5] }) 5 3 134 _ (W.z64 (⟨#[48, 49, 50, 51, 52, 53, 54, 55, 56, 57, 97, 98, 99, 100, 101, 102]⟩ : ByteArray) y1 y3 e4  p2 ) ?_
 rintro _ w3 ⟨S3, rfl, z3, p3⟩
 refine Gn 2 [(2, .i y3)] J147 ?_
 obtain rfl := sj h
 exact Goes.rt Tryz.f316 (.i y3) ⟨_, rfl, (z2.t z3), p3⟩

def J14b := Ys 1111 B299 []
def J14g := Ys 11111 B299 []
def Qvm := Yq 11110 B299

def Post.z66 (gx0 : Nat) (r : Int × T134) (v : Value) (w' : World) : Prop :=
 ∃ S' umv, v = .int .u8 r.1 ∧ Ext S0 w0 S' w' ∧ Hp nz wz S' w' ((some gx0, .row 135 (vT134 r.2 umv) 4 0) :: Lr) ∧ PtO kT138 S' w' umv r.2.bad

theorem W.z66 (x0v : T134) (r : Int × T134) (h : M.a4n x0v = some r) {nz wz S0 w0 Lr} (gx0 umx) (p0 : Hp nz wz S0 w0 ((some gx0, .row 135 (vT134 x0v umx) 4 0) :: Lr)) (umy : PtO kT138 S0 w0 umx x0v.bad) :
  Calls Tryz.prog 299 #[(pt gx0 0)] w0 (Rets (Post.z66 nz wz S0 w0 Lr gx0 r)) := by
 refine Zf Tryz.f299 B299 23 ?_
 refine Gj 24 [(0, (pt gx0 0))] fun junk => ?_
 delta M.a4n at h
 refine Gn 7 [(2, .int .u8 0), (4, (pt gx0 0))] (Yt 110 B299 [1, 2, 3] (Ys 111 B299 [])) ?_
 refine Gb h fun y2 e3 h => ?_
 refine Gc (kc 197 [4] #[132]) 5 5 197 _ (W.z5m x0v y2 e3 _ _ p0 umy) ?_
 rintro _ w2 ⟨S2, umz, rfl, z2, p2, un0⟩
 refine Gb h fun y4 e5 h => ?_
 refine Gc (kc 316 [5] #[5]) 6 3 316 _ (W.z65 y2.1 y4 e5  p2 ) ?_
 rintro _ w3 ⟨S3, rfl, z3, p3⟩
 refine Gm 8 [([3, 7], .i y4), ([8], .bool (decide (y4 < 0)))] (Ys 11101 B299 J14b) ?_
 refine Gi h (fun h6 h => ?_) fun h6 h => ?_
 ·
  rw [dt h6]
  refine Gm 7 [([9, 10, 11], (pt gx0 0)), ([12], (pt gx0 1))] (Yt 1110100 B299 [4, 5] (Ys 1110101 B299 J14b)) ?_
  refine Goes.ld 3 (.tmp 12) 13 3 ⟨gx0, 1, none⟩ (.i y2.2.at_) (p3.c 0 1) ?_
  refine Gb h fun y7 e8 h => ?_
  refine Gc (kc 69 [9, 13] #[132, 3]) 14 27 69 _ (W.z5o y2.2 y2.2.at_ y7 e8 _ _ p3 (un0.ext z3)) ?_
  rintro _ w4 ⟨S4, uol, uom, uon, uoo, rfl, z4, p4, uop, uoq, rfl, uor⟩
  refine Gn 5 [(2, .int .u8 0)] (Ys 11101011 B299 J14b) ?_
  obtain rfl := sj h
  exact Goes.rt Tryz.f299 (.int .u8 0) ⟨_, _, rfl, ((z2.t z3).t z4), p4, uor⟩
 ·
  rw [df h6]
  refine Gm 7 [([15, 16], (pt gx0 0)), ([17], (pt gx0 1))] (Zr Qvm [3, 4, 5, 6, 7] J14g) ?_
  refine Goes.ld 3 (.tmp 17) 18 3 ⟨gx0, 1, none⟩ (.i y2.2.at_) (p3.c 0 1) ?_
  refine Gn 3 [(19, .i (wr .i64 (y2.2.at_ + 1))), (20, (pt gx0 0)), (21, (pt gx0 1))] (Zr Qvm [7] J14g) ?_
  refine So 3 (.tmp 21) (.tmp 19) 0 0 gx0 1 (.i (wr .i64 (y2.2.at_ + 1))) [.i (wr .i64 (y2.2.at_ + 1))] p3 rfl Goes.s fun w5 z5 p5 => ?_
  refine Gm 7 [([22], .i y4), ([23, 2], .int .u8 (wr .u8 y4))] (Ys 111111 B299 []) ?_
  obtain rfl := sj h
  exact Goes.rt Tryz.f299 (.int .u8 (wr .u8 y4)) ⟨_, _, rfl, ((z2.t z3).t z5), p5, (un0.ext (z3.t z5))⟩

def J14m := Ys 111 B300 []
def Qvr := Yq 110 B300

def Post.z67 (r : T370) (v : Value) (w' : World) : Prop :=
 ∃ S', v = (ag (vT370 r)) ∧ Ext S0 w0 S' w' ∧ Hp nz wz S' w' (Lr) ∧ r.set_.length = 4

theorem W.z67 (x0 : Int) (r : T370) (h : M.a1g x0 = some r) {nz wz S0 w0 Lr} (p0 : Hp nz wz S0 w0 (Lr)) :
  Calls Tryz.prog 300 #[.int .u8 x0] w0 (Rets (Post.z67 nz wz S0 w0 Lr r)) := by
 refine Zf Tryz.f300 B300 6 ?_
 refine Gj 7 [(0, .int .u8 x0)] fun junk => ?_
 delta M.a1g at h
 refine Gn 2 [] (Yt 10 B300 [0] (Ys 11 B300 [])) ?_
 refine Oa 371 2 0 (.agg #[.u 0, .u 0, .u 0, .u 0, .int .u8 0, .bool false]) [.u 0, .u 0, .u 0, .u 0, .int .u8 0, .bool false] p0 Goes.v fun b1 w2 z2 p2 => ?_
 refine Gn 4 [(3, .int .u8 x0)] (Zr Qvr [1, 2, 3, 4] J14m) ?_
 refine Gb h fun y3 e4 h => ?_
 refine Gc (kc 274 [3] #[5]) 4 24 274 _ (W.z5r x0 y3 e4  p2 ) ?_
 rintro _ w3 ⟨S3, uos, rfl, z3, p3, u89, uot⟩
 refine Gn 1 [(5, .int .u8 x0)] (Zr Qvr [3, 4] J14m) ?_
 have l5 := Els.len1 u89 uot rfl
 obtain rfl := els_lit4 u89 uot
 refine Gn 1 [(6, (ag (U4 y3 [.int .u8 x0, .bool true])))] (Zr Qvr [4] J14m) ?_
 refine So 371 (.tmp 2) (.tmp 6) 0 0 b1 0 (ag (U4 y3 [.int .u8 x0, .bool true])) (U4 y3 [.int .u8 x0, .bool true]) p3 rfl Goes.s fun w4 z4 p4 => ?_
 refine Gn 1 [] J14m ?_
 obtain rfl := sj h
 exact R1 Tryz.f300 (.cell 2 371) (ag (U4 y3 [.int .u8 x0, .bool true])) (Rn b1 (p4.pa 0 0)) ⟨_, rfl, ((z2.t z3).t z4), p4.drop, l5⟩

def J14r := Zb 0 (Ys 11111 B277 [])
def J14s := Ys 1111001111111 B277 J14r
def J14v := Ys 1111001111111011 B277 J14r
def J14x := Ys 111111 B277 []
def Qvz := Yq 111110 B277
def J150 := Ys 1111111 B277 []

def Post.z68 (gx0 : Nat) (r : T370 × T134) (v : Value) (w' : World) : Prop :=
 ∃ S' umv, v = (ag (vT370 r.1)) ∧ Ext S0 w0 S' w' ∧ Hp nz wz S' w' ((some gx0, .row 135 (vT134 r.2 umv) 4 0) :: Lr) ∧ r.1.set_.length = 4 ∧ PtO kT138 S' w' umv r.2.bad

def L.z69 (gx0 : Nat) : T370 × Int × Bool × T134 → (T370 × T134) → Prop := fun ⟨x2v, x3, x66, e0v⟩ r => ∀ S1 w1, Ext S0 w0 S1 w1 → ∀ gx2 umv (_ : Hp nz wz S1 w1 ((some gx2, .row 371 (vT370 x2v) 6 0) :: (some gx0, .row 135 (vT134 e0v umv) 4 0) :: Lr)) (_ : x2v.set_.length = 4) (_ : PtO kT138 S1 w1 umv e0v.bad) (junk : Nat → Value),
 Goes Tryz.prog (base 277) J14s ⟨lfr 90 [(0, (pt gx0 0)), (2, (pt gx2 0)), (3, .int .u8 x3), (66, .bool x66)] junk, []⟩ w1 (Done Tryz.prog 277 (Rets (Post.z68 nz wz S0 w0 Lr gx0 r)))

theorem W.z69 {nz wz S0 w0 Lr} (gx0 : Nat) : ∀ a r, M.a4o a = some r → L.z69 nz wz S0 w0 Lr gx0 a r := by
 intro ⟨x2v, x3, x66, e0v⟩ r h S1 w1 hx gx2 umv p1 u2p umw junk
 rw [M.a4o] at h
 try dsimp only at h
 refine Gi h (fun h30 h => ?_) fun h30 h => ?_
 ·
  rw [h30]
  refine Gm 7 [([74, 75, 76], (pt gx0 0)), ([77], (pt gx0 1))] (Yt 111100111111100 B277 [4, 5] (Ys 111100111111101 B277 J14r)) ?_
  refine Goes.ld 3 (.tmp 77) 78 3 ⟨gx0, 1, none⟩ (.i e0v.at_) (p1.c 1 1) ?_
  have p1 := p1.fr 1
  refine Gb h fun y31 e32 h => ?_
  refine Gc (kc 69 [74, 78] #[132, 3]) 79 27 69 _ (W.z5o e0v e0v.at_ y31 e32 _ _ p1 umw) ?_
  rintro _ w21 ⟨S21, ubv, ubw, ubx, uou, rfl, z21, p21, uov, uby, rfl, uow⟩
  refine Gn 4 [(80, .agg #[.u 0, .u 0, .u 0, .u 0, .int .u8 0, .bool false])] (Yt 1111001111111010 B277 [1] J14v) ?_
  refine So 371 (.tmp 2) (.tmp 80) 0 1 gx2 0 (.agg #[.u 0, .u 0, .u 0, .u 0, .int .u8 0, .bool false]) [.u 0, .u 0, .u 0, .u 0, .int .u8 0, .bool false] p21 rfl Goes.s fun w22 z22 p22 => ?_
  refine Gn 1 [] J14v ?_
  obtain rfl := sj h
  have p22 := (p22.fr 0).fr 1
  exact R1 Tryz.f277 (.cell 2 371) (.agg #[.u 0, .u 0, .u 0, .u 0, .int .u8 0, .bool false]) (Rn gx2 (p22.pa 0 0)) ⟨_, _, rfl, ((hx.t z21).t z22), p22.drop, rfl, (uow.ext z22)⟩
 ·
  rw [bf h30]
  refine Gm 8 [([81, 82], (pt gx0 0)), ([83], (pt gx0 1))] (Zr Qvz [3, 4, 5, 6, 7] J14x) ?_
  refine Goes.ld 3 (.tmp 83) 84 3 ⟨gx0, 1, none⟩ (.i e0v.at_) (p1.c 1 1) ?_
  refine Gn 3 [(85, .i (wr .i64 (e0v.at_ + 1))), (86, (pt gx0 0)), (87, (pt gx0 1))] (Zr Qvz [7] J14x) ?_
  refine So 3 (.tmp 87) (.tmp 85) 0 1 gx0 1 (.i (wr .i64 (e0v.at_ + 1))) [.i (wr .i64 (e0v.at_ + 1))] p1 rfl Goes.s fun w23 z23 p23 => ?_
  refine Gn 4 [(88, .int .u8 x3)] (Yt 1111110 B277 [1, 2] J150) ?_
  refine Gb h fun y33 e34 h => ?_
  refine Gc (kc 300 [88] #[5]) 89 371 300 _ (W.z67 x3 y33 e34  p23 ) ?_
  rintro _ w24 ⟨S24, rfl, z24, p24, uoy⟩
  refine So 371 (.tmp 2) (.tmp 89) 0 0 gx2 0 (ag (vT370 y33)) (vT370 y33) p24 rfl Goes.s fun w25 z25 p25 => ?_
  refine Gn 1 [] J150 ?_
  obtain rfl := sj h
  exact R1 Tryz.f277 (.cell 2 371) (ag (vT370 y33)) (Rn gx2 (p25.pa 0 0)) ⟨_, _, rfl, (((hx.t z23).t z24).t z25), p25.drop, uoy, (umw.ext ((z23.t z24).t z25))⟩

def J156 := Ys 1111 B277 []
def J157 := Ys 11101 B277 J156
def Qw8 := Yq 11100 B277
def J15b := Ys 11101101 B277 J156
def Qwb := Yq 11101100 B277
def J15e := Ys 111011011 B277 J156
def Qwd := Yq 111011010 B277
def J15i := Ys 111100101 B277 J14r
def Qwg := Yq 111100100 B277
def J15p := Ys 111100101111 B277 J14r
def J15s := Ys 11110011101 B277 J14r
def Qwp := Yq 11110011100 B277
def J15v := Ys 111100111011 B277 J14r
def J15y := Ys 1111001111101 B277 J14r
def Qwu := Yq 1111001111100 B277
def J161 := Ys 11110011111011 B277 J14r
def Qwx := Yq 1111001111110 B277

theorem W.z68 (x0v : T134) (r : T370 × T134) (h : M.a4p x0v = some r) {nz wz S0 w0 Lr} (gx0 umx) (p0 : Hp nz wz S0 w0 ((some gx0, .row 135 (vT134 x0v umx) 4 0) :: Lr)) (umy : PtO kT138 S0 w0 umx x0v.bad) :
  Calls Tryz.prog 277 #[(pt gx0 0)] w0 (Rets (Post.z68 nz wz S0 w0 Lr gx0 r)) := by
 refine Zf Tryz.f277 B277 89 ?_
 refine Gj 90 [(0, (pt gx0 0))] fun junk => ?_
 delta M.a4p at h
 refine Gn 2 [] (Yt 10 B277 [0] (Ys 11 B277 [])) ?_
 refine Oa 371 2 0 (.agg #[.u 0, .u 0, .u 0, .u 0, .int .u8 0, .bool false]) [.u 0, .u 0, .u 0, .u 0, .int .u8 0, .bool false] p0 Goes.v fun b2 w2 z2 p2 => ?_
 refine Gn 4 [(8, (pt gx0 0))] (Yt 110 B277 [1, 2] (Ys 111 B277 [])) ?_
 have p2 := p2.fr 1
 refine Gb h fun y4 e5 h => ?_
 refine Gc (kc 197 [8] #[132]) 9 5 197 _ (W.z5m x0v y4 e5 _ _ p2 (umy.ext z2)) ?_
 rintro _ w3 ⟨S3, uoz, rfl, z3, p3, up0⟩
 refine Gm 6 [([3, 11], .int .u8 y4.1)] (Zr Qw8 [1, 2, 3, 4, 5, 6, 7] J157) ?_
 refine Gb h fun y6 e7 h => ?_
 refine Gc (kc 298 [11] #[5]) 12 393 298 _ (W.z61 y4.1 y6 e7  p3 ) ?_
 rintro _ w4 ⟨S4, up1, rfl, z4, p4, u59, up2⟩
 refine Gn 3 [(10, .tuple #[.agg up1.toArray, .bool y6.2]), (13, .agg up1.toArray), (14, .bool y6.2)] (Zr Qw8 [5, 6, 7] J157) ?_
 refine Oa 24 4 0 (.agg #[.u 0, .u 0, .u 0, .u 0]) [.u 0, .u 0, .u 0, .u 0] p4 Goes.v fun b8 w5 z5 p5 => ?_
 have f10 : Els (kInt .u64) S4 w5 ([.u 0, .u 0, .u 0, .u 0] : List Value) [0, 0, 0, 0] := (Els.cons (K := (kInt .u64)) (vs := [.u 0]) (x := 0) rfl (Els.cons (K := (kInt .u64)) (vs := [.u 0]) (x := 0) rfl (Els.cons (K := (kInt .u64)) (vs := [.u 0]) (x := 0) rfl (Els.cons (K := (kInt .u64)) (vs := [.u 0]) (x := 0) rfl Els.nil))))
 refine Op_.stA 24 (.tmp 4) (.tmp 13) 0 0 b8 4 up1 p5 rfl rfl Goes.s (by kernel_rfl) (by kernel_rfl) (by kernel_rfl) up2 (Els.one (u59.ext z5)) fun w6 z6 p6 => ?_
 refine Gm 6 [([5, 15], .bool y6.2)] (Ys 111011 B277 J156) ?_
 refine Gi h (fun h11 h => ?_) fun h11 h => ?_
 ·
  rw [h11]
  refine Gm 6 [([16, 17], (pt gx0 0)), ([18], (pt gx0 1))] (Zr Qwb [3, 4, 5, 6, 7] J15b) ?_
  refine Goes.ld 3 (.tmp 18) 19 3 ⟨gx0, 1, none⟩ (.i y4.2.at_) (p6.c 1 1) ?_
  refine Gn 3 [(20, .i (wr .i64 (y4.2.at_ + 1))), (21, (pt gx0 0)), (22, (pt gx0 1))] (Zr Qwb [7] J15b) ?_
  refine So 3 (.tmp 22) (.tmp 20) 0 1 gx0 1 (.i (wr .i64 (y4.2.at_ + 1))) [.i (wr .i64 (y4.2.at_ + 1))] p6 rfl Goes.s fun w7 z7 p7 => ?_
  refine Gn 3 [] (Zr Qwd [0, 1, 2] J15e) ?_
  refine Op_.ldN 24 (.tmp 4) 23 24 ⟨b8, 0, none⟩ up1 Goes.v (by kernel_rfl) (by kernel_rfl) (by rw [up2]; kernel_rfl) (At_all (p7.mem 0 rfl)) ?_
  have l12 := Els.len1 (u59.ext ((z5.t z6).t z7)) up2 rfl
  obtain rfl := els_lit4 (u59.ext ((z5.t z6).t z7)) up2
  refine Gn 1 [(24, (ag (U4 y6.1 [.int .u8 0, .bool false])))] (Zr Qwd [2] J15e) ?_
  refine So 371 (.tmp 2) (.tmp 24) 0 2 b2 0 (ag (U4 y6.1 [.int .u8 0, .bool false])) (U4 y6.1 [.int .u8 0, .bool false]) p7 rfl Goes.s fun w8 z8 p8 => ?_
  refine Gn 1 [] J15e ?_
  obtain rfl := sj h
  have p8 := p8.dp 0
  have p8 := (p8.fr 0).fr 1
  exact R1 Tryz.f277 (.cell 2 371) (ag (U4 y6.1 [.int .u8 0, .bool false])) (Rn b2 (p8.pa 0 0)) ⟨_, _, rfl, ((((((z2.t z3).t z4).t z5).t z6).t z7).t z8), p8.drop, l12, (up0.ext ((((z4.t z5).t z6).t z7).t z8))⟩
 ·
  rw [bf h11]
  refine Gm 10 [([26], .int .u8 y4.1), ([27, 25], .bool (decide (y4.1 = 120)))] (Ys 1111001 B277 J14r) ?_
  refine Gi h (fun h13 h => ?_) fun h13 h => ?_
  ·
   rw [dt h13]
   refine Gm 6 [([28, 29], (pt gx0 0)), ([30], (pt gx0 1))] (Zr Qwg [3, 4, 5, 6, 7] J15i) ?_
   refine Goes.ld 3 (.tmp 30) 31 3 ⟨gx0, 1, none⟩ (.i y4.2.at_) (p6.c 1 1) ?_
   refine Gn 3 [(32, .i (wr .i64 (y4.2.at_ + 1))), (33, (pt gx0 0)), (34, (pt gx0 1))] (Zr Qwg [7] J15i) ?_
   refine So 3 (.tmp 34) (.tmp 32) 0 1 gx0 1 (.i (wr .i64 (y4.2.at_ + 1))) [.i (wr .i64 (y4.2.at_ + 1))] p6 rfl Goes.s fun w9 z9 p9 => ?_
   refine Gn 4 [(35, (pt gx0 0))] (Yt 1111001010 B277 [1, 2] (Ys 1111001011 B277 J14r)) ?_
   have p9 := p9.fr 1
   refine Gb h fun y14 e15 h => ?_
   refine Gc (kc 299 [35] #[132]) 36 5 299 _ (W.z66 (⟨y4.2.s, wr .i64 (y4.2.at_ + 1), y4.2.deep, y4.2.bad⟩ : T134) y14 e15 _ _ p9 (up0.ext (((z4.t z5).t z6).t z9))) ?_
   rintro _ w10 ⟨S10, up3, rfl, z10, p10, up4⟩
   have p10 := p10.dp 1
   refine Gn 5 [(6, .int .u8 y14.1), (37, (pt gx0 0))] (Yt 11110010110 B277 [1, 2] (Ys 11110010111 B277 J14r)) ?_
   refine Gb h fun y16 e17 h => ?_
   refine Gc (kc 299 [37] #[132]) 38 5 299 _ (W.z66 y14.2 y16 e17 _ _ p10 up4) ?_
   rintro _ w11 ⟨S11, up5, rfl, z11, p11, up6⟩
   refine Gm 8 [([7, 41], .int .u8 y16.1), ([39], .int .u8 y14.1), ([40], .int .u8 (ishl .u8 y14.1 4)), ([42], .int .u8 (ior .u8 (ishl .u8 y14.1 4) y16.1))] (Yt 111100101110 B277 [4, 5] J15p) ?_
   refine Gb h fun y18 e19 h => ?_
   refine Gc (kc 300 [42] #[5]) 43 371 300 _ (W.z67 (ior .u8 (ishl .u8 y14.1 4) y16.1) y18 e19  p11 ) ?_
   rintro _ w12 ⟨S12, rfl, z12, p12, up7⟩
   refine So 371 (.tmp 2) (.tmp 43) 0 1 b2 0 (ag (vT370 y18)) (vT370 y18) p12 rfl Goes.s fun w13 z13 p13 => ?_
   refine Gn 1 [] J15p ?_
   obtain rfl := sj h
   have p13 := (p13.fr 0).fr 1
   exact R1 Tryz.f277 (.cell 2 371) (ag (vT370 y18)) (Rn b2 (p13.pa 0 0)) ⟨_, _, rfl, (((((((((z2.t z3).t z4).t z5).t z6).t z9).t z10).t z11).t z12).t z13), p13.drop, up7, (up6.ext (z12.t z13))⟩
  ·
   rw [df h13]
   refine Gm 7 [([45], .int .u8 y4.1), ([46, 44], .bool (decide (y4.1 = 110)))] (Ys 111100111 B277 J14r) ?_
   refine Gi h (fun h20 h => ?_) fun h20 h => ?_
   ·
    rw [dt h20]
    refine Gm 6 [([47, 48], (pt gx0 0)), ([49], (pt gx0 1))] (Zr Qwp [3, 4, 5, 6, 7] J15s) ?_
    refine Goes.ld 3 (.tmp 49) 50 3 ⟨gx0, 1, none⟩ (.i y4.2.at_) (p6.c 1 1) ?_
    refine Gn 3 [(51, .i (wr .i64 (y4.2.at_ + 1))), (52, (pt gx0 0)), (53, (pt gx0 1))] (Zr Qwp [7] J15s) ?_
    refine So 3 (.tmp 53) (.tmp 51) 0 1 gx0 1 (.i (wr .i64 (y4.2.at_ + 1))) [.i (wr .i64 (y4.2.at_ + 1))] p6 rfl Goes.s fun w14 z14 p14 => ?_
    refine Gn 3 [] (Yt 111100111010 B277 [0, 1] J15v) ?_
    refine Gb h fun y21 e22 h => ?_
    refine Gc (.call { callee := .value (.func 300), args := #[(.const (.int .u8 10))], argTypes := #[5] }) 54 371 300 _ (W.z67 10 y21 e22  p14 ) ?_
    rintro _ w15 ⟨S15, rfl, z15, p15, up8⟩
    have p15 := p15.dp 0
    refine So 371 (.tmp 2) (.tmp 54) 0 1 b2 0 (ag (vT370 y21)) (vT370 y21) p15 rfl Goes.s fun w16 z16 p16 => ?_
    refine Gn 1 [] J15v ?_
    obtain rfl := sj h
    have p16 := (p16.fr 0).fr 1
    exact R1 Tryz.f277 (.cell 2 371) (ag (vT370 y21)) (Rn b2 (p16.pa 0 0)) ⟨_, _, rfl, (((((((z2.t z3).t z4).t z5).t z6).t z14).t z15).t z16), p16.drop, up8, (up0.ext (((((z4.t z5).t z6).t z14).t z15).t z16))⟩
   ·
    rw [df h20]
    refine Gm 7 [([56], .int .u8 y4.1), ([57, 55], .bool (decide (y4.1 = 116)))] (Ys 11110011111 B277 J14r) ?_
    refine Gi h (fun h23 h => ?_) fun h23 h => ?_
    ·
     rw [dt h23]
     refine Gm 6 [([58, 59], (pt gx0 0)), ([60], (pt gx0 1))] (Zr Qwu [3, 4, 5, 6, 7] J15y) ?_
     refine Goes.ld 3 (.tmp 60) 61 3 ⟨gx0, 1, none⟩ (.i y4.2.at_) (p6.c 1 1) ?_
     refine Gn 3 [(62, .i (wr .i64 (y4.2.at_ + 1))), (63, (pt gx0 0)), (64, (pt gx0 1))] (Zr Qwu [7] J15y) ?_
     refine So 3 (.tmp 64) (.tmp 62) 0 1 gx0 1 (.i (wr .i64 (y4.2.at_ + 1))) [.i (wr .i64 (y4.2.at_ + 1))] p6 rfl Goes.s fun w17 z17 p17 => ?_
     refine Gn 3 [] (Yt 11110011111010 B277 [0, 1] J161) ?_
     refine Gb h fun y24 e25 h => ?_
     refine Gc (.call { callee := .value (.func 300), args := #[(.const (.int .u8 9))], argTypes := #[5] }) 65 371 300 _ (W.z67 9 y24 e25  p17 ) ?_
     rintro _ w18 ⟨S18, rfl, z18, p18, up9⟩
     have p18 := p18.dp 0
     refine So 371 (.tmp 2) (.tmp 65) 0 1 b2 0 (ag (vT370 y24)) (vT370 y24) p18 rfl Goes.s fun w19 z19 p19 => ?_
     refine Gn 1 [] J161 ?_
     obtain rfl := sj h
     have p19 := (p19.fr 0).fr 1
     exact R1 Tryz.f277 (.cell 2 371) (ag (vT370 y24)) (Rn b2 (p19.pa 0 0)) ⟨_, _, rfl, (((((((z2.t z3).t z4).t z5).t z6).t z17).t z18).t z19), p19.drop, up9, (up0.ext (((((z4.t z5).t z6).t z17).t z18).t z19))⟩
    ·
     rw [df h23]
     refine Gm 6 [([67], .int .u8 y4.1), ([68, 69], .bool (decide (y4.1 = 0)))] (Zr Qwx [3, 4, 5, 6, 7] J14s) ?_
     refine Gi h (fun h26 h => ?_) fun h26 h => ?_
     ·
      rw [dt h26]
      refine Gm 6 [([70, 71, 72], undef), ([73, 66], .bool true)] J14s ?_
      have p6 := p6.dp 0
      have p6 := (p6.fr 0).fr 1
      exact Gj 90 [(0, (pt gx0 0)), (2, (pt b2 0)), (3, .int .u8 y4.1), (66, .bool true)] (W.z69 gx0 _ _ h _ _ ((((z2.t z3).t z4).t z5).t z6) _ _ p6 rfl (up0.ext ((z4.t z5).t z6)))
     ·
      rw [df h26]
      refine Gn 1 [(70, .int .u8 y4.1)] (Zr Qwx [4, 5, 6, 7] J14s) ?_
      refine Gb h fun y28 e29 h => ?_
      refine Gc (.call { callee := .value (.func 134), args := #[(.const (.string ⟨#[92, 46, 91, 93, 40, 41, 42, 43, 63, 123, 125, 94, 36, 45, 47, 124]⟩)), (.tmp 70)], argTypes := #[9, 5] }) 71 3 134 _ (W.z64 (⟨#[92, 46, 91, 93, 40, 41, 42, 43, 63, 123, 125, 94, 36, 45, 47, 124]⟩ : ByteArray) y4.1 y28 e29  p6 ) ?_
      rintro _ w20 ⟨S20, rfl, z20, p20⟩
      have p20 := p20.dp 0
      refine Gm 4 [([72, 73, 66], .bool (decide (y28 < 0)))] J14s ?_
      have p20 := (p20.fr 0).fr 1
      exact Gj 90 [(0, (pt gx0 0)), (2, (pt b2 0)), (3, .int .u8 y4.1), (66, .bool (decide (y28 < 0)))] (W.z69 gx0 _ _ h _ _ (((((z2.t z3).t z4).t z5).t z6).t z20) _ _ p20 rfl (up0.ext (((z4.t z5).t z6).t z20)))

def J166 := Zb 0 (Ys 1111 B322 [])
def J167 := Ys 11100111 B322 J166
def J16a := Ys 11100111011 B322 J166
def J16c := Ys 11111 B322 []
def Qx5 := Yq 11110 B322
def J16f := Ys 111111 B322 []

def Post.z6a (gx0 : Nat) (r : T370 × T134) (v : Value) (w' : World) : Prop :=
 ∃ S' umv, v = (ag (vT370 r.1)) ∧ Ext S0 w0 S' w' ∧ Hp nz wz S' w' ((some gx0, .row 135 (vT134 r.2 umv) 4 0) :: Lr) ∧ r.1.set_.length = 4 ∧ PtO kT138 S' w' umv r.2.bad

def L.z6b (gx0 : Nat) : T370 × Int × Bool × T134 → (T370 × T134) → Prop := fun ⟨x2v, x3, x11, e0v⟩ r => ∀ S1 w1, Ext S0 w0 S1 w1 → ∀ gx2 umv (_ : Hp nz wz S1 w1 ((some gx2, .row 371 (vT370 x2v) 6 0) :: (some gx0, .row 135 (vT134 e0v umv) 4 0) :: Lr)) (_ : x2v.set_.length = 4) (_ : PtO kT138 S1 w1 umv e0v.bad) (junk : Nat → Value),
 Goes Tryz.prog (base 322) J167 ⟨lfr 39 [(0, (pt gx0 0)), (2, (pt gx2 0)), (3, .int .u8 x3), (11, .bool x11)] junk, []⟩ w1 (Done Tryz.prog 322 (Rets (Post.z6a nz wz S0 w0 Lr gx0 r)))

theorem W.z6b {nz wz S0 w0 Lr} (gx0 : Nat) : ∀ a r, M.a2i a = some r → L.z6b nz wz S0 w0 Lr gx0 a r := by
 intro ⟨x2v, x3, x11, e0v⟩ r h S1 w1 hx gx2 umv p1 u2p umw junk
 rw [M.a2i] at h
 try dsimp only at h
 refine Gi h (fun h16 h => ?_) fun h16 h => ?_
 ·
  rw [h16]
  refine Gm 7 [([23, 24, 25], (pt gx0 0)), ([26], (pt gx0 1))] (Yt 1110011100 B322 [4, 5] (Ys 1110011101 B322 J166)) ?_
  refine Goes.ld 3 (.tmp 26) 27 3 ⟨gx0, 1, none⟩ (.i e0v.at_) (p1.c 1 1) ?_
  have p1 := p1.fr 1
  refine Gb h fun y17 e18 h => ?_
  refine Gc (kc 69 [23, 27] #[132, 3]) 28 27 69 _ (W.z5o e0v e0v.at_ y17 e18 _ _ p1 umw) ?_
  rintro _ w8 ⟨S8, upa, upb, upc, upe, rfl, z8, p8, upf, upg, rfl, uph⟩
  refine Gn 4 [(29, .agg #[.u 0, .u 0, .u 0, .u 0, .int .u8 0, .bool false])] (Yt 11100111010 B322 [1] J16a) ?_
  refine So 371 (.tmp 2) (.tmp 29) 0 1 gx2 0 (.agg #[.u 0, .u 0, .u 0, .u 0, .int .u8 0, .bool false]) [.u 0, .u 0, .u 0, .u 0, .int .u8 0, .bool false] p8 rfl Goes.s fun w9 z9 p9 => ?_
  refine Gn 1 [] J16a ?_
  obtain rfl := sj h
  have p9 := (p9.fr 0).fr 1
  exact R1 Tryz.f322 (.cell 2 371) (.agg #[.u 0, .u 0, .u 0, .u 0, .int .u8 0, .bool false]) (Rn gx2 (p9.pa 0 0)) ⟨_, _, rfl, ((hx.t z8).t z9), p9.drop, rfl, (uph.ext z9)⟩
 ·
  rw [bf h16]
  refine Gm 8 [([30, 31], (pt gx0 0)), ([32], (pt gx0 1))] (Zr Qx5 [3, 4, 5, 6, 7] J16c) ?_
  refine Goes.ld 3 (.tmp 32) 33 3 ⟨gx0, 1, none⟩ (.i e0v.at_) (p1.c 1 1) ?_
  refine Gn 3 [(34, .i (wr .i64 (e0v.at_ + 1))), (35, (pt gx0 0)), (36, (pt gx0 1))] (Zr Qx5 [7] J16c) ?_
  refine So 3 (.tmp 36) (.tmp 34) 0 1 gx0 1 (.i (wr .i64 (e0v.at_ + 1))) [.i (wr .i64 (e0v.at_ + 1))] p1 rfl Goes.s fun w10 z10 p10 => ?_
  refine Gn 4 [(37, .int .u8 x3)] (Yt 111110 B322 [1, 2] J16f) ?_
  refine Gb h fun y19 e20 h => ?_
  refine Gc (kc 300 [37] #[5]) 38 371 300 _ (W.z67 x3 y19 e20  p10 ) ?_
  rintro _ w11 ⟨S11, rfl, z11, p11, upi⟩
  refine So 371 (.tmp 2) (.tmp 38) 0 0 gx2 0 (ag (vT370 y19)) (vT370 y19) p11 rfl Goes.s fun w12 z12 p12 => ?_
  refine Gn 1 [] J16f ?_
  obtain rfl := sj h
  exact R1 Tryz.f322 (.cell 2 371) (ag (vT370 y19)) (Rn gx2 (p12.pa 0 0)) ⟨_, _, rfl, (((hx.t z10).t z11).t z12), p12.drop, upi, (umw.ext ((z10.t z11).t z12))⟩

def J16l := Ys 111001 B322 J166
def J16n := Ys 11100101 B322 J166
def Qxg := Yq 11100110 B322

theorem W.z6a (x0v : T134) (r : T370 × T134) (h : M.a4q x0v = some r) {nz wz S0 w0 Lr} (gx0 umx) (p0 : Hp nz wz S0 w0 ((some gx0, .row 135 (vT134 x0v umx) 4 0) :: Lr)) (umy : PtO kT138 S0 w0 umx x0v.bad) :
  Calls Tryz.prog 322 #[(pt gx0 0)] w0 (Rets (Post.z6a nz wz S0 w0 Lr gx0 r)) := by
 refine Zf Tryz.f322 B322 38 ?_
 refine Gj 39 [(0, (pt gx0 0))] fun junk => ?_
 delta M.a4q at h
 refine Gn 2 [] (Yt 10 B322 [0] (Ys 11 B322 [])) ?_
 refine Oa 371 2 0 (.agg #[.u 0, .u 0, .u 0, .u 0, .int .u8 0, .bool false]) [.u 0, .u 0, .u 0, .u 0, .int .u8 0, .bool false] p0 Goes.v fun b2 w2 z2 p2 => ?_
 refine Gn 4 [(4, (pt gx0 0))] (Yt 110 B322 [1, 2] (Ys 111 B322 [])) ?_
 have p2 := p2.fr 1
 refine Gb h fun y4 e5 h => ?_
 refine Gc (kc 197 [4] #[132]) 5 5 197 _ (W.z5m x0v y4 e5 _ _ p2 (umy.ext z2)) ?_
 rintro _ w3 ⟨S3, uoz, rfl, z3, p3, up0⟩
 refine Gn 7 [(3, .int .u8 y4.1), (7, (pt gx0 0))] (Yt 111000 B322 [1, 2] J16l) ?_
 refine Gb h fun y6 e7 h => ?_
 refine Gc (.call { callee := .value (.func 132), args := #[(.tmp 7), (.const (.int .u8 92))], argTypes := #[132, 5] }) 8 4 132 _ (W.z5p y4.2 92 y6 e7 _ _ p3 up0) ?_
 rintro _ w4 ⟨S4, uoo, rfl, z4, p4, uor⟩
 refine Gn 2 [(6, .bool y6.1)] J16l ?_
 refine Gi h (fun h8 h => ?_) fun h8 h => ?_
 ·
  rw [h8]
  refine Gn 4 [(9, (pt gx0 0))] (Yt 11100100 B322 [1, 2] J16n) ?_
  refine Gb h fun y9 e10 h => ?_
  refine Gc (kc 277 [9] #[132]) 10 371 277 _ (W.z68 y6.2 y9 e10 _ _ p4 uor) ?_
  rintro _ w5 ⟨S5, upj, rfl, z5, p5, upk, upl⟩
  refine So 371 (.tmp 2) (.tmp 10) 0 1 b2 0 (ag (vT370 y9.1)) (vT370 y9.1) p5 rfl Goes.s fun w6 z6 p6 => ?_
  refine Gn 1 [] J16n ?_
  obtain rfl := sj h
  have p6 := (p6.fr 0).fr 1
  exact R1 Tryz.f322 (.cell 2 371) (ag (vT370 y9.1)) (Rn b2 (p6.pa 0 0)) ⟨_, _, rfl, ((((z2.t z3).t z4).t z5).t z6), p6.drop, upk, (upl.ext z6)⟩
 ·
  rw [bf h8]
  refine Gm 6 [([12], .int .u8 y4.1), ([13, 14], .bool (decide (y4.1 < 32)))] (Zr Qxg [3, 4, 5, 6, 7, 8, 9, 10, 11] J167) ?_
  refine Gi h (fun h11 h => ?_) fun h11 h => ?_
  ·
   rw [dt h11]
   refine Gm 10 [([15, 16, 19, 20, 21], undef), ([17, 18, 22, 11], .bool true)] J167 ?_
   have p4 := (p4.fr 0).fr 1
   exact Gj 39 [(0, (pt gx0 0)), (2, (pt b2 0)), (3, .int .u8 y4.1), (11, .bool true)] (W.z6b gx0 _ _ h _ _ ((z2.t z3).t z4) _ _ p4 rfl uor)
  ·
   rw [df h11]
   refine Gm 4 [([15], .int .u8 y4.1), ([16, 17, 18], .bool (decide (y4.1 > 126)))] (Zr Qxg [7, 8, 9, 10, 11] J167) ?_
   refine Gi h (fun h13 h => ?_) fun h13 h => ?_
   ·
    rw [dt h13]
    refine Gm 6 [([19, 20, 21], undef), ([22, 11], .bool true)] J167 ?_
    have p4 := (p4.fr 0).fr 1
    exact Gj 39 [(0, (pt gx0 0)), (2, (pt b2 0)), (3, .int .u8 y4.1), (11, .bool true)] (W.z6b gx0 _ _ h _ _ ((z2.t z3).t z4) _ _ p4 rfl uor)
   ·
    rw [df h13]
    refine Gn 1 [(19, .int .u8 y4.1)] (Zr Qxg [8, 9, 10, 11] J167) ?_
    refine Gb h fun y14 e15 h => ?_
    refine Gc (.call { callee := .value (.func 134), args := #[(.const (.string ⟨#[93, 91, 45]⟩)), (.tmp 19)], argTypes := #[9, 5] }) 20 3 134 _ (W.z64 (⟨#[93, 91, 45]⟩ : ByteArray) y4.1 y14 e15  p4 ) ?_
    rintro _ w7 ⟨S7, rfl, z7, p7⟩
    refine Gm 4 [([21, 22, 11], .bool (decide (y14 ≥ 0)))] J167 ?_
    have p7 := (p7.fr 0).fr 1
    exact Gj 39 [(0, (pt gx0 0)), (2, (pt b2 0)), (3, .int .u8 y4.1), (11, .bool (decide (y14 ≥ 0)))] (W.z6b gx0 _ _ h _ _ (((z2.t z3).t z4).t z7) _ _ p7 rfl (uor.ext z7))

def J16t := Zb 0 (Ys 1111111111 B314 [])
def J16u := Ys 111111111001 B314 J16t
def J16v := Ys 11111111111 B314 []
def J16w := Yt 11111111110 B314 [1, 2] J16v
def J16x := Ys 11111111100111 B314 J16t
def J16z := Ys 1111111110011111 B314 J16t
def Qxo := Yq 1111111110011110 B314
def J173 := Ys 111111111001111111 B314 J16t
def Qxr := Yq 111111111001111110 B314

def Post.z6c (gx0 : Nat) (r : (List Int) × T134) (v : Value) (w' : World) : Prop :=
 ∃ S' vsq umv, v = .agg vsq.toArray ∧ Ext S0 w0 S' w' ∧ Hp nz wz S' w' ((some gx0, .row 135 (vT134 r.2 umv) 4 0) :: Lr) ∧ Els (kInt .u64) S' w' vsq r.1 ∧ vsq.length = 4 ∧ PtO kT138 S' w' umv r.2.bad

def L.z6d (gx0 : Nat) : (List Int) × Int × T370 × Int × T370 × Bool × T134 → ((List Int) × T134) → Prop := fun ⟨u4, x3, x4v, x5, x6v, x47, e0v⟩ r => ∀ S1 w1, Ext S0 w0 S1 w1 → ∀ gx2 gx4 gx6 umv (_ : Hp nz wz S1 w1 ((some gx2, .row 24 (U4 u4 []) 4 0) :: (some gx4, .row 371 (vT370 x4v) 6 0) :: (some gx6, .row 371 (vT370 x6v) 6 0) :: (some gx0, .row 135 (vT134 e0v umv) 4 0) :: Lr)) (_ : u4.length = 4) (_ : x4v.set_.length = 4) (_ : x6v.set_.length = 4) (_ : PtO kT138 S1 w1 umv e0v.bad) (junk : Nat → Value),
 Goes Tryz.prog (base 314) J16u ⟨lfr 72 [(0, (pt gx0 0)), (2, (pt gx2 0)), (3, .i x3), (4, (pt gx4 0)), (5, .i x5), (6, (pt gx6 0)), (47, .bool x47)] junk, []⟩ w1 (Done Tryz.prog 314 (Rets (Post.z6c nz wz S0 w0 Lr gx0 r)))

theorem W.z6d {nz wz S0 w0 Lr} (gx0 : Nat) : ∀ a r, M.a4r a = some r → L.z6d nz wz S0 w0 Lr gx0 a r := by
 intro ⟨u4, x3, x4v, x5, x6v, x47, e0v⟩ r h S1 w1 hx gx2 gx4 gx6 umv p1 u2p u3l u63 umw junk
 rw [M.a4r] at h
 try dsimp only at h
 refine Gi h (fun h28 h => ?_) fun h28 h => ?_
 ·
  rw [h28]
  refine Gn 6 [(70, (pt gx4 0))] J16w ?_
  refine Goes.ldN 24 (.tmp 70) 71 24 ⟨gx4, 0, none⟩ (U4 x4v.set_ []) (p1.pa 1 0) ?_
  refine So 24 (.tmp 2) (.tmp 71) 0 0 gx2 0 (ag (U4 x4v.set_ [])) (U4 x4v.set_ []) p1 rfl Goes.s fun w14 z14 p14 => ?_
  refine Gn 1 [] J16v ?_
  obtain rfl := sj h
  have p14 := (p14.dp 1).dp 1
  exact R1 Tryz.f314 (.cell 2 24) (ag (U4 x4v.set_ [])) (Rn gx2 (p14.pa 0 0)) ⟨_, _, _, rfl, (hx.t z14), p14.drop, (els_mk4 (S := S1) (w := w14) (k := .u64) u3l), rfl, (umw.ext z14)⟩
 ·
  rw [bf h28]
  refine Gn 4 [(54, (pt gx6 5))] (Yt 11111111100110 B314 [1, 2, 3] J16x) ?_
  refine Goes.ld 4 (.tmp 54) 55 4 ⟨gx6, 5, none⟩ (.bool x6v.single) (p1.c 2 5) ?_
  refine Gm 3 [([56, 53], .bool (!x6v.single))] J16x ?_
  refine Gi h (fun h29 h => ?_) fun h29 h => ?_
  ·
   rw [h29]
   have p1 : Hp nz wz S1 w1 ((some gx2, .row 24 (U4 u4 []) 4 0) :: (some gx4, .row 371 (vT370 x4v) 6 0) :: (some gx6, .row 371 (U4 x6v.set_ [.int .u8 x6v.b, .bool true]) 6 0) :: (some gx0, .row 135 (vT134 e0v umv) 4 0) :: Lr) := by simp only [vT26, wT29, vT218, vT134, vT370, h29] at p1; exact p1
   refine Gn 4 [(62, (pt gx4 4))] (Zr Qxo [1, 2, 3, 4, 5] J16z) ?_
   refine Goes.ld 5 (.tmp 62) 63 5 ⟨gx4, 4, none⟩ (.int .u8 x4v.b) (p1.c 1 4) ?_
   refine Gn 1 [(64, (pt gx6 4))] (Zr Qxo [3, 4, 5] J16z) ?_
   refine Goes.ld 5 (.tmp 64) 65 5 ⟨gx6, 4, none⟩ (.int .u8 x6v.b) (p1.c 2 4) ?_
   refine Gm 3 [([66, 61], .bool (decide (x4v.b > x6v.b)))] J16z ?_
   refine Gi h (fun h30 h => ?_) fun h30 h => ?_
   ·
    rw [dt h30]
    refine Gn 4 [(67, (pt gx0 0)), (68, .i x3)] (Yt 11111111100111110 B314 [2] J16t) ?_
    have p1 := p1.fr 3
    refine Gb h fun y31 e32 h => ?_
    refine Gc (kc 69 [67, 68] #[132, 3]) 69 27 69 _ (W.z5o e0v x3 y31 e32 _ _ p1 umw) ?_
    rintro _ w15 ⟨S15, upm, upn, upo, upp, rfl, z15, p15, upq, upr, rfl, ups⟩
    have p15 := p15.dp 3
    refine Gn 5 [(70, (pt gx4 0))] J16w ?_
    refine Goes.ldN 24 (.tmp 70) 71 24 ⟨gx4, 0, none⟩ (U4 x4v.set_ []) (p15.pa 2 0) ?_
    refine So 24 (.tmp 2) (.tmp 71) 0 1 gx2 0 (ag (U4 x4v.set_ [])) (U4 x4v.set_ []) p15 rfl Goes.s fun w16 z16 p16 => ?_
    refine Gn 1 [] J16v ?_
    obtain rfl := sj h
    have p16 := p16.dp 2
    have p16 := (p16.fr 0).fr 1
    exact R1 Tryz.f314 (.cell 2 24) (ag (U4 x4v.set_ [])) (Rn gx2 (p16.pa 0 0)) ⟨_, _, _, rfl, ((hx.t z15).t z16), p16.drop, (els_mk4 (S := S15) (w := w16) (k := .u64) u3l), rfl, (ups.ext z16)⟩
   ·
    rw [df h30]
    refine Gn 4 [(42, (pt gx4 4))] (Zr Qxr [1, 2, 3, 4, 5] J173) ?_
    refine Goes.ld 5 (.tmp 42) 43 5 ⟨gx4, 4, none⟩ (.int .u8 x4v.b) (p1.c 1 4) ?_
    refine Gn 1 [(44, (pt gx6 4))] (Zr Qxr [3, 4, 5] J173) ?_
    refine Goes.ld 5 (.tmp 44) 45 5 ⟨gx6, 4, none⟩ (.int .u8 x6v.b) (p1.c 2 4) ?_
    refine Gb h fun y33 e34 h => ?_
    refine Gc (kc 315 [43, 45] #[5, 5]) 46 24 315 _ (W.z5v x4v.b x6v.b y33 e34  p1 ) ?_
    rintro _ w17 ⟨S17, upt, rfl, z17, p17, upu, upv⟩
    have p17 := (p17.dp 1).dp 1
    have f35 : Els (kInt .u64) S17 w17 ((U4 u4 []) : List Value) u4 := (els_mk4 (k := .u64) u2p)
    refine Op_.stA 24 (.tmp 2) (.tmp 46) 0 0 gx2 4 upt p17 rfl rfl Goes.s (by kernel_rfl) (by kernel_rfl) (by kernel_rfl) upv (Els.one upu) fun w18 z18 p18 => ?_
    refine Gn 1 [] J173 ?_
    obtain rfl := sj h
    exact Goes.ret (fn := Tryz.f314) (by kernel_rfl) (v := .agg upt.toArray) (results_n1 (fn := Tryz.f314) (a := .cell 2 24) (by kernel_rfl) (resV_cell ⟨gx2, 0, none⟩ (by kernel_rfl) (run_loadN upt (by kernel_rfl) (by rw [upv]; kernel_rfl) (At_all (p18.mem 0 rfl))))) ⟨S17, upt, umv, rfl, ((hx.t z17).t z18), p18.drop, (upu.ext z18), upv, (umw.ext (z17.t z18))⟩
  ·
   have upw := bf h29
   rw [upw]
   have p1 : Hp nz wz S1 w1 ((some gx2, .row 24 (U4 u4 []) 4 0) :: (some gx4, .row 371 (vT370 x4v) 6 0) :: (some gx6, .row 371 (U4 x6v.set_ [.int .u8 x6v.b, .bool false]) 6 0) :: (some gx0, .row 135 (vT134 e0v umv) 4 0) :: Lr) := by simp only [vT26, wT29, vT218, vT134, vT370, upw] at p1; exact p1
   refine Gn 5 [(57, (pt gx0 0)), (58, .i x5), (59, .i (wr .i64 (x5 + 1)))] (Yt 111111111001110 B314 [3] J16t) ?_
   have p1 := p1.fr 3
   refine Gb h fun y36 e37 h => ?_
   refine Gc (kc 69 [57, 59] #[132, 3]) 60 27 69 _ (W.z5o e0v (wr .i64 (x5 + 1)) y36 e37 _ _ p1 umw) ?_
   rintro _ w19 ⟨S19, upx, upy, upz, uq0, rfl, z19, p19, uq1, uq2, rfl, uq3⟩
   have p19 := p19.dp 3
   refine Gn 5 [(70, (pt gx4 0))] J16w ?_
   refine Goes.ldN 24 (.tmp 70) 71 24 ⟨gx4, 0, none⟩ (U4 x4v.set_ []) (p19.pa 2 0) ?_
   refine So 24 (.tmp 2) (.tmp 71) 0 1 gx2 0 (ag (U4 x4v.set_ [])) (U4 x4v.set_ []) p19 rfl Goes.s fun w20 z20 p20 => ?_
   refine Gn 1 [] J16v ?_
   obtain rfl := sj h
   have p20 := p20.dp 2
   have p20 := (p20.fr 0).fr 1
   exact R1 Tryz.f314 (.cell 2 24) (ag (U4 x4v.set_ [])) (Rn gx2 (p20.pa 0 0)) ⟨_, _, _, rfl, ((hx.t z19).t z20), p20.drop, (els_mk4 (S := S19) (w := w20) (k := .u64) u3l), rfl, (uq3.ext z20)⟩

def J17d := Ys 11111 B314 []
def J17e := Ys 111101 B314 J17d
def J17g := Ys 111111 B314 []
def J17h := Ys 1111101 B314 J17g
def J17j := Ys 1111111 B314 []
def Qy6 := Yq 1111110 B314
def J17t := Ys 1111101011 B314 J17g
def J17v := Ys 11110101 B314 J17d

theorem W.z6c (x0v : T134) (r : (List Int) × T134) (h : M.a5m x0v = some r) {nz wz S0 w0 Lr} (gx0 umx) (p0 : Hp nz wz S0 w0 ((some gx0, .row 135 (vT134 x0v umx) 4 0) :: Lr)) (umy : PtO kT138 S0 w0 umx x0v.bad) :
  Calls Tryz.prog 314 #[(pt gx0 0)] w0 (Rets (Post.z6c nz wz S0 w0 Lr gx0 r)) := by
 refine Zf Tryz.f314 B314 71 ?_
 refine Gj 72 [(0, (pt gx0 0))] fun junk => ?_
 delta M.a5m at h
 refine Gn 2 [] (Yt 10 B314 [0] (Ys 11 B314 [])) ?_
 refine Oa 24 2 0 (.agg #[.u 0, .u 0, .u 0, .u 0]) [.u 0, .u 0, .u 0, .u 0] p0 Goes.v fun b2 w2 z2 p2 => ?_
 refine Gm 6 [([7, 8], (pt gx0 0)), ([9], (pt gx0 1))] (Yt 110 B314 [3, 4] (Ys 111 B314 [])) ?_
 refine Goes.ld 3 (.tmp 9) 10 3 ⟨gx0, 1, none⟩ (.i x0v.at_) (p2.c 1 1) ?_
 refine Gn 5 [(3, .i x0v.at_), (11, (pt gx0 0))] (Yt 1110 B314 [1, 2, 3] (Ys 1111 B314 [])) ?_
 have p2 := p2.fr 1
 refine Gb h fun y4 e5 h => ?_
 refine Gc (kc 322 [11] #[132]) 12 371 322 _ (W.z6a x0v y4 e5 _ _ p2 (umy.ext z2)) ?_
 rintro _ w3 ⟨S3, uoz, rfl, z3, p3, uq4, up0⟩
 refine Oa 371 4 0 (.agg #[.u 0, .u 0, .u 0, .u 0, .int .u8 0, .bool false]) [.u 0, .u 0, .u 0, .u 0, .int .u8 0, .bool false] p3 Goes.v fun b6 w4 z4 p4 => ?_
 refine So 371 (.tmp 4) (.tmp 12) 0 0 b6 0 (ag (vT370 y4.1)) (vT370 y4.1) p4 rfl Goes.s fun w5 z5 p5 => ?_
 refine Gn 5 [(13, (pt gx0 0))] (Yt 111100 B314 [1, 2] J17e) ?_
 have p5 := p5.fr 1
 refine Gb h fun y8 e9 h => ?_
 refine Gc (kc 197 [13] #[132]) 14 5 197 _ (W.z5m y4.2 y8 e9 _ _ p5 (up0.ext (z4.t z5))) ?_
 rintro _ w6 ⟨S6, uq5, rfl, z6, p6, uq6⟩
 refine Gn 2 [(15, .bool (!(decide (y8.1 = 45))))] J17e ?_
 refine Gi h (fun h10 h => ?_) fun h10 h => ?_
 ·
  rw [dt h10]
  refine Gn 6 [(18, (pt b6 5))] (Yt 1111100 B314 [1, 2] J17h) ?_
  refine Goes.ld 4 (.tmp 18) 19 4 ⟨b6, 5, none⟩ (.bool y4.1.single) (p6.c 1 5) ?_
  refine Gn 2 [(20, .bool (!y4.1.single))] J17h ?_
  refine Gi h (fun h11 h => ?_) fun h11 h => ?_
  ·
   rw [h11]
   have p6 : Hp nz wz S6 w6 ((some gx0, .row 135 (vT134 y8.2 uq5) 4 0) :: (some b6, .row 371 (U4 y4.1.set_ [.int .u8 y4.1.b, .bool true]) 6 0) :: (some b2, .row 24 [.u 0, .u 0, .u 0, .u 0] 4 0) :: Lr) := by simp only [vT26, wT29, vT218, vT134, vT370, h11] at p6; exact p6
   refine Gm 7 [([29, 30], (pt gx0 0)), ([31], (pt gx0 1))] (Zr Qy6 [3, 4, 5, 6, 7] J17j) ?_
   refine Goes.ld 3 (.tmp 31) 32 3 ⟨gx0, 1, none⟩ (.i y8.2.at_) (p6.c 0 1) ?_
   refine Gn 3 [(33, .i (wr .i64 (y8.2.at_ + 1))), (34, (pt gx0 0)), (35, (pt gx0 1))] (Zr Qy6 [7] J17j) ?_
   refine So 3 (.tmp 35) (.tmp 33) 0 0 gx0 1 (.i (wr .i64 (y8.2.at_ + 1))) [.i (wr .i64 (y8.2.at_ + 1))] p6 rfl Goes.s fun w7 z7 p7 => ?_
   refine Gm 6 [([36, 37], (pt gx0 0)), ([38], (pt gx0 1))] (Yt 11111110 B314 [3, 4] (Ys 11111111 B314 [])) ?_
   refine Goes.ld 3 (.tmp 38) 39 3 ⟨gx0, 1, none⟩ (.i (wr .i64 (y8.2.at_ + 1))) (p7.c 0 1) ?_
   refine Gn 5 [(5, .i (wr .i64 (y8.2.at_ + 1))), (40, (pt gx0 0))] (Yt 111111110 B314 [1, 2, 3] (Ys 111111111 B314 [])) ?_
   refine Gb h fun y12 e13 h => ?_
   refine Gc (kc 322 [40] #[132]) 41 371 322 _ (W.z6a (⟨y8.2.s, wr .i64 (y8.2.at_ + 1), y8.2.deep, y8.2.bad⟩ : T134) y12 e13 _ _ p7 (uq6.ext z7)) ?_
   rintro _ w8 ⟨S8, upe, rfl, z8, p8, uq7, uph⟩
   refine Oa 371 6 0 (.agg #[.u 0, .u 0, .u 0, .u 0, .int .u8 0, .bool false]) [.u 0, .u 0, .u 0, .u 0, .int .u8 0, .bool false] p8 Goes.v fun b14 w9 z9 p9 => ?_
   refine So 371 (.tmp 6) (.tmp 41) 0 0 b14 0 (ag (vT370 y12.1)) (vT370 y12.1) p9 rfl Goes.s fun w10 z10 p10 => ?_
   refine Gm 8 [([48, 49], (pt gx0 0)), ([50], (pt gx0 3))] (Yt 111111111000 B314 [3, 4, 5] J16u) ?_
   refine Goes.ld 133 (.tmp 50) 51 133 ⟨gx0, 3, none⟩ (upe) (p10.c 1 3) ?_
   refine Gl h fun v25 h16 h => ?_
   rcases v25 with _ | y17
   ·
    try dsimp only at h
    obtain rfl := PtO.nil (uph.ext (z9.t z10)) h16
    refine Gm 3 [([52, 47], .bool false)] J16u ?_
    have p10 := (((p10.fr 1).fr 1).fr 2).fr 3
    exact Gj 72 [(0, (pt gx0 0)), (2, (pt b2 0)), (3, .i x0v.at_), (4, (pt b6 0)), (5, .i (wr .i64 (y8.2.at_ + 1))), (6, (pt b14 0)), (47, .bool false)] (W.z6d gx0 _ _ h _ _ ((((((((z2.t z3).t z4).t z5).t z6).t z7).t z8).t z9).t z10) _ _ _ (.pointer none) p10 rfl uq4 uq7 rfl)
   ·
    try dsimp only at h
    obtain ⟨a19, _, rfl, -, f20, q21⟩ := PtO.got (uph.ext (z9.t z10)) h16
    obtain rfl := q21
    refine Gm 3 [([52, 47], .bool true)] J16u ?_
    have p10 := (((p10.fr 1).fr 1).fr 2).fr 3
    exact Gj 72 [(0, (pt gx0 0)), (2, (pt b2 0)), (3, .i x0v.at_), (4, (pt b6 0)), (5, .i (wr .i64 (y8.2.at_ + 1))), (6, (pt b14 0)), (47, .bool true)] (W.z6d gx0 _ _ h _ _ ((((((((z2.t z3).t z4).t z5).t z6).t z7).t z8).t z9).t z10) _ _ _ _ p10 rfl uq4 uq7 ⟨_, _, rfl, List.cons_ne_nil _ _, f20, rfl⟩)
  ·
   have ud0 := bf h11
   rw [ud0]
   have p6 : Hp nz wz S6 w6 ((some gx0, .row 135 (vT134 y8.2 uq5) 4 0) :: (some b6, .row 371 (U4 y4.1.set_ [.int .u8 y4.1.b, .bool false]) 6 0) :: (some b2, .row 24 [.u 0, .u 0, .u 0, .u 0] 4 0) :: Lr) := by simp only [vT26, wT29, vT218, vT134, vT370, ud0] at p6; exact p6
   refine Gm 7 [([21, 22, 23], (pt gx0 0)), ([24], (pt gx0 1))] (Yt 111110100 B314 [4, 5] (Ys 111110101 B314 J17g)) ?_
   refine Goes.ld 3 (.tmp 24) 25 3 ⟨gx0, 1, none⟩ (.i y8.2.at_) (p6.c 0 1) ?_
   refine Gb h fun y26 e27 h => ?_
   refine Gc (kc 69 [21, 25] #[132, 3]) 26 27 69 _ (W.z5o y8.2 y8.2.at_ y26 e27 _ _ p6 uq6) ?_
   rintro _ w11 ⟨S11, ubm, ubn, ubo, up5, rfl, z11, p11, uq8, ubp, rfl, up6⟩
   refine Gn 4 [(27, (pt b6 0))] (Yt 1111101010 B314 [1, 2] J17t) ?_
   refine Goes.ldN 24 (.tmp 27) 28 24 ⟨b6, 0, none⟩ (U4 y4.1.set_ []) (p11.pa 1 0) ?_
   refine So 24 (.tmp 2) (.tmp 28) 0 2 b2 0 (ag (U4 y4.1.set_ [])) (U4 y4.1.set_ []) p11 rfl Goes.s fun w12 z12 p12 => ?_
   refine Gn 1 [] J17t ?_
   obtain rfl := sj h
   have p12 := p12.dp 1
   have p12 := (p12.fr 0).fr 1
   exact R1 Tryz.f314 (.cell 2 24) (ag (U4 y4.1.set_ [])) (Rn b2 (p12.pa 0 0)) ⟨_, _, _, rfl, ((((((z2.t z3).t z4).t z5).t z6).t z11).t z12), p12.drop, (els_mk4 (S := S11) (w := w12) (k := .u64) uq4), rfl, (up6.ext z12)⟩
 ·
  rw [df h10]
  refine Gn 4 [(16, (pt b6 0))] (Yt 11110100 B314 [1, 2] J17v) ?_
  refine Goes.ldN 24 (.tmp 16) 17 24 ⟨b6, 0, none⟩ (U4 y4.1.set_ []) (p6.pa 1 0) ?_
  refine So 24 (.tmp 2) (.tmp 17) 0 2 b2 0 (ag (U4 y4.1.set_ [])) (U4 y4.1.set_ []) p6 rfl Goes.s fun w13 z13 p13 => ?_
  refine Gn 1 [] J17v ?_
  obtain rfl := sj h
  have p13 := p13.dp 1
  have p13 := (p13.fr 0).fr 1
  exact R1 Tryz.f314 (.cell 2 24) (ag (U4 y4.1.set_ [])) (Rn b2 (p13.pa 0 0)) ⟨_, _, _, rfl, (((((z2.t z3).t z4).t z5).t z6).t z13), p13.drop, (els_mk4 (S := S6) (w := w13) (k := .u64) uq4), rfl, (uq6.ext z13)⟩

def Qyj := Yq 1111010 B275
def Qyk := Yq 11110100 B275
def Qyl := Yq 11110101 B275

def Post.z6e (lk : Nat) (rk : Nat) (jkk : Nat → Value) (u6u : Nat) (uq9 : Option Nat) (uqa : Nat) (uqb : Nat) (uqc : List Value) (uqd : Nat) (uqe : Nat) (uqf : Nat) (uqg : Value) (uqh : T26) (kq3 : Bool) (uqi : T134) (r : List Int) (v : Value) (w' : World) : Prop :=
 ∃ S' uqj, v = .bool true ∧ Ext S0 w0 S' w' ∧ Hp nz wz S' w' ((some lk, .obj (lpst 275 (lfr 20 [(2, (pt u6u 0)), (3, .bool kq3), (4, (pt uqd 0)), (9, .func (.func 313) #[] #[(pt uqe 0)])] jkk) #[10] (rfAssign (Qyj)) (rfBody (Qyj)) rk .ready none)) :: (some u6u, .row 27 (vT26 uqh (Gp uq9) uqa uqb) 8 0) :: (uq9, .row 27 uqc (uqb * kT26.size) 0) :: (some uqd, .row 24 uqj 4 0) :: (some uqe, .row 132 [(pt uqf 0)] 1 0) :: (some uqf, .row 135 (vT134 uqi uqg) 4 0) :: Lr) ∧ Els (kInt .u64) S' w' uqj r ∧ uqj.length = 4

theorem W.z6e (uqh : T26) (kq3 : Bool) (kq4 : List Int) (uqi : T134) (a0 : List Int) (r : List Int) (h : M.a5n uqh kq3 kq4 uqi a0 = some r) {nz wz S0 w0 Lr} (lk rk jkk u6u uq9 uqa uqb uqc uqd uqk uqe uqf uqg uql) (p0 : Hp nz wz S0 w0 ((some lk, .obj (lpst 275 (lfr 20 [(2, (pt u6u 0)), (3, .bool kq3), (4, (pt uqd 0)), (9, .func (.func 313) #[] #[(pt uqe 0)])] jkk) #[10] (rfAssign (Qyj)) (rfBody (Qyj)) rk .ready none)) :: (some u6u, .row 27 (vT26 uqh (Gp uq9) uqa uqb) 8 0) :: (uq9, .row 27 uqc (uqb * kT26.size) 0) :: (some uqd, .row 24 uqk 4 0) :: (some uqe, .row 132 [(pt uqf 0)] 1 0) :: (some uqf, .row 135 (vT134 uqi uqg) 4 0) :: Lr)) (uqm : uqh.Set.length = 4) (uqn : Els kT26 S0 w0 uqc uqh.L) (uqo : uqh.L.length = uqa) (uqp : Els (kInt .u64) S0 w0 uqk kq4) (uqq : uqk.length = 4) (uqr : PtO kT138 S0 w0 uqg uqi.bad) (fa0 : Els (kInt .u64) S0 w0 uql a0) (la0 : uql.length = 4) :
  Goes Tryz.prog (rbase 275 lk) [.code (rfAssign (Qyj)), .beginRound, .code (rfBody (Qyj))] ⟨setp (lfr 20 [(2, (pt u6u 0)), (3, .bool kq3), (4, (pt uqd 0)), (9, .func (.func 313) #[] #[(pt uqe 0)])] jkk) #[10] #[.agg uql.toArray], []⟩ w0 (DoneR (Post.z6e nz wz S0 w0 Lr lk rk jkk u6u uq9 uqa uqb uqc uqd uqe uqf uqg uqh kq3 uqi r)) := by
 subst uqo
 refine Gj 20 [(2, (pt u6u 0)), (3, .bool kq3), (4, (pt uqd 0)), (9, .func (.func 313) #[] #[(pt uqe 0)]), (10, .agg uql.toArray)] fun junk => ?_
 delta M.a5n at h
 refine Gn 1 [] [.inRegion (opsOf (Qyk)) [0, 1], .beginRound, .code (Qyl)] ?_
 refine Oa 24 5 0 (.agg #[.u 0, .u 0, .u 0, .u 0]) [.u 0, .u 0, .u 0, .u 0] p0 Goes.v fun b7 w2 z2 p2 => ?_
 have f9 : Els (kInt .u64) S0 w2 ([.u 0, .u 0, .u 0, .u 0] : List Value) [0, 0, 0, 0] := (Els.cons (K := (kInt .u64)) (vs := [.u 0]) (x := 0) rfl (Els.cons (K := (kInt .u64)) (vs := [.u 0]) (x := 0) rfl (Els.cons (K := (kInt .u64)) (vs := [.u 0]) (x := 0) rfl (Els.cons (K := (kInt .u64)) (vs := [.u 0]) (x := 0) rfl Els.nil))))
 refine Op_.stA 24 (.tmp 5) (.tmp 10) 0 0 b7 4 uql p2 rfl rfl Goes.s (by kernel_rfl) (by kernel_rfl) (by kernel_rfl) la0 (Els.one (fa0.ext z2)) fun w3 z3 p3 => ?_
 refine Gn 1 [] [.beginRound, .code (Qyl)] ?_
 refine Goes.beginR 1 rfl p3 rfl fun w4 z4 p4 => ?_
 refine Gn 2 [] (Yt 111101010 B275 [0, 1, 2, 3, 4] Jal) ?_
 refine Op_.ldN 24 (.tmp 4) 11 24 ⟨uqd, 0, none⟩ uqk Goes.v (by kernel_rfl) (by kernel_rfl) (by rw [uqq]; kernel_rfl) (At_all (p4.mem 4 rfl)) ?_
 refine Op_.ldN 24 (.tmp 5) 12 24 ⟨b7, 0, none⟩ uql Goes.v (by kernel_rfl) (by kernel_rfl) (by rw [la0]; kernel_rfl) (At_all (p4.mem 0 rfl)) ?_
 have l10 := Els.len1 (uqp.ext ((z2.t z3).t z4)) uqq rfl
 obtain rfl := els_lit4 (uqp.ext ((z2.t z3).t z4)) uqq
 have l11 := Els.len1 (fa0.ext ((z2.t z3).t z4)) la0 rfl
 obtain rfl := els_lit4 (fa0.ext ((z2.t z3).t z4)) la0
 have f13 : Els (kArr 4 (kInt .u64)) S0 w4 ((U4 kq4 (U4 a0 [])) : List Value) [kq4, a0] := by exact (Els.cons (K := (kArr 4 (kInt .u64))) (vs := (U4 kq4 [])) (x := kq4) ⟨l10, els_mk4 l10⟩ (Els.cons (K := (kArr 4 (kInt .u64))) (vs := (U4 a0 [])) (x := a0) ⟨l11, els_mk4 l11⟩ Els.nil))
 refine Om (.buildSlice 405 2 #[(0, (.tmp 11)), (1, (.tmp 12))]) 13 405 (fun b => .slice (Gp (some b)) 2 2) 24 ((U4 kq4 (U4 a0 [])) : List Value) (2 * (kArr 4 (kInt .u64)).size) p4 Goes.v fun b12 w5 z5 p5 => ?_
 obtain ⟨S6, z6, p6, f15⟩ := p5.freezeRd 0 rfl (f13.ext z5) (by decide)
 refine Gb h fun y16 e17 h => ?_
 refine Gc (kc 297 [13] #[405]) 14 24 297 _ (W.z5x [kq4, a0] y16 e17 _ _ _ p6 f15 rfl) ?_
 rintro _ w7 ⟨S7, uni, rfl, z7, p7, unj, unk⟩
 have p7 := (p7.dp 0).dp 0
 refine Op_.stA 24 (.tmp 4) (.tmp 14) 0 3 uqd 4 uni p7 rfl uqq Goes.s (by kernel_rfl) (by kernel_rfl) (by kernel_rfl) unk (Els.one unj) fun w8 z8 p8 => ?_
 refine Gn 2 [] [] ?_
 obtain rfl := sj h
 refine Goes.endR 0 p8 rfl fun w9 z9 p9 => ?_
 exact ⟨S7, uni, rfl, (((((((z2.t z3).t z4).t z5).t z6).t z7).t z8).t z9), p9, (unj.ext (z8.t z9)), unk⟩

def Qym := Yq 1100 B313
def J17y := Zl Qym Jao
def J17z := Zc Qym J17y
def J181 := Ys 110001 B313 (Ys 11001 B313 J17y)
def Qyp := Yq 110000 B313
def J188 := Yt 11001000 B313 [1, 2, 3, 4] (Ys 11001001 B313 (Zb 1 (Ys 110011 B313 J17y)))

def Post.z6f (lx0 : Nat) (rx0 : Nat) (u79 : Nat → Value) (u7a : Nat) (uqs : Option Nat) (uqt : Nat) (uqu : Nat) (uqv : List Value) (uqw : Nat) (uqx : Nat) (uqy : Nat) (uqz : T26) (ur0 : Bool) (r : (List Int) × T134) (v : Value) (w' : World) : Prop :=
 ∃ S' uqj ur1, v = .tuple #[] ∧ Ext S0 w0 S' w' ∧ Hp nz wz S' w' ((some lx0, .obj (lpst 275 (lfr 20 [(2, (pt u7a 0)), (3, .bool ur0), (4, (pt uqw 0)), (9, .func (.func 313) #[] #[(pt uqx 0)])] u79) #[10] (rfAssign (Qyj)) (rfBody (Qyj)) rx0 .ready none)) :: (some u7a, .row 27 (vT26 uqz (Gp uqs) uqt uqu) 8 0) :: (uqs, .row 27 uqv (uqu * kT26.size) 0) :: (some uqw, .row 24 uqj 4 0) :: (some uqx, .row 132 [(pt uqy 0)] 1 0) :: (some uqy, .row 135 (vT134 r.2 ur1) 4 0) :: Lr) ∧ Els (kInt .u64) S' w' uqj r.1 ∧ uqj.length = 4 ∧ PtO kT138 S' w' ur1 r.2.bad

def L.z6g (lx0 : Nat) (rx0 : Nat) (u79 : Nat → Value) (u7a : Nat) (uqs : Option Nat) (uqt : Nat) (uqu : Nat) (uqv : List Value) (uqw : Nat) (uqx : Nat) (uqy : Nat) : Bool × (List Int) × T134 × T26 × Bool → ((List Int) × T134) → Prop := fun ⟨x3, e2, e4v, uqz, ur0⟩ r => ∀ S1 w1, Ext S0 w0 S1 w1 → ∀ uqj ur1 (_ : Hp nz wz S1 w1 ((some lx0, .obj (lpst 275 (lfr 20 [(2, (pt u7a 0)), (3, .bool ur0), (4, (pt uqw 0)), (9, .func (.func 313) #[] #[(pt uqx 0)])] u79) #[10] (rfAssign (Qyj)) (rfBody (Qyj)) rx0 .ready none)) :: (some u7a, .row 27 (vT26 uqz (Gp uqs) uqt uqu) 8 0) :: (uqs, .row 27 uqv (uqu * kT26.size) 0) :: (some uqw, .row 24 uqj 4 0) :: (some uqx, .row 132 [(pt uqy 0)] 1 0) :: (some uqy, .row 135 (vT134 e4v ur1) 4 0) :: Lr)) (_ : uqz.Set.length = 4) (_ : Els kT26 S1 w1 uqv uqz.L) (_ : uqz.L.length = uqt) (_ : Els (kInt .u64) S1 w1 uqj e2) (_ : uqj.length = 4) (_ : PtO kT138 S1 w1 ur1 e4v.bad) (junk : Nat → Value),
 Goes Tryz.prog (base 313) J17z ⟨lfr 22 [(0, yieldV lx0), (1, (pt uqx 0)), (3, .bool x3)] junk, []⟩ w1 (Done Tryz.prog 313 (Rets (Post.z6f nz wz S0 w0 Lr lx0 rx0 u79 u7a uqs uqt uqu uqv uqw uqx uqy uqz ur0 r)))

def L.z6h (lx0 : Nat) (rx0 : Nat) (u79 : Nat → Value) (u7a : Nat) (uqs : Option Nat) (uqt : Nat) (uqu : Nat) (uqv : List Value) (uqw : Nat) (uqx : Nat) (uqy : Nat) : Bool × (List Int) × T134 × T26 × Bool → ((List Int) × T134) → Prop := fun ⟨x16, e2, e4v, uqz, ur0⟩ r => ∀ S1 w1, Ext S0 w0 S1 w1 → ∀ uqj ur1 (_ : Hp nz wz S1 w1 ((some lx0, .obj (lpst 275 (lfr 20 [(2, (pt u7a 0)), (3, .bool ur0), (4, (pt uqw 0)), (9, .func (.func 313) #[] #[(pt uqx 0)])] u79) #[10] (rfAssign (Qyj)) (rfBody (Qyj)) rx0 .ready none)) :: (some u7a, .row 27 (vT26 uqz (Gp uqs) uqt uqu) 8 0) :: (uqs, .row 27 uqv (uqu * kT26.size) 0) :: (some uqw, .row 24 uqj 4 0) :: (some uqx, .row 132 [(pt uqy 0)] 1 0) :: (some uqy, .row 135 (vT134 e4v ur1) 4 0) :: Lr)) (_ : uqz.Set.length = 4) (_ : Els kT26 S1 w1 uqv uqz.L) (_ : uqz.L.length = uqt) (_ : Els (kInt .u64) S1 w1 uqj e2) (_ : uqj.length = 4) (_ : PtO kT138 S1 w1 ur1 e4v.bad) (junk : Nat → Value),
 Goes Tryz.prog (base 313) J181 ⟨lfr 22 [(0, yieldV lx0), (1, (pt uqx 0)), (16, .bool x16)] junk, []⟩ w1 (Done Tryz.prog 313 (Rets (Post.z6f nz wz S0 w0 Lr lx0 rx0 u79 u7a uqs uqt uqu uqv uqw uqx uqy uqz ur0 r)))

theorem W.z6i {nz wz S0 w0 Lr} (lx0 : Nat) (rx0 : Nat) (u79 : Nat → Value) (u7a : Nat) (uqs : Option Nat) (uqt : Nat) (uqu : Nat) (uqv : List Value) (uqw : Nat) (uqx : Nat) (uqy : Nat) : (∀ a r, M.a2j a = some r → (L.z6g nz wz S0 w0 Lr lx0 rx0 u79 u7a uqs uqt uqu uqv uqw uqx uqy) a r) ∧ (∀ a r, M.a2k a = some r → (L.z6h nz wz S0 w0 Lr lx0 rx0 u79 u7a uqs uqt uqu uqv uqw uqx uqy) a r) := by
 refine M.a2j.mutual_partial_correctness (L.z6g nz wz S0 w0 Lr lx0 rx0 u79 u7a uqs uqt uqu uqv uqw uqx uqy) (L.z6h nz wz S0 w0 Lr lx0 rx0 u79 u7a uqs uqt uqu uqv uqw uqx uqy) ?_ ?_
 ·
  intro ur2 ur3 ⟨x3, e2, e4v, uqz, ur0⟩ r h S1 w1 hx uqj ur1 p1 ur4 fs1 ls1 fe2 le2 ur5 junk
  try dsimp only at h
  subst ls1
  refine Gn 3 [] (Zr Qyp [0, 1, 2, 3, 4, 5, 6, 7, 8, 9, 10, 11, 12] J181) ?_
  refine Goes.ld 132 (.tmp 1) 4 132 ⟨uqx, 0, none⟩ ((pt uqy 0)) (p1.c 4 0) ?_
  refine Gn 2 [(5, (pt uqy 0)), (6, (pt uqy 3))] (Zr Qyp [3, 4, 5, 6, 7, 8, 9, 10, 11, 12] J181) ?_
  refine Goes.ld 133 (.tmp 6) 7 133 ⟨uqy, 3, none⟩ (ur1) (p1.c 5 3) ?_
  refine Gl h fun v17 h8 h => ?_
  rcases v17 with _ | y9
  ·
   try dsimp only at h
   obtain rfl := PtO.nil ur5 h8
   refine Gm 4 [([8, 9], .bool true), ([10, 11], .bool x3)] (Zr Qyp [8, 9, 10, 11, 12] J181) ?_
   refine Gi h (fun h14 h => ?_) fun h14 h => ?_
   ·
    rw [h14]
    refine Gm 6 [([12, 13, 14], undef), ([15, 16], .bool true)] J181 ?_
    exact Gj 22 [(0, yieldV lx0), (1, (pt uqx 0)), (16, .bool true)] (ur3 _ _ h _ _ hx _ (.pointer none) p1 ur4 fs1 rfl fe2 le2 rfl)
   ·
    rw [bf h14]
    refine Goes.ld 132 (.tmp 1) 12 132 ⟨uqx, 0, none⟩ ((pt uqy 0)) (p1.c 4 0) ?_
    have p1 := p1.fr 5
    refine Gb h fun y15 e16 h => ?_
    refine Gc (.call { callee := .value (.func 132), args := #[(.tmp 12), (.const (.int .u8 93))], argTypes := #[132, 5] }) 13 4 132 _ (W.z5p (⟨e4v.s, e4v.at_, e4v.deep, none⟩ : T134) 93 y15 e16 _ (.pointer none) p1 rfl) ?_
    rintro _ w2 ⟨S2, umz, rfl, z2, p2, un0⟩
    refine Gm 4 [([14, 15, 16], .bool (!y15.1))] J181 ?_
    have p2 := (((((p2.fr 0).fr 5).fr 5).fr 5).fr 5).fr 5
    exact Gj 22 [(0, yieldV lx0), (1, (pt uqx 0)), (16, .bool (!y15.1))] (ur3 _ _ h _ _ (hx.t z2) _ _ p2 ur4 (fs1.ext z2) rfl (fe2.ext z2) le2 un0)
  ·
   try dsimp only at h
   obtain ⟨a11, _, rfl, -, f12, q13⟩ := PtO.got ur5 h8
   obtain rfl := q13
   refine Gm 10 [([8, 9, 16], .bool false), ([10, 11, 12, 13, 14, 15], undef)] J181 ?_
   exact Gj 22 [(0, yieldV lx0), (1, (pt uqx 0)), (16, .bool false)] (ur3 _ _ h _ _ hx _ _ p1 ur4 fs1 rfl fe2 le2 ⟨_, _, rfl, List.cons_ne_nil _ _, f12, rfl⟩)
 ·
  intro ur6 ur7 ⟨x16, e2, e4v, uqz, ur0⟩ r h S1 w1 hx uqj ur1 p1 ur4 fs1 ls1 fe2 le2 ur5 junk
  try dsimp only at h
  subst ls1
  refine Gi h (fun h18 h => ?_) fun h18 h => ?_
  ·
   rw [h18]
   refine Gn 7 [(17, yieldV lx0)] J188 ?_
   refine Goes.ld 132 (.tmp 1) 18 132 ⟨uqx, 0, none⟩ ((pt uqy 0)) (p1.c 4 0) ?_
   have p1 := p1.fr 5
   refine Gb h fun y19 e20 h => ?_
   refine Gc (kc 314 [18] #[132]) 19 24 314 _ (W.z6c e4v y19 e20 _ _ p1 ur5) ?_
   rintro _ w3 ⟨S3, uos, uoz, rfl, z3, p3, u89, uot, up0⟩
   have p3 := (((((p3.fr 0).fr 5).fr 5).fr 5).fr 5).fr 5
   refine Gb h fun y21 e22 h => ?_
   refine Goes.yieldAt (.call { callee := .value (.tmp 17), args := #[(.tmp 19)], argTypes := #[24] }) 20 4 0 lx0 #[.agg uos.toArray] p3 rfl (by kernel_rfl) rfl (fun _ => by kernel_rfl) rfl (W.z6e uqz ur0 e2 y19.2 y19.1 y21 e22 _ _ _ _ _ _ _ _ _ _ _ _ _ _ p3 ur4 (fs1.ext z3) rfl (fe2.ext z3) le2 up0 u89 uot) ?_
   rintro _ w4 ⟨S4, ur8, rfl, z4, p4, ur9, ura⟩
   refine Gn 9 [(21, .bool (!true)), (3, .bool false)] J17z ?_
   exact Gj 22 [(0, yieldV lx0), (1, (pt uqx 0)), (3, .bool false)] (ur7 _ _ h _ _ ((hx.t z3).t z4) _ _ p4 ur4 (fs1.ext (z3.t z4)) rfl ur9 ura (up0.ext z4))
  ·
   rw [bf h18]
   refine Gn 2 [] [] ?_
   obtain rfl := sj h
   exact Goes.end_ (fn := Tryz.f313) (by kernel_rfl) (v := .tuple #[]) (by kernel_rfl) ⟨S1, uqj, ur1, rfl, hx, p1, fe2, le2, ur5⟩

theorem W.z6g {nz wz S0 w0 Lr} (lx0 : Nat) (rx0 : Nat) (u79 : Nat → Value) (u7a : Nat) (uqs : Option Nat) (uqt : Nat) (uqu : Nat) (uqv : List Value) (uqw : Nat) (uqx : Nat) (uqy : Nat) : ∀ a r, M.a2j a = some r → (L.z6g nz wz S0 w0 Lr lx0 rx0 u79 u7a uqs uqt uqu uqv uqw uqx uqy) a r := (W.z6i lx0 rx0 u79 u7a uqs uqt uqu uqv uqw uqx uqy).1

theorem W.z6h {nz wz S0 w0 Lr} (lx0 : Nat) (rx0 : Nat) (u79 : Nat → Value) (u7a : Nat) (uqs : Option Nat) (uqt : Nat) (uqu : Nat) (uqv : List Value) (uqw : Nat) (uqx : Nat) (uqy : Nat) : ∀ a r, M.a2k a = some r → (L.z6h nz wz S0 w0 Lr lx0 rx0 u79 u7a uqs uqt uqu uqv uqw uqx uqy) a r := (W.z6i lx0 rx0 u79 u7a uqs uqt uqu uqv uqw uqx uqy).2

theorem W.z6f (uqz : T26) (ur0 : Bool) (urc : List Int) (urd : T134) (r : (List Int) × T134) (h : M.a5o uqz ur0 urc urd = some r) {nz wz S0 w0 Lr} (lx0 rx0 u79 u7a uqs uqt uqu uqv uqw uqx uqy ure) (p0 : Hp nz wz S0 w0 ((some lx0, .obj (lpst 275 (lfr 20 [(2, (pt u7a 0)), (3, .bool ur0), (4, (pt uqw 0)), (9, .func (.func 313) #[] #[(pt uqx 0)])] u79) #[10] (rfAssign (Qyj)) (rfBody (Qyj)) rx0 .ready none)) :: (some u7a, .row 27 (vT26 uqz (Gp uqs) uqt uqu) 8 0) :: (uqs, .row 27 uqv (uqu * kT26.size) 0) :: (some uqw, .row 24 (U4 urc []) 4 0) :: (some uqx, .row 132 [(pt uqy 0)] 1 0) :: (some uqy, .row 135 (vT134 urd ure) 4 0) :: Lr)) (ur4 : uqz.Set.length = 4) (urf : Els kT26 S0 w0 uqv uqz.L) (urg : uqz.L.length = uqt) (urh : urc.length = 4) (uri : PtO kT138 S0 w0 ure urd.bad) :
  Calls Tryz.prog 313 #[yieldV lx0, (pt uqx 0)] w0 (Rets (Post.z6f nz wz S0 w0 Lr lx0 rx0 u79 u7a uqs uqt uqu uqv uqw uqx uqy uqz ur0 r)) := by
 subst urg
 refine Zf Tryz.f313 B313 20 ?_
 refine Gj 22 [(0, yieldV lx0), (1, (pt uqx 0))] fun junk => ?_
 delta M.a5o at h
 refine Gn 6 [(3, .bool true)] J17z ?_
 have f7 : Els (kInt .u64) S0 w0 ((U4 urc []) : List Value) urc := (els_mk4 (k := .u64) urh)
 exact Gj 22 [(0, yieldV lx0), (1, (pt uqx 0)), (3, .bool true)] (W.z6g lx0 rx0 u79 u7a uqs uqz.L.length uqu uqv uqw uqx uqy _ _ h _ _ (Ext.refl S0 w0) _ _ p0 ur4 urf rfl f7 rfl uri)

def J18f := Ys 11111 B275 []
def J18i := Zb 0 J18f
def J18k := Ys 111111 B275 []
def J18n := Ys 1111111 B275 []
def Qz6 := Yq 1111110 B275
def J18o := Zr Qz6 [0, 1, 2] J18n
def J18p := Zr Qz6 [2] J18n

def Post.z6j (gx0 : Nat) (r : T26 × T134) (v : Value) (w' : World) : Prop :=
 ∃ S' u9d u1 u2 umv, v = (ag (vT26 r.1 u9d u1 u2)) ∧ Ext S0 w0 S' w' ∧ Hp nz wz S' w' ((some gx0, .row 135 (vT134 r.2 umv) 4 0) :: Lr) ∧ r.1.Set.length = 4 ∧ Rd kT26 S' w' u9d u2 r.1.L ∧ r.1.L.length = u1 ∧ PtO kT138 S' w' umv r.2.bad

theorem W.z6j (x0v : T134) (r : T26 × T134) (h : M.a5p x0v = some r) {nz wz S0 w0 Lr} (gx0 umx) (p0 : Hp nz wz S0 w0 ((some gx0, .row 135 (vT134 x0v umx) 4 0) :: Lr)) (umy : PtO kT138 S0 w0 umx x0v.bad) :
  Calls Tryz.prog 275 #[(pt gx0 0)] w0 (Rets (Post.z6j nz wz S0 w0 Lr gx0 r)) := by
 refine Zf Tryz.f275 B275 19 ?_
 refine Gj 20 [(0, (pt gx0 0))] fun junk => ?_
 delta M.a5p at h
 refine Gn 2 [] (Yt 10 B275 [0] (Ys 11 B275 [])) ?_
 refine Oa 27 2 0 (.agg #[.i 0, .u 0, .u 0, .u 0, .u 0, .slice none 0 0, .i 0, .i 0]) [.i 0, .u 0, .u 0, .u 0, .u 0, .slice none 0 0, .i 0, .i 0] p0 Goes.v fun b2 w2 z2 p2 => ?_
 refine Gn 4 [(6, (pt gx0 0))] (Yt 110 B275 [1, 2] (Ys 111 B275 [])) ?_
 have p2 := p2.fr 1
 refine Gb h fun y4 e5 h => ?_
 refine Gc (.call { callee := .value (.func 132), args := #[(.tmp 6), (.const (.int .u8 94))], argTypes := #[132, 5] }) 7 4 132 _ (W.z5p x0v 94 y4 e5 _ _ p2 (umy.ext z2)) ?_
 rintro _ w3 ⟨S3, uoz, rfl, z3, p3, up0⟩
 refine Gn 4 [(3, .bool y4.1)] (Yt 1110 B275 [0] (Ys 1111 B275 [])) ?_
 refine Oa 24 4 0 (.agg #[.u 0, .u 0, .u 0, .u 0]) [.u 0, .u 0, .u 0, .u 0] p3 Goes.v fun b6 w4 z4 p4 => ?_
 refine Gn 5 [(8, (pt gx0 0))] (Yt 111100 B275 [1] (Ys 111101 B275 J18f)) ?_
 have p4 := p4.fr 1
 refine Gb h fun y8 e9 h => ?_
 refine Gc (kc 296 [8] #[132]) 9 390 296 _ (W.z5u y4.2 y8 e9 _ _ p4 (up0.ext z4)) ?_
 rintro _ w5 ⟨S5, urj, rfl, z5, p5⟩
 refine Gn 2 [] (Zc Qyj J18i) ?_
 refine Gj 20 [(2, (pt b2 0)), (3, .bool y4.1), (4, (pt b6 0)), (9, .func (.func 313) #[] #[(pt urj 0)])] (fun urk => ?_)
 refine Goes.rangeF (f := 275) (.tmp 9) #[10] 313 #[] #[(pt urj 0)] (by kernel_rfl) (by kernel_rfl) (fun _ => by kernel_rfl) p5 fun r12 l13 w6 z6 p6 => ?_
 have p6 : Hp nz wz S5 w6 ((none, .row 27 [] (0 * kT26.size) 0) :: (some l13, .obj (lpst 275 (lfr 20 [(2, (pt b2 0)), (3, .bool y4.1), (4, (pt b6 0)), (9, .func (.func 313) #[] #[(pt urj 0)])] urk) #[10] (rfAssign (Qyj)) (rfBody (Qyj)) r12 .ready none)) :: (some r12, .obj (.deferred (some []))) :: (some urj, .row 132 [(pt gx0 0)] 1 0) :: (some gx0, .row 135 (vT134 y4.2 uoz) 4 0) :: (some b6, .row 24 [.u 0, .u 0, .u 0, .u 0] 4 0) :: (some b2, .row 27 [.i 0, .u 0, .u 0, .u 0, .u 0, .slice none 0 0, .i 0, .i 0] 8 0) :: Lr) := p6.nilRow' 27
 have p6 := (((((p6.fr 4).fr 4).fr 5).fr 3).fr 6).fr 5
 refine Gb h fun y17 e18 h => ?_
 refine ⟨_, W.z6f (⟨0, [0, 0, 0, 0], ([] : List T26), 0, 0⟩ : T26) y4.1 [0, 0, 0, 0] y4.2 y17 e18 _ _ _ _ none 0 0 [] _ _ _ _ p6 rfl (Els.nil (K := kT26)) rfl rfl (up0.ext ((z4.t z5).t z6)), ?_⟩
 rintro _ w7 ⟨S7, url, urm, rfl, z7, p7, urn, uro, urp⟩
 refine Goes.endF 0 p7 rfl rfl fun w8 z8 p8 => ?_
 replace p8 : Hp nz wz S7 w8 ((some b2, .row 27 [.i 0, .u 0, .u 0, .u 0, .u 0, .slice (Gp none) 0 0, .i 0, .i 0] 8 0) :: (none, .row 27 [] (0 * kT26.size) 0) :: (some b6, .row 24 url 4 0) :: (some urj, .row 132 [(pt gx0 0)] 1 0) :: (some gx0, .row 135 (vT134 y17.2 urm) 4 0) :: (some r12, .obj (.deferred (some []))) :: Lr) := (p8.front 0 _ rfl).drop
 show Goes _ _ J18i _ _ _
 refine Gn 6 [(15, .bool y4.1)] (Ys 1111101 B275 J18k) ?_
 refine Gi h (fun h19 h => ?_) fun h19 h => ?_
 ·
  rw [h19]
  refine Gn 2 [] (Yt 11111010 B275 [0, 1, 2] J18k) ?_
  refine Op_.ldN 24 (.tmp 4) 16 24 ⟨b6, 0, none⟩ url Goes.v (by kernel_rfl) (by kernel_rfl) (by rw [uro]; kernel_rfl) (At_all (p8.mem 2 rfl)) ?_
  refine Gb h fun y20 e21 h => ?_
  refine Gc (kc 273 [16] #[24]) 17 24 273 _ (W.z5s y17.1 y20 e21 _ p8 (urn.ext z8) uro) ?_
  rintro _ w9 ⟨S9, urq, rfl, z9, p9, urr, urs⟩
  have p9 := p9.dp 3
  refine Op_.stA 24 (.tmp 4) (.tmp 17) 0 2 b6 4 urq p9 rfl uro Goes.s (by kernel_rfl) (by kernel_rfl) (by kernel_rfl) urs (Els.one urr) fun w10 z10 p10 => ?_
  refine Gn 3 [] J18o ?_
  refine Op_.ldN 24 (.tmp 4) 18 24 ⟨b6, 0, none⟩ urq Goes.v (by kernel_rfl) (by kernel_rfl) (by rw [urs]; kernel_rfl) (At_all (p10.mem 2 rfl)) ?_
  have l22 := Els.len1 (urr.ext z10) urs rfl
  obtain rfl := els_lit4 (urr.ext z10) urs
  refine Gn 1 [(19, (ag (.i 1 :: U4 y20 [.slice none 0 0, .i 0, .i 0])))] J18p ?_
  refine So 27 (.tmp 2) (.tmp 19) 0 0 b2 0 (ag (.i 1 :: U4 y20 [.slice none 0 0, .i 0, .i 0])) (.i 1 :: U4 y20 [.slice none 0 0, .i 0, .i 0]) p10 rfl Goes.s fun w11 z11 p11 => ?_
  refine Gn 1 [] J18n ?_
  obtain rfl := sj h
  have p11 := (p11.dp 1).dp 1
  have p11 := ((p11.fr 1).fr 1).fr 2
  refine Goes.retL ?_
  refine lvs_mark 0 rfl rfl p11 rfl fun w12 z12 p12 => ?_
  replace p12 : Hp nz wz S9 w12 ((some b2, .row 27 (.i 1 :: U4 y20 [.slice none 0 0, .i 0, .i 0]) 8 0) :: (some gx0, .row 135 (vT134 y17.2 urm) 4 0) :: Lr) := p12.drop
  exact lvs_done (fn := Tryz.f275) rfl rfl rfl rfl (by kernel_rfl) (v := (ag (.i 1 :: U4 y20 [.slice none 0 0, .i 0, .i 0]))) (results_n1 (fn := Tryz.f275) (a := .cell 2 27) (by kernel_rfl) (resV_cell ⟨b2, 0, none⟩ (by kernel_rfl) (run_loadN (.i 1 :: U4 y20 [.slice none 0 0, .i 0, .i 0]) (by kernel_rfl) (by kernel_rfl) (p12.pa 0 0)))) ⟨S9, none, 0, 0, urm, rfl, ((((((((((z2.t z3).t z4).t z5).t z6).t z7).t z8).t z9).t z10).t z11).t z12), p12.drop, l22, Rd.none_, rfl, (urp.ext ((((z8.t z9).t z10).t z11).t z12))⟩
 ·
  rw [bf h19]
  refine Gn 4 [] J18o ?_
  refine Op_.ldN 24 (.tmp 4) 18 24 ⟨b6, 0, none⟩ url Goes.v (by kernel_rfl) (by kernel_rfl) (by rw [uro]; kernel_rfl) (At_all (p8.mem 2 rfl)) ?_
  have l23 := Els.len1 (urn.ext z8) uro rfl
  obtain rfl := els_lit4 (urn.ext z8) uro
  refine Gn 1 [(19, (ag (.i 1 :: U4 y17.1 [.slice none 0 0, .i 0, .i 0])))] J18p ?_
  refine So 27 (.tmp 2) (.tmp 19) 0 0 b2 0 (ag (.i 1 :: U4 y17.1 [.slice none 0 0, .i 0, .i 0])) (.i 1 :: U4 y17.1 [.slice none 0 0, .i 0, .i 0]) p8 rfl Goes.s fun w13 z13 p13 => ?_
  refine Gn 1 [] J18n ?_
  obtain rfl := sj h
  have p13 := ((p13.dp 1).dp 1).dp 1
  have p13 := ((p13.fr 1).fr 1).fr 2
  refine Goes.retL ?_
  refine lvs_mark 0 rfl rfl p13 rfl fun w14 z14 p14 => ?_
  replace p14 : Hp nz wz S7 w14 ((some b2, .row 27 (.i 1 :: U4 y17.1 [.slice none 0 0, .i 0, .i 0]) 8 0) :: (some gx0, .row 135 (vT134 y17.2 urm) 4 0) :: Lr) := p14.drop
  exact lvs_done (fn := Tryz.f275) rfl rfl rfl rfl (by kernel_rfl) (v := (ag (.i 1 :: U4 y17.1 [.slice none 0 0, .i 0, .i 0]))) (results_n1 (fn := Tryz.f275) (a := .cell 2 27) (by kernel_rfl) (resV_cell ⟨b2, 0, none⟩ (by kernel_rfl) (run_loadN (.i 1 :: U4 y17.1 [.slice none 0 0, .i 0, .i 0]) (by kernel_rfl) (by kernel_rfl) (p14.pa 0 0)))) ⟨S7, none, 0, 0, urm, rfl, ((((((((z2.t z3).t z4).t z5).t z6).t z7).t z8).t z13).t z14), p14.drop, l23, Rd.none_, rfl, (urp.ext ((z8.t z13).t z14))⟩

def J18q := Ys 11 B279 []

def Post.z6k (gx0 : Nat) (r : T134) (v : Value) (w' : World) : Prop :=
 ∃ S' umv, v = .tuple #[] ∧ Ext S0 w0 S' w' ∧ Hp nz wz S' w' ((some gx0, .row 135 (vT134 r umv) 4 0) :: Lr) ∧ PtO kT138 S' w' umv r.bad

theorem W.z6k (x0v : T134) (x1 : Int) (r : T134) (h : M.a3m x0v x1 = some r) {nz wz S0 w0 Lr} (gx0 umx) (p0 : Hp nz wz S0 w0 ((some gx0, .row 135 (vT134 x0v umx) 4 0) :: Lr)) (umy : PtO kT138 S0 w0 umx x0v.bad) :
  Calls Tryz.prog 279 #[(pt gx0 0), .int .u8 x1] w0 (Rets (Post.z6k nz wz S0 w0 Lr gx0 r)) := by
 refine Zf Tryz.f279 B279 12 ?_
 refine Gj 14 [(0, (pt gx0 0)), (1, .int .u8 x1)] fun junk => ?_
 delta M.a3m at h
 refine Gn 4 [(4, (pt gx0 0)), (5, .int .u8 x1)] (Yt 10 B279 [2, 3] J18q) ?_
 refine Gb h fun y2 e3 h => ?_
 refine Gc (kc 132 [4, 5] #[132, 5]) 6 4 132 _ (W.z5p x0v x1 y2 e3 _ _ p0 umy) ?_
 rintro _ w2 ⟨S2, umz, rfl, z2, p2, un0⟩
 refine Gn 2 [(7, .bool (!y2.1))] J18q ?_
 refine Gi h (fun h4 h => ?_) fun h4 h => ?_
 ·
  rw [h4]
  refine Gn 2 [] [] ?_
  obtain rfl := sj h
  exact Goes.end_ (fn := Tryz.f279) (by kernel_rfl) (v := .tuple #[]) (by kernel_rfl) ⟨S2, umz, rfl, z2, p2, un0⟩
 ·
  rw [bf h4]
  refine Gm 6 [([8, 9, 10], (pt gx0 0)), ([11], (pt gx0 1))] (Yt 110 B279 [4, 5] []) ?_
  refine Goes.ld 3 (.tmp 11) 12 3 ⟨gx0, 1, none⟩ (.i y2.2.at_) (p2.c 0 1) ?_
  refine Gb h fun y5 e6 h => ?_
  refine Gc (kc 69 [8, 12] #[132, 3]) 13 27 69 _ (W.z5o y2.2 y2.2.at_ y5 e6 _ _ p2 un0) ?_
  rintro _ w3 ⟨S3, uru, urv, urw, uoz, rfl, z3, p3, urx, ury, rfl, up0⟩
  refine Gn 1 [] [] ?_
  obtain rfl := sj h
  exact Goes.end_ (fn := Tryz.f279) (by kernel_rfl) (v := .tuple #[]) (by kernel_rfl) ⟨S3, uoz, rfl, (z2.t z3), p3, up0⟩

def J18t := Ys 111 B301 []
def Qzb := Yq 110 B301

def Post.z6l (gx0 : Nat) (urz : Nat) (r : Bool × T134) (v : Value) (w' : World) : Prop :=
 ∃ S' us0, v = .bool r.1 ∧ Ext S0 w0 S' w' ∧ Hp nz wz S' w' ((some gx0, .row 132 [(pt urz 0)] 1 0) :: (some urz, .row 135 (vT134 r.2 us0) 4 0) :: Lr) ∧ PtO kT138 S' w' us0 r.2.bad

theorem W.z6l (us1 : T134) (r : Bool × T134) (h : M.a62 us1 = some r) {nz wz S0 w0 Lr} (gx0 urz us2) (p0 : Hp nz wz S0 w0 ((some gx0, .row 132 [(pt urz 0)] 1 0) :: (some urz, .row 135 (vT134 us1 us2) 4 0) :: Lr)) (us3 : PtO kT138 S0 w0 us2 us1.bad) :
  Calls Tryz.prog 301 #[(pt gx0 0)] w0 (Rets (Post.z6l nz wz S0 w0 Lr gx0 urz r)) := by
 refine Zf Tryz.f301 B301 9 ?_
 refine Gj 10 [(0, (pt gx0 0))] fun junk => ?_
 delta M.a62 at h
 refine Gn 6 [(1, .bool false)] (Zr Qzb [0, 1, 2, 3, 4, 5, 6, 7, 8] J18t) ?_
 refine Goes.ld 132 (.tmp 0) 2 132 ⟨gx0, 0, none⟩ ((pt urz 0)) (p0.c 0 0) ?_
 have p0 := p0.fr 1
 refine Gb h fun y3 e4 h => ?_
 refine Gc (kc 197 [2] #[132]) 3 5 197 _ (W.z5m us1 y3 e4 _ _ p0 us3) ?_
 rintro _ w2 ⟨S2, umz, rfl, z2, p2, un0⟩
 refine Gm 2 [([4, 5], .bool (decide (y3.1 ≥ 48)))] (Zr Qzb [4, 5, 6, 7, 8] J18t) ?_
 refine Gi h (fun h5 h => ?_) fun h5 h => ?_
 ·
  rw [dt h5]
  refine Goes.ld 132 (.tmp 0) 6 132 ⟨gx0, 0, none⟩ ((pt urz 0)) (p2.c 1 0) ?_
  refine Gb h fun y6 e7 h => ?_
  refine Gc (kc 197 [6] #[132]) 7 5 197 _ (W.z5m y3.2 y6 e7 _ _ p2 un0) ?_
  rintro _ w3 ⟨S3, uoz, rfl, z3, p3, up0⟩
  refine Gm 4 [([8, 9, 1], .bool (decide (y6.1 ≤ 57)))] J18t ?_
  obtain rfl := sj h
  have p3 := (p3.fr 0).fr 1
  exact Goes.rt Tryz.f301 (.bool (decide (y6.1 ≤ 57))) ⟨_, _, rfl, (z2.t z3), p3, up0⟩
 ·
  rw [df h5]
  refine Gm 6 [([6, 7, 8], undef), ([9, 1], .bool false)] J18t ?_
  obtain rfl := sj h
  have p2 := (p2.fr 0).fr 1
  exact Goes.rt Tryz.f301 (.bool false) ⟨_, _, rfl, z2, p2, un0⟩

def J18w := Ys 1111111 B278 []
def J18x := Ys 11111101 B278 J18w
def Qze := Yq 1111110101 B278
def J193 := Ys 11111111 B278 []

def Post.z6m (gx0 : Nat) (r : Int × T134) (v : Value) (w' : World) : Prop :=
 ∃ S' umv, v = .i r.1 ∧ Ext S0 w0 S' w' ∧ Hp nz wz S' w' ((some gx0, .row 135 (vT134 r.2 umv) 4 0) :: Lr) ∧ PtO kT138 S' w' umv r.2.bad

def L.z6n (gx0 : Nat) : Int × Bool × T134 → (Int × T134) → Prop := fun ⟨x4, x25, e0v⟩ r => ∀ S1 w1, Ext S0 w0 S1 w1 → ∀ gx1 umv (_ : Hp nz wz S1 w1 ((some gx1, .row 132 [(pt gx0 0)] 1 0) :: (some gx0, .row 135 (vT134 e0v umv) 4 0) :: Lr)) (_ : PtO kT138 S1 w1 umv e0v.bad) (junk : Nat → Value),
 Goes Tryz.prog (base 278) J18x ⟨lfr 41 [(1, (pt gx1 0)), (4, .i x4), (25, .bool x25)] junk, []⟩ w1 (Done Tryz.prog 278 (Rets (Post.z6m nz wz S0 w0 Lr gx0 r)))

theorem W.z6n {nz wz S0 w0 Lr} (gx0 : Nat) : ∀ a r, M.a63 a = some r → L.z6n nz wz S0 w0 Lr gx0 a r := by
 intro ⟨x4, x25, e0v⟩ r h S1 w1 hx gx1 umv p1 umw junk
 rw [M.a63] at h
 try dsimp only at h
 refine Gi h (fun h13 h => ?_) fun h13 h => ?_
 ·
  rw [h13]
  refine Gn 5 [(26, .i x4), (27, .i (wr .i64 (10 * x4)))] (Yt 1111110100 B278 [2, 3, 4, 5, 6, 7] (Zc Qze J18w)) ?_
  refine Goes.ld 132 (.tmp 1) 28 132 ⟨gx1, 0, none⟩ ((pt gx0 0)) (p1.c 0 0) ?_
  have p1 := p1.fr 1
  refine Gb h fun y14 e15 h => ?_
  refine Gc (kc 197 [28] #[132]) 29 5 197 _ (W.z5m e0v y14 e15 _ _ p1 umw) ?_
  rintro _ w7 ⟨S7, us4, rfl, z7, p7, us5⟩
  refine Gm 6 [([30], .int .u8 (wr .u8 (y14.1 - 48))), ([31], .i (wr .i64 (wr .u8 (y14.1 - 48)))), ([32, 4], .i (wr .i64 ((wr .i64 (10 * x4)) + (wr .i64 (wr .u8 (y14.1 - 48))))))] (Zr Qze [0, 1, 2, 3, 4, 5, 6, 7] J18w) ?_
  refine Goes.ld 132 (.tmp 1) 33 132 ⟨gx1, 0, none⟩ ((pt gx0 0)) (p7.c 1 0) ?_
  refine Gn 2 [(34, (pt gx0 0)), (35, (pt gx0 1))] (Zr Qze [3, 4, 5, 6, 7] J18w) ?_
  refine Goes.ld 3 (.tmp 35) 36 3 ⟨gx0, 1, none⟩ (.i y14.2.at_) (p7.c 0 1) ?_
  refine Gn 3 [(37, .i (wr .i64 (y14.2.at_ + 1))), (38, (pt gx0 0)), (39, (pt gx0 1))] (Zr Qze [7] J18w) ?_
  refine So 3 (.tmp 39) (.tmp 37) 0 0 gx0 1 (.i (wr .i64 (y14.2.at_ + 1))) [.i (wr .i64 (y14.2.at_ + 1))] p7 rfl Goes.s fun w8 z8 p8 => ?_
  refine Gm 6 [([40, 2], .i (wr .i64 ((wr .i64 (10 * x4)) + (wr .i64 (wr .u8 (y14.1 - 48))))))] J193 ?_
  obtain rfl := sj h
  have p8 := p8.dp 1
  exact Goes.rt Tryz.f278 (.i (wr .i64 ((wr .i64 (10 * x4)) + (wr .i64 (wr .u8 (y14.1 - 48)))))) ⟨_, _, rfl, ((hx.t z7).t z8), p8, (us5.ext z8)⟩
 ·
  rw [bf h13]
  refine Gm 7 [([40, 2], .i x4)] J193 ?_
  obtain rfl := sj h
  have p1 := p1.dp 0
  exact Goes.rt Tryz.f278 (.i x4) ⟨_, _, rfl, hx, p1, umw⟩

def J196 := Ys 1111 B278 []
def J197 := Ys 11101 B278 J196
def J19b := Ys 111111 B278 []
def Qzp := Yq 111110 B278
def Qzq := Yq 11111100 B278

theorem W.z6m (x0v : T134) (r : Int × T134) (h : M.a64 x0v = some r) {nz wz S0 w0 Lr} (gx0 umx) (p0 : Hp nz wz S0 w0 ((some gx0, .row 135 (vT134 x0v umx) 4 0) :: Lr)) (umy : PtO kT138 S0 w0 umx x0v.bad) :
  Calls Tryz.prog 278 #[(pt gx0 0)] w0 (Rets (Post.z6m nz wz S0 w0 Lr gx0 r)) := by
 refine Zf Tryz.f278 B278 40 ?_
 refine Gj 41 [(0, (pt gx0 0))] fun junk => ?_
 delta M.a64 at h
 refine Gn 2 [] (Yt 10 B278 [0, 1] (Ys 11 B278 [])) ?_
 refine Ob 132 (.tmp 0) 1 0 ((pt gx0 0)) [(pt gx0 0)] p0 Goes.v fun b2 w2 z2 p2 => ?_
 refine Gm 11 [([2], .i 0), ([5, 3, 6], .func (.func 301) #[] #[(pt b2 0)])] (Yt 11100 B278 [1, 2] J197) ?_
 refine Gb h fun y4 e5 h => ?_
 refine Gc (.call { callee := .value (.tmp 6), args := #[], argTypes := #[] }) 7 4 301 _ (W.z6l x0v y4 e5 _ _ _ p2 (umy.ext z2)) ?_
 rintro _ w3 ⟨S3, us6, rfl, z3, p3, us7⟩
 refine Gn 2 [(8, .bool (!y4.1))] J197 ?_
 refine Gi h (fun h6 h => ?_) fun h6 h => ?_
 ·
  rw [h6]
  refine Gn 4 [] (Yt 11110 B278 [0, 1, 2, 3, 4] (Ys 11111 B278 [])) ?_
  refine Goes.ld 132 (.tmp 1) 9 132 ⟨b2, 0, none⟩ ((pt gx0 0)) (p3.c 0 0) ?_
  have p3 := p3.fr 1
  refine Gb h fun y7 e8 h => ?_
  refine Gc (kc 197 [9] #[132]) 10 5 197 _ (W.z5m y4.2 y7 e8 _ _ p3 us7) ?_
  rintro _ w4 ⟨S4, uoo, rfl, z4, p4, uor⟩
  refine Gm 6 [([11], .int .u8 (wr .u8 (y7.1 - 48))), ([12, 4], .i (wr .i64 (wr .u8 (y7.1 - 48))))] (Zr Qzp [0, 1, 2, 3, 4, 5, 6, 7] J19b) ?_
  refine Goes.ld 132 (.tmp 1) 13 132 ⟨b2, 0, none⟩ ((pt gx0 0)) (p4.c 1 0) ?_
  refine Gn 2 [(14, (pt gx0 0)), (15, (pt gx0 1))] (Zr Qzp [3, 4, 5, 6, 7] J19b) ?_
  refine Goes.ld 3 (.tmp 15) 16 3 ⟨gx0, 1, none⟩ (.i y7.2.at_) (p4.c 0 1) ?_
  refine Gn 3 [(17, .i (wr .i64 (y7.2.at_ + 1))), (18, (pt gx0 0)), (19, (pt gx0 1))] (Zr Qzp [7] J19b) ?_
  refine So 3 (.tmp 19) (.tmp 17) 0 0 gx0 1 (.i (wr .i64 (y7.2.at_ + 1))) [.i (wr .i64 (y7.2.at_ + 1))] p4 rfl Goes.s fun w5 z5 p5 => ?_
  refine Gm 7 [([20], .i (wr .i64 (wr .u8 (y7.1 - 48)))), ([21, 22], .bool (decide (wr .i64 (wr .u8 (y7.1 - 48)) > 0)))] (Zr Qzq [3, 4, 5] J18x) ?_
  refine Gi h (fun h9 h => ?_) fun h9 h => ?_
  ·
   rw [dt h9]
   refine Gn 1 [(23, .func (.func 301) #[] #[(pt b2 0)])] (Zr Qzq [4, 5] J18x) ?_
   have p5 := (p5.fr 0).fr 1
   refine Gb h fun y10 e11 h => ?_
   refine Gc (.call { callee := .value (.tmp 23), args := #[], argTypes := #[] }) 24 4 301 _ (W.z6l (⟨y7.2.s, wr .i64 (y7.2.at_ + 1), y7.2.deep, y7.2.bad⟩ : T134) y10 e11 _ _ _ p5 (uor.ext z5)) ?_
   rintro _ w6 ⟨S6, us8, rfl, z6, p6, us9⟩
   refine Gn 2 [(25, .bool y10.1)] J18x ?_
   exact Gj 41 [(1, (pt b2 0)), (4, .i (wr .i64 (wr .u8 (y7.1 - 48)))), (25, .bool y10.1)] (W.z6n gx0 _ _ h _ _ ((((z2.t z3).t z4).t z5).t z6) _ _ p6 us9)
  ·
   rw [df h9]
   refine Gm 4 [([23, 24], undef), ([25], .bool false)] J18x ?_
   have p5 := (p5.fr 0).fr 1
   exact Gj 41 [(1, (pt b2 0)), (4, .i (wr .i64 (wr .u8 (y7.1 - 48)))), (25, .bool false)] (W.z6n gx0 _ _ h _ _ (((z2.t z3).t z4).t z5) _ _ p5 (uor.ext z5))
 ·
  rw [bf h6]
  refine Gn 5 [(2, .i (-1))] (Ys 1110101 B278 J196) ?_
  obtain rfl := sj h
  have p3 := p3.dp 0
  exact Goes.rt Tryz.f278 (.i (-1)) ⟨_, _, rfl, (z2.t z3), p3, us7⟩

def J19i := Ys 111111 B248 []
def J19l := Ys 11111111 B248 []
def J19m := Ys 111111101 B248 J19l
def Qzx := Yq 111111100 B248
def Qzy := Yq 1111111010 B248
def J19p := Zr Qzy [2] J19l
def J19q := Ys 111111111 B248 []

def Post.z6o (gx0 : Nat) (r : Int × Int × T134) (v : Value) (w' : World) : Prop :=
 ∃ S' umv, v = .tuple #[.i r.1, .i r.2.1] ∧ Ext S0 w0 S' w' ∧ Hp nz wz S' w' ((some gx0, .row 135 (vT134 r.2.2 umv) 4 0) :: Lr) ∧ PtO kT138 S' w' umv r.2.2.bad

def L.z6p (gx0 : Nat) : Int × Int × Int × T134 → (Int × Int × T134) → Prop := fun ⟨x1, x6, x7, e0v⟩ r => ∀ S1 w1, Ext S0 w0 S1 w1 → ∀ umv (_ : Hp nz wz S1 w1 ((some gx0, .row 135 (vT134 e0v umv) 4 0) :: Lr)) (_ : PtO kT138 S1 w1 umv e0v.bad) (junk : Nat → Value),
 Goes Tryz.prog (base 248) J19i ⟨lfr 45 [(0, (pt gx0 0)), (1, .i x1), (6, .i x6), (7, .i x7)] junk, []⟩ w1 (Done Tryz.prog 248 (Rets (Post.z6o nz wz S0 w0 Lr gx0 r)))

theorem W.z6p {nz wz S0 w0 Lr} (gx0 : Nat) : ∀ a r, M.a65 a = some r → L.z6p nz wz S0 w0 Lr gx0 a r := by
 intro ⟨x1, x6, x7, e0v⟩ r h S1 w1 hx umv p1 umw junk
 rw [M.a65] at h
 try dsimp only at h
 refine Gn 3 [(23, (pt gx0 0))] (Yt 1111110 B248 [1] (Ys 1111111 B248 [])) ?_
 refine Gb h fun y12 e13 h => ?_
 refine Gc (.call { callee := .value (.func 279), args := #[(.tmp 23), (.const (.int .u8 125))], argTypes := #[132, 5] }) 24 0 279 _ (W.z6k e0v 125 y12 e13 _ _ p1 umw) ?_
 rintro _ w6 ⟨S6, uq5, rfl, z6, p6, uq6⟩
 refine Gm 7 [([25], .i x6), ([26, 27], .bool (decide (x6 > 64)))] (Zr Qzx [3, 4, 5, 6, 7, 8, 9, 10, 11, 12, 13, 14] J19m) ?_
 refine Gi h (fun h14 h => ?_) fun h14 h => ?_
 ·
  rw [dt h14]
  refine Gm 14 [([28, 29, 32, 33, 34, 35, 36, 37, 38], undef), ([30, 31, 39], .bool true)] (Zc Qzy J19l) ?_
  refine Gn 3 [(40, (pt gx0 0)), (41, .i x1)] J19p ?_
  refine Gb h fun y15 e16 h => ?_
  refine Gc (kc 69 [40, 41] #[132, 3]) 42 27 69 _ (W.z5o y12 x1 y15 e16 _ _ p6 uq6) ?_
  rintro _ w7 ⟨S7, ubh, ubi, ubj, us4, rfl, z7, p7, usa, ubk, rfl, us5⟩
  refine Gm 8 [([43, 4], .i x6), ([44, 5], .i x7)] J19q ?_
  obtain rfl := sj h
  exact Goes.rt Tryz.f248 (.tuple #[.i x6, .i x7]) ⟨_, _, rfl, ((hx.t z6).t z7), p7, us5⟩
 ·
  rw [df h14]
  refine Gm 4 [([28], .i x7), ([29, 30, 31], .bool (decide (x7 > 64)))] (Zr Qzx [7, 8, 9, 10, 11, 12, 13, 14] J19m) ?_
  refine Gi h (fun h17 h => ?_) fun h17 h => ?_
  ·
   rw [dt h17]
   refine Gm 13 [([32, 33, 34, 35, 36, 37, 38], undef), ([39], .bool true), ([40], (pt gx0 0)), ([41], .i x1)] J19p ?_
   refine Gb h fun y18 e19 h => ?_
   refine Gc (kc 69 [40, 41] #[132, 3]) 42 27 69 _ (W.z5o y12 x1 y18 e19 _ _ p6 uq6) ?_
   rintro _ w8 ⟨S8, upa, upb, upc, upe, rfl, z8, p8, upf, upg, rfl, uph⟩
   refine Gm 8 [([43, 4], .i x6), ([44, 5], .i x7)] J19q ?_
   obtain rfl := sj h
   exact Goes.rt Tryz.f248 (.tuple #[.i x6, .i x7]) ⟨_, _, rfl, ((hx.t z6).t z8), p8, uph⟩
  ·
   rw [df h17]
   refine Gm 3 [([32], .i x7), ([33, 34], .bool (decide (x7 ≥ 0)))] (Zr Qzx [10, 11, 12, 13, 14] J19m) ?_
   refine Gi h (fun h20 h => ?_) fun h20 h => ?_
   ·
    rw [dt h20]
    refine Gm 6 [([35], .i x6), ([36], .i x7), ([37, 38, 39], .bool (decide (x6 > x7)))] J19m ?_
    refine Gi h (fun h21 h => ?_) fun h21 h => ?_
    ·
     rw [dt h21]
     refine Gn 4 [(40, (pt gx0 0)), (41, .i x1)] J19p ?_
     refine Gb h fun y22 e23 h => ?_
     refine Gc (kc 69 [40, 41] #[132, 3]) 42 27 69 _ (W.z5o y12 x1 y22 e23 _ _ p6 uq6) ?_
     rintro _ w9 ⟨S9, ubl, u14, u15, usb, rfl, z9, p9, u17, u18, rfl, usc⟩
     refine Gm 8 [([43, 4], .i x6), ([44, 5], .i x7)] J19q ?_
     obtain rfl := sj h
     exact Goes.rt Tryz.f248 (.tuple #[.i x6, .i x7]) ⟨_, _, rfl, ((hx.t z6).t z9), p9, usc⟩
    ·
     rw [df h21]
     refine Gm 9 [([43, 4], .i x6), ([44, 5], .i x7)] J19q ?_
     obtain rfl := sj h
     exact Goes.rt Tryz.f248 (.tuple #[.i x6, .i x7]) ⟨_, _, rfl, (hx.t z6), p6, uq6⟩
   ·
    rw [df h20]
    refine Gm 14 [([35, 36, 37], undef), ([38, 39], .bool false), ([43, 4], .i x6), ([44, 5], .i x7)] (Yt 111111110 B248 [] J19q) ?_
    refine Gn 1 [] J19q ?_
    obtain rfl := sj h
    exact Goes.rt Tryz.f248 (.tuple #[.i x6, .i x7]) ⟨_, _, rfl, (hx.t z6), p6, uq6⟩

def J19u := Ys 1111 B248 []
def J19v := Ys 1111101 B248 J19i

def L.z6q (gx0 : Nat) : Int × Int × T134 → (Int × Int × T134) → Prop := fun ⟨x1, x6, e0v⟩ r => ∀ S1 w1, Ext S0 w0 S1 w1 → ∀ umv (_ : Hp nz wz S1 w1 ((some gx0, .row 135 (vT134 e0v umv) 4 0) :: Lr)) (_ : PtO kT138 S1 w1 umv e0v.bad) (junk : Nat → Value),
 Goes Tryz.prog (base 248) J19u ⟨lfr 45 [(0, (pt gx0 0)), (1, .i x1), (6, .i x6)] junk, []⟩ w1 (Done Tryz.prog 248 (Rets (Post.z6o nz wz S0 w0 Lr gx0 r)))

theorem W.z6q {nz wz S0 w0 Lr} (gx0 : Nat) : ∀ a r, M.a66 a = some r → L.z6q nz wz S0 w0 Lr gx0 a r := by
 intro ⟨x1, x6, e0v⟩ r h S1 w1 hx umv p1 umw junk
 rw [M.a66] at h
 try dsimp only at h
 refine Gm 9 [([18, 7], .i x6), ([19], (pt gx0 0))] (Yt 1111100 B248 [1] J19v) ?_
 refine Gb h fun y7 e8 h => ?_
 refine Gc (.call { callee := .value (.func 132), args := #[(.tmp 19), (.const (.int .u8 44))], argTypes := #[132, 5] }) 20 4 132 _ (W.z5p e0v 44 y7 e8 _ _ p1 umw) ?_
 rintro _ w4 ⟨S4, uoo, rfl, z4, p4, uor⟩
 refine Gn 1 [] J19v ?_
 refine Gi h (fun h9 h => ?_) fun h9 h => ?_
 ·
  rw [h9]
  refine Gn 3 [(21, (pt gx0 0))] (Yt 11111010 B248 [1, 2] J19i) ?_
  refine Gb h fun y10 e11 h => ?_
  refine Gc (kc 278 [21] #[132]) 22 3 278 _ (W.z6m y7.2 y10 e11 _ _ p4 uor) ?_
  rintro _ w5 ⟨S5, upj, rfl, z5, p5, upl⟩
  refine Gn 2 [(7, .i y10.1)] J19i ?_
  exact Gj 45 [(0, (pt gx0 0)), (1, .i x1), (6, .i x6), (7, .i y10.1)] (W.z6p gx0 _ _ h _ _ ((hx.t z4).t z5) _ p5 upl)
 ·
  rw [bf h9]
  refine Gn 2 [] J19i ?_
  exact Gj 45 [(0, (pt gx0 0)), (1, .i x1), (6, .i x6), (7, .i x6)] (W.z6p gx0 _ _ h _ _ (hx.t z4) _ p4 uor)


theorem W.z6o (x0v : T134) (x1 : Int) (r : Int × Int × T134) (h : M.a5x x0v x1 = some r) {nz wz S0 w0 Lr} (gx0 umx) (p0 : Hp nz wz S0 w0 ((some gx0, .row 135 (vT134 x0v umx) 4 0) :: Lr)) (umy : PtO kT138 S0 w0 umx x0v.bad) :
  Calls Tryz.prog 248 #[(pt gx0 0), .i x1] w0 (Rets (Post.z6o nz wz S0 w0 Lr gx0 r)) := by
 refine Zf Tryz.f248 B248 43 ?_
 refine Gj 45 [(0, (pt gx0 0)), (1, .i x1)] fun junk => ?_
 delta M.a5x at h
 refine Gm 8 [([4, 5], .i 0), ([8], (pt gx0 0))] (Yt 110 B248 [1, 2] (Ys 111 B248 [])) ?_
 refine Gb h fun y2 e3 h => ?_
 refine Gc (kc 278 [8] #[132]) 9 3 278 _ (W.z6m x0v y2 e3 _ _ p0 umy) ?_
 rintro _ w2 ⟨S2, umz, rfl, z2, p2, un0⟩
 refine Gm 8 [([6, 10], .i y2.1), ([11], .bool (decide (y2.1 < 0)))] (Ys 11101 B248 J19u) ?_
 refine Gi h (fun h4 h => ?_) fun h4 h => ?_
 ·
  rw [dt h4]
  refine Gm 6 [([12, 13, 14], (pt gx0 0)), ([15], (pt gx0 1))] (Yt 111010 B248 [4, 5] J19u) ?_
  refine Goes.ld 3 (.tmp 15) 16 3 ⟨gx0, 1, none⟩ (.i y2.2.at_) (p2.c 0 1) ?_
  refine Gb h fun y5 e6 h => ?_
  refine Gc (kc 69 [12, 16] #[132, 3]) 17 27 69 _ (W.z5o y2.2 y2.2.at_ y5 e6 _ _ p2 un0) ?_
  rintro _ w3 ⟨S3, uru, urv, urw, uoz, rfl, z3, p3, urx, ury, rfl, up0⟩
  refine Gn 1 [] J19u ?_
  exact Gj 45 [(0, (pt gx0 0)), (1, .i x1), (6, .i y2.1)] (W.z6q gx0 _ _ h _ _ (z2.t z3) _ p3 up0)
 ·
  rw [df h4]
  refine Gn 2 [] J19u ?_
  exact Gj 45 [(0, (pt gx0 0)), (1, .i x1), (6, .i y2.1)] (W.z6q gx0 _ _ h _ _ z2 _ p2 un0)

def J1a4 := Ys 111 B133 []
def J1a6 := Ys 110101 B133 J1a4
def J1a8 := Ys 1111 B133 []

def Post.z6r (r : T26) (v : Value) (w' : World) : Prop :=
 ∃ S' u9d u1 u2, v = (ag (vT26 r u9d u1 u2)) ∧ Ext S0 w0 S' w' ∧ Hp nz wz S' w' (Lr) ∧ r.Set.length = 4 ∧ Rd kT26 S' w' u9d u2 r.L ∧ r.L.length = u1

theorem W.z6r (x0 : Int) (x1 : List T26) (r : T26) (h : M.a4s x0 x1 = some r) {nz wz S0 w0 Lr} (Ax1 nx1 cx1) (p0 : Hp nz wz S0 w0 (Lr)) (fx1 : Rd kT26 S0 w0 Ax1 cx1 x1) (lx1 : x1.length = nx1) :
  Calls Tryz.prog 133 #[.i x0, .slice Ax1 nx1 cx1] w0 (Rets (Post.z6r nz wz S0 w0 Lr r)) := by
 subst lx1
 refine Zf Tryz.f133 B133 12 ?_
 refine Gj 14 [(0, .i x0), (1, .slice Ax1 x1.length cx1)] fun junk => ?_
 delta M.a4s at h
 refine Gn 2 [] (Yt 10 B133 [0] (Ys 11 B133 [])) ?_
 refine Oa 27 4 0 (.agg #[.i 0, .u 0, .u 0, .u 0, .u 0, .slice none 0 0, .i 0, .i 0]) [.i 0, .u 0, .u 0, .u 0, .u 0, .slice none 0 0, .i 0, .i 0] p0 Goes.v fun b1 w2 z2 p2 => ?_
 refine Gn 8 [(5, .slice Ax1 x1.length cx1), (6, .i (x1.length : Int)), (7, .bool (decide ((x1.length : Int) = 1)))] (Ys 1101 B133 J1a4) ?_
 refine Gi h (fun h3 h => ?_) fun h3 h => ?_
 ·
  rw [dt h3]
  refine Gn 4 [(8, .slice Ax1 x1.length cx1)] (Yt 110100 B133 [1, 2, 3] J1a6) ?_
  refine Gg h fun g4 h => ?_
  refine Oi 25 (.tmp 8) (.const (.int .i64 0)) 9 0 27 .i64 0 (gi x1 0) rfl rfl (fx1.ext z2) Goes.v (by decide : (0 : Int) ≤ 0) g4 fun a5 _ f6 q7 => ?_
  have q8 := q7
  obtain ⟨_, _, rfl, rfl, ⟨_, _, rfl, ⟨l9, f10⟩, ⟨_, _, rfl, ⟨A11, c12, rfl, f13⟩, ⟨_, _, rfl, rfl, rfl⟩⟩⟩⟩ := kT26_open q8
  obtain rfl := els_lit4' f10 l9
  refine Goes.ldN 27 (.tmp 9) 10 27 a5 ([.i ((gi x1 0).Kind)] ++ ((U4 ((gi x1 0).Set) []) ++ ([.slice A11 (((gi x1 0).L).length) c12] ++ ([.i ((gi x1 0).Min)] ++ [.i ((gi x1 0).Max)])))) (f6.cell) ?_
  refine So 27 (.tmp 4) (.tmp 10) 0 0 b1 0 (ag (.i ((gi x1 0).Kind) :: U4 ((gi x1 0).Set) [.slice A11 (((gi x1 0).L).length) c12, .i ((gi x1 0).Min), .i ((gi x1 0).Max)])) (.i ((gi x1 0).Kind) :: U4 ((gi x1 0).Set) [.slice A11 (((gi x1 0).L).length) c12, .i ((gi x1 0).Min), .i ((gi x1 0).Max)]) p2 rfl Goes.s fun w3 z3 p3 => ?_
  refine Gn 1 [] J1a6 ?_
  obtain rfl := sj h
  exact R1 Tryz.f133 (.cell 4 27) (ag (.i ((gi x1 0).Kind) :: U4 ((gi x1 0).Set) [.slice A11 (((gi x1 0).L).length) c12, .i ((gi x1 0).Min), .i ((gi x1 0).Max)])) (Rn b1 (p3.pa 0 0)) ⟨_, _, _, _, rfl, (z2.t z3), p3.drop, l9, (f13.ext z3), rfl⟩
 ·
  rw [df h3]
  refine Gn 7 [(11, .i x0), (12, .slice Ax1 x1.length cx1), (13, .agg #[.i x0, .u 0, .u 0, .u 0, .u 0, .slice Ax1 x1.length cx1, .i 0, .i 0])] (Yt 1110 B133 [3] J1a8) ?_
  refine So 27 (.tmp 4) (.tmp 13) 0 0 b1 0 (.agg #[.i x0, .u 0, .u 0, .u 0, .u 0, .slice Ax1 x1.length cx1, .i 0, .i 0]) [.i x0, .u 0, .u 0, .u 0, .u 0, .slice Ax1 x1.length cx1, .i 0, .i 0] p2 rfl Goes.s fun w4 z4 p4 => ?_
  refine Gn 1 [] J1a8 ?_
  obtain rfl := sj h
  exact R1 Tryz.f133 (.cell 4 27) (.agg #[.i x0, .u 0, .u 0, .u 0, .u 0, .slice Ax1 x1.length cx1, .i 0, .i 0]) (Rn b1 (p4.pa 0 0)) ⟨_, _, _, _, rfl, (z2.t z4), p4.drop, rfl, (fx1.ext (z2.t z4)), rfl⟩

def Q10i := Yq 111000 B131
def J1ac := Zl Q10i (Zb 0 (Ys 1111 B131 []))
def J1ad := Zc Q10i J1ac
def J1af := Ys 11100001 B131 (Ys 1110001 B131 J1ac)
def J1ah := Zb 0 (Ys 1111 B247 [])
def J1ai := Ys 111001 B247 J1ah
def J1aj := Ys 11100111 B247 J1ah
def J1ak := Ys 111 B276 []
def Q10q := Yq 111000 B68
def J1an := Zl Q10q (Zb 0 (Ys 1111 B68 []))
def J1ao := Zc Q10q J1an
def J1au := Ys 11100001 B68 (Ys 1110001 B68 J1an)
def J1ay := Ys 11111 B68 []
def J1b5 := Ys 11111 B131 []
def J1bb := Ys 11111 B198 []
def J1be := Zb 0 J1bb
def J1bf := Ys 11110101 B198 J1be
def J1bh := Ys 111111 B198 []
def Q11h := Yq 111110 B198
def J1bi := Zr Q11h [0, 1, 2, 3, 4, 5] J1bh
def J1bj := Zr Q11h [5] J1bh
def J1bk := Ys 1111010111 B198 J1be
def J1bm := Ys 111101011111 B198 J1be
def J1bo := Ys 11110101111111 B198 J1be
def J1br := Ys 1111010111111111 B198 J1be
def Q11v := Yq 111000 B247
def J1c0 := Ys 11100101 B247 J1ah
def Q11y := Yq 11100110 B247
def J1c4 := Ys 1110011101 B247 J1ah
def J1c6 := Ys 1110011111 B247 J1ah
def J1c8 := Ys 111001111101 B247 J1ah
def Q124 := Yq 111001111100 B247
def J1cb := Ys 111001111111 B247 J1ah
def J1cd := Ys 11100111111101 B247 J1ah
def J1cf := Ys 11100111111111 B247 J1ah
def J1ch := Ys 1110011111111101 B247 J1ah
def J1cj := Ys 1110011111111111 B247 J1ah
def J1cl := Ys 111001111111111101 B247 J1ah
def Q12g := Yq 111001111111111100 B247
def J1co := Ys 11111 B247 []
def Q12i := Yq 11110 B247
def J1cr := Ys 111111 B247 []
def Q12k := Yq 111110 B247
def J1cw := Ys 1101 B276 J1ak
def J1cz := Ys 1111 B276 []
def Q12r := Yq 1110 B276
def J1d4 := Ys 111111 B276 []
def Q12v := Yq 111110 B276
def J1d9 := Ys 11111111 B276 []

def Post.z6s (gx0 : Nat) (r : T26 × T134) (v : Value) (w' : World) : Prop :=
 ∃ S' u9d u1 u2 umv, v = (ag (vT26 r.1 u9d u1 u2)) ∧ Ext S0 w0 S' w' ∧ Hp nz wz S' w' ((some gx0, .row 135 (vT134 r.2 umv) 4 0) :: Lr) ∧ r.1.Set.length = 4 ∧ Rd kT26 S' w' u9d u2 r.1.L ∧ r.1.L.length = u1 ∧ PtO kT138 S' w' umv r.2.bad

def Post.z6t (gx0 : Nat) (r : T26 × T134) (v : Value) (w' : World) : Prop :=
 ∃ S' u9d u1 u2 umv, v = (ag (vT26 r.1 u9d u1 u2)) ∧ Ext S0 w0 S' w' ∧ Hp nz wz S' w' ((some gx0, .row 135 (vT134 r.2 umv) 4 0) :: Lr) ∧ r.1.Set.length = 4 ∧ Rd kT26 S' w' u9d u2 r.1.L ∧ r.1.L.length = u1 ∧ PtO kT138 S' w' umv r.2.bad

def Post.z6u (gx0 : Nat) (r : T26 × T134) (v : Value) (w' : World) : Prop :=
 ∃ S' u9d u1 u2 umv, v = (ag (vT26 r.1 u9d u1 u2)) ∧ Ext S0 w0 S' w' ∧ Hp nz wz S' w' ((some gx0, .row 135 (vT134 r.2 umv) 4 0) :: Lr) ∧ r.1.Set.length = 4 ∧ Rd kT26 S' w' u9d u2 r.1.L ∧ r.1.L.length = u1 ∧ PtO kT138 S' w' umv r.2.bad

def Post.z6v (gx0 : Nat) (r : T26 × T134) (v : Value) (w' : World) : Prop :=
 ∃ S' u9d u1 u2 umv, v = (ag (vT26 r.1 u9d u1 u2)) ∧ Ext S0 w0 S' w' ∧ Hp nz wz S' w' ((some gx0, .row 135 (vT134 r.2 umv) 4 0) :: Lr) ∧ r.1.Set.length = 4 ∧ Rd kT26 S' w' u9d u2 r.1.L ∧ r.1.L.length = u1 ∧ PtO kT138 S' w' umv r.2.bad

def Post.z6w (gx0 : Nat) (r : T26 × T134) (v : Value) (w' : World) : Prop :=
 ∃ S' u9d u1 u2 umv, v = (ag (vT26 r.1 u9d u1 u2)) ∧ Ext S0 w0 S' w' ∧ Hp nz wz S' w' ((some gx0, .row 135 (vT134 r.2 umv) 4 0) :: Lr) ∧ r.1.Set.length = 4 ∧ Rd kT26 S' w' u9d u2 r.1.L ∧ r.1.L.length = u1 ∧ PtO kT138 S' w' umv r.2.bad

def LF.z6s : T134 → (T26 × T134) → Prop := fun x0v r => ∀ {nz wz S0 w0 Lr} gx0 umx (_ : Hp nz wz S0 w0 ((some gx0, .row 135 (vT134 x0v umx) 4 0) :: Lr)) (_ : PtO kT138 S0 w0 umx x0v.bad),
 Calls Tryz.prog 68 #[(pt gx0 0)] w0 (Rets (Post.z6s nz wz S0 w0 Lr gx0 r))

def LF.z6t : T134 → (T26 × T134) → Prop := fun x0v r => ∀ {nz wz S0 w0 Lr} gx0 umx (_ : Hp nz wz S0 w0 ((some gx0, .row 135 (vT134 x0v umx) 4 0) :: Lr)) (_ : PtO kT138 S0 w0 umx x0v.bad),
 Calls Tryz.prog 131 #[(pt gx0 0)] w0 (Rets (Post.z6t nz wz S0 w0 Lr gx0 r))

def L.z6x (gx0 : Nat) : T26 × (List T26) × T134 → (T26 × T134) → Prop := fun ⟨x2v, x3, e0v⟩ r => ∀ S1 w1, Ext S0 w0 S1 w1 → ∀ gx2 u9q u8q u8r u9r Gx3 nx3 cx3 u2l umv (_ : Hp nz wz S1 w1 ((some gx2, .row 27 (vT26 x2v (Gp u9q) u8q u8r) 8 0) :: (u9q, .row 27 u9r (u8r * kT26.size) 0) :: (Gx3, .row 27 u2l (cx3 * kT26.size) 0) :: (some gx0, .row 135 (vT134 e0v umv) 4 0) :: Lr)) (_ : x2v.Set.length = 4) (_ : Els kT26 S1 w1 u9r x2v.L) (_ : x2v.L.length = u8q) (_ : Els kT26 S1 w1 u2l x3) (_ : x3.length = nx3) (_ : PtO kT138 S1 w1 umv e0v.bad) (junk : Nat → Value),
 Goes Tryz.prog (base 131) J1ad ⟨lfr 38 [(0, (pt gx0 0)), (2, (pt gx2 0)), (3, .slice (Gp Gx3) nx3 cx3)] junk, []⟩ w1 (Done Tryz.prog 131 (Rets (Post.z6t nz wz S0 w0 Lr gx0 r)))

def LL.z6x : T26 × (List T26) × T134 → (T26 × T134) → Prop := fun a r => ∀ {nz wz S0 w0 Lr} (gx0 : Nat), L.z6x nz wz S0 w0 Lr gx0 a r

def L.z6y (gx0 : Nat) : T26 × (List T26) × Bool × T134 → (T26 × T134) → Prop := fun ⟨x2v, x3, x30, e0v⟩ r => ∀ S1 w1, Ext S0 w0 S1 w1 → ∀ gx2 u9q u8q u8r u9r Gx3 nx3 cx3 u2l umv (_ : Hp nz wz S1 w1 ((some gx2, .row 27 (vT26 x2v (Gp u9q) u8q u8r) 8 0) :: (u9q, .row 27 u9r (u8r * kT26.size) 0) :: (Gx3, .row 27 u2l (cx3 * kT26.size) 0) :: (some gx0, .row 135 (vT134 e0v umv) 4 0) :: Lr)) (_ : x2v.Set.length = 4) (_ : Els kT26 S1 w1 u9r x2v.L) (_ : x2v.L.length = u8q) (_ : Els kT26 S1 w1 u2l x3) (_ : x3.length = nx3) (_ : PtO kT138 S1 w1 umv e0v.bad) (junk : Nat → Value),
 Goes Tryz.prog (base 131) J1af ⟨lfr 38 [(0, (pt gx0 0)), (2, (pt gx2 0)), (3, .slice (Gp Gx3) nx3 cx3), (30, .bool x30)] junk, []⟩ w1 (Done Tryz.prog 131 (Rets (Post.z6t nz wz S0 w0 Lr gx0 r)))

def LL.z6y : T26 × (List T26) × Bool × T134 → (T26 × T134) → Prop := fun a r => ∀ {nz wz S0 w0 Lr} (gx0 : Nat), L.z6y nz wz S0 w0 Lr gx0 a r

def LF.z6u : T134 → (T26 × T134) → Prop := fun x0v r => ∀ {nz wz S0 w0 Lr} gx0 umx (_ : Hp nz wz S0 w0 ((some gx0, .row 135 (vT134 x0v umx) 4 0) :: Lr)) (_ : PtO kT138 S0 w0 umx x0v.bad),
 Calls Tryz.prog 198 #[(pt gx0 0)] w0 (Rets (Post.z6u nz wz S0 w0 Lr gx0 r))

def LF.z6v : T134 → (T26 × T134) → Prop := fun x0v r => ∀ {nz wz S0 w0 Lr} gx0 umx (_ : Hp nz wz S0 w0 ((some gx0, .row 135 (vT134 x0v umx) 4 0) :: Lr)) (_ : PtO kT138 S0 w0 umx x0v.bad),
 Calls Tryz.prog 247 #[(pt gx0 0)] w0 (Rets (Post.z6v nz wz S0 w0 Lr gx0 r))

def L.z6z (gx0 : Nat) : T26 × Int × Bool × T134 → (T26 × T134) → Prop := fun ⟨x2v, x3, x6, e0v⟩ r => ∀ S1 w1, Ext S0 w0 S1 w1 → ∀ gx2 u9q u8q u8r u9r umv (_ : Hp nz wz S1 w1 ((some gx2, .row 27 (vT26 x2v (Gp u9q) u8q u8r) 8 0) :: (u9q, .row 27 u9r (u8r * kT26.size) 0) :: (some gx0, .row 135 (vT134 e0v umv) 4 0) :: Lr)) (_ : x2v.Set.length = 4) (_ : Els kT26 S1 w1 u9r x2v.L) (_ : x2v.L.length = u8q) (_ : PtO kT138 S1 w1 umv e0v.bad) (junk : Nat → Value),
 Goes Tryz.prog (base 247) J1ai ⟨lfr 73 [(0, (pt gx0 0)), (2, (pt gx2 0)), (3, .int .u8 x3), (6, .bool x6)] junk, []⟩ w1 (Done Tryz.prog 247 (Rets (Post.z6v nz wz S0 w0 Lr gx0 r)))

def LL.z6z : T26 × Int × Bool × T134 → (T26 × T134) → Prop := fun a r => ∀ {nz wz S0 w0 Lr} (gx0 : Nat), L.z6z nz wz S0 w0 Lr gx0 a r

def L.z70 (gx0 : Nat) : T26 × Int × Bool × T134 → (T26 × T134) → Prop := fun ⟨x2v, x3, x24, e0v⟩ r => ∀ S1 w1, Ext S0 w0 S1 w1 → ∀ gx2 u9q u8q u8r u9r umv (_ : Hp nz wz S1 w1 ((some gx2, .row 27 (vT26 x2v (Gp u9q) u8q u8r) 8 0) :: (u9q, .row 27 u9r (u8r * kT26.size) 0) :: (some gx0, .row 135 (vT134 e0v umv) 4 0) :: Lr)) (_ : x2v.Set.length = 4) (_ : Els kT26 S1 w1 u9r x2v.L) (_ : x2v.L.length = u8q) (_ : PtO kT138 S1 w1 umv e0v.bad) (junk : Nat → Value),
 Goes Tryz.prog (base 247) J1aj ⟨lfr 73 [(0, (pt gx0 0)), (2, (pt gx2 0)), (3, .int .u8 x3), (24, .bool x24)] junk, []⟩ w1 (Done Tryz.prog 247 (Rets (Post.z6v nz wz S0 w0 Lr gx0 r)))

def LL.z70 : T26 × Int × Bool × T134 → (T26 × T134) → Prop := fun a r => ∀ {nz wz S0 w0 Lr} (gx0 : Nat), L.z70 nz wz S0 w0 Lr gx0 a r

def LF.z6w : T134 → (T26 × T134) → Prop := fun x0v r => ∀ {nz wz S0 w0 Lr} gx0 umx (_ : Hp nz wz S0 w0 ((some gx0, .row 135 (vT134 x0v umx) 4 0) :: Lr)) (_ : PtO kT138 S0 w0 umx x0v.bad),
 Calls Tryz.prog 276 #[(pt gx0 0)] w0 (Rets (Post.z6w nz wz S0 w0 Lr gx0 r))

def L.z71 (gx0 : Nat) : T26 × T134 → (T26 × T134) → Prop := fun ⟨x2v, e0v⟩ r => ∀ S1 w1, Ext S0 w0 S1 w1 → ∀ gx2 u9q u8q u8r u9r umv (_ : Hp nz wz S1 w1 ((some gx2, .row 27 (vT26 x2v (Gp u9q) u8q u8r) 8 0) :: (u9q, .row 27 u9r (u8r * kT26.size) 0) :: (some gx0, .row 135 (vT134 e0v umv) 4 0) :: Lr)) (_ : x2v.Set.length = 4) (_ : Els kT26 S1 w1 u9r x2v.L) (_ : x2v.L.length = u8q) (_ : PtO kT138 S1 w1 umv e0v.bad) (junk : Nat → Value),
 Goes Tryz.prog (base 276) J1ak ⟨lfr 27 [(0, (pt gx0 0)), (2, (pt gx2 0))] junk, []⟩ w1 (Done Tryz.prog 276 (Rets (Post.z6w nz wz S0 w0 Lr gx0 r)))

def LL.z71 : T26 × T134 → (T26 × T134) → Prop := fun a r => ∀ {nz wz S0 w0 Lr} (gx0 : Nat), L.z71 nz wz S0 w0 Lr gx0 a r

def L.z72 (gx0 : Nat) : T26 × (List T26) × T134 → (T26 × T134) → Prop := fun ⟨x2v, x3, e0v⟩ r => ∀ S1 w1, Ext S0 w0 S1 w1 → ∀ gx2 u9q u8q u8r u9r Gx3 nx3 cx3 u2l umv (_ : Hp nz wz S1 w1 ((some gx2, .row 27 (vT26 x2v (Gp u9q) u8q u8r) 8 0) :: (u9q, .row 27 u9r (u8r * kT26.size) 0) :: (Gx3, .row 27 u2l (cx3 * kT26.size) 0) :: (some gx0, .row 135 (vT134 e0v umv) 4 0) :: Lr)) (_ : x2v.Set.length = 4) (_ : Els kT26 S1 w1 u9r x2v.L) (_ : x2v.L.length = u8q) (_ : Els kT26 S1 w1 u2l x3) (_ : x3.length = nx3) (_ : PtO kT138 S1 w1 umv e0v.bad) (junk : Nat → Value),
 Goes Tryz.prog (base 68) J1ao ⟨lfr 16 [(0, (pt gx0 0)), (2, (pt gx2 0)), (3, .slice (Gp Gx3) nx3 cx3)] junk, []⟩ w1 (Done Tryz.prog 68 (Rets (Post.z6s nz wz S0 w0 Lr gx0 r)))

def LL.z72 : T26 × (List T26) × T134 → (T26 × T134) → Prop := fun a r => ∀ {nz wz S0 w0 Lr} (gx0 : Nat), L.z72 nz wz S0 w0 Lr gx0 a r

theorem W.z73 : (∀ a r, M.a2l a = some r → LF.z6s a r) ∧ (∀ a r, M.a3r a = some r → LL.z72 a r) ∧ (∀ a r, M.a3n a = some r → LF.z6t a r) ∧ (∀ a r, M.a3o a = some r → LL.z6x a r) ∧ (∀ a r, M.a22 a = some r → LL.z6y a r) ∧ (∀ a r, M.a4t a = some r → LF.z6u a r) ∧ (∀ a r, M.a4u a = some r → LF.z6v a r) ∧ (∀ a r, M.a2m a = some r → LL.z6z a r) ∧ (∀ a r, M.a3p a = some r → LL.z70 a r) ∧ (∀ a r, M.a4v a = some r → LF.z6w a r) ∧ (∀ a r, M.a3q a = some r → LL.z71 a r) := by
 refine M.a2l.mutual_partial_correctness LF.z6s LL.z72 LF.z6t LL.z6x LL.z6y LF.z6u LF.z6v LL.z6z LL.z70 LF.z6w LL.z71 ?_ ?_ ?_ ?_ ?_ ?_ ?_ ?_ ?_ ?_ ?_
 ·
  intro usd rec_syntax_parser_sequence use ih_syntax_parser_sequence x0v r h nz wz S0 w0 Lr gx0 umx p0 umy
  try dsimp only at h
  refine Zf Tryz.f68 B68 15 ?_
  refine Gj 16 [(0, (pt gx0 0))] fun junk => ?_
  refine Gn 2 [] (Yt 10 B68 [0] (Ys 11 B68 [])) ?_
  refine Oa 27 2 0 (.agg #[.i 0, .u 0, .u 0, .u 0, .u 0, .slice none 0 0, .i 0, .i 0]) [.i 0, .u 0, .u 0, .u 0, .u 0, .slice none 0 0, .i 0, .i 0] p0 Goes.v fun b2 w2 z2 p2 => ?_
  refine Gn 4 [(4, (pt gx0 0))] (Yt 110 B68 [1, 2, 3] (Ys 111 B68 [])) ?_
  have p2 := p2.fr 1
  refine Gb h fun y4 e5 h => ?_
  refine Gc (kc 131 [4] #[132]) 5 27 131 _ (ih_syntax_parser_sequence x0v y4 e5 _ _ p2 (umy.ext z2)) ?_
  rintro _ w3 ⟨S3, uru, urv, urw, uoz, rfl, z3, p3, urx, ury, rfl, up0⟩
  have f7 : Els kT26 S3 w3 ((vT26 y4.1 uru y4.1.L.length urw) : List Value) [y4.1] := by exact (Els.cons (K := kT26) (vs := (vT26 y4.1 uru y4.1.L.length urw)) (x := y4.1) (kT26_close ⟨[.i y4.1.Kind], (U4 y4.1.Set [.slice uru y4.1.L.length urw, .i y4.1.Min, .i y4.1.Max]), rfl, rfl, ⟨(U4 y4.1.Set []), [.slice uru y4.1.L.length urw, .i y4.1.Min, .i y4.1.Max], rfl, ⟨urx, els_mk4 urx⟩, ⟨[.slice uru y4.1.L.length urw], [.i y4.1.Min, .i y4.1.Max], rfl, ⟨_, _, rfl, ury⟩, ⟨[.i y4.1.Min], [.i y4.1.Max], rfl, rfl, rfl⟩⟩⟩⟩) Els.nil)
  refine Om (.buildSlice 25 1 #[(0, (.tmp 5))]) 6 25 (fun b => .slice (Gp (some b)) 1 1) 27 ((vT26 y4.1 uru y4.1.L.length urw) : List Value) (1 * kT26.size) p3 Goes.v fun b6 w4 z4 p4 => ?_
  refine Gn 5 [(3, .slice (Gp (some b6)) 1 1)] J1ao ?_
  have p4 : Hp nz wz S3 w4 ((none, .row 27 [] (0 * kT26.size) 0) :: ((some b6), .row 27 ((vT26 y4.1 uru y4.1.L.length urw) : List Value) (1 * kT26.size) 0) :: (some gx0, .row 135 (vT134 y4.2 uoz) 4 0) :: (some b2, .row 27 [.i 0, .u 0, .u 0, .u 0, .u 0, .slice none 0 0, .i 0, .i 0] 8 0) :: Lr) := p4.nilRow' 27
  have p4 := (((p4.fr 2).fr 2).fr 2).fr 3
  exact Gj 16 [(0, (pt gx0 0)), (2, (pt b2 0)), (3, .slice (Gp (some b6)) 1 1)] (use _ _ h gx0 _ _ ((z2.t z3).t z4) _ none 0 0 [] (some b6) _ _ _ _ p4 rfl (Els.nil (K := kT26)) rfl (f7.ext z4) rfl (up0.ext z4))
 ·
  intro usd rec_syntax_parser_sequence use ih_syntax_parser_sequence ⟨x2v, x3, e0v⟩ r h nz wz S0 w0 Lr gx0 S1 w1 hx gx2 u9q u8q u8r u9r Gx3 nx3 cx3 u2l umv p1 uco u8s u8t fx3 lx3 umw junk
  try dsimp only at h
  subst u8t
  subst lx3
  refine Gn 4 [(7, (pt gx0 0))] (Yt 11100000 B68 [1] J1au) ?_
  have p1 := p1.fr 3
  refine Gb h fun y13 e14 h => ?_
  refine Gc (.call { callee := .value (.func 132), args := #[(.tmp 7), (.const (.int .u8 124))], argTypes := #[132, 5] }) 8 4 132 _ (W.z5p e0v 124 y13 e14 _ _ p1 umw) ?_
  rintro _ w5 ⟨S5, upj, rfl, z5, p5, upl⟩
  refine Gn 1 [] J1au ?_
  refine Gi h (fun h15 h => ?_) fun h15 h => ?_
  ·
   rw [h15]
   refine Gn 6 [(9, .slice (Gp Gx3) x3.length cx3), (10, (pt gx0 0))] (Yt 11100010 B68 [2, 3, 4, 5] (Zb 1 J1an)) ?_
   refine Gb h fun y16 e17 h => ?_
   refine Gc (kc 131 [10] #[132]) 11 27 131 _ (ih_syntax_parser_sequence y13.2 y16 e17 _ _ p5 upl) ?_
   rintro _ w6 ⟨S6, ua8, u1c, u1d, uq5, rfl, z6, p6, u1f, u1g, rfl, uq6⟩
   have f19 : Els kT26 S6 w6 ((vT26 y16.1 ua8 y16.1.L.length u1d) : List Value) [y16.1] := by exact (Els.cons (K := kT26) (vs := (vT26 y16.1 ua8 y16.1.L.length u1d)) (x := y16.1) (kT26_close ⟨[.i y16.1.Kind], (U4 y16.1.Set [.slice ua8 y16.1.L.length u1d, .i y16.1.Min, .i y16.1.Max]), rfl, rfl, ⟨(U4 y16.1.Set []), [.slice ua8 y16.1.L.length u1d, .i y16.1.Min, .i y16.1.Max], rfl, ⟨u1f, els_mk4 u1f⟩, ⟨[.slice ua8 y16.1.L.length u1d], [.i y16.1.Min, .i y16.1.Max], rfl, ⟨_, _, rfl, u1g⟩, ⟨[.i y16.1.Min], [.i y16.1.Max], rfl, rfl, rfl⟩⟩⟩⟩) Els.nil)
   refine Om (.buildSlice 25 1 #[(0, (.tmp 11))]) 12 25 (fun b => .slice (Gp (some b)) 1 1) 27 ((vT26 y16.1 ua8 y16.1.L.length u1d) : List Value) (1 * kT26.size) p6 Goes.v fun b18 w7 z7 p7 => ?_
   refine Gg h fun g24 h => ?_
   refine On (K := kT26) 25 (.tmp 9) (.tmp 12) 13 25 27 4 (.agg #[.i 0, .u 0, .u 0, .u 0, .u 0, .slice none 0 0, .i 0, .i 0]) 80 x3.length cx3 1 x3 [y16.1] (x3 ++ [y16.1]) (Gp (some b18)) 1 rfl rfl rfl p7 rfl (fx3.ext ((z5.t z6).t z7)) Goes.v (f19.ext z7) (src_own p7 (q := 0) rfl) g24 fun w8 G25 c26 usf z8 p8 f28 => ?_
   refine Gn 4 [(3, .slice (Gp G25) ((x3 ++ [y16.1]).length) c26)] J1ao ?_
   have p8 := p8.dp 0
   have p8 := (((p8.fr 0).fr 3).fr 3).fr 3
   exact Gj 16 [(0, (pt gx0 0)), (2, (pt gx2 0)), (3, .slice (Gp G25) ((x3 ++ [y16.1]).length) c26)] (use _ _ h gx0 _ _ ((((hx.t z5).t z6).t z7).t z8) _ _ _ _ _ _ _ _ _ _ p8 uco (u8s.ext (((z5.t z6).t z7).t z8)) rfl f28 rfl (uq6.ext (z7.t z8)))
  ·
   have u93 := bf h15
   rw [u93]
   refine Gn 5 [(14, .slice (Gp Gx3) x3.length cx3)] (Yt 11110 B68 [1, 2] J1ay) ?_
   obtain ⟨S9, z9, p9, f29⟩ := p5.freezeRd 3 rfl (fx3.ext z5) (by decide)
   refine Gb h fun y30 e31 h => ?_
   refine Gc (.call { callee := .value (.func 133), args := #[(.const (.int .i64 3)), (.tmp 14)], argTypes := #[3, 25] }) 15 27 133 _ (W.z6r 3 x3 y30 e31 _ _ _ p9 f29 rfl) ?_
   rintro _ w10 ⟨S10, uag, uah, uai, rfl, z10, p10, usg, uaj, rfl⟩
   have p10 := p10.dp 3
   refine So 27 (.tmp 2) (.tmp 15) 0 1 gx2 0 (ag (vT26 y30 uag y30.L.length uai)) (vT26 y30 uag y30.L.length uai) p10 rfl Goes.s fun w11 z11 p11 => ?_
   refine Gn 1 [] J1ay ?_
   obtain rfl := sj h
   have p11 := p11.dp 2
   have p11 := (p11.fr 0).fr 1
   exact R1 Tryz.f68 (.cell 2 27) (ag (vT26 y30 uag y30.L.length uai)) (Rn gx2 (p11.pa 0 0)) ⟨_, _, _, _, _, rfl, ((((hx.t z5).t z9).t z10).t z11), p11.drop, usg, (uaj.ext z11), rfl, (upl.ext ((z9.t z10).t z11))⟩
 ·
  intro ush usi x0v r h nz wz S0 w0 Lr gx0 umx p0 umy
  try dsimp only at h
  refine Zf Tryz.f131 B131 37 ?_
  refine Gj 38 [(0, (pt gx0 0))] fun junk => ?_
  refine Gn 2 [] (Yt 10 B131 [0] (Ys 11 B131 [])) ?_
  refine Oa 27 2 0 (.agg #[.i 0, .u 0, .u 0, .u 0, .u 0, .slice none 0 0, .i 0, .i 0]) [.i 0, .u 0, .u 0, .u 0, .u 0, .slice none 0 0, .i 0, .i 0] p0 Goes.v fun b2 w2 z2 p2 => ?_
  refine Gn 8 [(3, .slice none 0 0)] J1ad ?_
  have p2 : Hp nz wz S0 w2 ((none, .row 27 [] (0 * kT26.size) 0) :: (some b2, .row 27 [.i 0, .u 0, .u 0, .u 0, .u 0, .slice none 0 0, .i 0, .i 0] 8 0) :: (some gx0, .row 135 (vT134 x0v umx) 4 0) :: Lr) := p2.nilRow' 27
  have p2 : Hp nz wz S0 w2 ((none, .row 27 [] (0 * kT26.size) 0) :: (none, .row 27 [] (0 * kT26.size) 0) :: (some b2, .row 27 [.i 0, .u 0, .u 0, .u 0, .u 0, .slice (Gp none) 0 0, .i 0, .i 0] 8 0) :: (some gx0, .row 135 (vT134 x0v umx) 4 0) :: Lr) := p2.nilRow' 27
  have p2 := (((p2.fr 3).fr 1).fr 2).fr 3
  exact Gj 38 [(0, (pt gx0 0)), (2, (pt b2 0)), (3, .slice (Gp none) 0 0)] (usi _ _ h gx0 _ _ z2 _ none 0 0 [] none 0 0 [] _ p2 rfl (Els.nil (K := kT26)) rfl (Els.nil (K := kT26)) rfl (umy.ext z2))
 ·
  intro usj usk ⟨x2v, x3, e0v⟩ r h nz wz S0 w0 Lr gx0 S1 w1 hx gx2 u9q u8q u8r u9r Gx3 nx3 cx3 u2l umv p1 uco u8s u8t fx3 lx3 umw junk
  try dsimp only at h
  subst u8t
  subst lx3
  refine Gn 2 [] (Ys 11100000 B131 J1af) ?_
  have z3 : Ext S1 w1 S1 (w1).drew := Ext.draw
  have p3 := p1.draw
  refine Gd [19, 24] (Fc S1 (w1).drew [(⟨gx0, 3, none⟩, umv), (⟨gx0, 1, none⟩, .i e0v.at_), (⟨gx0, 0, none⟩, .string e0v.s)]) 2 27 ?_
  generalize (w1).drew = w3 at z3 p3 ⊢
  refine AnyG.pu 0 (.move (.tmp 0)) 4 132 ((pt gx0 0)) (Fc.here (p3.cs [(3, 3, 1), (3, 1, 1), (3, 0, 1)])) ?_
  refine AnyG.pu 1 (.nilCheck (.tmp 4)) 5 0 ((pt gx0 0)) (Fc.here (p3.cs [(3, 3, 1), (3, 1, 1), (3, 0, 1)])) ?_
  refine AnyG.pu 2 (.fieldAddr 135 (.tmp 5) 3) 6 0 ((pt gx0 3)) (Fc.here (p3.cs [(3, 3, 1), (3, 1, 1), (3, 0, 1)])) ?_
  refine Al 3 133 (.tmp 6) 7 133 ⟨gx0, 3, none⟩ (umv) (Fc.here (p3.cs [(3, 3, 1), (3, 1, 1), (3, 0, 1)])) (fun _ h => h.2.at_ 0 rfl) ?_
  refine Gl h fun v24 h9 h => ?_
  rcases v24 with _ | y10
  ·
   try dsimp only at h
   obtain rfl := PtO.nil (umw.ext z3) h9
   refine AnyG.pu 4 (.binOp .eql 133 (.tmp 7) (.const (.pointer none)) 133) 8 4 (.bool true) (Fc.here (p3.cs [(3, 3, 1), (3, 1, 1), (3, 0, 1)])) ?_
   refine AnyG.pu 5 (.move (.tmp 8)) 9 4 (.bool true) (Fc.here (p3.cs [(3, 3, 1), (3, 1, 1), (3, 0, 1)])) ?_
   refine AnyG.pu 6 (.move (.tmp 0)) 10 132 ((pt gx0 0)) (Fc.here (p3.cs [(3, 3, 1), (3, 1, 1), (3, 0, 1)])) ?_
   refine AnyG.pu 7 (.nilCheck (.tmp 10)) 11 0 ((pt gx0 0)) (Fc.here (p3.cs [(3, 3, 1), (3, 1, 1), (3, 0, 1)])) ?_
   refine AnyG.pu 8 (.fieldAddr 135 (.tmp 11) 1) 12 0 ((pt gx0 1)) (Fc.here (p3.cs [(3, 3, 1), (3, 1, 1), (3, 0, 1)])) ?_
   refine Al 9 3 (.tmp 12) 13 3 ⟨gx0, 1, none⟩ (.i e0v.at_) (Fc.here (p3.cs [(3, 3, 1), (3, 1, 1), (3, 0, 1)])) (fun _ h => h.2.at_ 1 rfl) ?_
   refine AnyG.pu 10 (.move (.tmp 0)) 14 132 ((pt gx0 0)) (Fc.here (p3.cs [(3, 3, 1), (3, 1, 1), (3, 0, 1)])) ?_
   refine AnyG.pu 11 (.nilCheck (.tmp 14)) 15 0 ((pt gx0 0)) (Fc.here (p3.cs [(3, 3, 1), (3, 1, 1), (3, 0, 1)])) ?_
   refine AnyG.pu 12 (.fieldAddr 135 (.tmp 15) 0) 16 0 ((pt gx0 0)) (Fc.here (p3.cs [(3, 3, 1), (3, 1, 1), (3, 0, 1)])) ?_
   refine Al 13 9 (.tmp 16) 17 9 ⟨gx0, 0, none⟩ (.string e0v.s) (Fc.here (p3.cs [(3, 3, 1), (3, 1, 1), (3, 0, 1)])) (fun _ h => h.2.at_ 2 rfl) ?_
   refine AnyG.pu 14 (.call { callee := .builtin .len, args := #[(.tmp 17)], argTypes := #[9] }) 18 3 (.i (e0v.s.size : Int)) (Fc.here (p3.cs [(3, 3, 1), (3, 1, 1), (3, 0, 1)])) ?_
   refine AnyG.pu 15 (.binOp .lss 3 (.tmp 13) (.tmp 18) 3) 19 4 (.bool (decide (e0v.at_ < (e0v.s.size : Int)))) (Fc.here (p3.cs [(3, 3, 1), (3, 1, 1), (3, 0, 1)])) ?_
   refine AnyG.pu 16 (.pick (.tmp 9) (.tmp 19) (.const (.bool false))) 20 4 (.bool (decide (e0v.at_ < (e0v.s.size : Int)))) (Fc.here (p3.cs [(3, 3, 1), (3, 1, 1), (3, 0, 1)])) ?_
   refine AnyG.pu 17 (.move (.tmp 20)) 21 4 (.bool (decide (e0v.at_ < (e0v.s.size : Int)))) (Fc.here (p3.cs [(3, 3, 1), (3, 1, 1), (3, 0, 1)])) ?_
   refine Gi h (fun h15 h => ?_) fun h15 h => ?_
   ·
    rw [dt h15]
    refine AnyG.pu 18 (.move (.tmp 0)) 22 132 ((pt gx0 0)) (Fc.here (p3.cs [(3, 3, 1), (3, 1, 1), (3, 0, 1)])) ?_
    have p3 := p3.fr 3
    refine Gb h fun y16 e17 h => ?_
    refine Oc (kc 197 [22] #[132]) 23 5 197 #[(pt gx0 0)] (Ac 19) (W.z5m (⟨e0v.s, e0v.at_, e0v.deep, none⟩ : T134) y16 e17 _ (.pointer none) p3 rfl) ?_
    rintro _ w4 ⟨S4, uoo, rfl, z4, p4, uor⟩
    refine AnyG.last [24] (Fc S4 w4 []) (by decide) ?_
    refine AnyG.pu 20 (.binOp .neq 5 (.tmp 23) (.const (.int .u8 124)) 5) 24 4 (.bool (!(decide (y16.1 = 124)))) (Fc.here trivial) ?_
    refine AnyG.pu 21 (.pick (.tmp 21) (.tmp 24) (.const (.bool false))) 25 4 (.bool (!(decide (y16.1 = 124)))) (Fc.here trivial) ?_
    refine AnyG.pu 22 (.move (.tmp 25)) 26 4 (.bool (!(decide (y16.1 = 124)))) (Fc.here trivial) ?_
    refine Gi h (fun h18 h => ?_) fun h18 h => ?_
    ·
     rw [dt h18]
     refine AnyG.s1 23 27 (Fc.here trivial) ?_
     refine Ak 24 28 ?_
     refine AnyG.s1 25 29 (Fc.here trivial) ?_
     refine AnyG.pu 26 (.pick (.tmp 26) (.tmp 29) (.const (.bool false))) 30 4 (.bool false) (Fc.here trivial) ?_
     refine Ad ?_
     have p4 := (((p4.fr 0).fr 3).fr 3).fr 3
     exact Gj 38 [(0, (pt gx0 0)), (2, (pt gx2 0)), (3, .slice (Gp Gx3) x3.length cx3), (30, .bool false)] (usk _ _ h gx0 _ _ ((hx.t z3).t z4) _ _ _ _ _ _ _ _ _ _ p4 uco (u8s.ext (z3.t z4)) rfl (fx3.ext (z3.t z4)) rfl uor)
    ·
     rw [df h18]
     refine AnyG.pu 23 (.move (.tmp 0)) 27 132 ((pt gx0 0)) (Fc.here trivial) ?_
     refine Gb h fun y22 e23 h => ?_
     refine Oc (kc 197 [27] #[132]) 28 5 197 #[(pt gx0 0)] (Ac 24) (W.z5m y16.2 y22 e23 _ _ p4 uor) ?_
     rintro _ w5 ⟨S5, upj, rfl, z5, p5, upl⟩
     refine AnyG.last [] (Fc S5 w5 []) (by decide) ?_
     refine AnyG.pu 25 (.binOp .neq 5 (.tmp 28) (.const (.int .u8 41)) 5) 29 4 (.bool (!(decide (y22.1 = 41)))) (Fc.here trivial) ?_
     refine AnyG.pu 26 (.pick (.tmp 26) (.tmp 29) (.const (.bool false))) 30 4 (.bool (!(decide (y22.1 = 41)))) (Fc.here trivial) ?_
     refine Ad ?_
     have p5 := (((p5.fr 0).fr 3).fr 3).fr 3
     exact Gj 38 [(0, (pt gx0 0)), (2, (pt gx2 0)), (3, .slice (Gp Gx3) x3.length cx3), (30, .bool (!(decide (y22.1 = 41))))] (usk _ _ h gx0 _ _ (((hx.t z3).t z4).t z5) _ _ _ _ _ _ _ _ _ _ p5 uco (u8s.ext ((z3.t z4).t z5)) rfl (fx3.ext ((z3.t z4).t z5)) rfl upl)
   ·
    rw [df h15]
    refine AnyG.s1 18 22 (Fc.here (p3.cs [(3, 3, 1), (3, 1, 1), (3, 0, 1)])) ?_
    refine Ak 19 23 ?_
    refine AnyG.s1 20 24 (Fc.here (p3.cs [(3, 3, 1), (3, 1, 1), (3, 0, 1)])) ?_
    refine AnyG.pu 21 (.pick (.tmp 21) (.tmp 24) (.const (.bool false))) 25 4 (.bool false) (Fc.here (p3.cs [(3, 3, 1), (3, 1, 1), (3, 0, 1)])) ?_
    refine AnyG.pu 22 (.move (.tmp 25)) 26 4 (.bool false) (Fc.here (p3.cs [(3, 3, 1), (3, 1, 1), (3, 0, 1)])) ?_
    refine AnyG.s1 23 27 (Fc.here (p3.cs [(3, 3, 1), (3, 1, 1), (3, 0, 1)])) ?_
    refine Ak 24 28 ?_
    refine AnyG.s1 25 29 (Fc.here (p3.cs [(3, 3, 1), (3, 1, 1), (3, 0, 1)])) ?_
    refine AnyG.pu 26 (.pick (.tmp 26) (.tmp 29) (.const (.bool false))) 30 4 (.bool false) (Fc.here (p3.cs [(3, 3, 1), (3, 1, 1), (3, 0, 1)])) ?_
    refine Ad ?_
    exact Gj 38 [(0, (pt gx0 0)), (2, (pt gx2 0)), (3, .slice (Gp Gx3) x3.length cx3), (30, .bool false)] (usk _ _ h gx0 _ _ (hx.t z3) _ _ _ _ _ _ _ _ _ (.pointer none) p3 uco (u8s.ext z3) rfl (fx3.ext z3) rfl rfl)
  ·
   try dsimp only at h
   obtain ⟨a12, _, rfl, -, f13, q14⟩ := PtO.got (umw.ext z3) h9
   obtain rfl := q14
   refine AnyG.pu 4 (.binOp .eql 133 (.tmp 7) (.const (.pointer none)) 133) 8 4 (.bool false) (Fc.here (p3.cs [(3, 3, 1), (3, 1, 1), (3, 0, 1)])) ?_
   refine AnyG.pu 5 (.move (.tmp 8)) 9 4 (.bool false) (Fc.here (p3.cs [(3, 3, 1), (3, 1, 1), (3, 0, 1)])) ?_
   refine AnyG.s1 6 10 (Fc.here (p3.cs [(3, 3, 1), (3, 1, 1), (3, 0, 1)])) ?_
   refine AnyG.s1 7 11 (Fc.here (p3.cs [(3, 3, 1), (3, 1, 1), (3, 0, 1)])) ?_
   refine AnyG.s1 8 12 (Fc.here (p3.cs [(3, 3, 1), (3, 1, 1), (3, 0, 1)])) ?_
   refine AnyG.s1 9 13 (Fc.here (p3.cs [(3, 3, 1), (3, 1, 1), (3, 0, 1)])) ?_
   refine AnyG.s1 10 14 (Fc.here (p3.cs [(3, 3, 1), (3, 1, 1), (3, 0, 1)])) ?_
   refine AnyG.s1 11 15 (Fc.here (p3.cs [(3, 3, 1), (3, 1, 1), (3, 0, 1)])) ?_
   refine AnyG.s1 12 16 (Fc.here (p3.cs [(3, 3, 1), (3, 1, 1), (3, 0, 1)])) ?_
   refine AnyG.s1 13 17 (Fc.here (p3.cs [(3, 3, 1), (3, 1, 1), (3, 0, 1)])) ?_
   refine AnyG.s1 14 18 (Fc.here (p3.cs [(3, 3, 1), (3, 1, 1), (3, 0, 1)])) ?_
   refine AnyG.s1 15 19 (Fc.here (p3.cs [(3, 3, 1), (3, 1, 1), (3, 0, 1)])) ?_
   refine AnyG.pu 16 (.pick (.tmp 9) (.tmp 19) (.const (.bool false))) 20 4 (.bool false) (Fc.here (p3.cs [(3, 3, 1), (3, 1, 1), (3, 0, 1)])) ?_
   refine AnyG.pu 17 (.move (.tmp 20)) 21 4 (.bool false) (Fc.here (p3.cs [(3, 3, 1), (3, 1, 1), (3, 0, 1)])) ?_
   refine AnyG.s1 18 22 (Fc.here (p3.cs [(3, 3, 1), (3, 1, 1), (3, 0, 1)])) ?_
   refine Ak 19 23 ?_
   refine AnyG.s1 20 24 (Fc.here (p3.cs [(3, 3, 1), (3, 1, 1), (3, 0, 1)])) ?_
   refine AnyG.pu 21 (.pick (.tmp 21) (.tmp 24) (.const (.bool false))) 25 4 (.bool false) (Fc.here (p3.cs [(3, 3, 1), (3, 1, 1), (3, 0, 1)])) ?_
   refine AnyG.pu 22 (.move (.tmp 25)) 26 4 (.bool false) (Fc.here (p3.cs [(3, 3, 1), (3, 1, 1), (3, 0, 1)])) ?_
   refine AnyG.s1 23 27 (Fc.here (p3.cs [(3, 3, 1), (3, 1, 1), (3, 0, 1)])) ?_
   refine Ak 24 28 ?_
   refine AnyG.s1 25 29 (Fc.here (p3.cs [(3, 3, 1), (3, 1, 1), (3, 0, 1)])) ?_
   refine AnyG.pu 26 (.pick (.tmp 26) (.tmp 29) (.const (.bool false))) 30 4 (.bool false) (Fc.here (p3.cs [(3, 3, 1), (3, 1, 1), (3, 0, 1)])) ?_
   refine Ad ?_
   exact Gj 38 [(0, (pt gx0 0)), (2, (pt gx2 0)), (3, .slice (Gp Gx3) x3.length cx3), (30, .bool false)] (usk _ _ h gx0 _ _ (hx.t z3) _ _ _ _ _ _ _ _ _ _ p3 uco (u8s.ext z3) rfl (fx3.ext z3) rfl ⟨_, _, rfl, List.cons_ne_nil _ _, f13, rfl⟩)
 ·
  intro ush rec_syntax_parser_piece usi ih_syntax_parser_piece ⟨x2v, x3, x30, e0v⟩ r h nz wz S0 w0 Lr gx0 S1 w1 hx gx2 u9q u8q u8r u9r Gx3 nx3 cx3 u2l umv p1 uco u8s u8t fx3 lx3 umw junk
  try dsimp only at h
  subst u8t
  subst lx3
  refine Gi h (fun h25 h => ?_) fun h25 h => ?_
  ·
   rw [h25]
   refine Gn 6 [(31, .slice (Gp Gx3) x3.length cx3), (32, (pt gx0 0))] (Yt 11100010 B131 [2, 3, 4, 5] (Zb 1 J1ac)) ?_
   have p1 := p1.fr 3
   refine Gb h fun y26 e27 h => ?_
   refine Gc (kc 198 [32] #[132]) 33 27 198 _ (ih_syntax_parser_piece e0v y26 e27 _ _ p1 umw) ?_
   rintro _ w6 ⟨S6, ua8, u1c, u1d, uq5, rfl, z6, p6, u1f, u1g, rfl, uq6⟩
   have f29 : Els kT26 S6 w6 ((vT26 y26.1 ua8 y26.1.L.length u1d) : List Value) [y26.1] := by exact (Els.cons (K := kT26) (vs := (vT26 y26.1 ua8 y26.1.L.length u1d)) (x := y26.1) (kT26_close ⟨[.i y26.1.Kind], (U4 y26.1.Set [.slice ua8 y26.1.L.length u1d, .i y26.1.Min, .i y26.1.Max]), rfl, rfl, ⟨(U4 y26.1.Set []), [.slice ua8 y26.1.L.length u1d, .i y26.1.Min, .i y26.1.Max], rfl, ⟨u1f, els_mk4 u1f⟩, ⟨[.slice ua8 y26.1.L.length u1d], [.i y26.1.Min, .i y26.1.Max], rfl, ⟨_, _, rfl, u1g⟩, ⟨[.i y26.1.Min], [.i y26.1.Max], rfl, rfl, rfl⟩⟩⟩⟩) Els.nil)
   refine Om (.buildSlice 25 1 #[(0, (.tmp 33))]) 34 25 (fun b => .slice (Gp (some b)) 1 1) 27 ((vT26 y26.1 ua8 y26.1.L.length u1d) : List Value) (1 * kT26.size) p6 Goes.v fun b28 w7 z7 p7 => ?_
   refine Gg h fun g34 h => ?_
   refine On (K := kT26) 25 (.tmp 31) (.tmp 34) 35 25 27 4 (.agg #[.i 0, .u 0, .u 0, .u 0, .u 0, .slice none 0 0, .i 0, .i 0]) 80 x3.length cx3 1 x3 [y26.1] (x3 ++ [y26.1]) (Gp (some b28)) 1 rfl rfl rfl p7 rfl (fx3.ext (z6.t z7)) Goes.v (f29.ext z7) (src_own p7 (q := 0) rfl) g34 fun w8 G35 c36 uho z8 p8 f38 => ?_
   refine Gn 4 [(3, .slice (Gp G35) ((x3 ++ [y26.1]).length) c36)] J1ad ?_
   have p8 := p8.dp 0
   have p8 := (((p8.fr 0).fr 3).fr 3).fr 3
   exact Gj 38 [(0, (pt gx0 0)), (2, (pt gx2 0)), (3, .slice (Gp G35) ((x3 ++ [y26.1]).length) c36)] (usi _ _ h gx0 _ _ (((hx.t z6).t z7).t z8) _ _ _ _ _ _ _ _ _ _ p8 uco (u8s.ext ((z6.t z7).t z8)) rfl f38 rfl (uq6.ext (z7.t z8)))
  ·
   rw [bf h25]
   refine Gn 5 [(36, .slice (Gp Gx3) x3.length cx3)] (Yt 11110 B131 [1, 2] J1b5) ?_
   obtain ⟨S9, z9, p9, f39⟩ := p1.freezeRd 2 rfl fx3 (by decide)
   refine Gb h fun y40 e41 h => ?_
   refine Gc (.call { callee := .value (.func 133), args := #[(.const (.int .i64 2)), (.tmp 36)], argTypes := #[3, 25] }) 37 27 133 _ (W.z6r 2 x3 y40 e41 _ _ _ p9 f39 rfl) ?_
   rintro _ w10 ⟨S10, uag, uah, uai, rfl, z10, p10, usg, uaj, rfl⟩
   have p10 := p10.dp 2
   refine So 27 (.tmp 2) (.tmp 37) 0 0 gx2 0 (ag (vT26 y40 uag y40.L.length uai)) (vT26 y40 uag y40.L.length uai) p10 rfl Goes.s fun w11 z11 p11 => ?_
   refine Gn 1 [] J1b5 ?_
   obtain rfl := sj h
   have p11 := p11.dp 1
   exact R1 Tryz.f131 (.cell 2 27) (ag (vT26 y40 uag y40.L.length uai)) (Rn gx2 (p11.pa 0 0)) ⟨_, _, _, _, _, rfl, (((hx.t z9).t z10).t z11), p11.drop, usg, (uaj.ext z11), rfl, (umw.ext ((z9.t z10).t z11))⟩
 ·
  intro rec_syntax_parser_atom ih_syntax_parser_atom x0v r h nz wz S0 w0 Lr gx0 umx p0 umy
  try dsimp only at h
  refine Zf Tryz.f198 B198 36 ?_
  refine Gj 37 [(0, (pt gx0 0))] fun junk => ?_
  refine Gn 2 [] (Yt 10 B198 [0] (Ys 11 B198 [])) ?_
  refine Oa 27 2 0 (.agg #[.i 0, .u 0, .u 0, .u 0, .u 0, .slice none 0 0, .i 0, .i 0]) [.i 0, .u 0, .u 0, .u 0, .u 0, .slice none 0 0, .i 0, .i 0] p0 Goes.v fun b2 w2 z2 p2 => ?_
  refine Gn 4 [(7, (pt gx0 0))] (Yt 110 B198 [1, 2, 3] (Ys 111 B198 [])) ?_
  have p2 := p2.fr 1
  refine Gb h fun y4 e5 h => ?_
  refine Gc (kc 247 [7] #[132]) 8 27 247 _ (ih_syntax_parser_atom x0v y4 e5 _ _ p2 (umy.ext z2)) ?_
  rintro _ w3 ⟨S3, uru, urv, urw, uoz, rfl, z3, p3, urx, ury, rfl, up0⟩
  refine Oa 27 3 0 (.agg #[.i 0, .u 0, .u 0, .u 0, .u 0, .slice none 0 0, .i 0, .i 0]) [.i 0, .u 0, .u 0, .u 0, .u 0, .slice none 0 0, .i 0, .i 0] p3 Goes.v fun b6 w4 z4 p4 => ?_
  refine So 27 (.tmp 3) (.tmp 8) 0 0 b6 0 (ag (vT26 y4.1 uru y4.1.L.length urw)) (vT26 y4.1 uru y4.1.L.length urw) p4 rfl Goes.s fun w5 z5 p5 => ?_
  refine Gm 12 [([4, 5], .i 1), ([9, 10], (pt gx0 0)), ([11], (pt gx0 1))] (Yt 111100 B198 [3, 4] (Ys 111101 B198 J1bb)) ?_
  refine Goes.ld 3 (.tmp 11) 12 3 ⟨gx0, 1, none⟩ (.i y4.2.at_) (p5.c 1 1) ?_
  refine Gn 6 [(6, .i y4.2.at_), (15, (pt gx0 0))] (Yt 11110100 B198 [1, 2] J1bf) ?_
  have p5 := p5.fr 1
  refine Gb h fun y8 e9 h => ?_
  refine Gc (.call { callee := .value (.func 132), args := #[(.tmp 15), (.const (.int .u8 42))], argTypes := #[132, 5] }) 16 4 132 _ (W.z5p y4.2 42 y8 e9 _ _ p5 (up0.ext (z4.t z5))) ?_
  rintro _ w6 ⟨S6, uq5, rfl, z6, p6, uq6⟩
  refine Gn 2 [(14, .bool y8.1)] J1bf ?_
  refine Gi h (fun h10 h => ?_) fun h10 h => ?_
  ·
   rw [h10]
   refine Gn 8 [(4, .i 0), (5, .i (-1))] J1bi ?_
   refine Goes.ldN 27 (.tmp 3) 32 27 ⟨b6, 0, none⟩ (vT26 y4.1 uru y4.1.L.length urw) (p6.pa 1 0) ?_
   have f12 : Els kT26 S6 w6 ((vT26 y4.1 uru y4.1.L.length urw) : List Value) [y4.1] := by exact (Els.cons (K := kT26) (vs := (vT26 y4.1 uru y4.1.L.length urw)) (x := y4.1) (kT26_close ⟨[.i y4.1.Kind], (U4 y4.1.Set [.slice uru y4.1.L.length urw, .i y4.1.Min, .i y4.1.Max]), rfl, rfl, ⟨(U4 y4.1.Set []), [.slice uru y4.1.L.length urw, .i y4.1.Min, .i y4.1.Max], rfl, ⟨urx, els_mk4 urx⟩, ⟨[.slice uru y4.1.L.length urw], [.i y4.1.Min, .i y4.1.Max], rfl, ⟨_, _, rfl, (ury.ext ((z4.t z5).t z6))⟩, ⟨[.i y4.1.Min], [.i y4.1.Max], rfl, rfl, rfl⟩⟩⟩⟩) Els.nil)
   refine Om (.buildSlice 25 1 #[(0, (.tmp 32))]) 33 25 (fun b => .slice (Gp (some b)) 1 1) 27 ((vT26 y4.1 uru y4.1.L.length urw) : List Value) (1 * kT26.size) p6 Goes.v fun b11 w7 z7 p7 => ?_
   refine Gn 3 [(34, .i 0), (35, .i (-1)), (36, .agg #[.i 4, .u 0, .u 0, .u 0, .u 0, .slice (Gp (some b11)) 1 1, .i 0, .i (-1)])] J1bj ?_
   refine So 27 (.tmp 2) (.tmp 36) 0 3 b2 0 (.agg #[.i 4, .u 0, .u 0, .u 0, .u 0, .slice (Gp (some b11)) 1 1, .i 0, .i (-1)]) [.i 4, .u 0, .u 0, .u 0, .u 0, .slice (Gp (some b11)) 1 1, .i 0, .i (-1)] p7 rfl Goes.s fun w8 z8 p8 => ?_
   refine Gn 1 [] J1bh ?_
   obtain ⟨S9, z9, p9, f14⟩ := p8.freezeRd 0 rfl (f12.ext (z7.t z8)) (by decide)
   obtain rfl := sj h
   have p9 := (p9.dp 0).dp 1
   have p9 := (p9.fr 0).fr 1
   exact R1 Tryz.f198 (.cell 2 27) (.agg #[.i 4, .u 0, .u 0, .u 0, .u 0, .slice (Gp (some b11)) 1 1, .i 0, .i (-1)]) (Rn b2 (p9.pa 0 0)) ⟨_, _, _, _, _, rfl, (((((((z2.t z3).t z4).t z5).t z6).t z7).t z8).t z9), p9.drop, rfl, f14, rfl, (uq6.ext ((z7.t z8).t z9))⟩
  ·
   rw [bf h10]
   refine Gn 4 [(18, (pt gx0 0))] (Yt 1111010110 B198 [1, 2] J1bk) ?_
   refine Gb h fun y15 e16 h => ?_
   refine Gc (.call { callee := .value (.func 132), args := #[(.tmp 18), (.const (.int .u8 43))], argTypes := #[132, 5] }) 19 4 132 _ (W.z5p y8.2 43 y15 e16 _ _ p6 uq6) ?_
   rintro _ w10 ⟨S10, up3, rfl, z10, p10, up4⟩
   refine Gn 2 [(17, .bool y15.1)] J1bk ?_
   refine Gi h (fun h17 h => ?_) fun h17 h => ?_
   ·
    rw [h17]
    refine Gn 7 [(5, .i (-1))] J1bi ?_
    refine Goes.ldN 27 (.tmp 3) 32 27 ⟨b6, 0, none⟩ (vT26 y4.1 uru y4.1.L.length urw) (p10.pa 1 0) ?_
    have f19 : Els kT26 S10 w10 ((vT26 y4.1 uru y4.1.L.length urw) : List Value) [y4.1] := by exact (Els.cons (K := kT26) (vs := (vT26 y4.1 uru y4.1.L.length urw)) (x := y4.1) (kT26_close ⟨[.i y4.1.Kind], (U4 y4.1.Set [.slice uru y4.1.L.length urw, .i y4.1.Min, .i y4.1.Max]), rfl, rfl, ⟨(U4 y4.1.Set []), [.slice uru y4.1.L.length urw, .i y4.1.Min, .i y4.1.Max], rfl, ⟨urx, els_mk4 urx⟩, ⟨[.slice uru y4.1.L.length urw], [.i y4.1.Min, .i y4.1.Max], rfl, ⟨_, _, rfl, (ury.ext (((z4.t z5).t z6).t z10))⟩, ⟨[.i y4.1.Min], [.i y4.1.Max], rfl, rfl, rfl⟩⟩⟩⟩) Els.nil)
    refine Om (.buildSlice 25 1 #[(0, (.tmp 32))]) 33 25 (fun b => .slice (Gp (some b)) 1 1) 27 ((vT26 y4.1 uru y4.1.L.length urw) : List Value) (1 * kT26.size) p10 Goes.v fun b18 w11 z11 p11 => ?_
    refine Gn 3 [(34, .i 1), (35, .i (-1)), (36, .agg #[.i 4, .u 0, .u 0, .u 0, .u 0, .slice (Gp (some b18)) 1 1, .i 1, .i (-1)])] J1bj ?_
    refine So 27 (.tmp 2) (.tmp 36) 0 3 b2 0 (.agg #[.i 4, .u 0, .u 0, .u 0, .u 0, .slice (Gp (some b18)) 1 1, .i 1, .i (-1)]) [.i 4, .u 0, .u 0, .u 0, .u 0, .slice (Gp (some b18)) 1 1, .i 1, .i (-1)] p11 rfl Goes.s fun w12 z12 p12 => ?_
    refine Gn 1 [] J1bh ?_
    obtain ⟨S13, z13, p13, f21⟩ := p12.freezeRd 0 rfl (f19.ext (z11.t z12)) (by decide)
    obtain rfl := sj h
    have p13 := (p13.dp 0).dp 1
    have p13 := (p13.fr 0).fr 1
    exact R1 Tryz.f198 (.cell 2 27) (.agg #[.i 4, .u 0, .u 0, .u 0, .u 0, .slice (Gp (some b18)) 1 1, .i 1, .i (-1)]) (Rn b2 (p13.pa 0 0)) ⟨_, _, _, _, _, rfl, ((((((((z2.t z3).t z4).t z5).t z6).t z10).t z11).t z12).t z13), p13.drop, rfl, f21, rfl, (up4.ext ((z11.t z12).t z13))⟩
   ·
    rw [bf h17]
    refine Gn 4 [(21, (pt gx0 0))] (Yt 111101011110 B198 [1, 2] J1bm) ?_
    refine Gb h fun y22 e23 h => ?_
    refine Gc (.call { callee := .value (.func 132), args := #[(.tmp 21), (.const (.int .u8 63))], argTypes := #[132, 5] }) 22 4 132 _ (W.z5p y15.2 63 y22 e23 _ _ p10 up4) ?_
    rintro _ w14 ⟨S14, usm, rfl, z14, p14, usn⟩
    refine Gn 2 [(20, .bool y22.1)] J1bm ?_
    refine Gi h (fun h24 h => ?_) fun h24 h => ?_
    ·
     rw [h24]
     refine Gn 7 [(4, .i 0)] J1bi ?_
     refine Goes.ldN 27 (.tmp 3) 32 27 ⟨b6, 0, none⟩ (vT26 y4.1 uru y4.1.L.length urw) (p14.pa 1 0) ?_
     have f26 : Els kT26 S14 w14 ((vT26 y4.1 uru y4.1.L.length urw) : List Value) [y4.1] := by exact (Els.cons (K := kT26) (vs := (vT26 y4.1 uru y4.1.L.length urw)) (x := y4.1) (kT26_close ⟨[.i y4.1.Kind], (U4 y4.1.Set [.slice uru y4.1.L.length urw, .i y4.1.Min, .i y4.1.Max]), rfl, rfl, ⟨(U4 y4.1.Set []), [.slice uru y4.1.L.length urw, .i y4.1.Min, .i y4.1.Max], rfl, ⟨urx, els_mk4 urx⟩, ⟨[.slice uru y4.1.L.length urw], [.i y4.1.Min, .i y4.1.Max], rfl, ⟨_, _, rfl, (ury.ext ((((z4.t z5).t z6).t z10).t z14))⟩, ⟨[.i y4.1.Min], [.i y4.1.Max], rfl, rfl, rfl⟩⟩⟩⟩) Els.nil)
     refine Om (.buildSlice 25 1 #[(0, (.tmp 32))]) 33 25 (fun b => .slice (Gp (some b)) 1 1) 27 ((vT26 y4.1 uru y4.1.L.length urw) : List Value) (1 * kT26.size) p14 Goes.v fun b25 w15 z15 p15 => ?_
     refine Gn 3 [(34, .i 0), (35, .i 1), (36, .agg #[.i 4, .u 0, .u 0, .u 0, .u 0, .slice (Gp (some b25)) 1 1, .i 0, .i 1])] J1bj ?_
     refine So 27 (.tmp 2) (.tmp 36) 0 3 b2 0 (.agg #[.i 4, .u 0, .u 0, .u 0, .u 0, .slice (Gp (some b25)) 1 1, .i 0, .i 1]) [.i 4, .u 0, .u 0, .u 0, .u 0, .slice (Gp (some b25)) 1 1, .i 0, .i 1] p15 rfl Goes.s fun w16 z16 p16 => ?_
     refine Gn 1 [] J1bh ?_
     obtain ⟨S17, z17, p17, f28⟩ := p16.freezeRd 0 rfl (f26.ext (z15.t z16)) (by decide)
     obtain rfl := sj h
     have p17 := (p17.dp 0).dp 1
     have p17 := (p17.fr 0).fr 1
     exact R1 Tryz.f198 (.cell 2 27) (.agg #[.i 4, .u 0, .u 0, .u 0, .u 0, .slice (Gp (some b25)) 1 1, .i 0, .i 1]) (Rn b2 (p17.pa 0 0)) ⟨_, _, _, _, _, rfl, (((((((((z2.t z3).t z4).t z5).t z6).t z10).t z14).t z15).t z16).t z17), p17.drop, rfl, f28, rfl, (usn.ext ((z15.t z16).t z17))⟩
    ·
     rw [bf h24]
     refine Gn 4 [(24, (pt gx0 0))] (Yt 11110101111110 B198 [1, 2] J1bo) ?_
     refine Gb h fun y29 e30 h => ?_
     refine Gc (.call { callee := .value (.func 132), args := #[(.tmp 24), (.const (.int .u8 123))], argTypes := #[132, 5] }) 25 4 132 _ (W.z5p y22.2 123 y29 e30 _ _ p14 usn) ?_
     rintro _ w18 ⟨S18, uso, rfl, z18, p18, usp⟩
     refine Gn 2 [(23, .bool y29.1)] J1bo ?_
     refine Gi h (fun h31 h => ?_) fun h31 h => ?_
     ·
      rw [h31]
      refine Gn 4 [(27, (pt gx0 0)), (28, .i y4.2.at_)] (Yt 111101011111110 B198 [2, 3, 4, 5, 6, 7] J1be) ?_
      refine Gb h fun y32 e33 h => ?_
      refine Gc (kc 248 [27, 28] #[132, 3]) 29 128 248 _ (W.z6o y29.2 y4.2.at_ y32 e33 _ _ p18 usp) ?_
      rintro _ w19 ⟨S19, uq0, rfl, z19, p19, uq3⟩
      refine Gm 9 [([26], .tuple #[.i y32.1, .i y32.2.1]), ([30, 4], .i y32.1), ([31, 5], .i y32.2.1)] J1bi ?_
      refine Goes.ldN 27 (.tmp 3) 32 27 ⟨b6, 0, none⟩ (vT26 y4.1 uru y4.1.L.length urw) (p19.pa 1 0) ?_
      have f35 : Els kT26 S19 w19 ((vT26 y4.1 uru y4.1.L.length urw) : List Value) [y4.1] := by exact (Els.cons (K := kT26) (vs := (vT26 y4.1 uru y4.1.L.length urw)) (x := y4.1) (kT26_close ⟨[.i y4.1.Kind], (U4 y4.1.Set [.slice uru y4.1.L.length urw, .i y4.1.Min, .i y4.1.Max]), rfl, rfl, ⟨(U4 y4.1.Set []), [.slice uru y4.1.L.length urw, .i y4.1.Min, .i y4.1.Max], rfl, ⟨urx, els_mk4 urx⟩, ⟨[.slice uru y4.1.L.length urw], [.i y4.1.Min, .i y4.1.Max], rfl, ⟨_, _, rfl, (ury.ext ((((((z4.t z5).t z6).t z10).t z14).t z18).t z19))⟩, ⟨[.i y4.1.Min], [.i y4.1.Max], rfl, rfl, rfl⟩⟩⟩⟩) Els.nil)
      refine Om (.buildSlice 25 1 #[(0, (.tmp 32))]) 33 25 (fun b => .slice (Gp (some b)) 1 1) 27 ((vT26 y4.1 uru y4.1.L.length urw) : List Value) (1 * kT26.size) p19 Goes.v fun b34 w20 z20 p20 => ?_
      refine Gn 3 [(34, .i y32.1), (35, .i y32.2.1), (36, .agg #[.i 4, .u 0, .u 0, .u 0, .u 0, .slice (Gp (some b34)) 1 1, .i y32.1, .i y32.2.1])] J1bj ?_
      refine So 27 (.tmp 2) (.tmp 36) 0 3 b2 0 (.agg #[.i 4, .u 0, .u 0, .u 0, .u 0, .slice (Gp (some b34)) 1 1, .i y32.1, .i y32.2.1]) [.i 4, .u 0, .u 0, .u 0, .u 0, .slice (Gp (some b34)) 1 1, .i y32.1, .i y32.2.1] p20 rfl Goes.s fun w21 z21 p21 => ?_
      refine Gn 1 [] J1bh ?_
      obtain ⟨S22, z22, p22, f37⟩ := p21.freezeRd 0 rfl (f35.ext (z20.t z21)) (by decide)
      obtain rfl := sj h
      have p22 := (p22.dp 0).dp 1
      have p22 := (p22.fr 0).fr 1
      exact R1 Tryz.f198 (.cell 2 27) (.agg #[.i 4, .u 0, .u 0, .u 0, .u 0, .slice (Gp (some b34)) 1 1, .i y32.1, .i y32.2.1]) (Rn b2 (p22.pa 0 0)) ⟨_, _, _, _, _, rfl, (((((((((((z2.t z3).t z4).t z5).t z6).t z10).t z14).t z18).t z19).t z20).t z21).t z22), p22.drop, rfl, f37, rfl, (uq3.ext ((z20.t z21).t z22))⟩
     ·
      rw [bf h31]
      refine Gn 3 [] (Yt 1111010111111110 B198 [0, 1] J1br) ?_
      refine Goes.ldN 27 (.tmp 3) 13 27 ⟨b6, 0, none⟩ (vT26 y4.1 uru y4.1.L.length urw) (p18.pa 1 0) ?_
      refine So 27 (.tmp 2) (.tmp 13) 0 2 b2 0 (ag (vT26 y4.1 uru y4.1.L.length urw)) (vT26 y4.1 uru y4.1.L.length urw) p18 rfl Goes.s fun w23 z23 p23 => ?_
      refine Gn 1 [] J1br ?_
      obtain rfl := sj h
      have p23 := p23.dp 1
      have p23 := (p23.fr 0).fr 1
      exact R1 Tryz.f198 (.cell 2 27) (ag (vT26 y4.1 uru y4.1.L.length urw)) (Rn b2 (p23.pa 0 0)) ⟨_, _, _, _, _, rfl, ((((((((z2.t z3).t z4).t z5).t z6).t z10).t z14).t z18).t z23), p23.drop, urx, (ury.ext ((((((z4.t z5).t z6).t z10).t z14).t z18).t z23)), rfl, (usp.ext z23)⟩
 ·
  intro usq usr x0v r h nz wz S0 w0 Lr gx0 umx p0 umy
  try dsimp only at h
  refine Zf Tryz.f247 B247 72 ?_
  refine Gj 73 [(0, (pt gx0 0))] fun junk => ?_
  refine Gn 2 [] (Yt 10 B247 [0] (Ys 11 B247 [])) ?_
  refine Oa 27 2 0 (.agg #[.i 0, .u 0, .u 0, .u 0, .u 0, .slice none 0 0, .i 0, .i 0]) [.i 0, .u 0, .u 0, .u 0, .u 0, .slice none 0 0, .i 0, .i 0] p0 Goes.v fun b2 w2 z2 p2 => ?_
  refine Gn 4 [(4, (pt gx0 0))] (Yt 110 B247 [1, 2] (Ys 111 B247 [])) ?_
  have p2 := p2.fr 1
  refine Gb h fun y4 e5 h => ?_
  refine Gc (kc 197 [4] #[132]) 5 5 197 _ (W.z5m x0v y4 e5 _ _ p2 (umy.ext z2)) ?_
  rintro _ w3 ⟨S3, uoz, rfl, z3, p3, up0⟩
  refine Gm 9 [([3, 7], .int .u8 y4.1), ([8, 9], .bool (decide (y4.1 < 32)))] (Zr Q11v [3, 4, 5, 6, 7, 8, 9, 10, 11] J1ai) ?_
  refine Gi h (fun h6 h => ?_) fun h6 h => ?_
  ·
   rw [dt h6]
   refine Gm 10 [([10, 11, 14, 15, 16], undef), ([12, 13, 17, 6], .bool true)] J1ai ?_
   have p3 : Hp nz wz S3 w3 ((none, .row 27 [] (0 * kT26.size) 0) :: (some gx0, .row 135 (vT134 y4.2 uoz) 4 0) :: (some b2, .row 27 [.i 0, .u 0, .u 0, .u 0, .u 0, .slice none 0 0, .i 0, .i 0] 8 0) :: Lr) := p3.nilRow' 27
   have p3 := ((p3.fr 1).fr 1).fr 2
   exact Gj 73 [(0, (pt gx0 0)), (2, (pt b2 0)), (3, .int .u8 y4.1), (6, .bool true)] (usr _ _ h gx0 _ _ (z2.t z3) _ none 0 0 [] _ p3 rfl (Els.nil (K := kT26)) rfl up0)
  ·
   rw [df h6]
   refine Gm 4 [([10], .int .u8 y4.1), ([11, 12, 13], .bool (decide (y4.1 > 126)))] (Zr Q11v [7, 8, 9, 10, 11] J1ai) ?_
   refine Gi h (fun h10 h => ?_) fun h10 h => ?_
   ·
    rw [dt h10]
    refine Gm 6 [([14, 15, 16], undef), ([17, 6], .bool true)] J1ai ?_
    have p3 : Hp nz wz S3 w3 ((none, .row 27 [] (0 * kT26.size) 0) :: (some gx0, .row 135 (vT134 y4.2 uoz) 4 0) :: (some b2, .row 27 [.i 0, .u 0, .u 0, .u 0, .u 0, .slice none 0 0, .i 0, .i 0] 8 0) :: Lr) := p3.nilRow' 27
    have p3 := ((p3.fr 1).fr 1).fr 2
    exact Gj 73 [(0, (pt gx0 0)), (2, (pt b2 0)), (3, .int .u8 y4.1), (6, .bool true)] (usr _ _ h gx0 _ _ (z2.t z3) _ none 0 0 [] _ p3 rfl (Els.nil (K := kT26)) rfl up0)
   ·
    rw [df h10]
    refine Gn 1 [(14, .int .u8 y4.1)] (Zr Q11v [8, 9, 10, 11] J1ai) ?_
    refine Gb h fun y12 e13 h => ?_
    refine Gc (.call { callee := .value (.func 134), args := #[(.const (.string ⟨#[93, 41, 42, 43, 63, 123, 125, 94, 36, 124]⟩)), (.tmp 14)], argTypes := #[9, 5] }) 15 3 134 _ (W.z64 (⟨#[93, 41, 42, 43, 63, 123, 125, 94, 36, 124]⟩ : ByteArray) y4.1 y12 e13  p3 ) ?_
    rintro _ w4 ⟨S4, rfl, z4, p4⟩
    refine Gm 4 [([16, 17, 6], .bool (decide (y12 ≥ 0)))] J1ai ?_
    have p4 : Hp nz wz S4 w4 ((none, .row 27 [] (0 * kT26.size) 0) :: (some gx0, .row 135 (vT134 y4.2 uoz) 4 0) :: (some b2, .row 27 [.i 0, .u 0, .u 0, .u 0, .u 0, .slice none 0 0, .i 0, .i 0] 8 0) :: Lr) := p4.nilRow' 27
    have p4 := ((p4.fr 1).fr 1).fr 2
    exact Gj 73 [(0, (pt gx0 0)), (2, (pt b2 0)), (3, .int .u8 y4.1), (6, .bool (decide (y12 ≥ 0)))] (usr _ _ h gx0 _ _ ((z2.t z3).t z4) _ none 0 0 [] _ p4 rfl (Els.nil (K := kT26)) rfl (up0.ext z4))
 ·
  intro uss ust ⟨x2v, x3, x6, e0v⟩ r h nz wz S0 w0 Lr gx0 S1 w1 hx gx2 u9q u8q u8r u9r umv p1 uco u8s u8t umw junk
  try dsimp only at h
  subst u8t
  refine Gi h (fun h15 h => ?_) fun h15 h => ?_
  ·
   rw [h15]
   refine Gm 7 [([18, 19, 20], (pt gx0 0)), ([21], (pt gx0 1))] (Yt 11100100 B247 [4, 5, 6] J1c0) ?_
   refine Goes.ld 3 (.tmp 21) 22 3 ⟨gx0, 1, none⟩ (.i e0v.at_) (p1.c 2 1) ?_
   have p1 := p1.fr 2
   refine Gb h fun y16 e17 h => ?_
   refine Gc (kc 69 [18, 22] #[132, 3]) 23 27 69 _ (W.z5o e0v e0v.at_ y16 e17 _ _ p1 umw) ?_
   rintro _ w5 ⟨S5, ucg, uch, uci, upj, rfl, z5, p5, usu, ucj, rfl, upl⟩
   refine So 27 (.tmp 2) (.tmp 23) 0 1 gx2 0 (ag (vT26 y16.1 ucg y16.1.L.length uci)) (vT26 y16.1 ucg y16.1.L.length uci) p5 rfl Goes.s fun w6 z6 p6 => ?_
   refine Gn 1 [] J1c0 ?_
   obtain rfl := sj h
   have p6 := p6.dp 2
   have p6 := (p6.fr 0).fr 1
   exact R1 Tryz.f247 (.cell 2 27) (ag (vT26 y16.1 ucg y16.1.L.length uci)) (Rn gx2 (p6.pa 0 0)) ⟨_, _, _, _, _, rfl, ((hx.t z5).t z6), p6.drop, usu, (ucj.ext z6), rfl, (upl.ext z6)⟩
  ·
   have u93 := bf h15
   rw [u93]
   refine Gm 6 [([25], .int .u8 x3), ([26, 27], .bool (decide (x3 = 40)))] (Zr Q11y [3, 4, 5, 6, 7, 8, 9] J1aj) ?_
   refine Gi h (fun h18 h => ?_) fun h18 h => ?_
   ·
    rw [dt h18]
    refine Gm 3 [([28, 29], (pt gx0 0)), ([30], (pt gx0 2))] (Zr Q11y [6, 7, 8, 9] J1aj) ?_
    refine Goes.ld 3 (.tmp 30) 31 3 ⟨gx0, 2, none⟩ (.i e0v.deep) (p1.c 2 2) ?_
    refine Gm 4 [([32, 33, 24], .bool (decide (e0v.deep = 32)))] J1aj ?_
    exact Gj 73 [(0, (pt gx0 0)), (2, (pt gx2 0)), (3, .int .u8 x3), (24, .bool (decide (e0v.deep = 32)))] (ust _ _ h gx0 _ _ hx _ _ _ _ _ _ p1 uco u8s rfl umw)
   ·
    rw [df h18]
    refine Gm 8 [([28, 29, 30, 31, 32], undef), ([33, 24], .bool false)] J1aj ?_
    exact Gj 73 [(0, (pt gx0 0)), (2, (pt gx2 0)), (3, .int .u8 x3), (24, .bool false)] (ust _ _ h gx0 _ _ hx _ _ _ _ _ _ p1 uco u8s rfl umw)
 ·
  intro rec_syntax_parser_group ih_syntax_parser_group ⟨x2v, x3, x24, e0v⟩ r h nz wz S0 w0 Lr gx0 S1 w1 hx gx2 u9q u8q u8r u9r umv p1 uco u8s u8t umw junk
  try dsimp only at h
  subst u8t
  refine Gi h (fun h21 h => ?_) fun h21 h => ?_
  ·
   rw [h21]
   refine Gm 7 [([34, 35, 36], (pt gx0 0)), ([37], (pt gx0 1))] (Yt 1110011100 B247 [4, 5, 6] J1c4) ?_
   refine Goes.ld 3 (.tmp 37) 38 3 ⟨gx0, 1, none⟩ (.i e0v.at_) (p1.c 2 1) ?_
   have p1 := p1.fr 2
   refine Gb h fun y22 e23 h => ?_
   refine Gc (kc 69 [34, 38] #[132, 3]) 39 27 69 _ (W.z5o e0v e0v.at_ y22 e23 _ _ p1 umw) ?_
   rintro _ w7 ⟨S7, ubh, ubi, ubj, us4, rfl, z7, p7, usa, ubk, rfl, us5⟩
   refine So 27 (.tmp 2) (.tmp 39) 0 1 gx2 0 (ag (vT26 y22.1 ubh y22.1.L.length ubj)) (vT26 y22.1 ubh y22.1.L.length ubj) p7 rfl Goes.s fun w8 z8 p8 => ?_
   refine Gn 1 [] J1c4 ?_
   obtain rfl := sj h
   have p8 := p8.dp 2
   have p8 := (p8.fr 0).fr 1
   exact R1 Tryz.f247 (.cell 2 27) (ag (vT26 y22.1 ubh y22.1.L.length ubj)) (Rn gx2 (p8.pa 0 0)) ⟨_, _, _, _, _, rfl, ((hx.t z7).t z8), p8.drop, usa, (ubk.ext z8), rfl, (us5.ext z8)⟩
  ·
   rw [bf h21]
   refine Gn 4 [(41, (pt gx0 0))] (Yt 1110011110 B247 [1, 2] J1c6) ?_
   have p1 := p1.fr 2
   refine Gb h fun y24 e25 h => ?_
   refine Gc (.call { callee := .value (.func 132), args := #[(.tmp 41), (.const (.int .u8 46))], argTypes := #[132, 5] }) 42 4 132 _ (W.z5p e0v 46 y24 e25 _ _ p1 umw) ?_
   rintro _ w9 ⟨S9, usb, rfl, z9, p9, usc⟩
   refine Gn 2 [(40, .bool y24.1)] J1c6 ?_
   refine Gi h (fun h26 h => ?_) fun h26 h => ?_
   ·
    rw [h26]
    refine Gn 3 [] (Zr Q124 [0, 1, 2, 3] J1c8) ?_
    refine Gb h fun y27 e28 h => ?_
    refine Gc (.call { callee := .value (.func 274), args := #[(.const (.int .u8 10))], argTypes := #[5] }) 43 24 274 _ (W.z5r 10 y27 e28  p9 ) ?_
    rintro _ w10 ⟨S10, unl, rfl, z10, p10, unm, unn⟩
    refine Gb h fun y29 e30 h => ?_
    refine Gc (kc 273 [43] #[24]) 44 24 273 _ (W.z5s y27 y29 e30 _ p10 unm unn) ?_
    rintro _ w11 ⟨S11, usv, rfl, z11, p11, u5m, usw⟩
    have l31 := Els.len1 u5m usw rfl
    obtain rfl := els_lit4 u5m usw
    refine Gn 1 [(45, (ag (.i 1 :: U4 y29 [.slice none 0 0, .i 0, .i 0])))] (Zr Q124 [3] J1c8) ?_
    refine So 27 (.tmp 2) (.tmp 45) 0 1 gx2 0 (ag (.i 1 :: U4 y29 [.slice none 0 0, .i 0, .i 0])) (.i 1 :: U4 y29 [.slice none 0 0, .i 0, .i 0]) p11 rfl Goes.s fun w12 z12 p12 => ?_
    refine Gn 1 [] J1c8 ?_
    obtain rfl := sj h
    have p12 := p12.dp 2
    have p12 := (p12.fr 0).fr 1
    exact R1 Tryz.f247 (.cell 2 27) (ag (.i 1 :: U4 y29 [.slice none 0 0, .i 0, .i 0])) (Rn gx2 (p12.pa 0 0)) ⟨_, _, _, _, _, rfl, ((((hx.t z9).t z10).t z11).t z12), p12.drop, l31, Rd.none_, rfl, (usc.ext ((z10.t z11).t z12))⟩
   ·
    rw [bf h26]
    refine Gn 4 [(47, (pt gx0 0))] (Yt 111001111110 B247 [1, 2] J1cb) ?_
    refine Gb h fun y32 e33 h => ?_
    refine Gc (.call { callee := .value (.func 132), args := #[(.tmp 47), (.const (.int .u8 91))], argTypes := #[132, 5] }) 48 4 132 _ (W.z5p y24.2 91 y32 e33 _ _ p9 usc) ?_
    rintro _ w13 ⟨S13, usx, rfl, z13, p13, usy⟩
    refine Gn 2 [(46, .bool y32.1)] J1cb ?_
    refine Gi h (fun h34 h => ?_) fun h34 h => ?_
    ·
     rw [h34]
     refine Gn 4 [(49, (pt gx0 0))] (Yt 11100111111100 B247 [1, 2] J1cd) ?_
     refine Gb h fun y35 e36 h => ?_
     refine Gc (kc 275 [49] #[132]) 50 27 275 _ (W.z6j y32.2 y35 e36 _ _ p13 usy) ?_
     rintro _ w14 ⟨S14, uit, uiu, uiv, usm, rfl, z14, p14, usz, uiw, rfl, usn⟩
     refine So 27 (.tmp 2) (.tmp 50) 0 1 gx2 0 (ag (vT26 y35.1 uit y35.1.L.length uiv)) (vT26 y35.1 uit y35.1.L.length uiv) p14 rfl Goes.s fun w15 z15 p15 => ?_
     refine Gn 1 [] J1cd ?_
     obtain rfl := sj h
     have p15 := p15.dp 2
     have p15 := (p15.fr 0).fr 1
     exact R1 Tryz.f247 (.cell 2 27) (ag (vT26 y35.1 uit y35.1.L.length uiv)) (Rn gx2 (p15.pa 0 0)) ⟨_, _, _, _, _, rfl, ((((hx.t z9).t z13).t z14).t z15), p15.drop, usz, (uiw.ext z15), rfl, (usn.ext z15)⟩
    ·
     rw [bf h34]
     refine Gn 4 [(52, (pt gx0 0))] (Yt 11100111111110 B247 [1, 2] J1cf) ?_
     refine Gb h fun y37 e38 h => ?_
     refine Gc (.call { callee := .value (.func 132), args := #[(.tmp 52), (.const (.int .u8 40))], argTypes := #[132, 5] }) 53 4 132 _ (W.z5p y32.2 40 y37 e38 _ _ p13 usy) ?_
     rintro _ w16 ⟨S16, ut0, rfl, z16, p16, ut1⟩
     refine Gn 2 [(51, .bool y37.1)] J1cf ?_
     refine Gi h (fun h39 h => ?_) fun h39 h => ?_
     ·
      rw [h39]
      refine Gn 4 [(54, (pt gx0 0))] (Yt 1110011111111100 B247 [1, 2] J1ch) ?_
      refine Gb h fun y40 e41 h => ?_
      refine Gc (kc 276 [54] #[132]) 55 27 276 _ (ih_syntax_parser_group y37.2 y40 e41 _ _ p16 ut1) ?_
      rintro _ w17 ⟨S17, ubq, ubr, ubs, ut2, rfl, z17, p17, ut3, ubt, rfl, ut4⟩
      refine So 27 (.tmp 2) (.tmp 55) 0 1 gx2 0 (ag (vT26 y40.1 ubq y40.1.L.length ubs)) (vT26 y40.1 ubq y40.1.L.length ubs) p17 rfl Goes.s fun w18 z18 p18 => ?_
      refine Gn 1 [] J1ch ?_
      obtain rfl := sj h
      have p18 := p18.dp 2
      have p18 := (p18.fr 0).fr 1
      exact R1 Tryz.f247 (.cell 2 27) (ag (vT26 y40.1 ubq y40.1.L.length ubs)) (Rn gx2 (p18.pa 0 0)) ⟨_, _, _, _, _, rfl, (((((hx.t z9).t z13).t z16).t z17).t z18), p18.drop, ut3, (ubt.ext z18), rfl, (ut4.ext z18)⟩
     ·
      rw [bf h39]
      refine Gn 4 [(57, (pt gx0 0))] (Yt 1110011111111110 B247 [1, 2] J1cj) ?_
      refine Gb h fun y42 e43 h => ?_
      refine Gc (.call { callee := .value (.func 132), args := #[(.tmp 57), (.const (.int .u8 92))], argTypes := #[132, 5] }) 58 4 132 _ (W.z5p y37.2 92 y42 e43 _ _ p16 ut1) ?_
      rintro _ w19 ⟨S19, uq0, rfl, z19, p19, uq3⟩
      refine Gn 2 [(56, .bool y42.1)] J1cj ?_
      refine Gi h (fun h44 h => ?_) fun h44 h => ?_
      ·
       rw [h44]
       refine Gn 4 [(59, (pt gx0 0))] (Zr Q12g [1, 2, 3, 4] J1cl) ?_
       refine Gb h fun y45 e46 h => ?_
       refine Gc (kc 277 [59] #[132]) 60 371 277 _ (W.z68 y42.2 y45 e46 _ _ p19 uq3) ?_
       rintro _ w20 ⟨S20, ut6, rfl, z20, p20, ut7, ut8⟩
       refine Gn 2 [(61, (ag (U4 y45.1.set_ []))), (62, (ag (.i 1 :: U4 y45.1.set_ [.slice none 0 0, .i 0, .i 0])))] (Zr Q12g [4] J1cl) ?_
       refine So 27 (.tmp 2) (.tmp 62) 0 1 gx2 0 (ag (.i 1 :: U4 y45.1.set_ [.slice none 0 0, .i 0, .i 0])) (.i 1 :: U4 y45.1.set_ [.slice none 0 0, .i 0, .i 0]) p20 rfl Goes.s fun w21 z21 p21 => ?_
       refine Gn 1 [] J1cl ?_
       obtain rfl := sj h
       have p21 := p21.dp 2
       have p21 := (p21.fr 0).fr 1
       exact R1 Tryz.f247 (.cell 2 27) (ag (.i 1 :: U4 y45.1.set_ [.slice none 0 0, .i 0, .i 0])) (Rn gx2 (p21.pa 0 0)) ⟨_, _, _, _, _, rfl, ((((((hx.t z9).t z13).t z16).t z19).t z20).t z21), p21.drop, ut7, Rd.none_, rfl, (ut8.ext z21)⟩
      ·
       rw [bf h44]
       refine Gm 8 [([63, 64], (pt gx0 0)), ([65], (pt gx0 1))] (Zr Q12i [3, 4, 5, 6, 7] J1co) ?_
       refine Goes.ld 3 (.tmp 65) 66 3 ⟨gx0, 1, none⟩ (.i y42.2.at_) (p19.c 0 1) ?_
       refine Gn 3 [(67, .i (wr .i64 (y42.2.at_ + 1))), (68, (pt gx0 0)), (69, (pt gx0 1))] (Zr Q12i [7] J1co) ?_
       refine So 3 (.tmp 69) (.tmp 67) 0 0 gx0 1 (.i (wr .i64 (y42.2.at_ + 1))) [.i (wr .i64 (y42.2.at_ + 1))] p19 rfl Goes.s fun w22 z22 p22 => ?_
       refine Gn 4 [(70, .int .u8 x3)] (Zr Q12k [1, 2, 3] J1cr) ?_
       refine Gb h fun y47 e48 h => ?_
       refine Gc (kc 274 [70] #[5]) 71 24 274 _ (W.z5r x3 y47 e48  p22 ) ?_
       rintro _ w23 ⟨S23, unx, rfl, z23, p23, uny, unz⟩
       have l49 := Els.len1 uny unz rfl
       obtain rfl := els_lit4 uny unz
       refine Gn 1 [(72, (ag (.i 1 :: U4 y47 [.slice none 0 0, .i 0, .i 0])))] (Zr Q12k [3] J1cr) ?_
       refine So 27 (.tmp 2) (.tmp 72) 0 1 gx2 0 (ag (.i 1 :: U4 y47 [.slice none 0 0, .i 0, .i 0])) (.i 1 :: U4 y47 [.slice none 0 0, .i 0, .i 0]) p23 rfl Goes.s fun w24 z24 p24 => ?_
       refine Gn 1 [] J1cr ?_
       obtain rfl := sj h
       have p24 := p24.dp 2
       have p24 := (p24.fr 0).fr 1
       exact R1 Tryz.f247 (.cell 2 27) (ag (.i 1 :: U4 y47 [.slice none 0 0, .i 0, .i 0])) (Rn gx2 (p24.pa 0 0)) ⟨_, _, _, _, _, rfl, (((((((hx.t z9).t z13).t z16).t z19).t z22).t z23).t z24), p24.drop, l49, Rd.none_, rfl, (uq3.ext ((z22.t z23).t z24))⟩
 ·
  intro uta utb x0v r h nz wz S0 w0 Lr gx0 umx p0 umy
  try dsimp only at h
  refine Zf Tryz.f276 B276 26 ?_
  refine Gj 27 [(0, (pt gx0 0))] fun junk => ?_
  refine Gn 2 [] (Yt 10 B276 [0] (Ys 11 B276 [])) ?_
  refine Oa 27 2 0 (.agg #[.i 0, .u 0, .u 0, .u 0, .u 0, .slice none 0 0, .i 0, .i 0]) [.i 0, .u 0, .u 0, .u 0, .u 0, .slice none 0 0, .i 0, .i 0] p0 Goes.v fun b2 w2 z2 p2 => ?_
  refine Gn 5 [(4, (pt gx0 0))] (Yt 1100 B276 [1] J1cw) ?_
  have p2 := p2.fr 1
  refine Gb h fun y4 e5 h => ?_
  refine Gc (.call { callee := .value (.func 132), args := #[(.tmp 4), (.const (.int .u8 63))], argTypes := #[132, 5] }) 5 4 132 _ (W.z5p x0v 63 y4 e5 _ _ p2 (umy.ext z2)) ?_
  rintro _ w3 ⟨S3, uoz, rfl, z3, p3, up0⟩
  refine Gn 1 [] J1cw ?_
  refine Gi h (fun h6 h => ?_) fun h6 h => ?_
  ·
   rw [h6]
   refine Gn 3 [(6, (pt gx0 0))] (Yt 11010 B276 [1] J1ak) ?_
   refine Gb h fun y7 e8 h => ?_
   refine Gc (.call { callee := .value (.func 279), args := #[(.tmp 6), (.const (.int .u8 58))], argTypes := #[132, 5] }) 7 0 279 _ (W.z6k y4.2 58 y7 e8 _ _ p3 up0) ?_
   rintro _ w4 ⟨S4, uoo, rfl, z4, p4, uor⟩
   refine Gn 1 [] J1ak ?_
   have p4 : Hp nz wz S4 w4 ((none, .row 27 [] (0 * kT26.size) 0) :: (some gx0, .row 135 (vT134 y7 uoo) 4 0) :: (some b2, .row 27 [.i 0, .u 0, .u 0, .u 0, .u 0, .slice none 0 0, .i 0, .i 0] 8 0) :: Lr) := p4.nilRow' 27
   have p4 := ((p4.fr 1).fr 1).fr 2
   exact Gj 27 [(0, (pt gx0 0)), (2, (pt b2 0))] (utb _ _ h gx0 _ _ ((z2.t z3).t z4) _ none 0 0 [] _ p4 rfl (Els.nil (K := kT26)) rfl uor)
  ·
   rw [bf h6]
   refine Gn 2 [] J1ak ?_
   have p3 : Hp nz wz S3 w3 ((none, .row 27 [] (0 * kT26.size) 0) :: (some gx0, .row 135 (vT134 y4.2 uoz) 4 0) :: (some b2, .row 27 [.i 0, .u 0, .u 0, .u 0, .u 0, .slice none 0 0, .i 0, .i 0] 8 0) :: Lr) := p3.nilRow' 27
   have p3 := ((p3.fr 1).fr 1).fr 2
   exact Gj 27 [(0, (pt gx0 0)), (2, (pt b2 0))] (utb _ _ h gx0 _ _ (z2.t z3) _ none 0 0 [] _ p3 rfl (Els.nil (K := kT26)) rfl up0)
 ·
  intro rec_syntax_parser_alternation ih_syntax_parser_alternation ⟨x2v, e0v⟩ r h nz wz S0 w0 Lr gx0 S1 w1 hx gx2 u9q u8q u8r u9r umv p1 uco u8s u8t umw junk
  try dsimp only at h
  subst u8t
  refine Gm 5 [([8, 9], (pt gx0 0)), ([10], (pt gx0 2))] (Zr Q12r [3, 4, 5, 6, 7] J1cz) ?_
  refine Goes.ld 3 (.tmp 10) 11 3 ⟨gx0, 2, none⟩ (.i e0v.deep) (p1.c 2 2) ?_
  refine Gn 3 [(12, .i (wr .i64 (e0v.deep + 1))), (13, (pt gx0 0)), (14, (pt gx0 2))] (Zr Q12r [7] J1cz) ?_
  refine So 3 (.tmp 14) (.tmp 12) 0 2 gx0 2 (.i (wr .i64 (e0v.deep + 1))) [.i (wr .i64 (e0v.deep + 1))] p1 rfl Goes.s fun w5 z5 p5 => ?_
  refine Gn 4 [(15, (pt gx0 0))] (Yt 11110 B276 [1, 2, 3] (Ys 11111 B276 [])) ?_
  have p5 := p5.fr 2
  refine Gb h fun y13 e14 h => ?_
  refine Gc (kc 68 [15] #[132]) 16 27 68 _ (ih_syntax_parser_alternation (⟨e0v.s, e0v.at_, wr .i64 (e0v.deep + 1), e0v.bad⟩ : T134) y13 e14 _ _ p5 (umw.ext z5)) ?_
  rintro _ w6 ⟨S6, ua8, u1c, u1d, uq5, rfl, z6, p6, u1f, u1g, rfl, uq6⟩
  refine Oa 27 3 0 (.agg #[.i 0, .u 0, .u 0, .u 0, .u 0, .slice none 0 0, .i 0, .i 0]) [.i 0, .u 0, .u 0, .u 0, .u 0, .slice none 0 0, .i 0, .i 0] p6 Goes.v fun b15 w7 z7 p7 => ?_
  refine So 27 (.tmp 3) (.tmp 16) 0 0 b15 0 (ag (vT26 y13.1 ua8 y13.1.L.length u1d)) (vT26 y13.1 ua8 y13.1.L.length u1d) p7 rfl Goes.s fun w8 z8 p8 => ?_
  refine Gm 6 [([17, 18], (pt gx0 0)), ([19], (pt gx0 2))] (Zr Q12v [3, 4, 5, 6, 7] J1d4) ?_
  refine Goes.ld 3 (.tmp 19) 20 3 ⟨gx0, 2, none⟩ (.i y13.2.deep) (p8.c 1 2) ?_
  refine Gn 3 [(21, .i (wr .i64 (y13.2.deep - 1))), (22, (pt gx0 0)), (23, (pt gx0 2))] (Zr Q12v [7] J1d4) ?_
  refine So 3 (.tmp 23) (.tmp 21) 0 1 gx0 2 (.i (wr .i64 (y13.2.deep - 1))) [.i (wr .i64 (y13.2.deep - 1))] p8 rfl Goes.s fun w9 z9 p9 => ?_
  refine Gn 4 [(24, (pt gx0 0))] (Yt 1111110 B276 [1] (Ys 1111111 B276 [])) ?_
  have p9 := p9.fr 1
  refine Gb h fun y17 e18 h => ?_
  refine Gc (.call { callee := .value (.func 279), args := #[(.tmp 24), (.const (.int .u8 41))], argTypes := #[132, 5] }) 25 0 279 _ (W.z6k (⟨y13.2.s, y13.2.at_, wr .i64 (y13.2.deep - 1), y13.2.bad⟩ : T134) 41 y17 e18 _ _ p9 (uq6.ext ((z7.t z8).t z9))) ?_
  rintro _ w10 ⟨S10, up3, rfl, z10, p10, up4⟩
  refine Gn 3 [] (Yt 11111110 B276 [0, 1] J1d9) ?_
  refine Goes.ldN 27 (.tmp 3) 26 27 ⟨b15, 0, none⟩ (vT26 y13.1 ua8 y13.1.L.length u1d) (p10.pa 1 0) ?_
  refine So 27 (.tmp 2) (.tmp 26) 0 2 gx2 0 (ag (vT26 y13.1 ua8 y13.1.L.length u1d)) (vT26 y13.1 ua8 y13.1.L.length u1d) p10 rfl Goes.s fun w11 z11 p11 => ?_
  refine Gn 1 [] J1d9 ?_
  obtain rfl := sj h
  have p11 := (p11.dp 1).dp 2
  have p11 := (p11.fr 0).fr 1
  exact R1 Tryz.f276 (.cell 2 27) (ag (vT26 y13.1 ua8 y13.1.L.length u1d)) (Rn gx2 (p11.pa 0 0)) ⟨_, _, _, _, _, rfl, (((((((hx.t z5).t z6).t z7).t z8).t z9).t z10).t z11), p11.drop, u1f, (u1g.ext ((((z7.t z8).t z9).t z10).t z11)), rfl, (up4.ext z11)⟩

theorem W.z6s : ∀ a r, M.a2l a = some r → LF.z6s a r := (W.z73).1

theorem W.z72 : ∀ a r, M.a3r a = some r → LL.z72 a r := (W.z73).2.1

theorem W.z6t : ∀ a r, M.a3n a = some r → LF.z6t a r := (W.z73).2.2.1

theorem W.z6x : ∀ a r, M.a3o a = some r → LL.z6x a r := (W.z73).2.2.2.1

theorem W.z6y : ∀ a r, M.a22 a = some r → LL.z6y a r := (W.z73).2.2.2.2.1

theorem W.z6u : ∀ a r, M.a4t a = some r → LF.z6u a r := (W.z73).2.2.2.2.2.1

theorem W.z6v : ∀ a r, M.a4u a = some r → LF.z6v a r := (W.z73).2.2.2.2.2.2.1

theorem W.z6z : ∀ a r, M.a2m a = some r → LL.z6z a r := (W.z73).2.2.2.2.2.2.2.1

theorem W.z70 : ∀ a r, M.a3p a = some r → LL.z70 a r := (W.z73).2.2.2.2.2.2.2.2.1

theorem W.z6w : ∀ a r, M.a4v a = some r → LF.z6w a r := (W.z73).2.2.2.2.2.2.2.2.2.1

theorem W.z71 : ∀ a r, M.a3q a = some r → LL.z71 a r := (W.z73).2.2.2.2.2.2.2.2.2.2

def J1db := Ys 1111111 B25 []
def J1dc := Ys 11111101 B25 J1db
def J1df := Ys 11111111 B25 []

def Post.z74 (r : T26 × Int × Int) (v : Value) (w' : World) : Prop :=
 ∃ S' ucd uce ucf, v = .tuple #[(ag (vT26 r.1 ucd uce ucf)), .i r.2.1, .i r.2.2] ∧ Ext S0 w0 S' w' ∧ Hp nz wz S' w' (Lr) ∧ r.1.Set.length = 4 ∧ Rd kT26 S' w' ucd ucf r.1.L ∧ r.1.L.length = uce

def L.z75 : T26 × T134 × T26 × Bool → (T26 × Int × Int) → Prop := fun ⟨x2v, x5v, x6v, x40⟩ r => ∀ S1 w1, Ext S0 w0 S1 w1 → ∀ gx2 u9q u8q u8r u9r gx5 utc gx6 utd ud ue (_ : Hp nz wz S1 w1 ((some gx2, .row 27 (vT26 x2v (Gp u9q) u8q u8r) 8 0) :: (u9q, .row 27 u9r (u8r * kT26.size) 0) :: (some gx5, .row 135 (vT134 x5v utc) 4 0) :: (some gx6, .row 27 (vT26 x6v utd ud ue) 8 0) :: Lr)) (_ : x2v.Set.length = 4) (_ : Els kT26 S1 w1 u9r x2v.L) (_ : x2v.L.length = u8q) (_ : PtO kT138 S1 w1 utc x5v.bad) (_ : x6v.Set.length = 4) (_ : Rd kT26 S1 w1 utd ue x6v.L) (_ : x6v.L.length = ud) (junk : Nat → Value),
 Goes Tryz.prog (base 25) J1dc ⟨lfr 50 [(2, (pt gx2 0)), (5, (pt gx5 0)), (6, (pt gx6 0)), (40, .bool x40)] junk, []⟩ w1 (Done Tryz.prog 25 (Rets (Post.z74 nz wz S0 w0 Lr r)))

theorem W.z75 {nz wz S0 w0 Lr} : ∀ a r, M.a67 a = some r → L.z75 nz wz S0 w0 Lr a r := by
 intro ⟨x2v, x5v, x6v, x40⟩ r h S1 w1 hx gx2 u9q u8q u8r u9r gx5 utc gx6 utd ud ue p1 uco u8s u8t ute uv uw ux junk
 rw [M.a67] at h
 try dsimp only at h
 subst u8t
 subst ux
 refine Gi h (fun h41 h => ?_) fun h41 h => ?_
 ·
  rw [h41]
  refine Gn 2 [] (Ys 1111110100 B25 (Ys 1111110101 B25 J1db)) ?_
  have z9 : Ext S1 w1 S1 (w1).drew := Ext.draw
  have p9 := p1.draw
  refine Gd [] (Fc S1 (w1).drew [(⟨gx5, 3, none⟩, utc)]) 8 11 ?_
  generalize (w1).drew = w9 at z9 p9 ⊢
  refine AnyG.pu 0 (.build 27 #[]) 41 27 (.agg #[.i 0, .u 0, .u 0, .u 0, .u 0, .slice none 0 0, .i 0, .i 0]) (Fc.here (p9.cs [(2, 3, 1)])) ?_
  refine AnyG.pu 1 (.move (.tmp 5)) 42 132 ((pt gx5 0)) (Fc.here (p9.cs [(2, 3, 1)])) ?_
  refine AnyG.pu 2 (.nilCheck (.tmp 42)) 43 0 ((pt gx5 0)) (Fc.here (p9.cs [(2, 3, 1)])) ?_
  refine AnyG.pu 3 (.fieldAddr 135 (.tmp 43) 3) 44 0 ((pt gx5 3)) (Fc.here (p9.cs [(2, 3, 1)])) ?_
  refine Al 4 133 (.tmp 44) 45 133 ⟨gx5, 3, none⟩ (utc) (Fc.here (p9.cs [(2, 3, 1)])) (fun _ h => h.2.at_ 0 rfl) ?_
  refine Gl h fun v48 h42 h => ?_
  rcases v48 with _ | y43
  ·
   try dsimp only at h
   obtain rfl := PtO.nil (ute.ext z9) h42
   cases h
  ·
   try dsimp only at h
   obtain ⟨a45, _, rfl, -, f46, q47⟩ := PtO.got (ute.ext z9) h42
   obtain rfl := q47
   refine AnyG.pu 5 (.nilCheck (.tmp 45)) 46 0 (.pointer (some a45)) (Fc.here (p9.cs [(2, 3, 1)])) ?_
   refine AnyG.pu 6 (.fieldAddr 139 (.tmp 46) 0) 47 0 (.pointer (some (Addr.add a45 0))) (Fc.here (p9.cs [(2, 3, 1)])) ?_
   refine Al 7 3 (.tmp 47) 48 3 (Addr.add a45 0) (.i y43.at_) (Fc.here (p9.cs [(2, 3, 1)])) (fun _ h => (Cs.left (us := [.i y43.at_]) (vs := []) (Cs.add (us := []) (vs := [.i y43.at_]) f46)).fc h 0 _ rfl) ?_
   refine So 27 (.tmp 2) (.tmp 41) 0 0 gx2 0 (.agg #[.i 0, .u 0, .u 0, .u 0, .u 0, .slice none 0 0, .i 0, .i 0]) [.i 0, .u 0, .u 0, .u 0, .u 0, .slice none 0 0, .i 0, .i 0] p9 rfl (As 8) fun w10 z10 p10 => ?_
   refine AnyG.next z10 ⟨(p10.c 2 3), trivial⟩ ?_
   refine AnyG.pu 9 (.assign (.tmp 48)) 3 3 (.i y43.at_) (Fc.here (p10.cs [(2, 3, 1)])) ?_
   refine AnyG.pu 10 (.assign (.const (.int .i64 100))) 4 34 (.i 100) (Fc.here (p10.cs [(2, 3, 1)])) ?_
   refine Ad ?_
   have p10 := ((p10.dp 1).dp 1).dp 1
   obtain rfl := sj h
   exact R3 Tryz.f25 (.cell 2 27) (.tmp 3) (.tmp 4) (.tuple #[.agg #[.i 0, .u 0, .u 0, .u 0, .u 0, .slice none 0 0, .i 0, .i 0], .i y43.at_, .i 100]) (Rn gx2 (p10.pa 0 0)) Rt Rt ⟨_, _, _, _, rfl, ((hx.t z9).t z10), p10.drop, rfl, Rd.none_, rfl⟩
 ·
  rw [bf h41]
  refine Gn 4 [] (Yt 11111110 B25 [0, 1, 2, 3] J1df) ?_
  refine Goes.ldN 27 (.tmp 6) 49 27 ⟨gx6, 0, none⟩ (vT26 x6v utd x6v.L.length ue) (p1.pa 3 0) ?_
  refine So 27 (.tmp 2) (.tmp 49) 0 0 gx2 0 (ag (vT26 x6v utd x6v.L.length ue)) (vT26 x6v utd x6v.L.length ue) p1 rfl Goes.s fun w11 z11 p11 => ?_
  refine Gm 3 [([3, 4], .i 0)] J1df ?_
  obtain rfl := sj h
  have p11 := ((p11.dp 1).dp 1).dp 1
  exact R3 Tryz.f25 (.cell 2 27) (.tmp 3) (.tmp 4) (.tuple #[(ag (vT26 x6v utd x6v.L.length ue)), .i 0, .i 0]) (Rn gx2 (p11.pa 0 0)) Rt Rt ⟨_, _, _, _, rfl, (hx.t z11), p11.drop, uv, (uw.ext z11), rfl⟩

end

end Go.Gx
