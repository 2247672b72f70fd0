import Derived.Test.YtdccklkdakfnaaaGreatWGfd
set_option linter.unusedVariables false
set_option linter.unusedSimpArgs false
set_option maxRecDepth 100000
set_option maxHeartbeats 4000000
namespace Go.Gx
open Go.RowKit Go.Proofs
variable (nz : Nat) (wz : World) (S0 : Fz) (w0 : World) (Lr : List Ent)
noncomputable section
def Qy6 := Yq 1110100 B235
def J16r := Zl Qy6 (Zb 0 (Ys 1111 B235 []))
def J16s := Zc Qy6 J16r
def J16v := Ys 111 B190 []
def Qya := Yq 110 B190
def J175 := Ys 111 B235 []
def J17b := Zb 1 (Ys 1110100111 B235 J16r)
def J17c := Ys 111010011001 B235 J17b
def Qyi := Yq 111010011000 B235
def J17h := Ys 11101001100111 B235 J17b
def Post.z78 (r : Bool) (v : Value) (w' : World) : Prop :=
 ∃ S', v = .bool r ∧ Ext S0 w0 S' w' ∧ Hp nz wz S' w' (Lr)
def Post.z79 (r : Bool) (v : Value) (w' : World) : Prop :=
 ∃ S', v = .bool r ∧ Ext S0 w0 S' w' ∧ Hp nz wz S' w' (Lr)
def LF.z78 : T29 × T29 → Bool → Prop := fun ⟨x0, x1⟩ r => ∀ {nz wz S0 w0 Lr} u5 u6 u7 urs urt uru (_ : Hp nz wz S0 w0 (Lr)) (_ : Rd kT29 S0 w0 u5 u7 x0.L) (_ : x0.L.length = u6) (_ : Rd kT29 S0 w0 urs uru x1.L) (_ : x1.L.length = urt),
 Calls Tg 190 #[(ag (wT29 x0.Op x0.Text u5 u6 u7)), (ag (wT29 x1.Op x1.Text urs urt uru))] w0 (Rets (Post.z78 nz wz S0 w0 Lr r))
def LF.z79 : (List T29) × (List T29) → Bool → Prop := fun ⟨x0, x1⟩ r => ∀ {nz wz S0 w0 Lr} Ax0 nx0 cx0 Ax1 nx1 cx1 (_ : Hp nz wz S0 w0 (Lr)) (_ : Rd kT29 S0 w0 Ax0 cx0 x0) (_ : x0.length = nx0) (_ : Rd kT29 S0 w0 Ax1 cx1 x1) (_ : x1.length = nx1),
 Calls Tg 235 #[.slice Ax0 nx0 cx0, .slice Ax1 nx1 cx1, .func (.func 190) #[] #[]] w0 (Rets (Post.z79 nz wz S0 w0 Lr r))
def L.z7a : (List T29) × (List T29) × Int × Int → Bool → Prop := fun ⟨x1, x15, x16, x17⟩ r => ∀ S1 w1, Ext S0 w0 S1 w1 → ∀ Ax1 nx1 cx1 uba ubb ubc (_ : Hp nz wz S1 w1 (Lr)) (_ : Rd kT29 S1 w1 Ax1 cx1 x1) (_ : x1.length = nx1) (_ : Rd kT29 S1 w1 uba ubc x15) (_ : x15.length = ubb) (junk : Nat → Value),
 Goes Tg (base 235) J16s ⟨lfr 32 [(1, .slice Ax1 nx1 cx1), (2, .func (.func 190) #[] #[]), (15, .slice uba ubb ubc), (16, .i x16), (17, .i x17)] junk, []⟩ w1 (Done Tg 235 (Rets (Post.z79 nz wz S0 w0 Lr r)))
def LL.z7a : (List T29) × (List T29) × Int × Int → Bool → Prop := fun a r => ∀ {nz wz S0 w0 Lr}, L.z7a nz wz S0 w0 Lr a r
theorem W.z7b : (∀ a r, M.a1s a = some r → LF.z78 a r) ∧ (∀ a r, M.a4h a = some r → LF.z79 a r) ∧ (∀ a r, M.a34 a = some r → LL.z7a a r) := by
 refine M.a1s.mutual_partial_correctness LF.z78 LF.z79 LL.z7a ?_ ?_ ?_
 ·
  intro urv urw ⟨x0, x1⟩ r h nz wz S0 w0 Lr u5 u6 u7 urs urt uru p0 um un urx ury
  try dsimp only at h
  subst un
  subst ury
  refine Zf Tryz.f190 B190 22 ?_
  refine Gj 24 [(0, (ag (wT29 x0.Op x0.Text u5 x0.L.length u7))), (1, (ag (wT29 x1.Op x1.Text urs x1.L.length uru)))] fun junk => ?_
  refine Gn 2 [] (Yt 10 B190 [0, 1, 2] (Ys 11 B190 [])) ?_
  refine Ob 30 0 2 0 ((ag (wT29 x0.Op x0.Text u5 x0.L.length u7))) (wT29 x0.Op x0.Text u5 x0.L.length u7) p0 Xa fun b1 w2 z2 p2 => ?_
  refine Ob 30 1 3 0 ((ag (wT29 x1.Op x1.Text urs x1.L.length uru))) (wT29 x1.Op x1.Text urs x1.L.length uru) p2 Xa fun b3 w3 z3 p3 => ?_
  refine Gn 5 [(4, .bool false), (5, (pt b1 0))] (Zr Qya [1, 2, 3, 4, 5, 6, 7, 8, 9, 10, 11, 12, 13, 14, 15, 16, 17, 18, 19] J16v) ?_
  refine Xc 3 5 6 3 ⟨b1, 0, none⟩ (.i x0.Op) (p3.c 1 0) ?_
  refine Gn 1 [(7, (pt b3 0))] (Zr Qya [3, 4, 5, 6, 7, 8, 9, 10, 11, 12, 13, 14, 15, 16, 17, 18, 19] J16v) ?_
  refine Xc 3 7 8 3 ⟨b3, 0, none⟩ (.i x1.Op) (p3.c 0 0) ?_
  refine Gm 2 [([9, 10], .bool (decide (x0.Op = x1.Op)))] (Zr Qya [6, 7, 8, 9, 10, 11, 12, 13, 14, 15, 16, 17, 18, 19] J16v) ?_
  refine Gi h (fun h5 h => ?_) fun h5 h => ?_
  ·
   rw [dt h5]
   refine Gn 1 [(11, (pt b1 1))] (Zr Qya [7, 8, 9, 10, 11, 12, 13, 14, 15, 16, 17, 18, 19] J16v) ?_
   refine Xc 9 11 12 9 ⟨b1, 1, none⟩ (.string x0.Text) (p3.c 1 1) ?_
   refine Gn 1 [(13, (pt b3 1))] (Zr Qya [9, 10, 11, 12, 13, 14, 15, 16, 17, 18, 19] J16v) ?_
   refine Xc 9 13 14 9 ⟨b3, 1, none⟩ (.string x1.Text) (p3.c 0 1) ?_
   refine Gm 3 [([15, 16, 17], .bool (x0.Text.toList == x1.Text.toList))] (Zr Qya [13, 14, 15, 16, 17, 18, 19] J16v) ?_
   refine Gi h (fun h6 h => ?_) fun h6 h => ?_
   ·
    rw [h6]
    refine Gn 1 [(18, (pt b1 2))] (Zr Qya [14, 15, 16, 17, 18, 19] J16v) ?_
    refine Xc 28 18 19 28 ⟨b1, 2, none⟩ (Sl u5 x0.L u7) (p3.c 1 2) ?_
    refine Gn 1 [(20, (pt b3 2))] (Zr Qya [16, 17, 18, 19] J16v) ?_
    refine Xc 28 20 21 28 ⟨b3, 2, none⟩ (Sl urs x1.L uru) (p3.c 0 2) ?_
    refine Gb h fun y7 e8 h => ?_
    refine Gc (.call { callee := .value (.func 235), args := #[19, 21, (.func 190)], argTypes := #[28, 28, 301] }) 22 4 235 _ (urw (x0.L, x1.L) y7 e8 _ _ _ _ _ _ p3 (um.ext (z2.t z3)) rfl (urx.ext (z2.t z3)) rfl) ?_
    rintro _ w4 ⟨S4, rfl, z4, p4⟩
    have p4 := (p4.dp 0).dp 0
    refine Gm 3 [([23, 4], .bool y7)] J16v ?_
    obtain rfl := sj h
    exact Xd Tryz.f190 (.bool y7) ⟨_, rfl, ((z2.t z3).t z4), p4⟩
   ·
    rw [bf h6]
    refine Gm 8 [([18, 19, 20, 21, 22], undef), ([23, 4], .bool false)] J16v ?_
    obtain rfl := sj h
    have p3 := (p3.dp 0).dp 0
    exact Xd Tryz.f190 (.bool false) ⟨_, rfl, (z2.t z3), p3⟩
  ·
   rw [df h5]
   refine Gm 14 [([11, 12, 13, 14, 15, 18, 19, 20, 21, 22], undef), ([16, 17, 23, 4], .bool false)] (Zr Qya [] J16v) ?_
   refine Gn 1 [] J16v ?_
   obtain rfl := sj h
   have p3 := (p3.dp 0).dp 0
   exact Xd Tryz.f190 (.bool false) ⟨_, rfl, (z2.t z3), p3⟩
 ·
  intro urz us0 ⟨x0, x1⟩ r h nz wz S0 w0 Lr Ax0 nx0 cx0 Ax1 nx1 cx1 p0 fx0 lx0 fx1 lx1
  try dsimp only at h
  subst lx0
  subst lx1
  refine Zf Tryz.f235 B235 29 ?_
  refine Gj 32 [(0, Sl Ax0 x0 cx0), (1, Sl Ax1 x1 cx1), (2, .func (.func 190) #[] #[])] fun junk => ?_
  refine Gn 13 [(6, .bool false), (10, Sl Ax0 x0 cx0), (11, .i (x0.length : Int)), (12, Sl Ax1 x1 cx1), (13, .i (x1.length : Int)), (14, .bool (!(decide ((x0.length : Int) = (x1.length : Int)))))] (Ys 1101 B235 J175) ?_
  refine Gi h (fun h1 h => ?_) fun h1 h => ?_
  ·
   rw [dt h1]
   refine Gn 11 [(15, Sl Ax0 x0 cx0), (16, .i (x0.length : Int)), (17, .i 0)] J16s ?_
   exact Gj 32 [(1, Sl Ax1 x1 cx1), (2, .func (.func 190) #[] #[]), (15, Sl Ax0 x0 cx0), (16, .i (x0.length : Int)), (17, .i 0)] (us0 _ _ h _ _ (Xj S0 w0) _ _ _ _ _ _ p0 fx1 rfl fx0 rfl)
  ·
   rw [df h1]
   refine Gn 5 [(6, .bool false)] (Ys 110101 B235 J175) ?_
   obtain rfl := sj h
   exact Xd Tryz.f235 (.bool false) ⟨_, rfl, (Xj S0 w0), p0⟩
 ·
  intro rec_gram_same urz ih_gram_same us0 ⟨x1, x15, x16, x17⟩ r h nz wz S0 w0 Lr S1 w1 hx Ax1 nx1 cx1 uba ubb ubc p1 fx1 lx1 ubf ubg junk
  try dsimp only at h
  subst lx1
  subst ubg
  refine Gn 5 [(18, .bool (decide (x17 < x16)))] (Ys 111010010 B235 (Ys 111010011 B235 J16r)) ?_
  refine Gi h (fun h2 h => ?_) fun h2 h => ?_
  ·
   rw [dt h2]
   refine Gn 7 [(19, .i x17)] (Zr Qyi [1, 2, 3, 4, 5] J17c) ?_
   refine Gg h fun g3 h => ?_
   refine Gg h fun g4 h => ?_
   refine Oi 28 15 17 20 0 30 .i64 x17 (gi x15 x17) rfl rfl ubf Xa g3 g4 fun a5 _ f6 q7 => ?_
   have q8 := q7
   obtain ⟨_, _, rfl, rfl, ⟨_, _, rfl, rfl, ⟨A9, c10, rfl, f11⟩⟩⟩ := kT29_open q8
   refine Xg 30 20 21 30 a5 ([.i ((gi x15 x17).Op)] ++ ([.string ((gi x15 x17).Text)] ++ [.slice A9 (((gi x15 x17).L).length) c10])) (f6.cell) ?_
   refine Oa 30 8 0 (.agg #[.i 0, .string bE, Sn]) [.i 0, .string bE, Sn] p1 Xa fun b12 w2 z2 p2 => ?_
   refine Gn 1 [(7, .i x17)] (Zr Qyi [5] J17c) ?_
   refine So 30 8 21 0 0 b12 0 ((ag (wT29 (gi x15 x17).Op (gi x15 x17).Text A9 (((gi x15 x17).L).length) c10))) (wT29 (gi x15 x17).Op (gi x15 x17).Text A9 (((gi x15 x17).L).length) c10) p2 rfl Xe fun w3 z3 p3 => ?_
   refine Gn 5 [(22, Sl Ax1 x1 cx1), (23, .i x17)] (Yt 1110100110010 B235 [2, 3, 4, 5] (Ys 1110100110011 B235 J17b)) ?_
   refine Gg h fun g14 h => ?_
   refine Oi 28 22 23 24 0 30 .i64 x17 (gi x1 x17) rfl rfl (fx1.ext (z2.t z3)) Xa g3 g14 fun a15 _ f16 q17 => ?_
   have q18 := q17
   obtain ⟨_, _, rfl, rfl, ⟨_, _, rfl, rfl, ⟨A19, c20, rfl, f21⟩⟩⟩ := kT29_open q18
   refine Xg 30 24 25 30 a15 ([.i ((gi x1 x17).Op)] ++ ([.string ((gi x1 x17).Text)] ++ [.slice A19 (((gi x1 x17).L).length) c20])) (f16.cell) ?_
   refine Oa 30 9 0 (.agg #[.i 0, .string bE, Sn]) [.i 0, .string bE, Sn] p3 Xa fun b22 w4 z4 p4 => ?_
   refine So 30 9 25 0 0 b22 0 ((ag (wT29 (gi x1 x17).Op (gi x1 x17).Text A19 (((gi x1 x17).L).length) c20))) (wT29 (gi x1 x17).Op (gi x1 x17).Text A19 (((gi x1 x17).L).length) c20) p4 rfl Xe fun w5 z5 p5 => ?_
   refine Gn 4 [(26, .func (.func 190) #[] #[])] (Yt 11101001100110 B235 [1, 2, 3, 4] J17h) ?_
   refine Xg 30 8 27 30 ⟨b12, 0, none⟩ (wT29 (gi x15 x17).Op (gi x15 x17).Text A9 (((gi x15 x17).L).length) c10) (p5.pa 1 0) ?_
   refine Xg 30 9 28 30 ⟨b22, 0, none⟩ (wT29 (gi x1 x17).Op (gi x1 x17).Text A19 (((gi x1 x17).L).length) c20) (p5.pa 0 0) ?_
   refine Gb h fun y24 e25 h => ?_
   refine Gc (.call { callee := .value 26, args := #[27, 28], argTypes := #[30, 30] }) 29 4 190 _ (ih_gram_same (gi x15 x17, gi x1 x17) y24 e25 _ _ _ _ _ _ p5 (f11.ext (((z2.t z3).t z4).t z5)) rfl (f21.ext (z4.t z5)) rfl) ?_
   rintro _ w6 ⟨S6, rfl, z6, p6⟩
   have p6 := (p6.dp 0).dp 0
   refine Gn 2 [(30, .bool (!y24))] J17h ?_
   refine Gi h (fun h26 h => ?_) fun h26 h => ?_
   ·
    rw [h26]
    refine Gm 8 [([31, 17], .i (wr .i64 (x17 + 1)))] J16s ?_
    exact Gj 32 [(1, Sl Ax1 x1 cx1), (2, .func (.func 190) #[] #[]), (15, Sl uba x15 ubc), (16, .i x16), (17, .i (wr .i64 (x17 + 1)))] (us0 _ _ h _ _ (((((hx.t z2).t z3).t z4).t z5).t z6) _ _ _ _ _ _ p6 (fx1.ext ((((z2.t z3).t z4).t z5).t z6)) rfl (ubf.ext ((((z2.t z3).t z4).t z5).t z6)) rfl)
   ·
    rw [bf h26]
    refine Gn 5 [(6, .bool false)] (Ys 1110100110011101 B235 J17b) ?_
    obtain rfl := sj h
    exact Xd Tryz.f235 (.bool false) ⟨_, rfl, (((((hx.t z2).t z3).t z4).t z5).t z6), p6⟩
  ·
   rw [df h2]
   refine Gn 6 [(6, .bool true)] (Ys 11111 B235 []) ?_
   obtain rfl := sj h
   exact Xd Tryz.f235 (.bool true) ⟨_, rfl, hx, p1⟩
theorem W.z78 : ∀ a r, M.a1s a = some r → LF.z78 a r := (W.z7b).1
theorem W.z79 : ∀ a r, M.a4h a = some r → LF.z79 a r := (W.z7b).2.1
theorem W.z7a : ∀ a r, M.a34 a = some r → LL.z7a a r := (W.z7b).2.2
def J17n := Ys 111 B234 []
def Post.z7c (gx1 : Nat) (gx2 : Nat) (u54 : Option Addr) (u55 : Nat) (u56 : Nat) (x2v : T29) (r : Bool) (v : Value) (w' : World) : Prop :=
 ∃ S', v = .bool r ∧ Ext S0 w0 S' w' ∧ Hp nz wz S' w' ((some gx1, .row 301 [.func (.func 190) #[] #[]] 1 0) :: (some gx2, .row 30 (wT29 x2v.Op x2v.Text u54 u55 u56) 3 0) :: Lr)
theorem W.z7c (x0 : T29) (x2v : T29) (r : Bool) (h : M.a5o x0 x2v = some r) {nz wz S0 w0 Lr} (u5 u6 u7 gx1 gx2 u54 u55 u56) (p0 : Hp nz wz S0 w0 ((some gx1, .row 301 [.func (.func 190) #[] #[]] 1 0) :: (some gx2, .row 30 (wT29 x2v.Op x2v.Text u54 u55 u56) 3 0) :: Lr)) (um : Rd kT29 S0 w0 u5 u7 x0.L) (un : x0.L.length = u6) (u5j : Rd kT29 S0 w0 u54 u56 x2v.L) (u5k : x2v.L.length = u55) :
  Calls Tg 234 #[(ag (wT29 x0.Op x0.Text u5 u6 u7)), (pt gx1 0), (pt gx2 0)] w0 (Rets (Post.z7c nz wz S0 w0 Lr gx1 gx2 u54 u55 u56 x2v r)) := by
 subst un
 subst u5k
 refine Zf Tryz.f234 B234 6 ?_
 refine Gj 9 [(0, (ag (wT29 x0.Op x0.Text u5 x0.L.length u7))), (1, (pt gx1 0)), (2, (pt gx2 0))] fun junk => ?_
 delta M.a5o at h
 refine Gn 2 [] (Yt 10 B234 [0, 1] (Ys 11 B234 [])) ?_
 refine Ob 30 0 3 0 ((ag (wT29 x0.Op x0.Text u5 x0.L.length u7))) (wT29 x0.Op x0.Text u5 x0.L.length u7) p0 Xa fun b3 w2 z2 p2 => ?_
 refine Gn 4 [(4, .bool false)] (Yt 110 B234 [0, 1, 2, 3, 4] J17n) ?_
 refine Xc 301 1 5 301 ⟨gx1, 0, none⟩ (.func (.func 190) #[] #[]) (p2.c 1 0) ?_
 refine Xg 30 2 6 30 ⟨gx2, 0, none⟩ (wT29 x2v.Op x2v.Text u54 x2v.L.length u56) (p2.pa 2 0) ?_
 refine Xg 30 3 7 30 ⟨b3, 0, none⟩ (wT29 x0.Op x0.Text u5 x0.L.length u7) (p2.pa 0 0) ?_
 refine Gb h fun y5 e6 h => ?_
 refine Gc (.call { callee := .value 5, args := #[6, 7], argTypes := #[30, 30] }) 8 4 190 _ (W.z78 (x2v, x0) y5 e6 _ _ _ _ _ _ p2 (u5j.ext z2) rfl (um.ext z2) rfl) ?_
 rintro _ w3 ⟨S3, rfl, z3, p3⟩
 have p3 := p3.dp 0
 refine Gn 2 [(4, .bool y5)] J17n ?_
 obtain rfl := sj h
 exact Xd Tryz.f234 (.bool y5) ⟨_, rfl, (z2.t z3), p3⟩
def Post.z7d (u30 : Nat) (us1 : Nat) (us2 : Option Addr) (us3 : Nat) (us4 : Nat) (us5 : T29) (r : Int) (v : Value) (w' : World) : Prop :=
 ∃ S', v = .i r ∧ Ext S0 w0 S' w' ∧ Hp nz wz S' w' ((some u30, .row 301 [.func (.func 190) #[] #[]] 1 0) :: (some us1, .row 30 (wT29 us5.Op us5.Text us2 us3 us4) 3 0) :: Lr)
def L.z7e (u30 : Nat) (us1 : Nat) (us2 : Option Addr) (us3 : Nat) (us4 : Nat) : (List T29) × Int × Int × T29 → Int → Prop := fun ⟨x0, x7, x8, us5⟩ r => ∀ S1 w1, Ext S0 w0 S1 w1 → ∀ Ax0 nx0 cx0 (_ : Hp nz wz S1 w1 ((some u30, .row 301 [.func (.func 190) #[] #[]] 1 0) :: (some us1, .row 30 (wT29 us5.Op us5.Text us2 us3 us4) 3 0) :: Lr)) (_ : Rd kT29 S1 w1 Ax0 cx0 x0) (_ : x0.length = nx0) (_ : Rd kT29 S1 w1 us2 us4 us5.L) (_ : us5.L.length = us3) (junk : Nat → Value),
 Goes Tg (base 195) J1k ⟨lfr 19 [(0, .slice Ax0 nx0 cx0), (1, .func (.func 234) #[] #[(pt u30 0), (pt us1 0)]), (7, .i x7), (8, .i x8)] junk, []⟩ w1 (Done Tg 195 (Rets (Post.z7d nz wz S0 w0 Lr u30 us1 us2 us3 us4 us5 r)))
theorem W.z7e {nz wz S0 w0 Lr} (u30 : Nat) (us1 : Nat) (us2 : Option Addr) (us3 : Nat) (us4 : Nat) : ∀ a r, M.a35 a = some r → (L.z7e nz wz S0 w0 Lr u30 us1 us2 us3 us4) a r := by
 refine M.a35.partial_correctness (motive := (L.z7e nz wz S0 w0 Lr u30 us1 us2 us3 us4)) ?_
 intro us6 us7 ⟨x0, x7, x8, us5⟩ r h S1 w1 hx Ax0 nx0 cx0 p1 fx0 lx0 u4j u4k junk
 try dsimp only at h
 subst lx0
 subst u4k
 refine Gn 5 [(9, .bool (decide (x8 < x7)))] J28 ?_
 refine Gi h (fun h3 h => ?_) fun h3 h => ?_
 ·
  rw [dt h3]
  refine Gm 14 [([10, 5, 13], .i x8), ([11], .func (.func 234) #[] #[(pt u30 0), (pt us1 0)]), ([12], Sl Ax0 x0 cx0)] J2c ?_
  refine Gg h fun g4 h => ?_
  refine Gg h fun g5 h => ?_
  refine Oi 28 12 13 14 0 30 .i64 x8 (gi x0 x8) rfl rfl fx0 Xa g4 g5 fun a6 _ f7 q8 => ?_
  have q9 := q8
  obtain ⟨_, _, rfl, rfl, ⟨_, _, rfl, rfl, ⟨A10, c11, rfl, f12⟩⟩⟩ := kT29_open q9
  refine Xg 30 14 15 30 a6 ([.i ((gi x0 x8).Op)] ++ ([.string ((gi x0 x8).Text)] ++ [.slice A10 (((gi x0 x8).L).length) c11])) (f7.cell) ?_
  refine Gb h fun y13 e14 h => ?_
  refine Gc (.call { callee := .value 11, args := #[15], argTypes := #[30] }) 16 4 234 _ (W.z7c (gi x0 x8) us5 y13 e14 _ _ _ _ _ _ _ _ p1 f12 rfl u4j rfl) ?_
  rintro _ w2 ⟨S2, rfl, z2, p2⟩
  refine Gn 1 [] J2b ?_
  refine Gi h (fun h15 h => ?_) fun h15 h => ?_
  ·
   rw [h15]
   refine Gm 6 [([17, 4], .i x8)] J2d ?_
   obtain rfl := sj h
   exact Xd Tryz.f195 (.i x8) ⟨_, rfl, (hx.t z2), p2⟩
  ·
   rw [bf h15]
   refine Gm 8 [([18, 8], .i (wr .i64 (x8 + 1)))] J1k ?_
   exact Gj 19 [(0, Sl Ax0 x0 cx0), (1, .func (.func 234) #[] #[(pt u30 0), (pt us1 0)]), (7, .i x7), (8, .i (wr .i64 (x8 + 1)))] (us7 _ _ h _ _ (hx.t z2) _ _ _ p2 (fx0.ext z2) rfl (u4j.ext z2) rfl)
 ·
  rw [df h3]
  refine Gn 6 [(4, .i (-1))] J2e ?_
  obtain rfl := sj h
  exact Xd Tryz.f195 (.i (-1)) ⟨_, rfl, hx, p1⟩
theorem W.z7d (x0 : List T29) (us5 : T29) (r : Int) (h : M.a5p x0 us5 = some r) {nz wz S0 w0 Lr} (Ax0 nx0 cx0 u30 us1 us2 us3 us4) (p0 : Hp nz wz S0 w0 ((some u30, .row 301 [.func (.func 190) #[] #[]] 1 0) :: (some us1, .row 30 (wT29 us5.Op us5.Text us2 us3 us4) 3 0) :: Lr)) (fx0 : Rd kT29 S0 w0 Ax0 cx0 x0) (lx0 : x0.length = nx0) (us8 : Rd kT29 S0 w0 us2 us4 us5.L) (us9 : us5.L.length = us3) :
  Calls Tg 195 #[.slice Ax0 nx0 cx0, .func (.func 234) #[] #[(pt u30 0), (pt us1 0)]] w0 (Rets (Post.z7d nz wz S0 w0 Lr u30 us1 us2 us3 us4 us5 r)) := by
 subst lx0
 subst us9
 refine Zf Tryz.f195 B195 17 ?_
 refine Gj 19 [(0, Sl Ax0 x0 cx0), (1, .func (.func 234) #[] #[(pt u30 0), (pt us1 0)])] fun junk => ?_
 delta M.a5p at h
 refine Gm 13 [([4, 8], .i 0), ([6], Sl Ax0 x0 cx0), ([7], .i (x0.length : Int))] J1k ?_
 exact Gj 19 [(0, Sl Ax0 x0 cx0), (1, .func (.func 234) #[] #[(pt u30 0), (pt us1 0)]), (7, .i (x0.length : Int)), (8, .i 0)] (W.z7e u30 us1 us2 us5.L.length us4 _ _ h _ _ (Xj S0 w0) _ _ _ p0 fx0 rfl us8 rfl)
def Post.z7f (u30 : Nat) (us1 : Nat) (us2 : Option Addr) (us3 : Nat) (us4 : Nat) (us5 : T29) (r : Bool) (v : Value) (w' : World) : Prop :=
 ∃ S', v = .bool r ∧ Ext S0 w0 S' w' ∧ Hp nz wz S' w' ((some u30, .row 301 [.func (.func 190) #[] #[]] 1 0) :: (some us1, .row 30 (wT29 us5.Op us5.Text us2 us3 us4) 3 0) :: Lr)
theorem W.z7f (x0 : List T29) (us5 : T29) (r : Bool) (h : M.a5q x0 us5 = some r) {nz wz S0 w0 Lr} (Ax0 nx0 cx0 u30 us1 us2 us3 us4) (p0 : Hp nz wz S0 w0 ((some u30, .row 301 [.func (.func 190) #[] #[]] 1 0) :: (some us1, .row 30 (wT29 us5.Op us5.Text us2 us3 us4) 3 0) :: Lr)) (fx0 : Rd kT29 S0 w0 Ax0 cx0 x0) (lx0 : x0.length = nx0) (us8 : Rd kT29 S0 w0 us2 us4 us5.L) (us9 : us5.L.length = us3) :
  Calls Tg 128 #[.slice Ax0 nx0 cx0, .func (.func 234) #[] #[(pt u30 0), (pt us1 0)]] w0 (Rets (Post.z7f nz wz S0 w0 Lr u30 us1 us2 us3 us4 us5 r)) := by
 subst lx0
 subst us9
 refine Zf Tryz.f128 B128 7 ?_
 refine Gj 9 [(0, Sl Ax0 x0 cx0), (1, .func (.func 234) #[] #[(pt u30 0), (pt us1 0)])] fun junk => ?_
 delta M.a5q at h
 refine Gn 8 [(4, .bool false), (5, Sl Ax0 x0 cx0), (6, .func (.func 234) #[] #[(pt u30 0), (pt us1 0)])] J26 ?_
 refine Gb h fun y3 e4 h => ?_
 refine Gc (kc 195 [5, 6] #[28, 232]) 7 3 195 _ (W.z7d x0 us5 y3 e4 _ _ _ _ _ _ _ _ p0 fx0 rfl us8 rfl) ?_
 rintro _ w2 ⟨S2, rfl, z2, p2⟩
 refine Gm 3 [([8, 4], .bool (decide (y3 ≥ 0)))] J25 ?_
 obtain rfl := sj h
 exact Xd Tryz.f128 (.bool (decide (y3 ≥ 0))) ⟨_, rfl, z2, p2⟩
def J17q := Zb 0 (Ys 1111 B189 [])
def Qyu := Yq 1110100 B189
def J17r := Zl Qyu J17q
def J17s := Zc Qyu J17r
def J17u := Zb 1 (Ys 1110100111 B189 J17r)
def J17z := Ys 1110100110011 B189 J17u
def Post.z7g (r : List T29) (v : Value) (w' : World) : Prop :=
 ∃ S' Gq nq cq csq kzq, v = .slice (Gp Gq) nq cq ∧ Ext S0 w0 S' w' ∧ Hp nz wz S' w' ((Gq, .row 30 csq (cq * kT29.size) kzq) :: Lr) ∧ Els kT29 S' w' csq r ∧ r.length = nq
def L.z7h : (List T29) × (List T29) × Int × Int → (List T29) → Prop := fun ⟨x5, x8, x9, x10⟩ r => ∀ S1 w1, Ext S0 w0 S1 w1 → ∀ gx3 Gx5 nx5 cx5 ugf usa Ax8 nx8 cx8 (_ : Hp nz wz S1 w1 ((some gx3, .row 301 [.func (.func 190) #[] #[]] 1 0) :: (Gx5, .row 30 ugf (cx5 * kT29.size) usa) :: Lr)) (_ : Els kT29 S1 w1 ugf x5) (_ : x5.length = nx5) (_ : Rd kT29 S1 w1 Ax8 cx8 x8) (_ : x8.length = nx8) (junk : Nat → Value),
 Goes Tg (base 189) J17s ⟨lfr 24 [(3, (pt gx3 0)), (5, .slice (Gp Gx5) nx5 cx5), (8, .slice Ax8 nx8 cx8), (9, .i x9), (10, .i x10)] junk, []⟩ w1 (Done Tg 189 (Rets (Post.z7g nz wz S0 w0 Lr r)))
def L.z7i : (List T29) × (List T29) × Int × Int → (List T29) → Prop := fun ⟨x5, x8, x9, x10⟩ r => ∀ S1 w1, Ext S0 w0 S1 w1 → ∀ gx3 Gx5 nx5 cx5 ugf usa Ax8 nx8 cx8 (_ : Hp nz wz S1 w1 ((some gx3, .row 301 [.func (.func 190) #[] #[]] 1 0) :: (Gx5, .row 30 ugf (cx5 * kT29.size) usa) :: Lr)) (_ : Els kT29 S1 w1 ugf x5) (_ : x5.length = nx5) (_ : Rd kT29 S1 w1 Ax8 cx8 x8) (_ : x8.length = nx8) (junk : Nat → Value),
 Goes Tg (base 189) J17u ⟨lfr 24 [(3, (pt gx3 0)), (5, .slice (Gp Gx5) nx5 cx5), (8, .slice Ax8 nx8 cx8), (9, .i x9), (10, .i x10)] junk, []⟩ w1 (Done Tg 189 (Rets (Post.z7g nz wz S0 w0 Lr r)))
theorem W.z7j {nz wz S0 w0 Lr} : (∀ a r, M.a1t a = some r → (L.z7h nz wz S0 w0 Lr) a r) ∧ (∀ a r, M.a36 a = some r → (L.z7i nz wz S0 w0 Lr) a r) := by
 refine M.a1t.mutual_partial_correctness (L.z7h nz wz S0 w0 Lr) (L.z7i nz wz S0 w0 Lr) ?_ ?_
 ·
  intro usb usc ⟨x5, x8, x9, x10⟩ r h S1 w1 hx gx3 Gx5 nx5 cx5 ugf usa Ax8 nx8 cx8 p1 fx5 lx5 fx8 lx8 junk
  try dsimp only at h
  subst lx5
  subst lx8
  refine Gn 5 [(11, .bool (decide (x10 < x9)))] (Ys 111010010 B189 (Ys 111010011 B189 J17r)) ?_
  refine Gi h (fun h6 h => ?_) fun h6 h => ?_
  ·
   rw [dt h6]
   refine Gn 6 [] (Yt 111010011000 B189 [0, 1, 2, 3] (Ys 111010011001 B189 J17u)) ?_
   refine Gg h fun g7 h => ?_
   refine Gg h fun g8 h => ?_
   refine Oi 28 8 10 12 0 30 .i64 x10 (gi x8 x10) rfl rfl fx8 Xa g7 g8 fun a9 _ f10 q11 => ?_
   have q12 := q11
   obtain ⟨_, _, rfl, rfl, ⟨_, _, rfl, rfl, ⟨A13, c14, rfl, f15⟩⟩⟩ := kT29_open q12
   refine Xg 30 12 13 30 a9 ([.i ((gi x8 x10).Op)] ++ ([.string ((gi x8 x10).Text)] ++ [.slice A13 (((gi x8 x10).L).length) c14])) (f10.cell) ?_
   refine Oa 30 7 0 (.agg #[.i 0, .string bE, Sn]) [.i 0, .string bE, Sn] p1 Xa fun b16 w3 z3 p3 => ?_
   refine So 30 7 13 0 0 b16 0 ((ag (wT29 (gi x8 x10).Op (gi x8 x10).Text A13 (((gi x8 x10).L).length) c14))) (wT29 (gi x8 x10).Op (gi x8 x10).Text A13 (((gi x8 x10).L).length) c14) p3 rfl Xe fun w4 z4 p4 => ?_
   refine Gn 5 [(14, Sl (Gp Gx5) x5 cx5), (15, .func (.func 234) #[] #[(pt gx3 0), (pt b16 0)])] (Yt 1110100110010 B189 [2, 3] J17z) ?_
   obtain ⟨S5, z5, p5, f18⟩ := p4.freezeRd 2 rfl (fx5.ext (z3.t z4)) (by decide)
   have p5 := (p5.fr 0).fr 1
   refine Gb h fun y19 e20 h => ?_
   refine Gc (kc 128 [14, 15] #[28, 232]) 16 4 128 _ (W.z7f x5 (gi x8 x10) y19 e20 _ _ _ _ _ _ _ _ p5 f18 rfl (f15.ext ((z3.t z4).t z5)) rfl) ?_
   rintro _ w6 ⟨S6, rfl, z6, p6⟩
   refine Gn 2 [(17, .bool (!y19))] J17z ?_
   refine Gi h (fun h21 h => ?_) fun h21 h => ?_
   ·
    rw [h21]
    refine Gn 2 [] J17u ?_
    have p6 := p6.dp 1
    exact Gj 24 [(3, (pt gx3 0)), (5, Sl (Gp Gx5) x5 cx5), (8, Sl Ax8 x8 cx8), (9, .i x9), (10, .i x10)] (usc _ _ h _ _ ((((hx.t z3).t z4).t z5).t z6) _ _ _ _ _ _ _ _ _ p6 (fx5.ext (((z3.t z4).t z5).t z6)) rfl (fx8.ext (((z3.t z4).t z5).t z6)) rfl)
   ·
    rw [bf h21]
    refine Gn 3 [(18, Sl (Gp Gx5) x5 cx5)] (Yt 11101001100110 B189 [1, 2, 3, 4] J17u) ?_
    refine Xg 30 7 19 30 ⟨b16, 0, none⟩ (wT29 (gi x8 x10).Op (gi x8 x10).Text A13 (((gi x8 x10).L).length) c14) (p6.pa 1 0) ?_
    have f25 : Els kT29 S6 w6 ((wT29 (gi x8 x10).Op (gi x8 x10).Text A13 (((gi x8 x10).L).length) c14) : List Value) [gi x8 x10] := by exact (Els.cons (K := kT29) (vs := (wT29 (gi x8 x10).Op (gi x8 x10).Text A13 (((gi x8 x10).L).length) c14)) (x := gi x8 x10) (kT29_close ⟨[.i ((gi x8 x10).Op)], [.string ((gi x8 x10).Text), .slice A13 (((gi x8 x10).L).length) c14], rfl, rfl, ⟨[.string ((gi x8 x10).Text)], [.slice A13 (((gi x8 x10).L).length) c14], rfl, rfl, ⟨_, _, rfl, (f15.ext (((z3.t z4).t z5).t z6))⟩⟩⟩) Els.nil)
    refine Om (.buildSlice 28 1 #[(0, 19)]) 20 28 (fun b => .slice (Gp (some b)) 1 1) 30 ((wT29 (gi x8 x10).Op (gi x8 x10).Text A13 (((gi x8 x10).L).length) c14) : List Value) (1 * kT29.size) p6 Xa fun b24 w7 z7 p7 => ?_
    refine Gg h fun g30 h => ?_
    refine On (K := kT29) 28 18 20 21 28 30 3 (.agg #[.i 0, .string ⟨#[]⟩, Sn]) 48 x5.length cx5 1 x5 [gi x8 x10] (x5 ++ [gi x8 x10]) (Gp (some b24)) 1 rfl rfl rfl p7 rfl (fx5.ext ((((z3.t z4).t z5).t z6).t z7)) Xa (f25.ext z7) (src_own p7 (q := 0) rfl) g30 fun w8 G31 c32 usd z8 p8 f34 => ?_
    refine Gn 2 [(5, .slice (Gp G31) ((x5 ++ [gi x8 x10]).length) c32)] J17u ?_
    have p8 := (p8.dp 0).dp 1
    exact Gj 24 [(3, (pt gx3 0)), (5, .slice (Gp G31) ((x5 ++ [gi x8 x10]).length) c32), (8, Sl Ax8 x8 cx8), (9, .i x9), (10, .i x10)] (usc _ _ h _ _ ((((((hx.t z3).t z4).t z5).t z6).t z7).t z8) _ _ _ _ _ _ _ _ _ p8 f34 rfl (fx8.ext (((((z3.t z4).t z5).t z6).t z7).t z8)) rfl)
  ·
   rw [df h6]
   refine Gm 7 [([23, 4], Sl (Gp Gx5) x5 cx5)] (Ys 11111 B189 []) ?_
   obtain rfl := sj h
   have p1 := p1.dp 0
   exact Xd Tryz.f189 (Sl (Gp Gx5) x5 cx5) ⟨_, _, _, _, _, _, rfl, hx, p1, fx5, rfl⟩
 ·
  intro use usf ⟨x5, x8, x9, x10⟩ r h S1 w1 hx gx3 Gx5 nx5 cx5 ugf usa Ax8 nx8 cx8 p1 fx5 lx5 fx8 lx8 junk
  try dsimp only at h
  subst lx5
  subst lx8
  refine Gm 6 [([22, 10], .i (wr .i64 (x10 + 1)))] J17s ?_
  exact Gj 24 [(3, (pt gx3 0)), (5, Sl (Gp Gx5) x5 cx5), (8, Sl Ax8 x8 cx8), (9, .i x9), (10, .i (wr .i64 (x10 + 1)))] (usf _ _ h _ _ hx _ _ _ _ _ _ _ _ _ p1 fx5 rfl fx8 rfl)
theorem W.z7h {nz wz S0 w0 Lr} : ∀ a r, M.a1t a = some r → (L.z7h nz wz S0 w0 Lr) a r := (W.z7j).1
theorem W.z7i {nz wz S0 w0 Lr} : ∀ a r, M.a36 a = some r → (L.z7i nz wz S0 w0 Lr) a r := (W.z7j).2
theorem W.z7g (x0 : List T29) (r : List T29) (h : M.a5r x0 = some r) {nz wz S0 w0 Lr} (Ax0 nx0 cx0) (p0 : Hp nz wz S0 w0 (Lr)) (fx0 : Rd kT29 S0 w0 Ax0 cx0 x0) (lx0 : x0.length = nx0) :
  Calls Tg 189 #[.slice Ax0 nx0 cx0, .func (.func 190) #[] #[]] w0 (Rets (Post.z7g nz wz S0 w0 Lr r)) := by
 subst lx0
 refine Zf Tryz.f189 B189 22 ?_
 refine Gj 24 [(0, Sl Ax0 x0 cx0), (1, .func (.func 190) #[] #[])] fun junk => ?_
 delta M.a5r at h
 refine Gn 2 [] (Yt 10 B189 [0, 1] (Ys 11 B189 [])) ?_
 refine Ob 301 1 3 0 (.func (.func 190) #[] #[]) [.func (.func 190) #[] #[]] p0 Xa fun b1 w2 z2 p2 => ?_
 refine Gm 14 [([4, 5], Sn), ([8], Sl Ax0 x0 cx0), ([9], .i (x0.length : Int)), ([10], .i 0)] (Ys 111010 B189 J17q) ?_
 refine Gn 1 [] J17s ?_
 have p2 : Hp nz wz S0 w2 ((none, .row 30 [] (0 * kT29.size) 0) :: (some b1, .row 301 [.func (.func 190) #[] #[]] 1 0) :: Lr) := p2.nilRow' 30
 have p2 := (p2.fr 0).fr 1
 exact Gj 24 [(3, (pt b1 0)), (5, .slice (Gp none) 0 0), (8, Sl Ax0 x0 cx0), (9, .i (x0.length : Int)), (10, .i 0)] (W.z7h _ _ h _ _ z2 _ none 0 0 [] 0 _ _ _ p2 (Els.nil (K := kT29)) rfl (fx0.ext z2) rfl)
def J186 := Ys 11111 B118 []
def Qz8 := Yq 11110100 B118
def J188 := Zl Qz8 (Zb 0 J186)
def J189 := Zc Qz8 J188
def J18b := Zb 1 (Ys 11110100111 B118 J188)
def J18c := Zb 2 J18b
def J18m := Ys 11110100110011011101 B118 J18c
def J18q := Ys 111111 B118 []
def J18t := Zb 3 J18q
def J18v := Ys 111110110101 B118 J18t
def J18y := Ys 11111011011101 B118 J18t
def J190 := Ys 1111111 B118 []
def Post.z7k (r : T29) (v : Value) (w' : World) : Prop :=
 ∃ S' ug4 u1 u2, v = (ag (wT29 r.Op r.Text ug4 u1 u2)) ∧ Ext S0 w0 S' w' ∧ Hp nz wz S' w' (Lr) ∧ Rd kT29 S' w' ug4 u2 r.L ∧ r.L.length = u1
def L.z7l : Int × T29 × Int × Int × (List T29) × (List T29) × Int × Int → T29 → Prop := fun ⟨x0, x4v, x5, x6, x7, x15, x16, x17⟩ r => ∀ S1 w1, Ext S0 w0 S1 w1 → ∀ gx4 u57 u58 u59 u5a Gx7 nx7 cx7 ue5 uba ubb ubc (_ : Hp nz wz S1 w1 ((some gx4, .row 30 (wT29 x4v.Op x4v.Text (Gp u57) u58 u59) 3 0) :: (u57, .row 30 u5a (u59 * kT29.size) 0) :: (Gx7, .row 30 ue5 (cx7 * kT29.size) 0) :: Lr)) (_ : Els kT29 S1 w1 u5a x4v.L) (_ : x4v.L.length = u58) (_ : Els kT29 S1 w1 ue5 x7) (_ : x7.length = nx7) (_ : Rd kT29 S1 w1 uba ubc x15) (_ : x15.length = ubb) (junk : Nat → Value),
 Goes Tg (base 118) J189 ⟨lfr 59 [(0, .i x0), (4, (pt gx4 0)), (5, .i x5), (6, .i x6), (7, .slice (Gp Gx7) nx7 cx7), (15, .slice uba ubb ubc), (16, .i x16), (17, .i x17)] junk, []⟩ w1 (Done Tg 118 (Rets (Post.z7k nz wz S0 w0 Lr r)))
def L.z7m : Int × T29 × Int × Int × (List T29) × (List T29) × Int × Int → T29 → Prop := fun ⟨x0, x4v, x5, x6, x7, x15, x16, x17⟩ r => ∀ S1 w1, Ext S0 w0 S1 w1 → ∀ gx4 u57 u58 u59 u5a Gx7 nx7 cx7 ue5 uba ubb ubc (_ : Hp nz wz S1 w1 ((some gx4, .row 30 (wT29 x4v.Op x4v.Text (Gp u57) u58 u59) 3 0) :: (u57, .row 30 u5a (u59 * kT29.size) 0) :: (Gx7, .row 30 ue5 (cx7 * kT29.size) 0) :: Lr)) (_ : Els kT29 S1 w1 u5a x4v.L) (_ : x4v.L.length = u58) (_ : Els kT29 S1 w1 ue5 x7) (_ : x7.length = nx7) (_ : Rd kT29 S1 w1 uba ubc x15) (_ : x15.length = ubb) (junk : Nat → Value),
 Goes Tg (base 118) J18c ⟨lfr 59 [(0, .i x0), (4, (pt gx4 0)), (5, .i x5), (6, .i x6), (7, .slice (Gp Gx7) nx7 cx7), (15, .slice uba ubb ubc), (16, .i x16), (17, .i x17)] junk, []⟩ w1 (Done Tg 118 (Rets (Post.z7k nz wz S0 w0 Lr r)))
theorem W.z7n {nz wz S0 w0 Lr} : (∀ a r, M.a1u a = some r → (L.z7l nz wz S0 w0 Lr) a r) ∧ (∀ a r, M.a1v a = some r → (L.z7m nz wz S0 w0 Lr) a r) := by
 refine M.a1u.mutual_partial_correctness (L.z7l nz wz S0 w0 Lr) (L.z7m nz wz S0 w0 Lr) ?_ ?_
 ·
  intro usg ush ⟨x0, x4v, x5, x6, x7, x15, x16, x17⟩ r h S1 w1 hx gx4 u57 u58 u59 u5a Gx7 nx7 cx7 ue5 uba ubb ubc p1 u5l u5m fx7 lx7 ubf ubg junk
  try dsimp only at h
  subst u5m
  subst lx7
  subst ubg
  refine Gn 5 [(18, .bool (decide (x17 < x16)))] (Ys 1111010010 B118 (Ys 1111010011 B118 J188)) ?_
  refine Gi h (fun h10 h => ?_) fun h10 h => ?_
  ·
   rw [dt h10]
   refine Gn 6 [] (Yt 1111010011000 B118 [0, 1, 2, 3] (Ys 1111010011001 B118 J18b)) ?_
   refine Gg h fun g11 h => ?_
   refine Gg h fun g12 h => ?_
   refine Oi 28 15 17 19 0 30 .i64 x17 (gi x15 x17) rfl rfl ubf Xa g11 g12 fun a13 _ f14 q15 => ?_
   have q16 := q15
   obtain ⟨_, _, rfl, rfl, ⟨_, _, rfl, rfl, ⟨A17, c18, rfl, f19⟩⟩⟩ := kT29_open q16
   refine Xg 30 19 20 30 a13 ([.i ((gi x15 x17).Op)] ++ ([.string ((gi x15 x17).Text)] ++ [.slice A17 (((gi x15 x17).L).length) c18])) (f14.cell) ?_
   refine Oa 30 9 0 (.agg #[.i 0, .string bE, Sn]) [.i 0, .string bE, Sn] p1 Xa fun b20 w4 z4 p4 => ?_
   refine So 30 9 20 0 0 b20 0 ((ag (wT29 (gi x15 x17).Op (gi x15 x17).Text A17 (((gi x15 x17).L).length) c18))) (wT29 (gi x15 x17).Op (gi x15 x17).Text A17 (((gi x15 x17).L).length) c18) p4 rfl Xe fun w5 z5 p5 => ?_
   refine Gn 4 [(21, (pt b20 0))] (Yt 11110100110010 B118 [1] (Ys 11110100110011 B118 J18b)) ?_
   refine Xc 3 21 22 3 ⟨b20, 0, none⟩ (.i ((gi x15 x17).Op)) (p5.c 0 0) ?_
   refine Gm 8 [([28], .i x0), ([29, 27], .bool (decide ((gi x15 x17).Op = x0)))] (Ys 1111010011001101 B118 J18c) ?_
   refine Gi h (fun h22 h => ?_) fun h22 h => ?_
   ·
    rw [dt h22]
    refine Gn 4 [(30, Sl (Gp Gx7) x7 cx7), (31, (pt b20 2))] (Yt 11110100110011010 B118 [2, 3, 4] J18c) ?_
    refine Xc 28 31 32 28 ⟨b20, 2, none⟩ (.slice A17 (((gi x15 x17).L).length) c18) (p5.c 0 2) ?_
    obtain ⟨uc6, f24, f25⟩ := src_rd (f19.ext (z4.t z5))
    refine Gg h fun g26 h => ?_
    refine On (K := kT29) 28 30 32 33 28 30 3 (.agg #[.i 0, .string ⟨#[]⟩, Sn]) 48 x7.length cx7 (((gi x15 x17).L).length) x7 ((gi x15 x17).L) (x7 ++ (gi x15 x17).L) A17 c18 rfl rfl rfl p5 rfl (fx7.ext (z4.t z5)) Xa f24 f25 g26 fun w6 G27 c28 uc7 z6 p6 f30 => ?_
    refine Gn 2 [(7, .slice (Gp G27) ((x7 ++ (gi x15 x17).L).length) c28)] J18c ?_
    have p6 := p6.dp 0
    exact Gj 59 [(0, .i x0), (4, (pt gx4 0)), (5, .i x5), (6, .i x6), (7, .slice (Gp G27) ((x7 ++ (gi x15 x17).L).length) c28), (15, Sl uba x15 ubc), (16, .i x16), (17, .i x17)] (ush _ _ h _ _ (((hx.t z4).t z5).t z6) _ _ _ _ _ _ _ _ _ _ _ _ p6 (u5l.ext ((z4.t z5).t z6)) rfl f30 rfl (ubf.ext ((z4.t z5).t z6)) rfl)
   ·
    rw [df h22]
    refine Gm 7 [([35], .i x6), ([36, 34], .bool (decide ((gi x15 x17).Op = x6)))] (Ys 111101001100110111 B118 J18c) ?_
    refine Gi h (fun h34 h => ?_) fun h34 h => ?_
    ·
     rw [dt h34]
     refine Gn 5 [(37, .i x6), (38, .agg #[.i x6, .string bE, Sn])] (Yt 11110100110011011100 B118 [2] J18m) ?_
     refine So 30 4 38 0 1 gx4 0 (.agg #[.i x6, .string bE, Sn]) [.i x6, .string bE, Sn] p5 rfl Xe fun w7 z7 p7 => ?_
     refine Gn 1 [] J18m ?_
     obtain rfl := sj h
     have p7 := ((p7.dp 0).dp 1).dp 1
     exact R1 Tryz.f118 (.cell 4 30) (.agg #[.i x6, .string bE, Sn]) (Rn gx4 (p7.pa 0 0)) ⟨_, _, _, _, rfl, (((hx.t z4).t z5).t z7), p7.drop, Xr, rfl⟩
    ·
     rw [df h34]
     refine Gm 7 [([40], .i x5), ([41, 39], .bool (decide ((gi x15 x17).Op = x5)))] (Ys 11110100110011011111 B118 J18c) ?_
     refine Gi h (fun h35 h => ?_) fun h35 h => ?_
     ·
      rw [dt h35]
      refine Gn 2 [] J18c ?_
      have p5 := p5.dp 0
      exact Gj 59 [(0, .i x0), (4, (pt gx4 0)), (5, .i x5), (6, .i x6), (7, Sl (Gp Gx7) x7 cx7), (15, Sl uba x15 ubc), (16, .i x16), (17, .i x17)] (ush _ _ h _ _ ((hx.t z4).t z5) _ _ _ _ _ _ _ _ _ _ _ _ p5 (u5l.ext (z4.t z5)) rfl (fx7.ext (z4.t z5)) rfl (ubf.ext (z4.t z5)) rfl)
     ·
      rw [df h35]
      refine Gn 3 [(23, Sl (Gp Gx7) x7 cx7)] (Yt 111101001100110111111 B118 [1, 2, 3, 4] J18c) ?_
      refine Xg 30 9 24 30 ⟨b20, 0, none⟩ (wT29 (gi x15 x17).Op (gi x15 x17).Text A17 (((gi x15 x17).L).length) c18) (p5.pa 0 0) ?_
      have f37 : Els kT29 S1 w5 ((wT29 (gi x15 x17).Op (gi x15 x17).Text A17 (((gi x15 x17).L).length) c18) : List Value) [gi x15 x17] := by exact (Els.cons (K := kT29) (vs := (wT29 (gi x15 x17).Op (gi x15 x17).Text A17 (((gi x15 x17).L).length) c18)) (x := gi x15 x17) (kT29_close ⟨[.i ((gi x15 x17).Op)], [.string ((gi x15 x17).Text), .slice A17 (((gi x15 x17).L).length) c18], rfl, rfl, ⟨[.string ((gi x15 x17).Text)], [.slice A17 (((gi x15 x17).L).length) c18], rfl, rfl, ⟨_, _, rfl, (f19.ext (z4.t z5))⟩⟩⟩) Els.nil)
      refine Om (.buildSlice 28 1 #[(0, 24)]) 25 28 (fun b => .slice (Gp (some b)) 1 1) 30 ((wT29 (gi x15 x17).Op (gi x15 x17).Text A17 (((gi x15 x17).L).length) c18) : List Value) (1 * kT29.size) p5 Xa fun b36 w8 z8 p8 => ?_
      refine Gg h fun g42 h => ?_
      refine On (K := kT29) 28 23 25 26 28 30 4 (.agg #[.i 0, .string ⟨#[]⟩, Sn]) 48 x7.length cx7 1 x7 [gi x15 x17] (x7 ++ [gi x15 x17]) (Gp (some b36)) 1 rfl rfl rfl p8 rfl (fx7.ext ((z4.t z5).t z8)) Xa (f37.ext z8) (src_own p8 (q := 0) rfl) g42 fun w9 G43 c44 usi z9 p9 f46 => ?_
      refine Gn 2 [(7, .slice (Gp G43) ((x7 ++ [gi x15 x17]).length) c44)] J18c ?_
      have p9 := (p9.dp 0).dp 0
      exact Gj 59 [(0, .i x0), (4, (pt gx4 0)), (5, .i x5), (6, .i x6), (7, .slice (Gp G43) ((x7 ++ [gi x15 x17]).length) c44), (15, Sl uba x15 ubc), (16, .i x16), (17, .i x17)] (ush _ _ h _ _ ((((hx.t z4).t z5).t z8).t z9) _ _ _ _ _ _ _ _ _ _ _ _ p9 (u5l.ext (((z4.t z5).t z8).t z9)) rfl f46 rfl (ubf.ext (((z4.t z5).t z8).t z9)) rfl)
  ·
   rw [df h10]
   refine Gn 6 [(43, Sl (Gp Gx7) x7 cx7)] (Yt 1111100 B118 [1, 2] (Ys 1111101 B118 J18q)) ?_
   obtain ⟨S10, z10, p10, f47⟩ := p1.freezeRd 2 rfl fx7 (by decide)
   refine Gb h fun y48 e49 h => ?_
   refine Gc (.call { callee := .value (.func 189), args := #[43, (.func 190)], argTypes := #[28, 301] }) 44 28 189 _ (W.z7g x7 y48 e49 _ _ _ p10 f47 rfl) ?_
   rintro _ w11 ⟨S11, uqk, uql, uqm, uqn, usj, rfl, z11, p11, umy, rfl⟩
   have p11 := p11.dp 3
   refine Gm 13 [([7, 45], Sl (Gp uqk) y48 uqm), ([46], .i (y48.length : Int)), ([48, 47], .bool (decide ((y48.length : Int) = 0)))] (Ys 1111101101 B118 J18t) ?_
   refine Gi h (fun h51 h => ?_) fun h51 h => ?_
   ·
    rw [dt h51]
    refine Gn 5 [(49, .i x5), (50, .agg #[.i x5, .string bE, Sn])] (Yt 111110110100 B118 [2] J18v) ?_
    refine So 30 4 50 0 1 gx4 0 (.agg #[.i x5, .string bE, Sn]) [.i x5, .string bE, Sn] p11 rfl Xe fun w12 z12 p12 => ?_
    refine Gn 1 [] J18v ?_
    obtain rfl := sj h
    have p12 := (p12.dp 0).dp 1
    exact R1 Tryz.f118 (.cell 4 30) (.agg #[.i x5, .string bE, Sn]) (Rn gx4 (p12.pa 0 0)) ⟨_, _, _, _, rfl, (((hx.t z10).t z11).t z12), p12.drop, Xr, rfl⟩
   ·
    rw [df h51]
    refine Gm 6 [([52, 51], .bool (decide ((y48.length : Int) = 1)))] (Ys 111110110111 B118 J18t) ?_
    refine Gi h (fun h52 h => ?_) fun h52 h => ?_
    ·
     rw [dt h52]
     refine Gn 4 [(53, Sl (Gp uqk) y48 uqm)] (Yt 11111011011100 B118 [1, 2, 3] J18y) ?_
     refine Gg h fun g53 h => ?_
     refine X0 28 53 (.const (.int .i64 0)) 54 0 30 .i64 0 0 y48.length uqm (gi y48 0) rfl rfl p11 rfl umy Xa (by kernel_rfl) (by kernel_rfl) (by kernel_rfl) (by kernel_rfl) (by decide) (by decide : (0 : Int) ≤ 0) g53 ?_
     rintro b54 _ rfl q56 f55
     have q57 := q56
     obtain ⟨_, _, rfl, rfl, ⟨_, _, rfl, rfl, ⟨A58, c59, rfl, f60⟩⟩⟩ := kT29_open q57
     refine Xg 30 54 55 30 ⟨b54, (0 : Int).toNat * kT29.size, none⟩ ([.i ((gi y48 0).Op)] ++ ([.string ((gi y48 0).Text)] ++ [.slice A58 (((gi y48 0).L).length) c59])) f55 ?_
     refine So 30 4 55 0 1 gx4 0 ((ag (wT29 (gi y48 0).Op (gi y48 0).Text A58 (((gi y48 0).L).length) c59))) (wT29 (gi y48 0).Op (gi y48 0).Text A58 (((gi y48 0).L).length) c59) p11 rfl Xe fun w13 z13 p13 => ?_
     refine Gn 1 [] J18y ?_
     obtain rfl := sj h
     have p13 := (p13.dp 0).dp 1
     exact R1 Tryz.f118 (.cell 4 30) ((ag (wT29 (gi y48 0).Op (gi y48 0).Text A58 (((gi y48 0).L).length) c59))) (Rn gx4 (p13.pa 0 0)) ⟨_, _, _, _, rfl, (((hx.t z10).t z11).t z13), p13.drop, (f60.ext z13), rfl⟩
    ·
     rw [df h52]
     refine Gn 8 [(56, .i x0), (57, Sl (Gp uqk) y48 uqm), (58, .agg #[.i x0, .string bE, Sl (Gp uqk) y48 uqm])] (Yt 1111110 B118 [3] J190) ?_
     refine So 30 4 58 0 1 gx4 0 (.agg #[.i x0, .string bE, Sl (Gp uqk) y48 uqm]) [.i x0, .string bE, Sl (Gp uqk) y48 uqm] p11 rfl Xe fun w14 z14 p14 => ?_
     refine Gn 1 [] J190 ?_
     obtain ⟨S15, z15, p15, f62⟩ := p14.freezeRd 0 rfl (umy.ext z14) (by decide)
     obtain rfl := sj h
     have p15 := (p15.dp 0).dp 1
     exact R1 Tryz.f118 (.cell 4 30) (.agg #[.i x0, .string bE, Sl (Gp uqk) y48 uqm]) (Rn gx4 (p15.pa 0 0)) ⟨_, _, _, _, rfl, ((((hx.t z10).t z11).t z14).t z15), p15.drop, f62, rfl⟩
 ·
  intro usk usl ⟨x0, x4v, x5, x6, x7, x15, x16, x17⟩ r h S1 w1 hx gx4 u57 u58 u59 u5a Gx7 nx7 cx7 ue5 uba ubb ubc p1 u5l u5m fx7 lx7 ubf ubg junk
  try dsimp only at h
  subst u5m
  subst lx7
  subst ubg
  refine Gm 7 [([42, 17], .i (wr .i64 (x17 + 1)))] J189 ?_
  exact Gj 59 [(0, .i x0), (4, (pt gx4 0)), (5, .i x5), (6, .i x6), (7, Sl (Gp Gx7) x7 cx7), (15, Sl uba x15 ubc), (16, .i x16), (17, .i (wr .i64 (x17 + 1)))] (usl _ _ h _ _ hx _ _ _ _ _ _ _ _ _ _ _ _ p1 u5l rfl fx7 rfl ubf rfl)
theorem W.z7l {nz wz S0 w0 Lr} : ∀ a r, M.a1u a = some r → (L.z7l nz wz S0 w0 Lr) a r := (W.z7n).1
theorem W.z7m {nz wz S0 w0 Lr} : ∀ a r, M.a1v a = some r → (L.z7m nz wz S0 w0 Lr) a r := (W.z7n).2
theorem W.z7k (x0 : Int) (x1 : List T29) (r : T29) (h : M.az x0 x1 = some r) {nz wz S0 w0 Lr} (Ax1 nx1 cx1) (p0 : Hp nz wz S0 w0 (Lr)) (fx1 : Rd kT29 S0 w0 Ax1 cx1 x1) (lx1 : x1.length = nx1) :
  Calls Tg 118 #[.i x0, .slice Ax1 nx1 cx1] w0 (Rets (Post.z7k nz wz S0 w0 Lr r)) := by
 subst lx1
 refine Zf Tryz.f118 B118 57 ?_
 refine Gj 59 [(0, .i x0), (1, Sl Ax1 x1 cx1)] fun junk => ?_
 delta M.az at h
 refine Gn 2 [] (Yt 10 B118 [0] (Ys 11 B118 [])) ?_
 refine Oa 30 4 0 (.agg #[.i 0, .string bE, Sn]) [.i 0, .string bE, Sn] p0 Xa fun b1 w2 z2 p2 => ?_
 refine Gn 4 [(11, .i x0)] (Yt 110 B118 [1, 2, 3, 4, 5, 6] (Ys 111 B118 [])) ?_
 refine Gb h fun y3 e4 h => ?_
 refine Gc (kc 188 [11] #[3]) 12 128 188 _ (W.z77 x0 y3 e4  p2 ) ?_
 rintro _ w3 ⟨S3, rfl, z3, p3⟩
 refine Gm 14 [([10], .tuple #[.i y3.1, .i y3.2]), ([13, 5], .i y3.1), ([14, 6], .i y3.2), ([7], Sn), ([15], Sl Ax1 x1 cx1)] (Yt 111100 B118 [1, 2] (Ys 111101 B118 J186)) ?_
 refine Gn 5 [(16, .i (x1.length : Int)), (17, .i 0)] J189 ?_
 have p3 : Hp nz wz S3 w3 ((none, .row 30 [] (0 * kT29.size) 0) :: (some b1, .row 30 [.i 0, .string bE, Sn] 3 0) :: Lr) := p3.nilRow' 30
 have p3 : Hp nz wz S3 w3 ((none, .row 30 [] (0 * kT29.size) 0) :: (none, .row 30 [] (0 * kT29.size) 0) :: (some b1, .row 30 [.i 0, .string bE, .slice (Gp none) 0 0] 3 0) :: Lr) := p3.nilRow' 30
 have p3 := ((p3.fr 0).fr 1).fr 2
 exact Gj 59 [(0, .i x0), (4, (pt b1 0)), (5, .i y3.1), (6, .i y3.2), (7, .slice (Gp none) 0 0), (15, Sl Ax1 x1 cx1), (16, .i (x1.length : Int)), (17, .i 0)] (W.z7l _ _ h _ _ (z2.t z3) _ none 0 0 [] none 0 0 [] _ _ _ p3 (Els.nil (K := kT29)) rfl (Els.nil (K := kT29)) rfl (fx1.ext (z2.t z3)) rfl)
def J198 := Ys 1111 B116 []
def Q105 := Yq 1110100 B116
def J19a := Zl Q105 (Zb 0 J198)
def J19b := Zc Q105 J19a
def J19d := Zb 1 (Ys 1110100111 B116 J19a)
def Q107 := Yq 11101001100111 B116
def J19e := Zc Q107 J19d
def Q108 := Yq 11101001100110100 B116
def J19g := Zl Q108 (Zb 2 J19e)
def J19h := Zc Q108 J19g
def J19o := Ys 11111 B116 []
def J19r := Ys 1110100110011010010 B116 (Ys 1110100110011010011 B116 J19g)
def J19t := Zb 3 (Ys 11101001100110100111 B116 J19g)
def Q10k := Yq 1110100110011010011001 B116
def J19v := Yt 1110100110011010011000 B116 [0, 1, 2] (Zc Q10k J19t)
def J19w := Zr Q10k [3, 4, 5] J19t
def J19x := Zr Q107 [2, 3, 4, 5] J19d
def Post.z7o (r : T29) (v : Value) (w' : World) : Prop :=
 ∃ S' ug4 u1 u2, v = (ag (wT29 r.Op r.Text ug4 u1 u2)) ∧ Ext S0 w0 S' w' ∧ Hp nz wz S' w' (Lr) ∧ Rd kT29 S' w' ug4 u2 r.L ∧ r.L.length = u1
def L.z7p : T29 × (List T29) × (List ByteArray) × Int × Int → T29 → Prop := fun ⟨x2v, x3, x10, x11, x12⟩ r => ∀ S1 w1, Ext S0 w0 S1 w1 → ∀ gx2 ulw u55 u56 ulx Gx3 nx3 cx3 u6j usm ufi ufj (_ : Hp nz wz S1 w1 ((some gx2, .row 30 (wT29 x2v.Op x2v.Text (Gp ulw) u55 u56) 3 0) :: (ulw, .row 30 ulx (u56 * kT29.size) 0) :: (Gx3, .row 30 u6j (cx3 * kT29.size) 0) :: Lr)) (_ : Els kT29 S1 w1 ulx x2v.L) (_ : x2v.L.length = u55) (_ : Els kT29 S1 w1 u6j x3) (_ : x3.length = nx3) (_ : Rd kStr S1 w1 usm ufj x10) (_ : x10.length = ufi) (junk : Nat → Value),
 Goes Tg (base 116) J19b ⟨lfr 37 [(2, (pt gx2 0)), (3, .slice (Gp Gx3) nx3 cx3), (10, .slice usm ufi ufj), (11, .i x11), (12, .i x12)] junk, []⟩ w1 (Done Tg 116 (Rets (Post.z7o nz wz S0 w0 Lr r)))
def L.z7q : T29 × (List T29) × (List ByteArray) × Int × Int × (List ByteArray) × Int × Int → T29 → Prop := fun ⟨x2v, x3, x10, x11, x12, x17, x18, x19⟩ r => ∀ S1 w1, Ext S0 w0 S1 w1 → ∀ gx2 ulw u55 u56 ulx Gx3 nx3 cx3 u6j usm ufi ufj usn uso usp usq (_ : Hp nz wz S1 w1 ((some gx2, .row 30 (wT29 x2v.Op x2v.Text (Gp ulw) u55 u56) 3 0) :: (ulw, .row 30 ulx (u56 * kT29.size) 0) :: (Gx3, .row 30 u6j (cx3 * kT29.size) 0) :: (usn, .row 9 usq (usp * kStr.size) 0) :: Lr)) (_ : Els kT29 S1 w1 ulx x2v.L) (_ : x2v.L.length = u55) (_ : Els kT29 S1 w1 u6j x3) (_ : x3.length = nx3) (_ : Rd kStr S1 w1 usm ufj x10) (_ : x10.length = ufi) (_ : Els kStr S1 w1 usq x17) (_ : x17.length = uso) (junk : Nat → Value),
 Goes Tg (base 116) J19h ⟨lfr 37 [(2, (pt gx2 0)), (3, .slice (Gp Gx3) nx3 cx3), (6, Sn), (10, .slice usm ufi ufj), (11, .i x11), (12, .i x12), (17, .slice (Gp usn) uso usp), (18, .i x18), (19, .i x19)] junk, []⟩ w1 (Done Tg 116 (Rets (Post.z7o nz wz S0 w0 Lr r)))
def L.z7r : T29 × (List T29) × (List T29) × (List ByteArray) × Int × Int × (List ByteArray) × Int × Int → T29 → Prop := fun ⟨x2v, x3, x6, x10, x11, x12, x17, x18, x19⟩ r => ∀ S1 w1, Ext S0 w0 S1 w1 → ∀ gx2 ulw u55 u56 ulx Gx3 nx3 cx3 u6j Gx6 nx6 cx6 ucc usm ufi ufj usn uso usp usq (_ : Hp nz wz S1 w1 ((some gx2, .row 30 (wT29 x2v.Op x2v.Text (Gp ulw) u55 u56) 3 0) :: (ulw, .row 30 ulx (u56 * kT29.size) 0) :: (Gx3, .row 30 u6j (cx3 * kT29.size) 0) :: (Gx6, .row 30 ucc (cx6 * kT29.size) 0) :: (usn, .row 9 usq (usp * kStr.size) 0) :: Lr)) (_ : Els kT29 S1 w1 ulx x2v.L) (_ : x2v.L.length = u55) (_ : Els kT29 S1 w1 u6j x3) (_ : x3.length = nx3) (_ : Els kT29 S1 w1 ucc x6) (_ : x6.length = nx6) (_ : Rd kStr S1 w1 usm ufj x10) (_ : x10.length = ufi) (_ : Els kStr S1 w1 usq x17) (_ : x17.length = uso) (junk : Nat → Value),
 Goes Tg (base 116) J19h ⟨lfr 37 [(2, (pt gx2 0)), (3, .slice (Gp Gx3) nx3 cx3), (6, .slice (Gp Gx6) nx6 cx6), (10, .slice usm ufi ufj), (11, .i x11), (12, .i x12), (17, .slice (Gp usn) uso usp), (18, .i x18), (19, .i x19)] junk, []⟩ w1 (Done Tg 116 (Rets (Post.z7o nz wz S0 w0 Lr r)))
theorem W.z7s {nz wz S0 w0 Lr} : (∀ a r, M.a10 a = some r → (L.z7p nz wz S0 w0 Lr) a r) ∧ (∀ a r, M.a4i a = some r → (L.z7q nz wz S0 w0 Lr) a r) ∧ (∀ a r, M.a37 a = some r → (L.z7r nz wz S0 w0 Lr) a r) := by
 refine M.a10.mutual_partial_correctness (L.z7p nz wz S0 w0 Lr) (L.z7q nz wz S0 w0 Lr) (L.z7r nz wz S0 w0 Lr) ?_ ?_ ?_
 ·
  intro usr uss ⟨x2v, x3, x10, x11, x12⟩ r h S1 w1 hx gx2 ulw u55 u56 ulx Gx3 nx3 cx3 u6j usm ufi ufj p1 u5j u5k fx3 lx3 ufr ufs junk
  try dsimp only at h
  subst u5k
  subst lx3
  subst ufs
  refine Gn 5 [(13, .bool (decide (x12 < x11)))] (Ys 111010010 B116 (Ys 111010011 B116 J19a)) ?_
  refine Gi h (fun h10 h => ?_) fun h10 h => ?_
  ·
   rw [dt h10]
   refine Gn 6 [] (Yt 111010011000 B116 [0, 1, 2] (Ys 111010011001 B116 J19d)) ?_
   refine Gg h fun g11 h => ?_
   refine Gg h fun g12 h => ?_
   refine Oi 43 10 12 14 0 9 .i64 x12 (gi x10 x12) rfl rfl ufr Xa g11 g12 fun a13 _ f14 q15 => ?_
   obtain rfl := q15
   refine Xc 9 14 15 9 a13 (.string (gi x10 x12)) (f14.cell 0 _ rfl) ?_
   refine Gm 10 [([5, 16], .string (gi x10 x12)), ([6], Sn)] (Yt 111010011001100 B116 [1, 2, 3] (Ys 111010011001101 B116 J19e)) ?_
   refine Gb h fun y16 e17 h => ?_
   refine Gc (kc 16 [16] #[9]) 17 43 16 _ (W.zo (gi x10 x12) y16 e17  p1 ) ?_
   rintro _ w4 ⟨S4, uee, uef, ueg, ueh, rfl, z4, p4, uei, rfl⟩
   refine Gn 5 [(18, .i (y16.length : Int)), (19, .i 0)] J19h ?_
   have p4 := (((p4.fr 0).fr 3).fr 3).fr 3
   exact Gj 37 [(2, (pt gx2 0)), (3, Sl (Gp Gx3) x3 cx3), (6, Sn), (10, Sl usm x10 ufj), (11, .i x11), (12, .i x12), (17, Sl (Gp uee) y16 ueg), (18, .i (y16.length : Int)), (19, .i 0)] (uss _ _ h _ _ (hx.t z4) _ _ _ _ _ _ _ _ _ _ _ _ _ _ _ _ p4 (u5j.ext z4) rfl (fx3.ext z4) rfl (ufr.ext z4) rfl uei rfl)
  ·
   rw [df h10]
   refine Gn 5 [(35, Sl (Gp Gx3) x3 cx3)] (Yt 11110 B116 [1, 2] J19o) ?_
   obtain ⟨S5, z5, p5, f23⟩ := p1.freezeRd 2 rfl fx3 (by decide)
   refine Gb h fun y24 e25 h => ?_
   refine Gc (.call { callee := .value (.func 118), args := #[(.const (.int .i64 4)), 35], argTypes := #[3, 28] }) 36 30 118 _ (W.z7k 4 x3 y24 e25 _ _ _ p5 f23 rfl) ?_
   rintro _ w6 ⟨S6, um1, um2, um3, rfl, z6, p6, um5, rfl⟩
   have p6 := p6.dp 2
   refine So 30 2 36 0 0 gx2 0 ((ag (wT29 y24.Op y24.Text um1 y24.L.length um3))) (wT29 y24.Op y24.Text um1 y24.L.length um3) p6 rfl Xe fun w7 z7 p7 => ?_
   refine Gn 1 [] J19o ?_
   obtain rfl := sj h
   have p7 := p7.dp 1
   exact R1 Tryz.f116 (.cell 2 30) ((ag (wT29 y24.Op y24.Text um1 y24.L.length um3))) (Rn gx2 (p7.pa 0 0)) ⟨_, _, _, _, rfl, (((hx.t z5).t z6).t z7), p7.drop, (um5.ext z7), rfl⟩
 ·
  intro ust usu usv usw ⟨x2v, x3, x10, x11, x12, x17, x18, x19⟩ r h S1 w1 hx gx2 ulw u55 u56 ulx Gx3 nx3 cx3 u6j usm ufi ufj usn uso usp usq p1 u5j u5k fx3 lx3 ufr ufs usx usy junk
  try dsimp only at h
  subst u5k
  subst lx3
  subst ufs
  subst usy
  refine Gn 5 [(20, .bool (decide (x19 < x18)))] J19r ?_
  refine Gi h (fun h26 h => ?_) fun h26 h => ?_
  ·
   rw [dt h26]
   refine Gn 6 [] J19v ?_
   refine Gg h fun g27 h => ?_
   refine Gg h fun g28 h => ?_
   refine X0 43 17 19 21 0 9 .i64 x19 3 x17.length usp (gi x17 x19) rfl rfl p1 rfl usx Xa (by kernel_rfl) (by kernel_rfl) (by kernel_rfl) (by kernel_rfl) (by decide) g27 g28 ?_
   rintro b29 _ rfl q31 f30
   obtain rfl := q31
   refine Xc 9 21 22 9 ⟨b29, (x19 : Int).toNat * kStr.size, none⟩ (.string (gi x17 x19)) (f30 0 _ rfl) ?_
   refine Gm 6 [([8, 24], .string (gi x17 x19)), ([23], Sn), ([25], .agg #[.i 2, .string (gi x17 x19), Sn])] J19w ?_
   have f34 : Els kT29 S1 w1 ([.i 2, .string (gi x17 x19), Sn] : List Value) [(⟨2, gi x17 x19, ([] : List T29)⟩ : T29)] := by exact (Els.cons (K := kT29) (vs := [.i 2, .string (gi x17 x19), Sn]) (x := (⟨2, gi x17 x19, ([] : List T29)⟩ : T29)) (kT29_close ⟨[.i 2], [.string (gi x17 x19), Sn], rfl, rfl, ⟨[.string (gi x17 x19)], [Sn], rfl, rfl, ⟨none, 0, rfl, Xr⟩⟩⟩) Els.nil)
   refine Om (.buildSlice 28 1 #[(0, 25)]) 26 28 (fun b => .slice (Gp (some b)) 1 1) 30 ([.i 2, .string (gi x17 x19), Sn] : List Value) (1 * kT29.size) p1 Xa fun b33 w8 z8 p8 => ?_
   have p8 : Hp nz wz S1 w8 ((none, .row 30 [] (0 * kT29.size) 0) :: ((some b33), .row 30 ([.i 2, .string (gi x17 x19), Sn] : List Value) (1 * kT29.size) 0) :: (some gx2, .row 30 (wT29 x2v.Op x2v.Text (Gp ulw) x2v.L.length u56) 3 0) :: (ulw, .row 30 ulx (u56 * kT29.size) 0) :: (Gx3, .row 30 u6j (cx3 * kT29.size) 0) :: ((some b29), .row 9 usq (usp * kStr.size) 0) :: Lr) := p8.nilRow' 30
   refine Gg h fun g40 h => ?_
   refine On (K := kT29) 28 23 26 27 28 30 0 (.agg #[.i 0, .string ⟨#[]⟩, Sn]) 48 0 0 1 ([] : List T29) [(⟨2, gi x17 x19, ([] : List T29)⟩ : T29)] [(⟨2, gi x17 x19, ([] : List T29)⟩ : T29)] (Gp (some b33)) 1 rfl rfl (List.nil_append _) p8 rfl (Els.nil (K := kT29)) Xa (f34.ext z8) (src_own p8 (q := 1) rfl) g40 fun w9 G41 c42 u5w z9 p9 f44 => ?_
   refine Gm 8 [([6], .slice (Gp G41) ([(⟨2, gi x17 x19, ([] : List T29)⟩ : T29)].length) c42), ([28, 19], .i (wr .i64 (x19 + 1)))] J19h ?_
   have p9 := p9.dp 1
   have p9 := ((((p9.fr 4).fr 1).fr 4).fr 4).fr 4
   exact Gj 37 [(2, (pt gx2 0)), (3, Sl (Gp Gx3) x3 cx3), (6, .slice (Gp G41) ([(⟨2, gi x17 x19, ([] : List T29)⟩ : T29)].length) c42), (10, Sl usm x10 ufj), (11, .i x11), (12, .i x12), (17, .slice (Gp (some b29)) x17.length usp), (18, .i x18), (19, .i (wr .i64 (x19 + 1)))] (usw _ _ h _ _ ((hx.t z8).t z9) _ _ _ _ _ _ _ _ _ _ _ _ _ _ _ _ (some b29) _ _ _ p9 (u5j.ext (z8.t z9)) rfl (fx3.ext (z8.t z9)) rfl f44 rfl (ufr.ext (z8.t z9)) rfl (usx.ext (z8.t z9)) rfl)
  ·
   rw [df h26]
   refine Gn 5 [(29, Sl (Gp Gx3) x3 cx3), (30, Sn)] J19x ?_
   refine Gb h fun y50 e51 h => ?_
   refine Gc (.call { callee := .value (.func 118), args := #[(.const (.int .i64 3)), 30], argTypes := #[3, 28] }) 31 30 118 _ (W.z7k 3 ([] : List T29) y50 e51 none 0 0 p1 Xr rfl) ?_
   rintro _ w10 ⟨S10, um7, um8, um9, rfl, z10, p10, umb, rfl⟩
   have p10 := p10.dp 3
   have f53 : Els kT29 S10 w10 ((wT29 y50.Op y50.Text um7 y50.L.length um9) : List Value) [y50] := by exact (Els.cons (K := kT29) (vs := (wT29 y50.Op y50.Text um7 y50.L.length um9)) (x := y50) (kT29_close ⟨[.i y50.Op], [.string y50.Text, Sl um7 y50.L um9], rfl, rfl, ⟨[.string y50.Text], [Sl um7 y50.L um9], rfl, rfl, ⟨_, _, rfl, umb⟩⟩⟩) Els.nil)
   refine Om (.buildSlice 28 1 #[(0, 31)]) 32 28 (fun b => .slice (Gp (some b)) 1 1) 30 ((wT29 y50.Op y50.Text um7 y50.L.length um9) : List Value) (1 * kT29.size) p10 Xa fun b52 w11 z11 p11 => ?_
   refine Gg h fun g58 h => ?_
   refine On (K := kT29) 28 29 32 33 28 30 3 (.agg #[.i 0, .string ⟨#[]⟩, Sn]) 48 x3.length cx3 1 x3 [y50] (x3 ++ [y50]) (Gp (some b52)) 1 rfl rfl rfl p11 rfl (fx3.ext (z10.t z11)) Xa (f53.ext z11) (src_own p11 (q := 0) rfl) g58 fun w12 G59 c60 usz z12 p12 f62 => ?_
   refine Gm 8 [([3], .slice (Gp G59) ((x3 ++ [y50]).length) c60), ([34, 12], .i (wr .i64 (x12 + 1)))] J19b ?_
   have p12 := p12.dp 0
   exact Gj 37 [(2, (pt gx2 0)), (3, .slice (Gp G59) ((x3 ++ [y50]).length) c60), (10, Sl usm x10 ufj), (11, .i x11), (12, .i (wr .i64 (x12 + 1)))] (usv _ _ h _ _ (((hx.t z10).t z11).t z12) _ _ _ _ _ _ _ _ _ _ _ _ p12 (u5j.ext ((z10.t z11).t z12)) rfl f62 rfl (ufr.ext ((z10.t z11).t z12)) rfl)
 ·
  intro ust usu usv usw ⟨x2v, x3, x6, x10, x11, x12, x17, x18, x19⟩ r h S1 w1 hx gx2 ulw u55 u56 ulx Gx3 nx3 cx3 u6j Gx6 nx6 cx6 ucc usm ufi ufj usn uso usp usq p1 u5j u5k fx3 lx3 fx6 lx6 ufr ufs usx usy junk
  try dsimp only at h
  subst u5k
  subst lx3
  subst lx6
  subst ufs
  subst usy
  refine Gn 5 [(20, .bool (decide (x19 < x18)))] J19r ?_
  refine Gi h (fun h63 h => ?_) fun h63 h => ?_
  ·
   rw [dt h63]
   refine Gn 6 [] J19v ?_
   refine Gg h fun g64 h => ?_
   refine Gg h fun g65 h => ?_
   refine X0 43 17 19 21 0 9 .i64 x19 4 x17.length usp (gi x17 x19) rfl rfl p1 rfl usx Xa (by kernel_rfl) (by kernel_rfl) (by kernel_rfl) (by kernel_rfl) (by decide) g64 g65 ?_
   rintro b66 _ rfl q68 f67
   obtain rfl := q68
   refine Xc 9 21 22 9 ⟨b66, (x19 : Int).toNat * kStr.size, none⟩ (.string (gi x17 x19)) (f67 0 _ rfl) ?_
   refine Gm 6 [([8, 24], .string (gi x17 x19)), ([23], Sl (Gp Gx6) x6 cx6), ([25], .agg #[.i 2, .string (gi x17 x19), Sn])] J19w ?_
   have f71 : Els kT29 S1 w1 ([.i 2, .string (gi x17 x19), Sn] : List Value) [(⟨2, gi x17 x19, ([] : List T29)⟩ : T29)] := by exact (Els.cons (K := kT29) (vs := [.i 2, .string (gi x17 x19), Sn]) (x := (⟨2, gi x17 x19, ([] : List T29)⟩ : T29)) (kT29_close ⟨[.i 2], [.string (gi x17 x19), Sn], rfl, rfl, ⟨[.string (gi x17 x19)], [Sn], rfl, rfl, ⟨none, 0, rfl, Xr⟩⟩⟩) Els.nil)
   refine Om (.buildSlice 28 1 #[(0, 25)]) 26 28 (fun b => .slice (Gp (some b)) 1 1) 30 ([.i 2, .string (gi x17 x19), Sn] : List Value) (1 * kT29.size) p1 Xa fun b70 w13 z13 p13 => ?_
   refine Gl h fun v76 e77 h => ?_
   refine Gg h fun g78 h => ?_
   refine On (K := kT29) 28 23 26 27 28 30 4 (.agg #[.i 0, .string ⟨#[]⟩, Sn]) 48 x6.length cx6 1 x6 [(⟨2, gi x17 x19, ([] : List T29)⟩ : T29)] v76 (Gp (some b70)) 1 rfl rfl e77 p13 rfl (fx6.ext z13) Xa (f71.ext z13) (src_own p13 (q := 0) rfl) g78 fun w14 G79 c80 ut0 z14 p14 f82 => ?_
   refine Gm 8 [([6], Sl (Gp G79) v76 c80), ([28, 19], .i (wr .i64 (x19 + 1)))] J19h ?_
   have p14 := p14.dp 0
   exact Gj 37 [(2, (pt gx2 0)), (3, Sl (Gp Gx3) x3 cx3), (6, Sl (Gp G79) v76 c80), (10, Sl usm x10 ufj), (11, .i x11), (12, .i x12), (17, .slice (Gp (some b66)) x17.length usp), (18, .i x18), (19, .i (wr .i64 (x19 + 1)))] (usw _ _ h _ _ ((hx.t z13).t z14) _ _ _ _ _ _ _ _ _ _ _ _ _ _ _ _ (some b66) _ _ _ p14 (u5j.ext (z13.t z14)) rfl (fx3.ext (z13.t z14)) rfl f82 rfl (ufr.ext (z13.t z14)) rfl (usx.ext (z13.t z14)) rfl)
  ·
   rw [df h63]
   refine Gn 5 [(29, Sl (Gp Gx3) x3 cx3), (30, Sl (Gp Gx6) x6 cx6)] J19x ?_
   obtain ⟨S15, z15, p15, f83⟩ := p1.freezeRd 3 rfl fx6 (by decide)
   refine Gb h fun y84 e85 h => ?_
   refine Gc (.call { callee := .value (.func 118), args := #[(.const (.int .i64 3)), 30], argTypes := #[3, 28] }) 31 30 118 _ (W.z7k 3 x6 y84 e85 _ _ _ p15 f83 rfl) ?_
   rintro _ w16 ⟨S16, ut1, ut2, ut3, rfl, z16, p16, ut4, rfl⟩
   have p16 := (p16.dp 3).dp 3
   have f87 : Els kT29 S16 w16 ((wT29 y84.Op y84.Text ut1 y84.L.length ut3) : List Value) [y84] := by exact (Els.cons (K := kT29) (vs := (wT29 y84.Op y84.Text ut1 y84.L.length ut3)) (x := y84) (kT29_close ⟨[.i y84.Op], [.string y84.Text, Sl ut1 y84.L ut3], rfl, rfl, ⟨[.string y84.Text], [Sl ut1 y84.L ut3], rfl, rfl, ⟨_, _, rfl, ut4⟩⟩⟩) Els.nil)
   refine Om (.buildSlice 28 1 #[(0, 31)]) 32 28 (fun b => .slice (Gp (some b)) 1 1) 30 ((wT29 y84.Op y84.Text ut1 y84.L.length ut3) : List Value) (1 * kT29.size) p16 Xa fun b86 w17 z17 p17 => ?_
   refine Gg h fun g92 h => ?_
   refine On (K := kT29) 28 29 32 33 28 30 3 (.agg #[.i 0, .string ⟨#[]⟩, Sn]) 48 x3.length cx3 1 x3 [y84] (x3 ++ [y84]) (Gp (some b86)) 1 rfl rfl rfl p17 rfl (fx3.ext ((z15.t z16).t z17)) Xa (f87.ext z17) (src_own p17 (q := 0) rfl) g92 fun w18 G93 c94 ut5 z18 p18 f96 => ?_
   refine Gm 8 [([3], .slice (Gp G93) ((x3 ++ [y84]).length) c94), ([34, 12], .i (wr .i64 (x12 + 1)))] J19b ?_
   have p18 := p18.dp 0
   exact Gj 37 [(2, (pt gx2 0)), (3, .slice (Gp G93) ((x3 ++ [y84]).length) c94), (10, Sl usm x10 ufj), (11, .i x11), (12, .i (wr .i64 (x12 + 1)))] (usv _ _ h _ _ ((((hx.t z15).t z16).t z17).t z18) _ _ _ _ _ _ _ _ _ _ _ _ p18 (u5j.ext (((z15.t z16).t z17).t z18)) rfl f96 rfl (ufr.ext (((z15.t z16).t z17).t z18)) rfl)
theorem W.z7p {nz wz S0 w0 Lr} : ∀ a r, M.a10 a = some r → (L.z7p nz wz S0 w0 Lr) a r := (W.z7s).1
theorem W.z7q {nz wz S0 w0 Lr} : ∀ a r, M.a4i a = some r → (L.z7q nz wz S0 w0 Lr) a r := (W.z7s).2.1
theorem W.z7r {nz wz S0 w0 Lr} : ∀ a r, M.a37 a = some r → (L.z7r nz wz S0 w0 Lr) a r := (W.z7s).2.2
theorem W.z7o (x0 : T218) (r : T29) (h : M.a4j x0 = some r) {nz wz S0 w0 Lr} (upm upn upo) (p0 : Hp nz wz S0 w0 (Lr)) (ups : Rd kStr S0 w0 upm upo x0.l) (upt : x0.l.length = upn) :
  Calls Tg 116 #[(ag (vT218 x0 upm upn upo))] w0 (Rets (Post.z7o nz wz S0 w0 Lr r)) := by
 subst upt
 refine Zf Tryz.f116 B116 36 ?_
 refine Gj 37 [(0, (ag (vT218 x0 upm x0.l.length upo)))] fun junk => ?_
 delta M.a4j at h
 refine Gn 2 [] (Yt 10 B116 [0, 1] (Ys 11 B116 [])) ?_
 refine Ob 219 0 1 0 (ag (vT218 x0 upm x0.l.length upo)) (vT218 x0 upm x0.l.length upo) p0 Xa fun b1 w2 z2 p2 => ?_
 refine Oa 30 2 0 (.agg #[.i 0, .string bE, Sn]) [.i 0, .string bE, Sn] p2 Xa fun b3 w3 z3 p3 => ?_
 refine Gn 9 [(3, Sn), (9, (pt b1 0))] (Yt 11100 B116 [1, 2, 3] (Ys 11101 B116 J198)) ?_
 refine Xc 43 9 10 43 ⟨b1, 0, none⟩ (Sl upm x0.l upo) (p3.c 1 0) ?_
 refine Gn 5 [(11, .i (x0.l.length : Int)), (12, .i 0)] J19b ?_
 have p3 : Hp nz wz S0 w3 ((none, .row 30 [] (0 * kT29.size) 0) :: (some b3, .row 30 [.i 0, .string bE, Sn] 3 0) :: (some b1, .row 219 (vT218 x0 upm x0.l.length upo) 2 0) :: Lr) := p3.nilRow' 30
 have p3 := p3.dp 2
 have p3 : Hp nz wz S0 w3 ((none, .row 30 [] (0 * kT29.size) 0) :: (none, .row 30 [] (0 * kT29.size) 0) :: (some b3, .row 30 [.i 0, .string bE, .slice (Gp none) 0 0] 3 0) :: Lr) := p3.nilRow' 30
 have p3 := ((p3.fr 0).fr 1).fr 2
 exact Gj 37 [(2, (pt b3 0)), (3, .slice (Gp none) 0 0), (10, Sl upm x0.l upo), (11, .i (x0.l.length : Int)), (12, .i 0)] (W.z7p _ _ h _ _ (z2.t z3) _ none 0 0 [] none 0 0 [] _ _ _ p3 (Els.nil (K := kT29)) rfl (Els.nil (K := kT29)) rfl (ups.ext (z2.t z3)) rfl)
def Q10r := Yq 1111000 B187
def J1a4 := Zl Q10r (Zb 0 (Ys 11111 B187 []))
def J1a5 := Zc Q10r J1a4
def J1a7 := Ys 111100001 B187 (Ys 11110001 B187 J1a4)
def J1a9 := Zb 1 (Ys 111100011 B187 J1a4)
def J1aa := Ys 11110001001 B187 J1a9
def Q10w := Yq 111100000 B187
def J1ae := Ys 111111 B187 []
def Q10z := Yq 111110 B187
def J1af := Zr Q10z [0, 1, 2, 3] J1ae
def J1ag := Zr Q10z [2, 3] J1ae
def Q110 := Yq 111100010011 B187
def J1ai := Ys 1111000100101 B187 (Zc Q110 J1a9)
def Post.z7t (r : T218 × Int) (v : Value) (w' : World) : Prop :=
 ∃ S' ut6 ut7 ut8, v = .tuple #[(ag (vT218 r.1 ut6 ut7 ut8)), .i r.2] ∧ Ext S0 w0 S' w' ∧ Hp nz wz S' w' (Lr) ∧ Rd kStr S' w' ut6 ut8 r.1.l ∧ r.1.l.length = ut7
def L.z7u : (List T26) × T218 × T218 × Int → (T218 × Int) → Prop := fun ⟨x0, x2v, x4v, x5⟩ r => ∀ S1 w1, Ext S0 w0 S1 w1 → ∀ Ax0 nx0 cx0 gx2 uo9 uoa uob uoc gx4 ut9 uow uox (_ : Hp nz wz S1 w1 ((some gx2, .row 219 (vT218 x2v (Gp uo9) uoa uob) 2 0) :: (uo9, .row 9 uoc (uob * kStr.size) 0) :: (some gx4, .row 219 (vT218 x4v ut9 uow uox) 2 0) :: Lr)) (_ : Rd kT26 S1 w1 Ax0 cx0 x0) (_ : x0.length = nx0) (_ : Els kStr S1 w1 uoc x2v.l) (_ : x2v.l.length = uoa) (_ : Rd kStr S1 w1 ut9 uox x4v.l) (_ : x4v.l.length = uow) (junk : Nat → Value),
 Goes Tg (base 187) J1a5 ⟨lfr 34 [(0, .slice Ax0 nx0 cx0), (2, (pt gx2 0)), (4, (pt gx4 0)), (5, .i x5)] junk, []⟩ w1 (Done Tg 187 (Rets (Post.z7t nz wz S0 w0 Lr r)))
def L.z7v : (List T26) × T218 × T218 × Int × Bool → (T218 × Int) → Prop := fun ⟨x0, x2v, x4v, x5, x18⟩ r => ∀ S1 w1, Ext S0 w0 S1 w1 → ∀ Ax0 nx0 cx0 gx2 uo9 uoa uob uoc gx4 ut9 uow uox (_ : Hp nz wz S1 w1 ((some gx2, .row 219 (vT218 x2v (Gp uo9) uoa uob) 2 0) :: (uo9, .row 9 uoc (uob * kStr.size) 0) :: (some gx4, .row 219 (vT218 x4v ut9 uow uox) 2 0) :: Lr)) (_ : Rd kT26 S1 w1 Ax0 cx0 x0) (_ : x0.length = nx0) (_ : Els kStr S1 w1 uoc x2v.l) (_ : x2v.l.length = uoa) (_ : Rd kStr S1 w1 ut9 uox x4v.l) (_ : x4v.l.length = uow) (junk : Nat → Value),
 Goes Tg (base 187) J1a7 ⟨lfr 34 [(0, .slice Ax0 nx0 cx0), (2, (pt gx2 0)), (4, (pt gx4 0)), (5, .i x5), (18, .bool x18)] junk, []⟩ w1 (Done Tg 187 (Rets (Post.z7t nz wz S0 w0 Lr r)))
def L.z7w : (List T26) × T218 × T218 × Int × T218 → (T218 × Int) → Prop := fun ⟨x0, x2v, x4v, x5, x6v⟩ r => ∀ S1 w1, Ext S0 w0 S1 w1 → ∀ Ax0 nx0 cx0 gx2 uo9 uoa uob uoc gx4 ut9 uow uox gx6 uqc uqd uqe (_ : Hp nz wz S1 w1 ((some gx2, .row 219 (vT218 x2v (Gp uo9) uoa uob) 2 0) :: (uo9, .row 9 uoc (uob * kStr.size) 0) :: (some gx4, .row 219 (vT218 x4v ut9 uow uox) 2 0) :: (some gx6, .row 219 (vT218 x6v uqc uqd uqe) 2 0) :: Lr)) (_ : Rd kT26 S1 w1 Ax0 cx0 x0) (_ : x0.length = nx0) (_ : Els kStr S1 w1 uoc x2v.l) (_ : x2v.l.length = uoa) (_ : Rd kStr S1 w1 ut9 uox x4v.l) (_ : x4v.l.length = uow) (_ : Rd kStr S1 w1 uqc uqe x6v.l) (_ : x6v.l.length = uqd) (junk : Nat → Value),
 Goes Tg (base 187) J1aa ⟨lfr 34 [(0, .slice Ax0 nx0 cx0), (2, (pt gx2 0)), (4, (pt gx4 0)), (5, .i x5), (6, (pt gx6 0))] junk, []⟩ w1 (Done Tg 187 (Rets (Post.z7t nz wz S0 w0 Lr r)))
theorem W.z7x {nz wz S0 w0 Lr} : (∀ a r, M.a1w a = some r → (L.z7u nz wz S0 w0 Lr) a r) ∧ (∀ a r, M.a38 a = some r → (L.z7v nz wz S0 w0 Lr) a r) ∧ (∀ a r, M.a4k a = some r → (L.z7w nz wz S0 w0 Lr) a r) := by
 refine M.a1w.mutual_partial_correctness (L.z7u nz wz S0 w0 Lr) (L.z7v nz wz S0 w0 Lr) (L.z7w nz wz S0 w0 Lr) ?_ ?_ ?_
 ·
  intro uta utb ⟨x0, x2v, x4v, x5⟩ r h S1 w1 hx Ax0 nx0 cx0 gx2 uo9 uoa uob uoc gx4 ut9 uow uox p1 fx0 lx0 uof ugb up8 ugi junk
  try dsimp only at h
  subst lx0
  subst ugb
  subst ugi
  refine Gn 4 [(11, (pt gx4 1))] (Zr Q10w [1, 2, 3, 4, 5, 6, 7] J1a7) ?_
  refine Xc 4 11 12 4 ⟨gx4, 1, none⟩ (.bool x4v.known) (p1.c 2 1) ?_
  refine Gn 1 [(13, .bool x4v.known)] (Zr Q10w [3, 4, 5, 6, 7] J1a7) ?_
  refine Gi h (fun h21 h => ?_) fun h21 h => ?_
  ·
   rw [h21]
   have p1 : Hp nz wz S1 w1 ((some gx2, .row 219 (vT218 x2v (Gp uo9) x2v.l.length uob) 2 0) :: (uo9, .row 9 uoc (uob * kStr.size) 0) :: (some gx4, .row 219 [Sl ut9 x4v.l uox, .bool true] 2 0) :: Lr) := by simp only [wT29, vT69, vT165, vT26, vT134, vT370, vT218, h21] at p1; exact p1
   refine Gm 6 [([14], .i x5), ([15], Sl Ax0 x0 cx0), ([16], .i (x0.length : Int)), ([17, 18], .bool (decide (x5 < (x0.length : Int))))] J1a7 ?_
   exact Gj 34 [(0, Sl Ax0 x0 cx0), (2, (pt gx2 0)), (4, (pt gx4 0)), (5, .i x5), (18, .bool (decide (x5 < (x0.length : Int))))] (utb _ _ h _ _ hx _ _ _ _ _ _ _ _ _ _ _ _ p1 fx0 rfl uof rfl up8 rfl)
  ·
   have u1f := bf h21
   rw [u1f]
   have p1 : Hp nz wz S1 w1 ((some gx2, .row 219 (vT218 x2v (Gp uo9) x2v.l.length uob) 2 0) :: (uo9, .row 9 uoc (uob * kStr.size) 0) :: (some gx4, .row 219 [Sl ut9 x4v.l uox, .bool false] 2 0) :: Lr) := by simp only [wT29, vT69, vT165, vT26, vT134, vT370, vT218, u1f] at p1; exact p1
   refine Gm 6 [([14, 15, 16, 17], undef), ([18], .bool false)] J1a7 ?_
   exact Gj 34 [(0, Sl Ax0 x0 cx0), (2, (pt gx2 0)), (4, (pt gx4 0)), (5, .i x5), (18, .bool false)] (utb _ _ h _ _ hx _ _ _ _ _ _ _ _ _ _ _ _ p1 fx0 rfl uof rfl up8 rfl)
 ·
  intro utc utd ⟨x0, x2v, x4v, x5, x18⟩ r h S1 w1 hx Ax0 nx0 cx0 gx2 uo9 uoa uob uoc gx4 ut9 uow uox p1 fx0 lx0 uof ugb up8 ugi junk
  try dsimp only at h
  subst lx0
  subst ugb
  subst ugi
  refine Gi h (fun h25 h => ?_) fun h25 h => ?_
  ·
   rw [h25]
   refine Gn 5 [] (Ys 11110001000 B187 J1aa) ?_
   have z6 : Ext S1 w1 S1 (w1).drew := Xk
   have p6 := p1.draw
   refine Gd [6, 8] (Fc S1 (w1).drew [(⟨gx4, 0, none⟩, Sl ut9 x4v.l uox), (⟨gx4, 1, none⟩, .bool x4v.known)]) 5 9 ?_
   generalize (w1).drew = w6 at z6 p6 ⊢
   refine Xw (i := 0) 219 4 21 219 ⟨gx4, 0, none⟩ (vT218 x4v ut9 x4v.l.length uox) (by kernel_rfl) (by kernel_rfl) (p6.k [(2, 0, 2)]) (by kernel_rfl) (by kernel_rfl) (by kernel_rfl) (fun _ h j v hj => by match j, hj with | 0, rfl => exact h.2.at_ 0 rfl | 1, rfl => exact h.2.at_ 1 rfl | (j + 2), hj => simp at hj) ?_
   refine Xb 1 (.move 0) 22 25 (Sl Ax0 x0 cx0) (p6.k [(2, 0, 2)]) ?_
   refine Xb 2 (.move 5) 23 3 (.i x5) (p6.k [(2, 0, 2)]) ?_
   refine Gg h fun g26 h => ?_
   refine Gg h fun g27 h => ?_
   refine Xn (i := 3) 25 22 23 24 0 27 .i64 x5 (gi x0 x5) rfl rfl (fx0.ext z6) (by kernel_rfl) (by kernel_rfl) (p6.k [(2, 0, 2)]) (by kernel_rfl) (by kernel_rfl) (by kernel_rfl) (by kernel_rfl) g26 g27 fun a28 _ f29 q30 => ?_
   have q31 := q30
   obtain ⟨_, _, rfl, rfl, ⟨_, _, rfl, ⟨l32, f33⟩, ⟨_, _, rfl, ⟨A34, c35, rfl, f36⟩, ⟨_, _, rfl, rfl, rfl⟩⟩⟩⟩ := kT26_open q31
   obtain rfl := els_lit4' f33 l32
   refine Xw (i := 4) 27 24 25 27 a28 ([.i ((gi x0 x5).Kind)] ++ ((U4 ((gi x0 x5).Set) []) ++ ([.slice A34 (((gi x0 x5).L).length) c35] ++ ([.i ((gi x0 x5).Min)] ++ [.i ((gi x0 x5).Max)])))) (by kernel_rfl) (by kernel_rfl) (p6.k [(2, 0, 2)]) (by kernel_rfl) (by kernel_rfl) (by kernel_rfl) (fun _ h => f29.fc h) ?_
   refine AnyG.two (i := 5) (j := 7) (by kernel_rfl) ?_ ?_
   ·
    refine Gb h fun y37 e38 h => ?_
    refine Oc (kc 115 [25] #[27]) 26 219 115 #[(ag (.i ((gi x0 x5).Kind) :: U4 ((gi x0 x5).Set) [.slice A34 (((gi x0 x5).L).length) c35, .i ((gi x0 x5).Min), .i ((gi x0 x5).Max)]))] (AnyG.ct (i := 5) (by kernel_rfl)) (W.z71 (⟨(gi x0 x5).Kind, ((gi x0 x5).Set), (gi x0 x5).L, (gi x0 x5).Min, (gi x0 x5).Max⟩ : T26) y37 e38 _ _ _ p6 l32 f36 rfl) ?_
    rintro _ w7 ⟨S7, upb, upc, upe, rfl, z7, p7, upf, rfl⟩
    refine Xo z7 ⟨(p7.c 2 0), (p7.c 2 1), trivial⟩ ?_
    refine AnyG.two (i := 6) (j := 7) (by kernel_rfl) ?_ ?_
    ·
     refine Gb h fun y39 e40 h => ?_
     refine Oc (kc 231 [21, 26] #[219, 219]) 27 219 231 #[(ag (vT218 x4v ut9 x4v.l.length uox)), (ag (vT218 y37 upb y37.l.length upe))] (AnyG.ct (i := 6) (by kernel_rfl)) (W.z6h x4v y37 y39 e40 _ _ _ _ _ _ p7 (up8.ext (z6.t z7)) rfl upf rfl) ?_
     rintro _ w8 ⟨S8, uqj, uek, uel, rfl, z8, p8, uen, rfl⟩
     refine Xi [7, 8] (Fc S8 w8 []) (by decide) ?_
     refine Oa 219 6 0 (.agg #[Sn, .bool false]) [Sn, .bool false] p8 (Av 7) fun b41 w9 z9 p9 => ?_
     refine Xi [8] (Fc S8 w9 []) (by decide) ?_
     refine So 219 6 27 0 0 b41 0 (ag (vT218 y39 uqj y39.l.length uel)) (vT218 y39 uqj y39.l.length uel) p9 rfl (As 8) fun w10 z10 p10 => ?_
     refine Xi [] (Fc S8 w10 []) (by decide) ?_
     refine Ad ?_
     have p10 := (((p10.fr 0).fr 3).fr 3).fr 3
     exact Gj 34 [(0, Sl Ax0 x0 cx0), (2, (pt gx2 0)), (4, (pt gx4 0)), (5, .i x5), (6, (pt b41 0))] (utd _ _ h _ _ (((((hx.t z6).t z7).t z8).t z9).t z10) _ _ _ _ _ _ _ _ _ _ _ _ _ _ _ _ p10 (fx0.ext ((((z6.t z7).t z8).t z9).t z10)) rfl (uof.ext ((((z6.t z7).t z8).t z9).t z10)) rfl (up8.ext ((((z6.t z7).t z8).t z9).t z10)) rfl (uen.ext (z9.t z10)) rfl)
    ·
     refine Oa 219 6 0 (.agg #[Sn, .bool false]) [Sn, .bool false] p7 (AnyG.vt (i := 7) (by kernel_rfl)) fun b47 w11 z11 p11 => ?_
     refine Xo z11 ⟨(p11.c 3 0), (p11.c 3 1), trivial⟩ ?_
     refine Gb h fun y49 e50 h => ?_
     refine Oc (kc 231 [21, 26] #[219, 219]) 27 219 231 #[(ag (vT218 x4v ut9 x4v.l.length uox)), (ag (vT218 y37 upb y37.l.length upe))] (Ac 6) (W.z6h x4v y37 y49 e50 _ _ _ _ _ _ p11 (up8.ext ((z6.t z7).t z11)) rfl (upf.ext z11) rfl) ?_
     rintro _ w12 ⟨S12, ute, utf, utg, rfl, z12, p12, uth, rfl⟩
     refine Xi [8] (Fc S12 w12 []) (by decide) ?_
     refine So 219 6 27 0 0 b47 0 (ag (vT218 y49 ute y49.l.length utg)) (vT218 y49 ute y49.l.length utg) p12 rfl (As 8) fun w13 z13 p13 => ?_
     refine Xi [] (Fc S12 w13 []) (by decide) ?_
     refine Ad ?_
     have p13 := (((p13.fr 0).fr 3).fr 3).fr 3
     exact Gj 34 [(0, Sl Ax0 x0 cx0), (2, (pt gx2 0)), (4, (pt gx4 0)), (5, .i x5), (6, (pt b47 0))] (utd _ _ h _ _ (((((hx.t z6).t z7).t z11).t z12).t z13) _ _ _ _ _ _ _ _ _ _ _ _ _ _ _ _ p13 (fx0.ext ((((z6.t z7).t z11).t z12).t z13)) rfl (uof.ext ((((z6.t z7).t z11).t z12).t z13)) rfl (up8.ext ((((z6.t z7).t z11).t z12).t z13)) rfl (uth.ext z13) rfl)
   ·
    refine Oa 219 6 0 (.agg #[Sn, .bool false]) [Sn, .bool false] p6 (AnyG.vt (i := 7) (by kernel_rfl)) fun b51 w14 z14 p14 => ?_
    refine Xo z14 ⟨(p14.c 3 0), (p14.c 3 1), trivial⟩ ?_
    refine Gb h fun y53 e54 h => ?_
    refine Oc (kc 115 [25] #[27]) 26 219 115 #[(ag (.i ((gi x0 x5).Kind) :: U4 ((gi x0 x5).Set) [.slice A34 (((gi x0 x5).L).length) c35, .i ((gi x0 x5).Min), .i ((gi x0 x5).Max)]))] (Ac 5) (W.z71 (⟨(gi x0 x5).Kind, ((gi x0 x5).Set), (gi x0 x5).L, (gi x0 x5).Min, (gi x0 x5).Max⟩ : T26) y53 e54 _ _ _ p14 l32 (f36.ext z14) rfl) ?_
    rintro _ w15 ⟨S15, uqs, uqt, uqu, rfl, z15, p15, uqv, rfl⟩
    refine Xo z15 ⟨(p15.c 3 0), (p15.c 3 1), trivial⟩ ?_
    refine Gb h fun y55 e56 h => ?_
    refine Oc (kc 231 [21, 26] #[219, 219]) 27 219 231 #[(ag (vT218 x4v ut9 x4v.l.length uox)), (ag (vT218 y53 uqs y53.l.length uqu))] (Ac 6) (W.z6h x4v y53 y55 e56 _ _ _ _ _ _ p15 (up8.ext ((z6.t z14).t z15)) rfl uqv rfl) ?_
    rintro _ w16 ⟨S16, uti, utj, utk, rfl, z16, p16, utl, rfl⟩
    refine Xi [8] (Fc S16 w16 []) (by decide) ?_
    refine So 219 6 27 0 0 b51 0 (ag (vT218 y55 uti y55.l.length utk)) (vT218 y55 uti y55.l.length utk) p16 rfl (As 8) fun w17 z17 p17 => ?_
    refine Xi [] (Fc S16 w17 []) (by decide) ?_
    refine Ad ?_
    have p17 := (((p17.fr 0).fr 3).fr 3).fr 3
    exact Gj 34 [(0, Sl Ax0 x0 cx0), (2, (pt gx2 0)), (4, (pt gx4 0)), (5, .i x5), (6, (pt b51 0))] (utd _ _ h _ _ (((((hx.t z6).t z14).t z15).t z16).t z17) _ _ _ _ _ _ _ _ _ _ _ _ _ _ _ _ p17 (fx0.ext ((((z6.t z14).t z15).t z16).t z17)) rfl (uof.ext ((((z6.t z14).t z15).t z16).t z17)) rfl (up8.ext ((((z6.t z14).t z15).t z16).t z17)) rfl (utl.ext z17) rfl)
  ·
   rw [bf h25]
   refine Gn 4 [] J1af ?_
   refine Xg 219 4 32 219 ⟨gx4, 0, none⟩ (vT218 x4v ut9 x4v.l.length uox) (p1.pa 2 0) ?_
   refine Gn 1 [(33, .i x5)] J1ag ?_
   refine So 219 2 32 0 0 gx2 0 (ag (vT218 x4v ut9 x4v.l.length uox)) (vT218 x4v ut9 x4v.l.length uox) p1 rfl Xe fun w18 z18 p18 => ?_
   refine Gn 2 [(3, .i x5)] J1ae ?_
   obtain rfl := sj h
   have p18 := (p18.dp 1).dp 1
   exact R2 Tryz.f187 (.cell 2 219) 3 (.tuple #[(ag (vT218 x4v ut9 x4v.l.length uox)), .i x5]) (Rn gx2 (p18.pa 0 0)) Rt ⟨_, _, _, _, rfl, (hx.t z18), p18.drop, (up8.ext z18), rfl⟩
 ·
  intro utm utn ⟨x0, x2v, x4v, x5, x6v⟩ r h S1 w1 hx Ax0 nx0 cx0 gx2 uo9 uoa uob uoc gx4 ut9 uow uox gx6 uqc uqd uqe p1 fx0 lx0 uof ugb up8 ugi ur3 uiz junk
  try dsimp only at h
  subst lx0
  subst ugb
  subst ugi
  subst uiz
  refine Gn 4 [(28, (pt gx6 1))] (Yt 1111000100100 B187 [1, 2] J1ai) ?_
  refine Xc 4 28 29 4 ⟨gx6, 1, none⟩ (.bool x6v.known) (p1.c 3 1) ?_
  refine Gn 2 [(30, .bool (!x6v.known))] J1ai ?_
  refine Gi h (fun h57 h => ?_) fun h57 h => ?_
  ·
   rw [h57]
   have p1 : Hp nz wz S1 w1 ((some gx2, .row 219 (vT218 x2v (Gp uo9) x2v.l.length uob) 2 0) :: (uo9, .row 9 uoc (uob * kStr.size) 0) :: (some gx4, .row 219 (vT218 x4v ut9 x4v.l.length uox) 2 0) :: (some gx6, .row 219 [Sl uqc x6v.l uqe, .bool true] 2 0) :: Lr) := by simp only [wT29, vT69, vT165, vT26, vT134, vT370, vT218, h57] at p1; exact p1
   refine Gn 3 [] (Zr Q110 [0, 1] J1a9) ?_
   refine Xg 219 6 31 219 ⟨gx6, 0, none⟩ [Sl uqc x6v.l uqe, .bool true] (p1.pa 3 0) ?_
   refine So 219 4 31 0 2 gx4 0 (.agg #[Sl uqc x6v.l uqe, .bool true]) [Sl uqc x6v.l uqe, .bool true] p1 rfl Xe fun w19 z19 p19 => ?_
   refine Gm 8 [([19], .i x5), ([20, 5], .i (wr .i64 (x5 + 1)))] J1a5 ?_
   have p19 := p19.dp 3
   exact Gj 34 [(0, Sl Ax0 x0 cx0), (2, (pt gx2 0)), (4, (pt gx4 0)), (5, .i (wr .i64 (x5 + 1)))] (utn _ _ h _ _ (hx.t z19) _ _ _ _ _ _ _ _ _ _ _ _ p19 (fx0.ext z19) rfl (uof.ext z19) rfl (ur3.ext z19) rfl)
  ·
   have uto := bf h57
   rw [uto]
   have p1 : Hp nz wz S1 w1 ((some gx2, .row 219 (vT218 x2v (Gp uo9) x2v.l.length uob) 2 0) :: (uo9, .row 9 uoc (uob * kStr.size) 0) :: (some gx4, .row 219 (vT218 x4v ut9 x4v.l.length uox) 2 0) :: (some gx6, .row 219 [Sl uqc x6v.l uqe, .bool false] 2 0) :: Lr) := by simp only [wT29, vT69, vT165, vT26, vT134, vT370, vT218, uto] at p1; exact p1
   refine Gn 4 [] J1af ?_
   refine Xg 219 4 32 219 ⟨gx4, 0, none⟩ (vT218 x4v ut9 x4v.l.length uox) (p1.pa 2 0) ?_
   refine Gn 1 [(33, .i x5)] J1ag ?_
   refine So 219 2 32 0 0 gx2 0 (ag (vT218 x4v ut9 x4v.l.length uox)) (vT218 x4v ut9 x4v.l.length uox) p1 rfl Xe fun w20 z20 p20 => ?_
   refine Gn 2 [(3, .i x5)] J1ae ?_
   obtain rfl := sj h
   have p20 := ((p20.dp 1).dp 1).dp 1
   exact R2 Tryz.f187 (.cell 2 219) 3 (.tuple #[(ag (vT218 x4v ut9 x4v.l.length uox)), .i x5]) (Rn gx2 (p20.pa 0 0)) Rt ⟨_, _, _, _, rfl, (hx.t z20), p20.drop, (up8.ext z20), rfl⟩
theorem W.z7u {nz wz S0 w0 Lr} : ∀ a r, M.a1w a = some r → (L.z7u nz wz S0 w0 Lr) a r := (W.z7x).1
theorem W.z7v {nz wz S0 w0 Lr} : ∀ a r, M.a38 a = some r → (L.z7v nz wz S0 w0 Lr) a r := (W.z7x).2.1
theorem W.z7w {nz wz S0 w0 Lr} : ∀ a r, M.a4k a = some r → (L.z7w nz wz S0 w0 Lr) a r := (W.z7x).2.2
theorem W.z7t (x0 : List T26) (r : T218 × Int) (h : M.a5s x0 = some r) {nz wz S0 w0 Lr} (Ax0 nx0 cx0) (p0 : Hp nz wz S0 w0 (Lr)) (fx0 : Rd kT26 S0 w0 Ax0 cx0 x0) (lx0 : x0.length = nx0) :
  Calls Tg 187 #[.slice Ax0 nx0 cx0] w0 (Rets (Post.z7t nz wz S0 w0 Lr r)) := by
 subst lx0
 refine Zf Tryz.f187 B187 33 ?_
 refine Gj 34 [(0, Sl Ax0 x0 cx0)] fun junk => ?_
 delta M.a5s at h
 refine Gn 2 [] (Yt 10 B187 [0, 1] (Ys 11 B187 [])) ?_
 refine Oa 219 2 0 (.agg #[Sn, .bool false]) [Sn, .bool false] p0 Xa fun b1 w2 z2 p2 => ?_
 refine Gn 5 [(3, .i 0), (7, Sl Ax0 x0 cx0)] (Yt 110 B187 [1, 2, 3, 4, 5] (Ys 111 B187 [])) ?_
 refine Gg h fun g3 h => ?_
 refine Oi 25 7 (.const (.int .i64 0)) 8 0 27 .i64 0 (gi x0 0) rfl rfl (fx0.ext z2) Xa (by decide : (0 : Int) ≤ 0) g3 fun a4 _ f5 q6 => ?_
 have q7 := q6
 obtain ⟨_, _, rfl, rfl, ⟨_, _, rfl, ⟨l8, f9⟩, ⟨_, _, rfl, ⟨A10, c11, rfl, f12⟩, ⟨_, _, rfl, rfl, rfl⟩⟩⟩⟩ := kT26_open q7
 obtain rfl := els_lit4' f9 l8
 refine Xg 27 8 9 27 a4 ([.i ((gi x0 0).Kind)] ++ ((U4 ((gi x0 0).Set) []) ++ ([.slice A10 (((gi x0 0).L).length) c11] ++ ([.i ((gi x0 0).Min)] ++ [.i ((gi x0 0).Max)])))) (f5.cell) ?_
 refine Gb h fun y13 e14 h => ?_
 refine Gc (kc 115 [9] #[27]) 10 219 115 _ (W.z71 (⟨(gi x0 0).Kind, ((gi x0 0).Set), (gi x0 0).L, (gi x0 0).Min, (gi x0 0).Max⟩ : T26) y13 e14 _ _ _ p2 l8 f12 rfl) ?_
 rintro _ w3 ⟨S3, utp, ubs, ubt, rfl, z3, p3, ubv, rfl⟩
 refine Oa 219 4 0 (.agg #[Sn, .bool false]) [Sn, .bool false] p3 Xa fun b15 w4 z4 p4 => ?_
 refine So 219 4 10 0 0 b15 0 (ag (vT218 y13 utp y13.l.length ubt)) (vT218 y13 utp y13.l.length ubt) p4 rfl Xe fun w5 z5 p5 => ?_
 refine Gn 8 [(5, .i 1)] J1a5 ?_
 have p5 : Hp nz wz S3 w5 ((none, .row 9 [] (0 * kStr.size) 0) :: (some b15, .row 219 (vT218 y13 utp y13.l.length ubt) 2 0) :: (some b1, .row 219 [Sn, .bool false] 2 0) :: Lr) := p5.nilRow' 9
 have p5 := ((p5.fr 1).fr 1).fr 2
 exact Gj 34 [(0, Sl Ax0 x0 cx0), (2, (pt b1 0)), (4, (pt b15 0)), (5, .i 1)] (W.z7u _ _ h _ _ (((z2.t z3).t z4).t z5) _ _ _ _ none 0 0 [] _ _ _ _ p5 (fx0.ext (((z2.t z3).t z4).t z5)) rfl (Els.nil (K := kStr)) rfl (ubv.ext (z4.t z5)) rfl)
def Q118 := Yq 111000 B117
def J1ar := Zl Q118 (Zb 0 (Ys 1111 B117 []))
def J1as := Zc Q118 J1ar
def J1at := Zb 1 J1ar
def Q119 := Yq 1110001011 B117
def J1au := Zc Q119 J1at
def J1av := Ys 11111 B54 []
def J1aw := Zb 0 J1av
def J1ax := Ys 111101011101 B54 J1aw
def Q11c := Yq 111101011100100 B54
def J1az := Zl Q11c (Zb 1 J1ax)
def J1b0 := Zc Q11c J1az
def J1b3 := Ys 111 B54 []
def J1b6 := Ys 11011 B54 J1b3
def J1b8 := Ys 1101101 B54 J1b3
def J1bd := Ys 1111010101 B54 J1aw
def J1bj := Ys 11110101111101 B54 J1aw
def J1bl := Ys 1111010111110101 B54 J1aw
def J1bn := Ys 111111 B54 []
def J1bo := Yt 111110 B54 [1] J1bn
def J1bs := Zb 2 (Ys 111101011100100111 B54 J1az)
def Q124 := Yq 11110101110010011001 B54
def J1bw := Ys 1111010111011 B54 J1aw
def J1c2 := Ys 111000101 B117 J1at
def Q12d := Yq 111000100 B117
def J1c5 := Ys 11100010101 B117 J1au
def J1c9 := Ys 11111 B117 []
def Post.z7y (r : T29) (v : Value) (w' : World) : Prop :=
 ∃ S' ug4 u1 u2, v = (ag (wT29 r.Op r.Text ug4 u1 u2)) ∧ Ext S0 w0 S' w' ∧ Hp nz wz S' w' (Lr) ∧ Rd kT29 S' w' ug4 u2 r.L ∧ r.L.length = u1
def Post.z7z (r : T29) (v : Value) (w' : World) : Prop :=
 ∃ S' ug4 u1 u2, v = (ag (wT29 r.Op r.Text ug4 u1 u2)) ∧ Ext S0 w0 S' w' ∧ Hp nz wz S' w' (Lr) ∧ Rd kT29 S' w' ug4 u2 r.L ∧ r.L.length = u1
def LF.z7y : T26 → T29 → Prop := fun x0 r => ∀ {nz wz S0 w0 Lr} u5 u6 u7 (_ : Hp nz wz S0 w0 (Lr)) (_ : x0.Set.length = 4) (_ : Rd kT26 S0 w0 u5 u7 x0.L) (_ : x0.L.length = u6),
 Calls Tg 54 #[(ag (vT26 x0 u5 u6 u7))] w0 (Rets (Post.z7y nz wz S0 w0 Lr r))
def LF.z7z : (List T26) → T29 → Prop := fun x0 r => ∀ {nz wz S0 w0 Lr} Ax0 nx0 cx0 (_ : Hp nz wz S0 w0 (Lr)) (_ : Rd kT26 S0 w0 Ax0 cx0 x0) (_ : x0.length = nx0),
 Calls Tg 117 #[.slice Ax0 nx0 cx0] w0 (Rets (Post.z7z nz wz S0 w0 Lr r))
def L.z80 : (List T26) × T29 × (List T29) → T29 → Prop := fun ⟨x0, x2v, x3⟩ r => ∀ S1 w1, Ext S0 w0 S1 w1 → ∀ Ax0 nx0 cx0 gx2 ulw u55 u56 ulx Gx3 nx3 cx3 u6j (_ : Hp nz wz S1 w1 ((some gx2, .row 30 (wT29 x2v.Op x2v.Text (Gp ulw) u55 u56) 3 0) :: (ulw, .row 30 ulx (u56 * kT29.size) 0) :: (Gx3, .row 30 u6j (cx3 * kT29.size) 0) :: Lr)) (_ : Rd kT26 S1 w1 Ax0 cx0 x0) (_ : x0.length = nx0) (_ : Els kT29 S1 w1 ulx x2v.L) (_ : x2v.L.length = u55) (_ : Els kT29 S1 w1 u6j x3) (_ : x3.length = nx3) (junk : Nat → Value),
 Goes Tg (base 117) J1as ⟨lfr 33 [(0, .slice Ax0 nx0 cx0), (2, (pt gx2 0)), (3, .slice (Gp Gx3) nx3 cx3)] junk, []⟩ w1 (Done Tg 117 (Rets (Post.z7z nz wz S0 w0 Lr r)))
def LL.z80 : (List T26) × T29 × (List T29) → T29 → Prop := fun a r => ∀ {nz wz S0 w0 Lr}, L.z80 nz wz S0 w0 Lr a r
def L.z81 : (List T26) × T29 × (List T29) × Int → T29 → Prop := fun ⟨x0, x2v, x3, x5⟩ r => ∀ S1 w1, Ext S0 w0 S1 w1 → ∀ Ax0 nx0 cx0 gx2 ulw u55 u56 ulx Gx3 nx3 cx3 u6j (_ : Hp nz wz S1 w1 ((some gx2, .row 30 (wT29 x2v.Op x2v.Text (Gp ulw) u55 u56) 3 0) :: (ulw, .row 30 ulx (u56 * kT29.size) 0) :: (Gx3, .row 30 u6j (cx3 * kT29.size) 0) :: Lr)) (_ : Rd kT26 S1 w1 Ax0 cx0 x0) (_ : x0.length = nx0) (_ : Els kT29 S1 w1 ulx x2v.L) (_ : x2v.L.length = u55) (_ : Els kT29 S1 w1 u6j x3) (_ : x3.length = nx3) (junk : Nat → Value),
 Goes Tg (base 117) J1au ⟨lfr 33 [(0, .slice Ax0 nx0 cx0), (2, (pt gx2 0)), (3, .slice (Gp Gx3) nx3 cx3), (5, .i x5)] junk, []⟩ w1 (Done Tg 117 (Rets (Post.z7z nz wz S0 w0 Lr r)))
def LL.z81 : (List T26) × T29 × (List T29) × Int → T29 → Prop := fun a r => ∀ {nz wz S0 w0 Lr}, L.z81 nz wz S0 w0 Lr a r
def L.z82 : T29 × (List T29) × (List T26) × Int × Int → T29 → Prop := fun ⟨x2v, x4, x23, x24, x25⟩ r => ∀ S1 w1, Ext S0 w0 S1 w1 → ∀ gx2 ulw u55 u56 ulx Gx4 nx4 cx4 utq u16 u17 u18 (_ : Hp nz wz S1 w1 ((some gx2, .row 30 (wT29 x2v.Op x2v.Text (Gp ulw) u55 u56) 3 0) :: (ulw, .row 30 ulx (u56 * kT29.size) 0) :: (Gx4, .row 30 utq (cx4 * kT29.size) 0) :: Lr)) (_ : Els kT29 S1 w1 ulx x2v.L) (_ : x2v.L.length = u55) (_ : Els kT29 S1 w1 utq x4) (_ : x4.length = nx4) (_ : Rd kT26 S1 w1 u16 u18 x23) (_ : x23.length = u17) (junk : Nat → Value),
 Goes Tg (base 54) J1b0 ⟨lfr 48 [(2, (pt gx2 0)), (4, .slice (Gp Gx4) nx4 cx4), (23, .slice u16 u17 u18), (24, .i x24), (25, .i x25)] junk, []⟩ w1 (Done Tg 54 (Rets (Post.z7y nz wz S0 w0 Lr r)))
def LL.z82 : T29 × (List T29) × (List T26) × Int × Int → T29 → Prop := fun a r => ∀ {nz wz S0 w0 Lr}, L.z82 nz wz S0 w0 Lr a r
theorem W.z83 : (∀ a r, M.aj a = some r → LF.z7y a r) ∧ (∀ a r, M.a3b a = some r → LL.z82 a r) ∧ (∀ a r, M.a4l a = some r → LF.z7z a r) ∧ (∀ a r, M.a39 a = some r → LL.z80 a r) ∧ (∀ a r, M.a3a a = some r → LL.z81 a r) := by
 refine M.aj.mutual_partial_correctness LF.z7y LL.z82 LF.z7z LL.z80 LL.z81 ?_ ?_ ?_ ?_ ?_
 ·
  intro rec_gram_from utr rec_gram_each ih_gram_from uts ih_gram_each x0 r h nz wz S0 w0 Lr u5 u6 u7 p0 unz um un
  try dsimp only at h
  subst un
  refine Zf Tryz.f54 B54 47 ?_
  refine Gj 48 [(0, (ag (vT26 x0 u5 x0.L.length u7)))] fun junk => ?_
  refine Gn 2 [] (Yt 10 B54 [0, 1] (Ys 11 B54 [])) ?_
  refine Ob 27 0 1 0 (ag (vT26 x0 u5 x0.L.length u7)) (vT26 x0 u5 x0.L.length u7) p0 Xa fun b1 w2 z2 p2 => ?_
  refine Oa 30 2 0 (.agg #[.i 0, .string bE, Sn]) [.i 0, .string bE, Sn] p2 Xa fun b3 w3 z3 p3 => ?_
  refine Gn 4 [] (Yt 1100 B54 [0, 1, 2, 3] (Ys 1101 B54 J1b3)) ?_
  refine Xg 27 1 7 27 ⟨b1, 0, none⟩ (vT26 x0 u5 x0.L.length u7) (p3.pa 1 0) ?_
  refine Gb h fun y5 e6 h => ?_
  refine Gc (kc 115 [7] #[27]) 8 219 115 _ (W.z71 x0 y5 e6 _ _ _ p3 unz (um.ext (z2.t z3)) rfl) ?_
  rintro _ w4 ⟨S4, uqh, uda, udb, rfl, z4, p4, udd, rfl⟩
  refine Oa 219 3 0 (.agg #[Sn, .bool false]) [Sn, .bool false] p4 Xa fun b7 w5 z5 p5 => ?_
  refine So 219 3 8 0 0 b7 0 (ag (vT218 y5 uqh y5.l.length udb)) (vT218 y5 uqh y5.l.length udb) p5 rfl Xe fun w6 z6 p6 => ?_
  refine Gn 4 [(9, (pt b7 1))] (Yt 11010 B54 [1] J1b6) ?_
  refine Xc 4 9 10 4 ⟨b7, 1, none⟩ (.bool y5.known) (p6.c 0 1) ?_
  refine Gn 1 [] J1b6 ?_
  refine Gi h (fun h9 h => ?_) fun h9 h => ?_
  ·
   rw [h9]
   have p6 : Hp nz wz S4 w6 ((some b7, .row 219 [Sl uqh y5.l udb, .bool true] 2 0) :: (some b3, .row 30 [.i 0, .string bE, Sn] 3 0) :: (some b1, .row 27 (vT26 x0 u5 x0.L.length u7) 8 0) :: Lr) := by simp only [wT29, vT69, vT165, vT26, vT134, vT370, vT218, h9] at p6; exact p6
   refine Gn 3 [] (Yt 1101100 B54 [0, 1, 2] J1b8) ?_
   refine Xg 219 3 11 219 ⟨b7, 0, none⟩ [Sl uqh y5.l udb, .bool true] (p6.pa 0 0) ?_
   refine Gb h fun y10 e11 h => ?_
   refine Gc (kc 116 [11] #[219]) 12 30 116 _ (W.z7o (⟨y5.l, true⟩ : T218) y10 e11 _ _ _ p6 (udd.ext (z5.t z6)) rfl) ?_
   rintro _ w7 ⟨S7, ulq, u5s, u5t, rfl, z7, p7, u5v, rfl⟩
   have p7 := (p7.dp 0).dp 1
   refine So 30 2 12 0 0 b3 0 ((ag (wT29 y10.Op y10.Text ulq y10.L.length u5t))) (wT29 y10.Op y10.Text ulq y10.L.length u5t) p7 rfl Xe fun w8 z8 p8 => ?_
   refine Gn 1 [] J1b8 ?_
   obtain rfl := sj h
   exact R1 Tryz.f54 (.cell 2 30) ((ag (wT29 y10.Op y10.Text ulq y10.L.length u5t))) (Rn b3 (p8.pa 0 0)) ⟨_, _, _, _, rfl, ((((((z2.t z3).t z4).t z5).t z6).t z7).t z8), p8.drop, (u5v.ext z8), rfl⟩
  ·
   have h9' := bf h9
   rw [h9']
   have p6 : Hp nz wz S4 w6 ((some b7, .row 219 [Sl uqh y5.l udb, .bool false] 2 0) :: (some b3, .row 30 [.i 0, .string bE, Sn] 3 0) :: (some b1, .row 27 (vT26 x0 u5 x0.L.length u7) 8 0) :: Lr) := by simp only [wT29, vT69, vT165, vT26, vT134, vT370, vT218, h9'] at p6; exact p6
   refine Gn 10 [(4, Sn), (13, (pt b1 0))] (Yt 111100 B54 [1] (Ys 111101 B54 J1av)) ?_
   refine Xc 3 13 14 3 ⟨b1, 0, none⟩ (.i x0.Kind) (p6.c 2 0) ?_
   refine Gm 7 [([16, 15], .bool (decide (x0.Kind = 2)))] (Ys 11110101 B54 J1aw) ?_
   refine Gi h (fun h12 h => ?_) fun h12 h => ?_
   ·
    rw [dt h12]
    refine Gn 4 [(17, (pt b1 5))] (Yt 1111010100 B54 [1, 2, 3] J1bd) ?_
    refine Xc 25 17 18 25 ⟨b1, 5, none⟩ (Sl u5 x0.L u7) (p6.c 2 5) ?_
    refine Gb h fun y13 e14 h => ?_
    refine Gc (kc 117 [18] #[25]) 19 30 117 _ (ih_gram_each x0.L y13 e14 _ _ _ p6 (um.ext ((((z2.t z3).t z4).t z5).t z6)) rfl) ?_
    rintro _ w9 ⟨S9, uls, u10, u11, rfl, z9, p9, u13, rfl⟩
    have p9 := (p9.dp 0).dp 1
    refine So 30 2 19 0 0 b3 0 ((ag (wT29 y13.Op y13.Text uls y13.L.length u11))) (wT29 y13.Op y13.Text uls y13.L.length u11) p9 rfl Xe fun w10 z10 p10 => ?_
    refine Gn 1 [] J1bd ?_
    obtain rfl := sj h
    exact R1 Tryz.f54 (.cell 2 30) ((ag (wT29 y13.Op y13.Text uls y13.L.length u11))) (Rn b3 (p10.pa 0 0)) ⟨_, _, _, _, rfl, ((((((z2.t z3).t z4).t z5).t z6).t z9).t z10), p10.drop, (u13.ext z10), rfl⟩
   ·
    rw [df h12]
    refine Gm 6 [([21, 20], .bool (decide (x0.Kind = 3)))] (Ys 1111010111 B54 J1aw) ?_
    refine Gi h (fun h15 h => ?_) fun h15 h => ?_
    ·
     rw [dt h15]
     refine Gn 5 [(22, (pt b1 5))] (Yt 1111010111000 B54 [1, 2, 3] (Ys 1111010111001 B54 J1ax)) ?_
     refine Xc 25 22 23 25 ⟨b1, 5, none⟩ (Sl u5 x0.L u7) (p6.c 2 5) ?_
     refine Gn 5 [(24, .i (x0.L.length : Int)), (25, .i 0)] J1b0 ?_
     have p6 : Hp nz wz S4 w6 ((none, .row 30 [] (0 * kT29.size) 0) :: (some b7, .row 219 [Sl uqh y5.l udb, .bool false] 2 0) :: (some b3, .row 30 [.i 0, .string bE, Sn] 3 0) :: (some b1, .row 27 (vT26 x0 u5 x0.L.length u7) 8 0) :: Lr) := p6.nilRow' 30
     have p6 := (p6.dp 1).dp 2
     have p6 : Hp nz wz S4 w6 ((none, .row 30 [] (0 * kT29.size) 0) :: (none, .row 30 [] (0 * kT29.size) 0) :: (some b3, .row 30 [.i 0, .string bE, .slice (Gp none) 0 0] 3 0) :: Lr) := p6.nilRow' 30
     have p6 := ((p6.fr 0).fr 1).fr 2
     exact Gj 48 [(2, (pt b3 0)), (4, .slice (Gp none) 0 0), (23, Sl u5 x0.L u7), (24, .i (x0.L.length : Int)), (25, .i 0)] (uts _ _ h _ _ ((((z2.t z3).t z4).t z5).t z6) _ none 0 0 [] none 0 0 [] _ _ _ p6 (Els.nil (K := kT29)) rfl (Els.nil (K := kT29)) rfl (um.ext ((((z2.t z3).t z4).t z5).t z6)) rfl)
    ·
     rw [df h15]
     refine Gm 6 [([38, 37], .bool (decide (x0.Kind = 4)))] (Ys 111101011111 B54 J1aw) ?_
     refine Gi h (fun h21 h => ?_) fun h21 h => ?_
     ·
      rw [dt h21]
      refine Gn 4 [(39, (pt b1 6))] (Yt 11110101111100 B54 [1, 2] J1bj) ?_
      refine Xc 3 39 40 3 ⟨b1, 6, none⟩ (.i x0.Min) (p6.c 2 6) ?_
      refine Gn 2 [(41, .bool (decide (x0.Min > 0)))] J1bj ?_
      refine Gi h (fun h22 h => ?_) fun h22 h => ?_
      ·
       rw [dt h22]
       refine Gn 4 [(42, (pt b1 5))] (Yt 1111010111110100 B54 [1, 2, 3, 4, 5] J1bl) ?_
       refine Xc 25 42 43 25 ⟨b1, 5, none⟩ (Sl u5 x0.L u7) (p6.c 2 5) ?_
       refine Gg h fun g23 h => ?_
       refine Oi 25 43 (.const (.int .i64 0)) 44 0 27 .i64 0 (gi x0.L 0) rfl rfl (um.ext ((((z2.t z3).t z4).t z5).t z6)) Xa (by decide : (0 : Int) ≤ 0) g23 fun a24 _ f25 q26 => ?_
       have q27 := q26
       obtain ⟨_, _, rfl, rfl, ⟨_, _, rfl, ⟨l28, f29⟩, ⟨_, _, rfl, ⟨A30, c31, rfl, f32⟩, ⟨_, _, rfl, rfl, rfl⟩⟩⟩⟩ := kT26_open q27
       obtain rfl := els_lit4' f29 l28
       refine Xg 27 44 45 27 a24 ([.i ((gi x0.L 0).Kind)] ++ ((U4 ((gi x0.L 0).Set) []) ++ ([.slice A30 (((gi x0.L 0).L).length) c31] ++ ([.i ((gi x0.L 0).Min)] ++ [.i ((gi x0.L 0).Max)])))) (f25.cell) ?_
       refine Gb h fun y33 e34 h => ?_
       refine Gc (kc 54 [45] #[27]) 46 30 54 _ (ih_gram_from (⟨(gi x0.L 0).Kind, ((gi x0.L 0).Set), (gi x0.L 0).L, (gi x0.L 0).Min, (gi x0.L 0).Max⟩ : T26) y33 e34 _ _ _ p6 l28 f32 rfl) ?_
       rintro _ w11 ⟨S11, ujm, ujn, ujo, rfl, z11, p11, ujq, rfl⟩
       have p11 := (p11.dp 0).dp 1
       refine So 30 2 46 0 0 b3 0 ((ag (wT29 y33.Op y33.Text ujm y33.L.length ujo))) (wT29 y33.Op y33.Text ujm y33.L.length ujo) p11 rfl Xe fun w12 z12 p12 => ?_
       refine Gn 1 [] J1bl ?_
       obtain rfl := sj h
       exact R1 Tryz.f54 (.cell 2 30) ((ag (wT29 y33.Op y33.Text ujm y33.L.length ujo))) (Rn b3 (p12.pa 0 0)) ⟨_, _, _, _, rfl, ((((((z2.t z3).t z4).t z5).t z6).t z11).t z12), p12.drop, (ujq.ext z12), rfl⟩
      ·
       rw [df h22]
       refine Gn 6 [(47, .agg #[.i 0, .string bE, Sn])] J1bo ?_
       refine So 30 2 47 0 1 b3 0 (.agg #[.i 0, .string bE, Sn]) [.i 0, .string bE, Sn] p6 rfl Xe fun w13 z13 p13 => ?_
       refine Gn 1 [] J1bn ?_
       obtain rfl := sj h
       have p13 := (p13.dp 0).dp 1
       exact R1 Tryz.f54 (.cell 2 30) (.agg #[.i 0, .string bE, Sn]) (Rn b3 (p13.pa 0 0)) ⟨_, _, _, _, rfl, (((((z2.t z3).t z4).t z5).t z6).t z13), p13.drop, Xr, rfl⟩
     ·
      rw [df h21]
      refine Gn 6 [(47, .agg #[.i 0, .string bE, Sn])] J1bo ?_
      refine So 30 2 47 0 1 b3 0 (.agg #[.i 0, .string bE, Sn]) [.i 0, .string bE, Sn] p6 rfl Xe fun w14 z14 p14 => ?_
      refine Gn 1 [] J1bn ?_
      obtain rfl := sj h
      have p14 := (p14.dp 0).dp 1
      exact R1 Tryz.f54 (.cell 2 30) (.agg #[.i 0, .string bE, Sn]) (Rn b3 (p14.pa 0 0)) ⟨_, _, _, _, rfl, (((((z2.t z3).t z4).t z5).t z6).t z14), p14.drop, Xr, rfl⟩
 ·
  intro rec_gram_from utr ih_gram_from uts ⟨x2v, x4, x23, x24, x25⟩ r h nz wz S0 w0 Lr S1 w1 hx gx2 ulw u55 u56 ulx Gx4 nx4 cx4 utq u16 u17 u18 p1 u5j u5k fx4 lx4 u1d u1e junk
  try dsimp only at h
  subst u5k
  subst lx4
  subst u1e
  refine Gn 5 [(26, .bool (decide (x25 < x24)))] (Ys 11110101110010010 B54 (Ys 11110101110010011 B54 J1az)) ?_
  refine Gi h (fun h35 h => ?_) fun h35 h => ?_
  ·
   rw [dt h35]
   refine Gn 6 [] (Yt 11110101110010011000 B54 [0, 1, 2, 3] (Zc Q124 J1bs)) ?_
   refine Gg h fun g36 h => ?_
   refine Gg h fun g37 h => ?_
   refine Oi 25 23 25 27 0 27 .i64 x25 (gi x23 x25) rfl rfl u1d Xa g36 g37 fun a38 _ f39 q40 => ?_
   have q41 := q40
   obtain ⟨_, _, rfl, rfl, ⟨_, _, rfl, ⟨l42, f43⟩, ⟨_, _, rfl, ⟨A44, c45, rfl, f46⟩, ⟨_, _, rfl, rfl, rfl⟩⟩⟩⟩ := kT26_open q41
   obtain rfl := els_lit4' f43 l42
   refine Xg 27 27 28 27 a38 ([.i ((gi x23 x25).Kind)] ++ ((U4 ((gi x23 x25).Set) []) ++ ([.slice A44 (((gi x23 x25).L).length) c45] ++ ([.i ((gi x23 x25).Min)] ++ [.i ((gi x23 x25).Max)])))) (f39.cell) ?_
   refine Oa 27 6 0 (.agg #[.i 0, .u 0, .u 0, .u 0, .u 0, Sn, .i 0, .i 0]) [.i 0, .u 0, .u 0, .u 0, .u 0, Sn, .i 0, .i 0] p1 Xa fun b47 w15 z15 p15 => ?_
   refine So 27 6 28 0 0 b47 0 (ag (.i ((gi x23 x25).Kind) :: U4 ((gi x23 x25).Set) [.slice A44 (((gi x23 x25).L).length) c45, .i ((gi x23 x25).Min), .i ((gi x23 x25).Max)])) (.i ((gi x23 x25).Kind) :: U4 ((gi x23 x25).Set) [.slice A44 (((gi x23 x25).L).length) c45, .i ((gi x23 x25).Min), .i ((gi x23 x25).Max)]) p15 rfl Xe fun w16 z16 p16 => ?_
   refine Gn 3 [(29, Sl (Gp Gx4) x4 cx4)] (Zr Q124 [1, 2, 3, 4, 5] J1bs) ?_
   refine Xg 27 6 30 27 ⟨b47, 0, none⟩ (.i ((gi x23 x25).Kind) :: U4 ((gi x23 x25).Set) [.slice A44 (((gi x23 x25).L).length) c45, .i ((gi x23 x25).Min), .i ((gi x23 x25).Max)]) (p16.pa 0 0) ?_
   refine Gb h fun y49 e50 h => ?_
   refine Gc (kc 54 [30] #[27]) 31 30 54 _ (ih_gram_from (⟨(gi x23 x25).Kind, ((gi x23 x25).Set), (gi x23 x25).L, (gi x23 x25).Min, (gi x23 x25).Max⟩ : T26) y49 e50 _ _ _ p16 l42 (f46.ext (z15.t z16)) rfl) ?_
   rintro _ w17 ⟨S17, una, unb, unc, rfl, z17, p17, unf, rfl⟩
   have p17 := p17.dp 0
   have f52 : Els kT29 S17 w17 ((wT29 y49.Op y49.Text una y49.L.length unc) : List Value) [y49] := by exact (Els.cons (K := kT29) (vs := (wT29 y49.Op y49.Text una y49.L.length unc)) (x := y49) (kT29_close ⟨[.i y49.Op], [.string y49.Text, Sl una y49.L unc], rfl, rfl, ⟨[.string y49.Text], [Sl una y49.L unc], rfl, rfl, ⟨_, _, rfl, unf⟩⟩⟩) Els.nil)
   refine Om (.buildSlice 28 1 #[(0, 31)]) 32 28 (fun b => .slice (Gp (some b)) 1 1) 30 ((wT29 y49.Op y49.Text una y49.L.length unc) : List Value) (1 * kT29.size) p17 Xa fun b51 w18 z18 p18 => ?_
   refine Gg h fun g57 h => ?_
   refine On (K := kT29) 28 29 32 33 28 30 3 (.agg #[.i 0, .string ⟨#[]⟩, Sn]) 48 x4.length cx4 1 x4 [y49] (x4 ++ [y49]) (Gp (some b51)) 1 rfl rfl rfl p18 rfl (fx4.ext (((z15.t z16).t z17).t z18)) Xa (f52.ext z18) (src_own p18 (q := 0) rfl) g57 fun w19 G58 c59 ucm z19 p19 f61 => ?_
   refine Gm 8 [([4], .slice (Gp G58) ((x4 ++ [y49]).length) c59), ([34, 25], .i (wr .i64 (x25 + 1)))] J1b0 ?_
   have p19 := p19.dp 0
   exact Gj 48 [(2, (pt gx2 0)), (4, .slice (Gp G58) ((x4 ++ [y49]).length) c59), (23, Sl u16 x23 u18), (24, .i x24), (25, .i (wr .i64 (x25 + 1)))] (uts _ _ h _ _ (((((hx.t z15).t z16).t z17).t z18).t z19) _ _ _ _ _ _ _ _ _ _ _ _ p19 (u5j.ext ((((z15.t z16).t z17).t z18).t z19)) rfl f61 rfl (u1d.ext ((((z15.t z16).t z17).t z18).t z19)) rfl)
  ·
   rw [df h35]
   refine Gn 5 [(35, Sl (Gp Gx4) x4 cx4)] (Yt 1111010111010 B54 [1, 2] J1bw) ?_
   obtain ⟨S20, z20, p20, f62⟩ := p1.freezeRd 2 rfl fx4 (by decide)
   refine Gb h fun y63 e64 h => ?_
   refine Gc (.call { callee := .value (.func 118), args := #[(.const (.int .i64 4)), 35], argTypes := #[3, 28] }) 36 30 118 _ (W.z7k 4 x4 y63 e64 _ _ _ p20 f62 rfl) ?_
   rintro _ w21 ⟨S21, ui4, ui5, ui6, rfl, z21, p21, ui9, rfl⟩
   have p21 := p21.dp 2
   refine So 30 2 36 0 0 gx2 0 ((ag (wT29 y63.Op y63.Text ui4 y63.L.length ui6))) (wT29 y63.Op y63.Text ui4 y63.L.length ui6) p21 rfl Xe fun w22 z22 p22 => ?_
   refine Gn 1 [] J1bw ?_
   obtain rfl := sj h
   have p22 := p22.dp 1
   exact R1 Tryz.f54 (.cell 2 30) ((ag (wT29 y63.Op y63.Text ui4 y63.L.length ui6))) (Rn gx2 (p22.pa 0 0)) ⟨_, _, _, _, rfl, (((hx.t z20).t z21).t z22), p22.drop, (ui9.ext z22), rfl⟩
 ·
  intro utt utu x0 r h nz wz S0 w0 Lr Ax0 nx0 cx0 p0 fx0 lx0
  try dsimp only at h
  subst lx0
  refine Zf Tryz.f117 B117 32 ?_
  refine Gj 33 [(0, Sl Ax0 x0 cx0)] fun junk => ?_
  refine Gn 2 [] (Yt 10 B117 [0] (Ys 11 B117 [])) ?_
  refine Oa 30 2 0 (.agg #[.i 0, .string bE, Sn]) [.i 0, .string bE, Sn] p0 Xa fun b1 w2 z2 p2 => ?_
  refine Gn 8 [(3, Sn)] J1as ?_
  have p2 : Hp nz wz S0 w2 ((none, .row 30 [] (0 * kT29.size) 0) :: (some b1, .row 30 [.i 0, .string bE, Sn] 3 0) :: Lr) := p2.nilRow' 30
  have p2 : Hp nz wz S0 w2 ((none, .row 30 [] (0 * kT29.size) 0) :: (none, .row 30 [] (0 * kT29.size) 0) :: (some b1, .row 30 [.i 0, .string bE, .slice (Gp none) 0 0] 3 0) :: Lr) := p2.nilRow' 30
  have p2 := ((p2.fr 0).fr 1).fr 2
  exact Gj 33 [(0, Sl Ax0 x0 cx0), (2, (pt b1 0)), (3, .slice (Gp none) 0 0)] (utu _ _ h _ _ z2 _ _ _ _ none 0 0 [] none 0 0 [] p2 (fx0.ext z2) rfl (Els.nil (K := kT29)) rfl (Els.nil (K := kT29)) rfl)
 ·
  intro rec_gram_from utv ih_gram_from utw ⟨x0, x2v, x3⟩ r h nz wz S0 w0 Lr S1 w1 hx Ax0 nx0 cx0 gx2 ulw u55 u56 ulx Gx3 nx3 cx3 u6j p1 fx0 lx0 u5j u5k fx3 lx3 junk
  try dsimp only at h
  subst lx0
  subst u5k
  subst lx3
  refine Gn 7 [(6, Sl Ax0 x0 cx0), (7, .i (x0.length : Int)), (8, .bool (decide ((x0.length : Int) > 0)))] (Ys 11100001 B117 (Ys 1110001 B117 J1ar)) ?_
  refine Gi h (fun h8 h => ?_) fun h8 h => ?_
  ·
   rw [dt h8]
   refine Gn 6 [(10, Sl Ax0 x0 cx0)] (Zr Q12d [1, 2, 3, 4, 5, 6, 7] J1c2) ?_
   refine Gb h fun y9 e10 h => ?_
   refine Gc (kc 187 [10] #[25]) 11 297 187 _ (W.z7t x0 y9 e10 _ _ _ p1 fx0 rfl) ?_
   rintro _ w3 ⟨S3, utx, uty, utz, rfl, z3, p3, uu0, rfl⟩
   refine Gn 3 [(9, .tuple #[(ag (vT218 y9.1 utx y9.1.l.length utz)), .i y9.2]), (12, (ag (vT218 y9.1 utx y9.1.l.length utz))), (13, .i y9.2)] (Zr Q12d [5, 6, 7] J1c2) ?_
   refine Oa 219 4 0 (.agg #[Sn, .bool false]) [Sn, .bool false] p3 Xa fun b11 w4 z4 p4 => ?_
   refine So 219 4 12 0 0 b11 0 (ag (vT218 y9.1 utx y9.1.l.length utz)) (vT218 y9.1 utx y9.1.l.length utz) p4 rfl Xe fun w5 z5 p5 => ?_
   refine Gn 6 [(5, .i y9.2), (14, (pt b11 1))] (Yt 11100010100 B117 [1] J1c5) ?_
   refine Xc 4 14 15 4 ⟨b11, 1, none⟩ (.bool y9.1.known) (p5.c 0 1) ?_
   refine Gn 1 [] J1c5 ?_
   refine Gi h (fun h13 h => ?_) fun h13 h => ?_
   ·
    rw [h13]
    have p5 : Hp nz wz S3 w5 ((some b11, .row 219 [Sl utx y9.1.l utz, .bool true] 2 0) :: (some gx2, .row 30 (wT29 x2v.Op x2v.Text (Gp ulw) x2v.L.length u56) 3 0) :: (ulw, .row 30 ulx (u56 * kT29.size) 0) :: (Gx3, .row 30 u6j (cx3 * kT29.size) 0) :: Lr) := by simp only [wT29, vT69, vT165, vT26, vT134, vT370, vT218, h13] at p5; exact p5
    refine Gn 3 [(16, Sl (Gp Gx3) x3 cx3)] (Yt 111000101010 B117 [1, 2, 3, 4, 5] J1au) ?_
    refine Xg 219 4 17 219 ⟨b11, 0, none⟩ [Sl utx y9.1.l utz, .bool true] (p5.pa 0 0) ?_
    refine Gb h fun y14 e15 h => ?_
    refine Gc (kc 116 [17] #[219]) 18 30 116 _ (W.z7o (⟨y9.1.l, true⟩ : T218) y14 e15 _ _ _ p5 (uu0.ext (z4.t z5)) rfl) ?_
    rintro _ w6 ⟨S6, um1, um2, um3, rfl, z6, p6, um5, rfl⟩
    have p6 := p6.dp 0
    have f17 : Els kT29 S6 w6 ((wT29 y14.Op y14.Text um1 y14.L.length um3) : List Value) [y14] := by exact (Els.cons (K := kT29) (vs := (wT29 y14.Op y14.Text um1 y14.L.length um3)) (x := y14) (kT29_close ⟨[.i y14.Op], [.string y14.Text, Sl um1 y14.L um3], rfl, rfl, ⟨[.string y14.Text], [Sl um1 y14.L um3], rfl, rfl, ⟨_, _, rfl, um5⟩⟩⟩) Els.nil)
    refine Om (.buildSlice 28 1 #[(0, 18)]) 19 28 (fun b => .slice (Gp (some b)) 1 1) 30 ((wT29 y14.Op y14.Text um1 y14.L.length um3) : List Value) (1 * kT29.size) p6 Xa fun b16 w7 z7 p7 => ?_
    refine Gg h fun g22 h => ?_
    refine On (K := kT29) 28 16 19 20 28 30 3 (.agg #[.i 0, .string ⟨#[]⟩, Sn]) 48 x3.length cx3 1 x3 [y14] (x3 ++ [y14]) (Gp (some b16)) 1 rfl rfl rfl p7 rfl (fx3.ext ((((z3.t z4).t z5).t z6).t z7)) Xa (f17.ext z7) (src_own p7 (q := 0) rfl) g22 fun w8 G23 c24 uu1 z8 p8 f26 => ?_
    refine Gn 2 [(3, .slice (Gp G23) ((x3 ++ [y14]).length) c24)] J1au ?_
    have p8 := p8.dp 0
    exact Gj 33 [(0, Sl Ax0 x0 cx0), (2, (pt gx2 0)), (3, .slice (Gp G23) ((x3 ++ [y14]).length) c24), (5, .i y9.2)] (utw _ _ h _ _ ((((((hx.t z3).t z4).t z5).t z6).t z7).t z8) _ _ _ _ _ _ _ _ _ _ _ _ p8 (fx0.ext (((((z3.t z4).t z5).t z6).t z7).t z8)) rfl (u5j.ext (((((z3.t z4).t z5).t z6).t z7).t z8)) rfl f26 rfl)
   ·
    have u1x := bf h13
    rw [u1x]
    have p5 : Hp nz wz S3 w5 ((some b11, .row 219 [Sl utx y9.1.l utz, .bool false] 2 0) :: (some gx2, .row 30 (wT29 x2v.Op x2v.Text (Gp ulw) x2v.L.length u56) 3 0) :: (ulw, .row 30 ulx (u56 * kT29.size) 0) :: (Gx3, .row 30 u6j (cx3 * kT29.size) 0) :: Lr) := by simp only [wT29, vT69, vT165, vT26, vT134, vT370, vT218, u1x] at p5; exact p5
    refine Gn 4 [(21, Sl (Gp Gx3) x3 cx3), (22, Sl Ax0 x0 cx0)] (Yt 111000101011 B117 [2, 3, 4, 5, 6, 7] J1au) ?_
    refine Gg h fun g30 h => ?_
    refine Oi 25 22 (.const (.int .i64 0)) 23 0 27 .i64 0 (gi x0 0) rfl rfl (fx0.ext ((z3.t z4).t z5)) Xa (by decide : (0 : Int) ≤ 0) g30 fun a31 _ f32 q33 => ?_
    have q34 := q33
    obtain ⟨_, _, rfl, rfl, ⟨_, _, rfl, ⟨l35, f36⟩, ⟨_, _, rfl, ⟨A37, c38, rfl, f39⟩, ⟨_, _, rfl, rfl, rfl⟩⟩⟩⟩ := kT26_open q34
    obtain rfl := els_lit4' f36 l35
    refine Xg 27 23 24 27 a31 ([.i ((gi x0 0).Kind)] ++ ((U4 ((gi x0 0).Set) []) ++ ([.slice A37 (((gi x0 0).L).length) c38] ++ ([.i ((gi x0 0).Min)] ++ [.i ((gi x0 0).Max)])))) (f32.cell) ?_
    refine Gb h fun y40 e41 h => ?_
    refine Gc (kc 54 [24] #[27]) 25 30 54 _ (ih_gram_from (⟨(gi x0 0).Kind, ((gi x0 0).Set), (gi x0 0).L, (gi x0 0).Min, (gi x0 0).Max⟩ : T26) y40 e41 _ _ _ p5 l35 f39 rfl) ?_
    rintro _ w9 ⟨S9, uls, u10, u11, rfl, z9, p9, u13, rfl⟩
    have p9 := p9.dp 0
    have f43 : Els kT29 S9 w9 ((wT29 y40.Op y40.Text uls y40.L.length u11) : List Value) [y40] := by exact (Els.cons (K := kT29) (vs := (wT29 y40.Op y40.Text uls y40.L.length u11)) (x := y40) (kT29_close ⟨[.i y40.Op], [.string y40.Text, Sl uls y40.L u11], rfl, rfl, ⟨[.string y40.Text], [Sl uls y40.L u11], rfl, rfl, ⟨_, _, rfl, u13⟩⟩⟩) Els.nil)
    refine Om (.buildSlice 28 1 #[(0, 25)]) 26 28 (fun b => .slice (Gp (some b)) 1 1) 30 ((wT29 y40.Op y40.Text uls y40.L.length u11) : List Value) (1 * kT29.size) p9 Xa fun b42 w10 z10 p10 => ?_
    refine Gg h fun g48 h => ?_
    refine On (K := kT29) 28 21 26 27 28 30 3 (.agg #[.i 0, .string ⟨#[]⟩, Sn]) 48 x3.length cx3 1 x3 [y40] (x3 ++ [y40]) (Gp (some b42)) 1 rfl rfl rfl p10 rfl (fx3.ext ((((z3.t z4).t z5).t z9).t z10)) Xa (f43.ext z10) (src_own p10 (q := 0) rfl) g48 fun w11 G49 c50 uu2 z11 p11 f52 => ?_
    refine Gn 2 [(3, .slice (Gp G49) ((x3 ++ [y40]).length) c50)] J1au ?_
    have p11 := p11.dp 0
    exact Gj 33 [(0, Sl Ax0 x0 cx0), (2, (pt gx2 0)), (3, .slice (Gp G49) ((x3 ++ [y40]).length) c50), (5, .i y9.2)] (utw _ _ h _ _ ((((((hx.t z3).t z4).t z5).t z9).t z10).t z11) _ _ _ _ _ _ _ _ _ _ _ _ p11 (fx0.ext (((((z3.t z4).t z5).t z9).t z10).t z11)) rfl (u5j.ext (((((z3.t z4).t z5).t z9).t z10).t z11)) rfl f52 rfl)
  ·
   rw [df h8]
   refine Gn 5 [(31, Sl (Gp Gx3) x3 cx3)] (Yt 11110 B117 [1, 2] J1c9) ?_
   obtain ⟨S12, z12, p12, f53⟩ := p1.freezeRd 2 rfl fx3 (by decide)
   refine Gb h fun y54 e55 h => ?_
   refine Gc (.call { callee := .value (.func 118), args := #[(.const (.int .i64 3)), 31], argTypes := #[3, 28] }) 32 30 118 _ (W.z7k 3 x3 y54 e55 _ _ _ p12 f53 rfl) ?_
   rintro _ w13 ⟨S13, uu3, uu4, uu5, rfl, z13, p13, uu6, rfl⟩
   have p13 := p13.dp 2
   refine So 30 2 32 0 0 gx2 0 ((ag (wT29 y54.Op y54.Text uu3 y54.L.length uu5))) (wT29 y54.Op y54.Text uu3 y54.L.length uu5) p13 rfl Xe fun w14 z14 p14 => ?_
   refine Gn 1 [] J1c9 ?_
   obtain rfl := sj h
   have p14 := p14.dp 1
   exact R1 Tryz.f117 (.cell 2 30) ((ag (wT29 y54.Op y54.Text uu3 y54.L.length uu5))) (Rn gx2 (p14.pa 0 0)) ⟨_, _, _, _, rfl, (((hx.t z12).t z13).t z14), p14.drop, (uu6.ext z14), rfl⟩
 ·
  intro utt utu ⟨x0, x2v, x3, x5⟩ r h nz wz S0 w0 Lr S1 w1 hx Ax0 nx0 cx0 gx2 ulw u55 u56 ulx Gx3 nx3 cx3 u6j p1 fx0 lx0 u5j u5k fx3 lx3 junk
  try dsimp only at h
  subst lx0
  subst u5k
  subst lx3
  refine Gn 3 [(28, Sl Ax0 x0 cx0), (29, .i x5)] (Zr Q119 [2, 3] J1at) ?_
  refine Gg h fun g56 h => ?_
  refine Gg h fun g57 h => ?_
  refine Op_.slR_n 25 28 (some 29) none 30 25 27 x5 (x0.length : Int) (sl x0 x5 (x0.length : Int)) rfl rfl fx0 Xa (by kernel_rfl) (by kernel_rfl) (by kernel_rfl) (Xt .i64 (by kernel_rfl)) Xv g56 g57 (Int.le_refl _) fun A58 c59 f60 => ?_
  refine Gn 4 [(0, .slice A58 ((sl x0 x5 (x0.length : Int)).length) c59)] J1as ?_
  exact Gj 33 [(0, .slice A58 ((sl x0 x5 (x0.length : Int)).length) c59), (2, (pt gx2 0)), (3, Sl (Gp Gx3) x3 cx3)] (utu _ _ h _ _ hx _ _ _ _ _ _ _ _ _ _ _ _ p1 f60 rfl u5j rfl fx3 rfl)
theorem W.z7y : ∀ a r, M.aj a = some r → LF.z7y a r := (W.z83).1
theorem W.z82 : ∀ a r, M.a3b a = some r → LL.z82 a r := (W.z83).2.1
theorem W.z7z : ∀ a r, M.a4l a = some r → LF.z7z a r := (W.z83).2.2.1
theorem W.z80 : ∀ a r, M.a39 a = some r → LL.z80 a r := (W.z83).2.2.2.1
theorem W.z81 : ∀ a r, M.a3a a = some r → LL.z81 a r := (W.z83).2.2.2.2
def J1ce := Ys 111 B13 []
def J1cf := Ys 1101 B13 J1ce
def J1ch := Ys 1111 B13 []
def J1cj := Ys 110101 B13 J1ce
def Post.z84 (r : T29 × Int) (v : Value) (w' : World) : Prop :=
 ∃ S' uno unp unq, v = .tuple #[(ag (wT29 r.1.Op r.1.Text uno unp unq)), .i r.2] ∧ Ext S0 w0 S' w' ∧ Hp nz wz S' w' (Lr) ∧ Rd kT29 S' w' uno unq r.1.L ∧ r.1.L.length = unp
theorem W.z84 (x0 : T26) (r : T29 × Int) (h : M.a5t x0 = some r) {nz wz S0 w0 Lr} (u5 u6 u7) (p0 : Hp nz wz S0 w0 (Lr)) (unz : x0.Set.length = 4) (um : Rd kT26 S0 w0 u5 u7 x0.L) (un : x0.L.length = u6) :
  Calls Tg 13 #[(ag (vT26 x0 u5 u6 u7))] w0 (Rets (Post.z84 nz wz S0 w0 Lr r)) := by
 subst un
 refine Zf Tryz.f13 B13 9 ?_
 refine Gj 10 [(0, (ag (vT26 x0 u5 x0.L.length u7)))] fun junk => ?_
 delta M.a5t at h
 refine Gn 2 [] (Yt 10 B13 [0, 1, 2] (Ys 11 B13 [])) ?_
 refine Ob 27 0 1 0 (ag (vT26 x0 u5 x0.L.length u7)) (vT26 x0 u5 x0.L.length u7) p0 Xa fun b1 w2 z2 p2 => ?_
 refine Oa 30 2 0 (.agg #[.i 0, .string bE, Sn]) [.i 0, .string bE, Sn] p2 Xa fun b3 w3 z3 p3 => ?_
 refine Gn 5 [(3, .i 0)] (Yt 1100 B13 [0, 1, 2] J1cf) ?_
 refine Xg 27 1 4 27 ⟨b1, 0, none⟩ (vT26 x0 u5 x0.L.length u7) (p3.pa 1 0) ?_
 refine Gb h fun y5 e6 h => ?_
 refine Gc (kc 53 [4] #[27]) 5 4 53 _ (W.z69 x0 y5 e6 _ _ _ p3 unz (um.ext (z2.t z3)) rfl) ?_
 rintro _ w4 ⟨S4, rfl, z4, p4⟩
 refine Gn 2 [(6, .bool (!y5))] J1cf ?_
 refine Gi h (fun h7 h => ?_) fun h7 h => ?_
 ·
  rw [h7]
  refine Gn 4 [] (Yt 1110 B13 [0, 1, 2, 3] J1ch) ?_
  refine Xg 27 1 8 27 ⟨b1, 0, none⟩ (vT26 x0 u5 x0.L.length u7) (p4.pa 1 0) ?_
  refine Gb h fun y8 e9 h => ?_
  refine Gc (kc 54 [8] #[27]) 9 30 54 _ (W.z7y x0 y8 e9 _ _ _ p4 unz (um.ext ((z2.t z3).t z4)) rfl) ?_
  rintro _ w5 ⟨S5, ums, umt, umu, rfl, z5, p5, umw, rfl⟩
  have p5 := p5.dp 1
  refine So 30 2 9 0 0 b3 0 ((ag (wT29 y8.Op y8.Text ums y8.L.length umu))) (wT29 y8.Op y8.Text ums y8.L.length umu) p5 rfl Xe fun w6 z6 p6 => ?_
  refine Gn 2 [(3, .i 0)] J1ch ?_
  obtain rfl := sj h
  exact R2 Tryz.f13 (.cell 2 30) 3 (.tuple #[(ag (wT29 y8.Op y8.Text ums y8.L.length umu)), .i 0]) (Rn b3 (p6.pa 0 0)) Rt ⟨_, _, _, _, rfl, ((((z2.t z3).t z4).t z5).t z6), p6.drop, (umw.ext z6), rfl⟩
 ·
  rw [bf h7]
  refine Gn 4 [(7, .agg #[.i 0, .string bE, Sn])] (Yt 110100 B13 [1, 2] J1cj) ?_
  refine So 30 2 7 0 0 b3 0 (.agg #[.i 0, .string bE, Sn]) [.i 0, .string bE, Sn] p4 rfl Xe fun w7 z7 p7 => ?_
  refine Gn 2 [(3, .i 2)] J1cj ?_
  obtain rfl := sj h
  have p7 := p7.dp 1
  exact R2 Tryz.f13 (.cell 2 30) 3 (.tuple #[.agg #[.i 0, .string bE, Sn], .i 2]) (Rn b3 (p7.pa 0 0)) Rt ⟨_, _, _, _, rfl, (((z2.t z3).t z4).t z7), p7.drop, Xr, rfl⟩
def J1cl := Ys 11111 B22 []
def Q12u := Yq 11110100 B22
def J1cn := Zl Q12u (Zb 0 J1cl)
def J1co := Zc Q12u J1cn
def J1cr := Ys 111 B22 []
def J1cs := Ys 1101 B22 J1cr
def J1d0 := Zb 1 (Ys 11110100111 B22 J1cn)
def Q136 := Yq 1111010011001 B22
def J1d6 := Ys 1111111 B22 []
def J1d9 := Zb 2 J1d6
def J1dd := Ys 11111101011101 B22 J1d9
def J1dg := Ys 1111110101111101 B22 J1d9
def J1dj := Ys 111111010111111101 B22 J1d9
def Post.z85 (r : ByteArray) (v : Value) (w' : World) : Prop :=
 ∃ S', v = .string r ∧ Ext S0 w0 S' w' ∧ Hp nz wz S' w' (Lr)
def LF.z85 : T29 → ByteArray → Prop := fun x0 r => ∀ {nz wz S0 w0 Lr} u5 u6 u7 (_ : Hp nz wz S0 w0 (Lr)) (_ : Rd kT29 S0 w0 u5 u7 x0.L) (_ : x0.L.length = u6),
 Calls Tg 22 #[(ag (wT29 x0.Op x0.Text u5 u6 u7))] w0 (Rets (Post.z85 nz wz S0 w0 Lr r))
def L.z86 : T29 × (List ByteArray) × (List T29) × Int × Int → ByteArray → Prop := fun ⟨x1v, x3, x11, x12, x13⟩ r => ∀ S1 w1, Ext S0 w0 S1 w1 → ∀ gx1 u1g u1h u1i Gx3 nx3 cx3 u6j uu7 uu8 uu9 (_ : Hp nz wz S1 w1 ((some gx1, .row 30 (wT29 x1v.Op x1v.Text u1g u1h u1i) 3 0) :: (Gx3, .row 9 u6j (cx3 * kStr.size) 0) :: Lr)) (_ : Rd kT29 S1 w1 u1g u1i x1v.L) (_ : x1v.L.length = u1h) (_ : Els kStr S1 w1 u6j x3) (_ : x3.length = nx3) (_ : Rd kT29 S1 w1 uu7 uu9 x11) (_ : x11.length = uu8) (junk : Nat → Value),
 Goes Tg (base 22) J1co ⟨lfr 45 [(1, (pt gx1 0)), (3, .slice (Gp Gx3) nx3 cx3), (11, .slice uu7 uu8 uu9), (12, .i x12), (13, .i x13)] junk, []⟩ w1 (Done Tg 22 (Rets (Post.z85 nz wz S0 w0 Lr r)))
def LL.z86 : T29 × (List ByteArray) × (List T29) × Int × Int → ByteArray → Prop := fun a r => ∀ {nz wz S0 w0 Lr}, L.z86 nz wz S0 w0 Lr a r
theorem W.z87 : (∀ a r, M.a1x a = some r → LF.z85 a r) ∧ (∀ a r, M.a3c a = some r → LL.z86 a r) := by
 refine M.a1x.mutual_partial_correctness LF.z85 LL.z86 ?_ ?_
 ·
  intro uua uub x0 r h nz wz S0 w0 Lr u5 u6 u7 p0 um un
  try dsimp only at h
  subst un
  refine Zf Tryz.f22 B22 44 ?_
  refine Gj 45 [(0, (ag (wT29 x0.Op x0.Text u5 x0.L.length u7)))] fun junk => ?_
  refine Gn 2 [] (Yt 10 B22 [0, 1] (Ys 11 B22 [])) ?_
  refine Ob 30 0 1 0 ((ag (wT29 x0.Op x0.Text u5 x0.L.length u7))) (wT29 x0.Op x0.Text u5 x0.L.length u7) p0 Xa fun b1 w2 z2 p2 => ?_
  refine Gn 5 [(2, .string bE)] (Yt 1100 B22 [0, 1, 2] J1cs) ?_
  refine Xg 30 1 7 30 ⟨b1, 0, none⟩ (wT29 x0.Op x0.Text u5 x0.L.length u7) (p2.pa 0 0) ?_
  refine Gb h fun y3 e4 h => ?_
  refine Gc (kc 20 [7] #[30]) 8 34 20 _ (W.zg x0 y3 e4 _ _ _ p2 (um.ext z2) rfl) ?_
  rintro _ w3 ⟨S3, rfl, z3, p3⟩
  refine Gn 2 [(9, .bool (!(decide (y3 = 0))))] J1cs ?_
  refine Gi h (fun h5 h => ?_) fun h5 h => ?_
  ·
   rw [dt h5]
   refine Gn 10 [(3, Sn), (10, (pt b1 2))] (Yt 111100 B22 [1, 2, 3] (Ys 111101 B22 J1cl)) ?_
   refine Xc 28 10 11 28 ⟨b1, 2, none⟩ (Sl u5 x0.L u7) (p3.c 0 2) ?_
   refine Gn 5 [(12, .i (x0.L.length : Int)), (13, .i 0)] J1co ?_
   have p3 : Hp nz wz S3 w3 ((none, .row 9 [] (0 * kStr.size) 0) :: (some b1, .row 30 (wT29 x0.Op x0.Text u5 x0.L.length u7) 3 0) :: Lr) := p3.nilRow' 9
   have p3 := (p3.fr 0).fr 1
   exact Gj 45 [(1, (pt b1 0)), (3, .slice (Gp none) 0 0), (11, Sl u5 x0.L u7), (12, .i (x0.L.length : Int)), (13, .i 0)] (uub _ _ h _ _ (z2.t z3) _ _ _ _ none 0 0 [] _ _ _ p3 (um.ext (z2.t z3)) rfl (Els.nil (K := kStr)) rfl (um.ext (z2.t z3)) rfl)
  ·
   rw [df h5]
   refine Gn 5 [(2, .string bE)] (Ys 110101 B22 J1cr) ?_
   obtain rfl := sj h
   have p3 := p3.dp 0
   exact Xd Tryz.f22 (.string bE) ⟨_, rfl, (z2.t z3), p3⟩
 ·
  intro rec_gram_Text uua ih_gram_Text uub ⟨x1v, x3, x11, x12, x13⟩ r h nz wz S0 w0 Lr S1 w1 hx gx1 u1g u1h u1i Gx3 nx3 cx3 u6j uu7 uu8 uu9 p1 u1n u1o fx3 lx3 uuc uud junk
  try dsimp only at h
  subst u1o
  subst lx3
  subst uud
  refine Gn 5 [(14, .bool (decide (x13 < x12)))] (Ys 1111010010 B22 (Ys 1111010011 B22 J1cn)) ?_
  refine Gi h (fun h9 h => ?_) fun h9 h => ?_
  ·
   rw [dt h9]
   refine Gn 6 [] (Yt 1111010011000 B22 [0, 1, 2, 3] (Zc Q136 J1d0)) ?_
   refine Gg h fun g10 h => ?_
   refine Gg h fun g11 h => ?_
   refine Oi 28 11 13 15 0 30 .i64 x13 (gi x11 x13) rfl rfl uuc Xa g10 g11 fun a12 _ f13 q14 => ?_
   have q15 := q14
   obtain ⟨_, _, rfl, rfl, ⟨_, _, rfl, rfl, ⟨A16, c17, rfl, f18⟩⟩⟩ := kT29_open q15
   refine Xg 30 15 16 30 a12 ([.i ((gi x11 x13).Op)] ++ ([.string ((gi x11 x13).Text)] ++ [.slice A16 (((gi x11 x13).L).length) c17])) (f13.cell) ?_
   refine Oa 30 5 0 (.agg #[.i 0, .string bE, Sn]) [.i 0, .string bE, Sn] p1 Xa fun b19 w4 z4 p4 => ?_
   refine So 30 5 16 0 0 b19 0 ((ag (wT29 (gi x11 x13).Op (gi x11 x13).Text A16 (((gi x11 x13).L).length) c17))) (wT29 (gi x11 x13).Op (gi x11 x13).Text A16 (((gi x11 x13).L).length) c17) p4 rfl Xe fun w5 z5 p5 => ?_
   refine Gn 3 [(17, Sl (Gp Gx3) x3 cx3)] (Zr Q136 [1, 2, 3, 4, 5] J1d0) ?_
   refine Xg 30 5 18 30 ⟨b19, 0, none⟩ (wT29 (gi x11 x13).Op (gi x11 x13).Text A16 (((gi x11 x13).L).length) c17) (p5.pa 0 0) ?_
   refine Gb h fun y21 e22 h => ?_
   refine Gc (kc 22 [18] #[30]) 19 9 22 _ (ih_gram_Text (gi x11 x13) y21 e22 _ _ _ p5 (f18.ext (z4.t z5)) rfl) ?_
   rintro _ w6 ⟨S6, rfl, z6, p6⟩
   have p6 := p6.dp 0
   have f24 : Els kStr S6 w6 ([.string y21] : List Value) [y21] := by exact (Els.cons (K := kStr) (vs := [.string y21]) (x := y21) rfl Els.nil)
   refine Om (.buildSlice 43 1 #[(0, 19)]) 20 43 (fun b => .slice (Gp (some b)) 1 1) 9 ([.string y21] : List Value) (1 * kStr.size) p6 Xa fun b23 w7 z7 p7 => ?_
   refine Gg h fun g29 h => ?_
   refine On (K := kStr) 43 17 20 21 43 9 2 (.string ⟨#[]⟩) 16 x3.length cx3 1 x3 [y21] (x3 ++ [y21]) (Gp (some b23)) 1 rfl rfl rfl p7 rfl (fx3.ext (((z4.t z5).t z6).t z7)) Xa (f24.ext z7) (src_own p7 (q := 0) rfl) g29 fun w8 G30 c31 uue z8 p8 f33 => ?_
   refine Gm 8 [([3], .slice (Gp G30) ((x3 ++ [y21]).length) c31), ([22, 13], .i (wr .i64 (x13 + 1)))] J1co ?_
   have p8 := p8.dp 0
   exact Gj 45 [(1, (pt gx1 0)), (3, .slice (Gp G30) ((x3 ++ [y21]).length) c31), (11, Sl uu7 x11 uu9), (12, .i x12), (13, .i (wr .i64 (x13 + 1)))] (uub _ _ h _ _ (((((hx.t z4).t z5).t z6).t z7).t z8) _ _ _ _ _ _ _ _ _ _ _ p8 (u1n.ext ((((z4.t z5).t z6).t z7).t z8)) rfl f33 rfl (uuc.ext ((((z4.t z5).t z6).t z7).t z8)) rfl)
  ·
   rw [df h9]
   refine Gn 5 [(23, Sl (Gp Gx3) x3 cx3)] (Yt 111110 B22 [1, 2] (Ys 111111 B22 [])) ?_
   obtain ⟨S9, z9, p9, f34⟩ := p1.freezeRd 1 rfl fx3 (by decide)
   refine Gg h fun g35 h => ?_
   refine Gg h fun g36 h => ?_
   refine Gc (.call { callee := .value (.func 65), args := #[23, (.const (.string ⟨#[32]⟩))], argTypes := #[43, 9] }) 24 9 65 _ (join_calls Tryz.lays156 Tryz.Builder_Extra_156 p9 rfl f34 (⟨#[32]⟩ : ByteArray) g35 g36) ?_
   rintro _ w10 ⟨rfl, z10, p10⟩
   refine Gn 6 [(6, .string (joinB x3 (⟨#[32]⟩ : ByteArray))), (25, (pt gx1 0))] (Yt 11111100 B22 [1] (Ys 11111101 B22 J1d6)) ?_
   refine Xc 3 25 26 3 ⟨gx1, 0, none⟩ (.i x1v.Op) (p10.c 0 0) ?_
   refine Gm 7 [([28, 27], .bool (decide (x1v.Op = 1)))] (Ys 1111110101 B22 J1d9) ?_
   refine Gi h (fun h37 h => ?_) fun h37 h => ?_
   ·
    rw [dt h37]
    refine Gn 5 [(2, .string (⟨#[45]⟩ : ByteArray))] (Ys 111111010101 B22 J1d9) ?_
    obtain rfl := sj h
    have p10 := (p10.dp 0).dp 0
    exact Xd Tryz.f22 (.string (⟨#[45]⟩ : ByteArray)) ⟨_, rfl, ((hx.t z9).t z10), p10⟩
   ·
    rw [df h37]
    refine Gm 6 [([30, 29], .bool (decide (x1v.Op = 2)))] (Ys 111111010111 B22 J1d9) ?_
    refine Gi h (fun h38 h => ?_) fun h38 h => ?_
    ·
     rw [dt h38]
     refine Gn 4 [(31, (pt gx1 1))] (Yt 11111101011100 B22 [1, 2, 3, 4] J1dd) ?_
     refine Xc 9 31 32 9 ⟨gx1, 1, none⟩ (.string x1v.Text) (p10.c 0 1) ?_
     refine Gg h fun g39 h => ?_
     refine Op_.cat_n 9 (.const (.string ⟨#[124]⟩)) 32 9 33 9 (⟨#[124]⟩ : ByteArray) x1v.Text ((⟨#[124]⟩ : ByteArray) ++ x1v.Text) rfl Xa (by kernel_rfl) (by kernel_rfl) g39 ?_
     refine Gg h fun g40 h => ?_
     refine Gl h fun v41 e42 h => ?_
     refine Op_.cat_n 9 33 (.const (.string ⟨#[124]⟩)) 9 34 9 ((⟨#[124]⟩ : ByteArray) ++ x1v.Text) (⟨#[124]⟩ : ByteArray) v41 e42 Xa (by kernel_rfl) (by kernel_rfl) g40 ?_
     refine Gn 2 [(2, .string v41)] J1dd ?_
     obtain rfl := sj h
     have p10 := (p10.dp 0).dp 0
     exact Xd Tryz.f22 (.string v41) ⟨_, rfl, ((hx.t z9).t z10), p10⟩
    ·
     rw [df h38]
     refine Gm 6 [([36, 35], .bool (decide (x1v.Op = 3)))] (Ys 11111101011111 B22 J1d9) ?_
     refine Gi h (fun h43 h => ?_) fun h43 h => ?_
     ·
      rw [dt h43]
      refine Gn 4 [(37, .string (joinB x3 (⟨#[32]⟩ : ByteArray)))] (Yt 1111110101111100 B22 [1, 2, 3] J1dg) ?_
      refine Gg h fun g44 h => ?_
      refine Gl h fun v45 e46 h => ?_
      refine Op_.cat_n 9 (.const (.string ⟨#[40]⟩)) 37 9 38 9 (⟨#[40]⟩ : ByteArray) (joinB x3 (⟨#[32]⟩ : ByteArray)) v45 e46 Xa (by kernel_rfl) (by kernel_rfl) g44 ?_
      refine Gg h fun g47 h => ?_
      refine Op_.cat_n 9 38 (.const (.string ⟨#[41]⟩)) 9 39 9 v45 (⟨#[41]⟩ : ByteArray) (v45 ++ (⟨#[41]⟩ : ByteArray)) rfl Xa (by kernel_rfl) (by kernel_rfl) g47 ?_
      refine Gn 2 [(2, .string (v45 ++ (⟨#[41]⟩ : ByteArray)))] J1dg ?_
      obtain rfl := sj h
      have p10 := (p10.dp 0).dp 0
      exact Xd Tryz.f22 (.string (v45 ++ (⟨#[41]⟩ : ByteArray))) ⟨_, rfl, ((hx.t z9).t z10), p10⟩
     ·
      rw [df h43]
      refine Gm 6 [([41, 40], .bool (decide (x1v.Op = 4)))] (Ys 1111110101111111 B22 J1d9) ?_
      refine Gi h (fun h48 h => ?_) fun h48 h => ?_
      ·
       rw [dt h48]
       refine Gn 4 [(42, .string (joinB x3 (⟨#[32]⟩ : ByteArray)))] (Yt 111111010111111100 B22 [1, 2, 3] J1dj) ?_
       refine Gg h fun g49 h => ?_
       refine Gl h fun v50 e51 h => ?_
       refine Op_.cat_n 9 (.const (.string ⟨#[91]⟩)) 42 9 43 9 (⟨#[91]⟩ : ByteArray) (joinB x3 (⟨#[32]⟩ : ByteArray)) v50 e51 Xa (by kernel_rfl) (by kernel_rfl) g49 ?_
       refine Gg h fun g52 h => ?_
       refine Op_.cat_n 9 43 (.const (.string ⟨#[93]⟩)) 9 44 9 v50 (⟨#[93]⟩ : ByteArray) (v50 ++ (⟨#[93]⟩ : ByteArray)) rfl Xa (by kernel_rfl) (by kernel_rfl) g52 ?_
       refine Gn 2 [(2, .string (v50 ++ (⟨#[93]⟩ : ByteArray)))] J1dj ?_
       obtain rfl := sj h
       have p10 := (p10.dp 0).dp 0
       exact Xd Tryz.f22 (.string (v50 ++ (⟨#[93]⟩ : ByteArray))) ⟨_, rfl, ((hx.t z9).t z10), p10⟩
      ·
       rw [df h48]
       refine Gn 7 [(2, .string (⟨#[42]⟩ : ByteArray))] (Ys 11111111 B22 []) ?_
       obtain rfl := sj h
       have p10 := (p10.dp 0).dp 0
       exact Xd Tryz.f22 (.string (⟨#[42]⟩ : ByteArray)) ⟨_, rfl, ((hx.t z9).t z10), p10⟩
theorem W.z85 : ∀ a r, M.a1x a = some r → LF.z85 a r := (W.z87).1
theorem W.z86 : ∀ a r, M.a3c a = some r → LL.z86 a r := (W.z87).2
def J1dm := Ys 111 B67 []
def Q13q := Yq 110 B67
def J1dp := Ys 1111 B67 []
def Q13s := Yq 1110 B67
def J1ds := Ys 11111 B67 []
def Post.z88 (r : ByteArray) (v : Value) (w' : World) : Prop :=
 ∃ S', v = .string r ∧ Ext S0 w0 S' w' ∧ Hp nz wz S' w' (Lr)
theorem W.z88 (x0 : ByteArray) (r : ByteArray) (h : M.a3d x0 = some r) {nz wz S0 w0 Lr} (p0 : Hp nz wz S0 w0 (Lr)) :
  Calls Tg 67 #[.string x0] w0 (Rets (Post.z88 nz wz S0 w0 Lr r)) := by
 refine Zf Tryz.f67 B67 20 ?_
 refine Gj 21 [(0, .string x0)] fun junk => ?_
 delta M.a3d at h
 refine Gn 7 [(2, .string bE), (9, .string x0)] (Zr Q13q [1, 2, 3, 4, 5, 6, 7, 8, 9] J1dm) ?_
 refine Gb h fun y1 e2 h => ?_
 refine Gc (kc 25 [9] #[9]) 10 53 25 _ (W.z5s x0 y1 e2  p0 ) ?_
 rintro _ w2 ⟨S2, uuf, uug, uuh, rfl, z2, p2, uui, uuj, rfl⟩
 refine Gn 4 [(8, .tuple #[(ag (vT26 y1.1 uuf y1.1.L.length uuh)), .i y1.2.1, .i y1.2.2]), (11, (ag (vT26 y1.1 uuf y1.1.L.length uuh))), (12, .i y1.2.1), (13, .i y1.2.2)] (Zr Q13q [6, 7, 8, 9] J1dm) ?_
 refine Oa 27 3 0 (.agg #[.i 0, .u 0, .u 0, .u 0, .u 0, Sn, .i 0, .i 0]) [.i 0, .u 0, .u 0, .u 0, .u 0, Sn, .i 0, .i 0] p2 Xa fun b3 w3 z3 p3 => ?_
 refine So 27 3 11 0 0 b3 0 (ag (vT26 y1.1 uuf y1.1.L.length uuh)) (vT26 y1.1 uuf y1.1.L.length uuh) p3 rfl Xe fun w4 z4 p4 => ?_
 refine Gn 5 [(4, .i y1.2.1), (5, .i y1.2.2)] (Zr Q13s [0, 1, 2, 3, 4, 5, 6, 7] J1dp) ?_
 refine Xg 27 3 15 27 ⟨b3, 0, none⟩ (vT26 y1.1 uuf y1.1.L.length uuh) (p4.pa 0 0) ?_
 refine Gb h fun y5 e6 h => ?_
 refine Gc (kc 13 [15] #[27]) 16 35 13 _ (W.z84 y1.1 y5 e6 _ _ _ p4 uui (uuj.ext (z3.t z4)) rfl) ?_
 rintro _ w5 ⟨S5, uuk, uul, uum, rfl, z5, p5, uun, rfl⟩
 have p5 := p5.dp 0
 refine Gn 3 [(14, .tuple #[(ag (wT29 y5.1.Op y5.1.Text uuk y5.1.L.length uum)), .i y5.2]), (17, (ag (wT29 y5.1.Op y5.1.Text uuk y5.1.L.length uum))), (18, .i y5.2)] (Zr Q13s [5, 6, 7] J1dp) ?_
 refine Oa 30 6 0 (.agg #[.i 0, .string bE, Sn]) [.i 0, .string bE, Sn] p5 Xa fun b7 w6 z6 p6 => ?_
 refine So 30 6 17 0 0 b7 0 ((ag (wT29 y5.1.Op y5.1.Text uuk y5.1.L.length uum))) (wT29 y5.1.Op y5.1.Text uuk y5.1.L.length uum) p6 rfl Xe fun w7 z7 p7 => ?_
 refine Gn 4 [(7, .i y5.2)] (Yt 11110 B67 [0, 1, 2] J1ds) ?_
 refine Xg 30 6 19 30 ⟨b7, 0, none⟩ (wT29 y5.1.Op y5.1.Text uuk y5.1.L.length uum) (p7.pa 0 0) ?_
 refine Gb h fun y9 e10 h => ?_
 refine Gc (kc 22 [19] #[30]) 20 9 22 _ (W.z85 y5.1 y9 e10 _ _ _ p7 (uun.ext (z6.t z7)) rfl) ?_
 rintro _ w8 ⟨S8, rfl, z8, p8⟩
 have p8 := p8.dp 0
 refine Gn 2 [(2, .string y9)] J1ds ?_
 obtain rfl := sj h
 exact Xd Tryz.f67 (.string y9) ⟨_, rfl, ((((((z2.t z3).t z4).t z5).t z6).t z7).t z8), p8⟩
def J1du := Ys 111 B24 []
def Q13w := Yq 110 B24
def Post.z89 (r : Bool) (v : Value) (w' : World) : Prop :=
 ∃ S', v = .bool r ∧ Ext S0 w0 S' w' ∧ Hp nz wz S' w' (Lr)
theorem W.z89 (r : Bool) (h : M.a11 = some r) {nz wz S0 w0 Lr} (p0 : Hp nz wz S0 w0 (Lr)) :
  Calls Tg 24 #[] w0 (Rets (Post.z89 nz wz S0 w0 Lr r)) := by
 refine Zf Tryz.f24 B24 11 ?_
 refine Gj 11 [] fun junk => ?_
 delta M.a11 at h
 refine Gn 6 [(0, .bool false)] (Zr Q13w [0, 1, 2, 3, 4, 5, 6, 7, 8, 9, 10] J1du) ?_
 refine Gb h fun y1 e2 h => ?_
 refine Gc (.call { callee := .value (.func 67), args := #[(.const (.string ⟨#[97, 98, 99, 100, 124, 120, 121, 122]⟩))], argTypes := #[9] }) 1 9 67 _ (W.z88 (⟨#[97, 98, 99, 100, 124, 120, 121, 122]⟩ : ByteArray) y1 e2  p0 ) ?_
 rintro _ w2 ⟨S2, rfl, z2, p2⟩
 refine Gm 2 [([2, 3], .bool (y1.toList == (⟨#[91, 40, 124, 97, 98, 99, 124, 32, 124, 98, 99, 100, 124, 41, 32, 124, 120, 121, 122, 124, 93]⟩ : ByteArray).toList))] (Zr Q13w [3, 4, 5, 6, 7, 8, 9, 10] J1du) ?_
 refine Gi h (fun h3 h => ?_) fun h3 h => ?_
 ·
  rw [h3]
  refine Gb h fun y4 e5 h => ?_
  refine Gc (.call { callee := .value (.func 67), args := #[(.const (.string ⟨#[97, 98, 42]⟩))], argTypes := #[9] }) 4 9 67 _ (W.z88 (⟨#[97, 98, 42]⟩ : ByteArray) y4 e5  p2 ) ?_
  rintro _ w3 ⟨S3, rfl, z3, p3⟩
  refine Gm 3 [([5, 6, 7], .bool (y4.toList == (⟨#[42]⟩ : ByteArray).toList))] (Zr Q13w [7, 8, 9, 10] J1du) ?_
  refine Gi h (fun h6 h => ?_) fun h6 h => ?_
  ·
   rw [h6]
   refine Gb h fun y7 e8 h => ?_
   refine Gc (.call { callee := .value (.func 67), args := #[(.const (.string ⟨#[40, 97, 124, 98, 41, 99, 100, 46, 101, 102, 103]⟩))], argTypes := #[9] }) 8 9 67 _ (W.z88 (⟨#[40, 97, 124, 98, 41, 99, 100, 46, 101, 102, 103]⟩ : ByteArray) y7 e8  p3 ) ?_
   rintro _ w4 ⟨S4, rfl, z4, p4⟩
   refine Gm 4 [([9, 10, 0], .bool (y7.toList == (⟨#[40, 91, 124, 97, 99, 100, 124, 32, 124, 98, 99, 100, 124, 93, 32, 124, 101, 102, 103, 124, 41]⟩ : ByteArray).toList))] J1du ?_
   obtain rfl := sj h
   exact Xd Tryz.f24 (.bool (y7.toList == (⟨#[40, 91, 124, 97, 99, 100, 124, 32, 124, 98, 99, 100, 124, 93, 32, 124, 101, 102, 103, 124, 41]⟩ : ByteArray).toList)) ⟨_, rfl, ((z2.t z3).t z4), p4⟩
  ·
   rw [bf h6]
   refine Gm 5 [([8, 9], undef), ([10, 0], .bool false)] J1du ?_
   obtain rfl := sj h
   exact Xd Tryz.f24 (.bool false) ⟨_, rfl, (z2.t z3), p3⟩
 ·
  rw [bf h3]
  refine Gm 9 [([4, 5, 8, 9], undef), ([6, 7, 10, 0], .bool false)] J1du ?_
  obtain rfl := sj h
  exact Xd Tryz.f24 (.bool false) ⟨_, rfl, z2, p2⟩
def Q13y := Yq 11111111111110100 B5
def J1e0 := Zl Q13y (Zb 2 (Ys 11111111111111 B5 []))
def J1e1 := Zc Q13y J1e0
def J1e5 := Zb 3 (Ys 1111111111111010011 B5 J1e0)
def J1e9 := Ys 111111111111111 B5 []
def Post.z8a (r : Bool × (List (List (ByteArray × (List Int))))) (v : Value) (w' : World) : Prop :=
 ∃ S' Ee0, v = .bool r.1 ∧ Ext S0 w0 S' w' ∧ Hp nz wz S' w' ((none, .seg 154 Ee0) :: Lr) ∧ Pl (oMap Value.string (kSl kU)) S' w' Ee0 r.2
def L.z8b : (List Int) × (List Int) × Int × (List (List (ByteArray × (List Int)))) → (Bool × (List (List (ByteArray × (List Int))))) → Prop := fun ⟨x17, x19, x21, e0⟩ r => ∀ S1 w1, Ext S0 w0 S1 w1 → ∀ usn uso usp usq uuo uup uuq uur Ee0 (_ : Hp nz wz S1 w1 ((usn, .row 22 usq (usp * kU.size) 0) :: (uuo, .row 22 uur (uuq * kU.size) 0) :: (none, .seg 154 Ee0) :: Lr)) (_ : Els kU S1 w1 usq x17) (_ : x17.length = uso) (_ : Els kU S1 w1 uur x19) (_ : x19.length = uup) (_ : Pl (oMap Value.string (kSl kU)) S1 w1 Ee0 e0) (junk : Nat → Value),
 Goes Tg (base 5) J1e1 ⟨lfr 135 [(17, .slice (Gp usn) uso usp), (19, .slice (Gp uuo) uup uuq), (21, .i x21)] junk, []⟩ w1 (Done Tg 5 (Rets (Post.z8a nz wz S0 w0 Lr r)))
theorem W.z8b {nz wz S0 w0 Lr} : ∀ a r, M.a3y a = some r → (L.z8b nz wz S0 w0 Lr) a r := by
 refine M.a3y.partial_correctness (motive := (L.z8b nz wz S0 w0 Lr)) ?_
 intro uus uut ⟨x17, x19, x21, e0⟩ r h S1 w1 hx usn uso usp usq uuo uup uuq uur Ee0 p1 usx usy uuu uuv fe0 junk
 try dsimp only at h
 subst usy
 subst uuv
 refine Gn 8 [(119, .i x21), (120, Sl (Gp usn) x17 usp), (121, .i (x17.length : Int)), (122, .bool (decide (x21 < (x17.length : Int))))] (Ys 1111111111111010001 B5 (Ys 111111111111101001 B5 J1e0)) ?_
 refine Gi h (fun h94 h => ?_) fun h94 h => ?_
 ·
  rw [dt h94]
  refine Gn 5 [] (Ys 111111111111101001000 B5 (Ys 111111111111101001001 B5 J1e5)) ?_
  have z28 : Ext S1 w1 S1 (w1).drew := Xk
  have p28 := p1.draw
  refine Gd [] (Fc S1 (w1).drew ([] ++ (rowCellsO usn usq ++ (rowCellsO uuo uur ++ [])))) 21 9 ?_
  generalize (w1).drew = w28 at z28 p28 ⊢
  refine Xb 0 (.move 17) 125 60 (Sl (Gp usn) x17 usp) (Xu (Xh trivial (Xh (Xl (p28.mem 0 rfl)) (Xh (Xl (p28.mem 1 rfl)) trivial)))) ?_
  refine Xb 1 (.move 21) 126 3 (.i x21) (Xu (Xh trivial (Xh (Xl (p28.mem 0 rfl)) (Xh (Xl (p28.mem 1 rfl)) trivial)))) ?_
  refine Gg h fun g95 h => ?_
  refine AnyG.ixO_n (i := 2) 60 125 126 127 0 22 .i64 x21 0 x17.length usp (gi x17 x21) rfl rfl p28 rfl (usx.ext z28) (by kernel_rfl) (by kernel_rfl) (Xu (Xh trivial (Xh (Xl (p28.mem 0 rfl)) (Xh (Xl (p28.mem 1 rfl)) trivial)))) (by kernel_rfl) (by kernel_rfl) (by kernel_rfl) (by kernel_rfl) (by decide) g95 h94 ?_
  rintro b96 _ rfl q98 uuw f97
  obtain rfl := q98
  refine Al 3 22 127 128 22 ⟨b96, (x21 : Int).toNat * kU.size, none⟩ (.u (gi x17 x21)) (Xu (Xh trivial (Xh (Xl (p28.mem 0 rfl)) (Xh (Xl (p28.mem 1 rfl)) trivial)))) (fun _ h => h.2.right.left.rowAt (uuw 0 _ rfl)) ?_
  refine Xb 4 (.move 19) 129 60 (Sl (Gp uuo) x19 uuq) (Xu (Xh trivial (Xh (Xl (p28.mem 0 rfl)) (Xh (Xl (p28.mem 1 rfl)) trivial)))) ?_
  refine Xb 5 (.move 21) 130 3 (.i x21) (Xu (Xh trivial (Xh (Xl (p28.mem 0 rfl)) (Xh (Xl (p28.mem 1 rfl)) trivial)))) ?_
  refine Gg h fun uux h => ?_
  refine AnyG.ixO_n (i := 6) 60 129 130 131 0 22 .i64 x21 1 x19.length uuq (gi x19 x21) rfl rfl p28 rfl (uuu.ext z28) (by kernel_rfl) (by kernel_rfl) (Xu (Xh trivial (Xh (Xl (p28.mem 0 rfl)) (Xh (Xl (p28.mem 1 rfl)) trivial)))) (by kernel_rfl) (by kernel_rfl) (by kernel_rfl) (by kernel_rfl) (by decide) g95 uux ?_
  rintro uuy _ rfl uuz uv0 uv1
  obtain rfl := uuz
  refine Al 7 22 131 132 22 ⟨uuy, (x21 : Int).toNat * kU.size, none⟩ (.u (gi x19 x21)) (Xu (Xh trivial (Xh (Xl (p28.mem 0 rfl)) (Xh (Xl (p28.mem 1 rfl)) trivial)))) (fun _ h => h.2.right.right.left.rowAt (uv0 0 _ rfl)) ?_
  refine Xb 8 (.binOp .neq 22 128 132 22) 133 4 (.bool (!(decide (gi x17 x21 = gi x19 x21)))) (Xu (Xh trivial (Xh (Xl (p28.mem 0 rfl)) (Xh (Xl (p28.mem 1 rfl)) trivial)))) ?_
  refine Ad ?_
  refine Gi h (fun uv2 h => ?_) fun uv2 h => ?_
  ·
   rw [dt uv2]
   refine Gm 9 [([123], .i x21), ([124, 21], .i (wr .i64 (x21 + 1)))] J1e1 ?_
   exact Gj 135 [(17, .slice (Gp (some b96)) x17.length usp), (19, .slice (Gp (some uuy)) x19.length uuq), (21, .i (wr .i64 (x21 + 1)))] (uut _ _ h _ _ (hx.t z28) (some b96) _ _ _ (some uuy) _ _ _ _ p28 (usx.ext z28) rfl (uuu.ext z28) rfl (fe0.ext z28))
  ·
   rw [df uv2]
   refine Gn 5 [(8, .bool false)] (Ys 11111111111110100100101 B5 J1e5) ?_
   obtain rfl := sj h
   have p28 := (p28.dp 0).dp 0
   exact Xd Tryz.f5 (.bool false) ⟨_, _, rfl, (hx.t z28), p28, (fe0.ext z28)⟩
 ·
  rw [df h94]
  refine Gn 4 [] (Yt 111111111111110 B5 [0, 1] J1e9) ?_
  refine Gb h fun uv3 uv4 h => ?_
  refine Gc (kc 24 [] #[]) 134 4 24 _ (W.z89 uv3 uv4  p1 ) ?_
  rintro _ w29 ⟨S29, rfl, z29, p29⟩
  have p29 := (p29.dp 0).dp 0
  refine Gn 2 [(8, .bool uv3)] J1e9 ?_
  obtain rfl := sj h
  exact Xd Tryz.f5 (.bool uv3) ⟨_, _, rfl, (hx.t z29), p29, (fe0.ext z29)⟩
def J1eb := Ys 1111111111111 B5 []
def J1ec := Ys 11111111111101 B5 J1eb
def L.z8c : (List Int) × (List Int) × Bool × (List (List (ByteArray × (List Int)))) → (Bool × (List (List (ByteArray × (List Int))))) → Prop := fun ⟨x17, x19, uv5, e0⟩ r => ∀ S1 w1, Ext S0 w0 S1 w1 → ∀ usn uso usp usq uuo uup uuq uur Ee0 (_ : Hp nz wz S1 w1 ((usn, .row 22 usq (usp * kU.size) 0) :: (uuo, .row 22 uur (uuq * kU.size) 0) :: (none, .seg 154 Ee0) :: Lr)) (_ : Els kU S1 w1 usq x17) (_ : x17.length = uso) (_ : Els kU S1 w1 uur x19) (_ : x19.length = uup) (_ : Pl (oMap Value.string (kSl kU)) S1 w1 Ee0 e0) (junk : Nat → Value),
 Goes Tg (base 5) J1ec ⟨lfr 135 [(17, .slice (Gp usn) uso usp), (19, .slice (Gp uuo) uup uuq), (118, .bool uv5)] junk, []⟩ w1 (Done Tg 5 (Rets (Post.z8a nz wz S0 w0 Lr r)))
theorem W.z8c {nz wz S0 w0 Lr} : ∀ a r, M.a6i a = some r → L.z8c nz wz S0 w0 Lr a r := by
 intro ⟨x17, x19, uv5, e0⟩ r h S1 w1 hx usn uso usp usq uuo uup uuq uur Ee0 p1 usx usy uuu uuv fe0 junk
 rw [M.a6i] at h
 try dsimp only at h
 subst usy
 subst uuv
 refine Gi h (fun h91 h => ?_) fun h91 h => ?_
 ·
  rw [h91]
  refine Gn 5 [(8, .bool false)] (Ys 1111111111110101 B5 J1eb) ?_
  obtain rfl := sj h
  have p1 := (p1.dp 0).dp 0
  exact Xd Tryz.f5 (.bool false) ⟨_, _, rfl, hx, p1, fe0⟩
 ·
  rw [bf h91]
  refine Gn 9 [(21, .i 0)] J1e1 ?_
  exact Gj 135 [(17, Sl (Gp usn) x17 usp), (19, Sl (Gp uuo) x19 uuq), (21, .i 0)] (W.z8b _ _ h _ _ hx _ _ _ _ _ _ _ _ _ p1 usx rfl uuu rfl fe0)
def Q14b := Yq 1111111110100 B5
def J1eg := Zl Q14b (Zb 0 (Ys 1111111111 B5 []))
def J1eh := Zc Q14b J1eg
def J1ej := Ys 111111111010001 B5 (Ys 11111111101001 B5 J1eg)
def J1eo := Ys 11111111101001000 B5 (Ys 11111111101001001 B5 (Zb 1 (Ys 111111111010011 B5 J1eg)))
def J1er := Ys 111111111111 B5 []
def Q14l := Yq 111111111110 B5
def Q14m := Yq 11111111111100 B5
def L.z8d : (List T69) × (List Int) × T29 × Nat × (List T165) × Int × (List (List (ByteArray × (List Int)))) → (Bool × (List (List (ByteArray × (List Int))))) → Prop := fun ⟨x2, x3, x4v, uv7, uv8, x16, e0⟩ r => ∀ S1 w1, Ext S0 w0 S1 w1 → ∀ Ax2 nx2 cx2 Ax3 nx3 cx3 gx4 u57 u58 u59 u5a uv9 uva uvb uvc uvd uve uvf uvg Ee0 (_ : Hp nz wz S1 w1 ((some gx4, .row 30 (wT29 x4v.Op x4v.Text (Gp u57) u58 u59) 3 0) :: (u57, .row 30 u5a (u59 * kT29.size) uv9) :: (some uva, .row 158 [.map (some uvb)] 1 0) :: (some uvc, .row 67 [.slice (Gp uvd) uve uvf] 1 0) :: (uvd, .row 166 uvg (uvf * kT165.size) 0) :: (none, .seg 154 Ee0) :: Lr)) (_ : Rd kT69 S1 w1 Ax2 cx2 x2) (_ : x2.length = nx2) (_ : Rd kU S1 w1 Ax3 cx3 x3) (_ : x3.length = nx3) (_ : Els kT29 S1 w1 u5a x4v.L) (_ : x4v.L.length = u58) (_ : Pa 154 S1 uv7 uvb) (_ : Els kT165 S1 w1 uvg uv8) (_ : uv8.length = uve) (_ : Pl (oMap Value.string (kSl kU)) S1 w1 Ee0 e0) (junk : Nat → Value),
 Goes Tg (base 5) J1eh ⟨lfr 135 [(2, .slice Ax2 nx2 cx2), (3, .slice Ax3 nx3 cx3), (4, (pt gx4 0)), (14, (pt uva 0)), (15, (pt uvc 0)), (16, .i x16)] junk, []⟩ w1 (Done Tg 5 (Rets (Post.z8a nz wz S0 w0 Lr r)))
def L.z8e : (List T69) × (List Int) × T29 × Nat × (List T165) × Int × Bool × (List (List (ByteArray × (List Int)))) → (Bool × (List (List (ByteArray × (List Int))))) → Prop := fun ⟨x2, x3, x4v, uv7, uv8, x16, x65, e0⟩ r => ∀ S1 w1, Ext S0 w0 S1 w1 → ∀ Ax2 nx2 cx2 Ax3 nx3 cx3 gx4 u57 u58 u59 u5a uv9 uva uvb uvc uvd uve uvf uvg Ee0 (_ : Hp nz wz S1 w1 ((some gx4, .row 30 (wT29 x4v.Op x4v.Text (Gp u57) u58 u59) 3 0) :: (u57, .row 30 u5a (u59 * kT29.size) uv9) :: (some uva, .row 158 [.map (some uvb)] 1 0) :: (some uvc, .row 67 [.slice (Gp uvd) uve uvf] 1 0) :: (uvd, .row 166 uvg (uvf * kT165.size) 0) :: (none, .seg 154 Ee0) :: Lr)) (_ : Rd kT69 S1 w1 Ax2 cx2 x2) (_ : x2.length = nx2) (_ : Rd kU S1 w1 Ax3 cx3 x3) (_ : x3.length = nx3) (_ : Els kT29 S1 w1 u5a x4v.L) (_ : x4v.L.length = u58) (_ : Pa 154 S1 uv7 uvb) (_ : Els kT165 S1 w1 uvg uv8) (_ : uv8.length = uve) (_ : Pl (oMap Value.string (kSl kU)) S1 w1 Ee0 e0) (junk : Nat → Value),
 Goes Tg (base 5) J1ej ⟨lfr 135 [(2, .slice Ax2 nx2 cx2), (3, .slice Ax3 nx3 cx3), (4, (pt gx4 0)), (14, (pt uva 0)), (15, (pt uvc 0)), (16, .i x16), (65, .bool x65)] junk, []⟩ w1 (Done Tg 5 (Rets (Post.z8a nz wz S0 w0 Lr r)))
theorem W.z8f {nz wz S0 w0 Lr} : (∀ a r, M.a2e a = some r → (L.z8d nz wz S0 w0 Lr) a r) ∧ (∀ a r, M.a3z a = some r → (L.z8e nz wz S0 w0 Lr) a r) := by
 refine M.a2e.mutual_partial_correctness (L.z8d nz wz S0 w0 Lr) (L.z8e nz wz S0 w0 Lr) ?_ ?_
 ·
  intro uvh uvi ⟨x2, x3, x4v, uv7, uv8, x16, e0⟩ r h S1 w1 hx Ax2 nx2 cx2 Ax3 nx3 cx3 gx4 u57 u58 u59 u5a uv9 uva uvb uvc uvd uve uvf uvg Ee0 p1 fx2 lx2 fx3 lx3 u5l u5m uvj uvk uvl fe0 junk
  try dsimp only at h
  subst lx2
  subst lx3
  subst u5m
  subst uvl
  refine Gm 8 [([58], .i x16), ([59], Sl Ax2 x2 cx2), ([60], .i (x2.length : Int)), ([61, 62], .bool (decide (x16 < (x2.length : Int))))] (Yt 111111111010000 B5 [5, 6, 7] J1ej) ?_
  refine Gi h (fun h39 h => ?_) fun h39 h => ?_
  ·
   rw [dt h39]
   refine Gm 4 [([63], .i x16), ([64, 65], .bool (decide (x16 < 30)))] J1ej ?_
   exact Gj 135 [(2, Sl Ax2 x2 cx2), (3, Sl Ax3 x3 cx3), (4, (pt gx4 0)), (14, (pt uva 0)), (15, (pt uvc 0)), (16, .i x16), (65, .bool (decide (x16 < 30)))] (uvi _ _ h _ _ hx _ _ _ _ _ _ _ _ _ _ _ _ _ _ _ _ _ _ _ _ p1 fx2 rfl fx3 rfl u5l rfl uvj uvk rfl fe0)
  ·
   rw [df h39]
   refine Gm 4 [([63, 64], undef), ([65], .bool false)] J1ej ?_
   exact Gj 135 [(2, Sl Ax2 x2 cx2), (3, Sl Ax3 x3 cx3), (4, (pt gx4 0)), (14, (pt uva 0)), (15, (pt uvc 0)), (16, .i x16), (65, .bool false)] (uvi _ _ h _ _ hx _ _ _ _ _ _ _ _ _ _ _ _ _ _ _ _ _ _ _ _ p1 fx2 rfl fx3 rfl u5l rfl uvj uvk rfl fe0)
 ·
  intro uvm uvn ⟨x2, x3, x4v, uv7, uv8, x16, x65, e0⟩ r h S1 w1 hx Ax2 nx2 cx2 Ax3 nx3 cx3 gx4 u57 u58 u59 u5a uv9 uva uvb uvc uvd uve uvf uvg Ee0 p1 fx2 lx2 fx3 lx3 u5l u5m uvj uvk uvl fe0 junk
  try dsimp only at h
  subst lx2
  subst lx3
  subst u5m
  subst uvl
  refine Gi h (fun h45 h => ?_) fun h45 h => ?_
  ·
   rw [h45]
   refine Gn 5 [] J1eo ?_
   have z15 : Ext S1 w1 S1 (w1).drew := Xk
   have p15 := p1.draw
   refine Gd [11] (Fc S1 (w1).drew []) 12 12 ?_
   generalize (w1).drew = w15 at z15 p15 ⊢
   refine Xb 0 (.move 14) 68 62 (pt uva 0) Fc0 ?_
   refine Xb 1 (.move 2) 69 59 (Sl Ax2 x2 cx2) Fc0 ?_
   refine Xb 2 (.move 16) 70 3 (.i x16) Fc0 ?_
   refine Gg h fun g46 h => ?_
   refine Gg h fun g47 h => ?_
   refine Xn (i := 3) 59 69 70 71 0 70 .i64 x16 (gi x2 x16) rfl rfl (fx2.ext z15) (by kernel_rfl) (by kernel_rfl) Fc0 (by kernel_rfl) (by kernel_rfl) (by kernel_rfl) (by kernel_rfl) g46 g47 fun a48 _ f49 q50 => ?_
   obtain ⟨_, _, rfl, rfl, rfl⟩ := q50
   refine Xb 4 (.fieldAddr 70 71 0) 72 0 (.pointer (some (Addr.add a48 0))) Fc0 ?_
   refine Al 5 9 72 73 9 (Addr.add a48 0) (.string ((gi x2 x16).Key)) Fc0 (fun _ h => (Cs.left (us := [.string ((gi x2 x16).Key)]) (vs := [.u ((gi x2 x16).N)]) (Cs.add (us := []) (vs := (vT69 (gi x2 x16))) f49)).fc h 0 _ rfl) ?_
   refine Xb 6 (.move 2) 74 59 (Sl Ax2 x2 cx2) Fc0 ?_
   refine Xb 7 (.move 16) 75 3 (.i x16) Fc0 ?_
   refine Xn (i := 8) 59 74 75 76 0 70 .i64 x16 (gi x2 x16) rfl rfl (fx2.ext z15) (by kernel_rfl) (by kernel_rfl) Fc0 (by kernel_rfl) (by kernel_rfl) (by kernel_rfl) (by kernel_rfl) g46 g47 fun a51 _ f52 q53 => ?_
   obtain ⟨_, _, rfl, rfl, rfl⟩ := q53
   refine Xb 9 (.fieldAddr 70 76 1) 77 0 (.pointer (some (Addr.add a51 1))) Fc0 ?_
   refine Al 10 22 77 78 22 (Addr.add a51 1) (.u ((gi x2 x16).N)) Fc0 (fun _ h => (Cs.left (us := [.u ((gi x2 x16).N)]) (vs := []) (Cs.add (us := [.string ((gi x2 x16).Key)]) (vs := [.u ((gi x2 x16).N)]) f52)).fc h 0 _ rfl) ?_
   have p15 := (p15.fr 5).fr 3
   refine Gb h fun y54 e55 h => ?_
   refine Oc (kc 30 [68, 73, 78] #[62, 9, 22]) 79 34 30 #[(pt uva 0), .string ((gi x2 x16).Key), .u ((gi x2 x16).N)] (Ac 11) (W.z2t uv7 ((gi x2 x16).Key) ((gi x2 x16).N) e0 y54 e55 _ _ _ p15 (uvj.ext z15) (fe0.ext z15)) ?_
   rintro _ w16 ⟨S16, uvo, rfl, z16, p16, uvp⟩
   refine Xi [] (Fc S16 w16 []) (by decide) ?_
   refine Ad ?_
   have z17 : Ext S16 w16 S16 (w16).drew := Xk
   have p17 := p16.draw
   refine Gd [11] (Fc S16 (w16).drew []) 13 12 ?_
   generalize (w16).drew = w17 at z17 p17 ⊢
   refine Xb 0 (.move 15) 80 64 (pt uvc 0) Fc0 ?_
   refine Xb 1 (.move 2) 81 59 (Sl Ax2 x2 cx2) Fc0 ?_
   refine Xb 2 (.move 16) 82 3 (.i x16) Fc0 ?_
   refine Xn (i := 3) 59 81 82 83 0 70 .i64 x16 (gi x2 x16) rfl rfl (fx2.ext ((z15.t z16).t z17)) (by kernel_rfl) (by kernel_rfl) Fc0 (by kernel_rfl) (by kernel_rfl) (by kernel_rfl) (by kernel_rfl) g46 g47 fun a56 _ f57 q58 => ?_
   obtain ⟨_, _, rfl, rfl, rfl⟩ := q58
   refine Xb 4 (.fieldAddr 70 83 0) 84 0 (.pointer (some (Addr.add a56 0))) Fc0 ?_
   refine Al 5 9 84 85 9 (Addr.add a56 0) (.string ((gi x2 x16).Key)) Fc0 (fun _ h => (Cs.left (us := [.string ((gi x2 x16).Key)]) (vs := [.u ((gi x2 x16).N)]) (Cs.add (us := []) (vs := (vT69 (gi x2 x16))) f57)).fc h 0 _ rfl) ?_
   refine Xb 6 (.move 2) 86 59 (Sl Ax2 x2 cx2) Fc0 ?_
   refine Xb 7 (.move 16) 87 3 (.i x16) Fc0 ?_
   refine Xn (i := 8) 59 86 87 88 0 70 .i64 x16 (gi x2 x16) rfl rfl (fx2.ext ((z15.t z16).t z17)) (by kernel_rfl) (by kernel_rfl) Fc0 (by kernel_rfl) (by kernel_rfl) (by kernel_rfl) (by kernel_rfl) g46 g47 fun a59 _ f60 q61 => ?_
   obtain ⟨_, _, rfl, rfl, rfl⟩ := q61
   refine Xb 9 (.fieldAddr 70 88 1) 89 0 (.pointer (some (Addr.add a59 1))) Fc0 ?_
   refine Al 10 22 89 90 22 (Addr.add a59 1) (.u ((gi x2 x16).N)) Fc0 (fun _ h => (Cs.left (us := [.u ((gi x2 x16).N)]) (vs := []) (Cs.add (us := [.string ((gi x2 x16).Key)]) (vs := [.u ((gi x2 x16).N)]) f60)).fc h 0 _ rfl) ?_
   have p17 := (p17.fr 5).fr 5
   refine Gb h fun y62 e63 h => ?_
   refine Oc (kc 31 [80, 85, 90] #[64, 9, 22]) 91 0 31 #[(pt uvc 0), .string ((gi x2 x16).Key), .u ((gi x2 x16).N)] (Ac 11) (W.z3a uv8 ((gi x2 x16).Key) ((gi x2 x16).N) y62 e63 _ _ _ _ _ p17 (uvk.ext ((z15.t z16).t z17)) rfl) ?_
   rintro _ w18 ⟨S18, uvq, uvr, uvs, uvt, rfl, z18, p18, uvu, rfl⟩
   refine Xi [] (Fc S18 w18 []) (by decide) ?_
   refine Ad ?_
   refine Gm 7 [([66], .i x16), ([67, 16], .i (wr .i64 (x16 + 1)))] J1eh ?_
   have p18 := (((((p18.fr 3).fr 2).fr 2).fr 3).fr 5).fr 5
   exact Gj 135 [(2, Sl Ax2 x2 cx2), (3, Sl Ax3 x3 cx3), (4, (pt gx4 0)), (14, (pt uva 0)), (15, (pt uvc 0)), (16, .i (wr .i64 (x16 + 1)))] (uvn _ _ h _ _ ((((hx.t z15).t z16).t z17).t z18) _ _ _ _ _ _ _ _ _ _ _ _ _ _ _ _ _ _ _ _ p18 (fx2.ext (((z15.t z16).t z17).t z18)) rfl (fx3.ext (((z15.t z16).t z17).t z18)) rfl (u5l.ext (((z15.t z16).t z17).t z18)) rfl (uvj.ext (((z15.t z16).t z17).t z18)) uvu rfl (uvp.ext (z17.t z18)))
  ·
   rw [bf h45]
   refine Gn 3 [] (Ys 11111111110 B5 (Ys 11111111111 B5 [])) ?_
   have z19 : Ext S1 w1 S1 (w1).drew := Xk
   have p19 := p1.draw
   refine Gd [5] (Fc S1 (w1).drew [(⟨gx4, 0, none⟩, .i x4v.Op), (⟨gx4, 1, none⟩, .string x4v.Text), (⟨gx4, 2, none⟩, Sl (Gp u57) x4v.L u59)]) 14 11 ?_
   generalize (w1).drew = w19 at z19 p19 ⊢
   refine Xw (i := 0) 30 4 93 30 ⟨gx4, 0, none⟩ (wT29 x4v.Op x4v.Text (Gp u57) x4v.L.length u59) (by kernel_rfl) (by kernel_rfl) (p19.k [(0, 0, 3)]) (by kernel_rfl) (by kernel_rfl) (by kernel_rfl) (fun _ h j v hj => by match j, hj with | 0, rfl => exact h.2.at_ 0 rfl | 1, rfl => exact h.2.at_ 1 rfl | 2, rfl => exact h.2.at_ 2 rfl | (j + 3), hj => simp at hj) ?_
   refine Xb 1 (.move 14) 94 62 (pt uva 0) (p19.k [(0, 0, 3)]) ?_
   refine Xb 3 (.move 3) 96 60 (Sl Ax3 x3 cx3) (p19.k [(0, 0, 3)]) ?_
   have f66 : Els kU S1 w19 ([] : List Value) ([] : List Int) := by exact Els.nil
   refine Om (.buildSlice 60 0 #[]) 95 60 (fun b => .slice (Gp (some b)) 0 0) 22 ([] : List Value) (0 * kU.size) p19 (Av 2) fun b65 w20 z20 p20 => ?_
   refine Xo z20 ⟨(p20.c 1 0), (p20.c 1 1), (p20.c 1 2), trivial⟩ ?_
   obtain ⟨uvw, f69, f70⟩ := src_rd (fx3.ext (z19.t z20))
   refine Gg h fun g71 h => ?_
   refine On (K := kU) 60 95 96 97 60 22 0 (.u 0) 8 0 0 x3.length ([] : List Int) x3 x3 Ax3 cx3 rfl rfl (List.nil_append _) p20 rfl (f66.ext z20) (Av 4) f69 f70 g71 fun w21 G72 c73 ud6 z21 p21 f75 => ?_
   refine Xo z21 ⟨(p21.c 1 0), (p21.c 1 1), (p21.c 1 2), trivial⟩ ?_
   obtain ⟨S22, z22, p22, f76⟩ := p21.freezeRd 2 rfl (u5l.ext ((z19.t z20).t z21)) (by decide)
   refine Xz z22 ?_
   obtain ⟨S23, z23, p23, f77⟩ := p22.freezeRd 0 rfl (f75.ext z22) (by decide)
   refine Xz z23 ?_
   have p23 := (p23.fr 6).fr 4
   refine Gb h fun y78 e79 h => ?_
   refine Oc (kc 32 [93, 94, 97] #[30, 62, 60]) 98 72 32 #[(ag (wT29 x4v.Op x4v.Text (Gp u57) x4v.L.length u59)), (pt uva 0), Sl (Gp G72) x3 c73] (Ac 5) (W.z3y x4v uv7 x3 e0 y78 e79 _ _ _ _ _ _ _ _ _ p23 (f76.ext z23) rfl (uvj.ext ((((z19.t z20).t z21).t z22).t z23)) f77 rfl (fe0.ext ((((z19.t z20).t z21).t z22).t z23))) ?_
   rintro _ w24 ⟨S24, uvx, uvy, uvz, uw0, rfl, z24, p24, uw1, rfl⟩
   refine Xi [] (Fc S24 w24 []) (by decide) ?_
   refine Xb 6 (.move 98) 92 72 (.tuple #[Sl (Gp uvx) y78.1 uvz, .i y78.2]) Fc0 ?_
   refine Xb 7 (.extract 92 0) 99 60 (Sl (Gp uvx) y78.1 uvz) Fc0 ?_
   refine Xb 8 (.extract 92 1) 100 34 (.i y78.2) Fc0 ?_
   refine Xb 9 (.assign 99) 17 60 (Sl (Gp uvx) y78.1 uvz) Fc0 ?_
   refine Xb 10 (.assign 100) 18 34 (.i y78.2) Fc0 ?_
   refine Ad ?_
   have p24 := (p24.dp 1).dp 2
   refine Gn 2 [] (Zr Q14l [0, 1, 2, 3, 4, 5, 6, 7, 8, 9] J1er) ?_
   refine Xg 30 4 102 30 ⟨gx4, 0, none⟩ (wT29 x4v.Op x4v.Text (Gp u57) x4v.L.length u59) (p24.pa 2 0) ?_
   refine Gb h fun y81 e82 h => ?_
   refine Gc (.call { callee := .value (.func 19), args := #[102, (.const (.int .i64 20))], argTypes := #[30, 3] }) 103 39 19 _ (W.z17 (x4v, 20) y81 e82 _ _ _ p24 (f76.ext (z23.t z24)) rfl) ?_
   rintro _ w25 ⟨S25, uw2, uw3, uw4, uw5, rfl, z25, p25, uw6, rfl⟩
   have p25 := (p25.dp 3).dp 3
   refine Gn 2 [(104, (pt uvc 0)), (105, Sl Ax3 x3 cx3)] (Zr Q14l [4, 5, 6, 7, 8, 9] J1er) ?_
   obtain ⟨S26, z26, p26, f84⟩ := p25.freezeRd 0 rfl uw6 (by decide)
   have p26 := (p26.fr 4).fr 4
   refine Gb h fun y85 e86 h => ?_
   refine Gc (kc 33 [103, 104, 105] #[39, 64, 60]) 106 72 33 _ (W.z43 y81 uv8 x3 y85 e86 _ _ _ _ _ _ _ _ _ _ _ p26 f84 rfl (uvk.ext (((((((z19.t z20).t z21).t z22).t z23).t z24).t z25).t z26)) rfl (fx3.ext (((((((z19.t z20).t z21).t z22).t z23).t z24).t z25).t z26)) rfl) ?_
   rintro _ w27 ⟨S27, uw7, uw8, uw9, uwa, rfl, z27, p27, uwb, rfl⟩
   have p27 := ((p27.dp 1).dp 1).dp 1
   refine Gm 14 [([101], .tuple #[Sl (Gp uw7) y85.1 uw9, .i y85.2]), ([107, 19, 111], Sl (Gp uw7) y85.1 uw9), ([108, 20], .i y85.2), ([109], Sl (Gp uvx) y78.1 uvz), ([110], .i (y78.1.length : Int)), ([112], .i (y85.1.length : Int)), ([113], .bool (!(decide ((y78.1.length : Int) = (y85.1.length : Int)))))] (Zr Q14m [5, 6, 7, 8, 9] J1ec) ?_
   refine Gn 1 [(114, .bool (!(decide ((y78.1.length : Int) = (y85.1.length : Int)))))] (Zr Q14m [6, 7, 8, 9] J1ec) ?_
   refine Gi h (fun h88 h => ?_) fun h88 h => ?_
   ·
    rw [dt h88]
    refine Gm 5 [([115], .i y78.2), ([116], .i y85.2), ([117, 118], .bool (!(decide (y78.2 = y85.2))))] J1ec ?_
    have p27 := ((p27.fr 2).fr 1).fr 2
    exact Gj 135 [(17, Sl (Gp uvx) y78.1 uvz), (19, Sl (Gp uw7) y85.1 uw9), (118, .bool (!(decide (y78.2 = y85.2))))] (W.z8c _ _ h _ _ (((((((((hx.t z19).t z20).t z21).t z22).t z23).t z24).t z25).t z26).t z27) _ _ _ _ _ _ _ _ _ p27 (uw1.ext ((z25.t z26).t z27)) rfl uwb rfl (fe0.ext ((((((((z19.t z20).t z21).t z22).t z23).t z24).t z25).t z26).t z27)))
   ·
    rw [df h88]
    refine Gm 5 [([115, 116, 117], undef), ([118], .bool true)] J1ec ?_
    have p27 := ((p27.fr 2).fr 1).fr 2
    exact Gj 135 [(17, Sl (Gp uvx) y78.1 uvz), (19, Sl (Gp uw7) y85.1 uw9), (118, .bool true)] (W.z8c _ _ h _ _ (((((((((hx.t z19).t z20).t z21).t z22).t z23).t z24).t z25).t z26).t z27) _ _ _ _ _ _ _ _ _ p27 (uw1.ext ((z25.t z26).t z27)) rfl uwb rfl (fe0.ext ((((((((z19.t z20).t z21).t z22).t z23).t z24).t z25).t z26).t z27)))
theorem W.z8d {nz wz S0 w0 Lr} : ∀ a r, M.a2e a = some r → (L.z8d nz wz S0 w0 Lr) a r := (W.z8f).1
theorem W.z8e {nz wz S0 w0 Lr} : ∀ a r, M.a3z a = some r → (L.z8e nz wz S0 w0 Lr) a r := (W.z8f).2
def J1ew := Ys 11111111 B5 []
def J1ex := Ys 111111101 B5 J1ew
def J1ez := Ys 111111111 B5 []
def Q14r := Yq 111111110 B5
def L.z8g : (List T69) × (List Int) × T29 × Bool × (List (List (ByteArray × (List Int)))) → (Bool × (List (List (ByteArray × (List Int))))) → Prop := fun ⟨x2, x3, x4v, x54, e0⟩ r => ∀ S1 w1, Ext S0 w0 S1 w1 → ∀ Ax2 nx2 cx2 Ax3 nx3 cx3 gx4 u57 u58 u59 u5a uv9 Ee0 (_ : Hp nz wz S1 w1 ((some gx4, .row 30 (wT29 x4v.Op x4v.Text (Gp u57) u58 u59) 3 0) :: (u57, .row 30 u5a (u59 * kT29.size) uv9) :: (none, .seg 154 Ee0) :: Lr)) (_ : Rd kT69 S1 w1 Ax2 cx2 x2) (_ : x2.length = nx2) (_ : Rd kU S1 w1 Ax3 cx3 x3) (_ : x3.length = nx3) (_ : Els kT29 S1 w1 u5a x4v.L) (_ : x4v.L.length = u58) (_ : Pl (oMap Value.string (kSl kU)) S1 w1 Ee0 e0) (junk : Nat → Value),
 Goes Tg (base 5) J1ex ⟨lfr 135 [(2, .slice Ax2 nx2 cx2), (3, .slice Ax3 nx3 cx3), (4, (pt gx4 0)), (54, .bool x54)] junk, []⟩ w1 (Done Tg 5 (Rets (Post.z8a nz wz S0 w0 Lr r)))
theorem W.z8g {nz wz S0 w0 Lr} : ∀ a r, M.a6j a = some r → L.z8g nz wz S0 w0 Lr a r := by
 intro ⟨x2, x3, x4v, x54, e0⟩ r h S1 w1 hx Ax2 nx2 cx2 Ax3 nx3 cx3 gx4 u57 u58 u59 u5a uv9 Ee0 p1 fx2 lx2 fx3 lx3 u5l u5m fe0 junk
 rw [M.a6j] at h
 try dsimp only at h
 subst lx2
 subst lx3
 subst u5m
 refine Gi h (fun h27 h => ?_) fun h27 h => ?_
 ·
  rw [h27]
  refine Gn 5 [(8, .bool false)] (Ys 11111110101 B5 J1ew) ?_
  obtain rfl := sj h
  have p1 := (p1.dp 0).dp 0
  exact Xd Tryz.f5 (.bool false) ⟨_, _, rfl, hx, p1, fe0⟩
 ·
  rw [bf h27]
  refine Gn 4 [] (Zr Q14r [0, 1, 2, 3, 4] J1ez) ?_
  have p1 := p1.fr 2
  refine Gb h fun y28 e29 h => ?_
  refine Gc (kc 29 [] #[]) 55 62 29 _ (W.z23 e0 y28 e29 _ p1 fe0) ?_
  rintro _ w13 ⟨S13, uwd, uwe, uwf, rfl, z13, p13, uwg, uwh⟩
  refine Gn 1 [(56, .agg #[Sn])] (Zr Q14r [2, 3, 4] J1ez) ?_
  refine Ob 67 56 57 64 (.agg #[Sn]) [Sn] p13 Xa fun b31 w14 z14 p14 => ?_
  refine Gn 10 [(14, (pt uwd 0)), (15, (pt b31 0)), (16, .i 0)] J1eh ?_
  have p14 : Hp nz wz S13 w14 ((none, .row 166 [] (0 * kT165.size) 0) :: (some b31, .row 67 [Sn] 1 0) :: (some uwd, .row 158 [.map (some uwe)] 1 0) :: (none, .seg 154 uwf) :: (some gx4, .row 30 (wT29 x4v.Op x4v.Text (Gp u57) x4v.L.length u59) 3 0) :: (u57, .row 30 u5a (u59 * kT29.size) uv9) :: Lr) := p14.nilRow' 166
  have p14 := (((((p14.fr 3).fr 1).fr 2).fr 3).fr 5).fr 5
  exact Gj 135 [(2, Sl Ax2 x2 cx2), (3, Sl Ax3 x3 cx3), (4, (pt gx4 0)), (14, (pt uwd 0)), (15, (pt b31 0)), (16, .i 0)] (W.z8d _ _ h _ _ ((hx.t z13).t z14) _ _ _ _ _ _ _ _ _ _ _ _ _ _ _ none 0 0 [] _ p14 (fx2.ext (z13.t z14)) rfl (fx3.ext (z13.t z14)) rfl (u5l.ext (z13.t z14)) rfl (uwg.ext z14) (Els.nil (K := kT165)) rfl (uwh.ext z14))
def J1fa := Ys 111111 B5 []
def Q151 := Yq 111110 B5
def J1fd := Ys 1111111 B5 []
def Q153 := Yq 1111110 B5
theorem W.z8a (x0 : T29) (x1 : ByteArray) (x2 : List T69) (x3 : List Int) (u7e : List (List (ByteArray × (List Int)))) (r : Bool × (List (List (ByteArray × (List Int))))) (h : M.a6k x0 x1 x2 x3 u7e = some r) {nz wz S0 w0 Lr} (u5 u6 u7 Ax2 nx2 cx2 Ax3 nx3 cx3 u7f) (p0 : Hp nz wz S0 w0 ((none, .seg 154 u7f) :: Lr)) (um : Rd kT29 S0 w0 u5 u7 x0.L) (un : x0.L.length = u6) (fx2 : Rd kT69 S0 w0 Ax2 cx2 x2) (lx2 : x2.length = nx2) (fx3 : Rd kU S0 w0 Ax3 cx3 x3) (lx3 : x3.length = nx3) (u7g : Pl (oMap Value.string (kSl kU)) S0 w0 u7f u7e) :
  Calls Tg 5 #[(ag (wT29 x0.Op x0.Text u5 u6 u7)), .string x1, .slice Ax2 nx2 cx2, .slice Ax3 nx3 cx3] w0 (Rets (Post.z8a nz wz S0 w0 Lr r)) := by
 subst un
 subst lx2
 subst lx3
 refine Zf Tryz.f5 B5 131 ?_
 refine Gj 135 [(0, (ag (wT29 x0.Op x0.Text u5 x0.L.length u7))), (1, .string x1), (2, Sl Ax2 x2 cx2), (3, Sl Ax3 x3 cx3)] fun junk => ?_
 delta M.a6k at h
 refine Gn 2 [] (Yt 10 B5 [0, 1] (Ys 11 B5 [])) ?_
 refine Ob 30 0 4 0 ((ag (wT29 x0.Op x0.Text u5 x0.L.length u7))) (wT29 x0.Op x0.Text u5 x0.L.length u7) p0 Xa fun b1 w2 z2 p2 => ?_
 refine Gn 3 [(8, .bool false)] (Ys 110 B5 (Ys 111 B5 [])) ?_
 have z3 : Ext S0 w2 S0 (w2).drew := Xk
 have p3 := p2.draw
 refine Gd [] (Fc S0 (w2).drew []) 1 12 ?_
 generalize (w2).drew = w3 at z3 p3 ⊢
 refine Xb 0 (.move 1) 22 9 (.string x1) Fc0 ?_
 refine Xb 1 (.move 1) 23 9 (.string x1) Fc0 ?_
 refine Xb 2 (.call { callee := .builtin .len, args := #[23], argTypes := #[9] }) 24 3 (.i (x1.size : Int)) Fc0 ?_
 refine Xb 3 (.call { callee := .builtin .min, args := #[24, (.const (.int .i64 60))], argTypes := #[3, 3] }) 25 3 (.i (imn (x1.size : Int) 60)) Fc0 ?_
 refine Gg h fun g3 h => ?_
 refine Gg h fun g4 h => ?_
 refine AnyG.slS (i := 4) 9 22 none (some 25) 26 9 x1 0 (imn (x1.size : Int) 60) (by kernel_rfl) (by kernel_rfl) Fc0 (by kernel_rfl) (by kernel_rfl) Xv (Xt .i64 (by kernel_rfl)) (by decide : (0 : Int) ≤ 0) g3 g4 ?_
 refine Xb 5 (.move 3) 27 60 (Sl Ax3 x3 cx3) Fc0 ?_
 refine Xb 6 (.move 3) 28 60 (Sl Ax3 x3 cx3) Fc0 ?_
 refine Xb 7 (.call { callee := .builtin .len, args := #[28], argTypes := #[60] }) 29 3 (.i (x3.length : Int)) Fc0 ?_
 refine Xb 8 (.call { callee := .builtin .min, args := #[29, (.const (.int .i64 30))], argTypes := #[3, 3] }) 30 3 (.i (imn (x3.length : Int) 30)) Fc0 ?_
 refine Gg h fun g5 h => ?_
 refine Gg h fun g6 h => ?_
 refine AnyG.slR_n (i := 9) 60 27 none (some 30) 31 60 22 0 (imn (x3.length : Int) 30) (sl x3 0 (imn (x3.length : Int) 30)) rfl rfl (fx3.ext (z2.t z3)) (by kernel_rfl) (by kernel_rfl) Fc0 (by kernel_rfl) (by kernel_rfl) (by kernel_rfl) Xv (Xt .i64 (by kernel_rfl)) (by decide : (0 : Int) ≤ 0) g5 g6 fun A7 c8 f9 => ?_
 refine Xb 10 (.assign 26) 1 9 (.string (ss x1 0 (imn (x1.size : Int) 60))) Fc0 ?_
 refine Xb 11 (.assign 31) 3 60 (.slice A7 ((sl x3 0 (imn (x3.length : Int) 30)).length) c8) Fc0 ?_
 refine Ad ?_
 refine Gn 2 [] (Yt 1110 B5 [0, 1] (Ys 1111 B5 [])) ?_
 refine Oa 3 9 0 (.i 0) [.i 0] p3 Xa fun b10 w4 z4 p4 => ?_
 refine So 3 9 (.const (.int .i64 60)) 0 0 b10 0 (.i 60) [.i 60] p4 rfl Xe fun w5 z5 p5 => ?_
 refine Gn 3 [] (Yt 11110 B5 [0, 1, 2] (Ys 11111 B5 [])) ?_
 refine Xg 30 4 32 30 ⟨b1, 0, none⟩ (wT29 x0.Op x0.Text u5 x0.L.length u7) (p5.pa 1 0) ?_
 refine Gb h fun y12 e13 h => ?_
 refine Gc (.call { callee := .value (.func 12), args := #[32, (.const (.int .i64 9)), 9], argTypes := #[30, 3, 33] }) 33 30 12 _ (W.z0 (x0, 9, 60) y12 e13 _ _ _ _ p5 (um.ext (((z2.t z3).t z4).t z5)) rfl) ?_
 rintro _ w6 ⟨S6, uwi, um2, um3, uwj, rfl, z6, p6, um5, rfl⟩
 have p6 := p6.dp 1
 refine So 30 4 33 0 1 b1 0 ((ag (wT29 y12.1.Op y12.1.Text (Gp uwi) y12.1.L.length um3))) (wT29 y12.1.Op y12.1.Text (Gp uwi) y12.1.L.length um3) p6 rfl Xe fun w7 z7 p7 => ?_
 refine Gn 3 [] (Zr Q151 [0, 1, 2, 3, 4, 5, 6, 7] J1fa) ?_
 refine Xg 30 4 35 30 ⟨b1, 0, none⟩ (wT29 y12.1.Op y12.1.Text (Gp uwi) y12.1.L.length um3) (p7.pa 1 0) ?_
 refine Gn 1 [(36, .string (ss x1 0 (imn (x1.size : Int) 60)))] (Zr Q151 [2, 3, 4, 5, 6, 7] J1fa) ?_
 obtain ⟨S8, z8, p8, f15⟩ := p7.freezeRd 0 rfl (um5.ext z7) (by decide)
 refine Gb h fun y16 e17 h => ?_
 refine Gc (kc 27 [35, 36] #[30, 9]) 37 56 27 _ (W.z16 y12.1 (ss x1 0 (imn (x1.size : Int) 60)) y16 e17 _ _ _ p8 f15 rfl) ?_
 rintro _ w9 ⟨S9, rfl, z9, p9⟩
 refine Gm 8 [([34], .tuple #[.bool y16.1, .i y16.2]), ([38, 10], .bool y16.1), ([39, 11], .i y16.2)] (Zr Q153 [0, 1, 2, 3, 4, 5, 6, 7, 8] J1fd) ?_
 refine Xg 30 4 41 30 ⟨b1, 0, none⟩ (wT29 y12.1.Op y12.1.Text (Gp uwi) y12.1.L.length um3) (p9.pa 1 0) ?_
 refine Gb h fun y18 e19 h => ?_
 refine Gc (.call { callee := .value (.func 19), args := #[41, (.const (.int .i64 20))], argTypes := #[30, 3] }) 42 39 19 _ (W.z17 (y12.1, 20) y18 e19 _ _ _ p9 (f15.ext z9) rfl) ?_
 rintro _ w10 ⟨S10, uwk, um8, um9, uwl, rfl, z10, p10, umb, rfl⟩
 refine Gn 1 [(43, .string (ss x1 0 (imn (x1.size : Int) 60)))] (Zr Q153 [3, 4, 5, 6, 7, 8] J1fd) ?_
 obtain ⟨S11, z11, p11, f21⟩ := p10.freezeRd 0 rfl umb (by decide)
 refine Gb h fun y22 e23 h => ?_
 refine Gc (kc 28 [42, 43] #[39, 9]) 44 56 28 _ (W.z22 y18 (ss x1 0 (imn (x1.size : Int) 60)) y22 e23 _ _ _ p11 f21 rfl) ?_
 rintro _ w12 ⟨S12, rfl, z12, p12⟩
 have p12 := p12.dp 0
 refine Gm 13 [([40], .tuple #[.bool y22.1, .i y22.2]), ([45, 12, 48], .bool y22.1), ([46, 13], .i y22.2), ([47], .bool y16.1), ([49, 50], .bool (!(y16.1 == y22.1)))] (Yt 111111100 B5 [4, 5, 6, 7] J1ex) ?_
 refine Gi h (fun h24 h => ?_) fun h24 h => ?_
 ·
  rw [h24]
  refine Gm 5 [([51], .i y16.2), ([52], .i y22.2), ([53, 54], .bool (!(decide (y16.2 = y22.2))))] J1ex ?_
  have p12 := ((p12.fr 2).fr 1).fr 2
  exact Gj 135 [(2, Sl Ax2 x2 cx2), (3, .slice A7 ((sl x3 0 (imn (x3.length : Int) 30)).length) c8), (4, (pt b1 0)), (54, .bool (!(decide (y16.2 = y22.2))))] (W.z8g _ _ h _ _ ((((((((((z2.t z3).t z4).t z5).t z6).t z7).t z8).t z9).t z10).t z11).t z12) _ _ _ _ _ _ _ _ _ _ _ _ _ p12 (fx2.ext ((((((((((z2.t z3).t z4).t z5).t z6).t z7).t z8).t z9).t z10).t z11).t z12)) rfl (f9.ext ((((((((z4.t z5).t z6).t z7).t z8).t z9).t z10).t z11).t z12)) rfl (um5.ext (((((z7.t z8).t z9).t z10).t z11).t z12)) rfl (u7g.ext ((((((((((z2.t z3).t z4).t z5).t z6).t z7).t z8).t z9).t z10).t z11).t z12)))
 ·
  rw [bf h24]
  refine Gm 5 [([51, 52, 53], undef), ([54], .bool true)] J1ex ?_
  have p12 := ((p12.fr 2).fr 1).fr 2
  exact Gj 135 [(2, Sl Ax2 x2 cx2), (3, .slice A7 ((sl x3 0 (imn (x3.length : Int) 30)).length) c8), (4, (pt b1 0)), (54, .bool true)] (W.z8g _ _ h _ _ ((((((((((z2.t z3).t z4).t z5).t z6).t z7).t z8).t z9).t z10).t z11).t z12) _ _ _ _ _ _ _ _ _ _ _ _ _ p12 (fx2.ext ((((((((((z2.t z3).t z4).t z5).t z6).t z7).t z8).t z9).t z10).t z11).t z12)) rfl (f9.ext ((((((((z4.t z5).t z6).t z7).t z8).t z9).t z10).t z11).t z12)) rfl (um5.ext (((((z7.t z8).t z9).t z10).t z11).t z12)) rfl (u7g.ext ((((((((((z2.t z3).t z4).t z5).t z6).t z7).t z8).t z9).t z10).t z11).t z12)))
end
end Go.Gx
